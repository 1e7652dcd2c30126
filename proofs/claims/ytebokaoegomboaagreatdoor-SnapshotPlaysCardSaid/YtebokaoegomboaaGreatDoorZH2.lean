/-
 What the statements of this seat hang on,part 2: Rc Rd Ru Re Rf Rg Rh Rv Ri Rj Rk.
-/
import Derived.Test.YtebokaoegomboaaGreatDoorZH1
import Derived.Lib.AppendStr
namespace Go
namespace Rt
open Go.RowKit
section
variable{P:Program}{E:TE}{z:Fz}{g:Ga}
def constC(E:TE):Value->Option (SC E) | .int k n=>some (.dt (.int k) n) | .bool b=>some (.dt .bool b) | .string s=>some (.dt .str s.data.toList) | .slice none 0 0=>some .nils | .pointer none=>some .nilp | .nilIface=>some .nif|_=>none
theorem rB_{v:Value}{c:SC E}(h:constC E v=some c):RC P E z g c v:=by
 unfold constC at h;split at h
 .obtain rfl:=qSj h;exact .int .nil
 .obtain rfl:=qSj h;exact .bool .nil
 .obtain rfl:=qSj h;exact .str .nil
 .obtain rfl:=qSj h;rfl
 .obtain rfl:=qSj h;rfl
 .obtain rfl:=qSj h;rfl
 .cases h
def k2_(E:TE):List Value->Option (List (SC E))
 | []=>some []
 | v::r=>match constC E v with
  | none=>none
  | some c=>match k2_ E r with
   | none=>none
   | some l=>some (c::l)
theorem h0_:∀{vs:List Value} {l:List (SC E)},k2_ E vs=some l->All2 (RC P E z g) l vs
 | [],l,h=>by simp only[k2_,qOi]at h;subst h;exact .nil
 | v::r,l,h=>by
  simp only[k2_]at h;split at h
  .cases h
  .rename_i c j;split at h
   .cases h
   .rename_i m f;obtain rfl:=qSj h;exact .cons (rB_ j) (h0_ f)
def constV(E:TE):Value->Option (SV E)
 | .agg cs=>match k2_ E cs.toList with
  | some l=>some (.v (.agg l))
  | none=>none
 | v=>match constC E v with
  | some c=>some (.v (.one c))
  | none=>none
theorem constV_ok{v:Value}{s:SV E}(h:constV E v=some s):RV P E z g s v:=by
 unfold constV at h;split at h
 .split at h
  .rename_i l f;obtain rfl:=qSj h;exact⟨_,rfl,h0_ f⟩
  .cases h
 .split at h
  .rename_i c j;obtain rfl:=qSj h;exact rB_ j
  .cases h
def opS(E:TE)(L:Nat->Option (SV E)):Operand->Option (SV E)
 | .tmp t=>L t
 | .const v=>constV E v
 | .func f=>some (.v (.one (.clo f [])))
 | .global n=>match E.gl n with
  | some q=>some (.v (.one (.elf q.1 q.2 0)))
  | none=>none
structure ER(P:Program)(E:TE)(z:Fz)(g:Ga)(N:Nat)(a:Act)(L:Nat->Option (SV E)):Prop where
 size:a.tmps.size=N
 defers:a.defers=[]
 get:∀t s,L t=some s->∃v,a.tmps[t]? = some v/\RV P E z g s v
abbrev OpR(P:Program)(E:TE)(z:Fz)(g:Ga)(L:Nat->Option (SV E))(ρ:Operand->Value):Prop:=∀x s,opS E L x=some s->RV P E z g s (ρ x)
theorem ER.op{N:Nat}{a:Act}{L:Nat->Option (SV E)}(h:ER P E z g N a L)(p:Glo E z):OpR P E z g L a.eval:=by
 intro x s m;cases x with
 | tmp t =>
  obtain⟨v,J,G⟩:=h.get t s m;simpa[Act.eval,J]using G
 | const v=>exact constV_ok m
 | global n =>
  simp only[opS]at m;split at m
  .rename_i q C;obtain rfl:=qSj m;obtain⟨F,r,hr,D,_⟩:=p n q.1 q.2 C;exact⟨n,0,r,rfl,F,hr,λj u y=>by rw[qo];exact D j u y⟩
  .cases m
 | func f =>
  obtain rfl:=qSj m;exact⟨[],rfl,.nil⟩
theorem ER.less{N:Nat}{a:Act}{L L':Nat->Option (SV E)}(h:ER P E z g N a L)(f:∀t s,L' t=some s->L t=some s):ER P E z g N a L' :=
 ⟨h.size,h.defers,λt s e=>h.get t s (f t s e)⟩
theorem ER.le{z':Fz}{g':Ga}{N:Nat}{a:Act}{L:Nat->Option (SV E)}(h:ER P E z g N a L)(f:z.Le z')(j:g.Le g'):ER P E z' g' N a L :=
 ⟨h.size,h.defers,λt s e=>let ⟨v,p,m⟩:=h.get t s e;⟨v,p,m.le f j⟩⟩
theorem ER.put{N:Nat}{a:Act}{L L':Nat->Option (SV E)}(h:ER P E z g N a L){d:Nat}(p:Nat.blt d N=true){s:SV E}{v:Value}(m:RV P E z g s v)
  (q:∀t u,L' t=some u->(t=d/\u=s)\/(t≠d/\L t=some u)):ER P E z g N (a.put (some d) v) L':=by
 have f:d<N:=by simpa using p
 refine⟨by simpa[Act.put]using h.size,h.defers,λt u e => ?_⟩;rcases q t u e with⟨rfl,rfl⟩|⟨D,C⟩
 .exact⟨v,by simp[Act.put,h.size,f],m⟩
 .obtain⟨j,y,x⟩:=h.get t u C;refine⟨j,?_,x⟩;simp only[Act.put];rw[jg (Ne.symm D)];exact y
def SV.int? : SV E->Option (IntKind×Int) | .v (.one (.dt (.int k) n))=>some (k,n)|_=>none
def SV.str? : SV E->Option Str | .v (.one (.dt .str s))=>some s|_=>none
def SV.bool? : SV E->Option Bool | .v (.one (.dt .bool b))=>some b|_=>none
def SV.cells? : SV E->Option (List (SC E)) | .v (.one c)=>some [c] | .v (.agg l)=>some l|_=>none
theorem SV.int_ok{s:SV E}{v:Value}{k:IntKind}{n:Int}(h:s.int? = some (k,n))(r:RV P E z g s v):v = .int k n:=by
 unfold SV.int? at h;split at h
 .simp only[qOi,qF]at h;obtain⟨rfl,rfl⟩:=h;obtain⟨vs,e,r⟩:=RD.int_inv (r:RD E z _ _ [v]);simp at e;exact e.1
 .cases h
theorem SV.str_ok{s:SV E}{v:Value}{x:Str}(h:s.str? = some x)(r:RV P E z g s v):v=S x:=by
 unfold SV.str? at h;split at h
 .simp only[qOi]at h;subst h;obtain⟨vs,e,r⟩:=RD.str_inv (r:RD E z _ _ [v]);simp at e;exact e.1
 .cases h
theorem SV.bool_ok{s:SV E}{v:Value}{b:Bool}(h:s.bool? = some b)(r:RV P E z g s v):v = .bool b:=by
 unfold SV.bool? at h;split at h
 .simp only[qOi]at h;subst h;obtain⟨vs,e,r⟩:=RD.bool_inv (r:RD E z _ _ [v]);simp at e;exact e.1
 .cases h
theorem SV.cells_ok{s:SV E}{v:Value}{l:List (SC E)}(h:s.cells? = some l)(r:RV P E z g s v):All2 (RC P E z g) l v.cells.toList:=by
 unfold SV.cells? at h;split at h
 .rename_i c;obtain rfl:=qSj h;have f:=RC.cell (c:=c) r;have:v.cells = #[v]:=by cases v<;>first|rfl|cases f
  rw[this];exact .cons r .nil
 .obtain rfl:=qSj h;obtain⟨vs,rfl,r⟩:=r;exact r
 .cases h
def SV.val? : SV E->Option Value | .v (.one (.dt (.int k) n))=>some (.int k n) | .v (.one (.dt .bool b))=>some (.bool b) | .v (.one (.dt .str s))=>some (S s)|_=>none
theorem SV.val_ok{s:SV E}{v u:Value}(h:s.val? = some u)(r:RV P E z g s v):v=u:=by
 unfold SV.val? at h;split at h
 .obtain rfl:=qSj h;exact SV.int_ok rfl r
 .obtain rfl:=qSj h;exact SV.bool_ok rfl r
 .obtain rfl:=qSj h;exact SV.str_ok rfl r
 .cases h
abbrev Up(E:TE):=Option (Nat×Obj E)
def UpOK(P:Program)(E:TE)(g g':Ga)(H:Nat->Option (Obj E)):Up E->Prop|none=>g'=g|some (i,o')=>∃o,H i=some o/\(∀z w,ObjR P E z g w i o->ObjR P E z g' w i o')/\∀k,fpO g' i o' k↔fpO g i o k
def Stands(z:Fz)(g:Ga){E:TE}(H:Nat->Option (Obj E))(W w:World):Prop:=z.In w/\∀id o k,H id=some o->fpO g id o k->w.heap[k]? = W.heap[k]?
theorem Stands.hold{P:Program}{E:TE}{z:Fz}{g:Ga}{H:Nat->Option (Obj E)}{Bs:List Nat}{F0:Nat->Prop}{w0 W w:World}(h:Stands z g H W w)(j:HR P E Bs F0 w0 W z g H):∀id o,H id=some o->ObjR P E z g w id o :=
 λid o e=>(j.hold id o e).keep (Fz.Le.refl z) (Ga.Le.refl g) λk f=>h.2 id o k e f
theorem Stands.of_ext{P:Program}{E:TE}{z:Fz}{g:Ga}{H:Nat->Option (Obj E)}{Bs:List Nat}{F0:Nat->Prop}{w0 W w:World}(f:HR P E Bs F0 w0 W z g H)(h:Ext W w):Stands z g H W w :=
 ⟨f.fz.ext h,λid o k e j=>h.below.block k ((f.hold id o e).lt j)⟩
theorem Stands.refl{P:Program}{E:TE}{z:Fz}{g:Ga}{H:Nat->Option (Obj E)}{Bs:List Nat}{F0:Nat->Prop}{w0 W:World}(f:HR P E Bs F0 w0 W z g H):Stands z g H W W:=⟨f.fz,λ_ _ _ _ _=>rfl⟩
def Good(P:Program)(E:TE)(z:Fz)(g:Ga)(nx:Nat)(I:World->Prop)(H:Nat->Option (Obj E))(ρ:Operand->Value)(o:Oper){R:Type}(k:SV E->Up E->Option R)(r:R):Prop:=∃s v up g',k s up=some r/\g.Le g'/\(∀i,i≠nx->g' i=g i)/\RV P E z g' s v/\(∀w',I w'->(execOp ρ o).run P w' = .ok (.value v) w')/\UpOK P E g g' H up
section
variable{L:Nat->Option (SV E)}{H:Nat->Option (Obj E)}{ρ:Operand->Value}{W w0:World}{I:World->Prop}{o:Oper}{R:Type}{k:SV E->Up E->Option R}{r:R}{Bs:List Nat}{F0:Nat->Prop}{nx:Nat}
theorem Good.plain{s:SV E}{v:Value}(h:k s none=some r)(f:RV P E z g s v)(hr:∀w',(execOp ρ o).run P w' = .ok (.value v) w'):Good P E z g nx I H ρ o k r :=
 ⟨s,v,none,g,h,Ga.Le.refl g,λ_ _=>rfl,f,λw' _=>hr w',rfl⟩
def ρS(E:TE)(L:Nat->Option (SV E))(x:Operand):Value:=((opS E L x).bind SV.val?).getD undef
def knownS(E:TE)(L:Nat->Option (SV E)):List Operand->Bool
 | []=>true
 | x::l=>(match(opS E L x).bind SV.val? with|some _=>true|none=>false)&&knownS E L l
theorem uq_(hρ:OpR P E z g L ρ):∀{l:List Operand},knownS E L l=true->∀x∈l,ρ x=ρS E L x
 | [],_,x,f=>by cases f
 | y::l,h,x,f=>by
  simp only[knownS,qAn]at h;rcases qW.1 f with rfl|f
  .cases j:opS E L x with
   | none=>rw[j]at h;simp at h
   | some s =>
    rw[j]at h;cases m:s.val? with
    | none=>rw[qBs,m]at h;simp at h
    | some u=>rw[SV.val_ok m (hρ x s j)];simp[ρS,j,m]
  .exact uq_ hρ h.2 x f
def mV_(P:Program)(E:TE)(L:Nat->Option (SV E))(o:Oper){R:Type}(k:SV E->Up E->Option R):Option R :=
 match knownS E L o.op.operands.toList && !isSelect o.op with
 | true=>match eq_ P (execOp (ρS E L) o)with
  | some (.value v)=>match constV E v with
   | some s=>k s none
   | none=>none
  | _=>none
 | false=>none
theorem jt_(hρ:OpR P E z g L ρ)(h:mV_ P E L o k=some r):Good P E z g nx I H ρ o k r:=by
 unfold mV_ at h;split at h
 .rename_i f;simp only[qAn,qL]at f;have q:execOp ρ o=execOp (ρS E L) o:=by
   refine execOp_congr o (λcs b e => ?_) λx j => ?_
   .rw[e]at f;simp[isSelect]at f
   .exact uq_ hρ f.1 x (by simpa using j)
  split at h
  .rename_i v m;split at h
   .rename_i s p;exact .plain h (constV_ok p) λw'=>by rw[q];exact fN_ m w'
   .cases h
  .cases h
 .cases h
def qMove(E:TE)(L:Nat->Option (SV E))(x:Operand){R:Type}(k:SV E->Up E->Option R):Option R:=match opS E L x with|some s=>k s none|none=>none
theorem qb_{x:Operand}(f:o.op = .move x\/o.op = .assign x)(hρ:OpR P E z g L ρ)(h:qMove E L x k=some r):Good P E z g nx I H ρ o k r:=by
 unfold qMove at h;split at h
 .rename_i s j;refine .plain h (hρ x s j) λw' => ?_
  unfold execOp;rcases f with f|f<;>rw[f]<;>rfl
 .cases h
def SC.sure:SC E->Bool | .ptr .. | .elo .. | .elf .. => true | .fn1 .. | .fn2 .. | .clo .. => true|_=>false
def qNil(E:TE)(L:Nat->Option (SV E))(x:Operand){R:Type}(k:SV E->Up E->Option R):Option R:=match opS E L x with
 | some (.v (.one c))=>match c.sure with
  | true=>k (.v (.one c)) none
  | false=>none
 | _=>none
theorem qNil_ok{x:Operand}(m:o.op = .nilCheck x)(hρ:OpR P E z g L ρ)(h:qNil E L x k=some r):Good P E z g nx I H ρ o k r:=by
 unfold qNil at h;split at h
 .rename_i c j;split at h
  .rename_i p;have hr:=hρ x _ j;refine .plain h hr λw' => ?_
   unfold execOp;rw[m];simp only;generalize ρ x=v at hr;cases c with
   | ptr id off=>obtain⟨l,_,rfl⟩:=hr;rfl
   | elo id q i off=>obtain⟨l,_,_,rfl⟩:=hr;rfl
   | elf t y off=>obtain⟨b,q,rr,rfl,_⟩:=hr;rfl
   | fn1 a q f=>obtain⟨fid,caps,rfl,_⟩:=hr;rfl
   | fn2 a b q f=>obtain⟨fid,caps,rfl,_⟩:=hr;rfl
   | clo f caps=>obtain⟨us,rfl,_⟩:=hr;rfl
   | _=>cases p
  .cases h
 .cases h
def qc_(E:TE)(L:Nat->Option (SV E))(x:Operand)(i:Nat){R:Type}(k:SV E->Up E->Option R):Option R:=match opS E L x with
 | some (.tup l)=>match l[i]? with
  | some y=>k (.v y) none
  | none=>none
 | _=>none
theorem tf_{x:Operand}{i:Nat}(q:o.op = .extract x i)(hρ:OpR P E z g L ρ)(h:qc_ E L x i k=some r):Good P E z g nx I H ρ o k r:=by
 unfold qc_ at h;split at h
 .rename_i l p;split at h
  .rename_i y j;obtain⟨vs,e,hr⟩:=hρ x _ p;obtain⟨u,m,f⟩:=hr.get j;refine .plain h (v:=u) f λw' => ?_
   unfold execOp;rw[q];simp only[e];simp[Instr.extract,m]
  .cases h
 .cases h
def loadC(P:Program)(T:TypeId)(l:List (SC E))(off:Nat):Option (V1 E) :=
 match aggB P T,bq_ P T with
 | some true,some n=>match Nat.ble (off+n) l.length with|true=>some (.agg ((l.drop off).take n))|false=>none
 | some false,_=>match l[off]? with|some c=>some (.one c)|none=>none
 | _,_=>none
theorem ty_{T:TypeId}{l:List (SC E)}{off:Nat}{x:V1 E}{vs:List Value}(h:loadC P T l off=some x)(m:All2 (RC P E z g) l vs):∃v,k0_ P T vs off=some v/\R1 P E z g x v:=by
 unfold loadC at h;unfold k0_;cases p:aggB P T with
 | none=>rw[p]at h;cases h
 | some b =>
  rw[p]at h;cases b with
  | true =>
   cases j:bq_ P T with
   | none=>rw[j]at h;cases h
   | some n =>
    rw[j]at h;have f:(P.info? T).map (·.size)=some n:=j;rw[f];simp only at h ⊢;rw[←m.len];split at h
    .rename_i y;obtain rfl:=qSj h;rw[y];exact⟨_,rfl,_,rfl,(m.drop off).take n⟩
    .cases h
  | false =>
   simp only at h ⊢;split at h
   .rename_i c s;obtain rfl:=qSj h;obtain⟨u,q,hr⟩:=m.get s;exact⟨u,q,hr⟩
   .cases h
theorem part_run{T:TypeId}{vs:List Value}{off:Nat}{v:Value}(h:k0_ P T vs off=some v)(w:World):(part T vs.toArray off).run P w = .ok v w:=by
 unfold k0_ at h;cases f:aggB P T with
 | none=>rw[f]at h;cases h
 | some b =>
  rw[f]at h;cases b with
  | true =>
   cases hi:P.info? T with
   | none=>simp[hi]at h
   | some i =>
    simp only[hi,qM]at h;split at h
    .rename_i j;obtain rfl:=qSj h;simp[part,Sem.run_bind,nF_ f,sizeOf,typeInfo,hi]
    .cases h
  | false =>
   simp only at h;simp[part,Sem.run_bind,nF_ f,h]
def qField(P:Program)(E:TE)(L:Nat->Option (SV E))(T:TypeId)(x:Operand)(f:Nat){R:Type}(k:SV E->Up E->Option R):Option R :=
 match P.underlying T,opS E L x with
 | some (.struct fs),some (.v (.agg l))=>match fs[f]? with
  | some q=>match loadC P q.type l q.offset with
   | some y=>k (.v y) none
   | none=>none
  | none=>none
 | _,_=>none
theorem qField_ok{x:Operand}{T:TypeId}{f:Nat}(D:o.op = .field T x f)(hρ:OpR P E z g L ρ)(h:qField P E L T x f k=some r):Good P E z g nx I H ρ o k r:=by
 unfold qField at h;split at h
 .rename_i fs l s u;split at h
  .rename_i q C;split at h
   .rename_i y m;obtain⟨vs,e,hr⟩:=hρ x _ u;obtain⟨v,p,j⟩:=ty_ m hr;refine .plain h (v:=v) j λw' => ?_
    unfold execOp;rw[D];simp only[e];simp[Instr.field,run_underlying s,C,asAgg,part_run p]
   .cases h
  .cases h
 .cases h
def behind(E:TE)(H:Nat->Option (Obj E)):SC E->Option (List (SC E)×Nat)
 | .ptr id off=>match H id with
  | some (.box _ cs)=>some (cs,off)
  | some (.fb t x)=>some (E.cells t x,off)
  | _=>none
 | .elo id q _ off=>match H id with
  | some (.row _ t _ foc)=>match foc.find? λp=>Nat.beq p.1 q with
   | some p=>some (E.cells t p.2.2,off)
   | none=>none
  | _=>none
 | .elf t x off=>some (E.cells t x,off)
 | _=>none
theorem behind_ok{c:SC E}{l:List (SC E)}{off:Nat}{v:Value}(hH:HR P E Bs F0 w0 W z g H)(h:behind E H c=some (l,off))(hr:RC P E z g c v) :
  ∃b base vs,v = .pointer (some ⟨b,base+off,none⟩)/\All2 (RC P E z g) l vs/\∀w',Stands z g H W w'->∀j u,vs[j]? = some u->w'.cell? ⟨b,base+j,none⟩=some u:=by
 cases c with
 | ptr id off' =>
  simp only[behind]at h;split at h
  .rename_i T cs F;simp only[qOi,qF]at h;obtain⟨rfl,rfl⟩:=h;obtain⟨lo,M,rfl⟩:=hr;refine⟨lo.b,0,?_⟩;obtain⟨lo',vs,J,Z,h4⟩:=hH.hold _ _ F;rw[M]at J;obtain rfl:=qSj J;refine⟨vs,by rw[qo],h4,λw' O j u C => ?_⟩;have hh:w'.heap[lo.b]? = some (.cells vs.toArray T (0,0)):=by rw[O.2 _ _ _ F ⟨lo,M,rfl⟩];exact Z
   rw[qo,cell_of_row w' lo.b j vs.toArray T (0,0) hh];simpa using C
  .rename_i t x F;simp only[qOi,qF]at h;obtain⟨rfl,rfl⟩:=h;obtain⟨lo,M,rfl⟩:=hr;obtain⟨lo',rr,J,hF,m,f⟩:=hH.hold _ _ F;rw[M]at J;obtain rfl:=qSj J;refine⟨lo.b,0,rr,by rw[qo],cells_rd.1 m,λw' O j u C => ?_⟩;rw[qo,World.cell?_of_block (w:=z.w) (O.1 lo.b hF).2];exact f j u C
  .cases h
 | elo id q ii off' =>
  simp only[behind]at h;split at h
  .rename_i e t xs foc F;split at h
   .rename_i p hp;simp only[qOi,qF]at h;obtain⟨rfl,rfl⟩:=h;obtain⟨lq,M,_,rfl⟩:=hr;obtain⟨lo,rows,J,hn,hc,U,s,ZZ,D,Y⟩:=hH.hold _ _ F;have ZY:p.1=q:=qNb (by simpa using jW hp);obtain⟨hg,lq',o',Z,hA,ZW,_⟩:=Y p (zH hp);rw[ZY,M]at Z;obtain rfl:=qSj Z;obtain⟨h0,O,ZX⟩:=ge_ hg;have V:p.2.1.toNat<rows.length:=by rw[s,hn];exact ZX
    have m:=D p.2.1.toNat p.2.2 _ O (qQ V);have hs:=ht_ (w:=W) (e:=e) (cap:=lo.cap) ⟨U,s,ZZ⟩;obtain⟨b',off2,G,_,f⟩:=hs.2 (by omega);rw[hA]at G;simp only[qOi,Addr.mk.injEq]at G;obtain⟨rfl,rfl,_⟩:=G;refine⟨lq.b,lq.n,_,rfl,cells_rd.1 m,λw' y j u C => ?_⟩;rw[World.cell?_of_block (w:=W) (y.2 _ _ lq.b F ⟨lo,_,J,hA,rfl⟩),ZW];exact(f p.2.1.toNat _ (qQ V)).2 j u C
   .cases h
  .cases h
 | elf t x off' =>
  simp only[behind,qOi,qF]at h;obtain⟨rfl,rfl⟩:=h;obtain⟨b,q,rr,rfl,hF,m,f⟩:=hr;refine⟨b,q,rr,rfl,cells_rd.1 m,λw' y j u C => ?_⟩;have hz:=y.1 b hF;rw[World.cell?_of_block (w:=z.w) hz.2];exact f j u C
 | _=>cases h
def dtsC(κ : IntKind):List (SC E)->Option (List Int)
 | []=>some []
 | .dt (.int κ') n::l=>match decide (κ' = κ),dtsC κ l with
  | true,some r=>some (n::r)
  | _,_=>none
 | _=>none
theorem tz_{κ : IntKind}:∀{l:List (SC E)} {xs:List Int} {vs:List Value} {i:Nat} {x:Int},dtsC κ l=some xs->All2 (RC P E z g) l vs->xs[i]? = some x->vs[i]? = some (.int κ x)
 | [],xs,vs,i,x,h,_,f=>by simp only[dtsC,qOi]at h;subst h;simp at f
 | c :: l,xs,vs,i,x,h,hr,f=>by
  cases hr with
  | cons s q =>
   unfold dtsC at h;split at h
   .rename_i f;cases f
   .rename_i κ' n y m;injection m with m u;subst m;subst u;split at h
    .rename_i r p j;simp only[qDe]at p;subst p;obtain rfl:=qSj h;cases i with
     | zero =>
      simp only[je,qOi]at f;subst f;obtain⟨vs',e,_⟩:=RD.int_inv (s:RD E z _ _ [_]);simp only[List.cons.injEq]at e;simp[e.1]
     | succ i =>
      simp only[List.getElem?_cons_succ]at f ⊢;exact tz_ j q f
    .cases h
   .cases h
def sF_(E:TE)(H:Nat->Option (Obj E)):SC E->Option (List (SC E)×Int)
 | .pix id i=>match H id with
  | some (.box _ cs)=>some (cs,i)
  | _=>none
 | .efx t x i=>some (E.cells t x,i)
 | _=>none
theorem behindI_ok{c:SC E}{l:List (SC E)}{i:Int}{v:Value}(J:HR P E Bs F0 w0 W z g H)(h:sF_ E H c=some (l,i))(hr:RC P E z g c v) :
  ∃b base vs,v = .pointer (some ⟨b,base+i.toNat,none⟩)/\All2 (RC P E z g) l vs/\∀w',Stands z g H W w'->∀j u,vs[j]? = some u->w'.cell? ⟨b,base+j,none⟩=some u:=by
 cases c with
 | pix id i' =>
  simp only[sF_]at h;split at h
  .rename_i T cs y;simp only[qOi,qF]at h;obtain⟨rfl,rfl⟩:=h;obtain⟨lo,D,rfl⟩:=hr;refine⟨lo.b,0,?_⟩;obtain⟨lo',vs,C,U,O⟩:=J.hold _ _ y;rw[D]at C;obtain rfl:=qSj C;refine⟨vs,by rw[qo],O,λw' F j u p => ?_⟩;have G:w'.heap[lo.b]? = some (.cells vs.toArray T (0,0)):=by rw[F.2 _ _ _ y ⟨lo,D,rfl⟩];exact U
   rw[qo,cell_of_row w' lo.b j vs.toArray T (0,0) G];simpa using p
  .cases h
 | efx t x i' =>
  simp only[sF_,qOi,qF]at h;obtain⟨rfl,rfl⟩:=h;obtain⟨b,q,rr,rfl,M,s,f⟩:=hr;refine⟨b,q,rr,rfl,cells_rd.1 s,λw' m j u p => ?_⟩;rw[World.cell?_of_block (w:=z.w) (m.1 b M).2];exact f j u p
 | _=>cases h
def qLoadI(P:Program)(E:TE)(H:Nat->Option (Obj E))(T:TypeId)(c:SC E){R:Type}(k:SV E->Up E->Option R):Option R :=
 match sF_ E H c,aggB P T with
 | some q,some false=>match dtsC .u32 q.1 with
  | some xs=>Option.bind (an_ xs q.2) λy=>k (.v (.one (.dt (.int .u32) y))) none
  | none=>none
 | _,_=>none
def qLoad(P:Program)(E:TE)(L:Nat->Option (SV E))(H:Nat->Option (Obj E))(T:TypeId)(x:Operand){R:Type}(k:SV E->Up E->Option R):Option R :=
 match opS E L x with
 | some (.v (.one c))=>match behind E H c with
  | some (l,off)=>match loadC P T l off with
   | some y=>k (.v y) none
   | none=>none
  | none=>qLoadI P E H T c k
 | _=>none
theorem qLoad_ok{x:Operand}{T:TypeId}(M:o.op = .load T x)(hρ:OpR P E z g L ρ)(U:HR P E Bs F0 w0 W z g H)(O:∀w',I w'->Stands z g H W w')(h:qLoad P E L H T x k=some r):Good P E z g nx I H ρ o k r:=by
 unfold qLoad at h;split at h
 .rename_i c J;split at h
  .rename_i l off G;split at h
   .rename_i y j;obtain⟨b,base,vs,s,D,F⟩:=behind_ok U G (hρ x _ J);obtain⟨v,C,u⟩:=ty_ j D;exact⟨_,v,none,g,h,Ga.Le.refl g,λ_ _=>rfl,u,λw' p=>run_load M s (o4_ C (F w' (O w' p))),rfl⟩
   .cases h
  .unfold qLoadI at h;split at h
   .rename_i q G Z;split at h
    .rename_i xs m;obtain⟨y,j,h⟩:=bind_some h;obtain⟨h0,f,Y⟩:=ge_ j;obtain⟨b,base,vs,s,D,F⟩:=behindI_ok U G (hρ x _ J);have V:=tz_ m D f;refine⟨_,.int .u32 y,none,g,h,Ga.Le.refl g,λ_ _=>rfl,.int .nil,λw' p=>run_load M s (o4_ (cs:=vs) ?_ (F w' (O w' p))),rfl⟩;unfold k0_;rw[Z];exact V
    .cases h
   .cases h
 .cases h
end
end
noncomputable section
variable{P:Program}{E:TE}{z:Fz}{g:Ga}{nx:Nat}
variable{L:Nat->Option (SV E)}{H:Nat->Option (Obj E)}{ρ:Operand->Value}{W w0:World}{I:World->Prop}{o:Oper}{R:Type}{k:SV E->Up E->Option R}{r:R}{Bs:List Nat}{F0:Nat->Prop}
theorem Good.mk'{s:SV E}{v:Value}(h:k s none=some r)(f:RV P E z g s v)(hr:∀w',I w'->(execOp ρ o).run P w' = .ok (.value v) w'):Good P E z g nx I H ρ o k r :=
 ⟨s,v,none,g,h,Ga.Le.refl g,λ_ _=>rfl,f,hr,rfl⟩
def tA_(P:Program)(T:TypeId)(f:Nat):Option Nat :=
 match P.underlying T with
 | some (.struct fs)=>match fs[f]? with
  | some q=>match bq_ P q.type with
   | some (_+1)=>some q.offset
   | _=>none
  | none=>none
 | _=>none
theorem fieldAt_run{T:TypeId}{f n b off:Nat}(h:tA_ P T f=some n)(w:World):(Instr.fieldAt T (.pointer (some ⟨b,off,none⟩)) f).run P w = .ok (.pointer (some ⟨b,off+n,none⟩)) w:=by
 unfold tA_ at h;split at h
 .rename_i fs j;split at h
  .rename_i q s;split at h
   .rename_i m hm;obtain rfl:=qSj h;unfold bq_ at hm;cases hi:P.info? q.type with
    | none=>simp[hi]at hm
    | some i =>
     have p:i.size=m+1:=by simpa[hi]using hm
     simp[Instr.fieldAt,run_underlying j,s,Instr.sureAddr,fieldPlace,sizeOf,typeInfo,hi,p,Addr.add_mk]
   .cases h
  .cases h
 .cases h
def SC.shift(n:Nat):SC E->Option (SC E) | .ptr id off=>some (.ptr id (off+n)) | .elo id q i off=>some (.elo id q i (off+n)) | .elf t x off=>some (.elf t x (off+n))|_=>none
theorem SC.shift_ok{n:Nat}{c m:SC E}{v:Value}(h:c.shift n=some m)(hr:RC P E z g c v):∃b off,v = .pointer (some ⟨b,off,none⟩)/\RC P E z g m (.pointer (some ⟨b,off+n,none⟩)):=by
 unfold SC.shift at h;split at h
 .obtain rfl:=qSj h;obtain⟨l,j,rfl⟩:=hr;exact⟨_,_,rfl,l,j,rfl⟩
 .obtain rfl:=qSj h;obtain⟨l,j,f,rfl⟩:=hr;exact⟨_,_,rfl,l,j,f,by rw[zP]⟩
 .obtain rfl:=qSj h;obtain⟨b,q,rr,rfl,f⟩:=hr;exact⟨_,_,rfl,b,q,rr,by rw[zP],f⟩
 .cases h
def mW_(P:Program)(E:TE)(L:Nat->Option (SV E))(T:TypeId)(x:Operand)(f:Nat){R:Type}(k:SV E->Up E->Option R):Option R :=
 match opS E L x,tA_ P T f with
 | some (.v (.one c)),some n=>match c.shift n with
  | some h=>k (.v (.one h)) none
  | none=>none
 | _,_=>none
theorem rc_{x:Operand}{T:TypeId}{f:Nat}(p:o.op = .fieldAddr T x f)(hρ:OpR P E z g L ρ)(h:mW_ P E L T x f k=some r):Good P E z g nx I H ρ o k r:=by
 unfold mW_ at h;split at h
 .rename_i c n m q;split at h
  .rename_i u s;obtain⟨b,off,j,hr⟩:=SC.shift_ok s (hρ x _ m);refine .mk' h (v := .pointer (some ⟨b,off+n,none⟩)) hr λw' _ => ?_
   unfold execOp;rw[p];simp only[j];rw[Sem.run_bind,fieldAt_run q];rfl
  .cases h
 .cases h
def qStr(op:BinOp)(a b:Str){R:Type}(k:SV E->Up E->Option R):Option R:=match op with | .add=>(cat a b).bind λs=>k (.v (.one (.dt .str s))) none | .eql=>k (.v (.one (.dt .bool (a==b)))) none | .neq=>k (.v (.one (.dt .bool (!(a==b))))) none | .lss=>k (.v (.one (.dt .bool (Op.bytesLess a b)))) none | .gtr=>k (.v (.one (.dt .bool (!(Op.bytesLess a b||a==b))))) none | .leq=>k (.v (.one (.dt .bool (Op.bytesLess a b||a==b)))) none | .geq=>k (.v (.one (.dt .bool (!(Op.bytesLess a b))))) none|_=>none
theorem run_str_leq{t yt:TypeId}{x y:Operand}{w:World}(j:o.op = .binOp .leq t x y yt){a b:Str}(h:ρ x=S a)(f:ρ y=S b) :
  (execOp ρ o).run P w = .ok (.value (.bool (Op.bytesLess a b||a==b))) w:=by
 unfold execOp;simp only[j,h,f,S];simp only[eqGuard,binOp,Op.stringOp,ByteArray.toList_mk];rfl
theorem run_str_geq{t yt:TypeId}{x y:Operand}{w:World}(j:o.op = .binOp .geq t x y yt){a b:Str}(h:ρ x=S a)(f:ρ y=S b) :
  (execOp ρ o).run P w = .ok (.value (.bool (!(Op.bytesLess a b)))) w:=by
 unfold execOp;simp only[j,h,f,S];simp only[eqGuard,binOp,Op.stringOp,ByteArray.toList_mk];rfl
theorem qStr_ok{op:BinOp}{t yt:TypeId}{x y:Operand}{a b:Str}(m:o.op = .binOp op t x y yt)(j:ρ x=S a)(f:ρ y=S b)(h:qStr op a b k=some r):Good P E z g nx I H ρ o k r:=by
 unfold qStr at h;split at h
 .obtain⟨s,p,h⟩:=bind_some h;exact .mk' h (v:=S s) (.str .nil) λw' _=>run_cat m j f p
 .exact .mk' h (.bool .nil) λw' _=>run_str_eql m j f
 .exact .mk' h (.bool .nil) λw' _=>run_str_neq m j f
 .exact .mk' h (.bool .nil) λw' _=>run_str_lss m j f
 .exact .mk' h (.bool .nil) λw' _=>run_str_gtr m j f
 .exact .mk' h (.bool .nil) λw' _=>run_str_leq m j f
 .exact .mk' h (.bool .nil) λw' _=>run_str_geq m j f
 .cases h
def Operand.isC:Operand->Bool | .const _=>true|_=>false
def qInt(P:Program)(E:TE)(L:Nat->Option (SV E))(o:Oper)(op:BinOp)(y:Operand)(ka:IntKind)(a:Int)(kb:IntKind)(b:Int){R:Type}(k:SV E->Up E->Option R):Option R:=match op,Operand.isC y,decide (ka=kb)with | .quo,false,true=>(quoI ka a b).bind λn=>k (.v (.one (.dt (.int ka) n))) none | .rem,false,true=>(remI a b).bind λn=>k (.v (.one (.dt (.int ka) n))) none | .shl,false,_=>(shlI ka a b).bind λn=>k (.v (.one (.dt (.int ka) n))) none | .shr,false,_=>(shrI ka a b).bind λn=>k (.v (.one (.dt (.int ka) n))) none|_,_,_=>mV_ P E L o k
theorem qInt_ok{op:BinOp}{t yt:TypeId}{x y:Operand}{ka kb:IntKind}{a b:Int}(q:o.op = .binOp op t x y yt)(hρ:OpR P E z g L ρ)(p:ρ x = .int ka a)(m:ρ y = .int kb b)(h:qInt P E L o op y ka a kb b k=some r):Good P E z g nx I H ρ o k r:=by
 unfold qInt at h;split at h
 .rename_i j;simp only[qDe]at j;subst j;obtain⟨n,f,h⟩:=bind_some h;exact .mk' h (v := .int ka n) (.int .nil) λw' _=>run_quo q p m f
 .rename_i j;simp only[qDe]at j;subst j;obtain⟨n,f,h⟩:=bind_some h;exact .mk' h (v := .int ka n) (.int .nil) λw' _=>run_rem q p m f
 .obtain⟨n,f,h⟩:=bind_some h;exact .mk' h (v := .int ka n) (.int .nil) λw' _=>run_shl q p m f
 .obtain⟨n,f,h⟩:=bind_some h;exact .mk' h (v := .int ka n) (.int .nil) λw' _=>run_shr q p m f
 .exact jt_ hρ h
def SC.data(H:Nat->Option (Obj E))(t:Ty):SC E->Option (Den E.S t)
 | .dt f x=>if h:f=t then some (h▸x)else none
 | .nils=>match t with
  | .sl _=>some []
  | _=>none
 | .own id=>match H id with
  | some (.fr e xs)=>if h:Ty.sl e=t then some (h▸xs)else none
  | _=>none
 | _=>none
theorem SC.data_ok{t:Ty}{c:SC E}{x:Den E.S t}{v:Value}{w:World}(y:HR P E Bs F0 w0 w z g H)(h:c.data H t=some x)(hr:RC P E z g c v):RD E z [t] (x,()) [v]:=by
 unfold SC.data at h;split at h
 .split at h
  .rename_i m;subst m;obtain rfl:=qSj h;exact hr
  .cases h
 .split at h
  .obtain rfl:=qSj h;simp only[RC]at hr;subst hr;exact RD.sl (xs:=[]) (cap:=0) (SlF.nil _ _ _ _) (qA _) (rows:=[]) (λi x r h=>by simp at h) .nil
  .cases h
 .split at h
  .rename_i e xs hi;split at h
   .rename_i m;subst m;obtain rfl:=qSj h;obtain⟨l,C,rfl⟩:=hr;obtain⟨D,rows,s,q,u,p,f,j⟩:=y.hold _ _ hi;rw[C]at s;obtain rfl:=qSj s;rw[q];rw[q]at f p;rw[u]at p;exact RD.sl p f j .nil
   .cases h
  .cases h
 .cases h
def cy_(E:TE)(H:Nat->Option (Obj E)):(ts:List Ty)->List (SC E)->Option (HL E.S ts)
 | [],[]=>some ()
 | t::ts,c::cs=>match c.data H t with
  | none=>none
  | some x=>match cy_ E H ts cs with
   | some h=>some (x,h)
   | none=>none
 | _,_=>none
theorem er_{w:World}(j:HR P E Bs F0 w0 w z g H):∀{ts:List Ty} {cs:List (SC E)} {h:HL E.S ts} {vs:List Value},cy_ E H ts cs=some h->All2 (RC P E z g) cs vs->RD E z ts h vs
 | [],[],h,vs,f,hr=>by cases hr;exact .nil
 | t :: ts,c::cs,h,vs,f,hr=>by
  cases hr with
  | cons s q =>
   simp only[cy_]at f;split at f
   .cases f
   .rename_i x m;split at f
    .rename_i u p;obtain rfl:=qSj f;exact RD.cons (SC.data_ok j m s) (er_ j p q)
    .cases f
 | [],c::cs,h,vs,f,hr=>by simp[cy_]at f
 | t::ts,[],h,vs,f,hr=>by simp[cy_]at f
def ba_(P:Program)(E:TE)(T n:Nat):Prop:=∀(d:DecidableEq (E.S n)) (x y:E.S n) (l m:List Value),dM_ E (E.cs n) (E.un n x)=some l->dM_ E (E.cs n) (E.un n y)=some m->EqIs P T (.agg l.toArray) (.agg m.toArray) (@decide (x=y) (d x y))
def qEq (E:TE) (H:Nat->Option (Obj E)) (eqs:List (Nat×Nat)) (neg:Bool) (T:TypeId) (l m:List (SC E)) {R:Type} (k:SV E->Up E->Option R):Option R :=
 match eqs.find? λp=>Nat.beq p.1 T with
 | some p=>match cy_ E H (E.cs p.2) l,cy_ E H (E.cs p.2) m,E.deq p.2 with
  | some h,some f,some d=>match dM_ E (E.cs p.2) h,dM_ E (E.cs p.2) f with
   | some _,some _=>match neg with
    | false=>k (.v (.one (.dt .bool (@decide (E.bd p.2 h=E.bd p.2 f) (d _ _))))) none
    | true=>k (.v (.one (.dt .bool (!(@decide (E.bd p.2 h=E.bd p.2 f) (d _ _)))))) none
   | _,_=>none
  | _,_,_=>none
 | none=>none
theorem qEq_ok{eqs:List (Nat×Nat)}{op:BinOp}{neg:Bool}{t yt:TypeId}{x y:Operand}{l m:List (SC E)}(f:op=bif neg then .neq else .eql)(G:o.op = .binOp op t x y yt)(C:∀p∈eqs,ba_ P E p.1 p.2)(J:HR P E Bs F0 w0 W z g H)
  (V:RV P E z g (.v (.agg l)) (ρ x)) (U:RV P E z g (.v (.agg m)) (ρ y)) (h:qEq E H eqs neg t l m k=some r):Good P E z g nx I H ρ o k r:=by
 unfold qEq at h;split at h
 .rename_i p F;have hT:p.1=t:=qNb (by simpa using jW F);have Z:=C p (zH F);split at h
  .rename_i Y hm d h1 h2 h3;split at h
   .rename_i e1 e2 O M;obtain⟨vs,ex,q⟩:=V;obtain⟨us,ey,j⟩:=U;have u:=er_ J h1 q;have s:=er_ J h2 j;obtain rfl:=nx_ u O;obtain rfl:=nx_ s M;have D:=Z d (E.bd p.2 Y) (E.bd p.2 hm) vs us (by rw[E.un_bd];exact O) (by rw[E.un_bd];exact M);rw[hT]at D;cases neg with
    | false =>
     simp only at h;subst f;exact .mk' h (.bool .nil) λw' _=>run_agg_eql G ex ey D
    | true =>
     simp only at h;subst f;exact .mk' h (.bool .nil) λw' _=>run_agg_neq G ex ey D
   .cases h
  .cases h
 .cases h
theorem jL_{α R:Type}{xs:List α}{k:Bool->Option R}{r:R}(h:nilB xs k=some r){b:Bool}(f:xs≠[]->b=false):k b=some r:=by
 cases xs with
 | nil =>
  obtain⟨m,j⟩:=both_some h;cases b with
  | true=>exact m
  | false=>exact j
 | cons x xs=>rw[f (by simp)];exact h
theorem tB_(w:World)(d:Nat)(t e:TypeId)(a:Option Addr)(l c:Nat)(h:P.underlying t=some (.slice e)):(Op.equalIn (d+1) t (.slice a l c) (.slice none 0 0)).run P w = .ok a.isNone w:=by
 cases a<;>simp[Op.equalIn,run_underlying h]
theorem pv_(w:World)(t e:TypeId)(a:Option Addr)(l c:Nat)(h:P.underlying t=some (.slice e)):(Op.equal t (.slice a l c) (.slice none 0 0)).run P w = .ok a.isNone w:=tB_ w 9999 t e a l c h
theorem run_eql_snil(w:World)(t e:TypeId)(a:Option Addr)(l c:Nat)(h:P.underlying t=some (.slice e)):(binOp .eql t (.slice a l c) (.slice none 0 0)).run P w = .ok (.bool a.isNone) w:=by
 simp only[binOp];simp[pv_ w t e a l c h]
theorem run_neq_snil(w:World)(t e:TypeId)(a:Option Addr)(l c:Nat)(h:P.underlying t=some (.slice e)):(binOp .neq t (.slice a l c) (.slice none 0 0)).run P w = .ok (.bool (!a.isNone)) w:=by
 simp only[binOp];simp[pv_ w t e a l c h]
theorem i0_{t yt e:TypeId}{x y:Operand}{A:Option Addr}{n cap:Nat}{w:World}(m:o.op = .binOp .eql t x y yt)(j:P.underlying t=some (.slice e))(h:ρ x = .slice A n cap)(f:ρ y = .slice none 0 0) :
  (execOp ρ o).run P w = .ok (.value (.bool A.isNone)) w:=by
 unfold execOp;simp only[m,h,f];simp[eqGuard,run_eql_snil w t e A n cap j]
theorem i1_{t yt e:TypeId}{x y:Operand}{A:Option Addr}{n cap:Nat}{w:World}(m:o.op = .binOp .neq t x y yt)(j:P.underlying t=some (.slice e))(h:ρ x = .slice A n cap)(f:ρ y = .slice none 0 0) :
  (execOp ρ o).run P w = .ok (.value (.bool (!A.isNone))) w:=by
 unfold execOp;simp only[m,h,f];simp[eqGuard,run_neq_snil w t e A n cap j]
def qNil0(P:Program)(E:TE)(H:Nat->Option (Obj E))(op:BinOp)(T:TypeId)(c:SC E){R:Type}(k:SV E->Up E->Option R):Option R :=
 match op,P.underlying T,c with
 | .eql,some (.slice _),.dt (.sl _) xs=>nilB xs λb=>k (.v (.one (.dt .bool b))) none
 | .neq,some (.slice _),.dt (.sl _) xs=>nilB xs λb=>k (.v (.one (.dt .bool (!b)))) none
 | .eql,some (.slice _),.nils=>k (.v (.one (.dt .bool true))) none
 | .neq,some (.slice _),.nils=>k (.v (.one (.dt .bool false))) none
 | .eql,some (.slice _),.own id=>match H id with
  | some (.row _ _ xs _)=>nilB xs λb=>k (.v (.one (.dt .bool b))) none
  | some (.fr _ xs)=>nilB xs λb=>k (.v (.one (.dt .bool b))) none
  | _=>none
 | .neq,some (.slice _),.own id=>match H id with
  | some (.row _ _ xs _)=>nilB xs λb=>k (.v (.one (.dt .bool (!b)))) none
  | some (.fr _ xs)=>nilB xs λb=>k (.v (.one (.dt .bool (!b)))) none
  | _=>none
 | _,_,_=>none
theorem own_nil{H:Nat->Option (Obj E)}(q:HR P E Bs F0 w0 W z g H){id:Nat}{v:Value}(hr:RC P E z g (.own id) v):(∀e t xs foc,H id=some (.row e t xs foc)->∃A n cap,v = .slice A n cap/\(xs≠[]->A.isNone=false))/\∀t xs,H id=some (.fr t xs)->∃A n cap,v = .slice A n cap/\(xs≠[]->A.isNone=false):=by
 obtain⟨l,s,rfl⟩:=hr;refine⟨λe t xs foc hi=>⟨_,_,_,rfl,λm => ?_⟩,λt xs hi=>⟨_,_,_,rfl,λm => ?_⟩⟩
 .obtain⟨u,rows,j,p,_,f,_⟩:=q.hold _ _ hi;rw[s]at j;obtain rfl:=qSj j;rcases f.2 with⟨_,h⟩|⟨b,cap,cur,h,_⟩
  .rw[p]at h;exact absurd (zq.1 h) m
  .injection h with y;rw[y];rfl
 .obtain⟨u,rows,j,p,_,x,_⟩:=q.hold _ _ hi;rw[s]at j;obtain rfl:=qSj j;have:0<l.n:=by rw[p];exact List.length_pos_iff.2 m
  obtain⟨b,off,e,h,_⟩:=x.2 this;rw[e];rfl
theorem qNil0_ok{op:BinOp}{t yt:TypeId}{x y:Operand}{c:SC E}(m:o.op = .binOp op t x y yt)(G:HR P E Bs F0 w0 W z g H)(s:RC P E z g c (ρ x))(j:ρ y = .slice none 0 0)(h:qNil0 P E H op t c k=some r):Good P E z g nx I H ρ o k r:=by
 unfold qNil0 at h;split at h
 .rename_i e xs f;obtain⟨A,cap,rows,vs',ev,u,_⟩:=RD.sl_inv s;injection ev with ev _;refine .mk' (jL_ h (b:=A.isNone) λp => ?_) (.bool .nil) λw' _=>i0_ m f ev j
  obtain⟨b,off,C,_⟩:=u.2 (List.length_pos_iff.2 p);rw[C];rfl
 .rename_i e xs f;obtain⟨A,cap,rows,vs',ev,u,_⟩:=RD.sl_inv s;injection ev with ev _;refine .mk' (jL_ h (b:=A.isNone) λp => ?_) (.bool .nil) λw' _=>i1_ m f ev j
  obtain⟨b,off,C,_⟩:=u.2 (List.length_pos_iff.2 p);rw[C];rfl
 .rename_i f;exact .mk' h (.bool .nil) λw' _=>i0_ m f s j
 .rename_i f;exact .mk' h (.bool .nil) λw' _=>i1_ m f s j
 .rename_i id f;obtain⟨F,D⟩:=own_nil G s;split at h
  .rename_i hi;obtain⟨A,n,cap,ev,q⟩:=F _ _ _ _ hi;exact .mk' (jL_ h q) (.bool .nil) λw' _=>i0_ m f ev j
  .rename_i hi;obtain⟨A,n,cap,ev,q⟩:=D _ _ hi;exact .mk' (jL_ h q) (.bool .nil) λw' _=>i0_ m f ev j
  .cases h
 .rename_i id f;obtain⟨F,D⟩:=own_nil G s;split at h
  .rename_i hi;obtain⟨A,n,cap,ev,q⟩:=F _ _ _ _ hi;exact .mk' (jL_ h q) (.bool .nil) λw' _=>i1_ m f ev j
  .rename_i hi;obtain⟨A,n,cap,ev,q⟩:=D _ _ hi;exact .mk' (jL_ h q) (.bool .nil) λw' _=>i1_ m f ev j
  .cases h
 .cases h
def qBin(P:Program)(E:TE)(L:Nat->Option (SV E))(H:Nat->Option (Obj E))(eqs:List (Nat×Nat))(o:Oper)(op:BinOp)(T:TypeId)(x y:Operand){R:Type}(k:SV E->Up E->Option R):Option R :=
 match opS E L x,opS E L y with
 | some (.v (.one (.dt (.int ka) a))),some (.v (.one (.dt (.int kb) b)))=>qInt P E L o op y ka a kb b k
 | some (.v (.one (.dt .str a))),some (.v (.one (.dt .str b)))=>qStr op a b k
 | some (.v (.one (.dt .bool a))),some (.v (.one (.dt .bool b)))=>match op,P.underlying T with
  | .eql,some .bool=>k (.v (.one (.dt .bool (a==b)))) none
  | .neq,some .bool=>k (.v (.one (.dt .bool (!(a==b))))) none
  | _,_=>none
 | some (.v (.agg l)),some (.v (.agg m))=>match op with
  | .eql=>qEq E H eqs false T l m k
  | .neq=>qEq E H eqs true T l m k
  | _=>none
 | some (.v (.one c)),some (.v (.one .nils))=>qNil0 P E H op T c k
 | _,_=>none
theorem qBin_ok{eqs:List (Nat×Nat)}{op:BinOp}{t yt:TypeId}{x y:Operand}(q:o.op = .binOp op t x y yt)(s:∀p∈eqs,ba_ P E p.1 p.2)(hρ:OpR P E z g L ρ)(C:HR P E Bs F0 w0 W z g H)(h:qBin P E L H eqs o op t x y k=some r):Good P E z g nx I H ρ o k r:=by
 unfold qBin at h;split at h
 .rename_i ka a kb b j f;exact qInt_ok q hρ (SV.int_ok rfl (hρ x _ j)) (SV.int_ok rfl (hρ y _ f)) h
 .rename_i a b j f;exact qStr_ok q (SV.str_ok rfl (hρ x _ j)) (SV.str_ok rfl (hρ y _ f)) h
 .rename_i a b j f;have F:=SV.bool_ok rfl (hρ x _ j);have D:=SV.bool_ok rfl (hρ y _ f);split at h
  .rename_i u;exact .mk' h (.bool .nil) λw' _=>run_bool_eql q u F D
  .rename_i u;exact .mk' h (.bool .nil) λw' _=>run_bool_neq q u F D
  .cases h
 .rename_i l m j f;split at h
  .exact qEq_ok (neg:=false) rfl q s C (hρ x _ j) (hρ y _ f) h
  .exact qEq_ok (neg:=true) rfl q s C (hρ x _ j) (hρ y _ f) h
  .cases h
 .rename_i c j f;exact qNil0_ok q C (hρ x _ j) (hρ y _ f) h
 .cases h
theorem run_indexV{t m e:Nat}{x i:Operand}{ki:IntKind}{n:Int}{vs:List Value}{v:Value}{w:World}(u:o.op = .index t x i)(s:P.underlying t=some (.array m e))(y:aggB P e=some false)(h:bq_ P e=some 1)(p:ρ x = .agg vs.toArray)(hi:ρ i = .int ki n)
  (D:0<=n) (C:n<m) (q:vs[n.toNat]? = some v):(execOp ρ o).run P w = .ok (.value v) w:=by
 unfold bq_ at h;cases j:P.info? e with
 | none=>simp[j]at h
 | some inf =>
  have f:inf.size=1:=by simpa[j]using h
  unfold execOp;simp only[u,p,hi];simp[Instr.index,asIntOf,run_underlying s,sizeOf,typeInfo,j,f,D,C,part,Sem.run_bind,nF_ y,q]
def qIndex(P:Program)(E:TE)(L:Nat->Option (SV E))(T:TypeId)(x i:Operand){R:Type}(k:SV E->Up E->Option R):Option R :=
 match opS E L x,opS E L i,P.underlying T with
 | some (.v (.one (.dt .str s))),some (.v (.one (.dt (.int _) n))),some .string=>Option.bind (cx_ s n) λb=>k (.v (.one (.dt (.int .u8) b))) none
 | some (.v (.agg l)),some (.v (.one (.dt (.int _) n))),some (.array m e)=>match aggB P e,bq_ P e,dtsC .u32 l with
  | some false,some 1,some xs=>match Nat.beq xs.length m with
   | true=>Option.bind (an_ xs n) λy=>k (.v (.one (.dt (.int .u32) y))) none
   | false=>none
  | _,_,_=>none
 | _,_,_=>none
theorem qIndex_ok{T:TypeId}{x i:Operand}(u:o.op = .index T x i)(hρ:OpR P E z g L ρ)(h:qIndex P E L T x i k=some r):Good P E z g nx I H ρ o k r:=by
 unfold qIndex at h;split at h
 .rename_i s ki n p hi q;obtain⟨b,J,h⟩:=bind_some h;exact .mk' h (v := .int .u8 b) (.int .nil) λw' _=>run_byteI u q (SV.str_ok rfl (hρ x _ p)) (SV.int_ok rfl (hρ i _ hi)) J
 .rename_i l ki n m e p hi q;split at h
  .rename_i xs M F j;split at h
   .rename_i hm;obtain rfl:=qNb hm;obtain⟨y,C,h⟩:=bind_some h;obtain⟨O,f,G⟩:=ge_ C;obtain⟨vs,ev,hr⟩:=hρ x _ p;have D:=tz_ j hr f;exact .mk' h (v := .int .u32 y) (.int .nil) λw' _=>run_indexV u q M F ev (SV.int_ok rfl (hρ i _ hi)) O (by omega) D
   .cases h
  .cases h
 .cases h
end
section
def ckFs(P:Program)(f:TypeId->Value->Bool)(cs:Array Value):List Field->Bool
 | []=>true
 | g::fs=>(match eq_ P (part g.type cs g.offset)with|some v=>f g.type v|none=>false)&&ckFs P f cs fs
def ckV(P:Program):Nat->TypeId->Value->Bool
 | 0,_,_=>false
 | n+1,K,v=>match P.underlying K,v with
  | some (.int _),.int _ _=>true
  | some .bool,.bool _=>true
  | some .string,.string _=>true
  | some (.struct fs),.agg cs=>ckFs P (ckV P n) cs fs.toList
  | _,_=>false
theorem ckFs_run{P:Program}{f:TypeId->Value->Bool}{d:Nat}{b:Bool}{w:World}(s:∀K v,f K v=true->(Instr.checkKey b d K v).run P w = .ok () w){cs:Array Value}:∀{fs:List Field},ckFs P f cs fs=true ->
  (forIn (m := Sem) fs PUnit.unit fun g (_ : PUnit) => if g.name ≠ "_" then (do Instr.checkKey b d g.type (← part g.type cs g.offset); pure (ForInStep.yield PUnit.unit)) else pure (ForInStep.yield PUnit.unit)).run P w = .ok PUnit.unit w
 | [],_=>rfl
 | g::fs,h=>by
  simp only[ckFs,qAn]at h;have p:=ckFs_run s h.2;cases j:eq_ P (part g.type cs g.offset)with
  | none=>rw[j]at h;cases h.1
  | some v =>
   rw[j]at h;rw[List.forIn_cons,Sem.run_bind]
   by_cases q : g.name ≠ "_"
   .rw[qV q];simp only[Sem.run_bind,fN_ j w,Result.andThen_ok,s _ _ h.1,Sem.run_pure];exact p
   .rw[qX q];simp only[Sem.run_pure,Result.andThen_ok];exact p
theorem pw_{P:Program}{b:Bool}{w:World}:∀{n d:Nat} {K:TypeId} {v:Value},ckV P n K v=true->(Instr.checkKey b (d+n) K v).run P w = .ok () w
 | 0,_,_,_,h=>by cases h
 | n+1,d,K,v,h=>by
  simp only[ckV]at h;rw[←zP];split at h
  .rename_i f;unfold Instr.checkKey;simp only[Sem.run_bind,run_underlying f,Result.andThen_ok,Sem.run_pure]
  .rename_i f;unfold Instr.checkKey;simp only[Sem.run_bind,run_underlying f,Result.andThen_ok,Sem.run_pure]
  .rename_i f;unfold Instr.checkKey;simp only[Sem.run_bind,run_underlying f,Result.andThen_ok,Sem.run_pure]
  .rename_i fs cs f;have:=ckFs_run (b:=b) (w:=w) (d:=d+n) (λK v h=>pw_ (n:=n) (d:=d) h) h;unfold Instr.checkKey;simp only[Sem.run_bind,run_underlying f,Result.andThen_ok];rw[←Array.forIn_toList];exact(qH (λ(r:Result PUnit)=>r.andThen λ_ w'=>Sem.run P (pure ()) w') this).trans rfl
  .cases h
variable{P:Program}{E:TE}
def eqB(E:TE):(t:Ty)->Option (Den E.S t->Den E.S t->Bool)
 | .int _=>some λ(a b:Int)=>a==b
 | .bool=>some λ(a b:Bool)=>a==b
 | .str=>some λ(a b:Str)=>a==b
 | .st n=>match E.deq n with
  | some d=>some λa b => @decide (a=b) (d a b)
  | none=>none
 | .sl _=>none
theorem px_{t:Ty}{eq:Den E.S t->Den E.S t->Bool}(h:eqB E t=some eq)(x y:Den E.S t):eq x y=true↔x=y:=by
 cases t with
 | int k=>obtain rfl:=qSj h;show((x:Int)==y)=true↔_;exact qG
 | bool=>obtain rfl:=qSj h;show((x:Bool)==y)=true↔_;exact qG
 | str=>obtain rfl:=qSj h;show((x:Str)==y)=true↔_;exact qG
 | sl t=>cases h
 | st n =>
  simp only[eqB]at h;split at h
  .obtain rfl:=qSj h;exact decide_eq_true_iff
  .cases h
def keyV (P:Program) (E:TE) (eqs:List (Nat×Nat)) (K:TypeId) (t:Ty) (x:Den E.S t):Option Value :=
 match t,P.underlying K with
 | .int k,some (.int f)=>match decide (k=f)with
  | true=>c4_ E (.int k) x
  | false=>none
 | .bool,some .bool=>c4_ E .bool x
 | .str,some .string=>c4_ E .str x
 | .st n,some (.struct _)=>match eqs.find? λp=>Nat.beq p.1 K with
  | some p=>match Nat.beq p.2 n,c4_ E (.st n) x with
   | true,some v=>match ckV P 20 K v with
    | true=>some v
    | false=>none
   | _,_=>none
  | none=>none
 | _,_=>none
structure KeyIs(P:Program)(E:TE)(K:TypeId)(t:Ty)(eq:Den E.S t->Den E.S t->Bool)(x:Den E.S t)(v:Value):Prop where
 val:c4_ E t x=some v
 chk:∀b w,(Instr.checkKey b 10000 K v).run P w = .ok () w
 find:∀{vt:Ty} {ks:List (Den E.S t)} {vs:List (Den E.S vt)} {es:Array MapEntry} (w:World),MapR E t vt ks vs es.toList->(Instr.findKey K v es.toList).run P w = .ok (foundAt es (cn_ eq x ks)) w
 same:Instr.sameBits 10000 v v=true
theorem tC_{d:TypeDesc}{t vt:Ty}{eq:Den E.S t->Den E.S t->Bool}{x:Den E.S t}{kv:Value}(m:∀y v,c4_ E t y=some v->Instr.sameNow d kv v=some (eq x y)){ks:List (Den E.S t)}{vs:List (Den E.S vt)}{es:List MapEntry}(h:MapR E t vt ks vs es) :
  ∀i,Instr.findNow d kv es i=some (match cn_ eq x ks with|some j=>(es[j]?).map λe=>(i+j,e.val)|none=>none):=by
 induction h with
 | nil=>intro i;rfl
 | cons p q _ f =>
  intro i;simp only[Instr.findNow,m _ _ p,cn_];cases eq x _ with
  | true=>rfl
  | false =>
   simp only[f (i+1)];cases cn_ eq x _ with
   | none=>rfl
   | some j =>
    simp only[List.getElem?_cons_succ];rw[show i+1+j=i+(j+1)by omega]
theorem find_ask{K:TypeId}{t vt:Ty}{eq:Den E.S t->Den E.S t->Bool}{x:Den E.S t}{kv:Value}(m:∀y v w,c4_ E t y=some v->(Op.equal K kv v).run P w = .ok (eq x y) w){ks:List (Den E.S t)}{vs:List (Den E.S vt)}{es:List MapEntry}(h:MapR E t vt ks vs es) :
  ∀i w,(Instr.findAsking K kv es i).run P w = .ok (match cn_ eq x ks with|some j=>(es[j]?).map λe=>(i+j,e.val)|none=>none) w:=by
 induction h with
 | nil=>intro i w;rfl
 | cons p q _ f =>
  intro i w;simp only[Instr.findAsking,Sem.run_bind,m _ _ w p,Result.andThen_ok,cn_];cases eq x _ with
  | true=>rfl
  | false =>
   simp only[qu,jJ,f (i+1)];cases cn_ eq x _ with
   | none=>rfl
   | some j =>
    simp only[List.getElem?_cons_succ];rw[show i+1+j=i+(j+1)by omega]
theorem j5_{es:Array MapEntry}{ix:Option Nat}:(match ix with|some j=>(es.toList[j]?).map λe=>(0+j,e.val)|none=>none)=foundAt es ix:=by
 cases ix with
 | none=>rfl
 | some j=>simp[foundAt]
theorem ou_:∀{ts:List Ty} {h:HL E.S ts} {l:List Value},dM_ E ts h=some l->(l.zip l).all (λp=>Instr.sameBits 9999 p.1 p.2)=true
 | [],_,l,h=>by obtain rfl:=qSj h;rfl
 | .int k::ts,j,l,h=>by
  simp only[dM_]at h;split at h
  .rename_i m f;obtain rfl:=qSj h;rw[List.zip_cons_cons,jY,ou_ f];simp[Instr.sameBits]
  .cases h
 | .bool::ts,j,l,h=>by
  simp only[dM_]at h;split at h
  .rename_i m f;obtain rfl:=qSj h;rw[List.zip_cons_cons,jY,ou_ f];simp[Instr.sameBits]
  .cases h
 | .str::ts,j,l,h=>by
  simp only[dM_]at h;split at h
  .rename_i m f;obtain rfl:=qSj h;rw[List.zip_cons_cons,jY,ou_ f,Bool.and_true];exact(MapKept.bytes_beq _ _).2 rfl
  .cases h
 | .sl _::ts,j,l,h=>by simp[dM_]at h
 | .st _::ts,j,l,h=>by simp[dM_]at h
theorem keyV_ok {eqs:List (Nat×Nat)} (F:∀p∈eqs,ba_ P E p.1 p.2) {K:TypeId} {t:Ty} {eq:Den E.S t->Den E.S t->Bool} {x:Den E.S t} {v:Value} (s:eqB E t=some eq) (h:keyV P E eqs K t x=some v):KeyIs P E K t eq x v:=by
 unfold keyV at h;split at h
 .rename_i k k' x j;split at h
  .rename_i U;obtain rfl:=of_decide_eq_true U;obtain rfl:=qSj h;obtain rfl:=qSj s;refine⟨rfl,λb w=>pw_ (n:=1) (d:=9999) (by simp only[ckV,j]),λw hr => ?_,by simp[Instr.sameBits]⟩;refine(MapKept.run_findKey j (tC_ (eq:=λ(a b:Int)=>a==b) (x:=x) (λy v f => ?_) hr 0)).trans (by rw[j5_]);obtain rfl:=qSj f;simp[Instr.sameNow]
  .cases h
 .rename_i x j;obtain rfl:=qSj h;obtain rfl:=qSj s;refine⟨rfl,λb w=>pw_ (n:=1) (d:=9999) (by simp only[ckV,j]),λw hr => ?_,by simp[Instr.sameBits]⟩;refine(MapKept.run_findKey j (tC_ (eq:=λ(a b:Bool)=>a==b) (x:=x) (λy v f => ?_) hr 0)).trans (by rw[j5_]);obtain rfl:=qSj f;rfl
 .rename_i x j;obtain rfl:=qSj h;obtain rfl:=qSj s;refine⟨rfl,λb w=>pw_ (n:=1) (d:=9999) (by simp only[ckV,j,S]),λw hr => ?_,(MapKept.bytes_beq _ _).2 rfl⟩;refine(MapKept.run_findKey j (tC_ (eq:=λ(a b:Str)=>a==b) (x:=x) (λy v f => ?_) hr 0)).trans (by rw[j5_]);obtain rfl:=qSj f;simp only[Instr.sameNow,S]
  congr 1
  rw[qK];refine(MapKept.bytes_beq _ _).trans ⟨λh => ?_,λh => ?_⟩
  .have:=qH (λb:ByteArray=>b.data.toList) h;show((x:Str)==y)=true;simpa using this
  .rw[show x=y from by simpa using(show((x:Str)==y)=true from h)]
 .rename_i n fs x j;split at h
  .rename_i p G;split at h
   .rename_i Z O f;split at h
    .rename_i V;obtain rfl:=qSj h;have Y:p.1=K:=qNb (by simpa using jW G);have M:=F p (zH G);rw[Y,qNb O]at M;simp only[eqB]at s;split at s
     .rename_i d hd;obtain rfl:=qSj s;have u:=f;simp only[c4_]at f;split at f
      .rename_i l J;obtain rfl:=qSj f;refine⟨u,λb w=>pw_ (n:=20) (d:=9980) V,fun{vt ks vs es} w hr => ?_,?_⟩
       .have q:=find_ask (P:=P) (K:=K) (eq:=λa b => @decide (a=b) (d a b)) (x:=x) (kv := .agg l.toArray) (λy v w f=>by
         simp only[c4_]at f;split at f
         .rename_i m hm;obtain rfl:=qSj f;exact(M d x y l m J hm).2 w
         .cases f) hr 0 w
        rw[j5_]at q;unfold Instr.findKey;simp only[Sem.run_bind,run_underlying j,Result.andThen_ok];cases C:es.toList with
        | nil =>
         rw[C]at hr;cases hr
         simp[Instr.findNow,foundAt,cn_]
        | cons e r =>
         have D:Instr.findNow (.struct fs) (.agg l.toArray) (e::r) 0=none:=by simp[Instr.findNow,Instr.sameNow]
         rw[D,←C];exact q
       .simp only[Instr.sameBits,jX,zY];exact ou_ J
      .cases f
     .cases s
    .cases h
   .cases h
  .cases h
 .cases h
theorem MapR.len{k v:Ty}{ks:List (Den E.S k)}{vs:List (Den E.S v)}{es:List MapEntry}(h:MapR E k v ks vs es):ks.length=es.length/\vs.length=es.length:=by
 induction h with
 | nil=>exact⟨rfl,rfl⟩
 | cons _ _ _ f=>exact⟨by simp[f.1],by simp[f.2]⟩
theorem MapR.get{k v:Ty}{ks:List (Den E.S k)}{vs:List (Den E.S v)}{es:List MapEntry}(h:MapR E k v ks vs es):∀{i:Nat} {e:MapEntry},es[i]? = some e->∃x y,ks[i]? = some x/\vs[i]? = some y/\c4_ E k x=some e.key/\c4_ E v y=some e.val:=by
 induction h with
 | nil=>intro i e h;simp at h
 | @cons x y e ks vs es s q _ p =>
  intro i e' f;cases i with
  | zero=>simp at f;subst f;exact⟨x,y,rfl,rfl,s,q⟩
  | succ i=>obtain⟨m,j,D,C,u⟩:=p (by simpa using f);exact⟨m,j,by simpa using D,by simpa using C,u⟩
theorem MapR.push{k v:Ty}{ks:List (Den E.S k)}{vs:List (Den E.S v)}{es:List MapEntry}(h:MapR E k v ks vs es){x:Den E.S k}{y:Den E.S v}{e:MapEntry}(m:c4_ E k x=some e.key)(j:c4_ E v y=some e.val):MapR E k v (ks++[x]) (vs++[y]) (es++[e]):=by
 induction h with
 | nil=>exact .cons m j .nil
 | cons q p _ f=>exact .cons q p f
theorem MapR.set{k v:Ty}{ks:List (Den E.S k)}{vs:List (Den E.S v)}{es:List MapEntry}(h:MapR E k v ks vs es){y:Den E.S v}:∀{i:Nat} {e e':MapEntry},es[i]? = some e->e'.key=e.key->c4_ E v y=some e'.val->MapR E k v ks (vs.set i y) (es.set i e'):=by
 induction h with
 | nil=>intro i e e' h;simp at h
 | @cons x u C ks vs es p s h q =>
  intro i e e' m j f;cases i with
  | zero =>
   simp at m;subst m;exact .cons (by rw[j];exact p) f h
  | succ i=>exact .cons p s (q (by simpa using m) j f)
theorem sG_{z:Fz}:∀{ts:List Ty} {h:HL E.S ts} {l:List Value},dM_ E ts h=some l->RD E z ts h l
 | [],_,l,h=>by obtain rfl:=qSj h;exact .nil
 | .int k::ts,j,l,h=>by
  simp only[dM_]at h;split at h
  .rename_i m f;obtain rfl:=qSj h;exact .int (sG_ f)
  .cases h
 | .bool::ts,j,l,h=>by
  simp only[dM_]at h;split at h
  .rename_i m f;obtain rfl:=qSj h;exact .bool (sG_ f)
  .cases h
 | .str::ts,j,l,h=>by
  simp only[dM_]at h;split at h
  .rename_i m f;obtain rfl:=qSj h;exact .str (sG_ f)
  .cases h
 | .sl _::ts,j,l,h=>by simp[dM_]at h
 | .st _::ts,j,l,h=>by simp[dM_]at h
theorem k3_{z:Fz}{t:Ty}{x:Den E.S t}{u v:Value}(h:c4_ E t x=some u)(hr:RT E z t x v):v=u:=by
 cases t with
 | int k =>
  obtain rfl:=qSj h;obtain⟨vs',e,_⟩:=RD.int_inv (show RD E z [.int k] (x,()) [v]from hr);exact(List.cons.inj e).1
 | bool =>
  obtain rfl:=qSj h;obtain⟨vs',e,_⟩:=RD.bool_inv (show RD E z [.bool] (x,()) [v]from hr);exact(List.cons.inj e).1
 | str =>
  obtain rfl:=qSj h;obtain⟨vs',e,_⟩:=RD.str_inv (show RD E z [.str] (x,()) [v]from hr);exact(List.cons.inj e).1
 | sl t=>cases h
 | st n =>
  obtain⟨vs,rfl,hr⟩:=hr;simp only[c4_]at h;split at h
  .rename_i l f;obtain rfl:=qSj h;rw[nx_ hr f]
  .cases h
def datV(E:TE):(t:Ty)->Den E.S t->V1 E | .st n,x => .agg (E.cells (.st n) x)|t,x => .one (.dt t x)
theorem datV_ok{P:Program}{z:Fz}{g:Ga}{t:Ty}{x:Den E.S t}{u:Value}(h:c4_ E t x=some u):R1 P E z g (datV E t x) u:=by
 cases t with
 | int k=>obtain rfl:=qSj h;exact .int .nil
 | bool=>obtain rfl:=qSj h;exact .bool .nil
 | str=>obtain rfl:=qSj h;exact .str .nil
 | sl t=>cases h
 | st n =>
  simp only[c4_]at h;split at h
  .rename_i l f;obtain rfl:=qSj h;exact⟨l,rfl,cells_rd.1 (sG_ f)⟩
  .cases h
def keyD(E:TE)(H:Nat->Option (Obj E)):(t:Ty)->V1 E->Option (Den E.S t)
 | .st n,.agg l=>match cy_ E H (E.cs n) l with
  | some h=>some (E.bd n h)
  | none=>none
 | .st _,.one _=>none
 | t,.one c=>c.data H t
 | _,.agg _=>none
theorem k4_{P:Program}{z:Fz}{g:Ga}{w w0:World}{H:Nat->Option (Obj E)}{Bs:List Nat}{F0:Nat->Prop}{t:Ty}{y:V1 E}{x:Den E.S t}{v:Value}(f:HR P E Bs F0 w0 w z g H)(h:keyD E H t y=some x)(hr:R1 P E z g y v):RT E z t x v:=by
 cases t with
 | st n =>
  cases y with
  | one c=>cases h
  | agg l =>
   simp only[keyD]at h;split at h
   .rename_i p m;obtain rfl:=qSj h;obtain⟨vs,rfl,j⟩:=hr;exact⟨vs,rfl,by rw[E.un_bd];exact er_ f m j⟩
   .cases h
 | int k=>cases y with|one c=>exact SC.data_ok f h hr|agg l=>cases h
 | bool=>cases y with|one c=>exact SC.data_ok f h hr|agg l=>cases h
 | str=>cases y with|one c=>exact SC.data_ok f h hr|agg l=>cases h
 | sl e=>cases y with|one c=>exact SC.data_ok f h hr|agg l=>cases h
def zeroX (P:Program) (E:TE) (e:TypeId) (t:Ty):Option (Den E.S t):=match P.info? e with
 | some i=>match i.zero with
  | some zv=>match zv with
   | .agg cs=>match k2_ E cs.toList with
    | some l=>keyD E (λ_=>none) t (.agg l)
    | none=>none
   | zv=>match constC E zv with
    | some c=>keyD E (λ_=>none) t (.one c)
    | none=>none
  | none=>none
 | none=>none
theorem zeroX_ok{P:Program}{z:Fz}{g:Ga}{w w0:World}{H:Nat->Option (Obj E)}{Bs:List Nat}{F0:Nat->Prop}{e:TypeId}{t:Ty}{x:Den E.S t}{u:Value}(C:HR P E Bs F0 w0 w z g H)(h:zeroX P E e t=some x)(p:c4_ E t x=some u)(m:World):(zeroValue e).run P m = .ok u m:=by
 have j:HR P E Bs F0 w0 w z g (λ_=>none):=C.less λ_ _ h=>nomatch h
 unfold zeroX at h;split at h
 .rename_i i hi;split at h
  .rename_i zv q;have f:(zeroValue e).run P m = .ok zv m:=by
    simp[zeroValue,typeInfo,hi,q]
   rw[f];have:zv=u:=by
    split at h
    .rename_i cs;split at h
     .rename_i l s;have:=k4_ j h (g:=g) (v := .agg cs) ⟨cs.toList,by simp,h0_ s⟩;exact k3_ p this
     .cases h
    .split at h
     .rename_i c y;exact k3_ p (k4_ j h (g:=g) (v:=zv) (rB_ y))
     .cases h
   rw[this]
  .cases h
 .cases h
def qLookup (P:Program) (E:TE) (eqs:List (Nat×Nat)) (L:Nat->Option (SV E)) (H:Nat->Option (Obj E)) (T:TypeId) (m x:Operand) {R:Type} (k:SV E->Up E->Option R):Option R :=
 match opS E L m,opS E L x,P.underlying T with
 | some (.v (.one (.mp id))),some (.v y),some (.map K e)=>match H id with
  | some (.map _ kt vt ks vs _)=>match eqB E kt,keyD E H kt y,zeroX P E e vt with
   | some eq,some kx,some zx=>match keyV P E eqs K kt kx,c4_ E vt zx with
    | some _,some _=>k (.v (datV E vt (aL_ eq ks vs kx zx))) none
    | _,_=>none
   | _,_,_=>none
  | _=>none
 | _,_,_=>none
theorem qLookup_ok{P:Program}{z:Fz}{g:Ga}{nx:Nat}{L:Nat->Option (SV E)}{H:Nat->Option (Obj E)}{ρ:Operand->Value}{W w0:World}{I:World->Prop}{o:Oper}{R:Type}{k:SV E->Up E->Option R}{r:R}{Bs:List Nat}{F0:Nat->Prop}{eqs:List (Nat×Nat)}{T:TypeId}{m x:Operand}
  (ho:o.op = .lookup T m x false) (J:∀p∈eqs,ba_ P E p.1 p.2) (hρ:OpR P E z g L ρ) (V:HR P E Bs F0 w0 W z g H) (hI:∀w',I w'->Stands z g H W w') (h:qLookup P E eqs L H T m x k=some r):Good P E z g nx I H ρ o k r:=by
 unfold qLookup at h;split at h
 .rename_i id y K e hm hx hu;split at h
  .rename_i T' kt vt ks vs foc hi;split at h
   .rename_i eq kx zx he hk hz;split at h
    .rename_i kv u G q;have U:=keyV_ok J he G;have ekv:ρ x=kv:=k3_ U.val (k4_ V hk (hρ x _ hx));obtain⟨l,h1,h2⟩:=hρ m _ hm;obtain⟨l',es,c,Z,h4,Y,_⟩:=V.hold _ _ hi;rw[h1]at Z;obtain rfl:=qSj Z;have D:=Y.rel.len;have C:∀i,cn_ eq kx ks=some i->i<es.size:=λi hi=>by
      obtain⟨_,yy,h6,_⟩:=me_ hi;have:=(qZ.1 h6).1;have:=D.1;simp at this;omega
     have s:∀w',I w'->(Instr.lookup T (.map (some l.b)) kv false).run P w' = .ok (gotV es u (cn_ eq kx ks)) w':=λw' f=>by
      have O:w'.heap[l.b]? = some (.map es c):=((hI w' f).2 id _ l.b hi ⟨l,h1,rfl⟩).trans h4;exact run_lookup hu O U.chk (U.find w' Y.rel) (zeroX_ok V hz q w') C
     refine .mk' h (v:=gotV es u (cn_ eq kx ks)) ?_ λw' f => ?_
     .cases j:cn_ eq kx ks with
      | none=>rw[p9_ j];exact datV_ok q
      | some i =>
       have F:=C i j;have M:es.toList[i]? = some es[i]:=by simp[F]
       obtain⟨_,yv,_,h7,_,h9⟩:=Y.rel.get M;rw[qa_ j h7];have:((es[i]?).map (·.val)).getD u=es[i].val:=by simp[F]
       simp only[gotV,this];exact datV_ok h9
     .unfold execOp;simp only[ho,h2,ekv];rw[Sem.run_bind,s w' f];rfl
    .cases h
   .cases h
  .cases h
 .cases h
end
section
variable{P:Program}{E:TE}{z:Fz}{g:Ga}{nx:Nat}
variable{L:Nat->Option (SV E)}{H:Nat->Option (Obj E)}{ρ:Operand->Value}{W w0:World}{I:World->Prop}{o:Oper}{R:Type}{k:SV E->Up E->Option R}{r:R}{Bs:List Nat}{F0:Nat->Prop}
structure Li(E:TE) where (t:Ty) (xs:List (Den E.S t))
def SC.fro(H:Nat->Option (Obj E)):SC E->Option (Li E)
 | .dt (.sl t) xs=>some ⟨t,xs⟩
 | .own id=>match H id with
  | some (.fr t xs)=>some ⟨t,xs⟩
  | _=>none
 | _=>none
theorem SlF.stand{c n:Nat}{A:Option Addr}{rows:List (List Value)}{w:World}(h:SlF z.F c A n rows z.w)(p:z.In w):SlF z.F c A n rows w :=
 ⟨h.1,λs=>by
  obtain⟨b,off,e,m,f⟩:=h.2 s;exact⟨b,off,e,m,λi r hr=>⟨(f i r hr).1,λj u q=>(World.cell?_of_block (w:=z.w) (p b m).2).trans ((f i r hr).2 j u q)⟩⟩⟩
theorem SC.fro_ok{c:SC E}{v:Value}{l:Li E}{w:World}(x:HR P E Bs F0 w0 w z g H)(h:c.fro H=some l)(hr:RC P E z g c v) :
  ∃A cap rows,v = .slice A l.xs.length cap/\SlF z.F (E.size l.t) A l.xs.length rows z.w/\l.xs.length<=cap/\Rows E z l.t l.xs rows:=by
 unfold SC.fro at h;split at h
 .obtain rfl:=qSj h;obtain⟨A,cap,rows,vs',e,m,q,p,_⟩:=RD.sl_inv (hr:RD E z _ _ [v]);simp at e;exact⟨A,cap,rows,e.1,m,q,p⟩
 .split at h
  .rename_i t xs hi;obtain rfl:=qSj h;obtain⟨lo,y,rfl⟩:=hr;obtain⟨C,rows,s,u,q,m,f,j⟩:=x.hold _ _ hi;rw[y]at s;obtain rfl:=qSj s;rw[u]at m f ⊢;rw[q]at m;exact⟨_,_,rows,rfl,m,f,j⟩
  .cases h
 .cases h
def qe_ (P:Program) (E:TE) (L:Nat->Option (SV E)) (H:Nat->Option (Obj E)) (nx:Nat) (T:TypeId) (x i:Operand) {R:Type} (k:SV E->Up E->Option R):Option R :=
 match opS E L x,opS E L i,P.underlying T with
 | some (.v (.one c)),some (.v (.one (.dt (.int _) n))),some (.slice e)=>match c.fro H with
  | some l=>match bq_ P e with
   | some s=>match Nat.beq s (E.size l.t)with
    | true=>Option.bind (an_ l.xs n) λy=>k (.v (.one (.elf l.t y 0))) none
    | false=>none
   | none=>none
  | none=>match c with
   | .own id=>match H id with
    | some (.row e' t xs foc)=>match bq_ P e with
     | some s=>match Nat.beq s (E.size t)with
      | true=>Option.bind (an_ xs n) λy=>k (.v (.one (.elo id nx n 0))) (some (id,.row e' t xs ((nx,n,y)::foc)))
      | false=>none
     | none=>none
    | _=>none
   | _=>none
 | _,_,_=>none
theorem x8_ {T:TypeId} {x i:Operand} (ho:o.op = .indexAddr T x i) (ZQ:g nx=none) (hρ:OpR P E z g L ρ) (hH:HR P E Bs F0 w0 W z g H) (hI:∀w',I w'->Stands z g H W w') (h:qe_ P E L H nx T x i k=some r):Good P E z g nx I H ρ o k r:=by
 unfold qe_ at h;split at h
 .rename_i c ki n e hx hi hu;have hv:=hρ x _ hx;have hn:=SV.int_ok rfl (hρ i _ hi);split at h
  .rename_i l hl;split at h
   .rename_i s hs;split at h
    .rename_i hb;obtain rfl:=qNb hb;obtain⟨y,hy,h⟩:=bind_some h;obtain⟨A,cap,rows,ev,f,ZL,C⟩:=SC.fro_ok hH hl hv;obtain⟨h0,ZY,ZU⟩:=ge_ hy;have ZS:n.toNat<rows.length:=by rw[f.1];exact ZU
     obtain⟨b,off,rfl,hF,ZZ⟩:=f.2 (by omega);refine .mk' h (v := .pointer (some ⟨b,off+n.toNat*E.size l.t,none⟩)) ⟨b,off+n.toNat*E.size l.t,_,by rw[jF],hF,C n.toNat y _ ZY (qQ ZS),λj u hu=>(ZZ n.toNat _ (qQ ZS)).2 j u hu⟩ λw' J => ?_
     obtain⟨b',off',e',m⟩:=rb_ (P:=P) ho hu hs ev hn (f.stand (hI w' J).1) rfl hy;simp only[qOi,Addr.mk.injEq]at e';obtain⟨rfl,rfl,_⟩:=e';exact m
    .cases h
   .cases h
  .split at h
   .rename_i id _;split at h
    .rename_i e' t xs foc Y;split at h
     .rename_i s hs;split at h
      .rename_i hb;obtain rfl:=qNb hb;obtain⟨y,hy,h⟩:=bind_some h;obtain⟨lo,h1,ev⟩:=hv;obtain⟨h0,ZY,ZU⟩:=ge_ hy;have hh:=hH.hold _ _ Y;obtain⟨l',rows,h2,ZO,hc,ZV,ZT,ZR,C,ZM⟩:=hh;rw[h1]at h2;obtain rfl:=qSj h2;have f:=ht_ (w:=W) (e:=e') (cap:=lo.cap) ⟨ZV,ZT,ZR⟩;obtain⟨b,off,hA,_,_⟩:=f.2 (by omega);have D:g.Le (g.put nx ⟨none,off+n.toNat*lo.c,0,0,b,n⟩):=Ga.le_put ZQ;refine⟨_,.pointer (some ⟨b,off+n.toNat*lo.c,none⟩),_,_,h,D,λi hi=>Ga.put_ne _ _ hi,⟨_,Ga.put_self _ _ _,rfl,by rw[jF]⟩,λw' J => ?_,?_⟩
       .have hw:=(hI w' J).hold hH _ _ Y;obtain⟨l2,rows2,h3,ZK,ZJ,O,V,ZW,_,_⟩:=hw;rw[h1]at h3;obtain rfl:=qSj h3;have G:=ht_ (w:=w') (e:=e') (cap:=lo.cap) ⟨O,V,ZW⟩;rw[hc]at G;obtain⟨b',off',e2,m⟩:=rb_ (P:=P) ho hu hs ev hn G ZO.symm hy;rw[hA]at e2;simp only[qOi,Addr.mk.injEq]at e2;obtain⟨rfl,rfl,_⟩:=e2;rw[hc];exact m
       .refine⟨_,Y,λz w hq => ?_,λq => ?_⟩
        .obtain⟨l3,rows3,h4,ZP,ZN,M,U,ZX,F,Z⟩:=hq;rw[h1]at h4;obtain rfl:=qSj h4;refine⟨_,rows3,D _ _ h1,ZP,ZN,M,U,ZX,F,λp hp => ?_⟩;rcases qW.1 hp with rfl|hp
         .exact⟨hy,_,off,Ga.put_self _ _ _,hA,rfl,rfl⟩
         .obtain⟨h7,lq,o2,h8,h9⟩:=Z p hp;exact⟨h7,lq,o2,D _ _ h8,h9⟩
        .constructor
         .rintro⟨l3,a3,h4,h5,h6⟩;rw[D _ _ h1]at h4;obtain rfl:=qSj h4;exact⟨_,a3,h1,h5,h6⟩
         .rintro⟨l3,a3,h4,h5,h6⟩;exact⟨_,a3,D _ _ h4,h5,h6⟩
      .cases h
     .cases h
    .cases h
   .cases h
 .cases h
def aimA{R:Type}(i:Int):Nat->Nat->(Nat->Option R)->Option R|_,0,_=>none|j,n+1,k=>bif i==(j:Int)then k j else aimA i (j+1) n k
theorem aimA_some{R:Type}{i:Int}{r:R}{k:Nat->Option R}:∀{j n:Nat},aimA i j n k=some r->∃m:Nat,i=(m:Int)/\m<j+n/\k m=some r
 | _,0,h=>by cases h
 | j,n+1,h=>by
  unfold aimA at h;cases f:i==(j:Int)with
  | true =>
   rw[f]at h;exact⟨j,by simpa using f,by omega,h⟩
  | false =>
   rw[f]at h;obtain⟨m,q,s,p⟩:=aimA_some h;exact⟨m,q,by omega,p⟩
def SC.atI(n:Int):SC E->Option (SC E) | .ptr id 0=>some (.pix id n) | .elf t x 0=>some (.efx t x n)|_=>none
theorem SC.atI_ok{n:Int}{c f:SC E}{v:Value}(h:c.atI n=some f)(hr:RC P E z g c v):∃b off,v = .pointer (some ⟨b,off,none⟩)/\RC P E z g f (.pointer (some ⟨b,off+n.toNat,none⟩)):=by
 unfold SC.atI at h;split at h
 .obtain rfl:=qSj h;obtain⟨l,m,rfl⟩:=hr;exact⟨_,_,rfl,l,m,by rw[qo]⟩
 .obtain rfl:=qSj h;obtain⟨b,q,rr,rfl,j⟩:=hr;exact⟨_,_,rfl,b,q,rr,rfl,j⟩
 .cases h
def rC_(P:Program)(E:TE)(L:Nat->Option (SV E))(m:Nat)(e:TypeId)(x i:Operand){R:Type}(k:SV E->Up E->Option R):Option R :=
 match i with
 | .const (.int _ (.ofNat j))=>match opS E L x,bq_ P e with
  | some (.v (.one c)),some s=>match Nat.blt j m,c.shift (j*s)with
   | true,some f=>k (.v (.one f)) none
   | _,_=>none
  | _,_=>none
 | i=>match opS E L x,opS E L i,bq_ P e,P.underlying e with
  | some (.v (.one c)),some (.v (.one (.dt (.int _) n))),some 1,some (.int .u32)=>match c.atI n with
   | some f=>Option.bind (do_ m n) λ_=>k (.v (.one f)) none
   | none=>none
  | some (.v (.one c)),some (.v (.one (.dt (.int _) n))),some s,_=>aimA n 0 m λj=>match c.shift (j*s)with
   | some f=>k (.v (.one f)) none
   | none=>none
  | _,_,_,_=>none
theorem qIndexArr_ok{T:TypeId}{m:Nat}{e:TypeId}{x i:Operand}(G:o.op = .indexAddr T x i)(F:P.underlying T=some (.array m e))(hρ:OpR P E z g L ρ)(h:rC_ P E L m e x i k=some r):Good P E z g nx I H ρ o k r:=by
 have goal:∀{c y:SC E} {ki:IntKind} {j s:Nat},opS E L x=some (.v (.one c))->bq_ P e=some s->j<m->ρ i = .int ki (.ofNat j)->c.shift (j*s)=some y->k (.v (.one y)) none=some r->Good P E z g nx I H ρ o k r:=by
  intro c y ki j s f p J M q h;obtain⟨b,off,C,hr⟩:=SC.shift_ok q (hρ x _ f);refine .mk' h (v := .pointer (some ⟨b,off+j*s,none⟩)) hr λw' _ => ?_
  exact rx_ (i := .ofNat j) (u:=()) G F p C M (by unfold do_;rw[qV ⟨Int.natCast_nonneg j,by simpa using J⟩])
 unfold rC_ at h;split at h
 .rename_i ki j;split at h
  .rename_i c s f p;split at h
   .rename_i y D q;exact goal f p (by simpa using D) (SV.int_ok rfl (hρ (.const (.int ki (.ofNat j))) (.v (.one (.dt (.int ki) (.ofNat j)))) rfl)) q h
   .cases h
  .cases h
 .split at h
  .rename_i c _ ki n f hi p O;split at h
   .rename_i y q;obtain⟨u,D,h⟩:=bind_some h;obtain⟨b,off,C,hr⟩:=SC.atI_ok q (hρ x _ f);refine .mk' h (v := .pointer (some ⟨b,off+n.toNat,none⟩)) hr λw' _ => ?_
    have:=rx_ (P:=P) (w:=w') G F p C (SV.int_ok rfl (hρ _ _ hi)) D
    rwa [Nat.mul_one]at this
   .cases h
  .rename_i c _ ki n s f hi p _;obtain⟨j,rfl,J,h⟩:=aimA_some h;split at h
   .rename_i y q;exact goal f p (by omega) (SV.int_ok rfl (hρ _ _ hi)) q h
   .cases h
  .cases h
def bndS(E:TE)(L:Nat->Option (SV E)):Option Operand->Option (Option Int)
 | none=>some none
 | some x=>match opS E L x with
  | some (.v (.one (.dt (.int _) n)))=>some (some n)
  | _=>none
theorem jM_{lo:Option Operand}{l:Option Int}(hρ:OpR P E z g L ρ)(h:bndS E L lo=some l):jK_ ρ lo l:=by
 unfold bndS at h;split at h
 .obtain rfl:=qSj h;trivial
 .split at h
  .rename_i x y ki n f;obtain rfl:=qSj h;exact⟨ki,SV.int_ok rfl (hρ x _ f)⟩
  .cases h
def hiD(n:Int):Option Int->Int|some h=>h|none=>n
theorem hiD_eq(n:Int)(h:Option Int):hiD n h=h.getD n:=by cases h<;>rfl
def qSlice (P:Program) (E:TE) (L:Nat->Option (SV E)) (H:Nat->Option (Obj E)) (T:TypeId) (x:Operand) (lo hi:Option Operand) {R:Type} (k:SV E->Up E->Option R):Option R :=
 match opS E L x,bndS E L lo,bndS E L hi,P.underlying T with
 | some (.v (.one (.dt .str s))),some l,some h,some .string=>Option.bind (bI_ s (hiD 0 l) (hiD (s.length:Int) h)) λy=>k (.v (.one (.dt .str y))) none
 | some (.v (.one c)),some l,some h,some (.slice e)=>match c.fro H with
  | some li=>match bq_ P e with
   | some s=>match Nat.beq s (E.size li.t)with
    | true=>Option.bind (bI_ li.xs (hiD 0 l) (hiD (li.xs.length:Int) h)) λy=>k (.v (.one (.dt (.sl li.t) y))) none
    | false=>none
   | none=>none
  | none=>match c,l,h with
   | .own id,none,some n=>match H id with
    | some (.row _ _ xs _)=>match bq_ P e with
     | some _=>Option.bind (bI_ xs 0 n) λ_=>k (.v (.one (.pre id n))) none
     | none=>none
    | _=>none
   | .own id,some n,none=>match H id with
    | some (.row _ t xs _)=>match bq_ P e with
     | some s=>match Nat.beq s (E.size t)with
      | true=>Option.bind (bI_ xs n (xs.length:Int)) λ_=>k (.v (.one (.suf id n))) none
      | false=>none
     | none=>none
    | _=>none
   | _,_,_=>none
 | _,_,_,_=>none
theorem qf_{t:Ty}{xs:List (Den E.S t)}{rows:List (List Value)}(h:Rows E z t xs rows)(a b:Nat):Rows E z t ((xs.take b).drop a) ((rows.take b).drop a):=by
 intro i x r f hr;rw[zA,zX]at f hr;split at f
 .rename_i j;rw[qV j]at hr;exact h _ x r f hr
 .cases f
theorem qSlice_ok{T:TypeId}{x:Operand}{lo hi:Option Operand}(Z:o.op = .slice T x lo hi none)(hρ:OpR P E z g L ρ)(hH:HR P E Bs F0 w0 W z g H)(h:qSlice P E L H T x lo hi k=some r):Good P E z g nx I H ρ o k r:=by
 unfold qSlice at h;split at h
 .rename_i s l D hx O m G;obtain⟨y,q,h⟩:=bind_some h;rw[hiD_eq,hiD_eq]at q;exact .mk' h (v:=S y) (.str .nil) λw' _=>run_str_sub Z G (SV.str_ok rfl (hρ x _ hx)) (jM_ hρ O) (jM_ hρ m) q
 .rename_i c l D e hx O m G;have hv:=hρ x _ hx;split at h
  .rename_i li ZY;split at h
   .rename_i s M;split at h
    .rename_i hb;obtain rfl:=qNb hb;obtain⟨y,q,h⟩:=bind_some h;rw[hiD_eq,hiD_eq]at q;obtain⟨A,cap,rows,ev,ZZ,p,u⟩:=SC.fro_ok hH ZY hv;obtain⟨h0,h1,h2,rfl⟩:=md_ q;have U:=SlF.cut ZZ p (lo:=(l.getD 0).toNat) (hi:=(D.getD li.xs.length).toNat) (by omega) (by omega);have j:((li.xs.take (D.getD (li.xs.length:Int)).toNat).drop (l.getD 0).toNat).length=(D.getD (li.xs.length:Int)).toNat-(l.getD 0).toNat:=by
      simp;omega
     refine .mk' h (v := .slice (cutA A (E.size li.t) (l.getD 0).toNat cap) ((D.getD (li.xs.length:Int)).toNat-(l.getD 0).toNat) (cap-(l.getD 0).toNat)) ?_ λw' _=>run_cut Z G M ev (jM_ hρ O) (jM_ hρ m) h0 h1 (by omega)
     have J:SlF z.F (E.size li.t) (cutA A (E.size li.t) (l.getD 0).toNat cap) ((li.xs.take (D.getD (li.xs.length:Int)).toNat).drop (l.getD 0).toNat).length ((rows.take (D.getD (li.xs.length:Int)).toNat).drop (l.getD 0).toNat) z.w:=by rw[j];exact U
     have:=RD.sl (E:=E) J (cap:=cap-(l.getD 0).toNat) (by rw[j];omega) (qf_ u _ _) (.nil (h:=()));rw[j]at this;exact this
    .cases h
   .cases h
  .split at h
   .rename_i id n _;split at h
    .rename_i e' t xs foc C;split at h
     .rename_i s M;obtain⟨y,q,h⟩:=bind_some h;obtain⟨h0,h1,h2,_⟩:=md_ q;obtain⟨lo',Y,ev⟩:=hv;obtain⟨l',rows,V,hn,hc,f,_⟩:=hH.hold _ _ C;rw[Y]at V;obtain rfl:=qSj V;have p:=(Own.cap_le f).1;refine .mk' h (v := .slice lo'.A n.toNat lo'.cap) ⟨lo',Y,rfl⟩ λw' _ => ?_
      have:=run_cut (P:=P) (w:=w') (c:=s) Z G M ev (jM_ hρ O) (jM_ hρ m) (Int.le_refl 0) (show(0:Int)<=(some n).getD _ from h1) (show(some n).getD _<=_ from by simp only[zw];omega);simp only[jl,zw,Int.toNat_zero,Nat.sub_zero,cutA]at this;rw[this];split
      .rename_i hz;cases hA:lo'.A<;>simp_all
      .cases hA:lo'.A with
       | none=>rfl
       | some a=>simp[Addr.add]
     .cases h
    .cases h
   .rename_i id n _;split at h
    .rename_i e' t xs foc C;split at h
     .rename_i s M;split at h
      .rename_i hb;obtain rfl:=qNb hb;obtain⟨y,q,h⟩:=bind_some h;obtain⟨h0,h1,h2,_⟩:=md_ q;obtain⟨lo',Y,ev⟩:=hv;obtain⟨l',rows,V,hn,hc,f,_⟩:=hH.hold _ _ C;rw[Y]at V;obtain rfl:=qSj V;have p:=(Own.cap_le f).1;refine .mk' h (v := .slice (cutA lo'.A lo'.c n.toNat lo'.cap) (lo'.n-n.toNat) (lo'.cap-n.toNat)) ⟨lo',Y,by omega,rfl⟩ λw' _ => ?_
       have:=run_cut (P:=P) (w:=w') (c:=E.size t) Z G M ev (jM_ hρ O) (jM_ hρ m) (show(0:Int)<=(some n).getD 0 from h0) (show(some n).getD 0<=(none:Option Int).getD _ from by simp only[zw,jl];omega) (show(none:Option Int).getD _<=_ from by simp only[jl];omega);simp only[jl,zw,qTn]at this;rw[this,hc]
      .cases h
     .cases h
    .cases h
   .cases h
 .cases h
def SC.len?(H:Nat->Option (Obj E)):SC E->Option Int
 | .dt (.sl _) xs=>some (xs.length:Int)
 | .own id=>match H id with
  | some (.row _ _ xs _)=>some (xs.length:Int)
  | some (.fr _ xs)=>some (xs.length:Int)
  | _=>none
 | .nils=>some 0
 | _=>none
theorem SC.len_ok{c:SC E}{v:Value}{n:Int}{w:World}(q:HR P E Bs F0 w0 w z g H)(h:c.len? H=some n)(hr:RC P E z g c v):∃A m cap,v = .slice A m cap/\n=(m:Int):=by
 unfold SC.len? at h;split at h
 .obtain rfl:=qSj h;obtain⟨A,cap,rows,vs',e,_⟩:=RD.sl_inv (hr:RD E z _ _ [v]);simp at e;exact⟨A,_,cap,e.1,rfl⟩
 .split at h
  .rename_i hi;obtain rfl:=qSj h;obtain⟨lo,p,rfl⟩:=hr;obtain⟨s,rows,f,j,_⟩:=q.hold _ _ hi;rw[p]at f;obtain rfl:=qSj f;exact⟨_,_,_,rfl,by rw[j]⟩
  .rename_i hi;obtain rfl:=qSj h;obtain⟨lo,p,rfl⟩:=hr;obtain⟨s,rows,f,j,_⟩:=q.hold _ _ hi;rw[p]at f;obtain rfl:=qSj f;exact⟨_,_,_,rfl,by rw[j]⟩
  .cases h
 .obtain rfl:=qSj h;simp only[RC]at hr;subst hr;exact⟨none,0,0,rfl,rfl⟩
 .cases h
theorem uw_{b:Builtin}{xs:Array Operand}{ats:Array TypeId}(f:o.op = .call { callee := .builtin b,args:=xs,argTypes:=ats }):∃cs,execOp ρ o=builtin b ats o.type cs (xs.map ρ):=by
 obtain⟨dst,op,ty',pos,after,guard⟩:=o;simp only at f;subst f;exact⟨_,BigFrame.execOp_builtin ρ dst b xs ats ty' pos after guard⟩
def qLen(P:Program)(E:TE)(L:Nat->Option (SV E))(H:Nat->Option (Obj E))(T:TypeId)(x:Operand){R:Type}(k:SV E->Up E->Option R):Option R :=
 match opS E L x,P.underlying T with
 | some (.v (.one (.dt .str s))),some .string=>k (.v (.one (.dt (.int .i64) (s.length:Int)))) none
 | some (.v (.one c)),some (.slice _)=>match c.len? H with
  | some n=>k (.v (.one (.dt (.int .i64) n))) none
  | none=>none
 | _,_=>none
theorem qLen_ok{T:TypeId}{x:Operand}(u:o.op = .call { callee := .builtin .len,args := #[x],argTypes := #[T] })(hρ:OpR P E z g L ρ)(C:HR P E Bs F0 w0 W z g H)(h:qLen P E L H T x k=some r):Good P E z g nx I H ρ o k r:=by
 unfold qLen at h;obtain⟨cs,f⟩:=uw_ (ρ:=ρ) u;rw[BigFrame.builtin_len]at f;split at h
 .rename_i s j p;have q:=SV.str_ok rfl (hρ x _ j);refine .mk' h (v := .int .i64 (s.length:Int)) (.int .nil) λw' _ => ?_
  rw[f];simp[q,S,Builtin.len_,run_underlying p,size_mk,goInt]
 .rename_i c e j p;split at h
  .rename_i n y;obtain⟨A,m,cap,ev,rfl⟩:=SC.len_ok C y (hρ x _ j);refine .mk' h (v := .int .i64 (m:Int)) (.int .nil) λw' _ => ?_
   rw[f];simp[ev,Builtin.len_,run_underlying p,goInt]
  .cases h
 .cases h
def mX_(P:Program)(E:TE)(T:TypeId):Option (List (SC E)):=match zeroOf P T with|some zs=>k2_ E zs|none=>none
def k5_(l:List (SC E))(off:Nat)(cs:List (SC E)):List (SC E):=l.take off++cs++l.drop (off+cs.length)
theorem mY_{l cs:List (SC E)}{vs us:List Value}(off:Nat)(h:All2 (RC P E z g) l vs)(f:All2 (RC P E z g) cs us):All2 (RC P E z g) (k5_ l off cs) (splice vs off us):=by
 unfold k5_ splice;rw[f.len];exact((h.take off).append f).append (h.drop _)
def buildC (P:Program) (E:TE) (L:Nat->Option (SV E)) (fs:Array Field):List (Nat×Operand)->List (SC E)->Option (List (SC E))
 | [],l=>some l
 | (i,x)::rest,l=>match fs[i]?,opS E L x with
  | some q,some s=>match bq_ P q.type,s.cells? with
   | some n,some cs=>match Nat.beq n cs.length&&Nat.ble (q.offset+cs.length) l.length with
    | true=>buildC P E L fs rest (k5_ l q.offset cs)
    | false=>none
   | _,_=>none
  | _,_=>none
theorem o6_:∀(us:List Value) (k off:Nat) (cells:Array Value),off+k+us.length<=cells.size ->
  ((us.zipIdx k).foldl (λcs (p:Value×Nat)=>cs.setIfInBounds (off+p.2) p.1) cells).toList=splice cells.toList (off+k) us
 | [],k,off,cells,_=>by simp[splice]
 | u::us,k,off,cells,h=>by
  simp only[List.zipIdx_cons,List.foldl_cons];have m:(u::us).length=us.length+1:=rfl;rw[o6_ us (k+1) off _ (by simp;omega)];simp only[splice,Array.toList_setIfInBounds];have f:cells.toList.length=cells.size:=qi
  apply zL;intro j;simp only[List.getElem?_append,zX,zA,zT,qb,qLa,List.length_set,qLc,List.getElem?_cons]
  repeat' split
  all_goals first
   | rfl
   | omega
   | (congr 1;omega)
   | (exfalso;omega)
   | (rename_i a b;simp_all;done)
   | skip
theorem ux_{fs:Array Field}{places:Array (Nat×Nat)}(y:∀(i:Nat) (q:Field) (n:Nat),fs[i]? = some q->bq_ P q.type=some n->places[i]? = some (q.offset,n))(hρ:OpR P E z g L ρ) :
  ∀{ps:List (Nat×Operand)} {l m:List (SC E)} {cells:Array Value},buildC P E L fs ps l=some m->All2 (RC P E z g) l cells.toList ->
   ∃cells',Instr.fill (λi=>places[i]?) cells (ps.map λp=>(p.1,ρ p.2))=some cells'/\All2 (RC P E z g) m cells'.toList
 | [],l,m,cells,h,hr=>by
  simp only[buildC,qOi]at h;subst h;exact⟨cells,rfl,hr⟩
 | (i, x)::rest,l,m,cells,h,hr=>by
  simp only[buildC]at h;split at h
  .rename_i q s J G;split at h
   .rename_i n cs M U;split at h
    .rename_i u;simp only[qAn]at u;have Y:=qNb u.1;have V:=qx u.2;have j:=SV.cells_ok U (hρ x _ G);have C:cs.length=(ρ x).cells.size:=by rw[j.len,qi]
     have O:l.length=cells.size:=by rw[hr.len,qi]
     have F:(ρ x).cells.size=n:=by omega
     have D:q.offset+(ρ x).cells.size<=cells.size:=by omega
     have f:=ux_ y hρ h (cells:=((ρ x).cells.zipIdx.foldl (λcs (p:Value×Nat)=>cs.setIfInBounds (q.offset+p.2) p.1) cells)) (by
      have e:(ρ x).cells.zipIdx.foldl (λcs (p:Value×Nat)=>cs.setIfInBounds (q.offset+p.2) p.1) cells=(((ρ x).cells.toList.zipIdx 0).foldl (λcs (p:Value×Nat)=>cs.setIfInBounds (q.offset+p.2) p.1) cells):=by
       rw[←Array.foldl_toList,Array.toList_zipIdx]
      rw[e,o6_ _ 0 q.offset cells (by rw[qi];omega),jF];exact mY_ _ hr j)
     obtain⟨cells',h1,Z⟩:=f;refine⟨cells',?_,Z⟩;simp only[zB,Instr.fill,y i q n J M];rw[qX (by simp;omega)];exact h1
    .cases h
   .cases h
  .cases h
def sizesB(P:Program):List Field->Bool
 | []=>true
 | q::fs=>(match bq_ P q.type with|some _=>true|none=>false)&&sizesB P fs
def placesOf(P:Program)(fs:List Field):List (Nat×Nat):=fs.map λq=>(q.offset,(bq_ P q.type).getD 0)
theorem place_run{q:Field}{n:Nat}(f:bq_ P q.type=some n)(w:World):(Functor.map (Prod.mk q.offset) (sizeOf q.type)).run P w = .ok (q.offset,n) w:=by
 cases hi:P.info? q.type with
 | none=>simp[bq_,hi]at f
 | some inf =>
  have:inf.size=n:=by simpa[bq_,hi]using f
  simp[sizeOf,typeInfo,hi,this]
theorem uz_(w:World):∀{fs:List Field},sizesB P fs=true->(fs.mapM λf=>Functor.map (Prod.mk f.offset) (sizeOf f.type)).run P w = .ok (placesOf P fs) w
 | [],_=>rfl
 | q::fs,h=>by
  simp only[sizesB,qAn]at h;have p:=uz_ w h.2;cases j:bq_ P q.type with
  | none=>rw[j]at h;simp at h
  | some n =>
   have m:=place_run (P:=P) j w;rw[List.mapM_cons,Sem.run_bind,m];simp only[Result.andThen_ok,Sem.run_bind,p,Sem.run_pure];simp[placesOf,j]
theorem places_get{fs:Array Field}(i:Nat)(q:Field)(n:Nat)(f:fs[i]? = some q)(h:bq_ P q.type=some n):(placesOf P fs.toList).toArray[i]? = some (q.offset,n):=by
 simp[placesOf,f,h]
def py_ (E:TE) (L:Nat->Option (SV E)) (s:Nat):List (Nat×Operand)->List (SC E)->Option (List (SC E))
 | [],l=>some l
 | (i,x)::rest,l=>match opS E L x with
  | some v=>match v.cells? with
   | some cs=>match Nat.beq s cs.length&&Nat.ble (i*s+cs.length) l.length with
    | true=>py_ E L s rest (k5_ l (i*s) cs)
    | false=>none
   | none=>none
  | none=>none
theorem o7_{s:Nat}(hρ:OpR P E z g L ρ):∀{ps:List (Nat×Operand)} {l m:List (SC E)} {cells:Array Value},py_ E L s ps l=some m->All2 (RC P E z g) l cells.toList ->
   ∃cells',Instr.fill (λi=>some (i*s,s)) cells (ps.map λp=>(p.1,ρ p.2))=some cells'/\All2 (RC P E z g) m cells'.toList
 | [],l,m,cells,h,hr=>by
  simp only[py_,qOi]at h;subst h;exact⟨cells,rfl,hr⟩
 | (i, x)::rest,l,m,cells,h,hr=>by
  simp only[py_]at h;split at h
  .rename_i v y;split at h
   .rename_i cs D;split at h
    .rename_i q;simp only[qAn]at q;have G:=qNb q.1;have F:=qx q.2;have j:=SV.cells_ok D (hρ x _ y);have u:cs.length=(ρ x).cells.size:=by rw[j.len,qi]
     have C:l.length=cells.size:=by rw[hr.len,qi]
     have f:=o7_ hρ h (cells:=((ρ x).cells.zipIdx.foldl (λcs (p:Value×Nat)=>cs.setIfInBounds (i*s+p.2) p.1) cells)) (by
      have e:(ρ x).cells.zipIdx.foldl (λcs (p:Value×Nat)=>cs.setIfInBounds (i*s+p.2) p.1) cells=(((ρ x).cells.toList.zipIdx 0).foldl (λcs (p:Value×Nat)=>cs.setIfInBounds (i*s+p.2) p.1) cells):=by
       rw[←Array.foldl_toList,Array.toList_zipIdx]
      rw[e,o6_ _ 0 (i*s) cells (by rw[qi];omega),jF];exact mY_ _ hr j)
     obtain⟨cells',M,J⟩:=f;refine⟨cells',?_,J⟩;simp only[zB,Instr.fill];rw[qX (by simp;omega)];exact M
    .cases h
   .cases h
  .cases h
def rE_(P:Program)(E:TE)(L:Nat->Option (SV E))(T e:TypeId)(ps:Array (Nat×Operand)){R:Type}(k:SV E->Up E->Option R):Option R :=
 match mX_ P E T,bq_ P e with
 | some l,some s=>match py_ E L s ps.toList l with
  | some f=>k (.v (.agg f)) none
  | none=>none
 | _,_=>none
def qBuild(P:Program)(E:TE)(L:Nat->Option (SV E))(T:TypeId)(ps:Array (Nat×Operand)){R:Type}(k:SV E->Up E->Option R):Option R :=
 match P.underlying T with
 | some (.struct fs)=>match mX_ P E T with
  | some l=>match sizesB P fs.toList,buildC P E L fs ps.toList l with
   | true,some f=>k (.v (.agg f)) none
   | _,_=>none
  | none=>none
 | some (.array _ e)=>rE_ P E L T e ps k
 | _=>none
theorem qBuildArr_ok{T e:TypeId}{m:Nat}{ps:Array (Nat×Operand)}(F:o.op = .build T ps)(D:P.underlying T=some (.array m e))(hρ:OpR P E z g L ρ)(h:rE_ P E L T e ps k=some r):Good P E z g nx I H ρ o k r:=by
 unfold rE_ at h;split at h
 .rename_i l s j x;split at h
  .rename_i J G;unfold mX_ at j;split at j
   .rename_i zs f;have q:All2 (RC P E z g) l zs:=h0_ j;obtain⟨cells',C,hr⟩:=o7_ hρ G (cells:=zs.toArray) q;refine .mk' h (v := .agg cells') ⟨cells'.toList,rfl,hr⟩ λw' _ => ?_
    unfold zeroOf at f;split at f
    .rename_i inf hi;split at f
     .rename_i zv p;obtain rfl:=qSj f;unfold bq_ at x;cases y:P.info? e with
      | none=>simp[y]at x
      | some inf2 =>
       have u:inf2.size=s:=by simpa[y]using x
       unfold execOp;rw[F];simp only[Instr.build];simp[Sem.run_bind,zeroValue,typeInfo,hi,p,run_underlying D,sizeOf,y,u];simp only[zW]at C;rw[C];rfl
     .cases f
    .cases f
   .cases j
  .cases h
 .cases h
theorem qBuild_ok {T:TypeId} {ps:Array (Nat×Operand)} (C:o.op = .build T ps) (hρ:OpR P E z g L ρ) (h:qBuild P E L T ps k=some r):Good P E z g nx I H ρ o k r:=by
 unfold qBuild at h;split at h
 .rename_i fs u;split at h
  case h_2=>cases h
  rename_i l p;split at h
  .rename_i M x F;unfold mX_ at p;split at p
   .rename_i zs j;have s:All2 (RC P E z g) l zs:=h0_ p;obtain⟨cells',D,hr⟩:=ux_ (places:=(placesOf P fs.toList).toArray) places_get hρ F (cells:=zs.toArray) s;refine .mk' h (v := .agg cells') ⟨cells'.toList,rfl,hr⟩ λw' _ => ?_
    have y:=uz_ (P:=P) w' x;unfold zeroOf at j;split at j
    .rename_i inf hi;split at j
     .rename_i zv q;obtain rfl:=qSj j;have J:(fs.mapM λf=>Functor.map (Prod.mk f.offset) (sizeOf f.type)).run P w' = .ok (placesOf P fs.toList).toArray w':=by
       have G:(fs.mapM λf=>Functor.map (Prod.mk f.offset) (sizeOf f.type):Sem (Array (Nat×Nat)))=(Functor.map List.toArray (fs.toList.mapM λf=>Functor.map (Prod.mk f.offset) (sizeOf f.type))):=by
        rw[←List.mapM_toArray]
       rw[G,map_eq_pure_bind,Sem.run_bind,y];rfl
      unfold execOp;rw[C];simp only[Instr.build];simp[Sem.run_bind,zeroValue,typeInfo,hi,q,run_underlying u,J];simp only[zW,jj]at D;rw[D];rfl
     .cases j
    .cases j
   .cases p
  .cases h
 .rename_i m e u;exact qBuildArr_ok C u hρ h
 .cases h
def capsC(E:TE)(L:Nat->Option (SV E)):List Operand->Option (List Nat)
 | []=>some []
 | x::l=>match opS E L x with
  | some (.v (.one (.ptr id 0)))=>match capsC E L l with
   | some ids=>some (id::ids)
   | none=>none
  | _=>none
theorem capsC_ok(hρ:OpR P E z g L ρ):∀{xs:List Operand} {ids:List Nat},capsC E L xs=some ids->All2 (λid u=>∃l,g id=some l/\u=Value.pointer (some ⟨l.b,0,none⟩)) ids (xs.map ρ)
 | [],ids,h=>by simp only[capsC,qOi]at h;subst h;exact .nil
 | x::l,ids,h=>by
  simp only[capsC]at h;split at h
  .rename_i id f;split at h
   .rename_i ids' j;obtain rfl:=qSj h;exact .cons (hρ x _ f) (capsC_ok hρ j)
   .cases h
  .cases h
def ov_(E:TE)(L:Nat->Option (SV E))(f:Fn)(first caps:Array Operand){R:Type}(k:SV E->Up E->Option R):Option R:=match f,first.toList,capsC E L caps.toList with | .func f,[],some ids=>k (.v (.one (.clo f ids))) none|_,_,_=>none
theorem rF_{f:Fn}{first caps:Array Operand}(p:o.op = .makeFunc f first caps)(hρ:OpR P E z g L ρ)(h:ov_ E L f first caps k=some r):Good P E z g nx I H ρ o k r:=by
 unfold ov_ at h;split at h
 .rename_i f ids m q;have j:=capsC_ok hρ q;refine .mk' h (v := .func (.func f) #[] (caps.toList.map ρ).toArray) ⟨_,rfl,j⟩ λw' _ => ?_
  unfold execOp;rw[p];have:first = #[]:=by cases first;simp at m;subst m;rfl
  subst this;simp only[Instr.makeFunc,Sem.run_bind,Sem.run_pure,Result.andThen_ok];rw[show caps.map ρ=(caps.toList.map ρ).toArray by rw[←List.map_toArray]];simp
 .cases h
theorem qg_{kk:IntKind}:∀{xs:List Int} {rows:List (List Value)},Rows E z (.int kk) xs rows->rows.length=xs.length->rows=xs.map λb=>[Value.int kk b]:=by
 intro xs rows h j
 apply zL;intro i;rw[qm];by_cases hi:i<xs.length
 .rw[qQ hi,qQ (by omega)];have:=h i xs[i] _ (qQ hi) (qQ (by omega:i<rows.length));obtain⟨vs',e,f⟩:=RD.int_inv (this:RD E z [.int kk] (xs[i],()) _);rw[f.nil_inv]at e;rw[e];rfl
 .rw[qa (by omega),qa (by omega)];rfl
def SC.bytes(H:Nat->Option (Obj E)):SC E->Option (List Int)
 | .dt (.sl (.int .u8)) xs=>some xs
 | .own id=>match H id with
  | some (.fr (.int .u8) xs)=>some xs
  | some (.row _ (.int .u8) xs _)=>some xs
  | _=>none
 | .nils=>some []
 | _=>none
theorem SC.bytes_ok{c:SC E}{v:Value}{xs:List Int}{w':World}(M:HR P E Bs F0 w0 W z g H)(h:c.bytes H=some xs)(hr:RC P E z g c v)(s:Stands z g H W w') :
  ∃A n cap F,v = .slice A n cap/\SlF F 1 A n (xs.map λb=>[Value.int .u8 b]) w':=by
 unfold SC.bytes at h;split at h
 .rename_i C;obtain rfl:=qSj h;obtain⟨A,cap,rows,ev,f,y,j⟩:=SC.fro_ok (c := .dt (.sl (.int .u8)) C) M rfl hr;rw[qg_ j f.1]at f;exact⟨A,_,cap,_,ev,f.stand s.1⟩
 .rename_i id;split at h
  .rename_i C hi;obtain rfl:=qSj h;obtain⟨A,cap,rows,ev,f,y,j⟩:=SC.fro_ok (c := .own id) (l:=⟨.int .u8,C⟩) M (by simp only[SC.fro,hi]) hr;rw[qg_ j f.1]at f;exact⟨A,_,cap,_,ev,f.stand s.1⟩
  .rename_i e C foc hi;obtain rfl:=qSj h;obtain⟨l,U,rfl⟩:=hr;obtain⟨l2,rows2,O,D,G,u,p,x,q,_⟩:=s.hold M _ _ hi;rw[U]at O;obtain rfl:=qSj O;have m:=ht_ (w:=w') (e:=e) (cap:=l.cap) ⟨u,p,x⟩;rw[qg_ q (by rw[p,D])]at m;have J:l.c=1:=G;rw[J]at m;exact⟨_,_,_,_,rfl,m⟩
  .cases h
 .obtain rfl:=qSj h;simp only[RC]at hr;subst hr;exact⟨none,0,0,λ_=>False,rfl,SlF.nil _ _ _ _⟩
 .cases h
def qConv(P:Program)(E:TE)(L:Nat->Option (SV E))(H:Nat->Option (Obj E))(o:Oper)(src dst:TypeId)(x:Operand){R:Type}(k:SV E->Up E->Option R):Option R :=
 match opS E L x,P.underlying dst with
 | some (.v (.one (.dt (.int _) _))),some (.int _)=>mV_ P E L o k
 | some (.v (.one (.dt .str s))),some .string=>match P.underlying src with
  | some .string=>k (.v (.one (.dt .str s))) none
  | _=>none
 | some (.v (.one c)),some .string=>match P.underlying src with
  | some (.slice e)=>match P.underlying e,c.bytes H with
   | some (.int .u8),some xs=>k (.v (.one (.dt .str (bytesS xs)))) none
   | _,_=>none
  | _=>none
 | _,_=>none
theorem qConv_ok{src dst:TypeId}{x:Operand}(u:o.op = .convert src dst x)(hρ:OpR P E z g L ρ)(G:HR P E Bs F0 w0 W z g H)(D:∀w',I w'->Stands z g H W w')(h:qConv P E L H o src dst x k=some r):Good P E z g nx I H ρ o k r:=by
 unfold qConv at h;split at h
 .exact jt_ hρ h
 .rename_i s f q;split at h
  .rename_i p;have e:=SV.str_ok rfl (hρ x _ f);refine .mk' h (v:=S s) (.str .nil) λw' _ => ?_
   unfold execOp;rw[u];simp[e,S,convert,run_underlying p,run_underlying q]
  .cases h
 .rename_i c f q;split at h
  .rename_i e p;split at h
   .rename_i xs y C;refine .mk' h (v:=S (bytesS xs)) (.str .nil) λw' j => ?_
    obtain⟨A,n,cap,F,ev,m⟩:=SC.bytes_ok G C (hρ x _ f) (D w' j);exact x5_ u p y q ev m
   .cases h
  .cases h
 .cases h
noncomputable def qOp(P:Program)(E:TE)(eqs:List (Nat×Nat))(L:Nat->Option (SV E))(H:Nat->Option (Obj E))(nx:Nat)(o:Oper){R:Type}(k:SV E->Up E->Option R):Option R :=
 match o.op with
 | .move x=>qMove E L x k
 | .assign x=>qMove E L x k
 | .nilCheck x=>qNil E L x k
 | .extract x i=>qc_ E L x i k
 | .field T x f=>qField P E L T x f k
 | .load T x=>qLoad P E L H T x k
 | .fieldAddr T x f=>mW_ P E L T x f k
 | .unOp _ _ _=>mV_ P E L o k
 | .binOp op T x y _=>qBin P E L H eqs o op T x y k
 | .index T x i=>qIndex P E L T x i k
 | .indexAddr T x i=>match P.underlying T with
  | some (.array m e)=>rC_ P E L m e x i k
  | _=>qe_ P E L H nx T x i k
 | .slice T x lo hi none=>qSlice P E L H T x lo hi k
 | .convert src dst x=>qConv P E L H o src dst x k
 | .lookup T m x false=>qLookup P E eqs L H T m x k
 | .build T ps=>qBuild P E L T ps k
 | .makeFunc f first caps=>ov_ E L f first caps k
 | .call { callee := .builtin .len,args:=⟨[x]⟩,argTypes:=⟨[T]⟩ }=>qLen P E L H T x k
 | .call { callee := .builtin .max,args:=_,argTypes:=_ }=>mV_ P E L o k
 | .call { callee := .builtin .min,args:=_,argTypes:=_ }=>mV_ P E L o k
 | _=>none
theorem qOp_ok{eqs:List (Nat×Nat)}(s:∀p∈eqs,ba_ P E p.1 p.2)(C:g nx=none)(hρ:OpR P E z g L ρ)(q:HR P E Bs F0 w0 W z g H)(u:∀w',I w'->Stands z g H W w')(h:qOp P E eqs L H nx o k=some r):Good P E z g nx I H ρ o k r:=by
 unfold qOp at h;split at h
 case h_1 x j=>exact qb_ (.inl j) hρ h
 case h_2 x j=>exact qb_ (.inr j) hρ h
 case h_3 x j=>exact qNil_ok j hρ h
 case h_4 x i j=>exact tf_ j hρ h
 case h_5 T x f j=>exact qField_ok j hρ h
 case h_6 T x j=>exact qLoad_ok j hρ q u h
 case h_7 T x f j=>exact rc_ j hρ h
 case h_8=>exact jt_ hρ h
 case h_9 op T x y yt j=>exact qBin_ok j s hρ q h
 case h_10 T x i j=>exact qIndex_ok j hρ h
 case h_11 T x i j =>
  split at h
  .rename_i m e D;exact qIndexArr_ok j D hρ h
  .exact x8_ j C hρ q u h
 case h_12 T x lo hi j=>exact qSlice_ok j hρ q h
 case h_13 src dst x j=>exact qConv_ok j hρ q u h
 case h_14 T m x j=>exact qLookup_ok j s hρ q u h
 case h_15 T ps j=>exact qBuild_ok j hρ h
 case h_16 f first caps j=>exact rF_ j hρ h
 case h_17 x T j=>exact qLen_ok j hρ q h
 case h_18=>exact jt_ hρ h
 case h_19=>exact jt_ hρ h
 case h_20=>cases h
end
section
variable{P:Program}{E:TE}{z:Fz}{g:Ga}{nx:Nat}
variable{L:Nat->Option (SV E)}{H:Nat->Option (Obj E)}{ρ:Operand->Value}{w w0:World}{o:Oper}{R:Type}{r:R}{Bs:List Nat}{F0:Nat->Prop}
abbrev Chs(E:TE):=List (Nat×Option (Obj E))
def upH(H:Nat->Option (Obj E)):Chs E->Nat->Option (Obj E)
 | [],j=>H j
 | (i,o)::l,j=>match Nat.beq j i with
  | true=>o
  | false=>upH H l j
theorem aV_(H:Nat->Option (Obj E)):∀(l m:Chs E),upH (upH H m) l=upH H (l++m)
 | [],m=>rfl
 | (i,o)::l,m=>by
  funext j
  simp only[upH,qR];rw[aV_ H l m]
theorem ci_{i:Nat}{p q:Obj E}{j:Nat}(h:upH H [(i,some p)] j=some q):(j=i/\q=p)\/(j≠i/\H j=some q):=by
 simp only[upH]at h;split at h
 .rename_i f;exact .inl ⟨qNb f,(qSj h).symm⟩
 .rename_i f;exact .inr ⟨dC_ f,h⟩
theorem upH_two{i m:Nat}{p q:Obj E}{j:Nat}(h:upH H [(i,some p),(m,none)] j=some q):(j=i/\q=p)\/(j≠i/\j≠m/\H j=some q):=by
 simp only[upH]at h;split at h
 .rename_i s;exact .inl ⟨qNb s,(qSj h).symm⟩
 .rename_i s;split at h
  .cases h
  .rename_i f;exact .inr ⟨dC_ s,dC_ f,h⟩
def Fresh(g:Ga)(nx:Nat):Prop:=∀i,nx<=i->g i=none
theorem Fresh.put(h:Fresh g nx)(l:Loc):Fresh (g.put nx l) (nx+1):=λi hi=>by
 rw[Ga.put_ne _ _ (by omega)];exact h i (by omega)
theorem Fresh.succ(h:Fresh g nx):Fresh g (nx+1):=λi hi=>h i (by omega)
theorem Fresh.self(h:Fresh g nx):g nx=none:=h nx (qA _)
structure TurnsTo(P:Program)(E:TE)(Bs:List Nat)(F0:Nat->Prop)(w0 w:World)(z:Fz)(g:Ga)(nx:Nat)(H:Nat->Option (Obj E))(ρ:Operand->Value)(o:Oper)(ex:Bool)(s:Option (SV E))(u:Chs E)(z':Fz)(g':Ga)(w':World)(n:Next):Prop where
 run:(execOp ρ o).run P w = .ok n w'
 val:match s with|some sv=>∃v,n = .value v/\RV P E z' g' sv v|none=>n = .skip
 le:z.Le z'
 leg:g.Le g'
 fresh:Fresh g' (nx+1)
 hr:HR P E Bs F0 w0 w' z' g' (upH H u)
 ext:ex=true->Ext w w'
def e2_(P:Program)(E:TE)(Bs:List Nat)(F0:Nat->Prop)(w0 w:World)(z:Fz)(g:Ga)(nx:Nat)(H:Nat->Option (Obj E))(ρ:Operand->Value)(o:Oper)(ex:Bool){R:Type}(k:Option (SV E)->Chs E->Option R)(r:R):Prop:=∃s u z' g' w' n,k s u=some r/\TurnsTo P E Bs F0 w0 w z g nx H ρ o ex s u z' g' w' n
variable{k:Option (SV E)->Chs E->Option R}
def frz1(H:Nat->Option (Obj E)):SC E->Chs E
 | .own id=>match H id with
  | some (.row _ t xs _)=>[(id,some (.fr t xs))]
  | _=>[]
 | _=>[]
theorem frz1_ok(h:HR P E Bs F0 w0 w z g H)(c:SC E):∃z',z.Le z'/\HR P E Bs F0 w0 w z' g (upH H (frz1 H c)):=by
 unfold frz1;split
 .split
  .rename_i e t xs foc hi;exact⟨_,h.fz.grow_le _,h.freeze hi λj q f=>ci_ f⟩
  .exact⟨z,Fz.Le.refl z,h⟩
 .exact⟨z,Fz.Le.refl z,h⟩
def eF_(H:Nat->Option (Obj E)):List (SC E)->Chs E | []=>[]|c::l=>frz1 (upH H (eF_ H l)) c++eF_ H l
theorem eh_(h:HR P E Bs F0 w0 w z g H):∀(l:List (SC E)),∃z',z.Le z'/\HR P E Bs F0 w0 w z' g (upH H (eF_ H l))
 | []=>⟨z,Fz.Le.refl z,h⟩
 | c::l=>by
  obtain⟨q,p,m⟩:=eh_ h l;obtain⟨z2,j,f⟩:=frz1_ok m c;rw[aV_]at f;exact⟨z2,p.trans j,f⟩
theorem ObjR.box_new{T:TypeId}{cs:List (SC E)}{vs:List Value}(f:g nx=none)(j:All2 (RC P E z g) cs vs) :
  ObjR P E z (g.put nx ⟨none,0,0,0,w.heap.size,0⟩) (w.alloc (.cells vs.toArray T)) nx (.box T cs):=by
 refine⟨_,vs,Ga.put_self _ _ _,?_,j.mono λ_ _ h=>RC.le h (Fz.Le.refl z) (Ga.le_put f)⟩;show(w.heap.push _)[w.heap.size]? = _;simp
theorem HR.box_new{T:TypeId}{cs:List (SC E)}{vs:List Value}(h:HR P E Bs F0 w0 w z g H)(f:g nx=none)(m:All2 (RC P E z g) cs vs) :
  HR P E Bs F0 w0 (w.alloc (.cells vs.toArray T)) z (g.put nx ⟨none,0,0,0,w.heap.size,0⟩) (upH H [(nx,some (.box T cs))]):=by
 refine h.add (Ext.one w _) f (ObjR.box_new f m) (λk s => ?_) λj p u=>ci_ u
 obtain⟨l,q,rfl⟩:=s;rw[Ga.put_self]at q;obtain rfl:=qSj q;exact qA _
def lBox(E:TE)(L:Nat->Option (SV E))(nx:Nat)(T:TypeId)(x:Operand){R:Type}(k:Option (SV E)->Chs E->Option R):Option R :=
 match opS E L x with
 | some s=>match s.cells? with
  | some cs=>k (some (.v (.one (.ptr nx 0)))) [(nx,some (.box T cs))]
  | none=>none
 | none=>none
theorem lBox_ok{T:TypeId}{x:Operand}(u:o.op = .box T x)(f:Fresh g nx)(hρ:OpR P E z g L ρ)(C:HR P E Bs F0 w0 w z g H)(h:lBox E L nx T x k=some r):e2_ P E Bs F0 w0 w z g nx H ρ o true k r:=by
 unfold lBox at h;split at h
 .rename_i s q;split at h
  .rename_i cs y;have m:=SV.cells_ok y (hρ x _ q);have j:=run_box (P:=P) (w:=w) u (rfl:ρ x=ρ x);have p:=C.box_new (T:=T) f.self m;rw[zW]at p;exact⟨_,_,z,_,_,_,h,⟨j,⟨_,rfl,_,Ga.put_self _ _ _,rfl⟩,Fz.Le.refl z,Ga.le_put f.self,f.put _,p,λ_=>Ext.one w _⟩⟩
  .cases h
 .cases h
def lAlloc(P:Program)(E:TE)(nx:Nat)(T:TypeId){R:Type}(k:Option (SV E)->Chs E->Option R):Option R :=
 match E.sb T,zeroOf P T with
 | true,some [.pointer none,.slice none 0 0]=>k (some (.v (.one (.ptr nx 0)))) [(nx,some (.box T [.sbp nx,.nils]))]
 | _,_=>match mX_ P E T with
  | some cs=>k (some (.v (.one (.ptr nx 0)))) [(nx,some (.box T cs))]
  | none=>none
theorem qh_{T:TypeId}{cs:List (SC E)}(h:mX_ P E T=some cs):∃zs,zeroOf P T=some zs/\All2 (RC P E z g) cs zs:=by
 unfold mX_ at h;split at h
 .rename_i zs f;exact⟨zs,f,h0_ h⟩
 .cases h
theorem lAlloc_ok{T:TypeId}(x:o.op = .alloc T)(f:Fresh g nx)(y:HR P E Bs F0 w0 w z g H)(h:lAlloc P E nx T k=some r):e2_ P E Bs F0 w0 w z g nx H ρ o true k r:=by
 unfold lAlloc at h;split at h
 .rename_i _ s;have m:=rv_ (P:=P) (w:=w) (ρ:=ρ) x s;refine⟨_,_,z,g.put nx ⟨none,0,0,0,w.heap.size,0⟩,_,_,h,⟨m,⟨_,rfl,_,Ga.put_self _ _ _,rfl⟩,Fz.Le.refl z,Ga.le_put f.self,f.put _,?_,λ_=>Ext.one w _⟩⟩;refine y.add (Ext.one w _) f.self (o := .box T [.sbp nx,.nils]) ⟨_,[.pointer none,.slice none 0 0],Ga.put_self _ _ _,?_,.cons ⟨_,Ga.put_self _ _ _,.inl rfl⟩ (.cons rfl .nil)⟩ (λq D => ?_) λj p F=>ci_ F
  .show(w.heap.push _)[w.heap.size]? = _;simp
  .obtain⟨l,C,rfl⟩:=D;rw[Ga.put_self]at C;obtain rfl:=qSj C;exact qA _
 .split at h
  .rename_i cs G;obtain⟨zs,s,u⟩:=qh_ (z:=z) (g:=g) G;have m:=rv_ (P:=P) (w:=w) (ρ:=ρ) x s;exact⟨_,_,z,_,_,_,h,⟨m,⟨_,rfl,_,Ga.put_self _ _ _,rfl⟩,Fz.Le.refl z,Ga.le_put f.self,f.put _,y.box_new (T:=T) f.self u,λ_=>Ext.one w _⟩⟩
  .cases h
theorem Sep.single{L:List Nat}{x:Res}(f:x.holds w)(m:∀k,x.fp k->k∈L):Sep L w w [x] :=
 ⟨Chg.of_below (Below.refl _ _),λr hr=>by obtain rfl:=qE.1 hr;exact f,λr hr _ k j=>by obtain rfl:=qE.1 hr;exact .inr (m k j),.cons (λ_ h=>nomatch h) .nil⟩
def arrC(zs:List Int):Nat->Nat->List (SC E)|_,0=>[]|j,n+1 => .dt (.int .u32) (aB_ zs j)::arrC zs (j+1) n
theorem arrC_ok:∀(l:List Int) {zs:List Int} {j:Nat},zs.drop j=l->All2 (RC P E z g) (arrC zs j l.length) (l.map λn=>Value.int .u32 n)
 | [],_,_,_ => .nil
 | x::l,zs,j,h=>by
  have f:zs[j]? = some x:=by
   have:=qH (λm=>m[0]?) h;simpa using this
  refine .cons ?_ (arrC_ok l (by rw[←jV,h];rfl));have:aB_ zs j=x:=by simp[aB_,f]
  rw[this];exact .int .nil
theorem dtsC_all{κ : IntKind}:∀{l:List (SC E)} {xs:List Int} {vs:List Value},dtsC κ l=some xs->All2 (RC P E z g) l vs->vs=xs.map λn=>Value.int κ n
 | [],xs,vs,h,hr=>by
  simp only[dtsC,qOi]at h;subst h;cases hr
  rfl
 | c :: l,xs,vs,h,hr=>by
  cases hr with
  | cons s q =>
   unfold dtsC at h;split at h
   .rename_i p;cases p
   .rename_i κ' n x j;injection j with j u;subst j;subst u;split at h
    .rename_i r m f;simp only[qDe]at m;subst m;obtain rfl:=qSj h;obtain⟨vs',e,_⟩:=RD.int_inv (s:RD E z _ _ [_]);simp only[List.cons.injEq]at e;rw[e.1,dtsC_all f q];rfl
    .cases h
   .cases h
def lStoreI(P:Program)(E:TE)(H:Nat->Option (Obj E))(T:TypeId)(id:Nat)(i:Int)(s:SV E){R:Type}(k:Option (SV E)->Chs E->Option R):Option R :=
 match H id,s,bq_ P T with
 | some (.box T' cs),.v (.one (.dt (.int .u32) y)),some 1=>match dtsC .u32 cs with
  | some xs=>Option.bind (setI xs i y) λzs=>k none [(id,some (.box T' (arrC zs 0 cs.length)))]
  | none=>none
 | _,_,_=>none
theorem lStoreI_ok{T:TypeId}{x y:Operand}{id:Nat}{i:Int}{s:SV E}(ho:o.op = .store T x y)(U:Fresh g nx)(hx:RC P E z g (.pix id i) (ρ x))(hy:RV P E z g s (ρ y))(V:HR P E Bs F0 w0 w z g H)(h:lStoreI P E H T id i s k=some r):e2_ P E Bs F0 w0 w z g nx H ρ o false k r:=by
 unfold lStoreI at h;split at h
 .rename_i T' cs m hi hn;split at h
  .rename_i xs M;obtain⟨zs,f,h⟩:=bind_some h;unfold setI at f;split at f
   .rename_i hb;obtain rfl:=qSj f;obtain⟨l,J,ev⟩:=hx;obtain⟨l',vs,h2,Z,Y⟩:=V.hold _ _ hi;rw[J]at h2;obtain rfl:=qSj h2;obtain⟨vs',ey,_⟩:=RD.int_inv (hy:RD E z _ _ [ρ y]);have ey:ρ y = .int .u32 m:=by simp only[List.cons.injEq]at ey;exact ey.1
    have q:=dtsC_all M Y;have hl:=Y.len;have O:vs.length=xs.length:=by rw[q,zo]
    have u:=mA_ (P:=P) (w:=w) (off:=i.toNat) ho ev ey Z (by rw[hn];rfl) (by apply zt;simp[Value.cells];omega) (by simp[Value.cells,dn_,mT_]);refine⟨none,_,z,g,_,_,h,⟨u,rfl,Fz.Le.refl z,Ga.Le.refl g,U.succ,?_,λh=>by cases h⟩⟩;have D:All2 (RC P E z g) (arrC (xs.set i.toNat m) 0 cs.length) (splice vs i.toNat (Value.int .u32 m).cells.toList):=by
     have e1:=arrC_ok (P:=P) (E:=E) (z:=z) (g:=g) (xs.set i.toNat m) (zs:=xs.set i.toNat m) (j:=0) rfl;have e2:splice vs i.toNat (Value.int .u32 m).cells.toList=(xs.set i.toNat m).map λn=>Value.int .u32 n:=by
      rw[q];have e3:i.toNat<(xs.map λn=>Value.int .u32 n).length:=by rw[zo];omega
      simp only[splice,Value.cells,List.map_set,qLc,zn];rw[List.set_eq_take_append_cons_drop,qV e3];simp
     rw[e2]
     rwa [List.length_set,←O,←hl]at e1
    refine V.turn (Ga.Le.refl g) (i:=id) (i':=id) (C:=λk=>k=l.b) (λk F=>⟨_,hi,l,J,F⟩) (iK_ w _ _) (λk _ F=>iJ_ w _ k _ F) (o' := .box T' (arrC (xs.set i.toNat m) 0 cs.length)) ?_ (λk F => ?_) λj p hj => ?_
    .exact⟨l,_,J,os_ w _ _ _ T' Z,D⟩
    .obtain⟨l2,G,rfl⟩:=F;rw[J]at G;obtain rfl:=qSj G;exact .inl rfl
    .rcases ci_ hj with⟨rfl,rfl⟩|⟨G,h6⟩
     .exact .inl ⟨rfl,rfl⟩
     .exact .inr ⟨G,.inl G,h6⟩
   .cases f
  .cases h
 .cases h
def lStore (P:Program) (E:TE) (L:Nat->Option (SV E)) (H:Nat->Option (Obj E)) (T:TypeId) (x y:Operand) {R:Type} (k:Option (SV E)->Chs E->Option R):Option R :=
 match opS E L x,opS E L y with
 | some (.v (.one (.ptr id off))),some s=>match H id,s.cells?,bq_ P T with
  | some (.box T' cs),some f,some n=>match Nat.beq n f.length&&Nat.ble (off+f.length) cs.length with
   | true=>k none [(id,some (.box T' (k5_ cs off f)))]
   | false=>none
  | _,_,_=>none
 | some (.v (.one (.elo id q _ off))),some s=>match s.cells?,bq_ P T with
  | some f,some n=>match upH H (eF_ H f) id with
   | some (.row e t xs foc)=>match foc.find? λp=>Nat.beq p.1 q with
    | some p=>match Nat.beq n f.length&&Nat.ble (off+f.length) (E.size t),cy_ E (upH H (eF_ H f)) (E.flat t) (k5_ (E.cells t p.2.2) off f)with
     | true,some h=>k none ((id,some (.row e t (xs.set p.2.1.toNat (E.ufl t h)) [(q,p.2.1,E.ufl t h)]))::eF_ H f)
     | _,_=>none
    | none=>none
   | _=>none
  | _,_=>none
 | some (.v (.one (.pix id i))),some s=>lStoreI P E H T id i s k
 | _,_=>none
theorem set_rows{t:Ty}{xs:List (Den E.S t)}{rows:List (List Value)}{y:Den E.S t}{r':List Value}(h:Rows E z t xs rows)(i:Nat)(hr:RD E z (E.flat t) (E.fl t y) r'):Rows E z t (xs.set i y) (rows.set i r'):=by
 intro j x r m f;rw[zT]at m f;by_cases p:i=j
 .rw[qV p]at m f;split at m
  .split at f
   .obtain rfl:=qSj m;obtain rfl:=qSj f;exact hr
   .cases f
  .cases m
 .rw[qX p]at m f;exact h j x r m f
theorem lStore_ok{T:TypeId}{x y:Operand}(ho:o.op = .store T x y)(U:Fresh g nx)(hρ:OpR P E z g L ρ)(hH:HR P E Bs F0 w0 w z g H)(h:lStore P E L H T x y k=some r):e2_ P E Bs F0 w0 w z g nx H ρ o false k r:=by
 unfold lStore at h;split at h
 .rename_i id off s hx hy;split at h
  .rename_i T' cs M n hi hc hn;split at h
   .rename_i hb;simp only[qAn]at hb;have ZF:=qNb hb.1;have ZG:=qx hb.2;obtain⟨l,h1,ev⟩:=hρ x _ hx;obtain⟨l',vs,h2,h3,h4⟩:=hH.hold _ _ hi;rw[h1]at h2;obtain rfl:=qSj h2;have f:=SV.cells_ok hc (hρ y _ hy);have ZJ:M.length=(ρ y).cells.size:=by rw[f.len,qi]
    have ZD:=h4.len;have u:=mA_ (P:=P) (w:=w) ho ev (rfl:ρ y=ρ y) h3 (by rw[hn];congr 1;omega) (by apply zt;omega) (RC.cells f);refine⟨none,_,z,g,_,_,h,⟨u,rfl,Fz.Le.refl z,Ga.Le.refl g,U.succ,?_,λh=>by cases h⟩⟩;refine hH.turn (Ga.Le.refl g) (i:=id) (i':=id) (C:=λk=>k=l.b) (λk m=>⟨_,hi,l,h1,m⟩) (iK_ w _ _) (λk _ m=>iJ_ w _ k _ m) (o' := .box T' (k5_ cs off M)) ?_ (λk m => ?_) λj p hj => ?_
    .exact⟨l,_,h1,os_ w _ _ _ T' h3,mY_ off h4 f⟩
    .obtain⟨l2,F,rfl⟩:=m;rw[h1]at F;obtain rfl:=qSj F;exact .inl rfl
    .rcases ci_ hj with⟨rfl,rfl⟩|⟨F,h6⟩
     .exact .inl ⟨rfl,rfl⟩
     .exact .inr ⟨F,.inl F,h6⟩
   .cases h
  .cases h
 .rename_i id q ii off s hx hy;split at h
  .rename_i M n hc hn;split at h
   .rename_i e t xs foc hi;split at h
    .rename_i p hp;split at h
     .rename_i Z hb ZH;simp only[qAn]at hb;have ZF:=qNb hb.1;have ZG:=qx hb.2;obtain⟨z',hz,ZZ⟩:=eh_ hH M;have ZL:p.1=q:=qNb (by simpa using jW hp);obtain⟨lq,h1,_,ev⟩:=hρ x _ hx;obtain⟨lo,rows,h2,ZS,hlc,ZV,J,ZM,D,ZQ⟩:=ZZ.hold _ _ hi;obtain⟨hg,lq',off2,h3,hA,hq,ZI⟩:=ZQ p (zH hp);rw[ZL,h1]at h3;obtain rfl:=qSj h3;obtain⟨_,ZP,ZT⟩:=ge_ hg;have ZR:p.2.1.toNat<rows.length:=by rw[J,ZS];exact ZT
      have ZX:=D p.2.1.toNat p.2.2 _ ZP (qQ ZR);have f:=SV.cells_ok hc ((hρ y _ hy).le hz (Ga.Le.refl g));have ZJ:M.length=(ρ y).cells.size:=by rw[f.len,qi]
      have ZN:=mY_ off (cells_rd.1 ZX) f;have G:=er_ ZZ ZH ZN;have hS:=Sep.single (L:=[lq.b]) (x := .row e lo.c lo.A lo.n lo.cap rows) ⟨ZV,J,ZM⟩ (λk m=>by
       obtain⟨a,ha,rfl⟩:=m;rw[hA]at ha;obtain rfl:=qSj ha;simp)
      obtain⟨w',u,ZE,Y,ZU⟩:=vS_ (P:=P) (k:=0) (j:=off) ho ev (rfl:ρ y=ρ y) hS rfl hA (qQ ZR) (by rw[hq]) (by rw[hn];congr 1;omega) (by apply zt;rw[hlc];omega) (RC.cells f) rfl;have hh:=ZE.hold (.row e lo.c lo.A lo.n lo.cap (rows.set p.2.1.toNat (splice rows[p.2.1.toNat] off (ρ y).cells.toList))) (by simp);obtain⟨O,V,ZW⟩:=hh;rw[←E.fl_ufl t Z]at G;have ZY:=set_rows D p.2.1.toNat G;refine⟨none,_,z',g,w',_,h,⟨u,rfl,hz,Ga.Le.refl g,U.succ,?_,λh=>by cases h⟩⟩;have ZO:upH H ((id,some (.row e t (xs.set p.2.1.toNat (E.ufl t Z)) [(q,p.2.1,E.ufl t Z)]))::eF_ H M)=upH (upH H (eF_ H M)) [(id,some (.row e t (xs.set p.2.1.toNat (E.ufl t Z)) [(q,p.2.1,E.ufl t Z)]))]:=by
       rw[aV_];rfl
      rw[ZO];refine ZZ.turn (Ga.Le.refl g) (i:=id) (i':=id) (C:=λk=>k=lq.b) (λk m=>⟨_,hi,lo,_,h2,hA,m⟩) Y (λk _ m=>ZU k m) (o' := .row e t (xs.set p.2.1.toNat (E.ufl t Z)) [(q,p.2.1,E.ufl t Z)]) ?_ (λk m => ?_) λj p' hj => ?_
      .refine⟨lo,_,h2,by rw[List.length_set];exact ZS,hlc,O,V,ZW,ZY,λp' ZK => ?_⟩;obtain rfl:=qE.1 ZK;refine⟨?_,lq,off2,h1,hA,hq,ZI⟩;unfold an_;rw[qV (ge_ hg).1,zT,qV rfl,qV ZT]
      .obtain⟨l2,a2,F,h6,rfl⟩:=m;rw[h2]at F;obtain rfl:=qSj F;rw[hA]at h6;obtain rfl:=qSj h6;exact .inl rfl
      .rcases ci_ hj with⟨rfl,rfl⟩|⟨F,h6⟩
       .exact .inl ⟨rfl,rfl⟩
       .exact .inr ⟨F,.inl F,h6⟩
     .cases h
    .cases h
   .cases h
  .cases h
 .rename_i id i s hx hy;exact lStoreI_ok ho U (hρ x _ hx) (hρ y _ hy) hH h
 .cases h
def gk_{t f:Ty}(h:f=t)(xs:List (Den E.S f)):List (Den E.S t):=h▸xs
def SC.rdT(H:Nat->Option (Obj E))(t:Ty):SC E->Option (List (Den E.S t))
 | .dt (.sl f) xs=>if h:f=t then some (gk_ h xs)else none
 | .own id=>match H id with
  | some (.row _ f xs _)=>if h:f=t then some (gk_ h xs)else none
  | some (.fr f xs)=>if h:f=t then some (gk_ h xs)else none
  | _=>none
 | .nils=>some []
 | .suf id lo=>match H id with
  | some (.row _ f xs _)=>if h:f=t then some (gk_ h (xs.drop lo.toNat))else none
  | _=>none
 | _=>none
theorem SC.rdT_ok{t:Ty}{c:SC E}{xs:List (Den E.S t)}{v:Value}(O:HR P E Bs F0 w0 w z g H)(h:c.rdT H t=some xs)(hr:RC P E z g c v) :
  ∃A cap rows F,v = .slice A xs.length cap/\SlF F (E.size t) A xs.length rows w/\xs.length<=cap/\Rows E z t xs rows:=by
 unfold SC.rdT at h;split at h
 .rename_i U D;split at h
  .rename_i G;subst G;obtain rfl:=qSj h;obtain⟨A,cap,rows,ev,J,f,p⟩:=SC.fro_ok (c := .dt (.sl U) D) O rfl hr;exact⟨A,cap,rows,_,ev,J.stand O.fz,f,p⟩
  .cases h
 .rename_i id;split at h
  .rename_i e U D foc hi;split at h
   .rename_i G;subst G;obtain rfl:=qSj h;obtain⟨l,h1,rfl⟩:=hr;obtain⟨l2,rows2,Y,y,M,j,q,u,m,_⟩:=O.hold _ _ hi;rw[h1]at Y;obtain rfl:=qSj Y;have s:=ht_ (w:=w) (e:=e) (cap:=l.cap) ⟨j,q,u⟩;have f:=(Own.cap_le j).1;rw[M,y]at s;rw[y]at f;exact⟨_,_,_,_,by rw[y];rfl,s,f,m⟩
   .cases h
  .rename_i U D hi;split at h
   .rename_i G;subst G;obtain rfl:=qSj h;obtain⟨A,cap,rows,ev,J,f,p⟩:=SC.fro_ok (c := .own id) (l:=⟨U,D⟩) O (by simp only[SC.fro,hi]) hr;exact⟨A,cap,rows,_,ev,J.stand O.fz,f,p⟩
   .cases h
  .cases h
 .obtain rfl:=qSj h;simp only[RC]at hr;subst hr;exact⟨none,0,[],λ_=>False,rfl,SlF.nil _ _ _ _,qA _,λi x r h=>by simp at h⟩
 .rename_i id lo;split at h
  .rename_i e U D foc hi;split at h
   .rename_i G;subst G;obtain rfl:=qSj h;obtain⟨l,h1,Z,ev⟩:=hr;obtain⟨l2,rows2,Y,y,M,j,q,u,m,_⟩:=O.hold _ _ hi;rw[h1]at Y;obtain rfl:=qSj Y;have s:=ht_ (w:=w) (e:=e) (cap:=l.cap) ⟨j,q,u⟩;have f:=(Own.cap_le j).1;have V:=SlF.cut s f (lo:=lo.toNat) (hi:=l.n) Z (qA _);have C:=qf_ m lo.toNat l.n;rw[qc (by omega:D.length<=l.n)]at C;have hl:(gk_ (E:=E) rfl (D.drop lo.toNat)).length=l.n-lo.toNat:=by simp only[gk_,qS];omega
    refine⟨cutA l.A l.c lo.toNat l.cap,l.cap-lo.toNat,(rows2.take l.n).drop lo.toNat,cT_ l.A,by rw[hl];exact ev,?_,by rw[hl];omega,C⟩;rw[hl,←M];exact V
   .cases h
  .cases h
 .cases h
theorem Rows.cells{t:Ty}{xs:List (Den E.S t)}{rows:List (List Value)}(h:Rows E z t xs rows)(p:rows.length=xs.length):sD_ rows/\∀q∈rows,q.length=E.size t:=by
 have key:∀q∈rows,∃x,RD E z (E.flat t) (E.fl t x) q:=λq f=>by
  obtain⟨i,hi⟩:=qO.1 f;have m:=(qZ.1 hi).1;exact⟨_,h i _ _ (qQ (by omega:i<xs.length)) hi⟩
 exact⟨λq f=>let ⟨x,j⟩:=key q f;j.cells,λq f=>let ⟨x,j⟩:=key q f;j.len⟩
theorem Rows.append{t:Ty}{xs m:List (Den E.S t)}{rows news:List (List Value)}(h:Rows E z t xs rows)(q:Rows E z t m news)(p:rows.length=xs.length):Rows E z t (xs++m) (rows++news):=by
 intro i x r f hr;rw[List.getElem?_append]at f hr;rw[p]at hr;split at f
 .rename_i j;rw[qV j]at hr;exact h i x r f hr
 .rename_i j;rw[qX j]at hr;exact q _ x r f hr
def bytesV(P:Program)(e:TypeId):Nat:=match P.info? e with|some i=>i.bytes|none=>0
def appK(P:Program)(E:TE)(H:Nat->Option (Obj E))(nx:Nat)(e:TypeId)(t:Ty)(xs:List (Den E.S t))(cy:SC E)(del:Chs E){R:Type}(k:Option (SV E)->Chs E->Option R):Option R:=match cy.rdT H t,elemB P e (E.size t) (bytesV P e)with|some f,true=>(room (bytesV P e) xs f).bind λzs=>k (some (.v (.one (.own nx)))) ((nx,some (.row e t zs []))::del)|_,_=>none
def lApp (P:Program) (E:TE) (L:Nat->Option (SV E)) (H:Nat->Option (Obj E)) (nx:Nat) (T:TypeId) (x y:Operand) {R:Type} (k:Option (SV E)->Chs E->Option R):Option R :=
 match opS E L x,opS E L y,P.underlying T with
 | some (.v (.one cx)),some (.v (.one cy)),some (.slice e)=>match cx with
  | .own id=>match H id with
   | some (.row e' t xs _)=>match Nat.beq e' e with
    | true=>appK P E H nx e t xs cy [(id,none)] k
    | false=>none
   | _=>none
  | .pre id n=>match H id with
   | some (.row e' t xs _)=>match Nat.beq e' e with
    | true=>Option.bind (bI_ xs 0 n) λf=>appK P E H nx e t f cy [(id,none)] k
    | false=>none
   | _=>none
  | .nils=>match E.ty e with
   | some t=>appK P E H nx e t [] cy [] k
   | none=>none
  | _=>none
 | _,_,_=>none
theorem appK_ok{T e:TypeId}{t:Ty}{x y:Operand}{xs:List (Den E.S t)}{cy:SC E}{del:Chs E}{A:Option Addr}{cap:Nat}{rows:List (List Value)}(ho:o.op = .call { callee := .builtin .append,args := #[x,y],argTypes := #[T,T] })(hu:P.underlying T=some (.slice e))
  (D:Fresh g nx) (hH:HR P E Bs F0 w0 w z g H) (ex:ρ x = .slice A xs.length cap) (hy:RC P E z g cy (ρ y)) (Y:w.ownsRow 0 e (E.size t) (.slice A xs.length cap) xs.length rows.flatten) (s:rows.length=xs.length) (f:Rows E z t xs rows)
  (i:Nat) (hC:∀q,cT_ A q->∃o,H i=some o/\fpO g i o q) (ZY:∀(o':Obj E) j p,upH H ((nx,some o')::del) j=some p->(j=nx/\p=o')\/(j≠nx/\(j≠i\/∀q,¬cT_ A q)/\H j=some p))
  (h:appK P E H nx e t xs cy del k=some r):e2_ P E Bs F0 w0 w z g nx H ρ o false k r:=by
 unfold appK at h;split at h
 .rename_i M ZW ZS;obtain⟨zs,hz,h⟩:=bind_some h;have ZQ:=elemOK hu ZS;obtain⟨A2,cap2,news,F,ey,O,ZR,m⟩:=SC.rdT_ok hH ZW hy;obtain⟨ZZ,ZU⟩:=m.cells O.1;obtain⟨_,ZV⟩:=f.cells s;have hS:=Sep.single (L:=match A with|some a=>[a.block]|none=>[]) (x := .row e (E.size t) A xs.length cap rows) ⟨Y,s,ZV⟩ (λq hq=>by
   obtain⟨a,rfl,rfl⟩:=hq;simp)
  obtain⟨A',cap',w',U,ZX,J,Z⟩:=run_append (P:=P) (k:=0) ho ZQ ex ey hS rfl O ZZ rfl rfl hz ZU;obtain⟨h1,h2,rfl⟩:=rw_ hz;have hh:=ZX.hold (.row e (E.size t) A' (xs.length+M.length) cap' (rows++news)) (by simp);obtain⟨u,G,V⟩:=hh;have ZT:=ZX.own (.row e (E.size t) A' (xs.length+M.length) cap' (rows++news)) (by simp) trivial;have hl:(xs++M).length=xs.length+M.length:=qLa;refine⟨_,_,z,g.put nx ⟨A',(xs++M).length,cap',E.size t,0,0⟩,w',_,h,⟨U,⟨_,rfl,_,Ga.put_self _ _ _,by rw[hl]⟩,Fz.Le.refl z,Ga.le_put D.self,D.put _,?_,λh=>by cases h⟩⟩;refine hH.turn (Ga.le_put D.self) (i:=i) (i':=nx) (C:=cT_ A) hC J Z (o' := .row e t (xs++M) []) ?_ (λq hq => ?_) λj p hj => ?_
  .refine⟨_,rows++news,Ga.put_self _ _ _,rfl,rfl,?_,?_,V,f.append m s,λp hp=>nomatch hp⟩
   .simp only[hl];exact u
   .simp only[hl];exact G
  .obtain⟨l2,a2,h5,h6,rfl⟩:=hq;rw[Ga.put_self]at h5;obtain rfl:=qSj h5;rcases ZT a2.block ⟨a2,h6,rfl⟩with h7|h7
   .exact .inr h7
   .left
    cases A with
    | none=>simp at h7
    | some a =>
     simp at h7;exact⟨a,rfl,h7⟩
  .exact ZY _ j p hj
 .cases h
theorem ownsRow_pre{e c n m cap:Nat}{A:Option Addr}{rows:List (List Value)}(h:w.ownsRow 0 e c (.slice A n cap) n rows.flatten)(U:rows.length=n)(hr:∀q∈rows,q.length=c)(hm:m<=n):w.ownsRow 0 e c (.slice A m cap) m (rows.take m).flatten:=by
 have p:(rows.take m).flatten=rows.flatten.take (m*c):=by
  have O:rows.flatten=(rows.take m).flatten++(rows.drop m).flatten:=by rw[←List.flatten_append,zl]
  have x:(rows.take m).flatten.length=m*c:=by
   rw[bo_ (c:=c) (λq j=>hr q (zd j)),qb]
   congr 1;omega
  rw[O,List.take_left' x]
 refine⟨?_,?_⟩
 .rw[bo_ (c:=c) (λq j=>hr q (zd j)),qb]
  congr 1;omega
 .rcases h.2 with⟨x,M⟩|⟨b,cap',cur,D,J,G,F,u,s,f⟩
  .injection x with C V y;subst M;obtain rfl:m=0:=by omega
   exact .inl ⟨by rw[C,y],rfl⟩
  .injection D with C _ y;subst y;refine .inr ⟨b,cap,cur,by rw[C],J,G,by omega,u,s,?_⟩;rw[p,←f,List.take_take]
   congr 1
   have:m*c<=n*c:=qg c hm;omega
theorem lApp_ok{T:TypeId}{x y:Operand}(ho:o.op = .call { callee := .builtin .append,args := #[x,y],argTypes := #[T,T] })(G:Fresh g nx)(hρ:OpR P E z g L ρ)(U:HR P E Bs F0 w0 w z g H)(h:lApp P E L H nx T x y k=some r):e2_ P E Bs F0 w0 w z g nx H ρ o false k r:=by
 unfold lApp at h;split at h
 .rename_i cx cy e hx hy hu;have ex:=hρ x _ hx;split at h
  .rename_i id;split at h
   .rename_i e' t xs foc hi;split at h
    .rename_i hb;obtain rfl:=qNb hb;obtain⟨l,Z,ev⟩:=ex;obtain⟨l2,rows,Y,hn,hc,s,u,M,f,_⟩:=U.hold _ _ hi;rw[Z]at Y;obtain rfl:=qSj Y;rw[hc,hn]at s;rw[hn]at ev u;exact appK_ok ho hu G U ev (hρ y _ hy) s u f id (λq ⟨a,J,hq⟩=>⟨_,hi,l,a,Z,J,hq⟩) (λo' j p O=>by
      rcases upH_two O with C|⟨C,h6,V⟩
      .exact .inl C
      .exact .inr ⟨C,.inl h6,V⟩) h
    .cases h
   .cases h
  .rename_i id n;split at h
   .rename_i e' t xs foc hi;split at h
    .rename_i hb;obtain rfl:=qNb hb;obtain⟨ys,ZZ,h⟩:=bind_some h;obtain⟨ZW,ZX,ZY,rfl⟩:=md_ ZZ;obtain⟨l,Z,ev⟩:=ex;obtain⟨l2,rows,Y,hn,hc,s,u,M,f,_⟩:=U.hold _ _ hi;rw[Z]at Y;obtain rfl:=qSj Y;have hm:n.toNat<=l.n:=by omega
     have m:=ownsRow_pre s u M hm;have D:((xs.take n.toNat).drop (0:Int).toNat).length=n.toNat:=by simp;omega
     have F:=qf_ f 0 n.toNat;simp only[zm]at F;simp only[Int.toNat_zero,zm]at h D;rw[←D]at ev m;rw[hc]at m;exact appK_ok ho hu G U ev (hρ y _ hy) (rows:=rows.take n.toNat) (by rw[D]at m ⊢;exact m) (by rw[qb,D];omega) F id (λq ⟨a,J,hq⟩=>⟨_,hi,l,a,Z,J,hq⟩) (λo' j p O=>by
      rcases upH_two O with C|⟨C,h6,V⟩
      .exact .inl C
      .exact .inr ⟨C,.inl h6,V⟩) h
    .cases h
   .cases h
  .split at h
   .rename_i t ht;have ev:ρ x = .slice none 0 0:=ex;exact appK_ok (xs:=([]:List (Den E.S t))) (del:=[]) (A:=none) (cap:=0) (rows:=[]) ho hu G U ev (hρ y _ hy) ⟨by simp,.inl ⟨rfl,rfl⟩⟩ rfl (λi x r h=>by simp at h) nx (λq ⟨a,J,_⟩=>nomatch J) (λo' j p O=>by
      rcases ci_ O with C|⟨C,V⟩
      ·exact .inl C
      ·exact .inr ⟨C,.inr (λq ⟨a,J,_⟩=>nomatch J),V⟩) h
   .cases h
  .cases h
 .cases h
def byteB(P:Program)(e:TypeId):Bool:=match P.info? e with
 | some i=>(match i.zero with|some (.int .u8 0)=>true|_=>false)&&Nat.beq i.size 1&&Nat.beq i.bytes 1
 | none=>false
def lAppS (P:Program) (E:TE) (L:Nat->Option (SV E)) (H:Nat->Option (Obj E)) (nx:Nat) (T T':TypeId) (x y:Operand) {R:Type} (k:Option (SV E)->Chs E->Option R):Option R :=
 match opS E L x,opS E L y,P.underlying T,P.underlying T' with
 | some (.v (.one cx)),some (.v (.one (.dt .str s))),some (.slice e),some .string=>match byteB P e,cx with
  | true,.own id=>match H id with
   | some (.row e' (.int .u8) xs _)=>match Nat.beq e' e with
    | true=>Option.bind (room 1 (α:=Int) xs (dL_ s)) λzs=>k (some (.v (.one (.own nx)))) [(nx,some (.row e (.int .u8) zs [])),(id,none)]
    | false=>none
   | _=>none
  | true,.nils=>Option.bind (room 1 (α:=Int) [] (dL_ s)) λzs=>k (some (.v (.one (.own nx)))) [(nx,some (.row e (.int .u8) zs []))]
  | _,_=>none
 | _,_,_,_=>none
theorem rowsI_map{κ : IntKind}{xs:List Int}{rows:List (List Value)}(h:Rows E z (.int κ) xs rows)(p:rows.length=xs.length):rows=xs.map λx=>[Value.int κ x]:=by
 apply zL;intro i;rw[qm];rcases qN i xs.length with hi|hi
 .have f:=qQ hi;have hr:=qQ (show i<rows.length by omega);obtain⟨vs,m,j⟩:=RD.int_inv (show RD E z [.int κ] (xs[i],()) rows[i]from h i _ _ f hr);rw[hr,f,m,j.nil_inv];rfl
 .rw[qa (by omega),qa hi];rfl
theorem rowsI_mk{κ : IntKind}(xs:List Int):Rows E z (.int κ) xs (xs.map λx=>[Value.int κ x]):=λi x r h f=>by
 rw[qm]at f;rw[h]at f;obtain rfl:=qSj f;exact RD.int .nil
theorem qi_{κ : IntKind}:∀(xs:List Int),(xs.map λx=>[Value.int κ x]).flatten=xs.map (Value.int κ)
 | []=>rfl
 | x::xs=>by rw[zB,qv,qi_ xs];rfl
theorem strI_cells(s:Str):Lib.strCells ⟨s.toArray⟩=(dL_ s).map (Value.int .u8):=by
 unfold Lib.strCells dL_;simp
theorem appS_ok{T T' e:TypeId}{x y:Operand}{xs:List Int}{s:Str}{del:Chs E}{A:Option Addr}{cap:Nat}(ho:o.op = .call { callee := .builtin .append,args := #[x,y],argTypes := #[T,T'] })(hu:P.underlying T=some (.slice e))(O:P.underlying T'=some .string)(hB:byteB P e=true)
  (ZY:Fresh g nx) (hH:HR P E Bs F0 w0 w z g H) (ex:ρ x = .slice A xs.length cap) (ey:ρ y=S s) (G:w.ownsRow 0 e 1 (.slice A xs.length cap) xs.length (xs.map (Value.int .u8)))
  (i:Nat) (hC:∀q,cT_ A q->∃o,H i=some o/\fpO g i o q) (ZW:∀(o':Obj E) j p,upH H ((nx,some o')::del) j=some p->(j=nx/\p=o')\/(j≠nx/\(j≠i\/∀q,¬cT_ A q)/\H j=some p))
  (h:Option.bind (room 1 (α:=Int) xs (dL_ s)) (λzs=>k (some (.v (.one (.own nx)))) ((nx,some (.row e (.int .u8) zs []))::del))=some r):e2_ P E Bs F0 w0 w z g nx H ρ o false k r:=by
 obtain⟨zs,hz,h⟩:=bind_some h;obtain⟨h1,h2,rfl⟩:=rw_ hz;have ZV:(dL_ s).length=s.length:=by simp[dL_]
 unfold byteB at hB;split at hB
 .rename_i inf hi;simp only[qAn]at hB;obtain⟨⟨ZX,M⟩,U⟩:=hB;have D:inf.zero=some (.int .u8 0):=by
   split at ZX
   .assumption
   .cases ZX
  obtain⟨v',w',m,u,f,_⟩:=Lib.run_append_own_string (P:=P) (w:=w) 0 T T' o.type e inf hu O hi D (qNb M) (qNb U) _ _ _ G ⟨s.toArray⟩ (by unfold maxLen;rw[size_mk];omega) (by rw[size_mk];omega) (qq _);rw[strI_cells,size_mk]at u;have hl:(xs++dL_ s).length=xs.length+s.length:=by rw[qLa,ZV]
  rw[←List.map_append,←hl]at u;obtain⟨A',cap',rfl,ZQ⟩:∃A' cap',v' = .slice A' (xs++dL_ s).length cap'/\∀q,cT_ A' q->v' = .slice A' (xs++dL_ s).length cap':=by
   rcases u.2 with⟨J,hn⟩|⟨b,cap',cur,J,_⟩
   .exact⟨none,0,by rw[J,hn],λq ⟨a,ha,_⟩=>nomatch ha⟩
   .exact⟨_,_,J,λ_ _=>J⟩
  have Y:(execOp ρ o).run P w = .ok (.value (.slice A' (xs++dL_ s).length cap')) w':=by
   unfold execOp;rw[ho];simp only[resolve,invoke,builtin,Sem.run_bind,Sem.run_pure,Result.andThen_ok,List.map_toArray,zB,List.map_nil,ex,ey];show(Result.andThen ((Builtin.append_ #[T,T'] o.type #[Value.slice A xs.length cap,Value.string ⟨s.toArray⟩]).run P w) _)=_;rw[m];rfl
  have ZU:∀q,cT_ A' q->cT_ A q\/w.heap.size<=q:=λq ⟨a,ha,hq⟩=>by
   subst ha;have ZS:(xs.map (Value.int .u8)).length=xs.length:=zo ..;have h4:xs.length+s.length<=9223372036854775807:=by omega
   have h5:xs.length+s.length<=140737488355328:=by omega
   rcases G.2 with⟨J,hn⟩|⟨g,cap2,cur,J,_,hg,ZR,_,ZT,_⟩
   .rw[J]at m;obtain⟨v2,w2,F,ZZ,_,_⟩:=Lib.run_append_own_string (P:=P) (w:=w) w.heap.size T T' o.type e inf hu O hi D (qNb M) (qNb U) _ _ _ (World.ownsRow_nil w w.heap.size e 1) ⟨s.toArray⟩ (by unfold maxLen;rw[size_mk];omega) (by rw[size_mk];omega) (qA _);rw[m]at F;injection F with e1 e2;subst e1;rcases ZZ.2 with⟨V,_⟩|⟨b,_,_,V,hb,_⟩
    .cases V
    .injection V with e3;obtain rfl:=qSj e3;exact .inr (by rw[hq];exact hb)
   .rw[J]at m;by_cases Z:xs.length+s.length<=cap2
    .have hr:=Lib.run_append_room_string (P:=P) w T T' o.type e inf hu O hi (qNb M) g xs.length cap2 cur hg ⟨s.toArray⟩ (by rw[size_mk];exact Z) (by rw[size_mk,ZT];omega);rw[m]at hr;injection hr with e1 e2;injection e1 with e3;obtain rfl:=qSj e3;injection J with e4;exact .inl ⟨_,e4,hq⟩
    .have hr:=Lib.run_append_grow_string (P:=P) w T T' o.type e inf (.int .u8 0) hu O hi D ⟨g,0,none⟩ xs.length cap2 (xs.map (Value.int .u8)) (by rw[qNb M];simp) (World.ownsRow.cells G (g:=g) (by rw[J];rfl)) ⟨s.toArray⟩ (by rw[size_mk];omega) (by rw[size_mk];omega) (by rw[qNb U];exact growslice_fits (by rw[size_mk];omega) (by rw[size_mk];omega));rw[m]at hr;injection hr with e1 e2;injection e1 with e3;obtain rfl:=qSj e3;exact .inr (by rw[hq];exact qA _)
  refine⟨_,_,z,g.put nx ⟨A',(xs++dL_ s).length,cap',1,0,0⟩,w',_,h,⟨Y,⟨_,rfl,_,Ga.put_self _ _ _,rfl⟩,Fz.Le.refl z,Ga.le_put ZY.self,ZY.put _,?_,λh=>by cases h⟩⟩;refine hH.turn (Ga.le_put ZY.self) (i:=i) (i':=nx) (C:=cT_ A) hC ⟨f.os,f.tape,f.output,f.size⟩ (λk hk hn=>f.block k hk λe => ?_) (o' := .row e (.int .u8) (xs++dL_ s) []) ?_ (λq hq => ?_) λj p hj=>ZW _ j p hj
  .cases A with
   | none=>cases e
   | some a=>exact hn ⟨a,rfl,qSj e⟩
  .refine⟨_,(xs++dL_ s).map λx=>[Value.int .u8 x],Ga.put_self _ _ _,rfl,rfl,?_,by simp,λq hq => ?_,rowsI_mk _,λp hp=>nomatch hp⟩
   .rw[qi_];exact u
   .obtain⟨x,_,rfl⟩:=zQ.1 hq;rfl
  .obtain⟨l2,a2,h5,h6,rfl⟩:=hq;rw[Ga.put_self]at h5;obtain rfl:=qSj h5;exact ZU _ ⟨a2,h6,rfl⟩
 .cases hB
theorem lAppS_ok{T T':TypeId}{x y:Operand}(ho:o.op = .call { callee := .builtin .append,args := #[x,y],argTypes := #[T,T'] })(D:Fresh g nx)(hρ:OpR P E z g L ρ)(U:HR P E Bs F0 w0 w z g H)(h:lAppS P E L H nx T T' x y k=some r):e2_ P E Bs F0 w0 w z g nx H ρ o false k r:=by
 unfold lAppS at h;split at h
 .rename_i cx s e hx hy Z C;have ex:=hρ x _ hx;have ey:=SV.str_ok rfl (hρ y _ hy);split at h
  .rename_i id V;split at h
   .rename_i e' xs foc hi;split at h
    .rename_i hb;obtain rfl:=qNb hb;obtain⟨l,h1,ev⟩:=ex;obtain⟨l2,rows,h3,J,hc,f,F,ZZ,m,_⟩:=U.hold _ _ hi;rw[h1]at h3;obtain rfl:=qSj h3;have O:l.c=1:=hc;rw[O,J,rowsI_map m (F.trans J),qi_]at f;rw[J]at ev;exact appS_ok ho Z C V D U ev ey f id (λq ⟨a,G,hq⟩=>⟨_,hi,l,a,h1,G,hq⟩) (λo' j p M=>by
      rcases upH_two M with u|⟨u,h6,Y⟩
      .exact .inl u
      .exact .inr ⟨u,.inl h6,Y⟩) h
    .cases h
   .cases h
  .rename_i V;have ev:ρ x = .slice none 0 0:=ex;exact appS_ok (xs:=[]) (del:=[]) (A:=none) (cap:=0) ho Z C V D U ev ey ⟨by simp,.inl ⟨rfl,rfl⟩⟩ nx (λq ⟨a,G,_⟩=>nomatch G) (λo' j p M=>by
      rcases ci_ M with u|⟨u,Y⟩
      ·exact .inl u
      ·exact .inr ⟨u,.inr (λq ⟨a,G,_⟩=>nomatch G),Y⟩) h
  .cases h
 .cases h
theorem HR.row_new{e:TypeId}{t:Ty}{xs:List (Den E.S t)}{A:Option Addr}{cap n:Nat}{rows:List (List Value)}{w':World}(h:HR P E Bs F0 w0 w z g H)(u:Fresh g nx)(C:Ext w w')(G:xs.length=n)
  (m:w'.ownsRow 0 e (E.size t) (.slice A n cap) n rows.flatten) (s:rows.length=n) (f:Rows E z t xs rows) (x:∀q,cT_ A q->w.heap.size<=q) :
  HR P E Bs F0 w0 w' z (g.put nx ⟨A,n,cap,E.size t,0,0⟩) (upH H [(nx,some (.row e t xs []))]):=by
 refine h.add (o := .row e t xs []) C u.self ⟨_,rows,Ga.put_self _ _ _,G.symm,rfl,m,s,(f.cells (by omega)).2,f,λp F=>nomatch F⟩ (λq D => ?_) λj p J=>ci_ J
 obtain⟨l2,a2,y,M,rfl⟩:=D;rw[Ga.put_self]at y;obtain rfl:=qSj y;exact x _ ⟨a2,M,rfl⟩
def zeroD(P:Program)(E:TE)(e:TypeId)(t:Ty):Option (Den E.S t):=match mX_ P E e with
 | some zc=>match cy_ E (λ_=>none) (E.flat t) zc with
  | some h=>some (E.ufl t h)
  | none=>none
 | none=>none
def Operand.same:Operand->Operand->Bool | .tmp a,.tmp b=>Nat.beq a b | .const (.int _ a),.const (.int _ b)=>decide (a=b)|_,_=>false
def Operand.zero:Operand->Bool | .const (.int _ a)=>decide (a=0)|_=>false
def lMake(P:Program)(E:TE)(L:Nat->Option (SV E))(nx:Nat)(T:TypeId)(x y:Operand){R:Type}(k:Option (SV E)->Chs E->Option R):Option R :=
 match P.underlying T with
 | some (.slice e)=>match E.ty e,opS E L y with
  | some t,some (.v (.one (.dt (.int _) n)))=>match zeroD P E e t,elemB P e (E.size t) (bytesV P e),Operand.same x y,Operand.zero x with
   | some zv,true,true,_=>Option.bind (iZ_ (bytesV P e) zv n) λxs=>k (some (.v (.one (.own nx)))) [(nx,some (.row e t xs []))]
   | some zv,true,false,true=>Option.bind (iZ_ (bytesV P e) zv n) λ_=>k (some (.v (.one (.own nx)))) [(nx,some (.row e t [] []))]
   | _,_,_,_=>none
  | _,_=>none
 | _=>none
theorem zeroD_ok {e:TypeId} {t:Ty} {x:Den E.S t} (h:zeroD P E e t=some x):∃zs,zeroOf P e=some zs/\RD E z (E.flat t) (E.fl t x) zs:=by
 unfold zeroD at h;split at h
 .rename_i zc D;split at h
  .rename_i j G;obtain rfl:=qSj h;obtain⟨zs,m,s⟩:=qh_ (P:=P) (z:=z) (g:=λ_=>none) D;refine⟨zs,m,?_⟩;rw[E.fl_ufl]
   have key:∀{ts:List Ty} {cs:List (SC E)} {p:HL E.S ts} {vs:List Value},cy_ E (λ_=>none) ts cs=some p->All2 (RC P E z (λ_=>none)) cs vs->RD E z ts p vs:=by
    intro ts cs p vs j u
    induction cs generalizing ts vs with
    | nil=>cases ts with
     | nil=>cases u;exact .nil
     | cons t ts=>simp[cy_]at j
    | cons c cs C=>cases ts with
     | nil=>simp[cy_]at j
     | cons t ts =>
      cases u with
      | cons m s =>
       simp only[cy_]at j;split at j
       .cases j
       .rename_i y f;split at j
        .rename_i J q;obtain rfl:=qSj j;refine RD.cons ?_ (C q s);unfold SC.data at f;split at f
         .split at f
          .rename_i F;subst F;obtain rfl:=qSj f;exact m
          .cases f
         .split at f
          .obtain rfl:=qSj f;simp only[RC]at m;subst m;exact RD.sl (xs:=[]) (cap:=0) (SlF.nil _ _ _ _) (qA _) (rows:=[]) (λi x r h=>by simp at h) .nil
          .cases f
         .cases f
         .cases f
        .cases j
   exact key G s
  .cases h
 .cases h
theorem same_int{x y:Operand}{ky:IntKind}{n:Int}(f:Operand.same x y=true)(j:ρ y = .int ky n)(hρc:∀v,ρ (.const v)=v):∃kx,ρ x = .int kx n:=by
 unfold Operand.same at f;split at f
 .obtain rfl:=qNb f;exact⟨ky,j⟩
 .rename_i ka a kb b;simp only[qDe]at f;subst f;rw[hρc]at j;injection j with p m;exact⟨ka,by rw[hρc,m]⟩
 .cases f
theorem lMake_ok{T:TypeId}{x y:Operand}(ho:o.op = .makeSlice T x y)(hρc:∀v,ρ (.const v)=v)(s:Fresh g nx)(hρ:OpR P E z g L ρ)(hH:HR P E Bs F0 w0 w z g H)(h:lMake P E L nx T x y k=some r):e2_ P E Bs F0 w0 w z g nx H ρ o true k r:=by
 unfold lMake at h;split at h
 .rename_i e hu;split at h
  .rename_i t ky n ht hy;have J:=SV.int_ok rfl (hρ y _ hy);split at h
   .rename_i zv hz U C;obtain⟨xs,G,h⟩:=bind_some h;have V:=elemOK hu U;obtain⟨zs,ZZ,Z⟩:=zeroD_ok (z:=z) hz;obtain⟨kx,u⟩:=same_int C J hρc;obtain⟨A',w',D,F,j⟩:=run_makeSlice_full (P:=P) ho V ZZ u J (Sep.start [] w) G;obtain⟨h0,h1,h2,rfl⟩:=p7_ G;obtain⟨m,p,_⟩:=F.hold _ (qD ..);have O:=F.own _ (qD ..) trivial;have M:Rows E z t (List.replicate n.toNat zv) (List.replicate n.toNat zs):=λi x r Y hr=>by
     rw[List.getElem?_replicate]at Y hr;split at Y
     .rename_i hc;rw[qV hc]at hr;obtain rfl:=qSj Y;obtain rfl:=qSj hr;exact Z
     .cases Y
    exact⟨_,_,z,_,w',_,h,⟨D,⟨_,rfl,_,Ga.put_self _ _ _,rfl⟩,Fz.Le.refl z,Ga.le_put s.self,s.put _,hH.row_new s j (by simp) m p M (λq ⟨a,ha,hq⟩=>(O q ⟨a,ha,hq⟩).resolve_right (by simp)),λ_=>j⟩⟩
   .rename_i zv hz U C f;obtain⟨xs,G,h⟩:=bind_some h;have V:=elemOK hu U;have u:∃kx,ρ x = .int kx 0:=by
     unfold Operand.zero at f;split at f
     .rename_i ka a;simp only[qDe]at f;subst f;exact⟨ka,hρc _⟩
     .cases f
    obtain⟨kx,u⟩:=u;obtain⟨A',w',D,F,j⟩:=s7_ (P:=P) ho V u J (Sep.start [] w) G;obtain⟨m,p,_⟩:=F.hold _ (qD ..);have O:=F.own _ (qD ..) trivial;exact⟨_,_,z,_,w',_,h,⟨D,⟨_,rfl,_,Ga.put_self _ _ _,rfl⟩,Fz.Le.refl z,Ga.le_put s.self,s.put _,hH.row_new s j rfl m p (λi x r h=>by simp at h) (λq ⟨a,ha,hq⟩=>(O q ⟨a,ha,hq⟩).resolve_right (by simp)),λ_=>j⟩⟩
   .cases h
  .cases h
 .cases h
def pz_(E:TE)(H:Nat->Option (Obj E))(t:Ty):Nat->List (SC E)->Option (List (Den E.S t))
 | 0,_=>some []
 | n+1,l=>match cy_ E H (E.flat t) (l.take (E.size t))with
  | some h=>match pz_ E H t n (l.drop (E.size t))with
   | some xs=>some (E.ufl t h::xs)
   | none=>none
  | none=>none
theorem uD_{t:Ty}(p:HR P E Bs F0 w0 w z g H):∀{n:Nat} {l:List (SC E)} {xs:List (Den E.S t)} {vs:List Value},pz_ E H t n l=some xs->All2 (RC P E z g) l vs->vs.length=n*E.size t ->
  ∃rows:List (List Value),rows.flatten=vs/\rows.length=n/\xs.length=n/\Rows E z t xs rows
 | 0,l,xs,vs,h,hr,m=>by
  simp only[pz_,qOi]at h;subst h;rw[Nat.zero_mul]at m;exact⟨[],(jn m).symm,rfl,rfl,λi x r h=>by simp at h⟩
 | n + 1,l,xs,vs,h,hr,m=>by
  simp only[pz_]at h;split at h
  .rename_i D q;split at h
   .rename_i xs' f;obtain rfl:=qSj h;have j:=er_ p q (hr.take (E.size t));obtain⟨rows,C,y,u,s⟩:=uD_ p f (hr.drop (E.size t)) (by rw[qS,m,zD];omega);refine⟨vs.take (E.size t)::rows,by rw[qv,C,zl],by simp[y],by simp[u],λi x r f hr => ?_⟩;cases i with
    | zero =>
     simp only[je,qOi]at f hr;subst f;subst hr;rw[E.fl_ufl];exact j
    | succ i =>
     simp only[List.getElem?_cons_succ]at f hr;exact s i x r f hr
   .cases h
  .cases h
theorem All2.rep{l:List (SC E)}{vs:List Value}(h:All2 (RC P E z g) l vs):∀n,All2 (RC P E z g) (List.replicate n l).flatten (List.replicate n vs).flatten
 | 0 => .nil
 | n+1=>by
  simp only[List.replicate_succ,qv];exact h.append (h.rep n)
def lSlice (P:Program) (E:TE) (L:Nat->Option (SV E)) (H:Nat->Option (Obj E)) (nx:Nat) (T:TypeId) (n:Nat) (ps:Array (Nat×Operand)) {R:Type} (k:Option (SV E)->Chs E->Option R):Option R :=
 match P.underlying T with
 | some (.slice e)=>match E.ty e,mX_ P E e,bq_ P e with
  | some t,some zc,some s=>match Nat.beq s (E.size t)&&Nat.beq zc.length s&&Nat.ble (n*s) 16777216&&Nat.ble n 9223372036854775807 with
   | true=>match py_ E L s ps.toList (List.replicate n zc).flatten with
    | some l=>match pz_ E (upH H (eF_ H l)) t n l with
     | some xs=>k (some (.v (.one (.own nx)))) ((nx,some (.row e t xs []))::eF_ H l)
     | none=>none
    | none=>none
   | false=>none
  | _,_,_=>none
 | _=>none
theorem lSlice_ok {T:TypeId} {n:Nat} {ps:Array (Nat×Operand)} (ho:o.op = .buildSlice T n ps) (J:Fresh g nx) (hρ:OpR P E z g L ρ) (hH:HR P E Bs F0 w0 w z g H) (h:lSlice P E L H nx T n ps k=some r):e2_ P E Bs F0 w0 w z g nx H ρ o true k r:=by
 unfold lSlice at h;split at h
 .rename_i e hu;split at h
  .rename_i t zc s ht hz hs;split at h
   .rename_i hb;simp only[qAn]at hb;obtain⟨⟨⟨ZQ,ZR⟩,ZS⟩,ZT⟩:=hb;obtain rfl:=qNb ZQ;have ZY:=qNb ZR;have ZP:=qx ZS;split at h
    .rename_i l hl;split at h
     .rename_i xs hx;obtain⟨zs,j,O⟩:=qh_ (P:=P) (z:=z) (g:=g) hz;have ZZ:zs.length=E.size t:=by rw[←O.len];exact ZY
      obtain⟨inf,zv,hi,D,rfl⟩:∃inf zv,P.info? e=some inf/\inf.zero=some zv/\zs=zv.cells.toList:=by
       unfold zeroOf at j;split at j
       .rename_i inf hi;split at j
        .rename_i zv D;exact⟨inf,zv,hi,D,(qSj j).symm⟩
        .cases j
       .cases j
      have m:inf.size=E.size t:=by simpa[bq_,hi]using hs
      have y:=is_ zv.cells.toList n;rw[ZZ,zW]at y;obtain⟨cells',hf,hr⟩:=o7_ (P:=P) hρ hl (cells:=madeCells zv.cells (n*E.size t)) (by rw[←y];exact O.rep n)
      have Y:∀(ps:List (Nat×Value)) (c c':Array Value) (pl:Nat->Option (Nat×Nat)),Instr.fill pl c ps=some c'->c'.size=c.size:=by
       intro ps
       induction ps with
       | nil=>intro c c' pl h;simp only[Instr.fill,qOi]at h;subst h;rfl
       | cons p ps ih =>
        intro c c' pl h;simp only[Instr.fill]at h;split at h
        .cases h
        .split at h
         .cases h
         .rw[ih _ _ _ h];have key:∀(us:List (Value×Nat)) (off:Nat) (c:Array Value),(us.foldl (λcs (q:Value×Nat)=>cs.setIfInBounds (off+q.2) q.1) c).size=c.size:=by
           intro us
           induction us with
           | nil=>intro off c;rfl
           | cons u us ih=>intro off c;rw[List.foldl_cons,ih];simp
          rw[←Array.foldl_toList];exact key _ _ _
      have ZU:cells'.toList.length=n*E.size t:=by
       rw[qi,Y _ _ _ _ hf,size_madeCells]
      obtain⟨z',U,Z⟩:=eh_ hH l;obtain⟨rows,h1,h2,h3,h4⟩:=uD_ Z hx (hr.mono λ_ _ h=>RC.le h U (Ga.Le.refl g)) ZU;have C:=h4.cells (by omega);have hS:=(Sep.start [] w).row_new e (E.size t) n rows h2 C.2 ZT;rw[h1,zW]at hS;obtain⟨G,M,_⟩:=hS.hold _ (qD ..);have ZV:=hS.own _ (qD ..) trivial;have V:(execOp ρ o).run P w = .ok (.value (.slice (some ⟨w.heap.size,0,none⟩) n n)) (w.alloc (.cells cells' e)):=by
       unfold execOp;rw[ho];have e3:(ps.map λ(i,x)=>(i,ρ x)).toList=ps.toList.map λp=>(p.1,ρ p.2):=by simp
       have ZW:¬(n*inf.size>2^24):=by rw[m];omega
       simp only[Instr.buildSlice,Sem.run_bind,run_underlying hu,Result.andThen_ok,sizeOf,typeInfo,run_program,hi,Sem.run_pure];rw[qX ZW];rw[e3];by_cases h0:n*E.size t=0
       .rw[qV (by rw[m];exact h0)];have f:(Array.range (n*E.size t)).map (λx=>(#[]:Array Value)[x%(#[]:Array Value).size]!)=madeCells zv.cells (n*E.size t):=by rw[h0];simp[madeCells]
        simp only[Sem.run_bind,Sem.run_pure,Result.andThen_ok,f,m,hf,newRow];rfl
       .rw[qX (by rw[m];exact h0)];have f:(Array.range (n*E.size t)).map (λx=>zv.cells[x%zv.cells.size]!)=madeCells zv.cells (n*E.size t):=rfl;have F:(zeroValue e).run P w = .ok zv w:=by simp[zeroValue,typeInfo,hi,D]
        simp only[Sem.run_bind,Sem.run_pure,Result.andThen_ok,F,f,m,hf,newRow];rfl
      have ZX:upH H ((nx,some (.row e t xs []))::eF_ H l)=upH (upH H (eF_ H l)) [(nx,some (.row e t xs []))]:=by rw[aV_];rfl
      refine⟨_,_,z',_,_,_,h,⟨V,⟨_,rfl,_,Ga.put_self _ _ ⟨some ⟨w.heap.size,0,none⟩,n,n,E.size t,0,0⟩,rfl⟩,U,Ga.le_put J.self,J.put _,?_,λ_=>Ext.one w _⟩⟩;rw[ZX];exact Z.row_new J (Ext.one w _) h3 G M h4 λq ⟨a,ha,hq⟩=>(ZV q ⟨a,ha,hq⟩).resolve_right (by simp)
     .cases h
    .cases h
   .cases h
  .cases h
 .cases h
theorem run_copy_own{T T2 e c:Nat}{x y:Operand}{n cap m cap2:Nat}{A A2:Option Addr}{rows news:List (List Value)}{F:Nat->Prop}(ho:o.op = .call { callee := .builtin .copy,args := #[x,y],argTypes := #[T,T2] })(hu:P.underlying T=some (.slice e))(hs:bq_ P e=some c)
  (hx:ρ x = .slice A n cap) (hy:ρ y = .slice A2 m cap2) (hR:Res.holds w (.row e c A n cap rows)) (s:SlF F c A2 m news w) (Y:∀q∈news,q.length=c) (ZT:sD_ news) :
  ∃w',(execOp ρ o).run P w = .ok (.value (.int .i64 ((min m n:Nat):Int))) w'/\Res.holds w' (.row e c A n cap (news.take (min m n)++rows.drop (min m n)))/\Grow w w'/\∀q,¬cT_ A q->w'.heap[q]? = w.heap[q]? := by
 obtain⟨cs,V⟩:=uw_ (ρ:=ρ) ho;rw[BigFrame.builtin_copy]at V;obtain⟨ZU,O,ZW⟩:=hR;obtain⟨inf,hi,ZX⟩:∃inf,P.info? e=some inf/\inf.size=c:=by
  unfold bq_ at hs;cases f:P.info? e with
  | none=>simp[f]at hs
  | some i=>exact⟨i,rfl,by simpa[f]using hs⟩
 have ZE:Nat.min m n=min m n:=rfl;have C:(Builtin.firstCells c (Nat.min m n) (.slice A2 m cap2)).run P w = .ok (news.take (min m n)).flatten.toArray w:=by
  have ZY:∀q∈news.take (min m n),q.length=c:=λq f=>Y q (zd f)
  have p:(news.take (min m n)).flatten.length=min m n*c:=by
   rw[bo_ ZY,qb,s.1]
   congr 1;omega
  cases A2 with
  | none =>
   have hm:m=0:=by
    rcases qt m with D|D
    .exact D
    .obtain⟨b,off,hh,_⟩:=s.2 D;cases hh
   have:(news.take (min m n)).flatten=[]:=jn (by rw[p,hm];simp);rw[this];rfl
  | some ad =>
   have:=run_loadCells_list (P:=P) w ad (news.take (min m n)).flatten (λj v J=>by
    have Z:j<min m n*c:=by rw[←p];exact(qZ.1 J).1
    have ZF:0<c:=by
     rcases qt c with D|D
     .rw[D]at Z;omega
     .exact D
    have ZI:0<m:=by
     rcases qt m with D|D
     .subst D;simp at Z
     .exact D
    obtain⟨b,off,hA,_,ZZ⟩:=s.2 ZI;simp only[qOi]at hA;subst hA;have f:j/c<min m n:=Nat.div_lt_of_lt_mul (by rw[jQ];exact Z);have ZV:j/c<news.length:=by rw[s.1];omega
    have M:j%c<c:=jc _ ZF;have u:=ZZ (j/c) _ (qQ ZV);have ZH:(news.take (min m n))[j/c]? = some news[j/c]:=by rw[zX,qV f,qQ ZV]
    have ZR:=iI_ ZY ZH (j%c) (news[j/c][j%c]'(by rw[u.1];exact M)) (qQ _);have hj:j/c*c+j%c=j:=by rw[jQ];exact ja j c
    rw[hj,J]at ZR;have ZP:=u.2 (j%c) _ (qQ (by rw[u.1];exact M));rw[zP,hj]at ZP;rw[Addr.add_mk,ZP,ZR])
   rw[p]at this;exact this
 have G:∀q∈news.take (min m n)++rows.drop (min m n),q.length=c:=λq f=>by
  rcases qY.1 f with f|f
  .exact Y q (zd f)
  .exact ZW q (List.mem_of_mem_drop f)
 have h:(news.take (min m n)++rows.drop (min m n)).length=n:=by
  rw[qLa,qb,qS,s.1,O];omega
 have p:(news.take (min m n)).flatten.length=min m n*c:=by
  rw[bo_ (c:=c) (λq f=>Y q (zd f)),qb,s.1]
  congr 1;omega
 rcases ZU.2 with⟨J,ZJ⟩|⟨b,cap',cur,J,hb,hh,ZK,ZG,ZQ,ZN⟩
 .injection J with e1 e2 e3;subst ZJ;subst e1;subst e3;refine⟨w,?_,⟨⟨?_,.inl ⟨rfl,rfl⟩⟩,h,G⟩,Grow.refl w,λ_ _=>rfl⟩
  .have ZS:=C;rw[show Nat.min m 0=0 from Nat.min_zero m]at ZS;rw[V];simp[hx,hy,Builtin.copy_,run_underlying hu,Builtin.lenOf,sizeOf,typeInfo,hi,ZX,ZS,goInt]
  .rw[bo_ G,h]
 .injection J with e1 _ e3;subst e1;subst e3;have U:0+0+(news.take (min m n)).flatten.length<=cur.size:=by
   rw[p,ZQ];have:min m n*c<=cap*c:=qg c (by omega);omega
  have h1:∀v∈(news.take (min m n)).flatten,v.oneCell'=true:=λv J=>by
   obtain⟨q,f,ZO⟩:=jD.1 J;exact nG_ (ZT q (zd f)) v ZO
  have ZM:=run_storeCells_at (P:=P) b 0 e (news.take (min m n)).flatten 0 cur w hh U h1;refine⟨w.setRow b (cur.toList.take (0+0)++(news.take (min m n)).flatten++cur.toList.drop (0+0+(news.take (min m n)).flatten.length)).toArray,?_,⟨⟨?_,.inr ⟨b,cap,_,rfl,qq _,os_ w b _ cur e hh,ZK,ZG,?_,?_⟩⟩,h,G⟩,iK_ w b _,λq f=>iJ_ w b q _ (λhe=>f ⟨_,rfl,he⟩)⟩
  .rw[V];simp[hx,hy,Builtin.copy_,run_underlying hu,Builtin.lenOf,sizeOf,typeInfo,hi,ZX,C,goInt,ZM]
  .rw[bo_ G,h]
  .simp only[qo,jF,List.take_zero,zG,jf,qLa,qS,qi,ZQ]at U ⊢;omega
  .simp only[qo,jF,List.take_zero,zG];have ZL:(rows.drop (min m n)).flatten=rows.flatten.drop (min m n*c):=by
    have e1:rows.flatten=(rows.take (min m n)).flatten++(rows.drop (min m n)).flatten:=by rw[←List.flatten_append,zl]
    have e2:(rows.take (min m n)).flatten.length=min m n*c:=by
     rw[bo_ (c:=c) (λq f=>ZW q (zd f)),qb,O]
     congr 1;omega
    rw[e1,List.drop_left' e2]
   rw[List.flatten_append,ZL,←ZN];rw[List.take_append,p];rw[qc (by rw[p];exact qg c (by omega))];rw[jE]
def lCopy (P:Program) (E:TE) (L:Nat->Option (SV E)) (H:Nat->Option (Obj E)) (T:TypeId) (x y:Operand) {R:Type} (k:Option (SV E)->Chs E->Option R):Option R :=
 match opS E L x,opS E L y,P.underlying T with
 | some (.v (.one (.own id))),some (.v (.one cy)),some (.slice e)=>match H id with
  | some (.row e' t xs _)=>match Nat.beq e' e,bq_ P e,cy.rdT H t with
   | true,some s,some f=>match Nat.beq s (E.size t)with
    | true=>k (some (.v (.one (.dt (.int .i64) ((min f.length xs.length:Nat):Int))))) [(id,some (.row e t (mU_ xs f) []))]
    | false=>none
   | _,_,_=>none
  | _=>none
 | _,_,_=>none
theorem copy_rows{t:Ty}{xs f:List (Den E.S t)}{rows news:List (List Value)}(h:Rows E z t xs rows)(p:Rows E z t f news)(j:news.length=f.length):Rows E z t (mU_ xs f) (news.take (min f.length xs.length)++rows.drop (min f.length xs.length)):=by
 unfold mU_;refine Rows.append ?_ ?_ (by rw[qb,qb,j])
 .have:=qf_ p 0 (min f.length xs.length);simpa using this
 .intro i x r m hr;rw[zA]at m hr;exact h _ x r m hr
theorem lCopy_ok{T T2:TypeId}{x y:Operand}(ho:o.op = .call { callee := .builtin .copy,args := #[x,y],argTypes := #[T,T2] })(ZV:Fresh g nx)(hρ:OpR P E z g L ρ)(hH:HR P E Bs F0 w0 w z g H)(h:lCopy P E L H T x y k=some r):e2_ P E Bs F0 w0 w z g nx H ρ o false k r:=by
 unfold lCopy at h;split at h
 .rename_i id cy e hx hy hu;split at h
  .rename_i e' t xs foc hi;split at h
   .rename_i s ys hb hs ZX;obtain rfl:=qNb hb;split at h
    .rename_i ZR;obtain rfl:=qNb ZR;obtain⟨l,h1,ev⟩:=hρ x _ hx;obtain⟨l2,rows,h3,hn,hc,Y,ZY,ZW,O,_⟩:=hH.hold _ _ hi;rw[h1]at h3;obtain rfl:=qSj h3;obtain⟨A2,cap2,news,F,ey,M,ZS,m⟩:=SC.rdT_ok hH ZX (hρ y _ hy);obtain⟨ZZ,ZU⟩:=m.cells M.1;obtain⟨w',G,ZQ,U,Z⟩:=run_copy_own (P:=P) (w:=w) (rows:=rows) ho hu hs ev ey ⟨by rw[←hc];exact Y,ZY,by rw[←hc];exact ZW⟩ M ZU ZZ;obtain⟨f,u,J⟩:=ZQ;have D:=copy_rows O m M.1;have ZT:(mU_ xs ys).length=xs.length:=by unfold mU_;simp;omega
     rw[hn]at G f u J;refine⟨_,_,z,g,w',_,h,⟨G,⟨_,rfl,.int .nil⟩,Fz.Le.refl z,Ga.Le.refl g,ZV.succ,?_,λh=>by cases h⟩⟩;refine hH.turn (Ga.Le.refl g) (i:=id) (i':=id) (C:=cT_ l.A) (λq ⟨a,ha,V⟩=>⟨_,hi,l,a,h1,ha,V⟩) U (λq _ V=>Z q V) (o' := .row e' t (mU_ xs ys) []) ?_ (λq V => ?_) λj p hj => ?_
     .exact⟨l,_,h1,by rw[ZT];exact hn,hc,by rw[hn,hc];exact f,by rw[hn];exact u,by rw[hc];exact J,D,λp hp=>nomatch hp⟩
     .obtain⟨l2,a2,h5,h6,rfl⟩:=V;rw[h1]at h5;obtain rfl:=qSj h5;exact .inl ⟨a2,h6,rfl⟩
     .rcases ci_ hj with⟨rfl,rfl⟩|⟨h5,h6⟩
      .exact .inl ⟨rfl,rfl⟩
      .exact .inr ⟨h5,.inl h5,h6⟩
    .cases h
   .cases h
  .cases h
 .cases h
theorem uE_{es:Array MapEntry}{i:Nat}{e:MapEntry}{f:MapEntry->MapEntry}(q:es.toList[i]? = some e):(es.modify i f).toList=es.toList.set i (f e):=by
 apply zL;intro j;have p:es[i]? = some e:=by simpa using q
 rw[Array.getElem?_toList,za,zT,Array.getElem?_toList];by_cases h:i=j
 .subst h;have m:i<es.toList.length:=(qZ.1 q).1;rw[qV rfl,qV rfl,qV m,p];rfl
 .rw[qX h,qX h]
theorem idxK_of{α:Type}{eq:α->α->Bool}(f:∀x y,eq x y=true↔x=y){x:α}:∀{ks:List α} {i:Nat},ks.Nodup->ks[i]? = some x->cn_ eq x ks=some i
 | [],_,_,h=>by simp at h
 | y::p,0,_,h=>by
  simp at h;subst h;simp only[cn_,(f y y).2 rfl]
 | y::p,i+1,q,h=>by
  obtain⟨C,u⟩:=jb.1 q;have m:p[i]? = some x:=by simpa using h
  have j:eq x y=false:=by
   cases s:eq x y with
   | false=>rfl
   | true=>rw[(f x y).1 s]at m;exact absurd (qe m) C
  simp only[cn_,j,idxK_of f u m]
theorem MapIs.put_new{kt vt:Ty}{ks:List (Den E.S kt)}{vs:List (Den E.S vt)}{es:Array MapEntry}{clock:Nat}{eq:Den E.S kt->Den E.S kt->Bool}(C:∀x y,eq x y=true↔x=y)(h:MapIs E kt vt ks vs es clock){x:Den E.S kt}{y:Den E.S vt}{kv v:Value}(hi:cn_ eq x ks=none)(D:c4_ E kt x=some kv)(u:c4_ E vt y=some v) :
  MapIs E kt vt (bc_ eq ks x) (bA_ eq ks vs x y) (es.push ⟨kv,v,clock⟩) (clock+1):=by
 have s:=ry_ hi;have q:=h.rel.len;rw[ul_ hi (by rw[q.1,q.2])];unfold bc_;rw[s];refine⟨?_,λe f => ?_,?_,?_⟩
 .rw[Array.toList_push];exact h.rel.push D u
 .rw[Array.toList_push]at f;rcases qY.1 f with f|f
  .have:=h.lt e f;omega
  .obtain rfl:=qE.1 f;exact Nat.lt_succ_self _
 .rw[Array.toList_push,List.map_append];refine List.nodup_append.2 ⟨h.nd,by simp,λa p b j => ?_⟩;obtain⟨e,f,rfl⟩:=zQ.1 p;simp at j;subst j;have:=h.lt e f;omega
 .refine List.nodup_append.2 ⟨h.ks,by simp,λa p b j => ?_⟩;simp at j;subst j;intro m;subst m;have:=jO.1 s a p;exact this ((C a a).2 rfl)
theorem MapIs.put_old{kt vt:Ty}{ks:List (Den E.S kt)}{vs:List (Den E.S vt)}{es:Array MapEntry}{clock:Nat}{eq:Den E.S kt->Den E.S kt->Bool}(h:MapIs E kt vt ks vs es clock){x:Den E.S kt}{y:Den E.S vt}{v:Value}{i:Nat}{e e':MapEntry}(hi:cn_ eq x ks=some i)(u:es.toList[i]? = some e)(f:MapEntry->MapEntry)(M:f e=e')(q:e'.key=e.key)(F:e'.born=e.born)(G:e'.val=v)(p:c4_ E vt y=some v) :
  MapIs E kt vt (bc_ eq ks x) (bA_ eq ks vs x y) (es.modify i f) clock:=by
 have U:=(me_ hi).1;have D:=h.rel.len;rw[um_ hi (by rw[D.1,D.2])];unfold bc_;rw[U];have m:=uE_ (f:=f) u;rw[M]at m;refine⟨?_,λV s => ?_,?_,h.ks⟩
 .rw[m];exact h.rel.set u q (by rw[G];exact p)
 .rw[m]at s;rcases List.mem_or_eq_of_mem_set s with O|rfl
  .exact h.lt _ O
  .rw[F];exact h.lt _ (qe u)
 .rw[m,List.map_set,F];have:(es.toList.map (·.born)).set i e.born=es.toList.map (·.born):=by
   apply zL;intro j;rw[zT];split
   .rename_i C;subst C;split
    .rw[qm,u];rfl
    .rename_i J;rw[qa (by omega)]
   .rfl
  rw[this];exact h.nd
def tD_(P:Program)(E:TE)(nx:Nat)(T:TypeId){R:Type}(k:Option (SV E)->Chs E->Option R):Option R :=
 match P.underlying T with
 | some (.map K e)=>match E.ty K,E.ty e with
  | some kt,some vt=>k (some (.v (.one (.mp nx)))) [(nx,some (.map T kt vt [] [] []))]
  | _,_=>none
 | _=>none
theorem lMakeMap_ok{T:TypeId}(y:o.op = .makeMap T none)(f:Fresh g nx)(D:HR P E Bs F0 w0 w z g H)(h:tD_ P E nx T k=some r):e2_ P E Bs F0 w0 w z g nx H ρ o true k r:=by
 unfold tD_ at h;split at h
 .split at h
  .rename_i kt vt _ _;have m:(execOp ρ o).run P w = .ok (.value (.map (some w.heap.size))) (w.alloc (.map #[] 0)):=by
    unfold execOp;simp only[y,ze];rw[Sem.run_bind,run_makeMap];rfl
   refine⟨_,_,z,g.put nx ⟨none,0,0,0,w.heap.size,0⟩,_,_,h,⟨m,⟨_,rfl,_,Ga.put_self _ _ _,rfl⟩,Fz.Le.refl z,Ga.le_put f.self,f.put _,?_,λ_=>Ext.one w _⟩⟩;refine D.add (Ext.one w _) f.self (o := .map T kt vt [] [] []) ⟨_,_,_,Ga.put_self _ _ _,(MapKept.heap_alloc w _).1,⟨.nil,by simp,by simp,by simp⟩,λp x=>nomatch x⟩ (λq u => ?_) λj p C=>ci_ C
   obtain⟨l,s,rfl⟩:=u;rw[Ga.put_self]at s;obtain rfl:=qSj s;exact qA _
  .cases h
 .cases h
theorem HR.map_turn{g':Ga}{id:Nat}{T:TypeId}{kt vt:Ty}{ks ks':List (Den E.S kt)}{vs vs':List (Den E.S vt)}{foc foc':List (Nat×Den E.S kt)}{l:Loc}{es':Array MapEntry}{clock':Nat}(D:HR P E Bs F0 w0 w z g H)(hi:H id=some (.map T kt vt ks vs foc))(u:g id=some l)(m:l.b<w.heap.size)(s:g.Le g')
  (hm:MapIs E kt vt ks' vs' es' clock') (y:∀p∈foc',∃lq,∃i:Nat,∃e:MapEntry,g' p.1=some lq/\es'.toList[i]? = some e/\e.born=lq.n/\ks'[i]? = some p.2) :
  HR P E Bs F0 w0 (dd_ w l.b es' clock') z g' (upH H [(id,some (.map T kt vt ks' vs' foc'))]):=by
 refine D.turn s (i:=id) (i':=id) (C:=λq=>q=l.b) (λq f=>⟨_,hi,l,u,f⟩) setMap_grow (λq _ f=>setMap_other f) (o' := .map T kt vt ks' vs' foc') ⟨l,es',clock',s _ _ u,setMap_same m,hm,y⟩ (λq f => ?_) λj p x => ?_
 .obtain⟨l2,h,rfl⟩:=f;rw[s _ _ u]at h;obtain rfl:=qSj h;exact .inl rfl
 .rcases ci_ x with⟨rfl,rfl⟩|⟨h,F⟩
  .exact .inl ⟨rfl,rfl⟩
  .exact .inr ⟨h,.inl h,F⟩
def lMapUpd (P:Program) (E:TE) (eqs:List (Nat×Nat)) (L:Nat->Option (SV E)) (H:Nat->Option (Obj E)) (T:TypeId) (m x y:Operand) {R:Type} (k:Option (SV E)->Chs E->Option R):Option R :=
 match opS E L m,opS E L x,opS E L y,P.underlying T with
 | some (.v (.one (.mp id))),some (.v xs),some (.v f),some (.map K _)=>match H id with
  | some (.map T' kt vt ks vs _)=>match eqB E kt,keyD E H kt xs,keyD E H vt f with
   | some eq,some kx,some vy=>match keyV P E eqs K kt kx,c4_ E vt vy with
    | some _,some _=>k none [(id,some (.map T' kt vt (bc_ eq ks kx) (bA_ eq ks vs kx vy) []))]
    | _,_=>none
   | _,_,_=>none
  | _=>none
 | _,_,_,_=>none
theorem lMapUpd_ok{eqs:List (Nat×Nat)}(ZY:∀p∈eqs,ba_ P E p.1 p.2){T:TypeId}{m x y:Operand}(ho:o.op = .mapUpdate T m x y)(U:Fresh g nx)(hρ:OpR P E z g L ρ)(J:HR P E Bs F0 w0 w z g H)(h:lMapUpd P E eqs L H T m x y k=some r):e2_ P E Bs F0 w0 w z g nx H ρ o false k r:=by
 unfold lMapUpd at h;split at h
 .rename_i id xs ys K e hm hx hy hu;split at h
  .rename_i T' kt vt ks vs foc hi;split at h
   .rename_i eq kx vy he hk hv;split at h
    .rename_i kv vv Z s;have C:=keyV_ok ZY he Z;have ekv:ρ x=kv:=k3_ C.val (k4_ J hk (hρ x _ hx));have evv:ρ y=vv:=k3_ s (k4_ J hv (hρ y _ hy));obtain⟨l,h1,h2⟩:=hρ m _ hm;obtain⟨l',es,c,h3,h4,M,_⟩:=J.hold _ _ hi;rw[h1]at h3;obtain rfl:=qSj h3;have Y:l.b<w.heap.size:=J.hold _ _ hi |>.lt ⟨l,h1,rfl⟩
     have F:=M.rel.len;have f:=C.find w M.rel;have done:∀(es':Array MapEntry) (c':Nat),(Instr.mapUpdate T (.map (some l.b)) kv vv).run P w = .ok () (dd_ w l.b es' c')->MapIs E kt vt (bc_ eq ks kx) (bA_ eq ks vs kx vy) es' c'->e2_ P E Bs F0 w0 w z g nx H ρ o false k r:=λes' c' D V=>by
      refine⟨none,_,z,g,_,_,h,⟨?_,rfl,Fz.Le.refl z,Ga.Le.refl g,U.succ,J.map_turn hi h1 Y (Ga.Le.refl g) V (λp hp=>nomatch hp),λh=>by cases h⟩⟩;unfold execOp;simp only[ho,h2,ekv,evv];rw[Sem.run_bind,D];rfl
     cases j:cn_ eq kx ks with
     | none =>
      rw[j]at f;exact done _ _ (vX_ hu h4 C.chk f) (M.put_new (px_ he) j C.val s)
     | some i =>
      rw[j]at f;obtain⟨_,yk,h6,h7⟩:=me_ j;have u:i<es.size:=by
       have:=(qZ.1 h6).1;have:=F.1;simp at this;omega
      have G:es.toList[i]? = some es[i]:=by simp[u]
      have ZX:es[i]? = some es[i]:=by simp[u]
      obtain⟨xk,yv,h8,h9,O,ZW⟩:=M.rel.get G;rw[h6]at h8;obtain rfl:=qSj h8;have q:es[i].key=kv:=by
       have:=(px_ he kx yk).1 h7;subst this;rw[C.val]at O;exact(qSj O).symm
      have ZZ:(Instr.findKey K kv es.toList).run P w = .ok (some (i,es[i].val)) w:=by rw[f];simp[foundAt,u]
      exact done _ _ (vY_ hu h4 C.chk ZZ ZX q C.same) (M.put_old (e':=⟨kv,vv,es[i].born⟩) j G _ rfl q.symm rfl rfl s)
    .cases h
   .cases h
  .cases h
 .cases h
def lMapEnt (P:Program) (E:TE) (eqs:List (Nat×Nat)) (L:Nat->Option (SV E)) (H:Nat->Option (Obj E)) (nx:Nat) (T:TypeId) (m x:Operand) {R:Type} (k:Option (SV E)->Chs E->Option R):Option R :=
 match opS E L m,opS E L x,P.underlying T with
 | some (.v (.one (.mp id))),some (.v xs),some (.map K e)=>match H id with
  | some (.map T' kt vt ks vs _)=>match eqB E kt,keyD E H kt xs,zeroX P E e vt with
   | some eq,some kx,some zx=>match keyV P E eqs K kt kx,c4_ E vt zx with
    | some _,some _=>k (some (.tup [datV E vt (aL_ eq ks vs kx zx),.one (.mst nx)])) [(id,some (.map T' kt vt (bc_ eq ks kx) (bA_ eq ks vs kx (aL_ eq ks vs kx zx)) [(nx,kx)]))]
    | _,_=>none
   | _,_,_=>none
  | _=>none
 | _,_,_=>none
theorem lMapEnt_ok{eqs:List (Nat×Nat)}(ZQ:∀p∈eqs,ba_ P E p.1 p.2){T:TypeId}{m x:Operand}(ho:o.op = .mapEntry T m x)(D:Fresh g nx)(hρ:OpR P E z g L ρ)(Y:HR P E Bs F0 w0 w z g H)(h:lMapEnt P E eqs L H nx T m x k=some r):e2_ P E Bs F0 w0 w z g nx H ρ o false k r:=by
 unfold lMapEnt at h;split at h
 .rename_i id xs K e hm hx hu;split at h
  .rename_i T' kt vt ks vs foc hi;split at h
   .rename_i eq kx zx he hk hz;split at h
    .rename_i kv zv ZS J;have G:=keyV_ok ZQ he ZS;have ekv:ρ x=kv:=k3_ G.val (k4_ Y hk (hρ x _ hx));obtain⟨l,h1,h2⟩:=hρ m _ hm;obtain⟨l',es,c,h3,h4,Z,_⟩:=Y.hold _ _ hi;rw[h1]at h3;obtain rfl:=qSj h3;have ZT:l.b<w.heap.size:=Y.hold _ _ hi |>.lt ⟨l,h1,rfl⟩
     have s:=Z.rel.len;have j:=G.find w Z.rel;have done:∀(es':Array MapEntry) (c' born i:Nat) (v:Value) (e1:MapEntry),(Instr.mapEntry T (.map (some l.b)) kv).run P w = .ok (.tuple #[v,.int .i64 (born:Int)]) (dd_ w l.b es' c')->c4_ E vt (aL_ eq ks vs kx zx)=some v->MapIs E kt vt (bc_ eq ks kx) (bA_ eq ks vs kx (aL_ eq ks vs kx zx)) es' c' ->
       es'.toList[i]? = some e1->e1.born=born->(bc_ eq ks kx)[i]? = some kx->e2_ P E Bs F0 w0 w z g nx H ρ o false k r:=λes' c' born i v e1 U C ZU ZW ZX ZY=>by
      have hp:=Ga.put_self g nx (⟨none,born,0,0,0,0⟩:Loc);refine⟨_,_,z,g.put nx ⟨none,born,0,0,0,0⟩,_,.value (.tuple #[v,.int .i64 (born:Int)]),h,⟨?_,⟨_,rfl,[v,.int .i64 (born:Int)],rfl,.cons (datV_ok C) (.cons ⟨_,hp,rfl⟩ .nil)⟩,Fz.Le.refl z,Ga.le_put D.self,D.put _,Y.map_turn hi h1 ZT (Ga.le_put D.self) ZU (λp ZV => ?_),λh=>by cases h⟩⟩
      .unfold execOp;simp only[ho,h2,ekv];rw[Sem.run_bind,U];rfl
      .obtain rfl:=qE.1 ZV;exact⟨_,i,e1,hp,ZW,ZX,ZY⟩
     cases q:cn_ eq kx ks with
     | none =>
      rw[q]at j;have C:c4_ E vt (aL_ eq ks vs kx zx)=some zv:=by rw[p9_ q];exact J
      refine done _ _ c es.size zv ⟨kv,zv,c⟩ (x6_ hu h4 G.chk j (zeroX_ok Y hz J w)) C (Z.put_new (px_ he) q G.val C) (by simp) rfl ?_;unfold bc_;rw[ry_ q,qw,zg (by rw[s.1];simp)];rw[s.1];simp
     | some i =>
      rw[q]at j;obtain⟨V,yk,h6,h7⟩:=me_ q;have u:i<es.size:=by
       have:=(qZ.1 h6).1;have:=s.1;simp at this;omega
      have F:es.toList[i]? = some es[i]:=by simp[u]
      have ZP:es[i]? = some es[i]:=by simp[u]
      obtain⟨xk,yv,h8,h9,ZZ,ZO⟩:=Z.rel.get F;rw[h6]at h8;obtain rfl:=qSj h8;have M:=(px_ he kx yk).1 h7;have y:es[i].key=kv:=by
       rw[←M,G.val]at ZZ;exact(qSj ZZ).symm
      have ZR:(Instr.findKey K kv es.toList).run P w = .ok (some (i,es[i].val)) w:=by rw[j];simp[foundAt,u]
      have C:c4_ E vt (aL_ eq ks vs kx zx)=some es[i].val:=by rw[qa_ q h9];exact ZO
      have O:=uE_ (f:=λe=>{ e with key:=kv }) F;refine done _ _ es[i].born i es[i].val ⟨kv,es[i].val,es[i].born⟩ (x7_ hu h4 G.chk ZR ZP y G.same) C (Z.put_old (e':=⟨kv,es[i].val,es[i].born⟩) q F _ rfl y.symm rfl rfl C) ?_ rfl ?_
      .rw[O,zT,qV rfl,qV (by simpa using u)]
      .unfold bc_;rw[V,qn,h6,M]
    .cases h
   .cases h
  .cases h
 .cases h
def lEntSt (E:TE) (L:Nat->Option (SV E)) (H:Nat->Option (Obj E)) (m s y:Operand) {R:Type} (k:Option (SV E)->Chs E->Option R):Option R :=
 match opS E L m,opS E L s,opS E L y with
 | some (.v (.one (.mp id))),some (.v (.one (.mst q))),some (.v f)=>match H id with
  | some (.map T' kt vt ks vs foc)=>match eqB E kt,keyD E H vt f,foc.find? λp=>Nat.beq p.1 q with
   | some eq,some vy,some p=>match c4_ E vt vy with
    | some _=>k none [(id,some (.map T' kt vt (bc_ eq ks p.2) (bA_ eq ks vs p.2 vy) []))]
    | none=>none
   | _,_,_=>none
  | _=>none
 | _,_,_=>none
theorem lEntSt_ok{T:TypeId}{m s y:Operand}(ho:o.op = .entryStore T m s y)(G:Fresh g nx)(hρ:OpR P E z g L ρ)(D:HR P E Bs F0 w0 w z g H)(h:lEntSt E L H m s y k=some r):e2_ P E Bs F0 w0 w z g nx H ρ o false k r:=by
 unfold lEntSt at h;split at h
 .rename_i id q ys hm hs hy;split at h
  .rename_i T' kt vt ks vs foc hi;split at h
   .rename_i eq vy p he hv C;split at h
    .rename_i vv j;have evv:ρ y=vv:=k3_ j (k4_ D hv (hρ y _ hy));obtain⟨l,Y,h2⟩:=hρ m _ hm;obtain⟨ls,h6,h7⟩:=hρ s _ hs;obtain⟨l',es,c,h3,h4,O,h8⟩:=D.hold _ _ hi;rw[Y]at h3;obtain rfl:=qSj h3;have J:l.b<w.heap.size:=D.hold _ _ hi |>.lt ⟨l,Y,rfl⟩
     have F:p.1=q:=qNb (by simpa using jW C);obtain⟨lq,i,e,Z,u,V,U⟩:=h8 p (zH C);rw[F,h6]at Z;obtain rfl:=qSj Z;have M:=idxK_of (px_ he) O.ks U;have f:=vZ_ (P:=P) (T:=T) (w:=w) (x:=vv) h4 O.nd u;rw[V]at f;refine⟨none,_,z,g,_,_,h,⟨?_,rfl,Fz.Le.refl z,Ga.Le.refl g,G.succ,D.map_turn hi Y J (Ga.Le.refl g) (O.put_old (e':=⟨e.key,vv,e.born⟩) M u (λe=>{ e with val:=vv }) rfl rfl rfl rfl j) (λp C=>nomatch C),λh=>by cases h⟩⟩;unfold execOp;simp only[ho,h2,h7,evv];rw[Sem.run_bind];show((Instr.entryStore T (.map (some l.b)) (.int .i64 (ls.n:Int)) vv).run P w).andThen _=_;have:(Instr.entryStore T (.map (some l.b)) (.int .i64 (ls.n:Int)) vv).run P w = .ok () (dd_ w l.b (es.modify i λe=>{ e with val:=vv }) c):=f
     rw[this];rfl
    .cases h
   .cases h
  .cases h
 .cases h
end
def Tp(S:Nat->Type):List Ty->Type | []=>Unit | [t]=>Den S t|t::u::ts=>Den S t×Tp S (u::ts)
def e7_{S:Nat->Type}:(ts:List Ty)->HL S ts->Tp S ts | [],_=>() | [_],h=>h.1|_::u::ts,h=>(h.1,e7_ (u::ts) h.2)
def dj_{S:Nat->Type}:(ts:List Ty)->Tp S ts->HL S ts | [],_=>() | [_],h=>(h,())|_::u::ts,h=>(h.1,dj_ (u::ts) h.2)
theorem gf_{S:Nat->Type}:∀(ts:List Ty) (h:HL S ts),dj_ ts (e7_ ts h)=h
 | [],_=>rfl
 | [_],_=>rfl
 | t::u::ts,h=>by
  simp only[e7_,dj_];rw[gf_ (u::ts) h.2];rfl
abbrev Mk:=List (Option TypeId)
inductive Pm where
 | d (t:Ty)
 | l (t:Ty) (m:Mk)
 | g (t:Ty) (m:Mk)
 | b (T:TypeId) (t:Ty)
 | bm (T:TypeId) (t:Ty) (m:Mk) (px:Bool)
 | p (t:Ty)
 | mp (T:TypeId) (k v:Ty)
 | f1 (a r:Ty)
 | f2 (a b r:Ty)
@[reducible] def Pm.T (E:TE):Pm->Type
 | .d t=>Den E.S t
 | .l t _=>Den E.S t
 | .g t _=>Den E.S t
 | .b _ t=>Den E.S t
 | .bm _ t _ _=>Den E.S t
 | .p t=>Den E.S t
 | .mp _ k v=>List (Den E.S k)×List (Den E.S v)
 | .f1 x r=>Den E.S x->Option (Den E.S r)
 | .f2 x y r=>Den E.S x->Den E.S y->Option (Den E.S r)
def PA(E:TE):List Pm->Type | []=>Unit|p::ps=>p.T E×PA E ps
def bn_:List Pm->List Ty | []=>[] | .l t _::ps=>t::bn_ ps | .b _ t::ps=>t::bn_ ps | .bm _ t _ _::ps=>t::bn_ ps | .mp _ k v::ps => .sl k :: .sl v::bn_ ps|_::ps=>bn_ ps
def aJ_(E:TE):(ps:List Pm)->PA E ps->HL E.S (bn_ ps)->PA E ps | [],_,_=>() | .l _ _::ps,a,h=>(h.1,aJ_ E ps a.2 h.2) | .g _ _::ps,a,h=>(a.1,aJ_ E ps a.2 h) | .b _ _::ps,a,h=>(h.1,aJ_ E ps a.2 h.2) | .bm _ _ _ _::ps,a,h=>(h.1,aJ_ E ps a.2 h.2) | .mp _ _ _::ps,a,h=>((h.1,h.2.1),aJ_ E ps a.2 h.2.2) | .d _::ps,a,h=>(a.1,aJ_ E ps a.2 h) | .p _::ps,a,h=>(a.1,aJ_ E ps a.2 h) | .f1 _ _::ps,a,h=>(a.1,aJ_ E ps a.2 h) | .f2 _ _ _::ps,a,h=>(a.1,aJ_ E ps a.2 h)
abbrev Rs:=List (Ty×Mk)
def Rs.ts:Rs->List Ty | []=>[]|p::rs=>p.1::Rs.ts rs
def b3_(E:TE):Mk->(ts:List Ty)->HL E.S ts->Nat->List (SC E)|some _::ms,.sl _::ts,h,n => .own n::b3_ E ms ts h.2 (n+1)|none::ms,t::ts,h,n => .dt t h.1::b3_ E ms ts h.2 n|_,ts,h,_=>hlc E ts h
def bt_(E:TE):Mk->(ts:List Ty)->HL E.S ts->Nat->Chs E|some e::ms,.sl t::ts,h,n=>(n,some (.row e t h.1 []))::bt_ E ms ts h.2 (n+1)|none::ms,_::ts,h,n=>bt_ E ms ts h.2 n|_,_,_,_=>[]
def aK_:Mk->List Ty->Nat|some _::ms,.sl _::ts=>aK_ ms ts+1|none::ms,_::ts=>aK_ ms ts|_,_=>0
def asV(E:TE):(t:Ty)->List (SC E)->Option (V1 E) | .st _,l=>some (.agg l)|_,[c]=>some (.one c)|_,_=>none
def ptrC(E:TE)(px:Bool)(p:Nat):List (SC E):=match px with|true=>[.ptr p 0]|false=>[]
def pxB(px:Bool):List Pm->Bool | .bm _ _ _ _::_=>px | .b _ _::_=>px|_=>false
def dropP{α:Type}:Bool->List α->Option (List α)|false,l=>some l|true,_::l=>some l|true,[]=>none
def ck_(E:TE):(ps:List Pm)->PA E ps->Nat->Option (List (V1 E))
 | [],_,_=>some []
 | .d t::ps,a,n=>match asV E t (E.cells t a.1),ck_ E ps a.2 n with
  | some v,some q=>some (v::q)
  | _,_=>none
 | .l t m::ps,a,n=>match asV E t (b3_ E m (E.flat t) (E.fl t a.1) n),ck_ E ps a.2 (n+aK_ m (E.flat t))with
  | some v,some q=>some (v::q)
  | _,_=>none
 | .g t m::ps,a,n=>match asV E t (b3_ E m (E.flat t) (E.fl t a.1) n),ck_ E ps a.2 (n+aK_ m (E.flat t))with
  | some v,some q=>some (v::q)
  | _,_=>none
 | .b _ _::ps,a,n=>match ck_ E ps a.2 (n+1)with
  | some q=>some (.one (.ptr n 0)::q)
  | none=>none
 | .bm _ t m px::ps,a,n=>match ck_ E ps a.2 (n+1+aK_ m (E.flat t))with
  | some q=>match dropP (pxB px ps) q with
   | some q=>some (.one (.ptr n 0)::q)
   | none=>none
  | none=>none
 | .mp _ _ _::ps,a,n=>match ck_ E ps a.2 (n+1)with
  | some q=>some (.one (.mp n)::q)
  | none=>none
 | .p t::ps,a,n=>match ck_ E ps a.2 n with
  | some q=>some (.one (.elf t a.1 0)::q)
  | none=>none
 | .f1 x r::ps,a,n=>match ck_ E ps a.2 n with
  | some q=>some (.one (.fn1 x r a.1)::q)
  | none=>none
 | .f2 x y r::ps,a,n=>match ck_ E ps a.2 n with
  | some q=>some (.one (.fn2 x y r a.1)::q)
  | none=>none
def bB_(E:TE):(ps:List Pm)->PA E ps->Nat->Chs E | [],_,_=>[] | .l t m::ps,a,n=>bt_ E m (E.flat t) (E.fl t a.1) n++bB_ E ps a.2 (n+aK_ m (E.flat t)) | .g t m::ps,a,n=>bt_ E m (E.flat t) (E.fl t a.1) n++bB_ E ps a.2 (n+aK_ m (E.flat t)) | .b T t::ps,a,n=>(n,some (.box T (E.cells t a.1)))::bB_ E ps a.2 (n+1) | .bm T t m px::ps,a,n=>(n,some (.box T (ptrC E (pxB px ps) (n+1+aK_ m (E.flat t))++b3_ E m (E.flat t) (E.fl t a.1) (n+1))))::(bt_ E m (E.flat t) (E.fl t a.1) (n+1)++bB_ E ps a.2 (n+1+aK_ m (E.flat t))) | .mp T k v::ps,a,n=>(n,some (.map T k v a.1.1 a.1.2 []))::bB_ E ps a.2 (n+1) | .d _::ps,a,n=>bB_ E ps a.2 n | .p _::ps,a,n=>bB_ E ps a.2 n | .f1 _ _::ps,a,n=>bB_ E ps a.2 n | .f2 _ _ _::ps,a,n=>bB_ E ps a.2 n
def bd_(E:TE):(ps:List Pm)->PA E ps->Nat->Nat->Chs E | [],_,_,_=>[] | .l t m::ps,a,n,k=>bt_ E m (E.flat t) (E.fl t a.1) n++bd_ E ps a.2 (n+aK_ m (E.flat t)) k | .g t m::ps,a,n,k=>bd_ E ps a.2 (n+aK_ m (E.flat t)) k | .b T t::ps,a,n,k=>(n,some (.box T (E.cells t a.1)))::bd_ E ps a.2 (n+1) k | .bm T t m px::ps,a,n,k=>(n,some (.box T (ptrC E (pxB px ps) (n+1+aK_ m (E.flat t))++b3_ E m (E.flat t) (E.fl t a.1) k)))::(bt_ E m (E.flat t) (E.fl t a.1) k++bd_ E ps a.2 (n+1+aK_ m (E.flat t)) (k+aK_ m (E.flat t))) | .mp T kt v::ps,a,n,k=>(n,some (.map T kt v a.1.1 a.1.2 []))::bd_ E ps a.2 (n+1) k | .d _::ps,a,n,k=>bd_ E ps a.2 n k | .p _::ps,a,n,k=>bd_ E ps a.2 n k | .f1 _ _::ps,a,n,k=>bd_ E ps a.2 n k | .f2 _ _ _::ps,a,n,k=>bd_ E ps a.2 n k
def dN_(E:TE):List Pm->Nat | []=>0 | .bm _ t m _::ps=>aK_ m (E.flat t)+dN_ E ps|_::ps=>dN_ E ps
def as_(E:TE):List Pm->Nat | []=>0 | .l t m::ps=>aK_ m (E.flat t)+as_ E ps | .g t m::ps=>aK_ m (E.flat t)+as_ E ps | .b _ _::ps=>1+as_ E ps | .bm _ t m _::ps=>1+aK_ m (E.flat t)+as_ E ps | .mp _ _ _::ps=>1+as_ E ps|_::ps=>as_ E ps
def c5_(E:TE):Rs->Nat | []=>0|p::rs=>aK_ p.2 (E.flat p.1)+c5_ E rs
def resV(E:TE):(rs:Rs)->HL E.S rs.ts->Nat->Option (List (V1 E))
 | [],_,_=>some []
 | (t,m)::rs,h,n=>match asV E t (b3_ E m (E.flat t) (E.fl t h.1) n),resV E rs h.2 (n+aK_ m (E.flat t))with
  | some v,some q=>some (v::q)
  | _,_=>none
def dp_(E:TE):(rs:Rs)->HL E.S rs.ts->Nat->Chs E | [],_,_=>[]|(t,m)::rs,h,n=>bt_ E m (E.flat t) (E.fl t h.1) n++dp_ E rs h.2 (n+aK_ m (E.flat t))
def oneV(E:TE):List (V1 E)->SV E | [x] => .v x|l => .tup l
abbrev InlF(E:TE):=(Nat->Option (Obj E))->Nat->List (V1 E)->(R:Type)->(Option (SV E)->Chs E->Option R)->Option R
def mZ_:List Pm->Bool | []=>false | .l _ _::_=>true | .g _ _::_=>true | .b _ _::_=>true | .bm _ _ _ _::_=>true | .mp _ _ _::_=>true|_::ps=>mZ_ ps
structure Con(E:TE) where
 ps:List Pm
 rs:Rs
 ali:Bool
 F:(R:Type)->PA E ps->(HL E.S rs.ts->HL E.S (bn_ ps)->Option R)->Option R
 I:Option (InlF E)
def CallOK(P:Program)(E:TE)(f:FuncId)(ps:List Pm)(rs:Rs)(ali:Bool)(a:PA E ps)(rh:HL E.S rs.ts)(bh:HL E.S (bn_ ps)):Prop :=
 ∀ (w:World) (z:Fz) (g:Ga) (Bs:List Nat) (svs:List (V1 E)) (vs:List Value),ck_ E ps a 0=some svs->HR P E Bs z.F w w z g (upH (λ_=>none) (bB_ E ps a 0))->Fresh g (as_ E ps)->All2 (R1 P E z g) svs vs ->
  Ret P f vs.toArray w λv w'=>∃z' g' svr,z.Le z'/\(ali=false->z'=z)/\g.Le g'/\resV E rs rh (as_ E ps)=some svr/\RV P E z' g' (oneV E svr) v /\
   HR P E Bs z.F w w' z' g' (upH (λ_=>none) (dp_ E rs rh (as_ E ps)++bd_ E ps (aJ_ E ps a bh) 0 (as_ E ps+c5_ E rs)))
def Con.OK(P:Program)(E:TE)(f:FuncId)(C:Con E):Prop:=∀(R:Type) (a:PA E C.ps) (k:HL E.S C.rs.ts->HL E.S (bn_ C.ps)->Option R) (r:R),C.F R a k=some r->∃rh bh,k rh bh=some r/\CallOK P E f C.ps C.rs C.ali a rh bh
section
variable{P:Program}{E:TE}{z z':Fz}{g g':Ga}{nx:Nat}{w w' w0:World}{H H':Nat->Option (Obj E)}{Bs:List Nat}{F0:Nat->Prop}
def SC.ren(s:Nat->Nat):SC E->SC E | .own id => .own (s id) | .ptr id off => .ptr (s id) off|c=>c
def Obj.ren(s:Nat->Nat):Obj E->Obj E | .box T cs => .box T (cs.map (SC.ren s))|o=>o
def V1.cs:V1 E->List (SC E) | .one c=>[c] | .agg l=>l
def V1.fits:Ty->V1 E->Bool | .st _,.agg _=>true | .st _,.one _=>false|_,.one _=>true|_,.agg _=>false
def takeD(E:TE)(H:Nat->Option (Obj E))(t:Ty)(x:V1 E):Option (Den E.S t):=match V1.fits t x,cy_ E H (E.flat t) x.cs with|true,some h=>some (E.ufl t h)|_,_=>none
theorem asV_ok{t:Ty}{x:V1 E}{l:List (SC E)}{v:Value}(j:V1.fits t x=true)(p:l.length=x.cs.length)(hr:R1 P E z g x v)(f:∀vs,All2 (RC P E z g) x.cs vs->All2 (RC P E z' g') l vs) :
  ∃y,asV E t l=some y/\R1 P E z' g' y v:=by
 cases x with
 | one c =>
  obtain⟨d,rfl⟩:∃d,l=[d]:=by
   match l,p with
   | [d],_=>exact⟨d,rfl⟩
  have h:=f [v] (.cons hr .nil);cases h with
  | cons h _ =>
   cases t with
   | st n=>cases j
   | _=>exact⟨_,rfl,h⟩
 | agg m =>
  obtain⟨vs,rfl,hr⟩:=hr;cases t with
  | st n=>exact⟨_,rfl,vs,rfl,f vs hr⟩
  | _=>cases j
theorem rH_:∀{ts:List Ty} {cs:List (SC E)} {h:HL E.S ts},cy_ E H ts cs=some h->cs.length=ts.length
 | [],[],_,_=>rfl
 | t::ts,c::cs,h,e=>by
  simp only[cy_]at e;split at e
  .cases e
  .split at e
   .rename_i f;simp[rH_ f]
   .cases e
 | [],c::cs,_,e=>by simp[cy_]at e
 | t::ts,[],_,e=>by simp[cy_]at e
theorem hlc_len:∀(ts:List Ty) (h:HL E.S ts),(hlc E ts h).length=ts.length
 | [],_=>rfl
 | _::ts,h=>by simp[hlc,hlc_len ts h.2]
theorem takeD_ok{t:Ty}{x:V1 E}{d:Den E.S t}{v:Value}(p:HR P E Bs F0 w0 w z g H)(h:takeD E H t x=some d)(hr:R1 P E z g x v)(g':Ga):∃y,asV E t (E.cells t d)=some y/\R1 P E z g' y v:=by
 unfold takeD at h;split at h
 .rename_i q m j;obtain rfl:=qSj h;refine asV_ok m ?_ hr λvs f => ?_
  .unfold TE.cells;rw[hlc_len,rH_ j]
  .refine cells_rd.1 ?_;rw[E.fl_ufl];exact er_ p j f
 .cases h
def ct_ (E:TE) (H:Nat->Option (Obj E)):Mk->(ts:List Ty)->List (SC E)->Option (HL E.S ts×List Nat)
 | some e::ms,.sl t::ts,.own id::cs=>match H id with
  | some (.row e' f xs _)=>if j:f=t then match Nat.beq e e',ct_ E H ms ts cs with
    | true,some q=>some ((gk_ j xs,q.1),id::q.2)
    | _,_=>none
   else none
  | _=>none
 | none::ms,t::ts,c::cs=>match c.data H t,ct_ E H ms ts cs with
  | some x,some q=>some ((x,q.1),q.2)
  | _,_=>none
 | [],ts,cs=>match cy_ E H ts cs with
  | some h=>some (h,[])
  | none=>none
 | _,_,_=>none
def he_ (E:TE) (H:Nat->Option (Obj E)):(ps:List Pm)->List Nat->Option (PA E ps)
 | [],[]=>some ()
 | .p t::ps,id::ids=>match H id with
  | some (.fb f x)=>if h:f=t then match he_ E H ps ids with
    | some a=>some (h▸x,a)
    | none=>none
   else none
  | _=>none
 | _,_=>none
abbrev Tab(E:TE):=FuncId->Option (Con E)
def res1{E:TE}{rs:Rs}{t:Ty}(h:rs=[(t,[])])(x:HL E.S rs.ts):Den E.S t:=by subst h;exact x.1
def takeF1(E:TE)(tab:Tab E)(H:Nat->Option (Obj E))(x r:Ty):SC E->Option (Den E.S x->Option (Den E.S r))
 | .fn1 j r' f=>if h:j=x/\r'=r then some (h.1▸h.2▸f)else none
 | .clo f ids=>match tab f with
  | some C=>match m:C.ps with
   | .d j::ps=>if p:j=x then if hr:C.rs=[(r,[])]then match r.flatB && !C.ali,he_ E H ps ids with
      | true,some caps=>some λy=>C.F (Den E.S r) (m▸((p▸y,caps):PA E (.d j::ps))) λrh _=>some (res1 hr rh)
      | _,_=>none
     else none else none
   | _=>none
  | none=>none
 | _=>none
def takeF2(E:TE)(tab:Tab E)(H:Nat->Option (Obj E))(x y r:Ty):SC E->Option (Den E.S x->Den E.S y->Option (Den E.S r))
 | .fn2 m j r' f=>if h:m=x/\j=y/\r'=r then some (h.1▸h.2.1▸h.2.2▸f)else none
 | .clo f ids=>match tab f with
  | some C=>match p:C.ps with
   | .d m :: .d j::ps=>if s:m=x then if q:j=y then if hr:C.rs=[(r,[])]then match r.flatB && !C.ali,he_ E H ps ids with
      | true,some caps=>some λu v=>C.F (Den E.S r) (p▸((s▸u,q▸v,caps):PA E (.d m :: .d j::ps))) λrh _=>some (res1 hr rh)
      | _,_=>none
     else none else none else none
   | _=>none
  | none=>none
 | _=>none
def j6_:Bool->List (SC E)->Option (List (SC E)×List (V1 E))|false,cs=>some (cs,[])|true,.ptr id 0::cs=>some (cs,[.one (.ptr id 0)])|true,_=>none
def hidB:List (V1 E)->List Nat->Bool | [],_=>true | [.one (.ptr id _)],i::_=>Nat.beq i id|_,_=>false
def takeA (E:TE) (tab:Tab E) (H:Nat->Option (Obj E)):(ps:List Pm)->List (V1 E)->Option (PA E ps×List Nat)
 | [],[]=>some ((),[])
 | .d t::ps,x::xs=>match takeD E H t x,takeA E tab H ps xs with
  | some d,some q=>some ((d,q.1),q.2)
  | _,_=>none
 | .l t m::ps,x::xs=>match V1.fits t x,ct_ E H m (E.flat t) x.cs,takeA E tab H ps xs with
  | true,some d,some q=>some ((E.ufl t d.1,q.1),d.2++q.2)
  | _,_,_=>none
 | .g t m::ps,x::xs=>match V1.fits t x,ct_ E H m (E.flat t) x.cs,takeA E tab H ps xs with
  | true,some d,some q=>some ((E.ufl t d.1,q.1),d.2++q.2)
  | _,_,_=>none
 | .b T t::ps,.one (.ptr id 0)::xs=>match H id,takeA E tab H ps xs with
  | some (.box T' cs),some q=>match Nat.beq T T',cy_ E H (E.flat t) cs with
   | true,some h=>some ((E.ufl t h,q.1),id::q.2)
   | _,_=>none
  | _,_=>none
 | .bm T t m px::ps,.one (.ptr id 0)::xs=>match H id with
  | some (.box T' C)=>match j6_ (pxB px ps) C with
   | some (cs,s)=>match takeA E tab H ps (s++xs)with
    | some q=>match Nat.beq T T'&&hidB s q.2,ct_ E H m (E.flat t) cs with
     | true,some d=>some ((E.ufl t d.1,q.1),id::(d.2++q.2))
     | _,_=>none
    | none=>none
   | none=>none
  | _=>none
 | .mp T k v::ps,.one (.mp id)::xs=>match H id,takeA E tab H ps xs with
  | some (.map T' F D ks vs _),some q=>if j:F=k/\D=v then match Nat.beq T T' with
    | true=>some (((gk_ j.1 ks,gk_ j.2 vs),q.1),id::q.2)
    | false=>none
   else none
  | _,_=>none
 | .p t::ps,.one (.elf u x 0)::xs=>if j:u=t then match takeA E tab H ps xs with
   | some q=>some ((j▸x,q.1),q.2)
   | none=>none
  else none
 | .p t::ps,.one (.ptr id 0)::xs=>match H id with
  | some (.fb u x)=>if j:u=t then match takeA E tab H ps xs with
    | some q=>some ((j▸x,q.1),q.2)
    | none=>none
   else none
  | _=>none
 | .f1 x r::ps,.one c::xs=>match takeF1 E tab H x r c,takeA E tab H ps xs with
  | some f,some q=>some ((f,q.1),q.2)
  | _,_=>none
 | .f2 x y r::ps,.one c::xs=>match takeF2 E tab H x y r c,takeA E tab H ps xs with
  | some f,some q=>some ((f,q.1),q.2)
  | _,_=>none
 | _,_=>none
def gOf(g:Ga)(I:List Nat):Ga:=λi=>match I[i]? with|some id=>g id|none=>none
def Cor(E:TE)(H:Nat->Option (Obj E))(I:List Nat):Obj E->Obj E->Prop | .row e t xs _,o=>o = .row e t xs [] | .map T k v ks vs _,o=>o = .map T k v ks vs [] | .box T h,o=>∃(px:Bool) (cs:List (SC E)) (f:List (V1 E)) (p:Nat) (t:Ty) (m:Mk) (d:HL E.S (E.flat t)×List Nat) (k:Nat),j6_ px h=some (cs,f)/\(∀id o,f=[.one (.ptr id o)]->I[p]? = some id)/\ct_ E H m (E.flat t) cs=some d/\o = .box T (ptrC E px p++b3_ E m (E.flat t) d.1 k)/\∀j id,d.2[j]? = some id->I[k+j]? = some id|_,_=>False
theorem nJ_ {I:List Nat} {m:Mk}:∀{ts:List Ty} {cs:List (SC E)} {q:HL E.S ts×List Nat} {n:Nat},ct_ E H m ts cs=some q->(∀j id,q.2[j]? = some id->I[n+j]? = some id) ->
  (∀i o,(i,o)∈bt_ E m ts q.1 n->∃id u o2,I[i]? = some id/\H id=some u/\o=some o2/\Cor E H I u o2)/\q.2.length=aK_ m ts:=by
 induction m with
 | nil =>
  intro ts cs q n h p;simp only[ct_]at h;split at h
  .obtain rfl:=qSj h;refine⟨λi o f => ?_,?_⟩
   .cases ts<;>simp[bt_]at f
   .cases ts<;>simp[aK_]
  .cases h
 | cons a m y =>
  intro ts cs q n h p;cases ts with
  | nil=>cases a<;>simp[ct_]at h
  | cons t ts =>
   cases a with
   | none =>
    cases cs with
    | nil=>simp[ct_]at h
    | cons c cs =>
     simp only[ct_]at h;split at h
     .rename_i x D _ s;obtain rfl:=qSj h;simp only[bt_,aK_];exact y s p
     .cases h
   | some e =>
    cases t with
    | sl t =>
     cases cs with
     | nil=>simp[ct_]at h
     | cons c cs =>
      cases c with
      | own id =>
       simp only[ct_]at h;split at h
       .rename_i e' M xs foc hi;split at h
        .rename_i F;subst F;split at h
         .rename_i D J s;obtain rfl:=qSj h;obtain rfl:=qNb J;have C:=y (n:=n+1) s λj id' G=>by
           have:=p (j+1) id' (by simpa using G)
           rwa [show n+1+j=n+(j+1)by omega]
          refine⟨λi o f => ?_,by simp[aK_,C.2]⟩;simp only[bt_,qW]at f;rcases f with f|f
          .simp only[qF]at f;obtain⟨rfl,rfl⟩:=f;exact⟨id,_,_,by simpa using p 0 id (by simp),hi,rfl,rfl⟩
          .exact C.1 i o f
         .cases h
        .cases h
       .cases h
      | _=>simp[ct_]at h
    | _=>cases cs<;>simp[ct_]at h
theorem mg_ {I:List Nat} {m:Mk} (O:HR P E Bs F0 w0 w z g H):∀{ts:List Ty} {cs:List (SC E)} {q:HL E.S ts×List Nat} {n:Nat} {vs:List Value},ct_ E H m ts cs=some q->(∀j id,q.2[j]? = some id->I[n+j]? = some id) ->
  All2 (RC P E z g) cs vs->All2 (RC P E z (gOf g I)) (b3_ E m ts q.1 n) vs/\cs.length=ts.length/\(b3_ E m ts q.1 n).length=ts.length:=by
 induction m with
 | nil =>
  intro ts cs q n vs h p f;simp only[ct_]at h;split at h
  .rename_i u M;obtain rfl:=qSj h;have e:b3_ E ([]:Mk) ts u n=hlc E ts u:=by cases ts<;>rfl
   rw[e];exact⟨hlc_rd.1 (er_ O M f),rH_ M,hlc_len ts u⟩
  .cases h
 | cons a m J =>
  intro ts cs q n vs h p f;cases ts with
  | nil=>cases a<;>simp[ct_]at h
  | cons t ts =>
   cases a with
   | none =>
    cases cs with
    | nil=>simp[ct_]at h
    | cons c cs =>
     simp only[ct_]at h;split at h
     .rename_i x U V s;obtain rfl:=qSj h;cases f with
      | cons G F =>
       obtain⟨D,C,y⟩:=J s p F;simp only[b3_];exact⟨.cons (SC.data_ok O V G) D,by simp[C],by simp[y]⟩
     .cases h
   | some e =>
    cases t with
    | sl t =>
     cases cs with
     | nil=>simp[ct_]at h
     | cons c cs =>
      cases c with
      | own id =>
       simp only[ct_]at h;split at h
       .rename_i e' t' xs foc hi;split at h
        .rename_i Y;subst Y;split at h
         .rename_i U hb s;obtain rfl:=qSj h;cases f with
          | cons G F =>
           obtain⟨D,C,y⟩:=J (n:=n+1) s (λj id' Z=>by
            have:=p (j+1) id' (by simpa using Z)
            rwa [show n+1+j=n+(j+1)by omega]) F
           simp only[b3_];have h0:I[n]? = some id:=by simpa using p 0 id (by simp)
           obtain⟨l,h6,h7⟩:=G;exact⟨.cons ⟨l,by unfold gOf;rw[h0];exact h6,h7⟩ D,by simp[C],by simp[y]⟩
         .cases h
        .cases h
       .cases h
      | _=>simp[ct_]at h
    | _=>cases cs<;>simp[ct_]at h
theorem tF_(D:HR P E Bs F0 w0 w z g H)(q:z.Le z')(g':Ga):∀{ps:List Pm} {ids:List Nat} {a:PA E ps} {us:List Value} {n:Nat},he_ E H ps ids=some a->All2 (λid u=>∃l,g id=some l/\u=Value.pointer (some ⟨l.b,0,none⟩)) ids us ->
  (∃svs,ck_ E ps a n=some svs/\All2 (R1 P E z' g') svs us)/\bB_ E ps a n=[]/\as_ E ps=0
 | [],[],a,us,n,h,f=>by
  cases f
  exact⟨⟨[],rfl,.nil⟩,rfl,rfl⟩
 | .p t::ps,id::ids,a,us,n,h,f=>by
  simp only[he_]at h;split at h
  .rename_i J x hi;split at h
   .rename_i M;subst M;split at h
    .rename_i a' U;obtain rfl:=qSj h;cases f with
     | cons h1 h2 =>
      obtain⟨⟨svs,h3,h4⟩,Z,Y⟩:=tF_ D q g' (n:=n) U h2;obtain⟨l,V,rfl⟩:=h1;obtain⟨l',r,G,F,C,s⟩:=D.hold _ _ hi;rw[V]at G;obtain rfl:=qSj G;refine⟨⟨.one (.elf J x 0)::svs,by simp only[ck_,h3],.cons ⟨l.b,0,r,rfl,(q _ F).1,C.le q,λj u O => ?_⟩ h4⟩,Z,Y⟩;rw[qo,World.cell?_of_block (w:=z.w) (q _ F).2];exact s j u O
    .cases h
   .cases h
  .cases h
 | [],id::ids,a,us,n,h,f=>by simp[he_]at h
 | .p t::ps,[],a,us,n,h,f=>by simp[he_]at h
 | .d t::ps,ids,a,us,n,h,f=>by simp[he_]at h
 | .l t m::ps,ids,a,us,n,h,f=>by simp[he_]at h
 | .g t m::ps,ids,a,us,n,h,f=>by simp[he_]at h
 | .b T t::ps,ids,a,us,n,h,f=>by simp[he_]at h
 | .mp T k v::ps,ids,a,us,n,h,f=>by simp[he_]at h
 | .f1 x r::ps,ids,a,us,n,h,f=>by simp[he_]at h
 | .f2 x y r::ps,ids,a,us,n,h,f=>by simp[he_]at h
theorem HR.nothing{z:Fz}{w:World}(f:z.In w)(j:Glo E z)(g:Ga):HR P E [] z.F w w z g (λ_=>none) :=
 ⟨Chg.of_below (Below.refl _ _),(λ_ _ h=>by cases h),(λ_ _ _ h=>by cases h),(λ_ _ _ _ _ _ h=>by cases h),f,(λ_ h => .inl h),(λ_ _ _ h=>by cases h),j⟩
def nxU(nx:Nat):Chs E->Nat
 | []=>nx+1
 | (i,none)::l=>match Nat.ble (nx+1+(l.length+1)) (i+1)with
  | true=>i+1
  | false=>nx+1+(l.length+1)
 | (_,some _)::l=>nx+1+(l.length+1)
theorem nK_(nx:Nat)(u:Chs E):nx+1+u.length<=nxU nx u:=by
 unfold nxU;split
 .exact qA _
 .split
  .rename_i f;exact qx f
  .exact qA _
 .exact qA _
theorem Fresh.nxU{g:Ga}{nx:Nat}{u:Chs E}(h:Fresh g (nx+1+u.length)):Fresh g (nxU nx u):=λi hi=>h i (qk (nK_ nx u) hi)
def InlOK(P:Program)(E:TE)(f:FuncId)(I:InlF E):Prop :=
 ∀{z:Fz} {g:Ga} {nx:Nat} {H:Nat->Option (Obj E)} {xs:List (V1 E)} {vs:List Value} {R:Type} {k:Option (SV E)->Chs E->Option R} {r:R} {Bs:List Nat} {F0:Nat->Prop} {w0 w:World},Fresh g nx->HR P E Bs F0 w0 w z g H->All2 (R1 P E z g) xs vs->I H nx xs R k=some r ->
  Ret P f vs.toArray w λv w'=>∃s u z2 h,k (some s) u=some r/\z.Le z2/\g.Le h/\Fresh h (nxU nx u)/\RV P E z2 h s v/\HR P E Bs F0 w0 w' z2 h (upH H u)
def Tab.OK(P:Program)(E:TE)(tab:Tab E):Prop:=∀f C,tab f=some C->C.OK P E f/\dU_ P f=true/\∀I,C.I=some I->mZ_ C.ps=true/\InlOK P E f I
theorem pA_{t:Ty}{x:Den E.S t}{v:Value}(h:RT E z t x v)(g:Ga):∃y,asV E t (E.cells t x)=some y/\R1 P E z g y v:=by
 cases t with
 | st n =>
  obtain⟨vs,rfl,h⟩:=h;exact⟨_,rfl,vs,rfl,cells_rd (t := .st n).1 h⟩
 | int k=>exact⟨_,rfl,h⟩
 | bool=>exact⟨_,rfl,h⟩
 | str=>exact⟨_,rfl,h⟩
 | sl e=>exact⟨_,rfl,h⟩
theorem call_flat{f:FuncId}{ps:List Pm}{r:Ty}{a:PA E ps}{rh:HL E.S (Rs.ts [(r,[])])}{bh:HL E.S (bn_ ps)}{svs:List (V1 E)}{vs:List Value}(hr:r.flatB=true)(J:CallOK P E f ps [(r,[])] false a rh bh)(y:z.In w)(s:Glo E z)
  (D:ck_ E ps a 0=some svs) (F:bB_ E ps a 0=[]) (C:All2 (R1 P E z λ_=>none) svs vs) :
  Ret P f vs.toArray w λu w'=>RD E z [r] (rh.1,()) [u]/\Ext w w':=by
 have h:=J w z (λ_ => .none) [] svs vs D (by rw[F];exact HR.nothing y s _) (λ_ _=>rfl) C;refine h.mono λu w' ⟨z',g',svr,G,p,_,j,q,x⟩ => ?_
 obtain rfl:=p rfl;refine⟨?_,Ext.of_below x.chg.below⟩;have m:svr=[.one (.dt r rh.1)]:=by
  cases r with
  | int k=>simp[resV,b3_,TE.flat,TE.fl,hlc,asV]at j;exact j.symm
  | bool=>simp[resV,b3_,TE.flat,TE.fl,hlc,asV]at j;exact j.symm
  | str=>simp[resV,b3_,TE.flat,TE.fl,hlc,asV]at j;exact j.symm
  | sl e=>cases hr
  | st n=>cases hr
 subst m;exact q
theorem takeF1_ok{tab:Tab E}(ht:tab.OK P E){x r:Ty}{c:SC E}{f:Den E.S x->Option (Den E.S r)}{v:Value}(Z:HR P E Bs F0 w0 w z g H)(h:takeF1 E tab H x r c=some f)(hr:RC P E z g c v):FnOK P E z v [x] r λh=>f h.1:=by
 unfold takeF1 at h;split at h
 .split at h
  .rename_i M;obtain⟨rfl,rfl⟩:=M;obtain rfl:=qSj h;exact hr
  .cases h
 .rename_i fid ids;split at h
  .rename_i C hC;obtain⟨U,p,_⟩:=ht fid C hC;obtain⟨ps,rs,ali,F,I⟩:=C;split at h
   .rename_i x' ps' G;simp only at G;subst G;split at h
    .rename_i M;subst M;split at h
     .rename_i D;simp only at D;subst D;split at h
      .rename_i caps Y j;simp only[qAn,qL]at Y;obtain⟨J,rfl⟩:=Y;obtain rfl:=qSj h;obtain⟨us,rfl,O⟩:=hr;refine⟨fid,us.toArray,rfl,⟨p,J⟩,λw1 z1 hh y args u V q hF => ?_⟩;obtain⟨rh,bh,hk,m⟩:=U _ _ _ _ hF;obtain⟨s,ZZ,rfl,h1,h2⟩:=q;simp only[RTs]at h2;subst h2;obtain⟨⟨svs,h3,h4⟩,h5,h6⟩:=tF_ (P:=P) Z u (λ_ => .none) (n:=0) j O;obtain⟨sv,h7,h8⟩:=pA_ (P:=P) h1 (λ_ => .none);have:=call_flat J m V (Z.gl.le u) (svs:=sv::svs) (vs:=s::us) (by simp only[ck_,h7,h3]) h5 (.cons h8 h4);have e:(#[s]++us.toArray:Array Value)=(s::us).toArray:=by simp
       have hy:rh.1=y:=by simpa[res1]using hk
       rw[show[s].toArray = #[s]from rfl,e,←hy];exact this
      .cases h
     .cases h
    .cases h
   .cases h
  .cases h
 .cases h
theorem takeF2_ok {tab:Tab E} (ht:tab.OK P E) {x y r:Ty} {c:SC E} {f:Den E.S x->Den E.S y->Option (Den E.S r)} {v:Value} (hH:HR P E Bs F0 w0 w z g H) (h:takeF2 E tab H x y r c=some f) (hr:RC P E z g c v):FnOK P E z v [x,y] r λh=>f h.1 h.2.1:=by
 unfold takeF2 at h;split at h
 .split at h
  .rename_i V;obtain⟨rfl,rfl,rfl⟩:=V;obtain rfl:=qSj h;exact hr
  .cases h
 .rename_i fid ids;split at h
  .rename_i C hC;obtain⟨Z,p,_⟩:=ht fid C hC;obtain⟨ps,rs,ali,F,I⟩:=C;split at h
   .rename_i x' y' ps' G;simp only at G;subst G;split at h
    .rename_i V;subst V;split at h
     .rename_i U;subst U;split at h
      .rename_i D;simp only at D;subst D;split at h
       .rename_i caps hb j;simp only[qAn,qL]at hb;obtain⟨J,rfl⟩:=hb;obtain rfl:=qSj h;obtain⟨us,rfl,Y⟩:=hr;refine⟨fid,us.toArray,rfl,⟨p,J⟩,λw1 z1 hh y args u ZZ q hF => ?_⟩;obtain⟨rh,bh,hk,m⟩:=Z _ _ _ _ hF;obtain⟨s,ZW,rfl,h1,h2⟩:=q;obtain⟨v2,ZX,rfl,h2,M⟩:=h2;simp only[RTs]at M;subst M;obtain⟨⟨svs,h3,h4⟩,h5,h6⟩:=tF_ (P:=P) hH u (λ_ => .none) (n:=0) j Y;obtain⟨sv,h7,h8⟩:=pA_ (P:=P) h1 (λ_ => .none);obtain⟨O,h9,ZY⟩:=pA_ (P:=P) h2 (λ_ => .none);have:=call_flat J m ZZ (hH.gl.le u) (svs:=sv::O::svs) (vs:=s::v2::us) (by simp only[ck_,h7,h3,h9]) h5 (.cons h8 (.cons ZY h4));have e:(#[s,v2]++us.toArray:Array Value)=(s::v2::us).toArray:=by simp
        have U:rh.1=y:=by simpa[res1]using hk
        rw[show[s,v2].toArray = #[s,v2]from rfl,e,←U];exact this
       .cases h
      .cases h
     .cases h
    .cases h
   .cases h
  .cases h
 .cases h
end
end Rt
end Go
