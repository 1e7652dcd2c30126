/-
 What the statements of this seat hang on,part 2: Rc Rd Ru Re Rf Rg Rh Rx Rv.
-/
import Derived.Test.YtokncnjohiobcaaGreatDoorXA1
import Derived.Lib.AppendStr
import Derived.Lib.AppendZeros
namespace Go
namespace Rt
open Go.RowKit
section
variable{P:tT}{E:TE}{z:Fz}{g:Ga}
def constC(E:TE):tW->tO (SC E)|.int k n=>some (.dt (.int k) n)|.bool b=>some (.dt .bool b)|.string s=>some (.dt .str s.data.toList)|.slice none 0 0=>some .nils|.pointer none=>some .nilp|.nilIface=>some .nif|_=>none
theorem rY_{v:tW}{c:SC E}(h:constC E v=some c):RC P E z g c v:=by
 unfold constC at h;split at h
 .obtain rfl:=qSj h;exact .int .nil
 .obtain rfl:=qSj h;exact .bool .nil
 .obtain rfl:=qSj h;exact .str .nil
 .obtain rfl:=qSj h;rfl
 .obtain rfl:=qSj h;rfl
 .obtain rfl:=qSj h;rfl
 .cases h
def kg_(E:TE):tL tW->tO (tL (SC E))
 | []=>some []
 | v::r=>match constC E v with
  | none=>none
  | some c=>match kg_ E r with
   | none=>none
   | some l=>some (c::l)
theorem gR_:∀{vs:tL tW} {l:tL (SC E)},kg_ E vs=some l->All2 (RC P E z g) l vs
 | [],l,h=>by simp only[kg_,qOi]at h;subst h;exact .nil
 | v::r,l,h=>by
  simp only[kg_]at h;split at h
  .cases h
  .rename_i c j;split at h
   .cases h
   .rename_i m f;obtain rfl:=qSj h;exact .cons (rY_ j) (gR_ f)
def constV(E:TE):tW->tO (SV E)
 | .agg cs=>match kg_ E cs.toList with
  | some l=>some (.v (.agg l))
  | none=>none
 | v=>match constC E v with
  | some c=>some (.v (.one c))
  | none=>none
theorem constV_ok{v:tW}{s:SV E}(h:constV E v=some s):RV P E z g s v:=by
 unfold constV at h;split at h
 .split at h
  .rename_i l f;obtain rfl:=qSj h;exact⟨_,rfl,gR_ f⟩
  .cases h
 .split at h
  .rename_i c j;obtain rfl:=qSj h;exact rY_ j
  .cases h
def opS(E:TE)(L:Nat->tO (SV E)):tN->tO (SV E)
 | .tmp t=>L t
 | .const v=>constV E v
 | .func f=>some (.v (.one (.clo f [])))
 | .global n=>match E.gl n with
  | some q=>some (.v (.one (.elf q.1 q.2 0)))
  | none=>none
structure ER(P:tT)(E:TE)(z:Fz)(g:Ga)(N:Nat)(a:Act)(L:Nat->tO (SV E)):Prop where
 size:a.tmps.size=N
 defers:a.defers=[]
 get:∀t s,L t=some s->∃v,a.tmps[t]? = some v/\RV P E z g s v
abbrev OpR(P:tT)(E:TE)(z:Fz)(g:Ga)(L:Nat->tO (SV E))(ρ:tN->tW):Prop:=∀x s,opS E L x=some s->RV P E z g s (ρ x)
theorem ER.op{N:Nat}{a:Act}{L:Nat->tO (SV E)}(h:ER P E z g N a L)(m:Glo E z):OpR P E z g L a.eval:=by
 intro x s hx;cases x with
 | tmp t=>
  obtain⟨v,h1,F⟩:=h.get t s hx;simpa[Act.eval,h1]using F
 | const v=>exact constV_ok hx
 | global n=>
  simp only[opS]at hx;split at hx
  .rename_i q y;obtain rfl:=qSj hx;obtain⟨D,r,hr,C,_⟩:=m n q.1 q.2 y;exact⟨n,0,r,rfl,D,hr,λj u p=>by rw[qj];exact C j u p⟩
  .cases hx
 | func f=>
  obtain rfl:=qSj hx;exact⟨[],rfl,.nil⟩
theorem ER.less{N:Nat}{a:Act}{L L':Nat->tO (SV E)}(h:ER P E z g N a L)(hL:∀t s,L' t=some s->L t=some s):ER P E z g N a L':=
 ⟨h.size,h.defers,λt s e=>h.get t s (hL t s e)⟩
theorem ER.le{z':Fz}{g':Ga}{N:Nat}{a:Act}{L:Nat->tO (SV E)}(h:ER P E z g N a L)(f:z.Le z')(j:g.Le g'):ER P E z' g' N a L:=
 ⟨h.size,h.defers,λt s e=>let ⟨v,h1,m⟩:=h.get t s e;⟨v,h1,m.le f j⟩⟩
theorem ER.put{N:Nat}{a:Act}{L L':Nat->tO (SV E)}(h:ER P E z g N a L){d:Nat}(p:Nat.blt d N=true){s:SV E}{v:tW}(m:RV P E z g s v)
  (hL:∀t u,L' t=some u->(t=d/\u=s)\/(t≠d/\L t=some u)):ER P E z g N (a.put (some d) v) L':=by
 have f:d<N:=by simpa using p
 refine⟨by simpa[Act.put]using h.size,h.defers,λt u e=>?_⟩;rcases hL t u e with⟨rfl,rfl⟩|⟨h1,y⟩
 .exact⟨v,by simp[Act.put,h.size,f],m⟩
 .obtain⟨j,x,q⟩:=h.get t u y;refine⟨j,?_,q⟩;simp only[Act.put];rw[zu (Ne.symm h1)];exact x
def SV.int?:SV E->tO (IntKind×Int)|.v (.one (.dt (.int k) n))=>some (k,n)|_=>none
def SV.str?:SV E->tO tR|.v (.one (.dt .str s))=>some s|_=>none
def SV.bool?:SV E->tO tV|.v (.one (.dt .bool b))=>some b|_=>none
def SV.cells?:SV E->tO (tL (SC E))|.v (.one c)=>some [c]|.v (.agg l)=>some l|_=>none
theorem SV.int_ok{s:SV E}{v:tW}{k:IntKind}{n:Int}(h:s.int? = some (k,n))(r:RV P E z g s v):v = .int k n:=by
 unfold SV.int? at h;split at h
 .simp only[qOi,qC]at h;obtain⟨rfl,rfl⟩:=h;obtain⟨vs,e,r⟩:=RD.int_inv (r:RD E z _ _ [v]);simp at e;exact e.1
 .cases h
theorem SV.str_ok{s:SV E}{v:tW}{x:tR}(h:s.str? = some x)(r:RV P E z g s v):v=S x:=by
 unfold SV.str? at h;split at h
 .simp only[qOi]at h;subst h;obtain⟨vs,e,r⟩:=RD.str_inv (r:RD E z _ _ [v]);simp at e;exact e.1
 .cases h
theorem SV.bool_ok{s:SV E}{v:tW}{b:tV}(h:s.bool? = some b)(r:RV P E z g s v):v = .bool b:=by
 unfold SV.bool? at h;split at h
 .simp only[qOi]at h;subst h;obtain⟨vs,e,r⟩:=RD.bool_inv (r:RD E z _ _ [v]);simp at e;exact e.1
 .cases h
theorem SV.cells_ok{s:SV E}{v:tW}{l:tL (SC E)}(h:s.cells? = some l)(r:RV P E z g s v):All2 (RC P E z g) l v.cells.toList:=by
 unfold SV.cells? at h;split at h
 .rename_i c;obtain rfl:=qSj h;have f:=RC.cell (c:=c) r;have:v.cells = #[v]:=by cases v<;>first|rfl|cases f
  rw[this];exact .cons r .nil
 .obtain rfl:=qSj h;obtain⟨vs,rfl,r⟩:=r;exact r
 .cases h
def SV.val?:SV E->tO tW|.v (.one (.dt (.int k) n))=>some (.int k n)|.v (.one (.dt .bool b))=>some (.bool b)|.v (.one (.dt .str s))=>some (S s)|_=>none
theorem SV.val_ok{s:SV E}{v u:tW}(h:s.val? = some u)(r:RV P E z g s v):v=u:=by
 unfold SV.val? at h;split at h
 .obtain rfl:=qSj h;exact SV.int_ok rfl r
 .obtain rfl:=qSj h;exact SV.bool_ok rfl r
 .obtain rfl:=qSj h;exact SV.str_ok rfl r
 .cases h
abbrev Up(E:TE):=tO (Nat×Obj E)
def UpOK(P:tT)(E:TE)(g g':Ga)(H:Nat->tO (Obj E)):Up E->Prop|none=>g'=g|some (i,o')=>∃o,H i=some o/\(∀z w,ObjR P E z g w i o->ObjR P E z g' w i o')/\∀k,fpO g' i o' k↔fpO g i o k
def Stands(z:Fz)(g:Ga){E:TE}(H:Nat->tO (Obj E))(W w:tS):Prop:=z.In w/\∀id o k,H id=some o->fpO g id o k->w.heap[k]? = W.heap[k]?
theorem Stands.hold{P:tT}{E:TE}{z:Fz}{g:Ga}{H:Nat->tO (Obj E)}{Bs:tL Nat}{F0:Nat->Prop}{w0 W w:tS}(h:Stands z g H W w)(j:HR P E Bs F0 w0 W z g H):∀id o,H id=some o->ObjR P E z g w id o:=
 λid o e=>(j.hold id o e).keep (Fz.Le.refl z) (Ga.Le.refl g) λk f=>h.2 id o k e f
theorem Stands.of_ext{P:tT}{E:TE}{z:Fz}{g:Ga}{H:Nat->tO (Obj E)}{Bs:tL Nat}{F0:Nat->Prop}{w0 W w:tS}(f:HR P E Bs F0 w0 W z g H)(h:Ext W w):Stands z g H W w:=
 ⟨f.fz.ext h,λid o k e j=>h.below.block k ((f.hold id o e).lt j)⟩
theorem Stands.refl{P:tT}{E:TE}{z:Fz}{g:Ga}{H:Nat->tO (Obj E)}{Bs:tL Nat}{F0:Nat->Prop}{w0 W:tS}(f:HR P E Bs F0 w0 W z g H):Stands z g H W W:=⟨f.fz,λ_ _ _ _ _=>rfl⟩
def Good(P:tT)(E:TE)(z:Fz)(g:Ga)(nx:Nat)(I:tS->Prop)(H:Nat->tO (Obj E))(ρ:tN->tW)(o:tI){R:Type}(k:SV E->Up E->tO R)(r:R):Prop:=∃s v up g',k s up=some r/\g.Le g'/\(∀i,i≠nx->g' i=g i)/\RV P E z g' s v/\(∀w',I w'->(execOp ρ o).run P w' = .ok (.value v) w')/\UpOK P E g g' H up
section
variable{L:Nat->tO (SV E)}{H:Nat->tO (Obj E)}{ρ:tN->tW}{W w0:tS}{I:tS->Prop}{o:tI}{R:Type}{k:SV E->Up E->tO R}{r:R}{Bs:tL Nat}{F0:Nat->Prop}{nx:Nat}
theorem Good.plain{s:SV E}{v:tW}(h:k s none=some r)(f:RV P E z g s v)(hr:∀w',(execOp ρ o).run P w' = .ok (.value v) w'):Good P E z g nx I H ρ o k r:=
 ⟨s,v,none,g,h,Ga.Le.refl g,λ_ _=>rfl,f,λw' _=>hr w',rfl⟩
def ρS(E:TE)(L:Nat->tO (SV E))(x:tN):tW:=((opS E L x).bind SV.val?).getD undef
def knownS(E:TE)(L:Nat->tO (SV E)):tL tN->tV
 | []=>true
 | x::l=>(match(opS E L x).bind SV.val? with|some _=>true|none=>false)&&knownS E L l
theorem vJ_(hρ:OpR P E z g L ρ):∀{l:tL tN},knownS E L l=true->∀x∈l,ρ x=ρS E L x
 | [],_,x,hx=>by cases hx
 | y::l,h,x,hx=>by
  simp only[knownS,qAn]at h;rcases qV.1 hx with rfl|hx
  .cases f:opS E L x with
   | none=>rw[f]at h;simp at h
   | some s=>
    rw[f]at h;cases j:s.val? with
    | none=>rw[qBs,j]at h;simp at h
    | some u=>rw[SV.val_ok j (hρ x s f)];simp[ρS,f,j]
  .exact vJ_ hρ h.2 x hx
def l0_(P:tT)(E:TE)(L:Nat->tO (SV E))(o:tI){R:Type}(k:SV E->Up E->tO R):tO R:=
 match knownS E L o.op.operands.toList && !isSelect o.op with
 | true=>match dr_ P (execOp (ρS E L) o)with
  | some (.value v)=>match constV E v with
   | some s=>k s none
   | none=>none
  | _=>none
 | false=>none
theorem iJ_(hρ:OpR P E z g L ρ)(h:l0_ P E L o k=some r):Good P E z g nx I H ρ o k r:=by
 unfold l0_ at h;split at h
 .rename_i f;simp only[qAn,qF]at f;have p:execOp ρ o=execOp (ρS E L) o:=by
   refine execOp_congr o (λcs b e=>?_) λx hx=>?_
   .rw[e]at f;simp[isSelect]at f
   .exact vJ_ hρ f.1 x (by simpa using hx)
  split at h
  .rename_i v j;split at h
   .rename_i s m;exact .plain h (constV_ok m) λw'=>by rw[p];exact eR_ j w'
   .cases h
  .cases h
 .cases h
def qMove(E:TE)(L:Nat->tO (SV E))(x:tN){R:Type}(k:SV E->Up E->tO R):tO R:=match opS E L x with|some s=>k s none|none=>none
theorem p2_{x:tN}(f:o.op = .move x\/o.op = .assign x)(hρ:OpR P E z g L ρ)(h:qMove E L x k=some r):Good P E z g nx I H ρ o k r:=by
 unfold qMove at h;split at h
 .rename_i s j;refine .plain h (hρ x s j) λw'=>?_
  unfold execOp;rcases f with f|f<;>rw[f]<;>rfl
 .cases h
def SC.sure:SC E->tV|.ptr .. |.elo .. |.elf .. =>true|.fn1 .. |.fn2 .. |.clo .. =>true|_=>false
def qNil(E:TE)(L:Nat->tO (SV E))(x:tN){R:Type}(k:SV E->Up E->tO R):tO R:=match opS E L x with
 | some (.v (.one c))=>match c.sure with
  | true=>k (.v (.one c)) none
  | false=>none
 | _=>none
theorem qNil_ok{x:tN}(m:o.op = .nilCheck x)(hρ:OpR P E z g L ρ)(h:qNil E L x k=some r):Good P E z g nx I H ρ o k r:=by
 unfold qNil at h;split at h
 .rename_i c j;split at h
  .rename_i p;have hr:=hρ x _ j;refine .plain h hr λw'=>?_
   unfold execOp;rw[m];simp only;generalize ρ x=v at hr;cases c with
   | ptr id off=>obtain⟨l,_,rfl⟩:=hr;rfl
   | elo id q i off=>obtain⟨l,_,_,rfl⟩:=hr;rfl
   | elf t y off=>obtain⟨b,q,rr,rfl,_⟩:=hr;rfl
   | fn1 a q f=>obtain⟨fid,caps,rfl,_⟩:=hr;rfl
   | fn2 a b q f=>obtain⟨fid,caps,rfl,_⟩:=hr;rfl
   | clo f caps=>obtain⟨us,rfl,_⟩:=hr;rfl
   | _=>cases p
  .cases h
 .cases h
def p3_(E:TE)(L:Nat->tO (SV E))(x:tN)(i:Nat){R:Type}(k:SV E->Up E->tO R):tO R:=match opS E L x with
 | some (.tup l)=>match l[i]? with
  | some y=>k (.v y) none
  | none=>none
 | _=>none
theorem tZ_{x:tN}{i:Nat}(q:o.op = .extract x i)(hρ:OpR P E z g L ρ)(h:p3_ E L x i k=some r):Good P E z g nx I H ρ o k r:=by
 unfold p3_ at h;split at h
 .rename_i l p;split at h
  .rename_i y j;obtain⟨vs,e,hr⟩:=hρ x _ p;obtain⟨u,m,f⟩:=hr.get j;refine .plain h (v:=u) f λw'=>?_
   unfold execOp;rw[q];simp only[e];simp[Instr.extract,m]
  .cases h
 .cases h
def loadC(P:tT)(T:tA)(l:tL (SC E))(off:Nat):tO (V1 E):=
 match aggB P T,aK_ P T with
 | some true,some n=>match Nat.ble (off+n) l.length with|true=>some (.agg ((l.drop off).take n))|false=>none
 | some false,_=>match l[off]? with|some c=>some (.one c)|none=>none
 | _,_=>none
theorem uF_{T:tA}{l:tL (SC E)}{off:Nat}{x:V1 E}{vs:tL tW}(h:loadC P T l off=some x)(m:All2 (RC P E z g) l vs):∃v,kd_ P T vs off=some v/\R1 P E z g x v:=by
 unfold loadC at h;unfold kd_;cases p:aggB P T with
 | none=>rw[p]at h;cases h
 | some b=>
  rw[p]at h;cases b with
  | true=>
   cases j:aK_ P T with
   | none=>rw[j]at h;cases h
   | some n=>
    rw[j]at h;have f:(P.info? T).map (·.size)=some n:=j;rw[f];simp only at h ⊢;rw[←m.len];split at h
    .rename_i y;obtain rfl:=qSj h;rw[y];exact⟨_,rfl,_,rfl,(m.drop off).take n⟩
    .cases h
  | false=>
   simp only at h ⊢;split at h
   .rename_i c s;obtain rfl:=qSj h;obtain⟨u,q,hr⟩:=m.get s;exact⟨u,q,hr⟩
   .cases h
theorem part_run{T:tA}{vs:tL tW}{off:Nat}{v:tW}(h:kd_ P T vs off=some v)(w:tS):(part T vs.toArray off).run P w = .ok v w:=by
 unfold kd_ at h;cases f:aggB P T with
 | none=>rw[f]at h;cases h
 | some b=>
  rw[f]at h;cases b with
  | true=>
   cases hi:P.info? T with
   | none=>simp[hi]at h
   | some i=>
    simp only[hi,qS]at h;split at h
    .rename_i j;obtain rfl:=qSj h;simp[part,Sem.run_bind,mC_ f,sizeOf,typeInfo,hi]
    .cases h
  | false=>
   simp only at h;simp[part,Sem.run_bind,mC_ f,h]
def qField(P:tT)(E:TE)(L:Nat->tO (SV E))(T:tA)(x:tN)(f:Nat){R:Type}(k:SV E->Up E->tO R):tO R:=
 match P.underlying T,opS E L x with
 | some (.struct fs),some (.v (.agg l))=>match fs[f]? with
  | some q=>match loadC P q.type l q.offset with
   | some y=>k (.v y) none
   | none=>none
  | none=>none
 | _,_=>none
theorem qField_ok{x:tN}{T:tA}{f:Nat}(D:o.op = .field T x f)(hρ:OpR P E z g L ρ)(h:qField P E L T x f k=some r):Good P E z g nx I H ρ o k r:=by
 unfold qField at h;split at h
 .rename_i fs l s u;split at h
  .rename_i q C;split at h
   .rename_i y m;obtain⟨vs,e,hr⟩:=hρ x _ u;obtain⟨v,p,j⟩:=uF_ m hr;refine .plain h (v:=v) j λw'=>?_
    unfold execOp;rw[D];simp only[e];simp[Instr.field,run_underlying s,C,asAgg,part_run p]
   .cases h
  .cases h
 .cases h
def behind(E:TE)(H:Nat->tO (Obj E)):SC E->tO (tL (SC E)×Nat)
 | .ptr id off=>match H id with
  | some (.box _ cs)=>some (cs,off)
  | some (.fb t x)=>some (E.cells t x,off)
  | _=>none
 | .elo id q _ off=>match H id with
  | some (.row _ t _ foc)=>match foc.find? λp=>Nat.beq p.1 q with
   | some p=>some (E.cells t p.2.2,off)
   | none=>none
  | _=>none
 | .elf t x off=>some (E.cells t x,off)
 | _=>none
theorem behind_ok{c:SC E}{l:tL (SC E)}{off:Nat}{v:tW}(hH:HR P E Bs F0 w0 W z g H)(h:behind E H c=some (l,off))(hr:RC P E z g c v) :
  ∃b base vs,v = .pointer (some ⟨b,base+off,none⟩)/\All2 (RC P E z g) l vs/\∀w',Stands z g H W w'->∀j u,vs[j]? = some u->w'.cell? ⟨b,base+j,none⟩=some u:=by
 cases c with
 | ptr id off'=>
  simp only[behind]at h;split at h
  .rename_i T cs F;simp only[qOi,qC]at h;obtain⟨rfl,rfl⟩:=h;obtain⟨lo,h1,rfl⟩:=hr;refine⟨lo.b,0,?_⟩;obtain⟨lo',vs,J,V,h4⟩:=hH.hold _ _ F;rw[h1]at J;obtain rfl:=qSj J;refine⟨vs,by rw[qj],h4,λw' hx j u C=>?_⟩;have hh:w'.heap[lo.b]? = some (.cells vs.toArray T (0,0)):=by rw[hx.2 _ _ _ F ⟨lo,h1,rfl⟩];exact V
   rw[qj,cell_of_row w' lo.b j vs.toArray T (0,0) hh];simpa using C
  .rename_i t x F;simp only[qOi,qC]at h;obtain⟨rfl,rfl⟩:=h;obtain⟨lo,h1,rfl⟩:=hr;obtain⟨lo',rr,J,hF,m,f⟩:=hH.hold _ _ F;rw[h1]at J;obtain rfl:=qSj J;refine⟨lo.b,0,rr,by rw[qj],cells_rd.1 m,λw' hx j u C=>?_⟩;rw[qj,World.cell?_of_block (w:=z.w) (hx.1 lo.b hF).2];exact f j u C
  .cases h
 | elo id q ii off'=>
  simp only[behind]at h;split at h
  .rename_i e t xs foc F;split at h
   .rename_i p hp;simp only[qOi,qC]at h;obtain⟨rfl,rfl⟩:=h;obtain⟨lq,h1,_,rfl⟩:=hr;obtain⟨lo,rows,J,hn,hc,M,s,Y,D,U⟩:=hH.hold _ _ F;have Z:p.1=q:=qNb (by simpa using zz hp);obtain⟨hg,lq',o',V,hA,ZY,_⟩:=U p (zX hp);rw[Z,h1]at V;obtain rfl:=qSj V;obtain⟨h0,hx,ZZ⟩:=fm_ hg;have O:p.2.1.toNat<rows.length:=by rw[s,hn];exact ZZ
    have m:=D p.2.1.toNat p.2.2 _ hx (qQ O);have hs:=fl_ (w:=W) (e:=e) (cap:=lo.cap) ⟨M,s,Y⟩;obtain⟨b',off2,G,_,f⟩:=hs.2 (by omega);rw[hA]at G;simp only[qOi,Addr.mk.injEq]at G;obtain⟨rfl,rfl,_⟩:=G;refine⟨lq.b,lq.n,_,rfl,cells_rd.1 m,λw' y j u C=>?_⟩;rw[World.cell?_of_block (w:=W) (y.2 _ _ lq.b F ⟨lo,_,J,hA,rfl⟩),ZY];exact(f p.2.1.toNat _ (qQ O)).2 j u C
   .cases h
  .cases h
 | elf t x off'=>
  simp only[behind,qOi,qC]at h;obtain⟨rfl,rfl⟩:=h;obtain⟨b,q,rr,rfl,hF,m,f⟩:=hr;refine⟨b,q,rr,rfl,cells_rd.1 m,λw' y j u C=>?_⟩;have hz:=y.1 b hF;rw[World.cell?_of_block (w:=z.w) hz.2];exact f j u C
 | _=>cases h
def dtsC(κ:IntKind):tL (SC E)->tO (tL Int)
 | []=>some []
 | .dt (.int κ') n::l=>match decide (κ' = κ),dtsC κ l with
  | true,some r=>some (n::r)
  | _,_=>none
 | _=>none
theorem uG_{κ:IntKind}:∀{l:tL (SC E)} {xs:tL Int} {vs:tL tW} {i:Nat} {x:Int},dtsC κ l=some xs->All2 (RC P E z g) l vs->xs[i]? = some x->vs[i]? = some (.int κ x)
 | [],xs,vs,i,x,h,_,hx=>by simp only[dtsC,qOi]at h;subst h;simp at hx
 | c :: l,xs,vs,i,x,h,hr,hx=>by
  cases hr with
  | cons h1 p=>
   unfold dtsC at h;split at h
   .rename_i hx;cases hx
   .rename_i κ' n s j;injection j with j q;subst j;subst q;split at h
    .rename_i r m f;simp only[qDe]at m;subst m;obtain rfl:=qSj h;cases i with
     | zero=>
      simp only[jG,qOi]at hx;subst hx;obtain⟨vs',e,_⟩:=RD.int_inv (h1:RD E z _ _ [_]);simp only[List.cons.injEq]at e;simp[e.1]
     | succ i=>
      simp only[List.getElem?_cons_succ]at hx ⊢;exact uG_ f p hx
    .cases h
   .cases h
def tl_(E:TE)(H:Nat->tO (Obj E)):SC E->tO (tL (SC E)×Int)
 | .pix id i=>match H id with
  | some (.box _ cs)=>some (cs,i)
  | _=>none
 | .efx t x i=>some (E.cells t x,i)
 | _=>none
theorem behindI_ok{c:SC E}{l:tL (SC E)}{i:Int}{v:tW}(F:HR P E Bs F0 w0 W z g H)(h:tl_ E H c=some (l,i))(hr:RC P E z g c v) :
  ∃b base vs,v = .pointer (some ⟨b,base+i.toNat,none⟩)/\All2 (RC P E z g) l vs/\∀w',Stands z g H W w'->∀j u,vs[j]? = some u->w'.cell? ⟨b,base+j,none⟩=some u:=by
 cases c with
 | pix id i'=>
  simp only[tl_]at h;split at h
  .rename_i T cs y;simp only[qOi,qC]at h;obtain⟨rfl,rfl⟩:=h;obtain⟨lo,h1,rfl⟩:=hr;refine⟨lo.b,0,?_⟩;obtain⟨lo',vs,C,M,J⟩:=F.hold _ _ y;rw[h1]at C;obtain rfl:=qSj C;refine⟨vs,by rw[qj],J,λw' hx j u p=>?_⟩;have D:w'.heap[lo.b]? = some (.cells vs.toArray T (0,0)):=by rw[hx.2 _ _ _ y ⟨lo,h1,rfl⟩];exact M
   rw[qj,cell_of_row w' lo.b j vs.toArray T (0,0) D];simpa using p
  .cases h
 | efx t x i'=>
  simp only[tl_,qOi,qC]at h;obtain⟨rfl,rfl⟩:=h;obtain⟨b,q,rr,rfl,G,s,f⟩:=hr;refine⟨b,q,rr,rfl,cells_rd.1 s,λw' m j u p=>?_⟩;rw[World.cell?_of_block (w:=z.w) (m.1 b G).2];exact f j u p
 | _=>cases h
def qLoadI(P:tT)(E:TE)(H:Nat->tO (Obj E))(T:tA)(c:SC E){R:Type}(k:SV E->Up E->tO R):tO R:=
 match tl_ E H c,aggB P T with
 | some q,some false=>match dtsC .u32 q.1 with
  | some xs=>Option.bind (ah_ xs q.2) λy=>k (.v (.one (.dt (.int .u32) y))) none
  | none=>none
 | _,_=>none
def qLoad(P:tT)(E:TE)(L:Nat->tO (SV E))(H:Nat->tO (Obj E))(T:tA)(x:tN){R:Type}(k:SV E->Up E->tO R):tO R:=
 match opS E L x with
 | some (.v (.one c))=>match behind E H c with
  | some (l,off)=>match loadC P T l off with
   | some y=>k (.v y) none
   | none=>none
  | none=>qLoadI P E H T c k
 | _=>none
theorem qLoad_ok{x:tN}{T:tA}(J:o.op = .load T x)(hρ:OpR P E z g L ρ)(O:HR P E Bs F0 w0 W z g H)(M:∀w',I w'->Stands z g H W w')(h:qLoad P E L H T x k=some r):Good P E z g nx I H ρ o k r:=by
 unfold qLoad at h;split at h
 .rename_i c G;split at h
  .rename_i l off F;split at h
   .rename_i y j;obtain⟨b,base,vs,p,C,D⟩:=behind_ok O F (hρ x _ G);obtain⟨v,u,s⟩:=uF_ j C;exact⟨_,v,none,g,h,Ga.Le.refl g,λ_ _=>rfl,s,λw' hx=>run_load J p (ok_ u (D w' (M w' hx))),rfl⟩
   .cases h
  .unfold qLoadI at h;split at h
   .rename_i q F Y;split at h
    .rename_i xs m;obtain⟨y,j,h⟩:=bind_some h;obtain⟨h0,f,V⟩:=fm_ j;obtain⟨b,base,vs,p,C,D⟩:=behindI_ok O F (hρ x _ G);have U:=uG_ m C f;refine⟨_,.int .u32 y,none,g,h,Ga.Le.refl g,λ_ _=>rfl,.int .nil,λw' hx=>run_load J p (ok_ (cs:=vs) ?_ (D w' (M w' hx))),rfl⟩;unfold kd_;rw[Y];exact U
    .cases h
   .cases h
 .cases h
end
end
noncomputable section
variable{P:tT}{E:TE}{z:Fz}{g:Ga}{nx:Nat}
variable{L:Nat->tO (SV E)}{H:Nat->tO (Obj E)}{ρ:tN->tW}{W w0:tS}{I:tS->Prop}{o:tI}{R:Type}{k:SV E->Up E->tO R}{r:R}{Bs:tL Nat}{F0:Nat->Prop}
theorem Good.mk'{s:SV E}{v:tW}(h:k s none=some r)(f:RV P E z g s v)(hr:∀w',I w'->(execOp ρ o).run P w' = .ok (.value v) w'):Good P E z g nx I H ρ o k r:=
 ⟨s,v,none,g,h,Ga.Le.refl g,λ_ _=>rfl,f,hr,rfl⟩
def uH_(P:tT)(T:tA)(f:Nat):tO Nat:=
 match P.underlying T with
 | some (.struct fs)=>match fs[f]? with
  | some q=>match aK_ P q.type with
   | some (_+1)=>some q.offset
   | _=>none
  | none=>none
 | _=>none
theorem fieldAt_run{T:tA}{f n b off:Nat}(h:uH_ P T f=some n)(w:tS):(Instr.fieldAt T (.pointer (some ⟨b,off,none⟩)) f).run P w = .ok (.pointer (some ⟨b,off+n,none⟩)) w:=by
 unfold uH_ at h;split at h
 .rename_i fs j;split at h
  .rename_i q s;split at h
   .rename_i m hm;obtain rfl:=qSj h;unfold aK_ at hm;cases hi:P.info? q.type with
    | none=>simp[hi]at hm
    | some i=>
     have p:i.size=m+1:=by simpa[hi]using hm
     simp[Instr.fieldAt,run_underlying j,s,Instr.sureAddr,fieldPlace,sizeOf,typeInfo,hi,p,Addr.add_mk]
   .cases h
  .cases h
 .cases h
def SC.shift(n:Nat):SC E->tO (SC E)|.ptr id off=>some (.ptr id (off+n))|.elo id q i off=>some (.elo id q i (off+n))|.elf t x off=>some (.elf t x (off+n))|_=>none
theorem SC.shift_ok{n:Nat}{c j:SC E}{v:tW}(h:c.shift n=some j)(hr:RC P E z g c v):∃b off,v = .pointer (some ⟨b,off,none⟩)/\RC P E z g j (.pointer (some ⟨b,off+n,none⟩)):=by
 unfold SC.shift at h;split at h
 .obtain rfl:=qSj h;obtain⟨l,h1,rfl⟩:=hr;exact⟨_,_,rfl,l,h1,rfl⟩
 .obtain rfl:=qSj h;obtain⟨l,h1,f,rfl⟩:=hr;exact⟨_,_,rfl,l,h1,f,by rw[zW]⟩
 .obtain rfl:=qSj h;obtain⟨b,q,rr,rfl,f⟩:=hr;exact⟨_,_,rfl,b,q,rr,by rw[zW],f⟩
 .cases h
def l1_(P:tT)(E:TE)(L:Nat->tO (SV E))(T:tA)(x:tN)(f:Nat){R:Type}(k:SV E->Up E->tO R):tO R:=
 match opS E L x,uH_ P T f with
 | some (.v (.one c)),some n=>match c.shift n with
  | some h=>k (.v (.one h)) none
  | none=>none
 | _,_=>none
theorem q6_{x:tN}{T:tA}{f:Nat}(p:o.op = .fieldAddr T x f)(hρ:OpR P E z g L ρ)(h:l1_ P E L T x f k=some r):Good P E z g nx I H ρ o k r:=by
 unfold l1_ at h;split at h
 .rename_i c n m q;split at h
  .rename_i u s;obtain⟨b,off,j,hr⟩:=SC.shift_ok s (hρ x _ m);refine .mk' h (v:=.pointer (some ⟨b,off+n,none⟩)) hr λw' _=>?_
   unfold execOp;rw[p];simp only[j];rw[Sem.run_bind,fieldAt_run q];rfl
  .cases h
 .cases h
def qStr(op:BinOp)(a b:tR){R:Type}(k:SV E->Up E->tO R):tO R:=match op with|.add=>(cat a b).bind λs=>k (.v (.one (.dt .str s))) none|.eql=>k (.v (.one (.dt .bool (a==b)))) none|.neq=>k (.v (.one (.dt .bool (!(a==b))))) none|.lss=>k (.v (.one (.dt .bool (Op.bytesLess a b)))) none|.gtr=>k (.v (.one (.dt .bool (!(Op.bytesLess a b||a==b))))) none|.leq=>k (.v (.one (.dt .bool (Op.bytesLess a b||a==b)))) none|.geq=>k (.v (.one (.dt .bool (!(Op.bytesLess a b))))) none|_=>none
theorem run_str_leq{t yt:tA}{x y:tN}{w:tS}(h:o.op = .binOp .leq t x y yt){a b:tR}(hx:ρ x=S a)(f:ρ y=S b) :
  (execOp ρ o).run P w = .ok (.value (.bool (Op.bytesLess a b||a==b))) w:=by
 unfold execOp;simp only[h,hx,f,S];simp only[eqGuard,binOp,Op.stringOp,ByteArray.toList_mk];rfl
theorem run_str_geq{t yt:tA}{x y:tN}{w:tS}(h:o.op = .binOp .geq t x y yt){a b:tR}(hx:ρ x=S a)(f:ρ y=S b) :
  (execOp ρ o).run P w = .ok (.value (.bool (!(Op.bytesLess a b)))) w:=by
 unfold execOp;simp only[h,hx,f,S];simp only[eqGuard,binOp,Op.stringOp,ByteArray.toList_mk];rfl
theorem qStr_ok{op:BinOp}{t yt:tA}{x y:tN}{a b:tR}(j:o.op = .binOp op t x y yt)(hx:ρ x=S a)(f:ρ y=S b)(h:qStr op a b k=some r):Good P E z g nx I H ρ o k r:=by
 unfold qStr at h;split at h
 .obtain⟨s,m,h⟩:=bind_some h;exact .mk' h (v:=S s) (.str .nil) λw' _=>run_cat j hx f m
 .exact .mk' h (.bool .nil) λw' _=>run_str_eql j hx f
 .exact .mk' h (.bool .nil) λw' _=>run_str_neq j hx f
 .exact .mk' h (.bool .nil) λw' _=>run_str_lss j hx f
 .exact .mk' h (.bool .nil) λw' _=>run_str_gtr j hx f
 .exact .mk' h (.bool .nil) λw' _=>run_str_leq j hx f
 .exact .mk' h (.bool .nil) λw' _=>run_str_geq j hx f
 .cases h
def Operand.isC:tN->tV|.const _=>true|_=>false
def qInt(P:tT)(E:TE)(L:Nat->tO (SV E))(o:tI)(op:BinOp)(y:tN)(ka:IntKind)(a:Int)(kb:IntKind)(b:Int){R:Type}(k:SV E->Up E->tO R):tO R:=match op,Operand.isC y,decide (ka=kb)with|.quo,false,true=>(eS_ ka a b).bind λn=>k (.v (.one (.dt (.int ka) n))) none|.rem,false,true=>(remI a b).bind λn=>k (.v (.one (.dt (.int ka) n))) none|.shl,false,_=>(shlI ka a b).bind λn=>k (.v (.one (.dt (.int ka) n))) none|.shr,false,_=>(shrI ka a b).bind λn=>k (.v (.one (.dt (.int ka) n))) none|_,_,_=>l0_ P E L o k
theorem qInt_ok{op:BinOp}{t yt:tA}{x y:tN}{ka kb:IntKind}{a b:Int}(p:o.op = .binOp op t x y yt)(hρ:OpR P E z g L ρ)(hx:ρ x = .int ka a)(m:ρ y = .int kb b)(h:qInt P E L o op y ka a kb b k=some r):Good P E z g nx I H ρ o k r:=by
 unfold qInt at h;split at h
 .rename_i j;simp only[qDe]at j;subst j;obtain⟨n,f,h⟩:=bind_some h;exact .mk' h (v:=.int ka n) (.int .nil) λw' _=>run_quo p hx m f
 .rename_i j;simp only[qDe]at j;subst j;obtain⟨n,f,h⟩:=bind_some h;exact .mk' h (v:=.int ka n) (.int .nil) λw' _=>run_rem p hx m f
 .obtain⟨n,f,h⟩:=bind_some h;exact .mk' h (v:=.int ka n) (.int .nil) λw' _=>run_shl p hx m f
 .obtain⟨n,f,h⟩:=bind_some h;exact .mk' h (v:=.int ka n) (.int .nil) λw' _=>run_shr p hx m f
 .exact iJ_ hρ h
def SC.data(H:Nat->tO (Obj E))(t:Ty):SC E->tO (Den E.S t)
 | .dt f x=>if h:f=t then some (h▸x)else none
 | .nils=>match t with
  | .sl _=>some []
  | _=>none
 | .own id=>match H id with
  | some (.fr e xs)=>if h:Ty.sl e=t then some (h▸xs)else none
  | _=>none
 | .pre id n=>match H id with
  | some (.fr e xs)=>if h:Ty.sl e=t then some (h▸xs.take n.toNat)else none
  | _=>none
 | _=>none
theorem SC.data_ok{t:Ty}{c:SC E}{x:Den E.S t}{v:tW}{w:tS}(F:HR P E Bs F0 w0 w z g H)(h:c.data H t=some x)(hr:RC P E z g c v):RD E z [t] (x,()) [v]:=by
 unfold SC.data at h;split at h
 .split at h
  .rename_i q;subst q;obtain rfl:=qSj h;exact hr
  .cases h
 .split at h
  .obtain rfl:=qSj h;simp only[RC]at hr;subst hr;exact RD.sl (xs:=[]) (cap:=0) (SlF.nil _ _ _ _) (qA _) (rows:=[]) (λi x r h=>by simp at h) .nil
  .cases h
 .split at h
  .rename_i e xs hi;split at h
   .rename_i q;subst q;obtain rfl:=qSj h;obtain⟨l,h1,rfl⟩:=hr;obtain⟨J,rows,m,u,C,p,j,f⟩:=F.hold _ _ hi;rw[h1]at m;obtain rfl:=qSj m;rw[u];rw[u]at j p;rw[C]at p;exact RD.sl p j f .nil
   .cases h
  .cases h
 .rename_i id n;split at h
  .rename_i e xs hi;split at h
   .rename_i q;subst q;obtain rfl:=qSj h;obtain⟨l,h1,s,rfl⟩:=hr;obtain⟨J,rows,m,u,C,p,j,f⟩:=F.hold _ _ hi;rw[h1]at m;obtain rfl:=qSj m;rw[u]at s p j;rw[C]at p;have D:(xs.take n.toNat).length=n.toNat:=by rw[qX];omega
    have G:=RD.sl (E:=E) (z:=z) (xs:=xs.take n.toNat) (cap:=l.cap) (rows:=rows.take n.toNat) (A:=l.A) (ts:=[]) (h:=()) (vs:=[]) (by rw[D];exact p.take s) (by rw[D];omega) (λi x r h1 m=>by
     rw[qx]at h1 m;split at h1
     .rename_i y;rw[qY y]at m;exact f i x r h1 m
     .cases h1) .nil
    rw[D]at G;exact G
   .cases h
  .cases h
 .cases h
def bP_(E:TE)(H:Nat->tO (Obj E)):(ts:tL Ty)->tL (SC E)->tO (HL E.S ts)
 | [],[]=>some ()
 | t::ts,c::cs=>match c.data H t with
  | none=>none
  | some x=>match bP_ E H ts cs with
   | some h=>some (x,h)
   | none=>none
 | _,_=>none
theorem ds_{w:tS}(j:HR P E Bs F0 w0 w z g H):∀{ts:tL Ty} {cs:tL (SC E)} {h:HL E.S ts} {vs:tL tW},bP_ E H ts cs=some h->All2 (RC P E z g) cs vs->RD E z ts h vs
 | [],[],h,vs,f,hr=>by cases hr;exact .nil
 | t :: ts,c::cs,h,vs,f,hr=>by
  cases hr with
  | cons h1 p=>
   simp only[bP_]at f;split at f
   .cases f
   .rename_i x hx;split at f
    .rename_i q m;obtain rfl:=qSj f;exact RD.cons (SC.data_ok j hx h1) (ds_ j m p)
    .cases f
 | [],c::cs,h,vs,f,hr=>by simp[bP_]at f
 | t::ts,[],h,vs,f,hr=>by simp[bP_]at f
def aG_(P:tT)(E:TE)(T n:Nat):Prop:=∀(d:DecidableEq (E.S n)) (x y:E.S n) (l m:tL tW),cT_ E (E.cs n) (E.un n x)=some l->cT_ E (E.cs n) (E.un n y)=some m->EqIs P T (.agg l.toArray) (.agg m.toArray) (@decide (x=y) (d x y))
def qEq (E:TE) (H:Nat->tO (Obj E)) (eqs:tL (Nat×Nat)) (neg:tV) (T:tA) (l m:tL (SC E)) {R:Type} (k:SV E->Up E->tO R):tO R:=
 match eqs.find? λp=>Nat.beq p.1 T with
 | some p=>match bP_ E H (E.cs p.2) l,bP_ E H (E.cs p.2) m,E.deq p.2 with
  | some h,some f,some d=>match cT_ E (E.cs p.2) h,cT_ E (E.cs p.2) f with
   | some _,some _=>match neg with
    | false=>k (.v (.one (.dt .bool (@decide (E.bd p.2 h=E.bd p.2 f) (d _ _))))) none
    | true=>k (.v (.one (.dt .bool (!(@decide (E.bd p.2 h=E.bd p.2 f) (d _ _)))))) none
   | _,_=>none
  | _,_,_=>none
 | none=>none
theorem qEq_ok{eqs:tL (Nat×Nat)}{op:BinOp}{neg:tV}{t yt:tA}{x y:tN}{l m:tL (SC E)}(f:op=bif neg then .neq else .eql)(G:o.op = .binOp op t x y yt)(C:∀p∈eqs,aG_ P E p.1 p.2)(J:HR P E Bs F0 w0 W z g H)
  (hx:RV P E z g (.v (.agg l)) (ρ x)) (V:RV P E z g (.v (.agg m)) (ρ y)) (h:qEq E H eqs neg t l m k=some r):Good P E z g nx I H ρ o k r:=by
 unfold qEq at h;split at h
 .rename_i p F;have hT:p.1=t:=qNb (by simpa using zz F);have Z:=C p (zX F);split at h
  .rename_i Y hm d h1 h2 h3;split at h
   .rename_i e1 e2 O M;obtain⟨vs,U,q⟩:=hx;obtain⟨us,ey,j⟩:=V;have u:=ds_ J h1 q;have s:=ds_ J h2 j;obtain rfl:=my_ u O;obtain rfl:=my_ s M;have D:=Z d (E.bd p.2 Y) (E.bd p.2 hm) vs us (by rw[E.un_bd];exact O) (by rw[E.un_bd];exact M);rw[hT]at D;cases neg with
    | false=>
     simp only at h;subst f;exact .mk' h (.bool .nil) λw' _=>run_agg_eql G U ey D
    | true=>
     simp only at h;subst f;exact .mk' h (.bool .nil) λw' _=>run_agg_neq G U ey D
   .cases h
  .cases h
 .cases h
theorem iZ_{α R:Type}{xs:tL α}{k:tV->tO R}{r:R}(h:nilB xs k=some r){b:tV}(f:xs≠[]->b=false):k b=some r:=by
 cases xs with
 | nil=>
  obtain⟨h1,j⟩:=both_some h;cases b with
  | true=>exact h1
  | false=>exact j
 | cons x xs=>rw[f (by simp)];exact h
theorem uI_(w:tS)(d:Nat)(t e:tA)(a:tO Addr)(l c:Nat)(h:P.underlying t=some (.slice e)):(Op.equalIn (d+1) t (.slice a l c) (.slice none 0 0)).run P w = .ok a.isNone w:=by
 cases a<;>simp[Op.equalIn,run_underlying h]
theorem o2_(w:tS)(t e:tA)(a:tO Addr)(l c:Nat)(h:P.underlying t=some (.slice e)):(Op.equal t (.slice a l c) (.slice none 0 0)).run P w = .ok a.isNone w:=uI_ w 9999 t e a l c h
theorem run_eql_snil(w:tS)(t e:tA)(a:tO Addr)(l c:Nat)(h:P.underlying t=some (.slice e)):(binOp .eql t (.slice a l c) (.slice none 0 0)).run P w = .ok (.bool a.isNone) w:=by
 simp only[binOp];simp[o2_ w t e a l c h]
theorem run_neq_snil(w:tS)(t e:tA)(a:tO Addr)(l c:Nat)(h:P.underlying t=some (.slice e)):(binOp .neq t (.slice a l c) (.slice none 0 0)).run P w = .ok (.bool (!a.isNone)) w:=by
 simp only[binOp];simp[o2_ w t e a l c h]
theorem ir_{t yt e:tA}{x y:tN}{A:tO Addr}{n cap:Nat}{w:tS}(j:o.op = .binOp .eql t x y yt)(h:P.underlying t=some (.slice e))(hx:ρ x = .slice A n cap)(f:ρ y = .slice none 0 0) :
  (execOp ρ o).run P w = .ok (.value (.bool A.isNone)) w:=by
 unfold execOp;simp only[j,hx,f];simp[eqGuard,run_eql_snil w t e A n cap h]
theorem is_{t yt e:tA}{x y:tN}{A:tO Addr}{n cap:Nat}{w:tS}(j:o.op = .binOp .neq t x y yt)(h:P.underlying t=some (.slice e))(hx:ρ x = .slice A n cap)(f:ρ y = .slice none 0 0) :
  (execOp ρ o).run P w = .ok (.value (.bool (!A.isNone))) w:=by
 unfold execOp;simp only[j,hx,f];simp[eqGuard,run_neq_snil w t e A n cap h]
def qNil0(P:tT)(E:TE)(H:Nat->tO (Obj E))(op:BinOp)(T:tA)(c:SC E){R:Type}(k:SV E->Up E->tO R):tO R:=
 match op,P.underlying T,c with
 | .eql,some (.slice _),.dt (.sl _) xs=>nilB xs λb=>k (.v (.one (.dt .bool b))) none
 | .neq,some (.slice _),.dt (.sl _) xs=>nilB xs λb=>k (.v (.one (.dt .bool (!b)))) none
 | .eql,some (.slice _),.nils=>k (.v (.one (.dt .bool true))) none
 | .neq,some (.slice _),.nils=>k (.v (.one (.dt .bool false))) none
 | .eql,some (.slice _),.own id=>match H id with
  | some (.row _ _ xs _)=>nilB xs λb=>k (.v (.one (.dt .bool b))) none
  | some (.fr _ xs)=>nilB xs λb=>k (.v (.one (.dt .bool b))) none
  | _=>none
 | .neq,some (.slice _),.own id=>match H id with
  | some (.row _ _ xs _)=>nilB xs λb=>k (.v (.one (.dt .bool (!b)))) none
  | some (.fr _ xs)=>nilB xs λb=>k (.v (.one (.dt .bool (!b)))) none
  | _=>none
 | _,_,_=>none
theorem own_nil{H:Nat->tO (Obj E)}(p:HR P E Bs F0 w0 W z g H){id:Nat}{v:tW}(hr:RC P E z g (.own id) v):(∀e t xs foc,H id=some (.row e t xs foc)->∃A n cap,v = .slice A n cap/\(xs≠[]->A.isNone=false))/\∀t xs,H id=some (.fr t xs)->∃A n cap,v = .slice A n cap/\(xs≠[]->A.isNone=false):=by
 obtain⟨l,h1,rfl⟩:=hr;refine⟨λe t xs foc hi=>⟨_,_,_,rfl,λhx=>?_⟩,λt xs hi=>⟨_,_,_,rfl,λhx=>?_⟩⟩
 .obtain⟨q,rows,j,m,_,f,_⟩:=p.hold _ _ hi;rw[h1]at j;obtain rfl:=qSj j;rcases f.2 with⟨_,h⟩|⟨b,cap,cur,h,_⟩
  .rw[m]at h;exact absurd (zT.1 h) hx
  .injection h with u;rw[u];rfl
 .obtain⟨q,rows,j,m,_,s,_⟩:=p.hold _ _ hi;rw[h1]at j;obtain rfl:=qSj j;have:0<l.n:=by rw[m];exact List.length_pos_iff.2 hx
  obtain⟨b,off,e,h,_⟩:=s.2 this;rw[e];rfl
theorem qNil0_ok{op:BinOp}{t yt:tA}{x y:tN}{c:SC E}(m:o.op = .binOp op t x y yt)(D:HR P E Bs F0 w0 W z g H)(hx:RC P E z g c (ρ x))(j:ρ y = .slice none 0 0)(h:qNil0 P E H op t c k=some r):Good P E z g nx I H ρ o k r:=by
 unfold qNil0 at h;split at h
 .rename_i e xs f;obtain⟨A,cap,rows,vs',ev,s,_⟩:=RD.sl_inv hx;injection ev with ev _;refine .mk' (iZ_ h (b:=A.isNone) λp=>?_) (.bool .nil) λw' _=>ir_ m f ev j
  obtain⟨b,off,u,_⟩:=s.2 (List.length_pos_iff.2 p);rw[u];rfl
 .rename_i e xs f;obtain⟨A,cap,rows,vs',ev,s,_⟩:=RD.sl_inv hx;injection ev with ev _;refine .mk' (iZ_ h (b:=A.isNone) λp=>?_) (.bool .nil) λw' _=>is_ m f ev j
  obtain⟨b,off,u,_⟩:=s.2 (List.length_pos_iff.2 p);rw[u];rfl
 .rename_i f;exact .mk' h (.bool .nil) λw' _=>ir_ m f hx j
 .rename_i f;exact .mk' h (.bool .nil) λw' _=>is_ m f hx j
 .rename_i id f;obtain⟨h1,C⟩:=own_nil D hx;split at h
  .rename_i hi;obtain⟨A,n,cap,ev,q⟩:=h1 _ _ _ _ hi;exact .mk' (iZ_ h q) (.bool .nil) λw' _=>ir_ m f ev j
  .rename_i hi;obtain⟨A,n,cap,ev,q⟩:=C _ _ hi;exact .mk' (iZ_ h q) (.bool .nil) λw' _=>ir_ m f ev j
  .cases h
 .rename_i id f;obtain⟨h1,C⟩:=own_nil D hx;split at h
  .rename_i hi;obtain⟨A,n,cap,ev,q⟩:=h1 _ _ _ _ hi;exact .mk' (iZ_ h q) (.bool .nil) λw' _=>is_ m f ev j
  .rename_i hi;obtain⟨A,n,cap,ev,q⟩:=C _ _ hi;exact .mk' (iZ_ h q) (.bool .nil) λw' _=>is_ m f ev j
  .cases h
 .cases h
def qBin(P:tT)(E:TE)(L:Nat->tO (SV E))(H:Nat->tO (Obj E))(eqs:tL (Nat×Nat))(o:tI)(op:BinOp)(T:tA)(x y:tN){R:Type}(k:SV E->Up E->tO R):tO R:=
 match opS E L x,opS E L y with
 | some (.v (.one (.dt (.int ka) a))),some (.v (.one (.dt (.int kb) b)))=>qInt P E L o op y ka a kb b k
 | some (.v (.one (.dt .str a))),some (.v (.one (.dt .str b)))=>qStr op a b k
 | some (.v (.one (.dt .bool a))),some (.v (.one (.dt .bool b)))=>match op,P.underlying T with
  | .eql,some .bool=>k (.v (.one (.dt .bool (a==b)))) none
  | .neq,some .bool=>k (.v (.one (.dt .bool (!(a==b))))) none
  | _,_=>none
 | some (.v (.agg l)),some (.v (.agg m))=>match op with
  | .eql=>qEq E H eqs false T l m k
  | .neq=>qEq E H eqs true T l m k
  | _=>none
 | some (.v (.one c)),some (.v (.one .nils))=>qNil0 P E H op T c k
 | _,_=>none
theorem qBin_ok{eqs:tL (Nat×Nat)}{op:BinOp}{t yt:tA}{x y:tN}(j:o.op = .binOp op t x y yt)(q:∀p∈eqs,aG_ P E p.1 p.2)(hρ:OpR P E z g L ρ)(u:HR P E Bs F0 w0 W z g H)(h:qBin P E L H eqs o op t x y k=some r):Good P E z g nx I H ρ o k r:=by
 unfold qBin at h;split at h
 .rename_i ka a kb b hx f;exact qInt_ok j hρ (SV.int_ok rfl (hρ x _ hx)) (SV.int_ok rfl (hρ y _ f)) h
 .rename_i a b hx f;exact qStr_ok j (SV.str_ok rfl (hρ x _ hx)) (SV.str_ok rfl (hρ y _ f)) h
 .rename_i a b hx f;have D:=SV.bool_ok rfl (hρ x _ hx);have C:=SV.bool_ok rfl (hρ y _ f);split at h
  .rename_i s;exact .mk' h (.bool .nil) λw' _=>run_bool_eql j s D C
  .rename_i s;exact .mk' h (.bool .nil) λw' _=>run_bool_neq j s D C
  .cases h
 .rename_i l m hx f;split at h
  .exact qEq_ok (neg:=false) rfl j q u (hρ x _ hx) (hρ y _ f) h
  .exact qEq_ok (neg:=true) rfl j q u (hρ x _ hx) (hρ y _ f) h
  .cases h
 .rename_i c hx f;exact qNil0_ok j u (hρ x _ hx) (hρ y _ f) h
 .cases h
theorem run_indexV{t m e:Nat}{x i:tN}{ki:IntKind}{n:Int}{vs:tL tW}{v:tW}{w:tS}(s:o.op = .index t x i)(q:P.underlying t=some (.array m e))(u:aggB P e=some false)(h:aK_ P e=some 1)(hx:ρ x = .agg vs.toArray)(hi:ρ i = .int ki n)
  (h0:0<=n) (h1:n<m) (p:vs[n.toNat]? = some v):(execOp ρ o).run P w = .ok (.value v) w:=by
 unfold aK_ at h;cases j:P.info? e with
 | none=>simp[j]at h
 | some inf=>
  have f:inf.size=1:=by simpa[j]using h
  unfold execOp;simp only[s,hx,hi];simp[Instr.index,asIntOf,run_underlying q,sizeOf,typeInfo,j,f,h0,h1,part,Sem.run_bind,mC_ u,p]
def qIndex(P:tT)(E:TE)(L:Nat->tO (SV E))(T:tA)(x i:tN){R:Type}(k:SV E->Up E->tO R):tO R:=
 match opS E L x,opS E L i,P.underlying T with
 | some (.v (.one (.dt .str s))),some (.v (.one (.dt (.int _) n))),some .string=>Option.bind (ap_ s n) λb=>k (.v (.one (.dt (.int .u8) b))) none
 | some (.v (.agg l)),some (.v (.one (.dt (.int _) n))),some (.array m e)=>match aggB P e,aK_ P e,dtsC .u32 l with
  | some false,some 1,some xs=>match Nat.beq xs.length m with
   | true=>Option.bind (ah_ xs n) λy=>k (.v (.one (.dt (.int .u32) y))) none
   | false=>none
  | _,_,_=>none
 | _,_,_=>none
theorem qIndex_ok{T:tA}{x i:tN}(q:o.op = .index T x i)(hρ:OpR P E z g L ρ)(h:qIndex P E L T x i k=some r):Good P E z g nx I H ρ o k r:=by
 unfold qIndex at h;split at h
 .rename_i s ki n hx hi p;obtain⟨b,G,h⟩:=bind_some h;exact .mk' h (v:=.int .u8 b) (.int .nil) λw' _=>run_byteI q p (SV.str_ok rfl (hρ x _ hx)) (SV.int_ok rfl (hρ i _ hi)) G
 .rename_i l ki n m e hx hi p;split at h
  .rename_i xs J D j;split at h
   .rename_i hm;obtain rfl:=qNb hm;obtain⟨y,u,h⟩:=bind_some h;obtain⟨h0,f,F⟩:=fm_ u;obtain⟨vs,ev,hr⟩:=hρ x _ hx;have C:=uG_ j hr f;exact .mk' h (v:=.int .u32 y) (.int .nil) λw' _=>run_indexV q p J D ev (SV.int_ok rfl (hρ i _ hi)) h0 (by omega) C
   .cases h
  .cases h
 .cases h
end
section
def ckFs(P:tT)(f:tA->tW->tV)(cs:Array tW):tL Field->tV
 | []=>true
 | g::fs=>(match dr_ P (part g.type cs g.offset)with|some v=>f g.type v|none=>false)&&ckFs P f cs fs
def ckV(P:tT):Nat->tA->tW->tV
 | 0,_,_=>false
 | n+1,K,v=>match P.underlying K,v with
  | some (.int _),.int _ _=>true
  | some .bool,.bool _=>true
  | some .string,.string _=>true
  | some (.struct fs),.agg cs=>ckFs P (ckV P n) cs fs.toList
  | _,_=>false
theorem ckFs_run{P:tT}{f:tA->tW->tV}{d:Nat}{b:tV}{w:tS}(s:∀K v,f K v=true->(Instr.checkKey b d K v).run P w = .ok () w){cs:Array tW}:∀{fs:tL Field},ckFs P f cs fs=true ->
  (forIn (m:=Sem) fs PUnit.unit fun g (_:PUnit)=>if g.name ≠ "_" then (do Instr.checkKey b d g.type (← part g.type cs g.offset); pure (ForInStep.yield PUnit.unit)) else pure (ForInStep.yield PUnit.unit)).run P w = .ok PUnit.unit w
 | [],_=>rfl
 | g::fs,h=>by
  simp only[ckFs,qAn]at h;have p:=ckFs_run s h.2;cases j:dr_ P (part g.type cs g.offset)with
  | none=>rw[j]at h;cases h.1
  | some v=>
   rw[j]at h;rw[List.forIn_cons,Sem.run_bind]
   by_cases q:g.name ≠ "_"
   .rw[qY q];simp only[Sem.run_bind,eR_ j w,Result.andThen_ok,s _ _ h.1,Sem.run_pure];exact p
   .rw[qG q];simp only[Sem.run_pure,Result.andThen_ok];exact p
theorem o3_{P:tT}{b:tV}{w:tS}:∀{n d:Nat} {K:tA} {v:tW},ckV P n K v=true->(Instr.checkKey b (d+n) K v).run P w = .ok () w
 | 0,_,_,_,h=>by cases h
 | n+1,d,K,v,h=>by
  simp only[ckV]at h;rw[←zW];split at h
  .rename_i f;unfold Instr.checkKey;simp only[Sem.run_bind,run_underlying f,Result.andThen_ok,Sem.run_pure]
  .rename_i f;unfold Instr.checkKey;simp only[Sem.run_bind,run_underlying f,Result.andThen_ok,Sem.run_pure]
  .rename_i f;unfold Instr.checkKey;simp only[Sem.run_bind,run_underlying f,Result.andThen_ok,Sem.run_pure]
  .rename_i fs cs f;have:=ckFs_run (b:=b) (w:=w) (d:=d+n) (λK v h=>o3_ (n:=n) (d:=d) h) h;unfold Instr.checkKey;simp only[Sem.run_bind,run_underlying f,Result.andThen_ok];rw[←Array.forIn_toList];exact(qM (λ(r:Result PUnit)=>r.andThen λ_ w'=>Sem.run P (pure ()) w') this).trans rfl
  .cases h
variable{P:tT}{E:TE}
def eqB(E:TE):(t:Ty)->tO (Den E.S t->Den E.S t->tV)
 | .int _=>some λ(a b:Int)=>a==b
 | .bool=>some λ(a b:tV)=>a==b
 | .str=>some λ(a b:tR)=>a==b
 | .st n=>match E.deq n with
  | some d=>some λa b=>@decide (a=b) (d a b)
  | none=>none
 | .sl _=>none
theorem o4_{t:Ty}{eq:Den E.S t->Den E.S t->tV}(h:eqB E t=some eq)(x y:Den E.S t):eq x y=true↔x=y:=by
 cases t with
 | int k=>obtain rfl:=qSj h;show((x:Int)==y)=true↔_;exact zQ
 | bool=>obtain rfl:=qSj h;show((x:tV)==y)=true↔_;exact zQ
 | str=>obtain rfl:=qSj h;show((x:tR)==y)=true↔_;exact zQ
 | sl t=>cases h
 | st n=>
  simp only[eqB]at h;split at h
  .obtain rfl:=qSj h;exact decide_eq_true_iff
  .cases h
def keyV (P:tT) (E:TE) (eqs:tL (Nat×Nat)) (K:tA) (t:Ty) (x:Den E.S t):tO tW:=
 match t,P.underlying K with
 | .int k,some (.int f)=>match decide (k=f)with
  | true=>ch_ E (.int k) x
  | false=>none
 | .bool,some .bool=>ch_ E .bool x
 | .str,some .string=>ch_ E .str x
 | .st n,some (.struct _)=>match eqs.find? λp=>Nat.beq p.1 K with
  | some p=>match Nat.beq p.2 n,ch_ E (.st n) x with
   | true,some v=>match ckV P 20 K v with
    | true=>some v
    | false=>none
   | _,_=>none
  | none=>none
 | _,_=>none
structure KeyIs(P:tT)(E:TE)(K:tA)(t:Ty)(eq:Den E.S t->Den E.S t->tV)(x:Den E.S t)(v:tW):Prop where
 val:ch_ E t x=some v
 chk:∀b w,(Instr.checkKey b 10000 K v).run P w = .ok () w
 find:∀{vt:Ty} {ks:tL (Den E.S t)} {vs:tL (Den E.S vt)} {es:Array tQ} (w:tS),MapR E t vt ks vs es.toList->(Instr.findKey K v es.toList).run P w = .ok (foundAt es (bF_ eq x ks)) w
 same:Instr.sameBits 10000 v v=true
theorem uJ_{d:TypeDesc}{t vt:Ty}{eq:Den E.S t->Den E.S t->tV}{x:Den E.S t}{kv:tW}(m:∀y v,ch_ E t y=some v->Instr.sameNow d kv v=some (eq x y)){ks:tL (Den E.S t)}{vs:tL (Den E.S vt)}{es:tL tQ}(h:MapR E t vt ks vs es) :
  ∀i,Instr.findNow d kv es i=some (match bF_ eq x ks with|some j=>(es[j]?).map λe=>(i+j,e.val)|none=>none):=by
 induction h with
 | nil=>intro i;rfl
 | cons p q _ f=>
  intro i;simp only[Instr.findNow,m _ _ p,bF_];cases eq x _ with
  | true=>rfl
  | false=>
   simp only[f (i+1)];cases bF_ eq x _ with
   | none=>rfl
   | some j=>
    simp only[List.getElem?_cons_succ];rw[show i+1+j=i+(j+1)by omega]
theorem find_ask{K:tA}{t vt:Ty}{eq:Den E.S t->Den E.S t->tV}{x:Den E.S t}{kv:tW}(m:∀y v w,ch_ E t y=some v->(Op.equal K kv v).run P w = .ok (eq x y) w){ks:tL (Den E.S t)}{vs:tL (Den E.S vt)}{es:tL tQ}(h:MapR E t vt ks vs es) :
  ∀i w,(Instr.findAsking K kv es i).run P w = .ok (match bF_ eq x ks with|some j=>(es[j]?).map λe=>(i+j,e.val)|none=>none) w:=by
 induction h with
 | nil=>intro i w;rfl
 | cons p q _ f=>
  intro i w;simp only[Instr.findAsking,Sem.run_bind,m _ _ w p,Result.andThen_ok,bF_];cases eq x _ with
  | true=>rfl
  | false=>
   simp only[zo,if_false,f (i+1)];cases bF_ eq x _ with
   | none=>rfl
   | some j=>
    simp only[List.getElem?_cons_succ];rw[show i+1+j=i+(j+1)by omega]
theorem jf_{es:Array tQ}{ix:tO Nat}:(match ix with|some j=>(es.toList[j]?).map λe=>(0+j,e.val)|none=>none)=foundAt es ix:=by
 cases ix with
 | none=>rfl
 | some j=>simp[foundAt]
theorem nE_:∀{ts:tL Ty} {h:HL E.S ts} {l:tL tW},cT_ E ts h=some l->(l.zip l).all (λp=>Instr.sameBits 9999 p.1 p.2)=true
 | [],_,l,h=>by obtain rfl:=qSj h;rfl
 | .int k::ts,j,l,h=>by
  simp only[cT_]at h;split at h
  .rename_i m f;obtain rfl:=qSj h;rw[List.zip_cons_cons,jQ,nE_ f];simp[Instr.sameBits]
  .cases h
 | .bool::ts,j,l,h=>by
  simp only[cT_]at h;split at h
  .rename_i m f;obtain rfl:=qSj h;rw[List.zip_cons_cons,jQ,nE_ f];simp[Instr.sameBits]
  .cases h
 | .str::ts,j,l,h=>by
  simp only[cT_]at h;split at h
  .rename_i m f;obtain rfl:=qSj h;rw[List.zip_cons_cons,jQ,nE_ f,Bool.and_true];exact(MapKept.bytes_beq _ _).2 rfl
  .cases h
 | .sl _::ts,j,l,h=>by simp[cT_]at h
 | .st _::ts,j,l,h=>by simp[cT_]at h
theorem keyV_ok {eqs:tL (Nat×Nat)} (F:∀p∈eqs,aG_ P E p.1 p.2) {K:tA} {t:Ty} {eq:Den E.S t->Den E.S t->tV} {x:Den E.S t} {v:tW} (s:eqB E t=some eq) (h:keyV P E eqs K t x=some v):KeyIs P E K t eq x v:=by
 unfold keyV at h;split at h
 .rename_i k k' x j;split at h
  .rename_i U;obtain rfl:=of_decide_eq_true U;obtain rfl:=qSj h;obtain rfl:=qSj s;refine⟨rfl,λb w=>o3_ (n:=1) (d:=9999) (by simp only[ckV,j]),λw hr=>?_,by simp[Instr.sameBits]⟩;refine(MapKept.run_findKey j (uJ_ (eq:=λ(a b:Int)=>a==b) (x:=x) (λy v f=>?_) hr 0)).trans (by rw[jf_]);obtain rfl:=qSj f;simp[Instr.sameNow]
  .cases h
 .rename_i x j;obtain rfl:=qSj h;obtain rfl:=qSj s;refine⟨rfl,λb w=>o3_ (n:=1) (d:=9999) (by simp only[ckV,j]),λw hr=>?_,by simp[Instr.sameBits]⟩;refine(MapKept.run_findKey j (uJ_ (eq:=λ(a b:tV)=>a==b) (x:=x) (λy v f=>?_) hr 0)).trans (by rw[jf_]);obtain rfl:=qSj f;rfl
 .rename_i x j;obtain rfl:=qSj h;obtain rfl:=qSj s;refine⟨rfl,λb w=>o3_ (n:=1) (d:=9999) (by simp only[ckV,j,S]),λw hr=>?_,(MapKept.bytes_beq _ _).2 rfl⟩;refine(MapKept.run_findKey j (uJ_ (eq:=λ(a b:tR)=>a==b) (x:=x) (λy v f=>?_) hr 0)).trans (by rw[jf_]);obtain rfl:=qSj f;simp only[Instr.sameNow,S]
  congr 1
  rw[qE];refine(MapKept.bytes_beq _ _).trans ⟨λh=>?_,λh=>?_⟩
  .have:=qM (λb:tP=>b.data.toList) h;show((x:tR)==y)=true;simpa using this
  .rw[show x=y from by simpa using(show((x:tR)==y)=true from h)]
 .rename_i n fs x j;split at h
  .rename_i p G;split at h
   .rename_i Z O f;split at h
    .rename_i V;obtain rfl:=qSj h;have Y:p.1=K:=qNb (by simpa using zz G);have M:=F p (zX G);rw[Y,qNb O]at M;simp only[eqB]at s;split at s
     .rename_i d hd;obtain rfl:=qSj s;have u:=f;simp only[ch_]at f;split at f
      .rename_i l J;obtain rfl:=qSj f;refine⟨u,λb w=>o3_ (n:=20) (d:=9980) V,fun{vt ks vs es} w hr=>?_,?_⟩
       .have q:=find_ask (P:=P) (K:=K) (eq:=λa b=>@decide (a=b) (d a b)) (x:=x) (kv:=.agg l.toArray) (λy v w f=>by
         simp only[ch_]at f;split at f
         .rename_i m hm;obtain rfl:=qSj f;exact(M d x y l m J hm).2 w
         .cases f) hr 0 w
        rw[jf_]at q;unfold Instr.findKey;simp only[Sem.run_bind,run_underlying j,Result.andThen_ok];cases C:es.toList with
        | nil=>
         rw[C]at hr;cases hr
         simp[Instr.findNow,foundAt,bF_]
        | cons e r=>
         have D:Instr.findNow (.struct fs) (.agg l.toArray) (e::r) 0=none:=by simp[Instr.findNow,Instr.sameNow]
         rw[D,←C];exact q
       .simp only[Instr.sameBits,beq_self_eq_true,jC];exact nE_ J
      .cases f
     .cases s
    .cases h
   .cases h
  .cases h
 .cases h
theorem MapR.len{k v:Ty}{ks:tL (Den E.S k)}{vs:tL (Den E.S v)}{es:tL tQ}(h:MapR E k v ks vs es):ks.length=es.length/\vs.length=es.length:=by
 induction h with
 | nil=>exact⟨rfl,rfl⟩
 | cons _ _ _ f=>exact⟨by simp[f.1],by simp[f.2]⟩
theorem MapR.get{k v:Ty}{ks:tL (Den E.S k)}{vs:tL (Den E.S v)}{es:tL tQ}(h:MapR E k v ks vs es):∀{i:Nat} {e:tQ},es[i]? = some e->∃x y,ks[i]? = some x/\vs[i]? = some y/\ch_ E k x=some e.key/\ch_ E v y=some e.val:=by
 induction h with
 | nil=>intro i e h;simp at h
 | @cons x y e ks vs es s q _ p=>
  intro i e' f;cases i with
  | zero=>simp at f;subst f;exact⟨x,y,rfl,rfl,s,q⟩
  | succ i=>obtain⟨m,j,h1,C,u⟩:=p (by simpa using f);exact⟨m,j,by simpa using h1,by simpa using C,u⟩
theorem MapR.push{k v:Ty}{ks:tL (Den E.S k)}{vs:tL (Den E.S v)}{es:tL tQ}(h:MapR E k v ks vs es){x:Den E.S k}{y:Den E.S v}{e:tQ}(m:ch_ E k x=some e.key)(j:ch_ E v y=some e.val):MapR E k v (ks++[x]) (vs++[y]) (es++[e]):=by
 induction h with
 | nil=>exact .cons m j .nil
 | cons h1 p _ f=>exact .cons h1 p f
theorem MapR.set{k v:Ty}{ks:tL (Den E.S k)}{vs:tL (Den E.S v)}{es:tL tQ}(h:MapR E k v ks vs es){y:Den E.S v}:∀{i:Nat} {e e':tQ},es[i]? = some e->e'.key=e.key->ch_ E v y=some e'.val->MapR E k v ks (vs.set i y) (es.set i e'):=by
 induction h with
 | nil=>intro i e e' h;simp at h
 | @cons x u C ks vs es p s h q=>
  intro i e e' m j f;cases i with
  | zero=>
   simp at m;subst m;exact .cons (by rw[j];exact p) f h
  | succ i=>exact .cons p s (q (by simpa using m) j f)
theorem tm_{z:Fz}:∀{ts:tL Ty} {h:HL E.S ts} {l:tL tW},cT_ E ts h=some l->RD E z ts h l
 | [],_,l,h=>by obtain rfl:=qSj h;exact .nil
 | .int k::ts,j,l,h=>by
  simp only[cT_]at h;split at h
  .rename_i m f;obtain rfl:=qSj h;exact .int (tm_ f)
  .cases h
 | .bool::ts,j,l,h=>by
  simp only[cT_]at h;split at h
  .rename_i m f;obtain rfl:=qSj h;exact .bool (tm_ f)
  .cases h
 | .str::ts,j,l,h=>by
  simp only[cT_]at h;split at h
  .rename_i m f;obtain rfl:=qSj h;exact .str (tm_ f)
  .cases h
 | .sl _::ts,j,l,h=>by simp[cT_]at h
 | .st _::ts,j,l,h=>by simp[cT_]at h
theorem kh_{z:Fz}{t:Ty}{x:Den E.S t}{u v:tW}(h:ch_ E t x=some u)(hr:RT E z t x v):v=u:=by
 cases t with
 | int k=>
  obtain rfl:=qSj h;obtain⟨vs',e,_⟩:=RD.int_inv (show RD E z [.int k] (x,()) [v]from hr);exact(List.cons.inj e).1
 | bool=>
  obtain rfl:=qSj h;obtain⟨vs',e,_⟩:=RD.bool_inv (show RD E z [.bool] (x,()) [v]from hr);exact(List.cons.inj e).1
 | str=>
  obtain rfl:=qSj h;obtain⟨vs',e,_⟩:=RD.str_inv (show RD E z [.str] (x,()) [v]from hr);exact(List.cons.inj e).1
 | sl t=>cases h
 | st n=>
  obtain⟨vs,rfl,hr⟩:=hr;simp only[ch_]at h;split at h
  .rename_i l f;obtain rfl:=qSj h;rw[my_ hr f]
  .cases h
def datV(E:TE):(t:Ty)->Den E.S t->V1 E|.st n,x=>.agg (E.cells (.st n) x)|t,x=>.one (.dt t x)
theorem datV_ok{P:tT}{z:Fz}{g:Ga}{t:Ty}{x:Den E.S t}{u:tW}(h:ch_ E t x=some u):R1 P E z g (datV E t x) u:=by
 cases t with
 | int k=>obtain rfl:=qSj h;exact .int .nil
 | bool=>obtain rfl:=qSj h;exact .bool .nil
 | str=>obtain rfl:=qSj h;exact .str .nil
 | sl t=>cases h
 | st n=>
  simp only[ch_]at h;split at h
  .rename_i l f;obtain rfl:=qSj h;exact⟨l,rfl,cells_rd.1 (tm_ f)⟩
  .cases h
def keyD(E:TE)(H:Nat->tO (Obj E)):(t:Ty)->V1 E->tO (Den E.S t)
 | .st n,.agg l=>match bP_ E H (E.cs n) l with
  | some h=>some (E.bd n h)
  | none=>none
 | .st _,.one _=>none
 | t,.one c=>c.data H t
 | _,.agg _=>none
theorem ki_{P:tT}{z:Fz}{g:Ga}{w w0:tS}{H:Nat->tO (Obj E)}{Bs:tL Nat}{F0:Nat->Prop}{t:Ty}{y:V1 E}{x:Den E.S t}{v:tW}(f:HR P E Bs F0 w0 w z g H)(h:keyD E H t y=some x)(hr:R1 P E z g y v):RT E z t x v:=by
 cases t with
 | st n=>
  cases y with
  | one c=>cases h
  | agg l=>
   simp only[keyD]at h;split at h
   .rename_i p m;obtain rfl:=qSj h;obtain⟨vs,rfl,j⟩:=hr;exact⟨vs,rfl,by rw[E.un_bd];exact ds_ f m j⟩
   .cases h
 | int k=>cases y with|one c=>exact SC.data_ok f h hr|agg l=>cases h
 | bool=>cases y with|one c=>exact SC.data_ok f h hr|agg l=>cases h
 | str=>cases y with|one c=>exact SC.data_ok f h hr|agg l=>cases h
 | sl e=>cases y with|one c=>exact SC.data_ok f h hr|agg l=>cases h
def zeroX (P:tT) (E:TE) (e:tA) (t:Ty):tO (Den E.S t):=match P.info? e with
 | some i=>match i.zero with
  | some zv=>match zv with
   | .agg cs=>match kg_ E cs.toList with
    | some l=>keyD E (λ_=>none) t (.agg l)
    | none=>none
   | zv=>match constC E zv with
    | some c=>keyD E (λ_=>none) t (.one c)
    | none=>none
  | none=>none
 | none=>none
theorem zeroX_ok{P:tT}{z:Fz}{g:Ga}{w w0:tS}{H:Nat->tO (Obj E)}{Bs:tL Nat}{F0:Nat->Prop}{e:tA}{t:Ty}{x:Den E.S t}{u:tW}(C:HR P E Bs F0 w0 w z g H)(h:zeroX P E e t=some x)(p:ch_ E t x=some u)(m:tS):(zeroValue e).run P m = .ok u m:=by
 have j:HR P E Bs F0 w0 w z g (λ_=>none):=C.less λ_ _ h=>nomatch h
 unfold zeroX at h;split at h
 .rename_i i hi;split at h
  .rename_i zv q;have f:(zeroValue e).run P m = .ok zv m:=by
    simp[zeroValue,typeInfo,hi,q]
   rw[f];have:zv=u:=by
    split at h
    .rename_i cs;split at h
     .rename_i l s;have:=ki_ j h (g:=g) (v:=.agg cs) ⟨cs.toList,by simp,gR_ s⟩;exact kh_ p this
     .cases h
    .split at h
     .rename_i c y;exact kh_ p (ki_ j h (g:=g) (v:=zv) (rY_ y))
     .cases h
   rw[this]
  .cases h
 .cases h
def qLookup (P:tT) (E:TE) (eqs:tL (Nat×Nat)) (L:Nat->tO (SV E)) (H:Nat->tO (Obj E)) (T:tA) (m x:tN) {R:Type} (k:SV E->Up E->tO R):tO R:=
 match opS E L m,opS E L x,P.underlying T with
 | some (.v (.one (.mp id))),some (.v y),some (.map K e)=>match H id with
  | some (.map _ kt vt ks vs _)=>match eqB E kt,keyD E H kt y,zeroX P E e vt with
   | some eq,some kx,some zx=>match keyV P E eqs K kt kx,ch_ E vt zx with
    | some _,some _=>k (.v (datV E vt (aH_ eq ks vs kx zx))) none
    | _,_=>none
   | _,_,_=>none
  | _=>none
 | _,_,_=>none
theorem qLookup_ok{P:tT}{z:Fz}{g:Ga}{nx:Nat}{L:Nat->tO (SV E)}{H:Nat->tO (Obj E)}{ρ:tN->tW}{W w0:tS}{I:tS->Prop}{o:tI}{R:Type}{k:SV E->Up E->tO R}{r:R}{Bs:tL Nat}{F0:Nat->Prop}{eqs:tL (Nat×Nat)}{T:tA}{m x:tN}
  (ho:o.op = .lookup T m x false) (J:∀p∈eqs,aG_ P E p.1 p.2) (hρ:OpR P E z g L ρ) (V:HR P E Bs F0 w0 W z g H) (hI:∀w',I w'->Stands z g H W w') (h:qLookup P E eqs L H T m x k=some r):Good P E z g nx I H ρ o k r:=by
 unfold qLookup at h;split at h
 .rename_i id y K e hm hx hu;split at h
  .rename_i T' kt vt ks vs foc hi;split at h
   .rename_i eq kx zx he hk hz;split at h
    .rename_i kv u G q;have U:=keyV_ok J he G;have ekv:ρ x=kv:=kh_ U.val (ki_ V hk (hρ x _ hx));obtain⟨l,h1,h2⟩:=hρ m _ hm;obtain⟨l',es,c,Z,h4,Y,_⟩:=V.hold _ _ hi;rw[h1]at Z;obtain rfl:=qSj Z;have D:=Y.rel.len;have C:∀i,bF_ eq kx ks=some i->i<es.size:=λi hi=>by
      obtain⟨_,yy,h6,_⟩:=lh_ hi;have:=(qK.1 h6).1;have:=D.1;simp at this;omega
     have s:∀w',I w'->(Instr.lookup T (.map (some l.b)) kv false).run P w' = .ok (gotV es u (bF_ eq kx ks)) w':=λw' f=>by
      have O:w'.heap[l.b]? = some (.map es c):=((hI w' f).2 id _ l.b hi ⟨l,h1,rfl⟩).trans h4;exact run_lookup hu O U.chk (U.find w' Y.rel) (zeroX_ok V hz q w') C
     refine .mk' h (v:=gotV es u (bF_ eq kx ks)) ?_ λw' f=>?_
     .cases j:bF_ eq kx ks with
      | none=>rw[p0_ j];exact datV_ok q
      | some i=>
       have F:=C i j;have M:es.toList[i]? = some es[i]:=by simp[F]
       obtain⟨_,yv,_,h7,_,h9⟩:=Y.rel.get M;rw[p1_ j h7];have:((es[i]?).map (·.val)).getD u=es[i].val:=by simp[F]
       simp only[gotV,this];exact datV_ok h9
     .unfold execOp;simp only[ho,h2,ekv];rw[Sem.run_bind,s w' f];rfl
    .cases h
   .cases h
  .cases h
 .cases h
end
section
variable{P:tT}{E:TE}{z:Fz}{g:Ga}{nx:Nat}
variable{L:Nat->tO (SV E)}{H:Nat->tO (Obj E)}{ρ:tN->tW}{W w0:tS}{I:tS->Prop}{o:tI}{R:Type}{k:SV E->Up E->tO R}{r:R}{Bs:tL Nat}{F0:Nat->Prop}
structure Li(E:TE) where (t:Ty) (xs:tL (Den E.S t))
def SC.fro(H:Nat->tO (Obj E)):SC E->tO (Li E)
 | .dt (.sl t) xs=>some ⟨t,xs⟩
 | .own id=>match H id with
  | some (.fr t xs)=>some ⟨t,xs⟩
  | _=>none
 | _=>none
theorem SlF.stand{c n:Nat}{A:tO Addr}{rows:tL (tL tW)}{w:tS}(h:SlF z.F c A n rows z.w)(p:z.In w):SlF z.F c A n rows w:=
 ⟨h.1,λs=>by
  obtain⟨b,off,e,m,f⟩:=h.2 s;exact⟨b,off,e,m,λi r hr=>⟨(f i r hr).1,λj u q=>(World.cell?_of_block (w:=z.w) (p b m).2).trans ((f i r hr).2 j u q)⟩⟩⟩
theorem SC.fro_ok{c:SC E}{v:tW}{l:Li E}{w:tS}(x:HR P E Bs F0 w0 w z g H)(h:c.fro H=some l)(hr:RC P E z g c v) :
  ∃A cap rows,v = .slice A l.xs.length cap/\SlF z.F (E.size l.t) A l.xs.length rows z.w/\l.xs.length<=cap/\Rows E z l.t l.xs rows:=by
 unfold SC.fro at h;split at h
 .obtain rfl:=qSj h;obtain⟨A,cap,rows,vs',e,m,q,p,_⟩:=RD.sl_inv (hr:RD E z _ _ [v]);simp at e;exact⟨A,cap,rows,e.1,m,q,p⟩
 .split at h
  .rename_i t xs hi;obtain rfl:=qSj h;obtain⟨lo,h1,rfl⟩:=hr;obtain⟨y,rows,s,u,q,m,f,j⟩:=x.hold _ _ hi;rw[h1]at s;obtain rfl:=qSj s;rw[u]at m f ⊢;rw[q]at m;exact⟨_,_,rows,rfl,m,f,j⟩
  .cases h
 .cases h
def p5_ (P:tT) (E:TE) (L:Nat->tO (SV E)) (H:Nat->tO (Obj E)) (nx:Nat) (T:tA) (x i:tN) {R:Type} (k:SV E->Up E->tO R):tO R:=
 match opS E L x,opS E L i,P.underlying T with
 | some (.v (.one c)),some (.v (.one (.dt (.int _) n))),some (.slice e)=>match c.fro H with
  | some l=>match aK_ P e with
   | some s=>match Nat.beq s (E.size l.t)with
    | true=>Option.bind (ah_ l.xs n) λy=>k (.v (.one (.elf l.t y 0))) none
    | false=>none
   | none=>none
  | none=>match c with
   | .own id=>match H id with
    | some (.row e' t xs foc)=>match aK_ P e with
     | some s=>match Nat.beq s (E.size t)with
      | true=>Option.bind (ah_ xs n) λy=>k (.v (.one (.elo id nx n 0))) (some (id,.row e' t xs ((nx,n,y)::foc)))
      | false=>none
     | none=>none
    | _=>none
   | _=>none
 | _,_,_=>none
theorem Ak_ {T:tA} {x i:tN} (ho:o.op = .indexAddr T x i) (ZQ:g nx=none) (hρ:OpR P E z g L ρ) (hH:HR P E Bs F0 w0 W z g H) (hI:∀w',I w'->Stands z g H W w') (h:p5_ P E L H nx T x i k=some r):Good P E z g nx I H ρ o k r:=by
 unfold p5_ at h;split at h
 .rename_i c ki n e hx hi hu;have hv:=hρ x _ hx;have hn:=SV.int_ok rfl (hρ i _ hi);split at h
  .rename_i l hl;split at h
   .rename_i s hs;split at h
    .rename_i hb;obtain rfl:=qNb hb;obtain⟨y,hy,h⟩:=bind_some h;obtain⟨A,cap,rows,ev,f,ZL,C⟩:=SC.fro_ok hH hl hv;obtain⟨h0,ZY,ZU⟩:=fm_ hy;have ZS:n.toNat<rows.length:=by rw[f.1];exact ZU
     obtain⟨b,off,rfl,hF,ZZ⟩:=f.2 (by omega);refine .mk' h (v:=.pointer (some ⟨b,off+n.toNat*E.size l.t,none⟩)) ⟨b,off+n.toNat*E.size l.t,_,by rw[zl],hF,C n.toNat y _ ZY (qQ ZS),λj u hu=>(ZZ n.toNat _ (qQ ZS)).2 j u hu⟩ λw' J=>?_
     obtain⟨b',off',e',m⟩:=q5_ (P:=P) ho hu hs ev hn (f.stand (hI w' J).1) rfl hy;simp only[qOi,Addr.mk.injEq]at e';obtain⟨rfl,rfl,_⟩:=e';exact m
    .cases h
   .cases h
  .split at h
   .rename_i id _;split at h
    .rename_i e' t xs foc Y;split at h
     .rename_i s hs;split at h
      .rename_i hb;obtain rfl:=qNb hb;obtain⟨y,hy,h⟩:=bind_some h;obtain⟨lo,h1,ev⟩:=hv;obtain⟨h0,ZY,ZU⟩:=fm_ hy;have hh:=hH.hold _ _ Y;obtain⟨l',rows,h2,ZO,hc,ZV,ZT,ZR,C,ZM⟩:=hh;rw[h1]at h2;obtain rfl:=qSj h2;have f:=fl_ (w:=W) (e:=e') (cap:=lo.cap) ⟨ZV,ZT,ZR⟩;obtain⟨b,off,hA,_,_⟩:=f.2 (by omega);have D:g.Le (g.put nx ⟨none,off+n.toNat*lo.c,0,0,b,n⟩):=Ga.le_put ZQ;refine⟨_,.pointer (some ⟨b,off+n.toNat*lo.c,none⟩),_,_,h,D,λi hi=>Ga.put_ne _ _ hi,⟨_,Ga.put_self _ _ _,rfl,by rw[zl]⟩,λw' J=>?_,?_⟩
       .have hw:=(hI w' J).hold hH _ _ Y;obtain⟨l2,rows2,h3,ZK,ZJ,O,V,ZW,_,_⟩:=hw;rw[h1]at h3;obtain rfl:=qSj h3;have G:=fl_ (w:=w') (e:=e') (cap:=lo.cap) ⟨O,V,ZW⟩;rw[hc]at G;obtain⟨b',off',e2,m⟩:=q5_ (P:=P) ho hu hs ev hn G ZO.symm hy;rw[hA]at e2;simp only[qOi,Addr.mk.injEq]at e2;obtain⟨rfl,rfl,_⟩:=e2;rw[hc];exact m
       .refine⟨_,Y,λz w hq=>?_,λq=>?_⟩
        .obtain⟨l3,rows3,h4,ZP,ZN,M,U,ZX,F,Z⟩:=hq;rw[h1]at h4;obtain rfl:=qSj h4;refine⟨_,rows3,D _ _ h1,ZP,ZN,M,U,ZX,F,λp hp=>?_⟩;rcases qV.1 hp with rfl|hp
         .exact⟨hy,_,off,Ga.put_self _ _ _,hA,rfl,rfl⟩
         .obtain⟨h7,lq,o2,h8,h9⟩:=Z p hp;exact⟨h7,lq,o2,D _ _ h8,h9⟩
        .constructor
         .rintro⟨l3,a3,h4,h5,h6⟩;rw[D _ _ h1]at h4;obtain rfl:=qSj h4;exact⟨_,a3,h1,h5,h6⟩
         .rintro⟨l3,a3,h4,h5,h6⟩;exact⟨_,a3,D _ _ h4,h5,h6⟩
      .cases h
     .cases h
    .cases h
   .cases h
 .cases h
def aimA{R:Type}(i:Int):Nat->Nat->(Nat->tO R)->tO R|_,0,_=>none|j,n+1,k=>bif i==(j:Int)then k j else aimA i (j+1) n k
theorem aimA_some{R:Type}{i:Int}{r:R}{k:Nat->tO R}:∀{j n:Nat},aimA i j n k=some r->∃m:Nat,i=(m:Int)/\m<j+n/\k m=some r
 | _,0,h=>by cases h
 | j,n+1,h=>by
  unfold aimA at h;cases f:i==(j:Int)with
  | true=>
   rw[f]at h;exact⟨j,by simpa using f,by omega,h⟩
  | false=>
   rw[f]at h;obtain⟨m,h1,q,p⟩:=aimA_some h;exact⟨m,h1,by omega,p⟩
def SC.atI(n:Int):SC E->tO (SC E)|.ptr id 0=>some (.pix id n)|.elf t x 0=>some (.efx t x n)|_=>none
theorem SC.atI_ok{n:Int}{c f:SC E}{v:tW}(h:c.atI n=some f)(hr:RC P E z g c v):∃b off,v = .pointer (some ⟨b,off,none⟩)/\RC P E z g f (.pointer (some ⟨b,off+n.toNat,none⟩)):=by
 unfold SC.atI at h;split at h
 .obtain rfl:=qSj h;obtain⟨l,h1,rfl⟩:=hr;exact⟨_,_,rfl,l,h1,by rw[qj]⟩
 .obtain rfl:=qSj h;obtain⟨b,q,rr,rfl,j⟩:=hr;exact⟨_,_,rfl,b,q,rr,rfl,j⟩
 .cases h
def rZ_(P:tT)(E:TE)(L:Nat->tO (SV E))(m:Nat)(e:tA)(x i:tN){R:Type}(k:SV E->Up E->tO R):tO R:=
 match i with
 | .const (.int _ (.ofNat j))=>match opS E L x,aK_ P e with
  | some (.v (.one c)),some s=>match Nat.blt j m,c.shift (j*s)with
   | true,some f=>k (.v (.one f)) none
   | _,_=>none
  | _,_=>none
 | i=>match opS E L x,opS E L i,aK_ P e,P.underlying e with
  | some (.v (.one c)),some (.v (.one (.dt (.int _) n))),some 1,some (.int .u32)=>match c.atI n with
   | some f=>Option.bind (cy_ m n) λ_=>k (.v (.one f)) none
   | none=>none
  | some (.v (.one c)),some (.v (.one (.dt (.int _) n))),some s,_=>aimA n 0 m λj=>match c.shift (j*s)with
   | some f=>k (.v (.one f)) none
   | none=>none
  | _,_,_,_=>none
theorem qIndexArr_ok{T:tA}{m:Nat}{e:tA}{x i:tN}(F:o.op = .indexAddr T x i)(D:P.underlying T=some (.array m e))(hρ:OpR P E z g L ρ)(h:rZ_ P E L m e x i k=some r):Good P E z g nx I H ρ o k r:=by
 have goal:∀{c q:SC E} {ki:IntKind} {j s:Nat},opS E L x=some (.v (.one c))->aK_ P e=some s->j<m->ρ i = .int ki (.ofNat j)->c.shift (j*s)=some q->k (.v (.one q)) none=some r->Good P E z g nx I H ρ o k r:=by
  intro c q ki j s hx f G J p h;obtain⟨b,off,y,hr⟩:=SC.shift_ok p (hρ x _ hx);refine .mk' h (v:=.pointer (some ⟨b,off+j*s,none⟩)) hr λw' _=>?_
  exact rT_ (i:=.ofNat j) (u:=()) F D f y J (by unfold cy_;rw[qY ⟨Int.natCast_nonneg j,by simpa using G⟩])
 unfold rZ_ at h;split at h
 .rename_i ki j;split at h
  .rename_i c s hx f;split at h
   .rename_i q C p;exact goal hx f (by simpa using C) (SV.int_ok rfl (hρ (.const (.int ki (.ofNat j))) (.v (.one (.dt (.int ki) (.ofNat j)))) rfl)) p h
   .cases h
  .cases h
 .split at h
  .rename_i c _ ki n hx hi f M;split at h
   .rename_i q p;obtain⟨u,C,h⟩:=bind_some h;obtain⟨b,off,y,hr⟩:=SC.atI_ok p (hρ x _ hx);refine .mk' h (v:=.pointer (some ⟨b,off+n.toNat,none⟩)) hr λw' _=>?_
    have:=rT_ (P:=P) (w:=w') F D f y (SV.int_ok rfl (hρ _ _ hi)) C
    rwa [Nat.mul_one]at this
   .cases h
  .rename_i c _ ki n s hx hi f _;obtain⟨j,rfl,G,h⟩:=aimA_some h;split at h
   .rename_i q p;exact goal hx f (by omega) (SV.int_ok rfl (hρ _ _ hi)) p h
   .cases h
  .cases h
def bndS(E:TE)(L:Nat->tO (SV E)):tO tN->tO (tO Int)
 | none=>some none
 | some x=>match opS E L x with
  | some (.v (.one (.dt (.int _) n)))=>some (some n)
  | _=>none
theorem fP_{lo:tO tN}{l:tO Int}(hρ:OpR P E z g L ρ)(h:bndS E L lo=some l):iX_ ρ lo l:=by
 unfold bndS at h;split at h
 .obtain rfl:=qSj h;trivial
 .split at h
  .rename_i x y ki n hx;obtain rfl:=qSj h;exact⟨ki,SV.int_ok rfl (hρ x _ hx)⟩
  .cases h
def hiD(n:Int):tO Int->Int|some h=>h|none=>n
theorem hiD_eq(n:Int)(h:tO Int):hiD n h=h.getD n:=by cases h<;>rfl
def qSlice (P:tT) (E:TE) (L:Nat->tO (SV E)) (H:Nat->tO (Obj E)) (T:tA) (x:tN) (lo hi:tO tN) {R:Type} (k:SV E->Up E->tO R):tO R:=
 match opS E L x,bndS E L lo,bndS E L hi,P.underlying T with
 | some (.v (.one (.dt .str s))),some l,some h,some .string=>Option.bind (aA_ s (hiD 0 l) (hiD (s.length:Int) h)) λy=>k (.v (.one (.dt .str y))) none
 | some (.v (.one c)),some l,some h,some (.slice e)=>match c.fro H with
  | some li=>match aK_ P e with
   | some s=>match Nat.beq s (E.size li.t)with
    | true=>Option.bind (aA_ li.xs (hiD 0 l) (hiD (li.xs.length:Int) h)) λy=>k (.v (.one (.dt (.sl li.t) y))) none
    | false=>none
   | none=>none
  | none=>match c,l,h with
   | .own id,none,some n=>match H id with
    | some (.row _ _ xs _)=>match aK_ P e with
     | some _=>Option.bind (aA_ xs 0 n) λ_=>k (.v (.one (.pre id n))) none
     | none=>none
    | _=>none
   | .own id,some n,none=>match H id with
    | some (.row _ t xs _)=>match aK_ P e with
     | some s=>match Nat.beq s (E.size t)with
      | true=>Option.bind (aA_ xs n (xs.length:Int)) λ_=>k (.v (.one (.suf id n))) none
      | false=>none
     | none=>none
    | _=>none
   | .nils,none,some (.ofNat 0)=>match aK_ P e with
    | some _=>k (.v (.one .nils)) none
    | none=>none
   | _,_,_=>none
 | _,_,_,_=>none
theorem fp_{t:Ty}{xs:tL (Den E.S t)}{rows:tL (tL tW)}(h:Rows E z t xs rows)(a b:Nat):Rows E z t ((xs.take b).drop a) ((rows.take b).drop a):=by
 intro i x r hx hr;rw[qo,qx]at hx hr;split at hx
 .rename_i f;rw[qY f]at hr;exact h _ x r hx hr
 .cases hx
theorem qSlice_ok{T:tA}{x:tN}{lo hi:tO tN}(U:o.op = .slice T x lo hi none)(hρ:OpR P E z g L ρ)(hH:HR P E Bs F0 w0 W z g H)(h:qSlice P E L H T x lo hi k=some r):Good P E z g nx I H ρ o k r:=by
 unfold qSlice at h;split at h
 .rename_i s l G hx M f J;obtain⟨y,q,h⟩:=bind_some h;rw[hiD_eq,hiD_eq]at q;exact .mk' h (v:=S y) (.str .nil) λw' _=>run_str_sub U J (SV.str_ok rfl (hρ x _ hx)) (fP_ hρ M) (fP_ hρ f) q
 .rename_i c l G e hx M f J;have hv:=hρ x _ hx;split at h
  .rename_i li ZY;split at h
   .rename_i s u;split at h
    .rename_i hb;obtain rfl:=qNb hb;obtain⟨y,q,h⟩:=bind_some h;rw[hiD_eq,hiD_eq]at q;obtain⟨A,cap,rows,ev,ZZ,p,C⟩:=SC.fro_ok hH ZY hv;obtain⟨h0,h1,h2,rfl⟩:=lf_ q;have V:=SlF.cut ZZ p (lo:=(l.getD 0).toNat) (hi:=(G.getD li.xs.length).toNat) (by omega) (by omega);have m:((li.xs.take (G.getD (li.xs.length:Int)).toNat).drop (l.getD 0).toNat).length=(G.getD (li.xs.length:Int)).toNat-(l.getD 0).toNat:=by
      simp;omega
     refine .mk' h (v:=.slice (cutA A (E.size li.t) (l.getD 0).toNat cap) ((G.getD (li.xs.length:Int)).toNat-(l.getD 0).toNat) (cap-(l.getD 0).toNat)) ?_ λw' _=>ti_ U J u ev (fP_ hρ M) (fP_ hρ f) h0 h1 (by omega)
     have O:SlF z.F (E.size li.t) (cutA A (E.size li.t) (l.getD 0).toNat cap) ((li.xs.take (G.getD (li.xs.length:Int)).toNat).drop (l.getD 0).toNat).length ((rows.take (G.getD (li.xs.length:Int)).toNat).drop (l.getD 0).toNat) z.w:=by rw[m];exact V
     have:=RD.sl (E:=E) O (cap:=cap-(l.getD 0).toNat) (by rw[m];omega) (fp_ C _ _) (.nil (h:=()));rw[m]at this;exact this
    .cases h
   .cases h
  .split at h
   .rename_i id n _;split at h
    .rename_i e' t xs foc D;split at h
     .rename_i s u;obtain⟨y,q,h⟩:=bind_some h;obtain⟨h0,h1,h2,_⟩:=lf_ q;obtain⟨lo',Z,ev⟩:=hv;obtain⟨l',rows,Y,hn,hc,j,_⟩:=hH.hold _ _ D;rw[Z]at Y;obtain rfl:=qSj Y;have p:=(Own.cap_le j).1;refine .mk' h (v:=.slice lo'.A n.toNat lo'.cap) ⟨lo',Z,by rw[hn];omega,rfl⟩ λw' _=>?_
      have:=ti_ (P:=P) (w:=w') (c:=s) U J u ev (fP_ hρ M) (fP_ hρ f) (qD 0) (show(0:Int)<=(some n).getD _ from h1) (show(some n).getD _<=_ from by simp only[zf];omega);simp only[Option.getD_none,zf,Int.toNat_zero,Nat.sub_zero,cutA]at this;rw[this];split
      .rename_i hz;cases hA:lo'.A<;>simp_all
      .cases hA:lo'.A with
       | none=>rfl
       | some a=>simp[Addr.add]
     .cases h
    .cases h
   .rename_i id n _;split at h
    .rename_i e' t xs foc D;split at h
     .rename_i s u;split at h
      .rename_i hb;obtain rfl:=qNb hb;obtain⟨y,q,h⟩:=bind_some h;obtain⟨h0,h1,h2,_⟩:=lf_ q;obtain⟨lo',Z,ev⟩:=hv;obtain⟨l',rows,Y,hn,hc,j,_⟩:=hH.hold _ _ D;rw[Z]at Y;obtain rfl:=qSj Y;have p:=(Own.cap_le j).1;refine .mk' h (v:=.slice (cutA lo'.A lo'.c n.toNat lo'.cap) (lo'.n-n.toNat) (lo'.cap-n.toNat)) ⟨lo',Z,by omega,rfl⟩ λw' _=>?_
       have:=ti_ (P:=P) (w:=w') (c:=E.size t) U J u ev (fP_ hρ M) (fP_ hρ f) (show(0:Int)<=(some n).getD 0 from h0) (show(some n).getD 0<=(none:tO Int).getD _ from by simp only[zf,Option.getD_none];omega) (show(none:tO Int).getD _<=_ from by simp only[Option.getD_none];omega);simp only[Option.getD_none,zf,qTn]at this;rw[this,hc]
      .cases h
     .cases h
    .cases h
   .split at h
    .rename_i s u;have ev:ρ x = .slice none 0 0:=hv;refine .mk' h (v:=.slice none 0 0) rfl λw' _=>?_
     exact ti_ (P:=P) (w:=w') (c:=s) U J u ev (fP_ hρ M) (fP_ hρ f) (qD 0) (qD 0) (qD 0)
    .cases h
   .cases h
 .cases h
def SC.len?(H:Nat->tO (Obj E)):SC E->tO Int
 | .dt (.sl _) xs=>some (xs.length:Int)
 | .own id=>match H id with
  | some (.row _ _ xs _)=>some (xs.length:Int)
  | some (.fr _ xs)=>some (xs.length:Int)
  | _=>none
 | .nils=>some 0
 | _=>none
theorem SC.len_ok{c:SC E}{v:tW}{n:Int}{w:tS}(p:HR P E Bs F0 w0 w z g H)(h:c.len? H=some n)(hr:RC P E z g c v):∃A m cap,v = .slice A m cap/\n=(m:Int):=by
 unfold SC.len? at h;split at h
 .obtain rfl:=qSj h;obtain⟨A,cap,rows,vs',e,_⟩:=RD.sl_inv (hr:RD E z _ _ [v]);simp at e;exact⟨A,_,cap,e.1,rfl⟩
 .split at h
  .rename_i hi;obtain rfl:=qSj h;obtain⟨lo,h1,rfl⟩:=hr;obtain⟨q,rows,f,j,_⟩:=p.hold _ _ hi;rw[h1]at f;obtain rfl:=qSj f;exact⟨_,_,_,rfl,by rw[j]⟩
  .rename_i hi;obtain rfl:=qSj h;obtain⟨lo,h1,rfl⟩:=hr;obtain⟨q,rows,f,j,_⟩:=p.hold _ _ hi;rw[h1]at f;obtain rfl:=qSj f;exact⟨_,_,_,rfl,by rw[j]⟩
  .cases h
 .obtain rfl:=qSj h;simp only[RC]at hr;subst hr;exact⟨none,0,0,rfl,rfl⟩
 .cases h
theorem jg_{b:Builtin}{xs:Array tN}{ats:Array tA}(f:o.op = .call { callee:=.builtin b,args:=xs,argTypes:=ats }):∃cs,execOp ρ o=builtin b ats o.type cs (xs.map ρ):=by
 obtain⟨dst,op,ty',pos,after,guard⟩:=o;simp only at f;subst f;exact⟨_,BigFrame.execOp_builtin ρ dst b xs ats ty' pos after guard⟩
def qLen(P:tT)(E:TE)(L:Nat->tO (SV E))(H:Nat->tO (Obj E))(T:tA)(x:tN){R:Type}(k:SV E->Up E->tO R):tO R:=
 match opS E L x,P.underlying T with
 | some (.v (.one (.dt .str s))),some .string=>k (.v (.one (.dt (.int .i64) (s.length:Int)))) none
 | some (.v (.one c)),some (.slice _)=>match c.len? H with
  | some n=>k (.v (.one (.dt (.int .i64) n))) none
  | none=>none
 | _,_=>none
theorem qLen_ok{T:tA}{x:tN}(q:o.op = .call { callee:=.builtin .len,args:=#[x],argTypes:=#[T] })(hρ:OpR P E z g L ρ)(y:HR P E Bs F0 w0 W z g H)(h:qLen P E L H T x k=some r):Good P E z g nx I H ρ o k r:=by
 unfold qLen at h;obtain⟨cs,f⟩:=jg_ (ρ:=ρ) q;rw[BigFrame.builtin_len]at f;split at h
 .rename_i s hx j;have p:=SV.str_ok rfl (hρ x _ hx);refine .mk' h (v:=.int .i64 (s.length:Int)) (.int .nil) λw' _=>?_
  rw[f];simp[p,S,Builtin.len_,run_underlying j,size_mk,goInt]
 .rename_i c e hx j;split at h
  .rename_i n u;obtain⟨A,m,cap,ev,rfl⟩:=SC.len_ok y u (hρ x _ hx);refine .mk' h (v:=.int .i64 (m:Int)) (.int .nil) λw' _=>?_
   rw[f];simp[ev,Builtin.len_,run_underlying j,goInt]
  .cases h
 .cases h
def l2_(P:tT)(E:TE)(T:tA):tO (tL (SC E)):=match zeroOf P T with|some zs=>kg_ E zs|none=>none
def kj_(l:tL (SC E))(off:Nat)(cs:tL (SC E)):tL (SC E):=l.take off++cs++l.drop (off+cs.length)
theorem l3_{l cs:tL (SC E)}{vs us:tL tW}(off:Nat)(h:All2 (RC P E z g) l vs)(f:All2 (RC P E z g) cs us):All2 (RC P E z g) (kj_ l off cs) (splice vs off us):=by
 unfold kj_ splice;rw[f.len];exact((h.take off).append f).append (h.drop _)
def buildC (P:tT) (E:TE) (L:Nat->tO (SV E)) (fs:Array Field):tL (Nat×tN)->tL (SC E)->tO (tL (SC E))
 | [],l=>some l
 | (i,x)::rest,l=>match fs[i]?,opS E L x with
  | some q,some s=>match aK_ P q.type,s.cells? with
   | some n,some cs=>match Nat.beq n cs.length&&Nat.ble (q.offset+cs.length) l.length with
    | true=>buildC P E L fs rest (kj_ l q.offset cs)
    | false=>none
   | _,_=>none
  | _,_=>none
theorem om_:∀(us:tL tW) (k off:Nat) (cells:Array tW),off+k+us.length<=cells.size ->
  ((us.zipIdx k).foldl (λcs (p:tW×Nat)=>cs.setIfInBounds (off+p.2) p.1) cells).toList=splice cells.toList (off+k) us
 | [],k,off,cells,_=>by simp[splice]
 | u::us,k,off,cells,h=>by
  simp only[List.zipIdx_cons,List.foldl_cons];have m:(u::us).length=us.length+1:=rfl;rw[om_ us (k+1) off _ (by simp;omega)];simp only[splice,Array.toList_setIfInBounds];have f:cells.toList.length=cells.size:=qO
  apply zG;intro j;simp only[List.getElem?_append,qx,qo,zr,qX,qLa,List.length_set,qLc,List.getElem?_cons]
  repeat' split
  all_goals first
   | rfl
   | omega
   | (congr 1;omega)
   | (exfalso;omega)
   | (rename_i a b;simp_all;done)
   | skip
theorem vP_{fs:Array Field}{places:Array (Nat×Nat)}(y:∀(i:Nat) (q:Field) (n:Nat),fs[i]? = some q->aK_ P q.type=some n->places[i]? = some (q.offset,n))(hρ:OpR P E z g L ρ) :
  ∀{ps:tL (Nat×tN)} {l m:tL (SC E)} {cells:Array tW},buildC P E L fs ps l=some m->All2 (RC P E z g) l cells.toList ->
   ∃cells',Instr.fill (λi=>places[i]?) cells (ps.map λp=>(p.1,ρ p.2))=some cells'/\All2 (RC P E z g) m cells'.toList
 | [],l,m,cells,h,hr=>by
  simp only[buildC,qOi]at h;subst h;exact⟨cells,rfl,hr⟩
 | (i, x)::rest,l,m,cells,h,hr=>by
  simp only[buildC]at h;split at h
  .rename_i q s J G;split at h
   .rename_i n cs M U;split at h
    .rename_i u;simp only[qAn]at u;have Y:=qNb u.1;have V:=qq u.2;have j:=SV.cells_ok U (hρ x _ G);have C:cs.length=(ρ x).cells.size:=by rw[j.len,qO]
     have O:l.length=cells.size:=by rw[hr.len,qO]
     have F:(ρ x).cells.size=n:=by omega
     have D:q.offset+(ρ x).cells.size<=cells.size:=by omega
     have f:=vP_ y hρ h (cells:=((ρ x).cells.zipIdx.foldl (λcs (p:tW×Nat)=>cs.setIfInBounds (q.offset+p.2) p.1) cells)) (by
      have e:(ρ x).cells.zipIdx.foldl (λcs (p:tW×Nat)=>cs.setIfInBounds (q.offset+p.2) p.1) cells=(((ρ x).cells.toList.zipIdx 0).foldl (λcs (p:tW×Nat)=>cs.setIfInBounds (q.offset+p.2) p.1) cells):=by
       rw[←Array.foldl_toList,Array.toList_zipIdx]
      rw[e,om_ _ 0 q.offset cells (by rw[qO];omega),zl];exact l3_ _ hr j)
     obtain⟨cells',h1,Z⟩:=f;refine⟨cells',?_,Z⟩;simp only[zY,Instr.fill,y i q n J M];rw[qG (by simp;omega)];exact h1
    .cases h
   .cases h
  .cases h
def sizesB(P:tT):tL Field->tV
 | []=>true
 | q::fs=>(match aK_ P q.type with|some _=>true|none=>false)&&sizesB P fs
def placesOf(P:tT)(fs:tL Field):tL (Nat×Nat):=fs.map λq=>(q.offset,(aK_ P q.type).getD 0)
theorem place_run{q:Field}{n:Nat}(f:aK_ P q.type=some n)(w:tS):(Prod.mk q.offset <$> sizeOf q.type).run P w = .ok (q.offset,n) w:=by
 cases hi:P.info? q.type with
 | none=>simp[aK_,hi]at f
 | some inf=>
  have:inf.size=n:=by simpa[aK_,hi]using f
  simp[sizeOf,typeInfo,hi,this]
theorem vR_(w:tS):∀{fs:tL Field},sizesB P fs=true->(fs.mapM λf=>Prod.mk f.offset <$> sizeOf f.type).run P w = .ok (placesOf P fs) w
 | [],_=>rfl
 | q::fs,h=>by
  simp only[sizesB,qAn]at h;have h1:=vR_ w h.2;cases j:aK_ P q.type with
  | none=>rw[j]at h;simp at h
  | some n=>
   have m:=place_run (P:=P) j w;rw[List.mapM_cons,Sem.run_bind,m];simp only[Result.andThen_ok,Sem.run_bind,h1,Sem.run_pure];simp[placesOf,j]
theorem places_get{fs:Array Field}(i:Nat)(q:Field)(n:Nat)(f:fs[i]? = some q)(h:aK_ P q.type=some n):(placesOf P fs.toList).toArray[i]? = some (q.offset,n):=by
 simp[placesOf,f,h]
def o5_ (E:TE) (L:Nat->tO (SV E)) (s:Nat):tL (Nat×tN)->tL (SC E)->tO (tL (SC E))
 | [],l=>some l
 | (i,x)::rest,l=>match opS E L x with
  | some v=>match v.cells? with
   | some cs=>match Nat.beq s cs.length&&Nat.ble (i*s+cs.length) l.length with
    | true=>o5_ E L s rest (kj_ l (i*s) cs)
    | false=>none
   | none=>none
  | none=>none
theorem on_{s:Nat}(hρ:OpR P E z g L ρ):∀{ps:tL (Nat×tN)} {l m:tL (SC E)} {cells:Array tW},o5_ E L s ps l=some m->All2 (RC P E z g) l cells.toList ->
   ∃cells',Instr.fill (λi=>some (i*s,s)) cells (ps.map λp=>(p.1,ρ p.2))=some cells'/\All2 (RC P E z g) m cells'.toList
 | [],l,m,cells,h,hr=>by
  simp only[o5_,qOi]at h;subst h;exact⟨cells,rfl,hr⟩
 | (i, x)::rest,l,m,cells,h,hr=>by
  simp only[o5_]at h;split at h
  .rename_i v y;split at h
   .rename_i cs D;split at h
    .rename_i q;simp only[qAn]at q;have G:=qNb q.1;have F:=qq q.2;have j:=SV.cells_ok D (hρ x _ y);have u:cs.length=(ρ x).cells.size:=by rw[j.len,qO]
     have C:l.length=cells.size:=by rw[hr.len,qO]
     have f:=on_ hρ h (cells:=((ρ x).cells.zipIdx.foldl (λcs (p:tW×Nat)=>cs.setIfInBounds (i*s+p.2) p.1) cells)) (by
      have e:(ρ x).cells.zipIdx.foldl (λcs (p:tW×Nat)=>cs.setIfInBounds (i*s+p.2) p.1) cells=(((ρ x).cells.toList.zipIdx 0).foldl (λcs (p:tW×Nat)=>cs.setIfInBounds (i*s+p.2) p.1) cells):=by
       rw[←Array.foldl_toList,Array.toList_zipIdx]
      rw[e,om_ _ 0 (i*s) cells (by rw[qO];omega),zl];exact l3_ _ hr j)
     obtain⟨cells',h1,J⟩:=f;refine⟨cells',?_,J⟩;simp only[zY,Instr.fill];rw[qG (by simp;omega)];exact h1
    .cases h
   .cases h
  .cases h
def r1_(P:tT)(E:TE)(L:Nat->tO (SV E))(T e:tA)(ps:Array (Nat×tN)){R:Type}(k:SV E->Up E->tO R):tO R:=
 match l2_ P E T,aK_ P e with
 | some l,some s=>match o5_ E L s ps.toList l with
  | some f=>k (.v (.agg f)) none
  | none=>none
 | _,_=>none
def qBuild(P:tT)(E:TE)(L:Nat->tO (SV E))(T:tA)(ps:Array (Nat×tN)){R:Type}(k:SV E->Up E->tO R):tO R:=
 match P.underlying T with
 | some (.struct fs)=>match l2_ P E T with
  | some l=>match sizesB P fs.toList,buildC P E L fs ps.toList l with
   | true,some f=>k (.v (.agg f)) none
   | _,_=>none
  | none=>none
 | some (.array _ e)=>r1_ P E L T e ps k
 | _=>none
theorem qBuildArr_ok{T e:tA}{m:Nat}{ps:Array (Nat×tN)}(F:o.op = .build T ps)(D:P.underlying T=some (.array m e))(hρ:OpR P E z g L ρ)(h:r1_ P E L T e ps k=some r):Good P E z g nx I H ρ o k r:=by
 unfold r1_ at h;split at h
 .rename_i l s j x;split at h
  .rename_i J G;unfold l2_ at j;split at j
   .rename_i zs f;have q:All2 (RC P E z g) l zs:=gR_ j;obtain⟨cells',C,hr⟩:=on_ hρ G (cells:=zs.toArray) q;refine .mk' h (v:=.agg cells') ⟨cells'.toList,rfl,hr⟩ λw' _=>?_
    unfold zeroOf at f;split at f
    .rename_i inf hi;split at f
     .rename_i zv p;obtain rfl:=qSj f;unfold aK_ at x;cases y:P.info? e with
      | none=>simp[y]at x
      | some inf2=>
       have u:inf2.size=s:=by simpa[y]using x
       unfold execOp;rw[F];simp only[Instr.build];simp[Sem.run_bind,zeroValue,typeInfo,hi,p,run_underlying D,sizeOf,y,u];simp only[qw]at C;rw[C];rfl
     .cases f
    .cases f
   .cases j
  .cases h
 .cases h
theorem qBuild_ok {T:tA} {ps:Array (Nat×tN)} (C:o.op = .build T ps) (hρ:OpR P E z g L ρ) (h:qBuild P E L T ps k=some r):Good P E z g nx I H ρ o k r:=by
 unfold qBuild at h;split at h
 .rename_i fs u;split at h
  case h_2=>cases h
  rename_i l p;split at h
  .rename_i M x F;unfold l2_ at p;split at p
   .rename_i zs j;have s:All2 (RC P E z g) l zs:=gR_ p;obtain⟨cells',D,hr⟩:=vP_ (places:=(placesOf P fs.toList).toArray) places_get hρ F (cells:=zs.toArray) s;refine .mk' h (v:=.agg cells') ⟨cells'.toList,rfl,hr⟩ λw' _=>?_
    have y:=vR_ (P:=P) w' x;unfold zeroOf at j;split at j
    .rename_i inf hi;split at j
     .rename_i zv q;obtain rfl:=qSj j;have J:(fs.mapM λf=>Prod.mk f.offset <$> sizeOf f.type).run P w' = .ok (placesOf P fs.toList).toArray w':=by
       have G:(fs.mapM λf=>Prod.mk f.offset <$> sizeOf f.type:Sem (Array (Nat×Nat)))=(List.toArray <$> (fs.toList.mapM λf=>Prod.mk f.offset <$> sizeOf f.type)):=by
        rw[←List.mapM_toArray]
       rw[G,map_eq_pure_bind,Sem.run_bind,y];rfl
      unfold execOp;rw[C];simp only[Instr.build];simp[Sem.run_bind,zeroValue,typeInfo,hi,q,run_underlying u,J];simp only[qw,jH]at D;rw[D];rfl
     .cases j
    .cases j
   .cases p
  .cases h
 .rename_i m e u;exact qBuildArr_ok C u hρ h
 .cases h
def capsC(E:TE)(L:Nat->tO (SV E)):tL tN->tO (tL Nat)
 | []=>some []
 | x::l=>match opS E L x with
  | some (.v (.one (.ptr id 0)))=>match capsC E L l with
   | some ids=>some (id::ids)
   | none=>none
  | _=>none
theorem capsC_ok(hρ:OpR P E z g L ρ):∀{xs:tL tN} {ids:tL Nat},capsC E L xs=some ids->All2 (λid u=>∃l,g id=some l/\u=Value.pointer (some ⟨l.b,0,none⟩)) ids (xs.map ρ)
 | [],ids,h=>by simp only[capsC,qOi]at h;subst h;exact .nil
 | x::l,ids,h=>by
  simp only[capsC]at h;split at h
  .rename_i id hx;split at h
   .rename_i ids' f;obtain rfl:=qSj h;exact .cons (hρ x _ hx) (capsC_ok hρ f)
   .cases h
  .cases h
def nF_(E:TE)(L:Nat->tO (SV E))(f:Fn)(first caps:Array tN){R:Type}(k:SV E->Up E->tO R):tO R:=match f,first.toList,capsC E L caps.toList with|.func f,[],some ids=>k (.v (.one (.clo f ids))) none|_,_,_=>none
theorem r2_{f:Fn}{first caps:Array tN}(p:o.op = .makeFunc f first caps)(hρ:OpR P E z g L ρ)(h:nF_ E L f first caps k=some r):Good P E z g nx I H ρ o k r:=by
 unfold nF_ at h;split at h
 .rename_i f ids m q;have j:=capsC_ok hρ q;refine .mk' h (v:=.func (.func f) #[] (caps.toList.map ρ).toArray) ⟨_,rfl,j⟩ λw' _=>?_
  unfold execOp;rw[p];have:first = #[]:=by cases first;simp at m;subst m;rfl
  subst this;simp only[Instr.makeFunc,Sem.run_bind,Sem.run_pure,Result.andThen_ok];rw[show caps.map ρ=(caps.toList.map ρ).toArray by rw[←jI]];simp
 .cases h
def qMkI(P:tT)(E:TE)(T:tA){R:Type}(k:SV E->Up E->tO R):tO R:=match P.underlying T with|none=>none|some (.interface _)=>none|some _=>k (.v (.one .any)) none
theorem qMkI_ok{T:tA}{x:tN}(j:o.op = .makeInterface T x)(h:qMkI P E T k=some r):Good P E z g nx I H ρ o k r:=by
 unfold qMkI at h;split at h
 .cases h
 .cases h
 .rename_i u hi f;refine .mk' h (v:=.iface T (ρ x)) (show jd_ (.iface T (ρ x))=true from rfl) λw' _=>?_
  unfold execOp;rw[j];simp only[Instr.makeInterface,Sem.run_bind,run_underlying f,Result.andThen_ok];cases u<;>first|rfl|exact absurd rfl (hi _)
def qCap(P:tT)(E:TE)(L:Nat->tO (SV E))(T:tA)(x:tN){R:Type}(k:SV E->Up E->tO R):tO R:=match opS E L x,P.underlying T with|some (.v (.one .nils)),some (.slice _)=>k (.v (.one (.dt (.int .i64) 0))) none|_,_=>none
theorem qCap_ok{T:tA}{x:tN}(m:o.op = .call { callee:=.builtin .cap,args:=#[x],argTypes:=#[T] })(hρ:OpR P E z g L ρ)(h:qCap P E L T x k=some r):Good P E z g nx I H ρ o k r:=by
 unfold qCap at h;obtain⟨cs,f⟩:=jg_ (ρ:=ρ) m;rw[BigFrame.builtin_cap]at f;split at h
 .rename_i e hx j;have ev:ρ x = .slice none 0 0:=hρ x _ hx;refine .mk' h (v:=.int .i64 0) (.int .nil) λw' _=>?_
  rw[f];simp[ev,Builtin.cap_,run_underlying j,goInt]
 .cases h
theorem p6_{f:IntKind}:∀{xs:tL Int} {rows:tL (tL tW)},Rows E z (.int f) xs rows->rows.length=xs.length->rows=xs.map λb=>[Value.int f b]:=by
 intro xs rows h m
 apply zG;intro i;rw[qt];by_cases hi:i<xs.length
 .rw[qQ hi,qQ (by omega)];have:=h i xs[i] _ (qQ hi) (qQ (by omega:i<rows.length));obtain⟨vs',e,j⟩:=RD.int_inv (this:RD E z [.int f] (xs[i],()) _);rw[j.nil_inv]at e;rw[e];rfl
 .rw[qe (by omega),qe (by omega)];rfl
def SC.bytes(H:Nat->tO (Obj E)):SC E->tO (tL Int)
 | .dt (.sl (.int .u8)) xs=>some xs
 | .own id=>match H id with
  | some (.fr (.int .u8) xs)=>some xs
  | some (.row _ (.int .u8) xs _)=>some xs
  | _=>none
 | .nils=>some []
 | _=>none
theorem SC.bytes_ok{c:SC E}{v:tW}{xs:tL Int}{w':tS}(M:HR P E Bs F0 w0 W z g H)(h:c.bytes H=some xs)(hr:RC P E z g c v)(s:Stands z g H W w') :
  ∃A n cap F,v = .slice A n cap/\SlF F 1 A n (xs.map λb=>[Value.int .u8 b]) w':=by
 unfold SC.bytes at h;split at h
 .rename_i C;obtain rfl:=qSj h;obtain⟨A,cap,rows,ev,f,y,j⟩:=SC.fro_ok (c:=.dt (.sl (.int .u8)) C) M rfl hr;rw[p6_ j f.1]at f;exact⟨A,_,cap,_,ev,f.stand s.1⟩
 .rename_i id;split at h
  .rename_i C hi;obtain rfl:=qSj h;obtain⟨A,cap,rows,ev,f,y,j⟩:=SC.fro_ok (c:=.own id) (l:=⟨.int .u8,C⟩) M (by simp only[SC.fro,hi]) hr;rw[p6_ j f.1]at f;exact⟨A,_,cap,_,ev,f.stand s.1⟩
  .rename_i e C foc hi;obtain rfl:=qSj h;obtain⟨l,h1,rfl⟩:=hr;obtain⟨l2,rows2,O,D,G,u,p,x,q,_⟩:=s.hold M _ _ hi;rw[h1]at O;obtain rfl:=qSj O;have m:=fl_ (w:=w') (e:=e) (cap:=l.cap) ⟨u,p,x⟩;rw[p6_ q (by rw[p,D])]at m;have J:l.c=1:=G;rw[J]at m;exact⟨_,_,_,_,rfl,m⟩
  .cases h
 .obtain rfl:=qSj h;simp only[RC]at hr;subst hr;exact⟨none,0,0,λ_=>False,rfl,SlF.nil _ _ _ _⟩
 .cases h
def qConv(P:tT)(E:TE)(L:Nat->tO (SV E))(H:Nat->tO (Obj E))(o:tI)(src dst:tA)(x:tN){R:Type}(k:SV E->Up E->tO R):tO R:=
 match opS E L x,P.underlying dst with
 | some (.v (.one (.dt (.int _) _))),some (.int _)=>l0_ P E L o k
 | some (.v (.one (.dt .str s))),some .string=>match P.underlying src with
  | some .string=>k (.v (.one (.dt .str s))) none
  | _=>none
 | some (.v (.one c)),some .string=>match P.underlying src with
  | some (.slice e)=>match P.underlying e,c.bytes H with
   | some (.int .u8),some xs=>k (.v (.one (.dt .str (bytesS xs)))) none
   | _,_=>none
  | _=>none
 | _,_=>none
theorem qConv_ok{src dst:tA}{x:tN}(q:o.op = .convert src dst x)(hρ:OpR P E z g L ρ)(D:HR P E Bs F0 w0 W z g H)(C:∀w',I w'->Stands z g H W w')(h:qConv P E L H o src dst x k=some r):Good P E z g nx I H ρ o k r:=by
 unfold qConv at h;split at h
 .exact iJ_ hρ h
 .rename_i s hx p;split at h
  .rename_i m;have e:=SV.str_ok rfl (hρ x _ hx);refine .mk' h (v:=S s) (.str .nil) λw' _=>?_
   unfold execOp;rw[q];simp[e,S,convert,run_underlying m,run_underlying p]
  .cases h
 .rename_i c hx p;split at h
  .rename_i e m;split at h
   .rename_i xs u y;refine .mk' h (v:=S (bytesS xs)) (.str .nil) λw' f=>?_
    obtain⟨A,n,cap,F,ev,j⟩:=SC.bytes_ok D y (hρ x _ hx) (C w' f);exact Ah_ q m u p ev j
   .cases h
  .cases h
 .cases h
noncomputable def qOp(P:tT)(E:TE)(eqs:tL (Nat×Nat))(L:Nat->tO (SV E))(H:Nat->tO (Obj E))(nx:Nat)(o:tI){R:Type}(k:SV E->Up E->tO R):tO R:=
 match o.op with
 | .move x=>qMove E L x k
 | .assign x=>qMove E L x k
 | .nilCheck x=>qNil E L x k
 | .extract x i=>p3_ E L x i k
 | .field T x f=>qField P E L T x f k
 | .load T x=>qLoad P E L H T x k
 | .fieldAddr T x f=>l1_ P E L T x f k
 | .unOp _ _ _=>l0_ P E L o k
 | .binOp op T x y _=>qBin P E L H eqs o op T x y k
 | .index T x i=>qIndex P E L T x i k
 | .indexAddr T x i=>match P.underlying T with
  | some (.array m e)=>rZ_ P E L m e x i k
  | _=>p5_ P E L H nx T x i k
 | .slice T x lo hi none=>qSlice P E L H T x lo hi k
 | .convert src dst x=>qConv P E L H o src dst x k
 | .lookup T m x false=>qLookup P E eqs L H T m x k
 | .build T ps=>qBuild P E L T ps k
 | .makeFunc f first caps=>nF_ E L f first caps k
 | .call { callee:=.builtin .len,args:=⟨[x]⟩,argTypes:=⟨[T]⟩ }=>qLen P E L H T x k
 | .makeInterface T _=>qMkI P E T k
 | .call { callee:=.builtin .cap,args:=⟨[x]⟩,argTypes:=⟨[T]⟩ }=>qCap P E L T x k
 | .call { callee:=.builtin .max,args:=_,argTypes:=_ }=>l0_ P E L o k
 | .call { callee:=.builtin .min,args:=_,argTypes:=_ }=>l0_ P E L o k
 | _=>none
theorem qOp_ok{eqs:tL (Nat×Nat)}(s:∀p∈eqs,aG_ P E p.1 p.2)(C:g nx=none)(hρ:OpR P E z g L ρ)(q:HR P E Bs F0 w0 W z g H)(u:∀w',I w'->Stands z g H W w')(h:qOp P E eqs L H nx o k=some r):Good P E z g nx I H ρ o k r:=by
 unfold qOp at h;split at h
 case h_1 x j=>exact p2_ (.inl j) hρ h
 case h_2 x j=>exact p2_ (.inr j) hρ h
 case h_3 x j=>exact qNil_ok j hρ h
 case h_4 x i j=>exact tZ_ j hρ h
 case h_5 T x f j=>exact qField_ok j hρ h
 case h_6 T x j=>exact qLoad_ok j hρ q u h
 case h_7 T x f j=>exact q6_ j hρ h
 case h_8=>exact iJ_ hρ h
 case h_9 op T x y yt j=>exact qBin_ok j s hρ q h
 case h_10 T x i j=>exact qIndex_ok j hρ h
 case h_11 T x i j=>
  split at h
  .rename_i m e D;exact qIndexArr_ok j D hρ h
  .exact Ak_ j C hρ q u h
 case h_12 T x lo hi j=>exact qSlice_ok j hρ q h
 case h_13 src dst x j=>exact qConv_ok j hρ q u h
 case h_14 T m x j=>exact qLookup_ok j s hρ q u h
 case h_15 T ps j=>exact qBuild_ok j hρ h
 case h_16 f first caps j=>exact r2_ j hρ h
 case h_17 x T j=>exact qLen_ok j hρ q h
 case h_18 T x j=>exact qMkI_ok j h
 case h_19 x T j=>exact qCap_ok j hρ h
 case h_20=>exact iJ_ hρ h
 case h_21=>exact iJ_ hρ h
 case h_22=>cases h
end
section
variable{P:tT}{E:TE}{z:Fz}{g:Ga}{nx:Nat}
variable{L:Nat->tO (SV E)}{H:Nat->tO (Obj E)}{ρ:tN->tW}{w w0:tS}{o:tI}{R:Type}{r:R}{Bs:tL Nat}{F0:Nat->Prop}
abbrev Chs(E:TE):=tL (Nat×tO (Obj E))
def upH(H:Nat->tO (Obj E)):Chs E->Nat->tO (Obj E)
 | [],j=>H j
 | (i,o)::l,j=>match Nat.beq j i with
  | true=>o
  | false=>upH H l j
theorem aJ_(H:Nat->tO (Obj E)):∀(l m:Chs E),upH (upH H m) l=upH H (l++m)
 | [],m=>rfl
 | (i,o)::l,m=>by
  funext j
  simp only[upH,qc];rw[aJ_ H l m]
theorem aP_{i:Nat}{p q:Obj E}{j:Nat}(h:upH H [(i,some p)] j=some q):(j=i/\q=p)\/(j≠i/\H j=some q):=by
 simp only[upH]at h;split at h
 .rename_i f;exact .inl ⟨qNb f,(qSj h).symm⟩
 .rename_i f;exact .inr ⟨bk_ f,h⟩
theorem tn_{i m:Nat}{p q:Obj E}{j:Nat}(h:upH H [(i,some p),(m,none)] j=some q):(j=i/\q=p)\/(j≠i/\j≠m/\H j=some q):=by
 simp only[upH]at h;split at h
 .rename_i s;exact .inl ⟨qNb s,(qSj h).symm⟩
 .rename_i s;split at h
  .cases h
  .rename_i f;exact .inr ⟨bk_ s,bk_ f,h⟩
def Fresh(g:Ga)(nx:Nat):Prop:=∀i,nx<=i->g i=none
theorem Fresh.put(h:Fresh g nx)(l:Loc):Fresh (g.put nx l) (nx+1):=λi hi=>by
 rw[Ga.put_ne _ _ (by omega)];exact h i (by omega)
theorem Fresh.succ(h:Fresh g nx):Fresh g (nx+1):=λi hi=>h i (by omega)
theorem Fresh.self(h:Fresh g nx):g nx=none:=h nx (qA _)
structure TurnsTo(P:tT)(E:TE)(Bs:tL Nat)(F0:Nat->Prop)(w0 w:tS)(z:Fz)(g:Ga)(nx:Nat)(H:Nat->tO (Obj E))(ρ:tN->tW)(o:tI)(ex:tV)(s:tO (SV E))(u:Chs E)(z':Fz)(g':Ga)(w':tS)(n:Next):Prop where
 run:(execOp ρ o).run P w = .ok n w'
 val:match s with|some sv=>∃v,n = .value v/\RV P E z' g' sv v|none=>n = .skip
 le:z.Le z'
 leg:g.Le g'
 fresh:Fresh g' (nx+1)
 hr:HR P E Bs F0 w0 w' z' g' (upH H u)
 ext:ex=true->Ext w w'
def dh_(P:tT)(E:TE)(Bs:tL Nat)(F0:Nat->Prop)(w0 w:tS)(z:Fz)(g:Ga)(nx:Nat)(H:Nat->tO (Obj E))(ρ:tN->tW)(o:tI)(f:tV){R:Type}(k:tO (SV E)->Chs E->tO R)(r:R):Prop:=∃s u z' g' w' n,k s u=some r/\TurnsTo P E Bs F0 w0 w z g nx H ρ o f s u z' g' w' n
variable{k:tO (SV E)->Chs E->tO R}
def frz1(H:Nat->tO (Obj E)):SC E->Chs E
 | .own id=>match H id with
  | some (.row _ t xs _)=>[(id,some (.fr t xs))]
  | _=>[]
 | .pre id _=>match H id with
  | some (.row _ t xs _)=>[(id,some (.fr t xs))]
  | _=>[]
 | _=>[]
theorem frz1_ok(h:HR P E Bs F0 w0 w z g H)(c:SC E):∃z',z.Le z'/\HR P E Bs F0 w0 w z' g (upH H (frz1 H c)):=by
 unfold frz1;split
 .split
  .rename_i e t xs foc hi;exact⟨_,h.fz.grow_le _,h.freeze hi λj q f=>aP_ f⟩
  .exact⟨z,Fz.Le.refl z,h⟩
 .split
  .rename_i e t xs foc hi;exact⟨_,h.fz.grow_le _,h.freeze hi λj q f=>aP_ f⟩
  .exact⟨z,Fz.Le.refl z,h⟩
 .exact⟨z,Fz.Le.refl z,h⟩
def dD_(H:Nat->tO (Obj E)):tL (SC E)->Chs E|[]=>[]|c::l=>frz1 (upH H (dD_ H l)) c++dD_ H l
theorem di_(h:HR P E Bs F0 w0 w z g H):∀(l:tL (SC E)),∃z',z.Le z'/\HR P E Bs F0 w0 w z' g (upH H (dD_ H l))
 | []=>⟨z,Fz.Le.refl z,h⟩
 | c::l=>by
  obtain⟨p,h1,m⟩:=di_ h l;obtain⟨z2,j,f⟩:=frz1_ok m c;rw[aJ_]at f;exact⟨z2,h1.trans j,f⟩
theorem ObjR.box_new{T:tA}{cs:tL (SC E)}{vs:tL tW}(f:g nx=none)(j:All2 (RC P E z g) cs vs) :
  ObjR P E z (g.put nx ⟨none,0,0,0,w.heap.size,0⟩) (w.alloc (.cells vs.toArray T)) nx (.box T cs):=by
 refine⟨_,vs,Ga.put_self _ _ _,?_,j.mono λ_ _ h=>RC.le h (Fz.Le.refl z) (Ga.le_put f)⟩;show(w.heap.push _)[w.heap.size]? = _;simp
theorem HR.box_new{T:tA}{cs:tL (SC E)}{vs:tL tW}(h:HR P E Bs F0 w0 w z g H)(f:g nx=none)(m:All2 (RC P E z g) cs vs) :
  HR P E Bs F0 w0 (w.alloc (.cells vs.toArray T)) z (g.put nx ⟨none,0,0,0,w.heap.size,0⟩) (upH H [(nx,some (.box T cs))]):=by
 refine h.add (Ext.one w _) f (ObjR.box_new f m) (λk q=>?_) λj p s=>aP_ s
 obtain⟨l,h1,rfl⟩:=q;rw[Ga.put_self]at h1;obtain rfl:=qSj h1;exact qA _
def lBox(E:TE)(L:Nat->tO (SV E))(nx:Nat)(T:tA)(x:tN){R:Type}(k:tO (SV E)->Chs E->tO R):tO R:=
 match opS E L x with
 | some s=>match s.cells? with
  | some cs=>k (some (.v (.one (.ptr nx 0)))) [(nx,some (.box T cs))]
  | none=>none
 | none=>none
theorem lBox_ok{T:tA}{x:tN}(u:o.op = .box T x)(f:Fresh g nx)(hρ:OpR P E z g L ρ)(C:HR P E Bs F0 w0 w z g H)(h:lBox E L nx T x k=some r):dh_ P E Bs F0 w0 w z g nx H ρ o true k r:=by
 unfold lBox at h;split at h
 .rename_i s q;split at h
  .rename_i cs y;have m:=SV.cells_ok y (hρ x _ q);have j:=run_box (P:=P) (w:=w) u (rfl:ρ x=ρ x);have p:=C.box_new (T:=T) f.self m;rw[qw]at p;exact⟨_,_,z,_,_,_,h,⟨j,⟨_,rfl,_,Ga.put_self _ _ _,rfl⟩,Fz.Le.refl z,Ga.le_put f.self,f.put _,p,λ_=>Ext.one w _⟩⟩
  .cases h
 .cases h
def lAlloc(P:tT)(E:TE)(nx:Nat)(T:tA){R:Type}(k:tO (SV E)->Chs E->tO R):tO R:=
 match E.sb T,zeroOf P T with
 | true,some [.pointer none,.slice none 0 0]=>k (some (.v (.one (.ptr nx 0)))) [(nx,some (.box T [.sbp nx,.nils]))]
 | _,_=>match l2_ P E T with
  | some cs=>k (some (.v (.one (.ptr nx 0)))) [(nx,some (.box T cs))]
  | none=>none
theorem p7_{T:tA}{cs:tL (SC E)}(h:l2_ P E T=some cs):∃zs,zeroOf P T=some zs/\All2 (RC P E z g) cs zs:=by
 unfold l2_ at h;split at h
 .rename_i zs f;exact⟨zs,f,gR_ h⟩
 .cases h
theorem lAlloc_ok{T:tA}(x:o.op = .alloc T)(f:Fresh g nx)(y:HR P E Bs F0 w0 w z g H)(h:lAlloc P E nx T k=some r):dh_ P E Bs F0 w0 w z g nx H ρ o true k r:=by
 unfold lAlloc at h;split at h
 .rename_i _ s;have m:=lg_ (P:=P) (w:=w) (ρ:=ρ) x s;refine⟨_,_,z,g.put nx ⟨none,0,0,0,w.heap.size,0⟩,_,_,h,⟨m,⟨_,rfl,_,Ga.put_self _ _ _,rfl⟩,Fz.Le.refl z,Ga.le_put f.self,f.put _,?_,λ_=>Ext.one w _⟩⟩;refine y.add (Ext.one w _) f.self (o:=.box T [.sbp nx,.nils]) ⟨_,[.pointer none,.slice none 0 0],Ga.put_self _ _ _,?_,.cons ⟨_,Ga.put_self _ _ _,.inl rfl⟩ (.cons rfl .nil)⟩ (λq C=>?_) λj p D=>aP_ D
  .show(w.heap.push _)[w.heap.size]? = _;simp
  .obtain⟨l,h1,rfl⟩:=C;rw[Ga.put_self]at h1;obtain rfl:=qSj h1;exact qA _
 .split at h
  .rename_i cs F;obtain⟨zs,s,u⟩:=p7_ (z:=z) (g:=g) F;have m:=lg_ (P:=P) (w:=w) (ρ:=ρ) x s;exact⟨_,_,z,_,_,_,h,⟨m,⟨_,rfl,_,Ga.put_self _ _ _,rfl⟩,Fz.Le.refl z,Ga.le_put f.self,f.put _,y.box_new (T:=T) f.self u,λ_=>Ext.one w _⟩⟩
  .cases h
theorem Sep.single{L:tL Nat}{x:Res}(hx:x.holds w)(hL:∀k,x.fp k->k∈L):Sep L w w [x]:=
 ⟨Chg.of_below (Below.refl _ _),λr hr=>by obtain rfl:=qT.1 hr;exact hx,λr hr _ k f=>by obtain rfl:=qT.1 hr;exact .inr (hL k f),.cons (λ_ h=>nomatch h) .nil⟩
def arrC(zs:tL Int):Nat->Nat->tL (SC E)|_,0=>[]|j,n+1=>.dt (.int .u32) (au_ zs j)::arrC zs (j+1) n
theorem arrC_ok:∀(l:tL Int) {zs:tL Int} {j:Nat},zs.drop j=l->All2 (RC P E z g) (arrC zs j l.length) (l.map λn=>Value.int .u32 n)
 | [],_,_,_=>.nil
 | x::l,zs,j,h=>by
  have hx:zs[j]? = some x:=by
   have:=qM (λm=>m[0]?) h;simpa using this
  refine .cons ?_ (arrC_ok l (by rw[←jW,h];rfl));have:au_ zs j=x:=by simp[au_,hx]
  rw[this];exact .int .nil
theorem dtsC_all{κ:IntKind}:∀{l:tL (SC E)} {xs:tL Int} {vs:tL tW},dtsC κ l=some xs->All2 (RC P E z g) l vs->vs=xs.map λn=>Value.int κ n
 | [],xs,vs,h,hr=>by
  simp only[dtsC,qOi]at h;subst h;cases hr
  rfl
 | c :: l,xs,vs,h,hr=>by
  cases hr with
  | cons h1 p=>
   unfold dtsC at h;split at h
   .rename_i hx;cases hx
   .rename_i κ' n s j;injection j with j q;subst j;subst q;split at h
    .rename_i r m f;simp only[qDe]at m;subst m;obtain rfl:=qSj h;obtain⟨vs',e,_⟩:=RD.int_inv (h1:RD E z _ _ [_]);simp only[List.cons.injEq]at e;rw[e.1,dtsC_all f p];rfl
    .cases h
   .cases h
def lStoreI(P:tT)(E:TE)(H:Nat->tO (Obj E))(T:tA)(id:Nat)(i:Int)(s:SV E){R:Type}(k:tO (SV E)->Chs E->tO R):tO R:=
 match H id,s,aK_ P T with
 | some (.box T' cs),.v (.one (.dt (.int .u32) y)),some 1=>match dtsC .u32 cs with
  | some xs=>Option.bind (setI xs i y) λzs=>k none [(id,some (.box T' (arrC zs 0 cs.length)))]
  | none=>none
 | _,_,_=>none
theorem lStoreI_ok{T:tA}{x y:tN}{id:Nat}{i:Int}{s:SV E}(ho:o.op = .store T x y)(O:Fresh g nx)(hx:RC P E z g (.pix id i) (ρ x))(hy:RV P E z g s (ρ y))(U:HR P E Bs F0 w0 w z g H)(h:lStoreI P E H T id i s k=some r):dh_ P E Bs F0 w0 w z g nx H ρ o false k r:=by
 unfold lStoreI at h;split at h
 .rename_i T' cs m hi hn;split at h
  .rename_i xs J;obtain⟨zs,f,h⟩:=bind_some h;unfold setI at f;split at f
   .rename_i hb;obtain rfl:=qSj f;obtain⟨l,h1,ev⟩:=hx;obtain⟨l',vs,Z,Y,V⟩:=U.hold _ _ hi;rw[h1]at Z;obtain rfl:=qSj Z;obtain⟨vs',ey,_⟩:=RD.int_inv (hy:RD E z _ _ [ρ y]);have ey:ρ y = .int .u32 m:=by simp only[List.cons.injEq]at ey;exact ey.1
    have q:=dtsC_all J V;have hl:=V.len;have M:vs.length=xs.length:=by rw[q,zj]
    have u:=fE_ (P:=P) (w:=w) (off:=i.toNat) ho ev ey Y (by rw[hn];rfl) (by apply zC;simp[Value.cells];omega) (by simp[Value.cells,b5_,jd_]);refine⟨none,_,z,g,_,_,h,⟨u,rfl,Fz.Le.refl z,Ga.Le.refl g,O.succ,?_,λh=>by cases h⟩⟩;have D:All2 (RC P E z g) (arrC (xs.set i.toNat m) 0 cs.length) (splice vs i.toNat (Value.int .u32 m).cells.toList):=by
     have e1:=arrC_ok (P:=P) (E:=E) (z:=z) (g:=g) (xs.set i.toNat m) (zs:=xs.set i.toNat m) (j:=0) rfl;have e2:splice vs i.toNat (Value.int .u32 m).cells.toList=(xs.set i.toNat m).map λn=>Value.int .u32 n:=by
      rw[q];have e3:i.toNat<(xs.map λn=>Value.int .u32 n).length:=by rw[zj];omega
      simp only[splice,Value.cells,List.map_set,qLc,zL];rw[List.set_eq_take_append_cons_drop,qY e3];simp
     rw[e2]
     rwa [List.length_set,←M,←hl]at e1
    refine U.turn (Ga.Le.refl g) (i:=id) (i':=id) (C:=λk=>k=l.b) (λk F=>⟨_,hi,l,h1,F⟩) (ew_ w _ _) (λk _ F=>cw_ w _ k _ F) (o':=.box T' (arrC (xs.set i.toNat m) 0 cs.length)) ?_ (λk F=>?_) λj p hj=>?_
    .exact⟨l,_,h1,fk_ w _ _ _ T' Y,D⟩
    .obtain⟨l2,G,rfl⟩:=F;rw[h1]at G;obtain rfl:=qSj G;exact .inl rfl
    .rcases aP_ hj with⟨rfl,rfl⟩|⟨G,h6⟩
     .exact .inl ⟨rfl,rfl⟩
     .exact .inr ⟨G,.inl G,h6⟩
   .cases f
  .cases h
 .cases h
def lStore (P:tT) (E:TE) (L:Nat->tO (SV E)) (H:Nat->tO (Obj E)) (T:tA) (x y:tN) {R:Type} (k:tO (SV E)->Chs E->tO R):tO R:=
 match opS E L x,opS E L y with
 | some (.v (.one (.ptr id off))),some s=>match H id,s.cells?,aK_ P T with
  | some (.box T' cs),some f,some n=>match Nat.beq n f.length&&Nat.ble (off+f.length) cs.length with
   | true=>k none [(id,some (.box T' (kj_ cs off f)))]
   | false=>none
  | _,_,_=>none
 | some (.v (.one (.elo id q _ off))),some s=>match s.cells?,aK_ P T with
  | some f,some n=>match upH H (dD_ H f) id with
   | some (.row e t xs foc)=>match foc.find? λp=>Nat.beq p.1 q with
    | some p=>match Nat.beq n f.length&&Nat.ble (off+f.length) (E.size t),bP_ E (upH H (dD_ H f)) (E.flat t) (kj_ (E.cells t p.2.2) off f)with
     | true,some h=>k none ((id,some (.row e t (xs.set p.2.1.toNat (E.ufl t h)) [(q,p.2.1,E.ufl t h)]))::dD_ H f)
     | _,_=>none
    | none=>none
   | _=>none
  | _,_=>none
 | some (.v (.one (.pix id i))),some s=>lStoreI P E H T id i s k
 | _,_=>none
theorem set_rows{t:Ty}{xs:tL (Den E.S t)}{rows:tL (tL tW)}{y:Den E.S t}{r':tL tW}(h:Rows E z t xs rows)(i:Nat)(hr:RD E z (E.flat t) (E.fl t y) r'):Rows E z t (xs.set i y) (rows.set i r'):=by
 intro j x r hx f;rw[zr]at hx f;by_cases m:i=j
 .rw[qY m]at hx f;split at hx
  .split at f
   .obtain rfl:=qSj hx;obtain rfl:=qSj f;exact hr
   .cases f
  .cases hx
 .rw[qG m]at hx f;exact h j x r hx f
theorem lStore_ok{T:tA}{x y:tN}(ho:o.op = .store T x y)(U:Fresh g nx)(hρ:OpR P E z g L ρ)(hH:HR P E Bs F0 w0 w z g H)(h:lStore P E L H T x y k=some r):dh_ P E Bs F0 w0 w z g nx H ρ o false k r:=by
 unfold lStore at h;split at h
 .rename_i id off s hx hy;split at h
  .rename_i T' cs M n hi hc hn;split at h
   .rename_i hb;simp only[qAn]at hb;have ZF:=qNb hb.1;have ZG:=qq hb.2;obtain⟨l,h1,ev⟩:=hρ x _ hx;obtain⟨l',vs,h2,h3,h4⟩:=hH.hold _ _ hi;rw[h1]at h2;obtain rfl:=qSj h2;have f:=SV.cells_ok hc (hρ y _ hy);have ZJ:M.length=(ρ y).cells.size:=by rw[f.len,qO]
    have ZD:=h4.len;have u:=fE_ (P:=P) (w:=w) ho ev (rfl:ρ y=ρ y) h3 (by rw[hn];congr 1;omega) (by apply zC;omega) (RC.cells f);refine⟨none,_,z,g,_,_,h,⟨u,rfl,Fz.Le.refl z,Ga.Le.refl g,U.succ,?_,λh=>by cases h⟩⟩;refine hH.turn (Ga.Le.refl g) (i:=id) (i':=id) (C:=λk=>k=l.b) (λk m=>⟨_,hi,l,h1,m⟩) (ew_ w _ _) (λk _ m=>cw_ w _ k _ m) (o':=.box T' (kj_ cs off M)) ?_ (λk m=>?_) λj p hj=>?_
    .exact⟨l,_,h1,fk_ w _ _ _ T' h3,l3_ off h4 f⟩
    .obtain⟨l2,F,rfl⟩:=m;rw[h1]at F;obtain rfl:=qSj F;exact .inl rfl
    .rcases aP_ hj with⟨rfl,rfl⟩|⟨F,h6⟩
     .exact .inl ⟨rfl,rfl⟩
     .exact .inr ⟨F,.inl F,h6⟩
   .cases h
  .cases h
 .rename_i id q ii off s hx hy;split at h
  .rename_i M n hc hn;split at h
   .rename_i e t xs foc hi;split at h
    .rename_i p hp;split at h
     .rename_i Z hb ZH;simp only[qAn]at hb;have ZF:=qNb hb.1;have ZG:=qq hb.2;obtain⟨z',hz,ZZ⟩:=di_ hH M;have ZL:p.1=q:=qNb (by simpa using zz hp);obtain⟨lq,h1,_,ev⟩:=hρ x _ hx;obtain⟨lo,rows,h2,ZS,hlc,ZV,J,ZM,D,ZQ⟩:=ZZ.hold _ _ hi;obtain⟨hg,lq',off2,h3,hA,hq,ZI⟩:=ZQ p (zX hp);rw[ZL,h1]at h3;obtain rfl:=qSj h3;obtain⟨_,ZP,ZT⟩:=fm_ hg;have ZR:p.2.1.toNat<rows.length:=by rw[J,ZS];exact ZT
      have ZX:=D p.2.1.toNat p.2.2 _ ZP (qQ ZR);have f:=SV.cells_ok hc ((hρ y _ hy).le hz (Ga.Le.refl g));have ZJ:M.length=(ρ y).cells.size:=by rw[f.len,qO]
      have ZN:=l3_ off (cells_rd.1 ZX) f;have G:=ds_ ZZ ZH ZN;have hS:=Sep.single (L:=[lq.b]) (x:=.row e lo.c lo.A lo.n lo.cap rows) ⟨ZV,J,ZM⟩ (λk m=>by
       obtain⟨a,ha,rfl⟩:=m;rw[hA]at ha;obtain rfl:=qSj ha;simp)
      obtain⟨w',u,ZE,Y,ZU⟩:=xO_ (P:=P) (k:=0) (j:=off) ho ev (rfl:ρ y=ρ y) hS rfl hA (qQ ZR) (by rw[hq]) (by rw[hn];congr 1;omega) (by apply zC;rw[hlc];omega) (RC.cells f) rfl;have hh:=ZE.hold (.row e lo.c lo.A lo.n lo.cap (rows.set p.2.1.toNat (splice rows[p.2.1.toNat] off (ρ y).cells.toList))) (by simp);obtain⟨O,V,ZW⟩:=hh;rw[←E.fl_ufl t Z]at G;have ZY:=set_rows D p.2.1.toNat G;refine⟨none,_,z',g,w',_,h,⟨u,rfl,hz,Ga.Le.refl g,U.succ,?_,λh=>by cases h⟩⟩;have ZO:upH H ((id,some (.row e t (xs.set p.2.1.toNat (E.ufl t Z)) [(q,p.2.1,E.ufl t Z)]))::dD_ H M)=upH (upH H (dD_ H M)) [(id,some (.row e t (xs.set p.2.1.toNat (E.ufl t Z)) [(q,p.2.1,E.ufl t Z)]))]:=by
       rw[aJ_];rfl
      rw[ZO];refine ZZ.turn (Ga.Le.refl g) (i:=id) (i':=id) (C:=λk=>k=lq.b) (λk m=>⟨_,hi,lo,_,h2,hA,m⟩) Y (λk _ m=>ZU k m) (o':=.row e t (xs.set p.2.1.toNat (E.ufl t Z)) [(q,p.2.1,E.ufl t Z)]) ?_ (λk m=>?_) λj p' hj=>?_
      .refine⟨lo,_,h2,by rw[List.length_set];exact ZS,hlc,O,V,ZW,ZY,λp' ZK=>?_⟩;obtain rfl:=qT.1 ZK;refine⟨?_,lq,off2,h1,hA,hq,ZI⟩;unfold ah_;rw[qY (fm_ hg).1,zr,qY rfl,qY ZT]
      .obtain⟨l2,a2,F,h6,rfl⟩:=m;rw[h2]at F;obtain rfl:=qSj F;rw[hA]at h6;obtain rfl:=qSj h6;exact .inl rfl
      .rcases aP_ hj with⟨rfl,rfl⟩|⟨F,h6⟩
       .exact .inl ⟨rfl,rfl⟩
       .exact .inr ⟨F,.inl F,h6⟩
     .cases h
    .cases h
   .cases h
  .cases h
 .rename_i id i s hx hy;exact lStoreI_ok ho U (hρ x _ hx) (hρ y _ hy) hH h
 .cases h
def d2_{t f:Ty}(h:f=t)(xs:tL (Den E.S f)):tL (Den E.S t):=h▸xs
def SC.rdT(H:Nat->tO (Obj E))(t:Ty):SC E->tO (tL (Den E.S t))
 | .dt (.sl f) xs=>if h:f=t then some (d2_ h xs)else none
 | .own id=>match H id with
  | some (.row _ f xs _)=>if h:f=t then some (d2_ h xs)else none
  | some (.fr f xs)=>if h:f=t then some (d2_ h xs)else none
  | _=>none
 | .nils=>some []
 | .suf id lo=>match H id with
  | some (.row _ f xs _)=>if h:f=t then some (d2_ h (xs.drop lo.toNat))else none
  | _=>none
 | .pre id n=>match H id with
  | some (.row _ f xs _)=>if h:f=t then some (d2_ h (xs.take n.toNat))else none
  | _=>none
 | _=>none
theorem SC.rdT_ok{t:Ty}{c:SC E}{xs:tL (Den E.S t)}{v:tW}(U:HR P E Bs F0 w0 w z g H)(h:c.rdT H t=some xs)(hr:RC P E z g c v) :
  ∃A cap rows F,v = .slice A xs.length cap/\SlF F (E.size t) A xs.length rows w/\xs.length<=cap/\Rows E z t xs rows:=by
 unfold SC.rdT at h;split at h
 .rename_i V D;split at h
  .rename_i G;subst G;obtain rfl:=qSj h;obtain⟨A,cap,rows,ev,O,m,u⟩:=SC.fro_ok (c:=.dt (.sl V) D) U rfl hr;exact⟨A,cap,rows,_,ev,O.stand U.fz,m,u⟩
  .cases h
 .rename_i id;split at h
  .rename_i e V D foc hi;split at h
   .rename_i G;subst G;obtain rfl:=qSj h;obtain⟨l,h1,rfl⟩:=hr;obtain⟨l2,rows2,M,y,C,f,q,s,j,_⟩:=U.hold _ _ hi;rw[h1]at M;obtain rfl:=qSj M;have p:=fl_ (w:=w) (e:=e) (cap:=l.cap) ⟨f,q,s⟩;have m:=(Own.cap_le f).1;rw[C,y]at p;rw[y]at m;exact⟨_,_,_,_,by rw[y];rfl,p,m,j⟩
   .cases h
  .rename_i V D hi;split at h
   .rename_i G;subst G;obtain rfl:=qSj h;obtain⟨A,cap,rows,ev,O,m,u⟩:=SC.fro_ok (c:=.own id) (l:=⟨V,D⟩) U (by simp only[SC.fro,hi]) hr;exact⟨A,cap,rows,_,ev,O.stand U.fz,m,u⟩
   .cases h
  .cases h
 .obtain rfl:=qSj h;simp only[RC]at hr;subst hr;exact⟨none,0,[],λ_=>False,rfl,SlF.nil _ _ _ _,qA _,λi x r h=>by simp at h⟩
 .rename_i id lo;split at h
  .rename_i e V D foc hi;split at h
   .rename_i G;subst G;obtain rfl:=qSj h;obtain⟨l,h1,Z,ev⟩:=hr;obtain⟨l2,rows2,M,y,C,f,q,s,j,_⟩:=U.hold _ _ hi;rw[h1]at M;obtain rfl:=qSj M;have p:=fl_ (w:=w) (e:=e) (cap:=l.cap) ⟨f,q,s⟩;have m:=(Own.cap_le f).1;have Y:=SlF.cut p m (lo:=lo.toNat) (hi:=l.n) Z (qA _);have J:=fp_ j lo.toNat l.n;rw[zA (by omega:D.length<=l.n)]at J;have hl:(d2_ (E:=E) rfl (D.drop lo.toNat)).length=l.n-lo.toNat:=by simp only[d2_,qk];omega
    refine⟨cutA l.A l.c lo.toNat l.cap,l.cap-lo.toNat,(rows2.take l.n).drop lo.toNat,dT_ l.A,by rw[hl];exact ev,?_,by rw[hl];omega,J⟩;rw[hl,←C];exact Y
   .cases h
  .cases h
 .rename_i id n;split at h
  .rename_i e V D foc hi;split at h
   .rename_i G;subst G;obtain rfl:=qSj h;obtain⟨l,h1,ZZ,rfl⟩:=hr;obtain⟨l2,rows2,M,y,C,f,q,s,j,_⟩:=U.hold _ _ hi;rw[h1]at M;obtain rfl:=qSj M;have p:=fl_ (w:=w) (e:=e) (cap:=l.cap) ⟨f,q,s⟩;have m:=(Own.cap_le f).1;have e1:(d2_ (E:=E) rfl (D.take n.toNat)).length=n.toNat:=by simp only[d2_,qX];omega
    rw[C]at p;refine⟨l.A,l.cap,rows2.take n.toNat,_,by rw[e1],by rw[e1];exact p.take ZZ,by rw[e1];omega,?_⟩;have:=fp_ j 0 n.toNat;rw[jK,jK]at this;exact this
   .cases h
  .cases h
 .cases h
theorem Rows.cells{t:Ty}{xs:tL (Den E.S t)}{rows:tL (tL tW)}(h:Rows E z t xs rows)(m:rows.length=xs.length):oZ_ rows/\∀q∈rows,q.length=E.size t:=by
 have key:∀q∈rows,∃x,RD E z (E.flat t) (E.fl t x) q:=λq f=>by
  obtain⟨i,hi⟩:=qH.1 f;have j:=(qK.1 hi).1;exact⟨_,h i _ _ (qQ (by omega:i<xs.length)) hi⟩
 exact⟨λq f=>let ⟨x,hx⟩:=key q f;hx.cells,λq f=>let ⟨x,hx⟩:=key q f;hx.len⟩
theorem Rows.append{t:Ty}{xs j:tL (Den E.S t)}{rows news:tL (tL tW)}(h:Rows E z t xs rows)(p:Rows E z t j news)(m:rows.length=xs.length):Rows E z t (xs++j) (rows++news):=by
 intro i x r hx hr;rw[List.getElem?_append]at hx hr;rw[m]at hr;split at hx
 .rename_i f;rw[qY f]at hr;exact h i x r hx hr
 .rename_i f;rw[qG f]at hr;exact p _ x r hx hr
def jh_(P:tT)(e:tA):Nat:=match P.info? e with|some i=>i.bytes|none=>0
def appK(P:tT)(E:TE)(H:Nat->tO (Obj E))(nx:Nat)(e:tA)(t:Ty)(xs:tL (Den E.S t))(cy:SC E)(del:Chs E){R:Type}(k:tO (SV E)->Chs E->tO R):tO R:=match cy.rdT H t,elemB P e (E.size t) (jh_ P e)with|some f,true=>(room (jh_ P e) xs f).bind λzs=>k (some (.v (.one (.own nx)))) ((nx,some (.row e t zs []))::del)|_,_=>none
def lApp (P:tT) (E:TE) (L:Nat->tO (SV E)) (H:Nat->tO (Obj E)) (nx:Nat) (T:tA) (x y:tN) {R:Type} (k:tO (SV E)->Chs E->tO R):tO R:=
 match opS E L x,opS E L y,P.underlying T with
 | some (.v (.one cx)),some (.v (.one cy)),some (.slice e)=>match cx with
  | .own id=>match H id with
   | some (.row e' t xs _)=>match Nat.beq e' e with
    | true=>appK P E H nx e t xs cy [(id,none)] k
    | false=>none
   | _=>none
  | .pre id n=>match H id with
   | some (.row e' t xs _)=>match Nat.beq e' e with
    | true=>Option.bind (aA_ xs 0 n) λf=>appK P E H nx e t f cy [(id,none)] k
    | false=>none
   | _=>none
  | .nils=>match E.ty e with
   | some t=>appK P E H nx e t [] cy [] k
   | none=>none
  | _=>none
 | _,_,_=>none
theorem appK_ok{T e:tA}{t:Ty}{x y:tN}{xs:tL (Den E.S t)}{cy:SC E}{del:Chs E}{A:tO Addr}{cap:Nat}{rows:tL (tL tW)}(ho:o.op = .call { callee:=.builtin .append,args:=#[x,y],argTypes:=#[T,T] })(hu:P.underlying T=some (.slice e))
  (D:Fresh g nx) (hH:HR P E Bs F0 w0 w z g H) (ex:ρ x = .slice A xs.length cap) (hy:RC P E z g cy (ρ y)) (Y:w.ownsRow 0 e (E.size t) (.slice A xs.length cap) xs.length rows.flatten) (s:rows.length=xs.length) (f:Rows E z t xs rows)
  (i:Nat) (hC:∀q,dT_ A q->∃o,H i=some o/\fpO g i o q) (ZY:∀(o':Obj E) j p,upH H ((nx,some o')::del) j=some p->(j=nx/\p=o')\/(j≠nx/\(j≠i\/∀q,¬dT_ A q)/\H j=some p))
  (h:appK P E H nx e t xs cy del k=some r):dh_ P E Bs F0 w0 w z g nx H ρ o false k r:=by
 unfold appK at h;split at h
 .rename_i M ZW ZS;obtain⟨zs,hz,h⟩:=bind_some h;have ZQ:=elemOK hu ZS;obtain⟨A2,cap2,news,F,ey,O,ZR,m⟩:=SC.rdT_ok hH ZW hy;obtain⟨ZZ,ZU⟩:=m.cells O.1;obtain⟨_,ZV⟩:=f.cells s;have hS:=Sep.single (L:=match A with|some a=>[a.block]|none=>[]) (x:=.row e (E.size t) A xs.length cap rows) ⟨Y,s,ZV⟩ (λq hq=>by
   obtain⟨a,rfl,rfl⟩:=hq;simp)
  obtain⟨A',cap',w',U,ZX,J,Z⟩:=run_append (P:=P) (k:=0) ho ZQ ex ey hS rfl O ZZ rfl rfl hz ZU;obtain⟨h1,h2,rfl⟩:=rR_ hz;have hh:=ZX.hold (.row e (E.size t) A' (xs.length+M.length) cap' (rows++news)) (by simp);obtain⟨u,G,V⟩:=hh;have ZT:=ZX.own (.row e (E.size t) A' (xs.length+M.length) cap' (rows++news)) (by simp) trivial;have hl:(xs++M).length=xs.length+M.length:=qLa;refine⟨_,_,z,g.put nx ⟨A',(xs++M).length,cap',E.size t,0,0⟩,w',_,h,⟨U,⟨_,rfl,_,Ga.put_self _ _ _,by rw[hl]⟩,Fz.Le.refl z,Ga.le_put D.self,D.put _,?_,λh=>by cases h⟩⟩;refine hH.turn (Ga.le_put D.self) (i:=i) (i':=nx) (C:=dT_ A) hC J Z (o':=.row e t (xs++M) []) ?_ (λq hq=>?_) λj p hj=>?_
  .refine⟨_,rows++news,Ga.put_self _ _ _,rfl,rfl,?_,?_,V,f.append m s,λp hp=>nomatch hp⟩
   .simp only[hl];exact u
   .simp only[hl];exact G
  .obtain⟨l2,a2,h5,h6,rfl⟩:=hq;rw[Ga.put_self]at h5;obtain rfl:=qSj h5;rcases ZT a2.block ⟨a2,h6,rfl⟩with h7|h7
   .exact .inr h7
   .left
    cases A with
    | none=>simp at h7
    | some a=>
     simp at h7;exact⟨a,rfl,h7⟩
  .exact ZY _ j p hj
 .cases h
theorem t0_{e c n m cap:Nat}{A:tO Addr}{rows:tL (tL tW)}(h:w.ownsRow 0 e c (.slice A n cap) n rows.flatten)(O:rows.length=n)(hr:∀q∈rows,q.length=c)(hm:m<=n):w.ownsRow 0 e c (.slice A m cap) m (rows.take m).flatten:=by
 have p:(rows.take m).flatten=rows.flatten.take (m*c):=by
  have h1:rows.flatten=(rows.take m).flatten++(rows.drop m).flatten:=by rw[←zN,zD]
  have x:(rows.take m).flatten.length=m*c:=by
   rw[av_ (c:=c) (λq j=>hr q (qh j)),qX]
   congr 1;omega
  rw[h1,List.take_left' x]
 refine⟨?_,?_⟩
 .rw[av_ (c:=c) (λq j=>hr q (qh j)),qX]
  congr 1;omega
 .rcases h.2 with⟨x,M⟩|⟨b,cap',cur,D,J,G,F,u,s,f⟩
  .injection x with C U y;subst M;obtain rfl:m=0:=by omega
   exact .inl ⟨by rw[C,y],rfl⟩
  .injection D with C _ y;subst y;refine .inr ⟨b,cap,cur,by rw[C],J,G,by omega,u,s,?_⟩;rw[p,←f,List.take_take]
   congr 1
   have:m*c<=n*c:=qf c hm;omega
theorem lApp_ok{T:tA}{x y:tN}(ho:o.op = .call { callee:=.builtin .append,args:=#[x,y],argTypes:=#[T,T] })(G:Fresh g nx)(hρ:OpR P E z g L ρ)(U:HR P E Bs F0 w0 w z g H)(h:lApp P E L H nx T x y k=some r):dh_ P E Bs F0 w0 w z g nx H ρ o false k r:=by
 unfold lApp at h;split at h
 .rename_i cx cy e hx hy hu;have ex:=hρ x _ hx;split at h
  .rename_i id;split at h
   .rename_i e' t xs foc hi;split at h
    .rename_i hb;obtain rfl:=qNb hb;obtain⟨l,h1,ev⟩:=ex;obtain⟨l2,rows,Y,hn,hc,s,u,M,f,_⟩:=U.hold _ _ hi;rw[h1]at Y;obtain rfl:=qSj Y;rw[hc,hn]at s;rw[hn]at ev u;exact appK_ok ho hu G U ev (hρ y _ hy) s u f id (λq ⟨a,J,hq⟩=>⟨_,hi,l,a,h1,J,hq⟩) (λo' j p O=>by
      rcases tn_ O with C|⟨C,h6,V⟩
      .exact .inl C
      .exact .inr ⟨C,.inl h6,V⟩) h
    .cases h
   .cases h
  .rename_i id n;split at h
   .rename_i e' t xs foc hi;split at h
    .rename_i hb;obtain rfl:=qNb hb;obtain⟨ys,Z,h⟩:=bind_some h;obtain⟨ZX,ZY,ZZ,rfl⟩:=lf_ Z;obtain⟨l,h1,_,ev⟩:=ex;obtain⟨l2,rows,Y,hn,hc,s,u,M,f,_⟩:=U.hold _ _ hi;rw[h1]at Y;obtain rfl:=qSj Y;have hm:n.toNat<=l.n:=by omega
     have m:=t0_ s u M hm;have D:((xs.take n.toNat).drop (0:Int).toNat).length=n.toNat:=by simp;omega
     have F:=fp_ f 0 n.toNat;simp only[jK]at F;simp only[Int.toNat_zero,jK]at h D;rw[←D]at ev m;rw[hc]at m;exact appK_ok ho hu G U ev (hρ y _ hy) (rows:=rows.take n.toNat) (by rw[D]at m ⊢;exact m) (by rw[qX,D];omega) F id (λq ⟨a,J,hq⟩=>⟨_,hi,l,a,h1,J,hq⟩) (λo' j p O=>by
      rcases tn_ O with C|⟨C,h6,V⟩
      .exact .inl C
      .exact .inr ⟨C,.inl h6,V⟩) h
    .cases h
   .cases h
  .split at h
   .rename_i t ht;have ev:ρ x = .slice none 0 0:=ex;exact appK_ok (xs:=([]:tL (Den E.S t))) (del:=[]) (A:=none) (cap:=0) (rows:=[]) ho hu G U ev (hρ y _ hy) ⟨by simp,.inl ⟨rfl,rfl⟩⟩ rfl (λi x r h=>by simp at h) nx (λq ⟨a,J,_⟩=>nomatch J) (λo' j p O=>by
      rcases aP_ O with C|⟨C,V⟩
      ·exact .inl C
      ·exact .inr ⟨C,.inr (λq ⟨a,J,_⟩=>nomatch J),V⟩) h
   .cases h
  .cases h
 .cases h
def byteB(P:tT)(e:tA):tV:=match P.info? e with
 | some i=>(match i.zero with|some (.int .u8 0)=>true|_=>false)&&Nat.beq i.size 1&&Nat.beq i.bytes 1
 | none=>false
def lAppS (P:tT) (E:TE) (L:Nat->tO (SV E)) (H:Nat->tO (Obj E)) (nx:Nat) (T T':tA) (x y:tN) {R:Type} (k:tO (SV E)->Chs E->tO R):tO R:=
 match opS E L x,opS E L y,P.underlying T,P.underlying T' with
 | some (.v (.one cx)),some (.v (.one (.dt .str s))),some (.slice e),some .string=>match byteB P e,cx with
  | true,.own id=>match H id with
   | some (.row e' (.int .u8) xs _)=>match Nat.beq e' e with
    | true=>Option.bind (room 1 (α:=Int) xs (cg_ s)) λzs=>k (some (.v (.one (.own nx)))) [(nx,some (.row e (.int .u8) zs [])),(id,none)]
    | false=>none
   | _=>none
  | true,.nils=>Option.bind (room 1 (α:=Int) [] (cg_ s)) λzs=>k (some (.v (.one (.own nx)))) [(nx,some (.row e (.int .u8) zs []))]
  | _,_=>none
 | _,_,_,_=>none
theorem rowsI_map{κ:IntKind}{xs:tL Int}{rows:tL (tL tW)}(h:Rows E z (.int κ) xs rows)(j:rows.length=xs.length):rows=xs.map λx=>[Value.int κ x]:=by
 apply zG;intro i;rw[qt];rcases qb i xs.length with hi|hi
 .have hx:=qQ hi;have hr:=qQ (show i<rows.length by omega);obtain⟨vs,h1,f⟩:=RD.int_inv (show RD E z [.int κ] (xs[i],()) rows[i]from h i _ _ hx hr);rw[hr,hx,h1,f.nil_inv];rfl
 .rw[qe (by omega),qe hi];rfl
theorem rowsI_mk{κ:IntKind}(xs:tL Int):Rows E z (.int κ) xs (xs.map λx=>[Value.int κ x]):=λi x r h1 f=>by
 rw[qt]at f;rw[h1]at f;obtain rfl:=qSj f;exact RD.int .nil
theorem p8_{κ:IntKind}:∀(xs:tL Int),(xs.map λx=>[Value.int κ x]).flatten=xs.map (Value.int κ)
 | []=>rfl
 | x::xs=>by rw[zY,zF,p8_ xs];rfl
theorem strI_cells(s:tR):Lib.strCells ⟨s.toArray⟩=(cg_ s).map (Value.int .u8):=by
 unfold Lib.strCells cg_;simp
theorem appS_ok{T T' e:tA}{x y:tN}{xs:tL Int}{s:tR}{del:Chs E}{A:tO Addr}{cap:Nat}(ho:o.op = .call { callee:=.builtin .append,args:=#[x,y],argTypes:=#[T,T'] })(hu:P.underlying T=some (.slice e))(O:P.underlying T'=some .string)(hB:byteB P e=true)
  (ZY:Fresh g nx) (hH:HR P E Bs F0 w0 w z g H) (ex:ρ x = .slice A xs.length cap) (ey:ρ y=S s) (G:w.ownsRow 0 e 1 (.slice A xs.length cap) xs.length (xs.map (Value.int .u8)))
  (i:Nat) (hC:∀q,dT_ A q->∃o,H i=some o/\fpO g i o q) (ZW:∀(o':Obj E) j p,upH H ((nx,some o')::del) j=some p->(j=nx/\p=o')\/(j≠nx/\(j≠i\/∀q,¬dT_ A q)/\H j=some p))
  (h:Option.bind (room 1 (α:=Int) xs (cg_ s)) (λzs=>k (some (.v (.one (.own nx)))) ((nx,some (.row e (.int .u8) zs []))::del))=some r):dh_ P E Bs F0 w0 w z g nx H ρ o false k r:=by
 obtain⟨zs,hz,h⟩:=bind_some h;obtain⟨h1,h2,rfl⟩:=rR_ hz;have ZV:(cg_ s).length=s.length:=by simp[cg_]
 unfold byteB at hB;split at hB
 .rename_i inf hi;simp only[qAn]at hB;obtain⟨⟨ZX,M⟩,U⟩:=hB;have D:inf.zero=some (.int .u8 0):=by
   split at ZX
   .assumption
   .cases ZX
  obtain⟨v',w',m,u,f,_⟩:=Lib.run_append_own_string (P:=P) (w:=w) 0 T T' o.type e inf hu O hi D (qNb M) (qNb U) _ _ _ G ⟨s.toArray⟩ (by unfold maxLen;rw[size_mk];omega) (by rw[size_mk];omega) (qv _);rw[strI_cells,size_mk]at u;have hl:(xs++cg_ s).length=xs.length+s.length:=by rw[qLa,ZV]
  rw[←List.map_append,←hl]at u;obtain⟨A',cap',rfl,ZQ⟩:∃A' cap',v' = .slice A' (xs++cg_ s).length cap'/\∀q,dT_ A' q->v' = .slice A' (xs++cg_ s).length cap':=by
   rcases u.2 with⟨J,hn⟩|⟨b,cap',cur,J,_⟩
   .exact⟨none,0,by rw[J,hn],λq ⟨a,ha,_⟩=>nomatch ha⟩
   .exact⟨_,_,J,λ_ _=>J⟩
  have Y:(execOp ρ o).run P w = .ok (.value (.slice A' (xs++cg_ s).length cap')) w':=by
   unfold execOp;rw[ho];simp only[resolve,invoke,builtin,Sem.run_bind,Sem.run_pure,Result.andThen_ok,jI,zY,List.map_nil,ex,ey];show(Result.andThen ((Builtin.append_ #[T,T'] o.type #[Value.slice A xs.length cap,Value.string ⟨s.toArray⟩]).run P w) _)=_;rw[m];rfl
  have ZU:∀q,dT_ A' q->dT_ A q\/w.heap.size<=q:=λq ⟨a,ha,hq⟩=>by
   subst ha;have ZS:(xs.map (Value.int .u8)).length=xs.length:=zj ..;have h4:xs.length+s.length<=9223372036854775807:=by omega
   have h5:xs.length+s.length<=140737488355328:=by omega
   rcases G.2 with⟨J,hn⟩|⟨g,cap2,cur,J,_,hg,ZR,_,ZT,_⟩
   .rw[J]at m;obtain⟨v2,w2,F,ZZ,_,_⟩:=Lib.run_append_own_string (P:=P) (w:=w) w.heap.size T T' o.type e inf hu O hi D (qNb M) (qNb U) _ _ _ (World.ownsRow_nil w w.heap.size e 1) ⟨s.toArray⟩ (by unfold maxLen;rw[size_mk];omega) (by rw[size_mk];omega) (qA _);rw[m]at F;injection F with e1 e2;subst e1;rcases ZZ.2 with⟨V,_⟩|⟨b,_,_,V,hb,_⟩
    .cases V
    .injection V with e3;obtain rfl:=qSj e3;exact .inr (by rw[hq];exact hb)
   .rw[J]at m;by_cases Z:xs.length+s.length<=cap2
    .have hr:=Lib.run_append_room_string (P:=P) w T T' o.type e inf hu O hi (qNb M) g xs.length cap2 cur hg ⟨s.toArray⟩ (by rw[size_mk];exact Z) (by rw[size_mk,ZT];omega);rw[m]at hr;injection hr with e1 e2;injection e1 with e3;obtain rfl:=qSj e3;injection J with e4;exact .inl ⟨_,e4,hq⟩
    .have hr:=Lib.run_append_grow_string (P:=P) w T T' o.type e inf (.int .u8 0) hu O hi D ⟨g,0,none⟩ xs.length cap2 (xs.map (Value.int .u8)) (by rw[qNb M];simp) (World.ownsRow.cells G (g:=g) (by rw[J];rfl)) ⟨s.toArray⟩ (by rw[size_mk];omega) (by rw[size_mk];omega) (by rw[qNb U];exact growslice_fits (by rw[size_mk];omega) (by rw[size_mk];omega));rw[m]at hr;injection hr with e1 e2;injection e1 with e3;obtain rfl:=qSj e3;exact .inr (by rw[hq];exact qA _)
  refine⟨_,_,z,g.put nx ⟨A',(xs++cg_ s).length,cap',1,0,0⟩,w',_,h,⟨Y,⟨_,rfl,_,Ga.put_self _ _ _,rfl⟩,Fz.Le.refl z,Ga.le_put ZY.self,ZY.put _,?_,λh=>by cases h⟩⟩;refine hH.turn (Ga.le_put ZY.self) (i:=i) (i':=nx) (C:=dT_ A) hC ⟨f.os,f.tape,f.output,f.size⟩ (λk hk hn=>f.block k hk λe=>?_) (o':=.row e (.int .u8) (xs++cg_ s) []) ?_ (λq hq=>?_) λj p hj=>ZW _ j p hj
  .cases A with
   | none=>cases e
   | some a=>exact hn ⟨a,rfl,qSj e⟩
  .refine⟨_,(xs++cg_ s).map λx=>[Value.int .u8 x],Ga.put_self _ _ _,rfl,rfl,?_,by simp,λq hq=>?_,rowsI_mk _,λp hp=>nomatch hp⟩
   .rw[p8_];exact u
   .obtain⟨x,_,rfl⟩:=zZ.1 hq;rfl
  .obtain⟨l2,a2,h5,h6,rfl⟩:=hq;rw[Ga.put_self]at h5;obtain rfl:=qSj h5;exact ZU _ ⟨a2,h6,rfl⟩
 .cases hB
theorem lAppS_ok{T T':tA}{x y:tN}(ho:o.op = .call { callee:=.builtin .append,args:=#[x,y],argTypes:=#[T,T'] })(D:Fresh g nx)(hρ:OpR P E z g L ρ)(U:HR P E Bs F0 w0 w z g H)(h:lAppS P E L H nx T T' x y k=some r):dh_ P E Bs F0 w0 w z g nx H ρ o false k r:=by
 unfold lAppS at h;split at h
 .rename_i cx s e hx hy Z C;have ex:=hρ x _ hx;have ey:=SV.str_ok rfl (hρ y _ hy);split at h
  .rename_i id V;split at h
   .rename_i e' xs foc hi;split at h
    .rename_i hb;obtain rfl:=qNb hb;obtain⟨l,h1,ev⟩:=ex;obtain⟨l2,rows,h3,J,hc,f,F,ZZ,m,_⟩:=U.hold _ _ hi;rw[h1]at h3;obtain rfl:=qSj h3;have O:l.c=1:=hc;rw[O,J,rowsI_map m (F.trans J),p8_]at f;rw[J]at ev;exact appS_ok ho Z C V D U ev ey f id (λq ⟨a,G,hq⟩=>⟨_,hi,l,a,h1,G,hq⟩) (λo' j p M=>by
      rcases tn_ M with u|⟨u,h6,Y⟩
      .exact .inl u
      .exact .inr ⟨u,.inl h6,Y⟩) h
    .cases h
   .cases h
  .rename_i V;have ev:ρ x = .slice none 0 0:=ex;exact appS_ok (xs:=[]) (del:=[]) (A:=none) (cap:=0) ho Z C V D U ev ey ⟨by simp,.inl ⟨rfl,rfl⟩⟩ nx (λq ⟨a,G,_⟩=>nomatch G) (λo' j p M=>by
      rcases aP_ M with u|⟨u,Y⟩
      ·exact .inl u
      ·exact .inr ⟨u,.inr (λq ⟨a,G,_⟩=>nomatch G),Y⟩) h
  .cases h
 .cases h
theorem HR.row_new{e:tA}{t:Ty}{xs:tL (Den E.S t)}{A:tO Addr}{cap n:Nat}{rows:tL (tL tW)}{w':tS}(h:HR P E Bs F0 w0 w z g H)(u:Fresh g nx)(hx:Ext w w')(F:xs.length=n)
  (m:w'.ownsRow 0 e (E.size t) (.slice A n cap) n rows.flatten) (s:rows.length=n) (f:Rows E z t xs rows) (x:∀q,dT_ A q->w.heap.size<=q) :
  HR P E Bs F0 w0 w' z (g.put nx ⟨A,n,cap,E.size t,0,0⟩) (upH H [(nx,some (.row e t xs []))]):=by
 refine h.add (o:=.row e t xs []) hx u.self ⟨_,rows,Ga.put_self _ _ _,F.symm,rfl,m,s,(f.cells (by omega)).2,f,λp D=>nomatch D⟩ (λq C=>?_) λj p G=>aP_ G
 obtain⟨l2,a2,y,J,rfl⟩:=C;rw[Ga.put_self]at y;obtain rfl:=qSj y;exact x _ ⟨a2,J,rfl⟩
def zeroD(P:tT)(E:TE)(e:tA)(t:Ty):tO (Den E.S t):=match l2_ P E e with
 | some zc=>match bP_ E (λ_=>none) (E.flat t) zc with
  | some h=>some (E.ufl t h)
  | none=>none
 | none=>none
def Operand.same:tN->tN->tV|.tmp a,.tmp b=>Nat.beq a b|.const (.int _ a),.const (.int _ b)=>decide (a=b)|_,_=>false
def Operand.zero:tN->tV|.const (.int _ a)=>decide (a=0)|_=>false
def lMake(P:tT)(E:TE)(L:Nat->tO (SV E))(nx:Nat)(T:tA)(x y:tN){R:Type}(k:tO (SV E)->Chs E->tO R):tO R:=
 match P.underlying T with
 | some (.slice e)=>match E.ty e,opS E L y with
  | some t,some (.v (.one (.dt (.int _) n)))=>match zeroD P E e t,elemB P e (E.size t) (jh_ P e),Operand.same x y,Operand.zero x with
   | some zv,true,true,_=>Option.bind (iq_ (jh_ P e) zv n) λxs=>k (some (.v (.one (.own nx)))) [(nx,some (.row e t xs []))]
   | some zv,true,false,true=>Option.bind (iq_ (jh_ P e) zv n) λ_=>k (some (.v (.one (.own nx)))) [(nx,some (.row e t [] []))]
   | _,_,_,_=>none
  | _,_=>none
 | _=>none
theorem uK_ {e:tA} {t:Ty} {x:Den E.S t} (h:zeroD P E e t=some x):∃zs,zeroOf P e=some zs/\RD E z (E.flat t) (E.fl t x) zs:=by
 unfold zeroD at h;split at h
 .rename_i zc C;split at h
  .rename_i j F;obtain rfl:=qSj h;obtain⟨zs,h1,q⟩:=p7_ (P:=P) (z:=z) (g:=λ_=>none) C;refine⟨zs,h1,?_⟩;rw[E.fl_ufl]
   have key:∀{ts:tL Ty} {cs:tL (SC E)} {m:HL E.S ts} {vs:tL tW},bP_ E (λ_=>none) ts cs=some m->All2 (RC P E z (λ_=>none)) cs vs->RD E z ts m vs:=by
    intro ts cs m vs j s
    induction cs generalizing ts vs with
    | nil=>cases ts with
     | nil=>cases s;exact .nil
     | cons t ts=>simp[bP_]at j
    | cons c cs u=>cases ts with
     | nil=>simp[bP_]at j
     | cons t ts=>
      cases s with
      | cons h1 q=>
       simp only[bP_]at j;split at j
       .cases j
       .rename_i y f;split at j
        .rename_i G p;obtain rfl:=qSj j;refine RD.cons ?_ (u p q);unfold SC.data at f;split at f
         .split at f
          .rename_i D;subst D;obtain rfl:=qSj f;exact h1
          .cases f
         .split at f
          .obtain rfl:=qSj f;simp only[RC]at h1;subst h1;exact RD.sl (xs:=[]) (cap:=0) (SlF.nil _ _ _ _) (qA _) (rows:=[]) (λi x r h=>by simp at h) .nil
          .cases f
         .cases f
         .cases f
         .cases f
        .cases j
   exact key F q
  .cases h
 .cases h
theorem same_int{x y:tN}{ky:IntKind}{n:Int}(f:Operand.same x y=true)(j:ρ y = .int ky n)(hρc:∀v,ρ (.const v)=v):∃kx,ρ x = .int kx n:=by
 unfold Operand.same at f;split at f
 .obtain rfl:=qNb f;exact⟨ky,j⟩
 .rename_i ka a kb b;simp only[qDe]at f;subst f;rw[hρc]at j;injection j with h1 m;exact⟨ka,by rw[hρc,m]⟩
 .cases f
theorem lMake_ok{T:tA}{x y:tN}(ho:o.op = .makeSlice T x y)(hρc:∀v,ρ (.const v)=v)(s:Fresh g nx)(hρ:OpR P E z g L ρ)(hH:HR P E Bs F0 w0 w z g H)(h:lMake P E L nx T x y k=some r):dh_ P E Bs F0 w0 w z g nx H ρ o true k r:=by
 unfold lMake at h;split at h
 .rename_i e hu;split at h
  .rename_i t ky n ht hy;have J:=SV.int_ok rfl (hρ y _ hy);split at h
   .rename_i zv hz U C;obtain⟨xs,G,h⟩:=bind_some h;have V:=elemOK hu U;obtain⟨zs,Z,Y⟩:=uK_ (z:=z) hz;obtain⟨kx,u⟩:=same_int C J hρc;obtain⟨A',w',D,F,j⟩:=run_makeSlice_full (P:=P) ho V Z u J (Sep.start [] w) G;obtain⟨h0,h1,h2,rfl⟩:=lY_ G;obtain⟨m,p,_⟩:=F.hold _ (qR ..);have O:=F.own _ (qR ..) trivial;have M:Rows E z t (List.replicate n.toNat zv) (List.replicate n.toNat zs):=λi x r hx hr=>by
     rw[List.getElem?_replicate]at hx hr;split at hx
     .rename_i hc;rw[qY hc]at hr;obtain rfl:=qSj hx;obtain rfl:=qSj hr;exact Y
     .cases hx
    exact⟨_,_,z,_,w',_,h,⟨D,⟨_,rfl,_,Ga.put_self _ _ _,rfl⟩,Fz.Le.refl z,Ga.le_put s.self,s.put _,hH.row_new s j (by simp) m p M (λq ⟨a,ha,hq⟩=>(O q ⟨a,ha,hq⟩).resolve_right (by simp)),λ_=>j⟩⟩
   .rename_i zv hz U C f;obtain⟨xs,G,h⟩:=bind_some h;have V:=elemOK hu U;have u:∃kx,ρ x = .int kx 0:=by
     unfold Operand.zero at f;split at f
     .rename_i ka a;simp only[qDe]at f;subst f;exact⟨ka,hρc _⟩
     .cases f
    obtain⟨kx,u⟩:=u;obtain⟨A',w',D,F,j⟩:=tG_ (P:=P) ho V u J (Sep.start [] w) G;obtain⟨m,p,_⟩:=F.hold _ (qR ..);have O:=F.own _ (qR ..) trivial;exact⟨_,_,z,_,w',_,h,⟨D,⟨_,rfl,_,Ga.put_self _ _ _,rfl⟩,Fz.Le.refl z,Ga.le_put s.self,s.put _,hH.row_new s j rfl m p (λi x r h=>by simp at h) (λq ⟨a,ha,hq⟩=>(O q ⟨a,ha,hq⟩).resolve_right (by simp)),λ_=>j⟩⟩
   .cases h
  .cases h
 .cases h
def lAppN (P:tT) (E:TE) (L:Nat->tO (SV E)) (nx:Nat) (T T':tA) (x y:tN) {R:Type} (k:tO (SV E)->Chs E->tO R):tO R:=
 match opS E L x,opS E L y,P.underlying T,P.underlying T' with
 | some (.v (.one .nils)),some (.v (.one (.dt (.int _) n))),some (.slice e),some (.int _)=>match E.ty e with
  | some t=>match zeroD P E e t,elemB P e (E.size t) (jh_ P e)with
   | some zv,true=>match decide (0<n)with
    | true=>Option.bind (iq_ (jh_ P e) zv n) λxs=>k (some (.v (.one (.own nx)))) [(nx,some (.row e t xs []))]
    | false=>none
   | _,_=>none
  | none=>none
 | _,_,_,_=>none
theorem lAppN_ok{T T':tA}{x y:tN}(ho:o.op = .call { callee:=.builtin .append,args:=#[x,y],argTypes:=#[T,T'] })(C:Fresh g nx)(hρ:OpR P E z g L ρ)(hH:HR P E Bs F0 w0 w z g H)(h:lAppN P E L nx T T' x y k=some r):dh_ P E Bs F0 w0 w z g nx H ρ o false k r:=by
 unfold lAppN at h;split at h
 .rename_i ky n e kn hx hy hu ZZ;have ex:ρ x = .slice none 0 0:=hρ x _ hx;have ey:=SV.int_ok rfl (hρ y _ hy);split at h
  .rename_i t ht;split at h
   .rename_i zv hz ZY;split at h
    case h_2=>cases h
    rename_i f;obtain⟨xs,Z,h⟩:=bind_some h;have f:=of_decide_eq_true f;obtain⟨zs,F,Y⟩:=uK_ (z:=z) hz;obtain⟨_,i,z',hi,D,s,ZX,ZU,ZT⟩:=elemOK hu ZY;obtain⟨h0,h1,h2,rfl⟩:=lY_ Z;have key:∀n:Int,0<=n->∃m:Nat,n=(m:Int):=λn h=>⟨n.toNat,by omega⟩
    obtain⟨m,rfl⟩:=key n h0;have u:0<m:=by have:(0:Int)<(m:Int):=f;omega
    have ZW:jh_ P e*m<=281474976710656:=by have:=h2;rw[←Int.natCast_mul]at this;omega
    have G:zs=z'.cells.toList:=by
     simp only[zeroOf,hi,D,qOi]at F;exact F.symm
    have ZV:zs.length=i.size:=by rw[G,qO];omega
    have J:=Lib.run_append_nil_zeros (P:=P) w T T' o.type e i z' ky kn hu ZZ hi D m u (by omega) h1 (by rw[ZX,zp];exact ZW);have V:=grownCap_ge w m 0 e;have O:(Builtin.zeroCells z'.cells m).toList=(List.replicate m zs).flatten:=by
     rw[cO_,G,qO];rfl
    have p:Rows E z t (List.replicate m zv) (List.replicate m zs):=λi x r hx hr=>by
     rw[List.getElem?_replicate]at hx hr;split at hx
     .rename_i hc;rw[qY hc]at hr;obtain rfl:=qSj hx;obtain rfl:=qSj hr;exact Y
     .cases hx
    have U:Ext w (w.drew.alloc (.cells (Builtin.zeroCells z'.cells m++Builtin.zeroCells z'.cells (grownCap w m 0 e-m)) e)):=(Ext.refl w).drew.trans (Ext.one _ _);have j:∀q,(Builtin.zeroCells z'.cells q).size=q*i.size:=λq=>by
     unfold Builtin.zeroCells;rw[Array.size_map,Array.size_range];rw[show z'.cells.size=i.size by omega]
    have M:(w.drew.alloc (.cells (Builtin.zeroCells z'.cells m++Builtin.zeroCells z'.cells (grownCap w m 0 e-m)) e)).ownsRow 0 e (E.size t) (.slice (some ⟨w.heap.size,0,none⟩) m (grownCap w m 0 e)) m (List.replicate m zs).flatten:=by
     refine⟨by rw[←O,qO,j,s],.inr ⟨w.heap.size,grownCap w m 0 e,_,rfl,qv _,(by show(w.heap.push _)[w.heap.size]? = _;rw[Array.getElem?_push_size]),V,grownCap_le_maxLen w m 0 e (by unfold maxLen;omega),?_,?_⟩⟩
     .rw[Array.size_append,j,j,←Nat.add_mul,s]
      congr 1;omega
     .rw[Array.toList_append,List.take_left' (by rw[qO,j,s])];exact O
    refine⟨_,_,z,_,_,_,h,⟨?_,⟨_,rfl,_,Ga.put_self _ _ _,rfl⟩,Fz.Le.refl z,Ga.le_put C.self,C.put _,hH.row_new C U (by simp) M (by simp) p (λq ⟨a,ha,hq⟩=>by obtain rfl:=qSj ha;rw[hq];exact qA _),λe=>nomatch e⟩⟩;unfold execOp;rw[ho];simp only[resolve,invoke,builtin,Sem.run_bind,Sem.run_pure,Result.andThen_ok,jI,zY,List.map_nil,ex,ey];show(Result.andThen ((Builtin.append_ #[T,T'] o.type #[Value.slice none 0 0,Value.int ky (m:Int)]).run P w) _)=_;rw[J];simp
   .cases h
  .cases h
 .cases h
def o6_(E:TE)(H:Nat->tO (Obj E))(t:Ty):Nat->tL (SC E)->tO (tL (Den E.S t))
 | 0,_=>some []
 | n+1,l=>match bP_ E H (E.flat t) (l.take (E.size t))with
  | some h=>match o6_ E H t n (l.drop (E.size t))with
   | some xs=>some (E.ufl t h::xs)
   | none=>none
  | none=>none
theorem vW_{t:Ty}(m:HR P E Bs F0 w0 w z g H):∀{n:Nat} {l:tL (SC E)} {xs:tL (Den E.S t)} {vs:tL tW},o6_ E H t n l=some xs->All2 (RC P E z g) l vs->vs.length=n*E.size t ->
  ∃rows:tL (tL tW),rows.flatten=vs/\rows.length=n/\xs.length=n/\Rows E z t xs rows
 | 0,l,xs,vs,h,hr,j=>by
  simp only[o6_,qOi]at h;subst h;rw[Nat.zero_mul]at j;exact⟨[],(zi j).symm,rfl,rfl,λi x r h=>by simp at h⟩
 | n + 1,l,xs,vs,h,hr,j=>by
  simp only[o6_]at h;split at h
  .rename_i y p;split at h
   .rename_i xs' hx;obtain rfl:=qSj h;have f:=ds_ m p (hr.take (E.size t));obtain⟨rows,h1,u,s,q⟩:=vW_ m hx (hr.drop (E.size t)) (by rw[qk,j,zK];omega);refine⟨vs.take (E.size t)::rows,by rw[zF,h1,zD],by simp[u],by simp[s],λi x r hx hr=>?_⟩;cases i with
    | zero=>
     simp only[jG,qOi]at hx hr;subst hx;subst hr;rw[E.fl_ufl];exact f
    | succ i=>
     simp only[List.getElem?_cons_succ]at hx hr;exact q i x r hx hr
   .cases h
  .cases h
theorem All2.rep{l:tL (SC E)}{vs:tL tW}(h:All2 (RC P E z g) l vs):∀n,All2 (RC P E z g) (List.replicate n l).flatten (List.replicate n vs).flatten
 | 0=>.nil
 | n+1=>by
  simp only[List.replicate_succ,zF];exact h.append (h.rep n)
def lSlice (P:tT) (E:TE) (L:Nat->tO (SV E)) (H:Nat->tO (Obj E)) (nx:Nat) (T:tA) (n:Nat) (ps:Array (Nat×tN)) {R:Type} (k:tO (SV E)->Chs E->tO R):tO R:=
 match P.underlying T with
 | some (.slice e)=>match E.ty e,l2_ P E e,aK_ P e with
  | some t,some zc,some s=>match Nat.beq s (E.size t)&&Nat.beq zc.length s&&Nat.ble (n*s) 16777216&&Nat.ble n 9223372036854775807 with
   | true=>match o5_ E L s ps.toList (List.replicate n zc).flatten with
    | some l=>match o6_ E (upH H (dD_ H l)) t n l with
     | some xs=>k (some (.v (.one (.own nx)))) ((nx,some (.row e t xs []))::dD_ H l)
     | none=>none
    | none=>none
   | false=>none
  | _,_,_=>none
 | _=>none
theorem lSlice_ok {T:tA} {n:Nat} {ps:Array (Nat×tN)} (ho:o.op = .buildSlice T n ps) (J:Fresh g nx) (hρ:OpR P E z g L ρ) (hH:HR P E Bs F0 w0 w z g H) (h:lSlice P E L H nx T n ps k=some r):dh_ P E Bs F0 w0 w z g nx H ρ o true k r:=by
 unfold lSlice at h;split at h
 .rename_i e hu;split at h
  .rename_i t zc s ht hz hs;split at h
   .rename_i hb;simp only[qAn]at hb;obtain⟨⟨⟨ZQ,ZR⟩,ZS⟩,ZT⟩:=hb;obtain rfl:=qNb ZQ;have ZY:=qNb ZR;have ZP:=qq ZS;split at h
    .rename_i l hl;split at h
     .rename_i xs hx;obtain⟨zs,j,O⟩:=p7_ (P:=P) (z:=z) (g:=g) hz;have ZZ:zs.length=E.size t:=by rw[←O.len];exact ZY
      obtain⟨inf,zv,hi,D,rfl⟩:∃inf zv,P.info? e=some inf/\inf.zero=some zv/\zs=zv.cells.toList:=by
       unfold zeroOf at j;split at j
       .rename_i inf hi;split at j
        .rename_i zv D;exact⟨inf,zv,hi,D,(qSj j).symm⟩
        .cases j
       .cases j
      have m:inf.size=E.size t:=by simpa[aK_,hi]using hs
      have y:=cO_ zv.cells.toList n;rw[ZZ,qw]at y;obtain⟨cells',hf,hr⟩:=on_ (P:=P) hρ hl (cells:=madeCells zv.cells (n*E.size t)) (by rw[←y];exact O.rep n)
      have Y:∀(ps:tL (Nat×tW)) (c c':Array tW) (pl:Nat->tO (Nat×Nat)),Instr.fill pl c ps=some c'->c'.size=c.size:=by
       intro ps
       induction ps with
       | nil=>intro c c' pl h;simp only[Instr.fill,qOi]at h;subst h;rfl
       | cons p ps ih=>
        intro c c' pl h;simp only[Instr.fill]at h;split at h
        .cases h
        .split at h
         .cases h
         .rw[ih _ _ _ h];have key:∀(us:tL (tW×Nat)) (off:Nat) (c:Array tW),(us.foldl (λcs (q:tW×Nat)=>cs.setIfInBounds (off+q.2) q.1) c).size=c.size:=by
           intro us
           induction us with
           | nil=>intro off c;rfl
           | cons u us ih=>intro off c;rw[List.foldl_cons,ih];simp
          rw[←Array.foldl_toList];exact key _ _ _
      have ZU:cells'.toList.length=n*E.size t:=by
       rw[qO,Y _ _ _ _ hf,size_madeCells]
      obtain⟨z',U,Z⟩:=di_ hH l;obtain⟨rows,h1,h2,h3,h4⟩:=vW_ Z hx (hr.mono λ_ _ h=>RC.le h U (Ga.Le.refl g)) ZU;have C:=h4.cells (by omega);have hS:=(Sep.start [] w).row_new e (E.size t) n rows h2 C.2 ZT;rw[h1,qw]at hS;obtain⟨G,M,_⟩:=hS.hold _ (qR ..);have ZV:=hS.own _ (qR ..) trivial;have V:(execOp ρ o).run P w = .ok (.value (.slice (some ⟨w.heap.size,0,none⟩) n n)) (w.alloc (.cells cells' e)):=by
       unfold execOp;rw[ho];have e3:(ps.map λ(i,x)=>(i,ρ x)).toList=ps.toList.map λp=>(p.1,ρ p.2):=by simp
       have ZW:¬(n*inf.size>2^24):=by rw[m];omega
       simp only[Instr.buildSlice,Sem.run_bind,run_underlying hu,Result.andThen_ok,sizeOf,typeInfo,run_program,hi,Sem.run_pure];rw[qG ZW];rw[e3];by_cases h0:n*E.size t=0
       .rw[qY (by rw[m];exact h0)];have f:(Array.range (n*E.size t)).map (λx=>(#[]:Array tW)[x%(#[]:Array tW).size]!)=madeCells zv.cells (n*E.size t):=by rw[h0];simp[madeCells]
        simp only[Sem.run_bind,Sem.run_pure,Result.andThen_ok,f,m,hf,newRow];rfl
       .rw[qG (by rw[m];exact h0)];have f:(Array.range (n*E.size t)).map (λx=>zv.cells[x%zv.cells.size]!)=madeCells zv.cells (n*E.size t):=rfl;have F:(zeroValue e).run P w = .ok zv w:=by simp[zeroValue,typeInfo,hi,D]
        simp only[Sem.run_bind,Sem.run_pure,Result.andThen_ok,F,f,m,hf,newRow];rfl
      have ZX:upH H ((nx,some (.row e t xs []))::dD_ H l)=upH (upH H (dD_ H l)) [(nx,some (.row e t xs []))]:=by rw[aJ_];rfl
      refine⟨_,_,z',_,_,_,h,⟨V,⟨_,rfl,_,Ga.put_self _ _ ⟨some ⟨w.heap.size,0,none⟩,n,n,E.size t,0,0⟩,rfl⟩,U,Ga.le_put J.self,J.put _,?_,λ_=>Ext.one w _⟩⟩;rw[ZX];exact Z.row_new J (Ext.one w _) h3 G M h4 λq ⟨a,ha,hq⟩=>(ZV q ⟨a,ha,hq⟩).resolve_right (by simp)
     .cases h
    .cases h
   .cases h
  .cases h
 .cases h
theorem run_copy_own{T T2 e c:Nat}{x y:tN}{n cap m cap2:Nat}{A A2:tO Addr}{rows news:tL (tL tW)}{F:Nat->Prop}(ho:o.op = .call { callee:=.builtin .copy,args:=#[x,y],argTypes:=#[T,T2] })(hu:P.underlying T=some (.slice e))(hs:aK_ P e=some c)
  (hx:ρ x = .slice A n cap) (hy:ρ y = .slice A2 m cap2) (hR:Res.holds w (.row e c A n cap rows)) (s:SlF F c A2 m news w) (V:∀q∈news,q.length=c) (ZU:oZ_ news) :
  ∃w',(execOp ρ o).run P w = .ok (.value (.int .i64 ((min m n:Nat):Int))) w'/\Res.holds w' (.row e c A n cap (news.take (min m n)++rows.drop (min m n)))/\Grow w w'/\∀q,¬dT_ A q->w'.heap[q]? = w.heap[q]?:=by
 obtain⟨cs,U⟩:=jg_ (ρ:=ρ) ho;rw[BigFrame.builtin_copy]at U;obtain⟨ZV,M,ZX⟩:=hR;obtain⟨inf,hi,ZY⟩:∃inf,P.info? e=some inf/\inf.size=c:=by
  unfold aK_ at hs;cases f:P.info? e with
  | none=>simp[f]at hs
  | some i=>exact⟨i,rfl,by simpa[f]using hs⟩
 have ZF:Nat.min m n=min m n:=rfl;have C:(Builtin.firstCells c (Nat.min m n) (.slice A2 m cap2)).run P w = .ok (news.take (min m n)).flatten.toArray w:=by
  have ZZ:∀q∈news.take (min m n),q.length=c:=λq f=>V q (qh f)
  have p:(news.take (min m n)).flatten.length=min m n*c:=by
   rw[av_ ZZ,qX,s.1]
   congr 1;omega
  cases A2 with
  | none=>
   have hm:m=0:=by
    rcases qg m with h0|h0
    .exact h0
    .obtain⟨b,off,hh,_⟩:=s.2 h0;cases hh
   have:(news.take (min m n)).flatten=[]:=zi (by rw[p,hm];simp);rw[this];rfl
  | some ad=>
   have:=run_loadCells_list (P:=P) w ad (news.take (min m n)).flatten (λj v G=>by
    have Y:j<min m n*c:=by rw[←p];exact(qK.1 G).1
    have ZG:0<c:=by
     rcases qg c with h0|h0
     .rw[h0]at Y;omega
     .exact h0
    have ZJ:0<m:=by
     rcases qg m with h0|h0
     .subst h0;simp at Y
     .exact h0
    obtain⟨b,off,hA,_,Z⟩:=s.2 ZJ;simp only[qOi]at hA;subst hA;have f:j/c<min m n:=jM (by rw[zp];exact Y);have ZW:j/c<news.length:=by rw[s.1];omega
    have J:j%c<c:=Nat.mod_lt _ ZG;have u:=Z (j/c) _ (qQ ZW);have ZI:(news.take (min m n))[j/c]? = some news[j/c]:=by rw[qx,qY f,qQ ZW]
    have ZS:=fO_ ZZ ZI (j%c) (news[j/c][j%c]'(by rw[u.1];exact J)) (qQ _);have hj:j/c*c+j%c=j:=by rw[zp];exact Nat.div_add_mod j c
    rw[hj,G]at ZS;have ZQ:=u.2 (j%c) _ (qQ (by rw[u.1];exact J));rw[zW,hj]at ZQ;rw[Addr.add_mk,ZQ,ZS])
   rw[p]at this;exact this
 have D:∀q∈news.take (min m n)++rows.drop (min m n),q.length=c:=λq f=>by
  rcases qW.1 f with f|f
  .exact V q (qh f)
  .exact ZX q (List.mem_of_mem_drop f)
 have h:(news.take (min m n)++rows.drop (min m n)).length=n:=by
  rw[qLa,qX,qk,s.1,M];omega
 have p:(news.take (min m n)).flatten.length=min m n*c:=by
  rw[av_ (c:=c) (λq f=>V q (qh f)),qX,s.1]
  congr 1;omega
 rcases ZV.2 with⟨G,ZK⟩|⟨b,cap',cur,G,hb,hh,ZL,ZH,ZR,ZO⟩
 .injection G with e1 e2 e3;subst ZK;subst e1;subst e3;refine⟨w,?_,⟨⟨?_,.inl ⟨rfl,rfl⟩⟩,h,D⟩,Grow.refl w,λ_ _=>rfl⟩
  .have ZT:=C;rw[show Nat.min m 0=0 from Nat.min_zero m]at ZT;rw[U];simp[hx,hy,Builtin.copy_,run_underlying hu,Builtin.lenOf,sizeOf,typeInfo,hi,ZY,ZT,goInt]
  .rw[av_ D,h]
 .injection G with e1 _ e3;subst e1;subst e3;have O:0+0+(news.take (min m n)).flatten.length<=cur.size:=by
   rw[p,ZR];have:min m n*c<=cap*c:=qf c (by omega);omega
  have h1:∀v∈(news.take (min m n)).flatten,v.oneCell'=true:=λv G=>by
   obtain⟨q,f,ZP⟩:=zg.1 G;exact go_ (ZU q (qh f)) v ZP
  have ZN:=run_storeCells_at (P:=P) b 0 e (news.take (min m n)).flatten 0 cur w hh O h1;refine⟨w.setRow b (cur.toList.take (0+0)++(news.take (min m n)).flatten++cur.toList.drop (0+0+(news.take (min m n)).flatten.length)).toArray,?_,⟨⟨?_,.inr ⟨b,cap,_,rfl,qv _,fk_ w b _ cur e hh,ZL,ZH,?_,?_⟩⟩,h,D⟩,ew_ w b _,λq f=>cw_ w b q _ (λhe=>f ⟨_,rfl,he⟩)⟩
  .rw[U];simp[hx,hy,Builtin.copy_,run_underlying hu,Builtin.lenOf,sizeOf,typeInfo,hi,ZY,C,goInt,ZN]
  .rw[av_ D,h]
  .simp only[qj,zl,List.take_zero,jD,zq,qLa,qk,qO,ZR]at O ⊢;omega
  .simp only[qj,zl,List.take_zero,jD];have ZM:(rows.drop (min m n)).flatten=rows.flatten.drop (min m n*c):=by
    have e1:rows.flatten=(rows.take (min m n)).flatten++(rows.drop (min m n)).flatten:=by rw[←zN,zD]
    have e2:(rows.take (min m n)).flatten.length=min m n*c:=by
     rw[av_ (c:=c) (λq f=>ZX q (qh f)),qX,M]
     congr 1;omega
    rw[e1,List.drop_left' e2]
   rw[zN,ZM,←ZO];rw[List.take_append,p];rw[zA (by rw[p];exact qf c (by omega))];rw[jV]
theorem run_copy_suf{T T2 e c:Nat}{x y:tN}{n cap m cap2 lo:Nat}{A A2:tO Addr}{rows news:tL (tL tW)}{F:Nat->Prop}(ho:o.op = .call { callee:=.builtin .copy,args:=#[x,y],argTypes:=#[T,T2] })(hu:P.underlying T=some (.slice e))(hs:aK_ P e=some c)(ZA:lo<=n)
  (hx:ρ x = .slice (cutA A c lo cap) (n-lo) (cap-lo)) (hy:ρ y = .slice A2 m cap2) (hR:Res.holds w (.row e c A n cap rows)) (u:SlF F c A2 m news w) (ZK:∀q∈news,q.length=c) (ZL:oZ_ news) :
  ∃w',(execOp ρ o).run P w = .ok (.value (.int .i64 ((min m (n-lo):Nat):Int))) w'/\Res.holds w' (.row e c A n cap (rows.take lo++(news.take (min m (n-lo))++rows.drop (lo+min m (n-lo)))))/\Grow w w'/\∀q,¬dT_ A q->w'.heap[q]? = w.heap[q]?:=by
 obtain⟨cs,O⟩:=jg_ (ρ:=ρ) ho;rw[BigFrame.builtin_copy]at O;obtain⟨ZM,G,M⟩:=hR;obtain⟨inf,hi,ZX⟩:∃inf,P.info? e=some inf/\inf.size=c:=by
  unfold aK_ at hs;cases f:P.info? e with
  | none=>simp[f]at hs
  | some i=>exact⟨i,rfl,by simpa[f]using hs⟩
 obtain⟨k,hk⟩:∃k,k=min m (n-lo):=⟨_,rfl⟩;have ZY:Nat.min m (n-lo)=k:=hk.symm;rw[←hk];have Zm:k<=m:=by omega
 have Zz:lo+k<=n:=by omega
 have ZT:∀q∈news.take k,q.length=c:=λq f=>ZK q (qh f)
 have s:(news.take k).flatten.length=k*c:=by
  rw[av_ ZT,qX,u.1]
  congr 1;omega
 have h:(Builtin.firstCells c k (.slice A2 m cap2)).run P w = .ok (news.take k).flatten.toArray w:=by
  cases A2 with
  | none=>
   have hm:m=0:=by
    rcases qg m with h0|h0
    .exact h0
    .obtain⟨b,off,hh,_⟩:=u.2 h0;cases hh
   have:(news.take k).flatten=[]:=zi (by rw[s,show k=0 by omega];simp);rw[this];rfl
  | some ad=>
   have:=run_loadCells_list (P:=P) w ad (news.take k).flatten (λj v Z=>by
    have Y:j<k*c:=by rw[←s];exact(qK.1 Z).1
    have Zr:0<c:=by
     rcases qg c with h0|h0
     .rw[h0]at Y;omega
     .exact h0
    have ZB:0<m:=by
     rcases qg m with h0|h0
     .rw[show k=0 by omega]at Y;simp at Y
     .exact h0
    obtain⟨b,off,hA,_,ZU⟩:=u.2 ZB;simp only[qOi]at hA;subst hA;have f:j/c<k:=jM (by rw[zp];exact Y);have ZN:j/c<news.length:=by rw[u.1];omega
    have ZZ:j%c<c:=Nat.mod_lt _ Zr;have D:=ZU (j/c) _ (qQ ZN);have Zu:(news.take k)[j/c]? = some news[j/c]:=by rw[qx,qY f,qQ ZN]
    have ZH:=fO_ ZT Zu (j%c) (news[j/c][j%c]'(by rw[D.1];exact ZZ)) (qQ _);have hj:j/c*c+j%c=j:=by rw[zp];exact Nat.div_add_mod j c
    rw[hj,Z]at ZH;have J:=D.2 (j%c) _ (qQ (by rw[D.1];exact ZZ));rw[zW,hj]at J;rw[Addr.add_mk,J,ZH])
   rw[s]at this;exact this
 have U:∀q∈rows.take lo++(news.take k++rows.drop (lo+k)),q.length=c:=λq f=>by
  rcases qW.1 f with f|f
  .exact M q (qh f)
  .rcases qW.1 f with f|f
   .exact ZK q (qh f)
   .exact M q (List.mem_of_mem_drop f)
 have p:(rows.take lo++(news.take k++rows.drop (lo+k))).length=n:=by
  simp only[qLa,qX,qk,u.1,G];omega
 rcases ZM.2 with⟨Z,ZC⟩|⟨b,cap',cur,Z,hb,hh,ZJ,Zt,ZV,ZR⟩
 .injection Z with e1 e2 e3;subst ZC;subst e1;subst e3;have V:k=0:=by omega
  have ZI:lo=0:=by omega
  subst V;subst ZI;refine⟨w,?_,⟨⟨?_,.inl ⟨rfl,rfl⟩⟩,p,U⟩,Grow.refl w,λ_ _=>rfl⟩
  .have ZW:(news.take 0).flatten=[]:=by simp
   rw[ZW]at h;have ZF:cutA none c 0 0=none:=rfl;rw[ZF]at hx;rw[O];simp[hx,hy,Builtin.copy_,run_underlying hu,Builtin.lenOf,sizeOf,typeInfo,hi,ZX,h,goInt]
  .rw[av_ U,p]
 .injection Z with e1 _ e3;subst e1;subst e3;have hlc:lo*c<=n*c:=qf _ ZA;have Zp:n*c<=cap*c:=qf _ ZJ;have Zy:(lo+k)*c=lo*c+k*c:=Nat.add_mul _ _ _;have Zo:(lo+k)*c<=n*c:=qf _ Zz;have h1:∀v∈(news.take k).flatten,v.oneCell'=true:=λv Z=>by
   obtain⟨q,f,ZD⟩:=zg.1 Z;exact go_ (ZL q (qh f)) v ZD
  have J:cur.toList.length=cap*c:=by simpa using ZV
  have e5:(rows.take lo).flatten=rows.flatten.take (lo*c):=by
   have f1:rows.flatten=(rows.take lo).flatten++(rows.drop lo).flatten:=by rw[←zN,zD]
   have f2:(rows.take lo).flatten.length=lo*c:=by
    rw[av_ (c:=c) (λq f=>M q (qh f)),qX,G]
    congr 1;omega
   rw[f1,List.take_left' f2]
  have e6:(rows.drop (lo+k)).flatten=rows.flatten.drop ((lo+k)*c):=by
   have f1:rows.flatten=(rows.take (lo+k)).flatten++(rows.drop (lo+k)).flatten:=by rw[←zN,zD]
   have f2:(rows.take (lo+k)).flatten.length=(lo+k)*c:=by
    rw[av_ (c:=c) (λq f=>M q (qh f)),qX,G]
    congr 1;omega
   rw[f1,List.drop_left' f2]
  have ZG:∃cs',(execOp ρ o).run P w = .ok (.value (.int .i64 ((k:Nat):Int))) (w.setRow b cs')/\cs'.size=cap*c/\cs'.toList.take (n*c)=(rows.take lo++(news.take k++rows.drop (lo+k))).flatten:=by
   rcases qg k with V|Zn
   .refine⟨cur,?_,ZV,?_⟩
    .have ZW:(news.take k).flatten=[]:=zi (by rw[s,V];simp);rw[ZW]at h;rw[setRow_self w b cur e (0,0) hh];rw[O];have ZE:∀(a:Addr),(storeCells a [] 0).run P w = .ok () w:=λa=>rfl
     cases hA:cutA (some (⟨b,0,none⟩:Addr)) c lo cap<;>rw[hA]at hx<;>simp[hx,hy,Builtin.copy_,run_underlying hu,Builtin.lenOf,sizeOf,typeInfo,hi,ZX,ZY,h,goInt,ZE]
    .rw[ZR,V];simp
   .have hA:cutA (some (⟨b,0,none⟩:Addr)) c lo cap=some ⟨b,lo*c,none⟩:=by
     unfold cutA;rw[qG (by omega)];simp[Addr.add_mk]
    rw[hA]at hx;have ZP:=run_storeCells_at (P:=P) b (lo*c) e (news.take k).flatten 0 cur w hh (by rw[s,ZV];omega) h1;simp only[zl]at ZP;refine⟨(cur.toList.take (lo*c)++(news.take k).flatten++cur.toList.drop (lo*c+(news.take k).flatten.length)).toArray,?_,?_,?_⟩
    .rw[O];simp[hx,hy,Builtin.copy_,run_underlying hu,Builtin.lenOf,sizeOf,typeInfo,hi,ZX,ZY,h,goInt,ZP]
    .simp only[zq,qLa,qX,qk,s,J];omega
    .show(cur.toList.take (lo*c)++(news.take k).flatten++cur.toList.drop (lo*c+(news.take k).flatten.length)).take (n*c)=_;have tk:∀(A B C:tL tW) (a b N:Nat),A.length=a->B.length=b->a+b<=N->(A++B++C).take N=A++(B++C.take (N-(a+b))):=by
      intro A B C a b N h1 h2 h3;subst h1;subst h2;rw[List.take_append,zA (by simp only[qLa];omega),qLa,qy]
     rw[tk _ _ _ (lo*c) (k*c) (n*c) (by rw[qX,J];omega) s (by omega),zN,zN,e5,e6,←ZR,List.take_take,Nat.min_eq_left hlc,jV,s,Zy]
  obtain⟨cs',ZO,ZQ,ZS⟩:=ZG;refine⟨_,ZO,⟨⟨?_,.inr ⟨b,cap,cs',rfl,qv _,fk_ w b _ cur e hh,ZJ,Zt,ZQ,ZS⟩⟩,p,U⟩,ew_ w b _,λq f=>cw_ w b q _ (λhe=>f ⟨_,rfl,he⟩)⟩;rw[av_ U,p]
def lCopy (P:tT) (E:TE) (L:Nat->tO (SV E)) (H:Nat->tO (Obj E)) (T:tA) (x y:tN) {R:Type} (k:tO (SV E)->Chs E->tO R):tO R:=
 match opS E L x,opS E L y,P.underlying T with
 | some (.v (.one (.own id))),some (.v (.one cy)),some (.slice e)=>match H id with
  | some (.row e' t xs _)=>match Nat.beq e' e,aK_ P e,cy.rdT H t with
   | true,some s,some f=>match Nat.beq s (E.size t)with
    | true=>k (some (.v (.one (.dt (.int .i64) ((min f.length xs.length:Nat):Int))))) [(id,some (.row e t (lZ_ xs f) []))]
    | false=>none
   | _,_,_=>none
  | _=>none
 | some (.v (.one (.suf id lo))),some (.v (.one cy)),some (.slice e)=>match H id with
  | some (.row e' t xs _)=>match Nat.beq e' e,aK_ P e,cy.rdT H t with
   | true,some s,some f=>match Nat.beq s (E.size t)with
    | true=>k (some (.v (.one (.dt (.int .i64) ((min f.length (xs.drop lo.toNat).length:Nat):Int))))) [(id,some (.row e t (o0_ xs lo.toNat f) []))]
    | false=>none
   | _,_,_=>none
  | _=>none
 | _,_,_=>none
theorem copy_rows{t:Ty}{xs f:tL (Den E.S t)}{rows news:tL (tL tW)}(h:Rows E z t xs rows)(m:Rows E z t f news)(j:news.length=f.length):Rows E z t (lZ_ xs f) (news.take (min f.length xs.length)++rows.drop (min f.length xs.length)):=by
 unfold lZ_;refine Rows.append ?_ ?_ (by rw[qX,qX,j])
 .have:=fp_ m 0 (min f.length xs.length);simpa using this
 .intro i x r hx hr;rw[qo]at hx hr;exact h _ x r hx hr
theorem lCopy_ok{T T2:tA}{x y:tN}(ho:o.op = .call { callee:=.builtin .copy,args:=#[x,y],argTypes:=#[T,T2] })(ZP:Fresh g nx)(hρ:OpR P E z g L ρ)(hH:HR P E Bs F0 w0 w z g H)(h:lCopy P E L H T x y k=some r):dh_ P E Bs F0 w0 w z g nx H ρ o false k r:=by
 unfold lCopy at h;split at h
 .rename_i id cy e hx hy hu;split at h
  .rename_i e' t xs foc hi;split at h
   .rename_i s ys hb hs ZW;obtain rfl:=qNb hb;split at h
    .rename_i ZR;obtain rfl:=qNb ZR;obtain⟨l,h1,ev⟩:=hρ x _ hx;obtain⟨l2,rows,h3,hn,Y,ZZ,V,ZV,u,_⟩:=hH.hold _ _ hi;rw[h1]at h3;obtain rfl:=qSj h3;obtain⟨A2,cap2,news,F,ey,M,ZS,f⟩:=SC.rdT_ok hH ZW (hρ y _ hy);obtain⟨ZX,ZU⟩:=f.cells M.1;obtain⟨w',J,ZQ,O,ZY⟩:=run_copy_own (P:=P) (w:=w) (rows:=rows) ho hu hs ev ey ⟨by rw[←Y];exact ZZ,V,by rw[←Y];exact ZV⟩ M ZU ZX;obtain⟨D,G,U⟩:=ZQ;have m:=copy_rows u f M.1;have ZT:(lZ_ xs ys).length=xs.length:=by unfold lZ_;simp;omega
     rw[hn]at J D G U;refine⟨_,_,z,g,w',_,h,⟨J,⟨_,rfl,.int .nil⟩,Fz.Le.refl z,Ga.Le.refl g,ZP.succ,?_,λh=>by cases h⟩⟩;refine hH.turn (Ga.Le.refl g) (i:=id) (i':=id) (C:=dT_ l.A) (λq ⟨a,ha,Z⟩=>⟨_,hi,l,a,h1,ha,Z⟩) O (λq _ Z=>ZY q Z) (o':=.row e' t (lZ_ xs ys) []) ?_ (λq Z=>?_) λj p hj=>?_
     .exact⟨l,_,h1,by rw[ZT];exact hn,Y,by rw[hn,Y];exact D,by rw[hn];exact G,by rw[Y];exact U,m,λp hp=>nomatch hp⟩
     .obtain⟨l2,a2,h5,h6,rfl⟩:=Z;rw[h1]at h5;obtain rfl:=qSj h5;exact .inl ⟨a2,h6,rfl⟩
     .rcases aP_ hj with⟨rfl,rfl⟩|⟨h5,h6⟩
      .exact .inl ⟨rfl,rfl⟩
      .exact .inr ⟨h5,.inl h5,h6⟩
    .cases h
   .cases h
  .cases h
 .rename_i id lo cy e hx hy hu;split at h
  .rename_i e' t xs foc hi;split at h
   .rename_i s ys hb hs ZW;obtain rfl:=qNb hb;split at h
    .rename_i ZR;obtain rfl:=qNb ZR;obtain⟨l,h1,ZN,ev⟩:=hρ x _ hx;obtain⟨l2,rows,h3,hn,Y,ZZ,V,ZV,u,_⟩:=hH.hold _ _ hi;rw[h1]at h3;obtain rfl:=qSj h3;obtain⟨A2,cap2,news,F,ey,M,ZS,f⟩:=SC.rdT_ok hH ZW (hρ y _ hy);obtain⟨ZX,ZU⟩:=f.cells M.1;rw[Y]at ev;obtain⟨w',J,ZQ,O,ZY⟩:=run_copy_suf (P:=P) (w:=w) (rows:=rows) ho hu hs ZN ev ey ⟨by rw[←Y];exact ZZ,V,by rw[←Y];exact ZV⟩ M ZU ZX;obtain⟨D,G,U⟩:=ZQ;have ZO:(xs.drop lo.toNat).length=l.n-lo.toNat:=by rw[qk,hn]
     have m:Rows E z t (o0_ xs lo.toNat ys) (rows.take lo.toNat++(news.take (min ys.length (l.n-lo.toNat))++rows.drop (lo.toNat+min ys.length (l.n-lo.toNat)))):=by
      unfold o0_ lZ_;rw[ZO,jW];refine Rows.append ?_ (Rows.append ?_ ?_ (by rw[qX,qX,M.1])) (by rw[qX,qX,V,hn])
      .have:=fp_ u 0 lo.toNat;simpa using this
      .have:=fp_ f 0 (min ys.length (l.n-lo.toNat));simpa using this
      .intro i x r hx hr;rw[qo]at hx hr;exact u _ x r hx hr
     have ZT:(o0_ xs lo.toNat ys).length=xs.length:=by unfold o0_ lZ_;simp;omega
     rw[←ZO]at J;refine⟨_,_,z,g,w',_,h,⟨J,⟨_,rfl,.int .nil⟩,Fz.Le.refl z,Ga.Le.refl g,ZP.succ,?_,λh=>by cases h⟩⟩;refine hH.turn (Ga.Le.refl g) (i:=id) (i':=id) (C:=dT_ l.A) (λq ⟨a,ha,Z⟩=>⟨_,hi,l,a,h1,ha,Z⟩) O (λq _ Z=>ZY q Z) (o':=.row e' t (o0_ xs lo.toNat ys) []) ?_ (λq Z=>?_) λj p hj=>?_
     .exact⟨l,_,h1,by rw[ZT];exact hn,Y,by rw[Y];exact D,G,by rw[Y];exact U,m,λp hp=>nomatch hp⟩
     .obtain⟨l2,a2,h5,h6,rfl⟩:=Z;rw[h1]at h5;obtain rfl:=qSj h5;exact .inl ⟨a2,h6,rfl⟩
     .rcases aP_ hj with⟨rfl,rfl⟩|⟨h5,h6⟩
      .exact .inl ⟨rfl,rfl⟩
      .exact .inr ⟨h5,.inl h5,h6⟩
    .cases h
   .cases h
  .cases h
 .cases h
theorem x0_(zs:Array tW)(n:Nat):(Builtin.zeroCells zs n).toList=(List.replicate n zs.toList).flatten:=by
 rw[cO_];simp[Builtin.zeroCells,madeCells]
theorem run_clear{T e c bytes:Nat}{x:tN}{A:tO Addr}{n cap:Nat}{zs:tL tW}(ho:o.op = .call { callee:=.builtin .clear,args:=#[x],argTypes:=#[T] })(O:ElemOK P T e c bytes)(U:zeroOf P e=some zs)
  (hx:ρ x = .slice A n cap):(A=none\/n=0->(execOp ρ o).run P w = .ok (.value (.tuple #[])) w) /\
  ∀b off cur,A=some ⟨b,off,none⟩->w.heap[b]? = some (.cells cur e (0,0))->off+n*c<=cur.size->(∀v∈zs,v.oneCell'=true)->0<n ->
   (execOp ρ o).run P w = .ok (.value (.tuple #[])) (w.setRow b (cur.toList.take off++(List.replicate n zs).flatten++cur.toList.drop (off+n*c)).toArray):=by
 obtain⟨G,i,z',hi,f,ZZ,ZY,D,V⟩:=O;have h:zs=z'.cells.toList:=by
  simp only[zeroOf,hi,f,qOi]at U;exact U.symm
 obtain⟨cs,M⟩:=jg_ (ρ:=ρ) ho;have hb:builtin .clear #[T] o.type cs #[ρ x]=(do pure (.value (←Builtin.clear_ #[T] o.type #[ρ x]))):=rfl;have s:execOp ρ o=(do pure (.value (←Builtin.clear_ #[T] o.type #[ρ x]))):=by rw[M,show(#[x]:Array tN).map ρ = #[ρ x]from by simp];exact hb
 rw[s,hx];have y:zs.length=c:=by rw[h,qO];exact D
 constructor
 .rintro(rfl|rfl)
  .simp[Builtin.clear_,run_underlying G]
  .cases A<;>simp[Builtin.clear_,run_underlying G]
 .intro b off cur hA hh Y u hn;subst hA;have F:(Builtin.zeroCells z'.cells n).toList=(List.replicate n zs).flatten:=by rw[x0_,h]
  have C:((List.replicate n zs).flatten).length=n*c:=by
   rw[av_ (c:=c) (λq J=>by rw[zP J,y]),List.length_replicate]
  have p:=run_storeCells_at (P:=P) b off e (List.replicate n zs).flatten 0 cur w hh (by rw[C];omega) (λv Z=>by
   obtain⟨q,J,j⟩:=zg.1 Z;rw[zP J]at j;exact u v j)
  rw[C,zl]at p;obtain⟨m,rfl⟩:∃m,n=m+1:=⟨n-1,by omega⟩;simp[Builtin.clear_,run_underlying G,zeroValue,typeInfo,hi,f,F,p]
def lClear(P:tT)(E:TE)(L:Nat->tO (SV E))(H:Nat->tO (Obj E))(T:tA)(x:tN){R:Type}(k:tO (SV E)->Chs E->tO R):tO R:=
 match opS E L x,P.underlying T with
 | some (.v (.one (.suf id n))),some (.slice e)=>match H id with
  | some (.row e' t xs _)=>match Nat.beq e' e,elemB P e (E.size t) (jh_ P e),zeroD P E e t with
   | true,true,some zv=>k (some (.tup [])) [(id,some (.row e t (iY_ xs n.toNat zv) []))]
   | _,_,_=>none
  | _=>none
 | _,_=>none
theorem lClear_ok {T:tA} {x:tN} (ho:o.op = .call { callee:=.builtin .clear,args:=#[x],argTypes:=#[T] }) (ZR:Fresh g nx) (hρ:OpR P E z g L ρ) (hH:HR P E Bs F0 w0 w z g H) (h:lClear P E L H T x k=some r):dh_ P E Bs F0 w0 w z g nx H ρ o false k r:=by
 unfold lClear at h;split at h
 .rename_i id lo e hx hu;split at h
  .rename_i e' t xs foc hi;split at h
   .rename_i zv hb ZI ZN;obtain rfl:=qNb hb;have ZF:=elemOK hu ZI;obtain⟨zs,ZO,ZL⟩:=uK_ (z:=z) ZN;obtain⟨l,h1,ZQ,ev⟩:=hρ x _ hx;obtain⟨l2,rows,h3,hn,hc,O,y,Z,Y,_⟩:=hH.hold _ _ hi;rw[h1]at h3;obtain rfl:=qSj h3;obtain⟨r1,r2⟩:=run_clear (P:=P) (w:=w) ho ZF ZO ev
    -- the new elements
    have u:∀m,Rows E z t (List.replicate m zv) (List.replicate m zs):=λm i x r hx hr=>by
     obtain rfl:=zP (qa hx);obtain rfl:=zP (qa hr);exact ZL
    have ZS:∀v∈zs,v.oneCell'=true:=λv hv=>go_ (((u 1).cells (by simp)).1 zs (by simp)) v hv
    have ZV:zs.length=E.size t:=((u 1).cells (by simp)).2 zs (by simp);have Zz:lo.toNat<=xs.length:=by omega
    have G:Rows E z t (iY_ xs lo.toNat zv) (rows.take lo.toNat++List.replicate (xs.length-lo.toNat) zs):=by
     unfold iY_;refine Rows.append ?_ (u _) (by rw[qX,qX,y,hn]);have:=fp_ Y 0 lo.toNat;simpa using this
    have ZW:(iY_ xs lo.toNat zv).length=xs.length:=by unfold iY_;simp;omega
    rcases O.2 with⟨hv,ZB⟩|⟨b,cap',cur,hv,ZG,hh,J,ZH,ZX,ZU⟩
    .
     injection hv with e1 e2 e3;have f:=r1 (.inr (by omega));refine⟨_,_,z,g,w,_,h,⟨f,⟨_,rfl,[],rfl,.nil⟩,Fz.Le.refl z,Ga.Le.refl g,ZR.succ,?_,λh=>by cases h⟩⟩;have ZM:xs=[]:=zT.1 (by omega);subst ZM;refine hH.turn (Ga.Le.refl g) (i:=id) (i':=id) (C:=λ_=>False) (λ_ h=>h.elim) (Grow.refl w) (λ_ _ _=>rfl) (o':=.row e' t (iY_ ([]:tL (Den E.S t)) lo.toNat zv) []) ?_ (λq s=>?_) λj p hj=>?_
     .refine⟨l,rows,h1,by rw[ZW];exact hn,hc,O,y,Z,?_,λp hp=>nomatch hp⟩;intro i x r hx hr;have:iY_ ([]:tL (Den E.S t)) lo.toNat zv=[]:=zT.1 ZW;rw[this]at hx;cases hx
     .obtain⟨l2,a2,F,V,rfl⟩:=s;rw[h1]at F;obtain rfl:=qSj F;rw[e1]at V;cases V
     .rcases aP_ hj with⟨rfl,rfl⟩|⟨F,V⟩
      .exact .inl ⟨rfl,rfl⟩
      .exact .inr ⟨F,.inl F,V⟩
    .injection hv with e1 _ e3;have ZC:l.n<=cap':=J
     -- the world behind it
     have ZP:∃w' cs,(execOp ρ o).run P w = .ok (.value (.tuple #[])) w'/\Grow w w'/\(∀q,q≠b->w'.heap[q]? = w.heap[q]?)/\w'.heap[b]? = some (.cells cs e' (0,0))/\cs.size=cap'*l.c /\
       cs.toList.take (l.n*l.c)=(rows.take lo.toNat++List.replicate (xs.length-lo.toNat) zs).flatten:=by
      have e5:(rows.take lo.toNat).flatten=rows.flatten.take (lo.toNat*l.c):=by
       have f1:rows.flatten=(rows.take lo.toNat).flatten++(rows.drop lo.toNat).flatten:=by rw[←zN,zD]
       have f2:(rows.take lo.toNat).flatten.length=lo.toNat*l.c:=by
        rw[av_ (c:=l.c) (λq s=>Z q (qh s)),qX,y]
        congr 1;omega
       rw[f1,List.take_left' f2]
      have hlc:lo.toNat*l.c<=l.n*l.c:=qf _ ZQ;have ZD:l.n*l.c<=cap'*l.c:=qf _ J;have ZE:(l.n-lo.toNat)*l.c=l.n*l.c-lo.toNat*l.c:=Nat.sub_mul _ _ _;rcases Nat.eq_or_lt_of_le ZQ with ZJ|ZA
      .refine⟨w,cur,r1 (.inr (by omega)),Grow.refl w,λ_ _=>rfl,hh,ZX,?_⟩;rw[ZU,←hn,ZJ,Nat.sub_self];rw[zA (by omega)];simp
      .have hA:cutA l.A l.c lo.toNat l.cap=some ⟨b,lo.toNat*l.c,none⟩:=by
        unfold cutA;rw[qG (by omega),e1];simp[Addr.add_mk]
       have ZY:((List.replicate (l.n-lo.toNat) zs).flatten).length=(l.n-lo.toNat)*l.c:=by
        rw[av_ (c:=l.c) (λq s=>by rw[zP s,ZV,hc]),List.length_replicate]
       have f:=r2 b (lo.toNat*l.c) cur hA hh (by rw[←hc,ZX];omega) ZS (by omega);rw[←hc]at f;have D:cur.toList.length=cap'*l.c:=by simpa using ZX
       refine⟨_,_,f,ew_ w b _,λq s=>cw_ w b q _ s,fk_ w b _ cur e' hh,?_,?_⟩
       .simp only[zq,qLa,qX,qk,ZY,D];omega
       .rw[zN,←hn,e5,←ZU];rw[List.take_append_of_le_length (by simp only[qLa,qX,ZY,D];omega)];rw[List.take_take,Nat.min_eq_left hlc];rw[zA (by simp only[qLa,qX,ZY,D];omega)]
     obtain⟨w',cs,f,ZZ,ZT,ZK,U,M⟩:=ZP;refine⟨_,_,z,g,w',_,h,⟨f,⟨_,rfl,[],rfl,.nil⟩,Fz.Le.refl z,Ga.Le.refl g,ZR.succ,?_,λh=>by cases h⟩⟩;refine hH.turn (Ga.Le.refl g) (i:=id) (i':=id) (C:=dT_ l.A) (λq ⟨a,ha,s⟩=>⟨_,hi,l,a,h1,ha,s⟩) ZZ (λq _ s=>ZT q λe=>s ⟨_,e1,e⟩) (o':=.row e' t (iY_ xs lo.toNat zv) []) ?_ (λq s=>?_) λj p hj=>?_
     .refine⟨l,rows.take lo.toNat++List.replicate (xs.length-lo.toNat) zs,h1,by rw[ZW];exact hn,hc,⟨?_,.inr ⟨b,cap',cs,by rw[e1,e3],ZG,ZK,J,ZH,U,M⟩⟩,?_,λq s=>?_,G,λp hp=>nomatch hp⟩
      .rw[←M,qX,Nat.min_eq_left];rw[qO,U];exact qf _ J
      .simp;omega
      .rcases qW.1 s with s|s
       .exact Z q (qh s)
       .rw[zP s,ZV,hc]
     .obtain⟨l2,a2,F,V,rfl⟩:=s;rw[h1]at F;obtain rfl:=qSj F;exact .inl ⟨a2,V,rfl⟩
     .rcases aP_ hj with⟨rfl,rfl⟩|⟨F,V⟩
      .exact .inl ⟨rfl,rfl⟩
      .exact .inr ⟨F,.inl F,V⟩
   .cases h
  .cases h
 .cases h
theorem vX_{es:Array tQ}{i:Nat}{e:tQ}{f:tQ->tQ}(q:es.toList[i]? = some e):(es.modify i f).toList=es.toList.set i (f e):=by
 apply zG;intro j;have p:es[i]? = some e:=by simpa using q
 rw[Array.getElem?_toList,zJ,zr,Array.getElem?_toList];by_cases h:i=j
 .subst h;have m:i<es.toList.length:=(qK.1 q).1;rw[qY rfl,qY rfl,qY m,p];rfl
 .rw[qG h,qG h]
theorem idxK_of{α:Type}{eq:α->α->tV}(f:∀x y,eq x y=true↔x=y){x:α}:∀{ks:tL α} {i:Nat},ks.Nodup->ks[i]? = some x->bF_ eq x ks=some i
 | [],_,_,h=>by simp at h
 | y::p,0,_,h=>by
  simp at h;subst h;simp only[bF_,(f y y).2 rfl]
 | y::p,i+1,q,h=>by
  obtain⟨h1,u⟩:=List.nodup_cons.1 q;have m:p[i]? = some x:=by simpa using h
  have j:eq x y=false:=by
   cases s:eq x y with
   | false=>rfl
   | true=>rw[(f x y).1 s]at m;exact absurd (qa m) h1
  simp only[bF_,j,idxK_of f u m]
theorem MapIs.put_new{kt vt:Ty}{ks:tL (Den E.S kt)}{vs:tL (Den E.S vt)}{es:Array tQ}{clock:Nat}{eq:Den E.S kt->Den E.S kt->tV}(u:∀x y,eq x y=true↔x=y)(h:MapIs E kt vt ks vs es clock){x:Den E.S kt}{y:Den E.S vt}{kv v:tW}(hi:bF_ eq x ks=none)(C:ch_ E kt x=some kv)(s:ch_ E vt y=some v) :
  MapIs E kt vt (aO_ eq ks x) (bd_ eq ks vs x y) (es.push ⟨kv,v,clock⟩) (clock+1):=by
 have h1:=rU_ hi;have q:=h.rel.len;rw[vF_ hi (by rw[q.1,q.2])];unfold aO_;rw[h1];refine⟨?_,λe f=>?_,?_,?_⟩
 .rw[Array.toList_push];exact h.rel.push C s
 .rw[Array.toList_push]at f;rcases qW.1 f with f|f
  .have:=h.lt e f;omega
  .obtain rfl:=qT.1 f;exact Nat.lt_succ_self _
 .rw[Array.toList_push,List.map_append];refine List.nodup_append.2 ⟨h.nd,by simp,λa p b j=>?_⟩;obtain⟨e,f,rfl⟩:=zZ.1 p;simp at j;subst j;have:=h.lt e f;omega
 .refine List.nodup_append.2 ⟨h.ks,by simp,λa p b j=>?_⟩;simp at j;subst j;intro m;subst m;have:=List.any_eq_false.1 h1 a p;exact this ((u a a).2 rfl)
theorem MapIs.put_old{kt vt:Ty}{ks:tL (Den E.S kt)}{vs:tL (Den E.S vt)}{es:Array tQ}{clock:Nat}{eq:Den E.S kt->Den E.S kt->tV}(h:MapIs E kt vt ks vs es clock){x:Den E.S kt}{y:Den E.S vt}{v:tW}{i:Nat}{e e':tQ}(hi:bF_ eq x ks=some i)(u:es.toList[i]? = some e)(f:tQ->tQ)(M:f e=e')(q:e'.key=e.key)(F:e'.born=e.born)(G:e'.val=v)(p:ch_ E vt y=some v) :
  MapIs E kt vt (aO_ eq ks x) (bd_ eq ks vs x y) (es.modify i f) clock:=by
 have h1:=(lh_ hi).1;have D:=h.rel.len;rw[vG_ hi (by rw[D.1,D.2])];unfold aO_;rw[h1];have m:=vX_ (f:=f) u;rw[M]at m;refine⟨?_,λU s=>?_,?_,h.ks⟩
 .rw[m];exact h.rel.set u q (by rw[G];exact p)
 .rw[m]at s;rcases List.mem_or_eq_of_mem_set s with O|rfl
  .exact h.lt _ O
  .rw[F];exact h.lt _ (qa u)
 .rw[m,List.map_set,F];have:(es.toList.map (·.born)).set i e.born=es.toList.map (·.born):=by
   apply zG;intro j;rw[zr];split
   .rename_i C;subst C;split
    .rw[qt,u];rfl
    .rename_i J;rw[qe (by omega)]
   .rfl
  rw[this];exact h.nd
def uL_(P:tT)(E:TE)(nx:Nat)(T:tA){R:Type}(k:tO (SV E)->Chs E->tO R):tO R:=
 match P.underlying T with
 | some (.map K e)=>match E.ty K,E.ty e with
  | some kt,some vt=>k (some (.v (.one (.mp nx)))) [(nx,some (.map T kt vt [] [] []))]
  | _,_=>none
 | _=>none
theorem lMakeMap_ok{T:tA}(x:o.op = .makeMap T none)(f:Fresh g nx)(C:HR P E Bs F0 w0 w z g H)(h:uL_ P E nx T k=some r):dh_ P E Bs F0 w0 w z g nx H ρ o true k r:=by
 unfold uL_ at h;split at h
 .split at h
  .rename_i kt vt _ _;have m:(execOp ρ o).run P w = .ok (.value (.map (some w.heap.size))) (w.alloc (.map #[] 0)):=by
    unfold execOp;simp only[x,zI];rw[Sem.run_bind,run_makeMap];rfl
   refine⟨_,_,z,g.put nx ⟨none,0,0,0,w.heap.size,0⟩,_,_,h,⟨m,⟨_,rfl,_,Ga.put_self _ _ _,rfl⟩,Fz.Le.refl z,Ga.le_put f.self,f.put _,?_,λ_=>Ext.one w _⟩⟩;refine C.add (Ext.one w _) f.self (o:=.map T kt vt [] [] []) ⟨_,_,_,Ga.put_self _ _ _,(MapKept.heap_alloc w _).1,⟨.nil,by simp,by simp,by simp⟩,λp u=>nomatch u⟩ (λq s=>?_) λj p y=>aP_ y
   obtain⟨l,h1,rfl⟩:=s;rw[Ga.put_self]at h1;obtain rfl:=qSj h1;exact qA _
  .cases h
 .cases h
theorem HR.map_turn{g':Ga}{id:Nat}{T:tA}{kt vt:Ty}{ks ks':tL (Den E.S kt)}{vs vs':tL (Den E.S vt)}{foc foc':tL (Nat×Den E.S kt)}{l:Loc}{es':Array tQ}{clock':Nat}(y:HR P E Bs F0 w0 w z g H)(hi:H id=some (.map T kt vt ks vs foc))(h1:g id=some l)(m:l.b<w.heap.size)(s:g.Le g')
  (hm:MapIs E kt vt ks' vs' es' clock') (x:∀p∈foc',∃lq,∃i:Nat,∃e:tQ,g' p.1=some lq/\es'.toList[i]? = some e/\e.born=lq.n/\ks'[i]? = some p.2) :
  HR P E Bs F0 w0 (ck_ w l.b es' clock') z g' (upH H [(id,some (.map T kt vt ks' vs' foc'))]):=by
 refine y.turn s (i:=id) (i':=id) (C:=λq=>q=l.b) (λq f=>⟨_,hi,l,h1,f⟩) setMap_grow (λq _ f=>setMap_other f) (o':=.map T kt vt ks' vs' foc') ⟨l,es',clock',s _ _ h1,setMap_same m,hm,x⟩ (λq f=>?_) λj p u=>?_
 .obtain⟨l2,h,rfl⟩:=f;rw[s _ _ h1]at h;obtain rfl:=qSj h;exact .inl rfl
 .rcases aP_ u with⟨rfl,rfl⟩|⟨h,D⟩
  .exact .inl ⟨rfl,rfl⟩
  .exact .inr ⟨h,.inl h,D⟩
def lMapUpd (P:tT) (E:TE) (eqs:tL (Nat×Nat)) (L:Nat->tO (SV E)) (H:Nat->tO (Obj E)) (T:tA) (m x y:tN) {R:Type} (k:tO (SV E)->Chs E->tO R):tO R:=
 match opS E L m,opS E L x,opS E L y,P.underlying T with
 | some (.v (.one (.mp id))),some (.v xs),some (.v f),some (.map K _)=>match H id with
  | some (.map T' kt vt ks vs _)=>match eqB E kt,keyD E H kt xs,keyD E H vt f with
   | some eq,some kx,some vy=>match keyV P E eqs K kt kx,ch_ E vt vy with
    | some _,some _=>k none [(id,some (.map T' kt vt (aO_ eq ks kx) (bd_ eq ks vs kx vy) []))]
    | _,_=>none
   | _,_,_=>none
  | _=>none
 | _,_,_,_=>none
theorem lMapUpd_ok{eqs:tL (Nat×Nat)}(ZY:∀p∈eqs,aG_ P E p.1 p.2){T:tA}{m x y:tN}(ho:o.op = .mapUpdate T m x y)(U:Fresh g nx)(hρ:OpR P E z g L ρ)(J:HR P E Bs F0 w0 w z g H)(h:lMapUpd P E eqs L H T m x y k=some r):dh_ P E Bs F0 w0 w z g nx H ρ o false k r:=by
 unfold lMapUpd at h;split at h
 .rename_i id xs ys K e hm hx hy hu;split at h
  .rename_i T' kt vt ks vs foc hi;split at h
   .rename_i eq kx vy he hk hv;split at h
    .rename_i kv vv Z s;have C:=keyV_ok ZY he Z;have ekv:ρ x=kv:=kh_ C.val (ki_ J hk (hρ x _ hx));have evv:ρ y=vv:=kh_ s (ki_ J hv (hρ y _ hy));obtain⟨l,h1,h2⟩:=hρ m _ hm;obtain⟨l',es,c,h3,h4,M,_⟩:=J.hold _ _ hi;rw[h1]at h3;obtain rfl:=qSj h3;have Y:l.b<w.heap.size:=J.hold _ _ hi|>.lt ⟨l,h1,rfl⟩
     have F:=M.rel.len;have f:=C.find w M.rel;have done:∀(es':Array tQ) (c':Nat),(Instr.mapUpdate T (.map (some l.b)) kv vv).run P w = .ok () (ck_ w l.b es' c')->MapIs E kt vt (aO_ eq ks kx) (bd_ eq ks vs kx vy) es' c'->dh_ P E Bs F0 w0 w z g nx H ρ o false k r:=λes' c' D V=>by
      refine⟨none,_,z,g,_,_,h,⟨?_,rfl,Fz.Le.refl z,Ga.Le.refl g,U.succ,J.map_turn hi h1 Y (Ga.Le.refl g) V (λp hp=>nomatch hp),λh=>by cases h⟩⟩;unfold execOp;simp only[ho,h2,ekv,evv];rw[Sem.run_bind,D];rfl
     cases j:bF_ eq kx ks with
     | none=>
      rw[j]at f;exact done _ _ (xS_ hu h4 C.chk f) (M.put_new (o4_ he) j C.val s)
     | some i=>
      rw[j]at f;obtain⟨_,yk,h6,h7⟩:=lh_ j;have u:i<es.size:=by
       have:=(qK.1 h6).1;have:=F.1;simp at this;omega
      have G:es.toList[i]? = some es[i]:=by simp[u]
      have ZX:es[i]? = some es[i]:=by simp[u]
      obtain⟨xk,yv,h8,h9,O,ZW⟩:=M.rel.get G;rw[h6]at h8;obtain rfl:=qSj h8;have q:es[i].key=kv:=by
       have:=(o4_ he kx yk).1 h7;subst this;rw[C.val]at O;exact(qSj O).symm
      have ZZ:(Instr.findKey K kv es.toList).run P w = .ok (some (i,es[i].val)) w:=by rw[f];simp[foundAt,u]
      exact done _ _ (xT_ hu h4 C.chk ZZ ZX q C.same) (M.put_old (e':=⟨kv,vv,es[i].born⟩) j G _ rfl q.symm rfl rfl s)
    .cases h
   .cases h
  .cases h
 .cases h
def lMapEnt (P:tT) (E:TE) (eqs:tL (Nat×Nat)) (L:Nat->tO (SV E)) (H:Nat->tO (Obj E)) (nx:Nat) (T:tA) (m x:tN) {R:Type} (k:tO (SV E)->Chs E->tO R):tO R:=
 match opS E L m,opS E L x,P.underlying T with
 | some (.v (.one (.mp id))),some (.v xs),some (.map K e)=>match H id with
  | some (.map T' kt vt ks vs _)=>match eqB E kt,keyD E H kt xs,zeroX P E e vt with
   | some eq,some kx,some zx=>match keyV P E eqs K kt kx,ch_ E vt zx with
    | some _,some _=>k (some (.tup [datV E vt (aH_ eq ks vs kx zx),.one (.mst nx)])) [(id,some (.map T' kt vt (aO_ eq ks kx) (bd_ eq ks vs kx (aH_ eq ks vs kx zx)) [(nx,kx)]))]
    | _,_=>none
   | _,_,_=>none
  | _=>none
 | _,_,_=>none
theorem lMapEnt_ok{eqs:tL (Nat×Nat)}(ZQ:∀p∈eqs,aG_ P E p.1 p.2){T:tA}{m x:tN}(ho:o.op = .mapEntry T m x)(D:Fresh g nx)(hρ:OpR P E z g L ρ)(Y:HR P E Bs F0 w0 w z g H)(h:lMapEnt P E eqs L H nx T m x k=some r):dh_ P E Bs F0 w0 w z g nx H ρ o false k r:=by
 unfold lMapEnt at h;split at h
 .rename_i id xs K e hm hx hu;split at h
  .rename_i T' kt vt ks vs foc hi;split at h
   .rename_i eq kx zx he hk hz;split at h
    .rename_i kv zv ZS J;have G:=keyV_ok ZQ he ZS;have ekv:ρ x=kv:=kh_ G.val (ki_ Y hk (hρ x _ hx));obtain⟨l,h1,h2⟩:=hρ m _ hm;obtain⟨l',es,c,h3,h4,Z,_⟩:=Y.hold _ _ hi;rw[h1]at h3;obtain rfl:=qSj h3;have ZT:l.b<w.heap.size:=Y.hold _ _ hi|>.lt ⟨l,h1,rfl⟩
     have s:=Z.rel.len;have j:=G.find w Z.rel;have done:∀(es':Array tQ) (c' born i:Nat) (v:tW) (e1:tQ),(Instr.mapEntry T (.map (some l.b)) kv).run P w = .ok (.tuple #[v,.int .i64 (born:Int)]) (ck_ w l.b es' c')->ch_ E vt (aH_ eq ks vs kx zx)=some v->MapIs E kt vt (aO_ eq ks kx) (bd_ eq ks vs kx (aH_ eq ks vs kx zx)) es' c' ->
       es'.toList[i]? = some e1->e1.born=born->(aO_ eq ks kx)[i]? = some kx->dh_ P E Bs F0 w0 w z g nx H ρ o false k r:=λes' c' born i v e1 U C ZU ZW ZX ZY=>by
      have hp:=Ga.put_self g nx (⟨none,born,0,0,0,0⟩:Loc);refine⟨_,_,z,g.put nx ⟨none,born,0,0,0,0⟩,_,.value (.tuple #[v,.int .i64 (born:Int)]),h,⟨?_,⟨_,rfl,[v,.int .i64 (born:Int)],rfl,.cons (datV_ok C) (.cons ⟨_,hp,rfl⟩ .nil)⟩,Fz.Le.refl z,Ga.le_put D.self,D.put _,Y.map_turn hi h1 ZT (Ga.le_put D.self) ZU (λp ZV=>?_),λh=>by cases h⟩⟩
      .unfold execOp;simp only[ho,h2,ekv];rw[Sem.run_bind,U];rfl
      .obtain rfl:=qT.1 ZV;exact⟨_,i,e1,hp,ZW,ZX,ZY⟩
     cases q:bF_ eq kx ks with
     | none=>
      rw[q]at j;have C:ch_ E vt (aH_ eq ks vs kx zx)=some zv:=by rw[p0_ q];exact J
      refine done _ _ c es.size zv ⟨kv,zv,c⟩ (Ai_ hu h4 G.chk j (zeroX_ok Y hz J w)) C (Z.put_new (o4_ he) q G.val C) (by simp) rfl ?_;unfold aO_;rw[rU_ q,zR,zH (by rw[s.1];simp)];rw[s.1];simp
     | some i=>
      rw[q]at j;obtain⟨V,yk,h6,h7⟩:=lh_ q;have u:i<es.size:=by
       have:=(qK.1 h6).1;have:=s.1;simp at this;omega
      have F:es.toList[i]? = some es[i]:=by simp[u]
      have ZP:es[i]? = some es[i]:=by simp[u]
      obtain⟨xk,yv,h8,h9,ZZ,ZO⟩:=Z.rel.get F;rw[h6]at h8;obtain rfl:=qSj h8;have M:=(o4_ he kx yk).1 h7;have y:es[i].key=kv:=by
       rw[←M,G.val]at ZZ;exact(qSj ZZ).symm
      have ZR:(Instr.findKey K kv es.toList).run P w = .ok (some (i,es[i].val)) w:=by rw[j];simp[foundAt,u]
      have C:ch_ E vt (aH_ eq ks vs kx zx)=some es[i].val:=by rw[p1_ q h9];exact ZO
      have O:=vX_ (f:=λe=>{ e with key:=kv }) F;refine done _ _ es[i].born i es[i].val ⟨kv,es[i].val,es[i].born⟩ (Aj_ hu h4 G.chk ZR ZP y G.same) C (Z.put_old (e':=⟨kv,es[i].val,es[i].born⟩) q F _ rfl y.symm rfl rfl C) ?_ rfl ?_
      .rw[O,zr,qY rfl,qY (by simpa using u)]
      .unfold aO_;rw[V,zB,h6,M]
    .cases h
   .cases h
  .cases h
 .cases h
def lEntSt (E:TE) (L:Nat->tO (SV E)) (H:Nat->tO (Obj E)) (m s y:tN) {R:Type} (k:tO (SV E)->Chs E->tO R):tO R:=
 match opS E L m,opS E L s,opS E L y with
 | some (.v (.one (.mp id))),some (.v (.one (.mst q))),some (.v f)=>match H id with
  | some (.map T' kt vt ks vs foc)=>match eqB E kt,keyD E H vt f,foc.find? λp=>Nat.beq p.1 q with
   | some eq,some vy,some p=>match ch_ E vt vy with
    | some _=>k none [(id,some (.map T' kt vt (aO_ eq ks p.2) (bd_ eq ks vs p.2 vy) []))]
    | none=>none
   | _,_,_=>none
  | _=>none
 | _,_,_=>none
theorem lEntSt_ok{T:tA}{m s y:tN}(ho:o.op = .entryStore T m s y)(G:Fresh g nx)(hρ:OpR P E z g L ρ)(D:HR P E Bs F0 w0 w z g H)(h:lEntSt E L H m s y k=some r):dh_ P E Bs F0 w0 w z g nx H ρ o false k r:=by
 unfold lEntSt at h;split at h
 .rename_i id q ys hm hs hy;split at h
  .rename_i T' kt vt ks vs foc hi;split at h
   .rename_i eq vy p he hv C;split at h
    .rename_i vv j;have evv:ρ y=vv:=kh_ j (ki_ D hv (hρ y _ hy));obtain⟨l,h1,h2⟩:=hρ m _ hm;obtain⟨ls,h6,h7⟩:=hρ s _ hs;obtain⟨l',es,c,Z,h4,O,h8⟩:=D.hold _ _ hi;rw[h1]at Z;obtain rfl:=qSj Z;have J:l.b<w.heap.size:=D.hold _ _ hi|>.lt ⟨l,h1,rfl⟩
     have F:p.1=q:=qNb (by simpa using zz C);obtain⟨lq,i,e,Y,u,V,U⟩:=h8 p (zX C);rw[F,h6]at Y;obtain rfl:=qSj Y;have M:=idxK_of (o4_ he) O.ks U;have f:=xU_ (P:=P) (T:=T) (w:=w) (x:=vv) h4 O.nd u;rw[V]at f;refine⟨none,_,z,g,_,_,h,⟨?_,rfl,Fz.Le.refl z,Ga.Le.refl g,G.succ,D.map_turn hi h1 J (Ga.Le.refl g) (O.put_old (e':=⟨e.key,vv,e.born⟩) M u (λe=>{ e with val:=vv }) rfl rfl rfl rfl j) (λp C=>nomatch C),λh=>by cases h⟩⟩;unfold execOp;simp only[ho,h2,h7,evv];rw[Sem.run_bind];show((Instr.entryStore T (.map (some l.b)) (.int .i64 (ls.n:Int)) vv).run P w).andThen _=_;have:(Instr.entryStore T (.map (some l.b)) (.int .i64 (ls.n:Int)) vv).run P w = .ok () (ck_ w l.b (es.modify i λe=>{ e with val:=vv }) c):=f
     rw[this];rfl
    .cases h
   .cases h
  .cases h
 .cases h
end
end Rt
end Go
