/-
 What the statements of this seat hang on,part 2: Rc Rd Ru Re Rf Rg Rh Rx Rv Ri Rj Rk.
-/
import Derived.Test.YtfbcbakhdkppoaaGreatDoorWD1
import Derived.Lib.AppendStr
namespace Go
namespace Rt
open Go.RowKit
section
variable{P:tT}{E:TE}{z:Fz}{g:Ga}
def constC(E:TE):tW->tO (SC E) | .int k n=>some (.dt (.int k) n) | .bool b=>some (.dt .bool b) | .string s=>some (.dt .str s.data.toList) | .slice none 0 0=>some .nils | .pointer none=>some .nilp | .nilIface=>some .nif|_=>none
theorem constC_ok{v:tW}{c:SC E}(h:constC E v=some c):RC P E z g c v:=by
 unfold constC at h;split at h
 .obtain rfl:=qSj h;exact .int .nil
 .obtain rfl:=qSj h;exact .bool .nil
 .obtain rfl:=qSj h;exact .str .nil
 .obtain rfl:=qSj h;rfl
 .obtain rfl:=qSj h;rfl
 .obtain rfl:=qSj h;rfl
 .cases h
def lf_(E:TE):tL tW->tO (tL (SC E))
 | []=>some []
 | v::r=>match constC E v with
  | none=>none
  | some c=>match lf_ E r with
   | none=>none
   | some l=>some (c::l)
theorem iH_:∀{vs:tL tW} {l:tL (SC E)},lf_ E vs=some l->All2 (RC P E z g) l vs
 | [],l,h=>by simp only[lf_,qOi]at h;subst h;exact .nil
 | v::r,l,h=>by
  simp only[lf_]at h;split at h
  .cases h
  .rename_i c j;split at h
   .cases h
   .rename_i p f;obtain rfl:=qSj h;exact .cons (constC_ok j) (iH_ f)
def constV(E:TE):tW->tO (SV E)
 | .agg cs=>match lf_ E cs.toList with
  | some l=>some (.v (.agg l))
  | none=>none
 | v=>match constC E v with
  | some c=>some (.v (.one c))
  | none=>none
theorem constV_ok{v:tW}{s:SV E}(h:constV E v=some s):RV P E z g s v:=by
 unfold constV at h;split at h
 .split at h
  .rename_i l f;obtain rfl:=qSj h;exact⟨_,rfl,iH_ f⟩
  .cases h
 .split at h
  .rename_i c j;obtain rfl:=qSj h;exact constC_ok j
  .cases h
def opS(E:TE)(L:Nat->tO (SV E)):tI->tO (SV E)
 | .tmp t=>L t
 | .const v=>constV E v
 | .func f=>some (.v (.one (.clo f [])))
 | .global n=>match E.gl n with
  | some q=>some (.v (.one (.elf q.1 q.2 0)))
  | none=>none
structure ER(P:tT)(E:TE)(z:Fz)(g:Ga)(N:Nat)(a:Act)(L:Nat->tO (SV E)):Prop where
 size:a.tmps.size=N
 defers:a.defers=[]
 get:∀t s,L t=some s->∃v,a.tmps[t]? = some v/\RV P E z g s v
abbrev OpR(P:tT)(E:TE)(z:Fz)(g:Ga)(L:Nat->tO (SV E))(ρ:tI->tW):Prop:=∀x s,opS E L x=some s->RV P E z g s (ρ x)
theorem ER.op{N:Nat}{a:Act}{L:Nat->tO (SV E)}(h:ER P E z g N a L)(y:Glo E z):OpR P E z g L a.eval:=by
 intro x s p;cases x with
 | tmp t =>
  obtain⟨v,M,J⟩:=h.get t s p;simpa[Act.eval,M]using J
 | const v=>exact constV_ok p
 | global n =>
  simp only[opS]at p;split at p
  .rename_i q D;obtain rfl:=qSj p;obtain⟨G,r,hr,F,_⟩:=y n q.1 q.2 D;exact⟨n,0,r,rfl,G,hr,λj u C=>by rw[qh];exact F j u C⟩
  .cases p
 | func f =>
  obtain rfl:=qSj p;exact⟨[],rfl,.nil⟩
theorem ER.less{N:Nat}{a:Act}{L L':Nat->tO (SV E)}(h:ER P E z g N a L)(f:∀t s,L' t=some s->L t=some s):ER P E z g N a L' :=
 ⟨h.size,h.defers,λt s e=>h.get t s (f t s e)⟩
theorem ER.le{z':Fz}{g':Ga}{N:Nat}{a:Act}{L:Nat->tO (SV E)}(h:ER P E z g N a L)(f:z.Le z')(j:g.Le g'):ER P E z' g' N a L :=
 ⟨h.size,h.defers,λt s e=>let ⟨v,q,p⟩:=h.get t s e;⟨v,q,p.le f j⟩⟩
theorem ER.put{N:Nat}{a:Act}{L L':Nat->tO (SV E)}(h:ER P E z g N a L){d:Nat}(q:Nat.blt d N=true){s:SV E}{v:tW}(p:RV P E z g s v)
  (x:∀t u,L' t=some u->(t=d/\u=s)\/(t≠d/\L t=some u)):ER P E z g N (a.put (some d) v) L':=by
 have f:d<N:=by simpa using q
 refine⟨by simpa[Act.put]using h.size,h.defers,λt u e => ?_⟩;rcases x t u e with⟨rfl,rfl⟩|⟨F,D⟩
 .exact⟨v,by simp[Act.put,h.size,f],p⟩
 .obtain⟨j,C,y⟩:=h.get t u D;refine⟨j,?_,y⟩;simp only[Act.put];rw[jG (Ne.symm F)];exact C
def SV.int? : SV E->tO (IntKind×Int) | .v (.one (.dt (.int k) n))=>some (k,n)|_=>none
def SV.str? : SV E->tO tX | .v (.one (.dt .str s))=>some s|_=>none
def SV.bool? : SV E->tO tV | .v (.one (.dt .bool b))=>some b|_=>none
def SV.cells? : SV E->tO (tL (SC E)) | .v (.one c)=>some [c] | .v (.agg l)=>some l|_=>none
theorem SV.int_ok{s:SV E}{v:tW}{k:IntKind}{n:Int}(h:s.int? = some (k,n))(r:RV P E z g s v):v = .int k n:=by
 unfold SV.int? at h;split at h
 .simp only[qOi,qg]at h;obtain⟨rfl,rfl⟩:=h;obtain⟨vs,e,r⟩:=RD.int_inv (r:RD E z _ _ [v]);simp at e;exact e.1
 .cases h
theorem SV.str_ok{s:SV E}{v:tW}{x:tX}(h:s.str? = some x)(r:RV P E z g s v):v=S x:=by
 unfold SV.str? at h;split at h
 .simp only[qOi]at h;subst h;obtain⟨vs,e,r⟩:=RD.str_inv (r:RD E z _ _ [v]);simp at e;exact e.1
 .cases h
theorem SV.bool_ok{s:SV E}{v:tW}{b:tV}(h:s.bool? = some b)(r:RV P E z g s v):v = .bool b:=by
 unfold SV.bool? at h;split at h
 .simp only[qOi]at h;subst h;obtain⟨vs,e,r⟩:=RD.bool_inv (r:RD E z _ _ [v]);simp at e;exact e.1
 .cases h
theorem SV.cells_ok{s:SV E}{v:tW}{l:tL (SC E)}(h:s.cells? = some l)(r:RV P E z g s v):All2 (RC P E z g) l v.cells.toList:=by
 unfold SV.cells? at h;split at h
 .rename_i c;obtain rfl:=qSj h;have f:=RC.cell (c:=c) r;have:v.cells = #[v]:=by cases v<;>first|rfl|cases f
  rw[this];exact .cons r .nil
 .obtain rfl:=qSj h;obtain⟨vs,rfl,r⟩:=r;exact r
 .cases h
def SV.val? : SV E->tO tW | .v (.one (.dt (.int k) n))=>some (.int k n) | .v (.one (.dt .bool b))=>some (.bool b) | .v (.one (.dt .str s))=>some (S s)|_=>none
theorem SV.val_ok{s:SV E}{v u:tW}(h:s.val? = some u)(r:RV P E z g s v):v=u:=by
 unfold SV.val? at h;split at h
 .obtain rfl:=qSj h;exact SV.int_ok rfl r
 .obtain rfl:=qSj h;exact SV.bool_ok rfl r
 .obtain rfl:=qSj h;exact SV.str_ok rfl r
 .cases h
abbrev Up(E:TE):=tO (Nat×Obj E)
def UpOK(P:tT)(E:TE)(g g':Ga)(H:Nat->tO (Obj E)):Up E->Prop|none=>g'=g|some (i,o')=>∃o,H i=some o/\(∀z w,ObjR P E z g w i o->ObjR P E z g' w i o')/\∀k,fpO g' i o' k↔fpO g i o k
def Stands(z:Fz)(g:Ga){E:TE}(H:Nat->tO (Obj E))(W w:tS):Prop:=z.In w/\∀id o k,H id=some o->fpO g id o k->w.heap[k]? = W.heap[k]?
theorem Stands.hold{P:tT}{E:TE}{z:Fz}{g:Ga}{H:Nat->tO (Obj E)}{Bs:tL Nat}{F0:Nat->Prop}{w0 W w:tS}(h:Stands z g H W w)(j:HR P E Bs F0 w0 W z g H):∀id o,H id=some o->ObjR P E z g w id o :=
 λid o e=>(j.hold id o e).keep (Fz.Le.refl z) (Ga.Le.refl g) λk f=>h.2 id o k e f
theorem Stands.of_ext{P:tT}{E:TE}{z:Fz}{g:Ga}{H:Nat->tO (Obj E)}{Bs:tL Nat}{F0:Nat->Prop}{w0 W w:tS}(f:HR P E Bs F0 w0 W z g H)(h:Ext W w):Stands z g H W w :=
 ⟨f.fz.ext h,λid o k e j=>h.below.block k ((f.hold id o e).lt j)⟩
theorem Stands.refl{P:tT}{E:TE}{z:Fz}{g:Ga}{H:Nat->tO (Obj E)}{Bs:tL Nat}{F0:Nat->Prop}{w0 W:tS}(f:HR P E Bs F0 w0 W z g H):Stands z g H W W:=⟨f.fz,λ_ _ _ _ _=>rfl⟩
def Good(P:tT)(E:TE)(z:Fz)(g:Ga)(nx:Nat)(I:tS->Prop)(H:Nat->tO (Obj E))(ρ:tI->tW)(o:tP){R:Type}(k:SV E->Up E->tO R)(r:R):Prop:=∃s v up g',k s up=some r/\g.Le g'/\(∀i,i≠nx->g' i=g i)/\RV P E z g' s v/\(∀w',I w'->(execOp ρ o).run P w' = .ok (.value v) w')/\UpOK P E g g' H up
section
variable{L:Nat->tO (SV E)}{H:Nat->tO (Obj E)}{ρ:tI->tW}{W w0:tS}{I:tS->Prop}{o:tP}{R:Type}{k:SV E->Up E->tO R}{r:R}{Bs:tL Nat}{F0:Nat->Prop}{nx:Nat}
theorem Good.plain{s:SV E}{v:tW}(h:k s none=some r)(f:RV P E z g s v)(hr:∀w',(execOp ρ o).run P w' = .ok (.value v) w'):Good P E z g nx I H ρ o k r :=
 ⟨s,v,none,g,h,Ga.Le.refl g,λ_ _=>rfl,f,λw' _=>hr w',rfl⟩
def ρS(E:TE)(L:Nat->tO (SV E))(x:tI):tW:=((opS E L x).bind SV.val?).getD undef
def knownS(E:TE)(L:Nat->tO (SV E)):tL tI->tV
 | []=>true
 | x::l=>(match(opS E L x).bind SV.val? with|some _=>true|none=>false)&&knownS E L l
theorem qV_(hρ:OpR P E z g L ρ):∀{l:tL tI},knownS E L l=true->∀x∈l,ρ x=ρS E L x
 | [],_,x,f=>by cases f
 | y::l,h,x,f=>by
  simp only[knownS,qAn]at h;rcases qD.1 f with rfl|f
  .cases j:opS E L x with
   | none=>rw[j]at h;simp at h
   | some s =>
    rw[j]at h;cases p:s.val? with
    | none=>rw[qBs,p]at h;simp at h
    | some u=>rw[SV.val_ok p (hρ x s j)];simp[ρS,j,p]
  .exact qV_ hρ h.2 x f
def kz_(P:tT)(E:TE)(L:Nat->tO (SV E))(o:tP){R:Type}(k:SV E->Up E->tO R):tO R :=
 match knownS E L o.op.operands.toList && !jc_ o.op with
 | true=>match dH_ P (execOp (ρS E L) o)with
  | some (.value v)=>match constV E v with
   | some s=>k s none
   | none=>none
  | _=>none
 | false=>none
theorem ia_(hρ:OpR P E z g L ρ)(h:kz_ P E L o k=some r):Good P E z g nx I H ρ o k r:=by
 unfold kz_ at h;split at h
 .rename_i f;simp only[qAn,qo]at f;have u:execOp ρ o=execOp (ρS E L) o:=by
   refine execOp_congr o (λcs b e => ?_) λx j => ?_
   .rw[e]at f;simp[jc_]at f
   .exact qV_ hρ f.1 x (by simpa using j)
  split at h
  .rename_i v p;split at h
   .rename_i s q;exact .plain h (constV_ok q) λw'=>by rw[u];exact ek_ p w'
   .cases h
  .cases h
 .cases h
def qMove(E:TE)(L:Nat->tO (SV E))(x:tI){R:Type}(k:SV E->Up E->tO R):tO R:=match opS E L x with|some s=>k s none|none=>none
theorem nh_{x:tI}(f:o.op = .move x\/o.op = .assign x)(hρ:OpR P E z g L ρ)(h:qMove E L x k=some r):Good P E z g nx I H ρ o k r:=by
 unfold qMove at h;split at h
 .rename_i s j;refine .plain h (hρ x s j) λw' => ?_
  unfold execOp;rcases f with f|f<;>rw[f]<;>rfl
 .cases h
def SC.sure:SC E->tV | .ptr .. | .elo .. | .elf .. => true | .fn1 .. | .fn2 .. | .clo .. => true|_=>false
def qNil(E:TE)(L:Nat->tO (SV E))(x:tI){R:Type}(k:SV E->Up E->tO R):tO R:=match opS E L x with
 | some (.v (.one c))=>match c.sure with
  | true=>k (.v (.one c)) none
  | false=>none
 | _=>none
theorem qNil_ok{x:tI}(p:o.op = .nilCheck x)(hρ:OpR P E z g L ρ)(h:qNil E L x k=some r):Good P E z g nx I H ρ o k r:=by
 unfold qNil at h;split at h
 .rename_i c j;split at h
  .rename_i s;have hr:=hρ x _ j;refine .plain h hr λw' => ?_
   unfold execOp;rw[p];simp only;generalize ρ x=v at hr;cases c with
   | ptr id off=>obtain⟨l,_,rfl⟩:=hr;rfl
   | elo id q i off=>obtain⟨l,_,_,rfl⟩:=hr;rfl
   | elf t y off=>obtain⟨b,q,rr,rfl,_⟩:=hr;rfl
   | fn1 a q f=>obtain⟨fid,caps,rfl,_⟩:=hr;rfl
   | fn2 a b q f=>obtain⟨fid,caps,rfl,_⟩:=hr;rfl
   | clo f caps=>obtain⟨u,rfl,_⟩:=hr;rfl
   | _=>cases s
  .cases h
 .cases h
def ni_(E:TE)(L:Nat->tO (SV E))(x:tI)(i:Nat){R:Type}(k:SV E->Up E->tO R):tO R:=match opS E L x with
 | some (.tup l)=>match l[i]? with
  | some y=>k (.v y) none
  | none=>none
 | _=>none
theorem pW_{x:tI}{i:Nat}(s:o.op = .extract x i)(hρ:OpR P E z g L ρ)(h:ni_ E L x i k=some r):Good P E z g nx I H ρ o k r:=by
 unfold ni_ at h;split at h
 .rename_i l q;split at h
  .rename_i y j;obtain⟨vs,e,hr⟩:=hρ x _ q;obtain⟨u,p,f⟩:=hr.get j;refine .plain h (v:=u) f λw' => ?_
   unfold execOp;rw[s];simp only[e];simp[Instr.extract,p]
  .cases h
 .cases h
def loadC(P:tT)(T:tN)(l:tL (SC E))(off:Nat):tO (V1 E) :=
 match aggB P T,aO_ P T with
 | some true,some n=>match Nat.ble (off+n) l.length with|true=>some (.agg ((l.drop off).take n))|false=>none
 | some false,_=>match l[off]? with|some c=>some (.one c)|none=>none
 | _,_=>none
theorem qf_{T:tN}{l:tL (SC E)}{off:Nat}{x:V1 E}{vs:tL tW}(h:loadC P T l off=some x)(p:All2 (RC P E z g) l vs):∃v,eA_ P T vs off=some v/\R1 P E z g x v:=by
 unfold loadC at h;unfold eA_;cases q:aggB P T with
 | none=>rw[q]at h;cases h
 | some b =>
  rw[q]at h;cases b with
  | true =>
   cases j:aO_ P T with
   | none=>rw[j]at h;cases h
   | some n =>
    rw[j]at h;have f:(P.info? T).map (·.size)=some n:=j;rw[f];simp only at h ⊢;rw[←p.len];split at h
    .rename_i C;obtain rfl:=qSj h;rw[C];exact⟨_,rfl,_,rfl,(p.drop off).take n⟩
    .cases h
  | false =>
   simp only at h ⊢;split at h
   .rename_i c y;obtain rfl:=qSj h;obtain⟨u,s,hr⟩:=p.get y;exact⟨u,s,hr⟩
   .cases h
theorem part_run{T:tN}{vs:tL tW}{off:Nat}{v:tW}(h:eA_ P T vs off=some v)(w:tS):(part T vs.toArray off).run P w = .ok v w:=by
 unfold eA_ at h;cases f:aggB P T with
 | none=>rw[f]at h;cases h
 | some b =>
  rw[f]at h;cases b with
  | true =>
   cases hi:P.info? T with
   | none=>simp[hi]at h
   | some i =>
    simp only[hi,zn]at h;split at h
    .rename_i j;obtain rfl:=qSj h;simp[part,Sem.run_bind,ln_ f,sizeOf,typeInfo,hi]
    .cases h
  | false =>
   simp only at h;simp[part,Sem.run_bind,ln_ f,h]
def qField(P:tT)(E:TE)(L:Nat->tO (SV E))(T:tN)(x:tI)(f:Nat){R:Type}(k:SV E->Up E->tO R):tO R :=
 match P.underlying T,opS E L x with
 | some (.struct fs),some (.v (.agg l))=>match fs[f]? with
  | some q=>match loadC P q.type l q.offset with
   | some y=>k (.v y) none
   | none=>none
  | none=>none
 | _,_=>none
theorem qField_ok{x:tI}{T:tN}{f:Nat}(F:o.op = .field T x f)(hρ:OpR P E z g L ρ)(h:qField P E L T x f k=some r):Good P E z g nx I H ρ o k r:=by
 unfold qField at h;split at h
 .rename_i fs l u C;split at h
  .rename_i q D;split at h
   .rename_i y p;obtain⟨vs,e,hr⟩:=hρ x _ C;obtain⟨v,s,j⟩:=qf_ p hr;refine .plain h (v:=v) j λw' => ?_
    unfold execOp;rw[F];simp only[e];simp[Instr.field,run_underlying u,D,asAgg,part_run s]
   .cases h
  .cases h
 .cases h
def behind(E:TE)(H:Nat->tO (Obj E)):SC E->tO (tL (SC E)×Nat)
 | .ptr id off=>match H id with
  | some (.box _ cs)=>some (cs,off)
  | some (.fb t x)=>some (E.cells t x,off)
  | _=>none
 | .elo id q _ off=>match H id with
  | some (.row _ t _ foc)=>match foc.find? λp=>Nat.beq p.1 q with
   | some p=>some (E.cells t p.2.2,off)
   | none=>none
  | _=>none
 | .elf t x off=>some (E.cells t x,off)
 | _=>none
theorem behind_ok{c:SC E}{l:tL (SC E)}{off:Nat}{v:tW}(hH:HR P E Bs F0 w0 W z g H)(h:behind E H c=some (l,off))(hr:RC P E z g c v) :
  ∃b base vs,v = .pointer (some ⟨b,base+off,none⟩)/\All2 (RC P E z g) l vs/\∀w',Stands z g H W w'->∀j u,vs[j]? = some u->w'.cell? ⟨b,base+j,none⟩=some u:=by
 cases c with
 | ptr id off' =>
  simp only[behind]at h;split at h
  .rename_i T cs G;simp only[qOi,qg]at h;obtain⟨rfl,rfl⟩:=h;obtain⟨lo,O,rfl⟩:=hr;refine⟨lo.b,0,?_⟩;obtain⟨lo',vs,M,h3,h4⟩:=hH.hold _ _ G;rw[O]at M;obtain rfl:=qSj M;refine⟨vs,by rw[qh],h4,λw' U j u D => ?_⟩;have hh:w'.heap[lo.b]? = some (.cells vs.toArray T (0,0)):=by rw[U.2 _ _ _ G ⟨lo,O,rfl⟩];exact h3
   rw[qh,cell_of_row w' lo.b j vs.toArray T (0,0) hh];simpa using D
  .rename_i t x G;simp only[qOi,qg]at h;obtain⟨rfl,rfl⟩:=h;obtain⟨lo,O,rfl⟩:=hr;obtain⟨lo',rr,M,hF,s,f⟩:=hH.hold _ _ G;rw[O]at M;obtain rfl:=qSj M;refine⟨lo.b,0,rr,by rw[qh],cells_rd.1 s,λw' U j u D => ?_⟩;rw[qh,World.cell?_of_block (w:=z.w) (U.1 lo.b hF).2];exact f j u D
  .cases h
 | elo id q ii off' =>
  simp only[behind]at h;split at h
  .rename_i e t xs foc G;split at h
   .rename_i p hp;simp only[qOi,qg]at h;obtain⟨rfl,rfl⟩:=h;obtain⟨lq,O,_,rfl⟩:=hr;obtain⟨lo,rows,M,hn,hc,V,y,ZZ,F,Z⟩:=hH.hold _ _ G;have ZY:p.1=q:=qNb (by simpa using jb hp);obtain⟨hg,lq',o',h3,hA,ZW,_⟩:=Z p (jH hp);rw[ZY,O]at h3;obtain rfl:=qSj h3;obtain⟨h0,U,ZX⟩:=d5_ hg;have Y:p.2.1.toNat<rows.length:=by rw[y,hn];exact ZX
    have s:=F p.2.1.toNat p.2.2 _ U (qY Y);have hs:=cK_ (w:=W) (e:=e) (cap:=lo.cap) ⟨V,y,ZZ⟩;obtain⟨b',off2,J,_,f⟩:=hs.2 (by omega);rw[hA]at J;simp only[qOi,Addr.mk.injEq]at J;obtain⟨rfl,rfl,_⟩:=J;refine⟨lq.b,lq.n,_,rfl,cells_rd.1 s,λw' C j u D => ?_⟩;rw[World.cell?_of_block (w:=W) (C.2 _ _ lq.b G ⟨lo,_,M,hA,rfl⟩),ZW];exact(f p.2.1.toNat _ (qY Y)).2 j u D
   .cases h
  .cases h
 | elf t x off' =>
  simp only[behind,qOi,qg]at h;obtain⟨rfl,rfl⟩:=h;obtain⟨b,q,rr,rfl,hF,s,f⟩:=hr;refine⟨b,q,rr,rfl,cells_rd.1 s,λw' C j u D => ?_⟩;have hz:=C.1 b hF;rw[World.cell?_of_block (w:=z.w) hz.2];exact f j u D
 | _=>cases h
def dtsC(κ : IntKind):tL (SC E)->tO (tL Int)
 | []=>some []
 | .dt (.int κ') n::l=>match decide (κ' = κ),dtsC κ l with
  | true,some r=>some (n::r)
  | _,_=>none
 | _=>none
theorem qg_{κ : IntKind}:∀{l:tL (SC E)} {xs:tL Int} {vs:tL tW} {i:Nat} {x:Int},dtsC κ l=some xs->All2 (RC P E z g) l vs->xs[i]? = some x->vs[i]? = some (.int κ x)
 | [],xs,vs,i,x,h,_,f=>by simp only[dtsC,qOi]at h;subst h;simp at f
 | c :: l,xs,vs,i,x,h,hr,f=>by
  cases hr with
  | cons u s =>
   unfold dtsC at h;split at h
   .rename_i f;cases f
   .rename_i κ' n C p;injection p with p y;subst p;subst y;split at h
    .rename_i r q j;simp only[qDe]at q;subst q;obtain rfl:=qSj h;cases i with
     | zero =>
      simp only[jt,qOi]at f;subst f;obtain⟨vs',e,_⟩:=RD.int_inv (u:RD E z _ _ [_]);simp only[List.cons.injEq]at e;simp[e.1]
     | succ i =>
      simp only[List.getElem?_cons_succ]at f ⊢;exact qg_ j s f
    .cases h
   .cases h
def px_(E:TE)(H:Nat->tO (Obj E)):SC E->tO (tL (SC E)×Int)
 | .pix id i=>match H id with
  | some (.box _ cs)=>some (cs,i)
  | _=>none
 | .efx t x i=>some (E.cells t x,i)
 | _=>none
theorem behindI_ok{c:SC E}{l:tL (SC E)}{i:Int}{v:tW}(M:HR P E Bs F0 w0 W z g H)(h:px_ E H c=some (l,i))(hr:RC P E z g c v) :
  ∃b base vs,v = .pointer (some ⟨b,base+i.toNat,none⟩)/\All2 (RC P E z g) l vs/\∀w',Stands z g H W w'->∀j u,vs[j]? = some u->w'.cell? ⟨b,base+j,none⟩=some u:=by
 cases c with
 | pix id i' =>
  simp only[px_]at h;split at h
  .rename_i T cs C;simp only[qOi,qg]at h;obtain⟨rfl,rfl⟩:=h;obtain⟨lo,F,rfl⟩:=hr;refine⟨lo.b,0,?_⟩;obtain⟨lo',vs,D,V,U⟩:=M.hold _ _ C;rw[F]at D;obtain rfl:=qSj D;refine⟨vs,by rw[qh],U,λw' G j u s => ?_⟩;have J:w'.heap[lo.b]? = some (.cells vs.toArray T (0,0)):=by rw[G.2 _ _ _ C ⟨lo,F,rfl⟩];exact V
   rw[qh,cell_of_row w' lo.b j vs.toArray T (0,0) J];simpa using s
  .cases h
 | efx t x i' =>
  simp only[px_,qOi,qg]at h;obtain⟨rfl,rfl⟩:=h;obtain⟨b,q,rr,rfl,O,y,f⟩:=hr;refine⟨b,q,rr,rfl,cells_rd.1 y,λw' p j u s => ?_⟩;rw[World.cell?_of_block (w:=z.w) (p.1 b O).2];exact f j u s
 | _=>cases h
def qLoadI(P:tT)(E:TE)(H:Nat->tO (Obj E))(T:tN)(c:SC E){R:Type}(k:SV E->Up E->tO R):tO R :=
 match px_ E H c,aggB P T with
 | some q,some false=>match dtsC .u32 q.1 with
  | some xs=>Option.bind (ah_ xs q.2) λy=>k (.v (.one (.dt (.int .u32) y))) none
  | none=>none
 | _,_=>none
def qLoad(P:tT)(E:TE)(L:Nat->tO (SV E))(H:Nat->tO (Obj E))(T:tN)(x:tI){R:Type}(k:SV E->Up E->tO R):tO R :=
 match opS E L x with
 | some (.v (.one c))=>match behind E H c with
  | some (l,off)=>match loadC P T l off with
   | some y=>k (.v y) none
   | none=>none
  | none=>qLoadI P E H T c k
 | _=>none
theorem qLoad_ok{x:tI}{T:tN}(O:o.op = .load T x)(hρ:OpR P E z g L ρ)(V:HR P E Bs F0 w0 W z g H)(U:∀w',I w'->Stands z g H W w')(h:qLoad P E L H T x k=some r):Good P E z g nx I H ρ o k r:=by
 unfold qLoad at h;split at h
 .rename_i c M;split at h
  .rename_i l off J;split at h
   .rename_i y j;obtain⟨b,base,vs,u,F,G⟩:=behind_ok V J (hρ x _ M);obtain⟨v,D,C⟩:=qf_ j F;exact⟨_,v,none,g,h,Ga.Le.refl g,λ_ _=>rfl,C,λw' s=>run_load O u (d4_ D (G w' (U w' s))),rfl⟩
   .cases h
  .unfold qLoadI at h;split at h
   .rename_i q J ha;split at h
    .rename_i xs p;obtain⟨y,j,h⟩:=bind_some h;obtain⟨h0,f,Z⟩:=d5_ j;obtain⟨b,base,vs,u,F,G⟩:=behindI_ok V J (hρ x _ M);have Y:=qg_ p F f;refine⟨_,.int .u32 y,none,g,h,Ga.Le.refl g,λ_ _=>rfl,.int .nil,λw' s=>run_load O u (d4_ (cs:=vs) ?_ (G w' (U w' s))),rfl⟩;unfold eA_;rw[ha];exact Y
    .cases h
   .cases h
 .cases h
end
end
noncomputable section
variable{P:tT}{E:TE}{z:Fz}{g:Ga}{nx:Nat}
variable{L:Nat->tO (SV E)}{H:Nat->tO (Obj E)}{ρ:tI->tW}{W w0:tS}{I:tS->Prop}{o:tP}{R:Type}{k:SV E->Up E->tO R}{r:R}{Bs:tL Nat}{F0:Nat->Prop}
theorem Good.mk'{s:SV E}{v:tW}(h:k s none=some r)(f:RV P E z g s v)(hr:∀w',I w'->(execOp ρ o).run P w' = .ok (.value v) w'):Good P E z g nx I H ρ o k r :=
 ⟨s,v,none,g,h,Ga.Le.refl g,λ_ _=>rfl,f,hr,rfl⟩
def qh_(P:tT)(T:tN)(f:Nat):tO Nat :=
 match P.underlying T with
 | some (.struct fs)=>match fs[f]? with
  | some q=>match aO_ P q.type with
   | some (_+1)=>some q.offset
   | _=>none
  | none=>none
 | _=>none
theorem fieldAt_run{T:tN}{f n b off:Nat}(h:qh_ P T f=some n)(w:tS):(Instr.fieldAt T (.pointer (some ⟨b,off,none⟩)) f).run P w = .ok (.pointer (some ⟨b,off+n,none⟩)) w:=by
 unfold qh_ at h;split at h
 .rename_i fs p;split at h
  .rename_i q u;split at h
   .rename_i m j;obtain rfl:=qSj h;unfold aO_ at j;cases hi:P.info? q.type with
    | none=>simp[hi]at j
    | some i =>
     have s:i.size=m+1:=by simpa[hi]using j
     simp[Instr.fieldAt,run_underlying p,u,Instr.sureAddr,fieldPlace,sizeOf,typeInfo,hi,s,Addr.add_mk]
   .cases h
  .cases h
 .cases h
def SC.shift(n:Nat):SC E->tO (SC E) | .ptr id off=>some (.ptr id (off+n)) | .elo id q i off=>some (.elo id q i (off+n)) | .elf t x off=>some (.elf t x (off+n))|_=>none
theorem SC.shift_ok{n:Nat}{c p:SC E}{v:tW}(h:c.shift n=some p)(hr:RC P E z g c v):∃b off,v = .pointer (some ⟨b,off,none⟩)/\RC P E z g p (.pointer (some ⟨b,off+n,none⟩)):=by
 unfold SC.shift at h;split at h
 .obtain rfl:=qSj h;obtain⟨l,j,rfl⟩:=hr;exact⟨_,_,rfl,l,j,rfl⟩
 .obtain rfl:=qSj h;obtain⟨l,j,f,rfl⟩:=hr;exact⟨_,_,rfl,l,j,f,by rw[zG]⟩
 .obtain rfl:=qSj h;obtain⟨b,q,rr,rfl,f⟩:=hr;exact⟨_,_,rfl,b,q,rr,by rw[zG],f⟩
 .cases h
def kA_(P:tT)(E:TE)(L:Nat->tO (SV E))(T:tN)(x:tI)(f:Nat){R:Type}(k:SV E->Up E->tO R):tO R :=
 match opS E L x,qh_ P T f with
 | some (.v (.one c)),some n=>match c.shift n with
  | some h=>k (.v (.one h)) none
  | none=>none
 | _,_=>none
theorem oi_{x:tI}{T:tN}{f:Nat}(q:o.op = .fieldAddr T x f)(hρ:OpR P E z g L ρ)(h:kA_ P E L T x f k=some r):Good P E z g nx I H ρ o k r:=by
 unfold kA_ at h;split at h
 .rename_i c n p s;split at h
  .rename_i y u;obtain⟨b,off,j,hr⟩:=SC.shift_ok u (hρ x _ p);refine .mk' h (v := .pointer (some ⟨b,off+n,none⟩)) hr λw' _ => ?_
   unfold execOp;rw[q];simp only[j];rw[Sem.run_bind,fieldAt_run s];rfl
  .cases h
 .cases h
def qStr(op:BinOp)(a b:tX){R:Type}(k:SV E->Up E->tO R):tO R:=match op with | .add=>(cat a b).bind λs=>k (.v (.one (.dt .str s))) none | .eql=>k (.v (.one (.dt .bool (a==b)))) none | .neq=>k (.v (.one (.dt .bool (!(a==b))))) none | .lss=>k (.v (.one (.dt .bool (Op.bytesLess a b)))) none | .gtr=>k (.v (.one (.dt .bool (!(Op.bytesLess a b||a==b))))) none | .leq=>k (.v (.one (.dt .bool (Op.bytesLess a b||a==b)))) none | .geq=>k (.v (.one (.dt .bool (!(Op.bytesLess a b))))) none|_=>none
theorem run_str_leq{t yt:tN}{x y:tI}{w:tS}(j:o.op = .binOp .leq t x y yt){a b:tX}(h:ρ x=S a)(f:ρ y=S b) :
  (execOp ρ o).run P w = .ok (.value (.bool (Op.bytesLess a b||a==b))) w:=by
 unfold execOp;simp only[j,h,f,S];simp only[eqGuard,binOp,Op.stringOp,ByteArray.toList_mk];rfl
theorem run_str_geq{t yt:tN}{x y:tI}{w:tS}(j:o.op = .binOp .geq t x y yt){a b:tX}(h:ρ x=S a)(f:ρ y=S b) :
  (execOp ρ o).run P w = .ok (.value (.bool (!(Op.bytesLess a b)))) w:=by
 unfold execOp;simp only[j,h,f,S];simp only[eqGuard,binOp,Op.stringOp,ByteArray.toList_mk];rfl
theorem qStr_ok{op:BinOp}{t yt:tN}{x y:tI}{a b:tX}(p:o.op = .binOp op t x y yt)(j:ρ x=S a)(f:ρ y=S b)(h:qStr op a b k=some r):Good P E z g nx I H ρ o k r:=by
 unfold qStr at h;split at h
 .obtain⟨s,q,h⟩:=bind_some h;exact .mk' h (v:=S s) (.str .nil) λw' _=>run_cat p j f q
 .exact .mk' h (.bool .nil) λw' _=>run_str_eql p j f
 .exact .mk' h (.bool .nil) λw' _=>run_str_neq p j f
 .exact .mk' h (.bool .nil) λw' _=>run_str_lss p j f
 .exact .mk' h (.bool .nil) λw' _=>run_str_gtr p j f
 .exact .mk' h (.bool .nil) λw' _=>run_str_leq p j f
 .exact .mk' h (.bool .nil) λw' _=>run_str_geq p j f
 .cases h
def Operand.isC:tI->tV | .const _=>true|_=>false
def qInt(P:tT)(E:TE)(L:Nat->tO (SV E))(o:tP)(op:BinOp)(y:tI)(ka:IntKind)(a:Int)(kb:IntKind)(b:Int){R:Type}(k:SV E->Up E->tO R):tO R:=match op,Operand.isC y,decide (ka=kb)with | .quo,false,true=>(quoI ka a b).bind λn=>k (.v (.one (.dt (.int ka) n))) none | .rem,false,true=>(remI a b).bind λn=>k (.v (.one (.dt (.int ka) n))) none | .shl,false,_=>(shlI ka a b).bind λn=>k (.v (.one (.dt (.int ka) n))) none | .shr,false,_=>(shrI ka a b).bind λn=>k (.v (.one (.dt (.int ka) n))) none|_,_,_=>kz_ P E L o k
theorem qInt_ok{op:BinOp}{t yt:tN}{x y:tI}{ka kb:IntKind}{a b:Int}(s:o.op = .binOp op t x y yt)(hρ:OpR P E z g L ρ)(q:ρ x = .int ka a)(p:ρ y = .int kb b)(h:qInt P E L o op y ka a kb b k=some r):Good P E z g nx I H ρ o k r:=by
 unfold qInt at h;split at h
 .rename_i j;simp only[qDe]at j;subst j;obtain⟨n,f,h⟩:=bind_some h;exact .mk' h (v := .int ka n) (.int .nil) λw' _=>run_quo s q p f
 .rename_i j;simp only[qDe]at j;subst j;obtain⟨n,f,h⟩:=bind_some h;exact .mk' h (v := .int ka n) (.int .nil) λw' _=>run_rem s q p f
 .obtain⟨n,f,h⟩:=bind_some h;exact .mk' h (v := .int ka n) (.int .nil) λw' _=>run_shl s q p f
 .obtain⟨n,f,h⟩:=bind_some h;exact .mk' h (v := .int ka n) (.int .nil) λw' _=>run_shr s q p f
 .exact ia_ hρ h
def SC.data(H:Nat->tO (Obj E))(t:Ty):SC E->tO (Den E.S t)
 | .dt f x=>if h:f=t then some (h▸x)else none
 | .nils=>match t with
  | .sl _=>some []
  | _=>none
 | .own id=>match H id with
  | some (.fr e xs)=>if h:Ty.sl e=t then some (h▸xs)else none
  | _=>none
 | .pre id n=>match H id with
  | some (.fr e xs)=>if h:Ty.sl e=t then some (h▸xs.take n.toNat)else none
  | _=>none
 | _=>none
theorem SC.data_ok{t:Ty}{c:SC E}{x:Den E.S t}{v:tW}{w:tS}(J:HR P E Bs F0 w0 w z g H)(h:c.data H t=some x)(hr:RC P E z g c v):RD E z [t] (x,()) [v]:=by
 unfold SC.data at h;split at h
 .split at h
  .rename_i u;subst u;obtain rfl:=qSj h;exact hr
  .cases h
 .split at h
  .obtain rfl:=qSj h;simp only[RC]at hr;subst hr;exact RD.sl (xs:=[]) (cap:=0) (SlF.nil _ _ _ _) (qE _) (rows:=[]) (λi x r h=>by simp at h) .nil
  .cases h
 .split at h
  .rename_i e xs hi;split at h
   .rename_i u;subst u;obtain rfl:=qSj h;obtain⟨l,q,rfl⟩:=hr;obtain⟨O,rows,p,C,F,s,j,f⟩:=J.hold _ _ hi;rw[q]at p;obtain rfl:=qSj p;rw[C];rw[C]at j s;rw[F]at s;exact RD.sl s j f .nil
   .cases h
  .cases h
 .rename_i id n;split at h
  .rename_i e xs hi;split at h
   .rename_i u;subst u;obtain rfl:=qSj h;obtain⟨l,q,y,rfl⟩:=hr;obtain⟨O,rows,p,C,F,s,j,f⟩:=J.hold _ _ hi;rw[q]at p;obtain rfl:=qSj p;rw[C]at y s j;rw[F]at s;have G:(xs.take n.toNat).length=n.toNat:=by rw[qA];omega
    have M:=RD.sl (E:=E) (z:=z) (xs:=xs.take n.toNat) (cap:=l.cap) (rows:=rows.take n.toNat) (A:=l.A) (ts:=[]) (h:=()) (vs:=[]) (by rw[G];exact s.take y) (by rw[G];omega) (λi x r q p=>by
     rw[zp]at q p;split at q
     .rename_i D;rw[qL D]at p;exact f i x r q p
     .cases q) .nil
    rw[G]at M;exact M
   .cases h
  .cases h
 .cases h
def cf_(E:TE)(H:Nat->tO (Obj E)):(ts:tL Ty)->tL (SC E)->tO (HL E.S ts)
 | [],[]=>some ()
 | t::ts,c::cs=>match c.data H t with
  | none=>none
  | some x=>match cf_ E H ts cs with
   | some h=>some (x,h)
   | none=>none
 | _,_=>none
theorem el_{w:tS}(j:HR P E Bs F0 w0 w z g H):∀{ts:tL Ty} {cs:tL (SC E)} {h:HL E.S ts} {vs:tL tW},cf_ E H ts cs=some h->All2 (RC P E z g) cs vs->RD E z ts h vs
 | [],[],h,vs,f,hr=>by cases hr;exact .nil
 | t :: ts,c::cs,h,vs,f,hr=>by
  cases hr with
  | cons u s =>
   simp only[cf_]at f;split at f
   .cases f
   .rename_i x p;split at f
    .rename_i y q;obtain rfl:=qSj f;exact RD.cons (SC.data_ok j p u) (el_ j q s)
    .cases f
 | [],c::cs,h,vs,f,hr=>by simp[cf_]at f
 | t::ts,[],h,vs,f,hr=>by simp[cf_]at f
def bd_(P:tT)(E:TE)(T n:Nat):Prop:=∀(d:DecidableEq (E.S n)) (x y:E.S n) (l m:tL tW),encH E (E.cs n) (E.un n x)=some l->encH E (E.cs n) (E.un n y)=some m->EqIs P T (.agg l.toArray) (.agg m.toArray) (@decide (x=y) (d x y))
def qEq (E:TE) (H:Nat->tO (Obj E)) (eqs:tL (Nat×Nat)) (neg:tV) (T:tN) (l m:tL (SC E)) {R:Type} (k:SV E->Up E->tO R):tO R :=
 match eqs.find? λp=>Nat.beq p.1 T with
 | some p=>match cf_ E H (E.cs p.2) l,cf_ E H (E.cs p.2) m,E.deq p.2 with
  | some h,some f,some d=>match encH E (E.cs p.2) h,encH E (E.cs p.2) f with
   | some _,some _=>match neg with
    | false=>k (.v (.one (.dt .bool (@decide (E.bd p.2 h=E.bd p.2 f) (d _ _))))) none
    | true=>k (.v (.one (.dt .bool (!(@decide (E.bd p.2 h=E.bd p.2 f) (d _ _)))))) none
   | _,_=>none
  | _,_,_=>none
 | none=>none
theorem qEq_ok{eqs:tL (Nat×Nat)}{op:BinOp}{neg:tV}{t yt:tN}{x y:tI}{l m:tL (SC E)}(f:op=bif neg then .neq else .eql)(G:o.op = .binOp op t x y yt)(C:∀p∈eqs,bd_ P E p.1 p.2)(J:HR P E Bs F0 w0 W z g H)
  (Y:RV P E z g (.v (.agg l)) (ρ x)) (V:RV P E z g (.v (.agg m)) (ρ y)) (h:qEq E H eqs neg t l m k=some r):Good P E z g nx I H ρ o k r:=by
 unfold qEq at h;split at h
 .rename_i p F;have hT:p.1=t:=qNb (by simpa using jb F);have hf:=C p (jH F);split at h
  .rename_i hl Z d h1 h2 h3;split at h
   .rename_i e1 e2 O M;obtain⟨vs,ex,q⟩:=Y;obtain⟨U,ey,j⟩:=V;have u:=el_ J h1 q;have s:=el_ J h2 j;obtain rfl:=mO_ u O;obtain rfl:=mO_ s M;have D:=hf d (E.bd p.2 hl) (E.bd p.2 Z) vs U (by rw[E.un_bd];exact O) (by rw[E.un_bd];exact M);rw[hT]at D;cases neg with
    | false =>
     simp only at h;subst f;exact .mk' h (.bool .nil) λw' _=>run_agg_eql G ex ey D
    | true =>
     simp only at h;subst f;exact .mk' h (.bool .nil) λw' _=>run_agg_neq G ex ey D
   .cases h
  .cases h
 .cases h
theorem io_{α R:Type}{xs:tL α}{k:tV->tO R}{r:R}(h:nilB xs k=some r){b:tV}(f:xs≠[]->b=false):k b=some r:=by
 cases xs with
 | nil =>
  obtain⟨p,j⟩:=both_some h;cases b with
  | true=>exact p
  | false=>exact j
 | cons x xs=>rw[f (by simp)];exact h
theorem qi_(w:tS)(d:Nat)(t e:tN)(a:tO Addr)(l c:Nat)(h:P.underlying t=some (.slice e)):(Op.equalIn (d+1) t (.slice a l c) (.slice none 0 0)).run P w = .ok a.isNone w:=by
 cases a<;>simp[Op.equalIn,run_underlying h]
theorem mP_(w:tS)(t e:tN)(a:tO Addr)(l c:Nat)(h:P.underlying t=some (.slice e)):(Op.equal t (.slice a l c) (.slice none 0 0)).run P w = .ok a.isNone w:=qi_ w 9999 t e a l c h
theorem run_eql_snil(w:tS)(t e:tN)(a:tO Addr)(l c:Nat)(h:P.underlying t=some (.slice e)):(binOp .eql t (.slice a l c) (.slice none 0 0)).run P w = .ok (.bool a.isNone) w:=by
 simp only[binOp];simp[mP_ w t e a l c h]
theorem run_neq_snil(w:tS)(t e:tN)(a:tO Addr)(l c:Nat)(h:P.underlying t=some (.slice e)):(binOp .neq t (.slice a l c) (.slice none 0 0)).run P w = .ok (.bool (!a.isNone)) w:=by
 simp only[binOp];simp[mP_ w t e a l c h]
theorem hJ_{t yt e:tN}{x y:tI}{A:tO Addr}{n cap:Nat}{w:tS}(p:o.op = .binOp .eql t x y yt)(j:P.underlying t=some (.slice e))(h:ρ x = .slice A n cap)(f:ρ y = .slice none 0 0) :
  (execOp ρ o).run P w = .ok (.value (.bool A.isNone)) w:=by
 unfold execOp;simp only[p,h,f];simp[eqGuard,run_eql_snil w t e A n cap j]
theorem hK_{t yt e:tN}{x y:tI}{A:tO Addr}{n cap:Nat}{w:tS}(p:o.op = .binOp .neq t x y yt)(j:P.underlying t=some (.slice e))(h:ρ x = .slice A n cap)(f:ρ y = .slice none 0 0) :
  (execOp ρ o).run P w = .ok (.value (.bool (!A.isNone))) w:=by
 unfold execOp;simp only[p,h,f];simp[eqGuard,run_neq_snil w t e A n cap j]
def qNil0(P:tT)(E:TE)(H:Nat->tO (Obj E))(op:BinOp)(T:tN)(c:SC E){R:Type}(k:SV E->Up E->tO R):tO R :=
 match op,P.underlying T,c with
 | .eql,some (.slice _),.dt (.sl _) xs=>nilB xs λb=>k (.v (.one (.dt .bool b))) none
 | .neq,some (.slice _),.dt (.sl _) xs=>nilB xs λb=>k (.v (.one (.dt .bool (!b)))) none
 | .eql,some (.slice _),.nils=>k (.v (.one (.dt .bool true))) none
 | .neq,some (.slice _),.nils=>k (.v (.one (.dt .bool false))) none
 | .eql,some (.slice _),.own id=>match H id with
  | some (.row _ _ xs _)=>nilB xs λb=>k (.v (.one (.dt .bool b))) none
  | some (.fr _ xs)=>nilB xs λb=>k (.v (.one (.dt .bool b))) none
  | _=>none
 | .neq,some (.slice _),.own id=>match H id with
  | some (.row _ _ xs _)=>nilB xs λb=>k (.v (.one (.dt .bool (!b)))) none
  | some (.fr _ xs)=>nilB xs λb=>k (.v (.one (.dt .bool (!b)))) none
  | _=>none
 | _,_,_=>none
theorem own_nil{H:Nat->tO (Obj E)}(s:HR P E Bs F0 w0 W z g H){id:Nat}{v:tW}(hr:RC P E z g (.own id) v):(∀e t xs foc,H id=some (.row e t xs foc)->∃A n cap,v = .slice A n cap/\(xs≠[]->A.isNone=false))/\∀t xs,H id=some (.fr t xs)->∃A n cap,v = .slice A n cap/\(xs≠[]->A.isNone=false):=by
 obtain⟨l,u,rfl⟩:=hr;refine⟨λe t xs foc hi=>⟨_,_,_,rfl,λp => ?_⟩,λt xs hi=>⟨_,_,_,rfl,λp => ?_⟩⟩
 .obtain⟨x,rows,j,q,_,f,_⟩:=s.hold _ _ hi;rw[u]at j;obtain rfl:=qSj j;rcases f.2 with⟨_,h⟩|⟨b,cap,cur,h,_⟩
  .rw[q]at h;exact absurd (zI.1 h) p
  .injection h with C;rw[C];rfl
 .obtain⟨x,rows,j,q,_,y,_⟩:=s.hold _ _ hi;rw[u]at j;obtain rfl:=qSj j;have:0<l.n:=by rw[q];exact zq.2 p
  obtain⟨b,off,e,h,_⟩:=y.2 this;rw[e];rfl
theorem qNil0_ok{op:BinOp}{t yt:tN}{x y:tI}{c:SC E}(p:o.op = .binOp op t x y yt)(J:HR P E Bs F0 w0 W z g H)(u:RC P E z g c (ρ x))(j:ρ y = .slice none 0 0)(h:qNil0 P E H op t c k=some r):Good P E z g nx I H ρ o k r:=by
 unfold qNil0 at h;split at h
 .rename_i e xs f;obtain⟨A,cap,rows,vs',ev,C,_⟩:=RD.sl_inv u;injection ev with ev _;refine .mk' (io_ h (b:=A.isNone) λq => ?_) (.bool .nil) λw' _=>hJ_ p f ev j
  obtain⟨b,off,D,_⟩:=C.2 (zq.2 q);rw[D];rfl
 .rename_i e xs f;obtain⟨A,cap,rows,vs',ev,C,_⟩:=RD.sl_inv u;injection ev with ev _;refine .mk' (io_ h (b:=A.isNone) λq => ?_) (.bool .nil) λw' _=>hK_ p f ev j
  obtain⟨b,off,D,_⟩:=C.2 (zq.2 q);rw[D];rfl
 .rename_i f;exact .mk' h (.bool .nil) λw' _=>hJ_ p f u j
 .rename_i f;exact .mk' h (.bool .nil) λw' _=>hK_ p f u j
 .rename_i id f;obtain⟨G,F⟩:=own_nil J u;split at h
  .rename_i hi;obtain⟨A,n,cap,ev,s⟩:=G _ _ _ _ hi;exact .mk' (io_ h s) (.bool .nil) λw' _=>hJ_ p f ev j
  .rename_i hi;obtain⟨A,n,cap,ev,s⟩:=F _ _ hi;exact .mk' (io_ h s) (.bool .nil) λw' _=>hJ_ p f ev j
  .cases h
 .rename_i id f;obtain⟨G,F⟩:=own_nil J u;split at h
  .rename_i hi;obtain⟨A,n,cap,ev,s⟩:=G _ _ _ _ hi;exact .mk' (io_ h s) (.bool .nil) λw' _=>hK_ p f ev j
  .rename_i hi;obtain⟨A,n,cap,ev,s⟩:=F _ _ hi;exact .mk' (io_ h s) (.bool .nil) λw' _=>hK_ p f ev j
  .cases h
 .cases h
def qBin(P:tT)(E:TE)(L:Nat->tO (SV E))(H:Nat->tO (Obj E))(eqs:tL (Nat×Nat))(o:tP)(op:BinOp)(T:tN)(x y:tI){R:Type}(k:SV E->Up E->tO R):tO R :=
 match opS E L x,opS E L y with
 | some (.v (.one (.dt (.int ka) a))),some (.v (.one (.dt (.int kb) b)))=>qInt P E L o op y ka a kb b k
 | some (.v (.one (.dt .str a))),some (.v (.one (.dt .str b)))=>qStr op a b k
 | some (.v (.one (.dt .bool a))),some (.v (.one (.dt .bool b)))=>match op,P.underlying T with
  | .eql,some .bool=>k (.v (.one (.dt .bool (a==b)))) none
  | .neq,some .bool=>k (.v (.one (.dt .bool (!(a==b))))) none
  | _,_=>none
 | some (.v (.agg l)),some (.v (.agg m))=>match op with
  | .eql=>qEq E H eqs false T l m k
  | .neq=>qEq E H eqs true T l m k
  | _=>none
 | some (.v (.one c)),some (.v (.one .nils))=>qNil0 P E H op T c k
 | _,_=>none
theorem qBin_ok{eqs:tL (Nat×Nat)}{op:BinOp}{t yt:tN}{x y:tI}(q:o.op = .binOp op t x y yt)(s:∀p∈eqs,bd_ P E p.1 p.2)(hρ:OpR P E z g L ρ)(C:HR P E Bs F0 w0 W z g H)(h:qBin P E L H eqs o op t x y k=some r):Good P E z g nx I H ρ o k r:=by
 unfold qBin at h;split at h
 .rename_i ka a kb b j f;exact qInt_ok q hρ (SV.int_ok rfl (hρ x _ j)) (SV.int_ok rfl (hρ y _ f)) h
 .rename_i a b j f;exact qStr_ok q (SV.str_ok rfl (hρ x _ j)) (SV.str_ok rfl (hρ y _ f)) h
 .rename_i a b j f;have F:=SV.bool_ok rfl (hρ x _ j);have D:=SV.bool_ok rfl (hρ y _ f);split at h
  .rename_i u;exact .mk' h (.bool .nil) λw' _=>run_bool_eql q u F D
  .rename_i u;exact .mk' h (.bool .nil) λw' _=>run_bool_neq q u F D
  .cases h
 .rename_i l m j f;split at h
  .exact qEq_ok (neg:=false) rfl q s C (hρ x _ j) (hρ y _ f) h
  .exact qEq_ok (neg:=true) rfl q s C (hρ x _ j) (hρ y _ f) h
  .cases h
 .rename_i c j f;exact qNil0_ok q C (hρ x _ j) (hρ y _ f) h
 .cases h
theorem run_indexV{t m e:Nat}{x i:tI}{ki:IntKind}{n:Int}{vs:tL tW}{v:tW}{w:tS}(u:o.op = .index t x i)(s:P.underlying t=some (.array m e))(y:aggB P e=some false)(h:aO_ P e=some 1)(p:ρ x = .agg vs.toArray)(hi:ρ i = .int ki n)
  (D:0<=n) (C:n<m) (q:vs[n.toNat]? = some v):(execOp ρ o).run P w = .ok (.value v) w:=by
 unfold aO_ at h;cases j:P.info? e with
 | none=>simp[j]at h
 | some inf =>
  have f:inf.size=1:=by simpa[j]using h
  unfold execOp;simp only[u,p,hi];simp[Instr.index,asIntOf,run_underlying s,sizeOf,typeInfo,j,f,D,C,part,Sem.run_bind,ln_ y,q]
def qIndex(P:tT)(E:TE)(L:Nat->tO (SV E))(T:tN)(x i:tI){R:Type}(k:SV E->Up E->tO R):tO R :=
 match opS E L x,opS E L i,P.underlying T with
 | some (.v (.one (.dt .str s))),some (.v (.one (.dt (.int _) n))),some .string=>Option.bind (ap_ s n) λb=>k (.v (.one (.dt (.int .u8) b))) none
 | some (.v (.agg l)),some (.v (.one (.dt (.int _) n))),some (.array m e)=>match aggB P e,aO_ P e,dtsC .u32 l with
  | some false,some 1,some xs=>match Nat.beq xs.length m with
   | true=>Option.bind (ah_ xs n) λy=>k (.v (.one (.dt (.int .u32) y))) none
   | false=>none
  | _,_,_=>none
 | _,_,_=>none
theorem qIndex_ok{T:tN}{x i:tI}(u:o.op = .index T x i)(hρ:OpR P E z g L ρ)(h:qIndex P E L T x i k=some r):Good P E z g nx I H ρ o k r:=by
 unfold qIndex at h;split at h
 .rename_i s ki n p hi q;obtain⟨b,M,h⟩:=bind_some h;exact .mk' h (v := .int .u8 b) (.int .nil) λw' _=>run_byteI u q (SV.str_ok rfl (hρ x _ p)) (SV.int_ok rfl (hρ i _ hi)) M
 .rename_i l ki n m e p hi q;split at h
  .rename_i xs O F j;split at h
   .rename_i G;obtain rfl:=qNb G;obtain⟨y,C,h⟩:=bind_some h;obtain⟨U,f,J⟩:=d5_ C;obtain⟨vs,ev,hr⟩:=hρ x _ p;have D:=qg_ j hr f;exact .mk' h (v := .int .u32 y) (.int .nil) λw' _=>run_indexV u q O F ev (SV.int_ok rfl (hρ i _ hi)) U (by omega) D
   .cases h
  .cases h
 .cases h
end
section
variable{P:tT}{E:TE}{z:Fz}{g:Ga}{nx:Nat}
variable{L:Nat->tO (SV E)}{H:Nat->tO (Obj E)}{ρ:tI->tW}{W w0:tS}{I:tS->Prop}{o:tP}{R:Type}{k:SV E->Up E->tO R}{r:R}{Bs:tL Nat}{F0:Nat->Prop}
structure Li(E:TE) where (t:Ty) (xs:tL (Den E.S t))
def SC.fro(H:Nat->tO (Obj E)):SC E->tO (Li E)
 | .dt (.sl t) xs=>some ⟨t,xs⟩
 | .own id=>match H id with
  | some (.fr t xs)=>some ⟨t,xs⟩
  | _=>none
 | _=>none
theorem SlF.stand{c n:Nat}{A:tO Addr}{rows:tL (tL tW)}{w:tS}(h:SlF z.F c A n rows z.w)(q:z.In w):SlF z.F c A n rows w :=
 ⟨h.1,λx=>by
  obtain⟨b,off,e,p,f⟩:=h.2 x;exact⟨b,off,e,p,λi r hr=>⟨(f i r hr).1,λj u s=>(World.cell?_of_block (w:=z.w) (q b p).2).trans ((f i r hr).2 j u s)⟩⟩⟩
theorem SC.fro_ok{c:SC E}{v:tW}{l:Li E}{w:tS}(y:HR P E Bs F0 w0 w z g H)(h:c.fro H=some l)(hr:RC P E z g c v) :
  ∃A cap rows,v = .slice A l.xs.length cap/\SlF z.F (E.size l.t) A l.xs.length rows z.w/\l.xs.length<=cap/\Rows E z l.t l.xs rows:=by
 unfold SC.fro at h;split at h
 .obtain rfl:=qSj h;obtain⟨A,cap,rows,vs',e,p,s,q,_⟩:=RD.sl_inv (hr:RD E z _ _ [v]);simp at e;exact⟨A,cap,rows,e.1,p,s,q⟩
 .split at h
  .rename_i t xs hi;obtain rfl:=qSj h;obtain⟨lo,C,rfl⟩:=hr;obtain⟨D,rows,u,x,s,p,f,j⟩:=y.hold _ _ hi;rw[C]at u;obtain rfl:=qSj u;rw[x]at p f ⊢;rw[s]at p;exact⟨_,_,rows,rfl,p,f,j⟩
  .cases h
 .cases h
def nj_ (P:tT) (E:TE) (L:Nat->tO (SV E)) (H:Nat->tO (Obj E)) (nx:Nat) (T:tN) (x i:tI) {R:Type} (k:SV E->Up E->tO R):tO R :=
 match opS E L x,opS E L i,P.underlying T with
 | some (.v (.one c)),some (.v (.one (.dt (.int _) n))),some (.slice e)=>match c.fro H with
  | some l=>match aO_ P e with
   | some s=>match Nat.beq s (E.size l.t)with
    | true=>Option.bind (ah_ l.xs n) λy=>k (.v (.one (.elf l.t y 0))) none
    | false=>none
   | none=>none
  | none=>match c with
   | .own id=>match H id with
    | some (.row f t xs foc)=>match aO_ P e with
     | some s=>match Nat.beq s (E.size t)with
      | true=>Option.bind (ah_ xs n) λy=>k (.v (.one (.elo id nx n 0))) (some (id,.row f t xs ((nx,n,y)::foc)))
      | false=>none
     | none=>none
    | _=>none
   | _=>none
 | _,_,_=>none
theorem tz_ {T:tN} {x i:tI} (ho:o.op = .indexAddr T x i) (ZP:g nx=none) (hρ:OpR P E z g L ρ) (hH:HR P E Bs F0 w0 W z g H) (hI:∀w',I w'->Stands z g H W w') (h:nj_ P E L H nx T x i k=some r):Good P E z g nx I H ρ o k r:=by
 unfold nj_ at h;split at h
 .rename_i c ki n e hx hi hu;have hv:=hρ x _ hx;have hn:=SV.int_ok rfl (hρ i _ hi);split at h
  .rename_i l hl;split at h
   .rename_i s hs;split at h
    .rename_i hb;obtain rfl:=qNb hb;obtain⟨y,hy,h⟩:=bind_some h;obtain⟨A,cap,rows,ev,f,ZK,D⟩:=SC.fro_ok hH hl hv;obtain⟨h0,ZX,ZT⟩:=d5_ hy;have ZR:n.toNat<rows.length:=by rw[f.1];exact ZT
     obtain⟨b,off,rfl,hF,ZY⟩:=f.2 (by omega);refine .mk' h (v := .pointer (some ⟨b,off+n.toNat*E.size l.t,none⟩)) ⟨b,off+n.toNat*E.size l.t,_,by rw[jP],hF,D n.toNat y _ ZX (qY ZR),λj u hu=>(ZY n.toNat _ (qY ZR)).2 j u hu⟩ λw' M => ?_
     obtain⟨b',off',e',C⟩:=hI_ (P:=P) ho hu hs ev hn (f.stand (hI w' M).1) rfl hy;simp only[qOi,Addr.mk.injEq]at e';obtain⟨rfl,rfl,_⟩:=e';exact C
    .cases h
   .cases h
  .split at h
   .rename_i id _;split at h
    .rename_i e' t xs foc Z;split at h
     .rename_i s hs;split at h
      .rename_i hb;obtain rfl:=qNb hb;obtain⟨y,hy,h⟩:=bind_some h;obtain⟨lo,h1,ev⟩:=hv;obtain⟨h0,ZX,ZT⟩:=d5_ hy;have hh:=hH.hold _ _ Z;obtain⟨l',rows,h2,ZN,hc,ZU,ZS,ZQ,D,ZL⟩:=hh;rw[h1]at h2;obtain rfl:=qSj h2;have f:=cK_ (w:=W) (e:=e') (cap:=lo.cap) ⟨ZU,ZS,ZQ⟩;obtain⟨b,off,hA,_,_⟩:=f.2 (by omega);have F:g.Le (g.put nx ⟨none,off+n.toNat*lo.c,0,0,b,n⟩):=Ga.le_put ZP;refine⟨_,.pointer (some ⟨b,off+n.toNat*lo.c,none⟩),_,_,h,F,λi hi=>Ga.put_ne _ _ hi,⟨_,Ga.put_self _ _ _,rfl,by rw[jP]⟩,λw' M => ?_,?_⟩
       .have hw:=(hI w' M).hold hH _ _ Z;obtain⟨l2,rows2,h3,ZJ,ZI,U,Y,ZV,_,_⟩:=hw;rw[h1]at h3;obtain rfl:=qSj h3;have J:=cK_ (w:=w') (e:=e') (cap:=lo.cap) ⟨U,Y,ZV⟩;rw[hc]at J;obtain⟨b',off',e2,C⟩:=hI_ (P:=P) ho hu hs ev hn J ZN.symm hy;rw[hA]at e2;simp only[qOi,Addr.mk.injEq]at e2;obtain⟨rfl,rfl,_⟩:=e2;rw[hc];exact C
       .refine⟨_,Z,λz w hq => ?_,λq => ?_⟩
        .obtain⟨l3,rows3,h4,ZO,ZM,O,V,ZW,G,ZZ⟩:=hq;rw[h1]at h4;obtain rfl:=qSj h4;refine⟨_,rows3,F _ _ h1,ZO,ZM,O,V,ZW,G,λp hp => ?_⟩;rcases qD.1 hp with rfl|hp
         .exact⟨hy,_,off,Ga.put_self _ _ _,hA,rfl,rfl⟩
         .obtain⟨h7,lq,o2,h8,h9⟩:=ZZ p hp;exact⟨h7,lq,o2,F _ _ h8,h9⟩
        .constructor
         .rintro⟨l3,a3,h4,h5,h6⟩;rw[F _ _ h1]at h4;obtain rfl:=qSj h4;exact⟨_,a3,h1,h5,h6⟩
         .rintro⟨l3,a3,h4,h5,h6⟩;exact⟨_,a3,F _ _ h4,h5,h6⟩
      .cases h
     .cases h
    .cases h
   .cases h
 .cases h
def aimA{R:Type}(i:Int):Nat->Nat->(Nat->tO R)->tO R|_,0,_=>none|j,n+1,k=>bif i==(j:Int)then k j else aimA i (j+1) n k
theorem aimA_some{R:Type}{i:Int}{r:R}{k:Nat->tO R}:∀{j n:Nat},aimA i j n k=some r->∃m:Nat,i=(m:Int)/\m<j+n/\k m=some r
 | _,0,h=>by cases h
 | j,n+1,h=>by
  unfold aimA at h;cases f:i==(j:Int)with
  | true =>
   rw[f]at h;exact⟨j,by simpa using f,by omega,h⟩
  | false =>
   rw[f]at h;obtain⟨m,q,s,p⟩:=aimA_some h;exact⟨m,q,by omega,p⟩
def SC.atI(n:Int):SC E->tO (SC E) | .ptr id 0=>some (.pix id n) | .elf t x 0=>some (.efx t x n)|_=>none
theorem SC.atI_ok{n:Int}{c f:SC E}{v:tW}(h:c.atI n=some f)(hr:RC P E z g c v):∃b off,v = .pointer (some ⟨b,off,none⟩)/\RC P E z g f (.pointer (some ⟨b,off+n.toNat,none⟩)):=by
 unfold SC.atI at h;split at h
 .obtain rfl:=qSj h;obtain⟨l,p,rfl⟩:=hr;exact⟨_,_,rfl,l,p,by rw[qh]⟩
 .obtain rfl:=qSj h;obtain⟨b,q,rr,rfl,j⟩:=hr;exact⟨_,_,rfl,b,q,rr,rfl,j⟩
 .cases h
def ow_(P:tT)(E:TE)(L:Nat->tO (SV E))(m:Nat)(e:tN)(x i:tI){R:Type}(k:SV E->Up E->tO R):tO R :=
 match i with
 | .const (.int _ (.ofNat j))=>match opS E L x,aO_ P e with
  | some (.v (.one c)),some s=>match Nat.blt j m,c.shift (j*s)with
   | true,some f=>k (.v (.one f)) none
   | _,_=>none
  | _,_=>none
 | i=>match opS E L x,opS E L i,aO_ P e,P.underlying e with
  | some (.v (.one c)),some (.v (.one (.dt (.int _) n))),some 1,some (.int .u32)=>match c.atI n with
   | some f=>Option.bind (boundI m n) λ_=>k (.v (.one f)) none
   | none=>none
  | some (.v (.one c)),some (.v (.one (.dt (.int _) n))),some s,_=>aimA n 0 m λj=>match c.shift (j*s)with
   | some f=>k (.v (.one f)) none
   | none=>none
  | _,_,_,_=>none
theorem qIndexArr_ok{T:tN}{m:Nat}{e:tN}{x i:tI}(G:o.op = .indexAddr T x i)(F:P.underlying T=some (.array m e))(hρ:OpR P E z g L ρ)(h:ow_ P E L m e x i k=some r):Good P E z g nx I H ρ o k r:=by
 have goal:∀{c y:SC E} {ki:IntKind} {j s:Nat},opS E L x=some (.v (.one c))->aO_ P e=some s->j<m->ρ i = .int ki (.ofNat j)->c.shift (j*s)=some y->k (.v (.one y)) none=some r->Good P E z g nx I H ρ o k r:=by
  intro c y ki j s f p J M q h;obtain⟨b,off,C,hr⟩:=SC.shift_ok q (hρ x _ f);refine .mk' h (v := .pointer (some ⟨b,off+j*s,none⟩)) hr λw' _ => ?_
  exact ot_ (i := .ofNat j) (u:=()) G F p C M (by unfold boundI;rw[qL ⟨Int.natCast_nonneg j,by simpa using J⟩])
 unfold ow_ at h;split at h
 .rename_i ki j;split at h
  .rename_i c s f p;split at h
   .rename_i y D q;exact goal f p (by simpa using D) (SV.int_ok rfl (hρ (.const (.int ki (.ofNat j))) (.v (.one (.dt (.int ki) (.ofNat j)))) rfl)) q h
   .cases h
  .cases h
 .split at h
  .rename_i c _ ki n f hi p O;split at h
   .rename_i y q;obtain⟨u,D,h⟩:=bind_some h;obtain⟨b,off,C,hr⟩:=SC.atI_ok q (hρ x _ f);refine .mk' h (v := .pointer (some ⟨b,off+n.toNat,none⟩)) hr λw' _ => ?_
    have:=ot_ (P:=P) (w:=w') G F p C (SV.int_ok rfl (hρ _ _ hi)) D
    rwa [Nat.mul_one]at this
   .cases h
  .rename_i c _ ki n s f hi p _;obtain⟨j,rfl,J,h⟩:=aimA_some h;split at h
   .rename_i y q;exact goal f p (by omega) (SV.int_ok rfl (hρ _ _ hi)) q h
   .cases h
  .cases h
def bndS(E:TE)(L:Nat->tO (SV E)):tO tI->tO (tO Int)
 | none=>some none
 | some x=>match opS E L x with
  | some (.v (.one (.dt (.int _) n)))=>some (some n)
  | _=>none
theorem ip_{lo:tO tI}{l:tO Int}(hρ:OpR P E z g L ρ)(h:bndS E L lo=some l):in_ ρ lo l:=by
 unfold bndS at h;split at h
 .obtain rfl:=qSj h;trivial
 .split at h
  .rename_i x y ki n f;obtain rfl:=qSj h;exact⟨ki,SV.int_ok rfl (hρ x _ f)⟩
  .cases h
def hiD(n:Int):tO Int->Int|some h=>h|none=>n
theorem hiD_eq(n:Int)(h:tO Int):hiD n h=h.getD n:=by cases h<;>rfl
def qSlice (P:tT) (E:TE) (L:Nat->tO (SV E)) (H:Nat->tO (Obj E)) (T:tN) (x:tI) (lo hi:tO tI) {R:Type} (k:SV E->Up E->tO R):tO R :=
 match opS E L x,bndS E L lo,bndS E L hi,P.underlying T with
 | some (.v (.one (.dt .str s))),some l,some h,some .string=>Option.bind (aP_ s (hiD 0 l) (hiD (s.length:Int) h)) λy=>k (.v (.one (.dt .str y))) none
 | some (.v (.one c)),some l,some h,some (.slice e)=>match c.fro H with
  | some li=>match aO_ P e with
   | some s=>match Nat.beq s (E.size li.t)with
    | true=>Option.bind (aP_ li.xs (hiD 0 l) (hiD (li.xs.length:Int) h)) λy=>k (.v (.one (.dt (.sl li.t) y))) none
    | false=>none
   | none=>none
  | none=>match c,l,h with
   | .own id,none,some n=>match H id with
    | some (.row _ _ xs _)=>match aO_ P e with
     | some _=>Option.bind (aP_ xs 0 n) λ_=>k (.v (.one (.pre id n))) none
     | none=>none
    | _=>none
   | .own id,some n,none=>match H id with
    | some (.row _ t xs _)=>match aO_ P e with
     | some s=>match Nat.beq s (E.size t)with
      | true=>Option.bind (aP_ xs n (xs.length:Int)) λ_=>k (.v (.one (.suf id n))) none
      | false=>none
     | none=>none
    | _=>none
   | _,_,_=>none
 | _,_,_,_=>none
theorem eT_{t:Ty}{xs:tL (Den E.S t)}{rows:tL (tL tW)}(h:Rows E z t xs rows)(a b:Nat):Rows E z t ((xs.take b).drop a) ((rows.take b).drop a):=by
 intro i x r f hr;rw[zW,zp]at f hr;split at f
 .rename_i j;rw[qL j]at hr;exact h _ x r f hr
 .cases f
theorem qSlice_ok{T:tN}{x:tI}{lo hi:tO tI}(ho:o.op = .slice T x lo hi none)(hρ:OpR P E z g L ρ)(hH:HR P E Bs F0 w0 W z g H)(h:qSlice P E L H T x lo hi k=some r):Good P E z g nx I H ρ o k r:=by
 unfold qSlice at h;split at h
 .rename_i s l G hx U p J;obtain⟨y,u,h⟩:=bind_some h;rw[hiD_eq,hiD_eq]at u;exact .mk' h (v:=S y) (.str .nil) λw' _=>run_str_sub ho J (SV.str_ok rfl (hρ x _ hx)) (ip_ hρ U) (ip_ hρ p) u
 .rename_i c l G e hx U p J;have hv:=hρ x _ hx;split at h
  .rename_i li ZY;split at h
   .rename_i s O;split at h
    .rename_i hb;obtain rfl:=qNb hb;obtain⟨y,u,h⟩:=bind_some h;rw[hiD_eq,hiD_eq]at u;obtain⟨A,cap,rows,ev,ZZ,q,C⟩:=SC.fro_ok hH ZY hv;obtain⟨h0,h1,h2,rfl⟩:=j7_ u;have V:=SlF.cut ZZ q (lo:=(l.getD 0).toNat) (hi:=(G.getD li.xs.length).toNat) (by omega) (by omega);have j:((li.xs.take (G.getD (li.xs.length:Int)).toNat).drop (l.getD 0).toNat).length=(G.getD (li.xs.length:Int)).toNat-(l.getD 0).toNat:=by
      simp;omega
     refine .mk' h (v := .slice (cutA A (E.size li.t) (l.getD 0).toNat cap) ((G.getD (li.xs.length:Int)).toNat-(l.getD 0).toNat) (cap-(l.getD 0).toNat)) ?_ λw' _=>run_cut ho J O ev (ip_ hρ U) (ip_ hρ p) h0 h1 (by omega)
     have M:SlF z.F (E.size li.t) (cutA A (E.size li.t) (l.getD 0).toNat cap) ((li.xs.take (G.getD (li.xs.length:Int)).toNat).drop (l.getD 0).toNat).length ((rows.take (G.getD (li.xs.length:Int)).toNat).drop (l.getD 0).toNat) z.w:=by rw[j];exact V
     have:=RD.sl (E:=E) M (cap:=cap-(l.getD 0).toNat) (by rw[j];omega) (eT_ C _ _) (.nil (h:=()));rw[j]at this;exact this
    .cases h
   .cases h
  .split at h
   .rename_i id n _;split at h
    .rename_i e' t xs foc D;split at h
     .rename_i s O;obtain⟨y,u,h⟩:=bind_some h;obtain⟨h0,h1,h2,_⟩:=j7_ u;obtain⟨lo',Z,ev⟩:=hv;obtain⟨l',rows,Y,hn,hc,f,_⟩:=hH.hold _ _ D;rw[Z]at Y;obtain rfl:=qSj Y;have q:=(Own.cap_le f).1;refine .mk' h (v := .slice lo'.A n.toNat lo'.cap) ⟨lo',Z,by rw[hn];omega,rfl⟩ λw' _ => ?_
      have:=run_cut (P:=P) (w:=w') (c:=s) ho J O ev (ip_ hρ U) (ip_ hρ p) (qt 0) (show(0:Int)<=(some n).getD _ from h1) (show(some n).getD _<=_ from by simp only[zu];omega);simp only[jh,zu,jN,Nat.sub_zero,cutA]at this;rw[this];split
      .rename_i hz;cases hA:lo'.A<;>simp_all
      .cases hA:lo'.A with
       | none=>rfl
       | some a=>simp[Addr.add]
     .cases h
    .cases h
   .rename_i id n _;split at h
    .rename_i e' t xs foc D;split at h
     .rename_i s O;split at h
      .rename_i hb;obtain rfl:=qNb hb;obtain⟨y,u,h⟩:=bind_some h;obtain⟨h0,h1,h2,_⟩:=j7_ u;obtain⟨lo',Z,ev⟩:=hv;obtain⟨l',rows,Y,hn,hc,f,_⟩:=hH.hold _ _ D;rw[Z]at Y;obtain rfl:=qSj Y;have q:=(Own.cap_le f).1;refine .mk' h (v := .slice (cutA lo'.A lo'.c n.toNat lo'.cap) (lo'.n-n.toNat) (lo'.cap-n.toNat)) ⟨lo',Z,by omega,rfl⟩ λw' _ => ?_
       have:=run_cut (P:=P) (w:=w') (c:=E.size t) ho J O ev (ip_ hρ U) (ip_ hρ p) (show(0:Int)<=(some n).getD 0 from h0) (show(some n).getD 0<=(none:tO Int).getD _ from by simp only[zu,jh];omega) (show(none:tO Int).getD _<=_ from by simp only[jh];omega);simp only[jh,zu,qTn]at this;rw[this,hc]
      .cases h
     .cases h
    .cases h
   .cases h
 .cases h
def SC.len?(H:Nat->tO (Obj E)):SC E->tO Int
 | .dt (.sl _) xs=>some (xs.length:Int)
 | .own id=>match H id with
  | some (.row _ _ xs _)=>some (xs.length:Int)
  | some (.fr _ xs)=>some (xs.length:Int)
  | _=>none
 | .nils=>some 0
 | _=>none
theorem SC.len_ok{c:SC E}{v:tW}{n:Int}{w:tS}(q:HR P E Bs F0 w0 w z g H)(h:c.len? H=some n)(hr:RC P E z g c v):∃A m cap,v = .slice A m cap/\n=(m:Int):=by
 unfold SC.len? at h;split at h
 .obtain rfl:=qSj h;obtain⟨A,cap,rows,vs',e,_⟩:=RD.sl_inv (hr:RD E z _ _ [v]);simp at e;exact⟨A,_,cap,e.1,rfl⟩
 .split at h
  .rename_i hi;obtain rfl:=qSj h;obtain⟨lo,p,rfl⟩:=hr;obtain⟨s,rows,f,j,_⟩:=q.hold _ _ hi;rw[p]at f;obtain rfl:=qSj f;exact⟨_,_,_,rfl,by rw[j]⟩
  .rename_i hi;obtain rfl:=qSj h;obtain⟨lo,p,rfl⟩:=hr;obtain⟨s,rows,f,j,_⟩:=q.hold _ _ hi;rw[p]at f;obtain rfl:=qSj f;exact⟨_,_,_,rfl,by rw[j]⟩
  .cases h
 .obtain rfl:=qSj h;simp only[RC]at hr;subst hr;exact⟨none,0,0,rfl,rfl⟩
 .cases h
theorem kB_{b:Builtin}{xs:Array tI}{ats:Array tN}(f:o.op = .call { callee := .builtin b,args:=xs,argTypes:=ats }):∃cs,execOp ρ o=builtin b ats o.type cs (xs.map ρ):=by
 obtain⟨dst,op,ty',pos,after,guard⟩:=o;simp only at f;subst f;exact⟨_,BigFrame.execOp_builtin ρ dst b xs ats ty' pos after guard⟩
def qLen(P:tT)(E:TE)(L:Nat->tO (SV E))(H:Nat->tO (Obj E))(T:tN)(x:tI){R:Type}(k:SV E->Up E->tO R):tO R :=
 match opS E L x,P.underlying T with
 | some (.v (.one (.dt .str s))),some .string=>k (.v (.one (.dt (.int .i64) (s.length:Int)))) none
 | some (.v (.one c)),some (.slice _)=>match c.len? H with
  | some n=>k (.v (.one (.dt (.int .i64) n))) none
  | none=>none
 | _,_=>none
theorem qLen_ok{T:tN}{x:tI}(u:o.op = .call { callee := .builtin .len,args := #[x],argTypes := #[T] })(hρ:OpR P E z g L ρ)(C:HR P E Bs F0 w0 W z g H)(h:qLen P E L H T x k=some r):Good P E z g nx I H ρ o k r:=by
 unfold qLen at h;obtain⟨cs,f⟩:=kB_ (ρ:=ρ) u;rw[BigFrame.builtin_len]at f;split at h
 .rename_i s j p;have q:=SV.str_ok rfl (hρ x _ j);refine .mk' h (v := .int .i64 (s.length:Int)) (.int .nil) λw' _ => ?_
  rw[f];simp[q,S,Builtin.len_,run_underlying p,size_mk,goInt]
 .rename_i c e j p;split at h
  .rename_i n y;obtain⟨A,m,cap,ev,rfl⟩:=SC.len_ok C y (hρ x _ j);refine .mk' h (v := .int .i64 (m:Int)) (.int .nil) λw' _ => ?_
   rw[f];simp[ev,Builtin.len_,run_underlying p,goInt]
  .cases h
 .cases h
def kC_(P:tT)(E:TE)(T:tN):tO (tL (SC E)):=match zeroOf P T with|some zs=>lf_ E zs|none=>none
def je_(l:tL (SC E))(off:Nat)(cs:tL (SC E)):tL (SC E):=l.take off++cs++l.drop (off+cs.length)
theorem kD_{l cs:tL (SC E)}{vs f:tL tW}(off:Nat)(h:All2 (RC P E z g) l vs)(j:All2 (RC P E z g) cs f):All2 (RC P E z g) (je_ l off cs) (splice vs off f):=by
 unfold je_ splice;rw[j.len];exact((h.take off).append j).append (h.drop _)
def buildC (P:tT) (E:TE) (L:Nat->tO (SV E)) (fs:Array Field):tL (Nat×tI)->tL (SC E)->tO (tL (SC E))
 | [],l=>some l
 | (i,x)::rest,l=>match fs[i]?,opS E L x with
  | some q,some s=>match aO_ P q.type,s.cells? with
   | some n,some cs=>match Nat.beq n cs.length&&Nat.ble (q.offset+cs.length) l.length with
    | true=>buildC P E L fs rest (je_ l q.offset cs)
    | false=>none
   | _,_=>none
  | _,_=>none
theorem mr_:∀(f:tL tW) (k off:Nat) (cells:Array tW),off+k+f.length<=cells.size ->
  ((f.zipIdx k).foldl (λcs (p:tW×Nat)=>cs.setIfInBounds (off+p.2) p.1) cells).toList=splice cells.toList (off+k) f
 | [],k,off,cells,_=>by simp[splice]
 | u::f,k,off,cells,h=>by
  simp only[List.zipIdx_cons,List.foldl_cons];have s:(u::f).length=f.length+1:=rfl;rw[mr_ f (k+1) off _ (by simp;omega)];simp only[splice,Array.toList_setIfInBounds];have q:cells.toList.length=cells.size:=qq
  apply je;intro j;simp only[List.getElem?_append,zp,zW,jK,qA,qLa,jF,qLc,List.getElem?_cons]
  repeat' split
  all_goals first
   | rfl
   | omega
   | (congr 1;omega)
   | (exfalso;omega)
   | (rename_i a b;simp_all;done)
   | skip
theorem q1_{fs:Array Field}{places:Array (Nat×Nat)}(C:∀(i:Nat) (q:Field) (n:Nat),fs[i]? = some q->aO_ P q.type=some n->places[i]? = some (q.offset,n))(hρ:OpR P E z g L ρ) :
  ∀{ps:tL (Nat×tI)} {l u:tL (SC E)} {cells:Array tW},buildC P E L fs ps l=some u->All2 (RC P E z g) l cells.toList ->
   ∃cells',Instr.fill (λi=>places[i]?) cells (ps.map λp=>(p.1,ρ p.2))=some cells'/\All2 (RC P E z g) u cells'.toList
 | [],l,u,cells,h,hr=>by
  simp only[buildC,qOi]at h;subst h;exact⟨cells,rfl,hr⟩
 | (i, x)::rest,l,u,cells,h,hr=>by
  simp only[buildC]at h;split at h
  .rename_i q s M J;split at h
   .rename_i n cs O V;split at h
    .rename_i y;simp only[qAn]at y;have Z:=qNb y.1;have Y:=zD y.2;have j:=SV.cells_ok V (hρ x _ J);have D:cs.length=(ρ x).cells.size:=by rw[j.len,qq]
     have U:l.length=cells.size:=by rw[hr.len,qq]
     have G:(ρ x).cells.size=n:=by omega
     have F:q.offset+(ρ x).cells.size<=cells.size:=by omega
     have f:=q1_ C hρ h (cells:=((ρ x).cells.zipIdx.foldl (λcs (p:tW×Nat)=>cs.setIfInBounds (q.offset+p.2) p.1) cells)) (by
      have e:(ρ x).cells.zipIdx.foldl (λcs (p:tW×Nat)=>cs.setIfInBounds (q.offset+p.2) p.1) cells=(((ρ x).cells.toList.zipIdx 0).foldl (λcs (p:tW×Nat)=>cs.setIfInBounds (q.offset+p.2) p.1) cells):=by
       rw[←Array.foldl_toList,Array.toList_zipIdx]
      rw[e,mr_ _ 0 q.offset cells (by rw[qq];omega),jP];exact kD_ _ hr j)
     obtain⟨cells',h1,h2⟩:=f;refine⟨cells',?_,h2⟩;simp only[zH,Instr.fill,C i q n M O];rw[qP (by simp;omega)];exact h1
    .cases h
   .cases h
  .cases h
def sizesB(P:tT):tL Field->tV
 | []=>true
 | q::fs=>(match aO_ P q.type with|some _=>true|none=>false)&&sizesB P fs
def placesOf(P:tT)(fs:tL Field):tL (Nat×Nat):=fs.map λq=>(q.offset,(aO_ P q.type).getD 0)
theorem place_run{q:Field}{n:Nat}(f:aO_ P q.type=some n)(w:tS):(Functor.map (Prod.mk q.offset) (sizeOf q.type)).run P w = .ok (q.offset,n) w:=by
 cases hi:P.info? q.type with
 | none=>simp[aO_,hi]at f
 | some inf =>
  have:inf.size=n:=by simpa[aO_,hi]using f
  simp[sizeOf,typeInfo,hi,this]
theorem q3_(w:tS):∀{fs:tL Field},sizesB P fs=true->(fs.mapM λf=>Functor.map (Prod.mk f.offset) (sizeOf f.type)).run P w = .ok (placesOf P fs) w
 | [],_=>rfl
 | q::fs,h=>by
  simp only[sizesB,qAn]at h;have s:=q3_ w h.2;cases j:aO_ P q.type with
  | none=>rw[j]at h;simp at h
  | some n =>
   have p:=place_run (P:=P) j w;rw[List.mapM_cons,Sem.run_bind,p];simp only[Result.andThen_ok,Sem.run_bind,s,Sem.run_pure];simp[placesOf,j]
theorem places_get{fs:Array Field}(i:Nat)(q:Field)(n:Nat)(f:fs[i]? = some q)(h:aO_ P q.type=some n):(placesOf P fs.toList).toArray[i]? = some (q.offset,n):=by
 simp[placesOf,f,h]
def mQ_ (E:TE) (L:Nat->tO (SV E)) (s:Nat):tL (Nat×tI)->tL (SC E)->tO (tL (SC E))
 | [],l=>some l
 | (i,x)::rest,l=>match opS E L x with
  | some v=>match v.cells? with
   | some cs=>match Nat.beq s cs.length&&Nat.ble (i*s+cs.length) l.length with
    | true=>mQ_ E L s rest (je_ l (i*s) cs)
    | false=>none
   | none=>none
  | none=>none
theorem ms_{s:Nat}(hρ:OpR P E z g L ρ):∀{ps:tL (Nat×tI)} {l q:tL (SC E)} {cells:Array tW},mQ_ E L s ps l=some q->All2 (RC P E z g) l cells.toList ->
   ∃cells',Instr.fill (λi=>some (i*s,s)) cells (ps.map λp=>(p.1,ρ p.2))=some cells'/\All2 (RC P E z g) q cells'.toList
 | [],l,q,cells,h,hr=>by
  simp only[mQ_,qOi]at h;subst h;exact⟨cells,rfl,hr⟩
 | (i, x)::rest,l,q,cells,h,hr=>by
  simp only[mQ_]at h;split at h
  .rename_i v C;split at h
   .rename_i cs F;split at h
    .rename_i u;simp only[qAn]at u;have J:=qNb u.1;have G:=zD u.2;have j:=SV.cells_ok F (hρ x _ C);have y:cs.length=(ρ x).cells.size:=by rw[j.len,qq]
     have D:l.length=cells.size:=by rw[hr.len,qq]
     have f:=ms_ hρ h (cells:=((ρ x).cells.zipIdx.foldl (λcs (p:tW×Nat)=>cs.setIfInBounds (i*s+p.2) p.1) cells)) (by
      have e:(ρ x).cells.zipIdx.foldl (λcs (p:tW×Nat)=>cs.setIfInBounds (i*s+p.2) p.1) cells=(((ρ x).cells.toList.zipIdx 0).foldl (λcs (p:tW×Nat)=>cs.setIfInBounds (i*s+p.2) p.1) cells):=by
       rw[←Array.foldl_toList,Array.toList_zipIdx]
      rw[e,mr_ _ 0 (i*s) cells (by rw[qq];omega),jP];exact kD_ _ hr j)
     obtain⟨cells',O,M⟩:=f;refine⟨cells',?_,M⟩;simp only[zH,Instr.fill];rw[qP (by simp;omega)];exact O
    .cases h
   .cases h
  .cases h
def oy_(P:tT)(E:TE)(L:Nat->tO (SV E))(T e:tN)(ps:Array (Nat×tI)){R:Type}(k:SV E->Up E->tO R):tO R :=
 match kC_ P E T,aO_ P e with
 | some l,some s=>match mQ_ E L s ps.toList l with
  | some f=>k (.v (.agg f)) none
  | none=>none
 | _,_=>none
def qBuild(P:tT)(E:TE)(L:Nat->tO (SV E))(T:tN)(ps:Array (Nat×tI)){R:Type}(k:SV E->Up E->tO R):tO R :=
 match P.underlying T with
 | some (.struct fs)=>match kC_ P E T with
  | some l=>match sizesB P fs.toList,buildC P E L fs ps.toList l with
   | true,some f=>k (.v (.agg f)) none
   | _,_=>none
  | none=>none
 | some (.array _ e)=>oy_ P E L T e ps k
 | _=>none
theorem qBuildArr_ok{T e:tN}{m:Nat}{ps:Array (Nat×tI)}(F:o.op = .build T ps)(D:P.underlying T=some (.array m e))(hρ:OpR P E z g L ρ)(h:oy_ P E L T e ps k=some r):Good P E z g nx I H ρ o k r:=by
 unfold oy_ at h;split at h
 .rename_i l s j x;split at h
  .rename_i J G;unfold kC_ at j;split at j
   .rename_i zs f;have q:All2 (RC P E z g) l zs:=iH_ j;obtain⟨cells',C,hr⟩:=ms_ hρ G (cells:=zs.toArray) q;refine .mk' h (v := .agg cells') ⟨cells'.toList,rfl,hr⟩ λw' _ => ?_
    unfold zeroOf at f;split at f
    .rename_i inf hi;split at f
     .rename_i zv p;obtain rfl:=qSj f;unfold aO_ at x;cases y:P.info? e with
      | none=>simp[y]at x
      | some inf2 =>
       have u:inf2.size=s:=by simpa[y]using x
       unfold execOp;rw[F];simp only[Instr.build];simp[Sem.run_bind,zeroValue,typeInfo,hi,p,run_underlying D,sizeOf,y,u];simp only[zN]at C;rw[C];rfl
     .cases f
    .cases f
   .cases j
  .cases h
 .cases h
theorem qBuild_ok {T:tN} {ps:Array (Nat×tI)} (C:o.op = .build T ps) (hρ:OpR P E z g L ρ) (h:qBuild P E L T ps k=some r):Good P E z g nx I H ρ o k r:=by
 unfold qBuild at h;split at h
 .rename_i fs u;split at h
  case h_2=>cases h
  rename_i l p;split at h
  .rename_i M x F;unfold kC_ at p;split at p
   .rename_i zs j;have s:All2 (RC P E z g) l zs:=iH_ p;obtain⟨cells',D,hr⟩:=q1_ (places:=(placesOf P fs.toList).toArray) places_get hρ F (cells:=zs.toArray) s;refine .mk' h (v := .agg cells') ⟨cells'.toList,rfl,hr⟩ λw' _ => ?_
    have y:=q3_ (P:=P) w' x;unfold zeroOf at j;split at j
    .rename_i inf hi;split at j
     .rename_i zv q;obtain rfl:=qSj j;have J:(fs.mapM λf=>Functor.map (Prod.mk f.offset) (sizeOf f.type)).run P w' = .ok (placesOf P fs.toList).toArray w':=by
       have G:(fs.mapM λf=>Functor.map (Prod.mk f.offset) (sizeOf f.type):Sem (Array (Nat×Nat)))=(Functor.map List.toArray (fs.toList.mapM λf=>Functor.map (Prod.mk f.offset) (sizeOf f.type))):=by
        rw[←List.mapM_toArray]
       rw[G,map_eq_pure_bind,Sem.run_bind,y];rfl
      unfold execOp;rw[C];simp only[Instr.build];simp[Sem.run_bind,zeroValue,typeInfo,hi,q,run_underlying u,J];simp only[zN,ju]at D;rw[D];rfl
     .cases j
    .cases j
   .cases p
  .cases h
 .rename_i m e u;exact qBuildArr_ok C u hρ h
 .cases h
def capsC(E:TE)(L:Nat->tO (SV E)):tL tI->tO (tL Nat)
 | []=>some []
 | x::l=>match opS E L x with
  | some (.v (.one (.ptr id 0)))=>match capsC E L l with
   | some ids=>some (id::ids)
   | none=>none
  | _=>none
theorem capsC_ok(hρ:OpR P E z g L ρ):∀{xs:tL tI} {ids:tL Nat},capsC E L xs=some ids->All2 (λid u=>∃l,g id=some l/\u=Value.pointer (some ⟨l.b,0,none⟩)) ids (xs.map ρ)
 | [],ids,h=>by simp only[capsC,qOi]at h;subst h;exact .nil
 | x::l,ids,h=>by
  simp only[capsC]at h;split at h
  .rename_i id f;split at h
   .rename_i ids' j;obtain rfl:=qSj h;exact .cons (hρ x _ f) (capsC_ok hρ j)
   .cases h
  .cases h
def lV_(E:TE)(L:Nat->tO (SV E))(f:Fn)(first caps:Array tI){R:Type}(k:SV E->Up E->tO R):tO R:=match f,first.toList,capsC E L caps.toList with | .func f,[],some ids=>k (.v (.one (.clo f ids))) none|_,_,_=>none
theorem oz_{f:Fn}{first caps:Array tI}(q:o.op = .makeFunc f first caps)(hρ:OpR P E z g L ρ)(h:lV_ E L f first caps k=some r):Good P E z g nx I H ρ o k r:=by
 unfold lV_ at h;split at h
 .rename_i f ids p s;have j:=capsC_ok hρ s;refine .mk' h (v := .func (.func f) #[] (caps.toList.map ρ).toArray) ⟨_,rfl,j⟩ λw' _ => ?_
  unfold execOp;rw[q];have:first = #[]:=by cases first;simp at p;subst p;rfl
  subst this;simp only[Instr.makeFunc,Sem.run_bind,Sem.run_pure,Result.andThen_ok];rw[show caps.map ρ=(caps.toList.map ρ).toArray by rw[←List.map_toArray]];simp
 .cases h
theorem nk_{f:IntKind}:∀{xs:tL Int} {rows:tL (tL tW)},Rows E z (.int f) xs rows->rows.length=xs.length->rows=xs.map λb=>[Value.int f b]:=by
 intro xs rows h p
 apply je;intro i;rw[zF];by_cases hi:i<xs.length
 .rw[qY hi,qY (by omega)];have:=h i xs[i] _ (qY hi) (qY (by omega:i<rows.length));obtain⟨vs',e,j⟩:=RD.int_inv (this:RD E z [.int f] (xs[i],()) _);rw[j.nil_inv]at e;rw[e];rfl
 .rw[qe (by omega),qe (by omega)];rfl
def SC.bytes(H:Nat->tO (Obj E)):SC E->tO (tL Int)
 | .dt (.sl (.int .u8)) xs=>some xs
 | .own id=>match H id with
  | some (.fr (.int .u8) xs)=>some xs
  | some (.row _ (.int .u8) xs _)=>some xs
  | _=>none
 | .nils=>some []
 | _=>none
theorem SC.bytes_ok{c:SC E}{v:tW}{xs:tL Int}{w':tS}(O:HR P E Bs F0 w0 W z g H)(h:c.bytes H=some xs)(hr:RC P E z g c v)(u:Stands z g H W w') :
  ∃A n cap F,v = .slice A n cap/\SlF F 1 A n (xs.map λb=>[Value.int .u8 b]) w':=by
 unfold SC.bytes at h;split at h
 .rename_i D;obtain rfl:=qSj h;obtain⟨A,cap,rows,ev,f,C,j⟩:=SC.fro_ok (c := .dt (.sl (.int .u8)) D) O rfl hr;rw[nk_ j f.1]at f;exact⟨A,_,cap,_,ev,f.stand u.1⟩
 .rename_i id;split at h
  .rename_i D hi;obtain rfl:=qSj h;obtain⟨A,cap,rows,ev,f,C,j⟩:=SC.fro_ok (c := .own id) (l:=⟨.int .u8,D⟩) O (by simp only[SC.fro,hi]) hr;rw[nk_ j f.1]at f;exact⟨A,_,cap,_,ev,f.stand u.1⟩
  .rename_i e D foc hi;obtain rfl:=qSj h;obtain⟨l,V,rfl⟩:=hr;obtain⟨l2,rows2,U,G,J,x,q,y,s,_⟩:=u.hold O _ _ hi;rw[V]at U;obtain rfl:=qSj U;have p:=cK_ (w:=w') (e:=e) (cap:=l.cap) ⟨x,q,y⟩;rw[nk_ s (by rw[q,G])]at p;have M:l.c=1:=J;rw[M]at p;exact⟨_,_,_,_,rfl,p⟩
  .cases h
 .obtain rfl:=qSj h;simp only[RC]at hr;subst hr;exact⟨none,0,0,λ_=>False,rfl,SlF.nil _ _ _ _⟩
 .cases h
def qConv(P:tT)(E:TE)(L:Nat->tO (SV E))(H:Nat->tO (Obj E))(o:tP)(src dst:tN)(x:tI){R:Type}(k:SV E->Up E->tO R):tO R :=
 match opS E L x,P.underlying dst with
 | some (.v (.one (.dt (.int _) _))),some (.int _)=>kz_ P E L o k
 | some (.v (.one (.dt .str s))),some .string=>match P.underlying src with
  | some .string=>k (.v (.one (.dt .str s))) none
  | _=>none
 | some (.v (.one c)),some .string=>match P.underlying src with
  | some (.slice e)=>match P.underlying e,c.bytes H with
   | some (.int .u8),some xs=>k (.v (.one (.dt .str (bytesS xs)))) none
   | _,_=>none
  | _=>none
 | _,_=>none
theorem qConv_ok{src dst:tN}{x:tI}(y:o.op = .convert src dst x)(hρ:OpR P E z g L ρ)(J:HR P E Bs F0 w0 W z g H)(G:∀w',I w'->Stands z g H W w')(h:qConv P E L H o src dst x k=some r):Good P E z g nx I H ρ o k r:=by
 unfold qConv at h;split at h
 .exact ia_ hρ h
 .rename_i s f u;split at h
  .rename_i q;have e:=SV.str_ok rfl (hρ x _ f);refine .mk' h (v:=S s) (.str .nil) λw' _ => ?_
   unfold execOp;rw[y];simp[e,S,convert,run_underlying q,run_underlying u]
  .cases h
 .rename_i c f u;split at h
  .rename_i e q;split at h
   .rename_i xs C D;refine .mk' h (v:=S (bytesS xs)) (.str .nil) λw' j => ?_
    obtain⟨A,n,cap,F,ev,p⟩:=SC.bytes_ok J D (hρ x _ f) (G w' j);exact ty_ y q C u ev p
   .cases h
  .cases h
 .cases h
noncomputable def qOp(P:tT)(E:TE)(eqs:tL (Nat×Nat))(L:Nat->tO (SV E))(H:Nat->tO (Obj E))(nx:Nat)(o:tP){R:Type}(k:SV E->Up E->tO R):tO R :=
 match o.op with
 | .move x=>qMove E L x k
 | .assign x=>qMove E L x k
 | .nilCheck x=>qNil E L x k
 | .extract x i=>ni_ E L x i k
 | .field T x f=>qField P E L T x f k
 | .load T x=>qLoad P E L H T x k
 | .fieldAddr T x f=>kA_ P E L T x f k
 | .unOp _ _ _=>kz_ P E L o k
 | .binOp op T x y _=>qBin P E L H eqs o op T x y k
 | .index T x i=>qIndex P E L T x i k
 | .indexAddr T x i=>match P.underlying T with
  | some (.array m e)=>ow_ P E L m e x i k
  | _=>nj_ P E L H nx T x i k
 | .slice T x lo hi none=>qSlice P E L H T x lo hi k
 | .convert src dst x=>qConv P E L H o src dst x k
 | .build T ps=>qBuild P E L T ps k
 | .makeFunc f first caps=>lV_ E L f first caps k
 | .call { callee := .builtin .len,args:=⟨[x]⟩,argTypes:=⟨[T]⟩ }=>qLen P E L H T x k
 | .call { callee := .builtin .max,args:=_,argTypes:=_ }=>kz_ P E L o k
 | .call { callee := .builtin .min,args:=_,argTypes:=_ }=>kz_ P E L o k
 | _=>none
theorem qOp_ok{eqs:tL (Nat×Nat)}(u:∀p∈eqs,bd_ P E p.1 p.2)(s:g nx=none)(hρ:OpR P E z g L ρ)(q:HR P E Bs F0 w0 W z g H)(C:∀w',I w'->Stands z g H W w')(h:qOp P E eqs L H nx o k=some r):Good P E z g nx I H ρ o k r:=by
 unfold qOp at h;split at h
 case h_1 x j=>exact nh_ (.inl j) hρ h
 case h_2 x j=>exact nh_ (.inr j) hρ h
 case h_3 x j=>exact qNil_ok j hρ h
 case h_4 x i j=>exact pW_ j hρ h
 case h_5 T x f j=>exact qField_ok j hρ h
 case h_6 T x j=>exact qLoad_ok j hρ q C h
 case h_7 T x f j=>exact oi_ j hρ h
 case h_8=>exact ia_ hρ h
 case h_9 op T x y yt j=>exact qBin_ok j u hρ q h
 case h_10 T x i j=>exact qIndex_ok j hρ h
 case h_11 T x i j =>
  split at h
  .rename_i m e D;exact qIndexArr_ok j D hρ h
  .exact tz_ j s hρ q C h
 case h_12 T x lo hi j=>exact qSlice_ok j hρ q h
 case h_13 src dst x j=>exact qConv_ok j hρ q C h
 case h_14 T ps j=>exact qBuild_ok j hρ h
 case h_15 f first caps j=>exact oz_ j hρ h
 case h_16 x T j=>exact qLen_ok j hρ q h
 case h_17=>exact ia_ hρ h
 case h_18=>exact ia_ hρ h
 case h_19=>cases h
end
section
variable{P:tT}{E:TE}{z:Fz}{g:Ga}{nx:Nat}
variable{L:Nat->tO (SV E)}{H:Nat->tO (Obj E)}{ρ:tI->tW}{w w0:tS}{o:tP}{R:Type}{r:R}{Bs:tL Nat}{F0:Nat->Prop}
abbrev Chs(E:TE):=tL (Nat×tO (Obj E))
def upH(H:Nat->tO (Obj E)):Chs E->Nat->tO (Obj E)
 | [],j=>H j
 | (i,o)::l,j=>match Nat.beq j i with
  | true=>o
  | false=>upH H l j
theorem aT_(H:Nat->tO (Obj E)):∀(l m:Chs E),upH (upH H m) l=upH H (l++m)
 | [],m=>rfl
 | (i,o)::l,m=>by
  funext j
  simp only[upH,qc];rw[aT_ H l m]
theorem bi_{i:Nat}{p q:Obj E}{j:Nat}(h:upH H [(i,some p)] j=some q):(j=i/\q=p)\/(j≠i/\H j=some q):=by
 simp only[upH]at h;split at h
 .rename_i f;exact .inl ⟨qNb f,(qSj h).symm⟩
 .rename_i f;exact .inr ⟨bv_ f,h⟩
theorem upH_two{i m:Nat}{p q:Obj E}{j:Nat}(h:upH H [(i,some p),(m,none)] j=some q):(j=i/\q=p)\/(j≠i/\j≠m/\H j=some q):=by
 simp only[upH]at h;split at h
 .rename_i s;exact .inl ⟨qNb s,(qSj h).symm⟩
 .rename_i s;split at h
  .cases h
  .rename_i f;exact .inr ⟨bv_ s,bv_ f,h⟩
def Fresh(g:Ga)(nx:Nat):Prop:=∀i,nx<=i->g i=none
theorem Fresh.put(h:Fresh g nx)(l:Loc):Fresh (g.put nx l) (nx+1):=λi hi=>by
 rw[Ga.put_ne _ _ (by omega)];exact h i (by omega)
theorem Fresh.succ(h:Fresh g nx):Fresh g (nx+1):=λi hi=>h i (by omega)
theorem Fresh.self(h:Fresh g nx):g nx=none:=h nx (qE _)
structure TurnsTo(P:tT)(E:TE)(Bs:tL Nat)(F0:Nat->Prop)(w0 w:tS)(z:Fz)(g:Ga)(nx:Nat)(H:Nat->tO (Obj E))(ρ:tI->tW)(o:tP)(ex:tV)(s:tO (SV E))(u:Chs E)(z':Fz)(g':Ga)(w':tS)(n:Next):Prop where
 run:(execOp ρ o).run P w = .ok n w'
 val:match s with|some sv=>∃v,n = .value v/\RV P E z' g' sv v|none=>n = .skip
 le:z.Le z'
 leg:g.Le g'
 fresh:Fresh g' (nx+1)
 hr:HR P E Bs F0 w0 w' z' g' (upH H u)
 ext:ex=true->Ext w w'
def gF_(P:tT)(E:TE)(Bs:tL Nat)(F0:Nat->Prop)(w0 w:tS)(z:Fz)(g:Ga)(nx:Nat)(H:Nat->tO (Obj E))(ρ:tI->tW)(o:tP)(ex:tV){R:Type}(k:tO (SV E)->Chs E->tO R)(r:R):Prop:=∃s u z' g' w' n,k s u=some r/\TurnsTo P E Bs F0 w0 w z g nx H ρ o ex s u z' g' w' n
variable{k:tO (SV E)->Chs E->tO R}
def frz1(H:Nat->tO (Obj E)):SC E->Chs E
 | .own id=>match H id with
  | some (.row _ t xs _)=>[(id,some (.fr t xs))]
  | _=>[]
 | .pre id _=>match H id with
  | some (.row _ t xs _)=>[(id,some (.fr t xs))]
  | _=>[]
 | _=>[]
theorem frz1_ok(h:HR P E Bs F0 w0 w z g H)(c:SC E):∃z',z.Le z'/\HR P E Bs F0 w0 w z' g (upH H (frz1 H c)):=by
 unfold frz1;split
 .split
  .rename_i e t xs foc hi;exact⟨_,h.fz.grow_le _,h.freeze hi λj q f=>bi_ f⟩
  .exact⟨z,Fz.Le.refl z,h⟩
 .split
  .rename_i e t xs foc hi;exact⟨_,h.fz.grow_le _,h.freeze hi λj q f=>bi_ f⟩
  .exact⟨z,Fz.Le.refl z,h⟩
 .exact⟨z,Fz.Le.refl z,h⟩
def dU_(H:Nat->tO (Obj E)):tL (SC E)->Chs E | []=>[]|c::l=>frz1 (upH H (dU_ H l)) c++dU_ H l
theorem dB_(h:HR P E Bs F0 w0 w z g H):∀(l:tL (SC E)),∃z',z.Le z'/\HR P E Bs F0 w0 w z' g (upH H (dU_ H l))
 | []=>⟨z,Fz.Le.refl z,h⟩
 | c::l=>by
  obtain⟨s,q,p⟩:=dB_ h l;obtain⟨z2,j,f⟩:=frz1_ok p c;rw[aT_]at f;exact⟨z2,q.trans j,f⟩
theorem ObjR.box_new{T:tN}{cs:tL (SC E)}{vs:tL tW}(f:g nx=none)(j:All2 (RC P E z g) cs vs) :
  ObjR P E z (g.put nx ⟨none,0,0,0,w.heap.size,0⟩) (w.alloc (.cells vs.toArray T)) nx (.box T cs):=by
 refine⟨_,vs,Ga.put_self _ _ _,?_,j.mono λ_ _ h=>RC.le h (Fz.Le.refl z) (Ga.le_put f)⟩;show(w.heap.push _)[w.heap.size]? = _;simp
theorem HR.box_new{T:tN}{cs:tL (SC E)}{vs:tL tW}(h:HR P E Bs F0 w0 w z g H)(f:g nx=none)(q:All2 (RC P E z g) cs vs) :
  HR P E Bs F0 w0 (w.alloc (.cells vs.toArray T)) z (g.put nx ⟨none,0,0,0,w.heap.size,0⟩) (upH H [(nx,some (.box T cs))]):=by
 refine h.add (Ext.one w _) f (ObjR.box_new f q) (λk u => ?_) λj p x=>bi_ x
 obtain⟨l,s,rfl⟩:=u;rw[Ga.put_self]at s;obtain rfl:=qSj s;exact qE _
def lBox(E:TE)(L:Nat->tO (SV E))(nx:Nat)(T:tN)(x:tI){R:Type}(k:tO (SV E)->Chs E->tO R):tO R :=
 match opS E L x with
 | some s=>match s.cells? with
  | some cs=>k (some (.v (.one (.ptr nx 0)))) [(nx,some (.box T cs))]
  | none=>none
 | none=>none
theorem lBox_ok{T:tN}{x:tI}(y:o.op = .box T x)(f:Fresh g nx)(hρ:OpR P E z g L ρ)(D:HR P E Bs F0 w0 w z g H)(h:lBox E L nx T x k=some r):gF_ P E Bs F0 w0 w z g nx H ρ o true k r:=by
 unfold lBox at h;split at h
 .rename_i s u;split at h
  .rename_i cs C;have p:=SV.cells_ok C (hρ x _ u);have j:=run_box (P:=P) (w:=w) y (rfl:ρ x=ρ x);have q:=D.box_new (T:=T) f.self p;rw[zN]at q;exact⟨_,_,z,_,_,_,h,⟨j,⟨_,rfl,_,Ga.put_self _ _ _,rfl⟩,Fz.Le.refl z,Ga.le_put f.self,f.put _,q,λ_=>Ext.one w _⟩⟩
  .cases h
 .cases h
def lAlloc(P:tT)(E:TE)(nx:Nat)(T:tN){R:Type}(k:tO (SV E)->Chs E->tO R):tO R :=
 match E.sb T,zeroOf P T with
 | true,some [.pointer none,.slice none 0 0]=>k (some (.v (.one (.ptr nx 0)))) [(nx,some (.box T [.sbp nx,.nils]))]
 | _,_=>match kC_ P E T with
  | some cs=>k (some (.v (.one (.ptr nx 0)))) [(nx,some (.box T cs))]
  | none=>none
theorem nl_{T:tN}{cs:tL (SC E)}(h:kC_ P E T=some cs):∃zs,zeroOf P T=some zs/\All2 (RC P E z g) cs zs:=by
 unfold kC_ at h;split at h
 .rename_i zs f;exact⟨zs,f,iH_ h⟩
 .cases h
theorem lAlloc_ok{T:tN}(y:o.op = .alloc T)(f:Fresh g nx)(C:HR P E Bs F0 w0 w z g H)(h:lAlloc P E nx T k=some r):gF_ P E Bs F0 w0 w z g nx H ρ o true k r:=by
 unfold lAlloc at h;split at h
 .rename_i _ u;have s:=j8_ (P:=P) (w:=w) (ρ:=ρ) y u;refine⟨_,_,z,g.put nx ⟨none,0,0,0,w.heap.size,0⟩,_,_,h,⟨s,⟨_,rfl,_,Ga.put_self _ _ _,rfl⟩,Fz.Le.refl z,Ga.le_put f.self,f.put _,?_,λ_=>Ext.one w _⟩⟩;refine C.add (Ext.one w _) f.self (o := .box T [.sbp nx,.nils]) ⟨_,[.pointer none,.slice none 0 0],Ga.put_self _ _ _,?_,.cons ⟨_,Ga.put_self _ _ _,.inl rfl⟩ (.cons rfl .nil)⟩ (λq F => ?_) λj p G=>bi_ G
  .show(w.heap.push _)[w.heap.size]? = _;simp
  .obtain⟨l,D,rfl⟩:=F;rw[Ga.put_self]at D;obtain rfl:=qSj D;exact qE _
 .split at h
  .rename_i cs J;obtain⟨zs,u,x⟩:=nl_ (z:=z) (g:=g) J;have s:=j8_ (P:=P) (w:=w) (ρ:=ρ) y u;exact⟨_,_,z,_,_,_,h,⟨s,⟨_,rfl,_,Ga.put_self _ _ _,rfl⟩,Fz.Le.refl z,Ga.le_put f.self,f.put _,C.box_new (T:=T) f.self x,λ_=>Ext.one w _⟩⟩
  .cases h
theorem Sep.single{L:tL Nat}{x:Res}(f:x.holds w)(p:∀k,x.fp k->k∈L):Sep L w w [x] :=
 ⟨Chg.of_below (Below.refl _ _),λr hr=>by obtain rfl:=qH.1 hr;exact f,λr hr _ k j=>by obtain rfl:=qH.1 hr;exact .inr (p k j),.cons (λ_ h=>nomatch h) .nil⟩
def arrC(zs:tL Int):Nat->Nat->tL (SC E)|_,0=>[]|j,n+1 => .dt (.int .u32) (nthI zs j)::arrC zs (j+1) n
theorem arrC_ok:∀(l:tL Int) {zs:tL Int} {j:Nat},zs.drop j=l->All2 (RC P E z g) (arrC zs j l.length) (l.map λn=>Value.int .u32 n)
 | [],_,_,_ => .nil
 | x::l,zs,j,h=>by
  have f:zs[j]? = some x:=by
   have:=qa (λm=>m[0]?) h;simpa using this
  refine .cons ?_ (arrC_ok l (by rw[←zz,h];rfl));have:nthI zs j=x:=by simp[nthI,f]
  rw[this];exact .int .nil
theorem dtsC_all{κ : IntKind}:∀{l:tL (SC E)} {xs:tL Int} {vs:tL tW},dtsC κ l=some xs->All2 (RC P E z g) l vs->vs=xs.map λn=>Value.int κ n
 | [],xs,vs,h,hr=>by
  simp only[dtsC,qOi]at h;subst h;cases hr
  rfl
 | c :: l,xs,vs,h,hr=>by
  cases hr with
  | cons u s =>
   unfold dtsC at h;split at h
   .rename_i q;cases q
   .rename_i κ' n y j;injection j with j x;subst j;subst x;split at h
    .rename_i r p f;simp only[qDe]at p;subst p;obtain rfl:=qSj h;obtain⟨vs',e,_⟩:=RD.int_inv (u:RD E z _ _ [_]);simp only[List.cons.injEq]at e;rw[e.1,dtsC_all f s];rfl
    .cases h
   .cases h
def lStoreI(P:tT)(E:TE)(H:Nat->tO (Obj E))(T:tN)(id:Nat)(i:Int)(s:SV E){R:Type}(k:tO (SV E)->Chs E->tO R):tO R :=
 match H id,s,aO_ P T with
 | some (.box T' cs),.v (.one (.dt (.int .u32) y)),some 1=>match dtsC .u32 cs with
  | some xs=>Option.bind (setI xs i y) λzs=>k none [(id,some (.box T' (arrC zs 0 cs.length)))]
  | none=>none
 | _,_,_=>none
theorem lStoreI_ok{T:tN}{x y:tI}{id:Nat}{i:Int}{s:SV E}(ho:o.op = .store T x y)(V:Fresh g nx)(hx:RC P E z g (.pix id i) (ρ x))(hy:RV P E z g s (ρ y))(Y:HR P E Bs F0 w0 w z g H)(h:lStoreI P E H T id i s k=some r):gF_ P E Bs F0 w0 w z g nx H ρ o false k r:=by
 unfold lStoreI at h;split at h
 .rename_i T' cs q hi hn;split at h
  .rename_i xs O;obtain⟨zs,f,h⟩:=bind_some h;unfold setI at f;split at f
   .rename_i hb;obtain rfl:=qSj f;obtain⟨l,M,ev⟩:=hx;obtain⟨l',vs,h2,h3,Z⟩:=Y.hold _ _ hi;rw[M]at h2;obtain rfl:=qSj h2;obtain⟨vs',ey,_⟩:=RD.int_inv (hy:RD E z _ _ [ρ y]);have ey:ρ y = .int .u32 q:=by simp only[List.cons.injEq]at ey;exact ey.1
    have u:=dtsC_all O Z;have hl:=Z.len;have U:vs.length=xs.length:=by rw[u,ql]
    have D:=eB_ (P:=P) (w:=w) (off:=i.toNat) ho ev ey h3 (by rw[hn];rfl) (by apply jQ;simp[Value.cells];omega) (by simp[Value.cells,bH_,eF_]);refine⟨none,_,z,g,_,_,h,⟨D,rfl,Fz.Le.refl z,Ga.Le.refl g,V.succ,?_,λh=>by cases h⟩⟩;have F:All2 (RC P E z g) (arrC (xs.set i.toNat q) 0 cs.length) (splice vs i.toNat (Value.int .u32 q).cells.toList):=by
     have e1:=arrC_ok (P:=P) (E:=E) (z:=z) (g:=g) (xs.set i.toNat q) (zs:=xs.set i.toNat q) (j:=0) rfl;have e2:splice vs i.toNat (Value.int .u32 q).cells.toList=(xs.set i.toNat q).map λn=>Value.int .u32 n:=by
      rw[u];have e3:i.toNat<(xs.map λn=>Value.int .u32 n).length:=by rw[ql];omega
      simp only[splice,Value.cells,List.map_set,qLc,qQ];rw[List.set_eq_take_append_cons_drop,qL e3];simp
     rw[e2]
     rwa [jF,←U,←hl]at e1
    refine Y.turn (Ga.Le.refl g) (i:=id) (i':=id) (C:=λk=>k=l.b) (λk G=>⟨_,hi,l,M,G⟩) (dn_ w _ _) (λk _ G=>cm_ w _ k _ G) (o' := .box T' (arrC (xs.set i.toNat q) 0 cs.length)) ?_ (λk G => ?_) λj p hj => ?_
    .exact⟨l,_,M,eG_ w _ _ _ T' h3,F⟩
    .obtain⟨l2,J,rfl⟩:=G;rw[M]at J;obtain rfl:=qSj J;exact .inl rfl
    .rcases bi_ hj with⟨rfl,rfl⟩|⟨J,h6⟩
     .exact .inl ⟨rfl,rfl⟩
     .exact .inr ⟨J,.inl J,h6⟩
   .cases f
  .cases h
 .cases h
def lStore (P:tT) (E:TE) (L:Nat->tO (SV E)) (H:Nat->tO (Obj E)) (T:tN) (x y:tI) {R:Type} (k:tO (SV E)->Chs E->tO R):tO R :=
 match opS E L x,opS E L y with
 | some (.v (.one (.ptr id off))),some s=>match H id,s.cells?,aO_ P T with
  | some (.box T' cs),some f,some n=>match Nat.beq n f.length&&Nat.ble (off+f.length) cs.length with
   | true=>k none [(id,some (.box T' (je_ cs off f)))]
   | false=>none
  | _,_,_=>none
 | some (.v (.one (.elo id q _ off))),some s=>match s.cells?,aO_ P T with
  | some f,some n=>match upH H (dU_ H f) id with
   | some (.row e t xs foc)=>match foc.find? λp=>Nat.beq p.1 q with
    | some p=>match Nat.beq n f.length&&Nat.ble (off+f.length) (E.size t),cf_ E (upH H (dU_ H f)) (E.flat t) (je_ (E.cells t p.2.2) off f)with
     | true,some h=>k none ((id,some (.row e t (xs.set p.2.1.toNat (E.ufl t h)) [(q,p.2.1,E.ufl t h)]))::dU_ H f)
     | _,_=>none
    | none=>none
   | _=>none
  | _,_=>none
 | some (.v (.one (.pix id i))),some s=>lStoreI P E H T id i s k
 | _,_=>none
theorem set_rows{t:Ty}{xs:tL (Den E.S t)}{rows:tL (tL tW)}{y:Den E.S t}{r':tL tW}(h:Rows E z t xs rows)(i:Nat)(hr:RD E z (E.flat t) (E.fl t y) r'):Rows E z t (xs.set i y) (rows.set i r'):=by
 intro j x r p f;rw[jK]at p f;by_cases q:i=j
 .rw[qL q]at p f;split at p
  .split at f
   .obtain rfl:=qSj p;obtain rfl:=qSj f;exact hr
   .cases f
  .cases p
 .rw[qP q]at p f;exact h j x r p f
theorem lStore_ok{T:tN}{x y:tI}(ho:o.op = .store T x y)(V:Fresh g nx)(hρ:OpR P E z g L ρ)(hH:HR P E Bs F0 w0 w z g H)(h:lStore P E L H T x y k=some r):gF_ P E Bs F0 w0 w z g nx H ρ o false k r:=by
 unfold lStore at h;split at h
 .rename_i id off s hx hy;split at h
  .rename_i T' cs O n hi hc hn;split at h
   .rename_i hb;simp only[qAn]at hb;have ZF:=qNb hb.1;have ZG:=zD hb.2;obtain⟨l,h1,ev⟩:=hρ x _ hx;obtain⟨l',vs,h2,h3,h4⟩:=hH.hold _ _ hi;rw[h1]at h2;obtain rfl:=qSj h2;have f:=SV.cells_ok hc (hρ y _ hy);have ZJ:O.length=(ρ y).cells.size:=by rw[f.len,qq]
    have ZD:=h4.len;have D:=eB_ (P:=P) (w:=w) ho ev (rfl:ρ y=ρ y) h3 (by rw[hn];congr 1;omega) (by apply jQ;omega) (RC.cells f);refine⟨none,_,z,g,_,_,h,⟨D,rfl,Fz.Le.refl z,Ga.Le.refl g,V.succ,?_,λh=>by cases h⟩⟩;refine hH.turn (Ga.Le.refl g) (i:=id) (i':=id) (C:=λk=>k=l.b) (λk u=>⟨_,hi,l,h1,u⟩) (dn_ w _ _) (λk _ u=>cm_ w _ k _ u) (o' := .box T' (je_ cs off O)) ?_ (λk u => ?_) λj p hj => ?_
    .exact⟨l,_,h1,eG_ w _ _ _ T' h3,kD_ off h4 f⟩
    .obtain⟨l2,G,rfl⟩:=u;rw[h1]at G;obtain rfl:=qSj G;exact .inl rfl
    .rcases bi_ hj with⟨rfl,rfl⟩|⟨G,h6⟩
     .exact .inl ⟨rfl,rfl⟩
     .exact .inr ⟨G,.inl G,h6⟩
   .cases h
  .cases h
 .rename_i id q ii off s hx hy;split at h
  .rename_i O n hc hn;split at h
   .rename_i e t xs foc hi;split at h
    .rename_i p hp;split at h
     .rename_i hd hb ZH;simp only[qAn]at hb;have ZF:=qNb hb.1;have ZG:=zD hb.2;obtain⟨z',hz,ZZ⟩:=dB_ hH O;have ZL:p.1=q:=qNb (by simpa using jb hp);obtain⟨lq,h1,_,ev⟩:=hρ x _ hx;obtain⟨lo,rows,h2,ZS,hlc,ZV,M,ZM,F,ZQ⟩:=ZZ.hold _ _ hi;obtain⟨hg,lq',off2,h3,hA,hq,ZI⟩:=ZQ p (jH hp);rw[ZL,h1]at h3;obtain rfl:=qSj h3;obtain⟨_,ZP,ZT⟩:=d5_ hg;have ZR:p.2.1.toNat<rows.length:=by rw[M,ZS];exact ZT
      have ZX:=F p.2.1.toNat p.2.2 _ ZP (qY ZR);have f:=SV.cells_ok hc ((hρ y _ hy).le hz (Ga.Le.refl g));have ZJ:O.length=(ρ y).cells.size:=by rw[f.len,qq]
      have ZN:=kD_ off (cells_rd.1 ZX) f;have J:=el_ ZZ ZH ZN;have hS:=Sep.single (L:=[lq.b]) (x := .row e lo.c lo.A lo.n lo.cap rows) ⟨ZV,M,ZM⟩ (λk u=>by
       obtain⟨a,ha,rfl⟩:=u;rw[hA]at ha;obtain rfl:=qSj ha;simp)
      obtain⟨w',D,ZE,Z,ZU⟩:=mN_ (P:=P) (k:=0) (j:=off) ho ev (rfl:ρ y=ρ y) hS rfl hA (qY ZR) (by rw[hq]) (by rw[hn];congr 1;omega) (by apply jQ;rw[hlc];omega) (RC.cells f) rfl;have hh:=ZE.hold (.row e lo.c lo.A lo.n lo.cap (rows.set p.2.1.toNat (splice rows[p.2.1.toNat] off (ρ y).cells.toList))) (by simp);obtain⟨U,Y,ZW⟩:=hh;rw[←E.fl_ufl t hd]at J;have ZY:=set_rows F p.2.1.toNat J;refine⟨none,_,z',g,w',_,h,⟨D,rfl,hz,Ga.Le.refl g,V.succ,?_,λh=>by cases h⟩⟩;have ZO:upH H ((id,some (.row e t (xs.set p.2.1.toNat (E.ufl t hd)) [(q,p.2.1,E.ufl t hd)]))::dU_ H O)=upH (upH H (dU_ H O)) [(id,some (.row e t (xs.set p.2.1.toNat (E.ufl t hd)) [(q,p.2.1,E.ufl t hd)]))]:=by
       rw[aT_];rfl
      rw[ZO];refine ZZ.turn (Ga.Le.refl g) (i:=id) (i':=id) (C:=λk=>k=lq.b) (λk u=>⟨_,hi,lo,_,h2,hA,u⟩) Z (λk _ u=>ZU k u) (o' := .row e t (xs.set p.2.1.toNat (E.ufl t hd)) [(q,p.2.1,E.ufl t hd)]) ?_ (λk u => ?_) λj p' hj => ?_
      .refine⟨lo,_,h2,by rw[jF];exact ZS,hlc,U,Y,ZW,ZY,λp' ZK => ?_⟩;obtain rfl:=qH.1 ZK;refine⟨?_,lq,off2,h1,hA,hq,ZI⟩;unfold ah_;rw[qL (d5_ hg).1,jK,qL rfl,qL ZT]
      .obtain⟨l2,a2,G,h6,rfl⟩:=u;rw[h2]at G;obtain rfl:=qSj G;rw[hA]at h6;obtain rfl:=qSj h6;exact .inl rfl
      .rcases bi_ hj with⟨rfl,rfl⟩|⟨G,h6⟩
       .exact .inl ⟨rfl,rfl⟩
       .exact .inr ⟨G,.inl G,h6⟩
     .cases h
    .cases h
   .cases h
  .cases h
 .rename_i id i s hx hy;exact lStoreI_ok ho V (hρ x _ hx) (hρ y _ hy) hH h
 .cases h
def dV_{t f:Ty}(h:f=t)(xs:tL (Den E.S f)):tL (Den E.S t):=h▸xs
def SC.rdT(H:Nat->tO (Obj E))(t:Ty):SC E->tO (tL (Den E.S t))
 | .dt (.sl f) xs=>if h:f=t then some (dV_ h xs)else none
 | .own id=>match H id with
  | some (.row _ f xs _)=>if h:f=t then some (dV_ h xs)else none
  | some (.fr f xs)=>if h:f=t then some (dV_ h xs)else none
  | _=>none
 | .nils=>some []
 | .suf id lo=>match H id with
  | some (.row _ f xs _)=>if h:f=t then some (dV_ h (xs.drop lo.toNat))else none
  | _=>none
 | .pre id n=>match H id with
  | some (.row _ f xs _)=>if h:f=t then some (dV_ h (xs.take n.toNat))else none
  | _=>none
 | _=>none
theorem SC.rdT_ok{t:Ty}{c:SC E}{xs:tL (Den E.S t)}{v:tW}(V:HR P E Bs F0 w0 w z g H)(h:c.rdT H t=some xs)(hr:RC P E z g c v) :
  ∃A cap rows F,v = .slice A xs.length cap/\SlF F (E.size t) A xs.length rows w/\xs.length<=cap/\Rows E z t xs rows:=by
 unfold SC.rdT at h;split at h
 .rename_i Y G;split at h
  .rename_i J;subst J;obtain rfl:=qSj h;obtain⟨A,cap,rows,ev,U,p,y⟩:=SC.fro_ok (c := .dt (.sl Y) G) V rfl hr;exact⟨A,cap,rows,_,ev,U.stand V.fz,p,y⟩
  .cases h
 .rename_i id;split at h
  .rename_i e Y G foc hi;split at h
   .rename_i J;subst J;obtain rfl:=qSj h;obtain⟨l,h1,rfl⟩:=hr;obtain⟨l2,rows2,O,C,D,f,s,u,j,_⟩:=V.hold _ _ hi;rw[h1]at O;obtain rfl:=qSj O;have q:=cK_ (w:=w) (e:=e) (cap:=l.cap) ⟨f,s,u⟩;have p:=(Own.cap_le f).1;rw[D,C]at q;rw[C]at p;exact⟨_,_,_,_,by rw[C];rfl,q,p,j⟩
   .cases h
  .rename_i Y G hi;split at h
   .rename_i J;subst J;obtain rfl:=qSj h;obtain⟨A,cap,rows,ev,U,p,y⟩:=SC.fro_ok (c := .own id) (l:=⟨Y,G⟩) V (by simp only[SC.fro,hi]) hr;exact⟨A,cap,rows,_,ev,U.stand V.fz,p,y⟩
   .cases h
  .cases h
 .obtain rfl:=qSj h;simp only[RC]at hr;subst hr;exact⟨none,0,[],λ_=>False,rfl,SlF.nil _ _ _ _,qE _,λi x r h=>by simp at h⟩
 .rename_i id lo;split at h
  .rename_i e Y G foc hi;split at h
   .rename_i J;subst J;obtain rfl:=qSj h;obtain⟨l,h1,ZZ,ev⟩:=hr;obtain⟨l2,rows2,O,C,D,f,s,u,j,_⟩:=V.hold _ _ hi;rw[h1]at O;obtain rfl:=qSj O;have q:=cK_ (w:=w) (e:=e) (cap:=l.cap) ⟨f,s,u⟩;have p:=(Own.cap_le f).1;have Z:=SlF.cut q p (lo:=lo.toNat) (hi:=l.n) ZZ (qE _);have M:=eT_ j lo.toNat l.n;rw[qr (by omega:G.length<=l.n)]at M;have hl:(dV_ (E:=E) rfl (G.drop lo.toNat)).length=l.n-lo.toNat:=by simp only[dV_,qC];omega
    refine⟨cutA l.A l.c lo.toNat l.cap,l.cap-lo.toNat,(rows2.take l.n).drop lo.toNat,bX_ l.A,by rw[hl];exact ev,?_,by rw[hl];omega,M⟩;rw[hl,←D];exact Z
   .cases h
  .cases h
 .rename_i id n;split at h
  .rename_i e Y G foc hi;split at h
   .rename_i J;subst J;obtain rfl:=qSj h;obtain⟨l,h1,ZY,rfl⟩:=hr;obtain⟨l2,rows2,O,C,D,f,s,u,j,_⟩:=V.hold _ _ hi;rw[h1]at O;obtain rfl:=qSj O;have q:=cK_ (w:=w) (e:=e) (cap:=l.cap) ⟨f,s,u⟩;have p:=(Own.cap_le f).1;have e1:(dV_ (E:=E) rfl (G.take n.toNat)).length=n.toNat:=by simp only[dV_,qA];omega
    rw[D]at q;refine⟨l.A,l.cap,rows2.take n.toNat,_,by rw[e1],by rw[e1];exact q.take ZY,by rw[e1];omega,?_⟩;have:=eT_ j 0 n.toNat;rw[zO,zO]at this;exact this
   .cases h
  .cases h
 .cases h
theorem Rows.cells{t:Ty}{xs:tL (Den E.S t)}{rows:tL (tL tW)}(h:Rows E z t xs rows)(s:rows.length=xs.length):lc_ rows/\∀q∈rows,q.length=E.size t:=by
 have key:∀q∈rows,∃x,RD E z (E.flat t) (E.fl t x) q:=λq f=>by
  obtain⟨i,hi⟩:=jW.1 f;have p:=(qj.1 hi).1;exact⟨_,h i _ _ (qY (by omega:i<xs.length)) hi⟩
 exact⟨λq f=>let ⟨x,j⟩:=key q f;j.cells,λq f=>let ⟨x,j⟩:=key q f;j.len⟩
theorem Rows.append{t:Ty}{xs p:tL (Den E.S t)}{rows news:tL (tL tW)}(h:Rows E z t xs rows)(s:Rows E z t p news)(q:rows.length=xs.length):Rows E z t (xs++p) (rows++news):=by
 intro i x r f hr;rw[List.getElem?_append]at f hr;rw[q]at hr;split at f
 .rename_i j;rw[qL j]at hr;exact h i x r f hr
 .rename_i j;rw[qP j]at hr;exact s _ x r f hr
def mR_(P:tT)(e:tN):Nat:=match P.info? e with|some i=>i.bytes|none=>0
def appK(P:tT)(E:TE)(H:Nat->tO (Obj E))(nx:Nat)(e:tN)(t:Ty)(xs:tL (Den E.S t))(cy:SC E)(del:Chs E){R:Type}(k:tO (SV E)->Chs E->tO R):tO R:=match cy.rdT H t,elemB P e (E.size t) (mR_ P e)with|some f,true=>(room (mR_ P e) xs f).bind λzs=>k (some (.v (.one (.own nx)))) ((nx,some (.row e t zs []))::del)|_,_=>none
def lApp (P:tT) (E:TE) (L:Nat->tO (SV E)) (H:Nat->tO (Obj E)) (nx:Nat) (T:tN) (x y:tI) {R:Type} (k:tO (SV E)->Chs E->tO R):tO R :=
 match opS E L x,opS E L y,P.underlying T with
 | some (.v (.one cx)),some (.v (.one cy)),some (.slice e)=>match cx with
  | .own id=>match H id with
   | some (.row f t xs _)=>match Nat.beq f e with
    | true=>appK P E H nx e t xs cy [(id,none)] k
    | false=>none
   | _=>none
  | .pre id n=>match H id with
   | some (.row f t xs _)=>match Nat.beq f e with
    | true=>Option.bind (aP_ xs 0 n) λh=>appK P E H nx e t h cy [(id,none)] k
    | false=>none
   | _=>none
  | .nils=>match E.ty e with
   | some t=>appK P E H nx e t [] cy [] k
   | none=>none
  | _=>none
 | _,_,_=>none
theorem appK_ok{T e:tN}{t:Ty}{x y:tI}{xs:tL (Den E.S t)}{cy:SC E}{del:Chs E}{A:tO Addr}{cap:Nat}{rows:tL (tL tW)}(ho:o.op = .call { callee := .builtin .append,args := #[x,y],argTypes := #[T,T] })(hu:P.underlying T=some (.slice e))
  (G:Fresh g nx) (hH:HR P E Bs F0 w0 w z g H) (ex:ρ x = .slice A xs.length cap) (hy:RC P E z g cy (ρ y)) (Z:w.ownsRow 0 e (E.size t) (.slice A xs.length cap) xs.length rows.flatten) (u:rows.length=xs.length) (f:Rows E z t xs rows)
  (i:Nat) (hC:∀q,bX_ A q->∃o,H i=some o/\fpO g i o q) (ZX:∀(o':Obj E) j p,upH H ((nx,some o')::del) j=some p->(j=nx/\p=o')\/(j≠nx/\(j≠i\/∀q,¬bX_ A q)/\H j=some p))
  (h:appK P E H nx e t xs cy del k=some r):gF_ P E Bs F0 w0 w z g nx H ρ o false k r:=by
 unfold appK at h;split at h
 .rename_i O ZV ZR;obtain⟨zs,hz,h⟩:=bind_some h;have ZP:=mM_ hu ZR;obtain⟨A2,cap2,news,F,ey,U,ZQ,s⟩:=SC.rdT_ok hH ZV hy;obtain⟨ZY,ZT⟩:=s.cells U.1;obtain⟨_,ZU⟩:=f.cells u;have hS:=Sep.single (L:=match A with|some a=>[a.block]|none=>[]) (x := .row e (E.size t) A xs.length cap rows) ⟨Z,u,ZU⟩ (λq hq=>by
   obtain⟨a,rfl,rfl⟩:=hq;simp)
  obtain⟨A',cap',w',V,ZW,M,ZZ⟩:=nf_ (P:=P) (k:=0) ho ZP ex ey hS rfl U ZY rfl rfl hz ZT;obtain⟨h1,h2,rfl⟩:=j9_ hz;have hh:=ZW.hold (.row e (E.size t) A' (xs.length+O.length) cap' (rows++news)) (by simp);obtain⟨D,J,Y⟩:=hh;have ZS:=ZW.own (.row e (E.size t) A' (xs.length+O.length) cap' (rows++news)) (by simp) trivial;have hl:(xs++O).length=xs.length+O.length:=qLa;refine⟨_,_,z,g.put nx ⟨A',(xs++O).length,cap',E.size t,0,0⟩,w',_,h,⟨V,⟨_,rfl,_,Ga.put_self _ _ _,by rw[hl]⟩,Fz.Le.refl z,Ga.le_put G.self,G.put _,?_,λh=>by cases h⟩⟩;refine hH.turn (Ga.le_put G.self) (i:=i) (i':=nx) (C:=bX_ A) hC M ZZ (o' := .row e t (xs++O) []) ?_ (λq hq => ?_) λj p hj => ?_
  .refine⟨_,rows++news,Ga.put_self _ _ _,rfl,rfl,?_,?_,Y,f.append s u,λp hp=>nomatch hp⟩
   .simp only[hl];exact D
   .simp only[hl];exact J
  .obtain⟨l2,a2,h5,h6,rfl⟩:=hq;rw[Ga.put_self]at h5;obtain rfl:=qSj h5;rcases ZS a2.block ⟨a2,h6,rfl⟩with h7|h7
   .exact .inr h7
   .left
    cases A with
    | none=>simp at h7
    | some a =>
     simp at h7;exact⟨a,rfl,h7⟩
  .exact ZX _ j p hj
 .cases h
theorem ownsRow_pre{e c n m cap:Nat}{A:tO Addr}{rows:tL (tL tW)}(h:w.ownsRow 0 e c (.slice A n cap) n rows.flatten)(V:rows.length=n)(hr:∀q∈rows,q.length=c)(G:m<=n):w.ownsRow 0 e c (.slice A m cap) m (rows.take m).flatten:=by
 have p:(rows.take m).flatten=rows.flatten.take (m*c):=by
  have U:rows.flatten=(rows.take m).flatten++(rows.drop m).flatten:=by rw[←zg,zj]
  have x:(rows.take m).flatten.length=m*c:=by
   rw[av_ (c:=c) (λq j=>hr q (zK j)),qA]
   congr 1;omega
  rw[U,List.take_left' x]
 refine⟨?_,?_⟩
 .rw[av_ (c:=c) (λq j=>hr q (zK j)),qA]
  congr 1;omega
 .rcases h.2 with⟨x,O⟩|⟨b,cap',cur,D,M,J,F,u,s,f⟩
  .injection x with C Y y;subst O;obtain rfl:m=0:=by omega
   exact .inl ⟨by rw[C,y],rfl⟩
  .injection D with C _ y;subst y;refine .inr ⟨b,cap,cur,by rw[C],M,J,by omega,u,s,?_⟩;rw[p,←f,List.take_take]
   congr 1
   have:m*c<=n*c:=qu c G;omega
theorem lApp_ok{T:tN}{x y:tI}(ho:o.op = .call { callee := .builtin .append,args := #[x,y],argTypes := #[T,T] })(J:Fresh g nx)(hρ:OpR P E z g L ρ)(V:HR P E Bs F0 w0 w z g H)(h:lApp P E L H nx T x y k=some r):gF_ P E Bs F0 w0 w z g nx H ρ o false k r:=by
 unfold lApp at h;split at h
 .rename_i cx cy e hx hy hu;have ex:=hρ x _ hx;split at h
  .rename_i id;split at h
   .rename_i e' t xs foc hi;split at h
    .rename_i hb;obtain rfl:=qNb hb;obtain⟨l,h1,ev⟩:=ex;obtain⟨l2,rows,Z,hn,hc,u,C,O,f,_⟩:=V.hold _ _ hi;rw[h1]at Z;obtain rfl:=qSj Z;rw[hc,hn]at u;rw[hn]at ev C;exact appK_ok ho hu J V ev (hρ y _ hy) u C f id (λq ⟨a,M,hq⟩=>⟨_,hi,l,a,h1,M,hq⟩) (λo' j p U=>by
      rcases upH_two U with D|⟨D,h6,Y⟩
      .exact .inl D
      .exact .inr ⟨D,.inl h6,Y⟩) h
    .cases h
   .cases h
  .rename_i id n;split at h
   .rename_i e' t xs foc hi;split at h
    .rename_i hb;obtain rfl:=qNb hb;obtain⟨ys,ZZ,h⟩:=bind_some h;obtain⟨ZW,ZX,ZY,rfl⟩:=j7_ ZZ;obtain⟨l,h1,_,ev⟩:=ex;obtain⟨l2,rows,Z,hn,hc,u,C,O,f,_⟩:=V.hold _ _ hi;rw[h1]at Z;obtain rfl:=qSj Z;have hm:n.toNat<=l.n:=by omega
     have s:=ownsRow_pre u C O hm;have F:((xs.take n.toNat).drop (0:Int).toNat).length=n.toNat:=by simp;omega
     have G:=eT_ f 0 n.toNat;simp only[zO]at G;simp only[jN,zO]at h F;rw[←F]at ev s;rw[hc]at s;exact appK_ok ho hu J V ev (hρ y _ hy) (rows:=rows.take n.toNat) (by rw[F]at s ⊢;exact s) (by rw[qA,F];omega) G id (λq ⟨a,M,hq⟩=>⟨_,hi,l,a,h1,M,hq⟩) (λo' j p U=>by
      rcases upH_two U with D|⟨D,h6,Y⟩
      .exact .inl D
      .exact .inr ⟨D,.inl h6,Y⟩) h
    .cases h
   .cases h
  .split at h
   .rename_i t ht;have ev:ρ x = .slice none 0 0:=ex;exact appK_ok (xs:=([]:tL (Den E.S t))) (del:=[]) (A:=none) (cap:=0) (rows:=[]) ho hu J V ev (hρ y _ hy) ⟨by simp,.inl ⟨rfl,rfl⟩⟩ rfl (λi x r h=>by simp at h) nx (λq ⟨a,M,_⟩=>nomatch M) (λo' j p U=>by
      rcases bi_ U with D|⟨D,Y⟩
      ·exact .inl D
      ·exact .inr ⟨D,.inr (λq ⟨a,M,_⟩=>nomatch M),Y⟩) h
   .cases h
  .cases h
 .cases h
def byteB(P:tT)(e:tN):tV:=match P.info? e with
 | some i=>(match i.zero with|some (.int .u8 0)=>true|_=>false)&&Nat.beq i.size 1&&Nat.beq i.bytes 1
 | none=>false
def lAppS (P:tT) (E:TE) (L:Nat->tO (SV E)) (H:Nat->tO (Obj E)) (nx:Nat) (T T':tN) (x y:tI) {R:Type} (k:tO (SV E)->Chs E->tO R):tO R :=
 match opS E L x,opS E L y,P.underlying T,P.underlying T' with
 | some (.v (.one cx)),some (.v (.one (.dt .str s))),some (.slice e),some .string=>match byteB P e,cx with
  | true,.own id=>match H id with
   | some (.row f (.int .u8) xs _)=>match Nat.beq f e with
    | true=>Option.bind (room 1 (α:=Int) xs (aG_ s)) λzs=>k (some (.v (.one (.own nx)))) [(nx,some (.row e (.int .u8) zs [])),(id,none)]
    | false=>none
   | _=>none
  | true,.nils=>Option.bind (room 1 (α:=Int) [] (aG_ s)) λzs=>k (some (.v (.one (.own nx)))) [(nx,some (.row e (.int .u8) zs []))]
  | _,_=>none
 | _,_,_,_=>none
theorem rowsI_map{κ : IntKind}{xs:tL Int}{rows:tL (tL tW)}(h:Rows E z (.int κ) xs rows)(q:rows.length=xs.length):rows=xs.map λx=>[Value.int κ x]:=by
 apply je;intro i;rw[zF];rcases qR i xs.length with hi|hi
 .have f:=qY hi;have hr:=qY (show i<rows.length by omega);obtain⟨vs,p,j⟩:=RD.int_inv (show RD E z [.int κ] (xs[i],()) rows[i]from h i _ _ f hr);rw[hr,f,p,j.nil_inv];rfl
 .rw[qe (by omega),qe hi];rfl
theorem rowsI_mk{κ : IntKind}(xs:tL Int):Rows E z (.int κ) xs (xs.map λx=>[Value.int κ x]):=λi x r h f=>by
 rw[zF]at f;rw[h]at f;obtain rfl:=qSj f;exact RD.int .nil
theorem nm_{κ : IntKind}:∀(xs:tL Int),(xs.map λx=>[Value.int κ x]).flatten=xs.map (Value.int κ)
 | []=>rfl
 | x::xs=>by rw[zH,zw,nm_ xs];rfl
theorem strI_cells(s:tX):Lib.strCells ⟨s.toArray⟩=(aG_ s).map (Value.int .u8):=by
 unfold Lib.strCells aG_;simp
theorem appS_ok{T T' e:tN}{x y:tI}{xs:tL Int}{s:tX}{del:Chs E}{A:tO Addr}{cap:Nat}(ho:o.op = .call { callee := .builtin .append,args := #[x,y],argTypes := #[T,T'] })(hu:P.underlying T=some (.slice e))(U:P.underlying T'=some .string)(hB:byteB P e=true)
  (ZX:Fresh g nx) (hH:HR P E Bs F0 w0 w z g H) (ex:ρ x = .slice A xs.length cap) (ey:ρ y=S s) (J:w.ownsRow 0 e 1 (.slice A xs.length cap) xs.length (xs.map (Value.int .u8)))
  (i:Nat) (hC:∀q,bX_ A q->∃o,H i=some o/\fpO g i o q) (ZV:∀(o':Obj E) j p,upH H ((nx,some o')::del) j=some p->(j=nx/\p=o')\/(j≠nx/\(j≠i\/∀q,¬bX_ A q)/\H j=some p))
  (h:Option.bind (room 1 (α:=Int) xs (aG_ s)) (λzs=>k (some (.v (.one (.own nx)))) ((nx,some (.row e (.int .u8) zs []))::del))=some r):gF_ P E Bs F0 w0 w z g nx H ρ o false k r:=by
 obtain⟨zs,hz,h⟩:=bind_some h;obtain⟨h1,h2,rfl⟩:=j9_ hz;have ZU:(aG_ s).length=s.length:=by simp[aG_]
 unfold byteB at hB;split at hB
 .rename_i inf hi;simp only[qAn]at hB;obtain⟨⟨ZW,O⟩,V⟩:=hB;have F:inf.zero=some (.int .u8 0):=by
   split at ZW
   .assumption
   .cases ZW
  obtain⟨v',w',u,D,f,_⟩:=Lib.run_append_own_string (P:=P) (w:=w) 0 T T' o.type e inf hu U hi F (qNb O) (qNb V) _ _ _ J ⟨s.toArray⟩ (by unfold maxLen;rw[size_mk];omega) (by rw[size_mk];omega) (qO _);rw[strI_cells,size_mk]at D;have hl:(xs++aG_ s).length=xs.length+s.length:=by rw[qLa,ZU]
  rw[←jZ,←hl]at D;obtain⟨A',cap',rfl,ZP⟩:∃A' cap',v' = .slice A' (xs++aG_ s).length cap'/\∀q,bX_ A' q->v' = .slice A' (xs++aG_ s).length cap':=by
   rcases D.2 with⟨M,hn⟩|⟨b,cap',cur,M,_⟩
   .exact⟨none,0,by rw[M,hn],λq ⟨a,ha,_⟩=>nomatch ha⟩
   .exact⟨_,_,M,λ_ _=>M⟩
  have Z:(execOp ρ o).run P w = .ok (.value (.slice A' (xs++aG_ s).length cap')) w':=by
   unfold execOp;rw[ho];simp only[resolve,invoke,builtin,Sem.run_bind,Sem.run_pure,Result.andThen_ok,List.map_toArray,zH,jB,ex,ey];show(Result.andThen ((Builtin.append_ #[T,T'] o.type #[Value.slice A xs.length cap,Value.string ⟨s.toArray⟩]).run P w) _)=_;rw[u];rfl
  have ZT:∀q,bX_ A' q->bX_ A q\/w.heap.size<=q:=λq ⟨a,ha,hq⟩=>by
   subst ha;have ZR:(xs.map (Value.int .u8)).length=xs.length:=ql ..;have h4:xs.length+s.length<=9223372036854775807:=by omega
   have h5:xs.length+s.length<=140737488355328:=by omega
   rcases J.2 with⟨M,hn⟩|⟨g,cap2,cur,M,_,hg,ZQ,_,ZS,_⟩
   .rw[M]at u;obtain⟨v2,w2,G,ZY,_,_⟩:=Lib.run_append_own_string (P:=P) (w:=w) w.heap.size T T' o.type e inf hu U hi F (qNb O) (qNb V) _ _ _ (World.ownsRow_nil w w.heap.size e 1) ⟨s.toArray⟩ (by unfold maxLen;rw[size_mk];omega) (by rw[size_mk];omega) (qE _);rw[u]at G;injection G with e1 e2;subst e1;rcases ZY.2 with⟨Y,_⟩|⟨b,_,_,Y,hb,_⟩
    .cases Y
    .injection Y with e3;obtain rfl:=qSj e3;exact .inr (by rw[hq];exact hb)
   .rw[M]at u;by_cases ZZ:xs.length+s.length<=cap2
    .have hr:=Lib.run_append_room_string (P:=P) w T T' o.type e inf hu U hi (qNb O) g xs.length cap2 cur hg ⟨s.toArray⟩ (by rw[size_mk];exact ZZ) (by rw[size_mk,ZS];omega);rw[u]at hr;injection hr with e1 e2;injection e1 with e3;obtain rfl:=qSj e3;injection M with e4;exact .inl ⟨_,e4,hq⟩
    .have hr:=Lib.run_append_grow_string (P:=P) w T T' o.type e inf (.int .u8 0) hu U hi F ⟨g,0,none⟩ xs.length cap2 (xs.map (Value.int .u8)) (by rw[qNb O];simp) (World.ownsRow.cells J (g:=g) (by rw[M];rfl)) ⟨s.toArray⟩ (by rw[size_mk];omega) (by rw[size_mk];omega) (by rw[qNb V];exact growslice_fits (by rw[size_mk];omega) (by rw[size_mk];omega));rw[u]at hr;injection hr with e1 e2;injection e1 with e3;obtain rfl:=qSj e3;exact .inr (by rw[hq];exact qE _)
  refine⟨_,_,z,g.put nx ⟨A',(xs++aG_ s).length,cap',1,0,0⟩,w',_,h,⟨Z,⟨_,rfl,_,Ga.put_self _ _ _,rfl⟩,Fz.Le.refl z,Ga.le_put ZX.self,ZX.put _,?_,λh=>by cases h⟩⟩;refine hH.turn (Ga.le_put ZX.self) (i:=i) (i':=nx) (C:=bX_ A) hC ⟨f.os,f.tape,f.output,f.size⟩ (λk hk hn=>f.block k hk λe => ?_) (o' := .row e (.int .u8) (xs++aG_ s) []) ?_ (λq hq => ?_) λj p hj=>ZV _ j p hj
  .cases A with
   | none=>cases e
   | some a=>exact hn ⟨a,rfl,qSj e⟩
  .refine⟨_,(xs++aG_ s).map λx=>[Value.int .u8 x],Ga.put_self _ _ _,rfl,rfl,?_,by simp,λq hq => ?_,rowsI_mk _,λp hp=>nomatch hp⟩
   .rw[nm_];exact D
   .obtain⟨x,_,rfl⟩:=jJ.1 hq;rfl
  .obtain⟨l2,a2,h5,h6,rfl⟩:=hq;rw[Ga.put_self]at h5;obtain rfl:=qSj h5;exact ZT _ ⟨a2,h6,rfl⟩
 .cases hB
theorem lAppS_ok{T T':tN}{x y:tI}(ho:o.op = .call { callee := .builtin .append,args := #[x,y],argTypes := #[T,T'] })(F:Fresh g nx)(hρ:OpR P E z g L ρ)(V:HR P E Bs F0 w0 w z g H)(h:lAppS P E L H nx T T' x y k=some r):gF_ P E Bs F0 w0 w z g nx H ρ o false k r:=by
 unfold lAppS at h;split at h
 .rename_i cx s e hx hy hu D;have ex:=hρ x _ hx;have ey:=SV.str_ok rfl (hρ y _ hy);split at h
  .rename_i id Y;split at h
   .rename_i e' xs foc hi;split at h
    .rename_i hb;obtain rfl:=qNb hb;obtain⟨l,h1,ev⟩:=ex;obtain⟨l2,rows,h3,M,hc,f,G,ZZ,u,_⟩:=V.hold _ _ hi;rw[h1]at h3;obtain rfl:=qSj h3;have U:l.c=1:=hc;rw[U,M,rowsI_map u (G.trans M),nm_]at f;rw[M]at ev;exact appS_ok ho hu D Y F V ev ey f id (λq ⟨a,J,hq⟩=>⟨_,hi,l,a,h1,J,hq⟩) (λo' j p O=>by
      rcases upH_two O with C|⟨C,h6,Z⟩
      .exact .inl C
      .exact .inr ⟨C,.inl h6,Z⟩) h
    .cases h
   .cases h
  .rename_i Y;have ev:ρ x = .slice none 0 0:=ex;exact appS_ok (xs:=[]) (del:=[]) (A:=none) (cap:=0) ho hu D Y F V ev ey ⟨by simp,.inl ⟨rfl,rfl⟩⟩ nx (λq ⟨a,J,_⟩=>nomatch J) (λo' j p O=>by
      rcases bi_ O with C|⟨C,Z⟩
      ·exact .inl C
      ·exact .inr ⟨C,.inr (λq ⟨a,J,_⟩=>nomatch J),Z⟩) h
  .cases h
 .cases h
theorem HR.row_new{e:tN}{t:Ty}{xs:tL (Den E.S t)}{A:tO Addr}{cap n:Nat}{rows:tL (tL tW)}{w':tS}(h:HR P E Bs F0 w0 w z g H)(x:Fresh g nx)(D:Ext w w')(J:xs.length=n)
  (s:w'.ownsRow 0 e (E.size t) (.slice A n cap) n rows.flatten) (u:rows.length=n) (f:Rows E z t xs rows) (y:∀q,bX_ A q->w.heap.size<=q) :
  HR P E Bs F0 w0 w' z (g.put nx ⟨A,n,cap,E.size t,0,0⟩) (upH H [(nx,some (.row e t xs []))]):=by
 refine h.add (o := .row e t xs []) D x.self ⟨_,rows,Ga.put_self _ _ _,J.symm,rfl,s,u,(f.cells (by omega)).2,f,λp G=>nomatch G⟩ (λq F => ?_) λj p M=>bi_ M
 obtain⟨l2,a2,C,O,rfl⟩:=F;rw[Ga.put_self]at C;obtain rfl:=qSj C;exact y _ ⟨a2,O,rfl⟩
def zeroD(P:tT)(E:TE)(e:tN)(t:Ty):tO (Den E.S t):=match kC_ P E e with
 | some zc=>match cf_ E (λ_=>none) (E.flat t) zc with
  | some h=>some (E.ufl t h)
  | none=>none
 | none=>none
def Operand.same:tI->tI->tV | .tmp a,.tmp b=>Nat.beq a b | .const (.int _ a),.const (.int _ b)=>decide (a=b)|_,_=>false
def Operand.zero:tI->tV | .const (.int _ a)=>decide (a=0)|_=>false
def lMake(P:tT)(E:TE)(L:Nat->tO (SV E))(nx:Nat)(T:tN)(x y:tI){R:Type}(k:tO (SV E)->Chs E->tO R):tO R :=
 match P.underlying T with
 | some (.slice e)=>match E.ty e,opS E L y with
  | some t,some (.v (.one (.dt (.int _) n)))=>match zeroD P E e t,elemB P e (E.size t) (mR_ P e),Operand.same x y,Operand.zero x with
   | some zv,true,true,_=>Option.bind (et_ (mR_ P e) zv n) λxs=>k (some (.v (.one (.own nx)))) [(nx,some (.row e t xs []))]
   | some zv,true,false,true=>Option.bind (et_ (mR_ P e) zv n) λ_=>k (some (.v (.one (.own nx)))) [(nx,some (.row e t [] []))]
   | _,_,_,_=>none
  | _,_=>none
 | _=>none
theorem zeroD_ok {e:tN} {t:Ty} {x:Den E.S t} (h:zeroD P E e t=some x):∃zs,zeroOf P e=some zs/\RD E z (E.flat t) (E.fl t x) zs:=by
 unfold zeroD at h;split at h
 .rename_i zc F;split at h
  .rename_i j J;obtain rfl:=qSj h;obtain⟨zs,p,u⟩:=nl_ (P:=P) (z:=z) (g:=λ_=>none) F;refine⟨zs,p,?_⟩;rw[E.fl_ufl]
   have key:∀{ts:tL Ty} {cs:tL (SC E)} {q:HL E.S ts} {vs:tL tW},cf_ E (λ_=>none) ts cs=some q->All2 (RC P E z (λ_=>none)) cs vs->RD E z ts q vs:=by
    intro ts cs q vs j C
    induction cs generalizing ts vs with
    | nil=>cases ts with
     | nil=>cases C;exact .nil
     | cons t ts=>simp[cf_]at j
    | cons c cs D=>cases ts with
     | nil=>simp[cf_]at j
     | cons t ts =>
      cases C with
      | cons p u =>
       simp only[cf_]at j;split at j
       .cases j
       .rename_i y f;split at j
        .rename_i M s;obtain rfl:=qSj j;refine RD.cons ?_ (D s u);unfold SC.data at f;split at f
         .split at f
          .rename_i G;subst G;obtain rfl:=qSj f;exact p
          .cases f
         .split at f
          .obtain rfl:=qSj f;simp only[RC]at p;subst p;exact RD.sl (xs:=[]) (cap:=0) (SlF.nil _ _ _ _) (qE _) (rows:=[]) (λi x r h=>by simp at h) .nil
          .cases f
         .cases f
         .cases f
         .cases f
        .cases j
   exact key J u
  .cases h
 .cases h
theorem same_int{x y:tI}{ky:IntKind}{n:Int}(f:Operand.same x y=true)(j:ρ y = .int ky n)(hρc:∀v,ρ (.const v)=v):∃kx,ρ x = .int kx n:=by
 unfold Operand.same at f;split at f
 .obtain rfl:=qNb f;exact⟨ky,j⟩
 .rename_i ka a kb b;simp only[qDe]at f;subst f;rw[hρc]at j;injection j with q p;exact⟨ka,by rw[hρc,p]⟩
 .cases f
theorem lMake_ok{T:tN}{x y:tI}(ho:o.op = .makeSlice T x y)(hρc:∀v,ρ (.const v)=v)(u:Fresh g nx)(hρ:OpR P E z g L ρ)(hH:HR P E Bs F0 w0 w z g H)(h:lMake P E L nx T x y k=some r):gF_ P E Bs F0 w0 w z g nx H ρ o true k r:=by
 unfold lMake at h;split at h
 .rename_i e hu;split at h
  .rename_i t ky n ht hy;have M:=SV.int_ok rfl (hρ y _ hy);split at h
   .rename_i zv hz V D;obtain⟨xs,J,h⟩:=bind_some h;have Y:=mM_ hu V;obtain⟨zs,ZY,ZZ⟩:=zeroD_ok (z:=z) hz;obtain⟨kx,C⟩:=same_int D M hρc;obtain⟨A',w',F,G,j⟩:=run_makeSlice_full (P:=P) ho Y ZY C M (Sep.start [] w) J;obtain⟨h0,h1,h2,rfl⟩:=ng_ J;obtain⟨p,s,_⟩:=G.hold _ (qT ..);have U:=G.own _ (qT ..) trivial;have O:Rows E z t (List.replicate n.toNat zv) (List.replicate n.toNat zs):=λi x r Z hr=>by
     rw[jO]at Z hr;split at Z
     .rename_i hc;rw[qL hc]at hr;obtain rfl:=qSj Z;obtain rfl:=qSj hr;exact ZZ
     .cases Z
    exact⟨_,_,z,_,w',_,h,⟨F,⟨_,rfl,_,Ga.put_self _ _ _,rfl⟩,Fz.Le.refl z,Ga.le_put u.self,u.put _,hH.row_new u j (by simp) p s O (λq ⟨a,ha,hq⟩=>(U q ⟨a,ha,hq⟩).resolve_right (by simp)),λ_=>j⟩⟩
   .rename_i zv hz V D f;obtain⟨xs,J,h⟩:=bind_some h;have Y:=mM_ hu V;have C:∃kx,ρ x = .int kx 0:=by
     unfold Operand.zero at f;split at f
     .rename_i ka a;simp only[qDe]at f;subst f;exact⟨ka,hρc _⟩
     .cases f
    obtain⟨kx,C⟩:=C;obtain⟨A',w',F,G,j⟩:=pR_ (P:=P) ho Y C M (Sep.start [] w) J;obtain⟨p,s,_⟩:=G.hold _ (qT ..);have U:=G.own _ (qT ..) trivial;exact⟨_,_,z,_,w',_,h,⟨F,⟨_,rfl,_,Ga.put_self _ _ _,rfl⟩,Fz.Le.refl z,Ga.le_put u.self,u.put _,hH.row_new u j rfl p s (λi x r h=>by simp at h) (λq ⟨a,ha,hq⟩=>(U q ⟨a,ha,hq⟩).resolve_right (by simp)),λ_=>j⟩⟩
   .cases h
  .cases h
 .cases h
def mS_(E:TE)(H:Nat->tO (Obj E))(t:Ty):Nat->tL (SC E)->tO (tL (Den E.S t))
 | 0,_=>some []
 | n+1,l=>match cf_ E H (E.flat t) (l.take (E.size t))with
  | some h=>match mS_ E H t n (l.drop (E.size t))with
   | some xs=>some (E.ufl t h::xs)
   | none=>none
  | none=>none
theorem q7_{t:Ty}(q:HR P E Bs F0 w0 w z g H):∀{n:Nat} {l:tL (SC E)} {xs:tL (Den E.S t)} {vs:tL tW},mS_ E H t n l=some xs->All2 (RC P E z g) l vs->vs.length=n*E.size t ->
  ∃rows:tL (tL tW),rows.flatten=vs/\rows.length=n/\xs.length=n/\Rows E z t xs rows
 | 0,l,xs,vs,h,hr,p=>by
  simp only[mS_,qOi]at h;subst h;rw[Nat.zero_mul]at p;exact⟨[],(jV p).symm,rfl,rfl,λi x r h=>by simp at h⟩
 | n + 1,l,xs,vs,h,hr,p=>by
  simp only[mS_]at h;split at h
  .rename_i F s;split at h
   .rename_i xs' f;obtain rfl:=qSj h;have j:=el_ q s (hr.take (E.size t));obtain⟨rows,D,C,y,u⟩:=q7_ q f (hr.drop (E.size t)) (by rw[qC,p,jc];omega);refine⟨vs.take (E.size t)::rows,by rw[zw,D,zj],by simp[C],by simp[y],λi x r f hr => ?_⟩;cases i with
    | zero =>
     simp only[jt,qOi]at f hr;subst f;subst hr;rw[E.fl_ufl];exact j
    | succ i =>
     simp only[List.getElem?_cons_succ]at f hr;exact u i x r f hr
   .cases h
  .cases h
theorem All2.rep{l:tL (SC E)}{vs:tL tW}(h:All2 (RC P E z g) l vs):∀n,All2 (RC P E z g) (List.replicate n l).flatten (List.replicate n vs).flatten
 | 0 => .nil
 | n+1=>by
  simp only[List.replicate_succ,zw];exact h.append (h.rep n)
def lSlice (P:tT) (E:TE) (L:Nat->tO (SV E)) (H:Nat->tO (Obj E)) (nx:Nat) (T:tN) (n:Nat) (ps:Array (Nat×tI)) {R:Type} (k:tO (SV E)->Chs E->tO R):tO R :=
 match P.underlying T with
 | some (.slice e)=>match E.ty e,kC_ P E e,aO_ P e with
  | some t,some zc,some s=>match Nat.beq s (E.size t)&&Nat.beq zc.length s&&Nat.ble (n*s) 16777216&&Nat.ble n 9223372036854775807 with
   | true=>match mQ_ E L s ps.toList (List.replicate n zc).flatten with
    | some l=>match mS_ E (upH H (dU_ H l)) t n l with
     | some xs=>k (some (.v (.one (.own nx)))) ((nx,some (.row e t xs []))::dU_ H l)
     | none=>none
    | none=>none
   | false=>none
  | _,_,_=>none
 | _=>none
theorem lSlice_ok {T:tN} {n:Nat} {ps:Array (Nat×tI)} (ho:o.op = .buildSlice T n ps) (M:Fresh g nx) (hρ:OpR P E z g L ρ) (hH:HR P E Bs F0 w0 w z g H) (h:lSlice P E L H nx T n ps k=some r):gF_ P E Bs F0 w0 w z g nx H ρ o true k r:=by
 unfold lSlice at h;split at h
 .rename_i e hu;split at h
  .rename_i t zc s ht hz hs;split at h
   .rename_i hb;simp only[qAn]at hb;obtain⟨⟨⟨ZP,ZQ⟩,ZR⟩,ZS⟩:=hb;obtain rfl:=qNb ZP;have ZX:=qNb ZQ;have ZO:=zD ZR;split at h
    .rename_i l hl;split at h
     .rename_i xs hx;obtain⟨zs,j,U⟩:=nl_ (P:=P) (z:=z) (g:=g) hz;have ZY:zs.length=E.size t:=by rw[←U.len];exact ZX
      obtain⟨inf,zv,hi,F,rfl⟩:∃inf zv,P.info? e=some inf/\inf.zero=some zv/\zs=zv.cells.toList:=by
       unfold zeroOf at j;split at j
       .rename_i inf hi;split at j
        .rename_i zv F;exact⟨inf,zv,hi,F,(qSj j).symm⟩
        .cases j
       .cases j
      have y:inf.size=E.size t:=by simpa[aO_,hi]using hs
      have C:=ew_ zv.cells.toList n;rw[ZY,zN]at C;obtain⟨cells',hf,hr⟩:=ms_ (P:=P) hρ hl (cells:=madeCells zv.cells (n*E.size t)) (by rw[←C];exact U.rep n)
      have Z:∀(ps:tL (Nat×tW)) (c c':Array tW) (pl:Nat->tO (Nat×Nat)),Instr.fill pl c ps=some c'->c'.size=c.size:=by
       intro ps
       induction ps with
       | nil=>intro c c' pl h;simp only[Instr.fill,qOi]at h;subst h;rfl
       | cons p ps ih =>
        intro c c' pl h;simp only[Instr.fill]at h;split at h
        .cases h
        .split at h
         .cases h
         .rw[ih _ _ _ h];have key:∀(us:tL (tW×Nat)) (off:Nat) (c:Array tW),(us.foldl (λcs (q:tW×Nat)=>cs.setIfInBounds (off+q.2) q.1) c).size=c.size:=by
           intro us
           induction us with
           | nil=>intro off c;rfl
           | cons u us ih=>intro off c;rw[List.foldl_cons,ih];simp
          rw[←Array.foldl_toList];exact key _ _ _
      have ZT:cells'.toList.length=n*E.size t:=by
       rw[qq,Z _ _ _ _ hf,size_madeCells]
      obtain⟨z',V,ZZ⟩:=dB_ hH l;obtain⟨rows,h1,h2,h3,h4⟩:=q7_ ZZ hx (hr.mono λ_ _ h=>RC.le h V (Ga.Le.refl g)) ZT;have D:=h4.cells (by omega);have hS:=(Sep.start [] w).row_new e (E.size t) n rows h2 D.2 ZS;rw[h1,zN]at hS;obtain⟨J,O,_⟩:=hS.hold _ (qT ..);have ZU:=hS.own _ (qT ..) trivial;have Y:(execOp ρ o).run P w = .ok (.value (.slice (some ⟨w.heap.size,0,none⟩) n n)) (w.alloc (.cells cells' e)):=by
       unfold execOp;rw[ho];have e3:(ps.map λ(i,x)=>(i,ρ x)).toList=ps.toList.map λp=>(p.1,ρ p.2):=by simp
       have ZV:¬(n*inf.size>2^24):=by rw[y];omega
       simp only[Instr.buildSlice,Sem.run_bind,run_underlying hu,Result.andThen_ok,sizeOf,typeInfo,run_program,hi,Sem.run_pure];rw[qP ZV];rw[e3];by_cases h0:n*E.size t=0
       .rw[qL (by rw[y];exact h0)];have f:(Array.range (n*E.size t)).map (λx=>(#[]:Array tW)[x%(#[]:Array tW).size]!)=madeCells zv.cells (n*E.size t):=by rw[h0];simp[madeCells]
        simp only[Sem.run_bind,Sem.run_pure,Result.andThen_ok,f,y,hf,newRow];rfl
       .rw[qP (by rw[y];exact h0)];have f:(Array.range (n*E.size t)).map (λx=>zv.cells[x%zv.cells.size]!)=madeCells zv.cells (n*E.size t):=rfl;have G:(zeroValue e).run P w = .ok zv w:=by simp[zeroValue,typeInfo,hi,F]
        simp only[Sem.run_bind,Sem.run_pure,Result.andThen_ok,G,f,y,hf,newRow];rfl
      have ZW:upH H ((nx,some (.row e t xs []))::dU_ H l)=upH (upH H (dU_ H l)) [(nx,some (.row e t xs []))]:=by rw[aT_];rfl
      refine⟨_,_,z',_,_,_,h,⟨Y,⟨_,rfl,_,Ga.put_self _ _ ⟨some ⟨w.heap.size,0,none⟩,n,n,E.size t,0,0⟩,rfl⟩,V,Ga.le_put M.self,M.put _,?_,λ_=>Ext.one w _⟩⟩;rw[ZW];exact ZZ.row_new M (Ext.one w _) h3 J O h4 λq ⟨a,ha,hq⟩=>(ZU q ⟨a,ha,hq⟩).resolve_right (by simp)
     .cases h
    .cases h
   .cases h
  .cases h
 .cases h
theorem run_copy_own{T T2 e c:Nat}{x y:tI}{n cap m cap2:Nat}{A A2:tO Addr}{rows news:tL (tL tW)}{F:Nat->Prop}(ho:o.op = .call { callee := .builtin .copy,args := #[x,y],argTypes := #[T,T2] })(hu:P.underlying T=some (.slice e))(hs:aO_ P e=some c)
  (hx:ρ x = .slice A n cap) (hy:ρ y = .slice A2 m cap2) (hR:Res.holds w (.row e c A n cap rows)) (s:SlF F c A2 m news w) (Y:∀q∈news,q.length=c) (ZT:lc_ news) :
  ∃w',(execOp ρ o).run P w = .ok (.value (.int .i64 ((min m n:Nat):Int))) w'/\Res.holds w' (.row e c A n cap (news.take (min m n)++rows.drop (min m n)))/\Grow w w'/\∀q,¬bX_ A q->w'.heap[q]? = w.heap[q]? := by
 obtain⟨cs,V⟩:=kB_ (ρ:=ρ) ho;rw[BigFrame.builtin_copy]at V;obtain⟨ZU,O,ZW⟩:=hR;obtain⟨inf,hi,ZX⟩:∃inf,P.info? e=some inf/\inf.size=c:=by
  unfold aO_ at hs;cases f:P.info? e with
  | none=>simp[f]at hs
  | some i=>exact⟨i,rfl,by simpa[f]using hs⟩
 have ZE:Nat.min m n=min m n:=rfl;have C:(Builtin.firstCells c (Nat.min m n) (.slice A2 m cap2)).run P w = .ok (news.take (min m n)).flatten.toArray w:=by
  have ZY:∀q∈news.take (min m n),q.length=c:=λq f=>Y q (zK f)
  have p:(news.take (min m n)).flatten.length=min m n*c:=by
   rw[av_ ZY,qA,s.1]
   congr 1;omega
  cases A2 with
  | none =>
   have hm:m=0:=by
    rcases zA m with D|D
    .exact D
    .obtain⟨b,off,hh,_⟩:=s.2 D;cases hh
   have:(news.take (min m n)).flatten=[]:=jV (by rw[p,hm];simp);rw[this];rfl
  | some ad =>
   have:=run_loadCells_list (P:=P) w ad (news.take (min m n)).flatten (λj v J=>by
    have Z:j<min m n*c:=by rw[←p];exact(qj.1 J).1
    have ZF:0<c:=by
     rcases zA c with D|D
     .rw[D]at Z;omega
     .exact D
    have ZI:0<m:=by
     rcases zA m with D|D
     .subst D;simp at Z
     .exact D
    obtain⟨b,off,hA,_,ZZ⟩:=s.2 ZI;simp only[qOi]at hA;subst hA;have f:j/c<min m n:=jw (by rw[jn];exact Z);have ZV:j/c<news.length:=by rw[s.1];omega
    have M:j%c<c:=Nat.mod_lt _ ZF;have u:=ZZ (j/c) _ (qY ZV);have ZH:(news.take (min m n))[j/c]? = some news[j/c]:=by rw[zp,qL f,qY ZV]
    have ZR:=fZ_ ZY ZH (j%c) (news[j/c][j%c]'(by rw[u.1];exact M)) (qY _);have hj:j/c*c+j%c=j:=by rw[jn];exact Nat.div_add_mod j c
    rw[hj,J]at ZR;have ZP:=u.2 (j%c) _ (qY (by rw[u.1];exact M));rw[zG,hj]at ZP;rw[Addr.add_mk,ZP,ZR])
   rw[p]at this;exact this
 have G:∀q∈news.take (min m n)++rows.drop (min m n),q.length=c:=λq f=>by
  rcases qF.1 f with f|f
  .exact Y q (zK f)
  .exact ZW q (jk f)
 have h:(news.take (min m n)++rows.drop (min m n)).length=n:=by
  rw[qLa,qA,qC,s.1,O];omega
 have p:(news.take (min m n)).flatten.length=min m n*c:=by
  rw[av_ (c:=c) (λq f=>Y q (zK f)),qA,s.1]
  congr 1;omega
 rcases ZU.2 with⟨J,ZJ⟩|⟨b,cap',cur,J,hb,hh,ZK,ZG,ZQ,ZN⟩
 .injection J with e1 e2 e3;subst ZJ;subst e1;subst e3;refine⟨w,?_,⟨⟨?_,.inl ⟨rfl,rfl⟩⟩,h,G⟩,Grow.refl w,λ_ _=>rfl⟩
  .have ZS:=C;rw[show Nat.min m 0=0 from Nat.min_zero m]at ZS;rw[V];simp[hx,hy,Builtin.copy_,run_underlying hu,Builtin.lenOf,sizeOf,typeInfo,hi,ZX,ZS,goInt]
  .rw[av_ G,h]
 .injection J with e1 _ e3;subst e1;subst e3;have U:0+0+(news.take (min m n)).flatten.length<=cur.size:=by
   rw[p,ZQ];have:min m n*c<=cap*c:=qu c (by omega);omega
  have h1:∀v∈(news.take (min m n)).flatten,v.oneCell'=true:=λv J=>by
   obtain⟨q,f,ZO⟩:=jL.1 J;exact fb_ (ZT q (zK f)) v ZO
  have ZM:=run_storeCells_at (P:=P) b 0 e (news.take (min m n)).flatten 0 cur w hh U h1;refine⟨w.setRow b (cur.toList.take (0+0)++(news.take (min m n)).flatten++cur.toList.drop (0+0+(news.take (min m n)).flatten.length)).toArray,?_,⟨⟨?_,.inr ⟨b,cap,_,rfl,qO _,eG_ w b _ cur e hh,ZK,ZG,?_,?_⟩⟩,h,G⟩,dn_ w b _,λq f=>cm_ w b q _ (λhe=>f ⟨_,rfl,he⟩)⟩
  .rw[V];simp[hx,hy,Builtin.copy_,run_underlying hu,Builtin.lenOf,sizeOf,typeInfo,hi,ZX,C,goInt,ZM]
  .rw[av_ G,h]
  .simp only[qh,jP,jj,zy,jA,qLa,qC,qq,ZQ]at U ⊢;omega
  .simp only[qh,jP,jj,zy];have ZL:(rows.drop (min m n)).flatten=rows.flatten.drop (min m n*c):=by
    have e1:rows.flatten=(rows.take (min m n)).flatten++(rows.drop (min m n)).flatten:=by rw[←zg,zj]
    have e2:(rows.take (min m n)).flatten.length=min m n*c:=by
     rw[av_ (c:=c) (λq f=>ZW q (zK f)),qA,O]
     congr 1;omega
    rw[e1,List.drop_left' e2]
   rw[zg,ZL,←ZN];rw[List.take_append,p];rw[qr (by rw[p];exact qu c (by omega))];rw[jC]
theorem run_copy_suf{T T2 e c:Nat}{x y:tI}{n cap m cap2 lo:Nat}{A A2:tO Addr}{rows news:tL (tL tW)}{F:Nat->Prop}(ho:o.op = .call { callee := .builtin .copy,args := #[x,y],argTypes := #[T,T2] })(hu:P.underlying T=some (.slice e))(hs:aO_ P e=some c)(ZA:lo<=n)
  (hx:ρ x = .slice (cutA A c lo cap) (n-lo) (cap-lo)) (hy:ρ y = .slice A2 m cap2) (hR:Res.holds w (.row e c A n cap rows)) (u:SlF F c A2 m news w) (ZK:∀q∈news,q.length=c) (ZL:lc_ news) :
  ∃w',(execOp ρ o).run P w = .ok (.value (.int .i64 ((min m (n-lo):Nat):Int))) w'/\Res.holds w' (.row e c A n cap (rows.take lo++(news.take (min m (n-lo))++rows.drop (lo+min m (n-lo)))))/\Grow w w'/\∀q,¬bX_ A q->w'.heap[q]? = w.heap[q]? := by
 obtain⟨cs,V⟩:=kB_ (ρ:=ρ) ho;rw[BigFrame.builtin_copy]at V;obtain⟨ZM,J,U⟩:=hR;obtain⟨inf,hi,ZX⟩:∃inf,P.info? e=some inf/\inf.size=c:=by
  unfold aO_ at hs;cases f:P.info? e with
  | none=>simp[f]at hs
  | some i=>exact⟨i,rfl,by simpa[f]using hs⟩
 obtain⟨k,hk⟩:∃k,k=min m (n-lo):=⟨_,rfl⟩;have G:Nat.min m (n-lo)=k:=hk.symm;rw[←hk];have Zr:k<=m:=by omega
 have Zz:lo+k<=n:=by omega
 have ZT:∀q∈news.take k,q.length=c:=λq f=>ZK q (zK f)
 have s:(news.take k).flatten.length=k*c:=by
  rw[av_ ZT,qA,u.1]
  congr 1;omega
 have h:(Builtin.firstCells c k (.slice A2 m cap2)).run P w = .ok (news.take k).flatten.toArray w:=by
  cases A2 with
  | none =>
   have hm:m=0:=by
    rcases zA m with O|O
    .exact O
    .obtain⟨b,off,hh,_⟩:=u.2 O;cases hh
   have:(news.take k).flatten=[]:=jV (by rw[s,show k=0 by omega];simp);rw[this];rfl
  | some ad =>
   have:=run_loadCells_list (P:=P) w ad (news.take k).flatten (λj v hv=>by
    have ZZ:j<k*c:=by rw[←s];exact(qj.1 hv).1
    have Zv:0<c:=by
     rcases zA c with O|O
     .rw[O]at ZZ;omega
     .exact O
    have ZB:0<m:=by
     rcases zA m with O|O
     .rw[show k=0 by omega]at ZZ;simp at ZZ
     .exact O
    obtain⟨b,off,hA,_,ZU⟩:=u.2 ZB;simp only[qOi]at hA;subst hA;have f:j/c<k:=jw (by rw[jn];exact ZZ);have ZN:j/c<news.length:=by rw[u.1];omega
    have ZY:j%c<c:=Nat.mod_lt _ Zv;have D:=ZU (j/c) _ (qY ZN);have Zx:(news.take k)[j/c]? = some news[j/c]:=by rw[zp,qL f,qY ZN]
    have ZH:=fZ_ ZT Zx (j%c) (news[j/c][j%c]'(by rw[D.1];exact ZY)) (qY _);have hj:j/c*c+j%c=j:=by rw[jn];exact Nat.div_add_mod j c
    rw[hj,hv]at ZH;have M:=D.2 (j%c) _ (qY (by rw[D.1];exact ZY));rw[zG,hj]at M;rw[Addr.add_mk,M,ZH])
   rw[s]at this;exact this
 have Y:∀q∈rows.take lo++(news.take k++rows.drop (lo+k)),q.length=c:=λq f=>by
  rcases qF.1 f with f|f
  .exact U q (zK f)
  .rcases qF.1 f with f|f
   .exact ZK q (zK f)
   .exact U q (jk f)
 have p:(rows.take lo++(news.take k++rows.drop (lo+k))).length=n:=by
  simp only[qLa,qA,qC,u.1,J];omega
 rcases ZM.2 with⟨hv,ZC⟩|⟨b,cap',cur,hv,hb,hh,ZJ,Zw,ZV,ZR⟩
 .injection hv with e1 e2 e3;subst ZC;subst e1;subst e3;have Z:k=0:=by omega
  have ZI:lo=0:=by omega
  subst Z;subst ZI;refine⟨w,?_,⟨⟨?_,.inl ⟨rfl,rfl⟩⟩,p,Y⟩,Grow.refl w,λ_ _=>rfl⟩
  .have ZW:(news.take 0).flatten=[]:=by simp
   rw[ZW]at h;have ZF:cutA none c 0 0=none:=rfl;rw[ZF]at hx;rw[V];simp[hx,hy,Builtin.copy_,run_underlying hu,Builtin.lenOf,sizeOf,typeInfo,hi,ZX,h,goInt]
  .rw[av_ Y,p]
 .injection hv with e1 _ e3;subst e1;subst e3;have hlc:lo*c<=n*c:=qu _ ZA;have Zu:n*c<=cap*c:=qu _ ZJ;have Zy:(lo+k)*c=lo*c+k*c:=jx _ _ _;have Zt:(lo+k)*c<=n*c:=qu _ Zz;have h1:∀v∈(news.take k).flatten,v.oneCell'=true:=λv hv=>by
   obtain⟨q,f,ZD⟩:=jL.1 hv;exact fb_ (ZL q (zK f)) v ZD
  have M:cur.toList.length=cap*c:=by simpa using ZV
  have e5:(rows.take lo).flatten=rows.flatten.take (lo*c):=by
   have f1:rows.flatten=(rows.take lo).flatten++(rows.drop lo).flatten:=by rw[←zg,zj]
   have f2:(rows.take lo).flatten.length=lo*c:=by
    rw[av_ (c:=c) (λq f=>U q (zK f)),qA,J]
    congr 1;omega
   rw[f1,List.take_left' f2]
  have e6:(rows.drop (lo+k)).flatten=rows.flatten.drop ((lo+k)*c):=by
   have f1:rows.flatten=(rows.take (lo+k)).flatten++(rows.drop (lo+k)).flatten:=by rw[←zg,zj]
   have f2:(rows.take (lo+k)).flatten.length=(lo+k)*c:=by
    rw[av_ (c:=c) (λq f=>U q (zK f)),qA,J]
    congr 1;omega
   rw[f1,List.drop_left' f2]
  have ZG:∃cs',(execOp ρ o).run P w = .ok (.value (.int .i64 ((k:Nat):Int))) (w.setRow b cs')/\cs'.size=cap*c/\cs'.toList.take (n*c)=(rows.take lo++(news.take k++rows.drop (lo+k))).flatten:=by
   rcases zA k with Z|Zs
   .refine⟨cur,?_,ZV,?_⟩
    .have ZW:(news.take k).flatten=[]:=jV (by rw[s,Z];simp);rw[ZW]at h;rw[setRow_self w b cur e (0,0) hh];rw[V];have ZE:∀(a:Addr),(storeCells a [] 0).run P w = .ok () w:=λa=>rfl
     cases hA:cutA (some (⟨b,0,none⟩:Addr)) c lo cap<;>rw[hA]at hx<;>simp[hx,hy,Builtin.copy_,run_underlying hu,Builtin.lenOf,sizeOf,typeInfo,hi,ZX,G,h,goInt,ZE]
    .rw[ZR,Z];simp
   .have hA:cutA (some (⟨b,0,none⟩:Addr)) c lo cap=some ⟨b,lo*c,none⟩:=by
     unfold cutA;rw[qP (by omega)];simp[Addr.add_mk]
    rw[hA]at hx;have ZP:=run_storeCells_at (P:=P) b (lo*c) e (news.take k).flatten 0 cur w hh (by rw[s,ZV];omega) h1;simp only[jP]at ZP;refine⟨(cur.toList.take (lo*c)++(news.take k).flatten++cur.toList.drop (lo*c+(news.take k).flatten.length)).toArray,?_,?_,?_⟩
    .rw[V];simp[hx,hy,Builtin.copy_,run_underlying hu,Builtin.lenOf,sizeOf,typeInfo,hi,ZX,G,h,goInt,ZP]
    .simp only[jA,qLa,qA,qC,s,M];omega
    .show(cur.toList.take (lo*c)++(news.take k).flatten++cur.toList.drop (lo*c+(news.take k).flatten.length)).take (n*c)=_;have tk:∀(A B C:tL tW) (a b N:Nat),A.length=a->B.length=b->a+b<=N->(A++B++C).take N=A++(B++C.take (N-(a+b))):=by
      intro A B C a b N h1 h2 h3;subst h1;subst h2;rw[List.take_append,qr (by simp only[qLa];omega),qLa,qS]
     rw[tk _ _ _ (lo*c) (k*c) (n*c) (by rw[qA,M];omega) s (by omega),zg,zg,e5,e6,←ZR,List.take_take,ji hlc,jC,s,Zy]
  obtain⟨cs',ZO,ZQ,ZS⟩:=ZG;refine⟨_,ZO,⟨⟨?_,.inr ⟨b,cap,cs',rfl,qO _,eG_ w b _ cur e hh,ZJ,Zw,ZQ,ZS⟩⟩,p,Y⟩,dn_ w b _,λq f=>cm_ w b q _ (λhe=>f ⟨_,rfl,he⟩)⟩;rw[av_ Y,p]
def lCopy (P:tT) (E:TE) (L:Nat->tO (SV E)) (H:Nat->tO (Obj E)) (T:tN) (x y:tI) {R:Type} (k:tO (SV E)->Chs E->tO R):tO R :=
 match opS E L x,opS E L y,P.underlying T with
 | some (.v (.one (.own id))),some (.v (.one cy)),some (.slice e)=>match H id with
  | some (.row h t xs _)=>match Nat.beq h e,aO_ P e,cy.rdT H t with
   | true,some s,some f=>match Nat.beq s (E.size t)with
    | true=>k (some (.v (.one (.dt (.int .i64) ((min f.length xs.length:Nat):Int))))) [(id,some (.row e t (jz_ xs f) []))]
    | false=>none
   | _,_,_=>none
  | _=>none
 | some (.v (.one (.suf id lo))),some (.v (.one cy)),some (.slice e)=>match H id with
  | some (.row h t xs _)=>match Nat.beq h e,aO_ P e,cy.rdT H t with
   | true,some s,some f=>match Nat.beq s (E.size t)with
    | true=>k (some (.v (.one (.dt (.int .i64) ((min f.length (xs.drop lo.toNat).length:Nat):Int))))) [(id,some (.row e t (lr_ xs lo.toNat f) []))]
    | false=>none
   | _,_,_=>none
  | _=>none
 | _,_,_=>none
theorem copy_rows{t:Ty}{xs f:tL (Den E.S t)}{rows news:tL (tL tW)}(h:Rows E z t xs rows)(q:Rows E z t f news)(j:news.length=f.length):Rows E z t (jz_ xs f) (news.take (min f.length xs.length)++rows.drop (min f.length xs.length)):=by
 unfold jz_;refine Rows.append ?_ ?_ (by rw[qA,qA,j])
 .have:=eT_ q 0 (min f.length xs.length);simpa using this
 .intro i x r p hr;rw[zW]at p hr;exact h _ x r p hr
theorem lCopy_ok{T T2:tN}{x y:tI}(ho:o.op = .call { callee := .builtin .copy,args := #[x,y],argTypes := #[T,T2] })(ZP:Fresh g nx)(hρ:OpR P E z g L ρ)(hH:HR P E Bs F0 w0 w z g H)(h:lCopy P E L H T x y k=some r):gF_ P E Bs F0 w0 w z g nx H ρ o false k r:=by
 unfold lCopy at h;split at h
 .rename_i id cy e hx hy hu;split at h
  .rename_i e' t xs foc hi;split at h
   .rename_i s ys hb hs ZW;obtain rfl:=qNb hb;split at h
    .rename_i ZR;obtain rfl:=qNb ZR;obtain⟨l,h1,ev⟩:=hρ x _ hx;obtain⟨l2,rows,h3,hn,Z,ZZ,Y,ZV,D,_⟩:=hH.hold _ _ hi;rw[h1]at h3;obtain rfl:=qSj h3;obtain⟨A2,cap2,news,F,ey,O,ZS,f⟩:=SC.rdT_ok hH ZW (hρ y _ hy);obtain⟨ZX,ZU⟩:=f.cells O.1;obtain⟨w',M,ZQ,U,ZY⟩:=run_copy_own (P:=P) (w:=w) (rows:=rows) ho hu hs ev ey ⟨by rw[←Z];exact ZZ,Y,by rw[←Z];exact ZV⟩ O ZU ZX;obtain⟨G,J,V⟩:=ZQ;have u:=copy_rows D f O.1;have ZT:(jz_ xs ys).length=xs.length:=by unfold jz_;simp;omega
     rw[hn]at M G J V;refine⟨_,_,z,g,w',_,h,⟨M,⟨_,rfl,.int .nil⟩,Fz.Le.refl z,Ga.Le.refl g,ZP.succ,?_,λh=>by cases h⟩⟩;refine hH.turn (Ga.Le.refl g) (i:=id) (i':=id) (C:=bX_ l.A) (λq ⟨a,ha,hq⟩=>⟨_,hi,l,a,h1,ha,hq⟩) U (λq _ hq=>ZY q hq) (o' := .row e' t (jz_ xs ys) []) ?_ (λq hq => ?_) λj p hj => ?_
     .exact⟨l,_,h1,by rw[ZT];exact hn,Z,by rw[hn,Z];exact G,by rw[hn];exact J,by rw[Z];exact V,u,λp hp=>nomatch hp⟩
     .obtain⟨l2,a2,h5,h6,rfl⟩:=hq;rw[h1]at h5;obtain rfl:=qSj h5;exact .inl ⟨a2,h6,rfl⟩
     .rcases bi_ hj with⟨rfl,rfl⟩|⟨h5,h6⟩
      .exact .inl ⟨rfl,rfl⟩
      .exact .inr ⟨h5,.inl h5,h6⟩
    .cases h
   .cases h
  .cases h
 .rename_i id lo cy e hx hy hu;split at h
  .rename_i e' t xs foc hi;split at h
   .rename_i s ys hb hs ZW;obtain rfl:=qNb hb;split at h
    .rename_i ZR;obtain rfl:=qNb ZR;obtain⟨l,h1,ZN,ev⟩:=hρ x _ hx;obtain⟨l2,rows,h3,hn,Z,ZZ,Y,ZV,D,_⟩:=hH.hold _ _ hi;rw[h1]at h3;obtain rfl:=qSj h3;obtain⟨A2,cap2,news,F,ey,O,ZS,f⟩:=SC.rdT_ok hH ZW (hρ y _ hy);obtain⟨ZX,ZU⟩:=f.cells O.1;rw[Z]at ev;obtain⟨w',M,ZQ,U,ZY⟩:=run_copy_suf (P:=P) (w:=w) (rows:=rows) ho hu hs ZN ev ey ⟨by rw[←Z];exact ZZ,Y,by rw[←Z];exact ZV⟩ O ZU ZX;obtain⟨G,J,V⟩:=ZQ;have ZO:(xs.drop lo.toNat).length=l.n-lo.toNat:=by rw[qC,hn]
     have u:Rows E z t (lr_ xs lo.toNat ys) (rows.take lo.toNat++(news.take (min ys.length (l.n-lo.toNat))++rows.drop (lo.toNat+min ys.length (l.n-lo.toNat)))):=by
      unfold lr_ jz_;rw[ZO,zz];refine Rows.append ?_ (Rows.append ?_ ?_ (by rw[qA,qA,O.1])) (by rw[qA,qA,Y,hn])
      .have:=eT_ D 0 lo.toNat;simpa using this
      .have:=eT_ f 0 (min ys.length (l.n-lo.toNat));simpa using this
      .intro i x r hx hr;rw[zW]at hx hr;exact D _ x r hx hr
     have ZT:(lr_ xs lo.toNat ys).length=xs.length:=by unfold lr_ jz_;simp;omega
     rw[←ZO]at M;refine⟨_,_,z,g,w',_,h,⟨M,⟨_,rfl,.int .nil⟩,Fz.Le.refl z,Ga.Le.refl g,ZP.succ,?_,λh=>by cases h⟩⟩;refine hH.turn (Ga.Le.refl g) (i:=id) (i':=id) (C:=bX_ l.A) (λq ⟨a,ha,hq⟩=>⟨_,hi,l,a,h1,ha,hq⟩) U (λq _ hq=>ZY q hq) (o' := .row e' t (lr_ xs lo.toNat ys) []) ?_ (λq hq => ?_) λj p hj => ?_
     .exact⟨l,_,h1,by rw[ZT];exact hn,Z,by rw[Z];exact G,J,by rw[Z];exact V,u,λp hp=>nomatch hp⟩
     .obtain⟨l2,a2,h5,h6,rfl⟩:=hq;rw[h1]at h5;obtain rfl:=qSj h5;exact .inl ⟨a2,h6,rfl⟩
     .rcases bi_ hj with⟨rfl,rfl⟩|⟨h5,h6⟩
      .exact .inl ⟨rfl,rfl⟩
      .exact .inr ⟨h5,.inl h5,h6⟩
    .cases h
   .cases h
  .cases h
 .cases h
theorem sc_(zs:Array tW)(n:Nat):(Builtin.zeroCells zs n).toList=(List.replicate n zs.toList).flatten:=by
 rw[ew_];simp[Builtin.zeroCells,madeCells]
theorem run_clear{T e c bytes:Nat}{x:tI}{A:tO Addr}{n cap:Nat}{zs:tL tW}(ho:o.op = .call { callee := .builtin .clear,args := #[x],argTypes := #[T] })(O:mL_ P T e c bytes)(U:zeroOf P e=some zs)
  (Z:ρ x = .slice A n cap):(A=none\/n=0->(execOp ρ o).run P w = .ok (.value (.tuple #[])) w) /\
  ∀b off cur,A=some ⟨b,off,none⟩->w.heap[b]? = some (.cells cur e (0,0))->off+n*c<=cur.size->(∀v∈zs,v.oneCell'=true)->0<n ->
   (execOp ρ o).run P w = .ok (.value (.tuple #[])) (w.setRow b (cur.toList.take off++(List.replicate n zs).flatten++cur.toList.drop (off+n*c)).toArray):=by
 obtain⟨G,i,z',hi,f,ZZ,ZY,D,V⟩:=O;have h:zs=z'.cells.toList:=by
  simp only[zeroOf,hi,f,qOi]at U;exact U.symm
 obtain⟨cs,M⟩:=kB_ (ρ:=ρ) ho;have hb:builtin .clear #[T] o.type cs #[ρ x]=(do pure (.value (←Builtin.clear_ #[T] o.type #[ρ x]))):=rfl;have s:execOp ρ o=(do pure (.value (←Builtin.clear_ #[T] o.type #[ρ x]))):=by rw[M,show(#[x]:Array tI).map ρ = #[ρ x]from by simp];exact hb
 rw[s,Z];have y:zs.length=c:=by rw[h,qq];exact D
 constructor
 .rintro(rfl|rfl)
  .simp[Builtin.clear_,run_underlying G]
  .cases A<;>simp[Builtin.clear_,run_underlying G]
 .intro b off cur hA hh Y u hn;subst hA;have F:(Builtin.zeroCells z'.cells n).toList=(List.replicate n zs).flatten:=by rw[sc_,h]
  have C:((List.replicate n zs).flatten).length=n*c:=by
   rw[av_ (c:=c) (λq J=>by rw[jY J,y]),jT]
  have p:=run_storeCells_at (P:=P) b off e (List.replicate n zs).flatten 0 cur w hh (by rw[C];omega) (λv hv=>by
   obtain⟨q,J,j⟩:=jL.1 hv;rw[jY J]at j;exact u v j)
  rw[C,jP]at p;obtain⟨m,rfl⟩:∃m,n=m+1:=⟨n-1,by omega⟩;simp[Builtin.clear_,run_underlying G,zeroValue,typeInfo,hi,f,F,p]
def lClear(P:tT)(E:TE)(L:Nat->tO (SV E))(H:Nat->tO (Obj E))(T:tN)(x:tI){R:Type}(k:tO (SV E)->Chs E->tO R):tO R :=
 match opS E L x,P.underlying T with
 | some (.v (.one (.suf id n))),some (.slice e)=>match H id with
  | some (.row f t xs _)=>match Nat.beq f e,elemB P e (E.size t) (mR_ P e),zeroD P E e t with
   | true,true,some zv=>k (some (.tup [])) [(id,some (.row e t (eC_ xs n.toNat zv) []))]
   | _,_,_=>none
  | _=>none
 | _,_=>none
theorem lClear_ok {T:tN} {x:tI} (ho:o.op = .call { callee := .builtin .clear,args := #[x],argTypes := #[T] }) (ZR:Fresh g nx) (hρ:OpR P E z g L ρ) (hH:HR P E Bs F0 w0 w z g H) (h:lClear P E L H T x k=some r):gF_ P E Bs F0 w0 w z g nx H ρ o false k r:=by
 unfold lClear at h;split at h
 .rename_i id lo e hx hu;split at h
  .rename_i e' t xs foc hi;split at h
   .rename_i zv hb ZI ZN;obtain rfl:=qNb hb;have ZF:=mM_ hu ZI;obtain⟨zs,ZO,ZL⟩:=zeroD_ok (z:=z) ZN;obtain⟨l,h1,ZQ,ev⟩:=hρ x _ hx;obtain⟨l2,rows,h3,hn,hc,O,y,Z,Y,_⟩:=hH.hold _ _ hi;rw[h1]at h3;obtain rfl:=qSj h3;obtain⟨r1,r2⟩:=run_clear (P:=P) (w:=w) ho ZF ZO ev
    -- the new elements
    have u:∀m,Rows E z t (List.replicate m zv) (List.replicate m zs):=λm i x r hx hr=>by
     obtain rfl:=jY (qw hx);obtain rfl:=jY (qw hr);exact ZL
    have ZS:∀v∈zs,v.oneCell'=true:=λv hv=>fb_ (((u 1).cells (by simp)).1 zs (by simp)) v hv
    have ZV:zs.length=E.size t:=((u 1).cells (by simp)).2 zs (by simp);have Zz:lo.toNat<=xs.length:=by omega
    have G:Rows E z t (eC_ xs lo.toNat zv) (rows.take lo.toNat++List.replicate (xs.length-lo.toNat) zs):=by
     unfold eC_;refine Rows.append ?_ (u _) (by rw[qA,qA,y,hn]);have:=eT_ Y 0 lo.toNat;simpa using this
    have ZW:(eC_ xs lo.toNat zv).length=xs.length:=by unfold eC_;simp;omega
    rcases O.2 with⟨hv,ZB⟩|⟨b,cap',cur,hv,ZG,hh,J,ZH,ZX,ZU⟩
    .
     injection hv with e1 e2 e3;have f:=r1 (.inr (by omega));refine⟨_,_,z,g,w,_,h,⟨f,⟨_,rfl,[],rfl,.nil⟩,Fz.Le.refl z,Ga.Le.refl g,ZR.succ,?_,λh=>by cases h⟩⟩;have ZM:xs=[]:=zI.1 (by omega);subst ZM;refine hH.turn (Ga.Le.refl g) (i:=id) (i':=id) (C:=λ_=>False) (λ_ h=>h.elim) (Grow.refl w) (λ_ _ _=>rfl) (o' := .row e' t (eC_ ([]:tL (Den E.S t)) lo.toNat zv) []) ?_ (λq s => ?_) λj p hj => ?_
     .refine⟨l,rows,h1,by rw[ZW];exact hn,hc,O,y,Z,?_,λp hp=>nomatch hp⟩;intro i x r hx hr;have:eC_ ([]:tL (Den E.S t)) lo.toNat zv=[]:=zI.1 ZW;rw[this]at hx;cases hx
     .obtain⟨l2,a2,F,V,rfl⟩:=s;rw[h1]at F;obtain rfl:=qSj F;rw[e1]at V;cases V
     .rcases bi_ hj with⟨rfl,rfl⟩|⟨F,V⟩
      .exact .inl ⟨rfl,rfl⟩
      .exact .inr ⟨F,.inl F,V⟩
    .injection hv with e1 _ e3;have ZC:l.n<=cap':=J
     -- the world behind it
     have ZP:∃w' cs,(execOp ρ o).run P w = .ok (.value (.tuple #[])) w'/\Grow w w'/\(∀q,q≠b->w'.heap[q]? = w.heap[q]?)/\w'.heap[b]? = some (.cells cs e' (0,0))/\cs.size=cap'*l.c /\
       cs.toList.take (l.n*l.c)=(rows.take lo.toNat++List.replicate (xs.length-lo.toNat) zs).flatten:=by
      have e5:(rows.take lo.toNat).flatten=rows.flatten.take (lo.toNat*l.c):=by
       have f1:rows.flatten=(rows.take lo.toNat).flatten++(rows.drop lo.toNat).flatten:=by rw[←zg,zj]
       have f2:(rows.take lo.toNat).flatten.length=lo.toNat*l.c:=by
        rw[av_ (c:=l.c) (λq s=>Z q (zK s)),qA,y]
        congr 1;omega
       rw[f1,List.take_left' f2]
      have hlc:lo.toNat*l.c<=l.n*l.c:=qu _ ZQ;have ZD:l.n*l.c<=cap'*l.c:=qu _ J;have ZE:(l.n-lo.toNat)*l.c=l.n*l.c-lo.toNat*l.c:=jv _ _ _;rcases Nat.eq_or_lt_of_le ZQ with ZJ|ZA
      .refine⟨w,cur,r1 (.inr (by omega)),Grow.refl w,λ_ _=>rfl,hh,ZX,?_⟩;rw[ZU,←hn,ZJ,jd];rw[qr (by omega)];simp
      .have hA:cutA l.A l.c lo.toNat l.cap=some ⟨b,lo.toNat*l.c,none⟩:=by
        unfold cutA;rw[qP (by omega),e1];simp[Addr.add_mk]
       have ZY:((List.replicate (l.n-lo.toNat) zs).flatten).length=(l.n-lo.toNat)*l.c:=by
        rw[av_ (c:=l.c) (λq s=>by rw[jY s,ZV,hc]),jT]
       have f:=r2 b (lo.toNat*l.c) cur hA hh (by rw[←hc,ZX];omega) ZS (by omega);rw[←hc]at f;have D:cur.toList.length=cap'*l.c:=by simpa using ZX
       refine⟨_,_,f,dn_ w b _,λq s=>cm_ w b q _ s,eG_ w b _ cur e' hh,?_,?_⟩
       .simp only[jA,qLa,qA,qC,ZY,D];omega
       .rw[zg,←hn,e5,←ZU];rw[zU (by simp only[qLa,qA,ZY,D];omega)];rw[List.take_take,ji hlc];rw[qr (by simp only[qLa,qA,ZY,D];omega)]
     obtain⟨w',cs,f,ZZ,ZT,ZK,U,M⟩:=ZP;refine⟨_,_,z,g,w',_,h,⟨f,⟨_,rfl,[],rfl,.nil⟩,Fz.Le.refl z,Ga.Le.refl g,ZR.succ,?_,λh=>by cases h⟩⟩;refine hH.turn (Ga.Le.refl g) (i:=id) (i':=id) (C:=bX_ l.A) (λq ⟨a,ha,s⟩=>⟨_,hi,l,a,h1,ha,s⟩) ZZ (λq _ s=>ZT q λe=>s ⟨_,e1,e⟩) (o' := .row e' t (eC_ xs lo.toNat zv) []) ?_ (λq s => ?_) λj p hj => ?_
     .refine⟨l,rows.take lo.toNat++List.replicate (xs.length-lo.toNat) zs,h1,by rw[ZW];exact hn,hc,⟨?_,.inr ⟨b,cap',cs,by rw[e1,e3],ZG,ZK,J,ZH,U,M⟩⟩,?_,λq s => ?_,G,λp hp=>nomatch hp⟩
      .rw[←M,qA,ji];rw[qq,U];exact qu _ J
      .simp;omega
      .rcases qF.1 s with s|s
       .exact Z q (zK s)
       .rw[jY s,ZV,hc]
     .obtain⟨l2,a2,F,V,rfl⟩:=s;rw[h1]at F;obtain rfl:=qSj F;exact .inl ⟨a2,V,rfl⟩
     .rcases bi_ hj with⟨rfl,rfl⟩|⟨F,V⟩
      .exact .inl ⟨rfl,rfl⟩
      .exact .inr ⟨F,.inl F,V⟩
   .cases h
  .cases h
 .cases h
end
def Tp(S:Nat->Type):tL Ty->Type | []=>Unit | [t]=>Den S t|t::u::ts=>Den S t×Tp S (u::ts)
def cG_{S:Nat->Type}:(ts:tL Ty)->HL S ts->Tp S ts | [],_=>() | [_],h=>h.1|_::u::ts,h=>(h.1,cG_ (u::ts) h.2)
def b6_{S:Nat->Type}:(ts:tL Ty)->Tp S ts->HL S ts | [],_=>() | [_],h=>(h,())|_::u::ts,h=>(h.1,b6_ (u::ts) h.2)
theorem ds_{S:Nat->Type}:∀(ts:tL Ty) (h:HL S ts),b6_ ts (cG_ ts h)=h
 | [],_=>rfl
 | [_],_=>rfl
 | t::u::ts,h=>by
  simp only[cG_,b6_];rw[ds_ (u::ts) h.2];rfl
abbrev Mk:=tL (tO tN)
inductive Pm where
 | d (t:Ty)
 | l (t:Ty) (m:Mk)
 | g (t:Ty) (m:Mk)
 | b (T:tN) (t:Ty)
 | bm (T:tN) (t:Ty) (m:Mk) (px:tV)
 | p (t:Ty)
 | mp (T:tN) (k v:Ty)
 | f1 (a r:Ty)
 | f2 (a b r:Ty)
@[reducible] def Pm.T (E:TE):Pm->Type
 | .d t=>Den E.S t
 | .l t _=>Den E.S t
 | .g t _=>Den E.S t
 | .b _ t=>Den E.S t
 | .bm _ t _ _=>Den E.S t
 | .p t=>Den E.S t
 | .mp _ k v=>tL (Den E.S k)×tL (Den E.S v)
 | .f1 x r=>Den E.S x->tO (Den E.S r)
 | .f2 x y r=>Den E.S x->Den E.S y->tO (Den E.S r)
def PA(E:TE):tL Pm->Type | []=>Unit|p::ps=>p.T E×PA E ps
def ba_:tL Pm->tL Ty | []=>[] | .l t _::ps=>t::ba_ ps | .b _ t::ps=>t::ba_ ps | .bm _ t _ _::ps=>t::ba_ ps | .mp _ k v::ps => .sl k :: .sl v::ba_ ps|_::ps=>ba_ ps
def dJ_(E:TE):(ps:tL Pm)->PA E ps->HL E.S (ba_ ps)->PA E ps | [],_,_=>() | .l _ _::ps,a,h=>(h.1,dJ_ E ps a.2 h.2) | .g _ _::ps,a,h=>(a.1,dJ_ E ps a.2 h) | .b _ _::ps,a,h=>(h.1,dJ_ E ps a.2 h.2) | .bm _ _ _ _::ps,a,h=>(h.1,dJ_ E ps a.2 h.2) | .mp _ _ _::ps,a,h=>((h.1,h.2.1),dJ_ E ps a.2 h.2.2) | .d _::ps,a,h=>(a.1,dJ_ E ps a.2 h) | .p _::ps,a,h=>(a.1,dJ_ E ps a.2 h) | .f1 _ _::ps,a,h=>(a.1,dJ_ E ps a.2 h) | .f2 _ _ _::ps,a,h=>(a.1,dJ_ E ps a.2 h)
abbrev Rs:=tL (Ty×Mk)
def Rs.ts:Rs->tL Ty | []=>[]|p::rs=>p.1::Rs.ts rs
def bM_(E:TE):Mk->(ts:tL Ty)->HL E.S ts->Nat->tL (SC E)|some _::ms,.sl _::ts,h,n => .own n::bM_ E ms ts h.2 (n+1)|none::ms,t::ts,h,n => .dt t h.1::bM_ E ms ts h.2 n|_,ts,h,_=>hlc E ts h
def bk_(E:TE):Mk->(ts:tL Ty)->HL E.S ts->Nat->Chs E|some e::ms,.sl t::ts,h,n=>(n,some (.row e t h.1 []))::bk_ E ms ts h.2 (n+1)|none::ms,_::ts,h,n=>bk_ E ms ts h.2 n|_,_,_,_=>[]
def aH_:Mk->tL Ty->Nat|some _::ms,.sl _::ts=>aH_ ms ts+1|none::ms,_::ts=>aH_ ms ts|_,_=>0
def asV(E:TE):(t:Ty)->tL (SC E)->tO (V1 E) | .st _,l=>some (.agg l)|_,[c]=>some (.one c)|_,_=>none
def ptrC(E:TE)(px:tV)(p:Nat):tL (SC E):=match px with|true=>[.ptr p 0]|false=>[]
def pxB(px:tV):tL Pm->tV | .bm _ _ _ _::_=>px | .b _ _::_=>px|_=>false
def dropP{α:Type}:tV->tL α->tO (tL α)|false,l=>some l|true,_::l=>some l|true,[]=>none
def b0_(E:TE):(ps:tL Pm)->PA E ps->Nat->tO (tL (V1 E))
 | [],_,_=>some []
 | .d t::ps,a,n=>match asV E t (E.cells t a.1),b0_ E ps a.2 n with
  | some v,some q=>some (v::q)
  | _,_=>none
 | .l t m::ps,a,n=>match asV E t (bM_ E m (E.flat t) (E.fl t a.1) n),b0_ E ps a.2 (n+aH_ m (E.flat t))with
  | some v,some q=>some (v::q)
  | _,_=>none
 | .g t m::ps,a,n=>match asV E t (bM_ E m (E.flat t) (E.fl t a.1) n),b0_ E ps a.2 (n+aH_ m (E.flat t))with
  | some v,some q=>some (v::q)
  | _,_=>none
 | .b _ _::ps,a,n=>match b0_ E ps a.2 (n+1)with
  | some q=>some (.one (.ptr n 0)::q)
  | none=>none
 | .bm _ t m px::ps,a,n=>match b0_ E ps a.2 (n+1+aH_ m (E.flat t))with
  | some q=>match dropP (pxB px ps) q with
   | some q=>some (.one (.ptr n 0)::q)
   | none=>none
  | none=>none
 | .mp _ _ _::ps,a,n=>match b0_ E ps a.2 (n+1)with
  | some q=>some (.one (.mp n)::q)
  | none=>none
 | .p t::ps,a,n=>match b0_ E ps a.2 n with
  | some q=>some (.one (.elf t a.1 0)::q)
  | none=>none
 | .f1 x r::ps,a,n=>match b0_ E ps a.2 n with
  | some q=>some (.one (.fn1 x r a.1)::q)
  | none=>none
 | .f2 x y r::ps,a,n=>match b0_ E ps a.2 n with
  | some q=>some (.one (.fn2 x y r a.1)::q)
  | none=>none
def bn_(E:TE):(ps:tL Pm)->PA E ps->Nat->Chs E | [],_,_=>[] | .l t m::ps,a,n=>bk_ E m (E.flat t) (E.fl t a.1) n++bn_ E ps a.2 (n+aH_ m (E.flat t)) | .g t m::ps,a,n=>bk_ E m (E.flat t) (E.fl t a.1) n++bn_ E ps a.2 (n+aH_ m (E.flat t)) | .b T t::ps,a,n=>(n,some (.box T (E.cells t a.1)))::bn_ E ps a.2 (n+1) | .bm T t m px::ps,a,n=>(n,some (.box T (ptrC E (pxB px ps) (n+1+aH_ m (E.flat t))++bM_ E m (E.flat t) (E.fl t a.1) (n+1))))::(bk_ E m (E.flat t) (E.fl t a.1) (n+1)++bn_ E ps a.2 (n+1+aH_ m (E.flat t))) | .mp T k v::ps,a,n=>(n,some (.map T k v a.1.1 a.1.2 []))::bn_ E ps a.2 (n+1) | .d _::ps,a,n=>bn_ E ps a.2 n | .p _::ps,a,n=>bn_ E ps a.2 n | .f1 _ _::ps,a,n=>bn_ E ps a.2 n | .f2 _ _ _::ps,a,n=>bn_ E ps a.2 n
def aY_(E:TE):(ps:tL Pm)->PA E ps->Nat->Nat->Chs E | [],_,_,_=>[] | .l t m::ps,a,n,k=>bk_ E m (E.flat t) (E.fl t a.1) n++aY_ E ps a.2 (n+aH_ m (E.flat t)) k | .g t m::ps,a,n,k=>aY_ E ps a.2 (n+aH_ m (E.flat t)) k | .b T t::ps,a,n,k=>(n,some (.box T (E.cells t a.1)))::aY_ E ps a.2 (n+1) k | .bm T t m px::ps,a,n,k=>(n,some (.box T (ptrC E (pxB px ps) (n+1+aH_ m (E.flat t))++bM_ E m (E.flat t) (E.fl t a.1) k)))::(bk_ E m (E.flat t) (E.fl t a.1) k++aY_ E ps a.2 (n+1+aH_ m (E.flat t)) (k+aH_ m (E.flat t))) | .mp T kt v::ps,a,n,k=>(n,some (.map T kt v a.1.1 a.1.2 []))::aY_ E ps a.2 (n+1) k | .d _::ps,a,n,k=>aY_ E ps a.2 n k | .p _::ps,a,n,k=>aY_ E ps a.2 n k | .f1 _ _::ps,a,n,k=>aY_ E ps a.2 n k | .f2 _ _ _::ps,a,n,k=>aY_ E ps a.2 n k
def di_(E:TE):tL Pm->Nat | []=>0 | .bm _ t m _::ps=>aH_ m (E.flat t)+di_ E ps|_::ps=>di_ E ps
def ao_(E:TE):tL Pm->Nat | []=>0 | .l t m::ps=>aH_ m (E.flat t)+ao_ E ps | .g t m::ps=>aH_ m (E.flat t)+ao_ E ps | .b _ _::ps=>1+ao_ E ps | .bm _ t m _::ps=>1+aH_ m (E.flat t)+ao_ E ps | .mp _ _ _::ps=>1+ao_ E ps|_::ps=>ao_ E ps
def cH_(E:TE):Rs->Nat | []=>0|p::rs=>aH_ p.2 (E.flat p.1)+cH_ E rs
def resV(E:TE):(rs:Rs)->HL E.S rs.ts->Nat->tO (tL (V1 E))
 | [],_,_=>some []
 | (t,m)::rs,h,n=>match asV E t (bM_ E m (E.flat t) (E.fl t h.1) n),resV E rs h.2 (n+aH_ m (E.flat t))with
  | some v,some q=>some (v::q)
  | _,_=>none
def cY_(E:TE):(rs:Rs)->HL E.S rs.ts->Nat->Chs E | [],_,_=>[]|(t,m)::rs,h,n=>bk_ E m (E.flat t) (E.fl t h.1) n++cY_ E rs h.2 (n+aH_ m (E.flat t))
def oneV(E:TE):tL (V1 E)->SV E | [x] => .v x|l => .tup l
abbrev InlF(E:TE):=(Nat->tO (Obj E))->Nat->tL (V1 E)->(R:Type)->(tO (SV E)->Chs E->tO R)->tO R
def kE_:tL Pm->tV | []=>false | .l _ _::_=>true | .g _ _::_=>true | .b _ _::_=>true | .bm _ _ _ _::_=>true | .mp _ _ _::_=>true|_::ps=>kE_ ps
structure Con(E:TE) where
 ps:tL Pm
 rs:Rs
 ali:tV
 F:(R:Type)->PA E ps->(HL E.S rs.ts->HL E.S (ba_ ps)->tO R)->tO R
 I:tO (InlF E)
def CallOK(P:tT)(E:TE)(f:FuncId)(ps:tL Pm)(rs:Rs)(ali:tV)(a:PA E ps)(rh:HL E.S rs.ts)(bh:HL E.S (ba_ ps)):Prop :=
 ∀ (w:tS) (z:Fz) (g:Ga) (Bs:tL Nat) (svs:tL (V1 E)) (vs:tL tW),b0_ E ps a 0=some svs->HR P E Bs z.F w w z g (upH (λ_=>none) (bn_ E ps a 0))->Fresh g (ao_ E ps)->All2 (R1 P E z g) svs vs ->
  Ret P f vs.toArray w λv w'=>∃z' g' svr,z.Le z'/\(ali=false->z'=z)/\g.Le g'/\resV E rs rh (ao_ E ps)=some svr/\RV P E z' g' (oneV E svr) v /\
   HR P E Bs z.F w w' z' g' (upH (λ_=>none) (cY_ E rs rh (ao_ E ps)++aY_ E ps (dJ_ E ps a bh) 0 (ao_ E ps+cH_ E rs)))
def Con.OK(P:tT)(E:TE)(f:FuncId)(C:Con E):Prop:=∀(R:Type) (a:PA E C.ps) (k:HL E.S C.rs.ts->HL E.S (ba_ C.ps)->tO R) (r:R),C.F R a k=some r->∃rh bh,k rh bh=some r/\CallOK P E f C.ps C.rs C.ali a rh bh
section
variable{P:tT}{E:TE}{z z':Fz}{g g':Ga}{nx:Nat}{w w' w0:tS}{H H':Nat->tO (Obj E)}{Bs:tL Nat}{F0:Nat->Prop}
def SC.ren(s:Nat->Nat):SC E->SC E | .own id => .own (s id) | .ptr id off => .ptr (s id) off|c=>c
def Obj.ren(s:Nat->Nat):Obj E->Obj E | .box T cs => .box T (cs.map (SC.ren s))|o=>o
def V1.cs:V1 E->tL (SC E) | .one c=>[c] | .agg l=>l
def V1.fits:Ty->V1 E->tV | .st _,.agg _=>true | .st _,.one _=>false|_,.one _=>true|_,.agg _=>false
def takeD(E:TE)(H:Nat->tO (Obj E))(t:Ty)(x:V1 E):tO (Den E.S t):=match V1.fits t x,cf_ E H (E.flat t) x.cs with|true,some h=>some (E.ufl t h)|_,_=>none
theorem asV_ok{t:Ty}{x:V1 E}{l:tL (SC E)}{v:tW}(j:V1.fits t x=true)(p:l.length=x.cs.length)(hr:R1 P E z g x v)(f:∀vs,All2 (RC P E z g) x.cs vs->All2 (RC P E z' g') l vs) :
  ∃y,asV E t l=some y/\R1 P E z' g' y v:=by
 cases x with
 | one c =>
  obtain⟨d,rfl⟩:∃d,l=[d]:=by
   match l,p with
   | [d],_=>exact⟨d,rfl⟩
  have h:=f [v] (.cons hr .nil);cases h with
  | cons h _ =>
   cases t with
   | st n=>cases j
   | _=>exact⟨_,rfl,h⟩
 | agg m =>
  obtain⟨vs,rfl,hr⟩:=hr;cases t with
  | st n=>exact⟨_,rfl,vs,rfl,f vs hr⟩
  | _=>cases j
theorem oA_:∀{ts:tL Ty} {cs:tL (SC E)} {h:HL E.S ts},cf_ E H ts cs=some h->cs.length=ts.length
 | [],[],_,_=>rfl
 | t::ts,c::cs,h,e=>by
  simp only[cf_]at e;split at e
  .cases e
  .split at e
   .rename_i f;simp[oA_ f]
   .cases e
 | [],c::cs,_,e=>by simp[cf_]at e
 | t::ts,[],_,e=>by simp[cf_]at e
theorem hlc_len:∀(ts:tL Ty) (h:HL E.S ts),(hlc E ts h).length=ts.length
 | [],_=>rfl
 | _::ts,h=>by simp[hlc,hlc_len ts h.2]
theorem takeD_ok{t:Ty}{x:V1 E}{d:Den E.S t}{v:tW}(q:HR P E Bs F0 w0 w z g H)(h:takeD E H t x=some d)(hr:R1 P E z g x v)(g':Ga):∃y,asV E t (E.cells t d)=some y/\R1 P E z g' y v:=by
 unfold takeD at h;split at h
 .rename_i s p j;obtain rfl:=qSj h;refine asV_ok p ?_ hr λvs f => ?_
  .unfold TE.cells;rw[hlc_len,oA_ j]
  .refine cells_rd.1 ?_;rw[E.fl_ufl];exact el_ q j f
 .cases h
def b9_ (E:TE) (H:Nat->tO (Obj E)):Mk->(ts:tL Ty)->tL (SC E)->tO (HL E.S ts×tL Nat)
 | some e::ms,.sl t::ts,.own id::cs=>match H id with
  | some (.row p f xs _)=>if j:f=t then match Nat.beq e p,b9_ E H ms ts cs with
    | true,some q=>some ((dV_ j xs,q.1),id::q.2)
    | _,_=>none
   else none
  | _=>none
 | none::ms,t::ts,c::cs=>match c.data H t,b9_ E H ms ts cs with
  | some x,some q=>some ((x,q.1),q.2)
  | _,_=>none
 | [],ts,cs=>match cf_ E H ts cs with
  | some h=>some (h,[])
  | none=>none
 | _,_,_=>none
def gf_ (E:TE) (H:Nat->tO (Obj E)):(ps:tL Pm)->tL Nat->tO (PA E ps)
 | [],[]=>some ()
 | .p t::ps,id::ids=>match H id with
  | some (.fb f x)=>if h:f=t then match gf_ E H ps ids with
    | some a=>some (h▸x,a)
    | none=>none
   else none
  | _=>none
 | _,_=>none
abbrev Tab(E:TE):=FuncId->tO (Con E)
def res1{E:TE}{rs:Rs}{t:Ty}(h:rs=[(t,[])])(x:HL E.S rs.ts):Den E.S t:=by subst h;exact x.1
def takeF1(E:TE)(tab:Tab E)(H:Nat->tO (Obj E))(x r:Ty):SC E->tO (Den E.S x->tO (Den E.S r))
 | .fn1 j r' f=>if h:j=x/\r'=r then some (h.1▸h.2▸f)else none
 | .clo f ids=>match tab f with
  | some C=>match p:C.ps with
   | .d j::ps=>if q:j=x then if hr:C.rs=[(r,[])]then match r.flatB && !C.ali,gf_ E H ps ids with
      | true,some caps=>some λy=>C.F (Den E.S r) (p▸((q▸y,caps):PA E (.d j::ps))) λrh _=>some (res1 hr rh)
      | _,_=>none
     else none else none
   | _=>none
  | none=>none
 | _=>none
def takeF2(E:TE)(tab:Tab E)(H:Nat->tO (Obj E))(x y r:Ty):SC E->tO (Den E.S x->Den E.S y->tO (Den E.S r))
 | .fn2 p j r' f=>if h:p=x/\j=y/\r'=r then some (h.1▸h.2.1▸h.2.2▸f)else none
 | .clo f ids=>match tab f with
  | some C=>match q:C.ps with
   | .d p :: .d j::ps=>if D:p=x then if s:j=y then if hr:C.rs=[(r,[])]then match r.flatB && !C.ali,gf_ E H ps ids with
      | true,some caps=>some λu v=>C.F (Den E.S r) (q▸((D▸u,s▸v,caps):PA E (.d p :: .d j::ps))) λrh _=>some (res1 hr rh)
      | _,_=>none
     else none else none else none
   | _=>none
  | none=>none
 | _=>none
def iI_:tV->tL (SC E)->tO (tL (SC E)×tL (V1 E))|false,cs=>some (cs,[])|true,.ptr id 0::cs=>some (cs,[.one (.ptr id 0)])|true,_=>none
def hidB:tL (V1 E)->tL Nat->tV | [],_=>true | [.one (.ptr id _)],i::_=>Nat.beq i id|_,_=>false
def takeA (E:TE) (tab:Tab E) (H:Nat->tO (Obj E)):(ps:tL Pm)->tL (V1 E)->tO (PA E ps×tL Nat)
 | [],[]=>some ((),[])
 | .d t::ps,x::xs=>match takeD E H t x,takeA E tab H ps xs with
  | some d,some q=>some ((d,q.1),q.2)
  | _,_=>none
 | .l t m::ps,x::xs=>match V1.fits t x,b9_ E H m (E.flat t) x.cs,takeA E tab H ps xs with
  | true,some d,some q=>some ((E.ufl t d.1,q.1),d.2++q.2)
  | _,_,_=>none
 | .g t m::ps,x::xs=>match V1.fits t x,b9_ E H m (E.flat t) x.cs,takeA E tab H ps xs with
  | true,some d,some q=>some ((E.ufl t d.1,q.1),d.2++q.2)
  | _,_,_=>none
 | .b T t::ps,.one (.ptr id 0)::xs=>match H id,takeA E tab H ps xs with
  | some (.box T' cs),some q=>match Nat.beq T T',cf_ E H (E.flat t) cs with
   | true,some h=>some ((E.ufl t h,q.1),id::q.2)
   | _,_=>none
  | _,_=>none
 | .bm T t m px::ps,.one (.ptr id 0)::xs=>match H id with
  | some (.box T' C)=>match iI_ (pxB px ps) C with
   | some (cs,s)=>match takeA E tab H ps (s++xs)with
    | some q=>match Nat.beq T T'&&hidB s q.2,b9_ E H m (E.flat t) cs with
     | true,some d=>some ((E.ufl t d.1,q.1),id::(d.2++q.2))
     | _,_=>none
    | none=>none
   | none=>none
  | _=>none
 | .mp T k v::ps,.one (.mp id)::xs=>match H id,takeA E tab H ps xs with
  | some (.map T' G D F vs _),some q=>if j:G=k/\D=v then match Nat.beq T T' with
    | true=>some (((dV_ j.1 F,dV_ j.2 vs),q.1),id::q.2)
    | false=>none
   else none
  | _,_=>none
 | .p t::ps,.one (.elf u x 0)::xs=>if j:u=t then match takeA E tab H ps xs with
   | some q=>some ((j▸x,q.1),q.2)
   | none=>none
  else none
 | .p t::ps,.one (.ptr id 0)::xs=>match H id with
  | some (.fb u x)=>if j:u=t then match takeA E tab H ps xs with
    | some q=>some ((j▸x,q.1),q.2)
    | none=>none
   else none
  | _=>none
 | .f1 x r::ps,.one c::xs=>match takeF1 E tab H x r c,takeA E tab H ps xs with
  | some f,some q=>some ((f,q.1),q.2)
  | _,_=>none
 | .f2 x y r::ps,.one c::xs=>match takeF2 E tab H x y r c,takeA E tab H ps xs with
  | some f,some q=>some ((f,q.1),q.2)
  | _,_=>none
 | _,_=>none
def gOf(g:Ga)(I:tL Nat):Ga:=λi=>match I[i]? with|some id=>g id|none=>none
def Cor(E:TE)(H:Nat->tO (Obj E))(I:tL Nat):Obj E->Obj E->Prop | .row e t xs _,o=>o = .row e t xs [] | .map T k v q vs _,o=>o = .map T k v q vs [] | .box T h,o=>∃(px:tV) (cs:tL (SC E)) (f:tL (V1 E)) (p:Nat) (t:Ty) (m:Mk) (d:HL E.S (E.flat t)×tL Nat) (k:Nat),iI_ px h=some (cs,f)/\(∀id o,f=[.one (.ptr id o)]->I[p]? = some id)/\b9_ E H m (E.flat t) cs=some d/\o = .box T (ptrC E px p++bM_ E m (E.flat t) d.1 k)/\∀j id,d.2[j]? = some id->I[k+j]? = some id|_,_=>False
theorem lt_ {I:tL Nat} {m:Mk}:∀{ts:tL Ty} {cs:tL (SC E)} {q:HL E.S ts×tL Nat} {n:Nat},b9_ E H m ts cs=some q->(∀j id,q.2[j]? = some id->I[n+j]? = some id) ->
  (∀i o,(i,o)∈bk_ E m ts q.1 n->∃id u o2,I[i]? = some id/\H id=some u/\o=some o2/\Cor E H I u o2)/\q.2.length=aH_ m ts:=by
 induction m with
 | nil =>
  intro ts cs q n h p;simp only[b9_]at h;split at h
  .obtain rfl:=qSj h;refine⟨λi o f => ?_,?_⟩
   .cases ts<;>simp[bk_]at f
   .cases ts<;>simp[aH_]
  .cases h
 | cons a m y =>
  intro ts cs q n h p;cases ts with
  | nil=>cases a<;>simp[b9_]at h
  | cons t ts =>
   cases a with
   | none =>
    cases cs with
    | nil=>simp[b9_]at h
    | cons c cs =>
     simp only[b9_]at h;split at h
     .rename_i x D _ s;obtain rfl:=qSj h;simp only[bk_,aH_];exact y s p
     .cases h
   | some e =>
    cases t with
    | sl t =>
     cases cs with
     | nil=>simp[b9_]at h
     | cons c cs =>
      cases c with
      | own id =>
       simp only[b9_]at h;split at h
       .rename_i O M xs foc hi;split at h
        .rename_i F;subst F;split at h
         .rename_i D J s;obtain rfl:=qSj h;obtain rfl:=qNb J;have C:=y (n:=n+1) s λj id' G=>by
           have:=p (j+1) id' (by simpa using G)
           rwa [show n+1+j=n+(j+1)by omega]
          refine⟨λi o f => ?_,by simp[aH_,C.2]⟩;simp only[bk_,qD]at f;rcases f with f|f
          .simp only[qg]at f;obtain⟨rfl,rfl⟩:=f;exact⟨id,_,_,by simpa using p 0 id (by simp),hi,rfl,rfl⟩
          .exact C.1 i o f
         .cases h
        .cases h
       .cases h
      | _=>simp[b9_]at h
    | _=>cases cs<;>simp[b9_]at h
theorem kb_ {I:tL Nat} {m:Mk} (O:HR P E Bs F0 w0 w z g H):∀{ts:tL Ty} {cs:tL (SC E)} {q:HL E.S ts×tL Nat} {n:Nat} {vs:tL tW},b9_ E H m ts cs=some q->(∀j id,q.2[j]? = some id->I[n+j]? = some id) ->
  All2 (RC P E z g) cs vs->All2 (RC P E z (gOf g I)) (bM_ E m ts q.1 n) vs/\cs.length=ts.length/\(bM_ E m ts q.1 n).length=ts.length:=by
 induction m with
 | nil =>
  intro ts cs q n vs h p f;simp only[b9_]at h;split at h
  .rename_i u M;obtain rfl:=qSj h;have e:bM_ E ([]:Mk) ts u n=hlc E ts u:=by cases ts<;>rfl
   rw[e];exact⟨hlc_rd.1 (el_ O M f),oA_ M,hlc_len ts u⟩
  .cases h
 | cons a m J =>
  intro ts cs q n vs h p f;cases ts with
  | nil=>cases a<;>simp[b9_]at h
  | cons t ts =>
   cases a with
   | none =>
    cases cs with
    | nil=>simp[b9_]at h
    | cons c cs =>
     simp only[b9_]at h;split at h
     .rename_i x U V s;obtain rfl:=qSj h;cases f with
      | cons G F =>
       obtain⟨D,C,y⟩:=J s p F;simp only[bM_];exact⟨.cons (SC.data_ok O V G) D,by simp[C],by simp[y]⟩
     .cases h
   | some e =>
    cases t with
    | sl t =>
     cases cs with
     | nil=>simp[b9_]at h
     | cons c cs =>
      cases c with
      | own id =>
       simp only[b9_]at h;split at h
       .rename_i e' t' xs foc hi;split at h
        .rename_i Y;subst Y;split at h
         .rename_i U hb s;obtain rfl:=qSj h;cases f with
          | cons G F =>
           obtain⟨D,C,y⟩:=J (n:=n+1) s (λj id' Z=>by
            have:=p (j+1) id' (by simpa using Z)
            rwa [show n+1+j=n+(j+1)by omega]) F
           simp only[bM_];have h0:I[n]? = some id:=by simpa using p 0 id (by simp)
           obtain⟨l,h6,h7⟩:=G;exact⟨.cons ⟨l,by unfold gOf;rw[h0];exact h6,h7⟩ D,by simp[C],by simp[y]⟩
         .cases h
        .cases h
       .cases h
      | _=>simp[b9_]at h
    | _=>cases cs<;>simp[b9_]at h
theorem qk_(F:HR P E Bs F0 w0 w z g H)(s:z.Le z')(g':Ga):∀{ps:tL Pm} {ids:tL Nat} {a:PA E ps} {f:tL tW} {n:Nat},gf_ E H ps ids=some a->All2 (λid u=>∃l,g id=some l/\u=Value.pointer (some ⟨l.b,0,none⟩)) ids f ->
  (∃svs,b0_ E ps a n=some svs/\All2 (R1 P E z' g') svs f)/\bn_ E ps a n=[]/\ao_ E ps=0
 | [],[],a,f,n,h,q=>by
  cases q
  exact⟨⟨[],rfl,.nil⟩,rfl,rfl⟩
 | .p t::ps,id::ids,a,f,n,h,q=>by
  simp only[gf_]at h;split at h
  .rename_i M x hi;split at h
   .rename_i O;subst O;split at h
    .rename_i a' V;obtain rfl:=qSj h;cases q with
     | cons h1 h2 =>
      obtain⟨⟨svs,h3,h4⟩,h5,Z⟩:=qk_ F s g' (n:=n) V h2;obtain⟨l,Y,rfl⟩:=h1;obtain⟨l',r,J,G,D,C⟩:=F.hold _ _ hi;rw[Y]at J;obtain rfl:=qSj J;refine⟨⟨.one (.elf M x 0)::svs,by simp only[b0_,h3],.cons ⟨l.b,0,r,rfl,(s _ G).1,D.le s,λj u U => ?_⟩ h4⟩,h5,Z⟩;rw[qh,World.cell?_of_block (w:=z.w) (s _ G).2];exact C j u U
    .cases h
   .cases h
  .cases h
 | [],id::ids,a,f,n,h,q=>by simp[gf_]at h
 | .p t::ps,[],a,f,n,h,q=>by simp[gf_]at h
 | .d t::ps,ids,a,f,n,h,q=>by simp[gf_]at h
 | .l t m::ps,ids,a,f,n,h,q=>by simp[gf_]at h
 | .g t m::ps,ids,a,f,n,h,q=>by simp[gf_]at h
 | .b T t::ps,ids,a,f,n,h,q=>by simp[gf_]at h
 | .mp T k v::ps,ids,a,f,n,h,q=>by simp[gf_]at h
 | .f1 x r::ps,ids,a,f,n,h,q=>by simp[gf_]at h
 | .f2 x y r::ps,ids,a,f,n,h,q=>by simp[gf_]at h
theorem HR.nothing{z:Fz}{w:tS}(f:z.In w)(j:Glo E z)(g:Ga):HR P E [] z.F w w z g (λ_=>none) :=
 ⟨Chg.of_below (Below.refl _ _),(λ_ _ h=>by cases h),(λ_ _ _ h=>by cases h),(λ_ _ _ _ _ _ h=>by cases h),f,(λ_ h => .inl h),(λ_ _ _ h=>by cases h),j⟩
def nxU(nx:Nat):Chs E->Nat
 | []=>nx+1
 | (i,none)::l=>match Nat.ble (nx+1+(l.length+1)) (i+1)with
  | true=>i+1
  | false=>nx+1+(l.length+1)
 | (_,some _)::l=>nx+1+(l.length+1)
theorem lu_(nx:Nat)(u:Chs E):nx+1+u.length<=nxU nx u:=by
 unfold nxU;split
 .exact qE _
 .split
  .rename_i f;exact zD f
  .exact qE _
 .exact qE _
theorem Fresh.nxU{g:Ga}{nx:Nat}{u:Chs E}(h:Fresh g (nx+1+u.length)):Fresh g (nxU nx u):=λi hi=>h i (zQ (lu_ nx u) hi)
def kF_(P:tT)(E:TE)(f:FuncId)(I:InlF E):Prop :=
 ∀{z:Fz} {g:Ga} {nx:Nat} {H:Nat->tO (Obj E)} {xs:tL (V1 E)} {vs:tL tW} {R:Type} {k:tO (SV E)->Chs E->tO R} {r:R} {Bs:tL Nat} {F0:Nat->Prop} {w0 w:tS},Fresh g nx->HR P E Bs F0 w0 w z g H->All2 (R1 P E z g) xs vs->I H nx xs R k=some r ->
  Ret P f vs.toArray w λv w'=>∃s u z2 h,k (some s) u=some r/\z.Le z2/\g.Le h/\Fresh h (nxU nx u)/\RV P E z2 h s v/\HR P E Bs F0 w0 w' z2 h (upH H u)
def Tab.OK(P:tT)(E:TE)(tab:Tab E):Prop:=∀f C,tab f=some C->C.OK P E f/\c3_ P f=true/\∀I,C.I=some I->kE_ C.ps=true/\kF_ P E f I
theorem mT_{t:Ty}{x:Den E.S t}{v:tW}(h:RT E z t x v)(g:Ga):∃y,asV E t (E.cells t x)=some y/\R1 P E z g y v:=by
 cases t with
 | st n =>
  obtain⟨vs,rfl,h⟩:=h;exact⟨_,rfl,vs,rfl,cells_rd (t := .st n).1 h⟩
 | int k=>exact⟨_,rfl,h⟩
 | bool=>exact⟨_,rfl,h⟩
 | str=>exact⟨_,rfl,h⟩
 | sl e=>exact⟨_,rfl,h⟩
theorem call_flat{f:FuncId}{ps:tL Pm}{r:Ty}{a:PA E ps}{rh:HL E.S (Rs.ts [(r,[])])}{bh:HL E.S (ba_ ps)}{svs:tL (V1 E)}{vs:tL tW}(hr:r.flatB=true)(M:CallOK P E f ps [(r,[])] false a rh bh)(C:z.In w)(x:Glo E z)
  (F:b0_ E ps a 0=some svs) (G:bn_ E ps a 0=[]) (D:All2 (R1 P E z λ_=>none) svs vs) :
  Ret P f vs.toArray w λu w'=>RD E z [r] (rh.1,()) [u]/\Ext w w':=by
 have h:=M w z (λ_ => .none) [] svs vs F (by rw[G];exact HR.nothing C x _) (λ_ _=>rfl) D;refine h.mono λu w' ⟨z',g',svr,J,q,_,j,s,y⟩ => ?_
 obtain rfl:=q rfl;refine⟨?_,Ext.of_below y.chg.below⟩;have p:svr=[.one (.dt r rh.1)]:=by
  cases r with
  | int k=>simp[resV,bM_,TE.flat,TE.fl,hlc,asV]at j;exact j.symm
  | bool=>simp[resV,bM_,TE.flat,TE.fl,hlc,asV]at j;exact j.symm
  | str=>simp[resV,bM_,TE.flat,TE.fl,hlc,asV]at j;exact j.symm
  | sl e=>cases hr
  | st n=>cases hr
 subst p;exact s
theorem takeF1_ok{tab:Tab E}(ht:tab.OK P E){x r:Ty}{c:SC E}{f:Den E.S x->tO (Den E.S r)}{v:tW}(hH:HR P E Bs F0 w0 w z g H)(h:takeF1 E tab H x r c=some f)(hr:RC P E z g c v):FnOK P E z v [x] r λh=>f h.1:=by
 unfold takeF1 at h;split at h
 .split at h
  .rename_i U;obtain⟨rfl,rfl⟩:=U;obtain rfl:=qSj h;exact hr
  .cases h
 .rename_i fid ids;split at h
  .rename_i C hC;obtain⟨Y,q,_⟩:=ht fid C hC;obtain⟨ps,rs,ali,F,I⟩:=C;split at h
   .rename_i x' ps' J;simp only at J;subst J;split at h
    .rename_i U;subst U;split at h
     .rename_i G;simp only at G;subst G;split at h
      .rename_i caps hb j;simp only[qAn,qo]at hb;obtain⟨M,rfl⟩:=hb;obtain rfl:=qSj h;obtain⟨O,rfl,V⟩:=hr;refine⟨fid,O.toArray,rfl,⟨q,M⟩,λw1 z1 hh y args D Z s hF => ?_⟩;obtain⟨rh,bh,hk,p⟩:=Y _ _ _ _ hF;obtain⟨u,ZZ,rfl,h1,h2⟩:=s;simp only[RTs]at h2;subst h2;obtain⟨⟨svs,h3,h4⟩,h5,h6⟩:=qk_ (P:=P) hH D (λ_ => .none) (n:=0) j V;obtain⟨sv,h7,h8⟩:=mT_ (P:=P) h1 (λ_ => .none);have:=call_flat M p Z (hH.gl.le D) (svs:=sv::svs) (vs:=u::O) (by simp only[b0_,h7,h3]) h5 (.cons h8 h4);have e:(#[u]++O.toArray:Array tW)=(u::O).toArray:=by simp
       have hy:rh.1=y:=by simpa[res1]using hk
       rw[show[u].toArray = #[u]from rfl,e,←hy];exact this
      .cases h
     .cases h
    .cases h
   .cases h
  .cases h
 .cases h
theorem takeF2_ok {tab:Tab E} (ht:tab.OK P E) {x y r:Ty} {c:SC E} {f:Den E.S x->Den E.S y->tO (Den E.S r)} {v:tW} (hH:HR P E Bs F0 w0 w z g H) (h:takeF2 E tab H x y r c=some f) (hr:RC P E z g c v):FnOK P E z v [x,y] r λh=>f h.1 h.2.1:=by
 unfold takeF2 at h;split at h
 .split at h
  .rename_i Z;obtain⟨rfl,rfl,rfl⟩:=Z;obtain rfl:=qSj h;exact hr
  .cases h
 .rename_i fid ids;split at h
  .rename_i C hC;obtain⟨ZY,q,_⟩:=ht fid C hC;obtain⟨ps,rs,ali,F,I⟩:=C;split at h
   .rename_i x' y' ps' J;simp only at J;subst J;split at h
    .rename_i Z;subst Z;split at h
     .rename_i Y;subst Y;split at h
      .rename_i G;simp only at G;subst G;split at h
       .rename_i caps hb j;simp only[qAn,qo]at hb;obtain⟨M,rfl⟩:=hb;obtain rfl:=qSj h;obtain⟨U,rfl,ZZ⟩:=hr;refine⟨fid,U.toArray,rfl,⟨q,M⟩,λw1 z1 hh y args D ZX s hF => ?_⟩;obtain⟨rh,bh,hk,p⟩:=ZY _ _ _ _ hF;obtain⟨u,ZU,rfl,h1,h2⟩:=s;obtain⟨v2,ZV,rfl,h2,O⟩:=h2;simp only[RTs]at O;subst O;obtain⟨⟨svs,h3,h4⟩,h5,h6⟩:=qk_ (P:=P) hH D (λ_ => .none) (n:=0) j ZZ;obtain⟨sv,h7,h8⟩:=mT_ (P:=P) h1 (λ_ => .none);obtain⟨V,h9,ZW⟩:=mT_ (P:=P) h2 (λ_ => .none);have:=call_flat M p ZX (hH.gl.le D) (svs:=sv::V::svs) (vs:=u::v2::U) (by simp only[b0_,h7,h3,h9]) h5 (.cons h8 (.cons ZW h4));have e:(#[u,v2]++U.toArray:Array tW)=(u::v2::U).toArray:=by simp
        have Y:rh.1=y:=by simpa[res1]using hk
        rw[show[u,v2].toArray = #[u,v2]from rfl,e,←Y];exact this
       .cases h
      .cases h
     .cases h
    .cases h
   .cases h
  .cases h
 .cases h
end
end Rt
end Go
