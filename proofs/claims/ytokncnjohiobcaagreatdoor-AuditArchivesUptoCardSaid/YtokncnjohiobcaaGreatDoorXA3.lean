/-
 What the statements of this seat hang on,part 3: Ri Rj Rk Rl Rm Rn Rw Ro Rr Dr Rp.
-/
import Derived.Test.YtokncnjohiobcaaGreatDoorXA2
namespace Go
namespace Rt
open Go.RowKit
def Tp(S:Nat->Type):tL Ty->Type|[]=>Unit|[t]=>Den S t|t::u::ts=>Den S t×Tp S (u::ts)
def ci_{S:Nat->Type}:(ts:tL Ty)->HL S ts->Tp S ts|[],_=>()|[_],h=>h.1|_::u::ts,h=>(h.1,ci_ (u::ts) h.2)
def bs_{S:Nat->Type}:(ts:tL Ty)->Tp S ts->HL S ts|[],_=>()|[_],h=>(h,())|_::u::ts,h=>(h.1,bs_ (u::ts) h.2)
theorem db_{S:Nat->Type}:∀(ts:tL Ty) (h:HL S ts),bs_ ts (ci_ ts h)=h
 | [],_=>rfl
 | [_],_=>rfl
 | t::u::ts,h=>by
  simp only[ci_,bs_];rw[db_ (u::ts) h.2];rfl
abbrev Mk:=tL (tO tA)
inductive Pm where
 | d (t:Ty)
 | l (t:Ty) (m:Mk)
 | g (t:Ty) (m:Mk)
 | b (T:tA) (t:Ty)
 | bm (T:tA) (t:Ty) (m:Mk) (px:tV)
 | p (t:Ty)
 | mp (T:tA) (k v:Ty)
 | f1 (a r:Ty)
 | f2 (a b r:Ty)
@[reducible] def Pm.T (E:TE):Pm->Type
 | .d t=>Den E.S t
 | .l t _=>Den E.S t
 | .g t _=>Den E.S t
 | .b _ t=>Den E.S t
 | .bm _ t _ _=>Den E.S t
 | .p t=>Den E.S t
 | .mp _ k v=>tL (Den E.S k)×tL (Den E.S v)
 | .f1 x r=>Den E.S x->tO (Den E.S r)
 | .f2 x y r=>Den E.S x->Den E.S y->tO (Den E.S r)
def PA(E:TE):tL Pm->Type|[]=>Unit|p::ps=>p.T E×PA E ps
def aI_:tL Pm->tL Ty|[]=>[]|.l t _::ps=>t::aI_ ps|.b _ t::ps=>t::aI_ ps|.bm _ t _ _::ps=>t::aI_ ps|.mp _ k v::ps=>.sl k :: .sl v::aI_ ps|_::ps=>aI_ ps
def dE_(E:TE):(ps:tL Pm)->PA E ps->HL E.S (aI_ ps)->PA E ps|[],_,_=>()|.l _ _::ps,a,h=>(h.1,dE_ E ps a.2 h.2)|.g _ _::ps,a,h=>(a.1,dE_ E ps a.2 h)|.b _ _::ps,a,h=>(h.1,dE_ E ps a.2 h.2)|.bm _ _ _ _::ps,a,h=>(h.1,dE_ E ps a.2 h.2)|.mp _ _ _::ps,a,h=>((h.1,h.2.1),dE_ E ps a.2 h.2.2)|.d _::ps,a,h=>(a.1,dE_ E ps a.2 h)|.p _::ps,a,h=>(a.1,dE_ E ps a.2 h)|.f1 _ _::ps,a,h=>(a.1,dE_ E ps a.2 h)|.f2 _ _ _::ps,a,h=>(a.1,dE_ E ps a.2 h)
abbrev Rs:=tL (Ty×Mk)
def Rs.ts:Rs->tL Ty|[]=>[]|p::rs=>p.1::Rs.ts rs
def bp_(E:TE):Mk->(ts:tL Ty)->HL E.S ts->Nat->tL (SC E)|some _::f,.sl _::ts,h,n=>.own n::bp_ E f ts h.2 (n+1)|none::f,t::ts,h,n=>.dt t h.1::bp_ E f ts h.2 n|_,ts,h,_=>hlc E ts h
def aT_(E:TE):Mk->(ts:tL Ty)->HL E.S ts->Nat->Chs E|some e::f,.sl t::ts,h,n=>(n,some (.row e t h.1 []))::aT_ E f ts h.2 (n+1)|none::f,_::ts,h,n=>aT_ E f ts h.2 n|_,_,_,_=>[]
def aC_:Mk->tL Ty->Nat|some _::f,.sl _::ts=>aC_ f ts+1|none::f,_::ts=>aC_ f ts|_,_=>0
def asV(E:TE):(t:Ty)->tL (SC E)->tO (V1 E)|.st _,l=>some (.agg l)|_,[c]=>some (.one c)|_,_=>none
def ptrC(E:TE)(px:tV)(p:Nat):tL (SC E):=match px with|true=>[.ptr p 0]|false=>[]
def pxB(px:tV):tL Pm->tV|.bm _ _ _ _::_=>px|.b _ _::_=>px|_=>false
def dropP{α:Type}:tV->tL α->tO (tL α)|false,l=>some l|true,_::l=>some l|true,[]=>none
def bA_(E:TE):(ps:tL Pm)->PA E ps->Nat->tO (tL (V1 E))
 | [],_,_=>some []
 | .d t::ps,a,n=>match asV E t (E.cells t a.1),bA_ E ps a.2 n with
  | some v,some q=>some (v::q)
  | _,_=>none
 | .l t m::ps,a,n=>match asV E t (bp_ E m (E.flat t) (E.fl t a.1) n),bA_ E ps a.2 (n+aC_ m (E.flat t))with
  | some v,some q=>some (v::q)
  | _,_=>none
 | .g t m::ps,a,n=>match asV E t (bp_ E m (E.flat t) (E.fl t a.1) n),bA_ E ps a.2 (n+aC_ m (E.flat t))with
  | some v,some q=>some (v::q)
  | _,_=>none
 | .b _ _::ps,a,n=>match bA_ E ps a.2 (n+1)with
  | some q=>some (.one (.ptr n 0)::q)
  | none=>none
 | .bm _ t m px::ps,a,n=>match bA_ E ps a.2 (n+1+aC_ m (E.flat t))with
  | some q=>match dropP (pxB px ps) q with
   | some q=>some (.one (.ptr n 0)::q)
   | none=>none
  | none=>none
 | .mp _ _ _::ps,a,n=>match bA_ E ps a.2 (n+1)with
  | some q=>some (.one (.mp n)::q)
  | none=>none
 | .p t::ps,a,n=>match bA_ E ps a.2 n with
  | some q=>some (.one (.elf t a.1 0)::q)
  | none=>none
 | .f1 x r::ps,a,n=>match bA_ E ps a.2 n with
  | some q=>some (.one (.fn1 x r a.1)::q)
  | none=>none
 | .f2 x y r::ps,a,n=>match bA_ E ps a.2 n with
  | some q=>some (.one (.fn2 x y r a.1)::q)
  | none=>none
def aY_(E:TE):(ps:tL Pm)->PA E ps->Nat->Chs E|[],_,_=>[]|.l t m::ps,a,n=>aT_ E m (E.flat t) (E.fl t a.1) n++aY_ E ps a.2 (n+aC_ m (E.flat t))|.g t m::ps,a,n=>aT_ E m (E.flat t) (E.fl t a.1) n++aY_ E ps a.2 (n+aC_ m (E.flat t))|.b T t::ps,a,n=>(n,some (.box T (E.cells t a.1)))::aY_ E ps a.2 (n+1)|.bm T t m px::ps,a,n=>(n,some (.box T (ptrC E (pxB px ps) (n+1+aC_ m (E.flat t))++bp_ E m (E.flat t) (E.fl t a.1) (n+1))))::(aT_ E m (E.flat t) (E.fl t a.1) (n+1)++aY_ E ps a.2 (n+1+aC_ m (E.flat t)))|.mp T k v::ps,a,n=>(n,some (.map T k v a.1.1 a.1.2 []))::aY_ E ps a.2 (n+1)|.d _::ps,a,n=>aY_ E ps a.2 n|.p _::ps,a,n=>aY_ E ps a.2 n|.f1 _ _::ps,a,n=>aY_ E ps a.2 n|.f2 _ _ _::ps,a,n=>aY_ E ps a.2 n
def aM_(E:TE):(ps:tL Pm)->PA E ps->Nat->Nat->Chs E|[],_,_,_=>[]|.l t m::ps,a,n,k=>aT_ E m (E.flat t) (E.fl t a.1) n++aM_ E ps a.2 (n+aC_ m (E.flat t)) k|.g t m::ps,a,n,k=>aM_ E ps a.2 (n+aC_ m (E.flat t)) k|.b T t::ps,a,n,k=>(n,some (.box T (E.cells t a.1)))::aM_ E ps a.2 (n+1) k|.bm T t m px::ps,a,n,k=>(n,some (.box T (ptrC E (pxB px ps) (n+1+aC_ m (E.flat t))++bp_ E m (E.flat t) (E.fl t a.1) k)))::(aT_ E m (E.flat t) (E.fl t a.1) k++aM_ E ps a.2 (n+1+aC_ m (E.flat t)) (k+aC_ m (E.flat t)))|.mp T kt v::ps,a,n,k=>(n,some (.map T kt v a.1.1 a.1.2 []))::aM_ E ps a.2 (n+1) k|.d _::ps,a,n,k=>aM_ E ps a.2 n k|.p _::ps,a,n,k=>aM_ E ps a.2 n k|.f1 _ _::ps,a,n,k=>aM_ E ps a.2 n k|.f2 _ _ _::ps,a,n,k=>aM_ E ps a.2 n k
def cU_(E:TE):tL Pm->Nat|[]=>0|.bm _ t m _::ps=>aC_ m (E.flat t)+cU_ E ps|_::ps=>cU_ E ps
def ar_(E:TE):tL Pm->Nat|[]=>0|.l t m::ps=>aC_ m (E.flat t)+ar_ E ps|.g t m::ps=>aC_ m (E.flat t)+ar_ E ps|.b _ _::ps=>1+ar_ E ps|.bm _ t m _::ps=>1+aC_ m (E.flat t)+ar_ E ps|.mp _ _ _::ps=>1+ar_ E ps|_::ps=>ar_ E ps
def cj_(E:TE):Rs->Nat|[]=>0|p::rs=>aC_ p.2 (E.flat p.1)+cj_ E rs
def resV(E:TE):(rs:Rs)->HL E.S rs.ts->Nat->tO (tL (V1 E))
 | [],_,_=>some []
 | (t,m)::rs,h,n=>match asV E t (bp_ E m (E.flat t) (E.fl t h.1) n),resV E rs h.2 (n+aC_ m (E.flat t))with
  | some v,some q=>some (v::q)
  | _,_=>none
def cA_(E:TE):(rs:Rs)->HL E.S rs.ts->Nat->Chs E|[],_,_=>[]|(t,m)::rs,h,n=>aT_ E m (E.flat t) (E.fl t h.1) n++cA_ E rs h.2 (n+aC_ m (E.flat t))
def oneV(E:TE):tL (V1 E)->SV E|[x]=>.v x|l=>.tup l
abbrev InlF(E:TE):=(Nat->tO (Obj E))->Nat->tL (V1 E)->(R:Type)->(tO (SV E)->Chs E->tO R)->tO R
def l4_:tL Pm->tV|[]=>false|.l _ _::_=>true|.g _ _::_=>true|.b _ _::_=>true|.bm _ _ _ _::_=>true|.mp _ _ _::_=>true|_::ps=>l4_ ps
structure Con(E:TE) where
 ps:tL Pm
 rs:Rs
 ali:tV
 F:(R:Type)->PA E ps->(HL E.S rs.ts->HL E.S (aI_ ps)->tO R)->tO R
 I:tO (InlF E)
def CallOK(P:tT)(E:TE)(f:FuncId)(ps:tL Pm)(rs:Rs)(ali:tV)(a:PA E ps)(rh:HL E.S rs.ts)(bh:HL E.S (aI_ ps)):Prop:=
 ∀ (w:tS) (z:Fz) (g:Ga) (Bs:tL Nat) (svs:tL (V1 E)) (vs:tL tW),bA_ E ps a 0=some svs->HR P E Bs z.F w w z g (upH (λ_=>none) (aY_ E ps a 0))->Fresh g (ar_ E ps)->All2 (R1 P E z g) svs vs ->
  Ret P f vs.toArray w λv w'=>∃z' g' svr,z.Le z'/\(ali=false->z'=z)/\g.Le g'/\resV E rs rh (ar_ E ps)=some svr/\RV P E z' g' (oneV E svr) v /\
   HR P E Bs z.F w w' z' g' (upH (λ_=>none) (cA_ E rs rh (ar_ E ps)++aM_ E ps (dE_ E ps a bh) 0 (ar_ E ps+cj_ E rs)))
def Con.OK(P:tT)(E:TE)(f:FuncId)(C:Con E):Prop:=∀(R:Type) (a:PA E C.ps) (k:HL E.S C.rs.ts->HL E.S (aI_ C.ps)->tO R) (r:R),C.F R a k=some r->∃rh bh,k rh bh=some r/\CallOK P E f C.ps C.rs C.ali a rh bh
section
variable{P:tT}{E:TE}{z z':Fz}{g g':Ga}{nx:Nat}{w w' w0:tS}{H H':Nat->tO (Obj E)}{Bs:tL Nat}{F0:Nat->Prop}
def SC.ren(s:Nat->Nat):SC E->SC E|.own id=>.own (s id)|.ptr id off=>.ptr (s id) off|c=>c
def Obj.ren(s:Nat->Nat):Obj E->Obj E|.box T cs=>.box T (cs.map (SC.ren s))|o=>o
def V1.cs:V1 E->tL (SC E)|.one c=>[c]|.agg l=>l
def V1.fits:Ty->V1 E->tV|.st _,.agg _=>true|.st _,.one _=>false|_,.one _=>true|_,.agg _=>false
def takeD(E:TE)(H:Nat->tO (Obj E))(t:Ty)(x:V1 E):tO (Den E.S t):=match V1.fits t x,bP_ E H (E.flat t) x.cs with|true,some h=>some (E.ufl t h)|_,_=>none
theorem asV_ok{t:Ty}{x:V1 E}{l:tL (SC E)}{v:tW}(h:V1.fits t x=true)(j:l.length=x.cs.length)(hr:R1 P E z g x v)(f:∀vs,All2 (RC P E z g) x.cs vs->All2 (RC P E z' g') l vs) :
  ∃y,asV E t l=some y/\R1 P E z' g' y v:=by
 cases x with
 | one c=>
  obtain⟨d,rfl⟩:∃d,l=[d]:=by
   match l,j with
   | [d],_=>exact⟨d,rfl⟩
  have h1:=f [v] (.cons hr .nil);cases h1 with
  | cons h1 _=>
   cases t with
   | st n=>cases h
   | _=>exact⟨_,rfl,h1⟩
 | agg m=>
  obtain⟨vs,rfl,hr⟩:=hr;cases t with
  | st n=>exact⟨_,rfl,vs,rfl,f vs hr⟩
  | _=>cases h
theorem r3_:∀{ts:tL Ty} {cs:tL (SC E)} {h:HL E.S ts},bP_ E H ts cs=some h->cs.length=ts.length
 | [],[],_,_=>rfl
 | t::ts,c::cs,h,e=>by
  simp only[bP_]at e;split at e
  .cases e
  .split at e
   .rename_i f;simp[r3_ f]
   .cases e
 | [],c::cs,_,e=>by simp[bP_]at e
 | t::ts,[],_,e=>by simp[bP_]at e
theorem hlc_len:∀(ts:tL Ty) (h:HL E.S ts),(hlc E ts h).length=ts.length
 | [],_=>rfl
 | _::ts,h=>by simp[hlc,hlc_len ts h.2]
theorem takeD_ok{t:Ty}{x:V1 E}{d:Den E.S t}{v:tW}(p:HR P E Bs F0 w0 w z g H)(h:takeD E H t x=some d)(hr:R1 P E z g x v)(g':Ga):∃y,asV E t (E.cells t d)=some y/\R1 P E z g' y v:=by
 unfold takeD at h;split at h
 .rename_i q m j;obtain rfl:=qSj h;refine asV_ok m ?_ hr λvs f=>?_
  .unfold TE.cells;rw[hlc_len,r3_ j]
  .refine cells_rd.1 ?_;rw[E.fl_ufl];exact ds_ p j f
 .cases h
def bK_ (E:TE) (H:Nat->tO (Obj E)):Mk->(ts:tL Ty)->tL (SC E)->tO (HL E.S ts×tL Nat)
 | some e::f,.sl t::ts,.own id::cs=>match H id with
  | some (.row e' j xs _)=>if m:j=t then match Nat.beq e e',bK_ E H f ts cs with
    | true,some q=>some ((d2_ m xs,q.1),id::q.2)
    | _,_=>none
   else none
  | _=>none
 | none::f,t::ts,c::cs=>match c.data H t,bK_ E H f ts cs with
  | some x,some q=>some ((x,q.1),q.2)
  | _,_=>none
 | [],ts,cs=>match bP_ E H ts cs with
  | some h=>some (h,[])
  | none=>none
 | _,_,_=>none
def ge_ (E:TE) (H:Nat->tO (Obj E)):(ps:tL Pm)->tL Nat->tO (PA E ps)
 | [],[]=>some ()
 | .p t::ps,id::ids=>match H id with
  | some (.fb f x)=>if h:f=t then match ge_ E H ps ids with
    | some a=>some (h▸x,a)
    | none=>none
   else none
  | _=>none
 | _,_=>none
abbrev Tab(E:TE):=FuncId->tO (Con E)
def res1{E:TE}{rs:Rs}{t:Ty}(h:rs=[(t,[])])(x:HL E.S rs.ts):Den E.S t:=by subst h;exact x.1
def takeF1(E:TE)(tab:Tab E)(H:Nat->tO (Obj E))(x r:Ty):SC E->tO (Den E.S x->tO (Den E.S r))
 | .fn1 j r' f=>if h:j=x/\r'=r then some (h.1▸h.2▸f)else none
 | .clo f ids=>match tab f with
  | some C=>match m:C.ps with
   | .d j::ps=>if hx:j=x then if hr:C.rs=[(r,[])]then match r.flatB && !C.ali,ge_ E H ps ids with
      | true,some caps=>some λy=>C.F (Den E.S r) (m▸((hx▸y,caps):PA E (.d j::ps))) λrh _=>some (res1 hr rh)
      | _,_=>none
     else none else none
   | _=>none
  | none=>none
 | _=>none
def takeF2(E:TE)(tab:Tab E)(H:Nat->tO (Obj E))(x y r:Ty):SC E->tO (Den E.S x->Den E.S y->tO (Den E.S r))
 | .fn2 m j r' f=>if h:m=x/\j=y/\r'=r then some (h.1▸h.2.1▸h.2.2▸f)else none
 | .clo f ids=>match tab f with
  | some C=>match p:C.ps with
   | .d m :: .d j::ps=>if hx:m=x then if q:j=y then if hr:C.rs=[(r,[])]then match r.flatB && !C.ali,ge_ E H ps ids with
      | true,some caps=>some λu v=>C.F (Den E.S r) (p▸((hx▸u,q▸v,caps):PA E (.d m :: .d j::ps))) λrh _=>some (res1 hr rh)
      | _,_=>none
     else none else none else none
   | _=>none
  | none=>none
 | _=>none
def ji_:tV->tL (SC E)->tO (tL (SC E)×tL (V1 E))|false,cs=>some (cs,[])|true,.ptr id 0::cs=>some (cs,[.one (.ptr id 0)])|true,_=>none
def hidB:tL (V1 E)->tL Nat->tV|[],_=>true|[.one (.ptr id _)],i::_=>Nat.beq i id|_,_=>false
def takeA (E:TE) (tab:Tab E) (H:Nat->tO (Obj E)):(ps:tL Pm)->tL (V1 E)->tO (PA E ps×tL Nat)
 | [],[]=>some ((),[])
 | .d t::ps,x::xs=>match takeD E H t x,takeA E tab H ps xs with
  | some d,some q=>some ((d,q.1),q.2)
  | _,_=>none
 | .l t m::ps,x::xs=>match V1.fits t x,bK_ E H m (E.flat t) x.cs,takeA E tab H ps xs with
  | true,some d,some q=>some ((E.ufl t d.1,q.1),d.2++q.2)
  | _,_,_=>none
 | .g t m::ps,x::xs=>match V1.fits t x,bK_ E H m (E.flat t) x.cs,takeA E tab H ps xs with
  | true,some d,some q=>some ((E.ufl t d.1,q.1),d.2++q.2)
  | _,_,_=>none
 | .b T t::ps,.one (.ptr id 0)::xs=>match H id,takeA E tab H ps xs with
  | some (.box T' cs),some q=>match Nat.beq T T',bP_ E H (E.flat t) cs with
   | true,some h=>some ((E.ufl t h,q.1),id::q.2)
   | _,_=>none
  | _,_=>none
 | .bm T t m px::ps,.one (.ptr id 0)::xs=>match H id with
  | some (.box T' C)=>match ji_ (pxB px ps) C with
   | some (cs,s)=>match takeA E tab H ps (s++xs)with
    | some q=>match Nat.beq T T'&&hidB s q.2,bK_ E H m (E.flat t) cs with
     | true,some d=>some ((E.ufl t d.1,q.1),id::(d.2++q.2))
     | _,_=>none
    | none=>none
   | none=>none
  | _=>none
 | .mp T k v::ps,.one (.mp id)::xs=>match H id,takeA E tab H ps xs with
  | some (.map T' F D ks vs _),some q=>if j:F=k/\D=v then match Nat.beq T T' with
    | true=>some (((d2_ j.1 ks,d2_ j.2 vs),q.1),id::q.2)
    | false=>none
   else none
  | _,_=>none
 | .p t::ps,.one (.elf u x 0)::xs=>if j:u=t then match takeA E tab H ps xs with
   | some q=>some ((j▸x,q.1),q.2)
   | none=>none
  else none
 | .p t::ps,.one (.ptr id 0)::xs=>match H id with
  | some (.fb u x)=>if j:u=t then match takeA E tab H ps xs with
    | some q=>some ((j▸x,q.1),q.2)
    | none=>none
   else none
  | _=>none
 | .f1 x r::ps,.one c::xs=>match takeF1 E tab H x r c,takeA E tab H ps xs with
  | some f,some q=>some ((f,q.1),q.2)
  | _,_=>none
 | .f2 x y r::ps,.one c::xs=>match takeF2 E tab H x y r c,takeA E tab H ps xs with
  | some f,some q=>some ((f,q.1),q.2)
  | _,_=>none
 | _,_=>none
def gOf(g:Ga)(I:tL Nat):Ga:=λi=>match I[i]? with|some id=>g id|none=>none
def Cor(E:TE)(H:Nat->tO (Obj E))(I:tL Nat):Obj E->Obj E->Prop|.row e t xs _,o=>o = .row e t xs []|.map T k v ks vs _,o=>o = .map T k v ks vs []|.box T h,o=>∃(px:tV) (cs:tL (SC E)) (f:tL (V1 E)) (p:Nat) (t:Ty) (m:Mk) (d:HL E.S (E.flat t)×tL Nat) (k:Nat),ji_ px h=some (cs,f)/\(∀id o,f=[.one (.ptr id o)]->I[p]? = some id)/\bK_ E H m (E.flat t) cs=some d/\o = .box T (ptrC E px p++bp_ E m (E.flat t) d.1 k)/\∀j id,d.2[j]? = some id->I[k+j]? = some id|_,_=>False
theorem mG_ {I:tL Nat} {m:Mk}:∀{ts:tL Ty} {cs:tL (SC E)} {q:HL E.S ts×tL Nat} {n:Nat},bK_ E H m ts cs=some q->(∀j id,q.2[j]? = some id->I[n+j]? = some id) ->
  (∀i o,(i,o)∈aT_ E m ts q.1 n->∃id u o2,I[i]? = some id/\H id=some u/\o=some o2/\Cor E H I u o2)/\q.2.length=aC_ m ts:=by
 induction m with
 | nil=>
  intro ts cs q n h p;simp only[bK_]at h;split at h
  .obtain rfl:=qSj h;refine⟨λi o f=>?_,?_⟩
   .cases ts<;>simp[aT_]at f
   .cases ts<;>simp[aC_]
  .cases h
 | cons a m y=>
  intro ts cs q n h p;cases ts with
  | nil=>cases a<;>simp[bK_]at h
  | cons t ts=>
   cases a with
   | none=>
    cases cs with
    | nil=>simp[bK_]at h
    | cons c cs=>
     simp only[bK_]at h;split at h
     .rename_i x D _ s;obtain rfl:=qSj h;simp only[aT_,aC_];exact y s p
     .cases h
   | some e=>
    cases t with
    | sl t =>
     cases cs with
     | nil=>simp[bK_]at h
     | cons c cs=>
      cases c with
      | own id=>
       simp only[bK_]at h;split at h
       .rename_i e' M xs foc hi;split at h
        .rename_i F;subst F;split at h
         .rename_i D J s;obtain rfl:=qSj h;obtain rfl:=qNb J;have C:=y (n:=n+1) s λj id' G=>by
           have:=p (j+1) id' (by simpa using G)
           rwa [show n+1+j=n+(j+1)by omega]
          refine⟨λi o f=>?_,by simp[aC_,C.2]⟩;simp only[aT_,qV]at f;rcases f with f|f
          .simp only[qC]at f;obtain⟨rfl,rfl⟩:=f;exact⟨id,_,_,by simpa using p 0 id (by simp),hi,rfl,rfl⟩
          .exact C.1 i o f
         .cases h
        .cases h
       .cases h
      | _=>simp[bK_]at h
    | _=>cases cs<;>simp[bK_]at h
theorem li_ {I:tL Nat} {m:Mk} (M:HR P E Bs F0 w0 w z g H):∀{ts:tL Ty} {cs:tL (SC E)} {q:HL E.S ts×tL Nat} {n:Nat} {vs:tL tW},bK_ E H m ts cs=some q->(∀j id,q.2[j]? = some id->I[n+j]? = some id) ->
  All2 (RC P E z g) cs vs->All2 (RC P E z (gOf g I)) (bp_ E m ts q.1 n) vs/\cs.length=ts.length/\(bp_ E m ts q.1 n).length=ts.length:=by
 induction m with
 | nil=>
  intro ts cs q n vs h p f;simp only[bK_]at h;split at h
  .rename_i u J;obtain rfl:=qSj h;have e:bp_ E ([]:Mk) ts u n=hlc E ts u:=by cases ts<;>rfl
   rw[e];exact⟨hlc_rd.1 (ds_ M J f),r3_ J,hlc_len ts u⟩
  .cases h
 | cons a m G=>
  intro ts cs q n vs h p f;cases ts with
  | nil=>cases a<;>simp[bK_]at h
  | cons t ts=>
   cases a with
   | none=>
    cases cs with
    | nil=>simp[bK_]at h
    | cons c cs=>
     simp only[bK_]at h;split at h
     .rename_i x O hx s;obtain rfl:=qSj h;cases f with
      | cons h1 F=>
       obtain⟨D,C,y⟩:=G s p F;simp only[bp_];exact⟨.cons (SC.data_ok M hx h1) D,by simp[C],by simp[y]⟩
     .cases h
   | some e =>
    cases t with
    | sl t =>
     cases cs with
     | nil=>simp[bK_]at h
     | cons c cs=>
      cases c with
      | own id=>
       simp only[bK_]at h;split at h
       .rename_i e' t' xs foc hi;split at h
        .rename_i U;subst U;split at h
         .rename_i O hb s;obtain rfl:=qSj h;cases f with
          | cons h1 F=>
           obtain⟨D,C,y⟩:=G (n:=n+1) s (λj id' V=>by
            have:=p (j+1) id' (by simpa using V)
            rwa [show n+1+j=n+(j+1)by omega]) F
           simp only[bp_];have h0:I[n]? = some id:=by simpa using p 0 id (by simp)
           obtain⟨l,Z,Y⟩:=h1;exact⟨.cons ⟨l,by unfold gOf;rw[h0];exact Z,Y⟩ D,by simp[C],by simp[y]⟩
         .cases h
        .cases h
       .cases h
      | _=>simp[bK_]at h
    | _=>cases cs<;>simp[bK_]at h
theorem uN_(D:HR P E Bs F0 w0 w z g H)(q:z.Le z')(g':Ga):∀{ps:tL Pm} {ids:tL Nat} {a:PA E ps} {us:tL tW} {n:Nat},ge_ E H ps ids=some a->All2 (λid u=>∃l,g id=some l/\u=Value.pointer (some ⟨l.b,0,none⟩)) ids us ->
  (∃svs,bA_ E ps a n=some svs/\All2 (R1 P E z' g') svs us)/\aY_ E ps a n=[]/\ar_ E ps=0
 | [],[],a,us,n,h,f=>by
  cases f
  exact⟨⟨[],rfl,.nil⟩,rfl,rfl⟩
 | .p t::ps,id::ids,a,us,n,h,f=>by
  simp only[ge_]at h;split at h
  .rename_i J x hi;split at h
   .rename_i M;subst M;split at h
    .rename_i a' U;obtain rfl:=qSj h;cases f with
     | cons h1 h2=>
      obtain⟨⟨svs,h3,h4⟩,Z,Y⟩:=uN_ D q g' (n:=n) U h2;obtain⟨l,V,rfl⟩:=h1;obtain⟨l',r,G,F,C,s⟩:=D.hold _ _ hi;rw[V]at G;obtain rfl:=qSj G;refine⟨⟨.one (.elf J x 0)::svs,by simp only[bA_,h3],.cons ⟨l.b,0,r,rfl,(q _ F).1,C.le q,λj u O=>?_⟩ h4⟩,Z,Y⟩;rw[qj,World.cell?_of_block (w:=z.w) (q _ F).2];exact s j u O
    .cases h
   .cases h
  .cases h
 | [],id::ids,a,us,n,h,f=>by simp[ge_]at h
 | .p t::ps,[],a,us,n,h,f=>by simp[ge_]at h
 | .d t::ps,ids,a,us,n,h,f=>by simp[ge_]at h
 | .l t m::ps,ids,a,us,n,h,f=>by simp[ge_]at h
 | .g t m::ps,ids,a,us,n,h,f=>by simp[ge_]at h
 | .b T t::ps,ids,a,us,n,h,f=>by simp[ge_]at h
 | .mp T k v::ps,ids,a,us,n,h,f=>by simp[ge_]at h
 | .f1 x r::ps,ids,a,us,n,h,f=>by simp[ge_]at h
 | .f2 x y r::ps,ids,a,us,n,h,f=>by simp[ge_]at h
theorem HR.nothing{z:Fz}{w:tS}(f:z.In w)(j:Glo E z)(g:Ga):HR P E [] z.F w w z g (λ_=>none):=
 ⟨Chg.of_below (Below.refl _ _),(λ_ _ h=>by cases h),(λ_ _ _ h=>by cases h),(λ_ _ _ _ _ _ h=>by cases h),f,(λ_ h=>.inl h),(λ_ _ _ h=>by cases h),j⟩
def nxU(nx:Nat):Chs E->Nat
 | []=>nx+1
 | (i,none)::l=>match Nat.ble (nx+1+(l.length+1)) (i+1)with
  | true=>i+1
  | false=>nx+1+(l.length+1)
 | (_,some _)::l=>nx+1+(l.length+1)
theorem mH_(nx:Nat)(u:Chs E):nx+1+u.length<=nxU nx u:=by
 unfold nxU;split
 .exact qA _
 .split
  .rename_i f;exact qq f
  .exact qA _
 .exact qA _
theorem Fresh.nxU{g:Ga}{nx:Nat}{u:Chs E}(h:Fresh g (nx+1+u.length)):Fresh g (nxU nx u):=λi hi=>h i (qN (mH_ nx u) hi)
def l5_(P:tT)(E:TE)(f:FuncId)(I:InlF E):Prop:=
 ∀{z:Fz} {g:Ga} {nx:Nat} {H:Nat->tO (Obj E)} {xs:tL (V1 E)} {vs:tL tW} {R:Type} {k:tO (SV E)->Chs E->tO R} {r:R} {Bs:tL Nat} {F0:Nat->Prop} {w0 w:tS},Fresh g nx->HR P E Bs F0 w0 w z g H->All2 (R1 P E z g) xs vs->I H nx xs R k=some r ->
  Ret P f vs.toArray w λv w'=>∃s u z2 h,k (some s) u=some r/\z.Le z2/\g.Le h/\Fresh h (nxU nx u)/\RV P E z2 h s v/\HR P E Bs F0 w0 w' z2 h (upH H u)
def Tab.OK(P:tT)(E:TE)(tab:Tab E):Prop:=∀f C,tab f=some C->C.OK P E f/\cr_ P f=true/\∀I,C.I=some I->l4_ C.ps=true/\l5_ P E f I
theorem o7_{t:Ty}{x:Den E.S t}{v:tW}(h:RT E z t x v)(g:Ga):∃y,asV E t (E.cells t x)=some y/\R1 P E z g y v:=by
 cases t with
 | st n=>
  obtain⟨vs,rfl,h⟩:=h;exact⟨_,rfl,vs,rfl,cells_rd (t:=.st n).1 h⟩
 | int k=>exact⟨_,rfl,h⟩
 | bool=>exact⟨_,rfl,h⟩
 | str=>exact⟨_,rfl,h⟩
 | sl e=>exact⟨_,rfl,h⟩
theorem call_flat{f:FuncId}{ps:tL Pm}{r:Ty}{a:PA E ps}{rh:HL E.S (Rs.ts [(r,[])])}{bh:HL E.S (aI_ ps)}{svs:tL (V1 E)}{vs:tL tW}(hr:r.flatB=true)(J:CallOK P E f ps [(r,[])] false a rh bh)(y:z.In w)(s:Glo E z)
  (D:bA_ E ps a 0=some svs) (F:aY_ E ps a 0=[]) (C:All2 (R1 P E z λ_=>none) svs vs) :
  Ret P f vs.toArray w λu w'=>RD E z [r] (rh.1,()) [u]/\Ext w w':=by
 have h:=J w z (λ_=>.none) [] svs vs D (by rw[F];exact HR.nothing y s _) (λ_ _=>rfl) C;refine h.mono λu w' ⟨z',g',svr,G,p,_,j,q,x⟩=>?_
 obtain rfl:=p rfl;refine⟨?_,Ext.of_below x.chg.below⟩;have m:svr=[.one (.dt r rh.1)]:=by
  cases r with
  | int k=>simp[resV,bp_,TE.flat,TE.fl,hlc,asV]at j;exact j.symm
  | bool=>simp[resV,bp_,TE.flat,TE.fl,hlc,asV]at j;exact j.symm
  | str=>simp[resV,bp_,TE.flat,TE.fl,hlc,asV]at j;exact j.symm
  | sl e=>cases hr
  | st n=>cases hr
 subst m;exact q
theorem takeF1_ok{tab:Tab E}(ht:tab.OK P E){x r:Ty}{c:SC E}{f:Den E.S x->tO (Den E.S r)}{v:tW}(Y:HR P E Bs F0 w0 w z g H)(h:takeF1 E tab H x r c=some f)(hr:RC P E z g c v):FnOK P E z v [x] r λh=>f h.1:=by
 unfold takeF1 at h;split at h
 .split at h
  .rename_i hx;obtain⟨rfl,rfl⟩:=hx;obtain rfl:=qSj h;exact hr
  .cases h
 .rename_i fid ids;split at h
  .rename_i C hC;obtain⟨O,p,_⟩:=ht fid C hC;obtain⟨ps,rs,ali,F,I⟩:=C;split at h
   .rename_i x' ps' G;simp only at G;subst G;split at h
    .rename_i hx;subst hx;split at h
     .rename_i D;simp only at D;subst D;split at h
      .rename_i caps V j;simp only[qAn,qF]at V;obtain⟨J,rfl⟩:=V;obtain rfl:=qSj h;obtain⟨us,rfl,M⟩:=hr;refine⟨fid,us.toArray,rfl,⟨p,J⟩,λw1 z1 hh y args u U q hF=>?_⟩;obtain⟨rh,bh,hk,m⟩:=O _ _ _ _ hF;obtain⟨s,ZZ,rfl,h1,Z⟩:=q;simp only[RTs]at Z;subst Z;obtain⟨⟨svs,h3,h4⟩,h5,h6⟩:=uN_ (P:=P) Y u (λ_=>.none) (n:=0) j M;obtain⟨sv,h7,h8⟩:=o7_ (P:=P) h1 (λ_=>.none);have:=call_flat J m U (Y.gl.le u) (svs:=sv::svs) (vs:=s::us) (by simp only[bA_,h7,h3]) h5 (.cons h8 h4);have e:(#[s]++us.toArray:Array tW)=(s::us).toArray:=by simp
       have hy:rh.1=y:=by simpa[res1]using hk
       rw[show[s].toArray = #[s]from rfl,e,←hy];exact this
      .cases h
     .cases h
    .cases h
   .cases h
  .cases h
 .cases h
theorem takeF2_ok {tab:Tab E} (ht:tab.OK P E) {x y r:Ty} {c:SC E} {f:Den E.S x->Den E.S y->tO (Den E.S r)} {v:tW} (hH:HR P E Bs F0 w0 w z g H) (h:takeF2 E tab H x y r c=some f) (hr:RC P E z g c v):FnOK P E z v [x,y] r λh=>f h.1 h.2.1:=by
 unfold takeF2 at h;split at h
 .split at h
  .rename_i hx;obtain⟨rfl,rfl,rfl⟩:=hx;obtain rfl:=qSj h;exact hr
  .cases h
 .rename_i fid ids;split at h
  .rename_i C hC;obtain⟨Y,p,_⟩:=ht fid C hC;obtain⟨ps,rs,ali,F,I⟩:=C;split at h
   .rename_i x' y' ps' G;simp only at G;subst G;split at h
    .rename_i hx;subst hx;split at h
     .rename_i U;subst U;split at h
      .rename_i D;simp only at D;subst D;split at h
       .rename_i caps hb j;simp only[qAn,qF]at hb;obtain⟨J,rfl⟩:=hb;obtain rfl:=qSj h;obtain⟨us,rfl,V⟩:=hr;refine⟨fid,us.toArray,rfl,⟨p,J⟩,λw1 z1 hh y args u Z q hF=>?_⟩;obtain⟨rh,bh,hk,m⟩:=Y _ _ _ _ hF;obtain⟨s,ZX,rfl,h1,h2⟩:=q;obtain⟨v2,ZY,rfl,h2,M⟩:=h2;simp only[RTs]at M;subst M;obtain⟨⟨svs,h3,h4⟩,h5,h6⟩:=uN_ (P:=P) hH u (λ_=>.none) (n:=0) j V;obtain⟨sv,h7,h8⟩:=o7_ (P:=P) h1 (λ_=>.none);obtain⟨O,h9,ZZ⟩:=o7_ (P:=P) h2 (λ_=>.none);have:=call_flat J m Z (hH.gl.le u) (svs:=sv::O::svs) (vs:=s::v2::us) (by simp only[bA_,h7,h3,h9]) h5 (.cons h8 (.cons ZZ h4));have e:(#[s,v2]++us.toArray:Array tW)=(s::v2::us).toArray:=by simp
        have U:rh.1=y:=by simpa[res1]using hk
        rw[show[s,v2].toArray = #[s,v2]from rfl,e,←U];exact this
       .cases h
      .cases h
     .cases h
    .cases h
   .cases h
  .cases h
 .cases h
theorem mz_{I l m:tL Nat}{n:Nat}(h:∀j id,(l++m)[j]? = some id->I[n+j]? = some id):(∀j id,l[j]? = some id->I[n+j]? = some id)/\∀j id,m[j]? = some id->I[n+l.length+j]? = some id:=by
 refine⟨λj id f=>h j id ?_,λj id f=>?_⟩
 .rw[ze (qK.1 f).1];exact f
 .rw[zW];refine h _ id ?_;rw[zH (by omega)];rw[show l.length+j-l.length=j by omega];exact f
theorem ownC_nil{ts:tL Ty}{h:HL E.S ts}{n:Nat}:bp_ E [] ts h n=hlc E ts h:=by cases ts<;>rfl
theorem takeM_nil{ts:tL Ty}{cs:tL (SC E)}{h:HL E.S ts}(f:bP_ E H ts cs=some h):bK_ E H [] ts cs=some (h,[]):=by
 unfold bK_;rw[f]
theorem takeP_val{px:tV}{j cs:tL (SC E)}{f xs:tL (V1 E)}{us vs:tL tW}(h:ji_ px j=some (cs,f))(p:All2 (RC P E z g) j us)(m:All2 (R1 P E z g) xs vs):∃us,All2 (R1 P E z g) (f++xs) (us++vs)/\us.length=f.length:=by
 unfold ji_ at h;split at h
 .simp only[qOi,qC]at h;obtain⟨rfl,rfl⟩:=h;exact⟨[],m,rfl⟩
 .simp only[qOi,qC]at h;obtain⟨rfl,rfl⟩:=h;cases p with
  | @cons _ u _ _ h1 _=>exact⟨[u],.cons h1 m,rfl⟩
 .cases h
theorem dropP_val{px:tV}{j cs:tL (SC E)}{f:tL (V1 E)}{R:V1 E->tW->Prop}{svs:tL (V1 E)}{us vs:tL tW}(h:ji_ px j=some (cs,f))(p:us.length=f.length)(m:All2 R svs (us++vs)):∃svs',dropP px svs=some svs'/\All2 R svs' vs:=by
 unfold ji_ at h;split at h
 .simp only[qOi,qC]at h;obtain⟨rfl,rfl⟩:=h;obtain rfl:us=[]:=zT.1 p;exact⟨svs,rfl,m⟩
 .simp only[qOi,qC]at h;obtain⟨rfl,rfl⟩:=h
  match us,p with
  | [u],_=>
   cases m with
   | cons h1 q=>exact⟨_,rfl,q⟩
 .cases h
theorem hidB_val{id o:Nat}{l:tL Nat}(h:hidB (E:=E) [.one (.ptr id o)] l=true):l[0]? = some id:=by
 cases l with
 | nil=>cases h
 | cons i l=>
  simp only[hidB]at h;obtain rfl:=qNb h;rfl
theorem box_val{px:tV}{q cs:tL (SC E)}{h:tL (V1 E)}{I:tL Nat}{p:Nat}{t:Ty}{m:Mk}{d:HL E.S (E.flat t)×tL Nat}{k:Nat}{vs:tL tW}(y:HR P E Bs F0 w0 w z g H)(f:ji_ px q=some (cs,h))(C:∀id o,h=[.one (.ptr id o)]->I[p]? = some id)
  (x:bK_ E H m (E.flat t) cs=some d) (u:∀j id,d.2[j]? = some id->I[k+j]? = some id) (s:All2 (RC P E z g) q vs):All2 (RC P E z (gOf g I)) (ptrC E px p++bp_ E m (E.flat t) d.1 k) vs:=by
 unfold ji_ at f;split at f
 .simp only[qOi,qC]at f;obtain⟨rfl,rfl⟩:=f;exact(li_ y x u s).1
 .rename_i id cs';simp only[qOi,qC]at f;obtain⟨rfl,rfl⟩:=f;cases s with
  | cons h1 G=>
   obtain⟨l,F,D⟩:=h1;refine .cons ⟨l,?_,D⟩ (li_ y x u G).1;unfold gOf;rw[C id 0 rfl];exact F
 .cases f
theorem takeA_ok {tab:Tab E} (ht:tab.OK P E) (hH:HR P E Bs F0 w0 w z g H) {I:tL Nat}:∀{ps:tL Pm} {xs:tL (V1 E)} {q:PA E ps×tL Nat} {vs:tL tW} {n:Nat},takeA E tab H ps xs=some q->(∀j id,q.2[j]? = some id->I[n+j]? = some id) ->
  All2 (R1 P E z g) xs vs->(∃svs,bA_ E ps q.1 n=some svs/\All2 (R1 P E z (gOf g I)) svs vs)/\(∀i o,(i,o)∈aY_ E ps q.1 n->∃id o1 o2,I[i]? = some id/\H id=some o1/\o=some o2/\Cor E H I o1 o2)/\q.2.length=ar_ E ps:=by
 intro ps
 induction ps with
 | nil=>
  intro xs q vs n h U hv;cases xs with
  | nil=>
   simp only[takeA,qOi]at h;subst h;cases hv
   exact⟨⟨[],rfl,.nil⟩,λi o s=>by simp[aY_]at s,rfl⟩
  | cons x xs=>simp[takeA]at h
 | cons p ps Z=>
  intro xs q vs n h U hv;cases xs with
  | nil=>cases p<;>simp[takeA]at h
  | cons x xs=>
   cases hv with
   | @cons _ v _ vs' h1 h2=>
    cases p with
    | d t=>
     simp only[takeA]at h;split at h
     .rename_i d Y V G;obtain rfl:=qSj h;obtain⟨⟨svs,F,M⟩,D,J⟩:=Z G U h2;obtain⟨y,e5,e6⟩:=takeD_ok hH V h1 (gOf g I);exact⟨⟨y::svs,by simp only[bA_,F,e5],.cons e6 M⟩,D,J⟩
     .cases h
    | l t m=>
     simp only[takeA]at h;split at h
     .rename_i d Y hf V G;obtain rfl:=qSj h;obtain⟨i1,i2⟩:=mz_ U;obtain⟨e7,e8⟩:=mG_ V i1;obtain⟨⟨svs,F,M⟩,D,J⟩:=Z G i2 h2;rw[e8]at F D;have O:∀vs,All2 (RC P E z g) x.cs vs->_:=λvs C=>li_ hH V i1 C
      obtain⟨y,e5,e6⟩:=asV_ok (z':=z) (g':=gOf g I) (l:=bp_ E m (E.flat t) d.1 n) hf (by
       have:∃vs,All2 (RC P E z g) x.cs vs:=by
        cases x with
        | one c=>exact⟨[v],.cons h1 .nil⟩
        | agg l=>obtain⟨vs,_,h⟩:=h1;exact⟨vs,h⟩
       obtain⟨vs,C⟩:=this;rw[(O vs C).2.1,(O vs C).2.2]) h1 λvs C=>(O vs C).1
      refine⟨⟨y::svs,by simp only[bA_,F,E.fl_ufl,e5],.cons e6 M⟩,λi o s=>?_,by simp only[qLa,e8,J];rfl⟩;simp only[aY_,qW,E.fl_ufl]at s;rcases s with s|s
      .exact e7 i o s
      .exact D i o s
     .cases h
    | g t m=>
     simp only[takeA]at h;split at h
     .rename_i d Y hf V G;obtain rfl:=qSj h;obtain⟨i1,i2⟩:=mz_ U;obtain⟨e7,e8⟩:=mG_ V i1;obtain⟨⟨svs,F,M⟩,D,J⟩:=Z G i2 h2;rw[e8]at F D;have O:∀vs,All2 (RC P E z g) x.cs vs->_:=λvs C=>li_ hH V i1 C
      obtain⟨y,e5,e6⟩:=asV_ok (z':=z) (g':=gOf g I) (l:=bp_ E m (E.flat t) d.1 n) hf (by
       have:∃vs,All2 (RC P E z g) x.cs vs:=by
        cases x with
        | one c=>exact⟨[v],.cons h1 .nil⟩
        | agg l=>obtain⟨vs,_,h⟩:=h1;exact⟨vs,h⟩
       obtain⟨vs,C⟩:=this;rw[(O vs C).2.1,(O vs C).2.2]) h1 λvs C=>(O vs C).1
      refine⟨⟨y::svs,by simp only[bA_,F,E.fl_ufl,e5],.cons e6 M⟩,λi o s=>?_,by simp only[qLa,e8,J];rfl⟩;simp only[aY_,qW,E.fl_ufl]at s;rcases s with s|s
      .exact e7 i o s
      .exact D i o s
     .cases h
    | b T t=>
     cases x with
     | agg l=>simp[takeA]at h
     | one c=>
     cases c with
     | ptr id off=>
      cases off with
      | succ off=>simp[takeA]at h
      | zero=>
      simp only[takeA]at h;split at h
      .rename_i T' cs Y hi G;split at h
       .rename_i V hb hh;obtain rfl:=qSj h;obtain rfl:=qNb hb;obtain⟨⟨svs,F,M⟩,D,J⟩:=Z (n:=n+1) G (λj id' hj=>by
         have:=U (j+1) id' (by simpa using hj)
         rwa [show n+1+j=n+(j+1)by omega]) h2
        have h0:I[n]? = some id:=by simpa using U 0 id (by simp)
        obtain⟨l,h6,h7⟩:=h1;refine⟨⟨.one (.ptr n 0)::svs,by simp only[bA_,F],.cons ⟨l,by unfold gOf;rw[h0];exact h6,h7⟩ M⟩,λi o s=>?_,by simp only[qLc,J,ar_];omega⟩;simp only[aY_,qV,qC]at s;rcases s with⟨rfl,rfl⟩|s
        .exact⟨id,_,_,h0,hi,rfl,false,_,[],0,t,[],(V,[]),0,rfl,(λ_ _ e=>nomatch e),takeM_nil hh,by rw[ownC_nil];unfold TE.cells;rw[E.fl_ufl];rfl,λj id' hj=>by simp at hj⟩
        .exact D i o s
       .cases h
      .cases h
     | _=>simp[takeA]at h
    | bm T t m px=>
     cases x with
     | agg l=>simp[takeA]at h
     | one c=>
     cases c with
     | ptr id off=>
      cases off with
      | succ off=>simp[takeA]at h
      | zero=>
      simp only[takeA]at h;split at h
      .rename_i T' ZQ hi;split at h
       .rename_i cs ZY hP;split at h
        .rename_i Y G;split at h
         .rename_i d hb V;obtain rfl:=qSj h;simp only[qAn]at hb;obtain⟨hb,ZX⟩:=hb;obtain rfl:=qNb hb;have ZU:∀j id',(d.2++Y.2)[j]? = some id'->I[n+1+j]? = some id':=λj id' hj=>by
           have:=U (j+1) id' (by simpa using hj)
           rwa [show n+1+j=n+(j+1)by omega]
          obtain⟨i1,i2⟩:=mz_ ZU;obtain⟨e7,e8⟩:=mG_ (n:=n+1) V i1;obtain⟨ZR,h3,h4⟩:∃us,All2 (R1 P E z g) (ZY++xs) (us++vs')/\us.length=ZY.length:=by
           obtain⟨lb,vsb,_,_,ZV⟩:=hH.hold _ _ hi;exact takeP_val hP ZV h2
          obtain⟨⟨svs,F,M⟩,D,J⟩:=Z G i2 h3;rw[e8]at F D;have h0:I[n]? = some id:=by simpa using U 0 id (by simp)
          obtain⟨l,h6,h7⟩:=h1;obtain⟨svs',e5,e6⟩:=dropP_val hP h4 M;refine⟨⟨.one (.ptr n 0)::svs',by simp only[bA_,F,e5],.cons ⟨l,by unfold gOf;rw[h0];exact h6,h7⟩ e6⟩,λi o s=>?_,by simp only[qLc,qLa,e8,J,ar_];omega⟩;simp only[aY_,qV,qW,qC,E.fl_ufl]at s;rcases s with⟨rfl,rfl⟩|s|s
          .exact⟨id,_,_,h0,hi,rfl,_,cs,ZY,_,t,m,d,_,hP,(λZW o2 e=>by
            subst e;rw[e8]at i2;exact i2 0 ZW (hidB_val ZX)),V,rfl,i1⟩
          .exact e7 i o s
          .exact D i o s
         .cases h
        .cases h
       .cases h
      .cases h
     | _=>simp[takeA]at h
    | mp T k v=>
     cases x with
     | agg l=>simp[takeA]at h
     | one c=>
     cases c with
     | mp id=>
      simp only[takeA]at h;split at h
      .rename_i T' k' v' ks vs foc Y hi G;split at h
       .rename_i ht;obtain⟨rfl,rfl⟩:=ht;split at h
        .rename_i hb;obtain rfl:=qSj h;obtain rfl:=qNb hb;obtain⟨⟨svs,F,M⟩,D,J⟩:=Z (n:=n+1) G (λj id' hj=>by
          have:=U (j+1) id' (by simpa using hj)
          rwa [show n+1+j=n+(j+1)by omega]) h2
         have h0:I[n]? = some id:=by simpa using U 0 id (by simp)
         obtain⟨l,h6,h7⟩:=h1;refine⟨⟨.one (.mp n)::svs,by simp only[bA_,F],.cons ⟨l,by unfold gOf;rw[h0];exact h6,h7⟩ M⟩,λi o s=>?_,by simp only[qLc,J,ar_];omega⟩;simp only[aY_,qV,qC]at s;rcases s with⟨rfl,rfl⟩|s
         .exact⟨id,_,_,h0,hi,rfl,rfl⟩
         .exact D i o s
        .cases h
       .cases h
      .cases h
     | _=>simp[takeA]at h
    | p t=>
     cases x with
     | agg l=>simp[takeA]at h
     | one c=>
     cases c with
     | elf t' x' off=>
      cases off with
      | succ off=>simp[takeA]at h
      | zero=>
      simp only[takeA]at h;split at h
      .rename_i ZZ;subst ZZ;split at h
       .rename_i Y G;obtain rfl:=qSj h;obtain⟨⟨svs,F,M⟩,D,J⟩:=Z G U h2;exact⟨⟨.one (.elf t' x' 0)::svs,by simp only[bA_,F],.cons h1 M⟩,D,J⟩
       .cases h
      .cases h
     | ptr id off=>
      cases off with
      | succ off=>simp[takeA]at h
      | zero=>
      simp only[takeA]at h;split at h
      .rename_i t' x' hi;split at h
       .rename_i ZZ;subst ZZ;split at h
        .rename_i Y G;obtain rfl:=qSj h;obtain⟨⟨svs,F,M⟩,D,J⟩:=Z G U h2;obtain⟨l,h7,rfl⟩:=h1;obtain⟨l',r,h8,h9,ZS,ZT⟩:=hH.hold _ _ hi;rw[h7]at h8;obtain rfl:=qSj h8;exact⟨⟨.one (.elf t' x' 0)::svs,by simp only[bA_,F],.cons ⟨l.b,0,r,rfl,h9,ZS,λj u hj=>by rw[qj];exact ZT j u hj⟩ M⟩,D,J⟩
        .cases h
       .cases h
      .cases h
     | _=>simp[takeA]at h
    | f1 a r=>
     cases x with
     | agg l=>simp[takeA]at h
     | one c=>
      simp only[takeA]at h;split at h
      .rename_i f Y hf G;obtain rfl:=qSj h;obtain⟨⟨svs,F,M⟩,D,J⟩:=Z G U h2;exact⟨⟨.one (.fn1 a r f)::svs,by simp only[bA_,F],.cons (takeF1_ok ht hH hf h1) M⟩,D,J⟩
      .cases h
    | f2 a c r=>
     cases x with
     | agg l=>simp[takeA]at h
     | one c=>
      simp only[takeA]at h;split at h
      .rename_i f Y hf G;obtain rfl:=qSj h;obtain⟨⟨svs,F,M⟩,D,J⟩:=Z G U h2;exact⟨⟨.one (.fn2 a _ r f)::svs,by simp only[bA_,F],.cons (takeF2_ok ht hH hf h1) M⟩,D,J⟩
      .cases h
theorem i0_{i:Nat}{o:Obj E}:∀{l:Chs E},upH (λ_=>none) l i=some o->(i,some o)∈l
 | [],h=>by cases h
 | (j,p)::l,h=>by
  simp only[upH]at h;split at h
  .rename_i f;obtain rfl:=qNb f;subst h;exact qR ..
  .exact qL _ (i0_ h)
def blk(H:Nat->tO (Obj E))(g:Ga)(id:Nat):tL Nat:=match H id,g id with
 | some (.row ..),some l=>match l.A with
  | some a=>[a.block]
  | none=>[]
 | some (.box ..),some l=>[l.b]
 | some (.map ..),some l=>[l.b]
 | _,_=>[]
theorem mem_blk{id k:Nat}:k∈blk H g id↔∃o,H id=some o/\fpO g id o k:=by
 unfold blk;cases hi:H id with
 | none=>simp
 | some o=>
  cases f:g id with
  | none=>cases o<;>simp[fpO,f]
  | some l=>
   cases o with
   | box T cs=>simp[fpO,f]
   | row e t xs foc=>
    cases h:l.A with
    | none=>simp[fpO,f,h]
    | some a=>simp[fpO,f,h]
   | fr t xs=>simp[fpO]
   | fb t x=>simp[fpO]
   | map T k v ks vs foc=>simp[fpO,f]
theorem r4_{I:tL Nat}(h:nodupB I=true):∀{i j id:Nat},I[i]? = some id->I[j]? = some id->i=j:=by
 induction I with
 | nil=>intro i j id h;simp at h
 | cons x I m=>
  intro i j id hi f;simp only[nodupB,qAn,qF]at h;have hx:∀k,I[k]? = some x->False:=λk p=>by
   have:=qa p;have h1:=h.1;simp at h1;exact h1 this
  cases i with
  | zero=>
   cases j with
   | zero=>rfl
   | succ j=>simp at hi f;subst hi;exact(hx j f).elim
  | succ i=>
   cases j with
   | zero=>simp at hi f;subst f;exact(hx i hi).elim
   | succ j=>simp at hi f;rw[m h.2 hi f]
theorem Cor.obj{I:tL Nat}{i id:Nat}{y o2:Obj E}(O:HR P E Bs F0 w0 w z g H)(j:Cor E H I y o2)(hi:I[i]? = some id)(h:ObjR P E z g w id y):ObjR P E z (gOf g I) w i o2/\∀k,fpO (gOf g I) i o2 k↔fpO g id y k:=by
 have f:gOf g I i=g id:=by unfold gOf;rw[hi]
 cases y with
 | row e t xs foc=>
  simp only[Cor]at j;subst j;obtain⟨l,rows,h1,D,C,u,s,V,U,_⟩:=h;refine⟨⟨l,rows,by rw[f];exact h1,D,C,u,s,V,U,λp q=>nomatch q⟩,λk=>?_⟩;simp only[fpO,f]
 | box T cs=>
  obtain⟨px,cs',G,p,t,m,d,k,M,q,J,rfl,F⟩:=j;obtain⟨l,vs,h1,u,s⟩:=h;exact⟨⟨l,vs,by rw[f];exact h1,u,box_val O M q J F s⟩,λk=>by simp only[fpO,f]⟩
 | fr t xs=>exact j.elim
 | fb t x=>exact j.elim
 | map T k v ks vs foc=>
  obtain rfl:o2 = .map T k v ks vs []:=j;obtain⟨l,es,c,h1,u,s,_⟩:=h;exact⟨⟨l,es,c,by rw[f];exact h1,u,s,λp q=>nomatch q⟩,λk=>by simp only[fpO,f]⟩
theorem HR.entry(u:HR P E Bs F0 w0 w z g H){I:tL Nat}(U:nodupB I=true){l:Chs E}(V:∀i o,(i,o)∈l->∃id f o2,I[i]? = some id/\H id=some f/\o=some o2/\Cor E H I f o2) :
  HR P E (I.map (blk H g)).flatten z.F w w z (gOf g I) (upH (λ_=>none) l):=by
 have key:∀i o,upH (λ_=>none) l i=some o->∃id f,I[i]? = some id/\H id=some f/\ObjR P E z (gOf g I) w i o/\∀k,fpO (gOf g I) i o k↔fpO g id f k:=λi o h=>by
  obtain⟨id,f,o2,h1,m,Z,Y⟩:=V i _ (i0_ h);obtain rfl:=qSj Z;obtain⟨G,s⟩:=Y.obj u h1 (u.hold _ _ m);exact⟨id,f,h1,m,G,s⟩
 refine⟨Chg.of_below (Below.refl _ _),λi o h=>?_,λi o k h q=>?_,λi j o p k C h h' q y=>?_,u.fz,λk q=>.inl q,λi o k h q O=>?_,u.gl⟩
 .obtain⟨_,_,_,_,G,_⟩:=key i o h;exact G
 .obtain⟨id,f,h1,m,_,s⟩:=key i o h
  right
  refine zg.2 ⟨blk H g id,zZ.2 ⟨id,qa h1,rfl⟩,?_⟩;exact mem_blk.2 ⟨f,m,(s k).1 q⟩
 .obtain⟨id,f,h1,m,_,s⟩:=key i o h;obtain⟨id',x,M,J,_,D⟩:=key j p h';refine u.apart id id' f x k (λe=>?_) m J ((s k).1 q) ((D k).1 y);subst e;exact C (r4_ U h1 M)
 .obtain⟨id,f,h1,m,_,s⟩:=key i o h;exact u.fza id f k m ((s k).1 q) O
theorem kk_{I:tL Nat}{k:Nat}(h:k∈(I.map (blk H g)).flatten):∃(i id:Nat) (o:Obj E),I[i]? = some id/\H id=some o/\fpO g id o k:=by
 obtain⟨l,j,m⟩:=zg.1 h;obtain⟨id,f,rfl⟩:=zZ.1 j;obtain⟨i,hi⟩:=qH.1 f;obtain⟨o,h1,p⟩:=mem_blk.1 m;exact⟨i,id,o,hi,h1,p⟩
theorem HR.back2{zb z2:Fz}{g1 g2:Ga}{Hb H1 H2:Nat->tO (Obj E)}{J:tL Nat}{Fe:Nat->Prop}{I:tL Nat}{s:Nat->Nat->Prop}(u:HR P E Bs F0 w0 w zb g Hb)(hx:HR P E J Fe w w' z' g1 H1)
  (hB:∀k,k∈J->∃id o,id∈I/\Hb id=some o/\fpO g id o k) (hg:g.Le g2)
  (hH:∀j o,H2 j=some o->(∃i y,s j i/\H1 i=some y/\(ObjR P E z2 g2 w' j o/\∀k,fpO g2 j o k↔fpO g1 i y k))\/(j∉I/\Hb j=some o)) (hs:∀j M i,s j i->s M i->j=M)
  (hz:zb.Le z2) (ZW:z2.In w') (V:∀k,z2.F k->zb.F k\/((w.heap.size<=k\/k∈J)/\z'.F k)):HR P E Bs F0 w0 w' z2 g2 H2:=by
 have O:∀j o k,Hb j=some o->fpO g j o k->k<w.heap.size:=λj o k h m=>(u.hold j o h).lt m
 have D:∀j o k,j∉I->Hb j=some o->fpO g j o k->k∉J:=λj o k hj h m Y=>by
  obtain⟨id,o',h1,f,q⟩:=hB k Y;exact u.apart j id o o' k (λe=>hj (e▸h1)) h f m q
 have G:∀j o k,Hb j=some o->(fpO g2 j o k↔fpO g j o k):=λj o k h=>hu_ (u.hold j o h).loc hg
 have new:∀i y k,H1 i=some y->fpO g1 i y k->w.heap.size<=k\/k∈J:=λi y k f q=>hx.own i y k f q
 refine⟨⟨u.chg.grow.trans hx.chg.grow,λk m hn=>?_⟩,λj o h=>?_,λj o k h m=>?_,λj M o p k hj h h' m C=>?_,ZW,λk m=>?_,λj o k h m ZY=>?_,u.gl.le hz⟩
 .rw[hx.chg.block k (zS m u.size) λY=>?_]
  .exact u.chg.block k m hn
  .obtain⟨id,o',h1,f,q⟩:=hB k Y;rcases u.own id o' k f q with h4|h4
   .omega
   .exact hn h4
 .rcases hH j o h with⟨i,y,h1,f,U⟩|⟨h1,f⟩
  .exact U.1
  .exact(u.hold j o f).keep hz hg λk m=>hx.chg.block k (O j o k f m) (D j o k h1 f m)
 .rcases hH j o h with⟨i,y,h1,f,U⟩|⟨h1,f⟩
  .rcases new i y k f ((U.2 k).1 m)with q|q
   .exact .inl (qN u.size q)
   .obtain⟨id,o',h4,h5,h6⟩:=hB k q;exact u.own id o' k h5 h6
  .exact u.own j o k f ((G j o k f).1 m)
 .rcases hH j o h with⟨i,y,h1,f,U⟩|⟨h1,f⟩<;>rcases hH M p h' with⟨i',ZZ,Z,x,ZX⟩|⟨Z,x⟩
  .refine hx.apart i i' y ZZ k (λe=>hj (hs j M i h1 (e▸Z))) f x ((U.2 k).1 m) ((ZX.2 k).1 C)
  .have C:=(G M p k x).1 C;rcases new i y k f ((U.2 k).1 m)with q|q
   .have:=O M p k x C;omega
   .exact D M p k Z x C q
  .have m:=(G j o k f).1 m;rcases new i' ZZ k x ((ZX.2 k).1 C)with q|q
   .have:=O j o k f m;omega
   .exact D j o k h1 f m q
  .exact u.apart j M o p k hj f x ((G j o k f).1 m) ((G M p k x).1 C)
 .rcases V k m with h1|⟨h1|h1,_⟩
  .exact u.fz0 k h1
  .exact .inr (.inl (qN u.size h1))
  .obtain⟨id,o',_,h5,h6⟩:=hB k h1;exact .inr (u.own id o' k h5 h6)
 .rcases hH j o h with⟨i,y,h1,f,U⟩|⟨h1,f⟩
  .rcases V k ZY with q|⟨_,q⟩
   .rcases new i y k f ((U.2 k).1 m)with h4|h4
    .have:=(u.fz k q).1;omega
    .obtain⟨id,o',_,h6,h7⟩:=hB k h4;exact u.fza id o' k h6 h7 q
   .exact hx.fza i y k f ((U.2 k).1 m) q
  .have m:=(G j o k f).1 m;rcases V k ZY with q|⟨q|q,_⟩
   .exact u.fza j o k f m q
   .have:=O j o k f m;omega
   .exact D j o k h1 f m q
theorem HR.back{zb z2:Fz}{g1 m:Ga}{Hb u C:Nat->tO (Obj E)}{f:tL Nat}{Fe:Nat->Prop}{I:tL Nat}{s:Nat->Nat->Prop}(M:HR P E Bs F0 w0 w zb g Hb)(hx:HR P E f Fe w w' z' g1 u)
  (V:∀k,k∈f->∃id o,id∈I/\Hb id=some o/\fpO g id o k) (J:g.Le m)
  (U:∀j o,C j=some o->(∃i,s j i/\u i=some o)\/(j∉I/\Hb j=some o)) (G:∀j x i,s j i->s x i->j=x)
  (O:∀j i o,s j i->u i=some o->ObjR P E z2 m w' j o/\∀k,fpO m j o k↔fpO g1 i o k)
  (D:zb.Le z2) (q:z2.In w') (p:∀k,z2.F k->zb.F k\/((w.heap.size<=k\/k∈f)/\z'.F k)):HR P E Bs F0 w0 w' z2 m C:=
 M.back2 hx V J (λj o h=>(U j o h).imp (λ⟨i,h1,y⟩=>⟨i,o,h1,y,O j i o h1 y⟩) id) G D q p
def gS_ (E:TE) (H:Nat->tO (Obj E)):tL Nat->Chs E
 | []=>[]
 | id::ids=>(match upH H (gS_ E H ids) id with
  | some (.box T cs)=>match E.ty T with
   | some t=>match bP_ E (upH H (gS_ E H ids)) (E.flat t) cs with
    | some h=>[(id,some (.fb t (E.ufl t h)))]
    | none=>[]
   | none=>[]
  | _=>[])++gS_ E H ids
theorem p9_(h:HR P E Bs F0 w0 w z g H):∀(l:tL Nat),∃z',z.Le z'/\HR P E Bs F0 w0 w z' g (upH H (gS_ E H l))
 | []=>⟨z,Fz.Le.refl z,h⟩
 | id :: l=>by
  obtain⟨m,h1,f⟩:=p9_ h l;unfold gS_;split
  .rename_i T cs hi;split
   .rename_i t C;split
    .rename_i y u;refine⟨_,h1.trans (f.fz.grow_le _),f.freezeBox (t:=t) (x:=E.ufl t y) hi (λvs p=>?_) λj q s=>?_⟩
     .rw[E.fl_ufl];exact ds_ f u p
     .rw[←aJ_]at s;exact aP_ s
    .exact⟨m,h1,f⟩
   .exact⟨m,h1,f⟩
  .exact⟨m,h1,f⟩
def unM:Mk->tL (SC E)->tL (SC E)|some _::f,_::cs=>unM f cs|none::f,c::cs=>c::unM f cs|[],cs=>cs|_,[]=>[]
def frzF(E:TE)(H:Nat->tO (Obj E)):tL (SC E)->Chs E|[.clo _ ids]=>gS_ E H ids|[.ptr id 0]=>gS_ E H [id]|_=>[]
def frzB(E:TE)(H:Nat->tO (Obj E))(m:Mk):tL (SC E)->Chs E
 | [.ptr id 0]=>match H id with
  | some (.box _ (.ptr _ _::cs))=>dD_ H (unM m cs)
  | some (.box _ cs)=>dD_ H (unM m cs)
  | _=>[]
 | _=>[]
def frzQ(E:TE)(H:Nat->tO (Obj E)):Pm->V1 E->Chs E|.d _,x=>dD_ H x.cs|.l _ m,x=>dD_ H (unM m x.cs)|.g _ m,x=>dD_ H (unM m x.cs)|.b _ _,_=>[]|.bm _ _ m _,x=>frzB E H m x.cs|.mp _ _ _,_=>[]|_,x=>frzF E H x.cs
def hidX(H:Nat->tO (Obj E))(px:tV)(id:Nat):tL (V1 E):=match px,H id with|true,some (.box _ (.ptr f 0::_))=>[.one (.ptr f 0)]|_,_=>[]
def hidP(H:Nat->tO (Obj E))(p:Pm)(ps:tL Pm)(x:V1 E):tL (V1 E):=match p,x with|.bm _ _ _ px,.one (.ptr id 0)=>hidX H (pxB px ps) id|_,_=>[]
def frzP(E:TE)(H:Nat->tO (Obj E)):tL Pm->tL (V1 E)->Chs E|p::ps,x::xs=>frzQ E (upH H (frzP E H ps (hidP H p ps x++xs))) p x++frzP E H ps (hidP H p ps x++xs)|_,_=>[]
theorem frzF_ok(h:HR P E Bs F0 w0 w z g H)(l:tL (SC E)):∃z',z.Le z'/\HR P E Bs F0 w0 w z' g (upH H (frzF E H l)):=by
 unfold frzF;split
 .exact p9_ h _
 .exact p9_ h _
 .exact⟨z,Fz.Le.refl z,h⟩
theorem frzB_ok(h:HR P E Bs F0 w0 w z g H)(m:Mk)(l:tL (SC E)):∃z',z.Le z'/\HR P E Bs F0 w0 w z' g (upH H (frzB E H m l)):=by
 unfold frzB;split
 .split
  .exact di_ h _
  .exact di_ h _
  .exact⟨z,Fz.Le.refl z,h⟩
 .exact⟨z,Fz.Le.refl z,h⟩
theorem frzQ_ok(h:HR P E Bs F0 w0 w z g H)(p:Pm)(x:V1 E):∃z',z.Le z'/\HR P E Bs F0 w0 w z' g (upH H (frzQ E H p x)):=by
 cases p with
 | d t=>exact di_ h _
 | l t m=>exact di_ h _
 | g t m=>exact di_ h _
 | b T t=>exact⟨z,Fz.Le.refl z,h⟩
 | bm T t m px=>exact frzB_ok h _ _
 | mp T k v=>exact⟨z,Fz.Le.refl z,h⟩
 | p t=>exact frzF_ok h _
 | f1 a r=>exact frzF_ok h _
 | f2 a b r=>exact frzF_ok h _
theorem frzP_ok(h:HR P E Bs F0 w0 w z g H):∀(ps:tL Pm) (xs:tL (V1 E)),∃z',z.Le z'/\HR P E Bs F0 w0 w z' g (upH H (frzP E H ps xs))
 | [],_=>⟨z,Fz.Le.refl z,h⟩
 | _::_,[]=>⟨z,Fz.Le.refl z,h⟩
 | p::ps,x::xs=>by
  obtain⟨q,h1,m⟩:=frzP_ok h ps (hidP H p ps x++xs);obtain⟨z2,j,f⟩:=frzQ_ok m p x;rw[aJ_]at f;exact⟨z2,h1.trans j,f⟩
def OnlyF(u:Chs E):Prop:=∀i o,(i,o)∈u->(∃t xs,o=some (.fr t xs))\/∃t x,o=some (.fb t x)
theorem OnlyF.append{u v:Chs E}(h:OnlyF u)(f:OnlyF v):OnlyF (u++v):=λi o hm=>by
 rcases qW.1 hm with hm|hm
 .exact h i o hm
 .exact f i o hm
theorem frz1_only(H:Nat->tO (Obj E))(c:SC E):OnlyF (frz1 H c):=by
 unfold frz1;split
 .split
  .intro i o hm;simp only[qT,qC]at hm;exact .inl ⟨_,_,hm.2⟩
  .intro i o hm;cases hm
 .split
  .intro i o hm;simp only[qT,qC]at hm;exact .inl ⟨_,_,hm.2⟩
  .intro i o hm;cases hm
 .intro i o hm;cases hm
theorem i1_(H:Nat->tO (Obj E)):∀(l:tL (SC E)),OnlyF (dD_ H l)
 | []=>λi o hm=>by cases hm
 | c::l=>(frz1_only _ c).append (i1_ H l)
theorem mI_(H:Nat->tO (Obj E)):∀(l:tL Nat),OnlyF (gS_ E H l)
 | []=>λi o hm=>by cases hm
 | id::l=>by
  unfold gS_;refine OnlyF.append ?_ (mI_ H l);split
  .split
   .split
    .intro i o hm;simp only[qT,qC]at hm;exact .inr ⟨_,_,hm.2⟩
    .intro i o hm;cases hm
   .intro i o hm;cases hm
  .intro i o hm;cases hm
theorem r5_(H:Nat->tO (Obj E))(l:tL (SC E)):OnlyF (frzF E H l):=by
 unfold frzF;split
 .exact mI_ H _
 .exact mI_ H _
 .intro i o hm;cases hm
theorem frzB_only(H:Nat->tO (Obj E))(m:Mk)(l:tL (SC E)):OnlyF (frzB E H m l):=by
 unfold frzB;split
 .split
  .exact i1_ H _
  .exact i1_ H _
  .intro i o hm;cases hm
 .intro i o hm;cases hm
theorem frzP_only(H:Nat->tO (Obj E)):∀(ps:tL Pm) (xs:tL (V1 E)),OnlyF (frzP E H ps xs)
 | [],_=>λi o hm=>by simp[frzP]at hm
 | _::_,[]=>λi o hm=>by simp[frzP]at hm
 | p::ps,x::xs=>by
  refine OnlyF.append ?_ (frzP_only H ps (hidP H p ps x++xs));cases p with
  | d t=>exact i1_ _ _
  | l t m=>exact i1_ _ _
  | g t m=>exact i1_ _ _
  | b T t=>intro i o hm;cases hm
  | bm T t m px=>exact frzB_only _ _ _
  | mp T k v=>intro i o hm;cases hm
  | p t=>exact r5_ _ _
  | f1 a r=>exact r5_ _ _
  | f2 a b r=>exact r5_ _ _
theorem upH_or{i:Nat}{o:Obj E}:∀{u:Chs E},upH H u i=some o->H i=some o\/(i,some o)∈u
 | [],h=>.inl h
 | (j,p)::u,h=>by
  simp only[upH]at h;split at h
  .rename_i f;obtain rfl:=qNb f;subst h;exact .inr (qR ..)
  .rcases upH_or h with h|h
   .exact .inl h
   .exact .inr (qL _ h)
theorem RD.flat:∀{ts:tL Ty} {h:HL E.S ts} {vs:tL tW},ts.all Ty.flatB=true->RD E z ts h vs->RD E z' ts h vs
 | [],h,vs,_,r=>by rw[r.nil_inv];exact .nil
 | .int k::ts,h,vs,f,r=>by
  obtain⟨vs',rfl,r'⟩:=r.int_inv;exact .int (RD.flat (by simpa[Ty.flatB]using f) r')
 | .bool::ts,h,vs,f,r=>by
  obtain⟨vs',rfl,r'⟩:=r.bool_inv;exact .bool (RD.flat (by simpa[Ty.flatB]using f) r')
 | .str::ts,h,vs,f,r=>by
  obtain⟨vs',rfl,r'⟩:=r.str_inv;exact .str (RD.flat (by simpa[Ty.flatB]using f) r')
 | .sl e::ts,h,vs,f,r=>by simp[Ty.flatB]at f
 | .st n::ts,h,vs,f,r=>by simp[Ty.flatB]at f
def flatT(E:TE)(t:Ty):tV:=(E.flat t).all Ty.flatB
theorem Rows.flat{t:Ty}{xs:tL (Den E.S t)}{rows:tL (tL tW)}(f:flatT E t=true)(h:Rows E z t xs rows):Rows E z' t xs rows:=λi x r h1 j=>(h i x r h1 j).flat f
def gT_(E:TE):Mk->tL Ty->tV|some _::f,.sl t::ts=>flatT E t&&gT_ E f ts|none::f,t::ts=>t.flatB&&gT_ E f ts|_,ts=>ts.all Ty.flatB
def l6_(E:TE):Mk->tL Ty->tV|some _::f,.sl t::ts=>flatT E t&&l6_ E f ts|none::f,_::ts=>l6_ E f ts|_,_=>true
def jj_(E:TE):Rs->tV|[]=>true|p::rs=>gT_ E p.2 (E.flat p.1)&&jj_ E rs
def eT_(E:TE):tL Pm->tV|[]=>true|.l t m::ps=>l6_ E m (E.flat t)&&eT_ E ps|.g _ _::ps=>eT_ E ps|.b _ t::ps=>flatT E t&&eT_ E ps|.bm _ t m _::ps=>gT_ E m (E.flat t)&&eT_ E ps|_::ps=>eT_ E ps
theorem flatM_O:∀{m:Mk} {ts:tL Ty},gT_ E m ts=true->l6_ E m ts=true:=by
 intro m
 induction m with
 | nil=>intro ts _;cases ts<;>rfl
 | cons a m f=>
  intro ts h;cases ts with
  | nil=>cases a<;>rfl
  | cons t ts=>
   cases a with
   | none=>simp only[gT_,qAn]at h;simp only[l6_];exact f h.2
   | some e=>
    cases t with
    | sl t=>simp only[gT_,qAn]at h;simp only[l6_,qAn];exact⟨h.1,f h.2⟩
    | _=>rfl
def FlatC:SC E->Prop|.dt t _=>t.flatB=true|.own _=>True|.ptr _ _=>True|_=>False
def kl_(E:TE):Obj E->Prop|.row _ t _ foc=>flatT E t=true/\foc=[]|.map _ _ _ _ _ foc=>foc=[]|.box _ cs=>∀c∈cs,FlatC c|_=>False
theorem qb_:∀{ts:tL Ty} {h:HL E.S ts},ts.all Ty.flatB=true->∀c∈hlc E ts h,FlatC c
 | [],_,_,_,f=>by cases f
 | t::ts,h,j,c,f=>by
  simp only[jQ,qAn]at j;simp only[hlc]at f;rcases qV.1 f with rfl|f
  .exact j.1
  .exact qb_ j.2 c f
theorem ownC_flat{m:Mk}:∀{ts:tL Ty} {h:HL E.S ts} {n:Nat},gT_ E m ts=true->∀c∈bp_ E m ts h n,FlatC c:=by
 induction m with
 | nil=>intro ts h n j;cases ts<;>exact qb_ j
 | cons a m p=>
  intro ts h n j;cases ts with
  | nil=>cases a<;>(intro c f;cases f)
  | cons t ts=>
   cases a with
   | none=>
    simp only[gT_,qAn]at j;intro c f;simp only[bp_]at f;rcases qV.1 f with rfl|f
    .exact j.1
    .exact p j.2 c f
   | some e=>
    cases t with
    | sl t=>
     simp only[gT_,qAn]at j;intro c f;simp only[bp_]at f;rcases qV.1 f with rfl|f
     .trivial
     .exact p j.2 c f
    | _=>exact qb_ j
theorem r6_{m:Mk}:∀{ts:tL Ty} {h:HL E.S ts} {n:Nat},l6_ E m ts=true->∀i o,(i,o)∈aT_ E m ts h n->∃p,o=some p/\kl_ E p:=by
 induction m with
 | nil=>intro ts h n _ i o f;cases ts<;>simp[aT_]at f
 | cons a m q=>
  intro ts h n j i o f;cases ts with
  | nil=>cases a<;>simp[aT_]at f
  | cons t ts=>
   cases a with
   | none=>simp only[l6_]at j;simp only[aT_]at f;exact q j i o f
   | some e=>
    cases t with
    | sl t=>
     simp only[l6_,qAn]at j;simp only[aT_,qV,qC]at f;rcases f with⟨rfl,rfl⟩|f
     .exact⟨_,rfl,j.1,rfl⟩
     .exact q j.2 i o f
    | _=>simp[aT_]at f
theorem r7_:∀{rs:Rs} {h:HL E.S rs.ts} {n:Nat},jj_ E rs=true->∀i o,(i,o)∈cA_ E rs h n->∃p,o=some p/\kl_ E p
 | [],h,n,_,i,o,f=>by simp[cA_]at f
 | (t,m)::rs,h,n,j,i,o,f=>by
  simp only[jj_,qAn]at j;simp only[cA_,qW]at f;rcases f with f|f
  .exact r6_ (flatM_O j.1) i o f
  .exact r7_ j.2 i o f
theorem cB_:∀{ps:tL Pm} {a:PA E ps} {n k:Nat},eT_ E ps=true->∀i o,(i,o)∈aM_ E ps a n k->∃p,o=some p/\kl_ E p
 | [],a,n,k,_,i,o,f=>by simp[aM_]at f
 | .l t m::ps,a,n,k,h,i,o,f=>by
  simp only[eT_,qAn]at h;simp only[aM_,qW]at f;rcases f with f|f
  .exact r6_ h.1 i o f
  .exact cB_ h.2 i o f
 | .b T t::ps,a,n,k,h,i,o,f=>by
  simp only[eT_,qAn]at h;simp only[aM_,qV,qC]at f;rcases f with⟨rfl,rfl⟩|f
  .exact⟨_,rfl,qb_ h.1⟩
  .exact cB_ h.2 i o f
 | .bm T t m px::ps,a,n,k,h,i,o,f=>by
  simp only[eT_,qAn]at h;simp only[aM_,qV,qW,qC]at f;rcases f with⟨rfl,rfl⟩|f|f
  .refine⟨_,rfl,λc j=>?_⟩;rcases qW.1 j with j|j
   .cases hx:pxB px ps<;>rw[hx]at j
    .cases j
    .obtain rfl:=qT.1 j
     trivial
   .exact ownC_flat h.1 c j
  .exact r6_ (flatM_O h.1) i o f
  .exact cB_ h.2 i o f
 | .g t m::ps,a,n,k,h,i,o,f=>cB_ (ps:=ps) (a:=a.2) h i o f
 | .mp T kt v::ps,a,n,k,h,i,o,f=>by
  simp only[aM_,qV,qC]at f;rcases f with⟨rfl,rfl⟩|f
  .exact⟨_,rfl,rfl⟩
  .exact cB_ (ps:=ps) h i o f
 | .d t::ps,a,n,k,h,i,o,f=>cB_ (ps:=ps) (a:=a.2) h i o f
 | .p t::ps,a,n,k,h,i,o,f=>cB_ (ps:=ps) (a:=a.2) h i o f
 | .f1 x r::ps,a,n,k,h,i,o,f=>cB_ (ps:=ps) (a:=a.2) h i o f
 | .f2 x y r::ps,a,n,k,h,i,o,f=>cB_ (ps:=ps) (a:=a.2) h i o f
def PlainC(K:Nat->Prop):SC E->Prop|.dt _ _=>True|.own id=>K id|.ptr id _=>K id|_=>False
theorem nG_{K:Nat->Prop}:∀{ts:tL Ty} {h:HL E.S ts},∀c∈hlc E ts h,PlainC K c
 | [],_,_,f=>by cases f
 | t::ts,h,c,f=>by
  simp only[hlc]at f;rcases qV.1 f with rfl|f
  .trivial
  .exact nG_ c f
theorem ownC_plain{K:Nat->Prop}{m:Mk}:∀{ts:tL Ty} {h:HL E.S ts} {n:Nat},(∀i,i<aC_ m ts->K (n+i))->∀c∈bp_ E m ts h n,PlainC K c:=by
 induction m with
 | nil=>intro ts h n _;cases ts<;>exact nG_
 | cons a m p=>
  intro ts h n j;cases ts with
  | nil=>cases a<;>(intro c f;cases f)
  | cons t ts=>
   cases a with
   | none=>
    intro c f;simp only[bp_]at f;rcases qV.1 f with rfl|f
    .trivial
    .exact p j c f
   | some e=>
    cases t with
    | sl t=>
     intro c f;simp only[bp_]at f;rcases qV.1 f with rfl|f
     .exact j 0 (by simp only[aC_];omega)
     .refine p (n:=n+1) (λi hi=>?_) c f;have:=j (i+1) (by simp only[aC_];omega)
      rwa [show n+1+i=n+(i+1)by omega]
    | _=>exact nG_
theorem RC.ren{K:Nat->Prop}{s:Nat->Nat}{c:SC E}{v:tW}(j:PlainC K c)(p:∀i l,K i->g i=some l->g' (s i)=some l)(f:z=z'\/FlatC c)(h:RC P E z g c v):RC P E z' g' (SC.ren s c) v:=by
 cases c with
 | dt t x=>
  rcases f with rfl|f
  .exact h
  .exact RD.flat (ts:=[t]) (by simpa[FlatC]using f) h
 | own id=>
  obtain⟨l,h1,m⟩:=h;exact⟨l,p id l j h1,m⟩
 | ptr id off=>
  obtain⟨l,h1,m⟩:=h;exact⟨l,p id l j h1,m⟩
 | _=>exact j.elim
theorem RCs.ren{K:Nat->Prop}{s:Nat->Nat}(q:∀i l,K i->g i=some l->g' (s i)=some l):∀{cs:tL (SC E)} {vs:tL tW},(∀c∈cs,PlainC K c)->(z=z'\/∀c∈cs,FlatC c)->All2 (RC P E z g) cs vs->All2 (RC P E z' g') (cs.map (SC.ren s)) vs
 | [],_,_,_,h=>by cases h;exact .nil
 | c::cs,_,p,m,h=>by
  cases h with
  | cons h1 u=>exact .cons (h1.ren (p c (qR ..)) q (m.imp id λf=>f c (qR ..))) (RCs.ren q (λd j=>p d (qL _ j)) (m.imp id λf d j=>f d (qL _ j)) u)
def Plain(E:TE)(K:Nat->Prop):Obj E->Prop|.row _ _ _ foc=>foc=[]|.map _ _ _ _ _ foc=>foc=[]|.box _ cs=>∀c∈cs,PlainC K c|_=>False
theorem ObjR.move2{K:Nat->Prop}{s:Nat->Nat}{i j:Nat}{o:Obj E}(f:Plain E K o)(G:∀i l,K i->g i=some l->g' (s i)=some l)(y:z=z'\/kl_ E o)(m:g' j=g i)(h:ObjR P E z g w i o):ObjR P E z' g' w j (Obj.ren s o)/\∀k,fpO g' j (Obj.ren s o) k↔fpO g i o k:=by
 cases o with
 | row e t xs foc=>
  simp only[Plain]at f;subst f;obtain⟨l,rows,h1,D,F,u,q,J,C,_⟩:=h;refine⟨⟨l,rows,by rw[m];exact h1,D,F,u,q,J,?_,λp f=>nomatch f⟩,λk=>by simp only[Obj.ren,fpO,m]⟩;rcases y with rfl|y
  .exact C
  .exact C.flat y.1
 | box T cs=>
  obtain⟨l,vs,h1,u,q⟩:=h;exact⟨⟨l,vs,by rw[m];exact h1,u,RCs.ren G f y q⟩,λk=>by simp only[Obj.ren,fpO,m]⟩
 | fr t xs=>exact f.elim
 | fb t x=>exact f.elim
 | map T k v ks vs foc=>
  simp only[Plain]at f;subst f;obtain⟨l,es,c,h1,u,q,_⟩:=h;exact⟨⟨l,es,c,by rw[m];exact h1,u,q,λp f=>nomatch f⟩,λk=>by simp only[Obj.ren,fpO,m]⟩
theorem Plain.mono{K K':Nat->Prop}{o:Obj E}(f:∀j,K j->K' j)(h:Plain E K o):Plain E K' o:=by
 cases o with
 | box T cs=>
  intro c m;have:=h c m;cases c with
  | own id=>exact f _ this
  | ptr id off=>exact f _ this
  | _=>exact this
 | _=>exact h
theorem pxB_cnt{px:tV}{ps:tL Pm}(h:pxB px ps=true):0<ar_ E ps:=by
 unfold pxB at h;split at h
 .simp only[ar_];omega
 .simp only[ar_];omega
 .cases h
theorem SC.ren_id(c:SC E):SC.ren (λi=>i) c=c:=by cases c<;>rfl
theorem Obj.ren_id(o:Obj E):Obj.ren (λi=>i) o=o:=by
 cases o with
 | box T cs=>
  have:cs.map (SC.ren λi=>i)=cs:=by
   induction cs with
   | nil=>rfl
   | cons c cs f=>rw[zY,f,SC.ren_id]
  simp only[Obj.ren,this]
 | _=>rfl
theorem ObjR.move{K:Nat->Prop}{i:Nat}{o:Obj E}(m:Plain E K o)(q:∀i l,K i->g i=some l->g' i=some l)(f:z=z'\/kl_ E o)(p:g' i=g i)(h:ObjR P E z g w i o):ObjR P E z' g' w i o/\∀k,fpO g' i o k↔fpO g i o k:=by
 have:=h.move2 (s:=λi=>i) (j:=i) m q f p
 rwa [Obj.ren_id]at this
theorem aZ_{m:Mk}:∀{ts:tL Ty} {h:HL E.S ts} {n:Nat},∀i o,(i,o)∈aT_ E m ts h n->∃p,o=some p/\(∀K,Plain E K p)/\n<=i/\i<n+aC_ m ts:=by
 induction m with
 | nil=>intro ts h n i o f;cases ts<;>simp[aT_]at f
 | cons a m j=>
  intro ts h n i o f;cases ts with
  | nil=>cases a<;>simp[aT_]at f
  | cons t ts=>
   cases a with
   | none=>simp only[aT_]at f;simp only[aC_];exact j i o f
   | some e=>
    cases t with
    | sl t=>
     simp only[aT_,qV,qC]at f;simp only[aC_];rcases f with⟨rfl,rfl⟩|f
     .exact⟨_,rfl,λ_=>rfl,qA _,by omega⟩
     .obtain⟨p,h1,q,u,s⟩:=j i o f;exact⟨p,h1,q,by omega,by omega⟩
    | _=>simp[aT_]at f
theorem fq_:∀{rs:Rs} {h:HL E.S rs.ts} {n:Nat},∀i o,(i,o)∈cA_ E rs h n->∃p,o=some p/\(∀K,Plain E K p)/\n<=i/\i<n+cj_ E rs
 | [],h,n,i,o,f=>by simp[cA_]at f
 | (t,m)::rs,h,n,i,o,f=>by
  simp only[cA_,qW]at f;simp only[cj_];rcases f with f|f
  .obtain⟨p,h1,j,q,s⟩:=aZ_ i o f;exact⟨p,h1,j,q,by omega⟩
  .obtain⟨p,h1,j,q,s⟩:=fq_ i o f;exact⟨p,h1,j,by omega,by omega⟩
theorem bT_:∀{ps:tL Pm} {a:PA E ps} {n:Nat},∀i o,(i,o)∈aY_ E ps a n->n<=i/\i<n+ar_ E ps
 | [],a,n,i,o,f=>by simp[aY_]at f
 | .l t m::ps,a,n,i,o,f=>by
  simp only[aY_,qW]at f;simp only[ar_];rcases f with f|f
  .obtain⟨p,h1,q,j,h⟩:=aZ_ i o f;omega
  .have:=bT_ (ps:=ps) (a:=a.2) i o f;omega
 | .g t m::ps,a,n,i,o,f=>by
  simp only[aY_,qW]at f;simp only[ar_];rcases f with f|f
  .obtain⟨p,h1,q,j,h⟩:=aZ_ i o f;omega
  .have:=bT_ (ps:=ps) (a:=a.2) i o f;omega
 | .b T t::ps,a,n,i,o,f=>by
  simp only[aY_,qV,qC]at f;simp only[ar_];rcases f with⟨rfl,rfl⟩|f
  .omega
  .have:=bT_ (ps:=ps) (a:=a.2) i o f;omega
 | .bm T t m px::ps,a,n,i,o,f=>by
  simp only[aY_,qV,qW,qC]at f;simp only[ar_];rcases f with⟨rfl,rfl⟩|f|f
  .omega
  .obtain⟨p,h1,q,j,h⟩:=aZ_ i o f;omega
  .have:=bT_ (ps:=ps) (a:=a.2) i o f;omega
 | .mp T k v::ps,a,n,i,o,f=>by
  simp only[aY_,qV,qC]at f;simp only[ar_];rcases f with⟨rfl,rfl⟩|f
  .omega
  .have:=bT_ (ps:=ps) (a:=a.2) i o f;omega
 | .d t::ps,a,n,i,o,f=>bT_ (ps:=ps) (a:=a.2) i o f
 | .p t::ps,a,n,i,o,f=>bT_ (ps:=ps) (a:=a.2) i o f
 | .f1 x r::ps,a,n,i,o,f=>bT_ (ps:=ps) (a:=a.2) i o f
 | .f2 x y r::ps,a,n,i,o,f=>bT_ (ps:=ps) (a:=a.2) i o f
theorem bY_:∀{ps:tL Pm} {a:PA E ps} {n k:Nat},∀i o,(i,o)∈aM_ E ps a n k->∃p,o=some p/\Plain E (λj=>(k<=j/\j<k+cU_ E ps)\/(n<=j/\j<n+ar_ E ps)) p/\((n<=i/\i<n+ar_ E ps)\/(k<=i/\i<k+cU_ E ps))
 | [],a,n,k,i,o,f=>by simp[aM_]at f
 | .l t m::ps,a,n,k,i,o,f=>by
  simp only[aM_,qW]at f;simp only[ar_,cU_];rcases f with f|f
  .obtain⟨p,h1,h,s,C⟩:=aZ_ i o f;exact⟨p,h1,h _,by omega⟩
  .obtain⟨p,h1,h,s⟩:=bY_ (ps:=ps) (a:=a.2) i o f;exact⟨p,h1,h.mono (λj u=>by omega),by omega⟩
 | .g t m::ps,a,n,k,i,o,f=>by
  obtain⟨p,h1,h,s⟩:=bY_ (ps:=ps) (a:=a.2) i o f;simp only[ar_,cU_];exact⟨p,h1,h.mono (λj u=>by omega),by omega⟩
 | .b T t::ps,a,n,k,i,o,f=>by
  simp only[aM_,qV,qC]at f;simp only[ar_,cU_];rcases f with⟨rfl,rfl⟩|f
  .exact⟨_,rfl,nG_,by omega⟩
  .obtain⟨p,h1,h,s⟩:=bY_ (ps:=ps) (a:=a.2) i o f;exact⟨p,h1,h.mono (λj u=>by omega),by omega⟩
 | .bm T t m px::ps,a,n,k,i,o,f=>by
  simp only[aM_,qV,qW,qC]at f;simp only[ar_,cU_];rcases f with⟨rfl,rfl⟩|f|f
  .refine⟨_,rfl,λc q=>?_,by omega⟩;rcases qW.1 q with q|q
   .cases hx:pxB px ps<;>rw[hx]at q
    .cases q
    .obtain rfl:=qT.1 q;have:=pxB_cnt (E:=E) hx;exact .inr ⟨by omega,by omega⟩
   .exact ownC_plain (K:=λj=>(k<=j/\j<k+(aC_ m (E.flat t)+cU_ E ps))\/_) (λj u=>.inl ⟨by omega,by omega⟩) c q
  .obtain⟨p,h1,h,s,C⟩:=aZ_ i o f;exact⟨p,h1,h _,by omega⟩
  .obtain⟨p,h1,h,s⟩:=bY_ (ps:=ps) (a:=a.2) i o f;refine⟨p,h1,?_,by omega⟩;exact Plain.mono (λj u=>by omega) h
 | .mp T kt v::ps,a,n,k,i,o,f=>by
  simp only[aM_,qV,qC]at f;simp only[ar_,cU_];rcases f with⟨rfl,rfl⟩|f
  .exact⟨_,rfl,rfl,by omega⟩
  .obtain⟨p,h1,h,s⟩:=bY_ (ps:=ps) (a:=a.2) i o f;exact⟨p,h1,h.mono (λj u=>by omega),by omega⟩
 | .d t::ps,a,n,k,i,o,f=>bY_ (ps:=ps) (a:=a.2) i o f
 | .p t::ps,a,n,k,i,o,f=>bY_ (ps:=ps) (a:=a.2) i o f
 | .f1 x r::ps,a,n,k,i,o,f=>bY_ (ps:=ps) (a:=a.2) i o f
 | .f2 x y r::ps,a,n,k,i,o,f=>bY_ (ps:=ps) (a:=a.2) i o f
def UniqK(l:Chs E):Prop:=∀i o o',(i,o)∈l->(i,o')∈l->o=o'
theorem v0_{i:Nat}{o:tO (Obj E)}:∀{l:Chs E},UniqK l->(i,o)∈l->upH H l i=o
 | [],_,h=>by cases h
 | (j,p)::l,q,h=>by
  simp only[upH];split
  .rename_i m;obtain rfl:=qNb m;exact q i p o (qR ..) h
  .rename_i m;have f:=bk_ m;refine v0_ (λa b c h1 s=>q a b c (qL _ h1) (qL _ s)) ?_;rcases qV.1 h with h|h
   .simp only[qC]at h;exact absurd h.1 f
   .exact h
theorem UniqK.append{l m:Chs E}(p:UniqK l)(hm:UniqK m)(j:∀i o o',(i,o)∈l->(i,o')∈m->False):UniqK (l++m):=λi o o' h f=>by
 rcases qW.1 h with h|h<;>rcases qW.1 f with f|f
 .exact p i o o' h f
 .exact(j i o o' h f).elim
 .exact(j i o' o f h).elim
 .exact hm i o o' h f
theorem i2_{m:Mk}:∀{ts:tL Ty} {h:HL E.S ts} {n:Nat},UniqK (aT_ E m ts h n):=by
 induction m with
 | nil=>intro ts h n i o o' j;cases ts<;>simp[aT_]at j
 | cons a m p=>
  intro ts h n;cases ts with
  | nil=>intro i o o' j;cases a<;>simp[aT_]at j
  | cons t ts=>
   cases a with
   | none=>simp only[aT_];exact p
   | some e=>
    cases t with
    | sl t=>
     simp only[aT_];intro i o o' h1 f;simp only[qV,qC]at h1 f;rcases h1 with⟨rfl,rfl⟩|h1<;>rcases f with⟨f,rfl⟩|f
     .rfl
     .obtain⟨_,_,_,q,_⟩:=aZ_ _ _ f;omega
     .obtain⟨_,_,_,q,_⟩:=aZ_ _ _ h1;omega
     .exact p i o o' h1 f
    | _=>intro i o o' j;simp[aT_]at j
theorem resO_uniq:∀{rs:Rs} {h:HL E.S rs.ts} {n:Nat},UniqK (cA_ E rs h n)
 | [],h,n=>λi o o' f=>by simp[cA_]at f
 | (t,m)::rs,h,n=>by
  simp only[cA_];refine UniqK.append i2_ resO_uniq λi o o' h1 j=>?_
  obtain⟨_,_,_,_,q⟩:=aZ_ _ _ h1;obtain⟨_,_,_,p,_⟩:=fq_ _ _ j;omega
theorem dF_:∀{ps:tL Pm} {a:PA E ps} {n:Nat},UniqK (aY_ E ps a n)
 | [],a,n=>λi o o' j=>by simp[aY_]at j
 | .l t m::ps,a,n=>by
  simp only[aY_];refine UniqK.append i2_ (dF_ (ps:=ps)) λi o o' h1 f=>?_
  obtain⟨_,_,_,_,h⟩:=aZ_ _ _ h1;have q:=(bT_ (ps:=ps) _ _ f).1;omega
 | .g t m::ps,a,n=>by
  simp only[aY_];refine UniqK.append i2_ (dF_ (ps:=ps)) λi o o' h1 f=>?_
  obtain⟨_,_,_,_,h⟩:=aZ_ _ _ h1;have q:=(bT_ (ps:=ps) _ _ f).1;omega
 | .b T t::ps,a,n=>by
  simp only[aY_];intro i o o' h1 f;simp only[qV,qC]at h1 f;rcases h1 with⟨rfl,rfl⟩|h1<;>rcases f with⟨f,rfl⟩|f
  .rfl
  .have:=(bT_ (ps:=ps) _ _ f).1;omega
  .have:=(bT_ (ps:=ps) _ _ h1).1;omega
  .exact dF_ (ps:=ps) i o o' h1 f
 | .bm T t m px::ps,a,n=>by
  simp only[aY_];refine UniqK.append (l:=[(n,some (.box T (ptrC E (pxB px ps) (n+1+aC_ m (E.flat t))++bp_ E m (E.flat t) (E.fl t a.1) (n+1))))]) (λi o o' h1 f=>?_) (UniqK.append i2_ (dF_ (ps:=ps)) λi o o' h1 f=>?_) λi o o' h1 f=>?_
  .simp only[qT,qC]at h1 f;rw[h1.2,f.2]
  .obtain⟨_,_,_,_,h⟩:=aZ_ _ _ h1;have:=(bT_ (ps:=ps) _ _ f).1;omega
  .simp only[qT,qC]at h1;rcases qW.1 f with f|f
   .obtain⟨_,_,_,h,_⟩:=aZ_ _ _ f;omega
   .have:=(bT_ (ps:=ps) _ _ f).1;omega
 | .mp T k v::ps,a,n=>by
  simp only[aY_];intro i o o' h1 f;simp only[qV,qC]at h1 f;rcases h1 with⟨rfl,rfl⟩|h1<;>rcases f with⟨f,rfl⟩|f
  .rfl
  .have:=(bT_ (ps:=ps) _ _ f).1;omega
  .have:=(bT_ (ps:=ps) _ _ h1).1;omega
  .exact dF_ (ps:=ps) i o o' h1 f
 | .d t::ps,a,n=>dF_ (ps:=ps) (a:=a.2)
 | .p t::ps,a,n=>dF_ (ps:=ps) (a:=a.2)
 | .f1 x r::ps,a,n=>dF_ (ps:=ps) (a:=a.2)
 | .f2 x y r::ps,a,n=>dF_ (ps:=ps) (a:=a.2)
theorem ownO_shift{m:Mk}:∀{ts:tL Ty} {h:HL E.S ts} {n j d:Nat} {o:tO (Obj E)},(n+d,o)∈aT_ E m ts h n->(j+d,o)∈aT_ E m ts h j:=by
 induction m with
 | nil=>intro ts h n j d o f;cases ts<;>simp[aT_]at f
 | cons a m q=>
  intro ts h n j d o f;cases ts with
  | nil=>cases a<;>simp[aT_]at f
  | cons t ts=>
   cases a with
   | none=>simp only[aT_]at f ⊢;exact q f
   | some e=>
    cases t with
    | sl t=>
     simp only[aT_,qV,qC]at f ⊢;rcases f with⟨h1,rfl⟩|f
     .exact .inl ⟨by omega,rfl⟩
     .right
      obtain⟨_,_,_,s,_⟩:=aZ_ _ _ f;obtain⟨p,rfl⟩:∃p,d=p+1:=⟨d-1,by omega⟩;rw[show n+(p+1)=n+1+p by omega]at f;rw[show j+(p+1)=j+1+p by omega];exact q f
    | _=>simp[aT_]at f
theorem resO_shift:∀{rs:Rs} {h:HL E.S rs.ts} {n j d:Nat} {o:tO (Obj E)},(n+d,o)∈cA_ E rs h n->(j+d,o)∈cA_ E rs h j
 | [],h,n,j,d,o,f=>by simp[cA_]at f
 | (t,m)::rs,h,n,j,d,o,f=>by
  simp only[cA_,qW]at f ⊢;rcases f with f|f
  .exact .inl (ownO_shift f)
  .right
   obtain⟨_,_,_,q,_⟩:=fq_ _ _ f;obtain⟨p,rfl⟩:∃p,d=aC_ m (E.flat t)+p:=⟨d-aC_ m (E.flat t),by omega⟩;rw[←zW]at f ⊢;exact resO_shift f
theorem ownO_len{m:Mk}:∀{ts:tL Ty} {h:HL E.S ts} {n:Nat},(aT_ E m ts h n).length=aC_ m ts:=by
 induction m with
 | nil=>intro ts h n;cases ts<;>simp[aT_,aC_]
 | cons a m f=>
  intro ts h n;cases ts with
  | nil=>cases a<;>simp[aT_,aC_]
  | cons t ts=>
   cases a with
   | none=>simp only[aT_,aC_];exact f
   | some e=>
    cases t with
    | sl t=>simp only[aT_,aC_,qLc,f]
    | _=>simp[aT_,aC_]
theorem resO_len:∀{rs:Rs} {h:HL E.S rs.ts} {n:Nat},(cA_ E rs h n).length=cj_ E rs
 | [],h,n=>rfl
 | (t,m)::rs,h,n=>by simp only[cA_,cj_,qLa,ownO_len,resO_len]
theorem resO_in{rs:Rs}{h:HL E.S rs.ts}{n i:Nat}{o:tO (Obj E)}(f:(i,o)∈cA_ E rs h n):n<=i/\i<n+cj_ E rs:=by
 obtain⟨_,_,_,h1,j⟩:=fq_ _ _ f;exact⟨h1,j⟩
theorem iK_{ps:tL Pm}{a:PA E ps}{n k i:Nat}{o:tO (Obj E)}(f:(i,o)∈aM_ E ps a n k):(n<=i/\i<n+ar_ E ps)\/(k<=i/\i<k+cU_ E ps):=by
 obtain⟨_,_,_,h1⟩:=bY_ _ _ f;exact h1
theorem c1_:∀{ps:tL Pm} {a:PA E ps} {n k:Nat},n+ar_ E ps<=k->UniqK (aM_ E ps a n k)
 | [],a,n,k,_=>λi o o' q=>by simp[aM_]at q
 | .l t m::ps,a,n,k,h=>by
  simp only[ar_]at h;simp only[aM_];refine UniqK.append i2_ (c1_ (ps:=ps) (by omega)) λi o o' h1 f=>?_
  obtain⟨_,_,_,_,j⟩:=aZ_ _ _ h1;have:=iK_ (ps:=ps) f;omega
 | .g t m::ps,a,n,k,h=>by
  simp only[ar_]at h;exact c1_ (ps:=ps) (a:=a.2) (by omega)
 | .b T t::ps,a,n,k,h=>by
  simp only[ar_]at h;simp only[aM_];refine UniqK.append (l:=[(n,some (.box T (E.cells t a.1)))]) (λi o o' h1 f=>?_) (c1_ (ps:=ps) (by omega)) λi o o' h1 f=>?_
  .simp only[qT,qC]at h1 f;rw[h1.2,f.2]
  .simp only[qT,qC]at h1;have:=iK_ (ps:=ps) f;omega
 | .bm T t m px::ps,a,n,k,h=>by
  simp only[ar_]at h;simp only[aM_];refine UniqK.append (l:=[(n,some (.box T (ptrC E (pxB px ps) (n+1+aC_ m (E.flat t))++bp_ E m (E.flat t) (E.fl t a.1) k)))]) (λi o o' h1 f=>?_) (UniqK.append i2_ (c1_ (ps:=ps) (by omega)) λi o o' h1 f=>?_) λi o o' h1 f=>?_
  .simp only[qT,qC]at h1 f;rw[h1.2,f.2]
  .obtain⟨_,_,_,j,s⟩:=aZ_ _ _ h1;have:=iK_ (ps:=ps) f;omega
  .simp only[qT,qC]at h1;rcases qW.1 f with f|f
   .obtain⟨_,_,_,j,_⟩:=aZ_ _ _ f;omega
   .have:=iK_ (ps:=ps) f;omega
 | .mp T kt v::ps,a,n,k,h=>by
  simp only[ar_]at h;simp only[aM_];refine UniqK.append (l:=[(n,some (.map T kt v a.1.1 a.1.2 []))]) (λi o o' h1 f=>?_) (c1_ (ps:=ps) (by omega)) λi o o' h1 f=>?_
  .simp only[qT,qC]at h1 f;rw[h1.2,f.2]
  .simp only[qT,qC]at h1;have:=iK_ (ps:=ps) f;omega
 | .d t::ps,a,n,k,h=>c1_ (ps:=ps) (a:=a.2) h
 | .p t::ps,a,n,k,h=>c1_ (ps:=ps) (a:=a.2) h
 | .f1 x r::ps,a,n,k,h=>c1_ (ps:=ps) (a:=a.2) h
 | .f2 x y r::ps,a,n,k,h=>c1_ (ps:=ps) (a:=a.2) h
theorem dI_:∀{ps:tL Pm} {a:PA E ps} {n k:Nat},cU_ E ps<=(aM_ E ps a n k).length
 | [],_,_,_=>qA _
 | .l t m::ps,a,n,k=>by
  simp only[aM_,qLa,cU_];have:=dI_ (ps:=ps) (a:=a.2) (n:=n+aC_ m (E.flat t)) (k:=k);omega
 | .g t m::ps,a,n,k=>dI_ (ps:=ps) (a:=a.2)
 | .b T t::ps,a,n,k=>by
  simp only[aM_,qLc,cU_];have:=dI_ (ps:=ps) (a:=a.2) (n:=n+1) (k:=k);omega
 | .bm T t m px::ps,a,n,k=>by
  simp only[aM_,qLc,qLa,cU_,ownO_len];have:=dI_ (ps:=ps) (a:=a.2) (n:=n+1+aC_ m (E.flat t)) (k:=k+aC_ m (E.flat t));omega
 | .mp T kt v::ps,a,n,k=>by
  simp only[aM_,qLc,cU_];have:=dI_ (ps:=ps) (a:=a.2) (n:=n+1) (k:=k);omega
 | .d t::ps,a,n,k=>dI_ (ps:=ps) (a:=a.2)
 | .p t::ps,a,n,k=>dI_ (ps:=ps) (a:=a.2)
 | .f1 x r::ps,a,n,k=>dI_ (ps:=ps) (a:=a.2)
 | .f2 x y r::ps,a,n,k=>dI_ (ps:=ps) (a:=a.2)
theorem ownC_move{m:Mk}:∀{ts:tL Ty} {h:HL E.S ts} {n p:Nat} {v:tL tW},All2 (RC P E z g) (bp_ E m ts h n) v->(∀i l,i<aC_ m ts->g (n+i)=some l->g' (p+i)=some l)->(z=z'\/gT_ E m ts=true)->All2 (RC P E z' g') (bp_ E m ts h p) v:=by
 have key:∀{ts:tL Ty} {h:HL E.S ts} {v:tL tW},All2 (RC P E z g) (hlc E ts h) v->(z=z'\/ts.all Ty.flatB=true)->All2 (RC P E z' g') (hlc E ts h) v:=by
  intro ts h v f j;rcases j with rfl|j
  .exact hlc_rd.1 (hlc_rd.2 f)
  .exact hlc_rd.1 ((hlc_rd.2 f).flat j)
 induction m with
 | nil=>
  intro ts h n p v f q j;cases ts with
  | nil=>simp only[bp_]at f ⊢;exact key f (j.imp id λh=>h)
  | cons t ts=>simp only[bp_]at f ⊢;exact key f (j.imp id λh=>h)
 | cons a m u=>
  intro ts h n p v f q j;cases ts with
  | nil=>cases a<;>simp only[bp_]at f ⊢<;>exact key f (.inr rfl)
  | cons t ts=>
   cases a with
   | none=>
    simp only[bp_]at f ⊢;cases f with
    | cons h1 s=>
     simp only[gT_,qAn]at j;refine .cons ?_ (u s q (j.imp id And.right));rcases j with rfl|j
     .exact h1
     .exact RD.flat (ts:=[t]) (by simp[j.1]) h1
   | some e=>
    cases t with
    | sl t=>
     simp only[bp_]at f ⊢;cases f with
     | cons h1 s=>
      obtain⟨l,C,y⟩:=h1;simp only[gT_,qAn]at j;refine .cons ⟨l,q 0 l (by simp only[aC_];omega) C,y⟩ (u s (λi l x hi=>?_) (j.imp id And.right));have:=q (i+1) l (by simp only[aC_];omega) (by rw[show n+(i+1)=n+1+i by omega];exact hi)
      rwa [show p+(i+1)=p+1+i by omega]at this
    | _=>simp only[bp_]at f ⊢;exact key f (j.imp id λh=>h)
theorem asV_move{t:Ty}{l f:tL (SC E)}{x m:V1 E}{v:tW}(h:asV E t l=some x)(j:asV E t f=some m)(hr:R1 P E z g x v)(hm:∀vs,All2 (RC P E z g) l vs->All2 (RC P E z' g') f vs):R1 P E z' g' m v:=by
 have one:∀c d,l=[c]->f=[d]->RC P E z g c v->RC P E z' g' d v:=λc d e e' p=>by
  subst e;subst e';have:=hm [v] (.cons p .nil);cases this with
  | cons h _=>exact h
 cases t with
 | st n=>
  simp only[asV,qOi]at h j;subst h;subst j;obtain⟨vs,rfl,hr⟩:=hr;exact⟨vs,rfl,hm vs hr⟩
 | _ =>
  cases l with
  | nil=>simp[asV]at h
  | cons c l=>
   cases l with
   | cons d l=>simp[asV]at h
   | nil=>
    cases f with
    | nil=>simp[asV]at j
    | cons q f=>
     cases f with
     | cons d l=>simp[asV]at j
     | nil=>
      simp only[asV,qOi]at h j;subst h;subst j;exact one c q rfl rfl hr
theorem nH_:∀{rs:Rs} {h:HL E.S rs.ts} {n f:Nat} {l j:tL (V1 E)} {vs:tL tW},resV E rs h n=some l->resV E rs h f=some j->All2 (R1 P E z g) l vs->(∀i l,i<cj_ E rs->g (n+i)=some l->g' (f+i)=some l)->(z=z'\/jj_ E rs=true)->All2 (R1 P E z' g') j vs
 | [],h,n,f,l,j,vs,e,e',hr,_,_=>by
  simp only[resV,qOi]at e e';subst e;subst e';cases hr
  exact .nil
 | (t,m)::rs,h,n,f,l,j,vs,e,e',hr,C,p=>by
  simp only[resV]at e e';split at e
  .rename_i x q hx D;obtain rfl:=qSj e;split at e'
   .rename_i J M s y;obtain rfl:=qSj e';simp only[jj_,qAn]at p;cases hr with
    | cons h1 G=>
     refine .cons (asV_move hx s h1 λvs u=>ownC_move u (λi l hi=>C i l (by simp only[cj_];omega)) (p.imp id And.left)) (nH_ D y G (λi l F hi=>?_) (p.imp id And.right));rw[zW]at hi ⊢;exact C _ l (by simp only[cj_];omega) hi
   .cases e'
  .cases e
theorem uO_:∀{rs:Rs} {h:HL E.S rs.ts} {n j:Nat} {l f:tL (V1 E)},resV E rs h n=some l->resV E rs h j=some f->l.length=f.length
 | [],h,n,j,l,f,e,e'=>by
  simp only[resV,qOi]at e e';subst e;subst e';rfl
 | (t,m)::rs,h,n,j,l,f,e,e'=>by
  simp only[resV]at e e';split at e
  .rename_i x q hx u;obtain rfl:=qSj e;split at e'
   .rename_i y C s p;obtain rfl:=qSj e';simp[uO_ u p]
   .cases e'
  .cases e
theorem r9_{l f:tL (V1 E)}{v:tW}(m:l.length=f.length)(h:RV P E z g (oneV E l) v)(hm:∀vs,All2 (R1 P E z g) l vs->All2 (R1 P E z' g') f vs):RV P E z' g' (oneV E f) v:=by
 match l,f,m with
 | [],[],_=>obtain⟨vs,rfl,hr⟩:=h;exact⟨vs,rfl,hm vs hr⟩
 | [x],[j],_=>
  have:=hm [v] (.cons h .nil);cases this with
  | cons h _=>exact h
 | x::y::l,j::p::f,_=>obtain⟨vs,rfl,hr⟩:=h;exact⟨vs,rfl,hm vs hr⟩
def renS(c nx:Nat)(I:tL Nat)(i:Nat):Nat:=match Nat.blt i c with|true=>I.getD i 0|false=>nx+(i-c)
def lentU(s:Nat->Nat)(l:Chs E):Chs E:=l.map λp=>(s p.1,p.2.map (Obj.ren s))
def goneU(I:tL Nat):Chs E:=I.map λi=>(i,none)
def callU(E:TE)(C:Con E)(nx:Nat)(q:PA E C.ps×tL Nat)(rh:HL E.S C.rs.ts)(bh:HL E.S (aI_ C.ps)):Chs E:=lentU (renS (ar_ E C.ps) nx q.2) (cA_ E C.rs rh (ar_ E C.ps)++aM_ E C.ps (dE_ E C.ps q.1 bh) 0 (ar_ E C.ps+cj_ E C.rs))++goneU q.2
def lCall (E:TE) (tab:Tab E) (H:Nat->tO (Obj E)) (nx:Nat) (f:FuncId) (xs:tL (V1 E)) {R:Type} (k:tO (SV E)->Chs E->tO R):tO R:=
 match tab f with
 | none=>none
 | some C=>match C.I with
 | some I=>I H nx xs R k
 | none=>match takeA E tab (upH H (frzP E H C.ps xs)) C.ps xs with
  | none=>none
  | some q=>match nodupB q.2 with
   | false=>none
   | true=>C.F R q.1 λrh bh=>match resV E C.rs rh nx with
    | none=>none
    | some svr=>match C.ali with
     | true=>k (some (oneV E svr)) (callU E C nx q rh bh++frzP E H C.ps xs)
     | false=>match jj_ E C.rs&&eT_ E C.ps with
      | true=>k (some (oneV E svr)) (callU E C nx q rh bh)
      | false=>none
theorem leave_uniq{C:Con E}{q:PA E C.ps×tL Nat}{rh:HL E.S C.rs.ts}{bh:HL E.S (aI_ C.ps)}:UniqK (cA_ E C.rs rh (ar_ E C.ps)++aM_ E C.ps (dE_ E C.ps q.1 bh) 0 (ar_ E C.ps+cj_ E C.rs)):=
 UniqK.append resO_uniq (c1_ (by omega)) λi o o' h1 f=>by
  have j:=resO_in h1;have h:=iK_ f;omega
theorem v1_{C:Con E}{q:PA E C.ps×tL Nat}{rh:HL E.S C.rs.ts}{bh:HL E.S (aI_ C.ps)}{Hb:Nat->tO (Obj E)}{j:Nat}{o:Obj E}
  (h:upH Hb (callU E C nx q rh bh) j=some o) :
  (∃i u,(j=renS (ar_ E C.ps) nx q.2 i/\i<ar_ E C.ps+(cj_ E C.rs+cU_ E C.ps))/\upH (λ_=>none) (cA_ E C.rs rh (ar_ E C.ps)++aM_ E C.ps (dE_ E C.ps q.1 bh) 0 (ar_ E C.ps+cj_ E C.rs)) i=some u/\o=Obj.ren (renS (ar_ E C.ps) nx q.2) u)\/(j∉q.2/\Hb j=some o):=by
 unfold callU at h;rw[←aJ_]at h;rcases upH_or h with h|h
 .have s:∀(I:tL Nat),upH Hb (goneU I) j=some o->j∉I/\Hb j=some o:=by
   intro I
   induction I with
   | nil=>intro h;exact⟨by simp,h⟩
   | cons i I y=>
    intro h;simp only[goneU,zY,upH]at h;split at h
    .cases h
    .rename_i F;obtain⟨h1,G⟩:=y h;exact⟨λhm=>by rcases qV.1 hm with rfl|hm;exact bk_ F rfl;exact h1 hm,G⟩
  exact .inr (s _ h)
 .left
  obtain⟨p,f,m⟩:=zZ.1 h;simp only[qC]at m;obtain⟨D,x⟩:=m;obtain⟨i,o2⟩:=p;cases o2 with
  | none=>cases x
  | some u=>
   refine⟨i,u,⟨D.symm,?_⟩,v0_ leave_uniq f,(qSj x).symm⟩;rcases qW.1 f with f|f
   .have:=resO_in f;omega
   .have:=iK_ f;omega
theorem uP_{m:Mk}:∀{ts:tL Ty} {h:HL E.S ts} {n i:Nat},n<=i->i<n+aC_ m ts->∃o,(i,o)∈aT_ E m ts h n:=by
 induction m with
 | nil=>intro ts h n i h1 f;cases ts<;>simp[aC_]at f<;>omega
 | cons a m p=>
  intro ts h n i h1 f;cases ts with
  | nil=>cases a<;>simp[aC_]at f<;>omega
  | cons t ts=>
   cases a with
   | none=>simp only[aC_]at f;simp only[aT_];exact p h1 f
   | some e=>
    cases t with
    | sl t=>
     simp only[aC_]at f;simp only[aT_,qV,qC];by_cases j:i=n
     .exact⟨_,.inl ⟨j,rfl⟩⟩
     .obtain⟨o,q⟩:=p (h:=h.2) (n:=n+1) (i:=i) (by omega) (by omega);exact⟨o,.inr q⟩
    | _=>simp[aC_]at f<;>omega
theorem argsO_cov:∀{ps:tL Pm} {a:PA E ps} {n i:Nat},n<=i->i<n+ar_ E ps->∃o,(i,o)∈aY_ E ps a n:=by
 intro ps
 induction ps with
 | nil=>intro a n i h1 q;simp[ar_]at q;omega
 | cons p ps s=>
  intro a n i h1 q;cases p with
  | l t m=>
   simp only[ar_]at q;simp only[aY_,qW];by_cases f:i<n+aC_ m (E.flat t)
   .obtain⟨o,j⟩:=uP_ (h:=E.fl t a.1) h1 f;exact⟨o,.inl j⟩
   .obtain⟨o,j⟩:=s (a:=a.2) (n:=n+aC_ m (E.flat t)) (i:=i) (by omega) (by omega);exact⟨o,.inr j⟩
  | g t m=>
   simp only[ar_]at q;simp only[aY_,qW];by_cases f:i<n+aC_ m (E.flat t)
   .obtain⟨o,j⟩:=uP_ (h:=E.fl t a.1) h1 f;exact⟨o,.inl j⟩
   .obtain⟨o,j⟩:=s (a:=a.2) (n:=n+aC_ m (E.flat t)) (i:=i) (by omega) (by omega);exact⟨o,.inr j⟩
  | b T t=>
   simp only[ar_]at q;simp only[aY_,qV,qC];by_cases f:i=n
   .exact⟨_,.inl ⟨f,rfl⟩⟩
   .obtain⟨o,j⟩:=s (a:=a.2) (n:=n+1) (i:=i) (by omega) (by omega);exact⟨o,.inr j⟩
  | bm T t m px=>
   simp only[ar_]at q;simp only[aY_,qV,qW,qC];by_cases f:i=n
   .exact⟨_,.inl ⟨f,rfl⟩⟩
   .by_cases u:i<n+1+aC_ m (E.flat t)
    .obtain⟨o,j⟩:=uP_ (h:=E.fl t a.1) (n:=n+1) (i:=i) (by omega) u;exact⟨o,.inr (.inl j)⟩
    .obtain⟨o,j⟩:=s (a:=a.2) (n:=n+1+aC_ m (E.flat t)) (i:=i) (by omega) (by omega);exact⟨o,.inr (.inr j)⟩
  | mp T k v=>
   simp only[ar_]at q;simp only[aY_,qV,qC];by_cases f:i=n
   .exact⟨_,.inl ⟨f,rfl⟩⟩
   .obtain⟨o,j⟩:=s (a:=a.2) (n:=n+1) (i:=i) (by omega) (by omega);exact⟨o,.inr j⟩
  | d t=>exact s (a:=a.2) h1 q
  | p t=>exact s (a:=a.2) h1 q
  | f1 x r=>exact s (a:=a.2) h1 q
  | f2 x y r=>exact s (a:=a.2) h1 q
def hv_(tab:Tab E)(f:FuncId):tV:=match tab f with|some C=>l4_ C.ps|none=>true
theorem takeA_own {tab:Tab E}:∀{ps:tL Pm} {xs:tL (V1 E)} {q:PA E ps×tL Nat},l4_ ps=false->takeA E tab H ps xs=some q->q.2=[]:=by
 intro ps
 induction ps with
 | nil=>
  intro xs q _ h;cases xs with
  | nil=>simp only[takeA,qOi]at h;subst h;rfl
  | cons x xs=>simp[takeA]at h
 | cons p ps u=>
  intro xs q j h;cases xs with
  | nil=>cases p<;>simp[takeA]at h
  | cons x xs=>
   cases p with
   | l t m=>cases j
   | g t m=>cases j
   | b T t=>cases j
   | bm T t m px=>cases j
   | mp T k v=>cases j
   | d t=>
    simp only[takeA]at h;split at h
    .rename_i d y O s;obtain rfl:=qSj h;exact u j s
    .cases h
   | p t =>
    cases x with
    | agg l=>simp[takeA]at h
    | one c=>
     cases c with
     | elf M J off=>
      cases off with
      | succ off=>simp[takeA]at h
      | zero=>
       simp only[takeA]at h;split at h
       .split at h
        .rename_i y s;obtain rfl:=qSj h;exact u j s
        .cases h
       .cases h
     | ptr id off=>
      cases off with
      | succ off=>simp[takeA]at h
      | zero=>
       simp only[takeA]at h;split at h
       .split at h
        .split at h
         .rename_i y s;obtain rfl:=qSj h;exact u j s
         .cases h
        .cases h
       .cases h
     | _=>simp[takeA]at h
   | f1 C D=>
    cases x with
    | agg l=>simp[takeA]at h
    | one c=>
     simp only[takeA]at h;split at h
     .rename_i f y F s;obtain rfl:=qSj h;exact u j s
     .cases h
   | f2 C G D=>
    cases x with
    | agg l=>simp[takeA]at h
    | one c=>
     simp only[takeA]at h;split at h
     .rename_i f y F s;obtain rfl:=qSj h;exact u j s
     .cases h
theorem lCall_ok2 {tab:Tab E} (ht:tab.OK P E) {f:FuncId} (Zy:∀C,tab f=some C->C.I=none) {xs:tL (V1 E)} {vs:tL tW} {R:Type} {k:tO (SV E)->Chs E->tO R} {r:R} (ZQ:Fresh g nx) (hv:All2 (R1 P E z g) xs vs) (h:lCall E tab H nx f xs k=some r) :
  cr_ P f=true/\∃s u,k (some s) u=some r/\∀(Bs:tL Nat) (F0:Nat->Prop) (w0 w:tS),HR P E Bs F0 w0 w z g H->Ret P f vs.toArray w λv w'=>∃z2 Y,z.Le z2/\g.Le Y/\Fresh Y (nx+1+u.length)/\RV P E z2 Y s v/\HR P E Bs F0 w0 w' z2 Y (upH H u)/\(hv_ tab f=false->Ext w w'):=by
 unfold lCall at h;split at h
 .cases h
 .rename_i C hC;obtain⟨Zz,ZN,_⟩:=ht f C hC;refine⟨ZN,?_⟩;rw[Zy C hC]at h;simp only at h;split at h
  .cases h
  .rename_i q hq;split at h
   .cases h
   .rename_i hn;obtain⟨rh,bh,x,ZO⟩:=Zz _ _ _ _ h;obtain⟨svr2,m,u,hu,x⟩:∃svr2,resV E C.rs rh nx=some svr2/\∃u,((C.ali=true/\u=callU E C nx q rh bh++frzP E H C.ps xs)\/(C.ali=false/\(jj_ E C.rs&&eT_ E C.ps)=true/\u=callU E C nx q rh bh))/\k (some (oneV E svr2)) u=some r:=by
     split at x
     .cases x
     .rename_i svr2 m;split at x
      .rename_i V;exact⟨svr2,m,_,.inl ⟨V,rfl⟩,x⟩
      .rename_i V;split at x
       .rename_i U;exact⟨svr2,m,_,.inr ⟨V,U,rfl⟩,x⟩
       .cases x
    refine⟨_,u,x,λBs F0 w0 w hH=>?_⟩;obtain⟨z1,ZY,ZW⟩:=frzP_ok hH C.ps xs;obtain⟨⟨svs,e1,e2⟩,e3,e4⟩:=takeA_ok ht ZW (I:=q.2) (n:=0) hq (λj id O=>by rw[qj];exact O) (hv.mono λ_ _ h=>R1.le h ZY (Ga.Le.refl g));have ZD:=ZW.entry hn e3;have Zr:Fresh (gOf g q.2) (ar_ E C.ps):=λi hi=>by
     unfold gOf;rw[qe (by omega)]
    have ZJ:=ZO w z1 _ _ svs vs e1 ZD Zr e2;refine ZJ.mono λv w' ⟨z',g1,svr,ZL,ZC,Zt,J,ZK,hx⟩=>?_
    have ZX:∀id∈q.2,∃l,g id=some l:=λid ZX=>by
     obtain⟨i,hi⟩:=qH.1 ZX;have Zm:i<ar_ E C.ps:=by rw[←e4];exact(qK.1 hi).1
     by_cases ZE:∃l,g id=some l
     .exact ZE
     .exfalso;obtain⟨o,ho⟩:=argsO_cov (a:=q.1) (n:=0) (i:=i) (qv _) (by omega);obtain⟨id',M,_,D,h6,_⟩:=e3 i o ho;rw[hi]at D;obtain rfl:=qSj D;exact ZE (ZW.hold _ _ h6).loc
    have Zu:∀id∈q.2,id<nx:=λid ZG=>by
     obtain⟨l,hl⟩:=ZX id ZG;rcases qb id nx with D|D
     .exact D
     .rw[ZQ id D]at hl;cases hl
    -- the numbers behind the call
    have Zo:∀i,i<ar_ E C.ps->q.2[i]? = some (renS (ar_ E C.ps) nx q.2 i):=λi hi=>by
     have ZF:i<q.2.length:=by omega
     have hb:Nat.blt i (ar_ E C.ps)=true:=by simpa using hi
     unfold renS;rw[hb,qQ ZF];simp[ZF]
    have Zp : ∀ i,ar_ E C.ps<=i->renS (ar_ E C.ps) nx q.2 i=nx+(i-ar_ E C.ps):=λi hi=>by
     have hb:Nat.blt i (ar_ E C.ps)=false:=by
      cases hb:Nat.blt i (ar_ E C.ps)with
      | false=>rfl
      | true => have:i<ar_ E C.ps:=by simpa using hb
                omega
     unfold renS;rw[hb]
    let Y:Ga:=λj=>if nx<=j/\j<nx+(cj_ E C.rs+cU_ E C.ps)then g1 (ar_ E C.ps+(j-nx))else g j
    have ZZ:g.Le Y:=λj l O=>by
     have:j<nx:=by
      rcases qb j nx with D|D
      .exact D
      .rw[ZQ j D]at O;cases O
     show(if _ then _ else g j)=_;rw[qG (by omega)];exact O
    have ZV:Fresh Y (nx+(cj_ E C.rs+cU_ E C.ps)):=λj O=>by
     show(if _ then _ else g j)=_;rw[qG (by omega)];exact ZQ j (by omega)
    have ZH:∀i l,i<cj_ E C.rs->g1 (ar_ E C.ps+i)=some l->Y (nx+i)=some l:=λi l Zu hi=>by
     show(if _ then _ else g _)=_;rw[qY ⟨by omega,by omega⟩,show ar_ E C.ps+(nx+i-nx)=ar_ E C.ps+i by omega];exact hi
    let s:Nat->Nat->Prop:=λj i=>j=renS (ar_ E C.ps) nx q.2 i/\i<ar_ E C.ps+(cj_ E C.rs+cU_ E C.ps)
    have hs:∀j j' i,s j i->s j' i->j=j':=λj j' i h1 F=>h1.1.trans F.1.symm
    have ZR:∀j i,s j i->Y j=g1 i:=λj i h1=>by
     obtain⟨rfl,hi⟩:=h1;rcases qb i (ar_ E C.ps)with D|D
     .have h6:=Zo i D;obtain⟨l,hl⟩:=ZX _ (qa h6);rw[ZZ _ l hl];exact(Zt i l (by unfold gOf;rw[h6];exact hl)).symm
     .rw[Zp i D];show(if _ then _ else g _)=_;rw[qY ⟨by omega,by omega⟩,show ar_ E C.ps+(nx+(i-ar_ E C.ps)-nx)=i by omega]
    have ZB:∀i l,((ar_ E C.ps+cj_ E C.rs<=i/\i<ar_ E C.ps+cj_ E C.rs+cU_ E C.ps)\/(0<=i/\i<0+ar_ E C.ps))->g1 i=some l->Y (renS (ar_ E C.ps) nx q.2 i)=some l:=λi l hi hl=>(ZR _ i ⟨rfl,by omega⟩).trans hl
    have ZI:∀i o,upH (λ_=>none) (cA_ E C.rs rh (ar_ E C.ps)++aM_ E C.ps (dE_ E C.ps q.1 bh) 0 (ar_ E C.ps+cj_ E C.rs)) i=some o->Plain E (λi=>(ar_ E C.ps+cj_ E C.rs<=i/\i<ar_ E C.ps+cj_ E C.rs+cU_ E C.ps)\/(0<=i/\i<0+ar_ E C.ps)) o:=λi o ho=>by
     rcases qW.1 (i0_ ho)with h1|h1
     .obtain⟨p,hp,G,_⟩:=fq_ _ _ h1;obtain rfl:=qSj hp;exact G _
     .obtain⟨p,hp,G,_⟩:=bY_ _ _ h1;obtain rfl:=qSj hp;exact G
    have Zn:cj_ E C.rs+cU_ E C.ps<=(callU E C nx q rh bh).length:=by
     unfold callU lentU;rw[qLa,zj,qLa,resO_len];have:=dI_ (ps:=C.ps) (a:=dE_ E C.ps q.1 bh) (n:=0) (k:=ar_ E C.ps+cj_ E C.rs);omega
    have ZU:hv_ tab f=false->Ext w w':=λhl=>by
     have ZA:q.2=[]:=takeA_own (by simpa only[hv_,hC]using hl) hq;have ZT:=hx.chg;rw[ZA]at ZT;exact Ext.of_below (Chg.below ZT)
    .rcases hu with⟨V,rfl⟩|⟨V,U,rfl⟩
     .refine⟨z',Y,ZY.trans ZL,ZZ,λj O=>ZV j (by simp only[qLa]at O;omega),?_,?_,ZU⟩
      .exact r9_ (uO_ J m) ZK λvs ZS=>nH_ J m ZS ZH (.inl rfl)
      .rw[←aJ_];refine ZW.back2 (s:=s) hx (λk x=>?_) ZZ (λj o O=>(v1_ O).imp (λ⟨i,M,Z,F,ho⟩=>⟨i,M,Z,F,by rw[ho];exact(hx.hold i M F).move2 (ZI i M F) ZB (.inl rfl) (ZR j i Z)⟩) id) hs ZL hx.fz λk x=>?_
       .obtain⟨i,id,o,h1,F,h3⟩:=kk_ x;exact⟨id,o,qa h1,F,h3⟩
       .rcases hx.fz0 k x with h1|h1|h1
        .exact .inl h1
        .exact .inr ⟨.inl h1,x⟩
        .exact .inr ⟨.inr h1,x⟩
     ··simp only[qAn]at U;obtain rfl:=ZC V;have ZM:z.In w':=λk x=>by
        have h1:=hx.fz k (ZY k x).1;exact⟨h1.1,h1.2.trans (ZY k x).2⟩
       have ZP:∀i M,upH (λ_=>none) (cA_ E C.rs rh (ar_ E C.ps)++aM_ E C.ps (dE_ E C.ps q.1 bh) 0 (ar_ E C.ps+cj_ E C.rs)) i=some M->kl_ E M:=λi M F=>by
        rcases qW.1 (i0_ F)with h3|h3
        .obtain⟨p,hp,G⟩:=r7_ U.1 _ _ h3;obtain rfl:=qSj hp;exact G
        .obtain⟨p,hp,G⟩:=cB_ U.2 _ _ h3;obtain rfl:=qSj hp;exact G
       refine⟨z,Y,Fz.Le.refl z,ZZ,λj O=>ZV j (by omega),?_,?_,ZU⟩
       .exact r9_ (uO_ J m) ZK λvs ZS=>nH_ J m ZS ZH (.inr U.1)
       .refine hH.back2 (s:=s) hx (λk x=>?_) ZZ (λj o O=>(v1_ O).imp (λ⟨i,M,Z,F,ho⟩=>⟨i,M,Z,F,by rw[ho];exact(hx.hold i M F).move2 (ZI i M F) ZB (.inr (ZP i M F)) (ZR j i Z)⟩) id) hs (Fz.Le.refl z) ZM λk x=>.inl x
        obtain⟨i,id,o,h1,F,h3⟩:=kk_ x;refine⟨id,o,qa h1,?_,h3⟩;rcases upH_or F with h4|h4
        .exact h4
        .rcases frzP_only H C.ps xs _ _ h4 with⟨t,ys,D⟩|⟨t,y,D⟩
         .obtain rfl:=qSj D;exact h3.elim
         .obtain rfl:=qSj D;exact h3.elim
theorem lCall_ok{tab:Tab E}(Z:tab.OK P E){f:FuncId}{xs:tL (V1 E)}{vs:tL tW}{R:Type}{k:tO (SV E)->Chs E->tO R}{r:R}(p:Fresh g nx)(hH:HR P E Bs F0 w0 w z g H)(Y:All2 (R1 P E z g) xs vs)(h:lCall E tab H nx f xs k=some r) :
  cr_ P f=true/\Ret P f vs.toArray w λv w'=>∃s u z2 j,k (some s) u=some r/\z.Le z2/\g.Le j/\Fresh j (nxU nx u)/\RV P E z2 j s v/\HR P E Bs F0 w0 w' z2 j (upH H u)/\(hv_ tab f=false->Ext w w'):=by
 cases x:tab f with
 | none=>
  unfold lCall at h;rw[x]at h;cases h
 | some C=>
  cases G:C.I with
  | none=>
   obtain⟨D,s,u,hk,m⟩:=lCall_ok2 Z (λC' e=>by rw[x]at e;obtain rfl:=qSj e;exact G) p Y h;exact⟨D,(m Bs F0 w0 w hH).mono λv w' ⟨z2,j,h1,V,U,O,M,J⟩=>⟨s,u,z2,j,hk,h1,V,U.nxU,O,M,J⟩⟩
  | some I=>
   obtain⟨_,D,F⟩:=Z f C x;obtain⟨hl,y⟩:=F I G;unfold lCall at h;rw[x]at h;simp only[G]at h;refine⟨D,(y p hH Y h).mono λv w' ⟨s,u,z2,j,h1,V,U,O,M,J⟩=>⟨s,u,z2,j,h1,V,U,O,M,J,λq=>?_⟩⟩;unfold hv_ at q;rw[x]at q;simp only at q;rw[hl]at q;cases q
end
section
variable{P:tT}{E:TE}{w w0:tS}{Bs:tL Nat}{F0:Nat->Prop}
def jk_{α:Type}:tL (tO (tA×Ty))->tL (SC E)->Nat->(tL (SC E)->Chs E->Nat->α)->α|some (e,ty)::ps,.nils::cs,n,k=>jk_ ps cs (n+1) λl u m=>k (.own n::l) (u++[(n,some (.row e ty [] []))]) m|_::ps,c::cs,n,k=>jk_ ps cs n λl u m=>k (c::l) u m|_,cs,n,k=>k cs [] n
def wantM:Mk->tL Ty->tL (tO (tA×Ty))|some e::f,.sl t::ts=>some (e,t)::wantM f ts|_::f,_::ts=>none::wantM f ts|_,_=>[]
def l7_(E:TE){α:Type}(t:Ty)(m:Mk)(x:V1 E)(n:Nat)(k:V1 E->Chs E->Nat->α):α:=
 match x with
 | .agg l=>jk_ (wantM m (E.flat t)) l n λl u f=>k (.agg l) u f
 | .one c=>jk_ (wantM m (E.flat t)) [c] n λl u f=>match l with
  | [h]=>k (.one h) u f
  | _=>k (.one c) [] n
def PrepIs(P:tT)(E:TE)(Bs:tL Nat)(F0:Nat->Prop)(w0 w:tS)(z:Fz)(g:Ga)(H:Nat->tO (Obj E))(ps:tL (tO (tA×Ty)))(cs:tL (SC E))(n:Nat):Prop:=∃l u m g',(∀{α:Type} (k:tL (SC E)->Chs E->Nat->α),jk_ ps cs n k=k l u m)/\g.Le g'/\Fresh g' m/\HR P E Bs F0 w0 w z g' (upH H u)/\(∀z f vs,g'.Le f->All2 (RC P E z f) cs vs->All2 (RC P E z f) l vs)/\(∀i o,(i,o)∈u->n<=i/\o≠none)/\n<=m/\m<=n+u.length
theorem PrepIs.step{z:Fz}{g:Ga}{H:Nat->tO (Obj E)}{p:tO (tA×Ty)}{ps:tL (tO (tA×Ty))}{c:SC E}{cs:tL (SC E)}{n:Nat}(h:PrepIs P E Bs F0 w0 w z g H ps cs n)(q:∀{α:Type} (k:tL (SC E)->Chs E->Nat->α),jk_ (p::ps) (c::cs) n k=jk_ ps cs n λl u m=>k (c::l) u m) :
  PrepIs P E Bs F0 w0 w z g H (p::ps) (c::cs) n:=by
 obtain⟨l,u,m,g',h1,F,D,C,y,x,s⟩:=h;exact⟨c::l,u,m,g',(λk=>(q k).trans (h1 _)),F,D,C,(λz G vs j f=>by
  cases f with
  | cons hx hr=>exact .cons hx (y z G _ j hr)),x,s⟩
theorem iL_{z:Fz}:∀(ps:tL (tO (tA×Ty))) (cs:tL (SC E)) {n:Nat} {g:Ga} {H:Nat->tO (Obj E)},HR P E Bs F0 w0 w z g H->Fresh g n->PrepIs P E Bs F0 w0 w z g H ps cs n
 | [],cs,n,g,H,j,f=>⟨cs,[],n,g,(λ_=>by cases cs<;>rfl),Ga.Le.refl g,f,j,(λ_ _ _ _ h=>h),(λ_ _ h=>nomatch h),qA _,qA _⟩
 | p::ps,[],n,g,H,j,f=>⟨[],[],n,g,(λ_=>by cases p<;>rfl),Ga.Le.refl g,f,j,(λ_ _ _ _ h=>h),(λ_ _ h=>nomatch h),qA _,qA _⟩
 | p :: ps,c::cs,n,g,H,j,f=>by
  have C:=iL_ ps cs j f;cases p with
  | none=>exact C.step λk=>by cases c<;>rfl
  | some q=>
   obtain⟨e,ty⟩:=q;cases c with
   | nils=>
    have y:=j.row_new (e:=e) (t:=ty) (xs:=[]) (A:=none) (cap:=0) (n:=0) (rows:=[]) f (Ext.refl w) rfl ⟨by simp,.inl ⟨rfl,rfl⟩⟩ rfl (λi x r h1 _=>by simp at h1) (λq ⟨a,J,_⟩=>nomatch J);obtain⟨l,u,m,g',h1,F,V,U,O,M,Z⟩:=iL_ ps cs y (f.put _);refine⟨.own n::l,u++[(n,some (.row e ty [] []))],m,g',(λk=>?_),(Ga.le_put f.self).trans F,V,by rw[←aJ_];exact U,(λz Y vs D G=>?_),(λi o s=>?_),by omega,by simp only[qLa,qLc,zL];omega⟩
    .simp only[jk_];exact h1 _
    .cases G with
     | cons hx hr=>exact .cons ⟨_,D _ _ (F _ _ (Ga.put_self _ _ _)),hx⟩ (O z Y _ D hr)
    .rcases qW.1 s with s|s
     .have:=M i o s;exact⟨by omega,this.2⟩
     .obtain⟨rfl,rfl⟩:=Prod.mk.inj (qT.1 s);exact⟨qA _,λe=>nomatch e⟩
   | _=>exact C.step λk=>rfl
theorem prepV_ok{z:Fz}{g:Ga}{H:Nat->tO (Obj E)}{n:Nat}(t:Ty)(m:Mk)(x:V1 E)(s:HR P E Bs F0 w0 w z g H)(q:Fresh g n) :
  ∃U u f g',(∀{α:Type} (k:V1 E->Chs E->Nat->α),l7_ E t m x n k=k U u f)/\g.Le g'/\Fresh g' f/\HR P E Bs F0 w0 w z g' (upH H u)/\(∀z j v,g'.Le j->R1 P E z j x v->R1 P E z j U v)/\(∀i o,(i,o)∈u->n<=i/\o≠none)/\n<=f/\f<=n+u.length:=by
 cases x with
 | agg l=>
  obtain⟨y,u,f,g',h1,O,M,J,G,F,D⟩:=iL_ (wantM m (E.flat t)) l s q;refine⟨.agg y,u,f,g',(λk=>?_),O,M,J,(λz j v C p=>?_),F,D⟩
  .simp only[l7_];exact h1 _
  .obtain⟨vs,e,p⟩:=p;exact⟨vs,e,G z j vs C p⟩
 | one c=>
  obtain⟨y,u,f,g',h1,O,M,J,G,F,D⟩:=iL_ (wantM m (E.flat t)) [c] s q;rcases y with _|⟨V,_|⟨c2,l2⟩⟩
  .exact⟨.one c,[],n,g,(λk=>by simp only[l7_];exact h1 _),Ga.Le.refl g,q,s,(λ_ _ _ _ h=>h),(λ_ _ h=>nomatch h),qA _,qA _⟩
  .exact⟨.one V,u,f,g',(λk=>by simp only[l7_];exact h1 _),O,M,J,(λz j v C p=>by
    have Z:All2 (RC P E z j) [V] [v]:=G z j [v] C (.cons p .nil);cases Z with
    | cons Y _=>exact Y),F,D⟩
  .exact⟨.one c,[],n,g,(λk=>by simp only[l7_];exact h1 _),Ga.Le.refl g,q,s,(λ_ _ _ _ h=>h),(λ_ _ h=>nomatch h),qA _,qA _⟩
theorem upH_far{H:Nat->tO (Obj E)}{i n:Nat}:∀{u:Chs E},(∀j o,(j,o)∈u->n<=j)->i<n->upH H u i=H i
 | [],_,_=>rfl
 | (j,p)::u,h,hi=>by
  simp only[upH];have:Nat.beq i j=false:=by
   cases m:Nat.beq i j with
   | false=>rfl
   | true=>have:=qNb m;have:=h j p (qR ..);omega
  rw[this];exact upH_far (u:=u) (λj o f=>h j o (qL _ f)) hi
def wantP(px:tV)(m:Mk)(ts:tL Ty):tL (tO (tA×Ty)):=match px with|true=>none::wantM m ts|false=>wantM m ts
def onNew{α:Type}:Chs E->α->α->α|[],a,_=>a|_::_,_,b=>b
def prepB{α:Type}(H:Nat->tO (Obj E))(f:tL (tO (tA×Ty)))(id n:Nat)(k:Chs E->Nat->α):α:=match H id with|some (.box T cs)=>jk_ f cs n λl u h=>onNew u (k [] n) (k ((id,some (.box T l))::u) h)|_=>k [] n
def kO_(E:TE){α:Type}:(ps:tL Pm)->(Nat->tO (Obj E))->tL (V1 E)->Nat->(tL (V1 E)->Chs E->Nat->α)->α|.l t m::ps,H,x::xs,n,k=>l7_ E t m x n λp u j=>kO_ E ps (upH H u) xs j λxs' f h=>k (p::xs') (f++u) h|.g t m::ps,H,x::xs,n,k=>l7_ E t m x n λp u j=>kO_ E ps (upH H u) xs j λxs' f h=>k (p::xs') (f++u) h|.bm _ t m px::ps,H,.one (.ptr id 0)::xs,n,k=>prepB H (wantP (pxB px ps) m (E.flat t)) id n λu j=>kO_ E ps (upH H u) (hidX H (pxB px ps) id++xs) j λxs' f h=>k (.one (.ptr id 0)::xs'.drop (hidX H (pxB px ps) id).length) (f++u) h|_::ps,H,x::xs,n,k=>kO_ E ps H xs n λxs' u q=>k (x::xs') u q|[],_,xs,n,k=>k xs [] n|_::_,_,[],n,k=>k [] [] n
def PrepA(P:tT)(E:TE)(Bs:tL Nat)(F0:Nat->Prop)(w0 w:tS)(z:Fz)(g:Ga)(H:Nat->tO (Obj E))(ps:tL Pm)(xs:tL (V1 E))(n:Nat):Prop:=∃xs' u f g',(∀{α:Type} (k:tL (V1 E)->Chs E->Nat->α),kO_ E ps H xs n k=k xs' u f)/\g.Le g'/\Fresh g' f/\HR P E Bs F0 w0 w z g' (upH H u)/\(∀z2 h vs,z.Le z2->g'.Le h->All2 (R1 P E z2 h) xs vs->All2 (R1 P E z2 h) xs' vs)/\f<=n+u.length/\∀i o,(i,o)∈u->o≠none
theorem HR.up{z:Fz}{g g':Ga}{H:Nat->tO (Obj E)}{i:Nat}{f o2:Obj E}(h:HR P E Bs F0 w0 w z g H)(u:g.Le g')(hi:H i=some f)(q:∀z w,ObjR P E z g w i f->ObjR P E z g' w i o2)(x:∀k,fpO g' i o2 k↔fpO g i f k):HR P E Bs F0 w0 w z g' (upH H [(i,some o2)]):=by
 refine h.turn u (i:=i) (i':=i) (C:=λk=>fpO g i f k) (λk m=>⟨f,hi,m⟩) (Grow.refl w) (λk _ _=>rfl) (q z w (h.hold i f hi)) (λk m=>.inl ((x k).1 m)) λj p s=>?_
 rcases aP_ s with⟨rfl,rfl⟩|⟨h1,y⟩
 .exact .inl ⟨rfl,rfl⟩
 .exact .inr ⟨h1,.inl h1,y⟩
theorem prepB_ok{z:Fz}{g:Ga}{H:Nat->tO (Obj E)}(D:tL (tO (tA×Ty)))(id n:Nat)(x:HR P E Bs F0 w0 w z g H)(s:Fresh g n) :
  ∃u y g',(∀{α:Type} (k:Chs E->Nat->α),prepB H D id n k=k u y)/\g.Le g'/\Fresh g' y/\HR P E Bs F0 w0 w z g' (upH H u)/\y<=n+u.length/\∀i o,(i,o)∈u->o≠none:=by
 unfold prepB;split
 .rename_i T cs hi;obtain⟨l,u,m,g',h1,h2,Z,Y,V,G,h7,q⟩:=iL_ D cs x s;cases u with
  | nil=>exact⟨[],n,g,(λk=>h1 _),Ga.Le.refl g,s,x,qA _,λ_ _ h=>nomatch h⟩
  | cons p u=>
   obtain⟨lo,F⟩:=(x.hold _ _ hi).loc;have U:id<n:=by
    rcases qb id n with q|q
    .exact q
    .rw[s id q]at F;cases F
   have C:upH H (p::u) id=some (.box T cs):=(upH_far (λi o h=>(G i o h).1) U).trans hi;have j:=Y.up (Ga.Le.refl g') C (o2:=.box T l) (λz w f=>by
    obtain⟨lo',vs,O,M,J⟩:=f;exact⟨lo',vs,O,M,V z g' vs (Ga.Le.refl g') J⟩) (λk=>Iff.rfl)
   refine⟨(id,some (.box T l))::p::u,m,g',(λk=>h1 _),h2,Z,?_,by simp only[qLc]at q ⊢;omega,λi o f=>?_⟩
   .rw[aJ_]at j;exact j
   .rcases qV.1 f with f|f
    .obtain⟨_,rfl⟩:=Prod.mk.inj f;exact λe=>nomatch e
    .exact(G i o f).2
 .exact⟨[],n,g,(λk=>rfl),Ga.Le.refl g,s,x,qA _,λ_ _ h=>nomatch h⟩
theorem PrepA.skip{z:Fz}{g:Ga}{H:Nat->tO (Obj E)}{p:Pm}{ps:tL Pm}{x:V1 E}{xs:tL (V1 E)}{n:Nat}(h:PrepA P E Bs F0 w0 w z g H ps xs n)(s:∀{α:Type} (k:tL (V1 E)->Chs E->Nat->α),kO_ E (p::ps) H (x::xs) n k=kO_ E ps H xs n λxs' u f=>k (x::xs') u f) :
  PrepA P E Bs F0 w0 w z g H (p::ps) (x::xs) n:=by
 obtain⟨xs',u,f,g',h1,G,F,D,C,y⟩:=h;exact⟨x::xs',u,f,g',(λk=>(s k).trans (h1 _)),G,F,D,(λz2 J vs j q m=>by
  cases m with
  | cons hx hr=>exact .cons hx (C z2 J _ j q hr)),y⟩
theorem prepA_ok {z:Fz}:∀(ps:tL Pm) {H:Nat->tO (Obj E)} (xs:tL (V1 E)) {n:Nat} {g:Ga},HR P E Bs F0 w0 w z g H->Fresh g n->PrepA P E Bs F0 w0 w z g H ps xs n:=by
 intro ps
 induction ps with
 | nil=>
  intro H xs n g f j;exact⟨xs,[],n,g,(λk=>by cases xs<;>rfl),Ga.Le.refl g,j,f,(λ_ _ _ _ _ h=>h),qA _,λ_ _ h=>nomatch h⟩
 | cons p ps q=>
  intro H xs n g f j;cases xs with
  | nil=>exact⟨[],[],n,g,(λk=>by cases p<;>rfl),Ga.Le.refl g,j,f,(λ_ _ _ _ _ h=>h),qA _,λ_ _ h=>nomatch h⟩
  | cons x xs=>
   have row:∀(t:Ty) (m:Mk),(∀{α:Type} (k:tL (V1 E)->Chs E->Nat->α),kO_ E (p::ps) H (x::xs) n k=l7_ E t m x n λU u V=>kO_ E ps (upH H u) xs V λxs' F G=>k (U::xs') (F++u) G)->PrepA P E Bs F0 w0 w z g H (p::ps) (x::xs) n:=λt m he=>by
    obtain⟨U,u,V,g1,h1,O,h3,h4,h5,h6,h7,h8⟩:=prepV_ok t m x f j;obtain⟨xs',F,G,g2,k1,J,k3,Z,y,k6,Y⟩:=q xs h4 h3;refine⟨U::xs',F++u,G,g2,(λk=>(he k).trans ((h1 _).trans (k1 _))),O.trans J,k3,by rw[←aJ_];exact Z,(λz3 D vs M C hv=>?_),by rw[qLa];omega,λi o s=>?_⟩
    .cases hv with
     | cons hx hr=>exact .cons (h5 z3 D _ (J.trans C) hx) (y z3 D _ M C hr)
    .rcases qW.1 s with s|s
     .exact Y i o s
     .exact(h6 i o s).2
   cases p with
   | l t m=>exact row t m λk=>rfl
   | g t m=>exact row t m λk=>rfl
   | bm T t m px=>
    cases x with
    | agg l=>exact(q xs f j).skip λk=>rfl
    | one c=>
     cases c with
     | ptr id off=>
      cases off with
      | succ off=>exact(q xs f j).skip λk=>rfl
      | zero=>
       obtain⟨u,V,g1,h1,O,h3,h4,h5,h6⟩:=prepB_ok (wantP (pxB px ps) m (E.flat t)) id n f j;obtain⟨xs',F,G,g2,k1,J,k3,Z,y,k6,Y⟩:=q (hidX H (pxB px ps) id++xs) h4 h3;refine⟨.one (.ptr id 0)::xs'.drop (hidX H (pxB px ps) id).length,F++u,G,g2,(λk=>(h1 _).trans (k1 _)),O.trans J,k3,by rw[←aJ_];exact Z,(λz3 D vs M C hv=>?_),by rw[qLa];omega,λi o s=>?_⟩
       .cases hv with
        | cons hx hr=>
         refine .cons hx ?_;unfold hidX at y ⊢;split at y
         .rename_i hi;obtain⟨lo,ZX,_,_,ZZ⟩:=f.hold _ _ hi;cases ZZ with
          | cons hp _=>
           obtain⟨l2,ZY,_⟩:=hp;have hq:∃l,D _=some l/\Value.pointer (some ⟨l2.b,0,none⟩)=Value.pointer (some ⟨l.b,0,none⟩):=⟨l2,C _ _ (J _ _ (O _ _ ZY)),rfl⟩;have:=y z3 D (Value.pointer (some ⟨l2.b,0,none⟩)::_) M C (All2.cons hq hr);cases this with
           | cons _ h9=>exact h9
         .exact y z3 D _ M C hr
       .rcases qW.1 s with s|s
        .exact Y i o s
        .exact h6 i o s
     | _=>exact(q xs f j).skip λk=>rfl
   | d t=>exact(q xs f j).skip λk=>rfl
   | b T t=>exact(q xs f j).skip λk=>rfl
   | p t=>exact(q xs f j).skip λk=>rfl
   | mp T k v=>exact(q xs f j).skip λk=>rfl
   | f1 a r=>exact(q xs f j).skip λk=>rfl
   | f2 a b r=>exact(q xs f j).skip λk=>rfl
end
section
variable{P:tT}{E:TE}{z z':Fz}{g g':Ga}{nx:Nat}{w w' w0:tS}{H H':Nat->tO (Obj E)}{L:Nat->tO (SV E)}{ρ:tN->tW}{o:tI}{Bs:tL Nat}{F0:Nat->Prop}{R:Type}{r:R}
def l8_(E:TE)(L:Nat->tO (SV E)):tL tN->tO (tL (V1 E))
 | []=>some []
 | x::l=>match opS E L x,l8_ E L l with
  | some (.v v),some vs=>some (v::vs)
  | _,_=>none
theorem iM_(hρ:OpR P E z g L ρ):∀{l:tL tN} {xs:tL (V1 E)},l8_ E L l=some xs->All2 (R1 P E z g) xs (l.map ρ)
 | [],xs,h=>by simp only[l8_,qOi]at h;subst h;exact .nil
 | x::l,xs,h=>by
  simp only[l8_]at h;split at h
  .rename_i v vs j f;obtain rfl:=qSj h;exact .cons (hρ x _ j) (iM_ hρ f)
  .cases h
theorem v2_{f:FuncId}{args:Array tN}{ats:Array tA}(h:o.op = .call { callee:=.value (.func f),args:=args,argTypes:=ats })(j:ρ (.func f) = .func (.func f) #[] #[])(m:cr_ P f=true)(w:tS) :
  (execOp ρ o).run P w = .ok (.enter f (args.toList.map ρ).toArray) w:=by
 unfold execOp;rw[h];simp only[resolve,j,Deferred.ofValue,Sem.run_bind,Sem.run_pure,Result.andThen_ok,invoke];have e:(#[]++args.map ρ ++ #[]:Array tW)=(args.toList.map ρ).toArray:=by
  rw[←jI];simp
 rw[e];exact rW_ m
theorem op_{x:tN}{f:FuncId}{caps:Array tW}{args:Array tN}{ats:Array tA}(h:o.op = .call { callee:=.value x,args:=args,argTypes:=ats })(j:ρ x = .func (.func f) #[] caps)(m:cr_ P f=true)(w:tS) :
  (execOp ρ o).run P w = .ok (.enter f ((args.toList.map ρ).toArray++caps)) w:=by
 unfold execOp;rw[h];simp only[resolve,j,Deferred.ofValue,Sem.run_bind,Sem.run_pure,Result.andThen_ok,invoke];have e:(#[]++args.map ρ++caps:Array tW)=(args.toList.map ρ).toArray++caps:=by
  rw[←jI];simp
 rw[e];exact rW_ m
theorem qe_{t:Ty}{x:V1 E}{d:Den E.S t}{v:tW}(m:HR P E Bs F0 w0 w z g H)(h:takeD E H t x=some d)(hr:R1 P E z g x v):RT E z t d v:=by
 unfold takeD at h;split at h
 .rename_i p j f;obtain rfl:=qSj h;cases x with
  | one c=>
   have:=ds_ m f (.cons hr .nil:All2 (RC P E z g) [c] [v]);cases t with
   | st n=>cases j
   | int k=>exact this
   | bool=>exact this
   | str=>exact this
   | sl e=>exact this
  | agg l=>
   obtain⟨vs,rfl,hr⟩:=hr;have:=ds_ m f hr;cases t with
   | st n=>
    have q:RD E z (E.flat (.st n)) (E.fl (.st n) (E.ufl (.st n) p)) vs:=by rw[E.fl_ufl];exact this
    exact⟨vs,rfl,q⟩
   | _=>cases j
 .cases h
def lCallV(E:TE)(L:Nat->tO (SV E))(H:Nat->tO (Obj E))(x:tN)(args:tL tN){R:Type}(k:tO (SV E)->Chs E->tO R):tO R:=
 match opS E L x,l8_ E L args with
 | some (.v (.one (.fn1 a r f))),some [u]=>match takeD E H a u with
  | some d=>Option.bind (f d) λy=>k (some (.v (.one (.dt r y)))) []
  | none=>none
 | some (.v (.one (.fn2 a b r f))),some [u,v]=>match takeD E H a u,takeD E H b v with
  | some d,some e=>Option.bind (f d e) λy=>k (some (.v (.one (.dt r y)))) []
  | _,_=>none
 | _,_=>none
theorem lCallV_ok{x:tN}{args:tL tN}{k:tO (SV E)->Chs E->tO R}(hρ:OpR P E z g L ρ)(m:HR P E Bs F0 w0 w z g H)(h:lCallV E L H x args k=some r) :
  ∃f caps s,ρ x = .func (.func f) #[] caps/\cr_ P f=true/\k (some s) []=some r/\Ret P f ((args.map ρ).toArray++caps) w λv w'=>RV P E z g s v/\Ext w w':=by
 unfold lCallV at h;split at h
 .rename_i a r' f u hx C;split at h
  .rename_i d F;obtain⟨y,q,h⟩:=bind_some h;obtain⟨fid,caps,e,⟨J,D⟩,G⟩:=hρ x _ hx;have j:=iM_ hρ C;generalize args.map ρ=vs at j;cases j with
   | cons h1 p=>
    cases p
    exact⟨fid,caps,_,e,J,h,G w z (d,()) y _ (Fz.Le.refl z) m.fz ⟨_,_,rfl,qe_ m F h1,rfl⟩ q⟩
  .cases h
 .rename_i a b r' f u v hx C;split at h
  .rename_i d e' F M;obtain⟨y,q,h⟩:=bind_some h;obtain⟨fid,caps,e,⟨J,D⟩,G⟩:=hρ x _ hx;have j:=iM_ hρ C;generalize args.map ρ=vs at j;cases j with
   | cons h1 p=>
    cases p with
    | cons p O=>
     cases O
     exact⟨fid,caps,_,e,J,h,G w z (d,e',()) y _ (Fz.Le.refl z) m.fz ⟨_,_,rfl,qe_ m F h1,_,_,rfl,qe_ m M p,rfl⟩ q⟩
  .cases h
 .cases h
def capsV(E:TE):tL Nat->tL (V1 E)|[]=>[]|i::l=>.one (.ptr i 0)::capsV E l
theorem uQ_:∀{ids:tL Nat} {us:tL tW},All2 (λid u=>∃l,g id=some l/\u=Value.pointer (some ⟨l.b,0,none⟩)) ids us->All2 (R1 P E z g) (capsV E ids) us
 | [],_,h=>by cases h;exact .nil
 | i::ids,_,h=>by
  cases h with
  | cons h1 f=>exact .cons h1 (uQ_ f)
def psOf(tab:Tab E)(f:FuncId):tL Pm:=match tab f with|some C=>C.ps|none=>[]
def pCall(E:TE)(tab:Tab E)(H:Nat->tO (Obj E))(nx:Nat)(f:FuncId)(xs:tL (V1 E)){R:Type}(k:tO (SV E)->Chs E->tO R):tO R:=kO_ E (psOf tab f) H xs nx λxs u n=>lCall E tab (upH H u) n f xs λs h=>k s (h++u)
theorem nxU_app{nx j:Nat}{u f:Chs E}(h:j<=nx+u.length)(s:∀i o,(i,o)∈u->o≠none):nxU j f<=nxU nx (f++u):=by
 cases f with
 | nil=>
  cases u with
  | nil=>simp only[zL]at h;simp only[nxU,zk];omega
  | cons p u=>
   obtain⟨i,o⟩:=p;cases o with
   | none=>exact(s i none (qR ..) rfl).elim
   | some o=>simp only[qLc]at h;simp only[nxU,jD];omega
 | cons p f=>
  obtain⟨i,o⟩:=p;cases o with
  | some o=>simp only[nxU,qc,qLa];omega
  | none=>
   simp only[nxU,qc,qLa];cases h1:Nat.ble (j+1+(f.length+1)) (i+1)<;>cases q:Nat.ble (nx+1+(f.length+List.length u+1)) (i+1)<;>simp only
   .omega
   .have y:=qq q;have x:j+1+(f.length+1)<=i+1:=by omega
    rw[zC x]at h1;cases h1
   .have y:¬(nx+1+(f.length+List.length u+1)<=i+1):=λm=>by rw[zC m]at q;cases q
    omega
   .exact qA _
theorem pCall_ok{tab:Tab E}(O:tab.OK P E){f:FuncId}{xs:tL (V1 E)}{vs:tL tW}{R:Type}{k:tO (SV E)->Chs E->tO R}{r:R}(m:Fresh g nx)(V:HR P E Bs F0 w0 w z g H)(M:All2 (R1 P E z g) xs vs)(h:pCall E tab H nx f xs k=some r) :
  cr_ P f=true/\Ret P f vs.toArray w λv w'=>∃s u z2 j,k (some s) u=some r/\z.Le z2/\g.Le j/\Fresh j (nxU nx u)/\RV P E z2 j s v/\HR P E Bs F0 w0 w' z2 j (upH H u)/\(hv_ tab f=false->Ext w w'):=by
 unfold pCall at h;obtain⟨xs',u,n',g',h1,q,h3,h4,h5,Z,Y⟩:=prepA_ok (psOf tab f) xs V m;rw[h1]at h;obtain⟨U,hr⟩:=lCall_ok O h3 h4 (h5 z g' vs (Fz.Le.refl z) (Ga.Le.refl g') (M.mono λ_ _ hx=>R1.le hx (Fz.Le.refl z) q)) h;refine⟨U,hr.mono λv w' ⟨s,x,z2,j,J,G,F,D,C,p,y⟩=>⟨s,x++u,z2,j,J,G,q.trans F,λi hi=>D i (qN (nxU_app Z Y) hi),C,?_,y⟩⟩;rw[aJ_]at p;exact p
noncomputable def evOp(P:tT)(E:TE)(eqs:tL (Nat×Nat))(tab:Tab E)(L:Nat->tO (SV E))(H:Nat->tO (Obj E))(nx:Nat)(o:tI){R:Type}(k:tO (SV E)->Chs E->tO R):tO R:=
 match o.op with
 | .box T x=>lBox E L nx T x k
 | .alloc T=>lAlloc P E nx T k
 | .store T x y=>lStore P E L H T x y k
 | .buildSlice T n ps=>lSlice P E L H nx T n ps k
 | .makeSlice T x y=>lMake P E L nx T x y k
 | .makeMap T none=>uL_ P E nx T k
 | .mapUpdate T m x y=>lMapUpd P E eqs L H T m x y k
 | .mapEntry T m x=>lMapEnt P E eqs L H nx T m x k
 | .entryStore _ m x y=>lEntSt E L H m x y k
 | .call { callee:=.builtin .append,args:=⟨[x,y]⟩,argTypes:=⟨[T,T']⟩ }=>match Nat.beq T T' with
  | true=>lApp P E L H nx T x y k
  | false=>match P.underlying T' with
   | some (.int _)=>lAppN P E L nx T T' x y k
   | _=>lAppS P E L H nx T T' x y k
 | .call { callee:=.builtin .copy,args:=⟨[x,y]⟩,argTypes:=⟨[T,_]⟩ }=>lCopy P E L H T x y k
 | .call { callee:=.builtin .clear,args:=⟨[x]⟩,argTypes:=⟨[T]⟩ }=>lClear P E L H T x k
 | .call { callee:=.value (.func f),args:=args,argTypes:=_ }=>match l8_ E L args.toList with
  | some xs=>pCall E tab H nx f xs k
  | none=>none
 | .call { callee:=.value (.tmp t),args:=args,argTypes:=_ }=>match L t with
  | some (.v (.one (.clo f ids)))=>match l8_ E L args.toList with
   | some xs=>pCall E tab H nx f (xs++capsV E ids) k
   | none=>none
  | _=>lCallV E L H (.tmp t) args.toList k
 | _=>qOp P E eqs L H nx o λs up=>k (some s) (match up with|none=>[]|some (i,p)=>[(i,some p)])
def dc_(tab:Tab E)(L:Nat->tO (SV E))(o:tI):tV:=match o.op with
 | .store .. =>false
 | .mapUpdate .. =>false
 | .mapEntry .. =>false
 | .entryStore .. =>false
 | .call { callee:=.builtin .append,args:=_,argTypes:=_ }=>false
 | .call { callee:=.builtin .copy,args:=_,argTypes:=_ }=>false
 | .call { callee:=.builtin .clear,args:=_,argTypes:=_ }=>false
 | .call { callee:=.value (.func f),args:=_,argTypes:=_ }=>!(hv_ tab f)
 | .call { callee:=.value (.tmp t),args:=_,argTypes:=_ }=>match L t with
  | some (.v (.one (.clo f _)))=>!(hv_ tab f)
  | _=>true
 | _=>true
theorem mK_{eqs:tL (Nat×Nat)}{tab:Tab E}{N:Nat}{a:Act}{K:Act->tS->Prop}{Q:Exit->Act->tS->Prop}{k:tO (SV E)->Chs E->tO R}(V:∀p∈eqs,aG_ P E p.1 p.2)(D:tab.OK P E)(q:Fresh g nx)(O:ER P E z g N a L)(C:HR P E Bs F0 w0 w z g H)
  (h:evOp P E eqs tab L H nx o k=some r)
  (Z:∀s u v w' z2 F,k s u=some r->z.Le z2->g.Le F->ER P E z2 F N a L->HR P E Bs F0 w0 w' z2 F (upH H u)->Fresh F (nxU nx u)->(∀sv,s=some sv->RV P E z2 F sv v)->(dc_ tab L o=true->Ext w w')->K (a.put o.dst v) w'):o.wp P a w K Q:=by
 have hρ:=O.op C.gl;have hρc:∀v,a.eval (.const v)=v:=λv=>rfl
 have loud:∀{ex:tV},(dc_ tab L o=true->ex=true)->dh_ P E Bs F0 w0 w z g nx H a.eval o ex k r->o.wp P a w K Q:=by
  rintro ex ZX ⟨s,u,z2,F,w',n,J,D⟩;unfold Oper.wp;rw[D.run];have M:Fresh F (nxU nx u):=Fresh.nxU λi hi=>D.fresh i (by omega)
  cases s with
  | some sv=>
   obtain⟨v,rfl,hv⟩:=D.val;exact Z _ u v w' z2 F J D.le D.leg (O.le D.le D.leg) D.hr M (λsv' e=>by obtain rfl:=qSj e;exact hv) λhm=>D.ext (ZX hm)
  | none=>
   have hn:n = .skip:=D.val;subst hn;exact Z none u undef w' z2 F J D.le D.leg (O.le D.le D.leg) D.hr M (λsv' e=>by cases e) λhm=>D.ext (ZX hm)
 unfold evOp at h;split at h
 .rename_i T x j;exact loud (λ_=>rfl) (lBox_ok j q hρ C h)
 .rename_i T j;exact loud (λ_=>rfl) (lAlloc_ok j q C h)
 .rename_i T x y j;exact loud (λhm=>by simp[dc_,j]at hm) (lStore_ok j q hρ C h)
 .rename_i T n ps j;exact loud (λ_=>rfl) (lSlice_ok j q hρ C h)
 .rename_i T x y j;exact loud (λ_=>rfl) (lMake_ok j hρc q hρ C h)
 .rename_i T j;exact loud (λ_=>rfl) (lMakeMap_ok j q C h)
 .rename_i T m x y j;exact loud (λhm=>by simp[dc_,j]at hm) (lMapUpd_ok V j q hρ C h)
 .rename_i T m x j;exact loud (λhm=>by simp[dc_,j]at hm) (lMapEnt_ok V j q hρ C h)
 .rename_i T m x y j;exact loud (λhm=>by simp[dc_,j]at hm) (lEntSt_ok j q hρ C h)
 .rename_i x y T T' j;split at h
  .rename_i Y;obtain rfl:=qNb Y;exact loud (λhm=>by simp[dc_,j]at hm) (lApp_ok j q hρ C h)
  .split at h
   .exact loud (λhm=>by simp[dc_,j]at hm) (lAppN_ok j q hρ C h)
   .exact loud (λhm=>by simp[dc_,j]at hm) (lAppS_ok j q hρ C h)
 .rename_i x y T T2 j;exact loud (λhm=>by simp[dc_,j]at hm) (lCopy_ok j q hρ C h)
 .rename_i x T j;exact loud (λhm=>by simp[dc_,j]at hm) (lClear_ok j q hρ C h)
 .rename_i f args ats j;split at h
  .rename_i xs U;obtain⟨Y,G⟩:=pCall_ok D q C (iM_ hρ U) h;unfold Oper.wp;rw[v2_ j rfl Y];simp only[Oper.upon];refine Calls.mono G λe w' ⟨v,he,s,u,z2,F,J,h1,h2,h3,h4,h5,h6⟩=>?_
   subst he;exact Z _ u v w' z2 F J h1 h2 (O.le h1 h2) h5 h3 (λsv' e=>by obtain rfl:=qSj e;exact h4) λhm=>h6 (by simpa[dc_,j]using hm)
  .cases h
 .rename_i t args ats j;split at h
  .rename_i f ids hL;split at h
   .rename_i xs U;obtain⟨us,hf,ZW⟩:=hρ (.tmp t) _ hL;obtain⟨Y,G⟩:=pCall_ok D q C ((iM_ hρ U).append (uQ_ ZW)) h;unfold Oper.wp;rw[op_ j hf Y];simp only[Oper.upon];have e:(args.toList.map a.eval).toArray++us.toArray=(args.toList.map a.eval++us).toArray:=by simp
    rw[e];refine Calls.mono G λe w' ⟨v,he,s,u,z2,F,J,h1,h2,h3,h4,h5,h6⟩=>?_
    subst he;exact Z _ u v w' z2 F J h1 h2 (O.le h1 h2) h5 h3 (λsv' e=>by obtain rfl:=qSj e;exact h4) λhm=>h6 (by simpa[dc_,j,hL]using hm)
   .cases h
  .obtain⟨f,caps,s,hf,Y,J,G⟩:=lCallV_ok hρ C h;unfold Oper.wp;rw[op_ j hf Y];simp only[Oper.upon];refine Calls.mono G λe w' ⟨v,he,hv,hx⟩=>?_
   subst he;exact Z _ [] v w' z g J (Fz.Le.refl z) (Ga.Le.refl g) O (C.ext hx) (Fresh.nxU λi hi=>q i (by omega)) (λsv' e=>by obtain rfl:=qSj e;exact hv) λ_=>hx
 .obtain⟨s,v,up,F,J,hg,ZV,hv,ZY,ZZ⟩:=qOp_ok (W:=w) (I:=λw'=>w'=w) V q.self hρ C (λw' e=>by subst e;exact Stands.refl C) h;unfold Oper.wp;rw[ZY w rfl];have M:∀m,Fresh F (nx+1+m):=λm i hi=>by rw[ZV i (by omega)];exact q i (by omega)
  cases up with
  | none=>
   obtain rfl:=ZZ;exact Z _ [] v w z F J (Fz.Le.refl z) (Ga.Le.refl F) O C (M _).nxU (λsv' e=>by obtain rfl:=qSj e;exact hv) λ_=>Ext.refl w
  | some p=>
   obtain⟨i,o2⟩:=p;obtain⟨o1,h1,h2,h3⟩:=ZZ;exact Z _ [(i,some o2)] v w z F J (Fz.Le.refl z) hg (O.le (Fz.Le.refl z) hg) (C.up hg h1 h2 h3) (M _).nxU (λsv' e=>by obtain rfl:=qSj e;exact hv) λ_=>Ext.refl w
theorem evOp_ok{eqs:tL (Nat×Nat)}{tab:Tab E}{N:Nat}{a:Act}{K:Act->tS->Prop}{Q:Exit->Act->tS->Prop}{k:tO (SV E)->Chs E->tO R}(m:∀p∈eqs,aG_ P E p.1 p.2)(q:tab.OK P E)(j:Fresh g nx)(C:ER P E z g N a L)(y:HR P E Bs F0 w0 w z g H)
  (h:evOp P E eqs tab L H nx o k=some r)
  (x:∀s u v w' z2 f,k s u=some r->z.Le z2->g.Le f->ER P E z2 f N a L->HR P E Bs F0 w0 w' z2 f (upH H u)->Fresh f (nxU nx u)->(∀sv,s=some sv->RV P E z2 f sv v)->K (a.put o.dst v) w'):o.wp P a w K Q:=
 mK_ m q j C y h λs u v w' z2 f h1 O M J G F D _=>x s u v w' z2 f h1 O M J G F D
end
section
variable{P:tT}{E:TE}{z z':Fz}{g g':Ga}{nx:Nat}{w w' W w0:tS}{I:tS->Prop}{H H':Nat->tO (Obj E)}{L:Nat->tO (SV E)}{ρ:tN->tW}{o:tI}{Bs:tL Nat}{F0:Nat->Prop}{R:Type}{r:R}
def SC.enc:SC E->tO tW|.dt (.int k) n=>some (.int k n)|.dt .bool b=>some (.bool b)|.dt .str s=>some (S s)|_=>none
def encCs:tL (SC E)->tO (tL tW)
 | []=>some []
 | c::l=>match c.enc,encCs l with
  | some v,some vs=>some (v::vs)
  | _,_=>none
def V1.enc:V1 E->tO tW
 | .one c=>c.enc
 | .agg l=>match encCs l with
  | some vs=>some (.agg vs.toArray)
  | none=>none
def encVs:tL (V1 E)->tO (tL tW)
 | []=>some []
 | c::l=>match c.enc,encVs l with
  | some v,some vs=>some (v::vs)
  | _,_=>none
def SV.enc:SV E->tO tW
 | .v x=>x.enc
 | .tup l=>match encVs l with
  | some vs=>some (.tuple vs.toArray)
  | none=>none
theorem SC.enc_ok{c:SC E}{u v:tW}(h:c.enc=some u):RC P E z g c v↔v=u:=by
 unfold SC.enc at h;split at h
 .obtain rfl:=qSj h;exact⟨λhr=>by obtain⟨vs,e,_⟩:=RD.int_inv (hr:RD E z _ _ [v]);simp at e;exact e.1,λe=>by subst e;exact RD.int .nil⟩
 .obtain rfl:=qSj h;exact⟨λhr=>by obtain⟨vs,e,_⟩:=RD.bool_inv (hr:RD E z _ _ [v]);simp at e;exact e.1,λe=>by subst e;exact RD.bool .nil⟩
 .obtain rfl:=qSj h;exact⟨λhr=>by obtain⟨vs,e,_⟩:=RD.str_inv (hr:RD E z _ _ [v]);simp at e;exact e.1,λe=>by subst e;exact RD.str .nil⟩
 .cases h
theorem qf_:∀{l:tL (SC E)} {us vs:tL tW},encCs l=some us->(All2 (RC P E z g) l vs↔vs=us)
 | [],us,vs,h=>by
  obtain rfl:=qSj h;exact⟨λh=>by cases h;rfl,λe=>by subst e;exact .nil⟩
 | c :: l,us,vs,h=>by
  simp only[encCs]at h;split at h
  .rename_i v vs' j f;obtain rfl:=qSj h;refine⟨λh=>?_,λe=>?_⟩
   .cases h with
    | cons h1 m=>
     obtain rfl:=(SC.enc_ok j).1 h1;obtain rfl:=(qf_ f).1 m;rfl
   .subst e;exact .cons ((SC.enc_ok j).2 rfl) ((qf_ f).2 rfl)
  .cases h
theorem V1.enc_ok{x:V1 E}{u v:tW}(h:x.enc=some u):R1 P E z g x v↔v=u:=by
 cases x with
 | one c=>exact SC.enc_ok h
 | agg l=>
  simp only[V1.enc]at h;split at h
  .rename_i vs f;obtain rfl:=qSj h;exact⟨λ⟨us,e,j⟩=>by obtain rfl:=(qf_ f).1 j;exact e,λe=>⟨vs,e,(qf_ f).2 rfl⟩⟩
  .cases h
theorem mL_:∀{l:tL (V1 E)} {us vs:tL tW},encVs l=some us->(All2 (R1 P E z g) l vs↔vs=us)
 | [],us,vs,h=>by
  obtain rfl:=qSj h;exact⟨λh=>by cases h;rfl,λe=>by subst e;exact .nil⟩
 | c :: l,us,vs,h=>by
  simp only[encVs]at h;split at h
  .rename_i v vs' j f;obtain rfl:=qSj h;refine⟨λh=>?_,λe=>?_⟩
   .cases h with
    | cons h1 m=>
     obtain rfl:=(V1.enc_ok j).1 h1;obtain rfl:=(mL_ f).1 m;rfl
   .subst e;exact .cons ((V1.enc_ok j).2 rfl) ((mL_ f).2 rfl)
  .cases h
theorem SV.enc_ok{x:SV E}{u v:tW}(h:x.enc=some u):RV P E z g x v↔v=u:=by
 cases x with
 | v x=>exact V1.enc_ok h
 | tup l=>
  simp only[SV.enc]at h;split at h
  .rename_i vs f;obtain rfl:=qSj h;exact⟨λ⟨us,e,j⟩=>by obtain rfl:=(mL_ f).1 j;exact e,λe=>⟨vs,e,(mL_ f).2 rfl⟩⟩
  .cases h
def qCall(E:TE)(tab:Tab E)(H:Nat->tO (Obj E))(nx:Nat)(f:FuncId)(xs:tL (V1 E)){R:Type}(k:tO (SV E)->Chs E->tO R):tO R:=
 match hv_ tab f with
 | true=>none
 | false=>lCall E tab H nx f xs λs u=>match s,u with
  | some sv,[]=>match sv.enc with
   | some _=>k (some sv) []
   | none=>none
  | _,_=>none
noncomputable def it_(P:tT)(E:TE)(eqs:tL (Nat×Nat))(tab:Tab E)(L:Nat->tO (SV E))(H:Nat->tO (Obj E))(nx:Nat)(o:tI){R:Type}(k:tO (SV E)->Chs E->tO R):tO R:=
 match o.op with
 | .call { callee:=.value (.func f),args:=args,argTypes:=_ }=>match l8_ E L args.toList with
  | some xs=>qCall E tab H nx f xs k
  | none=>none
 | .call { callee:=.value (.tmp t),args:=args,argTypes:=_ }=>match L t with
  | some (.v (.one (.clo f ids)))=>match l8_ E L args.toList with
   | some xs=>qCall E tab H nx f (xs++capsV E ids) k
   | none=>none
  | _=>none
 | _=>qOp P E eqs L H nx o λs up=>k (some s) (match up with|none=>[]|some (i,p)=>[(i,some p)])
def Keeps(P:tT)(E:TE)(z:Fz)(g:Ga)(H:Nat->tO (Obj E))(W w:tS):Prop:=Stands z g H W w/\∃Bs F0 w0,HR P E Bs F0 w0 w z g H
theorem Keeps.of_ext(f:HR P E Bs F0 w0 W z g H)(h:Ext W w):Keeps P E z g H W w:=⟨Stands.of_ext f h,_,_,_,f.ext h⟩
def Quiet(P:tT)(E:TE)(Bs:tL Nat)(F0:Nat->Prop)(w0 W:tS)(I:tS->Prop)(z:Fz)(g:Ga)(nx:Nat)(H:Nat->tO (Obj E))(ρ:tN->tW)(o:tI){R:Type}(k:tO (SV E)->Chs E->tO R)(r:R):Prop:=∃s u v f,k (some s) u=some r/\g.Le f/\HR P E Bs F0 w0 W z f (upH H u)/\Fresh f (nx+1+u.length)/\RV P E z f s v/\∀w',I w'->Oper.quietUponX P w' v ((execOp ρ o).run P w')
theorem qCall_ok{tab:Tab E}(U:tab.OK P E)(x:Fresh g nx)(hH:HR P E Bs F0 w0 W z g H)(hI:∀w',I w'->Keeps P E z g H W w'){f:FuncId}{xs:tL (V1 E)}{vs:tL tW}{k:tO (SV E)->Chs E->tO R}(Y:All2 (R1 P E z g) xs vs)(h:qCall E tab H nx f xs k=some r)
  (p:cr_ P f=true->∀w',(execOp ρ o).run P w' = .ok (.enter f vs.toArray) w'):Quiet P E Bs F0 w0 W I z g nx H ρ o k r:=by
 unfold qCall at h;split at h
 .cases h
 .rename_i j;obtain⟨hb,s,u,y,q⟩:=lCall_ok2 U (λC e=>by
   cases J:C.I with
   | none=>rfl
   | some I2=>
    have h5:=((U f C e).2.2 I2 J).1;unfold hv_ at j;rw[e]at j;simp only at j;rw[h5]at j;cases j) x Y h
  split at y
  .rename_i sv G;obtain rfl:=qSj G;split at y
   .rename_i v m;refine⟨_,[],v,g,y,Ga.Le.refl g,hH,(λi hi=>x i (by omega)),(SV.enc_ok m).2 rfl,λw' F=>?_⟩;rw[p hb w'];obtain⟨_,Bs',O,D,M⟩:=hI w' F;refine⟨rfl,Calls.mono (q Bs' O D w' M) λe V ⟨v',Z,z2,g2,_,_,_,h4,_,h6⟩=>?_⟩;obtain rfl:=(SV.enc_ok m).1 h4;exact⟨Z,h6 j⟩
   .cases y
  .cases y
theorem mM_{eqs:tL (Nat×Nat)}{tab:Tab E}{N:Nat}{a:Act}{k:tO (SV E)->Chs E->tO R}(O:∀p∈eqs,aG_ P E p.1 p.2)(Z:tab.OK P E)(j:Fresh g nx)(hE:ER P E z g N a L)(x:HR P E Bs F0 w0 W z g H)(V:∀w',I w'->Keeps P E z g H W w')
  (h:it_ P E eqs tab L H nx o k=some r):Quiet P E Bs F0 w0 W I z g nx H a.eval o k r:=by
 have hρ:=hE.op x.gl;unfold it_ at h;split at h
 .rename_i f args ats J;split at h
  .rename_i xs q;exact qCall_ok Z j x V (iM_ hρ q) h λU w'=>v2_ J rfl U w'
  .cases h
 .rename_i t args ats J;split at h
  .rename_i f ids hL;split at h
   .rename_i xs q;obtain⟨us,hf,G⟩:=hρ (.tmp t) _ hL;refine qCall_ok Z j x V ((iM_ hρ q).append (uQ_ G)) h λU w'=>?_
    rw[op_ J hf U w'];simp
   .cases h
  .cases h
 .obtain⟨s,v,up,F,hk,hg,M,Y,C,y⟩:=qOp_ok (W:=W) (I:=I) O j.self hρ x (λw' u=>(V w' u).1) h;have D:∀m,Fresh F (nx+1+m):=λm i hi=>by rw[M i (by omega)];exact j i (by omega)
  have hq:∀w',I w'->Oper.quietUponX P w' v ((execOp a.eval o).run P w'):=λw' u=>by rw[C w' u];exact⟨rfl,rfl⟩
  cases up with
  | none=>
   obtain rfl:=y;exact⟨s,[],v,F,hk,Ga.Le.refl F,x,D _,Y,hq⟩
  | some p=>
   obtain⟨i,o2⟩:=p;obtain⟨o1,h1,h2,h3⟩:=y;exact⟨s,[(i,some o2)],v,F,hk,hg,x.up hg h1 h2 h3,D _,Y,hq⟩
noncomputable def qFree(P:tT)(E:TE)(eqs:tL (Nat×Nat))(L:Nat->tO (SV E))(o:tI){R:Type}(k:SV E->Up E->tO R):tO R:=match o.op with|.move x=>qMove E L x k|.assign x=>qMove E L x k|.nilCheck x=>qNil E L x k|.extract x i=>p3_ E L x i k|.field T x f=>qField P E L T x f k|.fieldAddr T x f=>l1_ P E L T x f k|.unOp _ _ _=>l0_ P E L o k|.binOp op T x y _=>qBin P E L (λ_=>none) eqs o op T x y k|.index T x i=>qIndex P E L T x i k|.slice T x lo hi none=>qSlice P E L (λ_=>none) T x lo hi k|.convert _ _ _=>l0_ P E L o k|.build T ps=>qBuild P E L T ps k|.makeFunc f first caps=>nF_ E L f first caps k|.call { callee:=.builtin .len,args:=⟨[x]⟩,argTypes:=⟨[T]⟩ }=>qLen P E L (λ_=>none) T x k|_=>none
theorem iN_{eqs:tL (Nat×Nat)}{k:SV E->Up E->tO R}(m:∀p∈eqs,aG_ P E p.1 p.2)(hρ:OpR P E z g L ρ)(q:HR P E Bs F0 w0 W z g (λ_=>none))(h:qFree P E eqs L o k=some r)(I:tS->Prop):Good P E z g nx I (λ_=>none) ρ o k r:=by
 unfold qFree at h;split at h
 case h_1 x j=>exact p2_ (.inl j) hρ h
 case h_2 x j=>exact p2_ (.inr j) hρ h
 case h_3 x j=>exact qNil_ok j hρ h
 case h_4 x i j=>exact tZ_ j hρ h
 case h_5 T x f j=>exact qField_ok j hρ h
 case h_6 T x f j=>exact q6_ j hρ h
 case h_7=>exact iJ_ hρ h
 case h_8 op T x y yt j=>exact qBin_ok j m hρ q h
 case h_9 T x i j=>exact qIndex_ok j hρ h
 case h_10 T x lo hi j=>exact qSlice_ok j hρ q h
 case h_11=>exact iJ_ hρ h
 case h_12 T ps j=>exact qBuild_ok j hρ h
 case h_13 f first caps j=>exact r2_ j hρ h
 case h_14 x T j=>exact qLen_ok j hρ q h
 case h_15=>cases h
end
end Rt
open Go.RowKit
section
variable{P:tT}{ops:Array tI}{md:Region.Mode}{Q:Exit->Act->tS->Prop}
def Oper.quietI(P:tT)(o:tI)(a:Act)(I:tS->Prop)(next:Act->Prop):Prop:=∃v,(∀w,I w->Oper.quietUponX P w v ((execOp a.eval o).run P w))/\next (a.put o.dst v)
def bc_(P:tT)(ops:Array tI)(tl fr:tL Nat)(I:tS->Prop)(Q:Exit->Act->tS->Prop):tL (Nat×tV)->Act->tS->Prop
 | [],a,w=>∀X d,Q .normal a (w.ext X d)
 | (i,true)::rest,a,w=>match ops[i]? with
  | none=>False
  | some o=>∀X d,wpList P ops (Exit.then (λf w'=>(tl.contains i=false->I w->I w')/\bc_ P ops tl fr I Q rest f w') (b9_ Q)) [o] a (w.ext X d)
 | (i,false)::rest,a,w=>match ops[i]? with
  | none=>False
  | some o=>if Region.wanted o (yielded ops a.tmps)then o.quietI P a (if fr.contains i then λ_=>True else I) (λf=>bc_ P ops tl fr I Q rest f w)else bc_ P ops tl fr I Q rest (a.put o.dst undef) w
def ec_(P:tT)(md:Region.Mode)(ops:Array tI)(tl:tL Nat)(I:tS->Prop)(Q:Exit->Act->tS->Prop):Nat->tV->Array tV->Act->tS->Prop
 | 0,_,f,a,w=>Region.ready md ops f=[]/\∀X d,Q .normal a (w.ext X d)
 | fuel+1,st,f,a,w=>
  (Region.ready md ops f=[]->∀X d,Q .normal a (w.ext X d)) /\
  ∀i∈Region.ready md ops f,∀X d,wpOp P ops (b9_ Q) i (λh w'=>((st && !(tl.contains i))=true->I w')/\ec_ P md ops tl I Q fuel (st && !(tl.contains i)) (f.setIfInBounds i true) h w') a (w.ext X d)
theorem l9_{I:tS->Prop}{tl:tL Nat}:∀(fuel:Nat) (st:tV) (f:Array tV) (a:Act) (w:tS),ec_ P md ops tl I Q fuel st f a w->wpAny P md ops Q fuel f a w
 | 0,_,_,a,w,h=>⟨h.1,by have:=h.2 #[] w.drawn;rwa [←World.self_as_ext]at this⟩
 | fuel+1,_,_,a,w,h=>⟨λh0=>by have:=h.1 h0 #[] w.drawn;rwa [←World.self_as_ext]at this,λi hi=>by
   have:=h.2 i hi #[] w.drawn;rw[←World.self_as_ext]at this;exact wpOp_out (wpOp_mono (λm w' j=>l9_ fuel _ _ m w' j.2) this)⟩
theorem jl_{I:tS->Prop}{tl:tL Nat}:∀(fuel:Nat) (st:tV) (f:Array tV) (a:Act) (w:tS) (X:Array Obj) (d:Nat),ec_ P md ops tl I Q fuel st f a w->ec_ P md ops tl I Q fuel st f a (w.ext X d)
 | 0,_,_,a,w,X,d,h=>⟨h.1,λY e=>by rw[World.ext_ext];exact h.2 _ _⟩
 | fuel+1,_,_,a,w,X,d,h=>⟨λh0 Y e=>by rw[World.ext_ext];exact h.1 h0 _ _,λi hi Y e=>by rw[World.ext_ext];exact h.2 i hi _ _⟩
def YieldsI(P:tT)(ops:Array tI)(I:tS->Prop)(o:tI)(v:tW)(a:Act):Prop:=(Region.wanted o (yielded ops a.tmps)=true/\∀w,I w->Oper.quietUponX P w v ((execOp a.eval o).run P w))\/(Region.wanted o (yielded ops a.tmps)=false/\v=undef)
theorem YieldsI.of_same{I:tS->Prop}{o:tI}{v:tW}{a f:Act}(h:YieldsI P ops I o v a)(m:execOp f.eval o=execOp a.eval o)
  (j:Region.wanted o (yielded ops f.tmps)=Region.wanted o (yielded ops a.tmps)):YieldsI P ops I o v f:=by
 unfold YieldsI at *
 rw[m,j];exact h
theorem YieldsI.wpOp{I:tS->Prop}{w:tS}{i:Nat}{o:tI}{v:tW}{a:Act}(hi:ops[i]? = some o)(C:YieldsI P ops I o v a)(D:I w)
  {K:Act->tS->Prop} (h:∀w',Ext w w'->K (a.put o.dst v) w'):wpOp P ops Q i K a w:=by
 unfold Go.wpOp;simp only[hi];rcases C with⟨j,F⟩|⟨j,rfl⟩
 .simp only[j,if_true]
  left
  unfold Oper.wp;have p:=F w D;generalize(execOp a.eval o).run P w=r at *
  cases r with
  | ok n w'=>
   cases n<;>simp only[Oper.quietUponX]at p<;>simp only[Oper.upon]
   case value u=>obtain⟨q,s⟩:=p;rw[q,s];exact h _ (Ext.refl _)
   case skip=>obtain⟨q,s⟩:=p;rw[q,←s];exact h _ (Ext.refl _)
   case enter f args=>
    obtain⟨q,J⟩:=p;rw[q];exact J.mono λe y ⟨G,m⟩=>by subst G;exact h _ m
  | halt x w'=>simp only[Oper.quietUponX]at p
 .simp only[j,zo,if_false];exact h _ (Ext.refl _)
theorem wpOp_putI{I:tS->Prop}{j:Nat}{oi oj:tI}{v:tW}(M:ops[j]? = some oj)(hap:oi.apart ops oj=true)
  (D:∀cs b,oi.op ≠ .select cs b) (q:∀cs b,oj.op ≠ .select cs b) {K:Act->tS->Prop} {a:Act} {w:tS}
  (m:YieldsI P ops I oi v a) (h:wpOp P ops (b9_ Q) j K (a.put oi.dst v) w) :
  wpOp P ops (b9_ Q) j (λG w'=>YieldsI P ops I oi v G/\K (G.put oi.dst v) w') a w:=by
 obtain⟨h1,p,F⟩:=Oper.apart_spec hap;have keep:∀(a:Act),YieldsI P ops I oi v a->∀u,YieldsI P ops I oi v (a.put oj.dst u):=λa m u=>
  m.of_same (execOp_put oi D a oj.dst u F) (wanted_put oi a oj.dst u F)
 have keepD:∀(a:Act) (ds:tL Deferred),YieldsI P ops I oi v a->YieldsI P ops I oi v { a with defers:=ds }:=λa ds m=>m
 unfold Go.wpOp at *
 simp only[M]at *
 rw[wanted_put oj a oi.dst v h1]at h;split
 .rename_i C;simp only[C,if_true]at h;rcases h with h|⟨h,J⟩
  .left
   unfold Oper.wp at *
   rw[execOp_put oj q a oi.dst v h1]at h;generalize(execOp a.eval oj).run P w=r at *
   cases r with
   | ok n w'=>
    cases n<;>simp only[Oper.upon]at h ⊢
    case value u=>exact⟨keep a m u,by rw[←Act.put_comm a v u p];exact h⟩
    case skip=>exact⟨keep a m _,by rw[←Act.put_comm a v undef p];exact h⟩
    case defer dd=>
     refine⟨keep _ (keepD a _ m) _,?_⟩;rw[←Act.put_comm _ v undef p];have:=h;rw[Act.put_defers]at this;exact this
    case enter f args=>
     exact Calls.mono h (λe y s=>by
      cases e with
      | returned u=>exact⟨keep a m u,by rw[←Act.put_comm a v u p];exact s⟩
      | panicked chain=>exact s
      | outgrown=>exact s)
    case row row args=>
     exact Rows.mono h (λu y s=>⟨keep a m u,by rw[←Act.put_comm a v u p];exact s⟩)
   | halt x w'=>cases x<;>simp only[Oper.upon]at h ⊢<;>exact h
  .right
   refine⟨?_,J⟩;unfold Oper.asks at *
   rw[execOp_put oj q a oi.dst v h1]at h;exact h
 .rename_i C;simp only[C]at h;exact⟨keep a m _,by rw[←Act.put_comm a v undef p];exact h⟩
theorem dd_{I:tS->Prop}(hI:∀w w',I w->Ext w w'->I w'){tl:tL Nat}{i fu:Nat}(fre:tV)(ZZ:tl.contains i=false)(ZY:fre=false->∀j∈tl,dw_ md ops fu j i=true){oi:tI}{v:tW}(hi:ops[i]? = some oi)(C:∀(j:Nat) (o:tI) cs b,ops[j]? = some o->o.op ≠ .select cs b) :
  ∀(fuel:Nat) (st:tV) (f:Array tV) (a:Act) (w:tS),(st=true->I w)->(fre=false->st=true)->Closed md ops f ->
   (∀j oj,ops[j]? = some oj->j≠i->f.getD j true=false->(∀e∈oj.after,Region.binds md e=true->e.on≠i)->oi.apart ops oj=true) ->
   i∈Region.ready md ops f->YieldsI P ops (if fre then λ_=>True else I) oi v a ->
   ec_ P md ops tl I Q fuel st (f.setIfInBounds i true) (a.put oi.dst v) w->ec_ P md ops tl I Q (fuel+1) st f a w:=by
 have stands:∀{st:tV} {w w':tS},(st=true->I w)->(fre=false->st=true)->Ext w w'->(if fre then λ_=>True else I) w':=fun{st w w'} h1 h2 hx=>by
  cases fre with
  | true=>trivial
  | false=>exact hI _ _ (h1 (h2 rfl)) hx
 intro fuel
 induction fuel with
 | zero=>
  intro st f a w hW y J _ hr hy H;refine⟨λh=>(by rw[h]at hr;cases hr),λj Z X d=>?_⟩;by_cases m:j=i
  .subst m;rw[ZZ];simp only[Bool.not_false,Bool.and_true];exact hy.wpOp hi (stands hW y ⟨X,d,rfl⟩) λw' q=>⟨λG=>hI _ _ (hI _ _ (hW G) ⟨X,d,rfl⟩) q,by
    obtain⟨Y,e,rfl⟩:=q;rw[World.ext_ext];exact jl_ _ _ _ _ _ _ _ H⟩
  .have:=ready_mono Z m;rw[H.1]at this;cases this
 | succ fuel ih=>
  intro st f a w hW y J s hr hy H;refine⟨λh=>(by rw[h]at hr;cases hr),λj Z X d=>?_⟩;by_cases m:j=i
  .subst m;rw[ZZ];simp only[Bool.not_false,Bool.and_true];exact hy.wpOp hi (stands hW y ⟨X,d,rfl⟩) λw' q=>⟨λG=>hI _ _ (hI _ _ (hW G) ⟨X,d,rfl⟩) q,by
    obtain⟨Y,e,rfl⟩:=q;rw[World.ext_ext];exact jl_ _ _ _ _ _ _ _ H⟩
  .have h1:=H.2 j (ready_mono Z m) X d;obtain⟨D,oj,u,F⟩:=mem_ready.1 Z;have U:∀e∈oj.after,Region.binds md e=true->e.on≠i:=λe he hb ZU=>by
    have h1:=F e he hb;have h0:=(mem_ready.1 hr).1;rw[ZU]at h1;rcases qb i f.size with M|M
    .simp[M]at h0 h1;rw[h0]at h1;cases h1
    .simp[qi M]at h1
   have h2:=wpOp_putI u (s j oj u m D U) (λcs b=>C i oi cs b hi) (λcs b=>C j oj cs b u) hy h1;have x:∀k ok,ops[k]? = some ok->k≠i->(f.setIfInBounds j true).getD k true=false ->
     (∀e∈ok.after,Region.binds md e=true->e.on≠i)->oi.apart ops ok=true:=λk ok hk ZW O ZX=>by
    refine s k ok hk ZW ?_ ZX;by_cases V:j=k
    .subst V;exact D
    .rw[getD_set_ne true V]at O;exact O
   have ZV:fre=false->tl.contains j=false:=λp=>by
    cases hc:tl.contains j with
    | false=>rfl
    | true=>
     have hw:=ZY p j (by simpa using hc);have:=rN_ J fu j i oj u F hw;have h0:=(mem_ready.1 hr).1;rcases qb i f.size with M|M
     .simp[M]at h0 this;rw[h0]at this;cases this
     .simp[qi M]at h0
   refine wpOp_mono (λa' w' h3=>⟨h3.2.1,ih (st && !(tl.contains j)) (f.setIfInBounds j true) a' w' h3.2.1 (λp=>by rw[y p,ZV p];rfl) (dC_ J Z) x (ready_mono hr (Ne.symm m)) h3.1 ?_⟩) h2;rw[Array.setIfInBounds_comm _ _ m];exact h3.2.2
def ed_(fr:tL Nat):tL (Nat×tV)->tV|[]=>false|(i,b)::r=>(!b && !(fr.contains i))||ed_ fr r
def fr_(md:Region.Mode)(ops:Array tI)(tl fr:tL Nat):tL (Nat×tV)->Array tV->tV|[],f=>(Region.ready md ops f).isEmpty|(i,true)::rest,f=>Region.ready md ops f==[i]&&(!(tl.contains i) || !(ed_ fr rest))&&fr_ md ops tl fr rest (f.setIfInBounds i true)|(i,false)::rest,f=>(Region.ready md ops f).contains i&&Region.free md ops f i && !(tl.contains i)&&fr_ md ops tl fr rest (f.setIfInBounds i true)
def mixBI(md:Region.Mode)(ops:Array tI)(tl fr:tL Nat)(ord:tL (Nat×tV)):tV:=
 Region.noSelect ops&&fr_ md ops tl fr ord (Array.replicate ops.size false)&&decide (ord.length=ops.size) &&
  ord.all λp=>p.2||(fr.contains p.1||tl.all λj=>dw_ md ops ops.size j p.1)
theorem ee_{I:tS->Prop}(Z:∀w w',I w->Ext w w'->I w'){tl fr:tL Nat}{fu:Nat}(U:Region.noSelect ops=true):∀(ord:tL (Nat×tV)) (st:tV) (f:Array tV) (a:Act) (w:tS),(st=true->I w)->(ed_ fr ord=true->st=true)->Closed md ops f->(∀i,(i,false)∈ord->fr.contains i=false->∀j∈tl,dw_ md ops fu j i=true) ->
  fr_ md ops tl fr ord f=true->bc_ P ops tl fr I Q ord a w->ec_ P md ops tl I Q ord.length st f a w
 | [],_,_,_,_,_,_,_,_,O,h=>⟨by simpa[fr_]using O,h⟩
 | (i,true)::rest,st,f,a,w,Y,y,q,hT,O,h=>by
  simp only[fr_,qAn,zQ]at O;obtain⟨⟨hr,ZZ⟩,u⟩:=O;refine⟨λh0=>(by rw[h0]at hr;cases hr),λj hj X d=>?_⟩;rw[hr]at hj;obtain rfl:j=i:=by simpa using hj
  have hm:j∈Region.ready md ops f:=by rw[hr];simp
  obtain⟨_,o,F,_⟩:=mem_ready.1 hm;simp only[bc_,F]at h;have x:=h X d;have s:∀k,(k,false)∈rest->fr.contains k=false->∀j∈tl,dw_ md ops fu j k=true:=λk M=>hT k (qL _ M)
  have p:=dC_ q hm;have m:ed_ fr rest=true->(st && !(tl.contains j))=true:=λV=>by
   rw[V]at ZZ;have h1:tl.contains j=false:=by simpa using ZZ
   rw[y (by simp[ed_,V]),h1];rfl
  have D:∀w',(tl.contains j=false->I w->I w')->((st && !(tl.contains j))=true->I w'):=λw' h1 h2=>by
   simp only[qAn,qF]at h2;exact h1 h2.2 (Y h2.1)
  unfold wpOp;simp only[F];unfold wpList at x;split at x
  .rename_i J;rw[qY J];refine x.imp (λx=>?_) (λx=>⟨x.1,x.2⟩);exact Oper.wp_out (λa' w' M=>⟨D w' M.1,ee_ Z U rest _ _ a' w' (D w' M.1) m p s u M.2⟩) (λch a w h=>h) (λh=>h) x
  .rename_i J;rw[qG J];exact⟨D _ x.1,ee_ Z U rest _ _ _ _ (D _ x.1) m p s u x.2⟩
 | (i,false)::rest,st,f,a,w,Y,y,q,hT,O,h=>by
  simp only[fr_,qAn,qF]at O;obtain⟨⟨⟨hr,hf⟩,ZY⟩,u⟩:=O;have C:i∈Region.ready md ops f:=by simpa using hr
  obtain⟨_,o,F,_⟩:=mem_ready.1 C;simp only[bc_,F]at h;have s:∀k,(k,false)∈rest->fr.contains k=false->∀j∈tl,dw_ md ops fu j k=true:=λk M=>hT k (qL _ M)
  have p:=dC_ q C;have m:ed_ fr rest=true->st=true:=λV=>y (by simp[ed_,V])
  have G:fr.contains i=false->st=true:=λV=>y (by simp only[ed_,V];rfl)
  split at h
  .rename_i J;obtain⟨v,hv,hn⟩:=h;exact dd_ Z (fr.contains i) ZY (hT i (by simp)) F (Region.noSelect_spec U) rest.length st f a w Y G q (Region.free_spec F hf) C (.inl ⟨J,hv⟩)
    (ee_ Z U rest _ _ _ w Y m p s u hn)
  .rename_i J;exact dd_ Z (fr.contains i) ZY (hT i (by simp)) F (Region.noSelect_spec U) rest.length st f a w Y G q (Region.free_spec F hf) C (.inr ⟨by simpa using J,rfl⟩)
    (ee_ Z U rest _ _ _ w Y m p s u h)
theorem o8_{I:tS->Prop}(D:∀w w',I w->Ext w w'->I w'){id:Nat}{l:tL tI}{a:Act}{w:tS}(tl fr:tL Nat)(ord:tL (Nat×tV))(hm:P.follows .mixedOrders=true)(q:mixBI .any l.toArray tl fr ord=true)
  (u:I w) (h:bc_ P l.toArray tl fr I Q ord a w):(Code.region id l.toArray true).wp P Q a w:=by
 simp only[mixBI,qAn,qDe]at q;obtain⟨⟨⟨x,C⟩,f⟩,m⟩:=q;refine wp_region_any hm (l9_ (I:=I) (tl:=tl) _ true _ _ _ ?_);have:=ee_ D (md:=.any) (tl:=tl) (fr:=fr) (fu:=l.toArray.size) x ord true (Array.replicate l.toArray.size false) a w (λ_=>u) (λ_=>rfl) (mB_ _) (λi hi p j y=>by
  have:=qm.1 m _ hi;simp only[zt,p]at this;exact qm.1 this j y) C h
 have s:=jl_ _ _ _ _ _ #[] (w.drawn+1) this;rw[←World.drew_as_ext,f]at s;exact s
theorem wpMixI_nil{tl fr:tL Nat}{I:tS->Prop}{a:Act}{w:tS}(h:∀X d,Q .normal a (w.ext X d)):bc_ P ops tl fr I Q [] a w:=h
theorem eU_{tl fr:tL Nat}{l:tL tI}{I:tS->Prop}{i:Nat}{rest:tL (Nat×tV)}{a:Act}{w:tS}(o:tI)(j:l[i]? = some o)
  (h:∀K:Act->Prop,(∀a,bc_ P l.toArray tl fr I Q rest a w->K a)->if Region.wanted o (yielded l.toArray a.tmps)then o.quietI P a (if fr.contains i then λ_=>True else I) K else K (a.put o.dst undef)) :
  bc_ P l.toArray tl fr I Q ((i,false)::rest) a w:=by
 have f:l.toArray[i]? = some o:=by simpa using j
 simp only[bc_,f];exact h _ (λ_ h=>h)
theorem t1_{tl fr:tL Nat}{l:tL tI}{I:tS->Prop}{i:Nat}{rest:tL (Nat×tV)}{a:Act}{w:tS}(o:tI)(m:l[i]? = some o)
  (h:∀K:Act->tS->Prop,(∀j w',(tl.contains i=false->I w->I w')->bc_ P l.toArray tl fr I Q rest j w'->K j w')->∀X d,wpList P l.toArray (Exit.then K (b9_ Q)) [o] a (w.ext X d)) :
  bc_ P l.toArray tl fr I Q ((i,true)::rest) a w:=by
 have f:l.toArray[i]? = some o:=by simpa using m
 simp only[bc_,f];exact h _ (λ_ _ h1 p=>⟨h1,p⟩)
def b4_(P:tT)(ops:Array tI)(tl fr:tL Nat)(I:tS->Prop)(Q:Exit->Act->tS->Prop)(fl:Nat)(post:tL (Nat×tV)):tL (Nat×tV)->Act->tS->Prop
 | [],a,w=>bc_ P ops tl fr I Q ((fl,true)::post) a w
 | (i,true)::pre,a,w=>(match ops[i]? with
  | none=>False
  | some o=>∀X d,wpList P ops (Exit.then (λf w'=>(tl.contains i=false->I w->I w')/\b4_ P ops tl fr I Q fl post pre f w') (b9_ Q)) [o] a (w.ext X d)) /\
  (match ops[fl]? with
  | none=>False
  | some o=>∀X d,wpList P ops (Exit.then (λf w'=>(tl.contains fl=false->I w->I w')/\bc_ P ops tl fr I Q ((i,true)::pre++post) f w') (b9_ Q)) [o] a (w.ext X d))
 | (i,false)::pre,a,w=>match ops[i]? with
  | none=>False
  | some o=>if Region.wanted o (yielded ops a.tmps)then o.quietI P a (if fr.contains i then λ_=>True else I) (λf=>b4_ P ops tl fr I Q fl post pre f w)else b4_ P ops tl fr I Q fl post pre (a.put o.dst undef) w
def km_(md:Region.Mode)(ops:Array tI)(tl fr:tL Nat)(fl:Nat)(post:tL (Nat×tV)):tL (Nat×tV)->Array tV->tV
 | [],f=>fr_ md ops tl fr ((fl,true)::post) f
 | (i,true)::pre,f=>(Region.ready md ops f).contains i&&(Region.ready md ops f).contains fl&&(Region.ready md ops f).all (λj=>j==i||j==fl)&&(!(tl.contains i) || !(ed_ fr (pre++post))) &&
  km_ md ops tl fr fl post pre (f.setIfInBounds i true)&&fr_ md ops tl fr ((i,true)::pre++post) (f.setIfInBounds fl true)
 | (i,false)::pre,f=>(Region.ready md ops f).contains i&&Region.free md ops f i && !(tl.contains i)&&km_ md ops tl fr fl post pre (f.setIfInBounds i true)
def mixBF(md:Region.Mode)(ops:Array tI)(tl fr:tL Nat)(fl:Nat)(pre post:tL (Nat×tV)):tV:=
 Region.noSelect ops&&km_ md ops tl fr fl post pre (Array.replicate ops.size false)&&decide (pre.length+(post.length+1)=ops.size) && !(tl.contains fl) &&
  (pre++post).all λp=>p.2||(fr.contains p.1||tl.all λj=>dw_ md ops ops.size j p.1)
theorem hw_{I:tS->Prop}(Y:∀w w',I w->Ext w w'->I w'){tl fr:tL Nat}{fu fl:Nat}{post:tL (Nat×tV)}(M:Region.noSelect ops=true)(F:tl.contains fl=false):∀(pre:tL (Nat×tV)) (st:tV) (f:Array tV) (a:Act) (w:tS),(st=true->I w)->(ed_ fr (pre++post)=true->st=true)->Closed md ops f ->
  (∀i,(i,false)∈pre++post->fr.contains i=false->∀j∈tl,dw_ md ops fu j i=true) ->
  km_ md ops tl fr fl post pre f=true->b4_ P ops tl fr I Q fl post pre a w->ec_ P md ops tl I Q (pre.length+(post.length+1)) st f a w
 | [],st,f,a,w,U,x,u,V,hB,h=>by
  rw[zL,qj];exact ee_ Y M ((fl,true)::post) st f a w U (λJ=>x (by simpa[ed_]using J)) u (λi hi=>V i (by simpa using hi)) hB h
 | (i,true)::pre,st,f,a,w,U,x,u,V,hB,h=>by
  simp only[km_,qAn]at hB;obtain⟨⟨⟨⟨⟨ZX,ZO⟩,ZT⟩,ZY⟩,ZR⟩,ZS⟩:=hB;rw[qLc,show pre.length+1+(post.length+1)=(pre.length+(post.length+1))+1 by omega];refine⟨λh0=>(by rw[h0]at ZX;simp at ZX),λj hj X d=>?_⟩;obtain⟨h1,h2⟩:=h;by_cases ZV:j=i
  .subst ZV;obtain⟨_,o,C,_⟩:=mem_ready.1 hj;simp only[C]at h1;have q:=h1 X d;have G:∀k,(k,false)∈pre++post->fr.contains k=false->∀j∈tl,dw_ md ops fu j k=true:=λk D=>V k (by simp only[qc];exact qL _ D)
   have p:=dC_ u hj;have m:ed_ fr (pre++post)=true->(st && !(tl.contains j))=true:=λJ=>by
    rw[J]at ZY;have Z:tl.contains j=false:=by simpa using ZY
    rw[x (by simp[ed_,J]),Z];rfl
   have s:∀w',(tl.contains j=false->I w->I w')->((st && !(tl.contains j))=true->I w'):=λw' Z h4=>by
    simp only[qAn,qF]at h4;exact Z h4.2 (U h4.1)
   unfold wpOp;simp only[C];unfold wpList at q;split at q
   .rename_i y;rw[qY y];refine q.imp (λq=>?_) (λq=>⟨q.1,q.2⟩);exact Oper.wp_out (λa' w' D=>⟨s w' D.1,hw_ Y M F pre _ _ a' w' (s w' D.1) m p G ZR D.2⟩) (λch a w h=>h) (λh=>h) q
   .rename_i y;rw[qG y];exact⟨s _ q.1,hw_ Y M F pre _ _ _ _ (s _ q.1) m p G ZR q.2⟩
  .have ZP:j=fl:=by
    have:=qm.1 ZT j hj;simp only[qz,zQ]at this;rcases this with Z|Z
    .exact absurd Z ZV
    .exact Z
   subst ZP;obtain⟨_,o,C,_⟩:=mem_ready.1 hj;simp only[C]at h2;have q:=h2 X d;have p:=dC_ u hj;have m:ed_ fr ((i,true)::pre++post)=true->(st && !(tl.contains j))=true:=λJ=>by
    rw[F,x J];rfl
   have s:∀w',(tl.contains j=false->I w->I w')->((st && !(tl.contains j))=true->I w'):=λw' Z h4=>by
    simp only[qAn,qF]at h4;exact Z h4.2 (U h4.1)
   have ZW:pre.length+(post.length+1)=((i,true)::pre++post).length:=by simp;omega
   rw[ZW];unfold wpOp;simp only[C];unfold wpList at q;split at q
   .rename_i y;rw[qY y];refine q.imp (λq=>?_) (λq=>⟨q.1,q.2⟩);exact Oper.wp_out (λa' w' D=>⟨s w' D.1,ee_ Y M _ _ _ a' w' (s w' D.1) m p V ZS D.2⟩) (λch a w h=>h) (λh=>h) q
   .rename_i y;rw[qG y];exact⟨s _ q.1,ee_ Y M _ _ _ _ _ (s _ q.1) m p V ZS q.2⟩
 | (i,false)::pre,st,f,a,w,U,x,u,V,hB,h=>by
  simp only[km_,qAn,qF]at hB;obtain⟨⟨⟨hr,hf⟩,ZU⟩,ZQ⟩:=hB;rw[qLc,show pre.length+1+(post.length+1)=(pre.length+(post.length+1))+1 by omega];have O:i∈Region.ready md ops f:=by simpa using hr
  obtain⟨_,o,C,_⟩:=mem_ready.1 O;simp only[b4_,C]at h;have G:∀k,(k,false)∈pre++post->fr.contains k=false->∀j∈tl,dw_ md ops fu j k=true:=λk D=>V k (by simp only[qc];exact qL _ D)
  have p:=dC_ u O;have m:ed_ fr (pre++post)=true->st=true:=λJ=>x (by simp[ed_,J])
  have ZZ:fr.contains i=false->st=true:=λJ=>x (by simp only[qc,ed_,J];rfl)
  split at h
  .rename_i y;obtain⟨v,hv,hn⟩:=h;exact dd_ Y (fr.contains i) ZU (V i (by simp)) C (Region.noSelect_spec M) _ st f a w U ZZ u (Region.free_spec C hf) O (.inl ⟨y,hv⟩)
    (hw_ Y M F pre _ _ _ w U m p G ZQ hn)
  .rename_i y;exact dd_ Y (fr.contains i) ZU (V i (by simp)) C (Region.noSelect_spec M) _ st f a w U ZZ u (Region.free_spec C hf) O (.inr ⟨by simpa using y,rfl⟩)
    (hw_ Y M F pre _ _ _ w U m p G ZQ h)
theorem o9_{I:tS->Prop}(F:∀w w',I w->Ext w w'->I w'){id fl:Nat}{l:tL tI}{a:Act}{w:tS}(tl fr:tL Nat)(pre post:tL (Nat×tV))(hm:P.follows .mixedOrders=true)(s:mixBF .any l.toArray tl fr fl pre post=true)
  (x:I w) (h:b4_ P l.toArray tl fr I Q fl post pre a w):(Code.region id l.toArray true).wp P Q a w:=by
 simp only[mixBF,qAn,qDe,qF]at s;obtain⟨⟨⟨⟨y,D⟩,f⟩,p⟩,m⟩:=s;refine wp_region_any hm (l9_ (I:=I) (tl:=tl) _ true _ _ _ ?_);have:=hw_ F (md:=.any) (tl:=tl) (fr:=fr) (fu:=l.toArray.size) y p pre true (Array.replicate l.toArray.size false) a w (λ_=>x) (λ_=>rfl) (mB_ _) (λi hi q j C=>by
  have:=qm.1 m _ hi;simp only[zt,q]at this;exact qm.1 this j C) D h
 have u:=jl_ _ _ _ _ _ #[] (w.drawn+1) this;rw[←World.drew_as_ext,f]at u;exact u
theorem gp_{tl fr:tL Nat}{l:tL tI}{I:tS->Prop}{i fl:Nat}{pre post:tL (Nat×tV)}{a:Act}{w:tS}(o:tI)(j:l[i]? = some o)
  (h:∀K:Act->Prop,(∀a,b4_ P l.toArray tl fr I Q fl post pre a w->K a)->if Region.wanted o (yielded l.toArray a.tmps)then o.quietI P a (if fr.contains i then λ_=>True else I) K else K (a.put o.dst undef)) :
  b4_ P l.toArray tl fr I Q fl post ((i,false)::pre) a w:=by
 have f:l.toArray[i]? = some o:=by simpa using j
 simp only[b4_,f];exact h _ (λ_ h=>h)
theorem wpMixF_loud{tl fr:tL Nat}{l:tL tI}{I:tS->Prop}{i fl:Nat}{pre post:tL (Nat×tV)}{a:Act}{w:tS}(o fo:tI)(s:l[i]? = some o)(p:l[fl]? = some fo)
  (h:∀K:Act->tS->Prop,(∀j w',(tl.contains i=false->I w->I w')->b4_ P l.toArray tl fr I Q fl post pre j w'->K j w')->∀X d,wpList P l.toArray (Exit.then K (b9_ Q)) [o] a (w.ext X d))
  (u:∀K:Act->tS->Prop,(∀j w',(tl.contains fl=false->I w->I w')->bc_ P l.toArray tl fr I Q ((i,true)::pre++post) j w'->K j w')->∀X d,wpList P l.toArray (Exit.then K (b9_ Q)) [fo] a (w.ext X d)) :
  b4_ P l.toArray tl fr I Q fl post ((i,true)::pre) a w:=by
 have m:l.toArray[i]? = some o:=by simpa using s
 have f:l.toArray[fl]? = some fo:=by simpa using p
 simp only[b4_,m,f];exact⟨h _ (λ_ _ h1 q=>⟨h1,q⟩),u _ (λ_ _ h1 q=>⟨h1,q⟩)⟩
inductive OT where
 | nil
 | free (i:Nat) (t:OT)
 | alt (i:Nat) (t r:OT)
 | spl (i:Nat) (t f:OT)
def OT.ids:OT->tL Nat|.alt i _ r=>i::r.ids|_=>[]
def OT.dep:OT->Nat|.nil=>0|.free _ t=>t.dep+1|.alt _ t r=>max (t.dep+1) r.dep|.spl _ t f=>max t.dep f.dep
def OT.tlO:OT->tL Nat|.nil=>[]|.free _ t=>t.tlO|.alt i t r=>i::(t.tlO++r.tlO)|.spl _ t f=>t.tlO++f.tlO
def OT.frO:OT->tL Nat|.nil=>[]|.free i t=>i::t.frO|.alt _ t r=>t.frO++r.frO|.spl _ t f=>t.frO++f.frO
def chkO(md:Region.Mode)(ops:Array tI)(tl sf fr:tL Nat):OT->tV->Array tV->tV|.nil,false,h=>(Region.ready md ops h).isEmpty|.nil,true,_=>true|.free i t,false,h=>(Region.ready md ops h).contains i&&Region.free md ops h i && !(tl.contains i)&&fr.contains i&&chkO md ops tl sf fr t false (h.setIfInBounds i true)|.free _ _,true,_=>false|.spl _ t f,c,h=>!c&&(chkO md ops tl sf fr t false h&&chkO md ops tl sf fr f false h)|.alt i t r,c,h=>(c||(!((Region.ready md ops h).isEmpty)&&(Region.ready md ops h).all λj=>(i::r.ids).contains j))&&(tl.contains i||sf.contains i)&&chkO md ops tl sf fr t false (h.setIfInBounds i true)&&chkO md ops tl sf fr r true h
def wpO(P:tT)(ops:Array tI)(sf:tL Nat)(I:tS->Prop)(Q:Exit->Act->tS->Prop):OT->tV->Act->tS->Prop
 | .nil,false,a,w=>∀X d,Q .normal a (w.ext X d)
 | .nil,true,_,_=>True
 | .free i t,_,a,w=>match ops[i]? with
  | none=>False
  | some o=>if Region.wanted o (yielded ops a.tmps)then o.quietI P a (λ_=>True) (λh=>wpO P ops sf I Q t false h w)else wpO P ops sf I Q t false (a.put o.dst undef) w
 | .alt i t r,_,a,w=>(match ops[i]? with
  | none=>False
  | some o=>∀X d,wpList P ops (Exit.then (λh w'=>(sf.contains i=true->I w->I w')/\wpO P ops sf I Q t false h w') (b9_ Q)) [o] a (w.ext X d))/\wpO P ops sf I Q r true a w
 | .spl i t f,_,a,w=>(yielded ops a.tmps i=some true/\wpO P ops sf I Q t false a w)\/(yielded ops a.tmps i=some false/\wpO P ops sf I Q f false a w)
theorem wpO_pick{tl sf fr:tL Nat}{I:tS->Prop}{i:Nat}{f:Array tV}{a:Act}{w:tS}:∀{t:OT} {c:tV},i∈t.ids->chkO md ops tl sf fr t c f=true->wpO P ops sf I Q t c a w->∃m,m.dep+1<=t.dep/\(tl.contains i||sf.contains i)=true/\chkO md ops tl sf fr m false (f.setIfInBounds i true)=true /\
  match ops[i]? with
  | none=>False
  | some o=>∀X d,wpList P ops (Exit.then (λu w'=>(sf.contains i=true->I w->I w')/\wpO P ops sf I Q m false u w') (b9_ Q)) [o] a (w.ext X d)
 | .nil,_,h,_,_=>nomatch h
 | .free _ _,_,h,_,_=>nomatch h
 | .spl _ _ _,_,h,_,_=>nomatch h
 | .alt j t r,c,h,p,q=>by
  simp only[chkO,qAn]at p;rcases qV.1 h with rfl|h
  .exact⟨t,Nat.le_max_left _ _,p.1.1.2,p.1.2,q.1⟩
  .obtain⟨m,h1,s⟩:=wpO_pick h p.2 q.2;exact⟨m,qN h1 (Nat.le_max_right _ _),s⟩
theorem splO{I:tS->Prop}{tl sf fr:tL Nat}{fuel i:Nat}{t f:OT}
  (p:∀(st:tV) (j:Array tV) (a:Act) (w:tS),t.dep<=fuel->(st=true->I w)->Closed md ops j->chkO md ops tl sf fr t false j=true->wpO P ops sf I Q t false a w->ec_ P md ops tl I Q fuel st j a w)
  (q:∀(st:tV) (j:Array tV) (a:Act) (w:tS),f.dep<=fuel->(st=true->I w)->Closed md ops j->chkO md ops tl sf fr f false j=true->wpO P ops sf I Q f false a w->ec_ P md ops tl I Q fuel st j a w)
  (st:tV) (j:Array tV) (a:Act) (w:tS) (x:(OT.spl i t f).dep<=fuel) (u:st=true->I w) (m:Closed md ops j)
  (s:chkO md ops tl sf fr (.spl i t f) false j=true) (h:wpO P ops sf I Q (.spl i t f) false a w):ec_ P md ops tl I Q fuel st j a w:=by
 simp only[chkO,qAn]at s;simp only[OT.dep]at x;have:=Nat.le_max_left t.dep f.dep;have:=Nat.le_max_right t.dep f.dep;rcases h with h|h
 .exact p st j a w (by omega) u m s.2.1 h.2
 .exact q st j a w (by omega) u m s.2.2 h.2
theorem wpAnyI_O{I:tS->Prop}(hI:∀w w',I w->Ext w w'->I w'){tl sf fr:tL Nat}{fu:Nat}(hs:Region.noSelect ops=true):∀(fuel:Nat) (t:OT) (st:tV) (m:Array tV) (a:Act) (w:tS),t.dep<=fuel->(st=true->I w)->Closed md ops m ->
  chkO md ops tl sf fr t false m=true->wpO P ops sf I Q t false a w->ec_ P md ops tl I Q fuel st m a w:=by
 intro fuel
 induction fuel with
 | zero=>
  intro t
  induction t with
  | nil=>
   intro st m a w D F p s h;exact⟨by simpa[chkO]using s,h⟩
  | free i t _=>intro st m a w D;simp[OT.dep]at D
  | spl i t f G J=>exact splO G J
  | alt i t r _ _=>
   intro st m a w D;simp only[OT.dep]at D;have:=Nat.le_max_left (t.dep+1) r.dep;omega
 | succ fuel ih=>
  intro t
  induction t with
  | spl i t f G J=>exact splO G J
  | nil=>
   intro st m a w D F p s h;have h0:Region.ready md ops m=[]:=by simpa[chkO]using s
   exact⟨λ_=>h,λi hi=>(by rw[h0]at hi;cases hi)⟩
  | free i t _=>
   intro st m a w D F p s h;simp only[chkO,qAn,qF]at s;obtain⟨⟨⟨⟨hr,hf⟩,ZZ⟩,ZW⟩,x⟩:=s;have u:i∈Region.ready md ops m:=by simpa using hr
   obtain⟨_,o,C,_⟩:=mem_ready.1 u;simp only[OT.dep]at D;simp only[wpO,C]at h;have q:=dC_ p u;split at h
   .rename_i M;obtain⟨v,hv,hn⟩:=h;exact dd_ (fu:=fu) hI true ZZ (λe=>nomatch e) C (Region.noSelect_spec hs) fuel st m a w F (λe=>nomatch e) p (Region.free_spec C hf) u (.inl ⟨M,hv⟩)
     (ih t st _ _ w (by omega) F q x hn)
   .rename_i M;exact dd_ (fu:=fu) hI true ZZ (λe=>nomatch e) C (Region.noSelect_spec hs) fuel st m a w F (λe=>nomatch e) p (Region.free_spec C hf) u (.inr ⟨by simpa using M,rfl⟩)
     (ih t st _ _ w (by omega) F q x h)
  | alt i t r _ _=>
   intro st m a w D F p s h;have ZX:=s;simp only[chkO,zt,qAn,qF]at s;obtain⟨⟨⟨⟨Y,ZY⟩,_⟩,_⟩,_⟩:=s;refine⟨λh0=>(by rw[h0]at Y;cases Y),λj hj X d=>?_⟩;have Z:j∈(OT.alt i t r).ids:=by
    have:=qm.1 ZY j hj;simpa[OT.ids]using this
   obtain⟨t',ZV,V,x,hp⟩:=wpO_pick Z ZX h;obtain⟨_,o,C,_⟩:=mem_ready.1 hj;simp only[C]at hp;have y:=hp X d;have q:=dC_ p hj;have go:∀O w',((sf.contains j=true->I w->I w')/\wpO P ops sf I Q t' false O w')->((st && !(tl.contains j))=true->I w')/\ec_ P md ops tl I Q fuel (st && !(tl.contains j)) (m.setIfInBounds j true) O w':=λO w' hk=>by
    have U:(st && !(tl.contains j))=true->I w':=λe=>by
     rw[qAn,qF]at e;rw[e.2,zt]at V;exact hk.1 V (F e.1)
    exact⟨U,ih t' _ _ O w' (by omega) U q x hk.2⟩
   unfold wpOp;simp only[C];unfold wpList at y;split at y
   .rename_i M;rw[qY M];refine y.imp (λy=>?_) (λy=>⟨y.1,y.2⟩);exact Oper.wp_out (λO w' hk=>go O w' hk) (λch a w h=>h) (λh=>h) y
   .rename_i M;rw[qG M];exact go _ _ y
def fF_(P:tT)(ops:Array tI)(sf fr:tL Nat)(I:tS->Prop)(Q:Exit->Act->tS->Prop)(t:OT):tL (Nat×tV)->Act->tS->Prop
 | [],a,w=>wpO P ops sf I Q t false a w
 | (_,true)::_,_,_=>False
 | (i,false)::rest,a,w=>match ops[i]? with
  | none=>False
  | some o=>if Region.wanted o (yielded ops a.tmps)then o.quietI P a (if fr.contains i then λ_=>True else I) (λf=>fF_ P ops sf fr I Q t rest f w)else fF_ P ops sf fr I Q t rest (a.put o.dst undef) w
def qg_(md:Region.Mode)(ops:Array tI)(tl sf fr:tL Nat)(t:OT):tL (Nat×tV)->Array tV->tV|[],f=>chkO md ops tl sf fr t false f|(_,true)::_,_=>false|(i,false)::rest,f=>(Region.ready md ops f).contains i&&Region.free md ops f i && !(tl.contains i)&&qg_ md ops tl sf fr t rest (f.setIfInBounds i true)
def mixBO(md:Region.Mode)(ops:Array tI)(tl sf fr:tL Nat)(t:OT)(pre:tL (Nat×tV)):tV:=Region.noSelect ops&&qg_ md ops tl sf fr t pre (Array.replicate ops.size false)&&decide (pre.length+t.dep<=ops.size)&&pre.all λp=>p.2||(fr.contains p.1||tl.all λj=>dw_ md ops ops.size j p.1)
theorem oq_{I:tS->Prop}(G:∀w w',I w->Ext w w'->I w'){tl sf fr:tL Nat}{fu m:Nat}{t:OT}(hm:t.dep<=m)(y:Region.noSelect ops=true):∀(pre:tL (Nat×tV)) (f:Array tV) (a:Act) (w:tS),I w->Closed md ops f ->
  (∀i,(i,false)∈pre->fr.contains i=false->∀j∈tl,dw_ md ops fu j i=true)->qg_ md ops tl sf fr t pre f=true->fF_ P ops sf fr I Q t pre a w->ec_ P md ops tl I Q (pre.length+m) true f a w
 | [],f,a,w,u,p,_,x,h=>by
  rw[zL,qj];exact wpAnyI_O (fu:=fu) G y m t true f a w hm (λ_=>u) p x h
 | (i,true)::rest,f,a,w,_,_,_,x,_=>nomatch x
 | (i,false)::pre,f,a,w,u,p,O,x,h=>by
  simp only[qg_,qAn,qF]at x;obtain⟨⟨⟨hr,U⟩,D⟩,J⟩:=x;rw[qLc,show pre.length+1+m=(pre.length+m)+1 by omega];have q:i∈Region.ready md ops f:=by simpa using hr
  obtain⟨_,o,C,_⟩:=mem_ready.1 q;simp only[fF_,C]at h;have F:∀k,(k,false)∈pre->fr.contains k=false->∀j∈tl,dw_ md ops fu j k=true:=λk Z=>O k (qL _ Z)
  have s:=dC_ p q;split at h
  .rename_i M;obtain⟨v,V,Y⟩:=h;exact dd_ G (fr.contains i) D (O i (by simp)) C (Region.noSelect_spec y) _ true f a w (λ_=>u) (λ_=>rfl) p (Region.free_spec C U) q (.inl ⟨M,V⟩)
    (oq_ G hm y pre _ _ w u s F J Y)
  .rename_i M;exact dd_ G (fr.contains i) D (O i (by simp)) C (Region.noSelect_spec y) _ true f a w (λ_=>u) (λ_=>rfl) p (Region.free_spec C U) q (.inr ⟨by simpa using M,rfl⟩)
    (oq_ G hm y pre _ _ w u s F J h)
theorem pa_{I:tS->Prop}(F:∀w w',I w->Ext w w'->I w'){id:Nat}{t:OT}{l:tL tI}{a:Act}{w:tS}(tl sf fr:tL Nat)(pre:tL (Nat×tV))(hm:P.follows .mixedOrders=true)(s:mixBO .any l.toArray tl sf fr t pre=true)
  (x:I w) (h:fF_ P l.toArray sf fr I Q t pre a w):(Code.region id l.toArray true).wp P Q a w:=by
 simp only[mixBO,qAn,qDe]at s;obtain⟨⟨⟨y,D⟩,q⟩,f⟩:=s;refine wp_region_any hm (l9_ (I:=I) (tl:=tl) _ true _ _ _ ?_);have:=oq_ F (md:=.any) (tl:=tl) (fr:=fr) (fu:=l.toArray.size) (m:=l.toArray.size-pre.length) (by omega) y pre (Array.replicate l.toArray.size false) a w x (mB_ _) (λi hi p j C=>by
  have:=qm.1 f _ hi;simp only[zt,p]at this;exact qm.1 this j C) D h
 have u:=jl_ _ _ _ _ _ #[] (w.drawn+1) this;rw[←World.drew_as_ext,show pre.length+(l.toArray.size-pre.length)=l.toArray.size by omega]at u;exact u
theorem mN_{sf fr:tL Nat}{l:tL tI}{I:tS->Prop}{t:OT}{i:Nat}{pre:tL (Nat×tV)}{a:Act}{w:tS}(o:tI)(j:l[i]? = some o)
  (h:∀K:Act->Prop,(∀a,fF_ P l.toArray sf fr I Q t pre a w->K a)->if Region.wanted o (yielded l.toArray a.tmps)then o.quietI P a (if fr.contains i then λ_=>True else I) K else K (a.put o.dst undef)) :
  fF_ P l.toArray sf fr I Q t ((i,false)::pre) a w:=by
 have f:l.toArray[i]? = some o:=by simpa using j
 simp only[fF_,f];exact h _ (λ_ h=>h)
end
end Go
namespace Go
namespace Rt
open Go.RowKit
structure Ba(E:TE) where
 L:Nat->tO (SV E)
 H:Nat->tO (Obj E)
 lo:Nat
structure St(E:TE) where (env:tL (Nat×tO (SV E))) (vis:tO (tL Nat)) (heap:Chs E) (hvis:tO (tL Nat)) (nx:Nat)
def ay_(t:Nat):tL Nat->tV
 | []=>false
 | u::l=>match Nat.beq t u with
  | true=>true
  | false=>ay_ t l
def seen:tO (tL Nat)->Nat->tV|none,_=>true|some l,t=>ay_ t l
def aF_{α:Type}(t:Nat):tL (Nat×α)->tO α
 | []=>none
 | (u,v)::l=>match Nat.beq t u with
  | true=>some v
  | false=>aF_ t l
variable{E:TE}
def St.L(b:Ba E)(s:St E)(t:Nat):tO (SV E):=match aF_ t s.env with
 | some v=>v
 | none=>match seen s.vis t with
  | true=>b.L t
  | false=>none
def St.H(b:Ba E)(s:St E):Nat->tO (Obj E):=upH (λi=>match seen s.hvis i with|true=>b.H i|false=>none) s.heap
def St.after(N:Nat)(s:St E)(o:tI)(v:tO (SV E))(u:Chs E):tO (St E):=match o.dst with
 | none=>some { s with heap:=u++s.heap,nx:=nxU s.nx u }
 | some d=>match Nat.blt d N with
  | true=>some { s with env:=(d,v)::s.env,heap:=u++s.heap,nx:=nxU s.nx u }
  | false=>none
def St.base(b:Ba E)(s:St E):Ba E:=⟨s.L b,s.H b,b.lo⟩
def St.new(nx:Nat):St E:=⟨[],none,[],none,nx⟩
abbrev Gd:=tO (Nat×tV×Nat)
def tq_(o:tI):Gd->tV
 | none=>match o.guard with
  | none=>true
  | some _=>false
 | some (j,w,_)=>match o.guard with
  | none=>false
  | some (f,w')=>Nat.beq j f&&(match w,w' with|true,true=>true|false,false=>true|_,_=>false)
def dstOK(o:tI):Gd->tV
 | none=>true
 | some (_,_,d)=>match o.dst with
  | none=>true
  | some f=>!(Nat.beq d f)
def i3_ (d:Nat):tL tI->tO (tL tI×tI×tL tI)
 | []=>none
 | o::r=>match o.op with
  | .pick (.tmp f) _ _=>match Nat.beq d f with
   | true=>some ([],o,r)
   | false=>match i3_ d r with
    | some (l,p,q)=>some (o::l,p,q)
    | none=>none
  | _=>match i3_ d r with
   | some (l,p,q)=>some (o::l,p,q)
   | none=>none
def groupOf (o:tI) (idx:Nat):tL tI->tO (Nat×tV×tL tI×tI×tL tI)
 | []=>none
 | o2::r=>match o2.guard,o.dst with
  | some (j,w),some d=>match Nat.beq j idx with
   | true=>match i3_ d (o2::r)with
    | some (l,p,q)=>some (d,w,l,p,q)
    | none=>none
   | false=>none
  | _,_=>none
def d7_:tL tI->tL Nat
 | []=>[]
 | o::l=>match o.dst with
  | some d=>d::d7_ l
  | none=>d7_ l
def keysIn(l:tL Nat):tL (Nat×tO (SV E))->tV|[]=>true|p::r=>ay_ p.1 l&&keysIn l r
def qh_(n:Nat):Chs E->tV|[]=>true|p::r=>Nat.ble n p.1&&qh_ n r
def totalB(P:tT)(o:tI):tV:=match o.op with
 | .binOp op t _ y _=>match op with
  | .add=>match P.underlying t with|some (.int _)=>true|_=>false
  | .quo|.rem|.shl|.shr=>Operand.isC y
  | _=>true
 | .move _|.assign _|.pick .. |.load .. |.fieldAddr .. |.field .. |.unOp .. |.convert .. |.extract .. |.nilCheck .. =>true
 | .call { callee:=.builtin .len,args:=_,argTypes:=_ }=>true
 | .call { callee:=.builtin .max,args:=_,argTypes:=_ }=>true
 | .call { callee:=.builtin .min,args:=_,argTypes:=_ }=>true
 | _=>false
def totalL(P:tT):tL tI->tV|[]=>true|o::l=>totalB P o&&totalL P l
def skipB(idx d:Nat)(w:tV):tL tI->Nat->tV
 | [],_=>true
 | o::l,i=>(match o.guard,o.dst with
  | some (j,w'),some f=>((Nat.beq j idx&&(match w,w' with|true,true=>true|false,false=>true|_,_=>false))||(Nat.blt idx j&&Nat.blt j i)) && !(Nat.beq d f)
  | _,_=>false)&&skipB idx d w l (i+1)
def notIn(g:Gd)(l:tL Nat):tV:=match g with|none=>true|some (_,_,d)=>!(ay_ d l)
def pb_(b:tV):SV E:=.v (.one (.dt .bool b))
def isBoolC(w:tV):tN->tV
 | .const (.bool b)=>match w,b with|true,true=>true|false,false=>true|_,_=>false
 | _=>false
def kP_(body:tL tI):Nat:=1000*(body.length+1)
def kn_(bs:Ba E)(nx lim:Nat)(ds:tL Nat)(x:tN)(s:St E):tO tV:=match keysIn ds s.env&&qh_ nx s.heap&&Nat.ble s.nx (nx+lim),s.vis,s.hvis,opS E (s.L bs) x with|true,none,none,some (.v (.one (.dt .bool e)))=>some e|_,_,_,_=>none
def clear(ds:tL Nat):tL (Nat×tO (SV E)):=ds.map λd=>(d,none)
def picked{α:Type}(w:tV)(x y:α):α:=match w with|true=>x|false=>y
abbrev Ev(E:TE):=(Nat->tO (SV E))->(Nat->tO (Obj E))->Nat->tI->(R:Type)->(tO (SV E)->Chs E->tO R)->tO R
def cC_ (P:tT) (E:TE) (ev:Ev E) (N:Nat):Nat->(R:Type)->Gd->tL tI->Nat->Ba E->St E->(St E->tO R)->tO R
 | 0,_,_,_,_,_,_,_=>none
 | _+1,_,_,[],_,_,s,k=>k s
 | n + 1,R,gd,o::rest,idx,b,s,k=>
  match tq_ o gd&&dstOK o gd with
  | false=>none
  | true =>ev (s.L b) (s.H b) s.nx o R λv u=>match s.after N o v u with
   | none=>none
   | some f=>match groupOf o idx rest with
    | none=>cC_ P E ev N n R gd rest (idx+1) b f k
    | some (d,w,body,pk,rest')=>match f.L b d,pk.op,pk.dst with
     | some (.v (.one (.dt .bool c))),.pick _ x y,some pd=>
      match tq_ pk gd&&dstOK pk gd&&notIn gd (d7_ body)&&Nat.blt pd N&&skipB idx d w body (idx+1)&&isBoolC (!w) (picked w y x)with
      | false=>none
      | true=>
       match totalL P body with
       | true=>match cC_ P E ev N n tV (some (idx,w,d)) body (idx+1) (f.base b) (St.new f.nx) (kn_ (f.base b) f.nx (kP_ body) (d7_ body) (picked w x y))with
        | none=>none
        | some e=>cC_ P E ev N n R gd rest' (idx+1+body.length+1) b { f with env:=(pd,some (pb_ (picked w (c&&e) (c||e))))::(clear (d7_ body)++f.env),nx:=f.nx+kP_ body } k
       | false=>Option.bind (picked w
        (bif c then cC_ P E ev N n tV (some (idx,w,d)) body (idx+1) (f.base b) (St.new f.nx) (kn_ (f.base b) f.nx (kP_ body) (d7_ body) x)else some false)
        (bif c then some true else cC_ P E ev N n tV (some (idx,w,d)) body (idx+1) (f.base b) (St.new f.nx) (kn_ (f.base b) f.nx (kP_ body) (d7_ body) y))) λe=>
         cC_ P E ev N n R gd rest' (idx+1+body.length+1) b { f with env:=(pd,some (pb_ e))::(clear (d7_ body)++f.env),nx:=f.nx+kP_ body } k
     | _,_,_=>none
noncomputable def evReg(P:tT)(E:TE)(eqs:tL (Nat×Nat))(tab:Tab E)(N:Nat){R:Type}(l:tL tI)(b:Ba E)(s:St E)(k:St E->tO R):tO R:=cC_ P E (λL H nx o _ k=>evOp P E eqs tab L H nx o k) N (l.length+1) R none l 0 b s k
def tlOf:Nat->tL Nat->tL Nat
 | _,[]=>[]
 | i,f::fl=>match Nat.beq f 2 with
  | true=>i::tlOf (i+1) fl
  | false=>tlOf (i+1) fl
def frOf:Nat->tL Nat->tL Nat
 | _,[]=>[]
 | i,f::fl=>match Nat.beq f 4 with
  | true=>i::frOf (i+1) fl
  | false=>frOf (i+1) fl
def as_:tL Nat->Nat
 | []=>0
 | f::fl=>match Nat.beq f 0 with
  | true=>as_ fl+1
  | false=>0
def d8_:Nat->tL tI->tL (Nat×tV)|_,[]=>[]|i,_::l=>(i,false)::d8_ (i+1) l
def dV_(h:tL Nat):Nat->tL tI->tL Nat->tL (Nat×tI×Nat)
 | i,o::l,f::fl=>match ay_ i h with
  | true=>dV_ h (i+1) l fl
  | false=>(i,o,f)::dV_ h (i+1) l fl
 | _,_,_=>[]
def hOrd:tL Nat->tL (Nat×tV)|[]=>[]|i::l=>(i,false)::hOrd l
def quietM(f:Nat):tV:=Nat.beq f 0||Nat.beq f 4
def c2_:tL (Nat×tI×Nat)->tL (Nat×tV)|[]=>[]|t::l=>(t.1,!(quietM t.2.2))::c2_ l
noncomputable def evH(P:tT)(E:TE)(eqs:tL (Nat×Nat))(tab:Tab E)(N:Nat){R:Type}(b:Ba E)(all:tL tI)(fr:tL Nat):tL Nat->St E->(St E->tO R)->tO R
 | [],s,k=>k s
 | i :: h,s,k=>match all[i]? with
  | none=>none
  | some o=>match o.guard with
   | some _=>none
   | none=>match fr.contains i with
    | true=>qFree P E eqs (s.L b) o λv up=>match up with
     | some _=>none
     | none=>match s.after N o (some v) []with
      | some f=>evH P E eqs tab N b all fr h f k
      | none=>none
    | false=>it_ P E eqs tab (s.L b) (s.H b) s.nx o λv u=>match s.after N o v u with
     | some f=>evH P E eqs tab N b all fr h f k
     | none=>none
noncomputable def evB(P:tT)(E:TE)(eqs:tL (Nat×Nat))(tab:Tab E)(N:Nat)(fm:tV){R:Type}(b:Ba E):tL (Nat×tI×Nat)->St E->(St E->tO R)->tO R
 | [],s,k=>k s
 | (_,o,f)::l,s,k=>match o.guard with
  | some _=>none
  | none=>match quietM f with
   | true=>qFree P E eqs (s.L b) o λv up=>match up with
    | some _=>none
    | none=>match s.after N o (some v) []with
     | some h=>evB P E eqs tab N fm b l h k
     | none=>none
   | false=>match Nat.beq f 2||(fm||dc_ tab (s.L b) o)with
    | false=>none
    | true=>evOp P E eqs tab (s.L b) (s.H b) s.nx o λv u=>match s.after N o v u with
     | some h=>evB P E eqs tab N fm b l h k
     | none=>none
def fs_(S:tL Nat)(H:Nat->tO (Obj E))(i:Nat):tO (Obj E):=match ay_ i S with|true=>none|false=>H i
def iu_(S:tL Nat)(H:Nat->tO (Obj E))(i:Nat):tO (Obj E):=match ay_ i S with|true=>H i|false=>none
noncomputable def evDraw(P:tT)(E:TE)(eqs:tL (Nat×Nat))(tab:Tab E)(N:Nat){R:Type}(l:tL tI)(fl h:tL Nat)(fm:tV)(S:tL Nat)(b:Ba E)(s:St E)(k:St E->tO R):tO R:=
 match P.follows .mixedOrders&&mixBI .any l.toArray (tlOf 0 fl) (frOf 0 fl) (d8_ 0 (l.take (as_ fl))++(hOrd h++c2_ (dV_ h (as_ fl) (l.drop (as_ fl)) (fl.drop (as_ fl)))))with
 | false=>none
 | true=>match fm with
  | false=>cC_ P E (λL H nx o _ k=>it_ P E eqs tab L H nx o k) N (l.length+1) R none (l.take (as_ fl)) 0 b s λm=>evH P E eqs tab N b l (frOf 0 fl) h m λf=>evB P E eqs tab N false b (dV_ h (as_ fl) (l.drop (as_ fl)) (fl.drop (as_ fl))) f k
  | true=>cC_ P E (λL H nx o _ k=>it_ P E eqs tab L H nx o k) N (l.length+1) R none (l.take (as_ fl)) 0 ⟨s.L b,fs_ S (s.H b),b.lo⟩ (St.new s.nx) λm=>
   evH P E eqs tab N ⟨s.L b,fs_ S (s.H b),b.lo⟩ l (frOf 0 fl) h m λf=>match f.vis,f.hvis,f.heap with
    | none,none,[]=>evB P E eqs tab N true ⟨f.L ⟨s.L b,fs_ S (s.H b),b.lo⟩,iu_ S (s.H b),b.lo⟩ (dV_ h (as_ fl) (l.drop (as_ fl)) (fl.drop (as_ fl))) (St.new f.nx) λj=>match j.vis,j.hvis with
     | none,none=>k { s with env:=j.env++(f.env++s.env),heap:=j.heap++s.heap,nx:=j.nx }
     | _,_=>none
    | _,_,_=>none
def dstN(o:tI):Nat:=match o.dst with|some d=>d|none=>0
def floatB(P:tT)(N:Nat)(o:tI)(ds:tL Nat):tV:=match o.op,o.guard,o.dst with
 | .alloc T,none,some d=>!(ay_ d ds)&&(Nat.blt d N&&(match zeroOf P T with|some _=>true|none=>false))
 | _,_,_=>false
def dstsT:tL (Nat×tI×Nat)->tL Nat
 | []=>[]
 | t::l=>match t.2.1.dst with
  | some d=>d::dstsT l
  | none=>dstsT l
noncomputable def evFloat(P:tT)(E:TE)(eqs:tL (Nat×Nat))(tab:Tab E)(N:Nat){R:Type}(l:tL tI)(fl f:tL Nat)(p:Nat)(b:Ba E)(s:St E)(k:St E->tO R):tO R:=
 match(dV_ f (as_ fl) (l.drop (as_ fl)) (fl.drop (as_ fl)))[p]? with
 | none=>none
 | some t=>match P.follows .mixedOrders&&(floatB P N t.2.1 (dstsT ((dV_ f (as_ fl) (l.drop (as_ fl)) (fl.drop (as_ fl))).take p))&&Nat.beq t.2.2 1) &&
   mixBF .any l.toArray (tlOf 0 fl) (frOf 0 fl) t.1 (d8_ 0 (l.take (as_ fl))++(hOrd f++c2_ ((dV_ f (as_ fl) (l.drop (as_ fl)) (fl.drop (as_ fl))).take p))) (c2_ ((dV_ f (as_ fl) (l.drop (as_ fl)) (fl.drop (as_ fl))).drop (p+1)))with
  | false=>none
  | true=>cC_ P E (λL H nx o _ k=>it_ P E eqs tab L H nx o k) N (l.length+1) R none (l.take (as_ fl)) 0 b s λj=>evH P E eqs tab N b l (frOf 0 fl) f j λh=>
    evB P E eqs tab N false b ((dV_ f (as_ fl) (l.drop (as_ fl)) (fl.drop (as_ fl))).take p++t::(dV_ f (as_ fl) (l.drop (as_ fl)) (fl.drop (as_ fl))).drop (p+1)) { h with env:=(dstN t.2.1,none)::h.env } k
abbrev Gs:=tL (Nat×Nat×tV)
def gsAt(k:Nat):Gs->tO (Nat×Nat×tV)
 | []=>none
 | q::l=>match Nat.beq q.1 k with
  | true=>some q
  | false=>gsAt k l
def gsSlot(d:Nat):Gs->tO (Nat×Nat×tV)
 | []=>none
 | q::l=>match Nat.beq q.2.1 d with
  | true=>some q
  | false=>gsSlot d l
def gsFree(o:tI)(gs:Gs):tV:=gs.all λq=>dstOK o (some (q.1,q.2.2,q.2.1))
def wantG(o:tI)(gs:Gs):tO tV:=match o.guard with
 | none=>some true
 | some (k,w)=>match gsAt k gs with
  | none=>none
  | some q=>some (match q.2.2,w with|true,true=>true|false,false=>true|_,_=>false)
def pickG(o:tI)(gs:Gs):tO tN:=match o.op with
 | .pick (.tmp d) x y=>match gsSlot d gs with
  | none=>none
  | some q=>some (picked q.2.2 x y)
 | _=>none
noncomputable def evO1(P:tT)(E:TE)(eqs:tL (Nat×Nat))(tab:Tab E)(N:Nat){R:Type}(b:Ba E)(all:tL tI)(i:Nat)(gs:Gs)(s:St E)(h:St E->tO R):tO R:=match all[i]? with
 | none=>none
 | some o=>match gsFree o gs,wantG o gs with
  | true,some true=>match pickG o gs with
   | some x=>match opS E (s.L b) x with
    | none=>none
    | some v=>match s.after N o (some v) []with
     | some f=>h f
     | none=>none
   | none=>evOp P E eqs tab (s.L b) (s.H b) s.nx o λv u=>match s.after N o v u with
    | some f=>h f
    | none=>none
  | true,some false=>match s.after N o none []with
   | some f=>h f
   | none=>none
  | _,_=>none
noncomputable def d9_(P:tT)(E:TE)(eqs:tL (Nat×Nat))(tab:Tab E)(N:Nat){R:Type}(b:Ba E)(all:tL tI)(k:St E->tO R):OT->Gs->St E->tO R
 | .nil,_,s=>k s
 | .spl i t f,gs,s=>match all[i]? with
  | none=>none
  | some o=>match o.dst with
   | none=>none
   | some d=>match s.L b d with
    | some (.v (.one (.dt .bool c)))=>bif c then d9_ P E eqs tab N b all k t ((i,d,true)::gs) s else d9_ P E eqs tab N b all k f ((i,d,false)::gs) s
    | _=>none
 | .free i t,gs,s=>match all[i]? with
  | none=>none
  | some o=>match gsFree o gs,wantG o gs with
   | true,some true=>qFree P E eqs (s.L b) o λv up=>match up with
    | some _=>none
    | none=>match s.after N o (some v) []with
     | some h=>d9_ P E eqs tab N b all k t gs h
     | none=>none
   | true,some false=>match s.after N o none []with
    | some h=>d9_ P E eqs tab N b all k t gs h
    | none=>none
   | _,_=>none
 | .alt i t .nil,gs,s=>evO1 P E eqs tab N b all i gs s λh=>d9_ P E eqs tab N b all k t gs h
 | .alt i t (.alt j t2 m),gs,s=>both (evO1 P E eqs tab N b all i gs s λh=>d9_ P E eqs tab N b all k t gs h) (d9_ P E eqs tab N b all k (.alt j t2 m) gs s)
 | .alt _ _ (.free _ _),_,_=>none
 | .alt _ _ (.spl _ _ _),_,_=>none
def ko_(l:tL tI)(i:Nat):tV:=match l[i]? with
 | some o=>(match o.op with
  | .alloc _=>true
  | _=>false)
 | none=>false
def sfH(l:tL tI)(t:OT):tL Nat:=t.tlO.filter (ko_ l)
def tlH(l:tL tI)(t:OT):tL Nat:=t.tlO.filter λi=>!(ko_ l i)
noncomputable def evOrd(P:tT)(E:TE)(eqs:tL (Nat×Nat))(tab:Tab E)(N:Nat){R:Type}(l:tL tI)(p:Nat)(t:OT)(b:Ba E)(s:St E)(k:St E->tO R):tO R:=match P.follows .mixedOrders&&((t.frO.all λi=>Nat.ble p i)&&mixBO .any l.toArray (tlH l t) (sfH l t) t.frO t (d8_ 0 (l.take p)))with|false=>none|true=>cC_ P E (λL H nx o _ k=>it_ P E eqs tab L H nx o k) N (l.length+1) R none (l.take p) 0 b s λf=>d9_ P E eqs tab N b l k t [] f
def linO:OT->Nat->Nat->tV|.nil,i,n=>Nat.beq i n|.free j t,i,n=>Nat.beq j i&&linO t (i+1) n|.alt j t .nil,i,n=>Nat.beq j i&&linO t (i+1) n|.alt _ _ _,_,_=>false|.spl _ t f,i,n=>linO t i n&&linO f i n
noncomputable def evLin(P:tT)(E:TE)(eqs:tL (Nat×Nat))(tab:Tab E)(N:Nat){R:Type}(l:tL tI)(t:OT)(b:Ba E)(s:St E)(k:St E->tO R):tO R:=match linO t 0 l.length with|false=>none|true=>d9_ P E eqs tab N b l k t [] s
def chO:Nat->Nat->OT|_,0=>.nil|i,n+1=>.alt i (chO (i+1) n) .nil
noncomputable def evChain(P:tT)(E:TE)(eqs:tL (Nat×Nat))(tab:Tab E)(N:Nat){R:Type}(l:tL tI)(p:Nat)(b:Ba E)(s:St E)(k:St E->tO R):tO R:=match P.follows .mixedOrders&&(Nat.ble p l.length&&mixBO .any l.toArray (chO p (l.length-p)).tlO [] [] (chO p (l.length-p)) (d8_ 0 (l.take p)))with|false=>none|true=>cC_ P E (λL H nx o _ k=>it_ P E eqs tab L H nx o k) N (l.length+1) R none (l.take p) 0 b s λf=>cC_ P E (λL H nx o _ k=>evOp P E eqs tab L H nx o k) N (l.length+1) R none (l.drop p) p b f k
end Rt
end Go
