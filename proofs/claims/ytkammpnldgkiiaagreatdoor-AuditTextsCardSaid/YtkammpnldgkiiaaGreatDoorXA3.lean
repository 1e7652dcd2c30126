/-
 What the statements of this seat hang on,part 3: Ri Rj Rk Rl Rm Rn Rw Ro Rr Dr Rp.
-/
import Derived.Test.YtkammpnldgkiiaaGreatDoorXA2
namespace Go
namespace Rt
open Go.RowKit
def Tp(S:Nat->Type):List Ty->Type | []=>Unit | [t]=>Den S t|t::u::ts=>Den S t×Tp S (u::ts)
def aV_{S:Nat->Type}:(ts:List Ty)->HL S ts->Tp S ts | [],_=>() | [_],h=>h.1|_::u::ts,h=>(h.1,aV_ (u::ts) h.2)
def aK_{S:Nat->Type}:(ts:List Ty)->Tp S ts->HL S ts | [],_=>() | [_],h=>(h,())|_::u::ts,h=>(h.1,aK_ (u::ts) h.2)
theorem bv_{S:Nat->Type}:∀(ts:List Ty) (h:HL S ts),aK_ ts (aV_ ts h)=h
 | [],_=>rfl
 | [_],_=>rfl
 | t::u::ts,h=>by
  simp only[aV_,aK_];rw[bv_ (u::ts) h.2];rfl
abbrev Mk:=List (Option TypeId)
inductive Pm where
 | d (t:Ty)
 | l (t:Ty) (m:Mk)
 | g (t:Ty) (m:Mk)
 | b (T:TypeId) (t:Ty)
 | bm (T:TypeId) (t:Ty) (m:Mk) (px:Bool)
 | p (t:Ty)
 | mp (T:TypeId) (k v:Ty)
 | f1 (a r:Ty)
 | f2 (a b r:Ty)
@[reducible] def Pm.T (E:TE):Pm->Type
 | .d t=>Den E.S t
 | .l t _=>Den E.S t
 | .g t _=>Den E.S t
 | .b _ t=>Den E.S t
 | .bm _ t _ _=>Den E.S t
 | .p t=>Den E.S t
 | .mp _ k v=>List (Den E.S k)×List (Den E.S v)
 | .f1 x r=>Den E.S x->Option (Den E.S r)
 | .f2 x y r=>Den E.S x->Den E.S y->Option (Den E.S r)
def PA(E:TE):List Pm->Type | []=>Unit|p::ps=>p.T E×PA E ps
def aq_:List Pm->List Ty | []=>[] | .l t _::ps=>t::aq_ ps | .b _ t::ps=>t::aq_ ps | .bm _ t _ _::ps=>t::aq_ ps | .mp _ k v::ps => .sl k :: .sl v::aq_ ps|_::ps=>aq_ ps
def bS_(E:TE):(ps:List Pm)->PA E ps->HL E.S (aq_ ps)->PA E ps | [],_,_=>() | .l _ _::ps,a,h=>(h.1,bS_ E ps a.2 h.2) | .g _ _::ps,a,h=>(a.1,bS_ E ps a.2 h) | .b _ _::ps,a,h=>(h.1,bS_ E ps a.2 h.2) | .bm _ _ _ _::ps,a,h=>(h.1,bS_ E ps a.2 h.2) | .mp _ _ _::ps,a,h=>((h.1,h.2.1),bS_ E ps a.2 h.2.2) | .d _::ps,a,h=>(a.1,bS_ E ps a.2 h) | .p _::ps,a,h=>(a.1,bS_ E ps a.2 h) | .f1 _ _::ps,a,h=>(a.1,bS_ E ps a.2 h) | .f2 _ _ _::ps,a,h=>(a.1,bS_ E ps a.2 h)
abbrev Rs:=List (Ty×Mk)
def Rs.ts:Rs->List Ty | []=>[]|p::rs=>p.1::Rs.ts rs
def aE_(E:TE):Mk->(ts:List Ty)->HL E.S ts->Nat->List (SC E)|some _::ms,.sl _::ts,h,n => .own n::aE_ E ms ts h.2 (n+1)|none::ms,t::ts,h,n => .dt t h.1::aE_ E ms ts h.2 n|_,ts,h,_=>hlc E ts h
def av_(E:TE):Mk->(ts:List Ty)->HL E.S ts->Nat->Chs E|some e::ms,.sl t::ts,h,n=>(n,some (.row e t h.1 []))::av_ E ms ts h.2 (n+1)|none::ms,_::ts,h,n=>av_ E ms ts h.2 n|_,_,_,_=>[]
def am_:Mk->List Ty->Nat|some _::ms,.sl _::ts=>am_ ms ts+1|none::ms,_::ts=>am_ ms ts|_,_=>0
def asV(E:TE):(t:Ty)->List (SC E)->Option (V1 E) | .st _,l=>some (.agg l)|_,[c]=>some (.one c)|_,_=>none
def ptrC(E:TE)(px:Bool)(p:Nat):List (SC E):=match px with|true=>[.ptr p 0]|false=>[]
def pxB(px:Bool):List Pm->Bool | .bm _ _ _ _::_=>px | .b _ _::_=>px|_=>false
def dropP{α:Type}:Bool->List α->Option (List α)|false,l=>some l|true,_::l=>some l|true,[]=>none
def aI_(E:TE):(ps:List Pm)->PA E ps->Nat->Option (List (V1 E))
 | [],_,_=>some []
 | .d t::ps,a,n=>match asV E t (E.cells t a.1),aI_ E ps a.2 n with
  | some v,some q=>some (v::q)
  | _,_=>none
 | .l t m::ps,a,n=>match asV E t (aE_ E m (E.flat t) (E.fl t a.1) n),aI_ E ps a.2 (n+am_ m (E.flat t))with
  | some v,some q=>some (v::q)
  | _,_=>none
 | .g t m::ps,a,n=>match asV E t (aE_ E m (E.flat t) (E.fl t a.1) n),aI_ E ps a.2 (n+am_ m (E.flat t))with
  | some v,some q=>some (v::q)
  | _,_=>none
 | .b _ _::ps,a,n=>match aI_ E ps a.2 (n+1)with
  | some q=>some (.one (.ptr n 0)::q)
  | none=>none
 | .bm _ t m px::ps,a,n=>match aI_ E ps a.2 (n+1+am_ m (E.flat t))with
  | some q=>match dropP (pxB px ps) q with
   | some q=>some (.one (.ptr n 0)::q)
   | none=>none
  | none=>none
 | .mp _ _ _::ps,a,n=>match aI_ E ps a.2 (n+1)with
  | some q=>some (.one (.mp n)::q)
  | none=>none
 | .p t::ps,a,n=>match aI_ E ps a.2 n with
  | some q=>some (.one (.elf t a.1 0)::q)
  | none=>none
 | .f1 x r::ps,a,n=>match aI_ E ps a.2 n with
  | some q=>some (.one (.fn1 x r a.1)::q)
  | none=>none
 | .f2 x y r::ps,a,n=>match aI_ E ps a.2 n with
  | some q=>some (.one (.fn2 x y r a.1)::q)
  | none=>none
def ay_(E:TE):(ps:List Pm)->PA E ps->Nat->Chs E | [],_,_=>[] | .l t m::ps,a,n=>av_ E m (E.flat t) (E.fl t a.1) n++ay_ E ps a.2 (n+am_ m (E.flat t)) | .g t m::ps,a,n=>av_ E m (E.flat t) (E.fl t a.1) n++ay_ E ps a.2 (n+am_ m (E.flat t)) | .b T t::ps,a,n=>(n,some (.box T (E.cells t a.1)))::ay_ E ps a.2 (n+1) | .bm T t m px::ps,a,n=>(n,some (.box T (ptrC E (pxB px ps) (n+1+am_ m (E.flat t))++aE_ E m (E.flat t) (E.fl t a.1) (n+1))))::(av_ E m (E.flat t) (E.fl t a.1) (n+1)++ay_ E ps a.2 (n+1+am_ m (E.flat t))) | .mp T k v::ps,a,n=>(n,some (.map T k v a.1.1 a.1.2 []))::ay_ E ps a.2 (n+1) | .d _::ps,a,n=>ay_ E ps a.2 n | .p _::ps,a,n=>ay_ E ps a.2 n | .f1 _ _::ps,a,n=>ay_ E ps a.2 n | .f2 _ _ _::ps,a,n=>ay_ E ps a.2 n
def ar_(E:TE):(ps:List Pm)->PA E ps->Nat->Nat->Chs E | [],_,_,_=>[] | .l t m::ps,a,n,k=>av_ E m (E.flat t) (E.fl t a.1) n++ar_ E ps a.2 (n+am_ m (E.flat t)) k | .g t m::ps,a,n,k=>ar_ E ps a.2 (n+am_ m (E.flat t)) k | .b T t::ps,a,n,k=>(n,some (.box T (E.cells t a.1)))::ar_ E ps a.2 (n+1) k | .bm T t m px::ps,a,n,k=>(n,some (.box T (ptrC E (pxB px ps) (n+1+am_ m (E.flat t))++aE_ E m (E.flat t) (E.fl t a.1) k)))::(av_ E m (E.flat t) (E.fl t a.1) k++ar_ E ps a.2 (n+1+am_ m (E.flat t)) (k+am_ m (E.flat t))) | .mp T kt v::ps,a,n,k=>(n,some (.map T kt v a.1.1 a.1.2 []))::ar_ E ps a.2 (n+1) k | .d _::ps,a,n,k=>ar_ E ps a.2 n k | .p _::ps,a,n,k=>ar_ E ps a.2 n k | .f1 _ _::ps,a,n,k=>ar_ E ps a.2 n k | .f2 _ _ _::ps,a,n,k=>ar_ E ps a.2 n k
def bl_(E:TE):List Pm->Nat | []=>0 | .bm _ t m _::ps=>am_ m (E.flat t)+bl_ E ps|_::ps=>bl_ E ps
def ai_(E:TE):List Pm->Nat | []=>0 | .l t m::ps=>am_ m (E.flat t)+ai_ E ps | .g t m::ps=>am_ m (E.flat t)+ai_ E ps | .b _ _::ps=>1+ai_ E ps | .bm _ t m _::ps=>1+am_ m (E.flat t)+ai_ E ps | .mp _ _ _::ps=>1+ai_ E ps|_::ps=>ai_ E ps
def aW_(E:TE):Rs->Nat | []=>0|p::rs=>am_ p.2 (E.flat p.1)+aW_ E rs
def resV(E:TE):(rs:Rs)->HL E.S rs.ts->Nat->Option (List (V1 E))
 | [],_,_=>some []
 | (t,m)::rs,h,n=>match asV E t (aE_ E m (E.flat t) (E.fl t h.1) n),resV E rs h.2 (n+am_ m (E.flat t))with
  | some v,some q=>some (v::q)
  | _,_=>none
def ba_(E:TE):(rs:Rs)->HL E.S rs.ts->Nat->Chs E | [],_,_=>[]|(t,m)::rs,h,n=>av_ E m (E.flat t) (E.fl t h.1) n++ba_ E rs h.2 (n+am_ m (E.flat t))
def oneV(E:TE):List (V1 E)->SV E | [x] => .v x|l => .tup l
abbrev InlF(E:TE):=(Nat->Option (Obj E))->Nat->List (V1 E)->(R:Type)->(Option (SV E)->Chs E->Option R)->Option R
def fG_:List Pm->Bool | []=>false | .l _ _::_=>true | .g _ _::_=>true | .b _ _::_=>true | .bm _ _ _ _::_=>true | .mp _ _ _::_=>true|_::ps=>fG_ ps
structure Con(E:TE) where
 ps:List Pm
 rs:Rs
 ali:Bool
 F:(R:Type)->PA E ps->(HL E.S rs.ts->HL E.S (aq_ ps)->Option R)->Option R
 I:Option (InlF E)
def CallOK(P:Program)(E:TE)(f:FuncId)(ps:List Pm)(rs:Rs)(ali:Bool)(a:PA E ps)(rh:HL E.S rs.ts)(bh:HL E.S (aq_ ps)):Prop :=
 ∀ (w:World) (z:Fz) (g:Ga) (Bs:List Nat) (svs:List (V1 E)) (vs:List Value),aI_ E ps a 0=some svs->HR P E Bs z.F w w z g (upH (λ_=>none) (ay_ E ps a 0))->Fresh g (ai_ E ps)->All2 (R1 P E z g) svs vs ->
  Ret P f vs.toArray w λv w'=>∃z' g' svr,z.Le z'/\(ali=false->z'=z)/\g.Le g'/\resV E rs rh (ai_ E ps)=some svr/\RV P E z' g' (oneV E svr) v /\
   HR P E Bs z.F w w' z' g' (upH (λ_=>none) (ba_ E rs rh (ai_ E ps)++ar_ E ps (bS_ E ps a bh) 0 (ai_ E ps+aW_ E rs)))
def Con.OK(P:Program)(E:TE)(f:FuncId)(C:Con E):Prop:=∀(R:Type) (a:PA E C.ps) (k:HL E.S C.rs.ts->HL E.S (aq_ C.ps)->Option R) (r:R),C.F R a k=some r->∃rh bh,k rh bh=some r/\CallOK P E f C.ps C.rs C.ali a rh bh
section
variable{P:Program}{E:TE}{z z':Fz}{g g':Ga}{nx:Nat}{w w' w0:World}{H H':Nat->Option (Obj E)}{Bs:List Nat}{F0:Nat->Prop}
def SC.ren(s:Nat->Nat):SC E->SC E | .own id => .own (s id) | .ptr id off => .ptr (s id) off|c=>c
def Obj.ren(s:Nat->Nat):Obj E->Obj E | .box T cs => .box T (cs.map (SC.ren s))|o=>o
def V1.cs:V1 E->List (SC E) | .one c=>[c] | .agg l=>l
def V1.fits:Ty->V1 E->Bool | .st _,.agg _=>true | .st _,.one _=>false|_,.one _=>true|_,.agg _=>false
def takeD(E:TE)(H:Nat->Option (Obj E))(t:Ty)(x:V1 E):Option (Den E.S t):=match V1.fits t x,aN_ E H (E.flat t) x.cs with|true,some h=>some (E.ufl t h)|_,_=>none
theorem asV_ok{t:Ty}{x:V1 E}{l:List (SC E)}{v:Value}(hf:V1.fits t x=true)(hl:l.length=x.cs.length)(hr:R1 P E z g x v)(hlr:∀vs,All2 (RC P E z g) x.cs vs->All2 (RC P E z' g') l vs) :
  ∃y,asV E t l=some y/\R1 P E z' g' y v:=by
 cases x with
 | one c =>
  obtain⟨d,rfl⟩:∃d,l=[d]:=by
   match l,hl with
   | [d],_=>exact⟨d,rfl⟩
  have h1:=hlr [v] (.cons hr .nil);cases h1 with
  | cons h1 _ =>
   cases t with
   | st n=>cases hf
   | _=>exact⟨_,rfl,h1⟩
 | agg m =>
  obtain⟨vs,rfl,hr⟩:=hr;cases t with
  | st n=>exact⟨_,rfl,vs,rfl,hlr vs hr⟩
  | _=>cases hf
theorem jJ_:∀{ts:List Ty} {cs:List (SC E)} {h:HL E.S ts},aN_ E H ts cs=some h->cs.length=ts.length
 | [],[],_,_=>rfl
 | t::ts,c::cs,h,e=>by
  simp only[aN_]at e;split at e
  .cases e
  .split at e
   .rename_i hh;simp[jJ_ hh]
   .cases e
 | [],c::cs,_,e=>by simp[aN_]at e
 | t::ts,[],_,e=>by simp[aN_]at e
theorem hlc_len:∀(ts:List Ty) (h:HL E.S ts),(hlc E ts h).length=ts.length
 | [],_=>rfl
 | _::ts,h=>by simp[hlc,hlc_len ts h.2]
theorem takeD_ok{t:Ty}{x:V1 E}{d:Den E.S t}{v:Value}(hH:HR P E Bs F0 w0 w z g H)(h:takeD E H t x=some d)(hr:R1 P E z g x v)(g':Ga):∃y,asV E t (E.cells t d)=some y/\R1 P E z g' y v:=by
 unfold takeD at h;split at h
 .rename_i hd hf hh;obtain rfl:=qSj h;refine asV_ok hf ?_ hr λvs hvs => ?_
  .unfold TE.cells;rw[hlc_len,jJ_ hh]
  .refine cells_rd.1 ?_;rw[E.fl_ufl];exact bI_ hH hh hvs
 .cases h
def aM_ (E:TE) (H:Nat->Option (Obj E)):Mk->(ts:List Ty)->List (SC E)->Option (HL E.S ts×List Nat)
 | some e::ms,.sl t::ts,.own id::cs=>match H id with
  | some (.row e' t' xs _)=>if ht:t'=t then match Nat.beq e e',aM_ E H ms ts cs with
    | true,some q=>some ((cc_ ht xs,q.1),id::q.2)
    | _,_=>none
   else none
  | _=>none
 | none::ms,t::ts,c::cs=>match c.data H t,aM_ E H ms ts cs with
  | some x,some q=>some ((x,q.1),q.2)
  | _,_=>none
 | [],ts,cs=>match aN_ E H ts cs with
  | some h=>some (h,[])
  | none=>none
 | _,_,_=>none
def c3_ (E:TE) (H:Nat->Option (Obj E)):(ps:List Pm)->List Nat->Option (PA E ps)
 | [],[]=>some ()
 | .p t::ps,id::ids=>match H id with
  | some (.fb t' x)=>if ht:t'=t then match c3_ E H ps ids with
    | some a=>some (ht▸x,a)
    | none=>none
   else none
  | _=>none
 | _,_=>none
abbrev Tab(E:TE):=FuncId->Option (Con E)
def res1{E:TE}{rs:Rs}{t:Ty}(h:rs=[(t,[])])(x:HL E.S rs.ts):Den E.S t:=by subst h;exact x.1
def takeF1(E:TE)(tab:Tab E)(H:Nat->Option (Obj E))(x r:Ty):SC E->Option (Den E.S x->Option (Den E.S r))
 | .fn1 x' r' f=>if h:x'=x/\r'=r then some (h.1▸h.2▸f)else none
 | .clo f ids=>match tab f with
  | some C=>match hps:C.ps with
   | .d x'::ps=>if hx:x'=x then if hr:C.rs=[(r,[])]then match r.flatB && !C.ali,c3_ E H ps ids with
      | true,some caps=>some λy=>C.F (Den E.S r) (hps▸((hx▸y,caps):PA E (.d x'::ps))) λrh _=>some (res1 hr rh)
      | _,_=>none
     else none else none
   | _=>none
  | none=>none
 | _=>none
def takeF2(E:TE)(tab:Tab E)(H:Nat->Option (Obj E))(x y r:Ty):SC E->Option (Den E.S x->Den E.S y->Option (Den E.S r))
 | .fn2 x' y' r' f=>if h:x'=x/\y'=y/\r'=r then some (h.1▸h.2.1▸h.2.2▸f)else none
 | .clo f ids=>match tab f with
  | some C=>match hps:C.ps with
   | .d x' :: .d y'::ps=>if hx:x'=x then if hy:y'=y then if hr:C.rs=[(r,[])]then match r.flatB && !C.ali,c3_ E H ps ids with
      | true,some caps=>some λu v=>C.F (Den E.S r) (hps▸((hx▸u,hy▸v,caps):PA E (.d x' :: .d y'::ps))) λrh _=>some (res1 hr rh)
      | _,_=>none
     else none else none else none
   | _=>none
  | none=>none
 | _=>none
def el_:Bool->List (SC E)->Option (List (SC E)×List (V1 E))|false,cs=>some (cs,[])|true,.ptr id 0::cs=>some (cs,[.one (.ptr id 0)])|true,_=>none
def hidB:List (V1 E)->List Nat->Bool | [],_=>true | [.one (.ptr id _)],i::_=>Nat.beq i id|_,_=>false
def takeA (E:TE) (tab:Tab E) (H:Nat->Option (Obj E)):(ps:List Pm)->List (V1 E)->Option (PA E ps×List Nat)
 | [],[]=>some ((),[])
 | .d t::ps,x::xs=>match takeD E H t x,takeA E tab H ps xs with
  | some d,some q=>some ((d,q.1),q.2)
  | _,_=>none
 | .l t m::ps,x::xs=>match V1.fits t x,aM_ E H m (E.flat t) x.cs,takeA E tab H ps xs with
  | true,some d,some q=>some ((E.ufl t d.1,q.1),d.2++q.2)
  | _,_,_=>none
 | .g t m::ps,x::xs=>match V1.fits t x,aM_ E H m (E.flat t) x.cs,takeA E tab H ps xs with
  | true,some d,some q=>some ((E.ufl t d.1,q.1),d.2++q.2)
  | _,_,_=>none
 | .b T t::ps,.one (.ptr id 0)::xs=>match H id,takeA E tab H ps xs with
  | some (.box T' cs),some q=>match Nat.beq T T',aN_ E H (E.flat t) cs with
   | true,some h=>some ((E.ufl t h,q.1),id::q.2)
   | _,_=>none
  | _,_=>none
 | .bm T t m px::ps,.one (.ptr id 0)::xs=>match H id with
  | some (.box T' cs0)=>match el_ (pxB px ps) cs0 with
   | some (cs,hid)=>match takeA E tab H ps (hid++xs)with
    | some q=>match Nat.beq T T'&&hidB hid q.2,aM_ E H m (E.flat t) cs with
     | true,some d=>some ((E.ufl t d.1,q.1),id::(d.2++q.2))
     | _,_=>none
    | none=>none
   | none=>none
  | _=>none
 | .mp T k v::ps,.one (.mp id)::xs=>match H id,takeA E tab H ps xs with
  | some (.map T' k' v' ks vs _),some q=>if ht:k'=k/\v'=v then match Nat.beq T T' with
    | true=>some (((cc_ ht.1 ks,cc_ ht.2 vs),q.1),id::q.2)
    | false=>none
   else none
  | _,_=>none
 | .p t::ps,.one (.elf t' x 0)::xs=>if ht:t'=t then match takeA E tab H ps xs with
   | some q=>some ((ht▸x,q.1),q.2)
   | none=>none
  else none
 | .p t::ps,.one (.ptr id 0)::xs=>match H id with
  | some (.fb t' x)=>if ht:t'=t then match takeA E tab H ps xs with
    | some q=>some ((ht▸x,q.1),q.2)
    | none=>none
   else none
  | _=>none
 | .f1 x r::ps,.one c::xs=>match takeF1 E tab H x r c,takeA E tab H ps xs with
  | some f,some q=>some ((f,q.1),q.2)
  | _,_=>none
 | .f2 x y r::ps,.one c::xs=>match takeF2 E tab H x y r c,takeA E tab H ps xs with
  | some f,some q=>some ((f,q.1),q.2)
  | _,_=>none
 | _,_=>none
def gOf(g:Ga)(I:List Nat):Ga:=λi=>match I[i]? with|some id=>g id|none=>none
def Cor(E:TE)(H:Nat->Option (Obj E))(I:List Nat):Obj E->Obj E->Prop | .row e t xs _,o=>o = .row e t xs [] | .map T k v ks vs _,o=>o = .map T k v ks vs [] | .box T cs0,o=>∃(px:Bool) (cs:List (SC E)) (hid:List (V1 E)) (p:Nat) (t:Ty) (m:Mk) (d:HL E.S (E.flat t)×List Nat) (k:Nat),el_ px cs0=some (cs,hid)/\(∀id o,hid=[.one (.ptr id o)]->I[p]? = some id)/\aM_ E H m (E.flat t) cs=some d/\o = .box T (ptrC E px p++aE_ E m (E.flat t) d.1 k)/\∀j id,d.2[j]? = some id->I[k+j]? = some id|_,_=>False
theorem f4_ {I:List Nat} {m:Mk}:∀{ts:List Ty} {cs:List (SC E)} {q:HL E.S ts×List Nat} {n:Nat},aM_ E H m ts cs=some q->(∀j id,q.2[j]? = some id->I[n+j]? = some id) ->
  (∀i o,(i,o)∈av_ E m ts q.1 n->∃id o1 o2,I[i]? = some id/\H id=some o1/\o=some o2/\Cor E H I o1 o2)/\q.2.length=am_ m ts:=by
 induction m with
 | nil =>
  intro ts cs q n h hI;simp only[aM_]at h;split at h
  .obtain rfl:=qSj h;refine⟨λi o ho => ?_,?_⟩
   .cases ts<;>simp[av_]at ho
   .cases ts<;>simp[am_]
  .cases h
 | cons a m ih =>
  intro ts cs q n h hI;cases ts with
  | nil=>cases a<;>simp[aM_]at h
  | cons t ts =>
   cases a with
   | none =>
    cases cs with
    | nil=>simp[aM_]at h
    | cons c cs =>
     simp only[aM_]at h;split at h
     .rename_i x q' _ hq;obtain rfl:=qSj h;simp only[av_,am_];exact ih hq hI
     .cases h
   | some e =>
    cases t with
    | sl t =>
     cases cs with
     | nil=>simp[aM_]at h
     | cons c cs =>
      cases c with
      | own id =>
       simp only[aM_]at h;split at h
       .rename_i e' t' xs foc hi;split at h
        .rename_i ht;subst ht;split at h
         .rename_i q' hb hq;obtain rfl:=qSj h;obtain rfl:=qNb hb;have h2:=ih (n:=n+1) hq λj id' hj=>by
           have:=hI (j+1) id' (by simpa using hj)
           rwa [show n+1+j=n+(j+1)by omega]
          refine⟨λi o ho => ?_,by simp[am_,h2.2]⟩;simp only[av_,List.mem_cons]at ho;rcases ho with ho|ho
          .simp only[Prod.mk.injEq]at ho;obtain⟨rfl,rfl⟩:=ho;exact⟨id,_,_,by simpa using hI 0 id (by simp),hi,rfl,rfl⟩
          .exact h2.1 i o ho
         .cases h
        .cases h
       .cases h
      | _=>simp[aM_]at h
    | _=>cases cs<;>simp[aM_]at h
theorem fe_ {I:List Nat} {m:Mk} (hH:HR P E Bs F0 w0 w z g H):∀{ts:List Ty} {cs:List (SC E)} {q:HL E.S ts×List Nat} {n:Nat} {vs:List Value},aM_ E H m ts cs=some q->(∀j id,q.2[j]? = some id->I[n+j]? = some id) ->
  All2 (RC P E z g) cs vs->All2 (RC P E z (gOf g I)) (aE_ E m ts q.1 n) vs/\cs.length=ts.length/\(aE_ E m ts q.1 n).length=ts.length:=by
 induction m with
 | nil =>
  intro ts cs q n vs h hI hv;simp only[aM_]at h;split at h
  .rename_i hd hh;obtain rfl:=qSj h;have e:aE_ E ([]:Mk) ts hd n=hlc E ts hd:=by cases ts<;>rfl
   rw[e];exact⟨hlc_rd.1 (bI_ hH hh hv),jJ_ hh,hlc_len ts hd⟩
  .cases h
 | cons a m ih =>
  intro ts cs q n vs h hI hv;cases ts with
  | nil=>cases a<;>simp[aM_]at h
  | cons t ts =>
   cases a with
   | none =>
    cases cs with
    | nil=>simp[aM_]at h
    | cons c cs =>
     simp only[aM_]at h;split at h
     .rename_i x q' hx hq;obtain rfl:=qSj h;cases hv with
      | cons h1 h2 =>
       obtain⟨h3,h4,h5⟩:=ih hq hI h2;simp only[aE_];exact⟨.cons (SC.data_ok hH hx h1) h3,by simp[h4],by simp[h5]⟩
     .cases h
   | some e =>
    cases t with
    | sl t =>
     cases cs with
     | nil=>simp[aM_]at h
     | cons c cs =>
      cases c with
      | own id =>
       simp only[aM_]at h;split at h
       .rename_i e' t' xs foc hi;split at h
        .rename_i ht;subst ht;split at h
         .rename_i q' hb hq;obtain rfl:=qSj h;cases hv with
          | cons h1 h2 =>
           obtain⟨h3,h4,h5⟩:=ih (n:=n+1) hq (λj id' hj=>by
            have:=hI (j+1) id' (by simpa using hj)
            rwa [show n+1+j=n+(j+1)by omega]) h2
           simp only[aE_];have h0:I[n]? = some id:=by simpa using hI 0 id (by simp)
           obtain⟨l,h6,h7⟩:=h1;exact⟨.cons ⟨l,by unfold gOf;rw[h0];exact h6,h7⟩ h3,by simp[h4],by simp[h5]⟩
         .cases h
        .cases h
       .cases h
      | _=>simp[aM_]at h
    | _=>cases cs<;>simp[aM_]at h
theorem lQ_(hH:HR P E Bs F0 w0 w z g H)(hz:z.Le z')(g':Ga):∀{ps:List Pm} {ids:List Nat} {a:PA E ps} {us:List Value} {n:Nat},c3_ E H ps ids=some a->All2 (λid u=>∃l,g id=some l/\u=Value.pointer (some ⟨l.b,0,none⟩)) ids us ->
  (∃svs,aI_ E ps a n=some svs/\All2 (R1 P E z' g') svs us)/\ay_ E ps a n=[]/\ai_ E ps=0
 | [],[],a,us,n,h,hu=>by
  cases hu
  exact⟨⟨[],rfl,.nil⟩,rfl,rfl⟩
 | .p t::ps,id::ids,a,us,n,h,hu=>by
  simp only[c3_]at h;split at h
  .rename_i t' x hi;split at h
   .rename_i ht;subst ht;split at h
    .rename_i a' ha;obtain rfl:=qSj h;cases hu with
     | cons h1 h2 =>
      obtain⟨⟨svs,h3,h4⟩,h5,h6⟩:=lQ_ hH hz g' (n:=n) ha h2;obtain⟨l,h7,rfl⟩:=h1;obtain⟨l',r,h8,h9,h10,h11⟩:=hH.hold _ _ hi;rw[h7]at h8;obtain rfl:=qSj h8;refine⟨⟨.one (.elf t' x 0)::svs,by simp only[aI_,h3],.cons ⟨l.b,0,r,rfl,(hz _ h9).1,h10.le hz,λj u hj => ?_⟩ h4⟩,h5,h6⟩;rw[Nat.zero_add,World.cell?_of_block (w:=z.w) (hz _ h9).2];exact h11 j u hj
    .cases h
   .cases h
  .cases h
 | [],id::ids,a,us,n,h,hu=>by simp[c3_]at h
 | .p t::ps,[],a,us,n,h,hu=>by simp[c3_]at h
 | .d t::ps,ids,a,us,n,h,hu=>by simp[c3_]at h
 | .l t m::ps,ids,a,us,n,h,hu=>by simp[c3_]at h
 | .g t m::ps,ids,a,us,n,h,hu=>by simp[c3_]at h
 | .b T t::ps,ids,a,us,n,h,hu=>by simp[c3_]at h
 | .mp T k v::ps,ids,a,us,n,h,hu=>by simp[c3_]at h
 | .f1 x r::ps,ids,a,us,n,h,hu=>by simp[c3_]at h
 | .f2 x y r::ps,ids,a,us,n,h,hu=>by simp[c3_]at h
theorem HR.nothing{z:Fz}{w:World}(hz:z.In w)(hg:Glo E z)(g:Ga):HR P E [] z.F w w z g (λ_=>none) :=
 ⟨Chg.of_below (Below.refl _ _),(λ_ _ h=>by cases h),(λ_ _ _ h=>by cases h),(λ_ _ _ _ _ _ h=>by cases h),hz,(λ_ h => .inl h),(λ_ _ _ h=>by cases h),hg⟩
def nxU(nx:Nat):Chs E->Nat
 | []=>nx+1
 | (i,none)::l=>match Nat.ble (nx+1+(l.length+1)) (i+1)with
  | true=>i+1
  | false=>nx+1+(l.length+1)
 | (_,some _)::l=>nx+1+(l.length+1)
theorem hJ_(nx:Nat)(u:Chs E):nx+1+u.length<=nxU nx u:=by
 unfold nxU;split
 .exact Nat.le_refl _
 .split
  .rename_i hb;exact Nat.le_of_ble_eq_true hb
  .exact Nat.le_refl _
 .exact Nat.le_refl _
theorem Fresh.nxU{g:Ga}{nx:Nat}{u:Chs E}(h:Fresh g (nx+1+u.length)):Fresh g (nxU nx u):=λi hi=>h i (Nat.le_trans (hJ_ nx u) hi)
def InlOK(P:Program)(E:TE)(f:FuncId)(I:InlF E):Prop :=
 ∀{z:Fz} {g:Ga} {nx:Nat} {H:Nat->Option (Obj E)} {xs:List (V1 E)} {vs:List Value} {R:Type} {k:Option (SV E)->Chs E->Option R} {r:R} {Bs:List Nat} {F0:Nat->Prop} {w0 w:World},Fresh g nx->HR P E Bs F0 w0 w z g H->All2 (R1 P E z g) xs vs->I H nx xs R k=some r ->
  Ret P f vs.toArray w λv w'=>∃s u z2 g2,k (some s) u=some r/\z.Le z2/\g.Le g2/\Fresh g2 (nxU nx u)/\RV P E z2 g2 s v/\HR P E Bs F0 w0 w' z2 g2 (upH H u)
def Tab.OK(P:Program)(E:TE)(tab:Tab E):Prop:=∀f C,tab f=some C->C.OK P E f/\bo_ P f=true/\∀I,C.I=some I->fG_ C.ps=true/\InlOK P E f I
theorem hK_{t:Ty}{x:Den E.S t}{v:Value}(h:RT E z t x v)(g:Ga):∃y,asV E t (E.cells t x)=some y/\R1 P E z g y v:=by
 cases t with
 | st n =>
  obtain⟨vs,rfl,h⟩:=h;exact⟨_,rfl,vs,rfl,cells_rd (t := .st n).1 h⟩
 | int k=>exact⟨_,rfl,h⟩
 | bool=>exact⟨_,rfl,h⟩
 | str=>exact⟨_,rfl,h⟩
 | sl e=>exact⟨_,rfl,h⟩
theorem call_flat{f:FuncId}{ps:List Pm}{r:Ty}{a:PA E ps}{rh:HL E.S (Rs.ts [(r,[])])}{bh:HL E.S (aq_ ps)}{svs:List (V1 E)}{vs:List Value}(hr:r.flatB=true)(hc:CallOK P E f ps [(r,[])] false a rh bh)(hz:z.In w)(hgl:Glo E z)
  (hs:aI_ E ps a 0=some svs) (ho:ay_ E ps a 0=[]) (hv:All2 (R1 P E z λ_=>none) svs vs) :
  Ret P f vs.toArray w λu w'=>RD E z [r] (rh.1,()) [u]/\Ext w w':=by
 have h:=hc w z (λ_ => .none) [] svs vs hs (by rw[ho];exact HR.nothing hz hgl _) (λ_ _=>rfl) hv;refine h.mono λu w' ⟨z',g',svr,hle,hzz,_,hres,hrv,hHR⟩ => ?_
 obtain rfl:=hzz rfl;refine⟨?_,Ext.of_below hHR.chg.below⟩;have hsvr:svr=[.one (.dt r rh.1)]:=by
  cases r with
  | int k=>simp[resV,aE_,TE.flat,TE.fl,hlc,asV]at hres;exact hres.symm
  | bool=>simp[resV,aE_,TE.flat,TE.fl,hlc,asV]at hres;exact hres.symm
  | str=>simp[resV,aE_,TE.flat,TE.fl,hlc,asV]at hres;exact hres.symm
  | sl e=>cases hr
  | st n=>cases hr
 subst hsvr;exact hrv
theorem takeF1_ok{tab:Tab E}(ht:tab.OK P E){x r:Ty}{c:SC E}{f:Den E.S x->Option (Den E.S r)}{v:Value}(hH:HR P E Bs F0 w0 w z g H)(h:takeF1 E tab H x r c=some f)(hr:RC P E z g c v):FnOK P E z v [x] r λh=>f h.1:=by
 unfold takeF1 at h;split at h
 .split at h
  .rename_i hx;obtain⟨rfl,rfl⟩:=hx;obtain rfl:=qSj h;exact hr
  .cases h
 .rename_i fid ids;split at h
  .rename_i C hC;obtain⟨hok,hbody,_⟩:=ht fid C hC;obtain⟨ps,rs,ali,F,I⟩:=C;split at h
   .rename_i x' ps' hps;simp only at hps;subst hps;split at h
    .rename_i hx;subst hx;split at h
     .rename_i hrs;simp only at hrs;subst hrs;split at h
      .rename_i caps hb hcaps;simp only[qAn,Bool.not_eq_true']at hb;obtain⟨hfl,rfl⟩:=hb;obtain rfl:=qSj h;obtain⟨us,rfl,hus⟩:=hr;refine⟨fid,us.toArray,rfl,⟨hbody,hfl⟩,λw1 z1 hh y args hz1 hin hargs hF => ?_⟩;obtain⟨rh,bh,hk,hcall⟩:=hok _ _ _ _ hF;obtain⟨v1,vs1,rfl,h1,h2⟩:=hargs;simp only[RTs]at h2;subst h2;obtain⟨⟨svs,h3,h4⟩,h5,h6⟩:=lQ_ (P:=P) hH hz1 (λ_ => .none) (n:=0) hcaps hus;obtain⟨sv,h7,h8⟩:=hK_ (P:=P) h1 (λ_ => .none);have:=call_flat hfl hcall hin (hH.gl.le hz1) (svs:=sv::svs) (vs:=v1::us) (by simp only[aI_,h7,h3]) h5 (.cons h8 h4);have e:(#[v1]++us.toArray:Array Value)=(v1::us).toArray:=by simp
       have hy:rh.1=y:=by simpa[res1]using hk
       rw[show[v1].toArray = #[v1]from rfl,e,←hy];exact this
      .cases h
     .cases h
    .cases h
   .cases h
  .cases h
 .cases h
theorem takeF2_ok {tab:Tab E} (ht:tab.OK P E) {x y r:Ty} {c:SC E} {f:Den E.S x->Den E.S y->Option (Den E.S r)} {v:Value} (hH:HR P E Bs F0 w0 w z g H) (h:takeF2 E tab H x y r c=some f) (hr:RC P E z g c v):FnOK P E z v [x,y] r λh=>f h.1 h.2.1:=by
 unfold takeF2 at h;split at h
 .split at h
  .rename_i hx;obtain⟨rfl,rfl,rfl⟩:=hx;obtain rfl:=qSj h;exact hr
  .cases h
 .rename_i fid ids;split at h
  .rename_i C hC;obtain⟨hok,hbody,_⟩:=ht fid C hC;obtain⟨ps,rs,ali,F,I⟩:=C;split at h
   .rename_i x' y' ps' hps;simp only at hps;subst hps;split at h
    .rename_i hx;subst hx;split at h
     .rename_i hy;subst hy;split at h
      .rename_i hrs;simp only at hrs;subst hrs;split at h
       .rename_i caps hb hcaps;simp only[qAn,Bool.not_eq_true']at hb;obtain⟨hfl,rfl⟩:=hb;obtain rfl:=qSj h;obtain⟨us,rfl,hus⟩:=hr;refine⟨fid,us.toArray,rfl,⟨hbody,hfl⟩,λw1 z1 hh y args hz1 hin hargs hF => ?_⟩;obtain⟨rh,bh,hk,hcall⟩:=hok _ _ _ _ hF;obtain⟨v1,vs1,rfl,h1,h2⟩:=hargs;obtain⟨v2,vs2,rfl,h2,h2'⟩:=h2;simp only[RTs]at h2';subst h2';obtain⟨⟨svs,h3,h4⟩,h5,h6⟩:=lQ_ (P:=P) hH hz1 (λ_ => .none) (n:=0) hcaps hus;obtain⟨sv,h7,h8⟩:=hK_ (P:=P) h1 (λ_ => .none);obtain⟨sv2,h9,h10⟩:=hK_ (P:=P) h2 (λ_ => .none);have:=call_flat hfl hcall hin (hH.gl.le hz1) (svs:=sv::sv2::svs) (vs:=v1::v2::us) (by simp only[aI_,h7,h3,h9]) h5 (.cons h8 (.cons h10 h4))
        have e:(#[v1,v2]++us.toArray:Array Value)=(v1::v2::us).toArray:=by simp
        have hy:rh.1=y:=by simpa[res1]using hk
        rw[show[v1,v2].toArray = #[v1,v2]from rfl,e,←hy];exact this
       .cases h
      .cases h
     .cases h
    .cases h
   .cases h
  .cases h
 .cases h
theorem fZ_{I l m:List Nat}{n:Nat}(h:∀j id,(l++m)[j]? = some id->I[n+j]? = some id):(∀j id,l[j]? = some id->I[n+j]? = some id)/\∀j id,m[j]? = some id->I[n+l.length+j]? = some id:=by
 refine⟨λj id hj=>h j id ?_,λj id hj => ?_⟩
 .rw[List.getElem?_append_left (List.getElem?_eq_some_iff.1 hj).1];exact hj
 .rw[Nat.add_assoc];refine h _ id ?_;rw[List.getElem?_append_right (by omega)];rw[show l.length+j-l.length=j by omega];exact hj
theorem ownC_nil{ts:List Ty}{h:HL E.S ts}{n:Nat}:aE_ E [] ts h n=hlc E ts h:=by cases ts<;>rfl
theorem takeM_nil{ts:List Ty}{cs:List (SC E)}{h:HL E.S ts}(hh:aN_ E H ts cs=some h):aM_ E H [] ts cs=some (h,[]):=by
 unfold aM_;rw[hh]
theorem takeP_val{px:Bool}{cs0 cs:List (SC E)}{hid xs:List (V1 E)}{us vs:List Value}(h:el_ px cs0=some (cs,hid))(hu:All2 (RC P E z g) cs0 us)(hv:All2 (R1 P E z g) xs vs):∃us,All2 (R1 P E z g) (hid++xs) (us++vs)/\us.length=hid.length:=by
 unfold el_ at h;split at h
 .simp only[qOi,Prod.mk.injEq]at h;obtain⟨rfl,rfl⟩:=h;exact⟨[],hv,rfl⟩
 .simp only[qOi,Prod.mk.injEq]at h;obtain⟨rfl,rfl⟩:=h;cases hu with
  | @cons _ u _ _ h1 _=>exact⟨[u],.cons h1 hv,rfl⟩
 .cases h
theorem dropP_val{px:Bool}{cs0 cs:List (SC E)}{hid:List (V1 E)}{R:V1 E->Value->Prop}{svs:List (V1 E)}{us vs:List Value}(h:el_ px cs0=some (cs,hid))(hl:us.length=hid.length)(hv:All2 R svs (us++vs)):∃svs',dropP px svs=some svs'/\All2 R svs' vs:=by
 unfold el_ at h;split at h
 .simp only[qOi,Prod.mk.injEq]at h;obtain⟨rfl,rfl⟩:=h;obtain rfl:us=[]:=List.length_eq_zero_iff.1 hl;exact⟨svs,rfl,hv⟩
 .simp only[qOi,Prod.mk.injEq]at h;obtain⟨rfl,rfl⟩:=h
  match us,hl with
  | [u],_ =>
   cases hv with
   | cons h1 h2=>exact⟨_,rfl,h2⟩
 .cases h
theorem hidB_val{id o:Nat}{l:List Nat}(h:hidB (E:=E) [.one (.ptr id o)] l=true):l[0]? = some id:=by
 cases l with
 | nil=>cases h
 | cons i l =>
  simp only[hidB]at h;obtain rfl:=qNb h;rfl
theorem box_val{px:Bool}{cs0 cs:List (SC E)}{hid:List (V1 E)}{I:List Nat}{p:Nat}{t:Ty}{m:Mk}{d:HL E.S (E.flat t)×List Nat}{k:Nat}{vs:List Value}(hH:HR P E Bs F0 w0 w z g H)(hP:el_ px cs0=some (cs,hid))(hp:∀id o,hid=[.one (.ptr id o)]->I[p]? = some id)
  (hd:aM_ E H m (E.flat t) cs=some d) (hk:∀j id,d.2[j]? = some id->I[k+j]? = some id) (hv:All2 (RC P E z g) cs0 vs):All2 (RC P E z (gOf g I)) (ptrC E px p++aE_ E m (E.flat t) d.1 k) vs:=by
 unfold el_ at hP;split at hP
 .simp only[qOi,Prod.mk.injEq]at hP;obtain⟨rfl,rfl⟩:=hP;exact(fe_ hH hd hk hv).1
 .rename_i id cs';simp only[qOi,Prod.mk.injEq]at hP;obtain⟨rfl,rfl⟩:=hP;cases hv with
  | cons h1 h2 =>
   obtain⟨l,h3,h4⟩:=h1;refine .cons ⟨l,?_,h4⟩ (fe_ hH hd hk h2).1;unfold gOf;rw[hp id 0 rfl];exact h3
 .cases hP
theorem takeA_ok {tab:Tab E} (ht:tab.OK P E) (hH:HR P E Bs F0 w0 w z g H) {I:List Nat}:∀{ps:List Pm} {xs:List (V1 E)} {q:PA E ps×List Nat} {vs:List Value} {n:Nat},takeA E tab H ps xs=some q->(∀j id,q.2[j]? = some id->I[n+j]? = some id) ->
  All2 (R1 P E z g) xs vs->(∃svs,aI_ E ps q.1 n=some svs/\All2 (R1 P E z (gOf g I)) svs vs)/\(∀i o,(i,o)∈ay_ E ps q.1 n->∃id o1 o2,I[i]? = some id/\H id=some o1/\o=some o2/\Cor E H I o1 o2)/\q.2.length=ai_ E ps:=by
 intro ps
 induction ps with
 | nil =>
  intro xs q vs n h hI hv;cases xs with
  | nil =>
   simp only[takeA,qOi]at h;subst h;cases hv
   exact⟨⟨[],rfl,.nil⟩,λi o ho=>by simp[ay_]at ho,rfl⟩
  | cons x xs=>simp[takeA]at h
 | cons p ps ih =>
  intro xs q vs n h hI hv;cases xs with
  | nil=>cases p<;>simp[takeA]at h
  | cons x xs =>
   cases hv with
   | @cons _ v _ vs' h1 h2 =>
    cases p with
    | d t =>
     simp only[takeA]at h;split at h
     .rename_i d q' hd hq;obtain rfl:=qSj h;obtain⟨⟨svs,e1,e2⟩,e3,e4⟩:=ih hq hI h2;obtain⟨y,e5,e6⟩:=takeD_ok hH hd h1 (gOf g I);exact⟨⟨y::svs,by simp only[aI_,e1,e5],.cons e6 e2⟩,e3,e4⟩
     .cases h
    | l t m =>
     simp only[takeA]at h;split at h
     .rename_i d q' hf hd hq;obtain rfl:=qSj h;obtain⟨i1,i2⟩:=fZ_ hI;obtain⟨e7,e8⟩:=f4_ hd i1;obtain⟨⟨svs,e1,e2⟩,e3,e4⟩:=ih hq i2 h2;rw[e8]at e1 e3;have hcs:∀vs,All2 (RC P E z g) x.cs vs->_:=λvs hvs=>fe_ hH hd i1 hvs
      obtain⟨y,e5,e6⟩:=asV_ok (z':=z) (g':=gOf g I) (l:=aE_ E m (E.flat t) d.1 n) hf (by
       have:∃vs,All2 (RC P E z g) x.cs vs:=by
        cases x with
        | one c=>exact⟨[v],.cons h1 .nil⟩
        | agg l=>obtain⟨vs,_,h⟩:=h1;exact⟨vs,h⟩
       obtain⟨vs,hvs⟩:=this;rw[(hcs vs hvs).2.1,(hcs vs hvs).2.2]) h1 λvs hvs=>(hcs vs hvs).1
      refine⟨⟨y::svs,by simp only[aI_,e1,E.fl_ufl,e5],.cons e6 e2⟩,λi o ho => ?_,by simp only[qLa,e8,e4];rfl⟩;simp only[ay_,List.mem_append,E.fl_ufl]at ho;rcases ho with ho|ho
      .exact e7 i o ho
      .exact e3 i o ho
     .cases h
    | g t m =>
     simp only[takeA]at h;split at h
     .rename_i d q' hf hd hq;obtain rfl:=qSj h;obtain⟨i1,i2⟩:=fZ_ hI;obtain⟨e7,e8⟩:=f4_ hd i1;obtain⟨⟨svs,e1,e2⟩,e3,e4⟩:=ih hq i2 h2;rw[e8]at e1 e3;have hcs:∀vs,All2 (RC P E z g) x.cs vs->_:=λvs hvs=>fe_ hH hd i1 hvs
      obtain⟨y,e5,e6⟩:=asV_ok (z':=z) (g':=gOf g I) (l:=aE_ E m (E.flat t) d.1 n) hf (by
       have:∃vs,All2 (RC P E z g) x.cs vs:=by
        cases x with
        | one c=>exact⟨[v],.cons h1 .nil⟩
        | agg l=>obtain⟨vs,_,h⟩:=h1;exact⟨vs,h⟩
       obtain⟨vs,hvs⟩:=this;rw[(hcs vs hvs).2.1,(hcs vs hvs).2.2]) h1 λvs hvs=>(hcs vs hvs).1
      refine⟨⟨y::svs,by simp only[aI_,e1,E.fl_ufl,e5],.cons e6 e2⟩,λi o ho => ?_,by simp only[qLa,e8,e4];rfl⟩;simp only[ay_,List.mem_append,E.fl_ufl]at ho;rcases ho with ho|ho
      .exact e7 i o ho
      .exact e3 i o ho
     .cases h
    | b T t =>
     cases x with
     | agg l=>simp[takeA]at h
     | one c =>
     cases c with
     | ptr id off =>
      cases off with
      | succ off=>simp[takeA]at h
      | zero =>
      simp only[takeA]at h;split at h
      .rename_i T' cs q' hi hq;split at h
       .rename_i hd hb hh;obtain rfl:=qSj h;obtain rfl:=qNb hb;obtain⟨⟨svs,e1,e2⟩,e3,e4⟩:=ih (n:=n+1) hq (λj id' hj=>by
         have:=hI (j+1) id' (by simpa using hj)
         rwa [show n+1+j=n+(j+1)by omega]) h2
        have h0:I[n]? = some id:=by simpa using hI 0 id (by simp)
        obtain⟨l,h6,h7⟩:=h1;refine⟨⟨.one (.ptr n 0)::svs,by simp only[aI_,e1],.cons ⟨l,by unfold gOf;rw[h0];exact h6,h7⟩ e2⟩,λi o ho => ?_,by simp only[qLc,e4,ai_];omega⟩;simp only[ay_,List.mem_cons,Prod.mk.injEq]at ho;rcases ho with⟨rfl,rfl⟩|ho
        .exact⟨id,_,_,h0,hi,rfl,false,_,[],0,t,[],(hd,[]),0,rfl,(λ_ _ e=>nomatch e),takeM_nil hh,by rw[ownC_nil];unfold TE.cells;rw[E.fl_ufl];rfl,λj id' hj=>by simp at hj⟩
        .exact e3 i o ho
       .cases h
      .cases h
     | _=>simp[takeA]at h
    | bm T t m px =>
     cases x with
     | agg l=>simp[takeA]at h
     | one c =>
     cases c with
     | ptr id off =>
      cases off with
      | succ off=>simp[takeA]at h
      | zero =>
      simp only[takeA]at h;split at h
      .rename_i T' cs0 hi;split at h
       .rename_i cs hid hP;split at h
        .rename_i q' hq;split at h
         .rename_i d hb hd;obtain rfl:=qSj h;simp only[qAn]at hb;obtain⟨hb,hhid⟩:=hb;obtain rfl:=qNb hb;have hI':∀j id',(d.2++q'.2)[j]? = some id'->I[n+1+j]? = some id':=λj id' hj=>by
           have:=hI (j+1) id' (by simpa using hj)
           rwa [show n+1+j=n+(j+1)by omega]
          obtain⟨i1,i2⟩:=fZ_ hI';obtain⟨e7,e8⟩:=f4_ (n:=n+1) hd i1;obtain⟨hv2,h3,h4⟩:∃us,All2 (R1 P E z g) (hid++xs) (us++vs')/\us.length=hid.length:=by
           obtain⟨lb,vsb,_,_,hvb⟩:=hH.hold _ _ hi;exact takeP_val hP hvb h2
          obtain⟨⟨svs,e1,e2⟩,e3,e4⟩:=ih hq i2 h3;rw[e8]at e1 e3;have h0:I[n]? = some id:=by simpa using hI 0 id (by simp)
          obtain⟨l,h6,h7⟩:=h1;obtain⟨svs',e5,e6⟩:=dropP_val hP h4 e2;refine⟨⟨.one (.ptr n 0)::svs',by simp only[aI_,e1,e5],.cons ⟨l,by unfold gOf;rw[h0];exact h6,h7⟩ e6⟩,λi o ho => ?_,by simp only[qLc,qLa,e8,e4,ai_];omega⟩;simp only[ay_,List.mem_cons,List.mem_append,Prod.mk.injEq,E.fl_ufl]at ho;rcases ho with⟨rfl,rfl⟩|ho|ho
          .exact⟨id,_,_,h0,hi,rfl,_,cs,hid,_,t,m,d,_,hP,(λid2 o2 e=>by
            subst e;rw[e8]at i2;exact i2 0 id2 (hidB_val hhid)),hd,rfl,i1⟩
          .exact e7 i o ho
          .exact e3 i o ho
         .cases h
        .cases h
       .cases h
      .cases h
     | _=>simp[takeA]at h
    | mp T k v =>
     cases x with
     | agg l=>simp[takeA]at h
     | one c =>
     cases c with
     | mp id =>
      simp only[takeA]at h;split at h
      .rename_i T' k' v' ks vs foc q' hi hq;split at h
       .rename_i ht;obtain⟨rfl,rfl⟩:=ht;split at h
        .rename_i hb;obtain rfl:=qSj h;obtain rfl:=qNb hb;obtain⟨⟨svs,e1,e2⟩,e3,e4⟩:=ih (n:=n+1) hq (λj id' hj=>by
          have:=hI (j+1) id' (by simpa using hj)
          rwa [show n+1+j=n+(j+1)by omega]) h2
         have h0:I[n]? = some id:=by simpa using hI 0 id (by simp)
         obtain⟨l,h6,h7⟩:=h1;refine⟨⟨.one (.mp n)::svs,by simp only[aI_,e1],.cons ⟨l,by unfold gOf;rw[h0];exact h6,h7⟩ e2⟩,λi o ho => ?_,by simp only[qLc,e4,ai_];omega⟩;simp only[ay_,List.mem_cons,Prod.mk.injEq]at ho;rcases ho with⟨rfl,rfl⟩|ho
         .exact⟨id,_,_,h0,hi,rfl,rfl⟩
         .exact e3 i o ho
        .cases h
       .cases h
      .cases h
     | _=>simp[takeA]at h
    | p t =>
     cases x with
     | agg l=>simp[takeA]at h
     | one c =>
     cases c with
     | elf t' x' off =>
      cases off with
      | succ off=>simp[takeA]at h
      | zero =>
      simp only[takeA]at h;split at h
      .rename_i htt;subst htt;split at h
       .rename_i q' hq;obtain rfl:=qSj h;obtain⟨⟨svs,e1,e2⟩,e3,e4⟩:=ih hq hI h2;exact⟨⟨.one (.elf t' x' 0)::svs,by simp only[aI_,e1],.cons h1 e2⟩,e3,e4⟩
       .cases h
      .cases h
     | ptr id off =>
      cases off with
      | succ off=>simp[takeA]at h
      | zero =>
      simp only[takeA]at h;split at h
      .rename_i t' x' hi;split at h
       .rename_i htt;subst htt;split at h
        .rename_i q' hq;obtain rfl:=qSj h;obtain⟨⟨svs,e1,e2⟩,e3,e4⟩:=ih hq hI h2;obtain⟨l,h7,rfl⟩:=h1;obtain⟨l',r,h8,h9,h10,h11⟩:=hH.hold _ _ hi;rw[h7]at h8;obtain rfl:=qSj h8;exact⟨⟨.one (.elf t' x' 0)::svs,by simp only[aI_,e1],.cons ⟨l.b,0,r,rfl,h9,h10,λj u hj=>by rw[Nat.zero_add];exact h11 j u hj⟩ e2⟩,e3,e4⟩
        .cases h
       .cases h
      .cases h
     | _=>simp[takeA]at h
    | f1 a r =>
     cases x with
     | agg l=>simp[takeA]at h
     | one c =>
      simp only[takeA]at h;split at h
      .rename_i f q' hf hq;obtain rfl:=qSj h;obtain⟨⟨svs,e1,e2⟩,e3,e4⟩:=ih hq hI h2;exact⟨⟨.one (.fn1 a r f)::svs,by simp only[aI_,e1],.cons (takeF1_ok ht hH hf h1) e2⟩,e3,e4⟩
      .cases h
    | f2 a c r =>
     cases x with
     | agg l=>simp[takeA]at h
     | one c =>
      simp only[takeA]at h;split at h
      .rename_i f q' hf hq;obtain rfl:=qSj h;obtain⟨⟨svs,e1,e2⟩,e3,e4⟩:=ih hq hI h2;exact⟨⟨.one (.fn2 a _ r f)::svs,by simp only[aI_,e1],.cons (takeF2_ok ht hH hf h1) e2⟩,e3,e4⟩
      .cases h
theorem d9_{i:Nat}{o:Obj E}:∀{l:Chs E},upH (λ_=>none) l i=some o->(i,some o)∈l
 | [],h=>by cases h
 | (j,p)::l,h=>by
  simp only[upH]at h;split at h
  .rename_i hb;obtain rfl:=qNb hb;subst h;exact List.mem_cons_self ..
  .exact List.mem_cons_of_mem _ (d9_ h)
def blk(H:Nat->Option (Obj E))(g:Ga)(id:Nat):List Nat:=match H id,g id with
 | some (.row ..),some l=>match l.A with
  | some a=>[a.block]
  | none=>[]
 | some (.box ..),some l=>[l.b]
 | some (.map ..),some l=>[l.b]
 | _,_=>[]
theorem mem_blk{id k:Nat}:k∈blk H g id↔∃o,H id=some o/\fpO g id o k:=by
 unfold blk;cases hi:H id with
 | none=>simp
 | some o =>
  cases hg:g id with
  | none=>cases o<;>simp[fpO,hg]
  | some l =>
   cases o with
   | box T cs=>simp[fpO,hg]
   | row e t xs foc =>
    cases hA:l.A with
    | none=>simp[fpO,hg,hA]
    | some a=>simp[fpO,hg,hA]
   | fr t xs=>simp[fpO]
   | fb t x=>simp[fpO]
   | map T k v ks vs foc=>simp[fpO,hg]
theorem jK_{I:List Nat}(h:nodupB I=true):∀{i j id:Nat},I[i]? = some id->I[j]? = some id->i=j:=by
 induction I with
 | nil=>intro i j id h;simp at h
 | cons x I ih =>
  intro i j id hi hj;simp only[nodupB,qAn,Bool.not_eq_true']at h;have hx:∀k,I[k]? = some x->False:=λk hk=>by
   have:=List.mem_of_getElem? hk;have h1:=h.1;simp at h1;exact h1 this
  cases i with
  | zero =>
   cases j with
   | zero=>rfl
   | succ j=>simp at hi hj;subst hi;exact(hx j hj).elim
  | succ i =>
   cases j with
   | zero=>simp at hi hj;subst hj;exact(hx i hi).elim
   | succ j=>simp at hi hj;rw[ih h.2 hi hj]
theorem Cor.obj{I:List Nat}{i id:Nat}{o1 o2:Obj E}(hH:HR P E Bs F0 w0 w z g H)(hc:Cor E H I o1 o2)(hi:I[i]? = some id)(h:ObjR P E z g w id o1):ObjR P E z (gOf g I) w i o2/\∀k,fpO (gOf g I) i o2 k↔fpO g id o1 k:=by
 have hg:gOf g I i=g id:=by unfold gOf;rw[hi]
 cases o1 with
 | row e t xs foc =>
  simp only[Cor]at hc;subst hc;obtain⟨l,rows,h1,hn,hcc,h2,h3,h4,h5,_⟩:=h;refine⟨⟨l,rows,by rw[hg];exact h1,hn,hcc,h2,h3,h4,h5,λp hp=>nomatch hp⟩,λk => ?_⟩;simp only[fpO,hg]
 | box T cs =>
  obtain⟨px,cs',hid,p,t,m,d,k,hP,hp,hd,rfl,hk⟩:=hc;obtain⟨l,vs,h1,h2,h3⟩:=h;exact⟨⟨l,vs,by rw[hg];exact h1,h2,box_val hH hP hp hd hk h3⟩,λk=>by simp only[fpO,hg]⟩
 | fr t xs=>exact hc.elim
 | fb t x=>exact hc.elim
 | map T k v ks vs foc =>
  obtain rfl:o2 = .map T k v ks vs []:=hc;obtain⟨l,es,c,h1,h2,h3,_⟩:=h;exact⟨⟨l,es,c,by rw[hg];exact h1,h2,h3,λp hp=>nomatch hp⟩,λk=>by simp only[fpO,hg]⟩
theorem HR.entry(hH:HR P E Bs F0 w0 w z g H){I:List Nat}(hn:nodupB I=true){l:Chs E}(hl:∀i o,(i,o)∈l->∃id o1 o2,I[i]? = some id/\H id=some o1/\o=some o2/\Cor E H I o1 o2) :
  HR P E (I.map (blk H g)).flatten z.F w w z (gOf g I) (upH (λ_=>none) l):=by
 have key:∀i o,upH (λ_=>none) l i=some o->∃id o1,I[i]? = some id/\H id=some o1/\ObjR P E z (gOf g I) w i o/\∀k,fpO (gOf g I) i o k↔fpO g id o1 k:=λi o h=>by
  obtain⟨id,o1,o2,h1,h2,h3,h4⟩:=hl i _ (d9_ h);obtain rfl:=qSj h3;obtain⟨h5,h6⟩:=h4.obj hH h1 (hH.hold _ _ h2);exact⟨id,o1,h1,h2,h5,h6⟩
 refine⟨Chg.of_below (Below.refl _ _),λi o h => ?_,λi o k h hk => ?_,λi j o p k hij h h' hk hk' => ?_,hH.fz,λk hk => .inl hk,λi o k h hk hz => ?_,hH.gl⟩
 .obtain⟨_,_,_,_,h5,_⟩:=key i o h;exact h5
 .obtain⟨id,o1,h1,h2,_,h6⟩:=key i o h
  right
  refine List.mem_flatten.2 ⟨blk H g id,List.mem_map.2 ⟨id,List.mem_of_getElem? h1,rfl⟩,?_⟩;exact mem_blk.2 ⟨o1,h2,(h6 k).1 hk⟩
 .obtain⟨id,o1,h1,h2,_,h6⟩:=key i o h;obtain⟨id',o1',h1',h2',_,h6'⟩:=key j p h';refine hH.apart id id' o1 o1' k (λe => ?_) h2 h2' ((h6 k).1 hk) ((h6' k).1 hk');subst e;exact hij (jK_ hn h1 h1')
 .obtain⟨id,o1,h1,h2,_,h6⟩:=key i o h;exact hH.fza id o1 k h2 ((h6 k).1 hk) hz
theorem eK_{I:List Nat}{k:Nat}(h:k∈(I.map (blk H g)).flatten):∃(i id:Nat) (o:Obj E),I[i]? = some id/\H id=some o/\fpO g id o k:=by
 obtain⟨l,hl,hk⟩:=List.mem_flatten.1 h;obtain⟨id,hid,rfl⟩:=List.mem_map.1 hl;obtain⟨i,hi⟩:=List.mem_iff_getElem?.1 hid;obtain⟨o,h1,h2⟩:=mem_blk.1 hk;exact⟨i,id,o,hi,h1,h2⟩
theorem HR.back2{zb z2:Fz}{g1 g2:Ga}{Hb H1 H2:Nat->Option (Obj E)}{Bs1:List Nat}{Fe:Nat->Prop}{I:List Nat}{s:Nat->Nat->Prop}(hb:HR P E Bs F0 w0 w zb g Hb)(hx:HR P E Bs1 Fe w w' z' g1 H1)
  (hB:∀k,k∈Bs1->∃id o,id∈I/\Hb id=some o/\fpO g id o k) (hg:g.Le g2)
  (hH:∀j o,H2 j=some o->(∃i o1,s j i/\H1 i=some o1/\(ObjR P E z2 g2 w' j o/\∀k,fpO g2 j o k↔fpO g1 i o1 k))\/(j∉I/\Hb j=some o)) (hs:∀j j' i,s j i->s j' i->j=j')
  (hz:zb.Le z2) (hz2:z2.In w') (hzn:∀k,z2.F k->zb.F k\/((w.heap.size<=k\/k∈Bs1)/\z'.F k)):HR P E Bs F0 w0 w' z2 g2 H2:=by
 have hlt:∀j o k,Hb j=some o->fpO g j o k->k<w.heap.size:=λj o k h hk=>(hb.hold j o h).lt hk
 have hfar:∀j o k,j∉I->Hb j=some o->fpO g j o k->k∉Bs1:=λj o k hj h hk hkB=>by
  obtain⟨id,o',h1,h2,h3⟩:=hB k hkB;exact hb.apart j id o o' k (λe=>hj (e▸h1)) h h2 hk h3
 have hle:∀j o k,Hb j=some o->(fpO g2 j o k↔fpO g j o k):=λj o k h=>eh_ (hb.hold j o h).loc hg
 have new:∀i o1 k,H1 i=some o1->fpO g1 i o1 k->w.heap.size<=k\/k∈Bs1:=λi o1 k h2 h3=>hx.own i o1 k h2 h3
 refine⟨⟨hb.chg.grow.trans hx.chg.grow,λk hk hn => ?_⟩,λj o h => ?_,λj o k h hk => ?_,λj j' o p k hj h h' hk hk' => ?_,hz2,λk hk => ?_,λj o k h hk hzk => ?_,hb.gl.le hz⟩
 .rw[hx.chg.block k (Nat.lt_of_lt_of_le hk hb.size) λhkB => ?_]
  .exact hb.chg.block k hk hn
  .obtain⟨id,o',h1,h2,h3⟩:=hB k hkB;rcases hb.own id o' k h2 h3 with h4|h4
   .omega
   .exact hn h4
 .rcases hH j o h with⟨i,o1,h1,h2,h9⟩|⟨h1,h2⟩
  .exact h9.1
  .exact(hb.hold j o h2).keep hz hg λk hk=>hx.chg.block k (hlt j o k h2 hk) (hfar j o k h1 h2 hk)
 .rcases hH j o h with⟨i,o1,h1,h2,h9⟩|⟨h1,h2⟩
  .rcases new i o1 k h2 ((h9.2 k).1 hk)with h3|h3
   .exact .inl (Nat.le_trans hb.size h3)
   .obtain⟨id,o',h4,h5,h6⟩:=hB k h3;exact hb.own id o' k h5 h6
  .exact hb.own j o k h2 ((hle j o k h2).1 hk)
 .rcases hH j o h with⟨i,o1,h1,h2,h9⟩|⟨h1,h2⟩<;>rcases hH j' p h' with⟨i',o1',h1',h2',h9'⟩|⟨h1',h2'⟩
  .refine hx.apart i i' o1 o1' k (λe=>hj (hs j j' i h1 (e▸h1'))) h2 h2' ((h9.2 k).1 hk) ((h9'.2 k).1 hk')
  .have hk':=(hle j' p k h2').1 hk';rcases new i o1 k h2 ((h9.2 k).1 hk)with h3|h3
   .have:=hlt j' p k h2' hk';omega
   .exact hfar j' p k h1' h2' hk' h3
  .have hk:=(hle j o k h2).1 hk;rcases new i' o1' k h2' ((h9'.2 k).1 hk')with h3|h3
   .have:=hlt j o k h2 hk;omega
   .exact hfar j o k h1 h2 hk h3
  .exact hb.apart j j' o p k hj h2 h2' ((hle j o k h2).1 hk) ((hle j' p k h2').1 hk')
 .rcases hzn k hk with h1|⟨h1|h1,_⟩
  .exact hb.fz0 k h1
  .exact .inr (.inl (Nat.le_trans hb.size h1))
  .obtain⟨id,o',_,h5,h6⟩:=hB k h1;exact .inr (hb.own id o' k h5 h6)
 .rcases hH j o h with⟨i,o1,h1,h2,h9⟩|⟨h1,h2⟩
  .rcases hzn k hzk with h3|⟨_,h3⟩
   .rcases new i o1 k h2 ((h9.2 k).1 hk)with h4|h4
    .have:=(hb.fz k h3).1;omega
    .obtain⟨id,o',_,h6,h7⟩:=hB k h4;exact hb.fza id o' k h6 h7 h3
   .exact hx.fza i o1 k h2 ((h9.2 k).1 hk) h3
  .have hk:=(hle j o k h2).1 hk;rcases hzn k hzk with h3|⟨h3|h3,_⟩
   .exact hb.fza j o k h2 hk h3
   .have:=hlt j o k h2 hk;omega
   .exact hfar j o k h1 h2 hk h3
theorem HR.back{zb z2:Fz}{g1 g2:Ga}{Hb H1 H2:Nat->Option (Obj E)}{Bs1:List Nat}{Fe:Nat->Prop}{I:List Nat}{s:Nat->Nat->Prop}(hb:HR P E Bs F0 w0 w zb g Hb)(hx:HR P E Bs1 Fe w w' z' g1 H1)
  (hB:∀k,k∈Bs1->∃id o,id∈I/\Hb id=some o/\fpO g id o k) (hg:g.Le g2)
  (hH:∀j o,H2 j=some o->(∃i,s j i/\H1 i=some o)\/(j∉I/\Hb j=some o)) (hs:∀j j' i,s j i->s j' i->j=j')
  (hT:∀j i o,s j i->H1 i=some o->ObjR P E z2 g2 w' j o/\∀k,fpO g2 j o k↔fpO g1 i o k)
  (hz:zb.Le z2) (hz2:z2.In w') (hzn:∀k,z2.F k->zb.F k\/((w.heap.size<=k\/k∈Bs1)/\z'.F k)):HR P E Bs F0 w0 w' z2 g2 H2 :=
 hb.back2 hx hB hg (λj o h=>(hH j o h).imp (λ⟨i,h1,h2⟩=>⟨i,o,h1,h2,hT j i o h1 h2⟩) id) hs hz hz2 hzn
def dn_ (E:TE) (H:Nat->Option (Obj E)):List Nat->Chs E
 | []=>[]
 | id::ids=>(match upH H (dn_ E H ids) id with
  | some (.box T cs)=>match E.ty T with
   | some t=>match aN_ E (upH H (dn_ E H ids)) (E.flat t) cs with
    | some h=>[(id,some (.fb t (E.ufl t h)))]
    | none=>[]
   | none=>[]
  | _=>[])++dn_ E H ids
theorem il_(h:HR P E Bs F0 w0 w z g H):∀(l:List Nat),∃z',z.Le z'/\HR P E Bs F0 w0 w z' g (upH H (dn_ E H l))
 | []=>⟨z,Fz.Le.refl z,h⟩
 | id :: l=>by
  obtain⟨z1,h1,h2⟩:=il_ h l;unfold dn_;split
  .rename_i T cs hi;split
   .rename_i t ht;split
    .rename_i hd hh;refine⟨_,h1.trans (h2.fz.grow_le _),h2.freezeBox (t:=t) (x:=E.ufl t hd) hi (λvs hvs => ?_) λj q hj => ?_⟩
     .rw[E.fl_ufl];exact bI_ h2 hh hvs
     .rw[←ao_]at hj;exact ax_ hj
    .exact⟨z1,h1,h2⟩
   .exact⟨z1,h1,h2⟩
  .exact⟨z1,h1,h2⟩
def unM:Mk->List (SC E)->List (SC E)|some _::ms,_::cs=>unM ms cs|none::ms,c::cs=>c::unM ms cs | [],cs=>cs|_,[]=>[]
def frzF(E:TE)(H:Nat->Option (Obj E)):List (SC E)->Chs E | [.clo _ ids]=>dn_ E H ids | [.ptr id 0]=>dn_ E H [id]|_=>[]
def frzB(E:TE)(H:Nat->Option (Obj E))(m:Mk):List (SC E)->Chs E
 | [.ptr id 0]=>match H id with
  | some (.box _ (.ptr _ _::cs))=>bR_ H (unM m cs)
  | some (.box _ cs)=>bR_ H (unM m cs)
  | _=>[]
 | _=>[]
def frzQ(E:TE)(H:Nat->Option (Obj E)):Pm->V1 E->Chs E | .d _,x=>bR_ H x.cs | .l _ m,x=>bR_ H (unM m x.cs) | .g _ m,x=>bR_ H (unM m x.cs) | .b _ _,_=>[] | .bm _ _ m _,x=>frzB E H m x.cs | .mp _ _ _,_=>[]|_,x=>frzF E H x.cs
def hidX(H:Nat->Option (Obj E))(px:Bool)(id:Nat):List (V1 E):=match px,H id with|true,some (.box _ (.ptr id2 0::_))=>[.one (.ptr id2 0)]|_,_=>[]
def hidP(H:Nat->Option (Obj E))(p:Pm)(ps:List Pm)(x:V1 E):List (V1 E):=match p,x with | .bm _ _ _ px,.one (.ptr id 0)=>hidX H (pxB px ps) id|_,_=>[]
def frzP(E:TE)(H:Nat->Option (Obj E)):List Pm->List (V1 E)->Chs E|p::ps,x::xs=>frzQ E (upH H (frzP E H ps (hidP H p ps x++xs))) p x++frzP E H ps (hidP H p ps x++xs)|_,_=>[]
theorem frzF_ok(h:HR P E Bs F0 w0 w z g H)(l:List (SC E)):∃z',z.Le z'/\HR P E Bs F0 w0 w z' g (upH H (frzF E H l)):=by
 unfold frzF;split
 .exact il_ h _
 .exact il_ h _
 .exact⟨z,Fz.Le.refl z,h⟩
theorem frzB_ok(h:HR P E Bs F0 w0 w z g H)(m:Mk)(l:List (SC E)):∃z',z.Le z'/\HR P E Bs F0 w0 w z' g (upH H (frzB E H m l)):=by
 unfold frzB;split
 .split
  .exact bB_ h _
  .exact bB_ h _
  .exact⟨z,Fz.Le.refl z,h⟩
 .exact⟨z,Fz.Le.refl z,h⟩
theorem frzQ_ok(h:HR P E Bs F0 w0 w z g H)(p:Pm)(x:V1 E):∃z',z.Le z'/\HR P E Bs F0 w0 w z' g (upH H (frzQ E H p x)):=by
 cases p with
 | d t=>exact bB_ h _
 | l t m=>exact bB_ h _
 | g t m=>exact bB_ h _
 | b T t=>exact⟨z,Fz.Le.refl z,h⟩
 | bm T t m px=>exact frzB_ok h _ _
 | mp T k v=>exact⟨z,Fz.Le.refl z,h⟩
 | p t=>exact frzF_ok h _
 | f1 a r=>exact frzF_ok h _
 | f2 a b r=>exact frzF_ok h _
theorem frzP_ok(h:HR P E Bs F0 w0 w z g H):∀(ps:List Pm) (xs:List (V1 E)),∃z',z.Le z'/\HR P E Bs F0 w0 w z' g (upH H (frzP E H ps xs))
 | [],_=>⟨z,Fz.Le.refl z,h⟩
 | _::_,[]=>⟨z,Fz.Le.refl z,h⟩
 | p::ps,x::xs=>by
  obtain⟨z1,h1,h2⟩:=frzP_ok h ps (hidP H p ps x++xs);obtain⟨z2,h3,h4⟩:=frzQ_ok h2 p x;rw[ao_]at h4;exact⟨z2,h1.trans h3,h4⟩
def OnlyF(u:Chs E):Prop:=∀i o,(i,o)∈u->(∃t xs,o=some (.fr t xs))\/∃t x,o=some (.fb t x)
theorem OnlyF.append{u v:Chs E}(h:OnlyF u)(h':OnlyF v):OnlyF (u++v):=λi o hm=>by
 rcases List.mem_append.1 hm with hm|hm
 .exact h i o hm
 .exact h' i o hm
theorem frz1_only(H:Nat->Option (Obj E))(c:SC E):OnlyF (frz1 H c):=by
 unfold frz1;split
 .split
  .intro i o hm;simp only[List.mem_singleton,Prod.mk.injEq]at hm;exact .inl ⟨_,_,hm.2⟩
  .intro i o hm;cases hm
 .split
  .intro i o hm;simp only[List.mem_singleton,Prod.mk.injEq]at hm;exact .inl ⟨_,_,hm.2⟩
  .intro i o hm;cases hm
 .intro i o hm;cases hm
theorem ea_(H:Nat->Option (Obj E)):∀(l:List (SC E)),OnlyF (bR_ H l)
 | []=>λi o hm=>by cases hm
 | c::l=>(frz1_only _ c).append (ea_ H l)
theorem f5_(H:Nat->Option (Obj E)):∀(l:List Nat),OnlyF (dn_ E H l)
 | []=>λi o hm=>by cases hm
 | id::l=>by
  unfold dn_;refine OnlyF.append ?_ (f5_ H l);split
  .split
   .split
    .intro i o hm;simp only[List.mem_singleton,Prod.mk.injEq]at hm;exact .inr ⟨_,_,hm.2⟩
    .intro i o hm;cases hm
   .intro i o hm;cases hm
  .intro i o hm;cases hm
theorem jL_(H:Nat->Option (Obj E))(l:List (SC E)):OnlyF (frzF E H l):=by
 unfold frzF;split
 .exact f5_ H _
 .exact f5_ H _
 .intro i o hm;cases hm
theorem frzB_only(H:Nat->Option (Obj E))(m:Mk)(l:List (SC E)):OnlyF (frzB E H m l):=by
 unfold frzB;split
 .split
  .exact ea_ H _
  .exact ea_ H _
  .intro i o hm;cases hm
 .intro i o hm;cases hm
theorem frzP_only(H:Nat->Option (Obj E)):∀(ps:List Pm) (xs:List (V1 E)),OnlyF (frzP E H ps xs)
 | [],_=>λi o hm=>by simp[frzP]at hm
 | _::_,[]=>λi o hm=>by simp[frzP]at hm
 | p::ps,x::xs=>by
  refine OnlyF.append ?_ (frzP_only H ps (hidP H p ps x++xs));cases p with
  | d t=>exact ea_ _ _
  | l t m=>exact ea_ _ _
  | g t m=>exact ea_ _ _
  | b T t=>intro i o hm;cases hm
  | bm T t m px=>exact frzB_only _ _ _
  | mp T k v=>intro i o hm;cases hm
  | p t=>exact jL_ _ _
  | f1 a r=>exact jL_ _ _
  | f2 a b r=>exact jL_ _ _
theorem upH_or{i:Nat}{o:Obj E}:∀{u:Chs E},upH H u i=some o->H i=some o\/(i,some o)∈u
 | [],h => .inl h
 | (j,p)::u,h=>by
  simp only[upH]at h;split at h
  .rename_i hb;obtain rfl:=qNb hb;subst h;exact .inr (List.mem_cons_self ..)
  .rcases upH_or h with h|h
   .exact .inl h
   .exact .inr (List.mem_cons_of_mem _ h)
theorem RD.flat:∀{ts:List Ty} {h:HL E.S ts} {vs:List Value},ts.all Ty.flatB=true->RD E z ts h vs->RD E z' ts h vs
 | [],h,vs,_,r=>by rw[r.nil_inv];exact .nil
 | .int k::ts,h,vs,hf,r=>by
  obtain⟨vs',rfl,r'⟩:=r.int_inv;exact .int (RD.flat (by simpa[Ty.flatB]using hf) r')
 | .bool::ts,h,vs,hf,r=>by
  obtain⟨vs',rfl,r'⟩:=r.bool_inv;exact .bool (RD.flat (by simpa[Ty.flatB]using hf) r')
 | .str::ts,h,vs,hf,r=>by
  obtain⟨vs',rfl,r'⟩:=r.str_inv;exact .str (RD.flat (by simpa[Ty.flatB]using hf) r')
 | .sl e::ts,h,vs,hf,r=>by simp[Ty.flatB]at hf
 | .st n::ts,h,vs,hf,r=>by simp[Ty.flatB]at hf
def flatT(E:TE)(t:Ty):Bool:=(E.flat t).all Ty.flatB
theorem Rows.flat{t:Ty}{xs:List (Den E.S t)}{rows:List (List Value)}(hf:flatT E t=true)(h:Rows E z t xs rows):Rows E z' t xs rows:=λi x r h1 h2=>(h i x r h1 h2).flat hf
def do_(E:TE):Mk->List Ty->Bool|some _::ms,.sl t::ts=>flatT E t&&do_ E ms ts|none::ms,t::ts=>t.flatB&&do_ E ms ts|_,ts=>ts.all Ty.flatB
def fH_(E:TE):Mk->List Ty->Bool|some _::ms,.sl t::ts=>flatT E t&&fH_ E ms ts|none::ms,_::ts=>fH_ E ms ts|_,_=>true
def em_(E:TE):Rs->Bool | []=>true|p::rs=>do_ E p.2 (E.flat p.1)&&em_ E rs
def cv_(E:TE):List Pm->Bool | []=>true | .l t m::ps=>fH_ E m (E.flat t)&&cv_ E ps | .g _ _::ps=>cv_ E ps | .b _ t::ps=>flatT E t&&cv_ E ps | .bm _ t m _::ps=>do_ E m (E.flat t)&&cv_ E ps|_::ps=>cv_ E ps
theorem flatM_O:∀{m:Mk} {ts:List Ty},do_ E m ts=true->fH_ E m ts=true:=by
 intro m
 induction m with
 | nil=>intro ts _;cases ts<;>rfl
 | cons a m ih =>
  intro ts h;cases ts with
  | nil=>cases a<;>rfl
  | cons t ts =>
   cases a with
   | none=>simp only[do_,qAn]at h;simp only[fH_];exact ih h.2
   | some e =>
    cases t with
    | sl t=>simp only[do_,qAn]at h;simp only[fH_,qAn];exact⟨h.1,ih h.2⟩
    | _=>rfl
def FlatC:SC E->Prop | .dt t _=>t.flatB=true | .own _=>True | .ptr _ _=>True|_=>False
def eL_(E:TE):Obj E->Prop | .row _ t _ foc=>flatT E t=true/\foc=[] | .map _ _ _ _ _ foc=>foc=[] | .box _ cs=>∀c∈cs,FlatC c|_=>False
theorem in_:∀{ts:List Ty} {h:HL E.S ts},ts.all Ty.flatB=true->∀c∈hlc E ts h,FlatC c
 | [],_,_,_,hc=>by cases hc
 | t::ts,h,hf,c,hc=>by
  simp only[List.all_cons,qAn]at hf;simp only[hlc]at hc;rcases List.mem_cons.1 hc with rfl|hc
  .exact hf.1
  .exact in_ hf.2 c hc
theorem ownC_flat{m:Mk}:∀{ts:List Ty} {h:HL E.S ts} {n:Nat},do_ E m ts=true->∀c∈aE_ E m ts h n,FlatC c:=by
 induction m with
 | nil=>intro ts h n hf;cases ts<;>exact in_ hf
 | cons a m ih =>
  intro ts h n hf;cases ts with
  | nil=>cases a<;>(intro c hc;cases hc)
  | cons t ts =>
   cases a with
   | none =>
    simp only[do_,qAn]at hf;intro c hc;simp only[aE_]at hc;rcases List.mem_cons.1 hc with rfl|hc
    .exact hf.1
    .exact ih hf.2 c hc
   | some e =>
    cases t with
    | sl t =>
     simp only[do_,qAn]at hf;intro c hc;simp only[aE_]at hc;rcases List.mem_cons.1 hc with rfl|hc
     .trivial
     .exact ih hf.2 c hc
    | _=>exact in_ hf
theorem jM_{m:Mk}:∀{ts:List Ty} {h:HL E.S ts} {n:Nat},fH_ E m ts=true->∀i o,(i,o)∈av_ E m ts h n->∃p,o=some p/\eL_ E p:=by
 induction m with
 | nil=>intro ts h n _ i o ho;cases ts<;>simp[av_]at ho
 | cons a m ih =>
  intro ts h n hf i o ho;cases ts with
  | nil=>cases a<;>simp[av_]at ho
  | cons t ts =>
   cases a with
   | none=>simp only[fH_]at hf;simp only[av_]at ho;exact ih hf i o ho
   | some e =>
    cases t with
    | sl t =>
     simp only[fH_,qAn]at hf;simp only[av_,List.mem_cons,Prod.mk.injEq]at ho;rcases ho with⟨rfl,rfl⟩|ho
     .exact⟨_,rfl,hf.1,rfl⟩
     .exact ih hf.2 i o ho
    | _=>simp[av_]at ho
theorem jN_:∀{rs:Rs} {h:HL E.S rs.ts} {n:Nat},em_ E rs=true->∀i o,(i,o)∈ba_ E rs h n->∃p,o=some p/\eL_ E p
 | [],h,n,_,i,o,ho=>by simp[ba_]at ho
 | (t,m)::rs,h,n,hf,i,o,ho=>by
  simp only[em_,qAn]at hf;simp only[ba_,List.mem_append]at ho;rcases ho with ho|ho
  .exact jM_ (flatM_O hf.1) i o ho
  .exact jN_ hf.2 i o ho
theorem bb_:∀{ps:List Pm} {a:PA E ps} {n k:Nat},cv_ E ps=true->∀i o,(i,o)∈ar_ E ps a n k->∃p,o=some p/\eL_ E p
 | [],a,n,k,_,i,o,ho=>by simp[ar_]at ho
 | .l t m::ps,a,n,k,hf,i,o,ho=>by
  simp only[cv_,qAn]at hf;simp only[ar_,List.mem_append]at ho;rcases ho with ho|ho
  .exact jM_ hf.1 i o ho
  .exact bb_ hf.2 i o ho
 | .b T t::ps,a,n,k,hf,i,o,ho=>by
  simp only[cv_,qAn]at hf;simp only[ar_,List.mem_cons,Prod.mk.injEq]at ho;rcases ho with⟨rfl,rfl⟩|ho
  .exact⟨_,rfl,in_ hf.1⟩
  .exact bb_ hf.2 i o ho
 | .bm T t m px::ps,a,n,k,hf,i,o,ho=>by
  simp only[cv_,qAn]at hf;simp only[ar_,List.mem_cons,List.mem_append,Prod.mk.injEq]at ho;rcases ho with⟨rfl,rfl⟩|ho|ho
  .refine⟨_,rfl,λc hc => ?_⟩;rcases List.mem_append.1 hc with hc|hc
   .cases hx:pxB px ps<;>rw[hx]at hc
    .cases hc
    .obtain rfl:=List.mem_singleton.1 hc
     trivial
   .exact ownC_flat hf.1 c hc
  .exact jM_ (flatM_O hf.1) i o ho
  .exact bb_ hf.2 i o ho
 | .g t m::ps,a,n,k,hf,i,o,ho=>bb_ (ps:=ps) (a:=a.2) hf i o ho
 | .mp T kt v::ps,a,n,k,hf,i,o,ho=>by
  simp only[ar_,List.mem_cons,Prod.mk.injEq]at ho;rcases ho with⟨rfl,rfl⟩|ho
  .exact⟨_,rfl,rfl⟩
  .exact bb_ (ps:=ps) hf i o ho
 | .d t::ps,a,n,k,hf,i,o,ho=>bb_ (ps:=ps) (a:=a.2) hf i o ho
 | .p t::ps,a,n,k,hf,i,o,ho=>bb_ (ps:=ps) (a:=a.2) hf i o ho
 | .f1 x r::ps,a,n,k,hf,i,o,ho=>bb_ (ps:=ps) (a:=a.2) hf i o ho
 | .f2 x y r::ps,a,n,k,hf,i,o,ho=>bb_ (ps:=ps) (a:=a.2) hf i o ho
def PlainC(K:Nat->Prop):SC E->Prop | .dt _ _=>True | .own id=>K id | .ptr id _=>K id|_=>False
theorem gP_{K:Nat->Prop}:∀{ts:List Ty} {h:HL E.S ts},∀c∈hlc E ts h,PlainC K c
 | [],_,_,hc=>by cases hc
 | t::ts,h,c,hc=>by
  simp only[hlc]at hc;rcases List.mem_cons.1 hc with rfl|hc
  .trivial
  .exact gP_ c hc
theorem ownC_plain{K:Nat->Prop}{m:Mk}:∀{ts:List Ty} {h:HL E.S ts} {n:Nat},(∀i,i<am_ m ts->K (n+i))->∀c∈aE_ E m ts h n,PlainC K c:=by
 induction m with
 | nil=>intro ts h n _;cases ts<;>exact gP_
 | cons a m ih =>
  intro ts h n hK;cases ts with
  | nil=>cases a<;>(intro c hc;cases hc)
  | cons t ts =>
   cases a with
   | none =>
    intro c hc;simp only[aE_]at hc;rcases List.mem_cons.1 hc with rfl|hc
    .trivial
    .exact ih hK c hc
   | some e =>
    cases t with
    | sl t =>
     intro c hc;simp only[aE_]at hc;rcases List.mem_cons.1 hc with rfl|hc
     .exact hK 0 (by simp only[am_];omega)
     .refine ih (n:=n+1) (λi hi => ?_) c hc;have:=hK (i+1) (by simp only[am_];omega)
      rwa [show n+1+i=n+(i+1)by omega]
    | _=>exact gP_
theorem RC.ren{K:Nat->Prop}{s:Nat->Nat}{c:SC E}{v:Value}(hp:PlainC K c)(hK:∀i l,K i->g i=some l->g' (s i)=some l)(hz:z=z'\/FlatC c)(h:RC P E z g c v):RC P E z' g' (SC.ren s c) v:=by
 cases c with
 | dt t x =>
  rcases hz with rfl|hz
  .exact h
  .exact RD.flat (ts:=[t]) (by simpa[FlatC]using hz) h
 | own id =>
  obtain⟨l,h1,h2⟩:=h;exact⟨l,hK id l hp h1,h2⟩
 | ptr id off =>
  obtain⟨l,h1,h2⟩:=h;exact⟨l,hK id l hp h1,h2⟩
 | _=>exact hp.elim
theorem RCs.ren{K:Nat->Prop}{s:Nat->Nat}(hK:∀i l,K i->g i=some l->g' (s i)=some l):∀{cs:List (SC E)} {vs:List Value},(∀c∈cs,PlainC K c)->(z=z'\/∀c∈cs,FlatC c)->All2 (RC P E z g) cs vs->All2 (RC P E z' g') (cs.map (SC.ren s)) vs
 | [],_,_,_,h=>by cases h;exact .nil
 | c::cs,_,hp,hz,h=>by
  cases h with
  | cons h1 h2=>exact .cons (h1.ren (hp c (List.mem_cons_self ..)) hK (hz.imp id λf=>f c (List.mem_cons_self ..))) (RCs.ren hK (λd hd=>hp d (List.mem_cons_of_mem _ hd)) (hz.imp id λf d hd=>f d (List.mem_cons_of_mem _ hd)) h2)
def Plain(E:TE)(K:Nat->Prop):Obj E->Prop | .row _ _ _ foc=>foc=[] | .map _ _ _ _ _ foc=>foc=[] | .box _ cs=>∀c∈cs,PlainC K c|_=>False
theorem ObjR.move2{K:Nat->Prop}{s:Nat->Nat}{i j:Nat}{o:Obj E}(hp:Plain E K o)(hK:∀i l,K i->g i=some l->g' (s i)=some l)(hz:z=z'\/eL_ E o)(hg:g' j=g i)(h:ObjR P E z g w i o):ObjR P E z' g' w j (Obj.ren s o)/\∀k,fpO g' j (Obj.ren s o) k↔fpO g i o k:=by
 cases o with
 | row e t xs foc =>
  simp only[Plain]at hp;subst hp;obtain⟨l,rows,h1,hn,hc,h2,h3,h4,h5,_⟩:=h;refine⟨⟨l,rows,by rw[hg];exact h1,hn,hc,h2,h3,h4,?_,λp hp=>nomatch hp⟩,λk=>by simp only[Obj.ren,fpO,hg]⟩;rcases hz with rfl|hz
  .exact h5
  .exact h5.flat hz.1
 | box T cs =>
  obtain⟨l,vs,h1,h2,h3⟩:=h;exact⟨⟨l,vs,by rw[hg];exact h1,h2,RCs.ren hK hp hz h3⟩,λk=>by simp only[Obj.ren,fpO,hg]⟩
 | fr t xs=>exact hp.elim
 | fb t x=>exact hp.elim
 | map T k v ks vs foc =>
  simp only[Plain]at hp;subst hp;obtain⟨l,es,c,h1,h2,h3,_⟩:=h;exact⟨⟨l,es,c,by rw[hg];exact h1,h2,h3,λp hp=>nomatch hp⟩,λk=>by simp only[Obj.ren,fpO,hg]⟩
theorem Plain.mono{K K':Nat->Prop}{o:Obj E}(hK:∀j,K j->K' j)(h:Plain E K o):Plain E K' o:=by
 cases o with
 | box T cs =>
  intro c hc;have:=h c hc;cases c with
  | own id=>exact hK _ this
  | ptr id off=>exact hK _ this
  | _=>exact this
 | _=>exact h
theorem pxB_cnt{px:Bool}{ps:List Pm}(h:pxB px ps=true):0<ai_ E ps:=by
 unfold pxB at h;split at h
 .simp only[ai_];omega
 .simp only[ai_];omega
 .cases h
theorem SC.ren_id(c:SC E):SC.ren (λi=>i) c=c:=by cases c<;>rfl
theorem Obj.ren_id(o:Obj E):Obj.ren (λi=>i) o=o:=by
 cases o with
 | box T cs =>
  have:cs.map (SC.ren λi=>i)=cs:=by
   induction cs with
   | nil=>rfl
   | cons c cs ih=>rw[List.map_cons,ih,SC.ren_id]
  simp only[Obj.ren,this]
 | _=>rfl
theorem ObjR.move{K:Nat->Prop}{i:Nat}{o:Obj E}(hp:Plain E K o)(hK:∀i l,K i->g i=some l->g' i=some l)(hz:z=z'\/eL_ E o)(hg:g' i=g i)(h:ObjR P E z g w i o):ObjR P E z' g' w i o/\∀k,fpO g' i o k↔fpO g i o k:=by
 have:=h.move2 (s:=λi=>i) (j:=i) hp hK hz hg
 rwa [Obj.ren_id]at this
theorem az_{m:Mk}:∀{ts:List Ty} {h:HL E.S ts} {n:Nat},∀i o,(i,o)∈av_ E m ts h n->∃p,o=some p/\(∀K,Plain E K p)/\n<=i/\i<n+am_ m ts:=by
 induction m with
 | nil=>intro ts h n i o ho;cases ts<;>simp[av_]at ho
 | cons a m ih =>
  intro ts h n i o ho;cases ts with
  | nil=>cases a<;>simp[av_]at ho
  | cons t ts =>
   cases a with
   | none=>simp only[av_]at ho;simp only[am_];exact ih i o ho
   | some e =>
    cases t with
    | sl t =>
     simp only[av_,List.mem_cons,Prod.mk.injEq]at ho;simp only[am_];rcases ho with⟨rfl,rfl⟩|ho
     .exact⟨_,rfl,λ_=>rfl,Nat.le_refl _,by omega⟩
     .obtain⟨p,h1,h2,h3,h4⟩:=ih i o ho;exact⟨p,h1,h2,by omega,by omega⟩
    | _=>simp[av_]at ho
theorem cG_:∀{rs:Rs} {h:HL E.S rs.ts} {n:Nat},∀i o,(i,o)∈ba_ E rs h n->∃p,o=some p/\(∀K,Plain E K p)/\n<=i/\i<n+aW_ E rs
 | [],h,n,i,o,ho=>by simp[ba_]at ho
 | (t,m)::rs,h,n,i,o,ho=>by
  simp only[ba_,List.mem_append]at ho;simp only[aW_];rcases ho with ho|ho
  .obtain⟨p,h1,h2,h3,h4⟩:=az_ i o ho;exact⟨p,h1,h2,h3,by omega⟩
  .obtain⟨p,h1,h2,h3,h4⟩:=cG_ i o ho;exact⟨p,h1,h2,by omega,by omega⟩
theorem aO_:∀{ps:List Pm} {a:PA E ps} {n:Nat},∀i o,(i,o)∈ay_ E ps a n->n<=i/\i<n+ai_ E ps
 | [],a,n,i,o,ho=>by simp[ay_]at ho
 | .l t m::ps,a,n,i,o,ho=>by
  simp only[ay_,List.mem_append]at ho;simp only[ai_];rcases ho with ho|ho
  .obtain⟨p,h1,h2,h3,h4⟩:=az_ i o ho;omega
  .have:=aO_ (ps:=ps) (a:=a.2) i o ho;omega
 | .g t m::ps,a,n,i,o,ho=>by
  simp only[ay_,List.mem_append]at ho;simp only[ai_];rcases ho with ho|ho
  .obtain⟨p,h1,h2,h3,h4⟩:=az_ i o ho;omega
  .have:=aO_ (ps:=ps) (a:=a.2) i o ho;omega
 | .b T t::ps,a,n,i,o,ho=>by
  simp only[ay_,List.mem_cons,Prod.mk.injEq]at ho;simp only[ai_];rcases ho with⟨rfl,rfl⟩|ho
  .omega
  .have:=aO_ (ps:=ps) (a:=a.2) i o ho;omega
 | .bm T t m px::ps,a,n,i,o,ho=>by
  simp only[ay_,List.mem_cons,List.mem_append,Prod.mk.injEq]at ho;simp only[ai_];rcases ho with⟨rfl,rfl⟩|ho|ho
  .omega
  .obtain⟨p,h1,h2,h3,h4⟩:=az_ i o ho;omega
  .have:=aO_ (ps:=ps) (a:=a.2) i o ho;omega
 | .mp T k v::ps,a,n,i,o,ho=>by
  simp only[ay_,List.mem_cons,Prod.mk.injEq]at ho;simp only[ai_];rcases ho with⟨rfl,rfl⟩|ho
  .omega
  .have:=aO_ (ps:=ps) (a:=a.2) i o ho;omega
 | .d t::ps,a,n,i,o,ho=>aO_ (ps:=ps) (a:=a.2) i o ho
 | .p t::ps,a,n,i,o,ho=>aO_ (ps:=ps) (a:=a.2) i o ho
 | .f1 x r::ps,a,n,i,o,ho=>aO_ (ps:=ps) (a:=a.2) i o ho
 | .f2 x y r::ps,a,n,i,o,ho=>aO_ (ps:=ps) (a:=a.2) i o ho
theorem aQ_:∀{ps:List Pm} {a:PA E ps} {n k:Nat},∀i o,(i,o)∈ar_ E ps a n k->∃p,o=some p/\Plain E (λj=>(k<=j/\j<k+bl_ E ps)\/(n<=j/\j<n+ai_ E ps)) p/\((n<=i/\i<n+ai_ E ps)\/(k<=i/\i<k+bl_ E ps))
 | [],a,n,k,i,o,ho=>by simp[ar_]at ho
 | .l t m::ps,a,n,k,i,o,ho=>by
  simp only[ar_,List.mem_append]at ho;simp only[ai_,bl_];rcases ho with ho|ho
  .obtain⟨p,h1,h2,h3,h4⟩:=az_ i o ho;exact⟨p,h1,h2 _,by omega⟩
  .obtain⟨p,h1,h2,h3⟩:=aQ_ (ps:=ps) (a:=a.2) i o ho;exact⟨p,h1,h2.mono (λj hj=>by omega),by omega⟩
 | .g t m::ps,a,n,k,i,o,ho=>by
  obtain⟨p,h1,h2,h3⟩:=aQ_ (ps:=ps) (a:=a.2) i o ho;simp only[ai_,bl_];exact⟨p,h1,h2.mono (λj hj=>by omega),by omega⟩
 | .b T t::ps,a,n,k,i,o,ho=>by
  simp only[ar_,List.mem_cons,Prod.mk.injEq]at ho;simp only[ai_,bl_];rcases ho with⟨rfl,rfl⟩|ho
  .exact⟨_,rfl,gP_,by omega⟩
  .obtain⟨p,h1,h2,h3⟩:=aQ_ (ps:=ps) (a:=a.2) i o ho;exact⟨p,h1,h2.mono (λj hj=>by omega),by omega⟩
 | .bm T t m px::ps,a,n,k,i,o,ho=>by
  simp only[ar_,List.mem_cons,List.mem_append,Prod.mk.injEq]at ho;simp only[ai_,bl_];rcases ho with⟨rfl,rfl⟩|ho|ho
  .refine⟨_,rfl,λc hc => ?_,by omega⟩;rcases List.mem_append.1 hc with hc|hc
   .cases hx:pxB px ps<;>rw[hx]at hc
    .cases hc
    .obtain rfl:=List.mem_singleton.1 hc;have:=pxB_cnt (E:=E) hx;exact .inr ⟨by omega,by omega⟩
   .exact ownC_plain (K:=λj=>(k<=j/\j<k+(am_ m (E.flat t)+bl_ E ps))\/_) (λj hj => .inl ⟨by omega,by omega⟩) c hc
  .obtain⟨p,h1,h2,h3,h4⟩:=az_ i o ho;exact⟨p,h1,h2 _,by omega⟩
  .obtain⟨p,h1,h2,h3⟩:=aQ_ (ps:=ps) (a:=a.2) i o ho;refine⟨p,h1,?_,by omega⟩;exact Plain.mono (λj hj=>by omega) h2
 | .mp T kt v::ps,a,n,k,i,o,ho=>by
  simp only[ar_,List.mem_cons,Prod.mk.injEq]at ho;simp only[ai_,bl_];rcases ho with⟨rfl,rfl⟩|ho
  .exact⟨_,rfl,rfl,by omega⟩
  .obtain⟨p,h1,h2,h3⟩:=aQ_ (ps:=ps) (a:=a.2) i o ho;exact⟨p,h1,h2.mono (λj hj=>by omega),by omega⟩
 | .d t::ps,a,n,k,i,o,ho=>aQ_ (ps:=ps) (a:=a.2) i o ho
 | .p t::ps,a,n,k,i,o,ho=>aQ_ (ps:=ps) (a:=a.2) i o ho
 | .f1 x r::ps,a,n,k,i,o,ho=>aQ_ (ps:=ps) (a:=a.2) i o ho
 | .f2 x y r::ps,a,n,k,i,o,ho=>aQ_ (ps:=ps) (a:=a.2) i o ho
def UniqK(l:Chs E):Prop:=∀i o o',(i,o)∈l->(i,o')∈l->o=o'
theorem mJ_{i:Nat}{o:Option (Obj E)}:∀{l:Chs E},UniqK l->(i,o)∈l->upH H l i=o
 | [],_,h=>by cases h
 | (j,p)::l,hu,h=>by
  simp only[upH];split
  .rename_i hb;obtain rfl:=qNb hb;exact hu i p o (List.mem_cons_self ..) h
  .rename_i hb;have hne:=bf_ hb;refine mJ_ (λa b c h1 h2=>hu a b c (List.mem_cons_of_mem _ h1) (List.mem_cons_of_mem _ h2)) ?_;rcases List.mem_cons.1 h with h|h
   .simp only[Prod.mk.injEq]at h;exact absurd h.1 hne
   .exact h
theorem UniqK.append{l m:Chs E}(hl:UniqK l)(hm:UniqK m)(hd:∀i o o',(i,o)∈l->(i,o')∈m->False):UniqK (l++m):=λi o o' h h'=>by
 rcases List.mem_append.1 h with h|h<;>rcases List.mem_append.1 h' with h'|h'
 .exact hl i o o' h h'
 .exact(hd i o o' h h').elim
 .exact(hd i o' o h' h).elim
 .exact hm i o o' h h'
theorem eb_{m:Mk}:∀{ts:List Ty} {h:HL E.S ts} {n:Nat},UniqK (av_ E m ts h n):=by
 induction m with
 | nil=>intro ts h n i o o' ho;cases ts<;>simp[av_]at ho
 | cons a m ih =>
  intro ts h n;cases ts with
  | nil=>intro i o o' ho;cases a<;>simp[av_]at ho
  | cons t ts =>
   cases a with
   | none=>simp only[av_];exact ih
   | some e =>
    cases t with
    | sl t =>
     simp only[av_];intro i o o' h1 h2;simp only[List.mem_cons,Prod.mk.injEq]at h1 h2;rcases h1 with⟨rfl,rfl⟩|h1<;>rcases h2 with⟨h2,rfl⟩|h2
     .rfl
     .obtain⟨_,_,_,h3,_⟩:=az_ _ _ h2;omega
     .obtain⟨_,_,_,h3,_⟩:=az_ _ _ h1;omega
     .exact ih i o o' h1 h2
    | _=>intro i o o' ho;simp[av_]at ho
theorem resO_uniq:∀{rs:Rs} {h:HL E.S rs.ts} {n:Nat},UniqK (ba_ E rs h n)
 | [],h,n=>λi o o' ho=>by simp[ba_]at ho
 | (t,m)::rs,h,n=>by
  simp only[ba_];refine UniqK.append eb_ resO_uniq λi o o' h1 h2 => ?_
  obtain⟨_,_,_,_,h3⟩:=az_ _ _ h1;obtain⟨_,_,_,h4,_⟩:=cG_ _ _ h2;omega
theorem bT_:∀{ps:List Pm} {a:PA E ps} {n:Nat},UniqK (ay_ E ps a n)
 | [],a,n=>λi o o' ho=>by simp[ay_]at ho
 | .l t m::ps,a,n=>by
  simp only[ay_];refine UniqK.append eb_ (bT_ (ps:=ps)) λi o o' h1 h2 => ?_
  obtain⟨_,_,_,_,h3⟩:=az_ _ _ h1;have h4:=(aO_ (ps:=ps) _ _ h2).1;omega
 | .g t m::ps,a,n=>by
  simp only[ay_];refine UniqK.append eb_ (bT_ (ps:=ps)) λi o o' h1 h2 => ?_
  obtain⟨_,_,_,_,h3⟩:=az_ _ _ h1;have h4:=(aO_ (ps:=ps) _ _ h2).1;omega
 | .b T t::ps,a,n=>by
  simp only[ay_];intro i o o' h1 h2;simp only[List.mem_cons,Prod.mk.injEq]at h1 h2;rcases h1 with⟨rfl,rfl⟩|h1<;>rcases h2 with⟨h2,rfl⟩|h2
  .rfl
  .have:=(aO_ (ps:=ps) _ _ h2).1;omega
  .have:=(aO_ (ps:=ps) _ _ h1).1;omega
  .exact bT_ (ps:=ps) i o o' h1 h2
 | .bm T t m px::ps,a,n=>by
  simp only[ay_];refine UniqK.append (l:=[(n,some (.box T (ptrC E (pxB px ps) (n+1+am_ m (E.flat t))++aE_ E m (E.flat t) (E.fl t a.1) (n+1))))]) (λi o o' h1 h2 => ?_) (UniqK.append eb_ (bT_ (ps:=ps)) λi o o' h1 h2 => ?_) λi o o' h1 h2 => ?_
  .simp only[List.mem_singleton,Prod.mk.injEq]at h1 h2;rw[h1.2,h2.2]
  .obtain⟨_,_,_,_,h3⟩:=az_ _ _ h1;have:=(aO_ (ps:=ps) _ _ h2).1;omega
  .simp only[List.mem_singleton,Prod.mk.injEq]at h1;rcases List.mem_append.1 h2 with h2|h2
   .obtain⟨_,_,_,h3,_⟩:=az_ _ _ h2;omega
   .have:=(aO_ (ps:=ps) _ _ h2).1;omega
 | .mp T k v::ps,a,n=>by
  simp only[ay_];intro i o o' h1 h2;simp only[List.mem_cons,Prod.mk.injEq]at h1 h2;rcases h1 with⟨rfl,rfl⟩|h1<;>rcases h2 with⟨h2,rfl⟩|h2
  .rfl
  .have:=(aO_ (ps:=ps) _ _ h2).1;omega
  .have:=(aO_ (ps:=ps) _ _ h1).1;omega
  .exact bT_ (ps:=ps) i o o' h1 h2
 | .d t::ps,a,n=>bT_ (ps:=ps) (a:=a.2)
 | .p t::ps,a,n=>bT_ (ps:=ps) (a:=a.2)
 | .f1 x r::ps,a,n=>bT_ (ps:=ps) (a:=a.2)
 | .f2 x y r::ps,a,n=>bT_ (ps:=ps) (a:=a.2)
theorem ownO_shift{m:Mk}:∀{ts:List Ty} {h:HL E.S ts} {n n' d:Nat} {o:Option (Obj E)},(n+d,o)∈av_ E m ts h n->(n'+d,o)∈av_ E m ts h n':=by
 induction m with
 | nil=>intro ts h n n' d o ho;cases ts<;>simp[av_]at ho
 | cons a m ih =>
  intro ts h n n' d o ho;cases ts with
  | nil=>cases a<;>simp[av_]at ho
  | cons t ts =>
   cases a with
   | none=>simp only[av_]at ho ⊢;exact ih ho
   | some e =>
    cases t with
    | sl t =>
     simp only[av_,List.mem_cons,Prod.mk.injEq]at ho ⊢;rcases ho with⟨h1,rfl⟩|ho
     .exact .inl ⟨by omega,rfl⟩
     .right
      obtain⟨_,_,_,h3,_⟩:=az_ _ _ ho;obtain⟨d',rfl⟩:∃d',d=d'+1:=⟨d-1,by omega⟩;rw[show n+(d'+1)=n+1+d' by omega]at ho;rw[show n'+(d'+1)=n'+1+d' by omega];exact ih ho
    | _=>simp[av_]at ho
theorem resO_shift:∀{rs:Rs} {h:HL E.S rs.ts} {n n' d:Nat} {o:Option (Obj E)},(n+d,o)∈ba_ E rs h n->(n'+d,o)∈ba_ E rs h n'
 | [],h,n,n',d,o,ho=>by simp[ba_]at ho
 | (t,m)::rs,h,n,n',d,o,ho=>by
  simp only[ba_,List.mem_append]at ho ⊢;rcases ho with ho|ho
  .exact .inl (ownO_shift ho)
  .right
   obtain⟨_,_,_,h3,_⟩:=cG_ _ _ ho;obtain⟨d',rfl⟩:∃d',d=am_ m (E.flat t)+d':=⟨d-am_ m (E.flat t),by omega⟩;rw[←Nat.add_assoc]at ho ⊢;exact resO_shift ho
theorem ownO_len{m:Mk}:∀{ts:List Ty} {h:HL E.S ts} {n:Nat},(av_ E m ts h n).length=am_ m ts:=by
 induction m with
 | nil=>intro ts h n;cases ts<;>simp[av_,am_]
 | cons a m ih =>
  intro ts h n;cases ts with
  | nil=>cases a<;>simp[av_,am_]
  | cons t ts =>
   cases a with
   | none=>simp only[av_,am_];exact ih
   | some e =>
    cases t with
    | sl t=>simp only[av_,am_,qLc,ih]
    | _=>simp[av_,am_]
theorem resO_len:∀{rs:Rs} {h:HL E.S rs.ts} {n:Nat},(ba_ E rs h n).length=aW_ E rs
 | [],h,n=>rfl
 | (t,m)::rs,h,n=>by simp only[ba_,aW_,qLa,ownO_len,resO_len]
theorem resO_in{rs:Rs}{h:HL E.S rs.ts}{n i:Nat}{o:Option (Obj E)}(ho:(i,o)∈ba_ E rs h n):n<=i/\i<n+aW_ E rs:=by
 obtain⟨_,_,_,h1,h2⟩:=cG_ _ _ ho;exact⟨h1,h2⟩
theorem dV_{ps:List Pm}{a:PA E ps}{n k i:Nat}{o:Option (Obj E)}(ho:(i,o)∈ar_ E ps a n k):(n<=i/\i<n+ai_ E ps)\/(k<=i/\i<k+bl_ E ps):=by
 obtain⟨_,_,_,h1⟩:=aQ_ _ _ ho;exact h1
theorem bp_:∀{ps:List Pm} {a:PA E ps} {n k:Nat},n+ai_ E ps<=k->UniqK (ar_ E ps a n k)
 | [],a,n,k,_=>λi o o' ho=>by simp[ar_]at ho
 | .l t m::ps,a,n,k,hk=>by
  simp only[ai_]at hk;simp only[ar_];refine UniqK.append eb_ (bp_ (ps:=ps) (by omega)) λi o o' h1 h2 => ?_
  obtain⟨_,_,_,_,h3⟩:=az_ _ _ h1;have:=dV_ (ps:=ps) h2;omega
 | .g t m::ps,a,n,k,hk=>by
  simp only[ai_]at hk;exact bp_ (ps:=ps) (a:=a.2) (by omega)
 | .b T t::ps,a,n,k,hk=>by
  simp only[ai_]at hk;simp only[ar_];refine UniqK.append (l:=[(n,some (.box T (E.cells t a.1)))]) (λi o o' h1 h2 => ?_) (bp_ (ps:=ps) (by omega)) λi o o' h1 h2 => ?_
  .simp only[List.mem_singleton,Prod.mk.injEq]at h1 h2;rw[h1.2,h2.2]
  .simp only[List.mem_singleton,Prod.mk.injEq]at h1;have:=dV_ (ps:=ps) h2;omega
 | .bm T t m px::ps,a,n,k,hk=>by
  simp only[ai_]at hk;simp only[ar_];refine UniqK.append (l:=[(n,some (.box T (ptrC E (pxB px ps) (n+1+am_ m (E.flat t))++aE_ E m (E.flat t) (E.fl t a.1) k)))]) (λi o o' h1 h2 => ?_) (UniqK.append eb_ (bp_ (ps:=ps) (by omega)) λi o o' h1 h2 => ?_) λi o o' h1 h2 => ?_
  .simp only[List.mem_singleton,Prod.mk.injEq]at h1 h2;rw[h1.2,h2.2]
  .obtain⟨_,_,_,h3,h4⟩:=az_ _ _ h1;have:=dV_ (ps:=ps) h2;omega
  .simp only[List.mem_singleton,Prod.mk.injEq]at h1;rcases List.mem_append.1 h2 with h2|h2
   .obtain⟨_,_,_,h3,_⟩:=az_ _ _ h2;omega
   .have:=dV_ (ps:=ps) h2;omega
 | .mp T kt v::ps,a,n,k,hk=>by
  simp only[ai_]at hk;simp only[ar_];refine UniqK.append (l:=[(n,some (.map T kt v a.1.1 a.1.2 []))]) (λi o o' h1 h2 => ?_) (bp_ (ps:=ps) (by omega)) λi o o' h1 h2 => ?_
  .simp only[List.mem_singleton,Prod.mk.injEq]at h1 h2;rw[h1.2,h2.2]
  .simp only[List.mem_singleton,Prod.mk.injEq]at h1;have:=dV_ (ps:=ps) h2;omega
 | .d t::ps,a,n,k,hk=>bp_ (ps:=ps) (a:=a.2) hk
 | .p t::ps,a,n,k,hk=>bp_ (ps:=ps) (a:=a.2) hk
 | .f1 x r::ps,a,n,k,hk=>bp_ (ps:=ps) (a:=a.2) hk
 | .f2 x y r::ps,a,n,k,hk=>bp_ (ps:=ps) (a:=a.2) hk
theorem bU_:∀{ps:List Pm} {a:PA E ps} {n k:Nat},bl_ E ps<=(ar_ E ps a n k).length
 | [],_,_,_=>Nat.le_refl _
 | .l t m::ps,a,n,k=>by
  simp only[ar_,qLa,bl_];have:=bU_ (ps:=ps) (a:=a.2) (n:=n+am_ m (E.flat t)) (k:=k);omega
 | .g t m::ps,a,n,k=>bU_ (ps:=ps) (a:=a.2)
 | .b T t::ps,a,n,k=>by
  simp only[ar_,qLc,bl_];have:=bU_ (ps:=ps) (a:=a.2) (n:=n+1) (k:=k);omega
 | .bm T t m px::ps,a,n,k=>by
  simp only[ar_,qLc,qLa,bl_,ownO_len];have:=bU_ (ps:=ps) (a:=a.2) (n:=n+1+am_ m (E.flat t)) (k:=k+am_ m (E.flat t));omega
 | .mp T kt v::ps,a,n,k=>by
  simp only[ar_,qLc,bl_];have:=bU_ (ps:=ps) (a:=a.2) (n:=n+1) (k:=k);omega
 | .d t::ps,a,n,k=>bU_ (ps:=ps) (a:=a.2)
 | .p t::ps,a,n,k=>bU_ (ps:=ps) (a:=a.2)
 | .f1 x r::ps,a,n,k=>bU_ (ps:=ps) (a:=a.2)
 | .f2 x y r::ps,a,n,k=>bU_ (ps:=ps) (a:=a.2)
theorem ownC_move{m:Mk}:∀{ts:List Ty} {h:HL E.S ts} {n n':Nat} {v:List Value},All2 (RC P E z g) (aE_ E m ts h n) v->(∀i l,i<am_ m ts->g (n+i)=some l->g' (n'+i)=some l)->(z=z'\/do_ E m ts=true)->All2 (RC P E z' g') (aE_ E m ts h n') v:=by
 have key:∀{ts:List Ty} {h:HL E.S ts} {v:List Value},All2 (RC P E z g) (hlc E ts h) v->(z=z'\/ts.all Ty.flatB=true)->All2 (RC P E z' g') (hlc E ts h) v:=by
  intro ts h v hv hz;rcases hz with rfl|hz
  .exact hlc_rd.1 (hlc_rd.2 hv)
  .exact hlc_rd.1 ((hlc_rd.2 hv).flat hz)
 induction m with
 | nil =>
  intro ts h n n' v hv hg hz;cases ts with
  | nil=>simp only[aE_]at hv ⊢;exact key hv (hz.imp id λh=>h)
  | cons t ts=>simp only[aE_]at hv ⊢;exact key hv (hz.imp id λh=>h)
 | cons a m ih =>
  intro ts h n n' v hv hg hz;cases ts with
  | nil=>cases a<;>simp only[aE_]at hv ⊢<;>exact key hv (.inr rfl)
  | cons t ts =>
   cases a with
   | none =>
    simp only[aE_]at hv ⊢;cases hv with
    | cons h1 h2 =>
     simp only[do_,qAn]at hz;refine .cons ?_ (ih h2 hg (hz.imp id And.right));rcases hz with rfl|hz
     .exact h1
     .exact RD.flat (ts:=[t]) (by simp[hz.1]) h1
   | some e =>
    cases t with
    | sl t =>
     simp only[aE_]at hv ⊢;cases hv with
     | cons h1 h2 =>
      obtain⟨l,h3,h4⟩:=h1;simp only[do_,qAn]at hz;refine .cons ⟨l,hg 0 l (by simp only[am_];omega) h3,h4⟩ (ih h2 (λi l hi' hi => ?_) (hz.imp id And.right));have:=hg (i+1) l (by simp only[am_];omega) (by rw[show n+(i+1)=n+1+i by omega];exact hi)
      rwa [show n'+(i+1)=n'+1+i by omega]at this
    | _=>simp only[aE_]at hv ⊢;exact key hv (hz.imp id λh=>h)
theorem asV_move{t:Ty}{l l':List (SC E)}{x x':V1 E}{v:Value}(h:asV E t l=some x)(h':asV E t l'=some x')(hr:R1 P E z g x v)(hm:∀vs,All2 (RC P E z g) l vs->All2 (RC P E z' g') l' vs):R1 P E z' g' x' v:=by
 have one:∀c d,l=[c]->l'=[d]->RC P E z g c v->RC P E z' g' d v:=λc d e e' hc=>by
  subst e;subst e';have:=hm [v] (.cons hc .nil);cases this with
  | cons h _=>exact h
 cases t with
 | st n =>
  simp only[asV,qOi]at h h';subst h;subst h';obtain⟨vs,rfl,hr⟩:=hr;exact⟨vs,rfl,hm vs hr⟩
 | _ =>
  cases l with
  | nil=>simp[asV]at h
  | cons c l =>
   cases l with
   | cons d l=>simp[asV]at h
   | nil =>
    cases l' with
    | nil=>simp[asV]at h'
    | cons c' l' =>
     cases l' with
     | cons d l=>simp[asV]at h'
     | nil =>
      simp only[asV,qOi]at h h';subst h;subst h';exact one c c' rfl rfl hr
theorem gQ_:∀{rs:Rs} {h:HL E.S rs.ts} {n n':Nat} {l l':List (V1 E)} {vs:List Value},resV E rs h n=some l->resV E rs h n'=some l'->All2 (R1 P E z g) l vs->(∀i l,i<aW_ E rs->g (n+i)=some l->g' (n'+i)=some l)->(z=z'\/em_ E rs=true)->All2 (R1 P E z' g') l' vs
 | [],h,n,n',l,l',vs,e,e',hr,_,_=>by
  simp only[resV,qOi]at e e';subst e;subst e';cases hr
  exact .nil
 | (t,m)::rs,h,n,n',l,l',vs,e,e',hr,hg,hz=>by
  simp only[resV]at e e';split at e
  .rename_i x q hx hq;obtain rfl:=qSj e;split at e'
   .rename_i x' q' hx' hq';obtain rfl:=qSj e';simp only[em_,qAn]at hz;cases hr with
    | cons h1 h2 =>
     refine .cons (asV_move hx hx' h1 λvs hvs=>ownC_move hvs (λi l hi=>hg i l (by simp only[aW_];omega)) (hz.imp id And.left)) (gQ_ hq hq' h2 (λi l hi' hi => ?_) (hz.imp id And.right));rw[Nat.add_assoc]at hi ⊢;exact hg _ l (by simp only[aW_];omega) hi
   .cases e'
  .cases e
theorem lR_:∀{rs:Rs} {h:HL E.S rs.ts} {n n':Nat} {l l':List (V1 E)},resV E rs h n=some l->resV E rs h n'=some l'->l.length=l'.length
 | [],h,n,n',l,l',e,e'=>by
  simp only[resV,qOi]at e e';subst e;subst e';rfl
 | (t,m)::rs,h,n,n',l,l',e,e'=>by
  simp only[resV]at e e';split at e
  .rename_i x q hx hq;obtain rfl:=qSj e;split at e'
   .rename_i x' q' hx' hq';obtain rfl:=qSj e';simp[lR_ hq hq']
   .cases e'
  .cases e
theorem jP_{l l':List (V1 E)}{v:Value}(hl:l.length=l'.length)(h:RV P E z g (oneV E l) v)(hm:∀vs,All2 (R1 P E z g) l vs->All2 (R1 P E z' g') l' vs):RV P E z' g' (oneV E l') v:=by
 match l,l',hl with
 | [],[],_=>obtain⟨vs,rfl,hr⟩:=h;exact⟨vs,rfl,hm vs hr⟩
 | [x],[x'],_ =>
  have:=hm [v] (.cons h .nil);cases this with
  | cons h _=>exact h
 | x::y::l,x'::y'::l',_=>obtain⟨vs,rfl,hr⟩:=h;exact⟨vs,rfl,hm vs hr⟩
def renS(c nx:Nat)(I:List Nat)(i:Nat):Nat:=match Nat.blt i c with|true=>I.getD i 0|false=>nx+(i-c)
def lentU(s:Nat->Nat)(l:Chs E):Chs E:=l.map λp=>(s p.1,p.2.map (Obj.ren s))
def goneU(I:List Nat):Chs E:=I.map λi=>(i,none)
def callU(E:TE)(C:Con E)(nx:Nat)(q:PA E C.ps×List Nat)(rh:HL E.S C.rs.ts)(bh:HL E.S (aq_ C.ps)):Chs E:=lentU (renS (ai_ E C.ps) nx q.2) (ba_ E C.rs rh (ai_ E C.ps)++ar_ E C.ps (bS_ E C.ps q.1 bh) 0 (ai_ E C.ps+aW_ E C.rs))++goneU q.2
def lCall (E:TE) (tab:Tab E) (H:Nat->Option (Obj E)) (nx:Nat) (f:FuncId) (xs:List (V1 E)) {R:Type} (k:Option (SV E)->Chs E->Option R):Option R :=
 match tab f with
 | none=>none
 | some C=>match C.I with
 | some I=>I H nx xs R k
 | none=>match takeA E tab (upH H (frzP E H C.ps xs)) C.ps xs with
  | none=>none
  | some q=>match nodupB q.2 with
   | false=>none
   | true=>C.F R q.1 λrh bh=>match resV E C.rs rh nx with
    | none=>none
    | some svr=>match C.ali with
     | true=>k (some (oneV E svr)) (callU E C nx q rh bh++frzP E H C.ps xs)
     | false=>match em_ E C.rs&&cv_ E C.ps with
      | true=>k (some (oneV E svr)) (callU E C nx q rh bh)
      | false=>none
theorem leave_uniq{C:Con E}{q:PA E C.ps×List Nat}{rh:HL E.S C.rs.ts}{bh:HL E.S (aq_ C.ps)}:UniqK (ba_ E C.rs rh (ai_ E C.ps)++ar_ E C.ps (bS_ E C.ps q.1 bh) 0 (ai_ E C.ps+aW_ E C.rs)) :=
 UniqK.append resO_uniq (bp_ (by omega)) λi o o' h1 h2=>by
  have h3:=resO_in h1;have h4:=dV_ h2;omega
theorem mK_{C:Con E}{q:PA E C.ps×List Nat}{rh:HL E.S C.rs.ts}{bh:HL E.S (aq_ C.ps)}{Hb:Nat->Option (Obj E)}{j:Nat}{o:Obj E}
  (h:upH Hb (callU E C nx q rh bh) j=some o) :
  (∃i o1,(j=renS (ai_ E C.ps) nx q.2 i/\i<ai_ E C.ps+(aW_ E C.rs+bl_ E C.ps))/\upH (λ_=>none) (ba_ E C.rs rh (ai_ E C.ps)++ar_ E C.ps (bS_ E C.ps q.1 bh) 0 (ai_ E C.ps+aW_ E C.rs)) i=some o1/\o=Obj.ren (renS (ai_ E C.ps) nx q.2) o1)\/(j∉q.2/\Hb j=some o):=by
 unfold callU at h;rw[←ao_]at h;rcases upH_or h with h|h
 .have hnot:∀(I:List Nat),upH Hb (goneU I) j=some o->j∉I/\Hb j=some o:=by
   intro I
   induction I with
   | nil=>intro h;exact⟨by simp,h⟩
   | cons i I ih =>
    intro h;simp only[goneU,List.map_cons,upH]at h;split at h
    .cases h
    .rename_i hb;obtain⟨h1,h2⟩:=ih h;exact⟨λhm=>by rcases List.mem_cons.1 hm with rfl|hm;exact bf_ hb rfl;exact h1 hm,h2⟩
  exact .inr (hnot _ h)
 .left
  obtain⟨p,hp,hpe⟩:=List.mem_map.1 h;simp only[Prod.mk.injEq]at hpe;obtain⟨hj,ho⟩:=hpe;obtain⟨i,o2⟩:=p;cases o2 with
  | none=>cases ho
  | some o1 =>
   refine⟨i,o1,⟨hj.symm,?_⟩,mJ_ leave_uniq hp,(qSj ho).symm⟩;rcases List.mem_append.1 hp with hp|hp
   .have:=resO_in hp;omega
   .have:=dV_ hp;omega
theorem lS_{m:Mk}:∀{ts:List Ty} {h:HL E.S ts} {n i:Nat},n<=i->i<n+am_ m ts->∃o,(i,o)∈av_ E m ts h n:=by
 induction m with
 | nil=>intro ts h n i h1 h2;cases ts<;>simp[am_]at h2<;>omega
 | cons a m ih =>
  intro ts h n i h1 h2;cases ts with
  | nil=>cases a<;>simp[am_]at h2<;>omega
  | cons t ts =>
   cases a with
   | none=>simp only[am_]at h2;simp only[av_];exact ih h1 h2
   | some e =>
    cases t with
    | sl t =>
     simp only[am_]at h2;simp only[av_,List.mem_cons,Prod.mk.injEq];by_cases hin:i=n
     .exact⟨_,.inl ⟨hin,rfl⟩⟩
     .obtain⟨o,ho⟩:=ih (h:=h.2) (n:=n+1) (i:=i) (by omega) (by omega);exact⟨o,.inr ho⟩
    | _=>simp[am_]at h2<;>omega
theorem argsO_cov:∀{ps:List Pm} {a:PA E ps} {n i:Nat},n<=i->i<n+ai_ E ps->∃o,(i,o)∈ay_ E ps a n:=by
 intro ps
 induction ps with
 | nil=>intro a n i h1 h2;simp[ai_]at h2;omega
 | cons p ps ih =>
  intro a n i h1 h2;cases p with
  | l t m =>
   simp only[ai_]at h2;simp only[ay_,List.mem_append];by_cases hin:i<n+am_ m (E.flat t)
   .obtain⟨o,ho⟩:=lS_ (h:=E.fl t a.1) h1 hin;exact⟨o,.inl ho⟩
   .obtain⟨o,ho⟩:=ih (a:=a.2) (n:=n+am_ m (E.flat t)) (i:=i) (by omega) (by omega);exact⟨o,.inr ho⟩
  | g t m =>
   simp only[ai_]at h2;simp only[ay_,List.mem_append];by_cases hin:i<n+am_ m (E.flat t)
   .obtain⟨o,ho⟩:=lS_ (h:=E.fl t a.1) h1 hin;exact⟨o,.inl ho⟩
   .obtain⟨o,ho⟩:=ih (a:=a.2) (n:=n+am_ m (E.flat t)) (i:=i) (by omega) (by omega);exact⟨o,.inr ho⟩
  | b T t =>
   simp only[ai_]at h2;simp only[ay_,List.mem_cons,Prod.mk.injEq];by_cases hin:i=n
   .exact⟨_,.inl ⟨hin,rfl⟩⟩
   .obtain⟨o,ho⟩:=ih (a:=a.2) (n:=n+1) (i:=i) (by omega) (by omega);exact⟨o,.inr ho⟩
  | bm T t m px =>
   simp only[ai_]at h2;simp only[ay_,List.mem_cons,List.mem_append,Prod.mk.injEq];by_cases hin:i=n
   .exact⟨_,.inl ⟨hin,rfl⟩⟩
   .by_cases hi2:i<n+1+am_ m (E.flat t)
    .obtain⟨o,ho⟩:=lS_ (h:=E.fl t a.1) (n:=n+1) (i:=i) (by omega) hi2;exact⟨o,.inr (.inl ho)⟩
    .obtain⟨o,ho⟩:=ih (a:=a.2) (n:=n+1+am_ m (E.flat t)) (i:=i) (by omega) (by omega);exact⟨o,.inr (.inr ho)⟩
  | mp T k v =>
   simp only[ai_]at h2;simp only[ay_,List.mem_cons,Prod.mk.injEq];by_cases hin:i=n
   .exact⟨_,.inl ⟨hin,rfl⟩⟩
   .obtain⟨o,ho⟩:=ih (a:=a.2) (n:=n+1) (i:=i) (by omega) (by omega);exact⟨o,.inr ho⟩
  | d t=>exact ih (a:=a.2) h1 h2
  | p t=>exact ih (a:=a.2) h1 h2
  | f1 x r=>exact ih (a:=a.2) h1 h2
  | f2 x y r=>exact ih (a:=a.2) h1 h2
def dD_(tab:Tab E)(f:FuncId):Bool:=match tab f with|some C=>fG_ C.ps|none=>true
theorem takeA_own {tab:Tab E}:∀{ps:List Pm} {xs:List (V1 E)} {q:PA E ps×List Nat},fG_ ps=false->takeA E tab H ps xs=some q->q.2=[]:=by
 intro ps
 induction ps with
 | nil =>
  intro xs q _ h;cases xs with
  | nil=>simp only[takeA,qOi]at h;subst h;rfl
  | cons x xs=>simp[takeA]at h
 | cons p ps ih =>
  intro xs q hl h;cases xs with
  | nil=>cases p<;>simp[takeA]at h
  | cons x xs =>
   cases p with
   | l t m=>cases hl
   | g t m=>cases hl
   | b T t=>cases hl
   | bm T t m px=>cases hl
   | mp T k v=>cases hl
   | d t =>
    simp only[takeA]at h;split at h
    .rename_i d q' hd hq;obtain rfl:=qSj h;exact ih hl hq
    .cases h
   | p t =>
    cases x with
    | agg l=>simp[takeA]at h
    | one c =>
     cases c with
     | elf t' x' off =>
      cases off with
      | succ off=>simp[takeA]at h
      | zero =>
       simp only[takeA]at h;split at h
       .split at h
        .rename_i q' hq;obtain rfl:=qSj h;exact ih hl hq
        .cases h
       .cases h
     | ptr id off =>
      cases off with
      | succ off=>simp[takeA]at h
      | zero =>
       simp only[takeA]at h;split at h
       .split at h
        .split at h
         .rename_i q' hq;obtain rfl:=qSj h;exact ih hl hq
         .cases h
        .cases h
       .cases h
     | _=>simp[takeA]at h
   | f1 x1 r1 =>
    cases x with
    | agg l=>simp[takeA]at h
    | one c =>
     simp only[takeA]at h;split at h
     .rename_i f q' hf hq;obtain rfl:=qSj h;exact ih hl hq
     .cases h
   | f2 x1 y1 r1 =>
    cases x with
    | agg l=>simp[takeA]at h
    | one c =>
     simp only[takeA]at h;split at h
     .rename_i f q' hf hq;obtain rfl:=qSj h;exact ih hl hq
     .cases h
theorem lCall_ok2 {tab:Tab E} (ht:tab.OK P E) {f:FuncId} (hni:∀C,tab f=some C->C.I=none) {xs:List (V1 E)} {vs:List Value} {R:Type} {k:Option (SV E)->Chs E->Option R} {r:R} (hnx:Fresh g nx) (hv:All2 (R1 P E z g) xs vs) (h:lCall E tab H nx f xs k=some r) :
  bo_ P f=true/\∃s u,k (some s) u=some r/\∀(Bs:List Nat) (F0:Nat->Prop) (w0 w:World),HR P E Bs F0 w0 w z g H->Ret P f vs.toArray w λv w'=>∃z2 g2,z.Le z2/\g.Le g2/\Fresh g2 (nx+1+u.length)/\RV P E z2 g2 s v/\HR P E Bs F0 w0 w' z2 g2 (upH H u)/\(dD_ tab f=false->Ext w w'):=by
 unfold lCall at h;split at h
 .cases h
 .rename_i C hC;obtain⟨hok,hbody,_⟩:=ht f C hC;refine⟨hbody,?_⟩;rw[hni C hC]at h;simp only at h;split at h
  .cases h
  .rename_i q hq;split at h
   .cases h
   .rename_i hn;obtain⟨rh,bh,hk,hcall⟩:=hok _ _ _ _ h;obtain⟨svr2,hres2,u,hu,hk⟩:∃svr2,resV E C.rs rh nx=some svr2/\∃u,((C.ali=true/\u=callU E C nx q rh bh++frzP E H C.ps xs)\/(C.ali=false/\(em_ E C.rs&&cv_ E C.ps)=true/\u=callU E C nx q rh bh))/\k (some (oneV E svr2)) u=some r:=by
     split at hk
     .cases hk
     .rename_i svr2 hres2;split at hk
      .rename_i hal;exact⟨svr2,hres2,_,.inl ⟨hal,rfl⟩,hk⟩
      .rename_i hal;split at hk
       .rename_i hfl;exact⟨svr2,hres2,_,.inr ⟨hal,hfl,rfl⟩,hk⟩
       .cases hk
    refine⟨_,u,hk,λBs F0 w0 w hH => ?_⟩;obtain⟨z1,hz1,hH1⟩:=frzP_ok hH C.ps xs;obtain⟨⟨svs,e1,e2⟩,e3,e4⟩:=takeA_ok ht hH1 (I:=q.2) (n:=0) hq (λj id hj=>by rw[Nat.zero_add];exact hj) (hv.mono λ_ _ h=>R1.le h hz1 (Ga.Le.refl g));have hent:=hH1.entry hn e3;have hfr:Fresh (gOf g q.2) (ai_ E C.ps):=λi hi=>by
     unfold gOf;rw[List.getElem?_eq_none (by omega)]
    have hret:=hcall w z1 _ _ svs vs e1 hent hfr e2;refine hret.mono λv w' ⟨z',g1,svr,hz',hali,hg1,hres,hrv,hx⟩ => ?_
    have hid:∀id∈q.2,∃l,g id=some l:=λid hid=>by
     obtain⟨i,hi⟩:=List.mem_iff_getElem?.1 hid;have hil:i<ai_ E C.ps:=by rw[←e4];exact(List.getElem?_eq_some_iff.1 hi).1
     by_cases hgi:∃l,g id=some l
     .exact hgi
     .exfalso;obtain⟨o,ho⟩:=argsO_cov (a:=q.1) (n:=0) (i:=i) (Nat.zero_le _) (by omega);obtain⟨id',o1,_,h5,h6,_⟩:=e3 i o ho;rw[hi]at h5;obtain rfl:=qSj h5;exact hgi (hH1.hold _ _ h6).loc
    have hlt:∀id∈q.2,id<nx:=λid hid'=>by
     obtain⟨l,hl⟩:=hid id hid';rcases Nat.lt_or_ge id nx with h5|h5
     .exact h5
     .rw[hnx id h5]at hl;cases hl
    -- the numbers behind the call
    have hfm:∀i,i<ai_ E C.ps->q.2[i]? = some (renS (ai_ E C.ps) nx q.2 i):=λi hi=>by
     have hi2:i<q.2.length:=by omega
     have hb:Nat.blt i (ai_ E C.ps)=true:=by simpa using hi
     unfold renS;rw[hb,List.getElem?_eq_getElem hi2];simp[List.getD_eq_getElem?_getD,hi2]
    have hfn:∀i,ai_ E C.ps<=i->renS (ai_ E C.ps) nx q.2 i=nx+(i-ai_ E C.ps):=λi hi=>by
     have hb:Nat.blt i (ai_ E C.ps)=false:=by
      cases hb:Nat.blt i (ai_ E C.ps)with
      | false=>rfl
      | true => have:i<ai_ E C.ps:=by simpa using hb
                omega
     unfold renS;rw[hb]
    let g2:Ga:=λj=>if nx<=j/\j<nx+(aW_ E C.rs+bl_ E C.ps)then g1 (ai_ E C.ps+(j-nx))else g j
    have hg2:g.Le g2:=λj l hj=>by
     have:j<nx:=by
      rcases Nat.lt_or_ge j nx with h5|h5
      .exact h5
      .rw[hnx j h5]at hj;cases hj
     show(if _ then _ else g j)=_;rw[if_neg (by omega)];exact hj
    have hfr2:Fresh g2 (nx+(aW_ E C.rs+bl_ E C.ps)):=λj hj=>by
     show(if _ then _ else g j)=_;rw[if_neg (by omega)];exact hnx j (by omega)
    have hmv:∀i l,i<aW_ E C.rs->g1 (ai_ E C.ps+i)=some l->g2 (nx+i)=some l:=λi l hlt hi=>by
     show(if _ then _ else g _)=_;rw[if_pos ⟨by omega,by omega⟩,show ai_ E C.ps+(nx+i-nx)=ai_ E C.ps+i by omega];exact hi
    let s:Nat->Nat->Prop:=λj i=>j=renS (ai_ E C.ps) nx q.2 i/\i<ai_ E C.ps+(aW_ E C.rs+bl_ E C.ps)
    have hs:∀j j' i,s j i->s j' i->j=j':=λj j' i h1 h2=>h1.1.trans h2.1.symm
    have hsg:∀j i,s j i->g2 j=g1 i:=λj i h1=>by
     obtain⟨rfl,hi⟩:=h1;rcases Nat.lt_or_ge i (ai_ E C.ps)with h5|h5
     .have h6:=hfm i h5;obtain⟨l,hl⟩:=hid _ (List.mem_of_getElem? h6);rw[hg2 _ l hl];exact(hg1 i l (by unfold gOf;rw[h6];exact hl)).symm
     .rw[hfn i h5];show(if _ then _ else g _)=_;rw[if_pos ⟨by omega,by omega⟩,show ai_ E C.ps+(nx+(i-ai_ E C.ps)-nx)=i by omega]
    have hKm:∀i l,((ai_ E C.ps+aW_ E C.rs<=i/\i<ai_ E C.ps+aW_ E C.rs+bl_ E C.ps)\/(0<=i/\i<0+ai_ E C.ps))->g1 i=some l->g2 (renS (ai_ E C.ps) nx q.2 i)=some l:=λi l hi hl=>(hsg _ i ⟨rfl,by omega⟩).trans hl
    have hpl:∀i o,upH (λ_=>none) (ba_ E C.rs rh (ai_ E C.ps)++ar_ E C.ps (bS_ E C.ps q.1 bh) 0 (ai_ E C.ps+aW_ E C.rs)) i=some o->Plain E (λi=>(ai_ E C.ps+aW_ E C.rs<=i/\i<ai_ E C.ps+aW_ E C.rs+bl_ E C.ps)\/(0<=i/\i<0+ai_ E C.ps)) o:=λi o ho=>by
     rcases List.mem_append.1 (d9_ ho)with h1|h1
     .obtain⟨p,hp,hp2,_⟩:=cG_ _ _ h1;obtain rfl:=qSj hp;exact hp2 _
     .obtain⟨p,hp,hp2,_⟩:=aQ_ _ _ h1;obtain rfl:=qSj hp;exact hp2
    have hlen:aW_ E C.rs+bl_ E C.ps<=(callU E C nx q rh bh).length:=by
     unfold callU lentU;rw[qLa,List.length_map,qLa,resO_len];have:=bU_ (ps:=C.ps) (a:=bS_ E C.ps q.1 bh) (n:=0) (k:=ai_ E C.ps+aW_ E C.rs);omega
    have hext:dD_ tab f=false->Ext w w':=λhl=>by
     have hq0:q.2=[]:=takeA_own (by simpa only[dD_,hC]using hl) hq;have hchg:=hx.chg;rw[hq0]at hchg;exact Ext.of_below (Chg.below hchg)
    .rcases hu with⟨hal,rfl⟩|⟨hal,hfl,rfl⟩
     .refine⟨z',g2,hz1.trans hz',hg2,λj hj=>hfr2 j (by simp only[qLa]at hj;omega),?_,?_,hext⟩
      .exact jP_ (lR_ hres hres2) hrv λvs hvs=>gQ_ hres hres2 hvs hmv (.inl rfl)
      .rw[←ao_];refine hH1.back2 (s:=s) hx (λk hk => ?_) hg2 (λj o hj=>(mK_ hj).imp (λ⟨i,o1,hji,h2,ho⟩=>⟨i,o1,hji,h2,by rw[ho];exact(hx.hold i o1 h2).move2 (hpl i o1 h2) hKm (.inl rfl) (hsg j i hji)⟩) id) hs hz' hx.fz λk hk => ?_
       .obtain⟨i,id,o,h1,h2,h3⟩:=eK_ hk;exact⟨id,o,List.mem_of_getElem? h1,h2,h3⟩
       .rcases hx.fz0 k hk with h1|h1|h1
        .exact .inl h1
        .exact .inr ⟨.inl h1,hk⟩
        .exact .inr ⟨.inr h1,hk⟩
     ··simp only[qAn]at hfl;obtain rfl:=hali hal;have hzin:z.In w':=λk hk=>by
        have h1:=hx.fz k (hz1 k hk).1;exact⟨h1.1,h1.2.trans (hz1 k hk).2⟩
       have hflat:∀i o1,upH (λ_=>none) (ba_ E C.rs rh (ai_ E C.ps)++ar_ E C.ps (bS_ E C.ps q.1 bh) 0 (ai_ E C.ps+aW_ E C.rs)) i=some o1->eL_ E o1:=λi o1 h2=>by
        rcases List.mem_append.1 (d9_ h2)with h3|h3
        .obtain⟨p,hp,hp2⟩:=jN_ hfl.1 _ _ h3;obtain rfl:=qSj hp;exact hp2
        .obtain⟨p,hp,hp2⟩:=bb_ hfl.2 _ _ h3;obtain rfl:=qSj hp;exact hp2
       refine⟨z,g2,Fz.Le.refl z,hg2,λj hj=>hfr2 j (by omega),?_,?_,hext⟩
       .exact jP_ (lR_ hres hres2) hrv λvs hvs=>gQ_ hres hres2 hvs hmv (.inr hfl.1)
       .refine hH.back2 (s:=s) hx (λk hk => ?_) hg2 (λj o hj=>(mK_ hj).imp (λ⟨i,o1,hji,h2,ho⟩=>⟨i,o1,hji,h2,by rw[ho];exact(hx.hold i o1 h2).move2 (hpl i o1 h2) hKm (.inr (hflat i o1 h2)) (hsg j i hji)⟩) id) hs (Fz.Le.refl z) hzin λk hk => .inl hk
        obtain⟨i,id,o,h1,h2,h3⟩:=eK_ hk;refine⟨id,o,List.mem_of_getElem? h1,?_,h3⟩;rcases upH_or h2 with h4|h4
        .exact h4
        .rcases frzP_only H C.ps xs _ _ h4 with⟨t,ys,h5⟩|⟨t,y,h5⟩
         .obtain rfl:=qSj h5;exact h3.elim
         .obtain rfl:=qSj h5;exact h3.elim
theorem lCall_ok{tab:Tab E}(ht:tab.OK P E){f:FuncId}{xs:List (V1 E)}{vs:List Value}{R:Type}{k:Option (SV E)->Chs E->Option R}{r:R}(hnx:Fresh g nx)(hH:HR P E Bs F0 w0 w z g H)(hv:All2 (R1 P E z g) xs vs)(h:lCall E tab H nx f xs k=some r) :
  bo_ P f=true/\Ret P f vs.toArray w λv w'=>∃s u z2 g2,k (some s) u=some r/\z.Le z2/\g.Le g2/\Fresh g2 (nxU nx u)/\RV P E z2 g2 s v/\HR P E Bs F0 w0 w' z2 g2 (upH H u)/\(dD_ tab f=false->Ext w w'):=by
 cases hC:tab f with
 | none =>
  unfold lCall at h;rw[hC]at h;cases h
 | some C =>
  cases hI:C.I with
  | none =>
   obtain⟨hb,s,u,hk,hret⟩:=lCall_ok2 ht (λC' e=>by rw[hC]at e;obtain rfl:=qSj e;exact hI) hnx hv h;exact⟨hb,(hret Bs F0 w0 w hH).mono λv w' ⟨z2,g2,h1,h2,h3,h4,h5,h6⟩=>⟨s,u,z2,g2,hk,h1,h2,h3.nxU,h4,h5,h6⟩⟩
  | some I =>
   obtain⟨_,hb,hIn⟩:=ht f C hC;obtain⟨hl,hok⟩:=hIn I hI;unfold lCall at h;rw[hC]at h;simp only[hI]at h;refine⟨hb,(hok hnx hH hv h).mono λv w' ⟨s,u,z2,g2,h1,h2,h3,h4,h5,h6⟩=>⟨s,u,z2,g2,h1,h2,h3,h4,h5,h6,λhf => ?_⟩⟩;unfold dD_ at hf;rw[hC]at hf;simp only at hf;rw[hl]at hf;cases hf
end
section
variable{P:Program}{E:TE}{w w0:World}{Bs:List Nat}{F0:Nat->Prop}
def en_{α:Type}:List (Option (TypeId×Ty))->List (SC E)->Nat->(List (SC E)->Chs E->Nat->α)->α|some (e,ty)::ps,.nils::cs,n,k=>en_ ps cs (n+1) λl u m=>k (.own n::l) (u++[(n,some (.row e ty [] []))]) m|_::ps,c::cs,n,k=>en_ ps cs n λl u m=>k (c::l) u m|_,cs,n,k=>k cs [] n
def wantM:Mk->List Ty->List (Option (TypeId×Ty))|some e::ms,.sl t::ts=>some (e,t)::wantM ms ts|_::ms,_::ts=>none::wantM ms ts|_,_=>[]
def fI_(E:TE){α:Type}(t:Ty)(m:Mk)(x:V1 E)(n:Nat)(k:V1 E->Chs E->Nat->α):α :=
 match x with
 | .agg l=>en_ (wantM m (E.flat t)) l n λl u n'=>k (.agg l) u n'
 | .one c=>en_ (wantM m (E.flat t)) [c] n λl u n'=>match l with
  | [c']=>k (.one c') u n'
  | _=>k (.one c) [] n
def PrepIs(P:Program)(E:TE)(Bs:List Nat)(F0:Nat->Prop)(w0 w:World)(z:Fz)(g:Ga)(H:Nat->Option (Obj E))(ps:List (Option (TypeId×Ty)))(cs:List (SC E))(n:Nat):Prop:=∃l u m g',(∀{α:Type} (k:List (SC E)->Chs E->Nat->α),en_ ps cs n k=k l u m)/\g.Le g'/\Fresh g' m/\HR P E Bs F0 w0 w z g' (upH H u)/\(∀z g2 vs,g'.Le g2->All2 (RC P E z g2) cs vs->All2 (RC P E z g2) l vs)/\(∀i o,(i,o)∈u->n<=i/\o≠none)/\n<=m/\m<=n+u.length
theorem PrepIs.step{z:Fz}{g:Ga}{H:Nat->Option (Obj E)}{p:Option (TypeId×Ty)}{ps:List (Option (TypeId×Ty))}{c:SC E}{cs:List (SC E)}{n:Nat}(h:PrepIs P E Bs F0 w0 w z g H ps cs n)(he:∀{α:Type} (k:List (SC E)->Chs E->Nat->α),en_ (p::ps) (c::cs) n k=en_ ps cs n λl u m=>k (c::l) u m) :
  PrepIs P E Bs F0 w0 w z g H (p::ps) (c::cs) n:=by
 obtain⟨l,u,m,g',h1,h2,h3,h4,h5,h6,h7⟩:=h;exact⟨c::l,u,m,g',(λk=>(he k).trans (h1 _)),h2,h3,h4,(λz g2 vs hg hv=>by
  cases hv with
  | cons hx hr=>exact .cons hx (h5 z g2 _ hg hr)),h6,h7⟩
theorem dW_{z:Fz}:∀(ps:List (Option (TypeId×Ty))) (cs:List (SC E)) {n:Nat} {g:Ga} {H:Nat->Option (Obj E)},HR P E Bs F0 w0 w z g H->Fresh g n->PrepIs P E Bs F0 w0 w z g H ps cs n
 | [],cs,n,g,H,hH,hf=>⟨cs,[],n,g,(λ_=>by cases cs<;>rfl),Ga.Le.refl g,hf,hH,(λ_ _ _ _ h=>h),(λ_ _ h=>nomatch h),Nat.le_refl _,Nat.le_refl _⟩
 | p::ps,[],n,g,H,hH,hf=>⟨[],[],n,g,(λ_=>by cases p<;>rfl),Ga.Le.refl g,hf,hH,(λ_ _ _ _ h=>h),(λ_ _ h=>nomatch h),Nat.le_refl _,Nat.le_refl _⟩
 | p :: ps,c::cs,n,g,H,hH,hf=>by
  have ih:=dW_ ps cs hH hf;cases p with
  | none=>exact ih.step λk=>by cases c<;>rfl
  | some q =>
   obtain⟨e,ty⟩:=q;cases c with
   | nils =>
    have hnew:=hH.row_new (e:=e) (t:=ty) (xs:=[]) (A:=none) (cap:=0) (n:=0) (rows:=[]) hf (Ext.refl w) rfl ⟨by simp,.inl ⟨rfl,rfl⟩⟩ rfl (λi x r h1 _=>by simp at h1) (λq ⟨a,ha,_⟩=>nomatch ha);obtain⟨l,u,m,g',h1,h2,h3,h4,h5,h6,h7⟩:=dW_ ps cs hnew (hf.put _);refine⟨.own n::l,u++[(n,some (.row e ty [] []))],m,g',(λk => ?_),(Ga.le_put hf.self).trans h2,h3,by rw[←ao_];exact h4,(λz g2 vs hg hv => ?_),(λi o ho => ?_),by omega,by simp only[qLa,qLc,List.length_nil];omega⟩
    .simp only[en_];exact h1 _
    .cases hv with
     | cons hx hr=>exact .cons ⟨_,hg _ _ (h2 _ _ (Ga.put_self _ _ _)),hx⟩ (h5 z g2 _ hg hr)
    .rcases List.mem_append.1 ho with ho|ho
     .have:=h6 i o ho;exact⟨by omega,this.2⟩
     .obtain⟨rfl,rfl⟩:=Prod.mk.inj (List.mem_singleton.1 ho);exact⟨Nat.le_refl _,λe=>nomatch e⟩
   | _=>exact ih.step λk=>rfl
theorem prepV_ok{z:Fz}{g:Ga}{H:Nat->Option (Obj E)}{n:Nat}(t:Ty)(m:Mk)(x:V1 E)(hH:HR P E Bs F0 w0 w z g H)(hf:Fresh g n) :
  ∃x' u n' g',(∀{α:Type} (k:V1 E->Chs E->Nat->α),fI_ E t m x n k=k x' u n')/\g.Le g'/\Fresh g' n'/\HR P E Bs F0 w0 w z g' (upH H u)/\(∀z g2 v,g'.Le g2->R1 P E z g2 x v->R1 P E z g2 x' v)/\(∀i o,(i,o)∈u->n<=i/\o≠none)/\n<=n'/\n'<=n+u.length:=by
 cases x with
 | agg l =>
  obtain⟨l',u,n',g',h1,h2,h3,h4,h5,h6,h7⟩:=dW_ (wantM m (E.flat t)) l hH hf;refine⟨.agg l',u,n',g',(λk => ?_),h2,h3,h4,(λz g2 v hg hv => ?_),h6,h7⟩
  .simp only[fI_];exact h1 _
  .obtain⟨vs,e,hv⟩:=hv;exact⟨vs,e,h5 z g2 vs hg hv⟩
 | one c =>
  obtain⟨l',u,n',g',h1,h2,h3,h4,h5,h6,h7⟩:=dW_ (wantM m (E.flat t)) [c] hH hf;rcases l' with _|⟨c',_|⟨c2,l2⟩⟩
  .exact⟨.one c,[],n,g,(λk=>by simp only[fI_];exact h1 _),Ga.Le.refl g,hf,hH,(λ_ _ _ _ h=>h),(λ_ _ h=>nomatch h),Nat.le_refl _,Nat.le_refl _⟩
  .exact⟨.one c',u,n',g',(λk=>by simp only[fI_];exact h1 _),h2,h3,h4,(λz g2 v hg hv=>by
    have h8:All2 (RC P E z g2) [c'] [v]:=h5 z g2 [v] hg (.cons hv .nil);cases h8 with
    | cons h9 _=>exact h9),h6,h7⟩
  .exact⟨.one c,[],n,g,(λk=>by simp only[fI_];exact h1 _),Ga.Le.refl g,hf,hH,(λ_ _ _ _ h=>h),(λ_ _ h=>nomatch h),Nat.le_refl _,Nat.le_refl _⟩
theorem upH_far{H:Nat->Option (Obj E)}{i n:Nat}:∀{u:Chs E},(∀j o,(j,o)∈u->n<=j)->i<n->upH H u i=H i
 | [],_,_=>rfl
 | (j,p)::u,h,hi=>by
  simp only[upH];have:Nat.beq i j=false:=by
   cases hb:Nat.beq i j with
   | false=>rfl
   | true=>have:=qNb hb;have:=h j p (List.mem_cons_self ..);omega
  rw[this];exact upH_far (u:=u) (λj o hj=>h j o (List.mem_cons_of_mem _ hj)) hi
def wantP(px:Bool)(m:Mk)(ts:List Ty):List (Option (TypeId×Ty)):=match px with|true=>none::wantM m ts|false=>wantM m ts
def onNew{α:Type}:Chs E->α->α->α | [],a,_=>a|_::_,_,b=>b
def prepB{α:Type}(H:Nat->Option (Obj E))(ws:List (Option (TypeId×Ty)))(id n:Nat)(k:Chs E->Nat->α):α:=match H id with|some (.box T cs)=>en_ ws cs n λl u n'=>onNew u (k [] n) (k ((id,some (.box T l))::u) n')|_=>k [] n
def e1_(E:TE){α:Type}:(ps:List Pm)->(Nat->Option (Obj E))->List (V1 E)->Nat->(List (V1 E)->Chs E->Nat->α)->α | .l t m::ps,H,x::xs,n,k=>fI_ E t m x n λx' u n1=>e1_ E ps (upH H u) xs n1 λxs' u' n2=>k (x'::xs') (u'++u) n2 | .g t m::ps,H,x::xs,n,k=>fI_ E t m x n λx' u n1=>e1_ E ps (upH H u) xs n1 λxs' u' n2=>k (x'::xs') (u'++u) n2 | .bm _ t m px::ps,H,.one (.ptr id 0)::xs,n,k=>prepB H (wantP (pxB px ps) m (E.flat t)) id n λu n1=>e1_ E ps (upH H u) (hidX H (pxB px ps) id++xs) n1 λxs' u' n2=>k (.one (.ptr id 0)::xs'.drop (hidX H (pxB px ps) id).length) (u'++u) n2|_::ps,H,x::xs,n,k=>e1_ E ps H xs n λxs' u n'=>k (x::xs') u n' | [],_,xs,n,k=>k xs [] n|_::_,_,[],n,k=>k [] [] n
def PrepA(P:Program)(E:TE)(Bs:List Nat)(F0:Nat->Prop)(w0 w:World)(z:Fz)(g:Ga)(H:Nat->Option (Obj E))(ps:List Pm)(xs:List (V1 E))(n:Nat):Prop:=∃xs' u n' g',(∀{α:Type} (k:List (V1 E)->Chs E->Nat->α),e1_ E ps H xs n k=k xs' u n')/\g.Le g'/\Fresh g' n'/\HR P E Bs F0 w0 w z g' (upH H u)/\(∀z2 g2 vs,z.Le z2->g'.Le g2->All2 (R1 P E z2 g2) xs vs->All2 (R1 P E z2 g2) xs' vs)/\n'<=n+u.length/\∀i o,(i,o)∈u->o≠none
theorem HR.up{z:Fz}{g g':Ga}{H:Nat->Option (Obj E)}{i:Nat}{o1 o2:Obj E}(h:HR P E Bs F0 w0 w z g H)(hg:g.Le g')(hi:H i=some o1)(ho:∀z w,ObjR P E z g w i o1->ObjR P E z g' w i o2)(hf:∀k,fpO g' i o2 k↔fpO g i o1 k):HR P E Bs F0 w0 w z g' (upH H [(i,some o2)]):=by
 refine h.turn hg (i:=i) (i':=i) (C:=λk=>fpO g i o1 k) (λk hk=>⟨o1,hi,hk⟩) (Grow.refl w) (λk _ _=>rfl) (ho z w (h.hold i o1 hi)) (λk hk => .inl ((hf k).1 hk)) λj p hj => ?_
 rcases ax_ hj with⟨rfl,rfl⟩|⟨h1,h2⟩
 .exact .inl ⟨rfl,rfl⟩
 .exact .inr ⟨h1,.inl h1,h2⟩
theorem prepB_ok{z:Fz}{g:Ga}{H:Nat->Option (Obj E)}(ws:List (Option (TypeId×Ty)))(id n:Nat)(hH:HR P E Bs F0 w0 w z g H)(hf:Fresh g n) :
  ∃u n' g',(∀{α:Type} (k:Chs E->Nat->α),prepB H ws id n k=k u n')/\g.Le g'/\Fresh g' n'/\HR P E Bs F0 w0 w z g' (upH H u)/\n'<=n+u.length/\∀i o,(i,o)∈u->o≠none:=by
 unfold prepB;split
 .rename_i T cs hi;obtain⟨l,u,m,g',h1,h2,h3,h4,h5,h6,h7,h8⟩:=dW_ ws cs hH hf;cases u with
  | nil=>exact⟨[],n,g,(λk=>h1 _),Ga.Le.refl g,hf,hH,Nat.le_refl _,λ_ _ h=>nomatch h⟩
  | cons p u =>
   obtain⟨lo,hl⟩:=(hH.hold _ _ hi).loc;have hj:id<n:=by
    rcases Nat.lt_or_ge id n with h8|h8
    .exact h8
    .rw[hf id h8]at hl;cases hl
   have hju:upH H (p::u) id=some (.box T cs):=(upH_far (λi o h=>(h6 i o h).1) hj).trans hi;have h8':=h4.up (Ga.Le.refl g') hju (o2 := .box T l) (λz w ho=>by
    obtain⟨lo',vs,k1,k2,k3⟩:=ho;exact⟨lo',vs,k1,k2,h5 z g' vs (Ga.Le.refl g') k3⟩) (λk=>Iff.rfl)
   refine⟨(id,some (.box T l))::p::u,m,g',(λk=>h1 _),h2,h3,?_,by simp only[qLc]at h8 ⊢;omega,λi o ho => ?_⟩
   .rw[ao_]at h8';exact h8'
   .rcases List.mem_cons.1 ho with ho|ho
    .obtain⟨_,rfl⟩:=Prod.mk.inj ho;exact λe=>nomatch e
    .exact(h6 i o ho).2
 .exact⟨[],n,g,(λk=>rfl),Ga.Le.refl g,hf,hH,Nat.le_refl _,λ_ _ h=>nomatch h⟩
theorem PrepA.skip{z:Fz}{g:Ga}{H:Nat->Option (Obj E)}{p:Pm}{ps:List Pm}{x:V1 E}{xs:List (V1 E)}{n:Nat}(h:PrepA P E Bs F0 w0 w z g H ps xs n)(he:∀{α:Type} (k:List (V1 E)->Chs E->Nat->α),e1_ E (p::ps) H (x::xs) n k=e1_ E ps H xs n λxs' u n'=>k (x::xs') u n') :
  PrepA P E Bs F0 w0 w z g H (p::ps) (x::xs) n:=by
 obtain⟨xs',u,n',g',h1,h2,h3,h4,h5,h6⟩:=h;exact⟨x::xs',u,n',g',(λk=>(he k).trans (h1 _)),h2,h3,h4,(λz2 g2 vs hz hg hv=>by
  cases hv with
  | cons hx hr=>exact .cons hx (h5 z2 g2 _ hz hg hr)),h6⟩
theorem prepA_ok {z:Fz}:∀(ps:List Pm) {H:Nat->Option (Obj E)} (xs:List (V1 E)) {n:Nat} {g:Ga},HR P E Bs F0 w0 w z g H->Fresh g n->PrepA P E Bs F0 w0 w z g H ps xs n:=by
 intro ps
 induction ps with
 | nil =>
  intro H xs n g hH hf;exact⟨xs,[],n,g,(λk=>by cases xs<;>rfl),Ga.Le.refl g,hf,hH,(λ_ _ _ _ _ h=>h),Nat.le_refl _,λ_ _ h=>nomatch h⟩
 | cons p ps ih =>
  intro H xs n g hH hf;cases xs with
  | nil=>exact⟨[],[],n,g,(λk=>by cases p<;>rfl),Ga.Le.refl g,hf,hH,(λ_ _ _ _ _ h=>h),Nat.le_refl _,λ_ _ h=>nomatch h⟩
  | cons x xs =>
   have row:∀(t:Ty) (m:Mk),(∀{α:Type} (k:List (V1 E)->Chs E->Nat->α),e1_ E (p::ps) H (x::xs) n k=fI_ E t m x n λx' u n1=>e1_ E ps (upH H u) xs n1 λxs' u' n2=>k (x'::xs') (u'++u) n2)->PrepA P E Bs F0 w0 w z g H (p::ps) (x::xs) n:=λt m he=>by
    obtain⟨x',u,n1,g1,h1,h2,h3,h4,h5,h6,h7,h8⟩:=prepV_ok t m x hH hf;obtain⟨xs',u',n2,g2,k1,k2,k3,k4,k5,k6,k7⟩:=ih xs h4 h3;refine⟨x'::xs',u'++u,n2,g2,(λk=>(he k).trans ((h1 _).trans (k1 _))),h2.trans k2,k3,by rw[←ao_];exact k4,(λz3 g3 vs hz hg hv => ?_),by rw[qLa];omega,λi o ho => ?_⟩
    .cases hv with
     | cons hx hr=>exact .cons (h5 z3 g3 _ (k2.trans hg) hx) (k5 z3 g3 _ hz hg hr)
    .rcases List.mem_append.1 ho with ho|ho
     .exact k7 i o ho
     .exact(h6 i o ho).2
   cases p with
   | l t m=>exact row t m λk=>rfl
   | g t m=>exact row t m λk=>rfl
   | bm T t m px =>
    cases x with
    | agg l=>exact(ih xs hH hf).skip λk=>rfl
    | one c =>
     cases c with
     | ptr id off =>
      cases off with
      | succ off=>exact(ih xs hH hf).skip λk=>rfl
      | zero =>
       obtain⟨u,n1,g1,h1,h2,h3,h4,h5,h6⟩:=prepB_ok (wantP (pxB px ps) m (E.flat t)) id n hH hf;obtain⟨xs',u',n2,g2,k1,k2,k3,k4,k5,k6,k7⟩:=ih (hidX H (pxB px ps) id++xs) h4 h3;refine⟨.one (.ptr id 0)::xs'.drop (hidX H (pxB px ps) id).length,u'++u,n2,g2,(λk=>(h1 _).trans (k1 _)),h2.trans k2,k3,by rw[←ao_];exact k4,(λz3 g3 vs hz hg hv => ?_),by rw[qLa];omega,λi o ho => ?_⟩
       .cases hv with
        | cons hx hr =>
         refine .cons hx ?_;unfold hidX at k5 ⊢;split at k5
         .rename_i hi;obtain⟨lo,vs0,_,_,hvs⟩:=hH.hold _ _ hi;cases hvs with
          | cons hp _ =>
           obtain⟨l2,hl2,_⟩:=hp;have hq:∃l,g3 _=some l/\Value.pointer (some ⟨l2.b,0,none⟩)=Value.pointer (some ⟨l.b,0,none⟩):=⟨l2,hg _ _ (k2 _ _ (h2 _ _ hl2)),rfl⟩;have:=k5 z3 g3 (Value.pointer (some ⟨l2.b,0,none⟩)::_) hz hg (All2.cons hq hr);cases this with
           | cons _ h9=>exact h9
         .exact k5 z3 g3 _ hz hg hr
       .rcases List.mem_append.1 ho with ho|ho
        .exact k7 i o ho
        .exact h6 i o ho
     | _=>exact(ih xs hH hf).skip λk=>rfl
   | d t=>exact(ih xs hH hf).skip λk=>rfl
   | b T t=>exact(ih xs hH hf).skip λk=>rfl
   | p t=>exact(ih xs hH hf).skip λk=>rfl
   | mp T k v=>exact(ih xs hH hf).skip λk=>rfl
   | f1 a r=>exact(ih xs hH hf).skip λk=>rfl
   | f2 a b r=>exact(ih xs hH hf).skip λk=>rfl
end
section
variable{P:Program}{E:TE}{z z':Fz}{g g':Ga}{nx:Nat}{w w' w0:World}{H H':Nat->Option (Obj E)}{L:Nat->Option (SV E)}{ρ:Operand->Value}{o:Oper}{Bs:List Nat}{F0:Nat->Prop}{R:Type}{r:R}
def fJ_(E:TE)(L:Nat->Option (SV E)):List Operand->Option (List (V1 E))
 | []=>some []
 | x::l=>match opS E L x,fJ_ E L l with
  | some (.v v),some vs=>some (v::vs)
  | _,_=>none
theorem dX_(hρ:OpR P E z g L ρ):∀{l:List Operand} {xs:List (V1 E)},fJ_ E L l=some xs->All2 (R1 P E z g) xs (l.map ρ)
 | [],xs,h=>by simp only[fJ_,qOi]at h;subst h;exact .nil
 | x::l,xs,h=>by
  simp only[fJ_]at h;split at h
  .rename_i v vs hv hvs;obtain rfl:=qSj h;exact .cons (hρ x _ hv) (dX_ hρ hvs)
  .cases h
theorem mL_{f:FuncId}{args:Array Operand}{ats:Array TypeId}(ho:o.op = .call { callee := .value (.func f),args:=args,argTypes:=ats })(hf:ρ (.func f) = .func (.func f) #[] #[])(hb:bo_ P f=true)(w:World) :
  (execOp ρ o).run P w = .ok (.enter f (args.toList.map ρ).toArray) w:=by
 unfold execOp;rw[ho];simp only[resolve,hf,Deferred.ofValue,Sem.run_bind,Sem.run_pure,Result.andThen_ok,invoke];have e:(#[]++args.map ρ ++ #[]:Array Value)=(args.toList.map ρ).toArray:=by
  rw[←List.map_toArray];simp
 rw[e];exact jC_ hb
theorem hg_{x:Operand}{f:FuncId}{caps:Array Value}{args:Array Operand}{ats:Array TypeId}(ho:o.op = .call { callee := .value x,args:=args,argTypes:=ats })(hf:ρ x = .func (.func f) #[] caps)(hb:bo_ P f=true)(w:World) :
  (execOp ρ o).run P w = .ok (.enter f ((args.toList.map ρ).toArray++caps)) w:=by
 unfold execOp;rw[ho];simp only[resolve,hf,Deferred.ofValue,Sem.run_bind,Sem.run_pure,Result.andThen_ok,invoke];have e:(#[]++args.map ρ++caps:Array Value)=(args.toList.map ρ).toArray++caps:=by
  rw[←List.map_toArray];simp
 rw[e];exact jC_ hb
theorem iq_{t:Ty}{x:V1 E}{d:Den E.S t}{v:Value}(hH:HR P E Bs F0 w0 w z g H)(h:takeD E H t x=some d)(hr:R1 P E z g x v):RT E z t d v:=by
 unfold takeD at h;split at h
 .rename_i hd hf hh;obtain rfl:=qSj h;cases x with
  | one c =>
   have:=bI_ hH hh (.cons hr .nil:All2 (RC P E z g) [c] [v]);cases t with
   | st n=>cases hf
   | int k=>exact this
   | bool=>exact this
   | str=>exact this
   | sl e=>exact this
  | agg l =>
   obtain⟨vs,rfl,hr⟩:=hr;have:=bI_ hH hh hr;cases t with
   | st n =>
    have h2:RD E z (E.flat (.st n)) (E.fl (.st n) (E.ufl (.st n) hd)) vs:=by rw[E.fl_ufl];exact this
    exact⟨vs,rfl,h2⟩
   | _=>cases hf
 .cases h
def lCallV(E:TE)(L:Nat->Option (SV E))(H:Nat->Option (Obj E))(x:Operand)(args:List Operand){R:Type}(k:Option (SV E)->Chs E->Option R):Option R :=
 match opS E L x,fJ_ E L args with
 | some (.v (.one (.fn1 a r f))),some [u]=>match takeD E H a u with
  | some d=>Option.bind (f d) λy=>k (some (.v (.one (.dt r y)))) []
  | none=>none
 | some (.v (.one (.fn2 a b r f))),some [u,v]=>match takeD E H a u,takeD E H b v with
  | some d,some e=>Option.bind (f d e) λy=>k (some (.v (.one (.dt r y)))) []
  | _,_=>none
 | _,_=>none
theorem lCallV_ok{x:Operand}{args:List Operand}{k:Option (SV E)->Chs E->Option R}(hρ:OpR P E z g L ρ)(hH:HR P E Bs F0 w0 w z g H)(h:lCallV E L H x args k=some r) :
  ∃f caps s,ρ x = .func (.func f) #[] caps/\bo_ P f=true/\k (some s) []=some r/\Ret P f ((args.map ρ).toArray++caps) w λv w'=>RV P E z g s v/\Ext w w':=by
 unfold lCallV at h;split at h
 .rename_i a r' f u hx hu;split at h
  .rename_i d hd;obtain⟨y,hy,h⟩:=bind_some h;obtain⟨fid,caps,e,⟨hb,hfl⟩,hc⟩:=hρ x _ hx;have hargs:=dX_ hρ hu;generalize args.map ρ=vs at hargs;cases hargs with
   | cons h1 h2 =>
    cases h2
    exact⟨fid,caps,_,e,hb,h,hc w z (d,()) y _ (Fz.Le.refl z) hH.fz ⟨_,_,rfl,iq_ hH hd h1,rfl⟩ hy⟩
  .cases h
 .rename_i a b r' f u v hx hu;split at h
  .rename_i d e' hd he;obtain⟨y,hy,h⟩:=bind_some h;obtain⟨fid,caps,e,⟨hb,hfl⟩,hc⟩:=hρ x _ hx;have hargs:=dX_ hρ hu;generalize args.map ρ=vs at hargs;cases hargs with
   | cons h1 h2 =>
    cases h2 with
    | cons h2 h3 =>
     cases h3
     exact⟨fid,caps,_,e,hb,h,hc w z (d,e',()) y _ (Fz.Le.refl z) hH.fz ⟨_,_,rfl,iq_ hH hd h1,_,_,rfl,iq_ hH he h2,rfl⟩ hy⟩
  .cases h
 .cases h
def capsV(E:TE):List Nat->List (V1 E) | []=>[]|i::l => .one (.ptr i 0)::capsV E l
theorem lT_:∀{ids:List Nat} {us:List Value},All2 (λid u=>∃l,g id=some l/\u=Value.pointer (some ⟨l.b,0,none⟩)) ids us->All2 (R1 P E z g) (capsV E ids) us
 | [],_,h=>by cases h;exact .nil
 | i::ids,_,h=>by
  cases h with
  | cons h1 h2=>exact .cons h1 (lT_ h2)
def psOf(tab:Tab E)(f:FuncId):List Pm:=match tab f with|some C=>C.ps|none=>[]
def pCall(E:TE)(tab:Tab E)(H:Nat->Option (Obj E))(nx:Nat)(f:FuncId)(xs:List (V1 E)){R:Type}(k:Option (SV E)->Chs E->Option R):Option R:=e1_ E (psOf tab f) H xs nx λxs u n=>lCall E tab (upH H u) n f xs λs u'=>k s (u'++u)
theorem nxU_app{nx n':Nat}{u u':Chs E}(h:n'<=nx+u.length)(hu:∀i o,(i,o)∈u->o≠none):nxU n' u'<=nxU nx (u'++u):=by
 cases u' with
 | nil =>
  cases u with
  | nil=>simp only[List.length_nil]at h;simp only[nxU,List.append_nil];omega
  | cons p u =>
   obtain⟨i,o⟩:=p;cases o with
   | none=>exact(hu i none (List.mem_cons_self ..) rfl).elim
   | some o=>simp only[qLc]at h;simp only[nxU,List.nil_append];omega
 | cons p u' =>
  obtain⟨i,o⟩:=p;cases o with
  | some o=>simp only[nxU,List.cons_append,qLa];omega
  | none =>
   simp only[nxU,List.cons_append,qLa];cases h1:Nat.ble (n'+1+(u'.length+1)) (i+1)<;>cases h2:Nat.ble (nx+1+(u'.length+List.length u+1)) (i+1)<;>simp only
   .omega
   .have h3:=Nat.le_of_ble_eq_true h2;have h4:n'+1+(u'.length+1)<=i+1:=by omega
    rw[Nat.ble_eq_true_of_le h4]at h1;cases h1
   .have h3:¬(nx+1+(u'.length+List.length u+1)<=i+1):=λhle=>by rw[Nat.ble_eq_true_of_le hle]at h2;cases h2
    omega
   .exact Nat.le_refl _
theorem pCall_ok{tab:Tab E}(ht:tab.OK P E){f:FuncId}{xs:List (V1 E)}{vs:List Value}{R:Type}{k:Option (SV E)->Chs E->Option R}{r:R}(hnx:Fresh g nx)(hH:HR P E Bs F0 w0 w z g H)(hv:All2 (R1 P E z g) xs vs)(h:pCall E tab H nx f xs k=some r) :
  bo_ P f=true/\Ret P f vs.toArray w λv w'=>∃s u z2 g2,k (some s) u=some r/\z.Le z2/\g.Le g2/\Fresh g2 (nxU nx u)/\RV P E z2 g2 s v/\HR P E Bs F0 w0 w' z2 g2 (upH H u)/\(dD_ tab f=false->Ext w w'):=by
 unfold pCall at h;obtain⟨xs',u,n',g',h1,h2,h3,h4,h5,h6,h7⟩:=prepA_ok (psOf tab f) xs hH hnx;rw[h1]at h;obtain⟨hb,hr⟩:=lCall_ok ht h3 h4 (h5 z g' vs (Fz.Le.refl z) (Ga.Le.refl g') (hv.mono λ_ _ hx=>R1.le hx (Fz.Le.refl z) h2)) h;refine⟨hb,hr.mono λv w' ⟨s,u',z2,g2,k1,k2,k3,k4,k5,k6,k7⟩=>⟨s,u'++u,z2,g2,k1,k2,h2.trans k3,λi hi=>k4 i (Nat.le_trans (nxU_app h6 h7) hi),k5,?_,k7⟩⟩;rw[ao_]at k6;exact k6
noncomputable def evOp(P:Program)(E:TE)(eqs:List (Nat×Nat))(tab:Tab E)(L:Nat->Option (SV E))(H:Nat->Option (Obj E))(nx:Nat)(o:Oper){R:Type}(k:Option (SV E)->Chs E->Option R):Option R :=
 match o.op with
 | .box T x=>lBox E L nx T x k
 | .alloc T=>lAlloc P E nx T k
 | .store T x y=>lStore P E L H T x y k
 | .buildSlice T n ps=>lSlice P E L H nx T n ps k
 | .makeSlice T x y=>lMake P E L nx T x y k
 | .makeMap T none=>lO_ P E nx T k
 | .mapUpdate T m x y=>lMapUpd P E eqs L H T m x y k
 | .mapEntry T m x=>lMapEnt P E eqs L H nx T m x k
 | .entryStore _ m x y=>lEntSt E L H m x y k
 | .call { callee := .builtin .append,args:=⟨[x,y]⟩,argTypes:=⟨[T,T']⟩ }=>match Nat.beq T T' with
  | true=>lApp P E L H nx T x y k
  | false=>match P.underlying T' with
   | some (.int _)=>lAppN P E L nx T T' x y k
   | _=>lAppS P E L H nx T T' x y k
 | .call { callee := .builtin .copy,args:=⟨[x,y]⟩,argTypes:=⟨[T,_]⟩ }=>lCopy P E L H T x y k
 | .call { callee := .builtin .clear,args:=⟨[x]⟩,argTypes:=⟨[T]⟩ }=>lClear P E L H T x k
 | .call { callee := .value (.func f),args:=args,argTypes:=_ }=>match fJ_ E L args.toList with
  | some xs=>pCall E tab H nx f xs k
  | none=>none
 | .call { callee := .value (.tmp t),args:=args,argTypes:=_ }=>match L t with
  | some (.v (.one (.clo f ids)))=>match fJ_ E L args.toList with
   | some xs=>pCall E tab H nx f (xs++capsV E ids) k
   | none=>none
  | _=>lCallV E L H (.tmp t) args.toList k
 | _=>qOp P E eqs L H nx o λs up=>k (some s) (match up with|none=>[]|some (i,p)=>[(i,some p)])
def bw_(tab:Tab E)(L:Nat->Option (SV E))(o:Oper):Bool:=match o.op with
 | .store .. => false
 | .mapUpdate .. => false
 | .mapEntry .. => false
 | .entryStore .. => false
 | .call { callee := .builtin .append,args:=_,argTypes:=_ }=>false
 | .call { callee := .builtin .copy,args:=_,argTypes:=_ }=>false
 | .call { callee := .builtin .clear,args:=_,argTypes:=_ }=>false
 | .call { callee := .value (.func f),args:=_,argTypes:=_ } => !(dD_ tab f)
 | .call { callee := .value (.tmp t),args:=_,argTypes:=_ }=>match L t with
  | some (.v (.one (.clo f _))) => !(dD_ tab f)
  | _=>true
 | _=>true
theorem f7_{eqs:List (Nat×Nat)}{tab:Tab E}{N:Nat}{a:Act}{K:Act->World->Prop}{Q:Exit->Act->World->Prop}{k:Option (SV E)->Chs E->Option R}(heq:∀p∈eqs,ap_ P E p.1 p.2)(ht:tab.OK P E)(hnx:Fresh g nx)(hE:ER P E z g N a L)(hH:HR P E Bs F0 w0 w z g H)
  (h:evOp P E eqs tab L H nx o k=some r)
  (hK:∀s u v w' z2 g2,k s u=some r->z.Le z2->g.Le g2->ER P E z2 g2 N a L->HR P E Bs F0 w0 w' z2 g2 (upH H u)->Fresh g2 (nxU nx u)->(∀sv,s=some sv->RV P E z2 g2 sv v)->(bw_ tab L o=true->Ext w w')->K (a.put o.dst v) w'):o.wp P a w K Q:=by
 have hρ:=hE.op hH.gl;have hρc:∀v,a.eval (.const v)=v:=λv=>rfl
 have loud:∀{ex:Bool},(bw_ tab L o=true->ex=true)->bA_ P E Bs F0 w0 w z g nx H a.eval o ex k r->o.wp P a w K Q:=by
  rintro ex hex ⟨s,u,z2,g2,w',n,hk,ht⟩;unfold Oper.wp;rw[ht.run];have hfr:Fresh g2 (nxU nx u):=Fresh.nxU λi hi=>ht.fresh i (by omega)
  cases s with
  | some sv =>
   obtain⟨v,rfl,hv⟩:=ht.val;exact hK _ u v w' z2 g2 hk ht.le ht.leg (hE.le ht.le ht.leg) ht.hr hfr (λsv' e=>by obtain rfl:=qSj e;exact hv) λhm=>ht.ext (hex hm)
  | none =>
   have hn:n = .skip:=ht.val;subst hn;exact hK none u undef w' z2 g2 hk ht.le ht.leg (hE.le ht.le ht.leg) ht.hr hfr (λsv' e=>by cases e) λhm=>ht.ext (hex hm)
 unfold evOp at h;split at h
 .rename_i T x ho;exact loud (λ_=>rfl) (lBox_ok ho hnx hρ hH h)
 .rename_i T ho;exact loud (λ_=>rfl) (lAlloc_ok ho hnx hH h)
 .rename_i T x y ho;exact loud (λhm=>by simp[bw_,ho]at hm) (lStore_ok ho hnx hρ hH h)
 .rename_i T n ps ho;exact loud (λ_=>rfl) (lSlice_ok ho hnx hρ hH h)
 .rename_i T x y ho;exact loud (λ_=>rfl) (lMake_ok ho hρc hnx hρ hH h)
 .rename_i T ho;exact loud (λ_=>rfl) (lMakeMap_ok ho hnx hH h)
 .rename_i T m x y ho;exact loud (λhm=>by simp[bw_,ho]at hm) (lMapUpd_ok heq ho hnx hρ hH h)
 .rename_i T m x ho;exact loud (λhm=>by simp[bw_,ho]at hm) (lMapEnt_ok heq ho hnx hρ hH h)
 .rename_i T m x y ho;exact loud (λhm=>by simp[bw_,ho]at hm) (lEntSt_ok ho hnx hρ hH h)
 .rename_i x y T T' ho;split at h
  .rename_i hb;obtain rfl:=qNb hb;exact loud (λhm=>by simp[bw_,ho]at hm) (lApp_ok ho hnx hρ hH h)
  .split at h
   .exact loud (λhm=>by simp[bw_,ho]at hm) (lAppN_ok ho hnx hρ hH h)
   .exact loud (λhm=>by simp[bw_,ho]at hm) (lAppS_ok ho hnx hρ hH h)
 .rename_i x y T T2 ho;exact loud (λhm=>by simp[bw_,ho]at hm) (lCopy_ok ho hnx hρ hH h)
 .rename_i x T ho;exact loud (λhm=>by simp[bw_,ho]at hm) (lClear_ok ho hnx hρ hH h)
 .rename_i f args ats ho;split at h
  .rename_i xs hxs;obtain⟨hb,hret⟩:=pCall_ok ht hnx hH (dX_ hρ hxs) h;unfold Oper.wp;rw[mL_ ho rfl hb];simp only[Oper.upon];refine Calls.mono hret λe w' ⟨v,he,s,u,z2,g2,hk,h1,h2,h3,h4,h5,h6⟩ => ?_
   subst he;exact hK _ u v w' z2 g2 hk h1 h2 (hE.le h1 h2) h5 h3 (λsv' e=>by obtain rfl:=qSj e;exact h4) λhm=>h6 (by simpa[bw_,ho]using hm)
  .cases h
 .rename_i t args ats ho;split at h
  .rename_i f ids hL;split at h
   .rename_i xs hxs;obtain⟨us,hf,hus⟩:=hρ (.tmp t) _ hL;obtain⟨hb,hret⟩:=pCall_ok ht hnx hH ((dX_ hρ hxs).append (lT_ hus)) h;unfold Oper.wp;rw[hg_ ho hf hb];simp only[Oper.upon];have e:(args.toList.map a.eval).toArray++us.toArray=(args.toList.map a.eval++us).toArray:=by simp
    rw[e];refine Calls.mono hret λe w' ⟨v,he,s,u,z2,g2,hk,h1,h2,h3,h4,h5,h6⟩ => ?_
    subst he;exact hK _ u v w' z2 g2 hk h1 h2 (hE.le h1 h2) h5 h3 (λsv' e=>by obtain rfl:=qSj e;exact h4) λhm=>h6 (by simpa[bw_,ho,hL]using hm)
   .cases h
  .obtain⟨f,caps,s,hf,hb,hk,hret⟩:=lCallV_ok hρ hH h;unfold Oper.wp;rw[hg_ ho hf hb];simp only[Oper.upon];refine Calls.mono hret λe w' ⟨v,he,hv,hx⟩ => ?_
   subst he;exact hK _ [] v w' z g hk (Fz.Le.refl z) (Ga.Le.refl g) hE (hH.ext hx) (Fresh.nxU λi hi=>hnx i (by omega)) (λsv' e=>by obtain rfl:=qSj e;exact hv) λ_=>hx
 .obtain⟨s,v,up,g2,hk,hg,hgn,hv,hrun,hup⟩:=qOp_ok (W:=w) (I:=λw'=>w'=w) heq hnx.self hρ hH (λw' e=>by subst e;exact Stands.refl hH) h;unfold Oper.wp;rw[hrun w rfl];have hfr:∀m,Fresh g2 (nx+1+m):=λm i hi=>by rw[hgn i (by omega)];exact hnx i (by omega)
  cases up with
  | none =>
   obtain rfl:=hup;exact hK _ [] v w z g2 hk (Fz.Le.refl z) (Ga.Le.refl g2) hE hH (hfr _).nxU (λsv' e=>by obtain rfl:=qSj e;exact hv) λ_=>Ext.refl w
  | some p =>
   obtain⟨i,o2⟩:=p;obtain⟨o1,h1,h2,h3⟩:=hup;exact hK _ [(i,some o2)] v w z g2 hk (Fz.Le.refl z) hg (hE.le (Fz.Le.refl z) hg) (hH.up hg h1 h2 h3) (hfr _).nxU (λsv' e=>by obtain rfl:=qSj e;exact hv) λ_=>Ext.refl w
theorem evOp_ok{eqs:List (Nat×Nat)}{tab:Tab E}{N:Nat}{a:Act}{K:Act->World->Prop}{Q:Exit->Act->World->Prop}{k:Option (SV E)->Chs E->Option R}(heq:∀p∈eqs,ap_ P E p.1 p.2)(ht:tab.OK P E)(hnx:Fresh g nx)(hE:ER P E z g N a L)(hH:HR P E Bs F0 w0 w z g H)
  (h:evOp P E eqs tab L H nx o k=some r)
  (hK:∀s u v w' z2 g2,k s u=some r->z.Le z2->g.Le g2->ER P E z2 g2 N a L->HR P E Bs F0 w0 w' z2 g2 (upH H u)->Fresh g2 (nxU nx u)->(∀sv,s=some sv->RV P E z2 g2 sv v)->K (a.put o.dst v) w'):o.wp P a w K Q :=
 f7_ heq ht hnx hE hH h λs u v w' z2 g2 h1 h2 h3 h4 h5 h6 h7 _=>hK s u v w' z2 g2 h1 h2 h3 h4 h5 h6 h7
end
section
variable{P:Program}{E:TE}{z z':Fz}{g g':Ga}{nx:Nat}{w w' W w0:World}{I:World->Prop}{H H':Nat->Option (Obj E)}{L:Nat->Option (SV E)}{ρ:Operand->Value}{o:Oper}{Bs:List Nat}{F0:Nat->Prop}{R:Type}{r:R}
def SC.enc:SC E->Option Value | .dt (.int k) n=>some (.int k n) | .dt .bool b=>some (.bool b) | .dt .str s=>some (S s)|_=>none
def encCs:List (SC E)->Option (List Value)
 | []=>some []
 | c::l=>match c.enc,encCs l with
  | some v,some vs=>some (v::vs)
  | _,_=>none
def V1.enc:V1 E->Option Value
 | .one c=>c.enc
 | .agg l=>match encCs l with
  | some vs=>some (.agg vs.toArray)
  | none=>none
def encVs:List (V1 E)->Option (List Value)
 | []=>some []
 | c::l=>match c.enc,encVs l with
  | some v,some vs=>some (v::vs)
  | _,_=>none
def SV.enc:SV E->Option Value
 | .v x=>x.enc
 | .tup l=>match encVs l with
  | some vs=>some (.tuple vs.toArray)
  | none=>none
theorem SC.enc_ok{c:SC E}{u v:Value}(h:c.enc=some u):RC P E z g c v↔v=u:=by
 unfold SC.enc at h;split at h
 .obtain rfl:=qSj h;exact⟨λhr=>by obtain⟨vs,e,_⟩:=RD.int_inv (hr:RD E z _ _ [v]);simp at e;exact e.1,λe=>by subst e;exact RD.int .nil⟩
 .obtain rfl:=qSj h;exact⟨λhr=>by obtain⟨vs,e,_⟩:=RD.bool_inv (hr:RD E z _ _ [v]);simp at e;exact e.1,λe=>by subst e;exact RD.bool .nil⟩
 .obtain rfl:=qSj h;exact⟨λhr=>by obtain⟨vs,e,_⟩:=RD.str_inv (hr:RD E z _ _ [v]);simp at e;exact e.1,λe=>by subst e;exact RD.str .nil⟩
 .cases h
theorem ir_:∀{l:List (SC E)} {us vs:List Value},encCs l=some us->(All2 (RC P E z g) l vs↔vs=us)
 | [],us,vs,h=>by
  obtain rfl:=qSj h;exact⟨λh=>by cases h;rfl,λe=>by subst e;exact .nil⟩
 | c :: l,us,vs,h=>by
  simp only[encCs]at h;split at h
  .rename_i v vs' hv hvs;obtain rfl:=qSj h;refine⟨λh => ?_,λe => ?_⟩
   .cases h with
    | cons h1 h2 =>
     obtain rfl:=(SC.enc_ok hv).1 h1;obtain rfl:=(ir_ hvs).1 h2;rfl
   .subst e;exact .cons ((SC.enc_ok hv).2 rfl) ((ir_ hvs).2 rfl)
  .cases h
theorem V1.enc_ok{x:V1 E}{u v:Value}(h:x.enc=some u):R1 P E z g x v↔v=u:=by
 cases x with
 | one c=>exact SC.enc_ok h
 | agg l =>
  simp only[V1.enc]at h;split at h
  .rename_i vs hvs;obtain rfl:=qSj h;exact⟨λ⟨us,e,hu⟩=>by obtain rfl:=(ir_ hvs).1 hu;exact e,λe=>⟨vs,e,(ir_ hvs).2 rfl⟩⟩
  .cases h
theorem f8_:∀{l:List (V1 E)} {us vs:List Value},encVs l=some us->(All2 (R1 P E z g) l vs↔vs=us)
 | [],us,vs,h=>by
  obtain rfl:=qSj h;exact⟨λh=>by cases h;rfl,λe=>by subst e;exact .nil⟩
 | c :: l,us,vs,h=>by
  simp only[encVs]at h;split at h
  .rename_i v vs' hv hvs;obtain rfl:=qSj h;refine⟨λh => ?_,λe => ?_⟩
   .cases h with
    | cons h1 h2 =>
     obtain rfl:=(V1.enc_ok hv).1 h1;obtain rfl:=(f8_ hvs).1 h2;rfl
   .subst e;exact .cons ((V1.enc_ok hv).2 rfl) ((f8_ hvs).2 rfl)
  .cases h
theorem SV.enc_ok{x:SV E}{u v:Value}(h:x.enc=some u):RV P E z g x v↔v=u:=by
 cases x with
 | v x=>exact V1.enc_ok h
 | tup l =>
  simp only[SV.enc]at h;split at h
  .rename_i vs hvs;obtain rfl:=qSj h;exact⟨λ⟨us,e,hu⟩=>by obtain rfl:=(f8_ hvs).1 hu;exact e,λe=>⟨vs,e,(f8_ hvs).2 rfl⟩⟩
  .cases h
def qCall(E:TE)(tab:Tab E)(H:Nat->Option (Obj E))(nx:Nat)(f:FuncId)(xs:List (V1 E)){R:Type}(k:Option (SV E)->Chs E->Option R):Option R :=
 match dD_ tab f with
 | true=>none
 | false=>lCall E tab H nx f xs λs u=>match s,u with
  | some sv,[]=>match sv.enc with
   | some _=>k (some sv) []
   | none=>none
  | _,_=>none
noncomputable def eo_(P:Program)(E:TE)(eqs:List (Nat×Nat))(tab:Tab E)(L:Nat->Option (SV E))(H:Nat->Option (Obj E))(nx:Nat)(o:Oper){R:Type}(k:Option (SV E)->Chs E->Option R):Option R :=
 match o.op with
 | .call { callee := .value (.func f),args:=args,argTypes:=_ }=>match fJ_ E L args.toList with
  | some xs=>qCall E tab H nx f xs k
  | none=>none
 | .call { callee := .value (.tmp t),args:=args,argTypes:=_ }=>match L t with
  | some (.v (.one (.clo f ids)))=>match fJ_ E L args.toList with
   | some xs=>qCall E tab H nx f (xs++capsV E ids) k
   | none=>none
  | _=>none
 | _=>qOp P E eqs L H nx o λs up=>k (some s) (match up with|none=>[]|some (i,p)=>[(i,some p)])
def Keeps(P:Program)(E:TE)(z:Fz)(g:Ga)(H:Nat->Option (Obj E))(W w:World):Prop:=Stands z g H W w/\∃Bs F0 w0,HR P E Bs F0 w0 w z g H
theorem Keeps.of_ext(hH:HR P E Bs F0 w0 W z g H)(h:Ext W w):Keeps P E z g H W w:=⟨Stands.of_ext hH h,_,_,_,hH.ext h⟩
def Quiet(P:Program)(E:TE)(Bs:List Nat)(F0:Nat->Prop)(w0 W:World)(I:World->Prop)(z:Fz)(g:Ga)(nx:Nat)(H:Nat->Option (Obj E))(ρ:Operand->Value)(o:Oper){R:Type}(k:Option (SV E)->Chs E->Option R)(r:R):Prop:=∃s u v g2,k (some s) u=some r/\g.Le g2/\HR P E Bs F0 w0 W z g2 (upH H u)/\Fresh g2 (nx+1+u.length)/\RV P E z g2 s v/\∀w',I w'->Oper.quietUponX P w' v ((execOp ρ o).run P w')
theorem qCall_ok{tab:Tab E}(ht:tab.OK P E)(hnx:Fresh g nx)(hH:HR P E Bs F0 w0 W z g H)(hI:∀w',I w'->Keeps P E z g H W w'){f:FuncId}{xs:List (V1 E)}{vs:List Value}{k:Option (SV E)->Chs E->Option R}(hv:All2 (R1 P E z g) xs vs)(h:qCall E tab H nx f xs k=some r)
  (hrun:bo_ P f=true->∀w',(execOp ρ o).run P w' = .ok (.enter f vs.toArray) w'):Quiet P E Bs F0 w0 W I z g nx H ρ o k r:=by
 unfold qCall at h;split at h
 .cases h
 .rename_i hl;obtain⟨hb,s,u,hk,hret⟩:=lCall_ok2 ht (λC e=>by
   cases hI2:C.I with
   | none=>rfl
   | some I2 =>
    have h5:=((ht f C e).2.2 I2 hI2).1;unfold dD_ at hl;rw[e]at hl;simp only at hl;rw[h5]at hl;cases hl) hnx hv h
  split at hk
  .rename_i sv hsv;obtain rfl:=qSj hsv;split at hk
   .rename_i v hv';refine⟨_,[],v,g,hk,Ga.Le.refl g,hH,(λi hi=>hnx i (by omega)),(SV.enc_ok hv').2 rfl,λw' hw' => ?_⟩;rw[hrun hb w'];obtain⟨_,Bs',F0',w0',hH'⟩:=hI w' hw';refine⟨rfl,Calls.mono (hret Bs' F0' w0' w' hH') λe w'' ⟨v',he,z2,g2,_,_,_,h4,_,h6⟩ => ?_⟩;obtain rfl:=(SV.enc_ok hv').1 h4;exact⟨he,h6 hl⟩
   .cases hk
  .cases hk
theorem f9_{eqs:List (Nat×Nat)}{tab:Tab E}{N:Nat}{a:Act}{k:Option (SV E)->Chs E->Option R}(heq:∀p∈eqs,ap_ P E p.1 p.2)(ht:tab.OK P E)(hnx:Fresh g nx)(hE:ER P E z g N a L)(hH:HR P E Bs F0 w0 W z g H)(hI:∀w',I w'->Keeps P E z g H W w')
  (h:eo_ P E eqs tab L H nx o k=some r):Quiet P E Bs F0 w0 W I z g nx H a.eval o k r:=by
 have hρ:=hE.op hH.gl;unfold eo_ at h;split at h
 .rename_i f args ats ho;split at h
  .rename_i xs hxs;exact qCall_ok ht hnx hH hI (dX_ hρ hxs) h λhb w'=>mL_ ho rfl hb w'
  .cases h
 .rename_i t args ats ho;split at h
  .rename_i f ids hL;split at h
   .rename_i xs hxs;obtain⟨us,hf,hus⟩:=hρ (.tmp t) _ hL;refine qCall_ok ht hnx hH hI ((dX_ hρ hxs).append (lT_ hus)) h λhb w' => ?_
    rw[hg_ ho hf hb w'];simp
   .cases h
  .cases h
 .obtain⟨s,v,up,g2,hk,hg,hgn,hv,hrun,hup⟩:=qOp_ok (W:=W) (I:=I) heq hnx.self hρ hH (λw' hw'=>(hI w' hw').1) h;have hfr:∀m,Fresh g2 (nx+1+m):=λm i hi=>by rw[hgn i (by omega)];exact hnx i (by omega)
  have hq:∀w',I w'->Oper.quietUponX P w' v ((execOp a.eval o).run P w'):=λw' hw'=>by rw[hrun w' hw'];exact⟨rfl,rfl⟩
  cases up with
  | none =>
   obtain rfl:=hup;exact⟨s,[],v,g2,hk,Ga.Le.refl g2,hH,hfr _,hv,hq⟩
  | some p =>
   obtain⟨i,o2⟩:=p;obtain⟨o1,h1,h2,h3⟩:=hup;exact⟨s,[(i,some o2)],v,g2,hk,hg,hH.up hg h1 h2 h3,hfr _,hv,hq⟩
noncomputable def qFree(P:Program)(E:TE)(eqs:List (Nat×Nat))(L:Nat->Option (SV E))(o:Oper){R:Type}(k:SV E->Up E->Option R):Option R:=match o.op with | .move x=>qMove E L x k | .assign x=>qMove E L x k | .nilCheck x=>qNil E L x k | .extract x i=>if_ E L x i k | .field T x f=>qField P E L T x f k | .fieldAddr T x f=>fD_ P E L T x f k | .unOp _ _ _=>fC_ P E L o k | .binOp op T x y _=>qBin P E L (λ_=>none) eqs o op T x y k | .index T x i=>qIndex P E L T x i k | .slice T x lo hi none=>qSlice P E L (λ_=>none) T x lo hi k | .convert _ _ _=>fC_ P E L o k | .build T ps=>qBuild P E L T ps k | .makeFunc f first caps=>gN_ E L f first caps k | .call { callee := .builtin .len,args:=⟨[x]⟩,argTypes:=⟨[T]⟩ }=>qLen P E L (λ_=>none) T x k|_=>none
theorem dY_{eqs:List (Nat×Nat)}{k:SV E->Up E->Option R}(heq:∀p∈eqs,ap_ P E p.1 p.2)(hρ:OpR P E z g L ρ)(hH:HR P E Bs F0 w0 W z g (λ_=>none))(h:qFree P E eqs L o k=some r)(I:World->Prop):Good P E z g nx I (λ_=>none) ρ o k r:=by
 unfold qFree at h;split at h
 case h_1 x ho=>exact ie_ (.inl ho) hρ h
 case h_2 x ho=>exact ie_ (.inr ho) hρ h
 case h_3 x ho=>exact qNil_ok ho hρ h
 case h_4 x i ho=>exact k2_ ho hρ h
 case h_5 T x f ho=>exact qField_ok ho hρ h
 case h_6 T x f ho=>exact iZ_ ho hρ h
 case h_7=>exact dU_ hρ h
 case h_8 op T x y yt ho=>exact qBin_ok ho heq hρ hH h
 case h_9 T x i ho=>exact qIndex_ok ho hρ h
 case h_10 T x lo hi ho=>exact qSlice_ok ho hρ hH h
 case h_11=>exact dU_ hρ h
 case h_12 T ps ho=>exact qBuild_ok ho hρ h
 case h_13 f first caps ho=>exact jI_ ho hρ h
 case h_14 x T ho=>exact qLen_ok ho hρ hH h
 case h_15=>cases h
end
end Rt
open Go.RowKit
section
variable{P:Program}{ops:Array Oper}{md:Region.Mode}{Q:Exit->Act->World->Prop}
def Oper.quietI(P:Program)(o:Oper)(a:Act)(I:World->Prop)(next:Act->Prop):Prop:=∃v,(∀w,I w->Oper.quietUponX P w v ((execOp a.eval o).run P w))/\next (a.put o.dst v)
def aH_(P:Program)(ops:Array Oper)(tl fr:List Nat)(I:World->Prop)(Q:Exit->Act->World->Prop):List (Nat×Bool)->Act->World->Prop
 | [],a,w=>∀X d,Q .normal a (w.ext X d)
 | (i,true)::rest,a,w=>match ops[i]? with
  | none=>False
  | some o=>∀X d,wpList P ops (Exit.then (λa' w'=>(tl.contains i=false->I w->I w')/\aH_ P ops tl fr I Q rest a' w') (bj_ Q)) [o] a (w.ext X d)
 | (i,false)::rest,a,w=>match ops[i]? with
  | none=>False
  | some o=>if Region.wanted o (yielded ops a.tmps)then o.quietI P a (if fr.contains i then λ_=>True else I) (λa'=>aH_ P ops tl fr I Q rest a' w)else aH_ P ops tl fr I Q rest (a.put o.dst undef) w
def cd_(P:Program)(md:Region.Mode)(ops:Array Oper)(tl:List Nat)(I:World->Prop)(Q:Exit->Act->World->Prop):Nat->Bool->Array Bool->Act->World->Prop
 | 0,_,listed,a,w=>Region.ready md ops listed=[]/\∀X d,Q .normal a (w.ext X d)
 | fuel+1,st,listed,a,w =>
  (Region.ready md ops listed=[]->∀X d,Q .normal a (w.ext X d)) /\
  ∀i∈Region.ready md ops listed,∀X d,wpOp P ops (bj_ Q) i (λa' w'=>((st && !(tl.contains i))=true->I w')/\cd_ P md ops tl I Q fuel (st && !(tl.contains i)) (listed.setIfInBounds i true) a' w') a (w.ext X d)
theorem fK_{I:World->Prop}{tl:List Nat}:∀(fuel:Nat) (st:Bool) (listed:Array Bool) (a:Act) (w:World),cd_ P md ops tl I Q fuel st listed a w->wpAny P md ops Q fuel listed a w
 | 0,_,_,a,w,h=>⟨h.1,by have:=h.2 #[] w.drawn;rwa [←World.self_as_ext]at this⟩
 | fuel+1,_,_,a,w,h=>⟨λh0=>by have:=h.1 h0 #[] w.drawn;rwa [←World.self_as_ext]at this,λi hi=>by
   have:=h.2 i hi #[] w.drawn;rw[←World.self_as_ext]at this;exact wpOp_out (wpOp_mono (λa' w' h'=>fK_ fuel _ _ a' w' h'.2) this)⟩
theorem ep_{I:World->Prop}{tl:List Nat}:∀(fuel:Nat) (st:Bool) (listed:Array Bool) (a:Act) (w:World) (X:Array Obj) (d:Nat),cd_ P md ops tl I Q fuel st listed a w->cd_ P md ops tl I Q fuel st listed a (w.ext X d)
 | 0,_,_,a,w,X,d,h=>⟨h.1,λY e=>by rw[World.ext_ext];exact h.2 _ _⟩
 | fuel+1,_,_,a,w,X,d,h=>⟨λh0 Y e=>by rw[World.ext_ext];exact h.1 h0 _ _,λi hi Y e=>by rw[World.ext_ext];exact h.2 i hi _ _⟩
def YieldsI(P:Program)(ops:Array Oper)(I:World->Prop)(o:Oper)(v:Value)(a:Act):Prop:=(Region.wanted o (yielded ops a.tmps)=true/\∀w,I w->Oper.quietUponX P w v ((execOp a.eval o).run P w))\/(Region.wanted o (yielded ops a.tmps)=false/\v=undef)
theorem YieldsI.of_same{I:World->Prop}{o:Oper}{v:Value}{a a':Act}(hy:YieldsI P ops I o v a)(he:execOp a'.eval o=execOp a.eval o)
  (hw:Region.wanted o (yielded ops a'.tmps)=Region.wanted o (yielded ops a.tmps)):YieldsI P ops I o v a':=by
 unfold YieldsI at *
 rw[he,hw];exact hy
theorem YieldsI.wpOp{I:World->Prop}{w:World}{i:Nat}{o:Oper}{v:Value}{a:Act}(hi:ops[i]? = some o)(hy:YieldsI P ops I o v a)(hw:I w)
  {K:Act->World->Prop} (h:∀w',Ext w w'->K (a.put o.dst v) w'):wpOp P ops Q i K a w:=by
 unfold Go.wpOp;simp only[hi];rcases hy with⟨hw1,hv⟩|⟨hw1,rfl⟩
 .simp only[hw1,if_true]
  left
  unfold Oper.wp;have h3:=hv w hw;generalize(execOp a.eval o).run P w=r at *
  cases r with
  | ok n w' =>
   cases n<;>simp only[Oper.quietUponX]at h3<;>simp only[Oper.upon]
   case value u=>obtain⟨e1,e2⟩:=h3;rw[e1,e2];exact h _ (Ext.refl _)
   case skip=>obtain⟨e1,e2⟩:=h3;rw[e1,←e2];exact h _ (Ext.refl _)
   case enter f args =>
    obtain⟨e1,hc⟩:=h3;rw[e1];exact hc.mono λe w'' ⟨he,hw''⟩=>by subst he;exact h _ hw''
  | halt x w'=>simp only[Oper.quietUponX]at h3
 .simp only[hw1,Bool.false_eq_true,if_false];exact h _ (Ext.refl _)
theorem wpOp_putI{I:World->Prop}{j:Nat}{oi oj:Oper}{v:Value}(hj:ops[j]? = some oj)(hap:oi.apart ops oj=true)
  (hsi:∀cs b,oi.op ≠ .select cs b) (hsj:∀cs b,oj.op ≠ .select cs b) {K:Act->World->Prop} {a:Act} {w:World}
  (hy:YieldsI P ops I oi v a) (h:wpOp P ops (bj_ Q) j K (a.put oi.dst v) w) :
  wpOp P ops (bj_ Q) j (λa' w'=>YieldsI P ops I oi v a'/\K (a'.put oi.dst v) w') a w:=by
 obtain⟨h1,h2,h3⟩:=Oper.apart_spec hap;have keep:∀(a:Act),YieldsI P ops I oi v a->∀u,YieldsI P ops I oi v (a.put oj.dst u):=λa hy u =>
  hy.of_same (execOp_put oi hsi a oj.dst u h3) (wanted_put oi a oj.dst u h3)
 have keepD:∀(a:Act) (ds:List Deferred),YieldsI P ops I oi v a->YieldsI P ops I oi v { a with defers:=ds }:=λa ds hy=>hy
 unfold Go.wpOp at *
 simp only[hj]at *
 rw[wanted_put oj a oi.dst v h1]at h;split
 .rename_i hw;simp only[hw,if_true]at h;rcases h with h|⟨h,hl⟩
  .left
   unfold Oper.wp at *
   rw[execOp_put oj hsj a oi.dst v h1]at h;generalize(execOp a.eval oj).run P w=r at *
   cases r with
   | ok n w' =>
    cases n<;>simp only[Oper.upon]at h ⊢
    case value u=>exact⟨keep a hy u,by rw[←Act.put_comm a v u h2];exact h⟩
    case skip=>exact⟨keep a hy _,by rw[←Act.put_comm a v undef h2];exact h⟩
    case defer dd =>
     refine⟨keep _ (keepD a _ hy) _,?_⟩;rw[←Act.put_comm _ v undef h2];have:=h;rw[Act.put_defers]at this;exact this
    case enter f args =>
     exact Calls.mono h (λe w'' he=>by
      cases e with
      | returned u=>exact⟨keep a hy u,by rw[←Act.put_comm a v u h2];exact he⟩
      | panicked chain=>exact he
      | outgrown=>exact he)
    case row row args =>
     exact Rows.mono h (λu w'' he=>⟨keep a hy u,by rw[←Act.put_comm a v u h2];exact he⟩)
   | halt x w'=>cases x<;>simp only[Oper.upon]at h ⊢<;>exact h
  .right
   refine⟨?_,hl⟩;unfold Oper.asks at *
   rw[execOp_put oj hsj a oi.dst v h1]at h;exact h
 .rename_i hw;simp only[hw]at h;exact⟨keep a hy _,by rw[←Act.put_comm a v undef h2];exact h⟩
theorem bx_{I:World->Prop}(hI:∀w w',I w->Ext w w'->I w'){tl:List Nat}{i fu:Nat}(fre:Bool)(hit:tl.contains i=false)(htl:fre=false->∀j∈tl,bL_ md ops fu j i=true){oi:Oper}{v:Value}(hi:ops[i]? = some oi)(hsel:∀(j:Nat) (o:Oper) cs b,ops[j]? = some o->o.op ≠ .select cs b) :
  ∀(fuel:Nat) (st:Bool) (listed:Array Bool) (a:Act) (w:World),(st=true->I w)->(fre=false->st=true)->Closed md ops listed ->
   (∀j oj,ops[j]? = some oj->j≠i->listed.getD j true=false->(∀e∈oj.after,Region.binds md e=true->e.on≠i)->oi.apart ops oj=true) ->
   i∈Region.ready md ops listed->YieldsI P ops (if fre then λ_=>True else I) oi v a ->
   cd_ P md ops tl I Q fuel st (listed.setIfInBounds i true) (a.put oi.dst v) w->cd_ P md ops tl I Q (fuel+1) st listed a w:=by
 have stands:∀{st:Bool} {w w':World},(st=true->I w)->(fre=false->st=true)->Ext w w'->(if fre then λ_=>True else I) w':=fun{st w w'} h1 h2 hx=>by
  cases fre with
  | true=>trivial
  | false=>exact hI _ _ (h1 (h2 rfl)) hx
 intro fuel
 induction fuel with
 | zero =>
  intro st listed a w hW hfr hcl _ hr hy H;refine⟨λh=>(by rw[h]at hr;cases hr),λj hj X d => ?_⟩;by_cases hji:j=i
  .subst hji;rw[hit];simp only[Bool.not_false,Bool.and_true];exact hy.wpOp hi (stands hW hfr ⟨X,d,rfl⟩) λw' hw'=>⟨λhst=>hI _ _ (hI _ _ (hW hst) ⟨X,d,rfl⟩) hw',by
    obtain⟨Y,e,rfl⟩:=hw';rw[World.ext_ext];exact ep_ _ _ _ _ _ _ _ H⟩
  .have:=ready_mono hj hji;rw[H.1]at this;cases this
 | succ fuel ih =>
  intro st listed a w hW hfr hcl hfree hr hy H;refine⟨λh=>(by rw[h]at hr;cases hr),λj hj X d => ?_⟩;by_cases hji:j=i
  .subst hji;rw[hit];simp only[Bool.not_false,Bool.and_true];exact hy.wpOp hi (stands hW hfr ⟨X,d,rfl⟩) λw' hw'=>⟨λhst=>hI _ _ (hI _ _ (hW hst) ⟨X,d,rfl⟩) hw',by
    obtain⟨Y,e,rfl⟩:=hw';rw[World.ext_ext];exact ep_ _ _ _ _ _ _ _ H⟩
  .have h1:=H.2 j (ready_mono hj hji) X d;obtain⟨hjun,oj,hoj,hall⟩:=mem_ready.1 hj;have hnot:∀e∈oj.after,Region.binds md e=true->e.on≠i:=λe he hb heq=>by
    have h1:=hall e he hb;have h0:=(mem_ready.1 hr).1;rw[heq]at h1;rcases Nat.lt_or_ge i listed.size with h'|h'
    .simp[h']at h0 h1;rw[h0]at h1;cases h1
    .simp[Array.getElem?_eq_none h']at h1
   have h2:=wpOp_putI hoj (hfree j oj hoj hji hjun hnot) (λcs b=>hsel i oi cs b hi) (λcs b=>hsel j oj cs b hoj) hy h1;have hfree':∀k ok,ops[k]? = some ok->k≠i->(listed.setIfInBounds j true).getD k true=false ->
     (∀e∈ok.after,Region.binds md e=true->e.on≠i)->oi.apart ops ok=true:=λk ok hk hki hun hno=>by
    refine hfree k ok hk hki ?_ hno;by_cases hjk:j=k
    .subst hjk;exact hjun
    .rw[getD_set_ne true hjk]at hun;exact hun
   have hjt:fre=false->tl.contains j=false:=λhfre=>by
    cases hc:tl.contains j with
    | false=>rfl
    | true =>
     have hw:=htl hfre j (by simpa using hc);have:=js_ hcl fu j i oj hoj hall hw;have h0:=(mem_ready.1 hr).1;rcases Nat.lt_or_ge i listed.size with h'|h'
     .simp[h']at h0 this;rw[h0]at this;cases this
     .simp[Array.getElem?_eq_none h']at h0
   refine wpOp_mono (λa' w' h3=>⟨h3.2.1,ih (st && !(tl.contains j)) (listed.setIfInBounds j true) a' w' h3.2.1 (λhfre=>by rw[hfr hfre,hjt hfre];rfl) (bP_ hcl hj) hfree' (ready_mono hr (Ne.symm hji)) h3.1 ?_⟩) h2;rw[Array.setIfInBounds_comm _ _ hji];exact h3.2.2
def ce_(fr:List Nat):List (Nat×Bool)->Bool | []=>false|(i,b)::r=>(!b && !(fr.contains i))||ce_ fr r
def cH_(md:Region.Mode)(ops:Array Oper)(tl fr:List Nat):List (Nat×Bool)->Array Bool->Bool | [],listed=>(Region.ready md ops listed).isEmpty|(i,true)::rest,listed=>Region.ready md ops listed==[i]&&(!(tl.contains i) || !(ce_ fr rest))&&cH_ md ops tl fr rest (listed.setIfInBounds i true)|(i,false)::rest,listed=>(Region.ready md ops listed).contains i&&Region.free md ops listed i && !(tl.contains i)&&cH_ md ops tl fr rest (listed.setIfInBounds i true)
def mixBI(md:Region.Mode)(ops:Array Oper)(tl fr:List Nat)(ord:List (Nat×Bool)):Bool :=
 Region.noSelect ops&&cH_ md ops tl fr ord (Array.replicate ops.size false)&&decide (ord.length=ops.size) &&
  ord.all λp=>p.2||(fr.contains p.1||tl.all λj=>bL_ md ops ops.size j p.1)
theorem cf_{I:World->Prop}(hI:∀w w',I w->Ext w w'->I w'){tl fr:List Nat}{fu:Nat}(hs:Region.noSelect ops=true):∀(ord:List (Nat×Bool)) (st:Bool) (listed:Array Bool) (a:Act) (w:World),(st=true->I w)->(ce_ fr ord=true->st=true)->Closed md ops listed->(∀i,(i,false)∈ord->fr.contains i=false->∀j∈tl,bL_ md ops fu j i=true) ->
  cH_ md ops tl fr ord listed=true->aH_ P ops tl fr I Q ord a w->cd_ P md ops tl I Q ord.length st listed a w
 | [],_,_,_,_,_,_,_,_,hB,h=>⟨by simpa[cH_]using hB,h⟩
 | (i,true)::rest,st,listed,a,w,hW,hst,hcl,hT,hB,h=>by
  simp only[cH_,qAn,beq_iff_eq]at hB;obtain⟨⟨hr,hti⟩,hB'⟩:=hB;refine⟨λh0=>(by rw[h0]at hr;cases hr),λj hj X d => ?_⟩;rw[hr]at hj;obtain rfl:j=i:=by simpa using hj
  have hm:j∈Region.ready md ops listed:=by rw[hr];simp
  obtain⟨_,o,ho,_⟩:=mem_ready.1 hm;simp only[aH_,ho]at h;have h':=h X d;have hT':∀k,(k,false)∈rest->fr.contains k=false->∀j∈tl,bL_ md ops fu j k=true:=λk hk=>hT k (List.mem_cons_of_mem _ hk)
  have hcl':=bP_ hcl hm;have hst':ce_ fr rest=true->(st && !(tl.contains j))=true:=λhc=>by
   rw[hc]at hti;have h1:tl.contains j=false:=by simpa using hti
   rw[hst (by simp[ce_,hc]),h1];rfl
  have hob:∀w',(tl.contains j=false->I w->I w')->((st && !(tl.contains j))=true->I w'):=λw' h1 h2=>by
   simp only[qAn,Bool.not_eq_true']at h2;exact h1 h2.2 (hW h2.1)
  unfold wpOp;simp only[ho];unfold wpList at h';split at h'
  .rename_i hw;rw[if_pos hw];refine h'.imp (λh' => ?_) (λh'=>⟨h'.1,h'.2⟩);exact Oper.wp_out (λa' w' hk=>⟨hob w' hk.1,cf_ hI hs rest _ _ a' w' (hob w' hk.1) hst' hcl' hT' hB' hk.2⟩) (λch a w h=>h) (λh=>h) h'
  .rename_i hw;rw[if_neg hw];exact⟨hob _ h'.1,cf_ hI hs rest _ _ _ _ (hob _ h'.1) hst' hcl' hT' hB' h'.2⟩
 | (i,false)::rest,st,listed,a,w,hW,hst,hcl,hT,hB,h=>by
  simp only[cH_,qAn,Bool.not_eq_true']at hB;obtain⟨⟨⟨hr,hf⟩,hit⟩,hB'⟩:=hB;have hr':i∈Region.ready md ops listed:=by simpa using hr
  obtain⟨_,o,ho,_⟩:=mem_ready.1 hr';simp only[aH_,ho]at h;have hT':∀k,(k,false)∈rest->fr.contains k=false->∀j∈tl,bL_ md ops fu j k=true:=λk hk=>hT k (List.mem_cons_of_mem _ hk)
  have hcl':=bP_ hcl hr';have hst':ce_ fr rest=true->st=true:=λhc=>hst (by simp[ce_,hc])
  have hfre:fr.contains i=false->st=true:=λhc=>hst (by simp only[ce_,hc];rfl)
  split at h
  .rename_i hw;obtain⟨v,hv,hn⟩:=h;exact bx_ hI (fr.contains i) hit (hT i (by simp)) ho (Region.noSelect_spec hs) rest.length st listed a w hW hfre hcl (Region.free_spec ho hf) hr' (.inl ⟨hw,hv⟩)
    (cf_ hI hs rest _ _ _ w hW hst' hcl' hT' hB' hn)
  .rename_i hw;exact bx_ hI (fr.contains i) hit (hT i (by simp)) ho (Region.noSelect_spec hs) rest.length st listed a w hW hfre hcl (Region.free_spec ho hf) hr' (.inr ⟨by simpa using hw,rfl⟩)
    (cf_ hI hs rest _ _ _ w hW hst' hcl' hT' hB' h)
theorem hL_{I:World->Prop}(hI:∀w w',I w->Ext w w'->I w'){id:Nat}{l:List Oper}{a:Act}{w:World}(tl fr:List Nat)(ord:List (Nat×Bool))(hm:P.follows .mixedOrders=true)(hB:mixBI .any l.toArray tl fr ord=true)
  (hw:I w) (h:aH_ P l.toArray tl fr I Q ord a w):(Code.region id l.toArray true).wp P Q a w:=by
 simp only[mixBI,qAn,decide_eq_true_eq]at hB;obtain⟨⟨⟨hs,hf⟩,hlen⟩,htl⟩:=hB;refine wp_region_any hm (fK_ (I:=I) (tl:=tl) _ true _ _ _ ?_);have:=cf_ hI (md := .any) (tl:=tl) (fr:=fr) (fu:=l.toArray.size) hs ord true (Array.replicate l.toArray.size false) a w (λ_=>hw) (λ_=>rfl) (f0_ _) (λi hi hfr j hj=>by
  have:=List.all_eq_true.1 htl _ hi;simp only[Bool.false_or,hfr]at this;exact List.all_eq_true.1 this j hj) hf h
 have h2:=ep_ _ _ _ _ _ #[] (w.drawn+1) this;rw[←World.drew_as_ext,hlen]at h2;exact h2
theorem wpMixI_nil{tl fr:List Nat}{I:World->Prop}{a:Act}{w:World}(h:∀X d,Q .normal a (w.ext X d)):aH_ P ops tl fr I Q [] a w:=h
theorem cw_{tl fr:List Nat}{l:List Oper}{I:World->Prop}{i:Nat}{rest:List (Nat×Bool)}{a:Act}{w:World}(o:Oper)(ho:l[i]? = some o)
  (h:∀K:Act->Prop,(∀a,aH_ P l.toArray tl fr I Q rest a w->K a)->if Region.wanted o (yielded l.toArray a.tmps)then o.quietI P a (if fr.contains i then λ_=>True else I) K else K (a.put o.dst undef)) :
  aH_ P l.toArray tl fr I Q ((i,false)::rest) a w:=by
 have ho':l.toArray[i]? = some o:=by simpa using ho
 simp only[aH_,ho'];exact h _ (λ_ h=>h)
theorem k4_{tl fr:List Nat}{l:List Oper}{I:World->Prop}{i:Nat}{rest:List (Nat×Bool)}{a:Act}{w:World}(o:Oper)(ho:l[i]? = some o)
  (h:∀K:Act->World->Prop,(∀a' w',(tl.contains i=false->I w->I w')->aH_ P l.toArray tl fr I Q rest a' w'->K a' w')->∀X d,wpList P l.toArray (Exit.then K (bj_ Q)) [o] a (w.ext X d)) :
  aH_ P l.toArray tl fr I Q ((i,true)::rest) a w:=by
 have ho':l.toArray[i]? = some o:=by simpa using ho
 simp only[aH_,ho'];exact h _ (λ_ _ h1 h2=>⟨h1,h2⟩)
def bh_(P:Program)(ops:Array Oper)(tl fr:List Nat)(I:World->Prop)(Q:Exit->Act->World->Prop)(fl:Nat)(post:List (Nat×Bool)):List (Nat×Bool)->Act->World->Prop
 | [],a,w=>aH_ P ops tl fr I Q ((fl,true)::post) a w
 | (i,true)::pre,a,w=>(match ops[i]? with
  | none=>False
  | some o=>∀X d,wpList P ops (Exit.then (λa' w'=>(tl.contains i=false->I w->I w')/\bh_ P ops tl fr I Q fl post pre a' w') (bj_ Q)) [o] a (w.ext X d)) /\
  (match ops[fl]? with
  | none=>False
  | some o=>∀X d,wpList P ops (Exit.then (λa' w'=>(tl.contains fl=false->I w->I w')/\aH_ P ops tl fr I Q ((i,true)::pre++post) a' w') (bj_ Q)) [o] a (w.ext X d))
 | (i,false)::pre,a,w=>match ops[i]? with
  | none=>False
  | some o=>if Region.wanted o (yielded ops a.tmps)then o.quietI P a (if fr.contains i then λ_=>True else I) (λa'=>bh_ P ops tl fr I Q fl post pre a' w)else bh_ P ops tl fr I Q fl post pre (a.put o.dst undef) w
def eM_(md:Region.Mode)(ops:Array Oper)(tl fr:List Nat)(fl:Nat)(post:List (Nat×Bool)):List (Nat×Bool)->Array Bool->Bool
 | [],listed=>cH_ md ops tl fr ((fl,true)::post) listed
 | (i,true)::pre,listed=>(Region.ready md ops listed).contains i&&(Region.ready md ops listed).contains fl&&(Region.ready md ops listed).all (λj=>j==i||j==fl)&&(!(tl.contains i) || !(ce_ fr (pre++post))) &&
  eM_ md ops tl fr fl post pre (listed.setIfInBounds i true)&&cH_ md ops tl fr ((i,true)::pre++post) (listed.setIfInBounds fl true)
 | (i,false)::pre,listed=>(Region.ready md ops listed).contains i&&Region.free md ops listed i && !(tl.contains i)&&eM_ md ops tl fr fl post pre (listed.setIfInBounds i true)
def mixBF(md:Region.Mode)(ops:Array Oper)(tl fr:List Nat)(fl:Nat)(pre post:List (Nat×Bool)):Bool :=
 Region.noSelect ops&&eM_ md ops tl fr fl post pre (Array.replicate ops.size false)&&decide (pre.length+(post.length+1)=ops.size) && !(tl.contains fl) &&
  (pre++post).all λp=>p.2||(fr.contains p.1||tl.all λj=>bL_ md ops ops.size j p.1)
theorem dE_{I:World->Prop}(hI:∀w w',I w->Ext w w'->I w'){tl fr:List Nat}{fu fl:Nat}{post:List (Nat×Bool)}(hs:Region.noSelect ops=true)(hft:tl.contains fl=false):∀(pre:List (Nat×Bool)) (st:Bool) (listed:Array Bool) (a:Act) (w:World),(st=true->I w)->(ce_ fr (pre++post)=true->st=true)->Closed md ops listed ->
  (∀i,(i,false)∈pre++post->fr.contains i=false->∀j∈tl,bL_ md ops fu j i=true) ->
  eM_ md ops tl fr fl post pre listed=true->bh_ P ops tl fr I Q fl post pre a w->cd_ P md ops tl I Q (pre.length+(post.length+1)) st listed a w
 | [],st,listed,a,w,hW,hst,hcl,hT,hB,h=>by
  rw[List.length_nil,Nat.zero_add];exact cf_ hI hs ((fl,true)::post) st listed a w hW (λhc=>hst (by simpa[ce_]using hc)) hcl (λi hi=>hT i (by simpa using hi)) hB h
 | (i,true)::pre,st,listed,a,w,hW,hst,hcl,hT,hB,h=>by
  simp only[eM_,qAn]at hB;obtain⟨⟨⟨⟨⟨hri,hrf⟩,hall⟩,hti⟩,hB1⟩,hB2⟩:=hB;rw[qLc,show pre.length+1+(post.length+1)=(pre.length+(post.length+1))+1 by omega];refine⟨λh0=>(by rw[h0]at hri;simp at hri),λj hj X d => ?_⟩;obtain⟨h1,h2⟩:=h;by_cases hji:j=i
  .subst hji;obtain⟨_,o,ho,_⟩:=mem_ready.1 hj;simp only[ho]at h1;have h':=h1 X d;have hT':∀k,(k,false)∈pre++post->fr.contains k=false->∀j∈tl,bL_ md ops fu j k=true:=λk hk=>hT k (by simp only[List.cons_append];exact List.mem_cons_of_mem _ hk)
   have hcl':=bP_ hcl hj;have hst':ce_ fr (pre++post)=true->(st && !(tl.contains j))=true:=λhc=>by
    rw[hc]at hti;have h3:tl.contains j=false:=by simpa using hti
    rw[hst (by simp[ce_,hc]),h3];rfl
   have hob:∀w',(tl.contains j=false->I w->I w')->((st && !(tl.contains j))=true->I w'):=λw' h3 h4=>by
    simp only[qAn,Bool.not_eq_true']at h4;exact h3 h4.2 (hW h4.1)
   unfold wpOp;simp only[ho];unfold wpList at h';split at h'
   .rename_i hw;rw[if_pos hw];refine h'.imp (λh' => ?_) (λh'=>⟨h'.1,h'.2⟩);exact Oper.wp_out (λa' w' hk=>⟨hob w' hk.1,dE_ hI hs hft pre _ _ a' w' (hob w' hk.1) hst' hcl' hT' hB1 hk.2⟩) (λch a w h=>h) (λh=>h) h'
   .rename_i hw;rw[if_neg hw];exact⟨hob _ h'.1,dE_ hI hs hft pre _ _ _ _ (hob _ h'.1) hst' hcl' hT' hB1 h'.2⟩
  .have hjf:j=fl:=by
    have:=List.all_eq_true.1 hall j hj;simp only[Bool.or_eq_true,beq_iff_eq]at this;rcases this with h3|h3
    .exact absurd h3 hji
    .exact h3
   subst hjf;obtain⟨_,o,ho,_⟩:=mem_ready.1 hj;simp only[ho]at h2;have h':=h2 X d;have hcl':=bP_ hcl hj;have hst':ce_ fr ((i,true)::pre++post)=true->(st && !(tl.contains j))=true:=λhc=>by
    rw[hft,hst hc];rfl
   have hob:∀w',(tl.contains j=false->I w->I w')->((st && !(tl.contains j))=true->I w'):=λw' h3 h4=>by
    simp only[qAn,Bool.not_eq_true']at h4;exact h3 h4.2 (hW h4.1)
   have hlen:pre.length+(post.length+1)=((i,true)::pre++post).length:=by simp;omega
   rw[hlen];unfold wpOp;simp only[ho];unfold wpList at h';split at h'
   .rename_i hw;rw[if_pos hw];refine h'.imp (λh' => ?_) (λh'=>⟨h'.1,h'.2⟩);exact Oper.wp_out (λa' w' hk=>⟨hob w' hk.1,cf_ hI hs _ _ _ a' w' (hob w' hk.1) hst' hcl' hT hB2 hk.2⟩) (λch a w h=>h) (λh=>h) h'
   .rename_i hw;rw[if_neg hw];exact⟨hob _ h'.1,cf_ hI hs _ _ _ _ _ (hob _ h'.1) hst' hcl' hT hB2 h'.2⟩
 | (i,false)::pre,st,listed,a,w,hW,hst,hcl,hT,hB,h=>by
  simp only[eM_,qAn,Bool.not_eq_true']at hB;obtain⟨⟨⟨hr,hf⟩,hit⟩,hB'⟩:=hB;rw[qLc,show pre.length+1+(post.length+1)=(pre.length+(post.length+1))+1 by omega];have hr':i∈Region.ready md ops listed:=by simpa using hr
  obtain⟨_,o,ho,_⟩:=mem_ready.1 hr';simp only[bh_,ho]at h;have hT':∀k,(k,false)∈pre++post->fr.contains k=false->∀j∈tl,bL_ md ops fu j k=true:=λk hk=>hT k (by simp only[List.cons_append];exact List.mem_cons_of_mem _ hk)
  have hcl':=bP_ hcl hr';have hst':ce_ fr (pre++post)=true->st=true:=λhc=>hst (by simp[ce_,hc])
  have hfre:fr.contains i=false->st=true:=λhc=>hst (by simp only[List.cons_append,ce_,hc];rfl)
  split at h
  .rename_i hw;obtain⟨v,hv,hn⟩:=h;exact bx_ hI (fr.contains i) hit (hT i (by simp)) ho (Region.noSelect_spec hs) _ st listed a w hW hfre hcl (Region.free_spec ho hf) hr' (.inl ⟨hw,hv⟩)
    (dE_ hI hs hft pre _ _ _ w hW hst' hcl' hT' hB' hn)
  .rename_i hw;exact bx_ hI (fr.contains i) hit (hT i (by simp)) ho (Region.noSelect_spec hs) _ st listed a w hW hfre hcl (Region.free_spec ho hf) hr' (.inr ⟨by simpa using hw,rfl⟩)
    (dE_ hI hs hft pre _ _ _ w hW hst' hcl' hT' hB' h)
theorem of_{I:World->Prop}(hI:∀w w',I w->Ext w w'->I w'){id fl:Nat}{l:List Oper}{a:Act}{w:World}(tl fr:List Nat)(pre post:List (Nat×Bool))(hm:P.follows .mixedOrders=true)(hB:mixBF .any l.toArray tl fr fl pre post=true)
  (hw:I w) (h:bh_ P l.toArray tl fr I Q fl post pre a w):(Code.region id l.toArray true).wp P Q a w:=by
 simp only[mixBF,qAn,decide_eq_true_eq,Bool.not_eq_true']at hB;obtain⟨⟨⟨⟨hs,hf⟩,hlen⟩,hft⟩,htl⟩:=hB;refine wp_region_any hm (fK_ (I:=I) (tl:=tl) _ true _ _ _ ?_);have:=dE_ hI (md := .any) (tl:=tl) (fr:=fr) (fu:=l.toArray.size) hs hft pre true (Array.replicate l.toArray.size false) a w (λ_=>hw) (λ_=>rfl) (f0_ _) (λi hi hfr j hj=>by
  have:=List.all_eq_true.1 htl _ hi;simp only[Bool.false_or,hfr]at this;exact List.all_eq_true.1 this j hj) hf h
 have h2:=ep_ _ _ _ _ _ #[] (w.drawn+1) this;rw[←World.drew_as_ext,hlen]at h2;exact h2
theorem da_{tl fr:List Nat}{l:List Oper}{I:World->Prop}{i fl:Nat}{pre post:List (Nat×Bool)}{a:Act}{w:World}(o:Oper)(ho:l[i]? = some o)
  (h:∀K:Act->Prop,(∀a,bh_ P l.toArray tl fr I Q fl post pre a w->K a)->if Region.wanted o (yielded l.toArray a.tmps)then o.quietI P a (if fr.contains i then λ_=>True else I) K else K (a.put o.dst undef)) :
  bh_ P l.toArray tl fr I Q fl post ((i,false)::pre) a w:=by
 have ho':l.toArray[i]? = some o:=by simpa using ho
 simp only[bh_,ho'];exact h _ (λ_ h=>h)
theorem wpMixF_loud{tl fr:List Nat}{l:List Oper}{I:World->Prop}{i fl:Nat}{pre post:List (Nat×Bool)}{a:Act}{w:World}(o fo:Oper)(ho:l[i]? = some o)(hfo:l[fl]? = some fo)
  (h:∀K:Act->World->Prop,(∀a' w',(tl.contains i=false->I w->I w')->bh_ P l.toArray tl fr I Q fl post pre a' w'->K a' w')->∀X d,wpList P l.toArray (Exit.then K (bj_ Q)) [o] a (w.ext X d))
  (hf:∀K:Act->World->Prop,(∀a' w',(tl.contains fl=false->I w->I w')->aH_ P l.toArray tl fr I Q ((i,true)::pre++post) a' w'->K a' w')->∀X d,wpList P l.toArray (Exit.then K (bj_ Q)) [fo] a (w.ext X d)) :
  bh_ P l.toArray tl fr I Q fl post ((i,true)::pre) a w:=by
 have ho':l.toArray[i]? = some o:=by simpa using ho
 have hfo':l.toArray[fl]? = some fo:=by simpa using hfo
 simp only[bh_,ho',hfo'];exact⟨h _ (λ_ _ h1 h2=>⟨h1,h2⟩),hf _ (λ_ _ h1 h2=>⟨h1,h2⟩)⟩
inductive OT where
 | nil
 | free (i:Nat) (t:OT)
 | alt (i:Nat) (t r:OT)
 | spl (i:Nat) (t f:OT)
def OT.ids:OT->List Nat | .alt i _ r=>i::r.ids|_=>[]
def OT.dep:OT->Nat | .nil=>0 | .free _ t=>t.dep+1 | .alt _ t r=>max (t.dep+1) r.dep | .spl _ t f=>max t.dep f.dep
def OT.tlO:OT->List Nat | .nil=>[] | .free _ t=>t.tlO | .alt i t r=>i::(t.tlO++r.tlO) | .spl _ t f=>t.tlO++f.tlO
def OT.frO:OT->List Nat | .nil=>[] | .free i t=>i::t.frO | .alt _ t r=>t.frO++r.frO | .spl _ t f=>t.frO++f.frO
def chkO(md:Region.Mode)(ops:Array Oper)(tl sf fr:List Nat):OT->Bool->Array Bool->Bool | .nil,false,listed=>(Region.ready md ops listed).isEmpty | .nil,true,_=>true | .free i t,false,listed=>(Region.ready md ops listed).contains i&&Region.free md ops listed i && !(tl.contains i)&&fr.contains i&&chkO md ops tl sf fr t false (listed.setIfInBounds i true) | .free _ _,true,_=>false | .spl _ t f,c,listed => !c&&(chkO md ops tl sf fr t false listed&&chkO md ops tl sf fr f false listed) | .alt i t r,c,listed=>(c||(!((Region.ready md ops listed).isEmpty)&&(Region.ready md ops listed).all λj=>(i::r.ids).contains j))&&(tl.contains i||sf.contains i)&&chkO md ops tl sf fr t false (listed.setIfInBounds i true)&&chkO md ops tl sf fr r true listed
def wpO(P:Program)(ops:Array Oper)(sf:List Nat)(I:World->Prop)(Q:Exit->Act->World->Prop):OT->Bool->Act->World->Prop
 | .nil,false,a,w=>∀X d,Q .normal a (w.ext X d)
 | .nil,true,_,_=>True
 | .free i t,_,a,w=>match ops[i]? with
  | none=>False
  | some o=>if Region.wanted o (yielded ops a.tmps)then o.quietI P a (λ_=>True) (λa'=>wpO P ops sf I Q t false a' w)else wpO P ops sf I Q t false (a.put o.dst undef) w
 | .alt i t r,_,a,w=>(match ops[i]? with
  | none=>False
  | some o=>∀X d,wpList P ops (Exit.then (λa' w'=>(sf.contains i=true->I w->I w')/\wpO P ops sf I Q t false a' w') (bj_ Q)) [o] a (w.ext X d))/\wpO P ops sf I Q r true a w
 | .spl i t f,_,a,w=>(yielded ops a.tmps i=some true/\wpO P ops sf I Q t false a w)\/(yielded ops a.tmps i=some false/\wpO P ops sf I Q f false a w)
theorem wpO_pick{tl sf fr:List Nat}{I:World->Prop}{i:Nat}{listed:Array Bool}{a:Act}{w:World}:∀{t:OT} {c:Bool},i∈t.ids->chkO md ops tl sf fr t c listed=true->wpO P ops sf I Q t c a w->∃t',t'.dep+1<=t.dep/\(tl.contains i||sf.contains i)=true/\chkO md ops tl sf fr t' false (listed.setIfInBounds i true)=true /\
  match ops[i]? with
  | none=>False
  | some o=>∀X d,wpList P ops (Exit.then (λa' w'=>(sf.contains i=true->I w->I w')/\wpO P ops sf I Q t' false a' w') (bj_ Q)) [o] a (w.ext X d)
 | .nil,_,h,_,_=>nomatch h
 | .free _ _,_,h,_,_=>nomatch h
 | .spl _ _ _,_,h,_,_=>nomatch h
 | .alt j t r,c,h,hB,hw=>by
  simp only[chkO,qAn]at hB;rcases List.mem_cons.1 h with rfl|h
  .exact⟨t,Nat.le_max_left _ _,hB.1.1.2,hB.1.2,hw.1⟩
  .obtain⟨t',h1,h2⟩:=wpO_pick h hB.2 hw.2;exact⟨t',Nat.le_trans h1 (Nat.le_max_right _ _),h2⟩
theorem splO{I:World->Prop}{tl sf fr:List Nat}{fuel i:Nat}{t f:OT}
  (iht:∀(st:Bool) (listed:Array Bool) (a:Act) (w:World),t.dep<=fuel->(st=true->I w)->Closed md ops listed->chkO md ops tl sf fr t false listed=true->wpO P ops sf I Q t false a w->cd_ P md ops tl I Q fuel st listed a w)
  (ihf:∀(st:Bool) (listed:Array Bool) (a:Act) (w:World),f.dep<=fuel->(st=true->I w)->Closed md ops listed->chkO md ops tl sf fr f false listed=true->wpO P ops sf I Q f false a w->cd_ P md ops tl I Q fuel st listed a w)
  (st:Bool) (listed:Array Bool) (a:Act) (w:World) (hd:(OT.spl i t f).dep<=fuel) (hW:st=true->I w) (hcl:Closed md ops listed)
  (hB:chkO md ops tl sf fr (.spl i t f) false listed=true) (h:wpO P ops sf I Q (.spl i t f) false a w):cd_ P md ops tl I Q fuel st listed a w:=by
 simp only[chkO,qAn]at hB;simp only[OT.dep]at hd;have:=Nat.le_max_left t.dep f.dep;have:=Nat.le_max_right t.dep f.dep;rcases h with h|h
 .exact iht st listed a w (by omega) hW hcl hB.2.1 h.2
 .exact ihf st listed a w (by omega) hW hcl hB.2.2 h.2
theorem wpAnyI_O{I:World->Prop}(hI:∀w w',I w->Ext w w'->I w'){tl sf fr:List Nat}{fu:Nat}(hs:Region.noSelect ops=true):∀(fuel:Nat) (t:OT) (st:Bool) (listed:Array Bool) (a:Act) (w:World),t.dep<=fuel->(st=true->I w)->Closed md ops listed ->
  chkO md ops tl sf fr t false listed=true->wpO P ops sf I Q t false a w->cd_ P md ops tl I Q fuel st listed a w:=by
 intro fuel
 induction fuel with
 | zero =>
  intro t
  induction t with
  | nil =>
   intro st listed a w hd hW hcl hB h;exact⟨by simpa[chkO]using hB,h⟩
  | free i t _=>intro st listed a w hd;simp[OT.dep]at hd
  | spl i t f iht ihf=>exact splO iht ihf
  | alt i t r _ _ =>
   intro st listed a w hd;simp only[OT.dep]at hd;have:=Nat.le_max_left (t.dep+1) r.dep;omega
 | succ fuel ih =>
  intro t
  induction t with
  | spl i t f iht ihf=>exact splO iht ihf
  | nil =>
   intro st listed a w hd hW hcl hB h;have h0:Region.ready md ops listed=[]:=by simpa[chkO]using hB
   exact⟨λ_=>h,λi hi=>(by rw[h0]at hi;cases hi)⟩
  | free i t _ =>
   intro st listed a w hd hW hcl hB h;simp only[chkO,qAn,Bool.not_eq_true']at hB;obtain⟨⟨⟨⟨hr,hf⟩,hit⟩,hfr⟩,hB'⟩:=hB;have hr':i∈Region.ready md ops listed:=by simpa using hr
   obtain⟨_,o,ho,_⟩:=mem_ready.1 hr';simp only[OT.dep]at hd;simp only[wpO,ho]at h;have hcl':=bP_ hcl hr';split at h
   .rename_i hw;obtain⟨v,hv,hn⟩:=h;exact bx_ (fu:=fu) hI true hit (λe=>nomatch e) ho (Region.noSelect_spec hs) fuel st listed a w hW (λe=>nomatch e) hcl (Region.free_spec ho hf) hr' (.inl ⟨hw,hv⟩)
     (ih t st _ _ w (by omega) hW hcl' hB' hn)
   .rename_i hw;exact bx_ (fu:=fu) hI true hit (λe=>nomatch e) ho (Region.noSelect_spec hs) fuel st listed a w hW (λe=>nomatch e) hcl (Region.free_spec ho hf) hr' (.inr ⟨by simpa using hw,rfl⟩)
     (ih t st _ _ w (by omega) hW hcl' hB' h)
  | alt i t r _ _ =>
   intro st listed a w hd hW hcl hB h;have hB0:=hB;simp only[chkO,Bool.false_or,qAn,Bool.not_eq_true']at hB;obtain⟨⟨⟨⟨hne,hall⟩,_⟩,_⟩,_⟩:=hB;refine⟨λh0=>(by rw[h0]at hne;cases hne),λj hj X d => ?_⟩;have hmem:j∈(OT.alt i t r).ids:=by
    have:=List.all_eq_true.1 hall j hj;simpa[OT.ids]using this
   obtain⟨t',hd',htl,hB',hp⟩:=wpO_pick hmem hB0 h;obtain⟨_,o,ho,_⟩:=mem_ready.1 hj;simp only[ho]at hp;have h':=hp X d;have hcl':=bP_ hcl hj;have go:∀a' w',((sf.contains j=true->I w->I w')/\wpO P ops sf I Q t' false a' w')->((st && !(tl.contains j))=true->I w')/\cd_ P md ops tl I Q fuel (st && !(tl.contains j)) (listed.setIfInBounds j true) a' w':=λa' w' hk=>by
    have hw':(st && !(tl.contains j))=true->I w':=λe=>by
     rw[qAn,Bool.not_eq_true']at e;rw[e.2,Bool.false_or]at htl;exact hk.1 htl (hW e.1)
    exact⟨hw',ih t' _ _ a' w' (by omega) hw' hcl' hB' hk.2⟩
   unfold wpOp;simp only[ho];unfold wpList at h';split at h'
   .rename_i hw;rw[if_pos hw];refine h'.imp (λh' => ?_) (λh'=>⟨h'.1,h'.2⟩);exact Oper.wp_out (λa' w' hk=>go a' w' hk) (λch a w h=>h) (λh=>h) h'
   .rename_i hw;rw[if_neg hw];exact go _ _ h'
def cP_(P:Program)(ops:Array Oper)(sf fr:List Nat)(I:World->Prop)(Q:Exit->Act->World->Prop)(t:OT):List (Nat×Bool)->Act->World->Prop
 | [],a,w=>wpO P ops sf I Q t false a w
 | (_,true)::_,_,_=>False
 | (i,false)::rest,a,w=>match ops[i]? with
  | none=>False
  | some o=>if Region.wanted o (yielded ops a.tmps)then o.quietI P a (if fr.contains i then λ_=>True else I) (λa'=>cP_ P ops sf fr I Q t rest a' w)else cP_ P ops sf fr I Q t rest (a.put o.dst undef) w
def is_(md:Region.Mode)(ops:Array Oper)(tl sf fr:List Nat)(t:OT):List (Nat×Bool)->Array Bool->Bool | [],listed=>chkO md ops tl sf fr t false listed|(_,true)::_,_=>false|(i,false)::rest,listed=>(Region.ready md ops listed).contains i&&Region.free md ops listed i && !(tl.contains i)&&is_ md ops tl sf fr t rest (listed.setIfInBounds i true)
def mixBO(md:Region.Mode)(ops:Array Oper)(tl sf fr:List Nat)(t:OT)(pre:List (Nat×Bool)):Bool:=Region.noSelect ops&&is_ md ops tl sf fr t pre (Array.replicate ops.size false)&&decide (pre.length+t.dep<=ops.size)&&pre.all λp=>p.2||(fr.contains p.1||tl.all λj=>bL_ md ops ops.size j p.1)
theorem hh_{I:World->Prop}(hI:∀w w',I w->Ext w w'->I w'){tl sf fr:List Nat}{fu m:Nat}{t:OT}(hm:t.dep<=m)(hs:Region.noSelect ops=true):∀(pre:List (Nat×Bool)) (listed:Array Bool) (a:Act) (w:World),I w->Closed md ops listed ->
  (∀i,(i,false)∈pre->fr.contains i=false->∀j∈tl,bL_ md ops fu j i=true)->is_ md ops tl sf fr t pre listed=true->cP_ P ops sf fr I Q t pre a w->cd_ P md ops tl I Q (pre.length+m) true listed a w
 | [],listed,a,w,hW,hcl,_,hB,h=>by
  rw[List.length_nil,Nat.zero_add];exact wpAnyI_O (fu:=fu) hI hs m t true listed a w hm (λ_=>hW) hcl hB h
 | (i,true)::rest,listed,a,w,_,_,_,hB,_=>nomatch hB
 | (i,false)::pre,listed,a,w,hW,hcl,hT,hB,h=>by
  simp only[is_,qAn,Bool.not_eq_true']at hB;obtain⟨⟨⟨hr,hf⟩,hit⟩,hB'⟩:=hB;rw[qLc,show pre.length+1+m=(pre.length+m)+1 by omega];have hr':i∈Region.ready md ops listed:=by simpa using hr
  obtain⟨_,o,ho,_⟩:=mem_ready.1 hr';simp only[cP_,ho]at h;have hT':∀k,(k,false)∈pre->fr.contains k=false->∀j∈tl,bL_ md ops fu j k=true:=λk hk=>hT k (List.mem_cons_of_mem _ hk)
  have hcl':=bP_ hcl hr';split at h
  .rename_i hw;obtain⟨v,hv,hn⟩:=h;exact bx_ hI (fr.contains i) hit (hT i (by simp)) ho (Region.noSelect_spec hs) _ true listed a w (λ_=>hW) (λ_=>rfl) hcl (Region.free_spec ho hf) hr' (.inl ⟨hw,hv⟩)
    (hh_ hI hm hs pre _ _ w hW hcl' hT' hB' hn)
  .rename_i hw;exact bx_ hI (fr.contains i) hit (hT i (by simp)) ho (Region.noSelect_spec hs) _ true listed a w (λ_=>hW) (λ_=>rfl) hcl (Region.free_spec ho hf) hr' (.inr ⟨by simpa using hw,rfl⟩)
    (hh_ hI hm hs pre _ _ w hW hcl' hT' hB' h)
theorem hM_{I:World->Prop}(hI:∀w w',I w->Ext w w'->I w'){id:Nat}{t:OT}{l:List Oper}{a:Act}{w:World}(tl sf fr:List Nat)(pre:List (Nat×Bool))(hm:P.follows .mixedOrders=true)(hB:mixBO .any l.toArray tl sf fr t pre=true)
  (hw:I w) (h:cP_ P l.toArray sf fr I Q t pre a w):(Code.region id l.toArray true).wp P Q a w:=by
 simp only[mixBO,qAn,decide_eq_true_eq]at hB;obtain⟨⟨⟨hs,hf⟩,hlen⟩,htl⟩:=hB;refine wp_region_any hm (fK_ (I:=I) (tl:=tl) _ true _ _ _ ?_);have:=hh_ hI (md := .any) (tl:=tl) (fr:=fr) (fu:=l.toArray.size) (m:=l.toArray.size-pre.length) (by omega) hs pre (Array.replicate l.toArray.size false) a w hw (f0_ _) (λi hi hfr j hj=>by
  have:=List.all_eq_true.1 htl _ hi;simp only[Bool.false_or,hfr]at this;exact List.all_eq_true.1 this j hj) hf h
 have h2:=ep_ _ _ _ _ _ #[] (w.drawn+1) this;rw[←World.drew_as_ext,show pre.length+(l.toArray.size-pre.length)=l.toArray.size by omega]at h2;exact h2
theorem ga_{sf fr:List Nat}{l:List Oper}{I:World->Prop}{t:OT}{i:Nat}{pre:List (Nat×Bool)}{a:Act}{w:World}(o:Oper)(ho:l[i]? = some o)
  (h:∀K:Act->Prop,(∀a,cP_ P l.toArray sf fr I Q t pre a w->K a)->if Region.wanted o (yielded l.toArray a.tmps)then o.quietI P a (if fr.contains i then λ_=>True else I) K else K (a.put o.dst undef)) :
  cP_ P l.toArray sf fr I Q t ((i,false)::pre) a w:=by
 have ho':l.toArray[i]? = some o:=by simpa using ho
 simp only[cP_,ho'];exact h _ (λ_ h=>h)
end
end Go
namespace Go
namespace Rt
open Go.RowKit
structure Ba(E:TE) where
 L:Nat->Option (SV E)
 H:Nat->Option (Obj E)
 lo:Nat
structure St(E:TE) where (env:List (Nat×Option (SV E))) (vis:Option (List Nat)) (heap:Chs E) (hvis:Option (List Nat)) (nx:Nat)
def al_(t:Nat):List Nat->Bool
 | []=>false
 | u::l=>match Nat.beq t u with
  | true=>true
  | false=>al_ t l
def seen:Option (List Nat)->Nat->Bool|none,_=>true|some l,t=>al_ t l
def an_{α:Type}(t:Nat):List (Nat×α)->Option α
 | []=>none
 | (u,v)::l=>match Nat.beq t u with
  | true=>some v
  | false=>an_ t l
variable{E:TE}
def St.L(b:Ba E)(s:St E)(t:Nat):Option (SV E):=match an_ t s.env with
 | some v=>v
 | none=>match seen s.vis t with
  | true=>b.L t
  | false=>none
def St.H(b:Ba E)(s:St E):Nat->Option (Obj E):=upH (λi=>match seen s.hvis i with|true=>b.H i|false=>none) s.heap
def St.after(N:Nat)(s:St E)(o:Oper)(v:Option (SV E))(u:Chs E):Option (St E):=match o.dst with
 | none=>some { s with heap:=u++s.heap,nx:=nxU s.nx u }
 | some d=>match Nat.blt d N with
  | true=>some { s with env:=(d,v)::s.env,heap:=u++s.heap,nx:=nxU s.nx u }
  | false=>none
def St.base(b:Ba E)(s:St E):Ba E:=⟨s.L b,s.H b,b.lo⟩
def St.new(nx:Nat):St E:=⟨[],none,[],none,nx⟩
abbrev Gd:=Option (Nat×Bool×Nat)
def kF_(o:Oper):Gd->Bool
 | none=>match o.guard with
  | none=>true
  | some _=>false
 | some (j,w,_)=>match o.guard with
  | none=>false
  | some (j',w')=>Nat.beq j j'&&(match w,w' with|true,true=>true|false,false=>true|_,_=>false)
def dstOK(o:Oper):Gd->Bool
 | none=>true
 | some (_,_,d)=>match o.dst with
  | none=>true
  | some d' => !(Nat.beq d d')
def ec_ (d:Nat):List Oper->Option (List Oper×Oper×List Oper)
 | []=>none
 | o::r=>match o.op with
  | .pick (.tmp d') _ _=>match Nat.beq d d' with
   | true=>some ([],o,r)
   | false=>match ec_ d r with
    | some (l,p,q)=>some (o::l,p,q)
    | none=>none
  | _=>match ec_ d r with
   | some (l,p,q)=>some (o::l,p,q)
   | none=>none
def groupOf (o:Oper) (idx:Nat):List Oper->Option (Nat×Bool×List Oper×Oper×List Oper)
 | []=>none
 | o2::r=>match o2.guard,o.dst with
  | some (j,w),some d=>match Nat.beq j idx with
   | true=>match ec_ d (o2::r)with
    | some (l,p,q)=>some (d,w,l,p,q)
    | none=>none
   | false=>none
  | _,_=>none
def b8_:List Oper->List Nat
 | []=>[]
 | o::l=>match o.dst with
  | some d=>d::b8_ l
  | none=>b8_ l
def keysIn(l:List Nat):List (Nat×Option (SV E))->Bool | []=>true|p::r=>al_ p.1 l&&keysIn l r
def it_(n:Nat):Chs E->Bool | []=>true|p::r=>Nat.ble n p.1&&it_ n r
def totalB(P:Program)(o:Oper):Bool:=match o.op with
 | .binOp op t _ y _=>match op with
  | .add=>match P.underlying t with|some (.int _)=>true|_=>false
  | .quo | .rem | .shl | .shr=>Operand.isC y
  | _=>true
 | .move _ | .assign _ | .pick .. | .load .. | .fieldAddr .. | .field .. | .unOp .. | .convert .. | .extract .. | .nilCheck .. => true
 | .call { callee := .builtin .len,args:=_,argTypes:=_ }=>true
 | .call { callee := .builtin .max,args:=_,argTypes:=_ }=>true
 | .call { callee := .builtin .min,args:=_,argTypes:=_ }=>true
 | _=>false
def totalL(P:Program):List Oper->Bool | []=>true|o::l=>totalB P o&&totalL P l
def skipB(idx d:Nat)(w:Bool):List Oper->Nat->Bool
 | [],_=>true
 | o::l,i=>(match o.guard,o.dst with
  | some (j,w'),some d'=>((Nat.beq j idx&&(match w,w' with|true,true=>true|false,false=>true|_,_=>false))||(Nat.blt idx j&&Nat.blt j i)) && !(Nat.beq d d')
  | _,_=>false)&&skipB idx d w l (i+1)
def notIn(g:Gd)(l:List Nat):Bool:=match g with|none=>true|some (_,_,d) => !(al_ d l)
def hN_(b:Bool):SV E := .v (.one (.dt .bool b))
def isBoolC(w:Bool):Operand->Bool
 | .const (.bool b)=>match w,b with|true,true=>true|false,false=>true|_,_=>false
 | _=>false
def e2_(body:List Oper):Nat:=1000*(body.length+1)
def eN_(bs:Ba E)(nx lim:Nat)(ds:List Nat)(x:Operand)(s:St E):Option Bool:=match keysIn ds s.env&&it_ nx s.heap&&Nat.ble s.nx (nx+lim),s.vis,s.hvis,opS E (s.L bs) x with|true,none,none,some (.v (.one (.dt .bool e)))=>some e|_,_,_,_=>none
def clear(ds:List Nat):List (Nat×Option (SV E)):=ds.map λd=>(d,none)
def picked{α:Type}(w:Bool)(x y:α):α:=match w with|true=>x|false=>y
abbrev Ev(E:TE):=(Nat->Option (SV E))->(Nat->Option (Obj E))->Nat->Oper->(R:Type)->(Option (SV E)->Chs E->Option R)->Option R
def bi_ (P:Program) (E:TE) (ev:Ev E) (N:Nat):Nat->(R:Type)->Gd->List Oper->Nat->Ba E->St E->(St E->Option R)->Option R
 | 0,_,_,_,_,_,_,_=>none
 | _+1,_,_,[],_,_,s,k=>k s
 | n + 1,R,gd,o::rest,idx,b,s,k =>
  match kF_ o gd&&dstOK o gd with
  | false=>none
  | true => ev (s.L b) (s.H b) s.nx o R λv u=>match s.after N o v u with
   | none=>none
   | some s1=>match groupOf o idx rest with
    | none=>bi_ P E ev N n R gd rest (idx+1) b s1 k
    | some (d,w,body,pk,rest')=>match s1.L b d,pk.op,pk.dst with
     | some (.v (.one (.dt .bool c))),.pick _ x y,some pd =>
      match kF_ pk gd&&dstOK pk gd&&notIn gd (b8_ body)&&Nat.blt pd N&&skipB idx d w body (idx+1)&&isBoolC (!w) (picked w y x)with
      | false=>none
      | true =>
       match totalL P body with
       | true=>match bi_ P E ev N n Bool (some (idx,w,d)) body (idx+1) (s1.base b) (St.new s1.nx) (eN_ (s1.base b) s1.nx (e2_ body) (b8_ body) (picked w x y))with
        | none=>none
        | some e=>bi_ P E ev N n R gd rest' (idx+1+body.length+1) b { s1 with env:=(pd,some (hN_ (picked w (c&&e) (c||e))))::(clear (b8_ body)++s1.env),nx:=s1.nx+e2_ body } k
       | false=>Option.bind (picked w
        (bif c then bi_ P E ev N n Bool (some (idx,w,d)) body (idx+1) (s1.base b) (St.new s1.nx) (eN_ (s1.base b) s1.nx (e2_ body) (b8_ body) x)else some false)
        (bif c then some true else bi_ P E ev N n Bool (some (idx,w,d)) body (idx+1) (s1.base b) (St.new s1.nx) (eN_ (s1.base b) s1.nx (e2_ body) (b8_ body) y))) λe =>
         bi_ P E ev N n R gd rest' (idx+1+body.length+1) b { s1 with env:=(pd,some (hN_ e))::(clear (b8_ body)++s1.env),nx:=s1.nx+e2_ body } k
     | _,_,_=>none
noncomputable def evReg(P:Program)(E:TE)(eqs:List (Nat×Nat))(tab:Tab E)(N:Nat){R:Type}(l:List Oper)(b:Ba E)(s:St E)(k:St E->Option R):Option R:=bi_ P E (λL H nx o _ k=>evOp P E eqs tab L H nx o k) N (l.length+1) R none l 0 b s k
def tlOf:Nat->List Nat->List Nat
 | _,[]=>[]
 | i,f::fl=>match Nat.beq f 2 with
  | true=>i::tlOf (i+1) fl
  | false=>tlOf (i+1) fl
def frOf:Nat->List Nat->List Nat
 | _,[]=>[]
 | i,f::fl=>match Nat.beq f 4 with
  | true=>i::frOf (i+1) fl
  | false=>frOf (i+1) fl
def aj_:List Nat->Nat
 | []=>0
 | f::fl=>match Nat.beq f 0 with
  | true=>aj_ fl+1
  | false=>0
def co_:Nat->List Oper->List (Nat×Bool)|_,[]=>[]|i,_::l=>(i,false)::co_ (i+1) l
def b2_(hs:List Nat):Nat->List Oper->List Nat->List (Nat×Oper×Nat)
 | i,o::l,f::fl=>match al_ i hs with
  | true=>b2_ hs (i+1) l fl
  | false=>(i,o,f)::b2_ hs (i+1) l fl
 | _,_,_=>[]
def hOrd:List Nat->List (Nat×Bool) | []=>[]|i::l=>(i,false)::hOrd l
def quietM(f:Nat):Bool:=Nat.beq f 0||Nat.beq f 4
def bq_:List (Nat×Oper×Nat)->List (Nat×Bool) | []=>[]|t::l=>(t.1,!(quietM t.2.2))::bq_ l
noncomputable def evH(P:Program)(E:TE)(eqs:List (Nat×Nat))(tab:Tab E)(N:Nat){R:Type}(b:Ba E)(all:List Oper)(fr:List Nat):List Nat->St E->(St E->Option R)->Option R
 | [],s,k=>k s
 | i :: hs,s,k=>match all[i]? with
  | none=>none
  | some o=>match o.guard with
   | some _=>none
   | none=>match fr.contains i with
    | true=>qFree P E eqs (s.L b) o λv up=>match up with
     | some _=>none
     | none=>match s.after N o (some v) []with
      | some s1=>evH P E eqs tab N b all fr hs s1 k
      | none=>none
    | false=>eo_ P E eqs tab (s.L b) (s.H b) s.nx o λv u=>match s.after N o v u with
     | some s1=>evH P E eqs tab N b all fr hs s1 k
     | none=>none
noncomputable def evB(P:Program)(E:TE)(eqs:List (Nat×Nat))(tab:Tab E)(N:Nat)(fm:Bool){R:Type}(b:Ba E):List (Nat×Oper×Nat)->St E->(St E->Option R)->Option R
 | [],s,k=>k s
 | (_,o,f)::l,s,k=>match o.guard with
  | some _=>none
  | none=>match quietM f with
   | true=>qFree P E eqs (s.L b) o λv up=>match up with
    | some _=>none
    | none=>match s.after N o (some v) []with
     | some s1=>evB P E eqs tab N fm b l s1 k
     | none=>none
   | false=>match Nat.beq f 2||(fm||bw_ tab (s.L b) o)with
    | false=>none
    | true=>evOp P E eqs tab (s.L b) (s.H b) s.nx o λv u=>match s.after N o v u with
     | some s1=>evB P E eqs tab N fm b l s1 k
     | none=>none
def cI_(S:List Nat)(H:Nat->Option (Obj E))(i:Nat):Option (Obj E):=match al_ i S with|true=>none|false=>H i
def dQ_(S:List Nat)(H:Nat->Option (Obj E))(i:Nat):Option (Obj E):=match al_ i S with|true=>H i|false=>none
noncomputable def evDraw(P:Program)(E:TE)(eqs:List (Nat×Nat))(tab:Tab E)(N:Nat){R:Type}(l:List Oper)(fl hs:List Nat)(fm:Bool)(S:List Nat)(b:Ba E)(s:St E)(k:St E->Option R):Option R :=
 match P.follows .mixedOrders&&mixBI .any l.toArray (tlOf 0 fl) (frOf 0 fl) (co_ 0 (l.take (aj_ fl))++(hOrd hs++bq_ (b2_ hs (aj_ fl) (l.drop (aj_ fl)) (fl.drop (aj_ fl)))))with
 | false=>none
 | true=>match fm with
  | false=>bi_ P E (λL H nx o _ k=>eo_ P E eqs tab L H nx o k) N (l.length+1) R none (l.take (aj_ fl)) 0 b s λs1=>evH P E eqs tab N b l (frOf 0 fl) hs s1 λs2=>evB P E eqs tab N false b (b2_ hs (aj_ fl) (l.drop (aj_ fl)) (fl.drop (aj_ fl))) s2 k
  | true=>bi_ P E (λL H nx o _ k=>eo_ P E eqs tab L H nx o k) N (l.length+1) R none (l.take (aj_ fl)) 0 ⟨s.L b,cI_ S (s.H b),b.lo⟩ (St.new s.nx) λs1 =>
   evH P E eqs tab N ⟨s.L b,cI_ S (s.H b),b.lo⟩ l (frOf 0 fl) hs s1 λs2=>match s2.vis,s2.hvis,s2.heap with
    | none,none,[]=>evB P E eqs tab N true ⟨s2.L ⟨s.L b,cI_ S (s.H b),b.lo⟩,dQ_ S (s.H b),b.lo⟩ (b2_ hs (aj_ fl) (l.drop (aj_ fl)) (fl.drop (aj_ fl))) (St.new s2.nx) λs3=>match s3.vis,s3.hvis with
     | none,none=>k { s with env:=s3.env++(s2.env++s.env),heap:=s3.heap++s.heap,nx:=s3.nx }
     | _,_=>none
    | _,_,_=>none
def dstN(o:Oper):Nat:=match o.dst with|some d=>d|none=>0
def floatB(P:Program)(N:Nat)(o:Oper)(ds:List Nat):Bool:=match o.op,o.guard,o.dst with
 | .alloc T,none,some d => !(al_ d ds)&&(Nat.blt d N&&(match zeroOf P T with|some _=>true|none=>false))
 | _,_,_=>false
def dstsT:List (Nat×Oper×Nat)->List Nat
 | []=>[]
 | t::l=>match t.2.1.dst with
  | some d=>d::dstsT l
  | none=>dstsT l
noncomputable def evFloat(P:Program)(E:TE)(eqs:List (Nat×Nat))(tab:Tab E)(N:Nat){R:Type}(l:List Oper)(fl hs:List Nat)(p:Nat)(b:Ba E)(s:St E)(k:St E->Option R):Option R :=
 match(b2_ hs (aj_ fl) (l.drop (aj_ fl)) (fl.drop (aj_ fl)))[p]? with
 | none=>none
 | some t=>match P.follows .mixedOrders&&(floatB P N t.2.1 (dstsT ((b2_ hs (aj_ fl) (l.drop (aj_ fl)) (fl.drop (aj_ fl))).take p))&&Nat.beq t.2.2 1) &&
   mixBF .any l.toArray (tlOf 0 fl) (frOf 0 fl) t.1 (co_ 0 (l.take (aj_ fl))++(hOrd hs++bq_ ((b2_ hs (aj_ fl) (l.drop (aj_ fl)) (fl.drop (aj_ fl))).take p))) (bq_ ((b2_ hs (aj_ fl) (l.drop (aj_ fl)) (fl.drop (aj_ fl))).drop (p+1)))with
  | false=>none
  | true=>bi_ P E (λL H nx o _ k=>eo_ P E eqs tab L H nx o k) N (l.length+1) R none (l.take (aj_ fl)) 0 b s λs1=>evH P E eqs tab N b l (frOf 0 fl) hs s1 λs2 =>
    evB P E eqs tab N false b ((b2_ hs (aj_ fl) (l.drop (aj_ fl)) (fl.drop (aj_ fl))).take p++t::(b2_ hs (aj_ fl) (l.drop (aj_ fl)) (fl.drop (aj_ fl))).drop (p+1)) { s2 with env:=(dstN t.2.1,none)::s2.env } k
abbrev Gs:=List (Nat×Nat×Bool)
def gsAt(k:Nat):Gs->Option (Nat×Nat×Bool)
 | []=>none
 | q::l=>match Nat.beq q.1 k with
  | true=>some q
  | false=>gsAt k l
def gsSlot(d:Nat):Gs->Option (Nat×Nat×Bool)
 | []=>none
 | q::l=>match Nat.beq q.2.1 d with
  | true=>some q
  | false=>gsSlot d l
def gsFree(o:Oper)(gs:Gs):Bool:=gs.all λq=>dstOK o (some (q.1,q.2.2,q.2.1))
def wantG(o:Oper)(gs:Gs):Option Bool:=match o.guard with
 | none=>some true
 | some (k,w)=>match gsAt k gs with
  | none=>none
  | some q=>some (match q.2.2,w with|true,true=>true|false,false=>true|_,_=>false)
def pickG(o:Oper)(gs:Gs):Option Operand:=match o.op with
 | .pick (.tmp d) x y=>match gsSlot d gs with
  | none=>none
  | some q=>some (picked q.2.2 x y)
 | _=>none
noncomputable def evO1(P:Program)(E:TE)(eqs:List (Nat×Nat))(tab:Tab E)(N:Nat){R:Type}(b:Ba E)(all:List Oper)(i:Nat)(gs:Gs)(s:St E)(kk:St E->Option R):Option R:=match all[i]? with
 | none=>none
 | some o=>match gsFree o gs,wantG o gs with
  | true,some true=>match pickG o gs with
   | some x=>match opS E (s.L b) x with
    | none=>none
    | some v=>match s.after N o (some v) []with
     | some s1=>kk s1
     | none=>none
   | none=>evOp P E eqs tab (s.L b) (s.H b) s.nx o λv u=>match s.after N o v u with
    | some s1=>kk s1
    | none=>none
  | true,some false=>match s.after N o none []with
   | some s1=>kk s1
   | none=>none
  | _,_=>none
noncomputable def b9_(P:Program)(E:TE)(eqs:List (Nat×Nat))(tab:Tab E)(N:Nat){R:Type}(b:Ba E)(all:List Oper)(k:St E->Option R):OT->Gs->St E->Option R
 | .nil,_,s=>k s
 | .spl i t f,gs,s=>match all[i]? with
  | none=>none
  | some o=>match o.dst with
   | none=>none
   | some d=>match s.L b d with
    | some (.v (.one (.dt .bool c)))=>bif c then b9_ P E eqs tab N b all k t ((i,d,true)::gs) s else b9_ P E eqs tab N b all k f ((i,d,false)::gs) s
    | _=>none
 | .free i t,gs,s=>match all[i]? with
  | none=>none
  | some o=>match gsFree o gs,wantG o gs with
   | true,some true=>qFree P E eqs (s.L b) o λv up=>match up with
    | some _=>none
    | none=>match s.after N o (some v) []with
     | some s1=>b9_ P E eqs tab N b all k t gs s1
     | none=>none
   | true,some false=>match s.after N o none []with
    | some s1=>b9_ P E eqs tab N b all k t gs s1
    | none=>none
   | _,_=>none
 | .alt i t .nil,gs,s=>evO1 P E eqs tab N b all i gs s λs1=>b9_ P E eqs tab N b all k t gs s1
 | .alt i t (.alt j t2 r2),gs,s=>both (evO1 P E eqs tab N b all i gs s λs1=>b9_ P E eqs tab N b all k t gs s1) (b9_ P E eqs tab N b all k (.alt j t2 r2) gs s)
 | .alt _ _ (.free _ _),_,_=>none
 | .alt _ _ (.spl _ _ _),_,_=>none
def eO_(l:List Oper)(i:Nat):Bool:=match l[i]? with
 | some o=>(match o.op with
  | .alloc _=>true
  | _=>false)
 | none=>false
def sfH(l:List Oper)(t:OT):List Nat:=t.tlO.filter (eO_ l)
def tlH(l:List Oper)(t:OT):List Nat:=t.tlO.filter λi => !(eO_ l i)
noncomputable def evOrd(P:Program)(E:TE)(eqs:List (Nat×Nat))(tab:Tab E)(N:Nat){R:Type}(l:List Oper)(p:Nat)(t:OT)(b:Ba E)(s:St E)(k:St E->Option R):Option R:=match P.follows .mixedOrders&&((t.frO.all λi=>Nat.ble p i)&&mixBO .any l.toArray (tlH l t) (sfH l t) t.frO t (co_ 0 (l.take p)))with|false=>none|true=>bi_ P E (λL H nx o _ k=>eo_ P E eqs tab L H nx o k) N (l.length+1) R none (l.take p) 0 b s λs1=>b9_ P E eqs tab N b l k t [] s1
def linO:OT->Nat->Nat->Bool | .nil,i,n=>Nat.beq i n | .free j t,i,n=>Nat.beq j i&&linO t (i+1) n | .alt j t .nil,i,n=>Nat.beq j i&&linO t (i+1) n | .alt _ _ _,_,_=>false | .spl _ t f,i,n=>linO t i n&&linO f i n
noncomputable def evLin(P:Program)(E:TE)(eqs:List (Nat×Nat))(tab:Tab E)(N:Nat){R:Type}(l:List Oper)(t:OT)(b:Ba E)(s:St E)(k:St E->Option R):Option R:=match linO t 0 l.length with|false=>none|true=>b9_ P E eqs tab N b l k t [] s
def chO:Nat->Nat->OT|_,0 => .nil|i,n+1 => .alt i (chO (i+1) n) .nil
noncomputable def evChain(P:Program)(E:TE)(eqs:List (Nat×Nat))(tab:Tab E)(N:Nat){R:Type}(l:List Oper)(p:Nat)(b:Ba E)(s:St E)(k:St E->Option R):Option R:=match P.follows .mixedOrders&&(Nat.ble p l.length&&mixBO .any l.toArray (chO p (l.length-p)).tlO [] [] (chO p (l.length-p)) (co_ 0 (l.take p)))with|false=>none|true=>bi_ P E (λL H nx o _ k=>eo_ P E eqs tab L H nx o k) N (l.length+1) R none (l.take p) 0 b s λs1=>bi_ P E (λL H nx o _ k=>evOp P E eqs tab L H nx o k) N (l.length+1) R none (l.drop p) p b s1 k
end Rt
end Go
