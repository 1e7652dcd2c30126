/-
 What the statements of this seat hang on,part 4: Rq Sa Sb Sq Sr Sc Sd Se Sf Sp Sg Sh.
-/
import Derived.Test.YtokncnjohiobcaaGreatDoorXA3
namespace Go
namespace Rt
open Go.RowKit
variable{E:TE}
inductive CP where
 | v (t:Ty)
 | own (j:Nat)
 | ptr (j:Nat)
 | mp (j:Nat)
 | sbp (j:Nat)
inductive VP where
 | d (t:Ty)
 | one (c:CP)
 | agg (l:tL CP)
inductive OP where
 | box (T:tA) (t:Ty)
 | cells (T:tA) (l:tL CP)
 | row (e:tA) (t:Ty) (foc:tL (Nat×Nat))
 | map (T:tA) (k v:Ty)
structure JP where (slots:tL (Nat×VP)) (objs:tL (Nat×tV×OP)) (keep hkeep gkeep:tL Nat) (nx:Nat)
def cpT:tL CP->tL Ty|[]=>[]|.v t::l=>t::cpT l|_::l=>cpT l
def VP.T:VP->tL Ty|.d t=>[t]|.one c=>cpT [c]|.agg l=>cpT l
def OP.T:OP->tL Ty|.box _ t=>[t]|.cells _ l=>cpT l|.row _ t _=>[.sl t]|.map _ k v=>[.sl k,.sl v]
def eV_:tL (Nat×VP)->tL Ty|[]=>[]|p::l=>p.2.T++eV_ l
def iv_:tL (Nat×tV×OP)->tL Ty|[]=>[]|p::l=>p.2.2.T++iv_ l
def JP.T(j:JP):tL Ty:=eV_ j.slots++iv_ j.objs
def hap{S:Nat->Type}:{ts us:tL Ty}->HL S ts->HL S us->HL S (ts++us)|[],_,_,h=>h|_::_,_,a,h=>(a.1,hap a.2 h)
def ft_{S:Nat->Type}:(ts us:tL Ty)->HL S (ts++us)->HL S ts|[],_,_=>()|_::ts,us,h=>(h.1,ft_ ts us h.2)
def hsnd{S:Nat->Type}:(ts us:tL Ty)->HL S (ts++us)->HL S us|[],_,h=>h|_::ts,us,h=>hsnd ts us h.2
def rowOf(j:Nat):tL (Nat×tV×OP)->tO (tA×Ty)
 | []=>none
 | (i,_,.row e t _)::l=>match Nat.beq i j with
  | true=>some (e,t)
  | false=>rowOf j l
 | _::l=>rowOf j l
def wantC(objs:tL (Nat×tV×OP)):tL CP->tL (tO (tA×Ty))|.own j::ps=>rowOf j objs::wantC objs ps|_::ps=>none::wantC objs ps|[]=>[]
def prepRs(E:TE){α:Type}:Rs->tL (V1 E)->Nat->(tL (V1 E)->Chs E->Nat->α)->α|(t,m)::rs,x::xs,n,k=>l7_ E t m x n λf u p=>prepRs E rs xs p λxs' h j=>k (f::xs') (h++u) j|_,xs,n,k=>k xs [] n
def prepS(b:Ba E)(s:St E)(objs:tL (Nat×tV×OP)):Nat×VP->St E
 | (t,.one (.own j))=>match s.L b t,rowOf j objs with
  | some (.v (.one .nils)),some (e,ty)=>{ s with env:=(t,some (.v (.one (.own s.nx))))::s.env,heap:=(s.nx,some (.row e ty [] []))::s.heap,nx:=s.nx+1 }
  | some (.v (.one (.pre id n))),_=>match s.H b id with
   | some (.row e ty xs _)=>{ s with env:=(t,some (.v (.one (.own s.nx))))::s.env,heap:=(s.nx,some (.row e ty (xs.take n.toNat) []))::(id,none)::s.heap,nx:=s.nx+1 }
   | _=>s
  | _,_=>s
 | (t,.d _)=>match s.L b t with
  | some (.v x)=>{ s with heap:=dD_ (s.H b) x.cs++s.heap }
  | _=>s
 | (t,.agg ps)=>match s.L b t with
  | some (.v (.agg cs))=>jk_ (wantC objs ps) cs s.nx λl u m=>{ s with env:=(t,some (.v (.agg l)))::s.env,heap:=u++s.heap,nx:=m }
  | _=>s
 | _=>s
def kQ_(b:Ba E)(objs:tL (Nat×tV×OP)):tL (Nat×VP)->St E->St E|[],s=>s|p::l,s=>kQ_ b objs l (prepS b s objs p)
def pc_(b:Ba E)(objs:tL (Nat×tV×OP))(s:St E):Nat×tV×OP->St E
 | (j,true,.cells _ ps)=>match s.H b j with
  | some (.box T cs)=>jk_ (wantC objs ps) cs s.nx λl u m=>{ s with heap:=(j,some (.box T l))::(u++s.heap),nx:=m }
  | _=>s
 | _=>s
def kR_(b:Ba E)(objs:tL (Nat×tV×OP)):tL (Nat×tV×OP)->St E->St E|[],s=>s|p::l,s=>kR_ b objs l (pc_ b objs s p)
def selV:tL CP->tL (SC E)->tL (SC E)|.v _::ps,c::cs=>c::selV ps cs|_::ps,_::cs=>selV ps cs|_,_=>[]
def frzC(b:Ba E)(s:St E)(cs:tL (SC E)):St E:={ s with heap:=dD_ (s.H b) cs++s.heap }
def frzS1(b:Ba E)(s:St E):Nat×VP->St E
 | (t,.agg ps)=>match s.L b t with
  | some (.v (.agg cs))=>frzC b s (selV ps cs)
  | _=>s
 | _=>s
def frzS(b:Ba E):tL (Nat×VP)->St E->St E|[],s=>s|p::l,s=>frzS b l (frzS1 b s p)
def frzO1(b:Ba E)(s:St E):Nat×tV×OP->St E
 | (j,true,.cells _ ps)=>match s.H b j with
  | some (.box _ cs)=>frzC b s (selV ps cs)
  | _=>s
 | (j,true,.box _ _)=>match s.H b j with
  | some (.box _ cs)=>frzC b s cs
  | _=>s
 | _=>s
def frzOs(b:Ba E):tL (Nat×tV×OP)->St E->St E|[],s=>s|p::l,s=>frzOs b l (frzO1 b s p)
abbrev Bd:=tL (Nat×Nat)
def addB(j id:Nat)(bs:Bd):tO Bd:=match aF_ j bs with
 | some id'=>match Nat.beq id id' with
  | true=>some bs
  | false=>none
 | none=>some ((j,id)::bs)
def aU_:tL CP->tL (SC E)->Bd->tO Bd
 | [],[],bs=>some bs
 | .v _::ps,_::cs,bs=>aU_ ps cs bs
 | .own j::ps,.own id::cs,bs=>match addB j id bs with
  | some bs=>aU_ ps cs bs
  | none=>none
 | .ptr j::ps,.ptr id 0::cs,bs=>match addB j id bs with
  | some bs=>aU_ ps cs bs
  | none=>none
 | .mp j::ps,.mp id::cs,bs=>match addB j id bs with
  | some bs=>aU_ ps cs bs
  | none=>none
 | .sbp j::ps,.sbp id::cs,bs=>match addB j id bs with
  | some bs=>aU_ ps cs bs
  | none=>none
 | _,_,_=>none
def gf_(L:Nat->tO (SV E)):tL (Nat×VP)->Bd->tO Bd
 | [],bs=>some bs
 | (_,.d _)::l,bs=>gf_ L l bs
 | (t,.one p)::l,bs=>match L t with
  | some (.v (.one c))=>match aU_ [p] [c] bs with
   | some bs=>gf_ L l bs
   | none=>none
  | _=>none
 | (t,.agg ps)::l,bs=>match L t with
  | some (.v (.agg cs))=>match aU_ ps cs bs with
   | some bs=>gf_ L l bs
   | none=>none
  | _=>none
def selfB(self:tV)(j:Nat)(bs:Bd):tO Bd:=match self with|true=>addB j j bs|false=>some bs
def jm_ (H:Nat->tO (Obj E)):tL (Nat×tV×OP)->Bd->tO Bd
 | [],bs=>some bs
 | (j,self,p)::l,bs=>match selfB self j bs with
  | some bs=>match p with
   | .cells _ ps=>match aF_ j bs with
    | some id=>match H id with
     | some (.box _ cs)=>match aU_ ps cs bs with
      | some bs=>jm_ H l bs
      | none=>none
     | _=>none
    | none=>none
   | _=>jm_ H l bs
  | none=>none
def ef_{α:Type}:tV->tO α->tO α|true,x=>x|false,_=>none
theorem c3_{α:Type}{c:tV}{x:tO α}{y:α}(h:ef_ c x=some y):c=true/\x=some y:=by
 cases c with
 | true=>exact⟨rfl,h⟩
 | false=>cases h
def castO{S:TE}(t:Ty){f:Ty}(xs:tL (Den S.S f)):tO (tL (Den S.S t)):=if h:f=t then some (d2_ h xs)else none
theorem qk_{S:TE}{t j:Ty}{xs:tL (Den S.S j)}{f:tL (Den S.S t)}(h:castO t xs=some f):∃e:j=t,f=d2_ e xs:=by
 unfold castO at h;split at h
 .rename_i e;exact⟨e,(qSj h).symm⟩
 .cases h
def unitO{α:Type}:tO α->tO (α×Unit)|some x=>some (x,())|none=>none
theorem ma_{α:Type}{x:tO α}{q:α×Unit}(h:unitO x=some q):x=some q.1:=by
 cases x with
 | none=>cases h
 | some a=>obtain rfl:=qSj h;rfl
def hapO{S:Nat->Type}{ts us:tL Ty}:tO (HL S ts)->tO (HL S us)->tO (HL S (ts++us))|some x,some y=>some (hap x y)|_,_=>none
theorem sa_{S:Nat->Type}{ts us:tL Ty}{x:tO (HL S ts)}{y:tO (HL S us)}{q:HL S (ts++us)}(h:hapO x y=some q):∃a b,x=some a/\y=some b/\q=hap a b:=by
 cases x with
 | none=>cases h
 | some a=>
  cases y with
  | none=>cases h
  | some b=>exact⟨a,b,rfl,rfl,(qSj h).symm⟩
def pairO{α β:Type}:tO α->tO β->tO (α×β)|some x,some y=>some (x,y)|_,_=>none
theorem v9_{α β:Type}{x:tO α}{y:tO β}{q:α×β}(h:pairO x y=some q):x=some q.1/\y=some q.2:=by
 cases x with
 | none=>cases h
 | some a=>
  cases y with
  | none=>cases h
  | some b=>obtain rfl:=qSj h;exact⟨rfl,rfl⟩
def dj_(H:Nat->tO (Obj E)):(ps:tL CP)->tL (SC E)->tO (HL E.S (cpT ps))|[],[]=>some ()|.v t::ps,c::cs=>pairO (c.data H t) (dj_ H ps cs)|.own _::ps,_::cs=>dj_ H ps cs|.ptr _::ps,_::cs=>dj_ H ps cs|.mp _::ps,_::cs=>dj_ H ps cs|.sbp _::ps,_::cs=>dj_ H ps cs|_,_=>none
def leafV(H:Nat->tO (Obj E)):(p:VP)->V1 E->tO (HL E.S p.T)|.d t,x=>unitO (takeD E H t x)|.one p,.one c=>dj_ H [p] [c]|.agg ps,.agg cs=>dj_ H ps cs|_,_=>none
def leafS(L:Nat->tO (SV E))(H:Nat->tO (Obj E)):(l:tL (Nat×VP))->tO (HL E.S (eV_ l))
 | []=>some ()
 | (t,p)::l=>match L t with
  | some (.v x)=>hapO (leafV H p x) (leafS L H l)
  | _=>none
def leafO(H:Nat->tO (Obj E)):(p:OP)->Obj E->tO (HL E.S p.T)|.box T t,.box T' cs=>ef_ (Nat.beq T T') (unitO ((bP_ E H (E.flat t) cs).map (E.ufl t)))|.cells T ps,.box T' cs=>ef_ (Nat.beq T T') (dj_ H ps cs)|.row e t _,.row e' _ xs _=>ef_ (Nat.beq e e') (unitO (castO t xs))|.map T k v,.map T' _ _ ks vs _=>ef_ (Nat.beq T T') (pairO (castO k ks) (unitO (castO v vs)))|_,_=>none
def mO_(H:Nat->tO (Obj E))(bs:Bd):(l:tL (Nat×tV×OP))->tO (HL E.S (iv_ l))
 | []=>some ()
 | (j,_,p)::l=>match aF_ j bs with
  | some id=>match H id with
   | some o=>hapO (leafO H p o) (mO_ H bs l)
   | none=>none
  | none=>none
def focOK(H:Nat->tO (Obj E))(bs:Bd)(keep gkeep:tL Nat):tL (Nat×tV×OP)->tV
 | []=>true
 | (j,_,.row _ _ fs)::l=>(match aF_ j bs with
  | some id=>match H id with
   | some (.row _ _ _ foc)=>fs.all λf=>(foc.any λp=>Nat.beq p.1 f.1)&&(ay_ f.2 keep&&ay_ f.1 gkeep)
   | _=>false
  | none=>false)&&focOK H bs keep gkeep l
 | _::l=>focOK H bs keep gkeep l
def noKey{α:Type}(i:Nat)(l:tL (Nat×α)):tV:=match aF_ i l with|none=>true|some _=>false
def subset(l m:tL Nat):tV:=l.all λt=>ay_ t m
def selfs:tL (Nat×tV×OP)->tL Nat|[]=>[]|(j,true,_)::l=>j::selfs l|_::l=>selfs l
def disj(l m:tL Nat):tV:=l.all λt=>!(ay_ t m)
def JP.mtB(j:JP)(lo:Nat)(s:St E)(bs:Bd):tV:=(Nat.ble lo j.nx&&bs.all λp=>Nat.ble lo p.1||Nat.beq p.1 p.2)&&(j.keep.all λt=>noKey t s.env&&seen s.vis t)&&((j.hkeep.all λt=>noKey t s.heap&&seen s.hvis t)&&(nodupB (bs.map (·.2))&&(disj (bs.map (·.2)) j.hkeep&&(disj (bs.map (·.1)) (j.hkeep++j.gkeep)&&((bs.all λp=>Nat.blt p.1 j.nx)&&(j.hkeep++j.gkeep).all λi=>Nat.blt i j.nx)))))
def JP.mt(j:JP)(b:Ba E)(s0:St E):tO (HL E.S j.T):=
 let s:=kR_ b j.objs j.objs (kQ_ b j.objs j.slots (frzOs b j.objs (frzS b j.slots s0)))
 match gf_ (s.L b) j.slots []with
 | some bs=>match jm_ (s.H b) j.objs bs with
  | some bs=>ef_ (j.mtB b.lo s bs&&focOK (s.H b) bs j.keep j.gkeep j.objs) (hapO (leafS (s.L b) (s.H b) j.slots) (mO_ (s.H b) bs j.objs))
  | none=>none
 | none=>none
def newC:(ps:tL CP)->HL E.S (cpT ps)->tL (SC E)|[],_=>[]|.v t::ps,h=>.dt t h.1::newC ps h.2|.own j::ps,h=>.own j::newC ps h|.ptr j::ps,h=>.ptr j 0::newC ps h|.mp j::ps,h=>.mp j::newC ps h|.sbp j::ps,h=>.sbp j::newC ps h
def ones:tL (SC E)->tO (V1 E)|[c]=>some (.one c)|_=>none
def newV:(p:VP)->HL E.S p.T->tO (V1 E)|.d t,h=>asV E t (E.cells t h.1)|.one p,h=>ones (newC [p] h)|.agg ps,h=>some (.agg (newC ps h))
def slotO(t:Nat):tO (V1 E)->tO (tL (Nat×tO (SV E)))->tO (tL (Nat×tO (SV E)))|some x,some r=>some ((t,some (.v x))::r)|_,_=>none
def newS:(l:tL (Nat×VP))->HL E.S (eV_ l)->tO (tL (Nat×tO (SV E)))|[],_=>some []|(t,p)::l,h=>slotO t (newV p (ft_ p.T (eV_ l) h)) (newS l (hsnd p.T (eV_ l) h))
def focK(L:Nat->tO (SV E)){R:Type}{t:Ty}(xs:tL (Den E.S t)):tL (Nat×Nat)->(tL (Nat×Int×Den E.S t)->tO R)->tO R
 | [],k=>k []
 | (q,sl)::fs,k=>match L sl with
  | some (.v (.one (.elo _ f i _)))=>match Nat.beq q f with
   | true=>Option.bind (ah_ xs i) λy=>focK L xs fs λl=>k ((q,i,y)::l)
   | false=>none
  | _=>none
def newO(L:Nat->tO (SV E)){R:Type}:(p:OP)->HL E.S p.T->(Obj E->tO R)->tO R|.box T t,h,k=>k (.box T (E.cells t h.1))|.cells T ps,h,k=>k (.box T (newC ps h))|.row e t fs,h,k=>focK L h.1 fs λl=>k (.row e t h.1 l)|.map T kt v,h,k=>k (.map T kt v h.1 h.2.1 [])
def newOs(L:Nat->tO (SV E)){R:Type}:(l:tL (Nat×tV×OP))->HL E.S (iv_ l)->(Chs E->tO R)->tO R|[],_,k=>k []|(j,_,p)::l,h,k=>newO L p (ft_ p.T (iv_ l) h) λo=>newOs L l (hsnd p.T (iv_ l) h) λu=>k ((j,some o)::u)
def SC.okIds(A:tL Nat):SC E->tV|.own id=>ay_ id A|.pre id _=>ay_ id A|.suf id _=>ay_ id A|.ptr id _=>ay_ id A|.elo id q _ _=>ay_ id A&&ay_ q A|.clo _ ids=>subset ids A|.mp id=>ay_ id A|.mst q=>ay_ q A|.sbp id=>ay_ id A|.pix id _=>ay_ id A|_=>true
def V1.okIds(A:tL Nat):V1 E->tV|.one c=>c.okIds A|.agg l=>l.all λc=>c.okIds A
def SV.okIds(A:tL Nat):SV E->tV|.v x=>x.okIds A|.tup l=>l.all λx=>x.okIds A
def Obj.okIds(A:tL Nat):Obj E->tV|.box _ cs=>cs.all λc=>c.okIds A|.row _ _ _ foc=>foc.all λp=>ay_ p.1 A|.map _ _ _ _ _ foc=>foc.all λp=>ay_ p.1 A|_=>true
def filtK{α:Type}(keep:tL Nat)(l:tL (Nat×α)):tL (Nat×α):=l.filter λp=>ay_ p.1 keep
def JP.goB(j:JP)(b:Ba E)(s:St E):tV:=
 (j.keep.all λt=>match s.L b t with|some v=>v.okIds (j.hkeep++(j.gkeep++selfs j.objs))|none=>true)&&(j.hkeep.all λi=>match s.H b i with|some o=>o.okIds (j.hkeep++(j.gkeep++selfs j.objs))|none=>true)
def JP.goS(j:JP)(s:St E)(env:tL (Nat×tO (SV E)))(u:Chs E):St E:={ env:=env++filtK j.keep s.env,vis:=some (j.keep.filter (seen s.vis)),heap:=u++filtK j.hkeep s.heap,hvis:=some (j.hkeep.filter (seen s.hvis)),nx:=j.nx }
def JP.go(j:JP)(b:Ba E)(s:St E){R:Type}(h:HL E.S j.T)(k:St E->tO R):tO R:=
 match newS j.slots (ft_ (eV_ j.slots) (iv_ j.objs) h)with
 | none=>none
 | some env=>
  ef_ (j.goB b s) (newOs (s.L b) j.objs (hsnd (eV_ j.slots) (iv_ j.objs) h) λu=>k (j.goS s env u))
def tv_(o:tI):tO (tA×Nat):=match o.op,o.guard,o.dst with|.alloc T,none,some d=>some (T,d)|_,_,_=>none
def tw_(o:tI):tO (tA×Nat×Nat):=match o.op,o.guard,o.dst with|.store T (.tmp d) (.tmp x),none,none=>some (T,d,x)|_,_,_=>none
def pairB(N:Nat)(T1 d1 T2 d2 q m h p j f:Nat):tV:=(Nat.beq q T1&&Nat.beq p T2)&&((Nat.beq m d1&&Nat.beq j d2)&&((!(Nat.beq d1 d2)&&(Nat.blt d1 N&&Nat.blt d2 N))&&((!(Nat.beq h d1) && !(Nat.beq h d2))&&(!(Nat.beq f d1) && !(Nat.beq f d2)))))
noncomputable def evPair(P:tT)(E:TE)(eqs:tL (Nat×Nat))(tab:Tab E)(N:Nat){R:Type}(l:tL tI)(p:Nat)(b:Ba E)(s:St E)(k:St E->tO R):tO R:=
 match l.drop p with
 | [oA,oB,oC,oD]=>match tv_ oA,tv_ oB,tw_ oC,tw_ oD with
  | some (T1,d1),some (T2,d2),some (J,F,j),some (G,D,h)=>
   match P.follows .mixedOrders&&(mixBF .any l.toArray [p+3] [] (p+1) (d8_ 0 (l.take p)++[(p,true)]) [(p+2,true),(p+3,true)]&&pairB N T1 d1 T2 d2 J F j G D h)with
   | false=>none
   | true=>cC_ P E (λL H nx o _ k=>it_ P E eqs tab L H nx o k) N (l.length+1) R none (l.take p) 0 b s λf=>match f.L b j,f.L b h with
    | some C,some v2=>match C.cells?,v2.cells?,zeroOf P T1,zeroOf P T2,aK_ P T1,aK_ P T2 with
     | some x,some u,some y,some z2,some q,some m=>match(Nat.beq q x.length&&Nat.beq y.length q)&&(Nat.beq m u.length&&Nat.beq z2.length m)with
      | true=>k { f with env:=(d2,some (.v (.one (.ptr (f.nx+2) 0))))::(d1,some (.v (.one (.ptr f.nx 0))))::f.env,heap:=[(f.nx+2,some (.box T2 u)),(f.nx,some (.box T1 x))]++f.heap,nx:=f.nx+8 }
      | false=>none
     | _,_,_,_,_,_=>none
    | _,_=>none
  | _,_,_,_=>none
 | _=>none
inductive Pl where
 | p
 | s (x y:Pl)
 | j (m:JP) (ret:tV) (x y:Pl)
 | lp (hd ex:JP) (ret:tV) (x:Pl)
 | dr (fl hs:tL Nat) (fm:tV) (ids:tL Nat)
 | df (fl hs:tL Nat) (p:Nat)
 | ot (p:Nat) (t:OT)
 | sq (p:Nat)
 | pr (p:Nat)
 | lx (hd ex rm:JP) (x:Pl)
 | rx
def Pl.l:Pl->Pl|.s x _=>x|_=>.p
def Pl.r:Pl->Pl|.s _ y=>y|_=>.p
noncomputable def evCode(P:tT)(E:TE)(eqs:tL (Nat×Nat))(tab:Tab E)(N:Nat)(RT:Type)(rv:Ba E->St E->tO RT):Code->Pl->(R:Type)->Ba E->St E->(tO Nat->St E->tO R)->(RT->tO R)->tO R
 | .skip,_,_,_,s,k,_=>k none s
 | .region _ ops false,.ot _ t,_,b,s,k,_=>evLin P E eqs tab N ops.toList t b s (k none)
 | .region _ ops false,_,_,b,s,k,_=>evReg P E eqs tab N ops.toList b s (k none)
 | .region _ ops true,.dr fl D fm ids,_,b,s,k,_=>evDraw P E eqs tab N ops.toList fl D fm ids b s (k none)
 | .region _ ops true,.df fl D p,_,b,s,k,_=>evFloat P E eqs tab N ops.toList fl D p b s (k none)
 | .region _ ops true,.ot p t,_,b,s,k,_=>evOrd P E eqs tab N ops.toList p t b s (k none)
 | .region _ ops true,.pr p,_,b,s,k,_=>evPair P E eqs tab N ops.toList p b s (k none)
 | .region _ ops true,.sq p,_,b,s,k,_=>evChain P E eqs tab N ops.toList p b s (k none)
 | .seq x y,.j m ret px py,R,b,s,k,kr=>match ret with
  | false=>Option.bind (evCode P E eqs tab N RT rv x px (Tp E.S m.T) (s.base b) (St.new s.nx) (λq f=>match q with
    | none=>(match m.mt (s.base b) f with|some h=>some (ci_ m.T h)|none=>none)
    | some _=>none) (λ_=>none)) λo=>m.go b s (bs_ m.T o) λf=>evCode P E eqs tab N RT rv y py R b f k kr
  | true=>Option.bind (evCode P E eqs tab N RT rv x px (Out (Tp E.S m.T) RT) (s.base b) (St.new s.nx) (λq f=>match q with
    | none=>(match m.mt (s.base b) f with|some h=>some (.fall (ci_ m.T h))|none=>none)
    | some _=>none) (λr=>some (.ret r))) λo=>match o with
     | .ret r=>kr r
     | .fall o=>m.go b s (bs_ m.T o) λf=>evCode P E eqs tab N RT rv y py R b f k kr
 | .seq x y,pl,R,b,s,k,kr=>evCode P E eqs tab N RT rv x pl.l R b s (λq f=>match q with
   | none=>evCode P E eqs tab N RT rv y pl.r R b f k kr
   | some i=>k (some i) f) kr
 | .cond c x y,pl,R,b,s,k,kr=>match opS E (s.L b) c with
  | some (.v (.one (.dt .bool c)))=>bif c then evCode P E eqs tab N RT rv x pl.l R b s k kr else evCode P E eqs tab N RT rv y pl.r R b s k kr
  | _=>none
 | .block id (.loop body),.lp u q ret pb,_,b,s,k,kr=>match u.mt (s.base b) (St.new s.nx)with
  | none=>none
  | some h0=>match ret with
   | false=>Option.bind (aj_ (λtp=>u.go (s.base b) (St.new s.nx) (bs_ u.T tp) λC=>evCode P E eqs tab N RT rv body pb (Step (Tp E.S u.T) (Tp E.S q.T)) (s.base b) C (λe f=>match e with
      | none=>(match u.mt (s.base b) f with|some h=>some (.next (ci_ u.T h))|none=>none)
      | some i=>match Nat.beq i (id+1)with
       | true=>(match q.mt (s.base b) f with|some h=>some (.done (ci_ q.T h))|none=>none)
       | false=>none) (λ_=>none)) BIG (ci_ u.T h0)) λo=>q.go b s (bs_ q.T o) λf=>k none f
   | true=>Option.bind (aj_ (λtp=>u.go (s.base b) (St.new s.nx) (bs_ u.T tp) λC=>evCode P E eqs tab N RT rv body pb (Step (Tp E.S u.T) (Out (Tp E.S q.T) RT)) (s.base b) C (λe f=>match e with
      | none=>(match u.mt (s.base b) f with|some h=>some (.next (ci_ u.T h))|none=>none)
      | some i=>match Nat.beq i (id+1)with
       | true=>(match q.mt (s.base b) f with|some h=>some (.done (.fall (ci_ q.T h)))|none=>none)
       | false=>none) (λr=>some (.done (.ret r)))) BIG (ci_ u.T h0)) λo=>match o with
     | .ret r=>kr r
     | .fall o=>q.go b s (bs_ q.T o) λf=>k none f
 | .block id (.loop body),.lx u q rm pb,_,b,s,k,_=>match u.mt (s.base b) (St.new s.nx)with
  | none=>none
  | some h0=>Option.bind (aj_ (λtp=>u.go (s.base b) (St.new s.nx) (bs_ u.T tp) λC=>evCode P E eqs tab N RT rv body pb (Step (Tp E.S u.T) (Out (Tp E.S q.T) (Tp E.S rm.T))) (s.base b) C (λe f=>match e with
      | none=>(match u.mt (s.base b) f with|some h=>some (.next (ci_ u.T h))|none=>none)
      | some i=>match Nat.beq i (id+1)with
       | true=>(match q.mt (s.base b) f with|some h=>some (.done (.fall (ci_ q.T h)))|none=>none)
       | false=>match Nat.beq i 0 with
        | true=>(match rm.mt (s.base b) f with|some h=>some (.done (.ret (ci_ rm.T h)))|none=>none)
        | false=>none) (λ_=>none)) BIG (ci_ u.T h0)) λo=>match o with
     | .ret o=>rm.go b s (bs_ rm.T o) λf=>k (some 0) f
     | .fall o=>q.go b s (bs_ q.T o) λf=>k none f
 | .block id x,pl,R,b,s,k,kr=>evCode P E eqs tab N RT rv x pl R b s (λq f=>match q with
   | none=>k none f
   | some i=>match Nat.beq i (id+1)with
    | true=>k none f
    | false=>k (some i) f) kr
 | .exit i,_,_,_,s,k,_=>k (some (i+1)) s
 | .ret,.rx,_,_,s,k,_=>k (some 0) s
 | .scope x,pl,R,b,s,k,kr=>evCode P E eqs tab N RT rv x pl R b s k kr
 | .ret,_,_,b,s,_,kr=>match rv b s with
  | some r=>kr r
  | none=>none
 | _,_,_,_,_,_,_=>none
def resSV(E:TE)(P:tT)(b:Ba E)(s:St E):ResultVar->tO (V1 E)
 | .tmp t=>match s.L b t with
  | some (.v x)=>some x
  | _=>none
 | .cell t T=>match s.L b t with
  | some (.v (.one c))=>match behind E (s.H b) c with
   | some (l,off)=>loadC P T l off
   | none=>none
  | _=>none
def resXs(E:TE)(P:tT)(b:Ba E)(s:St E):tL ResultVar->tO (tL (V1 E))
 | []=>some []
 | v::vs=>match resSV E P b s v,resXs E P b s vs with
  | some x,some l=>some (x::l)
  | _,_=>none
def frzR(E:TE)(H:Nat->tO (Obj E)):Rs->tL (V1 E)->Chs E|(_,m)::rs,x::xs=>dD_ (upH H (frzR E H rs xs)) (unM m x.cs)++frzR E H rs xs|_,_=>[]
def frzV(E:TE)(H:Nat->tO (Obj E)):tL Pm->Nat->Chs E
 | [],_=>[]
 | .b _ _::ps,n=>(match upH H (frzV E H ps (n+1)) n with
  | some (.box _ cs)=>dD_ (upH H (frzV E H ps (n+1))) cs
  | _=>[])++frzV E H ps (n+1)
 | .bm _ t m _::ps,n=>(match upH H (frzV E H ps (n+1+aC_ m (E.flat t))) n with
  | some (.box _ (.ptr _ _::cs))=>dD_ (upH H (frzV E H ps (n+1+aC_ m (E.flat t)))) (unM m cs)
  | some (.box _ cs)=>dD_ (upH H (frzV E H ps (n+1+aC_ m (E.flat t)))) (unM m cs)
  | _=>[])++frzV E H ps (n+1+aC_ m (E.flat t))
 | .l t m::ps,n=>frzV E H ps (n+aC_ m (E.flat t))
 | .g t m::ps,n=>frzV E H ps (n+aC_ m (E.flat t))
 | .mp _ _ _::ps,n=>frzV E H ps (n+1)
 | .d _::ps,n=>frzV E H ps n
 | .p _::ps,n=>frzV E H ps n
 | .f1 _ _::ps,n=>frzV E H ps n
 | .f2 _ _ _::ps,n=>frzV E H ps n
def frzA(E:TE)(H:Nat->tO (Obj E))(ps:tL Pm)(rs:Rs)(xs:tL (V1 E)):Chs E:=frzV E (upH H (frzR E H rs xs)) ps 0++frzR E H rs xs
def takeR(E:TE)(H:Nat->tO (Obj E)):(rs:Rs)->tL (V1 E)->tO (HL E.S rs.ts×tL Nat)
 | [],[]=>some ((),[])
 | (t,m)::rs,x::xs=>match V1.fits t x,bK_ E H m (E.flat t) x.cs,takeR E H rs xs with
  | true,some d,some q=>some ((E.ufl t d.1,q.1),d.2++q.2)
  | _,_,_=>none
 | _,_=>none
def mb_ (E:TE) (H:Nat->tO (Obj E)):Mk->(ts:tL Ty)->HL E.S ts->Nat->tO (HL E.S ts)
 | some e::f,.sl t::ts,h,n=>match H n with
  | some (.row e' j xs _)=>if m:j=t then match Nat.beq e e',mb_ E H f ts h.2 (n+1)with
    | true,some q=>some (d2_ m xs,q)
    | _,_=>none
   else none
  | _=>none
 | none::f,_::ts,h,n=>match mb_ E H f ts h.2 n with
  | some q=>some (h.1,q)
  | none=>none
 | [],_,h,_=>some h
 | _,_,_,_=>none
def hidI:tL (V1 E)->Nat->tV|[],_=>true|[.one (.ptr id _)],p=>Nat.beq p id|_,_=>false
def dk_ (E:TE) (H:Nat->tO (Obj E)):(ps:tL Pm)->PA E ps->Nat->tO (HL E.S (aI_ ps)×tL Nat)
 | [],_,_=>some ((),[])
 | .l t m::ps,a,n=>match mb_ E H m (E.flat t) (E.fl t a.1) n,dk_ E H ps a.2 (n+aC_ m (E.flat t))with
  | some h,some q=>some ((E.ufl t h,q.1),q.2)
  | _,_=>none
 | .g t m::ps,a,n=>dk_ E H ps a.2 (n+aC_ m (E.flat t))
 | .mp T k v::ps,a,n=>match H n,dk_ E H ps a.2 (n+1)with
  | some (.map T' x u ks vs _),some q=>if s:x=k/\u=v then match Nat.beq T T' with
    | true=>some ((d2_ s.1 ks,d2_ s.2 vs,q.1),q.2)
    | false=>none
   else none
  | _,_=>none
 | .b T t::ps,a,n=>match H n,dk_ E H ps a.2 (n+1)with
  | some (.box T' cs),some q=>match Nat.beq T T',bP_ E H (E.flat t) cs with
   | true,some h=>some ((E.ufl t h,q.1),q.2)
   | _,_=>none
  | _,_=>none
 | .bm T t m px::ps,a,n=>match H n,dk_ E H ps a.2 (n+1+aC_ m (E.flat t))with
  | some (.box T' j),some q=>match ji_ (pxB px ps) j with
   | some (cs,f)=>match Nat.beq T T'&&hidI f (n+1+aC_ m (E.flat t)),bK_ E H m (E.flat t) cs with
    | true,some d=>some ((E.ufl t d.1,q.1),d.2++q.2)
    | _,_=>none
   | none=>none
  | _,_=>none
 | .d _::ps,a,n=>dk_ E H ps a.2 n
 | .p _::ps,a,n=>dk_ E H ps a.2 n
 | .f1 _ _::ps,a,n=>dk_ E H ps a.2 n
 | .f2 _ _ _::ps,a,n=>dk_ E H ps a.2 n
def dl_(E:TE):tL Pm->Nat->tL Nat|[],_=>[]|.l t m::ps,n=>List.range' n (aC_ m (E.flat t))++dl_ E ps (n+aC_ m (E.flat t))|.g t m::ps,n=>dl_ E ps (n+aC_ m (E.flat t))|.mp _ _ _::ps,n=>n::dl_ E ps (n+1)|.b _ _::ps,n=>n::dl_ E ps (n+1)|.bm _ t m _::ps,n=>n::dl_ E ps (n+1+aC_ m (E.flat t))|.d _::ps,n=>dl_ E ps n|.p _::ps,n=>dl_ E ps n|.f1 _ _::ps,n=>dl_ E ps n|.f2 _ _ _::ps,n=>dl_ E ps n
def retF(E:TE)(P:tT)(ps:tL Pm)(rs:Rs)(a:PA E ps)(vs:tL ResultVar)(b:Ba E)(s:St E):tO (Tp E.S (rs.ts++aI_ ps)):=
 match resXs E P b s vs with
 | none=>none
 | some f=>prepRs E rs f s.nx λxs u _=>match takeR E (upH (upH (s.H b) u) (frzA E (upH (s.H b) u) ps rs xs)) rs xs with
  | none=>none
  | some q=>match dk_ E (upH (upH (s.H b) u) (frzA E (upH (s.H b) u) ps rs xs)) ps a 0 with
   | some bh=>ef_ (nodupB (dl_ E ps 0++(q.2++bh.2))) (some (ci_ _ (hap q.1 bh.1)))
   | none=>none
def slotsOf:Nat->tL (V1 E)->tL (Nat×tO (SV E))|_,[]=>[]|i,x::l=>(i,some (.v x))::slotsOf (i+1) l
noncomputable def kS_(P:tT)(E:TE)(eqs:tL (Nat×Nat))(tab:Tab E)(f:Func)(ps:tL Pm)(rs:Rs)(pl:Pl)(a:PA E ps):tO (Tp E.S (rs.ts++aI_ ps)):=
 match f.body,bA_ E ps a 0 with
 | some c,some svs=>ef_ (Nat.ble svs.length f.ntmps)<|evCode P E eqs tab f.ntmps (Tp E.S (rs.ts++aI_ ps)) (retF E P ps rs a f.results.toList) c pl (Tp E.S (rs.ts++aI_ ps)) ⟨λ_=>none,λ_=>none,ar_ E ps⟩
   ⟨slotsOf 0 svs,none,aY_ E ps a 0,none,ar_ E ps⟩ (λh s=>match h with
    | none=>retF E P ps rs a f.results.toList ⟨λ_=>none,λ_=>none,ar_ E ps⟩ s
    | some _=>none) some
 | _,_=>none
end Rt
namespace Rt
open Go.RowKit
structure Org where (z:Fz) (g:Ga) (lo:Nat)
variable{P:tT}{E:TE}{eqs:tL (Nat×Nat)}{tab:Tab E}{N:Nat}{Bs:tL Nat}{F0:Org}{w0:tS}
def Rel(P:tT)(E:TE)(Bs:tL Nat)(F0:Org)(w0:tS)(N:Nat)(L:Nat->tO (SV E))(H:Nat->tO (Obj E))(nx:Nat)(a:Act)(w:tS):Prop:=∃z g,ER P E z g N a L/\HR P E Bs F0.z.F w0 w z g H/\Fresh g nx/\F0.z.Le z/\F0.g.Le g
theorem ER.del{z:Fz}{g:Ga}{a:Act}{L L':Nat->tO (SV E)}(h:ER P E z g N a L){d:Nat}{v:tW}(hL:∀t u,L' t=some u->t≠d/\L t=some u):ER P E z g N (a.put (some d) v) L':=by
 refine⟨by simpa[Act.put]using h.size,h.defers,λt u e=>?_⟩;obtain⟨h1,p⟩:=hL t u e;obtain⟨f,m,j⟩:=h.get t u p;refine⟨f,?_,j⟩;simp only[Act.put];rw[zu (Ne.symm h1)];exact m
theorem after_ok2{b:Ba E}{s m:St E}{o:tI}{v:tO (SV E)}{u:Chs E}{a:Act}{w':tS}{x:tW}{z:Fz}{g:Ga}(h:s.after N o v u=some m)(q:ER P E z g N a (s.L b))(D:HR P E Bs F0.z.F w0 w' z g (upH (s.H b) u))(y:Fresh g (nxU s.nx u))(J:∀sv,v=some sv->RV P E z g sv x) :
  (ER P E z g N (a.put o.dst x) (m.L b)/\HR P E Bs F0.z.F w0 w' z g (m.H b)/\Fresh g m.nx/\m.H b=upH (s.H b) u)/\(∀t,(∀d,o.dst=some d->t≠d)->m.L b t=s.L b t):=by
 unfold St.after at h;have j:∀(env:tL (Nat×tO (SV E))) (nx:Nat),(St.H b { s with env:=env,heap:=u++s.heap,nx:=nx })=upH (s.H b) u:=λenv nx=>by
  unfold St.H;rw[aJ_]
 cases C:o.dst with
 | none=>
  rw[C]at h;obtain rfl:=qSj h;refine⟨⟨q,?_,y,j _ _⟩,λt _=>rfl⟩;have:=j s.env (nxU s.nx u);show HR P E Bs F0.z.F w0 w' z g (St.H b _);rw[this];exact D
 | some d=>
  rw[C]at h;simp only at h;split at h
  .rename_i hN;obtain rfl:=qSj h;have hL:∀t,t≠d->St.L b { s with env:=(d,v)::s.env,heap:=u++s.heap,nx:=nxU s.nx u } t=s.L b t:=λt f=>by
    unfold St.L;simp only[aF_];split
    .rename_i hx;split at hx
     .rename_i M;exact absurd (qNb M) f
     .rw[hx]
    .rename_i hx;split at hx
     .cases hx
     .rw[hx]
   have p:St.L b { s with env:=(d,v)::s.env,heap:=u++s.heap,nx:=nxU s.nx u } d=v:=by
    unfold St.L;simp only[aF_];have:Nat.beq d d=true:=by simp
    rw[this]
   refine⟨⟨?_,?_,y,j _ _⟩,λt f=>hL t (f d rfl)⟩
   .cases v with
    | some sv=>
     refine q.put hN (J sv rfl) λt G e=>?_
     by_cases f:t=d
     .subst f;rw[p]at e;exact .inl ⟨rfl,(qSj e).symm⟩
     .rw[hL t f]at e;exact .inr ⟨f,e⟩
    | none=>
     refine q.del λt G e=>?_
     by_cases f:t=d
     .subst f;rw[p]at e;cases e
     .rw[hL t f]at e;exact⟨f,e⟩
   .have:=j ((d,v)::s.env) (nxU s.nx u);rw[this];exact D
  .cases h
theorem bU_{b:Ba E}{s f:St E}{o:tI}{v:tO (SV E)}{u:Chs E}{a:Act}{w':tS}{x:tW}{z:Fz}{g:Ga}(h:s.after N o v u=some f)(C:ER P E z g N a (s.L b))(y:HR P E Bs F0.z.F w0 w' z g (upH (s.H b) u))(j:F0.z.Le z)(m:F0.g.Le g)(q:Fresh g (nxU s.nx u))(p:∀sv,v=some sv->RV P E z g sv x) :
  Rel P E Bs F0 w0 N (f.L b) (f.H b) f.nx (a.put o.dst x) w'/\(∀t,(∀d,o.dst=some d->t≠d)->f.L b t=s.L b t):=
 let ⟨⟨h1,J,G,_⟩,D⟩:=after_ok2 h C y q p
 ⟨⟨z,g,h1,J,G,j,m⟩,D⟩
def gdOK(all:tL tI)(gd:Gd)(L:Nat->tO (SV E)):Prop:=match gd with|none=>True|some (j,w,d)=>(∃oj,all[j]? = some oj/\oj.dst=some d)/\∃c,L d=some (.v (.one (.dt .bool c)))/\c=w
theorem mc_{all:tL tI}{j d:Nat}{oj:tI}{a:Act}{c:tV}(h1:all[j]? = some oj)(h:oj.dst=some d)(f:a.tmps[d]? = some (.bool c)):yielded all.toArray a.tmps j=some c:=by
 unfold yielded;simp[h1,h,f]
theorem sc_{all:tL tI}{gd:Gd}{L:Nat->tO (SV E)}{o:tI}{a:Act}{z:Fz}{g:Ga}(h:tq_ o gd=true)(s:gdOK all gd L)(u:ER P E z g N a L):Region.wanted o (yielded all.toArray a.tmps)=true:=by
 unfold tq_ at h;unfold Region.wanted;split at h
 .split at h
  .rename_i q;rw[q]
  .cases h
 .rename_i j w d;split at h
  .cases h
  .rename_i F w' m;simp only[qAn]at h;obtain rfl:=qNb h.1;have f:w=w':=by cases w<;>cases w'<;>simp_all
   subst f;obtain⟨⟨oj,h1,D⟩,c,C,rfl⟩:=s;obtain⟨v,y,x⟩:=u.get d _ C;rw[m];have p:=SV.bool_ok rfl x;subst p;simp only;rw[mc_ h1 D y];simp
structure Walk(P:tT)(E:TE)(ev:Ev E)(N:Nat)(Bs:tL Nat)(F0:Org)(w0:tS)(all:tL tI) where
 W:(Act->tS->Prop)->tL tI->Nat->Act->tS->Prop
 nil:∀{J i a w},J a w->W J [] i a w
 app:∀{J1 J l1 l2 i a w},W J1 l1 i a w->(∀a w,J1 a w->W J l2 (i+l1.length) a w)->W J (l1++l2) i a w
 skip:∀{J o l i a w},all[i]? = some o->Region.wanted o (yielded all.toArray a.tmps)=false->W J l (i+1) (a.put o.dst undef) w->W J (o::l) i a w
 step:∀{J o l i a w} {R:Type} {L H nx z g} {k:tO (SV E)->Chs E->tO R} {r:R},all[i]? = some o->Region.wanted o (yielded all.toArray a.tmps)=true ->
  ER P E z g N a L->HR P E Bs F0.z.F w0 w z g H->Fresh g nx->F0.z.Le z->F0.g.Le g->ev L H nx o R k=some r ->
  (∀s u v w' z2 g2,k s u=some r->z.Le z2->g.Le g2->ER P E z2 g2 N a L->HR P E Bs F0.z.F w0 w' z2 g2 (upH H u)->Fresh g2 (nxU nx u)->(∀sv,s=some sv->RV P E z2 g2 sv v)->W J l (i+1) (a.put o.dst v) w')->W J (o::l) i a w
 pick:∀{J o l i a w v},all[i]? = some o->Region.wanted o (yielded all.toArray a.tmps)=true->(∀w,(execOp a.eval o).run P w = .ok (.value v) w)->W J l (i+1) (a.put o.dst v) w->W J (o::l) i a w
theorem sd_{d:Nat}:∀{l body rest:tL tI} {pk:tI},i3_ d l=some (body,pk,rest)->l=body++pk::rest/\∃x y,pk.op = .pick (.tmp d) x y
 | [],_,_,_,h=>by cases h
 | o :: r,body,rest,pk,h=>by
  have tail:∀{q:tL tI×tI×tL tI},i3_ d r=some q->(o::q.1,q.2.1,q.2.2)=(body,pk,rest)->o::r=body++pk::rest/\∃x y,pk.op = .pick (.tmp d) x y:=by
   rintro⟨l,p,q⟩ f j;simp only[qC]at j;obtain⟨rfl,rfl,rfl⟩:=j;obtain⟨h1,u⟩:=sd_ f;exact⟨by rw[h1];rfl,u⟩
  unfold i3_ at h;split at h
  .rename_i C x y m;split at h
   .rename_i s;obtain rfl:=qNb s;simp only[qOi,qC]at h;obtain⟨rfl,rfl,rfl⟩:=h;exact⟨rfl,x,y,m⟩
   .split at h
    .rename_i l p q f;exact tail f (qSj h)
    .cases h
  .split at h
   .rename_i l p q f;exact tail f (qSj h)
   .cases h
theorem groupOf_eq{o:tI}{idx:Nat}{l body rest:tL tI}{d:Nat}{w:tV}{pk:tI}(h:groupOf o idx l=some (d,w,body,pk,rest)):o.dst=some d/\l=body++pk::rest/\∃x y,pk.op = .pick (.tmp d) x y:=by
 unfold groupOf at h;split at h
 .cases h
 .split at h
  .rename_i j w' C u m;split at h
   .split at h
    .rename_i s p q f;simp only[qOi,qC]at h;obtain⟨rfl,rfl,rfl,rfl,rfl⟩:=h;exact⟨m,sd_ f⟩
    .cases h
   .cases h
  .cases h
theorem skip_ok {ev:Ev E} {all:tL tI} (wk:Walk P E ev N Bs F0 w0 all) {idx d:Nat} {wt c:tV} {J:Act->tS->Prop} (hc:c≠wt) {os:tI} (h1:all[idx]? = some os) (h2:os.dst=some d):∀(l tl:tL tI) (i:Nat) (a:Act) (w:tS),all.drop i=l++tl->idx<i->skipB idx d wt l i=true ->
  a.tmps[d]? = some (.bool c)->(∀j,idx<j->j<i->yielded all.toArray a.tmps j=none) ->
  (∀s,s.tmps.size=a.tmps.size->s.defers=a.defers->(∀t,ay_ t (d7_ l)=false->s.tmps[t]? = a.tmps[t]?)->J s w)->wk.W J l i a w
 | [],tl,i,a,w,_,_,_,_,_,hJ=>wk.nil (hJ a rfl rfl λ_ _=>rfl)
 | o :: l,tl,i,a,w,hd,hi,hs,x,q,hJ=>by
  have ho:all[i]? = some o:=by
   have:(all.drop i)[0]? = some o:=by rw[hd];rfl
   rw[qo]at this;simpa using this
  simp only[skipB,qAn]at hs;obtain⟨p,O⟩:=hs;split at p
  .rename_i j w' d' hg m;simp only[qAn,qz,qF]at p;obtain⟨M,G⟩:=p;have Y:d≠d':=bk_ G;have V:Region.wanted o (yielded all.toArray a.tmps)=false:=by
    unfold Region.wanted;rw[hg];simp only;rcases M with⟨y,D⟩|⟨y,D⟩
    .obtain rfl:=qNb y;have F:wt=w':=by cases wt<;>cases w'<;>simp_all
     subst F;rw[mc_ h1 h2 x];cases c<;>cases wt<;>simp_all
    .have ZX:idx<j:=by simpa using y
     have ZY:j<i:=by simpa using D
     rw[q j ZX ZY];rfl
   refine wk.skip ho V ?_;rw[m];refine skip_ok wk hc h1 h2 l tl (i+1) _ w ?_ (by omega) O ?_ (λj ZZ ZW=>?_) λs y D e3=>hJ s ?_ ?_ λt C=>?_
   .have:=qM (List.drop 1) hd;rw[jW]at this;simpa[Nat.add_comm]using this
   .simp only[Act.put];rw[zu (Ne.symm Y)];exact x
   .unfold yielded;by_cases Z:j=i
    .subst Z;simp only[jH,ho,qBs,m,Act.put];rw[Array.getElem?_setIfInBounds];split
     .rename_i h;split at h
      .split at h
       .obtain h:=qSj h;simp[undef]at h
       .cases h
      .rename_i hx;exact absurd rfl hx
     .rfl
    .have f:=q j ZZ (by omega);unfold yielded at f;simp only[jH]at f ⊢;cases U:(all[j]?).bind (·.dst)with
     | none=>rfl
     | some dj=>
      rw[U]at f;simp only[qBs]at f ⊢;simp only[Act.put,Array.getElem?_setIfInBounds];by_cases u:d'=dj
      .rw[qY u];split
       .rename_i h;split at h
        .obtain h:=qSj h;simp[undef]at h
        .cases h
       .rfl
      .rw[qG u];exact f
   .rw[y];simp[Act.put]
   .rw[D];simp[Act.put]
   .simp only[d7_,m,ay_]at C;split at C
    .cases C
    .rename_i hb;rw[e3 t C];simp only[Act.put];rw[zu (Ne.symm (bk_ hb))]
  .cases p
theorem new_L(b:Ba E)(s:St E)(nx:Nat):(St.new nx).L (s.base b)=s.L b:=rfl
theorem new_H(b:Ba E)(s:St E)(nx:Nat):(St.new nx).H (s.base b)=s.H b:=rfl
theorem memN_true{t:Nat}:∀{l:tL Nat},ay_ t l=true↔t∈l
 | []=>by simp[ay_]
 | u::l=>by
  simp only[ay_];split
  .rename_i f;obtain rfl:=qNb f;simp
  .rename_i f;have:=bk_ f;rw[memN_true];simp[this]
theorem wa_{ds:tL Nat}{t:Nat}:∀{l:tL (Nat×tO (SV E))},keysIn ds l=true->ay_ t ds=false->aF_ t l=none
 | [],_,_=>rfl
 | p::l,h,f=>by
  simp only[keysIn,qAn]at h;simp only[aF_];split
  .rename_i j;obtain rfl:=qNb j;rw[h.1]at f;cases f
  .exact wa_ h.2 f
theorem q7_{f:Nat->tO (Obj E)}{n i:Nat}(hi:i<n):∀{l:Chs E},qh_ n l=true->upH f l i=f i
 | [],_=>rfl
 | p::l,h=>by
  simp only[qh_,qAn]at h;have:=qq h.1;simp only[upH];split
  .rename_i j;have:=qNb j;omega
  .exact q7_ hi h.2
theorem skip_dst{idx d:Nat}{w:tV}:∀{l:tL tI} {i:Nat},skipB idx d w l i=true->ay_ d (d7_ l)=false
 | [],_,_=>rfl
 | o::l,i,h=>by
  simp only[skipB,qAn]at h;obtain⟨h1,m⟩:=h;split at h1
  .rename_i j w' q p f;simp only[qAn,qF]at h1;simp only[d7_,f,ay_];rw[h1.2];exact skip_dst m
  .cases h1
theorem clear_in{t:Nat}:∀{ds:tL Nat} {l:tL (Nat×tO (SV E))},ay_ t ds=true->aF_ t (clear ds++l)=some none
 | [],_,h=>by simp[ay_]at h
 | d::ds,l,h=>by
  unfold clear;simp only[zY,qc,aF_];by_cases f:Nat.beq t d=true
  .rw[f]
  .rw[zm]at f;rw[f];refine clear_in (ds:=ds) ?_;simpa only[ay_,f]using h
theorem clear_out{t:Nat}:∀{ds:tL Nat} {l:tL (Nat×tO (SV E))},ay_ t ds=false->aF_ t (clear ds++l)=aF_ t l
 | [],_,_=>rfl
 | d::ds,l,h=>by
  unfold clear;simp only[zY,qc,aF_];by_cases f:Nat.beq t d=true
  .simp[ay_,f]at h
  .rw[zm]at f;rw[f];refine clear_out (ds:=ds) ?_;simpa only[ay_,f]using h
def kp_(ds:tL Nat)(L:Nat->tO (SV E))(t:Nat):tO (SV E):=if ay_ t ds then none else L t
theorem qq_{all:tL tI}{gd:Gd}{o:tI}{L L':Nat->tO (SV E)}(h:gdOK all gd L)(m:dstOK o gd=true)(hL:∀t,(∀d,o.dst=some d->t≠d)->L' t=L t):gdOK all gd L':=by
 unfold gdOK at *
 split
 .trivial
 .rename_i j w d;obtain⟨h1,c,q,p⟩:=h;refine⟨h1,c,?_,p⟩;rw[hL d λs f=>?_]
  .exact q
  .unfold dstOK at m;simp only[f,qF]at m;exact bk_ m
theorem drop_next{all l tl:tL tI}{o:tI}{i:Nat}(h:all.drop i=(o::l)++tl):all[i]? = some o/\all.drop (i+1)=l++tl:=by
 constructor
 .have:(all.drop i)[0]? = some o:=by rw[h];rfl
  rw[qo]at this;simpa using this
 .have:=qM (List.drop 1) h;rw[jW]at this;simpa[Nat.add_comm]using this
theorem drop_more{all l m tl:tL tI}{i:Nat}(h:all.drop i=(l++m)++tl):all.drop (i+l.length)=m++tl:=by
 have:=qM (List.drop l.length) h;rw[jW,qy,List.drop_left]at this;exact this
theorem pick_run{o:tI}{d:Nat}{x y:tN}{ρ:tN->tW}{c e:tV}(h:o.op = .pick (.tmp d) x y)(j:ρ (.tmp d) = .bool c)(f:(bif c then ρ x else ρ y) = .bool e)(w:tS):(execOp ρ o).run P w = .ok (.value (.bool e)) w:=by
 unfold execOp;rw[h];simp only[j];cases c with
 | true=>simp only[zB]at f;simp[asBool,f]
 | false=>simp only[zR]at f;simp[asBool,f]
theorem fn_ {ev:Ev E} {all:tL tI} (wk:Walk P E ev N Bs F0 w0 all):∀(n:Nat) {R:Type} {gd:Gd} {l:tL tI} {idx:Nat} {b:Ba E} {s:St E} {k:St E->tO R} {r:R} {a:Act} {w:tS} {J:Act->tS->Prop} {tl:tL tI},
  cC_ P E ev N n R gd l idx b s k=some r->all.drop idx=l++tl->Rel P E Bs F0 w0 N (s.L b) (s.H b) s.nx a w->gdOK all gd (s.L b) ->
  (∀s' a' w',k s'=some r->Rel P E Bs F0 w0 N (s'.L b) (s'.H b) s'.nx a' w'->gdOK all gd (s'.L b)->J a' w')->wk.W J l idx a w:=by
 intro n
 induction n with
 | zero=>intro R gd l idx b s k r a w J tl h;cases h
 | succ n ih=>
  intro R gd l idx b s k r a w J tl h hd hR hg hK;cases l with
  | nil=>exact wk.nil (hK s a w h hR hg)
  | cons o rest=>
   unfold cC_ at h;split at h
   .cases h
   .rename_i ZQ;simp only[qAn]at ZQ;obtain⟨z,g,hE,hH,hf,ZM,ZD⟩:=hR;obtain⟨ZO,ZW⟩:=drop_next hd;refine wk.step ZO (sc_ ZQ.1 hg hE) hE hH hf ZM ZD h λv u x w' z2 g2 D ZA U YQ YR YX hv=>?_
    split at D
    .cases D
    .rename_i f Zy;obtain⟨ZV,YT⟩:=bU_ Zy YQ YR (ZM.trans ZA) (ZD.trans U) YX hv;have ZP:=qq_ hg ZQ.2 YT;split at D
     .exact ih D ZW ZV ZP hK
     .rename_i d wt body pk rest' ZE;obtain⟨ZF,rfl,x0,y0,ZI⟩:=groupOf_eq ZE;split at D
      .rename_i c d1 x y pd hc ZJ ZH;rw[ZI]at ZJ;injection ZJ with e1 e2 e3;subst e1;subst e2;subst e3;split at D
       .cases D
       .rename_i ZU;simp only[qAn]at ZU;obtain⟨⟨⟨⟨⟨Zn,Zo⟩,ZS⟩,Zp⟩,ZG⟩,Zr⟩:=ZU;have ZC:ay_ d (d7_ body)=false:=skip_dst ZG
        -- the group's value
        have ZK:∃res,cC_ P E ev N n R gd rest' (idx+1+body.length+1) b { f with env:=(pd,some (pb_ res))::(clear (d7_ body)++f.env),nx:=f.nx+kP_ body } k=some r /\
          (c=wt->cC_ P E ev N n tV (some (idx,wt,d)) body (idx+1) (f.base b) (St.new f.nx) (kn_ (f.base b) f.nx (kP_ body) (d7_ body) (picked wt x0 y0))=some res)/\(c≠wt->res = !wt):=by
         obtain⟨tot,ZL⟩:∃tot,totalL P body=tot:=⟨_,rfl⟩;rw[ZL]at D;cases tot with
         | true=>
          simp only at D;obtain⟨oe,he⟩:∃oe,cC_ P E ev N n tV (some (idx,wt,d)) body (idx+1) (f.base b) (St.new f.nx) (kn_ (f.base b) f.nx (kP_ body) (d7_ body) (picked wt x0 y0))=oe:=⟨_,rfl⟩;rw[he]at D ⊢;cases oe with
          | none=>cases D
          | some e=>
           refine⟨_,D,λm=>?_,λm=>?_⟩
           .cases wt<;>subst m<;>rfl
           .cases wt<;>cases c<;>simp_all [picked]
         | false=>
          simp only at D;obtain⟨e,he,D⟩:=bind_some D;refine⟨e,D,λm=>?_,λm=>?_⟩
          .cases wt<;>subst m<;>exact he
          .cases wt<;>cases c<;>simp_all [picked]
        obtain⟨res,YY,ZB,ZX⟩:=ZK;have Zl:∀j p,f.H b j=some p->j<f.nx:=λj p hj=>by
         obtain⟨z3,g3,_,h2,h3,_⟩:=ZV;obtain⟨l,hl⟩:=(h2.hold j p hj).loc;rcases qb j f.nx with h5|h5
         .exact h5
         .rw[h3 j h5]at hl;cases hl
        refine wk.app (J1:=λa2 w2=>Rel P E Bs F0 w0 N (kp_ (d7_ body) (f.L b)) (f.H b) (f.nx+kP_ body) a2 w2/\a2.eval (.tmp d) = .bool c/\(bif c then a2.eval x0 else a2.eval y0) = .bool res) ?_ ?_
        .by_cases m:c=wt
         .refine ih (tl:=pk::rest'++tl) (ZB m) (by rw[ZW];simp) (by rw[new_L,new_H];exact ZV) ⟨⟨o,ZO,ZF⟩,c,hc,m⟩ λs2 a2 w2 ZY ZN U=>?_
          unfold kn_ at ZY;split at ZY
          .rename_i e Y hvis ZR Zm;obtain rfl:=qSj ZY;simp only[qAn]at Y;obtain⟨⟨YZ,Za⟩,Ze⟩:=Y;have Z:∀t,ay_ t (d7_ body)=false->s2.L (f.base b) t=f.L b t:=λt Zz=>by
            unfold St.L;rw[wa_ YZ Zz,hvis];rfl
           have YS:∀j,j<f.nx->s2.H (f.base b) j=f.H b j:=λj hj=>by
            unfold St.H;rw[q7_ hj Za,ZR];rfl
           obtain⟨z3,g3,C,G,V,O⟩:=ZN;refine⟨⟨z3,g3,C.less λt u M=>?_,G.less λj p hj=>?_,(λi hi=>V i (by have:=qq Ze;omega)),O⟩,?_,?_⟩
           .unfold kp_ at M;split at M
            .cases M
            .rename_i hm;rw[Z t (by simpa using hm)];exact M
           .rw[YS j (Zl j p hj)];exact hj
           .have:=C.op G.gl (.tmp d) (.v (.one (.dt .bool c))) (by show s2.L (f.base b) d=_;rw[Z d ZC];exact hc);exact SV.bool_ok rfl this
           .have:=SV.bool_ok rfl (C.op G.gl _ _ Zm);subst m;cases c<;>exact this
          .cases ZY
         .obtain⟨z3,g3,C,G,V,O⟩:=ZV;have YV:∃v,(a.put o.dst x).tmps[d]? = some v/\RV P E z3 g3 (.v (.one (.dt .bool c))) v:=C.get d _ hc;obtain⟨v,ZZ,ZT⟩:=YV;obtain rfl:=SV.bool_ok rfl ZT;refine skip_ok wk m ZO ZF body (pk::rest'++tl) (idx+1) _ w' (by rw[ZW];simp) (Nat.lt_succ_self idx) ZG ZZ (λj h5 h6=>by omega) λa' h5 h6 h7=>?_
          refine⟨⟨z3,g3,⟨by rw[h5];exact C.size,by rw[h6];exact C.defers,λt u M=>?_⟩,G,(λi hi=>V i (by omega)),O⟩,?_,?_⟩
          .unfold kp_ at M;split at M
           .cases M
           .rename_i hm;rw[h7 t (by simpa using hm)];exact C.get t u M
          .have h8:=h7 d ZC;rw[ZZ]at h8;simp[Act.eval,h8]
          .have YU:∀{q:tN},isBoolC (!wt) q=true->a'.eval q = .bool (!wt):=fun{q} hq=>by
            unfold isBoolC at hq;split at hq
            .rename_i b';show Value.bool b'=_;cases wt<;>cases b'<;>simp_all
            .cases hq
           rw[ZX m];have:=YU Zr;cases wt<;>cases c<;>simp_all [picked]
        .rintro a2 w2 ⟨ZN,ZZ,ZT⟩;have YW:all.drop (idx+1+body.length)=(pk::rest')++tl:=drop_more ZW;obtain⟨Zt,Zu⟩:=drop_next YW;have U:gdOK all gd (kp_ (d7_ body) (f.L b)):=by
          unfold gdOK at ZP ⊢;split
          .trivial
          .rename_i j w1 d1;obtain⟨h1,c1,h2,h3⟩:=ZP;refine⟨h1,c1,?_,h3⟩;unfold notIn at ZS;simp only[qF]at ZS;unfold kp_;rw[ZS];exact h2
         obtain⟨z3,g3,C,G,V,O⟩:=ZN;refine wk.pick Zt (sc_ Zn U C) (λw=>pick_run ZI ZZ ZT w) ?_;have Z:∀t,St.L b { f with env:=(pd,some (pb_ res))::(clear (d7_ body)++f.env),nx:=f.nx+kP_ body } t=if t=pd then some (pb_ res)else kp_ (d7_ body) (f.L b) t:=λt=>by
          unfold St.L kp_;simp only[aF_];by_cases F:t=pd
          .subst F;have:Nat.beq t t=true:=by simp
           rw[this,qY rfl]
          .rw[qG F];have:Nat.beq t pd=false:=by
            cases hb:Nat.beq t pd with
            | false=>rfl
            | true=>exact absurd (qNb hb) F
           rw[this];by_cases hm:ay_ t (d7_ body)=true
           .rw[clear_in hm,qY hm]
           .rw[clear_out (by simpa using hm),qG hm]
         refine ih YY Zu ⟨z3,g3,?_,G,V,O⟩ ?_ hK
         .rw[ZH];refine C.put Zp (s:=pb_ res) (RD.bool .nil) λt u M=>?_
          rw[Z t]at M;split at M
          .rename_i F;exact .inl ⟨F,(qSj M).symm⟩
          .rename_i F;exact .inr ⟨F,M⟩
         .refine qq_ U Zo λt ht=>?_
          rw[Z t,qG (ht pd ZH)]
      .cases D
def seqWalk(s:∀p∈eqs,aG_ P E p.1 p.2)(F:tab.OK P E)(all:tL tI):Walk P E (λL H nx o _ k=>evOp P E eqs tab L H nx o k) N Bs F0 w0 all where
 W J l _ a w:=∀(rest:tL tI) (Q:Exit->Act->tS->Prop),(∀m w',J m w'->wpList P all.toArray Q rest m w')->wpList P all.toArray Q (l++rest) a w
 nil y:=λrest Q h=>h _ _ y
 app h1 C:=λrest Q h=>by
  rw[qy];exact h1 _ Q λm w' y=>C m w' y rest Q h
 skip D j h1:=λrest Q h=>by
  simp only[qc];unfold wpList;rw[qG (by rw[j];exact zn)];exact h1 rest Q h
 step D j U O M hz hg q G:=λrest Q h=>by
  simp only[qc];refine wpList_step λK f=>?_
  rw[qY j];exact evOp_ok s F M U O q λv u x w' z2 g2 h1 C h3 h4 Z Y V=>f _ _ (G v u x w' z2 g2 h1 C h3 h4 Z Y V rest Q h)
 pick D j hr h1:=λrest Q h=>by
  simp only[qc];refine wpList_step λK f=>?_
  rw[qY j];unfold Oper.wp;rw[hr _];exact f _ _ (h1 rest Q h)
theorem evReg_ok(m:∀p∈eqs,aG_ P E p.1 p.2)(q:tab.OK P E){R:Type}{l:tL tI}{id:Nat}{b:Ba E}{s:St E}{k:St E->tO R}{r:R}{a:Act}{w:tS}{Q:Exit->Act->tS->Prop}(h:evReg P E eqs tab N l b s k=some r)(u:Rel P E Bs F0 w0 N (s.L b) (s.H b) s.nx a w)
  (x:∀j f w',k j=some r->Rel P E Bs F0 w0 N (j.L b) (j.H b) j.nx f w'->Q .normal f w'):(Code.region id l.toArray false).wp P Q a w:=
 r_list (by
  have:=fn_ (seqWalk m q l) _ (tl:=[]) (J:=λf w'=>Q .normal f w') h (by simp) u trivial λj f w' h1 y _=>x j f w' h1 y
  have:=this [] Q λf w' h=>h
  simpa using this)
theorem kT_:∀(f l2:tL tI) (i:Nat),d8_ i (f++l2)=d8_ i f++d8_ (i+f.length) l2
 | [],_,_=>rfl
 | o::f,l2,i=>by
  simp only[qc,d8_,qLc];rw[kT_ f l2 (i+1),show i+1+f.length=i+(f.length+1)by omega]
def quietWalk(M:∀p∈eqs,aG_ P E p.1 p.2)(Z:tab.OK P E)(all:tL tI)(tl fr:tL Nat)(m:Nat)(hm:∀i,i<m->fr.contains i=false)(W:tS)(I:tS->Prop)(hI:∀z g H,HR P E Bs F0.z.F w0 W z g H->F0.z.Le z->∀w',I w'->Keeps P E z g H W w')(Q:Exit->Act->tS->Prop):Walk P E (λL H nx o _ k=>it_ P E eqs tab L H nx o k) N Bs F0 w0 all where
 W J l i a w:=w=W->i+l.length<=m->∀rest:tL (Nat×tV),(∀C,J C W->bc_ P all.toArray tl fr I Q rest C W)->bc_ P all.toArray tl fr I Q (d8_ i l++rest) a W
 nil O:=λe _ rest h=>h _ (e▸O)
 app h1 y:=λe f rest h=>by
  rw[kT_,qy];rw[qLa]at f;exact h1 e (by omega) _ λC O=>y C W O rfl (by omega) rest h
 skip {J o l i a w} q j h1:=λe f rest h=>by
  simp only[qLc]at f;simp only[d8_,qc];refine eU_ o q λK x=>?_
  rw[qG (by rw[j];exact zn)];exact x _ (h1 e (by omega) rest h)
 step {J o l i a w R L H nx z g k r} q j V U hf Y hg G hk:=λe f rest h=>by
  simp only[qLc]at f;subst e;simp only[d8_,qc];refine eU_ o q λK x=>?_
  rw[qY j,hm i (by omega)];obtain⟨s,u,v,g2,h1,y,h3,h4,h5,h6⟩:=mM_ M Z hf V U (hI z g H U Y) G;refine⟨v,h6,x _ ?_⟩;exact hk (some s) u v w z g2 h1 (Fz.Le.refl z) y (V.le (Fz.Le.refl z) y) h3 h4.nxU (λsv D=>by obtain rfl:=qSj D;exact h5) rfl (by omega) rest h
 pick {J o l i a w v} q j hr h1:=λe f rest h=>by
  simp only[qLc]at f;simp only[d8_,qc];refine eU_ o q λK x=>?_
  rw[qY j];exact⟨v,λw' _=>by rw[hr];exact⟨rfl,rfl⟩,x _ (h1 e (by omega) rest h)⟩
theorem Rel.ext{L:Nat->tO (SV E)}{H:Nat->tO (Obj E)}{nx:Nat}{a:Act}{w w':tS}(h:Rel P E Bs F0 w0 N L H nx a w)(hx:Ext w w'):Rel P E Bs F0 w0 N L H nx a w':=
 let ⟨z,g,h1,j,f⟩:=h
 ⟨z,g,h1,j.ext hx,f⟩
theorem Rel.inz{L:Nat->tO (SV E)}{H:Nat->tO (Obj E)}{nx:Nat}{a:Act}{w:tS}(h:Rel P E Bs F0 w0 N L H nx a w):F0.z.In w:=by
 obtain⟨z,g,_,m,_,j,_⟩:=h;exact λk f=>⟨(m.fz k (j k f).1).1,(m.fz k (j k f).1).2.trans (j k f).2⟩
theorem uT_:∀{fl:tL Nat} {n k:Nat},fl[k]? = some 2->n+k∈tlOf n fl
 | [],n,k,h=>by simp at h
 | f::fl,n,0,h=>by
  simp only[jG,qOi]at h;subst h;simp[tlOf]
 | f::fl,n,k+1,h=>by
  have:=uT_ (n:=n+1) (show fl[k]? = some 2 by simpa using h);rw[show n+1+k=n+(k+1)by omega]at this;simp only[tlOf];split
  .exact qL _ this
  .exact this
theorem c4_{o:tI}(h:o.guard=none)(y:Nat->tO tV):Region.wanted o y=true:=by
 unfold Region.wanted;rw[h]
theorem mem_frOf:∀{fl:tL Nat} {n i:Nat},i∈frOf n fl->n<=i/\fl[i-n]? = some 4
 | [],n,i,h=>by cases h
 | f::fl,n,i,h=>by
  have next:i∈frOf (n+1) fl->n<=i/\(f::fl)[i-n]? = some 4:=λh=>by
   obtain⟨h1,m⟩:=mem_frOf h;refine⟨by omega,?_⟩;rw[show i-n=(i-(n+1))+1 by omega];simpa using m
  simp only[frOf]at h;split at h
  .rename_i j;rcases qV.1 h with rfl|h
   .obtain rfl:=qNb j;simp
   .exact next h
  .exact next h
theorem wb_:∀{fl:tL Nat} {i:Nat},i<as_ fl->fl[i]? = some 0
 | [],i,h=>by simp[as_]at h
 | f::fl,i,h=>by
  simp only[as_]at h;split at h
  .rename_i j;obtain rfl:=qNb j;cases i with
   | zero=>rfl
   | succ i=>simpa using wb_ (fl:=fl) (i:=i) (by omega)
  .omega
theorem notFree{fl:tL Nat}{i:Nat}(h:i<as_ fl):(frOf 0 fl).contains i=false:=by
 cases f:(frOf 0 fl).contains i with
 | false=>rfl
 | true=>
  obtain⟨_,h1⟩:=mem_frOf (jJ.1 f);rw[Nat.sub_zero,wb_ h]at h1;cases h1
theorem evH_ok(m:∀p∈eqs,aG_ P E p.1 p.2)(Y:tab.OK P E){W:tS}{I:tS->Prop}(hI:∀z g H,HR P E Bs F0.z.F w0 W z g H->F0.z.Le z->∀w',I w'->Keeps P E z g H W w'){R:Type}{r:R}{all:tL tI}{tl fr:tL Nat}{Q:Exit->Act->tS->Prop}{b:Ba E}{k:St E->tO R}{rest:tL (Nat×tV)}
  (hK:∀O a',k O=some r->Rel P E Bs F0 w0 N (O.L b) (O.H b) O.nx a' W->bc_ P all.toArray tl fr I Q rest a' W):∀{Z:tL Nat} {s:St E} {a:Act},
  evH P E eqs tab N b all fr Z s k=some r->Rel P E Bs F0 w0 N (s.L b) (s.H b) s.nx a W->bc_ P all.toArray tl fr I Q (hOrd Z++rest) a W
 | [],s,a,h,hR=>hK s a h hR
 | i :: Z,s,a,h,hR=>by
  unfold evH at h;split at h
  .cases h
  .rename_i o ho;split at h
   .cases h
   .rename_i ZZ;obtain⟨z,g,U,M,G,q,D⟩:=hR;simp only[hOrd,qc];refine eU_ o ho λK J=>?_
    rw[qY (c4_ ZZ _)];split at h
    .rename_i hc;rw[hc];obtain⟨sv,v,up,g2,f,ZX,ZY,hv,C,V⟩:=iN_ (nx:=s.nx) m (U.op M.gl) (M.less (H':=λ_=>none) λ_ _ e=>by cases e) h (λ_=>True);simp only at f;split at f
     .cases f
     .obtain rfl:g2=g:=V;split at f
      .rename_i s1 x;obtain⟨y,_⟩:=bU_ (u:=[]) x U M q D (λj hj=>G j (by simp only[nxU]at hj;omega)) (λsv' e=>by obtain rfl:=qSj e;exact hv);exact⟨v,λw' _=>by rw[C w' trivial];exact⟨rfl,rfl⟩,J _ (evH_ok m Y hI hK f y)⟩
      .cases f
    .rename_i hc;rw[hc];obtain⟨sv,u,v,g2,f,h2,h3,h4,h5,h6⟩:=mM_ m Y G U M (hI z g _ M q) h;simp only at f;split at f
     .rename_i s1 x;obtain⟨y,_⟩:=bU_ x (U.le (Fz.Le.refl z) h2) h3 q (D.trans h2) h4.nxU (λsv' e=>by obtain rfl:=qSj e;exact h5);exact⟨v,h6,J _ (evH_ok m Y hI hK f y)⟩
     .cases f
theorem pd_(y:∀p∈eqs,aG_ P E p.1 p.2)(ht:tab.OK P E){fm:tV}{I:tS->Prop}(D:∀w w',I w->Ext w w'->I w')(U:fm=true->∀{L:Nat->tO (SV E)} {H:Nat->tO (Obj E)} {nx:Nat} {a:Act} {w:tS},Rel P E Bs F0 w0 N L H nx a w->I w){R:Type}{r:R}{all:tL tI}{tl fr:tL Nat}{Q:Exit->Act->tS->Prop}{b:Ba E}{k:St E->tO R}
  (hK:∀s' a' w',k s'=some r->Rel P E Bs F0 w0 N (s'.L b) (s'.H b) s'.nx a' w'->Q .normal a' w'):∀{l:tL (Nat×tI×Nat)} {s:St E} {a:Act} {w:tS},
  evB P E eqs tab N fm b l s k=some r->(∀t∈l,all[t.1]? = some t.2.1/\(t.2.2=2->t.1∈tl))->Rel P E Bs F0 w0 N (s.L b) (s.H b) s.nx a w->bc_ P all.toArray tl fr I Q (c2_ l) a w
 | [],s,a,w,h,_,hR=>wpMixI_nil λX d=>hK s a _ h (hR.ext ⟨X,d,rfl⟩)
 | (i, o,f)::l,s,a,w,h,F,hR=>by
  obtain⟨ho,Z⟩:=F _ (qR ..);have m:∀t∈l,all[t.1]? = some t.2.1/\(t.2.2=2->t.1∈tl):=λt ht=>F t (qL _ ht)
  simp only at ho Z;unfold evB at h;split at h
  .cases h
  .rename_i ZY;simp only[c2_];split at h
   .rename_i V;rw[V];obtain⟨z,g,hE,hH,O,G,M⟩:=hR;obtain⟨sv,v,up,g2,q,ZN,ZO,hv,ZZ,ZV⟩:=iN_ (nx:=s.nx) y (hE.op hH.gl) (hH.less (H':=λ_=>none) λ_ _ e=>by cases e) h (λ_=>True);simp only at q;split at q
    .cases q
    .obtain rfl:g2=g:=ZV;split at q
     .rename_i s1 J;obtain⟨C,_⟩:=bU_ (u:=[]) J hE hH G M (λj hj=>O j (by simp only[nxU]at hj;omega)) (λsv' e=>by obtain rfl:=qSj e;exact hv);refine eU_ o ho λK Y=>?_
      rw[qY (c4_ ZY _)];exact⟨v,λw' _=>by rw[ZZ w' trivial];exact⟨rfl,rfl⟩,Y _ (pd_ y ht D U hK q m C)⟩
     .cases q
   .rename_i V;rw[V];split at h
    .cases h
    .rename_i ZX;refine t1_ o ho λK Y X d=>?_
     have hx:Ext w (w.ext X d):=⟨X,d,rfl⟩;obtain⟨z,g,hE,hH,O,G,M⟩:=hR.ext hx;refine wpList_step λK2 ZR=>?_
     rw[qY (c4_ ZY _)];refine mK_ y ht O hE hH h λv u x w' z2 g2 q ZW ZT ZP ZQ ZS hv ZU=>ZR _ _ ?_
     split at q
     .rename_i s1 J;obtain⟨C,_⟩:=bU_ J ZP ZQ (G.trans ZW) (M.trans ZT) ZS hv;show K _ _;refine Y _ _ (λhc hw=>?_) (pd_ y ht D U hK q m C);simp only[qz]at ZX;rcases ZX with h1|h1|h1
      .obtain rfl:=qNb h1;rw[jJ.2 (Z rfl)]at hc;cases hc
      .exact U h1 C
      .exact D _ _ (D _ _ hw hx) (ZU h1)
     .cases q
theorem uU_{j:tL Nat}:∀{l:tL tI} {fl:tL Nat} {i:Nat} {t:Nat×tI×Nat},t∈dV_ j i l fl->∃k,t.1=i+k/\l[k]? = some t.2.1/\fl[k]? = some t.2.2
 | [],fl,i,t,h=>by cases fl<;>simp[dV_]at h
 | o::l,[],i,t,h=>by simp[dV_]at h
 | o::l,f::fl,i,t,h=>by
  have next:t∈dV_ j (i+1) l fl->∃k,t.1=i+k/\(o::l)[k]? = some t.2.1/\(f::fl)[k]? = some t.2.2:=λh=>by
   obtain⟨k,h1,p,m⟩:=uU_ h;exact⟨k+1,by omega,by simpa using p,by simpa using m⟩
  simp only[dV_]at h;split at h
  .exact next h
  .rcases qV.1 h with rfl|h
   .exact⟨0,rfl,rfl,rfl⟩
   .exact next h
theorem gU_{S:tL Nat}{H:Nat->tO (Obj E)}{i:Nat}{o:Obj E}(h:fs_ S H i=some o):i∉S/\H i=some o:=by
 unfold fs_ at h;split at h
 .cases h
 .rename_i hm;exact⟨λf=>(by rw[memN_true.2 f]at hm;cases hm),h⟩
theorem gV_{S:tL Nat}{H:Nat->tO (Obj E)}{i:Nat}{o:Obj E}(h:iu_ S H i=some o):i∈S/\H i=some o:=by
 unfold iu_ at h;split at h
 .rename_i hm;exact⟨memN_true.1 hm,h⟩
 .cases h
theorem HR.ga{z:Fz}{g g':Ga}{w:tS}{H:Nat->tO (Obj E)}{F:Nat->Prop}(h:HR P E Bs F w0 w z g H)(j:g.Le g'):HR P E Bs F w0 w z g' H:=
 ⟨h.chg,λid o e=>(h.hold id o e).keep (Fz.Le.refl z) j λ_ _=>rfl,λid o k e f=>h.own id o k e ((hu_ (h.hold id o e).loc j).1 f),λid id' o o' k p e e' f m=>h.apart id id' o o' k p e e' ((hu_ (h.hold id o e).loc j).1 f) ((hu_ (h.hold id' o' e').loc j).1 m),h.fz,h.fz0,λid o k e f=>h.fza id o k e ((hu_ (h.hold id o e).loc j).1 f),h.gl⟩
theorem HR.part{z:Fz}{g:Ga}{w:tS}{H H':Nat->tO (Obj E)}{F:Nat->Prop}(h:HR P E Bs F w0 w z g H)(f:∀i o,H' i=some o->H i=some o){B:tL Nat}(s:∀i o k,H' i=some o->fpO g i o k->k∈B):HR P E B z.F w w z g H':=
 ⟨Chg.of_below (Below.refl _ _),λi o e=>h.hold i o (f i o e),λi o k e m=>.inr (s i o k e m),λi j o p k q e e'=>h.apart i j o p k q (f i o e) (f j p e'),h.fz,λ_ m=>.inl m,λi o k e=>h.fza i o k (f i o e),h.gl⟩
theorem hx_{α:Type}{t:Nat}:∀{l m:tL (Nat×α)},aF_ t (l++m)=match aF_ t l with|some v=>some v|none=>aF_ t m
 | [],m=>rfl
 | (u,x)::l,m=>by
  simp only[qc,aF_];cases Nat.beq t u with
  | true=>rfl
  | false=>exact hx_
theorem kq_{H:Nat->tO (Obj E)}{i:Nat}:∀{l:Chs E},upH H l i=match aF_ i l with|some o=>o|none=>H i
 | []=>rfl
 | (k,o)::l=>by
  simp only[upH,aF_];cases Nat.beq i k with
  | true=>rfl
  | false=>exact kq_
theorem evDraw_ok (G:∀p∈eqs,aG_ P E p.1 p.2) (ht:tab.OK P E) {R:Type} {l:tL tI} {fl hs S:tL Nat} {fm:tV} {id:Nat} {b:Ba E} {s:St E} {k:St E->tO R} {r:R} {a:Act} {w:tS} {Q:Exit->Act->tS->Prop} (h:evDraw P E eqs tab N l fl hs fm S b s k=some r) (hR:Rel P E Bs F0 w0 N (s.L b) (s.H b) s.nx a w)
  (hK:∀s' a' w',k s'=some r->Rel P E Bs F0 w0 N (s'.L b) (s'.H b) s'.nx a' w'->Q .normal a' w'):(Code.region id l.toArray true).wp P Q a w:=by
 unfold evDraw at h;split at h
 .cases h
 .rename_i ZX;simp only[qAn]at ZX;obtain⟨hm,hB⟩:=ZX;have D:∀t∈dV_ hs (as_ fl) (l.drop (as_ fl)) (fl.drop (as_ fl)),l[t.1]? = some t.2.1/\(t.2.2=2->t.1∈tlOf 0 fl):=λt D=>by
   obtain⟨k,m,y,x⟩:=uU_ D;rw[qo]at y x;rw[←m]at y x;refine⟨y,λhf=>?_⟩;rw[hf]at x;have:=uT_ (n:=0) x
   rwa [qj]at this
  split at h
  .have U:∀w1 w',Ext w w1->Ext w1 w'->Ext w w':=λ_ _ h1 M=>h1.trans M
   have hI:∀z g H,HR P E Bs F0.z.F w0 w z g H->F0.z.Le z->∀w',Ext w w'->Keeps P E z g H w w':=λz g H h1 _ w' M=>Keeps.of_ext h1 M
   refine o8_ (I:=Ext w) U _ _ _ hm hB (Ext.refl w) ?_;have:=fn_ (quietWalk G ht l (tlOf 0 fl) (frOf 0 fl) (as_ fl) (λ_ h=>notFree h) w (Ext w) hI Q) _ (tl:=l.drop (as_ fl)) (J:=λa' w'=>w'=w->bc_ P l.toArray (tlOf 0 fl) (frOf 0 fl) (Ext w) Q (hOrd hs++c2_ (dV_ hs (as_ fl) (l.drop (as_ fl)) (fl.drop (as_ fl)))) a' w) h (by simp) hR trivial λs' a' w' h1 M _ hw=>by
    subst hw;exact evH_ok G ht hI (λs2 a2 q C=>pd_ G ht U (λe=>by cases e) hK q D C) h1 M
   exact this rfl (by rw[qj];exact jB _ _) _ λa' h1=>h1 rfl
  .obtain ⟨z,g,hE,hH,ZK,ZG,ZA⟩:=hR
   -- the footprints of what is read, and of what is turned
   let B1:tL Nat:=((List.range s.nx).map (blk (fs_ S (s.H b)) g)).flatten
   let B2:tL Nat:=(S.map (blk (iu_ S (s.H b)) g)).flatten
   have ZD:∀i o,s.H b i=some o->i<s.nx:=λi o e=>by
    obtain⟨l',hl⟩:=(hH.hold i o e).loc;rcases qb i s.nx with m|m
    .exact m
    .rw[ZK i m]at hl;cases hl
   have Zn:∀i o k,fs_ S (s.H b) i=some o->fpO g i o k->k∈B1:=λi o k e f=>zg.2 ⟨_,zZ.2 ⟨i,List.mem_range.2 (ZD i o (gU_ e).2),rfl⟩,mem_blk.2 ⟨o,e,f⟩⟩
   have Zo:∀i o k,iu_ S (s.H b) i=some o->fpO g i o k->k∈B2:=λi o k e f=>zg.2 ⟨_,zZ.2 ⟨i,(gV_ e).1,rfl⟩,mem_blk.2 ⟨o,e,f⟩⟩
   have Z:∀k,k∈B1->∃i o,fs_ S (s.H b) i=some o/\fpO g i o k:=λk f=>by
    obtain⟨_,i,o,_,m,y⟩:=kk_ f;exact⟨i,o,m,y⟩
   have ZW:∀k,k∈B2->∃i o,iu_ S (s.H b) i=some o/\fpO g i o k:=λk f=>by
    obtain⟨_,i,o,_,m,y⟩:=kk_ f;exact⟨i,o,m,y⟩
   have ZI:∀k,k∈B1->k∉B2:=λk h1 M=>by
    obtain⟨i,o,q,C⟩:=Z k h1;obtain⟨j,p,m,y⟩:=ZW k M;exact hH.apart i j o p k (λe=>(gU_ q).1 (e▸(gV_ m).1)) (gU_ q).2 (gV_ m).2 C y
   have Y:∀k,k∈B1->k<w.heap.size:=λk f=>by
    obtain⟨i,o,q,C⟩:=Z k f;exact(hH.hold i o (gU_ q).2).lt C
   have hq:=hH.part (λi o e=>(gU_ e).2) Zn
   let F1:Org:=⟨z,g,F0.lo⟩
   let I:tS->Prop:=λw'=>z.In w'/\∀k,k∈B1->w'.heap[k]? = w.heap[k]?
   have U:∀w1 w',I w1->Ext w1 w'->I w':=λw1 w' h1 M=>⟨h1.1.ext M,λk f=>by
    have q:=h1.2 k f;have C:k<w1.heap.size:=by
     rcases qb k w1.heap.size with m|m
     .exact m
     .rw[qi m,Array.getElem?_eq_getElem (Y k f)]at q;cases q
    exact(M.below.block k C).trans q⟩
   have hI:∀z2 g2 H2,HR P E B1 F1.z.F w w z2 g2 H2->F1.z.Le z2->∀w',I w'->Keeps P E z2 g2 H2 w w':=λz2 g2 H2 h1 ZC w' ZZ=>by
    have ZS:∀i o k,H2 i=some o->fpO g2 i o k->k∈B1:=λi o k e f=>by
     rcases h1.own i o k e f with q|q
     .have:=(h1.hold i o e).lt f;omega
     .exact q
    have ZO:z2.In w':=λk f=>by
     rcases h1.fz0 k f with q|q|q
     .have C:=ZZ.1 k q;exact⟨C.1,C.2.trans (ZC k q).2.symm⟩
     .have:=(h1.fz k f).1;omega
     .have C:=ZZ.2 k q;refine⟨?_,C.trans (h1.fz k f).2⟩;rcases qb k w'.heap.size with m|m
      .exact m
      .rw[qi m,Array.getElem?_eq_getElem (Y k q)]at C;cases C
    refine⟨⟨ZO,λi o k e f=>ZZ.2 k (ZS i o k e f)⟩,B1,z2.F,w',⟨Chg.of_below (Below.refl _ _),λi o e=>(h1.hold i o e).keep (Fz.Le.refl z2) (Ga.Le.refl g2) λk f=>ZZ.2 k (ZS i o k e f),λi o k e f=>.inr (ZS i o k e f),h1.apart,ZO,λk f=>.inl f,h1.fza,h1.gl⟩⟩
   refine o8_ (I:=I) U _ _ _ hm hB ⟨hH.fz,λ_ _=>rfl⟩ ?_;have Zy:Rel P E B1 F1 w N ((St.new s.nx:St E).L ⟨s.L b,fs_ S (s.H b),b.lo⟩) ((St.new s.nx:St E).H ⟨s.L b,fs_ S (s.H b),b.lo⟩) s.nx a w:=⟨z,g,hE,hq,ZK,Fz.Le.refl z,Ga.Le.refl g⟩
   have := fn_ (quietWalk (F0:=F1) (w0:=w) (Bs:=B1) G ht l (tlOf 0 fl) (frOf 0 fl) (as_ fl) (λ_ h=>notFree h) w I hI Q) _ (tl:=l.drop (as_ fl)) (J:=λa' w'=>w'=w->bc_ P l.toArray (tlOf 0 fl) (frOf 0 fl) I Q (hOrd hs++c2_ (dV_ hs (as_ fl) (l.drop (as_ fl)) (fl.drop (as_ fl)))) a' w) h (by simp) Zy trivial λs' a' w' h1 M _ hw=>by
    subst hw;refine evH_ok (F0:=F1) (w0:=w') (Bs:=B1) G ht hI (λs2 a2 q C=>?_) h1 M;split at q
    .rename_i hvis ZV ZU;obtain⟨z2,g2,Zp,ZY,ZL,ZH,ZT⟩:=C;have Zu:St.H ⟨s.L b,fs_ S (s.H b),b.lo⟩ s2=fs_ S (s.H b):=by
      unfold St.H;rw[ZU,ZV];rfl
     rw[Zu]at ZY;have ZQ:z2.Le z:=λk f=>by
      have m:z.F k:=by
       rcases ZY.fz0 k f with y|y|y
       .exact y
       .have:=(ZY.fz k f).1;omega
       .obtain⟨i,o,x,h8⟩:=Z k y;exact(ZY.fza i o k x ((hu_ (hH.hold i o (gU_ x).2).loc ZT).2 h8) f).elim
      exact⟨m,(ZH k m).2.symm⟩
     have ZE:HR P E B2 z.F w' w' z g2 (iu_ S (s.H b)):=(hH.part (λi o e=>(gV_ e).2) Zo).ga ZT;have Zz:Rel P E B2 ⟨z,g,F0.lo⟩ w' N ((St.new s2.nx:St E).L ⟨s2.L ⟨s.L b,fs_ S (s.H b),b.lo⟩,iu_ S (s.H b),b.lo⟩) ((St.new s2.nx:St E).H ⟨s2.L ⟨s.L b,fs_ S (s.H b),b.lo⟩,iu_ S (s.H b),b.lo⟩) s2.nx a2 w':=⟨z,g2,Zp.le ZQ (Ga.Le.refl g2),ZE,ZL,Fz.Le.refl z,ZT⟩;refine pd_ (F0:=⟨z,g,F0.lo⟩) (Bs:=B2) (w0:=w') G ht U (λ_ {L H nx a w1} m=>⟨m.inz,λk f=>?_⟩) (λs3 a3 w3 m y=>?_) q D Zz
     .obtain⟨_,_,_,y,_⟩:=m;exact y.chg.block k (Y k f) (ZI k f)
     .split at m
      .rename_i ZF ZB;refine hK _ a3 w3 m ?_;obtain⟨z3,g3,Zr,V,ZM,ZR,ZN⟩:=y;have ZJ:St.H ⟨s2.L ⟨s.L b,fs_ S (s.H b),b.lo⟩,iu_ S (s.H b),b.lo⟩ s3=upH (iu_ S (s.H b)) s3.heap:=by
        unfold St.H;rw[ZB];rfl
       rw[ZJ]at V;have Zt:St.H b { s with env:=s3.env++(s2.env++s.env),heap:=s3.heap++s.heap,nx:=s3.nx }=upH (s.H b) s3.heap:=by
        unfold St.H;rw[aJ_]
       refine⟨z3,g3,Zr.less λt u hu=>?_,?_,ZM,ZG.trans ZR,ZA.trans ZN⟩
       .simp only[St.L]at hu ⊢;rw[hx_,hx_]at hu;simp only[ZF,hvis,seen];cases e3:aF_ t s3.env with
        | some v=>rw[e3]at hu;exact hu
        | none=>
         rw[e3]at hu;simp only at hu ⊢;cases e2:aF_ t s2.env with
         | some v=>rw[e2]at hu;exact hu
         | none=>rw[e2]at hu;exact hu
       .rw [Zt];refine hH.back (I:=S) (s:=λj i=>j=i) V (λk f=>?_) ZN (λj o O=>?_) (λj j' i x h8=>x.trans h8.symm) (λj i o x h8=>by subst x;exact⟨V.hold _ _ h8,λ_=>Iff.rfl⟩) ZR V.fz λk f=>?_
        .obtain⟨i,o,x,h8⟩:=ZW k f;exact⟨i,o,(gV_ x).1,(gV_ x).2,h8⟩
        .by_cases ZP:j∈S
         .refine .inl ⟨j,rfl,?_⟩;rw[kq_]at O ⊢;cases e4:aF_ j s3.heap with
          | some v=>rw[e4]at O;exact O
          | none=>
           rw[e4]at O;simp only at O ⊢;unfold iu_;rw[memN_true.2 ZP];exact O
         .rw[kq_]at O;cases e4:aF_ j s3.heap with
          | some v=>
           rw[e4]at O;refine .inl ⟨j,rfl,?_⟩;rw[kq_,e4];exact O
          | none=>
           rw[e4]at O;exact .inr ⟨ZP,O⟩
        .rcases V.fz0 k f with x|x|x
         .exact .inl x
         .exact .inr ⟨.inl x,f⟩
         .exact .inr ⟨.inr x,f⟩
      .cases m
    .cases q
   exact this rfl (by rw[qj];exact jB _ _) _ λa' h1=>h1 rfl
structure Apart1(w0:tS)(z:Fz)(g:Ga)(H:Nat->tO (Obj E))(w:tS)(q:Nat)(o:Go.Obj):Prop where
 at_:w.heap[q]? = some o
 new:w0.heap.size<=q
 fp:∀id p k,H id=some p->fpO g id p k->k≠q
 fz:¬z.F q
def RelF(P:tT)(E:TE)(Bs:tL Nat)(F0:Org)(w0:tS)(N:Nat)(d q:Nat)(o:Go.Obj)(L:Nat->tO (SV E))(H:Nat->tO (Obj E))(nx:Nat)(a:Act)(w:tS):Prop:=∃z g,ER P E z g N a L/\HR P E Bs F0.z.F w0 w z g H/\Fresh g nx/\F0.z.Le z/\F0.g.Le g/\Apart1 w0 z g H w q o/\a.tmps[d]? = some (.pointer (some ⟨q,0,none⟩))
theorem Apart1.ext{z:Fz}{g:Ga}{H:Nat->tO (Obj E)}{w w':tS}{q:Nat}{o:Go.Obj}(h:Apart1 w0 z g H w q o)(hx:Ext w w'):Apart1 w0 z g H w' q o:=by
 have f:q<w.heap.size:=(jX.1 h.at_).1;exact⟨(hx.below.block q f).trans h.at_,h.new,h.fp,h.fz⟩
theorem RelF.ext{d q:Nat}{o:Go.Obj}{L:Nat->tO (SV E)}{H:Nat->tO (Obj E)}{nx:Nat}{a:Act}{w w':tS}(h:RelF P E Bs F0 w0 N d q o L H nx a w)(hx:Ext w w'):RelF P E Bs F0 w0 N d q o L H nx a w':=
 let ⟨z,g,h1,u,s,p,m,j,f⟩:=h
 ⟨z,g,h1,u.ext hx,s,p,m,j.ext hx,f⟩
theorem evOp_frame(ZY:∀p∈eqs,aG_ P E p.1 p.2)(ht:tab.OK P E){R:Type}{r:R}{z:Fz}{g:Ga}{L:Nat->tO (SV E)}{H:Nat->tO (Obj E)}{nx:Nat}{a:Act}{w:tS}{o:tI}{K:Act->tS->Prop}{Q:Exit->Act->tS->Prop}{k:tO (SV E)->Chs E->tO R}{q:Nat}{ob:Go.Obj}
  (M:Fresh g nx) (hE:ER P E z g N a L) (hH:HR P E Bs F0.z.F w0 w z g H) (hap:Apart1 w0 z g H w q ob) (h:evOp P E eqs tab L H nx o k=some r)
  (hK:∀s u v w' z2 C,k s u=some r->z.Le z2->g.Le C->ER P E z2 C N a L->HR P E Bs F0.z.F w0 w' z2 C (upH H u)->Fresh C (nxU nx u)->(∀sv,s=some sv->RV P E z2 C sv v)->(dc_ tab L o=true->Ext w w')->Apart1 w0 z2 C (upH H u) w' q ob->K (a.put o.dst v) w'):o.wp P a w K Q:=by
 have O:∀i p,H i=some p->i<nx:=λi p e=>by
  obtain⟨l',hl⟩:=(hH.hold i p e).loc;rcases qb i nx with y|y
  .exact y
  .rw[M i y]at hl;cases hl
 let B:tL Nat:=((List.range nx).map (blk H g)).flatten
 have hB:∀i p k,H i=some p->fpO g i p k->k∈B:=λi p k e x=>zg.2 ⟨_,zZ.2 ⟨i,List.mem_range.2 (O i p e),rfl⟩,mem_blk.2 ⟨p,e,x⟩⟩
 have V:∀k,k∈B->∃i p,i∈List.range nx/\H i=some p/\fpO g i p k:=λk x=>by
  obtain⟨_,i,p,h4,y,h6⟩:=kk_ x;exact⟨i,p,List.mem_range.2 (O i p y),y,h6⟩
 have D:q∉B:=λhq=>by
  obtain⟨i,p,_,y,h6⟩:=V q hq;exact hap.fp i p q y h6 rfl
 have J:q<w.heap.size:=(jX.1 hap.at_).1;have hp:=hH.part (λ_ _ e=>e) hB;refine mK_ (Bs:=B) (F0:=z.F) (w0:=w) ZY ht M hE hp h λs u v w' z2 C x G U ZX m ZZ hv Y=>?_
 refine hK s u v w' z2 C x G U ZX ?_ ZZ hv Y ⟨?_,hap.new,λid p k he Z=>?_,λhz=>?_⟩
 .refine hH.back (I:=List.range nx) (s:=λj i=>j=i) m (λk x=>?_) U (λj p hj=>.inl ⟨j,rfl,hj⟩) (λj j' i f h8=>f.trans h8.symm) (λj i p f h8=>by subst f;exact⟨m.hold _ _ h8,λ_=>Iff.rfl⟩) G m.fz λk x=>?_
  .exact V k x
  .rcases m.fz0 k x with f|f|f
   .exact .inl f
   .exact .inr ⟨.inl f,x⟩
   .exact .inr ⟨.inr f,x⟩
 .exact(m.chg.block q J D).trans hap.at_
 .rcases m.own id p k he Z with f|f
  .omega
  .intro e;subst e;exact D f
 .rcases m.fz0 q hz with f|f|f
  .exact hap.fz f
  .omega
  .exact D f
theorem HR.adopt{z:Fz}{g:Ga}{H:Nat->tO (Obj E)}{F:Nat->Prop}{w:tS}{q n:Nat}{T:tA}{cs:tL (SC E)}{vs:tL tW}(U:HR P E Bs F w0 w z g H)(V:g n=none)(hap:Apart1 w0 z g H w q (.cells vs.toArray T (0,0)))(G:All2 (RC P E z (g.put n ⟨none,0,0,0,q,0⟩)) cs vs) :
  HR P E Bs F w0 w z (g.put n ⟨none,0,0,0,q,0⟩) (upH H [(n,some (.box T cs))]):=by
 have y:=Ga.le_put (l:=⟨none,0,0,0,q,0⟩) V;have u:=U.ga y;have h:=Ga.put_self g n ⟨none,0,0,0,q,0⟩;have s:∀k,fpO (g.put n ⟨none,0,0,0,q,0⟩) n (Obj.box T cs:Obj E) k->k=q:=λk f=>by
  obtain⟨l,h1,m⟩:=f;rw[h]at h1;obtain rfl:=qSj h1;exact m
 have hold:∀j p k,H j=some p->fpO (g.put n ⟨none,0,0,0,q,0⟩) j p k->k≠q:=λj p k e f=>hap.fp j p k e ((hu_ (U.hold j p e).loc y).1 f)
 refine⟨u.chg,λj p e=>?_,λj p k e f=>?_,λj M p J k O e e' f x=>?_,u.fz,u.fz0,λj p k e f D=>?_,u.gl⟩
 .rcases aP_ e with⟨rfl,rfl⟩|⟨_,m⟩
  .exact⟨_,vs,h,hap.at_,G⟩
  .exact u.hold j p m
 .rcases aP_ e with⟨rfl,rfl⟩|⟨_,m⟩
  .rw[s k f];exact .inl hap.new
  .exact u.own j p k m f
 .rcases aP_ e with⟨rfl,rfl⟩|⟨_,m⟩<;>rcases aP_ e' with⟨rfl,rfl⟩|⟨_,C⟩
  .exact O rfl
  .exact hold M J k C x (s k f)
  .exact hold j p k m f (s k x)
  .exact u.apart j M p J k O m C f x
 .rcases aP_ e with⟨rfl,rfl⟩|⟨_,m⟩
  .rw[s k f]at D;exact hap.fz D
  .exact u.fza j p k m f D
theorem put_same{a:Act}{d:Nat}{v:tW}(h:a.tmps[d]? = some v):a.put (some d) v=a:=by
 unfold Act.put;have:a.tmps.setIfInBounds d v=a.tmps:=by
  apply Array.ext_getElem?;intro i;rw[Array.getElem?_setIfInBounds];split
  .rename_i hi;subst hi;split
   .exact h.symm
   .rename_i f;rw[qi (by omega)]
  .rfl
 simp only[this]
theorem put_other{a:Act}{d:Nat}{o:tI}{v u:tW}(h:a.tmps[d]? = some v)(j:o.dst≠some d):(a.put o.dst u).tmps[d]? = some v:=by
 unfold Act.put;split
 .rename_i e f;rw[Array.getElem?_setIfInBounds];split
  .rename_i hi;subst hi;exact absurd f j
  .exact h
 .exact h
theorem qr_{d:Nat}:∀{l:tL (Nat×tI×Nat)},ay_ d (dstsT l)=false->∀t∈l,t.2.1.dst≠some d
 | [],_,_,h=>by cases h
 | t0::l,hm,t,h=>by
  simp only[dstsT]at hm;cases j:t0.2.1.dst with
  | none=>
   rw[j]at hm;rcases qV.1 h with rfl|h
   .rw[j];exact λe=>nomatch e
   .exact qr_ hm t h
  | some m=>
   rw[j]at hm;simp only[ay_]at hm;have f:Nat.beq d m=false:=by
    cases p:Nat.beq d m with
    | true=>rw[p]at hm;cases hm
    | false=>rfl
   rw[f]at hm;rcases qV.1 h with rfl|h
   .rw[j];intro e;obtain rfl:=qSj e;exact bk_ f rfl
   .exact qr_ hm t h
theorem after_okF{b:Ba E}{s f:St E}{o:tI}{v:tO (SV E)}{u:Chs E}{a:Act}{w':tS}{x:tW}{z:Fz}{g:Ga}{d q:Nat}{ob:Go.Obj}(h:s.after N o v u=some f)(G:ER P E z g N a (s.L b))(D:HR P E Bs F0.z.F w0 w' z g (upH (s.H b) u))(j:F0.z.Le z)(m:F0.g.Le g)(y:Fresh g (nxU s.nx u))(p:∀sv,v=some sv->RV P E z g sv x)
  (hap:Apart1 w0 z g (upH (s.H b) u) w' q ob) (C:(a.put o.dst x).tmps[d]? = some (.pointer (some ⟨q,0,none⟩))):RelF P E Bs F0 w0 N d q ob (f.L b) (f.H b) f.nx (a.put o.dst x) w':=by
 obtain⟨⟨h1,O,M,J⟩,_⟩:=after_ok2 h G D y p;exact⟨z,g,h1,O,M,j,m,by rw[J];exact hap,C⟩
theorem se_(M:∀p∈eqs,aG_ P E p.1 p.2)(Z:tab.OK P E){I:tS->Prop}(U:∀w w',I w->Ext w w'->I w'){R:Type}{r:R}{all:tL tI}{tl fr:tL Nat}{Q:Exit->Act->tS->Prop}{b:Ba E}{k:St E->tO R}
  (hK:∀s' a' w',k s'=some r->Rel P E Bs F0 w0 N (s'.L b) (s'.H b) s'.nx a' w'->Q .normal a' w') {fi d T:Nat} {fo:tI} {post:tL (Nat×tI×Nat)} {zs:tL tW} {q:Nat} (ZV:fo.op = .alloc T) (ZX:fo.guard=none) (ZW:fo.dst=some d) (hz:zeroOf P T=some zs) (y:∀t∈post,all[t.1]? = some t.2.1/\(t.2.2=2->t.1∈tl)):∀{pre:tL (Nat×tI×Nat)} {s:St E} {a:Act} {w:tS},
  evB P E eqs tab N false b (pre++(fi,fo,1)::post) s k=some r->(∀t∈pre,all[t.1]? = some t.2.1/\(t.2.2=2->t.1∈tl))->(∀t∈pre,t.2.1.dst≠some d)->RelF P E Bs F0 w0 N d q (.cells zs.toArray T (0,0)) (s.L b) (s.H b) s.nx a w->bc_ P all.toArray tl fr I Q (c2_ pre++c2_ post) a w
 | [],s,a,w,h,_,_,hR=>by
  obtain⟨z,g,hE,hH,m,D,J,hap,hd⟩:=hR;rw[jD]at h;unfold evB at h;simp only[ZX]at h;have ZI:quietM 1=false:=rfl;rw[ZI]at h;simp only at h;split at h
  .cases h
  .unfold evOp at h;simp only[ZV]at h;unfold lAlloc at h;have fin:∀{cs:tL (SC E)},All2 (RC P E z (g.put s.nx ⟨none,0,0,0,q,0⟩)) cs zs->(match s.after N fo (some (.v (.one (.ptr s.nx 0)))) [(s.nx,some (.box T cs))]with
     | some s1=>evB P E eqs tab N false b post s1 k
     | none=>none)=some r->bc_ P all.toArray tl fr I Q (c2_ post) a w:=fun{cs} G h=>by
    split at h
    .rename_i s1 F;have hA:=hH.adopt m.self hap G;have ZO:=Ga.le_put (l:=⟨none,0,0,0,q,0⟩) m.self;obtain⟨C,_⟩:=bU_ (F0:=F0) (x:=.pointer (some ⟨q,0,none⟩)) F (hE.le (Fz.Le.refl z) ZO) hA D (J.trans ZO) (Fresh.nxU λi hi=>by
      have:=m.put (⟨none,0,0,0,q,0⟩:Loc) i (by simp at hi;omega);exact this) (λsv e=>by obtain rfl:=qSj e;exact⟨_,Ga.put_self _ _ _,rfl⟩)
     rw[ZW,put_same hd]at C;exact pd_ (fm:=false) M Z U (λe=>by cases e) hK h y C
    .cases h
   split at h
   .rename_i Y;rw[hz]at Y;obtain rfl:=qSj Y;exact fin (cs:=[.sbp s.nx,.nils]) (.cons ⟨_,Ga.put_self _ _ _,.inl rfl⟩ (.cons rfl .nil)) h
   .split at h
    .rename_i cs ZE;obtain⟨zs',ZS,G⟩:=p7_ (z:=z) (g:=g) ZE;rw[hz]at ZS;obtain rfl:=qSj ZS;exact fin (G.mono λ_ _ h=>RC.le h (Fz.Le.refl z) (Ga.le_put m.self)) h
    .cases h
 | (i, o,f)::pre,s,a,w,h,ZY,ZL,hR=>by
  obtain⟨ho,ZR⟩:=ZY _ (qR ..);have O:∀t∈pre,all[t.1]? = some t.2.1/\(t.2.2=2->t.1∈tl):=λt Z=>ZY t (qL _ Z)
  have ZZ:∀t∈pre,t.2.1.dst≠some d:=λt Z=>ZL t (qL _ Z)
  have ZP:o.dst≠some d:=ZL _ (qR ..);simp only at ho ZR;rw[qc]at h;unfold evB at h;split at h
  .cases h
  .rename_i ZN;simp only[c2_,qc];split at h
   .rename_i ZU;rw[ZU];obtain⟨z,g,hE,hH,m,D,J,hap,hd⟩:=hR;obtain⟨sv,v,up,g2,V,Zz,ZA,hv,ZQ,ZJ⟩:=iN_ (nx:=s.nx) M (hE.op hH.gl) (hH.less (H':=λ_=>none) λ_ _ e=>by cases e) h (λ_=>True);simp only at V;split at V
    .cases V
    .obtain rfl:g2=g:=ZJ;split at V
     .rename_i s1 F;have C:=after_okF (u:=[]) F hE hH D J (λj hj=>m j (by simp only[nxU]at hj;omega)) (λsv' e=>by obtain rfl:=qSj e;exact hv) hap (put_other hd ZP);refine eU_ o ho λK ZT=>?_
      rw[qY (c4_ ZN _)];exact⟨v,λw' _=>by rw[ZQ w' trivial];exact⟨rfl,rfl⟩,ZT _ (se_ M Z U hK ZV ZX ZW hz y V O ZZ C)⟩
     .cases V
   .rename_i ZU;rw[ZU];split at h
    .cases h
    .rename_i ZM;refine t1_ o ho λK ZT X e=>?_
     have hx:Ext w (w.ext X e):=⟨X,e,rfl⟩;obtain⟨z,g,hE,hH,m,D,J,hap,hd⟩:=hR.ext hx;refine wpList_step λK2 ZD=>?_
     rw[qY (c4_ ZN _)];refine evOp_frame M Z m hE hH hap h λv u x w' z2 g2 V Y ZG ZB ZC ZF hv ZH ZK=>ZD _ _ ?_
     split at V
     .rename_i s1 F;have C:=after_okF F ZB ZC (D.trans Y) (J.trans ZG) ZF hv ZK (put_other hd ZP);show K _ _;refine ZT _ _ (λhc hw=>?_) (se_ M Z U hK ZV ZX ZW hz y V O ZZ C);simp only[qz,zo,false_or]at ZM;rcases ZM with h1|h1
      .obtain rfl:=qNb h1;rw[jJ.2 (ZR rfl)]at hc;cases hc
      .exact U _ _ (U _ _ hw hx) (ZH h1)
     .cases V
theorem sf_ (D:∀p∈eqs,aG_ P E p.1 p.2) (C:tab.OK P E) {I:tS->Prop} (y:∀w w',I w->Ext w w'->I w') {R:Type} {r:R} {all:tL tI} {tl fr:tL Nat} {Q:Exit->Act->tS->Prop} {b:Ba E} {k:St E->tO R}
  (hK:∀s' a' w',k s'=some r->Rel P E Bs F0 w0 N (s'.L b) (s'.H b) s'.nx a' w'->Q .normal a' w') {fi d T:Nat} {fo:tI} {post:tL (Nat×tI×Nat)} (ZZ:all[fi]? = some fo) (ZW:fo.op = .alloc T) (ZY:fo.guard=none) (ZX:fo.dst=some d) (m:∀t∈post,all[t.1]? = some t.2.1/\(t.2.2=2->t.1∈tl)):∀{pre:tL (Nat×tI×Nat)} {s:St E} {a:Act} {w:tS},
  evB P E eqs tab N false b (pre++(fi,fo,1)::post) s k=some r->(∀t∈pre,all[t.1]? = some t.2.1/\(t.2.2=2->t.1∈tl))->(∀t∈pre,t.2.1.dst≠some d)->s.L b d=none->Nat.blt d N=true->(∃zs,zeroOf P T=some zs)->Rel P E Bs F0 w0 N (s.L b) (s.H b) s.nx a w->b4_ P all.toArray tl fr I Q fi (c2_ post) (c2_ pre) a w
 | [],s,a,w,h,_,_,_,_,_,hR=>by
  rw[jD]at h;exact pd_ (fm:=false) D C y (λe=>by cases e) hK (l:=(fi,fo,1)::post) h (λt C=>by
   rcases qV.1 C with rfl|C
   .exact⟨ZZ,λe=>nomatch e⟩
   .exact m t C) hR
 | (i, o,f)::pre,s,a,w,h,O,ZQ,ZN,ZP,ZT,hR=>by
  obtain⟨ho,ZJ⟩:=O _ (qR ..);have M:∀t∈pre,all[t.1]? = some t.2.1/\(t.2.2=2->t.1∈tl):=λt C=>O t (qL _ C)
  have ZU:∀t∈pre,t.2.1.dst≠some d:=λt C=>ZQ t (qL _ C)
  have Z:o.dst≠some d:=ZQ _ (qR ..);have ZR:=h;simp only at ho ZJ;rw[qc]at h;unfold evB at h;split at h
  .cases h
  .rename_i ZH;simp only[c2_];split at h
   .rename_i ZV;rw[ZV];obtain⟨z,g,hE,V,J,F,G⟩:=hR;obtain⟨sv,v,up,g2,Y,Zp,Zr,hv,ZI,ZD⟩:=iN_ (nx:=s.nx) D (hE.op V.gl) (V.less (H':=λ_=>none) λ_ _ e=>by cases e) h (λ_=>True);simp only at Y;split at Y
    .cases Y
    .obtain rfl:g2=g:=ZD;split at Y
     .rename_i s1 ZS;obtain⟨ZO,ZM⟩:=bU_ (u:=[]) ZS hE V F G (λj hj=>J j (by simp only[nxU]at hj;omega)) (λsv' e=>by obtain rfl:=qSj e;exact hv);refine gp_ o ho λK U=>?_
      rw[qY (c4_ ZH _)];exact⟨v,λw' _=>by rw[ZI w' trivial];exact⟨rfl,rfl⟩,U _ (sf_ D C y hK ZZ ZW ZY ZX m Y M ZU ((ZM d λd' e=>by rw[e]at Z;exact λh=>Z (by rw[h])).trans ZN) ZP ZT ZO)⟩
     .cases Y
   .rename_i ZV;rw[ZV];split at h
    .cases h
    .rename_i ZG;refine wpMixF_loud o fo ho ZZ (λK U X e=>?_) λK U X e=>?_
     .have hx:Ext w (w.ext X e):=⟨X,e,rfl⟩;obtain⟨z,g,hE,V,J,F,G⟩:=hR.ext hx;refine wpList_step λK2 ZL=>?_
      rw[qY (c4_ ZH _)];refine mK_ D C J hE V h λv u x w' z2 g2 Y ZE ZB Zu Zy Zz hv ZC=>ZL _ _ ?_
      split at Y
      .rename_i s1 ZS;obtain⟨ZO,ZM⟩:=bU_ ZS Zu Zy (F.trans ZE) (G.trans ZB) Zz hv;show K _ _;refine U _ _ (λhc hw=>?_) (sf_ D C y hK ZZ ZW ZY ZX m Y M ZU ((ZM d λd' e=>by rw[e]at Z;exact λh=>Z (by rw[h])).trans ZN) ZP ZT ZO);simp only[qz,zo,false_or]at ZG;rcases ZG with h1|h1
       .obtain rfl:=qNb h1;rw[jJ.2 (ZJ rfl)]at hc;cases hc
       .exact y _ _ (y _ _ hw hx) (ZC h1)
      .cases Y
     .have hx:Ext w (w.ext X e):=⟨X,e,rfl⟩;obtain⟨zs,hz⟩:=ZT;obtain⟨z,g,hE,V,J,F,G⟩:=hR.ext hx;refine wpList_step λK2 ZL=>?_
      rw[qY (c4_ ZY _)];unfold Oper.wp;rw[lg_ ZW hz];simp only[Oper.upon];rw[ZX];refine ZL _ _ ?_;show K _ _;generalize Zt:w.ext X e=w1 at hE V hx;have ZK:Ext w1 (w1.alloc (.cells zs.toArray T)):=Ext.one w1 _;have hb:bc_ P all.toArray tl fr I Q (c2_ ((i,o,f)::pre)++c2_ post) (a.put (some d) (.pointer (some ⟨w1.heap.size,0,none⟩))) (w1.alloc (.cells zs.toArray T)):=by
       refine se_ (q:=w1.heap.size) D C y hK ZW ZY ZX hz m ZR O ZQ ?_;refine⟨z,g,hE.del (λt u hu=>⟨λe=>?_,hu⟩),V.ext ZK,J,F,G,⟨?_,V.size,λid p k he ZA=>?_,λZF=>?_⟩,?_⟩
       .subst e;rw[ZN]at hu;cases hu
       .show(w1.heap.push _)[w1.heap.size]? = _;simp
       .have:=(V.hold id p he).lt ZA;omega
       .have:=(V.fz _ ZF).1;omega
       .unfold Act.put;have:d<a.tmps.size:=by rw[hE.size];exact qq ZP
        simp[this]
      simp only[c2_,ZV,Bool.not_false]at hb;exact U _ _ (λ_ hw=>y _ _ (y _ _ hw hx) ZK) hb
def wd_(M:∀p∈eqs,aG_ P E p.1 p.2)(Z:tab.OK P E)(all:tL tI)(tl fr:tL Nat)(m:Nat)(hm:∀i,i<m->fr.contains i=false)(W:tS)(I:tS->Prop)(hI:∀z g H,HR P E Bs F0.z.F w0 W z g H->F0.z.Le z->∀w',I w'->Keeps P E z g H W w')(Q:Exit->Act->tS->Prop)(fi:Nat)(post:tL (Nat×tV)):Walk P E (λL H nx o _ k=>it_ P E eqs tab L H nx o k) N Bs F0 w0 all where
 W J l i a w:=w=W->i+l.length<=m->∀rest:tL (Nat×tV),(∀C,J C W->b4_ P all.toArray tl fr I Q fi post rest C W)->b4_ P all.toArray tl fr I Q fi post (d8_ i l++rest) a W
 nil O:=λe _ rest h=>h _ (e▸O)
 app h1 y:=λe f rest h=>by
  rw[kT_,qy];rw[qLa]at f;exact h1 e (by omega) _ λC O=>y C W O rfl (by omega) rest h
 skip {J o l i a w} q j h1:=λe f rest h=>by
  simp only[qLc]at f;simp only[d8_,qc];refine gp_ o q λK x=>?_
  rw[qG (by rw[j];exact zn)];exact x _ (h1 e (by omega) rest h)
 step {J o l i a w R L H nx z g k r} q j V U hf Y hg G hk:=λe f rest h=>by
  simp only[qLc]at f;subst e;simp only[d8_,qc];refine gp_ o q λK x=>?_
  rw[qY j,hm i (by omega)];obtain⟨s,u,v,g2,h1,y,h3,h4,h5,h6⟩:=mM_ M Z hf V U (hI z g H U Y) G;refine⟨v,h6,x _ ?_⟩;exact hk (some s) u v w z g2 h1 (Fz.Le.refl z) y (V.le (Fz.Le.refl z) y) h3 h4.nxU (λsv D=>by obtain rfl:=qSj D;exact h5) rfl (by omega) rest h
 pick {J o l i a w v} q j hr h1:=λe f rest h=>by
  simp only[qLc]at f;simp only[d8_,qc];refine gp_ o q λK x=>?_
  rw[qY j];exact⟨v,λw' _=>by rw[hr];exact⟨rfl,rfl⟩,x _ (h1 e (by omega) rest h)⟩
theorem evH_okF(m:∀p∈eqs,aG_ P E p.1 p.2)(Y:tab.OK P E){W:tS}{I:tS->Prop}(hI:∀z g H,HR P E Bs F0.z.F w0 W z g H->F0.z.Le z->∀w',I w'->Keeps P E z g H W w'){R:Type}{r:R}{all:tL tI}{tl fr:tL Nat}{Q:Exit->Act->tS->Prop}{b:Ba E}{k:St E->tO R}{fi:Nat}{post rest:tL (Nat×tV)}
  (hK:∀O a',k O=some r->Rel P E Bs F0 w0 N (O.L b) (O.H b) O.nx a' W->b4_ P all.toArray tl fr I Q fi post rest a' W):∀{Z:tL Nat} {s:St E} {a:Act},
  evH P E eqs tab N b all fr Z s k=some r->Rel P E Bs F0 w0 N (s.L b) (s.H b) s.nx a W->b4_ P all.toArray tl fr I Q fi post (hOrd Z++rest) a W
 | [],s,a,h,hR=>hK s a h hR
 | i :: Z,s,a,h,hR=>by
  unfold evH at h;split at h
  .cases h
  .rename_i o ho;split at h
   .cases h
   .rename_i ZZ;obtain⟨z,g,U,M,G,q,D⟩:=hR;simp only[hOrd,qc];refine gp_ o ho λK J=>?_
    rw[qY (c4_ ZZ _)];split at h
    .rename_i hc;rw[hc];obtain⟨sv,v,up,g2,f,ZX,ZY,hv,C,V⟩:=iN_ (nx:=s.nx) m (U.op M.gl) (M.less (H':=λ_=>none) λ_ _ e=>by cases e) h (λ_=>True);simp only at f;split at f
     .cases f
     .obtain rfl:g2=g:=V;split at f
      .rename_i s1 x;obtain⟨y,_⟩:=bU_ (u:=[]) x U M q D (λj hj=>G j (by simp only[nxU]at hj;omega)) (λsv' e=>by obtain rfl:=qSj e;exact hv);exact⟨v,λw' _=>by rw[C w' trivial];exact⟨rfl,rfl⟩,J _ (evH_okF m Y hI hK f y)⟩
      .cases f
    .rename_i hc;rw[hc];obtain⟨sv,u,v,g2,f,h2,h3,h4,h5,h6⟩:=mM_ m Y G U M (hI z g _ M q) h;simp only at f;split at f
     .rename_i s1 x;obtain⟨y,_⟩:=bU_ x (U.le (Fz.Le.refl z) h2) h3 q (D.trans h2) h4.nxU (λsv' e=>by obtain rfl:=qSj e;exact h5);exact⟨v,h6,J _ (evH_okF m Y hI hK f y)⟩
     .cases f
theorem evFloat_ok(C:∀p∈eqs,aG_ P E p.1 p.2)(ht:tab.OK P E){R:Type}{l:tL tI}{fl D:tL Nat}{p:Nat}{id:Nat}{b:Ba E}{s:St E}{k:St E->tO R}{r:R}{a:Act}{w:tS}{Q:Exit->Act->tS->Prop}(h:evFloat P E eqs tab N l fl D p b s k=some r)(hR:Rel P E Bs F0 w0 N (s.L b) (s.H b) s.nx a w)
  (hK:∀M G w',k M=some r->Rel P E Bs F0 w0 N (M.L b) (M.H b) M.nx G w'->Q .normal G w'):(Code.region id l.toArray true).wp P Q a w:=by
 unfold evFloat at h;split at h
 .cases h
 .rename_i t ZX;obtain⟨fi,fo,f1⟩:=t;split at h
  .cases h
  .rename_i m;simp only[qAn]at m;obtain⟨⟨hm,j,ZU⟩,hB⟩:=m;obtain rfl:=qNb ZU;have f:∀t∈dV_ D (as_ fl) (l.drop (as_ fl)) (fl.drop (as_ fl)),l[t.1]? = some t.2.1/\(t.2.2=2->t.1∈tlOf 0 fl):=λt f=>by
    obtain⟨k,h5,h6,h7⟩:=uU_ f;rw[qo]at h6 h7;rw[←h5]at h6 h7;refine⟨h6,λhf=>?_⟩;rw[hf]at h7;have:=uT_ (n:=0) h7
    rwa [qj]at this
   have V:=(f _ (qa ZX)).1;unfold floatB at j;simp only at j V hB h;split at j
   .rename_i T d ZV ZW Y;simp only[qAn,qF]at j;obtain⟨ZT,ZS,O⟩:=j;have ZY:∃zs,zeroOf P T=some zs:=by
     split at O
     .rename_i zs hz;exact⟨zs,hz⟩
     .cases O
    have Z:dstN fo=d:=by unfold dstN;rw[Y]
    rw[Z]at h;have ZZ:∀w1 w',Ext w w1->Ext w1 w'->Ext w w':=λ_ _ h1 h2=>h1.trans h2
    have hI:∀z g H,HR P E Bs F0.z.F w0 w z g H->F0.z.Le z->∀w',Ext w w'->Keeps P E z g H w w':=λz g H h1 _ w' h2=>Keeps.of_ext h1 h2
    refine o9_ (I:=Ext w) ZZ _ _ _ _ hm hB (Ext.refl w) ?_;have:=fn_ (wd_ C ht l (tlOf 0 fl) (frOf 0 fl) (as_ fl) (λ_ h=>notFree h) w (Ext w) hI Q fi (c2_ ((dV_ D (as_ fl) (l.drop (as_ fl)) (fl.drop (as_ fl))).drop (p+1)))) _ (tl:=l.drop (as_ fl)) (J:=λG w'=>w'=w->b4_ P l.toArray (tlOf 0 fl) (frOf 0 fl) (Ext w) Q fi (c2_ ((dV_ D (as_ fl) (l.drop (as_ fl)) (fl.drop (as_ fl))).drop (p+1))) (hOrd D++c2_ ((dV_ D (as_ fl) (l.drop (as_ fl)) (fl.drop (as_ fl))).take p)) G w') h (by simp) hR trivial λM G w' h1 h2 _ hw=>by
     subst hw;refine evH_okF C ht hI (λq a2 h3 h4=>?_) h1 h2;have hL:(({ q with env:=(d,none)::q.env }:St E).L b) d=none:=by
      simp only[St.L,aF_,Nat.beq_refl]
     have ZR:Rel P E Bs F0 w0 N (({ q with env:=(d,none)::q.env }:St E).L b) (({ q with env:=(d,none)::q.env }:St E).H b) q.nx a2 w':=by
      obtain⟨z,g,hE,hH,y⟩:=h4;exact⟨z,g,hE.less λt u U=>(by
       simp only[St.L,aF_]at U ⊢;cases hb:Nat.beq t d with
       | true=>rw[hb]at U;cases U
       | false=>rw[hb]at U;exact U),hH,y⟩
     refine sf_ C ht ZZ hK V ZV ZW Y (λt x=>f t (List.mem_of_mem_drop x)) h3 (λt x=>f t (qh x)) (qr_ ZT) hL ZS ZY ZR
    exact this rfl (by rw[qj];exact jB _ _) _ λG h1=>h1 rfl
   .cases j
def we_(M:∀p∈eqs,aG_ P E p.1 p.2)(Z:tab.OK P E)(all:tL tI)(sf fr:tL Nat)(m:Nat)(hm:∀i,i<m->fr.contains i=false)(W:tS)(I:tS->Prop)(hI:∀z g H,HR P E Bs F0.z.F w0 W z g H->F0.z.Le z->∀w',I w'->Keeps P E z g H W w')(Q:Exit->Act->tS->Prop)(t:OT):Walk P E (λL H nx o _ k=>it_ P E eqs tab L H nx o k) N Bs F0 w0 all where
 W J l i a w:=w=W->i+l.length<=m->∀rest:tL (Nat×tV),(∀C,J C W->fF_ P all.toArray sf fr I Q t rest C W)->fF_ P all.toArray sf fr I Q t (d8_ i l++rest) a W
 nil O:=λe _ rest h=>h _ (e▸O)
 app h1 y:=λe f rest h=>by
  rw[kT_,qy];rw[qLa]at f;exact h1 e (by omega) _ λC O=>y C W O rfl (by omega) rest h
 skip {J o l i a w} q j h1:=λe f rest h=>by
  simp only[qLc]at f;simp only[d8_,qc];refine mN_ o q λK x=>?_
  rw[qG (by rw[j];exact zn)];exact x _ (h1 e (by omega) rest h)
 step {J o l i a w R L H nx z g k r} q j V U hf Y hg G hk:=λe f rest h=>by
  simp only[qLc]at f;subst e;simp only[d8_,qc];refine mN_ o q λK x=>?_
  rw[qY j,hm i (by omega)];obtain⟨s,u,v,g2,h1,y,h3,h4,h5,h6⟩:=mM_ M Z hf V U (hI z g H U Y) G;refine⟨v,h6,x _ ?_⟩;exact hk (some s) u v w z g2 h1 (Fz.Le.refl z) y (V.le (Fz.Le.refl z) y) h3 h4.nxU (λsv D=>by obtain rfl:=qSj D;exact h5) rfl (by omega) rest h
 pick {J o l i a w v} q j hr h1:=λe f rest h=>by
  simp only[qLc]at f;simp only[d8_,qc];refine mN_ o q λK x=>?_
  rw[qY j];exact⟨v,λw' _=>by rw[hr];exact⟨rfl,rfl⟩,x _ (h1 e (by omega) rest h)⟩
def GS(all:tL tI)(gs:Gs)(L:Nat->tO (SV E)):Prop:=∀q∈gs,gdOK all (some (q.1,q.2.2,q.2.1)) L
theorem GS.after{all:tL tI}{gs:Gs}{o:tI}{L L':Nat->tO (SV E)}(h:GS all gs L)(j:gsFree o gs=true)(hL:∀t,(∀d,o.dst=some d->t≠d)->L' t=L t):GS all gs L':=
 λq f=>qq_ (h q f) (qm.1 j q f) hL
theorem gsAt_mem{k:Nat}{q:Nat×Nat×tV}:∀{gs:Gs},gsAt k gs=some q->q∈gs/\q.1=k
 | [],h=>nomatch h
 | p::l,h=>by
  simp only[gsAt]at h;split at h
  .rename_i f;obtain rfl:=qSj h;exact⟨qR,qNb f⟩
  .have:=gsAt_mem h;exact⟨qL _ this.1,this.2⟩
theorem wf_{k:Nat}{q:Nat×Nat×tV}:∀{gs:Gs},gsSlot k gs=some q->q∈gs/\q.2.1=k
 | [],h=>nomatch h
 | p::l,h=>by
  simp only[gsSlot]at h;split at h
  .rename_i f;obtain rfl:=qSj h;exact⟨qR,qNb f⟩
  .have:=wf_ h;exact⟨qL _ this.1,this.2⟩
theorem GS.val{all:tL tI}{gs:Gs}{L:Nat->tO (SV E)}{q:Nat×Nat×tV}{z:Fz}{g:Ga}{a:Act}(h:GS all gs L)(f:q∈gs)(j:ER P E z g N a L):(∃oj,all[q.1]? = some oj/\oj.dst=some q.2.1)/\a.tmps[q.2.1]? = some (.bool q.2.2):=by
 obtain⟨h1,c,s,rfl⟩:=h q f;obtain⟨v,p,m⟩:=j.get _ _ s;exact⟨h1,by rw[p];exact qM some (SV.bool_ok rfl m)⟩
theorem kr_{all:tL tI}{gs:Gs}{L:Nat->tO (SV E)}{o:tI}{u:tV}{z:Fz}{g:Ga}{a:Act}(h:GS all gs L)(p:ER P E z g N a L)(f:wantG o gs=some u):Region.wanted o (yielded all.toArray a.tmps)=u:=by
 unfold wantG at f;unfold Region.wanted;split at f
 .rename_i j;rw[j];exact qSj f
 .rename_i k w j;rw[j];split at f
  .cases f
  .rename_i q m;obtain⟨hm,rfl⟩:=gsAt_mem m;obtain⟨⟨oj,h1,x⟩,s⟩:=h.val hm p;obtain rfl:=qSj f;simp only[mc_ h1 x s];cases q.2.2<;>cases w<;>rfl
theorem Al_{all:tL tI}{i:Nat}{o:tI}{tab:Tab E}{L:Nat->tO (SV E)}(f:all[i]? = some o)(h:ko_ all i=true):dc_ tab L o=true:=by
 unfold ko_ at h;rw[f]at h
 dsimp only at h
 split at h
 .rename_i T e;unfold dc_;rw[e]
 .cases h
theorem evO1_ok (ZU:∀p∈eqs,aG_ P E p.1 p.2) (ht:tab.OK P E) {R:Type} {r:R} {all:tL tI} {Q:Exit->Act->tS->Prop} {b:Ba E} {gs:Gs} {i:Nat} {K:Act->tS->Prop} {kk:St E->tO R} {s:St E} {a:Act} {w:tS}
  (Y:∀{s:St E} {a:Act} {w':tS},kk s=some r->Rel P E Bs F0 w0 N (s.L b) (s.H b) s.nx a w'->GS all gs (s.L b)->(ko_ all i=true->Ext w w')->K a w')
  (h:evO1 P E eqs tab N b all i gs s kk=some r) (hR:Rel P E Bs F0 w0 N (s.L b) (s.H b) s.nx a w) (O:GS all gs (s.L b)) :
   (match all.toArray[i]? with
    | none=>False
    | some o=>∀X d,wpList P all.toArray (Exit.then K (b9_ Q)) [o] a (w.ext X d)):=by
 unfold evO1 at h;split at h
 .cases h
 .rename_i o ho;have ZY:all.toArray[i]? = some o:=by simpa using ho
  rw[ZY];intro X d;have ZT:=hR.ext ⟨X,d,rfl⟩;obtain⟨z,g,M,V,G,D,F⟩:=ZT;refine wpList_step λK2 J=>?_
  split at h
  .rename_i C hw;rw[qY (kr_ O M hw)];split at h
   .rename_i x hx;split at h
    .cases h
    .rename_i v hv;split at h
     .rename_i s1 f;obtain⟨m,y⟩:=bU_ (u:=[]) (x:=a.eval x) f M V D F (λj hj=>G j (by simp only[nxU]at hj;omega)) (λsv' e=>by obtain rfl:=qSj e;exact M.op V.gl _ _ hv);unfold pickG at hx;split at hx
      .rename_i dd x0 y0 ZZ;split at hx
       .cases hx
       .rename_i q hq;obtain⟨hm,rfl⟩:=wf_ hq;obtain⟨_,h3⟩:=O.val hm M;obtain rfl:=qSj hx;unfold Oper.wp;have U:(execOp a.eval o).run P (w.ext X d) = .ok (.value (a.eval (picked q.2.2 x0 y0))) (w.ext X d):=by
         have hc:a.eval (.tmp q.2.1) = .bool q.2.2:=by simp[Act.eval,h3]
         unfold execOp;rw[ZZ];simp only[hc];cases q.2.2<;>simp[asBool,picked]
        rw[U];exact J _ _ (Y h m (O.after C y) λ_=>⟨X,d,rfl⟩)
      .cases hx
     .cases h
   .refine mK_ ZU ht G M V h λv u x w' z2 g2 hk Z ZW ZR ZS ZV hv ZX=>J _ _ ?_
    split at hk
    .rename_i s1 f;obtain⟨m,y⟩:=bU_ f ZR ZS (D.trans Z) (F.trans ZW) ZV hv;exact Y hk m (O.after C y) λe=>Ext.trans ⟨X,d,rfl⟩ (ZX (Al_ ho e))
    .cases hk
  .rename_i C hw;rw[qG (by rw[kr_ O M hw];exact zn)];split at h
   .rename_i s1 f;obtain⟨m,y⟩:=bU_ (u:=[]) (x:=undef) f M V D F (λj hj=>G j (by simp only[nxU]at hj;omega)) (λ_ e=>nomatch e);exact J _ _ (Y h m (O.after C y) λ_=>⟨X,d,rfl⟩)
   .cases h
  .cases h
theorem evOT_ok(V:∀p∈eqs,aG_ P E p.1 p.2)(ht:tab.OK P E){R:Type}{r:R}{all:tL tI}{sf:tL Nat}{I:tS->Prop}(hI:∀w w',I w->Ext w w'->I w')(ZZ:∀i,sf.contains i=true->ko_ all i=true){Q:Exit->Act->tS->Prop}{b:Ba E}{k:St E->tO R}
  (hK:∀s' a' w',k s'=some r->Rel P E Bs F0 w0 N (s'.L b) (s'.H b) s'.nx a' w'->Q .normal a' w'):∀{t:OT} {c:tV} {gs:Gs} {s:St E} {a:Act} {w:tS},
  d9_ P E eqs tab N b all k t gs s=some r->Rel P E Bs F0 w0 N (s.L b) (s.H b) s.nx a w->GS all gs (s.L b)->wpO P all.toArray sf I Q t c a w:=by
 intro t
 induction t with
 | nil=>
  intro c gs s a w h y m;cases c with
  | true=>trivial
  | false=>exact λX d=>hK s a _ (by simpa only[d9_]using h) (y.ext ⟨X,d,rfl⟩)
 | spl i t f ZX ZV=>
  intro c gs s a w h y m;simp only[d9_]at h;split at h
  .cases h
  .rename_i o ho;split at h
   .cases h
   .rename_i d hd;split at h
    .rename_i u hu;obtain⟨z,g,G,hH,F,C,D⟩:=y;obtain⟨v,h3,h4⟩:=G.get _ _ hu;have hy:=mc_ (c:=u) ho hd (by rw[h3];exact qM some (SV.bool_ok rfl h4));cases u with
     | true=>exact .inl ⟨hy,ZX h ⟨z,g,G,hH,F,C,D⟩ λq O=>by
       rcases qV.1 O with rfl|O
       .exact⟨⟨o,ho,hd⟩,true,hu,rfl⟩
       .exact m q O⟩
     | false=>exact .inr ⟨hy,ZV h ⟨z,g,G,hH,F,C,D⟩ λq O=>by
       rcases qV.1 O with rfl|O
       .exact⟨⟨o,ho,hd⟩,false,hu,rfl⟩
       .exact m q O⟩
    .cases h
 | free i t ih=>
  intro c gs s a w h y m;simp only[d9_]at h;split at h
  .cases h
  .rename_i o ho;have ZT:all.toArray[i]? = some o:=by simpa using ho
   simp only[wpO,ZT];obtain⟨z,g,G,hH,F,C,D⟩:=y;split at h
   .rename_i U J;rw[qY (kr_ m G J)];obtain⟨sv,v,up,g2,hk,ZR,ZS,hv,ZY,ZU⟩:=iN_ (nx:=s.nx) V (G.op hH.gl) (hH.less (H':=λ_=>none) λ_ _ e=>by cases e) h (λ_=>True);simp only at hk;split at hk
    .cases hk
    .obtain rfl:g2=g:=ZU;split at hk
     .rename_i s1 M;obtain⟨Y,Z⟩:=bU_ (u:=[]) M G hH C D (λj hj=>F j (by simp only[nxU]at hj;omega)) (λsv' e=>by obtain rfl:=qSj e;exact hv);exact⟨v,λw' _=>by rw[ZY w' trivial];exact⟨rfl,rfl⟩,ih hk Y (m.after U Z)⟩
     .cases hk
   .rename_i U J;rw[qG (by rw[kr_ m G J];exact zn)];split at h
    .rename_i s1 M;obtain⟨Y,Z⟩:=bU_ (u:=[]) (x:=undef) M G hH C D (λj hj=>F j (by simp only[nxU]at hj;omega)) (λ_ e=>nomatch e);exact ih h Y (m.after U Z)
    .cases h
   .cases h
 | alt i t rr ih ZW=>
  intro c gs s a w h y m;cases rr with
  | nil=>
   simp only[d9_]at h;exact⟨evO1_ok V ht (λh y m hx=>⟨λe J=>hI _ _ J (hx (ZZ i e)),ih h y m⟩) h y m,trivial⟩
  | free j t2=>
   simp only[d9_]at h;cases h
  | spl j t2 f2=>
   simp only[d9_]at h;cases h
  | alt j t2 r2=>
   rw[d9_]at h;obtain⟨h1,h2⟩:=both_some h;exact⟨evO1_ok V ht (λh y m hx=>⟨λe J=>hI _ _ J (hx (ZZ i e)),ih h y m⟩) h1 y m,ZW h2 y m⟩
theorem wpList_one{ops:Array tI}{Q:Exit->Act->tS->Prop}{K:Act->tS->Prop}{o:tI}{rest:tL tI}{a:Act}{w:tS}(h:wpList P ops (Exit.then K (b9_ Q)) [o] a w)(m:∀f w',K f w'->wpList P ops Q rest f w'):wpList P ops Q (o::rest) a w:=by
 unfold wpList at h ⊢;split
 .rename_i j;rw[qY j]at h;rcases h with h|h
  .exact .inl (Oper.wp_out (λf w' p=>m f w' p) (λ_ _ _ h=>nomatch h.1) (λh=>gd_ (Q:=Q) h) h)
  .exact .inr ⟨h.1,gd_ (Q:=Q) h.2⟩
 .rename_i j;rw[qG j]at h;exact m _ _ h
theorem evLin_go(ZX:∀p∈eqs,aG_ P E p.1 p.2)(ht:tab.OK P E){R:Type}{r:R}{all:tL tI}{Q:Exit->Act->tS->Prop}{b:Ba E}{k:St E->tO R}
  (hK:∀s' a' w',k s'=some r->Rel P E Bs F0 w0 N (s'.L b) (s'.H b) s'.nx a' w'->Q .normal a' w'):∀{t:OT} {i:Nat} {gs:Gs} {s:St E} {a:Act} {w:tS},linO t i all.length=true ->
  d9_ P E eqs tab N b all k t gs s=some r->Rel P E Bs F0 w0 N (s.L b) (s.H b) s.nx a w->GS all gs (s.L b)->wpList P all.toArray Q (all.drop i) a w:=by
 have C:∀{i:Nat} {o:tI},all[i]? = some o->all.drop i=o::all.drop (i+1):=fun{i o} h=>by
  obtain⟨h1,h2⟩:=qK.1 h;rw[zM h1,h2]
 intro t
 induction t with
 | nil=>
  intro i gs s a w m h D y;have:i=all.length:=qNb m;subst this;rw[List.drop_length];exact hK s a _ (by simpa only[d9_]using h) D
 | spl j t f ZV ZU=>
  intro i gs s a w m h D y;simp only[linO,qAn]at m;simp only[d9_]at h;split at h
  .cases h
  .rename_i o U;split at h
   .cases h
   .rename_i d hd;split at h
    .rename_i u hu;cases u with
     | true=>
      refine ZV m.1 h D λq G=>?_
      rcases qV.1 G with rfl|G
      .exact⟨⟨o,U,hd⟩,true,hu,rfl⟩
      .exact y q G
     | false=>
      refine ZU m.2 h D λq G=>?_
      rcases qV.1 G with rfl|G
      .exact⟨⟨o,U,hd⟩,false,hu,rfl⟩
      .exact y q G
    .cases h
 | free j t ih=>
  intro i gs s a w m h D y;simp only[linO,qAn]at m;obtain rfl:=qNb m.1;simp only[d9_]at h;split at h
  .cases h
  .rename_i o U;rw[C U];obtain⟨z,g,hE,hH,ZY,Y,ZZ⟩:=D;refine wpList_step λK2 ZW=>?_
   split at h
   .rename_i J hw;rw[qY (kr_ y hE hw)];obtain⟨sv,v,up,g2,V,ZQ,ZR,hv,Z,ZT⟩:=iN_ (nx:=s.nx) ZX (hE.op hH.gl) (hH.less (H':=λ_=>none) λ_ _ e=>by cases e) h (λ_=>True);simp only at V;split at V
    .cases V
    .obtain rfl:g2=g:=ZT;split at V
     .rename_i s1 F;obtain⟨M,O⟩:=bU_ (u:=[]) F hE hH Y ZZ (λj hj=>ZY j (by simp only[nxU]at hj;omega)) (λsv' e=>by obtain rfl:=qSj e;exact hv);unfold Oper.wp;rw[Z w trivial];exact ZW _ _ (ih m.2 V M (y.after J O))
     .cases V
   .rename_i J hw;rw[qG (by rw[kr_ y hE hw];exact zn)];split at h
    .rename_i s1 F;obtain⟨M,O⟩:=bU_ (u:=[]) (x:=undef) F hE hH Y ZZ (λj hj=>ZY j (by simp only[nxU]at hj;omega)) (λ_ e=>nomatch e);exact ZW _ _ (ih m.2 h M (y.after J O))
    .cases h
   .cases h
 | alt j t rr ih ZS=>
  intro i gs s a w m h D y;cases rr with
  | nil=>
   simp only[linO,qAn]at m;obtain rfl:=qNb m.1;simp only[d9_]at h;have h1:=evO1_ok ZX ht (Q:=Q) (K:=λa' w'=>wpList P all.toArray Q (all.drop (j+1)) a' w') (λh D y _=>ih m.2 h D y) h D y;split at h1
   .cases h1
   .rename_i o U;rw[C (by simpa using U)];obtain⟨X,d,he⟩:=Ext.refl w;have h2:=h1 X d;rw[←he]at h2;exact wpList_one h2 λ_ _ h=>h
  | free _ _=>cases m
  | spl _ _ _=>cases m
  | alt _ _ _=>cases m
theorem evLin_ok(j:∀p∈eqs,aG_ P E p.1 p.2)(q:tab.OK P E){R:Type}{l:tL tI}{t:OT}{id:Nat}{b:Ba E}{s:St E}{k:St E->tO R}{r:R}{a:Act}{w:tS}{Q:Exit->Act->tS->Prop}(h:evLin P E eqs tab N l t b s k=some r)(x:Rel P E Bs F0 w0 N (s.L b) (s.H b) s.nx a w)
  (y:∀f m w',k f=some r->Rel P E Bs F0 w0 N (f.L b) (f.H b) f.nx m w'->Q .normal m w'):(Code.region id l.toArray false).wp P Q a w:=by
 unfold evLin at h;split at h
 .cases h
 .rename_i u;have:=evLin_go j q y u h x (λ_ e=>nomatch e);rw[jK]at this;exact r_list this
theorem evOrd_ok(q:∀p∈eqs,aG_ P E p.1 p.2)(M:tab.OK P E){R:Type}{l:tL tI}{p:Nat}{t:OT}{id:Nat}{b:Ba E}{s:St E}{k:St E->tO R}{r:R}{a:Act}{w:tS}{Q:Exit->Act->tS->Prop}(h:evOrd P E eqs tab N l p t b s k=some r)(V:Rel P E Bs F0 w0 N (s.L b) (s.H b) s.nx a w)
  (Y:∀m j w',k m=some r->Rel P E Bs F0 w0 N (m.L b) (m.H b) m.nx j w'->Q .normal j w'):(Code.region id l.toArray true).wp P Q a w:=by
 unfold evOrd at h;split at h
 .cases h
 .rename_i f;simp only[qAn]at f;obtain⟨hm,D,hB⟩:=f;have u:∀G w',Ext w G->Ext G w'->Ext w w':=λ_ _ h1 x=>h1.trans x
  have Z:∀z g H,HR P E Bs F0.z.F w0 w z g H->F0.z.Le z->∀w',Ext w w'->Keeps P E z g H w w':=λz g H h1 _ w' x=>Keeps.of_ext h1 x
  have C:∀i,i<p->t.frO.contains i=false:=λi hi=>by
   cases U:t.frO.contains i with
   | false=>rfl
   | true=>
    have:=qm.1 D i (jJ.1 U);have:=qq this;omega
  have y:∀i,(sfH l t).contains i=true->ko_ l i=true:=λi hi=>(List.mem_filter.1 (jJ.1 hi)).2
  refine pa_ (I:=Ext w) u _ _ _ _ hm hB (Ext.refl w) ?_;have:=fn_ (we_ q M l (sfH l t) t.frO p C w (Ext w) Z Q t) _ (tl:=l.drop p) (J:=λj w'=>w'=w->fF_ P l.toArray (sfH l t) t.frO (Ext w) Q t [] j w) h (by simp) V trivial λm j w' h1 x _ O=>by
   subst O;exact evOT_ok q M u y Y h1 x (λ_ e=>nomatch e)
  have h3:=this rfl (by rw[qj];exact jB _ _) [] λj h1=>h1 rfl
  rwa [zk]at h3
def chainWalk(G:∀p∈eqs,aG_ P E p.1 p.2)(V:tab.OK P E)(all:tL tI)(I:tS->Prop)(Q:Exit->Act->tS->Prop):Walk P E (λL H nx o _ k=>evOp P E eqs tab L H nx o k) N Bs F0 w0 all where
 W J l i a w:=∀n:Nat,(∀y w',J y w'->∀j,Ext w' j->wpO P all.toArray [] I Q (chO (i+l.length) n) false y j)->∀w',Ext w w'->wpO P all.toArray [] I Q (chO i (l.length+n)) false a w'
 nil {J i a w} M:=λn h w' hx=>by
  rw[zL,qj];exact h _ _ M w' hx
 app {J1 J l1 l2 i a w} h1 O:=λn h w' hx=>by
  rw[qLa,zW];exact h1 (l2.length+n) (λy U M j D=>O y U M n (by rw[zW,←qLa];exact h) j D) w' hx
 skip {J o l i a w} q m h1:=λn h w' hx=>by
  rw[qLc,show l.length+1+n=(l.length+n)+1 by omega];have f:all.toArray[i]? = some o:=by simpa using q
  refine⟨?_,trivial⟩;rw[f];intro X d;refine wpList_step λK s=>?_
  rw[qG (by rw[m];exact zn)];exact s _ _ ⟨λe=>(nomatch e),h1 n (by rw[show i+1+l.length=i+(o::l).length by rw[qLc];omega];exact h) _ (hx.trans ⟨X,d,rfl⟩)⟩
 step {J o l i a w R L H nx z g k r} q m hE hH Z hz hg F Y:=λn h w' hx=>by
  rw[qLc,show l.length+1+n=(l.length+n)+1 by omega];have f:all.toArray[i]? = some o:=by simpa using q
  refine⟨?_,trivial⟩;rw[f];intro X d;refine wpList_step λK s=>?_
  rw[qY m];exact evOp_ok G V Z hE (hH.ext (hx.trans ⟨X,d,rfl⟩)) F λv u x C z2 g2 h1 O h3 h4 h5 h6 h7=>s _ _ ⟨λe=>(nomatch e),Y v u x C z2 g2 h1 O h3 h4 h5 h6 h7 n (by rw[show i+1+l.length=i+(o::l).length by rw[qLc];omega];exact h) C (Ext.refl C)⟩
 pick {J o l i a w v} q m hr h1:=λn h w' hx=>by
  rw[qLc,show l.length+1+n=(l.length+n)+1 by omega];have f:all.toArray[i]? = some o:=by simpa using q
  refine⟨?_,trivial⟩;rw[f];intro X d;refine wpList_step λK s=>?_
  rw[qY m];unfold Oper.wp;rw[hr _];exact s _ _ ⟨λe=>(nomatch e),h1 n (by rw[show i+1+l.length=i+(o::l).length by rw[qLc];omega];exact h) _ (hx.trans ⟨X,d,rfl⟩)⟩
theorem evChain_ok(C:∀p∈eqs,aG_ P E p.1 p.2)(G:tab.OK P E){R:Type}{l:tL tI}{p:Nat}{id:Nat}{b:Ba E}{s:St E}{k:St E->tO R}{r:R}{a:Act}{w:tS}{Q:Exit->Act->tS->Prop}(h:evChain P E eqs tab N l p b s k=some r)(U:Rel P E Bs F0 w0 N (s.L b) (s.H b) s.nx a w)
  (V:∀q f w',k q=some r->Rel P E Bs F0 w0 N (q.L b) (q.H b) q.nx f w'->Q .normal f w'):(Code.region id l.toArray true).wp P Q a w:=by
 unfold evChain at h;split at h
 .cases h
 .rename_i j;simp only[qAn]at j;obtain⟨hm,y,Z⟩:=j;have y:=qq y;have D:∀x w',Ext w x->Ext x w'->Ext w w':=λ_ _ h1 u=>h1.trans u
  have Y:∀z g H,HR P E Bs F0.z.F w0 w z g H->F0.z.Le z->∀w',Ext w w'->Keeps P E z g H w w':=λz g H h1 _ w' u=>Keeps.of_ext h1 u
  refine pa_ (I:=Ext w) D _ _ _ _ hm Z (Ext.refl w) ?_;have:=fn_ (we_ C G l [] [] p (λ_ _=>rfl) w (Ext w) Y Q (chO p (l.length-p))) _ (tl:=l.drop p) (J:=λf w'=>w'=w->fF_ P l.toArray [] [] (Ext w) Q (chO p (l.length-p)) [] f w') h (by simp) U trivial λq f x h1 u h5 O=>by
   subst O;have h4:=fn_ (chainWalk C G l (Ext x) Q) _ (tl:=[]) (J:=λf w'=>∀m,Ext w' m->wpO P l.toArray [] (Ext x) Q (chO l.length 0) false f m) h1 (by simp) u trivial λq f w' h1 u _ m hx X d=>V q f _ h1 (u.ext (hx.trans ⟨X,d,rfl⟩))
   have M:=h4 0 (by
    rw[qk,show p+(l.length-p)=l.length by omega];exact λf w' h=>h) x (Ext.refl _)
   rw[qk,zl]at M;exact M
  have h3:=this rfl (by rw[qj];exact jB _ _) [] λf h1=>h1 rfl
  rwa [zk]at h3
end Rt
namespace Rt
open Go.RowKit
section
variable{P:tT}{E:TE}{z:Fz}{g g':Ga}{w w0:tS}{Bs:tL Nat}{F0:Nat->Prop}{N:Nat}
theorem HR.remap{H H':Nat->tO (Obj E)}(h:HR P E Bs F0 w0 w z g H)(f:Nat->Nat)(G:∀i j o p,H' i=some o->H' j=some p->f i=f j->i=j)
  (m:∀i o',H' i=some o'->∃o,H (f i)=some o/\ObjR P E z g' w i o'/\∀k,fpO g' i o' k->fpO g (f i) o k):HR P E Bs F0 w0 w z g' H':=by
 refine⟨h.chg,λi o e=>?_,λi o k e s=>?_,λi j o p k F e e' s x=>?_,h.fz,h.fz0,λi o k e s=>?_,h.gl⟩
 .obtain⟨_,_,J,_⟩:=m i o e;exact J
 .obtain⟨q,h1,_,u⟩:=m i o e;exact h.own _ q k h1 (u k s)
 .obtain⟨q,h1,_,u⟩:=m i o e;obtain⟨D,C,_,y⟩:=m j p e';exact h.apart _ _ q D k (λM=>F (G i j o p e e' M)) h1 C (u k s) (y k x)
 .obtain⟨q,h1,_,u⟩:=m i o e;exact h.fza _ q k h1 (u k s)
theorem subset_mem{l m:tL Nat}(h:subset l m=true){t:Nat}(f:t∈l):ay_ t m=true:=by
 unfold subset at h;exact qm.1 h t f
theorem disj_mem{l m:tL Nat}(h:disj l m=true){t:Nat}(f:t∈l):ay_ t m=false:=by
 unfold disj at h;simpa using qm.1 h t f
theorem ex_{t:Nat}:∀{l m:tL Nat},ay_ t (l++m)=(ay_ t l||ay_ t m)
 | [],m=>rfl
 | u::l,m=>by
  simp only[qc,ay_];cases Nat.beq t u with
  | true=>rfl
  | false=>exact ex_
theorem RC.same{A:tL Nat}{c:SC E}{v:tW}(h:RC P E z g c v)(p:∀i,ay_ i A=true->g' i=g i)(m:c.okIds A=true):RC P E z g' c v:=by
 cases c with
 | dt t x=>exact h
 | own id=>obtain⟨l,h1,j⟩:=h;exact⟨l,by rw[p id m];exact h1,j⟩
 | pre id n=>obtain⟨l,h1,j⟩:=h;exact⟨l,by rw[p id m];exact h1,j⟩
 | suf id lo=>obtain⟨l,h1,j⟩:=h;exact⟨l,by rw[p id m];exact h1,j⟩
 | nils=>exact h
 | ptr id off=>obtain⟨l,h1,j⟩:=h;exact⟨l,by rw[p id m];exact h1,j⟩
 | elo id q i off=>
  simp only[SC.okIds,qAn]at m;obtain⟨l,h1,j⟩:=h;exact⟨l,by rw[p q m.2];exact h1,j⟩
 | elf t x off=>exact h
 | fn1 a r f=>exact h
 | fn2 a b r f=>exact h
 | clo f caps=>
  obtain⟨us,h1,j⟩:=h;refine⟨us,h1,?_⟩;have:∀{caps:tL Nat} {us:tL tW},subset caps A=true->All2 (λid u=>∃l,g id=some l/\u=Value.pointer (some ⟨l.b,0,none⟩)) caps us->All2 (λid u=>∃l,g' id=some l/\u=Value.pointer (some ⟨l.b,0,none⟩)) caps us:=by
   intro caps us s hr
   induction hr with
   | nil=>exact .nil
   | cons hx _ y=>
    obtain⟨l,D,C⟩:=hx;exact .cons ⟨l,by rw[p _ (subset_mem s (qR ..))];exact D,C⟩ (y (by unfold subset at s ⊢;simp only[jQ,qAn]at s;exact s.2))
  exact this m j
 | mp id=>obtain⟨l,h1,j⟩:=h;exact⟨l,by rw[p id m];exact h1,j⟩
 | mst q=>obtain⟨l,h1,j⟩:=h;exact⟨l,by rw[p q m];exact h1,j⟩
 | nilp=>exact h
 | nif=>exact h
 | any=>exact h
 | sbp id=>obtain⟨l,h1,j⟩:=h;exact⟨l,by rw[p id m];exact h1,j⟩
 | pix id i=>obtain⟨l,h1,j⟩:=h;exact⟨l,by rw[p id m];exact h1,j⟩
 | efx t x i=>exact h
theorem RCs.same{A:tL Nat}(m:∀i,ay_ i A=true->g' i=g i){l:tL (SC E)}{vs:tL tW}(h:All2 (RC P E z g) l vs):(l.all λc=>c.okIds A)=true->All2 (RC P E z g') l vs:=by
 induction h with
 | nil=>intro _;exact .nil
 | cons hx _ j=>
  intro f;simp only[jQ,qAn]at f;exact .cons (hx.same m f.1) (j f.2)
theorem R1.same{A:tL Nat}{x:V1 E}{v:tW}(h:R1 P E z g x v)(j:∀i,ay_ i A=true->g' i=g i)(f:x.okIds A=true):R1 P E z g' x v:=by
 cases x with
 | one c=>exact RC.same h j f
 | agg l=>obtain⟨vs,h1,m⟩:=h;exact⟨vs,h1,RCs.same j m f⟩
theorem RV.same{A:tL Nat}{x:SV E}{v:tW}(h:RV P E z g x v)(m:∀i,ay_ i A=true->g' i=g i)(j:x.okIds A=true):RV P E z g' x v:=by
 cases x with
 | v x=>exact R1.same h m j
 | tup l=>
  obtain⟨vs,h1,q⟩:=h;refine⟨vs,h1,?_⟩;have:∀{l:tL (V1 E)} {vs:tL tW},(l.all λc=>c.okIds A)=true->All2 (R1 P E z g) l vs->All2 (R1 P E z g') l vs:=by
   intro l vs f hr
   induction hr with
   | nil=>exact .nil
   | cons hx _ p=>
    simp only[jQ,qAn]at f;exact .cons (hx.same m f.1) (p f.2)
  exact this j q
theorem fpO_same{i i':Nat}{o:Obj E}{k:Nat}(f:g' i'=g i):fpO g' i' o k↔fpO g i o k:=by
 cases o<;>simp[fpO,f]
theorem ObjR.same{A:tL Nat}{i:Nat}{o:Obj E}(h:ObjR P E z g w i o)(s:∀i,ay_ i A=true->g' i=g i)(hi:g' i=g i)(q:o.okIds A=true):ObjR P E z g' w i o:=by
 cases o with
 | box T cs=>obtain⟨l,vs,h1,f,m⟩:=h;exact⟨l,vs,by rw[hi];exact h1,f,RCs.same s m q⟩
 | row e t xs foc=>
  obtain⟨l,rows,h1,f,m,C,y,u,M,J⟩:=h;refine⟨l,rows,by rw[hi];exact h1,f,m,C,y,u,M,λp j=>?_⟩;obtain⟨G,lq,o,F,D⟩:=J p j;exact⟨G,lq,o,by rw[s p.1 (qm.1 q p j)];exact F,D⟩
 | fr t xs=>obtain⟨l,rows,h1,f⟩:=h;exact⟨l,rows,by rw[hi];exact h1,f⟩
 | fb t x=>obtain⟨l,r,h1,f⟩:=h;exact⟨l,r,by rw[hi];exact h1,f⟩
 | map T k v ks vs foc=>
  obtain⟨l,es,c,h1,f,m,C⟩:=h;refine⟨l,es,c,by rw[hi];exact h1,f,m,λp j=>?_⟩;obtain⟨lq,i,e,y,u⟩:=C p j;exact⟨lq,i,e,by rw[s p.1 (qm.1 q p j)];exact y,u⟩
def Bd.Le(a b:Bd):Prop:=∀j id,aF_ j a=some id->aF_ j b=some id
theorem Bd.Le.refl(a:Bd):Bd.Le a a:=λ_ _ h=>h
theorem Bd.Le.trans{a b c:Bd}(h:Bd.Le a b)(k:Bd.Le b c):Bd.Le a c:=λj id e=>k j id (h j id e)
theorem fQ_{j id:Nat}{a b:Bd}(h:addB j id a=some b):Bd.Le a b/\aF_ j b=some id:=by
 unfold addB at h;split at h
 .rename_i id' f;split at h
  .rename_i m;obtain rfl:=qNb m;obtain rfl:=qSj h;exact⟨Bd.Le.refl _,f⟩
  .cases h
 .rename_i f;obtain rfl:=qSj h;refine⟨λp id' e=>?_,?_⟩
  .simp only[aF_];split
   .rename_i m;obtain rfl:=qNb m;rw[f]at e;cases e
   .exact e
  .simp only[aF_];have:Nat.beq j j=true:=by simp
   rw[this]
def Bound(g g':Ga)(bs:Bd):Prop:=∀j id,aF_ j bs=some id->g' j=g id
theorem dt_:∀{ps:tL CP} {cs:tL (SC E)} {a b:Bd},aU_ ps cs a=some b->Bd.Le a b
 | [],cs,a,b,h=>by
  cases cs with
  | nil=>obtain rfl:=qSj h;exact Bd.Le.refl _
  | cons c cs=>simp[aU_]at h
 | p::ps,cs,a,b,h=>by
  unfold aU_ at h;split at h
  .rename_i hx;cases hx
  .rename_i hx;cases hx;exact dt_ h
  .rename_i hx;cases hx
   split at h
   .rename_i f;exact(fQ_ f).1.trans (dt_ h)
   .cases h
  .rename_i hx;cases hx
   split at h
   .rename_i f;exact(fQ_ f).1.trans (dt_ h)
   .cases h
  .rename_i hx;cases hx
   split at h
   .rename_i f;exact(fQ_ f).1.trans (dt_ h)
   .cases h
  .rename_i hx;cases hx
   split at h
   .rename_i f;exact(fQ_ f).1.trans (dt_ h)
   .cases h
  .cases h
theorem leafC_v{H:Nat->tO (Obj E)}{t:Ty}{ps:tL CP}{c:SC E}{cs:tL (SC E)}{h:HL E.S (cpT (.v t::ps))}(e:dj_ H (.v t::ps) (c::cs)=some h):c.data H t=some h.1/\dj_ H ps cs=some h.2:=
 v9_ e
theorem leafC_own{H:Nat->tO (Obj E)}{j:Nat}{ps:tL CP}{c:SC E}{cs:tL (SC E)}{h:HL E.S (cpT ps)}(e:dj_ H (.own j::ps) (c::cs)=some h):dj_ H ps cs=some h:=e
theorem leafC_ptr{H:Nat->tO (Obj E)}{j:Nat}{ps:tL CP}{c:SC E}{cs:tL (SC E)}{h:HL E.S (cpT ps)}(e:dj_ H (.ptr j::ps) (c::cs)=some h):dj_ H ps cs=some h:=e
theorem bindC_own{j:Nat}{ps:tL CP}{c:SC E}{cs:tL (SC E)}{a b:Bd}(e:aU_ (.own j::ps) (c::cs) a=some b):∃id f,c = .own id/\addB j id a=some f/\aU_ ps cs f=some b:=by
 cases c with
 | own id=>
  simp only[aU_]at e;split at e
  .rename_i f h;exact⟨id,f,rfl,h,e⟩
  .cases e
 | _=>simp[aU_]at e
theorem bindC_ptr{j:Nat}{ps:tL CP}{c:SC E}{cs:tL (SC E)}{a b:Bd}(e:aU_ (.ptr j::ps) (c::cs) a=some b):∃id f,c = .ptr id 0/\addB j id a=some f/\aU_ ps cs f=some b:=by
 cases c with
 | ptr id off=>
  cases off with
  | zero=>
   simp only[aU_]at e;split at e
   .rename_i f h;exact⟨id,f,rfl,h,e⟩
   .cases e
  | succ n=>simp[aU_]at e
 | _=>simp[aU_]at e
theorem leafC_mp{H:Nat->tO (Obj E)}{j:Nat}{ps:tL CP}{c:SC E}{cs:tL (SC E)}{h:HL E.S (cpT ps)}(e:dj_ H (.mp j::ps) (c::cs)=some h):dj_ H ps cs=some h:=e
theorem bindC_mp{j:Nat}{ps:tL CP}{c:SC E}{cs:tL (SC E)}{a b:Bd}(e:aU_ (.mp j::ps) (c::cs) a=some b):∃id f,c = .mp id/\addB j id a=some f/\aU_ ps cs f=some b:=by
 cases c with
 | mp id=>
  simp only[aU_]at e;split at e
  .rename_i f h;exact⟨id,f,rfl,h,e⟩
  .cases e
 | _=>simp[aU_]at e
theorem leafC_sbp{H:Nat->tO (Obj E)}{j:Nat}{ps:tL CP}{c:SC E}{cs:tL (SC E)}{h:HL E.S (cpT ps)}(e:dj_ H (.sbp j::ps) (c::cs)=some h):dj_ H ps cs=some h:=e
theorem bindC_sbp{j:Nat}{ps:tL CP}{c:SC E}{cs:tL (SC E)}{a b:Bd}(e:aU_ (.sbp j::ps) (c::cs) a=some b):∃id f,c = .sbp id/\addB j id a=some f/\aU_ ps cs f=some b:=by
 cases c with
 | sbp id=>
  simp only[aU_]at e;split at e
  .rename_i f h;exact⟨id,f,rfl,h,e⟩
  .cases e
 | _=>simp[aU_]at e
theorem bindC_v{t:Ty}{ps:tL CP}{c:SC E}{cs:tL (SC E)}{a b:Bd}(e:aU_ (.v t::ps) (c::cs) a=some b):aU_ ps cs a=some b:=e
theorem bindC_cons{p:CP}{ps:tL CP}{cs:tL (SC E)}{a b:Bd}(e:aU_ (p::ps) cs a=some b):∃c cs',cs=c::cs':=by
 cases cs with
 | nil=>cases p<;>simp[aU_]at e
 | cons c cs=>exact⟨c,cs,rfl⟩
theorem qs_{H:Nat->tO (Obj E)}(U:HR P E Bs F0 w0 w z g H){bs:Bd}(G:Bound g g' bs):∀(ps:tL CP) (cs:tL (SC E)) (a b:Bd) (h:HL E.S (cpT ps)) (vs:tL tW),aU_ ps cs a=some b->Bd.Le b bs->dj_ H ps cs=some h->All2 (RC P E z g) cs vs->All2 (RC P E z g') (newC ps h) vs:=by
 intro ps
 induction ps with
 | nil=>
  intro cs a b h vs h1 _ _ J;cases cs with
  | nil=>cases J;exact .nil
  | cons c cs=>simp[aU_]at h1
 | cons p ps D=>
  intro cs a b h vs h1 q F J;obtain⟨c,cs,rfl⟩:=bindC_cons h1;obtain⟨v,vs,rfl,hx,hr⟩:∃v vs',vs=v::vs'/\RC P E z g c v/\All2 (RC P E z g) cs vs':=by
   cases J with|cons hx hr=>exact⟨_,_,rfl,hx,hr⟩
  cases p with
  | v t=>
   obtain⟨O,M⟩:=leafC_v F;have m:=D cs a b h.2 vs (bindC_v h1) q M hr;have f:RC P E z g' (.dt t h.1) v:=SC.data_ok (w:=w) U O hx;show All2 _ (SC.dt t h.1::newC ps h.2) _;exact All2.cons f m
  | own j=>
   obtain⟨id,C,rfl,u,h1⟩:=bindC_own h1;have m:=D cs C b h vs h1 q (leafC_own F) hr;obtain⟨l,f,y⟩:=hx;have s:=G j id (q _ _ (dt_ h1 _ _ (fQ_ u).2));have x:RC P E z g' (.own j) v:=⟨l,by rw[s];exact f,y⟩;show All2 _ (SC.own j::newC ps h) _;exact All2.cons x m
  | ptr j=>
   obtain⟨id,C,rfl,u,h1⟩:=bindC_ptr h1;have m:=D cs C b h vs h1 q (leafC_ptr F) hr;obtain⟨l,f,y⟩:=hx;have s:=G j id (q _ _ (dt_ h1 _ _ (fQ_ u).2));have x:RC P E z g' (.ptr j 0) v:=⟨l,by rw[s];exact f,y⟩;show All2 _ (SC.ptr j 0::newC ps h) _;exact All2.cons x m
  | mp j=>
   obtain⟨id,C,rfl,u,h1⟩:=bindC_mp h1;have m:=D cs C b h vs h1 q (leafC_mp F) hr;obtain⟨l,f,y⟩:=hx;have s:=G j id (q _ _ (dt_ h1 _ _ (fQ_ u).2));have x:RC P E z g' (.mp j) v:=⟨l,by rw[s];exact f,y⟩;show All2 _ (SC.mp j::newC ps h) _;exact All2.cons x m
  | sbp j=>
   obtain⟨id,C,rfl,u,h1⟩:=bindC_sbp h1;have m:=D cs C b h vs h1 q (leafC_sbp F) hr;obtain⟨l,f,y⟩:=hx;have s:=G j id (q _ _ (dt_ h1 _ _ (fQ_ u).2));have x:RC P E z g' (.sbp j) v:=⟨l,by rw[s];exact f,y⟩;show All2 _ (SC.sbp j::newC ps h) _;exact All2.cons x m
theorem mP_{S:Nat->Type}:∀(ts us:tL Ty) (a:HL S ts) (b:HL S us),ft_ ts us (hap a b)=a
 | [],_,_,_=>rfl
 | _::ts,us,(x,a),b=>by
  show(x,ft_ ts us (hap a b))=_;rw[mP_ ts us a b]
theorem mQ_{S:Nat->Type}:∀(ts us:tL Ty) (a:HL S ts) (b:HL S us),hsnd ts us (hap a b)=b
 | [],_,_,_=>rfl
 | _::ts,us,a,b=>mQ_ ts us a.2 b
theorem qt_{L:Nat->tO (SV E)}:∀{l:tL (Nat×VP)} {a b:Bd},gf_ L l a=some b->Bd.Le a b
 | [],a,b,h=>by obtain rfl:=qSj h;exact Bd.Le.refl _
 | (t,.d _)::l,a,b,h=>qt_ (l:=l) h
 | (t,.one p)::l,a,b,h=>by
  simp only[gf_]at h;split at h
  .split at h
   .rename_i f;exact(dt_ f).trans (qt_ h)
   .cases h
  .cases h
 | (t,.agg ps)::l,a,b,h=>by
  simp only[gf_]at h;split at h
  .split at h
   .rename_i f;exact(dt_ f).trans (qt_ h)
   .cases h
  .cases h
theorem newV_ok{H:Nat->tO (Obj E)}(u:HR P E Bs F0 w0 w z g H){bs:Bd}(G:Bound g g' bs){p:VP}{x q:V1 E}{h:HL E.S p.T}{a b:Bd}{v:tW}
  (U:∀c,p = .one c->∃y,x = .one y/\aU_ [c] [y] a=some b) (M:∀ps,p = .agg ps->∃y,x = .agg y/\aU_ ps y a=some b) (J:Bd.Le b bs) (F:leafV H p x=some h) (D:newV p h=some q) (s:R1 P E z g x v):R1 P E z g' q v:=by
 cases p with
 | d ty=>
  have O:takeD E H ty x=some h.1:=ma_ F;obtain⟨y,j,f⟩:=o7_ (qe_ u O s) g';have m:asV E ty (E.cells ty h.1)=some q:=D;rw[j]at m;obtain rfl:=qSj m;exact f
 | one c=>
  obtain⟨y,rfl,m⟩:=U c rfl;have j:=qs_ u G [c] [y] a b h [v] m J F (.cons s .nil);have f:ones (newC [c] h)=some q:=D;generalize newC [c] h=l at j f;cases j with
  | cons C V=>
   cases V
   obtain rfl:=qSj f;exact C
 | agg ps=>
  obtain⟨y,rfl,m⟩:=M ps rfl;obtain⟨vs,rfl,C⟩:=s;have j:=qs_ u G ps y a b h vs m J F C;have f:some (V1.agg (newC ps h))=some q:=D;obtain rfl:=qSj f;exact⟨vs,rfl,j⟩
theorem bindS_cons{L:Nat->tO (SV E)}{t:Nat}{p:VP}{l:tL (Nat×VP)}{a b:Bd}{x:V1 E}(hx:L t=some (.v x))(h:gf_ L ((t,p)::l) a=some b) :
  ∃m,gf_ L l m=some b/\(∀c,p = .one c->∃y,x = .one y/\aU_ [c] [y] a=some m)/\∀ps,p = .agg ps->∃y,x = .agg y/\aU_ ps y a=some m:=by
 cases p with
 | d ty=>exact⟨a,h,(λ_ e=>nomatch e),λ_ e=>nomatch e⟩
 | one c=>
  unfold gf_ at h;rw[hx]at h;cases x with
  | agg y=>cases h
  | one y=>
   cases f:aU_ [c] [y] a with
   | none=>simp only[f]at h;cases h
   | some j=>
    simp only[f]at h;exact⟨j,h,(λq e=>by injection e with e;subst e;exact⟨y,rfl,f⟩),λ_ e=>nomatch e⟩
 | agg ps=>
  unfold gf_ at h;rw[hx]at h;cases x with
  | one y=>cases h
  | agg y=>
   cases f:aU_ ps y a with
   | none=>simp only[f]at h;cases h
   | some j=>
    simp only[f]at h;exact⟨j,h,(λ_ e=>nomatch e),λq e=>by injection e with e;subst e;exact⟨y,rfl,f⟩⟩
theorem leafS_cons{L:Nat->tO (SV E)}{H:Nat->tO (Obj E)}{t:Nat}{p:VP}{l:tL (Nat×VP)}{h:HL E.S (eV_ ((t,p)::l))}(e:leafS L H ((t,p)::l)=some h) :
  ∃x h1 f,L t=some (.v x)/\leafV H p x=some h1/\leafS L H l=some f/\h=hap h1 f:=by
 unfold leafS at e;cases hx:L t with
 | none=>rw[hx]at e;cases e
 | some sv=>
  cases sv with
  | tup q=>rw[hx]at e;cases e
  | v x=>
   rw[hx]at e;obtain⟨a,b,h1,f,j⟩:=sa_ e;exact⟨x,a,b,rfl,h1,f,j⟩
theorem newS_cons{t:Nat}{p:VP}{l:tL (Nat×VP)}{h1:HL E.S p.T}{f:HL E.S (eV_ l)}{env:tL (Nat×tO (SV E))}(e:newS ((t,p)::l) (hap h1 f)=some env) :
  ∃x env',newV p h1=some x/\newS l f=some env'/\env=(t,some (.v x))::env':=by
 have e':slotO t (newV p (ft_ p.T (eV_ l) (hap h1 f))) (newS l (hsnd p.T (eV_ l) (hap h1 f)))=some env:=e;rw[mP_,mQ_]at e';cases hx:newV p h1 with
 | none=>rw[hx]at e';cases e'
 | some x=>
  cases h:newS l f with
  | none=>rw[hx,h]at e';cases e'
  | some env'=>
   rw[hx,h]at e';exact⟨x,env',rfl,rfl,(qSj e').symm⟩
theorem slots_meet{H:Nat->tO (Obj E)}{L:Nat->tO (SV E)}(Y:HR P E Bs F0 w0 w z g H){bs:Bd}(Z:Bound g g' bs):∀(l:tL (Nat×VP)) (a b:Bd) (h:HL E.S (eV_ l)) (env:tL (Nat×tO (SV E))),gf_ L l a=some b->Bd.Le b bs->leafS L H l=some h->newS l h=some env ->
  ∀t o,aF_ t env=some o->∃sv s0,o=some sv/\L t=some s0/\∀v,RV P E z g s0 v->RV P E z g' sv v:=by
 intro l
 induction l with
 | nil=>
  intro a b h env _ _ _ C t o f;have h6:some []=some env:=C;obtain rfl:=qSj h6;cases f
 | cons q l M=>
  obtain⟨t,p⟩:=q;intro a b h env h1 F h3 C J o f;obtain⟨x,y1,G,hx,u,s,rfl⟩:=leafS_cons h3;obtain⟨x',env',m,j,rfl⟩:=newS_cons C;obtain⟨a',D,V,U⟩:=bindS_cons hx h1;simp only[aF_]at f;split at f
  .rename_i y;obtain rfl:=qNb y;obtain rfl:=qSj f;exact⟨_,_,rfl,hx,λv O=>newV_ok Y Z V U ((qt_ D).trans F) u m O⟩
  .exact M a' b G env' D F s j J o f
theorem focK_ok{L:Nat->tO (SV E)}{R:Type}{t:Ty}{xs:tL (Den E.S t)}{r:R}:∀{fs:tL (Nat×Nat)} {k:tL (Nat×Int×Den E.S t)->tO R},focK L xs fs k=some r ->
  ∃l,k l=some r/\∀p∈l,∃sl id off,(p.1,sl)∈fs/\L sl=some (.v (.one (.elo id p.1 p.2.1 off)))/\ah_ xs p.2.1=some p.2.2
 | [],k,h=>⟨[],h,λ_ f=>nomatch f⟩
 | (q,sl)::fs,k,h=>by
  unfold focK at h;split at h
  .rename_i id C i off hL;split at h
   .rename_i m;obtain rfl:=qNb m;obtain⟨y,j,h⟩:=bind_some h;obtain⟨l,h1,x⟩:=focK_ok h;refine⟨_,h1,λp f=>?_⟩;rcases qV.1 f with rfl|f
    .exact⟨sl,id,off,qR ..,hL,j⟩
    .obtain⟨sl',id',off',u,s⟩:=x p f;exact⟨sl',id',off',qL _ u,s⟩
   .cases h
  .cases h
def focB(o:Obj E)(keep gkeep:tL Nat)(fs:tL (Nat×Nat)):tV:=match o with|.row _ _ _ foc=>fs.all λf=>(foc.any λp=>Nat.beq p.1 f.1)&&(ay_ f.2 keep&&ay_ f.1 gkeep)|_=>false
theorem obj_meet{H:Nat->tO (Obj E)}{L:Nat->tO (SV E)}{R:Type}{k:Obj E->tO R}{r:R}(hH:HR P E Bs F0 w0 w z g H){bs:Bd}(hB:Bound g g' bs){keep gkeep:tL Nat}(ZT:∀i,ay_ i gkeep=true->g' i=g i)
  (hk:∀sl id q i off,ay_ sl keep=true->L sl=some (.v (.one (.elo id q i off)))->∃l,g q=some l/\l.ix=i) {p:OP} {o:Obj E} {h:HL E.S p.T} {i id:Nat} (hi:g' i=g id) (h1:leafO H p o=some h) (h2:newO L p h k=some r)
  (hf:∀e t fs,p = .row e t fs->focB o keep gkeep fs=true) (hc:∀T ps,p = .cells T ps->∀T' cs,o = .box T' cs->∃a b,aU_ ps cs a=some b/\Bd.Le b bs) :
  ∃o',k o'=some r/\(ObjR P E z g w id o->ObjR P E z g' w i o')/\∀q,fpO g' i o' q->fpO g id o q:=by
 cases p with
 | box T t=>
  cases o with
  | box T' cs=>
   obtain⟨M,f⟩:=c3_ (show ef_ (Nat.beq T T') (unitO ((bP_ E H (E.flat t) cs).map (E.ufl t)))=some h from h1);obtain rfl:=qNb M;have u:=ma_ f;cases hd:bP_ E H (E.flat t) cs with
   | none=>rw[hd]at u;cases u
   | some d=>
    rw[hd]at u;have U:E.ufl t d=h.1:=qSj u;refine⟨_,h2,λC=>?_,λq s=>?_⟩
    .obtain⟨l,vs,m,j,G⟩:=C;refine⟨l,vs,by rw[hi];exact m,j,?_⟩;have h8:=ds_ hH hd G;have h9:d=E.fl t h.1:=by rw[←U,E.fl_ufl]
     rw[h9]at h8;exact cells_rd.1 h8
    .obtain⟨l,m,j⟩:=s;exact⟨l,by rw[←hi];exact m,j⟩
  | _=>simp[leafO]at h1
 | cells T ps=>
  cases o with
  | box T' cs=>
   obtain⟨a,b,u,U⟩:=hc T ps rfl T' cs rfl;obtain⟨M,f⟩:=c3_ (show ef_ (Nat.beq T T') (dj_ H ps cs)=some h from h1);obtain rfl:=qNb M;refine⟨_,h2,λC=>?_,λq s=>?_⟩
   .obtain⟨l,vs,m,j,G⟩:=C;exact⟨l,vs,by rw[hi];exact m,j,qs_ hH hB ps cs a b h vs u U f G⟩
   .obtain⟨l,m,j⟩:=s;exact⟨l,by rw[←hi];exact m,j⟩
  | _=>simp[leafO]at h1
 | row e t fs=>
  cases o with
  | row e' t' xs foc=>
   obtain⟨he,f⟩:=c3_ (show ef_ (Nat.beq e e') (unitO (castO t xs))=some h from h1);obtain rfl:=qNb he;obtain⟨ht,x⟩:=qk_ (ma_ f);subst ht;have x:h.1=xs:=x;obtain⟨l,u,U⟩:=focK_ok (show focK L h.1 fs (λl=>k (.row e t' h.1 l))=some r from h2);refine⟨_,u,λC=>?_,λq s=>?_⟩
   .obtain⟨lo,rows,m,hn,ZR,j,G,h8,O,ZK⟩:=C;rw[←x]at hn O;refine⟨lo,rows,by rw[hi];exact m,hn,ZR,j,G,h8,O,λp hp=>?_⟩;obtain⟨sl,id',off,ZL,ZM,ZN⟩:=U p hp;refine⟨ZN,?_⟩;have ZS:=hf e t' fs rfl;have J:=qm.1 ZS _ ZL;simp only[qAn,zy]at J;obtain⟨⟨p0,ZW,hb⟩,F,ZV⟩:=J;have s:=qNb hb;obtain⟨_,lq,oo,Z,ZO,ZP,ZQ⟩:=ZK p0 ZW;obtain⟨l2,Y,V⟩:=hk _ _ _ _ _ F ZM;rw[s,Y]at Z;obtain rfl:=qSj Z;have ZU:p0.2.1=p.2.1:=by rw[←ZQ,V]
    exact⟨l2,oo,by rw[ZT _ ZV];exact Y,ZO,by rw[←ZU];exact ZP,V⟩
   .obtain⟨l,a,m,j⟩:=s;exact⟨l,a,by rw[←hi];exact m,j⟩
  | _=>simp[leafO]at h1
 | map T kt vt=>
  cases o with
  | map T' kt' vt' ks vs foc=>
   obtain⟨M,f⟩:=c3_ (show ef_ (Nat.beq T T') (pairO (castO kt ks) (unitO (castO vt vs)))=some h from h1);obtain rfl:=qNb M;obtain⟨F,ZZ⟩:=v9_ f;obtain⟨ZX,D⟩:=qk_ F;obtain⟨ZY,y⟩:=qk_ (ma_ ZZ);subst ZX;subst ZY;have D:h.1=ks:=D;have y:h.2.1=vs:=y;refine⟨_,h2,λC=>?_,λq s=>?_⟩
   .obtain⟨l,es,c,m,j,G,_⟩:=C;refine⟨l,es,c,by rw[hi];exact m,j,?_,λp hp=>nomatch hp⟩;rw[D,y];exact G
   .obtain⟨l,m,j⟩:=s;exact⟨l,by rw[←hi];exact m,j⟩
  | _=>simp[leafO]at h1
theorem wg_{H:Nat->tO (Obj E)}{j:Nat}{sf:tV}{p:OP}{l:tL (Nat×tV×OP)}{a b:Bd}(h:jm_ H ((j,sf,p)::l) a=some b) :
  ∃f a2,Bd.Le a f/\Bd.Le f a2/\(sf=true->aF_ j f=some j)/\jm_ H l a2=some b/\∀T ps,p = .cells T ps->∃id T' cs,aF_ j f=some id/\H id=some (.box T' cs)/\aU_ ps cs f=some a2:=by
 have first:∃f,selfB sf j a=some f/\Bd.Le a f/\(sf=true->aF_ j f=some j):=by
  cases sf with
  | false=>exact⟨a,rfl,Bd.Le.refl a,λe=>nomatch e⟩
  | true=>
   cases s:addB j j a with
   | none=>
    unfold jm_ selfB at h;simp only[s]at h;cases h
   | some f=>exact⟨f,s,(fQ_ s).1,λ_=>(fQ_ s).2⟩
 obtain⟨f,h1,x,u⟩:=first;unfold jm_ at h;rw[h1]at h;simp only at h;cases p with
 | box T t=>exact⟨f,f,x,Bd.Le.refl f,u,h,λ_ _ e=>nomatch e⟩
 | row e t fs=>exact⟨f,f,x,Bd.Le.refl f,u,h,λ_ _ e=>nomatch e⟩
 | map T k v=>exact⟨f,f,x,Bd.Le.refl f,u,h,λ_ _ e=>nomatch e⟩
 | cells T ps=>
  simp only at h;cases y:aF_ j f with
  | none=>simp only[y]at h;cases h
  | some id=>
   simp only[y]at h;cases m:H id with
   | none=>simp only[m]at h;cases h
   | some o=>
    cases o with
    | box T' cs=>
     simp only[m]at h;cases q:aU_ ps cs f with
     | none=>simp only[q]at h;cases h
     | some a2=>
      simp only[q]at h;exact⟨f,a2,x,dt_ q,u,h,λT2 C e=>by injection e with F D;subst D;exact⟨id,T',cs,y,m,q⟩⟩
    | _=>simp only[m]at h;cases h
theorem qu_{H:Nat->tO (Obj E)}:∀{l:tL (Nat×tV×OP)} {a b:Bd},jm_ H l a=some b->Bd.Le a b/\∀j,j∈selfs l->aF_ j b=some j
 | [],a,b,h=>by obtain rfl:=qSj h;exact⟨Bd.Le.refl _,λ_ s=>nomatch s⟩
 | (j,sf,p)::l,a,b,h=>by
  obtain⟨y,a2,h1,q,x,u,_⟩:=wg_ h;obtain⟨m,f⟩:=qu_ u;refine⟨(h1.trans q).trans m,λi hi=>?_⟩;cases sf with
  | false=>exact f i hi
  | true=>
   rcases qV.1 hi with rfl|hi
   .exact(q.trans m) _ _ (x rfl)
   .exact f i hi
theorem leafOs_cons{H:Nat->tO (Obj E)}{bs:Bd}{j:Nat}{sf:tV}{p:OP}{l:tL (Nat×tV×OP)}{h:HL E.S (iv_ ((j,sf,p)::l))}(e:mO_ H bs ((j,sf,p)::l)=some h) :
  ∃id o h1 f,aF_ j bs=some id/\H id=some o/\leafO H p o=some h1/\mO_ H bs l=some f/\h=hap h1 f:=by
 unfold mO_ at e;cases q:aF_ j bs with
 | none=>rw[q]at e;cases e
 | some id=>
  rw[q]at e;cases m:H id with
  | none=>simp only[m]at e;cases e
  | some o=>
   simp only[m]at e;obtain⟨a,b,h1,f,s⟩:=sa_ e;exact⟨id,o,a,b,rfl,m,h1,f,s⟩
theorem objs_meet{H:Nat->tO (Obj E)}{L:Nat->tO (SV E)}{R:Type}{r:R}(hH:HR P E Bs F0 w0 w z g H){bs:Bd}(hB:Bound g g' bs){keep gkeep:tL Nat}(V:∀i,ay_ i gkeep=true->g' i=g i)
  (hk:∀sl id q i off,ay_ sl keep=true->L sl=some (.v (.one (.elo id q i off)))->∃l,g q=some l/\l.ix=i):∀(l:tL (Nat×tV×OP)) (a b:Bd) (h:HL E.S (iv_ l)) (k:Chs E->tO R),
  jm_ H l a=some b->Bd.Le b bs->mO_ H bs l=some h->focOK H bs keep gkeep l=true->newOs L l h k=some r ->
  ∃u,k u=some r/\∀i o',(i,o')∈u->∃id o p,aF_ i bs=some id/\H id=some o/\o'=some p/\(ObjR P E z g w id o->ObjR P E z g' w i p)/\∀q,fpO g' i p q->fpO g id o q:=by
 intro l
 induction l with
 | nil=>intro a b h k _ _ _ _ h5;exact⟨[],h5,λ_ _ hm=>nomatch hm⟩
 | cons q l ih=>
  obtain⟨j,sf,p⟩:=q;intro a b h k h1 h2 h3 D h5;obtain⟨id,o,y1,J,G,M,U,O,rfl⟩:=leafOs_cons h3;obtain⟨a1,a2,ZX,Z,_,hb,y⟩:=wg_ h1;have h6:newO L p (ft_ p.T (iv_ l) (hap y1 J)) (λo=>newOs L l (hsnd p.T (iv_ l) (hap y1 J)) λu=>k ((j,some o)::u))=some r:=h5;rw[mP_,mQ_]at h6;have s:focOK H bs keep gkeep l=true/\∀e t fs,p = .row e t fs->focB o keep gkeep fs=true:=by
   cases p with
   | row e t fs=>
    unfold focOK at D;simp only[G,M,qAn]at D;refine⟨D.2,λe2 t2 ZW x=>?_⟩;injection x with _ _ x;subst x;unfold focB;cases o<;>first|exact D.1|cases D.1
   | _=>exact⟨D,λ_ _ _ x=>nomatch x⟩
  have m:Bd.Le a2 bs:=(qu_ hb).1.trans h2;obtain⟨o',h7,h8,h9⟩:=obj_meet hH hB V hk (hB j id G) U h6 s.2 λT ps hp T' cs Y=>by
   obtain⟨ZY,T2,ZV,C,f,ZZ⟩:=y T ps hp;have F:=m _ _ (Z _ _ C);rw[G]at F;obtain rfl:=qSj F;rw[M,Y]at f;injection f with f;injection f with _ f;subst f;exact⟨a1,a2,ZZ,m⟩
  obtain⟨u,C,f⟩:=ih a2 b J _ hb h2 O s.1 h7;refine⟨_,C,λi o2 hm=>?_⟩;rcases qV.1 hm with x|hm
  .injection x with e1 e2;subst e1;subst e2;exact⟨id,o,o',G,M,rfl,h8,h9⟩
  .exact f i o2 hm
theorem St.L_cons{b:Ba E}{s:St E}{t f:Nat}{v:tO (SV E)}:St.L b { s with env:=(t,v)::s.env } f=if f=t then v else s.L b f:=by
 unfold St.L;simp only[aF_];by_cases h:f=t
 .subst h;have:Nat.beq f f=true:=by simp
  rw[this,qY rfl]
 .have:Nat.beq f t=false:=by
   cases j:Nat.beq f t with
   | false=>rfl
   | true=>exact absurd (qNb j) h
  rw[this,qG h]
theorem prepS_ok{F0:Org}{b:Ba E}{s:St E}{objs:tL (Nat×tV×OP)}{p:Nat×VP}{a:Act}(h:Rel P E Bs F0 w0 N (s.L b) (s.H b) s.nx a w):Rel P E Bs F0 w0 N ((prepS b s objs p).L b) ((prepS b s objs p).H b) (prepS b s objs p).nx a w:=by
 unfold prepS;split
 .rename_i t j;split
  .rename_i e ty hL ZR;obtain⟨z,g,f,V,G,y,F⟩:=h;refine⟨z,g.put s.nx ⟨none,0,0,E.size ty,0,0⟩,⟨f.size,f.defers,λM u hu=>?_⟩,?_,G.put _,y,F.trans (Ga.le_put G.self)⟩
   .have D:(if M=t then some (SV.v (.one (.own s.nx)))else s.L b M)=some u:=by rw[←hu];exact(St.L_cons (s:={ s with heap:=(s.nx,some (.row e ty [] []))::s.heap,nx:=s.nx+1 })).symm
    split at D
    .rename_i ht;subst ht;obtain rfl:=qSj D;obtain⟨v,h1,J⟩:=f.get _ _ hL;have h3:v = .slice none 0 0:=J;exact⟨v,h1,_,Ga.put_self _ _ _,h3⟩
    .obtain⟨v,h1,J⟩:=f.get _ _ D;exact⟨v,h1,J.le (Fz.Le.refl z) (Ga.le_put G.self)⟩
   .have:=V.row_new (e:=e) (t:=ty) (xs:=[]) (A:=none) (cap:=0) (n:=0) (rows:=[]) G (Ext.refl w) rfl ⟨by simp,.inl ⟨rfl,rfl⟩⟩ rfl (λi x r h1 _=>by simp at h1) (λq ⟨a,ha,_⟩=>nomatch ha);exact this
  .rename_i id n hL;split
   .rename_i e ty xs foc hi;obtain⟨z,g,f,V,G,y,F⟩:=h;obtain⟨v,ZT,l,h1,ZS,ZU⟩:=f.get _ _ hL;obtain⟨l2,rows,h3,hn,hc,ZW,ZV,ZX,ZY,_⟩:=V.hold _ _ hi;rw[h1]at h3;obtain rfl:=qSj h3;have U:=t0_ ZW ZV ZX ZS;rw[hc]at U ZX;have Z:(xs.take n.toNat).length=n.toNat:=by rw[qX];omega
    have O:=fp_ ZY 0 n.toNat;simp only[jK]at O;refine⟨z,g.put s.nx ⟨l.A,(xs.take n.toNat).length,l.cap,E.size ty,0,0⟩,⟨f.size,f.defers,λM u hu=>?_⟩,?_,G.put _,y,F.trans (Ga.le_put G.self)⟩
    .have D:(if M=t then some (SV.v (.one (.own s.nx)))else s.L b M)=some u:=by rw[←hu];exact(St.L_cons (s:={ s with heap:=(s.nx,some (.row e ty (xs.take n.toNat) []))::(id,none)::s.heap,nx:=s.nx+1 })).symm
     split at D
     .rename_i ht;subst ht;obtain rfl:=qSj D;exact⟨v,ZT,_,Ga.put_self _ _ _,by rw[Z];exact ZU⟩
     .obtain⟨v',k1,k2⟩:=f.get _ _ D;exact⟨v',k1,k2.le (Fz.Le.refl z) (Ga.le_put G.self)⟩
    .refine V.turn (Ga.le_put G.self) (i:=id) (i':=s.nx) (C:=dT_ l.A) (o':=.row e ty (xs.take n.toNat) []) (λq ⟨a,ha,hq⟩=>⟨_,hi,l,a,h1,ha,hq⟩) (Grow.refl w) (λ_ _ _=>rfl) ?_ (λq hq=>?_) λj p hj=>?_
     .refine⟨_,rows.take n.toNat,Ga.put_self _ _ _,rfl,rfl,?_,?_,λq hq=>ZX q (qh hq),O,λp hp=>nomatch hp⟩
      .simp only[Z];exact U
      .simp only[Z];rw[qX];omega
     .obtain⟨l2,a2,Y,h6,rfl⟩:=hq;rw[Ga.put_self]at Y;obtain rfl:=qSj Y;exact .inl ⟨a2,h6,rfl⟩
     .rcases tn_ (H:=s.H b) hj with Y|⟨Y,h6,h7⟩
      .exact .inl Y
      .exact .inr ⟨Y,.inl h6,h7⟩
   .exact h
  .exact h
 .rename_i t ty;split
  .rename_i x hL;obtain⟨z,g,f,V,G,y,F⟩:=h;obtain⟨z',h1,J⟩:=di_ V x.cs;refine⟨z',g,f.le h1 (Ga.Le.refl g),?_,G,y.trans h1,F⟩;unfold St.H at J ⊢;rw[aJ_]at J;exact J
  .exact h
 .rename_i t ps;split
  .rename_i cs hL;obtain⟨z,g,f,V,G,y,F⟩:=h;obtain⟨l,u,m,g',h1,J,h3,h4,Y,_,_⟩:=iL_ (wantC objs ps) cs V G;rw[h1];refine⟨z,g',⟨f.size,f.defers,λM x hx=>?_⟩,?_,h3,y,F.trans J⟩
   .have ZZ:(if M=t then some (SV.v (.agg l))else s.L b M)=some x:=by rw[←hx];exact(St.L_cons (s:={ s with heap:=u++s.heap,nx:=m })).symm
    split at ZZ
    .rename_i ht;subst ht;obtain rfl:=qSj ZZ;obtain⟨v,k1,k2⟩:=f.get _ _ hL;obtain⟨vs,k3,k4⟩:=k2;exact⟨v,k1,vs,k3,Y z g' vs (Ga.Le.refl g') (k4.mono λ_ _ h=>RC.le h (Fz.Le.refl z) J)⟩
    .obtain⟨v,k1,k2⟩:=f.get _ _ ZZ;exact⟨v,k1,k2.le (Fz.Le.refl z) J⟩
   .unfold St.H at h4 ⊢;rw[aJ_]at h4;exact h4
  .exact h
 .exact h
theorem prepL_ok{F0:Org}{b:Ba E}{objs:tL (Nat×tV×OP)}{a:Act}:∀{l:tL (Nat×VP)} {s:St E},Rel P E Bs F0 w0 N (s.L b) (s.H b) s.nx a w->Rel P E Bs F0 w0 N ((kQ_ b objs l s).L b) ((kQ_ b objs l s).H b) (kQ_ b objs l s).nx a w
 | [],_,h=>h
 | p::l,s,h=>prepL_ok (l:=l) (s:=prepS b s objs p) (prepS_ok h)
theorem frzC_ok{F0:Org}{b:Ba E}{s:St E}{a:Act}(cs:tL (SC E))(h:Rel P E Bs F0 w0 N (s.L b) (s.H b) s.nx a w):Rel P E Bs F0 w0 N ((frzC b s cs).L b) ((frzC b s cs).H b) (frzC b s cs).nx a w:=by
 obtain⟨z,g,u,q,p,f,j⟩:=h;obtain⟨z',h1,m⟩:=di_ q cs;refine⟨z',g,u.le h1 (Ga.Le.refl g),?_,p,f.trans h1,j⟩;unfold frzC;unfold St.H at m ⊢;rw[aJ_]at m;exact m
theorem frzS_ok{F0:Org}{b:Ba E}{a:Act}:∀{l:tL (Nat×VP)} {s:St E},Rel P E Bs F0 w0 N (s.L b) (s.H b) s.nx a w->Rel P E Bs F0 w0 N ((frzS b l s).L b) ((frzS b l s).H b) (frzS b l s).nx a w
 | [],_,h=>h
 | p::l,s,h=>by
  refine frzS_ok (l:=l) (s:=frzS1 b s p) ?_;unfold frzS1;split
  .split
   .exact frzC_ok _ h
   .exact h
  .exact h
theorem frzOs_ok{F0:Org}{b:Ba E}{a:Act}:∀{l:tL (Nat×tV×OP)} {s:St E},Rel P E Bs F0 w0 N (s.L b) (s.H b) s.nx a w->Rel P E Bs F0 w0 N ((frzOs b l s).L b) ((frzOs b l s).H b) (frzOs b l s).nx a w
 | [],_,h=>h
 | p::l,s,h=>by
  refine frzOs_ok (l:=l) (s:=frzO1 b s p) ?_;unfold frzO1;split
  .split
   .exact frzC_ok _ h
   .exact h
  .split
   .exact frzC_ok _ h
   .exact h
  .exact h
theorem prepO1_ok{F0:Org}{b:Ba E}{s:St E}{objs:tL (Nat×tV×OP)}{p:Nat×tV×OP}{a:Act}(h:Rel P E Bs F0 w0 N (s.L b) (s.H b) s.nx a w):Rel P E Bs F0 w0 N ((pc_ b objs s p).L b) ((pc_ b objs s p).H b) (pc_ b objs s p).nx a w:=by
 unfold pc_;split
 .rename_i j T' ps;split
  .rename_i T cs hi;obtain⟨z,g,G,O,M,C,F⟩:=h;obtain⟨l,u,m,g',h1,U,h3,h4,h5,h6,h7⟩:=iL_ (wantC objs ps) cs O M;rw[h1];obtain⟨lo,J⟩:=(O.hold _ _ hi).loc;have hj:j<s.nx:=by
    rcases qb j s.nx with f|f
    .exact f
    .rw[M j f]at J;cases J
   have D:upH (s.H b) u j=some (.box T cs):=(upH_far (λi o h=>(h6 i o h).1) hj).trans hi;have f:=h4.up (Ga.Le.refl g') D (o2:=.box T l) (λz w Z=>by
    obtain⟨lo',vs,y,q,Y⟩:=Z;exact⟨lo',vs,y,q,h5 z g' vs (Ga.Le.refl g') Y⟩) (λk=>Iff.rfl)
   refine⟨z,g',⟨G.size,G.defers,λV x hx=>?_⟩,?_,h3,C,F.trans U⟩
   .obtain⟨v,y,q⟩:=G.get V x hx;exact⟨v,y,q.le (Fz.Le.refl z) U⟩
   .unfold St.H at f ⊢;rw[aJ_,aJ_]at f;exact f
  .exact h
 .exact h
theorem prepO_ok{F0:Org}{b:Ba E}{objs:tL (Nat×tV×OP)}{a:Act}:∀{l:tL (Nat×tV×OP)} {s:St E},Rel P E Bs F0 w0 N (s.L b) (s.H b) s.nx a w->Rel P E Bs F0 w0 N ((kR_ b objs l s).L b) ((kR_ b objs l s).H b) (kR_ b objs l s).nx a w
 | [],_,h=>h
 | p::l,s,h=>prepO_ok (l:=l) (s:=pc_ b objs s p) (prepO1_ok h)
theorem prepLO_ok{F0:Org}{b:Ba E}{objs l2:tL (Nat×tV×OP)}{a:Act}{l:tL (Nat×VP)}{s:St E}(h:Rel P E Bs F0 w0 N (s.L b) (s.H b) s.nx a w):Rel P E Bs F0 w0 N ((kR_ b objs l2 (kQ_ b objs l s)).L b) ((kR_ b objs l2 (kQ_ b objs l s)).H b) (kR_ b objs l2 (kQ_ b objs l s)).nx a w:=
 prepO_ok (prepL_ok h)
theorem prepRs_ok{z:Fz}:∀(rs:Rs) (xs:tL (V1 E)) {n:Nat} {g:Ga} {H:Nat->tO (Obj E)},HR P E Bs F0 w0 w z g H->Fresh g n ->
  ∃xs' u y g',(∀{α:Type} (k:tL (V1 E)->Chs E->Nat->α),prepRs E rs xs n k=k xs' u y)/\g.Le g'/\Fresh g' y/\HR P E Bs F0 w0 w z g' (upH H u)/\(∀z s vs,g'.Le s->All2 (R1 P E z s) xs vs->All2 (R1 P E z s) xs' vs)/\(∀i o,(i,o)∈u->n<=i)/\n<=y
 | [],xs,n,g,H,q,j=>⟨xs,[],n,g,(λk=>by cases xs<;>rfl),Ga.Le.refl g,j,q,(λ_ _ _ _ h=>h),(λ_ _ h=>nomatch h),qA _⟩
 | p::rs,[],n,g,H,q,j=>⟨[],[],n,g,(λk=>rfl),Ga.Le.refl g,j,q,(λ_ _ _ _ h=>h),(λ_ _ h=>nomatch h),qA _⟩
 | (t,m)::rs,x::xs,n,g,H,q,j=>by
  obtain⟨G,u,n1,g1,h1,h2,h3,h4,h5,h6,h7,_⟩:=prepV_ok t m x q j;obtain⟨xs',J,M,s,Z,C,Y,V,U,O,k7⟩:=prepRs_ok rs xs h4 h3;refine⟨G::xs',J++u,M,s,(λk=>?_),h2.trans C,Y,by rw[←aJ_];exact V,(λz F vs D hv=>?_),(λi o f=>?_),by omega⟩
  .simp only[prepRs];exact(h1 _).trans (Z _)
  .cases hv with
   | cons hx hr=>exact .cons (h5 z F _ (C.trans D) hx) (U z F _ D hr)
  .rcases qW.1 f with f|f
   .have:=O i o f;omega
   .exact(h6 i o f).1
end
section
variable{P:tT}{E:TE}{w w0:tS}{Bs:tL Nat}{F0:Org}{N:Nat}
theorem gs_{α:Type}{t:Nat}{v:α}:∀{l:tL (Nat×α)},aF_ t l=some v->(t,v)∈l
 | [],h=>by cases h
 | (u,x)::l,h=>by
  simp only[aF_]at h;split at h
  .rename_i f;obtain rfl:=qNb f;obtain rfl:=qSj h;exact qR ..
  .exact qL _ (gs_ h)
theorem sg_{α:Type}{t:Nat}{K:tL Nat}:∀{l:tL (Nat×α)},aF_ t (filtK K l)=match ay_ t K with|true=>aF_ t l|false=>none
 | []=>by cases ay_ t K<;>rfl
 | (u,x)::l=>by
  have f:=sg_ (t:=t) (K:=K) (l:=l);unfold filtK at f ⊢;simp only[List.filter_cons];cases h:Nat.beq t u with
  | true=>
   obtain rfl:=qNb h;cases hm:ay_ t K with
   | true=>
    simp only[if_true,aF_];have:Nat.beq t t=true:=by simp
    rw[this]
   | false=>
    rw[hm]at f;simp only[zo,if_false];exact f
  | false=>
   have:aF_ t ((u,x)::l)=aF_ t l:=by simp only[aF_,h]
   rw[this];split
   .simp only[aF_,h];exact f
   .exact f
theorem t2_{K:tL Nat}{vis:tO (tL Nat)}{t:Nat}:seen (some (K.filter (seen vis))) t=(ay_ t K&&seen vis t):=by
 show ay_ t (K.filter (seen vis))=_
 induction K with
 | nil=>rfl
 | cons u K f=>
  simp only[List.filter_cons,ay_];cases j:Nat.beq t u with
  | true=>
   obtain rfl:=qNb j;cases h:seen vis t with
   | true=>simp[ay_]
   | false=>
    rw[h,Bool.and_false]at f;simp[f]
  | false=>
   cases h:seen vis u with
   | true=>simp[ay_,j,f]
   | false=>simp[f]
theorem goS_L{j:JP}{b:Ba E}{s:St E}{env:tL (Nat×tO (SV E))}{u:Chs E}{t:Nat}{x:SV E}(h:(j.goS s env u).L b t=some x):aF_ t env=some (some x)\/(ay_ t j.keep=true/\s.L b t=some x):=by
 unfold JP.goS St.L at h;simp only[hx_,sg_,t2_]at h;cases f:aF_ t env with
 | some v=>rw[f]at h;simp only at h;subst h;exact .inl rfl
 | none=>
  rw[f]at h;cases hm:ay_ t j.keep with
  | false=>rw[hm]at h;simp at h
  | true=>
   rw[hm]at h;refine .inr ⟨rfl,?_⟩;unfold St.L;simpa using h
theorem goS_H{j:JP}{b:Ba E}{s:St E}{env:tL (Nat×tO (SV E))}{u:Chs E}{i:Nat}{o:Obj E}(h:(j.goS s env u).H b i=some o):(i,some o)∈u\/(ay_ i j.hkeep=true/\s.H b i=some o):=by
 unfold JP.goS St.H at h;simp only[kq_,hx_,sg_,t2_]at h;cases f:aF_ i u with
 | some v=>rw[f]at h;simp only at h;subst h;exact .inl (gs_ f)
 | none=>
  rw[f]at h;cases hm:ay_ i j.hkeep with
  | false=>rw[hm]at h;simp at h
  | true=>
   rw[hm]at h;refine .inr ⟨rfl,?_⟩;unfold St.H;rw[kq_];simpa using h
theorem JP.mt_some{j:JP}{b:Ba E}{s0:St E}{h:HL E.S j.T}(e:j.mt b s0=some h):∃s f bs h1 q,s=kR_ b j.objs j.objs (kQ_ b j.objs j.slots (frzOs b j.objs (frzS b j.slots s0)))/\gf_ (s.L b) j.slots []=some f/\jm_ (s.H b) j.objs f=some bs /\
  j.mtB b.lo s bs=true/\focOK (s.H b) bs j.keep j.gkeep j.objs=true/\leafS (s.L b) (s.H b) j.slots=some h1/\mO_ (s.H b) bs j.objs=some q/\h=hap h1 q:=by
 unfold JP.mt at e;generalize D:kR_ b j.objs j.objs (kQ_ b j.objs j.slots (frzOs b j.objs (frzS b j.slots s0)))=s at e;simp only at e;cases p:gf_ (s.L b) j.slots []with
 | none=>rw[p]at e;cases e
 | some f=>
  rw[p]at e;simp only at e;cases m:jm_ (s.H b) j.objs f with
  | none=>rw[m]at e;cases e
  | some bs=>
   rw[m]at e;obtain⟨h1,q⟩:=c3_ e;obtain⟨C,a2,y,x,u⟩:=sa_ q;simp only[qAn]at h1;exact⟨s,f,bs,C,a2,rfl,p,m,h1.1,h1.2,y,x,u⟩
theorem wh_{α:Type}{i:Nat}{l:tL (Nat×α)}(h:noKey i l=true):aF_ i l=none:=by
 unfold noKey at h;split at h
 .assumption
 .cases h
theorem bd_one{bs:Bd}(h:nodupB (bs.map (·.2))=true){i j id:Nat}(hi:aF_ i bs=some id)(p:aF_ j bs=some id):i=j:=by
 obtain⟨n,f⟩:=List.getElem?_of_mem (gs_ hi);obtain⟨m,hm⟩:=List.getElem?_of_mem (gs_ p);have h1:(bs.map (·.2))[n]? = some id:=by rw[qt,f];rfl
 have q:(bs.map (·.2))[m]? = some id:=by rw[qt,hm];rfl
 have:=r4_ h h1 q;subst this;rw[f]at hm;have:=qSj hm;exact qM Prod.fst this
def kU_(g:Ga)(lo:Nat)(K:tL Nat)(bs:Bd):Ga:=λi=>match ay_ i K||Nat.blt i lo with
 | true=>g i
 | false=>match aF_ i bs with
  | some id=>g id
  | none=>none
theorem JP.ok {j:JP} {b:Ba E} {s s0:St E} {h:HL E.S j.T} {a:Act} {R:Type} {k:St E->tO R} {r:R} (ZH:Fresh F0.g b.lo) (hm:j.mt (s.base b) s0=some h) (hR:Rel P E Bs F0 w0 N (s0.L (s.base b)) (s0.H (s.base b)) s0.nx a w) (J:j.go b s h k=some r) :
  ∃s',k s'=some r/\Rel P E Bs F0 w0 N (s'.L b) (s'.H b) s'.nx a w:=by
 obtain⟨s1,ZR,bs,h1,h2,ZO,Zy,ZX,hB,ZT,ZF,ZG,rfl⟩:=JP.mt_some hm;have ZS:=prepLO_ok (objs:=j.objs) (l2:=j.objs) (l:=j.slots) (frzOs_ok (l:=j.objs) (frzS_ok (l:=j.slots) hR));rw[←ZO]at ZS;obtain⟨z,g,hE,hH,hf,ZQ,ZB⟩:=ZS;unfold JP.mtB at hB;simp only[qAn]at hB;obtain⟨⟨⟨ZI,Y⟩,ZD⟩,ZE,ZL,Zz,ZA,ZJ,ZK⟩:=hB;unfold JP.go at J;rw[mP_]at J;cases Z:newS j.slots h1 with
 | none=>rw[Z]at J;cases J
 | some env=>
  rw[Z]at J;simp only at J;obtain⟨ZY,J⟩:=c3_ J;rw[mQ_]at J;unfold JP.goB at ZY;simp only[qAn]at ZY;obtain⟨ZM,ZN⟩:=ZY
  -- the new places
  have keyIn:∀i id,aF_ i bs=some id->ay_ i (j.hkeep++j.gkeep)=false:=λi id e=>disj_mem ZA (zZ.2 ⟨_,gs_ e,rfl⟩)
  have f:Bound g (kU_ g b.lo (j.hkeep++j.gkeep) bs) bs:=λi id e=>by
   unfold kU_;rw[keyIn i id e,zt];split
   .rename_i hb;have M:=qm.1 Y _ (gs_ e);simp only[qz]at M;rcases M with M|M
    .have Zt:=qq M;have Zp:i<b.lo:=by simpa using hb
     have:b.lo<=i:=Zt;omega
    .rw[qNb M]
   .rw[e]
  have D:∀i,ay_ i (j.hkeep++j.gkeep)=true->kU_ g b.lo (j.hkeep++j.gkeep) bs i=g i:=λi e=>by
   unfold kU_;rw[e,Bool.true_or]
  have ZU:∀i,ay_ i j.gkeep=true->kU_ g b.lo (j.hkeep++j.gkeep) bs i=g i:=λi e=>D i (by rw[ex_,e,Bool.or_true])
  have ZZ:∀i,ay_ i j.hkeep=true->kU_ g b.lo (j.hkeep++j.gkeep) bs i=g i:=λi e=>D i (by rw[ex_,e,Bool.true_or])
  have hA:∀i,ay_ i (j.hkeep++(j.gkeep++selfs j.objs))=true->kU_ g b.lo (j.hkeep++j.gkeep) bs i=g i:=λi e=>by
   rw[ex_,ex_]at e;simp only[qz]at e;rcases e with e|e|e
   .exact ZZ i e
   .exact ZU i e
   .exact f i i ((qu_ ZX).2 i (memN_true.1 e))
  have keepL:∀t,ay_ t j.keep=true->s1.L (s.base b) t=s.L b t:=λt ht=>by
   have:=qm.1 ZD t (memN_true.1 ht);simp only[qAn]at this;unfold St.L;rw[wh_ this.1,this.2];rfl
  have keepH:∀i,ay_ i j.hkeep=true->s1.H (s.base b) i=s.H b i:=λi hi=>by
   have:=qm.1 ZE i (memN_true.1 hi);simp only[qAn]at this;unfold St.H;rw[kq_,wh_ this.1,this.2];rfl
  obtain⟨u,hu,U⟩:=objs_meet hH f ZU (L:=s.L b) (keep:=j.keep) (λsl id q i off ZP hL=>by
   rw[←keepL sl ZP]at hL;obtain⟨v,_,hv⟩:=hE.get sl _ hL;obtain⟨l,m,G,_⟩:=hv;exact⟨l,m,G⟩) j.objs ZR bs h2 _ ZX (Bd.Le.refl bs) ZG ZT J
  refine⟨_,hu,z,kU_ g b.lo (j.hkeep++j.gkeep) bs,⟨hE.size,hE.defers,λt x hx=>?_⟩,?_,λi hi=>?_,ZQ,λi l hl=>?_⟩
  .rcases goS_L hx with hx|⟨V,hx⟩
   .obtain⟨sv,s2,m,G,h5⟩:=slots_meet hH f j.slots [] ZR h1 env Zy (qu_ ZX).1 ZF Z t _ hx;obtain rfl:=qSj m;obtain⟨v,h6,h7⟩:=hE.get t _ G;exact⟨v,h6,h5 v h7⟩
   .have ZW:=hx;rw[←keepL t V]at ZW;obtain⟨v,h6,h7⟩:=hE.get t _ ZW;have h8:=qm.1 ZM t (memN_true.1 V);rw[hx]at h8;exact⟨v,h6,h7.same hA h8⟩
  .refine hH.remap (λi=>match ay_ i j.hkeep with|true=>i|false=>(aF_ i bs).getD i) (λi i' o o' e e' y=>?_) λi o' e=>?_
   .have kind:∀i o,(j.goS s env u).H b i=some o->ay_ i j.hkeep=true\/(ay_ i j.hkeep=false/\∃id,aF_ i bs=some id):=λi o e=>by
     rcases goS_H e with e|⟨e,_⟩
     .obtain⟨id,_,_,m,_⟩:=U i _ e;have:=keyIn i id m;rw[ex_,qP]at this;exact .inr ⟨this.1,id,m⟩
     .exact .inl e
    have far:∀i id,aF_ i bs=some id->ay_ id j.hkeep=false:=λi id e=>disj_mem Zz (zZ.2 ⟨_,gs_ e,rfl⟩)
    rcases kind i o e with m|⟨m,id,G⟩<;>rcases kind i' o' e' with C|⟨C,id',O⟩
    .simpa[m,C]using y
    .simp only[m,C,O,zf]at y;subst y;rw[far i' _ O]at m;cases m
    .simp only[m,C,G,zf]at y;subst y;rw[far i _ G]at C;cases C
    .simp only[m,C,G,O,zf]at y;subst y;exact bd_one ZL G O
   .rcases goS_H e with e|⟨V,e⟩
    .obtain⟨id,o,p,m,G,h5,h6,h7⟩:=U i _ e;obtain rfl:=qSj h5;have:=keyIn i id m;rw[ex_,qP]at this;simp only[this.1,m,zf];exact⟨o,G,h6 (hH.hold _ _ G),h7⟩
    .simp only[V];have e2:=e;rw[←keepH i V]at e2;have h8:=qm.1 ZN i (memN_true.1 V);rw[e]at h8;exact⟨o',e2,(hH.hold _ _ e2).same hA (ZZ i V) h8,λq hq=>(fpO_same (ZZ i V)).1 hq⟩
  .have ZC :  j.nx<=i:=hi;unfold kU_;have Zr:b.lo<=i:=qN (qq ZI) ZC;have F:Nat.blt i b.lo=false:=by
    cases hb:Nat.blt i b.lo with
    | false=>rfl
    | true => have:i<b.lo:=by simpa using hb
              omega
   rw[F,Bool.or_false];cases ZV:ay_ i (j.hkeep++j.gkeep)with
   | true=>
    have:=qm.1 ZK i (memN_true.1 ZV);have:i<j.nx:=by simpa using this
    omega
   | false=>
    cases Zu:aF_ i bs with
    | none=>rfl
    | some id=>
     have:=qm.1 ZJ _ (gs_ Zu);have:i<j.nx:=by simpa using this
     omega
  .have F:Nat.blt i b.lo=true:=by
    rcases qb i b.lo with M|M
    .simpa using M
    .rw[ZH i M]at hl;cases hl
   unfold kU_;rw[F,Bool.or_true];exact ZB i l hl
end
section
variable{P:tT}{E:TE}{eqs:tL (Nat×Nat)}{tab:Tab E}{N:Nat}{Bs:tL Nat}{F0:Org}{w0:tS}{RT:Type}{rv:Ba E->St E->tO RT}{Qr:RT->Act->tS->Prop}
def lj_:tO Nat->Exit|none=>.normal|some 0=>.ret|some (i+1)=>.exit i
def eW_(P:tT)(E:TE)(eqs:tL (Nat×Nat))(tab:Tab E)(N:Nat)(Bs:tL Nat)(F0:Org)(w0:tS)(RT:Type)(rv:Ba E->St E->tO RT)(Qr:RT->Act->tS->Prop)(c:Code):Prop:=
 ∀(pl:Pl) (R:Type) (b:Ba E) (s:St E) (k:tO Nat->St E->tO R) (kr:RT->tO R) (r:R) (a:Act) (w:tS) (Q:Exit->Act->tS->Prop),
  Fresh F0.g b.lo->evCode P E eqs tab N RT rv c pl R b s k kr=some r->Rel P E Bs F0 w0 N (s.L b) (s.H b) s.nx a w ->
  (∀j h f w',k j h=some r->Rel P E Bs F0 w0 N (h.L b) (h.H b) h.nx f w'->Q (lj_ j) f w') ->
  (∀y f w',kr y=some r->Qr y f w'->Q .ret f w')->c.wp P Q a w
theorem ey_{x y:Code}{pl pl':Pl}{R:Type}{b:Ba E}{s:St E}{k:tO Nat->St E->tO R}{kr:RT->tO R}{r:R}{a:Act}{w:tS}{Q:Exit->Act->tS->Prop}
  (p:Fresh F0.g b.lo) (hx:eW_ P E eqs tab N Bs F0 w0 RT rv Qr x) (G:eW_ P E eqs tab N Bs F0 w0 RT rv Qr y)
  (h:evCode P E eqs tab N RT rv x pl R b s (λm j=>match m with
   | none=>evCode P E eqs tab N RT rv y pl' R b j k kr
   | some i=>k (some i) j) kr=some r) (M:Rel P E Bs F0 w0 N (s.L b) (s.H b) s.nx a w)
  (D:∀m j f w',k m j=some r->Rel P E Bs F0 w0 N (j.L b) (j.H b) j.nx f w'->Q (lj_ m) f w') (q:∀y f w',kr y=some r->Qr y f w'->Q .ret f w'):(Code.seq x y).wp P Q a w:=by
 refine s_join (λf w'=>y.wp P Q f w') (λ_ _ h=>h) (hx pl R b s _ kr r a w _ p h M (λm j f w' C u=>?_) λF f w' C J=>q F f w' C J);cases m with
 | none=>exact G pl' R b j k kr r f w' Q p C u D q
 | some i=>cases i<;>exact D (some _) j f w' C u
theorem blockPlain{id:Nat}{x:Code}{pl:Pl}{R:Type}{b:Ba E}{s:St E}{k:tO Nat->St E->tO R}{kr:RT->tO R}{r:R}{a:Act}{w:tS}{Q:Exit->Act->tS->Prop}
  (C:Fresh F0.g b.lo) (hx:eW_ P E eqs tab N Bs F0 w0 RT rv Qr x)
  (h:evCode P E eqs tab N RT rv x pl R b s (λq j=>match q with
   | none=>k none j
   | some i=>match Nat.beq i (id+1)with
    | true=>k none j
    | false=>k (some i) j) kr=some r) (M:Rel P E Bs F0 w0 N (s.L b) (s.H b) s.nx a w)
  (u:∀q j f w',k q j=some r->Rel P E Bs F0 w0 N (j.L b) (j.H b) j.nx f w'->Q (lj_ q) f w') (D:∀y f w',kr y=some r->Qr y f w'->Q .ret f w'):(Code.block id x).wp P Q a w:=by
 refine wp_block (hx pl R b s _ kr r a w _ C h M (λq j f w' p m=>?_) λG f w' p J=>D G f w' p J);cases q with
 | none=>exact u none j f w' p m
 | some i=>
  simp only at p;cases i with
  | zero=>exact u (some 0) j f w' p m
  | succ i=>
   show if i=id then Q .normal f w' else Q (.exit i) f w'
   split at p
   .rename_i F;rw[qY (Nat.succ.inj (qNb F))];exact u none j f w' p m
   .rename_i F;rw[qG (λe=>bk_ F (qM (· + 1) e))];exact u (some (i+1)) j f w' p m
theorem seqJoin{x y:Code}{m:JP}{px py:Pl}{R:Type}{b:Ba E}{s:St E}{k:tO Nat->St E->tO R}{kr:RT->tO R}{r:R}{a:Act}{w:tS}{Q:Exit->Act->tS->Prop}
  (p:Fresh F0.g b.lo) (hx:eW_ P E eqs tab N Bs F0 w0 RT rv Qr x) (G:eW_ P E eqs tab N Bs F0 w0 RT rv Qr y)
  (h:Option.bind (evCode P E eqs tab N RT rv x px (Tp E.S m.T) (s.base b) (St.new s.nx) (λu f=>match u with
    | none=>(match m.mt (s.base b) f with|some h=>some (ci_ m.T h)|none=>none)
    | some _=>none) (λ_=>none)) (λo=>m.go b s (bs_ m.T o) λf=>evCode P E eqs tab N RT rv y py R b f k kr)=some r) (M:Rel P E Bs F0 w0 N (s.L b) (s.H b) s.nx a w)
  (J:∀u f j w',k u f=some r->Rel P E Bs F0 w0 N (f.L b) (f.H b) f.nx j w'->Q (lj_ u) j w') (C:∀y j w',kr y=some r->Qr y j w'->Q .ret j w'):(Code.seq x y).wp P Q a w:=by
 obtain⟨o,h1,F⟩:=bind_some h;refine s_join (λj w'=>∃f,evCode P E eqs tab N RT rv y py R b f k kr=some r/\Rel P E Bs F0 w0 N (f.L b) (f.H b) f.nx j w') (λj w' ⟨f,U,O⟩=>G py R b f k kr r j w' Q p U O J C)
  (hx px _ (s.base b) (St.new s.nx) _ _ o a w _ p h1 M (λu f j w' q D=>?_) λV j w' q _=>nomatch q)
 cases u with
 | none=>
  simp only at q;split at q
  .rename_i Y hm;obtain rfl:=qSj q;rw[db_]at F;exact JP.ok p hm D F
  .cases q
 | some i=>cases q
theorem seqJoinR{x y:Code}{m:JP}{px py:Pl}{R:Type}{b:Ba E}{s:St E}{k:tO Nat->St E->tO R}{kr:RT->tO R}{r:R}{a:Act}{w:tS}{Q:Exit->Act->tS->Prop}
  (p:Fresh F0.g b.lo) (hx:eW_ P E eqs tab N Bs F0 w0 RT rv Qr x) (J:eW_ P E eqs tab N Bs F0 w0 RT rv Qr y)
  (h : Option.bind (evCode P E eqs tab N RT rv x px (Out (Tp E.S m.T) RT) (s.base b) (St.new s.nx) (λu f=>match u with
    | none=>(match m.mt (s.base b) f with|some h=>some (.fall (ci_ m.T h))|none=>none)
    | some _=>none) (λr=>some (.ret r))) (λo=>match o with
     | .ret r=>kr r
     | .fall o=>m.go b s (bs_ m.T o) λf=>evCode P E eqs tab N RT rv y py R b f k kr)=some r) (U:Rel P E Bs F0 w0 N (s.L b) (s.H b) s.nx a w)
  (O:∀u f j w',k u f=some r->Rel P E Bs F0 w0 N (f.L b) (f.H b) f.nx j w'->Q (lj_ u) j w') (C:∀y j w',kr y=some r->Qr y j w'->Q .ret j w'):(Code.seq x y).wp P Q a w:=by
 obtain⟨o,h1,D⟩:=bind_some h;refine s_join (λj w'=>∃f,evCode P E eqs tab N RT rv y py R b f k kr=some r/\Rel P E Bs F0 w0 N (f.L b) (f.H b) f.nx j w') (λj w' ⟨f,Y,V⟩=>J py R b f k kr r j w' Q p Y V O C)
  (hx px _ (s.base b) (St.new s.nx) _ _ o a w _ p h1 U (λu f j w' q F=>?_) λG j w' q M=>?_)
 .cases u with
  | none=>
   simp only at q;split at q
   .rename_i Z hm;obtain rfl:=qSj q;simp only at D;rw[db_]at D;exact JP.ok p hm F D
   .cases q
  | some i=>cases q
 .obtain rfl:=qSj q;exact C G j w' D M
theorem loopPlain{id:Nat}{body:Code}{m q:JP}{pb:Pl}{R:Type}{b:Ba E}{s:St E}{k:tO Nat->St E->tO R}{h0:HL E.S m.T}{r:R}{a:Act}{w:tS}{Q:Exit->Act->tS->Prop}
  (x:Fresh F0.g b.lo) (hx:eW_ P E eqs tab N Bs F0 w0 RT rv Qr body) (hm:m.mt (s.base b) (St.new s.nx)=some h0)
  (h : Option.bind (aj_ (λtp=>m.go (s.base b) (St.new s.nx) (bs_ m.T tp) λF=>evCode P E eqs tab N RT rv body pb (Step (Tp E.S m.T) (Tp E.S q.T)) (s.base b) F (λe f=>match e with
      | none=>(match m.mt (s.base b) f with|some h=>some (.next (ci_ m.T h))|none=>none)
      | some i=>match Nat.beq i (id+1)with
       | true=>(match q.mt (s.base b) f with|some h=>some (.done (ci_ q.T h))|none=>none)
       | false=>none) (λ_=>none)) BIG (ci_ m.T h0)) (λo=>q.go b s (bs_ q.T o) λf=>k none f)=some r) (hR:Rel P E Bs F0 w0 N (s.L b) (s.H b) s.nx a w)
  (Y:∀q f p w',k q f=some r->Rel P E Bs F0 w0 N (f.L b) (f.H b) f.nx p w'->Q (lj_ q) p w'):(Code.block id (.loop body)).wp P Q a w:=by
 obtain⟨o,h1,U⟩:=bind_some h;refine b_join (λp w'=>∃f,k none f=some r/\Rel P E Bs F0 w0 N (f.L b) (f.H b) f.nx p w') (λp w' ⟨f,M,J⟩=>Y none f p w' M J)
  (rS_ h1 (λtp p w'=>∃s0 G,m.mt (s.base b) s0=some G/\tp=ci_ m.T G/\Rel P E Bs F0 w0 N (s0.L (s.base b)) (s0.H (s.base b)) s0.nx p w') ⟨_,_,hm,rfl,hR⟩ ?_)
 rintro tp a1 V ⟨s0,G,M,rfl,J⟩ st C y;rw[db_]at C;obtain⟨F,h5,h6⟩:=JP.ok (b:=s.base b) (s:=St.new s.nx) x M J C;refine hx pb _ (s.base b) F _ _ st a1 V _ x h5 h6 (λe f p w' j D=>?_) λy' p w' j _=>nomatch j
 cases e with
 | none=>
  simp only at j;split at j
  .rename_i O u;exact⟨_,(qSj j).symm,f,O,u,rfl,D⟩
  .cases j
 | some i=>
  simp only at j;split at j
  .rename_i Z;split at j
   .rename_i O u;have h8:=y _ (qSj j).symm;subst h8;rw[db_]at U;obtain rfl:=qNb Z;show if id=id then _ else _
    rw[qY rfl];exact JP.ok x u D U
   .cases j
  .cases j
theorem loopPlainR{id:Nat}{body:Code}{q u:JP}{pb:Pl}{R:Type}{b:Ba E}{s:St E}{k:tO Nat->St E->tO R}{kr:RT->tO R}{h0:HL E.S q.T}{r:R}{a:Act}{w:tS}{Q:Exit->Act->tS->Prop}
  (C:Fresh F0.g b.lo) (hx:eW_ P E eqs tab N Bs F0 w0 RT rv Qr body) (hm:q.mt (s.base b) (St.new s.nx)=some h0)
  (h : Option.bind (aj_ (λtp=>q.go (s.base b) (St.new s.nx) (bs_ q.T tp) λJ=>evCode P E eqs tab N RT rv body pb (Step (Tp E.S q.T) (Out (Tp E.S u.T) RT)) (s.base b) J (λe f=>match e with
      | none=>(match q.mt (s.base b) f with|some h=>some (.next (ci_ q.T h))|none=>none)
      | some i=>match Nat.beq i (id+1)with
       | true=>(match u.mt (s.base b) f with|some h=>some (.done (.fall (ci_ u.T h)))|none=>none)
       | false=>none) (λr=>some (.done (.ret r)))) BIG (ci_ q.T h0)) (λo=>match o with
     | .ret r=>kr r
     | .fall o=>u.go b s (bs_ u.T o) λf=>k none f)=some r) (hR:Rel P E Bs F0 w0 N (s.L b) (s.H b) s.nx a w)
  (hk:∀u f j w',k u f=some r->Rel P E Bs F0 w0 N (f.L b) (f.H b) f.nx j w'->Q (lj_ u) j w') (M:∀y j w',kr y=some r->Qr y j w'->Q .ret j w'):(Code.block id (.loop body)).wp P Q a w:=by
 obtain⟨o,h1,G⟩:=bind_some h;refine b_join (λj w'=>∃f,k none f=some r/\Rel P E Bs F0 w0 N (f.L b) (f.H b) f.nx j w') (λj w' ⟨f,Y,V⟩=>hk none f j w' Y V)
  (rS_ h1 (λtp j w'=>∃s0 O,q.mt (s.base b) s0=some O/\tp=ci_ q.T O/\Rel P E Bs F0 w0 N (s0.L (s.base b)) (s0.H (s.base b)) s0.nx j w') ⟨_,_,hm,rfl,hR⟩ ?_)
 rintro tp a1 w1 ⟨s0,O,Y,rfl,V⟩ st D p;rw[db_]at D;obtain⟨J,h5,h6⟩:=JP.ok (b:=s.base b) (s:=St.new s.nx) C Y V D;refine hx pb _ (s.base b) J _ _ st a1 w1 _ C h5 h6 (λe f j w' m F=>?_) λy' j w' m hq=>?_
 .cases e with
  | none=>
   simp only at m;split at m
   .rename_i Z x;exact⟨_,(qSj m).symm,f,Z,x,rfl,F⟩
   .cases m
  | some i=>
   simp only at m;split at m
   .rename_i hb;split at m
    .rename_i Z x;have U:=p _ (qSj m).symm;subst U;simp only at G;rw[db_]at G;obtain rfl:=qNb hb;show if id=id then _ else _
     rw[qY rfl];exact JP.ok C x F G
    .cases m
   .cases m
 .have U:=p _ (qSj m).symm;subst U;exact M y' j w' G hq
theorem loopPlainX {id:Nat} {body:Code} {u y rm:JP} {pb:Pl} {R:Type} {b:Ba E} {s:St E} {k:tO Nat->St E->tO R} {h0:HL E.S u.T} {r:R} {a:Act} {w:tS} {Q:Exit->Act->tS->Prop}
  (x:Fresh F0.g b.lo) (hx:eW_ P E eqs tab N Bs F0 w0 RT rv Qr body) (hm:u.mt (s.base b) (St.new s.nx)=some h0)
  (h : Option.bind (aj_ (λtp=>u.go (s.base b) (St.new s.nx) (bs_ u.T tp) λF=>evCode P E eqs tab N RT rv body pb (Step (Tp E.S u.T) (Out (Tp E.S y.T) (Tp E.S rm.T))) (s.base b) F (λe f=>match e with
      | none=>(match u.mt (s.base b) f with|some h=>some (.next (ci_ u.T h))|none=>none)
      | some i=>match Nat.beq i (id+1)with
       | true=>(match y.mt (s.base b) f with|some h=>some (.done (.fall (ci_ y.T h)))|none=>none)
       | false=>match Nat.beq i 0 with
        | true=>(match rm.mt (s.base b) f with|some h=>some (.done (.ret (ci_ rm.T h)))|none=>none)
        | false=>none) (λ_=>none)) BIG (ci_ u.T h0)) (λo=>match o with
     | .ret o=>rm.go b s (bs_ rm.T o) λf=>k (some 0) f
     | .fall o=>y.go b s (bs_ y.T o) λf=>k none f)=some r) (hR:Rel P E Bs F0 w0 N (s.L b) (s.H b) s.nx a w)
  (hk:∀y f q w',k y f=some r->Rel P E Bs F0 w0 N (f.L b) (f.H b) f.nx q w'->Q (lj_ y) q w'):(Code.block id (.loop body)).wp P Q a w:=by
 obtain⟨o,h1,D⟩:=bind_some h;refine b_join (λq w'=>∃f,k none f=some r/\Rel P E Bs F0 w0 N (f.L b) (f.H b) f.nx q w') (λq w' ⟨f,Y,V⟩=>hk none f q w' Y V)
  (rS_ h1 (λtp q w'=>∃s0 J,u.mt (s.base b) s0=some J/\tp=ci_ u.T J/\Rel P E Bs F0 w0 N (s0.L (s.base b)) (s0.H (s.base b)) s0.nx q w') ⟨_,_,hm,rfl,hR⟩ ?_)
 rintro tp a1 w1 ⟨s0,J,Y,rfl,V⟩ st G p;rw[db_]at G;obtain⟨F,h5,h6⟩:=JP.ok (b:=s.base b) (s:=St.new s.nx) x Y V G;refine hx pb _ (s.base b) F _ _ st a1 w1 _ x h5 h6 (λe f q w' j C=>?_) λy' q w' j _=>nomatch j
 .cases e with
  | none=>
   simp only at j;split at j
   .rename_i U m;exact⟨_,(qSj j).symm,f,U,m,rfl,C⟩
   .cases j
  | some i=>
   simp only at j;split at j
   .rename_i hb;split at j
    .rename_i U m;have O:=p _ (qSj j).symm;subst O;simp only at D;rw[db_]at D;obtain rfl:=qNb hb;show if id=id then _ else _
     rw[qY rfl];exact JP.ok x m C D
    .cases j
   .split at j
    .rename_i M;obtain rfl:=qNb M;split at j
     .rename_i U m;have O:=p _ (qSj j).symm;subst O;simp only at D;rw[db_]at D;obtain⟨F,h9,Z⟩:=JP.ok x m C D;exact hk (some 0) F q w' h9 Z
     .cases j
    .cases j
end
variable{P:tT}{E:TE}{eqs:tL (Nat×Nat)}{tab:Tab E}{N:Nat}{Bs:tL Nat}{F0:Org}{w0:tS}
def VarAt(w:tS)(d:Nat)(T:tA)(a:Act)(w':tS):tO (Nat×tL tW)->Prop|none=>True|some (b,vs)=>a.tmps[d]? = some (.pointer (some ⟨b,0,none⟩))/\w.heap.size<=b/\w'.heap[b]? = some (.cells vs.toArray T (0,0))
structure PrS(N:Nat)(w:tS)(a0:Act)(T1 d1 T2 d2:Nat)(α β:tO (Nat×tL tW))(a:Act)(w':tS):Prop where
 ext:Ext w w'
 size:a.tmps.size=N
 defers:a.defers=[]
 same:∀t,t≠d1->t≠d2->a.tmps[t]? = a0.tmps[t]?
 fst:VarAt w d1 T1 a w' α
 snd:VarAt w d2 T2 a w' β
 ne:∀b vs b' vs',α=some (b,vs)->β=some (b',vs')->b≠b'
section
variable{w w':tS}{a0 a:Act}{T1 d1 T2 d2:Nat}{α β:tO (Nat×tL tW)}{ops:Array tI}{o:tI}{K:Act->tS->Prop}{Q:Exit->Act->tS->Prop}
theorem VarAt.ext{d T:Nat}{γ:tO (Nat×tL tW)}{j f:tS}(h:VarAt w d T a j γ)(hx:Ext j f):VarAt w d T a f γ:=by
 cases γ with
 | none=>trivial
 | some q=>
  obtain⟨h1,p,m⟩:=h;exact⟨h1,p,(hx.below.block _ (jX.1 m).1).trans m⟩
theorem PrS.go(h:PrS N w a0 T1 d1 T2 d2 α β a w'){f:tS}(hx:Ext w' f):PrS N w a0 T1 d1 T2 d2 α β a f:=⟨h.ext.trans hx,h.size,h.defers,h.same,h.fst.ext hx,h.snd.ext hx,h.ne⟩
theorem one_val{v:tW}{f:tS}(j:o.guard=none)(hr:(execOp a.eval o).run P w' = .ok (.value v) f)(h:K (a.put o.dst v) f):wpList P ops (Exit.then K Q) [o] a w':=by
 refine wpList_step λK' m=>?_
 rw[qY (by simp[Region.wanted,j])];unfold Oper.wp;rw[hr];exact m _ _ h
theorem one_skip{f:tS}(j:o.guard=none)(m:o.dst=none)(hr:(execOp a.eval o).run P w' = .ok .skip f)(h:K a f):wpList P ops (Exit.then K Q) [o] a w':=by
 refine wpList_step λK' p=>?_
 rw[qY (by simp[Region.wanted,j])];unfold Oper.wp;rw[hr];show K' (a.put o.dst undef) f;rw[m];exact p _ _ h
theorem put_at{d:Nat}{v:tW}(f:a.tmps.size=N)(h:d<N):(a.put (some d) v).tmps[d]? = some v:=by simp[Act.put,f,h]
theorem tz_{d t:Nat}{v:tW}(h:t≠d):(a.put (some d) v).tmps[t]? = a.tmps[t]?:=by
 simp only[Act.put];rw[zu (Ne.symm h)]
theorem PrS.mkA{f:tL tW}(h:PrS N w a0 T1 d1 T2 d2 none β a w')(j:d1≠d2)(C:d1<N)(u:zeroOf P T1=some f)(x:o.op = .alloc T1)(y:o.guard=none)(m:o.dst=some d1)
  (D:∀s p b,PrS N w a0 T1 d1 T2 d2 (some (b,f)) β s p->K s p):wpList P ops (Exit.then K Q) [o] a w':=by
 refine one_val y (lg_ (P:=P) (w:=w') (ρ:=a.eval) x u) (D _ _ w'.heap.size ?_);rw[m];have hx:=Ext.one w' (.cells f.toArray T1);refine⟨h.ext.trans hx,by simpa[Act.put]using h.size,h.defers,λt h1 F=>(tz_ h1).trans (h.same t h1 F),⟨put_at h.size C,h.ext.below.size,?_⟩,?_,λb vs J vs' e e'=>?_⟩
 .show(w'.heap.push _)[w'.heap.size]? = _;simp
 .have:=h.snd.ext hx;cases β with
  | none=>trivial
  | some q=>exact⟨(tz_ (Ne.symm j)).trans this.1,this.2⟩
 .injection e with e;injection e with G _;subst G e';have:=(jX.1 h.snd.2.2).1;omega
theorem PrS.mkB{z2:tL tW}(h:PrS N w a0 T1 d1 T2 d2 α none a w')(f:d1≠d2)(C:d2<N)(u:zeroOf P T2=some z2)(x:o.op = .alloc T2)(y:o.guard=none)(j:o.dst=some d2)
  (D:∀s m b,PrS N w a0 T1 d1 T2 d2 α (some (b,z2)) s m->K s m):wpList P ops (Exit.then K Q) [o] a w':=by
 refine one_val y (lg_ (P:=P) (w:=w') (ρ:=a.eval) x u) (D _ _ w'.heap.size ?_);rw[j];have hx:=Ext.one w' (.cells z2.toArray T2);refine⟨h.ext.trans hx,by simpa[Act.put]using h.size,h.defers,λt h1 p=>(tz_ p).trans (h.same t h1 p),?_,⟨put_at h.size C,h.ext.below.size,?_⟩,λb vs G vs' e e'=>?_⟩
 .have:=h.fst.ext hx;cases α with
  | none=>trivial
  | some q=>exact⟨(tz_ f).trans this.1,this.2⟩
 .show(w'.heap.push _)[w'.heap.size]? = _;simp
 .injection e' with e';injection e' with F _;subst F e;have:=(jX.1 h.fst.2.2).1;omega
theorem wi_{b:Nat}{cs:Array tW}(h:Ext w w')(j:w.heap.size<=b):Ext w (w'.setRow b cs):=by
 have h1:=h.below;exact Ext.of_below ⟨h1.os,h1.tape,h1.output,by rw[setRow_size];exact h1.size,λk f=>(cw_ w' b k cs (by omega)).trans (h1.block k f)⟩
theorem PrS.setA{b x:Nat}{p f:tL tW}{u:tW}(h:PrS N w a0 T1 d1 T2 d2 (some (b,p)) β a w')(D:x≠d1)(C:x≠d2)(ho:o.op = .store T1 (.tmp d1) (.tmp x))(hg:o.guard=none)(J:o.dst=none)
  (hu:a0.tmps[x]? = some u) (m:u.cells.toList=f) (hn:aK_ P T1=some f.length) (y:p.length=f.length) (h1:b5_ f=true)
  (hK:∀M,PrS N w a0 T1 d1 T2 d2 (some (b,f)) β a M->K a M):wpList P ops (Exit.then K Q) [o] a w':=by
 obtain⟨s,U,O⟩:=h.fst;have F:u.cells.size=f.length:=by rw[←m,qO]
 have G:splice p 0 f=f:=by
  unfold splice;simp[y]
 have j:=fE_ (P:=P) (w:=w') (ρ:=a.eval) (o:=o) (v:=u) (off:=0) ho (by simp[Act.eval,s]) (by simp[Act.eval,(h.same x D C).trans hu]) O (by rw[hn,F]) (by apply zC;omega) (by rw[m];exact h1);rw[m,G]at j;refine one_skip hg J j (hK _ ⟨wi_ h.ext U,h.size,h.defers,h.same,⟨s,U,fk_ w' b _ _ T1 O⟩,?_,λb1 vs b' vs' e e'=>?_⟩)
 .cases β with
  | none=>trivial
  | some q=>
   obtain⟨Z,Y,V⟩:=h.snd;exact⟨Z,Y,(cw_ w' b q.1 _ (Ne.symm (h.ne b p q.1 q.2 rfl rfl))).trans V⟩
 .injection e with e;injection e with s _;subst s;exact h.ne _ _ _ _ rfl e'
theorem PrS.setB{b x:Nat}{z2 f:tL tW}{u:tW}(h:PrS N w a0 T1 d1 T2 d2 α (some (b,z2)) a w')(C:x≠d1)(y:x≠d2)(ho:o.op = .store T2 (.tmp d2) (.tmp x))(hg:o.guard=none)(G:o.dst=none)
  (Z:a0.tmps[x]? = some u) (m:u.cells.toList=f) (hn:aK_ P T2=some f.length) (s:z2.length=f.length) (h1:b5_ f=true)
  (hK:∀J,PrS N w a0 T1 d1 T2 d2 α (some (b,f)) a J->K a J):wpList P ops (Exit.then K Q) [o] a w':=by
 obtain⟨p,O,M⟩:=h.snd;have D:u.cells.size=f.length:=by rw[←m,qO]
 have F:splice z2 0 f=f:=by
  unfold splice;simp[s]
 have j:=fE_ (P:=P) (w:=w') (ρ:=a.eval) (o:=o) (v:=u) (off:=0) ho (by simp[Act.eval,p]) (by simp[Act.eval,(h.same x C y).trans Z]) M (by rw[hn,D]) (by apply zC;omega) (by rw[m];exact h1);rw[m,F]at j;refine one_skip hg G j (hK _ ⟨wi_ h.ext O,h.size,h.defers,h.same,?_,⟨p,O,fk_ w' b _ _ T2 M⟩,λb1 vs b' vs' e e'=>?_⟩)
 .cases α with
  | none=>trivial
  | some q=>
   obtain⟨Y,V,U⟩:=h.fst;exact⟨Y,V,(cw_ w' b q.1 _ (h.ne q.1 q.2 b z2 rfl rfl)).trans U⟩
 .injection e' with e';injection e' with p _;subst p;exact h.ne _ _ _ _ e rfl
end
theorem sh_{o:tI}{T d:Nat}(h:tv_ o=some (T,d)):o.op = .alloc T/\o.guard=none/\o.dst=some d:=by
 unfold tv_ at h;split at h
 .rename_i h1 j f;injection qSj h with p m;subst p m;exact⟨h1,j,f⟩
 .cases h
theorem si_{o:tI}{T d x:Nat}(h:tw_ o=some (T,d,x)):o.op = .store T (.tmp d) (.tmp x)/\o.guard=none/\o.dst=none:=by
 unfold tw_ at h;split at h
 .rename_i h1 m j;injection qSj h with q f;injection f with f p;subst q f p;exact⟨h1,m,j⟩
 .cases h
section
variable{w:tS}{a:Act}{l:tL tI}{o o':tI}{tl fr:tL Nat}{I:tS->Prop}{Q:Exit->Act->tS->Prop}{i fl:Nat}{rest pre post:tL (Nat×tV)}
theorem qv_(m:l[i]? = some o)(h:∀j,Ext w j->wpList P l.toArray (Exit.then (λp w'=>(tl.contains i=false->I w->I w')/\bc_ P l.toArray tl fr I Q rest p w') (b9_ Q)) [o] a j):bc_ P l.toArray tl fr I Q ((i,true)::rest) a w:=by
 have f:l.toArray[i]? = some o:=by simpa using m
 simp only[bc_,f];exact λX d=>h _ ⟨X,d,rfl⟩
theorem mxF_loud(q:l[i]? = some o)(s:l[fl]? = some o')(h:∀f,Ext w f->wpList P l.toArray (Exit.then (λp w'=>(tl.contains i=false->I w->I w')/\b4_ P l.toArray tl fr I Q fl post pre p w') (b9_ Q)) [o] a f)
  (u:∀f,Ext w f->wpList P l.toArray (Exit.then (λp w'=>(tl.contains fl=false->I w->I w')/\bc_ P l.toArray tl fr I Q ((i,true)::pre++post) p w') (b9_ Q)) [o'] a f):b4_ P l.toArray tl fr I Q fl post ((i,true)::pre) a w:=by
 have j:l.toArray[i]? = some o:=by simpa using q
 have m:l.toArray[fl]? = some o':=by simpa using s
 simp only[b4_,j,m];exact⟨λX d=>h _ ⟨X,d,rfl⟩,λX d=>u _ ⟨X,d,rfl⟩⟩
end
theorem evPair_ok (Zo:∀p∈eqs,aG_ P E p.1 p.2) (ht:tab.OK P E) {R:Type} {l:tL tI} {p:Nat} {id:Nat} {b:Ba E} {s:St E} {k:St E->tO R} {r:R} {a:Act} {w:tS} {Q:Exit->Act->tS->Prop} (h:evPair P E eqs tab N l p b s k=some r) (hR:Rel P E Bs F0 w0 N (s.L b) (s.H b) s.nx a w)
  (hK:∀s' V w',k s'=some r->Rel P E Bs F0 w0 N (s'.L b) (s'.H b) s'.nx V w'->Q .normal V w'):(Code.region id l.toArray true).wp P Q a w:=by
 unfold evPair at h;split at h
 .rename_i oA oB oC oD hl;split at h
  .rename_i T1 d1 T2 d2 S1 e1 x1 S2 e2 x2 hA hB hC hD;split at h
   .cases h
   .rename_i ZY;simp only[qAn]at ZY;obtain⟨hm,ZK,hp⟩:=ZY;unfold pairB at hp;simp only[qAn,qF]at hp;obtain⟨⟨YV,YW⟩,⟨Zm,Zn⟩,⟨m,Z,Y⟩,⟨U,O⟩,M,G⟩:=hp;obtain rfl:=qNb YV;obtain rfl:=qNb YW;obtain rfl:=qNb Zm;obtain rfl:=qNb Zn;have m:=bk_ m;have U:=bk_ U;have O:=bk_ O;have M:=bk_ M;have G:=bk_ G;have Z:e1<N:=by simpa using Z
    have Y:e2<N:=by simpa using Y
    obtain⟨ZS,ZT,ZU⟩:=sh_ hA;obtain⟨ZV,ZW,ZX⟩:=sh_ hB;obtain⟨Zz,ZA,ZB⟩:=si_ hC;obtain⟨ZC,ZD,ZE⟩:=si_ hD;have iA:l[p]? = some oA:=by have:=qo (xs:=l) (i:=p) (j:=0);rw[hl]at this;simpa using this.symm
    have iB:l[p+1]? = some oB:=by have:=qo (xs:=l) (i:=p) (j:=1);rw[hl]at this;simpa using this.symm
    have iC:l[p+2]? = some oC:=by have:=qo (xs:=l) (i:=p) (j:=2);rw[hl]at this;simpa using this.symm
    have iD:l[p+3]? = some oD:=by have:=qo (xs:=l) (i:=p) (j:=3);rw[hl]at this;simpa using this.symm
    have YU:∀w1 w',Ext w w1->Ext w1 w'->Ext w w':=λ_ _ h1 h2=>h1.trans h2
    have hI:∀z g H,HR P E Bs F0.z.F w0 w z g H->F0.z.Le z->∀w',Ext w w'->Keeps P E z g H w w':=λz g H h1 _ w' h2=>Keeps.of_ext h1 h2
    refine o9_ (I:=Ext w) YU [p+3] [] _ _ hm ZK (Ext.refl w) ?_
    have := fn_ (wd_ Zo ht l [p+3] [] p (λ_ _=>rfl) w (Ext w) hI Q (p+1) [(p+2,true),(p+3,true)]) _ (tl:=l.drop p) (J:=λV w'=>w'=w->b4_ P l.toArray [p+3] [] (Ext w) Q (p+1) [(p+2,true),(p+3,true)] [(p,true)] V w') h (by simp) hR trivial λs1 V w' h1 h2 _ hw=>by
     subst hw;split at h1
     .rename_i v1 v2 Zt Zu;split at h1
      .rename_i c1 c2 z1 z2 n1 n2 Ze Zl ZO ZQ ZL ZM;split at h1
       .rename_i hb;simp only[qAn]at hb;obtain⟨⟨YX,YY⟩,YZ,Za⟩:=hb;obtain⟨z,g,hE,hH,hf,Zy,Zp⟩:=h2;obtain⟨u1,t1,r1⟩:=hE.get x1 _ Zt;obtain⟨u2,t2,r2⟩:=hE.get x2 _ Zu;have q1:=SV.cells_ok Ze r1;have q2:=SV.cells_ok Zl r2;have l1:n1=u1.cells.toList.length:=(qNb YX).trans q1.len;have l2:n2=u2.cells.toList.length:=(qNb YZ).trans q2.len;have ZP:z1.length=u1.cells.toList.length:=(qNb YY).trans l1;have ZR:z2.length=u2.cells.toList.length:=(qNb Za).trans l2;rw[l1]at ZL;rw[l2]at ZM;have ZN:g s1.nx=none:=hf.self;have ZJ:∀a2 D x y,PrS N w' V S1 e1 S2 e2 (some (x,u1.cells.toList)) (some (y,u2.cells.toList)) a2 D->∀X d,Q .normal a2 (D.ext X d):=λa2 D x y C X d=>by
         have C:=C.go ⟨X,d,rfl⟩;obtain⟨f1,f2,f3⟩:=C.fst;obtain⟨k1,k2,k3⟩:=C.snd;have Zr:=C.ne _ _ _ _ rfl rfl;have g1:=Ga.le_put (l:=⟨none,0,0,0,x,0⟩) ZN;have ZZ:(g.put s1.nx ⟨none,0,0,0,x,0⟩) (s1.nx+2)=none:=by
          rw[Ga.put_ne _ _ (by omega)];exact hf _ (by omega)
         have g2:=Ga.le_put (l:=⟨none,0,0,0,y,0⟩) ZZ;have far:∀q,w'.heap.size<=q->∀id o k,s1.H b id=some o->fpO g id o k->k≠q:=λq hq id o k e hk=>by
          have:=(hH.hold id o e).lt hk;omega
         have nfz:∀q,w'.heap.size<=q->¬z.F q:=λq hq hz=>by
          have:=(hH.fz q hz).1;omega
         have h3:=(hH.ext C.ext).adopt (n:=s1.nx) (q:=x) (T:=S1) ZN ⟨f3,qN hH.size f2,far x f2,nfz x f2⟩ (q1.mono λ_ _ h=>RC.le h (Fz.Le.refl z) g1);have h4:=h3.adopt (n:=s1.nx+2) (q:=y) (T:=S2) ZZ ⟨k3,qN hH.size k2,λid o k e hk=>by
          rcases aP_ e with⟨rfl,rfl⟩|⟨_,e2⟩
          .obtain⟨l',h5,h6⟩:=hk;rw[Ga.put_self]at h5;obtain rfl:=qSj h5;rw[h6];exact Zr
          .exact far y k2 id o k e2 ((hu_ ((hH.hold id o e2).loc) g1).1 hk),nfz y k2⟩ (q2.mono λ_ _ h=>RC.le (RC.le h (Fz.Le.refl z) g1) (Fz.Le.refl z) g2)
         refine hK _ a2 _ h1 ⟨z,_,⟨C.size,C.defers,λt u hu=>?_⟩,?_,λi hi=>?_,Zy,Zp.trans (g1.trans g2)⟩
         .simp only[St.L,aF_]at hu;cases c2:Nat.beq t e2 with
          | true=>
           rw[c2]at hu;obtain rfl:=qNb c2;obtain rfl:=qSj hu;exact⟨_,k1,_,Ga.put_self _ _ _,rfl⟩
          | false=>
           rw[c2]at hu;cases c1:Nat.beq t e1 with
           | true=>
            rw[c1]at hu;obtain rfl:=qNb c1;obtain rfl:=qSj hu;exact⟨_,f1,_,g2 _ _ (Ga.put_self _ _ _),rfl⟩
           | false=>
            rw[c1]at hu;obtain⟨v,h5,h6⟩:=hE.get t u hu;exact⟨v,(C.same t (bk_ c1) (bk_ c2)).trans h5,h6.le (Fz.Le.refl z) (g1.trans g2)⟩
         .exact h4
         .have hi:s1.nx+8<=i:=hi;rw[Ga.put_ne _ _ (by omega),Ga.put_ne _ _ (by omega)];exact hf i (by omega)
        have YT:∀a2 D x y,PrS N w' V S1 e1 S2 e2 (some (x,u1.cells.toList)) (some (y,z2)) a2 D->bc_ P l.toArray [p+3] [] (Ext w') Q [(p+3,true)] a2 D:=λa2 D x y C=>
         qv_ iD λw3 hx=>(C.go hx).setB M G ZC ZD ZE t2 rfl ZM ZR (RC.cells q2) λw4 f=>⟨λhc=>(by simp at hc),ZJ _ _ _ _ f⟩
        have ZF:∀a2 D x y,PrS N w' V S1 e1 S2 e2 (some (x,z1)) (some (y,z2)) a2 D->bc_ P l.toArray [p+3] [] (Ext w') Q [(p+2,true),(p+3,true)] a2 D:=λa2 D x y C=>
         qv_ iC λw3 hx=>(C.go hx).setA U O Zz ZA ZB t1 rfl ZL ZP (RC.cells q1) λw4 f=>⟨λ_ _=>f.ext,YT _ _ _ _ f⟩
        have ZG:PrS N w' V S1 e1 S2 e2 none none V w':=⟨Ext.refl w',hE.size,hE.defers,λ_ _ _=>rfl,trivial,trivial,λ_ _ _ _ e=>nomatch e⟩;refine mxF_loud iA iB (λw3 hx=>(ZG.go hx).mkA m Z ZO ZS ZT ZU λa4 w4 x f=>⟨λ_ _=>f.ext,?_⟩) λw3 hx=>(ZG.go hx).mkB m Y ZQ ZV ZW ZX λa4 w4 y f=>⟨λ_ _=>f.ext,?_⟩
        .exact qv_ iB λw7 hx=>(f.go hx).mkB m Y ZQ ZV ZW ZX λa8 w8 y ZI=>⟨λ_ _=>ZI.ext,ZF _ _ _ _ ZI⟩
        .exact qv_ iA λw5 hx=>(f.go hx).mkA m Z ZO ZS ZT ZU λa6 w6 x ZH=>⟨λ_ _=>ZH.ext,ZF _ _ _ _ ZH⟩
       .cases h1
      .cases h1
     .cases h1
    exact this rfl (by rw[qj];exact jB _ _) _ λV h1=>h1 rfl
  .cases h
 .cases h
end Rt
namespace Rt
open Go.RowKit
section
variable{P:tT}{E:TE}{eqs:tL (Nat×Nat)}{tab:Tab E}{N:Nat}{Bs:tL Nat}{F0:Org}{w0:tS}{RT:Type}{rv:Ba E->St E->tO RT}{Qr:RT->Act->tS->Prop}
theorem evCode_both(M:∀p∈eqs,aG_ P E p.1 p.2)(O:tab.OK P E)(Z:∀b s a w y,Rel P E Bs F0 w0 N (s.L b) (s.H b) s.nx a w->rv b s=some y->Qr y a w):∀(c:Code),eW_ P E eqs tab N Bs F0 w0 RT rv Qr c/\∀body,c = .loop body->eW_ P E eqs tab N Bs F0 w0 RT rv Qr body:=by
 intro c
 induction c with
 | skip=>
  refine⟨?_,λ_ e=>nomatch e⟩;intro pl R b s k kr r a w Q f h u C q;rw[evCode.eq_def]at h;exact wp_skip (C none s a w h u)
 | region id ops d=>
  refine⟨?_,λ_ e=>nomatch e⟩;intro pl R b s k kr r a w Q f h u C q;rw[evCode.eq_def]at h;cases d with
  | true=>
   cases pl with
   | dr fl V fm ids=>
    have:=evDraw_ok (id:=id) (Q:=Q) M O h u λF J w' h1 G=>C none F J w' h1 G
    rw[qw]at this;exact this
   | df fl V p=>
    have:=evFloat_ok (id:=id) (Q:=Q) M O h u λF J w' h1 G=>C none F J w' h1 G
    rw[qw]at this;exact this
   | ot p t=>
    have:=evOrd_ok (id:=id) (Q:=Q) M O h u λF J w' h1 G=>C none F J w' h1 G
    rw[qw]at this;exact this
   | sq p=>
    have:=evChain_ok (id:=id) (Q:=Q) M O h u λF J w' h1 G=>C none F J w' h1 G
    rw[qw]at this;exact this
   | pr p=>
    have:=evPair_ok (id:=id) (Q:=Q) M O h u λF J w' h1 G=>C none F J w' h1 G
    rw[qw]at this;exact this
   | _=>cases h
  | false=>
   have old:evReg P E eqs tab N ops.toList b s (k none)=some r->(Code.region id ops false).wp P Q a w:=λh=>by
    have:=evReg_ok (id:=id) (Q:=Q) M O h u λF J w' h1 G=>C none F J w' h1 G
    rw[qw]at this;exact this
   cases pl with
   | ot p t=>
    have:=evLin_ok (id:=id) (Q:=Q) M O h u λF J w' h1 G=>C none F J w' h1 G
    rw[qw]at this;exact this
   | _=>exact old h
 | seq x y hx D=>
  refine⟨?_,λ_ e=>nomatch e⟩;obtain⟨hx,_⟩:=hx;obtain⟨D,_⟩:=D;intro pl R b s k kr r a w Q f h u C q;cases pl with
  | j m ret px py=>
   cases ret with
   | false=>exact seqJoin f hx D h u C q
   | true=>exact seqJoinR f hx D h u C q
  | p=>exact ey_ f hx D h u C q
  | s px py=>exact ey_ f hx D h u C q
  | lp hd U ret px=>exact ey_ f hx D h u C q
  | dr fl V fm ids=>exact ey_ f hx D h u C q
  | df fl V p=>exact ey_ f hx D h u C q
  | ot p t=>exact ey_ f hx D h u C q
  | sq p=>exact ey_ f hx D h u C q
  | pr p=>exact ey_ f hx D h u C q
  | lx hd U rm px=>exact ey_ f hx D h u C q
  | rx=>exact ey_ f hx D h u C q
 | cond t x y hx D=>
  refine⟨?_,λ_ e=>nomatch e⟩;obtain⟨hx,_⟩:=hx;obtain⟨D,_⟩:=D;intro pl R b s k kr r a w Q f h u C q;rw[evCode.eq_def]at h;simp only at h;split at h
  .rename_i c hc;have hv:a.eval t = .bool c:=by
    obtain⟨z,g,hE,ZZ,_⟩:=u;exact SV.bool_ok rfl (hE.op ZZ.gl _ _ hc)
   refine wp_cond hv ?_;cases c with
   | true=>exact hx _ R b s k kr r a w Q f h u C q
   | false=>exact D _ R b s k kr r a w Q f h u C q
  .cases h
 | block id x hx=>
  refine⟨?_,λ_ e=>nomatch e⟩;obtain⟨hx,hl⟩:=hx;intro pl R b s k kr r a w Q f h u C q;have plain:evCode P E eqs tab N RT rv x pl R b s (λU F=>match U with
   | none=>k none F
   | some i=>match Nat.beq i (id+1)with
    | true=>k none F
    | false=>k (some i) F) kr=some r->(Code.block id x).wp P Q a w:=λh=>blockPlain f hx h u C q
  cases x with
  | loop body=>
   cases pl with
   | lp hd U ret pb=>
    have Y:=hl body rfl;rw[evCode.eq_def]at h;simp only at h;split at h
    .cases h
    .rename_i h0 hm;cases ret with
     | false=>exact loopPlain f Y hm h u C
     | true=>exact loopPlainR f Y hm h u C q
   | p=>exact plain h
   | s px py=>exact plain h
   | j m ret px py=>exact plain h
   | dr fl V fm ids=>exact plain h
   | df fl V p=>exact plain h
   | ot p t=>exact plain h
   | sq p=>exact plain h
   | pr p=>exact plain h
   | lx hd U rm pb=>
    have Y:=hl body rfl;rw[evCode.eq_def]at h;simp only at h;split at h
    .cases h
    .rename_i h0 hm;exact loopPlainX f Y hm h u C
   | rx=>exact plain h
  | _=>exact plain h
 | exit i=>
  refine⟨?_,λ_ e=>nomatch e⟩;intro pl R b s k kr r a w Q f h u C q;exact wp_exit (C (some (i+1)) s a w h u)
 | scope x hx=>
  refine⟨?_,λ_ e=>nomatch e⟩;obtain⟨hx,_⟩:=hx;intro pl R b s k kr r a w Q f h u C q;exact wp_scope_straight (hx pl R b s k kr r a w _ f h u (λU F J w' h1 G=>by rcases U with _|_|i<;>exact C _ F J w' h1 G) λy J w' h1 G=>q y J w' h1 G)
 | ret=>
  refine⟨?_,λ_ e=>nomatch e⟩;intro pl R b s k kr r a w Q f h u C q;have old:(match rv b s with
   | some y=>kr y
   | none=>none)=some r->Code.ret.wp P Q a w:=λh=>by
   split at h
   .rename_i y D;exact wp_ret (q y a w h (Z b s a w y u D))
   .cases h
  rw[evCode.eq_def]at h;cases pl with
  | rx=>exact wp_ret (C (some 0) s a w h u)
  | _=>exact old h
 | loop x hx=>
  refine⟨?_,λbody e=>by injection e with e;subst e;exact hx.1⟩;intro pl R b s k kr r a w Q f h u C q;rw[evCode.eq_def]at h;cases h
 | _=>
  refine⟨?_,λ_ e=>nomatch e⟩;intro pl R b s k kr r a w Q f h u C q;rw[evCode.eq_def]at h;cases h
theorem evCode_ok(h:∀p∈eqs,aG_ P E p.1 p.2)(j:tab.OK P E)(f:∀b s a w y,Rel P E Bs F0 w0 N (s.L b) (s.H b) s.nx a w->rv b s=some y->Qr y a w)(c:Code):eW_ P E eqs tab N Bs F0 w0 RT rv Qr c:=(evCode_both h j f c).1
end
section
variable{P:tT}{E:TE}{z z':Fz}{g g':Ga}{w w0:tS}{Bs:tL Nat}{F0:Nat->Prop}{N:Nat}{H:Nat->tO (Obj E)}
theorem frzR_ok(h:HR P E Bs F0 w0 w z g H):∀(rs:Rs) (xs:tL (V1 E)),∃z',z.Le z'/\HR P E Bs F0 w0 w z' g (upH H (frzR E H rs xs))
 | [],_=>⟨z,Fz.Le.refl z,h⟩
 | (_,_)::_,[]=>⟨z,Fz.Le.refl z,h⟩
 | (t,m)::rs,x::xs=>by
  obtain⟨q,h1,p⟩:=frzR_ok h rs xs;obtain⟨z2,j,f⟩:=di_ p (unM m x.cs);rw[aJ_]at f;exact⟨z2,h1.trans j,f⟩
theorem fR_:∀(ps:tL Pm) (n:Nat) {z:Fz} {H:Nat->tO (Obj E)},HR P E Bs F0 w0 w z g H->∃z',z.Le z'/\HR P E Bs F0 w0 w z' g (upH H (frzV E H ps n))
 | [],_,z,_,h=>⟨z,Fz.Le.refl z,h⟩
 | .b _ _::ps,n,z,H,h=>by
  obtain⟨s,h1,j⟩:=fR_ ps (n+1) h;unfold frzV;split
  .obtain⟨z2,q,f⟩:=di_ j ‹tL (SC E)›;rw[aJ_]at f;exact⟨z2,h1.trans q,f⟩
  .exact⟨s,h1,j⟩
 | .bm _ t m _::ps,n,z,H,h=>by
  obtain⟨s,h1,j⟩:=fR_ ps (n+1+aC_ m (E.flat t)) h;unfold frzV;split
  .rename_i cs _;obtain⟨z2,q,f⟩:=di_ j (unM m cs);rw[aJ_]at f;exact⟨z2,h1.trans q,f⟩
  .rename_i cs _ _;obtain⟨z2,q,f⟩:=di_ j (unM m cs);rw[aJ_]at f;exact⟨z2,h1.trans q,f⟩
  .exact⟨s,h1,j⟩
 | .l t m::ps,n,z,_,h=>fR_ ps _ h
 | .g t m::ps,n,z,_,h=>fR_ ps _ h
 | .mp _ _ _::ps,n,z,_,h=>fR_ ps _ h
 | .d _::ps,n,z,_,h=>fR_ ps n h
 | .p _::ps,n,z,_,h=>fR_ ps n h
 | .f1 _ _::ps,n,z,_,h=>fR_ ps n h
 | .f2 _ _ _::ps,n,z,_,h=>fR_ ps n h
theorem frzA_ok(h:HR P E Bs F0 w0 w z g H)(ps:tL Pm)(rs:Rs)(xs:tL (V1 E)):∃z',z.Le z'/\HR P E Bs F0 w0 w z' g (upH H (frzA E H ps rs xs)):=by
 obtain⟨p,h1,m⟩:=frzR_ok h rs xs;obtain⟨z2,j,f⟩:=fR_ ps 0 m;rw[aJ_]at f;exact⟨z2,h1.trans j,f⟩
theorem resSV_ok{b:Ba E}{s:St E}{a:Act}{v:ResultVar}{x:V1 E}(D:ER P E z g N a (s.L b))(C:HR P E Bs F0 w0 w z g (s.H b))(h:resSV E P b s v=some x):∃u,(mE_ a.tmps v).run P w = .ok u w/\R1 P E z g x u:=by
 cases v with
 | tmp t=>
  unfold resSV at h;simp only at h;split at h
  .rename_i y hL;obtain rfl:=qSj h;obtain⟨u,h1,q⟩:=D.get t _ hL;refine⟨u,?_,q⟩;have:a.tmps.getD t undef=u:=by rw[Array.getD_eq_getD_getElem?,h1];rfl
   simp only[mE_,this,Sem.run_pure]
  .cases h
 | cell t T=>
  unfold resSV at h;simp only at h;split at h
  .rename_i c hL;split at h
   .rename_i l off J;obtain⟨u,h1,q⟩:=D.get t _ hL;obtain⟨bb,base,vs,rfl,F,G⟩:=behind_ok C J q;obtain⟨v,m,j⟩:=uF_ h F;refine⟨v,?_,j⟩;have:a.tmps.getD t undef = .pointer (some ⟨bb,base+off,none⟩):=by rw[Array.getD_eq_getD_getElem?,h1];rfl
    have p:(asAddr (.pointer (some ⟨bb,base+off,none⟩))).run P w = .ok ⟨bb,base+off,none⟩ w:=rfl;have f:=ok_ (P:=P) m (G w (Stands.refl C));simp only[mE_,this,Sem.run_bind,p,Result.andThen_ok,f]
   .cases h
  .cases h
theorem uV_{b:Ba E}{s:St E}{a:Act}(j:ER P E z g N a (s.L b))(f:HR P E Bs F0 w0 w z g (s.H b)):∀{vs:tL ResultVar} {xs:tL (V1 E)},resXs E P b s vs=some xs->∃us,(vs.mapM (mE_ a.tmps)).run P w = .ok us w/\All2 (R1 P E z g) xs us
 | [],xs,h=>by obtain rfl:=qSj h;exact⟨[],rfl,.nil⟩
 | v::vs,xs,h=>by
  simp only[resXs]at h;split at h
  .rename_i x l hx m;obtain rfl:=qSj h;obtain⟨u,h1,y⟩:=resSV_ok j f hx;obtain⟨us,q,p⟩:=uV_ j f m;refine⟨u::us,?_,.cons y p⟩;rw[List.mapM_cons,Sem.run_bind,h1];simp only[Sem.run_pure,Result.andThen_ok,Sem.run_bind,q]
  .cases h
theorem tuple_out{fn:Func}{a:Act}{rs:tL ResultVar}{us:tL tW}(j:fn.results.toList=rs)(h:(rs.mapM (mE_ a.tmps)).run P w = .ok us w):(results fn a.tmps).run P w = .ok (tupleOf us) w:=by
 have f:fn.results=rs.toArray:=by rw[←j,qw]
 rw[results_eq,f,List.mapM_toArray,Sem.run_bind];have:((List.toArray <$> (rs.mapM (mE_ a.tmps))).run P w) = .ok us.toArray w:=by
  rw[map_eq_pure_bind,Sem.run_bind,h];rfl
 rw[this];simp only[Result.andThen_ok,Sem.run_pure]
 congr 1
 match us with
 | []=>rfl
 | [v]=>rfl
 | v::u::r=>simp[tupleOf]
theorem takeR_ok(M:HR P E Bs F0 w0 w z g H){I:tL Nat}:∀{rs:Rs} {xs:tL (V1 E)} {q:HL E.S rs.ts×tL Nat} {us:tL tW} {n:Nat},takeR E H rs xs=some q->(∀j id,q.2[j]? = some id->I[n+j]? = some id)->All2 (R1 P E z g) xs us ->
  (∃svr,resV E rs q.1 n=some svr/\All2 (R1 P E z (gOf g I)) svr us)/\(∀i o,(i,o)∈cA_ E rs q.1 n->∃id G o2,I[i]? = some id/\H id=some G/\o=some o2/\Cor E H I G o2)/\q.2.length=cj_ E rs
 | [],[],q,us,n,h,_,D=>by
  cases D
  obtain rfl:=qSj h;exact⟨⟨[],rfl,.nil⟩,(λi o hm=>nomatch hm),rfl⟩
 | [],_::_,q,us,n,h,_,_=>by simp[takeR]at h
 | (t,m)::rs,[],q,us,n,h,_,_=>by simp[takeR]at h
 | (t,m)::rs,x::xs,q,us,n,h,hI,D=>by
  simp only[takeR]at h;split at h
  .rename_i d q' Z J Y;obtain rfl:=qSj h;obtain⟨C,F⟩:=mz_ hI;cases D with
   | @cons _ u _ us' hx hr=>
    obtain⟨e7,O⟩:=mG_ (I:=I) (n:=n) J C;obtain⟨⟨svr,V,e2⟩,U,e4⟩:=takeR_ok M (n:=n+d.2.length) Y F hr;rw[O]at V U;have p:∀vs,All2 (RC P E z g) x.cs vs->_:=λvs f=>li_ M J C f
    obtain⟨y,e5,e6⟩:=asV_ok (z':=z) (g':=gOf g I) (l:=bp_ E m (E.flat t) d.1 n) Z (by
     have:∃vs,All2 (RC P E z g) x.cs vs:=by
      cases x with
      | one c=>exact⟨[u],.cons hx .nil⟩
      | agg l=>obtain⟨vs,_,h⟩:=hx;exact⟨vs,h⟩
     obtain⟨vs,f⟩:=this;rw[(p vs f).2.1,(p vs f).2.2]) hx λvs f=>(p vs f).1
    refine⟨⟨y::svr,by simp only[resV,V,E.fl_ufl,e5],.cons e6 e2⟩,λi o s=>?_,by simp only[qLa,O,e4];rfl⟩;simp only[cA_,qW,E.fl_ufl]at s;rcases s with s|s
    .exact e7 i o s
    .exact U i o s
  .cases h
theorem HR.leave(m:HR P E Bs F0 w0 w z g H){I:tL Nat}{l:Chs E}(U:∀i j o p id,(i,o)∈l->(j,p)∈l->I[i]? = some id->I[j]? = some id->i=j)(V:∀i o,(i,o)∈l->∃id f o2,I[i]? = some id/\H id=some f/\o=some o2/\Cor E H I f o2) :
  HR P E Bs F0 w0 w z (gOf g I) (upH (λ_=>none) l):=by
 have key:∀i o,upH (λ_=>none) l i=some o->∃id f,I[i]? = some id/\H id=some f/\ObjR P E z (gOf g I) w i o/\∀k,fpO (gOf g I) i o k↔fpO g id f k:=λi o h=>by
  obtain⟨id,f,o2,h1,q,Z,Y⟩:=V i _ (i0_ h);obtain rfl:=qSj Z;obtain⟨F,s⟩:=Y.obj m h1 (m.hold _ _ q);exact⟨id,f,h1,q,F,s⟩
 refine⟨m.chg,λi o h=>?_,λi o k h u=>?_,λi j o p k C h M u y=>?_,m.fz,m.fz0,λi o k h u O=>?_,m.gl⟩
 .obtain⟨_,_,_,_,F,_⟩:=key i o h;exact F
 .obtain⟨id,f,_,q,_,s⟩:=key i o h;exact m.own id f k q ((s k).1 u)
 .obtain⟨id,f,h1,q,_,s⟩:=key i o h;obtain⟨id',x,J,G,_,D⟩:=key j p M;refine m.apart id id' f x k (λe=>?_) q G ((s k).1 u) ((D k).1 y);subst e;exact C (U i j _ _ _ (i0_ h) (i0_ M) h1 J)
 .obtain⟨id,f,h1,q,_,s⟩:=key i o h;exact m.fza id f k q ((s k).1 u) O
end
end Rt
end Go
