/-
 What the statements of this seat hang on,part 4: Rq Sa Sb Sq Sr Sc Sd Se Sf Sg Sh Si Sj Sk.
-/
import Derived.Test.YtkammpnldgkiiaaGreatDoorXA3
namespace Go
namespace Rt
open Go.RowKit
variable{E:TE}
inductive CP where
 | v (t:Ty)
 | own (j:Nat)
 | ptr (j:Nat)
 | mp (j:Nat)
 | sbp (j:Nat)
inductive VP where
 | d (t:Ty)
 | one (c:CP)
 | agg (l:List CP)
inductive OP where
 | box (T:TypeId) (t:Ty)
 | cells (T:TypeId) (l:List CP)
 | row (e:TypeId) (t:Ty) (foc:List (Nat×Nat))
 | map (T:TypeId) (k v:Ty)
structure JP where (slots:List (Nat×VP)) (objs:List (Nat×Bool×OP)) (keep hkeep gkeep:List Nat) (nx:Nat)
def cpT:List CP->List Ty | []=>[] | .v t::l=>t::cpT l|_::l=>cpT l
def VP.T:VP->List Ty | .d t=>[t] | .one c=>cpT [c] | .agg l=>cpT l
def OP.T:OP->List Ty | .box _ t=>[t] | .cells _ l=>cpT l | .row _ t _=>[.sl t] | .map _ k v=>[.sl k,.sl v]
def cx_:List (Nat×VP)->List Ty | []=>[]|p::l=>p.2.T++cx_ l
def dR_:List (Nat×Bool×OP)->List Ty | []=>[]|p::l=>p.2.2.T++dR_ l
def JP.T(j:JP):List Ty:=cx_ j.slots++dR_ j.objs
def hap{S:Nat->Type}:{ts us:List Ty}->HL S ts->HL S us->HL S (ts++us) | [],_,_,h=>h|_::_,_,a,h=>(a.1,hap a.2 h)
def hfst{S:Nat->Type}:(ts us:List Ty)->HL S (ts++us)->HL S ts | [],_,_=>()|_::ts,us,h=>(h.1,hfst ts us h.2)
def hsnd{S:Nat->Type}:(ts us:List Ty)->HL S (ts++us)->HL S us | [],_,h=>h|_::ts,us,h=>hsnd ts us h.2
def rowOf(j:Nat):List (Nat×Bool×OP)->Option (TypeId×Ty)
 | []=>none
 | (i,_,.row e t _)::l=>match Nat.beq i j with
  | true=>some (e,t)
  | false=>rowOf j l
 | _::l=>rowOf j l
def wantC(objs:List (Nat×Bool×OP)):List CP->List (Option (TypeId×Ty)) | .own j::ps=>rowOf j objs::wantC objs ps|_::ps=>none::wantC objs ps | []=>[]
def prepRs(E:TE){α:Type}:Rs->List (V1 E)->Nat->(List (V1 E)->Chs E->Nat->α)->α|(t,m)::rs,x::xs,n,k=>fI_ E t m x n λx' u n1=>prepRs E rs xs n1 λxs' u' n2=>k (x'::xs') (u'++u) n2|_,xs,n,k=>k xs [] n
def prepS(b:Ba E)(s:St E)(objs:List (Nat×Bool×OP)):Nat×VP->St E
 | (t,.one (.own j))=>match s.L b t,rowOf j objs with
  | some (.v (.one .nils)),some (e,ty)=>{ s with env:=(t,some (.v (.one (.own s.nx))))::s.env,heap:=(s.nx,some (.row e ty [] []))::s.heap,nx:=s.nx+1 }
  | some (.v (.one (.pre id n))),_=>match s.H b id with
   | some (.row e ty xs _)=>{ s with env:=(t,some (.v (.one (.own s.nx))))::s.env,heap:=(s.nx,some (.row e ty (xs.take n.toNat) []))::(id,none)::s.heap,nx:=s.nx+1 }
   | _=>s
  | _,_=>s
 | (t,.d _)=>match s.L b t with
  | some (.v x)=>{ s with heap:=bR_ (s.H b) x.cs++s.heap }
  | _=>s
 | (t,.agg ps)=>match s.L b t with
  | some (.v (.agg cs))=>en_ (wantC objs ps) cs s.nx λl u m=>{ s with env:=(t,some (.v (.agg l)))::s.env,heap:=u++s.heap,nx:=m }
  | _=>s
 | _=>s
def e3_(b:Ba E)(objs:List (Nat×Bool×OP)):List (Nat×VP)->St E->St E | [],s=>s|p::l,s=>e3_ b objs l (prepS b s objs p)
def hO_(b:Ba E)(objs:List (Nat×Bool×OP))(s:St E):Nat×Bool×OP->St E
 | (j,true,.cells _ ps)=>match s.H b j with
  | some (.box T cs)=>en_ (wantC objs ps) cs s.nx λl u m=>{ s with heap:=(j,some (.box T l))::(u++s.heap),nx:=m }
  | _=>s
 | _=>s
def e4_(b:Ba E)(objs:List (Nat×Bool×OP)):List (Nat×Bool×OP)->St E->St E | [],s=>s|p::l,s=>e4_ b objs l (hO_ b objs s p)
def selV:List CP->List (SC E)->List (SC E) | .v _::ps,c::cs=>c::selV ps cs|_::ps,_::cs=>selV ps cs|_,_=>[]
def frzC(b:Ba E)(s:St E)(cs:List (SC E)):St E:={ s with heap:=bR_ (s.H b) cs++s.heap }
def frzS1(b:Ba E)(s:St E):Nat×VP->St E
 | (t,.agg ps)=>match s.L b t with
  | some (.v (.agg cs))=>frzC b s (selV ps cs)
  | _=>s
 | _=>s
def frzS(b:Ba E):List (Nat×VP)->St E->St E | [],s=>s|p::l,s=>frzS b l (frzS1 b s p)
def frzO1(b:Ba E)(s:St E):Nat×Bool×OP->St E
 | (j,true,.cells _ ps)=>match s.H b j with
  | some (.box _ cs)=>frzC b s (selV ps cs)
  | _=>s
 | (j,true,.box _ _)=>match s.H b j with
  | some (.box _ cs)=>frzC b s cs
  | _=>s
 | _=>s
def frzOs(b:Ba E):List (Nat×Bool×OP)->St E->St E | [],s=>s|p::l,s=>frzOs b l (frzO1 b s p)
abbrev Bd:=List (Nat×Nat)
def addB(j id:Nat)(bs:Bd):Option Bd:=match an_ j bs with
 | some id'=>match Nat.beq id id' with
  | true=>some bs
  | false=>none
 | none=>some ((j,id)::bs)
def aw_:List CP->List (SC E)->Bd->Option Bd
 | [],[],bs=>some bs
 | .v _::ps,_::cs,bs=>aw_ ps cs bs
 | .own j::ps,.own id::cs,bs=>match addB j id bs with
  | some bs=>aw_ ps cs bs
  | none=>none
 | .ptr j::ps,.ptr id 0::cs,bs=>match addB j id bs with
  | some bs=>aw_ ps cs bs
  | none=>none
 | .mp j::ps,.mp id::cs,bs=>match addB j id bs with
  | some bs=>aw_ ps cs bs
  | none=>none
 | .sbp j::ps,.sbp id::cs,bs=>match addB j id bs with
  | some bs=>aw_ ps cs bs
  | none=>none
 | _,_,_=>none
def c4_(L:Nat->Option (SV E)):List (Nat×VP)->Bd->Option Bd
 | [],bs=>some bs
 | (_,.d _)::l,bs=>c4_ L l bs
 | (t,.one p)::l,bs=>match L t with
  | some (.v (.one c))=>match aw_ [p] [c] bs with
   | some bs=>c4_ L l bs
   | none=>none
  | _=>none
 | (t,.agg ps)::l,bs=>match L t with
  | some (.v (.agg cs))=>match aw_ ps cs bs with
   | some bs=>c4_ L l bs
   | none=>none
  | _=>none
def selfB(self:Bool)(j:Nat)(bs:Bd):Option Bd:=match self with|true=>addB j j bs|false=>some bs
def eq_ (H:Nat->Option (Obj E)):List (Nat×Bool×OP)->Bd->Option Bd
 | [],bs=>some bs
 | (j,self,p)::l,bs=>match selfB self j bs with
  | some bs=>match p with
   | .cells _ ps=>match an_ j bs with
    | some id=>match H id with
     | some (.box _ cs)=>match aw_ ps cs bs with
      | some bs=>eq_ H l bs
      | none=>none
     | _=>none
    | none=>none
   | _=>eq_ H l bs
  | none=>none
def cg_{α:Type}:Bool->Option α->Option α|true,x=>x|false,_=>none
theorem br_{α:Type}{c:Bool}{x:Option α}{y:α}(h:cg_ c x=some y):c=true/\x=some y:=by
 cases c with
 | true=>exact⟨rfl,h⟩
 | false=>cases h
def castO{S:TE}(t:Ty){t':Ty}(xs:List (Den S.S t')):Option (List (Den S.S t)):=if h:t'=t then some (cc_ h xs)else none
theorem iw_{S:TE}{t t':Ty}{xs:List (Den S.S t')}{ys:List (Den S.S t)}(h:castO t xs=some ys):∃e:t'=t,ys=cc_ e xs:=by
 unfold castO at h;split at h
 .rename_i e;exact⟨e,(qSj h).symm⟩
 .cases h
def unitO{α:Type}:Option α->Option (α×Unit)|some x=>some (x,())|none=>none
theorem fL_{α:Type}{x:Option α}{q:α×Unit}(h:unitO x=some q):x=some q.1:=by
 cases x with
 | none=>cases h
 | some a=>obtain rfl:=qSj h;rfl
def hapO{S:Nat->Type}{ts us:List Ty}:Option (HL S ts)->Option (HL S us)->Option (HL S (ts++us))|some x,some y=>some (hap x y)|_,_=>none
theorem jQ_{S:Nat->Type}{ts us:List Ty}{x:Option (HL S ts)}{y:Option (HL S us)}{q:HL S (ts++us)}(h:hapO x y=some q):∃a b,x=some a/\y=some b/\q=hap a b:=by
 cases x with
 | none=>cases h
 | some a =>
  cases y with
  | none=>cases h
  | some b=>exact⟨a,b,rfl,rfl,(qSj h).symm⟩
def pairO{α β:Type}:Option α->Option β->Option (α×β)|some x,some y=>some (x,y)|_,_=>none
theorem mS_{α β:Type}{x:Option α}{y:Option β}{q:α×β}(h:pairO x y=some q):x=some q.1/\y=some q.2:=by
 cases x with
 | none=>cases h
 | some a =>
  cases y with
  | none=>cases h
  | some b=>obtain rfl:=qSj h;exact⟨rfl,rfl⟩
def bC_(H:Nat->Option (Obj E)):(ps:List CP)->List (SC E)->Option (HL E.S (cpT ps)) | [],[]=>some () | .v t::ps,c::cs=>pairO (c.data H t) (bC_ H ps cs) | .own _::ps,_::cs=>bC_ H ps cs | .ptr _::ps,_::cs=>bC_ H ps cs | .mp _::ps,_::cs=>bC_ H ps cs | .sbp _::ps,_::cs=>bC_ H ps cs|_,_=>none
def leafV(H:Nat->Option (Obj E)):(p:VP)->V1 E->Option (HL E.S p.T) | .d t,x=>unitO (takeD E H t x) | .one p,.one c=>bC_ H [p] [c] | .agg ps,.agg cs=>bC_ H ps cs|_,_=>none
def leafS(L:Nat->Option (SV E))(H:Nat->Option (Obj E)):(l:List (Nat×VP))->Option (HL E.S (cx_ l))
 | []=>some ()
 | (t,p)::l=>match L t with
  | some (.v x)=>hapO (leafV H p x) (leafS L H l)
  | _=>none
def leafO(H:Nat->Option (Obj E)):(p:OP)->Obj E->Option (HL E.S p.T) | .box T t,.box T' cs=>cg_ (Nat.beq T T') (unitO ((aN_ E H (E.flat t) cs).map (E.ufl t))) | .cells T ps,.box T' cs=>cg_ (Nat.beq T T') (bC_ H ps cs) | .row e t _,.row e' _ xs _=>cg_ (Nat.beq e e') (unitO (castO t xs)) | .map T k v,.map T' _ _ ks vs _=>cg_ (Nat.beq T T') (pairO (castO k ks) (unitO (castO v vs)))|_,_=>none
def gb_(H:Nat->Option (Obj E))(bs:Bd):(l:List (Nat×Bool×OP))->Option (HL E.S (dR_ l))
 | []=>some ()
 | (j,_,p)::l=>match an_ j bs with
  | some id=>match H id with
   | some o=>hapO (leafO H p o) (gb_ H bs l)
   | none=>none
  | none=>none
def focOK(H:Nat->Option (Obj E))(bs:Bd)(keep gkeep:List Nat):List (Nat×Bool×OP)->Bool
 | []=>true
 | (j,_,.row _ _ fs)::l=>(match an_ j bs with
  | some id=>match H id with
   | some (.row _ _ _ foc)=>fs.all λf=>(foc.any λp=>Nat.beq p.1 f.1)&&(al_ f.2 keep&&al_ f.1 gkeep)
   | _=>false
  | none=>false)&&focOK H bs keep gkeep l
 | _::l=>focOK H bs keep gkeep l
def noKey{α:Type}(i:Nat)(l:List (Nat×α)):Bool:=match an_ i l with|none=>true|some _=>false
def subset(l m:List Nat):Bool:=l.all λt=>al_ t m
def selfs:List (Nat×Bool×OP)->List Nat | []=>[]|(j,true,_)::l=>j::selfs l|_::l=>selfs l
def disj(l m:List Nat):Bool:=l.all λt => !(al_ t m)
def JP.mtB(j:JP)(lo:Nat)(s:St E)(bs:Bd):Bool:=(Nat.ble lo j.nx&&bs.all λp=>Nat.ble lo p.1||Nat.beq p.1 p.2)&&(j.keep.all λt=>noKey t s.env&&seen s.vis t)&&((j.hkeep.all λt=>noKey t s.heap&&seen s.hvis t)&&(nodupB (bs.map (·.2))&&(disj (bs.map (·.2)) j.hkeep&&(disj (bs.map (·.1)) (j.hkeep++j.gkeep)&&((bs.all λp=>Nat.blt p.1 j.nx)&&(j.hkeep++j.gkeep).all λi=>Nat.blt i j.nx)))))
def JP.mt(j:JP)(b:Ba E)(s0:St E):Option (HL E.S j.T) :=
 let s:=e4_ b j.objs j.objs (e3_ b j.objs j.slots (frzOs b j.objs (frzS b j.slots s0)))
 match c4_ (s.L b) j.slots []with
 | some bs=>match eq_ (s.H b) j.objs bs with
  | some bs=>cg_ (j.mtB b.lo s bs&&focOK (s.H b) bs j.keep j.gkeep j.objs) (hapO (leafS (s.L b) (s.H b) j.slots) (gb_ (s.H b) bs j.objs))
  | none=>none
 | none=>none
def newC:(ps:List CP)->HL E.S (cpT ps)->List (SC E) | [],_=>[] | .v t::ps,h => .dt t h.1::newC ps h.2 | .own j::ps,h => .own j::newC ps h | .ptr j::ps,h => .ptr j 0::newC ps h | .mp j::ps,h => .mp j::newC ps h | .sbp j::ps,h => .sbp j::newC ps h
def ones:List (SC E)->Option (V1 E) | [c]=>some (.one c)|_=>none
def newV:(p:VP)->HL E.S p.T->Option (V1 E) | .d t,h=>asV E t (E.cells t h.1) | .one p,h=>ones (newC [p] h) | .agg ps,h=>some (.agg (newC ps h))
def slotO(t:Nat):Option (V1 E)->Option (List (Nat×Option (SV E)))->Option (List (Nat×Option (SV E)))|some x,some r=>some ((t,some (.v x))::r)|_,_=>none
def newS:(l:List (Nat×VP))->HL E.S (cx_ l)->Option (List (Nat×Option (SV E))) | [],_=>some []|(t,p)::l,h=>slotO t (newV p (hfst p.T (cx_ l) h)) (newS l (hsnd p.T (cx_ l) h))
def focK(L:Nat->Option (SV E)){R:Type}{t:Ty}(xs:List (Den E.S t)):List (Nat×Nat)->(List (Nat×Int×Den E.S t)->Option R)->Option R
 | [],k=>k []
 | (q,sl)::fs,k=>match L sl with
  | some (.v (.one (.elo _ q' i _)))=>match Nat.beq q q' with
   | true=>Option.bind (af_ xs i) λy=>focK L xs fs λl=>k ((q,i,y)::l)
   | false=>none
  | _=>none
def newO(L:Nat->Option (SV E)){R:Type}:(p:OP)->HL E.S p.T->(Obj E->Option R)->Option R | .box T t,h,k=>k (.box T (E.cells t h.1)) | .cells T ps,h,k=>k (.box T (newC ps h)) | .row e t fs,h,k=>focK L h.1 fs λl=>k (.row e t h.1 l) | .map T kt v,h,k=>k (.map T kt v h.1 h.2.1 [])
def newOs(L:Nat->Option (SV E)){R:Type}:(l:List (Nat×Bool×OP))->HL E.S (dR_ l)->(Chs E->Option R)->Option R | [],_,k=>k []|(j,_,p)::l,h,k=>newO L p (hfst p.T (dR_ l) h) λo=>newOs L l (hsnd p.T (dR_ l) h) λu=>k ((j,some o)::u)
def SC.okIds(A:List Nat):SC E->Bool | .own id=>al_ id A | .pre id _=>al_ id A | .suf id _=>al_ id A | .ptr id _=>al_ id A | .elo id q _ _=>al_ id A&&al_ q A | .clo _ ids=>subset ids A | .mp id=>al_ id A | .mst q=>al_ q A | .sbp id=>al_ id A | .pix id _=>al_ id A|_=>true
def V1.okIds(A:List Nat):V1 E->Bool | .one c=>c.okIds A | .agg l=>l.all λc=>c.okIds A
def SV.okIds(A:List Nat):SV E->Bool | .v x=>x.okIds A | .tup l=>l.all λx=>x.okIds A
def Obj.okIds(A:List Nat):Obj E->Bool | .box _ cs=>cs.all λc=>c.okIds A | .row _ _ _ foc=>foc.all λp=>al_ p.1 A | .map _ _ _ _ _ foc=>foc.all λp=>al_ p.1 A|_=>true
def filtK{α:Type}(keep:List Nat)(l:List (Nat×α)):List (Nat×α):=l.filter λp=>al_ p.1 keep
def JP.goB(j:JP)(b:Ba E)(s:St E):Bool :=
 (j.keep.all λt=>match s.L b t with|some v=>v.okIds (j.hkeep++(j.gkeep++selfs j.objs))|none=>true)&&(j.hkeep.all λi=>match s.H b i with|some o=>o.okIds (j.hkeep++(j.gkeep++selfs j.objs))|none=>true)
def JP.goS(j:JP)(s:St E)(env:List (Nat×Option (SV E)))(u:Chs E):St E:={ env:=env++filtK j.keep s.env,vis:=some (j.keep.filter (seen s.vis)),heap:=u++filtK j.hkeep s.heap,hvis:=some (j.hkeep.filter (seen s.hvis)),nx:=j.nx }
def JP.go(j:JP)(b:Ba E)(s:St E){R:Type}(h:HL E.S j.T)(k:St E->Option R):Option R :=
 match newS j.slots (hfst (cx_ j.slots) (dR_ j.objs) h)with
 | none=>none
 | some env =>
  cg_ (j.goB b s) (newOs (s.L b) j.objs (hsnd (cx_ j.slots) (dR_ j.objs) h) λu=>k (j.goS s env u))
inductive Pl where
 | p
 | s (x y:Pl)
 | j (m:JP) (ret:Bool) (x y:Pl)
 | lp (hd ex:JP) (ret:Bool) (x:Pl)
 | dr (fl hs:List Nat) (fm:Bool) (ids:List Nat)
 | df (fl hs:List Nat) (p:Nat)
 | ot (p:Nat) (t:OT)
 | sq (p:Nat)
 | lx (hd ex rm:JP) (x:Pl)
 | rx
def Pl.l:Pl->Pl | .s x _=>x|_ => .p
def Pl.r:Pl->Pl | .s _ y=>y|_ => .p
noncomputable def evCode(P:Program)(E:TE)(eqs:List (Nat×Nat))(tab:Tab E)(N:Nat)(RT:Type)(rv:Ba E->St E->Option RT):Code->Pl->(R:Type)->Ba E->St E->(Option Nat->St E->Option R)->(RT->Option R)->Option R
 | .skip,_,_,_,s,k,_=>k none s
 | .region _ ops false,.ot _ t,_,b,s,k,_=>evLin P E eqs tab N ops.toList t b s (k none)
 | .region _ ops false,_,_,b,s,k,_=>evReg P E eqs tab N ops.toList b s (k none)
 | .region _ ops true,.dr fl hs fm ids,_,b,s,k,_=>evDraw P E eqs tab N ops.toList fl hs fm ids b s (k none)
 | .region _ ops true,.df fl hs p,_,b,s,k,_=>evFloat P E eqs tab N ops.toList fl hs p b s (k none)
 | .region _ ops true,.ot p t,_,b,s,k,_=>evOrd P E eqs tab N ops.toList p t b s (k none)
 | .region _ ops true,.sq p,_,b,s,k,_=>evChain P E eqs tab N ops.toList p b s (k none)
 | .seq x y,.j m ret px py,R,b,s,k,kr=>match ret with
  | false=>Option.bind (evCode P E eqs tab N RT rv x px (Tp E.S m.T) (s.base b) (St.new s.nx) (λex s'=>match ex with
    | none=>(match m.mt (s.base b) s' with|some h=>some (aV_ m.T h)|none=>none)
    | some _=>none) (λ_=>none)) λo=>m.go b s (aK_ m.T o) λs'=>evCode P E eqs tab N RT rv y py R b s' k kr
  | true=>Option.bind (evCode P E eqs tab N RT rv x px (Out (Tp E.S m.T) RT) (s.base b) (St.new s.nx) (λex s'=>match ex with
    | none=>(match m.mt (s.base b) s' with|some h=>some (.fall (aV_ m.T h))|none=>none)
    | some _=>none) (λr=>some (.ret r))) λo=>match o with
     | .ret r=>kr r
     | .fall o=>m.go b s (aK_ m.T o) λs'=>evCode P E eqs tab N RT rv y py R b s' k kr
 | .seq x y,pl,R,b,s,k,kr=>evCode P E eqs tab N RT rv x pl.l R b s (λex s'=>match ex with
   | none=>evCode P E eqs tab N RT rv y pl.r R b s' k kr
   | some i=>k (some i) s') kr
 | .cond c x y,pl,R,b,s,k,kr=>match opS E (s.L b) c with
  | some (.v (.one (.dt .bool c)))=>bif c then evCode P E eqs tab N RT rv x pl.l R b s k kr else evCode P E eqs tab N RT rv y pl.r R b s k kr
  | _=>none
 | .block id (.loop body),.lp hd ex ret pb,_,b,s,k,kr=>match hd.mt (s.base b) (St.new s.nx)with
  | none=>none
  | some h0=>match ret with
   | false=>Option.bind (ag_ (λtp=>hd.go (s.base b) (St.new s.nx) (aK_ hd.T tp) λs1=>evCode P E eqs tab N RT rv body pb (Step (Tp E.S hd.T) (Tp E.S ex.T)) (s.base b) s1 (λe s'=>match e with
      | none=>(match hd.mt (s.base b) s' with|some h=>some (.next (aV_ hd.T h))|none=>none)
      | some i=>match Nat.beq i (id+1)with
       | true=>(match ex.mt (s.base b) s' with|some h=>some (.done (aV_ ex.T h))|none=>none)
       | false=>none) (λ_=>none)) BIG (aV_ hd.T h0)) λo=>ex.go b s (aK_ ex.T o) λs'=>k none s'
   | true=>Option.bind (ag_ (λtp=>hd.go (s.base b) (St.new s.nx) (aK_ hd.T tp) λs1=>evCode P E eqs tab N RT rv body pb (Step (Tp E.S hd.T) (Out (Tp E.S ex.T) RT)) (s.base b) s1 (λe s'=>match e with
      | none=>(match hd.mt (s.base b) s' with|some h=>some (.next (aV_ hd.T h))|none=>none)
      | some i=>match Nat.beq i (id+1)with
       | true=>(match ex.mt (s.base b) s' with|some h=>some (.done (.fall (aV_ ex.T h)))|none=>none)
       | false=>none) (λr=>some (.done (.ret r)))) BIG (aV_ hd.T h0)) λo=>match o with
     | .ret r=>kr r
     | .fall o=>ex.go b s (aK_ ex.T o) λs'=>k none s'
 | .block id (.loop body),.lx hd ex rm pb,_,b,s,k,_=>match hd.mt (s.base b) (St.new s.nx)with
  | none=>none
  | some h0=>Option.bind (ag_ (λtp=>hd.go (s.base b) (St.new s.nx) (aK_ hd.T tp) λs1=>evCode P E eqs tab N RT rv body pb (Step (Tp E.S hd.T) (Out (Tp E.S ex.T) (Tp E.S rm.T))) (s.base b) s1 (λe s'=>match e with
      | none=>(match hd.mt (s.base b) s' with|some h=>some (.next (aV_ hd.T h))|none=>none)
      | some i=>match Nat.beq i (id+1)with
       | true=>(match ex.mt (s.base b) s' with|some h=>some (.done (.fall (aV_ ex.T h)))|none=>none)
       | false=>match Nat.beq i 0 with
        | true=>(match rm.mt (s.base b) s' with|some h=>some (.done (.ret (aV_ rm.T h)))|none=>none)
        | false=>none) (λ_=>none)) BIG (aV_ hd.T h0)) λo=>match o with
     | .ret o=>rm.go b s (aK_ rm.T o) λs'=>k (some 0) s'
     | .fall o=>ex.go b s (aK_ ex.T o) λs'=>k none s'
 | .block id x,pl,R,b,s,k,kr=>evCode P E eqs tab N RT rv x pl R b s (λex s'=>match ex with
   | none=>k none s'
   | some i=>match Nat.beq i (id+1)with
    | true=>k none s'
    | false=>k (some i) s') kr
 | .exit i,_,_,_,s,k,_=>k (some (i+1)) s
 | .ret,.rx,_,_,s,k,_=>k (some 0) s
 | .scope x,pl,R,b,s,k,kr=>evCode P E eqs tab N RT rv x pl R b s k kr
 | .ret,_,_,b,s,_,kr=>match rv b s with
  | some r=>kr r
  | none=>none
 | _,_,_,_,_,_,_=>none
def resSV(E:TE)(P:Program)(b:Ba E)(s:St E):ResultVar->Option (V1 E)
 | .tmp t=>match s.L b t with
  | some (.v x)=>some x
  | _=>none
 | .cell t T=>match s.L b t with
  | some (.v (.one c))=>match behind E (s.H b) c with
   | some (l,off)=>loadC P T l off
   | none=>none
  | _=>none
def resXs(E:TE)(P:Program)(b:Ba E)(s:St E):List ResultVar->Option (List (V1 E))
 | []=>some []
 | v::vs=>match resSV E P b s v,resXs E P b s vs with
  | some x,some l=>some (x::l)
  | _,_=>none
def frzR(E:TE)(H:Nat->Option (Obj E)):Rs->List (V1 E)->Chs E|(_,m)::rs,x::xs=>bR_ (upH H (frzR E H rs xs)) (unM m x.cs)++frzR E H rs xs|_,_=>[]
def frzV(E:TE)(H:Nat->Option (Obj E)):List Pm->Nat->Chs E
 | [],_=>[]
 | .b _ _::ps,n=>(match upH H (frzV E H ps (n+1)) n with
  | some (.box _ cs)=>bR_ (upH H (frzV E H ps (n+1))) cs
  | _=>[])++frzV E H ps (n+1)
 | .bm _ t m _::ps,n=>(match upH H (frzV E H ps (n+1+am_ m (E.flat t))) n with
  | some (.box _ (.ptr _ _::cs))=>bR_ (upH H (frzV E H ps (n+1+am_ m (E.flat t)))) (unM m cs)
  | some (.box _ cs)=>bR_ (upH H (frzV E H ps (n+1+am_ m (E.flat t)))) (unM m cs)
  | _=>[])++frzV E H ps (n+1+am_ m (E.flat t))
 | .l t m::ps,n=>frzV E H ps (n+am_ m (E.flat t))
 | .g t m::ps,n=>frzV E H ps (n+am_ m (E.flat t))
 | .mp _ _ _::ps,n=>frzV E H ps (n+1)
 | .d _::ps,n=>frzV E H ps n
 | .p _::ps,n=>frzV E H ps n
 | .f1 _ _::ps,n=>frzV E H ps n
 | .f2 _ _ _::ps,n=>frzV E H ps n
def frzA(E:TE)(H:Nat->Option (Obj E))(ps:List Pm)(rs:Rs)(xs:List (V1 E)):Chs E:=frzV E (upH H (frzR E H rs xs)) ps 0++frzR E H rs xs
def takeR(E:TE)(H:Nat->Option (Obj E)):(rs:Rs)->List (V1 E)->Option (HL E.S rs.ts×List Nat)
 | [],[]=>some ((),[])
 | (t,m)::rs,x::xs=>match V1.fits t x,aM_ E H m (E.flat t) x.cs,takeR E H rs xs with
  | true,some d,some q=>some ((E.ufl t d.1,q.1),d.2++q.2)
  | _,_,_=>none
 | _,_=>none
def fM_ (E:TE) (H:Nat->Option (Obj E)):Mk->(ts:List Ty)->HL E.S ts->Nat->Option (HL E.S ts)
 | some e::ms,.sl t::ts,h,n=>match H n with
  | some (.row e' t' xs _)=>if ht:t'=t then match Nat.beq e e',fM_ E H ms ts h.2 (n+1)with
    | true,some q=>some (cc_ ht xs,q)
    | _,_=>none
   else none
  | _=>none
 | none::ms,_::ts,h,n=>match fM_ E H ms ts h.2 n with
  | some q=>some (h.1,q)
  | none=>none
 | [],_,h,_=>some h
 | _,_,_,_=>none
def hidI:List (V1 E)->Nat->Bool | [],_=>true | [.one (.ptr id _)],p=>Nat.beq p id|_,_=>false
def bD_ (E:TE) (H:Nat->Option (Obj E)):(ps:List Pm)->PA E ps->Nat->Option (HL E.S (aq_ ps)×List Nat)
 | [],_,_=>some ((),[])
 | .l t m::ps,a,n=>match fM_ E H m (E.flat t) (E.fl t a.1) n,bD_ E H ps a.2 (n+am_ m (E.flat t))with
  | some h,some q=>some ((E.ufl t h,q.1),q.2)
  | _,_=>none
 | .g t m::ps,a,n=>bD_ E H ps a.2 (n+am_ m (E.flat t))
 | .mp T k v::ps,a,n=>match H n,bD_ E H ps a.2 (n+1)with
  | some (.map T' k' v' ks vs _),some q=>if ht:k'=k/\v'=v then match Nat.beq T T' with
    | true=>some ((cc_ ht.1 ks,cc_ ht.2 vs,q.1),q.2)
    | false=>none
   else none
  | _,_=>none
 | .b T t::ps,a,n=>match H n,bD_ E H ps a.2 (n+1)with
  | some (.box T' cs),some q=>match Nat.beq T T',aN_ E H (E.flat t) cs with
   | true,some h=>some ((E.ufl t h,q.1),q.2)
   | _,_=>none
  | _,_=>none
 | .bm T t m px::ps,a,n=>match H n,bD_ E H ps a.2 (n+1+am_ m (E.flat t))with
  | some (.box T' cs0),some q=>match el_ (pxB px ps) cs0 with
   | some (cs,hid)=>match Nat.beq T T'&&hidI hid (n+1+am_ m (E.flat t)),aM_ E H m (E.flat t) cs with
    | true,some d=>some ((E.ufl t d.1,q.1),d.2++q.2)
    | _,_=>none
   | none=>none
  | _,_=>none
 | .d _::ps,a,n=>bD_ E H ps a.2 n
 | .p _::ps,a,n=>bD_ E H ps a.2 n
 | .f1 _ _::ps,a,n=>bD_ E H ps a.2 n
 | .f2 _ _ _::ps,a,n=>bD_ E H ps a.2 n
def bE_(E:TE):List Pm->Nat->List Nat | [],_=>[] | .l t m::ps,n=>List.range' n (am_ m (E.flat t))++bE_ E ps (n+am_ m (E.flat t)) | .g t m::ps,n=>bE_ E ps (n+am_ m (E.flat t)) | .mp _ _ _::ps,n=>n::bE_ E ps (n+1) | .b _ _::ps,n=>n::bE_ E ps (n+1) | .bm _ t m _::ps,n=>n::bE_ E ps (n+1+am_ m (E.flat t)) | .d _::ps,n=>bE_ E ps n | .p _::ps,n=>bE_ E ps n | .f1 _ _::ps,n=>bE_ E ps n | .f2 _ _ _::ps,n=>bE_ E ps n
def retF(E:TE)(P:Program)(ps:List Pm)(rs:Rs)(a:PA E ps)(vs:List ResultVar)(b:Ba E)(s:St E):Option (Tp E.S (rs.ts++aq_ ps)) :=
 match resXs E P b s vs with
 | none=>none
 | some xs0=>prepRs E rs xs0 s.nx λxs u _=>match takeR E (upH (upH (s.H b) u) (frzA E (upH (s.H b) u) ps rs xs)) rs xs with
  | none=>none
  | some q=>match bD_ E (upH (upH (s.H b) u) (frzA E (upH (s.H b) u) ps rs xs)) ps a 0 with
   | some bh=>cg_ (nodupB (bE_ E ps 0++(q.2++bh.2))) (some (aV_ _ (hap q.1 bh.1)))
   | none=>none
def slotsOf:Nat->List (V1 E)->List (Nat×Option (SV E))|_,[]=>[]|i,x::l=>(i,some (.v x))::slotsOf (i+1) l
noncomputable def evFun(P:Program)(E:TE)(eqs:List (Nat×Nat))(tab:Tab E)(f:Func)(ps:List Pm)(rs:Rs)(pl:Pl)(a:PA E ps):Option (Tp E.S (rs.ts++aq_ ps)) :=
 match f.body,aI_ E ps a 0 with
 | some c,some svs=>cg_ (Nat.ble svs.length f.ntmps)<|evCode P E eqs tab f.ntmps (Tp E.S (rs.ts++aq_ ps)) (retF E P ps rs a f.results.toList) c pl (Tp E.S (rs.ts++aq_ ps)) ⟨λ_=>none,λ_=>none,ai_ E ps⟩
   ⟨slotsOf 0 svs,none,ay_ E ps a 0,none,ai_ E ps⟩ (λex s=>match ex with
    | none=>retF E P ps rs a f.results.toList ⟨λ_=>none,λ_=>none,ai_ E ps⟩ s
    | some _=>none) some
 | _,_=>none
end Rt
namespace Rt
open Go.RowKit
structure Org where (z:Fz) (g:Ga) (lo:Nat)
variable{P:Program}{E:TE}{eqs:List (Nat×Nat)}{tab:Tab E}{N:Nat}{Bs:List Nat}{F0:Org}{w0:World}
def Rel(P:Program)(E:TE)(Bs:List Nat)(F0:Org)(w0:World)(N:Nat)(L:Nat->Option (SV E))(H:Nat->Option (Obj E))(nx:Nat)(a:Act)(w:World):Prop:=∃z g,ER P E z g N a L/\HR P E Bs F0.z.F w0 w z g H/\Fresh g nx/\F0.z.Le z/\F0.g.Le g
theorem ER.del{z:Fz}{g:Ga}{a:Act}{L L':Nat->Option (SV E)}(h:ER P E z g N a L){d:Nat}{v:Value}(hL:∀t u,L' t=some u->t≠d/\L t=some u):ER P E z g N (a.put (some d) v) L':=by
 refine⟨by simpa[Act.put]using h.size,h.defers,λt u e => ?_⟩;obtain⟨h1,h2⟩:=hL t u e;obtain⟨v',h3,h4⟩:=h.get t u h2;refine⟨v',?_,h4⟩;simp only[Act.put];rw[Array.getElem?_setIfInBounds_ne (Ne.symm h1)];exact h3
theorem after_ok2{b:Ba E}{s s1:St E}{o:Oper}{v:Option (SV E)}{u:Chs E}{a:Act}{w':World}{x:Value}{z:Fz}{g:Ga}(h:s.after N o v u=some s1)(hE:ER P E z g N a (s.L b))(hH:HR P E Bs F0.z.F w0 w' z g (upH (s.H b) u))(hf:Fresh g (nxU s.nx u))(hv:∀sv,v=some sv->RV P E z g sv x) :
  (ER P E z g N (a.put o.dst x) (s1.L b)/\HR P E Bs F0.z.F w0 w' z g (s1.H b)/\Fresh g s1.nx/\s1.H b=upH (s.H b) u)/\(∀t,(∀d,o.dst=some d->t≠d)->s1.L b t=s.L b t):=by
 unfold St.after at h;have hHe:∀(env:List (Nat×Option (SV E))) (nx:Nat),(St.H b { s with env:=env,heap:=u++s.heap,nx:=nx })=upH (s.H b) u:=λenv nx=>by
  unfold St.H;rw[ao_]
 cases hd:o.dst with
 | none =>
  rw[hd]at h;obtain rfl:=qSj h;refine⟨⟨hE,?_,hf,hHe _ _⟩,λt _=>rfl⟩;have:=hHe s.env (nxU s.nx u);show HR P E Bs F0.z.F w0 w' z g (St.H b _);rw[this];exact hH
 | some d =>
  rw[hd]at h;simp only at h;split at h
  .rename_i hN;obtain rfl:=qSj h;have hL:∀t,t≠d->St.L b { s with env:=(d,v)::s.env,heap:=u++s.heap,nx:=nxU s.nx u } t=s.L b t:=λt ht=>by
    unfold St.L;simp only[an_];split
    .rename_i hx;split at hx
     .rename_i hb;exact absurd (qNb hb) ht
     .rw[hx]
    .rename_i hx;split at hx
     .cases hx
     .rw[hx]
   have hLd:St.L b { s with env:=(d,v)::s.env,heap:=u++s.heap,nx:=nxU s.nx u } d=v:=by
    unfold St.L;simp only[an_];have:Nat.beq d d=true:=by simp
    rw[this]
   refine⟨⟨?_,?_,hf,hHe _ _⟩,λt ht=>hL t (ht d rfl)⟩
   .cases v with
    | some sv =>
     refine hE.put hN (hv sv rfl) λt u' e => ?_
     by_cases ht:t=d
     .subst ht;rw[hLd]at e;exact .inl ⟨rfl,(qSj e).symm⟩
     .rw[hL t ht]at e;exact .inr ⟨ht,e⟩
    | none =>
     refine hE.del λt u' e => ?_
     by_cases ht:t=d
     .subst ht;rw[hLd]at e;cases e
     .rw[hL t ht]at e;exact⟨ht,e⟩
   .have:=hHe ((d,v)::s.env) (nxU s.nx u);rw[this];exact hH
  .cases h
theorem aP_{b:Ba E}{s s1:St E}{o:Oper}{v:Option (SV E)}{u:Chs E}{a:Act}{w':World}{x:Value}{z:Fz}{g:Ga}(h:s.after N o v u=some s1)(hE:ER P E z g N a (s.L b))(hH:HR P E Bs F0.z.F w0 w' z g (upH (s.H b) u))(hz0:F0.z.Le z)(hg0:F0.g.Le g)(hf:Fresh g (nxU s.nx u))(hv:∀sv,v=some sv->RV P E z g sv x) :
  Rel P E Bs F0 w0 N (s1.L b) (s1.H b) s1.nx (a.put o.dst x) w'/\(∀t,(∀d,o.dst=some d->t≠d)->s1.L b t=s.L b t) :=
 let ⟨⟨h1,h2,h3,_⟩,h4⟩:=after_ok2 h hE hH hf hv
 ⟨⟨z,g,h1,h2,h3,hz0,hg0⟩,h4⟩
def gdOK(all:List Oper)(gd:Gd)(L:Nat->Option (SV E)):Prop:=match gd with|none=>True|some (j,w,d)=>(∃oj,all[j]? = some oj/\oj.dst=some d)/\∃c,L d=some (.v (.one (.dt .bool c)))/\c=w
theorem fN_{all:List Oper}{j d:Nat}{oj:Oper}{a:Act}{c:Bool}(h1:all[j]? = some oj)(h2:oj.dst=some d)(h3:a.tmps[d]? = some (.bool c)):yielded all.toArray a.tmps j=some c:=by
 unfold yielded;simp[h1,h2,h3]
theorem jT_{all:List Oper}{gd:Gd}{L:Nat->Option (SV E)}{o:Oper}{a:Act}{z:Fz}{g:Ga}(h:kF_ o gd=true)(hg:gdOK all gd L)(hE:ER P E z g N a L):Region.wanted o (yielded all.toArray a.tmps)=true:=by
 unfold kF_ at h;unfold Region.wanted;split at h
 .split at h
  .rename_i hn;rw[hn]
  .cases h
 .rename_i j w d;split at h
  .cases h
  .rename_i j' w' hgd;simp only[qAn]at h;obtain rfl:=qNb h.1;have hww:w=w':=by cases w<;>cases w'<;>simp_all
   subst hww;obtain⟨⟨oj,h1,h2⟩,c,h3,rfl⟩:=hg;obtain⟨v,h4,h5⟩:=hE.get d _ h3;rw[hgd];have hv:=SV.bool_ok rfl h5;subst hv;simp only;rw[fN_ h1 h2 h4];simp
structure Walk(P:Program)(E:TE)(ev:Ev E)(N:Nat)(Bs:List Nat)(F0:Org)(w0:World)(all:List Oper) where
 W:(Act->World->Prop)->List Oper->Nat->Act->World->Prop
 nil:∀{J i a w},J a w->W J [] i a w
 app:∀{J1 J l1 l2 i a w},W J1 l1 i a w->(∀a w,J1 a w->W J l2 (i+l1.length) a w)->W J (l1++l2) i a w
 skip:∀{J o l i a w},all[i]? = some o->Region.wanted o (yielded all.toArray a.tmps)=false->W J l (i+1) (a.put o.dst undef) w->W J (o::l) i a w
 step:∀{J o l i a w} {R:Type} {L H nx z g} {k:Option (SV E)->Chs E->Option R} {r:R},all[i]? = some o->Region.wanted o (yielded all.toArray a.tmps)=true ->
  ER P E z g N a L->HR P E Bs F0.z.F w0 w z g H->Fresh g nx->F0.z.Le z->F0.g.Le g->ev L H nx o R k=some r ->
  (∀s u v w' z2 g2,k s u=some r->z.Le z2->g.Le g2->ER P E z2 g2 N a L->HR P E Bs F0.z.F w0 w' z2 g2 (upH H u)->Fresh g2 (nxU nx u)->(∀sv,s=some sv->RV P E z2 g2 sv v)->W J l (i+1) (a.put o.dst v) w')->W J (o::l) i a w
 pick:∀{J o l i a w v},all[i]? = some o->Region.wanted o (yielded all.toArray a.tmps)=true->(∀w,(execOp a.eval o).run P w = .ok (.value v) w)->W J l (i+1) (a.put o.dst v) w->W J (o::l) i a w
theorem jU_{d:Nat}:∀{l body rest:List Oper} {pk:Oper},ec_ d l=some (body,pk,rest)->l=body++pk::rest/\∃x y,pk.op = .pick (.tmp d) x y
 | [],_,_,_,h=>by cases h
 | o :: r,body,rest,pk,h=>by
  have tail:∀{q:List Oper×Oper×List Oper},ec_ d r=some q->(o::q.1,q.2.1,q.2.2)=(body,pk,rest)->o::r=body++pk::rest/\∃x y,pk.op = .pick (.tmp d) x y:=by
   rintro⟨l,p,q⟩ hq he;simp only[Prod.mk.injEq]at he;obtain⟨rfl,rfl,rfl⟩:=he;obtain⟨h1,h2⟩:=jU_ hq;exact⟨by rw[h1];rfl,h2⟩
  unfold ec_ at h;split at h
  .rename_i d' x y ho;split at h
   .rename_i hb;obtain rfl:=qNb hb;simp only[qOi,Prod.mk.injEq]at h;obtain⟨rfl,rfl,rfl⟩:=h;exact⟨rfl,x,y,ho⟩
   .split at h
    .rename_i l p q hq;exact tail hq (qSj h)
    .cases h
  .split at h
   .rename_i l p q hq;exact tail hq (qSj h)
   .cases h
theorem groupOf_eq{o:Oper}{idx:Nat}{l body rest:List Oper}{d:Nat}{w:Bool}{pk:Oper}(h:groupOf o idx l=some (d,w,body,pk,rest)):o.dst=some d/\l=body++pk::rest/\∃x y,pk.op = .pick (.tmp d) x y:=by
 unfold groupOf at h;split at h
 .cases h
 .split at h
  .rename_i j w' d' hg hd;split at h
   .split at h
    .rename_i l' p q hq;simp only[qOi,Prod.mk.injEq]at h;obtain⟨rfl,rfl,rfl,rfl,rfl⟩:=h;exact⟨hd,jU_ hq⟩
    .cases h
   .cases h
  .cases h
theorem skip_ok {ev:Ev E} {all:List Oper} (wk:Walk P E ev N Bs F0 w0 all) {idx d:Nat} {wt c:Bool} {J:Act->World->Prop} (hc:c≠wt) {os:Oper} (h1:all[idx]? = some os) (h2:os.dst=some d):∀(l tl:List Oper) (i:Nat) (a:Act) (w:World),all.drop i=l++tl->idx<i->skipB idx d wt l i=true ->
  a.tmps[d]? = some (.bool c)->(∀j,idx<j->j<i->yielded all.toArray a.tmps j=none) ->
  (∀a',a'.tmps.size=a.tmps.size->a'.defers=a.defers->(∀t,al_ t (b8_ l)=false->a'.tmps[t]? = a.tmps[t]?)->J a' w)->wk.W J l i a w
 | [],tl,i,a,w,_,_,_,_,_,hJ=>wk.nil (hJ a rfl rfl λ_ _=>rfl)
 | o :: l,tl,i,a,w,hd,hi,hs,hcd,hoff,hJ=>by
  have ho:all[i]? = some o:=by
   have:(all.drop i)[0]? = some o:=by rw[hd];rfl
   rw[List.getElem?_drop]at this;simpa using this
  simp only[skipB,qAn]at hs;obtain⟨hs1,hs2⟩:=hs;split at hs1
  .rename_i j w' d' hg hdst;simp only[qAn,Bool.or_eq_true,Bool.not_eq_true']at hs1;obtain⟨hs3,hs4⟩:=hs1;have hne:d≠d':=bf_ hs4;have hnw:Region.wanted o (yielded all.toArray a.tmps)=false:=by
    unfold Region.wanted;rw[hg];simp only;rcases hs3 with⟨e1,e2⟩|⟨e1,e2⟩
    .obtain rfl:=qNb e1;have hww:wt=w':=by cases wt<;>cases w'<;>simp_all
     subst hww;rw[fN_ h1 h2 hcd];cases c<;>cases wt<;>simp_all
    .have e1':idx<j:=by simpa using e1
     have e2':j<i:=by simpa using e2
     rw[hoff j e1' e2'];rfl
   refine wk.skip ho hnw ?_;rw[hdst];refine skip_ok wk hc h1 h2 l tl (i+1) _ w ?_ (by omega) hs2 ?_ (λj hj1 hj2 => ?_) λa' e1 e2 e3=>hJ a' ?_ ?_ λt ht => ?_
   .have:=congrArg (List.drop 1) hd;rw[List.drop_drop]at this;simpa[Nat.add_comm]using this
   .simp only[Act.put];rw[Array.getElem?_setIfInBounds_ne (Ne.symm hne)];exact hcd
   .unfold yielded;by_cases hji:j=i
    .subst hji;simp only[List.getElem?_toArray,ho,Option.bind_some,hdst,Act.put];rw[Array.getElem?_setIfInBounds];split
     .rename_i h;split at h
      .split at h
       .obtain h:=qSj h;simp[undef]at h
       .cases h
      .rename_i hx;exact absurd rfl hx
     .rfl
    .have hj3:=hoff j hj1 (by omega);unfold yielded at hj3;simp only[List.getElem?_toArray]at hj3 ⊢;cases hoj:(all[j]?).bind (·.dst)with
     | none=>rfl
     | some dj =>
      rw[hoj]at hj3;simp only[Option.bind_some]at hj3 ⊢;simp only[Act.put,Array.getElem?_setIfInBounds];by_cases hdd:d'=dj
      .rw[if_pos hdd];split
       .rename_i h;split at h
        .obtain h:=qSj h;simp[undef]at h
        .cases h
       .rfl
      .rw[if_neg hdd];exact hj3
   .rw[e1];simp[Act.put]
   .rw[e2];simp[Act.put]
   .simp only[b8_,hdst,al_]at ht;split at ht
    .cases ht
    .rename_i hb;rw[e3 t ht];simp only[Act.put];rw[Array.getElem?_setIfInBounds_ne (Ne.symm (bf_ hb))]
  .cases hs1
theorem new_L(b:Ba E)(s:St E)(nx:Nat):(St.new nx).L (s.base b)=s.L b:=rfl
theorem new_H(b:Ba E)(s:St E)(nx:Nat):(St.new nx).H (s.base b)=s.H b:=rfl
theorem memN_true{t:Nat}:∀{l:List Nat},al_ t l=true↔t∈l
 | []=>by simp[al_]
 | u::l=>by
  simp only[al_];split
  .rename_i hb;obtain rfl:=qNb hb;simp
  .rename_i hb;have:=bf_ hb;rw[memN_true];simp[this]
theorem mT_{ds:List Nat}{t:Nat}:∀{l:List (Nat×Option (SV E))},keysIn ds l=true->al_ t ds=false->an_ t l=none
 | [],_,_=>rfl
 | p::l,h,ht=>by
  simp only[keysIn,qAn]at h;simp only[an_];split
  .rename_i hb;obtain rfl:=qNb hb;rw[h.1]at ht;cases ht
  .exact mT_ h.2 ht
theorem i0_{f:Nat->Option (Obj E)}{n i:Nat}(hi:i<n):∀{l:Chs E},it_ n l=true->upH f l i=f i
 | [],_=>rfl
 | p::l,h=>by
  simp only[it_,qAn]at h;have:=Nat.le_of_ble_eq_true h.1;simp only[upH];split
  .rename_i hb;have:=qNb hb;omega
  .exact i0_ hi h.2
theorem skip_dst{idx d:Nat}{w:Bool}:∀{l:List Oper} {i:Nat},skipB idx d w l i=true->al_ d (b8_ l)=false
 | [],_,_=>rfl
 | o::l,i,h=>by
  simp only[skipB,qAn]at h;obtain⟨h1,h2⟩:=h;split at h1
  .rename_i j w' d' hg hd;simp only[qAn,Bool.not_eq_true']at h1;simp only[b8_,hd,al_];rw[h1.2];exact skip_dst h2
  .cases h1
theorem clear_in{t:Nat}:∀{ds:List Nat} {l:List (Nat×Option (SV E))},al_ t ds=true->an_ t (clear ds++l)=some none
 | [],_,h=>by simp[al_]at h
 | d::ds,l,h=>by
  unfold clear;simp only[List.map_cons,List.cons_append,an_];by_cases hb:Nat.beq t d=true
  .rw[hb]
  .rw[Bool.not_eq_true]at hb;rw[hb];refine clear_in (ds:=ds) ?_;simpa only[al_,hb]using h
theorem clear_out{t:Nat}:∀{ds:List Nat} {l:List (Nat×Option (SV E))},al_ t ds=false->an_ t (clear ds++l)=an_ t l
 | [],_,_=>rfl
 | d::ds,l,h=>by
  unfold clear;simp only[List.map_cons,List.cons_append,an_];by_cases hb:Nat.beq t d=true
  .simp[al_,hb]at h
  .rw[Bool.not_eq_true]at hb;rw[hb];refine clear_out (ds:=ds) ?_;simpa only[al_,hb]using h
def eP_(ds:List Nat)(L:Nat->Option (SV E))(t:Nat):Option (SV E):=if al_ t ds then none else L t
theorem iC_{all:List Oper}{gd:Gd}{o:Oper}{L L':Nat->Option (SV E)}(h:gdOK all gd L)(hd:dstOK o gd=true)(hL:∀t,(∀d,o.dst=some d->t≠d)->L' t=L t):gdOK all gd L':=by
 unfold gdOK at *
 split
 .trivial
 .rename_i j w d;obtain⟨h1,c,h2,h3⟩:=h;refine⟨h1,c,?_,h3⟩;rw[hL d λd' hd' => ?_]
  .exact h2
  .unfold dstOK at hd;simp only[hd',Bool.not_eq_true']at hd;exact bf_ hd
theorem drop_next{all l tl:List Oper}{o:Oper}{i:Nat}(h:all.drop i=(o::l)++tl):all[i]? = some o/\all.drop (i+1)=l++tl:=by
 constructor
 .have:(all.drop i)[0]? = some o:=by rw[h];rfl
  rw[List.getElem?_drop]at this;simpa using this
 .have:=congrArg (List.drop 1) h;rw[List.drop_drop]at this;simpa[Nat.add_comm]using this
theorem drop_more{all l m tl:List Oper}{i:Nat}(h:all.drop i=(l++m)++tl):all.drop (i+l.length)=m++tl:=by
 have:=congrArg (List.drop l.length) h;rw[List.drop_drop,List.append_assoc,List.drop_left]at this;exact this
theorem pick_run{o:Oper}{d:Nat}{x y:Operand}{ρ:Operand->Value}{c e:Bool}(ho:o.op = .pick (.tmp d) x y)(hd:ρ (.tmp d) = .bool c)(hv:(bif c then ρ x else ρ y) = .bool e)(w:World):(execOp ρ o).run P w = .ok (.value (.bool e)) w:=by
 unfold execOp;rw[ho];simp only[hd];cases c with
 | true=>simp only[cond_true]at hv;simp[asBool,hv]
 | false=>simp only[cond_false]at hv;simp[asBool,hv]
theorem dd_ {ev:Ev E} {all:List Oper} (wk:Walk P E ev N Bs F0 w0 all):∀(n:Nat) {R:Type} {gd:Gd} {l:List Oper} {idx:Nat} {b:Ba E} {s:St E} {k:St E->Option R} {r:R} {a:Act} {w:World} {J:Act->World->Prop} {tl:List Oper},
  bi_ P E ev N n R gd l idx b s k=some r->all.drop idx=l++tl->Rel P E Bs F0 w0 N (s.L b) (s.H b) s.nx a w->gdOK all gd (s.L b) ->
  (∀s' a' w',k s'=some r->Rel P E Bs F0 w0 N (s'.L b) (s'.H b) s'.nx a' w'->gdOK all gd (s'.L b)->J a' w')->wk.W J l idx a w:=by
 intro n
 induction n with
 | zero=>intro R gd l idx b s k r a w J tl h;cases h
 | succ n ih =>
  intro R gd l idx b s k r a w J tl h hd hR hg hK;cases l with
  | nil=>exact wk.nil (hK s a w h hR hg)
  | cons o rest =>
   unfold bi_ at h;split at h
   .cases h
   .rename_i hgo;simp only[qAn]at hgo;obtain⟨z,g,hE,hH,hf,hz0,hg0⟩:=hR;obtain⟨hdo,hdr⟩:=drop_next hd;refine wk.step hdo (jT_ hgo.1 hg hE) hE hH hf hz0 hg0 h λv u x w' z2 g2 hk hz2 hg2 hE2 hH2 hf2 hv => ?_
    split at hk
    .cases hk
    .rename_i s1 hs1;obtain⟨hR1,hL1⟩:=aP_ hs1 hE2 hH2 (hz0.trans hz2) (hg0.trans hg2) hf2 hv;have hg1:=iC_ hg hgo.2 hL1;split at hk
     .exact ih hk hdr hR1 hg1 hK
     .rename_i d wt body pk rest' hgrp;obtain⟨hod,rfl,x0,y0,hpk⟩:=groupOf_eq hgrp;split at hk
      .rename_i c d1 x y pd hc hpo hpd;rw[hpk]at hpo;injection hpo with e1 e2 e3;subst e1;subst e2;subst e3;split at hk
       .cases hk
       .rename_i hchk;simp only[qAn]at hchk;obtain⟨⟨⟨⟨⟨hp1,hp2⟩,hp3⟩,hp4⟩,hp5⟩,hp6⟩:=hchk;have hdd:al_ d (b8_ body)=false:=skip_dst hp5
        -- the group's value
        have hres:∃res,bi_ P E ev N n R gd rest' (idx+1+body.length+1) b { s1 with env:=(pd,some (hN_ res))::(clear (b8_ body)++s1.env),nx:=s1.nx+e2_ body } k=some r /\
          (c=wt->bi_ P E ev N n Bool (some (idx,wt,d)) body (idx+1) (s1.base b) (St.new s1.nx) (eN_ (s1.base b) s1.nx (e2_ body) (b8_ body) (picked wt x0 y0))=some res)/\(c≠wt->res = !wt):=by
         obtain⟨tot,htot⟩:∃tot,totalL P body=tot:=⟨_,rfl⟩;rw[htot]at hk;cases tot with
         | true =>
          simp only at hk;obtain⟨oe,he⟩:∃oe,bi_ P E ev N n Bool (some (idx,wt,d)) body (idx+1) (s1.base b) (St.new s1.nx) (eN_ (s1.base b) s1.nx (e2_ body) (b8_ body) (picked wt x0 y0))=oe:=⟨_,rfl⟩;rw[he]at hk ⊢;cases oe with
          | none=>cases hk
          | some e =>
           refine⟨_,hk,λhcw => ?_,λhcw => ?_⟩
           .cases wt<;>subst hcw<;>rfl
           .cases wt<;>cases c<;>simp_all [picked]
         | false =>
          simp only at hk;obtain⟨e,he,hk⟩:=bind_some hk;refine⟨e,hk,λhcw => ?_,λhcw => ?_⟩
          .cases wt<;>subst hcw<;>exact he
          .cases wt<;>cases c<;>simp_all [picked]
        obtain⟨res,hk2,hact,hinact⟩:=hres;have hlt:∀j p,s1.H b j=some p->j<s1.nx:=λj p hj=>by
         obtain⟨z3,g3,_,h2,h3,_⟩:=hR1;obtain⟨l,hl⟩:=(h2.hold j p hj).loc;rcases Nat.lt_or_ge j s1.nx with h5|h5
         .exact h5
         .rw[h3 j h5]at hl;cases hl
        refine wk.app (J1:=λa2 w2=>Rel P E Bs F0 w0 N (eP_ (b8_ body) (s1.L b)) (s1.H b) (s1.nx+e2_ body) a2 w2/\a2.eval (.tmp d) = .bool c/\(bif c then a2.eval x0 else a2.eval y0) = .bool res) ?_ ?_
        .by_cases hcw:c=wt
         .refine ih (tl:=pk::rest'++tl) (hact hcw) (by rw[hdr];simp) (by rw[new_L,new_H];exact hR1) ⟨⟨o,hdo,hod⟩,c,hc,hcw⟩ λs2 a2 w2 hk3 hR2 hg2 => ?_
          unfold eN_ at hk3;split at hk3
          .rename_i e hchk2 hvis hhvis hop;obtain rfl:=qSj hk3;simp only[qAn]at hchk2;obtain⟨⟨hk4,hk5⟩,hk6⟩:=hchk2;have hLs:∀t,al_ t (b8_ body)=false->s2.L (s1.base b) t=s1.L b t:=λt htd=>by
            unfold St.L;rw[mT_ hk4 htd,hvis];rfl
           have hHs:∀j,j<s1.nx->s2.H (s1.base b) j=s1.H b j:=λj hj=>by
            unfold St.H;rw[i0_ hj hk5,hhvis];rfl
           obtain⟨z3,g3,hE3,hH3,hf3,ho3⟩:=hR2;refine⟨⟨z3,g3,hE3.less λt u hu => ?_,hH3.less λj p hj => ?_,(λi hi=>hf3 i (by have:=Nat.le_of_ble_eq_true hk6;omega)),ho3⟩,?_,?_⟩
           .unfold eP_ at hu;split at hu
            .cases hu
            .rename_i hm;rw[hLs t (by simpa using hm)];exact hu
           .rw[hHs j (hlt j p hj)];exact hj
           .have:=hE3.op hH3.gl (.tmp d) (.v (.one (.dt .bool c))) (by show s2.L (s1.base b) d=_;rw[hLs d hdd];exact hc);exact SV.bool_ok rfl this
           .have:=SV.bool_ok rfl (hE3.op hH3.gl _ _ hop);subst hcw;cases c<;>exact this
          .cases hk3
         .obtain⟨z3,g3,hE3,hH3,hf3,ho3⟩:=hR1;have hcv:∃v,(a.put o.dst x).tmps[d]? = some v/\RV P E z3 g3 (.v (.one (.dt .bool c))) v:=hE3.get d _ hc;obtain⟨v,hv1,hv2⟩:=hcv;obtain rfl:=SV.bool_ok rfl hv2;refine skip_ok wk hcw hdo hod body (pk::rest'++tl) (idx+1) _ w' (by rw[hdr];simp) (Nat.lt_succ_self idx) hp5 hv1 (λj h5 h6=>by omega) λa' h5 h6 h7 => ?_
          refine⟨⟨z3,g3,⟨by rw[h5];exact hE3.size,by rw[h6];exact hE3.defers,λt u hu => ?_⟩,hH3,(λi hi=>hf3 i (by omega)),ho3⟩,?_,?_⟩
          .unfold eP_ at hu;split at hu
           .cases hu
           .rename_i hm;rw[h7 t (by simpa using hm)];exact hE3.get t u hu
          .have h8:=h7 d hdd;rw[hv1]at h8;simp[Act.eval,h8]
          .have hcc:∀{q:Operand},isBoolC (!wt) q=true->a'.eval q = .bool (!wt):=fun{q} hq=>by
            unfold isBoolC at hq;split at hq
            .rename_i b';show Value.bool b'=_;cases wt<;>cases b'<;>simp_all
            .cases hq
           rw[hinact hcw];have:=hcc hp6;cases wt<;>cases c<;>simp_all [picked]
        .rintro a2 w2 ⟨hR2,hv1,hv2⟩;have hdp:all.drop (idx+1+body.length)=(pk::rest')++tl:=drop_more hdr;obtain⟨hpi,hpr⟩:=drop_next hdp;have hg2:gdOK all gd (eP_ (b8_ body) (s1.L b)):=by
          unfold gdOK at hg1 ⊢;split
          .trivial
          .rename_i j w1 d1;obtain⟨h1,c1,h2,h3⟩:=hg1;refine⟨h1,c1,?_,h3⟩;unfold notIn at hp3;simp only[Bool.not_eq_true']at hp3;unfold eP_;rw[hp3];exact h2
         obtain⟨z3,g3,hE3,hH3,hf3,ho3⟩:=hR2;refine wk.pick hpi (jT_ hp1 hg2 hE3) (λw=>pick_run hpk hv1 hv2 w) ?_;have hLs:∀t,St.L b { s1 with env:=(pd,some (hN_ res))::(clear (b8_ body)++s1.env),nx:=s1.nx+e2_ body } t=if t=pd then some (hN_ res)else eP_ (b8_ body) (s1.L b) t:=λt=>by
          unfold St.L eP_;simp only[an_];by_cases htp:t=pd
          .subst htp;have:Nat.beq t t=true:=by simp
           rw[this,if_pos rfl]
          .rw[if_neg htp];have:Nat.beq t pd=false:=by
            cases hb:Nat.beq t pd with
            | false=>rfl
            | true=>exact absurd (qNb hb) htp
           rw[this];by_cases hm:al_ t (b8_ body)=true
           .rw[clear_in hm,if_pos hm]
           .rw[clear_out (by simpa using hm),if_neg hm]
         refine ih hk2 hpr ⟨z3,g3,?_,hH3,hf3,ho3⟩ ?_ hK
         .rw[hpd];refine hE3.put hp4 (s:=hN_ res) (RD.bool .nil) λt u hu => ?_
          rw[hLs t]at hu;split at hu
          .rename_i htp;exact .inl ⟨htp,(qSj hu).symm⟩
          .rename_i htp;exact .inr ⟨htp,hu⟩
         .refine iC_ hg2 hp2 λt ht => ?_
          rw[hLs t,if_neg (ht pd hpd)]
      .cases hk
def seqWalk(heq:∀p∈eqs,ap_ P E p.1 p.2)(ht:tab.OK P E)(all:List Oper):Walk P E (λL H nx o _ k=>evOp P E eqs tab L H nx o k) N Bs F0 w0 all where
 W J l _ a w:=∀(rest:List Oper) (Q:Exit->Act->World->Prop),(∀a' w',J a' w'->wpList P all.toArray Q rest a' w')->wpList P all.toArray Q (l++rest) a w
 nil hJ:=λrest Q h=>h _ _ hJ
 app h1 h2:=λrest Q h=>by
  rw[List.append_assoc];exact h1 _ Q λa' w' hJ=>h2 a' w' hJ rest Q h
 skip ho hw h1:=λrest Q h=>by
  simp only[List.cons_append];unfold wpList;rw[if_neg (by rw[hw];exact Bool.false_ne_true)];exact h1 rest Q h
 step ho hw hE hH hf hz hg hev hk:=λrest Q h=>by
  simp only[List.cons_append];refine wpList_step λK hK' => ?_
  rw[if_pos hw];exact evOp_ok heq ht hf hE hH hev λv u x w' z2 g2 h1 h2 h3 h4 h5 h6 h7=>hK' _ _ (hk v u x w' z2 g2 h1 h2 h3 h4 h5 h6 h7 rest Q h)
 pick ho hw hr h1:=λrest Q h=>by
  simp only[List.cons_append];refine wpList_step λK hK' => ?_
  rw[if_pos hw];unfold Oper.wp;rw[hr _];exact hK' _ _ (h1 rest Q h)
theorem evReg_ok(heq:∀p∈eqs,ap_ P E p.1 p.2)(ht:tab.OK P E){R:Type}{l:List Oper}{id:Nat}{b:Ba E}{s:St E}{k:St E->Option R}{r:R}{a:Act}{w:World}{Q:Exit->Act->World->Prop}(h:evReg P E eqs tab N l b s k=some r)(hR:Rel P E Bs F0 w0 N (s.L b) (s.H b) s.nx a w)
  (hK:∀s' a' w',k s'=some r->Rel P E Bs F0 w0 N (s'.L b) (s'.H b) s'.nx a' w'->Q .normal a' w'):(Code.region id l.toArray false).wp P Q a w :=
 r_list (by
  have:=dd_ (seqWalk heq ht l) _ (tl:=[]) (J:=λa' w'=>Q .normal a' w') h (by simp) hR trivial λs' a' w' h1 h2 _=>hK s' a' w' h1 h2
  have:=this [] Q λa' w' h=>h
  simpa using this)
theorem e5_:∀(l1 l2:List Oper) (i:Nat),co_ i (l1++l2)=co_ i l1++co_ (i+l1.length) l2
 | [],_,_=>rfl
 | o::l1,l2,i=>by
  simp only[List.cons_append,co_,qLc];rw[e5_ l1 l2 (i+1),show i+1+l1.length=i+(l1.length+1)by omega]
def quietWalk(heq:∀p∈eqs,ap_ P E p.1 p.2)(ht:tab.OK P E)(all:List Oper)(tl fr:List Nat)(m:Nat)(hm:∀i,i<m->fr.contains i=false)(W:World)(I:World->Prop)(hI:∀z g H,HR P E Bs F0.z.F w0 W z g H->F0.z.Le z->∀w',I w'->Keeps P E z g H W w')(Q:Exit->Act->World->Prop):Walk P E (λL H nx o _ k=>eo_ P E eqs tab L H nx o k) N Bs F0 w0 all where
 W J l i a w:=w=W->i+l.length<=m->∀rest:List (Nat×Bool),(∀a',J a' W->aH_ P all.toArray tl fr I Q rest a' W)->aH_ P all.toArray tl fr I Q (co_ i l++rest) a W
 nil hJ:=λe _ rest h=>h _ (e▸hJ)
 app h1 h2:=λe hle rest h=>by
  rw[e5_,List.append_assoc];rw[qLa]at hle;exact h1 e (by omega) _ λa' hJ=>h2 a' W hJ rfl (by omega) rest h
 skip {J o l i a w} ho hw h1:=λe hle rest h=>by
  simp only[qLc]at hle;simp only[co_,List.cons_append];refine cw_ o ho λK hK => ?_
  rw[if_neg (by rw[hw];exact Bool.false_ne_true)];exact hK _ (h1 e (by omega) rest h)
 step {J o l i a w R L H nx z g k r} ho hw hE hH hf hz hg hev hk:=λe hle rest h=>by
  simp only[qLc]at hle;subst e;simp only[co_,List.cons_append];refine cw_ o ho λK hK => ?_
  rw[if_pos hw,hm i (by omega)];obtain⟨s,u,v,g2,h1,h2,h3,h4,h5,h6⟩:=f9_ heq ht hf hE hH (hI z g H hH hz) hev;refine⟨v,h6,hK _ ?_⟩;exact hk (some s) u v w z g2 h1 (Fz.Le.refl z) h2 (hE.le (Fz.Le.refl z) h2) h3 h4.nxU (λsv hsv=>by obtain rfl:=qSj hsv;exact h5) rfl (by omega) rest h
 pick {J o l i a w v} ho hw hr h1:=λe hle rest h=>by
  simp only[qLc]at hle;simp only[co_,List.cons_append];refine cw_ o ho λK hK => ?_
  rw[if_pos hw];exact⟨v,λw' _=>by rw[hr];exact⟨rfl,rfl⟩,hK _ (h1 e (by omega) rest h)⟩
theorem Rel.ext{L:Nat->Option (SV E)}{H:Nat->Option (Obj E)}{nx:Nat}{a:Act}{w w':World}(h:Rel P E Bs F0 w0 N L H nx a w)(hx:Ext w w'):Rel P E Bs F0 w0 N L H nx a w' :=
 let ⟨z,g,h1,h2,h3⟩:=h
 ⟨z,g,h1,h2.ext hx,h3⟩
theorem Rel.inz{L:Nat->Option (SV E)}{H:Nat->Option (Obj E)}{nx:Nat}{a:Act}{w:World}(h:Rel P E Bs F0 w0 N L H nx a w):F0.z.In w:=by
 obtain⟨z,g,_,h2,_,h4,_⟩:=h;exact λk hk=>⟨(h2.fz k (h4 k hk).1).1,(h2.fz k (h4 k hk).1).2.trans (h4 k hk).2⟩
theorem lW_:∀{fl:List Nat} {n k:Nat},fl[k]? = some 2->n+k∈tlOf n fl
 | [],n,k,h=>by simp at h
 | f::fl,n,0,h=>by
  simp only[List.getElem?_cons_zero,qOi]at h;subst h;simp[tlOf]
 | f::fl,n,k+1,h=>by
  have:=lW_ (n:=n+1) (show fl[k]? = some 2 by simpa using h);rw[show n+1+k=n+(k+1)by omega]at this;simp only[tlOf];split
  .exact List.mem_cons_of_mem _ this
  .exact this
theorem bs_{o:Oper}(h:o.guard=none)(y:Nat->Option Bool):Region.wanted o y=true:=by
 unfold Region.wanted;rw[h]
theorem mem_frOf:∀{fl:List Nat} {n i:Nat},i∈frOf n fl->n<=i/\fl[i-n]? = some 4
 | [],n,i,h=>by cases h
 | f::fl,n,i,h=>by
  have next:i∈frOf (n+1) fl->n<=i/\(f::fl)[i-n]? = some 4:=λh=>by
   obtain⟨h1,h2⟩:=mem_frOf h;refine⟨by omega,?_⟩;rw[show i-n=(i-(n+1))+1 by omega];simpa using h2
  simp only[frOf]at h;split at h
  .rename_i hb;rcases List.mem_cons.1 h with rfl|h
   .obtain rfl:=qNb hb;simp
   .exact next h
  .exact next h
theorem mU_:∀{fl:List Nat} {i:Nat},i<aj_ fl->fl[i]? = some 0
 | [],i,h=>by simp[aj_]at h
 | f::fl,i,h=>by
  simp only[aj_]at h;split at h
  .rename_i hb;obtain rfl:=qNb hb;cases i with
   | zero=>rfl
   | succ i=>simpa using mU_ (fl:=fl) (i:=i) (by omega)
  .omega
theorem notFree{fl:List Nat}{i:Nat}(h:i<aj_ fl):(frOf 0 fl).contains i=false:=by
 cases hc:(frOf 0 fl).contains i with
 | false=>rfl
 | true =>
  obtain⟨_,h1⟩:=mem_frOf (List.contains_iff_mem.1 hc);rw[Nat.sub_zero,mU_ h]at h1;cases h1
theorem evH_ok(heq:∀p∈eqs,ap_ P E p.1 p.2)(ht:tab.OK P E){W:World}{I:World->Prop}(hI:∀z g H,HR P E Bs F0.z.F w0 W z g H->F0.z.Le z->∀w',I w'->Keeps P E z g H W w'){R:Type}{r:R}{all:List Oper}{tl fr:List Nat}{Q:Exit->Act->World->Prop}{b:Ba E}{k:St E->Option R}{rest:List (Nat×Bool)}
  (hK:∀s' a',k s'=some r->Rel P E Bs F0 w0 N (s'.L b) (s'.H b) s'.nx a' W->aH_ P all.toArray tl fr I Q rest a' W):∀{hs:List Nat} {s:St E} {a:Act},
  evH P E eqs tab N b all fr hs s k=some r->Rel P E Bs F0 w0 N (s.L b) (s.H b) s.nx a W->aH_ P all.toArray tl fr I Q (hOrd hs++rest) a W
 | [],s,a,h,hR=>hK s a h hR
 | i :: hs,s,a,h,hR=>by
  unfold evH at h;split at h
  .cases h
  .rename_i o ho;split at h
   .cases h
   .rename_i hgd;obtain⟨z,g,hE,hH,hfr,hz0,hg0⟩:=hR;simp only[hOrd,List.cons_append];refine cw_ o ho λK hK' => ?_
    rw[if_pos (bs_ hgd _)];split at h
    .rename_i hc;rw[hc];obtain⟨sv,v,up,g2,hk,hgl,hgn,hv,hrun,hup⟩:=dY_ (nx:=s.nx) heq (hE.op hH.gl) (hH.less (H':=λ_=>none) λ_ _ e=>by cases e) h (λ_=>True);simp only at hk;split at hk
     .cases hk
     .obtain rfl:g2=g:=hup;split at hk
      .rename_i s1 hs1;obtain⟨hR1,_⟩:=aP_ (u:=[]) hs1 hE hH hz0 hg0 (λj hj=>hfr j (by simp only[nxU]at hj;omega)) (λsv' e=>by obtain rfl:=qSj e;exact hv);exact⟨v,λw' _=>by rw[hrun w' trivial];exact⟨rfl,rfl⟩,hK' _ (evH_ok heq ht hI hK hk hR1)⟩
      .cases hk
    .rename_i hc;rw[hc];obtain⟨sv,u,v,g2,hk,h2,h3,h4,h5,h6⟩:=f9_ heq ht hfr hE hH (hI z g _ hH hz0) h;simp only at hk;split at hk
     .rename_i s1 hs1;obtain⟨hR1,_⟩:=aP_ hs1 (hE.le (Fz.Le.refl z) h2) h3 hz0 (hg0.trans h2) h4.nxU (λsv' e=>by obtain rfl:=qSj e;exact h5);exact⟨v,h6,hK' _ (evH_ok heq ht hI hK hk hR1)⟩
     .cases hk
theorem hP_(heq:∀p∈eqs,ap_ P E p.1 p.2)(ht:tab.OK P E){fm:Bool}{I:World->Prop}(hIx:∀w w',I w->Ext w w'->I w')(hfm:fm=true->∀{L:Nat->Option (SV E)} {H:Nat->Option (Obj E)} {nx:Nat} {a:Act} {w:World},Rel P E Bs F0 w0 N L H nx a w->I w){R:Type}{r:R}{all:List Oper}{tl fr:List Nat}{Q:Exit->Act->World->Prop}{b:Ba E}{k:St E->Option R}
  (hK:∀s' a' w',k s'=some r->Rel P E Bs F0 w0 N (s'.L b) (s'.H b) s'.nx a' w'->Q .normal a' w'):∀{l:List (Nat×Oper×Nat)} {s:St E} {a:Act} {w:World},
  evB P E eqs tab N fm b l s k=some r->(∀t∈l,all[t.1]? = some t.2.1/\(t.2.2=2->t.1∈tl))->Rel P E Bs F0 w0 N (s.L b) (s.H b) s.nx a w->aH_ P all.toArray tl fr I Q (bq_ l) a w
 | [],s,a,w,h,_,hR=>wpMixI_nil λX d=>hK s a _ h (hR.ext ⟨X,d,rfl⟩)
 | (i, o,f)::l,s,a,w,h,hall,hR=>by
  obtain⟨ho,htl⟩:=hall _ (List.mem_cons_self ..);have hall':∀t∈l,all[t.1]? = some t.2.1/\(t.2.2=2->t.1∈tl):=λt ht=>hall t (List.mem_cons_of_mem _ ht)
  simp only at ho htl;unfold evB at h;split at h
  .cases h
  .rename_i hgd;simp only[bq_];split at h
   .rename_i hf0;rw[hf0];obtain⟨z,g,hE,hH,hfr,hz0,hg0⟩:=hR;obtain⟨sv,v,up,g2,hk,hgl,hgn,hv,hrun,hup⟩:=dY_ (nx:=s.nx) heq (hE.op hH.gl) (hH.less (H':=λ_=>none) λ_ _ e=>by cases e) h (λ_=>True);simp only at hk;split at hk
    .cases hk
    .obtain rfl:g2=g:=hup;split at hk
     .rename_i s1 hs1;obtain⟨hR1,_⟩:=aP_ (u:=[]) hs1 hE hH hz0 hg0 (λj hj=>hfr j (by simp only[nxU]at hj;omega)) (λsv' e=>by obtain rfl:=qSj e;exact hv);refine cw_ o ho λK hK' => ?_
      rw[if_pos (bs_ hgd _)];exact⟨v,λw' _=>by rw[hrun w' trivial];exact⟨rfl,rfl⟩,hK' _ (hP_ heq ht hIx hfm hK hk hall' hR1)⟩
     .cases hk
   .rename_i hf0;rw[hf0];split at h
    .cases h
    .rename_i hfl;refine k4_ o ho λK hK' X d => ?_
     have hx:Ext w (w.ext X d):=⟨X,d,rfl⟩;obtain⟨z,g,hE,hH,hfr,hz0,hg0⟩:=hR.ext hx;refine wpList_step λK2 hK2 => ?_
     rw[if_pos (bs_ hgd _)];refine f7_ heq ht hfr hE hH h λv u x w' z2 g2 hk hz2 hg2 hE2 hH2 hf2 hv hmk=>hK2 _ _ ?_
     split at hk
     .rename_i s1 hs1;obtain⟨hR1,_⟩:=aP_ hs1 hE2 hH2 (hz0.trans hz2) (hg0.trans hg2) hf2 hv;show K _ _;refine hK' _ _ (λhc hw => ?_) (hP_ heq ht hIx hfm hK hk hall' hR1);simp only[Bool.or_eq_true]at hfl;rcases hfl with h1|h1|h1
      .obtain rfl:=qNb h1;rw[List.contains_iff_mem.2 (htl rfl)]at hc;cases hc
      .exact hfm h1 hR1
      .exact hIx _ _ (hIx _ _ hw hx) (hmk h1)
     .cases hk
theorem lX_{hs:List Nat}:∀{l:List Oper} {fl:List Nat} {i:Nat} {t:Nat×Oper×Nat},t∈b2_ hs i l fl->∃k,t.1=i+k/\l[k]? = some t.2.1/\fl[k]? = some t.2.2
 | [],fl,i,t,h=>by cases fl<;>simp[b2_]at h
 | o::l,[],i,t,h=>by simp[b2_]at h
 | o::l,f::fl,i,t,h=>by
  have next:t∈b2_ hs (i+1) l fl->∃k,t.1=i+k/\(o::l)[k]? = some t.2.1/\(f::fl)[k]? = some t.2.2:=λh=>by
   obtain⟨k,h1,h2,h3⟩:=lX_ h;exact⟨k+1,by omega,by simpa using h2,by simpa using h3⟩
  simp only[b2_]at h;split at h
  .exact next h
  .rcases List.mem_cons.1 h with rfl|h
   .exact⟨0,rfl,rfl,rfl⟩
   .exact next h
theorem dp_{S:List Nat}{H:Nat->Option (Obj E)}{i:Nat}{o:Obj E}(h:cI_ S H i=some o):i∉S/\H i=some o:=by
 unfold cI_ at h;split at h
 .cases h
 .rename_i hm;exact⟨λhc=>(by rw[memN_true.2 hc]at hm;cases hm),h⟩
theorem dq_{S:List Nat}{H:Nat->Option (Obj E)}{i:Nat}{o:Obj E}(h:dQ_ S H i=some o):i∈S/\H i=some o:=by
 unfold dQ_ at h;split at h
 .rename_i hm;exact⟨memN_true.1 hm,h⟩
 .cases h
theorem HR.ga{z:Fz}{g g':Ga}{w:World}{H:Nat->Option (Obj E)}{F:Nat->Prop}(h:HR P E Bs F w0 w z g H)(hg:g.Le g'):HR P E Bs F w0 w z g' H :=
 ⟨h.chg,λid o e=>(h.hold id o e).keep (Fz.Le.refl z) hg λ_ _=>rfl,λid o k e hk=>h.own id o k e ((eh_ (h.hold id o e).loc hg).1 hk),λid id' o o' k hn e e' hk hk'=>h.apart id id' o o' k hn e e' ((eh_ (h.hold id o e).loc hg).1 hk) ((eh_ (h.hold id' o' e').loc hg).1 hk'),h.fz,h.fz0,λid o k e hk=>h.fza id o k e ((eh_ (h.hold id o e).loc hg).1 hk),h.gl⟩
theorem HR.part{z:Fz}{g:Ga}{w:World}{H H':Nat->Option (Obj E)}{F:Nat->Prop}(h:HR P E Bs F w0 w z g H)(hs:∀i o,H' i=some o->H i=some o){B:List Nat}(hB:∀i o k,H' i=some o->fpO g i o k->k∈B):HR P E B z.F w w z g H' :=
 ⟨Chg.of_below (Below.refl _ _),λi o e=>h.hold i o (hs i o e),λi o k e hk => .inr (hB i o k e hk),λi j o p k hn e e'=>h.apart i j o p k hn (hs i o e) (hs j p e'),h.fz,λ_ hk => .inl hk,λi o k e=>h.fza i o k (hs i o e),h.gl⟩
theorem dF_{α:Type}{t:Nat}:∀{l m:List (Nat×α)},an_ t (l++m)=match an_ t l with|some v=>some v|none=>an_ t m
 | [],m=>rfl
 | (u,x)::l,m=>by
  simp only[List.cons_append,an_];cases Nat.beq t u with
  | true=>rfl
  | false=>exact dF_
theorem eQ_{H:Nat->Option (Obj E)}{i:Nat}:∀{l:Chs E},upH H l i=match an_ i l with|some o=>o|none=>H i
 | []=>rfl
 | (k,o)::l=>by
  simp only[upH,an_];cases Nat.beq i k with
  | true=>rfl
  | false=>exact eQ_
theorem evDraw_ok (heq:∀p∈eqs,ap_ P E p.1 p.2) (ht:tab.OK P E) {R:Type} {l:List Oper} {fl hs S:List Nat} {fm:Bool} {id:Nat} {b:Ba E} {s:St E} {k:St E->Option R} {r:R} {a:Act} {w:World} {Q:Exit->Act->World->Prop} (h:evDraw P E eqs tab N l fl hs fm S b s k=some r) (hR:Rel P E Bs F0 w0 N (s.L b) (s.H b) s.nx a w)
  (hK:∀s' a' w',k s'=some r->Rel P E Bs F0 w0 N (s'.L b) (s'.H b) s'.nx a' w'->Q .normal a' w'):(Code.region id l.toArray true).wp P Q a w:=by
 unfold evDraw at h;split at h
 .cases h
 .rename_i hchk;simp only[qAn]at hchk;obtain⟨hm,hB⟩:=hchk;have hmem:∀t∈b2_ hs (aj_ fl) (l.drop (aj_ fl)) (fl.drop (aj_ fl)),l[t.1]? = some t.2.1/\(t.2.2=2->t.1∈tlOf 0 fl):=λt hmem=>by
   obtain⟨k,h5,h6,h7⟩:=lX_ hmem;rw[List.getElem?_drop]at h6 h7;rw[←h5]at h6 h7;refine⟨h6,λhf => ?_⟩;rw[hf]at h7;have:=lW_ (n:=0) h7
   rwa [Nat.zero_add]at this
  split at h
  .have hIx:∀w1 w',Ext w w1->Ext w1 w'->Ext w w':=λ_ _ h1 h2=>h1.trans h2
   have hI:∀z g H,HR P E Bs F0.z.F w0 w z g H->F0.z.Le z->∀w',Ext w w'->Keeps P E z g H w w':=λz g H h1 _ w' h2=>Keeps.of_ext h1 h2
   refine hL_ (I:=Ext w) hIx _ _ _ hm hB (Ext.refl w) ?_;have:=dd_ (quietWalk heq ht l (tlOf 0 fl) (frOf 0 fl) (aj_ fl) (λ_ h=>notFree h) w (Ext w) hI Q) _ (tl:=l.drop (aj_ fl)) (J:=λa' w'=>w'=w->aH_ P l.toArray (tlOf 0 fl) (frOf 0 fl) (Ext w) Q (hOrd hs++bq_ (b2_ hs (aj_ fl) (l.drop (aj_ fl)) (fl.drop (aj_ fl)))) a' w) h (by simp) hR trivial λs' a' w' h1 h2 _ hw=>by
    subst hw;exact evH_ok heq ht hI (λs2 a2 h3 h4=>hP_ heq ht hIx (λe=>by cases e) hK h3 hmem h4) h1 h2
   exact this rfl (by rw[Nat.zero_add];exact List.length_take_le _ _) _ λa' h1=>h1 rfl
  .obtain ⟨z,g,hE,hH,hfr,hz0,hg0⟩:=hR
   -- the footprints of what is read, and of what is turned
   let B1:List Nat:=((List.range s.nx).map (blk (cI_ S (s.H b)) g)).flatten
   let B2:List Nat:=(S.map (blk (dQ_ S (s.H b)) g)).flatten
   have hlt:∀i o,s.H b i=some o->i<s.nx:=λi o e=>by
    obtain⟨l',hl⟩:=(hH.hold i o e).loc;rcases Nat.lt_or_ge i s.nx with h5|h5
    .exact h5
    .rw[hfr i h5]at hl;cases hl
   have hB1:∀i o k,cI_ S (s.H b) i=some o->fpO g i o k->k∈B1:=λi o k e hk=>List.mem_flatten.2 ⟨_,List.mem_map.2 ⟨i,List.mem_range.2 (hlt i o (dp_ e).2),rfl⟩,mem_blk.2 ⟨o,e,hk⟩⟩
   have hB2:∀i o k,dQ_ S (s.H b) i=some o->fpO g i o k->k∈B2:=λi o k e hk=>List.mem_flatten.2 ⟨_,List.mem_map.2 ⟨i,(dq_ e).1,rfl⟩,mem_blk.2 ⟨o,e,hk⟩⟩
   have hB1':∀k,k∈B1->∃i o,cI_ S (s.H b) i=some o/\fpO g i o k:=λk hk=>by
    obtain⟨_,i,o,_,h5,h6⟩:=eK_ hk;exact⟨i,o,h5,h6⟩
   have hB2':∀k,k∈B2->∃i o,dQ_ S (s.H b) i=some o/\fpO g i o k:=λk hk=>by
    obtain⟨_,i,o,_,h5,h6⟩:=eK_ hk;exact⟨i,o,h5,h6⟩
   have hB12:∀k,k∈B1->k∉B2:=λk h1 h2=>by
    obtain⟨i,o,h3,h4⟩:=hB1' k h1;obtain⟨j,p,h5,h6⟩:=hB2' k h2;exact hH.apart i j o p k (λe=>(dp_ h3).1 (e▸(dq_ h5).1)) (dp_ h3).2 (dq_ h5).2 h4 h6
   have hB1w:∀k,k∈B1->k<w.heap.size:=λk hk=>by
    obtain⟨i,o,h3,h4⟩:=hB1' k hk;exact(hH.hold i o (dp_ h3).2).lt h4
   have hq:=hH.part (λi o e=>(dp_ e).2) hB1
   let F1:Org:=⟨z,g,F0.lo⟩
   let I:World->Prop:=λw'=>z.In w'/\∀k,k∈B1->w'.heap[k]? = w.heap[k]?
   have hIx:∀w1 w',I w1->Ext w1 w'->I w':=λw1 w' h1 h2=>⟨h1.1.ext h2,λk hk=>by
    have h3:=h1.2 k hk;have h4:k<w1.heap.size:=by
     rcases Nat.lt_or_ge k w1.heap.size with h5|h5
     .exact h5
     .rw[Array.getElem?_eq_none h5,Array.getElem?_eq_getElem (hB1w k hk)]at h3;cases h3
    exact(h2.below.block k h4).trans h3⟩
   have hI:∀z2 g2 H2,HR P E B1 F1.z.F w w z2 g2 H2->F1.z.Le z2->∀w',I w'->Keeps P E z2 g2 H2 w w':=λz2 g2 H2 h1 hle w' hw'=>by
    have hfp:∀i o k,H2 i=some o->fpO g2 i o k->k∈B1:=λi o k e hk=>by
     rcases h1.own i o k e hk with h3|h3
     .have:=(h1.hold i o e).lt hk;omega
     .exact h3
    have hin:z2.In w':=λk hk=>by
     rcases h1.fz0 k hk with h3|h3|h3
     .have h4:=hw'.1 k h3;exact⟨h4.1,h4.2.trans (hle k h3).2.symm⟩
     .have:=(h1.fz k hk).1;omega
     .have h4:=hw'.2 k h3;refine⟨?_,h4.trans (h1.fz k hk).2⟩;rcases Nat.lt_or_ge k w'.heap.size with h5|h5
      .exact h5
      .rw[Array.getElem?_eq_none h5,Array.getElem?_eq_getElem (hB1w k h3)]at h4;cases h4
    refine⟨⟨hin,λi o k e hk=>hw'.2 k (hfp i o k e hk)⟩,B1,z2.F,w',⟨Chg.of_below (Below.refl _ _),λi o e=>(h1.hold i o e).keep (Fz.Le.refl z2) (Ga.Le.refl g2) λk hk=>hw'.2 k (hfp i o k e hk),λi o k e hk => .inr (hfp i o k e hk),h1.apart,hin,λk hk => .inl hk,h1.fza,h1.gl⟩⟩
   refine hL_ (I:=I) hIx _ _ _ hm hB ⟨hH.fz,λ_ _=>rfl⟩ ?_;have hR0:Rel P E B1 F1 w N ((St.new s.nx:St E).L ⟨s.L b,cI_ S (s.H b),b.lo⟩) ((St.new s.nx:St E).H ⟨s.L b,cI_ S (s.H b),b.lo⟩) s.nx a w:=⟨z,g,hE,hq,hfr,Fz.Le.refl z,Ga.Le.refl g⟩
   have := dd_ (quietWalk (F0:=F1) (w0:=w) (Bs:=B1) heq ht l (tlOf 0 fl) (frOf 0 fl) (aj_ fl) (λ_ h=>notFree h) w I hI Q) _ (tl:=l.drop (aj_ fl)) (J:=λa' w'=>w'=w->aH_ P l.toArray (tlOf 0 fl) (frOf 0 fl) I Q (hOrd hs++bq_ (b2_ hs (aj_ fl) (l.drop (aj_ fl)) (fl.drop (aj_ fl)))) a' w) h (by simp) hR0 trivial λs' a' w' h1 h2 _ hw=>by
    subst hw;refine evH_ok (F0:=F1) (w0:=w') (Bs:=B1) heq ht hI (λs2 a2 h3 h4 => ?_) h1 h2;split at h3
    .rename_i hvis hhvis hheap;obtain⟨z2,g2,hE2,hH2,hfr2,hz2,hg2⟩:=h4;have hHq:St.H ⟨s.L b,cI_ S (s.H b),b.lo⟩ s2=cI_ S (s.H b):=by
      unfold St.H;rw[hheap,hhvis];rfl
     rw[hHq]at hH2;have hz21:z2.Le z:=λk hk=>by
      have h5:z.F k:=by
       rcases hH2.fz0 k hk with h6|h6|h6
       .exact h6
       .have:=(hH2.fz k hk).1;omega
       .obtain⟨i,o,h7,h8⟩:=hB1' k h6;exact(hH2.fza i o k h7 ((eh_ (hH.hold i o (dp_ h7).2).loc hg2).2 h8) hk).elim
      exact⟨h5,(hz2 k h5).2.symm⟩
     have hs2:HR P E B2 z.F w' w' z g2 (dQ_ S (s.H b)):=(hH.part (λi o e=>(dq_ e).2) hB2).ga hg2;have hR2:Rel P E B2 ⟨z,g,F0.lo⟩ w' N ((St.new s2.nx:St E).L ⟨s2.L ⟨s.L b,cI_ S (s.H b),b.lo⟩,dQ_ S (s.H b),b.lo⟩) ((St.new s2.nx:St E).H ⟨s2.L ⟨s.L b,cI_ S (s.H b),b.lo⟩,dQ_ S (s.H b),b.lo⟩) s2.nx a2 w':=⟨z,g2,hE2.le hz21 (Ga.Le.refl g2),hs2,hfr2,Fz.Le.refl z,hg2⟩;refine hP_ (F0:=⟨z,g,F0.lo⟩) (Bs:=B2) (w0:=w') heq ht hIx (λ_ {L H nx a w1} h5=>⟨h5.inz,λk hk => ?_⟩) (λs3 a3 w3 h5 h6 => ?_) h3 hmem hR2
     .obtain⟨_,_,_,h6,_⟩:=h5;exact h6.chg.block k (hB1w k hk) (hB12 k hk)
     .split at h5
      .rename_i hv3 hh3;refine hK _ a3 w3 h5 ?_;obtain⟨z3,g3,hE3,hH3,hfr3,hz3,hg3⟩:=h6;have hH3e:St.H ⟨s2.L ⟨s.L b,cI_ S (s.H b),b.lo⟩,dQ_ S (s.H b),b.lo⟩ s3=upH (dQ_ S (s.H b)) s3.heap:=by
        unfold St.H;rw[hh3];rfl
       rw[hH3e]at hH3;have hHe:St.H b { s with env:=s3.env++(s2.env++s.env),heap:=s3.heap++s.heap,nx:=s3.nx }=upH (s.H b) s3.heap:=by
        unfold St.H;rw[ao_]
       refine⟨z3,g3,hE3.less λt u hu => ?_,?_,hfr3,hz0.trans hz3,hg0.trans hg3⟩
       .simp only[St.L]at hu ⊢;rw[dF_,dF_]at hu;simp only[hv3,hvis,seen];cases e3:an_ t s3.env with
        | some v=>rw[e3]at hu;exact hu
        | none =>
         rw[e3]at hu;simp only at hu ⊢;cases e2:an_ t s2.env with
         | some v=>rw[e2]at hu;exact hu
         | none=>rw[e2]at hu;exact hu
       .rw [hHe];refine hH.back (I:=S) (s:=λj i=>j=i) hH3 (λk hk => ?_) hg3 (λj o hj => ?_) (λj j' i h7 h8=>h7.trans h8.symm) (λj i o h7 h8=>by subst h7;exact⟨hH3.hold _ _ h8,λ_=>Iff.rfl⟩) hz3 hH3.fz λk hk => ?_
        .obtain⟨i,o,h7,h8⟩:=hB2' k hk;exact⟨i,o,(dq_ h7).1,(dq_ h7).2,h8⟩
        .by_cases hjS:j∈S
         .refine .inl ⟨j,rfl,?_⟩;rw[eQ_]at hj ⊢;cases e4:an_ j s3.heap with
          | some v=>rw[e4]at hj;exact hj
          | none =>
           rw[e4]at hj;simp only at hj ⊢;unfold dQ_;rw[memN_true.2 hjS];exact hj
         .rw[eQ_]at hj;cases e4:an_ j s3.heap with
          | some v =>
           rw[e4]at hj;refine .inl ⟨j,rfl,?_⟩;rw[eQ_,e4];exact hj
          | none =>
           rw[e4]at hj;exact .inr ⟨hjS,hj⟩
        .rcases hH3.fz0 k hk with h7|h7|h7
         .exact .inl h7
         .exact .inr ⟨.inl h7,hk⟩
         .exact .inr ⟨.inr h7,hk⟩
      .cases h5
    .cases h3
   exact this rfl (by rw[Nat.zero_add];exact List.length_take_le _ _) _ λa' h1=>h1 rfl
structure Apart1(w0:World)(z:Fz)(g:Ga)(H:Nat->Option (Obj E))(w:World)(q:Nat)(o:Go.Obj):Prop where
 at_:w.heap[q]? = some o
 new:w0.heap.size<=q
 fp:∀id p k,H id=some p->fpO g id p k->k≠q
 fz:¬z.F q
def RelF(P:Program)(E:TE)(Bs:List Nat)(F0:Org)(w0:World)(N:Nat)(d q:Nat)(o:Go.Obj)(L:Nat->Option (SV E))(H:Nat->Option (Obj E))(nx:Nat)(a:Act)(w:World):Prop:=∃z g,ER P E z g N a L/\HR P E Bs F0.z.F w0 w z g H/\Fresh g nx/\F0.z.Le z/\F0.g.Le g/\Apart1 w0 z g H w q o/\a.tmps[d]? = some (.pointer (some ⟨q,0,none⟩))
theorem Apart1.ext{z:Fz}{g:Ga}{H:Nat->Option (Obj E)}{w w':World}{q:Nat}{o:Go.Obj}(h:Apart1 w0 z g H w q o)(hx:Ext w w'):Apart1 w0 z g H w' q o:=by
 have hlt:q<w.heap.size:=(Array.getElem?_eq_some_iff.1 h.at_).1;exact⟨(hx.below.block q hlt).trans h.at_,h.new,h.fp,h.fz⟩
theorem RelF.ext{d q:Nat}{o:Go.Obj}{L:Nat->Option (SV E)}{H:Nat->Option (Obj E)}{nx:Nat}{a:Act}{w w':World}(h:RelF P E Bs F0 w0 N d q o L H nx a w)(hx:Ext w w'):RelF P E Bs F0 w0 N d q o L H nx a w' :=
 let ⟨z,g,h1,h2,h3,h4,h5,h6,h7⟩:=h
 ⟨z,g,h1,h2.ext hx,h3,h4,h5,h6.ext hx,h7⟩
theorem evOp_frame(heq:∀p∈eqs,ap_ P E p.1 p.2)(ht:tab.OK P E){R:Type}{r:R}{z:Fz}{g:Ga}{L:Nat->Option (SV E)}{H:Nat->Option (Obj E)}{nx:Nat}{a:Act}{w:World}{o:Oper}{K:Act->World->Prop}{Q:Exit->Act->World->Prop}{k:Option (SV E)->Chs E->Option R}{q:Nat}{ob:Go.Obj}
  (hnx:Fresh g nx) (hE:ER P E z g N a L) (hH:HR P E Bs F0.z.F w0 w z g H) (hap:Apart1 w0 z g H w q ob) (h:evOp P E eqs tab L H nx o k=some r)
  (hK:∀s u v w' z2 g2,k s u=some r->z.Le z2->g.Le g2->ER P E z2 g2 N a L->HR P E Bs F0.z.F w0 w' z2 g2 (upH H u)->Fresh g2 (nxU nx u)->(∀sv,s=some sv->RV P E z2 g2 sv v)->(bw_ tab L o=true->Ext w w')->Apart1 w0 z2 g2 (upH H u) w' q ob->K (a.put o.dst v) w'):o.wp P a w K Q:=by
 have hlt:∀i p,H i=some p->i<nx:=λi p e=>by
  obtain⟨l',hl⟩:=(hH.hold i p e).loc;rcases Nat.lt_or_ge i nx with h5|h5
  .exact h5
  .rw[hnx i h5]at hl;cases hl
 let B:List Nat:=((List.range nx).map (blk H g)).flatten
 have hB:∀i p k,H i=some p->fpO g i p k->k∈B:=λi p k e hk=>List.mem_flatten.2 ⟨_,List.mem_map.2 ⟨i,List.mem_range.2 (hlt i p e),rfl⟩,mem_blk.2 ⟨p,e,hk⟩⟩
 have hB':∀k,k∈B->∃i p,i∈List.range nx/\H i=some p/\fpO g i p k:=λk hk=>by
  obtain⟨_,i,p,h4,h5,h6⟩:=eK_ hk;exact⟨i,p,List.mem_range.2 (hlt i p h5),h5,h6⟩
 have hqB:q∉B:=λhq=>by
  obtain⟨i,p,_,h5,h6⟩:=hB' q hq;exact hap.fp i p q h5 h6 rfl
 have hqlt:q<w.heap.size:=(Array.getElem?_eq_some_iff.1 hap.at_).1;have hp:=hH.part (λ_ _ e=>e) hB;refine f7_ (Bs:=B) (F0:=z.F) (w0:=w) heq ht hnx hE hp h λs u v w' z2 g2 hk hz2 hg2 hE2 hH2 hf2 hv hmk => ?_
 refine hK s u v w' z2 g2 hk hz2 hg2 hE2 ?_ hf2 hv hmk ⟨?_,hap.new,λid p k he hfp => ?_,λhz => ?_⟩
 .refine hH.back (I:=List.range nx) (s:=λj i=>j=i) hH2 (λk hk => ?_) hg2 (λj p hj => .inl ⟨j,rfl,hj⟩) (λj j' i h7 h8=>h7.trans h8.symm) (λj i p h7 h8=>by subst h7;exact⟨hH2.hold _ _ h8,λ_=>Iff.rfl⟩) hz2 hH2.fz λk hk => ?_
  .exact hB' k hk
  .rcases hH2.fz0 k hk with h7|h7|h7
   .exact .inl h7
   .exact .inr ⟨.inl h7,hk⟩
   .exact .inr ⟨.inr h7,hk⟩
 .exact(hH2.chg.block q hqlt hqB).trans hap.at_
 .rcases hH2.own id p k he hfp with h7|h7
  .omega
  .intro e;subst e;exact hqB h7
 .rcases hH2.fz0 q hz with h7|h7|h7
  .exact hap.fz h7
  .omega
  .exact hqB h7
theorem HR.adopt{z:Fz}{g:Ga}{H:Nat->Option (Obj E)}{F:Nat->Prop}{w:World}{q n:Nat}{T:TypeId}{cs:List (SC E)}{vs:List Value}(hH:HR P E Bs F w0 w z g H)(hn:g n=none)(hap:Apart1 w0 z g H w q (.cells vs.toArray T (0,0)))(hcs:All2 (RC P E z (g.put n ⟨none,0,0,0,q,0⟩)) cs vs) :
  HR P E Bs F w0 w z (g.put n ⟨none,0,0,0,q,0⟩) (upH H [(n,some (.box T cs))]):=by
 have hle:=Ga.le_put (l:=⟨none,0,0,0,q,0⟩) hn;have hG:=hH.ga hle;have hself:=Ga.put_self g n ⟨none,0,0,0,q,0⟩;have hfp:∀k,fpO (g.put n ⟨none,0,0,0,q,0⟩) n (Obj.box T cs:Obj E) k->k=q:=λk hk=>by
  obtain⟨l,h1,h2⟩:=hk;rw[hself]at h1;obtain rfl:=qSj h1;exact h2
 have hold:∀j p k,H j=some p->fpO (g.put n ⟨none,0,0,0,q,0⟩) j p k->k≠q:=λj p k e hk=>hap.fp j p k e ((eh_ (hH.hold j p e).loc hle).1 hk)
 refine⟨hG.chg,λj p e => ?_,λj p k e hk => ?_,λj j' p p' k hj e e' hk hk' => ?_,hG.fz,hG.fz0,λj p k e hk hz => ?_,hG.gl⟩
 .rcases ax_ e with⟨rfl,rfl⟩|⟨_,h2⟩
  .exact⟨_,vs,hself,hap.at_,hcs⟩
  .exact hG.hold j p h2
 .rcases ax_ e with⟨rfl,rfl⟩|⟨_,h2⟩
  .rw[hfp k hk];exact .inl hap.new
  .exact hG.own j p k h2 hk
 .rcases ax_ e with⟨rfl,rfl⟩|⟨_,h2⟩<;>rcases ax_ e' with⟨rfl,rfl⟩|⟨_,h2'⟩
  .exact hj rfl
  .exact hold j' p' k h2' hk' (hfp k hk)
  .exact hold j p k h2 hk (hfp k hk')
  .exact hG.apart j j' p p' k hj h2 h2' hk hk'
 .rcases ax_ e with⟨rfl,rfl⟩|⟨_,h2⟩
  .rw[hfp k hk]at hz;exact hap.fz hz
  .exact hG.fza j p k h2 hk hz
theorem put_same{a:Act}{d:Nat}{v:Value}(h:a.tmps[d]? = some v):a.put (some d) v=a:=by
 unfold Act.put;have:a.tmps.setIfInBounds d v=a.tmps:=by
  apply Array.ext_getElem?;intro i;rw[Array.getElem?_setIfInBounds];split
  .rename_i hi;subst hi;split
   .exact h.symm
   .rename_i hlt;rw[Array.getElem?_eq_none (by omega)]
  .rfl
 simp only[this]
theorem put_other{a:Act}{d:Nat}{o:Oper}{v u:Value}(h:a.tmps[d]? = some v)(hd:o.dst≠some d):(a.put o.dst u).tmps[d]? = some v:=by
 unfold Act.put;split
 .rename_i e he;rw[Array.getElem?_setIfInBounds];split
  .rename_i hi;subst hi;exact absurd he hd
  .exact h
 .exact h
theorem iD_{d:Nat}:∀{l:List (Nat×Oper×Nat)},al_ d (dstsT l)=false->∀t∈l,t.2.1.dst≠some d
 | [],_,_,h=>by cases h
 | t0::l,hm,t,h=>by
  simp only[dstsT]at hm;cases hd:t0.2.1.dst with
  | none =>
   rw[hd]at hm;rcases List.mem_cons.1 h with rfl|h
   .rw[hd];exact λe=>nomatch e
   .exact iD_ hm t h
  | some d' =>
   rw[hd]at hm;simp only[al_]at hm;have hne:Nat.beq d d'=false:=by
    cases hb:Nat.beq d d' with
    | true=>rw[hb]at hm;cases hm
    | false=>rfl
   rw[hne]at hm;rcases List.mem_cons.1 h with rfl|h
   .rw[hd];intro e;obtain rfl:=qSj e;exact bf_ hne rfl
   .exact iD_ hm t h
theorem after_okF{b:Ba E}{s s1:St E}{o:Oper}{v:Option (SV E)}{u:Chs E}{a:Act}{w':World}{x:Value}{z:Fz}{g:Ga}{d q:Nat}{ob:Go.Obj}(h:s.after N o v u=some s1)(hE:ER P E z g N a (s.L b))(hH:HR P E Bs F0.z.F w0 w' z g (upH (s.H b) u))(hz0:F0.z.Le z)(hg0:F0.g.Le g)(hf:Fresh g (nxU s.nx u))(hv:∀sv,v=some sv->RV P E z g sv x)
  (hap:Apart1 w0 z g (upH (s.H b) u) w' q ob) (hd:(a.put o.dst x).tmps[d]? = some (.pointer (some ⟨q,0,none⟩))):RelF P E Bs F0 w0 N d q ob (s1.L b) (s1.H b) s1.nx (a.put o.dst x) w':=by
 obtain⟨⟨h1,h2,h3,h4⟩,_⟩:=after_ok2 h hE hH hf hv;exact⟨z,g,h1,h2,h3,hz0,hg0,by rw[h4];exact hap,hd⟩
theorem jV_(heq:∀p∈eqs,ap_ P E p.1 p.2)(ht:tab.OK P E){I:World->Prop}(hIx:∀w w',I w->Ext w w'->I w'){R:Type}{r:R}{all:List Oper}{tl fr:List Nat}{Q:Exit->Act->World->Prop}{b:Ba E}{k:St E->Option R}
  (hK:∀s' a' w',k s'=some r->Rel P E Bs F0 w0 N (s'.L b) (s'.H b) s'.nx a' w'->Q .normal a' w') {fi d T:Nat} {fo:Oper} {post:List (Nat×Oper×Nat)} {zs:List Value} {q:Nat} (hfa:fo.op = .alloc T) (hfg:fo.guard=none) (hfd:fo.dst=some d) (hz:zeroOf P T=some zs) (hpost:∀t∈post,all[t.1]? = some t.2.1/\(t.2.2=2->t.1∈tl)):∀{pre:List (Nat×Oper×Nat)} {s:St E} {a:Act} {w:World},
  evB P E eqs tab N false b (pre++(fi,fo,1)::post) s k=some r->(∀t∈pre,all[t.1]? = some t.2.1/\(t.2.2=2->t.1∈tl))->(∀t∈pre,t.2.1.dst≠some d)->RelF P E Bs F0 w0 N d q (.cells zs.toArray T (0,0)) (s.L b) (s.H b) s.nx a w->aH_ P all.toArray tl fr I Q (bq_ pre++bq_ post) a w
 | [],s,a,w,h,_,_,hR=>by
  obtain⟨z,g,hE,hH,hfr,hz0,hg0,hap,hd⟩:=hR;rw[List.nil_append]at h;unfold evB at h;simp only[hfg]at h;have hq1:quietM 1=false:=rfl;rw[hq1]at h;simp only at h;split at h
  .cases h
  .unfold evOp at h;simp only[hfa]at h;unfold lAlloc at h;have fin:∀{cs:List (SC E)},All2 (RC P E z (g.put s.nx ⟨none,0,0,0,q,0⟩)) cs zs->(match s.after N fo (some (.v (.one (.ptr s.nx 0)))) [(s.nx,some (.box T cs))]with
     | some s1=>evB P E eqs tab N false b post s1 k
     | none=>none)=some r->aH_ P all.toArray tl fr I Q (bq_ post) a w:=fun{cs} hrel h=>by
    split at h
    .rename_i s1 hs1;have hA:=hH.adopt hfr.self hap hrel;have hle:=Ga.le_put (l:=⟨none,0,0,0,q,0⟩) hfr.self;obtain⟨hR1,_⟩:=aP_ (F0:=F0) (x := .pointer (some ⟨q,0,none⟩)) hs1 (hE.le (Fz.Le.refl z) hle) hA hz0 (hg0.trans hle) (Fresh.nxU λi hi=>by
      have:=hfr.put (⟨none,0,0,0,q,0⟩:Loc) i (by simp at hi;omega);exact this) (λsv e=>by obtain rfl:=qSj e;exact⟨_,Ga.put_self _ _ _,rfl⟩)
     rw[hfd,put_same hd]at hR1;exact hP_ (fm:=false) heq ht hIx (λe=>by cases e) hK h hpost hR1
    .cases h
   split at h
   .rename_i hz2;rw[hz]at hz2;obtain rfl:=qSj hz2;exact fin (cs:=[.sbp s.nx,.nils]) (.cons ⟨_,Ga.put_self _ _ _,.inl rfl⟩ (.cons rfl .nil)) h
   .split at h
    .rename_i cs hcs;obtain⟨zs',hz',hrel⟩:=ij_ (z:=z) (g:=g) hcs;rw[hz]at hz';obtain rfl:=qSj hz';exact fin (hrel.mono λ_ _ h=>RC.le h (Fz.Le.refl z) (Ga.le_put hfr.self)) h
    .cases h
 | (i, o,f)::pre,s,a,w,h,hall,hds,hR=>by
  obtain⟨ho,htl⟩:=hall _ (List.mem_cons_self ..);have hall':∀t∈pre,all[t.1]? = some t.2.1/\(t.2.2=2->t.1∈tl):=λt ht=>hall t (List.mem_cons_of_mem _ ht)
  have hds':∀t∈pre,t.2.1.dst≠some d:=λt ht=>hds t (List.mem_cons_of_mem _ ht)
  have hod:o.dst≠some d:=hds _ (List.mem_cons_self ..);simp only at ho htl;rw[List.cons_append]at h;unfold evB at h;split at h
  .cases h
  .rename_i hgd;simp only[bq_,List.cons_append];split at h
   .rename_i hf0;rw[hf0];obtain⟨z,g,hE,hH,hfr,hz0,hg0,hap,hd⟩:=hR;obtain⟨sv,v,up,g2,hk,hgl,hgn,hv,hrun,hup⟩:=dY_ (nx:=s.nx) heq (hE.op hH.gl) (hH.less (H':=λ_=>none) λ_ _ e=>by cases e) h (λ_=>True);simp only at hk;split at hk
    .cases hk
    .obtain rfl:g2=g:=hup;split at hk
     .rename_i s1 hs1;have hR1:=after_okF (u:=[]) hs1 hE hH hz0 hg0 (λj hj=>hfr j (by simp only[nxU]at hj;omega)) (λsv' e=>by obtain rfl:=qSj e;exact hv) hap (put_other hd hod);refine cw_ o ho λK hK' => ?_
      rw[if_pos (bs_ hgd _)];exact⟨v,λw' _=>by rw[hrun w' trivial];exact⟨rfl,rfl⟩,hK' _ (jV_ heq ht hIx hK hfa hfg hfd hz hpost hk hall' hds' hR1)⟩
     .cases hk
   .rename_i hf0;rw[hf0];split at h
    .cases h
    .rename_i hfl;refine k4_ o ho λK hK' X e => ?_
     have hx:Ext w (w.ext X e):=⟨X,e,rfl⟩;obtain⟨z,g,hE,hH,hfr,hz0,hg0,hap,hd⟩:=hR.ext hx;refine wpList_step λK2 hK2 => ?_
     rw[if_pos (bs_ hgd _)];refine evOp_frame heq ht hfr hE hH hap h λv u x w' z2 g2 hk hz2 hg2 hE2 hH2 hf2 hv hmk hap2=>hK2 _ _ ?_
     split at hk
     .rename_i s1 hs1;have hR1:=after_okF hs1 hE2 hH2 (hz0.trans hz2) (hg0.trans hg2) hf2 hv hap2 (put_other hd hod);show K _ _;refine hK' _ _ (λhc hw => ?_) (jV_ heq ht hIx hK hfa hfg hfd hz hpost hk hall' hds' hR1);simp only[Bool.or_eq_true,Bool.false_eq_true,false_or]at hfl;rcases hfl with h1|h1
      .obtain rfl:=qNb h1;rw[List.contains_iff_mem.2 (htl rfl)]at hc;cases hc
      .exact hIx _ _ (hIx _ _ hw hx) (hmk h1)
     .cases hk
theorem jW_ (heq:∀p∈eqs,ap_ P E p.1 p.2) (ht:tab.OK P E) {I:World->Prop} (hIx:∀w w',I w->Ext w w'->I w') {R:Type} {r:R} {all:List Oper} {tl fr:List Nat} {Q:Exit->Act->World->Prop} {b:Ba E} {k:St E->Option R}
  (hK:∀s' a' w',k s'=some r->Rel P E Bs F0 w0 N (s'.L b) (s'.H b) s'.nx a' w'->Q .normal a' w') {fi d T:Nat} {fo:Oper} {post:List (Nat×Oper×Nat)} (hfi:all[fi]? = some fo) (hfa:fo.op = .alloc T) (hfg:fo.guard=none) (hfd:fo.dst=some d) (hpost:∀t∈post,all[t.1]? = some t.2.1/\(t.2.2=2->t.1∈tl)):∀{pre:List (Nat×Oper×Nat)} {s:St E} {a:Act} {w:World},
  evB P E eqs tab N false b (pre++(fi,fo,1)::post) s k=some r->(∀t∈pre,all[t.1]? = some t.2.1/\(t.2.2=2->t.1∈tl))->(∀t∈pre,t.2.1.dst≠some d)->s.L b d=none->Nat.blt d N=true->(∃zs,zeroOf P T=some zs)->Rel P E Bs F0 w0 N (s.L b) (s.H b) s.nx a w->bh_ P all.toArray tl fr I Q fi (bq_ post) (bq_ pre) a w
 | [],s,a,w,h,_,_,_,_,_,hR=>by
  rw[List.nil_append]at h;exact hP_ (fm:=false) heq ht hIx (λe=>by cases e) hK (l:=(fi,fo,1)::post) h (λt ht=>by
   rcases List.mem_cons.1 ht with rfl|ht
   .exact⟨hfi,λe=>nomatch e⟩
   .exact hpost t ht) hR
 | (i, o,f)::pre,s,a,w,h,hall,hds,hLd,hdN,hzs,hR=>by
  obtain⟨ho,htl⟩:=hall _ (List.mem_cons_self ..);have hall':∀t∈pre,all[t.1]? = some t.2.1/\(t.2.2=2->t.1∈tl):=λt ht=>hall t (List.mem_cons_of_mem _ ht)
  have hds':∀t∈pre,t.2.1.dst≠some d:=λt ht=>hds t (List.mem_cons_of_mem _ ht)
  have hod:o.dst≠some d:=hds _ (List.mem_cons_self ..);have hfull:=h;simp only at ho htl;rw[List.cons_append]at h;unfold evB at h;split at h
  .cases h
  .rename_i hgd;simp only[bq_];split at h
   .rename_i hf0;rw[hf0];obtain⟨z,g,hE,hH,hfr,hz0,hg0⟩:=hR;obtain⟨sv,v,up,g2,hk,hgl,hgn,hv,hrun,hup⟩:=dY_ (nx:=s.nx) heq (hE.op hH.gl) (hH.less (H':=λ_=>none) λ_ _ e=>by cases e) h (λ_=>True);simp only at hk;split at hk
    .cases hk
    .obtain rfl:g2=g:=hup;split at hk
     .rename_i s1 hs1;obtain⟨hR1,hL1⟩:=aP_ (u:=[]) hs1 hE hH hz0 hg0 (λj hj=>hfr j (by simp only[nxU]at hj;omega)) (λsv' e=>by obtain rfl:=qSj e;exact hv);refine da_ o ho λK hK' => ?_
      rw[if_pos (bs_ hgd _)];exact⟨v,λw' _=>by rw[hrun w' trivial];exact⟨rfl,rfl⟩,hK' _ (jW_ heq ht hIx hK hfi hfa hfg hfd hpost hk hall' hds' ((hL1 d λd' e=>by rw[e]at hod;exact λh=>hod (by rw[h])).trans hLd) hdN hzs hR1)⟩
     .cases hk
   .rename_i hf0;rw[hf0];split at h
    .cases h
    .rename_i hfl;refine wpMixF_loud o fo ho hfi (λK hK' X e => ?_) λK hK' X e => ?_
     .have hx:Ext w (w.ext X e):=⟨X,e,rfl⟩;obtain⟨z,g,hE,hH,hfr,hz0,hg0⟩:=hR.ext hx;refine wpList_step λK2 hK2 => ?_
      rw[if_pos (bs_ hgd _)];refine f7_ heq ht hfr hE hH h λv u x w' z2 g2 hk hz2 hg2 hE2 hH2 hf2 hv hmk=>hK2 _ _ ?_
      split at hk
      .rename_i s1 hs1;obtain⟨hR1,hL1⟩:=aP_ hs1 hE2 hH2 (hz0.trans hz2) (hg0.trans hg2) hf2 hv;show K _ _;refine hK' _ _ (λhc hw => ?_) (jW_ heq ht hIx hK hfi hfa hfg hfd hpost hk hall' hds' ((hL1 d λd' e=>by rw[e]at hod;exact λh=>hod (by rw[h])).trans hLd) hdN hzs hR1);simp only[Bool.or_eq_true,Bool.false_eq_true,false_or]at hfl;rcases hfl with h1|h1
       .obtain rfl:=qNb h1;rw[List.contains_iff_mem.2 (htl rfl)]at hc;cases hc
       .exact hIx _ _ (hIx _ _ hw hx) (hmk h1)
      .cases hk
     .have hx:Ext w (w.ext X e):=⟨X,e,rfl⟩;obtain⟨zs,hz⟩:=hzs;obtain⟨z,g,hE,hH,hfr,hz0,hg0⟩:=hR.ext hx;refine wpList_step λK2 hK2 => ?_
      rw[if_pos (bs_ hfg _)];unfold Oper.wp;rw[jt_ hfa hz];simp only[Oper.upon];rw[hfd];refine hK2 _ _ ?_;show K _ _;generalize hw1:w.ext X e=w1 at hE hH hx;have hx2:Ext w1 (w1.alloc (.cells zs.toArray T)):=Ext.one w1 _;have hb:aH_ P all.toArray tl fr I Q (bq_ ((i,o,f)::pre)++bq_ post) (a.put (some d) (.pointer (some ⟨w1.heap.size,0,none⟩))) (w1.alloc (.cells zs.toArray T)):=by
       refine jV_ (q:=w1.heap.size) heq ht hIx hK hfa hfg hfd hz hpost hfull hall hds ?_;refine⟨z,g,hE.del (λt u hu=>⟨λe => ?_,hu⟩),hH.ext hx2,hfr,hz0,hg0,⟨?_,hH.size,λid p k he hfp => ?_,λhzq => ?_⟩,?_⟩
       .subst e;rw[hLd]at hu;cases hu
       .show(w1.heap.push _)[w1.heap.size]? = _;simp
       .have:=(hH.hold id p he).lt hfp;omega
       .have:=(hH.fz _ hzq).1;omega
       .unfold Act.put;have:d<a.tmps.size:=by rw[hE.size];exact Nat.le_of_ble_eq_true hdN
        simp[this]
      simp only[bq_,hf0,Bool.not_false]at hb;exact hK' _ _ (λ_ hw=>hIx _ _ (hIx _ _ hw hx) hx2) hb
def quietWalkF(heq:∀p∈eqs,ap_ P E p.1 p.2)(ht:tab.OK P E)(all:List Oper)(tl fr:List Nat)(m:Nat)(hm:∀i,i<m->fr.contains i=false)(W:World)(I:World->Prop)(hI:∀z g H,HR P E Bs F0.z.F w0 W z g H->F0.z.Le z->∀w',I w'->Keeps P E z g H W w')(Q:Exit->Act->World->Prop)(fi:Nat)(post:List (Nat×Bool)):Walk P E (λL H nx o _ k=>eo_ P E eqs tab L H nx o k) N Bs F0 w0 all where
 W J l i a w:=w=W->i+l.length<=m->∀rest:List (Nat×Bool),(∀a',J a' W->bh_ P all.toArray tl fr I Q fi post rest a' W)->bh_ P all.toArray tl fr I Q fi post (co_ i l++rest) a W
 nil hJ:=λe _ rest h=>h _ (e▸hJ)
 app h1 h2:=λe hle rest h=>by
  rw[e5_,List.append_assoc];rw[qLa]at hle;exact h1 e (by omega) _ λa' hJ=>h2 a' W hJ rfl (by omega) rest h
 skip {J o l i a w} ho hw h1:=λe hle rest h=>by
  simp only[qLc]at hle;simp only[co_,List.cons_append];refine da_ o ho λK hK => ?_
  rw[if_neg (by rw[hw];exact Bool.false_ne_true)];exact hK _ (h1 e (by omega) rest h)
 step {J o l i a w R L H nx z g k r} ho hw hE hH hf hz hg hev hk:=λe hle rest h=>by
  simp only[qLc]at hle;subst e;simp only[co_,List.cons_append];refine da_ o ho λK hK => ?_
  rw[if_pos hw,hm i (by omega)];obtain⟨s,u,v,g2,h1,h2,h3,h4,h5,h6⟩:=f9_ heq ht hf hE hH (hI z g H hH hz) hev;refine⟨v,h6,hK _ ?_⟩;exact hk (some s) u v w z g2 h1 (Fz.Le.refl z) h2 (hE.le (Fz.Le.refl z) h2) h3 h4.nxU (λsv hsv=>by obtain rfl:=qSj hsv;exact h5) rfl (by omega) rest h
 pick {J o l i a w v} ho hw hr h1:=λe hle rest h=>by
  simp only[qLc]at hle;simp only[co_,List.cons_append];refine da_ o ho λK hK => ?_
  rw[if_pos hw];exact⟨v,λw' _=>by rw[hr];exact⟨rfl,rfl⟩,hK _ (h1 e (by omega) rest h)⟩
theorem evH_okF(heq:∀p∈eqs,ap_ P E p.1 p.2)(ht:tab.OK P E){W:World}{I:World->Prop}(hI:∀z g H,HR P E Bs F0.z.F w0 W z g H->F0.z.Le z->∀w',I w'->Keeps P E z g H W w'){R:Type}{r:R}{all:List Oper}{tl fr:List Nat}{Q:Exit->Act->World->Prop}{b:Ba E}{k:St E->Option R}{fi:Nat}{post rest:List (Nat×Bool)}
  (hK:∀s' a',k s'=some r->Rel P E Bs F0 w0 N (s'.L b) (s'.H b) s'.nx a' W->bh_ P all.toArray tl fr I Q fi post rest a' W):∀{hs:List Nat} {s:St E} {a:Act},
  evH P E eqs tab N b all fr hs s k=some r->Rel P E Bs F0 w0 N (s.L b) (s.H b) s.nx a W->bh_ P all.toArray tl fr I Q fi post (hOrd hs++rest) a W
 | [],s,a,h,hR=>hK s a h hR
 | i :: hs,s,a,h,hR=>by
  unfold evH at h;split at h
  .cases h
  .rename_i o ho;split at h
   .cases h
   .rename_i hgd;obtain⟨z,g,hE,hH,hfr,hz0,hg0⟩:=hR;simp only[hOrd,List.cons_append];refine da_ o ho λK hK' => ?_
    rw[if_pos (bs_ hgd _)];split at h
    .rename_i hc;rw[hc];obtain⟨sv,v,up,g2,hk,hgl,hgn,hv,hrun,hup⟩:=dY_ (nx:=s.nx) heq (hE.op hH.gl) (hH.less (H':=λ_=>none) λ_ _ e=>by cases e) h (λ_=>True);simp only at hk;split at hk
     .cases hk
     .obtain rfl:g2=g:=hup;split at hk
      .rename_i s1 hs1;obtain⟨hR1,_⟩:=aP_ (u:=[]) hs1 hE hH hz0 hg0 (λj hj=>hfr j (by simp only[nxU]at hj;omega)) (λsv' e=>by obtain rfl:=qSj e;exact hv);exact⟨v,λw' _=>by rw[hrun w' trivial];exact⟨rfl,rfl⟩,hK' _ (evH_okF heq ht hI hK hk hR1)⟩
      .cases hk
    .rename_i hc;rw[hc];obtain⟨sv,u,v,g2,hk,h2,h3,h4,h5,h6⟩:=f9_ heq ht hfr hE hH (hI z g _ hH hz0) h;simp only at hk;split at hk
     .rename_i s1 hs1;obtain⟨hR1,_⟩:=aP_ hs1 (hE.le (Fz.Le.refl z) h2) h3 hz0 (hg0.trans h2) h4.nxU (λsv' e=>by obtain rfl:=qSj e;exact h5);exact⟨v,h6,hK' _ (evH_okF heq ht hI hK hk hR1)⟩
     .cases hk
theorem evFloat_ok(heq:∀p∈eqs,ap_ P E p.1 p.2)(ht:tab.OK P E){R:Type}{l:List Oper}{fl hs:List Nat}{p:Nat}{id:Nat}{b:Ba E}{s:St E}{k:St E->Option R}{r:R}{a:Act}{w:World}{Q:Exit->Act->World->Prop}(h:evFloat P E eqs tab N l fl hs p b s k=some r)(hR:Rel P E Bs F0 w0 N (s.L b) (s.H b) s.nx a w)
  (hK:∀s' a' w',k s'=some r->Rel P E Bs F0 w0 N (s'.L b) (s'.H b) s'.nx a' w'->Q .normal a' w'):(Code.region id l.toArray true).wp P Q a w:=by
 unfold evFloat at h;split at h
 .cases h
 .rename_i t ht0;obtain⟨fi,fo,f1⟩:=t;split at h
  .cases h
  .rename_i hchk;simp only[qAn]at hchk;obtain⟨⟨hm,hfb,hf1⟩,hB⟩:=hchk;obtain rfl:=qNb hf1;have hmem:∀t∈b2_ hs (aj_ fl) (l.drop (aj_ fl)) (fl.drop (aj_ fl)),l[t.1]? = some t.2.1/\(t.2.2=2->t.1∈tlOf 0 fl):=λt hmem=>by
    obtain⟨k,h5,h6,h7⟩:=lX_ hmem;rw[List.getElem?_drop]at h6 h7;rw[←h5]at h6 h7;refine⟨h6,λhf => ?_⟩;rw[hf]at h7;have:=lW_ (n:=0) h7
    rwa [Nat.zero_add]at this
   have hfi:=(hmem _ (List.mem_of_getElem? ht0)).1;unfold floatB at hfb;simp only at hfb hfi hB h;split at hfb
   .rename_i T d hfa hfg hfd;simp only[qAn,Bool.not_eq_true']at hfb;obtain⟨hds,hdN,hzb⟩:=hfb;have hzs:∃zs,zeroOf P T=some zs:=by
     split at hzb
     .rename_i zs hz;exact⟨zs,hz⟩
     .cases hzb
    have hdst:dstN fo=d:=by unfold dstN;rw[hfd]
    rw[hdst]at h;have hIx:∀w1 w',Ext w w1->Ext w1 w'->Ext w w':=λ_ _ h1 h2=>h1.trans h2
    have hI:∀z g H,HR P E Bs F0.z.F w0 w z g H->F0.z.Le z->∀w',Ext w w'->Keeps P E z g H w w':=λz g H h1 _ w' h2=>Keeps.of_ext h1 h2
    refine of_ (I:=Ext w) hIx _ _ _ _ hm hB (Ext.refl w) ?_;have:=dd_ (quietWalkF heq ht l (tlOf 0 fl) (frOf 0 fl) (aj_ fl) (λ_ h=>notFree h) w (Ext w) hI Q fi (bq_ ((b2_ hs (aj_ fl) (l.drop (aj_ fl)) (fl.drop (aj_ fl))).drop (p+1)))) _ (tl:=l.drop (aj_ fl)) (J:=λa' w'=>w'=w->bh_ P l.toArray (tlOf 0 fl) (frOf 0 fl) (Ext w) Q fi (bq_ ((b2_ hs (aj_ fl) (l.drop (aj_ fl)) (fl.drop (aj_ fl))).drop (p+1))) (hOrd hs++bq_ ((b2_ hs (aj_ fl) (l.drop (aj_ fl)) (fl.drop (aj_ fl))).take p)) a' w') h (by simp) hR trivial λs' a' w' h1 h2 _ hw=>by
     subst hw;refine evH_okF heq ht hI (λs2 a2 h3 h4 => ?_) h1 h2;have hL:(({ s2 with env:=(d,none)::s2.env }:St E).L b) d=none:=by
      simp only[St.L,an_,Nat.beq_refl]
     have hR2:Rel P E Bs F0 w0 N (({ s2 with env:=(d,none)::s2.env }:St E).L b) (({ s2 with env:=(d,none)::s2.env }:St E).H b) s2.nx a2 w':=by
      obtain⟨z,g,hE,hH,hrest⟩:=h4;exact⟨z,g,hE.less λt u hu=>(by
       simp only[St.L,an_]at hu ⊢;cases hb:Nat.beq t d with
       | true=>rw[hb]at hu;cases hu
       | false=>rw[hb]at hu;exact hu),hH,hrest⟩
     refine jW_ heq ht hIx hK hfi hfa hfg hfd (λt ht1=>hmem t (List.mem_of_mem_drop ht1)) h3 (λt ht1=>hmem t (List.mem_of_mem_take ht1)) (iD_ hds) hL hdN hzs hR2
    exact this rfl (by rw[Nat.zero_add];exact List.length_take_le _ _) _ λa' h1=>h1 rfl
   .cases hfb
def mW_(heq:∀p∈eqs,ap_ P E p.1 p.2)(ht:tab.OK P E)(all:List Oper)(sf fr:List Nat)(m:Nat)(hm:∀i,i<m->fr.contains i=false)(W:World)(I:World->Prop)(hI:∀z g H,HR P E Bs F0.z.F w0 W z g H->F0.z.Le z->∀w',I w'->Keeps P E z g H W w')(Q:Exit->Act->World->Prop)(t:OT):Walk P E (λL H nx o _ k=>eo_ P E eqs tab L H nx o k) N Bs F0 w0 all where
 W J l i a w:=w=W->i+l.length<=m->∀rest:List (Nat×Bool),(∀a',J a' W->cP_ P all.toArray sf fr I Q t rest a' W)->cP_ P all.toArray sf fr I Q t (co_ i l++rest) a W
 nil hJ:=λe _ rest h=>h _ (e▸hJ)
 app h1 h2:=λe hle rest h=>by
  rw[e5_,List.append_assoc];rw[qLa]at hle;exact h1 e (by omega) _ λa' hJ=>h2 a' W hJ rfl (by omega) rest h
 skip {J o l i a w} ho hw h1:=λe hle rest h=>by
  simp only[qLc]at hle;simp only[co_,List.cons_append];refine ga_ o ho λK hK => ?_
  rw[if_neg (by rw[hw];exact Bool.false_ne_true)];exact hK _ (h1 e (by omega) rest h)
 step {J o l i a w R L H nx z g k r} ho hw hE hH hf hz hg hev hk:=λe hle rest h=>by
  simp only[qLc]at hle;subst e;simp only[co_,List.cons_append];refine ga_ o ho λK hK => ?_
  rw[if_pos hw,hm i (by omega)];obtain⟨s,u,v,g2,h1,h2,h3,h4,h5,h6⟩:=f9_ heq ht hf hE hH (hI z g H hH hz) hev;refine⟨v,h6,hK _ ?_⟩;exact hk (some s) u v w z g2 h1 (Fz.Le.refl z) h2 (hE.le (Fz.Le.refl z) h2) h3 h4.nxU (λsv hsv=>by obtain rfl:=qSj hsv;exact h5) rfl (by omega) rest h
 pick {J o l i a w v} ho hw hr h1:=λe hle rest h=>by
  simp only[qLc]at hle;simp only[co_,List.cons_append];refine ga_ o ho λK hK => ?_
  rw[if_pos hw];exact⟨v,λw' _=>by rw[hr];exact⟨rfl,rfl⟩,hK _ (h1 e (by omega) rest h)⟩
def GS(all:List Oper)(gs:Gs)(L:Nat->Option (SV E)):Prop:=∀q∈gs,gdOK all (some (q.1,q.2.2,q.2.1)) L
theorem GS.after{all:List Oper}{gs:Gs}{o:Oper}{L L':Nat->Option (SV E)}(h:GS all gs L)(hf:gsFree o gs=true)(hL:∀t,(∀d,o.dst=some d->t≠d)->L' t=L t):GS all gs L' :=
 λq hq=>iC_ (h q hq) (List.all_eq_true.1 hf q hq) hL
theorem gsAt_mem{k:Nat}{q:Nat×Nat×Bool}:∀{gs:Gs},gsAt k gs=some q->q∈gs/\q.1=k
 | [],h=>nomatch h
 | p::l,h=>by
  simp only[gsAt]at h;split at h
  .rename_i hb;obtain rfl:=qSj h;exact⟨List.mem_cons_self,qNb hb⟩
  .have:=gsAt_mem h;exact⟨List.mem_cons_of_mem _ this.1,this.2⟩
theorem mX_{k:Nat}{q:Nat×Nat×Bool}:∀{gs:Gs},gsSlot k gs=some q->q∈gs/\q.2.1=k
 | [],h=>nomatch h
 | p::l,h=>by
  simp only[gsSlot]at h;split at h
  .rename_i hb;obtain rfl:=qSj h;exact⟨List.mem_cons_self,qNb hb⟩
  .have:=mX_ h;exact⟨List.mem_cons_of_mem _ this.1,this.2⟩
theorem GS.val{all:List Oper}{gs:Gs}{L:Nat->Option (SV E)}{q:Nat×Nat×Bool}{z:Fz}{g:Ga}{a:Act}(h:GS all gs L)(hq:q∈gs)(hE:ER P E z g N a L):(∃oj,all[q.1]? = some oj/\oj.dst=some q.2.1)/\a.tmps[q.2.1]? = some (.bool q.2.2):=by
 obtain⟨h1,c,h2,rfl⟩:=h q hq;obtain⟨v,h3,h4⟩:=hE.get _ _ h2;exact⟨h1,by rw[h3];exact congrArg some (SV.bool_ok rfl h4)⟩
theorem eR_{all:List Oper}{gs:Gs}{L:Nat->Option (SV E)}{o:Oper}{u:Bool}{z:Fz}{g:Ga}{a:Act}(h:GS all gs L)(hE:ER P E z g N a L)(hw:wantG o gs=some u):Region.wanted o (yielded all.toArray a.tmps)=u:=by
 unfold wantG at hw;unfold Region.wanted;split at hw
 .rename_i hg;rw[hg];exact qSj hw
 .rename_i k w hg;rw[hg];split at hw
  .cases hw
  .rename_i q hq;obtain⟨hm,rfl⟩:=gsAt_mem hq;obtain⟨⟨oj,h1,h2⟩,h3⟩:=h.val hm hE;obtain rfl:=qSj hw;simp only[fN_ h1 h2 h3];cases q.2.2<;>cases w<;>rfl
theorem p3_{all:List Oper}{i:Nat}{o:Oper}{tab:Tab E}{L:Nat->Option (SV E)}(ho:all[i]? = some o)(h:eO_ all i=true):bw_ tab L o=true:=by
 unfold eO_ at h;rw[ho]at h
 dsimp only at h
 split at h
 .rename_i T e;unfold bw_;rw[e]
 .cases h
theorem evO1_ok (heq:∀p∈eqs,ap_ P E p.1 p.2) (ht:tab.OK P E) {R:Type} {r:R} {all:List Oper} {Q:Exit->Act->World->Prop} {b:Ba E} {gs:Gs} {i:Nat} {K:Act->World->Prop} {kk:St E->Option R} {s:St E} {a:Act} {w:World}
  (ih:∀{s:St E} {a:Act} {w':World},kk s=some r->Rel P E Bs F0 w0 N (s.L b) (s.H b) s.nx a w'->GS all gs (s.L b)->(eO_ all i=true->Ext w w')->K a w')
  (h:evO1 P E eqs tab N b all i gs s kk=some r) (hR:Rel P E Bs F0 w0 N (s.L b) (s.H b) s.nx a w) (hg:GS all gs (s.L b)) :
   (match all.toArray[i]? with
    | none=>False
    | some o=>∀X d,wpList P all.toArray (Exit.then K (bj_ Q)) [o] a (w.ext X d)):=by
 unfold evO1 at h;split at h
 .cases h
 .rename_i o ho;have ho':all.toArray[i]? = some o:=by simpa using ho
  rw[ho'];intro X d;have hR':=hR.ext ⟨X,d,rfl⟩;obtain⟨z,g,hE,hH,hfr,hz0,hg0⟩:=hR';refine wpList_step λK2 hK2 => ?_
  split at h
  .rename_i hgf hw;rw[if_pos (eR_ hg hE hw)];split at h
   .rename_i x hx;split at h
    .cases h
    .rename_i v hv;split at h
     .rename_i s1 hs1;obtain⟨hR1,hL1⟩:=aP_ (u:=[]) (x:=a.eval x) hs1 hE hH hz0 hg0 (λj hj=>hfr j (by simp only[nxU]at hj;omega)) (λsv' e=>by obtain rfl:=qSj e;exact hE.op hH.gl _ _ hv);unfold pickG at hx;split at hx
      .rename_i dd x0 y0 hop;split at hx
       .cases hx
       .rename_i q hq;obtain⟨hm,rfl⟩:=mX_ hq;obtain⟨_,h3⟩:=hg.val hm hE;obtain rfl:=qSj hx;unfold Oper.wp;have hrun:(execOp a.eval o).run P (w.ext X d) = .ok (.value (a.eval (picked q.2.2 x0 y0))) (w.ext X d):=by
         have hc:a.eval (.tmp q.2.1) = .bool q.2.2:=by simp[Act.eval,h3]
         unfold execOp;rw[hop];simp only[hc];cases q.2.2<;>simp[asBool,picked]
        rw[hrun];exact hK2 _ _ (ih h hR1 (hg.after hgf hL1) λ_=>⟨X,d,rfl⟩)
      .cases hx
     .cases h
   .refine f7_ heq ht hfr hE hH h λv u x w' z2 g2 hk hz2 hg2 hE2 hH2 hf2 hv hmk=>hK2 _ _ ?_
    split at hk
    .rename_i s1 hs1;obtain⟨hR1,hL1⟩:=aP_ hs1 hE2 hH2 (hz0.trans hz2) (hg0.trans hg2) hf2 hv;exact ih hk hR1 (hg.after hgf hL1) λe=>Ext.trans ⟨X,d,rfl⟩ (hmk (p3_ ho e))
    .cases hk
  .rename_i hgf hw;rw[if_neg (by rw[eR_ hg hE hw];exact Bool.false_ne_true)];split at h
   .rename_i s1 hs1;obtain⟨hR1,hL1⟩:=aP_ (u:=[]) (x:=undef) hs1 hE hH hz0 hg0 (λj hj=>hfr j (by simp only[nxU]at hj;omega)) (λ_ e=>nomatch e);exact hK2 _ _ (ih h hR1 (hg.after hgf hL1) λ_=>⟨X,d,rfl⟩)
   .cases h
  .cases h
theorem evOT_ok(heq:∀p∈eqs,ap_ P E p.1 p.2)(ht:tab.OK P E){R:Type}{r:R}{all:List Oper}{sf:List Nat}{I:World->Prop}(hI:∀w w',I w->Ext w w'->I w')(hsf:∀i,sf.contains i=true->eO_ all i=true){Q:Exit->Act->World->Prop}{b:Ba E}{k:St E->Option R}
  (hK:∀s' a' w',k s'=some r->Rel P E Bs F0 w0 N (s'.L b) (s'.H b) s'.nx a' w'->Q .normal a' w'):∀{t:OT} {c:Bool} {gs:Gs} {s:St E} {a:Act} {w:World},
  b9_ P E eqs tab N b all k t gs s=some r->Rel P E Bs F0 w0 N (s.L b) (s.H b) s.nx a w->GS all gs (s.L b)->wpO P all.toArray sf I Q t c a w:=by
 intro t
 induction t with
 | nil =>
  intro c gs s a w h hR hg;cases c with
  | true=>trivial
  | false=>exact λX d=>hK s a _ (by simpa only[b9_]using h) (hR.ext ⟨X,d,rfl⟩)
 | spl i t f iht ihf =>
  intro c gs s a w h hR hg;simp only[b9_]at h;split at h
  .cases h
  .rename_i o ho;split at h
   .cases h
   .rename_i d hd;split at h
    .rename_i u hu;obtain⟨z,g,hE,hH,hfr,hz0,hg0⟩:=hR;obtain⟨v,h3,h4⟩:=hE.get _ _ hu;have hy:=fN_ (c:=u) ho hd (by rw[h3];exact congrArg some (SV.bool_ok rfl h4));cases u with
     | true=>exact .inl ⟨hy,iht h ⟨z,g,hE,hH,hfr,hz0,hg0⟩ λq hq=>by
       rcases List.mem_cons.1 hq with rfl|hq
       .exact⟨⟨o,ho,hd⟩,true,hu,rfl⟩
       .exact hg q hq⟩
     | false=>exact .inr ⟨hy,ihf h ⟨z,g,hE,hH,hfr,hz0,hg0⟩ λq hq=>by
       rcases List.mem_cons.1 hq with rfl|hq
       .exact⟨⟨o,ho,hd⟩,false,hu,rfl⟩
       .exact hg q hq⟩
    .cases h
 | free i t ih =>
  intro c gs s a w h hR hg;simp only[b9_]at h;split at h
  .cases h
  .rename_i o ho;have ho':all.toArray[i]? = some o:=by simpa using ho
   simp only[wpO,ho'];obtain⟨z,g,hE,hH,hfr,hz0,hg0⟩:=hR;split at h
   .rename_i hgf hw;rw[if_pos (eR_ hg hE hw)];obtain⟨sv,v,up,g2,hk,hgl,hgn,hv,hrun,hup⟩:=dY_ (nx:=s.nx) heq (hE.op hH.gl) (hH.less (H':=λ_=>none) λ_ _ e=>by cases e) h (λ_=>True);simp only at hk;split at hk
    .cases hk
    .obtain rfl:g2=g:=hup;split at hk
     .rename_i s1 hs1;obtain⟨hR1,hL1⟩:=aP_ (u:=[]) hs1 hE hH hz0 hg0 (λj hj=>hfr j (by simp only[nxU]at hj;omega)) (λsv' e=>by obtain rfl:=qSj e;exact hv);exact⟨v,λw' _=>by rw[hrun w' trivial];exact⟨rfl,rfl⟩,ih hk hR1 (hg.after hgf hL1)⟩
     .cases hk
   .rename_i hgf hw;rw[if_neg (by rw[eR_ hg hE hw];exact Bool.false_ne_true)];split at h
    .rename_i s1 hs1;obtain⟨hR1,hL1⟩:=aP_ (u:=[]) (x:=undef) hs1 hE hH hz0 hg0 (λj hj=>hfr j (by simp only[nxU]at hj;omega)) (λ_ e=>nomatch e);exact ih h hR1 (hg.after hgf hL1)
    .cases h
   .cases h
 | alt i t rr ih ihr =>
  intro c gs s a w h hR hg;cases rr with
  | nil =>
   simp only[b9_]at h;exact⟨evO1_ok heq ht (λh hR hg hx=>⟨λe hw=>hI _ _ hw (hx (hsf i e)),ih h hR hg⟩) h hR hg,trivial⟩
  | free j t2 =>
   simp only[b9_]at h;cases h
  | spl j t2 f2 =>
   simp only[b9_]at h;cases h
  | alt j t2 r2 =>
   rw[b9_]at h;obtain⟨h1,h2⟩:=both_some h;exact⟨evO1_ok heq ht (λh hR hg hx=>⟨λe hw=>hI _ _ hw (hx (hsf i e)),ih h hR hg⟩) h1 hR hg,ihr h2 hR hg⟩
theorem wpList_one{ops:Array Oper}{Q:Exit->Act->World->Prop}{K:Act->World->Prop}{o:Oper}{rest:List Oper}{a:Act}{w:World}(h:wpList P ops (Exit.then K (bj_ Q)) [o] a w)(hK:∀a' w',K a' w'->wpList P ops Q rest a' w'):wpList P ops Q (o::rest) a w:=by
 unfold wpList at h ⊢;split
 .rename_i hw;rw[if_pos hw]at h;rcases h with h|h
  .exact .inl (Oper.wp_out (λa' w' hk=>hK a' w' hk) (λ_ _ _ h=>nomatch h.1) (λh=>c2_ (Q:=Q) h) h)
  .exact .inr ⟨h.1,c2_ (Q:=Q) h.2⟩
 .rename_i hw;rw[if_neg hw]at h;exact hK _ _ h
theorem evLin_go(heq:∀p∈eqs,ap_ P E p.1 p.2)(ht:tab.OK P E){R:Type}{r:R}{all:List Oper}{Q:Exit->Act->World->Prop}{b:Ba E}{k:St E->Option R}
  (hK:∀s' a' w',k s'=some r->Rel P E Bs F0 w0 N (s'.L b) (s'.H b) s'.nx a' w'->Q .normal a' w'):∀{t:OT} {i:Nat} {gs:Gs} {s:St E} {a:Act} {w:World},linO t i all.length=true ->
  b9_ P E eqs tab N b all k t gs s=some r->Rel P E Bs F0 w0 N (s.L b) (s.H b) s.nx a w->GS all gs (s.L b)->wpList P all.toArray Q (all.drop i) a w:=by
 have hdrop:∀{i:Nat} {o:Oper},all[i]? = some o->all.drop i=o::all.drop (i+1):=fun{i o} h=>by
  obtain⟨h1,h2⟩:=List.getElem?_eq_some_iff.1 h;rw[List.drop_eq_getElem_cons h1,h2]
 intro t
 induction t with
 | nil =>
  intro i gs s a w hl h hR hg;have:i=all.length:=qNb hl;subst this;rw[List.drop_length];exact hK s a _ (by simpa only[b9_]using h) hR
 | spl j t f iht ihf =>
  intro i gs s a w hl h hR hg;simp only[linO,qAn]at hl;simp only[b9_]at h;split at h
  .cases h
  .rename_i o ho;split at h
   .cases h
   .rename_i d hd;split at h
    .rename_i u hu;cases u with
     | true =>
      refine iht hl.1 h hR λq hq => ?_
      rcases List.mem_cons.1 hq with rfl|hq
      .exact⟨⟨o,ho,hd⟩,true,hu,rfl⟩
      .exact hg q hq
     | false =>
      refine ihf hl.2 h hR λq hq => ?_
      rcases List.mem_cons.1 hq with rfl|hq
      .exact⟨⟨o,ho,hd⟩,false,hu,rfl⟩
      .exact hg q hq
    .cases h
 | free j t ih =>
  intro i gs s a w hl h hR hg;simp only[linO,qAn]at hl;obtain rfl:=qNb hl.1;simp only[b9_]at h;split at h
  .cases h
  .rename_i o ho;rw[hdrop ho];obtain⟨z,g,hE,hH,hfr,hz0,hg0⟩:=hR;refine wpList_step λK2 hK2 => ?_
   split at h
   .rename_i hgf hw;rw[if_pos (eR_ hg hE hw)];obtain⟨sv,v,up,g2,hk,hgl,hgn,hv,hrun,hup⟩:=dY_ (nx:=s.nx) heq (hE.op hH.gl) (hH.less (H':=λ_=>none) λ_ _ e=>by cases e) h (λ_=>True);simp only at hk;split at hk
    .cases hk
    .obtain rfl:g2=g:=hup;split at hk
     .rename_i s1 hs1;obtain⟨hR1,hL1⟩:=aP_ (u:=[]) hs1 hE hH hz0 hg0 (λj hj=>hfr j (by simp only[nxU]at hj;omega)) (λsv' e=>by obtain rfl:=qSj e;exact hv);unfold Oper.wp;rw[hrun w trivial];exact hK2 _ _ (ih hl.2 hk hR1 (hg.after hgf hL1))
     .cases hk
   .rename_i hgf hw;rw[if_neg (by rw[eR_ hg hE hw];exact Bool.false_ne_true)];split at h
    .rename_i s1 hs1;obtain⟨hR1,hL1⟩:=aP_ (u:=[]) (x:=undef) hs1 hE hH hz0 hg0 (λj hj=>hfr j (by simp only[nxU]at hj;omega)) (λ_ e=>nomatch e);exact hK2 _ _ (ih hl.2 h hR1 (hg.after hgf hL1))
    .cases h
   .cases h
 | alt j t rr ih ihr =>
  intro i gs s a w hl h hR hg;cases rr with
  | nil =>
   simp only[linO,qAn]at hl;obtain rfl:=qNb hl.1;simp only[b9_]at h;have h1:=evO1_ok heq ht (Q:=Q) (K:=λa' w'=>wpList P all.toArray Q (all.drop (j+1)) a' w') (λh hR hg _=>ih hl.2 h hR hg) h hR hg;split at h1
   .cases h1
   .rename_i o ho;rw[hdrop (by simpa using ho)];obtain⟨X,d,he⟩:=Ext.refl w;have h2:=h1 X d;rw[←he]at h2;exact wpList_one h2 λ_ _ h=>h
  | free _ _=>cases hl
  | spl _ _ _=>cases hl
  | alt _ _ _=>cases hl
theorem evLin_ok(heq:∀p∈eqs,ap_ P E p.1 p.2)(ht:tab.OK P E){R:Type}{l:List Oper}{t:OT}{id:Nat}{b:Ba E}{s:St E}{k:St E->Option R}{r:R}{a:Act}{w:World}{Q:Exit->Act->World->Prop}(h:evLin P E eqs tab N l t b s k=some r)(hR:Rel P E Bs F0 w0 N (s.L b) (s.H b) s.nx a w)
  (hK:∀s' a' w',k s'=some r->Rel P E Bs F0 w0 N (s'.L b) (s'.H b) s'.nx a' w'->Q .normal a' w'):(Code.region id l.toArray false).wp P Q a w:=by
 unfold evLin at h;split at h
 .cases h
 .rename_i hl;have:=evLin_go heq ht hK hl h hR (λ_ e=>nomatch e);rw[List.drop_zero]at this;exact r_list this
theorem evOrd_ok(heq:∀p∈eqs,ap_ P E p.1 p.2)(ht:tab.OK P E){R:Type}{l:List Oper}{p:Nat}{t:OT}{id:Nat}{b:Ba E}{s:St E}{k:St E->Option R}{r:R}{a:Act}{w:World}{Q:Exit->Act->World->Prop}(h:evOrd P E eqs tab N l p t b s k=some r)(hR:Rel P E Bs F0 w0 N (s.L b) (s.H b) s.nx a w)
  (hK:∀s' a' w',k s'=some r->Rel P E Bs F0 w0 N (s'.L b) (s'.H b) s'.nx a' w'->Q .normal a' w'):(Code.region id l.toArray true).wp P Q a w:=by
 unfold evOrd at h;split at h
 .cases h
 .rename_i hchk;simp only[qAn]at hchk;obtain⟨hm,hfr,hB⟩:=hchk;have hIx:∀w1 w',Ext w w1->Ext w1 w'->Ext w w':=λ_ _ h1 h2=>h1.trans h2
  have hI:∀z g H,HR P E Bs F0.z.F w0 w z g H->F0.z.Le z->∀w',Ext w w'->Keeps P E z g H w w':=λz g H h1 _ w' h2=>Keeps.of_ext h1 h2
  have hnf:∀i,i<p->t.frO.contains i=false:=λi hi=>by
   cases hc:t.frO.contains i with
   | false=>rfl
   | true =>
    have:=List.all_eq_true.1 hfr i (List.contains_iff_mem.1 hc);have:=Nat.le_of_ble_eq_true this;omega
  have hsf:∀i,(sfH l t).contains i=true->eO_ l i=true:=λi hi=>(List.mem_filter.1 (List.contains_iff_mem.1 hi)).2
  refine hM_ (I:=Ext w) hIx _ _ _ _ hm hB (Ext.refl w) ?_;have:=dd_ (mW_ heq ht l (sfH l t) t.frO p hnf w (Ext w) hI Q t) _ (tl:=l.drop p) (J:=λa' w'=>w'=w->cP_ P l.toArray (sfH l t) t.frO (Ext w) Q t [] a' w) h (by simp) hR trivial λs' a' w' h1 h2 _ hw=>by
   subst hw;exact evOT_ok heq ht hIx hsf hK h1 h2 (λ_ e=>nomatch e)
  have h3:=this rfl (by rw[Nat.zero_add];exact List.length_take_le _ _) [] λa' h1=>h1 rfl
  rwa [List.append_nil]at h3
def chainWalk(heq:∀p∈eqs,ap_ P E p.1 p.2)(ht:tab.OK P E)(all:List Oper)(I:World->Prop)(Q:Exit->Act->World->Prop):Walk P E (λL H nx o _ k=>evOp P E eqs tab L H nx o k) N Bs F0 w0 all where
 W J l i a w:=∀n:Nat,(∀a' w',J a' w'->∀w'',Ext w' w''->wpO P all.toArray [] I Q (chO (i+l.length) n) false a' w'')->∀w',Ext w w'->wpO P all.toArray [] I Q (chO i (l.length+n)) false a w'
 nil {J i a w} hJ:=λn h w' hx=>by
  rw[List.length_nil,Nat.zero_add];exact h _ _ hJ w' hx
 app {J1 J l1 l2 i a w} h1 h2:=λn h w' hx=>by
  rw[qLa,Nat.add_assoc];exact h1 (l2.length+n) (λa' w1 hJ w'' hx'=>h2 a' w1 hJ n (by rw[Nat.add_assoc,←qLa];exact h) w'' hx') w' hx
 skip {J o l i a w} ho hw h1:=λn h w' hx=>by
  rw[qLc,show l.length+1+n=(l.length+n)+1 by omega];have ho':all.toArray[i]? = some o:=by simpa using ho
  refine⟨?_,trivial⟩;rw[ho'];intro X d;refine wpList_step λK hK => ?_
  rw[if_neg (by rw[hw];exact Bool.false_ne_true)];exact hK _ _ ⟨λe=>(nomatch e),h1 n (by rw[show i+1+l.length=i+(o::l).length by rw[qLc];omega];exact h) _ (hx.trans ⟨X,d,rfl⟩)⟩
 step {J o l i a w R L H nx z g k r} ho hw hE hH hf hz hg hev hk:=λn h w' hx=>by
  rw[qLc,show l.length+1+n=(l.length+n)+1 by omega];have ho':all.toArray[i]? = some o:=by simpa using ho
  refine⟨?_,trivial⟩;rw[ho'];intro X d;refine wpList_step λK hK => ?_
  rw[if_pos hw];exact evOp_ok heq ht hf hE (hH.ext (hx.trans ⟨X,d,rfl⟩)) hev λv u x w2 z2 g2 h1 h2 h3 h4 h5 h6 h7=>hK _ _ ⟨λe=>(nomatch e),hk v u x w2 z2 g2 h1 h2 h3 h4 h5 h6 h7 n (by rw[show i+1+l.length=i+(o::l).length by rw[qLc];omega];exact h) w2 (Ext.refl w2)⟩
 pick {J o l i a w v} ho hw hr h1:=λn h w' hx=>by
  rw[qLc,show l.length+1+n=(l.length+n)+1 by omega];have ho':all.toArray[i]? = some o:=by simpa using ho
  refine⟨?_,trivial⟩;rw[ho'];intro X d;refine wpList_step λK hK => ?_
  rw[if_pos hw];unfold Oper.wp;rw[hr _];exact hK _ _ ⟨λe=>(nomatch e),h1 n (by rw[show i+1+l.length=i+(o::l).length by rw[qLc];omega];exact h) _ (hx.trans ⟨X,d,rfl⟩)⟩
theorem evChain_ok(heq:∀p∈eqs,ap_ P E p.1 p.2)(ht:tab.OK P E){R:Type}{l:List Oper}{p:Nat}{id:Nat}{b:Ba E}{s:St E}{k:St E->Option R}{r:R}{a:Act}{w:World}{Q:Exit->Act->World->Prop}(h:evChain P E eqs tab N l p b s k=some r)(hR:Rel P E Bs F0 w0 N (s.L b) (s.H b) s.nx a w)
  (hK:∀s' a' w',k s'=some r->Rel P E Bs F0 w0 N (s'.L b) (s'.H b) s'.nx a' w'->Q .normal a' w'):(Code.region id l.toArray true).wp P Q a w:=by
 unfold evChain at h;split at h
 .cases h
 .rename_i hchk;simp only[qAn]at hchk;obtain⟨hm,hle,hB⟩:=hchk;have hle:=Nat.le_of_ble_eq_true hle;have hIx:∀w1 w',Ext w w1->Ext w1 w'->Ext w w':=λ_ _ h1 h2=>h1.trans h2
  have hI:∀z g H,HR P E Bs F0.z.F w0 w z g H->F0.z.Le z->∀w',Ext w w'->Keeps P E z g H w w':=λz g H h1 _ w' h2=>Keeps.of_ext h1 h2
  refine hM_ (I:=Ext w) hIx _ _ _ _ hm hB (Ext.refl w) ?_;have:=dd_ (mW_ heq ht l [] [] p (λ_ _=>rfl) w (Ext w) hI Q (chO p (l.length-p))) _ (tl:=l.drop p) (J:=λa' w'=>w'=w->cP_ P l.toArray [] [] (Ext w) Q (chO p (l.length-p)) [] a' w') h (by simp) hR trivial λs' a' w1 h1 h2 h5 hw=>by
   subst hw;have h4:=dd_ (chainWalk heq ht l (Ext w1) Q) _ (tl:=[]) (J:=λa' w'=>∀w'',Ext w' w''->wpO P l.toArray [] (Ext w1) Q (chO l.length 0) false a' w'') h1 (by simp) h2 trivial λs' a' w' h1 h2 _ w'' hx X d=>hK s' a' _ h1 (h2.ext (hx.trans ⟨X,d,rfl⟩))
   have h6:=h4 0 (by
    rw[List.length_drop,show p+(l.length-p)=l.length by omega];exact λa' w' h=>h) w1 (Ext.refl _)
   rw[List.length_drop,Nat.add_zero]at h6;exact h6
  have h3:=this rfl (by rw[Nat.zero_add];exact List.length_take_le _ _) [] λa' h1=>h1 rfl
  rwa [List.append_nil]at h3
end Rt
namespace Rt
open Go.RowKit
section
variable{P:Program}{E:TE}{z:Fz}{g g':Ga}{w w0:World}{Bs:List Nat}{F0:Nat->Prop}{N:Nat}
theorem HR.remap{H H':Nat->Option (Obj E)}(h:HR P E Bs F0 w0 w z g H)(f:Nat->Nat)(hf:∀i j o p,H' i=some o->H' j=some p->f i=f j->i=j)
  (ho:∀i o',H' i=some o'->∃o,H (f i)=some o/\ObjR P E z g' w i o'/\∀k,fpO g' i o' k->fpO g (f i) o k):HR P E Bs F0 w0 w z g' H':=by
 refine⟨h.chg,λi o e => ?_,λi o k e hk => ?_,λi j o p k hn e e' hk hk' => ?_,h.fz,h.fz0,λi o k e hk => ?_,h.gl⟩
 .obtain⟨_,_,h2,_⟩:=ho i o e;exact h2
 .obtain⟨q,h1,_,h3⟩:=ho i o e;exact h.own _ q k h1 (h3 k hk)
 .obtain⟨q,h1,_,h3⟩:=ho i o e;obtain⟨q',h1',_,h3'⟩:=ho j p e';exact h.apart _ _ q q' k (λe2=>hn (hf i j o p e e' e2)) h1 h1' (h3 k hk) (h3' k hk')
 .obtain⟨q,h1,_,h3⟩:=ho i o e;exact h.fza _ q k h1 (h3 k hk)
theorem subset_mem{l m:List Nat}(h:subset l m=true){t:Nat}(ht:t∈l):al_ t m=true:=by
 unfold subset at h;exact List.all_eq_true.1 h t ht
theorem disj_mem{l m:List Nat}(h:disj l m=true){t:Nat}(ht:t∈l):al_ t m=false:=by
 unfold disj at h;simpa using List.all_eq_true.1 h t ht
theorem cp_{t:Nat}:∀{l m:List Nat},al_ t (l++m)=(al_ t l||al_ t m)
 | [],m=>rfl
 | u::l,m=>by
  simp only[List.cons_append,al_];cases Nat.beq t u with
  | true=>rfl
  | false=>exact cp_
theorem RC.same{A:List Nat}{c:SC E}{v:Value}(h:RC P E z g c v)(hA:∀i,al_ i A=true->g' i=g i)(hc:c.okIds A=true):RC P E z g' c v:=by
 cases c with
 | dt t x=>exact h
 | own id=>obtain⟨l,h1,h2⟩:=h;exact⟨l,by rw[hA id hc];exact h1,h2⟩
 | pre id n=>obtain⟨l,h1,h2⟩:=h;exact⟨l,by rw[hA id hc];exact h1,h2⟩
 | suf id lo=>obtain⟨l,h1,h2⟩:=h;exact⟨l,by rw[hA id hc];exact h1,h2⟩
 | nils=>exact h
 | ptr id off=>obtain⟨l,h1,h2⟩:=h;exact⟨l,by rw[hA id hc];exact h1,h2⟩
 | elo id q i off =>
  simp only[SC.okIds,qAn]at hc;obtain⟨l,h1,h2⟩:=h;exact⟨l,by rw[hA q hc.2];exact h1,h2⟩
 | elf t x off=>exact h
 | fn1 a r f=>exact h
 | fn2 a b r f=>exact h
 | clo f caps =>
  obtain⟨us,h1,h2⟩:=h;refine⟨us,h1,?_⟩;have:∀{caps:List Nat} {us:List Value},subset caps A=true->All2 (λid u=>∃l,g id=some l/\u=Value.pointer (some ⟨l.b,0,none⟩)) caps us->All2 (λid u=>∃l,g' id=some l/\u=Value.pointer (some ⟨l.b,0,none⟩)) caps us:=by
   intro caps us hs hr
   induction hr with
   | nil=>exact .nil
   | cons hx _ ih =>
    obtain⟨l,h3,h4⟩:=hx;exact .cons ⟨l,by rw[hA _ (subset_mem hs (List.mem_cons_self ..))];exact h3,h4⟩ (ih (by unfold subset at hs ⊢;simp only[List.all_cons,qAn]at hs;exact hs.2))
  exact this hc h2
 | mp id=>obtain⟨l,h1,h2⟩:=h;exact⟨l,by rw[hA id hc];exact h1,h2⟩
 | mst q=>obtain⟨l,h1,h2⟩:=h;exact⟨l,by rw[hA q hc];exact h1,h2⟩
 | nilp=>exact h
 | nif=>exact h
 | any=>exact h
 | sbp id=>obtain⟨l,h1,h2⟩:=h;exact⟨l,by rw[hA id hc];exact h1,h2⟩
 | pix id i=>obtain⟨l,h1,h2⟩:=h;exact⟨l,by rw[hA id hc];exact h1,h2⟩
 | efx t x i=>exact h
theorem RCs.same{A:List Nat}(hA:∀i,al_ i A=true->g' i=g i){l:List (SC E)}{vs:List Value}(h:All2 (RC P E z g) l vs):(l.all λc=>c.okIds A)=true->All2 (RC P E z g') l vs:=by
 induction h with
 | nil=>intro _;exact .nil
 | cons hx _ ih =>
  intro hc;simp only[List.all_cons,qAn]at hc;exact .cons (hx.same hA hc.1) (ih hc.2)
theorem R1.same{A:List Nat}{x:V1 E}{v:Value}(h:R1 P E z g x v)(hA:∀i,al_ i A=true->g' i=g i)(hc:x.okIds A=true):R1 P E z g' x v:=by
 cases x with
 | one c=>exact RC.same h hA hc
 | agg l=>obtain⟨vs,h1,h2⟩:=h;exact⟨vs,h1,RCs.same hA h2 hc⟩
theorem RV.same{A:List Nat}{x:SV E}{v:Value}(h:RV P E z g x v)(hA:∀i,al_ i A=true->g' i=g i)(hc:x.okIds A=true):RV P E z g' x v:=by
 cases x with
 | v x=>exact R1.same h hA hc
 | tup l =>
  obtain⟨vs,h1,h2⟩:=h;refine⟨vs,h1,?_⟩;have:∀{l:List (V1 E)} {vs:List Value},(l.all λc=>c.okIds A)=true->All2 (R1 P E z g) l vs->All2 (R1 P E z g') l vs:=by
   intro l vs hs hr
   induction hr with
   | nil=>exact .nil
   | cons hx _ ih =>
    simp only[List.all_cons,qAn]at hs;exact .cons (hx.same hA hs.1) (ih hs.2)
  exact this hc h2
theorem fpO_same{i i':Nat}{o:Obj E}{k:Nat}(hg:g' i'=g i):fpO g' i' o k↔fpO g i o k:=by
 cases o<;>simp[fpO,hg]
theorem ObjR.same{A:List Nat}{i:Nat}{o:Obj E}(h:ObjR P E z g w i o)(hA:∀i,al_ i A=true->g' i=g i)(hi:g' i=g i)(hc:o.okIds A=true):ObjR P E z g' w i o:=by
 cases o with
 | box T cs=>obtain⟨l,vs,h1,h2,h3⟩:=h;exact⟨l,vs,by rw[hi];exact h1,h2,RCs.same hA h3 hc⟩
 | row e t xs foc =>
  obtain⟨l,rows,h1,h2,h3,h4,h5,h6,h7,h8⟩:=h;refine⟨l,rows,by rw[hi];exact h1,h2,h3,h4,h5,h6,h7,λp hp => ?_⟩;obtain⟨h9,lq,o,h10,h11⟩:=h8 p hp;exact⟨h9,lq,o,by rw[hA p.1 (List.all_eq_true.1 hc p hp)];exact h10,h11⟩
 | fr t xs=>obtain⟨l,rows,h1,h2⟩:=h;exact⟨l,rows,by rw[hi];exact h1,h2⟩
 | fb t x=>obtain⟨l,r,h1,h2⟩:=h;exact⟨l,r,by rw[hi];exact h1,h2⟩
 | map T k v ks vs foc =>
  obtain⟨l,es,c,h1,h2,h3,h4⟩:=h;refine⟨l,es,c,by rw[hi];exact h1,h2,h3,λp hp => ?_⟩;obtain⟨lq,i,e,h5,h6⟩:=h4 p hp;exact⟨lq,i,e,by rw[hA p.1 (List.all_eq_true.1 hc p hp)];exact h5,h6⟩
def Bd.Le(a b:Bd):Prop:=∀j id,an_ j a=some id->an_ j b=some id
theorem Bd.Le.refl(a:Bd):Bd.Le a a:=λ_ _ h=>h
theorem Bd.Le.trans{a b c:Bd}(h:Bd.Le a b)(k:Bd.Le b c):Bd.Le a c:=λj id e=>k j id (h j id e)
theorem cU_{j id:Nat}{a b:Bd}(h:addB j id a=some b):Bd.Le a b/\an_ j b=some id:=by
 unfold addB at h;split at h
 .rename_i id' hg;split at h
  .rename_i hb;obtain rfl:=qNb hb;obtain rfl:=qSj h;exact⟨Bd.Le.refl _,hg⟩
  .cases h
 .rename_i hg;obtain rfl:=qSj h;refine⟨λj' id' e => ?_,?_⟩
  .simp only[an_];split
   .rename_i hb;obtain rfl:=qNb hb;rw[hg]at e;cases e
   .exact e
  .simp only[an_];have:Nat.beq j j=true:=by simp
   rw[this]
def Bound(g g':Ga)(bs:Bd):Prop:=∀j id,an_ j bs=some id->g' j=g id
theorem bJ_:∀{ps:List CP} {cs:List (SC E)} {a b:Bd},aw_ ps cs a=some b->Bd.Le a b
 | [],cs,a,b,h=>by
  cases cs with
  | nil=>obtain rfl:=qSj h;exact Bd.Le.refl _
  | cons c cs=>simp[aw_]at h
 | p::ps,cs,a,b,h=>by
  unfold aw_ at h;split at h
  .rename_i hx;cases hx
  .rename_i hx;cases hx;exact bJ_ h
  .rename_i hx;cases hx
   split at h
   .rename_i hb;exact(cU_ hb).1.trans (bJ_ h)
   .cases h
  .rename_i hx;cases hx
   split at h
   .rename_i hb;exact(cU_ hb).1.trans (bJ_ h)
   .cases h
  .rename_i hx;cases hx
   split at h
   .rename_i hb;exact(cU_ hb).1.trans (bJ_ h)
   .cases h
  .rename_i hx;cases hx
   split at h
   .rename_i hb;exact(cU_ hb).1.trans (bJ_ h)
   .cases h
  .cases h
theorem leafC_v{H:Nat->Option (Obj E)}{t:Ty}{ps:List CP}{c:SC E}{cs:List (SC E)}{h:HL E.S (cpT (.v t::ps))}(e:bC_ H (.v t::ps) (c::cs)=some h):c.data H t=some h.1/\bC_ H ps cs=some h.2 :=
 mS_ e
theorem leafC_own{H:Nat->Option (Obj E)}{j:Nat}{ps:List CP}{c:SC E}{cs:List (SC E)}{h:HL E.S (cpT ps)}(e:bC_ H (.own j::ps) (c::cs)=some h):bC_ H ps cs=some h:=e
theorem leafC_ptr{H:Nat->Option (Obj E)}{j:Nat}{ps:List CP}{c:SC E}{cs:List (SC E)}{h:HL E.S (cpT ps)}(e:bC_ H (.ptr j::ps) (c::cs)=some h):bC_ H ps cs=some h:=e
theorem bindC_own{j:Nat}{ps:List CP}{c:SC E}{cs:List (SC E)}{a b:Bd}(e:aw_ (.own j::ps) (c::cs) a=some b):∃id b1,c = .own id/\addB j id a=some b1/\aw_ ps cs b1=some b:=by
 cases c with
 | own id =>
  simp only[aw_]at e;split at e
  .rename_i b1 hb;exact⟨id,b1,rfl,hb,e⟩
  .cases e
 | _=>simp[aw_]at e
theorem bindC_ptr{j:Nat}{ps:List CP}{c:SC E}{cs:List (SC E)}{a b:Bd}(e:aw_ (.ptr j::ps) (c::cs) a=some b):∃id b1,c = .ptr id 0/\addB j id a=some b1/\aw_ ps cs b1=some b:=by
 cases c with
 | ptr id off =>
  cases off with
  | zero =>
   simp only[aw_]at e;split at e
   .rename_i b1 hb;exact⟨id,b1,rfl,hb,e⟩
   .cases e
  | succ n=>simp[aw_]at e
 | _=>simp[aw_]at e
theorem leafC_mp{H:Nat->Option (Obj E)}{j:Nat}{ps:List CP}{c:SC E}{cs:List (SC E)}{h:HL E.S (cpT ps)}(e:bC_ H (.mp j::ps) (c::cs)=some h):bC_ H ps cs=some h:=e
theorem bindC_mp{j:Nat}{ps:List CP}{c:SC E}{cs:List (SC E)}{a b:Bd}(e:aw_ (.mp j::ps) (c::cs) a=some b):∃id b1,c = .mp id/\addB j id a=some b1/\aw_ ps cs b1=some b:=by
 cases c with
 | mp id =>
  simp only[aw_]at e;split at e
  .rename_i b1 hb;exact⟨id,b1,rfl,hb,e⟩
  .cases e
 | _=>simp[aw_]at e
theorem leafC_sbp{H:Nat->Option (Obj E)}{j:Nat}{ps:List CP}{c:SC E}{cs:List (SC E)}{h:HL E.S (cpT ps)}(e:bC_ H (.sbp j::ps) (c::cs)=some h):bC_ H ps cs=some h:=e
theorem bindC_sbp{j:Nat}{ps:List CP}{c:SC E}{cs:List (SC E)}{a b:Bd}(e:aw_ (.sbp j::ps) (c::cs) a=some b):∃id b1,c = .sbp id/\addB j id a=some b1/\aw_ ps cs b1=some b:=by
 cases c with
 | sbp id =>
  simp only[aw_]at e;split at e
  .rename_i b1 hb;exact⟨id,b1,rfl,hb,e⟩
  .cases e
 | _=>simp[aw_]at e
theorem bindC_v{t:Ty}{ps:List CP}{c:SC E}{cs:List (SC E)}{a b:Bd}(e:aw_ (.v t::ps) (c::cs) a=some b):aw_ ps cs a=some b:=e
theorem bindC_cons{p:CP}{ps:List CP}{cs:List (SC E)}{a b:Bd}(e:aw_ (p::ps) cs a=some b):∃c cs',cs=c::cs':=by
 cases cs with
 | nil=>cases p<;>simp[aw_]at e
 | cons c cs=>exact⟨c,cs,rfl⟩
theorem iE_{H:Nat->Option (Obj E)}(hH:HR P E Bs F0 w0 w z g H){bs:Bd}(hB:Bound g g' bs):∀(ps:List CP) (cs:List (SC E)) (a b:Bd) (h:HL E.S (cpT ps)) (vs:List Value),aw_ ps cs a=some b->Bd.Le b bs->bC_ H ps cs=some h->All2 (RC P E z g) cs vs->All2 (RC P E z g') (newC ps h) vs:=by
 intro ps
 induction ps with
 | nil =>
  intro cs a b h vs h1 _ _ h4;cases cs with
  | nil=>cases h4;exact .nil
  | cons c cs=>simp[aw_]at h1
 | cons p ps ih =>
  intro cs a b h vs h1 h2 h3 h4;obtain⟨c,cs,rfl⟩:=bindC_cons h1;obtain⟨v,vs,rfl,hx,hr⟩:∃v vs',vs=v::vs'/\RC P E z g c v/\All2 (RC P E z g) cs vs':=by
   cases h4 with|cons hx hr=>exact⟨_,_,rfl,hx,hr⟩
  cases p with
  | v t =>
   obtain⟨hd,hl⟩:=leafC_v h3;have h5:=ih cs a b h.2 vs (bindC_v h1) h2 hl hr;have h6:RC P E z g' (.dt t h.1) v:=SC.data_ok (w:=w) hH hd hx;show All2 _ (SC.dt t h.1::newC ps h.2) _;exact All2.cons h6 h5
  | own j =>
   obtain⟨id,b1,rfl,hb,h1⟩:=bindC_own h1;have h5:=ih cs b1 b h vs h1 h2 (leafC_own h3) hr;obtain⟨l,h6,h7⟩:=hx;have hg:=hB j id (h2 _ _ (bJ_ h1 _ _ (cU_ hb).2));have h8:RC P E z g' (.own j) v:=⟨l,by rw[hg];exact h6,h7⟩;show All2 _ (SC.own j::newC ps h) _;exact All2.cons h8 h5
  | ptr j =>
   obtain⟨id,b1,rfl,hb,h1⟩:=bindC_ptr h1;have h5:=ih cs b1 b h vs h1 h2 (leafC_ptr h3) hr;obtain⟨l,h6,h7⟩:=hx;have hg:=hB j id (h2 _ _ (bJ_ h1 _ _ (cU_ hb).2));have h8:RC P E z g' (.ptr j 0) v:=⟨l,by rw[hg];exact h6,h7⟩;show All2 _ (SC.ptr j 0::newC ps h) _;exact All2.cons h8 h5
  | mp j =>
   obtain⟨id,b1,rfl,hb,h1⟩:=bindC_mp h1;have h5:=ih cs b1 b h vs h1 h2 (leafC_mp h3) hr;obtain⟨l,h6,h7⟩:=hx;have hg:=hB j id (h2 _ _ (bJ_ h1 _ _ (cU_ hb).2));have h8:RC P E z g' (.mp j) v:=⟨l,by rw[hg];exact h6,h7⟩;show All2 _ (SC.mp j::newC ps h) _;exact All2.cons h8 h5
  | sbp j =>
   obtain⟨id,b1,rfl,hb,h1⟩:=bindC_sbp h1;have h5:=ih cs b1 b h vs h1 h2 (leafC_sbp h3) hr;obtain⟨l,h6,h7⟩:=hx;have hg:=hB j id (h2 _ _ (bJ_ h1 _ _ (cU_ hb).2));have h8:RC P E z g' (.sbp j) v:=⟨l,by rw[hg];exact h6,h7⟩;show All2 _ (SC.sbp j::newC ps h) _;exact All2.cons h8 h5
theorem gc_{S:Nat->Type}:∀(ts us:List Ty) (a:HL S ts) (b:HL S us),hfst ts us (hap a b)=a
 | [],_,_,_=>rfl
 | _::ts,us,(x,a),b=>by
  show(x,hfst ts us (hap a b))=_;rw[gc_ ts us a b]
theorem gd_{S:Nat->Type}:∀(ts us:List Ty) (a:HL S ts) (b:HL S us),hsnd ts us (hap a b)=b
 | [],_,_,_=>rfl
 | _::ts,us,a,b=>gd_ ts us a.2 b
theorem iF_{L:Nat->Option (SV E)}:∀{l:List (Nat×VP)} {a b:Bd},c4_ L l a=some b->Bd.Le a b
 | [],a,b,h=>by obtain rfl:=qSj h;exact Bd.Le.refl _
 | (t,.d _)::l,a,b,h=>iF_ (l:=l) h
 | (t,.one p)::l,a,b,h=>by
  simp only[c4_]at h;split at h
  .split at h
   .rename_i hb;exact(bJ_ hb).trans (iF_ h)
   .cases h
  .cases h
 | (t,.agg ps)::l,a,b,h=>by
  simp only[c4_]at h;split at h
  .split at h
   .rename_i hb;exact(bJ_ hb).trans (iF_ h)
   .cases h
  .cases h
theorem newV_ok{H:Nat->Option (Obj E)}(hH:HR P E Bs F0 w0 w z g H){bs:Bd}(hB:Bound g g' bs){p:VP}{x x':V1 E}{h:HL E.S p.T}{a b:Bd}{v:Value}
  (hb:∀c,p = .one c->∃y,x = .one y/\aw_ [c] [y] a=some b) (hg:∀ps,p = .agg ps->∃y,x = .agg y/\aw_ ps y a=some b) (h2:Bd.Le b bs) (h3:leafV H p x=some h) (h4:newV p h=some x') (hv:R1 P E z g x v):R1 P E z g' x' v:=by
 cases p with
 | d ty =>
  have hd:takeD E H ty x=some h.1:=fL_ h3;obtain⟨y,h6,h7⟩:=hK_ (iq_ hH hd hv) g';have h5:asV E ty (E.cells ty h.1)=some x':=h4;rw[h6]at h5;obtain rfl:=qSj h5;exact h7
 | one c =>
  obtain⟨y,rfl,h5⟩:=hb c rfl;have h6:=iE_ hH hB [c] [y] a b h [v] h5 h2 h3 (.cons hv .nil);have h7:ones (newC [c] h)=some x':=h4;generalize newC [c] h=l at h6 h7;cases h6 with
  | cons h8 h9 =>
   cases h9
   obtain rfl:=qSj h7;exact h8
 | agg ps =>
  obtain⟨y,rfl,h5⟩:=hg ps rfl;obtain⟨vs,rfl,h8⟩:=hv;have h6:=iE_ hH hB ps y a b h vs h5 h2 h3 h8;have h7:some (V1.agg (newC ps h))=some x':=h4;obtain rfl:=qSj h7;exact⟨vs,rfl,h6⟩
theorem bindS_cons{L:Nat->Option (SV E)}{t:Nat}{p:VP}{l:List (Nat×VP)}{a b:Bd}{x:V1 E}(hx:L t=some (.v x))(h:c4_ L ((t,p)::l) a=some b) :
  ∃a',c4_ L l a'=some b/\(∀c,p = .one c->∃y,x = .one y/\aw_ [c] [y] a=some a')/\∀ps,p = .agg ps->∃y,x = .agg y/\aw_ ps y a=some a':=by
 cases p with
 | d ty=>exact⟨a,h,(λ_ e=>nomatch e),λ_ e=>nomatch e⟩
 | one c =>
  unfold c4_ at h;rw[hx]at h;cases x with
  | agg y=>cases h
  | one y =>
   cases hb:aw_ [c] [y] a with
   | none=>simp only[hb]at h;cases h
   | some b1 =>
    simp only[hb]at h;exact⟨b1,h,(λc' e=>by injection e with e;subst e;exact⟨y,rfl,hb⟩),λ_ e=>nomatch e⟩
 | agg ps =>
  unfold c4_ at h;rw[hx]at h;cases x with
  | one y=>cases h
  | agg y =>
   cases hb:aw_ ps y a with
   | none=>simp only[hb]at h;cases h
   | some b1 =>
    simp only[hb]at h;exact⟨b1,h,(λ_ e=>nomatch e),λc' e=>by injection e with e;subst e;exact⟨y,rfl,hb⟩⟩
theorem leafS_cons{L:Nat->Option (SV E)}{H:Nat->Option (Obj E)}{t:Nat}{p:VP}{l:List (Nat×VP)}{h:HL E.S (cx_ ((t,p)::l))}(e:leafS L H ((t,p)::l)=some h) :
  ∃x h1 h2,L t=some (.v x)/\leafV H p x=some h1/\leafS L H l=some h2/\h=hap h1 h2:=by
 unfold leafS at e;cases hx:L t with
 | none=>rw[hx]at e;cases e
 | some sv =>
  cases sv with
  | tup q=>rw[hx]at e;cases e
  | v x =>
   rw[hx]at e;obtain⟨a,b,h1,h2,h3⟩:=jQ_ e;exact⟨x,a,b,rfl,h1,h2,h3⟩
theorem newS_cons{t:Nat}{p:VP}{l:List (Nat×VP)}{h1:HL E.S p.T}{h2:HL E.S (cx_ l)}{env:List (Nat×Option (SV E))}(e:newS ((t,p)::l) (hap h1 h2)=some env) :
  ∃x env',newV p h1=some x/\newS l h2=some env'/\env=(t,some (.v x))::env':=by
 have e':slotO t (newV p (hfst p.T (cx_ l) (hap h1 h2))) (newS l (hsnd p.T (cx_ l) (hap h1 h2)))=some env:=e;rw[gc_,gd_]at e';cases hx:newV p h1 with
 | none=>rw[hx]at e';cases e'
 | some x =>
  cases hl:newS l h2 with
  | none=>rw[hx,hl]at e';cases e'
  | some env' =>
   rw[hx,hl]at e';exact⟨x,env',rfl,rfl,(qSj e').symm⟩
theorem slots_meet{H:Nat->Option (Obj E)}{L:Nat->Option (SV E)}(hH:HR P E Bs F0 w0 w z g H){bs:Bd}(hB:Bound g g' bs):∀(l:List (Nat×VP)) (a b:Bd) (h:HL E.S (cx_ l)) (env:List (Nat×Option (SV E))),c4_ L l a=some b->Bd.Le b bs->leafS L H l=some h->newS l h=some env ->
  ∀t o,an_ t env=some o->∃sv s0,o=some sv/\L t=some s0/\∀v,RV P E z g s0 v->RV P E z g' sv v:=by
 intro l
 induction l with
 | nil =>
  intro a b h env _ _ _ h4 t o h5;have h6:some []=some env:=h4;obtain rfl:=qSj h6;cases h5
 | cons q l ih =>
  obtain⟨t,p⟩:=q;intro a b h env h1 h2 h3 h4 t' o h5;obtain⟨x,y1,y2,hx,hl1,hl2,rfl⟩:=leafS_cons h3;obtain⟨x',env',hn1,hn2,rfl⟩:=newS_cons h4;obtain⟨a',ha,hb,hg⟩:=bindS_cons hx h1;simp only[an_]at h5;split at h5
  .rename_i hb';obtain rfl:=qNb hb';obtain rfl:=qSj h5;exact⟨_,_,rfl,hx,λv hv=>newV_ok hH hB hb hg ((iF_ ha).trans h2) hl1 hn1 hv⟩
  .exact ih a' b y2 env' ha h2 hl2 hn2 t' o h5
theorem focK_ok{L:Nat->Option (SV E)}{R:Type}{t:Ty}{xs:List (Den E.S t)}{r:R}:∀{fs:List (Nat×Nat)} {k:List (Nat×Int×Den E.S t)->Option R},focK L xs fs k=some r ->
  ∃l,k l=some r/\∀p∈l,∃sl id off,(p.1,sl)∈fs/\L sl=some (.v (.one (.elo id p.1 p.2.1 off)))/\af_ xs p.2.1=some p.2.2
 | [],k,h=>⟨[],h,λ_ hp=>nomatch hp⟩
 | (q,sl)::fs,k,h=>by
  unfold focK at h;split at h
  .rename_i id q' i off hL;split at h
   .rename_i hb;obtain rfl:=qNb hb;obtain⟨y,hy,h⟩:=bind_some h;obtain⟨l,h1,h2⟩:=focK_ok h;refine⟨_,h1,λp hp => ?_⟩;rcases List.mem_cons.1 hp with rfl|hp
    .exact⟨sl,id,off,List.mem_cons_self ..,hL,hy⟩
    .obtain⟨sl',id',off',h3,h4⟩:=h2 p hp;exact⟨sl',id',off',List.mem_cons_of_mem _ h3,h4⟩
   .cases h
  .cases h
def focB(o:Obj E)(keep gkeep:List Nat)(fs:List (Nat×Nat)):Bool:=match o with | .row _ _ _ foc=>fs.all λf=>(foc.any λp=>Nat.beq p.1 f.1)&&(al_ f.2 keep&&al_ f.1 gkeep)|_=>false
theorem obj_meet{H:Nat->Option (Obj E)}{L:Nat->Option (SV E)}{R:Type}{k:Obj E->Option R}{r:R}(hH:HR P E Bs F0 w0 w z g H){bs:Bd}(hB:Bound g g' bs){keep gkeep:List Nat}(hgk:∀i,al_ i gkeep=true->g' i=g i)
  (hk:∀sl id q i off,al_ sl keep=true->L sl=some (.v (.one (.elo id q i off)))->∃l,g q=some l/\l.ix=i) {p:OP} {o:Obj E} {h:HL E.S p.T} {i id:Nat} (hi:g' i=g id) (h1:leafO H p o=some h) (h2:newO L p h k=some r)
  (hf:∀e t fs,p = .row e t fs->focB o keep gkeep fs=true) (hc:∀T ps,p = .cells T ps->∀T' cs,o = .box T' cs->∃a b,aw_ ps cs a=some b/\Bd.Le b bs) :
  ∃o',k o'=some r/\(ObjR P E z g w id o->ObjR P E z g' w i o')/\∀q,fpO g' i o' q->fpO g id o q:=by
 cases p with
 | box T t =>
  cases o with
  | box T' cs =>
   obtain⟨hT,hq1⟩:=br_ (show cg_ (Nat.beq T T') (unitO ((aN_ E H (E.flat t) cs).map (E.ufl t)))=some h from h1);obtain rfl:=qNb hT;have h3:=fL_ hq1;cases hd:aN_ E H (E.flat t) cs with
   | none=>rw[hd]at h3;cases h3
   | some d =>
    rw[hd]at h3;have h4:E.ufl t d=h.1:=qSj h3;refine⟨_,h2,λho => ?_,λq hq => ?_⟩
    .obtain⟨l,vs,h5,h6,h7⟩:=ho;refine⟨l,vs,by rw[hi];exact h5,h6,?_⟩;have h8:=bI_ hH hd h7;have h9:d=E.fl t h.1:=by rw[←h4,E.fl_ufl]
     rw[h9]at h8;exact cells_rd.1 h8
    .obtain⟨l,h5,h6⟩:=hq;exact⟨l,by rw[←hi];exact h5,h6⟩
  | _=>simp[leafO]at h1
 | cells T ps =>
  cases o with
  | box T' cs =>
   obtain⟨a,b,h3,h4⟩:=hc T ps rfl T' cs rfl;obtain⟨hT,hq1⟩:=br_ (show cg_ (Nat.beq T T') (bC_ H ps cs)=some h from h1);obtain rfl:=qNb hT;refine⟨_,h2,λho => ?_,λq hq => ?_⟩
   .obtain⟨l,vs,h5,h6,h7⟩:=ho;exact⟨l,vs,by rw[hi];exact h5,h6,iE_ hH hB ps cs a b h vs h3 h4 hq1 h7⟩
   .obtain⟨l,h5,h6⟩:=hq;exact⟨l,by rw[←hi];exact h5,h6⟩
  | _=>simp[leafO]at h1
 | row e t fs =>
  cases o with
  | row e' t' xs foc =>
   obtain⟨he,hq1⟩:=br_ (show cg_ (Nat.beq e e') (unitO (castO t xs))=some h from h1);obtain rfl:=qNb he;obtain⟨ht,hxs⟩:=iw_ (fL_ hq1);subst ht;have hxs:h.1=xs:=hxs;obtain⟨l,h3,h4⟩:=focK_ok (show focK L h.1 fs (λl=>k (.row e t' h.1 l))=some r from h2);refine⟨_,h3,λho => ?_,λq hq => ?_⟩
   .obtain⟨lo,rows,h5,hn,hcc,h6,h7,h8,h9',h10⟩:=ho;rw[←hxs]at hn h9';refine⟨lo,rows,by rw[hi];exact h5,hn,hcc,h6,h7,h8,h9',λp hp => ?_⟩;obtain⟨sl,id',off,h11,h12,h13⟩:=h4 p hp;refine⟨h13,?_⟩;have hf':=hf e t' fs rfl;have hf2:=List.all_eq_true.1 hf' _ h11;simp only[qAn,List.any_eq_true]at hf2;obtain⟨⟨p0,hp0,hb⟩,hk1,hk2⟩:=hf2;have hq:=qNb hb;obtain⟨_,lq,oo,h14,h15,h16,h17⟩:=h10 p0 hp0;obtain⟨l2,h18,h19⟩:=hk _ _ _ _ _ hk1 h12;rw[hq,h18]at h14;obtain rfl:=qSj h14;have hix:p0.2.1=p.2.1:=by rw[←h17,h19]
    exact⟨l2,oo,by rw[hgk _ hk2];exact h18,h15,by rw[←hix];exact h16,h19⟩
   .obtain⟨l,a,h5,h6⟩:=hq;exact⟨l,a,by rw[←hi];exact h5,h6⟩
  | _=>simp[leafO]at h1
 | map T kt vt =>
  cases o with
  | map T' kt' vt' ks vs foc =>
   obtain⟨hT,hq1⟩:=br_ (show cg_ (Nat.beq T T') (pairO (castO kt ks) (unitO (castO vt vs)))=some h from h1);obtain rfl:=qNb hT;obtain⟨hk1,hv1⟩:=mS_ hq1;obtain⟨ht1,hks⟩:=iw_ hk1;obtain⟨ht2,hvs⟩:=iw_ (fL_ hv1);subst ht1;subst ht2;have hks:h.1=ks:=hks;have hvs:h.2.1=vs:=hvs;refine⟨_,h2,λho => ?_,λq hq => ?_⟩
   .obtain⟨l,es,c,h5,h6,h7,_⟩:=ho;refine⟨l,es,c,by rw[hi];exact h5,h6,?_,λp hp=>nomatch hp⟩;rw[hks,hvs];exact h7
   .obtain⟨l,h5,h6⟩:=hq;exact⟨l,by rw[←hi];exact h5,h6⟩
  | _=>simp[leafO]at h1
theorem mY_{H:Nat->Option (Obj E)}{j:Nat}{sf:Bool}{p:OP}{l:List (Nat×Bool×OP)}{a b:Bd}(h:eq_ H ((j,sf,p)::l) a=some b) :
  ∃a1 a2,Bd.Le a a1/\Bd.Le a1 a2/\(sf=true->an_ j a1=some j)/\eq_ H l a2=some b/\∀T ps,p = .cells T ps->∃id T' cs,an_ j a1=some id/\H id=some (.box T' cs)/\aw_ ps cs a1=some a2:=by
 have first:∃a1,selfB sf j a=some a1/\Bd.Le a a1/\(sf=true->an_ j a1=some j):=by
  cases sf with
  | false=>exact⟨a,rfl,Bd.Le.refl a,λe=>nomatch e⟩
  | true =>
   cases ha:addB j j a with
   | none =>
    unfold eq_ selfB at h;simp only[ha]at h;cases h
   | some a1=>exact⟨a1,ha,(cU_ ha).1,λ_=>(cU_ ha).2⟩
 obtain⟨a1,h1,h2,h3⟩:=first;unfold eq_ at h;rw[h1]at h;simp only at h;cases p with
 | box T t=>exact⟨a1,a1,h2,Bd.Le.refl a1,h3,h,λ_ _ e=>nomatch e⟩
 | row e t fs=>exact⟨a1,a1,h2,Bd.Le.refl a1,h3,h,λ_ _ e=>nomatch e⟩
 | map T k v=>exact⟨a1,a1,h2,Bd.Le.refl a1,h3,h,λ_ _ e=>nomatch e⟩
 | cells T ps =>
  simp only at h;cases hj:an_ j a1 with
  | none=>simp only[hj]at h;cases h
  | some id =>
   simp only[hj]at h;cases ho:H id with
   | none=>simp only[ho]at h;cases h
   | some o =>
    cases o with
    | box T' cs =>
     simp only[ho]at h;cases hb:aw_ ps cs a1 with
     | none=>simp only[hb]at h;cases h
     | some a2 =>
      simp only[hb]at h;exact⟨a1,a2,h2,bJ_ hb,h3,h,λT2 ps2 e=>by injection e with e1 e2;subst e2;exact⟨id,T',cs,hj,ho,hb⟩⟩
    | _=>simp only[ho]at h;cases h
theorem iG_{H:Nat->Option (Obj E)}:∀{l:List (Nat×Bool×OP)} {a b:Bd},eq_ H l a=some b->Bd.Le a b/\∀j,j∈selfs l->an_ j b=some j
 | [],a,b,h=>by obtain rfl:=qSj h;exact⟨Bd.Le.refl _,λ_ hj=>nomatch hj⟩
 | (j,sf,p)::l,a,b,h=>by
  obtain⟨a1,a2,h1,h2,h3,h4,_⟩:=mY_ h;obtain⟨h5,h6⟩:=iG_ h4;refine⟨(h1.trans h2).trans h5,λi hi => ?_⟩;cases sf with
  | false=>exact h6 i hi
  | true =>
   rcases List.mem_cons.1 hi with rfl|hi
   .exact(h2.trans h5) _ _ (h3 rfl)
   .exact h6 i hi
theorem leafOs_cons{H:Nat->Option (Obj E)}{bs:Bd}{j:Nat}{sf:Bool}{p:OP}{l:List (Nat×Bool×OP)}{h:HL E.S (dR_ ((j,sf,p)::l))}(e:gb_ H bs ((j,sf,p)::l)=some h) :
  ∃id o h1 h2,an_ j bs=some id/\H id=some o/\leafO H p o=some h1/\gb_ H bs l=some h2/\h=hap h1 h2:=by
 unfold gb_ at e;cases hj:an_ j bs with
 | none=>rw[hj]at e;cases e
 | some id =>
  rw[hj]at e;cases ho:H id with
  | none=>simp only[ho]at e;cases e
  | some o =>
   simp only[ho]at e;obtain⟨a,b,h1,h2,h3⟩:=jQ_ e;exact⟨id,o,a,b,rfl,ho,h1,h2,h3⟩
theorem objs_meet{H:Nat->Option (Obj E)}{L:Nat->Option (SV E)}{R:Type}{r:R}(hH:HR P E Bs F0 w0 w z g H){bs:Bd}(hB:Bound g g' bs){keep gkeep:List Nat}(hgk:∀i,al_ i gkeep=true->g' i=g i)
  (hk:∀sl id q i off,al_ sl keep=true->L sl=some (.v (.one (.elo id q i off)))->∃l,g q=some l/\l.ix=i):∀(l:List (Nat×Bool×OP)) (a b:Bd) (h:HL E.S (dR_ l)) (k:Chs E->Option R),
  eq_ H l a=some b->Bd.Le b bs->gb_ H bs l=some h->focOK H bs keep gkeep l=true->newOs L l h k=some r ->
  ∃u,k u=some r/\∀i o',(i,o')∈u->∃id o p,an_ i bs=some id/\H id=some o/\o'=some p/\(ObjR P E z g w id o->ObjR P E z g' w i p)/\∀q,fpO g' i p q->fpO g id o q:=by
 intro l
 induction l with
 | nil=>intro a b h k _ _ _ _ h5;exact⟨[],h5,λ_ _ hm=>nomatch hm⟩
 | cons q l ih =>
  obtain⟨j,sf,p⟩:=q;intro a b h k h1 h2 h3 h4 h5;obtain⟨id,o,y1,y2,hj,ho,hl1,hl2,rfl⟩:=leafOs_cons h3;obtain⟨a1,a2,ha1,ha2,_,hb,hcell⟩:=mY_ h1;have h6:newO L p (hfst p.T (dR_ l) (hap y1 y2)) (λo=>newOs L l (hsnd p.T (dR_ l) (hap y1 y2)) λu=>k ((j,some o)::u))=some r:=h5;rw[gc_,gd_]at h6;have hfoc:focOK H bs keep gkeep l=true/\∀e t fs,p = .row e t fs->focB o keep gkeep fs=true:=by
   cases p with
   | row e t fs =>
    unfold focOK at h4;simp only[hj,ho,qAn]at h4;refine⟨h4.2,λe2 t2 fs2 he => ?_⟩;injection he with _ _ he;subst he;unfold focB;cases o<;>first|exact h4.1|cases h4.1
   | _=>exact⟨h4,λ_ _ _ he=>nomatch he⟩
  have hle2:Bd.Le a2 bs:=(iG_ hb).1.trans h2;obtain⟨o',h7,h8,h9⟩:=obj_meet hH hB hgk hk (hB j id hj) hl1 h6 hfoc.2 λT ps hp T' cs hcs=>by
   obtain⟨id2,T2,cs2,h10,h11,h12⟩:=hcell T ps hp;have h13:=hle2 _ _ (ha2 _ _ h10);rw[hj]at h13;obtain rfl:=qSj h13;rw[ho,hcs]at h11;injection h11 with h11;injection h11 with _ h11;subst h11;exact⟨a1,a2,h12,hle2⟩
  obtain⟨u,h10,h11⟩:=ih a2 b y2 _ hb h2 hl2 hfoc.1 h7;refine⟨_,h10,λi o2 hm => ?_⟩;rcases List.mem_cons.1 hm with he|hm
  .injection he with e1 e2;subst e1;subst e2;exact⟨id,o,o',hj,ho,rfl,h8,h9⟩
  .exact h11 i o2 hm
theorem St.L_cons{b:Ba E}{s:St E}{t t':Nat}{v:Option (SV E)}:St.L b { s with env:=(t,v)::s.env } t'=if t'=t then v else s.L b t':=by
 unfold St.L;simp only[an_];by_cases h:t'=t
 .subst h;have:Nat.beq t' t'=true:=by simp
  rw[this,if_pos rfl]
 .have:Nat.beq t' t=false:=by
   cases hb:Nat.beq t' t with
   | false=>rfl
   | true=>exact absurd (qNb hb) h
  rw[this,if_neg h]
theorem prepS_ok{F0:Org}{b:Ba E}{s:St E}{objs:List (Nat×Bool×OP)}{p:Nat×VP}{a:Act}(h:Rel P E Bs F0 w0 N (s.L b) (s.H b) s.nx a w):Rel P E Bs F0 w0 N ((prepS b s objs p).L b) ((prepS b s objs p).H b) (prepS b s objs p).nx a w:=by
 unfold prepS;split
 .rename_i t j;split
  .rename_i e ty hL hrow;obtain⟨z,g,hE,hH,hf,hz0,hg0⟩:=h;refine⟨z,g.put s.nx ⟨none,0,0,E.size ty,0,0⟩,⟨hE.size,hE.defers,λt' u hu => ?_⟩,?_,hf.put _,hz0,hg0.trans (Ga.le_put hf.self)⟩
   .have hu':(if t'=t then some (SV.v (.one (.own s.nx)))else s.L b t')=some u:=by rw[←hu];exact(St.L_cons (s:={ s with heap:=(s.nx,some (.row e ty [] []))::s.heap,nx:=s.nx+1 })).symm
    split at hu'
    .rename_i ht;subst ht;obtain rfl:=qSj hu';obtain⟨v,h1,h2⟩:=hE.get _ _ hL;have h3:v = .slice none 0 0:=h2;exact⟨v,h1,_,Ga.put_self _ _ _,h3⟩
    .obtain⟨v,h1,h2⟩:=hE.get _ _ hu';exact⟨v,h1,h2.le (Fz.Le.refl z) (Ga.le_put hf.self)⟩
   .have:=hH.row_new (e:=e) (t:=ty) (xs:=[]) (A:=none) (cap:=0) (n:=0) (rows:=[]) hf (Ext.refl w) rfl ⟨by simp,.inl ⟨rfl,rfl⟩⟩ rfl (λi x r h1 _=>by simp at h1) (λq ⟨a,ha,_⟩=>nomatch ha);exact this
  .rename_i id n hL;split
   .rename_i e ty xs foc hi;obtain⟨z,g,hE,hH,hf,hz0,hg0⟩:=h;obtain⟨v,hv1,l,h1,hnl,hv2⟩:=hE.get _ _ hL;obtain⟨l2,rows,h3,hn,hc,hown,hlen,hrl,hrows,_⟩:=hH.hold _ _ hi;rw[h1]at h3;obtain rfl:=qSj h3;have hpre:=k3_ hown hlen hrl hnl;rw[hc]at hpre hrl;have hyl:(xs.take n.toNat).length=n.toNat:=by rw[List.length_take];omega
    have hsub:=cF_ hrows 0 n.toNat;simp only[List.drop_zero]at hsub;refine⟨z,g.put s.nx ⟨l.A,(xs.take n.toNat).length,l.cap,E.size ty,0,0⟩,⟨hE.size,hE.defers,λt' u hu => ?_⟩,?_,hf.put _,hz0,hg0.trans (Ga.le_put hf.self)⟩
    .have hu':(if t'=t then some (SV.v (.one (.own s.nx)))else s.L b t')=some u:=by rw[←hu];exact(St.L_cons (s:={ s with heap:=(s.nx,some (.row e ty (xs.take n.toNat) []))::(id,none)::s.heap,nx:=s.nx+1 })).symm
     split at hu'
     .rename_i ht;subst ht;obtain rfl:=qSj hu';exact⟨v,hv1,_,Ga.put_self _ _ _,by rw[hyl];exact hv2⟩
     .obtain⟨v',k1,k2⟩:=hE.get _ _ hu';exact⟨v',k1,k2.le (Fz.Le.refl z) (Ga.le_put hf.self)⟩
    .refine hH.turn (Ga.le_put hf.self) (i:=id) (i':=s.nx) (C:=cu_ l.A) (o' := .row e ty (xs.take n.toNat) []) (λq ⟨a,ha,hq⟩=>⟨_,hi,l,a,h1,ha,hq⟩) (Grow.refl w) (λ_ _ _=>rfl) ?_ (λq hq => ?_) λj p hj => ?_
     .refine⟨_,rows.take n.toNat,Ga.put_self _ _ _,rfl,rfl,?_,?_,λq hq=>hrl q (List.mem_of_mem_take hq),hsub,λp hp=>nomatch hp⟩
      .simp only[hyl];exact hpre
      .simp only[hyl];rw[List.length_take];omega
     .obtain⟨l2,a2,h5,h6,rfl⟩:=hq;rw[Ga.put_self]at h5;obtain rfl:=qSj h5;exact .inl ⟨a2,h6,rfl⟩
     .rcases kC_ (H:=s.H b) hj with h5|⟨h5,h6,h7⟩
      .exact .inl h5
      .exact .inr ⟨h5,.inl h6,h7⟩
   .exact h
  .exact h
 .rename_i t ty;split
  .rename_i x hL;obtain⟨z,g,hE,hH,hf,hz0,hg0⟩:=h;obtain⟨z',h1,h2⟩:=bB_ hH x.cs;refine⟨z',g,hE.le h1 (Ga.Le.refl g),?_,hf,hz0.trans h1,hg0⟩;unfold St.H at h2 ⊢;rw[ao_]at h2;exact h2
  .exact h
 .rename_i t ps;split
  .rename_i cs hL;obtain⟨z,g,hE,hH,hf,hz0,hg0⟩:=h;obtain⟨l,u,m,g',h1,h2,h3,h4,h5,_,_⟩:=dW_ (wantC objs ps) cs hH hf;rw[h1];refine⟨z,g',⟨hE.size,hE.defers,λt' x hx => ?_⟩,?_,h3,hz0,hg0.trans h2⟩
   .have hx':(if t'=t then some (SV.v (.agg l))else s.L b t')=some x:=by rw[←hx];exact(St.L_cons (s:={ s with heap:=u++s.heap,nx:=m })).symm
    split at hx'
    .rename_i ht;subst ht;obtain rfl:=qSj hx';obtain⟨v,k1,k2⟩:=hE.get _ _ hL;obtain⟨vs,k3,k4⟩:=k2;exact⟨v,k1,vs,k3,h5 z g' vs (Ga.Le.refl g') (k4.mono λ_ _ h=>RC.le h (Fz.Le.refl z) h2)⟩
    .obtain⟨v,k1,k2⟩:=hE.get _ _ hx';exact⟨v,k1,k2.le (Fz.Le.refl z) h2⟩
   .unfold St.H at h4 ⊢;rw[ao_]at h4;exact h4
  .exact h
 .exact h
theorem prepL_ok{F0:Org}{b:Ba E}{objs:List (Nat×Bool×OP)}{a:Act}:∀{l:List (Nat×VP)} {s:St E},Rel P E Bs F0 w0 N (s.L b) (s.H b) s.nx a w->Rel P E Bs F0 w0 N ((e3_ b objs l s).L b) ((e3_ b objs l s).H b) (e3_ b objs l s).nx a w
 | [],_,h=>h
 | p::l,s,h=>prepL_ok (l:=l) (s:=prepS b s objs p) (prepS_ok h)
theorem frzC_ok{F0:Org}{b:Ba E}{s:St E}{a:Act}(cs:List (SC E))(h:Rel P E Bs F0 w0 N (s.L b) (s.H b) s.nx a w):Rel P E Bs F0 w0 N ((frzC b s cs).L b) ((frzC b s cs).H b) (frzC b s cs).nx a w:=by
 obtain⟨z,g,hE,hH,hf,hz0,hg0⟩:=h;obtain⟨z',h1,h2⟩:=bB_ hH cs;refine⟨z',g,hE.le h1 (Ga.Le.refl g),?_,hf,hz0.trans h1,hg0⟩;unfold frzC;unfold St.H at h2 ⊢;rw[ao_]at h2;exact h2
theorem frzS_ok{F0:Org}{b:Ba E}{a:Act}:∀{l:List (Nat×VP)} {s:St E},Rel P E Bs F0 w0 N (s.L b) (s.H b) s.nx a w->Rel P E Bs F0 w0 N ((frzS b l s).L b) ((frzS b l s).H b) (frzS b l s).nx a w
 | [],_,h=>h
 | p::l,s,h=>by
  refine frzS_ok (l:=l) (s:=frzS1 b s p) ?_;unfold frzS1;split
  .split
   .exact frzC_ok _ h
   .exact h
  .exact h
theorem frzOs_ok{F0:Org}{b:Ba E}{a:Act}:∀{l:List (Nat×Bool×OP)} {s:St E},Rel P E Bs F0 w0 N (s.L b) (s.H b) s.nx a w->Rel P E Bs F0 w0 N ((frzOs b l s).L b) ((frzOs b l s).H b) (frzOs b l s).nx a w
 | [],_,h=>h
 | p::l,s,h=>by
  refine frzOs_ok (l:=l) (s:=frzO1 b s p) ?_;unfold frzO1;split
  .split
   .exact frzC_ok _ h
   .exact h
  .split
   .exact frzC_ok _ h
   .exact h
  .exact h
theorem prepO1_ok{F0:Org}{b:Ba E}{s:St E}{objs:List (Nat×Bool×OP)}{p:Nat×Bool×OP}{a:Act}(h:Rel P E Bs F0 w0 N (s.L b) (s.H b) s.nx a w):Rel P E Bs F0 w0 N ((hO_ b objs s p).L b) ((hO_ b objs s p).H b) (hO_ b objs s p).nx a w:=by
 unfold hO_;split
 .rename_i j T' ps;split
  .rename_i T cs hi;obtain⟨z,g,hE,hH,hf,hz0,hg0⟩:=h;obtain⟨l,u,m,g',h1,h2,h3,h4,h5,h6,h7⟩:=dW_ (wantC objs ps) cs hH hf;rw[h1];obtain⟨lo,hl⟩:=(hH.hold _ _ hi).loc;have hj:j<s.nx:=by
    rcases Nat.lt_or_ge j s.nx with h8|h8
    .exact h8
    .rw[hf j h8]at hl;cases hl
   have hju:upH (s.H b) u j=some (.box T cs):=(upH_far (λi o h=>(h6 i o h).1) hj).trans hi;have h8:=h4.up (Ga.Le.refl g') hju (o2 := .box T l) (λz w ho=>by
    obtain⟨lo',vs,k1,k2,k3⟩:=ho;exact⟨lo',vs,k1,k2,h5 z g' vs (Ga.Le.refl g') k3⟩) (λk=>Iff.rfl)
   refine⟨z,g',⟨hE.size,hE.defers,λt' x hx => ?_⟩,?_,h3,hz0,hg0.trans h2⟩
   .obtain⟨v,k1,k2⟩:=hE.get t' x hx;exact⟨v,k1,k2.le (Fz.Le.refl z) h2⟩
   .unfold St.H at h8 ⊢;rw[ao_,ao_]at h8;exact h8
  .exact h
 .exact h
theorem prepO_ok{F0:Org}{b:Ba E}{objs:List (Nat×Bool×OP)}{a:Act}:∀{l:List (Nat×Bool×OP)} {s:St E},Rel P E Bs F0 w0 N (s.L b) (s.H b) s.nx a w->Rel P E Bs F0 w0 N ((e4_ b objs l s).L b) ((e4_ b objs l s).H b) (e4_ b objs l s).nx a w
 | [],_,h=>h
 | p::l,s,h=>prepO_ok (l:=l) (s:=hO_ b objs s p) (prepO1_ok h)
theorem prepLO_ok{F0:Org}{b:Ba E}{objs l2:List (Nat×Bool×OP)}{a:Act}{l:List (Nat×VP)}{s:St E}(h:Rel P E Bs F0 w0 N (s.L b) (s.H b) s.nx a w):Rel P E Bs F0 w0 N ((e4_ b objs l2 (e3_ b objs l s)).L b) ((e4_ b objs l2 (e3_ b objs l s)).H b) (e4_ b objs l2 (e3_ b objs l s)).nx a w :=
 prepO_ok (prepL_ok h)
theorem prepRs_ok{z:Fz}:∀(rs:Rs) (xs:List (V1 E)) {n:Nat} {g:Ga} {H:Nat->Option (Obj E)},HR P E Bs F0 w0 w z g H->Fresh g n ->
  ∃xs' u n' g',(∀{α:Type} (k:List (V1 E)->Chs E->Nat->α),prepRs E rs xs n k=k xs' u n')/\g.Le g'/\Fresh g' n'/\HR P E Bs F0 w0 w z g' (upH H u)/\(∀z g2 vs,g'.Le g2->All2 (R1 P E z g2) xs vs->All2 (R1 P E z g2) xs' vs)/\(∀i o,(i,o)∈u->n<=i)/\n<=n'
 | [],xs,n,g,H,hH,hf=>⟨xs,[],n,g,(λk=>by cases xs<;>rfl),Ga.Le.refl g,hf,hH,(λ_ _ _ _ h=>h),(λ_ _ h=>nomatch h),Nat.le_refl _⟩
 | p::rs,[],n,g,H,hH,hf=>⟨[],[],n,g,(λk=>rfl),Ga.Le.refl g,hf,hH,(λ_ _ _ _ h=>h),(λ_ _ h=>nomatch h),Nat.le_refl _⟩
 | (t,m)::rs,x::xs,n,g,H,hH,hf=>by
  obtain⟨x',u,n1,g1,h1,h2,h3,h4,h5,h6,h7,_⟩:=prepV_ok t m x hH hf;obtain⟨xs',u',n2,g2,k1,k2,k3,k4,k5,k6,k7⟩:=prepRs_ok rs xs h4 h3;refine⟨x'::xs',u'++u,n2,g2,(λk => ?_),h2.trans k2,k3,by rw[←ao_];exact k4,(λz g3 vs hg hv => ?_),(λi o ho => ?_),by omega⟩
  .simp only[prepRs];exact(h1 _).trans (k1 _)
  .cases hv with
   | cons hx hr=>exact .cons (h5 z g3 _ (k2.trans hg) hx) (k5 z g3 _ hg hr)
  .rcases List.mem_append.1 ho with ho|ho
   .have:=k6 i o ho;omega
   .exact(h6 i o ho).1
end
section
variable{P:Program}{E:TE}{w w0:World}{Bs:List Nat}{F0:Org}{N:Nat}
theorem de_{α:Type}{t:Nat}{v:α}:∀{l:List (Nat×α)},an_ t l=some v->(t,v)∈l
 | [],h=>by cases h
 | (u,x)::l,h=>by
  simp only[an_]at h;split at h
  .rename_i hb;obtain rfl:=qNb hb;obtain rfl:=qSj h;exact List.mem_cons_self ..
  .exact List.mem_cons_of_mem _ (de_ h)
theorem jX_{α:Type}{t:Nat}{K:List Nat}:∀{l:List (Nat×α)},an_ t (filtK K l)=match al_ t K with|true=>an_ t l|false=>none
 | []=>by cases al_ t K<;>rfl
 | (u,x)::l=>by
  have ih:=jX_ (t:=t) (K:=K) (l:=l);unfold filtK at ih ⊢;simp only[List.filter_cons];cases hb:Nat.beq t u with
  | true =>
   obtain rfl:=qNb hb;cases hm:al_ t K with
   | true =>
    simp only[if_true,an_];have:Nat.beq t t=true:=by simp
    rw[this]
   | false =>
    rw[hm]at ih;simp only[Bool.false_eq_true,if_false];exact ih
  | false =>
   have:an_ t ((u,x)::l)=an_ t l:=by simp only[an_,hb]
   rw[this];split
   .simp only[an_,hb];exact ih
   .exact ih
theorem k5_{K:List Nat}{vis:Option (List Nat)}{t:Nat}:seen (some (K.filter (seen vis))) t=(al_ t K&&seen vis t):=by
 show al_ t (K.filter (seen vis))=_
 induction K with
 | nil=>rfl
 | cons u K ih =>
  simp only[List.filter_cons,al_];cases hb:Nat.beq t u with
  | true =>
   obtain rfl:=qNb hb;cases hs:seen vis t with
   | true=>simp[al_]
   | false =>
    rw[hs,Bool.and_false]at ih;simp[ih]
  | false =>
   cases hs:seen vis u with
   | true=>simp[al_,hb,ih]
   | false=>simp[ih]
theorem goS_L{j:JP}{b:Ba E}{s:St E}{env:List (Nat×Option (SV E))}{u:Chs E}{t:Nat}{x:SV E}(h:(j.goS s env u).L b t=some x):an_ t env=some (some x)\/(al_ t j.keep=true/\s.L b t=some x):=by
 unfold JP.goS St.L at h;simp only[dF_,jX_,k5_]at h;cases he:an_ t env with
 | some v=>rw[he]at h;simp only at h;subst h;exact .inl rfl
 | none =>
  rw[he]at h;cases hm:al_ t j.keep with
  | false=>rw[hm]at h;simp at h
  | true =>
   rw[hm]at h;refine .inr ⟨rfl,?_⟩;unfold St.L;simpa using h
theorem goS_H{j:JP}{b:Ba E}{s:St E}{env:List (Nat×Option (SV E))}{u:Chs E}{i:Nat}{o:Obj E}(h:(j.goS s env u).H b i=some o):(i,some o)∈u\/(al_ i j.hkeep=true/\s.H b i=some o):=by
 unfold JP.goS St.H at h;simp only[eQ_,dF_,jX_,k5_]at h;cases he:an_ i u with
 | some v=>rw[he]at h;simp only at h;subst h;exact .inl (de_ he)
 | none =>
  rw[he]at h;cases hm:al_ i j.hkeep with
  | false=>rw[hm]at h;simp at h
  | true =>
   rw[hm]at h;refine .inr ⟨rfl,?_⟩;unfold St.H;rw[eQ_];simpa using h
theorem JP.mt_some{j:JP}{b:Ba E}{s0:St E}{h:HL E.S j.T}(e:j.mt b s0=some h):∃s bs1 bs h1 h2,s=e4_ b j.objs j.objs (e3_ b j.objs j.slots (frzOs b j.objs (frzS b j.slots s0)))/\c4_ (s.L b) j.slots []=some bs1/\eq_ (s.H b) j.objs bs1=some bs /\
  j.mtB b.lo s bs=true/\focOK (s.H b) bs j.keep j.gkeep j.objs=true/\leafS (s.L b) (s.H b) j.slots=some h1/\gb_ (s.H b) bs j.objs=some h2/\h=hap h1 h2:=by
 unfold JP.mt at e;generalize hs:e4_ b j.objs j.objs (e3_ b j.objs j.slots (frzOs b j.objs (frzS b j.slots s0)))=s at e;simp only at e;cases hb1:c4_ (s.L b) j.slots []with
 | none=>rw[hb1]at e;cases e
 | some bs1 =>
  rw[hb1]at e;simp only at e;cases hb2:eq_ (s.H b) j.objs bs1 with
  | none=>rw[hb2]at e;cases e
  | some bs =>
   rw[hb2]at e;obtain⟨h1,h2⟩:=br_ e;obtain⟨a1,a2,h3,h4,h5⟩:=jQ_ h2;simp only[qAn]at h1;exact⟨s,bs1,bs,a1,a2,rfl,hb1,hb2,h1.1,h1.2,h3,h4,h5⟩
theorem mZ_{α:Type}{i:Nat}{l:List (Nat×α)}(h:noKey i l=true):an_ i l=none:=by
 unfold noKey at h;split at h
 .assumption
 .cases h
theorem bd_one{bs:Bd}(h:nodupB (bs.map (·.2))=true){i j id:Nat}(hi:an_ i bs=some id)(hj:an_ j bs=some id):i=j:=by
 obtain⟨n,hn⟩:=List.getElem?_of_mem (de_ hi);obtain⟨m,hm⟩:=List.getElem?_of_mem (de_ hj);have h1:(bs.map (·.2))[n]? = some id:=by rw[List.getElem?_map,hn];rfl
 have h2:(bs.map (·.2))[m]? = some id:=by rw[List.getElem?_map,hm];rfl
 have:=jK_ h h1 h2;subst this;rw[hn]at hm;have:=qSj hm;exact congrArg Prod.fst this
def e6_(g:Ga)(lo:Nat)(K:List Nat)(bs:Bd):Ga:=λi=>match al_ i K||Nat.blt i lo with
 | true=>g i
 | false=>match an_ i bs with
  | some id=>g id
  | none=>none
theorem JP.ok {j:JP} {b:Ba E} {s s0:St E} {h:HL E.S j.T} {a:Act} {R:Type} {k:St E->Option R} {r:R} (hlo:Fresh F0.g b.lo) (hm:j.mt (s.base b) s0=some h) (hR:Rel P E Bs F0 w0 N (s0.L (s.base b)) (s0.H (s.base b)) s0.nx a w) (hg:j.go b s h k=some r) :
  ∃s',k s'=some r/\Rel P E Bs F0 w0 N (s'.L b) (s'.H b) s'.nx a w:=by
 obtain⟨s1,bs1,bs,h1,h2,hs1,hb1,hb2,hB,hfoc,hl1,hl2,rfl⟩:=JP.mt_some hm;have hR1:=prepLO_ok (objs:=j.objs) (l2:=j.objs) (l:=j.slots) (frzOs_ok (l:=j.objs) (frzS_ok (l:=j.slots) hR));rw[←hs1]at hR1;obtain⟨z,g,hE,hH,hf,hz0,hg0⟩:=hR1;unfold JP.mtB at hB;simp only[qAn]at hB;obtain⟨⟨⟨hlx,hself⟩,hk1⟩,hk2,hnd,hd1,hd2,hn1,hn2⟩:=hB;unfold JP.go at hg;rw[gc_]at hg;cases hns:newS j.slots h1 with
 | none=>rw[hns]at hg;cases hg
 | some env =>
  rw[hns]at hg;simp only at hg;obtain⟨hgo,hg⟩:=br_ hg;rw[gd_]at hg;unfold JP.goB at hgo;simp only[qAn]at hgo;obtain⟨ho1,ho2⟩:=hgo
  -- the new places
  have keyIn:∀i id,an_ i bs=some id->al_ i (j.hkeep++j.gkeep)=false:=λi id e=>disj_mem hd2 (List.mem_map.2 ⟨_,de_ e,rfl⟩)
  have hbound:Bound g (e6_ g b.lo (j.hkeep++j.gkeep) bs) bs:=λi id e=>by
   unfold e6_;rw[keyIn i id e,Bool.false_or];split
   .rename_i hb;have h9:=List.all_eq_true.1 hself _ (de_ e);simp only[Bool.or_eq_true]at h9;rcases h9 with h9|h9
    .have h10:=Nat.le_of_ble_eq_true h9;have h11:i<b.lo:=by simpa using hb
     have:b.lo<=i:=h10;omega
    .rw[qNb h9]
   .rw[e]
  have hkeepG:∀i,al_ i (j.hkeep++j.gkeep)=true->e6_ g b.lo (j.hkeep++j.gkeep) bs i=g i:=λi e=>by
   unfold e6_;rw[e,Bool.true_or]
  have hgk:∀i,al_ i j.gkeep=true->e6_ g b.lo (j.hkeep++j.gkeep) bs i=g i:=λi e=>hkeepG i (by rw[cp_,e,Bool.or_true])
  have hhk:∀i,al_ i j.hkeep=true->e6_ g b.lo (j.hkeep++j.gkeep) bs i=g i:=λi e=>hkeepG i (by rw[cp_,e,Bool.true_or])
  have hA:∀i,al_ i (j.hkeep++(j.gkeep++selfs j.objs))=true->e6_ g b.lo (j.hkeep++j.gkeep) bs i=g i:=λi e=>by
   rw[cp_,cp_]at e;simp only[Bool.or_eq_true]at e;rcases e with e|e|e
   .exact hhk i e
   .exact hgk i e
   .exact hbound i i ((iG_ hb2).2 i (memN_true.1 e))
  have keepL:∀t,al_ t j.keep=true->s1.L (s.base b) t=s.L b t:=λt ht=>by
   have:=List.all_eq_true.1 hk1 t (memN_true.1 ht);simp only[qAn]at this;unfold St.L;rw[mZ_ this.1,this.2];rfl
  have keepH:∀i,al_ i j.hkeep=true->s1.H (s.base b) i=s.H b i:=λi hi=>by
   have:=List.all_eq_true.1 hk2 i (memN_true.1 hi);simp only[qAn]at this;unfold St.H;rw[eQ_,mZ_ this.1,this.2];rfl
  obtain⟨u,hu,hobj⟩:=objs_meet hH hbound hgk (L:=s.L b) (keep:=j.keep) (λsl id q i off hsl hL=>by
   rw[←keepL sl hsl]at hL;obtain⟨v,_,hv⟩:=hE.get sl _ hL;obtain⟨l,h3,h4,_⟩:=hv;exact⟨l,h3,h4⟩) j.objs bs1 bs h2 _ hb2 (Bd.Le.refl bs) hl2 hfoc hg
  refine⟨_,hu,z,e6_ g b.lo (j.hkeep++j.gkeep) bs,⟨hE.size,hE.defers,λt x hx => ?_⟩,?_,λi hi => ?_,hz0,λi l hl => ?_⟩
  .rcases goS_L hx with hx|⟨hk,hx⟩
   .obtain⟨sv,s2,h3,h4,h5⟩:=slots_meet hH hbound j.slots [] bs1 h1 env hb1 (iG_ hb2).1 hl1 hns t _ hx;obtain rfl:=qSj h3;obtain⟨v,h6,h7⟩:=hE.get t _ h4;exact⟨v,h6,h5 v h7⟩
   .have hx':=hx;rw[←keepL t hk]at hx';obtain⟨v,h6,h7⟩:=hE.get t _ hx';have h8:=List.all_eq_true.1 ho1 t (memN_true.1 hk);rw[hx]at h8;exact⟨v,h6,h7.same hA h8⟩
  .refine hH.remap (λi=>match al_ i j.hkeep with|true=>i|false=>(an_ i bs).getD i) (λi i' o o' e e' hff => ?_) λi o' e => ?_
   .have kind:∀i o,(j.goS s env u).H b i=some o->al_ i j.hkeep=true\/(al_ i j.hkeep=false/\∃id,an_ i bs=some id):=λi o e=>by
     rcases goS_H e with e|⟨e,_⟩
     .obtain⟨id,_,_,h3,_⟩:=hobj i _ e;have:=keyIn i id h3;rw[cp_,Bool.or_eq_false_iff]at this;exact .inr ⟨this.1,id,h3⟩
     .exact .inl e
    have far:∀i id,an_ i bs=some id->al_ id j.hkeep=false:=λi id e=>disj_mem hd1 (List.mem_map.2 ⟨_,de_ e,rfl⟩)
    rcases kind i o e with h3|⟨h3,id,h4⟩<;>rcases kind i' o' e' with h3'|⟨h3',id',h4'⟩
    .simpa[h3,h3']using hff
    .simp only[h3,h3',h4',Option.getD_some]at hff;subst hff;rw[far i' _ h4']at h3;cases h3
    .simp only[h3,h3',h4,Option.getD_some]at hff;subst hff;rw[far i _ h4]at h3';cases h3'
    .simp only[h3,h3',h4,h4',Option.getD_some]at hff;subst hff;exact bd_one hnd h4 h4'
   .rcases goS_H e with e|⟨hk,e⟩
    .obtain⟨id,o,p,h3,h4,h5,h6,h7⟩:=hobj i _ e;obtain rfl:=qSj h5;have:=keyIn i id h3;rw[cp_,Bool.or_eq_false_iff]at this;simp only[this.1,h3,Option.getD_some];exact⟨o,h4,h6 (hH.hold _ _ h4),h7⟩
    .simp only[hk];have e2:=e;rw[←keepH i hk]at e2;have h8:=List.all_eq_true.1 ho2 i (memN_true.1 hk);rw[e]at h8;exact⟨o',e2,(hH.hold _ _ e2).same hA (hhk i hk) h8,λq hq=>(fpO_same (hhk i hk)).1 hq⟩
  .have hi' : j.nx<=i:=hi;unfold e6_;have hble:b.lo<=i:=Nat.le_trans (Nat.le_of_ble_eq_true hlx) hi';have hblt:Nat.blt i b.lo=false:=by
    cases hb:Nat.blt i b.lo with
    | false=>rfl
    | true => have:i<b.lo:=by simpa using hb
              omega
   rw[hblt,Bool.or_false];cases hmem:al_ i (j.hkeep++j.gkeep)with
   | true =>
    have:=List.all_eq_true.1 hn2 i (memN_true.1 hmem);have:i<j.nx:=by simpa using this
    omega
   | false =>
    cases hag:an_ i bs with
    | none=>rfl
    | some id =>
     have:=List.all_eq_true.1 hn1 _ (de_ hag);have:i<j.nx:=by simpa using this
     omega
  .have hblt:Nat.blt i b.lo=true:=by
    rcases Nat.lt_or_ge i b.lo with h9|h9
    .simpa using h9
    .rw[hlo i h9]at hl;cases hl
   unfold e6_;rw[hblt,Bool.or_true];exact hg0 i l hl
end
section
variable{P:Program}{E:TE}{eqs:List (Nat×Nat)}{tab:Tab E}{N:Nat}{Bs:List Nat}{F0:Org}{w0:World}{RT:Type}{rv:Ba E->St E->Option RT}{Qr:RT->Act->World->Prop}
def ff_:Option Nat->Exit|none => .normal|some 0 => .ret|some (i+1) => .exit i
def cy_(P:Program)(E:TE)(eqs:List (Nat×Nat))(tab:Tab E)(N:Nat)(Bs:List Nat)(F0:Org)(w0:World)(RT:Type)(rv:Ba E->St E->Option RT)(Qr:RT->Act->World->Prop)(c:Code):Prop :=
 ∀(pl:Pl) (R:Type) (b:Ba E) (s:St E) (k:Option Nat->St E->Option R) (kr:RT->Option R) (r:R) (a:Act) (w:World) (Q:Exit->Act->World->Prop),
  Fresh F0.g b.lo->evCode P E eqs tab N RT rv c pl R b s k kr=some r->Rel P E Bs F0 w0 N (s.L b) (s.H b) s.nx a w ->
  (∀ex s' a' w',k ex s'=some r->Rel P E Bs F0 w0 N (s'.L b) (s'.H b) s'.nx a' w'->Q (ff_ ex) a' w') ->
  (∀y a' w',kr y=some r->Qr y a' w'->Q .ret a' w')->c.wp P Q a w
theorem cJ_{x y:Code}{pl pl':Pl}{R:Type}{b:Ba E}{s:St E}{k:Option Nat->St E->Option R}{kr:RT->Option R}{r:R}{a:Act}{w:World}{Q:Exit->Act->World->Prop}
  (hlo:Fresh F0.g b.lo) (hx:cy_ P E eqs tab N Bs F0 w0 RT rv Qr x) (hy:cy_ P E eqs tab N Bs F0 w0 RT rv Qr y)
  (h:evCode P E eqs tab N RT rv x pl R b s (λex s'=>match ex with
   | none=>evCode P E eqs tab N RT rv y pl' R b s' k kr
   | some i=>k (some i) s') kr=some r) (hR:Rel P E Bs F0 w0 N (s.L b) (s.H b) s.nx a w)
  (hk:∀ex s' a' w',k ex s'=some r->Rel P E Bs F0 w0 N (s'.L b) (s'.H b) s'.nx a' w'->Q (ff_ ex) a' w') (hkr:∀y a' w',kr y=some r->Qr y a' w'->Q .ret a' w'):(Code.seq x y).wp P Q a w:=by
 refine s_join (λa' w'=>y.wp P Q a' w') (λ_ _ h=>h) (hx pl R b s _ kr r a w _ hlo h hR (λex s' a' w' he hR' => ?_) λy' a' w' he hq=>hkr y' a' w' he hq);cases ex with
 | none=>exact hy pl' R b s' k kr r a' w' Q hlo he hR' hk hkr
 | some i=>cases i<;>exact hk (some _) s' a' w' he hR'
theorem blockPlain{id:Nat}{x:Code}{pl:Pl}{R:Type}{b:Ba E}{s:St E}{k:Option Nat->St E->Option R}{kr:RT->Option R}{r:R}{a:Act}{w:World}{Q:Exit->Act->World->Prop}
  (hlo:Fresh F0.g b.lo) (hx:cy_ P E eqs tab N Bs F0 w0 RT rv Qr x)
  (h:evCode P E eqs tab N RT rv x pl R b s (λex s'=>match ex with
   | none=>k none s'
   | some i=>match Nat.beq i (id+1)with
    | true=>k none s'
    | false=>k (some i) s') kr=some r) (hR:Rel P E Bs F0 w0 N (s.L b) (s.H b) s.nx a w)
  (hk:∀ex s' a' w',k ex s'=some r->Rel P E Bs F0 w0 N (s'.L b) (s'.H b) s'.nx a' w'->Q (ff_ ex) a' w') (hkr:∀y a' w',kr y=some r->Qr y a' w'->Q .ret a' w'):(Code.block id x).wp P Q a w:=by
 refine wp_block (hx pl R b s _ kr r a w _ hlo h hR (λex s' a' w' he hR' => ?_) λy' a' w' he hq=>hkr y' a' w' he hq);cases ex with
 | none=>exact hk none s' a' w' he hR'
 | some i =>
  simp only at he;cases i with
  | zero=>exact hk (some 0) s' a' w' he hR'
  | succ i =>
   show if i=id then Q .normal a' w' else Q (.exit i) a' w'
   split at he
   .rename_i hb;rw[if_pos (Nat.succ.inj (qNb hb))];exact hk none s' a' w' he hR'
   .rename_i hb;rw[if_neg (λe=>bf_ hb (congrArg (· + 1) e))];exact hk (some (i+1)) s' a' w' he hR'
theorem seqJoin{x y:Code}{m:JP}{px py:Pl}{R:Type}{b:Ba E}{s:St E}{k:Option Nat->St E->Option R}{kr:RT->Option R}{r:R}{a:Act}{w:World}{Q:Exit->Act->World->Prop}
  (hlo:Fresh F0.g b.lo) (hx:cy_ P E eqs tab N Bs F0 w0 RT rv Qr x) (hy:cy_ P E eqs tab N Bs F0 w0 RT rv Qr y)
  (h:Option.bind (evCode P E eqs tab N RT rv x px (Tp E.S m.T) (s.base b) (St.new s.nx) (λex s'=>match ex with
    | none=>(match m.mt (s.base b) s' with|some h=>some (aV_ m.T h)|none=>none)
    | some _=>none) (λ_=>none)) (λo=>m.go b s (aK_ m.T o) λs'=>evCode P E eqs tab N RT rv y py R b s' k kr)=some r) (hR:Rel P E Bs F0 w0 N (s.L b) (s.H b) s.nx a w)
  (hk:∀ex s' a' w',k ex s'=some r->Rel P E Bs F0 w0 N (s'.L b) (s'.H b) s'.nx a' w'->Q (ff_ ex) a' w') (hkr:∀y a' w',kr y=some r->Qr y a' w'->Q .ret a' w'):(Code.seq x y).wp P Q a w:=by
 obtain⟨o,h1,h2⟩:=bind_some h;refine s_join (λa' w'=>∃s',evCode P E eqs tab N RT rv y py R b s' k kr=some r/\Rel P E Bs F0 w0 N (s'.L b) (s'.H b) s'.nx a' w') (λa' w' ⟨s',h3,h4⟩=>hy py R b s' k kr r a' w' Q hlo h3 h4 hk hkr)
  (hx px _ (s.base b) (St.new s.nx) _ _ o a w _ hlo h1 hR (λex s' a' w' he hR' => ?_) λy' a' w' he _=>nomatch he)
 cases ex with
 | none =>
  simp only at he;split at he
  .rename_i hh hm;obtain rfl:=qSj he;rw[bv_]at h2;exact JP.ok hlo hm hR' h2
  .cases he
 | some i=>cases he
theorem seqJoinR{x y:Code}{m:JP}{px py:Pl}{R:Type}{b:Ba E}{s:St E}{k:Option Nat->St E->Option R}{kr:RT->Option R}{r:R}{a:Act}{w:World}{Q:Exit->Act->World->Prop}
  (hlo:Fresh F0.g b.lo) (hx:cy_ P E eqs tab N Bs F0 w0 RT rv Qr x) (hy:cy_ P E eqs tab N Bs F0 w0 RT rv Qr y)
  (h : Option.bind (evCode P E eqs tab N RT rv x px (Out (Tp E.S m.T) RT) (s.base b) (St.new s.nx) (λex s'=>match ex with
    | none=>(match m.mt (s.base b) s' with|some h=>some (.fall (aV_ m.T h))|none=>none)
    | some _=>none) (λr=>some (.ret r))) (λo=>match o with
     | .ret r=>kr r
     | .fall o=>m.go b s (aK_ m.T o) λs'=>evCode P E eqs tab N RT rv y py R b s' k kr)=some r) (hR:Rel P E Bs F0 w0 N (s.L b) (s.H b) s.nx a w)
  (hk:∀ex s' a' w',k ex s'=some r->Rel P E Bs F0 w0 N (s'.L b) (s'.H b) s'.nx a' w'->Q (ff_ ex) a' w') (hkr:∀y a' w',kr y=some r->Qr y a' w'->Q .ret a' w'):(Code.seq x y).wp P Q a w:=by
 obtain⟨o,h1,h2⟩:=bind_some h;refine s_join (λa' w'=>∃s',evCode P E eqs tab N RT rv y py R b s' k kr=some r/\Rel P E Bs F0 w0 N (s'.L b) (s'.H b) s'.nx a' w') (λa' w' ⟨s',h3,h4⟩=>hy py R b s' k kr r a' w' Q hlo h3 h4 hk hkr)
  (hx px _ (s.base b) (St.new s.nx) _ _ o a w _ hlo h1 hR (λex s' a' w' he hR' => ?_) λy' a' w' he hq => ?_)
 .cases ex with
  | none =>
   simp only at he;split at he
   .rename_i hh hm;obtain rfl:=qSj he;simp only at h2;rw[bv_]at h2;exact JP.ok hlo hm hR' h2
   .cases he
  | some i=>cases he
 .obtain rfl:=qSj he;exact hkr y' a' w' h2 hq
theorem loopPlain{id:Nat}{body:Code}{hd ex:JP}{pb:Pl}{R:Type}{b:Ba E}{s:St E}{k:Option Nat->St E->Option R}{h0:HL E.S hd.T}{r:R}{a:Act}{w:World}{Q:Exit->Act->World->Prop}
  (hlo:Fresh F0.g b.lo) (hx:cy_ P E eqs tab N Bs F0 w0 RT rv Qr body) (hm:hd.mt (s.base b) (St.new s.nx)=some h0)
  (h : Option.bind (ag_ (λtp=>hd.go (s.base b) (St.new s.nx) (aK_ hd.T tp) λs1=>evCode P E eqs tab N RT rv body pb (Step (Tp E.S hd.T) (Tp E.S ex.T)) (s.base b) s1 (λe s'=>match e with
      | none=>(match hd.mt (s.base b) s' with|some h=>some (.next (aV_ hd.T h))|none=>none)
      | some i=>match Nat.beq i (id+1)with
       | true=>(match ex.mt (s.base b) s' with|some h=>some (.done (aV_ ex.T h))|none=>none)
       | false=>none) (λ_=>none)) BIG (aV_ hd.T h0)) (λo=>ex.go b s (aK_ ex.T o) λs'=>k none s')=some r) (hR:Rel P E Bs F0 w0 N (s.L b) (s.H b) s.nx a w)
  (hk:∀ex s' a' w',k ex s'=some r->Rel P E Bs F0 w0 N (s'.L b) (s'.H b) s'.nx a' w'->Q (ff_ ex) a' w'):(Code.block id (.loop body)).wp P Q a w:=by
 obtain⟨o,h1,h2⟩:=bind_some h;refine b_join (λa' w'=>∃s',k none s'=some r/\Rel P E Bs F0 w0 N (s'.L b) (s'.H b) s'.nx a' w') (λa' w' ⟨s',h3,h4⟩=>hk none s' a' w' h3 h4)
  (jx_ h1 (λtp a' w'=>∃s0 hh,hd.mt (s.base b) s0=some hh/\tp=aV_ hd.T hh/\Rel P E Bs F0 w0 N (s0.L (s.base b)) (s0.H (s.base b)) s0.nx a' w') ⟨_,_,hm,rfl,hR⟩ ?_)
 rintro tp a1 w1 ⟨s0,hh,h3,rfl,h4⟩ st hst hdone;rw[bv_]at hst;obtain⟨s1,h5,h6⟩:=JP.ok (b:=s.base b) (s:=St.new s.nx) hlo h3 h4 hst;refine hx pb _ (s.base b) s1 _ _ st a1 w1 _ hlo h5 h6 (λe s' a' w' he hR' => ?_) λy' a' w' he _=>nomatch he
 cases e with
 | none =>
  simp only at he;split at he
  .rename_i h7 hm7;exact⟨_,(qSj he).symm,s',h7,hm7,rfl,hR'⟩
  .cases he
 | some i =>
  simp only at he;split at he
  .rename_i hb;split at he
   .rename_i h7 hm7;have h8:=hdone _ (qSj he).symm;subst h8;rw[bv_]at h2;obtain rfl:=qNb hb;show if id=id then _ else _
    rw[if_pos rfl];exact JP.ok hlo hm7 hR' h2
   .cases he
  .cases he
theorem loopPlainR{id:Nat}{body:Code}{hd ex:JP}{pb:Pl}{R:Type}{b:Ba E}{s:St E}{k:Option Nat->St E->Option R}{kr:RT->Option R}{h0:HL E.S hd.T}{r:R}{a:Act}{w:World}{Q:Exit->Act->World->Prop}
  (hlo:Fresh F0.g b.lo) (hx:cy_ P E eqs tab N Bs F0 w0 RT rv Qr body) (hm:hd.mt (s.base b) (St.new s.nx)=some h0)
  (h : Option.bind (ag_ (λtp=>hd.go (s.base b) (St.new s.nx) (aK_ hd.T tp) λs1=>evCode P E eqs tab N RT rv body pb (Step (Tp E.S hd.T) (Out (Tp E.S ex.T) RT)) (s.base b) s1 (λe s'=>match e with
      | none=>(match hd.mt (s.base b) s' with|some h=>some (.next (aV_ hd.T h))|none=>none)
      | some i=>match Nat.beq i (id+1)with
       | true=>(match ex.mt (s.base b) s' with|some h=>some (.done (.fall (aV_ ex.T h)))|none=>none)
       | false=>none) (λr=>some (.done (.ret r)))) BIG (aV_ hd.T h0)) (λo=>match o with
     | .ret r=>kr r
     | .fall o=>ex.go b s (aK_ ex.T o) λs'=>k none s')=some r) (hR:Rel P E Bs F0 w0 N (s.L b) (s.H b) s.nx a w)
  (hk:∀ex s' a' w',k ex s'=some r->Rel P E Bs F0 w0 N (s'.L b) (s'.H b) s'.nx a' w'->Q (ff_ ex) a' w') (hkr:∀y a' w',kr y=some r->Qr y a' w'->Q .ret a' w'):(Code.block id (.loop body)).wp P Q a w:=by
 obtain⟨o,h1,h2⟩:=bind_some h;refine b_join (λa' w'=>∃s',k none s'=some r/\Rel P E Bs F0 w0 N (s'.L b) (s'.H b) s'.nx a' w') (λa' w' ⟨s',h3,h4⟩=>hk none s' a' w' h3 h4)
  (jx_ h1 (λtp a' w'=>∃s0 hh,hd.mt (s.base b) s0=some hh/\tp=aV_ hd.T hh/\Rel P E Bs F0 w0 N (s0.L (s.base b)) (s0.H (s.base b)) s0.nx a' w') ⟨_,_,hm,rfl,hR⟩ ?_)
 rintro tp a1 w1 ⟨s0,hh,h3,rfl,h4⟩ st hst hdone;rw[bv_]at hst;obtain⟨s1,h5,h6⟩:=JP.ok (b:=s.base b) (s:=St.new s.nx) hlo h3 h4 hst;refine hx pb _ (s.base b) s1 _ _ st a1 w1 _ hlo h5 h6 (λe s' a' w' he hR' => ?_) λy' a' w' he hq => ?_
 .cases e with
  | none =>
   simp only at he;split at he
   .rename_i h7 hm7;exact⟨_,(qSj he).symm,s',h7,hm7,rfl,hR'⟩
   .cases he
  | some i =>
   simp only at he;split at he
   .rename_i hb;split at he
    .rename_i h7 hm7;have h8:=hdone _ (qSj he).symm;subst h8;simp only at h2;rw[bv_]at h2;obtain rfl:=qNb hb;show if id=id then _ else _
     rw[if_pos rfl];exact JP.ok hlo hm7 hR' h2
    .cases he
   .cases he
 .have h8:=hdone _ (qSj he).symm;subst h8;exact hkr y' a' w' h2 hq
theorem loopPlainX {id:Nat} {body:Code} {hd ex rm:JP} {pb:Pl} {R:Type} {b:Ba E} {s:St E} {k:Option Nat->St E->Option R} {h0:HL E.S hd.T} {r:R} {a:Act} {w:World} {Q:Exit->Act->World->Prop}
  (hlo:Fresh F0.g b.lo) (hx:cy_ P E eqs tab N Bs F0 w0 RT rv Qr body) (hm:hd.mt (s.base b) (St.new s.nx)=some h0)
  (h : Option.bind (ag_ (λtp=>hd.go (s.base b) (St.new s.nx) (aK_ hd.T tp) λs1=>evCode P E eqs tab N RT rv body pb (Step (Tp E.S hd.T) (Out (Tp E.S ex.T) (Tp E.S rm.T))) (s.base b) s1 (λe s'=>match e with
      | none=>(match hd.mt (s.base b) s' with|some h=>some (.next (aV_ hd.T h))|none=>none)
      | some i=>match Nat.beq i (id+1)with
       | true=>(match ex.mt (s.base b) s' with|some h=>some (.done (.fall (aV_ ex.T h)))|none=>none)
       | false=>match Nat.beq i 0 with
        | true=>(match rm.mt (s.base b) s' with|some h=>some (.done (.ret (aV_ rm.T h)))|none=>none)
        | false=>none) (λ_=>none)) BIG (aV_ hd.T h0)) (λo=>match o with
     | .ret o=>rm.go b s (aK_ rm.T o) λs'=>k (some 0) s'
     | .fall o=>ex.go b s (aK_ ex.T o) λs'=>k none s')=some r) (hR:Rel P E Bs F0 w0 N (s.L b) (s.H b) s.nx a w)
  (hk:∀ex s' a' w',k ex s'=some r->Rel P E Bs F0 w0 N (s'.L b) (s'.H b) s'.nx a' w'->Q (ff_ ex) a' w'):(Code.block id (.loop body)).wp P Q a w:=by
 obtain⟨o,h1,h2⟩:=bind_some h;refine b_join (λa' w'=>∃s',k none s'=some r/\Rel P E Bs F0 w0 N (s'.L b) (s'.H b) s'.nx a' w') (λa' w' ⟨s',h3,h4⟩=>hk none s' a' w' h3 h4)
  (jx_ h1 (λtp a' w'=>∃s0 hh,hd.mt (s.base b) s0=some hh/\tp=aV_ hd.T hh/\Rel P E Bs F0 w0 N (s0.L (s.base b)) (s0.H (s.base b)) s0.nx a' w') ⟨_,_,hm,rfl,hR⟩ ?_)
 rintro tp a1 w1 ⟨s0,hh,h3,rfl,h4⟩ st hst hdone;rw[bv_]at hst;obtain⟨s1,h5,h6⟩:=JP.ok (b:=s.base b) (s:=St.new s.nx) hlo h3 h4 hst;refine hx pb _ (s.base b) s1 _ _ st a1 w1 _ hlo h5 h6 (λe s' a' w' he hR' => ?_) λy' a' w' he _=>nomatch he
 .cases e with
  | none =>
   simp only at he;split at he
   .rename_i h7 hm7;exact⟨_,(qSj he).symm,s',h7,hm7,rfl,hR'⟩
   .cases he
  | some i =>
   simp only at he;split at he
   .rename_i hb;split at he
    .rename_i h7 hm7;have h8:=hdone _ (qSj he).symm;subst h8;simp only at h2;rw[bv_]at h2;obtain rfl:=qNb hb;show if id=id then _ else _
     rw[if_pos rfl];exact JP.ok hlo hm7 hR' h2
    .cases he
   .split at he
    .rename_i hb0;obtain rfl:=qNb hb0;split at he
     .rename_i h7 hm7;have h8:=hdone _ (qSj he).symm;subst h8;simp only at h2;rw[bv_]at h2;obtain⟨s1,h9,h10⟩:=JP.ok hlo hm7 hR' h2;exact hk (some 0) s1 a' w' h9 h10
     .cases he
    .cases he
theorem evCode_both(heq:∀p∈eqs,ap_ P E p.1 p.2)(ht:tab.OK P E)(hrv:∀b s a w y,Rel P E Bs F0 w0 N (s.L b) (s.H b) s.nx a w->rv b s=some y->Qr y a w):∀(c:Code),cy_ P E eqs tab N Bs F0 w0 RT rv Qr c/\∀body,c = .loop body->cy_ P E eqs tab N Bs F0 w0 RT rv Qr body:=by
 intro c
 induction c with
 | skip =>
  refine⟨?_,λ_ e=>nomatch e⟩;intro pl R b s k kr r a w Q hlo h hR hk hkr;rw[evCode.eq_def]at h;exact wp_skip (hk none s a w h hR)
 | region id ops d =>
  refine⟨?_,λ_ e=>nomatch e⟩;intro pl R b s k kr r a w Q hlo h hR hk hkr;rw[evCode.eq_def]at h;cases d with
  | true =>
   cases pl with
   | dr fl hs fm ids =>
    have:=evDraw_ok (id:=id) (Q:=Q) heq ht h hR λs' a' w' h1 h2=>hk none s' a' w' h1 h2
    rw[Array.toArray_toList]at this;exact this
   | df fl hs p =>
    have:=evFloat_ok (id:=id) (Q:=Q) heq ht h hR λs' a' w' h1 h2=>hk none s' a' w' h1 h2
    rw[Array.toArray_toList]at this;exact this
   | ot p t =>
    have:=evOrd_ok (id:=id) (Q:=Q) heq ht h hR λs' a' w' h1 h2=>hk none s' a' w' h1 h2
    rw[Array.toArray_toList]at this;exact this
   | sq p =>
    have:=evChain_ok (id:=id) (Q:=Q) heq ht h hR λs' a' w' h1 h2=>hk none s' a' w' h1 h2
    rw[Array.toArray_toList]at this;exact this
   | _=>cases h
  | false =>
   have old:evReg P E eqs tab N ops.toList b s (k none)=some r->(Code.region id ops false).wp P Q a w:=λh=>by
    have:=evReg_ok (id:=id) (Q:=Q) heq ht h hR λs' a' w' h1 h2=>hk none s' a' w' h1 h2
    rw[Array.toArray_toList]at this;exact this
   cases pl with
   | ot p t =>
    have:=evLin_ok (id:=id) (Q:=Q) heq ht h hR λs' a' w' h1 h2=>hk none s' a' w' h1 h2
    rw[Array.toArray_toList]at this;exact this
   | _=>exact old h
 | seq x y hx hy =>
  refine⟨?_,λ_ e=>nomatch e⟩;obtain⟨hx,_⟩:=hx;obtain⟨hy,_⟩:=hy;intro pl R b s k kr r a w Q hlo h hR hk hkr;cases pl with
  | j m ret px py =>
   cases ret with
   | false=>exact seqJoin hlo hx hy h hR hk hkr
   | true=>exact seqJoinR hlo hx hy h hR hk hkr
  | p=>exact cJ_ hlo hx hy h hR hk hkr
  | s px py=>exact cJ_ hlo hx hy h hR hk hkr
  | lp hd ex ret px=>exact cJ_ hlo hx hy h hR hk hkr
  | dr fl hs fm ids=>exact cJ_ hlo hx hy h hR hk hkr
  | df fl hs p=>exact cJ_ hlo hx hy h hR hk hkr
  | ot p t=>exact cJ_ hlo hx hy h hR hk hkr
  | sq p=>exact cJ_ hlo hx hy h hR hk hkr
  | lx hd ex rm px=>exact cJ_ hlo hx hy h hR hk hkr
  | rx=>exact cJ_ hlo hx hy h hR hk hkr
 | cond t x y hx hy =>
  refine⟨?_,λ_ e=>nomatch e⟩;obtain⟨hx,_⟩:=hx;obtain⟨hy,_⟩:=hy;intro pl R b s k kr r a w Q hlo h hR hk hkr;rw[evCode.eq_def]at h;simp only at h;split at h
  .rename_i c hc;have hv:a.eval t = .bool c:=by
    obtain⟨z,g,hE,hH0,_⟩:=hR;exact SV.bool_ok rfl (hE.op hH0.gl _ _ hc)
   refine wp_cond hv ?_;cases c with
   | true=>exact hx _ R b s k kr r a w Q hlo h hR hk hkr
   | false=>exact hy _ R b s k kr r a w Q hlo h hR hk hkr
  .cases h
 | block id x hx =>
  refine⟨?_,λ_ e=>nomatch e⟩;obtain⟨hx,hl⟩:=hx;intro pl R b s k kr r a w Q hlo h hR hk hkr;have plain:evCode P E eqs tab N RT rv x pl R b s (λex s'=>match ex with
   | none=>k none s'
   | some i=>match Nat.beq i (id+1)with
    | true=>k none s'
    | false=>k (some i) s') kr=some r->(Code.block id x).wp P Q a w:=λh=>blockPlain hlo hx h hR hk hkr
  cases x with
  | loop body =>
   cases pl with
   | lp hd ex ret pb =>
    have hb:=hl body rfl;rw[evCode.eq_def]at h;simp only at h;split at h
    .cases h
    .rename_i h0 hm;cases ret with
     | false=>exact loopPlain hlo hb hm h hR hk
     | true=>exact loopPlainR hlo hb hm h hR hk hkr
   | p=>exact plain h
   | s px py=>exact plain h
   | j m ret px py=>exact plain h
   | dr fl hs fm ids=>exact plain h
   | df fl hs p=>exact plain h
   | ot p t=>exact plain h
   | sq p=>exact plain h
   | lx hd ex rm pb =>
    have hb:=hl body rfl;rw[evCode.eq_def]at h;simp only at h;split at h
    .cases h
    .rename_i h0 hm;exact loopPlainX hlo hb hm h hR hk
   | rx=>exact plain h
  | _=>exact plain h
 | exit i =>
  refine⟨?_,λ_ e=>nomatch e⟩;intro pl R b s k kr r a w Q hlo h hR hk hkr;exact wp_exit (hk (some (i+1)) s a w h hR)
 | scope x hx =>
  refine⟨?_,λ_ e=>nomatch e⟩;obtain⟨hx,_⟩:=hx;intro pl R b s k kr r a w Q hlo h hR hk hkr;exact wp_scope_straight (hx pl R b s k kr r a w _ hlo h hR (λex s' a' w' h1 h2=>by rcases ex with _|_|i<;>exact hk _ s' a' w' h1 h2) λy a' w' h1 h2=>hkr y a' w' h1 h2)
 | ret =>
  refine⟨?_,λ_ e=>nomatch e⟩;intro pl R b s k kr r a w Q hlo h hR hk hkr;have old:(match rv b s with
   | some y=>kr y
   | none=>none)=some r->Code.ret.wp P Q a w:=λh=>by
   split at h
   .rename_i y hy;exact wp_ret (hkr y a w h (hrv b s a w y hR hy))
   .cases h
  rw[evCode.eq_def]at h;cases pl with
  | rx=>exact wp_ret (hk (some 0) s a w h hR)
  | _=>exact old h
 | loop x hx =>
  refine⟨?_,λbody e=>by injection e with e;subst e;exact hx.1⟩;intro pl R b s k kr r a w Q hlo h hR hk hkr;rw[evCode.eq_def]at h;cases h
 | _ =>
  refine⟨?_,λ_ e=>nomatch e⟩;intro pl R b s k kr r a w Q hlo h hR hk hkr;rw[evCode.eq_def]at h;cases h
theorem evCode_ok(heq:∀p∈eqs,ap_ P E p.1 p.2)(ht:tab.OK P E)(hrv:∀b s a w y,Rel P E Bs F0 w0 N (s.L b) (s.H b) s.nx a w->rv b s=some y->Qr y a w)(c:Code):cy_ P E eqs tab N Bs F0 w0 RT rv Qr c:=(evCode_both heq ht hrv c).1
end
section
variable{P:Program}{E:TE}{z z':Fz}{g g':Ga}{w w0:World}{Bs:List Nat}{F0:Nat->Prop}{N:Nat}{H:Nat->Option (Obj E)}
theorem frzR_ok(h:HR P E Bs F0 w0 w z g H):∀(rs:Rs) (xs:List (V1 E)),∃z',z.Le z'/\HR P E Bs F0 w0 w z' g (upH H (frzR E H rs xs))
 | [],_=>⟨z,Fz.Le.refl z,h⟩
 | (_,_)::_,[]=>⟨z,Fz.Le.refl z,h⟩
 | (t,m)::rs,x::xs=>by
  obtain⟨z1,h1,h2⟩:=frzR_ok h rs xs;obtain⟨z2,h3,h4⟩:=bB_ h2 (unM m x.cs);rw[ao_]at h4;exact⟨z2,h1.trans h3,h4⟩
theorem cV_:∀(ps:List Pm) (n:Nat) {z:Fz} {H:Nat->Option (Obj E)},HR P E Bs F0 w0 w z g H->∃z',z.Le z'/\HR P E Bs F0 w0 w z' g (upH H (frzV E H ps n))
 | [],_,z,_,h=>⟨z,Fz.Le.refl z,h⟩
 | .b _ _::ps,n,z,H,h=>by
  obtain⟨z1,h1,h2⟩:=cV_ ps (n+1) h;unfold frzV;split
  .obtain⟨z2,h3,h4⟩:=bB_ h2 ‹List (SC E)›;rw[ao_]at h4;exact⟨z2,h1.trans h3,h4⟩
  .exact⟨z1,h1,h2⟩
 | .bm _ t m _::ps,n,z,H,h=>by
  obtain⟨z1,h1,h2⟩:=cV_ ps (n+1+am_ m (E.flat t)) h;unfold frzV;split
  .rename_i cs _;obtain⟨z2,h3,h4⟩:=bB_ h2 (unM m cs);rw[ao_]at h4;exact⟨z2,h1.trans h3,h4⟩
  .rename_i cs _ _;obtain⟨z2,h3,h4⟩:=bB_ h2 (unM m cs);rw[ao_]at h4;exact⟨z2,h1.trans h3,h4⟩
  .exact⟨z1,h1,h2⟩
 | .l t m::ps,n,z,_,h=>cV_ ps _ h
 | .g t m::ps,n,z,_,h=>cV_ ps _ h
 | .mp _ _ _::ps,n,z,_,h=>cV_ ps _ h
 | .d _::ps,n,z,_,h=>cV_ ps n h
 | .p _::ps,n,z,_,h=>cV_ ps n h
 | .f1 _ _::ps,n,z,_,h=>cV_ ps n h
 | .f2 _ _ _::ps,n,z,_,h=>cV_ ps n h
theorem frzA_ok(h:HR P E Bs F0 w0 w z g H)(ps:List Pm)(rs:Rs)(xs:List (V1 E)):∃z',z.Le z'/\HR P E Bs F0 w0 w z' g (upH H (frzA E H ps rs xs)):=by
 obtain⟨z1,h1,h2⟩:=frzR_ok h rs xs;obtain⟨z2,h3,h4⟩:=cV_ ps 0 h2;rw[ao_]at h4;exact⟨z2,h1.trans h3,h4⟩
theorem resSV_ok{b:Ba E}{s:St E}{a:Act}{v:ResultVar}{x:V1 E}(hE:ER P E z g N a (s.L b))(hH:HR P E Bs F0 w0 w z g (s.H b))(h:resSV E P b s v=some x):∃u,(f3_ a.tmps v).run P w = .ok u w/\R1 P E z g x u:=by
 cases v with
 | tmp t =>
  unfold resSV at h;simp only at h;split at h
  .rename_i y hL;obtain rfl:=qSj h;obtain⟨u,h1,h2⟩:=hE.get t _ hL;refine⟨u,?_,h2⟩;have:a.tmps.getD t undef=u:=by rw[Array.getD_eq_getD_getElem?,h1];rfl
   simp only[f3_,this,Sem.run_pure]
  .cases h
 | cell t T =>
  unfold resSV at h;simp only at h;split at h
  .rename_i c hL;split at h
   .rename_i l off hb;obtain⟨u,h1,h2⟩:=hE.get t _ hL;obtain⟨bb,base,vs,rfl,hl,hc⟩:=behind_ok hH hb h2;obtain⟨v,hlv,hrv⟩:=lI_ h hl;refine⟨v,?_,hrv⟩;have:a.tmps.getD t undef = .pointer (some ⟨bb,base+off,none⟩):=by rw[Array.getD_eq_getD_getElem?,h1];rfl
    have has:(asAddr (.pointer (some ⟨bb,base+off,none⟩))).run P w = .ok ⟨bb,base+off,none⟩ w:=rfl;have hload:=ha_ (P:=P) hlv (hc w (Stands.refl hH));simp only[f3_,this,Sem.run_bind,has,Result.andThen_ok,hload]
   .cases h
  .cases h
theorem lY_{b:Ba E}{s:St E}{a:Act}(hE:ER P E z g N a (s.L b))(hH:HR P E Bs F0 w0 w z g (s.H b)):∀{vs:List ResultVar} {xs:List (V1 E)},resXs E P b s vs=some xs->∃us,(vs.mapM (f3_ a.tmps)).run P w = .ok us w/\All2 (R1 P E z g) xs us
 | [],xs,h=>by obtain rfl:=qSj h;exact⟨[],rfl,.nil⟩
 | v::vs,xs,h=>by
  simp only[resXs]at h;split at h
  .rename_i x l hx hl;obtain rfl:=qSj h;obtain⟨u,h1,h2⟩:=resSV_ok hE hH hx;obtain⟨us,h3,h4⟩:=lY_ hE hH hl;refine⟨u::us,?_,.cons h2 h4⟩;rw[List.mapM_cons,Sem.run_bind,h1];simp only[Sem.run_pure,Result.andThen_ok,Sem.run_bind,h3]
  .cases h
theorem tuple_out{fn:Func}{a:Act}{rs:List ResultVar}{us:List Value}(hfn:fn.results.toList=rs)(h:(rs.mapM (f3_ a.tmps)).run P w = .ok us w):(results fn a.tmps).run P w = .ok (tupleOf us) w:=by
 have hfn':fn.results=rs.toArray:=by rw[←hfn,Array.toArray_toList]
 rw[results_eq,hfn',List.mapM_toArray,Sem.run_bind];have:((Functor.map List.toArray (rs.mapM (f3_ a.tmps))).run P w) = .ok us.toArray w:=by
  rw[map_eq_pure_bind,Sem.run_bind,h];rfl
 rw[this];simp only[Result.andThen_ok,Sem.run_pure]
 congr 1
 match us with
 | []=>rfl
 | [v]=>rfl
 | v::u::r=>simp[tupleOf]
theorem takeR_ok(hH:HR P E Bs F0 w0 w z g H){I:List Nat}:∀{rs:Rs} {xs:List (V1 E)} {q:HL E.S rs.ts×List Nat} {us:List Value} {n:Nat},takeR E H rs xs=some q->(∀j id,q.2[j]? = some id->I[n+j]? = some id)->All2 (R1 P E z g) xs us ->
  (∃svr,resV E rs q.1 n=some svr/\All2 (R1 P E z (gOf g I)) svr us)/\(∀i o,(i,o)∈ba_ E rs q.1 n->∃id o1 o2,I[i]? = some id/\H id=some o1/\o=some o2/\Cor E H I o1 o2)/\q.2.length=aW_ E rs
 | [],[],q,us,n,h,_,hv=>by
  cases hv
  obtain rfl:=qSj h;exact⟨⟨[],rfl,.nil⟩,(λi o hm=>nomatch hm),rfl⟩
 | [],_::_,q,us,n,h,_,_=>by simp[takeR]at h
 | (t,m)::rs,[],q,us,n,h,_,_=>by simp[takeR]at h
 | (t,m)::rs,x::xs,q,us,n,h,hI,hv=>by
  simp only[takeR]at h;split at h
  .rename_i d q' hf hd hq;obtain rfl:=qSj h;obtain⟨hI1,hI2⟩:=fZ_ hI;cases hv with
   | @cons _ u _ us' hx hr =>
    obtain⟨e7,e8⟩:=f4_ (I:=I) (n:=n) hd hI1;obtain⟨⟨svr,e1,e2⟩,e3,e4⟩:=takeR_ok hH (n:=n+d.2.length) hq hI2 hr;rw[e8]at e1 e3;have hcs:∀vs,All2 (RC P E z g) x.cs vs->_:=λvs hvs=>fe_ hH hd hI1 hvs
    obtain⟨y,e5,e6⟩:=asV_ok (z':=z) (g':=gOf g I) (l:=aE_ E m (E.flat t) d.1 n) hf (by
     have:∃vs,All2 (RC P E z g) x.cs vs:=by
      cases x with
      | one c=>exact⟨[u],.cons hx .nil⟩
      | agg l=>obtain⟨vs,_,h⟩:=hx;exact⟨vs,h⟩
     obtain⟨vs,hvs⟩:=this;rw[(hcs vs hvs).2.1,(hcs vs hvs).2.2]) hx λvs hvs=>(hcs vs hvs).1
    refine⟨⟨y::svr,by simp only[resV,e1,E.fl_ufl,e5],.cons e6 e2⟩,λi o ho => ?_,by simp only[qLa,e8,e4];rfl⟩;simp only[ba_,List.mem_append,E.fl_ufl]at ho;rcases ho with ho|ho
    .exact e7 i o ho
    .exact e3 i o ho
  .cases h
theorem HR.leave(hH:HR P E Bs F0 w0 w z g H){I:List Nat}{l:Chs E}(hn:∀i j o p id,(i,o)∈l->(j,p)∈l->I[i]? = some id->I[j]? = some id->i=j)(hl:∀i o,(i,o)∈l->∃id o1 o2,I[i]? = some id/\H id=some o1/\o=some o2/\Cor E H I o1 o2) :
  HR P E Bs F0 w0 w z (gOf g I) (upH (λ_=>none) l):=by
 have key:∀i o,upH (λ_=>none) l i=some o->∃id o1,I[i]? = some id/\H id=some o1/\ObjR P E z (gOf g I) w i o/\∀k,fpO (gOf g I) i o k↔fpO g id o1 k:=λi o h=>by
  obtain⟨id,o1,o2,h1,h2,h3,h4⟩:=hl i _ (d9_ h);obtain rfl:=qSj h3;obtain⟨h5,h6⟩:=h4.obj hH h1 (hH.hold _ _ h2);exact⟨id,o1,h1,h2,h5,h6⟩
 refine⟨hH.chg,λi o h => ?_,λi o k h hk => ?_,λi j o p k hij h h' hk hk' => ?_,hH.fz,hH.fz0,λi o k h hk hz => ?_,hH.gl⟩
 .obtain⟨_,_,_,_,h5,_⟩:=key i o h;exact h5
 .obtain⟨id,o1,_,h2,_,h6⟩:=key i o h;exact hH.own id o1 k h2 ((h6 k).1 hk)
 .obtain⟨id,o1,h1,h2,_,h6⟩:=key i o h;obtain⟨id',o1',h1',h2',_,h6'⟩:=key j p h';refine hH.apart id id' o1 o1' k (λe => ?_) h2 h2' ((h6 k).1 hk) ((h6' k).1 hk');subst e;exact hij (hn i j _ _ _ (d9_ h) (d9_ h') h1 h1')
 .obtain⟨id,o1,h1,h2,_,h6⟩:=key i o h;exact hH.fza id o1 k h2 ((h6 k).1 hk) hz
end
section
variable{P:Program}{E:TE}{H:Nat->Option (Obj E)}
theorem backM_ok {m:Mk} {I:List Nat}:∀{ts:List Ty} {h h':HL E.S ts} {n:Nat},fM_ E H m ts h n=some h'->∀i o,(i,o)∈av_ E m ts h' n->∃o1 o2,H i=some o1/\o=some o2/\Cor E H I o1 o2:=by
 induction m with
 | nil =>
  intro ts h h' n _ i o hm;cases ts<;>simp[av_]at hm
 | cons a m ih =>
  intro ts h h' n hb i o hm;cases ts with
  | nil=>cases a<;>simp[av_]at hm
  | cons t ts =>
   cases a with
   | none =>
    simp only[fM_]at hb;cases hq:fM_ E H m ts h.2 n with
    | none=>rw[hq]at hb;cases hb
    | some q =>
     rw[hq]at hb;obtain rfl:=qSj hb;simp only[av_]at hm;exact ih hq i o hm
   | some e =>
    cases t with
    | sl t =>
     simp only[fM_]at hb;cases hn:H n with
     | none=>rw[hn]at hb;cases hb
     | some p =>
      cases p with
      | row e' t' xs foc =>
       rw[hn]at hb;simp only at hb;split at hb
       .rename_i ht;subst ht;cases he:Nat.beq e e' with
        | false=>rw[he]at hb;cases hb
        | true =>
         cases hq:fM_ E H m ts h.2 (n+1)with
         | none=>rw[he,hq]at hb;cases hb
         | some q =>
          rw[he,hq]at hb;obtain rfl:=qSj hb;obtain rfl:=qNb he;simp only[av_,List.mem_cons]at hm;rcases hm with hm|hm
          .injection hm with e1 e2;subst e1;subst e2;exact⟨_,_,hn,rfl,rfl⟩
          .exact ih hq i o hm
       .cases hb
      | _=>rw[hn]at hb;cases hb
    | _=>simp[av_]at hm
theorem backH_ok {I:List Nat}:∀{ps:List Pm} {a:PA E ps} {bh:HL E.S (aq_ ps)×List Nat} {n k:Nat},bD_ E H ps a n=some bh->(∀i,i<n+ai_ E ps->n<=i->I[i]? = some i)->(∀j id,bh.2[j]? = some id->I[k+j]? = some id) ->
  (∀i o,(i,o)∈ar_ E ps (bS_ E ps a bh.1) n k->∃id o1 o2,I[i]? = some id/\H id=some o1/\o=some o2/\Cor E H I o1 o2)/\bh.2.length=bl_ E ps:=by
 intro ps
 induction ps with
 | nil =>
  intro a bh n k hb _ _;obtain rfl:=qSj hb;exact⟨(λi o hm=>nomatch hm),rfl⟩
 | cons p ps ih =>
  intro a bh n k hb hI hk;cases p with
  | d t=>exact ih hb hI hk
  | p t=>exact ih hb hI hk
  | g t m =>
   simp only[ai_]at hI;exact ih hb (λi h1 h2=>hI i (by omega) (by omega)) hk
  | f1 x r=>exact ih hb hI hk
  | f2 x y r=>exact ih hb hI hk
  | l t m =>
   simp only[ai_]at hI;simp only[bD_]at hb;cases h1:fM_ E H m (E.flat t) (E.fl t a.1) n with
   | none=>rw[h1]at hb;cases hb
   | some h =>
    cases h2:bD_ E H ps a.2 (n+am_ m (E.flat t))with
    | none=>rw[h1,h2]at hb;cases hb
    | some q =>
     rw[h1,h2]at hb;obtain rfl:=qSj hb;obtain⟨g1,g2⟩:=ih (k:=k) h2 (λi h1 h2=>hI i (by omega) (by omega)) hk;refine⟨λi o hm => ?_,g2⟩;have hm':(i,o)∈av_ E m (E.flat t) (E.fl t (E.ufl t h)) n++ar_ E ps (bS_ E ps a.2 q.1) (n+am_ m (E.flat t)) k:=hm;rw[E.fl_ufl]at hm';rcases List.mem_append.1 hm' with hm'|hm'
     .obtain⟨o1,o2,h6,h7,h8⟩:=backM_ok (I:=I) h1 i o hm';obtain⟨_,_,_,h9,h10⟩:=az_ i o hm';exact⟨i,o1,o2,hI i (by omega) h9,h6,h7,h8⟩
     .exact g1 i o hm'
  | mp T kt v =>
   simp only[ai_]at hI;simp only[bD_]at hb;cases hn:H n with
   | none=>rw[hn]at hb;cases hb
   | some p =>
    cases p with
    | map T' k' v' ks vs foc =>
     cases h2:bD_ E H ps a.2 (n+1)with
     | none=>rw[hn,h2]at hb;cases hb
     | some q =>
      rw[hn,h2]at hb;simp only at hb;split at hb
      .rename_i ht;obtain⟨rfl,rfl⟩:=ht;cases hT:Nat.beq T T' with
       | false=>rw[hT]at hb;cases hb
       | true =>
        rw[hT]at hb;obtain rfl:=qSj hb;obtain rfl:=qNb hT;obtain⟨g1,g2⟩:=ih (k:=k) h2 (λi h1 h2=>hI i (by omega) (by omega)) hk;refine⟨λi o hm => ?_,g2⟩;have hm':(i,o)∈(n,some (Obj.map T k' v' ks vs []))::ar_ E ps (bS_ E ps a.2 q.1) (n+1) k:=hm;rcases List.mem_cons.1 hm' with hm'|hm'
        .injection hm' with e1 e2;subst e1;subst e2;exact⟨_,_,_,hI _ (by omega) (Nat.le_refl _),hn,rfl,rfl⟩
        .exact g1 i o hm'
      .cases hb
    | _=>rw[hn]at hb;cases hb
  | b T t =>
   simp only[ai_]at hI;simp only[bD_]at hb;cases hn:H n with
   | none=>rw[hn]at hb;cases hb
   | some p =>
    cases p with
    | box T' cs =>
     cases h2:bD_ E H ps a.2 (n+1)with
     | none=>rw[hn,h2]at hb;cases hb
     | some q =>
      rw[hn,h2]at hb;simp only at hb;cases hT:Nat.beq T T' with
      | false=>rw[hT]at hb;cases hb
      | true =>
       cases hd:aN_ E H (E.flat t) cs with
       | none=>rw[hT,hd]at hb;cases hb
       | some h =>
        rw[hT,hd]at hb;obtain rfl:=qSj hb;obtain rfl:=qNb hT;obtain⟨g1,g2⟩:=ih (k:=k) h2 (λi h1 h2=>hI i (by omega) (by omega)) hk;refine⟨λi o hm => ?_,g2⟩;have hm':(i,o)∈(n,some (Obj.box T (E.cells t (E.ufl t h))))::ar_ E ps (bS_ E ps a.2 q.1) (n+1) k:=hm;rcases List.mem_cons.1 hm' with hm'|hm'
        .injection hm' with e1 e2;subst e1;subst e2;exact⟨_,_,_,hI _ (by omega) (Nat.le_refl _),hn,rfl,false,_,[],0,t,[],(h,[]),0,rfl,(λ_ _ e=>nomatch e),takeM_nil hd,by rw[ownC_nil];unfold TE.cells;rw[E.fl_ufl];rfl,λj id' hj=>by simp at hj⟩
        .exact g1 i o hm'
    | _=>rw[hn]at hb;cases hb
  | bm T t m px =>
   simp only[ai_]at hI;simp only[bD_]at hb;cases hn:H n with
   | none=>rw[hn]at hb;cases hb
   | some p =>
    cases p with
    | box T' cs0 =>
     cases h2:bD_ E H ps a.2 (n+1+am_ m (E.flat t))with
     | none=>rw[hn,h2]at hb;cases hb
     | some q =>
      rw[hn,h2]at hb;simp only at hb;cases hP:el_ (pxB px ps) cs0 with
      | none=>rw[hP]at hb;cases hb
      | some c2 =>
       obtain⟨cs,hid⟩:=c2;rw[hP]at hb;simp only at hb;cases hT:Nat.beq T T'&&hidI hid (n+1+am_ m (E.flat t))with
       | false=>rw[hT]at hb;cases hb
       | true =>
        cases hd:aM_ E H m (E.flat t) cs with
        | none=>rw[hT,hd]at hb;cases hb
        | some d =>
         rw[hT,hd]at hb;obtain rfl:=qSj hb;simp only[qAn]at hT;obtain⟨hT,hh⟩:=hT;obtain rfl:=qNb hT;obtain⟨i1,i2⟩:=fZ_ hk;obtain⟨e7,e8⟩:=f4_ (n:=k) hd i1;obtain⟨g1,g2⟩:=ih (k:=k+d.2.length) h2 (λi h1 h2=>hI i (by omega) (by omega)) i2;refine⟨λi o hm => ?_,by simp only[qLa,e8,g2,bl_]⟩;have hm':(i,o)∈(n,some (Obj.box T (ptrC E (pxB px ps) (n+1+am_ m (E.flat t))++aE_ E m (E.flat t) (E.fl t (E.ufl t d.1)) k)))::(av_ E m (E.flat t) (E.fl t (E.ufl t d.1)) k++ar_ E ps (bS_ E ps a.2 q.1) (n+1+am_ m (E.flat t)) (k+am_ m (E.flat t))):=hm;rw[E.fl_ufl]at hm';rw[e8]at g1;rcases List.mem_cons.1 hm' with hm'|hm'
         .injection hm' with e1 e2;subst e1;subst e2;refine⟨_,_,_,hI _ (by omega) (Nat.le_refl _),hn,rfl,_,cs,hid,_,t,m,d,k,hP,(λid2 o2 e => ?_),hd,rfl,i1⟩;subst e;simp only[hidI]at hh;have h9:=qNb hh;rw[h9];have hpx:pxB px ps=true:=by
           cases hx:pxB px ps with
           | true=>rfl
           | false=>rw[hx]at hP;simp[el_]at hP
          have:=pxB_cnt (E:=E) hpx;exact hI _ (by omega) (by omega)
         .rcases List.mem_append.1 hm' with hm'|hm'
          .exact e7 i o hm'
          .exact g1 i o hm'
    | _=>rw[hn]at hb;cases hb
end
section
variable{P:Program}{E:TE}{eqs:List (Nat×Nat)}{tab:Tab E}{z:Fz}{g:Ga}{w w0:World}{Bs:List Nat}{N:Nat}
def EndIs(P:Program)(E:TE)(z:Fz)(g:Ga)(Bs:List Nat)(w:World)(ps:List Pm)(rs:Rs)(a:PA E ps)(rh:HL E.S rs.ts)(bh:HL E.S (aq_ ps))(v:Value)(w':World):Prop:=∃z' g' svr,z.Le z'/\g.Le g'/\resV E rs rh (ai_ E ps)=some svr/\RV P E z' g' (oneV E svr) v/\HR P E Bs z.F w w' z' g' (upH (λ_=>none) (ba_ E rs rh (ai_ E ps)++ar_ E ps (bS_ E ps a bh) 0 (ai_ E ps+aW_ E rs)))
theorem oneV_ok{svr:List (V1 E)}{us:List Value}(h:All2 (R1 P E z g) svr us):RV P E z g (oneV E svr) (tupleOf us):=by
 cases h with
 | nil=>exact⟨[],rfl,.nil⟩
 | cons h1 h2 =>
  cases h2 with
  | nil=>exact h1
  | cons h3 h4=>exact⟨_,rfl,.cons h1 (.cons h3 h4)⟩
theorem bV_:∀{ps:List Pm} {a:PA E ps} {n k i:Nat} {o:Option (Obj E)},(i,o)∈ar_ E ps a n k->i∈bE_ E ps n\/(k<=i/\i<k+bl_ E ps)
 | [],_,_,_,_,_,h=>by cases h
 | .l t m::ps,a,n,k,i,o,h=>by
  rcases List.mem_append.1 h with h|h
  .obtain⟨_,_,_,h1,h2⟩:=az_ i _ h;exact .inl (List.mem_append.2 (.inl (List.mem_range'_1.2 ⟨h1,h2⟩)))
  .exact(bV_ (ps:=ps) h).imp (λh=>List.mem_append.2 (.inr h)) id
 | .g _ _::ps,_,_,_,_,_,h=>bV_ (ps:=ps) h
 | .b _ _::ps,_,_,_,_,_,h=>by
  rcases List.mem_cons.1 h with h|h
  .injection h with e;subst e;exact .inl (List.mem_cons.2 (.inl rfl))
  .exact(bV_ (ps:=ps) h).imp (λh=>List.mem_cons.2 (.inr h)) id
 | .bm _ t m _::ps,a,n,k,i,o,h=>by
  simp only[bl_];rcases List.mem_cons.1 h with h|h
  .injection h with e;subst e;exact .inl (List.mem_cons.2 (.inl rfl))
  .rcases List.mem_append.1 h with h|h
   .obtain⟨_,_,_,h1,h2⟩:=az_ i _ h;exact .inr ⟨h1,by omega⟩
   .rcases bV_ (ps:=ps) h with h|h
    .exact .inl (List.mem_cons.2 (.inr h))
    .exact .inr ⟨by omega,by omega⟩
 | .mp _ _ _::ps,_,_,_,_,_,h=>by
  rcases List.mem_cons.1 h with h|h
  .injection h with e;subst e;exact .inl (List.mem_cons.2 (.inl rfl))
  .exact(bV_ (ps:=ps) h).imp (λh=>List.mem_cons.2 (.inr h)) id
 | .d _::ps,_,_,_,_,_,h=>bV_ (ps:=ps) h
 | .p _::ps,_,_,_,_,_,h=>bV_ (ps:=ps) h
 | .f1 _ _::ps,_,_,_,_,_,h=>bV_ (ps:=ps) h
 | .f2 _ _ _::ps,_,_,_,_,_,h=>bV_ (ps:=ps) h
theorem cq_:∀{ps:List Pm} {n i:Nat},i∈bE_ E ps n->i<n+ai_ E ps
 | [],_,_,h=>by cases h
 | .l t m::ps,n,i,h=>by
  simp only[ai_];rcases List.mem_append.1 h with h|h
  .have:=List.mem_range'_1.1 h;omega
  .have:=cq_ (ps:=ps) h;omega
 | .g t m::ps,n,i,h=>by
  simp only[ai_];have:=cq_ (ps:=ps) h;omega
 | .b _ _::ps,n,i,h=>by
  simp only[ai_];rcases List.mem_cons.1 h with h|h
  .omega
  .have:=cq_ (ps:=ps) h;omega
 | .bm _ t m _::ps,n,i,h=>by
  simp only[ai_];rcases List.mem_cons.1 h with h|h
  .omega
  .have:=cq_ (ps:=ps) h;omega
 | .mp _ _ _::ps,n,i,h=>by
  simp only[ai_];rcases List.mem_cons.1 h with h|h
  .omega
  .have:=cq_ (ps:=ps) h;omega
 | .d _::ps,_,_,h=>cq_ (ps:=ps) h
 | .p _::ps,_,_,h=>cq_ (ps:=ps) h
 | .f1 _ _::ps,_,_,h=>cq_ (ps:=ps) h
 | .f2 _ _ _::ps,_,_,h=>cq_ (ps:=ps) h
theorem retF_ok {ps:List Pm} {rs:Rs} {a:PA E ps} {fn:Func} {b:Ba E} {s:St E} {act:Act} {w':World} {y:Tp E.S (rs.ts++aq_ ps)} (hfr:Fresh g (ai_ E ps))
  (hR:Rel P E Bs ⟨z,g,ai_ E ps⟩ w N (s.L b) (s.H b) s.nx act w') (h:retF E P ps rs a fn.results.toList b s=some y) :
  act.defers=[]/\∃v,(results fn act.tmps).run P w' = .ok v w'/\EndIs P E z g Bs w ps rs a (hfst rs.ts (aq_ ps) (aK_ _ y)) (hsnd rs.ts (aq_ ps) (aK_ _ y)) v w':=by
 obtain⟨z1,g1,hE,hH,hfz,hz1,hg1⟩:=hR;refine⟨hE.defers,?_⟩;unfold retF at h;cases hxs:resXs E P b s fn.results.toList with
 | none=>rw[hxs]at h;cases h
 | some xs0 =>
  rw[hxs]at h;simp only at h;obtain⟨xs,u0,n0,g0,p1,p2,_,p4,p5,_,_⟩:=prepRs_ok rs xs0 hH hfz;rw[p1]at h;generalize hHu:upH (s.H b) u0=Hu at h p4;cases hq:takeR E (upH Hu (frzA E Hu ps rs xs)) rs xs with
  | none=>rw[hq]at h;cases h
  | some q =>
   rw[hq]at h;simp only at h;cases hb:bD_ E (upH Hu (frzA E Hu ps rs xs)) ps a 0 with
   | none=>rw[hb]at h;cases h
   | some bq =>
    rw[hb]at h;obtain⟨bh,ids⟩:=bq;obtain⟨hn,h⟩:=br_ h;obtain rfl:=qSj h;simp only at hn;rw[bv_,gc_,gd_];obtain⟨us,h1,h20⟩:=lY_ hE hH hxs;have h2:=p5 z1 g0 us (Ga.Le.refl g0) (h20.mono λ_ _ h=>R1.le h (Fz.Le.refl z1) p2);obtain⟨z2,hz2,hH2⟩:=frzA_ok p4 ps rs xs;have hI0:∀j id,(q.2++ids)[j]? = some id->(List.range (ai_ E ps)++(q.2++ids))[ai_ E ps+j]? = some id:=λj id hj=>by
     rw[List.getElem?_append_right (by simp)];simpa using hj
    obtain⟨hI1,hI3⟩:=fZ_ hI0;have hI2:∀i,i<ai_ E ps->(List.range (ai_ E ps)++(q.2++ids))[i]? = some i:=λi hi=>by
     rw[List.getElem?_append_left (by simpa using hi)];simp[hi]
    obtain⟨⟨svr,h3,h4⟩,h5,hql⟩:=takeR_ok hH2 (n:=ai_ E ps) hq hI1 (h2.mono λ_ _ h=>R1.le h hz2 (Ga.Le.refl g0));rw[hql]at hI3;obtain⟨h6,_⟩:=backH_ok (I:=List.range (ai_ E ps)++(q.2++ids)) (k:=ai_ E ps+aW_ E rs) hb (λi h1 _=>hI2 i (by omega)) hI3;refine⟨_,tuple_out rfl h1,z2,gOf g0 (List.range (ai_ E ps)++(q.2++ids)),svr,hz1.trans hz2,λi l hl => ?_,h3,oneV_ok h4,hH2.leave (λi j o p id hi hj e1 e2 => ?_) λi o hm => ?_⟩
    .have hi:i<ai_ E ps:=by
      rcases Nat.lt_or_ge i (ai_ E ps)with h9|h9
      .exact h9
      .rw[hfr i h9]at hl;cases hl
     unfold gOf;rw[hI2 i hi];exact p2 i l (hg1 i l hl)
    .have far:∀i,ai_ E ps<=i->(List.range (ai_ E ps)++(q.2++ids))[i]? = some id->∃p,(bE_ E ps 0++(q.2++ids))[p]? = some id/\((p<(bE_ E ps 0).length/\i=id/\i<ai_ E ps)\/(ai_ E ps<=i/\p=(bE_ E ps 0).length+(i-ai_ E ps))):=λi k1 e=>by
      rw[List.getElem?_append_right (by simpa using k1)]at e;refine⟨(bE_ E ps 0).length+(i-ai_ E ps),?_,.inr ⟨k1,rfl⟩⟩;rw[List.getElem?_append_right (by omega)];simpa using e
     have key:∀i o,(i,o)∈ba_ E rs q.1 (ai_ E ps)++ar_ E ps (bS_ E ps a bh) 0 (ai_ E ps+aW_ E rs)->(List.range (ai_ E ps)++(q.2++ids))[i]? = some id->∃p,(bE_ E ps 0++(q.2++ids))[p]? = some id/\((p<(bE_ E ps 0).length/\i=id/\i<ai_ E ps)\/(ai_ E ps<=i/\p=(bE_ E ps 0).length+(i-ai_ E ps))):=λi o hm e=>by
      rcases List.mem_append.1 hm with hm|hm
      .obtain⟨_,_,_,k1,_⟩:=cG_ i o hm;exact far i k1 e
      .rcases bV_ hm with hm|hm
       .have k2:=cq_ hm;rw[hI2 i (by omega)]at e;obtain rfl:=qSj e;obtain⟨p,hp⟩:=List.mem_iff_getElem?.1 hm;have hpl:p<(bE_ E ps 0).length:=(List.getElem?_eq_some_iff.1 hp).1;exact⟨p,by rw[List.getElem?_append_left hpl];exact hp,.inl ⟨hpl,rfl,by omega⟩⟩
       .exact far i (by omega) e
     obtain⟨p1,k1,k2⟩:=key i o hi e1;obtain⟨p2,k3,k4⟩:=key j p hj e2;have hp:=jK_ hn k1 k3;rcases k2 with k2|k2<;>rcases k4 with k4|k4<;>omega
    .rcases List.mem_append.1 hm with hm|hm
     .exact h5 i o hm
     .exact h6 i o hm
theorem slots_in{svs:List (V1 E)}{vs:List Value}(h:All2 (R1 P E z g) svs vs):∀(i t:Nat) (o:Option (SV E)),an_ t (slotsOf i svs)=some o->∃x v,o=some (.v x)/\look t (f2_ i vs)=some v/\R1 P E z g x v:=by
 induction h with
 | nil=>intro i t o ho;cases ho
 | @cons x v la bs h1 _ ih =>
  intro i t o ho;simp only[slotsOf,an_]at ho;simp only[f2_,look];cases hb:Nat.beq t i with
  | true =>
   rw[hb]at ho;exact⟨x,v,(qSj ho).symm,rfl,h1⟩
  | false =>
   rw[hb]at ho;exact ih (i+1) t o ho
theorem evFun_ok(heq:∀p∈eqs,ap_ P E p.1 p.2)(ht:tab.OK P E){f:FuncId}{fn:Func}(hf:P.funcs[f]? = some fn){ps:List Pm}{rs:Rs}{pl:Pl}{a:PA E ps}{y:Tp E.S (rs.ts++aq_ ps)}(h:evFun P E eqs tab fn ps rs pl a=some y) :
  CallOK P E f ps rs true a (hfst rs.ts (aq_ ps) (aK_ _ y)) (hsnd rs.ts (aq_ ps) (aK_ _ y)):=by
 intro w z g Bs svs vs hav hH hfr hv;unfold evFun at h;cases hb:fn.body with
 | none=>rw[hb]at h;cases h
 | some c =>
  rw[hb,hav]at h;simp only at h;obtain⟨hle,h⟩:=br_ h;refine Ret.mono (R:=λv w'=>EndIs P E z g Bs w ps rs a (hfst rs.ts (aq_ ps) (aK_ _ y)) (hsnd rs.ts (aq_ ps) (aK_ _ y)) v w') ?_ λv w' ⟨z',g',svr,h1,h2,h3,h4,h5⟩=>⟨z',g',svr,h1,(λe=>nomatch e),h2,h3,h4,h5⟩
  refine enter hf hb rfl (by rw[List.size_toArray,←hv.len];exact hle) λact hE => ?_
  refine evCode_ok (Bs:=Bs) (F0:=⟨z,g,ai_ E ps⟩) (w0:=w) (Qr:=λy' a' w'=>a'.defers=[]/\∃v,(results fn a'.tmps).run P w' = .ok v w'/\EndIs P E z g Bs w ps rs a (hfst rs.ts (aq_ ps) (aK_ _ y')) (hsnd rs.ts (aq_ ps) (aK_ _ y')) v w') heq ht
   (λb s a' w' y' hR hy=>retF_ok hfr hR hy) c pl _ _ _ _ _ y act w _ hfr h ?_ ?_ ?_
  .refine⟨z,g,⟨hE.size,hE.defers,λt u hu => ?_⟩,hH,hfr,Fz.Le.refl z,Ga.Le.refl g⟩;unfold St.L at hu;simp only at hu;cases ha:an_ t (slotsOf 0 svs)with
   | none=>rw[ha]at hu;cases hu
   | some o =>
    rw[ha]at hu;obtain⟨x,v,h1,h2,h3⟩:=slots_in hv 0 t o ha;subst h1;obtain rfl:=qSj hu;exact⟨v,hE.get t v (by simpa using h2),h3⟩
  .intro ex s' a' w' he hR';cases ex with
   | some i=>cases he
   | none =>
    obtain⟨h1,v,h2,h3⟩:=retF_ok hfr hR' he;exact⟨h1,_,h2,v,rfl,h3⟩
  .intro y' a' w' he hq;obtain rfl:=qSj he;obtain⟨h1,v,h2,h3⟩:=hq;exact⟨h1,_,h2,v,rfl,h3⟩
end
section
variable{P:Program}{E:TE}{eqs:List (Nat×Nat)}{tab:Tab E}
theorem CallOK.flat{f:FuncId}{ps:List Pm}{rs:Rs}{ali:Bool}{a:PA E ps}{rh:HL E.S rs.ts}{bh:HL E.S (aq_ ps)}(hr:em_ E rs=true)(hp:cv_ E ps=true)(h:CallOK P E f ps rs ali a rh bh):CallOK P E f ps rs false a rh bh:=by
 intro w z g Bs svs vs hav hH hfr hv;refine Ret.mono (h w z g Bs svs vs hav hH hfr hv) λv w' ⟨z',g',svr,h1,_,h3,h4,h5,h6⟩=>⟨z,g',svr,Fz.Le.refl z,(λ_=>rfl),h3,h4,?_,?_⟩
 .exact jP_ (z:=z') (g:=g') rfl h5 λvs hvs=>gQ_ h4 h4 hvs (λi l _ hl=>hl) (.inr hr)
 .have key:∀i o,upH (λ_=>none) (ba_ E rs rh (ai_ E ps)++ar_ E ps (bS_ E ps a bh) 0 (ai_ E ps+aW_ E rs)) i=some o->Plain E (λ_=>True) o/\eL_ E o:=λi o e=>by
   rcases List.mem_append.1 (d9_ e)with hm|hm
   .obtain⟨p,e1,e2⟩:=jN_ hr i _ hm;obtain⟨p',e3,e4,_⟩:=cG_ i _ hm;obtain rfl:=qSj e1;obtain rfl:=qSj e3;exact⟨e4 _,e2⟩
   .obtain⟨p,e1,e2⟩:=bb_ hp i _ hm;obtain⟨p',e3,e4,_⟩:=aQ_ i _ hm;obtain rfl:=qSj e1;obtain rfl:=qSj e3;refine⟨?_,e2⟩;cases o with
    | box T cs =>
     intro c hc;have:=e4 c hc;cases c<;>first|trivial|exact this.elim
    | _=>exact e4
  refine⟨h6.chg,λi o e => ?_,h6.own,h6.apart,λk hk => ?_,λk hk => .inl hk,λi o k e hk hz=>h6.fza i o k e hk (h1 k hz).1,hH.gl⟩
  .obtain⟨k1,k2⟩:=key i o e;exact(ObjR.move k1 (λ_ _ _ hl=>hl) (.inr k2) rfl (h6.hold i o e)).1
  .obtain⟨k1,k2⟩:=h1 k hk;have k3:=h6.fz k k1;exact⟨k3.1,k3.2.trans k2⟩
def ae_(E:TE)(ps:List Pm)(rs:Rs)(ali:Bool)(f:PA E ps->Option (Tp E.S (rs.ts++aq_ ps))):Con E:=⟨ps,rs,ali,λ_ a k=>(f a).bind λy=>k (hfst rs.ts (aq_ ps) (aK_ _ y)) (hsnd rs.ts (aq_ ps) (aK_ _ y)),none⟩
theorem aa_(heq:∀p∈eqs,ap_ P E p.1 p.2)(ht:tab.OK P E){fid:FuncId}{fn:Func}(hf:P.funcs[fid]? = some fn){ps:List Pm}{rs:Rs}{ali:Bool}(hali:(ali||(em_ E rs&&cv_ E ps))=true){pl:Pl}{f:PA E ps->Option (Tp E.S (rs.ts++aq_ ps))}
  (h:∀a,f a=evFun P E eqs tab fn ps rs pl a):(ae_ E ps rs ali f).OK P E fid:=by
 intro R a k r hr;obtain⟨y,h1,h2⟩:=bind_some (show(f a).bind (λy=>k (hfst rs.ts (aq_ ps) (aK_ _ y)) (hsnd rs.ts (aq_ ps) (aK_ _ y)))=some r from hr);rw[h a]at h1;have h3:=evFun_ok heq ht hf h1;refine⟨_,_,h2,?_⟩;cases ali with
 | true=>exact h3
 | false =>
  simp only[Bool.false_or,qAn]at hali;exact h3.flat hali.1 hali.2
end
end Rt
end Go
