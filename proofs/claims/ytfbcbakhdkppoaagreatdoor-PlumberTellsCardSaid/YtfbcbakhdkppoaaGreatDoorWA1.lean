/-
 What the statements of this seat hang on,part 1: Base Sl Rt Ops Mem Mem2 Flow Way Go Go2 Mp Ra Rb.
-/
import Derived.WalkKit
import Derived.WalkSpells
import Derived.WalkLawsBesides
import Derived.Handy
import Derived.Deep.QuietTactic
import Derived.BigQuiet
import Derived.BigGuardPart
import Derived.Lib.Hide
import Derived.CellFam
import Derived.Laws.AppendOwnNone
import Derived.Laws.BytesString
import Derived.Deep.LoopGhost
import Derived.Maps.AppendAt
import Derived.ChangeKeysEq
import Derived.MapKept
namespace Go
theorem qSj{α:Type _}{a b:α}(h:some a=some b):a=b:=Option.some.inj h
theorem qBs{α β:Type _}(a:α)(f:α->Option β):(some a).bind f=f a:=rfl
theorem qAn(a b:Bool):((a&&b)=true)=(a=true/\b=true):=Bool.and_eq_true a b
theorem qDe{p:Prop}[Decidable p]:(decide p=true)=p:=decide_eq_true_eq
theorem qNb{n m:Nat}(h:Nat.beq n m=true):n=m:=Nat.eq_of_beq_eq_true h
theorem qLa{α:Type _}{l m:List α}:(l++m).length=l.length+m.length:=List.length_append
theorem qLc{α:Type _}{a:α}{l:List α}:(a::l).length=l.length+1:=rfl
theorem qOi{α:Type _}(a b:α):(some a=some b)=(a=b):=Option.some.injEq a b
open Go.RowKit
def World.ext(w:World)(X:Array Obj)(d:Nat):World:={ w with heap:=w.heap++X,drawn:=d }
section
variable(w:World)(X:Array Obj)(d:Nat)
@[go_sem,simp] theorem World.size_ext:(w.ext X d).heap.size=w.heap.size+X.size:=by simp[World.ext]
theorem World.heap_ext(k:Nat)(h:k<w.heap.size):(w.ext X d).heap[k]? = w.heap[k]? := by
 show(w.heap++X)[k]? = _;rw[Array.getElem?_append_left h]
@[go_sem,simp] theorem World.ext_ext (Y:Array Obj) (e:Nat):(w.ext X d).ext Y e=w.ext (X++Y) e:=by
 simp[World.ext,Array.append_assoc]
theorem World.alloc_ext(o:Obj):(w.ext X d).alloc o=w.ext (X.push o) d:=by
 show({ w with heap:=(w.heap++X).push o,drawn:=d }:World)=_;simp[World.ext,←Array.push_append]
theorem World.self_as_ext:w=w.ext #[] w.drawn:=by simp only[World.ext,Array.append_empty]
theorem World.drew_as_ext:w.drew=w.ext #[] (w.drawn+1):=by simp only[World.ext,Array.append_empty];rfl
theorem World.below_ext:Below w.heap.size w (w.ext X d) :=
 ⟨rfl,rfl,rfl,by simp,λk hk=>World.heap_ext w X d k hk⟩
end
theorem RowKit.Below.toExt{w w':World}(h:Below w.heap.size w w'):∃X d,w'=w.ext X d:=by
 refine⟨w'.heap.extract w.heap.size w'.heap.size,w'.drawn,?_⟩;obtain⟨h1,h2,h3,h4,h5⟩:=h;cases w' with
 | mk heap tape drawn os output =>
  simp only at h1 h2 h3 h4 h5;simp only[World.ext,h1,h2,h3]
  congr 1
  apply Array.ext_getElem?;intro k;by_cases hk:k<w.heap.size
  .rw[Array.getElem?_append_left hk];exact h5 k hk
  .rw[Array.getElem?_append_right (by omega),Array.getElem?_extract];by_cases hk2:k<heap.size
   .rw[if_pos (by omega)];congr 1;omega
   .rw[if_neg (by omega),Array.getElem?_eq_none (by omega)]
def Ext(w w':World):Prop:=∃X d,w'=w.ext X d
theorem Ext.refl(w:World):Ext w w:=⟨#[],w.drawn,World.self_as_ext w⟩
theorem Ext.trans{a b c:World}(h:Ext a b)(k:Ext b c):Ext a c:=by
 obtain⟨X,d,rfl⟩:=h;obtain⟨Y,e,rfl⟩:=k;exact⟨X++Y,e,by simp⟩
theorem Ext.alloc{a b:World}(h:Ext a b)(o:Obj):Ext a (b.alloc o):=by
 obtain⟨X,d,rfl⟩:=h;exact⟨_,_,World.alloc_ext _ _ _ o⟩
theorem Ext.below{a b:World}(h:Ext a b):Below a.heap.size a b:=by
 obtain⟨X,d,rfl⟩:=h;exact World.below_ext a X d
theorem Ext.of_below{a b:World}(h:Below a.heap.size a b):Ext a b:=h.toExt
section
variable{P:Program}{ops:Array Oper}{md:Region.Mode}{Q:Exit->Act->World->Prop}
def Oper.quietUponX(P:Program)(w:World)(v:Value):Result Next->Prop | .ok (.value u) w'=>w'=w/\u=v | .ok .skip w'=>w'=w/\v=undef | .ok (.enter f args) w'=>w'=w/\Calls P f args w (λe w''=>e = .returned v/\Ext w w'')|_=>False
def bU_(Q:Exit->Act->World->Prop):Exit->Act->World->Prop:=λe _ _=>e = .outgrown/\LetsOut Q
theorem e0_(h:LetsOut (bU_ Q)):LetsOut Q:=let ⟨_,_,_,h⟩:=h;h
theorem Oper.wp_out{o:Oper}{a:Act}{w:World}{K K':Act->World->Prop}{Q Q':Exit->Act->World->Prop}(hk:∀a w,K a w->K' a w)
  (hp:∀ch a w,Q (.panic ch) a w->Q' (.panic ch) a w) (hl:LetsOut Q->LetsOut Q') (h:o.wp P a w K Q):o.wp P a w K' Q':=by
 unfold Oper.wp at *
 generalize(execOp a.eval o).run P w=r at *
 cases r with
 | ok n w' =>
  cases n<;>simp only[Oper.upon]at h ⊢ <;>
   first
    | exact hk _ _ h
    | exact Calls.mono h (λe w'' he=>by
      cases e with
      | returned u=>exact hk _ _ he
      | panicked chain=>exact hp _ _ _ he
      | outgrown=>exact hl he)
    | exact Rows.mono h (λu w'' he=>hk _ _ he)
 | halt x w'=>cases x<;>simp only[Oper.upon]at h ⊢<;>first|exact h|exact hp _ _ _ h
theorem wpOp_out {i:Nat} {K:Act->World->Prop} {a:Act} {w:World} (hh:wpOp P ops (bU_ Q) i K a w):wpOp P ops Q i K a w:=by
 unfold wpOp at *
 split
 .simpa[*]using hh
 .rename_i o ho;simp only[ho]at hh;split
  .rename_i hw;simp only[hw,if_true]at hh;refine hh.imp (λh => ?_) (λh=>⟨h.1,e0_ h.2⟩);unfold Oper.wp at *
   generalize(execOp a.eval o).run P w=r at *
   cases r with
   | ok n w' =>
    cases n<;>simp only[Oper.upon]at h ⊢ <;>
     first
      | exact h
      | exact Calls.mono h (λe w'' he=>by
        cases e with
        | returned u=>exact he
        | panicked chain=>exact absurd he.1 (by simp)
        | outgrown=>exact e0_ he)
   | halt x w'=>cases x<;>simp only[Oper.upon]at h ⊢<;>first|exact h|exact absurd h.1 (by simp)
  .rename_i hw;simp only[hw]at hh;exact hh
def cZ_(md:Region.Mode)(ops:Array Oper):Nat->Nat->Nat->Bool
 | 0,_,_=>false
 | n+1,j,i=>match ops[j]? with
  | none=>false
  | some o=>o.after.any λe=>Region.binds md e&&(e.on==i||cZ_ md ops n e.on i)
def Closed(md:Region.Mode)(ops:Array Oper)(listed:Array Bool):Prop:=∀j o,ops[j]? = some o->listed.getD j false=true->∀e∈o.after,Region.binds md e=true->listed.getD e.on false=true
theorem l6_{listed:Array Bool}(hc:Closed md ops listed):∀(n j i:Nat) (o:Oper),ops[j]? = some o->(∀e∈o.after,Region.binds md e=true->listed.getD e.on false=true)->cZ_ md ops n j i=true->listed.getD i false=true
 | 0,_,_,_,_,_,h=>by cases h
 | n+1,j,i,o,ho,hall,h=>by
  simp only[cZ_,ho]at h;obtain⟨e,he,hb⟩:=Array.any_eq_true'.1 h;simp only[qAn,Bool.or_eq_true,beq_iff_eq]at hb;have hl:=hall e he hb.1;rcases hb.2 with rfl|hw
  .exact hl
  .cases hk:ops[e.on]? with
   | none=>cases n<;>simp[cZ_,hk]at hw
   | some o'=>exact l6_ hc n e.on i o' hk (hc e.on o' hk hl) hw
theorem c3_{listed:Array Bool}{i:Nat}(hc:Closed md ops listed)(hi:i∈Region.ready md ops listed):Closed md ops (listed.setIfInBounds i true):=by
 intro j o hj hl e he hb;obtain⟨_,oi,hoi,hall⟩:=mem_ready.1 hi;by_cases hij:i=j
 .subst hij;obtain rfl:o=oi:=qSj (hj.symm.trans hoi);exact getD_set_true (hall e he hb)
 .rw[getD_set_ne false hij]at hl;exact getD_set_true (hc j o hj hl e he hb)
theorem je_(n:Nat):Closed md ops (Array.replicate n false):=by
 intro j o _ hl;rcases Nat.lt_or_ge j n with h|h
 .simp[h]at hl
 .simp[h]at hl
attribute [go_sem] Oper.quietUponX
end
theorem Addr.add_mk(b o n:Nat):(⟨b,o,none⟩:Addr).add n=⟨b,o+n,none⟩:=by
 unfold Addr.add;split
 .next h=>subst h;rfl
 .rfl
def SlB(w:World)(B c:Nat)(A:Option Addr)(n:Nat)(rows:List (List Value)):Prop :=
 rows.length=n/\(0<n->∃b off,A=some ⟨b,off,none⟩/\b<B /\
  ∀i r,rows[i]? = some r->r.length=c/\∀j u,r[j]? = some u->w.cell? ⟨b,off+i*c+j,none⟩=some u)
abbrev Own(w:World)(base:Nat)(e:TypeId)(c:Nat)(A:Option Addr)(n cap:Nat)(xs:List Value):Prop:=w.ownsRow base e c (.slice A n cap) n xs
section
variable{w w':World}{base e c n cap:Nat}{A:Option Addr}{xs:List Value}{v:Value}
theorem own_form(h:w.ownsRow base e c v n xs):∃A cap,v = .slice A n cap:=by
 rcases h.2 with⟨rfl,rfl⟩|⟨g,cap,cur,rfl,_⟩
 .exact⟨none,0,rfl⟩
 .exact⟨_,_,rfl⟩
theorem Own.cap_le(h:Own w base e c A n cap xs):n<=cap/\cap<=maxLen:=by
 rcases h.2 with⟨h1,h2⟩|⟨g,cap',cur,hv,_,_,h1,h2,_⟩
 .injection h1 with _ _ h3;subst h2;subst h3;exact⟨Nat.le_refl _,by unfold maxLen;omega⟩
 .injection hv with _ _ h3;subst h3;exact⟨h1,h2⟩
theorem eP_{rows:List (List Value)}{c:Nat}(hr:∀r∈rows,r.length=c):∀{i:Nat} {r:List Value},rows[i]? = some r->∀j u,r[j]? = some u->rows.flatten[i*c+j]? = some u:=by
 induction rows with
 | nil=>intro i r h;simp at h
 | cons x rows ih =>
  intro i r h j u hu;have hx:x.length=c:=hr x (by simp);cases i with
  | zero =>
   simp at h;subst h;rw[List.flatten_cons,Nat.zero_mul,Nat.zero_add,List.getElem?_append_left (by
    rcases Nat.lt_or_ge j x.length with h'|h'
    .exact h'
    .rw[List.getElem?_eq_none h']at hu;cases hu)]
   exact hu
  | succ i =>
   rw[List.flatten_cons,List.getElem?_append_right (by rw[hx,Nat.succ_mul];omega)];have:=ih (λr hr'=>hr r (List.mem_cons_of_mem _ hr')) (i:=i) (r:=r) (by simpa using h) j u hu;rw[←this,hx]
   congr 1
   rw[Nat.succ_mul];omega
theorem ak_{rows:List (List Value)}{c:Nat}(hr:∀r∈rows,r.length=c):rows.flatten.length=rows.length*c:=by
 induction rows with
 | nil=>simp
 | cons x rows ih =>
  rw[List.flatten_cons,qLa,hr x (by simp),ih λr h=>hr r (List.mem_cons_of_mem _ h),qLc,Nat.succ_mul];omega
theorem Own.reads{rows:List (List Value)}(h:Own w base e c A n cap rows.flatten)(hr:∀r∈rows,r.length=c)(hl:rows.length=n):SlB w w.heap.size c A n rows:=by
 refine⟨hl,λhn => ?_⟩;rcases h.2 with⟨_,h2⟩|⟨g,cap',cur,hv,_,hh,h1,h2,h3,h4⟩
 .omega
 .injection hv with hA _ h5;subst hA;refine⟨g,0,rfl,?_,λi r hi=>⟨hr r (List.mem_of_getElem? hi),λj u hu => ?_⟩⟩
  .rcases Nat.lt_or_ge g w.heap.size with h'|h'
   .exact h'
   .rw[Array.getElem?_eq_none h']at hh;cases hh
  .rw[Nat.zero_add,cell_of_row w g _ cur e (0,0) hh];have:=eP_ hr hi j u hu;rw[←h4,List.getElem?_take]at this;split at this
   .simpa using this
   .cases this
end
end Go
namespace Go
namespace Rt
open Go.RowKit
def look(t:Nat):List (Nat×Value)->Option Value
 | []=>none
 | (u,v)::r=>match Nat.beq t u with
  | true=>some v
  | false=>look t r
structure Env(N:Nat)(a:Act)(env:List (Nat×Value)):Prop where
 size:a.tmps.size=N
 defers:a.defers=[]
 get:∀t v,look t env=some v->a.tmps[t]? = some v
def opv(env:List (Nat×Value)):Operand->Option Value | .tmp t=>look t env | .const v=>some v | .global g=>some (.pointer (some ⟨g,0,none⟩)) | .func f=>some (.func (.func f) #[] #[])
def Sub(env:List (Nat×Value)):List (Nat×Value)->Prop | []=>True|(t,v)::r=>look t env=some v/\Sub env r
section
variable{N:Nat}{a:Act}{env sl:List (Nat×Value)}
theorem Env.eval(h:Env N a env){x:Operand}{v:Value}(hx:opv env x=some v):a.eval x=v:=by
 cases x with
 | tmp t=>simp only[opv]at hx;simp[Act.eval,h.get t v hx]
 | const u=>simpa[opv,Act.eval]using hx
 | global g=>simpa[opv,Act.eval]using hx
 | func f=>simpa[opv,Act.eval]using hx
theorem aZ_{t u:Nat}(h:Nat.beq t u=false):t≠u:=by
 intro e;subst e;simp at h
theorem Env.put(h:Env N a env){d:Nat}(hd:Nat.blt d N=true)(v:Value):Env N (a.put (some d) v) ((d,v)::env):=by
 have hd':d<N:=by simpa using hd
 refine⟨by simpa[Act.put]using h.size,h.defers,λt u ht => ?_⟩;simp only[look]at ht;cases hb:Nat.beq t d with
 | true =>
  rw[hb]at ht;obtain rfl:t=d:=qNb hb;simp only[qOi]at ht;subst ht;simp[Act.put,h.size,hd']
 | false =>
  rw[hb]at ht;have:=h.get t u ht;simp only[Act.put];rw[Array.getElem?_setIfInBounds_ne (Ne.symm (aZ_ hb))];exact this
theorem Env.sel(h:Env N a env)(hs:Sub env sl):Env N a sl:=by
 refine⟨h.size,h.defers,λt u ht => ?_⟩
 induction sl with
 | nil=>simp[look]at ht
 | cons p r ih =>
  obtain⟨t',v'⟩:=p;simp only[look]at ht;cases hb:Nat.beq t t' with
  | true =>
   rw[hb]at ht;obtain rfl:t=t':=qNb hb;simp only[qOi]at ht;subst ht;exact h.get _ _ hs.1
  | false=>rw[hb]at ht;exact ih hs.2 ht
end
def cm_{α:Type}(P:Program):Sem α->Option α | .pure a=>some a | .program k=>cm_ P (k P)|_=>none
theorem cC_{α:Type}{P:Program}{s:Sem α}{r:α}(h:cm_ P s=some r)(w:World):s.run P w = .ok r w:=by
 induction s with
 | pure a=>simp only[cm_,qOi]at h;subst h;rfl
 | program k ih=>simp only[cm_]at h;simp only[Sem.run];exact ih P h
 | _=>simp[cm_]at h
def envρ(env:List (Nat×Value))(x:Operand):Value:=(opv env x).getD undef
def known(env:List (Nat×Value)):List Operand->Bool
 | []=>true
 | x::r=>(match opv env x with|some _=>true|none=>false)&&known env r
def hs_:Op->Bool | .select .. => true|_=>false
def evalOp(P:Program)(env:List (Nat×Value))(o:Oper):Option Next:=match known env o.op.operands.toList && !hs_ o.op with|true=>cm_ P (execOp (envρ env) o)|false=>none
theorem l7_{env:List (Nat×Value)}:∀{l:List Operand},known env l=true->∀x∈l,∃v,opv env x=some v
 | [],_,x,hx=>by cases hx
 | y::r,h,x,hx=>by
  simp only[known,qAn]at h;rcases List.mem_cons.1 hx with rfl|hx
  .cases hv:opv env x with
   | some v=>exact⟨v,rfl⟩
   | none=>rw[hv]at h;simp at h
  .exact l7_ h.2 x hx
theorem eu_{P:Program}{N:Nat}{a:Act}{env:List (Nat×Value)}{o:Oper}{r:Next}(hE:Env N a env)(h:evalOp P env o=some r)(w:World) :
  (execOp a.eval o).run P w = .ok r w:=by
 unfold evalOp at h;split at h
 .rename_i hk;simp only[qAn,Bool.not_eq_true']at hk;have hc:execOp a.eval o=execOp (envρ env) o:=by
   refine execOp_congr o (λcs b e => ?_) λx hx => ?_
   .rw[e]at hk;simp[hs_]at hk
   .obtain⟨v,hv⟩:=l7_ hk.1 x (by simpa using hx);rw[hE.eval hv];simp[envρ,hv]
  rw[hc];exact cC_ h w
 .cases h
def gate(ops:List Oper)(env:List (Nat×Value))(o:Oper):Option Bool :=
 match o.guard with
 | none=>some true
 | some (j,want)=>match(ops[j]?).bind (·.dst)with
  | none=>none
  | some d=>match look d env with
   | some (.bool b)=>some (b==want)
   | some (.tuple _)=>some false
   | _=>none
theorem hV_{N:Nat}{a:Act}{env:List (Nat×Value)}{ops:List Oper}{o:Oper}{b:Bool}(hE:Env N a env)(h:gate ops env o=some b) :
  Region.wanted o (yielded ops.toArray a.tmps)=b:=by
 unfold gate at h;unfold Region.wanted;split at h
 .rename_i hg;rw[hg];simpa using h
 .rename_i j want hg;rw[hg];simp only;split at h
  .cases h
  .rename_i d hd;have hd':(ops.toArray[j]?).bind (·.dst)=some d:=by simpa using hd
   unfold yielded;rw[hd'];simp only[qBs];cases hl:look d env with
   | none=>rw[hl]at h;cases h
   | some x =>
    rw[hl]at h;rw[hE.get _ _ hl];cases x<;>simp only[qOi,reduceCtorEq]at h ⊢
    .subst h;rename_i b';cases b'<;>cases want<;>rfl
    .subst h;cases want<;>rfl
section
variable{P:Program}{ops:List Oper}{Q:Exit->Act->World->Prop}{a:Act}{w w':World}{rest:List Oper}{o:Oper}{N:Nat}{env:List (Nat×Value)}
theorem e9_(hE:Env N a env)(hg:gate ops env o=some true)(d:Nat)(hd:o.dst=some d)(hN:Nat.blt d N=true)(v:Value)(hr:(execOp a.eval o).run P w = .ok (.value v) w')
  (h:∀a',Env N a' ((d,v)::env)->wpList P ops.toArray Q rest a' w'):wpList P ops.toArray Q (o::rest) a w:=by
 refine wpList_step λK hK => ?_
 rw[if_pos (hV_ hE hg)];unfold Oper.wp;rw[hr];show K (a.put o.dst v) w';rw[hd];exact hK _ _ (h _ (hE.put hN v))
theorem st_skip(hE:Env N a env)(hg:gate ops env o=some true)(hd:o.dst=none)(hr:(execOp a.eval o).run P w = .ok .skip w')
  (h:wpList P ops.toArray Q rest a w'):wpList P ops.toArray Q (o::rest) a w:=by
 refine wpList_step λK hK => ?_
 rw[if_pos (hV_ hE hg)];unfold Oper.wp;rw[hr];show K (a.put o.dst undef) w';rw[hd];exact hK _ _ h
theorem gN_(hE:Env N a env)(hg:gate ops env o=some true)(d:Nat)(hd:o.dst=some d)(hN:Nat.blt d N=true)(v:Value)(hv:evalOp P env o=some (.value v))
  (h:∀a',Env N a' ((d,v)::env)->wpList P ops.toArray Q rest a' w):wpList P ops.toArray Q (o::rest) a w :=
 e9_ hE hg d hd hN v (eu_ hE hv w) h
theorem st_call(hE:Env N a env)(hg:gate ops env o=some true)(d:Nat)(hd:o.dst=some d)(hN:Nat.blt d N=true)(f:FuncId)(args:Array Value)(hv:evalOp P env o=some (.enter f args))
  (R:Value->World->Prop) (hc:Calls P f args w λe w'=>∃v,e = .returned v/\R v w')
  (h:∀a' v w',R v w'->Env N a' ((d,v)::env)->wpList P ops.toArray Q rest a' w'):wpList P ops.toArray Q (o::rest) a w:=by
 refine wpList_step λK hK => ?_
 rw[if_pos (hV_ hE hg)];unfold Oper.wp;rw[eu_ hE hv w];simp only[Oper.upon];refine hc.mono λe w'' ⟨v,he,hR⟩ => ?_
 subst he;show K (a.put o.dst v) w'';rw[hd];exact hK _ _ (h _ _ _ hR (hE.put hN v))
end
inductive Res where
 | box (b:Nat) (T:TypeId) (cs:List Value)
 | row (e:TypeId) (c:Nat) (A:Option Addr) (n cap:Nat) (rows:List (List Value))
 | ro (F:Nat->Prop) (φ:World->Prop)
def Res.fp:Res->Nat->Prop | .box b _ _,k=>k=b | .row _ _ A _ _ _,k=>∃a,A=some a/\k=a.block | .ro F _,k=>F k
def Res.excl:Res->Prop | .ro .. => False|_=>True
def Local(F:Nat->Prop)(φ:World->Prop):Prop:=∀w w',w.heap.size<=w'.heap.size->(∀k,F k->w'.heap[k]? = w.heap[k]?)->φ w->φ w'
def Res.holds(w:World):Res->Prop | .box b T cs=>w.heap[b]? = some (.cells cs.toArray T (0,0)) | .row e c A n cap rows=>w.ownsRow 0 e c (.slice A n cap) n rows.flatten/\rows.length=n/\∀r∈rows,r.length=c | .ro F φ=>φ w/\Local F φ/\∀k,F k->k<w.heap.size
def Apart(r s:Res):Prop:=(r.excl\/s.excl)->∀k,r.fp k->¬s.fp k
theorem Apart.symm{r s:Res}(h:Apart r s):Apart s r:=λhe k h1 h2=>h (he.symm) k h2 h1
structure Grow(w w':World):Prop where
 os:w'.os=w.os
 tape:w'.tape=w.tape
 output:w'.output=w.output
 size:w.heap.size<=w'.heap.size
theorem Grow.refl(w:World):Grow w w:=⟨rfl,rfl,rfl,Nat.le_refl _⟩
theorem Grow.trans{a b c:World}(h:Grow a b)(k:Grow b c):Grow a c:=⟨k.os.trans h.os,k.tape.trans h.tape,k.output.trans h.output,Nat.le_trans h.size k.size⟩
theorem Grow.of_below{B:Nat}{a b:World}(h:Below B a b):Grow a b:=⟨h.os,h.tape,h.output,h.size⟩
structure Chg(Bs:List Nat)(w w':World):Prop where
 grow:Grow w w'
 block:∀k,k<w.heap.size->k∉Bs->w'.heap[k]? = w.heap[k]?
theorem Chg.below{w w':World}(h:Chg [] w w'):Below w.heap.size w w':=⟨h.grow.os,h.grow.tape,h.grow.output,h.grow.size,λk hk=>h.block k hk (by simp)⟩
theorem Chg.of_below{Bs:List Nat}{w w':World}(h:Below w.heap.size w w'):Chg Bs w w':=⟨Grow.of_below h,λk hk _=>h.block k hk⟩
structure Sep(Bs:List Nat)(w0 w:World)(L:List Res):Prop where
 chg:Chg Bs w0 w
 hold:∀r∈L,r.holds w
 own:∀r∈L,r.excl->∀k,r.fp k->w0.heap.size<=k\/k∈Bs
 apart:L.Pairwise Apart
theorem Res.holds_lt{w:World}{r:Res}(h:r.holds w):∀k,r.fp k->k<w.heap.size:=by
 intro k hk;cases r with
 | box b T cs =>
  simp only[Res.fp]at hk;subst hk;rcases Nat.lt_or_ge k w.heap.size with h'|h'
  .exact h'
  .simp only[Res.holds]at h;rw[Array.getElem?_eq_none h']at h;cases h
 | row e c A n cap xs =>
  obtain⟨a,rfl,rfl⟩:=hk;exact(World.ownsRow.lt h.1 _ rfl).2
 | ro F φ=>exact h.2.2 k hk
theorem Res.holds_keep{w w':World}{r:Res}(h:r.holds w)(hs:w.heap.size<=w'.heap.size)(hk:∀k,r.fp k->w'.heap[k]? = w.heap[k]?):r.holds w':=by
 cases r with
 | box b T cs=>simp only[Res.holds]at h ⊢;rw[hk b rfl];exact h
 | row e c A n cap xs =>
  obtain⟨h,hrest⟩:=h;refine⟨⟨h.1,?_⟩,hrest⟩;rcases h.2 with h2|⟨g,cap',cur,hv,hg,hh,r⟩
  .exact .inl h2
  .refine .inr ⟨g,cap',cur,hv,hg,?_,r⟩;injection hv with hA;rw[hk g ⟨_,hA,rfl⟩];exact hh
 | ro F φ=>exact⟨h.2.1 w w' hs hk h.1,h.2.1,λk hF=>Nat.lt_of_lt_of_le (h.2.2 k hF) hs⟩
section
variable{Bs:List Nat}{w0 w w':World}{L:List Res}
theorem Sep.start(Bs:List Nat)(w:World):Sep Bs w w []:=⟨Chg.of_below (Below.refl _ _),(λ_ h=>nomatch h),(λ_ h=>nomatch h),List.Pairwise.nil⟩
theorem Sep.size(h:Sep Bs w0 w L):w0.heap.size<=w.heap.size:=h.chg.grow.size
theorem Sep.ext(h:Sep Bs w0 w L)(hx:Ext w w'):Sep Bs w0 w' L:=by
 have hb:=hx.below;refine⟨⟨h.chg.grow.trans (Grow.of_below hb),λk hk hn=>(hb.block k (Nat.lt_of_lt_of_le hk h.size)).trans (h.chg.block k hk hn)⟩,λr hr => ?_,h.own,h.apart⟩;exact Res.holds_keep (h.hold r hr) hb.size λk hk=>hb.block k (Res.holds_lt (h.hold r hr) k hk)
theorem Sep.add(h:Sep Bs w0 w L)(hx:Ext w w'){r:Res}(hr:r.holds w')(hf:∀k,r.fp k->w.heap.size<=k):Sep Bs w0 w' (r::L):=by
 have h':=h.ext hx;refine⟨h'.chg,λs hs => ?_,λs hs he k hk => ?_,?_⟩
 .rcases List.mem_cons.1 hs with rfl|hs
  .exact hr
  .exact h'.hold s hs
 .rcases List.mem_cons.1 hs with rfl|hs
  .exact .inl (Nat.le_trans h.size (hf k hk))
  .exact h'.own s hs he k hk
 .refine List.Pairwise.cons (λs hs _ k hk hk' => ?_) h'.apart;have h1:=Res.holds_lt (h.hold s hs) k hk';have h2:=hf k hk;omega
def pick(L:List Res):List Nat->List Res
 | []=>[]
 | i::r=>match L[i]? with
  | some x=>x::pick L r
  | none=>pick L r
theorem Sep.apart_at(h:Sep Bs w0 w L){i j:Nat}{r s:Res}(hi:L[i]? = some r)(hj:L[j]? = some s)(hne:i≠j):Apart r s:=by
 obtain⟨h1,rfl⟩:=List.getElem?_eq_some_iff.1 hi;obtain⟨h2,rfl⟩:=List.getElem?_eq_some_iff.1 hj;rcases Nat.lt_or_gt_of_ne hne with hl|hl
 .exact List.pairwise_iff_getElem.1 h.apart i j h1 h2 hl
 .exact(List.pairwise_iff_getElem.1 h.apart j i h2 h1 hl).symm
def nodupB:List Nat->Bool | []=>true|i::r => !(r.contains i)&&nodupB r
theorem Sep.turn(h:Sep Bs w0 w L)(i:Nat){r r':Res}(hi:L[i]? = some r)(he:r.excl)(hr:r'.holds w')
  (hb:Grow w w') (hk:∀k,k<w.heap.size->¬r.fp k->w'.heap[k]? = w.heap[k]?) (hf:∀k,r'.fp k->r.fp k\/w.heap.size<=k):Sep Bs w0 w' (L.set i r'):=by
 have hlt:=(List.getElem?_eq_some_iff.1 hi).1;have other:∀j s,L[j]? = some s->j≠i->s.holds w':=λj s hj hne=>by
  refine Res.holds_keep (h.hold s (List.mem_of_getElem? hj)) hb.size λk hks => ?_
  refine hk k (Res.holds_lt (h.hold s (List.mem_of_getElem? hj)) k hks) λhrk => ?_
  exact h.apart_at hi hj (Ne.symm hne) (.inl he) k hrk hks
 have mem:∀s∈L.set i r',(s=r')\/∃j,L[j]? = some s/\j≠i:=λs hs=>by
  obtain⟨j,hj⟩:=List.mem_iff_getElem?.1 hs;rw[List.getElem?_set]at hj;split at hj
  .first|exact .inl (qSj hj).symm|(rw[if_pos (by omega)]at hj;exact .inl (qSj hj).symm)
  .rename_i hne;exact .inr ⟨j,hj,Ne.symm hne⟩
 have own':∀k,r'.fp k->w0.heap.size<=k\/k∈Bs:=λk hk'=>by
  rcases hf k hk' with h1|h1
  .exact h.own r (List.mem_of_getElem? hi) he k h1
  .exact .inl (Nat.le_trans h.size h1)
 have far:∀j s,L[j]? = some s->j≠i->∀k,r'.fp k->¬s.fp k:=λj s hj hne k hk' hs=>by
  rcases hf k hk' with h1|h1
  .exact h.apart_at hi hj (Ne.symm hne) (.inl he) k h1 hs
  .have:=Res.holds_lt (h.hold s (List.mem_of_getElem? hj)) k hs;omega
 refine⟨⟨h.chg.grow.trans hb,λk hk1 hn=>(hk k (Nat.lt_of_lt_of_le hk1 h.size) λhr1 => ?_).trans (h.chg.block k hk1 hn)⟩,λs hs => ?_,λs hs hse k hk' => ?_,?_⟩
 .rcases h.own r (List.mem_of_getElem? hi) he k hr1 with h1|h1
  .omega
  .exact hn h1
 .rcases mem s hs with rfl|⟨j,hj,hne⟩
  .exact hr
  .exact other j s hj hne
 .rcases mem s hs with rfl|⟨j,hj,hne⟩
  .exact own' k hk'
  .exact h.own s (List.mem_of_getElem? hj) hse k hk'
 .rw[List.pairwise_iff_getElem];intro j1 j2 h1 h2 hlt12;have e1:(L.set i r')[j1]? = some (L.set i r')[j1]:=List.getElem?_eq_getElem h1;have e2:(L.set i r')[j2]? = some (L.set i r')[j2]:=List.getElem?_eq_getElem h2;generalize(L.set i r')[j1]=x at e1 ⊢;generalize(L.set i r')[j2]=y at e2 ⊢;rw[List.getElem?_set]at e1 e2;by_cases c1:i=j1
  .rw[if_pos c1,if_pos (by omega)]at e1;rw[if_neg (by omega)]at e2;obtain rfl:=qSj e1;exact λ_ k hk1 hk2=>far j2 y e2 (by omega) k hk1 hk2
  .rw[if_neg c1]at e1;by_cases c2:i=j2
   .rw[if_pos c2,if_pos (by omega)]at e2;obtain rfl:=qSj e2;exact λ_ k hk1 hk2=>far j1 x e1 (by omega) k hk2 hk1
   .rw[if_neg c2]at e2;exact h.apart_at e1 e2 (by omega)
end
abbrev Str:=List UInt8
def S(l:Str):Value := .string ⟨l.toArray⟩
def w64(n:Int):Int:=IntKind.i64.wrap n
def cat(a b:Str):Option Str:=if a.length+b.length<=9223372036854775807 then some (a++b)else none
def ag_{α:Type}(xs:List α)(i:Int):Option α:=if 0<=i then xs[i.toNat]? else none
def setI{α:Type}(xs:List α)(i:Int)(x:α):Option (List α):=if 0<=i/\i<xs.length then some (xs.set i.toNat x)else none
def an_(s:Str)(i:Int):Option Int:=(ag_ s i).map λb=>(b.toNat:Int)
def aX_{α:Type}(xs:List α)(lo hi:Int):Option (List α):=if 0<=lo/\lo<=hi/\hi<=xs.length then some ((xs.take hi.toNat).drop lo.toNat)else none
def quoI(k:IntKind)(x y:Int):Option Int:=if y=0 then none else some (k.wrap (x.tdiv y))
def remI(x y:Int):Option Int:=if y=0 then none else some (x.tmod y)
def shlI(k:IntKind)(x y:Int):Option Int:=if y<0 then none else some (k.wrap (x*2^min y.toNat k.bits))
def shrI(k:IntKind)(x y:Int):Option Int:=if y<0 then none else some (x.fdiv (2^min y.toNat k.bits))
def bytesS(ns:List Int):Str:=ns.map λn=>UInt8.ofNat n.toNat
def room{α:Type}(bytes:Nat)(xs ys:List α):Option (List α):=if xs.length+ys.length<=9223372036854775807/\(xs.length+ys.length)*bytes<=140737488355328 then some (xs++ys)else none
def fq_{α:Type}(bytes:Nat)(z:α)(n:Int):Option (List α):=if 0<=n/\n<=9223372036854775807/\bytes*n<=281474976710656 then some (List.replicate n.toNat z)else none
theorem bind_some{α β:Type}{x:Option α}{f:α->Option β}{r:β}(h:x.bind f=some r):∃a,x=some a/\f a=some r:=by
 cases x with
 | none=>cases h
 | some a=>exact⟨a,rfl,h⟩
theorem str_eq(a b:Str):((⟨a.toArray⟩:ByteArray).toList==(⟨b.toArray⟩:ByteArray).toList)=(a==b):=by
 rw[ByteArray.toList_mk,ByteArray.toList_mk]
section
variable{P:Program}{ρ:Operand->Value}{w:World}{o:Oper}
theorem size_mk(l:Str):(⟨l.toArray⟩:ByteArray).size=l.length:=by simp[ByteArray.size]
theorem append_mk(a b:Str):((⟨a.toArray⟩:ByteArray)++⟨b.toArray⟩:ByteArray)=⟨(a++b).toArray⟩:=by
 apply ByteArray.ext;simp
theorem run_cat{t yt:TypeId}{x y:Operand}(ho:o.op = .binOp .add t x y yt){a b r:Str}(hx:ρ x=S a)(hy:ρ y=S b)(h:cat a b=some r) :
  (execOp ρ o).run P w = .ok (.value (S r)) w:=by
 unfold cat at h;split at h
 .rename_i hl;simp only[qOi]at h;subst h;unfold execOp;simp only[ho,hx,hy,S];have e2:¬((((⟨a.toArray⟩:ByteArray).size+(⟨b.toArray⟩:ByteArray).size:Nat):Int)>IntKind.i64.max):=by
   rw[size_mk,size_mk];show ¬(((a.length+b.length:Nat):Int)>9223372036854775807);omega
  simp only[eqGuard,binOp,Op.stringOp];rw[if_neg e2,append_mk];rfl
 .cases h
theorem run_str_eql{t yt:TypeId}{x y:Operand}(ho:o.op = .binOp .eql t x y yt){a b:Str}(hx:ρ x=S a)(hy:ρ y=S b) :
  (execOp ρ o).run P w = .ok (.value (.bool (a==b))) w:=by
 unfold execOp;simp only[ho,hx,hy,S];simp only[eqGuard,binOp,Op.stringOp,str_eq];rfl
theorem run_str_neq{t yt:TypeId}{x y:Operand}(ho:o.op = .binOp .neq t x y yt){a b:Str}(hx:ρ x=S a)(hy:ρ y=S b) :
  (execOp ρ o).run P w = .ok (.value (.bool (!(a==b)))) w:=by
 unfold execOp;simp only[ho,hx,hy,S];simp only[eqGuard,binOp,Op.stringOp,str_eq];rfl
theorem run_str_lss{t yt:TypeId}{x y:Operand}(ho:o.op = .binOp .lss t x y yt){a b:Str}(hx:ρ x=S a)(hy:ρ y=S b) :
  (execOp ρ o).run P w = .ok (.value (.bool (Op.bytesLess a b))) w:=by
 unfold execOp;simp only[ho,hx,hy,S];simp only[eqGuard,binOp,Op.stringOp,ByteArray.toList_mk];rfl
theorem run_str_gtr{t yt:TypeId}{x y:Operand}(ho:o.op = .binOp .gtr t x y yt){a b:Str}(hx:ρ x=S a)(hy:ρ y=S b) :
  (execOp ρ o).run P w = .ok (.value (.bool (!(Op.bytesLess a b||a==b)))) w:=by
 unfold execOp;simp only[ho,hx,hy,S];simp only[eqGuard,binOp,Op.stringOp,ByteArray.toList_mk];rfl
theorem run_byteI{t:TypeId}{x i:Operand}(ho:o.op = .index t x i)(ht:P.underlying t=some .string){a:Str}{k:IntKind}{n r:Int}(hx:ρ x=S a)(hi:ρ i = .int k n)(h:an_ a n=some r) :
  (execOp ρ o).run P w = .ok (.value (.int .u8 r)) w:=by
 unfold an_ ag_ at h;split at h
 .rename_i hn;cases hg:a[n.toNat]? with
  | none=>rw[hg]at h;cases h
  | some b =>
   rw[hg]at h;simp only[Option.map_some,qOi]at h;subst h;have e:(⟨a.toArray⟩:ByteArray)[n.toNat]? = some b:=by
    have hlt:=(List.getElem?_eq_some_iff.1 hg).1;have hb:=(List.getElem?_eq_some_iff.1 hg).2;have h1:n.toNat<(⟨a.toArray⟩:ByteArray).size:=by rw[size_mk];exact hlt
    have h2:(⟨a.toArray⟩:ByteArray)[n.toNat]'h1=b:=by
     show a.toArray[n.toNat]=b;simpa using hb
    rw[←h2];exact getElem?_pos (⟨a.toArray⟩:ByteArray) n.toNat h1
   unfold execOp;simp only[ho,hx,hi,S];simp[Instr.index,asIntOf,run_underlying ht,hn,e]
 .cases h
theorem jD_{k:IntKind}{i:Int}{y:Nat}{code:BoundsCode}(h0:0<=i)(h1:i<=y):(Instr.sliceBound (.int k i) y code).run P w = .ok i.toNat w:=by
 simp[Instr.sliceBound,asIntOf,h0,h1]
theorem extract_mk(a:Str)(l h:Nat)(hl:l<=h):(⟨a.toArray⟩:ByteArray).extract l h=⟨((a.take h).drop l).toArray⟩:=by
 apply ByteArray.ext;rw[ByteArray.data_extract];simp[List.take_drop];rw[show l+(h-l)=h by omega]
theorem ii_{α:Type}{xs r:List α}{lo hi:Int}(h:aX_ xs lo hi=some r):0<=lo/\lo<=hi/\hi<=xs.length/\r=(xs.take hi.toNat).drop lo.toNat:=by
 unfold aX_ at h;split at h
 .rename_i hc;simp only[qOi]at h;exact⟨hc.1,hc.2.1,hc.2.2,h.symm⟩
 .cases h
theorem run_bounds(isS:Bool){k1 k2:IntKind}{lo hi:Int}{n cap:Nat}(h0:0<=lo)(h1:lo<=hi)(h2:hi<=cap) :
  (Instr.sliceBounds isS n cap (some (.int k1 lo)) (some (.int k2 hi)) none).run P w = .ok (lo.toNat,hi.toNat,cap) w:=by
 simp only[Instr.sliceBounds,Sem.run_bind,Sem.run_pure,Result.andThen_ok,jD_ (P:=P) (w:=w) (i:=hi) (y:=cap) (by omega) h2,
  jD_ (P:=P) (w:=w) (i:=lo) (y:=hi.toNat) h0 (by omega)]
theorem rm_(isS:Bool){k1:IntKind}{lo:Int}{n cap:Nat}(h0:0<=lo)(h1:lo<=n) :
  (Instr.sliceBounds isS n cap (some (.int k1 lo)) none none).run P w = .ok (lo.toNat,n,cap) w:=by
 simp only[Instr.sliceBounds,Sem.run_bind,Sem.run_pure,Result.andThen_ok,jD_ (P:=P) (w:=w) (i:=lo) (y:=n) h0 h1]
theorem rn_(isS:Bool){k2:IntKind}{hi:Int}{n cap:Nat}(h0:0<=hi)(h2:hi<=cap) :
  (Instr.sliceBounds isS n cap none (some (.int k2 hi)) none).run P w = .ok (0,hi.toNat,cap) w:=by
 simp only[Instr.sliceBounds,Sem.run_bind,Sem.run_pure,Result.andThen_ok,jD_ (P:=P) (w:=w) (i:=hi) (y:=cap) h0 h2]
theorem oC_(isS:Bool){n cap:Nat} :
  (Instr.sliceBounds isS n cap none none none).run P w = .ok (0,n,cap) w:=by
 simp only[Instr.sliceBounds,Sem.run_bind,Sem.run_pure,Result.andThen_ok]
def gO_(ρ:Operand->Value):Option Operand->Option Int->Prop|none,none=>True|some x,some n=>∃k,ρ x = .int k n|_,_=>False
theorem km_(isS:Bool){lo hi:Option Operand}{l h:Option Int}{n cap:Nat}(hl:gO_ ρ lo l)(hh:gO_ ρ hi h)(h0:0<=l.getD 0)(h1:l.getD 0<=h.getD n)(h2:h.getD n<=cap) :
  (Instr.sliceBounds isS n cap (lo.map ρ) (hi.map ρ) none).run P w = .ok ((l.getD 0).toNat,(h.getD n).toNat,cap) w:=by
 cases lo<;>cases l<;>cases hi<;>cases h<;>simp only[gO_]at hl hh<;>simp only[Option.getD_some,Option.getD_none]at h0 h1 h2 ⊢
 .exact oC_ isS
 .obtain⟨k,e⟩:=hh;simp only[Option.map_none,Option.map_some,e];exact rn_ isS h1 h2
 .obtain⟨k,e⟩:=hl;simp only[Option.map_none,Option.map_some,e];exact rm_ isS h0 h1
 .obtain⟨k,e⟩:=hl;obtain⟨k',e'⟩:=hh;simp only[Option.map_some,e,e'];exact run_bounds isS h0 h1 h2
theorem run_str_sub{t:TypeId}{x:Operand}{lo hi:Option Operand}(ho:o.op = .slice t x lo hi none)(ht:P.underlying t=some .string){a r:Str}(hx:ρ x=S a){l h:Option Int}(hl:gO_ ρ lo l)(hh:gO_ ρ hi h)
  (hr:aX_ a (l.getD 0) (h.getD a.length)=some r):(execOp ρ o).run P w = .ok (.value (S r)) w:=by
 obtain⟨h0,h1,h2,rfl⟩:=ii_ hr;unfold execOp;have hb:=km_ (P:=P) (w:=w) false (n:=a.length) (cap:=a.length) hl hh h0 h1 h2;simp only[ho,hx,S,Option.map_none];simp[Instr.sliceAt,Instr.slice,run_underlying ht,size_mk,hb,extract_mk a _ _ (show(l.getD 0).toNat<=(h.getD a.length).toNat by omega)]
theorem run_quo{t yt:TypeId}{x y:Operand}{k:IntKind}{a b r:Int}(ho:o.op = .binOp .quo t x y yt)(hx:ρ x = .int k a)(hy:ρ y = .int k b)(h:quoI k a b=some r):(execOp ρ o).run P w = .ok (.value (.int k r)) w:=by
 unfold quoI at h;split at h
 .cases h
 .rename_i hb;simp only[qOi]at h;subst h;unfold execOp;simp[ho,hx,hy,eqGuard,binOp,Op.intDiv,hb]
theorem run_rem{t yt:TypeId}{x y:Operand}{k:IntKind}{a b r:Int}(ho:o.op = .binOp .rem t x y yt)(hx:ρ x = .int k a)(hy:ρ y = .int k b)(h:remI a b=some r):(execOp ρ o).run P w = .ok (.value (.int k r)) w:=by
 unfold remI at h;split at h
 .cases h
 .rename_i hb;simp only[qOi]at h;subst h;unfold execOp;simp[ho,hx,hy,eqGuard,binOp,Op.intDiv,hb]
theorem run_shl{t yt:TypeId}{x y:Operand}{k k':IntKind}{a b r:Int}(ho:o.op = .binOp .shl t x y yt)(hx:ρ x = .int k a)(hy:ρ y = .int k' b)(h:shlI k a b=some r):(execOp ρ o).run P w = .ok (.value (.int k r)) w:=by
 unfold shlI at h;split at h
 .cases h
 .rename_i hb;simp only[qOi]at h;subst h;unfold execOp;simp[ho,hx,hy,eqGuard,binOp,Op.shift,hb]
theorem run_shr{t yt:TypeId}{x y:Operand}{k k':IntKind}{a b r:Int}(ho:o.op = .binOp .shr t x y yt)(hx:ρ x = .int k a)(hy:ρ y = .int k' b)(h:shrI k a b=some r):(execOp ρ o).run P w = .ok (.value (.int k r)) w:=by
 unfold shrI at h;split at h
 .cases h
 .rename_i hb;simp only[qOi]at h;subst h;unfold execOp;simp[ho,hx,hy,eqGuard,binOp,Op.shift,hb]
end
def aggB(P:Program)(T:TypeId):Option Bool:=match P.underlying T with|some (.struct _)=>some true|some (.array _ _)=>some true|some _=>some false|none=>none
def dC_(P:Program)(T:TypeId)(cs:List Value)(off:Nat):Option Value :=
 match aggB P T,(P.info? T).map (·.size)with
 | some true,some n=>match Nat.ble (off+n) cs.length with|true=>some (.agg ((cs.drop off).take n).toArray)|false=>none
 | some false,_=>cs[off]?
 | _,_=>none
def splice(cs:List Value)(off:Nat)(vs:List Value):List Value:=cs.take off++vs++cs.drop (off+vs.length)
def dG_:Value->Bool | .agg _ | .tuple _=>false|_=>true
def bk_:List Value->Bool | []=>true|v::r=>dG_ v&&bk_ r
section
variable{P:Program}{ρ:Operand->Value}{w w0:World}{o:Oper}{Bs:List Nat}{L:List Res}
theorem jf_{T:TypeId}{b:Bool}(h:aggB P T=some b):(isAgg T).run P w = .ok b w:=by
 unfold aggB at h;cases hu:P.underlying T with
 | none=>rw[hu]at h;cases h
 | some d =>
  rw[hu]at h;unfold isAgg;rw[Sem.run_bind,run_underlying hu w];cases d<;>simp_all
theorem de_{T:TypeId}{b off base:Nat}{cs:List Value}{v:Value}(hv:dC_ P T cs off=some v)(hc:∀j u,cs[j]? = some u->w.cell? ⟨b,base+j,none⟩=some u) :
  (loadVar T ⟨b,base+off,none⟩).run P w = .ok v w:=by
 unfold dC_ at hv;cases hag:aggB P T with
 | none=>rw[hag]at hv;cases hv
 | some g =>
  rw[hag]at hv;cases g with
  | true =>
   cases hi:(P.info? T).map (·.size)with
   | none=>rw[hi]at hv;cases hv
   | some n =>
    rw[hi]at hv;simp only at hv;split at hv
    .rename_i hle;simp only[qOi]at hv;subst hv;have hle':off+n<=cs.length:=by simpa using hle
     have hlen:((cs.drop off).take n).length=n:=by simp;omega
     have hl:(loadCells ⟨b,base+off,none⟩ ((cs.drop off).take n).length).run P w = .ok ((cs.drop off).take n).toArray w :=
      run_loadCells_list (P:=P) w _ _ (λj u hu=>by
       rw[Addr.add_mk,Nat.add_assoc];refine hc _ _ ?_;rw[List.getElem?_take]at hu;split at hu
       .rw[List.getElem?_drop]at hu;exact hu
       .cases hu)
     rw[hlen]at hl;cases hq:P.info? T with
     | none=>simp[hq]at hi
     | some i =>
      have hs:i.size=n:=by simpa[hq]using hi
      simp[loadVar,Sem.run_bind,jf_ hag,sizeOf,typeInfo,hq,hs,hl]
    .cases hv
  | false =>
   simp only at hv;have:=hc _ _ hv;simp[loadVar,Sem.run_bind,jf_ hag,this]
theorem run_load{T:TypeId}{x:Operand}{ad:Addr}{v:Value}(ho:o.op = .load T x)(hx:ρ x = .pointer (some ad))(hr:(loadVar T ad).run P w = .ok v w):(execOp ρ o).run P w = .ok (.value v) w:=by
 unfold execOp;simp[ho,hx,Instr.loadAt,Instr.sureAddr,hr]
theorem Sep.box_cell{i b:Nat}{T:TypeId}{cs:List Value}(h:Sep Bs w0 w L)(hi:L[i]? = some (.box b T cs)):∀j u,cs[j]? = some u->w.cell? ⟨b,0+j,none⟩=some u:=by
 intro j u hu;have:=h.hold _ (List.mem_of_getElem? hi);rw[Nat.zero_add,cell_of_row w b j cs.toArray T (0,0) this];simpa using hu
theorem run_load_box{T T':TypeId}{x:Operand}{i b off:Nat}{cs:List Value}{v:Value}(ho:o.op = .load T x)(hx:ρ x = .pointer (some ⟨b,off,none⟩))(h:Sep Bs w0 w L)(hi:L[i]? = some (.box b T' cs))
  (hv:dC_ P T cs off=some v):(execOp ρ o).run P w = .ok (.value v) w:=by
 have:=de_ (base:=0) hv (h.box_cell hi);rw[Nat.zero_add]at this;exact run_load ho hx this
end
section
variable{P:Program}{ρ:Operand->Value}{w w' w0:World}{o:Oper}{Bs:List Nat}{L:List Res}
theorem Ext.one(w:World)(ob:Obj):Ext w (w.alloc ob):=(Ext.refl w).alloc ob
theorem Sep.box_new(h:Sep Bs w0 w L)(T:TypeId)(cs:List Value):Sep Bs w0 (w.alloc (.cells cs.toArray T)) (.box w.heap.size T cs::L) :=
 h.add (Ext.one w _) (heap_alloc_new w _) (λk hk=>by simp only[Res.fp]at hk;omega)
def zeroOf(P:Program)(T:TypeId):Option (List Value):=match P.info? T with|some i=>(match i.zero with|some z=>some z.cells.toList|none=>none)|none=>none
theorem ij_{T:TypeId}{zs:List Value}(ho:o.op = .alloc T)(hz:zeroOf P T=some zs):(execOp ρ o).run P w = .ok (.value (.pointer (some ⟨w.heap.size,0,none⟩))) (w.alloc (.cells zs.toArray T)):=by
 unfold zeroOf at hz;split at hz
 .rename_i i hi;split at hz
  .rename_i z hzz;simp only[qOi]at hz;subst hz;unfold execOp;simp[ho,Instr.alloc,zeroValue,typeInfo,hi,hzz,newVar,newRow]
  .cases hz
 .cases hz
theorem run_box{T:TypeId}{x:Operand}{v:Value}(ho:o.op = .box T x)(hx:ρ x=v):(execOp ρ o).run P w = .ok (.value (.pointer (some ⟨w.heap.size,0,none⟩))) (w.alloc (.cells v.cells T)):=by
 unfold execOp;simp[ho,hx,Instr.box,newVar,newRow]
theorem setRow_size(w:World)(g:Nat)(cs:Array Value):(w.setRow g cs).heap.size=w.heap.size:=by simp[World.setRow]
theorem bS_(w:World)(g k:Nat)(cs:Array Value)(h:k≠g):(w.setRow g cs).heap[k]? = w.heap[k]? := by
 simp only[World.setRow,Array.getElem?_modify];rw[if_neg (λe=>h e.symm)]
theorem cw_(w:World)(g:Nat)(cs:Array Value):Grow w (w.setRow g cs):=⟨rfl,rfl,rfl,by rw[setRow_size];exact Nat.le_refl _⟩
def aB_(P:Program)(T:TypeId):Option Nat:=(P.info? T).map (·.size)
theorem run_storeVar{T:TypeId}{v:Value}{g off:Nat}{T':TypeId}{cs:List Value}(hg:w.heap[g]? = some (.cells cs.toArray T' (0,0)))(hs:aB_ P T=some v.cells.size)(hle:off+v.cells.size<=cs.length)
  (h1:∀u∈v.cells.toList,u.oneCell'=true):(storeVar T ⟨g,off,none⟩ v).run P w = .ok () (w.setRow g (splice cs off v.cells.toList).toArray):=by
 have h:=run_storeCells_at (P:=P) g off T' v.cells.toList 0 cs.toArray w hg (by simpa using hle) h1;simp only[Nat.add_zero]at h;unfold aB_ at hs;cases hq:P.info? T with
 | none=>simp[hq]at hs
 | some i =>
  have hs':i.size=v.cells.size:=by simpa[hq]using hs
  simp[storeVar,sizeOf,typeInfo,hq,hs',h,splice]
theorem ed_{l:List Value}(h:bk_ l=true):∀u∈l,u.oneCell'=true:=by
 induction l with
 | nil=>intro u hu;cases hu
 | cons v r ih =>
  simp only[bk_,qAn]at h;intro u hu;rcases List.mem_cons.1 hu with rfl|hu
  .cases u<;>simp_all [dG_,Value.oneCell']
  .exact ih h.2 u hu
theorem dD_{T:TypeId}{x y:Operand}{v:Value}{g off:Nat}{T':TypeId}{cs:List Value}(ho:o.op = .store T x y)(hx:ρ x = .pointer (some ⟨g,off,none⟩))(hy:ρ y=v)
  (hg:w.heap[g]? = some (.cells cs.toArray T' (0,0))) (hs:aB_ P T=some v.cells.size) (hle:Nat.ble (off+v.cells.size) cs.length=true) (h1:bk_ v.cells.toList=true) :
  (execOp ρ o).run P w = .ok .skip (w.setRow g (splice cs off v.cells.toList).toArray):=by
 have h:=run_storeVar (P:=P) (w:=w) hg hs (by simpa using hle) (ed_ h1);unfold execOp;simp[ho,hx,hy,Instr.storeAt,Instr.sureAddr,h]
theorem dH_(w:World)(g:Nat)(cs cs':Array Value)(t:TypeId)(hg:w.heap[g]? = some (.cells cs' t (0,0))):(w.setRow g cs).heap[g]? = some (.cells cs t (0,0)):=setRow_heap w g cs' cs t _ hg
theorem ro_{T:TypeId}{x y:Operand}{v:Value}{i b off:Nat}{T':TypeId}{cs:List Value}(ho:o.op = .store T x y)(hx:ρ x = .pointer (some ⟨b,off,none⟩))(hy:ρ y=v)
  (h:Sep Bs w0 w L) (hi:L[i]? = some (.box b T' cs)) (hs:aB_ P T=some v.cells.size) (hle:Nat.ble (off+v.cells.size) cs.length=true) (h1:bk_ v.cells.toList=true) {cs':List Value} (hc:splice cs off v.cells.toList=cs') :
  ∃w',(execOp ρ o).run P w = .ok .skip w'/\Sep Bs w0 w' (L.set i (.box b T' cs'))/\Grow w w'/\∀k,k≠b->w'.heap[k]? = w.heap[k]? := by
 subst hc;have hg:=h.hold _ (List.mem_of_getElem? hi);refine⟨_,dD_ ho hx hy hg hs hle h1,?_,cw_ w b _,λk hk=>bS_ w b k _ hk⟩;exact h.turn i hi trivial (dH_ w b _ _ T' hg) (cw_ w b _) (λk _ hk=>bS_ w b k _ hk) (λk hk => .inl hk)
def SlF(F:Nat->Prop)(c:Nat)(A:Option Addr)(n:Nat)(rows:List (List Value))(w:World):Prop :=
 rows.length=n/\(0<n->∃b off,A=some ⟨b,off,none⟩/\F b /\
  ∀i r,rows[i]? = some r->r.length=c/\∀j u,r[j]? = some u->w.cell? ⟨b,off+i*c+j,none⟩=some u)
theorem SlF.local{F:Nat->Prop}{c n:Nat}{A:Option Addr}{rows:List (List Value)}:Local F (SlF F c A n rows):=by
 intro w w' _ hk h;refine⟨h.1,λhn => ?_⟩;obtain⟨b,off,e,hb,hc⟩:=h.2 hn;exact⟨b,off,e,hb,λi r hr=>⟨(hc i r hr).1,λj u hu=>(World.cell?_of_block (w:=w) (hk b hb)).trans ((hc i r hr).2 j u hu)⟩⟩
theorem SlF.nil(F:Nat->Prop)(c:Nat)(A:Option Addr)(w:World):SlF F c A 0 [] w:=⟨rfl,λh=>absurd h (by omega)⟩
theorem SlF.take{F:Nat->Prop}{c n:Nat}{A:Option Addr}{rows:List (List Value)}(h:SlF F c A n rows w){k:Nat}(hk:k<=n):SlF F c A k (rows.take k) w:=by
 refine⟨by rw[List.length_take,h.1];omega,λhn => ?_⟩;obtain⟨b,off,e,hb,hc⟩:=h.2 (by omega);refine⟨b,off,e,hb,λi r hr=>hc i r ?_⟩;rw[List.getElem?_take]at hr;split at hr
 .exact hr
 .cases hr
theorem SlF.drop{F:Nat->Prop}{c n:Nat}{A:Option Addr}{rows:List (List Value)}(h:SlF F c A n rows w){k cap:Nat}(hk:k<=n)(hcap:n<=cap) :
  SlF F c (if cap=k then A else A.map (·.add (k*c))) (n-k) (rows.drop k) w:=by
 refine⟨by rw[List.length_drop,h.1],λhn => ?_⟩;obtain⟨b,off,rfl,hb,hc⟩:=h.2 (by omega);rw[if_neg (by omega)];refine⟨b,off+k*c,by simp[Addr.add_mk],hb,λi r hr => ?_⟩;rw[List.getElem?_drop]at hr;obtain⟨h1,h2⟩:=hc _ r hr;refine⟨h1,λj u hu => ?_⟩;have:=h2 j u hu;rw[Nat.add_mul,←Nat.add_assoc]at this;exact this
def bA_(A:Option Addr)(k:Nat):Prop:=∃a,A=some a/\k=a.block
theorem cd_{e c n cap:Nat}{A:Option Addr}{rows:List (List Value)}(h:Res.holds w (.row e c A n cap rows)):SlF (bA_ A) c A n rows w:=by
 obtain⟨ho,hl,hr⟩:=h;have h:=Own.reads (rows:=rows) ho hr hl;refine⟨h.1,λhn => ?_⟩;obtain⟨b,off,hA,hb,hc⟩:=h.2 hn;exact⟨b,off,hA,⟨_,hA,rfl⟩,hc⟩
theorem df_{α:Type}{xs:List α}{i:Int}{x:α}(h:ag_ xs i=some x):0<=i/\xs[i.toNat]? = some x/\i.toNat<xs.length:=by
 unfold ag_ at h;split at h
 .rename_i h0;exact⟨h0,h,(List.getElem?_eq_some_iff.1 h).1⟩
 .cases h
theorem gd_{t e:TypeId}{x y:Operand}{k:IntKind}{i:Int}{c n cap:Nat}{A:Option Addr}{rows:List (List Value)}{F:Nat->Prop}{α:Type}{xs:List α}{d:α}
  (ho:o.op = .indexAddr t x y) (ht:P.underlying t=some (.slice e)) (hc:aB_ P e=some c) (hx:ρ x = .slice A n cap) (hy:ρ y = .int k i) (hs:SlF F c A n rows w) (hn:xs.length=n) (hd:ag_ xs i=some d) :
  ∃b off,A=some ⟨b,off,none⟩/\(execOp ρ o).run P w = .ok (.value (.pointer (some ⟨b,off+i.toNat*c,none⟩))) w:=by
 obtain⟨h0,_,hlt⟩:=df_ hd;obtain⟨b,off,hA,_,_⟩:=hs.2 (by omega);refine⟨b,off,hA,?_⟩;subst hA;unfold aB_ at hc;cases hq:P.info? e with
 | none=>simp[hq]at hc
 | some inf =>
  have hs':inf.size=c:=by simpa[hq]using hc
  unfold execOp;simp[ho,hx,hy,Instr.indexAt,asIntOf,run_underlying ht,sizeOf,typeInfo,hq,hs',h0,Addr.add_mk];omega
theorem rp_{T:TypeId}{x:Operand}{b off p c n j:Nat}{A:Option Addr}{rows:List (List Value)}{F:Nat->Prop}{i:Nat}{r:List Value}{v:Value}
  (ho:o.op = .load T x) (hx:ρ x = .pointer (some ⟨b,p,none⟩)) (hs:SlF F c A n rows w) (hA:A=some ⟨b,off,none⟩) (hr:rows[i]? = some r) (hp:p=off+i*c+j) (hv:dC_ P T r j=some v) :
  (execOp ρ o).run P w = .ok (.value v) w:=by
 have hlt:=(List.getElem?_eq_some_iff.1 hr).1;obtain⟨b',off',hA',_,hc⟩:=hs.2 (by rw[←hs.1];omega);rw[hA]at hA';simp only[qOi,Addr.mk.injEq]at hA';obtain⟨rfl,rfl,_⟩:=hA';have:=de_ (P:=P) (T:=T) (base:=off+i*c) hv (λj u hu=>(hc i r hr).2 j u hu);subst hp;exact run_load ho hx this
def i7_{α:Type}(P:Program)(r:Nat):Sem α->Option (Obj×α)
 | .program k=>i7_ P r (k P)
 | .new ob k=>match cm_ P (k r)with
  | some v=>some (ob,v)
  | none=>none
 | _=>none
theorem evalNew_run{α:Type}{P:Program}{s:Sem α}{w:World}{ob:Obj}{v:α}(h:i7_ P w.heap.size s=some (ob,v)):s.run P w = .ok v (w.alloc ob):=by
 induction s with
 | program k ih=>simp only[i7_]at h;simp only[Sem.run];exact ih P h
 | new o' k =>
  simp only[i7_]at h;split at h
  .rename_i v' hv;simp only[qOi,Prod.mk.injEq]at h;obtain⟨rfl,rfl⟩:=h;simp only[Sem.run];exact cC_ hv _
  .cases h
 | _=>simp[i7_]at h
def jE_(P:Program)(env:List (Nat×Value))(r:Nat)(o:Oper):Option (Obj×Next):=match known env o.op.operands.toList && !hs_ o.op with|true=>i7_ P r (execOp (envρ env) o)|false=>none
theorem lU_{N:Nat}{a:Act}{env:List (Nat×Value)}{ob:Obj}{r:Next}(hE:Env N a env)(h:jE_ P env w.heap.size o=some (ob,r)):(execOp a.eval o).run P w = .ok r (w.alloc ob):=by
 unfold jE_ at h;split at h
 .rename_i hk;simp only[qAn,Bool.not_eq_true']at hk;have hc:execOp a.eval o=execOp (envρ env) o:=by
   refine execOp_congr o (λcs b e => ?_) λx hx => ?_
   .rw[e]at hk;simp[hs_]at hk
   .obtain⟨v,hv⟩:=l7_ hk.1 x (by simpa using hx);rw[hE.eval hv];simp[envρ,hv]
  rw[hc];exact evalNew_run h
 .cases h
theorem Sep.row_new(h:Sep Bs w0 w L)(e c n:Nat)(rows:List (List Value))(hn:rows.length=n)(hr:∀r∈rows,r.length=c)(hm:Nat.ble n 9223372036854775807=true) :
  Sep Bs w0 (w.alloc (.cells rows.flatten.toArray e)) (.row e c (some ⟨w.heap.size,0,none⟩) n n rows::L):=by
 have hm':n<=maxLen:=by have:=Nat.le_of_ble_eq_true hm;unfold maxLen;omega
 refine h.add (Ext.one w _) ⟨?_,hn,hr⟩ (λk hk => ?_)
 .have:=World.ownsRow_lit (base:=0) (e:=e) (size:=c) w rows.flatten.toArray n (Nat.zero_le _) hm' (by simp only[List.size_toArray];rw[ak_ hr,hn]);simpa using this
 .obtain⟨a,ha,rfl⟩:=hk;simp only[qOi]at ha;subst ha;exact Nat.le_refl _
def kn_(P:Program)(t e c bytes:Nat):Prop:=P.underlying t=some (.slice e)/\∃i z,P.info? e=some i/\i.zero=some z/\i.size=c/\i.bytes=bytes/\z.cells.size=c/\0<c
def elemB(P:Program)(e c bytes:Nat):Bool:=match P.info? e with
 | some i=>(match i.zero with|some z=>Nat.beq z.cells.size c|none=>false)&&Nat.beq i.size c&&Nat.beq i.bytes bytes&&Nat.blt 0 c
 | none=>false
theorem ko_{t e c bytes:Nat}(hu:P.underlying t=some (.slice e))(h:elemB P e c bytes=true):kn_ P t e c bytes:=by
 refine⟨hu,?_⟩;unfold elemB at h;split at h
 .rename_i i hi;simp only[qAn]at h;obtain⟨⟨⟨h1,h2⟩,h3⟩,h4⟩:=h;split at h1
  .rename_i z hz;exact⟨i,z,hi,hz,qNb h2,qNb h3,qNb h1,by simpa using h4⟩
  .cases h1
 .cases h
theorem ik_{α:Type}{bytes:Nat}{xs ys r:List α}(h:room bytes xs ys=some r):xs.length+ys.length<=9223372036854775807/\(xs.length+ys.length)*bytes<=140737488355328/\r=xs++ys:=by
 unfold room at h;split at h
 .rename_i hc;simp only[qOi]at h;exact⟨hc.1,hc.2,h.symm⟩
 .cases h
def i8_(rows:List (List Value)):Prop:=∀r∈rows,bk_ r=true
theorem jg_{rows:List (List Value)}(h:i8_ rows):∀u∈rows.flatten,u.oneCell'=true:=by
 intro u hu;obtain⟨r,hr,hur⟩:=List.mem_flatten.1 hu;exact ed_ (h r hr) u hur
theorem kQ_{t e c bytes:Nat}{x y:Operand}{k n cap m cap2:Nat}{A A2:Option Addr}{rows news:List (List Value)}{F:Nat->Prop}{α:Type}{xs ys r:List α}
  (ho:o.op = .call { callee := .builtin .append,args := #[x,y],argTypes := #[t,t] }) (hel:kn_ P t e c bytes) (hx:ρ x = .slice A n cap) (hy:ρ y = .slice A2 m cap2)
  (h:Sep Bs w0 w L) (hi:L[k]? = some (.row e c A n cap rows)) (hs:SlF F c A2 m news w) (hone:i8_ news) (hxn:xs.length=n) (hym:ys.length=m) (hr:room bytes xs ys=some r) (hnl:∀q∈news,q.length=c) :
  ∃A' cap' w',(execOp ρ o).run P w = .ok (.value (.slice A' (n+m) cap')) w'/\Sep Bs w0 w' (L.set k (.row e c A' (n+m) cap' (rows++news)))/\Grow w w'/\(∀q,q<w.heap.size->¬bA_ A q->w'.heap[q]? = w.heap[q]?):=by
 obtain⟨hu,i,z,hinf,hz,hsz,hby,hzs,hpos⟩:=hel;obtain⟨hown,hlen,hrl⟩:=h.hold _ (List.mem_of_getElem? hi);obtain⟨h1,h2,_⟩:=ik_ hr;have hop:execOp ρ o=(do pure (.value (←Builtin.append_ #[t,t] o.type #[ρ x,ρ y]))):=by
  obtain⟨dst,op,ty',pos,after,guard⟩:=o;simp only at ho;subst ho;rw[BigFrame.execOp_builtin,BigFrame.builtin_append];simp only[List.map_toArray,List.map_cons,List.map_nil]
 have hfl:news.flatten.length=m*c:=by rw[ak_ hnl,hs.1]
 have main:∃v' w',(Builtin.append_ #[t,t] o.type #[.slice A n cap,.slice A2 m cap2]).run P w = .ok v' w'/\w'.ownsRow 0 e c v' (n+m) (rows.flatten++news.flatten)/\w.grownBy w' (Value.slice A n cap).ownBlock/\(v'.ownBlock=(Value.slice A n cap).ownBlock\/v'.ownBlock=some w.heap.size):=by
  cases A2 with
  | none =>
   have hm0:m=0:=by
    rcases Nat.eq_zero_or_pos m with h0|h0
    .exact h0
    .obtain⟨b,off,hh,_⟩:=hs.2 h0;cases hh
   subst hm0;have hn0:news.flatten=[]:=List.eq_nil_of_length_eq_zero (by rw[hfl];simp);refine⟨.slice A n cap,w,?_,by rw[hn0];simpa using hown,World.grownBy.refl w _,.inl rfl⟩;rcases hown.2 with⟨hv,hn⟩|⟨g,cap',cur,hv,_,_,hnc,_⟩
   .injection hv with e1 e2 e3;subst e1;subst e2;subst e3;simp[Builtin.append_,run_underlying hu,sizeOf,typeInfo,hinf,Builtin.lenOf,Builtin.firstCells]
   .injection hv with e1 e2 e3;subst e1;subst e3;simp[Builtin.append_,run_underlying hu,sizeOf,typeInfo,hinf,Builtin.lenOf,Builtin.firstCells,hnc,storeCells]
  | some ad =>
   have hcells:∀j u,news.flatten[j]? = some u->w.cell? (ad.add j)=some u:=by
    intro j u hu;have hjl:j<m*c:=by rw[←hfl];exact(List.getElem?_eq_some_iff.1 hu).1
    have hm0:0<m:=by rcases Nat.eq_zero_or_pos m with h0|h0;(subst h0;omega);exact h0
    obtain⟨b,off,hA,_,hc⟩:=hs.2 hm0;simp only[qOi]at hA;subst hA;have hq:j/c<news.length:=by rw[hs.1];exact Nat.div_lt_of_lt_mul (by rw[Nat.mul_comm];exact hjl)
    have hrow:=hc (j/c) _ (List.getElem?_eq_getElem hq);have hmod:j%c<c:=Nat.mod_lt _ hpos;have hju:=eP_ hnl (List.getElem?_eq_getElem hq) (j%c) (news[j/c][j%c]'(by rw[hrow.1];exact hmod)) (List.getElem?_eq_getElem _);have hj:j/c*c+j%c=j:=by rw[Nat.mul_comm];exact Nat.div_add_mod j c
    rw[hj,hu]at hju;have hcell:=hrow.2 (j%c) _ (List.getElem?_eq_getElem (by rw[hrow.1];exact hmod));rw[Nat.add_assoc,hj]at hcell;rw[Addr.add_mk,hcell,hju]
   obtain⟨v',w',hrun,ho',hg,_,h5⟩:=run_append_own_at (P:=P) w 0 t o.type e i z c bytes hu hinf hz hsz hby hzs hpos (.slice A n cap) n rows.flatten hown ad m cap2 news.flatten hfl hcells (jg_ hone)
    (by unfold maxLen;omega) (by rw[←hxn,←hym];exact h2) (Nat.zero_le _)
   exact⟨v',w',hrun,ho',hg,h5⟩
 obtain⟨v',w',hrun,ho',hg,h5⟩:=main;obtain⟨A',cap',rfl⟩:=own_form ho';have hb:Grow w w':=⟨hg.os,hg.tape,hg.output,hg.size⟩;have hk:∀q,q<w.heap.size->¬bA_ A q->w'.heap[q]? = w.heap[q]? := λq hq hnq=>hg.block q hq λhe=>hnq (by
  cases A with
  | none=>simp[Value.ownBlock]at he
  | some ad=>simp[Value.ownBlock]at he;exact⟨ad,rfl,he⟩)
 refine⟨A',cap',w',?_,?_,hb,hk⟩
 .rw[hop,hx,hy];simp[hrun]
 .refine h.turn k hi trivial ⟨by rw[List.flatten_append];exact ho',by rw[qLa,hlen,hs.1],λq hq => ?_⟩ hb hk (λq hq => ?_)
  .rcases List.mem_append.1 hq with hq|hq
   .exact hrl q hq
   .exact hnl q hq
  .obtain⟨ad,rfl,rfl⟩:=hq;rcases h5 with h5|h5
   .cases A with
    | none=>simp[Value.ownBlock]at h5
    | some ad2=>simp[Value.ownBlock]at h5;exact .inl ⟨ad2,rfl,h5⟩
   .simp[Value.ownBlock]at h5;exact .inr (by omega)
theorem kR_{α:Type}{bytes:Nat}{z:α}{n:Int}{r:List α}(h:fq_ bytes z n=some r):0<=n/\n<=9223372036854775807/\bytes*n<=281474976710656/\r=List.replicate n.toNat z:=by
 unfold fq_ at h;split at h
 .rename_i hc;simp only[qOi]at h;exact⟨hc.1,hc.2.1,hc.2.2,h.symm⟩
 .cases h
theorem dy_(zs:List Value)(n:Nat):(List.replicate n zs).flatten=(madeCells zs.toArray (n*zs.length)).toList:=by
 apply List.ext_getElem?;intro j;have hl:∀r∈List.replicate n zs,r.length=zs.length:=λr hr=>by rw[List.eq_of_mem_replicate hr]
 by_cases hj:j<n*zs.length
 .have hz:0<zs.length:=by
   rcases Nat.eq_zero_or_pos zs.length with h|h
   .rw[h]at hj;omega
   .exact h
  have hm:j%zs.length<zs.length:=Nat.mod_lt _ hz;have hq:j/zs.length<n:=Nat.div_lt_of_lt_mul (by rw[Nat.mul_comm];exact hj);have:=eP_ hl (i:=j/zs.length) (r:=zs) (by rw[List.getElem?_replicate,if_pos hq]) (j%zs.length) _ (List.getElem?_eq_getElem hm);rw[Nat.mul_comm,Nat.div_add_mod]at this;rw[this];simp[madeCells,hj,hm]
 .rw[List.getElem?_eq_none (by rw[ak_ hl,List.length_replicate];omega),List.getElem?_eq_none (by simp[madeCells];omega)]
theorem run_makeSlice_full{t e c bytes:Nat}{x y:Operand}{k1 k2:IntKind}{n:Int}{zs:List Value}{α:Type}{z:α}{r:List α}(ho:o.op = .makeSlice t x y)(hel:kn_ P t e c bytes)(hz:zeroOf P e=some zs)
  (hx:ρ x = .int k1 n) (hy:ρ y = .int k2 n) (h:Sep Bs w0 w L) (hr:fq_ bytes z n=some r) :
  ∃A' w',(execOp ρ o).run P w = .ok (.value (.slice A' n.toNat n.toNat)) w'/\Sep Bs w0 w' (.row e c A' n.toNat n.toNat (List.replicate n.toNat zs)::L)/\Ext w w':=by
 obtain⟨hu,i,z',hi,hzz,hsz,hby,hzs,hpos⟩:=hel;obtain⟨h0,h1,h2,_⟩:=kR_ hr;subst hsz;subst hby;have hzl:zs=z'.cells.toList:=by
  simp only[zeroOf,hi,hzz,qOi]at hz;exact hz.symm
 have hm:=Go.run_make (P:=P) (w:=w) t e i z' hu hi hzz k1 k2 n n h0 (Int.le_refl _) h2 h1;have hlen:zs.length=i.size:=by rw[hzl,Array.length_toList];exact hzs
 have hfl:(madeCells z'.cells (n.toNat*i.size))=(List.replicate n.toNat zs).flatten.toArray:=by
  rw[dy_,hlen,hzl]
 have hrow:=h.row_new e i.size n.toNat (List.replicate n.toNat zs) (by simp) (λr hr=>by rw[List.eq_of_mem_replicate hr,hlen]) (by apply Nat.ble_eq_true_of_le;omega);refine⟨some ⟨w.heap.size,0,none⟩,w.alloc (.cells (List.replicate n.toNat zs).flatten.toArray e),?_,hrow,Ext.one w _⟩;unfold execOp;rw[hfl]at hm;simp[ho,hx,hy,hm]
theorem nC_{t e c bytes:Nat}{x y:Operand}{k1 k2:IntKind}{n:Int}{α:Type}{z:α}{r:List α}(ho:o.op = .makeSlice t x y)(hel:kn_ P t e c bytes)
  (hx:ρ x = .int k1 0) (hy:ρ y = .int k2 n) (h:Sep Bs w0 w L) (hr:fq_ bytes z n=some r) :
  ∃A' w',(execOp ρ o).run P w = .ok (.value (.slice A' 0 n.toNat)) w'/\Sep Bs w0 w' (.row e c A' 0 n.toNat []::L)/\Ext w w':=by
 obtain⟨hu,i,z',hi,hzz,hsz,hby,hzs,hpos⟩:=hel;obtain⟨h0,h1,h2,_⟩:=kR_ hr;subst hsz;subst hby;have hm:=Go.run_make (P:=P) (w:=w) t e i z' hu hi hzz k1 k2 0 n (Int.le_refl _) h0 h2 h1;refine⟨some ⟨w.heap.size,0,none⟩,w.alloc (.cells (madeCells z'.cells (n.toNat*i.size)) e),?_,?_,Ext.one w _⟩
 .unfold execOp;simp[ho,hx,hy,hm]
 .refine h.add (Ext.one w _) ⟨?_,rfl,λr hr=>by cases hr⟩ (λk hk => ?_)
  .exact World.ownsRow_made (base:=0) (e:=e) w _ n.toNat (Nat.zero_le _) (by unfold maxLen;omega) (by simp[madeCells])
  .obtain⟨a,ha,rfl⟩:=hk;simp only[qOi]at ha;subst ha;exact Nat.le_refl _
theorem nF_{c:Nat}:∀{rows:List (List Value)} {i:Nat} {r r':List Value},(∀r∈rows,r.length=c)->rows[i]? = some r->r'.length=c ->
  (rows.set i r').flatten=rows.flatten.take (i*c)++r'++rows.flatten.drop (i*c+c)
 | [],i,r,r',_,h,_=>by simp at h
 | x::rows,0,r,r',hr,h,hl=>by
  have hx:x.length=c:=hr x (by simp);simp[List.flatten_cons,←hx]
 | x::rows,i+1,r,r',hr,h,hl=>by
  have hx:x.length=c:=hr x (by simp);have ih:=nF_ (rows:=rows) (i:=i) (r:=r) (r':=r') (λr h=>hr r (List.mem_cons_of_mem _ h)) (by simpa using h) hl;simp only[List.set_cons_succ,List.flatten_cons,ih];have e1:(i+1)*c=x.length+i*c:=by rw[hx,Nat.succ_mul];omega
  rw[e1,List.take_length_add_append,Nat.add_assoc,List.drop_length_add_append];simp[List.append_assoc]
theorem kp_{T:TypeId}{x y:Operand}{v:Value}{k e c n cap b off p j i:Nat}{A:Option Addr}{rows:List (List Value)}{r r':List Value}
  (ho:o.op = .store T x y) (hx:ρ x = .pointer (some ⟨b,p,none⟩)) (hy:ρ y=v) (h:Sep Bs w0 w L) (hi:L[k]? = some (.row e c A n cap rows)) (hA:A=some ⟨b,off,none⟩) (hr:rows[i]? = some r)
  (hp:p=off+i*c+j) (hs:aB_ P T=some v.cells.size) (hle:Nat.ble (j+v.cells.size) c=true) (h1:bk_ v.cells.toList=true) (hr':splice r j v.cells.toList=r') :
  ∃w',(execOp ρ o).run P w = .ok .skip w'/\Sep Bs w0 w' (L.set k (.row e c A n cap (rows.set i r')))/\Grow w w'/\∀q,q≠b->w'.heap[q]? = w.heap[q]? := by
 obtain⟨hown,hlen,hrl⟩:=h.hold _ (List.mem_of_getElem? hi);have hilt:=(List.getElem?_eq_some_iff.1 hr).1;have hrc:r.length=c:=hrl r (List.mem_of_getElem? hr);have hle':j+v.cells.size<=c:=by simpa using hle
 rcases hown.2 with⟨_,h0⟩|⟨g,cap',cur,hv,_,hh,hnc,hcm,hcs,htk⟩
 .omega
 .injection hv with e1 _ e3;subst e3;rw[hA]at e1;simp only[qOi,Addr.mk.injEq]at e1;obtain⟨rfl,rfl,_⟩:=e1;have hin:i*c+c<=n*c:=by rw[←Nat.succ_mul];exact Nat.mul_le_mul_right c (by omega)
  have hnc':n*c<=cap*c:=Nat.mul_le_mul_right c hnc;have hfit:p+v.cells.size<=cur.toList.length:=by rw[Array.length_toList,hcs];omega
  have hst:=dD_ (P:=P) (w:=w) ho hx hy (cs:=cur.toList) (T':=e) (by simpa using hh) hs (by apply Nat.ble_eq_true_of_le;exact hfit) h1;have hr'l:r'.length=c:=by
   subst hr';unfold splice;simp only[qLa,List.length_take,List.length_drop,Array.length_toList];omega
  have hflat:(rows.set i r').flatten=(splice cur.toList p v.cells.toList).take (n*c):=by
   rw[nF_ hrl hr hr'l,←htk,←hr'];have hrv:r=(cur.toList.drop (i*c)).take c:=by
    apply List.ext_getElem?;intro q;by_cases hq:q<c
    .have:=eP_ hrl hr q _ (List.getElem?_eq_getElem (by rw[hrc];exact hq));rw[←htk,List.getElem?_take]at this;rw[if_pos (by omega)]at this;rw[List.getElem?_eq_getElem (by rw[hrc];exact hq),List.getElem?_take,if_pos hq,List.getElem?_drop,this]
    .rw[List.getElem?_eq_none (by omega),List.getElem?_eq_none (by simp;omega)]
   rw[hrv];subst hp
   apply List.ext_getElem?;intro q;simp only[splice,List.getElem?_append,List.getElem?_take,List.getElem?_drop,List.length_take,List.length_drop,qLa,Array.length_toList];have hsz:cur.size=cap*c:=hcs
   repeat' split
   all_goals first
    | rfl
    | omega
    | (congr 1;omega)
    | (exfalso;omega)
  refine⟨_,hst,?_,cw_ w b _,λq hq=>bS_ w b q _ hq⟩;refine h.turn k hi trivial ⟨⟨?_,.inr ⟨b,cap,(splice cur.toList p v.cells.toList).toArray,by rw[hA],Nat.zero_le _,dH_ w b _ cur e hh,hnc,hcm,?_,?_⟩⟩,by simpa using hlen,?_⟩ (cw_ w b _)
   (λq _ hq=>bS_ w b q _ (λe=>hq (by subst e;exact⟨_,hA,rfl⟩))) (λq hq => .inl hq)
  .rw[ak_ (c:=c),List.length_set,hlen];intro q hq;rcases List.mem_or_eq_of_mem_set hq with h'|h'
   .exact hrl q h'
   .rw[h'];exact hr'l
  .simp only[List.size_toArray,splice,qLa,List.length_take,List.length_drop,Array.length_toList];omega
  .rw[hflat]
  .intro q hq;rcases List.mem_or_eq_of_mem_set hq with h'|h'
   .exact hrl q h'
   .rw[h'];exact hr'l
theorem foldl_push(ns:List Int):∀(s:ByteArray),ns.foldl (λr n=>r.push (UInt8.ofNat n.toNat)) s=⟨(s.data.toList++bytesS ns).toArray⟩:=by
 induction ns with
 | nil=>intro s;simp[bytesS]
 | cons n ns ih =>
  intro s;rw[List.foldl_cons,ih]
  congr 1
  have:(s.push (UInt8.ofNat n.toNat)).data.toList=s.data.toList++[UInt8.ofNat n.toNat]:=by
   cases s;simp[ByteArray.push]
  rw[this];simp[bytesS]
theorem rq_{src dst e:TypeId}{x:Operand}{n cap:Nat}{A:Option Addr}{F:Nat->Prop}{ns:List Int}(ho:o.op = .convert src dst x)(hsrc:P.underlying src=some (.slice e))(he:P.underlying e=some (.int .u8))(hd:P.underlying dst=some .string)
  (hx:ρ x = .slice A n cap) (hs:SlF F 1 A n (ns.map λb=>[Value.int .u8 b]) w):(execOp ρ o).run P w = .ok (.value (S (bytesS ns))) w:=by
 have hlen:ns.length=n:=by have:=hs.1;simpa using this
 have main:(Conv.bytesToString (.slice A n cap)).run P w = .ok (S (bytesS ns)) w:=by
  cases A with
  | none =>
   have hn:ns=[]:=by
    rcases Nat.eq_zero_or_pos n with h0|h0
    .exact List.eq_nil_of_length_eq_zero (by omega)
    .obtain⟨b,off,hh,_⟩:=hs.2 h0;cases hh
   subst hn;rfl
  | some ad =>
   have hl:(loadCells ad n).run P w = .ok (ns.map (Value.int .u8)).toArray w:=by
    have:=run_loadCells_list (P:=P) w ad (ns.map (Value.int .u8)) (λj v hv=>by
     rw[List.getElem?_map]at hv;cases hj:ns[j]? with
     | none=>rw[hj]at hv;cases hv
     | some b' =>
      rw[hj]at hv;simp only[Option.map_some,qOi]at hv;subst hv;have hlt:=(List.getElem?_eq_some_iff.1 hj).1;obtain⟨b,off,hA,_,hc⟩:=hs.2 (by omega);simp only[qOi]at hA;subst hA;have:=(hc j [Value.int .u8 b'] (by rw[List.getElem?_map,hj];rfl)).2 0 _ rfl;rw[Addr.add_mk];simpa using this)
    rw[List.length_map,hlen]at this;exact this
   rw[run_bytesToString (P:=P) w ad n cap ns hl,foldl_push];rfl
 unfold execOp;simp only[ho,hx];rw[Sem.run_bind,run_convert_bytes_string (P:=P) w src dst e A n cap hsrc he hd,main];rfl
def cutA(A:Option Addr)(c l m:Nat):Option Addr:=if m=l then A else A.map (·.add (l*c))
theorem run_cut{t e c n cap:Nat}{x:Operand}{lo hi:Option Operand}{A:Option Addr}(ho:o.op = .slice t x lo hi none)(ht:P.underlying t=some (.slice e))(hc:aB_ P e=some c)(hx:ρ x = .slice A n cap)
  {l h:Option Int} (hl:gO_ ρ lo l) (hh:gO_ ρ hi h) (h0:0<=l.getD 0) (h1:l.getD 0<=h.getD n) (h2:h.getD n<=cap) :
  (execOp ρ o).run P w = .ok (.value (.slice (cutA A c (l.getD 0).toNat cap) ((h.getD n).toNat-(l.getD 0).toNat) (cap-(l.getD 0).toNat))) w:=by
 unfold aB_ at hc;cases hq:P.info? e with
 | none=>simp[hq]at hc
 | some inf =>
  have hs':inf.size=c:=by simpa[hq]using hc
  unfold execOp;simp only[ho,hx,Option.map_none];simp[Instr.sliceAt,Instr.slice,run_underlying ht,sizeOf,typeInfo,hq,hs',km_ (P:=P) (w:=w) true hl hh h0 h1 h2,cutA]
theorem SlF.cut{F:Nat->Prop}{c n cap:Nat}{A:Option Addr}{rows:List (List Value)}(h:SlF F c A n rows w)(hcap:n<=cap){lo hi:Nat}(h1:lo<=hi)(h2:hi<=n) :
  SlF F c (cutA A c lo cap) (hi-lo) ((rows.take hi).drop lo) w:=(h.take h2).drop h1 (Nat.le_trans h2 hcap)
def Ret(P:Program)(f:FuncId)(args:Array Value)(w:World)(R:Value->World->Prop):Prop:=Calls P f args w λe w'=>∃v,e = .returned v/\R v w'
theorem Ret.mono{f:FuncId}{args:Array Value}{R R':Value->World->Prop}(h:Ret P f args w R)(hR:∀v w',R v w'->R' v w'):Ret P f args w R' :=
 Calls.mono h λ_ _ ⟨v,he,hr⟩=>⟨v,he,hR _ _ hr⟩
end
def jh_:Nat->List Value->List (Nat×Value)|_,[]=>[]|i,v::r=>(i,v)::jh_ (i+1) r
theorem nG_:∀(l:List Value) (i t:Nat) (v:Value),look t (jh_ i l)=some v->i<=t/\l[t-i]? = some v
 | [],i,t,v,h=>by simp[jh_,look]at h
 | x::r,i,t,v,h=>by
  simp only[jh_,look]at h;cases hb:Nat.beq t i with
  | true =>
   rw[hb]at h;obtain rfl:t=i:=qNb hb;simpa using h
  | false =>
   rw[hb]at h;have hne:=aZ_ hb;obtain⟨h1,h2⟩:=nG_ r (i+1) t v h;refine⟨by omega,?_⟩;have:t-i=(t-(i+1))+1:=by omega
   rw[this];simpa using h2
section
variable{P:Program}{w w' w0:World}{N:Nat}{a:Act}{env:List (Nat×Value)}{Q:Exit->Act->World->Prop}{Bs:List Nat}{L:List Res}
theorem enter{f:FuncId}{fn:Func}{c:Code}{args:Array Value}{R:Value->World->Prop}(hf:P.funcs[f]? = some fn)(hb:fn.body=some c)(hN:fn.ntmps=N)(hle:Nat.ble args.size N=true)
  (h:∀a,Env N a (jh_ 0 args.toList)->c.wp P (bodyPost P fn λe w'=>∃v,e = .returned v/\R v w') a w):Ret P f args w R:=by
 refine calls_of_wp hf hb (h _ ⟨?_,rfl,λt v ht => ?_⟩)
 .have:=Nat.le_of_ble_eq_true hle;simp[hN];omega
 .obtain⟨_,h2⟩:=nG_ _ _ _ _ ht;simp only[Nat.sub_zero]at h2;have hlt:=(List.getElem?_eq_some_iff.1 h2).1;rw[Array.getElem?_append_left (by simpa using hlt)];simpa using h2
inductive ResIs(P:Program)(env:List (Nat×Value))(w0 w:World)(L:List Res):ResultVar->Value->Prop
 | tmp {t v} (h:look t env=some v):ResIs P env w0 w L (.tmp t) v
 | cell {t T T' b v} {cs:List Value} {i:Nat} (h:look t env=some (.pointer (some ⟨b,0,none⟩))) (hi:L[i]? = some (.box b T' cs)) (hv:dC_ P T cs 0=some v):ResIs P env w0 w L (.cell t T) v
inductive AllRes(P:Program)(env:List (Nat×Value))(w0 w:World)(L:List Res):List ResultVar->List Value->Prop
 | nil:AllRes P env w0 w L [] []
 | cons {r v rs vs} (h:ResIs P env w0 w L r v) (t:AllRes P env w0 w L rs vs):AllRes P env w0 w L (r::rs) (v::vs)
def i9_:List Value->Value | [v]=>v|vs => .tuple vs.toArray
def eG_(tmps:Array Value):ResultVar->Sem Value
 | .tmp t=>pure (tmps.getD t undef)
 | .cell x t=>do loadVar t (←asAddr (tmps.getD x undef))
theorem oE_(fn:Func)(tmps:Array Value):results fn tmps=(do let vs ←fn.results.mapM (eG_ tmps);pure (if h:vs.size=1 then vs[0]else .tuple vs)):=by
 unfold results
 congr 2
theorem nH_(hE:Env N a env)(hS:Sep Bs w0 w L):∀{rs:List ResultVar} {vs:List Value},AllRes P env w0 w L rs vs->(rs.mapM (eG_ a.tmps)).run P w = .ok vs w
 | [],[],.nil=>rfl
 | r::rs,v::vs,.cons h t=>by
  have ih:=nH_ hE hS t;rw[List.mapM_cons,Sem.run_bind];cases h with
  | @tmp t _ hl =>
   have:a.tmps.getD t undef=v:=by rw[Array.getD_eq_getD_getElem?,hE.get _ _ hl];rfl
   simp only[eG_,this,Sem.run_pure,Result.andThen_ok,Sem.run_bind,ih]
  | @cell t T T' b _ cs i hl hi hv =>
   have:a.tmps.getD t undef = .pointer (some ⟨b,0,none⟩):=by rw[Array.getD_eq_getD_getElem?,hE.get _ _ hl];rfl
   have hload:=de_ (P:=P) (base:=0) hv (hS.box_cell hi);rw[Nat.zero_add]at hload;have has:(asAddr (.pointer (some ⟨b,0,none⟩))).run P w = .ok ⟨b,0,none⟩ w:=rfl;have h1:(eG_ a.tmps (.cell t T)).run P w = .ok v w:=by
    simp only[eG_,this,Sem.run_bind,has,Result.andThen_ok,hload]
   rw[h1];simp only[Sem.run_pure,Result.andThen_ok,Sem.run_bind,ih]
theorem run_out{fn:Func}{rs:List ResultVar}{vs:List Value}(hfn:fn.results=rs.toArray)(hE:Env N a env)(hS:Sep Bs w0 w L)(h:AllRes P env w0 w L rs vs):(results fn a.tmps).run P w = .ok (i9_ vs) w:=by
 have hm:=nH_ hE hS h;rw[oE_,hfn,List.mapM_toArray,Sem.run_bind];have:((Functor.map List.toArray (rs.mapM (eG_ a.tmps))).run P w) = .ok vs.toArray w:=by
  rw[map_eq_pure_bind,Sem.run_bind,hm];rfl
 rw[this];simp only[Result.andThen_ok,Sem.run_pure]
 congr 1
 match vs with
 | []=>rfl
 | [v]=>rfl
 | v::u::r=>simp[i9_]
theorem out{fn:Func}{R:Value->World->Prop}{rs:List ResultVar}{vs:List Value}(hfn:fn.results=rs.toArray)(hE:Env N a env)(hS:Sep Bs w0 w L)(h:AllRes P env w0 w L rs vs)(hR:R (i9_ vs) w) :
  bodyPost P fn (λe w'=>∃v,e = .returned v/\R v w') .ret a w :=
 ⟨hE.defers,_,run_out hfn hE hS h,_,rfl,hR⟩
theorem c_true{t:Nat}{b:Bool}{x y:Code}(hE:Env N a env)(ht:look t env=some (.bool b))(hb:b=true)(h:x.wp P Q a w):(Code.cond (.tmp t) x y).wp P Q a w :=
 wp_cond_true (by rw[hE.eval (x := .tmp t) ht,hb]) h
theorem c_false{t:Nat}{b:Bool}{x y:Code}(hE:Env N a env)(ht:look t env=some (.bool b))(hb:b=false)(h:y.wp P Q a w):(Code.cond (.tmp t) x y).wp P Q a w :=
 wp_cond_false (by rw[hE.eval (x := .tmp t) ht,hb]) h
theorem il_{x y:Code}(J:Act->World->Prop)(hy:∀a w,J a w->y.wp P Q a w)(hx:x.wp P (Exit.then J Q) a w):(Code.seq x y).wp P Q a w :=
 wp_seq (wp_mono hx λe a w h=>by cases e<;>first|exact hy _ _ h|exact h)
theorem b_join{id:Nat}{c:Code}(J:Act->World->Prop)(hy:∀a w,J a w->Q .normal a w)(hx:c.wp P (λe a w=>match e with | .normal=>J a w | .exit i=>if i=id then J a w else Q (.exit i) a w|e=>Q e a w) a w):(Code.block id c).wp P Q a w :=
 wp_block (wp_mono hx λe a w h=>by
  cases e with
  | normal=>exact hy _ _ h
  | exit i=>simp only[Exit.inBlock]at h ⊢;split at h<;>rename_i hc<;>simp only[hc,if_true,if_false]<;>first|exact hy _ _ h|exact h
  | _=>exact h)
theorem g0_{id:Nat}{l:List Oper}(h:wpList P l.toArray Q l a w):(Code.region id l.toArray false).wp P Q a w:=wp_region_lit h
inductive Step(σ β:Type) where
 | next (s:σ)
 | done (b:β)
def af_{σ β:Type}(body:σ->Option (Step σ β)):Nat->σ->Option β
 | 0,_=>none
 | n+1,s=>match body s with
  | none=>none
  | some (.next s')=>af_ body n s'
  | some (.done b)=>some b
def BIG:Nat:=18446744073709551616
theorem jF_{σ β:Type}{body:σ->Option (Step σ β)}{n0:Nat}{s0:σ}{out:β}{c:Code}(hF:af_ body n0 s0=some out)(R:σ->Act->World->Prop)(h0:R s0 a w)
  (round:∀s a w,R s a w->∀st,body s=some st->(∀b,st = .done b->b=out)->c.wp P (Exit.then (λa' w'=>∃s',st = .next s'/\R s' a' w') Q) a w):(Code.loop c).wp P Q a w:=by
 refine wp_loop_ghost (λn a w=>∃s,af_ body n s=some out/\R s a w) n0 ⟨s0,hF,h0⟩ ?_
 rintro n a w ⟨s,hs,hR⟩;cases n with
 | zero=>cases hs
 | succ n =>
  simp only[af_]at hs;cases hb:body s with
  | none=>rw[hb]at hs;cases hs
  | some st =>
   rw[hb]at hs;refine wp_mono (round s a w hR st hb λb hst => ?_) λe a' w' h => ?_
   .subst hst;simpa using hs
   .cases e with
    | normal =>
     obtain⟨s',hst,hR'⟩:=h;subst hst;exact⟨n,Nat.lt_succ_self n,s',hs,hR'⟩
    | _=>exact h
end
section
variable{P:Program}{ops:List Oper}{Q:Exit->Act->World->Prop}{a:Act}{w w0:World}{rest:List Oper}{o:Oper}{N:Nat}{env:List (Nat×Value)}{Bs:List Nat}{L L':List Res}
theorem go_box(hE:Env N a env)(hS:Sep Bs w0 w L)(hg:gate ops env o=some true)(d:Nat)(hd:o.dst=some d)(hN:Nat.blt d N=true)(T:TypeId)(cs:List Value)
  (hv:∀r,jE_ P env r o=some (.cells cs.toArray T (0,0),.value (.pointer (some ⟨r,0,none⟩))))
  (h:∀a' w' b,Ext w w'->Env N a' ((d,.pointer (some ⟨b,0,none⟩))::env)->Sep Bs w0 w' (.box b T cs::L)->wpList P ops.toArray Q rest a' w'):wpList P ops.toArray Q (o::rest) a w :=
 e9_ hE hg d hd hN _ (lU_ hE (hv _)) λa' hE'=>h a' _ w.heap.size (Ext.one w _) hE' (hS.box_new T cs)
theorem go_slice(hE:Env N a env)(hS:Sep Bs w0 w L)(hg:gate ops env o=some true)(d:Nat)(hd:o.dst=some d)(hN:Nat.blt d N=true)(e c n:Nat)(rows:List (List Value))
  (hv:∀r,jE_ P env r o=some (.cells rows.flatten.toArray e (0,0),.value (.slice (some ⟨r,0,none⟩) n n))) (hn:rows.length=n) (hr:∀r∈rows,r.length=c) (hm:Nat.ble n 9223372036854775807=true)
  (h:∀a' w' A,Ext w w'->Env N a' ((d,.slice A n n)::env)->Sep Bs w0 w' (.row e c A n n rows::L)->wpList P ops.toArray Q rest a' w'):wpList P ops.toArray Q (o::rest) a w :=
 e9_ hE hg d hd hN _ (lU_ hE (hv _)) λa' hE'=>h a' _ _ (Ext.one w _) hE' (hS.row_new e c n rows hn hr hm)
theorem go_set(hE:Env N a env)(hS:Sep Bs w0 w L)(hg:gate ops env o=some true)(hd:o.dst=none){T:TypeId}{x y:Operand}{v:Value}(i:Nat){b off:Nat}{T':TypeId}{cs:List Value}(ho:o.op = .store T x y)
  (hx:opv env x=some (.pointer (some ⟨b,off,none⟩))) (hy:opv env y=some v) (hi:L[i]? = some (.box b T' cs)) (hs:aB_ P T=some v.cells.size) (hle:Nat.ble (off+v.cells.size) cs.length=true)
  (h1:bk_ v.cells.toList=true) (cs':List Value) (hc:splice cs off v.cells.toList=cs') (hL:L.set i (.box b T' cs')=L')
  (h:∀w',Sep Bs w0 w' L'->wpList P ops.toArray Q rest a w'):wpList P ops.toArray Q (o::rest) a w:=by
 obtain⟨w',hr,hS',_,_⟩:=ro_ (P:=P) ho (hE.eval hx) (hE.eval hy) hS hi hs hle h1 hc;exact st_skip hE hg hd hr (h w' (hL▸hS'))
theorem go_put(hE:Env N a env)(hS:Sep Bs w0 w L)(hg:gate ops env o=some true)(hd:o.dst=none){T:TypeId}{x y:Operand}{v:Value}(k:Nat){e c n cap b off p j i:Nat}{A:Option Addr}{rows:List (List Value)}{r r':List Value}
  (ho:o.op = .store T x y) (hx:opv env x=some (.pointer (some ⟨b,p,none⟩))) (hy:opv env y=some v) (hi:L[k]? = some (.row e c A n cap rows)) (hA:A=some ⟨b,off,none⟩) (hr:rows[i]? = some r)
  (hp:p=off+i*c+j) (hs:aB_ P T=some v.cells.size) (hle:Nat.ble (j+v.cells.size) c=true) (h1:bk_ v.cells.toList=true) (hr':splice r j v.cells.toList=r') {rows':List (List Value)} (hrows:rows.set i r'=rows')
  (hL:L.set k (.row e c A n cap rows')=L') (h:∀w',Sep Bs w0 w' L'->wpList P ops.toArray Q rest a w'):wpList P ops.toArray Q (o::rest) a w:=by
 obtain⟨w',hrun,hS',_,_⟩:=kp_ (P:=P) ho (hE.eval hx) (hE.eval hy) hS hi hA hr hp hs hle h1 hr';subst hrows;subst hL;exact st_skip hE hg hd hrun (h w' hS')
theorem go_app(hE:Env N a env)(hS:Sep Bs w0 w L)(hg:gate ops env o=some true)(d:Nat)(hd:o.dst=some d)(hN:Nat.blt d N=true){t e c bytes:Nat}{x y:Operand}(k:Nat){n cap m cap2:Nat}{A A2:Option Addr}{rows news:List (List Value)}{F:Nat->Prop}
  {α:Type} {xs ys r:List α} (ho:o.op = .call { callee := .builtin .append,args := #[x,y],argTypes := #[t,t] }) (hel:kn_ P t e c bytes) (hx:opv env x=some (.slice A n cap)) (hy:opv env y=some (.slice A2 m cap2))
  (hi:L[k]? = some (.row e c A n cap rows)) (hs:SlF F c A2 m news w) (hone:i8_ news) (hxn:xs.length=n) (hym:ys.length=m) (hr:room bytes xs ys=some r) (hnl:∀q∈news,q.length=c)
  {rows':List (List Value)} (hrows:rows++news=rows') {n':Nat} (hn':n+m=n')
  (h:∀a' w' A' cap',Env N a' ((d,.slice A' n' cap')::env)->Sep Bs w0 w' (L.set k (.row e c A' n' cap' rows'))->wpList P ops.toArray Q rest a' w'):wpList P ops.toArray Q (o::rest) a w:=by
 obtain⟨A',cap',w',hrun,hS',_,_⟩:=kQ_ (P:=P) ho hel (hE.eval hx) (hE.eval hy) hS hi hs hone hxn hym hr hnl;subst hrows;subst hn';exact e9_ hE hg d hd hN _ hrun λa' hE'=>h a' w' A' cap' hE' hS'
end
section
variable{P:Program}{ops:List Oper}{Q:Exit->Act->World->Prop}{a:Act}{w w0 w':World}{rest:List Oper}{o:Oper}{N:Nat}{env:List (Nat×Value)}{Bs:List Nat}{L L':List Res}
 {F:Nat->Prop} {c n cap:Nat} {A:Option Addr} {rows:List (List Value)} {ρ:Operand->Value}
theorem ld_box{T T':TypeId}{x:Operand}{b off:Nat}{cs:List Value}{v:Value}(hE:Env N a env)(hS:Sep Bs w0 w L)(i:Nat)(ho:o.op = .load T x)(hx:opv env x=some (.pointer (some ⟨b,off,none⟩)))(hi:L[i]? = some (.box b T' cs))
  (hv:dC_ P T cs off=some v):(execOp a.eval o).run P w = .ok (.value v) w:=run_load_box ho (hE.eval hx) hS hi hv
def EqIs(P:Program)(t:TypeId)(x y:Value)(b:Bool):Prop:=P.eqGuardType P.depth t=false/\∀w,(Op.equalIn 10000 t x y).run P w = .ok b w
theorem run_agg_eql{t yt:TypeId}{x y:Operand}{xs ys:Array Value}{b:Bool}(ho:o.op = .binOp .eql t x y yt)(hx:ρ x = .agg xs)(hy:ρ y = .agg ys)(h:EqIs P t (.agg xs) (.agg ys) b) :
  (execOp ρ o).run P w = .ok (.value (.bool b)) w:=by
 unfold execOp;simp only[ho,hx,hy];rw[Sem.run_bind,Sem.run_bind,run_eqGuard_agg w _ t x y xs ys h.1];simp only[Result.andThen_ok,run_eql_struct,h.2];rfl
theorem run_agg_neq{t yt:TypeId}{x y:Operand}{xs ys:Array Value}{b:Bool}(ho:o.op = .binOp .neq t x y yt)(hx:ρ x = .agg xs)(hy:ρ y = .agg ys)(h:EqIs P t (.agg xs) (.agg ys) b) :
  (execOp ρ o).run P w = .ok (.value (.bool (!b))) w:=by
 unfold execOp;simp only[ho,hx,hy];rw[Sem.run_bind,Sem.run_bind,run_eqGuard_agg w _ t x y xs ys h.1];simp only[Result.andThen_ok,run_neq_struct,h.2];rfl
end
def andI(k:IntKind)(x y:Int):Int:=k.wrap (BitVec.ofInt k.bits x&&&BitVec.ofInt k.bits y).toNat
def andNotI(k:IntKind)(x y:Int):Int:=k.wrap (BitVec.ofInt k.bits x &&& ~~~(BitVec.ofInt k.bits y)).toNat
def maxI(x y:Int):Int:=if y>x then y else x
def minI(x y:Int):Int:=if y<x then y else x
theorem run_bool_eql{P:Program}{ρ:Operand->Value}{w:World}{o:Oper}{t yt:TypeId}{x y:Operand}{b c:Bool}(ho:o.op = .binOp .eql t x y yt)(ht:P.underlying t=some .bool)(hx:ρ x = .bool b)(hy:ρ y = .bool c):(execOp ρ o).run P w = .ok (.value (.bool (b==c))) w:=by
 unfold execOp;simp only[ho,hx,hy];simp[eqGuard,run_eql_bool w t b c ht]
theorem run_bool_neq{P:Program}{ρ:Operand->Value}{w:World}{o:Oper}{t yt:TypeId}{x y:Operand}{b c:Bool}(ho:o.op = .binOp .neq t x y yt)(ht:P.underlying t=some .bool)(hx:ρ x = .bool b)(hy:ρ y = .bool c):(execOp ρ o).run P w = .ok (.value (.bool (!(b==c)))) w:=by
 unfold execOp;simp only[ho,hx,hy];simp[eqGuard,run_neq_bool w t b c ht]
def eqFs(P:Program)(f:TypeId->Value->Value->Option Bool)(xs ys:Array Value):List Field->Option Bool
 | []=>some true
 | g :: fs => match g.name == "_", cm_ P (part g.type xs g.offset), cm_ P (part g.type ys g.offset) with
  | false,some a,some b=>match f g.type a b,eqFs P f xs ys fs with
   | some r,some s=>some (r&&s)
   | _,_=>none
  | _,_,_=>none
def eqArr(P:Program)(f:TypeId->Value->Value->Option Bool)(e:TypeId)(xs ys:Array Value):List Nat->Option Bool
 | []=>some true
 | i::is=>match cm_ P (part e xs (i*P.cellsOf e)),cm_ P (part e ys (i*P.cellsOf e))with
  | some a,some b=>match f e a b,eqArr P f e xs ys is with
   | some r,some s=>some (r&&s)
   | _,_=>none
  | _,_=>none
def eqV(P:Program):Nat->TypeId->Value->Value->Option Bool
 | 0,_,_,_=>none
 | n+1,t,x,y=>match P.underlying t,x,y with
  | some .bool,.bool a,.bool b=>some (a==b)
  | some (.int _),.int k a,.int k' b=>match decide (k=k')with|true=>some (a==b)|false=>none
  | some .string,.string a,.string b=>some (a.toList==b.toList)
  | some (.struct fs),.agg xs,.agg ys=>match P.stoodInHeld t with|false=>eqFs P (eqV P n) xs ys fs.toList|true=>none
  | some (.array m e),.agg xs,.agg ys=>match P.info? e with|some _=>eqArr P (eqV P n) e xs ys (List.range m)|none=>none
  | _,_,_=>none
theorem eqArr_run{P:Program}{w:World}{f:TypeId->Value->Value->Option Bool}{d:Nat}(hf:∀t x y b,f t x y=some b->(Op.equalIn d t x y).run P w = .ok b w){e:TypeId}{xs ys:Array Value} :
  ∀{is:List Nat} {b:Bool},eqArr P f e xs ys is=some b->(Op.eqItems d e (P.cellsOf e) xs ys is).run P w = .ok b w
 | [],b,h=>by simp only[eqArr,qOi]at h;subst h;rfl
 | i::is,b,h=>by
  simp only[eqArr]at h;split at h
  .rename_i u v ha hb;split at h
   .rename_i r s hr hs;simp only[qOi]at h;subst h;have ih:=eqArr_run hf hs;simp only[Op.eqItems,Sem.run_bind,cC_ ha w,Result.andThen_ok,cC_ hb w,hf _ _ _ _ hr];cases r with
    | true=>simp only[Bool.not_true,Bool.false_eq_true,if_false,ih,Bool.true_and]
    | false=>simp only[Bool.not_false,if_true,Sem.run_pure,Bool.false_and]
   .cases h
  .cases h
theorem eqFs_run{P:Program}{w:World}{f:TypeId->Value->Value->Option Bool}{d:Nat}(hf:∀t x y b,f t x y=some b->(Op.equalIn d t x y).run P w = .ok b w){xs ys:Array Value} :
  ∀{fs:List Field} {b:Bool},eqFs P f xs ys fs=some b->(Op.eqFields d xs ys fs).run P w = .ok b w
 | [],b,h=>by simp only[eqFs,qOi]at h;subst h;rfl
 | g::fs,b,h=>by
  simp only[eqFs]at h;split at h
  .rename_i u v hn ha hb;split at h
   .rename_i r s hr hs;simp only[qOi]at h;subst h;have ih:=eqFs_run hf hs
    have hne : g.name ≠ "_" := by simpa using hn
    simp only[Op.eqFields];rw[if_pos hne];simp only[Sem.run_bind,cC_ ha w,Result.andThen_ok,cC_ hb w,hf _ _ _ _ hr];cases r with
    | true=>simp only[Bool.not_true,Bool.false_eq_true,if_false,ih,Bool.true_and]
    | false=>simp only[Bool.not_false,if_true,Sem.run_pure,Bool.false_and]
   .cases h
  .cases h
theorem eqV_run{P:Program}{w:World}:∀{n d:Nat} {t:TypeId} {x y:Value} {b:Bool},eqV P n t x y=some b->(Op.equalIn (d+n) t x y).run P w = .ok b w
 | 0,d,t,x,y,b,h=>by cases h
 | n+1,d,t,x,y,b,h=>by
  simp only[eqV]at h;split at h
  .rename_i hu;simp only[qOi]at h;subst h;exact run_equalIn_bool' w _ t _ _ hu
  .rename_i hu;split at h
   .rename_i hk;simp only[qDe]at hk;subst hk;simp only[qOi]at h;subst h;exact run_equalIn_int w _ t _ _ _ _ hu
   .cases h
  .rename_i hu;simp only[qOi]at h;subst h;exact run_equalIn_string w _ t _ _ hu
  .rename_i fs xs ys hu;split at h
   .rename_i hp;have hfs:P.fieldsOf t=fs:=by simp[Program.fieldsOf,hu]
    rw[←Nat.add_assoc,run_equalIn_struct w _ t xs ys (by rw[hfs];exact hu) hp,hfs];exact eqFs_run (λt x y b h=>eqV_run (n:=n) (d:=d) h) h
   .cases h
  .rename_i m e xs ys hu;split at h
   .rename_i i hi;rw[←Nat.add_assoc,run_equalIn_array w (d+n) xs ys hu hi];exact eqArr_run (λt x y b h=>eqV_run (n:=n) (d:=d) h) h
   .cases h
  .cases h
theorem ne_{P:Program}{t:TypeId}{x y:Value}{b c:Bool}(n:Nat)(hn:Nat.ble n 10000=true)(hg:P.eqGuardType P.depth t=false)(h:eqV P n t x y=some b)(hb:b=c):EqIs P t x y c:=by
 subst hb;refine⟨hg,λw => ?_⟩;have:=eqV_run (w:=w) (d:=10000-n) h;have e:10000-n+n=10000:=Nat.sub_add_cancel (Nat.le_of_ble_eq_true hn)
 rwa [e]at this
def boundI(n:Nat)(i:Int):Option Unit:=if 0<=i/\i<n then some ()else none
theorem boundI_some{n:Nat}{i:Int}{u:Unit}(h:boundI n i=some u):0<=i/\i<n:=by
 unfold boundI at h;split at h
 .assumption
 .cases h
theorem ma_{P:Program}{ρ:Operand->Value}{w:World}{o:Oper}{t e n c b off:Nat}{x y:Operand}{k:IntKind}{i:Int}{u:Unit}(ho:o.op = .indexAddr t x y)(ht:P.underlying t=some (.array n e))(hc:aB_ P e=some c)
  (hx:ρ x = .pointer (some ⟨b,off,none⟩)) (hy:ρ y = .int k i) (hi:boundI n i=some u):(execOp ρ o).run P w = .ok (.value (.pointer (some ⟨b,off+i.toNat*c,none⟩))) w:=by
 obtain⟨h0,h1⟩:=boundI_some hi;unfold aB_ at hc;cases hq:P.info? e with
 | none=>simp[hq]at hc
 | some inf =>
  have hs':inf.size=c:=by simpa[hq]using hc
  unfold execOp;simp[ho,hx,hy,Instr.indexAt,asIntOf,run_underlying ht,sizeOf,typeInfo,hq,hs',h0,h1,Addr.add_mk,Instr.sureAddr]
def strings_Count(s sub:Str):Option Int:=match sub with | [c]=>some (s.count c:Nat)|_=>none
inductive Out(σ ρ:Type) where
 | fall (s:σ)
 | ret (r:ρ)
def nthI(xs:List Int)(j:Nat):Int:=xs.getD j 0
def aG_(s:Str):List Int:=s.map λb=>(b.toNat:Int)
def bH_{α:Type}(eq:α->α->Bool)(x:α):List α->Option Nat
 | []=>none
 | y::ys=>match eq x y with
  | true=>some 0
  | false=>match bH_ eq x ys with
   | some i=>some (i+1)
   | none=>none
def fr_{α β:Type}(eq:α->α->Bool):List α->List β->α->β->β|y::ys,v::vs,x,d=>bif eq x y then v else fr_ eq ys vs x d|_,_,_,d=>d
def ge_{α:Type}(eq:α->α->Bool)(ks:List α)(x:α):List α:=bif ks.any (eq x)then ks else ks++[x]
def fs_{α β:Type}(eq:α->α->Bool):List α->List β->α->β->List β|y::ys,v'::vs,x,v=>bif eq x y then v::vs else v'::fs_ eq ys vs x v|_,vs,_,v=>vs++[v]
section
variable{α β:Type}{eq:α->α->Bool}
theorem mb_{x:α}:∀{ks:List α},bH_ eq x ks=none->ks.any (eq x)=false
 | [],_=>rfl
 | y::ys,h=>by
  simp only[bH_]at h;cases he:eq x y with
  | true=>rw[he]at h;cases h
  | false =>
   rw[he]at h;cases hi:bH_ eq x ys with
   | some i=>rw[hi]at h;cases h
   | none=>rw[List.any_cons,he,mb_ hi];rfl
theorem im_{x:α}:∀{ks:List α} {i:Nat},bH_ eq x ks=some i->ks.any (eq x)=true/\∃y,ks[i]? = some y/\eq x y=true
 | [],_,h=>by cases h
 | y::ys,i,h=>by
  simp only[bH_]at h;cases he:eq x y with
  | true=>rw[he]at h;obtain rfl:=qSj h;exact⟨by rw[List.any_cons,he];rfl,y,rfl,he⟩
  | false =>
   rw[he]at h;cases hi:bH_ eq x ys with
   | none=>rw[hi]at h;cases h
   | some j =>
    rw[hi]at h;obtain rfl:=qSj h;obtain⟨h1,z,h2,h3⟩:=im_ hi;exact⟨by rw[List.any_cons,h1,Bool.or_true],z,by simpa using h2,h3⟩
theorem kT_{x:α}{d:β}:∀{ks:List α} {vs:List β},bH_ eq x ks=none->fr_ eq ks vs x d=d
 | [],vs,_=>by cases vs<;>rfl
 | y::ys,[],_=>rfl
 | y::ys,v::vs,h=>by
  simp only[bH_]at h;cases he:eq x y with
  | true=>rw[he]at h;cases h
  | false =>
   rw[he]at h;cases hi:bH_ eq x ys with
   | some i=>rw[hi]at h;cases h
   | none=>simp only[fr_,he,cond_false];exact kT_ hi
theorem kU_{x:α}{d:β}:∀{ks:List α} {vs:List β} {i:Nat} {v:β},bH_ eq x ks=some i->vs[i]? = some v->fr_ eq ks vs x d=v
 | [],_,_,_,h,_=>by cases h
 | y::ys,[],_,_,_,h=>by simp at h
 | y::ys,u::vs,i,v,h,hv=>by
  simp only[bH_]at h;cases he:eq x y with
  | true =>
   rw[he]at h;obtain rfl:=qSj h;simp only[fr_,he,cond_true];simpa using hv
  | false =>
   rw[he]at h;cases hi:bH_ eq x ys with
   | none=>rw[hi]at h;cases h
   | some j =>
    rw[hi]at h;obtain rfl:=qSj h;simp only[fr_,he,cond_false];exact kU_ hi (by simpa using hv)
theorem oI_{x:α}{v:β}:∀{ks:List α} {vs:List β},bH_ eq x ks=none->ks.length=vs.length->fs_ eq ks vs x v=vs++[v]
 | [],vs,_,_=>by cases vs<;>rfl
 | y::ys,[],_,h=>by cases h
 | y::ys,u::vs,h,hl=>by
  simp only[bH_]at h;cases he:eq x y with
  | true=>rw[he]at h;cases h
  | false =>
   rw[he]at h;cases hi:bH_ eq x ys with
   | some i=>rw[hi]at h;cases h
   | none=>simp only[fs_,he,cond_false,List.cons_append];rw[oI_ hi (by simpa using hl)]
theorem oJ_{x:α}{v:β}:∀{ks:List α} {vs:List β} {i:Nat},bH_ eq x ks=some i->ks.length=vs.length->fs_ eq ks vs x v=vs.set i v
 | [],_,_,h,_=>by cases h
 | y::ys,[],_,_,h=>by cases h
 | y::ys,u::vs,i,h,hl=>by
  simp only[bH_]at h;cases he:eq x y with
  | true =>
   rw[he]at h;obtain rfl:=qSj h;simp only[fs_,he,cond_true,List.set_cons_zero]
  | false =>
   rw[he]at h;cases hi:bH_ eq x ys with
   | none=>rw[hi]at h;cases h
   | some j =>
    rw[hi]at h;obtain rfl:=qSj h;simp only[fs_,he,cond_false,List.set_cons_succ];rw[oJ_ hi (by simpa using hl)]
end
section
variable{P:Program}{w:World}{b K E T:TypeId}{es:Array MapEntry}{clock:Nat}
def ce_(w:World)(b:Nat)(es:Array MapEntry)(clock:Nat):World:={ w with heap:=w.heap.setIfInBounds b (.map es clock) }
theorem setMap_same(hb:b<w.heap.size):(ce_ w b es clock).heap[b]? = some (.map es clock):=by
 simp[ce_,hb]
theorem setMap_other{k:Nat}(h:k≠b):(ce_ w b es clock).heap[k]? = w.heap[k]? := by
 simp[ce_,Ne.symm h]
theorem setMap_grow:Grow w (ce_ w b es clock):=⟨rfl,rfl,rfl,by simp[ce_]⟩
def foundAt(es:Array MapEntry):Option Nat->Option (Nat×Value)|some i=>(es[i]?).map λe=>(i,e.val)|none=>none
def gotV(es:Array MapEntry)(z:Value):Option Nat->Value|some i=>((es[i]?).map (·.val)).getD z|none=>z
theorem run_makeMap(w:World)(t:TypeId):(Instr.makeMap t none).run P w = .ok (.map (some w.heap.size)) (w.alloc (.map #[] 0)):=by
 rfl
theorem run_lookup{kv z:Value}{ix:Option Nat}(hu:P.underlying T=some (.map K E))(hb:w.heap[b]? = some (.map es clock))(hc:∀b w,(Instr.checkKey b 10000 K kv).run P w = .ok () w)(hf:(Instr.findKey K kv es.toList).run P w = .ok (foundAt es ix) w)
  (hz:(zeroValue E).run P w = .ok z w) (hi:∀i,ix=some i->i<es.size):(Instr.lookup T (.map (some b)) kv false).run P w = .ok (gotV es z ix) w:=by
 cases ix with
 | none=>simp[Instr.lookup,run_underlying hu,MapKept.run_getObj_map hb,hc,hf,foundAt,hz,gotV,Result.andThen]
 | some i =>
  have h:=hi i rfl;simp[Instr.lookup,run_underlying hu,MapKept.run_getObj_map hb,hc,hf,foundAt,h,gotV,Result.andThen]
theorem pX_{kv x:Value}(hu:P.underlying T=some (.map K E))(hb:w.heap[b]? = some (.map es clock))(hc:∀b w,(Instr.checkKey b 10000 K kv).run P w = .ok () w)(hf:(Instr.findKey K kv es.toList).run P w = .ok none w) :
  (Instr.mapUpdate T (.map (some b)) kv x).run P w = .ok () (ce_ w b (es.push ⟨kv,x,clock⟩) (clock+1)):=by
 simp[Instr.mapUpdate,run_underlying hu,MapKept.run_getObj_map hb,hc,hf,Result.andThen,MapKept.run_setObj_map _ hb,ce_]
theorem pY_{kv x:Value}{i:Nat}{e:MapEntry}(hu:P.underlying T=some (.map K E))(hb:w.heap[b]? = some (.map es clock))(hc:∀b w,(Instr.checkKey b 10000 K kv).run P w = .ok () w)(hf:(Instr.findKey K kv es.toList).run P w = .ok (some (i,e.val)) w)(he:es[i]? = some e)(hk:e.key=kv)(hs:Instr.sameBits 10000 kv kv=true) :
  (Instr.mapUpdate T (.map (some b)) kv x).run P w = .ok () (ce_ w b (es.modify i λe=>{ e with key:=kv,val:=x }) clock):=by
 have hst:(Instr.keyThatStays kv kv).run P w = .ok kv w:=by simp[Instr.keyThatStays,hs]
 subst hk;simp[Instr.mapUpdate,run_underlying hu,MapKept.run_getObj_map hb,hc,hf,Result.andThen,he,hst,MapKept.run_setObj_map _ hb,ce_]
theorem rr_{kv z:Value}(hu:P.underlying T=some (.map K E))(hb:w.heap[b]? = some (.map es clock))(hc:∀b w,(Instr.checkKey b 10000 K kv).run P w = .ok () w)(hf:(Instr.findKey K kv es.toList).run P w = .ok none w)(hz:(zeroValue E).run P w = .ok z w) :
  (Instr.mapEntry T (.map (some b)) kv).run P w = .ok (.tuple #[z,.int .i64 (clock:Int)]) (ce_ w b (es.push ⟨kv,z,clock⟩) (clock+1)):=by
 simp[Instr.mapEntry,run_underlying hu,MapKept.run_getObj_map hb,hc,hf,hz,goInt,Result.andThen,MapKept.run_setObj_map _ hb,ce_]
theorem rs_{kv:Value}{i:Nat}{e:MapEntry}(hu:P.underlying T=some (.map K E))(hb:w.heap[b]? = some (.map es clock))(hc:∀b w,(Instr.checkKey b 10000 K kv).run P w = .ok () w)(hf:(Instr.findKey K kv es.toList).run P w = .ok (some (i,e.val)) w)(he:es[i]? = some e)(hk:e.key=kv)(hs:Instr.sameBits 10000 kv kv=true) :
  (Instr.mapEntry T (.map (some b)) kv).run P w = .ok (.tuple #[e.val,.int .i64 (e.born:Int)]) (ce_ w b (es.modify i λe=>{ e with key:=kv }) clock):=by
 have hst:(Instr.keyThatStays kv kv).run P w = .ok kv w:=by simp[Instr.keyThatStays,hs]
 subst hk;simp[Instr.mapEntry,run_underlying hu,MapKept.run_getObj_map hb,hc,hf,Result.andThen,he,hst,goInt,MapKept.run_setObj_map _ hb,ce_]
theorem findIdx_born:∀{l:List MapEntry} {i:Nat} {e:MapEntry},(l.map (·.born)).Nodup->l[i]? = some e->l.findIdx? (λx=>(x.born:Int)==(e.born:Int))=some i
 | [],_,_,_,h=>by simp at h
 | x::l,0,e,_,h=>by
  simp at h;subst h;simp[List.findIdx?_cons]
 | x::l,i+1,e,hn,h=>by
  simp only[List.map_cons,List.nodup_cons]at hn;have h':l[i]? = some e:=by simpa using h
  have hne:x.born≠e.born:=λhc=>hn.1 (by rw[hc];exact List.mem_map.2 ⟨e,List.mem_of_getElem? h',rfl⟩)
  have hb:((x.born:Int)==(e.born:Int))=false:=by rw[beq_eq_false_iff_ne];intro hc;exact hne (by omega)
  rw[List.findIdx?_cons,hb,findIdx_born hn.2 h'];rfl
theorem pZ_{x:Value}{i:Nat}{e:MapEntry}(hb:w.heap[b]? = some (.map es clock))(hn:(es.toList.map (·.born)).Nodup)(he:es.toList[i]? = some e) :
  (Instr.entryStore T (.map (some b)) (.int .i64 (e.born:Int)) x).run P w = .ok () (ce_ w b (es.modify i λe=>{ e with val:=x }) clock):=by
 have h1:=findIdx_born hn he;have h2:es.findIdx? (λx=>(x.born:Int)==(e.born:Int))=some i:=by
  rw[←h1,←List.findIdx?_toArray]
 have h3:(asInt (.int .i64 (e.born:Int))).run P w = .ok (e.born:Int) w:=rfl;simp only[Instr.entryStore,Sem.run_bind,MapKept.run_getObj_map hb,Result.andThen_ok,h3,h2,MapKept.run_setObj_map _ hb,ce_]
end
noncomputable def both{R:Type}(x y:Option R):Option R := @ite _ (x=y) (Classical.propDecidable _) x none
theorem both_some{R:Type}{x y:Option R}{r:R}(h:both x y=some r):x=some r/\y=some r:=by
 unfold both at h;split at h
 .rename_i e;subst e;exact⟨h,h⟩
 .cases h
theorem mc_{R:Type}(x:Option R):both x x=x:=by
 unfold both;rw[if_pos rfl]
noncomputable def nilB{α R:Type}(xs:List α)(k:Bool->Option R):Option R:=match xs with | []=>both (k true) (k false)|_::_=>k false
def insN{α:Type}(by_:Nat)(xs:List α)(i:Int)(ys:List α):Option (List α):=match ys with | []=>none|y::l=>if 0<=i/\i<=(xs.length:Int)/\(xs.length+(l.length+1))*by_<=140737488355328 then some (xs.take i.toNat++(y::l++xs.drop i.toNat))else none
def dm_:Str->UInt8->Int | [],_ => -1|b::l,c=>if b==c then 0 else if dm_ l c == -1 then -1 else dm_ l c+1
def stringslite_Index(s sub:Str):Option Int:=match sub with | [c]=>some (dm_ s c)|_=>none
def stringslite_IndexByte(s:Str)(c:Int):Option Int:=some (dm_ s c.toNat.toUInt8)
def eQ_{α:Type}(xs:List α)(n:Nat)(z:α):List α:=xs.take n++List.replicate (xs.length-n) z
def growB(xs:List Int)(n:Int):Option (List Int):=bif decide (0<=n)&&decide (n<=281474976710656)then some xs else none
def hW_{α:Type}(xs ys:List α):List α:=ys.take (min ys.length xs.length)++xs.drop (min ys.length xs.length)
def ji_{α:Type}(xs:List α)(n:Nat)(ys:List α):List α:=xs.take n++hW_ (xs.drop n) ys
def digF:Nat->Nat->Str | 0,_=>[]|f+1,u=>if u<10 then[UInt8.ofNat (48+u)]else digF f (u/10)++[UInt8.ofNat (48+u%10)]
def c0_(n b:Int):Option Str:=if b=10/\0<=n/\n<=9223372036854775807 then some (digF 20 n.toNat)else none
theorem md_{α:Type}{n:Nat}{xs:List α}:(nilB xs λc=>bif c then some []else Option.bind (room n ([]:List α) xs) λy=>some y)=room n [] xs:=by
 have h:∀o:Option (List α),Option.bind o (λy=>some y)=o:=λo=>by cases o<;>rfl
 simp only[h];cases xs with
 | nil =>
  have h0:room n ([]:List α) []=some []:=by
   unfold room;rw[if_pos (by simp)];rfl
  simp only[nilB,cond_true,cond_false,h0];exact mc_ _
 | cons x l=>rfl
inductive Ty where
 | int (k:IntKind)
 | bool
 | str
 | sl (e:Ty)
 | st (n:Nat)
deriving DecidableEq
@[reducible] def Den (S:Nat->Type):Ty->Type
 | .int _=>Int
 | .bool=>Bool
 | .str=>Str
 | .sl e=>List (Den S e)
 | .st n=>S n
def HL(S:Nat->Type):List Ty->Type | []=>Unit|t::ts=>Den S t×HL S ts
structure TE where
 S:Nat->Type
 cs:Nat->List Ty
 un:∀n,S n->HL S (cs n)
 bd:∀n,HL S (cs n)->S n
 bd_un:∀n x,bd n (un n x)=x
 un_bd:∀n h,un n (bd n h)=h
 deq:∀n,Option (DecidableEq (S n))
 ty:Nat->Option Ty
 ne:∀n,cs n≠[]
 gl:Nat->Option (Σ t:Ty,Den S t)
 sb:Nat->Bool
def TE.flat(E:TE):Ty->List Ty | .st n=>E.cs n|t=>[t]
def TE.fl(E:TE):(t:Ty)->Den E.S t->HL E.S (E.flat t) | .st n,x=>E.un n x | .int _,x=>(x,()) | .bool,x=>(x,()) | .str,x=>(x,()) | .sl _,x=>(x,())
def TE.ufl(E:TE):(t:Ty)->HL E.S (E.flat t)->Den E.S t | .st n,h=>E.bd n h | .int _,h=>h.1 | .bool,h=>h.1 | .str,h=>h.1 | .sl _,h=>h.1
theorem TE.fl_ufl(E:TE)(t:Ty)(h:HL E.S (E.flat t)):E.fl t (E.ufl t h)=h:=by
 cases t<;>first|rfl|exact E.un_bd _ _
def TE.size(E:TE)(t:Ty):Nat:=(E.flat t).length
theorem TE.size_pos(E:TE)(t:Ty):0<E.size t:=by
 unfold TE.size;cases t with
 | st n=>exact List.length_pos_iff.2 (E.ne n)
 | _=>exact Nat.zero_lt_one
structure Fz where
 F:Nat->Prop
 w:World
def Fz.Le(a b:Fz):Prop:=∀k,a.F k->b.F k/\b.w.heap[k]? = a.w.heap[k]?
theorem Fz.Le.refl(a:Fz):a.Le a:=λ_ h=>⟨h,rfl⟩
theorem Fz.Le.trans{a b c:Fz}(h:a.Le b)(k:b.Le c):a.Le c:=λq hq=>⟨(k q (h q hq).1).1,(k q (h q hq).1).2.trans (h q hq).2⟩
inductive RD(E:TE)(z:Fz):(ts:List Ty)->HL E.S ts->List Value->Prop
 | nil {h}:RD E z [] h []
 | int {k n ts h vs} (r:RD E z ts h vs):RD E z (.int k::ts) (n,h) (.int k n::vs)
 | bool {b ts h vs} (r:RD E z ts h vs):RD E z (.bool::ts) (b,h) (.bool b::vs)
 | str {s ts h vs} (r:RD E z ts h vs):RD E z (.str::ts) (s,h) (S s::vs)
 | sl {e:Ty} {xs:List (Den E.S e)} {A:Option Addr} {cap:Nat} {rows:List (List Value)} {ts h vs} (hs:SlF z.F (E.size e) A xs.length rows z.w) (hc:xs.length<=cap)
   (hr:∀(i:Nat) x r,xs[i]? = some x->rows[i]? = some r->RD E z (E.flat e) (E.fl e x) r) (r:RD E z ts h vs):RD E z (.sl e::ts) (xs,h) (.slice A xs.length cap::vs)
section
variable{E:TE}{z z':Fz}
theorem SlF.le{c n:Nat}{A:Option Addr}{rows:List (List Value)}(h:SlF z.F c A n rows z.w)(hz:z.Le z'):SlF z'.F c A n rows z'.w :=
 ⟨h.1,λhn=>by
  obtain⟨b,off,e,hb,hc⟩:=h.2 hn;have hk:=hz b hb;exact⟨b,off,e,hk.1,λi r hr=>⟨(hc i r hr).1,λj u hu=>(World.cell?_of_block (w:=z.w) hk.2).trans ((hc i r hr).2 j u hu)⟩⟩⟩
theorem RD.le{ts:List Ty}{h:HL E.S ts}{vs:List Value}(r:RD E z ts h vs)(hz:z.Le z'):RD E z' ts h vs:=by
 induction r with
 | nil=>exact .nil
 | int _ ih=>exact .int ih
 | bool _ ih=>exact .bool ih
 | str _ ih=>exact .str ih
 | sl hs hc _ _ ihr ih=>exact .sl (SlF.le hs hz) hc (λi x r h1 h2=>ihr i x r h1 h2) ih
theorem RD.nil_inv{h:HL E.S []}{vs:List Value}(r:RD E z [] h vs):vs=[]:=by cases r;rfl
theorem RD.int_inv{k:IntKind}{ts:List Ty}{h:HL E.S (.int k::ts)}{vs:List Value}(r:RD E z (.int k::ts) h vs):∃vs',vs = .int k h.1::vs'/\RD E z ts h.2 vs':=by
 cases r with|int r=>exact⟨_,rfl,r⟩
theorem RD.bool_inv{ts:List Ty}{h:HL E.S (.bool::ts)}{vs:List Value}(r:RD E z (.bool::ts) h vs):∃vs',vs = .bool h.1::vs'/\RD E z ts h.2 vs':=by
 cases r with|bool r=>exact⟨_,rfl,r⟩
theorem RD.str_inv{ts:List Ty}{h:HL E.S (.str::ts)}{vs:List Value}(r:RD E z (.str::ts) h vs):∃vs',vs=S h.1::vs'/\RD E z ts h.2 vs':=by
 cases r with|str r=>exact⟨_,rfl,r⟩
theorem RD.sl_inv{e:Ty}{ts:List Ty}{h:HL E.S (.sl e::ts)}{vs:List Value}(r:RD E z (.sl e::ts) h vs):∃A cap rows vs',vs = .slice A h.1.length cap::vs'/\SlF z.F (E.size e) A h.1.length rows z.w/\h.1.length<=cap /\
  (∀(i:Nat) x r,h.1[i]? = some x->rows[i]? = some r->RD E z (E.flat e) (E.fl e x) r)/\RD E z ts h.2 vs':=by
 cases r with|sl hs hc hr r=>exact⟨_,_,_,_,rfl,hs,hc,hr,r⟩
theorem RD.len{ts:List Ty}{h:HL E.S ts}{vs:List Value}(r:RD E z ts h vs):vs.length=ts.length:=by
 induction r with
 | nil=>rfl
 | int _ ih=>simp[ih]
 | bool _ ih=>simp[ih]
 | str _ ih=>simp[ih]
 | sl _ _ _ _ _ ih=>simp[ih]
theorem RD.uncons{t:Ty}{ts:List Ty}{h:HL E.S (t::ts)}{vs:List Value}(r:RD E z (t::ts) h vs):∃v vs',vs=v::vs'/\RD E z [t] (h.1,()) [v]/\RD E z ts h.2 vs':=by
 cases r with
 | int r=>exact⟨_,_,rfl,.int .nil,r⟩
 | bool r=>exact⟨_,_,rfl,.bool .nil,r⟩
 | str r=>exact⟨_,_,rfl,.str .nil,r⟩
 | sl hs hc hr r=>exact⟨_,_,rfl,.sl hs hc hr .nil,r⟩
theorem RD.cons{t:Ty}{ts:List Ty}{x:Den E.S t}{h:HL E.S ts}{v:Value}{vs:List Value}(r:RD E z [t] (x,()) [v])(rs:RD E z ts h vs):RD E z (t::ts) (x,h) (v::vs):=by
 cases r with
 | int _=>exact .int rs
 | bool _=>exact .bool rs
 | str _=>exact .str rs
 | sl hs hc hr _=>exact .sl hs hc hr rs
theorem RD.cell{t:Ty}{x:Den E.S t}{v:Value}(r:RD E z [t] (x,()) [v]):dG_ v=true:=by
 cases r<;>rfl
theorem RD.cells{ts:List Ty}{h:HL E.S ts}{vs:List Value}(r:RD E z ts h vs):bk_ vs=true:=by
 induction r with
 | nil=>rfl
 | int _ ih=>simp[bk_,dG_,ih]
 | bool _ ih=>simp[bk_,dG_,ih]
 | str _ ih=>simp[bk_,dG_,S,ih]
 | sl _ _ _ _ _ ih=>simp[bk_,dG_,ih]
end
inductive SC(E:TE) where
 | dt (t:Ty) (x:Den E.S t)
 | own (id:Nat)
 | pre (id:Nat) (n:Int)
 | suf (id:Nat) (lo:Int)
 | nils
 | ptr (id off:Nat)
 | elo (id q:Nat) (i:Int) (off:Nat)
 | elf (t:Ty) (x:Den E.S t) (off:Nat)
 | fn1 (a r:Ty) (g:Den E.S a->Option (Den E.S r))
 | fn2 (a b r:Ty) (g:Den E.S a->Den E.S b->Option (Den E.S r))
 | clo (f:FuncId) (caps:List Nat)
 | mp (id:Nat)
 | mst (q:Nat)
 | nilp
 | nif
 | sbp (id:Nat)
 | pix (id:Nat) (i:Int)
 | efx (t:Ty) (x:Den E.S t) (i:Int)
inductive V1(E:TE) where
 | one (c:SC E)
 | agg (l:List (SC E))
inductive SV(E:TE) where
 | v (x:V1 E)
 | tup (l:List (V1 E))
inductive Obj(E:TE) where
 | box (T:TypeId) (cs:List (SC E))
 | row (e:TypeId) (t:Ty) (xs:List (Den E.S t)) (foc:List (Nat×Int×Den E.S t))
 | fr (t:Ty) (xs:List (Den E.S t))
 | fb (t:Ty) (x:Den E.S t)
 | map (T:TypeId) (k v:Ty) (ks:List (Den E.S k)) (vs:List (Den E.S v)) (foc:List (Nat×Den E.S k))
structure Loc where
 A:Option Addr
 n:Nat
 cap:Nat
 c:Nat
 b:Nat
 ix:Int:=0
abbrev Ga:=Nat->Option Loc
def Ga.Le(g h:Ga):Prop:=∀i l,g i=some l->h i=some l
def Ga.put(g:Ga)(i:Nat)(l:Loc):Ga:=λj=>if j=i then some l else g j
theorem Ga.Le.refl(g:Ga):g.Le g:=λ_ _ h=>h
theorem Ga.Le.trans{f g h:Ga}(a:f.Le g)(b:g.Le h):f.Le h:=λi l e=>b i l (a i l e)
theorem Ga.le_put{g:Ga}{i:Nat}{l:Loc}(h:g i=none):g.Le (g.put i l):=λj l' e=>by
 unfold Ga.put;split
 .subst_vars;rw[h]at e;cases e
 .exact e
theorem Ga.put_self(g:Ga)(i:Nat)(l:Loc):g.put i l i=some l:=by unfold Ga.put;rw[if_pos rfl]
theorem Ga.put_ne(g:Ga){i j:Nat}(l:Loc)(h:j≠i):g.put i l j=g j:=by unfold Ga.put;rw[if_neg h]
inductive All2{α β:Type}(R:α->β->Prop):List α->List β->Prop
 | nil:All2 R [] []
 | cons {a b la bs} (h:R a b) (t:All2 R la bs):All2 R (a::la) (b::bs)
namespace All2
variable{α β:Type}{R R':α->β->Prop}{la la':List α}{bs bs':List β}
theorem len(h:All2 R la bs):la.length=bs.length:=by induction h with|nil=>rfl|cons _ _ ih=>simp[ih]
theorem mono(h:All2 R la bs)(hR:∀a b,R a b->R' a b):All2 R' la bs:=by
 induction h with
 | nil=>exact .nil
 | cons h _ ih=>exact .cons (hR _ _ h) ih
theorem append(h:All2 R la bs)(h':All2 R la' bs'):All2 R (la++la') (bs++bs'):=by
 induction h with
 | nil=>exact h'
 | cons h _ ih=>exact .cons h ih
theorem take(h:All2 R la bs):∀(n:Nat),All2 R (la.take n) (bs.take n):=by
 induction h with
 | nil=>intro n;simp;exact .nil
 | cons h _ ih =>
  intro n;cases n with
  | zero=>exact .nil
  | succ n=>exact .cons h (ih n)
theorem drop(h:All2 R la bs):∀(n:Nat),All2 R (la.drop n) (bs.drop n):=by
 induction h with
 | nil=>intro n;simp;exact .nil
 | cons h t ih =>
  intro n;cases n with
  | zero=>exact .cons h t
  | succ n=>exact ih n
theorem get(h:All2 R la bs):∀{i:Nat} {a:α},la[i]? = some a->∃b,bs[i]? = some b/\R a b:=by
 induction h with
 | nil=>intro i a h;simp at h
 | cons h _ ih =>
  intro i x hx;cases i with
  | zero=>simp at hx;subst hx;exact⟨_,rfl,h⟩
  | succ i=>exact ih (by simpa using hx)
end All2
def Fz.In(z:Fz)(w:World):Prop:=∀k,z.F k->k<w.heap.size/\w.heap[k]? = z.w.heap[k]?
theorem Fz.In.ext{z:Fz}{w w':World}(h:z.In w)(hx:Ext w w'):z.In w':=λk hk=>by
 have hb:=hx.below;exact⟨Nat.lt_of_lt_of_le (h k hk).1 hb.size,(hb.block k (h k hk).1).trans (h k hk).2⟩
def RT(E:TE)(z:Fz)(t:Ty)(x:Den E.S t)(v:Value):Prop:=match t,x with | .st n,x=>∃vs,v = .agg vs.toArray/\RD E z (E.cs n) (E.un n x) vs | .int k,x=>RD E z [.int k] (x,()) [v] | .bool,x=>RD E z [.bool] (x,()) [v] | .str,x=>RD E z [.str] (x,()) [v] | .sl e,x=>RD E z [.sl e] (x,()) [v]
def RTs(E:TE)(z:Fz):(ts:List Ty)->HL E.S ts->List Value->Prop | [],_,vs=>vs=[]|t::ts,h,vs=>∃v vs',vs=v::vs'/\RT E z t h.1 v/\RTs E z ts h.2 vs'
def Ty.flatB:Ty->Bool | .int _ | .bool | .str=>true|_=>false
def cn_(P:Program)(f:FuncId):Bool:=match P.funcs[f]? with
 | some fn => !(fn.name == "runtime.NumGoroutine") && !fn.body.isNone
 | none=>false
theorem me_{P:Program}{f:FuncId}{args:Array Value}{w:World}(h:cn_ P f=true):(callFunc f args).run P w = .ok (.enter f args) w:=by
 unfold cn_ at h;split at h
 .rename_i fn hf;simp only[qAn,Bool.not_eq_true']at h
  have h1 : ¬ fn.name = "runtime.NumGoroutine" := by simpa using h.1
  have h2:¬fn.body=none:=λe=>by rw[e]at h;simp at h
  unfold callFunc;simp[hf,h1,h2]
 .cases h
def FnOK(P:Program)(E:TE)(z:Fz)(f:Value)(la:List Ty)(r:Ty)(g:HL E.S la->Option (Den E.S r)):Prop :=
 ∃fid caps,f = .func (.func fid) #[] caps/\(cn_ P fid=true/\r.flatB=true)/\∀(w:World) (z':Fz) (h:HL E.S la) (y:Den E.S r) (args:List Value),z.Le z'->z'.In w->RTs E z' la h args->g h=some y ->
  Ret P fid (args.toArray++caps) w λu w'=>RD E z' [r] (y,()) [u]/\Ext w w'
theorem FnOK.le{P:Program}{E:TE}{z z':Fz}{f:Value}{la:List Ty}{r:Ty}{g:HL E.S la->Option (Den E.S r)}(h:FnOK P E z f la r g)(hz:z.Le z'):FnOK P E z' f la r g:=by
 obtain⟨fid,caps,e,hf,hc⟩:=h;exact⟨fid,caps,e,hf,λw z2 hh y args h1 h2 h3 h4=>hc w z2 hh y args (hz.trans h1) h2 h3 h4⟩
def RC(P:Program)(E:TE)(z:Fz)(g:Ga):SC E->Value->Prop | .dt t x,v=>RD E z [t] (x,()) [v] | .own id,v=>∃l,g id=some l/\v = .slice l.A l.n l.cap | .pre id n,v=>∃l,g id=some l/\n.toNat<=l.n/\v = .slice l.A n.toNat l.cap | .suf id lo,v=>∃l,g id=some l/\lo.toNat<=l.n/\v = .slice (cutA l.A l.c lo.toNat l.cap) (l.n-lo.toNat) (l.cap-lo.toNat) | .nils,v=>v = .slice none 0 0 | .ptr id off,v=>∃l,g id=some l/\v = .pointer (some ⟨l.b,off,none⟩) | .elo _ q i off,v=>∃l,g q=some l/\l.ix=i/\v = .pointer (some ⟨l.b,l.n+off,none⟩) | .elf t x off,v=>∃b o r,v = .pointer (some ⟨b,o+off,none⟩)/\z.F b/\RD E z (E.flat t) (E.fl t x) r/\∀j u,r[j]? = some u->z.w.cell? ⟨b,o+j,none⟩=some u | .fn1 a r f,v=>FnOK P E z v [a] r λh=>f h.1 | .fn2 a b r f,v=>FnOK P E z v [a,b] r λh=>f h.1 h.2.1 | .clo f caps,v=>∃us,v = .func (.func f) #[] us.toArray/\All2 (λid u=>∃l,g id=some l/\u = .pointer (some ⟨l.b,0,none⟩)) caps us | .mp id,v=>∃l,g id=some l/\v = .map (some l.b) | .mst q,v=>∃l,g q=some l/\v = .int .i64 (l.n:Int) | .nilp,v=>v = .pointer none | .nif,v=>v = .nilIface | .sbp id,v=>∃l,g id=some l/\(v = .pointer none\/v = .pointer (some ⟨l.b,0,none⟩)) | .pix id i,v=>∃l,g id=some l/\v = .pointer (some ⟨l.b,i.toNat,none⟩) | .efx t x i,v=>∃b o r,v = .pointer (some ⟨b,o+i.toNat,none⟩)/\z.F b/\RD E z (E.flat t) (E.fl t x) r/\∀j u,r[j]? = some u->z.w.cell? ⟨b,o+j,none⟩=some u
def R1(P:Program)(E:TE)(z:Fz)(g:Ga):V1 E->Value->Prop | .one c,v=>RC P E z g c v | .agg l,v=>∃vs,v = .agg vs.toArray/\All2 (RC P E z g) l vs
def RV(P:Program)(E:TE)(z:Fz)(g:Ga):SV E->Value->Prop | .v x,v=>R1 P E z g x v | .tup l,v=>∃vs,v = .tuple vs.toArray/\All2 (R1 P E z g) l vs
section
variable{P:Program}{E:TE}{z z':Fz}{g g':Ga}{w w' w0:World}
theorem RC.le{c:SC E}{v:Value}(h:RC P E z g c v)(hz:z.Le z')(hg:g.Le g'):RC P E z' g' c v:=by
 cases c with
 | dt t x=>exact RD.le h hz
 | own id=>obtain⟨l,h1,h2⟩:=h;exact⟨l,hg _ _ h1,h2⟩
 | pre id n=>obtain⟨l,h1,h2⟩:=h;exact⟨l,hg _ _ h1,h2⟩
 | suf id lo=>obtain⟨l,h1,h2⟩:=h;exact⟨l,hg _ _ h1,h2⟩
 | nils=>exact h
 | ptr id off=>obtain⟨l,h1,h2⟩:=h;exact⟨l,hg _ _ h1,h2⟩
 | elo id q i off=>obtain⟨l,h1,h2⟩:=h;exact⟨l,hg _ _ h1,h2⟩
 | elf t x off =>
  obtain⟨b,o,r,h1,h2,h3,h4⟩:=h;exact⟨b,o,r,h1,(hz b h2).1,h3.le hz,λj u hu=>(World.cell?_of_block (w:=z.w) (hz b h2).2).trans (h4 j u hu)⟩
 | fn1 a r f=>exact FnOK.le h hz
 | fn2 a b r f=>exact FnOK.le h hz
 | clo f caps=>obtain⟨us,h1,h2⟩:=h;exact⟨us,h1,h2.mono λ_ _ ⟨l,h3,h4⟩=>⟨l,hg _ _ h3,h4⟩⟩
 | mp id=>obtain⟨l,h1,h2⟩:=h;exact⟨l,hg _ _ h1,h2⟩
 | mst q=>obtain⟨l,h1,h2⟩:=h;exact⟨l,hg _ _ h1,h2⟩
 | nilp=>exact h
 | nif=>exact h
 | sbp id=>obtain⟨l,h1,h2⟩:=h;exact⟨l,hg _ _ h1,h2⟩
 | pix id i=>obtain⟨l,h1,h2⟩:=h;exact⟨l,hg _ _ h1,h2⟩
 | efx t x i =>
  obtain⟨b,o,r,h1,h2,h3,h4⟩:=h;exact⟨b,o,r,h1,(hz b h2).1,h3.le hz,λj u hu=>(World.cell?_of_block (w:=z.w) (hz b h2).2).trans (h4 j u hu)⟩
theorem RC.cell{c:SC E}{v:Value}(h:RC P E z g c v):dG_ v=true:=by
 cases c with
 | dt t x=>exact RD.cell h
 | own id=>obtain⟨l,h1,rfl⟩:=h;rfl
 | pre id n=>obtain⟨l,h1,_,rfl⟩:=h;rfl
 | suf id lo=>obtain⟨l,h1,_,rfl⟩:=h;rfl
 | nils=>simp only[RC]at h;subst h;rfl
 | ptr id off=>obtain⟨l,h1,rfl⟩:=h;rfl
 | elo id q i off=>obtain⟨l,h1,_,rfl⟩:=h;rfl
 | elf t x off=>obtain⟨b,o,r,rfl,_⟩:=h;rfl
 | fn1 a r f=>obtain⟨fid,caps,rfl,_⟩:=h;rfl
 | fn2 a b r f=>obtain⟨fid,caps,rfl,_⟩:=h;rfl
 | clo f caps=>obtain⟨us,rfl,_⟩:=h;rfl
 | mp id=>obtain⟨l,h1,rfl⟩:=h;rfl
 | mst q=>obtain⟨l,h1,rfl⟩:=h;rfl
 | nilp=>simp only[RC]at h;subst h;rfl
 | nif=>simp only[RC]at h;subst h;rfl
 | sbp id=>obtain⟨l,h1,rfl|rfl⟩:=h<;>rfl
 | pix id i=>obtain⟨l,h1,rfl⟩:=h;rfl
 | efx t x i=>obtain⟨b,o,r,rfl,_⟩:=h;rfl
theorem RC.cells{l:List (SC E)}{vs:List Value}(h:All2 (RC P E z g) l vs):bk_ vs=true:=by
 induction h with
 | nil=>rfl
 | cons h _ ih=>simp[bk_,RC.cell h,ih]
theorem R1.le{x:V1 E}{v:Value}(h:R1 P E z g x v)(hz:z.Le z')(hg:g.Le g'):R1 P E z' g' x v:=by
 cases x with
 | one c=>exact RC.le h hz hg
 | agg l=>obtain⟨vs,e,h⟩:=h;exact⟨vs,e,h.mono λ_ _ h=>RC.le h hz hg⟩
theorem RV.le{x:SV E}{v:Value}(h:RV P E z g x v)(hz:z.Le z')(hg:g.Le g'):RV P E z' g' x v:=by
 cases x with
 | v x=>exact R1.le h hz hg
 | tup l=>obtain⟨vs,e,h⟩:=h;exact⟨vs,e,h.mono λ_ _ h=>R1.le h hz hg⟩
def hlc(E:TE):(ts:List Ty)->HL E.S ts->List (SC E) | [],_=>[]|t::ts,h => .dt t h.1::hlc E ts h.2
theorem hlc_rd:∀{ts:List Ty} {h:HL E.S ts} {vs:List Value},RD E z ts h vs↔All2 (RC P E z g) (hlc E ts h) vs
 | [],h,vs=>⟨λr=>by rw[r.nil_inv];exact .nil,λr=>by cases r;exact .nil⟩
 | t::ts,h,vs=>⟨λr=>by
   obtain⟨v,vs',rfl,h1,h2⟩:=r.uncons;exact .cons h1 (hlc_rd.1 h2),λr=>by
   obtain⟨x,h⟩:=h;simp only[hlc]at r;cases r with
   | cons h1 h2=>exact RD.cons h1 (hlc_rd.2 h2)⟩
def TE.cells(E:TE)(t:Ty)(x:Den E.S t):List (SC E):=hlc E (E.flat t) (E.fl t x)
theorem cells_rd{t:Ty}{x:Den E.S t}{vs:List Value}:RD E z (E.flat t) (E.fl t x) vs↔All2 (RC P E z g) (E.cells t x) vs:=hlc_rd
def cu_(E:TE):(ts:List Ty)->HL E.S ts->Option (List Value)
 | [],_=>some []
 | .int k::ts,h=>match cu_ E ts h.2 with|some l=>some (.int k h.1::l)|none=>none
 | .bool::ts,h=>match cu_ E ts h.2 with|some l=>some (.bool h.1::l)|none=>none
 | .str::ts,h=>match cu_ E ts h.2 with|some l=>some (S h.1::l)|none=>none
 | _,_=>none
theorem ja_:∀{ts:List Ty} {h:HL E.S ts} {vs l:List Value},RD E z ts h vs->cu_ E ts h=some l->vs=l
 | [],h,vs,l,hr,he=>by rw[hr.nil_inv];simpa[cu_]using he
 | .int k::ts,h,vs,l,hr,he=>by
  obtain⟨vs',rfl,hq⟩:=hr.int_inv;simp only[cu_]at he;split at he
  .rename_i l' hl;obtain rfl:=qSj he;rw[ja_ hq hl]
  .cases he
 | .bool::ts,h,vs,l,hr,he=>by
  obtain⟨vs',rfl,hq⟩:=hr.bool_inv;simp only[cu_]at he;split at he
  .rename_i l' hl;obtain rfl:=qSj he;rw[ja_ hq hl]
  .cases he
 | .str::ts,h,vs,l,hr,he=>by
  obtain⟨vs',rfl,hq⟩:=hr.str_inv;simp only[cu_]at he;split at he
  .rename_i l' hl;obtain rfl:=qSj he;rw[ja_ hq hl]
  .cases he
 | .sl e::ts,h,vs,l,hr,he=>by simp[cu_]at he
 | .st n::ts,h,vs,l,hr,he=>by simp[cu_]at he
def b9_(E:TE):(t:Ty)->Den E.S t->Option Value
 | .st n,x=>match cu_ E (E.cs n) (E.un n x)with
  | some l=>some (.agg l.toArray)
  | none=>none
 | .int k,n=>some (.int k n)
 | .bool,b=>some (.bool b)
 | .str,s=>some (S s)
 | .sl _,_=>none
inductive MapR(E:TE)(k v:Ty):List (Den E.S k)->List (Den E.S v)->List MapEntry->Prop
 | nil:MapR E k v [] [] []
 | cons {x y e ks vs es} (hk:b9_ E k x=some e.key) (hv:b9_ E v y=some e.val) (t:MapR E k v ks vs es):MapR E k v (x::ks) (y::vs) (e::es)
structure MapIs(E:TE)(k v:Ty)(ks:List (Den E.S k))(vs:List (Den E.S v))(es:Array MapEntry)(clock:Nat):Prop where
 rel:MapR E k v ks vs es.toList
 lt:∀e∈es.toList,e.born<clock
 nd:(es.toList.map (·.born)).Nodup
 ks:ks.Nodup
def Rows(E:TE)(z:Fz)(t:Ty)(xs:List (Den E.S t))(rows:List (List Value)):Prop:=∀(i:Nat) x r,xs[i]? = some x->rows[i]? = some r->RD E z (E.flat t) (E.fl t x) r
theorem Rows.le{t:Ty}{xs:List (Den E.S t)}{rows:List (List Value)}(h:Rows E z t xs rows)(hz:z.Le z'):Rows E z' t xs rows:=λi x r h1 h2=>(h i x r h1 h2).le hz
def ObjR(P:Program)(E:TE)(z:Fz)(g:Ga)(w:World)(id:Nat):Obj E->Prop | .box T cs=>∃l vs,g id=some l/\w.heap[l.b]? = some (.cells vs.toArray T (0,0))/\All2 (RC P E z g) cs vs | .row e t xs foc=>∃l rows,g id=some l/\l.n=xs.length/\l.c=E.size t/\w.ownsRow 0 e l.c (.slice l.A l.n l.cap) l.n rows.flatten/\rows.length=l.n/\(∀r∈rows,r.length=l.c)/\Rows E z t xs rows/\∀p∈foc,ag_ xs p.2.1=some p.2.2/\∃lq o,g p.1=some lq/\l.A=some ⟨lq.b,o,none⟩/\lq.n=o+p.2.1.toNat*l.c/\lq.ix=p.2.1 | .fr t xs=>∃l rows,g id=some l/\l.n=xs.length/\l.c=E.size t/\SlF z.F l.c l.A l.n rows z.w/\l.n<=l.cap/\Rows E z t xs rows | .fb t x=>∃l r,g id=some l/\z.F l.b/\RD E z (E.flat t) (E.fl t x) r/\∀j u,r[j]? = some u->z.w.cell? ⟨l.b,j,none⟩=some u | .map _ k v ks vs foc=>∃l es clock,g id=some l/\w.heap[l.b]? = some (.map es clock)/\MapIs E k v ks vs es clock/\∀p∈foc,∃lq,∃i:Nat,∃e:MapEntry,g p.1=some lq/\es.toList[i]? = some e/\e.born=lq.n/\ks[i]? = some p.2
def fpO{E:TE}(g:Ga)(id:Nat):Obj E->Nat->Prop | .box ..,k=>∃l,g id=some l/\k=l.b | .row ..,k=>∃l a,g id=some l/\l.A=some a/\k=a.block | .fr ..,_=>False | .fb ..,_=>False | .map ..,k=>∃l,g id=some l/\k=l.b
theorem ObjR.loc{id:Nat}{o:Obj E}(h:ObjR P E z g w id o):∃l,g id=some l:=by
 cases o with
 | box T cs=>obtain⟨l,_,h1,_⟩:=h;exact⟨l,h1⟩
 | row e t xs foc=>obtain⟨l,_,h1,_⟩:=h;exact⟨l,h1⟩
 | fr t xs=>obtain⟨l,_,h1,_⟩:=h;exact⟨l,h1⟩
 | fb t x=>obtain⟨l,_,h1,_⟩:=h;exact⟨l,h1⟩
 | map T k v ks vs foc=>obtain⟨l,_,_,h1,_⟩:=h;exact⟨l,h1⟩
theorem fY_{id:Nat}{o:Obj E}{k:Nat}(h:∃l,g id=some l)(hg:g.Le g'):fpO g' id o k↔fpO g id o k:=by
 obtain⟨l,hl⟩:=h;have hl':=hg _ _ hl;cases o with
 | box T cs=>exact⟨λ⟨l',h1,h2⟩=>⟨l',by rw[hl']at h1;rw[hl];exact h1,h2⟩,λ⟨l',h1,h2⟩=>⟨l',hg _ _ h1,h2⟩⟩
 | row e t xs foc=>exact⟨λ⟨l',a,h1,h2⟩=>⟨l',a,by rw[hl']at h1;rw[hl];exact h1,h2⟩,λ⟨l',a,h1,h2⟩=>⟨l',a,hg _ _ h1,h2⟩⟩
 | fr t xs=>exact Iff.rfl
 | fb t x=>exact Iff.rfl
 | map T k v ks vs foc=>exact⟨λ⟨l',h1,h2⟩=>⟨l',by rw[hl']at h1;rw[hl];exact h1,h2⟩,λ⟨l',h1,h2⟩=>⟨l',hg _ _ h1,h2⟩⟩
theorem ObjR.lt{id:Nat}{o:Obj E}(h:ObjR P E z g w id o){k:Nat}(hk:fpO g id o k):k<w.heap.size:=by
 cases o with
 | box T cs =>
  obtain⟨l,vs,h1,h2,_⟩:=h;obtain⟨l',h3,rfl⟩:=hk;rw[h1]at h3;obtain rfl:=qSj h3;rcases Nat.lt_or_ge l.b w.heap.size with h'|h'
  .exact h'
  .rw[Array.getElem?_eq_none h']at h2;cases h2
 | row e t xs foc =>
  obtain⟨l,rows,h1,_,_,h2,_⟩:=h;obtain⟨l',a,h3,h4,rfl⟩:=hk;rw[h1]at h3;obtain rfl:=qSj h3;exact(World.ownsRow.lt h2 a.block (by rw[h4];rfl)).2
 | fr t xs=>exact hk.elim
 | fb t x=>exact hk.elim
 | map T k v ks vs foc =>
  obtain⟨l,es,c,h1,h2,_⟩:=h;obtain⟨l',h3,rfl⟩:=hk;rw[h1]at h3;obtain rfl:=qSj h3;rcases Nat.lt_or_ge l.b w.heap.size with h'|h'
  .exact h'
  .rw[Array.getElem?_eq_none h']at h2;cases h2
theorem ObjR.keep{id:Nat}{o:Obj E}(h:ObjR P E z g w id o)(hz:z.Le z')(hg:g.Le g')(hk:∀k,fpO g id o k->w'.heap[k]? = w.heap[k]?):ObjR P E z' g' w' id o:=by
 cases o with
 | box T cs =>
  obtain⟨l,vs,h1,h2,h3⟩:=h;exact⟨l,vs,hg _ _ h1,by rw[hk _ ⟨l,h1,rfl⟩];exact h2,h3.mono λ_ _ h=>RC.le h hz hg⟩
 | row e t xs foc =>
  obtain⟨l,rows,h1,hn,hc,h2,h3,h4,h5,h6⟩:=h;refine⟨l,rows,hg _ _ h1,hn,hc,⟨h2.1,?_⟩,h3,h4,h5.le hz,λp hp=>let ⟨h7,lq,o,h8,h9⟩:=h6 p hp;⟨h7,lq,o,hg _ _ h8,h9⟩⟩;rcases h2.2 with h'|⟨b,cap',cur,hv,hb,hh,r⟩
  .exact .inl h'
  .refine .inr ⟨b,cap',cur,hv,hb,?_,r⟩;injection hv with hA;rw[hk b ⟨l,_,h1,hA,rfl⟩];exact hh
 | fr t xs =>
  obtain⟨l,rows,h1,hn,hc,h2,h3,h4⟩:=h;exact⟨l,rows,hg _ _ h1,hn,hc,SlF.le h2 hz,h3,h4.le hz⟩
 | fb t x =>
  obtain⟨l,r,h1,h2,h3,h4⟩:=h;exact⟨l,r,hg _ _ h1,(hz _ h2).1,h3.le hz,λj u hu=>(World.cell?_of_block (w:=z.w) (hz _ h2).2).trans (h4 j u hu)⟩
 | map T k v ks vs foc =>
  obtain⟨l,es,c,h1,h2,h3,h4⟩:=h;exact⟨l,es,c,hg _ _ h1,by rw[hk _ ⟨l,h1,rfl⟩];exact h2,h3,λp hp=>let ⟨lq,i,e,h5,h6⟩:=h4 p hp;⟨lq,i,e,hg _ _ h5,h6⟩⟩
def Glo(E:TE)(z:Fz):Prop:=∀n t x,E.gl n=some ⟨t,x⟩->z.F n/\∃r,RD E z (E.flat t) (E.fl t x) r/\(∀j u,r[j]? = some u->z.w.cell? ⟨n,j,none⟩=some u)/\∃e c,z.w.heap[n]? = some (.cells r.toArray e c)
theorem Glo.le(h:Glo E z)(hz:z.Le z'):Glo E z':=λn t x e=>by
 obtain⟨h1,r,h2,h3,e,c,h4⟩:=h n t x e;exact⟨(hz n h1).1,r,h2.le hz,λj u hu=>(World.cell?_of_block (w:=z.w) (hz n h1).2).trans (h3 j u hu),e,c,(hz n h1).2.trans h4⟩
structure HR(P:Program)(E:TE)(Bs:List Nat)(F0:Nat->Prop)(w0 w:World)(z:Fz)(g:Ga)(H:Nat->Option (Obj E)):Prop where
 chg:Chg Bs w0 w
 hold:∀id o,H id=some o->ObjR P E z g w id o
 own:∀id o k,H id=some o->fpO g id o k->w0.heap.size<=k\/k∈Bs
 apart:∀id id' o o' k,id≠id'->H id=some o->H id'=some o'->fpO g id o k->¬fpO g id' o' k
 fz:z.In w
 fz0:∀k,z.F k->F0 k\/w0.heap.size<=k\/k∈Bs
 fza:∀id o k,H id=some o->fpO g id o k->¬z.F k
 gl:Glo E z
section
variable{Bs:List Nat}{F0:Nat->Prop}{H H':Nat->Option (Obj E)}
theorem HR.size(h:HR P E Bs F0 w0 w z g H):w0.heap.size<=w.heap.size:=h.chg.grow.size
theorem HR.less(h:HR P E Bs F0 w0 w z g H)(hH:∀i o,H' i=some o->H i=some o):HR P E Bs F0 w0 w z g H' :=
 ⟨h.chg,λi o e=>h.hold i o (hH i o e),λi o k e=>h.own i o k (hH i o e),λi j o p k hn e e'=>h.apart i j o p k hn (hH i o e) (hH j p e'),h.fz,h.fz0,λi o k e=>h.fza i o k (hH i o e),h.gl⟩
theorem HR.ext(h:HR P E Bs F0 w0 w z g H)(hx:Ext w w'):HR P E Bs F0 w0 w' z g H:=by
 have hb:=hx.below;refine⟨⟨h.chg.grow.trans (Grow.of_below hb),λk hk hn=>(hb.block k (Nat.lt_of_lt_of_le hk h.size)).trans (h.chg.block k hk hn)⟩,λi o e => ?_,h.own,h.apart,h.fz.ext hx,h.fz0,h.fza,h.gl⟩;exact(h.hold i o e).keep (Fz.Le.refl z) (Ga.Le.refl g) λk hk=>hb.block k ((h.hold i o e).lt hk)
theorem HR.turn(h:HR P E Bs F0 w0 w z g H)(hg:g.Le g'){i i':Nat}{o':Obj E}{C:Nat->Prop}(hC:∀k,C k->∃o,H i=some o/\fpO g i o k)
  (hb:Grow w w') (hk:∀k,k<w.heap.size->¬C k->w'.heap[k]? = w.heap[k]?) (ho:ObjR P E z g' w' i' o') (hf:∀k,fpO g' i' o' k->C k\/w.heap.size<=k)
  (hH:∀j o,H' j=some o->(j=i'/\o=o')\/(j≠i'/\(j≠i\/∀k,¬C k)/\H j=some o)):HR P E Bs F0 w0 w' z g' H':=by
 have bp_:∀k,C k->w0.heap.size<=k\/k∈Bs:=λk hc=>by obtain⟨o,h1,h2⟩:=hC k hc;exact h.own i o k h1 h2
 have far:∀j o k,(j≠i\/∀k,¬C k)->H j=some o->fpO g j o k->¬C k:=λj o k hj e hf hc=>by
  rcases hj with hj|hj
  .obtain⟨p,h1,h2⟩:=hC k hc;exact h.apart j i o p k hj e h1 hf h2
  .exact hj k hc
 have fzC:∀k,z.F k->¬C k:=λk hz hc=>by obtain⟨o,h1,h2⟩:=hC k hc;exact h.fza i o k h1 h2 hz
 have lt:∀j o k,H j=some o->fpO g j o k->k<w.heap.size:=λj o k e hf=>(h.hold j o e).lt hf
 have fle:∀j o k,H j=some o->(fpO g' j o k↔fpO g j o k):=λj o k e=>fY_ (h.hold j o e).loc hg
 refine⟨⟨h.chg.grow.trans hb,λk hk1 hn=>(hk k (Nat.lt_of_lt_of_le hk1 h.size) λhc => ?_).trans (h.chg.block k hk1 hn)⟩,λj o e => ?_,λj o k e hfp => ?_,λj j' o p k hn e e' hfp hfp' => ?_,λk hz => ?_,h.fz0,λj o k e hfp hz => ?_,h.gl⟩
 .rcases bp_ k hc with h1|h1
  .omega
  .exact hn h1
 .rcases hH j o e with⟨rfl,rfl⟩|⟨_,h2,h3⟩
  .exact ho
  .exact(h.hold j o h3).keep (Fz.Le.refl z) hg λk hfk=>hk k (lt j o k h3 hfk) (far j o k h2 h3 hfk)
 .rcases hH j o e with⟨rfl,rfl⟩|⟨_,h2,h3⟩
  .rcases hf k hfp with h1|h1
   .exact bp_ k h1
   .exact .inl (Nat.le_trans h.size h1)
  .exact h.own j o k h3 ((fle j o k h3).1 hfp)
 .rcases hH j o e with⟨rfl,rfl⟩|⟨h1,h2,h3⟩<;>rcases hH j' p e' with⟨rfl,rfl⟩|⟨h1',h2',h3'⟩
  .exact hn rfl
  .have hfp':=(fle j' p k h3').1 hfp';rcases hf k hfp with hq|hq
   .exact far j' p k h2' h3' hfp' hq
   .have:=lt j' p k h3' hfp';omega
  .have hfp:=(fle j o k h3).1 hfp;rcases hf k hfp' with hq|hq
   .exact far j o k h2 h3 hfp hq
   .have:=lt j o k h3 hfp;omega
  .exact h.apart j j' o p k hn h3 h3' ((fle j o k h3).1 hfp) ((fle j' p k h3').1 hfp')
 .have:=h.fz k hz;exact⟨Nat.lt_of_lt_of_le this.1 hb.size,(hk k this.1 (fzC k hz)).trans this.2⟩
 .rcases hH j o e with⟨rfl,rfl⟩|⟨_,h2,h3⟩
  .rcases hf k hfp with hq|hq
   .exact fzC k hz hq
   .have:=(h.fz k hz).1;omega
  .exact h.fza j o k h3 ((fle j o k h3).1 hfp) hz
theorem HR.add(h:HR P E Bs F0 w0 w z g H)(hx:Ext w w'){i:Nat}{l:Loc}{o:Obj E}(hi:g i=none)(ho:ObjR P E z (g.put i l) w' i o)(hf:∀k,fpO (g.put i l) i o k->w.heap.size<=k)
  (hH:∀j p,H' j=some p->(j=i/\p=o)\/(j≠i/\H j=some p)):HR P E Bs F0 w0 w' z (g.put i l) H':=by
 have hb:=hx.below;refine h.turn (Ga.le_put hi) (i:=i) (i':=i) (C:=λ_=>False) (λ_ h=>h.elim) (Grow.of_below hb) (λk hk _=>hb.block k hk) ho (λk hk => .inr (hf k hk)) λj p e => ?_
 rcases hH j p e with h1|⟨h1,h2⟩
 .exact .inl h1
 .exact .inr ⟨h1,.inr λ_ h=>h,h2⟩
def Fz.grow(z:Fz)(F:Nat->Prop)(w:World):Fz:=⟨λk=>z.F k\/F k,w⟩
theorem Fz.In.grow_le{z:Fz}{w:World}(h:z.In w)(F:Nat->Prop):z.Le (z.grow F w):=λk hk=>⟨.inl hk,(h k hk).2⟩
theorem HR.freeze(h:HR P E Bs F0 w0 w z g H){i:Nat}{e:TypeId}{t:Ty}{xs:List (Den E.S t)}{foc:List (Nat×Int×Den E.S t)}(hi:H i=some (.row e t xs foc))
  (hH:∀j o,H' j=some o->(j=i/\o = .fr t xs)\/(j≠i/\H j=some o)):HR P E Bs F0 w0 w (z.grow (λk=>fpO g i (.row e t xs foc) k) w) g H':=by
 have hz:=h.fz.grow_le (λk=>fpO g i (.row e t xs foc) k);refine⟨h.chg,λj o ej => ?_,λj o k ej hfp => ?_,λj j' o p k hn ej ej' hfp hfp' => ?_,λk hk => ?_,λk hk => ?_,λj o k ej hfp hk => ?_,h.gl.le hz⟩
 .rcases hH j o ej with⟨rfl,rfl⟩|⟨_,h3⟩
  .obtain⟨l,rows,h1,hn,hc,h2,h3,h4,h5,_⟩:=h.hold _ _ hi;have hr:=cd_ (w:=w) (e:=e) (cap:=l.cap) ⟨h2,h3,h4⟩;refine⟨l,rows,h1,hn,hc,⟨hr.1,λhpos => ?_⟩,(Own.cap_le h2).1,h5.le hz⟩;obtain⟨b,off,hA,⟨a,ha,hb⟩,hcell⟩:=hr.2 hpos;exact⟨b,off,hA,.inr ⟨l,a,h1,ha,hb⟩,hcell⟩
  .exact(h.hold j o h3).keep hz (Ga.Le.refl g) λ_ _=>rfl
 .rcases hH j o ej with⟨rfl,rfl⟩|⟨_,h3⟩
  .exact hfp.elim
  .exact h.own j o k h3 hfp
 .rcases hH j o ej with⟨rfl,rfl⟩|⟨_,h3⟩
  .exact hfp
  .rcases hH j' p ej' with⟨rfl,rfl⟩|⟨_,h3'⟩
   .exact hfp'
   .exact h.apart j j' o p k hn h3 h3' hfp hfp'
 .rcases hk with hk|hk
  .exact⟨(h.fz k hk).1,rfl⟩
  .exact⟨(h.hold _ _ hi).lt hk,rfl⟩
 .rcases hk with hk|hk
  .exact h.fz0 k hk
  .exact .inr (h.own _ _ k hi hk)
 .rcases hH j o ej with⟨rfl,rfl⟩|⟨hn,h3⟩
  .exact hfp
  .rcases hk with hk|hk
   .exact h.fza j o k h3 hfp hk
   .exact h.apart j i o _ k hn h3 hi hfp hk
theorem HR.freezeBox(h:HR P E Bs F0 w0 w z g H){i:Nat}{T:TypeId}{cs:List (SC E)}{t:Ty}{x:Den E.S t}(hi:H i=some (.box T cs))(hd:∀vs,All2 (RC P E z g) cs vs->RD E z (E.flat t) (E.fl t x) vs)
  (hH:∀j o,H' j=some o->(j=i/\o = .fb t x)\/(j≠i/\H j=some o)):HR P E Bs F0 w0 w (z.grow (λk=>fpO g i (.box T cs) k) w) g H':=by
 have hz:=h.fz.grow_le (λk=>fpO g i (.box T cs) k);refine⟨h.chg,λj o ej => ?_,λj o k ej hfp => ?_,λj j' o p k hn ej ej' hfp hfp' => ?_,λk hk => ?_,λk hk => ?_,λj o k ej hfp hk => ?_,h.gl.le hz⟩
 .rcases hH j o ej with⟨rfl,rfl⟩|⟨_,h3⟩
  .obtain⟨l,vs,h1,h2,h3⟩:=h.hold _ _ hi;refine⟨l,vs,h1,.inr ⟨l,h1,rfl⟩,(hd vs h3).le hz,λq u hu => ?_⟩;show w.cell? _=_;rw[cell_of_row w l.b q vs.toArray T (0,0) h2];simpa using hu
  .exact(h.hold j o h3).keep hz (Ga.Le.refl g) λ_ _=>rfl
 .rcases hH j o ej with⟨rfl,rfl⟩|⟨_,h3⟩
  .exact hfp.elim
  .exact h.own j o k h3 hfp
 .rcases hH j o ej with⟨rfl,rfl⟩|⟨_,h3⟩
  .exact hfp
  .rcases hH j' p ej' with⟨rfl,rfl⟩|⟨_,h3'⟩
   .exact hfp'
   .exact h.apart j j' o p k hn h3 h3' hfp hfp'
 .rcases hk with hk|hk
  .exact⟨(h.fz k hk).1,rfl⟩
  .exact⟨(h.hold _ _ hi).lt hk,rfl⟩
 .rcases hk with hk|hk
  .exact h.fz0 k hk
  .exact .inr (h.own _ _ k hi hk)
 .rcases hH j o ej with⟨rfl,rfl⟩|⟨hn,h3⟩
  .exact hfp
  .rcases hk with hk|hk
   .exact h.fza j o k h3 hfp hk
   .exact h.apart j i o _ k hn h3 hi hfp hk
end
end
end Rt
end Go
