/-
 What the statements of this seat hang on,part 1: Base Sl Rt Ops Mem Mem2 Flow Way Go Go2 Mp Ra Rb.
-/
import Derived.WalkKit
import Derived.WalkSpells
import Derived.WalkLawsBesides
import Derived.Handy
import Derived.Deep.QuietTactic
import Derived.BigQuiet
import Derived.BigGuardPart
import Derived.Lib.Hide
import Derived.CellFam
import Derived.Laws.AppendOwnNone
import Derived.Laws.BytesString
import Derived.Deep.LoopGhost
import Derived.Maps.AppendAt
import Derived.ChangeKeysEq
import Derived.MapKept
namespace Go
abbrev tO.{u}:Type u->Type u:=Option
abbrev tL.{u}:Type u->Type u:=List
abbrev tV:=Bool
abbrev tW:=Value
abbrev tS:=World
abbrev tT:=Program
abbrev tA:=TypeId
abbrev tN:=Operand
abbrev tI:=Oper
abbrev tP:=ByteArray
abbrev tQ:=MapEntry
end Go
namespace Go
theorem qQ:type_of% @List.getElem?_eq_getElem:=@List.getElem?_eq_getElem
theorem qZ:type_of% @List.cons_ne_nil:=@List.cons_ne_nil
theorem qK:type_of% @List.getElem?_eq_some_iff:=@List.getElem?_eq_some_iff
theorem qV:type_of% @List.mem_cons:=@List.mem_cons
theorem qW:type_of% @List.mem_append:=@List.mem_append
theorem qY:type_of% @if_pos:=@if_pos
theorem qX:type_of% @List.length_take:=@List.length_take
theorem qA:type_of% @Nat.le_refl:=@Nat.le_refl
theorem qC:type_of% @Prod.mk.injEq:=@Prod.mk.injEq
theorem qD:type_of% @Int.le_refl:=@Int.le_refl
theorem qE:type_of% @Bool.eq_iff_iff:=@Bool.eq_iff_iff
theorem qF:type_of% @Bool.not_eq_true':=@Bool.not_eq_true'
theorem qG:type_of% @if_neg:=@if_neg
theorem qH:type_of% @List.mem_iff_getElem?:=@List.mem_iff_getElem?
theorem qL:type_of% @List.mem_cons_of_mem:=@List.mem_cons_of_mem
theorem qM:type_of% @congrArg:=@congrArg
theorem qN:type_of% @Nat.le_trans:=@Nat.le_trans
theorem qO:type_of% @Array.length_toList:=@Array.length_toList
theorem qP:type_of% @Bool.or_eq_false_iff:=@Bool.or_eq_false_iff
theorem qR:type_of% @List.mem_cons_self:=@List.mem_cons_self
theorem qS:type_of% @Option.map_some:=@Option.map_some
theorem qT:type_of% @List.mem_singleton:=@List.mem_singleton
theorem qa:type_of% @List.mem_of_getElem?:=@List.mem_of_getElem?
theorem qb:type_of% @Nat.lt_or_ge:=@Nat.lt_or_ge
theorem qc:type_of% @List.cons_append:=@List.cons_append
theorem qe:type_of% @List.getElem?_eq_none:=@List.getElem?_eq_none
theorem qf:type_of% @Nat.mul_le_mul_right:=@Nat.mul_le_mul_right
theorem qg:type_of% @Nat.eq_zero_or_pos:=@Nat.eq_zero_or_pos
theorem qh:type_of% @List.mem_of_mem_take:=@List.mem_of_mem_take
theorem qi:type_of% @Array.getElem?_eq_none:=@Array.getElem?_eq_none
theorem qj:type_of% @Nat.zero_add:=@Nat.zero_add
theorem qk:type_of% @List.length_drop:=@List.length_drop
theorem qm:type_of% @List.all_eq_true:=@List.all_eq_true
theorem qn:type_of% @of_decide_eq_false:=@of_decide_eq_false
theorem qo:type_of% @List.getElem?_drop:=@List.getElem?_drop
theorem qq:type_of% @Nat.le_of_ble_eq_true:=@Nat.le_of_ble_eq_true
theorem qr:type_of% @List.pairwise_iff_getElem:=@List.pairwise_iff_getElem
theorem qt:type_of% @List.getElem?_map:=@List.getElem?_map
theorem qu:type_of% @List.sizeOf_lt_of_mem:=@List.sizeOf_lt_of_mem
theorem qv:type_of% @Nat.zero_le:=@Nat.zero_le
theorem qw:type_of% @Array.toArray_toList:=@Array.toArray_toList
theorem qx:type_of% @List.getElem?_take:=@List.getElem?_take
theorem qy:type_of% @List.append_assoc:=@List.append_assoc
theorem qz:type_of% @Bool.or_eq_true:=@Bool.or_eq_true
theorem zQ:type_of% @beq_iff_eq:=@beq_iff_eq
theorem zZ:type_of% @List.mem_map:=@List.mem_map
theorem zJ:type_of% @Array.getElem?_modify:=@Array.getElem?_modify
theorem zK:type_of% @Nat.succ_mul:=@Nat.succ_mul
theorem zV:type_of% @Nat.not_lt_zero:=@Nat.not_lt_zero
theorem zW:type_of% @Nat.add_assoc:=@Nat.add_assoc
theorem zY:type_of% @List.map_cons:=@List.map_cons
theorem zX:type_of% @List.mem_of_find?_eq_some:=@List.mem_of_find?_eq_some
theorem zA:type_of% @List.take_of_length_le:=@List.take_of_length_le
theorem zB:type_of% @cond_true:=@cond_true
theorem zC:type_of% @Nat.ble_eq_true_of_le:=@Nat.ble_eq_true_of_le
theorem zD:type_of% @List.take_append_drop:=@List.take_append_drop
theorem zF:type_of% @List.flatten_cons:=@List.flatten_cons
theorem zG:type_of% @List.ext_getElem?:=@List.ext_getElem?
theorem zH:type_of% @List.getElem?_append_right:=@List.getElem?_append_right
theorem zI:type_of% @Option.map_none:=@Option.map_none
theorem zL:type_of% @List.length_nil:=@List.length_nil
theorem zM:type_of% @List.drop_eq_getElem_cons:=@List.drop_eq_getElem_cons
theorem zN:type_of% @List.flatten_append:=@List.flatten_append
theorem zO:type_of% @Bool.and_eq_false_iff:=@Bool.and_eq_false_iff
theorem zP:type_of% @List.eq_of_mem_replicate:=@List.eq_of_mem_replicate
theorem zR:type_of% @cond_false:=@cond_false
theorem zS:type_of% @Nat.lt_of_lt_of_le:=@Nat.lt_of_lt_of_le
theorem zT:type_of% @List.length_eq_zero_iff:=@List.length_eq_zero_iff
theorem zU:type_of% @List.getElem_mem:=@List.getElem_mem
theorem za:type_of% @List.getD_eq_getElem?_getD:=@List.getD_eq_getElem?_getD
theorem zd:type_of% @Int.tdiv_eq_ediv_of_nonneg:=@Int.tdiv_eq_ediv_of_nonneg
theorem ze:type_of% @List.getElem?_append_left:=@List.getElem?_append_left
theorem zf:type_of% @Option.getD_some:=@Option.getD_some
theorem zg:type_of% @List.mem_flatten:=@List.mem_flatten
theorem zi:type_of% @List.eq_nil_of_length_eq_zero:=@List.eq_nil_of_length_eq_zero
theorem zj:type_of% @List.length_map:=@List.length_map
theorem zk:type_of% @List.append_nil:=@List.append_nil
theorem zl:type_of% @Nat.add_zero:=@Nat.add_zero
theorem zm:type_of% @Bool.not_eq_true:=@Bool.not_eq_true
theorem zn:type_of% @Bool.false_ne_true:=@Bool.false_ne_true
theorem zo:type_of% @Bool.false_eq_true:=@Bool.false_eq_true
theorem zp:type_of% @Nat.mul_comm:=@Nat.mul_comm
theorem zq:type_of% @List.size_toArray:=@List.size_toArray
theorem zr:type_of% @List.getElem?_set:=@List.getElem?_set
theorem zt:type_of% @Bool.false_or:=@Bool.false_or
theorem zu:type_of% @Array.getElem?_setIfInBounds_ne:=@Array.getElem?_setIfInBounds_ne
theorem zw:type_of% @beq_eq_false_iff_ne:=@beq_eq_false_iff_ne
theorem zy:type_of% @List.any_eq_true:=@List.any_eq_true
theorem zz:type_of% @List.find?_some:=@List.find?_some
theorem jQ:type_of% @List.all_cons:=@List.all_cons
theorem jZ:type_of% @List.length_singleton:=@List.length_singleton
theorem jJ:type_of% @List.contains_iff_mem:=@List.contains_iff_mem
theorem jK:type_of% @List.drop_zero:=@List.drop_zero
theorem jV:type_of% @List.drop_take:=@List.drop_take
theorem jW:type_of% @List.drop_drop:=@List.drop_drop
theorem jY:type_of% @Int.tmod_eq_emod_of_nonneg:=@Int.tmod_eq_emod_of_nonneg
theorem jX:type_of% @Array.getElem?_eq_some_iff:=@Array.getElem?_eq_some_iff
theorem jA:type_of% @Nat.le_of_lt:=@Nat.le_of_lt
theorem jB:type_of% @List.length_take_le:=@List.length_take_le
theorem jC:type_of% @Bool.true_and:=@Bool.true_and
theorem jD:type_of% @List.nil_append:=@List.nil_append
theorem jE:type_of% @bne_iff_ne:=@bne_iff_ne
theorem jF:type_of% @Bool.not_eq_false':=@Bool.not_eq_false'
theorem jG:type_of% @List.getElem?_cons_zero:=@List.getElem?_cons_zero
theorem jH:type_of% @List.getElem?_toArray:=@List.getElem?_toArray
theorem jI:type_of% @List.map_toArray:=@List.map_toArray
theorem jL:type_of% @Sum.inl.inj:=@Sum.inl.inj
theorem jM:type_of% @Nat.div_lt_of_lt_mul:=@Nat.div_lt_of_lt_mul
end Go
namespace Go
theorem qSj{α:Type _}{a b:α}(h:some a=some b):a=b:=Option.some.inj h
theorem qBs{α β:Type _}(a:α)(f:α->tO β):(some a).bind f=f a:=rfl
theorem qAn(a b:tV):((a&&b)=true)=(a=true/\b=true):=Bool.and_eq_true a b
theorem qDe{p:Prop}[Decidable p]:(decide p=true)=p:=decide_eq_true_eq
theorem qDf{p:Prop}{_:Decidable p}:decide p=false↔¬p:=decide_eq_false_iff_not
theorem qNb{n m:Nat}(h:Nat.beq n m=true):n=m:=Nat.eq_of_beq_eq_true h
theorem qLa{α:Type _}{l m:tL α}:(l++m).length=l.length+m.length:=List.length_append
theorem qLc{α:Type _}{a:α}{l:tL α}:(a::l).length=l.length+1:=rfl
theorem qOi{α:Type _}(a b:α):(some a=some b)=(a=b):=Option.some.injEq a b
theorem qOb{α β:Type _}{o:tO α}{f:α->tO β}{b:β}:o.bind f=some b↔∃a,o=some a/\f a=some b:=Option.bind_eq_some_iff
theorem qTn(n:Nat):(n:Int).toNat=n:=Int.toNat_natCast n
open Go.RowKit
def World.ext(w:tS)(X:Array Obj)(d:Nat):tS:={ w with heap:=w.heap++X,drawn:=d }
section
variable(w:tS)(X:Array Obj)(d:Nat)
@[go_sem,simp] theorem World.size_ext:(w.ext X d).heap.size=w.heap.size+X.size:=by simp[World.ext]
theorem World.heap_ext(k:Nat)(h:k<w.heap.size):(w.ext X d).heap[k]? = w.heap[k]?:=by
 show(w.heap++X)[k]? = _;rw[Array.getElem?_append_left h]
@[go_sem,simp] theorem World.ext_ext (Y:Array Obj) (e:Nat):(w.ext X d).ext Y e=w.ext (X++Y) e:=by
 simp[World.ext,Array.append_assoc]
theorem World.alloc_ext(o:Obj):(w.ext X d).alloc o=w.ext (X.push o) d:=by
 show({ w with heap:=(w.heap++X).push o,drawn:=d }:tS)=_;simp[World.ext,←Array.push_append]
theorem World.self_as_ext:w=w.ext #[] w.drawn:=by simp only[World.ext,Array.append_empty]
theorem World.drew_as_ext:w.drew=w.ext #[] (w.drawn+1):=by simp only[World.ext,Array.append_empty];rfl
theorem World.below_ext:Below w.heap.size w (w.ext X d):=
 ⟨rfl,rfl,rfl,by simp,λk f=>World.heap_ext w X d k f⟩
end
theorem RowKit.Below.toExt{w w':tS}(h:Below w.heap.size w w'):∃X d,w'=w.ext X d:=by
 refine⟨w'.heap.extract w.heap.size w'.heap.size,w'.drawn,?_⟩;obtain⟨h1,p,m,s,j⟩:=h;cases w' with
 | mk heap tape drawn os output=>
  simp only at h1 p m s j;simp only[World.ext,h1,p,m]
  congr 1
  apply Array.ext_getElem?;intro k;by_cases f:k<w.heap.size
  .rw[Array.getElem?_append_left f];exact j k f
  .rw[Array.getElem?_append_right (by omega),Array.getElem?_extract];by_cases q:k<heap.size
   .rw[qY (by omega)];congr 1;omega
   .rw[qG (by omega),qi (by omega)]
def Ext(w w':tS):Prop:=∃X d,w'=w.ext X d
theorem Ext.refl(w:tS):Ext w w:=⟨#[],w.drawn,World.self_as_ext w⟩
theorem Ext.trans{a b c:tS}(h:Ext a b)(k:Ext b c):Ext a c:=by
 obtain⟨X,d,rfl⟩:=h;obtain⟨Y,e,rfl⟩:=k;exact⟨X++Y,e,by simp⟩
theorem Ext.alloc{a b:tS}(h:Ext a b)(o:Obj):Ext a (b.alloc o):=by
 obtain⟨X,d,rfl⟩:=h;exact⟨_,_,World.alloc_ext _ _ _ o⟩
theorem Ext.drew{a b:tS}(h:Ext a b):Ext a b.drew:=by
 obtain⟨X,d,rfl⟩:=h;exact⟨X,d+1,rfl⟩
theorem Ext.below{a b:tS}(h:Ext a b):Below a.heap.size a b:=by
 obtain⟨X,d,rfl⟩:=h;exact World.below_ext a X d
theorem Ext.of_below{a b:tS}(h:Below a.heap.size a b):Ext a b:=h.toExt
section
variable{P:tT}{ops:Array tI}{md:Region.Mode}{Q:Exit->Act->tS->Prop}
def Oper.quietUponX(P:tT)(w:tS)(v:tW):Result Next->Prop|.ok (.value u) w'=>w'=w/\u=v|.ok .skip w'=>w'=w/\v=undef|.ok (.enter f args) w'=>w'=w/\Calls P f args w (λe h=>e = .returned v/\Ext w h)|_=>False
def b9_(Q:Exit->Act->tS->Prop):Exit->Act->tS->Prop:=λe _ _=>e = .outgrown/\LetsOut Q
theorem gd_(h:LetsOut (b9_ Q)):LetsOut Q:=let ⟨_,_,_,h⟩:=h;h
theorem Oper.wp_out{o:tI}{a:Act}{w:tS}{K K':Act->tS->Prop}{Q Q':Exit->Act->tS->Prop}(m:∀a w,K a w->K' a w)
  (p:∀ch a w,Q (.panic ch) a w->Q' (.panic ch) a w) (q:LetsOut Q->LetsOut Q') (h:o.wp P a w K Q):o.wp P a w K' Q':=by
 unfold Oper.wp at *
 generalize(execOp a.eval o).run P w=r at *
 cases r with
 | ok n w'=>
  cases n<;>simp only[Oper.upon]at h ⊢ <;>
   first
    | exact m _ _ h
    | exact Calls.mono h (λe j f=>by
      cases e with
      | returned u=>exact m _ _ f
      | panicked chain=>exact p _ _ _ f
      | outgrown=>exact q f)
    | exact Rows.mono h (λu j f=>m _ _ f)
 | halt x w'=>cases x<;>simp only[Oper.upon]at h ⊢<;>first|exact h|exact p _ _ _ h
theorem wpOp_out {i:Nat} {K:Act->tS->Prop} {a:Act} {w:tS} (f:wpOp P ops (b9_ Q) i K a w):wpOp P ops Q i K a w:=by
 unfold wpOp at *
 split
 .simpa[*]using f
 .rename_i o q;simp only[q]at f;split
  .rename_i j;simp only[j,if_true]at f;refine f.imp (λh=>?_) (λh=>⟨h.1,gd_ h.2⟩);unfold Oper.wp at *
   generalize(execOp a.eval o).run P w=r at *
   cases r with
   | ok n w'=>
    cases n<;>simp only[Oper.upon]at h ⊢ <;>
     first
      | exact h
      | exact Calls.mono h (λe p m=>by
        cases e with
        | returned u=>exact m
        | panicked chain=>exact absurd m.1 (by simp)
        | outgrown=>exact gd_ m)
   | halt x w'=>cases x<;>simp only[Oper.upon]at h ⊢<;>first|exact h|exact absurd h.1 (by simp)
  .rename_i j;simp only[j]at f;exact f
def dw_(md:Region.Mode)(ops:Array tI):Nat->Nat->Nat->tV
 | 0,_,_=>false
 | n+1,j,i=>match ops[j]? with
  | none=>false
  | some o=>o.after.any λe=>Region.binds md e&&(e.on==i||dw_ md ops n e.on i)
def Closed(md:Region.Mode)(ops:Array tI)(f:Array tV):Prop:=∀j o,ops[j]? = some o->f.getD j false=true->∀e∈o.after,Region.binds md e=true->f.getD e.on false=true
theorem rN_{f:Array tV}(x:Closed md ops f):∀(n j i:Nat) (o:tI),ops[j]? = some o->(∀e∈o.after,Region.binds md e=true->f.getD e.on false=true)->dw_ md ops n j i=true->f.getD i false=true
 | 0,_,_,_,_,_,h=>by cases h
 | n+1,j,i,o,y,m,h=>by
  simp only[dw_,y]at h;obtain⟨e,C,q⟩:=Array.any_eq_true'.1 h;simp only[qAn,qz,zQ]at q;have u:=m e C q.1;rcases q.2 with rfl|s
  .exact u
  .cases p:ops[e.on]? with
   | none=>cases n<;>simp[dw_,p]at s
   | some o'=>exact rN_ x n e.on i o' p (x e.on o' p u) s
theorem dC_{f:Array tV}{i:Nat}(y:Closed md ops f)(hi:i∈Region.ready md ops f):Closed md ops (f.setIfInBounds i true):=by
 intro j o s q e u x;obtain⟨_,oi,p,m⟩:=mem_ready.1 hi;by_cases h:i=j
 .subst h;obtain rfl:o=oi:=qSj (s.symm.trans p);exact getD_set_true (m e u x)
 .rw[getD_set_ne false h]at q;exact getD_set_true (y j o s q e u x)
theorem mB_(n:Nat):Closed md ops (Array.replicate n false):=by
 intro j o _ f;rcases qb j n with h|h
 .simp[h]at f
 .simp[h]at f
attribute [go_sem] Oper.quietUponX
end
theorem Addr.add_mk(b o n:Nat):(⟨b,o,none⟩:Addr).add n=⟨b,o+n,none⟩:=by
 unfold Addr.add;split
 .next h=>subst h;rfl
 .rfl
def SlB(w:tS)(B c:Nat)(A:tO Addr)(n:Nat)(rows:tL (tL tW)):Prop:=
 rows.length=n/\(0<n->∃b off,A=some ⟨b,off,none⟩/\b<B /\
  ∀i r,rows[i]? = some r->r.length=c/\∀j u,r[j]? = some u->w.cell? ⟨b,off+i*c+j,none⟩=some u)
abbrev Own(w:tS)(base:Nat)(e:tA)(c:Nat)(A:tO Addr)(n cap:Nat)(xs:tL tW):Prop:=w.ownsRow base e c (.slice A n cap) n xs
section
variable{w w':tS}{base e c n cap:Nat}{A:tO Addr}{xs:tL tW}{v:tW}
theorem own_form(h:w.ownsRow base e c v n xs):∃A cap,v = .slice A n cap:=by
 rcases h.2 with⟨rfl,rfl⟩|⟨g,cap,cur,rfl,_⟩
 .exact⟨none,0,rfl⟩
 .exact⟨_,_,rfl⟩
theorem Own.cap_le(h:Own w base e c A n cap xs):n<=cap/\cap<=maxLen:=by
 rcases h.2 with⟨h1,j⟩|⟨g,cap',cur,m,_,_,h1,j,_⟩
 .injection h1 with _ _ f;subst j;subst f;exact⟨qA _,by unfold maxLen;omega⟩
 .injection m with _ _ f;subst f;exact⟨h1,j⟩
theorem fO_{rows:tL (tL tW)}{c:Nat}(hr:∀r∈rows,r.length=c):∀{i:Nat} {r:tL tW},rows[i]? = some r->∀j u,r[j]? = some u->rows.flatten[i*c+j]? = some u:=by
 induction rows with
 | nil=>intro i r h;simp at h
 | cons x rows q=>
  intro i r h j u f;have hx:x.length=c:=hr x (by simp);cases i with
  | zero=>
   simp at h;subst h;rw[zF,Nat.zero_mul,qj,ze (by
    rcases qb j x.length with p|p
    .exact p
    .rw[qe p]at f;cases f)]
   exact f
  | succ i=>
   rw[zF,zH (by rw[hx,zK];omega)];have:=q (λr m=>hr r (qL _ m)) (i:=i) (r:=r) (by simpa using h) j u f;rw[←this,hx]
   congr 1
   rw[zK];omega
theorem av_{rows:tL (tL tW)}{c:Nat}(hr:∀r∈rows,r.length=c):rows.flatten.length=rows.length*c:=by
 induction rows with
 | nil=>simp
 | cons x rows f=>
  rw[zF,qLa,hr x (by simp),f λr h=>hr r (qL _ h),qLc,zK];omega
theorem Own.reads{rows:tL (tL tW)}(h:Own w base e c A n cap rows.flatten)(hr:∀r∈rows,r.length=c)(s:rows.length=n):SlB w w.heap.size c A n rows:=by
 refine⟨s,λD=>?_⟩;rcases h.2 with⟨_,C⟩|⟨g,cap',cur,p,_,f,h1,C,G,y⟩
 .omega
 .injection p with x _ F;subst x;refine⟨g,0,rfl,?_,λi r hi=>⟨hr r (qa hi),λj u q=>?_⟩⟩
  .rcases qb g w.heap.size with m|m
   .exact m
   .rw[qi m]at f;cases f
  .rw[qj,cell_of_row w g _ cur e (0,0) f];have:=fO_ hr hi j u q;rw[←y,qx]at this;split at this
   .simpa using this
   .cases this
end
end Go
namespace Go
namespace Rt
open Go.RowKit
def look(t:Nat):tL (Nat×tW)->tO tW
 | []=>none
 | (u,v)::r=>match Nat.beq t u with
  | true=>some v
  | false=>look t r
structure Env(N:Nat)(a:Act)(env:tL (Nat×tW)):Prop where
 size:a.tmps.size=N
 defers:a.defers=[]
 get:∀t v,look t env=some v->a.tmps[t]? = some v
section
variable{N:Nat}{a:Act}{env sl:tL (Nat×tW)}
theorem bk_{t u:Nat}(h:Nat.beq t u=false):t≠u:=by
 intro e;subst e;simp at h
end
def dr_{α:Type}(P:tT):Sem α->tO α|.pure a=>some a|.program k=>dr_ P (k P)|_=>none
theorem eR_{α:Type}{P:tT}{s:Sem α}{r:α}(h:dr_ P s=some r)(w:tS):s.run P w = .ok r w:=by
 induction s with
 | pure a=>simp only[dr_,qOi]at h;subst h;rfl
 | program k f=>simp only[dr_]at h;simp only[Sem.run];exact f P h
 | _=>simp[dr_]at h
def isSelect:Op->tV|.select .. =>true|_=>false
inductive Res where
 | box (b:Nat) (T:tA) (cs:tL tW)
 | row (e:tA) (c:Nat) (A:tO Addr) (n cap:Nat) (rows:tL (tL tW))
 | ro (F:Nat->Prop) (φ:tS->Prop)
def Res.fp:Res->Nat->Prop|.box b _ _,k=>k=b|.row _ _ A _ _ _,k=>∃a,A=some a/\k=a.block|.ro F _,k=>F k
def Res.excl:Res->Prop|.ro .. =>False|_=>True
def Local(F:Nat->Prop)(φ:tS->Prop):Prop:=∀w w',w.heap.size<=w'.heap.size->(∀k,F k->w'.heap[k]? = w.heap[k]?)->φ w->φ w'
def Res.holds(w:tS):Res->Prop|.box b T cs=>w.heap[b]? = some (.cells cs.toArray T (0,0))|.row e c A n cap rows=>w.ownsRow 0 e c (.slice A n cap) n rows.flatten/\rows.length=n/\∀r∈rows,r.length=c|.ro F φ=>φ w/\Local F φ/\∀k,F k->k<w.heap.size
def Apart(r s:Res):Prop:=(r.excl\/s.excl)->∀k,r.fp k->¬s.fp k
theorem Apart.symm{r s:Res}(h:Apart r s):Apart s r:=λf k h1 j=>h (f.symm) k j h1
structure Grow(w w':tS):Prop where
 os:w'.os=w.os
 tape:w'.tape=w.tape
 output:w'.output=w.output
 size:w.heap.size<=w'.heap.size
theorem Grow.refl(w:tS):Grow w w:=⟨rfl,rfl,rfl,qA _⟩
theorem Grow.trans{a b c:tS}(h:Grow a b)(k:Grow b c):Grow a c:=⟨k.os.trans h.os,k.tape.trans h.tape,k.output.trans h.output,qN h.size k.size⟩
theorem Grow.of_below{B:Nat}{a b:tS}(h:Below B a b):Grow a b:=⟨h.os,h.tape,h.output,h.size⟩
structure Chg(Bs:tL Nat)(w w':tS):Prop where
 grow:Grow w w'
 block:∀k,k<w.heap.size->k∉Bs->w'.heap[k]? = w.heap[k]?
theorem Chg.below{w w':tS}(h:Chg [] w w'):Below w.heap.size w w':=⟨h.grow.os,h.grow.tape,h.grow.output,h.grow.size,λk f=>h.block k f (by simp)⟩
theorem Chg.of_below{Bs:tL Nat}{w w':tS}(h:Below w.heap.size w w'):Chg Bs w w':=⟨Grow.of_below h,λk f _=>h.block k f⟩
structure Sep(Bs:tL Nat)(w0 w:tS)(L:tL Res):Prop where
 chg:Chg Bs w0 w
 hold:∀r∈L,r.holds w
 own:∀r∈L,r.excl->∀k,r.fp k->w0.heap.size<=k\/k∈Bs
 apart:L.Pairwise Apart
theorem Res.holds_lt{w:tS}{r:Res}(h:r.holds w):∀k,r.fp k->k<w.heap.size:=by
 intro k f;cases r with
 | box b T cs=>
  simp only[Res.fp]at f;subst f;rcases qb k w.heap.size with j|j
  .exact j
  .simp only[Res.holds]at h;rw[qi j]at h;cases h
 | row e c A n cap xs=>
  obtain⟨a,rfl,rfl⟩:=f;exact(World.ownsRow.lt h.1 _ rfl).2
 | ro F φ=>exact h.2.2 k f
theorem Res.holds_keep{w w':tS}{r:Res}(h:r.holds w)(p:w.heap.size<=w'.heap.size)(j:∀k,r.fp k->w'.heap[k]? = w.heap[k]?):r.holds w':=by
 cases r with
 | box b T cs=>simp only[Res.holds]at h ⊢;rw[j b rfl];exact h
 | row e c A n cap xs=>
  obtain⟨h,f⟩:=h;refine⟨⟨h.1,?_⟩,f⟩;rcases h.2 with y|⟨g,cap',cur,m,s,q,r⟩
  .exact .inl y
  .refine .inr ⟨g,cap',cur,m,s,?_,r⟩;injection m with x;rw[j g ⟨_,x,rfl⟩];exact q
 | ro F φ=>exact⟨h.2.1 w w' p j h.1,h.2.1,λk u=>zS (h.2.2 k u) p⟩
section
variable{Bs:tL Nat}{w0 w w':tS}{L:tL Res}
theorem Sep.start(Bs:tL Nat)(w:tS):Sep Bs w w []:=⟨Chg.of_below (Below.refl _ _),(λ_ h=>nomatch h),(λ_ h=>nomatch h),List.Pairwise.nil⟩
theorem Sep.size(h:Sep Bs w0 w L):w0.heap.size<=w.heap.size:=h.chg.grow.size
theorem Sep.ext(h:Sep Bs w0 w L)(hx:Ext w w'):Sep Bs w0 w' L:=by
 have j:=hx.below;refine⟨⟨h.chg.grow.trans (Grow.of_below j),λk f m=>(j.block k (zS f h.size)).trans (h.chg.block k f m)⟩,λr hr=>?_,h.own,h.apart⟩;exact Res.holds_keep (h.hold r hr) j.size λk f=>j.block k (Res.holds_lt (h.hold r hr) k f)
theorem Sep.add(h:Sep Bs w0 w L)(hx:Ext w w'){r:Res}(hr:r.holds w')(q:∀k,r.fp k->w.heap.size<=k):Sep Bs w0 w' (r::L):=by
 have m:=h.ext hx;refine⟨m.chg,λs f=>?_,λs f u k j=>?_,?_⟩
 .rcases qV.1 f with rfl|f
  .exact hr
  .exact m.hold s f
 .rcases qV.1 f with rfl|f
  .exact .inl (qN h.size (q k j))
  .exact m.own s f u k j
 .refine List.Pairwise.cons (λs f _ k j p=>?_) m.apart;have h1:=Res.holds_lt (h.hold s f) k p;have x:=q k j;omega
def pick(L:tL Res):tL Nat->tL Res
 | []=>[]
 | i::r=>match L[i]? with
  | some x=>x::pick L r
  | none=>pick L r
theorem Sep.apart_at(h:Sep Bs w0 w L){i j:Nat}{r s:Res}(hi:L[i]? = some r)(q:L[j]? = some s)(f:i≠j):Apart r s:=by
 obtain⟨h1,rfl⟩:=qK.1 hi;obtain⟨p,rfl⟩:=qK.1 q;rcases Nat.lt_or_gt_of_ne f with m|m
 .exact qr.1 h.apart i j h1 p m
 .exact(qr.1 h.apart j i p h1 m).symm
def nodupB:tL Nat->tV|[]=>true|i::r=>!(r.contains i)&&nodupB r
theorem Sep.turn(h:Sep Bs w0 w L)(i:Nat){r r':Res}(hi:L[i]? = some r)(O:r.excl)(hr:r'.holds w')
  (hb:Grow w w') (hk:∀k,k<w.heap.size->¬r.fp k->w'.heap[k]? = w.heap[k]?) (hf:∀k,r'.fp k->r.fp k\/w.heap.size<=k):Sep Bs w0 w' (L.set i r'):=by
 have ZZ:=(qK.1 hi).1;have other:∀j s,L[j]? = some s->j≠i->s.holds w':=λj s m f=>by
  refine Res.holds_keep (h.hold s (qa m)) hb.size λk M=>?_
  refine hk k (Res.holds_lt (h.hold s (qa m)) k M) λV=>?_
  exact h.apart_at hi m (Ne.symm f) (.inl O) k V M
 have mem:∀s∈L.set i r',(s=r')\/∃j,L[j]? = some s/\j≠i:=λs u=>by
  obtain⟨j,m⟩:=qH.1 u;rw[zr]at m;split at m
  .first|exact .inl (qSj m).symm|(rw[qY (by omega)]at m;exact .inl (qSj m).symm)
  .rename_i f;exact .inr ⟨j,m,Ne.symm f⟩
 have own':∀k,r'.fp k->w0.heap.size<=k\/k∈Bs:=λk q=>by
  rcases hf k q with h1|h1
  .exact h.own r (qa hi) O k h1
  .exact .inl (qN h.size h1)
 have far:∀j s,L[j]? = some s->j≠i->∀k,r'.fp k->¬s.fp k:=λj s m f k q u=>by
  rcases hf k q with h1|h1
  .exact h.apart_at hi m (Ne.symm f) (.inl O) k h1 u
  .have:=Res.holds_lt (h.hold s (qa m)) k u;omega
 refine⟨⟨h.chg.grow.trans hb,λk p hn=>(hk k (zS p h.size) λY=>?_).trans (h.chg.block k p hn)⟩,λs u=>?_,λs u U k q=>?_,?_⟩
 .rcases h.own r (qa hi) O k Y with h1|h1
  .omega
  .exact hn h1
 .rcases mem s u with rfl|⟨j,m,f⟩
  .exact hr
  .exact other j s m f
 .rcases mem s u with rfl|⟨j,m,f⟩
  .exact own' k q
  .exact h.own s (qa m) U k q
 .rw[qr];intro J G h1 h2 Z;have F:(L.set i r')[J]? = some (L.set i r')[J]:=qQ h1;have C:(L.set i r')[G]? = some (L.set i r')[G]:=qQ h2;generalize(L.set i r')[J]=x at F ⊢;generalize(L.set i r')[G]=y at C ⊢;rw[zr]at F C;by_cases c1:i=J
  .rw[qY c1,qY (by omega)]at F;rw[qG (by omega)]at C;obtain rfl:=qSj F;exact λ_ k p D=>far G y C (by omega) k p D
  .rw[qG c1]at F;by_cases c2:i=G
   .rw[qY c2,qY (by omega)]at C;obtain rfl:=qSj C;exact λ_ k p D=>far J x F (by omega) k D p
   .rw[qG c2]at C;exact h.apart_at F C (by omega)
end
abbrev tR:=tL UInt8
def S(l:tR):tW:=.string ⟨l.toArray⟩
def w64(n:Int):Int:=IntKind.i64.wrap n
def cat(a b:tR):tO tR:=if a.length+b.length<=9223372036854775807 then some (a++b)else none
def ah_{α:Type}(xs:tL α)(i:Int):tO α:=if 0<=i then xs[i.toNat]? else none
def setI{α:Type}(xs:tL α)(i:Int)(x:α):tO (tL α):=if 0<=i/\i<xs.length then some (xs.set i.toNat x)else none
def ap_(s:tR)(i:Int):tO Int:=(ah_ s i).map λb=>(b.toNat:Int)
def aA_{α:Type}(xs:tL α)(lo hi:Int):tO (tL α):=if 0<=lo/\lo<=hi/\hi<=xs.length then some ((xs.take hi.toNat).drop lo.toNat)else none
def eS_(k:IntKind)(x y:Int):tO Int:=if y=0 then none else some (k.wrap (x.tdiv y))
def remI(x y:Int):tO Int:=if y=0 then none else some (x.tmod y)
def shlI(k:IntKind)(x y:Int):tO Int:=if y<0 then none else some (k.wrap (x*2^min y.toNat k.bits))
def shrI(k:IntKind)(x y:Int):tO Int:=if y<0 then none else some (x.fdiv (2^min y.toNat k.bits))
def bytesS(ns:tL Int):tR:=ns.map λn=>UInt8.ofNat n.toNat
def room{α:Type}(bytes:Nat)(xs f:tL α):tO (tL α):=if xs.length+f.length<=9223372036854775807/\(xs.length+f.length)*bytes<=140737488355328 then some (xs++f)else none
def iq_{α:Type}(bytes:Nat)(z:α)(n:Int):tO (tL α):=if 0<=n/\n<=9223372036854775807/\bytes*n<=281474976710656 then some (List.replicate n.toNat z)else none
theorem bind_some{α β:Type}{x:tO α}{f:α->tO β}{r:β}(h:x.bind f=some r):∃a,x=some a/\f a=some r:=by
 cases x with
 | none=>cases h
 | some a=>exact⟨a,rfl,h⟩
theorem str_eq(a b:tR):((⟨a.toArray⟩:tP).toList==(⟨b.toArray⟩:tP).toList)=(a==b):=by
 rw[ByteArray.toList_mk,ByteArray.toList_mk]
section
variable{P:tT}{ρ:tN->tW}{w:tS}{o:tI}
theorem size_mk(l:tR):(⟨l.toArray⟩:tP).size=l.length:=by simp[ByteArray.size]
theorem append_mk(a b:tR):((⟨a.toArray⟩:tP)++⟨b.toArray⟩:tP)=⟨(a++b).toArray⟩:=by
 apply ByteArray.ext;simp
theorem run_cat{t yt:tA}{x y:tN}(j:o.op = .binOp .add t x y yt){a b r:tR}(hx:ρ x=S a)(f:ρ y=S b)(h:cat a b=some r) :
  (execOp ρ o).run P w = .ok (.value (S r)) w:=by
 unfold cat at h;split at h
 .rename_i p;simp only[qOi]at h;subst h;unfold execOp;simp only[j,hx,f,S];have m:¬((((⟨a.toArray⟩:tP).size+(⟨b.toArray⟩:tP).size:Nat):Int)>IntKind.i64.max):=by
   rw[size_mk,size_mk];show ¬(((a.length+b.length:Nat):Int)>9223372036854775807);omega
  simp only[eqGuard,binOp,Op.stringOp];rw[qG m,append_mk];rfl
 .cases h
theorem run_str_eql{t yt:tA}{x y:tN}(h:o.op = .binOp .eql t x y yt){a b:tR}(hx:ρ x=S a)(f:ρ y=S b) :
  (execOp ρ o).run P w = .ok (.value (.bool (a==b))) w:=by
 unfold execOp;simp only[h,hx,f,S];simp only[eqGuard,binOp,Op.stringOp,str_eq];rfl
theorem run_str_neq{t yt:tA}{x y:tN}(h:o.op = .binOp .neq t x y yt){a b:tR}(hx:ρ x=S a)(f:ρ y=S b) :
  (execOp ρ o).run P w = .ok (.value (.bool (!(a==b)))) w:=by
 unfold execOp;simp only[h,hx,f,S];simp only[eqGuard,binOp,Op.stringOp,str_eq];rfl
theorem run_str_lss{t yt:tA}{x y:tN}(h:o.op = .binOp .lss t x y yt){a b:tR}(hx:ρ x=S a)(f:ρ y=S b) :
  (execOp ρ o).run P w = .ok (.value (.bool (Op.bytesLess a b))) w:=by
 unfold execOp;simp only[h,hx,f,S];simp only[eqGuard,binOp,Op.stringOp,ByteArray.toList_mk];rfl
theorem run_str_gtr{t yt:tA}{x y:tN}(h:o.op = .binOp .gtr t x y yt){a b:tR}(hx:ρ x=S a)(f:ρ y=S b) :
  (execOp ρ o).run P w = .ok (.value (.bool (!(Op.bytesLess a b||a==b)))) w:=by
 unfold execOp;simp only[h,hx,f,S];simp only[eqGuard,binOp,Op.stringOp,ByteArray.toList_mk];rfl
theorem run_byteI{t:tA}{x i:tN}(p:o.op = .index t x i)(m:P.underlying t=some .string){a:tR}{k:IntKind}{n r:Int}(hx:ρ x=S a)(hi:ρ i = .int k n)(h:ap_ a n=some r) :
  (execOp ρ o).run P w = .ok (.value (.int .u8 r)) w:=by
 unfold ap_ ah_ at h;split at h
 .rename_i q;cases f:a[n.toNat]? with
  | none=>rw[f]at h;cases h
  | some b=>
   rw[f]at h;simp only[qS,qOi]at h;subst h;have e:(⟨a.toArray⟩:tP)[n.toNat]? = some b:=by
    have j:=(qK.1 f).1;have s:=(qK.1 f).2;have h1:n.toNat<(⟨a.toArray⟩:tP).size:=by rw[size_mk];exact j
    have u:(⟨a.toArray⟩:tP)[n.toNat]'h1=b:=by
     show a.toArray[n.toNat]=b;simpa using s
    rw[←u];exact getElem?_pos (⟨a.toArray⟩:tP) n.toNat h1
   unfold execOp;simp only[p,hx,hi,S];simp[Instr.index,asIntOf,run_underlying m,q,e]
 .cases h
theorem nD_{k:IntKind}{i:Int}{y:Nat}{code:BoundsCode}(h0:0<=i)(h1:i<=y):(Instr.sliceBound (.int k i) y code).run P w = .ok i.toNat w:=by
 simp[Instr.sliceBound,asIntOf,h0,h1]
theorem extract_mk(a:tR)(l h:Nat)(f:l<=h):(⟨a.toArray⟩:tP).extract l h=⟨((a.take h).drop l).toArray⟩:=by
 apply ByteArray.ext;rw[ByteArray.data_extract];simp[List.take_drop];rw[show l+(h-l)=h by omega]
theorem lf_{α:Type}{xs r:tL α}{lo hi:Int}(h:aA_ xs lo hi=some r):0<=lo/\lo<=hi/\hi<=xs.length/\r=(xs.take hi.toNat).drop lo.toNat:=by
 unfold aA_ at h;split at h
 .rename_i f;simp only[qOi]at h;exact⟨f.1,f.2.1,f.2.2,h.symm⟩
 .cases h
theorem run_bounds(isS:tV){h f:IntKind}{lo hi:Int}{n cap:Nat}(h0:0<=lo)(h1:lo<=hi)(j:hi<=cap) :
  (Instr.sliceBounds isS n cap (some (.int h lo)) (some (.int f hi)) none).run P w = .ok (lo.toNat,hi.toNat,cap) w:=by
 simp only[Instr.sliceBounds,Sem.run_bind,Sem.run_pure,Result.andThen_ok,nD_ (P:=P) (w:=w) (i:=hi) (y:=cap) (by omega) j,
  nD_ (P:=P) (w:=w) (i:=lo) (y:=hi.toNat) h0 (by omega)]
theorem Af_(isS:tV){f:IntKind}{lo:Int}{n cap:Nat}(h0:0<=lo)(h1:lo<=n) :
  (Instr.sliceBounds isS n cap (some (.int f lo)) none none).run P w = .ok (lo.toNat,n,cap) w:=by
 simp only[Instr.sliceBounds,Sem.run_bind,Sem.run_pure,Result.andThen_ok,nD_ (P:=P) (w:=w) (i:=lo) (y:=n) h0 h1]
theorem Ag_(isS:tV){f:IntKind}{hi:Int}{n cap:Nat}(h0:0<=hi)(h:hi<=cap) :
  (Instr.sliceBounds isS n cap none (some (.int f hi)) none).run P w = .ok (0,hi.toNat,cap) w:=by
 simp only[Instr.sliceBounds,Sem.run_bind,Sem.run_pure,Result.andThen_ok,nD_ (P:=P) (w:=w) (i:=hi) (y:=cap) h0 h]
theorem vD_(isS:tV){n cap:Nat} :
  (Instr.sliceBounds isS n cap none none none).run P w = .ok (0,n,cap) w:=by
 simp only[Instr.sliceBounds,Sem.run_bind,Sem.run_pure,Result.andThen_ok]
def iX_(ρ:tN->tW):tO tN->tO Int->Prop|none,none=>True|some x,some n=>∃k,ρ x = .int k n|_,_=>False
theorem oY_(isS:tV){lo hi:tO tN}{l h:tO Int}{n cap:Nat}(f:iX_ ρ lo l)(j:iX_ ρ hi h)(h0:0<=l.getD 0)(h1:l.getD 0<=h.getD n)(m:h.getD n<=cap) :
  (Instr.sliceBounds isS n cap (lo.map ρ) (hi.map ρ) none).run P w = .ok ((l.getD 0).toNat,(h.getD n).toNat,cap) w:=by
 cases lo<;>cases l<;>cases hi<;>cases h<;>simp only[iX_]at f j<;>simp only[zf,Option.getD_none]at h0 h1 m ⊢
 .exact vD_ isS
 .obtain⟨k,e⟩:=j;simp only[zI,qS,e];exact Ag_ isS h1 m
 .obtain⟨k,e⟩:=f;simp only[zI,qS,e];exact Af_ isS h0 h1
 .obtain⟨k,e⟩:=f;obtain⟨p,e'⟩:=j;simp only[qS,e,e'];exact run_bounds isS h0 h1 m
theorem run_str_sub{t:tA}{x:tN}{lo hi:tO tN}(j:o.op = .slice t x lo hi none)(f:P.underlying t=some .string){a r:tR}(hx:ρ x=S a){l h:tO Int}(m:iX_ ρ lo l)(p:iX_ ρ hi h)
  (hr:aA_ a (l.getD 0) (h.getD a.length)=some r):(execOp ρ o).run P w = .ok (.value (S r)) w:=by
 obtain⟨h0,h1,s,rfl⟩:=lf_ hr;unfold execOp;have q:=oY_ (P:=P) (w:=w) false (n:=a.length) (cap:=a.length) m p h0 h1 s;simp only[j,hx,S,zI];simp[Instr.sliceAt,Instr.slice,run_underlying f,size_mk,q,extract_mk a _ _ (show(l.getD 0).toNat<=(h.getD a.length).toNat by omega)]
theorem run_quo{t yt:tA}{x y:tN}{k:IntKind}{a b r:Int}(j:o.op = .binOp .quo t x y yt)(hx:ρ x = .int k a)(f:ρ y = .int k b)(h:eS_ k a b=some r):(execOp ρ o).run P w = .ok (.value (.int k r)) w:=by
 unfold eS_ at h;split at h
 .cases h
 .rename_i m;simp only[qOi]at h;subst h;unfold execOp;simp[j,hx,f,eqGuard,binOp,Op.intDiv,m]
theorem run_rem{t yt:tA}{x y:tN}{k:IntKind}{a b r:Int}(j:o.op = .binOp .rem t x y yt)(hx:ρ x = .int k a)(f:ρ y = .int k b)(h:remI a b=some r):(execOp ρ o).run P w = .ok (.value (.int k r)) w:=by
 unfold remI at h;split at h
 .cases h
 .rename_i m;simp only[qOi]at h;subst h;unfold execOp;simp[j,hx,f,eqGuard,binOp,Op.intDiv,m]
theorem run_shl{t yt:tA}{x y:tN}{k f:IntKind}{a b r:Int}(m:o.op = .binOp .shl t x y yt)(hx:ρ x = .int k a)(j:ρ y = .int f b)(h:shlI k a b=some r):(execOp ρ o).run P w = .ok (.value (.int k r)) w:=by
 unfold shlI at h;split at h
 .cases h
 .rename_i p;simp only[qOi]at h;subst h;unfold execOp;simp[m,hx,j,eqGuard,binOp,Op.shift,p]
theorem run_shr{t yt:tA}{x y:tN}{k f:IntKind}{a b r:Int}(m:o.op = .binOp .shr t x y yt)(hx:ρ x = .int k a)(j:ρ y = .int f b)(h:shrI k a b=some r):(execOp ρ o).run P w = .ok (.value (.int k r)) w:=by
 unfold shrI at h;split at h
 .cases h
 .rename_i p;simp only[qOi]at h;subst h;unfold execOp;simp[m,hx,j,eqGuard,binOp,Op.shift,p]
end
def aggB(P:tT)(T:tA):tO tV:=match P.underlying T with|some (.struct _)=>some true|some (.array _ _)=>some true|some _=>some false|none=>none
def kd_(P:tT)(T:tA)(cs:tL tW)(off:Nat):tO tW:=
 match aggB P T,(P.info? T).map (·.size)with
 | some true,some n=>match Nat.ble (off+n) cs.length with|true=>some (.agg ((cs.drop off).take n).toArray)|false=>none
 | some false,_=>cs[off]?
 | _,_=>none
def splice(cs:tL tW)(off:Nat)(vs:tL tW):tL tW:=cs.take off++vs++cs.drop (off+vs.length)
def jd_:tW->tV|.agg _|.tuple _=>false|_=>true
def b5_:tL tW->tV|[]=>true|v::r=>jd_ v&&b5_ r
section
variable{P:tT}{ρ:tN->tW}{w w0:tS}{o:tI}{Bs:tL Nat}{L:tL Res}
theorem mC_{T:tA}{b:tV}(h:aggB P T=some b):(isAgg T).run P w = .ok b w:=by
 unfold aggB at h;cases f:P.underlying T with
 | none=>rw[f]at h;cases h
 | some d=>
  rw[f]at h;unfold isAgg;rw[Sem.run_bind,run_underlying f w];cases d<;>simp_all
theorem ok_{T:tA}{b off base:Nat}{cs:tL tW}{v:tW}(f:kd_ P T cs off=some v)(C:∀j u,cs[j]? = some u->w.cell? ⟨b,base+j,none⟩=some u) :
  (loadVar T ⟨b,base+off,none⟩).run P w = .ok v w:=by
 unfold kd_ at f;cases h:aggB P T with
 | none=>rw[h]at f;cases f
 | some g=>
  rw[h]at f;cases g with
  | true=>
   cases hi:(P.info? T).map (·.size)with
   | none=>rw[hi]at f;cases f
   | some n=>
    rw[hi]at f;simp only at f;split at f
    .rename_i s;simp only[qOi]at f;subst f;have x:off+n<=cs.length:=by simpa using s
     have p:((cs.drop off).take n).length=n:=by simp;omega
     have y:(loadCells ⟨b,base+off,none⟩ ((cs.drop off).take n).length).run P w = .ok ((cs.drop off).take n).toArray w:=
      run_loadCells_list (P:=P) w _ _ (λj u m=>by
       rw[Addr.add_mk,zW];refine C _ _ ?_;rw[qx]at m;split at m
       .rw[qo]at m;exact m
       .cases m)
     rw[p]at y;cases q:P.info? T with
     | none=>simp[q]at hi
     | some i=>
      have D:i.size=n:=by simpa[q]using hi
      simp[loadVar,Sem.run_bind,mC_ h,sizeOf,typeInfo,q,D,y]
    .cases f
  | false=>
   simp only at f;have:=C _ _ f;simp[loadVar,Sem.run_bind,mC_ h,this]
theorem run_load{T:tA}{x:tN}{ad:Addr}{v:tW}(f:o.op = .load T x)(hx:ρ x = .pointer (some ad))(hr:(loadVar T ad).run P w = .ok v w):(execOp ρ o).run P w = .ok (.value v) w:=by
 unfold execOp;simp[f,hx,Instr.loadAt,Instr.sureAddr,hr]
end
section
variable{P:tT}{ρ:tN->tW}{w w' w0:tS}{o:tI}{Bs:tL Nat}{L:tL Res}
theorem Ext.one(w:tS)(ob:Obj):Ext w (w.alloc ob):=(Ext.refl w).alloc ob
def zeroOf(P:tT)(T:tA):tO (tL tW):=match P.info? T with|some i=>(match i.zero with|some z=>some z.cells.toList|none=>none)|none=>none
theorem lg_{T:tA}{zs:tL tW}(j:o.op = .alloc T)(f:zeroOf P T=some zs):(execOp ρ o).run P w = .ok (.value (.pointer (some ⟨w.heap.size,0,none⟩))) (w.alloc (.cells zs.toArray T)):=by
 unfold zeroOf at f;split at f
 .rename_i i hi;split at f
  .rename_i z h;simp only[qOi]at f;subst f;unfold execOp;simp[j,Instr.alloc,zeroValue,typeInfo,hi,h,newVar,newRow]
  .cases f
 .cases f
theorem run_box{T:tA}{x:tN}{v:tW}(f:o.op = .box T x)(hx:ρ x=v):(execOp ρ o).run P w = .ok (.value (.pointer (some ⟨w.heap.size,0,none⟩))) (w.alloc (.cells v.cells T)):=by
 unfold execOp;simp[f,hx,Instr.box,newVar,newRow]
theorem setRow_size(w:tS)(g:Nat)(cs:Array tW):(w.setRow g cs).heap.size=w.heap.size:=by simp[World.setRow]
theorem cw_(w:tS)(g k:Nat)(cs:Array tW)(h:k≠g):(w.setRow g cs).heap[k]? = w.heap[k]?:=by
 simp only[World.setRow,zJ];rw[qG (λe=>h e.symm)]
theorem ew_(w:tS)(g:Nat)(cs:Array tW):Grow w (w.setRow g cs):=⟨rfl,rfl,rfl,by rw[setRow_size];exact qA _⟩
def aK_(P:tT)(T:tA):tO Nat:=(P.info? T).map (·.size)
theorem run_storeVar{T:tA}{v:tW}{g off:Nat}{T':tA}{cs:tL tW}(q:w.heap[g]? = some (.cells cs.toArray T' (0,0)))(j:aK_ P T=some v.cells.size)(p:off+v.cells.size<=cs.length)
  (h1:∀u∈v.cells.toList,u.oneCell'=true):(storeVar T ⟨g,off,none⟩ v).run P w = .ok () (w.setRow g (splice cs off v.cells.toList).toArray):=by
 have h:=run_storeCells_at (P:=P) g off T' v.cells.toList 0 cs.toArray w q (by simpa using p) h1;simp only[zl]at h;unfold aK_ at j;cases m:P.info? T with
 | none=>simp[m]at j
 | some i=>
  have f:i.size=v.cells.size:=by simpa[m]using j
  simp[storeVar,sizeOf,typeInfo,m,f,h,splice]
theorem go_{l:tL tW}(h:b5_ l=true):∀u∈l,u.oneCell'=true:=by
 induction l with
 | nil=>intro u f;cases f
 | cons v r j=>
  simp only[b5_,qAn]at h;intro u f;rcases qV.1 f with rfl|f
  .cases u<;>simp_all [jd_,Value.oneCell']
  .exact j h.2 u f
theorem fE_{T:tA}{x y:tN}{v:tW}{g off:Nat}{T':tA}{cs:tL tW}(p:o.op = .store T x y)(hx:ρ x = .pointer (some ⟨g,off,none⟩))(j:ρ y=v)
  (q:w.heap[g]? = some (.cells cs.toArray T' (0,0))) (m:aK_ P T=some v.cells.size) (f:Nat.ble (off+v.cells.size) cs.length=true) (h1:b5_ v.cells.toList=true) :
  (execOp ρ o).run P w = .ok .skip (w.setRow g (splice cs off v.cells.toList).toArray):=by
 have h:=run_storeVar (P:=P) (w:=w) q m (by simpa using f) (go_ h1);unfold execOp;simp[p,hx,j,Instr.storeAt,Instr.sureAddr,h]
theorem fk_(w:tS)(g:Nat)(cs cs':Array tW)(t:tA)(f:w.heap[g]? = some (.cells cs' t (0,0))):(w.setRow g cs).heap[g]? = some (.cells cs t (0,0)):=setRow_heap w g cs' cs t _ f
def SlF(F:Nat->Prop)(c:Nat)(A:tO Addr)(n:Nat)(rows:tL (tL tW))(w:tS):Prop:=
 rows.length=n/\(0<n->∃b off,A=some ⟨b,off,none⟩/\F b /\
  ∀i r,rows[i]? = some r->r.length=c/\∀j u,r[j]? = some u->w.cell? ⟨b,off+i*c+j,none⟩=some u)
theorem SlF.nil(F:Nat->Prop)(c:Nat)(A:tO Addr)(w:tS):SlF F c A 0 [] w:=⟨rfl,λh=>absurd h (by omega)⟩
theorem SlF.take{F:Nat->Prop}{c n:Nat}{A:tO Addr}{rows:tL (tL tW)}(h:SlF F c A n rows w){k:Nat}(p:k<=n):SlF F c A k (rows.take k) w:=by
 refine⟨by rw[qX,h.1];omega,λm=>?_⟩;obtain⟨b,off,e,j,f⟩:=h.2 (by omega);refine⟨b,off,e,j,λi r hr=>f i r ?_⟩;rw[qx]at hr;split at hr
 .exact hr
 .cases hr
theorem SlF.drop{F:Nat->Prop}{c n:Nat}{A:tO Addr}{rows:tL (tL tW)}(h:SlF F c A n rows w){k cap:Nat}(y:k<=n)(f:n<=cap) :
  SlF F c (if cap=k then A else A.map (·.add (k*c))) (n-k) (rows.drop k) w:=by
 refine⟨by rw[qk,h.1],λx=>?_⟩;obtain⟨b,off,rfl,q,p⟩:=h.2 (by omega);rw[qG (by omega)];refine⟨b,off+k*c,by simp[Addr.add_mk],q,λi r hr=>?_⟩;rw[qo]at hr;obtain⟨h1,s⟩:=p _ r hr;refine⟨h1,λj u m=>?_⟩;have:=s j u m;rw[Nat.add_mul,←zW]at this;exact this
def dT_(A:tO Addr)(k:Nat):Prop:=∃a,A=some a/\k=a.block
theorem fl_{e c n cap:Nat}{A:tO Addr}{rows:tL (tL tW)}(h:Res.holds w (.row e c A n cap rows)):SlF (dT_ A) c A n rows w:=by
 obtain⟨j,p,hr⟩:=h;have h:=Own.reads (rows:=rows) j hr p;refine⟨h.1,λm=>?_⟩;obtain⟨b,off,f,s,q⟩:=h.2 m;exact⟨b,off,f,⟨_,f,rfl⟩,q⟩
theorem fm_{α:Type}{xs:tL α}{i:Int}{x:α}(h:ah_ xs i=some x):0<=i/\xs[i.toNat]? = some x/\i.toNat<xs.length:=by
 unfold ah_ at h;split at h
 .rename_i h0;exact⟨h0,h,(qK.1 h).1⟩
 .cases h
theorem q5_{t e:tA}{x y:tN}{k:IntKind}{i:Int}{c n cap:Nat}{A:tO Addr}{rows:tL (tL tW)}{F:Nat->Prop}{α:Type}{xs:tL α}{d:α}
  (u:o.op = .indexAddr t x y) (q:P.underlying t=some (.slice e)) (j:aK_ P e=some c) (hx:ρ x = .slice A n cap) (p:ρ y = .int k i) (s:SlF F c A n rows w) (G:xs.length=n) (D:ah_ xs i=some d) :
  ∃b off,A=some ⟨b,off,none⟩/\(execOp ρ o).run P w = .ok (.value (.pointer (some ⟨b,off+i.toNat*c,none⟩))) w:=by
 obtain⟨h0,_,C⟩:=fm_ D;obtain⟨b,off,m,_,_⟩:=s.2 (by omega);refine⟨b,off,m,?_⟩;subst m;unfold aK_ at j;cases h:P.info? e with
 | none=>simp[h]at j
 | some inf=>
  have f:inf.size=c:=by simpa[h]using j
  unfold execOp;simp[u,hx,p,Instr.indexAt,asIntOf,run_underlying q,sizeOf,typeInfo,h,f,h0,Addr.add_mk];omega
theorem Sep.row_new(h:Sep Bs w0 w L)(e c n:Nat)(rows:tL (tL tW))(j:rows.length=n)(hr:∀r∈rows,r.length=c)(hm:Nat.ble n 9223372036854775807=true) :
  Sep Bs w0 (w.alloc (.cells rows.flatten.toArray e)) (.row e c (some ⟨w.heap.size,0,none⟩) n n rows::L):=by
 have f:n<=maxLen:=by have:=qq hm;unfold maxLen;omega
 refine h.add (Ext.one w _) ⟨?_,j,hr⟩ (λk p=>?_)
 .have:=World.ownsRow_lit (base:=0) (e:=e) (size:=c) w rows.flatten.toArray n (qv _) f (by simp only[zq];rw[av_ hr,j]);simpa using this
 .obtain⟨a,m,rfl⟩:=p;simp only[qOi]at m;subst m;exact qA _
def ElemOK(P:tT)(t e c bytes:Nat):Prop:=P.underlying t=some (.slice e)/\∃i z,P.info? e=some i/\i.zero=some z/\i.size=c/\i.bytes=bytes/\z.cells.size=c/\0<c
def elemB(P:tT)(e c bytes:Nat):tV:=match P.info? e with
 | some i=>(match i.zero with|some z=>Nat.beq z.cells.size c|none=>false)&&Nat.beq i.size c&&Nat.beq i.bytes bytes&&Nat.blt 0 c
 | none=>false
theorem elemOK{t e c bytes:Nat}(j:P.underlying t=some (.slice e))(h:elemB P e c bytes=true):ElemOK P t e c bytes:=by
 refine⟨j,?_⟩;unfold elemB at h;split at h
 .rename_i i hi;simp only[qAn]at h;obtain⟨⟨⟨h1,q⟩,p⟩,m⟩:=h;split at h1
  .rename_i z f;exact⟨i,z,hi,f,qNb q,qNb p,qNb h1,by simpa using m⟩
  .cases h1
 .cases h
theorem rR_{α:Type}{bytes:Nat}{xs f r:tL α}(h:room bytes xs f=some r):xs.length+f.length<=9223372036854775807/\(xs.length+f.length)*bytes<=140737488355328/\r=xs++f:=by
 unfold room at h;split at h
 .rename_i j;simp only[qOi]at h;exact⟨j.1,j.2,h.symm⟩
 .cases h
def oZ_(rows:tL (tL tW)):Prop:=∀r∈rows,b5_ r=true
theorem oneRows_flat{rows:tL (tL tW)}(h:oZ_ rows):∀u∈rows.flatten,u.oneCell'=true:=by
 intro u j;obtain⟨r,hr,f⟩:=zg.1 j;exact go_ (h r hr) u f
theorem run_append{t e c bytes:Nat}{x y:tN}{k n cap m cap2:Nat}{A A2:tO Addr}{rows news:tL (tL tW)}{F:Nat->Prop}{α:Type}{xs ys r:tL α}
  (ho:o.op = .call { callee:=.builtin .append,args:=#[x,y],argTypes:=#[t,t] }) (ZK:ElemOK P t e c bytes) (hx:ρ x = .slice A n cap) (hy:ρ y = .slice A2 m cap2)
  (h:Sep Bs w0 w L) (hi:L[k]? = some (.row e c A n cap rows)) (hs:SlF F c A2 m news w) (ZX:oZ_ news) (ZS:xs.length=n) (ZT:ys.length=m) (hr:room bytes xs ys=some r) (Z:∀q∈news,q.length=c) :
  ∃A' cap' w',(execOp ρ o).run P w = .ok (.value (.slice A' (n+m) cap')) w'/\Sep Bs w0 w' (L.set k (.row e c A' (n+m) cap' (rows++news)))/\Grow w w'/\(∀q,q<w.heap.size->¬dT_ A q->w'.heap[q]? = w.heap[q]?):=by
 obtain⟨hu,i,z,D,hz,ZR,ZJ,ZU,U⟩:=ZK;obtain⟨C,ZW,ZQ⟩:=h.hold _ (qa hi);obtain⟨h1,h2,_⟩:=rR_ hr;have ZP:execOp ρ o=(do pure (.value (←Builtin.append_ #[t,t] o.type #[ρ x,ρ y]))):=by
  obtain⟨dst,op,ty',pos,after,guard⟩:=o;simp only at ho;subst ho;rw[BigFrame.execOp_builtin,BigFrame.builtin_append];simp only[jI,zY,List.map_nil]
 have ZY:news.flatten.length=m*c:=by rw[av_ Z,hs.1]
 have main:∃Y w',(Builtin.append_ #[t,t] o.type #[.slice A n cap,.slice A2 m cap2]).run P w = .ok Y w'/\w'.ownsRow 0 e c Y (n+m) (rows.flatten++news.flatten)/\w.grownBy w' (Value.slice A n cap).ownBlock/\(Y.ownBlock=(Value.slice A n cap).ownBlock\/Y.ownBlock=some w.heap.size):=by
  cases A2 with
  | none=>
   have ZZ:m=0:=by
    rcases qg m with h0|h0
    .exact h0
    .obtain⟨b,off,hh,_⟩:=hs.2 h0;cases hh
   subst ZZ;have ZM:news.flatten=[]:=zi (by rw[ZY];simp);refine⟨.slice A n cap,w,?_,by rw[ZM];simpa using C,World.grownBy.refl w _,.inl rfl⟩;rcases C.2 with⟨hv,hn⟩|⟨g,cap',cur,hv,_,_,ZN,_⟩
   .injection hv with e1 e2 e3;subst e1;subst e2;subst e3;simp[Builtin.append_,run_underlying hu,sizeOf,typeInfo,D,Builtin.lenOf,Builtin.firstCells]
   .injection hv with e1 e2 e3;subst e1;subst e3;simp[Builtin.append_,run_underlying hu,sizeOf,typeInfo,D,Builtin.lenOf,Builtin.firstCells,ZN,storeCells]
  | some ad=>
   have M:∀j u,news.flatten[j]? = some u->w.cell? (ad.add j)=some u:=by
    intro j u hu;have ZL:j<m*c:=by rw[←ZY];exact(qK.1 hu).1
    have ZZ:0<m:=by rcases qg m with h0|h0;(subst h0;omega);exact h0
    obtain⟨b,off,hA,_,hc⟩:=hs.2 ZZ;simp only[qOi]at hA;subst hA;have f:j/c<news.length:=by rw[hs.1];exact jM (by rw[zp];exact ZL)
    have s:=hc (j/c) _ (qQ f);have V:j%c<c:=Nat.mod_lt _ U;have ZV:=fO_ Z (qQ f) (j%c) (news[j/c][j%c]'(by rw[s.1];exact V)) (qQ _);have hj:j/c*c+j%c=j:=by rw[zp];exact Nat.div_add_mod j c
    rw[hj,hu]at ZV;have G:=s.2 (j%c) _ (qQ (by rw[s.1];exact V));rw[zW,hj]at G;rw[Addr.add_mk,G,ZV]
   obtain⟨Y,w',p,J,hg,_,O⟩:=run_append_own_at (P:=P) w 0 t o.type e i z c bytes hu D hz ZR ZJ ZU U (.slice A n cap) n rows.flatten C ad m cap2 news.flatten ZY M (oneRows_flat ZX)
    (by unfold maxLen;omega) (by rw[←ZS,←ZT];exact h2) (qv _)
   exact⟨Y,w',p,J,hg,O⟩
 obtain⟨Y,w',p,J,hg,O⟩:=main;obtain⟨A',cap',rfl⟩:=own_form J;have hb:Grow w w':=⟨hg.os,hg.tape,hg.output,hg.size⟩;have hk:∀q,q<w.heap.size->¬dT_ A q->w'.heap[q]? = w.heap[q]?:=λq f ZO=>hg.block q f λhe=>ZO (by
  cases A with
  | none=>simp[Value.ownBlock]at he
  | some ad=>simp[Value.ownBlock]at he;exact⟨ad,rfl,he⟩)
 refine⟨A',cap',w',?_,?_,hb,hk⟩
 .rw[ZP,hx,hy];simp[p]
 .refine h.turn k hi trivial ⟨by rw[zN];exact J,by rw[qLa,ZW,hs.1],λq f=>?_⟩ hb hk (λq f=>?_)
  .rcases qW.1 f with f|f
   .exact ZQ q f
   .exact Z q f
  .obtain⟨ad,rfl,rfl⟩:=f;rcases O with O|O
   .cases A with
    | none=>simp[Value.ownBlock]at O
    | some ZI=>simp[Value.ownBlock]at O;exact .inl ⟨ZI,rfl,O⟩
   .simp[Value.ownBlock]at O;exact .inr (by omega)
theorem lY_{α:Type}{bytes:Nat}{z:α}{n:Int}{r:tL α}(h:iq_ bytes z n=some r):0<=n/\n<=9223372036854775807/\bytes*n<=281474976710656/\r=List.replicate n.toNat z:=by
 unfold iq_ at h;split at h
 .rename_i f;simp only[qOi]at h;exact⟨f.1,f.2.1,f.2.2,h.symm⟩
 .cases h
theorem cO_(zs:tL tW)(n:Nat):(List.replicate n zs).flatten=(madeCells zs.toArray (n*zs.length)).toList:=by
 apply zG;intro j;have m:∀r∈List.replicate n zs,r.length=zs.length:=λr hr=>by rw[zP hr]
 by_cases f:j<n*zs.length
 .have p:0<zs.length:=by
   rcases qg zs.length with h|h
   .rw[h]at f;omega
   .exact h
  have hm:j%zs.length<zs.length:=Nat.mod_lt _ p;have q:j/zs.length<n:=jM (by rw[zp];exact f);have:=fO_ m (i:=j/zs.length) (r:=zs) (by rw[List.getElem?_replicate,qY q]) (j%zs.length) _ (qQ hm);rw[zp,Nat.div_add_mod]at this;rw[this];simp[madeCells,f,hm]
 .rw[qe (by rw[av_ m,List.length_replicate];omega),qe (by simp[madeCells];omega)]
theorem run_makeSlice_full{t e c bytes:Nat}{x y:tN}{G F:IntKind}{n:Int}{zs:tL tW}{α:Type}{z:α}{r:tL α}(V:o.op = .makeSlice t x y)(C:ElemOK P t e c bytes)(J:zeroOf P e=some zs)
  (hx:ρ x = .int G n) (O:ρ y = .int F n) (h:Sep Bs w0 w L) (hr:iq_ bytes z n=some r) :
  ∃A' w',(execOp ρ o).run P w = .ok (.value (.slice A' n.toNat n.toNat)) w'/\Sep Bs w0 w' (.row e c A' n.toNat n.toNat (List.replicate n.toNat zs)::L)/\Ext w w':=by
 obtain⟨U,i,z',hi,j,s,D,q,M⟩:=C;obtain⟨h0,h1,Y,_⟩:=lY_ hr;subst s;subst D;have m:zs=z'.cells.toList:=by
  simp only[zeroOf,hi,j,qOi]at J;exact J.symm
 have hm:=Go.run_make (P:=P) (w:=w) t e i z' U hi j G F n n h0 (qD _) Y h1;have f:zs.length=i.size:=by rw[m,qO];exact q
 have u:(madeCells z'.cells (n.toNat*i.size))=(List.replicate n.toNat zs).flatten.toArray:=by
  rw[cO_,f,m]
 have p:=h.row_new e i.size n.toNat (List.replicate n.toNat zs) (by simp) (λr hr=>by rw[zP hr,f]) (by apply zC;omega);refine⟨some ⟨w.heap.size,0,none⟩,w.alloc (.cells (List.replicate n.toNat zs).flatten.toArray e),?_,p,Ext.one w _⟩;unfold execOp;rw[u]at hm;simp[V,hx,O,hm]
theorem tG_{t e c bytes:Nat}{x y:tN}{s q:IntKind}{n:Int}{α:Type}{z:α}{r:tL α}(J:o.op = .makeSlice t x y)(m:ElemOK P t e c bytes)
  (hx:ρ x = .int s 0) (F:ρ y = .int q n) (h:Sep Bs w0 w L) (hr:iq_ bytes z n=some r) :
  ∃A' w',(execOp ρ o).run P w = .ok (.value (.slice A' 0 n.toNat)) w'/\Sep Bs w0 w' (.row e c A' 0 n.toNat []::L)/\Ext w w':=by
 obtain⟨G,i,z',hi,f,j,p,D,u⟩:=m;obtain⟨h0,h1,O,_⟩:=lY_ hr;subst j;subst p;have hm:=Go.run_make (P:=P) (w:=w) t e i z' G hi f s q 0 n (qD _) h0 O h1;refine⟨some ⟨w.heap.size,0,none⟩,w.alloc (.cells (madeCells z'.cells (n.toNat*i.size)) e),?_,?_,Ext.one w _⟩
 .unfold execOp;simp[J,hx,F,hm]
 .refine h.add (Ext.one w _) ⟨?_,rfl,λr hr=>by cases hr⟩ (λk M=>?_)
  .exact World.ownsRow_made (base:=0) (e:=e) w _ n.toNat (qv _) (by unfold maxLen;omega) (by simp[madeCells])
  .obtain⟨a,C,rfl⟩:=M;simp only[qOi]at C;subst C;exact qA _
theorem tX_{c:Nat}:∀{rows:tL (tL tW)} {i:Nat} {r r':tL tW},(∀r∈rows,r.length=c)->rows[i]? = some r->r'.length=c ->
  (rows.set i r').flatten=rows.flatten.take (i*c)++r'++rows.flatten.drop (i*c+c)
 | [],i,r,r',_,h,_=>by simp at h
 | x::rows,0,r,r',hr,h,f=>by
  have hx:x.length=c:=hr x (by simp);simp[←hx]
 | x::rows,i+1,r,r',hr,h,f=>by
  have hx:x.length=c:=hr x (by simp);have j:=tX_ (rows:=rows) (i:=i) (r:=r) (r':=r') (λr h=>hr r (qL _ h)) (by simpa using h) f;simp only[List.set_cons_succ,zF,j];have m:(i+1)*c=x.length+i*c:=by rw[hx,zK];omega
  rw[m,List.take_length_add_append,zW,List.drop_length_add_append];simp 
theorem xO_{T:tA}{x y:tN}{v:tW}{k e c n cap b off p j i:Nat}{A:tO Addr}{rows:tL (tL tW)}{r r':tL tW}
  (ho:o.op = .store T x y) (hx:ρ x = .pointer (some ⟨b,p,none⟩)) (hy:ρ y=v) (h:Sep Bs w0 w L) (hi:L[k]? = some (.row e c A n cap rows)) (hA:A=some ⟨b,off,none⟩) (hr:rows[i]? = some r)
  (hp:p=off+i*c+j) (hs:aK_ P T=some v.cells.size) (ZZ:Nat.ble (j+v.cells.size) c=true) (h1:b5_ v.cells.toList=true) (J:splice r j v.cells.toList=r') :
  ∃w',(execOp ρ o).run P w = .ok .skip w'/\Sep Bs w0 w' (L.set k (.row e c A n cap (rows.set i r')))/\Grow w w'/\∀q,q≠b->w'.heap[q]? = w.heap[q]?:=by
 obtain⟨M,u,m⟩:=h.hold _ (qa hi);have ZV:=(qK.1 hr).1;have G:r.length=c:=m r (qa hr);have ZW:j+v.cells.size<=c:=by simpa using ZZ
 rcases M.2 with⟨_,h0⟩|⟨g,cap',cur,hv,_,hh,O,ZY,V,F⟩
 .omega
 .injection hv with e1 _ e3;subst e3;rw[hA]at e1;simp only[qOi,Addr.mk.injEq]at e1;obtain⟨rfl,rfl,_⟩:=e1;have ZT:i*c+c<=n*c:=by rw[←zK];exact qf c (by omega)
  have ZX:n*c<=cap*c:=qf c O;have U:p+v.cells.size<=cur.toList.length:=by rw[qO,V];omega
  have Y:=fE_ (P:=P) (w:=w) ho hx hy (cs:=cur.toList) (T':=e) (by simpa using hh) hs (by apply zC;exact U) h1;have s:r'.length=c:=by
   subst J;unfold splice;simp only[qLa,qX,qk,qO];omega
  have C:(rows.set i r').flatten=(splice cur.toList p v.cells.toList).take (n*c):=by
   rw[tX_ m hr s,←F,←J];have Z:r=(cur.toList.drop (i*c)).take c:=by
    apply zG;intro q;by_cases f:q<c
    .have:=fO_ m hr q _ (qQ (by rw[G];exact f));rw[←F,qx]at this;rw[qY (by omega)]at this;rw[qQ (by rw[G];exact f),qx,qY f,qo,this]
    .rw[qe (by omega),qe (by simp;omega)]
   rw[Z];subst hp
   apply zG;intro q;simp only[splice,List.getElem?_append,qx,qo,qX,qk,qLa,qO];have ZU:cur.size=cap*c:=V
   repeat' split
   all_goals first
    | rfl
    | omega
    | (congr 1;omega)
    | (exfalso;omega)
  refine⟨_,Y,?_,ew_ w b _,λq f=>cw_ w b q _ f⟩;refine h.turn k hi trivial ⟨⟨?_,.inr ⟨b,cap,(splice cur.toList p v.cells.toList).toArray,by rw[hA],qv _,fk_ w b _ cur e hh,O,ZY,?_,?_⟩⟩,by simpa using u,?_⟩ (ew_ w b _)
   (λq _ f=>cw_ w b q _ (λe=>f (by subst e;exact⟨_,hA,rfl⟩))) (λq f=>.inl f)
  .rw[av_ (c:=c),List.length_set,u];intro q f;rcases List.mem_or_eq_of_mem_set f with D|D
   .exact m q D
   .rw[D];exact s
  .simp only[zq,splice,qLa,qX,qk,qO];omega
  .rw[C]
  .intro q f;rcases List.mem_or_eq_of_mem_set f with D|D
   .exact m q D
   .rw[D];exact s
theorem foldl_push(ns:tL Int):∀(s:tP),ns.foldl (λr n=>r.push (UInt8.ofNat n.toNat)) s=⟨(s.data.toList++bytesS ns).toArray⟩:=by
 induction ns with
 | nil=>intro s;simp[bytesS]
 | cons n ns f=>
  intro s;rw[List.foldl_cons,f]
  congr 1
  have:(s.push (UInt8.ofNat n.toNat)).data.toList=s.data.toList++[UInt8.ofNat n.toNat]:=by
   cases s;simp[ByteArray.push]
  rw[this];simp[bytesS]
theorem Ah_{src dst e:tA}{x:tN}{n cap:Nat}{A:tO Addr}{F:Nat->Prop}{ns:tL Int}(u:o.op = .convert src dst x)(h:P.underlying src=some (.slice e))(J:P.underlying e=some (.int .u8))(M:P.underlying dst=some .string)
  (hx:ρ x = .slice A n cap) (q:SlF F 1 A n (ns.map λb=>[Value.int .u8 b]) w):(execOp ρ o).run P w = .ok (.value (S (bytesS ns))) w:=by
 have m:ns.length=n:=by have:=q.1;simpa using this
 have main:(Conv.bytesToString (.slice A n cap)).run P w = .ok (S (bytesS ns)) w:=by
  cases A with
  | none=>
   have y:ns=[]:=by
    rcases qg n with h0|h0
    .exact zi (by omega)
    .obtain⟨b,off,G,_⟩:=q.2 h0;cases G
   subst y;rfl
  | some ad=>
   have D:(loadCells ad n).run P w = .ok (ns.map (Value.int .u8)).toArray w:=by
    have:=run_loadCells_list (P:=P) w ad (ns.map (Value.int .u8)) (λj v f=>by
     rw[qt]at f;cases p:ns[j]? with
     | none=>rw[p]at f;cases f
     | some U=>
      rw[p]at f;simp only[qS,qOi]at f;subst f;have C:=(qK.1 p).1;obtain⟨b,off,s,_,O⟩:=q.2 (by omega);simp only[qOi]at s;subst s;have:=(O j [Value.int .u8 U] (by rw[qt,p];rfl)).2 0 _ rfl;rw[Addr.add_mk];simpa using this)
    rw[zj,m]at this;exact this
   rw[run_bytesToString (P:=P) w ad n cap ns D,foldl_push];rfl
 unfold execOp;simp only[u,hx];rw[Sem.run_bind,run_convert_bytes_string (P:=P) w src dst e A n cap h J M,main];rfl
def cutA(A:tO Addr)(c l m:Nat):tO Addr:=if m=l then A else A.map (·.add (l*c))
theorem ti_{t e c n cap:Nat}{x:tN}{lo hi:tO tN}{A:tO Addr}(q:o.op = .slice t x lo hi none)(p:P.underlying t=some (.slice e))(m:aK_ P e=some c)(hx:ρ x = .slice A n cap)
  {l h:tO Int} (s:iX_ ρ lo l) (u:iX_ ρ hi h) (h0:0<=l.getD 0) (h1:l.getD 0<=h.getD n) (y:h.getD n<=cap) :
  (execOp ρ o).run P w = .ok (.value (.slice (cutA A c (l.getD 0).toNat cap) ((h.getD n).toNat-(l.getD 0).toNat) (cap-(l.getD 0).toNat))) w:=by
 unfold aK_ at m;cases j:P.info? e with
 | none=>simp[j]at m
 | some inf=>
  have f:inf.size=c:=by simpa[j]using m
  unfold execOp;simp only[q,hx,zI];simp[Instr.sliceAt,Instr.slice,run_underlying p,sizeOf,typeInfo,j,f,oY_ (P:=P) (w:=w) true s u h0 h1 y,cutA]
theorem SlF.cut{F:Nat->Prop}{c n cap:Nat}{A:tO Addr}{rows:tL (tL tW)}(h:SlF F c A n rows w)(f:n<=cap){lo hi:Nat}(h1:lo<=hi)(j:hi<=n) :
  SlF F c (cutA A c lo cap) (hi-lo) ((rows.take hi).drop lo) w:=(h.take j).drop h1 (qN j f)
def Ret(P:tT)(f:FuncId)(args:Array tW)(w:tS)(R:tW->tS->Prop):Prop:=Calls P f args w λe w'=>∃v,e = .returned v/\R v w'
theorem Ret.mono{f:FuncId}{args:Array tW}{R R':tW->tS->Prop}(h:Ret P f args w R)(m:∀v w',R v w'->R' v w'):Ret P f args w R':=
 Calls.mono h λ_ _ ⟨v,j,hr⟩=>⟨v,j,m _ _ hr⟩
end
def mD_:Nat->tL tW->tL (Nat×tW)|_,[]=>[]|i,v::r=>(i,v)::mD_ (i+1) r
theorem tY_:∀(l:tL tW) (i t:Nat) (v:tW),look t (mD_ i l)=some v->i<=t/\l[t-i]? = some v
 | [],i,t,v,h=>by simp[mD_,look]at h
 | x::r,i,t,v,h=>by
  simp only[mD_,look]at h;cases f:Nat.beq t i with
  | true=>
   rw[f]at h;obtain rfl:t=i:=qNb f;simpa using h
  | false=>
   rw[f]at h;have j:=bk_ f;obtain⟨h1,m⟩:=tY_ r (i+1) t v h;refine⟨by omega,?_⟩;have:t-i=(t-(i+1))+1:=by omega
   rw[this];simpa using m
section
variable{P:tT}{w w' w0:tS}{N:Nat}{a:Act}{env:tL (Nat×tW)}{Q:Exit->Act->tS->Prop}{Bs:tL Nat}{L:tL Res}
theorem enter{f:FuncId}{fn:Func}{c:Code}{args:Array tW}{R:tW->tS->Prop}(s:P.funcs[f]? = some fn)(u:fn.body=some c)(hN:fn.ntmps=N)(m:Nat.ble args.size N=true)
  (h:∀a,Env N a (mD_ 0 args.toList)->c.wp P (bodyPost P fn λe w'=>∃v,e = .returned v/\R v w') a w):Ret P f args w R:=by
 refine calls_of_wp s u (h _ ⟨?_,rfl,λt v q=>?_⟩)
 .have:=qq m;simp[hN];omega
 .obtain⟨_,p⟩:=tY_ _ _ _ _ q;simp only[Nat.sub_zero]at p;have j:=(qK.1 p).1;rw[Array.getElem?_append_left (by simpa using j)];simpa using p
def tupleOf:tL tW->tW|[v]=>v|vs=>.tuple vs.toArray
def mE_(tmps:Array tW):ResultVar->Sem tW
 | .tmp t=>pure (tmps.getD t undef)
 | .cell x t=>do loadVar t (←asAddr (tmps.getD x undef))
theorem results_eq(fn:Func)(tmps:Array tW):results fn tmps=(do let vs ←fn.results.mapM (mE_ tmps);pure (if h:vs.size=1 then vs[0]else .tuple vs)):=by
 unfold results
 congr 2
theorem s_join{x y:Code}(J:Act->tS->Prop)(f:∀a w,J a w->y.wp P Q a w)(hx:x.wp P (Exit.then J Q) a w):(Code.seq x y).wp P Q a w:=
 wp_seq (wp_mono hx λe a w h=>by cases e<;>first|exact f _ _ h|exact h)
theorem b_join{id:Nat}{c:Code}(J:Act->tS->Prop)(f:∀a w,J a w->Q .normal a w)(hx:c.wp P (λe a w=>match e with|.normal=>J a w|.exit i=>if i=id then J a w else Q (.exit i) a w|e=>Q e a w) a w):(Code.block id c).wp P Q a w:=
 wp_block (wp_mono hx λe a w h=>by
  cases e with
  | normal=>exact f _ _ h
  | exit i=>simp only[Exit.inBlock]at h ⊢;split at h<;>rename_i j<;>simp only[j,if_true,if_false]<;>first|exact f _ _ h|exact h
  | _=>exact h)
theorem r_list{id:Nat}{l:tL tI}(h:wpList P l.toArray Q l a w):(Code.region id l.toArray false).wp P Q a w:=wp_region_lit h
inductive Step(σ β:Type) where
 | next (s:σ)
 | done (b:β)
def aj_{σ β:Type}(body:σ->tO (Step σ β)):Nat->σ->tO β
 | 0,_=>none
 | n+1,s=>match body s with
  | none=>none
  | some (.next f)=>aj_ body n f
  | some (.done b)=>some b
def BIG:Nat:=18446744073709551616
theorem rS_{σ β:Type}{body:σ->tO (Step σ β)}{u:Nat}{s0:σ}{out:β}{c:Code}(C:aj_ body u s0=some out)(R:σ->Act->tS->Prop)(h0:R s0 a w)
  (round:∀s a w,R s a w->∀st,body s=some st->(∀b,st = .done b->b=out)->c.wp P (Exit.then (λx w'=>∃m,st = .next m/\R m x w') Q) a w):(Code.loop c).wp P Q a w:=by
 refine wp_loop_ghost (λn a w=>∃s,aj_ body n s=some out/\R s a w) u ⟨s0,C,h0⟩ ?_
 rintro n a w ⟨s,j,y⟩;cases n with
 | zero=>cases j
 | succ n=>
  simp only[aj_]at j;cases p:body s with
  | none=>rw[p]at j;cases j
  | some st=>
   rw[p]at j;refine wp_mono (round s a w y st p λb f=>?_) λe x w' h=>?_
   .subst f;simpa using j
   .cases e with
    | normal=>
     obtain⟨m,f,q⟩:=h;subst f;exact⟨n,Nat.lt_succ_self n,m,j,q⟩
    | _=>exact h
end
section
variable{P:tT}{ops:tL tI}{Q:Exit->Act->tS->Prop}{a:Act}{w w0 w':tS}{rest:tL tI}{o:tI}{N:Nat}{env:tL (Nat×tW)}{Bs:tL Nat}{L L':tL Res}
 {F:Nat->Prop} {c n cap:Nat} {A:tO Addr} {rows:tL (tL tW)} {ρ:tN->tW}
def EqIs(P:tT)(t:tA)(x y:tW)(b:tV):Prop:=P.eqGuardType P.depth t=false/\∀w,(Op.equalIn 10000 t x y).run P w = .ok b w
theorem run_agg_eql{t yt:tA}{x y:tN}{xs f:Array tW}{b:tV}(m:o.op = .binOp .eql t x y yt)(hx:ρ x = .agg xs)(j:ρ y = .agg f)(h:EqIs P t (.agg xs) (.agg f) b) :
  (execOp ρ o).run P w = .ok (.value (.bool b)) w:=by
 unfold execOp;simp only[m,hx,j];rw[Sem.run_bind,Sem.run_bind,run_eqGuard_agg w _ t x y xs f h.1];simp only[Result.andThen_ok,run_eql_struct,h.2];rfl
theorem run_agg_neq{t yt:tA}{x y:tN}{xs f:Array tW}{b:tV}(m:o.op = .binOp .neq t x y yt)(hx:ρ x = .agg xs)(j:ρ y = .agg f)(h:EqIs P t (.agg xs) (.agg f) b) :
  (execOp ρ o).run P w = .ok (.value (.bool (!b))) w:=by
 unfold execOp;simp only[m,hx,j];rw[Sem.run_bind,Sem.run_bind,run_eqGuard_agg w _ t x y xs f h.1];simp only[Result.andThen_ok,run_neq_struct,h.2];rfl
end
def dU_(k:IntKind)(x y:Int):Int:=k.wrap (BitVec.ofInt k.bits x&&&BitVec.ofInt k.bits y).toNat
def orI(k:IntKind)(x y:Int):Int:=k.wrap (BitVec.ofInt k.bits x|||BitVec.ofInt k.bits y).toNat
def bl_(k:IntKind)(x y:Int):Int:=k.wrap (BitVec.ofInt k.bits x^^^BitVec.ofInt k.bits y).toNat
def by_(x y:Int):Int:=if y>x then y else x
def bO_(x y:Int):Int:=if y<x then y else x
theorem run_bool_eql{P:tT}{ρ:tN->tW}{w:tS}{o:tI}{t yt:tA}{x y:tN}{b c:tV}(j:o.op = .binOp .eql t x y yt)(h:P.underlying t=some .bool)(hx:ρ x = .bool b)(f:ρ y = .bool c):(execOp ρ o).run P w = .ok (.value (.bool (b==c))) w:=by
 unfold execOp;simp only[j,hx,f];simp[eqGuard,run_eql_bool w t b c h]
theorem run_bool_neq{P:tT}{ρ:tN->tW}{w:tS}{o:tI}{t yt:tA}{x y:tN}{b c:tV}(j:o.op = .binOp .neq t x y yt)(h:P.underlying t=some .bool)(hx:ρ x = .bool b)(f:ρ y = .bool c):(execOp ρ o).run P w = .ok (.value (.bool (!(b==c)))) w:=by
 unfold execOp;simp only[j,hx,f];simp[eqGuard,run_neq_bool w t b c h]
def eqFs(P:tT)(f:tA->tW->tW->tO tV)(xs h:Array tW):tL Field->tO tV
 | []=>some true
 | g :: fs=>match g.name == "_", dr_ P (part g.type xs g.offset), dr_ P (part g.type h g.offset) with
  | false,some a,some b=>match f g.type a b,eqFs P f xs h fs with
   | some r,some s=>some (r&&s)
   | _,_=>none
  | _,_,_=>none
def eqArr(P:tT)(f:tA->tW->tW->tO tV)(e:tA)(xs h:Array tW):tL Nat->tO tV
 | []=>some true
 | i::is=>match dr_ P (part e xs (i*P.cellsOf e)),dr_ P (part e h (i*P.cellsOf e))with
  | some a,some b=>match f e a b,eqArr P f e xs h is with
   | some r,some s=>some (r&&s)
   | _,_=>none
  | _,_=>none
def eqV(P:tT):Nat->tA->tW->tW->tO tV
 | 0,_,_,_=>none
 | n+1,t,x,y=>match P.underlying t,x,y with
  | some .bool,.bool a,.bool b=>some (a==b)
  | some (.int _),.int k a,.int h b=>match decide (k=h)with|true=>some (a==b)|false=>none
  | some .string,.string a,.string b=>some (a.toList==b.toList)
  | some (.struct fs),.agg xs,.agg f=>match P.stoodInHeld t with|false=>eqFs P (eqV P n) xs f fs.toList|true=>none
  | some (.array m e),.agg xs,.agg f=>match P.info? e with|some _=>eqArr P (eqV P n) e xs f (List.range m)|none=>none
  | _,_,_=>none
theorem eqArr_run{P:tT}{w:tS}{f:tA->tW->tW->tO tV}{d:Nat}(m:∀t x y b,f t x y=some b->(Op.equalIn d t x y).run P w = .ok b w){e:tA}{xs j:Array tW} :
  ∀{is:tL Nat} {b:tV},eqArr P f e xs j is=some b->(Op.eqItems d e (P.cellsOf e) xs j is).run P w = .ok b w
 | [],b,h=>by simp only[eqArr,qOi]at h;subst h;rfl
 | i::is,b,h=>by
  simp only[eqArr]at h;split at h
  .rename_i u v D C;split at h
   .rename_i r s hr q;simp only[qOi]at h;subst h;have p:=eqArr_run m q;simp only[Op.eqItems,Sem.run_bind,eR_ D w,Result.andThen_ok,eR_ C w,m _ _ _ _ hr];cases r with
    | true=>simp only[Bool.not_true,zo,if_false,p,jC]
    | false=>simp only[Bool.not_false,if_true,Sem.run_pure,Bool.false_and]
   .cases h
  .cases h
theorem eqFs_run{P:tT}{w:tS}{f:tA->tW->tW->tO tV}{d:Nat}(p:∀t x y b,f t x y=some b->(Op.equalIn d t x y).run P w = .ok b w){xs m:Array tW} :
  ∀{fs:tL Field} {b:tV},eqFs P f xs m fs=some b->(Op.eqFields d xs m fs).run P w = .ok b w
 | [],b,h=>by simp only[eqFs,qOi]at h;subst h;rfl
 | g::fs,b,h=>by
  simp only[eqFs]at h;split at h
  .rename_i u v D G F;split at h
   .rename_i r s hr C;simp only[qOi]at h;subst h;have q:=eqFs_run p C
    have j:g.name ≠ "_" :=by simpa using D
    simp only[Op.eqFields];rw[qY j];simp only[Sem.run_bind,eR_ G w,Result.andThen_ok,eR_ F w,p _ _ _ _ hr];cases r with
    | true=>simp only[Bool.not_true,zo,if_false,q,jC]
    | false=>simp only[Bool.not_false,if_true,Sem.run_pure,Bool.false_and]
   .cases h
  .cases h
theorem eqV_run{P:tT}{w:tS}:∀{n d:Nat} {t:tA} {x y:tW} {b:tV},eqV P n t x y=some b->(Op.equalIn (d+n) t x y).run P w = .ok b w
 | 0,d,t,x,y,b,h=>by cases h
 | n+1,d,t,x,y,b,h=>by
  simp only[eqV]at h;split at h
  .rename_i f;simp only[qOi]at h;subst h;exact run_equalIn_bool' w _ t _ _ f
  .rename_i f;split at h
   .rename_i q;simp only[qDe]at q;subst q;simp only[qOi]at h;subst h;exact run_equalIn_int w _ t _ _ _ _ f
   .cases h
  .rename_i f;simp only[qOi]at h;subst h;exact run_equalIn_string w _ t _ _ f
  .rename_i fs xs p f;split at h
   .rename_i s;have j:P.fieldsOf t=fs:=by simp[Program.fieldsOf,f]
    rw[←zW,run_equalIn_struct w _ t xs p (by rw[j];exact f) s,j];exact eqFs_run (λt x y b h=>eqV_run (n:=n) (d:=d) h) h
   .cases h
  .rename_i m e xs p f;split at h
   .rename_i i hi;rw[←zW,run_equalIn_array w (d+n) xs p f hi];exact eqArr_run (λt x y b h=>eqV_run (n:=n) (d:=d) h) h
   .cases h
  .cases h
theorem ke_{P:tT}{t:tA}{x y:tW}{b c:tV}(n:Nat)(f:Nat.ble n 10000=true)(j:P.eqGuardType P.depth t=false)(h:eqV P n t x y=some b)(m:b=c):EqIs P t x y c:=by
 subst m;refine⟨j,λw=>?_⟩;have:=eqV_run (w:=w) (d:=10000-n) h;have e:10000-n+n=10000:=Nat.sub_add_cancel (qq f)
 rwa [e]at this
def cy_(n:Nat)(i:Int):tO Unit:=if 0<=i/\i<n then some ()else none
theorem boundI_some{n:Nat}{i:Int}{u:Unit}(h:cy_ n i=some u):0<=i/\i<n:=by
 unfold cy_ at h;split at h
 .assumption
 .cases h
theorem rT_{P:tT}{ρ:tN->tW}{w:tS}{o:tI}{t e n c b off:Nat}{x y:tN}{k:IntKind}{i:Int}{u:Unit}(q:o.op = .indexAddr t x y)(p:P.underlying t=some (.array n e))(j:aK_ P e=some c)
  (hx:ρ x = .pointer (some ⟨b,off,none⟩)) (m:ρ y = .int k i) (hi:cy_ n i=some u):(execOp ρ o).run P w = .ok (.value (.pointer (some ⟨b,off+i.toNat*c,none⟩))) w:=by
 obtain⟨h0,h1⟩:=boundI_some hi;unfold aK_ at j;cases h:P.info? e with
 | none=>simp[h]at j
 | some inf=>
  have f:inf.size=c:=by simpa[h]using j
  unfold execOp;simp[q,hx,m,Instr.indexAt,asIntOf,run_underlying p,sizeOf,typeInfo,h,f,h0,h1,Addr.add_mk,Instr.sureAddr]
def strings_Count(s sub:tR):tO Int:=match sub with|[c]=>some (s.count c:Nat)|_=>none
inductive Out(σ ρ:Type) where
 | fall (s:σ)
 | ret (r:ρ)
def au_(xs:tL Int)(j:Nat):Int:=xs.getD j 0
def cg_(s:tR):tL Int:=s.map λb=>(b.toNat:Int)
def bF_{α:Type}(eq:α->α->tV)(x:α):tL α->tO Nat
 | []=>none
 | y::f=>match eq x y with
  | true=>some 0
  | false=>match bF_ eq x f with
   | some i=>some (i+1)
   | none=>none
def aH_{α β:Type}(eq:α->α->tV):tL α->tL β->α->β->β|y::f,v::vs,x,d=>bif eq x y then v else aH_ eq f vs x d|_,_,_,d=>d
def aO_{α:Type}(eq:α->α->tV)(ks:tL α)(x:α):tL α:=bif ks.any (eq x)then ks else ks++[x]
def bd_{α β:Type}(eq:α->α->tV):tL α->tL β->α->β->tL β|y::f,h::vs,x,v=>bif eq x y then v::vs else h::bd_ eq f vs x v|_,vs,_,v=>vs++[v]
section
variable{α β:Type}{eq:α->α->tV}
theorem rU_{x:α}:∀{ks:tL α},bF_ eq x ks=none->ks.any (eq x)=false
 | [],_=>rfl
 | y::j,h=>by
  simp only[bF_]at h;cases f:eq x y with
  | true=>rw[f]at h;cases h
  | false=>
   rw[f]at h;cases hi:bF_ eq x j with
   | some i=>rw[hi]at h;cases h
   | none=>rw[List.any_cons,f,rU_ hi];rfl
theorem lh_{x:α}:∀{ks:tL α} {i:Nat},bF_ eq x ks=some i->ks.any (eq x)=true/\∃y,ks[i]? = some y/\eq x y=true
 | [],_,h=>by cases h
 | y::m,i,h=>by
  simp only[bF_]at h;cases f:eq x y with
  | true=>rw[f]at h;obtain rfl:=qSj h;exact⟨by rw[List.any_cons,f];rfl,y,rfl,f⟩
  | false=>
   rw[f]at h;cases hi:bF_ eq x m with
   | none=>rw[hi]at h;cases h
   | some j=>
    rw[hi]at h;obtain rfl:=qSj h;obtain⟨h1,z,q,p⟩:=lh_ hi;exact⟨by rw[List.any_cons,h1,Bool.or_true],z,by simpa using q,p⟩
theorem p0_{x:α}{d:β}:∀{ks:tL α} {vs:tL β},bF_ eq x ks=none->aH_ eq ks vs x d=d
 | [],vs,_=>by cases vs<;>rfl
 | y::j,[],_=>rfl
 | y::j,v::vs,h=>by
  simp only[bF_]at h;cases f:eq x y with
  | true=>rw[f]at h;cases h
  | false=>
   rw[f]at h;cases hi:bF_ eq x j with
   | some i=>rw[hi]at h;cases h
   | none=>simp only[aH_,f,zR];exact p0_ hi
theorem p1_{x:α}{d:β}:∀{ks:tL α} {vs:tL β} {i:Nat} {v:β},bF_ eq x ks=some i->vs[i]? = some v->aH_ eq ks vs x d=v
 | [],_,_,_,h,_=>by cases h
 | y::m,[],_,_,_,h=>by simp at h
 | y::m,u::vs,i,v,h,p=>by
  simp only[bF_]at h;cases f:eq x y with
  | true=>
   rw[f]at h;obtain rfl:=qSj h;simp only[aH_,f,zB];simpa using p
  | false=>
   rw[f]at h;cases hi:bF_ eq x m with
   | none=>rw[hi]at h;cases h
   | some j=>
    rw[hi]at h;obtain rfl:=qSj h;simp only[aH_,f,zR];exact p1_ hi (by simpa using p)
theorem vF_{x:α}{v:β}:∀{ks:tL α} {vs:tL β},bF_ eq x ks=none->ks.length=vs.length->bd_ eq ks vs x v=vs++[v]
 | [],vs,_,_=>by cases vs<;>rfl
 | y::j,[],_,h=>by cases h
 | y::j,u::vs,h,m=>by
  simp only[bF_]at h;cases f:eq x y with
  | true=>rw[f]at h;cases h
  | false=>
   rw[f]at h;cases hi:bF_ eq x j with
   | some i=>rw[hi]at h;cases h
   | none=>simp only[bd_,f,zR,qc];rw[vF_ hi (by simpa using m)]
theorem vG_{x:α}{v:β}:∀{ks:tL α} {vs:tL β} {i:Nat},bF_ eq x ks=some i->ks.length=vs.length->bd_ eq ks vs x v=vs.set i v
 | [],_,_,h,_=>by cases h
 | y::m,[],_,_,h=>by cases h
 | y::m,u::vs,i,h,p=>by
  simp only[bF_]at h;cases f:eq x y with
  | true=>
   rw[f]at h;obtain rfl:=qSj h;simp only[bd_,f,zB,List.set_cons_zero]
  | false=>
   rw[f]at h;cases hi:bF_ eq x m with
   | none=>rw[hi]at h;cases h
   | some j=>
    rw[hi]at h;obtain rfl:=qSj h;simp only[bd_,f,zR,List.set_cons_succ];rw[vG_ hi (by simpa using p)]
end
section
variable{P:tT}{w:tS}{b K E T:tA}{es:Array tQ}{clock:Nat}
def ck_(w:tS)(b:Nat)(es:Array tQ)(clock:Nat):tS:={ w with heap:=w.heap.setIfInBounds b (.map es clock) }
theorem setMap_same(f:b<w.heap.size):(ck_ w b es clock).heap[b]? = some (.map es clock):=by
 simp[ck_,f]
theorem setMap_other{k:Nat}(h:k≠b):(ck_ w b es clock).heap[k]? = w.heap[k]?:=by
 simp[ck_,Ne.symm h]
theorem setMap_grow:Grow w (ck_ w b es clock):=⟨rfl,rfl,rfl,by simp[ck_]⟩
def foundAt(es:Array tQ):tO Nat->tO (Nat×tW)|some i=>(es[i]?).map λe=>(i,e.val)|none=>none
def gotV(es:Array tQ)(z:tW):tO Nat->tW|some i=>((es[i]?).map (·.val)).getD z|none=>z
theorem run_makeMap(w:tS)(t:tA):(Instr.makeMap t none).run P w = .ok (.map (some w.heap.size)) (w.alloc (.map #[] 0)):=by
 rfl
theorem run_lookup{kv z:tW}{ix:tO Nat}(f:P.underlying T=some (.map K E))(p:w.heap[b]? = some (.map es clock))(m:∀b w,(Instr.checkKey b 10000 K kv).run P w = .ok () w)(j:(Instr.findKey K kv es.toList).run P w = .ok (foundAt es ix) w)
  (q:(zeroValue E).run P w = .ok z w) (hi:∀i,ix=some i->i<es.size):(Instr.lookup T (.map (some b)) kv false).run P w = .ok (gotV es z ix) w:=by
 cases ix with
 | none=>simp[Instr.lookup,run_underlying f,MapKept.run_getObj_map p,m,j,foundAt,q,gotV,Result.andThen]
 | some i=>
  have h:=hi i rfl;simp[Instr.lookup,run_underlying f,MapKept.run_getObj_map p,m,j,foundAt,h,gotV,Result.andThen]
theorem xS_{kv x:tW}(h:P.underlying T=some (.map K E))(f:w.heap[b]? = some (.map es clock))(m:∀b w,(Instr.checkKey b 10000 K kv).run P w = .ok () w)(j:(Instr.findKey K kv es.toList).run P w = .ok none w) :
  (Instr.mapUpdate T (.map (some b)) kv x).run P w = .ok () (ck_ w b (es.push ⟨kv,x,clock⟩) (clock+1)):=by
 simp[Instr.mapUpdate,run_underlying h,MapKept.run_getObj_map f,m,j,Result.andThen,MapKept.run_setObj_map _ f,ck_]
theorem xT_{kv x:tW}{i:Nat}{e:tQ}(j:P.underlying T=some (.map K E))(h:w.heap[b]? = some (.map es clock))(u:∀b w,(Instr.checkKey b 10000 K kv).run P w = .ok () w)(q:(Instr.findKey K kv es.toList).run P w = .ok (some (i,e.val)) w)(s:es[i]? = some e)(p:e.key=kv)(m:Instr.sameBits 10000 kv kv=true) :
  (Instr.mapUpdate T (.map (some b)) kv x).run P w = .ok () (ck_ w b (es.modify i λe=>{ e with key:=kv,val:=x }) clock):=by
 have f:(Instr.keyThatStays kv kv).run P w = .ok kv w:=by simp[Instr.keyThatStays,m]
 subst p;simp[Instr.mapUpdate,run_underlying j,MapKept.run_getObj_map h,u,q,Result.andThen,s,f,MapKept.run_setObj_map _ h,ck_]
theorem Ai_{kv z:tW}(j:P.underlying T=some (.map K E))(f:w.heap[b]? = some (.map es clock))(p:∀b w,(Instr.checkKey b 10000 K kv).run P w = .ok () w)(m:(Instr.findKey K kv es.toList).run P w = .ok none w)(h:(zeroValue E).run P w = .ok z w) :
  (Instr.mapEntry T (.map (some b)) kv).run P w = .ok (.tuple #[z,.int .i64 (clock:Int)]) (ck_ w b (es.push ⟨kv,z,clock⟩) (clock+1)):=by
 simp[Instr.mapEntry,run_underlying j,MapKept.run_getObj_map f,p,m,h,goInt,Result.andThen,MapKept.run_setObj_map _ f,ck_]
theorem Aj_{kv:tW}{i:Nat}{e:tQ}(j:P.underlying T=some (.map K E))(h:w.heap[b]? = some (.map es clock))(u:∀b w,(Instr.checkKey b 10000 K kv).run P w = .ok () w)(q:(Instr.findKey K kv es.toList).run P w = .ok (some (i,e.val)) w)(s:es[i]? = some e)(p:e.key=kv)(m:Instr.sameBits 10000 kv kv=true) :
  (Instr.mapEntry T (.map (some b)) kv).run P w = .ok (.tuple #[e.val,.int .i64 (e.born:Int)]) (ck_ w b (es.modify i λe=>{ e with key:=kv }) clock):=by
 have f:(Instr.keyThatStays kv kv).run P w = .ok kv w:=by simp[Instr.keyThatStays,m]
 subst p;simp[Instr.mapEntry,run_underlying j,MapKept.run_getObj_map h,u,q,Result.andThen,s,f,goInt,MapKept.run_setObj_map _ h,ck_]
theorem findIdx_born:∀{l:tL tQ} {i:Nat} {e:tQ},(l.map (·.born)).Nodup->l[i]? = some e->l.findIdx? (λx=>(x.born:Int)==(e.born:Int))=some i
 | [],_,_,_,h=>by simp at h
 | x::l,0,e,_,h=>by
  simp at h;subst h;simp[List.findIdx?_cons]
 | x::l,i+1,e,j,h=>by
  simp only[zY,List.nodup_cons]at j;have p:l[i]? = some e:=by simpa using h
  have f:x.born≠e.born:=λm=>j.1 (by rw[m];exact zZ.2 ⟨e,qa p,rfl⟩)
  have q:((x.born:Int)==(e.born:Int))=false:=by rw[zw];intro m;exact f (by omega)
  rw[List.findIdx?_cons,q,findIdx_born j.2 p];rfl
theorem xU_{x:tW}{i:Nat}{e:tQ}(f:w.heap[b]? = some (.map es clock))(h:(es.toList.map (·.born)).Nodup)(j:es.toList[i]? = some e) :
  (Instr.entryStore T (.map (some b)) (.int .i64 (e.born:Int)) x).run P w = .ok () (ck_ w b (es.modify i λe=>{ e with val:=x }) clock):=by
 have h1:=findIdx_born h j;have p:es.findIdx? (λx=>(x.born:Int)==(e.born:Int))=some i:=by
  rw[←h1,←List.findIdx?_toArray]
 have m:(asInt (.int .i64 (e.born:Int))).run P w = .ok (e.born:Int) w:=rfl;simp only[Instr.entryStore,Sem.run_bind,MapKept.run_getObj_map f,Result.andThen_ok,m,p,MapKept.run_setObj_map _ f,ck_]
end
noncomputable def both{R:Type}(x y:tO R):tO R:=@ite _ (x=y) (Classical.propDecidable _) x none
theorem both_some{R:Type}{x y:tO R}{r:R}(h:both x y=some r):x=some r/\y=some r:=by
 unfold both at h;split at h
 .rename_i e;subst e;exact⟨h,h⟩
 .cases h
theorem both_self{R:Type}(x:tO R):both x x=x:=by
 unfold both;rw[qY rfl]
noncomputable def nilB{α R:Type}(xs:tL α)(k:tV->tO R):tO R:=match xs with|[]=>both (k true) (k false)|_::_=>k false
def eqI(a b:Int):tV:=a==b
def eqS(a b:tR):tV:=a==b
def idxB:tR->UInt8->Int|[],_=>-1|b::l,c=>if b==c then 0 else if idxB l c == -1 then -1 else idxB l c+1
def stringslite_Index(s sub:tR):tO Int:=match sub with|[c]=>some (idxB s c)|_=>none
def stringslite_IndexByte(s:tR)(c:Int):tO Int:=some (idxB s c.toNat.toUInt8)
def iY_{α:Type}(xs:tL α)(n:Nat)(z:α):tL α:=xs.take n++List.replicate (xs.length-n) z
def growB(xs:tL Int)(n:Int):tO (tL Int):=bif decide (0<=n)&&decide (n<=281474976710656)then some xs else none
def lZ_{α:Type}(xs f:tL α):tL α:=f.take (min f.length xs.length)++xs.drop (min f.length xs.length)
def o0_{α:Type}(xs:tL α)(n:Nat)(f:tL α):tL α:=xs.take n++lZ_ (xs.drop n) f
def digF:Nat->Nat->tR|0,_=>[]|f+1,u=>if u<10 then[UInt8.ofNat (48+u)]else digF f (u/10)++[UInt8.ofNat (48+u%10)]
def eL_(n b:Int):tO tR:=if b=10 /\ -9223372036854775808<=n/\n<=9223372036854775807 then some (if n<0 then 45::digF 20 n.natAbs else digF 20 n.toNat)else none
def je_{R:Type}[DecidableEq R](x y:tO R):tO R:=if x=y then x else none
theorem o1_{R:Type}[DecidableEq R]:@both R=je_:=by
 funext x y
 unfold both je_;split<;>rfl
theorem bothC_self{R:Type}[DecidableEq R](x:tO R):je_ x x=x:=by
 unfold je_;rw[qY rfl]
noncomputable def limO{R:Type}(f:Nat->tO R):tO R:=open Classical in if h:∃n,(f n).isSome=true then f h.choose else none
theorem limO_some{R:Type}{f:Nat->tO R}{y:R}(h:limO f=some y):∃n,f n=some y:=by
 unfold limO at h;split at h
 .rename_i hx;exact⟨_,h⟩
 .cases h
theorem limO_ex{R:Type}{f:Nat->tO R}{n:Nat}{y:R}(h:f n=some y):∃j,limO f=some j:=by
 have hx:∃n,(f n).isSome=true:=⟨n,by rw[h];rfl⟩;unfold limO;rw[dif_pos hx];exact Option.isSome_iff_exists.1 hx.choose_spec
def d4{A B C D E:Type}(s:A×B×C×D×E):E:=s.2.2.2.2
def d8{A B C D E F G H I:Type}(s:A×B×C×D×E×F×G×H×I):I:=d4 (d4 s)
def d16{U O M J G F D y x u q p m j h f C:Type}(s:U×O×M×J×G×F×D×y×x×u×q×p×m×j×h×f×C):C:=d8 (d8 s)
def d32{A1 A2 A3 A4 A5 A6 A7 A8 B1 B2 B3 B4 Z Y V U O M J G F D C y x u q p m j h f E:Type}(s:A1×A2×A3×A4×A5×A6×A7×A8×B1×B2×B3×B4×Z×Y×V×U×O×M×J×G×F×D×C×y×x×u×q×p×m×j×h×f×E):E:=d16 (d16 s)
def u1{A B C:Type}(f:B->C)(s:A×B):A×C:=(s.1,f s.2)
def u2{A A' B C:Type}(f:B->C)(s:A×A'×B):A×A'×C:=u1 (u1 f) s
def u4{p m j h B C:Type}(f:B->C)(s:p×m×j×h×B):p×m×j×h×C:=u2 (u2 f) s
def u8{y x u q p m j h B C:Type}(f:B->C)(s:y×x×u×q×p×m×j×h×B):y×x×u×q×p×m×j×h×C:=u4 (u4 f) s
def u16{Y V U O M J G F y x u q p m j h C D:Type}(f:C->D)(s:Y×V×U×O×M×J×G×F×y×x×u×q×p×m×j×h×C):Y×V×U×O×M×J×G×F×y×x×u×q×p×m×j×h×D:=u8 (u8 f) s
def u32{A1 A2 A3 A4 A5 A6 A7 A8 B1 B2 B3 B4 B5 B6 Z Y V U O M J G D C y x u q p m j h E F:Type}(f:E->F)(s:A1×A2×A3×A4×A5×A6×A7×A8×B1×B2×B3×B4×B5×B6×Z×Y×V×U×O×M×J×G×D×C×y×x×u×q×p×m×j×h×E):A1×A2×A3×A4×A5×A6×A7×A8×B1×B2×B3×B4×B5×B6×Z×Y×V×U×O×M×J×G×D×C×y×x×u×q×p×m×j×h×F:=u16 (u16 f) s
inductive BT where
 | l
 | b (x y:BT)
noncomputable def bt{R:Type}:BT->tO R->tO R|.l,x=>x|.b t u,x=>both (bt t x) (bt u x)
theorem tj_{R:Type}:∀(t:BT) (x:tO R),bt t x=x
 | .l,_=>rfl
 | .b t u,x=>by rw[bt,tj_ t,tj_ u,both_self]
def orO(c:tV)(x:tO tV):tO tV:=bif c then some true else x
def anO(c:tV)(x:tO tV):tO tV:=bif c then x else some false
def nxt{B:Type}(s:Int):tO (Step Int B):=some (.next (w64 (s+1)))
def rtn{S A B:Type}(b:B):tO (Step S (Out A B)):=some (.done (.ret b))
def aft{A B:Type}(o:tO (Out A B))(k:A->tO B):tO B:=o.bind λw=>match w with|.ret r=>some r|.fall x=>k x
def afd{S A A' B:Type}(o:tO (Out A B))(k:A->tO (Step S (Out A' B))):tO (Step S (Out A' B)):=o.bind λw=>match w with|.ret r=>some (.done (.ret r))|.fall x=>k x
def ax_{B:Type}(n:Int)(f:Int->tO (Step Int (Out Unit B))):tO (Out Unit B):=aj_ (λs=>bif decide (s<n)then f s else some (.done (.fall ()))) BIG 0
def cz_(n:Int)(f:Int->tO (Step Int Unit)):tO Unit:=aj_ (λs=>bif decide (s<n)then f s else some (.done ())) BIG 0
inductive Ty where
 | int (k:IntKind)
 | bool
 | str
 | sl (e:Ty)
 | st (n:Nat)
deriving DecidableEq
@[reducible] def Den (S:Nat->Type):Ty->Type
 | .int _=>Int
 | .bool=>tV
 | .str=>tR
 | .sl e=>tL (Den S e)
 | .st n=>S n
def HL(S:Nat->Type):tL Ty->Type|[]=>Unit|t::ts=>Den S t×HL S ts
structure TE where
 S:Nat->Type
 cs:Nat->tL Ty
 un:∀n,S n->HL S (cs n)
 bd:∀n,HL S (cs n)->S n
 bd_un:∀n x,bd n (un n x)=x
 un_bd:∀n h,un n (bd n h)=h
 deq:∀n,tO (DecidableEq (S n))
 ty:Nat->tO Ty
 ne:∀n,cs n≠[]
 gl:Nat->tO (Σ t:Ty,Den S t)
 sb:Nat->tV
def TE.flat(E:TE):Ty->tL Ty|.st n=>E.cs n|t=>[t]
def TE.fl(E:TE):(t:Ty)->Den E.S t->HL E.S (E.flat t)|.st n,x=>E.un n x|.int _,x=>(x,())|.bool,x=>(x,())|.str,x=>(x,())|.sl _,x=>(x,())
def TE.ufl(E:TE):(t:Ty)->HL E.S (E.flat t)->Den E.S t|.st n,h=>E.bd n h|.int _,h=>h.1|.bool,h=>h.1|.str,h=>h.1|.sl _,h=>h.1
theorem TE.fl_ufl(E:TE)(t:Ty)(h:HL E.S (E.flat t)):E.fl t (E.ufl t h)=h:=by
 cases t<;>first|rfl|exact E.un_bd _ _
def TE.size(E:TE)(t:Ty):Nat:=(E.flat t).length
theorem TE.size_pos(E:TE)(t:Ty):0<E.size t:=by
 unfold TE.size;cases t with
 | st n=>exact List.length_pos_iff.2 (E.ne n)
 | _=>exact Nat.zero_lt_one
structure Fz where
 F:Nat->Prop
 w:tS
def Fz.Le(a b:Fz):Prop:=∀k,a.F k->b.F k/\b.w.heap[k]? = a.w.heap[k]?
theorem Fz.Le.refl(a:Fz):a.Le a:=λ_ h=>⟨h,rfl⟩
theorem Fz.Le.trans{a b c:Fz}(h:a.Le b)(k:b.Le c):a.Le c:=λq f=>⟨(k q (h q f).1).1,(k q (h q f).1).2.trans (h q f).2⟩
inductive RD(E:TE)(z:Fz):(ts:tL Ty)->HL E.S ts->tL tW->Prop
 | nil {h}:RD E z [] h []
 | int {k n ts h vs} (r:RD E z ts h vs):RD E z (.int k::ts) (n,h) (.int k n::vs)
 | bool {b ts h vs} (r:RD E z ts h vs):RD E z (.bool::ts) (b,h) (.bool b::vs)
 | str {s ts h vs} (r:RD E z ts h vs):RD E z (.str::ts) (s,h) (S s::vs)
 | sl {e:Ty} {xs:tL (Den E.S e)} {A:tO Addr} {cap:Nat} {rows:tL (tL tW)} {ts h vs} (hs:SlF z.F (E.size e) A xs.length rows z.w) (hc:xs.length<=cap)
   (hr:∀(i:Nat) x r,xs[i]? = some x->rows[i]? = some r->RD E z (E.flat e) (E.fl e x) r) (r:RD E z ts h vs):RD E z (.sl e::ts) (xs,h) (.slice A xs.length cap::vs)
section
variable{E:TE}{z z':Fz}
theorem SlF.le{c n:Nat}{A:tO Addr}{rows:tL (tL tW)}(h:SlF z.F c A n rows z.w)(p:z.Le z'):SlF z'.F c A n rows z'.w:=
 ⟨h.1,λs=>by
  obtain⟨b,off,e,x,m⟩:=h.2 s;have f:=p b x;exact⟨b,off,e,f.1,λi r hr=>⟨(m i r hr).1,λj u q=>(World.cell?_of_block (w:=z.w) f.2).trans ((m i r hr).2 j u q)⟩⟩⟩
theorem RD.le{ts:tL Ty}{h:HL E.S ts}{vs:tL tW}(r:RD E z ts h vs)(m:z.Le z'):RD E z' ts h vs:=by
 induction r with
 | nil=>exact .nil
 | int _ f=>exact .int f
 | bool _ f=>exact .bool f
 | str _ f=>exact .str f
 | sl p q _ _ j f=>exact .sl (SlF.le p m) q (λi x r h1 s=>j i x r h1 s) f
theorem RD.nil_inv{h:HL E.S []}{vs:tL tW}(r:RD E z [] h vs):vs=[]:=by cases r;rfl
theorem RD.int_inv{k:IntKind}{ts:tL Ty}{h:HL E.S (.int k::ts)}{vs:tL tW}(r:RD E z (.int k::ts) h vs):∃vs',vs = .int k h.1::vs'/\RD E z ts h.2 vs':=by
 cases r with|int r=>exact⟨_,rfl,r⟩
theorem RD.bool_inv{ts:tL Ty}{h:HL E.S (.bool::ts)}{vs:tL tW}(r:RD E z (.bool::ts) h vs):∃vs',vs = .bool h.1::vs'/\RD E z ts h.2 vs':=by
 cases r with|bool r=>exact⟨_,rfl,r⟩
theorem RD.str_inv{ts:tL Ty}{h:HL E.S (.str::ts)}{vs:tL tW}(r:RD E z (.str::ts) h vs):∃vs',vs=S h.1::vs'/\RD E z ts h.2 vs':=by
 cases r with|str r=>exact⟨_,rfl,r⟩
theorem RD.sl_inv{e:Ty}{ts:tL Ty}{h:HL E.S (.sl e::ts)}{vs:tL tW}(r:RD E z (.sl e::ts) h vs):∃A cap rows vs',vs = .slice A h.1.length cap::vs'/\SlF z.F (E.size e) A h.1.length rows z.w/\h.1.length<=cap /\
  (∀(i:Nat) x r,h.1[i]? = some x->rows[i]? = some r->RD E z (E.flat e) (E.fl e x) r)/\RD E z ts h.2 vs':=by
 cases r with|sl f j hr r=>exact⟨_,_,_,_,rfl,f,j,hr,r⟩
theorem RD.len{ts:tL Ty}{h:HL E.S ts}{vs:tL tW}(r:RD E z ts h vs):vs.length=ts.length:=by
 induction r with
 | nil=>rfl
 | int _ f=>simp[f]
 | bool _ f=>simp[f]
 | str _ f=>simp[f]
 | sl _ _ _ _ _ f=>simp[f]
theorem RD.uncons{t:Ty}{ts:tL Ty}{h:HL E.S (t::ts)}{vs:tL tW}(r:RD E z (t::ts) h vs):∃v vs',vs=v::vs'/\RD E z [t] (h.1,()) [v]/\RD E z ts h.2 vs':=by
 cases r with
 | int r=>exact⟨_,_,rfl,.int .nil,r⟩
 | bool r=>exact⟨_,_,rfl,.bool .nil,r⟩
 | str r=>exact⟨_,_,rfl,.str .nil,r⟩
 | sl f j hr r=>exact⟨_,_,rfl,.sl f j hr .nil,r⟩
theorem RD.cons{t:Ty}{ts:tL Ty}{x:Den E.S t}{h:HL E.S ts}{v:tW}{vs:tL tW}(r:RD E z [t] (x,()) [v])(rs:RD E z ts h vs):RD E z (t::ts) (x,h) (v::vs):=by
 cases r with
 | int _=>exact .int rs
 | bool _=>exact .bool rs
 | str _=>exact .str rs
 | sl f j hr _=>exact .sl f j hr rs
theorem RD.cell{t:Ty}{x:Den E.S t}{v:tW}(r:RD E z [t] (x,()) [v]):jd_ v=true:=by
 cases r<;>rfl
theorem RD.cells{ts:tL Ty}{h:HL E.S ts}{vs:tL tW}(r:RD E z ts h vs):b5_ vs=true:=by
 induction r with
 | nil=>rfl
 | int _ f=>simp[b5_,jd_,f]
 | bool _ f=>simp[b5_,jd_,f]
 | str _ f=>simp[b5_,jd_,S,f]
 | sl _ _ _ _ _ f=>simp[b5_,jd_,f]
end
inductive SC(E:TE) where
 | dt (t:Ty) (x:Den E.S t)
 | own (id:Nat)
 | pre (id:Nat) (n:Int)
 | suf (id:Nat) (lo:Int)
 | nils
 | ptr (id off:Nat)
 | elo (id q:Nat) (i:Int) (off:Nat)
 | elf (t:Ty) (x:Den E.S t) (off:Nat)
 | fn1 (a r:Ty) (g:Den E.S a->tO (Den E.S r))
 | fn2 (a b r:Ty) (g:Den E.S a->Den E.S b->tO (Den E.S r))
 | clo (f:FuncId) (caps:tL Nat)
 | mp (id:Nat)
 | mst (q:Nat)
 | nilp
 | nif
 | any
 | sbp (id:Nat)
 | pix (id:Nat) (i:Int)
 | efx (t:Ty) (x:Den E.S t) (i:Int)
inductive V1(E:TE) where
 | one (c:SC E)
 | agg (l:tL (SC E))
inductive SV(E:TE) where
 | v (x:V1 E)
 | tup (l:tL (V1 E))
inductive Obj(E:TE) where
 | box (T:tA) (cs:tL (SC E))
 | row (e:tA) (t:Ty) (xs:tL (Den E.S t)) (foc:tL (Nat×Int×Den E.S t))
 | fr (t:Ty) (xs:tL (Den E.S t))
 | fb (t:Ty) (x:Den E.S t)
 | map (T:tA) (k v:Ty) (ks:tL (Den E.S k)) (vs:tL (Den E.S v)) (foc:tL (Nat×Den E.S k))
structure Loc where
 A:tO Addr
 n:Nat
 cap:Nat
 c:Nat
 b:Nat
 ix:Int:=0
abbrev Ga:=Nat->tO Loc
def Ga.Le(g h:Ga):Prop:=∀i l,g i=some l->h i=some l
def Ga.put(g:Ga)(i:Nat)(l:Loc):Ga:=λj=>if j=i then some l else g j
theorem Ga.Le.refl(g:Ga):g.Le g:=λ_ _ h=>h
theorem Ga.Le.trans{f g h:Ga}(a:f.Le g)(b:g.Le h):f.Le h:=λi l e=>b i l (a i l e)
theorem Ga.le_put{g:Ga}{i:Nat}{l:Loc}(h:g i=none):g.Le (g.put i l):=λj f e=>by
 unfold Ga.put;split
 .subst_vars;rw[h]at e;cases e
 .exact e
theorem Ga.put_self(g:Ga)(i:Nat)(l:Loc):g.put i l i=some l:=by unfold Ga.put;rw[qY rfl]
theorem Ga.put_ne(g:Ga){i j:Nat}(l:Loc)(h:j≠i):g.put i l j=g j:=by unfold Ga.put;rw[qG h]
inductive All2{α β:Type}(R:α->β->Prop):tL α->tL β->Prop
 | nil:All2 R [] []
 | cons {a b la bs} (h:R a b) (t:All2 R la bs):All2 R (a::la) (b::bs)
namespace All2
variable{α β:Type}{R R':α->β->Prop}{la la':tL α}{bs bs':tL β}
theorem len(h:All2 R la bs):la.length=bs.length:=by induction h with|nil=>rfl|cons _ _ f=>simp[f]
theorem mono(h:All2 R la bs)(j:∀a b,R a b->R' a b):All2 R' la bs:=by
 induction h with
 | nil=>exact .nil
 | cons h _ f=>exact .cons (j _ _ h) f
theorem append(h:All2 R la bs)(j:All2 R la' bs'):All2 R (la++la') (bs++bs'):=by
 induction h with
 | nil=>exact j
 | cons h _ f=>exact .cons h f
theorem take(h:All2 R la bs):∀(n:Nat),All2 R (la.take n) (bs.take n):=by
 induction h with
 | nil=>intro n;simp;exact .nil
 | cons h _ f=>
  intro n;cases n with
  | zero=>exact .nil
  | succ n=>exact .cons h (f n)
theorem drop(h:All2 R la bs):∀(n:Nat),All2 R (la.drop n) (bs.drop n):=by
 induction h with
 | nil=>intro n;simp;exact .nil
 | cons h t f=>
  intro n;cases n with
  | zero=>exact .cons h t
  | succ n=>exact f n
theorem get(h:All2 R la bs):∀{i:Nat} {a:α},la[i]? = some a->∃b,bs[i]? = some b/\R a b:=by
 induction h with
 | nil=>intro i a h;simp at h
 | cons h _ f=>
  intro i x hx;cases i with
  | zero=>simp at hx;subst hx;exact⟨_,rfl,h⟩
  | succ i=>exact f (by simpa using hx)
end All2
def Fz.In(z:Fz)(w:tS):Prop:=∀k,z.F k->k<w.heap.size/\w.heap[k]? = z.w.heap[k]?
theorem Fz.In.ext{z:Fz}{w w':tS}(h:z.In w)(hx:Ext w w'):z.In w':=λk f=>by
 have j:=hx.below;exact⟨zS (h k f).1 j.size,(j.block k (h k f).1).trans (h k f).2⟩
def RT(E:TE)(z:Fz)(t:Ty)(x:Den E.S t)(v:tW):Prop:=match t,x with|.st n,x=>∃vs,v = .agg vs.toArray/\RD E z (E.cs n) (E.un n x) vs|.int k,x=>RD E z [.int k] (x,()) [v]|.bool,x=>RD E z [.bool] (x,()) [v]|.str,x=>RD E z [.str] (x,()) [v]|.sl e,x=>RD E z [.sl e] (x,()) [v]
def RTs(E:TE)(z:Fz):(ts:tL Ty)->HL E.S ts->tL tW->Prop|[],_,vs=>vs=[]|t::ts,h,vs=>∃v vs',vs=v::vs'/\RT E z t h.1 v/\RTs E z ts h.2 vs'
def Ty.flatB:Ty->tV|.int _|.bool|.str=>true|_=>false
def cr_(P:tT)(f:FuncId):tV:=match P.funcs[f]? with
 | some fn=>!(fn.name == "runtime.NumGoroutine") && !fn.body.isNone
 | none=>false
theorem rW_{P:tT}{f:FuncId}{args:Array tW}{w:tS}(h:cr_ P f=true):(callFunc f args).run P w = .ok (.enter f args) w:=by
 unfold cr_ at h;split at h
 .rename_i fn j;simp only[qAn,qF]at h
  have h1:¬ fn.name = "runtime.NumGoroutine" :=by simpa using h.1
  have m:¬fn.body=none:=λe=>by rw[e]at h;simp at h
  unfold callFunc;simp[j,h1,m]
 .cases h
def FnOK(P:tT)(E:TE)(z:Fz)(f:tW)(la:tL Ty)(r:Ty)(g:HL E.S la->tO (Den E.S r)):Prop:=
 ∃fid caps,f = .func (.func fid) #[] caps/\(cr_ P fid=true/\r.flatB=true)/\∀(w:tS) (z':Fz) (h:HL E.S la) (y:Den E.S r) (args:tL tW),z.Le z'->z'.In w->RTs E z' la h args->g h=some y ->
  Ret P fid (args.toArray++caps) w λu w'=>RD E z' [r] (y,()) [u]/\Ext w w'
theorem FnOK.le{P:tT}{E:TE}{z z':Fz}{f:tW}{la:tL Ty}{r:Ty}{g:HL E.S la->tO (Den E.S r)}(h:FnOK P E z f la r g)(j:z.Le z'):FnOK P E z' f la r g:=by
 obtain⟨fid,caps,e,p,q⟩:=h;exact⟨fid,caps,e,p,λw z2 m y args h1 x u s=>q w z2 m y args (j.trans h1) x u s⟩
def RC(P:tT)(E:TE)(z:Fz)(g:Ga):SC E->tW->Prop|.dt t x,v=>RD E z [t] (x,()) [v]|.own id,v=>∃l,g id=some l/\v = .slice l.A l.n l.cap|.pre id n,v=>∃l,g id=some l/\n.toNat<=l.n/\v = .slice l.A n.toNat l.cap|.suf id lo,v=>∃l,g id=some l/\lo.toNat<=l.n/\v = .slice (cutA l.A l.c lo.toNat l.cap) (l.n-lo.toNat) (l.cap-lo.toNat)|.nils,v=>v = .slice none 0 0|.ptr id off,v=>∃l,g id=some l/\v = .pointer (some ⟨l.b,off,none⟩)|.elo _ q i off,v=>∃l,g q=some l/\l.ix=i/\v = .pointer (some ⟨l.b,l.n+off,none⟩)|.elf t x off,v=>∃b o r,v = .pointer (some ⟨b,o+off,none⟩)/\z.F b/\RD E z (E.flat t) (E.fl t x) r/\∀j u,r[j]? = some u->z.w.cell? ⟨b,o+j,none⟩=some u|.fn1 a r f,v=>FnOK P E z v [a] r λh=>f h.1|.fn2 a b r f,v=>FnOK P E z v [a,b] r λh=>f h.1 h.2.1|.clo f caps,v=>∃us,v = .func (.func f) #[] us.toArray/\All2 (λid u=>∃l,g id=some l/\u = .pointer (some ⟨l.b,0,none⟩)) caps us|.mp id,v=>∃l,g id=some l/\v = .map (some l.b)|.mst q,v=>∃l,g q=some l/\v = .int .i64 (l.n:Int)|.nilp,v=>v = .pointer none|.nif,v=>v = .nilIface|.any,v=>jd_ v=true|.sbp id,v=>∃l,g id=some l/\(v = .pointer none\/v = .pointer (some ⟨l.b,0,none⟩))|.pix id i,v=>∃l,g id=some l/\v = .pointer (some ⟨l.b,i.toNat,none⟩)|.efx t x i,v=>∃b o r,v = .pointer (some ⟨b,o+i.toNat,none⟩)/\z.F b/\RD E z (E.flat t) (E.fl t x) r/\∀j u,r[j]? = some u->z.w.cell? ⟨b,o+j,none⟩=some u
def R1(P:tT)(E:TE)(z:Fz)(g:Ga):V1 E->tW->Prop|.one c,v=>RC P E z g c v|.agg l,v=>∃vs,v = .agg vs.toArray/\All2 (RC P E z g) l vs
def RV(P:tT)(E:TE)(z:Fz)(g:Ga):SV E->tW->Prop|.v x,v=>R1 P E z g x v|.tup l,v=>∃vs,v = .tuple vs.toArray/\All2 (R1 P E z g) l vs
section
variable{P:tT}{E:TE}{z z':Fz}{g g':Ga}{w w' w0:tS}
theorem RC.le{c:SC E}{v:tW}(h:RC P E z g c v)(s:z.Le z')(p:g.Le g'):RC P E z' g' c v:=by
 cases c with
 | dt t x=>exact RD.le h s
 | own id=>obtain⟨l,h1,m⟩:=h;exact⟨l,p _ _ h1,m⟩
 | pre id n=>obtain⟨l,h1,m⟩:=h;exact⟨l,p _ _ h1,m⟩
 | suf id lo=>obtain⟨l,h1,m⟩:=h;exact⟨l,p _ _ h1,m⟩
 | nils=>exact h
 | ptr id off=>obtain⟨l,h1,m⟩:=h;exact⟨l,p _ _ h1,m⟩
 | elo id q i off=>obtain⟨l,h1,m⟩:=h;exact⟨l,p _ _ h1,m⟩
 | elf t x off=>
  obtain⟨b,o,r,h1,m,C,y⟩:=h;exact⟨b,o,r,h1,(s b m).1,C.le s,λj u D=>(World.cell?_of_block (w:=z.w) (s b m).2).trans (y j u D)⟩
 | fn1 a r f=>exact FnOK.le h s
 | fn2 a b r f=>exact FnOK.le h s
 | clo f caps=>obtain⟨us,h1,m⟩:=h;exact⟨us,h1,m.mono λ_ _ ⟨l,C,y⟩=>⟨l,p _ _ C,y⟩⟩
 | mp id=>obtain⟨l,h1,m⟩:=h;exact⟨l,p _ _ h1,m⟩
 | mst q=>obtain⟨l,h1,m⟩:=h;exact⟨l,p _ _ h1,m⟩
 | nilp=>exact h
 | nif=>exact h
 | any=>exact h
 | sbp id=>obtain⟨l,h1,m⟩:=h;exact⟨l,p _ _ h1,m⟩
 | pix id i=>obtain⟨l,h1,m⟩:=h;exact⟨l,p _ _ h1,m⟩
 | efx t x i=>
  obtain⟨b,o,r,h1,m,C,y⟩:=h;exact⟨b,o,r,h1,(s b m).1,C.le s,λj u D=>(World.cell?_of_block (w:=z.w) (s b m).2).trans (y j u D)⟩
theorem RC.cell{c:SC E}{v:tW}(h:RC P E z g c v):jd_ v=true:=by
 cases c with
 | dt t x=>exact RD.cell h
 | own id=>obtain⟨l,h1,rfl⟩:=h;rfl
 | pre id n=>obtain⟨l,h1,_,rfl⟩:=h;rfl
 | suf id lo=>obtain⟨l,h1,_,rfl⟩:=h;rfl
 | nils=>simp only[RC]at h;subst h;rfl
 | ptr id off=>obtain⟨l,h1,rfl⟩:=h;rfl
 | elo id q i off=>obtain⟨l,h1,_,rfl⟩:=h;rfl
 | elf t x off=>obtain⟨b,o,r,rfl,_⟩:=h;rfl
 | fn1 a r f=>obtain⟨fid,caps,rfl,_⟩:=h;rfl
 | fn2 a b r f=>obtain⟨fid,caps,rfl,_⟩:=h;rfl
 | clo f caps=>obtain⟨us,rfl,_⟩:=h;rfl
 | mp id=>obtain⟨l,h1,rfl⟩:=h;rfl
 | mst q=>obtain⟨l,h1,rfl⟩:=h;rfl
 | nilp=>simp only[RC]at h;subst h;rfl
 | nif=>simp only[RC]at h;subst h;rfl
 | any=>exact h
 | sbp id=>obtain⟨l,h1,rfl|rfl⟩:=h<;>rfl
 | pix id i=>obtain⟨l,h1,rfl⟩:=h;rfl
 | efx t x i=>obtain⟨b,o,r,rfl,_⟩:=h;rfl
theorem RC.cells{l:tL (SC E)}{vs:tL tW}(h:All2 (RC P E z g) l vs):b5_ vs=true:=by
 induction h with
 | nil=>rfl
 | cons h _ f=>simp[b5_,RC.cell h,f]
theorem R1.le{x:V1 E}{v:tW}(h:R1 P E z g x v)(f:z.Le z')(j:g.Le g'):R1 P E z' g' x v:=by
 cases x with
 | one c=>exact RC.le h f j
 | agg l=>obtain⟨vs,e,h⟩:=h;exact⟨vs,e,h.mono λ_ _ h=>RC.le h f j⟩
theorem RV.le{x:SV E}{v:tW}(h:RV P E z g x v)(f:z.Le z')(j:g.Le g'):RV P E z' g' x v:=by
 cases x with
 | v x=>exact R1.le h f j
 | tup l=>obtain⟨vs,e,h⟩:=h;exact⟨vs,e,h.mono λ_ _ h=>R1.le h f j⟩
def hlc(E:TE):(ts:tL Ty)->HL E.S ts->tL (SC E)|[],_=>[]|t::ts,h=>.dt t h.1::hlc E ts h.2
theorem hlc_rd:∀{ts:tL Ty} {h:HL E.S ts} {vs:tL tW},RD E z ts h vs↔All2 (RC P E z g) (hlc E ts h) vs
 | [],h,vs=>⟨λr=>by rw[r.nil_inv];exact .nil,λr=>by cases r;exact .nil⟩
 | t::ts,h,vs=>⟨λr=>by
   obtain⟨v,vs',rfl,h1,f⟩:=r.uncons;exact .cons h1 (hlc_rd.1 f),λr=>by
   obtain⟨x,h⟩:=h;simp only[hlc]at r;cases r with
   | cons h1 f=>exact RD.cons h1 (hlc_rd.2 f)⟩
def TE.cells(E:TE)(t:Ty)(x:Den E.S t):tL (SC E):=hlc E (E.flat t) (E.fl t x)
theorem cells_rd{t:Ty}{x:Den E.S t}{vs:tL tW}:RD E z (E.flat t) (E.fl t x) vs↔All2 (RC P E z g) (E.cells t x) vs:=hlc_rd
def cT_(E:TE):(ts:tL Ty)->HL E.S ts->tO (tL tW)
 | [],_=>some []
 | .int k::ts,h=>match cT_ E ts h.2 with|some l=>some (.int k h.1::l)|none=>none
 | .bool::ts,h=>match cT_ E ts h.2 with|some l=>some (.bool h.1::l)|none=>none
 | .str::ts,h=>match cT_ E ts h.2 with|some l=>some (S h.1::l)|none=>none
 | _,_=>none
theorem my_:∀{ts:tL Ty} {h:HL E.S ts} {vs l:tL tW},RD E z ts h vs->cT_ E ts h=some l->vs=l
 | [],h,vs,l,hr,f=>by rw[hr.nil_inv];simpa[cT_]using f
 | .int k::ts,h,vs,l,hr,f=>by
  obtain⟨vs',rfl,j⟩:=hr.int_inv;simp only[cT_]at f;split at f
  .rename_i p m;obtain rfl:=qSj f;rw[my_ j m]
  .cases f
 | .bool::ts,h,vs,l,hr,f=>by
  obtain⟨vs',rfl,j⟩:=hr.bool_inv;simp only[cT_]at f;split at f
  .rename_i p m;obtain rfl:=qSj f;rw[my_ j m]
  .cases f
 | .str::ts,h,vs,l,hr,f=>by
  obtain⟨vs',rfl,j⟩:=hr.str_inv;simp only[cT_]at f;split at f
  .rename_i p m;obtain rfl:=qSj f;rw[my_ j m]
  .cases f
 | .sl e::ts,h,vs,l,hr,f=>by simp[cT_]at f
 | .st n::ts,h,vs,l,hr,f=>by simp[cT_]at f
def ch_(E:TE):(t:Ty)->Den E.S t->tO tW
 | .st n,x=>match cT_ E (E.cs n) (E.un n x)with
  | some l=>some (.agg l.toArray)
  | none=>none
 | .int k,n=>some (.int k n)
 | .bool,b=>some (.bool b)
 | .str,s=>some (S s)
 | .sl _,_=>none
inductive MapR(E:TE)(k v:Ty):tL (Den E.S k)->tL (Den E.S v)->tL tQ->Prop
 | nil:MapR E k v [] [] []
 | cons {x y e ks vs es} (hk:ch_ E k x=some e.key) (hv:ch_ E v y=some e.val) (t:MapR E k v ks vs es):MapR E k v (x::ks) (y::vs) (e::es)
structure MapIs(E:TE)(k v:Ty)(ks:tL (Den E.S k))(vs:tL (Den E.S v))(es:Array tQ)(clock:Nat):Prop where
 rel:MapR E k v ks vs es.toList
 lt:∀e∈es.toList,e.born<clock
 nd:(es.toList.map (·.born)).Nodup
 ks:ks.Nodup
def Rows(E:TE)(z:Fz)(t:Ty)(xs:tL (Den E.S t))(rows:tL (tL tW)):Prop:=∀(i:Nat) x r,xs[i]? = some x->rows[i]? = some r->RD E z (E.flat t) (E.fl t x) r
theorem Rows.le{t:Ty}{xs:tL (Den E.S t)}{rows:tL (tL tW)}(h:Rows E z t xs rows)(f:z.Le z'):Rows E z' t xs rows:=λi x r h1 j=>(h i x r h1 j).le f
def ObjR(P:tT)(E:TE)(z:Fz)(g:Ga)(w:tS)(id:Nat):Obj E->Prop|.box T cs=>∃l vs,g id=some l/\w.heap[l.b]? = some (.cells vs.toArray T (0,0))/\All2 (RC P E z g) cs vs|.row e t xs foc=>∃l rows,g id=some l/\l.n=xs.length/\l.c=E.size t/\w.ownsRow 0 e l.c (.slice l.A l.n l.cap) l.n rows.flatten/\rows.length=l.n/\(∀r∈rows,r.length=l.c)/\Rows E z t xs rows/\∀p∈foc,ah_ xs p.2.1=some p.2.2/\∃lq o,g p.1=some lq/\l.A=some ⟨lq.b,o,none⟩/\lq.n=o+p.2.1.toNat*l.c/\lq.ix=p.2.1|.fr t xs=>∃l rows,g id=some l/\l.n=xs.length/\l.c=E.size t/\SlF z.F l.c l.A l.n rows z.w/\l.n<=l.cap/\Rows E z t xs rows|.fb t x=>∃l r,g id=some l/\z.F l.b/\RD E z (E.flat t) (E.fl t x) r/\∀j u,r[j]? = some u->z.w.cell? ⟨l.b,j,none⟩=some u|.map _ k v ks vs foc=>∃l es clock,g id=some l/\w.heap[l.b]? = some (.map es clock)/\MapIs E k v ks vs es clock/\∀p∈foc,∃lq,∃i:Nat,∃e:tQ,g p.1=some lq/\es.toList[i]? = some e/\e.born=lq.n/\ks[i]? = some p.2
def fpO{E:TE}(g:Ga)(id:Nat):Obj E->Nat->Prop|.box ..,k=>∃l,g id=some l/\k=l.b|.row ..,k=>∃l a,g id=some l/\l.A=some a/\k=a.block|.fr ..,_=>False|.fb ..,_=>False|.map ..,k=>∃l,g id=some l/\k=l.b
theorem ObjR.loc{id:Nat}{o:Obj E}(h:ObjR P E z g w id o):∃l,g id=some l:=by
 cases o with
 | box T cs=>obtain⟨l,_,h1,_⟩:=h;exact⟨l,h1⟩
 | row e t xs foc=>obtain⟨l,_,h1,_⟩:=h;exact⟨l,h1⟩
 | fr t xs=>obtain⟨l,_,h1,_⟩:=h;exact⟨l,h1⟩
 | fb t x=>obtain⟨l,_,h1,_⟩:=h;exact⟨l,h1⟩
 | map T k v ks vs foc=>obtain⟨l,_,_,h1,_⟩:=h;exact⟨l,h1⟩
theorem hu_{id:Nat}{o:Obj E}{k:Nat}(h:∃l,g id=some l)(q:g.Le g'):fpO g' id o k↔fpO g id o k:=by
 obtain⟨l,p⟩:=h;have m:=q _ _ p;cases o with
 | box T cs=>exact⟨λ⟨f,h1,j⟩=>⟨f,by rw[m]at h1;rw[p];exact h1,j⟩,λ⟨f,h1,j⟩=>⟨f,q _ _ h1,j⟩⟩
 | row e t xs foc=>exact⟨λ⟨f,a,h1,j⟩=>⟨f,a,by rw[m]at h1;rw[p];exact h1,j⟩,λ⟨f,a,h1,j⟩=>⟨f,a,q _ _ h1,j⟩⟩
 | fr t xs=>exact Iff.rfl
 | fb t x=>exact Iff.rfl
 | map T k v ks vs foc=>exact⟨λ⟨f,h1,j⟩=>⟨f,by rw[m]at h1;rw[p];exact h1,j⟩,λ⟨f,h1,j⟩=>⟨f,q _ _ h1,j⟩⟩
theorem ObjR.lt{id:Nat}{o:Obj E}(h:ObjR P E z g w id o){k:Nat}(p:fpO g id o k):k<w.heap.size:=by
 cases o with
 | box T cs=>
  obtain⟨l,vs,h1,j,_⟩:=h;obtain⟨q,f,rfl⟩:=p;rw[h1]at f;obtain rfl:=qSj f;rcases qb l.b w.heap.size with m|m
  .exact m
  .rw[qi m]at j;cases j
 | row e t xs foc=>
  obtain⟨l,rows,h1,_,_,j,_⟩:=h;obtain⟨q,a,f,s,rfl⟩:=p;rw[h1]at f;obtain rfl:=qSj f;exact(World.ownsRow.lt j a.block (by rw[s];rfl)).2
 | fr t xs=>exact p.elim
 | fb t x=>exact p.elim
 | map T k v ks vs foc=>
  obtain⟨l,es,c,h1,j,_⟩:=h;obtain⟨q,f,rfl⟩:=p;rw[h1]at f;obtain rfl:=qSj f;rcases qb l.b w.heap.size with m|m
  .exact m
  .rw[qi m]at j;cases j
theorem ObjR.keep{id:Nat}{o:Obj E}(h:ObjR P E z g w id o)(s:z.Le z')(q:g.Le g')(F:∀k,fpO g id o k->w'.heap[k]? = w.heap[k]?):ObjR P E z' g' w' id o:=by
 cases o with
 | box T cs=>
  obtain⟨l,vs,h1,f,m⟩:=h;exact⟨l,vs,q _ _ h1,by rw[F _ ⟨l,h1,rfl⟩];exact f,m.mono λ_ _ h=>RC.le h s q⟩
 | row e t xs foc=>
  obtain⟨l,rows,h1,D,G,f,m,y,M,J⟩:=h;refine⟨l,rows,q _ _ h1,D,G,⟨f.1,?_⟩,m,y,M.le s,λp C=>let ⟨h7,lq,o,h8,h9⟩:=J p C;⟨h7,lq,o,q _ _ h8,h9⟩⟩;rcases f.2 with h'|⟨b,cap',cur,O,Y,V,r⟩
  .exact .inl h'
  .refine .inr ⟨b,cap',cur,O,Y,?_,r⟩;injection O with Z;rw[F b ⟨l,_,h1,Z,rfl⟩];exact V
 | fr t xs=>
  obtain⟨l,rows,h1,D,G,f,m,y⟩:=h;exact⟨l,rows,q _ _ h1,D,G,SlF.le f s,m,y.le s⟩
 | fb t x=>
  obtain⟨l,r,h1,f,m,y⟩:=h;exact⟨l,r,q _ _ h1,(s _ f).1,m.le s,λj u U=>(World.cell?_of_block (w:=z.w) (s _ f).2).trans (y j u U)⟩
 | map T k v ks vs foc=>
  obtain⟨l,es,c,h1,f,m,y⟩:=h;exact⟨l,es,c,q _ _ h1,by rw[F _ ⟨l,h1,rfl⟩];exact f,m,λp C=>let ⟨lq,i,e,M,J⟩:=y p C;⟨lq,i,e,q _ _ M,J⟩⟩
def Glo(E:TE)(z:Fz):Prop:=∀n t x,E.gl n=some ⟨t,x⟩->z.F n/\∃r,RD E z (E.flat t) (E.fl t x) r/\(∀j u,r[j]? = some u->z.w.cell? ⟨n,j,none⟩=some u)/\∃e c,z.w.heap[n]? = some (.cells r.toArray e c)
theorem Glo.le(h:Glo E z)(f:z.Le z'):Glo E z':=λn t x e=>by
 obtain⟨h1,r,s,q,e,c,p⟩:=h n t x e;exact⟨(f n h1).1,r,s.le f,λj u m=>(World.cell?_of_block (w:=z.w) (f n h1).2).trans (q j u m),e,c,(f n h1).2.trans p⟩
structure HR(P:tT)(E:TE)(Bs:tL Nat)(F0:Nat->Prop)(w0 w:tS)(z:Fz)(g:Ga)(H:Nat->tO (Obj E)):Prop where
 chg:Chg Bs w0 w
 hold:∀id o,H id=some o->ObjR P E z g w id o
 own:∀id o k,H id=some o->fpO g id o k->w0.heap.size<=k\/k∈Bs
 apart:∀id id' o o' k,id≠id'->H id=some o->H id'=some o'->fpO g id o k->¬fpO g id' o' k
 fz:z.In w
 fz0:∀k,z.F k->F0 k\/w0.heap.size<=k\/k∈Bs
 fza:∀id o k,H id=some o->fpO g id o k->¬z.F k
 gl:Glo E z
section
variable{Bs:tL Nat}{F0:Nat->Prop}{H H':Nat->tO (Obj E)}
theorem HR.size(h:HR P E Bs F0 w0 w z g H):w0.heap.size<=w.heap.size:=h.chg.grow.size
theorem HR.less(h:HR P E Bs F0 w0 w z g H)(f:∀i o,H' i=some o->H i=some o):HR P E Bs F0 w0 w z g H':=
 ⟨h.chg,λi o e=>h.hold i o (f i o e),λi o k e=>h.own i o k (f i o e),λi j o p k m e e'=>h.apart i j o p k m (f i o e) (f j p e'),h.fz,h.fz0,λi o k e=>h.fza i o k (f i o e),h.gl⟩
theorem HR.ext(h:HR P E Bs F0 w0 w z g H)(hx:Ext w w'):HR P E Bs F0 w0 w' z g H:=by
 have j:=hx.below;refine⟨⟨h.chg.grow.trans (Grow.of_below j),λk f m=>(j.block k (zS f h.size)).trans (h.chg.block k f m)⟩,λi o e=>?_,h.own,h.apart,h.fz.ext hx,h.fz0,h.fza,h.gl⟩;exact(h.hold i o e).keep (Fz.Le.refl z) (Ga.Le.refl g) λk f=>j.block k ((h.hold i o e).lt f)
theorem HR.turn(h:HR P E Bs F0 w0 w z g H)(hg:g.Le g'){i i':Nat}{o':Obj E}{C:Nat->Prop}(hC:∀k,C k->∃o,H i=some o/\fpO g i o k)
  (hb:Grow w w') (Z:∀k,k<w.heap.size->¬C k->w'.heap[k]? = w.heap[k]?) (ho:ObjR P E z g' w' i' o') (D:∀k,fpO g' i' o' k->C k\/w.heap.size<=k)
  (Y:∀j o,H' j=some o->(j=i'/\o=o')\/(j≠i'/\(j≠i\/∀k,¬C k)/\H j=some o)):HR P E Bs F0 w0 w' z g' H':=by
 have bp_:∀k,C k->w0.heap.size<=k\/k∈Bs:=λk G=>by obtain⟨o,h1,u⟩:=hC k G;exact h.own i o k h1 u
 have far:∀j o k,(j≠i\/∀k,¬C k)->H j=some o->fpO g j o k->¬C k:=λj o k U e D G=>by
  rcases U with U|U
  .obtain⟨p,h1,u⟩:=hC k G;exact h.apart j i o p k U e h1 D u
  .exact U k G
 have fzC:∀k,z.F k->¬C k:=λk x G=>by obtain⟨o,h1,u⟩:=hC k G;exact h.fza i o k h1 u x
 have lt:∀j o k,H j=some o->fpO g j o k->k<w.heap.size:=λj o k e D=>(h.hold j o e).lt D
 have fle:∀j o k,H j=some o->(fpO g' j o k↔fpO g j o k):=λj o k e=>hu_ (h.hold j o e).loc hg
 refine⟨⟨h.chg.grow.trans hb,λk O M=>(Z k (zS O h.size) λG=>?_).trans (h.chg.block k O M)⟩,λj o e=>?_,λj o k e f=>?_,λj J o p k M e e' f m=>?_,λk x=>?_,h.fz0,λj o k e f x=>?_,h.gl⟩
 .rcases bp_ k G with h1|h1
  .omega
  .exact M h1
 .rcases Y j o e with⟨rfl,rfl⟩|⟨_,u,q⟩
  .exact ho
  .exact(h.hold j o q).keep (Fz.Le.refl z) hg λk V=>Z k (lt j o k q V) (far j o k u q V)
 .rcases Y j o e with⟨rfl,rfl⟩|⟨_,u,q⟩
  .rcases D k f with h1|h1
   .exact bp_ k h1
   .exact .inl (qN h.size h1)
  .exact h.own j o k q ((fle j o k q).1 f)
 .rcases Y j o e with⟨rfl,rfl⟩|⟨h1,u,q⟩<;>rcases Y J p e' with⟨rfl,rfl⟩|⟨ZY,ZZ,s⟩
  .exact M rfl
  .have m:=(fle J p k s).1 m;rcases D k f with y|y
   .exact far J p k ZZ s m y
   .have:=lt J p k s m;omega
  .have f:=(fle j o k q).1 f;rcases D k m with y|y
   .exact far j o k u q f y
   .have:=lt j o k q f;omega
  .exact h.apart j J o p k M q s ((fle j o k q).1 f) ((fle J p k s).1 m)
 .have:=h.fz k x;exact⟨zS this.1 hb.size,(Z k this.1 (fzC k x)).trans this.2⟩
 .rcases Y j o e with⟨rfl,rfl⟩|⟨_,u,q⟩
  .rcases D k f with y|y
   .exact fzC k x y
   .have:=(h.fz k x).1;omega
  .exact h.fza j o k q ((fle j o k q).1 f) x
theorem HR.add(h:HR P E Bs F0 w0 w z g H)(hx:Ext w w'){i:Nat}{l:Loc}{o:Obj E}(hi:g i=none)(q:ObjR P E z (g.put i l) w' i o)(s:∀k,fpO (g.put i l) i o k->w.heap.size<=k)
  (u:∀j p,H' j=some p->(j=i/\p=o)\/(j≠i/\H j=some p)):HR P E Bs F0 w0 w' z (g.put i l) H':=by
 have m:=hx.below;refine h.turn (Ga.le_put hi) (i:=i) (i':=i) (C:=λ_=>False) (λ_ h=>h.elim) (Grow.of_below m) (λk f _=>m.block k f) q (λk f=>.inr (s k f)) λj p e=>?_
 rcases u j p e with h1|⟨h1,x⟩
 .exact .inl h1
 .exact .inr ⟨h1,.inr λ_ h=>h,x⟩
def Fz.grow(z:Fz)(F:Nat->Prop)(w:tS):Fz:=⟨λk=>z.F k\/F k,w⟩
theorem Fz.In.grow_le{z:Fz}{w:tS}(h:z.In w)(F:Nat->Prop):z.Le (z.grow F w):=λk f=>⟨.inl f,(h k f).2⟩
theorem HR.freeze(h:HR P E Bs F0 w0 w z g H){i:Nat}{e:tA}{t:Ty}{xs:tL (Den E.S t)}{foc:tL (Nat×Int×Den E.S t)}(hi:H i=some (.row e t xs foc))
  (C:∀j o,H' j=some o->(j=i/\o = .fr t xs)\/(j≠i/\H j=some o)):HR P E Bs F0 w0 w (z.grow (λk=>fpO g i (.row e t xs foc) k) w) g H':=by
 have D:=h.fz.grow_le (λk=>fpO g i (.row e t xs foc) k);refine⟨h.chg,λj o ej=>?_,λj o k ej f=>?_,λj G o p k y ej ej' f s=>?_,λk m=>?_,λk m=>?_,λj o k ej f m=>?_,h.gl.le D⟩
 .rcases C j o ej with⟨rfl,rfl⟩|⟨_,q⟩
  .obtain⟨l,rows,h1,y,M,J,q,Z,Y,_⟩:=h.hold _ _ hi;have hr:=fl_ (w:=w) (e:=e) (cap:=l.cap) ⟨J,q,Z⟩;refine⟨l,rows,h1,y,M,⟨hr.1,λx=>?_⟩,(Own.cap_le J).1,Y.le D⟩;obtain⟨b,off,V,⟨a,U,O⟩,u⟩:=hr.2 x;exact⟨b,off,V,.inr ⟨l,a,h1,U,O⟩,u⟩
  .exact(h.hold j o q).keep D (Ga.Le.refl g) λ_ _=>rfl
 .rcases C j o ej with⟨rfl,rfl⟩|⟨_,q⟩
  .exact f.elim
  .exact h.own j o k q f
 .rcases C j o ej with⟨rfl,rfl⟩|⟨_,q⟩
  .exact f
  .rcases C G p ej' with⟨rfl,rfl⟩|⟨_,F⟩
   .exact s
   .exact h.apart j G o p k y q F f s
 .rcases m with m|m
  .exact⟨(h.fz k m).1,rfl⟩
  .exact⟨(h.hold _ _ hi).lt m,rfl⟩
 .rcases m with m|m
  .exact h.fz0 k m
  .exact .inr (h.own _ _ k hi m)
 .rcases C j o ej with⟨rfl,rfl⟩|⟨y,q⟩
  .exact f
  .rcases m with m|m
   .exact h.fza j o k q f m
   .exact h.apart j i o _ k y q hi f m
theorem HR.freezeBox(h:HR P E Bs F0 w0 w z g H){i:Nat}{T:tA}{cs:tL (SC E)}{t:Ty}{x:Den E.S t}(hi:H i=some (.box T cs))(O:∀vs,All2 (RC P E z g) cs vs->RD E z (E.flat t) (E.fl t x) vs)
  (C:∀j o,H' j=some o->(j=i/\o = .fb t x)\/(j≠i/\H j=some o)):HR P E Bs F0 w0 w (z.grow (λk=>fpO g i (.box T cs) k) w) g H':=by
 have D:=h.fz.grow_le (λk=>fpO g i (.box T cs) k);refine⟨h.chg,λj o ej=>?_,λj o k ej f=>?_,λj J o p k F ej ej' f y=>?_,λk m=>?_,λk m=>?_,λj o k ej f m=>?_,h.gl.le D⟩
 .rcases C j o ej with⟨rfl,rfl⟩|⟨_,s⟩
  .obtain⟨l,vs,h1,U,s⟩:=h.hold _ _ hi;refine⟨l,vs,h1,.inr ⟨l,h1,rfl⟩,(O vs s).le D,λq u M=>?_⟩;show w.cell? _=_;rw[cell_of_row w l.b q vs.toArray T (0,0) U];simpa using M
  .exact(h.hold j o s).keep D (Ga.Le.refl g) λ_ _=>rfl
 .rcases C j o ej with⟨rfl,rfl⟩|⟨_,s⟩
  .exact f.elim
  .exact h.own j o k s f
 .rcases C j o ej with⟨rfl,rfl⟩|⟨_,s⟩
  .exact f
  .rcases C J p ej' with⟨rfl,rfl⟩|⟨_,G⟩
   .exact y
   .exact h.apart j J o p k F s G f y
 .rcases m with m|m
  .exact⟨(h.fz k m).1,rfl⟩
  .exact⟨(h.hold _ _ hi).lt m,rfl⟩
 .rcases m with m|m
  .exact h.fz0 k m
  .exact .inr (h.own _ _ k hi m)
 .rcases C j o ej with⟨rfl,rfl⟩|⟨F,s⟩
  .exact f
  .rcases m with m|m
   .exact h.fza j o k s f m
   .exact h.apart j i o _ k F s hi f m
end
end
end Rt
end Go
