/-
 What the statements of this seat hang on,part 1: Base Sl Rt Ops Mem Mem2 Flow Way Go Go2 Mp Ra Rb.
-/
import Derived.WalkKit
import Derived.WalkSpells
import Derived.WalkLawsBesides
import Derived.Handy
import Derived.Deep.QuietTactic
import Derived.BigQuiet
import Derived.BigGuardPart
import Derived.Lib.Hide
import Derived.CellFam
import Derived.Laws.AppendOwnNone
import Derived.Laws.BytesString
import Derived.Deep.LoopGhost
import Derived.Maps.AppendAt
import Derived.ChangeKeysEq
import Derived.MapKept
namespace Go
abbrev tO.{u}:Type u->Type u:=Option
abbrev tL.{u}:Type u->Type u:=List
abbrev tV:=Bool
abbrev tW:=Value
abbrev tS:=World
abbrev tT:=Program
abbrev tN:=TypeId
abbrev tI:=Operand
abbrev tP:=Oper
abbrev tQ:=ByteArray
abbrev tR:=MapEntry
end Go
namespace Go
theorem qQ:type_of% @List.length_nil:=@List.length_nil
theorem qZ:type_of% @cond_false:=@cond_false
theorem qK:type_of% @decide_eq_true:=@decide_eq_true
theorem qV:type_of% @decide_eq_false:=@decide_eq_false
theorem qW:type_of% @cond_true:=@cond_true
theorem qY:type_of% @List.getElem?_eq_getElem:=@List.getElem?_eq_getElem
theorem qX:type_of% @beq_eq_false_iff_ne:=@beq_eq_false_iff_ne
theorem qA:type_of% @List.length_take:=@List.length_take
theorem qC:type_of% @List.length_drop:=@List.length_drop
theorem qD:type_of% @List.mem_cons:=@List.mem_cons
theorem qE:type_of% @Nat.le_refl:=@Nat.le_refl
theorem qF:type_of% @List.mem_append:=@List.mem_append
theorem qG:type_of% @List.mem_cons_of_mem:=@List.mem_cons_of_mem
theorem qH:type_of% @List.mem_singleton:=@List.mem_singleton
theorem qL:type_of% @if_pos:=@if_pos
theorem qM:type_of% @Bool.false_eq_true:=@Bool.false_eq_true
theorem qN:type_of% @Bool.not_true:=@Bool.not_true
theorem qO:type_of% @Nat.zero_le:=@Nat.zero_le
theorem qP:type_of% @if_neg:=@if_neg
theorem qR:type_of% @Nat.lt_or_ge:=@Nat.lt_or_ge
theorem qS:type_of% @List.append_assoc:=@List.append_assoc
theorem qT:type_of% @List.mem_cons_self:=@List.mem_cons_self
theorem qa:type_of% @congrArg:=@congrArg
theorem qb:type_of% @List.take_length:=@List.take_length
theorem qc:type_of% @List.cons_append:=@List.cons_append
theorem qe:type_of% @List.getElem?_eq_none:=@List.getElem?_eq_none
theorem qf:type_of% @Bool.not_false:=@Bool.not_false
theorem qg:type_of% @Prod.mk.injEq:=@Prod.mk.injEq
theorem qh:type_of% @Nat.zero_add:=@Nat.zero_add
theorem qi:type_of% @List.drop_eq_getElem_cons:=@List.drop_eq_getElem_cons
theorem qj:type_of% @List.getElem?_eq_some_iff:=@List.getElem?_eq_some_iff
theorem qk:type_of% @List.getElem_mem:=@List.getElem_mem
theorem ql:type_of% @List.length_map:=@List.length_map
theorem qm:type_of% @Bool.true_and:=@Bool.true_and
theorem qn:type_of% @beq_iff_eq:=@beq_iff_eq
theorem qo:type_of% @Bool.not_eq_true':=@Bool.not_eq_true'
theorem qq:type_of% @Array.length_toList:=@Array.length_toList
theorem qr:type_of% @List.take_of_length_le:=@List.take_of_length_le
theorem qt:type_of% @Int.le_refl:=@Int.le_refl
theorem qu:type_of% @Nat.mul_le_mul_right:=@Nat.mul_le_mul_right
theorem qw:type_of% @List.mem_of_getElem?:=@List.mem_of_getElem?
theorem qx:type_of% @List.all_eq_true:=@List.all_eq_true
theorem qy:type_of% @bne_self_eq_false:=@bne_self_eq_false
theorem qz:type_of% @List.pairwise_cons:=@List.pairwise_cons
theorem zQ:type_of% @Nat.le_trans:=@Nat.le_trans
theorem zZ:type_of% @List.getElem?_append_right:=@List.getElem?_append_right
theorem zJ:type_of% @Array.getElem?_eq_none:=@Array.getElem?_eq_none
theorem zK:type_of% @List.mem_of_mem_take:=@List.mem_of_mem_take
theorem zV:type_of% @beq_self_eq_true:=@beq_self_eq_true
theorem zW:type_of% @List.getElem?_drop:=@List.getElem?_drop
theorem zY:type_of% @if_false:=@if_false
theorem zX:type_of% @Bool.false_or:=@Bool.false_or
theorem zA:type_of% @Nat.eq_zero_or_pos:=@Nat.eq_zero_or_pos
theorem zB:type_of% @List.contains_cons:=@List.contains_cons
theorem zC:type_of% @List.cons_ne_nil:=@List.cons_ne_nil
theorem zD:type_of% @Nat.le_of_ble_eq_true:=@Nat.le_of_ble_eq_true
theorem zF:type_of% @List.getElem?_map:=@List.getElem?_map
theorem zG:type_of% @Nat.add_assoc:=@Nat.add_assoc
theorem zH:type_of% @List.map_cons:=@List.map_cons
theorem zI:type_of% @List.length_eq_zero_iff:=@List.length_eq_zero_iff
theorem zL:type_of% @Bool.eq_iff_iff:=@Bool.eq_iff_iff
theorem zM:type_of% @List.takeWhile_cons:=@List.takeWhile_cons
theorem zN:type_of% @Array.toArray_toList:=@Array.toArray_toList
theorem zO:type_of% @List.drop_zero:=@List.drop_zero
theorem zP:type_of% @List.append_nil:=@List.append_nil
theorem zR:type_of% @List.getElem?_append_left:=@List.getElem?_append_left
theorem zS:type_of% @Bool.or_eq_false_iff:=@Bool.or_eq_false_iff
theorem zT:type_of% @if_true:=@if_true
theorem zU:type_of% @List.take_append_of_le_length:=@List.take_append_of_le_length
theorem za:type_of% @Bool.or_false:=@Bool.or_false
theorem zd:type_of% @Bool.false_and:=@Bool.false_and
theorem ze:type_of% @List.drop_length:=@List.drop_length
theorem zf:type_of% @Nat.lt_of_lt_of_le:=@Nat.lt_of_lt_of_le
theorem zg:type_of% @List.flatten_append:=@List.flatten_append
theorem zh:type_of% @Bool.or_eq_true:=@Bool.or_eq_true
theorem zi:type_of% @List.drop_eq_nil_of_le:=@List.drop_eq_nil_of_le
theorem zj:type_of% @List.take_append_drop:=@List.take_append_drop
theorem zk:type_of% @List.length_singleton:=@List.length_singleton
theorem zl:type_of% @List.contains_iff_mem:=@List.contains_iff_mem
theorem zm:type_of% @Array.getElem?_modify:=@Array.getElem?_modify
theorem zn:type_of% @Option.map_some:=@Option.map_some
theorem zp:type_of% @List.getElem?_take:=@List.getElem?_take
theorem zq:type_of% @List.length_pos_iff:=@List.length_pos_iff
theorem zr:type_of% @Bool.and_false:=@Bool.and_false
theorem zt:type_of% @bne_iff_ne:=@bne_iff_ne
theorem zu:type_of% @Option.getD_some:=@Option.getD_some
theorem zw:type_of% @List.flatten_cons:=@List.flatten_cons
theorem zx:type_of% @List.take_succ_cons:=@List.take_succ_cons
theorem zy:type_of% @List.nil_append:=@List.nil_append
theorem zz:type_of% @List.drop_drop:=@List.drop_drop
theorem jQ:type_of% @Nat.ble_eq_true_of_le:=@Nat.ble_eq_true_of_le
theorem jZ:type_of% @List.map_append:=@List.map_append
theorem jJ:type_of% @List.mem_map:=@List.mem_map
theorem jK:type_of% @List.getElem?_set:=@List.getElem?_set
theorem jV:type_of% @List.eq_nil_of_length_eq_zero:=@List.eq_nil_of_length_eq_zero
theorem jW:type_of% @List.mem_iff_getElem?:=@List.mem_iff_getElem?
theorem jY:type_of% @List.eq_of_mem_replicate:=@List.eq_of_mem_replicate
theorem jX:type_of% @Bool.and_self:=@Bool.and_self
theorem jA:type_of% @List.size_toArray:=@List.size_toArray
theorem jB:type_of% @List.map_nil:=@List.map_nil
theorem jC:type_of% @List.drop_take:=@List.drop_take
theorem jD:type_of% @List.contains_nil:=@List.contains_nil
theorem jE:type_of% @Bool.or_true:=@Bool.or_true
theorem jF:type_of% @List.length_set:=@List.length_set
theorem jG:type_of% @Array.getElem?_setIfInBounds_ne:=@Array.getElem?_setIfInBounds_ne
theorem jH:type_of% @List.mem_of_find?_eq_some:=@List.mem_of_find?_eq_some
theorem jI:type_of% @Bool.and_eq_false_iff:=@Bool.and_eq_false_iff
theorem jL:type_of% @List.mem_flatten:=@List.mem_flatten
theorem jM:type_of% @Bool.true_or:=@Bool.true_or
theorem jN:type_of% @Int.toNat_zero:=@Int.toNat_zero
theorem jO:type_of% @List.getElem?_replicate:=@List.getElem?_replicate
theorem jP:type_of% @Nat.add_zero:=@Nat.add_zero
theorem jR:type_of% @List.all_cons:=@List.all_cons
theorem jS:type_of% @Bool.false_ne_true:=@Bool.false_ne_true
theorem jT:type_of% @List.length_replicate:=@List.length_replicate
theorem jU:type_of% @List.findIdx?_eq_some_iff_getElem:=@List.findIdx?_eq_some_iff_getElem
theorem ja:type_of% @List.getElem?_eq_none_iff:=@List.getElem?_eq_none_iff
theorem jb:type_of% @List.find?_some:=@List.find?_some
theorem jc:type_of% @Nat.succ_mul:=@Nat.succ_mul
theorem jd:type_of% @Nat.sub_self:=@Nat.sub_self
theorem je:type_of% @List.ext_getElem?:=@List.ext_getElem?
theorem jf:type_of% @List.length_take_le:=@List.length_take_le
theorem jg:type_of% @decide_eq_decide:=@decide_eq_decide
theorem jh:type_of% @Option.getD_none:=@Option.getD_none
theorem ji:type_of% @Nat.min_eq_left:=@Nat.min_eq_left
theorem jj:type_of% @List.take_zero:=@List.take_zero
theorem jk:type_of% @List.mem_of_mem_drop:=@List.mem_of_mem_drop
theorem jl:type_of% @List.getElem?_set_ne:=@List.getElem?_set_ne
theorem jm:type_of% @Array.getElem?_eq_some_iff:=@Array.getElem?_eq_some_iff
theorem jn:type_of% @Nat.mul_comm:=@Nat.mul_comm
theorem jo:type_of% @List.not_mem_nil:=@List.not_mem_nil
theorem jp:type_of% @List.any_cons:=@List.any_cons
theorem jq:type_of% @of_decide_eq_false:=@of_decide_eq_false
theorem jr:type_of% @List.find?_eq_none:=@List.find?_eq_none
theorem jt:type_of% @List.getElem?_cons_zero:=@List.getElem?_cons_zero
theorem ju:type_of% @List.getElem?_toArray:=@List.getElem?_toArray
theorem jv:type_of% @Nat.sub_mul:=@Nat.sub_mul
theorem jw:type_of% @Nat.div_lt_of_lt_mul:=@Nat.div_lt_of_lt_mul
theorem jx:type_of% @Nat.add_mul:=@Nat.add_mul
end Go
namespace Go
theorem qSj{α:Type _}{a b:α}(h:some a=some b):a=b:=Option.some.inj h
theorem qBs{α β:Type _}(a:α)(f:α->tO β):(some a).bind f=f a:=rfl
theorem qAn(a b:tV):((a&&b)=true)=(a=true/\b=true):=Bool.and_eq_true a b
theorem qDe{p:Prop}[Decidable p]:(decide p=true)=p:=decide_eq_true_eq
theorem qDf{p:Prop}{_:Decidable p}:decide p=false↔¬p:=decide_eq_false_iff_not
theorem qNb{n m:Nat}(h:Nat.beq n m=true):n=m:=Nat.eq_of_beq_eq_true h
theorem qLa{α:Type _}{l m:tL α}:(l++m).length=l.length+m.length:=List.length_append
theorem qLc{α:Type _}{a:α}{l:tL α}:(a::l).length=l.length+1:=rfl
theorem qOi{α:Type _}(a b:α):(some a=some b)=(a=b):=Option.some.injEq a b
theorem qTn(n:Nat):(n:Int).toNat=n:=Int.toNat_natCast n
open Go.RowKit
def World.ext(w:tS)(X:Array Obj)(d:Nat):tS:={ w with heap:=w.heap++X,drawn:=d }
section
variable(w:tS)(X:Array Obj)(d:Nat)
@[go_sem,simp] theorem World.size_ext:(w.ext X d).heap.size=w.heap.size+X.size:=by simp[World.ext]
theorem World.heap_ext(k:Nat)(h:k<w.heap.size):(w.ext X d).heap[k]? = w.heap[k]? := by
 show(w.heap++X)[k]? = _;rw[Array.getElem?_append_left h]
@[go_sem,simp] theorem World.ext_ext (Y:Array Obj) (e:Nat):(w.ext X d).ext Y e=w.ext (X++Y) e:=by
 simp[World.ext,Array.append_assoc]
theorem World.alloc_ext(o:Obj):(w.ext X d).alloc o=w.ext (X.push o) d:=by
 show({ w with heap:=(w.heap++X).push o,drawn:=d }:tS)=_;simp[World.ext,←Array.push_append]
theorem World.self_as_ext:w=w.ext #[] w.drawn:=by simp only[World.ext,Array.append_empty]
theorem World.drew_as_ext:w.drew=w.ext #[] (w.drawn+1):=by simp only[World.ext,Array.append_empty];rfl
theorem World.below_ext:Below w.heap.size w (w.ext X d) :=
 ⟨rfl,rfl,rfl,by simp,λk f=>World.heap_ext w X d k f⟩
end
theorem RowKit.Below.toExt{w w':tS}(h:Below w.heap.size w w'):∃X d,w'=w.ext X d:=by
 refine⟨w'.heap.extract w.heap.size w'.heap.size,w'.drawn,?_⟩;obtain⟨s,q,p,x,j⟩:=h;cases w' with
 | mk heap tape drawn os output =>
  simp only at s q p x j;simp only[World.ext,s,q,p]
  congr 1
  apply Array.ext_getElem?;intro k;by_cases f:k<w.heap.size
  .rw[Array.getElem?_append_left f];exact j k f
  .rw[Array.getElem?_append_right (by omega),Array.getElem?_extract];by_cases u:k<heap.size
   .rw[qL (by omega)];congr 1;omega
   .rw[qP (by omega),zJ (by omega)]
def Ext(w w':tS):Prop:=∃X d,w'=w.ext X d
theorem Ext.refl(w:tS):Ext w w:=⟨#[],w.drawn,World.self_as_ext w⟩
theorem Ext.trans{a b c:tS}(h:Ext a b)(k:Ext b c):Ext a c:=by
 obtain⟨X,d,rfl⟩:=h;obtain⟨Y,e,rfl⟩:=k;exact⟨X++Y,e,by simp⟩
theorem Ext.alloc{a b:tS}(h:Ext a b)(o:Obj):Ext a (b.alloc o):=by
 obtain⟨X,d,rfl⟩:=h;exact⟨_,_,World.alloc_ext _ _ _ o⟩
theorem Ext.below{a b:tS}(h:Ext a b):Below a.heap.size a b:=by
 obtain⟨X,d,rfl⟩:=h;exact World.below_ext a X d
theorem Ext.of_below{a b:tS}(h:Below a.heap.size a b):Ext a b:=h.toExt
section
variable{P:tT}{ops:Array tP}{md:Region.Mode}{Q:Exit->Act->tS->Prop}
def Oper.quietUponX(P:tT)(w:tS)(v:tW):Result Next->Prop | .ok (.value u) w'=>w'=w/\u=v | .ok .skip w'=>w'=w/\v=undef | .ok (.enter f args) w'=>w'=w/\Calls P f args w (λe h=>e = .returned v/\Ext w h)|_=>False
def cp_(Q:Exit->Act->tS->Prop):Exit->Act->tS->Prop:=λe _ _=>e = .outgrown/\LetsOut Q
theorem ge_(h:LetsOut (cp_ Q)):LetsOut Q:=let ⟨_,_,_,h⟩:=h;h
theorem Oper.wp_out{o:tP}{a:Act}{w:tS}{K K':Act->tS->Prop}{Q Q':Exit->Act->tS->Prop}(p:∀a w,K a w->K' a w)
  (q:∀ch a w,Q (.panic ch) a w->Q' (.panic ch) a w) (s:LetsOut Q->LetsOut Q') (h:o.wp P a w K Q):o.wp P a w K' Q':=by
 unfold Oper.wp at *
 generalize(execOp a.eval o).run P w=r at *
 cases r with
 | ok n w' =>
  cases n<;>simp only[Oper.upon]at h ⊢ <;>
   first
    | exact p _ _ h
    | exact Calls.mono h (λe j f=>by
      cases e with
      | returned u=>exact p _ _ f
      | panicked chain=>exact q _ _ _ f
      | outgrown=>exact s f)
    | exact Rows.mono h (λu j f=>p _ _ f)
 | halt x w'=>cases x<;>simp only[Oper.upon]at h ⊢<;>first|exact h|exact q _ _ _ h
theorem wpOp_out {i:Nat} {K:Act->tS->Prop} {a:Act} {w:tS} (f:wpOp P ops (cp_ Q) i K a w):wpOp P ops Q i K a w:=by
 unfold wpOp at *
 split
 .simpa[*]using f
 .rename_i o s;simp only[s]at f;split
  .rename_i j;simp only[j,zT]at f;refine f.imp (λh => ?_) (λh=>⟨h.1,ge_ h.2⟩);unfold Oper.wp at *
   generalize(execOp a.eval o).run P w=r at *
   cases r with
   | ok n w' =>
    cases n<;>simp only[Oper.upon]at h ⊢ <;>
     first
      | exact h
      | exact Calls.mono h (λe q p=>by
        cases e with
        | returned u=>exact p
        | panicked chain=>exact absurd p.1 (by simp)
        | outgrown=>exact ge_ p)
   | halt x w'=>cases x<;>simp only[Oper.upon]at h ⊢<;>first|exact h|exact absurd h.1 (by simp)
  .rename_i j;simp only[j]at f;exact f
def dP_(md:Region.Mode)(ops:Array tP):Nat->Nat->Nat->tV
 | 0,_,_=>false
 | n+1,j,i=>match ops[j]? with
  | none=>false
  | some o=>o.after.any λe=>Region.binds md e&&(e.on==i||dP_ md ops n e.on i)
def Closed(md:Region.Mode)(ops:Array tP)(f:Array tV):Prop:=∀j o,ops[j]? = some o->f.getD j false=true->∀e∈o.after,Region.binds md e=true->f.getD e.on false=true
theorem op_{f:Array tV}(y:Closed md ops f):∀(n j i:Nat) (o:tP),ops[j]? = some o->(∀e∈o.after,Region.binds md e=true->f.getD e.on false=true)->dP_ md ops n j i=true->f.getD i false=true
 | 0,_,_,_,_,_,h=>by cases h
 | n+1,j,i,o,C,p,h=>by
  simp only[dP_,C]at h;obtain⟨e,D,s⟩:=Array.any_eq_true'.1 h;simp only[qAn,zh,qn]at s;have x:=p e D s.1;rcases s.2 with rfl|u
  .exact x
  .cases q:ops[e.on]? with
   | none=>cases n<;>simp[dP_,q]at u
   | some o'=>exact op_ y n e.on i o' q (y e.on o' q x) u
theorem dT_{f:Array tV}{i:Nat}(C:Closed md ops f)(hi:i∈Region.ready md ops f):Closed md ops (f.setIfInBounds i true):=by
 intro j o u s e x y;obtain⟨_,oi,q,p⟩:=mem_ready.1 hi;by_cases h:i=j
 .subst h;obtain rfl:o=oi:=qSj (u.symm.trans q);exact getD_set_true (p e x y)
 .rw[getD_set_ne false h]at s;exact getD_set_true (C j o u s e x y)
theorem lm_(n:Nat):Closed md ops (Array.replicate n false):=by
 intro j o _ f;rcases qR j n with h|h
 .simp[h]at f
 .simp[h]at f
attribute [go_sem] Oper.quietUponX
end
theorem Addr.add_mk(b o n:Nat):(⟨b,o,none⟩:Addr).add n=⟨b,o+n,none⟩:=by
 unfold Addr.add;split
 .next h=>subst h;rfl
 .rfl
def SlB(w:tS)(B c:Nat)(A:tO Addr)(n:Nat)(rows:tL (tL tW)):Prop :=
 rows.length=n/\(0<n->∃b off,A=some ⟨b,off,none⟩/\b<B /\
  ∀i r,rows[i]? = some r->r.length=c/\∀j u,r[j]? = some u->w.cell? ⟨b,off+i*c+j,none⟩=some u)
abbrev Own(w:tS)(base:Nat)(e:tN)(c:Nat)(A:tO Addr)(n cap:Nat)(xs:tL tW):Prop:=w.ownsRow base e c (.slice A n cap) n xs
section
variable{w w':tS}{base e c n cap:Nat}{A:tO Addr}{xs:tL tW}{v:tW}
theorem own_form(h:w.ownsRow base e c v n xs):∃A cap,v = .slice A n cap:=by
 rcases h.2 with⟨rfl,rfl⟩|⟨g,cap,cur,rfl,_⟩
 .exact⟨none,0,rfl⟩
 .exact⟨_,_,rfl⟩
theorem Own.cap_le(h:Own w base e c A n cap xs):n<=cap/\cap<=maxLen:=by
 rcases h.2 with⟨p,j⟩|⟨g,cap',cur,q,_,_,p,j,_⟩
 .injection p with _ _ f;subst j;subst f;exact⟨qE _,by unfold maxLen;omega⟩
 .injection q with _ _ f;subst f;exact⟨p,j⟩
theorem fZ_{rows:tL (tL tW)}{c:Nat}(hr:∀r∈rows,r.length=c):∀{i:Nat} {r:tL tW},rows[i]? = some r->∀j u,r[j]? = some u->rows.flatten[i*c+j]? = some u:=by
 induction rows with
 | nil=>intro i r h;simp at h
 | cons x rows y =>
  intro i r h j u f;have s:x.length=c:=hr x (by simp);cases i with
  | zero =>
   simp at h;subst h;rw[zw,Nat.zero_mul,qh,zR (by
    rcases qR j x.length with q|q
    .exact q
    .rw[qe q]at f;cases f)]
   exact f
  | succ i =>
   rw[zw,zZ (by rw[s,jc];omega)];have:=y (λr p=>hr r (qG _ p)) (i:=i) (r:=r) (by simpa using h) j u f;rw[←this,s]
   congr 1
   rw[jc];omega
theorem av_{rows:tL (tL tW)}{c:Nat}(hr:∀r∈rows,r.length=c):rows.flatten.length=rows.length*c:=by
 induction rows with
 | nil=>simp
 | cons x rows f =>
  rw[zw,qLa,hr x (by simp),f λr h=>hr r (qG _ h),qLc,jc];omega
theorem Own.reads{rows:tL (tL tW)}(h:Own w base e c A n cap rows.flatten)(hr:∀r∈rows,r.length=c)(x:rows.length=n):SlB w w.heap.size c A n rows:=by
 refine⟨x,λF => ?_⟩;rcases h.2 with⟨_,D⟩|⟨g,cap',cur,q,_,f,M,D,J,C⟩
 .omega
 .injection q with y _ G;subst y;refine⟨g,0,rfl,?_,λi r hi=>⟨hr r (qw hi),λj u s => ?_⟩⟩
  .rcases qR g w.heap.size with p|p
   .exact p
   .rw[zJ p]at f;cases f
  .rw[qh,cell_of_row w g _ cur e (0,0) f];have:=fZ_ hr hi j u s;rw[←C,zp]at this;split at this
   .simpa using this
   .cases this
end
end Go
namespace Go
namespace Rt
open Go.RowKit
def look(t:Nat):tL (Nat×tW)->tO tW
 | []=>none
 | (u,v)::r=>match Nat.beq t u with
  | true=>some v
  | false=>look t r
structure Env(N:Nat)(a:Act)(env:tL (Nat×tW)):Prop where
 size:a.tmps.size=N
 defers:a.defers=[]
 get:∀t v,look t env=some v->a.tmps[t]? = some v
def opv(env:tL (Nat×tW)):tI->tO tW | .tmp t=>look t env | .const v=>some v | .global g=>some (.pointer (some ⟨g,0,none⟩)) | .func f=>some (.func (.func f) #[] #[])
def Sub(env:tL (Nat×tW)):tL (Nat×tW)->Prop | []=>True|(t,v)::r=>look t env=some v/\Sub env r
section
variable{N:Nat}{a:Act}{env sl:tL (Nat×tW)}
theorem Env.eval(h:Env N a env){x:tI}{v:tW}(j:opv env x=some v):a.eval x=v:=by
 cases x with
 | tmp t=>simp only[opv]at j;simp[Act.eval,h.get t v j]
 | const u=>simpa[opv,Act.eval]using j
 | global g=>simpa[opv,Act.eval]using j
 | func f=>simpa[opv,Act.eval]using j
theorem bv_{t u:Nat}(h:Nat.beq t u=false):t≠u:=by
 intro e;subst e;simp at h
theorem Env.put(h:Env N a env){d:Nat}(q:Nat.blt d N=true)(v:tW):Env N (a.put (some d) v) ((d,v)::env):=by
 have p:d<N:=by simpa using q
 refine⟨by simpa[Act.put]using h.size,h.defers,λt u f => ?_⟩;simp only[look]at f;cases j:Nat.beq t d with
 | true =>
  rw[j]at f;obtain rfl:t=d:=qNb j;simp only[qOi]at f;subst f;simp[Act.put,h.size,p]
 | false =>
  rw[j]at f;have:=h.get t u f;simp only[Act.put];rw[jG (Ne.symm (bv_ j))];exact this
theorem Env.sel(h:Env N a env)(s:Sub env sl):Env N a sl:=by
 refine⟨h.size,h.defers,λt u f => ?_⟩
 induction sl with
 | nil=>simp[look]at f
 | cons p r x =>
  obtain⟨q,y⟩:=p;simp only[look]at f;cases j:Nat.beq t q with
  | true =>
   rw[j]at f;obtain rfl:t=q:=qNb j;simp only[qOi]at f;subst f;exact h.get _ _ s.1
  | false=>rw[j]at f;exact x s.2 f
end
def dH_{α:Type}(P:tT):Sem α->tO α | .pure a=>some a | .program k=>dH_ P (k P)|_=>none
theorem ek_{α:Type}{P:tT}{s:Sem α}{r:α}(h:dH_ P s=some r)(w:tS):s.run P w = .ok r w:=by
 induction s with
 | pure a=>simp only[dH_,qOi]at h;subst h;rfl
 | program k f=>simp only[dH_]at h;simp only[Sem.run];exact f P h
 | _=>simp[dH_]at h
def envρ(env:tL (Nat×tW))(x:tI):tW:=(opv env x).getD undef
def known(env:tL (Nat×tW)):tL tI->tV
 | []=>true
 | x::r=>(match opv env x with|some _=>true|none=>false)&&known env r
def jc_:Op->tV | .select .. => true|_=>false
def evalOp(P:tT)(env:tL (Nat×tW))(o:tP):tO Next:=match known env o.op.operands.toList && !jc_ o.op with|true=>dH_ P (execOp (envρ env) o)|false=>none
theorem oq_{env:tL (Nat×tW)}:∀{l:tL tI},known env l=true->∀x∈l,∃v,opv env x=some v
 | [],_,x,f=>by cases f
 | y::r,h,x,f=>by
  simp only[known,qAn]at h;rcases qD.1 f with rfl|f
  .cases j:opv env x with
   | some v=>exact⟨v,rfl⟩
   | none=>rw[j]at h;simp at h
  .exact oq_ h.2 x f
theorem fu_{P:tT}{N:Nat}{a:Act}{env:tL (Nat×tW)}{o:tP}{r:Next}(s:Env N a env)(h:evalOp P env o=some r)(w:tS) :
  (execOp a.eval o).run P w = .ok r w:=by
 unfold evalOp at h;split at h
 .rename_i f;simp only[qAn,qo]at f;have q:execOp a.eval o=execOp (envρ env) o:=by
   refine execOp_congr o (λcs b e => ?_) λx p => ?_
   .rw[e]at f;simp[jc_]at f
   .obtain⟨v,j⟩:=oq_ f.1 x (by simpa using p);rw[s.eval j];simp[envρ,j]
  rw[q];exact ek_ h w
 .cases h
def gate(ops:tL tP)(env:tL (Nat×tW))(o:tP):tO tV :=
 match o.guard with
 | none=>some true
 | some (j,want)=>match(ops[j]?).bind (·.dst)with
  | none=>none
  | some d=>match look d env with
   | some (.bool b)=>some (b==want)
   | some (.tuple _)=>some false
   | _=>none
theorem jy_{N:Nat}{a:Act}{env:tL (Nat×tW)}{ops:tL tP}{o:tP}{b:tV}(u:Env N a env)(h:gate ops env o=some b) :
  Region.wanted o (yielded ops.toArray a.tmps)=b:=by
 unfold gate at h;unfold Region.wanted;split at h
 .rename_i p;rw[p];simpa using h
 .rename_i j want p;rw[p];simp only;split at h
  .cases h
  .rename_i d s;have q:(ops.toArray[j]?).bind (·.dst)=some d:=by simpa using s
   unfold yielded;rw[q];simp only[qBs];cases f:look d env with
   | none=>rw[f]at h;cases h
   | some x =>
    rw[f]at h;rw[u.get _ _ f];cases x<;>simp only[qOi,reduceCtorEq]at h ⊢
    .subst h;rename_i y;cases y<;>cases want<;>rfl
    .subst h;cases want<;>rfl
section
variable{P:tT}{ops:tL tP}{Q:Exit->Act->tS->Prop}{a:Act}{w w':tS}{rest:tL tP}{o:tP}{N:Nat}{env:tL (Nat×tW)}
theorem gp_(f:Env N a env)(p:gate ops env o=some true)(d:Nat)(q:o.dst=some d)(s:Nat.blt d N=true)(v:tW)(hr:(execOp a.eval o).run P w = .ok (.value v) w')
  (h:∀j,Env N j ((d,v)::env)->wpList P ops.toArray Q rest j w'):wpList P ops.toArray Q (o::rest) a w:=by
 refine wpList_step λK u => ?_
 rw[qL (jy_ f p)];unfold Oper.wp;rw[hr];show K (a.put o.dst v) w';rw[q];exact u _ _ (h _ (f.put s v))
theorem st_skip(q:Env N a env)(f:gate ops env o=some true)(j:o.dst=none)(hr:(execOp a.eval o).run P w = .ok .skip w')
  (h:wpList P ops.toArray Q rest a w'):wpList P ops.toArray Q (o::rest) a w:=by
 refine wpList_step λK p => ?_
 rw[qL (jy_ q f)];unfold Oper.wp;rw[hr];show K (a.put o.dst undef) w';rw[j];exact p _ _ h
theorem im_(f:Env N a env)(q:gate ops env o=some true)(d:Nat)(s:o.dst=some d)(u:Nat.blt d N=true)(v:tW)(p:evalOp P env o=some (.value v))
  (h:∀j,Env N j ((d,v)::env)->wpList P ops.toArray Q rest j w):wpList P ops.toArray Q (o::rest) a w :=
 gp_ f q d s u v (fu_ f p w) h
theorem st_call(p:Env N a env)(u:gate ops env o=some true)(d:Nat)(y:o.dst=some d)(F:Nat.blt d N=true)(f:FuncId)(args:Array tW)(s:evalOp P env o=some (.enter f args))
  (R:tW->tS->Prop) (C:Calls P f args w λe w'=>∃v,e = .returned v/\R v w')
  (h:∀q v w',R v w'->Env N q ((d,v)::env)->wpList P ops.toArray Q rest q w'):wpList P ops.toArray Q (o::rest) a w:=by
 refine wpList_step λK G => ?_
 rw[qL (jy_ p u)];unfold Oper.wp;rw[fu_ p s w];simp only[Oper.upon];refine C.mono λe j ⟨v,x,D⟩ => ?_
 subst x;show K (a.put o.dst v) j;rw[y];exact G _ _ (h _ _ _ D (p.put F v))
end
inductive Res where
 | box (b:Nat) (T:tN) (cs:tL tW)
 | row (e:tN) (c:Nat) (A:tO Addr) (n cap:Nat) (rows:tL (tL tW))
 | ro (F:Nat->Prop) (φ:tS->Prop)
def Res.fp:Res->Nat->Prop | .box b _ _,k=>k=b | .row _ _ A _ _ _,k=>∃a,A=some a/\k=a.block | .ro F _,k=>F k
def Res.excl:Res->Prop | .ro .. => False|_=>True
def Local(F:Nat->Prop)(φ:tS->Prop):Prop:=∀w w',w.heap.size<=w'.heap.size->(∀k,F k->w'.heap[k]? = w.heap[k]?)->φ w->φ w'
def Res.holds(w:tS):Res->Prop | .box b T cs=>w.heap[b]? = some (.cells cs.toArray T (0,0)) | .row e c A n cap rows=>w.ownsRow 0 e c (.slice A n cap) n rows.flatten/\rows.length=n/\∀r∈rows,r.length=c | .ro F φ=>φ w/\Local F φ/\∀k,F k->k<w.heap.size
def Apart(r s:Res):Prop:=(r.excl\/s.excl)->∀k,r.fp k->¬s.fp k
theorem Apart.symm{r s:Res}(h:Apart r s):Apart s r:=λf k p j=>h (f.symm) k j p
structure Grow(w w':tS):Prop where
 os:w'.os=w.os
 tape:w'.tape=w.tape
 output:w'.output=w.output
 size:w.heap.size<=w'.heap.size
theorem Grow.refl(w:tS):Grow w w:=⟨rfl,rfl,rfl,qE _⟩
theorem Grow.trans{a b c:tS}(h:Grow a b)(k:Grow b c):Grow a c:=⟨k.os.trans h.os,k.tape.trans h.tape,k.output.trans h.output,zQ h.size k.size⟩
theorem Grow.of_below{B:Nat}{a b:tS}(h:Below B a b):Grow a b:=⟨h.os,h.tape,h.output,h.size⟩
structure Chg(Bs:tL Nat)(w w':tS):Prop where
 grow:Grow w w'
 block:∀k,k<w.heap.size->k∉Bs->w'.heap[k]? = w.heap[k]?
theorem Chg.below{w w':tS}(h:Chg [] w w'):Below w.heap.size w w':=⟨h.grow.os,h.grow.tape,h.grow.output,h.grow.size,λk f=>h.block k f (by simp)⟩
theorem Chg.of_below{Bs:tL Nat}{w w':tS}(h:Below w.heap.size w w'):Chg Bs w w':=⟨Grow.of_below h,λk f _=>h.block k f⟩
structure Sep(Bs:tL Nat)(w0 w:tS)(L:tL Res):Prop where
 chg:Chg Bs w0 w
 hold:∀r∈L,r.holds w
 own:∀r∈L,r.excl->∀k,r.fp k->w0.heap.size<=k\/k∈Bs
 apart:L.Pairwise Apart
theorem Res.holds_lt{w:tS}{r:Res}(h:r.holds w):∀k,r.fp k->k<w.heap.size:=by
 intro k f;cases r with
 | box b T cs =>
  simp only[Res.fp]at f;subst f;rcases qR k w.heap.size with j|j
  .exact j
  .simp only[Res.holds]at h;rw[zJ j]at h;cases h
 | row e c A n cap xs =>
  obtain⟨a,rfl,rfl⟩:=f;exact(World.ownsRow.lt h.1 _ rfl).2
 | ro F φ=>exact h.2.2 k f
theorem Res.holds_keep{w w':tS}{r:Res}(h:r.holds w)(q:w.heap.size<=w'.heap.size)(j:∀k,r.fp k->w'.heap[k]? = w.heap[k]?):r.holds w':=by
 cases r with
 | box b T cs=>simp only[Res.holds]at h ⊢;rw[j b rfl];exact h
 | row e c A n cap xs =>
  obtain⟨h,f⟩:=h;refine⟨⟨h.1,?_⟩,f⟩;rcases h.2 with C|⟨g,cap',cur,p,u,s,r⟩
  .exact .inl C
  .refine .inr ⟨g,cap',cur,p,u,?_,r⟩;injection p with y;rw[j g ⟨_,y,rfl⟩];exact s
 | ro F φ=>exact⟨h.2.1 w w' q j h.1,h.2.1,λk x=>zf (h.2.2 k x) q⟩
section
variable{Bs:tL Nat}{w0 w w':tS}{L:tL Res}
theorem Sep.start(Bs:tL Nat)(w:tS):Sep Bs w w []:=⟨Chg.of_below (Below.refl _ _),(λ_ h=>nomatch h),(λ_ h=>nomatch h),List.Pairwise.nil⟩
theorem Sep.size(h:Sep Bs w0 w L):w0.heap.size<=w.heap.size:=h.chg.grow.size
theorem Sep.ext(h:Sep Bs w0 w L)(p:Ext w w'):Sep Bs w0 w' L:=by
 have j:=p.below;refine⟨⟨h.chg.grow.trans (Grow.of_below j),λk f q=>(j.block k (zf f h.size)).trans (h.chg.block k f q)⟩,λr hr => ?_,h.own,h.apart⟩;exact Res.holds_keep (h.hold r hr) j.size λk f=>j.block k (Res.holds_lt (h.hold r hr) k f)
theorem Sep.add(h:Sep Bs w0 w L)(x:Ext w w'){r:Res}(hr:r.holds w')(u:∀k,r.fp k->w.heap.size<=k):Sep Bs w0 w' (r::L):=by
 have p:=h.ext x;refine⟨p.chg,λs f => ?_,λs f y k j => ?_,?_⟩
 .rcases qD.1 f with rfl|f
  .exact hr
  .exact p.hold s f
 .rcases qD.1 f with rfl|f
  .exact .inl (zQ h.size (u k j))
  .exact p.own s f y k j
 .refine List.Pairwise.cons (λs f _ k j q => ?_) p.apart;have D:=Res.holds_lt (h.hold s f) k q;have C:=u k j;omega
def pick(L:tL Res):tL Nat->tL Res
 | []=>[]
 | i::r=>match L[i]? with
  | some x=>x::pick L r
  | none=>pick L r
theorem Sep.apart_at(h:Sep Bs w0 w L){i j:Nat}{r s:Res}(hi:L[i]? = some r)(x:L[j]? = some s)(f:i≠j):Apart r s:=by
 obtain⟨u,rfl⟩:=qj.1 hi;obtain⟨q,rfl⟩:=qj.1 x;rcases Nat.lt_or_gt_of_ne f with p|p
 .exact List.pairwise_iff_getElem.1 h.apart i j u q p
 .exact(List.pairwise_iff_getElem.1 h.apart j i q u p).symm
def nodupB:tL Nat->tV | []=>true|i::r => !(r.contains i)&&nodupB r
theorem Sep.turn(h:Sep Bs w0 w L)(i:Nat){r r':Res}(hi:L[i]? = some r)(V:r.excl)(hr:r'.holds w')
  (hb:Grow w w') (hk:∀k,k<w.heap.size->¬r.fp k->w'.heap[k]? = w.heap[k]?) (hf:∀k,r'.fp k->r.fp k\/w.heap.size<=k):Sep Bs w0 w' (L.set i r'):=by
 have ZX:=(qj.1 hi).1;have other:∀j s,L[j]? = some s->j≠i->s.holds w':=λj s p f=>by
  refine Res.holds_keep (h.hold s (qw p)) hb.size λk U => ?_
  refine hk k (Res.holds_lt (h.hold s (qw p)) k U) λZ => ?_
  exact h.apart_at hi p (Ne.symm f) (.inl V) k Z U
 have mem:∀s∈L.set i r',(s=r')\/∃j,L[j]? = some s/\j≠i:=λs D=>by
  obtain⟨j,p⟩:=jW.1 D;rw[jK]at p;split at p
  .first|exact .inl (qSj p).symm|(rw[qL (by omega)]at p;exact .inl (qSj p).symm)
  .rename_i f;exact .inr ⟨j,p,Ne.symm f⟩
 have own':∀k,r'.fp k->w0.heap.size<=k\/k∈Bs:=λk u=>by
  rcases hf k u with C|C
  .exact h.own r (qw hi) V k C
  .exact .inl (zQ h.size C)
 have far:∀j s,L[j]? = some s->j≠i->∀k,r'.fp k->¬s.fp k:=λj s p f k u D=>by
  rcases hf k u with C|C
  .exact h.apart_at hi p (Ne.symm f) (.inl V) k C D
  .have:=Res.holds_lt (h.hold s (qw p)) k D;omega
 refine⟨⟨h.chg.grow.trans hb,λk q hn=>(hk k (zf q h.size) λZZ => ?_).trans (h.chg.block k q hn)⟩,λs D => ?_,λs D Y k u => ?_,?_⟩
 .rcases h.own r (qw hi) V k ZZ with C|C
  .omega
  .exact hn C
 .rcases mem s D with rfl|⟨j,p,f⟩
  .exact hr
  .exact other j s p f
 .rcases mem s D with rfl|⟨j,p,f⟩
  .exact own' k u
  .exact h.own s (qw p) Y k u
 .rw[List.pairwise_iff_getElem];intro O M C h2 ZY;have J:(L.set i r')[O]? = some (L.set i r')[O]:=qY C;have F:(L.set i r')[M]? = some (L.set i r')[M]:=qY h2;generalize(L.set i r')[O]=x at J ⊢;generalize(L.set i r')[M]=y at F ⊢;rw[jK]at J F;by_cases c1:i=O
  .rw[qL c1,qL (by omega)]at J;rw[qP (by omega)]at F;obtain rfl:=qSj J;exact λ_ k q G=>far M y F (by omega) k q G
  .rw[qP c1]at J;by_cases c2:i=M
   .rw[qL c2,qL (by omega)]at F;obtain rfl:=qSj F;exact λ_ k q G=>far O x J (by omega) k G q
   .rw[qP c2]at F;exact h.apart_at J F (by omega)
end
abbrev tX:=tL UInt8
def S(l:tX):tW := .string ⟨l.toArray⟩
def w64(n:Int):Int:=IntKind.i64.wrap n
def cat(a b:tX):tO tX:=if a.length+b.length<=9223372036854775807 then some (a++b)else none
def ah_{α:Type}(xs:tL α)(i:Int):tO α:=if 0<=i then xs[i.toNat]? else none
def setI{α:Type}(xs:tL α)(i:Int)(x:α):tO (tL α):=if 0<=i/\i<xs.length then some (xs.set i.toNat x)else none
def ap_(s:tX)(i:Int):tO Int:=(ah_ s i).map λb=>(b.toNat:Int)
def aP_{α:Type}(xs:tL α)(lo hi:Int):tO (tL α):=if 0<=lo/\lo<=hi/\hi<=xs.length then some ((xs.take hi.toNat).drop lo.toNat)else none
def quoI(k:IntKind)(x y:Int):tO Int:=if y=0 then none else some (k.wrap (x.tdiv y))
def remI(x y:Int):tO Int:=if y=0 then none else some (x.tmod y)
def shlI(k:IntKind)(x y:Int):tO Int:=if y<0 then none else some (k.wrap (x*2^min y.toNat k.bits))
def shrI(k:IntKind)(x y:Int):tO Int:=if y<0 then none else some (x.fdiv (2^min y.toNat k.bits))
def bytesS(ns:tL Int):tX:=ns.map λn=>UInt8.ofNat n.toNat
def room{α:Type}(bytes:Nat)(xs f:tL α):tO (tL α):=if xs.length+f.length<=9223372036854775807/\(xs.length+f.length)*bytes<=140737488355328 then some (xs++f)else none
def et_{α:Type}(bytes:Nat)(z:α)(n:Int):tO (tL α):=if 0<=n/\n<=9223372036854775807/\bytes*n<=281474976710656 then some (List.replicate n.toNat z)else none
theorem bind_some{α β:Type}{x:tO α}{f:α->tO β}{r:β}(h:x.bind f=some r):∃a,x=some a/\f a=some r:=by
 cases x with
 | none=>cases h
 | some a=>exact⟨a,rfl,h⟩
theorem str_eq(a b:tX):((⟨a.toArray⟩:tQ).toList==(⟨b.toArray⟩:tQ).toList)=(a==b):=by
 rw[ByteArray.toList_mk,ByteArray.toList_mk]
section
variable{P:tT}{ρ:tI->tW}{w:tS}{o:tP}
theorem size_mk(l:tX):(⟨l.toArray⟩:tQ).size=l.length:=by simp[ByteArray.size]
theorem append_mk(a b:tX):((⟨a.toArray⟩:tQ)++⟨b.toArray⟩:tQ)=⟨(a++b).toArray⟩:=by
 apply ByteArray.ext;simp
theorem run_cat{t yt:tN}{x y:tI}(p:o.op = .binOp .add t x y yt){a b r:tX}(j:ρ x=S a)(f:ρ y=S b)(h:cat a b=some r) :
  (execOp ρ o).run P w = .ok (.value (S r)) w:=by
 unfold cat at h;split at h
 .rename_i s;simp only[qOi]at h;subst h;unfold execOp;simp only[p,j,f,S];have q:¬((((⟨a.toArray⟩:tQ).size+(⟨b.toArray⟩:tQ).size:Nat):Int)>IntKind.i64.max):=by
   rw[size_mk,size_mk];show ¬(((a.length+b.length:Nat):Int)>9223372036854775807);omega
  simp only[eqGuard,binOp,Op.stringOp];rw[qP q,append_mk];rfl
 .cases h
theorem run_str_eql{t yt:tN}{x y:tI}(j:o.op = .binOp .eql t x y yt){a b:tX}(h:ρ x=S a)(f:ρ y=S b) :
  (execOp ρ o).run P w = .ok (.value (.bool (a==b))) w:=by
 unfold execOp;simp only[j,h,f,S];simp only[eqGuard,binOp,Op.stringOp,str_eq];rfl
theorem run_str_neq{t yt:tN}{x y:tI}(j:o.op = .binOp .neq t x y yt){a b:tX}(h:ρ x=S a)(f:ρ y=S b) :
  (execOp ρ o).run P w = .ok (.value (.bool (!(a==b)))) w:=by
 unfold execOp;simp only[j,h,f,S];simp only[eqGuard,binOp,Op.stringOp,str_eq];rfl
theorem run_str_lss{t yt:tN}{x y:tI}(j:o.op = .binOp .lss t x y yt){a b:tX}(h:ρ x=S a)(f:ρ y=S b) :
  (execOp ρ o).run P w = .ok (.value (.bool (Op.bytesLess a b))) w:=by
 unfold execOp;simp only[j,h,f,S];simp only[eqGuard,binOp,Op.stringOp,ByteArray.toList_mk];rfl
theorem run_str_gtr{t yt:tN}{x y:tI}(j:o.op = .binOp .gtr t x y yt){a b:tX}(h:ρ x=S a)(f:ρ y=S b) :
  (execOp ρ o).run P w = .ok (.value (.bool (!(Op.bytesLess a b||a==b)))) w:=by
 unfold execOp;simp only[j,h,f,S];simp only[eqGuard,binOp,Op.stringOp,ByteArray.toList_mk];rfl
theorem run_byteI{t:tN}{x i:tI}(u:o.op = .index t x i)(s:P.underlying t=some .string){a:tX}{k:IntKind}{n r:Int}(q:ρ x=S a)(hi:ρ i = .int k n)(h:ap_ a n=some r) :
  (execOp ρ o).run P w = .ok (.value (.int .u8 r)) w:=by
 unfold ap_ ah_ at h;split at h
 .rename_i y;cases f:a[n.toNat]? with
  | none=>rw[f]at h;cases h
  | some b =>
   rw[f]at h;simp only[zn,qOi]at h;subst h;have e:(⟨a.toArray⟩:tQ)[n.toNat]? = some b:=by
    have j:=(qj.1 f).1;have C:=(qj.1 f).2;have p:n.toNat<(⟨a.toArray⟩:tQ).size:=by rw[size_mk];exact j
    have D:(⟨a.toArray⟩:tQ)[n.toNat]'p=b:=by
     show a.toArray[n.toNat]=b;simpa using C
    rw[←D];exact getElem?_pos (⟨a.toArray⟩:tQ) n.toNat p
   unfold execOp;simp only[u,q,hi,S];simp[Instr.index,asIntOf,run_underlying s,y,e]
 .cases h
theorem lQ_{k:IntKind}{i:Int}{y:Nat}{code:BoundsCode}(h:0<=i)(f:i<=y):(Instr.sliceBound (.int k i) y code).run P w = .ok i.toNat w:=by
 simp[Instr.sliceBound,asIntOf,h,f]
theorem extract_mk(a:tX)(l h:Nat)(f:l<=h):(⟨a.toArray⟩:tQ).extract l h=⟨((a.take h).drop l).toArray⟩:=by
 apply ByteArray.ext;rw[ByteArray.data_extract];simp[List.take_drop];rw[show l+(h-l)=h by omega]
theorem j7_{α:Type}{xs r:tL α}{lo hi:Int}(h:aP_ xs lo hi=some r):0<=lo/\lo<=hi/\hi<=xs.length/\r=(xs.take hi.toNat).drop lo.toNat:=by
 unfold aP_ at h;split at h
 .rename_i f;simp only[qOi]at h;exact⟨f.1,f.2.1,f.2.2,h.symm⟩
 .cases h
theorem run_bounds(isS:tV){h f:IntKind}{lo hi:Int}{n cap:Nat}(p:0<=lo)(q:lo<=hi)(j:hi<=cap) :
  (Instr.sliceBounds isS n cap (some (.int h lo)) (some (.int f hi)) none).run P w = .ok (lo.toNat,hi.toNat,cap) w:=by
 simp only[Instr.sliceBounds,Sem.run_bind,Sem.run_pure,Result.andThen_ok,lQ_ (P:=P) (w:=w) (i:=hi) (y:=cap) (by omega) j,
  lQ_ (P:=P) (w:=w) (i:=lo) (y:=hi.toNat) p (by omega)]
theorem tu_(isS:tV){f:IntKind}{lo:Int}{n cap:Nat}(j:0<=lo)(h:lo<=n) :
  (Instr.sliceBounds isS n cap (some (.int f lo)) none none).run P w = .ok (lo.toNat,n,cap) w:=by
 simp only[Instr.sliceBounds,Sem.run_bind,Sem.run_pure,Result.andThen_ok,lQ_ (P:=P) (w:=w) (i:=lo) (y:=n) j h]
theorem tv_(isS:tV){f:IntKind}{hi:Int}{n cap:Nat}(j:0<=hi)(h:hi<=cap) :
  (Instr.sliceBounds isS n cap none (some (.int f hi)) none).run P w = .ok (0,hi.toNat,cap) w:=by
 simp only[Instr.sliceBounds,Sem.run_bind,Sem.run_pure,Result.andThen_ok,lQ_ (P:=P) (w:=w) (i:=hi) (y:=cap) j h]
theorem qM_(isS:tV){n cap:Nat} :
  (Instr.sliceBounds isS n cap none none none).run P w = .ok (0,n,cap) w:=by
 simp only[Instr.sliceBounds,Sem.run_bind,Sem.run_pure,Result.andThen_ok]
def in_(ρ:tI->tW):tO tI->tO Int->Prop|none,none=>True|some x,some n=>∃k,ρ x = .int k n|_,_=>False
theorem mK_(isS:tV){lo hi:tO tI}{l h:tO Int}{n cap:Nat}(j:in_ ρ lo l)(p:in_ ρ hi h)(s:0<=l.getD 0)(f:l.getD 0<=h.getD n)(q:h.getD n<=cap) :
  (Instr.sliceBounds isS n cap (lo.map ρ) (hi.map ρ) none).run P w = .ok ((l.getD 0).toNat,(h.getD n).toNat,cap) w:=by
 cases lo<;>cases l<;>cases hi<;>cases h<;>simp only[in_]at j p<;>simp only[zu,jh]at s f q ⊢
 .exact qM_ isS
 .obtain⟨k,e⟩:=p;simp only[Option.map_none,zn,e];exact tv_ isS f q
 .obtain⟨k,e⟩:=j;simp only[Option.map_none,zn,e];exact tu_ isS s f
 .obtain⟨k,e⟩:=j;obtain⟨x,u⟩:=p;simp only[zn,e,u];exact run_bounds isS s f q
theorem run_str_sub{t:tN}{x:tI}{lo hi:tO tI}(p:o.op = .slice t x lo hi none)(j:P.underlying t=some .string){a r:tX}(f:ρ x=S a){l h:tO Int}(q:in_ ρ lo l)(s:in_ ρ hi h)
  (hr:aP_ a (l.getD 0) (h.getD a.length)=some r):(execOp ρ o).run P w = .ok (.value (S r)) w:=by
 obtain⟨D,C,y,rfl⟩:=j7_ hr;unfold execOp;have u:=mK_ (P:=P) (w:=w) false (n:=a.length) (cap:=a.length) q s D C y;simp only[p,f,S,Option.map_none];simp[Instr.sliceAt,Instr.slice,run_underlying j,size_mk,u,extract_mk a _ _ (show(l.getD 0).toNat<=(h.getD a.length).toNat by omega)]
theorem run_quo{t yt:tN}{x y:tI}{k:IntKind}{a b r:Int}(p:o.op = .binOp .quo t x y yt)(j:ρ x = .int k a)(f:ρ y = .int k b)(h:quoI k a b=some r):(execOp ρ o).run P w = .ok (.value (.int k r)) w:=by
 unfold quoI at h;split at h
 .cases h
 .rename_i q;simp only[qOi]at h;subst h;unfold execOp;simp[p,j,f,eqGuard,binOp,Op.intDiv,q]
theorem run_rem{t yt:tN}{x y:tI}{k:IntKind}{a b r:Int}(p:o.op = .binOp .rem t x y yt)(j:ρ x = .int k a)(f:ρ y = .int k b)(h:remI a b=some r):(execOp ρ o).run P w = .ok (.value (.int k r)) w:=by
 unfold remI at h;split at h
 .cases h
 .rename_i q;simp only[qOi]at h;subst h;unfold execOp;simp[p,j,f,eqGuard,binOp,Op.intDiv,q]
theorem run_shl{t yt:tN}{x y:tI}{k f:IntKind}{a b r:Int}(q:o.op = .binOp .shl t x y yt)(p:ρ x = .int k a)(j:ρ y = .int f b)(h:shlI k a b=some r):(execOp ρ o).run P w = .ok (.value (.int k r)) w:=by
 unfold shlI at h;split at h
 .cases h
 .rename_i s;simp only[qOi]at h;subst h;unfold execOp;simp[q,p,j,eqGuard,binOp,Op.shift,s]
theorem run_shr{t yt:tN}{x y:tI}{k f:IntKind}{a b r:Int}(q:o.op = .binOp .shr t x y yt)(p:ρ x = .int k a)(j:ρ y = .int f b)(h:shrI k a b=some r):(execOp ρ o).run P w = .ok (.value (.int k r)) w:=by
 unfold shrI at h;split at h
 .cases h
 .rename_i s;simp only[qOi]at h;subst h;unfold execOp;simp[q,p,j,eqGuard,binOp,Op.shift,s]
end
def aggB(P:tT)(T:tN):tO tV:=match P.underlying T with|some (.struct _)=>some true|some (.array _ _)=>some true|some _=>some false|none=>none
def eA_(P:tT)(T:tN)(cs:tL tW)(off:Nat):tO tW :=
 match aggB P T,(P.info? T).map (·.size)with
 | some true,some n=>match Nat.ble (off+n) cs.length with|true=>some (.agg ((cs.drop off).take n).toArray)|false=>none
 | some false,_=>cs[off]?
 | _,_=>none
def splice(cs:tL tW)(off:Nat)(vs:tL tW):tL tW:=cs.take off++vs++cs.drop (off+vs.length)
def eF_:tW->tV | .agg _ | .tuple _=>false|_=>true
def bH_:tL tW->tV | []=>true|v::r=>eF_ v&&bH_ r
section
variable{P:tT}{ρ:tI->tW}{w w0:tS}{o:tP}{Bs:tL Nat}{L:tL Res}
theorem ln_{T:tN}{b:tV}(h:aggB P T=some b):(isAgg T).run P w = .ok b w:=by
 unfold aggB at h;cases f:P.underlying T with
 | none=>rw[f]at h;cases h
 | some d =>
  rw[f]at h;unfold isAgg;rw[Sem.run_bind,run_underlying f w];cases d<;>simp_all
theorem d4_{T:tN}{b off base:Nat}{cs:tL tW}{v:tW}(f:eA_ P T cs off=some v)(D:∀j u,cs[j]? = some u->w.cell? ⟨b,base+j,none⟩=some u) :
  (loadVar T ⟨b,base+off,none⟩).run P w = .ok v w:=by
 unfold eA_ at f;cases h:aggB P T with
 | none=>rw[h]at f;cases f
 | some g =>
  rw[h]at f;cases g with
  | true =>
   cases hi:(P.info? T).map (·.size)with
   | none=>rw[hi]at f;cases f
   | some n =>
    rw[hi]at f;simp only at f;split at f
    .rename_i x;simp only[qOi]at f;subst f;have y:off+n<=cs.length:=by simpa using x
     have q:((cs.drop off).take n).length=n:=by simp;omega
     have C:(loadCells ⟨b,base+off,none⟩ ((cs.drop off).take n).length).run P w = .ok ((cs.drop off).take n).toArray w :=
      run_loadCells_list (P:=P) w _ _ (λj u p=>by
       rw[Addr.add_mk,zG];refine D _ _ ?_;rw[zp]at p;split at p
       .rw[zW]at p;exact p
       .cases p)
     rw[q]at C;cases s:P.info? T with
     | none=>simp[s]at hi
     | some i =>
      have F:i.size=n:=by simpa[s]using hi
      simp[loadVar,Sem.run_bind,ln_ h,sizeOf,typeInfo,s,F,C]
    .cases f
  | false =>
   simp only at f;have:=D _ _ f;simp[loadVar,Sem.run_bind,ln_ h,this]
theorem run_load{T:tN}{x:tI}{ad:Addr}{v:tW}(h:o.op = .load T x)(f:ρ x = .pointer (some ad))(hr:(loadVar T ad).run P w = .ok v w):(execOp ρ o).run P w = .ok (.value v) w:=by
 unfold execOp;simp[h,f,Instr.loadAt,Instr.sureAddr,hr]
theorem Sep.box_cell{i b:Nat}{T:tN}{cs:tL tW}(h:Sep Bs w0 w L)(hi:L[i]? = some (.box b T cs)):∀j u,cs[j]? = some u->w.cell? ⟨b,0+j,none⟩=some u:=by
 intro j u f;have:=h.hold _ (qw hi);rw[qh,cell_of_row w b j cs.toArray T (0,0) this];simpa using f
theorem run_load_box{T T':tN}{x:tI}{i b off:Nat}{cs:tL tW}{v:tW}(p:o.op = .load T x)(f:ρ x = .pointer (some ⟨b,off,none⟩))(h:Sep Bs w0 w L)(hi:L[i]? = some (.box b T' cs))
  (j:eA_ P T cs off=some v):(execOp ρ o).run P w = .ok (.value v) w:=by
 have:=d4_ (base:=0) j (h.box_cell hi);rw[qh]at this;exact run_load p f this
end
section
variable{P:tT}{ρ:tI->tW}{w w' w0:tS}{o:tP}{Bs:tL Nat}{L:tL Res}
theorem Ext.one(w:tS)(ob:Obj):Ext w (w.alloc ob):=(Ext.refl w).alloc ob
theorem Sep.box_new(h:Sep Bs w0 w L)(T:tN)(cs:tL tW):Sep Bs w0 (w.alloc (.cells cs.toArray T)) (.box w.heap.size T cs::L) :=
 h.add (Ext.one w _) (heap_alloc_new w _) (λk f=>by simp only[Res.fp]at f;omega)
def zeroOf(P:tT)(T:tN):tO (tL tW):=match P.info? T with|some i=>(match i.zero with|some z=>some z.cells.toList|none=>none)|none=>none
theorem j8_{T:tN}{zs:tL tW}(j:o.op = .alloc T)(f:zeroOf P T=some zs):(execOp ρ o).run P w = .ok (.value (.pointer (some ⟨w.heap.size,0,none⟩))) (w.alloc (.cells zs.toArray T)):=by
 unfold zeroOf at f;split at f
 .rename_i i hi;split at f
  .rename_i z h;simp only[qOi]at f;subst f;unfold execOp;simp[j,Instr.alloc,zeroValue,typeInfo,hi,h,newVar,newRow]
  .cases f
 .cases f
theorem run_box{T:tN}{x:tI}{v:tW}(h:o.op = .box T x)(f:ρ x=v):(execOp ρ o).run P w = .ok (.value (.pointer (some ⟨w.heap.size,0,none⟩))) (w.alloc (.cells v.cells T)):=by
 unfold execOp;simp[h,f,Instr.box,newVar,newRow]
theorem setRow_size(w:tS)(g:Nat)(cs:Array tW):(w.setRow g cs).heap.size=w.heap.size:=by simp[World.setRow]
theorem cm_(w:tS)(g k:Nat)(cs:Array tW)(h:k≠g):(w.setRow g cs).heap[k]? = w.heap[k]? := by
 simp only[World.setRow,zm];rw[qP (λe=>h e.symm)]
theorem dn_(w:tS)(g:Nat)(cs:Array tW):Grow w (w.setRow g cs):=⟨rfl,rfl,rfl,by rw[setRow_size];exact qE _⟩
def aO_(P:tT)(T:tN):tO Nat:=(P.info? T).map (·.size)
theorem run_storeVar{T:tN}{v:tW}{g off:Nat}{T':tN}{cs:tL tW}(s:w.heap[g]? = some (.cells cs.toArray T' (0,0)))(j:aO_ P T=some v.cells.size)(q:off+v.cells.size<=cs.length)
  (x:∀u∈v.cells.toList,u.oneCell'=true):(storeVar T ⟨g,off,none⟩ v).run P w = .ok () (w.setRow g (splice cs off v.cells.toList).toArray):=by
 have h:=run_storeCells_at (P:=P) g off T' v.cells.toList 0 cs.toArray w s (by simpa using q) x;simp only[jP]at h;unfold aO_ at j;cases p:P.info? T with
 | none=>simp[p]at j
 | some i =>
  have f:i.size=v.cells.size:=by simpa[p]using j
  simp[storeVar,sizeOf,typeInfo,p,f,h,splice]
theorem fb_{l:tL tW}(h:bH_ l=true):∀u∈l,u.oneCell'=true:=by
 induction l with
 | nil=>intro u f;cases f
 | cons v r j =>
  simp only[bH_,qAn]at h;intro u f;rcases qD.1 f with rfl|f
  .cases u<;>simp_all [eF_,Value.oneCell']
  .exact j h.2 u f
theorem eB_{T:tN}{x y:tI}{v:tW}{g off:Nat}{T':tN}{cs:tL tW}(s:o.op = .store T x y)(p:ρ x = .pointer (some ⟨g,off,none⟩))(j:ρ y=v)
  (u:w.heap[g]? = some (.cells cs.toArray T' (0,0))) (q:aO_ P T=some v.cells.size) (f:Nat.ble (off+v.cells.size) cs.length=true) (C:bH_ v.cells.toList=true) :
  (execOp ρ o).run P w = .ok .skip (w.setRow g (splice cs off v.cells.toList).toArray):=by
 have h:=run_storeVar (P:=P) (w:=w) u q (by simpa using f) (fb_ C);unfold execOp;simp[s,p,j,Instr.storeAt,Instr.sureAddr,h]
theorem eG_(w:tS)(g:Nat)(cs cs':Array tW)(t:tN)(f:w.heap[g]? = some (.cells cs' t (0,0))):(w.setRow g cs).heap[g]? = some (.cells cs t (0,0)):=setRow_heap w g cs' cs t _ f
theorem tw_{T:tN}{x y:tI}{v:tW}{i b off:Nat}{T':tN}{cs:tL tW}(C:o.op = .store T x y)(s:ρ x = .pointer (some ⟨b,off,none⟩))(q:ρ y=v)
  (h:Sep Bs w0 w L) (hi:L[i]? = some (.box b T' cs)) (u:aO_ P T=some v.cells.size) (j:Nat.ble (off+v.cells.size) cs.length=true) (F:bH_ v.cells.toList=true) {cs':tL tW} (D:splice cs off v.cells.toList=cs') :
  ∃w',(execOp ρ o).run P w = .ok .skip w'/\Sep Bs w0 w' (L.set i (.box b T' cs'))/\Grow w w'/\∀k,k≠b->w'.heap[k]? = w.heap[k]? := by
 subst D;have p:=h.hold _ (qw hi);refine⟨_,eB_ C s q p u j F,?_,dn_ w b _,λk f=>cm_ w b k _ f⟩;exact h.turn i hi trivial (eG_ w b _ _ T' p) (dn_ w b _) (λk _ f=>cm_ w b k _ f) (λk f => .inl f)
def SlF(F:Nat->Prop)(c:Nat)(A:tO Addr)(n:Nat)(rows:tL (tL tW))(w:tS):Prop :=
 rows.length=n/\(0<n->∃b off,A=some ⟨b,off,none⟩/\F b /\
  ∀i r,rows[i]? = some r->r.length=c/\∀j u,r[j]? = some u->w.cell? ⟨b,off+i*c+j,none⟩=some u)
theorem SlF.local{F:Nat->Prop}{c n:Nat}{A:tO Addr}{rows:tL (tL tW)}:Local F (SlF F c A n rows):=by
 intro w w' _ x h;refine⟨h.1,λs => ?_⟩;obtain⟨b,off,e,p,f⟩:=h.2 s;exact⟨b,off,e,p,λi r hr=>⟨(f i r hr).1,λj u q=>(World.cell?_of_block (w:=w) (x b p)).trans ((f i r hr).2 j u q)⟩⟩
theorem SlF.nil(F:Nat->Prop)(c:Nat)(A:tO Addr)(w:tS):SlF F c A 0 [] w:=⟨rfl,λh=>absurd h (by omega)⟩
theorem SlF.take{F:Nat->Prop}{c n:Nat}{A:tO Addr}{rows:tL (tL tW)}(h:SlF F c A n rows w){k:Nat}(q:k<=n):SlF F c A k (rows.take k) w:=by
 refine⟨by rw[qA,h.1];omega,λp => ?_⟩;obtain⟨b,off,e,j,f⟩:=h.2 (by omega);refine⟨b,off,e,j,λi r hr=>f i r ?_⟩;rw[zp]at hr;split at hr
 .exact hr
 .cases hr
theorem SlF.drop{F:Nat->Prop}{c n:Nat}{A:tO Addr}{rows:tL (tL tW)}(h:SlF F c A n rows w){k cap:Nat}(D:k<=n)(f:n<=cap) :
  SlF F c (if cap=k then A else A.map (·.add (k*c))) (n-k) (rows.drop k) w:=by
 refine⟨by rw[qC,h.1],λC => ?_⟩;obtain⟨b,off,rfl,s,q⟩:=h.2 (by omega);rw[qP (by omega)];refine⟨b,off+k*c,by simp[Addr.add_mk],s,λi r hr => ?_⟩;rw[zW]at hr;obtain⟨y,x⟩:=q _ r hr;refine⟨y,λj u p => ?_⟩;have:=x j u p;rw[jx,←zG]at this;exact this
def bX_(A:tO Addr)(k:Nat):Prop:=∃a,A=some a/\k=a.block
theorem cK_{e c n cap:Nat}{A:tO Addr}{rows:tL (tL tW)}(h:Res.holds w (.row e c A n cap rows)):SlF (bX_ A) c A n rows w:=by
 obtain⟨j,q,hr⟩:=h;have h:=Own.reads (rows:=rows) j hr q;refine⟨h.1,λp => ?_⟩;obtain⟨b,off,f,u,s⟩:=h.2 p;exact⟨b,off,f,⟨_,f,rfl⟩,s⟩
theorem d5_{α:Type}{xs:tL α}{i:Int}{x:α}(h:ah_ xs i=some x):0<=i/\xs[i.toNat]? = some x/\i.toNat<xs.length:=by
 unfold ah_ at h;split at h
 .rename_i f;exact⟨f,h,(qj.1 h).1⟩
 .cases h
theorem hI_{t e:tN}{x y:tI}{k:IntKind}{i:Int}{c n cap:Nat}{A:tO Addr}{rows:tL (tL tW)}{F:Nat->Prop}{α:Type}{xs:tL α}{d:α}
  (D:o.op = .indexAddr t x y) (u:P.underlying t=some (.slice e)) (j:aO_ P e=some c) (s:ρ x = .slice A n cap) (q:ρ y = .int k i) (C:SlF F c A n rows w) (O:xs.length=n) (J:ah_ xs i=some d) :
  ∃b off,A=some ⟨b,off,none⟩/\(execOp ρ o).run P w = .ok (.value (.pointer (some ⟨b,off+i.toNat*c,none⟩))) w:=by
 obtain⟨M,_,G⟩:=d5_ J;obtain⟨b,off,p,_,_⟩:=C.2 (by omega);refine⟨b,off,p,?_⟩;subst p;unfold aO_ at j;cases h:P.info? e with
 | none=>simp[h]at j
 | some inf =>
  have f:inf.size=c:=by simpa[h]using j
  unfold execOp;simp[D,s,q,Instr.indexAt,asIntOf,run_underlying u,sizeOf,typeInfo,h,f,M,Addr.add_mk];omega
theorem tx_{T:tN}{x:tI}{b off p c n j:Nat}{A:tO Addr}{rows:tL (tL tW)}{F:Nat->Prop}{i:Nat}{r:tL tW}{v:tW}
  (D:o.op = .load T x) (q:ρ x = .pointer (some ⟨b,p,none⟩)) (h:SlF F c A n rows w) (M:A=some ⟨b,off,none⟩) (hr:rows[i]? = some r) (C:p=off+i*c+j) (s:eA_ P T r j=some v) :
  (execOp ρ o).run P w = .ok (.value v) w:=by
 have G:=(qj.1 hr).1;obtain⟨O,off',f,_,J⟩:=h.2 (by rw[←h.1];omega);rw[M]at f;simp only[qOi,Addr.mk.injEq]at f;obtain⟨rfl,rfl,_⟩:=f;have:=d4_ (P:=P) (T:=T) (base:=off+i*c) s (λj u y=>(J i r hr).2 j u y);subst C;exact run_load D q this
def lb_{α:Type}(P:tT)(r:Nat):Sem α->tO (Obj×α)
 | .program k=>lb_ P r (k P)
 | .new ob k=>match dH_ P (k r)with
  | some v=>some (ob,v)
  | none=>none
 | _=>none
theorem evalNew_run{α:Type}{P:tT}{s:Sem α}{w:tS}{ob:Obj}{v:α}(h:lb_ P w.heap.size s=some (ob,v)):s.run P w = .ok v (w.alloc ob):=by
 induction s with
 | program k f=>simp only[lb_]at h;simp only[Sem.run];exact f P h
 | new o' k =>
  simp only[lb_]at h;split at h
  .rename_i p j;simp only[qOi,qg]at h;obtain⟨rfl,rfl⟩:=h;simp only[Sem.run];exact ek_ j _
  .cases h
 | _=>simp[lb_]at h
def lR_(P:tT)(env:tL (Nat×tW))(r:Nat)(o:tP):tO (Obj×Next):=match known env o.op.operands.toList && !jc_ o.op with|true=>lb_ P r (execOp (envρ env) o)|false=>none
theorem oh_{N:Nat}{a:Act}{env:tL (Nat×tW)}{ob:Obj}{r:Next}(s:Env N a env)(h:lR_ P env w.heap.size o=some (ob,r)):(execOp a.eval o).run P w = .ok r (w.alloc ob):=by
 unfold lR_ at h;split at h
 .rename_i f;simp only[qAn,qo]at f;have q:execOp a.eval o=execOp (envρ env) o:=by
   refine execOp_congr o (λcs b e => ?_) λx p => ?_
   .rw[e]at f;simp[jc_]at f
   .obtain⟨v,j⟩:=oq_ f.1 x (by simpa using p);rw[s.eval j];simp[envρ,j]
  rw[q];exact evalNew_run h
 .cases h
theorem Sep.row_new(h:Sep Bs w0 w L)(e c n:Nat)(rows:tL (tL tW))(j:rows.length=n)(hr:∀r∈rows,r.length=c)(q:Nat.ble n 9223372036854775807=true) :
  Sep Bs w0 (w.alloc (.cells rows.flatten.toArray e)) (.row e c (some ⟨w.heap.size,0,none⟩) n n rows::L):=by
 have f:n<=maxLen:=by have:=zD q;unfold maxLen;omega
 refine h.add (Ext.one w _) ⟨?_,j,hr⟩ (λk s => ?_)
 .have:=World.ownsRow_lit (base:=0) (e:=e) (size:=c) w rows.flatten.toArray n (qO _) f (by simp only[jA];rw[av_ hr,j]);simpa using this
 .obtain⟨a,p,rfl⟩:=s;simp only[qOi]at p;subst p;exact qE _
def mL_(P:tT)(t e c bytes:Nat):Prop:=P.underlying t=some (.slice e)/\∃i z,P.info? e=some i/\i.zero=some z/\i.size=c/\i.bytes=bytes/\z.cells.size=c/\0<c
def elemB(P:tT)(e c bytes:Nat):tV:=match P.info? e with
 | some i=>(match i.zero with|some z=>Nat.beq z.cells.size c|none=>false)&&Nat.beq i.size c&&Nat.beq i.bytes bytes&&Nat.blt 0 c
 | none=>false
theorem mM_{t e c bytes:Nat}(p:P.underlying t=some (.slice e))(h:elemB P e c bytes=true):mL_ P t e c bytes:=by
 refine⟨p,?_⟩;unfold elemB at h;split at h
 .rename_i i hi;simp only[qAn]at h;obtain⟨⟨⟨f,u⟩,s⟩,q⟩:=h;split at f
  .rename_i z j;exact⟨i,z,hi,j,qNb u,qNb s,qNb f,by simpa using q⟩
  .cases f
 .cases h
theorem j9_{α:Type}{bytes:Nat}{xs f r:tL α}(h:room bytes xs f=some r):xs.length+f.length<=9223372036854775807/\(xs.length+f.length)*bytes<=140737488355328/\r=xs++f:=by
 unfold room at h;split at h
 .rename_i j;simp only[qOi]at h;exact⟨j.1,j.2,h.symm⟩
 .cases h
def lc_(rows:tL (tL tW)):Prop:=∀r∈rows,bH_ r=true
theorem lo_{rows:tL (tL tW)}(h:lc_ rows):∀u∈rows.flatten,u.oneCell'=true:=by
 intro u j;obtain⟨r,hr,f⟩:=jL.1 j;exact fb_ (h r hr) u f
theorem nf_{t e c bytes:Nat}{x y:tI}{k n cap m cap2:Nat}{A A2:tO Addr}{rows news:tL (tL tW)}{F:Nat->Prop}{α:Type}{xs ys r:tL α}
  (ho:o.op = .call { callee := .builtin .append,args := #[x,y],argTypes := #[t,t] }) (ZK:mL_ P t e c bytes) (hx:ρ x = .slice A n cap) (hy:ρ y = .slice A2 m cap2)
  (h:Sep Bs w0 w L) (hi:L[k]? = some (.row e c A n cap rows)) (hs:SlF F c A2 m news w) (ZX:lc_ news) (ZS:xs.length=n) (ZT:ys.length=m) (hr:room bytes xs ys=some r) (Z:∀q∈news,q.length=c) :
  ∃A' cap' w',(execOp ρ o).run P w = .ok (.value (.slice A' (n+m) cap')) w'/\Sep Bs w0 w' (L.set k (.row e c A' (n+m) cap' (rows++news)))/\Grow w w'/\(∀q,q<w.heap.size->¬bX_ A q->w'.heap[q]? = w.heap[q]?):=by
 obtain⟨hu,i,z,D,hz,ZR,ZJ,ZU,U⟩:=ZK;obtain⟨C,ZW,ZQ⟩:=h.hold _ (qw hi);obtain⟨h1,h2,_⟩:=j9_ hr;have ZP:execOp ρ o=(do pure (.value (←Builtin.append_ #[t,t] o.type #[ρ x,ρ y]))):=by
  obtain⟨dst,op,ty',pos,after,guard⟩:=o;simp only at ho;subst ho;rw[BigFrame.execOp_builtin,BigFrame.builtin_append];simp only[List.map_toArray,zH,jB]
 have ZY:news.flatten.length=m*c:=by rw[av_ Z,hs.1]
 have main:∃Y w',(Builtin.append_ #[t,t] o.type #[.slice A n cap,.slice A2 m cap2]).run P w = .ok Y w'/\w'.ownsRow 0 e c Y (n+m) (rows.flatten++news.flatten)/\w.grownBy w' (Value.slice A n cap).ownBlock/\(Y.ownBlock=(Value.slice A n cap).ownBlock\/Y.ownBlock=some w.heap.size):=by
  cases A2 with
  | none =>
   have ZZ:m=0:=by
    rcases zA m with h0|h0
    .exact h0
    .obtain⟨b,off,hh,_⟩:=hs.2 h0;cases hh
   subst ZZ;have ZM:news.flatten=[]:=jV (by rw[ZY];simp);refine⟨.slice A n cap,w,?_,by rw[ZM];simpa using C,World.grownBy.refl w _,.inl rfl⟩;rcases C.2 with⟨hv,hn⟩|⟨g,cap',cur,hv,_,_,ZN,_⟩
   .injection hv with e1 e2 e3;subst e1;subst e2;subst e3;simp[Builtin.append_,run_underlying hu,sizeOf,typeInfo,D,Builtin.lenOf,Builtin.firstCells]
   .injection hv with e1 e2 e3;subst e1;subst e3;simp[Builtin.append_,run_underlying hu,sizeOf,typeInfo,D,Builtin.lenOf,Builtin.firstCells,ZN,storeCells]
  | some ad =>
   have M:∀j u,news.flatten[j]? = some u->w.cell? (ad.add j)=some u:=by
    intro j u hu;have ZL:j<m*c:=by rw[←ZY];exact(qj.1 hu).1
    have ZZ:0<m:=by rcases zA m with h0|h0;(subst h0;omega);exact h0
    obtain⟨b,off,hA,_,hc⟩:=hs.2 ZZ;simp only[qOi]at hA;subst hA;have f:j/c<news.length:=by rw[hs.1];exact jw (by rw[jn];exact ZL)
    have s:=hc (j/c) _ (qY f);have V:j%c<c:=Nat.mod_lt _ U;have ZV:=fZ_ Z (qY f) (j%c) (news[j/c][j%c]'(by rw[s.1];exact V)) (qY _);have hj:j/c*c+j%c=j:=by rw[jn];exact Nat.div_add_mod j c
    rw[hj,hu]at ZV;have G:=s.2 (j%c) _ (qY (by rw[s.1];exact V));rw[zG,hj]at G;rw[Addr.add_mk,G,ZV]
   obtain⟨Y,w',p,J,hg,_,O⟩:=run_append_own_at (P:=P) w 0 t o.type e i z c bytes hu D hz ZR ZJ ZU U (.slice A n cap) n rows.flatten C ad m cap2 news.flatten ZY M (lo_ ZX)
    (by unfold maxLen;omega) (by rw[←ZS,←ZT];exact h2) (qO _)
   exact⟨Y,w',p,J,hg,O⟩
 obtain⟨Y,w',p,J,hg,O⟩:=main;obtain⟨A',cap',rfl⟩:=own_form J;have hb:Grow w w':=⟨hg.os,hg.tape,hg.output,hg.size⟩;have hk:∀q,q<w.heap.size->¬bX_ A q->w'.heap[q]? = w.heap[q]? := λq f ZO=>hg.block q f λhe=>ZO (by
  cases A with
  | none=>simp[Value.ownBlock]at he
  | some ad=>simp[Value.ownBlock]at he;exact⟨ad,rfl,he⟩)
 refine⟨A',cap',w',?_,?_,hb,hk⟩
 .rw[ZP,hx,hy];simp[p]
 .refine h.turn k hi trivial ⟨by rw[zg];exact J,by rw[qLa,ZW,hs.1],λq f => ?_⟩ hb hk (λq f => ?_)
  .rcases qF.1 f with f|f
   .exact ZQ q f
   .exact Z q f
  .obtain⟨ad,rfl,rfl⟩:=f;rcases O with O|O
   .cases A with
    | none=>simp[Value.ownBlock]at O
    | some ZI=>simp[Value.ownBlock]at O;exact .inl ⟨ZI,rfl,O⟩
   .simp[Value.ownBlock]at O;exact .inr (by omega)
theorem ng_{α:Type}{bytes:Nat}{z:α}{n:Int}{r:tL α}(h:et_ bytes z n=some r):0<=n/\n<=9223372036854775807/\bytes*n<=281474976710656/\r=List.replicate n.toNat z:=by
 unfold et_ at h;split at h
 .rename_i f;simp only[qOi]at h;exact⟨f.1,f.2.1,f.2.2,h.symm⟩
 .cases h
theorem ew_(zs:tL tW)(n:Nat):(List.replicate n zs).flatten=(madeCells zs.toArray (n*zs.length)).toList:=by
 apply je;intro j;have q:∀r∈List.replicate n zs,r.length=zs.length:=λr hr=>by rw[jY hr]
 by_cases f:j<n*zs.length
 .have s:0<zs.length:=by
   rcases zA zs.length with h|h
   .rw[h]at f;omega
   .exact h
  have p:j%zs.length<zs.length:=Nat.mod_lt _ s;have u:j/zs.length<n:=jw (by rw[jn];exact f);have:=fZ_ q (i:=j/zs.length) (r:=zs) (by rw[jO,qL u]) (j%zs.length) _ (qY p);rw[jn,Nat.div_add_mod]at this;rw[this];simp[madeCells,f,p]
 .rw[qe (by rw[av_ q,jT];omega),qe (by simp[madeCells];omega)]
theorem run_makeSlice_full{t e c bytes:Nat}{x y:tI}{J G:IntKind}{n:Int}{zs:tL tW}{α:Type}{z:α}{r:tL α}(ho:o.op = .makeSlice t x y)(D:mL_ P t e c bytes)(M:zeroOf P e=some zs)
  (Y:ρ x = .int J n) (V:ρ y = .int G n) (h:Sep Bs w0 w L) (hr:et_ bytes z n=some r) :
  ∃A' w',(execOp ρ o).run P w = .ok (.value (.slice A' n.toNat n.toNat)) w'/\Sep Bs w0 w' (.row e c A' n.toNat n.toNat (List.replicate n.toNat zs)::L)/\Ext w w':=by
 obtain⟨Z,i,z',hi,j,u,F,s,O⟩:=D;obtain⟨h0,h1,h2,_⟩:=ng_ hr;subst u;subst F;have p:zs=z'.cells.toList:=by
  simp only[zeroOf,hi,j,qOi]at M;exact M.symm
 have U:=Go.run_make (P:=P) (w:=w) t e i z' Z hi j J G n n h0 (qt _) h2 h1;have f:zs.length=i.size:=by rw[p,qq];exact s
 have C:(madeCells z'.cells (n.toNat*i.size))=(List.replicate n.toNat zs).flatten.toArray:=by
  rw[ew_,f,p]
 have q:=h.row_new e i.size n.toNat (List.replicate n.toNat zs) (by simp) (λr hr=>by rw[jY hr,f]) (by apply jQ;omega);refine⟨some ⟨w.heap.size,0,none⟩,w.alloc (.cells (List.replicate n.toNat zs).flatten.toArray e),?_,q,Ext.one w _⟩;unfold execOp;rw[C]at U;simp[ho,Y,V,U]
theorem pR_{t e c bytes:Nat}{x y:tI}{u s:IntKind}{n:Int}{α:Type}{z:α}{r:tL α}(O:o.op = .makeSlice t x y)(p:mL_ P t e c bytes)
  (J:ρ x = .int u 0) (G:ρ y = .int s n) (h:Sep Bs w0 w L) (hr:et_ bytes z n=some r) :
  ∃A' w',(execOp ρ o).run P w = .ok (.value (.slice A' 0 n.toNat)) w'/\Sep Bs w0 w' (.row e c A' 0 n.toNat []::L)/\Ext w w':=by
 obtain⟨M,i,z',hi,f,j,q,F,C⟩:=p;obtain⟨h0,Z,Y,_⟩:=ng_ hr;subst j;subst q;have U:=Go.run_make (P:=P) (w:=w) t e i z' M hi f u s 0 n (qt _) h0 Y Z;refine⟨some ⟨w.heap.size,0,none⟩,w.alloc (.cells (madeCells z'.cells (n.toNat*i.size)) e),?_,?_,Ext.one w _⟩
 .unfold execOp;simp[O,J,G,U]
 .refine h.add (Ext.one w _) ⟨?_,rfl,λr hr=>by cases hr⟩ (λk V => ?_)
  .exact World.ownsRow_made (base:=0) (e:=e) w _ n.toNat (qO _) (by unfold maxLen;omega) (by simp[madeCells])
  .obtain⟨a,D,rfl⟩:=V;simp only[qOi]at D;subst D;exact qE _
theorem pT_{c:Nat}:∀{rows:tL (tL tW)} {i:Nat} {r r':tL tW},(∀r∈rows,r.length=c)->rows[i]? = some r->r'.length=c ->
  (rows.set i r').flatten=rows.flatten.take (i*c)++r'++rows.flatten.drop (i*c+c)
 | [],i,r,r',_,h,_=>by simp at h
 | x::rows,0,r,r',hr,h,j=>by
  have f:x.length=c:=hr x (by simp);simp[←f]
 | x::rows,i+1,r,r',hr,h,j=>by
  have f:x.length=c:=hr x (by simp);have p:=pT_ (rows:=rows) (i:=i) (r:=r) (r':=r') (λr h=>hr r (qG _ h)) (by simpa using h) j;simp only[List.set_cons_succ,zw,p];have q:(i+1)*c=x.length+i*c:=by rw[f,jc];omega
  rw[q,List.take_length_add_append,zG,List.drop_length_add_append];simp
theorem mN_{T:tN}{x y:tI}{v:tW}{k e c n cap b off p j i:Nat}{A:tO Addr}{rows:tL (tL tW)}{r r':tL tW}
  (ho:o.op = .store T x y) (hx:ρ x = .pointer (some ⟨b,p,none⟩)) (hy:ρ y=v) (h:Sep Bs w0 w L) (hi:L[k]? = some (.row e c A n cap rows)) (hA:A=some ⟨b,off,none⟩) (hr:rows[i]? = some r)
  (hp:p=off+i*c+j) (hs:aO_ P T=some v.cells.size) (ZY:Nat.ble (j+v.cells.size) c=true) (h1:bH_ v.cells.toList=true) (M:splice r j v.cells.toList=r') :
  ∃w',(execOp ρ o).run P w = .ok .skip w'/\Sep Bs w0 w' (L.set k (.row e c A n cap (rows.set i r')))/\Grow w w'/\∀q,q≠b->w'.heap[q]? = w.heap[q]? := by
 obtain⟨O,C,s⟩:=h.hold _ (qw hi);have ZU:=(qj.1 hr).1;have J:r.length=c:=s r (qw hr);have ZV:j+v.cells.size<=c:=by simpa using ZY
 rcases O.2 with⟨_,h0⟩|⟨g,cap',cur,hv,_,hh,U,ZX,Y,G⟩
 .omega
 .injection hv with e1 _ e3;subst e3;rw[hA]at e1;simp only[qOi,Addr.mk.injEq]at e1;obtain⟨rfl,rfl,_⟩:=e1;have ZS:i*c+c<=n*c:=by rw[←jc];exact qu c (by omega)
  have ZW:n*c<=cap*c:=qu c U;have V:p+v.cells.size<=cur.toList.length:=by rw[qq,Y];omega
  have Z:=eB_ (P:=P) (w:=w) ho hx hy (cs:=cur.toList) (T':=e) (by simpa using hh) hs (by apply jQ;exact V) h1;have u:r'.length=c:=by
   subst M;unfold splice;simp only[qLa,qA,qC,qq];omega
  have D:(rows.set i r').flatten=(splice cur.toList p v.cells.toList).take (n*c):=by
   rw[pT_ s hr u,←G,←M];have ZZ:r=(cur.toList.drop (i*c)).take c:=by
    apply je;intro q;by_cases f:q<c
    .have:=fZ_ s hr q _ (qY (by rw[J];exact f));rw[←G,zp]at this;rw[qL (by omega)]at this;rw[qY (by rw[J];exact f),zp,qL f,zW,this]
    .rw[qe (by omega),qe (by simp;omega)]
   rw[ZZ];subst hp
   apply je;intro q;simp only[splice,List.getElem?_append,zp,zW,qA,qC,qLa,qq];have ZT:cur.size=cap*c:=Y
   repeat' split
   all_goals first
    | rfl
    | omega
    | (congr 1;omega)
    | (exfalso;omega)
  refine⟨_,Z,?_,dn_ w b _,λq f=>cm_ w b q _ f⟩;refine h.turn k hi trivial ⟨⟨?_,.inr ⟨b,cap,(splice cur.toList p v.cells.toList).toArray,by rw[hA],qO _,eG_ w b _ cur e hh,U,ZX,?_,?_⟩⟩,by simpa using C,?_⟩ (dn_ w b _)
   (λq _ f=>cm_ w b q _ (λe=>f (by subst e;exact⟨_,hA,rfl⟩))) (λq f => .inl f)
  .rw[av_ (c:=c),jF,C];intro q f;rcases List.mem_or_eq_of_mem_set f with F|F
   .exact s q F
   .rw[F];exact u
  .simp only[jA,splice,qLa,qA,qC,qq];omega
  .rw[D]
  .intro q f;rcases List.mem_or_eq_of_mem_set f with F|F
   .exact s q F
   .rw[F];exact u
theorem foldl_push(ns:tL Int):∀(s:tQ),ns.foldl (λr n=>r.push (UInt8.ofNat n.toNat)) s=⟨(s.data.toList++bytesS ns).toArray⟩:=by
 induction ns with
 | nil=>intro s;simp[bytesS]
 | cons n ns f =>
  intro s;rw[List.foldl_cons,f]
  congr 1
  have:(s.push (UInt8.ofNat n.toNat)).data.toList=s.data.toList++[UInt8.ofNat n.toNat]:=by
   cases s;simp[ByteArray.push]
  rw[this];simp[bytesS]
theorem ty_{src dst e:tN}{x:tI}{n cap:Nat}{A:tO Addr}{F:Nat->Prop}{ns:tL Int}(D:o.op = .convert src dst x)(h:P.underlying src=some (.slice e))(U:P.underlying e=some (.int .u8))(V:P.underlying dst=some .string)
  (C:ρ x = .slice A n cap) (s:SlF F 1 A n (ns.map λb=>[Value.int .u8 b]) w):(execOp ρ o).run P w = .ok (.value (S (bytesS ns))) w:=by
 have p:ns.length=n:=by have:=s.1;simpa using this
 have main:(Conv.bytesToString (.slice A n cap)).run P w = .ok (S (bytesS ns)) w:=by
  cases A with
  | none =>
   have G:ns=[]:=by
    rcases zA n with y|y
    .exact jV (by omega)
    .obtain⟨b,off,O,_⟩:=s.2 y;cases O
   subst G;rfl
  | some ad =>
   have M:(loadCells ad n).run P w = .ok (ns.map (Value.int .u8)).toArray w:=by
    have:=run_loadCells_list (P:=P) w ad (ns.map (Value.int .u8)) (λj v f=>by
     rw[zF]at f;cases q:ns[j]? with
     | none=>rw[q]at f;cases f
     | some Z =>
      rw[q]at f;simp only[zn,qOi]at f;subst f;have J:=(qj.1 q).1;obtain⟨b,off,u,_,Y⟩:=s.2 (by omega);simp only[qOi]at u;subst u;have:=(Y j [Value.int .u8 Z] (by rw[zF,q];rfl)).2 0 _ rfl;rw[Addr.add_mk];simpa using this)
    rw[ql,p]at this;exact this
   rw[run_bytesToString (P:=P) w ad n cap ns M,foldl_push];rfl
 unfold execOp;simp only[D,C];rw[Sem.run_bind,run_convert_bytes_string (P:=P) w src dst e A n cap h U V,main];rfl
def cutA(A:tO Addr)(c l m:Nat):tO Addr:=if m=l then A else A.map (·.add (l*c))
theorem run_cut{t e c n cap:Nat}{x:tI}{lo hi:tO tI}{A:tO Addr}(u:o.op = .slice t x lo hi none)(s:P.underlying t=some (.slice e))(p:aO_ P e=some c)(q:ρ x = .slice A n cap)
  {l h:tO Int} (y:in_ ρ lo l) (C:in_ ρ hi h) (G:0<=l.getD 0) (F:l.getD 0<=h.getD n) (D:h.getD n<=cap) :
  (execOp ρ o).run P w = .ok (.value (.slice (cutA A c (l.getD 0).toNat cap) ((h.getD n).toNat-(l.getD 0).toNat) (cap-(l.getD 0).toNat))) w:=by
 unfold aO_ at p;cases j:P.info? e with
 | none=>simp[j]at p
 | some inf =>
  have f:inf.size=c:=by simpa[j]using p
  unfold execOp;simp only[u,q,Option.map_none];simp[Instr.sliceAt,Instr.slice,run_underlying s,sizeOf,typeInfo,j,f,mK_ (P:=P) (w:=w) true y C G F D,cutA]
theorem SlF.cut{F:Nat->Prop}{c n cap:Nat}{A:tO Addr}{rows:tL (tL tW)}(h:SlF F c A n rows w)(f:n<=cap){lo hi:Nat}(p:lo<=hi)(j:hi<=n) :
  SlF F c (cutA A c lo cap) (hi-lo) ((rows.take hi).drop lo) w:=(h.take j).drop p (zQ j f)
def Ret(P:tT)(f:FuncId)(args:Array tW)(w:tS)(R:tW->tS->Prop):Prop:=Calls P f args w λe w'=>∃v,e = .returned v/\R v w'
theorem Ret.mono{f:FuncId}{args:Array tW}{R R':tW->tS->Prop}(h:Ret P f args w R)(p:∀v w',R v w'->R' v w'):Ret P f args w R' :=
 Calls.mono h λ_ _ ⟨v,j,hr⟩=>⟨v,j,p _ _ hr⟩
end
def lp_:Nat->tL tW->tL (Nat×tW)|_,[]=>[]|i,v::r=>(i,v)::lp_ (i+1) r
theorem pU_:∀(l:tL tW) (i t:Nat) (v:tW),look t (lp_ i l)=some v->i<=t/\l[t-i]? = some v
 | [],i,t,v,h=>by simp[lp_,look]at h
 | x::r,i,t,v,h=>by
  simp only[lp_,look]at h;cases f:Nat.beq t i with
  | true =>
   rw[f]at h;obtain rfl:t=i:=qNb f;simpa using h
  | false =>
   rw[f]at h;have j:=bv_ f;obtain⟨q,p⟩:=pU_ r (i+1) t v h;refine⟨by omega,?_⟩;have:t-i=(t-(i+1))+1:=by omega
   rw[this];simpa using p
section
variable{P:tT}{w w' w0:tS}{N:Nat}{a:Act}{env:tL (Nat×tW)}{Q:Exit->Act->tS->Prop}{Bs:tL Nat}{L:tL Res}
theorem enter{f:FuncId}{fn:Func}{c:Code}{args:Array tW}{R:tW->tS->Prop}(u:P.funcs[f]? = some fn)(x:fn.body=some c)(y:fn.ntmps=N)(p:Nat.ble args.size N=true)
  (h:∀a,Env N a (lp_ 0 args.toList)->c.wp P (bodyPost P fn λe w'=>∃v,e = .returned v/\R v w') a w):Ret P f args w R:=by
 refine calls_of_wp u x (h _ ⟨?_,rfl,λt v s => ?_⟩)
 .have:=zD p;simp[y];omega
 .obtain⟨_,q⟩:=pU_ _ _ _ _ s;simp only[Nat.sub_zero]at q;have j:=(qj.1 q).1;rw[Array.getElem?_append_left (by simpa using j)];simpa using q
inductive ResIs(P:tT)(env:tL (Nat×tW))(w0 w:tS)(L:tL Res):ResultVar->tW->Prop
 | tmp {t v} (h:look t env=some v):ResIs P env w0 w L (.tmp t) v
 | cell {t T T' b v} {cs:tL tW} {i:Nat} (h:look t env=some (.pointer (some ⟨b,0,none⟩))) (hi:L[i]? = some (.box b T' cs)) (hv:eA_ P T cs 0=some v):ResIs P env w0 w L (.cell t T) v
inductive AllRes(P:tT)(env:tL (Nat×tW))(w0 w:tS)(L:tL Res):tL ResultVar->tL tW->Prop
 | nil:AllRes P env w0 w L [] []
 | cons {r v rs vs} (h:ResIs P env w0 w L r v) (t:AllRes P env w0 w L rs vs):AllRes P env w0 w L (r::rs) (v::vs)
def ld_:tL tW->tW | [v]=>v|vs => .tuple vs.toArray
def fK_(tmps:Array tW):ResultVar->Sem tW
 | .tmp t=>pure (tmps.getD t undef)
 | .cell x t=>do loadVar t (←asAddr (tmps.getD x undef))
theorem qO_(fn:Func)(tmps:Array tW):results fn tmps=(do let vs ←fn.results.mapM (fK_ tmps);pure (if h:vs.size=1 then vs[0]else .tuple vs)):=by
 unfold results
 congr 2
theorem pV_(q:Env N a env)(u:Sep Bs w0 w L):∀{rs:tL ResultVar} {vs:tL tW},AllRes P env w0 w L rs vs->(rs.mapM (fK_ a.tmps)).run P w = .ok vs w
 | [],[],.nil=>rfl
 | r::rs,v::vs,.cons h t=>by
  have s:=pV_ q u t;rw[List.mapM_cons,Sem.run_bind];cases h with
  | @tmp t _ j =>
   have:a.tmps.getD t undef=v:=by rw[Array.getD_eq_getD_getElem?,q.get _ _ j];rfl
   simp only[fK_,this,Sem.run_pure,Result.andThen_ok,Sem.run_bind,s]
  | @cell t T T' b _ cs i j hi x =>
   have:a.tmps.getD t undef = .pointer (some ⟨b,0,none⟩):=by rw[Array.getD_eq_getD_getElem?,q.get _ _ j];rfl
   have f:=d4_ (P:=P) (base:=0) x (u.box_cell hi);rw[qh]at f;have p:(asAddr (.pointer (some ⟨b,0,none⟩))).run P w = .ok ⟨b,0,none⟩ w:=rfl;have y:(fK_ a.tmps (.cell t T)).run P w = .ok v w:=by
    simp only[fK_,this,Sem.run_bind,p,Result.andThen_ok,f]
   rw[y];simp only[Sem.run_pure,Result.andThen_ok,Sem.run_bind,s]
theorem run_out{fn:Func}{rs:tL ResultVar}{vs:tL tW}(f:fn.results=rs.toArray)(q:Env N a env)(p:Sep Bs w0 w L)(h:AllRes P env w0 w L rs vs):(results fn a.tmps).run P w = .ok (ld_ vs) w:=by
 have j:=pV_ q p h;rw[qO_,f,List.mapM_toArray,Sem.run_bind];have:((Functor.map List.toArray (rs.mapM (fK_ a.tmps))).run P w) = .ok vs.toArray w:=by
  rw[map_eq_pure_bind,Sem.run_bind,j];rfl
 rw[this];simp only[Result.andThen_ok,Sem.run_pure]
 congr 1
 match vs with
 | []=>rfl
 | [v]=>rfl
 | v::u::r=>simp[ld_]
theorem out{fn:Func}{R:tW->tS->Prop}{rs:tL ResultVar}{vs:tL tW}(f:fn.results=rs.toArray)(j:Env N a env)(p:Sep Bs w0 w L)(h:AllRes P env w0 w L rs vs)(q:R (ld_ vs) w) :
  bodyPost P fn (λe w'=>∃v,e = .returned v/\R v w') .ret a w :=
 ⟨j.defers,_,run_out f j p h,_,rfl,q⟩
theorem c_true{t:Nat}{b:tV}{x y:Code}(p:Env N a env)(f:look t env=some (.bool b))(j:b=true)(h:x.wp P Q a w):(Code.cond (.tmp t) x y).wp P Q a w :=
 wp_cond_true (by rw[p.eval (x := .tmp t) f,j]) h
theorem c_false{t:Nat}{b:tV}{x y:Code}(p:Env N a env)(f:look t env=some (.bool b))(j:b=false)(h:y.wp P Q a w):(Code.cond (.tmp t) x y).wp P Q a w :=
 wp_cond_false (by rw[p.eval (x := .tmp t) f,j]) h
theorem ka_{x y:Code}(J:Act->tS->Prop)(f:∀a w,J a w->y.wp P Q a w)(j:x.wp P (Exit.then J Q) a w):(Code.seq x y).wp P Q a w :=
 wp_seq (wp_mono j λe a w h=>by cases e<;>first|exact f _ _ h|exact h)
theorem b_join{id:Nat}{c:Code}(J:Act->tS->Prop)(f:∀a w,J a w->Q .normal a w)(j:c.wp P (λe a w=>match e with | .normal=>J a w | .exit i=>if i=id then J a w else Q (.exit i) a w|e=>Q e a w) a w):(Code.block id c).wp P Q a w :=
 wp_block (wp_mono j λe a w h=>by
  cases e with
  | normal=>exact f _ _ h
  | exit i=>simp only[Exit.inBlock]at h ⊢;split at h<;>rename_i p<;>simp only[p,zT,zY]<;>first|exact f _ _ h|exact h
  | _=>exact h)
theorem iG_{id:Nat}{l:tL tP}(h:wpList P l.toArray Q l a w):(Code.region id l.toArray false).wp P Q a w:=wp_region_lit h
inductive Step(σ β:Type) where
 | next (s:σ)
 | done (b:β)
def af_{σ β:Type}(body:σ->tO (Step σ β)):Nat->σ->tO β
 | 0,_=>none
 | n+1,s=>match body s with
  | none=>none
  | some (.next s')=>af_ body n s'
  | some (.done b)=>some b
def BIG:Nat:=18446744073709551616
theorem lS_{σ β:Type}{body:σ->tO (Step σ β)}{x:Nat}{p:σ}{out:β}{c:Code}(D:af_ body x p=some out)(R:σ->Act->tS->Prop)(F:R p a w)
  (round:∀s a w,R s a w->∀st,body s=some st->(∀b,st = .done b->b=out)->c.wp P (Exit.then (λy w'=>∃s',st = .next s'/\R s' y w') Q) a w):(Code.loop c).wp P Q a w:=by
 refine wp_loop_ghost (λn a w=>∃s,af_ body n s=some out/\R s a w) x ⟨p,D,F⟩ ?_
 rintro n a w ⟨s,j,C⟩;cases n with
 | zero=>cases j
 | succ n =>
  simp only[af_]at j;cases q:body s with
  | none=>rw[q]at j;cases j
  | some st =>
   rw[q]at j;refine wp_mono (round s a w C st q λb f => ?_) λe y w' h => ?_
   .subst f;simpa using j
   .cases e with
    | normal =>
     obtain⟨s',f,u⟩:=h;subst f;exact⟨n,Nat.lt_succ_self n,s',j,u⟩
    | _=>exact h
end
section
variable{P:tT}{ops:tL tP}{Q:Exit->Act->tS->Prop}{a:Act}{w w0:tS}{rest:tL tP}{o:tP}{N:Nat}{env:tL (Nat×tW)}{Bs:tL Nat}{L L':tL Res}
theorem go_box(p:Env N a env)(x:Sep Bs w0 w L)(s:gate ops env o=some true)(d:Nat)(u:o.dst=some d)(y:Nat.blt d N=true)(T:tN)(cs:tL tW)
  (q:∀r,lR_ P env r o=some (.cells cs.toArray T (0,0),.value (.pointer (some ⟨r,0,none⟩))))
  (h:∀f w' b,Ext w w'->Env N f ((d,.pointer (some ⟨b,0,none⟩))::env)->Sep Bs w0 w' (.box b T cs::L)->wpList P ops.toArray Q rest f w'):wpList P ops.toArray Q (o::rest) a w :=
 gp_ p s d u y _ (oh_ p (q _)) λf j=>h f _ w.heap.size (Ext.one w _) j (x.box_new T cs)
theorem go_slice(p:Env N a env)(C:Sep Bs w0 w L)(x:gate ops env o=some true)(d:Nat)(y:o.dst=some d)(D:Nat.blt d N=true)(e c n:Nat)(rows:tL (tL tW))
  (q:∀r,lR_ P env r o=some (.cells rows.flatten.toArray e (0,0),.value (.slice (some ⟨r,0,none⟩) n n))) (s:rows.length=n) (hr:∀r∈rows,r.length=c) (u:Nat.ble n 9223372036854775807=true)
  (h:∀f w' A,Ext w w'->Env N f ((d,.slice A n n)::env)->Sep Bs w0 w' (.row e c A n n rows::L)->wpList P ops.toArray Q rest f w'):wpList P ops.toArray Q (o::rest) a w :=
 gp_ p x d y D _ (oh_ p (q _)) λf j=>h f _ _ (Ext.one w _) j (C.row_new e c n rows s hr u)
theorem go_set(p:Env N a env)(J:Sep Bs w0 w L)(D:gate ops env o=some true)(F:o.dst=none){T:tN}{x y:tI}{v:tW}(i:Nat){b off:Nat}{T':tN}{cs:tL tW}(C:o.op = .store T x y)
  (s:opv env x=some (.pointer (some ⟨b,off,none⟩))) (q:opv env y=some v) (hi:L[i]? = some (.box b T' cs)) (u:aO_ P T=some v.cells.size) (f:Nat.ble (off+v.cells.size) cs.length=true)
  (O:bH_ v.cells.toList=true) (cs':tL tW) (G:splice cs off v.cells.toList=cs') (M:L.set i (.box b T' cs')=L')
  (h:∀w',Sep Bs w0 w' L'->wpList P ops.toArray Q rest a w'):wpList P ops.toArray Q (o::rest) a w:=by
 obtain⟨w',hr,j,_,_⟩:=tw_ (P:=P) C (p.eval s) (p.eval q) J hi u f O G;exact st_skip p D F hr (h w' (M▸j))
theorem go_put(D:Env N a env)(Y:Sep Bs w0 w L)(U:gate ops env o=some true)(V:o.dst=none){T:tN}{x y:tI}{v:tW}(k:Nat){e c n cap b off p j i:Nat}{A:tO Addr}{rows:tL (tL tW)}{r r':tL tW}
  (O:o.op = .store T x y) (G:opv env x=some (.pointer (some ⟨b,p,none⟩))) (F:opv env y=some v) (hi:L[k]? = some (.row e c A n cap rows)) (hA:A=some ⟨b,off,none⟩) (hr:rows[i]? = some r)
  (M:p=off+i*c+j) (J:aO_ P T=some v.cells.size) (u:Nat.ble (j+v.cells.size) c=true) (h1:bH_ v.cells.toList=true) (s:splice r j v.cells.toList=r') {rows':tL (tL tW)} (f:rows.set i r'=rows')
  (Z:L.set k (.row e c A n cap rows')=L') (h:∀w',Sep Bs w0 w' L'->wpList P ops.toArray Q rest a w'):wpList P ops.toArray Q (o::rest) a w:=by
 obtain⟨w',q,C,_,_⟩:=mN_ (P:=P) O (D.eval G) (D.eval F) Y hi hA hr M J u h1 s;subst f;subst Z;exact st_skip D U V q (h w' C)
theorem go_app(U:Env N a env)(hS:Sep Bs w0 w L)(hg:gate ops env o=some true)(d:Nat)(hd:o.dst=some d)(hN:Nat.blt d N=true){t e c bytes:Nat}{x y:tI}(k:Nat){n cap m cap2:Nat}{A Y:tO Addr}{rows news:tL (tL tW)}{F:Nat->Prop}
  {α:Type} {xs V r:tL α} (ho:o.op = .call { callee := .builtin .append,args := #[x,y],argTypes := #[t,t] }) (J:mL_ P t e c bytes) (hx:opv env x=some (.slice A n cap)) (Z:opv env y=some (.slice Y m cap2))
  (hi:L[k]? = some (.row e c A n cap rows)) (hs:SlF F c Y m news w) (p:lc_ news) (C:xs.length=n) (u:V.length=m) (hr:room bytes xs V=some r) (D:∀q∈news,q.length=c)
  {rows':tL (tL tW)} (f:rows++news=rows') {n':Nat} (G:n+m=n')
  (h:∀s w' A' cap',Env N s ((d,.slice A' n' cap')::env)->Sep Bs w0 w' (L.set k (.row e c A' n' cap' rows'))->wpList P ops.toArray Q rest s w'):wpList P ops.toArray Q (o::rest) a w:=by
 obtain⟨A',cap',w',j,M,_,_⟩:=nf_ (P:=P) ho J (U.eval hx) (U.eval Z) hS hi hs p C u hr D;subst f;subst G;exact gp_ U hg d hd hN _ j λs O=>h s w' A' cap' O M
end
section
variable{P:tT}{ops:tL tP}{Q:Exit->Act->tS->Prop}{a:Act}{w w0 w':tS}{rest:tL tP}{o:tP}{N:Nat}{env:tL (Nat×tW)}{Bs:tL Nat}{L L':tL Res}
 {F:Nat->Prop} {c n cap:Nat} {A:tO Addr} {rows:tL (tL tW)} {ρ:tI->tW}
theorem ld_box{T T':tN}{x:tI}{b off:Nat}{cs:tL tW}{v:tW}(q:Env N a env)(p:Sep Bs w0 w L)(i:Nat)(j:o.op = .load T x)(f:opv env x=some (.pointer (some ⟨b,off,none⟩)))(hi:L[i]? = some (.box b T' cs))
  (h:eA_ P T cs off=some v):(execOp a.eval o).run P w = .ok (.value v) w:=run_load_box j (q.eval f) p hi h
def EqIs(P:tT)(t:tN)(x y:tW)(b:tV):Prop:=P.eqGuardType P.depth t=false/\∀w,(Op.equalIn 10000 t x y).run P w = .ok b w
theorem run_agg_eql{t yt:tN}{x y:tI}{xs f:Array tW}{b:tV}(q:o.op = .binOp .eql t x y yt)(p:ρ x = .agg xs)(j:ρ y = .agg f)(h:EqIs P t (.agg xs) (.agg f) b) :
  (execOp ρ o).run P w = .ok (.value (.bool b)) w:=by
 unfold execOp;simp only[q,p,j];rw[Sem.run_bind,Sem.run_bind,run_eqGuard_agg w _ t x y xs f h.1];simp only[Result.andThen_ok,run_eql_struct,h.2];rfl
theorem run_agg_neq{t yt:tN}{x y:tI}{xs f:Array tW}{b:tV}(q:o.op = .binOp .neq t x y yt)(p:ρ x = .agg xs)(j:ρ y = .agg f)(h:EqIs P t (.agg xs) (.agg f) b) :
  (execOp ρ o).run P w = .ok (.value (.bool (!b))) w:=by
 unfold execOp;simp only[q,p,j];rw[Sem.run_bind,Sem.run_bind,run_eqGuard_agg w _ t x y xs f h.1];simp only[Result.andThen_ok,run_neq_struct,h.2];rfl
end
def andI(k:IntKind)(x y:Int):Int:=k.wrap (BitVec.ofInt k.bits x&&&BitVec.ofInt k.bits y).toNat
def le_(k:IntKind)(x y:Int):Int:=k.wrap (BitVec.ofInt k.bits x &&& ~~~(BitVec.ofInt k.bits y)).toNat
def maxI(x y:Int):Int:=if y>x then y else x
def cz_(x y:Int):Int:=if y<x then y else x
theorem run_bool_eql{P:tT}{ρ:tI->tW}{w:tS}{o:tP}{t yt:tN}{x y:tI}{b c:tV}(p:o.op = .binOp .eql t x y yt)(j:P.underlying t=some .bool)(h:ρ x = .bool b)(f:ρ y = .bool c):(execOp ρ o).run P w = .ok (.value (.bool (b==c))) w:=by
 unfold execOp;simp only[p,h,f];simp[eqGuard,run_eql_bool w t b c j]
theorem run_bool_neq{P:tT}{ρ:tI->tW}{w:tS}{o:tP}{t yt:tN}{x y:tI}{b c:tV}(p:o.op = .binOp .neq t x y yt)(j:P.underlying t=some .bool)(h:ρ x = .bool b)(f:ρ y = .bool c):(execOp ρ o).run P w = .ok (.value (.bool (!(b==c)))) w:=by
 unfold execOp;simp only[p,h,f];simp[eqGuard,run_neq_bool w t b c j]
def eqFs(P:tT)(f:tN->tW->tW->tO tV)(xs h:Array tW):tL Field->tO tV
 | []=>some true
 | g :: fs => match g.name == "_", dH_ P (part g.type xs g.offset), dH_ P (part g.type h g.offset) with
  | false,some a,some b=>match f g.type a b,eqFs P f xs h fs with
   | some r,some s=>some (r&&s)
   | _,_=>none
  | _,_,_=>none
def eqArr(P:tT)(f:tN->tW->tW->tO tV)(e:tN)(xs h:Array tW):tL Nat->tO tV
 | []=>some true
 | i::is=>match dH_ P (part e xs (i*P.cellsOf e)),dH_ P (part e h (i*P.cellsOf e))with
  | some a,some b=>match f e a b,eqArr P f e xs h is with
   | some r,some s=>some (r&&s)
   | _,_=>none
  | _,_=>none
def eqV(P:tT):Nat->tN->tW->tW->tO tV
 | 0,_,_,_=>none
 | n+1,t,x,y=>match P.underlying t,x,y with
  | some .bool,.bool a,.bool b=>some (a==b)
  | some (.int _),.int k a,.int h b=>match decide (k=h)with|true=>some (a==b)|false=>none
  | some .string,.string a,.string b=>some (a.toList==b.toList)
  | some (.struct fs),.agg xs,.agg f=>match P.stoodInHeld t with|false=>eqFs P (eqV P n) xs f fs.toList|true=>none
  | some (.array m e),.agg xs,.agg f=>match P.info? e with|some _=>eqArr P (eqV P n) e xs f (List.range m)|none=>none
  | _,_,_=>none
theorem eqArr_run{P:tT}{w:tS}{f:tN->tW->tW->tO tV}{d:Nat}(p:∀t x y b,f t x y=some b->(Op.equalIn d t x y).run P w = .ok b w){e:tN}{xs j:Array tW} :
  ∀{is:tL Nat} {b:tV},eqArr P f e xs j is=some b->(Op.eqItems d e (P.cellsOf e) xs j is).run P w = .ok b w
 | [],b,h=>by simp only[eqArr,qOi]at h;subst h;rfl
 | i::is,b,h=>by
  simp only[eqArr]at h;split at h
  .rename_i u v F D;split at h
   .rename_i r s hr C;simp only[qOi]at h;subst h;have q:=eqArr_run p C;simp only[Op.eqItems,Sem.run_bind,ek_ F w,Result.andThen_ok,ek_ D w,p _ _ _ _ hr];cases r with
    | true=>simp only[qN,qM,zY,q,qm]
    | false=>simp only[qf,zT,Sem.run_pure,zd]
   .cases h
  .cases h
theorem eqFs_run{P:tT}{w:tS}{f:tN->tW->tW->tO tV}{d:Nat}(q:∀t x y b,f t x y=some b->(Op.equalIn d t x y).run P w = .ok b w){xs p:Array tW} :
  ∀{fs:tL Field} {b:tV},eqFs P f xs p fs=some b->(Op.eqFields d xs p fs).run P w = .ok b w
 | [],b,h=>by simp only[eqFs,qOi]at h;subst h;rfl
 | g::fs,b,h=>by
  simp only[eqFs]at h;split at h
  .rename_i u v F J G;split at h
   .rename_i r s hr D;simp only[qOi]at h;subst h;have C:=eqFs_run q D
    have j : g.name ≠ "_" := by simpa using F
    simp only[Op.eqFields];rw[qL j];simp only[Sem.run_bind,ek_ J w,Result.andThen_ok,ek_ G w,q _ _ _ _ hr];cases r with
    | true=>simp only[qN,qM,zY,C,qm]
    | false=>simp only[qf,zT,Sem.run_pure,zd]
   .cases h
  .cases h
theorem eqV_run{P:tT}{w:tS}:∀{n d:Nat} {t:tN} {x y:tW} {b:tV},eqV P n t x y=some b->(Op.equalIn (d+n) t x y).run P w = .ok b w
 | 0,d,t,x,y,b,h=>by cases h
 | n+1,d,t,x,y,b,h=>by
  simp only[eqV]at h;split at h
  .rename_i f;simp only[qOi]at h;subst h;exact run_equalIn_bool' w _ t _ _ f
  .rename_i f;split at h
   .rename_i q;simp only[qDe]at q;subst q;simp only[qOi]at h;subst h;exact run_equalIn_int w _ t _ _ _ _ f
   .cases h
  .rename_i f;simp only[qOi]at h;subst h;exact run_equalIn_string w _ t _ _ f
  .rename_i fs xs p f;split at h
   .rename_i s;have j:P.fieldsOf t=fs:=by simp[Program.fieldsOf,f]
    rw[←zG,run_equalIn_struct w _ t xs p (by rw[j];exact f) s,j];exact eqFs_run (λt x y b h=>eqV_run (n:=n) (d:=d) h) h
   .cases h
  .rename_i m e xs p f;split at h
   .rename_i i hi;rw[←zG,run_equalIn_array w (d+n) xs p f hi];exact eqArr_run (λt x y b h=>eqV_run (n:=n) (d:=d) h) h
   .cases h
  .cases h
theorem pv_{P:tT}{t:tN}{x y:tW}{b c:tV}(n:Nat)(f:Nat.ble n 10000=true)(j:P.eqGuardType P.depth t=false)(h:eqV P n t x y=some b)(p:b=c):EqIs P t x y c:=by
 subst p;refine⟨j,λw => ?_⟩;have:=eqV_run (w:=w) (d:=10000-n) h;have e:10000-n+n=10000:=Nat.sub_add_cancel (zD f)
 rwa [e]at this
def boundI(n:Nat)(i:Int):tO Unit:=if 0<=i/\i<n then some ()else none
theorem boundI_some{n:Nat}{i:Int}{u:Unit}(h:boundI n i=some u):0<=i/\i<n:=by
 unfold boundI at h;split at h
 .assumption
 .cases h
theorem ot_{P:tT}{ρ:tI->tW}{w:tS}{o:tP}{t e n c b off:Nat}{x y:tI}{k:IntKind}{i:Int}{u:Unit}(C:o.op = .indexAddr t x y)(s:P.underlying t=some (.array n e))(j:aO_ P e=some c)
  (q:ρ x = .pointer (some ⟨b,off,none⟩)) (p:ρ y = .int k i) (hi:boundI n i=some u):(execOp ρ o).run P w = .ok (.value (.pointer (some ⟨b,off+i.toNat*c,none⟩))) w:=by
 obtain⟨F,D⟩:=boundI_some hi;unfold aO_ at j;cases h:P.info? e with
 | none=>simp[h]at j
 | some inf =>
  have f:inf.size=c:=by simpa[h]using j
  unfold execOp;simp[C,q,p,Instr.indexAt,asIntOf,run_underlying s,sizeOf,typeInfo,h,f,F,D,Addr.add_mk,Instr.sureAddr]
def strings_Count(s sub:tX):tO Int:=match sub with | [c]=>some (s.count c:Nat)|_=>none
inductive Out(σ ρ:Type) where
 | fall (s:σ)
 | ret (r:ρ)
def nthI(xs:tL Int)(j:Nat):Int:=xs.getD j 0
def aG_(s:tX):tL Int:=s.map λb=>(b.toNat:Int)
def idxK{α:Type}(eq:α->α->tV)(x:α):tL α->tO Nat
 | []=>none
 | y::f=>match eq x y with
  | true=>some 0
  | false=>match idxK eq x f with
   | some i=>some (i+1)
   | none=>none
def mgetD{α β:Type}(eq:α->α->tV):tL α->tL β->α->β->β|y::f,v::vs,x,d=>bif eq x y then v else mgetD eq f vs x d|_,_,_,d=>d
noncomputable def both{R:Type}(x y:tO R):tO R := @ite _ (x=y) (Classical.propDecidable _) x none
theorem both_some{R:Type}{x y:tO R}{r:R}(h:both x y=some r):x=some r/\y=some r:=by
 unfold both at h;split at h
 .rename_i e;subst e;exact⟨h,h⟩
 .cases h
theorem lT_{R:Type}(x:tO R):both x x=x:=by
 unfold both;rw[qL rfl]
noncomputable def nilB{α R:Type}(xs:tL α)(k:tV->tO R):tO R:=match xs with | []=>both (k true) (k false)|_::_=>k false
def insN{α:Type}(by_:Nat)(xs:tL α)(i:Int)(f:tL α):tO (tL α):=match f with | []=>none|y::l=>if 0<=i/\i<=(xs.length:Int)/\(xs.length+(l.length+1))*by_<=140737488355328 then some (xs.take i.toNat++(y::l++xs.drop i.toNat))else none
def dI_:tX->UInt8->Int | [],_ => -1|b::l,c=>if b==c then 0 else if dI_ l c == -1 then -1 else dI_ l c+1
def stringslite_Index(s sub:tX):tO Int:=match sub with | [c]=>some (dI_ s c)|_=>none
def stringslite_IndexByte(s:tX)(c:Int):tO Int:=some (dI_ s c.toNat.toUInt8)
def eC_{α:Type}(xs:tL α)(n:Nat)(z:α):tL α:=xs.take n++List.replicate (xs.length-n) z
def growB(xs:tL Int)(n:Int):tO (tL Int):=bif decide (0<=n)&&decide (n<=281474976710656)then some xs else none
def jz_{α:Type}(xs f:tL α):tL α:=f.take (min f.length xs.length)++xs.drop (min f.length xs.length)
def lr_{α:Type}(xs:tL α)(n:Nat)(f:tL α):tL α:=xs.take n++jz_ (xs.drop n) f
def digF:Nat->Nat->tX | 0,_=>[]|f+1,u=>if u<10 then[UInt8.ofNat (48+u)]else digF f (u/10)++[UInt8.ofNat (48+u%10)]
def dQ_(n b:Int):tO tX:=if b=10/\0<=n/\n<=9223372036854775807 then some (digF 20 n.toNat)else none
theorem ou_{α:Type}{n:Nat}{xs:tL α}:(nilB xs λc=>bif c then some []else Option.bind (room n ([]:tL α) xs) λy=>some y)=room n [] xs:=by
 have h:∀o:tO (tL α),Option.bind o (λy=>some y)=o:=λo=>by cases o<;>rfl
 simp only[h];cases xs with
 | nil =>
  have f:room n ([]:tL α) []=some []:=by
   unfold room;rw[qL (by simp)];rfl
  simp only[nilB,qW,qZ,f];exact lT_ _
 | cons x l=>rfl
inductive Ty where
 | int (k:IntKind)
 | bool
 | str
 | sl (e:Ty)
 | st (n:Nat)
deriving DecidableEq
@[reducible] def Den (S:Nat->Type):Ty->Type
 | .int _=>Int
 | .bool=>tV
 | .str=>tX
 | .sl e=>tL (Den S e)
 | .st n=>S n
def HL(S:Nat->Type):tL Ty->Type | []=>Unit|t::ts=>Den S t×HL S ts
structure TE where
 S:Nat->Type
 cs:Nat->tL Ty
 un:∀n,S n->HL S (cs n)
 bd:∀n,HL S (cs n)->S n
 bd_un:∀n x,bd n (un n x)=x
 un_bd:∀n h,un n (bd n h)=h
 deq:∀n,tO (DecidableEq (S n))
 ty:Nat->tO Ty
 ne:∀n,cs n≠[]
 gl:Nat->tO (Σ t:Ty,Den S t)
 sb:Nat->tV
def TE.flat(E:TE):Ty->tL Ty | .st n=>E.cs n|t=>[t]
def TE.fl(E:TE):(t:Ty)->Den E.S t->HL E.S (E.flat t) | .st n,x=>E.un n x | .int _,x=>(x,()) | .bool,x=>(x,()) | .str,x=>(x,()) | .sl _,x=>(x,())
def TE.ufl(E:TE):(t:Ty)->HL E.S (E.flat t)->Den E.S t | .st n,h=>E.bd n h | .int _,h=>h.1 | .bool,h=>h.1 | .str,h=>h.1 | .sl _,h=>h.1
theorem TE.fl_ufl(E:TE)(t:Ty)(h:HL E.S (E.flat t)):E.fl t (E.ufl t h)=h:=by
 cases t<;>first|rfl|exact E.un_bd _ _
def TE.size(E:TE)(t:Ty):Nat:=(E.flat t).length
theorem TE.size_pos(E:TE)(t:Ty):0<E.size t:=by
 unfold TE.size;cases t with
 | st n=>exact zq.2 (E.ne n)
 | _=>exact Nat.zero_lt_one
structure Fz where
 F:Nat->Prop
 w:tS
def Fz.Le(a b:Fz):Prop:=∀k,a.F k->b.F k/\b.w.heap[k]? = a.w.heap[k]?
theorem Fz.Le.refl(a:Fz):a.Le a:=λ_ h=>⟨h,rfl⟩
theorem Fz.Le.trans{a b c:Fz}(h:a.Le b)(k:b.Le c):a.Le c:=λq f=>⟨(k q (h q f).1).1,(k q (h q f).1).2.trans (h q f).2⟩
inductive RD(E:TE)(z:Fz):(ts:tL Ty)->HL E.S ts->tL tW->Prop
 | nil {h}:RD E z [] h []
 | int {k n ts h vs} (r:RD E z ts h vs):RD E z (.int k::ts) (n,h) (.int k n::vs)
 | bool {b ts h vs} (r:RD E z ts h vs):RD E z (.bool::ts) (b,h) (.bool b::vs)
 | str {s ts h vs} (r:RD E z ts h vs):RD E z (.str::ts) (s,h) (S s::vs)
 | sl {e:Ty} {xs:tL (Den E.S e)} {A:tO Addr} {cap:Nat} {rows:tL (tL tW)} {ts h vs} (hs:SlF z.F (E.size e) A xs.length rows z.w) (hc:xs.length<=cap)
   (hr:∀(i:Nat) x r,xs[i]? = some x->rows[i]? = some r->RD E z (E.flat e) (E.fl e x) r) (r:RD E z ts h vs):RD E z (.sl e::ts) (xs,h) (.slice A xs.length cap::vs)
section
variable{E:TE}{z z':Fz}
theorem SlF.le{c n:Nat}{A:tO Addr}{rows:tL (tL tW)}(h:SlF z.F c A n rows z.w)(q:z.Le z'):SlF z'.F c A n rows z'.w :=
 ⟨h.1,λx=>by
  obtain⟨b,off,e,y,p⟩:=h.2 x;have f:=q b y;exact⟨b,off,e,f.1,λi r hr=>⟨(p i r hr).1,λj u s=>(World.cell?_of_block (w:=z.w) f.2).trans ((p i r hr).2 j u s)⟩⟩⟩
theorem RD.le{ts:tL Ty}{h:HL E.S ts}{vs:tL tW}(r:RD E z ts h vs)(p:z.Le z'):RD E z' ts h vs:=by
 induction r with
 | nil=>exact .nil
 | int _ f=>exact .int f
 | bool _ f=>exact .bool f
 | str _ f=>exact .str f
 | sl q s _ _ j f=>exact .sl (SlF.le q p) s (λi x r y u=>j i x r y u) f
theorem RD.nil_inv{h:HL E.S []}{vs:tL tW}(r:RD E z [] h vs):vs=[]:=by cases r;rfl
theorem RD.int_inv{k:IntKind}{ts:tL Ty}{h:HL E.S (.int k::ts)}{vs:tL tW}(r:RD E z (.int k::ts) h vs):∃vs',vs = .int k h.1::vs'/\RD E z ts h.2 vs':=by
 cases r with|int r=>exact⟨_,rfl,r⟩
theorem RD.bool_inv{ts:tL Ty}{h:HL E.S (.bool::ts)}{vs:tL tW}(r:RD E z (.bool::ts) h vs):∃vs',vs = .bool h.1::vs'/\RD E z ts h.2 vs':=by
 cases r with|bool r=>exact⟨_,rfl,r⟩
theorem RD.str_inv{ts:tL Ty}{h:HL E.S (.str::ts)}{vs:tL tW}(r:RD E z (.str::ts) h vs):∃vs',vs=S h.1::vs'/\RD E z ts h.2 vs':=by
 cases r with|str r=>exact⟨_,rfl,r⟩
theorem RD.sl_inv{e:Ty}{ts:tL Ty}{h:HL E.S (.sl e::ts)}{vs:tL tW}(r:RD E z (.sl e::ts) h vs):∃A cap rows vs',vs = .slice A h.1.length cap::vs'/\SlF z.F (E.size e) A h.1.length rows z.w/\h.1.length<=cap /\
  (∀(i:Nat) x r,h.1[i]? = some x->rows[i]? = some r->RD E z (E.flat e) (E.fl e x) r)/\RD E z ts h.2 vs':=by
 cases r with|sl f j hr r=>exact⟨_,_,_,_,rfl,f,j,hr,r⟩
theorem RD.len{ts:tL Ty}{h:HL E.S ts}{vs:tL tW}(r:RD E z ts h vs):vs.length=ts.length:=by
 induction r with
 | nil=>rfl
 | int _ f=>simp[f]
 | bool _ f=>simp[f]
 | str _ f=>simp[f]
 | sl _ _ _ _ _ f=>simp[f]
theorem RD.uncons{t:Ty}{ts:tL Ty}{h:HL E.S (t::ts)}{vs:tL tW}(r:RD E z (t::ts) h vs):∃v vs',vs=v::vs'/\RD E z [t] (h.1,()) [v]/\RD E z ts h.2 vs':=by
 cases r with
 | int r=>exact⟨_,_,rfl,.int .nil,r⟩
 | bool r=>exact⟨_,_,rfl,.bool .nil,r⟩
 | str r=>exact⟨_,_,rfl,.str .nil,r⟩
 | sl f j hr r=>exact⟨_,_,rfl,.sl f j hr .nil,r⟩
theorem RD.cons{t:Ty}{ts:tL Ty}{x:Den E.S t}{h:HL E.S ts}{v:tW}{vs:tL tW}(r:RD E z [t] (x,()) [v])(rs:RD E z ts h vs):RD E z (t::ts) (x,h) (v::vs):=by
 cases r with
 | int _=>exact .int rs
 | bool _=>exact .bool rs
 | str _=>exact .str rs
 | sl f j hr _=>exact .sl f j hr rs
theorem RD.cell{t:Ty}{x:Den E.S t}{v:tW}(r:RD E z [t] (x,()) [v]):eF_ v=true:=by
 cases r<;>rfl
theorem RD.cells{ts:tL Ty}{h:HL E.S ts}{vs:tL tW}(r:RD E z ts h vs):bH_ vs=true:=by
 induction r with
 | nil=>rfl
 | int _ f=>simp[bH_,eF_,f]
 | bool _ f=>simp[bH_,eF_,f]
 | str _ f=>simp[bH_,eF_,S,f]
 | sl _ _ _ _ _ f=>simp[bH_,eF_,f]
end
inductive SC(E:TE) where
 | dt (t:Ty) (x:Den E.S t)
 | own (id:Nat)
 | pre (id:Nat) (n:Int)
 | suf (id:Nat) (lo:Int)
 | nils
 | ptr (id off:Nat)
 | elo (id q:Nat) (i:Int) (off:Nat)
 | elf (t:Ty) (x:Den E.S t) (off:Nat)
 | fn1 (a r:Ty) (g:Den E.S a->tO (Den E.S r))
 | fn2 (a b r:Ty) (g:Den E.S a->Den E.S b->tO (Den E.S r))
 | clo (f:FuncId) (caps:tL Nat)
 | mp (id:Nat)
 | mst (q:Nat)
 | nilp
 | nif
 | sbp (id:Nat)
 | pix (id:Nat) (i:Int)
 | efx (t:Ty) (x:Den E.S t) (i:Int)
inductive V1(E:TE) where
 | one (c:SC E)
 | agg (l:tL (SC E))
inductive SV(E:TE) where
 | v (x:V1 E)
 | tup (l:tL (V1 E))
inductive Obj(E:TE) where
 | box (T:tN) (cs:tL (SC E))
 | row (e:tN) (t:Ty) (xs:tL (Den E.S t)) (foc:tL (Nat×Int×Den E.S t))
 | fr (t:Ty) (xs:tL (Den E.S t))
 | fb (t:Ty) (x:Den E.S t)
 | map (T:tN) (k v:Ty) (ks:tL (Den E.S k)) (vs:tL (Den E.S v)) (foc:tL (Nat×Den E.S k))
structure Loc where
 A:tO Addr
 n:Nat
 cap:Nat
 c:Nat
 b:Nat
 ix:Int:=0
abbrev Ga:=Nat->tO Loc
def Ga.Le(g h:Ga):Prop:=∀i l,g i=some l->h i=some l
def Ga.put(g:Ga)(i:Nat)(l:Loc):Ga:=λj=>if j=i then some l else g j
theorem Ga.Le.refl(g:Ga):g.Le g:=λ_ _ h=>h
theorem Ga.Le.trans{f g h:Ga}(a:f.Le g)(b:g.Le h):f.Le h:=λi l e=>b i l (a i l e)
theorem Ga.le_put{g:Ga}{i:Nat}{l:Loc}(h:g i=none):g.Le (g.put i l):=λj f e=>by
 unfold Ga.put;split
 .subst_vars;rw[h]at e;cases e
 .exact e
theorem Ga.put_self(g:Ga)(i:Nat)(l:Loc):g.put i l i=some l:=by unfold Ga.put;rw[qL rfl]
theorem Ga.put_ne(g:Ga){i j:Nat}(l:Loc)(h:j≠i):g.put i l j=g j:=by unfold Ga.put;rw[qP h]
inductive All2{α β:Type}(R:α->β->Prop):tL α->tL β->Prop
 | nil:All2 R [] []
 | cons {a b la bs} (h:R a b) (t:All2 R la bs):All2 R (a::la) (b::bs)
namespace All2
variable{α β:Type}{R R':α->β->Prop}{la la':tL α}{bs bs':tL β}
theorem len(h:All2 R la bs):la.length=bs.length:=by induction h with|nil=>rfl|cons _ _ f=>simp[f]
theorem mono(h:All2 R la bs)(j:∀a b,R a b->R' a b):All2 R' la bs:=by
 induction h with
 | nil=>exact .nil
 | cons h _ f=>exact .cons (j _ _ h) f
theorem append(h:All2 R la bs)(j:All2 R la' bs'):All2 R (la++la') (bs++bs'):=by
 induction h with
 | nil=>exact j
 | cons h _ f=>exact .cons h f
theorem take(h:All2 R la bs):∀(n:Nat),All2 R (la.take n) (bs.take n):=by
 induction h with
 | nil=>intro n;simp;exact .nil
 | cons h _ f =>
  intro n;cases n with
  | zero=>exact .nil
  | succ n=>exact .cons h (f n)
theorem drop(h:All2 R la bs):∀(n:Nat),All2 R (la.drop n) (bs.drop n):=by
 induction h with
 | nil=>intro n;simp;exact .nil
 | cons h t f =>
  intro n;cases n with
  | zero=>exact .cons h t
  | succ n=>exact f n
theorem get(h:All2 R la bs):∀{i:Nat} {a:α},la[i]? = some a->∃b,bs[i]? = some b/\R a b:=by
 induction h with
 | nil=>intro i a h;simp at h
 | cons h _ j =>
  intro i x f;cases i with
  | zero=>simp at f;subst f;exact⟨_,rfl,h⟩
  | succ i=>exact j (by simpa using f)
end All2
def Fz.In(z:Fz)(w:tS):Prop:=∀k,z.F k->k<w.heap.size/\w.heap[k]? = z.w.heap[k]?
theorem Fz.In.ext{z:Fz}{w w':tS}(h:z.In w)(p:Ext w w'):z.In w':=λk f=>by
 have j:=p.below;exact⟨zf (h k f).1 j.size,(j.block k (h k f).1).trans (h k f).2⟩
def RT(E:TE)(z:Fz)(t:Ty)(x:Den E.S t)(v:tW):Prop:=match t,x with | .st n,x=>∃vs,v = .agg vs.toArray/\RD E z (E.cs n) (E.un n x) vs | .int k,x=>RD E z [.int k] (x,()) [v] | .bool,x=>RD E z [.bool] (x,()) [v] | .str,x=>RD E z [.str] (x,()) [v] | .sl e,x=>RD E z [.sl e] (x,()) [v]
def RTs(E:TE)(z:Fz):(ts:tL Ty)->HL E.S ts->tL tW->Prop | [],_,vs=>vs=[]|t::ts,h,vs=>∃v vs',vs=v::vs'/\RT E z t h.1 v/\RTs E z ts h.2 vs'
def Ty.flatB:Ty->tV | .int _ | .bool | .str=>true|_=>false
def c3_(P:tT)(f:FuncId):tV:=match P.funcs[f]? with
 | some fn => !(fn.name == "runtime.NumGoroutine") && !fn.body.isNone
 | none=>false
theorem ov_{P:tT}{f:FuncId}{args:Array tW}{w:tS}(h:c3_ P f=true):(callFunc f args).run P w = .ok (.enter f args) w:=by
 unfold c3_ at h;split at h
 .rename_i fn j;simp only[qAn,qo]at h
  have q : ¬ fn.name = "runtime.NumGoroutine" := by simpa using h.1
  have p:¬fn.body=none:=λe=>by rw[e]at h;simp at h
  unfold callFunc;simp[j,q,p]
 .cases h
def FnOK(P:tT)(E:TE)(z:Fz)(f:tW)(la:tL Ty)(r:Ty)(g:HL E.S la->tO (Den E.S r)):Prop :=
 ∃fid caps,f = .func (.func fid) #[] caps/\(c3_ P fid=true/\r.flatB=true)/\∀(w:tS) (z':Fz) (h:HL E.S la) (y:Den E.S r) (args:tL tW),z.Le z'->z'.In w->RTs E z' la h args->g h=some y ->
  Ret P fid (args.toArray++caps) w λu w'=>RD E z' [r] (y,()) [u]/\Ext w w'
theorem FnOK.le{P:tT}{E:TE}{z z':Fz}{f:tW}{la:tL Ty}{r:Ty}{g:HL E.S la->tO (Den E.S r)}(h:FnOK P E z f la r g)(j:z.Le z'):FnOK P E z' f la r g:=by
 obtain⟨fid,caps,e,q,s⟩:=h;exact⟨fid,caps,e,q,λw z2 p y args D C x u=>s w z2 p y args (j.trans D) C x u⟩
def RC(P:tT)(E:TE)(z:Fz)(g:Ga):SC E->tW->Prop | .dt t x,v=>RD E z [t] (x,()) [v] | .own id,v=>∃l,g id=some l/\v = .slice l.A l.n l.cap | .pre id n,v=>∃l,g id=some l/\n.toNat<=l.n/\v = .slice l.A n.toNat l.cap | .suf id lo,v=>∃l,g id=some l/\lo.toNat<=l.n/\v = .slice (cutA l.A l.c lo.toNat l.cap) (l.n-lo.toNat) (l.cap-lo.toNat) | .nils,v=>v = .slice none 0 0 | .ptr id off,v=>∃l,g id=some l/\v = .pointer (some ⟨l.b,off,none⟩) | .elo _ q i off,v=>∃l,g q=some l/\l.ix=i/\v = .pointer (some ⟨l.b,l.n+off,none⟩) | .elf t x off,v=>∃b o r,v = .pointer (some ⟨b,o+off,none⟩)/\z.F b/\RD E z (E.flat t) (E.fl t x) r/\∀j u,r[j]? = some u->z.w.cell? ⟨b,o+j,none⟩=some u | .fn1 a r f,v=>FnOK P E z v [a] r λh=>f h.1 | .fn2 a b r f,v=>FnOK P E z v [a,b] r λh=>f h.1 h.2.1 | .clo f caps,v=>∃p,v = .func (.func f) #[] p.toArray/\All2 (λid u=>∃l,g id=some l/\u = .pointer (some ⟨l.b,0,none⟩)) caps p | .mp id,v=>∃l,g id=some l/\v = .map (some l.b) | .mst q,v=>∃l,g q=some l/\v = .int .i64 (l.n:Int) | .nilp,v=>v = .pointer none | .nif,v=>v = .nilIface | .sbp id,v=>∃l,g id=some l/\(v = .pointer none\/v = .pointer (some ⟨l.b,0,none⟩)) | .pix id i,v=>∃l,g id=some l/\v = .pointer (some ⟨l.b,i.toNat,none⟩) | .efx t x i,v=>∃b o r,v = .pointer (some ⟨b,o+i.toNat,none⟩)/\z.F b/\RD E z (E.flat t) (E.fl t x) r/\∀j u,r[j]? = some u->z.w.cell? ⟨b,o+j,none⟩=some u
def R1(P:tT)(E:TE)(z:Fz)(g:Ga):V1 E->tW->Prop | .one c,v=>RC P E z g c v | .agg l,v=>∃vs,v = .agg vs.toArray/\All2 (RC P E z g) l vs
def RV(P:tT)(E:TE)(z:Fz)(g:Ga):SV E->tW->Prop | .v x,v=>R1 P E z g x v | .tup l,v=>∃vs,v = .tuple vs.toArray/\All2 (R1 P E z g) l vs
section
variable{P:tT}{E:TE}{z z':Fz}{g g':Ga}{w w' w0:tS}
theorem RC.le{c:SC E}{v:tW}(h:RC P E z g c v)(C:z.Le z')(y:g.Le g'):RC P E z' g' c v:=by
 cases c with
 | dt t x=>exact RD.le h C
 | own id=>obtain⟨l,s,p⟩:=h;exact⟨l,y _ _ s,p⟩
 | pre id n=>obtain⟨l,s,p⟩:=h;exact⟨l,y _ _ s,p⟩
 | suf id lo=>obtain⟨l,s,p⟩:=h;exact⟨l,y _ _ s,p⟩
 | nils=>exact h
 | ptr id off=>obtain⟨l,s,p⟩:=h;exact⟨l,y _ _ s,p⟩
 | elo id q i off=>obtain⟨l,s,p⟩:=h;exact⟨l,y _ _ s,p⟩
 | elf t x off =>
  obtain⟨b,o,r,s,p,F,D⟩:=h;exact⟨b,o,r,s,(C b p).1,F.le C,λj u G=>(World.cell?_of_block (w:=z.w) (C b p).2).trans (D j u G)⟩
 | fn1 a r f=>exact FnOK.le h C
 | fn2 a b r f=>exact FnOK.le h C
 | clo f caps=>obtain⟨J,s,p⟩:=h;exact⟨J,s,p.mono λ_ _ ⟨l,F,D⟩=>⟨l,y _ _ F,D⟩⟩
 | mp id=>obtain⟨l,s,p⟩:=h;exact⟨l,y _ _ s,p⟩
 | mst q=>obtain⟨l,s,p⟩:=h;exact⟨l,y _ _ s,p⟩
 | nilp=>exact h
 | nif=>exact h
 | sbp id=>obtain⟨l,s,p⟩:=h;exact⟨l,y _ _ s,p⟩
 | pix id i=>obtain⟨l,s,p⟩:=h;exact⟨l,y _ _ s,p⟩
 | efx t x i =>
  obtain⟨b,o,r,s,p,F,D⟩:=h;exact⟨b,o,r,s,(C b p).1,F.le C,λj u G=>(World.cell?_of_block (w:=z.w) (C b p).2).trans (D j u G)⟩
theorem RC.cell{c:SC E}{v:tW}(h:RC P E z g c v):eF_ v=true:=by
 cases c with
 | dt t x=>exact RD.cell h
 | own id=>obtain⟨l,j,rfl⟩:=h;rfl
 | pre id n=>obtain⟨l,j,_,rfl⟩:=h;rfl
 | suf id lo=>obtain⟨l,j,_,rfl⟩:=h;rfl
 | nils=>simp only[RC]at h;subst h;rfl
 | ptr id off=>obtain⟨l,j,rfl⟩:=h;rfl
 | elo id q i off=>obtain⟨l,j,_,rfl⟩:=h;rfl
 | elf t x off=>obtain⟨b,o,r,rfl,_⟩:=h;rfl
 | fn1 a r f=>obtain⟨fid,caps,rfl,_⟩:=h;rfl
 | fn2 a b r f=>obtain⟨fid,caps,rfl,_⟩:=h;rfl
 | clo f caps=>obtain⟨p,rfl,_⟩:=h;rfl
 | mp id=>obtain⟨l,j,rfl⟩:=h;rfl
 | mst q=>obtain⟨l,j,rfl⟩:=h;rfl
 | nilp=>simp only[RC]at h;subst h;rfl
 | nif=>simp only[RC]at h;subst h;rfl
 | sbp id=>obtain⟨l,j,rfl|rfl⟩:=h<;>rfl
 | pix id i=>obtain⟨l,j,rfl⟩:=h;rfl
 | efx t x i=>obtain⟨b,o,r,rfl,_⟩:=h;rfl
theorem RC.cells{l:tL (SC E)}{vs:tL tW}(h:All2 (RC P E z g) l vs):bH_ vs=true:=by
 induction h with
 | nil=>rfl
 | cons h _ f=>simp[bH_,RC.cell h,f]
theorem R1.le{x:V1 E}{v:tW}(h:R1 P E z g x v)(f:z.Le z')(j:g.Le g'):R1 P E z' g' x v:=by
 cases x with
 | one c=>exact RC.le h f j
 | agg l=>obtain⟨vs,e,h⟩:=h;exact⟨vs,e,h.mono λ_ _ h=>RC.le h f j⟩
theorem RV.le{x:SV E}{v:tW}(h:RV P E z g x v)(f:z.Le z')(j:g.Le g'):RV P E z' g' x v:=by
 cases x with
 | v x=>exact R1.le h f j
 | tup l=>obtain⟨vs,e,h⟩:=h;exact⟨vs,e,h.mono λ_ _ h=>R1.le h f j⟩
def hlc(E:TE):(ts:tL Ty)->HL E.S ts->tL (SC E) | [],_=>[]|t::ts,h => .dt t h.1::hlc E ts h.2
theorem hlc_rd:∀{ts:tL Ty} {h:HL E.S ts} {vs:tL tW},RD E z ts h vs↔All2 (RC P E z g) (hlc E ts h) vs
 | [],h,vs=>⟨λr=>by rw[r.nil_inv];exact .nil,λr=>by cases r;exact .nil⟩
 | t::ts,h,vs=>⟨λr=>by
   obtain⟨v,vs',rfl,j,f⟩:=r.uncons;exact .cons j (hlc_rd.1 f),λr=>by
   obtain⟨x,h⟩:=h;simp only[hlc]at r;cases r with
   | cons j f=>exact RD.cons j (hlc_rd.2 f)⟩
def TE.cells(E:TE)(t:Ty)(x:Den E.S t):tL (SC E):=hlc E (E.flat t) (E.fl t x)
theorem cells_rd{t:Ty}{x:Den E.S t}{vs:tL tW}:RD E z (E.flat t) (E.fl t x) vs↔All2 (RC P E z g) (E.cells t x) vs:=hlc_rd
def encH(E:TE):(ts:tL Ty)->HL E.S ts->tO (tL tW)
 | [],_=>some []
 | .int k::ts,h=>match encH E ts h.2 with|some l=>some (.int k h.1::l)|none=>none
 | .bool::ts,h=>match encH E ts h.2 with|some l=>some (.bool h.1::l)|none=>none
 | .str::ts,h=>match encH E ts h.2 with|some l=>some (S h.1::l)|none=>none
 | _,_=>none
theorem mO_:∀{ts:tL Ty} {h:HL E.S ts} {vs l:tL tW},RD E z ts h vs->encH E ts h=some l->vs=l
 | [],h,vs,l,hr,f=>by rw[hr.nil_inv];simpa[encH]using f
 | .int k::ts,h,vs,l,hr,f=>by
  obtain⟨vs',rfl,j⟩:=hr.int_inv;simp only[encH]at f;split at f
  .rename_i q p;obtain rfl:=qSj f;rw[mO_ j p]
  .cases f
 | .bool::ts,h,vs,l,hr,f=>by
  obtain⟨vs',rfl,j⟩:=hr.bool_inv;simp only[encH]at f;split at f
  .rename_i q p;obtain rfl:=qSj f;rw[mO_ j p]
  .cases f
 | .str::ts,h,vs,l,hr,f=>by
  obtain⟨vs',rfl,j⟩:=hr.str_inv;simp only[encH]at f;split at f
  .rename_i q p;obtain rfl:=qSj f;rw[mO_ j p]
  .cases f
 | .sl e::ts,h,vs,l,hr,f=>by simp[encH]at f
 | .st n::ts,h,vs,l,hr,f=>by simp[encH]at f
def valT(E:TE):(t:Ty)->Den E.S t->tO tW
 | .st n,x=>match encH E (E.cs n) (E.un n x)with
  | some l=>some (.agg l.toArray)
  | none=>none
 | .int k,n=>some (.int k n)
 | .bool,b=>some (.bool b)
 | .str,s=>some (S s)
 | .sl _,_=>none
inductive MapR(E:TE)(k v:Ty):tL (Den E.S k)->tL (Den E.S v)->tL tR->Prop
 | nil:MapR E k v [] [] []
 | cons {x y e ks vs es} (hk:valT E k x=some e.key) (hv:valT E v y=some e.val) (t:MapR E k v ks vs es):MapR E k v (x::ks) (y::vs) (e::es)
structure MapIs(E:TE)(k v:Ty)(ks:tL (Den E.S k))(vs:tL (Den E.S v))(es:Array tR)(clock:Nat):Prop where
 rel:MapR E k v ks vs es.toList
 lt:∀e∈es.toList,e.born<clock
 nd:(es.toList.map (·.born)).Nodup
 ks:ks.Nodup
def Rows(E:TE)(z:Fz)(t:Ty)(xs:tL (Den E.S t))(rows:tL (tL tW)):Prop:=∀(i:Nat) x r,xs[i]? = some x->rows[i]? = some r->RD E z (E.flat t) (E.fl t x) r
theorem Rows.le{t:Ty}{xs:tL (Den E.S t)}{rows:tL (tL tW)}(h:Rows E z t xs rows)(f:z.Le z'):Rows E z' t xs rows:=λi x r p j=>(h i x r p j).le f
def ObjR(P:tT)(E:TE)(z:Fz)(g:Ga)(w:tS)(id:Nat):Obj E->Prop | .box T cs=>∃l vs,g id=some l/\w.heap[l.b]? = some (.cells vs.toArray T (0,0))/\All2 (RC P E z g) cs vs | .row e t xs foc=>∃l rows,g id=some l/\l.n=xs.length/\l.c=E.size t/\w.ownsRow 0 e l.c (.slice l.A l.n l.cap) l.n rows.flatten/\rows.length=l.n/\(∀r∈rows,r.length=l.c)/\Rows E z t xs rows/\∀p∈foc,ah_ xs p.2.1=some p.2.2/\∃lq o,g p.1=some lq/\l.A=some ⟨lq.b,o,none⟩/\lq.n=o+p.2.1.toNat*l.c/\lq.ix=p.2.1 | .fr t xs=>∃l rows,g id=some l/\l.n=xs.length/\l.c=E.size t/\SlF z.F l.c l.A l.n rows z.w/\l.n<=l.cap/\Rows E z t xs rows | .fb t x=>∃l r,g id=some l/\z.F l.b/\RD E z (E.flat t) (E.fl t x) r/\∀j u,r[j]? = some u->z.w.cell? ⟨l.b,j,none⟩=some u | .map _ k v f vs foc=>∃l es clock,g id=some l/\w.heap[l.b]? = some (.map es clock)/\MapIs E k v f vs es clock/\∀p∈foc,∃lq,∃i:Nat,∃e:tR,g p.1=some lq/\es.toList[i]? = some e/\e.born=lq.n/\f[i]? = some p.2
def fpO{E:TE}(g:Ga)(id:Nat):Obj E->Nat->Prop | .box ..,k=>∃l,g id=some l/\k=l.b | .row ..,k=>∃l a,g id=some l/\l.A=some a/\k=a.block | .fr ..,_=>False | .fb ..,_=>False | .map ..,k=>∃l,g id=some l/\k=l.b
theorem ObjR.loc{id:Nat}{o:Obj E}(h:ObjR P E z g w id o):∃l,g id=some l:=by
 cases o with
 | box T cs=>obtain⟨l,_,f,_⟩:=h;exact⟨l,f⟩
 | row e t xs foc=>obtain⟨l,_,f,_⟩:=h;exact⟨l,f⟩
 | fr t xs=>obtain⟨l,_,f,_⟩:=h;exact⟨l,f⟩
 | fb t x=>obtain⟨l,_,f,_⟩:=h;exact⟨l,f⟩
 | map T k v j vs foc=>obtain⟨l,_,_,f,_⟩:=h;exact⟨l,f⟩
theorem hj_{id:Nat}{o:Obj E}{k:Nat}(h:∃l,g id=some l)(u:g.Le g'):fpO g' id o k↔fpO g id o k:=by
 obtain⟨l,s⟩:=h;have q:=u _ _ s;cases o with
 | box T cs=>exact⟨λ⟨j,f,p⟩=>⟨j,by rw[q]at f;rw[s];exact f,p⟩,λ⟨j,f,p⟩=>⟨j,u _ _ f,p⟩⟩
 | row e t xs foc=>exact⟨λ⟨j,a,f,p⟩=>⟨j,a,by rw[q]at f;rw[s];exact f,p⟩,λ⟨j,a,f,p⟩=>⟨j,a,u _ _ f,p⟩⟩
 | fr t xs=>exact Iff.rfl
 | fb t x=>exact Iff.rfl
 | map T k v y vs foc=>exact⟨λ⟨j,f,p⟩=>⟨j,by rw[q]at f;rw[s];exact f,p⟩,λ⟨j,f,p⟩=>⟨j,u _ _ f,p⟩⟩
theorem ObjR.lt{id:Nat}{o:Obj E}(h:ObjR P E z g w id o){k:Nat}(q:fpO g id o k):k<w.heap.size:=by
 cases o with
 | box T cs =>
  obtain⟨l,vs,s,j,_⟩:=h;obtain⟨u,f,rfl⟩:=q;rw[s]at f;obtain rfl:=qSj f;rcases qR l.b w.heap.size with p|p
  .exact p
  .rw[zJ p]at j;cases j
 | row e t xs foc =>
  obtain⟨l,rows,s,_,_,j,_⟩:=h;obtain⟨u,a,f,y,rfl⟩:=q;rw[s]at f;obtain rfl:=qSj f;exact(World.ownsRow.lt j a.block (by rw[y];rfl)).2
 | fr t xs=>exact q.elim
 | fb t x=>exact q.elim
 | map T k v C vs foc =>
  obtain⟨l,es,c,s,j,_⟩:=h;obtain⟨u,f,rfl⟩:=q;rw[s]at f;obtain rfl:=qSj f;rcases qR l.b w.heap.size with p|p
  .exact p
  .rw[zJ p]at j;cases j
theorem ObjR.keep{id:Nat}{o:Obj E}(h:ObjR P E z g w id o)(C:z.Le z')(y:g.Le g')(J:∀k,fpO g id o k->w'.heap[k]? = w.heap[k]?):ObjR P E z' g' w' id o:=by
 cases o with
 | box T cs =>
  obtain⟨l,vs,f,q,s⟩:=h;exact⟨l,vs,y _ _ f,by rw[J _ ⟨l,f,rfl⟩];exact q,s.mono λ_ _ h=>RC.le h C y⟩
 | row e t xs foc =>
  obtain⟨l,rows,f,G,M,q,s,D,U,O⟩:=h;refine⟨l,rows,y _ _ f,G,M,⟨q.1,?_⟩,s,D,U.le C,λp F=>let ⟨h7,lq,o,h8,h9⟩:=O p F;⟨h7,lq,o,y _ _ h8,h9⟩⟩;rcases q.2 with h'|⟨b,cap',cur,V,hb,Z,r⟩
  .exact .inl h'
  .refine .inr ⟨b,cap',cur,V,hb,?_,r⟩;injection V with hA;rw[J b ⟨l,_,f,hA,rfl⟩];exact Z
 | fr t xs =>
  obtain⟨l,rows,f,G,M,q,s,D⟩:=h;exact⟨l,rows,y _ _ f,G,M,SlF.le q C,s,D.le C⟩
 | fb t x =>
  obtain⟨l,r,f,q,s,D⟩:=h;exact⟨l,r,y _ _ f,(C _ q).1,s.le C,λj u Y=>(World.cell?_of_block (w:=z.w) (C _ q).2).trans (D j u Y)⟩
 | map T k v ks vs foc =>
  obtain⟨l,es,c,f,q,s,D⟩:=h;exact⟨l,es,c,y _ _ f,by rw[J _ ⟨l,f,rfl⟩];exact q,s,λp F=>let ⟨lq,i,e,U,O⟩:=D p F;⟨lq,i,e,y _ _ U,O⟩⟩
def Glo(E:TE)(z:Fz):Prop:=∀n t x,E.gl n=some ⟨t,x⟩->z.F n/\∃r,RD E z (E.flat t) (E.fl t x) r/\(∀j u,r[j]? = some u->z.w.cell? ⟨n,j,none⟩=some u)/\∃e c,z.w.heap[n]? = some (.cells r.toArray e c)
theorem Glo.le(h:Glo E z)(f:z.Le z'):Glo E z':=λn t x e=>by
 obtain⟨p,r,C,y,e,c,s⟩:=h n t x e;exact⟨(f n p).1,r,C.le f,λj u q=>(World.cell?_of_block (w:=z.w) (f n p).2).trans (y j u q),e,c,(f n p).2.trans s⟩
structure HR(P:tT)(E:TE)(Bs:tL Nat)(F0:Nat->Prop)(w0 w:tS)(z:Fz)(g:Ga)(H:Nat->tO (Obj E)):Prop where
 chg:Chg Bs w0 w
 hold:∀id o,H id=some o->ObjR P E z g w id o
 own:∀id o k,H id=some o->fpO g id o k->w0.heap.size<=k\/k∈Bs
 apart:∀id id' o o' k,id≠id'->H id=some o->H id'=some o'->fpO g id o k->¬fpO g id' o' k
 fz:z.In w
 fz0:∀k,z.F k->F0 k\/w0.heap.size<=k\/k∈Bs
 fza:∀id o k,H id=some o->fpO g id o k->¬z.F k
 gl:Glo E z
section
variable{Bs:tL Nat}{F0:Nat->Prop}{H H':Nat->tO (Obj E)}
theorem HR.size(h:HR P E Bs F0 w0 w z g H):w0.heap.size<=w.heap.size:=h.chg.grow.size
theorem HR.less(h:HR P E Bs F0 w0 w z g H)(f:∀i o,H' i=some o->H i=some o):HR P E Bs F0 w0 w z g H' :=
 ⟨h.chg,λi o e=>h.hold i o (f i o e),λi o k e=>h.own i o k (f i o e),λi j o p k q e s=>h.apart i j o p k q (f i o e) (f j p s),h.fz,h.fz0,λi o k e=>h.fza i o k (f i o e),h.gl⟩
theorem HR.ext(h:HR P E Bs F0 w0 w z g H)(p:Ext w w'):HR P E Bs F0 w0 w' z g H:=by
 have j:=p.below;refine⟨⟨h.chg.grow.trans (Grow.of_below j),λk f q=>(j.block k (zf f h.size)).trans (h.chg.block k f q)⟩,λi o e => ?_,h.own,h.apart,h.fz.ext p,h.fz0,h.fza,h.gl⟩;exact(h.hold i o e).keep (Fz.Le.refl z) (Ga.Le.refl g) λk f=>j.block k ((h.hold i o e).lt f)
theorem HR.turn(h:HR P E Bs F0 w0 w z g H)(hg:g.Le g'){i i':Nat}{o':Obj E}{C:Nat->Prop}(hC:∀k,C k->∃o,H i=some o/\fpO g i o k)
  (hb:Grow w w') (hk:∀k,k<w.heap.size->¬C k->w'.heap[k]? = w.heap[k]?) (ho:ObjR P E z g' w' i' o') (J:∀k,fpO g' i' o' k->C k\/w.heap.size<=k)
  (hH:∀j o,H' j=some o->(j=i'/\o=o')\/(j≠i'/\(j≠i\/∀k,¬C k)/\H j=some o)):HR P E Bs F0 w0 w' z g' H':=by
 have bM_:∀k,C k->w0.heap.size<=k\/k∈Bs:=λk M=>by obtain⟨o,u,y⟩:=hC k M;exact h.own i o k u y
 have far:∀j o k,(j≠i\/∀k,¬C k)->H j=some o->fpO g j o k->¬C k:=λj o k Y e J M=>by
  rcases Y with Y|Y
  .obtain⟨p,u,y⟩:=hC k M;exact h.apart j i o p k Y e u J y
  .exact Y k M
 have fzC:∀k,z.F k->¬C k:=λk D M=>by obtain⟨o,u,y⟩:=hC k M;exact h.fza i o k u y D
 have lt:∀j o k,H j=some o->fpO g j o k->k<w.heap.size:=λj o k e J=>(h.hold j o e).lt J
 have fle:∀j o k,H j=some o->(fpO g' j o k↔fpO g j o k):=λj o k e=>hj_ (h.hold j o e).loc hg
 refine⟨⟨h.chg.grow.trans hb,λk V U=>(hk k (zf V h.size) λM => ?_).trans (h.chg.block k V U)⟩,λj o e => ?_,λj o k e f => ?_,λj O o p k U e e' f q => ?_,λk D => ?_,h.fz0,λj o k e f D => ?_,h.gl⟩
 .rcases bM_ k M with u|u
  .omega
  .exact U u
 .rcases hH j o e with⟨rfl,rfl⟩|⟨_,y,s⟩
  .exact ho
  .exact(h.hold j o s).keep (Fz.Le.refl z) hg λk Z=>hk k (lt j o k s Z) (far j o k y s Z)
 .rcases hH j o e with⟨rfl,rfl⟩|⟨_,y,s⟩
  .rcases J k f with u|u
   .exact bM_ k u
   .exact .inl (zQ h.size u)
  .exact h.own j o k s ((fle j o k s).1 f)
 .rcases hH j o e with⟨rfl,rfl⟩|⟨u,y,s⟩<;>rcases hH O p e' with⟨rfl,rfl⟩|⟨ZY,ZZ,x⟩
  .exact U rfl
  .have q:=(fle O p k x).1 q;rcases J k f with G|G
   .exact far O p k ZZ x q G
   .have:=lt O p k x q;omega
  .have f:=(fle j o k s).1 f;rcases J k q with G|G
   .exact far j o k y s f G
   .have:=lt j o k s f;omega
  .exact h.apart j O o p k U s x ((fle j o k s).1 f) ((fle O p k x).1 q)
 .have:=h.fz k D;exact⟨zf this.1 hb.size,(hk k this.1 (fzC k D)).trans this.2⟩
 .rcases hH j o e with⟨rfl,rfl⟩|⟨_,y,s⟩
  .rcases J k f with G|G
   .exact fzC k D G
   .have:=(h.fz k D).1;omega
  .exact h.fza j o k s ((fle j o k s).1 f) D
theorem HR.add(h:HR P E Bs F0 w0 w z g H)(u:Ext w w'){i:Nat}{l:Loc}{o:Obj E}(hi:g i=none)(x:ObjR P E z (g.put i l) w' i o)(y:∀k,fpO (g.put i l) i o k->w.heap.size<=k)
  (D:∀j p,H' j=some p->(j=i/\p=o)\/(j≠i/\H j=some p)):HR P E Bs F0 w0 w' z (g.put i l) H':=by
 have s:=u.below;refine h.turn (Ga.le_put hi) (i:=i) (i':=i) (C:=λ_=>False) (λ_ h=>h.elim) (Grow.of_below s) (λk f _=>s.block k f) x (λk f => .inr (y k f)) λj p e => ?_
 rcases D j p e with q|⟨q,F⟩
 .exact .inl q
 .exact .inr ⟨q,.inr λ_ h=>h,F⟩
def Fz.grow(z:Fz)(F:Nat->Prop)(w:tS):Fz:=⟨λk=>z.F k\/F k,w⟩
theorem Fz.In.grow_le{z:Fz}{w:tS}(h:z.In w)(F:Nat->Prop):z.Le (z.grow F w):=λk f=>⟨.inl f,(h k f).2⟩
theorem HR.freeze(h:HR P E Bs F0 w0 w z g H){i:Nat}{e:tN}{t:Ty}{xs:tL (Den E.S t)}{foc:tL (Nat×Int×Den E.S t)}(hi:H i=some (.row e t xs foc))
  (D:∀j o,H' j=some o->(j=i/\o = .fr t xs)\/(j≠i/\H j=some o)):HR P E Bs F0 w0 w (z.grow (λk=>fpO g i (.row e t xs foc) k) w) g H':=by
 have F:=h.fz.grow_le (λk=>fpO g i (.row e t xs foc) k);refine⟨h.chg,λj o ej => ?_,λj o k ej f => ?_,λj J o p k C ej ej' f u => ?_,λk q => ?_,λk q => ?_,λj o k ej f q => ?_,h.gl.le F⟩
 .rcases D j o ej with⟨rfl,rfl⟩|⟨_,s⟩
  .obtain⟨l,rows,O,C,U,M,s,h4,h5,_⟩:=h.hold _ _ hi;have hr:=cK_ (w:=w) (e:=e) (cap:=l.cap) ⟨M,s,h4⟩;refine⟨l,rows,O,C,U,⟨hr.1,λy => ?_⟩,(Own.cap_le M).1,h5.le F⟩;obtain⟨b,off,Z,⟨a,Y,V⟩,x⟩:=hr.2 y;exact⟨b,off,Z,.inr ⟨l,a,O,Y,V⟩,x⟩
  .exact(h.hold j o s).keep F (Ga.Le.refl g) λ_ _=>rfl
 .rcases D j o ej with⟨rfl,rfl⟩|⟨_,s⟩
  .exact f.elim
  .exact h.own j o k s f
 .rcases D j o ej with⟨rfl,rfl⟩|⟨_,s⟩
  .exact f
  .rcases D J p ej' with⟨rfl,rfl⟩|⟨_,G⟩
   .exact u
   .exact h.apart j J o p k C s G f u
 .rcases q with q|q
  .exact⟨(h.fz k q).1,rfl⟩
  .exact⟨(h.hold _ _ hi).lt q,rfl⟩
 .rcases q with q|q
  .exact h.fz0 k q
  .exact .inr (h.own _ _ k hi q)
 .rcases D j o ej with⟨rfl,rfl⟩|⟨C,s⟩
  .exact f
  .rcases q with q|q
   .exact h.fza j o k s f q
   .exact h.apart j i o _ k C s hi f q
theorem HR.freezeBox(h:HR P E Bs F0 w0 w z g H){i:Nat}{T:tN}{cs:tL (SC E)}{t:Ty}{x:Den E.S t}(hi:H i=some (.box T cs))(V:∀vs,All2 (RC P E z g) cs vs->RD E z (E.flat t) (E.fl t x) vs)
  (D:∀j o,H' j=some o->(j=i/\o = .fb t x)\/(j≠i/\H j=some o)):HR P E Bs F0 w0 w (z.grow (λk=>fpO g i (.box T cs) k) w) g H':=by
 have F:=h.fz.grow_le (λk=>fpO g i (.box T cs) k);refine⟨h.chg,λj o ej => ?_,λj o k ej f => ?_,λj M o p k G ej ej' f C => ?_,λk s => ?_,λk s => ?_,λj o k ej f s => ?_,h.gl.le F⟩
 .rcases D j o ej with⟨rfl,rfl⟩|⟨_,y⟩
  .obtain⟨l,vs,O,Y,y⟩:=h.hold _ _ hi;refine⟨l,vs,O,.inr ⟨l,O,rfl⟩,(V vs y).le F,λq u U => ?_⟩;show w.cell? _=_;rw[cell_of_row w l.b q vs.toArray T (0,0) Y];simpa using U
  .exact(h.hold j o y).keep F (Ga.Le.refl g) λ_ _=>rfl
 .rcases D j o ej with⟨rfl,rfl⟩|⟨_,y⟩
  .exact f.elim
  .exact h.own j o k y f
 .rcases D j o ej with⟨rfl,rfl⟩|⟨_,y⟩
  .exact f
  .rcases D M p ej' with⟨rfl,rfl⟩|⟨_,J⟩
   .exact C
   .exact h.apart j M o p k G y J f C
 .rcases s with s|s
  .exact⟨(h.fz k s).1,rfl⟩
  .exact⟨(h.hold _ _ hi).lt s,rfl⟩
 .rcases s with s|s
  .exact h.fz0 k s
  .exact .inr (h.own _ _ k hi s)
 .rcases D j o ej with⟨rfl,rfl⟩|⟨G,y⟩
  .exact f
  .rcases s with s|s
   .exact h.fza j o k y f s
   .exact h.apart j i o _ k G y hi f s
end
end
end Rt
end Go
