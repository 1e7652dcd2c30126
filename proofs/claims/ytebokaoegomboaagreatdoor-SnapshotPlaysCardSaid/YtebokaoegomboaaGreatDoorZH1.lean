/-
 What the statements of this seat hang on,part 1: Base Sl Rt Ops Mem Mem2 Flow Way Go Go2 Mp Ra Rb.
-/
import Derived.WalkKit
import Derived.WalkSpells
import Derived.WalkLawsBesides
import Derived.Handy
import Derived.Deep.QuietTactic
import Derived.BigQuiet
import Derived.BigGuardPart
import Derived.Lib.Hide
import Derived.CellFam
import Derived.Laws.AppendOwnNone
import Derived.Laws.BytesString
import Derived.Deep.LoopGhost
import Derived.Maps.AppendAt
import Derived.ChangeKeysEq
import Derived.MapKept
namespace Go
theorem qQ:type_of% @List.getElem?_eq_getElem:=@List.getElem?_eq_getElem
theorem qZ:type_of% @List.getElem?_eq_some_iff:=@List.getElem?_eq_some_iff
theorem qK:type_of% @Bool.eq_iff_iff:=@Bool.eq_iff_iff
theorem qV:type_of% @if_pos:=@if_pos
theorem qW:type_of% @List.mem_cons:=@List.mem_cons
theorem qY:type_of% @List.mem_append:=@List.mem_append
theorem qX:type_of% @if_neg:=@if_neg
theorem qA:type_of% @Nat.le_refl:=@Nat.le_refl
theorem qC:type_of% @List.mem_cons_of_mem:=@List.mem_cons_of_mem
theorem qD:type_of% @List.mem_cons_self:=@List.mem_cons_self
theorem qE:type_of% @List.mem_singleton:=@List.mem_singleton
theorem qF:type_of% @Prod.mk.injEq:=@Prod.mk.injEq
theorem qG:type_of% @beq_iff_eq:=@beq_iff_eq
theorem qH:type_of% @congrArg:=@congrArg
theorem qL:type_of% @Bool.not_eq_true':=@Bool.not_eq_true'
theorem qM:type_of% @Option.map_some:=@Option.map_some
theorem qN:type_of% @Nat.lt_or_ge:=@Nat.lt_or_ge
theorem qO:type_of% @List.mem_iff_getElem?:=@List.mem_iff_getElem?
theorem qP:type_of% @Bool.or_eq_true:=@Bool.or_eq_true
theorem qR:type_of% @List.cons_append:=@List.cons_append
theorem qS:type_of% @List.length_drop:=@List.length_drop
theorem qT:type_of% @List.append_assoc:=@List.append_assoc
theorem qa:type_of% @List.getElem?_eq_none:=@List.getElem?_eq_none
theorem qb:type_of% @List.length_take:=@List.length_take
theorem qc:type_of% @List.take_of_length_le:=@List.take_of_length_le
theorem qe:type_of% @List.mem_of_getElem?:=@List.mem_of_getElem?
theorem qf:type_of% @List.all_eq_true:=@List.all_eq_true
theorem qg:type_of% @Nat.mul_le_mul_right:=@Nat.mul_le_mul_right
theorem qh:type_of% @Bool.or_eq_false_iff:=@Bool.or_eq_false_iff
theorem qi:type_of% @Array.length_toList:=@Array.length_toList
theorem qj:type_of% @List.cons_ne_nil:=@List.cons_ne_nil
theorem qk:type_of% @Nat.le_trans:=@Nat.le_trans
theorem qm:type_of% @List.getElem?_map:=@List.getElem?_map
theorem qn:type_of% @cond_true:=@cond_true
theorem qo:type_of% @Nat.zero_add:=@Nat.zero_add
theorem qq:type_of% @Nat.zero_le:=@Nat.zero_le
theorem qr:type_of% @List.getElem_mem:=@List.getElem_mem
theorem qt:type_of% @Nat.eq_zero_or_pos:=@Nat.eq_zero_or_pos
theorem qu:type_of% @Bool.false_eq_true:=@Bool.false_eq_true
theorem qv:type_of% @List.flatten_cons:=@List.flatten_cons
theorem qw:type_of% @cond_false:=@cond_false
theorem qx:type_of% @Nat.le_of_ble_eq_true:=@Nat.le_of_ble_eq_true
theorem qy:type_of% @Array.getElem?_eq_none:=@Array.getElem?_eq_none
theorem qz:type_of% @beq_eq_false_iff_ne:=@beq_eq_false_iff_ne
theorem zQ:type_of% @List.mem_map:=@List.mem_map
theorem zZ:type_of% @List.filter_cons:=@List.filter_cons
theorem zJ:type_of% @Nat.lt_of_lt_of_le:=@Nat.lt_of_lt_of_le
theorem zK:type_of% @List.pairwise_iff_getElem:=@List.pairwise_iff_getElem
theorem zV:type_of% @List.drop_eq_getElem_cons:=@List.drop_eq_getElem_cons
theorem zW:type_of% @Array.toArray_toList:=@Array.toArray_toList
theorem zY:type_of% @Bool.true_and:=@Bool.true_and
theorem zX:type_of% @List.getElem?_take:=@List.getElem?_take
theorem zA:type_of% @List.getElem?_drop:=@List.getElem?_drop
theorem zB:type_of% @List.map_cons:=@List.map_cons
theorem zC:type_of% @Int.tdiv_eq_ediv_of_nonneg:=@Int.tdiv_eq_ediv_of_nonneg
theorem zD:type_of% @Nat.succ_mul:=@Nat.succ_mul
theorem zG:type_of% @List.nil_append:=@List.nil_append
theorem zH:type_of% @List.mem_of_find?_eq_some:=@List.mem_of_find?_eq_some
theorem zI:type_of% @Nat.pow_le_pow_right:=@Nat.pow_le_pow_right
theorem zL:type_of% @List.ext_getElem?:=@List.ext_getElem?
theorem zM:type_of% @bne_iff_ne:=@bne_iff_ne
theorem zN:type_of% @List.pairwise_cons:=@List.pairwise_cons
theorem zO:type_of% @List.take_append_of_le_length:=@List.take_append_of_le_length
theorem zP:type_of% @Nat.add_assoc:=@Nat.add_assoc
theorem zR:type_of% @List.getElem?_append_left:=@List.getElem?_append_left
theorem zS:type_of% @List.mem_filter:=@List.mem_filter
theorem zT:type_of% @List.getElem?_set:=@List.getElem?_set
theorem zU:type_of% @Sum.inl.inj:=@Sum.inl.inj
theorem za:type_of% @Array.getElem?_modify:=@Array.getElem?_modify
theorem zd:type_of% @List.mem_of_mem_take:=@List.mem_of_mem_take
theorem ze:type_of% @Option.map_none:=@Option.map_none
theorem zf:type_of% @List.any_eq_true:=@List.any_eq_true
theorem zg:type_of% @List.getElem?_append_right:=@List.getElem?_append_right
theorem zh:type_of% @Int.tmod_eq_emod_of_nonneg:=@Int.tmod_eq_emod_of_nonneg
theorem zi:type_of% @Nat.min_eq_left:=@Nat.min_eq_left
theorem zj:type_of% @List.append_nil:=@List.append_nil
theorem zk:type_of% @Sum.inr.inj:=@Sum.inr.inj
theorem zl:type_of% @List.take_append_drop:=@List.take_append_drop
theorem zm:type_of% @List.drop_zero:=@List.drop_zero
theorem zn:type_of% @List.length_nil:=@List.length_nil
theorem zo:type_of% @List.length_map:=@List.length_map
theorem zq:type_of% @List.length_eq_zero_iff:=@List.length_eq_zero_iff
theorem zr:type_of% @Nat.testBit_lt_two_pow:=@Nat.testBit_lt_two_pow
theorem zt:type_of% @Nat.ble_eq_true_of_le:=@Nat.ble_eq_true_of_le
theorem zu:type_of% @Bool.and_eq_false_iff:=@Bool.and_eq_false_iff
theorem zw:type_of% @Option.getD_some:=@Option.getD_some
theorem zy:type_of% @List.find?_eq_none:=@List.find?_eq_none
theorem jQ:type_of% @Nat.mul_comm:=@Nat.mul_comm
theorem jZ:type_of% @Bool.false_or:=@Bool.false_or
theorem jJ:type_of% @if_false:=@if_false
theorem jK:type_of% @Nat.eq_of_testBit_eq:=@Nat.eq_of_testBit_eq
theorem jV:type_of% @List.drop_drop:=@List.drop_drop
theorem jW:type_of% @List.find?_some:=@List.find?_some
theorem jY:type_of% @List.all_cons:=@List.all_cons
theorem jX:type_of% @beq_self_eq_true:=@beq_self_eq_true
theorem jA:type_of% @Nat.testBit_and:=@Nat.testBit_and
theorem jB:type_of% @if_true:=@if_true
theorem jC:type_of% @Nat.testBit_div_two_pow:=@Nat.testBit_div_two_pow
theorem jD:type_of% @List.mem_flatten:=@List.mem_flatten
theorem jE:type_of% @List.drop_take:=@List.drop_take
theorem jF:type_of% @Nat.add_zero:=@Nat.add_zero
theorem jG:type_of% @List.filter_eq_nil_iff:=@List.filter_eq_nil_iff
theorem jH:type_of% @List.drop_of_length_le:=@List.drop_of_length_le
theorem jI:type_of% @List.drop_eq_nil_of_le:=@List.drop_eq_nil_of_le
theorem jL:type_of% @Int.cast_ofNat_Int:=@Int.cast_ofNat_Int
theorem jM:type_of% @Bool.false_ne_true:=@Bool.false_ne_true
theorem jN:type_of% @Bool.not_true:=@Bool.not_true
theorem jO:type_of% @List.any_eq_false:=@List.any_eq_false
theorem jP:type_of% @List.getD_eq_getElem?_getD:=@List.getD_eq_getElem?_getD
theorem jR:type_of% @Nat.min_eq_right:=@Nat.min_eq_right
theorem jS:type_of% @List.mem_flatMap:=@List.mem_flatMap
theorem jT:type_of% @List.filter_eq_self:=@List.filter_eq_self
theorem jU:type_of% @Nat.le_max_left:=@Nat.le_max_left
theorem ja:type_of% @Nat.div_add_mod:=@Nat.div_add_mod
theorem jb:type_of% @List.nodup_cons:=@List.nodup_cons
theorem jc:type_of% @Nat.mod_lt:=@Nat.mod_lt
theorem jd:type_of% @Nat.le_succ:=@Nat.le_succ
theorem je:type_of% @List.getElem?_cons_zero:=@List.getElem?_cons_zero
theorem jf:type_of% @List.size_toArray:=@List.size_toArray
theorem jg:type_of% @Array.getElem?_setIfInBounds_ne:=@Array.getElem?_setIfInBounds_ne
theorem jh:type_of% @List.length_singleton:=@List.length_singleton
theorem ji:type_of% @List.length_filter_le:=@List.length_filter_le
theorem jj:type_of% @List.getElem?_toArray:=@List.getElem?_toArray
theorem jk:type_of% @List.contains_iff_mem:=@List.contains_iff_mem
theorem jl:type_of% @Option.getD_none:=@Option.getD_none
theorem jm:type_of% @List.take_length:=@List.take_length
theorem jn:type_of% @List.eq_nil_of_length_eq_zero:=@List.eq_nil_of_length_eq_zero
end Go
namespace Go
theorem qSj{α:Type _}{a b:α}(h:some a=some b):a=b:=Option.some.inj h
theorem qBs{α β:Type _}(a:α)(f:α->Option β):(some a).bind f=f a:=rfl
theorem qAn(a b:Bool):((a&&b)=true)=(a=true/\b=true):=Bool.and_eq_true a b
theorem qDe{p:Prop}[Decidable p]:(decide p=true)=p:=decide_eq_true_eq
theorem qDf{p:Prop}{_:Decidable p}:decide p=false↔¬p:=decide_eq_false_iff_not
theorem qNb{n m:Nat}(h:Nat.beq n m=true):n=m:=Nat.eq_of_beq_eq_true h
theorem qLa{α:Type _}{l m:List α}:(l++m).length=l.length+m.length:=List.length_append
theorem qLc{α:Type _}{a:α}{l:List α}:(a::l).length=l.length+1:=rfl
theorem qOi{α:Type _}(a b:α):(some a=some b)=(a=b):=Option.some.injEq a b
theorem qOb{α β:Type _}{o:Option α}{f:α->Option β}{b:β}:o.bind f=some b↔∃a,o=some a/\f a=some b:=Option.bind_eq_some_iff
theorem qTn(n:Nat):(n:Int).toNat=n:=Int.toNat_natCast n
open Go.RowKit
def World.ext(w:World)(X:Array Obj)(d:Nat):World:={ w with heap:=w.heap++X,drawn:=d }
section
variable(w:World)(X:Array Obj)(d:Nat)
@[go_sem,simp] theorem World.size_ext:(w.ext X d).heap.size=w.heap.size+X.size:=by simp[World.ext]
theorem World.heap_ext(k:Nat)(h:k<w.heap.size):(w.ext X d).heap[k]? = w.heap[k]? := by
 show(w.heap++X)[k]? = _;rw[Array.getElem?_append_left h]
@[go_sem,simp] theorem World.ext_ext (Y:Array Obj) (e:Nat):(w.ext X d).ext Y e=w.ext (X++Y) e:=by
 simp[World.ext,Array.append_assoc]
theorem World.alloc_ext(o:Obj):(w.ext X d).alloc o=w.ext (X.push o) d:=by
 show({ w with heap:=(w.heap++X).push o,drawn:=d }:World)=_;simp[World.ext,←Array.push_append]
theorem World.self_as_ext:w=w.ext #[] w.drawn:=by simp only[World.ext,Array.append_empty]
theorem World.drew_as_ext:w.drew=w.ext #[] (w.drawn+1):=by simp only[World.ext,Array.append_empty];rfl
theorem World.below_ext:Below w.heap.size w (w.ext X d) :=
 ⟨rfl,rfl,rfl,by simp,λk f=>World.heap_ext w X d k f⟩
end
theorem RowKit.Below.toExt{w w':World}(h:Below w.heap.size w w'):∃X d,w'=w.ext X d:=by
 refine⟨w'.heap.extract w.heap.size w'.heap.size,w'.drawn,?_⟩;obtain⟨q,p,m,u,j⟩:=h;cases w' with
 | mk heap tape drawn os output =>
  simp only at q p m u j;simp only[World.ext,q,p,m]
  congr 1
  apply Array.ext_getElem?;intro k;by_cases f:k<w.heap.size
  .rw[Array.getElem?_append_left f];exact j k f
  .rw[Array.getElem?_append_right (by omega),Array.getElem?_extract];by_cases s:k<heap.size
   .rw[qV (by omega)];congr 1;omega
   .rw[qX (by omega),qy (by omega)]
def Ext(w w':World):Prop:=∃X d,w'=w.ext X d
theorem Ext.refl(w:World):Ext w w:=⟨#[],w.drawn,World.self_as_ext w⟩
theorem Ext.trans{a b c:World}(h:Ext a b)(k:Ext b c):Ext a c:=by
 obtain⟨X,d,rfl⟩:=h;obtain⟨Y,e,rfl⟩:=k;exact⟨X++Y,e,by simp⟩
theorem Ext.alloc{a b:World}(h:Ext a b)(o:Obj):Ext a (b.alloc o):=by
 obtain⟨X,d,rfl⟩:=h;exact⟨_,_,World.alloc_ext _ _ _ o⟩
theorem Ext.below{a b:World}(h:Ext a b):Below a.heap.size a b:=by
 obtain⟨X,d,rfl⟩:=h;exact World.below_ext a X d
theorem Ext.of_below{a b:World}(h:Below a.heap.size a b):Ext a b:=h.toExt
section
variable{P:Program}{ops:Array Oper}{md:Region.Mode}{Q:Exit->Act->World->Prop}
def Oper.quietUponX(P:Program)(w:World)(v:Value):Result Next->Prop | .ok (.value u) w'=>w'=w/\u=v | .ok .skip w'=>w'=w/\v=undef | .ok (.enter f args) w'=>w'=w/\Calls P f args w (λe h=>e = .returned v/\Ext w h)|_=>False
def eg_(Q:Exit->Act->World->Prop):Exit->Act->World->Prop:=λe _ _=>e = .outgrown/\LetsOut Q
theorem oq_(h:LetsOut (eg_ Q)):LetsOut Q:=let ⟨_,_,_,h⟩:=h;h
theorem Oper.wp_out{o:Oper}{a:Act}{w:World}{K K':Act->World->Prop}{Q Q':Exit->Act->World->Prop}(m:∀a w,K a w->K' a w)
  (p:∀ch a w,Q (.panic ch) a w->Q' (.panic ch) a w) (q:LetsOut Q->LetsOut Q') (h:o.wp P a w K Q):o.wp P a w K' Q':=by
 unfold Oper.wp at *
 generalize(execOp a.eval o).run P w=r at *
 cases r with
 | ok n w' =>
  cases n<;>simp only[Oper.upon]at h ⊢ <;>
   first
    | exact m _ _ h
    | exact Calls.mono h (λe j f=>by
      cases e with
      | returned u=>exact m _ _ f
      | panicked chain=>exact p _ _ _ f
      | outgrown=>exact q f)
    | exact Rows.mono h (λu j f=>m _ _ f)
 | halt x w'=>cases x<;>simp only[Oper.upon]at h ⊢<;>first|exact h|exact p _ _ _ h
theorem wpOp_out {i:Nat} {K:Act->World->Prop} {a:Act} {w:World} (f:wpOp P ops (eg_ Q) i K a w):wpOp P ops Q i K a w:=by
 unfold wpOp at *
 split
 .simpa[*]using f
 .rename_i o q;simp only[q]at f;split
  .rename_i j;simp only[j,jB]at f;refine f.imp (λh => ?_) (λh=>⟨h.1,oq_ h.2⟩);unfold Oper.wp at *
   generalize(execOp a.eval o).run P w=r at *
   cases r with
   | ok n w' =>
    cases n<;>simp only[Oper.upon]at h ⊢ <;>
     first
      | exact h
      | exact Calls.mono h (λe p m=>by
        cases e with
        | returned u=>exact m
        | panicked chain=>exact absurd m.1 (by simp)
        | outgrown=>exact oq_ m)
   | halt x w'=>cases x<;>simp only[Oper.upon]at h ⊢<;>first|exact h|exact absurd h.1 (by simp)
  .rename_i j;simp only[j]at f;exact f
def ez_(md:Region.Mode)(ops:Array Oper):Nat->Nat->Nat->Bool
 | 0,_,_=>false
 | n+1,j,i=>match ops[j]? with
  | none=>false
  | some o=>o.after.any λe=>Region.binds md e&&(e.on==i||ez_ md ops n e.on i)
def Closed(md:Region.Mode)(ops:Array Oper)(f:Array Bool):Prop:=∀j o,ops[j]? = some o->f.getD j false=true->∀e∈o.after,Region.binds md e=true->f.getD e.on false=true
theorem ru_{f:Array Bool}(x:Closed md ops f):∀(n j i:Nat) (o:Oper),ops[j]? = some o->(∀e∈o.after,Region.binds md e=true->f.getD e.on false=true)->ez_ md ops n j i=true->f.getD i false=true
 | 0,_,_,_,_,_,h=>by cases h
 | n+1,j,i,o,y,m,h=>by
  simp only[ez_,y]at h;obtain⟨e,C,q⟩:=Array.any_eq_true'.1 h;simp only[qAn,qP,qG]at q;have u:=m e C q.1;rcases q.2 with rfl|s
  .exact u
  .cases p:ops[e.on]? with
   | none=>cases n<;>simp[ez_,p]at s
   | some o'=>exact ru_ x n e.on i o' p (x e.on o' p u) s
theorem eE_{f:Array Bool}{i:Nat}(y:Closed md ops f)(hi:i∈Region.ready md ops f):Closed md ops (f.setIfInBounds i true):=by
 intro j o s q e u x;obtain⟨_,oi,p,m⟩:=mem_ready.1 hi;by_cases h:i=j
 .subst h;obtain rfl:o=oi:=qSj (s.symm.trans p);exact getD_set_true (m e u x)
 .rw[getD_set_ne false h]at q;exact getD_set_true (y j o s q e u x)
theorem nE_(n:Nat):Closed md ops (Array.replicate n false):=by
 intro j o _ f;rcases qN j n with h|h
 .simp[h]at f
 .simp[h]at f
attribute [go_sem] Oper.quietUponX
end
theorem Addr.add_mk(b o n:Nat):(⟨b,o,none⟩:Addr).add n=⟨b,o+n,none⟩:=by
 unfold Addr.add;split
 .next h=>subst h;rfl
 .rfl
def SlB(w:World)(B c:Nat)(A:Option Addr)(n:Nat)(rows:List (List Value)):Prop :=
 rows.length=n/\(0<n->∃b off,A=some ⟨b,off,none⟩/\b<B /\
  ∀i r,rows[i]? = some r->r.length=c/\∀j u,r[j]? = some u->w.cell? ⟨b,off+i*c+j,none⟩=some u)
abbrev Own(w:World)(base:Nat)(e:TypeId)(c:Nat)(A:Option Addr)(n cap:Nat)(xs:List Value):Prop:=w.ownsRow base e c (.slice A n cap) n xs
section
variable{w w':World}{base e c n cap:Nat}{A:Option Addr}{xs:List Value}{v:Value}
theorem own_form(h:w.ownsRow base e c v n xs):∃A cap,v = .slice A n cap:=by
 rcases h.2 with⟨rfl,rfl⟩|⟨g,cap,cur,rfl,_⟩
 .exact⟨none,0,rfl⟩
 .exact⟨_,_,rfl⟩
theorem Own.cap_le(h:Own w base e c A n cap xs):n<=cap/\cap<=maxLen:=by
 rcases h.2 with⟨m,j⟩|⟨g,cap',cur,p,_,_,m,j,_⟩
 .injection m with _ _ f;subst j;subst f;exact⟨qA _,by unfold maxLen;omega⟩
 .injection p with _ _ f;subst f;exact⟨m,j⟩
theorem iI_{rows:List (List Value)}{c:Nat}(hr:∀r∈rows,r.length=c):∀{i:Nat} {r:List Value},rows[i]? = some r->∀j u,r[j]? = some u->rows.flatten[i*c+j]? = some u:=by
 induction rows with
 | nil=>intro i r h;simp at h
 | cons x rows s =>
  intro i r h j u f;have q:x.length=c:=hr x (by simp);cases i with
  | zero =>
   simp at h;subst h;rw[qv,Nat.zero_mul,qo,zR (by
    rcases qN j x.length with p|p
    .exact p
    .rw[qa p]at f;cases f)]
   exact f
  | succ i =>
   rw[qv,zg (by rw[q,zD];omega)];have:=s (λr m=>hr r (qC _ m)) (i:=i) (r:=r) (by simpa using h) j u f;rw[←this,q]
   congr 1
   rw[zD];omega
theorem bo_{rows:List (List Value)}{c:Nat}(hr:∀r∈rows,r.length=c):rows.flatten.length=rows.length*c:=by
 induction rows with
 | nil=>simp
 | cons x rows f =>
  rw[qv,qLa,hr x (by simp),f λr h=>hr r (qC _ h),qLc,zD];omega
theorem Own.reads{rows:List (List Value)}(h:Own w base e c A n cap rows.flatten)(hr:∀r∈rows,r.length=c)(s:rows.length=n):SlB w w.heap.size c A n rows:=by
 refine⟨s,λD => ?_⟩;rcases h.2 with⟨_,C⟩|⟨g,cap',cur,p,_,f,J,C,G,y⟩
 .omega
 .injection p with x _ F;subst x;refine⟨g,0,rfl,?_,λi r hi=>⟨hr r (qe hi),λj u q => ?_⟩⟩
  .rcases qN g w.heap.size with m|m
   .exact m
   .rw[qy m]at f;cases f
  .rw[qo,cell_of_row w g _ cur e (0,0) f];have:=iI_ hr hi j u q;rw[←y,zX]at this;split at this
   .simpa using this
   .cases this
end
end Go
namespace Go
namespace Rt
open Go.RowKit
def look(t:Nat):List (Nat×Value)->Option Value
 | []=>none
 | (u,v)::r=>match Nat.beq t u with
  | true=>some v
  | false=>look t r
structure Env(N:Nat)(a:Act)(env:List (Nat×Value)):Prop where
 size:a.tmps.size=N
 defers:a.defers=[]
 get:∀t v,look t env=some v->a.tmps[t]? = some v
section
variable{N:Nat}{a:Act}{env sl:List (Nat×Value)}
theorem dC_{t u:Nat}(h:Nat.beq t u=false):t≠u:=by
 intro e;subst e;simp at h
end
def eq_{α:Type}(P:Program):Sem α->Option α | .pure a=>some a | .program k=>eq_ P (k P)|_=>none
theorem fN_{α:Type}{P:Program}{s:Sem α}{r:α}(h:eq_ P s=some r)(w:World):s.run P w = .ok r w:=by
 induction s with
 | pure a=>simp only[eq_,qOi]at h;subst h;rfl
 | program k f=>simp only[eq_]at h;simp only[Sem.run];exact f P h
 | _=>simp[eq_]at h
def isSelect:Op->Bool | .select .. => true|_=>false
inductive Res where
 | box (b:Nat) (T:TypeId) (cs:List Value)
 | row (e:TypeId) (c:Nat) (A:Option Addr) (n cap:Nat) (rows:List (List Value))
 | ro (F:Nat->Prop) (φ:World->Prop)
def Res.fp:Res->Nat->Prop | .box b _ _,k=>k=b | .row _ _ A _ _ _,k=>∃a,A=some a/\k=a.block | .ro F _,k=>F k
def Res.excl:Res->Prop | .ro .. => False|_=>True
def Local(F:Nat->Prop)(φ:World->Prop):Prop:=∀w w',w.heap.size<=w'.heap.size->(∀k,F k->w'.heap[k]? = w.heap[k]?)->φ w->φ w'
def Res.holds(w:World):Res->Prop | .box b T cs=>w.heap[b]? = some (.cells cs.toArray T (0,0)) | .row e c A n cap rows=>w.ownsRow 0 e c (.slice A n cap) n rows.flatten/\rows.length=n/\∀r∈rows,r.length=c | .ro F φ=>φ w/\Local F φ/\∀k,F k->k<w.heap.size
def Apart(r s:Res):Prop:=(r.excl\/s.excl)->∀k,r.fp k->¬s.fp k
theorem Apart.symm{r s:Res}(h:Apart r s):Apart s r:=λf k m j=>h (f.symm) k j m
structure Grow(w w':World):Prop where
 os:w'.os=w.os
 tape:w'.tape=w.tape
 output:w'.output=w.output
 size:w.heap.size<=w'.heap.size
theorem Grow.refl(w:World):Grow w w:=⟨rfl,rfl,rfl,qA _⟩
theorem Grow.trans{a b c:World}(h:Grow a b)(k:Grow b c):Grow a c:=⟨k.os.trans h.os,k.tape.trans h.tape,k.output.trans h.output,qk h.size k.size⟩
theorem Grow.of_below{B:Nat}{a b:World}(h:Below B a b):Grow a b:=⟨h.os,h.tape,h.output,h.size⟩
structure Chg(Bs:List Nat)(w w':World):Prop where
 grow:Grow w w'
 block:∀k,k<w.heap.size->k∉Bs->w'.heap[k]? = w.heap[k]?
theorem Chg.below{w w':World}(h:Chg [] w w'):Below w.heap.size w w':=⟨h.grow.os,h.grow.tape,h.grow.output,h.grow.size,λk f=>h.block k f (by simp)⟩
theorem Chg.of_below{Bs:List Nat}{w w':World}(h:Below w.heap.size w w'):Chg Bs w w':=⟨Grow.of_below h,λk f _=>h.block k f⟩
structure Sep(Bs:List Nat)(w0 w:World)(L:List Res):Prop where
 chg:Chg Bs w0 w
 hold:∀r∈L,r.holds w
 own:∀r∈L,r.excl->∀k,r.fp k->w0.heap.size<=k\/k∈Bs
 apart:L.Pairwise Apart
theorem Res.holds_lt{w:World}{r:Res}(h:r.holds w):∀k,r.fp k->k<w.heap.size:=by
 intro k f;cases r with
 | box b T cs =>
  simp only[Res.fp]at f;subst f;rcases qN k w.heap.size with j|j
  .exact j
  .simp only[Res.holds]at h;rw[qy j]at h;cases h
 | row e c A n cap xs =>
  obtain⟨a,rfl,rfl⟩:=f;exact(World.ownsRow.lt h.1 _ rfl).2
 | ro F φ=>exact h.2.2 k f
theorem Res.holds_keep{w w':World}{r:Res}(h:r.holds w)(p:w.heap.size<=w'.heap.size)(j:∀k,r.fp k->w'.heap[k]? = w.heap[k]?):r.holds w':=by
 cases r with
 | box b T cs=>simp only[Res.holds]at h ⊢;rw[j b rfl];exact h
 | row e c A n cap xs =>
  obtain⟨h,f⟩:=h;refine⟨⟨h.1,?_⟩,f⟩;rcases h.2 with y|⟨g,cap',cur,m,s,q,r⟩
  .exact .inl y
  .refine .inr ⟨g,cap',cur,m,s,?_,r⟩;injection m with x;rw[j g ⟨_,x,rfl⟩];exact q
 | ro F φ=>exact⟨h.2.1 w w' p j h.1,h.2.1,λk u=>zJ (h.2.2 k u) p⟩
section
variable{Bs:List Nat}{w0 w w':World}{L:List Res}
theorem Sep.start(Bs:List Nat)(w:World):Sep Bs w w []:=⟨Chg.of_below (Below.refl _ _),(λ_ h=>nomatch h),(λ_ h=>nomatch h),List.Pairwise.nil⟩
theorem Sep.size(h:Sep Bs w0 w L):w0.heap.size<=w.heap.size:=h.chg.grow.size
theorem Sep.ext(h:Sep Bs w0 w L)(m:Ext w w'):Sep Bs w0 w' L:=by
 have j:=m.below;refine⟨⟨h.chg.grow.trans (Grow.of_below j),λk f p=>(j.block k (zJ f h.size)).trans (h.chg.block k f p)⟩,λr hr => ?_,h.own,h.apart⟩;exact Res.holds_keep (h.hold r hr) j.size λk f=>j.block k (Res.holds_lt (h.hold r hr) k f)
theorem Sep.add(h:Sep Bs w0 w L)(u:Ext w w'){r:Res}(hr:r.holds w')(q:∀k,r.fp k->w.heap.size<=k):Sep Bs w0 w' (r::L):=by
 have m:=h.ext u;refine⟨m.chg,λs f => ?_,λs f x k j => ?_,?_⟩
 .rcases qW.1 f with rfl|f
  .exact hr
  .exact m.hold s f
 .rcases qW.1 f with rfl|f
  .exact .inl (qk h.size (q k j))
  .exact m.own s f x k j
 .refine List.Pairwise.cons (λs f _ k j p => ?_) m.apart;have C:=Res.holds_lt (h.hold s f) k p;have y:=q k j;omega
def pick(L:List Res):List Nat->List Res
 | []=>[]
 | i::r=>match L[i]? with
  | some x=>x::pick L r
  | none=>pick L r
theorem Sep.apart_at(h:Sep Bs w0 w L){i j:Nat}{r s:Res}(hi:L[i]? = some r)(u:L[j]? = some s)(f:i≠j):Apart r s:=by
 obtain⟨q,rfl⟩:=qZ.1 hi;obtain⟨p,rfl⟩:=qZ.1 u;rcases Nat.lt_or_gt_of_ne f with m|m
 .exact zK.1 h.apart i j q p m
 .exact(zK.1 h.apart j i p q m).symm
def nodupB:List Nat->Bool | []=>true|i::r => !(r.contains i)&&nodupB r
theorem Sep.turn(h:Sep Bs w0 w L)(i:Nat){r r':Res}(hi:L[i]? = some r)(U:r.excl)(hr:r'.holds w')
  (hb:Grow w w') (hk:∀k,k<w.heap.size->¬r.fp k->w'.heap[k]? = w.heap[k]?) (hf:∀k,r'.fp k->r.fp k\/w.heap.size<=k):Sep Bs w0 w' (L.set i r'):=by
 have ZY:=(qZ.1 hi).1;have other:∀j s,L[j]? = some s->j≠i->s.holds w':=λj s m f=>by
  refine Res.holds_keep (h.hold s (qe m)) hb.size λk O => ?_
  refine hk k (Res.holds_lt (h.hold s (qe m)) k O) λY => ?_
  exact h.apart_at hi m (Ne.symm f) (.inl U) k Y O
 have mem:∀s∈L.set i r',(s=r')\/∃j,L[j]? = some s/\j≠i:=λs C=>by
  obtain⟨j,m⟩:=qO.1 C;rw[zT]at m;split at m
  .first|exact .inl (qSj m).symm|(rw[qV (by omega)]at m;exact .inl (qSj m).symm)
  .rename_i f;exact .inr ⟨j,m,Ne.symm f⟩
 have own':∀k,r'.fp k->w0.heap.size<=k\/k∈Bs:=λk q=>by
  rcases hf k q with u|u
  .exact h.own r (qe hi) U k u
  .exact .inl (qk h.size u)
 have far:∀j s,L[j]? = some s->j≠i->∀k,r'.fp k->¬s.fp k:=λj s m f k q C=>by
  rcases hf k q with u|u
  .exact h.apart_at hi m (Ne.symm f) (.inl U) k u C
  .have:=Res.holds_lt (h.hold s (qe m)) k C;omega
 refine⟨⟨h.chg.grow.trans hb,λk p hn=>(hk k (zJ p h.size) λZ => ?_).trans (h.chg.block k p hn)⟩,λs C => ?_,λs C V k q => ?_,?_⟩
 .rcases h.own r (qe hi) U k Z with u|u
  .omega
  .exact hn u
 .rcases mem s C with rfl|⟨j,m,f⟩
  .exact hr
  .exact other j s m f
 .rcases mem s C with rfl|⟨j,m,f⟩
  .exact own' k q
  .exact h.own s (qe m) V k q
 .rw[zK];intro M J u h2 ZZ;have G:(L.set i r')[M]? = some (L.set i r')[M]:=qQ u;have D:(L.set i r')[J]? = some (L.set i r')[J]:=qQ h2;generalize(L.set i r')[M]=x at G ⊢;generalize(L.set i r')[J]=y at D ⊢;rw[zT]at G D;by_cases c1:i=M
  .rw[qV c1,qV (by omega)]at G;rw[qX (by omega)]at D;obtain rfl:=qSj G;exact λ_ k p F=>far J y D (by omega) k p F
  .rw[qX c1]at G;by_cases c2:i=J
   .rw[qV c2,qV (by omega)]at D;obtain rfl:=qSj D;exact λ_ k p F=>far M x G (by omega) k F p
   .rw[qX c2]at D;exact h.apart_at G D (by omega)
end
abbrev Str:=List UInt8
def S(l:Str):Value := .string ⟨l.toArray⟩
def w64(n:Int):Int:=IntKind.i64.wrap n
def cat(a b:Str):Option Str:=if a.length+b.length<=9223372036854775807 then some (a++b)else none
def an_{α:Type}(xs:List α)(i:Int):Option α:=if 0<=i then xs[i.toNat]? else none
def setI{α:Type}(xs:List α)(i:Int)(x:α):Option (List α):=if 0<=i/\i<xs.length then some (xs.set i.toNat x)else none
def cx_(s:Str)(i:Int):Option Int:=(an_ s i).map λb=>(b.toNat:Int)
def bI_{α:Type}(xs:List α)(lo hi:Int):Option (List α):=if 0<=lo/\lo<=hi/\hi<=xs.length then some ((xs.take hi.toNat).drop lo.toNat)else none
def quoI(k:IntKind)(x y:Int):Option Int:=if y=0 then none else some (k.wrap (x.tdiv y))
def remI(x y:Int):Option Int:=if y=0 then none else some (x.tmod y)
def shlI(k:IntKind)(x y:Int):Option Int:=if y<0 then none else some (k.wrap (x*2^min y.toNat k.bits))
def shrI(k:IntKind)(x y:Int):Option Int:=if y<0 then none else some (x.fdiv (2^min y.toNat k.bits))
def bytesS(ns:List Int):Str:=ns.map λn=>UInt8.ofNat n.toNat
def room{α:Type}(bytes:Nat)(xs f:List α):Option (List α):=if xs.length+f.length<=9223372036854775807/\(xs.length+f.length)*bytes<=140737488355328 then some (xs++f)else none
def iZ_{α:Type}(bytes:Nat)(z:α)(n:Int):Option (List α):=if 0<=n/\n<=9223372036854775807/\bytes*n<=281474976710656 then some (List.replicate n.toNat z)else none
theorem bind_some{α β:Type}{x:Option α}{f:α->Option β}{r:β}(h:x.bind f=some r):∃a,x=some a/\f a=some r:=by
 cases x with
 | none=>cases h
 | some a=>exact⟨a,rfl,h⟩
theorem str_eq(a b:Str):((⟨a.toArray⟩:ByteArray).toList==(⟨b.toArray⟩:ByteArray).toList)=(a==b):=by
 rw[ByteArray.toList_mk,ByteArray.toList_mk]
section
variable{P:Program}{ρ:Operand->Value}{w:World}{o:Oper}
theorem size_mk(l:Str):(⟨l.toArray⟩:ByteArray).size=l.length:=by simp[ByteArray.size]
theorem append_mk(a b:Str):((⟨a.toArray⟩:ByteArray)++⟨b.toArray⟩:ByteArray)=⟨(a++b).toArray⟩:=by
 apply ByteArray.ext;simp
theorem run_cat{t yt:TypeId}{x y:Operand}(m:o.op = .binOp .add t x y yt){a b r:Str}(j:ρ x=S a)(f:ρ y=S b)(h:cat a b=some r) :
  (execOp ρ o).run P w = .ok (.value (S r)) w:=by
 unfold cat at h;split at h
 .rename_i q;simp only[qOi]at h;subst h;unfold execOp;simp only[m,j,f,S];have p:¬((((⟨a.toArray⟩:ByteArray).size+(⟨b.toArray⟩:ByteArray).size:Nat):Int)>IntKind.i64.max):=by
   rw[size_mk,size_mk];show ¬(((a.length+b.length:Nat):Int)>9223372036854775807);omega
  simp only[eqGuard,binOp,Op.stringOp];rw[qX p,append_mk];rfl
 .cases h
theorem run_str_eql{t yt:TypeId}{x y:Operand}(j:o.op = .binOp .eql t x y yt){a b:Str}(h:ρ x=S a)(f:ρ y=S b) :
  (execOp ρ o).run P w = .ok (.value (.bool (a==b))) w:=by
 unfold execOp;simp only[j,h,f,S];simp only[eqGuard,binOp,Op.stringOp,str_eq];rfl
theorem run_str_neq{t yt:TypeId}{x y:Operand}(j:o.op = .binOp .neq t x y yt){a b:Str}(h:ρ x=S a)(f:ρ y=S b) :
  (execOp ρ o).run P w = .ok (.value (.bool (!(a==b)))) w:=by
 unfold execOp;simp only[j,h,f,S];simp only[eqGuard,binOp,Op.stringOp,str_eq];rfl
theorem run_str_lss{t yt:TypeId}{x y:Operand}(j:o.op = .binOp .lss t x y yt){a b:Str}(h:ρ x=S a)(f:ρ y=S b) :
  (execOp ρ o).run P w = .ok (.value (.bool (Op.bytesLess a b))) w:=by
 unfold execOp;simp only[j,h,f,S];simp only[eqGuard,binOp,Op.stringOp,ByteArray.toList_mk];rfl
theorem run_str_gtr{t yt:TypeId}{x y:Operand}(j:o.op = .binOp .gtr t x y yt){a b:Str}(h:ρ x=S a)(f:ρ y=S b) :
  (execOp ρ o).run P w = .ok (.value (.bool (!(Op.bytesLess a b||a==b)))) w:=by
 unfold execOp;simp only[j,h,f,S];simp only[eqGuard,binOp,Op.stringOp,ByteArray.toList_mk];rfl
theorem run_byteI{t:TypeId}{x i:Operand}(s:o.op = .index t x i)(q:P.underlying t=some .string){a:Str}{k:IntKind}{n r:Int}(p:ρ x=S a)(hi:ρ i = .int k n)(h:cx_ a n=some r) :
  (execOp ρ o).run P w = .ok (.value (.int .u8 r)) w:=by
 unfold cx_ an_ at h;split at h
 .rename_i u;cases f:a[n.toNat]? with
  | none=>rw[f]at h;cases h
  | some b =>
   rw[f]at h;simp only[qM,qOi]at h;subst h;have e:(⟨a.toArray⟩:ByteArray)[n.toNat]? = some b:=by
    have j:=(qZ.1 f).1;have y:=(qZ.1 f).2;have m:n.toNat<(⟨a.toArray⟩:ByteArray).size:=by rw[size_mk];exact j
    have C:(⟨a.toArray⟩:ByteArray)[n.toNat]'m=b:=by
     show a.toArray[n.toNat]=b;simpa using y
    rw[←C];exact getElem?_pos (⟨a.toArray⟩:ByteArray) n.toNat m
   unfold execOp;simp only[s,p,hi,S];simp[Instr.index,asIntOf,run_underlying q,u,e]
 .cases h
theorem or_{k:IntKind}{i:Int}{y:Nat}{code:BoundsCode}(h:0<=i)(f:i<=y):(Instr.sliceBound (.int k i) y code).run P w = .ok i.toNat w:=by
 simp[Instr.sliceBound,asIntOf,h,f]
theorem extract_mk(a:Str)(l h:Nat)(f:l<=h):(⟨a.toArray⟩:ByteArray).extract l h=⟨((a.take h).drop l).toArray⟩:=by
 apply ByteArray.ext;rw[ByteArray.data_extract];simp[List.take_drop];rw[show l+(h-l)=h by omega]
theorem md_{α:Type}{xs r:List α}{lo hi:Int}(h:bI_ xs lo hi=some r):0<=lo/\lo<=hi/\hi<=xs.length/\r=(xs.take hi.toNat).drop lo.toNat:=by
 unfold bI_ at h;split at h
 .rename_i f;simp only[qOi]at h;exact⟨f.1,f.2.1,f.2.2,h.symm⟩
 .cases h
theorem run_bounds(isS:Bool){k1 f:IntKind}{lo hi:Int}{n cap:Nat}(j:0<=lo)(m:lo<=hi)(h:hi<=cap) :
  (Instr.sliceBounds isS n cap (some (.int k1 lo)) (some (.int f hi)) none).run P w = .ok (lo.toNat,hi.toNat,cap) w:=by
 simp only[Instr.sliceBounds,Sem.run_bind,Sem.run_pure,Result.andThen_ok,or_ (P:=P) (w:=w) (i:=hi) (y:=cap) (by omega) h,
  or_ (P:=P) (w:=w) (i:=lo) (y:=hi.toNat) j (by omega)]
theorem x3_(isS:Bool){k1:IntKind}{lo:Int}{n cap:Nat}(h:0<=lo)(f:lo<=n) :
  (Instr.sliceBounds isS n cap (some (.int k1 lo)) none none).run P w = .ok (lo.toNat,n,cap) w:=by
 simp only[Instr.sliceBounds,Sem.run_bind,Sem.run_pure,Result.andThen_ok,or_ (P:=P) (w:=w) (i:=lo) (y:=n) h f]
theorem x4_(isS:Bool){f:IntKind}{hi:Int}{n cap:Nat}(j:0<=hi)(h:hi<=cap) :
  (Instr.sliceBounds isS n cap none (some (.int f hi)) none).run P w = .ok (0,hi.toNat,cap) w:=by
 simp only[Instr.sliceBounds,Sem.run_bind,Sem.run_pure,Result.andThen_ok,or_ (P:=P) (w:=w) (i:=hi) (y:=cap) j h]
theorem ui_(isS:Bool){n cap:Nat} :
  (Instr.sliceBounds isS n cap none none none).run P w = .ok (0,n,cap) w:=by
 simp only[Instr.sliceBounds,Sem.run_bind,Sem.run_pure,Result.andThen_ok]
def jK_(ρ:Operand->Value):Option Operand->Option Int->Prop|none,none=>True|some x,some n=>∃k,ρ x = .int k n|_,_=>False
theorem pu_(isS:Bool){lo hi:Option Operand}{l h:Option Int}{n cap:Nat}(j:jK_ ρ lo l)(m:jK_ ρ hi h)(q:0<=l.getD 0)(f:l.getD 0<=h.getD n)(p:h.getD n<=cap) :
  (Instr.sliceBounds isS n cap (lo.map ρ) (hi.map ρ) none).run P w = .ok ((l.getD 0).toNat,(h.getD n).toNat,cap) w:=by
 cases lo<;>cases l<;>cases hi<;>cases h<;>simp only[jK_]at j m<;>simp only[zw,jl]at q f p ⊢
 .exact ui_ isS
 .obtain⟨k,e⟩:=m;simp only[ze,qM,e];exact x4_ isS f p
 .obtain⟨k,e⟩:=j;simp only[ze,qM,e];exact x3_ isS q f
 .obtain⟨k,e⟩:=j;obtain⟨s,e'⟩:=m;simp only[qM,e,e'];exact run_bounds isS q f p
theorem run_str_sub{t:TypeId}{x:Operand}{lo hi:Option Operand}(m:o.op = .slice t x lo hi none)(j:P.underlying t=some .string){a r:Str}(f:ρ x=S a){l h:Option Int}(p:jK_ ρ lo l)(q:jK_ ρ hi h)
  (hr:bI_ a (l.getD 0) (h.getD a.length)=some r):(execOp ρ o).run P w = .ok (.value (S r)) w:=by
 obtain⟨C,y,u,rfl⟩:=md_ hr;unfold execOp;have s:=pu_ (P:=P) (w:=w) false (n:=a.length) (cap:=a.length) p q C y u;simp only[m,f,S,ze];simp[Instr.sliceAt,Instr.slice,run_underlying j,size_mk,s,extract_mk a _ _ (show(l.getD 0).toNat<=(h.getD a.length).toNat by omega)]
theorem run_quo{t yt:TypeId}{x y:Operand}{k:IntKind}{a b r:Int}(m:o.op = .binOp .quo t x y yt)(j:ρ x = .int k a)(f:ρ y = .int k b)(h:quoI k a b=some r):(execOp ρ o).run P w = .ok (.value (.int k r)) w:=by
 unfold quoI at h;split at h
 .cases h
 .rename_i p;simp only[qOi]at h;subst h;unfold execOp;simp[m,j,f,eqGuard,binOp,Op.intDiv,p]
theorem run_rem{t yt:TypeId}{x y:Operand}{k:IntKind}{a b r:Int}(m:o.op = .binOp .rem t x y yt)(j:ρ x = .int k a)(f:ρ y = .int k b)(h:remI a b=some r):(execOp ρ o).run P w = .ok (.value (.int k r)) w:=by
 unfold remI at h;split at h
 .cases h
 .rename_i p;simp only[qOi]at h;subst h;unfold execOp;simp[m,j,f,eqGuard,binOp,Op.intDiv,p]
theorem run_shl{t yt:TypeId}{x y:Operand}{k f:IntKind}{a b r:Int}(p:o.op = .binOp .shl t x y yt)(m:ρ x = .int k a)(j:ρ y = .int f b)(h:shlI k a b=some r):(execOp ρ o).run P w = .ok (.value (.int k r)) w:=by
 unfold shlI at h;split at h
 .cases h
 .rename_i q;simp only[qOi]at h;subst h;unfold execOp;simp[p,m,j,eqGuard,binOp,Op.shift,q]
theorem run_shr{t yt:TypeId}{x y:Operand}{k f:IntKind}{a b r:Int}(p:o.op = .binOp .shr t x y yt)(m:ρ x = .int k a)(j:ρ y = .int f b)(h:shrI k a b=some r):(execOp ρ o).run P w = .ok (.value (.int k r)) w:=by
 unfold shrI at h;split at h
 .cases h
 .rename_i q;simp only[qOi]at h;subst h;unfold execOp;simp[p,m,j,eqGuard,binOp,Op.shift,q]
end
def aggB(P:Program)(T:TypeId):Option Bool:=match P.underlying T with|some (.struct _)=>some true|some (.array _ _)=>some true|some _=>some false|none=>none
def k0_(P:Program)(T:TypeId)(cs:List Value)(off:Nat):Option Value :=
 match aggB P T,(P.info? T).map (·.size)with
 | some true,some n=>match Nat.ble (off+n) cs.length with|true=>some (.agg ((cs.drop off).take n).toArray)|false=>none
 | some false,_=>cs[off]?
 | _,_=>none
def splice(cs:List Value)(off:Nat)(vs:List Value):List Value:=cs.take off++vs++cs.drop (off+vs.length)
def mT_:Value->Bool | .agg _ | .tuple _=>false|_=>true
def dn_:List Value->Bool | []=>true|v::r=>mT_ v&&dn_ r
section
variable{P:Program}{ρ:Operand->Value}{w w0:World}{o:Oper}{Bs:List Nat}{L:List Res}
theorem nF_{T:TypeId}{b:Bool}(h:aggB P T=some b):(isAgg T).run P w = .ok b w:=by
 unfold aggB at h;cases f:P.underlying T with
 | none=>rw[f]at h;cases h
 | some d =>
  rw[f]at h;unfold isAgg;rw[Sem.run_bind,run_underlying f w];cases d<;>simp_all
theorem o4_{T:TypeId}{b off base:Nat}{cs:List Value}{v:Value}(f:k0_ P T cs off=some v)(C:∀j u,cs[j]? = some u->w.cell? ⟨b,base+j,none⟩=some u) :
  (loadVar T ⟨b,base+off,none⟩).run P w = .ok v w:=by
 unfold k0_ at f;cases h:aggB P T with
 | none=>rw[h]at f;cases f
 | some g =>
  rw[h]at f;cases g with
  | true =>
   cases hi:(P.info? T).map (·.size)with
   | none=>rw[hi]at f;cases f
   | some n =>
    rw[hi]at f;simp only at f;split at f
    .rename_i s;simp only[qOi]at f;subst f;have x:off+n<=cs.length:=by simpa using s
     have p:((cs.drop off).take n).length=n:=by simp;omega
     have y:(loadCells ⟨b,base+off,none⟩ ((cs.drop off).take n).length).run P w = .ok ((cs.drop off).take n).toArray w :=
      run_loadCells_list (P:=P) w _ _ (λj u m=>by
       rw[Addr.add_mk,zP];refine C _ _ ?_;rw[zX]at m;split at m
       .rw[zA]at m;exact m
       .cases m)
     rw[p]at y;cases q:P.info? T with
     | none=>simp[q]at hi
     | some i =>
      have D:i.size=n:=by simpa[q]using hi
      simp[loadVar,Sem.run_bind,nF_ h,sizeOf,typeInfo,q,D,y]
    .cases f
  | false =>
   simp only at f;have:=C _ _ f;simp[loadVar,Sem.run_bind,nF_ h,this]
theorem run_load{T:TypeId}{x:Operand}{ad:Addr}{v:Value}(h:o.op = .load T x)(f:ρ x = .pointer (some ad))(hr:(loadVar T ad).run P w = .ok v w):(execOp ρ o).run P w = .ok (.value v) w:=by
 unfold execOp;simp[h,f,Instr.loadAt,Instr.sureAddr,hr]
end
section
variable{P:Program}{ρ:Operand->Value}{w w' w0:World}{o:Oper}{Bs:List Nat}{L:List Res}
theorem Ext.one(w:World)(ob:Obj):Ext w (w.alloc ob):=(Ext.refl w).alloc ob
def zeroOf(P:Program)(T:TypeId):Option (List Value):=match P.info? T with|some i=>(match i.zero with|some z=>some z.cells.toList|none=>none)|none=>none
theorem rv_{T:TypeId}{zs:List Value}(j:o.op = .alloc T)(f:zeroOf P T=some zs):(execOp ρ o).run P w = .ok (.value (.pointer (some ⟨w.heap.size,0,none⟩))) (w.alloc (.cells zs.toArray T)):=by
 unfold zeroOf at f;split at f
 .rename_i i hi;split at f
  .rename_i z h;simp only[qOi]at f;subst f;unfold execOp;simp[j,Instr.alloc,zeroValue,typeInfo,hi,h,newVar,newRow]
  .cases f
 .cases f
theorem run_box{T:TypeId}{x:Operand}{v:Value}(h:o.op = .box T x)(f:ρ x=v):(execOp ρ o).run P w = .ok (.value (.pointer (some ⟨w.heap.size,0,none⟩))) (w.alloc (.cells v.cells T)):=by
 unfold execOp;simp[h,f,Instr.box,newVar,newRow]
theorem setRow_size(w:World)(g:Nat)(cs:Array Value):(w.setRow g cs).heap.size=w.heap.size:=by simp[World.setRow]
theorem iJ_(w:World)(g k:Nat)(cs:Array Value)(h:k≠g):(w.setRow g cs).heap[k]? = w.heap[k]? := by
 simp only[World.setRow,za];rw[qX (λe=>h e.symm)]
theorem iK_(w:World)(g:Nat)(cs:Array Value):Grow w (w.setRow g cs):=⟨rfl,rfl,rfl,by rw[setRow_size];exact qA _⟩
def bq_(P:Program)(T:TypeId):Option Nat:=(P.info? T).map (·.size)
theorem run_storeVar{T:TypeId}{v:Value}{g off:Nat}{T':TypeId}{cs:List Value}(q:w.heap[g]? = some (.cells cs.toArray T' (0,0)))(j:bq_ P T=some v.cells.size)(p:off+v.cells.size<=cs.length)
  (s:∀u∈v.cells.toList,u.oneCell'=true):(storeVar T ⟨g,off,none⟩ v).run P w = .ok () (w.setRow g (splice cs off v.cells.toList).toArray):=by
 have h:=run_storeCells_at (P:=P) g off T' v.cells.toList 0 cs.toArray w q (by simpa using p) s;simp only[jF]at h;unfold bq_ at j;cases m:P.info? T with
 | none=>simp[m]at j
 | some i =>
  have f:i.size=v.cells.size:=by simpa[m]using j
  simp[storeVar,sizeOf,typeInfo,m,f,h,splice]
theorem nG_{l:List Value}(h:dn_ l=true):∀u∈l,u.oneCell'=true:=by
 induction l with
 | nil=>intro u f;cases f
 | cons v r j =>
  simp only[dn_,qAn]at h;intro u f;rcases qW.1 f with rfl|f
  .cases u<;>simp_all [mT_,Value.oneCell']
  .exact j h.2 u f
theorem mA_{T:TypeId}{x y:Operand}{v:Value}{g off:Nat}{T':TypeId}{cs:List Value}(q:o.op = .store T x y)(m:ρ x = .pointer (some ⟨g,off,none⟩))(j:ρ y=v)
  (s:w.heap[g]? = some (.cells cs.toArray T' (0,0))) (p:bq_ P T=some v.cells.size) (f:Nat.ble (off+v.cells.size) cs.length=true) (u:dn_ v.cells.toList=true) :
  (execOp ρ o).run P w = .ok .skip (w.setRow g (splice cs off v.cells.toList).toArray):=by
 have h:=run_storeVar (P:=P) (w:=w) s p (by simpa using f) (nG_ u);unfold execOp;simp[q,m,j,Instr.storeAt,Instr.sureAddr,h]
theorem os_(w:World)(g:Nat)(cs cs':Array Value)(t:TypeId)(f:w.heap[g]? = some (.cells cs' t (0,0))):(w.setRow g cs).heap[g]? = some (.cells cs t (0,0)):=setRow_heap w g cs' cs t _ f
def SlF(F:Nat->Prop)(c:Nat)(A:Option Addr)(n:Nat)(rows:List (List Value))(w:World):Prop :=
 rows.length=n/\(0<n->∃b off,A=some ⟨b,off,none⟩/\F b /\
  ∀i r,rows[i]? = some r->r.length=c/\∀j u,r[j]? = some u->w.cell? ⟨b,off+i*c+j,none⟩=some u)
theorem SlF.nil(F:Nat->Prop)(c:Nat)(A:Option Addr)(w:World):SlF F c A 0 [] w:=⟨rfl,λh=>absurd h (by omega)⟩
theorem SlF.take{F:Nat->Prop}{c n:Nat}{A:Option Addr}{rows:List (List Value)}(h:SlF F c A n rows w){k:Nat}(p:k<=n):SlF F c A k (rows.take k) w:=by
 refine⟨by rw[qb,h.1];omega,λm => ?_⟩;obtain⟨b,off,e,j,f⟩:=h.2 (by omega);refine⟨b,off,e,j,λi r hr=>f i r ?_⟩;rw[zX]at hr;split at hr
 .exact hr
 .cases hr
theorem SlF.drop{F:Nat->Prop}{c n:Nat}{A:Option Addr}{rows:List (List Value)}(h:SlF F c A n rows w){k cap:Nat}(C:k<=n)(f:n<=cap) :
  SlF F c (if cap=k then A else A.map (·.add (k*c))) (n-k) (rows.drop k) w:=by
 refine⟨by rw[qS,h.1],λy => ?_⟩;obtain⟨b,off,rfl,q,p⟩:=h.2 (by omega);rw[qX (by omega)];refine⟨b,off+k*c,by simp[Addr.add_mk],q,λi r hr => ?_⟩;rw[zA]at hr;obtain⟨x,s⟩:=p _ r hr;refine⟨x,λj u m => ?_⟩;have:=s j u m;rw[Nat.add_mul,←zP]at this;exact this
def cT_(A:Option Addr)(k:Nat):Prop:=∃a,A=some a/\k=a.block
theorem ht_{e c n cap:Nat}{A:Option Addr}{rows:List (List Value)}(h:Res.holds w (.row e c A n cap rows)):SlF (cT_ A) c A n rows w:=by
 obtain⟨j,p,hr⟩:=h;have h:=Own.reads (rows:=rows) j hr p;refine⟨h.1,λm => ?_⟩;obtain⟨b,off,f,s,q⟩:=h.2 m;exact⟨b,off,f,⟨_,f,rfl⟩,q⟩
theorem ge_{α:Type}{xs:List α}{i:Int}{x:α}(h:an_ xs i=some x):0<=i/\xs[i.toNat]? = some x/\i.toNat<xs.length:=by
 unfold an_ at h;split at h
 .rename_i f;exact⟨f,h,(qZ.1 h).1⟩
 .cases h
theorem rb_{t e:TypeId}{x y:Operand}{k:IntKind}{i:Int}{c n cap:Nat}{A:Option Addr}{rows:List (List Value)}{F:Nat->Prop}{α:Type}{xs:List α}{d:α}
  (C:o.op = .indexAddr t x y) (s:P.underlying t=some (.slice e)) (j:bq_ P e=some c) (q:ρ x = .slice A n cap) (p:ρ y = .int k i) (u:SlF F c A n rows w) (M:xs.length=n) (G:an_ xs i=some d) :
  ∃b off,A=some ⟨b,off,none⟩/\(execOp ρ o).run P w = .ok (.value (.pointer (some ⟨b,off+i.toNat*c,none⟩))) w:=by
 obtain⟨J,_,D⟩:=ge_ G;obtain⟨b,off,m,_,_⟩:=u.2 (by omega);refine⟨b,off,m,?_⟩;subst m;unfold bq_ at j;cases h:P.info? e with
 | none=>simp[h]at j
 | some inf =>
  have f:inf.size=c:=by simpa[h]using j
  unfold execOp;simp[C,q,p,Instr.indexAt,asIntOf,run_underlying s,sizeOf,typeInfo,h,f,J,Addr.add_mk];omega
theorem Sep.row_new(h:Sep Bs w0 w L)(e c n:Nat)(rows:List (List Value))(j:rows.length=n)(hr:∀r∈rows,r.length=c)(hm:Nat.ble n 9223372036854775807=true) :
  Sep Bs w0 (w.alloc (.cells rows.flatten.toArray e)) (.row e c (some ⟨w.heap.size,0,none⟩) n n rows::L):=by
 have f:n<=maxLen:=by have:=qx hm;unfold maxLen;omega
 refine h.add (Ext.one w _) ⟨?_,j,hr⟩ (λk p => ?_)
 .have:=World.ownsRow_lit (base:=0) (e:=e) (size:=c) w rows.flatten.toArray n (qq _) f (by simp only[jf];rw[bo_ hr,j]);simpa using this
 .obtain⟨a,m,rfl⟩:=p;simp only[qOi]at m;subst m;exact qA _
def ElemOK(P:Program)(t e c bytes:Nat):Prop:=P.underlying t=some (.slice e)/\∃i z,P.info? e=some i/\i.zero=some z/\i.size=c/\i.bytes=bytes/\z.cells.size=c/\0<c
def elemB(P:Program)(e c bytes:Nat):Bool:=match P.info? e with
 | some i=>(match i.zero with|some z=>Nat.beq z.cells.size c|none=>false)&&Nat.beq i.size c&&Nat.beq i.bytes bytes&&Nat.blt 0 c
 | none=>false
theorem elemOK{t e c bytes:Nat}(m:P.underlying t=some (.slice e))(h:elemB P e c bytes=true):ElemOK P t e c bytes:=by
 refine⟨m,?_⟩;unfold elemB at h;split at h
 .rename_i i hi;simp only[qAn]at h;obtain⟨⟨⟨f,s⟩,q⟩,p⟩:=h;split at f
  .rename_i z j;exact⟨i,z,hi,j,qNb s,qNb q,qNb f,by simpa using p⟩
  .cases f
 .cases h
theorem rw_{α:Type}{bytes:Nat}{xs f r:List α}(h:room bytes xs f=some r):xs.length+f.length<=9223372036854775807/\(xs.length+f.length)*bytes<=140737488355328/\r=xs++f:=by
 unfold room at h;split at h
 .rename_i j;simp only[qOi]at h;exact⟨j.1,j.2,h.symm⟩
 .cases h
def sD_(rows:List (List Value)):Prop:=∀r∈rows,dn_ r=true
theorem oneRows_flat{rows:List (List Value)}(h:sD_ rows):∀u∈rows.flatten,u.oneCell'=true:=by
 intro u j;obtain⟨r,hr,f⟩:=jD.1 j;exact nG_ (h r hr) u f
theorem run_append{t e c bytes:Nat}{x y:Operand}{k n cap m cap2:Nat}{A A2:Option Addr}{rows news:List (List Value)}{F:Nat->Prop}{α:Type}{xs ys r:List α}
  (ho:o.op = .call { callee := .builtin .append,args := #[x,y],argTypes := #[t,t] }) (ZK:ElemOK P t e c bytes) (hx:ρ x = .slice A n cap) (hy:ρ y = .slice A2 m cap2)
  (h:Sep Bs w0 w L) (hi:L[k]? = some (.row e c A n cap rows)) (hs:SlF F c A2 m news w) (ZX:sD_ news) (ZS:xs.length=n) (ZT:ys.length=m) (hr:room bytes xs ys=some r) (Z:∀q∈news,q.length=c) :
  ∃A' cap' w',(execOp ρ o).run P w = .ok (.value (.slice A' (n+m) cap')) w'/\Sep Bs w0 w' (L.set k (.row e c A' (n+m) cap' (rows++news)))/\Grow w w'/\(∀q,q<w.heap.size->¬cT_ A q->w'.heap[q]? = w.heap[q]?):=by
 obtain⟨hu,i,z,D,hz,ZR,ZJ,ZU,U⟩:=ZK;obtain⟨C,ZW,ZQ⟩:=h.hold _ (qe hi);obtain⟨h1,h2,_⟩:=rw_ hr;have ZP:execOp ρ o=(do pure (.value (←Builtin.append_ #[t,t] o.type #[ρ x,ρ y]))):=by
  obtain⟨dst,op,ty',pos,after,guard⟩:=o;simp only at ho;subst ho;rw[BigFrame.execOp_builtin,BigFrame.builtin_append];simp only[List.map_toArray,zB,List.map_nil]
 have ZY:news.flatten.length=m*c:=by rw[bo_ Z,hs.1]
 have main:∃Y w',(Builtin.append_ #[t,t] o.type #[.slice A n cap,.slice A2 m cap2]).run P w = .ok Y w'/\w'.ownsRow 0 e c Y (n+m) (rows.flatten++news.flatten)/\w.grownBy w' (Value.slice A n cap).ownBlock/\(Y.ownBlock=(Value.slice A n cap).ownBlock\/Y.ownBlock=some w.heap.size):=by
  cases A2 with
  | none =>
   have ZZ:m=0:=by
    rcases qt m with h0|h0
    .exact h0
    .obtain⟨b,off,hh,_⟩:=hs.2 h0;cases hh
   subst ZZ;have ZM:news.flatten=[]:=jn (by rw[ZY];simp);refine⟨.slice A n cap,w,?_,by rw[ZM];simpa using C,World.grownBy.refl w _,.inl rfl⟩;rcases C.2 with⟨hv,hn⟩|⟨g,cap',cur,hv,_,_,ZN,_⟩
   .injection hv with e1 e2 e3;subst e1;subst e2;subst e3;simp[Builtin.append_,run_underlying hu,sizeOf,typeInfo,D,Builtin.lenOf,Builtin.firstCells]
   .injection hv with e1 e2 e3;subst e1;subst e3;simp[Builtin.append_,run_underlying hu,sizeOf,typeInfo,D,Builtin.lenOf,Builtin.firstCells,ZN,storeCells]
  | some ad =>
   have M:∀j u,news.flatten[j]? = some u->w.cell? (ad.add j)=some u:=by
    intro j u hu;have ZL:j<m*c:=by rw[←ZY];exact(qZ.1 hu).1
    have ZZ:0<m:=by rcases qt m with h0|h0;(subst h0;omega);exact h0
    obtain⟨b,off,hA,_,hc⟩:=hs.2 ZZ;simp only[qOi]at hA;subst hA;have f:j/c<news.length:=by rw[hs.1];exact Nat.div_lt_of_lt_mul (by rw[jQ];exact ZL)
    have s:=hc (j/c) _ (qQ f);have V:j%c<c:=jc _ U;have ZV:=iI_ Z (qQ f) (j%c) (news[j/c][j%c]'(by rw[s.1];exact V)) (qQ _);have hj:j/c*c+j%c=j:=by rw[jQ];exact ja j c
    rw[hj,hu]at ZV;have G:=s.2 (j%c) _ (qQ (by rw[s.1];exact V));rw[zP,hj]at G;rw[Addr.add_mk,G,ZV]
   obtain⟨Y,w',p,J,hg,_,O⟩:=run_append_own_at (P:=P) w 0 t o.type e i z c bytes hu D hz ZR ZJ ZU U (.slice A n cap) n rows.flatten C ad m cap2 news.flatten ZY M (oneRows_flat ZX)
    (by unfold maxLen;omega) (by rw[←ZS,←ZT];exact h2) (qq _)
   exact⟨Y,w',p,J,hg,O⟩
 obtain⟨Y,w',p,J,hg,O⟩:=main;obtain⟨A',cap',rfl⟩:=own_form J;have hb:Grow w w':=⟨hg.os,hg.tape,hg.output,hg.size⟩;have hk:∀q,q<w.heap.size->¬cT_ A q->w'.heap[q]? = w.heap[q]? := λq f ZO=>hg.block q f λhe=>ZO (by
  cases A with
  | none=>simp[Value.ownBlock]at he
  | some ad=>simp[Value.ownBlock]at he;exact⟨ad,rfl,he⟩)
 refine⟨A',cap',w',?_,?_,hb,hk⟩
 .rw[ZP,hx,hy];simp[p]
 .refine h.turn k hi trivial ⟨by rw[List.flatten_append];exact J,by rw[qLa,ZW,hs.1],λq f => ?_⟩ hb hk (λq f => ?_)
  .rcases qY.1 f with f|f
   .exact ZQ q f
   .exact Z q f
  .obtain⟨ad,rfl,rfl⟩:=f;rcases O with O|O
   .cases A with
    | none=>simp[Value.ownBlock]at O
    | some ZI=>simp[Value.ownBlock]at O;exact .inl ⟨ZI,rfl,O⟩
   .simp[Value.ownBlock]at O;exact .inr (by omega)
theorem p7_{α:Type}{bytes:Nat}{z:α}{n:Int}{r:List α}(h:iZ_ bytes z n=some r):0<=n/\n<=9223372036854775807/\bytes*n<=281474976710656/\r=List.replicate n.toNat z:=by
 unfold iZ_ at h;split at h
 .rename_i f;simp only[qOi]at h;exact⟨f.1,f.2.1,f.2.2,h.symm⟩
 .cases h
theorem is_(zs:List Value)(n:Nat):(List.replicate n zs).flatten=(madeCells zs.toArray (n*zs.length)).toList:=by
 apply zL;intro j;have m:∀r∈List.replicate n zs,r.length=zs.length:=λr hr=>by rw[List.eq_of_mem_replicate hr]
 by_cases f:j<n*zs.length
 .have p:0<zs.length:=by
   rcases qt zs.length with h|h
   .rw[h]at f;omega
   .exact h
  have hm:j%zs.length<zs.length:=jc _ p;have q:j/zs.length<n:=Nat.div_lt_of_lt_mul (by rw[jQ];exact f);have:=iI_ m (i:=j/zs.length) (r:=zs) (by rw[List.getElem?_replicate,qV q]) (j%zs.length) _ (qQ hm);rw[jQ,ja]at this;rw[this];simp[madeCells,f,hm]
 .rw[qa (by rw[bo_ m,List.length_replicate];omega),qa (by simp[madeCells];omega)]
theorem run_makeSlice_full{t e c bytes:Nat}{x y:Operand}{k1 F:IntKind}{n:Int}{zs:List Value}{α:Type}{z:α}{r:List α}(V:o.op = .makeSlice t x y)(C:ElemOK P t e c bytes)(G:zeroOf P e=some zs)
  (O:ρ x = .int k1 n) (M:ρ y = .int F n) (h:Sep Bs w0 w L) (hr:iZ_ bytes z n=some r) :
  ∃A' w',(execOp ρ o).run P w = .ok (.value (.slice A' n.toNat n.toNat)) w'/\Sep Bs w0 w' (.row e c A' n.toNat n.toNat (List.replicate n.toNat zs)::L)/\Ext w w':=by
 obtain⟨U,i,z',hi,j,s,D,q,J⟩:=C;obtain⟨h0,Z,Y,_⟩:=p7_ hr;subst s;subst D;have m:zs=z'.cells.toList:=by
  simp only[zeroOf,hi,j,qOi]at G;exact G.symm
 have hm:=Go.run_make (P:=P) (w:=w) t e i z' U hi j k1 F n n h0 (Int.le_refl _) Y Z;have f:zs.length=i.size:=by rw[m,qi];exact q
 have u:(madeCells z'.cells (n.toNat*i.size))=(List.replicate n.toNat zs).flatten.toArray:=by
  rw[is_,f,m]
 have p:=h.row_new e i.size n.toNat (List.replicate n.toNat zs) (by simp) (λr hr=>by rw[List.eq_of_mem_replicate hr,f]) (by apply zt;omega);refine⟨some ⟨w.heap.size,0,none⟩,w.alloc (.cells (List.replicate n.toNat zs).flatten.toArray e),?_,p,Ext.one w _⟩;unfold execOp;rw[u]at hm;simp[V,O,M,hm]
theorem s7_{t e c bytes:Nat}{x y:Operand}{k1 q:IntKind}{n:Int}{α:Type}{z:α}{r:List α}(J:o.op = .makeSlice t x y)(m:ElemOK P t e c bytes)
  (F:ρ x = .int k1 0) (D:ρ y = .int q n) (h:Sep Bs w0 w L) (hr:iZ_ bytes z n=some r) :
  ∃A' w',(execOp ρ o).run P w = .ok (.value (.slice A' 0 n.toNat)) w'/\Sep Bs w0 w' (.row e c A' 0 n.toNat []::L)/\Ext w w':=by
 obtain⟨G,i,z',hi,f,j,p,C,s⟩:=m;obtain⟨V,U,O,_⟩:=p7_ hr;subst j;subst p;have hm:=Go.run_make (P:=P) (w:=w) t e i z' G hi f k1 q 0 n (Int.le_refl _) V O U;refine⟨some ⟨w.heap.size,0,none⟩,w.alloc (.cells (madeCells z'.cells (n.toNat*i.size)) e),?_,?_,Ext.one w _⟩
 .unfold execOp;simp[J,F,D,hm]
 .refine h.add (Ext.one w _) ⟨?_,rfl,λr hr=>by cases hr⟩ (λk M => ?_)
  .exact World.ownsRow_made (base:=0) (e:=e) w _ n.toNat (qq _) (by unfold maxLen;omega) (by simp[madeCells])
  .obtain⟨a,u,rfl⟩:=M;simp only[qOi]at u;subst u;exact qA _
theorem td_{c:Nat}:∀{rows:List (List Value)} {i:Nat} {r r':List Value},(∀r∈rows,r.length=c)->rows[i]? = some r->r'.length=c ->
  (rows.set i r').flatten=rows.flatten.take (i*c)++r'++rows.flatten.drop (i*c+c)
 | [],i,r,r',_,h,_=>by simp at h
 | x::rows,0,r,r',hr,h,j=>by
  have f:x.length=c:=hr x (by simp);simp[qv,←f]
 | x::rows,i+1,r,r',hr,h,j=>by
  have f:x.length=c:=hr x (by simp);have m:=td_ (rows:=rows) (i:=i) (r:=r) (r':=r') (λr h=>hr r (qC _ h)) (by simpa using h) j;simp only[List.set_cons_succ,qv,m];have p:(i+1)*c=x.length+i*c:=by rw[f,zD];omega
  rw[p,List.take_length_add_append,zP,List.drop_length_add_append];simp[qT]
theorem vS_{T:TypeId}{x y:Operand}{v:Value}{k e c n cap b off p j i:Nat}{A:Option Addr}{rows:List (List Value)}{r r':List Value}
  (ho:o.op = .store T x y) (hx:ρ x = .pointer (some ⟨b,p,none⟩)) (hy:ρ y=v) (h:Sep Bs w0 w L) (hi:L[k]? = some (.row e c A n cap rows)) (hA:A=some ⟨b,off,none⟩) (hr:rows[i]? = some r)
  (hp:p=off+i*c+j) (hs:bq_ P T=some v.cells.size) (ZZ:Nat.ble (j+v.cells.size) c=true) (h1:dn_ v.cells.toList=true) (J:splice r j v.cells.toList=r') :
  ∃w',(execOp ρ o).run P w = .ok .skip w'/\Sep Bs w0 w' (L.set k (.row e c A n cap (rows.set i r')))/\Grow w w'/\∀q,q≠b->w'.heap[q]? = w.heap[q]? := by
 obtain⟨M,u,m⟩:=h.hold _ (qe hi);have ZV:=(qZ.1 hr).1;have G:r.length=c:=m r (qe hr);have ZW:j+v.cells.size<=c:=by simpa using ZZ
 rcases M.2 with⟨_,h0⟩|⟨g,cap',cur,hv,_,hh,O,ZY,V,F⟩
 .omega
 .injection hv with e1 _ e3;subst e3;rw[hA]at e1;simp only[qOi,Addr.mk.injEq]at e1;obtain⟨rfl,rfl,_⟩:=e1;have ZT:i*c+c<=n*c:=by rw[←zD];exact qg c (by omega)
  have ZX:n*c<=cap*c:=qg c O;have U:p+v.cells.size<=cur.toList.length:=by rw[qi,V];omega
  have Y:=mA_ (P:=P) (w:=w) ho hx hy (cs:=cur.toList) (T':=e) (by simpa using hh) hs (by apply zt;exact U) h1;have s:r'.length=c:=by
   subst J;unfold splice;simp only[qLa,qb,qS,qi];omega
  have C:(rows.set i r').flatten=(splice cur.toList p v.cells.toList).take (n*c):=by
   rw[td_ m hr s,←F,←J];have Z:r=(cur.toList.drop (i*c)).take c:=by
    apply zL;intro q;by_cases f:q<c
    .have:=iI_ m hr q _ (qQ (by rw[G];exact f));rw[←F,zX]at this;rw[qV (by omega)]at this;rw[qQ (by rw[G];exact f),zX,qV f,zA,this]
    .rw[qa (by omega),qa (by simp;omega)]
   rw[Z];subst hp
   apply zL;intro q;simp only[splice,List.getElem?_append,zX,zA,qb,qS,qLa,qi];have ZU:cur.size=cap*c:=V
   repeat' split
   all_goals first
    | rfl
    | omega
    | (congr 1;omega)
    | (exfalso;omega)
  refine⟨_,Y,?_,iK_ w b _,λq f=>iJ_ w b q _ f⟩;refine h.turn k hi trivial ⟨⟨?_,.inr ⟨b,cap,(splice cur.toList p v.cells.toList).toArray,by rw[hA],qq _,os_ w b _ cur e hh,O,ZY,?_,?_⟩⟩,by simpa using u,?_⟩ (iK_ w b _)
   (λq _ f=>iJ_ w b q _ (λe=>f (by subst e;exact⟨_,hA,rfl⟩))) (λq f => .inl f)
  .rw[bo_ (c:=c),List.length_set,u];intro q f;rcases List.mem_or_eq_of_mem_set f with D|D
   .exact m q D
   .rw[D];exact s
  .simp only[jf,splice,qLa,qb,qS,qi];omega
  .rw[C]
  .intro q f;rcases List.mem_or_eq_of_mem_set f with D|D
   .exact m q D
   .rw[D];exact s
theorem foldl_push(ns:List Int):∀(s:ByteArray),ns.foldl (λr n=>r.push (UInt8.ofNat n.toNat)) s=⟨(s.data.toList++bytesS ns).toArray⟩:=by
 induction ns with
 | nil=>intro s;simp[bytesS]
 | cons n ns f =>
  intro s;rw[List.foldl_cons,f]
  congr 1
  have:(s.push (UInt8.ofNat n.toNat)).data.toList=s.data.toList++[UInt8.ofNat n.toNat]:=by
   cases s;simp[ByteArray.push]
  rw[this];simp[bytesS]
theorem x5_{src dst e:TypeId}{x:Operand}{n cap:Nat}{A:Option Addr}{F:Nat->Prop}{ns:List Int}(C:o.op = .convert src dst x)(h:P.underlying src=some (.slice e))(O:P.underlying e=some (.int .u8))(U:P.underlying dst=some .string)
  (y:ρ x = .slice A n cap) (q:SlF F 1 A n (ns.map λb=>[Value.int .u8 b]) w):(execOp ρ o).run P w = .ok (.value (S (bytesS ns))) w:=by
 have m:ns.length=n:=by have:=q.1;simpa using this
 have main:(Conv.bytesToString (.slice A n cap)).run P w = .ok (S (bytesS ns)) w:=by
  cases A with
  | none =>
   have D:ns=[]:=by
    rcases qt n with u|u
    .exact jn (by omega)
    .obtain⟨b,off,M,_⟩:=q.2 u;cases M
   subst D;rfl
  | some ad =>
   have J:(loadCells ad n).run P w = .ok (ns.map (Value.int .u8)).toArray w:=by
    have:=run_loadCells_list (P:=P) w ad (ns.map (Value.int .u8)) (λj v f=>by
     rw[qm]at f;cases p:ns[j]? with
     | none=>rw[p]at f;cases f
     | some Y =>
      rw[p]at f;simp only[qM,qOi]at f;subst f;have G:=(qZ.1 p).1;obtain⟨b,off,s,_,V⟩:=q.2 (by omega);simp only[qOi]at s;subst s;have:=(V j [Value.int .u8 Y] (by rw[qm,p];rfl)).2 0 _ rfl;rw[Addr.add_mk];simpa using this)
    rw[zo,m]at this;exact this
   rw[run_bytesToString (P:=P) w ad n cap ns J,foldl_push];rfl
 unfold execOp;simp only[C,y];rw[Sem.run_bind,run_convert_bytes_string (P:=P) w src dst e A n cap h O U,main];rfl
def cutA(A:Option Addr)(c l m:Nat):Option Addr:=if m=l then A else A.map (·.add (l*c))
theorem run_cut{t e c n cap:Nat}{x:Operand}{lo hi:Option Operand}{A:Option Addr}(s:o.op = .slice t x lo hi none)(q:P.underlying t=some (.slice e))(m:bq_ P e=some c)(p:ρ x = .slice A n cap)
  {l h:Option Int} (u:jK_ ρ lo l) (y:jK_ ρ hi h) (F:0<=l.getD 0) (D:l.getD 0<=h.getD n) (C:h.getD n<=cap) :
  (execOp ρ o).run P w = .ok (.value (.slice (cutA A c (l.getD 0).toNat cap) ((h.getD n).toNat-(l.getD 0).toNat) (cap-(l.getD 0).toNat))) w:=by
 unfold bq_ at m;cases j:P.info? e with
 | none=>simp[j]at m
 | some inf =>
  have f:inf.size=c:=by simpa[j]using m
  unfold execOp;simp only[s,p,ze];simp[Instr.sliceAt,Instr.slice,run_underlying q,sizeOf,typeInfo,j,f,pu_ (P:=P) (w:=w) true u y F D C,cutA]
theorem SlF.cut{F:Nat->Prop}{c n cap:Nat}{A:Option Addr}{rows:List (List Value)}(h:SlF F c A n rows w)(f:n<=cap){lo hi:Nat}(m:lo<=hi)(j:hi<=n) :
  SlF F c (cutA A c lo cap) (hi-lo) ((rows.take hi).drop lo) w:=(h.take j).drop m (qk j f)
def Ret(P:Program)(f:FuncId)(args:Array Value)(w:World)(R:Value->World->Prop):Prop:=Calls P f args w λe w'=>∃v,e = .returned v/\R v w'
theorem Ret.mono{f:FuncId}{args:Array Value}{R R':Value->World->Prop}(h:Ret P f args w R)(m:∀v w',R v w'->R' v w'):Ret P f args w R' :=
 Calls.mono h λ_ _ ⟨v,j,hr⟩=>⟨v,j,m _ _ hr⟩
end
def nH_:Nat->List Value->List (Nat×Value)|_,[]=>[]|i,v::r=>(i,v)::nH_ (i+1) r
theorem te_:∀(l:List Value) (i t:Nat) (v:Value),look t (nH_ i l)=some v->i<=t/\l[t-i]? = some v
 | [],i,t,v,h=>by simp[nH_,look]at h
 | x::r,i,t,v,h=>by
  simp only[nH_,look]at h;cases f:Nat.beq t i with
  | true =>
   rw[f]at h;obtain rfl:t=i:=qNb f;simpa using h
  | false =>
   rw[f]at h;have j:=dC_ f;obtain⟨p,m⟩:=te_ r (i+1) t v h;refine⟨by omega,?_⟩;have:t-i=(t-(i+1))+1:=by omega
   rw[this];simpa using m
section
variable{P:Program}{w w' w0:World}{N:Nat}{a:Act}{env:List (Nat×Value)}{Q:Exit->Act->World->Prop}{Bs:List Nat}{L:List Res}
theorem enter{f:FuncId}{fn:Func}{c:Code}{args:Array Value}{R:Value->World->Prop}(s:P.funcs[f]? = some fn)(u:fn.body=some c)(hN:fn.ntmps=N)(m:Nat.ble args.size N=true)
  (h:∀a,Env N a (nH_ 0 args.toList)->c.wp P (bodyPost P fn λe w'=>∃v,e = .returned v/\R v w') a w):Ret P f args w R:=by
 refine calls_of_wp s u (h _ ⟨?_,rfl,λt v q => ?_⟩)
 .have:=qx m;simp[hN];omega
 .obtain⟨_,p⟩:=te_ _ _ _ _ q;simp only[Nat.sub_zero]at p;have j:=(qZ.1 p).1;rw[Array.getElem?_append_left (by simpa using j)];simpa using p
def tupleOf:List Value->Value | [v]=>v|vs => .tuple vs.toArray
def nI_(tmps:Array Value):ResultVar->Sem Value
 | .tmp t=>pure (tmps.getD t undef)
 | .cell x t=>do loadVar t (←asAddr (tmps.getD x undef))
theorem results_eq(fn:Func)(tmps:Array Value):results fn tmps=(do let vs ←fn.results.mapM (nI_ tmps);pure (if h:vs.size=1 then vs[0]else .tuple vs)):=by
 unfold results
 congr 2
theorem s_join{x y:Code}(J:Act->World->Prop)(f:∀a w,J a w->y.wp P Q a w)(j:x.wp P (Exit.then J Q) a w):(Code.seq x y).wp P Q a w :=
 wp_seq (wp_mono j λe a w h=>by cases e<;>first|exact f _ _ h|exact h)
theorem b_join{id:Nat}{c:Code}(J:Act->World->Prop)(f:∀a w,J a w->Q .normal a w)(j:c.wp P (λe a w=>match e with | .normal=>J a w | .exit i=>if i=id then J a w else Q (.exit i) a w|e=>Q e a w) a w):(Code.block id c).wp P Q a w :=
 wp_block (wp_mono j λe a w h=>by
  cases e with
  | normal=>exact f _ _ h
  | exit i=>simp only[Exit.inBlock]at h ⊢;split at h<;>rename_i m<;>simp only[m,jB,jJ]<;>first|exact f _ _ h|exact h
  | _=>exact h)
theorem r_list{id:Nat}{l:List Oper}(h:wpList P l.toArray Q l a w):(Code.region id l.toArray false).wp P Q a w:=wp_region_lit h
inductive Step(σ β:Type) where
 | next (s:σ)
 | done (b:β)
def am_{σ β:Type}(body:σ->Option (Step σ β)):Nat->σ->Option β
 | 0,_=>none
 | n+1,s=>match body s with
  | none=>none
  | some (.next s')=>am_ body n s'
  | some (.done b)=>some b
def BIG:Nat:=18446744073709551616
theorem loop_rule{σ β:Type}{body:σ->Option (Step σ β)}{q:Nat}{s0:σ}{out:β}{c:Code}(y:am_ body q s0=some out)(R:σ->Act->World->Prop)(C:R s0 a w)
  (round:∀s a w,R s a w->∀st,body s=some st->(∀b,st = .done b->b=out)->c.wp P (Exit.then (λu w'=>∃s',st = .next s'/\R s' u w') Q) a w):(Code.loop c).wp P Q a w:=by
 refine wp_loop_ghost (λn a w=>∃s,am_ body n s=some out/\R s a w) q ⟨s0,y,C⟩ ?_
 rintro n a w ⟨s,j,x⟩;cases n with
 | zero=>cases j
 | succ n =>
  simp only[am_]at j;cases m:body s with
  | none=>rw[m]at j;cases j
  | some st =>
   rw[m]at j;refine wp_mono (round s a w x st m λb f => ?_) λe u w' h => ?_
   .subst f;simpa using j
   .cases e with
    | normal =>
     obtain⟨s',f,p⟩:=h;subst f;exact⟨n,Nat.lt_succ_self n,s',j,p⟩
    | _=>exact h
end
section
variable{P:Program}{ops:List Oper}{Q:Exit->Act->World->Prop}{a:Act}{w w0 w':World}{rest:List Oper}{o:Oper}{N:Nat}{env:List (Nat×Value)}{Bs:List Nat}{L L':List Res}
 {F:Nat->Prop} {c n cap:Nat} {A:Option Addr} {rows:List (List Value)} {ρ:Operand->Value}
def EqIs(P:Program)(t:TypeId)(x y:Value)(b:Bool):Prop:=P.eqGuardType P.depth t=false/\∀w,(Op.equalIn 10000 t x y).run P w = .ok b w
theorem run_agg_eql{t yt:TypeId}{x y:Operand}{xs f:Array Value}{b:Bool}(p:o.op = .binOp .eql t x y yt)(m:ρ x = .agg xs)(j:ρ y = .agg f)(h:EqIs P t (.agg xs) (.agg f) b) :
  (execOp ρ o).run P w = .ok (.value (.bool b)) w:=by
 unfold execOp;simp only[p,m,j];rw[Sem.run_bind,Sem.run_bind,run_eqGuard_agg w _ t x y xs f h.1];simp only[Result.andThen_ok,run_eql_struct,h.2];rfl
theorem run_agg_neq{t yt:TypeId}{x y:Operand}{xs f:Array Value}{b:Bool}(p:o.op = .binOp .neq t x y yt)(m:ρ x = .agg xs)(j:ρ y = .agg f)(h:EqIs P t (.agg xs) (.agg f) b) :
  (execOp ρ o).run P w = .ok (.value (.bool (!b))) w:=by
 unfold execOp;simp only[p,m,j];rw[Sem.run_bind,Sem.run_bind,run_eqGuard_agg w _ t x y xs f h.1];simp only[Result.andThen_ok,run_neq_struct,h.2];rfl
end
def bF_(k:IntKind)(x y:Int):Int:=k.wrap (BitVec.ofInt k.bits x&&&BitVec.ofInt k.bits y).toNat
def orI(k:IntKind)(x y:Int):Int:=k.wrap (BitVec.ofInt k.bits x|||BitVec.ofInt k.bits y).toNat
def bY_(k:IntKind)(x y:Int):Int:=k.wrap (BitVec.ofInt k.bits x^^^BitVec.ofInt k.bits y).toNat
def dc_(k:IntKind)(x y:Int):Int:=k.wrap (BitVec.ofInt k.bits x &&& ~~~(BitVec.ofInt k.bits y)).toNat
def bN_(x y:Int):Int:=if y>x then y else x
def br_(x y:Int):Int:=if y<x then y else x
theorem run_bool_eql{P:Program}{ρ:Operand->Value}{w:World}{o:Oper}{t yt:TypeId}{x y:Operand}{b c:Bool}(m:o.op = .binOp .eql t x y yt)(j:P.underlying t=some .bool)(h:ρ x = .bool b)(f:ρ y = .bool c):(execOp ρ o).run P w = .ok (.value (.bool (b==c))) w:=by
 unfold execOp;simp only[m,h,f];simp[eqGuard,run_eql_bool w t b c j]
theorem run_bool_neq{P:Program}{ρ:Operand->Value}{w:World}{o:Oper}{t yt:TypeId}{x y:Operand}{b c:Bool}(m:o.op = .binOp .neq t x y yt)(j:P.underlying t=some .bool)(h:ρ x = .bool b)(f:ρ y = .bool c):(execOp ρ o).run P w = .ok (.value (.bool (!(b==c)))) w:=by
 unfold execOp;simp only[m,h,f];simp[eqGuard,run_neq_bool w t b c j]
def eqFs(P:Program)(f:TypeId->Value->Value->Option Bool)(xs h:Array Value):List Field->Option Bool
 | []=>some true
 | g :: fs => match g.name == "_", eq_ P (part g.type xs g.offset), eq_ P (part g.type h g.offset) with
  | false,some a,some b=>match f g.type a b,eqFs P f xs h fs with
   | some r,some s=>some (r&&s)
   | _,_=>none
  | _,_,_=>none
def eqArr(P:Program)(f:TypeId->Value->Value->Option Bool)(e:TypeId)(xs h:Array Value):List Nat->Option Bool
 | []=>some true
 | i::is=>match eq_ P (part e xs (i*P.cellsOf e)),eq_ P (part e h (i*P.cellsOf e))with
  | some a,some b=>match f e a b,eqArr P f e xs h is with
   | some r,some s=>some (r&&s)
   | _,_=>none
  | _,_=>none
def eqV(P:Program):Nat->TypeId->Value->Value->Option Bool
 | 0,_,_,_=>none
 | n+1,t,x,y=>match P.underlying t,x,y with
  | some .bool,.bool a,.bool b=>some (a==b)
  | some (.int _),.int k a,.int h b=>match decide (k=h)with|true=>some (a==b)|false=>none
  | some .string,.string a,.string b=>some (a.toList==b.toList)
  | some (.struct fs),.agg xs,.agg f=>match P.stoodInHeld t with|false=>eqFs P (eqV P n) xs f fs.toList|true=>none
  | some (.array m e),.agg xs,.agg f=>match P.info? e with|some _=>eqArr P (eqV P n) e xs f (List.range m)|none=>none
  | _,_,_=>none
theorem eqArr_run{P:Program}{w:World}{f:TypeId->Value->Value->Option Bool}{d:Nat}(m:∀t x y b,f t x y=some b->(Op.equalIn d t x y).run P w = .ok b w){e:TypeId}{xs j:Array Value} :
  ∀{is:List Nat} {b:Bool},eqArr P f e xs j is=some b->(Op.eqItems d e (P.cellsOf e) xs j is).run P w = .ok b w
 | [],b,h=>by simp only[eqArr,qOi]at h;subst h;rfl
 | i::is,b,h=>by
  simp only[eqArr]at h;split at h
  .rename_i u v D C;split at h
   .rename_i r s hr q;simp only[qOi]at h;subst h;have p:=eqArr_run m q;simp only[Op.eqItems,Sem.run_bind,fN_ D w,Result.andThen_ok,fN_ C w,m _ _ _ _ hr];cases r with
    | true=>simp only[jN,qu,jJ,p,zY]
    | false=>simp only[Bool.not_false,jB,Sem.run_pure,Bool.false_and]
   .cases h
  .cases h
theorem eqFs_run{P:Program}{w:World}{f:TypeId->Value->Value->Option Bool}{d:Nat}(p:∀t x y b,f t x y=some b->(Op.equalIn d t x y).run P w = .ok b w){xs m:Array Value} :
  ∀{fs:List Field} {b:Bool},eqFs P f xs m fs=some b->(Op.eqFields d xs m fs).run P w = .ok b w
 | [],b,h=>by simp only[eqFs,qOi]at h;subst h;rfl
 | g::fs,b,h=>by
  simp only[eqFs]at h;split at h
  .rename_i u v D G F;split at h
   .rename_i r s hr C;simp only[qOi]at h;subst h;have q:=eqFs_run p C
    have j : g.name ≠ "_" := by simpa using D
    simp only[Op.eqFields];rw[qV j];simp only[Sem.run_bind,fN_ G w,Result.andThen_ok,fN_ F w,p _ _ _ _ hr];cases r with
    | true=>simp only[jN,qu,jJ,q,zY]
    | false=>simp only[Bool.not_false,jB,Sem.run_pure,Bool.false_and]
   .cases h
  .cases h
theorem eqV_run{P:Program}{w:World}:∀{n d:Nat} {t:TypeId} {x y:Value} {b:Bool},eqV P n t x y=some b->(Op.equalIn (d+n) t x y).run P w = .ok b w
 | 0,d,t,x,y,b,h=>by cases h
 | n+1,d,t,x,y,b,h=>by
  simp only[eqV]at h;split at h
  .rename_i f;simp only[qOi]at h;subst h;exact run_equalIn_bool' w _ t _ _ f
  .rename_i f;split at h
   .rename_i q;simp only[qDe]at q;subst q;simp only[qOi]at h;subst h;exact run_equalIn_int w _ t _ _ _ _ f
   .cases h
  .rename_i f;simp only[qOi]at h;subst h;exact run_equalIn_string w _ t _ _ f
  .rename_i fs xs p f;split at h
   .rename_i s;have j:P.fieldsOf t=fs:=by simp[Program.fieldsOf,f]
    rw[←zP,run_equalIn_struct w _ t xs p (by rw[j];exact f) s,j];exact eqFs_run (λt x y b h=>eqV_run (n:=n) (d:=d) h) h
   .cases h
  .rename_i m e xs p f;split at h
   .rename_i i hi;rw[←zP,run_equalIn_array w (d+n) xs p f hi];exact eqArr_run (λt x y b h=>eqV_run (n:=n) (d:=d) h) h
   .cases h
  .cases h
theorem k1_{P:Program}{t:TypeId}{x y:Value}{b c:Bool}(n:Nat)(f:Nat.ble n 10000=true)(j:P.eqGuardType P.depth t=false)(h:eqV P n t x y=some b)(m:b=c):EqIs P t x y c:=by
 subst m;refine⟨j,λw => ?_⟩;have:=eqV_run (w:=w) (d:=10000-n) h;have e:10000-n+n=10000:=Nat.sub_add_cancel (qx f)
 rwa [e]at this
def do_(n:Nat)(i:Int):Option Unit:=if 0<=i/\i<n then some ()else none
theorem boundI_some{n:Nat}{i:Int}{u:Unit}(h:do_ n i=some u):0<=i/\i<n:=by
 unfold do_ at h;split at h
 .assumption
 .cases h
theorem rx_{P:Program}{ρ:Operand->Value}{w:World}{o:Oper}{t e n c b off:Nat}{x y:Operand}{k:IntKind}{i:Int}{u:Unit}(s:o.op = .indexAddr t x y)(q:P.underlying t=some (.array n e))(j:bq_ P e=some c)
  (p:ρ x = .pointer (some ⟨b,off,none⟩)) (m:ρ y = .int k i) (hi:do_ n i=some u):(execOp ρ o).run P w = .ok (.value (.pointer (some ⟨b,off+i.toNat*c,none⟩))) w:=by
 obtain⟨D,C⟩:=boundI_some hi;unfold bq_ at j;cases h:P.info? e with
 | none=>simp[h]at j
 | some inf =>
  have f:inf.size=c:=by simpa[h]using j
  unfold execOp;simp[s,p,m,Instr.indexAt,asIntOf,run_underlying q,sizeOf,typeInfo,h,f,D,C,Addr.add_mk,Instr.sureAddr]
def strings_Repeat(s:Str)(c:Int):Option Str:=if 0<=c/\c<=9223372036854775807/\s.length*c.toNat<=140737488355328 then some (List.replicate c.toNat s).flatten else none
inductive Out(σ ρ:Type) where
 | fall (s:σ)
 | ret (r:ρ)
def aB_(xs:List Int)(j:Nat):Int:=xs.getD j 0
def dL_(s:Str):List Int:=s.map λb=>(b.toNat:Int)
def cn_{α:Type}(eq:α->α->Bool)(x:α):List α->Option Nat
 | []=>none
 | y::f=>match eq x y with
  | true=>some 0
  | false=>match cn_ eq x f with
   | some i=>some (i+1)
   | none=>none
def aL_{α β:Type}(eq:α->α->Bool):List α->List β->α->β->β|y::f,v::vs,x,d=>bif eq x y then v else aL_ eq f vs x d|_,_,_,d=>d
def bc_{α:Type}(eq:α->α->Bool)(ks:List α)(x:α):List α:=bif ks.any (eq x)then ks else ks++[x]
def bA_{α β:Type}(eq:α->α->Bool):List α->List β->α->β->List β|y::f,h::vs,x,v=>bif eq x y then v::vs else h::bA_ eq f vs x v|_,vs,_,v=>vs++[v]
section
variable{α β:Type}{eq:α->α->Bool}
theorem ry_{x:α}:∀{ks:List α},cn_ eq x ks=none->ks.any (eq x)=false
 | [],_=>rfl
 | y::j,h=>by
  simp only[cn_]at h;cases f:eq x y with
  | true=>rw[f]at h;cases h
  | false =>
   rw[f]at h;cases hi:cn_ eq x j with
   | some i=>rw[hi]at h;cases h
   | none=>rw[List.any_cons,f,ry_ hi];rfl
theorem me_{x:α}:∀{ks:List α} {i:Nat},cn_ eq x ks=some i->ks.any (eq x)=true/\∃y,ks[i]? = some y/\eq x y=true
 | [],_,h=>by cases h
 | y::m,i,h=>by
  simp only[cn_]at h;cases f:eq x y with
  | true=>rw[f]at h;obtain rfl:=qSj h;exact⟨by rw[List.any_cons,f];rfl,y,rfl,f⟩
  | false =>
   rw[f]at h;cases hi:cn_ eq x m with
   | none=>rw[hi]at h;cases h
   | some j =>
    rw[hi]at h;obtain rfl:=qSj h;obtain⟨s,z,q,p⟩:=me_ hi;exact⟨by rw[List.any_cons,s,Bool.or_true],z,by simpa using q,p⟩
theorem p9_{x:α}{d:β}:∀{ks:List α} {vs:List β},cn_ eq x ks=none->aL_ eq ks vs x d=d
 | [],vs,_=>by cases vs<;>rfl
 | y::j,[],_=>rfl
 | y::j,v::vs,h=>by
  simp only[cn_]at h;cases f:eq x y with
  | true=>rw[f]at h;cases h
  | false =>
   rw[f]at h;cases hi:cn_ eq x j with
   | some i=>rw[hi]at h;cases h
   | none=>simp only[aL_,f,qw];exact p9_ hi
theorem qa_{x:α}{d:β}:∀{ks:List α} {vs:List β} {i:Nat} {v:β},cn_ eq x ks=some i->vs[i]? = some v->aL_ eq ks vs x d=v
 | [],_,_,_,h,_=>by cases h
 | y::m,[],_,_,_,h=>by simp at h
 | y::m,u::vs,i,v,h,p=>by
  simp only[cn_]at h;cases f:eq x y with
  | true =>
   rw[f]at h;obtain rfl:=qSj h;simp only[aL_,f,qn];simpa using p
  | false =>
   rw[f]at h;cases hi:cn_ eq x m with
   | none=>rw[hi]at h;cases h
   | some j =>
    rw[hi]at h;obtain rfl:=qSj h;simp only[aL_,f,qw];exact qa_ hi (by simpa using p)
theorem ul_{x:α}{v:β}:∀{ks:List α} {vs:List β},cn_ eq x ks=none->ks.length=vs.length->bA_ eq ks vs x v=vs++[v]
 | [],vs,_,_=>by cases vs<;>rfl
 | y::j,[],_,h=>by cases h
 | y::j,u::vs,h,m=>by
  simp only[cn_]at h;cases f:eq x y with
  | true=>rw[f]at h;cases h
  | false =>
   rw[f]at h;cases hi:cn_ eq x j with
   | some i=>rw[hi]at h;cases h
   | none=>simp only[bA_,f,qw,qR];rw[ul_ hi (by simpa using m)]
theorem um_{x:α}{v:β}:∀{ks:List α} {vs:List β} {i:Nat},cn_ eq x ks=some i->ks.length=vs.length->bA_ eq ks vs x v=vs.set i v
 | [],_,_,h,_=>by cases h
 | y::m,[],_,_,h=>by cases h
 | y::m,u::vs,i,h,p=>by
  simp only[cn_]at h;cases f:eq x y with
  | true =>
   rw[f]at h;obtain rfl:=qSj h;simp only[bA_,f,qn,List.set_cons_zero]
  | false =>
   rw[f]at h;cases hi:cn_ eq x m with
   | none=>rw[hi]at h;cases h
   | some j =>
    rw[hi]at h;obtain rfl:=qSj h;simp only[bA_,f,qw,List.set_cons_succ];rw[um_ hi (by simpa using p)]
end
section
variable{P:Program}{w:World}{b K E T:TypeId}{es:Array MapEntry}{clock:Nat}
def dd_(w:World)(b:Nat)(es:Array MapEntry)(clock:Nat):World:={ w with heap:=w.heap.setIfInBounds b (.map es clock) }
theorem setMap_same(f:b<w.heap.size):(dd_ w b es clock).heap[b]? = some (.map es clock):=by
 simp[dd_,f]
theorem setMap_other{k:Nat}(h:k≠b):(dd_ w b es clock).heap[k]? = w.heap[k]? := by
 simp[dd_,Ne.symm h]
theorem setMap_grow:Grow w (dd_ w b es clock):=⟨rfl,rfl,rfl,by simp[dd_]⟩
def foundAt(es:Array MapEntry):Option Nat->Option (Nat×Value)|some i=>(es[i]?).map λe=>(i,e.val)|none=>none
def gotV(es:Array MapEntry)(z:Value):Option Nat->Value|some i=>((es[i]?).map (·.val)).getD z|none=>z
theorem run_makeMap(w:World)(t:TypeId):(Instr.makeMap t none).run P w = .ok (.map (some w.heap.size)) (w.alloc (.map #[] 0)):=by
 rfl
theorem run_lookup{kv z:Value}{ix:Option Nat}(f:P.underlying T=some (.map K E))(p:w.heap[b]? = some (.map es clock))(m:∀b w,(Instr.checkKey b 10000 K kv).run P w = .ok () w)(j:(Instr.findKey K kv es.toList).run P w = .ok (foundAt es ix) w)
  (q:(zeroValue E).run P w = .ok z w) (hi:∀i,ix=some i->i<es.size):(Instr.lookup T (.map (some b)) kv false).run P w = .ok (gotV es z ix) w:=by
 cases ix with
 | none=>simp[Instr.lookup,run_underlying f,MapKept.run_getObj_map p,m,j,foundAt,q,gotV,Result.andThen]
 | some i =>
  have h:=hi i rfl;simp[Instr.lookup,run_underlying f,MapKept.run_getObj_map p,m,j,foundAt,h,gotV,Result.andThen]
theorem vX_{kv x:Value}(h:P.underlying T=some (.map K E))(f:w.heap[b]? = some (.map es clock))(m:∀b w,(Instr.checkKey b 10000 K kv).run P w = .ok () w)(j:(Instr.findKey K kv es.toList).run P w = .ok none w) :
  (Instr.mapUpdate T (.map (some b)) kv x).run P w = .ok () (dd_ w b (es.push ⟨kv,x,clock⟩) (clock+1)):=by
 simp[Instr.mapUpdate,run_underlying h,MapKept.run_getObj_map f,m,j,Result.andThen,MapKept.run_setObj_map _ f,dd_]
theorem vY_{kv x:Value}{i:Nat}{e:MapEntry}(j:P.underlying T=some (.map K E))(h:w.heap[b]? = some (.map es clock))(u:∀b w,(Instr.checkKey b 10000 K kv).run P w = .ok () w)(q:(Instr.findKey K kv es.toList).run P w = .ok (some (i,e.val)) w)(s:es[i]? = some e)(p:e.key=kv)(m:Instr.sameBits 10000 kv kv=true) :
  (Instr.mapUpdate T (.map (some b)) kv x).run P w = .ok () (dd_ w b (es.modify i λe=>{ e with key:=kv,val:=x }) clock):=by
 have f:(Instr.keyThatStays kv kv).run P w = .ok kv w:=by simp[Instr.keyThatStays,m]
 subst p;simp[Instr.mapUpdate,run_underlying j,MapKept.run_getObj_map h,u,q,Result.andThen,s,f,MapKept.run_setObj_map _ h,dd_]
theorem x6_{kv z:Value}(j:P.underlying T=some (.map K E))(f:w.heap[b]? = some (.map es clock))(p:∀b w,(Instr.checkKey b 10000 K kv).run P w = .ok () w)(m:(Instr.findKey K kv es.toList).run P w = .ok none w)(h:(zeroValue E).run P w = .ok z w) :
  (Instr.mapEntry T (.map (some b)) kv).run P w = .ok (.tuple #[z,.int .i64 (clock:Int)]) (dd_ w b (es.push ⟨kv,z,clock⟩) (clock+1)):=by
 simp[Instr.mapEntry,run_underlying j,MapKept.run_getObj_map f,p,m,h,goInt,Result.andThen,MapKept.run_setObj_map _ f,dd_]
theorem x7_{kv:Value}{i:Nat}{e:MapEntry}(j:P.underlying T=some (.map K E))(h:w.heap[b]? = some (.map es clock))(u:∀b w,(Instr.checkKey b 10000 K kv).run P w = .ok () w)(q:(Instr.findKey K kv es.toList).run P w = .ok (some (i,e.val)) w)(s:es[i]? = some e)(p:e.key=kv)(m:Instr.sameBits 10000 kv kv=true) :
  (Instr.mapEntry T (.map (some b)) kv).run P w = .ok (.tuple #[e.val,.int .i64 (e.born:Int)]) (dd_ w b (es.modify i λe=>{ e with key:=kv }) clock):=by
 have f:(Instr.keyThatStays kv kv).run P w = .ok kv w:=by simp[Instr.keyThatStays,m]
 subst p;simp[Instr.mapEntry,run_underlying j,MapKept.run_getObj_map h,u,q,Result.andThen,s,f,goInt,MapKept.run_setObj_map _ h,dd_]
theorem findIdx_born:∀{l:List MapEntry} {i:Nat} {e:MapEntry},(l.map (·.born)).Nodup->l[i]? = some e->l.findIdx? (λx=>(x.born:Int)==(e.born:Int))=some i
 | [],_,_,_,h=>by simp at h
 | x::l,0,e,_,h=>by
  simp at h;subst h;simp[List.findIdx?_cons]
 | x::l,i+1,e,j,h=>by
  simp only[zB,jb]at j;have p:l[i]? = some e:=by simpa using h
  have f:x.born≠e.born:=λm=>j.1 (by rw[m];exact zQ.2 ⟨e,qe p,rfl⟩)
  have q:((x.born:Int)==(e.born:Int))=false:=by rw[qz];intro m;exact f (by omega)
  rw[List.findIdx?_cons,q,findIdx_born j.2 p];rfl
theorem vZ_{x:Value}{i:Nat}{e:MapEntry}(f:w.heap[b]? = some (.map es clock))(h:(es.toList.map (·.born)).Nodup)(j:es.toList[i]? = some e) :
  (Instr.entryStore T (.map (some b)) (.int .i64 (e.born:Int)) x).run P w = .ok () (dd_ w b (es.modify i λe=>{ e with val:=x }) clock):=by
 have q:=findIdx_born h j;have p:es.findIdx? (λx=>(x.born:Int)==(e.born:Int))=some i:=by
  rw[←q,←List.findIdx?_toArray]
 have m:(asInt (.int .i64 (e.born:Int))).run P w = .ok (e.born:Int) w:=rfl;simp only[Instr.entryStore,Sem.run_bind,MapKept.run_getObj_map f,Result.andThen_ok,m,p,MapKept.run_setObj_map _ f,dd_]
end
noncomputable def both{R:Type}(x y:Option R):Option R := @ite _ (x=y) (Classical.propDecidable _) x none
theorem both_some{R:Type}{x y:Option R}{r:R}(h:both x y=some r):x=some r/\y=some r:=by
 unfold both at h;split at h
 .rename_i e;subst e;exact⟨h,h⟩
 .cases h
theorem ot_{R:Type}(x:Option R):both x x=x:=by
 unfold both;rw[qV rfl]
noncomputable def nilB{α R:Type}(xs:List α)(k:Bool->Option R):Option R:=match xs with | []=>both (k true) (k false)|_::_=>k false
def delI{α:Type}(xs:List α)(i j:Int):Option (List α):=if 0<=i/\i<=j/\j<=(xs.length:Int)then some (xs.take i.toNat++xs.drop j.toNat)else none
def delN{α:Type}(xs:List α)(i j:Int):Option (List α):=match xs with | []=>none|x::l=>delI (x::l) i j
def insN{α:Type}(by_:Nat)(xs:List α)(i:Int)(f:List α):Option (List α):=match f with | []=>none|y::l=>if 0<=i/\i<=(xs.length:Int)/\(xs.length+(l.length+1))*by_<=140737488355328 then some (xs.take i.toNat++(y::l++xs.drop i.toNat))else none
def eqI(a b:Int):Bool:=a==b
def eqS(a b:Str):Bool:=a==b
def mU_{α:Type}(xs f:List α):List α:=f.take (min f.length xs.length)++xs.drop (min f.length xs.length)
def digF:Nat->Nat->Str | 0,_=>[]|f+1,u=>if u<10 then[UInt8.ofNat (48+u)]else digF f (u/10)++[UInt8.ofNat (48+u%10)]
def fI_(n b:Int):Option Str:=if b=10/\0<=n/\n<=9223372036854775807 then some (digF 20 n.toNat)else none
theorem hu_{α:Type}{n:Nat}{xs:List α}:(nilB xs λc=>bif c then some []else Option.bind (room n ([]:List α) xs) λy=>some y)=room n [] xs:=by
 have h:∀o:Option (List α),Option.bind o (λy=>some y)=o:=λo=>by cases o<;>rfl
 simp only[h];cases xs with
 | nil =>
  have f:room n ([]:List α) []=some []:=by
   unfold room;rw[qV (by simp)];rfl
  simp only[nilB,qn,qw,f];exact ot_ _
 | cons x l=>rfl
def bothC{R:Type}[DecidableEq R](x y:Option R):Option R:=if x=y then x else none
theorem e_both{R:Type}[DecidableEq R] : @both R=bothC:=by
 funext x y
 unfold both bothC;split<;>rfl
theorem bothC_self{R:Type}[DecidableEq R](x:Option R):bothC x x=x:=by
 unfold bothC;rw[qV rfl]
inductive Ty where
 | int (k:IntKind)
 | bool
 | str
 | sl (e:Ty)
 | st (n:Nat)
deriving DecidableEq
@[reducible] def Den (S:Nat->Type):Ty->Type
 | .int _=>Int
 | .bool=>Bool
 | .str=>Str
 | .sl e=>List (Den S e)
 | .st n=>S n
def HL(S:Nat->Type):List Ty->Type | []=>Unit|t::ts=>Den S t×HL S ts
structure TE where
 S:Nat->Type
 cs:Nat->List Ty
 un:∀n,S n->HL S (cs n)
 bd:∀n,HL S (cs n)->S n
 bd_un:∀n x,bd n (un n x)=x
 un_bd:∀n h,un n (bd n h)=h
 deq:∀n,Option (DecidableEq (S n))
 ty:Nat->Option Ty
 ne:∀n,cs n≠[]
 gl:Nat->Option (Σ t:Ty,Den S t)
 sb:Nat->Bool
def TE.flat(E:TE):Ty->List Ty | .st n=>E.cs n|t=>[t]
def TE.fl(E:TE):(t:Ty)->Den E.S t->HL E.S (E.flat t) | .st n,x=>E.un n x | .int _,x=>(x,()) | .bool,x=>(x,()) | .str,x=>(x,()) | .sl _,x=>(x,())
def TE.ufl(E:TE):(t:Ty)->HL E.S (E.flat t)->Den E.S t | .st n,h=>E.bd n h | .int _,h=>h.1 | .bool,h=>h.1 | .str,h=>h.1 | .sl _,h=>h.1
theorem TE.fl_ufl(E:TE)(t:Ty)(h:HL E.S (E.flat t)):E.fl t (E.ufl t h)=h:=by
 cases t<;>first|rfl|exact E.un_bd _ _
def TE.size(E:TE)(t:Ty):Nat:=(E.flat t).length
theorem TE.size_pos(E:TE)(t:Ty):0<E.size t:=by
 unfold TE.size;cases t with
 | st n=>exact List.length_pos_iff.2 (E.ne n)
 | _=>exact Nat.zero_lt_one
structure Fz where
 F:Nat->Prop
 w:World
def Fz.Le(a b:Fz):Prop:=∀k,a.F k->b.F k/\b.w.heap[k]? = a.w.heap[k]?
theorem Fz.Le.refl(a:Fz):a.Le a:=λ_ h=>⟨h,rfl⟩
theorem Fz.Le.trans{a b c:Fz}(h:a.Le b)(k:b.Le c):a.Le c:=λq f=>⟨(k q (h q f).1).1,(k q (h q f).1).2.trans (h q f).2⟩
inductive RD(E:TE)(z:Fz):(ts:List Ty)->HL E.S ts->List Value->Prop
 | nil {h}:RD E z [] h []
 | int {k n ts h vs} (r:RD E z ts h vs):RD E z (.int k::ts) (n,h) (.int k n::vs)
 | bool {b ts h vs} (r:RD E z ts h vs):RD E z (.bool::ts) (b,h) (.bool b::vs)
 | str {s ts h vs} (r:RD E z ts h vs):RD E z (.str::ts) (s,h) (S s::vs)
 | sl {e:Ty} {xs:List (Den E.S e)} {A:Option Addr} {cap:Nat} {rows:List (List Value)} {ts h vs} (hs:SlF z.F (E.size e) A xs.length rows z.w) (hc:xs.length<=cap)
   (hr:∀(i:Nat) x r,xs[i]? = some x->rows[i]? = some r->RD E z (E.flat e) (E.fl e x) r) (r:RD E z ts h vs):RD E z (.sl e::ts) (xs,h) (.slice A xs.length cap::vs)
section
variable{E:TE}{z z':Fz}
theorem SlF.le{c n:Nat}{A:Option Addr}{rows:List (List Value)}(h:SlF z.F c A n rows z.w)(p:z.Le z'):SlF z'.F c A n rows z'.w :=
 ⟨h.1,λs=>by
  obtain⟨b,off,e,x,m⟩:=h.2 s;have f:=p b x;exact⟨b,off,e,f.1,λi r hr=>⟨(m i r hr).1,λj u q=>(World.cell?_of_block (w:=z.w) f.2).trans ((m i r hr).2 j u q)⟩⟩⟩
theorem RD.le{ts:List Ty}{h:HL E.S ts}{vs:List Value}(r:RD E z ts h vs)(m:z.Le z'):RD E z' ts h vs:=by
 induction r with
 | nil=>exact .nil
 | int _ f=>exact .int f
 | bool _ f=>exact .bool f
 | str _ f=>exact .str f
 | sl p q _ _ j f=>exact .sl (SlF.le p m) q (λi x r u s=>j i x r u s) f
theorem RD.nil_inv{h:HL E.S []}{vs:List Value}(r:RD E z [] h vs):vs=[]:=by cases r;rfl
theorem RD.int_inv{k:IntKind}{ts:List Ty}{h:HL E.S (.int k::ts)}{vs:List Value}(r:RD E z (.int k::ts) h vs):∃vs',vs = .int k h.1::vs'/\RD E z ts h.2 vs':=by
 cases r with|int r=>exact⟨_,rfl,r⟩
theorem RD.bool_inv{ts:List Ty}{h:HL E.S (.bool::ts)}{vs:List Value}(r:RD E z (.bool::ts) h vs):∃vs',vs = .bool h.1::vs'/\RD E z ts h.2 vs':=by
 cases r with|bool r=>exact⟨_,rfl,r⟩
theorem RD.str_inv{ts:List Ty}{h:HL E.S (.str::ts)}{vs:List Value}(r:RD E z (.str::ts) h vs):∃vs',vs=S h.1::vs'/\RD E z ts h.2 vs':=by
 cases r with|str r=>exact⟨_,rfl,r⟩
theorem RD.sl_inv{e:Ty}{ts:List Ty}{h:HL E.S (.sl e::ts)}{vs:List Value}(r:RD E z (.sl e::ts) h vs):∃A cap rows vs',vs = .slice A h.1.length cap::vs'/\SlF z.F (E.size e) A h.1.length rows z.w/\h.1.length<=cap /\
  (∀(i:Nat) x r,h.1[i]? = some x->rows[i]? = some r->RD E z (E.flat e) (E.fl e x) r)/\RD E z ts h.2 vs':=by
 cases r with|sl f j hr r=>exact⟨_,_,_,_,rfl,f,j,hr,r⟩
theorem RD.len{ts:List Ty}{h:HL E.S ts}{vs:List Value}(r:RD E z ts h vs):vs.length=ts.length:=by
 induction r with
 | nil=>rfl
 | int _ f=>simp[f]
 | bool _ f=>simp[f]
 | str _ f=>simp[f]
 | sl _ _ _ _ _ f=>simp[f]
theorem RD.uncons{t:Ty}{ts:List Ty}{h:HL E.S (t::ts)}{vs:List Value}(r:RD E z (t::ts) h vs):∃v vs',vs=v::vs'/\RD E z [t] (h.1,()) [v]/\RD E z ts h.2 vs':=by
 cases r with
 | int r=>exact⟨_,_,rfl,.int .nil,r⟩
 | bool r=>exact⟨_,_,rfl,.bool .nil,r⟩
 | str r=>exact⟨_,_,rfl,.str .nil,r⟩
 | sl f j hr r=>exact⟨_,_,rfl,.sl f j hr .nil,r⟩
theorem RD.cons{t:Ty}{ts:List Ty}{x:Den E.S t}{h:HL E.S ts}{v:Value}{vs:List Value}(r:RD E z [t] (x,()) [v])(rs:RD E z ts h vs):RD E z (t::ts) (x,h) (v::vs):=by
 cases r with
 | int _=>exact .int rs
 | bool _=>exact .bool rs
 | str _=>exact .str rs
 | sl f j hr _=>exact .sl f j hr rs
theorem RD.cell{t:Ty}{x:Den E.S t}{v:Value}(r:RD E z [t] (x,()) [v]):mT_ v=true:=by
 cases r<;>rfl
theorem RD.cells{ts:List Ty}{h:HL E.S ts}{vs:List Value}(r:RD E z ts h vs):dn_ vs=true:=by
 induction r with
 | nil=>rfl
 | int _ f=>simp[dn_,mT_,f]
 | bool _ f=>simp[dn_,mT_,f]
 | str _ f=>simp[dn_,mT_,S,f]
 | sl _ _ _ _ _ f=>simp[dn_,mT_,f]
end
inductive SC(E:TE) where
 | dt (t:Ty) (x:Den E.S t)
 | own (id:Nat)
 | pre (id:Nat) (n:Int)
 | suf (id:Nat) (lo:Int)
 | nils
 | ptr (id off:Nat)
 | elo (id q:Nat) (i:Int) (off:Nat)
 | elf (t:Ty) (x:Den E.S t) (off:Nat)
 | fn1 (a r:Ty) (g:Den E.S a->Option (Den E.S r))
 | fn2 (a b r:Ty) (g:Den E.S a->Den E.S b->Option (Den E.S r))
 | clo (f:FuncId) (caps:List Nat)
 | mp (id:Nat)
 | mst (q:Nat)
 | nilp
 | nif
 | sbp (id:Nat)
 | pix (id:Nat) (i:Int)
 | efx (t:Ty) (x:Den E.S t) (i:Int)
inductive V1(E:TE) where
 | one (c:SC E)
 | agg (l:List (SC E))
inductive SV(E:TE) where
 | v (x:V1 E)
 | tup (l:List (V1 E))
inductive Obj(E:TE) where
 | box (T:TypeId) (cs:List (SC E))
 | row (e:TypeId) (t:Ty) (xs:List (Den E.S t)) (foc:List (Nat×Int×Den E.S t))
 | fr (t:Ty) (xs:List (Den E.S t))
 | fb (t:Ty) (x:Den E.S t)
 | map (T:TypeId) (k v:Ty) (ks:List (Den E.S k)) (vs:List (Den E.S v)) (foc:List (Nat×Den E.S k))
structure Loc where
 A:Option Addr
 n:Nat
 cap:Nat
 c:Nat
 b:Nat
 ix:Int:=0
abbrev Ga:=Nat->Option Loc
def Ga.Le(g h:Ga):Prop:=∀i l,g i=some l->h i=some l
def Ga.put(g:Ga)(i:Nat)(l:Loc):Ga:=λj=>if j=i then some l else g j
theorem Ga.Le.refl(g:Ga):g.Le g:=λ_ _ h=>h
theorem Ga.Le.trans{f g h:Ga}(a:f.Le g)(b:g.Le h):f.Le h:=λi l e=>b i l (a i l e)
theorem Ga.le_put{g:Ga}{i:Nat}{l:Loc}(h:g i=none):g.Le (g.put i l):=λj f e=>by
 unfold Ga.put;split
 .subst_vars;rw[h]at e;cases e
 .exact e
theorem Ga.put_self(g:Ga)(i:Nat)(l:Loc):g.put i l i=some l:=by unfold Ga.put;rw[qV rfl]
theorem Ga.put_ne(g:Ga){i j:Nat}(l:Loc)(h:j≠i):g.put i l j=g j:=by unfold Ga.put;rw[qX h]
inductive All2{α β:Type}(R:α->β->Prop):List α->List β->Prop
 | nil:All2 R [] []
 | cons {a b la bs} (h:R a b) (t:All2 R la bs):All2 R (a::la) (b::bs)
namespace All2
variable{α β:Type}{R R':α->β->Prop}{la la':List α}{bs bs':List β}
theorem len(h:All2 R la bs):la.length=bs.length:=by induction h with|nil=>rfl|cons _ _ f=>simp[f]
theorem mono(h:All2 R la bs)(j:∀a b,R a b->R' a b):All2 R' la bs:=by
 induction h with
 | nil=>exact .nil
 | cons h _ f=>exact .cons (j _ _ h) f
theorem append(h:All2 R la bs)(j:All2 R la' bs'):All2 R (la++la') (bs++bs'):=by
 induction h with
 | nil=>exact j
 | cons h _ f=>exact .cons h f
theorem take(h:All2 R la bs):∀(n:Nat),All2 R (la.take n) (bs.take n):=by
 induction h with
 | nil=>intro n;simp;exact .nil
 | cons h _ f =>
  intro n;cases n with
  | zero=>exact .nil
  | succ n=>exact .cons h (f n)
theorem drop(h:All2 R la bs):∀(n:Nat),All2 R (la.drop n) (bs.drop n):=by
 induction h with
 | nil=>intro n;simp;exact .nil
 | cons h t f =>
  intro n;cases n with
  | zero=>exact .cons h t
  | succ n=>exact f n
theorem get(h:All2 R la bs):∀{i:Nat} {a:α},la[i]? = some a->∃b,bs[i]? = some b/\R a b:=by
 induction h with
 | nil=>intro i a h;simp at h
 | cons h _ j =>
  intro i x f;cases i with
  | zero=>simp at f;subst f;exact⟨_,rfl,h⟩
  | succ i=>exact j (by simpa using f)
end All2
def Fz.In(z:Fz)(w:World):Prop:=∀k,z.F k->k<w.heap.size/\w.heap[k]? = z.w.heap[k]?
theorem Fz.In.ext{z:Fz}{w w':World}(h:z.In w)(m:Ext w w'):z.In w':=λk f=>by
 have j:=m.below;exact⟨zJ (h k f).1 j.size,(j.block k (h k f).1).trans (h k f).2⟩
def RT(E:TE)(z:Fz)(t:Ty)(x:Den E.S t)(v:Value):Prop:=match t,x with | .st n,x=>∃vs,v = .agg vs.toArray/\RD E z (E.cs n) (E.un n x) vs | .int k,x=>RD E z [.int k] (x,()) [v] | .bool,x=>RD E z [.bool] (x,()) [v] | .str,x=>RD E z [.str] (x,()) [v] | .sl e,x=>RD E z [.sl e] (x,()) [v]
def RTs(E:TE)(z:Fz):(ts:List Ty)->HL E.S ts->List Value->Prop | [],_,vs=>vs=[]|t::ts,h,vs=>∃v vs',vs=v::vs'/\RT E z t h.1 v/\RTs E z ts h.2 vs'
def Ty.flatB:Ty->Bool | .int _ | .bool | .str=>true|_=>false
def dU_(P:Program)(f:FuncId):Bool:=match P.funcs[f]? with
 | some fn => !(fn.name == "runtime.NumGoroutine") && !fn.body.isNone
 | none=>false
theorem rz_{P:Program}{f:FuncId}{args:Array Value}{w:World}(h:dU_ P f=true):(callFunc f args).run P w = .ok (.enter f args) w:=by
 unfold dU_ at h;split at h
 .rename_i fn j;simp only[qAn,qL]at h
  have p : ¬ fn.name = "runtime.NumGoroutine" := by simpa using h.1
  have m:¬fn.body=none:=λe=>by rw[e]at h;simp at h
  unfold callFunc;simp[j,p,m]
 .cases h
def FnOK(P:Program)(E:TE)(z:Fz)(f:Value)(la:List Ty)(r:Ty)(g:HL E.S la->Option (Den E.S r)):Prop :=
 ∃fid caps,f = .func (.func fid) #[] caps/\(dU_ P fid=true/\r.flatB=true)/\∀(w:World) (z':Fz) (h:HL E.S la) (y:Den E.S r) (args:List Value),z.Le z'->z'.In w->RTs E z' la h args->g h=some y ->
  Ret P fid (args.toArray++caps) w λu w'=>RD E z' [r] (y,()) [u]/\Ext w w'
theorem FnOK.le{P:Program}{E:TE}{z z':Fz}{f:Value}{la:List Ty}{r:Ty}{g:HL E.S la->Option (Den E.S r)}(h:FnOK P E z f la r g)(j:z.Le z'):FnOK P E z' f la r g:=by
 obtain⟨fid,caps,e,p,q⟩:=h;exact⟨fid,caps,e,p,λw z2 m y args C x u s=>q w z2 m y args (j.trans C) x u s⟩
def RC(P:Program)(E:TE)(z:Fz)(g:Ga):SC E->Value->Prop | .dt t x,v=>RD E z [t] (x,()) [v] | .own id,v=>∃l,g id=some l/\v = .slice l.A l.n l.cap | .pre id n,v=>∃l,g id=some l/\v = .slice l.A n.toNat l.cap | .suf id lo,v=>∃l,g id=some l/\lo.toNat<=l.n/\v = .slice (cutA l.A l.c lo.toNat l.cap) (l.n-lo.toNat) (l.cap-lo.toNat) | .nils,v=>v = .slice none 0 0 | .ptr id off,v=>∃l,g id=some l/\v = .pointer (some ⟨l.b,off,none⟩) | .elo _ q i off,v=>∃l,g q=some l/\l.ix=i/\v = .pointer (some ⟨l.b,l.n+off,none⟩) | .elf t x off,v=>∃b o r,v = .pointer (some ⟨b,o+off,none⟩)/\z.F b/\RD E z (E.flat t) (E.fl t x) r/\∀j u,r[j]? = some u->z.w.cell? ⟨b,o+j,none⟩=some u | .fn1 a r f,v=>FnOK P E z v [a] r λh=>f h.1 | .fn2 a b r f,v=>FnOK P E z v [a,b] r λh=>f h.1 h.2.1 | .clo f caps,v=>∃us,v = .func (.func f) #[] us.toArray/\All2 (λid u=>∃l,g id=some l/\u = .pointer (some ⟨l.b,0,none⟩)) caps us | .mp id,v=>∃l,g id=some l/\v = .map (some l.b) | .mst q,v=>∃l,g q=some l/\v = .int .i64 (l.n:Int) | .nilp,v=>v = .pointer none | .nif,v=>v = .nilIface | .sbp id,v=>∃l,g id=some l/\(v = .pointer none\/v = .pointer (some ⟨l.b,0,none⟩)) | .pix id i,v=>∃l,g id=some l/\v = .pointer (some ⟨l.b,i.toNat,none⟩) | .efx t x i,v=>∃b o r,v = .pointer (some ⟨b,o+i.toNat,none⟩)/\z.F b/\RD E z (E.flat t) (E.fl t x) r/\∀j u,r[j]? = some u->z.w.cell? ⟨b,o+j,none⟩=some u
def R1(P:Program)(E:TE)(z:Fz)(g:Ga):V1 E->Value->Prop | .one c,v=>RC P E z g c v | .agg l,v=>∃vs,v = .agg vs.toArray/\All2 (RC P E z g) l vs
def RV(P:Program)(E:TE)(z:Fz)(g:Ga):SV E->Value->Prop | .v x,v=>R1 P E z g x v | .tup l,v=>∃vs,v = .tuple vs.toArray/\All2 (R1 P E z g) l vs
section
variable{P:Program}{E:TE}{z z':Fz}{g g':Ga}{w w' w0:World}
theorem RC.le{c:SC E}{v:Value}(h:RC P E z g c v)(y:z.Le z')(s:g.Le g'):RC P E z' g' c v:=by
 cases c with
 | dt t x=>exact RD.le h y
 | own id=>obtain⟨l,p,m⟩:=h;exact⟨l,s _ _ p,m⟩
 | pre id n=>obtain⟨l,p,m⟩:=h;exact⟨l,s _ _ p,m⟩
 | suf id lo=>obtain⟨l,p,m⟩:=h;exact⟨l,s _ _ p,m⟩
 | nils=>exact h
 | ptr id off=>obtain⟨l,p,m⟩:=h;exact⟨l,s _ _ p,m⟩
 | elo id q i off=>obtain⟨l,p,m⟩:=h;exact⟨l,s _ _ p,m⟩
 | elf t x off =>
  obtain⟨b,o,r,p,m,D,C⟩:=h;exact⟨b,o,r,p,(y b m).1,D.le y,λj u F=>(World.cell?_of_block (w:=z.w) (y b m).2).trans (C j u F)⟩
 | fn1 a r f=>exact FnOK.le h y
 | fn2 a b r f=>exact FnOK.le h y
 | clo f caps=>obtain⟨us,p,m⟩:=h;exact⟨us,p,m.mono λ_ _ ⟨l,D,C⟩=>⟨l,s _ _ D,C⟩⟩
 | mp id=>obtain⟨l,p,m⟩:=h;exact⟨l,s _ _ p,m⟩
 | mst q=>obtain⟨l,p,m⟩:=h;exact⟨l,s _ _ p,m⟩
 | nilp=>exact h
 | nif=>exact h
 | sbp id=>obtain⟨l,p,m⟩:=h;exact⟨l,s _ _ p,m⟩
 | pix id i=>obtain⟨l,p,m⟩:=h;exact⟨l,s _ _ p,m⟩
 | efx t x i =>
  obtain⟨b,o,r,p,m,D,C⟩:=h;exact⟨b,o,r,p,(y b m).1,D.le y,λj u F=>(World.cell?_of_block (w:=z.w) (y b m).2).trans (C j u F)⟩
theorem RC.cell{c:SC E}{v:Value}(h:RC P E z g c v):mT_ v=true:=by
 cases c with
 | dt t x=>exact RD.cell h
 | own id=>obtain⟨l,j,rfl⟩:=h;rfl
 | pre id n=>obtain⟨l,j,rfl⟩:=h;rfl
 | suf id lo=>obtain⟨l,j,_,rfl⟩:=h;rfl
 | nils=>simp only[RC]at h;subst h;rfl
 | ptr id off=>obtain⟨l,j,rfl⟩:=h;rfl
 | elo id q i off=>obtain⟨l,j,_,rfl⟩:=h;rfl
 | elf t x off=>obtain⟨b,o,r,rfl,_⟩:=h;rfl
 | fn1 a r f=>obtain⟨fid,caps,rfl,_⟩:=h;rfl
 | fn2 a b r f=>obtain⟨fid,caps,rfl,_⟩:=h;rfl
 | clo f caps=>obtain⟨us,rfl,_⟩:=h;rfl
 | mp id=>obtain⟨l,j,rfl⟩:=h;rfl
 | mst q=>obtain⟨l,j,rfl⟩:=h;rfl
 | nilp=>simp only[RC]at h;subst h;rfl
 | nif=>simp only[RC]at h;subst h;rfl
 | sbp id=>obtain⟨l,j,rfl|rfl⟩:=h<;>rfl
 | pix id i=>obtain⟨l,j,rfl⟩:=h;rfl
 | efx t x i=>obtain⟨b,o,r,rfl,_⟩:=h;rfl
theorem RC.cells{l:List (SC E)}{vs:List Value}(h:All2 (RC P E z g) l vs):dn_ vs=true:=by
 induction h with
 | nil=>rfl
 | cons h _ f=>simp[dn_,RC.cell h,f]
theorem R1.le{x:V1 E}{v:Value}(h:R1 P E z g x v)(f:z.Le z')(j:g.Le g'):R1 P E z' g' x v:=by
 cases x with
 | one c=>exact RC.le h f j
 | agg l=>obtain⟨vs,e,h⟩:=h;exact⟨vs,e,h.mono λ_ _ h=>RC.le h f j⟩
theorem RV.le{x:SV E}{v:Value}(h:RV P E z g x v)(f:z.Le z')(j:g.Le g'):RV P E z' g' x v:=by
 cases x with
 | v x=>exact R1.le h f j
 | tup l=>obtain⟨vs,e,h⟩:=h;exact⟨vs,e,h.mono λ_ _ h=>R1.le h f j⟩
def hlc(E:TE):(ts:List Ty)->HL E.S ts->List (SC E) | [],_=>[]|t::ts,h => .dt t h.1::hlc E ts h.2
theorem hlc_rd:∀{ts:List Ty} {h:HL E.S ts} {vs:List Value},RD E z ts h vs↔All2 (RC P E z g) (hlc E ts h) vs
 | [],h,vs=>⟨λr=>by rw[r.nil_inv];exact .nil,λr=>by cases r;exact .nil⟩
 | t::ts,h,vs=>⟨λr=>by
   obtain⟨v,vs',rfl,j,f⟩:=r.uncons;exact .cons j (hlc_rd.1 f),λr=>by
   obtain⟨x,h⟩:=h;simp only[hlc]at r;cases r with
   | cons j f=>exact RD.cons j (hlc_rd.2 f)⟩
def TE.cells(E:TE)(t:Ty)(x:Den E.S t):List (SC E):=hlc E (E.flat t) (E.fl t x)
theorem cells_rd{t:Ty}{x:Den E.S t}{vs:List Value}:RD E z (E.flat t) (E.fl t x) vs↔All2 (RC P E z g) (E.cells t x) vs:=hlc_rd
def dM_(E:TE):(ts:List Ty)->HL E.S ts->Option (List Value)
 | [],_=>some []
 | .int k::ts,h=>match dM_ E ts h.2 with|some l=>some (.int k h.1::l)|none=>none
 | .bool::ts,h=>match dM_ E ts h.2 with|some l=>some (.bool h.1::l)|none=>none
 | .str::ts,h=>match dM_ E ts h.2 with|some l=>some (S h.1::l)|none=>none
 | _,_=>none
theorem nx_:∀{ts:List Ty} {h:HL E.S ts} {vs l:List Value},RD E z ts h vs->dM_ E ts h=some l->vs=l
 | [],h,vs,l,hr,f=>by rw[hr.nil_inv];simpa[dM_]using f
 | .int k::ts,h,vs,l,hr,f=>by
  obtain⟨vs',rfl,j⟩:=hr.int_inv;simp only[dM_]at f;split at f
  .rename_i p m;obtain rfl:=qSj f;rw[nx_ j m]
  .cases f
 | .bool::ts,h,vs,l,hr,f=>by
  obtain⟨vs',rfl,j⟩:=hr.bool_inv;simp only[dM_]at f;split at f
  .rename_i p m;obtain rfl:=qSj f;rw[nx_ j m]
  .cases f
 | .str::ts,h,vs,l,hr,f=>by
  obtain⟨vs',rfl,j⟩:=hr.str_inv;simp only[dM_]at f;split at f
  .rename_i p m;obtain rfl:=qSj f;rw[nx_ j m]
  .cases f
 | .sl e::ts,h,vs,l,hr,f=>by simp[dM_]at f
 | .st n::ts,h,vs,l,hr,f=>by simp[dM_]at f
def c4_(E:TE):(t:Ty)->Den E.S t->Option Value
 | .st n,x=>match dM_ E (E.cs n) (E.un n x)with
  | some l=>some (.agg l.toArray)
  | none=>none
 | .int k,n=>some (.int k n)
 | .bool,b=>some (.bool b)
 | .str,s=>some (S s)
 | .sl _,_=>none
inductive MapR(E:TE)(k v:Ty):List (Den E.S k)->List (Den E.S v)->List MapEntry->Prop
 | nil:MapR E k v [] [] []
 | cons {x y e ks vs es} (hk:c4_ E k x=some e.key) (hv:c4_ E v y=some e.val) (t:MapR E k v ks vs es):MapR E k v (x::ks) (y::vs) (e::es)
structure MapIs(E:TE)(k v:Ty)(ks:List (Den E.S k))(vs:List (Den E.S v))(es:Array MapEntry)(clock:Nat):Prop where
 rel:MapR E k v ks vs es.toList
 lt:∀e∈es.toList,e.born<clock
 nd:(es.toList.map (·.born)).Nodup
 ks:ks.Nodup
def Rows(E:TE)(z:Fz)(t:Ty)(xs:List (Den E.S t))(rows:List (List Value)):Prop:=∀(i:Nat) x r,xs[i]? = some x->rows[i]? = some r->RD E z (E.flat t) (E.fl t x) r
theorem Rows.le{t:Ty}{xs:List (Den E.S t)}{rows:List (List Value)}(h:Rows E z t xs rows)(f:z.Le z'):Rows E z' t xs rows:=λi x r m j=>(h i x r m j).le f
def ObjR(P:Program)(E:TE)(z:Fz)(g:Ga)(w:World)(id:Nat):Obj E->Prop | .box T cs=>∃l vs,g id=some l/\w.heap[l.b]? = some (.cells vs.toArray T (0,0))/\All2 (RC P E z g) cs vs | .row e t xs foc=>∃l rows,g id=some l/\l.n=xs.length/\l.c=E.size t/\w.ownsRow 0 e l.c (.slice l.A l.n l.cap) l.n rows.flatten/\rows.length=l.n/\(∀r∈rows,r.length=l.c)/\Rows E z t xs rows/\∀p∈foc,an_ xs p.2.1=some p.2.2/\∃lq o,g p.1=some lq/\l.A=some ⟨lq.b,o,none⟩/\lq.n=o+p.2.1.toNat*l.c/\lq.ix=p.2.1 | .fr t xs=>∃l rows,g id=some l/\l.n=xs.length/\l.c=E.size t/\SlF z.F l.c l.A l.n rows z.w/\l.n<=l.cap/\Rows E z t xs rows | .fb t x=>∃l r,g id=some l/\z.F l.b/\RD E z (E.flat t) (E.fl t x) r/\∀j u,r[j]? = some u->z.w.cell? ⟨l.b,j,none⟩=some u | .map _ k v ks vs foc=>∃l es clock,g id=some l/\w.heap[l.b]? = some (.map es clock)/\MapIs E k v ks vs es clock/\∀p∈foc,∃lq,∃i:Nat,∃e:MapEntry,g p.1=some lq/\es.toList[i]? = some e/\e.born=lq.n/\ks[i]? = some p.2
def fpO{E:TE}(g:Ga)(id:Nat):Obj E->Nat->Prop | .box ..,k=>∃l,g id=some l/\k=l.b | .row ..,k=>∃l a,g id=some l/\l.A=some a/\k=a.block | .fr ..,_=>False | .fb ..,_=>False | .map ..,k=>∃l,g id=some l/\k=l.b
theorem ObjR.loc{id:Nat}{o:Obj E}(h:ObjR P E z g w id o):∃l,g id=some l:=by
 cases o with
 | box T cs=>obtain⟨l,_,f,_⟩:=h;exact⟨l,f⟩
 | row e t xs foc=>obtain⟨l,_,f,_⟩:=h;exact⟨l,f⟩
 | fr t xs=>obtain⟨l,_,f,_⟩:=h;exact⟨l,f⟩
 | fb t x=>obtain⟨l,_,f,_⟩:=h;exact⟨l,f⟩
 | map T k v ks vs foc=>obtain⟨l,_,_,f,_⟩:=h;exact⟨l,f⟩
theorem mf_{id:Nat}{o:Obj E}{k:Nat}(h:∃l,g id=some l)(s:g.Le g'):fpO g' id o k↔fpO g id o k:=by
 obtain⟨l,q⟩:=h;have p:=s _ _ q;cases o with
 | box T cs=>exact⟨λ⟨j,f,m⟩=>⟨j,by rw[p]at f;rw[q];exact f,m⟩,λ⟨j,f,m⟩=>⟨j,s _ _ f,m⟩⟩
 | row e t xs foc=>exact⟨λ⟨j,a,f,m⟩=>⟨j,a,by rw[p]at f;rw[q];exact f,m⟩,λ⟨j,a,f,m⟩=>⟨j,a,s _ _ f,m⟩⟩
 | fr t xs=>exact Iff.rfl
 | fb t x=>exact Iff.rfl
 | map T k v ks vs foc=>exact⟨λ⟨j,f,m⟩=>⟨j,by rw[p]at f;rw[q];exact f,m⟩,λ⟨j,f,m⟩=>⟨j,s _ _ f,m⟩⟩
theorem ObjR.lt{id:Nat}{o:Obj E}(h:ObjR P E z g w id o){k:Nat}(p:fpO g id o k):k<w.heap.size:=by
 cases o with
 | box T cs =>
  obtain⟨l,vs,q,j,_⟩:=h;obtain⟨s,f,rfl⟩:=p;rw[q]at f;obtain rfl:=qSj f;rcases qN l.b w.heap.size with m|m
  .exact m
  .rw[qy m]at j;cases j
 | row e t xs foc =>
  obtain⟨l,rows,q,_,_,j,_⟩:=h;obtain⟨s,a,f,u,rfl⟩:=p;rw[q]at f;obtain rfl:=qSj f;exact(World.ownsRow.lt j a.block (by rw[u];rfl)).2
 | fr t xs=>exact p.elim
 | fb t x=>exact p.elim
 | map T k v ks vs foc =>
  obtain⟨l,es,c,q,j,_⟩:=h;obtain⟨s,f,rfl⟩:=p;rw[q]at f;obtain rfl:=qSj f;rcases qN l.b w.heap.size with m|m
  .exact m
  .rw[qy m]at j;cases j
theorem ObjR.keep{id:Nat}{o:Obj E}(h:ObjR P E z g w id o)(y:z.Le z')(s:g.Le g')(G:∀k,fpO g id o k->w'.heap[k]? = w.heap[k]?):ObjR P E z' g' w' id o:=by
 cases o with
 | box T cs =>
  obtain⟨l,vs,f,m,q⟩:=h;exact⟨l,vs,s _ _ f,by rw[G _ ⟨l,f,rfl⟩];exact m,q.mono λ_ _ h=>RC.le h y s⟩
 | row e t xs foc =>
  obtain⟨l,rows,f,F,J,m,q,C,O,M⟩:=h;refine⟨l,rows,s _ _ f,F,J,⟨m.1,?_⟩,q,C,O.le y,λp D=>let ⟨h7,lq,o,h8,h9⟩:=M p D;⟨h7,lq,o,s _ _ h8,h9⟩⟩;rcases m.2 with h'|⟨b,cap',cur,U,Z,Y,r⟩
  .exact .inl h'
  .refine .inr ⟨b,cap',cur,U,Z,?_,r⟩;injection U with hA;rw[G b ⟨l,_,f,hA,rfl⟩];exact Y
 | fr t xs =>
  obtain⟨l,rows,f,F,J,m,q,C⟩:=h;exact⟨l,rows,s _ _ f,F,J,SlF.le m y,q,C.le y⟩
 | fb t x =>
  obtain⟨l,r,f,m,q,C⟩:=h;exact⟨l,r,s _ _ f,(y _ m).1,q.le y,λj u V=>(World.cell?_of_block (w:=z.w) (y _ m).2).trans (C j u V)⟩
 | map T k v ks vs foc =>
  obtain⟨l,es,c,f,m,q,C⟩:=h;exact⟨l,es,c,s _ _ f,by rw[G _ ⟨l,f,rfl⟩];exact m,q,λp D=>let ⟨lq,i,e,O,M⟩:=C p D;⟨lq,i,e,s _ _ O,M⟩⟩
def Glo(E:TE)(z:Fz):Prop:=∀n t x,E.gl n=some ⟨t,x⟩->z.F n/\∃r,RD E z (E.flat t) (E.fl t x) r/\(∀j u,r[j]? = some u->z.w.cell? ⟨n,j,none⟩=some u)/\∃e c,z.w.heap[n]? = some (.cells r.toArray e c)
theorem Glo.le(h:Glo E z)(f:z.Le z'):Glo E z':=λn t x e=>by
 obtain⟨m,r,y,s,e,c,q⟩:=h n t x e;exact⟨(f n m).1,r,y.le f,λj u p=>(World.cell?_of_block (w:=z.w) (f n m).2).trans (s j u p),e,c,(f n m).2.trans q⟩
structure HR(P:Program)(E:TE)(Bs:List Nat)(F0:Nat->Prop)(w0 w:World)(z:Fz)(g:Ga)(H:Nat->Option (Obj E)):Prop where
 chg:Chg Bs w0 w
 hold:∀id o,H id=some o->ObjR P E z g w id o
 own:∀id o k,H id=some o->fpO g id o k->w0.heap.size<=k\/k∈Bs
 apart:∀id id' o o' k,id≠id'->H id=some o->H id'=some o'->fpO g id o k->¬fpO g id' o' k
 fz:z.In w
 fz0:∀k,z.F k->F0 k\/w0.heap.size<=k\/k∈Bs
 fza:∀id o k,H id=some o->fpO g id o k->¬z.F k
 gl:Glo E z
section
variable{Bs:List Nat}{F0:Nat->Prop}{H H':Nat->Option (Obj E)}
theorem HR.size(h:HR P E Bs F0 w0 w z g H):w0.heap.size<=w.heap.size:=h.chg.grow.size
theorem HR.less(h:HR P E Bs F0 w0 w z g H)(f:∀i o,H' i=some o->H i=some o):HR P E Bs F0 w0 w z g H' :=
 ⟨h.chg,λi o e=>h.hold i o (f i o e),λi o k e=>h.own i o k (f i o e),λi j o p k m e e'=>h.apart i j o p k m (f i o e) (f j p e'),h.fz,h.fz0,λi o k e=>h.fza i o k (f i o e),h.gl⟩
theorem HR.ext(h:HR P E Bs F0 w0 w z g H)(m:Ext w w'):HR P E Bs F0 w0 w' z g H:=by
 have j:=m.below;refine⟨⟨h.chg.grow.trans (Grow.of_below j),λk f p=>(j.block k (zJ f h.size)).trans (h.chg.block k f p)⟩,λi o e => ?_,h.own,h.apart,h.fz.ext m,h.fz0,h.fza,h.gl⟩;exact(h.hold i o e).keep (Fz.Le.refl z) (Ga.Le.refl g) λk f=>j.block k ((h.hold i o e).lt f)
theorem HR.turn(h:HR P E Bs F0 w0 w z g H)(hg:g.Le g'){i i':Nat}{o':Obj E}{C:Nat->Prop}(hC:∀k,C k->∃o,H i=some o/\fpO g i o k)
  (hb:Grow w w') (hk:∀k,k<w.heap.size->¬C k->w'.heap[k]? = w.heap[k]?) (ho:ObjR P E z g' w' i' o') (G:∀k,fpO g' i' o' k->C k\/w.heap.size<=k)
  (Z:∀j o,H' j=some o->(j=i'/\o=o')\/(j≠i'/\(j≠i\/∀k,¬C k)/\H j=some o)):HR P E Bs F0 w0 w' z g' H':=by
 have b3_:∀k,C k->w0.heap.size<=k\/k∈Bs:=λk J=>by obtain⟨o,s,x⟩:=hC k J;exact h.own i o k s x
 have far:∀j o k,(j≠i\/∀k,¬C k)->H j=some o->fpO g j o k->¬C k:=λj o k V e G J=>by
  rcases V with V|V
  .obtain⟨p,s,x⟩:=hC k J;exact h.apart j i o p k V e s G x
  .exact V k J
 have fzC:∀k,z.F k->¬C k:=λk y J=>by obtain⟨o,s,x⟩:=hC k J;exact h.fza i o k s x y
 have lt:∀j o k,H j=some o->fpO g j o k->k<w.heap.size:=λj o k e G=>(h.hold j o e).lt G
 have fle:∀j o k,H j=some o->(fpO g' j o k↔fpO g j o k):=λj o k e=>mf_ (h.hold j o e).loc hg
 refine⟨⟨h.chg.grow.trans hb,λk U O=>(hk k (zJ U h.size) λJ => ?_).trans (h.chg.block k U O)⟩,λj o e => ?_,λj o k e f => ?_,λj M o p k O e e' f m => ?_,λk y => ?_,h.fz0,λj o k e f y => ?_,h.gl⟩
 .rcases b3_ k J with s|s
  .omega
  .exact O s
 .rcases Z j o e with⟨rfl,rfl⟩|⟨_,x,q⟩
  .exact ho
  .exact(h.hold j o q).keep (Fz.Le.refl z) hg λk Y=>hk k (lt j o k q Y) (far j o k x q Y)
 .rcases Z j o e with⟨rfl,rfl⟩|⟨_,x,q⟩
  .rcases G k f with s|s
   .exact b3_ k s
   .exact .inl (qk h.size s)
  .exact h.own j o k q ((fle j o k q).1 f)
 .rcases Z j o e with⟨rfl,rfl⟩|⟨s,x,q⟩<;>rcases Z M p e' with⟨rfl,rfl⟩|⟨ZY,ZZ,u⟩
  .exact O rfl
  .have m:=(fle M p k u).1 m;rcases G k f with D|D
   .exact far M p k ZZ u m D
   .have:=lt M p k u m;omega
  .have f:=(fle j o k q).1 f;rcases G k m with D|D
   .exact far j o k x q f D
   .have:=lt j o k q f;omega
  .exact h.apart j M o p k O q u ((fle j o k q).1 f) ((fle M p k u).1 m)
 .have:=h.fz k y;exact⟨zJ this.1 hb.size,(hk k this.1 (fzC k y)).trans this.2⟩
 .rcases Z j o e with⟨rfl,rfl⟩|⟨_,x,q⟩
  .rcases G k f with D|D
   .exact fzC k y D
   .have:=(h.fz k y).1;omega
  .exact h.fza j o k q ((fle j o k q).1 f) y
theorem HR.add(h:HR P E Bs F0 w0 w z g H)(s:Ext w w'){i:Nat}{l:Loc}{o:Obj E}(hi:g i=none)(u:ObjR P E z (g.put i l) w' i o)(x:∀k,fpO (g.put i l) i o k->w.heap.size<=k)
  (y:∀j p,H' j=some p->(j=i/\p=o)\/(j≠i/\H j=some p)):HR P E Bs F0 w0 w' z (g.put i l) H':=by
 have q:=s.below;refine h.turn (Ga.le_put hi) (i:=i) (i':=i) (C:=λ_=>False) (λ_ h=>h.elim) (Grow.of_below q) (λk f _=>q.block k f) u (λk f => .inr (x k f)) λj p e => ?_
 rcases y j p e with m|⟨m,D⟩
 .exact .inl m
 .exact .inr ⟨m,.inr λ_ h=>h,D⟩
def Fz.grow(z:Fz)(F:Nat->Prop)(w:World):Fz:=⟨λk=>z.F k\/F k,w⟩
theorem Fz.In.grow_le{z:Fz}{w:World}(h:z.In w)(F:Nat->Prop):z.Le (z.grow F w):=λk f=>⟨.inl f,(h k f).2⟩
theorem HR.freeze(h:HR P E Bs F0 w0 w z g H){i:Nat}{e:TypeId}{t:Ty}{xs:List (Den E.S t)}{foc:List (Nat×Int×Den E.S t)}(hi:H i=some (.row e t xs foc))
  (C:∀j o,H' j=some o->(j=i/\o = .fr t xs)\/(j≠i/\H j=some o)):HR P E Bs F0 w0 w (z.grow (λk=>fpO g i (.row e t xs foc) k) w) g H':=by
 have D:=h.fz.grow_le (λk=>fpO g i (.row e t xs foc) k);refine⟨h.chg,λj o ej => ?_,λj o k ej f => ?_,λj G o p k y ej ej' f s => ?_,λk m => ?_,λk m => ?_,λj o k ej f m => ?_,h.gl.le D⟩
 .rcases C j o ej with⟨rfl,rfl⟩|⟨_,q⟩
  .obtain⟨l,rows,M,y,O,J,q,h4,Z,_⟩:=h.hold _ _ hi;have hr:=ht_ (w:=w) (e:=e) (cap:=l.cap) ⟨J,q,h4⟩;refine⟨l,rows,M,y,O,⟨hr.1,λx => ?_⟩,(Own.cap_le J).1,Z.le D⟩;obtain⟨b,off,Y,⟨a,V,U⟩,u⟩:=hr.2 x;exact⟨b,off,Y,.inr ⟨l,a,M,V,U⟩,u⟩
  .exact(h.hold j o q).keep D (Ga.Le.refl g) λ_ _=>rfl
 .rcases C j o ej with⟨rfl,rfl⟩|⟨_,q⟩
  .exact f.elim
  .exact h.own j o k q f
 .rcases C j o ej with⟨rfl,rfl⟩|⟨_,q⟩
  .exact f
  .rcases C G p ej' with⟨rfl,rfl⟩|⟨_,F⟩
   .exact s
   .exact h.apart j G o p k y q F f s
 .rcases m with m|m
  .exact⟨(h.fz k m).1,rfl⟩
  .exact⟨(h.hold _ _ hi).lt m,rfl⟩
 .rcases m with m|m
  .exact h.fz0 k m
  .exact .inr (h.own _ _ k hi m)
 .rcases C j o ej with⟨rfl,rfl⟩|⟨y,q⟩
  .exact f
  .rcases m with m|m
   .exact h.fza j o k q f m
   .exact h.apart j i o _ k y q hi f m
theorem HR.freezeBox(h:HR P E Bs F0 w0 w z g H){i:Nat}{T:TypeId}{cs:List (SC E)}{t:Ty}{x:Den E.S t}(hi:H i=some (.box T cs))(U:∀vs,All2 (RC P E z g) cs vs->RD E z (E.flat t) (E.fl t x) vs)
  (C:∀j o,H' j=some o->(j=i/\o = .fb t x)\/(j≠i/\H j=some o)):HR P E Bs F0 w0 w (z.grow (λk=>fpO g i (.box T cs) k) w) g H':=by
 have D:=h.fz.grow_le (λk=>fpO g i (.box T cs) k);refine⟨h.chg,λj o ej => ?_,λj o k ej f => ?_,λj J o p k F ej ej' f y => ?_,λk m => ?_,λk m => ?_,λj o k ej f m => ?_,h.gl.le D⟩
 .rcases C j o ej with⟨rfl,rfl⟩|⟨_,s⟩
  .obtain⟨l,vs,M,V,s⟩:=h.hold _ _ hi;refine⟨l,vs,M,.inr ⟨l,M,rfl⟩,(U vs s).le D,λq u O => ?_⟩;show w.cell? _=_;rw[cell_of_row w l.b q vs.toArray T (0,0) V];simpa using O
  .exact(h.hold j o s).keep D (Ga.Le.refl g) λ_ _=>rfl
 .rcases C j o ej with⟨rfl,rfl⟩|⟨_,s⟩
  .exact f.elim
  .exact h.own j o k s f
 .rcases C j o ej with⟨rfl,rfl⟩|⟨_,s⟩
  .exact f
  .rcases C J p ej' with⟨rfl,rfl⟩|⟨_,G⟩
   .exact y
   .exact h.apart j J o p k F s G f y
 .rcases m with m|m
  .exact⟨(h.fz k m).1,rfl⟩
  .exact⟨(h.hold _ _ hi).lt m,rfl⟩
 .rcases m with m|m
  .exact h.fz0 k m
  .exact .inr (h.own _ _ k hi m)
 .rcases C j o ej with⟨rfl,rfl⟩|⟨F,s⟩
  .exact f
  .rcases m with m|m
   .exact h.fza j o k s f m
   .exact h.apart j i o _ k F s hi f m
end
end
end Rt
end Go
