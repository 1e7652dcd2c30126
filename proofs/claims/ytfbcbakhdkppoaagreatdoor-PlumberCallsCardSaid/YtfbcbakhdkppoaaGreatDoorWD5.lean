/-
 What the statements of this seat hang on,part 5: So Ms Fns Te Ch Oa ShCt LCt ShFi LFi.
-/
import Derived.Test.YtfbcbakhdkppoaaGreatDoorWD4
import Derived.OpenShut
import Derived.Sort.Statements
import Derived.Test.YtfbcbakhdkppoaaGreatDoorProg
import Derived.KernelRfl
import Derived.Test.YtfbcbakhdkppoaaGreatDoorRows
import Derived.LaidMore
import Derived.LaidSub
import Derived.Lib.LaidTab
import Derived.Stop.Joined
import Derived.Lay
import Derived.MakeChecks
import Derived.Shelf.Strings.Count
import Derived.Ground.NamesProg
import Derived.Lib.Agree
import Derived.Shelf.Strconv.Itoa4
namespace Go
namespace Rt
open Go.RowKit Go.ChangeShapes Go.WideShapes Go.Deep
def FitL{S:Nat->Type}(f:(t:Ty)->Den S t->Prop):(ts:tL Ty)->HL S ts->Prop | [],_=>True|t::ts,h=>f t h.1/\FitL f ts h.2
def FitC(E:TE):Nat->(t:Ty)->Den E.S t->Prop|_,.int k,x=>InK k x|_,.bool,_=>True|_,.str,s=>s.length<=9223372036854775807 | 0,.sl _,xs=>xs.length<=9223372036854775807|k+1,.sl e,xs=>xs.length<=9223372036854775807/\∀x∈xs,FitL (FitC E k) (E.flat e) (E.fl e x)|_,.st _,_=>True
def Fit(E:TE)(t:Ty)(x:Den E.S t):Prop:=∀k,FitL (FitC E k) (E.flat t) (E.fl t x)
theorem FitL.app{S:Nat->Type}{f:(t:Ty)->Den S t->Prop}:∀{ts j:tL Ty} {h:HL S ts} {k:HL S j},FitL f ts h->FitL f j k->FitL f (ts++j) (hap h k)
 | [],_,_,_,_,p=>p
 | _::_,_,_,_,q,p=>⟨q.1,q.2.app p⟩
section
variable{E:TE}{z:Fz}
theorem RD.app:∀{ts f:tL Ty} {h:HL E.S ts} {k:HL E.S f} {vs j:tL tW},RD E z ts h vs->RD E z f k j->RD E z (ts++f) (hap h k) (vs++j)
 | [],_,_,_,_,_,q,p=>by rw[q.nil_inv];exact p
 | t::ts,f,h,k,vs,j,q,p=>by
  obtain⟨v,vs',rfl,u,s⟩:=q.uncons;exact RD.cons u (s.app p)
def prefB(ts f:tL Ty):tV:=decide (f.take ts.length=ts)
theorem prefB_eq{ts f:tL Ty}(h:prefB ts f=true):f=ts++f.drop ts.length:=by
 unfold prefB at h;have p:=of_decide_eq_true h;have j:=zj ts.length f;rw[p]at j;exact j.symm
def lE_(P:tT)(E:TE)(f:tN->Ty->tV)(total:Nat):Nat->tL Field->tL Ty->tV
 | off,[],ts=>Nat.beq off total&&ts.isEmpty
 | off,g::gs,ts=>match E.ty g.type with
  | some t=>Nat.beq g.offset off&&(f g.type t&&(prefB (E.flat t) ts&&lE_ P E f total (off+P.cellsOf g.type) gs (ts.drop (E.flat t).length)))
  | none=>false
def arrTy(E:TE)(t:Ty):Nat->tL Ty->tV | 0,ts=>ts.isEmpty|n+1,ts=>prefB (E.flat t) ts&&arrTy E t n (ts.drop (E.flat t).length)
def tyOK(P:tT)(E:TE):Nat->tN->Ty->tV
 | 0,_,_=>false
 | n+1,T,t=>match P.underlying T,t with
  | some (.int k),.int f=>decide (k=f)
  | some .bool,.bool=>true
  | some .string,.str=>true
  | some (.slice e),.sl t=>tyOK P E n e t&&Nat.beq (P.cellsOf e) (E.size t)
  | some (.struct fs),.st m=>lE_ P E (tyOK P E n) (P.cellsOf T) 0 fs.toList (E.cs m)
  | some (.array c e),.st m=>match E.ty e with
   | some t=>tyOK P E n e t&&(Nat.beq (c*P.cellsOf e) (P.cellsOf T)&&arrTy E t c (E.cs m))
   | none=>false
  | _,_=>false
end
section
variable{H:Type}{enc:tN×tW->H}{P:tT}{E:TE}{w:tS}{spare:Nat->tV}{held:tV}
def eX_(w:tS):Fz:=⟨λk=>k<w.heap.size,w⟩
def Opens(E:TE)(w:tS)(ts:tL Ty)(cs:tL tW):Prop:=∃h:HL E.S ts,RD E (eX_ w) ts h cs/\∀k,FitL (FitC E k) ts h
theorem Opens.app{ts f:tL Ty}{cs ds:tL tW}(x:Opens E w ts cs)(u:Opens E w f ds):Opens E w (ts++f) (cs++ds):=by
 obtain⟨h,s,q⟩:=x;obtain⟨k,p,j⟩:=u;exact⟨hap h k,s.app p,λn=>(q n).app (j n)⟩
theorem oS_{f:tN->Ty->tV}{total m:Nat}(s:∀T t cs (x:DataW H×tL MemPlace),f T t=true->DataW.trod enc P w 0 spare held m T cs=some x->Opens E w (E.flat t) cs){cs:tL tW}(j:cs.length=total) :
  ∀{gs:tL Field} {off:Nat} {ts:tL Ty} {xs:tL (DataW H×tL MemPlace)},lE_ P E f total off gs ts=true->xs.length=gs.length ->
   (∀(i:Nat) (g:Field),gs[i]? = some g->DataW.trod enc P w 0 spare held m g.type ((cs.drop g.offset).take (P.cellsOf g.type))=xs[i]?)->Opens E w ts (cs.drop off)
 | [],off,ts,xs,h,_,_=>by
  simp only[lE_,qAn]at h;obtain rfl:off=total:=qNb h.1;obtain rfl:ts=[]:=by simpa using h.2
  rw[zi (by omega)];exact⟨(),.nil,λ_=>trivial⟩
 | g::gs,off,ts,xs,h,q,p=>by
  simp only[lE_]at h;split at h
  .rename_i t y;simp only[qAn]at h;obtain⟨O,M,J,G⟩:=h;obtain rfl:g.offset=off:=qNb O;cases xs with
   | nil=>simp at q
   | cons x xs =>
    have u:=p 0 g rfl;simp only[jt]at u;have F:=s _ _ _ _ M u;have D:=oS_ s j G (by simpa using q) (λi g' C=>by simpa using p (i+1) g' (by simpa using C));have:=F.app D;rw[←prefB_eq J,←zz,zj]at this;exact this
  .cases h
theorem arr_opens{c m e n:Nat}{t:Ty}{cs:tL tW}(f:cs.length=n*c)(j:∀i,i<n->Opens E w (E.flat t) ((cs.drop (i*c)).take c)):∀{k:Nat} {ts:tL Ty},k<=n->arrTy E t k ts=true->Opens E w ts (cs.drop ((n-k)*c))
 | 0,ts,_,h=>by
  obtain rfl:ts=[]:=by simpa[arrTy]using h
  rw[zi (by rw[f,Nat.sub_zero];exact qE _)];exact⟨(),.nil,λ_=>trivial⟩
 | k+1,ts,u,h=>by
  simp only[arrTy,qAn]at h;have q:=j (n-(k+1)) (by omega);have p:=arr_opens (m:=m) (e:=e) f j (k:=k) (by omega) h.2;have:=q.app p;rw[←prefB_eq h.1]at this;have s:(n-k)*c=(n-(k+1))*c+c:=by
   rw[show n-k=n-(k+1)+1 by omega,jc]
  rw[s,←zz,zj]at this;exact this
theorem kO_:∀{n fuel:Nat} {T:tN} {t:Ty} {cs:tL tW} {x:DataW H×tL MemPlace},tyOK P E n T t=true->DataW.trod enc P w 0 spare held fuel T cs=some x->Opens E w (E.flat t) cs
 | 0,_,_,_,_,_,h,_=>by cases h
 | n + 1,fuel,T,t,cs,x,h,Z=>by
  simp only[tyOK]at h;split at h
  .rename_i k k' p;obtain rfl:=of_decide_eq_true h;obtain⟨m,rfl,rfl,hw⟩:=DataW.trod_int p Z;exact⟨(m,()),.int .nil,λ_=>⟨by simpa[Lit.wf,InK,FitC]using hw,trivial⟩⟩
  .rename_i p;obtain⟨b,rfl,rfl⟩:=DataW.trod_bool p Z;exact⟨(b,()),.bool .nil,λk=>⟨by cases k<;>trivial,trivial⟩⟩
  .rename_i p;obtain⟨s,rfl,rfl,hs⟩:=DataW.trod_string p Z;refine⟨(s.data.toList,()),?_,λk=>⟨?_,trivial⟩⟩
   .have:Value.string s=S s.data.toList:=by simp[S]
    rw[this];exact .str .nil
   .have e:FitC E k .str s.data.toList=(s.data.toList.length<=9223372036854775807):=by cases k<;>rfl
    show FitC E k .str s.data.toList;rw[e];have:s.data.toList.length=s.size:=by rw[qq];rfl
    rw[this];exact hs
  .rename_i e t p;simp only[qAn]at h;have hC:P.cellsOf e=E.size t:=qNb h.2;rcases open_slice p Z with⟨rfl,_⟩|⟨a,len,cap,m,q,D,Pl,rfl,_,hl,hm,ZY,C,hi⟩
   .exact⟨([],()),.sl (rows:=[]) (SlF.nil _ _ _ _) (qE _) (λi x r h=>by simp at h) .nil,λk=>⟨by cases k<;>simp[FitC],trivial⟩⟩
   .have ZT:len<=m:=by rw[ZY];split<;>omega
    have hc:0<E.size t:=E.size_pos t
    let row:Nat->tL tW:=λi=>(w.cells? 0 (a.add (i*E.size t)) (E.size t)).getD []
    have G:∀i,i<len->w.cells? 0 (a.add (i*E.size t)) (E.size t)=some (row i)/\Opens E w (E.flat t) (row i):=λi J=>by
     obtain⟨cs',M,y⟩:=hi i (by omega);rw[hC]at M;simp only[row,M,zu];exact⟨trivial,kO_ h.1 y⟩
    have O:∀j,j<=len->∃xs:tL (Den E.S t),xs.length=j/\∀i x,xs[i]? = some x->RD E (eX_ w) (E.flat t) (E.fl t x) (row i)/\∀k,FitL (FitC E k) (E.flat t) (E.fl t x):=by
     intro j
     induction j with
     | zero=>intro _;exact⟨[],rfl,λi x h=>by simp at h⟩
     | succ j ih =>
      intro hj;obtain⟨xs,M,y⟩:=ih (by omega);obtain⟨hh,h3,h4⟩:=(G j (by omega)).2;refine⟨xs++[E.ufl t hh],by simp[M],λi x C => ?_⟩;rw[List.getElem?_append]at C;split at C
      .exact y i x C
      .rename_i ZS;have ZW:i=j:=by
        have:i-xs.length<1:=by
         rcases qR (i-xs.length) 1 with h5|h5
         .exact h5
         .rw[qe (by simpa using h5)]at C;cases C
        omega
       subst ZW;rw[M,jd]at C;simp only[jt,qOi]at C;subst C;rw[E.fl_ufl];exact⟨h3,h4⟩
    obtain⟨xs,f,O⟩:=O len (qE _);have hr:∀(i:Nat) x r,xs[i]? = some x->((List.range len).map row)[i]? = some r->RD E (eX_ w) (E.flat t) (E.fl t x) r:=λi x r M y=>by
     have ZX:i<len:=by rw[←f];exact(qj.1 M).1
     rw[zF,List.getElem?_range ZX]at y;simp only[zn,qOi]at y;subst y;exact(O i x M).1
    refine⟨(xs,()),?_,λk=>⟨?_,trivial⟩⟩
    .have hs:SlF (eX_ w).F (E.size t) (some a) xs.length ((List.range len).map row) (eX_ w).w:=by
      refine⟨by simp[f],λhn => ?_⟩;obtain⟨b,off,spot⟩:=a;rw[f]at hn;have g0:=(World.cells?_some (G 0 hn).1).2;have V:=g0.2 0 hc;obtain⟨c0,ZV⟩:∃c0,(row 0)[0]? = some c0:=⟨(row 0)[0]'(by rw[g0.1];exact hc),qY _⟩;rw[ZV]at V;have U:spot=none:=by simpa[Addr.add]using World.cell?_spot V
      subst U;refine⟨b,off,rfl,?_,λi r hr => ?_⟩
      .have hb:((Addr.add ⟨b,off,none⟩ (0*E.size t)).add 0).block=b:=by rw[Addr.add_mk,Addr.add_mk]
       unfold World.cell? at V;split at V
       .rename_i heap _ _ hh;rw[hb]at hh;show b<w.heap.size;rcases qR b w.heap.size with h'|h'
        .exact h'
        .rw[zJ h']at hh;cases hh
       .cases V
      .rw[zF]at hr;by_cases J:i<len
       .rw[List.getElem?_range J]at hr;simp only[zn,qOi]at hr;subst hr;obtain⟨_,y,h3⟩:=World.cells?_some (G i J).1;refine⟨y,λj u p => ?_⟩;have hj:j<E.size t:=by rw[←y];exact(qj.1 p).1
        have:=h3 j hj;rw[Addr.add_mk,Addr.add_mk]at this;show w.cell? _=_;rw[this];exact p
       .rw[qe (by simp;omega)]at hr;cases hr
     have:=RD.sl (E:=E) (z:=eX_ w) (e:=t) (xs:=xs) (cap:=cap) (ts:=[]) (h:=()) hs (by rw[f];exact hl) hr .nil;rw[f]at this;exact this
    .have hb:xs.length<=9223372036854775807:=by unfold maxLen at hm;omega
     cases k with
     | zero=>exact hb
     | succ k =>
      refine⟨hb,λx C => ?_⟩;obtain⟨i,J⟩:=jW.1 C;exact(O i x J).2 k
  .rename_i fs m p;obtain⟨xs,q,_,rfl,Y,f,hf⟩:=DataW.trod_struct p Z;have:=oS_ (λT t cs x hk ht=>kO_ (n:=n) hk ht) Y h (by simpa using f) (λi g V=>hf i g (by simpa using V));rw[zO]at this;exact this
  .rename_i c e m p;split at h
   .rename_i t ZU;simp only[qAn]at h;obtain⟨M,y,h3⟩:=h;obtain⟨xs,q,_,rfl,Y,f,hf⟩:=DataW.trod_array p Z;have ZZ:cs.length=c*P.cellsOf e:=by rw[Y];exact(qNb y).symm
    have:=arr_opens (c:=P.cellsOf e) (m:=0) (e:=0) (t:=t) ZZ (λi hi=>by
     have:=hf i hi;rw[qY (by omega)]at this;exact kO_ M this) (qE c) h3
    rw[jd,Nat.zero_mul,zO]at this;exact this
   .cases h
  .cases h
theorem open_arg{r:Reach}{b0 n:Nat}{T:tN}{t:Ty}{v:tW}{d:DataW H}{ps:tL MemPlace}(q:tyOK P E n T t=true)(p:Value.okWide P w r b0 T v)(h:DataW.Trod enc P w 0 spare held T v d ps) :
  ∃x:Den E.S t,(∃y,asV E t (E.cells t x)=some y/\∀(g:Ga),R1 P E (eX_ w) g y v)/\Fit E t x:=by
 obtain⟨fuel,F⟩:=h;obtain⟨u,M,J⟩:=kO_ q F;refine⟨E.ufl t u,?_,λk=>by rw[E.fl_ufl];exact J k⟩;have f:RD E (eX_ w) (E.flat t) (E.fl t (E.ufl t u)) v.cells.toList:=by rw[E.fl_ufl];exact M
 have s:RT E (eX_ w) t (E.ufl t u) v:=by
  cases n with
  | zero=>cases q
  | succ n =>
   simp only[tyOK]at q;split at q
   .rename_i k U j;obtain⟨m,rfl⟩:=okWide_int j p;exact f
   .rename_i j;obtain⟨m,rfl⟩:=okWide_bool j p;exact f
   .rename_i j;obtain⟨m,rfl⟩:=okWide_string j p;exact f
   .rename_i e t j;obtain⟨a,len,cap,rfl⟩:=okWide_slice j p;exact f
   .rename_i fs m j;obtain⟨cs,rfl,_⟩:=okWide_struct j p;exact⟨cs.toList,by rw[zN],f⟩
   .rename_i c e m j;simp only[Value.okWide,j]at p;obtain⟨cs,rfl,_⟩:=p;exact⟨cs.toList,by rw[zN],f⟩
   .cases q
 obtain⟨y,D,V⟩:=mT_ (P:=P) s (λ_ => .none);refine⟨y,D,λg => ?_⟩;obtain⟨O,C,G⟩:=mT_ (P:=P) s g;rw[D]at C;obtain rfl:=qSj C;exact G
theorem law_of_con{f:FuncId}{ps:tL Pm}{F:PA E ps->tO (Tp E.S (Rs.ts [(.bool,[])]++ba_ ps))}{ali:tV}(O:(ag_ E ps [(.bool,[])] ali F).OK P E f)(M:kE_ ps=false){a:PA E ps}{y:Tp E.S (Rs.ts [(.bool,[])]++ba_ ps)}(U:F a=some y)
  (J:(hfst (Rs.ts [(.bool,[])]) (ba_ ps) (b6_ _ y)).1=true) {svs:tL (V1 E)} (s:b0_ E ps a 0=some svs) {vs:tL tW} (q:All2 (R1 P E (eX_ w) λ_=>none) svs vs) (D:Glo E (eX_ w)) :
  Ret P f vs.toArray w λv w'=>v = .bool true/\Below w.heap.size w w':=by
 obtain⟨rh,bh,x,h⟩:=O tV a (λrh _=>some rh.1) true (by
  show(F a).bind _=_;rw[U];exact qa some J)
 have C:(eX_ w).In w:=λk x=>⟨x,rfl⟩
 refine(h w (eX_ w) (λ_=>none) [] svs vs s (by
  show HR P E [] (eX_ w).F w w (eX_ w) (λ_=>none) (upH (λ_=>none) (bn_ E ps a 0));rw[iu_ M];exact HR.nothing C D _) (λ_ _=>rfl) q).mono λv w' ⟨z',g',svr,_,_,_,p,j,G⟩ => ?_
 refine⟨?_,G.chg.below⟩;have u:rh.1=true:=qSj x;have e:svr=[.one (.dt .bool rh.1)]:=(qSj p).symm;subst e;rw[u]at j;exact SV.bool_ok rfl j
end
end Rt
namespace Rt
def insW{α:Type}(le:α->α->tV)(x:α):tL α->tL α | []=>[x]|y::l=>bif le x y then x::y::l else y::insW le x l
def isortN{α:Type}(le:α->α->tV):tL α->tL α | []=>[]|x::l=>insW le x (isortN le l)
def leN{α:Type}(key:α->tX)(x y:α):tV := !(Op.bytesLess (key y) (key x))
def lh_{α:Type}(key:α->tX)(xs:tL α):tO (tL α):=if xs.length<4611686018427387904 then(if(xs.map key).Nodup then some (isortN (leN key) xs)else none)else none
theorem l2_{α:Type}{R:α->α->Prop}:∀{l1 l2:tL α},l1.Perm l2->l1.Pairwise R->l2.Pairwise R->(∀a,a∈l1->∀b,b∈l1->R a b->R b a->a=b)->l1=l2
 | [],l2,f,_,_,_=>f.nil_eq
 | a::l1,[],f,_,_,_=>absurd f.length_eq (by simp)
 | a::l1,b::l2,f,O,M,D=>by
  have p:=qz.1 O;have j:=qz.1 M;have s:a=b:=by
   by_cases e:a=b
   .exact e
   have J:a∈b::l2:=f.subset qT;have C:b∈a::l1:=f.symm.subset qT;rcases qD.1 J with h|u
   .exact h
   rcases qD.1 C with h|q
   .exact h.symm
   exact D a qT b C (p.1 b q) (j.1 a u)
  subst s;rw[l2_ f.cons_inv p.2 j.2 λx G y F=>D x (qG _ G) y (qG _ F)]
section
variable{α:Type}{le:α->α->tV}
theorem oT_(x:α):∀(l:tL α),(insW le x l).Perm (x::l)
 | []=>List.Perm.refl _
 | y::l=>by
  unfold insW;cases le x y with
  | true=>exact List.Perm.refl _
  | false=>exact((oT_ x l).cons y).trans (List.Perm.swap x y l)
theorem pZ_:∀(l:tL α),(isortN le l).Perm l
 | []=>List.Perm.refl _
 | x::l=>(oT_ x _).trans ((pZ_ l).cons x)
theorem p0_(q:∀a b c,le a b=true->le b c=true->le a c=true)(s:∀a b,le a b=true\/le b a=true)(x:α):∀(l:tL α),l.Pairwise (λa b=>le a b=true)->(insW le x l).Pairwise (λa b=>le a b=true)
 | [],_=>by simp[insW]
 | y::l,h=>by
  obtain⟨u,C⟩:=qz.1 h;unfold insW;cases p:le x y with
  | true =>
   refine qz.2 ⟨λz f => ?_,h⟩;rcases qD.1 f with rfl|f
   .exact p
   .exact q _ _ _ p (u z f)
  | false =>
   refine qz.2 ⟨λz f => ?_,p0_ q s x l C⟩;rcases qD.1 ((oT_ x l).subset f)with rfl|f
   .rcases s z y with j|j
    .rw[p]at j;cases j
    .exact j
   .exact u z f
theorem ok_(f:∀a b c,le a b=true->le b c=true->le a c=true)(h:∀a b,le a b=true\/le b a=true):∀(l:tL α),(isortN le l).Pairwise (λa b=>le a b=true)
 | []=>List.Pairwise.nil
 | x::l=>p0_ f h x _ (ok_ f h l)
end
theorem iO_:∀(a:tX),Op.bytesLess a a=false
 | []=>rfl
 | a::l=>by simp[Op.bytesLess,iO_ l,UInt8.lt_irrefl]
theorem hn_:∀(a b c:tX),Op.bytesLess a b=true->Op.bytesLess b c=true->Op.bytesLess a c=true
 | a,b,[],f,h=>by cases b<;>simp[Op.bytesLess]at h
 | [],_,_::_,_,_=>rfl
 | a::x,[],c::z,f,_=>by simp[Op.bytesLess]at f
 | a::x,b::y,c::z,f,h=>by
  simp only[Op.bytesLess,zh,qDe,qAn,qn]at *
  rcases f with f|⟨rfl,f⟩<;>rcases h with h|⟨rfl,h⟩
  .exact .inl (UInt8.lt_trans f h)
  .exact .inl f
  .exact .inl h
  .exact .inr ⟨rfl,hn_ x y z f h⟩
theorem my_:∀(a b:tX),Op.bytesLess a b=false->Op.bytesLess b a=false->a=b
 | [],[],_,_=>rfl
 | [],b::y,h,_=>by simp[Op.bytesLess]at h
 | a::x,[],_,f=>by simp[Op.bytesLess]at f
 | a::x,b::y,h,f=>by
  simp only[Op.bytesLess,zS,qDf,Bool.and_eq_false_imp,qn]at *
  have j:a=b:=UInt8.le_antisymm (UInt8.not_lt.1 f.1) (UInt8.not_lt.1 h.1);subst j;rw[my_ x y (h.2 rfl) (f.2 rfl)]
theorem leN_trans{α:Type}(key:α->tX)(a b c:α)(p:leN key a b=true)(f:leN key b c=true):leN key a c=true:=by
 unfold leN at *
 simp only[qo]at *
 cases h:Op.bytesLess (key c) (key a)with
 | false=>rfl
 | true =>
  cases j:Op.bytesLess (key a) (key b)with
  | true=>rw[hn_ _ _ _ h j]at f;cases f
  | false =>
   rw[my_ _ _ j p]at h;rw[h]at f;cases f
theorem leN_total{α:Type}(key:α->tX)(a b:α):leN key a b=true\/leN key b a=true:=by
 unfold leN;simp only[qo];cases h:Op.bytesLess (key b) (key a)with
 | false=>exact .inl rfl
 | true =>
  right
  cases f:Op.bytesLess (key a) (key b)with
  | false=>rfl
  | true=>have:=hn_ _ _ _ h f;rw[iO_]at this;cases this
theorem keyN_inj{α:Type}{key:α->tX}:∀{l:tL α},(l.map key).Nodup->∀a,a∈l->∀b,b∈l->key a=key b->a=b
 | [],_,a,p,_,_,_=>by cases p
 | x::l,h,a,p,b,s,e=>by
  rw[zH]at h;obtain⟨q,u⟩:=List.nodup_cons.1 h;rcases qD.1 p with j|j<;>rcases qD.1 s with f|f
  .rw[j,f]
  .rw[j]at e;exact absurd (jJ.2 ⟨b,f,e.symm⟩) q
  .rw[f]at e;exact absurd (jJ.2 ⟨a,j,e⟩) q
  .exact keyN_inj u a j b f e
theorem sortByN_eq{α:Type}{key:α->tX}{xs q zs:tL α}(h:lh_ key xs=some q)(f:zs.Perm xs)(s:zs.Pairwise λa b=>leN key a b=true):zs=q:=by
 unfold lh_ at h;split at h
 .split at h
  .rename_i u;obtain rfl:=qSj h;refine l2_ (f.trans (pZ_ xs).symm) s (ok_ (leN_trans key) (leN_total key) xs) λa y b x p j => ?_
   refine keyN_inj u a (f.subset y) b (f.subset x) ?_;unfold leN at p j;simp only[qo]at p j;exact my_ _ _ j p
  .cases h
 .cases h
end Rt
end Go
namespace Go.Proofs.YtfbcbakhdkppoaaGreatDoor
open Go.Rt Go.RowKit
noncomputable section
structure Xf where (Xp Xs Yq:tX)
deriving DecidableEq,Inhabited
structure Xw where (Xb:tL Xf)
deriving DecidableEq,Inhabited
structure Xx where (Xg Xr:tX) (Xi:tV)
deriving DecidableEq,Inhabited
structure Xq where (Xu Xe Yz Xt:tX) (Xm:tL Xx) (Xl:tX)
deriving DecidableEq,Inhabited
structure Xy where (Xg:tX) (Xn:tL Xq) (Xc:Int)
deriving DecidableEq,Inhabited
structure Xk where (Xd:tL Xw) (Xj:tL Xy)
deriving DecidableEq,Inhabited
structure Xz where (Op_ C_:Int) (Yh:tX) (Ys:tV) (X_ Y_:Int)
deriving DecidableEq,Inhabited
structure Xh where (Yy:tL Xz) (Yb:Int)
deriving DecidableEq,Inhabited
structure regex_parser where (s_:tX) (at_ groups_:Int) (code_:tL Xz) (bad_:Int)
deriving DecidableEq,Inhabited
structure plumb_state where (m_:Xq) (text_:tX) (caps_:tL Int) (port_:tX)
deriving DecidableEq,Inhabited
structure regex_thread where (at_:Int) (caps_:tL Int)
deriving DecidableEq,Inhabited
structure regex_machine where (r_:Xh) (s_:tX) (pos_:Int) (visited_:tL Int) (list_:tL regex_thread)
deriving DecidableEq,Inhabited
structure Xv where (L_:tL Xz) (At_ N_:Int) (Yv:tV)
deriving DecidableEq,Inhabited
structure Yf where (Yn Id_ Yg N_:Int) (Xl:tX) (Yp:Xq)
deriving DecidableEq,Inhabited
structure Yj where (N_:Int) (S_:tX) (Ya:tV) (Zz:Int)
deriving DecidableEq,Inhabited
structure Yw where (S_:tX) (At_:tL Int)
deriving DecidableEq,Inhabited
structure Yx where (K_:Int) (At_:tL Int)
deriving DecidableEq,Inhabited
structure Xa where (L_:tL Yx) (Yk:tL tV)
deriving DecidableEq,Inhabited
structure Xo where (At_:tL Int) (Zv Zw:Int) (Ok_:tV)
deriving DecidableEq,Inhabited
structure Zk where (Xt Yt Yl:Int)
deriving DecidableEq,Inhabited
structure Yu where (Xt Zq:Int) (Ym:Zk) (Ye Yd Yr Yc:Int) (Xg Zx Zj Yi:tX)
deriving DecidableEq,Inhabited
structure Yo where (a0_ a1_ a2_ a3_ a4_ a5_ a6_ a7_ a8_ a9_ Zy Zh Zg Zf Zm Zn Zp Zb Zc Zd:Int)
deriving DecidableEq,Inhabited
def globP:Yo:=Yo.mk 1 10 100 1000 10000 100000 1000000 10000000 100000000 1000000000 10000000000 100000000000 1000000000000 10000000000000 100000000000000 1000000000000000 10000000000000000 100000000000000000 1000000000000000000 10000000000000000000
def e6_(x0:tX)(h:Int):tO (Step Int (Out Unit tV)):=(bif decide (h<(x0.length:Int))then(ap_ x0 h).bind λf=>(bif((((decide (f<97)||decide (f>122))&&(decide (f<48)||decide (f>57)))&&(f != 45))&&(f != 95))then some (.done (.ret (false)))else some (.next (w64 (h+1))))else some (.done (.fall ())))
def fg_(x0:tX):tO tV:=(bif((x0==[])||decide ((x0.length:Int)>32))then some true else(ap_ x0 0).bind λy1=>some (decide (y1<97)) ).bind λ(j:tV)=>(bif j then some true else(ap_ x0 0).bind λh=>some (decide (h>122)) ).bind λ(y4:tV)=>(bif((y4||(x0==[114,117,108,101,115]))||(x0==[115,101,110,100]))then some (false)else(af_ (e6_ x0) BIG 0).bind λf=>match f with | .ret p=>some p | .fall _=>some (true))
def cq_(x0:tL tX)(x1:tX)(f:Int):tO (Step Int (Out Unit Int)):=(bif decide (f<(x0.length:Int))then(ah_ x0 f).bind λh=>(bif(x1==h)then some (.done (.ret (f)))else some (.next (w64 (f+1))))else some (.done (.fall ())))
def dY_(x0:tL tX)(x1:tX):tO Int:=(af_ (cq_ x0 x1) BIG 0).bind λf=>match f with | .ret h=>some h | .fall _=>some (-1)
def aZ_(x0:tL tX)(x1:tX):tO tV:=(dY_ x0 x1).bind λy1=>some (decide (y1>=0))
def sr_(x0:tL tX)(f:Int×(tL Xw)×(tL Xy)):tO (Step (Int×(tL Xw)×(tL Xy)) (Out ((tL Xw)×(tL Xy)) (Xk×Int))):=(bif decide (f.1<(x0.length:Int))then(ah_ x0 f.1).bind λh=>(fg_ h).bind λp=>(bif(!p)then some (.done (.ret ((Xk.mk [] []),6)))else(aP_ x0 0 f.1).bind λj=>(aZ_ j h).bind λy9=>(bif y9 then some (.done (.ret ((Xk.mk [] []),7)))else(room 48 f.2.2 [(Xy.mk h [] 0)]).bind λ(y10:tL Xy)=>some (.next ((w64 (f.1+1)),f.2.1,y10))))else some (.done (.fall (f.2.1,f.2.2))))
def p1_(x0:tL tX):tO (Xk×Int):=(bif decide ((x0.length:Int)>16)then some ((Xk.mk [] []),22)else(af_ (sr_ x0) BIG (0,[],[])).bind λ(h:Out ((tL Xw)×(tL Xy)) (Xk×Int))=>match h with | .ret p=>some p | .fall j=>(lh_ (λ(x:Xy)=>x.Xg) j.2).bind λf=>some ((Xk.mk j.1 f),0))
def gM_(x0:tL Xf):tO (tL Xf):=(nilB x0 λ(f:tV)=>(bif f then some ([])else(room 48 ([]:tL Xf) x0).bind λy1=>some (y1)))
def bV_(x0:tL Xf):tO (tL Xf):=room 48 ([]:tL Xf) x0
theorem gN_:gM_=bV_:=funext λ_=>ou_
def ja_(x0:tL Xx):tO (tL Xx):=(nilB x0 λ(f:tV)=>(bif f then some ([])else(room 40 ([]:tL Xx) x0).bind λy1=>some (y1)))
def aN_(x0:tL Xx):tO (tL Xx):=room 40 ([]:tL Xx) x0
theorem jb_:ja_=aN_:=funext λ_=>ou_
def dg_(x0:Xq):tO Xq:=(aN_ x0.Xm).bind λy1=>some ({x0 with Xm:=y1})
def cM_(x0:Xk)(f:Int×(tL Xw)×(tL Xy)):tO (Step (Int×(tL Xw)×(tL Xy)) ((tL Xw)×(tL Xy))):=(bif decide (f.1<(x0.Xd.length:Int))then(ah_ x0.Xd f.1).bind λy4=>(bV_ y4.Xb).bind λy5=>(room 24 f.2.1 [(Xw.mk y5)]).bind λh=>some (.next ((w64 (f.1+1)),h,f.2.2))else some (.done (f.2.1,f.2.2)))
def dj_(h:Xy)(f:Int×tX×Int×(tL Xq)):tO (Step (Int×tX×Int×(tL Xq)) (tX×Int×(tL Xq))):=(bif decide (f.1<(h.Xn.length:Int))then(ah_ h.Xn f.1).bind λq=>(dg_ q).bind λp=>(room 104 f.2.2.2 [p]).bind λj=>some (.next ((w64 (f.1+1)),f.2.1,f.2.2.1,j))else some (.done (f.2.1,f.2.2.1,f.2.2.2)))
def ee_(x0:Xk)(h:Int×(tL Xw)×(tL Xy)):tO (Step (Int×(tL Xw)×(tL Xy)) ((tL Xw)×(tL Xy))):=(bif decide (h.1<(x0.Xj.length:Int))then(ah_ x0.Xj h.1).bind λf=>(af_ (dj_ f) BIG (0,f.Xg,f.Xc,[])).bind λ(p:tX×Int×(tL Xq))=>(room 48 h.2.2 [(Xy.mk p.1 p.2.2 p.2.1)]).bind λj=>some (.next ((w64 (h.1+1)),h.2.1,j))else some (.done (h.2.1,h.2.2)))
def co_(x0:Xk):tO Xk:=(af_ (cM_ x0) BIG (0,[],[])).bind λ(h:(tL Xw)×(tL Xy))=>(af_ (ee_ x0) BIG (0,h.1,h.2)).bind λf=>some (Xk.mk f.1 f.2)
def cN_(x0:Xk)(x1:Int):tO tV:=some (decide (x1>=1)&&decide (x1<(w64 (4+(x0.Xj.length:Int)))))
def c6_(x0:tX)(x1:tX):tO tV:=(bif decide ((x0.length:Int)>=(x1.length:Int))then(aP_ x0 (w64 ((x0.length:Int)-(x1.length:Int))) (x0.length:Int)).bind λy1=>some (y1==x1)else some false).bind λ(f:tV)=>some (f)
def cZ_(x0:tX)(x1:tX):tO tX:=(c6_ x0 x1).bind λy1=>(bif y1 then(aP_ x0 0 (w64 ((x0.length:Int)-(x1.length:Int)))).bind λf=>some (f)else some (x0))
def strings_TrimSuffix(x0:tX)(x1:tX):tO tX:=(cZ_ x0 x1).bind λy1=>some (y1)
def l3_(_:tX)(_:Int):tO (tL tX):=none
def strings_Index(x0:tX)(x1:tX):tO Int:=(stringslite_Index x0 x1).bind λy1=>some (y1)
def bg_(p:Int)(x0:tX)(x1:tX)(x2:Int)(f:tX×Int×(tL tX)):tO (Step (tX×Int×(tL tX)) (tX×Int×(tL tX))):=(bif decide (f.2.1<(w64 ((cz_ p (w64 ((x0.length:Int)+1)))-1)))then(strings_Index f.1 x1).bind λh=>(bif decide (h<0)then some (.done (f.1,f.2.1,f.2.2))else(aP_ f.1 0 (w64 (h+x2))).bind λy9=>(ah_ f.2.2 f.2.1).bind λ_=>(aP_ f.1 (w64 (h+(x1.length:Int))) (f.1.length:Int)).bind λj=>some (.next (j,(w64 (f.2.1+1)),(f.2.2.set f.2.1.toNat y9))))else some (.done (f.1,f.2.1,f.2.2)))
def strings_genSplit(x0:tX)(x1:tX)(x2:Int)(x3:Int):tO (tL tX):=(bif(x3==0)then some ([])else(bif(x1==[])then(l3_ x0 x3).bind λy1=>some (y1)else( (bif decide (x3<0)then(strings_Count x0 x1).bind λj=>some (w64 (j+1))else some x3) ).bind λ(f:Int)=>(et_ 16 ([]:tX) (cz_ f (w64 ((x0.length:Int)+1)))).bind λh=>(af_ (bg_ f x0 x1 x2) BIG (x0,0,h)).bind λo2=>(ah_ o2.2.2 o2.2.1).bind λ_=>(aP_ (o2.2.2.set o2.2.1.toNat o2.1) 0 (w64 (o2.2.1+1))).bind λ_=>some ((o2.2.2.set o2.2.1.toNat o2.1).take (w64 (o2.2.1+1)).toNat)))
def strings_Split(x0:tX)(x1:tX):tO (tL tX):=(strings_genSplit x0 x1 0 (-1)).bind λy1=>some (y1)
def ho_(x0:tX):tO (tL tX):=(bif(x0==[])then some ([])else(strings_TrimSuffix x0 [10]).bind λy1=>(strings_Split y1 [10]).bind λf=>some (f))
def bJ_(x0:tX)(x1:tX):tO tV:=(bif decide ((x0.length:Int)>=(x1.length:Int))then(aP_ x0 0 (x1.length:Int)).bind λy1=>some (y1==x1)else some false).bind λ(f:tV)=>some (f)
def strings_HasPrefix(x0:tX)(x1:tX):tO tV:=(bJ_ x0 x1).bind λy1=>some (y1)
def eY_(x0:Xw):tO tV:=(bif decide ((x0.Xb.length:Int)>0)then(ah_ x0.Xb (w64 ((x0.Xb.length:Int)-1))).bind λy1=>some (y1.Xp==[112,108,117,109,98])else some false).bind λ(f:tV)=>some (f)
def c7_(x0:tX)(x1:tX):tO (tX×tX×tV):=(stringslite_Index x0 x1).bind λy1=>(bif decide (y1>=0)then(aP_ x0 0 y1).bind λh=>(aP_ x0 (w64 (y1+(x1.length:Int))) (x0.length:Int)).bind λf=>some (h,f,true)else some (x0,[],false))
def strings_Cut(x0:tX)(x1:tX):tO (tX×tX×tV):=(c7_ x0 x1).bind λy1=>some (y1.1,y1.2.1,y1.2.2)
def hO_(x0:tX):tO Xf:=(strings_Cut x0 [32]).bind λy1=>(strings_Cut y1.2.1 [32]).bind λf=>some (Xf.mk y1.1 f.1 f.2.1)
def eZ_(x0:tX):tO (tL tX):=( (bif(x0==[115,114,99])then some (x0==[115,114,99])else(bif(x0==[100,115,116])then some (x0==[100,115,116])else(bif(x0==[119,100,105,114])then some (x0==[119,100,105,114])else(bif(x0==[116,121,112,101])then some (x0==[116,121,112,101])else some (x0==[100,97,116,97]))))) ).bind λ(f:tV)=>(bif f then some ([[105,115],[105,115,110],[109,97,116,99,104,101,115],[115,101,116]])else(bif(x0==[97,116,116,114])then some ([[105,115],[105,115,110],[97,100,100],[100,101,108,101,116,101]])else(bif(x0==[112,108,117,109,98])then some ([[116,111]])else some ([]))))
def strings_Contains(x0:tX)(x1:tX):tO tV:=(strings_Index x0 x1).bind λy1=>some (decide (y1>=0))
def aA_(x0:regex_parser)(x1:Xz):tO (Int×regex_parser):=(room 56 x0.code_ [x1]).bind λy1=>some ((w64 ((y1.length:Int)-1)),{x0 with code_:=y1})
def bE_(x0:regex_parser):tO (Int×tV×regex_parser):=(bif decide (x0.at_>=(x0.s_.length:Int))then some (0,false,x0)else(ap_ x0.s_ x0.at_).bind λy1=>some (y1,true,x0))
def bj_(x0:regex_parser):tO (tV×regex_parser):=some (false,{x0 with bad_:=x0.at_})
def aS_(x0:regex_parser)(x1:Int):tO (tV×regex_parser):=(bE_ x0).bind λy1=>(bif((!y1.2.1)||(y1.1 != x1))then some (false,y1.2.2)else some (true,(regex_parser.mk y1.2.2.s_ (w64 (y1.2.2.at_+1)) y1.2.2.groups_ y1.2.2.code_ y1.2.2.bad_)))
def b1_(f:regex_parser->Int->tO (tV×regex_parser))(x0:regex_parser)(x1:Int):tO (tV×regex_parser):=(bif decide (x0.groups_>=9)then(bj_ x0).bind λy1=>some (y1.1,y1.2)else(aA_ {x0 with at_:=(w64 (x0.at_+1)),groups_:=(w64 (x0.groups_+1))} (Xz.mk 8 0 [] false (w64 (2*(w64 (x0.groups_+1)))) 0)).bind λ(p:Int×regex_parser)=>(f p.2 (w64 (x1+1))).bind λh=>(bif(!h.1)then some (false,h.2)else(aS_ h.2 41).bind λy4=>(bif(!y4.1)then(bj_ y4.2).bind λy5=>some (y5.1,y5.2)else(aA_ y4.2 (Xz.mk 8 0 [] false (w64 ((w64 (2*(w64 (x0.groups_+1))))+1)) 0)).bind λ(j:Int×regex_parser)=>some (true,j.2))))
def c8_(x0:regex_parser):tO (Int×tV×regex_parser):=(bE_ {x0 with at_:=(w64 (x0.at_+1))}).bind λy1=>(bif(!y1.2.1)then(bj_ y1.2.2).bind λf=>some (0,f.1,f.2)else(bif(y1.1==110)then some (10,true,(regex_parser.mk y1.2.2.s_ (w64 (y1.2.2.at_+1)) y1.2.2.groups_ y1.2.2.code_ y1.2.2.bad_))else(bif(y1.1==116)then some (9,true,(regex_parser.mk y1.2.2.s_ (w64 (y1.2.2.at_+1)) y1.2.2.groups_ y1.2.2.code_ y1.2.2.bad_))else some (y1.1,true,(regex_parser.mk y1.2.2.s_ (w64 (y1.2.2.at_+1)) y1.2.2.groups_ y1.2.2.code_ y1.2.2.bad_)))))
def cv_(x0:regex_parser):tO (Int×tV×regex_parser):=(bE_ x0).bind λy1=>(bif(((!y1.2.1)||(y1.1==93))||(y1.1==45))then(bj_ y1.2.2).bind λh=>some (0,h.1,h.2)else(bif(y1.1==92)then(c8_ y1.2.2).bind λf=>some (f.1,f.2.1,f.2.2)else some (y1.1,true,(regex_parser.mk y1.2.2.s_ (w64 (y1.2.2.at_+1)) y1.2.2.groups_ y1.2.2.code_ y1.2.2.bad_))))
def cO_(h:tV×tX×Int×Int×Int×(tL Xz)×Xz):tO (Step (tV×tX×Int×Int×Int×(tL Xz)×Xz) (Out (tX×Int×Int×Int×(tL Xz)×Xz) (tV×regex_parser))):=(bif h.1 then(cv_ (regex_parser.mk h.2.1 h.2.2.1 h.2.2.2.1 h.2.2.2.2.2.1 h.2.2.2.2.1)).bind λu=>(bif(!u.2.1)then some (.done (.ret (false,u.2.2)))else( (aS_ u.2.2 45).bind λs=>(bif s.1 then(cv_ s.2).bind λy9=>(bif(!y9.2.1)then some (.ret (false,y9.2.2))else(bif decide (y9.1<u.1)then(bj_ (regex_parser.mk y9.2.2.s_ (w64 (y9.2.2.at_-1)) y9.2.2.groups_ y9.2.2.code_ y9.2.2.bad_)).bind λy10=>some (.ret (y10.1,y10.2))else some (.fall (y9.1,y9.2.2.s_,y9.2.2.at_,y9.2.2.groups_,y9.2.2.bad_,y9.2.2.code_))))else some (.fall (u.1,s.2.s_,s.2.at_,s.2.groups_,s.2.bad_,s.2.code_))) ).bind λ(G:Out (Int×tX×Int×Int×Int×(tL Xz)) (tV×regex_parser))=>match G with | .ret M=>some (.done (.ret M)) | .fall o2=>(cat h.2.2.2.2.2.2.Yh (bytesS [u.1,o2.1])).bind λD=>some (.next (false,o2.2.1,o2.2.2.1,o2.2.2.2.1,o2.2.2.2.2.1,o2.2.2.2.2.2,(Xz.mk h.2.2.2.2.2.2.Op_ h.2.2.2.2.2.2.C_ D h.2.2.2.2.2.2.Ys h.2.2.2.2.2.2.X_ h.2.2.2.2.2.2.Y_))))else(aS_ (regex_parser.mk h.2.1 h.2.2.1 h.2.2.2.1 h.2.2.2.2.2.1 h.2.2.2.2.1) 93).bind λp=>(bif(!p.1)then(cv_ p.2).bind λq=>(bif(!q.2.1)then some (.done (.ret (false,q.2.2)))else( (aS_ q.2.2 45).bind λj=>(bif j.1 then(cv_ j.2).bind λf=>(bif(!f.2.1)then some (.ret (false,f.2.2))else(bif decide (f.1<q.1)then(bj_ (regex_parser.mk f.2.2.s_ (w64 (f.2.2.at_-1)) f.2.2.groups_ f.2.2.code_ f.2.2.bad_)).bind λy=>some (.ret (y.1,y.2))else some (.fall (f.1,f.2.2.s_,f.2.2.at_,f.2.2.groups_,f.2.2.bad_,f.2.2.code_))))else some (.fall (q.1,j.2.s_,j.2.at_,j.2.groups_,j.2.bad_,j.2.code_))) ).bind λ(F:Out (Int×tX×Int×Int×Int×(tL Xz)) (tV×regex_parser))=>match F with | .ret J=>some (.done (.ret J)) | .fall x=>(cat h.2.2.2.2.2.2.Yh (bytesS [q.1,x.1])).bind λC=>some (.next (false,x.2.1,x.2.2.1,x.2.2.2.1,x.2.2.2.2.1,x.2.2.2.2.2,(Xz.mk h.2.2.2.2.2.2.Op_ h.2.2.2.2.2.2.C_ C h.2.2.2.2.2.2.Ys h.2.2.2.2.2.2.X_ h.2.2.2.2.2.2.Y_))))else some (.done (.fall (p.2.s_,p.2.at_,p.2.groups_,p.2.bad_,p.2.code_,h.2.2.2.2.2.2)))))
def eK_(x0:regex_parser):tO (tV×regex_parser):=(aS_ x0 94).bind λy1=>(af_ cO_ BIG (true,y1.2.s_,y1.2.at_,y1.2.groups_,y1.2.bad_,y1.2.code_,(Xz.mk 3 0 [] y1.1 0 0))).bind λ(j:Out (tX×Int×Int×Int×(tL Xz)×Xz) (tV×regex_parser))=>match j with | .ret p=>some p | .fall f=>(aA_ (regex_parser.mk f.1 f.2.1 f.2.2.1 f.2.2.2.2.1 f.2.2.2.1) f.2.2.2.2.2).bind λh=>some (true,h.2)
def aD_(p:regex_parser->Int->tO (tV×regex_parser))(x0:regex_parser)(x1:Int):tO (tV×regex_parser):=(bE_ x0).bind λy1=>(bif(!y1.2.1)then(bj_ y1.2.2).bind λx=>some (x.1,x.2)else( (bif(y1.1==40)then(b1_ p y1.2.2 x1).bind λu=>some (.ret (u.1,u.2))else( (bif(y1.1==41)then some (y1.1==41)else(bif(y1.1==42)then some (y1.1==42)else(bif(y1.1==43)then some (y1.1==43)else some (y1.1==63)))) ).bind λ(C:tV)=>(bif C then(bj_ y1.2.2).bind λy4=>some (.ret (y4.1,y4.2))else(bif(y1.1==46)then(aA_ y1.2.2 (Xz.mk 2 0 [] false 0 0)).bind λ(y5:Int×regex_parser)=>some (.fall (y5.2.s_,y5.2.at_,y5.2.groups_,y5.2.bad_,y5.2.code_))else(bif(y1.1==94)then(aA_ y1.2.2 (Xz.mk 4 0 [] false 0 0)).bind λ(j:Int×regex_parser)=>some (.fall (j.2.s_,j.2.at_,j.2.groups_,j.2.bad_,j.2.code_))else(bif(y1.1==36)then(aA_ y1.2.2 (Xz.mk 5 0 [] false 0 0)).bind λ(h:Int×regex_parser)=>some (.fall (h.2.s_,h.2.at_,h.2.groups_,h.2.bad_,h.2.code_))else(bif(y1.1==91)then(eK_ (regex_parser.mk y1.2.2.s_ (w64 (y1.2.2.at_+1)) y1.2.2.groups_ y1.2.2.code_ y1.2.2.bad_)).bind λs=>some (.ret (s.1,s.2))else(bif(y1.1==92)then(c8_ y1.2.2).bind λy9=>(bif(!y9.2.1)then some (.ret (false,y9.2.2))else(aA_ y9.2.2 (Xz.mk 1 y9.1 [] false 0 0)).bind λ(y10:Int×regex_parser)=>some (.ret (true,y10.2)))else(aA_ y1.2.2 (Xz.mk 1 y1.1 [] false 0 0)).bind λ(f:Int×regex_parser)=>some (.fall (f.2.s_,f.2.at_,f.2.groups_,f.2.bad_,f.2.code_))))))))) ).bind λ(q:Out (tX×Int×Int×Int×(tL Xz)) (tV×regex_parser))=>match q with | .ret y=>some y | .fall o2=>some (true,(regex_parser.mk o2.1 (w64 (o2.2.1+1)) o2.2.2.1 o2.2.2.2.2 o2.2.2.2.1)))
def cA_(f:Int×(tL Xz)):tO (Step (Int×(tL Xz)) (tL Xz)):=(bif decide (f.1<(f.2.length:Int))then( (ah_ f.2 f.1).bind λs=>(bif(s.Op_==6)then(ah_ f.2 f.1).bind λy9=>(ah_ f.2 f.1).bind λy10=>(ah_ (f.2.set f.1.toNat {y10 with X_:=(w64 (y9.X_+1))}) f.1).bind λq=>(ah_ (f.2.set f.1.toNat {y10 with X_:=(w64 (y9.X_+1))}) f.1).bind λp=>some ((f.2.set f.1.toNat {y10 with X_:=(w64 (y9.X_+1))}).set f.1.toNat {p with Y_:=(w64 (q.Y_+1))})else(bif(s.Op_==7)then(ah_ f.2 f.1).bind λj=>(ah_ f.2 f.1).bind λh=>some (f.2.set f.1.toNat {h with X_:=(w64 (j.X_+1))})else some f.2)) ).bind λ(o2:(tL Xz))=>some (.next ((w64 (f.1+1)),o2))else some (.done f.2))
def cx_(x0:regex_parser)(x1:Int)(x2:Xz):tO regex_parser:=(af_ cA_ BIG (x1,x0.code_)).bind λh=>((insN (α:=Xz) 56) h x1 [x2]).bind λf=>some {x0 with code_:=f}
def bz_(j:regex_parser->Int->tO (tV×regex_parser))(x0:regex_parser)(x1:Int):tO (tV×regex_parser):=(aD_ j x0 x1).bind λy1=>(bif(!y1.1)then some (false,y1.2)else( (aS_ y1.2 42).bind λq=>(bif q.1 then(cx_ q.2 (x0.code_.length:Int) (Xz.mk 6 0 [] false (w64 ((x0.code_.length:Int)+1)) 0)).bind λ(x:regex_parser)=>(aA_ x (Xz.mk 7 0 [] false (x0.code_.length:Int) 0)).bind λ(y4:Int×regex_parser)=>(ah_ y4.2.code_ (x0.code_.length:Int)).bind λy5=>some (y4.2.s_,y4.2.at_,y4.2.groups_,y4.2.bad_,(y4.2.code_.set (x0.code_.length:Int).toNat {y5 with Y_:=(y4.2.code_.length:Int)}))else(aS_ q.2 43).bind λp=>(bif p.1 then(aA_ p.2 (Xz.mk 6 0 [] false (x0.code_.length:Int) 0)).bind λ(f:Int×regex_parser)=>(ah_ f.2.code_ f.1).bind λu=>some (f.2.s_,f.2.at_,f.2.groups_,f.2.bad_,(f.2.code_.set f.1.toNat {u with Y_:=(w64 (f.1+1))}))else(aS_ p.2 63).bind λy9=>(bif y9.1 then(cx_ y9.2 (x0.code_.length:Int) (Xz.mk 6 0 [] false (w64 ((x0.code_.length:Int)+1)) 0)).bind λ(y10:regex_parser)=>(ah_ y10.code_ (x0.code_.length:Int)).bind λs=>some (y10.s_,y10.at_,y10.groups_,y10.bad_,(y10.code_.set (x0.code_.length:Int).toNat {s with Y_:=(y10.code_.length:Int)}))else some (y9.2.s_,y9.2.at_,y9.2.groups_,y9.2.bad_,y9.2.code_)))) ).bind λ(h:tX×Int×Int×Int×(tL Xz))=>some (true,(regex_parser.mk h.1 h.2.1 h.2.2.1 h.2.2.2.2 h.2.2.2.1)))
def bA_(x1:Int)(j:regex_parser->Int->tO (tV×regex_parser))(h:tX×Int×Int×Int×(tL Xz)):tO (Step (tX×Int×Int×Int×(tL Xz)) (Out Unit (tV×regex_parser))):=(bE_ (regex_parser.mk h.1 h.2.1 h.2.2.1 h.2.2.2.2 h.2.2.2.1)).bind λf=>(bif(((!f.2.1)||(f.1==124))||((f.1==41)&&decide (x1>0)))then some (.done (.ret (true,f.2.2)))else(bz_ j f.2.2 x1).bind λy4=>(bif(!y4.1)then some (.done (.ret (false,y4.2)))else some (.next (y4.2.s_,y4.2.at_,y4.2.groups_,y4.2.bad_,y4.2.code_))))
def cP_(f:regex_parser->Int->tO (tV×regex_parser))(x0:regex_parser)(x1:Int):tO (tV×regex_parser):=(af_ (bA_ x1 f) BIG (x0.s_,x0.at_,x0.groups_,x0.bad_,x0.code_)).bind λh=>match h with | .ret j=>some j | .fall _=>none
def cr_(h:regex_parser->Int->tO (tV×regex_parser))(x0:regex_parser)(x1:Int):tO (tV×regex_parser):=(cP_ h x0 x1).bind λy1=>(bif(!y1.1)then some (false,y1.2)else(aS_ y1.2 124).bind λj=>(bif(!j.1)then some (true,j.2)else(cx_ j.2 (x0.code_.length:Int) (Xz.mk 6 0 [] false (w64 ((x0.code_.length:Int)+1)) 0)).bind λ(q:regex_parser)=>(aA_ q (Xz.mk 7 0 [] false 0 0)).bind λ(y4:Int×regex_parser)=>(ah_ y4.2.code_ (x0.code_.length:Int)).bind λy5=>(h (regex_parser.mk y4.2.s_ y4.2.at_ y4.2.groups_ (y4.2.code_.set (x0.code_.length:Int).toNat {y5 with Y_:=(w64 (y4.1+1))}) y4.2.bad_) x1).bind λf=>(bif(!f.1)then some (false,f.2)else(ah_ f.2.code_ y4.1).bind λp=>some (true,(regex_parser.mk f.2.s_ f.2.at_ f.2.groups_ (f.2.code_.set y4.1.toNat {p with X_:=(f.2.code_.length:Int)}) f.2.bad_)))))
def ak_:Nat->regex_parser->Int->tO (tV×regex_parser) | 0=>λ_ _=>none|n+1=>cr_ (ak_ n)
def bu_(x0:tX):tO (Xh×Int×Int):=(bif decide ((x0.length:Int)>256)then some ((Xh.mk [] 0),0,4)else(aA_ (regex_parser.mk x0 0 0 [] 0) (Xz.mk 8 0 [] false 0 0)).bind λ(y1:Int×regex_parser)=>(ak_ BIG y1.2 0).bind λf=>(bif(!f.1)then some ((Xh.mk [] 0),f.2.bad_,49)else(aA_ f.2 (Xz.mk 8 0 [] false 1 0)).bind λ(h:Int×regex_parser)=>(aA_ h.2 (Xz.mk 9 0 [] false 0 0)).bind λ(y4:Int×regex_parser)=>some ((Xh.mk y4.2.code_ (w64 (y4.2.groups_+1))),0,0)))
def hp_(x0:Xf):tO tV:=( (both ( (both ( (eZ_ x0.Xp).bind λh=>(aZ_ h x0.Xs).bind λf=>(bif(!f)then some true else(bif(x0.Yq==[])then some true else(bif decide ((x0.Yq.length:Int)>1024)then some true else(strings_Contains x0.Yq [10]).bind λy9=>some y9)))) ( (eZ_ x0.Xp).bind λy4=>(aZ_ y4 x0.Xs).bind λy5=>(bif(!y5)then some true else(bif(x0.Yq==[])then some true else(bif decide ((x0.Yq.length:Int)>1024)then some true else(strings_Contains x0.Yq [10]).bind λj=>some j)))))) ( (eZ_ x0.Xp).bind λy1=>(aZ_ y1 x0.Xs).bind λq=>(bif(!q)then some true else(bif(x0.Yq==[])then some true else(bif decide ((x0.Yq.length:Int)>1024)then some true else(strings_Contains x0.Yq [10]).bind λp=>some p))))) ).bind λ(s:tV)=>(bif s then some (false)else(bif(!(x0.Xs==[109,97,116,99,104,101,115]))then some (true)else(bu_ x0.Yq).bind λy10=>some (y10.2.2==0)))
def cQ_(y1:(tL tX))(f:Int×(tL Xw)×(tL Xf)):tO (Step (Int×(tL Xw)×(tL Xf)) (Out ((tL Xw)×(tL Xf)) ((tL Xw)×Int×Int))):=(bif decide (f.1<(y1.length:Int))then( (ah_ y1 f.1).bind λh=>(strings_HasPrefix h [35]).bind λC=>(bif C then some (.fall (f.2.1,f.2.2))else(bif(h==[])then(bif decide ((f.2.2.length:Int)>0)then(eY_ (Xw.mk f.2.2)).bind λy=>(bif(!y)then some (.ret ([],(w64 (f.1+1)),50))else(room 24 f.2.1 [(Xw.mk f.2.2)]).bind λx=>some (.fall (x,[])))else some (.fall (f.2.1,f.2.2)))else(bif(((f.2.2.length:Int)==0)&&decide ((f.2.1.length:Int)>=64))then some (.ret ([],(w64 (f.1+1)),22))else(hO_ h).bind λj=>(hp_ j).bind λu=>(bif(!u)then some true else(eY_ (Xw.mk f.2.2)).bind λs=>some s ).bind λ(q:tV)=>(bif(q||decide ((f.2.2.length:Int)>=32))then some (.ret ([],(w64 (f.1+1)),50))else(room 48 f.2.2 [j]).bind λp=>some (.fall (f.2.1,p)))))) ).bind λ(D:Out ((tL Xw)×(tL Xf)) ((tL Xw)×Int×Int))=>match D with | .ret F=>some (.done (.ret F)) | .fall o2=>some (.next ((w64 (f.1+1)),o2.1,o2.2))else some (.done (.fall (f.2.1,f.2.2))))
def jG_(x0:tX):tO ((tL Xw)×Int×Int):=(ho_ x0).bind λy1=>(af_ (cQ_ y1) BIG (0,[],[])).bind λ(q:Out ((tL Xw)×(tL Xf)) ((tL Xw)×Int×Int))=>match q with | .ret u=>some u | .fall f=>( (bif decide ((f.2.length:Int)>0)then(eY_ (Xw.mk f.2)).bind λj=>(bif(!j)then some (.ret ([],(w64 ((y1.length:Int)+1)),50))else(room 24 f.1 [(Xw.mk f.2)]).bind λh=>some (.fall h))else some (.fall f.1)) ).bind λ(p:Out (tL Xw) ((tL Xw)×Int×Int))=>match p with | .ret s=>some s | .fall x=>some (x,0,0)
def strings_SplitN(x0:tX)(x1:tX)(x2:Int):tO (tL tX):=(strings_genSplit x0 x1 0 x2).bind λy1=>some (y1)
def gO_(x0:Int):tO tV:=some ((x0==32)||(x0==9))
def strings_IndexByte(x0:tX)(x1:Int):tO Int:=(stringslite_IndexByte x0 x1).bind λy1=>some (y1)
def hP_(x0:tX)(x1:tX)(f:Int):tO (Step Int (Out Unit Int)):=(bif decide (f<(x0.length:Int))then(ap_ x0 f).bind λh=>(strings_IndexByte x1 h).bind λy4=>(bif decide (y4>=0)then some (.done (.ret (f)))else some (.next (w64 (f+1))))else some (.done (.fall ())))
def fy_(x0:tX)(x1:tX):tO Int:=(af_ (hP_ x0 x1) BIG 0).bind λf=>match f with | .ret h=>some h | .fall _=>some (x0.length:Int)
def cR_(x0:tX)(f:Int×(tL Int)):tO (Step (Int×(tL Int)) (Out Unit (tX×Int×tV))):=(bif decide (f.1<(x0.length:Int))then( (ap_ x0 f.1).bind λs=>(bif(s != 39)then(ap_ x0 f.1).bind λq=>(room 1 f.2 [q]).bind λy9=>some (.fall (f.1,y9))else(bif((w64 (f.1+1))==(x0.length:Int))then some true else(ap_ x0 (w64 (f.1+1))).bind λy10=>some (y10 != 39) ).bind λ(j:tV)=>(bif j then some (.ret ((bytesS f.2),(w64 (f.1+1)),true))else(room 1 f.2 [39]).bind λh=>some (.fall ((w64 (f.1+1)),h)))) ).bind λ(p:Out (Int×(tL Int)) (tX×Int×tV))=>match p with | .ret u=>some (.done (.ret u)) | .fall o2=>some (.next ((w64 (o2.1+1)),o2.2))else some (.done (.fall ())))
def hq_(x0:tX):tO (tX×Int×tV):=(af_ (cR_ x0) BIG (0,[])).bind λf=>match f with | .ret h=>some h | .fall _=>some ([],0,false)
def nL_(x0:tX):tO (Xx×Int×Int):=(fy_ x0 [32,9,61,63,39]).bind λy1=>(aP_ x0 0 y1).bind λp=>(aP_ x0 y1 (x0.length:Int)).bind λf=>( (strings_HasPrefix f [63]).bind λy4=>(bif y4 then some (.fall ((w64 (y1+1)),(Xx.mk p [] true)))else(strings_HasPrefix f [61,39]).bind λy5=>(bif y5 then(aP_ f 2 (f.length:Int)).bind λD=>(hq_ D).bind λj=>(bif(!j.2.2)then some (.ret ((Xx.mk [] [] false),0,48))else some (.fall ((w64 (y1+(w64 (2+j.2.1)))),(Xx.mk p j.1 false))))else(strings_HasPrefix f [61]).bind λC=>(bif C then(fy_ f [32,9]).bind λy9=>(aP_ f 1 y9).bind λy10=>(strings_Contains y10 [39]).bind λx=>(bif x then some (.ret ((Xx.mk [] [] false),0,2))else some (.fall ((w64 (y1+y9)),(Xx.mk p y10 false))))else some (.ret ((Xx.mk [] [] false),0,2))))) ).bind λ(y:Out (Int×Xx) (Xx×Int×Int))=>match y with | .ret F=>some F | .fall h=>(bif decide (h.1<(x0.length:Int))then(ap_ x0 h.1).bind λu=>(gO_ u).bind λs=>some (!s)else some false).bind λ(q:tV)=>(bif q then some ((Xx.mk [] [] false),0,2)else some (h.2,h.1,0))
def c0_(x0:tX)(x1:tX):tO tX:=(bJ_ x0 x1).bind λy1=>(bif y1 then(aP_ x0 (x1.length:Int) (x0.length:Int)).bind λf=>some (f)else some (x0))
def strings_TrimPrefix(x0:tX)(x1:tX):tO tX:=(c0_ x0 x1).bind λy1=>some (y1)
def gP_(y1:tX)(h:Int):tO (Step Int (Out Unit tV)):=(bif decide (h<(y1.length:Int))then(ap_ y1 h).bind λf=>(bif((((decide (f<97)||decide (f>122))&&(decide (f<48)||decide (f>57)))&&(f != 45))&&(f != 95))then some (.done (.ret (false)))else some (.next (w64 (h+1))))else some (.done (.fall ())))
def jH_(x0:tX):tO tV:=(strings_TrimPrefix x0 [33]).bind λy1=>(bif((y1==[])||decide ((y1.length:Int)>32))then some true else(ap_ y1 0).bind λj=>some (decide (j<97)) ).bind λ(h:tV)=>(bif h then some true else(ap_ y1 0).bind λy4=>some (decide (y4>122)) ).bind λ(y5:tV)=>(bif y5 then some (false)else(af_ (gP_ y1) BIG 0).bind λf=>match f with | .ret p=>some p | .fall _=>some (true))
def bS_(x0:tL Xx)(x1:Xx->tO tV)(f:Int):tO (Step Int (Out Unit Int)):=(bif decide (f<(x0.length:Int))then(ah_ x0 f).bind λh=>(x1 h).bind λy4=>(bif y4 then some (.done (.ret (f)))else some (.next (w64 (f+1))))else some (.done (.fall ())))
def bm_(x0:tL Xx)(x1:Xx->tO tV):tO Int:=(af_ (bS_ x0 x1) BIG 0).bind λf=>match f with | .ret h=>some h | .fall _=>some (-1)
def bx_(x0:tL Xx)(x1:Xx->tO tV):tO tV:=(bm_ x0 x1).bind λy1=>some (decide (y1>=0))
def lF_(x0:Xx)(x1:Xx):tO tV:=some (x0.Xg==x1.Xg)
def gQ_(x0:tL Xx)(x1:Xx):tO Int:=(bif decide ((x0.length:Int)>=32)then some (22)else(jH_ x1.Xg).bind λy1=>(bif(!y1)then some (6)else(bif(x1.Xi&&(!(x1.Xr==[])))then some (2)else(fy_ x1.Xr [0,10,13]).bind λh=>(bif decide (h<(x1.Xr.length:Int))then some (2)else(bif decide ((x1.Xr.length:Int)>1024)then some (4)else(bx_ x0 (λ(p:Xx)=>(lF_ p x1).bind λ(j:tV)=>some j)).bind λf=>(bif f then some (7)else some (0)))))))
def dh_(x0:tX)(f:Int×(tL Xx)):tO (Step (Int×(tL Xx)) (Out (tL Xx) ((tL Xx)×Int×Int))):=(bif decide (f.1<(x0.length:Int))then(ap_ x0 f.1).bind λq=>(gO_ q).bind λp=>(bif p then some (.next ((w64 (f.1+1)),f.2))else(aP_ x0 f.1 (x0.length:Int)).bind λy9=>(nL_ y9).bind λy10=>( (bif(y10.2.2==0)then(gQ_ f.2 y10.1).bind λj=>some j else some y10.2.2) ).bind λ(o2:Int)=>(bif(o2 != 0)then some (.done (.ret ([],f.1,o2)))else(room 40 f.2 [y10.1]).bind λh=>some (.next ((w64 (f.1+y10.2.1)),h))))else some (.done (.fall f.2)))
def kP_(x0:tX):tO ((tL Xx)×Int×Int):=(af_ (dh_ x0) BIG (0,[])).bind λf=>match f with | .ret h=>some h | .fall j=>some (j,0,0)
def l4_(x0:Int):tO tV:=some (((x0==8)||(x0==10))||(x0==16))
def l5_(x0:Int):tO Int:=(bif(decide (x0>=48)&&decide (x0<=57))then some (w64 (IntKind.u8.wrap (x0-48)))else(bif(decide (x0>=97)&&decide (x0<=102))then some (w64 ((w64 (IntKind.u8.wrap (x0-97)))+10))else some (16)))
def iP_(x0:tX)(x1:Int)(x2:Int)(f:Int×Int):tO (Step (Int×Int) (Out Int (Int×Int))):=(bif decide (f.2<(x0.length:Int))then(ap_ x0 f.2).bind λy9=>(l5_ y9).bind λy10=>(bif decide (y10>=x1)then some true else(quoI .i64 (w64 (x2-y10)) x1).bind λj=>some (decide (f.1>j)) ).bind λ(h:tV)=>(bif(h||decide (y10>x2))then some (.done (.ret (0,5)))else some (.next ((w64 ((w64 (f.1*x1))+y10)),(w64 (f.2+1)))))else some (.done (.fall f.1)))
def l6_(x0:tX)(x1:Int)(x2:Int):tO (Int×Int):=(l4_ x1).bind λy1=>(bif((!y1)||decide (x2<0))then some (0,1)else(bif(x0==[])then some true else(bif decide ((x0.length:Int)>1)then(ap_ x0 0).bind λj=>some (j==48)else some false).bind λ(h:tV)=>some h ).bind λ(y4:tV)=>(bif y4 then some (0,5)else(af_ (iP_ x0 x1 x2) BIG (0,0)).bind λf=>match f with | .ret p=>some p | .fall q=>some (q,0)))
def hQ_(x0:tL Xx)(f:Int):tO (Step Int (Out Unit Int)):=(bif decide (f<(x0.length:Int))then(ah_ x0 f).bind λy4=>(aP_ x0 0 f).bind λy5=>(gQ_ y5 y4).bind λh=>(bif(h != 0)then some (.done (.ret (h)))else some (.next (w64 (f+1))))else some (.done (.fall ())))
def iQ_(x0:tL Xx):tO Int:=(af_ (hQ_ x0) BIG 0).bind λf=>match f with | .ret h=>some h | .fall _=>some (0)
def iR_(x0:Xx):tO tV:=some (x0.Xi)
def fM_(x0:tL Xx):tO tV:=(bx_ x0 (λ(h:Xx)=>(iR_ h).bind λ(f:tV)=>some f)).bind λy1=>some (y1)
def gR_(x0:Xq)(f:Int×(tL tX)):tO (Step (Int×(tL tX)) (Out Unit Int)):=(bif decide (f.1<([x0.Xu,x0.Xe,x0.Yz,x0.Xt].length:Int))then(ah_ f.2 f.1).bind λh=>(bif decide ((h.length:Int)>1024)then some (.done (.ret (4)))else(strings_Contains h [10]).bind λy4=>(bif y4 then some (.done (.ret (2)))else some (.next ((w64 (f.1+1)),f.2))))else some (.done (.fall ())))
def c1_(x0:Xq):tO Int:=(af_ (gR_ x0) BIG (0,[x0.Xu,x0.Xe,x0.Yz,x0.Xt])).bind λf=>match f with | .ret j=>some j | .fall _=>(iQ_ x0.Xm).bind λy5=>(bif(y5 != 0)then some (y5)else(fM_ x0.Xm).bind λh=>(bif h then some (2)else(bif decide ((x0.Xl.length:Int)>65536)then some (4)else some (0))))
def jI_(x0:tX):tO (Xq×Int):=(strings_SplitN x0 [10] 7).bind λy1=>(bif decide ((y1.length:Int)<=6)then some ((Xq.mk [] [] [] [] [] []),2)else(ah_ y1 4).bind λx=>(kP_ x).bind λp=>(bif(p.2.2 != 0)then some ((Xq.mk [] [] [] [] [] []),p.2.2)else(ah_ y1 5).bind λy4=>(l6_ y4 10 65536).bind λy5=>(bif(y5.2 != 0)then some ((Xq.mk [] [] [] [] [] []),y5.2)else(ah_ y1 6).bind λu=>(bif decide ((u.length:Int)<y5.1)then some ((Xq.mk [] [] [] [] [] []),3)else(ah_ y1 6).bind λs=>(bif decide ((s.length:Int)>y5.1)then some ((Xq.mk [] [] [] [] [] []),2)else(ah_ y1 0).bind λq=>(ah_ y1 1).bind λy9=>(ah_ y1 2).bind λy10=>(ah_ y1 3).bind λj=>(ah_ y1 6).bind λh=>(c1_ (Xq.mk q y9 y10 j p.1 h)).bind λf=>(bif(f != 0)then some ((Xq.mk [] [] [] [] [] []),f)else some ((Xq.mk q y9 y10 j p.1 h),0)))))))
def utf8_DecodeRuneInString(_:tX):tO (Int×Int):=none
def du_(q:Int)(x0:tX)(x1:tX)(x2:tX)(f:Int×Int×(tL Int)):tO (Step (Int×Int×(tL Int)) (Int×(tL Int))):=(bif decide (f.2.1<q)then(aP_ x0 f.1 (x0.length:Int)).bind λp=>(strings_Index p x1).bind λy9=>(aP_ x0 f.1 (w64 (f.1+y9))).bind λy10=>(room 1 f.2.2 (aG_ y10)).bind λj=>(room 1 j (aG_ x2)).bind λh=>some (.next ((w64 ((w64 (f.1+y9))+(x1.length:Int))),(w64 (f.2.1+1)),h))else some (.done (f.1,f.2.2)))
def oU_(u:Int)(x0:tX)(x2:tX)(f:Int×Int×(tL Int)):tO (Step (Int×Int×(tL Int)) (Int×(tL Int))):=(bif decide (f.2.1<(w64 (u-1)))then(aP_ x0 f.1 (x0.length:Int)).bind λs=>(utf8_DecodeRuneInString s).bind λh=>(aP_ x0 f.1 (w64 (f.1+h.2))).bind λq=>(room 1 f.2.2 (aG_ q)).bind λp=>(room 1 p (aG_ x2)).bind λj=>some (.next ((w64 (f.1+h.2)),(w64 (f.2.1+1)),j))else some (.done (f.1,f.2.2)))
def strings_Replace(x0:tX)(x1:tX)(x2:tX)(x3:Int):tO tX:=(bif((x1==x2)||(x3==0))then some (x0)else( (strings_Count x0 x1).bind λy1=>(bif(y1==0)then some (.ret (x0))else(bif(decide (x3<0)||decide (y1<x3))then some (.fall y1)else some (.fall x3))) ).bind λ(p:Out Int tX)=>match p with | .ret y=>some y | .fall q=>(growB ([]:tL Int) (w64 ((x0.length:Int)+(w64 (q*(w64 ((x2.length:Int)-(x1.length:Int)))))))).bind λs=>( (bif decide ((x1.length:Int)>0)then(af_ (du_ q x0 x1 x2) BIG (0,0,s)).bind λo2=>some (o2.1,o2.2)else(room 1 s (aG_ x2)).bind λj=>(af_ (oU_ q x0 x2) BIG (0,0,j)).bind λx=>some (x.1,x.2)) ).bind λ(u:Int×(tL Int))=>(aP_ x0 u.1 (x0.length:Int)).bind λh=>(room 1 u.2 (aG_ h)).bind λf=>some (bytesS f))
def strings_ReplaceAll(x0:tX)(x1:tX)(x2:tX):tO tX:=(strings_Replace x0 x1 x2 (-1)).bind λy1=>some (y1)
def kQ_(x0:tX):tO tX:=(bif(!(x0==[]))then(fy_ x0 [32,9,39]).bind λy1=>some (y1==(x0.length:Int))else some false).bind λ(h:tV)=>(bif h then some (x0)else(strings_ReplaceAll x0 [39] [39,39]).bind λf=>(cat [39] f).bind λy4=>(cat y4 [39]).bind λy5=>some (y5))
def eL_(x0:tL tX)(f:Int×Int):tO (Step (Int×Int) Int):=(bif decide (f.2<(x0.length:Int))then(ah_ x0 f.2).bind λy4=>( (bif decide ((y4.length:Int)>(w64 (9223372036854775807-f.1)))then none else some ()) ).bind λ(_:Unit)=>some (.next ((w64 (f.1+(y4.length:Int))),(w64 (f.2+1))))else some (.done f.1))
def eM_(q:tL tX)(x1:tX)(f:Int×(tL Int)):tO (Step (Int×(tL Int)) (tL Int)):=(bif decide (f.1<(q.length:Int))then(ah_ q f.1).bind λp=>(room 1 f.2 (aG_ x1)).bind λj=>(room 1 j (aG_ p)).bind λh=>some (.next ((w64 (f.1+1)),h))else some (.done f.2))
def strings_Join(x0:tL tX)(x1:tX):tO tX:=(bif((x0.length:Int)==0)then some ([])else(bif((x0.length:Int)==1)then(ah_ x0 0).bind λy1=>some (y1)else( (bif decide ((x1.length:Int)>0)then( (quoI .i64 9223372036854775807 (w64 ((x0.length:Int)-1))).bind λp=>(bif decide ((x1.length:Int)>=p)then none else some ()) ).bind λ(_:Unit)=>some (w64 (0+(w64 ((x1.length:Int)*(w64 ((x0.length:Int)-1))))))else some 0) ).bind λ(o2:Int)=>(af_ (eL_ x0) BIG (o2,0)).bind λs=>(growB ([]:tL Int) s).bind λy5=>(ah_ x0 0).bind λj=>(room 1 y5 (aG_ j)).bind λh=>(aP_ x0 1 (x0.length:Int)).bind λf=>(af_ (eM_ f x1) BIG (0,h)).bind λq=>some (bytesS q)))
def fN_(x0:tL Xx)(f:Int×(tL tX)):tO (Step (Int×(tL tX)) (tL tX)):=(bif decide (f.1<(x0.length:Int))then( (ah_ x0 f.1).bind λy10=>(bif y10.Xi then(cat y10.Xg [63]).bind λu=>(room 16 f.2 [u]).bind λs=>some s else(cat y10.Xg [61]).bind λq=>(kQ_ y10.Xr).bind λp=>(cat q p).bind λj=>(room 16 f.2 [j]).bind λh=>some h) ).bind λ(o2:(tL tX))=>some (.next ((w64 (f.1+1)),o2))else some (.done f.2))
def kR_(x0:tL Xx):tO (tX×Int):=(iQ_ x0).bind λy1=>(bif(y1 != 0)then some ([],y1)else(et_ 16 ([]:tX) (x0.length:Int)).bind λ_=>(af_ (fN_ x0) BIG (0,[])).bind λh=>(strings_Join h [32]).bind λf=>some (f,0))
def nM_(x0:Int)(x1:Int):tO tX:=(l4_ x1).bind λy1=>(bif(!y1)then some ([])else(dQ_ x0 x1).bind λf=>some (f))
def d8_(x0:Xq):tO (tX×Int):=(c1_ x0).bind λy1=>(bif(y1 != 0)then some ([],y1)else(kR_ x0.Xm).bind λf=>(bif(f.2 != 0)then some ([],f.2)else(nM_ (x0.Xl.length:Int) 10).bind λh=>(strings_Join [x0.Xu,x0.Xe,x0.Yz,x0.Xt,f.1,h,x0.Xl] [10]).bind λy4=>some (y4,0)))
def jo_(x0:Xw)(f:Int):tO (Step Int (Out Unit tV)):=(bif decide (f<(x0.Xb.length:Int))then(ah_ x0.Xb f).bind λh=>(hp_ h).bind λy4=>(bif((!y4)||(!((h.Xp==[112,108,117,109,98])==(f==(w64 ((x0.Xb.length:Int)-1))))))then some (.done (.ret (false)))else some (.next (w64 (f+1))))else some (.done (.fall ())))
def hr_(x0:Xw):tO tV:=(bif(decide ((x0.Xb.length:Int)<1)||decide ((x0.Xb.length:Int)>32))then some (false)else(af_ (jo_ x0) BIG 0).bind λf=>match f with | .ret h=>some h | .fall _=>some (true))
def e7_(x0:plumb_state)(x1:Int):tO (tX×plumb_state):=(bif decide ((w64 ((w64 (2*x1))+1))>=(x0.caps_.length:Int))then some true else(ah_ x0.caps_ (w64 (2*x1))).bind λy1=>some (decide (y1<0)) ).bind λ(q:tV)=>(bif q then some true else(ah_ x0.caps_ (w64 ((w64 (2*x1))+1))).bind λp=>(ah_ x0.caps_ (w64 (2*x1))).bind λy4=>some (decide (p<y4)) ).bind λ(y5:tV)=>(bif y5 then some ([],x0)else(ah_ x0.caps_ (w64 (2*x1))).bind λj=>(ah_ x0.caps_ (w64 ((w64 (2*x1))+1))).bind λh=>(aP_ x0.text_ j h).bind λf=>some (f,x0))
def fz_(x1:tX)(x0:plumb_state)(h:Int×(tL tX)):tO (Step (Int×(tL tX)) (Out Unit (tX×Int×plumb_state))):=(bif decide (h.1<([[115,114,99],[100,115,116],[119,100,105,114],[116,121,112,101],[100,97,116,97]].length:Int))then(ah_ h.2 h.1).bind λf=>(strings_HasPrefix x1 f).bind λy4=>(bif y4 then(bif(f==[115,114,99])then some (.done (.ret (x0.m_.Xu,(f.length:Int),x0)))else(bif(f==[100,115,116])then some (.done (.ret (x0.m_.Xe,(f.length:Int),x0)))else(bif(f==[119,100,105,114])then some (.done (.ret (x0.m_.Yz,(f.length:Int),x0)))else(bif(f==[116,121,112,101])then some (.done (.ret (x0.m_.Xt,(f.length:Int),x0)))else some (.done (.ret (x0.m_.Xl,(f.length:Int),x0)))))))else some (.next ((w64 (h.1+1)),h.2)))else some (.done (.fall ())))
def dR_(x0:plumb_state)(x1:tX):tO (tX×Int×plumb_state):=(af_ (fz_ x1 x0) BIG (0,[[115,114,99],[100,115,116],[119,100,105,114],[116,121,112,101],[100,97,116,97]])).bind λf=>match f with | .ret h=>some h | .fall _=>some ([36],0,x0)
def cS_(j:tX×plumb_state×(tL Int)):tO (Step (tX×plumb_state×(tL Int)) ((tL Int)×plumb_state)):=(bif(!(j.1==[]))then(strings_Cut j.1 [36]).bind λf=>(room 1 j.2.2 (aG_ f.1)).bind λh=>(bif(!f.2.2)then some (.done (h,j.2.1))else(strings_HasPrefix f.2.1 [36]).bind λU=>(bif U then(room 1 h (aG_ [36])).bind λO=>(aP_ f.2.1 1 (f.2.1.length:Int)).bind λM=>some (.next (M,j.2.1,O))else(bif(!(f.2.1==[]))then(ap_ f.2.1 0).bind λJ=>some (decide (J>=48))else some false).bind λ(G:tV)=>(bif G then(ap_ f.2.1 0).bind λF=>some (decide (F<=57))else some false).bind λ(D:tV)=>(bif D then(ap_ f.2.1 0).bind λC=>(e7_ j.2.1 (w64 (IntKind.u8.wrap (C-48)))).bind λq=>(room 1 h (aG_ q.1)).bind λy=>(aP_ f.2.1 1 (f.2.1.length:Int)).bind λx=>some (.next (x,q.2,y))else(dR_ j.2.1 f.2.1).bind λp=>(room 1 h (aG_ p.1)).bind λu=>(aP_ f.2.1 p.2.1 (f.2.1.length:Int)).bind λs=>some (.next (s,p.2.2,u)))))else some (.done (j.2.2,j.2.1)))
def bY_(x0:plumb_state)(x1:tX):tO (tX×plumb_state):=(af_ cS_ BIG (x1,x0,[])).bind λ(f:(tL Int)×plumb_state)=>some ((bytesS f.1),f.2)
def bc_(x1:Xx->tO tV)(f:Int×Int×(tL Xx)):tO (Step (Int×Int×(tL Xx)) (Int×(tL Xx))):=(bif decide (f.2.1<(f.2.2.length:Int))then( (ah_ f.2.2 f.2.1).bind λy5=>(x1 y5).bind λh=>(bif(!h)then(ah_ f.2.2 f.1).bind λ_=>some ((w64 (f.1+1)),(f.2.2.set f.1.toNat y5))else some (f.1,f.2.2)) ).bind λ(o2:Int×(tL Xx))=>some (.next (o2.1,(w64 (f.2.1+1)),o2.2))else some (.done (f.1,f.2.2)))
def b2_(x0:tL Xx)(x1:Xx->tO tV):tO (tL Xx):=(bm_ x0 x1).bind λy1=>(bif(y1==(-1))then some (x0)else(af_ (bc_ x1) BIG (y1,(w64 (y1+1)),x0)).bind λf=>(aP_ f.2 f.1 (f.2.length:Int)).bind λ_=>(aP_ (eC_ f.2 f.1.toNat (Xx.mk [] [] false)) 0 f.1).bind λ(_:tL Xx)=>some ((eC_ f.2 f.1.toNat (Xx.mk [] [] false)).take f.1.toNat))
def m0_(x0:Xx)(x1:tX):tO tV:=some (x0.Xg==x1)
def iS_(x0:tL Xx)(x1:tX):tO (tL Xx):=(aN_ x0).bind λy1=>(b2_ y1 (λ(j:Xx)=>(m0_ j x1).bind λ(h:tV)=>some h)).bind λf=>some (f)
def oV_(x0:Xx)(x1:tX):tO tV:=some ((!x0.Xi)&&(x0.Xg==x1))
def kS_(x0:tL Xx)(x1:tX):tO Int:=(bm_ x0 (λ(h:Xx)=>(oV_ h x1).bind λ(f:tV)=>some f)).bind λy1=>some (y1)
def l7_(x0:tL Xx)(x1:tX):tO (tX×tV):=(kS_ x0 x1).bind λy1=>(bif decide (y1<0)then some ([],false)else(ah_ x0 y1).bind λf=>some (f.Xr,true))
def iT_(x1:tL Xx)(x0:tL Xx)(h:Int):tO (Step Int (Out Unit tV)):=(bif decide (h<(x1.length:Int))then(ah_ x1 h).bind λf=>(l7_ x0 f.Xg).bind λy4=>(bif((!y4.2)||((!f.Xi)&&(!(y4.1==f.Xr))))then some (.done (.ret (false)))else some (.next (w64 (h+1))))else some (.done (.fall ())))
def iU_(x0:tL Xx)(x1:tL Xx):tO tV:=(af_ (iT_ x1 x0) BIG 0).bind λf=>match f with | .ret h=>some h | .fall _=>some (true)
def nN_(x0:tL Xx)(x1:tX)(x2:tX):tO (tL Xx):=(aN_ x0).bind λy1=>(kS_ y1 x1).bind λf=>(bif decide (f>=0)then(ah_ y1 f).bind λh=>some (y1.set f.toNat (Xx.mk h.Xg x2 h.Xi))else(room 40 y1 [(Xx.mk x1 x2 false)]).bind λy4=>some (y4))
def c9_(p:(tL Xx)×Int×Int)(f:Int×tX×tX×tX×tX×(tL Xx)×tX×tX×(tL Int)×tX×(tL Xx)):tO (Step (Int×tX×tX×tX×tX×(tL Xx)×tX×tX×(tL Int)×tX×(tL Xx)) plumb_state):=(bif decide (f.1<(p.1.length:Int))then(ah_ f.2.2.2.2.2.2.2.2.2.2 f.1).bind λh=>(nN_ f.2.2.2.2.2.1 h.Xg h.Xr).bind λj=>some (.next ((w64 (f.1+1)),f.2.1,f.2.2.1,f.2.2.2.1,f.2.2.2.2.1,j,f.2.2.2.2.2.2.1,f.2.2.2.2.2.2.2.1,f.2.2.2.2.2.2.2.2.1,f.2.2.2.2.2.2.2.2.2.1,f.2.2.2.2.2.2.2.2.2.2))else some (.done (plumb_state.mk (Xq.mk f.2.1 f.2.2.1 f.2.2.2.1 f.2.2.2.2.1 f.2.2.2.2.2.1 f.2.2.2.2.2.2.1) f.2.2.2.2.2.2.2.1 f.2.2.2.2.2.2.2.2.1 f.2.2.2.2.2.2.2.2.2.1)))
def dS_(x0:plumb_state)(x1:tX)(x2:tX):tO (tV×plumb_state):=(bif(x1==[100,101,108,101,116,101])then(iS_ x0.m_.Xm x2).bind λy1=>some (true,{x0 with m_:=(Xq.mk x0.m_.Xu x0.m_.Xe x0.m_.Yz x0.m_.Xt y1 x0.m_.Xl)})else(kP_ x2).bind λf=>(bif(f.2.2 != 0)then some (false,x0)else(bif(!(x1==[97,100,100]))then(iU_ x0.m_.Xm f.1).bind λh=>some ((h==(x1==[105,115])),x0)else(fM_ f.1).bind λy4=>(bif y4 then some (false,x0)else(af_ (c9_ f) BIG (0,x0.m_.Xu,x0.m_.Xe,x0.m_.Yz,x0.m_.Xt,x0.m_.Xm,x0.m_.Xl,x0.text_,x0.caps_,x0.port_,f.1)).bind λj=>some (true,j)))))
def bits_Mul64(x0:Int)(x1:Int):tO (Int×Int):=some ((IntKind.u64.wrap ((IntKind.u64.wrap ((IntKind.u64.wrap ((x0.fdiv (2^32))*(x1.fdiv (2^32))))+((IntKind.u64.wrap ((IntKind.u64.wrap ((x0.fdiv (2^32))*(andI .u64 x1 4294967295)))+((IntKind.u64.wrap ((andI .u64 x0 4294967295)*(andI .u64 x1 4294967295))).fdiv (2^32)))).fdiv (2^32))))+((IntKind.u64.wrap ((andI .u64 (IntKind.u64.wrap ((IntKind.u64.wrap ((x0.fdiv (2^32))*(andI .u64 x1 4294967295)))+((IntKind.u64.wrap ((andI .u64 x0 4294967295)*(andI .u64 x1 4294967295))).fdiv (2^32)))) 4294967295)+(IntKind.u64.wrap ((andI .u64 x0 4294967295)*(x1.fdiv (2^32)))))).fdiv (2^32)))),(IntKind.u64.wrap (x0*x1)))
def bits_Mul(x0:Int)(x1:Int):tO (Int×Int):=(bits_Mul64 x0 x1).bind λy1=>some (y1.1,y1.2)
def lP_(f:Int×(tL Int)):tO (Step (Int×(tL Int)) (tL Int)):=(bif decide (f.1<(f.2.length:Int))then(aP_ f.2 f.1 (f.2.length:Int)).bind λ_=>(aP_ f.2 0 f.1).bind λ_=>some (.next ((w64 (f.1+((min (f.2.take f.1.toNat).length (f.2.drop f.1.toNat).length:Nat):Int))),(lr_ f.2 f.1.toNat (f.2.take f.1.toNat))))else some (.done f.2))
def fA_(x0:tL Int)(x1:Int):tO (tL Int):=( (bif decide (x1<0)then none else some ()) ).bind λ(_:Unit)=>(bits_Mul (IntKind.u64.wrap (x0.length:Int)) (IntKind.u64.wrap x1)).bind λy1=>( (bif(decide (y1.1>0)||decide (y1.2>9223372036854775807))then none else some ()) ).bind λ(_:Unit)=>(et_ 8 (0:Int) (w64 (y1.2))).bind λf=>(af_ lP_ BIG (((min x0.length f.length:Nat):Int),(jz_ f x0))).bind λh=>some (h)
def m1_(x0:tL Int):tO (tL Int):=(nilB x0 λ(f:tV)=>(bif f then some ([])else(room 8 ([]:tL Int) x0).bind λy1=>some (y1)))
def bt_(x0:tL Int):tO (tL Int):=room 8 ([]:tL Int) x0
theorem m2_:m1_=bt_:=funext λ_=>ou_
def cy_(f:regex_machine->Int->(tL Int)->tO regex_machine)(x0:regex_machine)(x1:Int)(x2:tL Int):tO regex_machine:=(ah_ x0.visited_ x1).bind λy1=>(bif decide (y1>0)then some (x0)else(ah_ x0.visited_ x1).bind λh=>(ah_ x0.visited_ x1).bind λ_=>(ah_ x0.r_.Yy x1).bind λy4=>(bif(y4.Op_==7)then(f {x0 with visited_:=(x0.visited_.set x1.toNat (w64 (h+1)))} y4.X_ x2).bind λy5=>some y5 else(bif(y4.Op_==6)then(f {x0 with visited_:=(x0.visited_.set x1.toNat (w64 (h+1)))} y4.X_ x2).bind λx=>(f x y4.Y_ x2).bind λu=>some u else(bif(y4.Op_==8)then(bt_ x2).bind λs=>(ah_ s y4.X_).bind λ_=>(f {x0 with visited_:=(x0.visited_.set x1.toNat (w64 (h+1)))} (w64 (x1+1)) (s.set y4.X_.toNat x0.pos_)).bind λy10=>some y10 else(bif(y4.Op_==4)then(bif(x0.pos_==0)then(f {x0 with visited_:=(x0.visited_.set x1.toNat (w64 (h+1)))} (w64 (x1+1)) x2).bind λq=>some q else some {x0 with visited_:=(x0.visited_.set x1.toNat (w64 (h+1)))})else(bif(y4.Op_==5)then(bif(x0.pos_==(x0.s_.length:Int))then(f {x0 with visited_:=(x0.visited_.set x1.toNat (w64 (h+1)))} (w64 (x1+1)) x2).bind λp=>some p else some {x0 with visited_:=(x0.visited_.set x1.toNat (w64 (h+1)))})else(room 32 x0.list_ [(regex_thread.mk x1 x2)]).bind λj=>some {x0 with visited_:=(x0.visited_.set x1.toNat (w64 (h+1))),list_:=j}))))))
def am_:Nat->regex_machine->Int->(tL Int)->tO regex_machine | 0=>λ_ _ _=>none|n+1=>cy_ (am_ n)
def cI_(x0:Xz)(x1:Int)(f:tV×Int):tO (Step (tV×Int) tV):=(bif decide ((w64 (f.2+1))<(x0.Yh.length:Int))then(bif f.1 then some true else(ap_ x0.Yh f.2).bind λy5=>(bif decide (y5<=x1)then(ap_ x0.Yh (w64 (f.2+1))).bind λp=>some (decide (x1<=p))else some false).bind λ(j:tV)=>some j ).bind λ(h:tV)=>some (.next (h,(w64 (f.2+2))))else some (.done f.1))
def fO_(x0:Xz)(x1:Int):tO tV:=(bif(x0.Op_==1)then some (x0.C_==x1)else(bif(x0.Op_==2)then some (x1 != 10)else(bif(x0.Op_==3)then(af_ (cI_ x0 x1) BIG (false,0)).bind λf=>some (!(f==x0.Ys))else some (false))))
def dv_(p:(tL Int)×Int×(tL Xz)×Int×tX×Int×(tL Int)×(tL regex_thread))(f:Int×(tL regex_thread)):tO (Step (Int×(tL regex_thread)) (Out (tL regex_thread) ((tL Int)×(tL regex_thread)))):=(bif decide (f.1<(p.2.2.2.2.2.2.2.length:Int))then(ah_ f.2 f.1).bind λh=>(ah_ p.2.2.1 h.at_).bind λj=>(bif(j.Op_==9)then some (.done (.ret (h.caps_,f.2)))else some (.next ((w64 (f.1+1)),f.2)))else some (.done (.fall f.2)))
def eo_(x:(tL Int)×Int×(tL Xz)×Int×tX×Int×(tL Int)×(tL regex_thread))(x0:Xh)(u:Int)(f:Int×(tL Xz)×Int×tX×Int×(tL Int)×(tL regex_thread)×(tL regex_thread)):tO (Step (Int×(tL Xz)×Int×tX×Int×(tL Int)×(tL regex_thread)×(tL regex_thread)) ((tL Xz)×Int×tX×Int×(tL Int)×(tL regex_thread))):=(bif decide (f.1<(x.2.2.2.2.2.2.2.length:Int))then( (ah_ f.2.2.2.2.2.2.2 f.1).bind λj=>(ah_ x0.Yy j.at_).bind λs=>(fO_ s u).bind λq=>(bif q then(am_ BIG (regex_machine.mk (Xh.mk f.2.1 f.2.2.1) f.2.2.2.1 f.2.2.2.2.1 f.2.2.2.2.2.1 f.2.2.2.2.2.2.1) (w64 (j.at_+1)) j.caps_).bind λh=>some (h.r_.Yy,h.r_.Yb,h.s_,h.pos_,h.visited_,h.list_,f.2.2.2.2.2.2.2)else some (f.2.1,f.2.2.1,f.2.2.2.1,f.2.2.2.2.1,f.2.2.2.2.2.1,f.2.2.2.2.2.2.1,f.2.2.2.2.2.2.2)) ).bind λ(p:(tL Xz)×Int×tX×Int×(tL Int)×(tL regex_thread)×(tL regex_thread))=>some (.next ((w64 (f.1+1)),p.1,p.2.1,p.2.2.1,p.2.2.2.1,p.2.2.2.2.1,p.2.2.2.2.2.1,p.2.2.2.2.2.2))else some (.done (f.2.1,f.2.2.1,f.2.2.2.1,f.2.2.2.2.1,f.2.2.2.2.2.1,f.2.2.2.2.2.2.1)))
def fh_(x3:tV)(x1:tX)(x0:Xh)(f:(tL Int)×Int×(tL Xz)×Int×tX×Int×(tL Int)×(tL regex_thread)):tO (Step ((tL Int)×Int×(tL Xz)×Int×tX×Int×(tL Int)×(tL regex_thread)) (Out Unit ((tL Int)×Int))):=( (af_ (dv_ f) BIG (0,f.2.2.2.2.2.2.2)).bind λu=>match u with | .ret p=>(nilB p.1 λ(y:tV)=>(bif((!y)&&((!x3)||(f.2.2.2.2.2.1==(x1.length:Int))))then some (p.1,f.2.2.2.2.2.1,f.2.2.1,f.2.2.2.1,f.2.2.2.2.1,f.2.2.2.2.2.1,f.2.2.2.2.2.2.1,p.2)else some (f.1,f.2.1,f.2.2.1,f.2.2.2.1,f.2.2.2.2.1,f.2.2.2.2.2.1,f.2.2.2.2.2.2.1,p.2))) | .fall x=>(bif(false&&((!x3)||(f.2.2.2.2.2.1==(x1.length:Int))))then some ([],f.2.2.2.2.2.1,f.2.2.1,f.2.2.2.1,f.2.2.2.2.1,f.2.2.2.2.2.1,f.2.2.2.2.2.2.1,x)else some (f.1,f.2.1,f.2.2.1,f.2.2.2.1,f.2.2.2.2.1,f.2.2.2.2.2.1,f.2.2.2.2.2.2.1,x)) ).bind λ(h:(tL Int)×Int×(tL Xz)×Int×tX×Int×(tL Int)×(tL regex_thread))=>(bif(decide (h.2.2.2.2.2.1>=(x1.length:Int))||((h.2.2.2.2.2.2.2.length:Int)==0))then some (.done (.ret (h.1,h.2.1)))else(ap_ x1 h.2.2.2.2.2.1).bind λs=>(et_ 8 (0:Int) (h.2.2.1.length:Int)).bind λq=>(af_ (eo_ h x0 s) BIG (0,h.2.2.1,h.2.2.2.1,h.2.2.2.2.1,(w64 (h.2.2.2.2.2.1+1)),q,[],h.2.2.2.2.2.2.2)).bind λ(j:(tL Xz)×Int×tX×Int×(tL Int)×(tL regex_thread))=>some (.next (h.1,h.2.1,j.1,j.2.1,j.2.2.1,j.2.2.2.1,j.2.2.2.2.1,j.2.2.2.2.2)))
def kd_(x0:Xh)(x1:tX)(x2:Int)(x3:tV):tO ((tL Int)×Int):=(et_ 8 (0:Int) (x0.Yy.length:Int)).bind λy1=>(fA_ [(-1)] (w64 (2*x0.Yb))).bind λp=>(am_ BIG (regex_machine.mk x0 x1 x2 y1 []) 0 p).bind λ(f:regex_machine)=>(af_ (fh_ x3 x1 x0) BIG ([],(-1),f.r_.Yy,f.r_.Yb,f.s_,f.pos_,f.visited_,f.list_)).bind λ(h:Out Unit ((tL Int)×Int))=>match h with | .ret j=>some j | .fall _=>none
def c2_(x0:Xh)(x1:tX):tO ((tL Int)×tV):=(kd_ x0 x1 0 true).bind λy1=>(bt_ y1.1).bind λf=>some (f,(decide (y1.2>=0)))
def b3_(x0:plumb_state)(x1:Xf):tO (tV×plumb_state):=(bY_ x0 x1.Yq).bind λy1=>(bif((!(x1.Xs==[109,97,116,99,104,101,115]))&&decide ((y1.1.length:Int)>65536))then some (false,y1.2)else(bif(x1.Xp==[112,108,117,109,98])then some (true,(plumb_state.mk y1.2.m_ y1.2.text_ y1.2.caps_ y1.1))else(bif(x1.Xp==[97,116,116,114])then(dS_ y1.2 x1.Xs y1.1).bind λD=>some (D.1,D.2)else(bif(x1.Xp==[115,114,99])then(bif(x1.Xs==[105,115])then some ((y1.2.m_.Xu==y1.1),y1.2)else(bif(x1.Xs==[105,115,110])then some ((!(y1.2.m_.Xu==y1.1)),y1.2)else(bif(x1.Xs==[115,101,116])then some (true,(plumb_state.mk (Xq.mk y1.1 y1.2.m_.Xe y1.2.m_.Yz y1.2.m_.Xt y1.2.m_.Xm y1.2.m_.Xl) y1.2.text_ y1.2.caps_ y1.2.port_))else(bu_ x1.Yq).bind λC=>(bif(C.2.2 != 0)then some (false,y1.2)else(c2_ C.1 y1.2.m_.Xu).bind λy4=>( (bif y4.2 then some (y1.2.m_.Xu,y1.2.m_.Xe,y1.2.m_.Yz,y1.2.m_.Xt,y1.2.m_.Xm,y1.2.m_.Xl,y1.2.m_.Xu,y4.1,y1.2.port_)else some (y1.2.m_.Xu,y1.2.m_.Xe,y1.2.m_.Yz,y1.2.m_.Xt,y1.2.m_.Xm,y1.2.m_.Xl,y1.2.text_,y1.2.caps_,y1.2.port_)) ).bind λ(p:tX×tX×tX×tX×(tL Xx)×tX×tX×(tL Int)×tX)=>some (y4.2,(plumb_state.mk (Xq.mk p.1 p.2.1 p.2.2.1 p.2.2.2.1 p.2.2.2.2.1 p.2.2.2.2.2.1) p.2.2.2.2.2.2.1 p.2.2.2.2.2.2.2.1 p.2.2.2.2.2.2.2.2))))))else(bif(x1.Xp==[100,115,116])then(bif(x1.Xs==[105,115])then some ((y1.2.m_.Xe==y1.1),y1.2)else(bif(x1.Xs==[105,115,110])then some ((!(y1.2.m_.Xe==y1.1)),y1.2)else(bif(x1.Xs==[115,101,116])then some (true,(plumb_state.mk (Xq.mk y1.2.m_.Xu y1.1 y1.2.m_.Yz y1.2.m_.Xt y1.2.m_.Xm y1.2.m_.Xl) y1.2.text_ y1.2.caps_ y1.2.port_))else(bu_ x1.Yq).bind λy5=>(bif(y5.2.2 != 0)then some (false,y1.2)else(c2_ y5.1 y1.2.m_.Xe).bind λx=>( (bif x.2 then some (y1.2.m_.Xu,y1.2.m_.Xe,y1.2.m_.Yz,y1.2.m_.Xt,y1.2.m_.Xm,y1.2.m_.Xl,y1.2.m_.Xe,x.1,y1.2.port_)else some (y1.2.m_.Xu,y1.2.m_.Xe,y1.2.m_.Yz,y1.2.m_.Xt,y1.2.m_.Xm,y1.2.m_.Xl,y1.2.text_,y1.2.caps_,y1.2.port_)) ).bind λ(o2:tX×tX×tX×tX×(tL Xx)×tX×tX×(tL Int)×tX)=>some (x.2,(plumb_state.mk (Xq.mk o2.1 o2.2.1 o2.2.2.1 o2.2.2.2.1 o2.2.2.2.2.1 o2.2.2.2.2.2.1) o2.2.2.2.2.2.2.1 o2.2.2.2.2.2.2.2.1 o2.2.2.2.2.2.2.2.2))))))else(bif(x1.Xp==[119,100,105,114])then(bif(x1.Xs==[105,115])then some ((y1.2.m_.Yz==y1.1),y1.2)else(bif(x1.Xs==[105,115,110])then some ((!(y1.2.m_.Yz==y1.1)),y1.2)else(bif(x1.Xs==[115,101,116])then some (true,(plumb_state.mk (Xq.mk y1.2.m_.Xu y1.2.m_.Xe y1.1 y1.2.m_.Xt y1.2.m_.Xm y1.2.m_.Xl) y1.2.text_ y1.2.caps_ y1.2.port_))else(bu_ x1.Yq).bind λy=>(bif(y.2.2 != 0)then some (false,y1.2)else(c2_ y.1 y1.2.m_.Yz).bind λu=>( (bif u.2 then some (y1.2.m_.Xu,y1.2.m_.Xe,y1.2.m_.Yz,y1.2.m_.Xt,y1.2.m_.Xm,y1.2.m_.Xl,y1.2.m_.Yz,u.1,y1.2.port_)else some (y1.2.m_.Xu,y1.2.m_.Xe,y1.2.m_.Yz,y1.2.m_.Xt,y1.2.m_.Xm,y1.2.m_.Xl,y1.2.text_,y1.2.caps_,y1.2.port_)) ).bind λ(j:tX×tX×tX×tX×(tL Xx)×tX×tX×(tL Int)×tX)=>some (u.2,(plumb_state.mk (Xq.mk j.1 j.2.1 j.2.2.1 j.2.2.2.1 j.2.2.2.2.1 j.2.2.2.2.2.1) j.2.2.2.2.2.2.1 j.2.2.2.2.2.2.2.1 j.2.2.2.2.2.2.2.2))))))else(bif(x1.Xp==[116,121,112,101])then(bif(x1.Xs==[105,115])then some ((y1.2.m_.Xt==y1.1),y1.2)else(bif(x1.Xs==[105,115,110])then some ((!(y1.2.m_.Xt==y1.1)),y1.2)else(bif(x1.Xs==[115,101,116])then some (true,(plumb_state.mk (Xq.mk y1.2.m_.Xu y1.2.m_.Xe y1.2.m_.Yz y1.1 y1.2.m_.Xm y1.2.m_.Xl) y1.2.text_ y1.2.caps_ y1.2.port_))else(bu_ x1.Yq).bind λy9=>(bif(y9.2.2 != 0)then some (false,y1.2)else(c2_ y9.1 y1.2.m_.Xt).bind λy10=>( (bif y10.2 then some (y1.2.m_.Xu,y1.2.m_.Xe,y1.2.m_.Yz,y1.2.m_.Xt,y1.2.m_.Xm,y1.2.m_.Xl,y1.2.m_.Xt,y10.1,y1.2.port_)else some (y1.2.m_.Xu,y1.2.m_.Xe,y1.2.m_.Yz,y1.2.m_.Xt,y1.2.m_.Xm,y1.2.m_.Xl,y1.2.text_,y1.2.caps_,y1.2.port_)) ).bind λ(h:tX×tX×tX×tX×(tL Xx)×tX×tX×(tL Int)×tX)=>some (y10.2,(plumb_state.mk (Xq.mk h.1 h.2.1 h.2.2.1 h.2.2.2.1 h.2.2.2.2.1 h.2.2.2.2.2.1) h.2.2.2.2.2.2.1 h.2.2.2.2.2.2.2.1 h.2.2.2.2.2.2.2.2))))))else(bif(x1.Xs==[105,115])then some ((y1.2.m_.Xl==y1.1),y1.2)else(bif(x1.Xs==[105,115,110])then some ((!(y1.2.m_.Xl==y1.1)),y1.2)else(bif(x1.Xs==[115,101,116])then some (true,(plumb_state.mk (Xq.mk y1.2.m_.Xu y1.2.m_.Xe y1.2.m_.Yz y1.2.m_.Xt y1.2.m_.Xm y1.1) y1.2.text_ y1.2.caps_ y1.2.port_))else(bu_ x1.Yq).bind λs=>(bif(s.2.2 != 0)then some (false,y1.2)else(c2_ s.1 y1.2.m_.Xl).bind λq=>( (bif q.2 then some (y1.2.m_.Xu,y1.2.m_.Xe,y1.2.m_.Yz,y1.2.m_.Xt,y1.2.m_.Xm,y1.2.m_.Xl,y1.2.m_.Xl,q.1,y1.2.port_)else some (y1.2.m_.Xu,y1.2.m_.Xe,y1.2.m_.Yz,y1.2.m_.Xt,y1.2.m_.Xm,y1.2.m_.Xl,y1.2.text_,y1.2.caps_,y1.2.port_)) ).bind λ(f:tX×tX×tX×tX×(tL Xx)×tX×tX×(tL Int)×tX)=>some (q.2,(plumb_state.mk (Xq.mk f.1 f.2.1 f.2.2.1 f.2.2.2.1 f.2.2.2.2.1 f.2.2.2.2.2.1) f.2.2.2.2.2.2.1 f.2.2.2.2.2.2.2.1 f.2.2.2.2.2.2.2.2)))))))))))))
def dk_(x0:Xw)(f:Int×tX×tX×tX×tX×(tL Xx)×tX×tX×(tL Int)×tX):tO (Step (Int×tX×tX×tX×tX×(tL Xx)×tX×tX×(tL Int)×tX) (Out plumb_state (Xq×tX×tV))):=(bif decide (f.1<(x0.Xb.length:Int))then(ah_ x0.Xb f.1).bind λj=>(b3_ (plumb_state.mk (Xq.mk f.2.1 f.2.2.1 f.2.2.2.1 f.2.2.2.2.1 f.2.2.2.2.2.1 f.2.2.2.2.2.2.1) f.2.2.2.2.2.2.2.1 f.2.2.2.2.2.2.2.2.1 f.2.2.2.2.2.2.2.2.2) j).bind λh=>(bif(!h.1)then some (.done (.ret ((Xq.mk [] [] [] [] [] []),[],false)))else some (.next ((w64 (f.1+1)),h.2.m_.Xu,h.2.m_.Xe,h.2.m_.Yz,h.2.m_.Xt,h.2.m_.Xm,h.2.m_.Xl,h.2.text_,h.2.caps_,h.2.port_)))else some (.done (.fall (plumb_state.mk (Xq.mk f.2.1 f.2.2.1 f.2.2.2.1 f.2.2.2.2.1 f.2.2.2.2.2.1 f.2.2.2.2.2.2.1) f.2.2.2.2.2.2.2.1 f.2.2.2.2.2.2.2.2.1 f.2.2.2.2.2.2.2.2.2))))
def f2_(x0:Xw)(x1:Xq):tO (Xq×tX×tV):=(hr_ x0).bind λy1=>(bif(!y1)then some true else(c1_ x1).bind λp=>some (p != 0) ).bind λ(j:tV)=>(bif j then some ((Xq.mk [] [] [] [] [] []),[],false)else(aN_ x1.Xm).bind λy4=>(af_ (dk_ x0) BIG (0,x1.Xu,x1.Xe,x1.Yz,x1.Xt,y4,x1.Xl,[],[],[])).bind λ(f:Out plumb_state (Xq×tX×tV))=>match f with | .ret q=>some q | .fall h=>(c1_ h.m_).bind λy9=>(bif(y9 != 0)then some ((Xq.mk [] [] [] [] [] []),[],false)else some (h.m_,h.port_,true)))
def gS_(x0:tL Xw)(x1:Xq)(f:Int):tO (Step Int (Out Unit (Xq×tX×tV))):=(bif decide (f<(x0.length:Int))then(ah_ x0 f).bind λh=>(f2_ h x1).bind λy4=>(bif y4.2.2 then some (.done (.ret (y4.1,y4.2.1,true)))else some (.next (w64 (f+1))))else some (.done (.fall ())))
def d9_(x0:tL Xw)(x1:Xq):tO (Xq×tX×tV):=(af_ (gS_ x0 x1) BIG 0).bind λf=>match f with | .ret h=>some h | .fall _=>some ((Xq.mk [] [] [] [] [] []),[],false)
def bT_(x0:tL Xy)(x1:Xy->tO tV)(f:Int):tO (Step Int (Out Unit Int)):=(bif decide (f<(x0.length:Int))then(ah_ x0 f).bind λh=>(x1 h).bind λy4=>(bif y4 then some (.done (.ret (f)))else some (.next (w64 (f+1))))else some (.done (.fall ())))
def aR_(x0:tL Xy)(x1:Xy->tO tV):tO Int:=(af_ (bT_ x0 x1) BIG 0).bind λf=>match f with | .ret h=>some h | .fall _=>some (-1)
def fi_(x0:Xy)(x1:tX):tO tV:=some (x0.Xg==x1)
def dw_(x0:Xq):tO tV:=(d8_ x0).bind λy1=>some ((y1.2==0)&&decide ((y1.1.length:Int)<=65536))
def cB_(x0:Xk)(x1:Xq):tO (Xk×Int):=(co_ x0).bind λy1=>(d8_ x1).bind λp=>(bif(p.2 != 0)then some (y1,p.2)else(d9_ x0.Xd x1).bind λh=>( (bif(!h.2.2)then some (x1,x1.Xe)else some (h.1,h.2.1)) ).bind λ(j:Xq×tX)=>(aR_ y1.Xj (λ(y:Xy)=>(fi_ y j.2).bind λ(x:tV)=>some x)).bind λy4=>(bif decide (y4<0)then some (y1,51)else(ah_ y1.Xj y4).bind λy5=>(bif(y5.Xc==0)then some (y1,51)else(dw_ j.1).bind λu=>(bif(!u)then some (y1,4)else(ah_ y1.Xj y4).bind λs=>(bif decide ((s.Xn.length:Int)>=64)then some (y1,22)else(ah_ y1.Xj y4).bind λq=>(dg_ j.1).bind λy9=>(room 104 q.Xn [y9]).bind λy10=>(ah_ y1.Xj y4).bind λf=>some ((Xk.mk y1.Xd (y1.Xj.set y4.toNat (Xy.mk f.Xg y10 f.Xc))),0))))))
def eD_(x0:Xk)(x1:Int)(x2:Int)(x3:tX):tO (Xk×Int×Int):=(co_ x0).bind λy1=>(cN_ x0 x1).bind λh=>(bif(!h)then some (y1,0,8)else(bif(x1==1)then some (y1,0,10)else(bif decide (x2<0)then some (y1,0,1)else(bif decide (x1>=4)then some (y1,0,11)else(bif(x1==2)then(jG_ x3).bind λf=>(bif(f.2.2 != 0)then some (y1,0,f.2.2)else some ((Xk.mk f.1 y1.Xj),(x3.length:Int),0))else(jI_ x3).bind λy4=>(bif(y4.2 != 0)then some (y1,0,y4.2)else(cB_ x0 y4.1).bind λy5=>(bif(y5.2 != 0)then some (y5.1,0,y5.2)else some (y5.1,(x3.length:Int),0))))))))
def e8_(x0:Int)(x1:Int):tO tV:=(bif(x0==2)then some (((x1==0)||(x1==1))||(x1==2))else(bif(x0==3)then some (x1==1)else some (x1==0)))
def gv_(x0:Xk)(x1:Int)(x2:Int):tO (Xk×Int):=(co_ x0).bind λy1=>(cN_ x0 x1).bind λp=>(bif(!p)then some (y1,8)else(bif(decide ((le_ .i64 x2 80)<0)||decide ((le_ .i64 x2 80)>3))then some (y1,12)else(bif((x1==1)&&(x2 != 0))then some (y1,10)else(bif(x1==1)then some (y1,0)else(bif((andI .i64 x2 64) != 0)then some true else(e8_ x1 (le_ .i64 x2 80)).bind λj=>some (!j) ).bind λ(y4:tV)=>(bif y4 then some (y1,11)else(bif decide (x1<4)then some (y1,0)else(ah_ y1.Xj (w64 (x1-4))).bind λy5=>(bif decide (y5.Xc>=9007199254740991)then some (y1,22)else(ah_ y1.Xj (w64 (x1-4))).bind λh=>(ah_ y1.Xj (w64 (x1-4))).bind λf=>some ((Xk.mk y1.Xd (y1.Xj.set (w64 (x1-4)).toNat (Xy.mk f.Xg f.Xn (w64 (h.Xc+1))))),0))))))))
def fP_(h:Xw)(j:Int×(tL Int)):tO (Step (Int×(tL Int)) (tL Int)):=(bif decide (j.1<(h.Xb.length:Int))then(ah_ h.Xb j.1).bind λf=>(cat f.Xp [32]).bind λy=>(cat y f.Xs).bind λx=>(cat x [32]).bind λu=>(cat u f.Yq).bind λs=>(cat s [10]).bind λq=>(room 1 j.2 (aG_ q)).bind λp=>some (.next ((w64 (j.1+1)),p))else some (.done j.2))
def hR_(x0:tL Xw)(f:Int×(tL Int)):tO (Step (Int×(tL Int)) (Out (tL Int) (tX×Int))):=(bif decide (f.1<(x0.length:Int))then(ah_ x0 f.1).bind λh=>(hr_ h).bind λp=>(bif(!p)then some (.done (.ret ([],50)))else( (bif decide (f.1>0)then(room 1 f.2 (aG_ [10])).bind λj=>some j else some f.2) ).bind λ(s:(tL Int))=>(af_ (fP_ h) BIG (0,s)).bind λq=>some (.next ((w64 (f.1+1)),q)))else some (.done (.fall f.2)))
def gT_(x0:tL Xw):tO (tX×Int):=(bif decide ((x0.length:Int)>64)then some ([],22)else(af_ (hR_ x0) BIG (0,[])).bind λf=>match f with | .ret h=>some h | .fall j=>some ((bytesS j),0))
def fj_(x0:Xk)(x1:Int)(x2:Int)(x3:Int):tO (Xk×tX×tV×Int):=(co_ x0).bind λy1=>(cN_ x0 x1).bind λs=>(bif(!s)then some (y1,[],false,8)else(bif(x1==1)then some (y1,[],false,10)else(bif(decide (x2<0)||decide (x3<0))then some (y1,[],false,1)else(bif(x1==3)then some (y1,[],false,11)else(bif(x1==2)then(gT_ x0.Xd).bind λj=>(aP_ j.1 (cz_ x2 (j.1.length:Int)) (j.1.length:Int)).bind λy4=>(aP_ y4 0 (cz_ (cz_ x3 65536) (y4.length:Int))).bind λy5=>some (y1,y5,false,0)else(ah_ y1.Xj (w64 (x1-4))).bind λf=>(bif((f.Xn.length:Int)==0)then some (y1,[],true,0)else(ah_ f.Xn 0).bind λq=>(d8_ q).bind λh=>( (bif((h.2==0)&&decide ((h.1.length:Int)>(cz_ x3 65536)))then some 3 else some h.2) ).bind λ(p:Int)=>(bif(p != 0)then some (y1,[],false,p)else(aP_ f.Xn 1 (f.Xn.length:Int)).bind λy9=>some ((Xk.mk y1.Xd (y1.Xj.set (w64 (x1-4)).toNat (Xy.mk f.Xg y9 f.Xc))),h.1,false,0))))))))
def m3_(x0:Xy)(x1:tX):tO tV:=some (x0.Xg==x1)
def oW_(x0:Xk)(x1:Int)(x2:tX):tO (Int×Int):=(cN_ x0 x1).bind λy1=>(bif(!y1)then some (0,8)else(bif(x1 != 1)then some (0,9)else(bif(x2==[46,46])then some (1,0)else(bif(x2==[114,117,108,101,115])then some (2,0)else(bif(x2==[115,101,110,100])then some (3,0)else(aR_ x0.Xj (λ(j:Xy)=>(m3_ j x2).bind λ(h:tV)=>some h)).bind λf=>(bif decide (f<0)then some (0,8)else some ((w64 (4+f)),0)))))))
def bK_(x0:tL Xq)(x1:Xq->tO tV)(f:Int):tO (Step Int (Out Unit Int)):=(bif decide (f<(x0.length:Int))then(ah_ x0 f).bind λh=>(x1 h).bind λy4=>(bif y4 then some (.done (.ret (f)))else some (.next (w64 (f+1))))else some (.done (.fall ())))
def bB_(x0:tL Xq)(x1:Xq->tO tV):tO Int:=(af_ (bK_ x0 x1) BIG 0).bind λf=>match f with | .ret h=>some h | .fall _=>some (-1)
def ci_(x0:tL Xq)(x1:Xq->tO tV):tO tV:=(bB_ x0 x1).bind λy1=>some (decide (y1>=0))
def eu_(x0:Xq):tO tV:=(dw_ x0).bind λy1=>some (!y1)
def e9_(x0:Xy):tO tV:=(fg_ x0.Xg).bind λy1=>(bif(((((!y1)||decide (x0.Xc<0))||decide (x0.Xc>9007199254740991))||decide ((x0.Xn.length:Int)>64))||((x0.Xc==0)&&decide ((x0.Xn.length:Int)>0)))then some (false)else(ci_ x0.Xn (λ(j:Xq)=>(eu_ j).bind λ(h:tV)=>some h)).bind λf=>some (!f))
def fB_(x0:Xk)(f:Int):tO (Step Int (Out Unit tV)):=(bif decide (f<(x0.Xj.length:Int))then(ah_ x0.Xj f).bind λj=>(e9_ j).bind λp=>(bif(!p)then some true else(bif decide (f>0)then(ah_ x0.Xj (w64 (f-1))).bind λy9=>some (!(Op.bytesLess y9.Xg j.Xg))else some false).bind λ(y10:tV)=>some y10 ).bind λ(h:tV)=>(bif h then some (.done (.ret (false)))else some (.next (w64 (f+1))))else some (.done (.fall ())))
def fQ_(x0:Xk):tO tV:=(gT_ x0.Xd).bind λy1=>(bif((y1.2 != 0)||decide ((x0.Xj.length:Int)>16))then some (false)else(af_ (fB_ x0) BIG 0).bind λf=>match f with | .ret h=>some h | .fall _=>some (true))
def hs_:tO tV:=(p1_ [[119,101,98],[101,100,105,116]]).bind λy1=>(bif(y1.2 != 0)then some (false)else(bif((y1.1.Xj.length:Int) != 2)then some (false)else(ah_ y1.1.Xj 0).bind λq=>(bif(!(q.Xg==[101,100,105,116]))then some (false)else(eD_ y1.1 3 0 [97,10,101,100,105,116,10,10,116,101,120,116,10,10,50,10,104,105]).bind λp=>(bif(p.2.2 != 51)then some (false)else(gv_ y1.1 4 0).bind λy4=>(bif(y4.2 != 0)then some (false)else(eD_ y4.1 3 0 [97,10,101,100,105,116,10,10,116,101,120,116,10,10,50,10,104,105]).bind λy5=>(bif((y5.2.2 != 0)||(y5.2.1 != ([97,10,101,100,105,116,10,10,116,101,120,116,10,10,50,10,104,105].length:Int)))then some (false)else(fj_ y5.1 4 0 100).bind λf=>(bif(((!(f.2.1==[97,10,101,100,105,116,10,10,116,101,120,116,10,10,50,10,104,105]))||f.2.2.1)||(f.2.2.2 != 0))then some (false)else(fj_ f.1 4 0 100).bind λj=>(oW_ f.1 1 [119,101,98]).bind λh=>(bif(((j.2.2.1&&(j.2.2.2==0))&&(h.1==5))&&(h.2==0))then(fQ_ f.1).bind λy9=>some y9 else some false).bind λ(y10:tV)=>some (y10))))))))
def gU_(x0:tX)(h:Int):tO (Step Int (Out Unit tV)):=(bif decide (h<(x0.length:Int))then(ap_ x0 h).bind λf=>(bif((!(decide (f>=97)&&decide (f<=122)))&&((h==0)||(((!(decide (f>=48)&&decide (f<=57)))&&(f != 45))&&(f != 95))))then some (.done (.ret (false)))else some (.next (w64 (h+1))))else some (.done (.fall ())))
def jJ_(x0:tX):tO tV:=(bif(decide ((x0.length:Int)<1)||decide ((x0.length:Int)>32))then some (false)else(af_ (gU_ x0) BIG 0).bind λf=>match f with | .ret h=>some h | .fall _=>some (true))
def gV_(x0:tX):tO tV:=(jJ_ x0).bind λy1=>some ((y1&&(!(x0==[114,117,108,101,115])))&&(!(x0==[115,101,110,100])))
def eN_(x0:tL Xw)(u:Int)(x1:tL Xw)(f:Int):tO (Step Int (Out Unit tV)):=(ah_ x0 u).bind λs=>(bif decide (f<(s.Xb.length:Int))then(ah_ x0 u).bind λq=>(ah_ q.Xb f).bind λp=>(ah_ x1 u).bind λj=>(ah_ j.Xb f).bind λh=>(bif(!decide (p=h))then some (.done (.ret (false)))else some (.next (w64 (f+1))))else some (.done (.fall ())))
def eO_(x0:tL Xw)(x1:tL Xw)(f:Int):tO (Step Int (Out Unit tV)):=(bif decide (f<(x0.length:Int))then(ah_ x0 f).bind λj=>(ah_ x1 f).bind λh=>(bif((j.Xb.length:Int) != (h.Xb.length:Int))then some (.done (.ret (false)))else(af_ (eN_ x0 f x1) BIG 0).bind λp=>match p with | .ret q=>some (.done (.ret q)) | .fall _=>some (.next (w64 (f+1))))else some (.done (.fall ())))
def gh_(x0:tL Xw)(x1:tL Xw):tO tV:=(bif((x0.length:Int) != (x1.length:Int))then some (false)else(af_ (eO_ x0 x1) BIG 0).bind λf=>match f with | .ret h=>some h | .fall _=>some (true))
def eP_(x0:tL Xx)(x1:tL Xx)(f:Int):tO (Step Int (Out Unit tV)):=(bif decide (f<(x0.length:Int))then(ah_ x0 f).bind λh=>(ah_ x1 f).bind λy4=>(bif(!decide (h=y4))then some (.done (.ret (false)))else some (.next (w64 (f+1))))else some (.done (.fall ())))
def gi_(x0:tL Xx)(x1:tL Xx):tO tV:=(bif((x0.length:Int) != (x1.length:Int))then some (false)else(af_ (eP_ x0 x1) BIG 0).bind λf=>match f with | .ret h=>some h | .fall _=>some (true))
def kT_(x0:Xq)(x1:Xq):tO tV:=(bif(((((x0.Xu==x1.Xu)&&(x0.Xe==x1.Xe))&&(x0.Yz==x1.Yz))&&(x0.Xt==x1.Xt))&&(x0.Xl==x1.Xl))then(gi_ x0.Xm x1.Xm).bind λy1=>some y1 else some false).bind λ(f:tV)=>some (f)
def hS_(y10:Xy)(q:Xy)(f:Int):tO (Step Int (Out Unit tV)):=(bif decide (f<(y10.Xn.length:Int))then(ah_ y10.Xn f).bind λp=>(ah_ q.Xn f).bind λj=>(kT_ p j).bind λh=>(bif(!h)then some (.done (.ret (false)))else some (.next (w64 (f+1))))else some (.done (.fall ())))
def hT_(x0:Xk)(x1:Xk)(h:Int):tO (Step Int (Out Unit tV)):=(bif decide (h<(x0.Xj.length:Int))then(ah_ x0.Xj h).bind λy10=>(ah_ x1.Xj h).bind λf=>(bif(((!(y10.Xg==f.Xg))||(y10.Xc != f.Xc))||((y10.Xn.length:Int) != (f.Xn.length:Int)))then some (.done (.ret (false)))else(af_ (hS_ y10 f) BIG 0).bind λj=>match j with | .ret p=>some (.done (.ret p)) | .fall _=>some (.next (w64 (h+1))))else some (.done (.fall ())))
def kU_(x0:Xk)(x1:Xk):tO tV:=(gh_ x0.Xd x1.Xd).bind λy1=>(bif((!y1)||((x0.Xj.length:Int) != (x1.Xj.length:Int)))then some (false)else(af_ (hT_ x0 x1) BIG 0).bind λf=>match f with | .ret h=>some h | .fall _=>some (true))
def gW_(x0:Xq)(f:Int):tO (Step Int (Out Unit tV)):=(bif decide (f<(x0.Xm.length:Int))then(ah_ x0.Xm f).bind λy4=>(bif decide ((y4.Xg.length:Int)>1100)then some true else(ah_ x0.Xm f).bind λy5=>some (decide ((y5.Xr.length:Int)>1100)) ).bind λ(h:tV)=>(bif h then some (.done (.ret (false)))else some (.next (w64 (f+1))))else some (.done (.fall ())))
def ht_(x0:Xq):tO tV:=(bif(((((decide ((x0.Xu.length:Int)>1100)||decide ((x0.Xe.length:Int)>1100))||decide ((x0.Yz.length:Int)>1100))||decide ((x0.Xt.length:Int)>1100))||decide ((x0.Xm.length:Int)>40))||decide ((x0.Xl.length:Int)>70000))then some (false)else(af_ (gW_ x0) BIG 0).bind λf=>match f with | .ret h=>some h | .fall _=>some (true))
def gX_(p:Xw)(x0:Xk)(q:Int)(j:Int):tO (Step Int (Out Unit tV)):=(bif decide (j<(p.Xb.length:Int))then(ah_ x0.Xd q).bind λh=>(ah_ h.Xb j).bind λf=>(bif((decide ((f.Xp.length:Int)>300)||decide ((f.Xs.length:Int)>300))||decide ((f.Yq.length:Int)>300))then some (.done (.ret (false)))else some (.next (w64 (j+1))))else some (.done (.fall ())))
def gY_(x0:Xk)(f:Int):tO (Step Int (Out Unit tV)):=(bif decide (f<(x0.Xd.length:Int))then(ah_ x0.Xd f).bind λp=>(bif decide ((p.Xb.length:Int)>20)then some (.done (.ret (false)))else(ah_ x0.Xd f).bind λj=>(af_ (gX_ j x0 f) BIG 0).bind λh=>match h with | .ret q=>some (.done (.ret q)) | .fall _=>some (.next (w64 (f+1))))else some (.done (.fall ())))
def gZ_(q:Xy)(x0:Xk)(s:Int×Int)(f:Int×Int):tO (Step (Int×Int) (Out Int tV)):=(bif decide (f.2<(q.Xn.length:Int))then(ah_ x0.Xj s.2).bind λp=>(ah_ p.Xn f.2).bind λh=>(ht_ h).bind λj=>(bif((!j)||decide ((w64 (f.1+(h.Xl.length:Int)))>200000))then some (.done (.ret (false)))else some (.next ((w64 (f.1+(h.Xl.length:Int))),(w64 (f.2+1)))))else some (.done (.fall f.1)))
def g0_(x0:Xk)(f:Int×Int):tO (Step (Int×Int) (Out Unit tV)):=(bif decide (f.2<(x0.Xj.length:Int))then(ah_ x0.Xj f.2).bind λq=>(bif decide ((q.Xn.length:Int)>70)then some true else(ah_ x0.Xj f.2).bind λp=>some (decide ((p.Xg.length:Int)>1000)) ).bind λ(j:tV)=>(bif j then some (.done (.ret (false)))else(ah_ x0.Xj f.2).bind λh=>(af_ (gZ_ h x0 f) BIG (f.1,0)).bind λs=>match s with | .ret u=>some (.done (.ret u)) | .fall x=>some (.next (x,(w64 (f.2+1)))))else some (.done (.fall ())))
def jK_(x0:Xk):tO tV:=(bif(decide ((x0.Xj.length:Int)>20)||decide ((x0.Xd.length:Int)>70))then some (false)else(af_ (gY_ x0) BIG 0).bind λh=>match h with | .ret p=>some p | .fall _=>(af_ (g0_ x0) BIG (0,0)).bind λf=>match f with | .ret j=>some j | .fall _=>some (true))
def hU_(x0:tX)(f:Int):tO (Step Int (Out Unit Int)):=(bif decide (f<(x0.length:Int))then(ap_ x0 f).bind λh=>(bif(h==10)then some (.done (.ret (2)))else some (.next (w64 (f+1))))else some (.done (.fall ())))
def iV_(x0:tX):tO Int:=(bif decide ((x0.length:Int)>1024)then some (4)else(af_ (hU_ x0) BIG 0).bind λf=>match f with | .ret h=>some h | .fall _=>some (0))
def hu_(x0:tX):tO tV:=some (((((x0==[115,114,99])||(x0==[100,115,116]))||(x0==[119,100,105,114]))||(x0==[116,121,112,101]))||(x0==[100,97,116,97]))
def bb_(x0:Xv)(x1:Xz):tO Xv:=(room 56 x0.L_ [x1]).bind λy1=>some ({x0 with L_:=y1})
def b4_(x0:tX)(x1:Xv)(x2:Int):tO (tV×Xv):=(bif((!x1.Yv)&&decide (x1.At_<(x0.length:Int)))then(ap_ x0 x1.At_).bind λy1=>some (y1==x2)else some false).bind λ(f:tV)=>some (f,x1)
def g1_(x0:tX)(f:Int×Int×tV×(tL Xz)×(tL Int)):tO (Step (Int×Int×tV×(tL Xz)×(tL Int)) (Out (Int×Int×tV×(tL Xz)×(tL Int)) Xv)):=(bif decide (f.1<(x0.length:Int))then(ap_ x0 f.1).bind λY=>some ((Y != 93)||((f.2.2.2.2.length:Int)==0))else some false).bind λ(V:tV)=>(bif V then(ap_ x0 f.1).bind λU=>(bif(U==93)then some true else(ap_ x0 f.1).bind λO=>some (O==45) ).bind λ(M:tV)=>(bif M then some (.done (.ret (Xv.mk f.2.2.2.1 f.1 f.2.1 true)))else( (ap_ x0 f.1).bind λy=>(bif(y != 92)then some (y,f.2.2.2.1,(w64 (f.1+1)),f.2.1,f.2.2.1)else(bif((w64 (f.1+1))==(x0.length:Int))then some (0,f.2.2.2.1,(w64 (f.1+1)),f.2.1,true)else(ap_ x0 (w64 (f.1+1))).bind λu=>(bif(u==110)then some (10,f.2.2.2.1,(w64 ((w64 (f.1+1))+1)),f.2.1,f.2.2.1)else(bif(u==116)then some (9,f.2.2.2.1,(w64 ((w64 (f.1+1))+1)),f.2.1,f.2.2.1)else some (u,f.2.2.2.1,(w64 ((w64 (f.1+1))+1)),f.2.1,f.2.2.1))))) ).bind λ(h:Int×(tL Xz)×Int×Int×tV)=>( (b4_ x0 (Xv.mk h.2.1 h.2.2.1 h.2.2.2.1 h.2.2.2.2) 45).bind λj=>(bif j.1 then(bif((w64 (h.2.2.1+1))==(x0.length:Int))then some true else(ap_ x0 (w64 (h.2.2.1+1))).bind λJ=>some (J==93) ).bind λ(G:tV)=>(bif G then some true else(ap_ x0 (w64 (h.2.2.1+1))).bind λF=>some (F==45) ).bind λ(D:tV)=>(bif D then some (.ret (Xv.mk j.2.L_ (w64 (h.2.2.1+1)) h.2.2.2.1 true))else( (ap_ x0 (w64 (h.2.2.1+1))).bind λx=>(bif(x != 92)then some (x,j.2.L_,(w64 ((w64 (h.2.2.1+1))+1)),h.2.2.2.1,h.2.2.2.2)else(bif((w64 ((w64 (h.2.2.1+1))+1))==(x0.length:Int))then some (0,j.2.L_,(w64 ((w64 (h.2.2.1+1))+1)),h.2.2.2.1,true)else(ap_ x0 (w64 ((w64 (h.2.2.1+1))+1))).bind λs=>(bif(s==110)then some (10,j.2.L_,(w64 ((w64 ((w64 (h.2.2.1+1))+1))+1)),h.2.2.2.1,h.2.2.2.2)else(bif(s==116)then some (9,j.2.L_,(w64 ((w64 ((w64 (h.2.2.1+1))+1))+1)),h.2.2.2.1,h.2.2.2.2)else some (s,j.2.L_,(w64 ((w64 ((w64 (h.2.2.1+1))+1))+1)),h.2.2.2.1,h.2.2.2.2))))) ).bind λ(p:Int×(tL Xz)×Int×Int×tV)=>(bif((!p.2.2.2.2)&&decide (p.1<h.1))then some (.fall (p.1,p.2.1,(maxI (w64 (h.2.2.1+1)) (w64 (p.2.2.1-1))),p.2.2.2.1,true))else some (.fall (p.1,p.2.1,p.2.2.1,p.2.2.2.1,p.2.2.2.2))))else some (.fall (h.1,j.2.L_,h.2.2.1,h.2.2.2.1,h.2.2.2.2))) ).bind λ(Z:Out (Int×(tL Xz)×Int×Int×tV) Xv)=>match Z with | .ret r7=>some (.done (.ret r7)) | .fall q=>(bif q.2.2.2.2 then some (.done (.ret (Xv.mk q.2.1 q.2.2.1 q.2.2.2.1 q.2.2.2.2)))else(room 1 f.2.2.2.2 [h.1,q.1]).bind λC=>some (.next (q.2.2.1,q.2.2.2.1,q.2.2.2.2,q.2.1,C))))else some (.done (.fall (f.1,f.2.1,f.2.2.1,f.2.2.2.1,f.2.2.2.2))))
def hv_(x0:tX)(x1:Xv):tO Xv:=( (b4_ x0 {x1 with At_:=(w64 (x1.At_+1))} 94).bind λy1=>(bif y1.1 then some ((w64 ((w64 (x1.At_+1))+1)),x1.N_,x1.Yv,y1.2.L_,(Xz.mk 3 0 [] true 0 0))else some ((w64 (x1.At_+1)),x1.N_,x1.Yv,y1.2.L_,(Xz.mk 3 0 [] false 0 0))) ).bind λ(h:Int×Int×tV×(tL Xz)×Xz)=>(af_ (g1_ x0) BIG (h.1,h.2.1,h.2.2.1,h.2.2.2.1,[])).bind λ(p:Out (Int×Int×tV×(tL Xz)×(tL Int)) Xv)=>match p with | .ret q=>some q | .fall f=>(bif(f.1==(x0.length:Int))then some (Xv.mk f.2.2.2.1 f.1 f.2.1 true)else(bb_ (Xv.mk f.2.2.2.1 (w64 (f.1+1)) f.2.1 f.2.2.1) (Xz.mk h.2.2.2.2.Op_ h.2.2.2.2.C_ (bytesS f.2.2.2.2) h.2.2.2.2.Ys h.2.2.2.2.X_ h.2.2.2.2.Y_)).bind λj=>some (j))
def ih_(x0:Int)(f:Int):tO (Step Int (Out Unit tV)):=(bif decide (f<([40,41,124,42,43,63,46,94,36,91,92].length:Int))then(ap_ [40,41,124,42,43,63,46,94,36,91,92] f).bind λh=>(bif(h==x0)then some (.done (.ret (true)))else some (.next (w64 (f+1))))else some (.done (.fall ())))
def hV_(x0:Int):tO tV:=(af_ (ih_ x0) BIG 0).bind λf=>match f with | .ret h=>some h | .fall _=>some (false)
def bC_(p:tX->Xv->tO Xv)(x0:tX)(x1:Xv):tO Xv:=(ap_ x0 x1.At_).bind λy1=>( (bif(y1==40)then(bif decide (x1.N_>=9)then some (.ret ({x1 with Yv:=true}))else(bb_ {x1 with At_:=(w64 (x1.At_+1)),N_:=(w64 (x1.N_+1))} (Xz.mk 8 0 [] false (w64 (2*(w64 (x1.N_+1)))) 0)).bind λ(D:Xv)=>(p x0 D).bind λx=>(b4_ x0 x 41).bind λy4=>(bif(!y4.1)then some (.ret ({x with L_:=y4.2.L_,Yv:=true}))else(bb_ {x with L_:=y4.2.L_} (Xz.mk 8 0 [] false (w64 ((w64 (2*(w64 (x1.N_+1))))+1)) 0)).bind λ(y5:Xv)=>some (.fall (y5.At_,y5.N_,y5.Yv,y5.L_))))else(bif(y1==46)then(bb_ x1 (Xz.mk 2 0 [] false 0 0)).bind λ(u:Xv)=>some (.fall (u.At_,u.N_,u.Yv,u.L_))else(bif(y1==94)then(bb_ x1 (Xz.mk 4 0 [] false 0 0)).bind λ(s:Xv)=>some (.fall (s.At_,s.N_,s.Yv,s.L_))else(bif(y1==36)then(bb_ x1 (Xz.mk 5 0 [] false 0 0)).bind λ(q:Xv)=>some (.fall (q.At_,q.N_,q.Yv,q.L_))else(bif(y1==91)then(hv_ x0 x1).bind λy9=>some (.ret (y9))else(hV_ y1).bind λy10=>(bif(y10&&(y1 != 92))then some (.ret ({x1 with Yv:=true}))else( (ap_ x0 x1.At_).bind λj=>(bif(j != 92)then some (j,(w64 (x1.At_+1)),x1.N_,x1.Yv,x1.L_)else(bif((w64 (x1.At_+1))==(x0.length:Int))then some (0,(w64 (x1.At_+1)),x1.N_,true,x1.L_)else(ap_ x0 (w64 (x1.At_+1))).bind λh=>(bif(h==110)then some (10,(w64 ((w64 (x1.At_+1))+1)),x1.N_,x1.Yv,x1.L_)else(bif(h==116)then some (9,(w64 ((w64 (x1.At_+1))+1)),x1.N_,x1.Yv,x1.L_)else some (h,(w64 ((w64 (x1.At_+1))+1)),x1.N_,x1.Yv,x1.L_))))) ).bind λ(f:Int×Int×Int×tV×(tL Xz))=>(bif f.2.2.2.1 then some (.ret (Xv.mk f.2.2.2.2 f.2.1 f.2.2.1 f.2.2.2.1))else(bb_ (Xv.mk f.2.2.2.2 f.2.1 f.2.2.1 f.2.2.2.1) (Xz.mk 1 f.1 [] false 0 0)).bind λ(y:Xv)=>some (.ret (y))))))))) ).bind λ(C:Out (Int×Int×tV×(tL Xz)) Xv)=>match C with | .ret F=>some F | .fall o2=>some (Xv.mk o2.2.2.2 (w64 (o2.1+1)) o2.2.1 o2.2.2.1)
def eQ_(f:Int×(tL Xz)×(tL Xz)):tO (Step (Int×(tL Xz)×(tL Xz)) ((tL Xz)×(tL Xz))):=(bif decide (f.1<(f.2.1.length:Int))then(ah_ f.2.1 f.1).bind λh=>( (bif((h.Op_==6)||(h.Op_==7))then some {h with X_:=(w64 (h.X_+1))}else some h) ).bind λ(j:Xz)=>( (bif(j.Op_==6)then some {j with Y_:=(w64 (j.Y_+1))}else some j) ).bind λ(q:Xz)=>(room 56 f.2.2 [q]).bind λp=>some (.next ((w64 (f.1+1)),f.2.1,p))else some (.done (f.2.1,f.2.2)))
def fk_(x0:Xv)(x1:Int)(x2:Xz):tO Xv:=(aP_ x0.L_ 0 x1).bind λ_=>(room 56 ([]:tL Xz) (x0.L_.take x1.toNat)).bind λh=>(room 56 h [x2]).bind λf=>(af_ eQ_ BIG (x1,x0.L_,f)).bind λj=>some ({x0 with L_:=j.2})
def dL_(f:tX->Xv->tO Xv)(x0:tX)(x1:Xv):tO Xv:=(bC_ f x0 x1).bind λy1=>( (b4_ x0 y1 42).bind λs=>(bif s.1 then(fk_ {y1 with L_:=s.2.L_,At_:=(w64 (y1.At_+1))} (x1.L_.length:Int) (Xz.mk 6 0 [] false (w64 ((x1.L_.length:Int)+1)) 0)).bind λ(u:Xv)=>(bb_ u (Xz.mk 7 0 [] false (x1.L_.length:Int) 0)).bind λ(y4:Xv)=>(ah_ y4.L_ (x1.L_.length:Int)).bind λy5=>some (y4.At_,y4.N_,y4.Yv,(y4.L_.set (x1.L_.length:Int).toNat {y5 with Y_:=(y4.L_.length:Int)}))else(b4_ x0 {y1 with L_:=s.2.L_} 43).bind λj=>(bif j.1 then(bb_ {y1 with L_:=j.2.L_,At_:=(w64 (y1.At_+1))} (Xz.mk 6 0 [] false (x1.L_.length:Int) (w64 ((j.2.L_.length:Int)+1)))).bind λ(h:Xv)=>some (h.At_,h.N_,h.Yv,h.L_)else(b4_ x0 {y1 with L_:=j.2.L_} 63).bind λq=>(bif q.1 then(fk_ {y1 with L_:=q.2.L_,At_:=(w64 (y1.At_+1))} (x1.L_.length:Int) (Xz.mk 6 0 [] false (w64 ((x1.L_.length:Int)+1)) 0)).bind λ(y9:Xv)=>(ah_ y9.L_ (x1.L_.length:Int)).bind λy10=>some (y9.At_,y9.N_,y9.Yv,(y9.L_.set (x1.L_.length:Int).toNat {y10 with Y_:=(y9.L_.length:Int)}))else some (y1.At_,y1.N_,y1.Yv,q.2.L_)))) ).bind λ(p:Int×Int×tV×(tL Xz))=>some (Xv.mk p.2.2.2 p.1 p.2.1 p.2.2.1)
def bW_(x0:tX)(h:tX->Xv->tO Xv)(f:Int×Int×tV×(tL Xz)):tO (Step (Int×Int×tV×(tL Xz)) (Int×Int×tV×(tL Xz))):=(bif((!f.2.2.1)&&decide (f.1<(x0.length:Int)))then(ap_ x0 f.1).bind λq=>some (q != 124)else some false).bind λ(p:tV)=>(bif p then(ap_ x0 f.1).bind λj=>some (j != 41)else some false).bind λ(y9:tV)=>(bif y9 then(dL_ h x0 (Xv.mk f.2.2.2 f.1 f.2.1 f.2.2.1)).bind λy10=>some (.next (y10.At_,y10.N_,y10.Yv,y10.L_))else some (.done (f.1,f.2.1,f.2.2.1,f.2.2.2)))
def fl_(f:tX->Xv->tO Xv)(x0:tX)(x1:Xv):tO Xv:=(af_ (bW_ x0 f) BIG (x1.At_,x1.N_,x1.Yv,x1.L_)).bind λh=>some (Xv.mk h.2.2.2 h.1 h.2.1 h.2.2.1)
def eE_(f:tX->Xv->tO Xv)(x0:tX)(x1:Xv):tO Xv:=(fl_ f x0 x1).bind λy1=>(b4_ x0 y1 124).bind λp=>(bif(!p.1)then some ({y1 with L_:=p.2.L_})else(fk_ {y1 with L_:=p.2.L_,At_:=(w64 (y1.At_+1))} (x1.L_.length:Int) (Xz.mk 6 0 [] false (w64 ((x1.L_.length:Int)+1)) 0)).bind λ(j:Xv)=>(bb_ j (Xz.mk 7 0 [] false 0 0)).bind λ(y4:Xv)=>(ah_ y4.L_ (x1.L_.length:Int)).bind λy5=>(f x0 {y4 with L_:=(y4.L_.set (x1.L_.length:Int).toNat {y5 with Y_:=(y4.L_.length:Int)})}).bind λh=>(ah_ h.L_ (j.L_.length:Int)).bind λq=>some ({h with L_:=(h.L_.set (j.L_.length:Int).toNat {q with X_:=(h.L_.length:Int)})}))
def aL_:Nat->tX->Xv->tO Xv | 0=>λ_ _=>none|n+1=>eE_ (aL_ n)
def b7_(x0:tX):tO (Xh×Int×Int):=(bif decide ((x0.length:Int)>256)then some ((Xh.mk [] 0),0,4)else(bb_ (Xv.mk [] 0 0 false) (Xz.mk 8 0 [] false 0 0)).bind λ(y1:Xv)=>(aL_ BIG x0 y1).bind λf=>(bif(f.Yv||decide (f.At_<(x0.length:Int)))then some ((Xh.mk [] 0),f.At_,49)else(bb_ f (Xz.mk 8 0 [] false 1 0)).bind λ(h:Xv)=>(bb_ h (Xz.mk 9 0 [] false 0 0)).bind λ(y4:Xv)=>some ((Xh.mk y4.L_ (w64 (y4.N_+1))),0,0)))
def fR_(x0:Xf):tO tV:=(bif(x0.Yq==[])then some true else(iV_ x0.Yq).bind λy1=>some (y1 != 0) ).bind λ(j:tV)=>(bif j then some (false)else( (bif(x0.Xs==[105,115])then some (x0.Xs==[105,115])else some (x0.Xs==[105,115,110])) ).bind λ(p:tV)=>(bif p then(hu_ x0.Xp).bind λh=>some (h||(x0.Xp==[97,116,116,114]))else(bif(x0.Xs==[115,101,116])then(hu_ x0.Xp).bind λy4=>some (y4)else(bif(x0.Xs==[109,97,116,99,104,101,115])then(b7_ x0.Yq).bind λy5=>(hu_ x0.Xp).bind λf=>some (f&&(y5.2.2==0))else( (bif(x0.Xs==[97,100,100])then some (x0.Xs==[97,100,100])else some (x0.Xs==[100,101,108,101,116,101])) ).bind λ(o2:tV)=>(bif o2 then some (x0.Xp==[97,116,116,114])else(bif(x0.Xs==[116,111])then some (x0.Xp==[112,108,117,109,98])else some (false)))))))
def jp_(x0:Xw)(f:Int):tO (Step Int (Out Unit tV)):=(bif decide (f<(x0.Xb.length:Int))then(ah_ x0.Xb f).bind λy5=>(fR_ y5).bind λp=>(bif(!p)then some true else(ah_ x0.Xb f).bind λj=>some (!((j.Xp==[112,108,117,109,98])==(f==(w64 ((x0.Xb.length:Int)-1))))) ).bind λ(h:tV)=>(bif h then some (.done (.ret (false)))else some (.next (w64 (f+1))))else some (.done (.fall ())))
def hw_(x0:Xw):tO tV:=(bif(decide ((x0.Xb.length:Int)<1)||decide ((x0.Xb.length:Int)>32))then some (false)else(af_ (jp_ x0) BIG 0).bind λf=>match f with | .ret h=>some h | .fall _=>some (true))
def fS_(x0:tL Xw)(D:tX×Int)(h:tX×Int):tO (Step (tX×Int) tX):=(ah_ x0 D.2).bind λC=>(bif decide (h.2<(C.Xb.length:Int))then(ah_ x0 D.2).bind λy=>(ah_ y.Xb h.2).bind λf=>(cat h.1 f.Xp).bind λx=>(cat x [32]).bind λu=>(cat u f.Xs).bind λs=>(cat s [32]).bind λq=>(cat q f.Yq).bind λp=>(cat p [10]).bind λj=>some (.next (j,(w64 (h.2+1))))else some (.done h.1))
def hW_(x0:tL Xw)(f:tX×Int):tO (Step (tX×Int) (Out tX (tX×Int))):=(bif decide (f.2<(x0.length:Int))then(ah_ x0 f.2).bind λp=>(hw_ p).bind λj=>(bif(!j)then some (.done (.ret ([],50)))else( (bif decide (f.2>0)then(cat f.1 [10]).bind λh=>some h else some f.1) ).bind λ(s:tX)=>(af_ (fS_ x0 f) BIG (s,0)).bind λq=>some (.next (q,(w64 (f.2+1)))))else some (.done (.fall f.1)))
def iW_(x0:tL Xw):tO (tX×Int):=(bif decide ((x0.length:Int)>64)then some ([],22)else(af_ (hW_ x0) BIG ([],0)).bind λ(f:Out tX (tX×Int))=>match f with | .ret h=>some h | .fall j=>some (j,0))
def iX_(x0:tX):tO tV:=(bif decide ((x0.length:Int)>0)then(ap_ x0 0).bind λy1=>some (y1==33)else some false).bind λ(f:tV)=>some (f)
def hX_(h:tX)(f:Int):tO (Step Int (Out Unit tV)):=(bif decide (f<(h.length:Int))then(ap_ h f).bind λJ=>(bif decide (J>=97)then(ap_ h f).bind λG=>some (decide (G<=122))else some false).bind λ(F:tV)=>(bif(!F)then(bif(f==0)then some true else(ap_ h f).bind λD=>(bif decide (D>=48)then(ap_ h f).bind λC=>some (decide (C<=57))else some false).bind λ(y:tV)=>(bif y then some true else(ap_ h f).bind λx=>some (x==45) ).bind λ(u:tV)=>(bif u then some true else(ap_ h f).bind λs=>some (s==95) ).bind λ(q:tV)=>some (!q) ).bind λ(p:tV)=>some p else some false).bind λ(j:tV)=>(bif j then some (.done (.ret (false)))else some (.next (w64 (f+1))))else some (.done (.fall ())))
def kV_(x0:tX):tO tV:=( (iX_ x0).bind λy1=>(bif y1 then(aP_ x0 1 (x0.length:Int)).bind λj=>some j else some x0) ).bind λ(h:tX)=>(af_ (hX_ h) BIG 0).bind λf=>match f with | .ret p=>some p | .fall _=>some (decide ((h.length:Int)>=1)&&decide ((h.length:Int)<=32))
def g2_(x0:tX)(f:Int):tO (Step Int (Out Unit tV)):=(bif decide (f<(x0.length:Int))then(ap_ x0 f).bind λp=>(bif(p==0)then some true else(ap_ x0 f).bind λj=>some (j==10) ).bind λ(h:tV)=>(bif h then some true else(ap_ x0 f).bind λy9=>some (y9==13) ).bind λ(y10:tV)=>(bif y10 then some (.done (.ret (false)))else some (.next (w64 (f+1))))else some (.done (.fall ())))
def jL_(x0:tX):tO tV:=(af_ (g2_ x0) BIG 0).bind λf=>match f with | .ret h=>some h | .fall _=>some (true)
def iY_(x0:tL Xx)(x1:Xx)(f:Int):tO (Step Int (Out Unit Int)):=(bif decide (f<(x0.length:Int))then(ah_ x0 f).bind λy5=>(bif(y5.Xg==x1.Xg)then some (.done (.ret (7)))else some (.next (w64 (f+1))))else some (.done (.fall ())))
def iv_(x0:tL Xx)(x1:Xx):tO Int:=(bif decide ((x0.length:Int)>=32)then some (22)else(kV_ x1.Xg).bind λy1=>(bif(!y1)then some (6)else(bif(x1.Xi&&(!(x1.Xr==[])))then some true else(jL_ x1.Xr).bind λj=>some (!j) ).bind λ(h:tV)=>(bif h then some (2)else(bif decide ((x1.Xr.length:Int)>1024)then some (4)else(af_ (iY_ x0 x1) BIG 0).bind λf=>match f with | .ret p=>some p | .fall _=>some (0)))))
def g3_(x0:tL Xx)(f:Int):tO (Step Int (Out Unit Int)):=(bif decide (f<(x0.length:Int))then(aP_ x0 0 f).bind λy4=>(ah_ x0 f).bind λy5=>(iv_ y4 y5).bind λh=>(bif(h != 0)then some (.done (.ret (h)))else some (.next (w64 (f+1))))else some (.done (.fall ())))
def hx_(x0:tL Xx):tO Int:=(af_ (g3_ x0) BIG 0).bind λf=>match f with | .ret h=>some h | .fall _=>some (0)
def g4_(f:Int×(tL tX)):tO (Step (Int×(tL tX)) (Out Unit Int)):=(bif decide (f.1<(f.2.length:Int))then(ah_ f.2 f.1).bind λh=>(iV_ h).bind λy4=>(bif(y4 != 0)then some (.done (.ret (y4)))else some (.next ((w64 (f.1+1)),f.2)))else some (.done (.fall ())))
def g5_(x0:Xq)(f:Int):tO (Step Int (Out Unit Int)):=(bif decide (f<(x0.Xm.length:Int))then(ah_ x0.Xm f).bind λh=>(bif h.Xi then some (.done (.ret (2)))else some (.next (w64 (f+1))))else some (.done (.fall ())))
def e0_(x0:Xq):tO Int:=(af_ g4_ BIG (0,[x0.Xu,x0.Xe,x0.Yz,x0.Xt])).bind λh=>match h with | .ret p=>some p | .fall _=>(hx_ x0.Xm).bind λy5=>(bif(y5 != 0)then some (y5)else(af_ (g5_ x0) BIG 0).bind λf=>match f with | .ret j=>some j | .fall _=>(bif decide ((x0.Xl.length:Int)>65536)then some (4)else some (0)))
def fm_(x0:tX)(f:tX×tV×Int):tO (Step (tX×tV×Int) (tX×tV)):=(bif decide (f.2.2<(x0.length:Int))then( (bif f.2.1 then some true else(ap_ x0 f.2.2).bind λD=>some (D==32) ).bind λ(C:tV)=>(bif C then some true else(ap_ x0 f.2.2).bind λy=>some (y==9) ).bind λ(x:tV)=>(bif x then some true else(ap_ x0 f.2.2).bind λu=>some (u==39) ).bind λ(j:tV)=>(aP_ x0 f.2.2 (w64 (f.2.2+1))).bind λs=>(cat f.1 s).bind λh=>(ap_ x0 f.2.2).bind λq=>(bif(q==39)then(cat h [39]).bind λp=>some (p,j)else some (h,j)) ).bind λ(o2:tX×tV)=>some (.next (o2.1,o2.2,(w64 (f.2.2+1))))else some (.done (f.1,f.2.1)))
def jM_(x0:tX):tO tX:=(af_ (fm_ x0) BIG ([],(x0==[]),0)).bind λ(j:tX×tV)=>(bif j.2 then(cat [39] j.1).bind λh=>(cat h [39]).bind λf=>some (f)else some (x0))
def fn_(x0:tL Xx)(f:tX×Int):tO (Step (tX×Int) tX):=(bif decide (f.2<(x0.length:Int))then( ( (bif decide (f.2>0)then(cat f.1 [32]).bind λF=>some F else some f.1) ).bind λ(G:tX)=>(ah_ x0 f.2).bind λD=>(bif D.Xi then(ah_ x0 f.2).bind λC=>(cat G C.Xg).bind λy=>(cat y [63]).bind λx=>some x else(ah_ x0 f.2).bind λu=>(cat G u.Xg).bind λs=>(cat s [61]).bind λq=>(ah_ x0 f.2).bind λp=>(jM_ p.Xr).bind λj=>(cat q j).bind λh=>some h) ).bind λ(J:tX)=>some (.next (J,(w64 (f.2+1))))else some (.done f.1))
def jN_(x0:tL Xx):tO (tX×Int):=(hx_ x0).bind λy1=>(bif(y1 != 0)then some ([],y1)else(af_ (fn_ x0) BIG ([],0)).bind λ(f:tX)=>some (f,0))
def jO_(x0:Int):tO tV:=some (((x0==8)||(x0==10))||(x0==16))
def dF_(x1:Int)(f:Int×tX):tO (Step (Int×tX) tX):=(bif(decide (f.1<0)||(f.2==[]))then(remI f.1 x1).bind λy5=>(aP_ [48,49,50,51,52,53,54,55,56,57,97,98,99,100,101,102] (w64 (0-y5)) (w64 ((w64 (0-y5))+1))).bind λp=>(cat p f.2).bind λj=>(quoI .i64 f.1 x1).bind λh=>some (.next (h,j))else some (.done f.2))
def iZ_(x0:Int)(x1:Int):tO tX:=(af_ (dF_ x1) BIG (x0,[])).bind λ(f:tX)=>some (f)
def kW_(x0:Int)(x1:Int):tO tX:=(jO_ x1).bind λy1=>(bif(!y1)then some ([])else(bif decide (x0<0)then(iZ_ x0 x1).bind λh=>(cat [45] h).bind λf=>some (f)else(iZ_ (w64 (0-x0)) x1).bind λy4=>some (y4)))
def e1_(x0:Xq):tO (tX×Int):=(e0_ x0).bind λy1=>(bif(y1 != 0)then some ([],y1)else(jN_ x0.Xm).bind λC=>(cat x0.Xu [10]).bind λy=>(cat y x0.Xe).bind λy4=>(cat y4 [10]).bind λy5=>(cat y5 x0.Yz).bind λx=>(cat x [10]).bind λu=>(cat u x0.Xt).bind λs=>(cat s [10]).bind λy9=>(cat y9 C.1).bind λy10=>(cat y10 [10]).bind λq=>(kW_ (x0.Xl.length:Int) 10).bind λp=>(cat q p).bind λj=>(cat j [10]).bind λh=>(cat h x0.Xl).bind λf=>some (f,0))
def g6_(h:Xy)(p:Int):tO (Step Int (Out Unit tV)):=(bif decide (p<(h.Xn.length:Int))then(ah_ h.Xn p).bind λj=>(e1_ j).bind λf=>(bif((f.2 != 0)||decide ((f.1.length:Int)>65536))then some (.done (.ret (false)))else some (.next (w64 (p+1))))else some (.done (.fall ())))
def g7_(x0:Xk)(h:Int):tO (Step Int (Out Unit tV)):=(bif decide (h<(x0.Xj.length:Int))then(ah_ x0.Xj h).bind λf=>(gV_ f.Xg).bind λs=>(bif(!s)then some true else(bif decide (h>0)then(ah_ x0.Xj (w64 (h-1))).bind λq=>some (!(Op.bytesLess q.Xg f.Xg))else some false).bind λ(p:tV)=>some p ).bind λ(j:tV)=>(bif((((j||decide (f.Xc<0))||decide (f.Xc>9007199254740991))||decide ((f.Xn.length:Int)>64))||((f.Xc==0)&&decide ((f.Xn.length:Int)>0)))then some (.done (.ret (false)))else(af_ (g6_ f) BIG 0).bind λu=>match u with | .ret x=>some (.done (.ret x)) | .fall _=>some (.next (w64 (h+1))))else some (.done (.fall ())))
def jP_(x0:Xk):tO tV:=(iW_ x0.Xd).bind λy1=>(bif((y1.2 != 0)||decide ((x0.Xj.length:Int)>16))then some (false)else(af_ (g7_ x0) BIG 0).bind λf=>match f with | .ret h=>some h | .fall _=>some (true))
def hY_(x0:Xk)(x1:Int)(_:Int):tO Xk:=(co_ x0).bind λy1=>(bif decide (x1<4)then some (y1)else(cN_ x0 x1).bind λh=>(bif(!h)then some (y1)else(ah_ y1.Xj (w64 (x1-4))).bind λf=>(bif(f.Xc==0)then some (y1)else(ah_ y1.Xj (w64 (x1-4))).bind λy4=>( (bif(((Xy.mk y4.Xg y4.Xn (w64 (y4.Xc-1))).Xc)==0)then some ((y1.Xj.set (w64 (x1-4)).toNat (Xy.mk y4.Xg y4.Xn (w64 (y4.Xc-1)))).set (w64 (x1-4)).toNat (Xy.mk ((Xy.mk y4.Xg y4.Xn (w64 (y4.Xc-1))).Xg) [] ((Xy.mk y4.Xg y4.Xn (w64 (y4.Xc-1))).Xc)))else some (y1.Xj.set (w64 (x1-4)).toNat (Xy.mk y4.Xg y4.Xn (w64 (y4.Xc-1))))) ).bind λ(j:(tL Xy))=>some (Xk.mk y1.Xd j))))
def l8_(x0:Xk)(x1:Yf):tO (Xk×Yj):=( (bif(x1.Yn==1)then(gv_ x0 x1.Id_ x1.N_).bind λy1=>some (y1.1.Xd,y1.1.Xj,(Yj.mk 0 [] false y1.2))else(bif(x1.Yn==2)then(fj_ x0 x1.Id_ x1.Yg x1.N_).bind λf=>some (f.1.Xd,f.1.Xj,(Yj.mk 0 f.2.1 f.2.2.1 f.2.2.2))else(bif(x1.Yn==3)then(eD_ x0 x1.Id_ x1.Yg x1.Xl).bind λh=>some (h.1.Xd,h.1.Xj,(Yj.mk h.2.1 [] false h.2.2))else(bif(x1.Yn==4)then(hY_ x0 x1.Id_ x1.N_).bind λy4=>some (y4.Xd,y4.Xj,(Yj.mk 0 [] false 0))else(cB_ x0 x1.Yp).bind λy5=>some (y5.1.Xd,y5.1.Xj,(Yj.mk 0 [] false y5.2)))))) ).bind λ(j:(tL Xw)×(tL Xy)×Yj)=>some ((Xk.mk j.1 j.2.1),j.2.2)
def ep_(x0:Xk)(x1:Int):tO tV:=some (decide (x1>=1)&&decide (x1<(w64 (4+(x0.Xj.length:Int)))))
def iw_(x0:Int)(x1:Int):tO tV:=(quoI .i64 x0 x1).bind λy1=>some ((y1.tmod 2)==1)
def g8_(x0:Int):tO (Int×tV):=(bif decide (x0<0)then some (0,false)else( (iw_ x0 16).bind λy1=>(bif y1 then some (w64 (x0-16))else some x0) ).bind λ(f:Int)=>( (iw_ f 64).bind λh=>(bif h then some (w64 (f-64))else some f) ).bind λ(o2:Int)=>some (o2,(decide (o2<=3))))
def hZ_(x0:Int)(x1:Int):tO tV:=(bif(x0==2)then some (x1 != 3)else(bif(x0==3)then some (x1==1)else some (x1==0)))
def fC_(x0:Xk)(x1:Int)(x2:Xy):tO Xk:=(room 48 ([]:tL Xy) x0.Xj).bind λy1=>(ah_ y1 x1).bind λ_=>some (Xk.mk x0.Xd (y1.set x1.toNat x2))
def kX_(x0:Xk)(x1:Int)(x2:Int):tO (Xk×Int):=(ep_ x0 x1).bind λy1=>(bif(!y1)then some (x0,8)else(g8_ x2).bind λh=>(bif(!h.2)then some (x0,12)else(bif(x1==1)then(bif(x2 != 0)then some (x0,10)else some (x0,0))else(iw_ x2 64).bind λp=>(bif p then some true else(hZ_ x1 h.1).bind λy4=>some (!y4) ).bind λ(y5:tV)=>(bif y5 then some (x0,11)else(bif decide (x1<4)then some (x0,0)else(ah_ x0.Xj (w64 (x1-4))).bind λf=>(bif decide (f.Xc>=9007199254740991)then some (x0,22)else(fC_ x0 (w64 (x1-4)) (Xy.mk f.Xg f.Xn (w64 (f.Xc+1)))).bind λj=>some (j,0)))))))
def kY_(x0:Xk)(x1:Int)(x2:Int)(x3:Int):tO (Xk×tX×tV×Int):=(ep_ x0 x1).bind λy1=>(bif(!y1)then some (x0,[],false,8)else(bif(x1==1)then some (x0,[],false,10)else(bif(decide (x2<0)||decide (x3<0))then some (x0,[],false,1)else(bif(x1==3)then some (x0,[],false,11)else(bif(x1==2)then(iW_ x0.Xd).bind λf=>(bif decide (x2>=(f.1.length:Int))then some (x0,[],false,0)else(aP_ f.1 x2 (w64 (x2+(cz_ (cz_ x3 65536) (w64 ((f.1.length:Int)-x2)))))).bind λq=>some (x0,q,false,0))else(ah_ x0.Xj (w64 (x1-4))).bind λy4=>(bif((y4.Xn.length:Int)==0)then some (x0,[],true,0)else(ah_ y4.Xn 0).bind λy5=>(e1_ y5).bind λh=>(bif decide ((h.1.length:Int)>(cz_ x3 65536))then some (x0,[],false,3)else(aP_ y4.Xn 1 (y4.Xn.length:Int)).bind λp=>(fC_ x0 (w64 (x1-4)) (Xy.mk y4.Xg p y4.Xc)).bind λj=>some (j,h.1,false,0))))))))
def ef_(x0:tX)(f:Int×Int×(tL tX)):tO (Step (Int×Int×(tL tX)) (Int×(tL tX))):=(bif decide (f.2.1<(x0.length:Int))then( (ap_ x0 f.2.1).bind λy4=>(bif(y4==10)then(aP_ x0 f.1 f.2.1).bind λy5=>(room 16 f.2.2 [y5]).bind λh=>some ((w64 (f.2.1+1)),h)else some (f.1,f.2.2)) ).bind λ(o2:Int×(tL tX))=>some (.next (o2.1,(w64 (f.2.1+1)),o2.2))else some (.done (f.1,f.2.2)))
def hy_(x0:tX):tO (tL tX):=(af_ (ef_ x0) BIG (0,0,[])).bind λ(f:Int×(tL tX))=>( (bif decide (f.1<(x0.length:Int))then(aP_ x0 f.1 (x0.length:Int)).bind λj=>(room 16 f.2 [j]).bind λh=>some h else some f.2) ).bind λ(p:(tL tX))=>some (p)
def hz_(x0:tL Xf):tO tV:=(bif decide ((x0.length:Int)>0)then(ah_ x0 (w64 ((x0.length:Int)-1))).bind λy1=>some (y1.Xp==[112,108,117,109,98])else some false).bind λ(f:tV)=>some (f)
def m4_(x0:tX)(f:Int):tO (Step Int Int):=(bif decide (f<(x0.length:Int))then(ap_ x0 f).bind λh=>some (h != 32)else some false).bind λ(y4:tV)=>(bif y4 then some (.next (w64 (f+1)))else some (.done f))
def cT_(x0:tX)(f:Int):tO (Step Int Int):=(bif decide (f<(x0.length:Int))then(ap_ x0 f).bind λj=>some (j != 32)else some false).bind λ(h:tV)=>(bif h then some (.next (w64 (f+1)))else some (.done f))
def jQ_(x0:tX):tO Xf:=(af_ (m4_ x0) BIG 0).bind λh=>(af_ (cT_ x0) BIG (w64 (h+1))).bind λo2=>(bif decide (o2>=(x0.length:Int))then some (Xf.mk [] [] [])else(aP_ x0 0 h).bind λy9=>(aP_ x0 (w64 (h+1)) o2).bind λy10=>(aP_ x0 (w64 (o2+1)) (x0.length:Int)).bind λf=>some (Xf.mk y9 y10 f))
def bp_(f:Int×(tL tX)×(tL Xw)×(tL Xf)):tO (Step (Int×(tL tX)×(tL Xw)×(tL Xf)) (Out (tL Xw) ((tL Xw)×Int×Int))):=(bif decide (f.1<=(f.2.1.length:Int))then( (bif(f.1==(f.2.1.length:Int))then(bif decide ((f.2.2.2.length:Int)>0)then(hz_ f.2.2.2).bind λO=>some (!O)else some false).bind λ(M:tV)=>(bif M then some (.ret ([],(w64 (f.1+1)),50))else( (bif decide ((f.2.2.2.length:Int)>0)then(room 24 f.2.2.1 [(Xw.mk f.2.2.2)]).bind λJ=>some J else some f.2.2.1) ).bind λ(o4:(tL Xw))=>some (.fall (f.2.1,o4,[])))else(ah_ f.2.1 f.1).bind λG=>(bif(G==[])then(bif decide ((f.2.2.2.length:Int)>0)then(hz_ f.2.2.2).bind λF=>some (!F)else some false).bind λ(D:tV)=>(bif D then some (.ret ([],(w64 (f.1+1)),50))else( (bif decide ((f.2.2.2.length:Int)>0)then(room 24 f.2.2.1 [(Xw.mk f.2.2.2)]).bind λC=>some C else some f.2.2.1) ).bind λ(Z:(tL Xw))=>some (.fall (f.2.1,Z,[])))else(ah_ f.2.1 f.1).bind λy=>(ap_ y 0).bind λx=>(bif(x==35)then some (.fall (f.2.1,f.2.2.1,f.2.2.2))else(bif(((f.2.2.2.length:Int)==0)&&decide ((f.2.2.1.length:Int)>=64))then some (.ret ([],(w64 (f.1+1)),22))else(ah_ f.2.1 f.1).bind λu=>(jQ_ u).bind λh=>(fR_ h).bind λs=>(bif(!s)then some true else(hz_ f.2.2.2).bind λq=>some q ).bind λ(p:tV)=>(bif(p||decide ((f.2.2.2.length:Int)>=32))then some (.ret ([],(w64 (f.1+1)),50))else(room 48 f.2.2.2 [h]).bind λj=>some (.fall (f.2.1,f.2.2.1,j))))))) ).bind λ(U:Out ((tL tX)×(tL Xw)×(tL Xf)) ((tL Xw)×Int×Int))=>match U with | .ret Y=>some (.done (.ret Y)) | .fall V=>some (.next ((w64 (f.1+1)),V.1,V.2.1,V.2.2))else some (.done (.fall f.2.2.1)))
def jR_(x0:tX):tO ((tL Xw)×Int×Int):=(hy_ x0).bind λy1=>(af_ bp_ BIG (0,y1,[],[])).bind λ(f:Out (tL Xw) ((tL Xw)×Int×Int))=>match f with | .ret h=>some h | .fall j=>some (j,0,0)
def hA_(x0:Int):tO tV:=some ((x0==32)||(x0==9))
def g9_(x0:tX)(x1:Int):tO tV:=(bif(x1==(x0.length:Int))then some true else(ap_ x0 x1).bind λy1=>(hA_ y1).bind λh=>some h ).bind λ(f:tV)=>some (f)
def cw_(x0:tX)(f:Int×tX):tO (Step (Int×tX) (Out Int (tX×Int×Int))):=(bif decide (f.1<(x0.length:Int))then(ap_ x0 f.1).bind λq=>(bif(q != 39)then(aP_ x0 f.1 (w64 (f.1+1))).bind λp=>(cat f.2 p).bind λy9=>some (.next ((w64 (f.1+1)),y9))else(bif((w64 (f.1+1))==(x0.length:Int))then some true else(ap_ x0 (w64 (f.1+1))).bind λy10=>some (y10 != 39) ).bind λ(j:tV)=>(bif j then some (.done (.ret (f.2,(w64 (f.1+1)),0)))else(cat f.2 [39]).bind λh=>some (.next ((w64 (f.1+2)),h))))else some (.done (.fall f.1)))
def i0_(x0:tX)(x1:Int):tO (tX×Int×Int):=(af_ (cw_ x0) BIG (x1,[])).bind λ(f:Out Int (tX×Int×Int))=>match f with | .ret h=>some h | .fall j=>some ([],j,48)
def fT_(x0:tX)(f:Int):tO (Step Int Int):=(bif decide (f<(x0.length:Int))then(ap_ x0 f).bind λy10=>(hA_ y10).bind λy=>some (!y)else some false).bind λ(x:tV)=>(bif x then(ap_ x0 f).bind λu=>some (u != 61)else some false).bind λ(s:tV)=>(bif s then(ap_ x0 f).bind λq=>some (q != 63)else some false).bind λ(p:tV)=>(bif p then(ap_ x0 f).bind λj=>some (j != 39)else some false).bind λ(h:tV)=>(bif h then some (.next (w64 (f+1)))else some (.done f))
def dM_(x0:tX)(p:tX)(f:Int):tO (Step Int (Out Int (Xx×Int×Int))):=(g9_ x0 f).bind λj=>(bif(!j)then(ap_ x0 f).bind λh=>(bif(h==39)then some (.done (.ret ((Xx.mk p [] false),f,2)))else some (.next (w64 (f+1))))else some (.done (.fall f)))
def kZ_(x0:tX)(x1:Int):tO (Xx×Int×Int):=(af_ (fT_ x0) BIG x1).bind λf=>(aP_ x0 x1 f).bind λj=>(bif decide (f<(x0.length:Int))then(ap_ x0 f).bind λJ=>some (J==63)else some false).bind λ(G:tV)=>(bif G then(g9_ x0 (w64 (f+1))).bind λF=>some F else some false).bind λ(D:tV)=>(bif D then some ((Xx.mk j [] true),(w64 (f+1)),0)else(bif(f==(x0.length:Int))then some true else(ap_ x0 f).bind λC=>some (C != 61) ).bind λ(y:tV)=>(bif y then some ((Xx.mk j [] false),f,2)else(bif decide ((w64 (f+1))<(x0.length:Int))then(ap_ x0 (w64 (f+1))).bind λx=>some (x==39)else some false).bind λ(u:tV)=>(bif u then(i0_ x0 (w64 ((w64 (f+1))+1))).bind λh=>( (bif(h.2.2==0)then(g9_ x0 h.2.1).bind λs=>some (!s)else some false).bind λ(q:tV)=>(bif q then some 2 else some h.2.2) ).bind λ(o2:Int)=>some ((Xx.mk j h.1 false),h.2.1,o2)else(af_ (dM_ x0 j) BIG (w64 (f+1))).bind λM=>match M with | .ret U=>some U | .fall O=>(aP_ x0 (w64 (f+1)) O).bind λp=>some ((Xx.mk j p false),O,0))))
def fo_(x0:tX)(f:Int):tO (Step Int Int):=(bif decide (f<(x0.length:Int))then(ap_ x0 f).bind λp=>(hA_ p).bind λj=>some j else some false).bind λ(h:tV)=>(bif h then some (.next (w64 (f+1)))else some (.done f))
def eg_(x0:tX)(h:Int×(tL Xx)):tO (Step (Int×(tL Xx)) (Out Unit ((tL Xx)×Int×Int))):=(af_ (fo_ x0) BIG h.1).bind λq=>(bif(q==(x0.length:Int))then some (.done (.ret (h.2,0,0)))else(kZ_ x0 q).bind λf=>( (bif(f.2.2==0)then(iv_ h.2 f.1).bind λp=>some p else some f.2.2) ).bind λ(s:Int)=>(bif(s != 0)then some (.done (.ret ([],q,s)))else(room 40 h.2 [f.1]).bind λj=>some (.next (f.2.1,j))))
def hB_(x0:tX):tO ((tL Xx)×Int×Int):=(af_ (eg_ x0) BIG (0,[])).bind λf=>match f with | .ret h=>some h | .fall _=>none
def jS_(x0:Int):tO Int:=(bif(decide (x0>=48)&&decide (x0<=57))then some (w64 ((w64 (x0))-48))else(bif(decide (x0>=97)&&decide (x0<=102))then some (w64 ((w64 ((w64 (x0))-97))+10))else some (-1)))
def ha_(x0:tX)(x1:Int)(x2:Int)(f:Int×Int):tO (Step (Int×Int) (Out Int (Int×Int))):=(bif decide (f.2<(x0.length:Int))then(ap_ x0 f.2).bind λy9=>(jS_ y9).bind λy10=>(bif((decide (y10<0)||decide (y10>=x1))||decide (y10>x2))then some true else(quoI .i64 (w64 (x2-y10)) x1).bind λj=>some (decide (f.1>j)) ).bind λ(h:tV)=>(bif h then some (.done (.ret (0,5)))else some (.next ((w64 ((w64 (f.1*x1))+y10)),(w64 (f.2+1)))))else some (.done (.fall f.1)))
def jT_(x0:tX)(x1:Int)(x2:Int):tO (Int×Int):=(jO_ x1).bind λy1=>(bif((!y1)||decide (x2<0))then some (0,1)else(bif(x0==[])then some true else(bif decide ((x0.length:Int)>1)then(ap_ x0 0).bind λj=>some (j==48)else some false).bind λ(h:tV)=>some h ).bind λ(y4:tV)=>(bif y4 then some (0,5)else(af_ (ha_ x0 x1 x2) BIG (0,0)).bind λf=>match f with | .ret p=>some p | .fall q=>some (q,0)))
def cU_(x0:tX)(f:Int×Int×(tL tX)):tO (Step (Int×Int×(tL tX)) (Int×(tL tX))):=(bif(decide (f.2.1<(x0.length:Int))&&decide ((f.2.2.length:Int)<6))then( (ap_ x0 f.2.1).bind λy4=>(bif(y4==10)then(aP_ x0 f.1 f.2.1).bind λy5=>(room 16 f.2.2 [y5]).bind λh=>some ((w64 (f.2.1+1)),h)else some (f.1,f.2.2)) ).bind λ(o2:Int×(tL tX))=>some (.next (o2.1,(w64 (f.2.1+1)),o2.2))else some (.done (f.1,f.2.2)))
def jU_(x0:tX):tO (Xq×Int):=(af_ (cU_ x0) BIG (0,0,[])).bind λ(f:Int×(tL tX))=>(bif decide ((f.2.length:Int)<6)then some ((Xq.mk [] [] [] [] [] []),2)else(ah_ f.2 4).bind λy=>(hB_ y).bind λx=>(bif(x.2.2 != 0)then some ((Xq.mk [] [] [] [] [] []),x.2.2)else(ah_ f.2 5).bind λy9=>(jT_ y9 10 65536).bind λy10=>(bif(y10.2 != 0)then some ((Xq.mk [] [] [] [] [] []),y10.2)else(bif decide ((w64 ((x0.length:Int)-f.1))<y10.1)then some ((Xq.mk [] [] [] [] [] []),3)else(bif decide ((w64 ((x0.length:Int)-f.1))>y10.1)then some ((Xq.mk [] [] [] [] [] []),2)else(ah_ f.2 0).bind λu=>(ah_ f.2 1).bind λs=>(ah_ f.2 2).bind λq=>(ah_ f.2 3).bind λp=>(aP_ x0 f.1 (x0.length:Int)).bind λj=>(e0_ (Xq.mk u s q p x.1 j)).bind λh=>(bif(h != 0)then some ((Xq.mk [] [] [] [] [] []),h)else some ((Xq.mk u s q p x.1 j),0)))))))
def cC_(x0:Xq)(x1:tX):tO tX:=(bif(x1==[115,114,99])then some (x0.Xu)else(bif(x1==[100,115,116])then some (x0.Xe)else(bif(x1==[119,100,105,114])then some (x0.Yz)else(bif(x1==[116,121,112,101])then some (x0.Xt)else some (x0.Xl)))))
def fa_(x0:tX)(x1:Int)(x2:Xq)(f:(tL tX)×Int):tO (Step ((tL tX)×Int) (Out Unit (tX×Int))):=(bif decide (f.2<(f.1.length:Int))then(ah_ f.1 f.2).bind λh=>(bif decide ((w64 ((w64 ((x0.length:Int)-x1))-1))>=(h.length:Int))then(aP_ x0 (w64 (x1+1)) (w64 ((w64 (x1+1))+(h.length:Int)))).bind λu=>(ah_ f.1 f.2).bind λs=>some (u==s)else some false).bind λ(q:tV)=>(bif q then(ah_ f.1 f.2).bind λp=>(cC_ x2 p).bind λj=>some (.done (.ret (j,(w64 ((h.length:Int)+1)))))else some (.next (f.1,(w64 (f.2+1)))))else some (.done (.fall ())))
def eh_(x0:tX)(x1:Int)(x2:Xq)(x3:Yw):tO (tX×Int):=(bif decide ((w64 (x1+1))>=(x0.length:Int))then some ([],0)else(ap_ x0 (w64 (x1+1))).bind λy1=>(bif(y1==36)then some ([36],2)else(bif(decide (y1>=48)&&decide (y1<=57))then(bif decide ((w64 ((w64 (2*(w64 (IntKind.u8.wrap (y1-48)))))+1))<(x3.At_.length:Int))then(ah_ x3.At_ (w64 (2*(w64 (IntKind.u8.wrap (y1-48)))))).bind λs=>some (decide (s>=0))else some false).bind λ(q:tV)=>(bif q then(ah_ x3.At_ (w64 ((w64 (2*(w64 (IntKind.u8.wrap (y1-48)))))+1))).bind λy4=>some (decide (y4>=0))else some false).bind λ(y5:tV)=>(bif y5 then(ah_ x3.At_ (w64 (2*(w64 (IntKind.u8.wrap (y1-48)))))).bind λp=>(ah_ x3.At_ (w64 ((w64 (2*(w64 (IntKind.u8.wrap (y1-48)))))+1))).bind λj=>(aP_ x3.S_ p j).bind λh=>some (h,2)else some ([],2))else(af_ (fa_ x0 x1 x2) BIG ([[115,114,99],[100,115,116],[119,100,105,114],[116,121,112,101],[100,97,116,97]],0)).bind λf=>match f with | .ret u=>some u | .fall _=>some ([],0))))
def da_(x0:tX)(x1:Xq)(x2:Yw)(f:tX×Int):tO (Step (tX×Int) tX):=(bif decide (f.2<(x0.length:Int))then( (ap_ x0 f.2).bind λy5=>(bif(y5==36)then(eh_ x0 f.2 x1 x2).bind λj=>some (j.1,j.2)else some ([],0)) ).bind λ(h:tX×Int)=>( (bif(h.2==0)then(aP_ x0 f.2 (w64 (f.2+1))).bind λs=>some (s,1)else some (h.1,h.2)) ).bind λ(p:tX×Int)=>(cat f.1 p.1).bind λq=>some (.next (q,(w64 (f.2+p.2))))else some (.done f.1))
def fp_(x0:tX)(x1:Xq)(x2:Yw):tO tX:=(af_ (da_ x0 x1 x2) BIG ([],0)).bind λ(f:tX)=>some (f)
def fD_(x0:tL Xx)(x1:tX)(f:Int×(tL Xx)):tO (Step (Int×(tL Xx)) (tL Xx)):=(bif decide (f.1<(x0.length:Int))then( (ah_ x0 f.1).bind λy4=>(bif(!(y4.Xg==x1))then(ah_ x0 f.1).bind λy5=>(room 40 f.2 [y5]).bind λh=>some h else some f.2) ).bind λ(o2:(tL Xx))=>some (.next ((w64 (f.1+1)),o2))else some (.done f.2))
def h0_(x0:tL Xx)(x1:tX):tO (tL Xx):=(af_ (fD_ x0 x1) BIG (0,[])).bind λf=>some (f)
def h1_(x0:tL Xx)(x1:tX)(f:Int):tO (Step Int (Out Unit (tX×tV))):=(bif decide (f<(x0.length:Int))then(ah_ x0 f).bind λy5=>(bif(y5.Xg==x1)then(ah_ x0 f).bind λp=>some (!p.Xi)else some false).bind λ(j:tV)=>(bif j then(ah_ x0 f).bind λh=>some (.done (.ret (h.Xr,true)))else some (.next (w64 (f+1))))else some (.done (.fall ())))
def k0_(x0:tL Xx)(x1:tX):tO (tX×tV):=(af_ (h1_ x0 x1) BIG 0).bind λf=>match f with | .ret h=>some h | .fall _=>some ([],false)
def ii_(x1:tL Xx)(x0:tL Xx)(f:Int):tO (Step Int (Out Unit tV)):=(bif decide (f<(x1.length:Int))then(ah_ x1 f).bind λq=>(k0_ x0 q.Xg).bind λp=>(bif(!p.2)then some true else(ah_ x1 f).bind λy9=>(bif(!y9.Xi)then(ah_ x1 f).bind λy10=>some (!(p.1==y10.Xr))else some false).bind λ(j:tV)=>some j ).bind λ(h:tV)=>(bif h then some (.done (.ret (false)))else some (.next (w64 (f+1))))else some (.done (.fall ())))
def h2_(x0:tL Xx)(x1:tL Xx):tO tV:=(af_ (ii_ x1 x0) BIG 0).bind λf=>match f with | .ret h=>some h | .fall _=>some (true)
def i1_(x0:tL Xx)(x1:tX)(x2:tX)(f:tV×Int×(tL Xx)):tO (Step (tV×Int×(tL Xx)) (tV×(tL Xx))):=(bif decide (f.2.1<(x0.length:Int))then(ah_ x0 f.2.1).bind λh=>( (bif(((!f.1)&&(h.Xg==x1))&&(!h.Xi))then some (true,(Xx.mk h.Xg x2 h.Xi))else some (f.1,h)) ).bind λ(o2:tV×Xx)=>(room 40 f.2.2 [o2.2]).bind λy4=>some (.next (o2.1,(w64 (f.2.1+1)),y4))else some (.done (f.1,f.2.2)))
def l9_(x0:tL Xx)(x1:tX)(x2:tX):tO (tL Xx):=(af_ (i1_ x0 x1 x2) BIG (false,0,[])).bind λ(f:tV×(tL Xx))=>( (bif(!f.1)then(room 40 f.2 [(Xx.mk x1 x2 false)]).bind λy5=>some y5 else some f.2) ).bind λ(h:(tL Xx))=>some (h)
def cb_(f:Int×tX×tX×tX×tX×(tL Xx)×tX×(tL Xx)):tO (Step (Int×tX×tX×tX×tX×(tL Xx)×tX×(tL Xx)) (Out Xq (Xq×tV))):=(bif decide (f.1<(f.2.2.2.2.2.2.2.length:Int))then(ah_ f.2.2.2.2.2.2.2 f.1).bind λj=>(bif j.Xi then some (.done (.ret ((Xq.mk f.2.1 f.2.2.1 f.2.2.2.1 f.2.2.2.2.1 f.2.2.2.2.2.1 f.2.2.2.2.2.2.1),false)))else(ah_ f.2.2.2.2.2.2.2 f.1).bind λy9=>(ah_ f.2.2.2.2.2.2.2 f.1).bind λy10=>(l9_ f.2.2.2.2.2.1 y9.Xg y10.Xr).bind λh=>some (.next ((w64 (f.1+1)),f.2.1,f.2.2.1,f.2.2.2.1,f.2.2.2.2.1,h,f.2.2.2.2.2.2.1,f.2.2.2.2.2.2.2)))else some (.done (.fall (Xq.mk f.2.1 f.2.2.1 f.2.2.2.1 f.2.2.2.2.1 f.2.2.2.2.2.1 f.2.2.2.2.2.2.1))))
def hC_(x0:Xq)(x1:tX)(x2:tX):tO (Xq×tV):=(bif(x1==[100,101,108,101,116,101])then(h0_ x0.Xm x2).bind λy1=>some ({x0 with Xm:=y1},true)else(hB_ x2).bind λf=>(bif(f.2.2 != 0)then some (x0,false)else(bif(!(x1==[97,100,100]))then(h2_ x0.Xm f.1).bind λj=>some (x0,(j==(x1==[105,115])))else(af_ cb_ BIG (0,x0.Xu,x0.Xe,x0.Yz,x0.Xt,x0.Xm,x0.Xl,f.1)).bind λh=>match h with | .ret p=>some p | .fall q=>some (q,true))))
def ke_(x0:Xq)(x1:tX)(x2:tX):tO Xq:=( (bif(x1==[115,114,99])then some {x0 with Xu:=x2}else(bif(x1==[100,115,116])then some {x0 with Xe:=x2}else(bif(x1==[119,100,105,114])then some {x0 with Yz:=x2}else(bif(x1==[116,121,112,101])then some {x0 with Xt:=x2}else(bif(x1==[100,97,116,97])then some {x0 with Xl:=x2}else some x0))))) ).bind λ(f:Xq)=>some (f)
def bL_(x0:Xh):tO Xa:=(et_ 1 (false:tV) (x0.Yy.length:Int)).bind λy1=>some (Xa.mk [] y1)
def f3_(f:Xh->tX->Xa->Int->Int->(tL Int)->tO Xa)(x0:Xh)(x1:tX)(x2:Xa)(x3:Int)(j:Int)(p:tL Int):tO Xa:=(ah_ x2.Yk x3).bind λy1=>(bif y1 then some (x2)else(ah_ x2.Yk x3).bind λ_=>(ah_ x0.Yy x3).bind λh=>(bif(h.Op_==7)then(f x0 x1 (Xa.mk x2.L_ (x2.Yk.set x3.toNat true)) h.X_ j p).bind λy4=>some (y4)else(bif(h.Op_==6)then(f x0 x1 (Xa.mk x2.L_ (x2.Yk.set x3.toNat true)) h.X_ j p).bind λy5=>(f x0 x1 y5 h.Y_ j p).bind λx=>some (x)else(bif(h.Op_==8)then(room 8 ([]:tL Int) p).bind λu=>(ah_ u h.X_).bind λ_=>(f x0 x1 (Xa.mk x2.L_ (x2.Yk.set x3.toNat true)) (w64 (x3+1)) j (u.set h.X_.toNat j)).bind λy9=>some (y9)else(bif(h.Op_==4)then(bif(j==0)then(f x0 x1 (Xa.mk x2.L_ (x2.Yk.set x3.toNat true)) (w64 (x3+1)) j p).bind λy10=>some (y10)else some (Xa.mk x2.L_ (x2.Yk.set x3.toNat true)))else(bif(h.Op_==5)then(bif(j==(x1.length:Int))then(f x0 x1 (Xa.mk x2.L_ (x2.Yk.set x3.toNat true)) (w64 (x3+1)) j p).bind λs=>some (s)else some (Xa.mk x2.L_ (x2.Yk.set x3.toNat true)))else(room 32 x2.L_ [(Yx.mk x3 p)]).bind λq=>some (Xa.mk q (x2.Yk.set x3.toNat true))))))))
def as_:Nat->Xh->tX->Xa->Int->Int->(tL Int)->tO Xa | 0=>λ_ _ _ _ _ _=>none|n+1=>f3_ (as_ n)
def qv_(x0:Xz)(x1:Int)(f:tV×Int):tO (Step (tV×Int) tV):=(bif decide ((w64 (f.2+1))<(x0.Yh.length:Int))then(bif f.1 then some true else(ap_ x0.Yh f.2).bind λy5=>(bif decide (y5<=x1)then(ap_ x0.Yh (w64 (f.2+1))).bind λp=>some (decide (x1<=p))else some false).bind λ(j:tV)=>some j ).bind λ(h:tV)=>some (.next (h,(w64 (f.2+2))))else some (.done f.1))
def fU_(x0:Xz)(x1:Int):tO tV:=(bif(x0.Op_==1)then some (x0.C_==x1)else(bif(x0.Op_==2)then some (x1 != 10)else(bif(x0.Op_==3)then(af_ (qv_ x0 x1) BIG (false,0)).bind λf=>some (!(f==x0.Ys))else some (false))))
def ks_(f:Int×(tL Int)):tO (Step (Int×(tL Int)) (tL Int)):=(bif decide (f.1<(f.2.length:Int))then(ah_ f.2 f.1).bind λ_=>some (.next ((w64 (f.1+1)),(f.2.set f.1.toNat (-1))))else some (.done f.2))
def bI_(x0:Xh)(x3:tV)(s:Int×(tL Yx)×(tL tV)×Xo)(x1:tX)(x2:Int)(f:tV×Int×(tL Yx)×Xo×(tL Yx)×(tL tV)):tO (Step (tV×Int×(tL Yx)×Xo×(tL Yx)×(tL tV)) ((tL Yx)×Xo×(tL Yx)×(tL tV))):=(bif decide (f.2.1<(f.2.2.1.length:Int))then( (ah_ f.2.2.1 f.2.1).bind λG=>(ah_ x0.Yy G.K_).bind λq=>( (bif(((q.Op_==9)&&(!f.1))&&((!x3)||(s.1==(x1.length:Int))))then(ah_ f.2.2.1 f.2.1).bind λF=>some (true,f.2.2.1,(Xo.mk F.At_ x2 s.1 true))else some (f.1,f.2.2.1,f.2.2.2.1)) ).bind λ(h:tV×(tL Yx)×Xo)=>(bif decide (s.1<(x1.length:Int))then(ap_ x1 s.1).bind λD=>(fU_ q D).bind λC=>some C else some false).bind λ(y:tV)=>(bif y then(ah_ h.2.1 f.2.1).bind λx=>(ah_ h.2.1 f.2.1).bind λu=>(as_ BIG x0 x1 (Xa.mk f.2.2.2.2.1 f.2.2.2.2.2) (w64 (x.K_+1)) (w64 (s.1+1)) u.At_).bind λp=>some (h.1,h.2.1,h.2.2,p.L_,p.Yk)else some (h.1,h.2.1,h.2.2,f.2.2.2.2.1,f.2.2.2.2.2)) ).bind λ(j:tV×(tL Yx)×Xo×(tL Yx)×(tL tV))=>some (.next (j.1,(w64 (f.2.1+1)),j.2.1,j.2.2.1,j.2.2.2.1,j.2.2.2.2))else some (.done (f.2.2.1,f.2.2.2.1,f.2.2.2.2.1,f.2.2.2.2.2)))
def cD_(x1:tX)(x0:Xh)(x3:tV)(x2:Int)(f:Int×(tL Yx)×(tL tV)×Xo):tO (Step (Int×(tL Yx)×(tL tV)×Xo) Xo):=(bif(decide (f.1<=(x1.length:Int))&&decide ((f.2.1.length:Int)>0))then(bL_ x0).bind λj=>(af_ (bI_ x0 x3 f x1 x2) BIG (false,0,f.2.1,f.2.2.2,j.L_,j.Yk)).bind λh=>some (.next ((w64 (f.1+1)),h.2.2.1,h.2.2.2,h.2.1))else some (.done f.2.2.2))
def k1_(x0:Xh)(x1:tX)(x2:Int)(x3:tV):tO Xo:=(et_ 8 (0:Int) (w64 (2*x0.Yb))).bind λy1=>(af_ ks_ BIG (0,y1)).bind λf=>( (both ( (both ( (both ( (bL_ x0).bind λq=>(both ( (as_ BIG x0 x1 q 0 x2 f).bind λj=>some (j.L_,j.Yk)) ( (as_ BIG x0 x1 q 0 x2 f).bind λp=>some (p.L_,p.Yk)))) ( (bL_ x0).bind λU=>(as_ BIG x0 x1 U 0 x2 f).bind λs=>some (s.L_,s.Yk)))) ( (bL_ x0).bind λV=>(as_ BIG x0 x1 V 0 x2 f).bind λu=>some (u.L_,u.Yk)))) ( (both ( (both ( (both ( (bL_ x0).bind λC=>(both ( (as_ BIG x0 x1 C 0 x2 f).bind λx=>some (x.L_,x.Yk)) ( (as_ BIG x0 x1 C 0 x2 f).bind λy=>some (y.L_,y.Yk)))) ( (bL_ x0).bind λY=>(as_ BIG x0 x1 Y 0 x2 f).bind λD=>some (D.L_,D.Yk)))) ( (both ( (bL_ x0).bind λh=>(both ( (both ( (as_ BIG x0 x1 h 0 x2 f).bind λF=>some (F.L_,F.Yk)) ( (as_ BIG x0 x1 h 0 x2 f).bind λG=>some (G.L_,G.Yk)))) ( (as_ BIG x0 x1 h 0 x2 f).bind λJ=>some (J.L_,J.Yk)))) ( (both ( (bL_ x0).bind λZ=>(as_ BIG x0 x1 Z 0 x2 f).bind λM=>some (M.L_,M.Yk)) ( (bL_ x0).bind λy10=>(as_ BIG x0 x1 y10 0 x2 f).bind λO=>some (O.L_,O.Yk)))))))) ( (both ( (bL_ x0).bind λy8=>(as_ BIG x0 x1 y8 0 x2 f).bind λy9=>some (y9.L_,y9.Yk)) ( (both ( (bL_ x0).bind λy6=>(as_ BIG x0 x1 y6 0 x2 f).bind λy7=>some (y7.L_,y7.Yk)) ( (bL_ x0).bind λy4=>(as_ BIG x0 x1 y4 0 x2 f).bind λy5=>some (y5.L_,y5.Yk))))))))) ).bind λ(o2:(tL Yx)×(tL tV))=>(af_ (cD_ x1 x0 x3 x2) BIG (x2,o2.1,o2.2,(Xo.mk [] 0 0 false))).bind λ(ZZ:Xo)=>some (ZZ)
def e2_(x0:Xh)(x1:tX):tO ((tL Int)×tV):=(k1_ x0 x1 0 true).bind λy1=>(room 8 ([]:tL Int) y1.At_).bind λf=>some (f,y1.Ok_)
def dl_(x0:Xw)(f:tX×Int×Xq×tX×(tL Int)):tO (Step (tX×Int×Xq×tX×(tL Int)) (Out (tX×Xq) (Xq×tX×tV))):=(bif decide (f.2.1<(x0.Xb.length:Int))then(ah_ x0.Xb f.2.1).bind λh=>(fp_ h.Yq f.2.2.1 (Yw.mk f.2.2.2.1 f.2.2.2.2)).bind λj=>( (bif((!(h.Xs==[109,97,116,99,104,101,115]))&&decide ((j.length:Int)>65536))then some (f.1,false,f.2.2.1,f.2.2.2.1,f.2.2.2.2)else(bif(h.Xp==[112,108,117,109,98])then some (j,true,f.2.2.1,f.2.2.2.1,f.2.2.2.2)else(bif(h.Xp==[97,116,116,114])then(hC_ f.2.2.1 h.Xs j).bind λs=>some (f.1,s.2,s.1,f.2.2.2.1,f.2.2.2.2)else(bif(h.Xs==[115,101,116])then(ke_ f.2.2.1 h.Xp j).bind λy=>some (f.1,true,y,f.2.2.2.1,f.2.2.2.2)else(bif(h.Xs==[109,97,116,99,104,101,115])then(b7_ h.Yq).bind λx=>(cC_ f.2.2.1 h.Xp).bind λq=>(e2_ x.1 q).bind λp=>(bif p.2 then some (f.1,p.2,f.2.2.1,q,p.1)else some (f.1,p.2,f.2.2.1,f.2.2.2.1,f.2.2.2.2))else(cC_ f.2.2.1 h.Xp).bind λu=>some (f.1,((u==j)==(h.Xs==[105,115])),f.2.2.1,f.2.2.2.1,f.2.2.2.2)))))) ).bind λ(o2:tX×tV×Xq×tX×(tL Int))=>(bif(!o2.2.1)then some (.done (.ret ((Xq.mk [] [] [] [] [] []),[],false)))else some (.next (o2.1,(w64 (f.2.1+1)),o2.2.2.1,o2.2.2.2.1,o2.2.2.2.2)))else some (.done (.fall (f.1,f.2.2.1))))
def hD_(x0:Xw)(x1:Xq):tO (Xq×tX×tV):=(hw_ x0).bind λy1=>(bif(!y1)then some true else(e0_ x1).bind λq=>some (q != 0) ).bind λ(p:tV)=>(bif p then some ((Xq.mk [] [] [] [] [] []),[],false)else(af_ (dl_ x0) BIG ([],0,x1,[],[])).bind λ(h:Out (tX×Xq) (Xq×tX×tV))=>match h with | .ret s=>some s | .fall j=>(e0_ j.2).bind λf=>(bif(f != 0)then some ((Xq.mk [] [] [] [] [] []),[],false)else some (j.2,j.1,true)))
def hb_(x0:tL Xw)(x1:Xq)(f:Int):tO (Step Int (Out Unit (Xq×tX×tV))):=(bif decide (f<(x0.length:Int))then(ah_ x0 f).bind λh=>(hD_ h x1).bind λy4=>(bif y4.2.2 then some (.done (.ret (y4.1,y4.2.1,true)))else some (.next (w64 (f+1))))else some (.done (.fall ())))
def jV_(x0:tL Xw)(x1:Xq):tO (Xq×tX×tV):=(af_ (hb_ x0 x1) BIG 0).bind λf=>match f with | .ret h=>some h | .fall _=>some ((Xq.mk [] [] [] [] [] []),[],false)
def h3_(x0:Xk)(q:tX×Xq)(h:Int):tO (Step Int (Out Unit (Xk×Int))):=(bif decide (h<(x0.Xj.length:Int))then(ah_ x0.Xj h).bind λf=>(bif((!(f.Xg==q.1))||(f.Xc==0))then some (.next (w64 (h+1)))else(e1_ q.2).bind λy9=>(bif decide ((y9.1.length:Int)>65536)then some (.done (.ret (x0,4)))else(bif decide ((f.Xn.length:Int)>=64)then some (.done (.ret (x0,22)))else(room 104 ([]:tL Xq) f.Xn).bind λy10=>(room 104 y10 [q.2]).bind λp=>(fC_ x0 h (Xy.mk f.Xg p f.Xc)).bind λj=>some (.done (.ret (j,0))))))else some (.done (.fall ())))
def hc_(x0:Xk)(x1:Xq):tO (Xk×Int):=(e1_ x1).bind λy1=>(bif(y1.2 != 0)then some (x0,y1.2)else(jV_ x0.Xd x1).bind λf=>( (bif(!f.2.2)then some (x1.Xe,x1)else some (f.2.1,f.1)) ).bind λ(p:tX×Xq)=>(af_ (h3_ x0 p) BIG 0).bind λh=>match h with | .ret j=>some j | .fall _=>some (x0,51))
def jW_(x0:Xk)(x1:Int)(x2:Int)(x3:tX):tO (Xk×Int×Int):=(ep_ x0 x1).bind λy1=>(bif(!y1)then some (x0,0,8)else(bif(x1==1)then some (x0,0,10)else(bif decide (x2<0)then some (x0,0,1)else(bif decide (x1>3)then some (x0,0,11)else(bif(x1==2)then(jR_ x3).bind λh=>(bif(h.2.2 != 0)then some (x0,0,h.2.2)else some ((Xk.mk h.1 x0.Xj),(x3.length:Int),0))else(jU_ x3).bind λf=>(bif(f.2 != 0)then some (x0,0,f.2)else(hc_ x0 f.1).bind λy4=>(bif(y4.2 != 0)then some (x0,0,y4.2)else some (y4.1,(x3.length:Int),0))))))))
def jX_(x0:Xk)(x1:Int)(_:Int):tO Xk:=(bif decide (x1<4)then some true else(ep_ x0 x1).bind λy1=>some (!y1) ).bind λ(j:tV)=>(bif j then some true else(ah_ x0.Xj (w64 (x1-4))).bind λh=>some (h.Xc==0) ).bind λ(y4:tV)=>(bif y4 then some (x0)else(ah_ x0.Xj (w64 (x1-4))).bind λy5=>( (bif((w64 (y5.Xc-1))==0)then some (Xy.mk y5.Xg [] (w64 (y5.Xc-1)))else some (Xy.mk y5.Xg y5.Xn (w64 (y5.Xc-1)))) ).bind λ(p:Xy)=>(fC_ x0 (w64 (x1-4)) p).bind λf=>some (f))
def k2_(x0:Xk)(x1:Yf):tO (Xk×Yj):=( (bif(x1.Yn==1)then(kX_ x0 x1.Id_ x1.N_).bind λy1=>some (y1.1,(Yj.mk 0 [] false y1.2))else(bif(x1.Yn==2)then(kY_ x0 x1.Id_ x1.Yg x1.N_).bind λf=>some (f.1,(Yj.mk 0 f.2.1 f.2.2.1 f.2.2.2))else(bif(x1.Yn==3)then(jW_ x0 x1.Id_ x1.Yg x1.Xl).bind λh=>some (h.1,(Yj.mk h.2.1 [] false h.2.2))else(bif(x1.Yn==4)then(jX_ x0 x1.Id_ x1.N_).bind λy4=>some (y4,(Yj.mk 0 [] false 0))else(hc_ x0 x1.Yp).bind λy5=>some (y5.1,(Yj.mk 0 [] false y5.2)))))) ).bind λ(j:Xk×Yj)=>some (j.1,j.2)
def dx_(x0:Xk)(x1:Yf):tO tV:=(jK_ x0).bind λy1=>(bif(!y1)then some true else(ht_ x1.Yp).bind λx=>some (!x) ).bind λ(u:tV)=>(bif(u||decide ((x1.Xl.length:Int)>6000))then some true else(jP_ x0).bind λy4=>some (!y4) ).bind λ(y5:tV)=>(bif y5 then(hs_).bind λs=>some (s)else(l8_ x0 x1).bind λf=>(k2_ x0 x1).bind λq=>(kU_ f.1 q.1).bind λy9=>(bif(y9&&decide (f.2=q.2))then(fQ_ f.1).bind λy10=>some y10 else some false).bind λ(p:tV)=>(bif p then(hs_).bind λj=>some j else some false).bind λ(h:tV)=>some (h))
def teS:Nat->Type | 0=>Xf | 1=>Xw | 2=>Xx | 3=>Xq | 4=>Xy | 5=>Xk | 6=>Xz | 7=>Xh | 8=>regex_parser | 9=>plumb_state | 10=>regex_thread | 11=>regex_machine | 12=>Xv | 13=>Yf | 14=>Yj | 15=>Yw | 16=>Yx | 17=>Xa | 18=>Xo | 19=>Zk | 20=>Yu | 21=>Yo|_=>Int
def teCs:Nat->tL Ty | 0=>[.str,.str,.str] | 1=>[.sl (.st 0)] | 2=>[.str,.str,.bool] | 3=>[.str,.str,.str,.str,.sl (.st 2),.str] | 4=>[.str,.sl (.st 3),.int .i64] | 5=>[.sl (.st 1),.sl (.st 4)] | 6=>[.int .i64,.int .u8,.str,.bool,.int .i64,.int .i64] | 7=>[.sl (.st 6),.int .i64] | 8=>[.str,.int .i64,.int .i64,.sl (.st 6),.int .i64] | 9=>[.str,.str,.str,.str,.sl (.st 2),.str,.str,.sl (.int .i64),.str] | 10=>[.int .i64,.sl (.int .i64)] | 11=>[.sl (.st 6),.int .i64,.str,.int .i64,.sl (.int .i64),.sl (.st 10)] | 12=>[.sl (.st 6),.int .i64,.int .i64,.bool] | 13=>[.int .i64,.int .i64,.int .i64,.int .i64,.str,.str,.str,.str,.str,.sl (.st 2),.str] | 14=>[.int .i64,.str,.bool,.int .i64] | 15=>[.str,.sl (.int .i64)] | 16=>[.int .i64,.sl (.int .i64)] | 17=>[.sl (.st 16),.sl .bool] | 18=>[.sl (.int .i64),.int .i64,.int .i64,.bool] | 19=>[.int .i64,.int .i64,.int .i64] | 20=>[.int .i64,.int .i64,.int .i64,.int .i64,.int .i64,.int .i64,.int .i64,.int .i64,.int .i64,.str,.str,.str,.str] | 21=>[.int .u64,.int .u64,.int .u64,.int .u64,.int .u64,.int .u64,.int .u64,.int .u64,.int .u64,.int .u64,.int .u64,.int .u64,.int .u64,.int .u64,.int .u64,.int .u64,.int .u64,.int .u64,.int .u64,.int .u64]|_=>[.int .i64]
def teUn:(n:Nat)->teS n->HL teS (teCs n) | 0,d=>(d.Xp,d.Xs,d.Yq,()) | 1,d=>(d.Xb,()) | 2,d=>(d.Xg,d.Xr,d.Xi,()) | 3,d=>(d.Xu,d.Xe,d.Yz,d.Xt,d.Xm,d.Xl,()) | 4,d=>(d.Xg,d.Xn,d.Xc,()) | 5,d=>(d.Xd,d.Xj,()) | 6,d=>(d.Op_,d.C_,d.Yh,d.Ys,d.X_,d.Y_,()) | 7,d=>(d.Yy,d.Yb,()) | 8,d=>(d.s_,d.at_,d.groups_,d.code_,d.bad_,()) | 9,d=>(d.m_.Xu,d.m_.Xe,d.m_.Yz,d.m_.Xt,d.m_.Xm,d.m_.Xl,d.text_,d.caps_,d.port_,()) | 10,d=>(d.at_,d.caps_,()) | 11,d=>(d.r_.Yy,d.r_.Yb,d.s_,d.pos_,d.visited_,d.list_,()) | 12,d=>(d.L_,d.At_,d.N_,d.Yv,()) | 13,d=>(d.Yn,d.Id_,d.Yg,d.N_,d.Xl,d.Yp.Xu,d.Yp.Xe,d.Yp.Yz,d.Yp.Xt,d.Yp.Xm,d.Yp.Xl,()) | 14,d=>(d.N_,d.S_,d.Ya,d.Zz,()) | 15,d=>(d.S_,d.At_,()) | 16,d=>(d.K_,d.At_,()) | 17,d=>(d.L_,d.Yk,()) | 18,d=>(d.At_,d.Zv,d.Zw,d.Ok_,()) | 19,d=>(d.Xt,d.Yt,d.Yl,()) | 20,d=>(d.Xt,d.Zq,d.Ym.Xt,d.Ym.Yt,d.Ym.Yl,d.Ye,d.Yd,d.Yr,d.Yc,d.Xg,d.Zx,d.Zj,d.Yi,()) | 21,d=>(d.a0_,d.a1_,d.a2_,d.a3_,d.a4_,d.a5_,d.a6_,d.a7_,d.a8_,d.a9_,d.Zy,d.Zh,d.Zg,d.Zf,d.Zm,d.Zn,d.Zp,d.Zb,d.Zc,d.Zd,())|_+22,d=>(d,())
def teBd:(n:Nat)->HL teS (teCs n)->teS n | 0,h=>⟨h.1,h.2.1,h.2.2.1⟩ | 1,h=>⟨h.1⟩ | 2,h=>⟨h.1,h.2.1,h.2.2.1⟩ | 3,h=>⟨h.1,h.2.1,h.2.2.1,h.2.2.2.1,h.2.2.2.2.1,h.2.2.2.2.2.1⟩ | 4,h=>⟨h.1,h.2.1,h.2.2.1⟩ | 5,h=>⟨h.1,h.2.1⟩ | 6,h=>⟨h.1,h.2.1,h.2.2.1,h.2.2.2.1,h.2.2.2.2.1,h.2.2.2.2.2.1⟩ | 7,h=>⟨h.1,h.2.1⟩ | 8,h=>⟨h.1,h.2.1,h.2.2.1,h.2.2.2.1,h.2.2.2.2.1⟩ | 9,h=>⟨⟨h.1,h.2.1,h.2.2.1,h.2.2.2.1,h.2.2.2.2.1,h.2.2.2.2.2.1⟩,h.2.2.2.2.2.2.1,h.2.2.2.2.2.2.2.1,h.2.2.2.2.2.2.2.2.1⟩ | 10,h=>⟨h.1,h.2.1⟩ | 11,h=>⟨⟨h.1,h.2.1⟩,h.2.2.1,h.2.2.2.1,h.2.2.2.2.1,h.2.2.2.2.2.1⟩ | 12,h=>⟨h.1,h.2.1,h.2.2.1,h.2.2.2.1⟩ | 13,h=>⟨h.1,h.2.1,h.2.2.1,h.2.2.2.1,h.2.2.2.2.1,⟨h.2.2.2.2.2.1,h.2.2.2.2.2.2.1,h.2.2.2.2.2.2.2.1,h.2.2.2.2.2.2.2.2.1,h.2.2.2.2.2.2.2.2.2.1,h.2.2.2.2.2.2.2.2.2.2.1⟩⟩ | 14,h=>⟨h.1,h.2.1,h.2.2.1,h.2.2.2.1⟩ | 15,h=>⟨h.1,h.2.1⟩ | 16,h=>⟨h.1,h.2.1⟩ | 17,h=>⟨h.1,h.2.1⟩ | 18,h=>⟨h.1,h.2.1,h.2.2.1,h.2.2.2.1⟩ | 19,h=>⟨h.1,h.2.1,h.2.2.1⟩ | 20,h=>⟨h.1,h.2.1,⟨h.2.2.1,h.2.2.2.1,h.2.2.2.2.1⟩,h.2.2.2.2.2.1,h.2.2.2.2.2.2.1,h.2.2.2.2.2.2.2.1,h.2.2.2.2.2.2.2.2.1,h.2.2.2.2.2.2.2.2.2.1,h.2.2.2.2.2.2.2.2.2.2.1,h.2.2.2.2.2.2.2.2.2.2.2.1,h.2.2.2.2.2.2.2.2.2.2.2.2.1⟩ | 21,h=>⟨h.1,h.2.1,h.2.2.1,h.2.2.2.1,h.2.2.2.2.1,h.2.2.2.2.2.1,h.2.2.2.2.2.2.1,h.2.2.2.2.2.2.2.1,h.2.2.2.2.2.2.2.2.1,h.2.2.2.2.2.2.2.2.2.1,h.2.2.2.2.2.2.2.2.2.2.1,h.2.2.2.2.2.2.2.2.2.2.2.1,h.2.2.2.2.2.2.2.2.2.2.2.2.1,h.2.2.2.2.2.2.2.2.2.2.2.2.2.1,h.2.2.2.2.2.2.2.2.2.2.2.2.2.2.1,h.2.2.2.2.2.2.2.2.2.2.2.2.2.2.2.1,h.2.2.2.2.2.2.2.2.2.2.2.2.2.2.2.2.1,h.2.2.2.2.2.2.2.2.2.2.2.2.2.2.2.2.2.1,h.2.2.2.2.2.2.2.2.2.2.2.2.2.2.2.2.2.2.1,h.2.2.2.2.2.2.2.2.2.2.2.2.2.2.2.2.2.2.2.1⟩|_+22,h=>h.1
def teDeq:(n:Nat)->tO (DecidableEq (teS n)) | 0=>some (inferInstanceAs (DecidableEq Xf)) | 2=>some (inferInstanceAs (DecidableEq Xx)) | 14=>some (inferInstanceAs (DecidableEq Yj)) | 20=>some (inferInstanceAs (DecidableEq Yu))|_=>none
def teTy(n:Nat):tO Ty:=aK_ n [(2,.int .i64),(3,.int .i64),(4,.bool),(5,.int .u8),(6,.int .u8),(9,.str),(10,.str),(11,.str),(12,.int .u64),(21,.int .i32),(22,.sl .str),(24,.sl (.st 1)),(25,.sl (.st 4)),(27,.st 5),(28,.int .i64),(34,.sl (.st 3)),(37,.sl (.st 2)),(39,.st 3),(47,.st 13),(49,.st 14),(53,.sl (.st 20)),(59,.st 19),(61,.st 20),(66,.st 4),(76,.sl (.st 0)),(78,.st 1),(80,.st 0),(87,.st 2),(105,.int .u64),(108,.sl (.int .u8)),(138,.int .i64),(145,.int .u32),(147,.int .u64),(155,.sl (.int .i64)),(157,.st 9),(163,.sl (.st 6)),(165,.st 7),(173,.int .u64),(191,.st 15),(199,.st 8),(202,.st 6),(210,.st 12),(234,.st 18),(245,.st 21),(252,.sl (.st 10)),(254,.st 11),(259,.st 10),(261,.sl (.st 16)),(262,.sl .bool),(264,.st 17),(268,.st 16),(300,.int .i32)]
abbrev globPT:Ty := .st 21
def teGl:Nat->tO (Σ t:Ty,Den teS t) | 1=>some ⟨.st 21,globP⟩|_=>none
def teSb(n:Nat):tV:=Nat.beq n 110
def te:TE:=⟨teS,teCs,teUn,teBd,λn x=>by match n with | 0=>rfl | 1=>rfl | 2=>rfl | 3=>rfl | 4=>rfl | 5=>rfl | 6=>rfl | 7=>rfl | 8=>rfl | 9=>rfl | 10=>rfl | 11=>rfl | 12=>rfl | 13=>rfl | 14=>rfl | 15=>rfl | 16=>rfl | 17=>rfl | 18=>rfl | 19=>rfl | 20=>rfl | 21=>rfl|n+22=>rfl,λn x=>by match n with | 0=>rfl | 1=>rfl | 2=>rfl | 3=>rfl | 4=>rfl | 5=>rfl | 6=>rfl | 7=>rfl | 8=>rfl | 9=>rfl | 10=>rfl | 11=>rfl | 12=>rfl | 13=>rfl | 14=>rfl | 15=>rfl | 16=>rfl | 17=>rfl | 18=>rfl | 19=>rfl | 20=>rfl | 21=>rfl|n+22=>rfl,teDeq,teTy,λn=>by match n with | 0=>exact zC _ _ | 1=>exact zC _ _ | 2=>exact zC _ _ | 3=>exact zC _ _ | 4=>exact zC _ _ | 5=>exact zC _ _ | 6=>exact zC _ _ | 7=>exact zC _ _ | 8=>exact zC _ _ | 9=>exact zC _ _ | 10=>exact zC _ _ | 11=>exact zC _ _ | 12=>exact zC _ _ | 13=>exact zC _ _ | 14=>exact zC _ _ | 15=>exact zC _ _ | 16=>exact zC _ _ | 17=>exact zC _ _ | 18=>exact zC _ _ | 19=>exact zC _ _ | 20=>exact zC _ _ | 21=>exact zC _ _|n+22=>exact zC _ _,teGl,teSb⟩
theorem qw_(x y:Yj):(x=y)=(x.N_=y.N_/\x.S_=y.S_/\x.Ya=y.Ya/\x.Zz=y.Zz):=by cases x;cases y;simp
theorem qx_(x y:Yj):((x.N_==y.N_)&&(((⟨x.S_.toArray⟩:tQ).toList==(⟨y.S_.toArray⟩:tQ).toList)&&((x.Ya==y.Ya)&&((x.Zz==y.Zz)&&true))))=true↔x=y:=by simp[qw_]
theorem oX_:bd_ Tryz.prog te 49 14:=by
 intro d x y l m h f;obtain rfl:=qSj h;obtain rfl:=qSj f;refine pv_ 10 rfl (by kernel_rfl) (b:=((x.N_==y.N_)&&(((⟨x.S_.toArray⟩:tQ).toList==(⟨y.S_.toArray⟩:tQ).toList)&&((x.Ya==y.Ya)&&((x.Zz==y.Zz)&&true))))) (by kernel_rfl) ?_;rw[zL];exact(qx_ x y).trans (@decide_eq_true_iff _ (d x y)).symm
theorem api_Qid_ext(x y:Zk):(x=y)=(x.Xt=y.Xt/\x.Yt=y.Yt/\x.Yl=y.Yl):=by cases x;cases y;simp
theorem api_Dir_ext(x y:Yu):(x=y)=(x.Xt=y.Xt/\x.Zq=y.Zq/\x.Ym=y.Ym/\x.Ye=y.Ye/\x.Yd=y.Yd/\x.Yr=y.Yr/\x.Yc=y.Yc/\x.Xg=y.Xg/\x.Zx=y.Zx/\x.Zj=y.Zj/\x.Yi=y.Yi):=by cases x;cases y;simp
theorem eqd_api_Dir(x y:Yu):((x.Xt==y.Xt)&&((x.Zq==y.Zq)&&(((x.Ym.Xt==y.Ym.Xt)&&((x.Ym.Yt==y.Ym.Yt)&&((x.Ym.Yl==y.Ym.Yl)&&true)))&&((x.Ye==y.Ye)&&((x.Yd==y.Yd)&&((x.Yr==y.Yr)&&((x.Yc==y.Yc)&&(((⟨x.Xg.toArray⟩:tQ).toList==(⟨y.Xg.toArray⟩:tQ).toList)&&(((⟨x.Zx.toArray⟩:tQ).toList==(⟨y.Zx.toArray⟩:tQ).toList)&&(((⟨x.Zj.toArray⟩:tQ).toList==(⟨y.Zj.toArray⟩:tQ).toList)&&(((⟨x.Yi.toArray⟩:tQ).toList==(⟨y.Yi.toArray⟩:tQ).toList)&&true)))))))))))=true↔x=y:=by simp[api_Dir_ext,api_Qid_ext]
theorem tA_:bd_ Tryz.prog te 61 20:=by
 intro d x y l m h f;obtain rfl:=qSj h;obtain rfl:=qSj f;refine pv_ 10 rfl (by kernel_rfl) (b:=((x.Xt==y.Xt)&&((x.Zq==y.Zq)&&(((x.Ym.Xt==y.Ym.Xt)&&((x.Ym.Yt==y.Ym.Yt)&&((x.Ym.Yl==y.Ym.Yl)&&true)))&&((x.Ye==y.Ye)&&((x.Yd==y.Yd)&&((x.Yr==y.Yr)&&((x.Yc==y.Yc)&&(((⟨x.Xg.toArray⟩:tQ).toList==(⟨y.Xg.toArray⟩:tQ).toList)&&(((⟨x.Zx.toArray⟩:tQ).toList==(⟨y.Zx.toArray⟩:tQ).toList)&&(((⟨x.Zj.toArray⟩:tQ).toList==(⟨y.Zj.toArray⟩:tQ).toList)&&(((⟨x.Yi.toArray⟩:tQ).toList==(⟨y.Yi.toArray⟩:tQ).toList)&&true)))))))))))) (by kernel_rfl) ?_;rw[zL];exact(eqd_api_Dir x y).trans (@decide_eq_true_iff _ (d x y)).symm
theorem rv_(x y:Xf):(x=y)=(x.Xp=y.Xp/\x.Xs=y.Xs/\x.Yq=y.Yq):=by cases x;cases y;simp
theorem rw_(x y:Xf):(((⟨x.Xp.toArray⟩:tQ).toList==(⟨y.Xp.toArray⟩:tQ).toList)&&(((⟨x.Xs.toArray⟩:tQ).toList==(⟨y.Xs.toArray⟩:tQ).toList)&&(((⟨x.Yq.toArray⟩:tQ).toList==(⟨y.Yq.toArray⟩:tQ).toList)&&true)))=true↔x=y:=by simp[rv_]
theorem pS_:bd_ Tryz.prog te 80 0:=by
 intro d x y l m h f;obtain rfl:=qSj h;obtain rfl:=qSj f;refine pv_ 10 rfl (by kernel_rfl) (b:=(((⟨x.Xp.toArray⟩:tQ).toList==(⟨y.Xp.toArray⟩:tQ).toList)&&(((⟨x.Xs.toArray⟩:tQ).toList==(⟨y.Xs.toArray⟩:tQ).toList)&&(((⟨x.Yq.toArray⟩:tQ).toList==(⟨y.Yq.toArray⟩:tQ).toList)&&true)))) (by kernel_rfl) ?_;rw[zL];exact(rw_ x y).trans (@decide_eq_true_iff _ (d x y)).symm
theorem api_Attr_ext(x y:Xx):(x=y)=(x.Xg=y.Xg/\x.Xr=y.Xr/\x.Xi=y.Xi):=by cases x;cases y;simp
theorem eqd_api_Attr(x y:Xx):(((⟨x.Xg.toArray⟩:tQ).toList==(⟨y.Xg.toArray⟩:tQ).toList)&&(((⟨x.Xr.toArray⟩:tQ).toList==(⟨y.Xr.toArray⟩:tQ).toList)&&((x.Xi==y.Xi)&&true)))=true↔x=y:=by simp[api_Attr_ext]
theorem ss_:bd_ Tryz.prog te 87 2:=by
 intro d x y l m h f;obtain rfl:=qSj h;obtain rfl:=qSj f;refine pv_ 10 rfl (by kernel_rfl) (b:=(((⟨x.Xg.toArray⟩:tQ).toList==(⟨y.Xg.toArray⟩:tQ).toList)&&(((⟨x.Xr.toArray⟩:tQ).toList==(⟨y.Xr.toArray⟩:tQ).toList)&&((x.Xi==y.Xi)&&true)))) (by kernel_rfl) ?_;rw[zL];exact(eqd_api_Attr x y).trans (@decide_eq_true_iff _ (d x y)).symm
def eqL:tL (Nat×Nat):=[(49,14),(61,20),(80,0),(87,2)]
theorem ad_:∀p∈eqL,bd_ Tryz.prog te p.1 p.2:=by
 intro p f;simp only[eqL,qD,jo,or_false]at f;rcases f with rfl|rfl|rfl|rfl
 .exact oX_
 .exact tA_
 .exact pS_
 .exact ss_
abbrev OKF(f:FuncId)(C:Con te):Prop:=Con.OK Tryz.prog te f C/\c3_ Tryz.prog f=true
end
open Go.ChangeShapes Go.WideShapes Go.ChangeAt Go.ChangeMaps
abbrev laidAll : tL (String × DataW Unit) := [("math/bits.deBruijn32tab", Rows.laid_math_bits_deBruijn32tab), ("math/bits.deBruijn64tab", Rows.laid_math_bits_deBruijn64tab), ("internal/strconv.uint64pow10", Rows.laid_internal_strconv_uint64pow10), ("unicode/utf8.acceptRanges", Rows.laid_unicode_utf8_acceptRanges), ("unicode/utf8.first", Rows.laid_unicode_utf8_first)]
def powL:tL Int:=[1,10,100,1000,10000,100000,1000000,10000000,100000000,1000000000,10000000000,100000000000,1000000000000,10000000000000,100000000000000,1000000000000000,10000000000000000,100000000000000000,1000000000000000000,10000000000000000000]
theorem tab_block{W:tS}{name:String}{k:IntKind}{zs:tL Int}{n:Nat}(h:Lib.TabIs Tryz.prog W name k zs)(f:(Tryz.prog).globalNamed name=some n):∃e c,W.heap[n]? = some (.cells (zs.map λz=>Value.int k z).toArray e c):=by
 unfold Lib.TabIs World.var? at h;rw[f]at h;simp only[qBs]at h;split at h
 .rename_i cs e c j;obtain rfl:=qSj h;exact⟨e,c,j⟩
 .cases h
theorem tab_glo{W:tS}{name:String}{k:IntKind}{zs:tL Int}{n:Nat}(h:Lib.TabIs Tryz.prog W name k zs)(s:(Tryz.prog).globalNamed name=some n){t:Ty}{x:Den te.S t}(hr:RD te (eX_ W) (te.flat t) (te.fl t x) (zs.map (Value.int k))) :
  (eX_ W).F n/\∃r,RD te (eX_ W) (te.flat t) (te.fl t x) r/\(∀j u,r[j]? = some u->(eX_ W).w.cell? ⟨n,j,none⟩=some u)/\∃e c,(eX_ W).w.heap[n]? = some (.cells r.toArray e c):=by
 obtain⟨e,c,f⟩:=tab_block h s;refine⟨?_,zs.map (Value.int k),hr,λj u q => ?_,e,c,f⟩
 .show n<W.heap.size;rcases qR n W.heap.size with p|p
  .exact p
  .rw[zJ p]at f;cases f
 .show W.cell? ⟨n,j,none⟩=some u;rw[cell_of_row W n j _ e c f,ju];exact q
theorem seat_glob{W:tS}(h:laidMetH Tryz.prog laidAll W):Glo te (eX_ W):=by
 have f:=(laidMetH_iff.1 h).1
 have p : laidMet Tryz.prog (("internal/strconv.uint64pow10", Lib.tabData .u64 powL) :: []) W := by
  have := f.filter (fun x => x.1 == "internal/strconv.uint64pow10")
  have e : ((laidAll.filter fun x => x.2.handleName?.isNone).filter fun x => x.1 == "internal/strconv.uint64pow10") = [("internal/strconv.uint64pow10", Lib.tabData .u64 powL)] := by kernel_rfl
  rw[e]at this;exact this
 have j:=Lib.tabIs_of_head (P:=Tryz.prog) (g:=1) (t:=245) (e:=147) (n:=20) (by kernel_rfl) (by kernel_rfl) (by kernel_rfl) (by kernel_rfl) (by kernel_rfl) (by kernel_rfl) p;intro n t x e;rcases n with _|_|n
 .cases e
 .have q:(⟨globPT,globP⟩:Sigma λt:Ty=>Den te.S t)=⟨t,x⟩:=qSj e;cases q
  exact tab_glo j (by kernel_rfl) (.int (.int (.int (.int (.int (.int (.int (.int (.int (.int (.int (.int (.int (.int (.int (.int (.int (.int (.int (.int .nil))))))))))))))))))))
 .cases e
theorem door_met(os:Os)(args:Array tW):laidMetH Tryz.prog laidAll ((World.laidAll Tryz.prog os laidAll).forCall (λ_ _=>0) ⟨#[],args,[]⟩).memory:=by
 rw[MakeChecks.laidMetH_plain _ _ _ (by kernel_rfl)];exact laidMet_laidAll _ (by kernel_rfl) (by kernel_rfl)
end Go.Proofs.YtfbcbakhdkppoaaGreatDoor
namespace Go
def Code.lf:Code->Code | .seq x _=>x | .block _ x=>x | .loop x=>x | .cond _ x _=>x|c=>c
def Code.rt:Code->Code | .seq _ y=>y | .cond _ _ y=>y|c=>c
def Code.at(c:Code)(j:Nat):Oper:=match c with
 | .region _ ops _ => ops.toList.getD j { op := .move (.const (.int .i64 0)), dst := none, type := 0, pos := "", after := #[], guard := none }
 | _ => { op := .move (.const (.int .i64 0)), dst := none, type := 0, pos := "", after := #[], guard := none }
namespace Rt
open Go.RowKit
section
variable{P:tT}{E:TE}{eqs:tL (Nat×Nat)}{tab:Tab E}{z z' z0:Fz}{g g':Ga}{w w' w0:tS}{Bs:tL Nat}{L L':tL Res}{H H':Nat->tO (Obj E)}{F0:Nat->Prop}
def svInt:tO (SV E)->tO Int|some (.v (.one (.dt (.int .i64) n)))=>some n|_=>none
def gj_:tO (SV E)->tO Nat|some (.v (.one (.ptr i 0)))=>some i|_=>none
def svDat(t:Ty):tO (SV E)->tO (Den E.S t)|some (.v (.one (.dt f x)))=>if h:f=t then some (h▸x)else none|_=>none
def obRow(e:tN)(t:Ty):tO (Obj E)->tO (tL (Den E.S t))|some (.row j f xs _)=>if h:f=t then cL_ (Nat.beq j e) (some (dV_ h xs))else none|_=>none
def obBox(T:tN):tO (Obj E)->tO (tL (SC E))|some (.box T' cs)=>cL_ (Nat.beq T' T) (some cs)|_=>none
def scOwn:tO (SC E)->tO Nat|some (.own i)=>some i|_=>none
def i2_(t:Ty):tO (SC E)->tO (Den E.S t)|some (.dt f x)=>if h:f=t then some (h▸x)else none|_=>none
theorem i3_{s:tO (SV E)}{n:Int}(h:svInt s=some n):s=some (.v (.one (.dt (.int .i64) n))):=by
 unfold svInt at h;split at h
 .obtain rfl:=qSj h;rfl
 .cases h
theorem cE_{s:tO (SV E)}{n:Nat}(h:gj_ s=some n):s=some (.v (.one (.ptr n 0))):=by
 unfold gj_ at h;split at h
 .obtain rfl:=qSj h;rfl
 .cases h
theorem rz_{t:Ty}{s:tO (SV E)}{x:Den E.S t}(h:svDat t s=some x):s=some (.v (.one (.dt t x))):=by
 unfold svDat at h;split at h
 .split at h
  .rename_i f;subst f;obtain rfl:=qSj h;rfl
  .cases h
 .cases h
theorem nQ_{e:tN}{t:Ty}{o:tO (Obj E)}{xs:tL (Den E.S t)}(h:obRow e t o=some xs):∃foc,o=some (.row e t xs foc):=by
 unfold obRow at h;split at h
 .split at h
  .rename_i f;subst f;obtain⟨p,j⟩:=bN_ h;obtain rfl:=qNb p;obtain rfl:=qSj j;exact⟨_,rfl⟩
  .cases h
 .cases h
theorem b5_{T:tN}{o:tO (Obj E)}{cs:tL (SC E)}(h:obBox T o=some cs):o=some (.box T cs):=by
 unfold obBox at h;split at h
 .obtain⟨j,f⟩:=bN_ h;obtain rfl:=qNb j;obtain rfl:=qSj f;rfl
 .cases h
theorem nR_{c:tO (SC E)}{n:Nat}(h:scOwn c=some n):c=some (.own n):=by
 unfold scOwn at h;split at h
 .obtain rfl:=qSj h;rfl
 .cases h
theorem dZ_{t:Ty}{s:tO (SC E)}{x:Den E.S t}(h:i2_ t s=some x):s=some (.dt t x):=by
 unfold i2_ at h;split at h
 .split at h
  .rename_i f;subst f;obtain rfl:=qSj h;rfl
  .cases h
 .cases h
def thenE{R:Type}(f:St E->tO R):tO Nat->St E->tO R|none,s=>f s|some _,_=>none
theorem frag{N:Nat}{O:Org}(j:∀p∈eqs,bd_ P E p.1 p.2)(u:tab.OK P E){c:Code}{pl:Pl}{R:Type}{b:Ba E}{s:St E}{k:tO Nat->St E->tO R}{r:R}{a:Act}{Q:Exit->Act->tS->Prop}(f:Fresh O.g b.lo)
  (h:evCode P E eqs tab N Unit (λ_ _=>none) c pl R b s k (λ_=>none)=some r) (y:Rel P E Bs O w0 N (s.L b) (s.H b) s.nx a w)
  (x:∀ex s' q w',k ex s'=some r->Rel P E Bs O w0 N (s'.L b) (s'.H b) s'.nx q w'->Q (iN_ ex) q w'):c.wp P Q a w :=
 oQ_ (RT:=Unit) (rv:=λ_ _=>none) (Qr:=λ_ _ _=>False) j u (λ_ _ _ _ _ _ h=>nomatch h) c pl R b s k _ r a w Q f h y x λ_ _ _ h=>nomatch h
theorem Fz.in_local(z:Fz):Local z.F z.In:=λ_ _ j p h k f=>⟨zf (h k f).1 j,(p k f).trans (h k f).2⟩
theorem Sep.perm(h:Sep Bs w0 w L)(f:L.Perm L'):Sep Bs w0 w L' :=
 ⟨h.chg,λr hr=>h.hold r (f.symm.subset hr),λr hr=>h.own r (f.symm.subset hr),h.apart.perm f fun{_ _}=>Apart.symm⟩
theorem Sep.sub(h:Sep Bs w0 w L)(f:List.Sublist L' L):Sep Bs w0 w L' :=
 ⟨h.chg,λr hr=>h.hold r (f.subset hr),λr hr=>h.own r (f.subset hr),h.apart.sublist f⟩
structure Mx(E:TE)(z0:Fz)(w0 w:tS)(z:Fz)(L:tL Res):Prop where
 le:z0.Le z
 gl:Glo E z
 new:∀k,z.F k->z0.F k\/w0.heap.size<=k
 sep:Sep [] w0 w (.ro z.F z.In::L)
 exc:∀r∈L,r.excl
namespace Mx
theorem start(h:z.In w)(j:Glo E z):Mx E z w w z [] :=
 ⟨Fz.Le.refl z,j,λ_ f => .inl f,⟨Chg.of_below (Below.refl _ _),λr hr=>by
  obtain rfl:=qH.1 hr;exact⟨h,z.in_local,λk f=>(h k f).1⟩,λr hr p=>by
  obtain rfl:=qH.1 hr;exact p.elim,List.pairwise_singleton _ _⟩,λr hr=>nomatch hr⟩
theorem In(h:Mx E z0 w0 w z L):z.In w:=(h.sep.hold _ (qT ..)).1
theorem lt(h:Mx E z0 w0 w z L){r:Res}(hr:r∈L){k:Nat}(f:r.fp k):k<w.heap.size:=Res.holds_lt (h.sep.hold r (qG _ hr)) k f
theorem nfz(h:Mx E z0 w0 w z L){r:Res}(hr:r∈L){k:Nat}(j:r.fp k):¬z.F k:=λf =>
 (qz.1 h.sep.apart).1 r hr (.inr (h.exc r hr)) k f j
theorem perm(h:Mx E z0 w0 w z L)(f:L.Perm L'):Mx E z0 w0 w z L':=⟨h.le,h.gl,h.new,h.sep.perm (f.cons _),λr hr=>h.exc r (f.symm.subset hr)⟩
theorem sub(h:Mx E z0 w0 w z L)(f:List.Sublist L' L):Mx E z0 w0 w z L':=⟨h.le,h.gl,h.new,h.sep.sub (f.cons_cons _),λr hr=>h.exc r (f.subset hr)⟩
theorem hr(h:Mx E z0 w0 w z L)(g:Ga):HR P E [] z.F w w z g (λ_=>none) :=
 ⟨Chg.of_below (Below.refl _ _),(λ_ _ e=>nomatch e),(λ_ _ _ e=>nomatch e),(λ_ _ _ _ _ _ e=>nomatch e),h.In,(λ_ f => .inl f),(λ_ _ _ e=>nomatch e),h.gl⟩
end Mx
def ResOf(g:Ga)(w:tS)(id:Nat)(o:Obj E)(r:Res):Prop:=r.excl/\r.holds w/\∀k,r.fp k->fpO g id o k
theorem Mx.step(h:Mx E z0 w0 w z L)(x:HR P E [] z.F w w' z' g' H')(hz:z.Le z')(l:tL (Nat×Res))(G:∀p∈l,∃o,H' p.1=some o/\ResOf g' w' p.1 o p.2)(U:(l.map (·.1)).Nodup):Mx E z0 w0 w' z' (l.map (·.2)++L):=by
 have J:∀r∈l.map (·.2)++L,r.excl:=λr hr=>by
  rcases qF.1 hr with hr|hr
  .obtain⟨p,C,rfl⟩:=jJ.1 hr;obtain⟨o,_,D⟩:=G p C;exact D.1
  .exact h.exc r hr
 have y:∀r∈l.map (·.2),∀k,r.fp k->w.heap.size<=k/\¬z'.F k:=λr hr k f=>by
  obtain⟨p,C,rfl⟩:=jJ.1 hr;obtain⟨o,j,D⟩:=G p C;have h3:=D.2.2 k f;exact⟨(x.own _ _ _ j h3).resolve_right (by simp),x.fza _ _ _ j h3⟩
 have hold:∀r∈L,∀k,r.fp k->k<w.heap.size/\¬z'.F k:=λr hr k f=>by
  refine⟨h.lt hr f,λM => ?_⟩;rcases x.fz0 k M with j|j|j
  .exact h.nfz hr f j
  .have:=h.lt hr f;omega
  .simp at j
 refine⟨h.le.trans hz,x.gl,λk f => ?_,⟨⟨h.sep.chg.grow.trans x.chg.grow,λk f U=>(x.chg.block k (zf f h.sep.chg.grow.size) (by simp)).trans (h.sep.chg.block k f U)⟩,λr hr => ?_,λr hr he k f => ?_,?_⟩,J⟩
 .rcases x.fz0 k f with j|j|j
  .exact h.new k j
  .exact .inr (zQ h.sep.chg.grow.size j)
  .simp at j
 .rcases qD.1 hr with rfl|hr
  .exact⟨x.fz,z'.in_local,λk f=>(x.fz k f).1⟩
  .rcases qF.1 hr with hr|hr
   .obtain⟨p,C,rfl⟩:=jJ.1 hr;obtain⟨o,_,D⟩:=G p C;exact D.2.1
   .have j:=h.sep.hold r (qG _ hr);cases r with
    | box b T cs=>exact(x.chg.block b (h.lt hr rfl) (by simp)).trans j
    | row e c A n cap rows =>
     refine⟨⟨j.1.1,?_⟩,j.2⟩;rcases j.1.2 with h'|⟨b,cap',cur,Z,hb,hh,q⟩
     .exact .inl h'
     .refine .inr ⟨b,cap',cur,Z,hb,?_,q⟩;injection Z with hA;exact(x.chg.block b (h.lt hr ⟨_,hA,rfl⟩) (by simp)).trans hh
    | ro F φ=>exact(h.exc _ hr).elim
 .rcases qD.1 hr with rfl|hr
  .exact he.elim
  .rcases qF.1 hr with hr|hr
   .exact .inl (zQ h.sep.chg.grow.size (y r hr k f).1)
   .exact h.sep.own r (qG _ hr) he k f
 .refine qz.2 ⟨λr hr _ k f u => ?_,List.pairwise_append.2 ⟨?_,(qz.1 h.sep.apart).2,λr hr s hs _ k f u => ?_⟩⟩
  .rcases qF.1 hr with hr|hr
   .exact(y r hr k u).2 f
   .exact(hold r hr k u).2 f
  .refine List.pairwise_map.2 ((List.pairwise_map.1 U).imp_of_mem fun{p q} C hq O _ k f u => ?_);obtain⟨o,j,D⟩:=G p C;obtain⟨o',Y,V⟩:=G q hq;exact x.apart p.1 q.1 o o' k O j Y (D.2.2 k f) (V.2.2 k u)
  .have:=(y r hr k f).1;have:=(hold s hs k u).1;omega
theorem kf_{id:Nat}{T:tN}{cs:tL (SC E)}(h:HR P E Bs F0 w0 w z g H)(hi:H id=some (.box T cs)):∃l vs,g id=some l/\All2 (RC P E z g) cs vs/\ResOf g w id (.box T cs) (.box l.b T vs):=by
 obtain⟨l,vs,f,q,p⟩:=h.hold _ _ hi;exact⟨l,vs,f,p,trivial,q,λk j=>⟨l,f,j⟩⟩
theorem ma_{id:Nat}{e:tN}{t:Ty}{xs:tL (Den E.S t)}{foc:tL (Nat×Int×Den E.S t)}(h:HR P E Bs F0 w0 w z g H)(hi:H id=some (.row e t xs foc)) :
  ∃l rows,g id=some l/\l.n=xs.length/\rows.length=xs.length/\Rows E z t xs rows/\ResOf g w id (.row e t xs foc) (.row e (E.size t) l.A xs.length l.cap rows):=by
 obtain⟨l,rows,q,f,j,C,p,y,x,_⟩:=h.hold _ _ hi;exact⟨l,rows,q,f,p.trans f,x,trivial,⟨by rw[←f,←j];exact C,p.trans f,by rw[←j];exact y⟩,λk ⟨a,u,s⟩=>⟨l,a,q,u,s⟩⟩
theorem Mx.freeze{e c n cap:Nat}{A:tO Addr}{rows:tL (tL tW)}(h:Mx E z0 w0 w z (.row e c A n cap rows::L)):Mx E z0 w0 w (z.grow (bX_ A) w) L/\z.Le (z.grow (bX_ A) w)/\SlF (z.grow (bX_ A) w).F c A n rows (z.grow (bX_ A) w).w:=by
 have x:=h.In.grow_le (bX_ A);have D:=h.sep.hold (.row e c A n cap rows) (by simp);have y:∀k,bX_ A k->k<w.heap.size:=λk f=>h.lt (qT ..) (r := .row e c A n cap rows) f
 have hap:=qz.1 h.sep.apart;have j:=qz.1 hap.2;have u:(z.grow (bX_ A) w).In w:=λk f=>by
  rcases f with f|f
  .exact⟨(h.In k f).1,rfl⟩
  .exact⟨y k f,rfl⟩
 refine⟨⟨h.le.trans x,h.gl.le x,λk f => ?_,⟨h.sep.chg,λr hr => ?_,λr hr C k f => ?_,?_⟩,λr hr=>h.exc r (qG _ hr)⟩,x,?_⟩
 .rcases f with f|f
  .exact h.new k f
  .exact .inr ((h.sep.own (.row e c A n cap rows) (by simp) trivial k f).resolve_right (by simp))
 .rcases qD.1 hr with rfl|hr
  .exact⟨u,Fz.in_local _,λk f=>(u k f).1⟩
  .exact h.sep.hold r (by simp[hr])
 .rcases qD.1 hr with rfl|hr
  .exact C.elim
  .exact h.sep.own r (by simp[hr]) C k f
 .refine qz.2 ⟨λr hr C k f s => ?_,j.2⟩;rcases f with f|f
  .exact hap.1 r (qG _ hr) (.inr (h.exc r (qG _ hr))) k f s
  .exact j.1 r hr (.inl trivial) k f s
 .have hr:=cK_ D;refine⟨hr.1,λq => ?_⟩;obtain⟨b,off,J,G,p⟩:=hr.2 q;exact⟨b,off,J,.inr G,p⟩
theorem Mx.freezeBox{b:Nat}{T:tN}{cs:tL tW}(h:Mx E z0 w0 w z (.box b T cs::L)):Mx E z0 w0 w (z.grow (λk=>k=b) w) L/\z.Le (z.grow (λk=>k=b) w)/\∀j u,cs[j]? = some u->(z.grow (λk=>k=b) w).w.cell? ⟨b,j,none⟩=some u:=by
 have x:=h.In.grow_le (λk=>k=b);have F:=h.sep.hold (.box b T cs) (by simp);have y:∀k,k=b->k<w.heap.size:=λk f=>h.lt (qT ..) (r := .box b T cs) f
 have hap:=qz.1 h.sep.apart;have p:=qz.1 hap.2;have s:(z.grow (λk=>k=b) w).In w:=λk f=>by
  rcases f with f|f
  .exact⟨(h.In k f).1,rfl⟩
  .exact⟨y k f,rfl⟩
 refine⟨⟨h.le.trans x,h.gl.le x,λk f => ?_,⟨h.sep.chg,λr hr => ?_,λr hr C k f => ?_,?_⟩,λr hr=>h.exc r (qG _ hr)⟩,x,?_⟩
 .rcases f with f|f
  .exact h.new k f
  .exact .inr ((h.sep.own (.box b T cs) (by simp) trivial k f).resolve_right (by simp))
 .rcases qD.1 hr with rfl|hr
  .exact⟨s,Fz.in_local _,λk f=>(s k f).1⟩
  .exact h.sep.hold r (by simp[hr])
 .rcases qD.1 hr with rfl|hr
  .exact C.elim
  .exact h.sep.own r (by simp[hr]) C k f
 .refine qz.2 ⟨λr hr C k f q => ?_,p.2⟩;rcases f with f|f
  .exact hap.1 r (qG _ hr) (.inr (h.exc r (qG _ hr))) k f q
  .exact p.1 r hr (.inl trivial) k f q
 .intro j u D;show w.cell? _=_;rw[cell_of_row w b j cs.toArray T (0,0) F];simpa using D
inductive EnvR(P:tT)(E:TE)(z:Fz)(g:Ga):tL (Nat×tO (SV E))->tL (Nat×tW)->Prop
 | nil:EnvR P E z g [] []
 | cons {i s v l m} (h:RV P E z g s v) (t:EnvR P E z g l m):EnvR P E z g ((i,some s)::l) ((i,v)::m)
theorem EnvR.get{l:tL (Nat×tO (SV E))}{m:tL (Nat×tW)}(h:EnvR P E z g l m){t:Nat}{o:tO (SV E)}(f:aK_ t l=some o):∃s v,o=some s/\look t m=some v/\RV P E z g s v:=by
 induction h with
 | nil=>cases f
 | @cons i s v l m h _ p =>
  simp only[aK_]at f;simp only[look];cases j:Nat.beq t i with
  | true =>
   rw[j]at f;exact⟨s,v,(qSj f).symm,rfl,h⟩
  | false =>
   rw[j]at f;exact p f
theorem Mx.rel{N lo nx:Nat}{a:Act}{l:tL (Nat×tO (SV E))}{m:tL (Nat×tW)}(h:Mx E z0 w0 w z L)(p:Env N a m)(q:EnvR P E z g l m)(x:Fresh g nx) :
  Rel P E [] ⟨z,g,lo⟩ w N (St.L ⟨λ_=>none,λ_=>none,lo⟩ ⟨l,none,[],none,nx⟩) (St.H ⟨λ_=>none,λ_=>none,lo⟩ ⟨l,none,[],none,nx⟩) nx a w:=by
 refine⟨z,g,⟨p.size,p.defers,λt u f => ?_⟩,(h.hr g).less λi o e => ?_,x,Fz.Le.refl z,Ga.Le.refl g⟩
 .unfold St.L at f;simp only at f;cases j:aK_ t l with
  | none=>rw[j]at f;cases f
  | some o =>
   rw[j]at f;obtain⟨s,v,rfl,C,y⟩:=q.get j;obtain rfl:=qSj f;exact⟨v,p.get t v C,y⟩
 .unfold St.H at e;cases e
theorem Mx.of_sep(h:Mx E z0 w0 w z L){f:tL Res}(q:Sep [] w0 w' f){l:tL Res}(j:List.Sublist (.ro z.F z.In::l) f)(p:∀r∈l,r.excl):Mx E z0 w0 w' z l:=⟨h.le,h.gl,h.new,q.sub j,p⟩
theorem Mx.nilRow(h:Mx E z0 w0 w z L)(e c:Nat):Mx E z0 w0 w z (.row e c none 0 0 []::L):=by
 have hap:=qz.1 h.sep.apart;refine⟨h.le,h.gl,h.new,⟨h.sep.chg,λr hr => ?_,λr hr p k f => ?_,?_⟩,λr hr => ?_⟩
 .rcases qD.1 hr with rfl|hr
  .exact h.sep.hold _ (qT ..)
  .rcases qD.1 hr with rfl|hr
   .exact⟨⟨by simp,.inl ⟨rfl,rfl⟩⟩,rfl,λr hr=>nomatch hr⟩
   .exact h.sep.hold r (qG _ hr)
 .rcases qD.1 hr with rfl|hr
  .exact p.elim
  .rcases qD.1 hr with rfl|hr
   .obtain⟨_,e,_⟩:=f;cases e
   .exact h.sep.own r (qG _ hr) p k f
 .refine qz.2 ⟨λr hr p k f j => ?_,qz.2 ⟨λr _ _ k f _ => ?_,hap.2⟩⟩
  .rcases qD.1 hr with rfl|hr
   .obtain⟨_,e,_⟩:=j;cases e
   .exact hap.1 r hr p k f j
  .obtain⟨_,e,_⟩:=f;cases e
 .rcases qD.1 hr with rfl|hr
  .trivial
  .exact h.exc r hr
theorem Mx.ext(h:Mx E z0 w0 w z L)(f:Ext w w'):Mx E z0 w0 w' z L:=⟨h.le,h.gl,h.new,h.sep.ext f,h.exc⟩
theorem Mx.call(h:Mx E z0 w0 w z L)(f:Mx E z w w' z' L'):Mx E z0 w0 w' z' (L'++L):=by
 have x:∀r∈L',∀k,r.fp k->w.heap.size<=k:=λr hr k j=>(f.sep.own r (qG _ hr) (f.exc r hr) k j).resolve_right (by simp)
 refine⟨h.le.trans f.le,f.gl,λk j => ?_,⟨⟨h.sep.chg.grow.trans f.sep.chg.grow,λk j G=>(f.sep.chg.block k (zf j h.sep.chg.grow.size) (by simp)).trans (h.sep.chg.block k j G)⟩,λr hr => ?_,λr hr C k j => ?_,?_⟩,λr hr => ?_⟩
 .rcases f.new k j with u|u
  .exact h.new k u
  .exact .inr (zQ h.sep.chg.grow.size u)
 .rcases qD.1 hr with rfl|hr
  .exact f.sep.hold _ (qT ..)
  .rcases qF.1 hr with hr|hr
   .exact f.sep.hold r (qG _ hr)
   .have u:=h.sep.hold r (qG _ hr);cases r with
    | box b T cs=>exact(f.sep.chg.block b (h.lt hr rfl) (by simp)).trans u
    | row e c A n cap rows =>
     refine⟨⟨u.1.1,?_⟩,u.2⟩;rcases u.1.2 with U|⟨b,cap',cur,y,M,J,q⟩
     .exact .inl U
     .refine .inr ⟨b,cap',cur,y,M,?_,q⟩;injection y with O;exact(f.sep.chg.block b (h.lt hr ⟨_,O,rfl⟩) (by simp)).trans J
    | ro F φ=>exact(h.exc _ hr).elim
 .rcases qD.1 hr with rfl|hr
  .exact C.elim
  .rcases qF.1 hr with hr|hr
   .exact .inl (zQ h.sep.chg.grow.size (x r hr k j))
   .exact h.sep.own r (qG _ hr) C k j
 .refine qz.2 ⟨λr hr _ k j p => ?_,List.pairwise_append.2 ⟨(qz.1 f.sep.apart).2,(qz.1 h.sep.apart).2,λr hr s D _ k j p => ?_⟩⟩
  .rcases qF.1 hr with hr|hr
   .exact f.nfz hr p j
   .rcases f.new k j with u|u
    .exact h.nfz hr p u
    .have:=h.lt hr p;omega
  .have:=x r hr k j;have:=h.lt D p;omega
 .rcases qF.1 hr with hr|hr
  .exact f.exc r hr
  .exact h.exc r hr
def FbR(E:TE)(z:Fz)(g:Ga)(id:Nat)(o:Obj E):Prop:=∃t x,o = .fb t x/\∃l r,g id=some l/\z.F l.b/\RD E z (E.flat t) (E.fl t x) r/\∀j u,r[j]? = some u->z.w.cell? ⟨l.b,j,none⟩=some u
theorem Mx.relF{N lo nx:Nat}{a:Act}{l:tL (Nat×tO (SV E))}{m:tL (Nat×tW)}(h:Mx E z0 w0 w z L)(C:Env N a m)(G:EnvR P E z g l m)(J:Fresh g nx)(D:∀id o,H id=some o->FbR E z g id o) :
  Rel P E [] ⟨z,g,lo⟩ w N (St.L ⟨λ_=>none,H,lo⟩ ⟨l,none,[],none,nx⟩) (St.H ⟨λ_=>none,H,lo⟩ ⟨l,none,[],none,nx⟩) nx a w:=by
 have j:∀id o k,H id=some o->¬fpO g id o k:=λid o k e f=>by
  obtain⟨t,x,rfl,_⟩:=D id o e;exact f
 have y:HR P E [] z.F w w z g H:=⟨Chg.of_below (Below.refl _ _),λid o e=>by
  obtain⟨t,x,rfl,U⟩:=D id o e;exact U,λid o k e f=>(j id o k e f).elim,λid _ o _ k _ e _ f=>(j id o k e f).elim,h.In,λ_ f => .inl f,λid o k e f=>(j id o k e f).elim,h.gl⟩
 refine⟨z,g,⟨C.size,C.defers,λt u p => ?_⟩,y,J,Fz.Le.refl z,Ga.Le.refl g⟩;unfold St.L at p;simp only at p;cases q:aK_ t l with
 | none=>rw[q]at p;cases p
 | some o =>
  rw[q]at p;obtain⟨s,v,rfl,O,M⟩:=G.get q;obtain rfl:=qSj p;exact⟨v,C.get t v O,M⟩
theorem Fz.Le.cell(h:z.Le z'){b j:Nat}{u:tW}(p:z.F b)(f:z.w.cell? ⟨b,j,none⟩=some u):z'.w.cell? ⟨b,j,none⟩=some u:=(World.cell?_of_block (w:=z.w) (h b p).2).trans f
theorem Fz.In.cell(h:z.In w){b j:Nat}{u:tW}(p:z.F b)(f:z.w.cell? ⟨b,j,none⟩=some u):w.cell? ⟨b,j,none⟩=some u:=(World.cell?_of_block (w:=z.w) (h b p).2).trans f
section
variable{N i:Nat}{a:Act}{env:tL (Nat×tW)}{o:tP}{l:tL tP}{tl:tL Nat}{I:tS->Prop}{Q:Exit->Act->tS->Prop}{rest:tL (Nat×tV)}
theorem hE_(f:Env N a env)(p:l[i]? = some o)(q:gate l env o=some true)(d:Nat)(s:o.dst=some d)(u:Nat.blt d N=true)(v:tW)(hr:∀w',I w'->(execOp a.eval o).run P w' = .ok (.value v) w')
  (h:∀j,Env N j ((d,v)::env)->be_ P l.toArray tl [] I Q rest j w):be_ P l.toArray tl [] I Q ((i,false)::rest) a w :=
 em_ o p λK x=>by
  rw[qL (jy_ f q)];refine⟨v,λw' y => ?_,by rw[s];exact x _ (h _ (f.put u v))⟩;rw[hr w' y];exact⟨rfl,rfl⟩
theorem li_(p:l[i]? = some o)(h:∀w',Ext w w'->wpList P l.toArray (Exit.then (λq f=>(tl.contains i=false->I w->I f)/\be_ P l.toArray tl [] I Q rest q f) (cp_ Q)) [o] a w'):be_ P l.toArray tl [] I Q ((i,true)::rest) a w:=by
 have j:l.toArray[i]? = some o:=by simpa using p
 simp only[be_,j];exact λX d=>h _ ⟨X,d,rfl⟩
end
theorem Env.of_er{N:Nat}{a:Act}{Ls:Nat->tO (SV E)}(h:ER P E z g N a Ls):Env N a []:=⟨h.size,h.defers,λ_ _ e=>nomatch e⟩
theorem Env.add{N:Nat}{a:Act}{m:tL (Nat×tW)}(h:Env N a m){t:Nat}{v:tW}(j:a.tmps[t]? = some v):Env N a ((t,v)::m):=by
 refine⟨h.size,h.defers,λu x e => ?_⟩;simp only[look]at e;cases f:Nat.beq u t with
 | true =>
  rw[f]at e;obtain rfl:=qNb f;obtain rfl:=qSj e;exact j
 | false =>
  rw[f]at e;exact h.get u x e
end
end Rt
end Go
namespace Go.Proofs
open Go.Shelf
def Tryz.laysCount_ren:Go.Shelf.Ren:=⟨λ | 138=>177 | 195=>212 | 218=>214 | 143=>153 | 219=>185 | 217=>220 | 225=>221 | 224=>222 | 267=>223 | 266=>247 | 314=>248|n=>n,λ | 9=>9 | 3=>3 | 4=>4 | 5=>5 | 0=>0 | 46=>105 | 146=>272 | 51=>145|n=>n,λ | 1=>0|n=>n⟩
theorem Tryz.laysCount:Go.Proofs.Lays.n138 Tryz.prog Tryz.laysCount_ren:={
 mixed:=by kernel_rfl
 f138:=Tryz.func177.trans (qa some (by kernel_rfl))
 f143:=Tryz.func153.trans (qa some (by kernel_rfl))
 f195:=Tryz.func212.trans (qa some (by kernel_rfl))
 f217:=Tryz.func220.trans (qa some (by kernel_rfl))
 f218:=Tryz.func214.trans (qa some (by kernel_rfl))
 f219:=Tryz.func185.trans (qa some (by kernel_rfl))
 f224:=Tryz.func222.trans (qa some (by kernel_rfl))
 f225:=Tryz.func221.trans (qa some (by kernel_rfl))
 f266:=Tryz.func247.trans (qa some (by kernel_rfl))
 f267:=Tryz.func223.trans (qa some (by kernel_rfl))
 f314:=Tryz.func248.trans (qa some (by kernel_rfl))
 t0:=Tryz.underlying0
 a0:=Tryz.isAgg0
 z0:=Tryz.sizeOf0
 v0:=Tryz.zeroValue0
 t3:=Tryz.underlying3
 a3:=Tryz.isAgg3
 z3:=Tryz.sizeOf3
 v3:=Tryz.zeroValue3
 t4:=Tryz.underlying4
 a4:=Tryz.isAgg4
 z4:=Tryz.sizeOf4
 v4:=Tryz.zeroValue4
 t5:=Tryz.underlying5
 a5:=Tryz.isAgg5
 z5:=Tryz.sizeOf5
 v5:=Tryz.zeroValue5
 t9:=Tryz.underlying9
 a9:=Tryz.isAgg9
 z9:=Tryz.sizeOf9
 v9:=Tryz.zeroValue9
 t46:=Tryz.underlying105
 a46:=Tryz.isAgg105
 z46:=Tryz.sizeOf105
 v46:=Tryz.zeroValue105
 t51:=Tryz.underlying145
 a51:=Tryz.isAgg145
 z51:=Tryz.sizeOf145
 v51:=Tryz.zeroValue145
 t146:=Tryz.underlying272
 a146:=Tryz.isAgg272
 z146:=Tryz.sizeOf272
 v146:=Tryz.zeroValue272
 g1:=by kernel_rfl }
end Go.Proofs
namespace Go.Proofs.YtfbcbakhdkppoaaGreatDoor
open Go.Shelf Go.RowKit Go.Rt
theorem fCount:Tryz.laysCount_ren.f 138=177:=by kernel_rfl
theorem rA_(x0 x1:tX)(r:Int)(f:strings_Count x0 x1=some r)(w0:tS):Ret Tryz.prog 177 #[S x0,S x1] w0 λv w=>v = .int .i64 r/\Ext w0 w:=by
 unfold strings_Count at f;split at f
 .rename_i c;simp only[qOi]at f;subst f;have h:=Any.strings_Count_one Tryz.laysCount ⟨x0.toArray⟩ c w0;rw[fCount]at h;refine Calls.mono h λe w ⟨j,p⟩=>⟨_,j,?_,?_⟩
  .simp[Lib.countByte]
  .subst p;exact Ext.refl _
 .cases f
def ky_:Con te:=ag_ te [.d .str,.d .str] [(.int .i64,[])] false λa=>strings_Count a.1 a.2.1
theorem i4_:Con.OK Tryz.prog te 177 ky_/\c3_ Tryz.prog 177=true:=by
 refine⟨λR a k r hr => ?_,by kernel_rfl⟩;obtain⟨y,h,f⟩:=bind_some hr;exact⟨_,_,f,mx_ (y:=y) rfl rfl rfl rfl rfl λw=>rA_ a.1 a.2.1 y h w⟩
end Go.Proofs.YtfbcbakhdkppoaaGreatDoor
namespace Go.Proofs
open Go.Shelf
def Tryz.laysFormatInt_ren:Go.Shelf.Ren:=⟨λ | 173=>124 | 246=>159 | 283=>190 | 284=>191 | 285=>192 | 286=>193 | 129=>112 | 317=>224 | 318=>225 | 319=>226 | 320=>227 | 337=>249 | 338=>250|n=>n,λ | 2=>2 | 3=>3 | 9=>9 | 4=>4 | 171=>218 | 0=>0 | 53=>147 | 37=>108 | 5=>5 | 173=>220 | 212=>245 | 51=>145 | 20=>20 | 213=>246 | 46=>105 | 232=>282 | 233=>283|n=>n,λ | 17=>1 | 18=>4 | 19=>5|n=>n⟩
theorem Tryz.laysFormatInt:Go.Proofs.LaysM.n173 Tryz.prog Tryz.laysFormatInt_ren:={
 mixed:=by kernel_rfl
 f129:=Tryz.func112.trans (qa some (by kernel_rfl))
 f173:=Tryz.func124.trans (qa some (by kernel_rfl))
 f246:=Tryz.func159.trans (qa some (by kernel_rfl))
 f283:=Tryz.func190.trans (qa some (by kernel_rfl))
 f284:=Tryz.func191.trans (qa some (by kernel_rfl))
 f285:=Tryz.func192.trans (qa some (by kernel_rfl))
 f286:=Tryz.func193.trans (qa some (by kernel_rfl))
 f317:=Tryz.func224.trans (qa some (by kernel_rfl))
 f318:=Tryz.func225.trans (qa some (by kernel_rfl))
 f319:=Tryz.func226.trans (qa some (by kernel_rfl))
 f320:=Tryz.func227.trans (qa some (by kernel_rfl))
 f337:=Tryz.func249.trans (qa some (by kernel_rfl))
 f338:=Tryz.func250.trans (qa some (by kernel_rfl))
 t0:=Tryz.underlying0
 a0:=Tryz.isAgg0
 z0:=Tryz.sizeOf0
 v0:=Tryz.zeroValue0
 t2:=Tryz.underlying2
 a2:=Tryz.isAgg2
 z2:=Tryz.sizeOf2
 v2:=Tryz.zeroValue2
 t3:=Tryz.underlying3
 a3:=Tryz.isAgg3
 z3:=Tryz.sizeOf3
 v3:=Tryz.zeroValue3
 t4:=Tryz.underlying4
 a4:=Tryz.isAgg4
 z4:=Tryz.sizeOf4
 v4:=Tryz.zeroValue4
 t5:=Tryz.underlying5
 a5:=Tryz.isAgg5
 z5:=Tryz.sizeOf5
 v5:=Tryz.zeroValue5
 t9:=Tryz.underlying9
 a9:=Tryz.isAgg9
 z9:=Tryz.sizeOf9
 v9:=Tryz.zeroValue9
 t20:=Tryz.underlying20
 a20:=Tryz.isAgg20
 z20:=Tryz.sizeOf20
 v20:=Tryz.zeroValue20
 t37:=Tryz.underlying108
 a37:=Tryz.isAgg108
 z37:=Tryz.sizeOf108
 v37:=Tryz.zeroValue108
 t46:=Tryz.underlying105
 a46:=Tryz.isAgg105
 z46:=Tryz.sizeOf105
 v46:=Tryz.zeroValue105
 t51:=Tryz.underlying145
 a51:=Tryz.isAgg145
 z51:=Tryz.sizeOf145
 v51:=Tryz.zeroValue145
 t53:=Tryz.underlying147
 a53:=Tryz.isAgg147
 z53:=Tryz.sizeOf147
 v53:=Tryz.zeroValue147
 t171:=Tryz.underlying218
 a171:=Tryz.isAgg218
 z171:=Tryz.sizeOf218
 v171:=Tryz.zeroValue218
 t173:=Tryz.underlying220
 a173:=Tryz.isAgg220
 z173:=Tryz.sizeOf220
 v173:=Tryz.zeroValue220
 t212:=Tryz.underlying245
 a212:=Tryz.isAgg245
 z212:=Tryz.sizeOf245
 v212:=Tryz.zeroValue245
 t213:=Tryz.underlying246
 a213:=Tryz.isAgg246
 z213:=Tryz.sizeOf246
 t232:=Tryz.underlying282
 a232:=Tryz.isAgg282
 z232:=Tryz.sizeOf282
 v232:=Tryz.zeroValue282
 t233:=Tryz.underlying283
 a233:=Tryz.isAgg283
 z233:=Tryz.sizeOf283
 v233:=Tryz.zeroValue283
 g17:=by kernel_rfl
 g18:=by kernel_rfl
 g19:=by kernel_rfl
 i0:=by kernel_rfl
 i2:=by kernel_rfl
 i3:=by kernel_rfl
 i4:=by kernel_rfl
 i5:=by kernel_rfl
 i9:=by kernel_rfl
 i20:=by kernel_rfl
 i37:=by kernel_rfl
 i46:=by kernel_rfl
 i51:=by kernel_rfl
 i53:=by kernel_rfl
 i171:=by kernel_rfl
 i173:=by kernel_rfl
 i212:=by kernel_rfl
 i232:=by kernel_rfl
 i233:=by kernel_rfl
 m17:=by kernel_rfl
 m18:=by kernel_rfl
 m19:=by kernel_rfl }
end Go.Proofs
namespace Go.Proofs.YtfbcbakhdkppoaaGreatDoor
open Go.Shelf Go.RowKit Go.Rt
theorem fFormatInt:Tryz.laysFormatInt_ren.f 173=124:=by kernel_rfl
theorem digF_eq:∀(f u:Nat),u<10^(f+1)->digF (f+1) u=Lib.decDigits u
 | 0,u,h=>by
  have j:u<10:=by simpa using h
  rw[Lib.decDigits,dif_pos j];unfold digF;rw[qL j]
 | f+1,u,h=>by
  rw[Lib.decDigits,digF];by_cases j:u<10
  .rw[qL j,dif_pos j]
  .rw[qP j,dif_neg j,digF_eq f (u/10) (by rw[Nat.pow_succ]at h;omega)]
theorem pow10_in {w : tS} {z : Fz} (hz : z.In w) (hg : Glo te z) : Lib.TabIs Tryz.prog w "internal/strconv.uint64pow10" .u64 Lib.pow10Tab := by
 obtain⟨hF,r,hr,_,e,c,hh⟩:=hg 1 globPT globP rfl;obtain⟨v1,e1,hr⟩:=RD.int_inv hr;obtain⟨v2,e2,hr⟩:=RD.int_inv hr;obtain⟨v3,e3,hr⟩:=RD.int_inv hr;obtain⟨v4,e4,hr⟩:=RD.int_inv hr;obtain⟨v5,e5,hr⟩:=RD.int_inv hr;obtain⟨v6,e6,hr⟩:=RD.int_inv hr;obtain⟨v7,e7,hr⟩:=RD.int_inv hr;obtain⟨v8,e8,hr⟩:=RD.int_inv hr;obtain⟨v9,e9,hr⟩:=RD.int_inv hr;obtain⟨ZY,F,hr⟩:=RD.int_inv hr;obtain⟨ZZ,D,hr⟩:=RD.int_inv hr;obtain⟨Z,C,hr⟩:=RD.int_inv hr;obtain⟨Y,y,hr⟩:=RD.int_inv hr;obtain⟨V,x,hr⟩:=RD.int_inv hr;obtain⟨U,u,hr⟩:=RD.int_inv hr;obtain⟨O,s,hr⟩:=RD.int_inv hr;obtain⟨M,q,hr⟩:=RD.int_inv hr;obtain⟨J,p,hr⟩:=RD.int_inv hr
 obtain⟨G,j,hr⟩:=RD.int_inv hr;obtain⟨v20,h,hr⟩:=RD.int_inv hr;have f:=hr.nil_inv;subst f h j p q s u x y C D F e9 e8 e7 e6 e5 e4 e3 e2 e1;have hw:=(hz _ hF).2.trans hh;unfold Lib.TabIs World.var?
 have hn : (Tryz.prog).globalNamed "internal/strconv.uint64pow10" = some 1 := by kernel_rfl
 rw[hn];simp only[qBs,hw];have ht:Lib.pow10Tab=[1,10,100,1000,10000,100000,1000000,10000000,100000000,1000000000,10000000000,100000000000,1000000000000,10000000000000,100000000000000,1000000000000000,10000000000000000,100000000000000000,1000000000000000000,10000000000000000000]:=by decide +kernel
 rw[ht];rfl
theorem oo_(x0 x1:Int)(r:tX)(f:dQ_ x0 x1=some r)(w0:tS)(z:Fz)(p:z.In w0)(q:Glo te z):Ret Tryz.prog 124 #[.int .i64 x0,.int .i64 x1] w0 λv w=>v=S r/\Ext w0 w:=by
 unfold dQ_ at f;split at f
 .rename_i h;obtain⟨rfl,y,x⟩:=h;obtain rfl:=qSj f;have j:=Any.strconv_FormatInt_10 Tryz.laysFormatInt x0 (by omega) x w0 (pow10_in p q);rw[fFormatInt]at j;refine Calls.mono j λe w ⟨s,k,os,u⟩=>⟨_,s,?_,⟨os,(w0.drewN k).drawn,u⟩⟩
  rw[digF_eq 19 _ (by omega)];unfold Lib.itoa;rw[qP (by omega)];rfl
 .cases f
def m5_:Con te:=ag_ te [.d (.int .i64),.d (.int .i64)] [(.str,[])] false λa=>dQ_ a.1 a.2.1
theorem lG_:Con.OK Tryz.prog te 124 m5_/\c3_ Tryz.prog 124=true:=by
 refine⟨λR a k r hr => ?_,by kernel_rfl⟩;obtain⟨y,p,j⟩:=bind_some hr;exact⟨_,_,j,oR_ (y:=y) rfl rfl rfl rfl rfl λw z f h=>oo_ a.1 a.2.1 y p w z f h⟩
end Go.Proofs.YtfbcbakhdkppoaaGreatDoor
