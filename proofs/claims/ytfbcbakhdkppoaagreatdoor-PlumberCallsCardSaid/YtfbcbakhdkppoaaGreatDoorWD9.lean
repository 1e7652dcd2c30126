/-
 What the statements of this seat hang on,part 9: Bo Bp Bq Br Bu Bv Bw Bx By Bz Eb Ec Ed Ee Ef Eg.
-/
import Derived.Test.YtfbcbakhdkppoaaGreatDoorWD8
import Derived.KernelRfl
namespace Go.Proofs.YtfbcbakhdkppoaaGreatDoor
open Go.Rt Go.RowKit
def Re.labs:Re->tL Nat->tL (tL Nat) | .emp,_=>[] | .chr _,O=>[O] | .any,O=>[O] | .bol,O=>[O] | .eol,O=>[O] | .set _ _,O=>[O] | .seq a b,O=>a.labs O++b.labs O | .alt a b,O=>O::(a.labs O++O::b.labs O) | .grp k a,O=>O::(a.labs (k::O)++[k::O]) | .star a,O=>O::(a.labs O++[O]) | .plus a,O=>a.labs O++[O] | .opt a,O=>O::a.labs O
theorem cl_:∀(a:Re) (O:tL Nat),(a.labs O).length=a.len
 | .emp,_=>rfl
 | .chr _,_=>rfl
 | .any,_=>rfl
 | .bol,_=>rfl
 | .eol,_=>rfl
 | .set _ _,_=>rfl
 | .seq a b,O=>by simp only[Re.labs,Re.len,qLa,cl_ a,cl_ b]
 | .alt a b,O=>by simp only[Re.labs,Re.len,qLa,qLc,cl_ a,cl_ b];omega
 | .grp k a,O=>by simp only[Re.labs,Re.len,qLa,qLc,qQ,cl_ a]
 | .star a,O=>by simp only[Re.labs,Re.len,qLa,qLc,qQ,cl_ a]
 | .plus a,O=>by simp only[Re.labs,Re.len,qLa,qLc,qQ,cl_ a]
 | .opt a,O=>by simp only[Re.labs,Re.len,qLc,cl_ a]
inductive Edge(Lb:Nat->tO (tL Nat))(G i:Nat)(O:tL Nat):Xz->Prop
 | chr (b:UInt8) (h:Lb (i+1)=some O):Edge Lb G i O (iC b)
 | any (h:Lb (i+1)=some O):Edge Lb G i O (iOne 2)
 | set (x:tX) (n:tV) (h:Lb (i+1)=some O):Edge Lb G i O (setI x n)
 | bol (h:Lb (i+1)=some O):Edge Lb G i O (iOne 4)
 | eol (h:Lb (i+1)=some O):Edge Lb G i O (iOne 5)
 | split(x y:Nat) (h1:Lb x=some O) (h2:Lb y=some O):Edge Lb G i O (bF_ x y)
 | jump (x:Nat) (h1:Lb x=some O):Edge Lb G i O (cX_ x)
 | begin_ (m:Nat) (hm:m<G) (h1:Lb (i+1)=some (m::O)):Edge Lb G i O (aU_ (2*m))
 | end_ (m:Nat) (hm:m<G) (P:tL Nat) (h0:O=m::P) (h1:Lb (i+1)=some P):Edge Lb G i O (aU_ (2*m+1))
 | done (h0:O=[]):Edge Lb G i O (iOne 9)
def LabsAt(Lb:Nat->tO (tL Nat))(n:Nat)(l:tL (tL Nat)):Prop:=∀j,j<l.length->Lb (n+j)=l[j]?
theorem LabsAt.left{Lb:Nat->tO (tL Nat)}{n:Nat}{a b:tL (tL Nat)}(h:LabsAt Lb n (a++b)):LabsAt Lb n a:=λj f=>by
 rw[h j (by rw[qLa];omega),zR f]
theorem LabsAt.right{Lb:Nat->tO (tL Nat)}{n:Nat}{a b:tL (tL Nat)}(h:LabsAt Lb n (a++b)):LabsAt Lb (n+a.length) b:=λj f=>by
 rw[zG,h (a.length+j) (by rw[qLa];omega),zZ (by omega)]
 congr 1
 omega
theorem LabsAt.head{Lb:Nat->tO (tL Nat)}{n:Nat}{O:tL Nat}{b:tL (tL Nat)}(h:LabsAt Lb n (O::b)):Lb n=some O:=h 0 (Nat.succ_pos _)
theorem LabsAt.tail{Lb:Nat->tO (tL Nat)}{n:Nat}{O:tL Nat}{b:tL (tL Nat)}(h:LabsAt Lb n (O::b)):LabsAt Lb (n+1) b:=λj f=>by
 rw[show n+1+j=n+(j+1)by omega,h (j+1) (by rw[qLc];omega)];rfl
theorem dc_:∀(a:Re) {Lb:Nat->tO (tL Nat)} {n:Nat} {O:tL Nat},LabsAt Lb n (a.labs O)->Lb (n+a.len)=some O->Lb n=some O
 | .emp,_,_,_,_,h=>h
 | .chr _,_,_,_,h,_=>h.head
 | .any,_,_,_,h,_=>h.head
 | .bol,_,_,_,h,_=>h.head
 | .eol,_,_,_,h,_=>h.head
 | .set _ _,_,_,_,h,_=>h.head
 | .seq a b,Lb,n,O,h,f=>by
  have hr:=LabsAt.right h;rw[cl_]at hr;refine dc_ a (LabsAt.left h) (dc_ b hr ?_);rw[zG];exact f
 | .alt _ _,_,_,_,h,_=>h.head
 | .grp _ _,_,_,_,h,_=>h.head
 | .star _,_,_,_,h,_=>h.head
 | .plus a,Lb,n,O,h,f=>by
  have hr:=LabsAt.right h;rw[cl_]at hr;exact dc_ a (LabsAt.left h) hr.head
 | .opt _,_,_,_,h,_=>h.head
def EdgesAt(Lb:Nat->tO (tL Nat))(G n:Nat)(l:tL Xz):Prop:=∀j x,l[j]? = some x->∃O,Lb (n+j)=some O/\Edge Lb G (n+j) O x
theorem EdgesAt.nil{Lb:Nat->tO (tL Nat)}{G n:Nat}:EdgesAt Lb G n []:=λj x h=>by cases h
theorem EdgesAt.cons{Lb:Nat->tO (tL Nat)}{G n:Nat}{x:Xz}{l:tL Xz}{O:tL Nat}(q:Lb n=some O)(p:Edge Lb G n O x)(h:EdgesAt Lb G (n+1) l):EdgesAt Lb G n (x::l):=λj y f=>by
 cases j with
 | zero =>
  obtain rfl:=qSj f;exact⟨O,q,p⟩
 | succ j =>
  have:=h j y f;rw[show n+1+j=n+(j+1)by omega]at this;exact this
theorem EdgesAt.app{Lb:Nat->tO (tL Nat)}{G n:Nat}{a b:tL Xz}(q:EdgesAt Lb G n a)(p:EdgesAt Lb G (n+a.length) b):EdgesAt Lb G n (a++b):=λj y f=>by
 rcases qR j a.length with h|h
 .rw[zR h]at f;exact q j y f
 .rw[zZ h]at f;have:=p (j-a.length) y f;rw[show n+a.length+(j-a.length)=n+j by omega]at this;exact this
theorem d2_:∀(a:Re) {Lb:Nat->tO (tL Nat)} {G n:Nat} {O:tL Nat},a.grps (G-1)->0<G->LabsAt Lb n (a.labs O)->Lb (n+a.len)=some O->EdgesAt Lb G n (a.code n)
 | .emp,_,_,_,_,_,_,_,_=>EdgesAt.nil
 | .chr b,_,_,_,_,_,_,h,f=>EdgesAt.cons h.head (.chr b f) EdgesAt.nil
 | .any,_,_,_,_,_,_,h,f=>EdgesAt.cons h.head (.any f) EdgesAt.nil
 | .bol,_,_,_,_,_,_,h,f=>EdgesAt.cons h.head (.bol f) EdgesAt.nil
 | .eol,_,_,_,_,_,_,h,f=>EdgesAt.cons h.head (.eol f) EdgesAt.nil
 | .set x k,_,_,_,_,_,_,h,f=>EdgesAt.cons h.head (.set x k f) EdgesAt.nil
 | .seq a b,Lb,G,n,O,q,s,h,f=>by
  have hr:=LabsAt.right h;rw[cl_]at hr;have j:Lb (n+a.len+b.len)=some O:=by rw[zG];exact f
  refine EdgesAt.app (d2_ a q.1 s (LabsAt.left h) (dc_ b hr j)) ?_;rw[aC_];exact d2_ b q.2 s hr j
 | .alt a b,Lb,G,n,O,q,s,h,f=>by
  have p:=h.tail;have hr:=LabsAt.right p;rw[cl_]at hr;have u:=hr.tail;have j:Lb (n+1+a.len+1+b.len)=some O:=by rw[show n+1+a.len+1+b.len=n+(a.len+b.len+2)by omega];exact f
  have y:Lb (n+a.len+2)=some O:=by
   have:=dc_ b u j;rw[show n+1+a.len+1=n+a.len+2 by omega]at this;exact this
  refine EdgesAt.cons h.head (.split _ _ (dc_ a (LabsAt.left p) hr.head) y) (EdgesAt.app (d2_ a q.1 s (LabsAt.left p) hr.head) ?_);rw[aC_];refine EdgesAt.cons hr.head (.jump _ (by rw[show n+a.len+b.len+2=n+(a.len+b.len+2)by omega];exact f)) ?_;have:=d2_ b q.2 s u j;rw[show n+1+a.len+1=n+a.len+2 by omega]at this ⊢;exact this
 | .grp k a,Lb,G,n,O,q,s,h,f=>by
  have p:=h.tail;have hr:=LabsAt.right p;rw[cl_]at hr;have C:=q.1;refine EdgesAt.cons h.head (.begin_ k (by omega) (dc_ a (LabsAt.left p) hr.head)) (EdgesAt.app (d2_ a q.2 s (LabsAt.left p) hr.head) ?_);rw[aC_];refine EdgesAt.cons hr.head (.end_ k (by omega) O rfl ?_) EdgesAt.nil;rw[show n+1+a.len+1=n+(a.len+2)by omega];exact f
 | .star a,Lb,G,n,O,q,s,h,f=>by
  have p:=h.tail;have hr:=LabsAt.right p;rw[cl_]at hr;refine EdgesAt.cons h.head (.split _ _ (dc_ a (LabsAt.left p) hr.head) (by rw[show n+a.len+2=n+(a.len+2)by omega];exact f)) (EdgesAt.app (d2_ a q s (LabsAt.left p) hr.head) ?_);rw[aC_];exact EdgesAt.cons hr.head (.jump _ h.head) EdgesAt.nil
 | .plus a,Lb,G,n,O,q,s,h,f=>by
  have hr:=LabsAt.right h;rw[cl_]at hr;refine EdgesAt.app (d2_ a q s (LabsAt.left h) hr.head) ?_;rw[aC_];exact EdgesAt.cons hr.head (.split _ _ (dc_ a (LabsAt.left h) hr.head) (by rw[show n+a.len+1=n+(a.len+1)by omega];exact f)) EdgesAt.nil
 | .opt a,Lb,G,n,O,q,s,h,f=>by
  have p:=h.tail;have j:Lb (n+1+a.len)=some O:=by rw[show n+1+a.len=n+(a.len+1)by omega];exact f
  exact EdgesAt.cons h.head (.split _ _ (dc_ a p j) (by rw[show n+a.len+1=n+(a.len+1)by omega];exact f)) (d2_ a q s p j)
theorem ed_:∀(a:Re) {m k:Nat},a.grps m->m<=k->a.grps k
 | .emp,_,_,_,_=>trivial
 | .chr _,_,_,_,_=>trivial
 | .any,_,_,_,_=>trivial
 | .bol,_,_,_,_=>trivial
 | .eol,_,_,_,_=>trivial
 | .set _ _,_,_,_,_=>trivial
 | .seq a b,_,_,h,f=>⟨ed_ a h.1 f,ed_ b h.2 f⟩
 | .alt a b,_,_,h,f=>⟨ed_ a h.1 f,ed_ b h.2 f⟩
 | .grp _ a,_,_,h,f=>⟨zQ h.1 f,ed_ a h.2 f⟩
 | .star a,_,_,h,f=>ed_ a h f
 | .plus a,_,_,h,f=>ed_ a h f
 | .opt a,_,_,h,f=>ed_ a h f
theorem RP.grps{s:tX}{k:PK}{d i g:Nat}{r:PX}(h:RP s k d i g r):i<=s.length->g<=9->∀a q g1,r = .ok a q g1->a.grps g1:=by
 induction h with
 | stop h=>intro _ _ a q g1 e;injection e with e _ _;subst e;trivial
 | @next d i g c a q g1 r h h1 h2 hp M F D =>
  intro hi y U G g' e;cases r with
  | err e'=>cases e
  | ok b q2 g2 =>
   injection e with u C p;subst u;subst C;subst p;have f:=hp.good hi y;have j:=M.good f.2.1 f.2.2.2.2.1;exact⟨ed_ a (F hi y _ _ _ rfl) j.2.2.2.1,D f.2.1 f.2.2.2.2.1 _ _ _ rfl⟩
 | @pcok d i g a q g1 h J =>
  intro hi y U G g' e;have:=J hi y _ _ _ rfl;unfold post at e;split at e
  .injection e with u C p;subst u;subst p;exact this
  .split at e
   .injection e with u C p;subst u;subst p;exact this
   .split at e
    .injection e with u C p;subst u;subst p;exact this
    .injection e with u C p;subst u;subst p;exact this
 | @grp d i g a q g1 h ZZ hr Z J =>
  intro hi y U G g' e;injection e with u C p;subst u;subst p;have O:=aI_ h;have f:=hr.good (by omega) (by omega);exact⟨f.2.2.2.1,J (by omega) (by omega) _ _ _ rfl⟩
 | any h=>intro _ _ a q g1 e;injection e with e _ _;subst e;trivial
 | bol h=>intro _ _ a q g1 e;injection e with e _ _;subst e;trivial
 | eol h=>intro _ _ a q g1 e;injection e with e _ _;subst e;trivial
 | @cls d i g r h Z =>
  intro _ _ a q g1 e;cases r with
  | err e'=>cases e
  | ok x G=>injection e with e _ _;subst e;trivial
 | @esc d i g h =>
  intro _ _ a q g1 e;cases Y:escS s i with
  | err e'=>rw[Y]at e;cases e
  | ok b G=>rw[Y]at e;injection e with e _ _;subst e;trivial
 | chr h Z=>intro _ _ a q g1 e;injection e with e _ _;subst e;trivial
 | rxone h V J=>exact J
 | @rxalt d i g a q g1 b q2 g2 h V M F D =>
  intro hi y U G g' e;injection e with u C p;subst u;subst C;subst p;have O:=aI_ V;have f:=h.good hi y;have j:=M.good (by omega) f.2.2.2.2.1;exact⟨ed_ a (F hi y _ _ _ rfl) j.2.2.2.1,D (by omega) f.2.2.2.2.1 _ _ _ rfl⟩
 | _=>intro _ _ a q g1 e;cases e
def Re.setB(m:Nat):Re->Prop | .seq a b=>a.setB m/\b.setB m | .alt a b=>a.setB m/\b.setB m | .grp _ a=>a.setB m | .star a=>a.setB m | .plus a=>a.setB m | .opt a=>a.setB m | .set x _=>x.length<=m|_=>True
theorem eS_:∀(a:Re) (n:Nat) {m:Nat},a.setB m->∀x∈a.code n,x.Yh.length<=m
 | .emp,_,_,_,x,h=>by cases h
 | .chr _,_,_,_,x,h=>by rw[qH.1 h];exact qO _
 | .any,_,_,_,x,h=>by rw[qH.1 h];exact qO _
 | .bol,_,_,_,x,h=>by rw[qH.1 h];exact qO _
 | .eol,_,_,_,x,h=>by rw[qH.1 h];exact qO _
 | .set y _,_,_,f,x,h=>by rw[qH.1 h];exact f
 | .seq a b,n,_,f,x,h=>by
  rcases qF.1 h with h|h
  .exact eS_ a _ f.1 x h
  .exact eS_ b _ f.2 x h
 | .alt a b,n,_,f,x,h=>by
  rcases qD.1 h with rfl|h
  .exact qO _
  .rcases qF.1 h with h|h
   .exact eS_ a _ f.1 x h
   .rcases qD.1 h with rfl|h
    .exact qO _
    .exact eS_ b _ f.2 x h
 | .grp k a,n,_,f,x,h=>by
  rcases qD.1 h with rfl|h
  .exact qO _
  .rcases qF.1 h with h|h
   .exact eS_ a _ f x h
   .rw[qH.1 h];exact qO _
 | .star a,n,_,f,x,h=>by
  rcases qD.1 h with rfl|h
  .exact qO _
  .rcases qF.1 h with h|h
   .exact eS_ a _ f x h
   .rw[qH.1 h];exact qO _
 | .plus a,n,_,f,x,h=>by
  rcases qF.1 h with h|h
  .exact eS_ a _ f x h
  .rw[qH.1 h];exact qO _
 | .opt a,n,_,f,x,h=>by
  rcases qD.1 h with rfl|h
  .exact qO _
  .exact eS_ a _ f x h
theorem RP.sets{s:tX}{k:PK}{d i g:Nat}{r:PX}(h:RP s k d i g r):∀a q g1,r = .ok a q g1->a.setB (2*s.length):=by
 induction h with
 | stop h=>intro a q g1 e;injection e with e _ _;subst e;trivial
 | @next d i g c a q g1 r h h1 M hp V p j =>
  intro G u g' e;cases r with
  | err O=>cases e
  | ok b U g2 =>
   injection e with f C y;subst f;exact⟨p _ _ _ rfl,j _ _ _ rfl⟩
 | @pcok d i g a q g1 h D =>
  intro G u g' e;have:=D _ _ _ rfl;unfold post at e;split at e
  .injection e with f C y;subst f;exact this
  .split at e
   .injection e with f C y;subst f;exact this
   .split at e
    .injection e with f C y;subst f;exact this
    .injection e with f C y;subst f;exact this
 | @grp d i g a q g1 h Z hr F D =>
  intro G u g' e;injection e with f C y;subst f;have M:=D _ _ _ rfl;exact M
 | any h=>intro a q g1 e;injection e with e _ _;subst e;trivial
 | bol h=>intro a q g1 e;injection e with e _ _;subst e;trivial
 | eol h=>intro a q g1 e;injection e with e _ _;subst e;trivial
 | @cls d i g r h F =>
  intro a q g1 e;cases r with
  | err O=>cases e
  | ok x u =>
   injection e with e _ _;subst e;have:=(F.len.2 x u rfl).2.2;simp only[qQ]at this;show x.length<=2*s.length;omega
 | @esc d i g h =>
  intro a q g1 e;cases J:escS s i with
  | err O=>rw[J]at e;cases e
  | ok b u=>rw[J]at e;injection e with e _ _;subst e;trivial
 | chr h F=>intro a q g1 e;injection e with e _ _;subst e;trivial
 | rxone h Y D=>exact D
 | @rxalt d i g a q g1 b U g2 h Y V p j =>
  intro G u g' e;injection e with f C y;subst f;exact⟨p _ _ _ rfl,j _ _ _ rfl⟩
 | _=>intro a q g1 e;cases e
structure ProgOK(L:tL Xz)(G:Nat)(Lb:Nat->tO (tL Nat)):Prop where
 n:0<L.length/\L.length<=1000
 g:0<G/\G<=10
 lb:∀i,(Lb i).isSome=true->i<L.length
 z:Lb 0=some []
 e:EdgesAt Lb G 0 L
 st:∀x∈L,x.Yh.length<=1000
theorem prog_ok{s:tX}{a:Re}{q g:Nat}(J:s.length<=256)(h:RP s .rx 0 0 0 (.ok a q g)):∃Lb,ProgOK (prog a g).Yy (g+1) Lb/\(prog a g).Yb=((g+1:Nat):Int):=by
 have F:=h.good (qO _) (qO _);have D:=h.grps (qO _) (qO _) a q g rfl;have y:(prog a g).Yy.length=a.len+3:=by
  unfold prog;simp only[qLc,qLa,qQ,aC_]
 have p:LabsAt (λi=>([]::(a.labs [0]++[[0],[]]):tL (tL Nat))[i]?) 0 ([]::(a.labs [0]++[[0],[]])):=λj _=>by rw[qh]
 refine⟨λi=>([]::(a.labs [0]++[[0],[]]):tL (tL Nat))[i]?,⟨⟨by omega,by omega⟩,⟨by omega,by omega⟩,λi hi => ?_,rfl,?_,?_⟩,rfl⟩
 .rw[y];rcases qR i (a.len+3)with G|G
  .exact G
  .rw[qe (by simp only[qLc,qLa,qQ,cl_];omega)]at hi;cases hi
 .have C:=p.tail;have hr:=LabsAt.right C;rw[cl_]at hr;have u:=hr.tail;refine EdgesAt.cons p.head (.begin_ 0 (by omega) (dc_ a (LabsAt.left C) hr.head)) (EdgesAt.app (d2_ a (by rw[Nat.add_sub_cancel];exact D) (by omega) (LabsAt.left C) hr.head) ?_);rw[aC_];exact EdgesAt.cons hr.head (.end_ 0 (by omega) [] rfl u.head) (EdgesAt.cons u.head (.done rfl) EdgesAt.nil)
 .intro x f;rcases qD.1 f with rfl|f
  .exact qO _
  .rcases qF.1 f with f|f
   .have:=eS_ a 1 (h.sets a q g rfl) x f;omega
   .rcases qD.1 f with rfl|f
    .exact qO _
    .rw[qH.1 f];exact qO _
structure CapsOK(G pos:Nat)(O:tL Nat)(c:tL Int):Prop where
 len:c.length=2*G
 up:∀k,k<G->∃u v,c[2*k]? = some u/\c[2*k+1]? = some v/\u<=(pos:Int)/\v<=(pos:Int)/\(k∈O->0<=u)/\(k∉O->u<0\/(0<=u/\u<=v))
theorem CapsOK.later{G pos pos':Nat}{O:tL Nat}{c:tL Int}(h:CapsOK G pos O c)(s:pos<=pos'):CapsOK G pos' O c:=⟨h.len,λk f=>by
 obtain⟨u,v,q,p,y,x,j⟩:=h.up k f;exact⟨u,v,q,p,by omega,by omega,j⟩⟩
theorem CapsOK.begin_{G pos m:Nat}{O:tL Nat}{c:tL Int}(h:CapsOK G pos O c):CapsOK G pos (m::O) (c.set (2*m) (pos:Int)):=by
 refine⟨by rw[jF];exact h.len,λk f => ?_⟩;have F:=h.len;obtain⟨u,v,D,s,C,q,y,x⟩:=h.up k f;by_cases p:k=m
 .subst p;refine⟨(pos:Int),v,?_,?_,qt _,q,λ_=>by omega,λj=>absurd qT j⟩
  .rw[List.getElem?_set_self (by omega)]
  .rw[jl (by omega)];exact s
 .refine⟨u,v,?_,?_,C,q,λf => ?_,λj=>x λf=>j (qG _ f)⟩
  .rw[jl (by omega)];exact D
  .rw[jl (by omega)];exact s
  .rcases qD.1 f with f|f
   .exact absurd f p
   .exact y f
theorem CapsOK.end_{G pos m:Nat}{O:tL Nat}{c:tL Int}(h:CapsOK G pos (m::O) c):CapsOK G pos O (c.set (2*m+1) (pos:Int)):=by
 refine⟨by rw[jF];exact h.len,λk f => ?_⟩;have J:=h.len;obtain⟨u,v,s,F,j,D,q,C⟩:=h.up k f;by_cases p:k=m
 .subst p;have x:=q qT;refine⟨u,(pos:Int),?_,?_,j,qt _,λ_=>x,λ_ => .inr ⟨x,j⟩⟩
  .rw[jl (by omega)];exact s
  .rw[List.getElem?_set_self (by omega)]
 .refine⟨u,v,?_,?_,j,D,λf=>q (qG _ f),λy=>C λf => ?_⟩
  .rw[jl (by omega)];exact s
  .rw[jl (by omega)];exact F
  .rcases qD.1 f with f|f
   .exact absurd f p
   .exact absurd f y
abbrev Th:=Nat×tL Int
def pT(t:Th):regex_thread:=regex_thread.mk (t.1:Int) t.2
def rT(t:Th):Yx:=Yx.mk (t.1:Int) t.2
def bI(b:tV):Int:=bif b then 1 else 0
def pm(r:Xh)(s:tX)(pos:Nat)(seen:tL tV)(T:tL Th):regex_machine:=regex_machine.mk r s (pos:Int) (seen.map bI) (T.map pT)
def rm(seen:tL tV)(T:tL Th):Xa:=Xa.mk (T.map rT) seen
def ThOK(Lb:Nat->tO (tL Nat))(G pos:Nat)(t:Th):Prop:=∃O,Lb t.1=some O/\CapsOK G pos O t.2
theorem bI_set{seen:tL tV}{i:Nat}:(seen.map bI).set i 1=(seen.set i true).map bI:=by
 rw[List.map_set];rfl
theorem count_set{seen:tL tV}{i:Nat}(h:seen[i]? = some false):(seen.set i true).count false+1=seen.count false:=by
 induction seen generalizing i with
 | nil=>cases h
 | cons b l f =>
  cases i with
  | zero =>
   obtain rfl:=qSj h;simp
  | succ i =>
   have:=f (i:=i) h;rw[List.set_cons_succ,List.count_cons,List.count_cons];omega
def padd (n:Nat) (m:regex_machine) (at_:Int) (x:Xz) (c:tL Int):tO regex_machine :=
 (bif(x.Op_==7)then
  (am_ n m x.X_ c).bind λy5=>some y5
 else
  (bif(x.Op_==6)then
   (am_ n m x.X_ c).bind λs =>
   (am_ n s x.Y_ c).bind λq =>
   some q
  else
   (bif(x.Op_==8)then
    (bt_ c).bind λp =>
    (ah_ p x.X_).bind λ_ =>
    (am_ n m (w64 (at_+1)) (p.set x.X_.toNat m.pos_)).bind λy10 =>
    some y10
   else
    (bif(x.Op_==4)then
     (bif(m.pos_==0)then
      (am_ n m (w64 (at_+1)) c).bind λj =>
      some j
     else
      some m)
    else
     (bif(x.Op_==5)then
      (bif(m.pos_==(m.s_.length:Int))then
       (am_ n m (w64 (at_+1)) c).bind λh =>
       some h
      else
       some m)
     else
      (room 32 m.list_ [(regex_thread.mk at_ c)]).bind λf =>
      some {m with list_:=f})))))
def radd (n:Nat) (r:Xh) (s:tX) (t:Xa) (at_:Int) (x:Xz) (pos:Int) (c:tL Int):tO Xa :=
 (bif(x.Op_==7)then
  (as_ n r s t x.X_ pos c).bind λy5=>some y5
 else
  (bif(x.Op_==6)then
   (as_ n r s t x.X_ pos c).bind λu =>
   (as_ n r s u x.Y_ pos c).bind λq =>
   some q
  else
   (bif(x.Op_==8)then
    (room 8 ([]:tL Int) c).bind λp =>
    (ah_ p x.X_).bind λ_ =>
    (as_ n r s t (w64 (at_+1)) pos (p.set x.X_.toNat pos)).bind λy10 =>
    some y10
   else
    (bif(x.Op_==4)then
     (bif(pos==0)then
      (as_ n r s t (w64 (at_+1)) pos c).bind λj =>
      some j
     else
      some t)
    else
     (bif(x.Op_==5)then
      (bif(pos==(s.length:Int))then
       (as_ n r s t (w64 (at_+1)) pos c).bind λh =>
       some h
      else
       some t)
     else
      (room 32 t.L_ [(Yx.mk at_ c)]).bind λf =>
      some (Xa.mk f t.Yk))))))
theorem padd_eq{r:Xh}{s:tX}{pos n i:Nat}{seen:tL tV}{T:tL Th}{c:tL Int}{x:Xz}(hi:seen[i]? = some false)(f:r.Yy[i]? = some x):am_ (n+1) (pm r s pos seen T) (i:Int) c=padd n (pm r s pos (seen.set i true) T) (i:Int) x c:=by
 have h:ah_ (seen.map bI) (i:Int)=some 0:=by rw[aX_,zF,hi];rfl
 have e:am_ (n+1) (pm r s pos seen T) (i:Int) c=cy_ (am_ n) (pm r s pos seen T) (i:Int) c:=rfl;rw[e];unfold cy_;have u:(pm r s pos seen T).visited_=seen.map bI:=rfl;have q:(pm r s pos seen T).r_=r:=rfl;rw[u,q,h];simp only[qBs];rw[aX_,f];simp only[qBs];rw[show decide ((0:Int)>0)=false from rfl,qZ];have p:w64 ((0:Int)+1)=1:=rfl;have j:((i:Nat):Int).toNat=i:=rfl;rw[p,j,bI_set];rfl
theorem padd_seen{r:Xh}{s:tX}{pos n i:Nat}{seen:tL tV}{T:tL Th}{c:tL Int}(hi:seen[i]? = some true):am_ (n+1) (pm r s pos seen T) (i:Int) c=some (pm r s pos seen T):=by
 have f:ah_ (seen.map bI) (i:Int)=some 1:=by rw[aX_,zF,hi];rfl
 have e:am_ (n+1) (pm r s pos seen T) (i:Int) c=cy_ (am_ n) (pm r s pos seen T) (i:Int) c:=rfl;rw[e];unfold cy_;have h:(pm r s pos seen T).visited_=seen.map bI:=rfl;rw[h,f];rfl
theorem radd_eq{r:Xh}{s:tX}{pos n i:Nat}{seen:tL tV}{T:tL Th}{c:tL Int}{x:Xz}(hi:seen[i]? = some false)(f:r.Yy[i]? = some x):as_ (n+1) r s (rm seen T) (i:Int) (pos:Int) c=radd n r s (rm (seen.set i true) T) (i:Int) x (pos:Int) c:=by
 have h:ah_ seen (i:Int)=some false:=by rw[aX_,hi]
 have e:as_ (n+1) r s (rm seen T) (i:Int) (pos:Int) c=f3_ (as_ n) r s (rm seen T) (i:Int) (pos:Int) c:=rfl;rw[e];unfold f3_;have j:(rm seen T).Yk=seen:=rfl;rw[j,h];simp only[qBs,qZ];rw[aX_,f];rfl
theorem radd_seen{r:Xh}{s:tX}{pos n i:Nat}{seen:tL tV}{T:tL Th}{c:tL Int}(hi:seen[i]? = some true):as_ (n+1) r s (rm seen T) (i:Int) (pos:Int) c=some (rm seen T):=by
 have f:ah_ seen (i:Int)=some true:=by rw[aX_,hi]
 have e:as_ (n+1) r s (rm seen T) (i:Int) (pos:Int) c=f3_ (as_ n) r s (rm seen T) (i:Int) (pos:Int) c:=rfl;rw[e];unfold f3_;have h:(rm seen T).Yk=seen:=rfl;rw[h,f];rfl
structure Added(L:tL Xz)(G:Nat)(Lb:Nat->tO (tL Nat))(pos:Nat)(seen:tL tV)(T:tL Th)(seen':tL tV)(T':tL Th):Prop where
 len:seen'.length=L.length
 ok:∀t∈T',ThOK Lb G pos t
 few:T'.length+seen'.count false<=T.length+seen.count false
 less:seen'.count false<=seen.count false
theorem i7_{α:Type}(o:tO α):(o.bind λy=>some y)=o:=by cases o<;>rfl
theorem add_both {L:tL Xz} {G:Nat} {Lb:Nat->tO (tL Nat)} (hP:ProgOK L G Lb) {s:tX} {pos:Nat} (_:s.length<=100000) (_:pos<=s.length):∀(n:Nat) (seen:tL tV) (T:tL Th) (i:Nat) (O:tL Nat) (c:tL Int),seen.length=L.length->seen.count false<n->Lb i=some O->CapsOK G pos O c->(∀t∈T,ThOK Lb G pos t)->T.length+seen.count false<=100000 ->
  ∃seen' T',am_ n (pm (Xh.mk L (G:Int)) s pos seen T) (i:Int) c=some (pm (Xh.mk L (G:Int)) s pos seen' T')/\as_ n (Xh.mk L (G:Int)) s (rm seen T) (i:Int) (pos:Int) c=some (rm seen' T')/\Added L G Lb pos seen T seen' T':=by
 intro n
 induction n with
 | zero=>exact λseen T i O c _ h=>absurd h (Nat.not_lt_zero _)
 | succ n ih =>
  intro seen T i O c Y hn hi q hT ZW;have ZY:i<L.length:=hP.lb i (by rw[hi];rfl);have ZP:=hP.n;have hG:=hP.g;obtain⟨b,hb⟩:∃b,seen[i]? = some b:=⟨_,qY (by omega)⟩;cases b with
  | true=>exact⟨seen,T,padd_seen hb,radd_seen hb,Y,hT,qE _,qE _⟩
  | false =>
   have hx:=qY ZY;have ZQ:=count_set hb;obtain⟨O',ZZ,p⟩:=hP.e i _ hx;rw[qh]at ZZ p;rw[hi]at ZZ;obtain rfl:=qSj ZZ;rw[padd_eq hb hx,radd_eq hb hx];generalize L[i]=x at p hx;have V:w64 ((i:Int)+1)=((i+1:Nat):Int):=ai_ (by omega);have J:(seen.set i true).length=L.length:=by rw[jF];exact Y
   -- one more call
   have one:∀(j:Nat) (O2:tL Nat) (c2:tL Int),Lb j=some O2->CapsOK G pos O2 c2->∃seen' T',am_ n (pm (Xh.mk L (G:Int)) s pos (seen.set i true) T) (j:Int) c2=some (pm (Xh.mk L (G:Int)) s pos seen' T')/\as_ n (Xh.mk L (G:Int)) s (rm (seen.set i true) T) (j:Int) (pos:Int) c2=some (rm seen' T')/\Added L G Lb pos seen T seen' T':=by
    intro j O2 c2 hj ZT;obtain⟨s',T',f,M,Z⟩:=ih (seen.set i true) T j O2 c2 J (by omega) hj ZT hT (by omega);exact⟨s',T',f,M,Z.len,Z.ok,by have:=Z.few;omega,by have:=Z.less;omega⟩
   have stay:Added L G Lb pos seen T (seen.set i true) T:=⟨J,hT,by omega,by omega⟩;have put:∀{x:Xz},(x.Op_==7)=false->(x.Op_==6)=false->(x.Op_==8)=false->(x.Op_==4)=false->(x.Op_==5)=false->∃seen' T',padd n (pm (Xh.mk L (G:Int)) s pos (seen.set i true) T) (i:Int) x c=some (pm (Xh.mk L (G:Int)) s pos seen' T')/\radd n (Xh.mk L (G:Int)) s (rm (seen.set i true) T) (i:Int) x (pos:Int) c=some (rm seen' T')/\Added L G Lb pos seen T seen' T':=by
    intro x h7 h6 h8 h4 h5;refine⟨seen.set i true,T++[(i,c)],?_,?_,J,λt ht => ?_,by simp only[qLa,qLc,qQ];omega,by omega⟩
    .unfold padd;rw[h7,h6,h8,h4,h5];simp only[qZ];have e:(pm (Xh.mk L (G:Int)) s pos (seen.set i true) T).list_=T.map pT:=rfl;rw[e,az_ (by simp only[ql,qLc,qQ];omega) (by simp only[ql,qLc,qQ];omega)];unfold pm;rw[jZ];rfl
    .unfold radd;rw[h7,h6,h8,h4,h5];simp only[qZ];have e:(rm (seen.set i true) T).L_=T.map rT:=rfl;rw[e,az_ (by simp only[ql,qLc,qQ];omega) (by simp only[ql,qLc,qQ];omega)];unfold rm;rw[jZ];rfl
    .rcases qF.1 ht with ht|ht
     .exact hT t ht
     .rw[qH.1 ht];exact⟨O,hi,q⟩
   cases p with
   | chr b h=>exact put rfl rfl rfl rfl rfl
   | any h=>exact put rfl rfl rfl rfl rfl
   | set y k h=>exact put rfl rfl rfl rfl rfl
   | done h0=>exact put rfl rfl rfl rfl rfl
   | bol h =>
    rcases zA pos with h0|h0
    .obtain⟨s',T',f,M,Z⟩:=one (i+1) O c h q;refine⟨s',T',?_,?_,Z⟩
     .have e:padd n (pm (Xh.mk L (G:Int)) s pos (seen.set i true) T) (i:Int) (iOne 4) c=(bif((pos:Int)==0)then(am_ n (pm (Xh.mk L (G:Int)) s pos (seen.set i true) T) (w64 ((i:Int)+1)) c).bind λy=>some y else some (pm (Xh.mk L (G:Int)) s pos (seen.set i true) T)):=rfl;rw[e,qn.2 (by omega:(pos:Int)=0),qW,V,f];rfl
     .have e:radd n (Xh.mk L (G:Int)) s (rm (seen.set i true) T) (i:Int) (iOne 4) (pos:Int) c=(bif((pos:Int)==0)then(as_ n (Xh.mk L (G:Int)) s (rm (seen.set i true) T) (w64 ((i:Int)+1)) (pos:Int) c).bind λy=>some y else some (rm (seen.set i true) T)):=rfl;rw[e,qn.2 (by omega:(pos:Int)=0),qW,V,M];rfl
    .refine⟨_,_,?_,?_,stay⟩
     .have e:padd n (pm (Xh.mk L (G:Int)) s pos (seen.set i true) T) (i:Int) (iOne 4) c=(bif((pos:Int)==0)then(am_ n (pm (Xh.mk L (G:Int)) s pos (seen.set i true) T) (w64 ((i:Int)+1)) c).bind λy=>some y else some (pm (Xh.mk L (G:Int)) s pos (seen.set i true) T)):=rfl;rw[e,qX.2 (by omega:(pos:Int)≠0)];rfl
     .have e:radd n (Xh.mk L (G:Int)) s (rm (seen.set i true) T) (i:Int) (iOne 4) (pos:Int) c=(bif((pos:Int)==0)then(as_ n (Xh.mk L (G:Int)) s (rm (seen.set i true) T) (w64 ((i:Int)+1)) (pos:Int) c).bind λy=>some y else some (rm (seen.set i true) T)):=rfl;rw[e,qX.2 (by omega:(pos:Int)≠0)];rfl
   | eol h =>
    have e1:padd n (pm (Xh.mk L (G:Int)) s pos (seen.set i true) T) (i:Int) (iOne 5) c=(bif((pos:Int)==(s.length:Int))then(am_ n (pm (Xh.mk L (G:Int)) s pos (seen.set i true) T) (w64 ((i:Int)+1)) c).bind λy=>some y else some (pm (Xh.mk L (G:Int)) s pos (seen.set i true) T)):=rfl;have D:radd n (Xh.mk L (G:Int)) s (rm (seen.set i true) T) (i:Int) (iOne 5) (pos:Int) c=(bif((pos:Int)==(s.length:Int))then(as_ n (Xh.mk L (G:Int)) s (rm (seen.set i true) T) (w64 ((i:Int)+1)) (pos:Int) c).bind λy=>some y else some (rm (seen.set i true) T)):=rfl;by_cases h0:pos=s.length
    .obtain⟨s',T',f,M,Z⟩:=one (i+1) O c h q;refine⟨s',T',?_,?_,Z⟩
     .rw[e1,qn.2 (by omega:(pos:Int)=(s.length:Int)),qW,V,f];rfl
     .rw[D,qn.2 (by omega:(pos:Int)=(s.length:Int)),qW,V,M];rfl
    .refine⟨_,_,?_,?_,stay⟩
     .rw[e1,qX.2 (by omega:(pos:Int)≠(s.length:Int))];rfl
     .rw[D,qX.2 (by omega:(pos:Int)≠(s.length:Int))];rfl
   | jump j f =>
    obtain⟨s',T',U,k2,C⟩:=one j O c f q;refine⟨s',T',?_,?_,C⟩
    .have e:padd n (pm (Xh.mk L (G:Int)) s pos (seen.set i true) T) (i:Int) (cX_ j) c=(am_ n (pm (Xh.mk L (G:Int)) s pos (seen.set i true) T) (j:Int) c).bind λy=>some y:=rfl
     rw[e,U];rfl
    .have e:radd n (Xh.mk L (G:Int)) s (rm (seen.set i true) T) (i:Int) (cX_ j) (pos:Int) c=(as_ n (Xh.mk L (G:Int)) s (rm (seen.set i true) T) (j:Int) (pos:Int) c).bind λy=>some y:=rfl
     rw[e,k2];rfl
   | split j k f M =>
    obtain⟨s',T',U,k2,C⟩:=one j O c f q;obtain⟨s2,T2,m1,m2,m3⟩:=ih s' T' k O c C.len (by
     obtain⟨a1,a2,a3⟩:=ih (seen.set i true) T j O c J (by omega) f q hT (by omega);obtain⟨b1,b2,b3⟩:=a3;rw[U]at b1;have e:=qSj b1;have e':s'.map bI=a1.map bI:=qa regex_machine.visited_ e;have ZU:∀l F:tL tV,l.map bI=F.map bI->l.count false=F.count false:=by
      intro l
      induction l with
      | nil=>intro F h;cases F with
       | nil=>rfl
       | cons b F=>cases h
      | cons b l ZX=>intro F h;cases F with
       | nil=>cases h
       | cons b' F =>
        injection h with f M;have ZS:b=b':=by cases b<;>cases b'<;>first|rfl|exact absurd f (by decide)
        rw[ZS,List.count_cons,List.count_cons,ZX F M]
     rw[ZU _ _ e'];have:=b3.less;omega) M q C.ok (by have:=C.few;omega)
    refine⟨s2,T2,?_,?_,m3.len,m3.ok,by have:=C.few;have:=m3.few;omega,by have:=C.less;have:=m3.less;omega⟩
    .have e:padd n (pm (Xh.mk L (G:Int)) s pos (seen.set i true) T) (i:Int) (bF_ j k) c=(am_ n (pm (Xh.mk L (G:Int)) s pos (seen.set i true) T) (j:Int) c).bind λy6=>(am_ n y6 (k:Int) c).bind λy=>some y:=rfl
     rw[e,U];simp only[qBs];rw[m1];rfl
    .have e:radd n (Xh.mk L (G:Int)) s (rm (seen.set i true) T) (i:Int) (bF_ j k) (pos:Int) c=(as_ n (Xh.mk L (G:Int)) s (rm (seen.set i true) T) (j:Int) (pos:Int) c).bind λy6=>(as_ n (Xh.mk L (G:Int)) s y6 (k:Int) (pos:Int) c).bind λy=>some y:=rfl
     rw[e,k2];simp only[qBs];rw[m2];rfl
   | begin_ m hm f =>
    have ZV:=q.len;obtain⟨s',T',U,k2,C⟩:=one (i+1) (m::O) _ f q.begin_;refine⟨s',T',?_,?_,C⟩
    .have e:padd n (pm (Xh.mk L (G:Int)) s pos (seen.set i true) T) (i:Int) (aU_ (2*m)) c=(bt_ c).bind λu=>(ah_ u ((2*m:Nat):Int)).bind λ_=>(am_ n (pm (Xh.mk L (G:Int)) s pos (seen.set i true) T) (w64 ((i:Int)+1)) (u.set (2*m) (pos:Int))).bind λy=>some y:=rfl
     have D:bt_ c=some c:=az_ (by simp only[qQ];omega) (by simp only[qQ];omega);rw[e,D];simp only[qBs];rw[aq_ (by omega)];simp only[qBs];rw[V,U];rfl
    .have e:radd n (Xh.mk L (G:Int)) s (rm (seen.set i true) T) (i:Int) (aU_ (2*m)) (pos:Int) c=(room 8 ([]:tL Int) c).bind λu=>(ah_ u ((2*m:Nat):Int)).bind λ_=>(as_ n (Xh.mk L (G:Int)) s (rm (seen.set i true) T) (w64 ((i:Int)+1)) (pos:Int) (u.set (2*m) (pos:Int))).bind λy=>some y:=rfl
     have D:room 8 ([]:tL Int) c=some c:=az_ (by simp only[qQ];omega) (by simp only[qQ];omega);rw[e,D];simp only[qBs];rw[aq_ (by omega)];simp only[qBs];rw[V,k2];rfl
   | end_ m hm Q h0 f =>
    have ZV:=q.len;rw[h0]at q;obtain⟨s',T',U,k2,C⟩:=one (i+1) Q _ f q.end_;refine⟨s',T',?_,?_,C⟩
    .have e:padd n (pm (Xh.mk L (G:Int)) s pos (seen.set i true) T) (i:Int) (aU_ (2*m+1)) c=(bt_ c).bind λu=>(ah_ u ((2*m+1:Nat):Int)).bind λ_=>(am_ n (pm (Xh.mk L (G:Int)) s pos (seen.set i true) T) (w64 ((i:Int)+1)) (u.set (2*m+1) (pos:Int))).bind λy=>some y:=rfl
     have D:bt_ c=some c:=az_ (by simp only[qQ];omega) (by simp only[qQ];omega);rw[e,D];simp only[qBs];rw[aq_ (by omega)];simp only[qBs];rw[V,U];rfl
    .have e:radd n (Xh.mk L (G:Int)) s (rm (seen.set i true) T) (i:Int) (aU_ (2*m+1)) (pos:Int) c=(room 8 ([]:tL Int) c).bind λu=>(ah_ u ((2*m+1:Nat):Int)).bind λ_=>(as_ n (Xh.mk L (G:Int)) s (rm (seen.set i true) T) (w64 ((i:Int)+1)) (pos:Int) (u.set (2*m+1) (pos:Int))).bind λy=>some y:=rfl
     have D:room 8 ([]:tL Int) c=some c:=az_ (by simp only[qQ];omega) (by simp only[qQ];omega);rw[e,D];simp only[qBs];rw[aq_ (by omega)];simp only[qBs];rw[V,k2];rfl
theorem acc_go{x:Xz}(C:x.Yh.length<=1000)(c:Int):∀(k i f:Nat) (b:tV),x.Yh.length-i<=k->k<f->i<=x.Yh.length+1->∃r,af_ (cI_ x c) f (b,(i:Int))=some r:=by
 intro k
 induction k with
 | zero =>
  intro i f b s y hi;obtain⟨f,rfl⟩:∃g,f=g+1:=⟨f-1,by omega⟩;refine⟨b,aj_ ?_⟩;unfold cI_;simp only[];rw[ai_ (by omega),qV (by omega)];rfl
 | succ k q =>
  intro i f b s y hi;obtain⟨f,rfl⟩:∃g,f=g+1:=⟨f-1,by omega⟩;rcases qR (i+1) x.Yh.length with j|u
  .have h:∃p,cI_ x c (b,(i:Int))=some (.next (p,((i+2:Nat):Int))):=by
    unfold cI_;simp only[];rw[ai_ (by omega),qK (by omega),qW,ar_ (n:=(i:Int)+2) ⟨by omega,by omega⟩,aJ_ (by omega),aJ_ j];simp only[qBs];cases b with
    | true=>exact⟨true,rfl⟩
    | false =>
     simp only[qZ];cases decide (((x.Yh[i]'(by omega)).toNat:Int)<=c)with
     | false=>exact⟨_,rfl⟩
     | true=>exact⟨_,rfl⟩
   obtain⟨p,h⟩:=h;obtain⟨r,hr⟩:=q (i+2) f p (by omega) (by omega) (by omega);exact⟨r,an_ h hr⟩
  .refine⟨b,aj_ ?_⟩;unfold cI_;simp only[];rw[ai_ (by omega),qV (by omega)];rfl
theorem accepts_ex{x:Xz}(f:x.Yh.length<=1000)(c:Int):∃b,fO_ x c=some b/\fU_ x c=some b/\(b=true->x.Op_=1\/x.Op_=2\/x.Op_=3):=by
 have e:fU_ x c=fO_ x c:=rfl;rw[e];unfold fO_;cases p:x.Op_==1 with
 | true=>exact⟨_,rfl,rfl,λ_ => .inl (by simpa using p)⟩
 | false =>
  cases j:x.Op_==2 with
  | true=>exact⟨_,rfl,rfl,λ_ => .inr (.inl (by simpa using j))⟩
  | false =>
   cases h:x.Op_==3 with
   | false=>exact⟨false,rfl,rfl,λe=>by cases e⟩
   | true =>
    obtain⟨r,hr⟩:=acc_go f c x.Yh.length 0 BIG false (by omega) (by unfold BIG;omega) (qO _);have hr:af_ (cI_ x c) BIG (false,0)=some r:=hr;refine⟨!(r==x.Ys),?_,?_,λ_ => .inr (.inr (by simpa using h))⟩ <;>
    .simp only[qW,qZ];rw[hr];rfl
def isM(L:tL Xz)(t:Th):tV:=match L[t.1]? with|some x=>x.Op_==9|none=>false
theorem th_at{L:tL Xz}{G pos:Nat}{Lb:Nat->tO (tL Nat)}(s:ProgOK L G Lb){t:Th}(h:ThOK Lb G pos t):∃O x,L[t.1]? = some x/\Lb t.1=some O/\CapsOK G pos O t.2/\Edge Lb G t.1 O x:=by
 obtain⟨O,p,y⟩:=h;have f:=s.lb t.1 (by rw[p];rfl);have q:=qY f;obtain⟨O',j,u⟩:=s.e t.1 _ q;rw[qh]at j u;rw[p]at j;obtain rfl:=qSj j;exact⟨O,_,q,p,y,u⟩
theorem edge_next{Lb:Nat->tO (tL Nat)}{G i:Nat}{O:tL Nat}{x:Xz}(h:Edge Lb G i O x)(f:x.Op_=1\/x.Op_=2\/x.Op_=3):Lb (i+1)=some O:=by
 cases h with
 | chr b h=>exact h
 | any h=>exact h
 | set y k h=>exact h
 | bol h=>rcases f with h|h|h<;>exact absurd h (by decide)
 | eol h=>rcases f with h|h|h<;>exact absurd h (by decide)
 | split a b j s=>exact absurd (show(6:Int)=1\/(6:Int)=2\/(6:Int)=3 from f) (by decide)
 | jump a j=>exact absurd (show(7:Int)=1\/(7:Int)=2\/(7:Int)=3 from f) (by decide)
 | begin_ m p j=>exact absurd (show(8:Int)=1\/(8:Int)=2\/(8:Int)=3 from f) (by decide)
 | end_ m p Q q j=>exact absurd (show(8:Int)=1\/(8:Int)=2\/(8:Int)=3 from f) (by decide)
 | done q=>rcases f with h|h|h<;>exact absurd h (by decide)
theorem edge_done{Lb:Nat->tO (tL Nat)}{G i:Nat}{O:tL Nat}{x:Xz}(h:Edge Lb G i O x)(f:x.Op_=9):O=[]:=by
 cases h with
 | done p=>exact p
 | chr b h=>exact absurd (show(1:Int)=9 from f) (by decide)
 | any h=>exact absurd f (by decide)
 | set y k h=>exact absurd (show(3:Int)=9 from f) (by decide)
 | bol h=>exact absurd f (by decide)
 | eol h=>exact absurd f (by decide)
 | split a b j s=>exact absurd (show(6:Int)=9 from f) (by decide)
 | jump a j=>exact absurd (show(7:Int)=9 from f) (by decide)
 | begin_ m q j=>exact absurd (show(8:Int)=9 from f) (by decide)
 | end_ m q Q p j=>exact absurd (show(8:Int)=9 from f) (by decide)
def foundO(L:tL Xz)(T S:tL Th):Out (tL regex_thread) ((tL Int)×(tL regex_thread)):=match S.find? (isM L)with|some t => .ret (t.2,T.map pT)|none => .fall (T.map pT)
theorem found_go{L:tL Xz}{T:tL Th}(O:T.length<=1000000)(p:∀t∈T,∃x,L[t.1]? = some x){B:tL Int}{E G pos:Int}{s:tX}{V:tL Int}:∀(k i f:Nat),T.length-i<=k->k<f->i<=T.length->af_ (dv_ (B,E,L,G,s,pos,V,T.map pT)) f ((i:Int),T.map pT)=some (foundO L T (T.drop i)):=by
 intro k
 induction k with
 | zero =>
  intro i f F M hi;obtain⟨f,rfl⟩:∃g,f=g+1:=⟨f-1,by omega⟩;have:i=T.length:=by omega
  subst this;rw[ze];refine aj_ ?_;unfold dv_;simp only[ql];rw[aM_];rfl
 | succ k D =>
  intro i f F M hi;obtain⟨f,rfl⟩:∃g,f=g+1:=⟨f-1,by omega⟩;rcases qR i T.length with h|J
  .rw[qi h];obtain⟨x,u⟩:=p _ (qk h);have y:ah_ (T.map pT) (i:Int)=some (pT T[i]):=by rw[aX_,zF,qY h];rfl
   have j:ah_ L (pT T[i]).at_=some x:=by show ah_ L ((T[i].1:Nat):Int)=some x;rw[aX_,u]
   have q:isM L T[i]=(x.Op_==9):=by unfold isM;rw[u]
   unfold foundO;rw[List.find?_cons,q];cases C:x.Op_==9 with
   | true =>
    refine aj_ ?_;unfold dv_;simp only[ql];rw[aB_ h,qW,y];simp only[qBs];rw[j];simp only[qBs];rw[C];rfl
   | false =>
    refine an_ (s':=(((i+1:Nat):Int),T.map pT)) ?_ (D (i+1) f (by omega) (by omega) (by omega));unfold dv_;simp only[ql];rw[aB_ h,qW,y];simp only[qBs];rw[j];simp only[qBs];rw[C,ai_ (by omega)];rfl
  .have:i=T.length:=by omega
   subst this;rw[ze];refine aj_ ?_;unfold dv_;simp only[ql];rw[aM_];rfl
def bst(L:tL Xz)(cnd:tV)(x2 pos:Int)(b0:Xo)(S:tL Th):Xo:=bif cnd then(match S.find? (isM L)with|some t=>Xo.mk t.2 x2 pos true|none=>b0)else b0
def mtd(L:tL Xz)(cnd:tV)(S:tL Th):tV:=cnd&&S.any (isM L)
theorem bst_snoc{L:tL Xz}{cnd:tV}{x2 pos:Int}{b0:Xo}{S:tL Th}{t:Th}{m:tL Yx}{c:tL Int}(q:c=t.2) :
  (bif((isM L t&&(!mtd L cnd S))&&cnd)then(true,m,Xo.mk c x2 pos true)else(mtd L cnd S,m,bst L cnd x2 pos b0 S))=(mtd L cnd (S++[t]),m,bst L cnd x2 pos b0 (S++[t])):=by
 subst q;unfold mtd bst;cases cnd with
 | false=>cases isM L t<;>rfl
 | true =>
  simp only[qW,qm,Bool.and_true];rw[List.any_append,List.find?_append];have s:([t].any (isM L))=isM L t:=by simp
  rw[s];cases h:S.find? (isM L)with
  | some u =>
   have f:S.any (isM L)=true:=List.any_eq_true.2 ⟨u,jH h,jb h⟩;rw[f];simp
  | none =>
   have f:S.any (isM L)=false:=by
    rw[List.any_eq_false];intro u p;have:=jr.1 h u p;exact this
   rw[f];cases j:isM L t with
   | true=>simp[j]
   | false=>simp[j]
theorem next_both{L:tL Xz}{G:Nat}{Lb:Nat->tO (tL Nat)}(Z:ProgOK L G Lb){s:tX}{pos:Nat}(hs:s.length<=100000)(M:pos<s.length){T:tL Th}(ZG:T.length<=100000)(hT:∀t∈T,ThOK Lb G pos t){x3 cnd:tV}(Y:cnd=((!x3)||((pos:Int)==(s.length:Int)))){x2:Int}{b0:Xo}{seen:tL tV}{B:tL Int}{E:Int}{W:tL Int} :
  ∀(k i f1 f2:Nat) (seen1:tL tV) (T1:tL Th),T.length-i<=k->k<f1->k<f2->i<=T.length->seen1.length=L.length->(∀t∈T1,ThOK Lb G (pos+1) t)->T1.length+seen1.count false<=1000 ->
  ∃(seen2:tL tV) (T2:tL Th),af_ (eo_ (B,E,L,(G:Int),s,(pos:Int),W,T.map pT) (Xh.mk L (G:Int)) ((s[pos].toNat:Nat):Int)) f1 ((i:Int),L,(G:Int),s,((pos+1:Nat):Int),seen1.map bI,T1.map pT,T.map pT)=some (L,(G:Int),s,((pos+1:Nat):Int),seen2.map bI,T2.map pT) /\
   af_ (bI_ (Xh.mk L (G:Int)) x3 ((pos:Int),T.map rT,seen,b0) s x2) f2 (mtd L cnd (T.take i),(i:Int),T.map rT,bst L cnd x2 (pos:Int) b0 (T.take i),T1.map rT,seen1)=some (T.map rT,bst L cnd x2 (pos:Int) b0 T,T2.map rT,seen2)/\seen2.length=L.length/\(∀t∈T2,ThOK Lb G (pos+1) t)/\T2.length<=1000:=by
 have h:∀(f1 f2:Nat) (seen1:tL tV) (T1:tL Th),af_ (eo_ (B,E,L,(G:Int),s,(pos:Int),W,T.map pT) (Xh.mk L (G:Int)) ((s[pos].toNat:Nat):Int)) (f1+1) ((T.length:Int),L,(G:Int),s,((pos+1:Nat):Int),seen1.map bI,T1.map pT,T.map pT)=some (L,(G:Int),s,((pos+1:Nat):Int),seen1.map bI,T1.map pT) /\
   af_ (bI_ (Xh.mk L (G:Int)) x3 ((pos:Int),T.map rT,seen,b0) s x2) (f2+1) (mtd L cnd (T.take T.length),(T.length:Int),T.map rT,bst L cnd x2 (pos:Int) b0 (T.take T.length),T1.map rT,seen1)=some (T.map rT,bst L cnd x2 (pos:Int) b0 T,T1.map rT,seen1):=by
  intro f1 f2 seen1 T1;refine⟨aj_ ?_,aj_ ?_⟩
  .unfold eo_;simp only[ql];rw[aM_];rfl
  .unfold bI_;simp only[ql];rw[aM_,qb];rfl
 intro k
 induction k with
 | zero =>
  intro i f1 f2 seen1 T1 hk ZP ZQ hi p f V;obtain⟨f1,rfl⟩:∃g,f1=g+1:=⟨f1-1,by omega⟩;obtain⟨f2,rfl⟩:∃g,f2=g+1:=⟨f2-1,by omega⟩;have:i=T.length:=by omega
  subst this;exact⟨seen1,T1,(h f1 f2 seen1 T1).1,(h f1 f2 seen1 T1).2,p,f,by omega⟩
 | succ k ih =>
  intro i f1 f2 seen1 T1 hk ZP ZQ hi p f V;obtain⟨f1,rfl⟩:∃g,f1=g+1:=⟨f1-1,by omega⟩;obtain⟨f2,rfl⟩:∃g,f2=g+1:=⟨f2-1,by omega⟩;rcases qR i T.length with j|ZI
  .obtain⟨O,x,hx,hO,F,D⟩:=th_at Z (hT _ (qk j));obtain⟨b,ZL,ZM,ZN⟩:=accepts_ex (Z.st x (qw hx)) ((s[pos].toNat:Nat):Int);have ZR:ah_ (T.map pT) (i:Int)=some (pT T[i]):=by rw[aX_,zF,qY j];rfl
   have C:ah_ (T.map rT) (i:Int)=some (rT T[i]):=by rw[aX_,zF,qY j];rfl
   have U:ah_ L ((T[i].1:Nat):Int)=some x:=by rw[aX_,hx]
   have ZS:isM L T[i]=(x.Op_==9):=by unfold isM;rw[hx]
   have ZK:T.take (i+1)=T.take i++[T[i]]:=aW_ j;have ZJ:T[i].1<L.length:=Z.lb _ (by rw[hO];rfl);have ZF:=Z.n;have e1:(bif(((x.Op_==9)&&(!mtd L cnd (T.take i)))&&((!x3)||((pos:Int)==(s.length:Int))))then
     (ah_ (T.map rT) (i:Int)).bind λZX=>some (true,T.map rT,(Xo.mk ZX.At_ x2 (pos:Int) true))
    else some (mtd L cnd (T.take i),T.map rT,bst L cnd x2 (pos:Int) b0 (T.take i)))=some (mtd L cnd (T.take (i+1)),T.map rT,bst L cnd x2 (pos:Int) b0 (T.take (i+1))):=by
    rw[C,←Y,←ZS,ZK,←bst_snoc (L:=L) (cnd:=cnd) (x2:=x2) (pos:=(pos:Int)) (b0:=b0) (S:=T.take i) (t:=T[i]) (m:=T.map rT) (c:=(rT T[i]).At_) rfl];cases((isM L T[i]&&(!mtd L cnd (T.take i)))&&cnd)<;>rfl
   have e2:(bif decide ((pos:Int)<(s.length:Int))then(ap_ s (pos:Int)).bind λZY=>(fU_ x ZY).bind λZZ=>some ZZ else some false)=some b:=by
    rw[qK (by omega),qW,aJ_ M];simp only[qBs];rw[ZM];rfl
   have step:∀(seen2:tL tV) (T2:tL Th),
     ((bif b then
      (am_ BIG (pm (Xh.mk L (G:Int)) s (pos+1) seen1 T1) ((T[i].1+1:Nat):Int) T[i].2)else some (pm (Xh.mk L (G:Int)) s (pos+1) seen1 T1))=some (pm (Xh.mk L (G:Int)) s (pos+1) seen2 T2)) ->
     ((bif b then(as_ BIG (Xh.mk L (G:Int)) s (rm seen1 T1) ((T[i].1+1:Nat):Int) ((pos+1:Nat):Int) T[i].2)else some (rm seen1 T1))=some (rm seen2 T2)) ->
     eo_ (B,E,L,(G:Int),s,(pos:Int),W,T.map pT) (Xh.mk L (G:Int)) ((s[pos].toNat:Nat):Int) ((i:Int),L,(G:Int),s,((pos+1:Nat):Int),seen1.map bI,T1.map pT,T.map pT)=some (.next (((i+1:Nat):Int),L,(G:Int),s,((pos+1:Nat):Int),seen2.map bI,T2.map pT,T.map pT)) /\
     bI_ (Xh.mk L (G:Int)) x3 ((pos:Int),T.map rT,seen,b0) s x2 (mtd L cnd (T.take i),(i:Int),T.map rT,bst L cnd x2 (pos:Int) b0 (T.take i),T1.map rT,seen1)=some (.next (mtd L cnd (T.take (i+1)),((i+1:Nat):Int),T.map rT,bst L cnd x2 (pos:Int) b0 (T.take (i+1)),T2.map rT,seen2)):=by
    intro seen2 T2 y hr;constructor
    .unfold eo_;simp only[ql];rw[aB_ j,qW,ZR];simp only[qBs];have q:ah_ L (pT T[i]).at_=some x:=U;rw[q];simp only[qBs];rw[ZL];simp only[qBs];have ew:w64 ((pT T[i]).at_+1)=((T[i].1+1:Nat):Int):=ai_ (by omega);rw[ew,ai_ (i:=i) (by omega)];cases b with
     | true =>
      simp only[qW]at y ⊢;have ZT:am_ BIG (regex_machine.mk (Xh.mk L (G:Int)) s ((pos+1:Nat):Int) (seen1.map bI) (T1.map pT)) ((T[i].1+1:Nat):Int) (pT T[i]).caps_=some (pm (Xh.mk L (G:Int)) s (pos+1) seen2 T2):=y;rw[ZT];rfl
     | false =>
      simp only[qZ]at y ⊢;have y:=qSj y;have h1:seen1.map bI=seen2.map bI:=qa regex_machine.visited_ y;have h2:T1.map pT=T2.map pT:=qa regex_machine.list_ y;rw[h1,h2];rfl
    .unfold bI_;simp only[ql];rw[aB_ j,qW,C];simp only[qBs];have q:ah_ L (rT T[i]).K_=some x:=U;rw[q];simp only[qBs];have J:=e1;rw[C]at J;simp only[qBs]at J;rw[J];simp only[qBs];rw[e2];simp only[qBs];rw[C];simp only[qBs];have ew:w64 ((rT T[i]).K_+1)=((T[i].1+1:Nat):Int):=ai_ (by omega);rw[ew,ai_ (i:=i) (by omega),ai_ (i:=pos) (by omega)];cases b with
     | true =>
      simp only[qW]at hr ⊢;have ZU:as_ BIG (Xh.mk L (G:Int)) s (Xa.mk (T1.map rT) seen1) ((T[i].1+1:Nat):Int) ((pos+1:Nat):Int) (rT T[i]).At_=some (rm seen2 T2):=hr;rw[ZU];rfl
     | false =>
      simp only[qZ]at hr ⊢;have hr:=qSj hr;have h1:seen1=seen2:=qa Xa.Yk hr;have h2:T1.map rT=T2.map rT:=qa Xa.L_ hr;rw[h1,h2];rfl
   have ZO:∃(seen2:tL tV) (T2:tL Th),((bif b then
      (am_ BIG (pm (Xh.mk L (G:Int)) s (pos+1) seen1 T1) ((T[i].1+1:Nat):Int) T[i].2)else some (pm (Xh.mk L (G:Int)) s (pos+1) seen1 T1))=some (pm (Xh.mk L (G:Int)) s (pos+1) seen2 T2)) /\
     ((bif b then(as_ BIG (Xh.mk L (G:Int)) s (rm seen1 T1) ((T[i].1+1:Nat):Int) ((pos+1:Nat):Int) T[i].2)else some (rm seen1 T1))=some (rm seen2 T2))/\Added L G Lb (pos+1) seen1 T1 seen2 T2:=by
    cases b with
    | false=>exact⟨seen1,T1,rfl,rfl,p,f,qE _,qE _⟩
    | true =>
     have ZH:seen1.count false<=seen1.length:=List.count_le_length;exact add_both Z hs (by omega) BIG seen1 T1 (T[i].1+1) O T[i].2 p (by unfold BIG;omega) (edge_next D (ZN rfl)) (F.later (by omega)) f (by omega)
   obtain⟨seen2,T2,y,hr,u⟩:=ZO;obtain⟨ZV,ZW⟩:=step seen2 T2 y hr;obtain⟨seen3,T3,k1,k2,k3⟩:=ih (i+1) f1 f2 seen2 T2 (by omega) (by omega) (by omega) (by omega) u.len u.ok (by have:=u.few;omega);exact⟨seen3,T3,an_ ZV k1,an_ ZW k2,k3⟩
  .have:i=T.length:=by omega
   subst this;exact⟨seen1,T1,(h f1 f2 seen1 T1).1,(h f1 f2 seen1 T1).2,p,f,by omega⟩
theorem last_go{L:tL Xz}{G:Nat}{Lb:Nat->tO (tL Nat)}(hP:ProgOK L G Lb){s:tX}{pos:Nat}(M:pos=s.length){T:tL Th}(Z:T.length<=100000)(hT:∀t∈T,ThOK Lb G pos t){x3 cnd:tV}(j:cnd=((!x3)||((pos:Int)==(s.length:Int)))){x2:Int}{b0:Xo}{seen:tL tV}{l1:tL Yx}{seen1:tL tV} :
  ∀(k i f2:Nat),T.length-i<=k->k<f2->i<=T.length ->
   af_ (bI_ (Xh.mk L (G:Int)) x3 ((pos:Int),T.map rT,seen,b0) s x2) f2 (mtd L cnd (T.take i),(i:Int),T.map rT,bst L cnd x2 (pos:Int) b0 (T.take i),l1,seen1)=some (T.map rT,bst L cnd x2 (pos:Int) b0 T,l1,seen1):=by
 have h:∀(f2:Nat),af_ (bI_ (Xh.mk L (G:Int)) x3 ((pos:Int),T.map rT,seen,b0) s x2) (f2+1) (mtd L cnd (T.take T.length),(T.length:Int),T.map rT,bst L cnd x2 (pos:Int) b0 (T.take T.length),l1,seen1)=some (T.map rT,bst L cnd x2 (pos:Int) b0 T,l1,seen1):=by
  intro f2;refine aj_ ?_;unfold bI_;simp only[ql];rw[aM_,qb];rfl
 intro k
 induction k with
 | zero =>
  intro i f2 V y hi;obtain⟨f2,rfl⟩:∃g,f2=g+1:=⟨f2-1,by omega⟩;have:i=T.length:=by omega
  subst this;exact h f2
 | succ k U =>
  intro i f2 V y hi;obtain⟨f2,rfl⟩:∃g,f2=g+1:=⟨f2-1,by omega⟩;rcases qR i T.length with f|Y
  .obtain⟨O,x,J,hO,D,C⟩:=th_at hP (hT _ (qk f));have u:ah_ (T.map rT) (i:Int)=some (rT T[i]):=by rw[aX_,zF,qY f];rfl
   have q:ah_ L (rT T[i]).K_=some x:=by show ah_ L ((T[i].1:Nat):Int)=some x;rw[aX_,J]
   have p:isM L T[i]=(x.Op_==9):=by unfold isM;rw[J]
   have F:T.take (i+1)=T.take i++[T[i]]:=aW_ f;have e1:(bif(((x.Op_==9)&&(!mtd L cnd (T.take i)))&&((!x3)||((pos:Int)==(s.length:Int))))then
     some (true,T.map rT,(Xo.mk (rT T[i]).At_ x2 (pos:Int) true))
    else some (mtd L cnd (T.take i),T.map rT,bst L cnd x2 (pos:Int) b0 (T.take i)))=some (mtd L cnd (T.take (i+1)),T.map rT,bst L cnd x2 (pos:Int) b0 (T.take (i+1))):=by
    rw[←j,←p,F,←bst_snoc (L:=L) (cnd:=cnd) (x2:=x2) (pos:=(pos:Int)) (b0:=b0) (S:=T.take i) (t:=T[i]) (m:=T.map rT) (c:=(rT T[i]).At_) rfl];cases((isM L T[i]&&(!mtd L cnd (T.take i)))&&cnd)<;>rfl
   refine an_ ?_ (U (i+1) f2 (by omega) (by omega) (by omega));unfold bI_;simp only[ql];rw[aB_ f,qW,u];simp only[qBs];rw[q];simp only[qBs];rw[e1];simp only[qBs];rw[qV (by omega:¬(pos:Int)<(s.length:Int)),ai_ (i:=i) (by omega)];rfl
  .have:i=T.length:=by omega
   subst this;exact h f2
def BR(G:Nat)(s:tX)(B:tL Int)(E:Int)(b:Xo):Prop:=(E = -1/\B=[]/\b=Xo.mk [] 0 0 false)\/∃e:Nat,E=(e:Int)/\e<=s.length/\CapsOK G e [] B/\∃x2,b=Xo.mk B x2 (e:Int) true
abbrev PS3:=(tL Int)×Int×(tL Xz)×Int×tX×Int×(tL Int)×(tL regex_thread)
def ps3(L:tL Xz)(G:Nat)(s:tX)(B:tL Int)(E:Int)(pos:Nat)(seen:tL tV)(T:tL Th):PS3:=(B,E,L,(G:Int),s,(pos:Int),seen.map bI,T.map pT)
theorem look_eq{L:tL Xz}{G:Nat}{Lb:Nat->tO (tL Nat)}(Z:ProgOK L G Lb){s:tX}{pos:Nat}{T:tL Th}(ZY:T.length<=100000)(hT:∀t∈T,ThOK Lb G pos t)(p:pos<=s.length){x3:tV}{B:tL Int}{E:Int}{b x2}(hb:BR G s B E b){seen:tL tV} :
  ∃B' E',BR G s B' E' (bst L ((!x3)||((pos:Int)==(s.length:Int))) x2 (pos:Int) b T) /\
  Option.bind (
  (af_ (dv_ (ps3 L G s B E pos seen T)) BIG (0,T.map pT)).bind λD=>match D with
  | .ret u =>
   (nilB u.1 λ(n2:tV) =>
   (bif((!n2)&&((!x3)||((pos:Int)==(s.length:Int))))then
    some (u.1,(pos:Int),L,(G:Int),s,(pos:Int),seen.map bI,u.2)
   else
    some (B,E,L,(G:Int),s,(pos:Int),seen.map bI,u.2)))
  | .fall o6 =>
   (bif(false&&((!x3)||((pos:Int)==(s.length:Int))))then
    some ([],(pos:Int),L,(G:Int),s,(pos:Int),seen.map bI,o6)
   else
    some (B,E,L,(G:Int),s,(pos:Int),seen.map bI,o6))) (λy=>some y)=some (ps3 L G s B' E' pos seen T):=by
 have C:=found_go (L:=L) (T:=T) (by omega) (λt U=>by obtain⟨O,x,J,_⟩:=th_at Z (hT t U);exact⟨x,J⟩) (B:=B) (E:=E) (G:=(G:Int)) (pos:=(pos:Int)) (s:=s) (V:=seen.map bI) T.length 0 BIG (by omega) (by unfold BIG;omega) (qO _);have C:af_ (dv_ (ps3 L G s B E pos seen T)) BIG (0,T.map pT)=some (foundO L T (T.drop 0)):=C;rw[zO]at C;rw[C];unfold foundO bst;cases hS:T.find? (isM L)with
 | none =>
  refine⟨B,E,?_,rfl⟩;cases((!x3)||((pos:Int)==(s.length:Int)))<;>exact hb
 | some t =>
  have M:=jH hS;have h:=jb hS;obtain⟨O,x,J,hO,f,j⟩:=th_at Z (hT t M);have F:x.Op_=9:=by
   unfold isM at h;rw[J]at h;simpa using h
  have ZZ:=edge_done j F;subst ZZ;have Y:t.2≠[]:=by
   intro e;have h1:=f.len;have h2:=Z.g;rw[e]at h1;simp only[qQ]at h1;omega
  have q:∀{R:Type} (k:tV->tO R),nilB t.2 k=k false:=by
   intro R k;cases U:t.2 with
   | nil=>exact absurd U Y
   | cons a l=>rfl
  simp only[qBs];rw[q];cases hc:((!x3)||((pos:Int)==(s.length:Int)))with
  | false=>exact⟨B,E,hb,rfl⟩
  | true=>exact⟨t.2,(pos:Int),.inr ⟨pos,rfl,p,f,x2,rfl⟩,rfl⟩
theorem rep_map(n:Nat):(List.replicate n false).map bI=List.replicate n 0:=by rw[List.map_replicate];rfl
theorem run_both{L:tL Xz}{G:Nat}{Lb:Nat->tO (tL Nat)}(D:ProgOK L G Lb){s:tX}(hs:s.length<=100000){x3:tV}{x2:Int}:∀(k pos f1 f2:Nat) (seen:tL tV) (T:tL Th) (B:tL Int) (E:Int) (b:Xo),s.length-pos<=k->k<f1->k+1<f2->pos<=s.length->T.length<=1000->(∀t∈T,ThOK Lb G pos t)->BR G s B E b ->
  ∃B' E' b',af_ (fh_ x3 s (Xh.mk L (G:Int))) f1 (ps3 L G s B E pos seen T)=some (.ret (B',E'))/\af_ (cD_ s (Xh.mk L (G:Int)) x3 x2) f2 ((pos:Int),T.map rT,seen,b)=some b'/\BR G s B' E' b':=by
 have ZZ:=D.n;have h:bL_ (Xh.mk L (G:Int))=some (Xa.mk [] (List.replicate L.length false)):=by
  unfold bL_;rw[il_ (by omega) (by show((L.length:Nat):Int)<=_;omega) (by show 1*((L.length:Nat):Int)<=_;omega)];rfl
 intro k
 induction k with
 | zero =>
  intro pos f1 f2 seen T B E b hk O M j Y C U;obtain⟨f1,rfl⟩:∃g,f1=g+1:=⟨f1-1,by omega⟩;obtain⟨f2,rfl⟩:∃g,f2=g+2:=⟨f2-2,by omega⟩;have u:pos=s.length:=by omega
  obtain⟨B',E',p,f⟩:=look_eq D (by omega:T.length<=100000) C j (x3:=x3) (x2:=x2) U (seen:=seen);rw[i7_]at f;refine⟨B',E',bst L ((!x3)||((pos:Int)==(s.length:Int))) x2 (pos:Int) b T,aj_ ?_,?_,p⟩
  .unfold fh_;refine al_ f ?_;unfold ps3;simp only[];rw[qK (by omega:(pos:Int)>=(s.length:Int))];rfl
  .by_cases q:T=[]
   .subst q;refine aj_ ?_;unfold cD_;simp only[jB,qQ];rw[show decide (((0:Nat):Int)>0)=false from rfl,zr,qZ];unfold bst;cases((!x3)||((pos:Int)==(s.length:Int)))<;>rfl
   .have V:=zq.2 q;have x:=last_go D u (by omega:T.length<=100000) C (x3:=x3) rfl (x2:=x2) (b0:=b) (seen:=seen) (l1:=[]) (seen1:=List.replicate L.length false) T.length 0 BIG (by omega) (by unfold BIG;omega) (qO _);have x:af_ (bI_ (Xh.mk L (G:Int)) x3 ((pos:Int),T.map rT,seen,b) s x2) BIG (false,0,T.map rT,b,[],List.replicate L.length false)=some (T.map rT,bst L ((!x3)||((pos:Int)==(s.length:Int))) x2 (pos:Int) b T,[],List.replicate L.length false):=by
     refine Eq.trans ?_ x;unfold mtd bst;cases((!x3)||((pos:Int)==(s.length:Int)))<;>rfl
    refine an_ (s':=(((pos+1:Nat):Int),[],List.replicate L.length false,bst L ((!x3)||((pos:Int)==(s.length:Int))) x2 (pos:Int) b T)) ?_ (aj_ ?_)
    .unfold cD_;simp only[ql];rw[qK (by omega:(pos:Int)<=(s.length:Int)),qK (by omega:((T.length:Nat):Int)>0),jX,qW,h];simp only[qBs];rw[x,ai_ (by omega)];rfl
    .unfold cD_;simp only[];rw[qV (by omega:¬((pos+1:Nat):Int)<=(s.length:Int))];rfl
 | succ k ih =>
  intro pos f1 f2 seen T B E b hk O M j Y C U;obtain⟨f1,rfl⟩:∃g,f1=g+1:=⟨f1-1,by omega⟩;obtain⟨f2,rfl⟩:∃g,f2=g+2:=⟨f2-2,by omega⟩;obtain⟨B',E',p,f⟩:=look_eq D (by omega:T.length<=100000) C j (x3:=x3) (x2:=x2) U (seen:=seen);rw[i7_]at f;by_cases q:T=[]
  .subst q;refine⟨B',E',bst L ((!x3)||((pos:Int)==(s.length:Int))) x2 (pos:Int) b [],aj_ ?_,aj_ ?_,p⟩
   .unfold fh_;refine al_ f ?_;unfold ps3;simp only[jB,qQ];rw[show(((0:Nat):Int)==0)=true from rfl,jE];rfl
   .unfold cD_;simp only[jB,qQ];rw[show decide (((0:Nat):Int)>0)=false from rfl,zr,qZ];unfold bst;cases((!x3)||((pos:Int)==(s.length:Int)))<;>rfl
  .have V:=zq.2 q;by_cases u:pos=s.length
   .refine⟨B',E',bst L ((!x3)||((pos:Int)==(s.length:Int))) x2 (pos:Int) b T,aj_ ?_,?_,p⟩
    .unfold fh_;refine al_ f ?_;unfold ps3;simp only[];rw[qK (by omega:(pos:Int)>=(s.length:Int))];rfl
    .have x:=last_go D u (by omega:T.length<=100000) C (x3:=x3) rfl (x2:=x2) (b0:=b) (seen:=seen) (l1:=[]) (seen1:=List.replicate L.length false) T.length 0 BIG (by omega) (by unfold BIG;omega) (qO _);have x:af_ (bI_ (Xh.mk L (G:Int)) x3 ((pos:Int),T.map rT,seen,b) s x2) BIG (false,0,T.map rT,b,[],List.replicate L.length false)=some (T.map rT,bst L ((!x3)||((pos:Int)==(s.length:Int))) x2 (pos:Int) b T,[],List.replicate L.length false):=by
      refine Eq.trans ?_ x;unfold mtd bst;cases((!x3)||((pos:Int)==(s.length:Int)))<;>rfl
     refine an_ (s':=(((pos+1:Nat):Int),[],List.replicate L.length false,bst L ((!x3)||((pos:Int)==(s.length:Int))) x2 (pos:Int) b T)) ?_ (aj_ ?_)
     .unfold cD_;simp only[ql];rw[qK (by omega:(pos:Int)<=(s.length:Int)),qK (by omega:((T.length:Nat):Int)>0),jX,qW,h];simp only[qBs];rw[x,ai_ (by omega)];rfl
     .unfold cD_;simp only[];rw[qV (by omega:¬((pos+1:Nat):Int)<=(s.length:Int))];rfl
   .have F:pos<s.length:=by omega
    have y:(List.replicate L.length false).count false=L.length:=by simp
    obtain⟨seen2,T2,J,Z,h3,h4,h5⟩:=next_both D hs F (by omega:T.length<=100000) C (x3:=x3) rfl (x2:=x2) (b0:=b) (seen:=seen) (B:=B') (E:=E') (W:=seen.map bI) T.length 0 BIG BIG (List.replicate L.length false) [] (by omega) (by unfold BIG;omega) (by unfold BIG;omega) (qO _) (by rw[jT]) (λt ht=>by cases ht) (by rw[y];simp only[qQ];omega);have Z:af_ (bI_ (Xh.mk L (G:Int)) x3 ((pos:Int),T.map rT,seen,b) s x2) BIG (false,0,T.map rT,b,[],List.replicate L.length false)=some (T.map rT,bst L ((!x3)||((pos:Int)==(s.length:Int))) x2 (pos:Int) b T,T2.map rT,seen2):=by
     refine Eq.trans ?_ Z;unfold mtd bst;cases((!x3)||((pos:Int)==(s.length:Int)))<;>rfl
    obtain⟨B2,E2,b2,k1,k2,k3⟩:=ih (pos+1) f1 (f2+1) seen2 T2 B' E' _ (by omega) (by omega) (by omega) (by omega) h5 h4 p;refine⟨B2,E2,b2,an_ (s':=ps3 L G s B' E' (pos+1) seen2 T2) ?_ k1,an_ (s':=(((pos+1:Nat):Int),T2.map rT,seen2,bst L ((!x3)||((pos:Int)==(s.length:Int))) x2 (pos:Int) b T)) ?_ k2,k3⟩
    .unfold fh_;refine al_ f ?_;unfold ps3;simp only[ql];rw[qV (by omega:¬(pos:Int)>=(s.length:Int)),qX.2 (by omega:((T.length:Nat):Int)≠0),Bool.or_self,qZ,aJ_ F];simp only[qBs];rw[il_ (by omega) (by omega) (by omega)];simp only[qBs];rw[rep_map]at J;rw[ai_ (by omega),show((L.length:Nat):Int).toNat=L.length from rfl];have J:af_ (eo_ (B',E',L,(G:Int),s,(pos:Int),seen.map bI,T.map pT) (Xh.mk L (G:Int)) ((s[pos].toNat:Nat):Int)) BIG (0,L,(G:Int),s,((pos+1:Nat):Int),List.replicate L.length 0,[],T.map pT)=some (L,(G:Int),s,((pos+1:Nat):Int),seen2.map bI,T2.map pT):=J;rw[J];rfl
    .unfold cD_;simp only[ql];rw[qK (by omega:(pos:Int)<=(s.length:Int)),qK (by omega:((T.length:Nat):Int)>0),jX,qW,h];simp only[qBs];rw[Z,ai_ (by omega)];rfl
theorem rep_neg:∀{G:Nat},0<G->G<=10->fA_ [(-1)] (w64 (2*(G:Int)))=some (List.replicate (2*G) (-1))
 | 0,h,_=>absurd h (by decide)
 | 1,_,_=>by kernel_rfl
 | 2,_,_=>by kernel_rfl
 | 3,_,_=>by kernel_rfl
 | 4,_,_=>by kernel_rfl
 | 5,_,_=>by kernel_rfl
 | 6,_,_=>by kernel_rfl
 | 7,_,_=>by kernel_rfl
 | 8,_,_=>by kernel_rfl
 | 9,_,_=>by kernel_rfl
 | 10,_,_=>by kernel_rfl
 | n+11,_,h=>absurd h (by omega)
theorem all_neg:∀{G:Nat},0<G->G<=10->((et_ 8 (0:Int) (w64 (2*(G:Int)))).bind λy1=>af_ ks_ BIG (0,y1))=some (List.replicate (2*G) (-1))
 | 0,h,_=>absurd h (by decide)
 | 1,_,_=>by kernel_rfl
 | 2,_,_=>by kernel_rfl
 | 3,_,_=>by kernel_rfl
 | 4,_,_=>by kernel_rfl
 | 5,_,_=>by kernel_rfl
 | 6,_,_=>by kernel_rfl
 | 7,_,_=>by kernel_rfl
 | 8,_,_=>by kernel_rfl
 | 9,_,_=>by kernel_rfl
 | 10,_,_=>by kernel_rfl
 | n+11,_,h=>absurd h (by omega)
theorem capsOK_neg(G:Nat)(pos:Nat):CapsOK G pos [] (List.replicate (2*G) (-1)):=⟨jT,λk f=>⟨-1,-1,by rw[jO,qL (by omega)],by rw[jO,qL (by omega)],by omega,by omega,λh=>(by cases h),λ_ => .inl (by decide)⟩⟩
def CapsR(s:tX)(c:tL Int):Prop:=∀k u v,c[2*k]? = some u->c[2*k+1]? = some v->u<0\/(0<=u/\u<=v/\v<=(s.length:Int))
theorem whole_both{L:tL Xz}{G:Nat}{Lb:Nat->tO (tL Nat)}(J:ProgOK L G Lb){s:tX}(Y:s.length<=100000):∃c ok,c2_ (Xh.mk L (G:Int)) s=some (c,ok)/\e2_ (Xh.mk L (G:Int)) s=some (c,ok)/\CapsR s c/\c.length<=20:=by
 have O:=J.g;have ZZ:=J.n;have j:(List.replicate L.length false).count false=L.length:=by simp
 obtain⟨seen,T,C,q,h3⟩:=add_both J Y (qO _) BIG (List.replicate L.length false) [] 0 [] (List.replicate (2*G) (-1)) (by rw[jT]) (by rw[j];unfold BIG;omega) J.z (capsOK_neg G 0) (λt ht=>by cases ht) (by rw[j];simp only[qQ];omega);have p:=h3.few;rw[j]at p;simp only[qQ]at p;obtain⟨B,E,b,k1,k2,U⟩:=run_both J Y (x3:=true) (x2:=0) s.length 0 BIG BIG seen T [] (-1) (Xo.mk [] 0 0 false) (by omega) (by unfold BIG;omega) (by unfold BIG;omega) (qO _) (by omega) h3.ok (.inl ⟨rfl,rfl,rfl⟩);have D:kd_ (Xh.mk L (G:Int)) s 0 true=some (B,E):=by
  unfold kd_;have em:et_ 8 (0:Int) (((Xh.mk L (G:Int)).Yy.length:Nat):Int)=some (List.replicate L.length 0):=il_ (by omega) (by show((L.length:Nat):Int)<=_;omega) (by show 8*((L.length:Nat):Int)<=_;omega);rw[em];simp only[qBs];rw[rep_neg O.1 O.2];simp only[qBs];have C:am_ BIG (regex_machine.mk (Xh.mk L (G:Int)) s 0 (List.replicate L.length 0) []) 0 (List.replicate (2*G) (-1))=some (pm (Xh.mk L (G:Int)) s 0 seen T):=by
   rw[←rep_map];exact C
  rw[C];simp only[qBs];exact al_ k1 rfl
 have y:k1_ (Xh.mk L (G:Int)) s 0 true=some b:=by
  unfold k1_;have f:=all_neg O.1 O.2;cases Z:et_ 8 (0:Int) (w64 (2*(G:Int)))with
  | none=>rw[Z]at f;cases f
  | some y1 =>
   rw[Z]at f;have f:af_ ks_ BIG (0,y1)=some (List.replicate (2*G) (-1)):=f;simp only[qBs];rw[f];simp only[qBs];have x:bL_ (Xh.mk L (G:Int))=some (Xa.mk [] (List.replicate L.length false)):=by
    unfold bL_;rw[il_ (by omega) (by show((L.length:Nat):Int)<=_;omega) (by show 1*((L.length:Nat):Int)<=_;omega)];rfl
   have q:as_ BIG (Xh.mk L (G:Int)) s (Xa.mk [] (List.replicate L.length false)) 0 0 (List.replicate (2*G) (-1))=some (rm seen T):=q;simp only[x,qBs,q,lT_];refine al_ k2 rfl
 have V:B.length<=20:=by
  rcases U with⟨_,rfl,_⟩|⟨e,_,_,F,_⟩
  .exact qO _
  .rw[F.len];omega
 have e1:bt_ B=some B:=az_ (by simp only[qQ];omega) (by simp only[qQ];omega);refine⟨B,decide (E>=0),?_,?_,?_,V⟩
 .unfold c2_;rw[D];simp only[qBs];rw[e1];rfl
 .unfold e2_;rw[y];have e2:room 8 ([]:tL Int) B=some B:=e1;rcases U with⟨rfl,rfl,rfl⟩|⟨e,rfl,_,F,x2,rfl⟩
  .rfl
  .simp only[qBs];rw[e2,qK (by omega)];rfl
 .intro k u v M hv;rcases U with⟨_,rfl,_⟩|⟨e,_,he,F,_⟩
  .cases M
  .have hk:k<G:=by
    have C:=F.len;rcases qR (2*k) B.length with q|q
    .omega
    .rw[qe q]at M;cases M
   obtain⟨u',v',a1,a2,a3,a4,_,a6⟩:=F.up k hk;rw[M]at a1;rw[hv]at a2;obtain rfl:=qSj a1;obtain rfl:=qSj a2;rcases a6 (λh=>by cases h)with h|⟨C,q⟩
   .exact .inl h
   .exact .inr ⟨C,q,by omega⟩
theorem j2_{α:Type}(p:α->tV)(A:tL α)(x:α):(A++[x]).filter p=if p x then A.filter p++[x]else A.filter p:=by
 rw[List.filter_append];cases h:p x with
 | true=>simp[h]
 | false=>simp[h]
theorem sF_{α:Type}(p:α->tV)(l:tL α)(j:Nat):((l.take j).filter p).length<=j:=by
 have h:=List.length_filter_le p (l.take j);have f:=jf j l;omega
theorem del_go{l:tL Xx}(hl:l.length<=1000000)(q:Xx->tV):∀(k j f:Nat) (M:tL Xx),l.length-j<=k->k<f->j<=l.length->M.length+((l.take j).filter λa => !(q a)).length=j ->
  ∃M':tL Xx,af_ (bc_ (λa=>some (q a))) f ((((l.take j).filter λa => !(q a)).length:Int),(j:Int),((l.take j).filter λa => !(q a))++(M++l.drop j))=some (((l.filter λa => !(q a)).length:Int),(l.filter λa => !(q a))++M')/\M'.length+(l.filter λa => !(q a)).length=l.length:=by
 intro k
 induction k with
 | zero =>
  intro j f M Y hf Z G;obtain⟨f,rfl⟩:∃g,f=g+1:=⟨f-1,by omega⟩;have:j=l.length:=by omega
  subst this;rw[qb]at G ⊢;refine⟨M,aj_ ?_,by omega⟩;unfold bc_;simp only[];rw[ze,zP,qV (by rw[qLa];omega)];rfl
 | succ k V =>
  intro j f M Y hf Z G;obtain⟨f,rfl⟩:∃g,f=g+1:=⟨f-1,by omega⟩;rcases qR j l.length with p|ZZ
  .have D:=aW_ p;obtain⟨W,C⟩:∃W,(l.take j).filter (λa => !(q a))=W:=⟨_,rfl⟩;have u:(W++(M++l.drop j)).length=l.length:=by rw[qLa,qLa,qC,←C];omega
   have x:ah_ (W++(M++l.drop j)) (j:Int)=some l[j]:=by
    rw[aX_,←qS,zZ (by rw[qLa,←C];omega)];rw[show j-(W++M).length=0 by rw[qLa,←C];omega,qi p];rfl
   rw[C]at G ⊢;cases F:q l[j]with
   | true =>
    have s:(l.take (j+1)).filter (λa => !(q a))=W:=by
     rw[D,j2_,F,C];rfl
    obtain⟨M',U,O⟩:=V (j+1) f (M++[l[j]]) (by omega) (by omega) (by omega) (by rw[s,qLa];simp only[qLc,qQ];omega);refine⟨M',an_ ?_ U,O⟩;rw[s];unfold bc_;simp only[];rw[u,qK (by omega),qW,x];simp only[qBs];rw[F,ai_ (i:=j) (by omega)];simp only[qN,qZ,qBs];rw[qS,List.singleton_append,←qi p]
   | false =>
    have s:(l.take (j+1)).filter (λa => !(q a))=W++[l[j]]:=by
     rw[D,j2_,F,C];rfl
    -- the element goes behind those that stay
    have h:∃J:tL Xx,(W++(M++l.drop j)).set W.length l[j]=(W++[l[j]])++(J++l.drop (j+1))/\J.length=M.length:=by
     cases M with
     | nil =>
      refine⟨[],?_,rfl⟩;rw[zy,qi p,ei_ rfl];simp
     | cons a M =>
      refine⟨M++[l[j]],?_,by simp⟩;rw[qc,ei_ rfl,qi p];simp
    obtain⟨J,h,ZY⟩:=h;have y:∃a,ah_ (W++(M++l.drop j)) (W.length:Int)=some a:=⟨_,aq_ (by omega)⟩;obtain⟨a,y⟩:=y;obtain⟨M',U,O⟩:=V (j+1) f J (by omega) (by omega) (by omega) (by rw[s,qLa];simp only[qLc,qQ];omega);refine⟨M',an_ ?_ U,O⟩;rw[s];unfold bc_;simp only[];rw[u,qK (by omega),qW,x];simp only[qBs];rw[F];simp only[qf,qW];rw[y];simp only[qBs];rw[show((W.length:Nat):Int).toNat=W.length from rfl,h,ai_ (by omega),ai_ (by omega)];simp only[qLa,qLc,qQ]
  .have:j=l.length:=by omega
   subst this;rw[qb]at G ⊢;refine⟨M,aj_ ?_,by omega⟩;unfold bc_;simp only[];rw[ze,zP,qV (by rw[qLa];omega)];rfl
theorem tE_{l:tL Xx}(U:l.length<=1000000)(q:Xx->tV):b2_ l (λa=>some (q a))=some (l.filter λa => !(q a)):=by
 unfold b2_;rw[lH_ l q (by omega)];simp only[qBs];rcases pM_ q l with⟨M,J⟩|⟨i,x,M,J,D,Y,V⟩
 .rw[J,zV,qW]
  congr 1
  rw[jr]at M;rw[List.filter_eq_self.2];intro a G;have:=M a G;simpa using this
 .have hi:i<l.length:=by
   rcases qR i l.length with h|h
   .exact h
   .rw[qe h]at D;cases D
  have O:l[i]=x:=by rw[qY hi]at D;exact qSj D
  have u:(l.take i).filter (λa => !(q a))=l.take i:=List.filter_eq_self.2 λa G=>by
   obtain⟨j,C⟩:=jW.1 G;have y:j<i:=by
    rcases qR j (l.take i).length with h|h
    .rw[qA]at h;omega
    .rw[qe h]at C;cases C
   rw[List.getElem?_take_of_lt y]at C;rw[V j a y C];rfl
  have f:(l.take (i+1)).filter (λa => !(q a))=l.take i:=by
   rw[aW_ hi,j2_,O,Y,u];rfl
  have s:(l.take i).length=i:=by rw[qA];omega
  obtain⟨M',F,Z⟩:=del_go U q (l.length) (i+1) BIG [x] (by omega) (by unfold BIG;omega) (by omega) (by rw[f,s];simp only[qLc,qQ];omega);rw[f,s]at F;have e:l.take i++([x]++l.drop (i+1))=l:=by
   rw[List.singleton_append,←O,←qi hi,zj]
  rw[e]at F;rw[J,qX.2 (by omega),qZ,ai_ (by omega),F];simp only[qBs];have p:((l.filter λa => !(q a))++M').length=l.length:=by rw[qLa];omega
  rw[ax_ (by omega) (by omega) (qt _)];simp only[qBs];have ec:eC_ ((l.filter λa => !(q a))++M') ((l.filter λa => !(q a)).length:Int).toNat (Xx.mk [] [] false)=(l.filter λa => !(q a))++List.replicate (l.length-(l.filter λa => !(q a)).length) (Xx.mk [] [] false):=by
   unfold eC_;rw[show((l.filter λa => !(q a)).length:Int).toNat=(l.filter λa => !(q a)).length from rfl,p];rw[List.take_left]
  rw[ec,ax_ (qt 0) (by omega) (by rw[qLa];omega)];simp only[qBs];rw[show((l.filter λa => !(q a)).length:Int).toNat=(l.filter λa => !(q a)).length from rfl,List.take_left]
theorem without_eq{l:tL Xx}(f:l.length<=1000000)(n:tX):iS_ l n=some (l.filter λa => !(a.Xg==n)):=by
 unfold iS_;have e:aN_ l=some l:=az_ (by simp only[qQ];omega) (by simp only[qQ];omega);have h:=tE_ f (λa=>a.Xg==n);refine al_ e ?_;exact al_ h rfl
theorem tF_{l:tL Xx}(p:l.length<=1000000)(n:tX):h0_ l n=some (l.filter λa => !(a.Xg==n)):=by
 unfold h0_;have h:=bQ_ (body:=fD_ l n) (T:=λi=>((i:Int),(l.take i).filter λa => !(a.Xg==n))) (b:=l.filter λa => !(a.Xg==n)) l.length (au_ (by omega)) (λi hi=>by
  have f:=sF_ (λa:Xx => !(a.Xg==n)) l i;unfold fD_;simp only[];rw[aB_ hi,qW,aq_ hi,aW_ hi,j2_,ai_ (by omega)];simp only[qBs];cases j:(l[i]).Xg==n with
  | true=>rfl
  | false =>
   simp only[qf,qW,zT];rw[az_ (by simp only[qLc,qQ];omega) (by simp only[qLc,qQ];omega)];rfl) (by
  unfold fD_;simp only[];rw[aM_,qb];rfl)
 exact al_ h rfl
def bP_(n:tX)(a:Xx):tV:=(!a.Xi)&&(a.Xg==n)
def j3_(l:tL Xx)(n:tX):tX×tV:=match l.find? (bP_ n)with|some a=>(a.Xr,true)|none=>([],false)
theorem index_eq{l:tL Xx}(f:l.length<=1000000)(n:tX):kS_ l n=some (at_ (bP_ n) l):=by
 have h:=lH_ l (bP_ n) (by omega);exact al_ h rfl
theorem find_eq{l:tL Xx}(j:l.length<=1000000)(n:tX):l7_ l n=some (j3_ l n):=by
 unfold l7_ j3_;rw[index_eq j];simp only[qBs];rcases pM_ (bP_ n) l with⟨h,f⟩|⟨i,x,h,f,p,_⟩
 .rw[h,f];rfl
 .rw[h,f,qV (by omega),qZ,aX_,p];rfl
theorem refFind_eq{l:tL Xx}(f:l.length<=1000000)(n:tX):k0_ l n=some (j3_ l n):=by
 unfold k0_ j3_;have h:=bw_ (body:=h1_ l n) l (λ_ a=>if bP_ n a=true then some (a.Xr,true)else none) (au_ (by omega)) (λi hi=>by
  unfold h1_ bP_;rw[aB_ hi,qW,aq_ hi];simp only[qBs];cases(l[i]).Xg==n with
  | true =>
   cases(l[i]).Xi with
   | true =>
    simp only[qW,qBs,qN,qZ,zd,qM,zY,dr_];rw[ai_ (by omega)]
   | false=>rfl
  | false =>
   simp only[qZ,qBs,zr,qM,zY,dr_];rw[ai_ (by omega)]) (by
  unfold h1_;rw[aM_];rfl)
 refine(bD_ (x:=(([],false):tX×tV)) h (λr=>rfl) rfl).trans ?_;rw[gy_ (bP_ n) (λa=>(a.Xr,true))];cases l.find? (bP_ n)<;>rfl
def gMat(x:tL Xx)(_:Nat)(a:Xx):tO tV:=if((!(j3_ x a.Xg).2)||((!a.Xi)&&(!((j3_ x a.Xg).1==a.Xr))))=true then some false else none
def matchA(x l:tL Xx):tV:=(bh_ (gMat x) 0 l).getD true
theorem matches_eq{x l:tL Xx}(f:x.length<=1000000)(h:l.length<=1000000):iU_ x l=some (matchA x l):=by
 unfold iU_ matchA;refine bD_ (bw_ l (gMat x) (au_ (by omega)) (λi hi => ?_) ?_) (λr=>rfl) rfl
 .unfold iT_ gMat;rw[aB_ hi,qW,aq_ hi];simp only[qBs];rw[find_eq f];simp only[qBs];cases((!(j3_ x (l[i]).Xg).2)||((!(l[i]).Xi)&&(!((j3_ x (l[i]).Xg).1==(l[i]).Xr))))with
  | true=>rfl
  | false =>
   simp only[qZ,qM,zY,dr_];rw[ai_ (by omega)]
 .unfold iT_;rw[aM_];rfl
theorem tG_{x l:tL Xx}(f:x.length<=1000000)(h:l.length<=1000000):h2_ x l=some (matchA x l):=by
 unfold h2_ matchA;refine bD_ (bw_ l (gMat x) (au_ (by omega)) (λi hi => ?_) ?_) (λr=>rfl) rfl
 .unfold ii_ gMat;rw[aB_ hi,qW,aq_ hi];simp only[qBs];rw[refFind_eq f];simp only[qBs];cases(j3_ x (l[i]).Xg).2 with
  | false=>rfl
  | true =>
   cases(l[i]).Xi with
   | true =>
    simp only[qN,qZ,qBs,zX,zd,qM,zY,dr_];rw[ai_ (by omega)]
   | false =>
    cases(j3_ x (l[i]).Xg).1==(l[i]).Xr with
    | false=>rfl
    | true =>
     simp only[qN,qf,qZ,qW,qBs,zX,zr,qM,zY,dr_];rw[ai_ (by omega)]
 .unfold ii_;rw[aM_];rfl
def updA(v:tX)(a:Xx):Xx:=Xx.mk a.Xg v a.Xi
def fr_(n v:tX):tL Xx->tL Xx | []=>[]|a::l=>if bP_ n a=true then updA v a::l else a::fr_ n v l
def setA(l:tL Xx)(n v:tX):tL Xx:=if l.any (bP_ n)=true then fr_ n v l else l++[Xx.mk n v false]
theorem qI_(n v:tX):∀l:tL Xx,(fr_ n v l).length=l.length
 | []=>rfl
 | a::l=>by
  unfold fr_;split
  .rfl
  .rw[qLc,qI_ n v l,qLc]
theorem repl_none(n v:tX):∀l:tL Xx,l.any (bP_ n)=false->fr_ n v l=l
 | [],_=>rfl
 | a::l,h=>by
  rw[jp,zS]at h;unfold fr_;rw[h.1,repl_none n v l h.2];rfl
theorem repl_snoc(n v:tX):∀(A:tL Xx) (x:Xx),fr_ n v (A++[x])=if A.any (bP_ n)=true then fr_ n v A++[x]else fr_ n v A++[if bP_ n x=true then updA v x else x]
 | [],x=>by
  show(if bP_ n x=true then[updA v x]else[x])=_;cases bP_ n x<;>rfl
 | a::A,x=>by
  rw[qc];unfold fr_;rw[jp];cases h:bP_ n a with
  | true=>simp
  | false =>
   simp only[qM,zY,zX];rw[repl_snoc n v A x];split<;>rfl
theorem repl_set(n v:tX):∀(l:tL Xx) (i:Nat) (x:Xx),l[i]? = some x->bP_ n x=true->(∀j y,j<i->l[j]? = some y->bP_ n y=false)->l.set i (updA v x)=fr_ n v l
 | [],_,_,h,_,_=>by cases h
 | a::l,0,x,h,p,_=>by
  obtain rfl:=qSj h;unfold fr_;rw[qL p];rfl
 | a::l,i+1,x,h,p,f=>by
  have s:=f 0 a (Nat.succ_pos _) rfl;unfold fr_;rw[s,List.set_cons_succ,repl_set n v l i x h p λj y u q=>f (j+1) y (by omega) q];rfl
theorem set_eq{l:tL Xx}(u:l.length<=1000000)(n v:tX):nN_ l n v=some (setA l n v):=by
 unfold nN_ setA;have e:aN_ l=some l:=az_ (by simp only[qQ];omega) (by simp only[qQ];omega);rw[e];simp only[qBs];rw[index_eq u];simp only[qBs];rw[at_any];rcases pM_ (bP_ n) l with⟨s,q⟩|⟨i,x,s,q,j,p,y⟩
 .have f:l.any (bP_ n)=false:=by
   rw[List.any_eq_false];exact λa h=>jr.1 s a h
  rw[f,qZ,az_ (by simp only[qLc,qQ];omega) (by simp only[qLc,qQ];omega)];rfl
 .have f:l.any (bP_ n)=true:=List.any_eq_true.2 ⟨x,qw j,p⟩;rw[f,qW,q,aX_,j,qL rfl];simp only[qBs]
  congr 1
  exact repl_set n v l i x j p y
theorem refSet_eq{l:tL Xx}(x:l.length<=1000000)(n v:tX):l9_ l n v=some (setA l n v):=by
 unfold l9_ setA;have h:=bQ_ (body:=i1_ l n v) (T:=λi=>((l.take i).any (bP_ n),(i:Int),fr_ n v (l.take i))) (b:=(l.any (bP_ n),fr_ n v l)) l.length (au_ (by omega)) (λi hi=>by
  have s:(fr_ n v (l.take i)).length<=l.length:=by rw[qI_,qA];omega
  have hr:∀y:Xx,room 40 (fr_ n v (l.take i)) [y]=some (fr_ n v (l.take i)++[y]):=λy=>az_ (by simp only[qLc,qQ];omega) (by simp only[qLc,qQ];omega)
  unfold i1_;simp only[];rw[aB_ hi,qW,aq_ hi,aW_ hi,repl_snoc,List.any_append,ai_ (by omega)];simp only[qBs];have u:([l[i]].any (bP_ n))=bP_ n l[i]:=by simp
  rw[u];have f:bP_ n l[i]=((!(l[i]).Xi)&&((l[i]).Xg==n)):=rfl;cases q:(l.take i).any (bP_ n)with
  | true =>
   simp only[qN,zd,qZ,qBs,jM,zT];rw[hr];rfl
  | false =>
   cases p:(l[i]).Xg==n with
   | false =>
    rw[f,p];simp only[zr,zd,qZ,qBs,za,qM,zY];rw[hr];rfl
   | true =>
    cases j:(l[i]).Xi with
    | true =>
     rw[f,p,j];simp only[qN,zr,zd,qZ,qBs,za,qM,zY];rw[hr];rfl
    | false =>
     rw[f,p,j];simp only[qf,jX,qW,qBs,jE,qM,zY,zT];rw[hr];unfold updA;rw[j];rfl) (by
  unfold i1_;simp only[];rw[aM_,qb];rfl)
 refine al_ h ?_;simp only[];cases q:l.any (bP_ n)with
 | true=>rfl
 | false =>
  simp only[qf,qW,qM,zY];rw[repl_none n v l q,az_ (by simp only[qLc,qQ];omega) (by simp only[qLc,qQ];omega)];rfl
structure AttrB(k:Nat)(l:tL Xx):Prop where
 n:l.length<=k
 ls:∀a∈l,a.Xg.length<=100000/\a.Xr.length<=100000
theorem AttrB.mono{k m:Nat}{l:tL Xx}(h:AttrB k l)(f:k<=m):AttrB m l:=⟨zQ h.n f,h.ls⟩
theorem AttrB.attrL{k:Nat}{l:tL Xx}(h:AttrB k l)(j:k<=1000000):AttrL l:=⟨by have:=h.n;omega,λa f=>by have:=(h.ls a f).1;omega,λa f=>by have:=(h.ls a f).2;omega⟩
theorem AttrB.filter{k:Nat}{l:tL Xx}(h:AttrB k l)(p:Xx->tV):AttrB k (l.filter p):=⟨zQ (List.length_filter_le p l) h.n,λa f=>h.ls a (List.mem_filter.1 f).1⟩
theorem mem_repl{n v:tX}:∀{l:tL Xx} {a:Xx},a∈fr_ n v l->a∈l\/∃b∈l,a=updA v b
 | b::l,a,h=>by
  unfold fr_ at h;split at h
  .rcases qD.1 h with h|h
   .exact .inr ⟨b,qT,h⟩
   .exact .inl (qG _ h)
  .rcases qD.1 h with h|h
   .exact .inl (h▸qT)
   .rcases mem_repl h with h|⟨c,f,h⟩
    .exact .inl (qG _ h)
    .exact .inr ⟨c,qG _ f,h⟩
theorem AttrB.set{k:Nat}{l:tL Xx}(h:AttrB k l){n v:tX}(p:n.length<=100000)(j:v.length<=100000):AttrB (k+1) (setA l n v):=by
 unfold setA;split
 .refine⟨by rw[qI_];have:=h.n;omega,λa f => ?_⟩;rcases mem_repl f with f|⟨b,q,rfl⟩
  .exact h.ls a f
  .exact⟨(h.ls b q).1,j⟩
 .refine⟨by rw[qLa];have:=h.n;simp only[qLc,qQ];omega,λa f => ?_⟩;rcases qF.1 f with f|f
  .exact h.ls a f
  .rw[qH.1 f];exact⟨p,j⟩
def dd_(x:tL Xx)(l:tL Xx):tL Xx:=l.foldl (λacc a=>setA acc a.Xg a.Xr) x
theorem mG_(x A:tL Xx)(a:Xx):dd_ x (A++[a])=setA (dd_ x A) a.Xg a.Xr:=by unfold dd_;rw[List.foldl_append];rfl
theorem oc_{k:Nat}{x:tL Xx}(h:AttrB k x):∀(l:tL Xx) (i:Nat),i<=l.length->(∀a∈l,a.Xg.length<=100000/\a.Xr.length<=100000)->AttrB (k+i) (dd_ x (l.take i))
 | l,0,_,_=>by rw[jj];exact h
 | l,i+1,hi,f=>by
  have:=oc_ h l i (by omega) f;rw[aW_ (by omega),mG_];have j:=f _ (qk (show i<l.length by omega));exact this.set j.1 j.2
def j4_(m:Xq)(A:tL Xx):Xq:=Xq.mk m.Xu m.Xe m.Yz m.Xt A m.Xl
theorem attrs_both {m:Xq} {text:tX} {caps:tL Int} {port verb arg:tX} {k:Nat} (hk:k<=100000) (D:AttrB k m.Xm) (Z:arg.length<=100000):∃ok A,dS_ (plumb_state.mk m text caps port) verb arg=some (ok,plumb_state.mk (j4_ m A) text caps port)/\(∃q,hC_ m verb arg=some (q,ok)/\(ok=true->q=j4_ m A))/\AttrB (k+32) A:=by
 have hn:=D.n;unfold dS_ hC_;cases hd:verb==[100,101,108,101,116,101]with
 | true =>
  refine⟨true,m.Xm.filter λa => !(a.Xg==arg),?_,⟨j4_ m (m.Xm.filter λa => !(a.Xg==arg)),?_,λ_=>rfl⟩,(D.filter _).mono (by omega)⟩
  .simp only[qW];rw[without_eq (by omega)];rfl
  .simp only[qW];rw[tF_ (by omega)];rfl
 | false =>
  simp only[qZ];obtain⟨r,hr⟩:=PR.ex arg.length 0 [] (by omega) (qO _) (s:=arg);obtain⟨ZZ,U⟩:=hr.lens (qO _) (λa Z=>nomatch Z);rw[parse_eq (by omega) hr,p5_ (by omega) hr];simp only[qBs];cases he:r.2.2 != 0 with
  | true=>exact⟨false,m.Xm,rfl,⟨m,rfl,λe=>by cases e⟩,D.mono (by omega)⟩
  | false =>
   simp only[qZ];cases Y:verb==[97,100,100]with
   | false =>
    refine⟨(matchA m.Xm r.1==(verb==[105,115])),m.Xm,?_,⟨m,?_,λ_=>rfl⟩,D.mono (by omega)⟩
    .simp only[qf,qW];rw[matches_eq (by omega) (by omega)];rfl
    .simp only[qf,qW];rw[tG_ (by omega) (by omega)];rfl
   | true =>
    simp only[qN,qZ];have hq:fM_ r.1=some (r.1.any (·.Xi)):=by
     have:=i5_ r.1 (·.Xi) (by omega);exact al_ this rfl
    have F:∀a∈r.1,a.Xg.length<=100000/\a.Xr.length<=100000:=λa h=>by have:=U a h;omega
    have C:=oc_ D r.1 r.1.length (qE _) F;rw[qb]at C
    -- the reference's loop
    have G:∀(j i f:Nat),r.1.length-i<=j->j<f->i<=r.1.length->((r.1.drop i).any (·.Xi)=true->∃q,af_ cb_ f ((i:Int),m.Xu,m.Xe,m.Yz,m.Xt,dd_ m.Xm (r.1.take i),m.Xl,r.1)=some (.ret (q,false)))/\((r.1.drop i).any (·.Xi)=false->af_ cb_ f ((i:Int),m.Xu,m.Xe,m.Yz,m.Xt,dd_ m.Xm (r.1.take i),m.Xl,r.1)=some (.fall (j4_ m (dd_ m.Xm r.1)))):=by
     have x:∀f,af_ cb_ (f+1) ((r.1.length:Int),m.Xu,m.Xe,m.Yz,m.Xt,dd_ m.Xm (r.1.take r.1.length),m.Xl,r.1)=some (.fall (j4_ m (dd_ m.Xm r.1))):=by
      intro f;refine aj_ ?_;unfold cb_;simp only[];rw[aM_,qb];rfl
     intro j
     induction j with
     | zero =>
      intro i f hj hf hi;obtain⟨f,rfl⟩:∃g,f=g+1:=⟨f-1,by omega⟩;have:i=r.1.length:=by omega
      subst this;exact⟨λh=>(by rw[ze]at h;cases h),λ_=>x f⟩
     | succ j ih =>
      intro i f hj hf hi;obtain⟨f,rfl⟩:∃g,f=g+1:=⟨f-1,by omega⟩;rcases qR i r.1.length with u|ZY
      .have p:cb_ ((i:Int),m.Xu,m.Xe,m.Yz,m.Xt,dd_ m.Xm (r.1.take i),m.Xl,r.1)=(bif(r.1[i]).Xi then some (.done (.ret (j4_ m (dd_ m.Xm (r.1.take i)),false)))else some (.next (((i+1:Nat):Int),m.Xu,m.Xe,m.Yz,m.Xt,dd_ m.Xm (r.1.take (i+1)),m.Xl,r.1))):=by
        unfold cb_;simp only[];rw[aB_ u,qW,aq_ u];simp only[qBs];have hb:=(oc_ D r.1 i (by omega) F).n;rw[refSet_eq (by omega),aW_ u,mG_,ai_ (by omega)];rfl
       rw[qi u,jp];cases J:(r.1[i]).Xi with
       | true =>
        rw[J]at p;exact⟨λ_=>⟨_,aj_ p⟩,λh=>(by cases h)⟩
       | false =>
        rw[J]at p;have p:cb_ ((i:Int),m.Xu,m.Xe,m.Yz,m.Xt,dd_ m.Xm (r.1.take i),m.Xl,r.1)=some (.next (((i+1:Nat):Int),m.Xu,m.Xe,m.Yz,m.Xt,dd_ m.Xm (r.1.take (i+1)),m.Xl,r.1)):=p;obtain⟨i1,i2⟩:=ih (i+1) f (by omega) (by omega) (by omega);refine⟨λh => ?_,λh => ?_⟩
        .obtain⟨q,O⟩:=i1 h;exact⟨q,an_ p O⟩
        .exact an_ p (i2 h)
      .have:i=r.1.length:=by omega
       subst this;exact⟨λh=>(by rw[ze]at h;cases h),λ_=>x f⟩
    obtain⟨h1,O⟩:=G r.1.length 0 BIG (by omega) (by unfold BIG;omega) (qO _);rw[zO]at h1 O;rw[hq];simp only[qBs];cases y:r.1.any (·.Xi)with
    | true =>
     obtain⟨q,M⟩:=h1 y;have M:af_ cb_ BIG (0,m.Xu,m.Xe,m.Yz,m.Xt,m.Xm,m.Xl,r.1)=some (.ret (q,false)):=M;refine⟨false,m.Xm,rfl,⟨q,?_,λe=>by cases e⟩,D.mono (by omega)⟩;rw[M];rfl
    | false =>
     have M:af_ cb_ BIG (0,m.Xu,m.Xe,m.Yz,m.Xt,m.Xm,m.Xl,r.1)=some (.fall (j4_ m (dd_ m.Xm r.1))):=O y;have V:=bQ_ (body:=c9_ r) (T:=λi=>((i:Int),m.Xu,m.Xe,m.Yz,m.Xt,dd_ m.Xm (r.1.take i),m.Xl,text,caps,port,r.1)) (b:=plumb_state.mk (j4_ m (dd_ m.Xm r.1)) text caps port) r.1.length (au_ (by omega)) (λi hi=>by
      unfold c9_;simp only[];rw[aB_ hi,qW,aq_ hi];simp only[qBs];have hb:=(oc_ D r.1 i (by omega) F).n;rw[set_eq (by omega),aW_ hi,mG_,ai_ (by omega)];rfl) (by
      unfold c9_;simp only[];rw[aM_,qb];rfl)
     have V:af_ (c9_ r) BIG (0,m.Xu,m.Xe,m.Yz,m.Xt,m.Xm,m.Xl,text,caps,port,r.1)=some (plumb_state.mk (j4_ m (dd_ m.Xm r.1)) text caps port):=V;refine⟨true,dd_ m.Xm r.1,?_,⟨_,?_,λ_=>rfl⟩,C.mono (by omega)⟩
     .simp only[qZ];rw[V];rfl
     .rw[M];rfl
def cut36(s:tX):tX×tX:=if s.contains 36 then(s.take (ae_ [36] s),s.drop (ae_ [36] s+1))else(s,[])
theorem cut36_eq{s:tX}(x:s.length<=1000000000):strings_Cut s [36]=some ((cut36 s).1,(cut36 s).2,s.contains 36):=by
 unfold strings_Cut c7_ stringslite_Index cut36;simp only[qBs];rw[pN_];cases h:s.contains 36 with
 | false=>rfl
 | true =>
  obtain⟨u,q,f,p⟩:=bO_ h;rw[f,qW,ax_ (qt 0) (by omega) (by omega)];simp only[qBs,qTn,jN,zO];rw[ar_ (n:=((ae_ [36] s:Nat):Int)+(([36]:tX).length:Int)) ⟨by simp only[qLc,qQ];omega,by simp only[qLc,qQ];omega⟩,ax_ (by simp only[qLc,qQ];omega) (by simp only[qLc,qQ];omega) (qt _)];simp only[qBs,qTn,qb];have j:(((ae_ [36] s:Nat):Int)+(([36]:tX).length:Int)).toNat=ae_ [36] s+1:=by simp only[qLc,qQ];omega
  rw[j];rfl
def grpS(text:tX)(caps:tL Int)(k:Nat):tX:=match caps[2*k]?,caps[2*k+1]? with|some u,some v=>if u<0 then[]else(text.take v.toNat).drop u.toNat|_,_=>[]
theorem group_eq{m:Xq}{text:tX}{caps:tL Int}{port:tX}(h:CapsR text caps){k:Nat}(G:k<=9):e7_ (plumb_state.mk m text caps port) (k:Int)=some (grpS text caps k,plumb_state.mk m text caps port):=by
 have F:w64 (2*(k:Int))=((2*k:Nat):Int):=by rw[ar_ ⟨by omega,by omega⟩];omega
 have D:w64 (((2*k:Nat):Int)+1)=((2*k+1:Nat):Int):=ai_ (by omega);unfold e7_ grpS;simp only[];rw[F,D];rcases qR (2*k+1) caps.length with j|p
 .have C:=qY (l:=caps) (show 2*k<caps.length by omega);have y:=qY (l:=caps) j;have f:=h k _ _ C y;rw[qV (by omega),qZ,aX_,aX_,C,y];generalize caps[2*k]'(by omega)=u at *
  generalize caps[2*k+1]'(by omega)=v at *
  simp only[qBs];rcases f with f|⟨x,s,q⟩
  .rw[qK f,qL f];rfl
  .rw[qV (by omega),qZ,qP (by omega)];simp only[qBs];rw[qV (by omega),qZ,ax_ x s q];rfl
 .rw[qK (by omega),qe p];cases caps[2*k]?<;>rfl
def fX_(m:Xq)(o:tX):tX:=if(o==[115,114,99])=true then m.Xu else if(o==[100,115,116])=true then m.Xe else if(o==[119,100,105,114])=true then m.Yz else if(o==[116,121,112,101])=true then m.Xt else m.Xl
theorem value_eq(m:Xq)(o:tX):cC_ m o=some (fX_ m o):=by
 unfold cC_ fX_;cases o==[115,114,99]<;>cases o==[100,115,116]<;>cases o==[119,100,105,114]<;>cases o==[116,121,112,101]<;>rfl
def names5:tL tX:=[[115,114,99],[100,115,116],[119,100,105,114],[116,121,112,101],[100,97,116,97]]
def d3_(r o:tX):tV:=r.take o.length==o
def fY_(m:Xq)(r:tX):tO (tX×Nat):=(names5.find? (d3_ r)).map λo=>(fX_ m o,o.length)
theorem names_len{o:tX}(h:o∈names5):3<=o.length/\o.length<=4:=by
 unfold names5 at h;simp only[qD,jo,or_false]at h;rcases h with h|h|h|h|h<;>subst h<;>decide
theorem hasP(s p:tX):strings_HasPrefix s p=some (d3_ s p):=by
 unfold strings_HasPrefix;rw[nb_];rfl
theorem named_eq{m:Xq}{text:tX}{caps:tL Int}{port r:tX}:dR_ (plumb_state.mk m text caps port) r=some (match fY_ m r with
  | some (v,n)=>(v,(n:Int),plumb_state.mk m text caps port)
  | none=>([36],0,plumb_state.mk m text caps port)):=by
 unfold dR_;have h:=nW_ (body:=fz_ r (plumb_state.mk m text caps port)) names5 names5 (λ_ o=>if d3_ r o=true then some (fX_ m o,((o.length:Nat):Int),plumb_state.mk m text caps port)else none) (by unfold BIG names5;decide) (λi hi=>by
  have f:i<5:=hi;unfold fz_;simp only[];refine ki_ (qK (show(i:Int)<((5:Nat):Int)by omega)) ?_;rw[aq_ hi];simp only[qBs];rw[hasP];simp only[qBs];unfold fX_;cases d3_ r names5[i]with
  | true =>
   simp only[qW,zT];cases names5[i]==[115,114,99]<;>cases names5[i]==[100,115,116]<;>cases names5[i]==[119,100,105,114]<;>cases names5[i]==[116,121,112,101]<;>rfl
  | false =>
   simp only[qZ,qM,zY];rw[ai_ (by omega)]) (by rfl)
 refine(bD_ (x:=(([36],0,plumb_state.mk m text caps port):tX×Int×plumb_state)) h (λr=>rfl) rfl).trans ?_;rw[gy_ (d3_ r) (λo=>(fX_ m o,((o.length:Nat):Int),plumb_state.mk m text caps port))];unfold fY_;cases names5.find? (d3_ r)<;>rfl
def digB(d:UInt8):tV:=decide (48<=d.toNat)&&decide (d.toNat<=57)
def ce_(m:Xq)(text:tX)(caps:tL Int)(r:tX):tX×Nat:=match r with
 | []=>([36],0)
 | d::_=>if d=36 then([36],1)else if digB d=true then(grpS text caps (d.toNat-48),1)else match fY_ m r with
  | some q=>q
  | none=>([36],0)
def expF(m:Xq)(text:tX)(caps:tL Int):Nat->tX->tX | 0,_=>[]|_+1,[]=>[]|n+1,b::r=>if b=36 then(ce_ m text caps r).1++expF m text caps n (r.drop (ce_ m text caps r).2)else b::expF m text caps n r
theorem pp_(m:Xq)(text:tX)(caps:tL Int):∀(n k:Nat) (s:tX),s.length<n->s.length<k->expF m text caps n s=expF m text caps k s
 | n+1,k+1,[],_,_=>rfl
 | n+1,k+1,b::r,h,f=>by
  simp only[qLc]at h f;unfold expF;split
  .rw[pp_ m text caps n k _ (by rw[qC];omega) (by rw[qC];omega)]
  .rw[pp_ m text caps n k r (by omega) (by omega)]
def de_(m:Xq)(text:tX)(caps:tL Int)(s:tX):tX:=expF m text caps (s.length+1) s
theorem lL_(m:Xq)(text:tX)(caps:tL Int):de_ m text caps []=[]:=rfl
theorem oe_(m:Xq)(text:tX)(caps:tL Int){b:UInt8}(h:b≠36)(r:tX):de_ m text caps (b::r)=b::de_ m text caps r:=by
 have e:de_ m text caps (b::r)=if b=36 then(ce_ m text caps r).1++expF m text caps (r.length+1) (r.drop (ce_ m text caps r).2)else b::expF m text caps (r.length+1) r:=rfl
 rw[e,qP h];rfl
theorem mI_(m:Xq)(text:tX)(caps:tL Int)(r:tX):de_ m text caps (36::r)=(ce_ m text caps r).1++de_ m text caps (r.drop (ce_ m text caps r).2):=by
 have e:de_ m text caps (36::r)=if(36:UInt8)=36 then(ce_ m text caps r).1++expF m text caps (r.length+1) (r.drop (ce_ m text caps r).2)else 36::expF m text caps (r.length+1) r:=rfl
 rw[e,qL rfl]
 congr 1
 exact pp_ m text caps _ _ _ (by rw[qC];omega) (by omega)
theorem qJ_(m:Xq)(text:tX)(caps:tL Int):∀(a t:tX),(∀b∈a,b≠36)->de_ m text caps (a++t)=a++de_ m text caps t
 | [],_,_=>rfl
 | b::a,t,h=>by
  rw[qc,oe_ m text caps (h b qT),qJ_ m text caps a t λx f=>h x (qG _ f)];rfl
structure FieldB(M:Nat)(m:Xq)(text:tX):Prop where (src:m.Xu.length<=M) (dst:m.Xe.length<=M) (dir:m.Yz.length<=M) (typ:m.Xt.length<=M) (dat:m.Xl.length<=M) (txt:text.length<=M) (one:1<=M)
theorem value_len{M:Nat}{m:Xq}{text:tX}(h:FieldB M m text)(o:tX):(fX_ m o).length<=M:=by
 unfold fX_;split
 .exact h.src
 .split
  .exact h.dst
  .split
   .exact h.dir
   .split
    .exact h.typ
    .exact h.dat
theorem var_len{M:Nat}{m:Xq}{text:tX}{caps:tL Int}(h:FieldB M m text)(r:tX):(ce_ m text caps r).1.length<=M/\(ce_ m text caps r).2<=4:=by
 have f:=h.one;have j:∀k,(grpS text caps k).length<=M:=λk=>by
  have:=h.txt;unfold grpS;cases caps[2*k]? with
  | none=>exact qO _
  | some u =>
   cases caps[2*k+1]? with
   | none=>exact qO _
   | some v =>
    simp only[];split
    .exact qO _
    .rw[qC,qA];omega
 unfold ce_;cases r with
 | nil=>exact⟨f,(qO 4:0<=4)⟩
 | cons d r =>
  simp only[];split
  .exact⟨f,by omega⟩
  .split
   .exact⟨j _,by omega⟩
   .unfold fY_;cases p:names5.find? (d3_ (d::r))with
    | none=>exact⟨f,by show 0<=4;omega⟩
    | some o=>exact⟨value_len h o,(names_len (jH p)).2⟩
theorem of_{M:Nat}{m:Xq}{text:tX}{caps:tL Int}(h:FieldB M m text):∀(n:Nat) (s:tX),s.length<=n->(de_ m text caps s).length<=s.length*M
 | _,[],_=>qO _
 | 0,b::r,f=>by simp only[qLc]at f;omega
 | n+1,b::r,f=>by
  simp only[qLc]at f;have u:=h.one;by_cases j:b=36
  .subst j;obtain⟨q,v2⟩:=var_len (caps:=caps) h r;have p:=of_ (caps:=caps) h n (r.drop (ce_ m text caps r).2) (by rw[qC];omega);rw[mI_,qLa,qLc];have:(r.drop (ce_ m text caps r).2).length*M<=r.length*M:=qu _ (by rw[qC];omega);rw[jc];omega
  .have p:=of_ (caps:=caps) h n r (by omega);rw[oe_ m text caps j,qLc,qLc,jc];omega
theorem digit_w{d:UInt8}(h:digB d=true):w64 (IntKind.u8.wrap ((d.toNat:Int)-48))=((d.toNat-48:Nat):Int)/\d.toNat-48<=9:=by
 unfold digB at h;simp only[qAn,qDe]at h;refine⟨?_,by omega⟩;rw[wu8,ar_ ⟨by omega,by omega⟩];omega
theorem no36{a:tX}(h:a.contains 36=false):∀b∈a,b≠36:=λb f e=>by
 subst e;rw[zl.2 f]at h;cases h
theorem expand_go {m:Xq} {text:tX} {caps:tL Int} {port:tX} (hc:CapsR text caps):∀(n:Nat) (s:tX) (acc:tX) (f:Nat),s.length<=n->n<f->s.length<=100000000->acc.length+(de_ m text caps s).length<=1000000000 ->
  af_ cS_ f (s,plumb_state.mk m text caps port,aG_ acc)=some (aG_ (acc++de_ m text caps s),plumb_state.mk m text caps port):=by
 intro n
 induction n with
 | zero =>
  intro s acc f u F hs p;obtain⟨f,rfl⟩:∃g,f=g+1:=⟨f-1,by omega⟩;have:s=[]:=zI.1 (by omega);subst this;rw[lL_,zP];exact aj_ rfl
 | succ n ih =>
  intro s acc f u F hs p;obtain⟨f,rfl⟩:∃g,f=g+1:=⟨f-1,by omega⟩;by_cases C:s=[]
  .subst C;rw[lL_,zP];exact aj_ rfl
  .have h : ∀a b:tX,a.length+b.length<=1000000000->room 1 (aG_ a) (aG_ b)=some (aG_ (a++b)):=λa b ZY=>by
    rw[az_ (by rw[aE_,aE_];omega) (by rw[aE_,aE_];omega),gz_]
   cases j:s.contains 36 with
   | false =>
    have J:de_ m text caps s=s:=by
     have:=qJ_ m text caps s [] (no36 j);rw[zP,lL_,zP]at this;exact this
    have U:cut36 s=(s,[]):=by unfold cut36;rw[j];rfl
    rw[J]at p ⊢;refine aj_ ?_;unfold cS_;simp only[];rw[show(!(s==[]))=true from by simpa using C,qW,cut36_eq (by omega),U,j];simp only[qBs];rw[h _ _ (by omega)];rfl
   | true =>
    obtain⟨V,k2,k3,k4⟩:=bO_ j;have U:cut36 s=(s.take (ae_ [36] s),s.drop (ae_ [36] s+1)):=by unfold cut36;rw[j];rfl
    generalize hA:s.take (ae_ [36] s)=A at *
    generalize hR:s.drop (ae_ [36] s+1)=R at *
    have D:s.length=A.length+(R.length+1):=by rw[V];simp
    have J:de_ m text caps s=A++((ce_ m text caps R).1++de_ m text caps (R.drop (ce_ m text caps R).2)):=by
     rw[V,qJ_ m text caps A _ (no36 k2),mI_]
    rw[J,qLa,qLa]at p
    have y : cS_ (s,plumb_state.mk m text caps port,aG_ acc)=some (.next (R.drop (ce_ m text caps R).2,plumb_state.mk m text caps port,aG_ (acc++A++(ce_ m text caps R).1))):=by
     unfold cS_;simp only[];rw[show(!(s==[]))=true from by simpa using C,qW,cut36_eq (by omega),U,j];simp only[qBs];rw[h _ _ (by omega)];simp only[qBs,qN,qZ];have hv:=p;cases R with
     | nil =>
      have ev:ce_ m text caps []=([36],0):=rfl;have en:fY_ m []=none:=rfl;rw[hasP,named_eq,en];rw[ev]at p ⊢;simp only[qLc,qQ]at p;have r1:room 1 (aG_ (acc++A)) (aG_ [36])=some (aG_ (acc++A++[36])):=h _ _ (by rw[qLa];simp only[qLc,qQ];omega);simp only[qBs];rw[r1];rfl
     | cons d R =>
      rw[hasP];have ep:d3_ (d::R) [36]=(d==36):=by unfold d3_;simp
      rw[ep];simp only[qBs];simp only[qLc]at D;by_cases M:d=36
      .subst M;have ev:ce_ m text caps (36::R)=([36],1):=rfl;rw[ev]at p ⊢;simp only[qLc,qQ]at p;rw[zV,qW,h _ _ (by rw[qLa];simp only[qLc,qQ];omega)];simp only[qBs];rw[ax_ (by omega) (by simp only[qLc];omega) (qt _)];simp
      .rw [qX.2 M,qZ,show(!((d::R)==[]))=true from rfl,qW];have O:ap_ (d::R) 0=some (d.toNat:Int):=bR_ (i:=0) rfl;rw[O];simp only[qBs];have edig:(bif decide ((d.toNat:Int)>=48)then some (decide ((d.toNat:Int)<=57))else some false)=some (digB d):=by
        unfold digB;by_cases Y:48<=d.toNat
        .rw[qK (by omega),qW,qK Y,qm];by_cases G:d.toNat<=57
         .rw[qK (by omega),qK G]
         .rw[qV (by omega),qV G]
        .rw[qV (by omega),qV Y];rfl
       rw[edig];simp only[qBs];cases x:digB d with
       | true =>
        obtain⟨w1,Z⟩:=digit_w x;have ev:ce_ m text caps (d::R)=(grpS text caps (d.toNat-48),1):=by
         unfold ce_;simp only[];rw[qP M,qL x]
        rw[ev]at p ⊢;simp only[]at p;rw[qW,w1,group_eq hc Z];simp only[qBs];rw[h _ _ (by rw[qLa];omega)];simp only[qBs];rw[ax_ (by omega) (by simp only[qLc];omega) (qt _)];simp
       | false =>
        have ev:ce_ m text caps (d::R)=(match fY_ m (d::R)with
         | some q=>q
         | none=>([36],0)):=by
         unfold ce_;simp only[];rw[qP M,x];rfl
        rw[qZ,named_eq];cases u:fY_ m (d::R)with
        | none =>
         rw[u]at ev;simp only[]at ev;rw[ev]at p ⊢;simp only[qLc,qQ]at p;simp only[qBs];rw[h _ _ (by rw[qLa];simp only[qLc,qQ];omega)];simp only[qBs];rw[ax_ (by omega) (by simp only[qLc];omega) (qt _)];simp
        | some q =>
         obtain⟨v,l⟩:=q;rw[u]at ev;simp only[]at ev;rw[ev]at p ⊢;simp only[]at p;have ZZ:l<=(d::R).length:=by
          unfold fY_ at u;cases F:names5.find? (d3_ (d::R))with
          | none=>rw[F]at u;cases u
          | some o =>
           rw[F]at u;have G:=jb F;have u:=qSj u;injection u with _ u;unfold d3_ at G;have h3:=qa List.length (qn.1 G);rw[qA]at h3;omega
         simp only[qBs];rw[h _ _ (by rw[qLa];omega)];simp only[qBs];rw[ax_ (by omega) (by omega) (qt _)];simp
    have ih':=ih (R.drop (ce_ m text caps R).2) (acc++A++(ce_ m text caps R).1) f (by rw[qC];omega) (by omega) (by rw[qC];omega) (by rw[qLa,qLa];omega);rw[an_ y ih',J];simp only[qS]
theorem expand_eq{m:Xq}{text:tX}{caps:tL Int}{port s:tX}{M:Nat}(p:CapsR text caps)(q:FieldB M m text)(u:s.length*M<=1000000000)(f:s.length<=100000000):bY_ (plumb_state.mk m text caps port) s=some (de_ m text caps s,plumb_state.mk m text caps port):=by
 have j:=of_ (caps:=caps) q s.length s (qE _);have h:=expand_go (m:=m) (port:=port) p s.length s [] BIG (qE _) (by unfold BIG;omega) f (by simp only[qQ];omega);rw[zy]at h;unfold bY_;refine al_ (a:=(aG_ (de_ m text caps s),plumb_state.mk m text caps port)) h ?_;rw[e3_]
theorem loop_scanD{α β γ:Type}{body:γ×Int->tO (Step (γ×Int) (Out Unit β))}(c:γ)(xs:tL α)(g:Nat->α->tO β)(j:xs.length<BIG)
  (q:∀i (h:i<xs.length),body (c,(i:Int))=some (match g i xs[i]with|some r => .done (.ret r)|none => .next (c,((i+1:Nat):Int))))
  (p:body (c,(xs.length:Int))=some (.done (.fall ()))):af_ body BIG (c,0)=some (outO (bh_ g 0 xs)):=by
 refine ik_ (J:=λi s b=>s=(c,(i:Int))/\b=outO (bh_ g i (xs.drop i))) xs.length j (λs b f => ?_) (λi s b hi f => ?_) (by simp)
 .obtain⟨rfl,rfl⟩:=f;rw[p];simp[bh_,outO]
 .obtain⟨rfl,rfl⟩:=f;rw[q i hi,qi hi];simp only[bh_];cases u:g i xs[i]with
  | some r=>exact .inl rfl
  | none=>exact .inr ⟨_,rfl,rfl,rfl⟩
def rvarS(m:Xq)(text:tX)(caps:tL Int)(r:tX):tX×Nat:=match r with
 | []=>([],0)
 | d::_=>if d=36 then([36],2)else if digB d=true then(grpS text caps (d.toNat-48),2)else match fY_ m r with
  | some q=>(q.1,q.2+1)
  | none=>([],0)
theorem variable_eq{m:Xq}{text:tX}{caps:tL Int}(hc:CapsR text caps){s:tX}(hs:s.length<=100000000){i:Nat}(hi:i<s.length):eh_ s (i:Int) m (Yw.mk text caps)=some ((rvarS m text caps (s.drop (i+1))).1,((rvarS m text caps (s.drop (i+1))).2:Int)):=by
 have G:w64 ((i:Int)+1)=((i+1:Nat):Int):=ai_ (by omega);unfold eh_;rw[G];rcases qR (i+1) s.length with f|ZY
 .rw [qV (by omega),qZ,qi f,aJ_ f];simp only[qBs];have hR:=qi f;generalize hd:s[i+1]=d at *
  unfold rvarS;simp only[];have V:((d.toNat:Int)==36)=(d==36):=aV_ d 36;rw[V];by_cases j:d=36
  .subst j;rfl
  .rw [qX.2 j,qP j,qZ];have edig:(decide ((d.toNat:Int)>=48)&&decide ((d.toNat:Int)<=57))=digB d:=by
    unfold digB
    congr 1
    .by_cases q:48<=d.toNat
     .rw[qK (by omega),qK q]
     .rw[qV (by omega),qV q]
    .by_cases q:d.toNat<=57
     .rw[qK (by omega),qK q]
     .rw[qV (by omega),qV q]
   rw[edig];cases p:digB d with
   | true =>
    obtain⟨U,O⟩:=digit_w p;rw[U];generalize d.toNat-48=k at O;have F:w64 (2*(k:Int))=((2*k:Nat):Int):=by rw[ar_ ⟨by omega,by omega⟩];omega
    have e2:w64 (((2*k:Nat):Int)+1)=((2*k+1:Nat):Int):=ai_ (by omega);rw[F,e2,qL rfl,qW];unfold grpS;rcases qR (2*k+1) caps.length with Z|hg
    .have M:=qY (l:=caps) (show 2*k<caps.length by omega);have J:=qY (l:=caps) Z;have h:=hc k _ _ M J;rw[qK (by omega),qW,aX_,aX_,M,J];generalize caps[2*k]'(by omega)=u at *
     generalize caps[2*k+1]'(by omega)=v at *
     simp only[qBs];rcases h with h|⟨c1,c2,c3⟩
     .rw[qV (by omega),qL h];rfl
     .rw[qK (by omega),qW,qP (by omega)];simp only[qBs];rw[qK (by omega),qW,ax_ c1 c2 c3];rfl
    .rw[qV (by omega),qe hg];cases caps[2*k]?<;>rfl
   | false =>
    rw[qZ];have D:=loop_scanD (body:=fa_ s (i:Int) m) names5 names5 (λ_ o=>if d3_ (s.drop (i+1)) o=true then some (fX_ m o,((o.length+1:Nat):Int))else none) (by unfold BIG names5;decide) (λk y=>by
     have hn:=names_len (qk y);have ZZ:k<5:=y;unfold fa_;simp only[];rw[aB_ y,qW,aq_ y];simp only[qBs];generalize names5[k]=o at *
     rw[G,ar_ (n:=(s.length:Int)-(i:Int)) ⟨by omega,by omega⟩,ar_ (n:=(s.length:Int)-(i:Int)-1) ⟨by omega,by omega⟩,ar_ (n:=((i+1:Nat):Int)+(o.length:Int)) ⟨by omega,by omega⟩];have ew:w64 ((o.length:Int)+1)=((o.length+1:Nat):Int):=ai_ (by omega);have ek:w64 ((k:Int)+1)=((k+1:Nat):Int):=ai_ (by omega);rw[ew,ek];have epre:(bif decide ((s.length:Int)-(i:Int)-1>=(o.length:Int))then(aP_ s ((i+1:Nat):Int) (((i+1:Nat):Int)+(o.length:Int))).bind λC=>some (C==o)else some false)=some (d3_ (s.drop (i+1)) o):=by
      unfold d3_;by_cases Y:o.length<=s.length-(i+1)
      .rw[qK (by omega),qW,ax_ (by omega) (by omega) (by omega)];simp only[qBs];have F:(((i+1:Nat):Int)+(o.length:Int)).toNat=i+1+o.length:=by omega
       rw[F,show((i+1:Nat):Int).toNat=i+1 from rfl,jC,show i+1+o.length-(i+1)=o.length by omega]
      .rw[qV (by omega),qZ]
       congr 1
       symm;rw[qX];intro e;have:=qa List.length e;rw[qA,qC]at this;omega
     rw[epre];simp only[qBs];cases d3_ (s.drop (i+1)) o with
     | true =>
      simp only[qW,zT];rw[value_eq];rfl
     | false=>rfl) (by rfl)
    have D:af_ (fa_ s (i:Int) m) BIG ([[115,114,99],[100,115,116],[119,100,105,114],[116,121,112,101],[100,97,116,97]],0)=_:=D;refine(bD_ (x:=(([],0):tX×Int)) D (λr=>rfl) rfl).trans ?_;rw[gy_ (d3_ (s.drop (i+1))) (λo=>(fX_ m o,((o.length+1:Nat):Int))),←hR];unfold fY_;cases names5.find? (d3_ (s.drop (i+1)))<;>rfl
 .rw[qK (by omega),qW,zi (by omega)];rfl
theorem refExpand_go {m:Xq} {text:tX} {caps:tL Int} (hc:CapsR text caps) {s:tX} (hs:s.length<=100000000):∀(n i:Nat) (acc:tX) (f:Nat),s.length-i<=n->n<f->i<=s.length->acc.length+(de_ m text caps (s.drop i)).length<=1000000000 ->
  af_ (da_ s m (Yw.mk text caps)) f (acc,(i:Int))=some (acc++de_ m text caps (s.drop i)):=by
 intro n
 induction n with
 | zero =>
  intro i acc f p F hi J;obtain⟨f,rfl⟩:∃g,f=g+1:=⟨f-1,by omega⟩;rw[zi (by omega),lL_,zP];refine aj_ ?_;unfold da_;simp only[];rw[qV (by omega)];rfl
 | succ n ih =>
  intro i acc f p F hi J;obtain⟨f,rfl⟩:∃g,f=g+1:=⟨f-1,by omega⟩;rcases qR i s.length with j|ZY
  .have hw:w64 ((i:Int)+1)=((i+1:Nat):Int):=ai_ (by omega);have D:aP_ s (i:Int) ((i+1:Nat):Int)=some [s[i]]:=by
    rw[ax_ (by omega) (by omega) (by omega)]
    congr 1
    rw[show((i:Nat):Int).toNat=i from rfl,show((i+1:Nat):Int).toNat=i+1 from rfl,jC,show i+1-i=1 by omega,qi j];rfl
   have G:=qi j
   -- one byte stands for itself
   have self:∀(v:tX) (t:tX),(de_ m text caps (s.drop i)=v++de_ m text caps (s.drop (i+1)))->[s[i]]=v->(Option.bind (
     (ap_ s (i:Int)).bind λy5 =>
     (bif(y5==36)then
      (eh_ s (i:Int) m (Yw.mk text caps)).bind λy =>
      some (y.1,y.2)
     else
      some ([],0))
     ) λ(U:tX×Int)=>some U)=some (t,0)->af_ (da_ s m (Yw.mk text caps)) (f+1) (acc,(i:Int))=some (acc++de_ m text caps (s.drop i)):=by
    intro v t u hv h0;rw[i7_]at h0;subst hv;rw[u,qLa]at J;simp only[qLc,qQ]at J;refine an_ (s':=(acc++[s[i]],((i+1:Nat):Int))) ?_ ?_
    .unfold da_;simp only[];rw[qK (by omega),qW,h0];simp only[qBs];rw[zV,qW,hw,D];simp only[qBs];rw[bq_ (by simp only[qLc,qQ];omega),hw];rfl
    .rw[ih (i+1) (acc++[s[i]]) f (by omega) (by omega) (by omega) (by simp only[qLa,qLc,qQ];omega),u,qS]
   have Z:((s[i].toNat:Int)==36)=(s[i]==36):=aV_ _ 36;by_cases h:s[i]=36
   .have C:=variable_eq (m:=m) hc hs j;have u:de_ m text caps (s.drop i)=(ce_ m text caps (s.drop (i+1))).1++de_ m text caps ((s.drop (i+1)).drop (ce_ m text caps (s.drop (i+1))).2):=by
     rw[G,h,mI_]
    have M:(Option.bind (
     (ap_ s (i:Int)).bind λy5 =>
     (bif(y5==36)then
      (eh_ s (i:Int) m (Yw.mk text caps)).bind λy =>
      some (y.1,y.2)
     else
      some ([],0))
     ) λ(U:tX×Int)=>some U)=some ((rvarS m text caps (s.drop (i+1))).1,((rvarS m text caps (s.drop (i+1))).2:Int)):=by
     rw[aJ_ j];simp only[qBs];rw[Z,qn.2 h,qW,C];rfl
    -- either nothing is named ZZ, or both take the same
    have x:((rvarS m text caps (s.drop (i+1))).2=0/\ce_ m text caps (s.drop (i+1))=([36],0))\/((rvarS m text caps (s.drop (i+1)))=((ce_ m text caps (s.drop (i+1))).1,(ce_ m text caps (s.drop (i+1))).2+1)/\(ce_ m text caps (s.drop (i+1))).2<=s.length-(i+1)):=by
     generalize hr:s.drop (i+1)=r;have V:r.length=s.length-(i+1):=by rw[←hr,qC]
     unfold rvarS ce_;cases r with
     | nil=>exact .inl ⟨rfl,rfl⟩
     | cons d r =>
      simp only[];simp only[qLc]at V;by_cases O:d=36
      .rw[qL O,qL O];exact .inr ⟨rfl,by show 1<=_;omega⟩
      .rw [qP O,qP O];cases ZX:digB d with
       | true=>exact .inr ⟨rfl,by show 1<=_;omega⟩
       | false =>
        simp only[qM,zY];cases p:fY_ m (d::r)with
        | none=>exact .inl ⟨rfl,rfl⟩
        | some q =>
         refine .inr ⟨rfl,?_⟩;unfold fY_ at p;cases F:names5.find? (d3_ (d::r))with
         | none=>rw[F]at p;cases p
         | some o =>
          rw[F]at p;have h2:=jb F;have p:=qSj p;subst p;unfold d3_ at h2;have h4:=qa List.length (qn.1 h2);rw[qA,qLc]at h4;show o.length<=_;omega
    rcases x with⟨Y,c2⟩|⟨Y,c2⟩
    .rw[Y]at M;rw[c2]at u;exact self [36] _ u (by rw[h]) M
    .rw[i7_]at M;rw[Y]at M;rw[u,qLa]at J;refine an_ (s':=(acc++(ce_ m text caps (s.drop (i+1))).1,((i+1+(ce_ m text caps (s.drop (i+1))).2:Nat):Int))) ?_ ?_
     .unfold da_;simp only[];rw[qK (by omega),qW,M];simp only[qBs];rw[qX.2 (by omega),qZ];simp only[qBs];rw[bq_ (by omega)];simp only[qBs];rw[ar_ ⟨by omega,by omega⟩,show(i:Int)+(((ce_ m text caps (s.drop (i+1))).2+1:Nat):Int)=((i+1+(ce_ m text caps (s.drop (i+1))).2:Nat):Int)by omega]
     .rw[ih (i+1+(ce_ m text caps (s.drop (i+1))).2) _ f (by omega) (by omega) (by omega) (by rw[zz]at J;rw[qLa];omega),u,qS,zz]
   .have u:de_ m text caps (s.drop i)=[s[i]]++de_ m text caps (s.drop (i+1)):=by
     rw[G,oe_ m text caps h];rfl
    refine self [s[i]] [] u rfl ?_;rw[aJ_ j];simp only[qBs];rw[Z,qX.2 h];rfl
  .rw[zi (by omega),lL_,zP];refine aj_ ?_;unfold da_;simp only[];rw[qV (by omega)];rfl
theorem refExpand_eq{m:Xq}{text:tX}{caps:tL Int}{s:tX}{M:Nat}(p:CapsR text caps)(q:FieldB M m text)(u:s.length*M<=1000000000)(f:s.length<=100000000):fp_ s m (Yw.mk text caps)=some (de_ m text caps s):=by
 have j:=of_ (caps:=caps) q s.length s (qE _);have h:=refExpand_go (m:=m) p f s.length 0 [] BIG (by omega) (by unfold BIG;omega) (qO _) (by simp only[qQ,zO];omega);rw[zy,zO]at h;unfold fp_;exact al_ h rfl
noncomputable def blk(f:tX)(setf:tX->Xq)(st:plumb_state)(p:Xf)(arg:tX):tO (tV×plumb_state) :=
 (bif(p.Xs==[105,115])then
  some ((f==arg),st)
 else
  (bif(p.Xs==[105,115,110])then
   some ((!(f==arg)),st)
  else
   (bif(p.Xs==[115,101,116])then
    some (true,{st with m_:=(setf arg)})
   else
    (bu_ p.Yq).bind λj =>
    (bif(j.2.2 != 0)then
     some (false,st)
    else
     (c2_ j.1 f).bind λy4 =>
     Option.bind (
      (bif y4.2 then
       some (st.m_.Xu,st.m_.Xe,st.m_.Yz,st.m_.Xt,st.m_.Xm,st.m_.Xl,f,y4.1,st.port_)
      else
       some (st.m_.Xu,st.m_.Xe,st.m_.Yz,st.m_.Xt,st.m_.Xm,st.m_.Xl,st.text_,st.caps_,st.port_))
      ) λ(h:tX×tX×tX×tX×(tL Xx)×tX×tX×(tL Int)×tX) =>
     some (y4.2,(plumb_state.mk (Xq.mk h.1 h.2.1 h.2.2.1 h.2.2.2.1 h.2.2.2.2.1 h.2.2.2.2.2.1) h.2.2.2.2.2.2.1 h.2.2.2.2.2.2.2.1 h.2.2.2.2.2.2.2.2))))))
def setS(m:Xq)(o v:tX):Xq:=if(o==[115,114,99])=true then Xq.mk v m.Xe m.Yz m.Xt m.Xm m.Xl else if(o==[100,115,116])=true then Xq.mk m.Xu v m.Yz m.Xt m.Xm m.Xl else if(o==[119,100,105,114])=true then Xq.mk m.Xu m.Xe v m.Xt m.Xm m.Xl else if(o==[116,121,112,101])=true then Xq.mk m.Xu m.Xe m.Yz v m.Xm m.Xl else Xq.mk m.Xu m.Xe m.Yz m.Xt m.Xm v
def la_(p:Xf)(arg:tX):tV:=(!(p.Xs==[109,97,116,99,104,101,115]))&&decide ((arg.length:Int)>65536)
theorem late_len{p:Xf}{arg:tX}(h:la_ p arg=false)(f:(p.Xs==[109,97,116,99,104,101,115])=false):arg.length<=65536:=by
 unfold la_ at h;rw[f,qf,qm]at h;have:=jq h;omega
theorem qc_{o:tX}(h:b8_ o=true):o=[115,114,99]\/o=[100,115,116]\/o=[119,100,105,114]\/o=[116,121,112,101]\/o=[100,97,116,97]:=by
 unfold b8_ at h;simp only[zh,qn]at h;rcases h with(((h|h)|h)|h)|h<;>simp[h]
theorem line_field(st:plumb_state){p:Xf}(h:b8_ p.Xp=true):b3_ st p=(bY_ st p.Yq).bind λy1=>bif la_ p y1.1 then some (false,y1.2)else blk (fX_ y1.2.m_ p.Xp) (setS y1.2.m_ p.Xp) y1.2 p y1.1:=by
 obtain⟨o,v,a⟩:=p;have h:b8_ o=true:=h;rcases qc_ h with h|h|h|h|h<;>subst h<;>rfl
theorem line_plumb(st:plumb_state){p:Xf}(h:bs_ p.Xp=true):b3_ st p=(bY_ st p.Yq).bind λy1=>bif la_ p y1.1 then some (false,y1.2)else some (true,plumb_state.mk y1.2.m_ y1.2.text_ y1.2.caps_ y1.1):=by
 obtain⟨o,v,a⟩:=p;have h:(o==[112,108,117,109,98])=true:=h;rw[qn]at h;subst h;rfl
theorem line_attr(st:plumb_state){p:Xf}(h:dz_ p.Xp=true):b3_ st p=(bY_ st p.Yq).bind λy1=>bif la_ p y1.1 then some (false,y1.2)else(dS_ y1.2 p.Xs y1.1).bind λf=>some (f.1,f.2):=by
 obtain⟨o,v,a⟩:=p;have h:(o==[97,116,116,114])=true:=h;rw[qn]at h;subst h;rfl
noncomputable def rline(p:Xf)(port:tX)(m:Xq)(S:tX)(At:tL Int)(arg:tX):tO (tX×tV×Xq×tX×(tL Int)) :=
 (bif((!(p.Xs==[109,97,116,99,104,101,115]))&&decide ((arg.length:Int)>65536))then
  some (port,false,m,S,At)
 else
  (bif(p.Xp==[112,108,117,109,98])then
   some (arg,true,m,S,At)
  else
   (bif(p.Xp==[97,116,116,114])then
    (hC_ m p.Xs arg).bind λj =>
    some (port,j.2,j.1,S,At)
   else
    (bif(p.Xs==[115,101,116])then
     (ke_ m p.Xp arg).bind λu =>
     some (port,true,u,S,At)
    else
     (bif(p.Xs==[109,97,116,99,104,101,115])then
      (b7_ p.Yq).bind λs =>
      (cC_ m p.Xp).bind λh =>
      (e2_ s.1 h).bind λf =>
      (bif f.2 then
       some (port,f.2,m,h,f.1)
      else
       some (port,f.2,m,S,At))
     else
      (cC_ m p.Xp).bind λq =>
      some (port,((q==arg)==(p.Xs==[105,115])),m,S,At))))))
theorem refLine_eq{r:Xw}{port:tX}{i:Nat}{m:Xq}{S:tX}{At:tL Int}{p:Xf}(f:r.Xb[i]? = some p)(hr:r.Xb.length<=1000){arg:tX}(q:fp_ p.Yq m (Yw.mk S At)=some arg):dl_ r (port,(i:Int),m,S,At)=(rline p port m S At arg).bind λo2=>(bif(!o2.2.1)then some (.done (.ret ((Xq.mk [] [] [] [] [] []),[],false)))else some (.next (o2.1,((i+1:Nat):Int),o2.2.2.1,o2.2.2.2.1,o2.2.2.2.2))):=by
 have j:i<r.Xb.length:=by
  rcases qR i r.Xb.length with h|h
  .exact h
  .rw[qe h]at f;cases f
 unfold dl_;simp only[];rw[aB_ j,qW,aX_,f];simp only[qBs];rw[q,ai_ (by omega)];rfl
structure StI(k:Nat)(m:Xq)(text:tX)(caps:tL Int):Prop where (f:FieldB 70000 m text) (a:AttrB (40+32*k) m.Xm) (c:CapsR text caps) (l:caps.length<=20)
theorem set_field{k:Nat}{m:Xq}{text:tX}{caps:tL Int}(h:StI k m text caps){o v:tX}(p:v.length<=70000):StI k (setS m o v) text caps:=by
 have j:=h.f;unfold setS;split
 .exact⟨⟨p,j.dst,j.dir,j.typ,j.dat,j.txt,j.one⟩,h.a,h.c,h.l⟩
 .split
  .exact⟨⟨j.src,p,j.dir,j.typ,j.dat,j.txt,j.one⟩,h.a,h.c,h.l⟩
  .split
   .exact⟨⟨j.src,j.dst,p,j.typ,j.dat,j.txt,j.one⟩,h.a,h.c,h.l⟩
   .split
    .exact⟨⟨j.src,j.dst,j.dir,p,j.dat,j.txt,j.one⟩,h.a,h.c,h.l⟩
    .exact⟨⟨j.src,j.dst,j.dir,j.typ,p,j.txt,j.one⟩,h.a,h.c,h.l⟩
theorem StI.up{k:Nat}{m:Xq}{text:tX}{caps:tL Int}(h:StI k m text caps):StI (k+1) m text caps:=⟨h.f,h.a.mono (by omega),h.c,h.l⟩
theorem refSetF_eq(m:Xq)(v:tX){o:tX}(h:b8_ o=true):ke_ m o v=some (setS m o v):=by
 rcases qc_ h with h|h|h|h|h<;>subst h<;>rfl
def LineOK(k:Nat)(A:tO (tV×plumb_state))(B:tO (tX×tV×Xq×tX×(tL Int))):Prop:=∃ok m text caps port,(∃q,A=some (ok,q)/\(ok=true->q=plumb_state.mk m text caps port))/\(∃o2,B=some o2/\o2.2.1=ok/\(ok=true->o2=(port,true,m,text,caps)))/\(ok=true->StI k m text caps)
theorem sound_field{p:Xf}(h:aF_ p=true)(q:b8_ p.Xp=true):(p.Xs=[105,115]\/p.Xs=[105,115,110]\/p.Xs=[115,101,116])\/(p.Xs=[109,97,116,99,104,101,115]/\kn_ p.Yq=true):=by
 unfold aF_ at h;rw[q]at h;unfold j0_ iE_ at h;simp only[qW,qAn,zh,qn,qo,qX]at h;obtain⟨f,_,_,_,j⟩:=h;rcases f with f|f|f|f
 .exact .inl (.inl f)
 .exact .inl (.inr (.inl f))
 .refine .inr ⟨f,?_⟩;rcases j with j|j
  .exact absurd f j
  .exact j
 .exact .inl (.inr (.inr f))
theorem line_both{k:Nat}(hk:k<=32){m:Xq}{text:tX}{caps:tL Int}{port:tX}{p:Xf}(D:aF_ p=true)(u:StI k m text caps):∃arg,fp_ p.Yq m (Yw.mk text caps)=some arg/\LineOK (k+1) (b3_ (plumb_state.mk m text caps port) p) (rline p port m text caps arg):=by
 obtain⟨l1,l2,l3,l4,l5,l6,l7,l8,l9⟩:=k8_ D;have M:=expand_eq (port:=port) (s:=p.Yq) u.c u.f (by omega) (by omega);have ZU:=refExpand_eq (s:=p.Yq) u.c u.f (by omega) (by omega);refine⟨de_ m text caps p.Yq,ZU,?_⟩;generalize hA:de_ m text caps p.Yq=arg at *
 have late:la_ p arg=true->LineOK (k+1) (some (false,plumb_state.mk m text caps port)) (rline p port m text caps arg):=by
  intro x;refine⟨false,m,text,caps,port,⟨_,rfl,λe=>by cases e⟩,⟨(port,false,m,text,caps),?_,rfl,λe=>by cases e⟩,λe=>by cases e⟩;unfold rline;exact ki_ x rfl
 have ZZ:b8_ p.Xp=true\/dz_ p.Xp=true\/bs_ p.Xp=true:=by
  unfold aF_ j0_ at D;cases F:b8_ p.Xp with
  | true=>exact .inl rfl
  | false =>
   cases G:dz_ p.Xp with
   | true=>exact .inr (.inl rfl)
   | false =>
    cases hp:bs_ p.Xp with
    | true=>exact .inr (.inr rfl)
    | false=>rw[F,G,hp]at D;cases D
 rcases ZZ with F|G|hp
 .rw [line_field _ F,M];simp only[qBs];cases x:la_ p arg with
  | true=>exact late x
  | false =>
   simp only[qZ];obtain⟨_,y,_⟩:=ko_ p.Xp;have ZR:=(ko_ p.Xp).1 F;have y:=y F;have er:rline p port m text caps arg=(bif(p.Xs==[115,101,116])then
     (ke_ m p.Xp arg).bind λZV =>
     some (port,true,ZV,text,caps)
    else
     (bif(p.Xs==[109,97,116,99,104,101,115])then
      (b7_ p.Yq).bind λZW =>
      (cC_ m p.Xp).bind λY =>
      (e2_ ZW.1 Y).bind λC =>
      (bif C.2 then
       some (port,C.2,m,Y,C.1)
      else
       some (port,C.2,m,text,caps))
     else
      (cC_ m p.Xp).bind λZX =>
      some (port,((ZX==arg)==(p.Xs==[105,115])),m,text,caps))):=by
    unfold rline;exact er_ x (er_ y (er_ ZR rfl))
   rw[er];unfold blk;have Z:=value_len u.f p.Xp;generalize hV:fX_ m p.Xp=V at *
   have J:cC_ m p.Xp=some V:=by rw[value_eq,hV]
   rcases sound_field D F with(h|h|h)|⟨h,j⟩
   .rw[h];refine⟨(V==arg),m,text,caps,port,⟨_,rfl,λ_=>rfl⟩,⟨(port,(V==arg),m,text,caps),?_,rfl,λe=>by rw[e]⟩,λ_=>u.up⟩;rw[J];show some (port,((V==arg)==true),m,text,caps)=_;cases V==arg<;>rfl
   .rw[h];refine⟨!(V==arg),m,text,caps,port,⟨_,rfl,λ_=>rfl⟩,⟨(port,!(V==arg),m,text,caps),?_,rfl,λe=>by rw[e]⟩,λ_=>u.up⟩;rw[J];show some (port,((V==arg)==false),m,text,caps)=_;cases V==arg<;>rfl
   .have O:arg.length<=70000:=by
     have:=late_len x (by rw[h];rfl);omega
    rw[h,refSetF_eq m arg F];exact⟨true,setS m p.Xp arg,text,caps,port,⟨_,rfl,λ_=>rfl⟩,⟨_,rfl,rfl,λ_=>rfl⟩,λ_=>(set_field u O).up⟩
   .rw [h];have ZQ:∃a g q,RP p.Yq .rx 0 0 0 (.ok a q g)/\p.Yq.length<=256/\bu_ p.Yq=some (prog a g,0,0)/\b7_ p.Yq=some (prog a g,0,0):=by
     rcases pj_ p.Yq with⟨_,U,h2⟩|⟨h0,r,hr,U,h2⟩
     .unfold kn_ at j;rw[U]at j;exact absurd j (by decide)
     .cases r with
      | err e =>
       unfold kn_ at j;rw[U]at j;exact absurd j (by show ¬((49:Int)==0)=true;decide)
      | ok a q g=>exact⟨a,g,q,hr,h0,U,h2⟩
    obtain⟨a,g,q,hr,ZY,ZO,ZP⟩:=ZQ;obtain⟨Lb,hP,_⟩:=prog_ok ZY hr;obtain⟨c,ok,w1,w2,w3,w4⟩:=whole_both hP (s:=V) (by omega);have w1:c2_ (prog a g) V=some (c,ok):=w1;have w2:e2_ (prog a g) V=some (c,ok):=w2;rw[ZO,ZP,J];cases ok with
    | true =>
     refine⟨true,m,V,c,port,⟨plumb_state.mk m V c port,?_,λ_=>rfl⟩,⟨(port,true,m,V,c),?_,rfl,λ_=>rfl⟩,λ_=>⟨⟨u.f.src,u.f.dst,u.f.dir,u.f.typ,u.f.dat,Z,u.f.one⟩,u.a.mono (by omega),w3,w4⟩⟩
     .rw[show(([109,97,116,99,104,101,115]:tX)==[105,115])=false from rfl,show(([109,97,116,99,104,101,115]:tX)==[105,115,110])=false from rfl,show(([109,97,116,99,104,101,115]:tX)==[115,101,116])=false from rfl,qZ,qZ,qZ];exact al_ rfl (er_ rfl (al_ w1 rfl))
     .refine er_ rfl (ki_ rfl ?_);simp only[qBs];rw[w2];rfl
    | false =>
     refine⟨false,m,text,caps,port,⟨plumb_state.mk m text caps port,?_,λe=>by cases e⟩,⟨(port,false,m,text,caps),?_,rfl,λe=>by cases e⟩,λe=>by cases e⟩
     .rw[show(([109,97,116,99,104,101,115]:tX)==[105,115])=false from rfl,show(([109,97,116,99,104,101,115]:tX)==[105,115,110])=false from rfl,show(([109,97,116,99,104,101,115]:tX)==[115,101,116])=false from rfl,qZ,qZ,qZ];exact al_ rfl (er_ rfl (al_ w1 rfl))
     .refine er_ rfl (ki_ rfl ?_);simp only[qBs];rw[w2];rfl
 .rw[line_attr _ G,M];simp only[qBs];cases x:la_ p arg with
  | true=>exact late x
  | false =>
   simp only[qZ];have ZS:b8_ p.Xp=false:=by
    cases F:b8_ p.Xp with
    | false=>rfl
    | true=>rw[(ko_ p.Xp).1 F]at G;cases G
   have y:=(ko_ p.Xp).2.2 G;have ZT:(p.Xs==[109,97,116,99,104,101,115])=false:=by
    unfold aF_ j0_ at D;rw[ZS,G]at D;simp only[qZ,qW,qAn,zh,qn]at D;rcases D.1 with h|h|h|h<;>rw[h]<;>rfl
   have O:arg.length<=100000:=by
    have:=late_len x ZT;omega
   obtain⟨ok,A,U,⟨m2,h2,h3⟩,h4⟩:=attrs_both (m:=m) (text:=text) (caps:=caps) (port:=port) (verb:=p.Xs) (arg:=arg) (k:=40+32*k) (by omega) u.a O;rw[U];refine⟨ok,j4_ m A,text,caps,port,⟨_,rfl,λ_=>rfl⟩,⟨(port,ok,m2,text,caps),?_,rfl,λe => ?_⟩,λ_=>⟨⟨u.f.src,u.f.dst,u.f.dir,u.f.typ,u.f.dat,u.f.txt,u.f.one⟩,h4.mono (by omega),u.c,u.l⟩⟩
   .unfold rline;refine er_ x (er_ y (ki_ G ?_));rw[h2];rfl
   .rw[h3 e,e]
 .rw[line_plumb _ hp,M];simp only[qBs];cases x:la_ p arg with
  | true=>exact late x
  | false =>
   refine⟨true,m,text,caps,arg,⟨_,rfl,λ_=>rfl⟩,⟨(arg,true,m,text,caps),?_,rfl,λ_=>rfl⟩,λ_=>u.up⟩;unfold rline;exact er_ x (ki_ hp rfl)
def zeroM:Xq:=Xq.mk [] [] [] [] [] []
abbrev PA:=Int×tX×tX×tX×tX×(tL Xx)×tX×tX×(tL Int)×tX
def pst(i:Nat)(m:Xq)(text:tX)(caps:tL Int)(port:tX):PA:=((i:Int),m.Xu,m.Xe,m.Yz,m.Xt,m.Xm,m.Xl,text,caps,port)
theorem lineStep{r:Xw}{i:Nat}{m:Xq}{text:tX}{caps:tL Int}{port:tX}{p:Xf}(f:r.Xb[i]? = some p)(hr:r.Xb.length<=1000){ok:tV}{q:plumb_state}(h:b3_ (plumb_state.mk m text caps port) p=some (ok,q)):dk_ r (pst i m text caps port)=some (bif !ok then .done (.ret (zeroM,[],false))else .next (((i+1:Nat):Int),q.m_.Xu,q.m_.Xe,q.m_.Yz,q.m_.Xt,q.m_.Xm,q.m_.Xl,q.text_,q.caps_,q.port_)):=by
 have j:i<r.Xb.length:=by
  rcases qR i r.Xb.length with h|h
  .exact h
  .rw[qe h]at f;cases f
 unfold dk_ pst;simp only[];rw[aB_ j,qW,aX_,f];simp only[qBs];have h:b3_ (plumb_state.mk (Xq.mk m.Xu m.Xe m.Yz m.Xt m.Xm m.Xl) text caps port) p=some (ok,q):=h;rw[h,ai_ (by omega)];cases ok<;>rfl
theorem apply_go{r:Xw}(V:bG_ r=true):∀(n i f1 f2:Nat) (m:Xq) (text:tX) (caps:tL Int) (port:tX),r.Xb.length-i<=n->n<f1->n<f2->i<=r.Xb.length->StI i m text caps ->
  (af_ (dk_ r) f1 (pst i m text caps port)=some (.ret (zeroM,[],false))/\af_ (dl_ r) f2 (port,(i:Int),m,text,caps)=some (.ret (zeroM,[],false))) \/
  ∃k s text' caps' port',k<=32/\af_ (dk_ r) f1 (pst i m text caps port)=some (.fall (plumb_state.mk s text' caps' port'))/\af_ (dl_ r) f2 (port,(i:Int),m,text,caps)=some (.fall (port',s))/\StI k s text' caps':=by
 have p:=(ec_ r).1 V;have j:∀(f1 f2:Nat) (m:Xq) (text:tX) (caps:tL Int) (port:tX),af_ (dk_ r) (f1+1) (pst r.Xb.length m text caps port)=some (.fall (plumb_state.mk m text caps port))/\af_ (dl_ r) (f2+1) (port,(r.Xb.length:Int),m,text,caps)=some (.fall (port,m)):=by
  intro f1 f2 m text caps port;refine⟨aj_ ?_,aj_ ?_⟩
  .unfold dk_ pst;simp only[];rw[aM_];rfl
  .unfold dl_;simp only[];rw[aM_];rfl
 intro n
 induction n with
 | zero =>
  intro i f1 f2 m text caps port Z G F hi u;obtain⟨f1,rfl⟩:∃g,f1=g+1:=⟨f1-1,by omega⟩;obtain⟨f2,rfl⟩:∃g,f2=g+1:=⟨f2-1,by omega⟩;have:i=r.Xb.length:=by omega
  subst this;exact .inr ⟨_,m,text,caps,port,p.2.1,(j f1 f2 m text caps port).1,(j f1 f2 m text caps port).2,u⟩
 | succ n U =>
  intro i f1 f2 m text caps port Z G F hi u;obtain⟨f1,rfl⟩:∃g,f1=g+1:=⟨f1-1,by omega⟩;obtain⟨f2,rfl⟩:∃g,f2=g+1:=⟨f2-1,by omega⟩;rcases qR i r.Xb.length with D|ZZ
  .have C:=qY D;have Y:=(p.2.2 i _ C).1;obtain⟨arg,he,ok,J,text2,caps2,port2,⟨q,h1,h2⟩,⟨o2,h3,h4,h5⟩,h6⟩:=line_both (port:=port) (by omega) Y u;have h:=lineStep C (by omega) h1;have f:=refLine_eq C (by omega) (port:=port) he;rw[h3]at f;simp only[qBs]at f;rw[h4]at f;cases ok with
   | false=>exact .inl ⟨aj_ h,aj_ f⟩
   | true =>
    rw[h2 rfl]at h;rw[h5 rfl]at f;rcases U (i+1) f1 f2 J text2 caps2 port2 (by omega) (by omega) (by omega) (by omega) (h6 rfl)with⟨y,x⟩|⟨k,s,text',caps',port',O,y,x,M⟩
    .exact .inl ⟨an_ h y,an_ f x⟩
    .exact .inr ⟨k,s,text',caps',port',O,an_ h y,an_ f x,M⟩
  .have:i=r.Xb.length:=by omega
   subst this;exact .inr ⟨_,m,text,caps,port,p.2.1,(j f1 f2 m text caps port).1,(j f1 f2 m text caps port).2,u⟩
theorem apply_both(r:Xw){m:Xq}(h:AttrL m.Xm):∃v,f2_ r m=some v/\hD_ r m=some v/\(v.2.2=true->c1_ v.1=some 0)/\AttrL v.1.Xm:=by
 have y:AttrL zeroM.Xm:=⟨qO _,λa p=>(nomatch p),λa p=>(nomatch p)⟩;unfold f2_ hD_;rw[valid_eq,p9_];simp only[qBs];cases F:bG_ r with
 | false=>exact⟨(zeroM,[],false),rfl,rfl,λe=>(by cases e),y⟩
 | true =>
  simp only[qN,qZ];rw[fW_ h,fF_ h];simp only[qBs];by_cases G:bf_ m=0
  .rw [G,qy,qZ];obtain⟨C,Y,c3,c4⟩:=f5_ G;have f:=iy_ Y;have ec:aN_ m.Xm=some m.Xm:=az_ (by have:=f.len;simp only[qQ];omega) (by have:=f.len;simp only[qQ];omega);rw[ec];simp only[qBs];have V:StI 0 m [] []:=by
    refine⟨⟨?_,?_,?_,?_,by omega,qO _,by omega⟩,⟨by have:=f.len;omega,λa p=>⟨?_,?_⟩⟩,λk u v U=>(by cases U),qO _⟩
    .have:=(C m.Xu (by simp)).1;omega
    .have:=(C m.Xe (by simp)).1;omega
    .have:=(C m.Yz (by simp)).1;omega
    .have:=(C m.Xt (by simp)).1;omega
    .have:=mg_ (f.nm a p);omega
    .have:=f.vl a p;omega
   rcases apply_go F r.Xb.length 0 BIG BIG m [] [] [] (by omega) (by have:=((ec_ r).1 F).2.1;unfold BIG;omega) (by have:=((ec_ r).1 F).2.1;unfold BIG;omega) (qO _) V with⟨x,s⟩|⟨k,q,text',caps',port',Z,x,s,O⟩
   .refine⟨(zeroM,[],false),?_,?_,λe=>(by cases e),y⟩
    .exact al_ x rfl
    .exact al_ s rfl
   .have J:=O.a.attrL (by omega);have hn:=O.a.n;have D:=fW_ J;have M:=fF_ J;cases j:(bf_ q != 0)with
    | true =>
     refine⟨(zeroM,[],false),?_,?_,λe=>(by cases e),y⟩
     .refine al_ x ?_;simp only[];rw[D];simp only[qBs];rw[j];rfl
     .refine al_ s ?_;simp only[];rw[M];simp only[qBs];rw[j];rfl
    | false =>
     refine⟨(q,port',true),?_,?_,λ_ => ?_,J⟩
     .refine al_ x ?_;simp only[];rw[D];simp only[qBs];rw[j];rfl
     .refine al_ s ?_;simp only[];rw[M];simp only[qBs];rw[j];rfl
     .show c1_ q=some 0;rw[D];have:bf_ q=0:=by simpa using j
      rw[this]
  .rw[zt.2 G,qW];exact⟨(zeroM,[],false),rfl,rfl,λe=>(by cases e),y⟩
noncomputable def bZ_(r:Xw)(m:Xq):Xq×tX×tV:=(f2_ r m).getD (zeroM,[],false)
theorem mn_(r:Xw){m:Xq}(h:AttrL m.Xm):f2_ r m=some (bZ_ r m)/\hD_ r m=some (bZ_ r m)/\((bZ_ r m).2.2=true->c1_ (bZ_ r m).1=some 0)/\AttrL (bZ_ r m).1.Xm:=by
 obtain⟨v,f,q,p,j⟩:=apply_both r h;have e:bZ_ r m=v:=by unfold bZ_;rw[f];rfl
 rw[e];exact⟨f,q,p,j⟩
noncomputable def cu_(l:tL Xw)(m:Xq):Xq×tX×tV:=((l.find? λr=>(bZ_ r m).2.2).map λr=>((bZ_ r m).1,(bZ_ r m).2.1,true)).getD (zeroM,[],false)
theorem route_eq{l:tL Xw}{m:Xq}(f:l.length<=9223372036854775807)(h:AttrL m.Xm):d9_ l m=some (cu_ l m):=by
 unfold d9_;have j:=bw_ (body:=gS_ l m) l (λ_ r=>if(bZ_ r m).2.2=true then some ((bZ_ r m).1,(bZ_ r m).2.1,true)else none) (au_ f) (λi hi=>by
  unfold gS_;rw[aB_ hi,qW,aq_ hi];simp only[qBs];rw[(mn_ l[i] h).1,ai_ (by omega)];simp only[qBs];cases(bZ_ l[i] m).2.2<;>rfl) (by
  unfold gS_;rw[aM_];rfl)
 refine(bD_ (x:=(zeroM,[],false)) j (λr=>rfl) rfl).trans ?_;rw[gy_ (λr=>(bZ_ r m).2.2) (λr=>((bZ_ r m).1,(bZ_ r m).2.1,true))];rfl
theorem refRoute_eq{l:tL Xw}{m:Xq}(f:l.length<=9223372036854775807)(h:AttrL m.Xm):jV_ l m=some (cu_ l m):=by
 unfold jV_;have j:=bw_ (body:=hb_ l m) l (λ_ r=>if(bZ_ r m).2.2=true then some ((bZ_ r m).1,(bZ_ r m).2.1,true)else none) (au_ f) (λi hi=>by
  unfold hb_;rw[aB_ hi,qW,aq_ hi];simp only[qBs];rw[(mn_ l[i] h).2.1,ai_ (by omega)];simp only[qBs];cases(bZ_ l[i] m).2.2<;>rfl) (by
  unfold hb_;rw[aM_];rfl)
 refine(bD_ (x:=(zeroM,[],false)) j (λr=>rfl) rfl).trans ?_;rw[gy_ (λr=>(bZ_ r m).2.2) (λr=>((bZ_ r m).1,(bZ_ r m).2.1,true))];rfl
theorem routeV_attr{l:tL Xw}{m:Xq}(h:AttrL m.Xm):AttrL (cu_ l m).1.Xm:=by
 unfold cu_;cases l.find? (λr=>(bZ_ r m).2.2)with
 | none=>exact⟨qO _,λa f=>(nomatch f),λa f=>(nomatch f)⟩
 | some r=>exact(mn_ r h).2.2.2
theorem routeV_ok{l:tL Xw}{m:Xq}(h:AttrL m.Xm)(j:(cu_ l m).2.2=true):bf_ (cu_ l m).1=0:=by
 unfold cu_ at *
 cases f:l.find? (λr=>(bZ_ r m).2.2)with
 | none=>rw[f]at j;cases j
 | some r =>
  have q:=mn_ r h;have p:=q.2.2.1 (by simpa using jb f);rw[fW_ q.2.2.2]at p;exact qSj p
theorem loop_ex{σ β:Type}{body:σ->tO (Step σ β)}(I:Nat->σ->Prop)(Q:β->Prop)(n:Nat)
  (q:∀i s,i<n->I i s->(∃s',body s=some (.next s')/\I (i+1) s')\/∃b,body s=some (.done b)/\Q b)
  (u:∀s,I n s->∃b,body s=some (.done b)/\Q b):∀(f i:Nat) (s:σ),n-i<f->i<=n->I i s->∃b,af_ body f s=some b/\Q b
 | 0,_,_,h,_,_=>absurd h (Nat.not_lt_zero _)
 | f+1,i,s,D,hi,x=>by
  rcases qR i n with h|h
  .rcases q i s h x with⟨s',e,p⟩|⟨b,e,j⟩
   .obtain⟨b,C,j⟩:=loop_ex I Q n q u f (i+1) s' (by omega) h p;exact⟨b,an_ e C,j⟩
   .exact⟨b,aj_ e,j⟩
  .have y:i=n:=Nat.le_antisymm hi h;subst y;obtain⟨b,e,j⟩:=u s x;exact⟨b,aj_ e,j⟩
theorem lM_{σ β:Type}{body:σ->tO (Step σ β)}(I:Nat->σ->Prop)(Q:β->Prop)(n:Nat)(p:n<BIG)
  (f:∀i s,i<n->I i s->(∃s',body s=some (.next s')/\I (i+1) s')\/∃b,body s=some (.done b)/\Q b)
  (j:∀s,I n s->∃b,body s=some (.done b)/\Q b) {s:σ} (h:I 0 s):∃b,af_ body BIG s=some b/\Q b :=
 loop_ex I Q n f j BIG 0 s (by omega) (qO _) h
structure PortL(x:Xy):Prop where
 nm:x.Xg.length<=9223372036854775807
 q:x.Xn.length<=9223372036854775807
 ms:∀m∈x.Xn,AttrL m.Xm/\m.Xl.length<=9223372036854775807
structure PlL(p:Xk):Prop where
 rules:p.Xd.length<=9223372036854775807
 lines:∀r∈p.Xd,r.Xb.length<=9223372036854775807
 ports:p.Xj.length<=9223372036854775807
 port:∀x∈p.Xj,PortL x
structure ShortM(m:Xq):Prop where (attrs:m.Xm.length<=40) (data:m.Xl.length<=70000)
theorem short_ex{m:Xq}(h:AttrL m.Xm):∃b,ht_ m=some b/\(b=true->ShortM m):=by
 unfold ht_;cases j:((((decide ((m.Xu.length:Int)>1100)||decide ((m.Xe.length:Int)>1100))||decide ((m.Yz.length:Int)>1100))||decide ((m.Xt.length:Int)>1100))||decide ((m.Xm.length:Int)>40))||(decide ((m.Xl.length:Int)>70000))with
 | true=>exact⟨false,rfl,λe=>nomatch e⟩
 | false =>
  simp only[zS,qDf]at j;obtain⟨b,p,-⟩:=lM_ (body:=gW_ m) (λi s=>s=(i:Int)) (λ_=>True) m.Xm.length (au_ h.len) (λi s hi f=>by
   subst f;unfold gW_;rw[aB_ hi,qW,aq_ hi];simp only[qBs];cases decide ((m.Xm[i].Xg.length:Int)>1100)with
   | true=>exact .inr ⟨_,rfl,trivial⟩
   | false =>
    simp only[qZ,qBs];cases decide ((m.Xm[i].Xr.length:Int)>1100)with
    | true=>exact .inr ⟨_,rfl,trivial⟩
    | false=>exact .inl ⟨_,rfl,ai_ (by have:=h.len;omega)⟩) (λs f=>by
   subst f;unfold gW_;rw[aM_];exact⟨_,rfl,trivial⟩) rfl
  have f:ShortM m:=⟨by omega,by omega⟩;simp only[qZ];rw[show(0:Int)=((0:Nat):Int)from rfl,p];cases b with
  | ret r=>exact⟨r,rfl,λ_=>f⟩
  | fall _=>exact⟨true,rfl,λ_=>f⟩
structure SmallP(p:Xk):Prop where
 ports:p.Xj.length<=20
 rules:p.Xd.length<=70
 lines:∀r∈p.Xd,r.Xb.length<=20
 queue:∀x∈p.Xj,x.Xn.length<=70
 msgs:∀x∈p.Xj,∀m∈x.Xn,ShortM m
theorem small_rule{p:Xk}{i:Nat}(hi:i<p.Xd.length)(h:p.Xd[i].Xb.length<=20):∃b,af_ (gX_ p.Xd[i] p (i:Int)) BIG 0=some b/\(b = .fall ()\/b = .ret false):=by
 refine lM_ (λk s=>s=(k:Int)) _ p.Xd[i].Xb.length (au_ (by omega)) (λk s j f => ?_) (λs f => ?_) rfl
 .subst f;unfold gX_;rw[aB_ j,qW,aq_ hi];simp only[qBs];rw[aq_ j];simp only[qBs];cases((decide ((p.Xd[i].Xb[k].Xp.length:Int)>300)||decide ((p.Xd[i].Xb[k].Xs.length:Int)>300))||decide ((p.Xd[i].Xb[k].Yq.length:Int)>300))with
  | true=>exact .inr ⟨_,rfl,.inr rfl⟩
  | false=>exact .inl ⟨_,rfl,ai_ (by omega)⟩
 .subst f;unfold gX_;rw[aM_];exact⟨_,rfl,.inl rfl⟩
def OutQ{α:Type}(Q:α->Prop)(o:Out α tV):Prop:=o = .ret false\/∃a,o = .fall a/\Q a
theorem small_port{p:Xk}{i:Nat}(hi:i<p.Xj.length)(G:PortL p.Xj[i]){n:Int}(U:0<=n/\n<=200000):∃b,af_ (gZ_ p.Xj[i] p (n,(i:Int))) BIG (n,0)=some b/\OutQ (λn'=>(0<=n'/\n'<=200000)/\∀m∈p.Xj[i].Xn,ShortM m) b:=by
 refine lM_ (λk s=>s.2=(k:Int)/\(0<=s.1/\s.1<=200000)/\∀m∈p.Xj[i].Xn.take k,ShortM m) _ p.Xj[i].Xn.length (au_ G.q) (λk s y F => ?_) (λs F => ?_) ⟨rfl,U,by simp⟩
 .obtain⟨u,M⟩:=s;obtain⟨j,C,f⟩:=F
  dsimp only at j C f
  subst j;unfold gZ_;simp only[];rw[aB_ y,qW,aq_ hi];simp only[qBs];rw[aq_ y];simp only[qBs];have x:=G.ms _ (qk y);obtain⟨b,Z,D⟩:=short_ex x.1;rw[Z];simp only[qBs];cases b with
  | false=>exact .inr ⟨_,rfl,.inl rfl⟩
  | true =>
   have J:=D rfl;have hd:=J.data;have O:w64 (u+(p.Xj[i].Xn[k].Xl.length:Int))=u+(p.Xj[i].Xn[k].Xl.length:Int):=ar_ ⟨by omega,by omega⟩;rw[O];cases Y:decide (u+(p.Xj[i].Xn[k].Xl.length:Int)>200000)with
   | true=>exact .inr ⟨_,rfl,.inl rfl⟩
   | false =>
    have V:=jq Y;refine .inl ⟨_,rfl,ai_ (by have:=G.q;omega),⟨by show 0<=_+_;omega,by show _+_<=_;omega⟩,λm x => ?_⟩;rw[aW_ y]at x;rcases qF.1 x with h|h
    .exact f m h
    .rw[qH.1 h];exact J
 .obtain⟨u,M⟩:=s;obtain⟨j,C,f⟩:=F
  dsimp only at j C f
  subst j;unfold gZ_;simp only[];rw[aM_];rw[qb]at f;exact⟨_,rfl,.inr ⟨_,rfl,C,f⟩⟩
theorem small_ex{p:Xk}(h:PlL p):∃b,jK_ p=some b/\(b=true->SmallP p):=by
 unfold jK_;cases hc:(decide ((p.Xj.length:Int)>20))||(decide ((p.Xd.length:Int)>70))with
 | true=>exact⟨false,rfl,λe=>nomatch e⟩
 | false =>
  simp only[zS,qDf]at hc;obtain⟨b1,ZZ,G⟩:=lM_ (body:=gY_ p) (λi s=>s=(i:Int)/\∀r∈p.Xd.take i,r.Xb.length<=20) (OutQ λ_=>∀r∈p.Xd,r.Xb.length<=20) p.Xd.length (au_ h.rules) (λi s hi f=>by
   obtain⟨rfl,C⟩:=f;unfold gY_;rw[aB_ hi,qW,aq_ hi];simp only[qBs];cases Y:decide ((p.Xd[i].Xb.length:Int)>20)with
   | true=>exact .inr ⟨_,rfl,.inl rfl⟩
   | false =>
    have V:=jq Y;obtain⟨o,M,J⟩:=small_rule hi (by omega);simp only[qZ];rw[M];rcases J with rfl|rfl
    .refine .inl ⟨_,rfl,ai_ (by omega),λr hr => ?_⟩;rw[aW_ hi]at hr;rcases qF.1 hr with h|h
     .exact C r h
     .rw[qH.1 h];omega
    .exact .inr ⟨_,rfl,.inl rfl⟩) (λs f=>by
   obtain⟨rfl,C⟩:=f;unfold gY_;rw[aM_];rw[qb]at C;exact⟨_,rfl,.inr ⟨_,rfl,C⟩⟩) (s:=(0:Int)) ⟨rfl,by simp⟩
  simp only[qZ];rw[ZZ];rcases G with rfl|⟨_,rfl,hR⟩
  .exact⟨false,rfl,λe=>nomatch e⟩
  obtain⟨b2,Z,F⟩:=lM_ (body:=g0_ p) (λi s=>s.2=(i:Int)/\(0<=s.1/\s.1<=200000)/\(∀x∈p.Xj.take i,x.Xn.length<=70)/\∀x∈p.Xj.take i,∀m∈x.Xn,ShortM m) (OutQ λ_=>(∀x∈p.Xj,x.Xn.length<=70)/\∀x∈p.Xj,∀m∈x.Xn,ShortM m) p.Xj.length (au_ h.ports) (λi s hi f=>by
   obtain⟨s1,s2⟩:=s;obtain⟨y,D,q,j⟩:=f
   dsimp only at y D q j
   subst y;unfold g0_;simp only[];rw[aB_ hi,qW,aq_ hi];simp only[qBs];cases Y:decide ((p.Xj[i].Xn.length:Int)>70)with
   | true=>exact .inr ⟨_,rfl,.inl rfl⟩
   | false =>
    have V:=jq Y;simp only[qZ,qBs];cases decide ((p.Xj[i].Xg.length:Int)>1000)with
    | true=>exact .inr ⟨_,rfl,.inl rfl⟩
    | false =>
     obtain⟨o,M,J⟩:=small_port hi (h.port _ (qk hi)) D;simp only[qZ];rw[M];rcases J with rfl|⟨n',rfl,O,U⟩
     .exact .inr ⟨_,rfl,.inl rfl⟩
     .refine .inl ⟨_,rfl,ai_ (by omega),O,λx u => ?_,λx u => ?_⟩
      .rw[aW_ hi]at u;rcases qF.1 u with h|h
       .exact q x h
       .rw[qH.1 h];omega
      .rw[aW_ hi]at u;rcases qF.1 u with h|h
       .exact j x h
       .rw[qH.1 h];exact U) (λs f=>by
   obtain⟨s1,s2⟩:=s;obtain⟨y,D,q,j⟩:=f
   dsimp only at y D q j
   subst y;unfold g0_;simp only[];rw[aM_];rw[qb]at q j;exact⟨_,rfl,.inr ⟨_,rfl,q,j⟩⟩) (s:=((0:Int),(0:Int))) ⟨rfl,by omega,by simp,by simp⟩
  simp only[qBs];rw[Z];rcases F with rfl|⟨_,rfl,hQ⟩
  .exact⟨false,rfl,λe=>nomatch e⟩
  .exact⟨true,rfl,λ_=>⟨by omega,by omega,hR,hQ.1,hQ.2⟩⟩
structure OwnP(p:Xk):Prop where
 rules:p.Xd.length<=100000000
 lines:∀r∈p.Xd,r.Xb.length<=100000000
 ports:p.Xj.length<=1000
 queue:∀x∈p.Xj,x.Xn.length<=1000
 attrs:∀x∈p.Xj,∀m∈x.Xn,m.Xm.length<=1000000
theorem clone_eq{m:Xq}(h:m.Xm.length<=1000000):dg_ m=some m:=by
 unfold dg_ aN_;rw[md_ (by omega) (by omega)];rfl
theorem own_queue{x:Xy}(j:x.Xn.length<=1000)(f:∀m∈x.Xn,m.Xm.length<=1000000):af_ (dj_ x) BIG (0,x.Xg,x.Xc,[])=some (x.Xg,x.Xc,x.Xn):=by
 have h:=bQ_ (body:=dj_ x) (λi=>((i:Int),x.Xg,x.Xc,x.Xn.take i)) x.Xn.length (au_ (by omega)) (b:=(x.Xg,x.Xc,x.Xn)) (λi hi=>by
  unfold dj_;simp only[];rw[aB_ hi,qW,aq_ hi];simp only[qBs];rw[clone_eq (f _ (qk hi))];simp only[qBs];rw[az_ (by simp only[qA,zk];omega) (by simp only[qA,zk];omega)];simp only[qBs];rw[ai_ (by omega),aW_ hi]) (by
  unfold dj_;simp only[];rw[aM_,qb];rfl)
 exact h
theorem own_eq{p:Xk}(h:OwnP p):co_ p=some p:=by
 have j:=bQ_ (body:=cM_ p) (λi=>((i:Int),p.Xd.take i,([]:tL Xy))) p.Xd.length (au_ (by have:=h.rules;omega)) (b:=(p.Xd,[])) (λi hi=>by
  have hr:=h.rules;unfold cM_ bV_;simp only[];rw[aB_ hi,qW,aq_ hi];simp only[qBs];have q:=h.lines _ (qk hi);rw[md_ (by omega) (by omega)];simp only[qBs];rw[az_ (by simp only[qA,zk];omega) (by simp only[qA,zk];omega)];simp only[qBs];rw[ai_ (by omega),aW_ hi]) (by
  unfold cM_;simp only[];rw[aM_,qb];rfl)
 have f:=bQ_ (body:=ee_ p) (λi=>((i:Int),p.Xd,p.Xj.take i)) p.Xj.length (au_ (by have:=h.ports;omega)) (b:=(p.Xd,p.Xj)) (λi hi=>by
  have hr:=h.ports;unfold ee_;simp only[];rw[aB_ hi,qW,aq_ hi];simp only[qBs];rw[own_queue (h.queue _ (qk hi)) (h.attrs _ (qk hi))];simp only[qBs];rw[az_ (by simp only[qA,zk];omega) (by simp only[qA,zk];omega)];simp only[qBs];rw[ai_ (by omega),aW_ hi]) (by
  unfold ee_;simp only[];rw[aM_,qb];rfl)
 unfold co_;exact al_ j (al_ f rfl)
def j5_(y:Int):tV:=decide (y<97)||decide (y>122)
def fJ_(y:Int):tV:=((decide (y<97)||decide (y>122))&&(decide (y<48)||decide (y>57)))&&(y != 45)&&(y != 95)
def headB:tX->tV | []=>false|b::_ => !(j5_ (b.toNat:Int))
def wordsB(s:tX):tV:=headB s&&(decide (s.length<=32)&&s.all λb => !(fJ_ (b.toNat:Int)))
def h5_(s:tX):tV:=wordsB s&&(!(s==[114,117,108,101,115]) && !(s==[115,101,110,100]))
theorem noLet_cls{y:Int}(h:j5_ y=false):fJ_ y=false:=by
 unfold j5_ at h;unfold fJ_;rw[h];rfl
theorem isPort_eq(s:tX):fg_ s=some (h5_ s):=by
 unfold fg_ h5_ wordsB;cases s with
 | nil=>rfl
 | cons b t =>
  rw[show((b::t)==([]:tX))=false from rfl,zX];by_cases h:(b::t).length<=32
  .rw [qV (show ¬(((b::t).length:Nat):Int)>32 by omega),qK h,qm];have p:ap_ (b::t) 0=some (b.toNat:Int):=rfl;simp only[qZ,p,qBs];have f:=jt_ (body:=e6_ (b::t)) (b::t) (λb => !(fJ_ (b.toNat:Int))) false (au_ (by omega)) (λi hi=>by
    unfold e6_;rw[aB_ hi,qW,aJ_ hi];simp only[qBs];show(bif fJ_ ((b::t)[i].toNat:Int)then _ else _)=_;cases fJ_ ((b::t)[i].toNat:Int)with
    | true=>rfl
    | false =>
     simp only[qZ,qf,zT];rw[ai_ (by omega)]) (by
    unfold e6_;rw[aM_];rfl)
   have j:headB (b::t) = !(decide ((b.toNat:Int)<97)||decide ((b.toNat:Int)>122)):=rfl;rw[j];generalize(b::t)=s at *
   cases decide ((b.toNat:Int)<97)with
   | true=>rfl
   | false =>
    cases decide ((b.toNat:Int)>122)with
    | true=>rfl
    | false =>
     simp only[qZ,qBs,zX,qf,qm];cases s==[114,117,108,101,115]with
     | true=>simp only[jM,qW,qN,zd,zr]
     | false =>
      cases s==[115,101,110,100]with
      | true=>simp only[jE,qW,qN,zr]
      | false =>
       simp only[za,qZ,qf,Bool.and_true];refine al_ f ?_;cases s.all λb => !(fJ_ (b.toNat:Int))<;>rfl
  .rw[qK (show(((b::t).length:Nat):Int)>32 by omega),qV h];simp only[zd,zr,qW,qBs,jM]
def gVd(i:Nat)(b:UInt8):tO tV:=if(j5_ (b.toNat:Int)&&(((i:Int)==0)||fJ_ (b.toNat:Int)))=true then some false else none
theorem scan_cn{α β:Type}{g:Nat->α->tO β}{k:Nat}{x:α}{l:tL α}(h:g k x=none):bh_ g k (x::l)=bh_ g (k+1) l:=by simp only[bh_,h]
theorem scan_cs{α β:Type}{g:Nat->α->tO β}{k:Nat}{x:α}{l:tL α}{r:β}(h:g k x=some r):bh_ g k (x::l)=some r:=by simp only[bh_,h]
theorem scan_vd:∀(t:tX) (k:Nat),0<k->(bh_ gVd k t).getD true=t.all λb => !(fJ_ (b.toNat:Int))
 | [],_,_=>rfl
 | b::t,k,s=>by
  have q:((k:Int)==0)=false:=qX.2 (by omega);rw[jR,←scan_vd t (k+1) (by omega)];have j:gVd k b=if fJ_ (b.toNat:Int)=true then some false else none:=by
   unfold gVd;rw[q,zX];cases f:fJ_ (b.toNat:Int)with
   | true =>
    cases p:j5_ (b.toNat:Int)with
    | true=>rfl
    | false=>rw[noLet_cls p]at f;cases f
   | false=>rw[zr]
  cases f:fJ_ (b.toNat:Int)with
  | true=>rw[f,qL rfl]at j;rw[scan_cs j];rfl
  | false=>rw[f,qP (λh=>nomatch h)]at j;rw[scan_cn j];rfl
theorem valid05_eq(s:tX):jJ_ s=some (wordsB s):=by
 unfold jJ_ wordsB;cases s with
 | nil=>rfl
 | cons b t =>
  rw[qV (show ¬(((b::t).length:Nat):Int)<1 by simp only[qLc];omega),zX];by_cases p:(b::t).length<=32
  .rw[qV (show ¬(((b::t).length:Nat):Int)>32 by omega),qK p,qm];have u:=bw_ (body:=gU_ (b::t)) (b::t) gVd (au_ (by omega)) (λi hi=>by
    unfold gU_;rw[aB_ hi,qW,aJ_ hi];simp only[qBs];unfold gVd;have e:((!(decide (((b::t)[i].toNat:Int)>=97)&&decide (((b::t)[i].toNat:Int)<=122)))&&(((i:Int)==0)||(((!(decide (((b::t)[i].toNat:Int)>=48)&&decide (((b::t)[i].toNat:Int)<=57)))&&(((b::t)[i].toNat:Int) != 45))&&(((b::t)[i].toNat:Int) != 95))))=(j5_ ((b::t)[i].toNat:Int)&&(((i:Int)==0)||fJ_ ((b::t)[i].toNat:Int))):=by
     generalize((b::t)[i].toNat:Int)=y;generalize((i:Int)==0)=z;unfold fJ_ j5_;rw[show decide (y>=97) = !(decide (y<97))by by_cases h:y<97<;>simp[h]<;>omega,show decide (y<=122) = !(decide (y>122))by by_cases h:y>122<;>simp[h]<;>omega,show decide (y>=48) = !(decide (y<48))by by_cases h:y<48<;>simp[h]<;>omega,show decide (y<=57) = !(decide (y>57))by by_cases h:y>57<;>simp[h]<;>omega];cases decide (y<97)<;>cases decide (y>122)<;>cases decide (y<48)<;>cases decide (y>57)<;>cases y != 45<;>cases y != 95<;>cases z<;>rfl
    rw[e];cases j5_ ((b::t)[i].toNat:Int)&&(((i:Int)==0)||fJ_ ((b::t)[i].toNat:Int))with
    | true=>rfl
    | false =>
     simp only[qZ,qM,zY,dr_];rw[ai_ (by omega)]) (by
    unfold gU_;rw[aM_];rfl)
   have D:=bD_ (k:=λf=>match f with
    | .ret q=>some q
    | .fall _=>some true) (x:=true) u (λ_=>rfl) rfl
   simp only[qZ];refine Eq.trans D ?_;rw[jR,←scan_vd t 1 (by omega)];have C:headB (b::t) = !(j5_ (b.toNat:Int)):=rfl;rw[C];cases j:j5_ (b.toNat:Int)with
   | true =>
    rw[scan_cs (show gVd 0 b=some false by unfold gVd;rw[j];rfl)];rfl
   | false =>
    rw[scan_cn (show gVd 0 b=none by unfold gVd;rw[j];rfl),noLet_cls j];rfl
  .rw[qK (show(((b::t).length:Nat):Int)>32 by omega),qV p];simp only[zd,zr,qW]
theorem portName_eq(s:tX):gV_ s=some (h5_ s):=by
 unfold gV_ h5_;refine al_ (valid05_eq s) ?_;rw[Bool.and_assoc]
def go_(m:Xq):tV:=decide (bf_ m=0)&&decide ((cj_ m).length<=65536)
theorem fits_eq{m:Xq}(h:AttrL m.Xm):dw_ m=some (go_ m):=by
 unfold dw_ go_;refine al_ (kv_ h) ?_;by_cases f:bf_ m=0
 .rw[qL f,qK f,qm];simp only[zV,qm]
  congr 1
  by_cases j:(cj_ m).length<=65536
  .rw[qK j,qK (by omega)]
  .rw[qV j,qV (by omega)]
 .rw[qP f,qV f];simp only[qX.2 f,zd]
theorem idxM_eq{l:tL Xq}{f:Xq->tO tV}{p:Xq->tV}(j:l.length<=9223372036854775807)(q:∀m∈l,f m=some (p m)):bB_ l f=some (at_ p l):=by
 unfold bB_;have h:=bw_ (body:=bK_ l f) l (λi x=>if p x then some ((i:Nat):Int)else none) (au_ j) (λi hi=>by
  unfold bK_;rw[aB_ hi,qW,aq_ hi];simp only[qBs];rw[q _ (qk hi)];simp only[qBs];cases p l[i]with
  | true=>rfl
  | false =>
   simp only[qZ,qM,zY,dr_];rw[ai_ (by omega)]) (by
  unfold bK_;rw[aM_];rfl)
 rw[←pL_];exact bD_ (x:=(-1:Int)) h (λr=>rfl) rfl
theorem idxP_eq{l:tL Xy}{f:Xy->tO tV}{p:Xy->tV}(j:l.length<=9223372036854775807)(q:∀m∈l,f m=some (p m)):aR_ l f=some (at_ p l):=by
 unfold aR_;have h:=bw_ (body:=bT_ l f) l (λi x=>if p x then some ((i:Nat):Int)else none) (au_ j) (λi hi=>by
  unfold bT_;rw[aB_ hi,qW,aq_ hi];simp only[qBs];rw[q _ (qk hi)];simp only[qBs];cases p l[i]with
  | true=>rfl
  | false =>
   simp only[qZ,qM,zY,dr_];rw[ai_ (by omega)]) (by
  unfold bT_;rw[aM_];rfl)
 rw[←pL_];exact bD_ (x:=(-1:Int)) h (λr=>rfl) rfl
def badN(x:Xy):tV:=((decide (x.Xc<0)||decide (x.Xc>9007199254740991))||decide ((x.Xn.length:Int)>64))||((x.Xc==0)&&decide ((x.Xn.length:Int)>0))
def h6_(x:Xy):tV:=h5_ x.Xg&&(!(badN x)&&x.Xn.all go_)
theorem rightPort_eq{x:Xy}(h:PortL x):e9_ x=some (h6_ x):=by
 unfold e9_ h6_;refine al_ (isPort_eq _) ?_;have e:((((!(h5_ x.Xg))||decide (x.Xc<0))||decide (x.Xc>9007199254740991))||decide ((x.Xn.length:Int)>64)||((x.Xc==0)&&decide ((x.Xn.length:Int)>0)))=(!(h5_ x.Xg)||badN x):=by
  unfold badN;cases h5_ x.Xg<;>cases decide (x.Xc<0)<;>cases decide (x.Xc>9007199254740991)<;>cases decide ((x.Xn.length:Int)>64)<;>rfl
 rw[e];cases h5_ x.Xg with
 | false=>rfl
 | true =>
  cases badN x with
  | true=>rfl
  | false =>
   simp only[qN,zX,qZ,qf,qm];have hi:bB_ x.Xn (λ(s:Xq)=>Option.bind (eu_ s) λ(p:tV)=>some p)=some (at_ (λm => !(go_ m)) x.Xn):=idxM_eq h.q λm f=>by
    unfold eu_;rw[fits_eq (h.ms m f).1];rfl
   unfold ci_;rw[hi];simp only[qBs]
   congr 1
   have u:=at_neg (λm => !(go_ m)) x.Xn;have y:x.Xn.all go_=(x.Xn.find? λm => !(go_ m)).isNone:=by
    rw[zL,qx,Option.isNone_iff_eq_none,jr];constructor
    .intro h m f;rw[h m f];simp
    .intro h m f;simpa using h m f
   rw[y,←u];by_cases j:at_ (λm => !(go_ m)) x.Xn<0
   .rw[qK j,qV (by omega)];rfl
   .rw[qV j,qK (by omega)];rfl
def prevN(l:tL Xy)(i:Nat):tX:=match l[i-1]? with|some y=>y.Xg|none=>[]
def lowX(l:tL Xy)(i:Nat)(x:Xy):tV:=decide (0<i) && !(Op.bytesLess (prevN l i) x.Xg)
def gR(l:tL Xy)(i:Nat)(x:Xy):tO tV:=if(!(h6_ x)||lowX l i x)=true then some false else none
def lO_(p:Xk):tV:=((ev_ p.Xd).2==0)&&(decide (p.Xj.length<=16)&&(bh_ (gR p.Xj) 0 p.Xj).getD true)
theorem low_eq{l:tL Xy}{i:Nat}(hi:i<l.length)(f:l.length<=100)(x:Xy):(Option.bind (bif decide ((i:Int)>0)then
    (ah_ l (w64 ((i:Int)-1))).bind λy9 =>
    some (!(Op.bytesLess y9.Xg x.Xg))
     else some false) λ(y10:tV)=>some y10)=some (lowX l i x):=by
 unfold lowX;rcases zA i with rfl|h
 .rfl
 .rw[qK (show(i:Int)>0 by omega),qK h,qW,w_pred h (by omega),aq_ (show i-1<l.length by omega)];unfold prevN;rw[qY (show i-1<l.length by omega)];rfl
theorem right_eq{p:Xk}(h:PlL p):fQ_ p=some (lO_ p):=by
 unfold fQ_ lO_;refine al_ (text_eq23 _) ?_;cases j:(ev_ p.Xd).2==0 with
 | false=>simp only[bne,j,qf,jM,qW,zd]
 | true =>
  simp only[bne,j,qN,zX,qm];by_cases f:p.Xj.length<=16
  .rw [qV (show ¬(p.Xj.length:Int)>16 by omega),qK f,qZ,qm];have q:=bw_ (body:=fB_ p) p.Xj (gR p.Xj) (au_ h.ports) (λi hi=>by
    unfold fB_;rw[aB_ hi,qW,aq_ hi];simp only[qBs];rw[rightPort_eq (h.port _ (qk hi))];simp only[qBs];unfold gR;cases h6_ p.Xj[i]with
    | false=>rfl
    | true =>
     simp only[qN,qZ,zX];rw[low_eq hi (by omega)];simp only[qBs];cases lowX p.Xj i p.Xj[i]with
     | true=>rfl
     | false =>
      simp only[qZ,qM,zY,dr_];rw[ai_ (by omega)]) (by
    unfold fB_;rw[aM_];rfl)
   exact bD_ (x:=true) q (λ_=>rfl) rfl
  .rw[qK (show(p.Xj.length:Int)>16 by omega),qV f];rfl
theorem sH_{x:Xy}(h:PortL x):af_ (g6_ x) BIG 0=some (if x.Xn.all go_ then .fall ()else .ret false):=by
 refine jt_ x.Xn go_ false (au_ h.q) (λi hi => ?_) (by unfold g6_;rw[aM_];rfl);unfold g6_;rw[aB_ hi,qW,aq_ hi];simp only[qBs];rw[fH_ (h.ms _ (qk hi)).1];simp only[qBs];unfold go_;by_cases f:bf_ x.Xn[i]=0
 .rw[qL f,qK f,qm];simp only[qy,zX];by_cases j:(cj_ x.Xn[i]).length<=65536
  .rw[qK j,qV (show ¬((cj_ x.Xn[i]).length:Int)>65536 by omega),qZ,qL rfl,ai_ (by have:=h.q;omega)]
  .rw[qV j,qK (show((cj_ x.Xn[i]).length:Int)>65536 by omega)];rfl
 .rw[qP f,qV f,show((bf_ x.Xn[i]) != 0)=true from zt.2 f];rfl
theorem refRight_eq {p:Xk} (h:PlL p):jP_ p=some (lO_ p):=by
 unfold jP_ lO_;refine al_ (pl_ _) ?_;cases q:(ev_ p.Xd).2==0 with
 | false=>simp only[bne,q,qf,jM,qW,zd]
 | true =>
  simp only[bne,q,qN,zX,qm];by_cases j:p.Xj.length<=16
  .rw [qV (show ¬(p.Xj.length:Int)>16 by omega),qK j,qZ,qm]
   have s:=bw_ (body:=g7_ p) p.Xj (gR p.Xj) (au_ h.ports) (λi hi=>by
    unfold g7_;rw[aB_ hi,qW,aq_ hi];simp only[qBs];rw[portName_eq];simp only[qBs];have f:=low_eq hi (by omega) p.Xj[i];have u:=sH_ (h.port _ (qk hi));unfold gR h6_;generalize lowX p.Xj i p.Xj[i]=lo at *
    cases h5_ p.Xj[i].Xg with
    | false=>rfl
    | true =>
     simp only[qN,qZ];rw[f];simp only[qBs];have e:((((lo||decide (p.Xj[i].Xc<0))||decide (p.Xj[i].Xc>9007199254740991))||decide ((p.Xj[i].Xn.length:Int)>64))||((p.Xj[i].Xc==0)&&decide ((p.Xj[i].Xn.length:Int)>0)))=(lo||badN p.Xj[i]):=by
      unfold badN;simp only[Bool.or_assoc]
     rw[e];cases lo with
     | true=>simp only[jM,qW,jE,zT,dr_]
     | false =>
      cases badN p.Xj[i]with
      | true=>rfl
      | false =>
       simp only[za,qZ,qf,qm];rw[u];cases p.Xj[i].Xn.all go_ with
       | true =>
        simp only[zT,qBs,qN,qM,zY,dr_];rw[ai_ (by omega)]
       | false=>rfl) (by
    unfold g7_;rw[aM_];rfl)
   exact bD_ (x:=true) s (λ_=>rfl) rfl
  .rw[qK (show(p.Xj.length:Int)>16 by omega),qV j];rfl
structure RightP(p:Xk):Prop where
 text:(ev_ p.Xd).2=0
 ports:p.Xj.length<=16
 each:∀i x,p.Xj[i]? = some x->h6_ x=true/\lowX p.Xj i x=false
theorem r4_(p:Xk):lO_ p=true↔RightP p:=by
 have key:(bh_ (gR p.Xj) 0 p.Xj).getD true=true↔∀i x,p.Xj[i]? = some x->h6_ x=true/\lowX p.Xj i x=false:=by
  cases q:bh_ (gR p.Xj) 0 p.Xj with
  | none =>
   rw[scan_none]at q;refine⟨λ_ i x j => ?_,λ_=>rfl⟩;have:=q i x j;rw[qh]at this;unfold gR at this;cases f:h6_ x with
   | false=>rw[f]at this;simp at this
   | true =>
    rw[f]at this;cases u:lowX p.Xj i x with
    | false=>exact⟨rfl,rfl⟩
    | true=>rw[u]at this;simp at this
  | some r =>
   obtain⟨i,x,j,f,-⟩:=ix_ q;rw[qh]at f;unfold gR at f;split at f
   .rename_i s;obtain rfl:=qSj f;refine⟨λe=>(nomatch e),λh => ?_⟩;obtain⟨C,y⟩:=h i x j;rw[C,y]at s;cases s
   .cases f
 unfold lO_;rw[qAn,qAn,qDe,qn,key];exact⟨λh=>⟨h.1,h.2.1,h.2.2⟩,λh=>⟨h.text,h.ports,h.each⟩⟩
theorem scan_first{α β:Type}{g:Nat->α->tO β}{l:tL α}{i:Nat}{x:α}{r:β}(s:l[i]? = some x)(C:g i x=some r)(F:∀j y,j<i->l[j]? = some y->g j y=none):bh_ g 0 l=some r:=by
 cases D:bh_ g 0 l with
 | none =>
  have:=scan_none.1 D i x s;rw[qh,C]at this;cases this
 | some q =>
  obtain⟨k,y,p,f,u⟩:=ix_ D;rw[qh]at f;rcases Nat.lt_trichotomy k i with h|h|h
  .rw[F k y h p]at f;cases f
  .subst h;rw[s]at p;obtain rfl:=qSj p;rw[C]at f;exact f.symm
  .have:=u i x h s;rw[qh,C]at this;cases this
structure SameL(p:Xk):Prop where
 rules:RulesL p.Xd
 ports:p.Xj.length<=9223372036854775807
 queue:∀x∈p.Xj,x.Xn.length<=9223372036854775807
 attrs:∀x∈p.Xj,∀m∈x.Xn,m.Xm.length<=9223372036854775807
theorem same24_refl{p:Xk}(h:SameL p):kU_ p p=some true:=by
 unfold kU_;refine al_ (sE_ h.rules) ?_;rw[qy];simp only[qN,za,qZ];have s:af_ (hT_ p p) BIG 0=some (.fall ()):=by
  refine bQ_ (T:=λi=>(i:Int)) p.Xj.length (au_ h.ports) (λi hi => ?_) (by unfold hT_;rw[aM_];rfl);unfold hT_;rw[aB_ hi,qW,aq_ hi];simp only[qBs];rw[qy,qy,zV];simp only[qN,za,qZ];have q:=h.queue _ (qk hi);have j:af_ (hS_ p.Xj[i] p.Xj[i]) BIG 0=some (.fall ()):=by
   refine bQ_ (T:=λk=>(k:Int)) p.Xj[i].Xn.length (au_ q) (λk f => ?_) (by unfold hS_;rw[aM_];rfl);unfold hS_;rw[aB_ f,qW,aq_ f];simp only[qBs];rw[same_refl (h.attrs _ (qk hi) _ (qk f))];simp only[qBs,qN,qZ];rw[ai_ (by omega)]
  rw[j];simp only[qBs];rw[ai_ (by have:=h.ports;omega)]
 refine al_ s rfl
def fs_(p:Xk)(id:Int):tV:=decide (id>=1)&&decide (id<((4+p.Xj.length:Nat):Int))
theorem w_four{p:Xk}(h:p.Xj.length<=1000):w64 (4+(p.Xj.length:Int))=((4+p.Xj.length:Nat):Int):=by
 rw[ar_ ⟨by omega,by omega⟩];omega
theorem mo_{p:Xk}(h:p.Xj.length<=1000)(id:Int):cN_ p id=some (fs_ p id):=by
 unfold cN_ fs_;rw[w_four h]
theorem i8_{p:Xk}(h:p.Xj.length<=1000)(id:Int):ep_ p id=some (fs_ p id):=by
 unfold ep_ fs_;rw[w_four h]
def gD_(s:tX)(x:Xy):tV:=x.Xg==s
theorem r5_{p:Xk}(h:RightP p)(k:Nat)(j:k+1<p.Xj.length):Op.bytesLess (p.Xj[k]'(by omega)).Xg (p.Xj[k+1]'j).Xg=true:=by
 have f:=(h.each (k+1) _ (qY j)).2;unfold lowX prevN at f;rw[show k+1-1=k by omega,qY (show k<p.Xj.length by omega),qK (Nat.succ_pos k),qm,Bool.not_eq_false']at f;exact f
theorem ps_{p:Xk}(h:RightP p):∀(d j:Nat) (f:j+d+1<p.Xj.length),Op.bytesLess (p.Xj[j]'(by omega)).Xg (p.Xj[j+d+1]'f).Xg=true
 | 0,j,f=>r5_ h j f
 | d+1,j,f=>hn_ _ _ _ (ps_ h d j (by omega)) (r5_ h (j+d+1) f)
theorem name_at{p:Xk}(h:RightP p){i:Nat}(hi:i<p.Xj.length):p.Xj.findIdx? (gD_ p.Xj[i].Xg)=some i:=by
 rw[jU];refine⟨hi,zV _,λj f => ?_⟩;unfold gD_;rw[qn];intro e;obtain⟨d,rfl⟩:∃d,i=j+d+1:=⟨i-j-1,by omega⟩;have:=ps_ h d j hi;rw[e,iO_]at this;cases this
noncomputable section
def df_(v:Xq×tX×tV)(m:Xq):Xq×tX:=bif v.2.2 then(v.1,v.2.1)else(m,m.Xe)
theorem pt_{v:Xq×tX×tV}(f:v.2.2=true->AttrL v.1.Xm/\bf_ v.1=0){m:Xq}(h:AttrL m.Xm)(j:bf_ m=0):AttrL (df_ v m).1.Xm/\bf_ (df_ v m).1=0:=by
 unfold df_;cases hr:v.2.2 with
 | true=>exact f hr
 | false=>exact⟨h,j⟩
def gE_(p:Xk)(i:Nat)(x:Xy)(n:Xq):Xk×Int:=bif(x.Xc==0)then(p,51)else bif decide (65536<(cj_ n).length)then(p,4)else bif decide (64<=x.Xn.length)then(p,22)else(Xk.mk p.Xd (p.Xj.set i (Xy.mk x.Xg (x.Xn++[n]) x.Xc)),0)
def sendW(p:Xk)(m:Xq)(v:Xq×tX×tV):Xk×Int :=
 bif bf_ m==0 then(match p.Xj.findIdx? (gD_ (df_ v m).2)with
  | none=>(p,51)
  | some i=>gE_ p i (p.Xj[i]?.getD default) (df_ v m).1)else(p,bf_ m)
theorem qd_{m:Xq}(h:bf_ m=0):m.Xm.length<=32:=(iy_ (f5_ h).2.1).len
theorem send_gen{p:Xk}(s:OwnP p){m:Xq}(x:AttrL m.Xm){v:Xq×tX×tV}(hr:d9_ p.Xd m=some v)(F:v.2.2=true->AttrL v.1.Xm/\bf_ v.1=0):cB_ p m=some (sendW p m v):=by
 unfold cB_ sendW;rw[own_eq s];simp only[qBs];rw[kv_ x];simp only[qBs];by_cases h:bf_ m=0
 .rw [qL h,h];simp only[qy,qZ,zV,qW];rw[hr];simp only[qBs];have G:(bif(!v.2.2)then some (m,m.Xe)else some (v.1,v.2.1))=some (df_ v m):=by
   unfold df_;cases v.2.2<;>rfl
  rw[G];obtain⟨q,j⟩:=pt_ F x h;generalize df_ v m=o at *
  simp only[qBs];have hi:(aR_ p.Xj (λ(D:Xy)=>Option.bind (fi_ D o.2) λ(C:tV)=>some C))=some (at_ (gD_ o.2) p.Xj):=idxP_eq (by have:=s.ports;omega) λm _=>rfl
  rw[hi];simp only[qBs];unfold at_;cases J:p.Xj.findIdx? (gD_ o.2)with
  | none=>rfl
  | some i =>
   have f:i<p.Xj.length:=(jU.1 J).1
   dsimp only
   rw[qV (show ¬(i:Int)<0 by omega),qZ,aq_ f];simp only[qBs];rw[qY f,zu];unfold gE_;cases p.Xj[i].Xc==0 with
   | true=>rfl
   | false =>
    simp only[qZ];rw[fits_eq q];simp only[qBs];unfold go_;rw[qK j,qm];by_cases u:(cj_ o.1).length<=65536
    .rw[qK u,qV (show ¬65536<(cj_ o.1).length by omega)];simp only[qN,qZ];have M:=s.queue _ (qk f);by_cases y:64<=p.Xj[i].Xn.length
     .rw[qK y,qK (show(p.Xj[i].Xn.length:Int)>=64 by omega)];rfl
     .rw[qV y,qV (show ¬(p.Xj[i].Xn.length:Int)>=64 by omega)];simp only[qZ];rw[clone_eq (by have:=qd_ j;omega)];simp only[qBs];rw[az_ (by simp only[zk];omega) (by simp only[zk];omega)];simp only[qBs,qTn]
    .rw[qV u,qK (show 65536<(cj_ o.1).length by omega)];rfl
 .rw[qP h]
  dsimp only
  rw[zt.2 h,qX.2 h];rfl
end
def j6_(a:Nat):Nat:=a-16*(a/16%2)-64*(a/64%2)
theorem and47:∀q,q<128->q&&&47=q-16*(q/16%2)-64*(q/64%2):=by decide
theorem andNot_80{n:Nat}(h:n<2^63):le_ .i64 (n:Int) 80=((j6_ n:Nat):Int):=by
 rw[show(80:Int)=((80:Nat):Int)from rfl,andNotI_nat h (by omega)]
 congr 1
 have p:n%128<128:=Nat.mod_lt _ (by omega);have e:n=2^7*(n/128)+n%128:=by have:=Nat.div_add_mod n 128;omega
 have q:n/128<2^57:=by omega
 have eM:(2^64-1-80:Nat)=2^7*(2^57-1)+47:=by decide
 have j:=and47 (n%128) p;have key:n&&&(2^64-1-80)=2^7*(n/128)+(n%128&&&47):=by
  apply Nat.eq_of_testBit_eq;intro i;have f:n%128&&&47<2^7:=Nat.lt_of_le_of_lt Nat.and_le_left (by omega);rw[eM]
  conv=>lhs;rw[e]
  rw[Nat.testBit_and,Nat.testBit_two_pow_mul_add _ (show n%128<2^7 by omega),Nat.testBit_two_pow_mul_add _ (by omega:47<2^7),Nat.testBit_two_pow_mul_add _ f];by_cases hi:i<7
  .rw[qL hi,qL hi,qL hi,Nat.testBit_and]
  .rw[qP hi,qP hi,qP hi,←Nat.testBit_and,Nat.and_two_pow_sub_one_eq_mod,Nat.mod_eq_of_lt q]
 rw[key,j];unfold j6_;omega
theorem and_64{n:Nat}(h:n<2^63):(andI .i64 (n:Int) 64 != 0)=decide (n/64%2=1):=by
 rw[show(64:Int)=((2^6:Nat):Int)from rfl,andI_nat h (by decide)];have j:(((n&&&2^6:Nat):Int) != 0)=(n&&&2^6 != 0):=by
  rw[zL];simp only[zt,ne_eq];omega
 have f := @bit_and n 6;rw[j,f,zL,qn,qDe]
theorem wrap_hi{k:Nat}(p:2^63<=k)(j:k<2^64):IntKind.i64.wrap (k:Int)<0:=by
 have f:IntKind.i64.bits=64:=rfl;unfold IntKind.wrap
 dsimp only
 split
 .rw[f];omega
 .rename_i h
  exfalso
  apply h;rw[show IntKind.i64.signed=true from rfl,qm,qDe,f];omega
theorem andNot_neg{x:Int}(h:x<0)(u : -9223372036854775808<=x):le_ .i64 x 80<0:=by
 have j:(BitVec.ofInt 64 x).toNat=(x+18446744073709551616).toNat:=by
  rw[BitVec.toNat_ofInt]
  congr 1
  omega
 have s:(BitVec.ofInt 64 x).toNat.testBit 63=true:=by
  rw[j,Nat.testBit_eq_decide_div_mod_eq,qDe];omega
 have f:(BitVec.ofInt 64 x &&& ~~~(BitVec.ofInt 64 80)).toNat.testBit 63=true:=by
  rw[BitVec.toNat_and,Nat.testBit_and,s]
  decide
 have q:2^63<=(BitVec.ofInt 64 x &&& ~~~(BitVec.ofInt 64 80)).toNat:=by
  rcases qR (BitVec.ofInt 64 x &&& ~~~(BitVec.ofInt 64 80)).toNat (2^63)with h|h
  .rw[Nat.testBit_lt_two_pow h]at f;cases f
  .exact h
 have p:=(BitVec.ofInt 64 x &&& ~~~(BitVec.ofInt 64 80)).isLt;show IntKind.i64.wrap ((BitVec.ofInt 64 x &&& ~~~(BitVec.ofInt 64 80)).toNat:Int)<0;exact wrap_hi q p
theorem hasN_eq{a b:Nat}(p:a<2^63)(j:0<b):iw_ (a:Int) (b:Int)=some (decide (a/b%2=1)):=by
 unfold iw_ quoI;have h:a/b<=a:=Nat.div_le_self _ _;rw[qP (by omega)];have e:(a:Int).tdiv (b:Int)=((a/b:Nat):Int):=rfl;rw[e];generalize a/b=q at *
 rw[lj_ (n:=(q:Int)) ⟨by omega,by omega⟩];simp only[qBs];have f:(q:Int).tmod 2=((q%2:Nat):Int):=rfl;rw[f]
 congr 1
 rw[zL,qn,qDe];omega
theorem base_nat{a:Nat}(q:a<2^63):g8_ (a:Int)=some (((j6_ a:Nat):Int),decide (((j6_ a:Nat):Int)<=3)):=by
 unfold g8_;rw[qV (show ¬(a:Int)<0 by omega),qZ,show(16:Int)=((16:Nat):Int)from rfl,hasN_eq q (by omega)];have u:(Option.bind (some (decide (a/16%2=1))) λy1=>bif y1 then some (w64 ((a:Int)-((16:Nat):Int)))else some (a:Int))=some ((a-16*(a/16%2):Nat):Int):=by
  by_cases h:a/16%2=1
  .rw[qK h,h];simp only[qBs,qW];rw[ar_ ⟨by omega,by omega⟩]
   congr 1
   omega
  .rw[qV h,show a/16%2=0 by omega];rfl
 rw[u];have j:a-16*(a/16%2)<2^63:=by omega
 simp only[qBs];rw[show(64:Int)=((64:Nat):Int)from rfl,hasN_eq j (by omega)];have p:(a-16*(a/16%2))/64%2=a/64%2:=by omega
 rw[p];have s:(Option.bind (some (decide (a/64%2=1))) λf=>bif f then some (w64 (((a-16*(a/16%2):Nat):Int)-((64:Nat):Int)))else some ((a-16*(a/16%2):Nat):Int))=some ((j6_ a:Nat):Int):=by
  unfold j6_;by_cases h:a/64%2=1
  .rw[qK h,h];simp only[qBs,qW];rw[ar_ ⟨by omega,by omega⟩]
   congr 1
   omega
  .rw[qV h,show a/64%2=0 by omega];rfl
 rw[s];rfl
theorem iF_(x:Xy):h6_ x=true↔h5_ x.Xg=true/\(0<=x.Xc/\x.Xc<=9007199254740991/\x.Xn.length<=64/\(x.Xc=0->x.Xn=[]))/\∀m∈x.Xn,bf_ m=0/\(cj_ m).length<=65536:=by
 unfold h6_ badN;rw[qAn,qAn,qx,qo];simp only[zS,qDf,jI,qX,ne_eq];unfold go_;simp only[qAn,qDe];constructor
 .rintro⟨j,⟨⟨⟨s,q⟩,p⟩,f⟩,h⟩;refine⟨j,⟨by omega,by omega,by omega,λe => ?_⟩,h⟩;rcases f with f|f
  .exact absurd e f
  .exact jV (by omega)
 .rintro⟨j,⟨s,q,p,f⟩,h⟩;refine⟨j,⟨⟨⟨by omega,by omega⟩,by omega⟩,?_⟩,h⟩;by_cases e:x.Xc=0
  .right
   rw[f e];simp
  .exact .inl e
theorem RightP.good{p:Xk}(h:RightP p){x:Xy}(f:x∈p.Xj):h5_ x.Xg=true/\(0<=x.Xc/\x.Xc<=9007199254740991/\x.Xn.length<=64/\(x.Xc=0->x.Xn=[]))/\∀m∈x.Xn,bf_ m=0/\(cj_ m).length<=65536:=by
 obtain⟨i,hi,rfl⟩:=List.getElem_of_mem f;exact(iF_ _).1 (h.each i _ (qY hi)).1
theorem RightP.own{p:Xk}(h:RightP p):OwnP p:=by
 obtain⟨s,q,-⟩:=textV_ok h.text;refine⟨by omega,λr hr => ?_,by have:=h.ports;omega,λx f => ?_,λx f m j => ?_⟩
 .have:=((ec_ r).1 (q r hr)).2.1;omega
 .have:=(h.good f).2.1.2.2.1;omega
 .have:=qd_ ((h.good f).2.2 m j).1;omega
theorem prevN_map(l:tL Xy)(i:Nat):prevN l i=((l.map (λx:Xy=>x.Xg))[i-1]?).getD []:=by
 unfold prevN;rw[zF];cases l[i-1]?<;>rfl
theorem RightP.set{p:Xk}(h:RightP p){k:Nat}(s:k<p.Xj.length){x:Xy}(u:x.Xg=p.Xj[k].Xg)(F:h6_ x=true):RightP (Xk.mk p.Xd (p.Xj.set k x)):=by
 have q:(p.Xj.set k x).map (λx:Xy=>x.Xg)=p.Xj.map (λx:Xy=>x.Xg):=by
  apply je;intro i;rw[zF,zF,jK];by_cases e:k=i
  .subst e;rw[qL rfl,qL s,qY s];simp only[zn];rw[u]
  .rw[qP e]
 refine⟨h.text,by rw[jF];exact h.ports,λi y j => ?_⟩
 dsimp only at j ⊢
 have f:∀z:Xy,p.Xj[i]? = some z->z.Xg=y.Xg->lowX (p.Xj.set k x) i y=false:=λz D e=>by
  have C:=(h.each i z D).2;unfold lowX at C ⊢;rw[prevN_map,q,←prevN_map,←e];exact C
 rw[jK]at j;by_cases e:k=i
 .subst e;rw[qL rfl,qL s]at j;obtain rfl:=qSj j;exact⟨F,f _ (qY s) u.symm⟩
 .rw[qP e]at j;exact⟨(h.each i y j).1,f y j rfl⟩
theorem PlL.set{p:Xk}(h:PlL p){k:Nat}{x:Xy}(j:PortL x):PlL (Xk.mk p.Xd (p.Xj.set k x)):=by
 refine⟨h.rules,h.lines,by rw[jF];exact h.ports,λy f => ?_⟩;rcases List.mem_or_eq_of_mem_set f with q|rfl
 .exact h.port y q
 .exact j
theorem PlL.same{p:Xk}(h:PlL p):SameL p:=⟨⟨h.rules,h.lines⟩,h.ports,λx f=>(h.port x f).q,λx f m j=>((h.port x f).ms m j).1.len⟩
theorem ne_{p:Xk}(h:p.Xj.length<=1000){k:Nat}(f:k<p.Xj.length)(x:Xy):fC_ p (k:Int) x=some (Xk.mk p.Xd (p.Xj.set k x)):=by
 unfold fC_;rw[md_ (by omega) (by omega)];simp only[qBs];rw[aq_ f];rfl
theorem name_one{p:Xk}(h:RightP p){i j:Nat}(hi:i<p.Xj.length){s:tX}(q:p.Xj.findIdx? (gD_ s)=some j)(f:p.Xj[i].Xg=s):i=j:=by
 have:=name_at h hi;rw[f,q]at this;exact(qSj this).symm
end Go.Proofs.YtfbcbakhdkppoaaGreatDoor
