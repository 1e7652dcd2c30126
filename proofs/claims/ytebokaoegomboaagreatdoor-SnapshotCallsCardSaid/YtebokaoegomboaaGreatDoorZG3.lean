/-
 What the statements of this seat hang on,part 3: Rl Rm Rn Rw Ro Rr Dr Rp Rq Sa.
-/
import Derived.Test.YtebokaoegomboaaGreatDoorZG2
namespace Go
namespace Rt
open Go.RowKit
section
variable{P:Program}{E:TE}{z z':Fz}{g g':Ga}{nx:Nat}{w w' w0:World}{H H':Nat->Option (Obj E)}{Bs:List Nat}{F0:Nat->Prop}
theorem nN_{I l m:List Nat}{n:Nat}(h:∀j id,(l++m)[j]? = some id->I[n+j]? = some id):(∀j id,l[j]? = some id->I[n+j]? = some id)/\∀j id,m[j]? = some id->I[n+l.length+j]? = some id:=by
 refine⟨λj id f=>h j id ?_,λj id f => ?_⟩
 .rw[zP (qZ.1 f).1];exact f
 .rw[zO];refine h _ id ?_;rw[zi (by omega)];rw[show l.length+j-l.length=j by omega];exact f
theorem ownC_nil{ts:List Ty}{h:HL E.S ts}{n:Nat}:b3_ E [] ts h n=hlc E ts h:=by cases ts<;>rfl
theorem takeM_nil{ts:List Ty}{cs:List (SC E)}{h:HL E.S ts}(f:cv_ E H ts cs=some h):cr_ E H [] ts cs=some (h,[]):=by
 unfold cr_;rw[f]
theorem takeP_val{px:Bool}{j cs:List (SC E)}{f xs:List (V1 E)}{us vs:List Value}(h:kh_ px j=some (cs,f))(p:All2 (RC P E z g) j us)(m:All2 (R1 P E z g) xs vs):∃us,All2 (R1 P E z g) (f++xs) (us++vs)/\us.length=f.length:=by
 unfold kh_ at h;split at h
 .simp only[qOi,qG]at h;obtain⟨rfl,rfl⟩:=h;exact⟨[],m,rfl⟩
 .simp only[qOi,qG]at h;obtain⟨rfl,rfl⟩:=h;cases p with
  | @cons _ u _ _ q _=>exact⟨[u],.cons q m,rfl⟩
 .cases h
theorem dropP_val{px:Bool}{j cs:List (SC E)}{f:List (V1 E)}{R:V1 E->Value->Prop}{svs:List (V1 E)}{us vs:List Value}(h:kh_ px j=some (cs,f))(p:us.length=f.length)(m:All2 R svs (us++vs)):∃svs',dropP px svs=some svs'/\All2 R svs' vs:=by
 unfold kh_ at h;split at h
 .simp only[qOi,qG]at h;obtain⟨rfl,rfl⟩:=h;obtain rfl:us=[]:=zu.1 p;exact⟨svs,rfl,m⟩
 .simp only[qOi,qG]at h;obtain⟨rfl,rfl⟩:=h
  match us,p with
  | [u],_ =>
   cases m with
   | cons s q=>exact⟨_,rfl,q⟩
 .cases h
theorem hidB_val{id o:Nat}{l:List Nat}(h:hidB (E:=E) [.one (.ptr id o)] l=true):l[0]? = some id:=by
 cases l with
 | nil=>cases h
 | cons i l =>
  simp only[hidB]at h;obtain rfl:=qNb h;rfl
theorem box_val{px:Bool}{q cs:List (SC E)}{h:List (V1 E)}{I:List Nat}{p:Nat}{t:Ty}{m:Mk}{d:HL E.S (E.flat t)×List Nat}{k:Nat}{vs:List Value}(y:HR P E Bs F0 w0 w z g H)(f:kh_ px q=some (cs,h))(C:∀id o,h=[.one (.ptr id o)]->I[p]? = some id)
  (x:cr_ E H m (E.flat t) cs=some d) (u:∀j id,d.2[j]? = some id->I[k+j]? = some id) (s:All2 (RC P E z g) q vs):All2 (RC P E z (gOf g I)) (ptrC E px p++b3_ E m (E.flat t) d.1 k) vs:=by
 unfold kh_ at f;split at f
 .simp only[qOi,qG]at f;obtain⟨rfl,rfl⟩:=f;exact(mw_ y x u s).1
 .rename_i id cs';simp only[qOi,qG]at f;obtain⟨rfl,rfl⟩:=f;cases s with
  | cons J G =>
   obtain⟨l,F,D⟩:=J;refine .cons ⟨l,?_,D⟩ (mw_ y x u G).1;unfold gOf;rw[C id 0 rfl];exact F
 .cases f
theorem takeA_ok {tab:Tab E} (ht:tab.OK P E) (hH:HR P E Bs F0 w0 w z g H) {I:List Nat}:∀{ps:List Pm} {xs:List (V1 E)} {q:PA E ps×List Nat} {vs:List Value} {n:Nat},takeA E tab H ps xs=some q->(∀j id,q.2[j]? = some id->I[n+j]? = some id) ->
  All2 (R1 P E z g) xs vs->(∃svs,ck_ E ps q.1 n=some svs/\All2 (R1 P E z (gOf g I)) svs vs)/\(∀i o,(i,o)∈bC_ E ps q.1 n->∃id o1 o2,I[i]? = some id/\H id=some o1/\o=some o2/\Cor E H I o1 o2)/\q.2.length=ar_ E ps:=by
 intro ps
 induction ps with
 | nil =>
  intro xs q vs n h U hv;cases xs with
  | nil =>
   simp only[takeA,qOi]at h;subst h;cases hv
   exact⟨⟨[],rfl,.nil⟩,λi o s=>by simp[bC_]at s,rfl⟩
  | cons x xs=>simp[takeA]at h
 | cons p ps ih =>
  intro xs q vs n h U hv;cases xs with
  | nil=>cases p<;>simp[takeA]at h
  | cons x xs =>
   cases hv with
   | @cons _ v _ vs' V h2 =>
    cases p with
    | d t =>
     simp only[takeA]at h;split at h
     .rename_i d Z Y G;obtain rfl:=qSj h;obtain⟨⟨svs,F,M⟩,D,J⟩:=ih G U h2;obtain⟨y,e5,e6⟩:=takeD_ok hH Y V (gOf g I);exact⟨⟨y::svs,by simp only[ck_,F,e5],.cons e6 M⟩,D,J⟩
     .cases h
    | l t m =>
     simp only[takeA]at h;split at h
     .rename_i d Z hf Y G;obtain rfl:=qSj h;obtain⟨i1,i2⟩:=nN_ U;obtain⟨e7,e8⟩:=nY_ Y i1;obtain⟨⟨svs,F,M⟩,D,J⟩:=ih G i2 h2;rw[e8]at F D;have O:∀vs,All2 (RC P E z g) x.cs vs->_:=λvs C=>mw_ hH Y i1 C
      obtain⟨y,e5,e6⟩:=asV_ok (z':=z) (g':=gOf g I) (l:=b3_ E m (E.flat t) d.1 n) hf (by
       have:∃vs,All2 (RC P E z g) x.cs vs:=by
        cases x with
        | one c=>exact⟨[v],.cons V .nil⟩
        | agg l=>obtain⟨vs,_,h⟩:=V;exact⟨vs,h⟩
       obtain⟨vs,C⟩:=this;rw[(O vs C).2.1,(O vs C).2.2]) V λvs C=>(O vs C).1
      refine⟨⟨y::svs,by simp only[ck_,F,E.fl_ufl,e5],.cons e6 M⟩,λi o s => ?_,by simp only[qLa,e8,J];rfl⟩;simp only[bC_,qY,E.fl_ufl]at s;rcases s with s|s
      .exact e7 i o s
      .exact D i o s
     .cases h
    | g t m =>
     simp only[takeA]at h;split at h
     .rename_i d Z hf Y G;obtain rfl:=qSj h;obtain⟨i1,i2⟩:=nN_ U;obtain⟨e7,e8⟩:=nY_ Y i1;obtain⟨⟨svs,F,M⟩,D,J⟩:=ih G i2 h2;rw[e8]at F D;have O:∀vs,All2 (RC P E z g) x.cs vs->_:=λvs C=>mw_ hH Y i1 C
      obtain⟨y,e5,e6⟩:=asV_ok (z':=z) (g':=gOf g I) (l:=b3_ E m (E.flat t) d.1 n) hf (by
       have:∃vs,All2 (RC P E z g) x.cs vs:=by
        cases x with
        | one c=>exact⟨[v],.cons V .nil⟩
        | agg l=>obtain⟨vs,_,h⟩:=V;exact⟨vs,h⟩
       obtain⟨vs,C⟩:=this;rw[(O vs C).2.1,(O vs C).2.2]) V λvs C=>(O vs C).1
      refine⟨⟨y::svs,by simp only[ck_,F,E.fl_ufl,e5],.cons e6 M⟩,λi o s => ?_,by simp only[qLa,e8,J];rfl⟩;simp only[bC_,qY,E.fl_ufl]at s;rcases s with s|s
      .exact e7 i o s
      .exact D i o s
     .cases h
    | b T t =>
     cases x with
     | agg l=>simp[takeA]at h
     | one c =>
     cases c with
     | ptr id off =>
      cases off with
      | succ off=>simp[takeA]at h
      | zero =>
      simp only[takeA]at h;split at h
      .rename_i T' cs Z hi G;split at h
       .rename_i Y hb hh;obtain rfl:=qSj h;obtain rfl:=qNb hb;obtain⟨⟨svs,F,M⟩,D,J⟩:=ih (n:=n+1) G (λj id' hj=>by
         have:=U (j+1) id' (by simpa using hj)
         rwa [show n+1+j=n+(j+1)by omega]) h2
        have h0:I[n]? = some id:=by simpa using U 0 id (by simp)
        obtain⟨l,h6,h7⟩:=V;refine⟨⟨.one (.ptr n 0)::svs,by simp only[ck_,F],.cons ⟨l,by unfold gOf;rw[h0];exact h6,h7⟩ M⟩,λi o s => ?_,by simp only[qLc,J,ar_];omega⟩;simp only[bC_,qW,qG]at s;rcases s with⟨rfl,rfl⟩|s
        .exact⟨id,_,_,h0,hi,rfl,false,_,[],0,t,[],(Y,[]),0,rfl,(λ_ _ e=>nomatch e),takeM_nil hh,by rw[ownC_nil];unfold TE.cells;rw[E.fl_ufl];rfl,λj id' hj=>by simp at hj⟩
        .exact D i o s
       .cases h
      .cases h
     | _=>simp[takeA]at h
    | bm T t m px =>
     cases x with
     | agg l=>simp[takeA]at h
     | one c =>
     cases c with
     | ptr id off =>
      cases off with
      | succ off=>simp[takeA]at h
      | zero =>
      simp only[takeA]at h;split at h
      .rename_i T' ZQ hi;split at h
       .rename_i cs ZY hP;split at h
        .rename_i Z G;split at h
         .rename_i d hb Y;obtain rfl:=qSj h;simp only[qAn]at hb;obtain⟨hb,ZX⟩:=hb;obtain rfl:=qNb hb;have ZU:∀j id',(d.2++Z.2)[j]? = some id'->I[n+1+j]? = some id':=λj id' hj=>by
           have:=U (j+1) id' (by simpa using hj)
           rwa [show n+1+j=n+(j+1)by omega]
          obtain⟨i1,i2⟩:=nN_ ZU;obtain⟨e7,e8⟩:=nY_ (n:=n+1) Y i1;obtain⟨ZR,h3,h4⟩:∃us,All2 (R1 P E z g) (ZY++xs) (us++vs')/\us.length=ZY.length:=by
           obtain⟨lb,vsb,_,_,ZV⟩:=hH.hold _ _ hi;exact takeP_val hP ZV h2
          obtain⟨⟨svs,F,M⟩,D,J⟩:=ih G i2 h3;rw[e8]at F D;have h0:I[n]? = some id:=by simpa using U 0 id (by simp)
          obtain⟨l,h6,h7⟩:=V;obtain⟨svs',e5,e6⟩:=dropP_val hP h4 M;refine⟨⟨.one (.ptr n 0)::svs',by simp only[ck_,F,e5],.cons ⟨l,by unfold gOf;rw[h0];exact h6,h7⟩ e6⟩,λi o s => ?_,by simp only[qLc,qLa,e8,J,ar_];omega⟩;simp only[bC_,qW,qY,qG,E.fl_ufl]at s;rcases s with⟨rfl,rfl⟩|s|s
          .exact⟨id,_,_,h0,hi,rfl,_,cs,ZY,_,t,m,d,_,hP,(λZW o2 e=>by
            subst e;rw[e8]at i2;exact i2 0 ZW (hidB_val ZX)),Y,rfl,i1⟩
          .exact e7 i o s
          .exact D i o s
         .cases h
        .cases h
       .cases h
      .cases h
     | _=>simp[takeA]at h
    | mp T k v =>
     cases x with
     | agg l=>simp[takeA]at h
     | one c =>
     cases c with
     | mp id =>
      simp only[takeA]at h;split at h
      .rename_i T' k' v' ks vs foc Z hi G;split at h
       .rename_i ht;obtain⟨rfl,rfl⟩:=ht;split at h
        .rename_i hb;obtain rfl:=qSj h;obtain rfl:=qNb hb;obtain⟨⟨svs,F,M⟩,D,J⟩:=ih (n:=n+1) G (λj id' hj=>by
          have:=U (j+1) id' (by simpa using hj)
          rwa [show n+1+j=n+(j+1)by omega]) h2
         have h0:I[n]? = some id:=by simpa using U 0 id (by simp)
         obtain⟨l,h6,h7⟩:=V;refine⟨⟨.one (.mp n)::svs,by simp only[ck_,F],.cons ⟨l,by unfold gOf;rw[h0];exact h6,h7⟩ M⟩,λi o s => ?_,by simp only[qLc,J,ar_];omega⟩;simp only[bC_,qW,qG]at s;rcases s with⟨rfl,rfl⟩|s
         .exact⟨id,_,_,h0,hi,rfl,rfl⟩
         .exact D i o s
        .cases h
       .cases h
      .cases h
     | _=>simp[takeA]at h
    | p t =>
     cases x with
     | agg l=>simp[takeA]at h
     | one c =>
     cases c with
     | elf t' x' off =>
      cases off with
      | succ off=>simp[takeA]at h
      | zero =>
      simp only[takeA]at h;split at h
      .rename_i ZZ;subst ZZ;split at h
       .rename_i Z G;obtain rfl:=qSj h;obtain⟨⟨svs,F,M⟩,D,J⟩:=ih G U h2;exact⟨⟨.one (.elf t' x' 0)::svs,by simp only[ck_,F],.cons V M⟩,D,J⟩
       .cases h
      .cases h
     | ptr id off =>
      cases off with
      | succ off=>simp[takeA]at h
      | zero =>
      simp only[takeA]at h;split at h
      .rename_i t' x' hi;split at h
       .rename_i ZZ;subst ZZ;split at h
        .rename_i Z G;obtain rfl:=qSj h;obtain⟨⟨svs,F,M⟩,D,J⟩:=ih G U h2;obtain⟨l,h7,rfl⟩:=V;obtain⟨l',r,h8,h9,ZS,ZT⟩:=hH.hold _ _ hi;rw[h7]at h8;obtain rfl:=qSj h8;exact⟨⟨.one (.elf t' x' 0)::svs,by simp only[ck_,F],.cons ⟨l.b,0,r,rfl,h9,ZS,λj u hj=>by rw[qg];exact ZT j u hj⟩ M⟩,D,J⟩
        .cases h
       .cases h
      .cases h
     | _=>simp[takeA]at h
    | f1 a r =>
     cases x with
     | agg l=>simp[takeA]at h
     | one c =>
      simp only[takeA]at h;split at h
      .rename_i f Z hf G;obtain rfl:=qSj h;obtain⟨⟨svs,F,M⟩,D,J⟩:=ih G U h2;exact⟨⟨.one (.fn1 a r f)::svs,by simp only[ck_,F],.cons (takeF1_ok ht hH hf V) M⟩,D,J⟩
      .cases h
    | f2 a c r =>
     cases x with
     | agg l=>simp[takeA]at h
     | one c =>
      simp only[takeA]at h;split at h
      .rename_i f Z hf G;obtain rfl:=qSj h;obtain⟨⟨svs,F,M⟩,D,J⟩:=ih G U h2;exact⟨⟨.one (.fn2 a _ r f)::svs,by simp only[ck_,F],.cons (takeF2_ok ht hH hf V) M⟩,D,J⟩
      .cases h
theorem jZ_{i:Nat}{o:Obj E}:∀{l:Chs E},upH (λ_=>none) l i=some o->(i,some o)∈l
 | [],h=>by cases h
 | (j,p)::l,h=>by
  simp only[upH]at h;split at h
  .rename_i f;obtain rfl:=qNb f;subst h;exact qE ..
  .exact qC _ (jZ_ h)
def blk(H:Nat->Option (Obj E))(g:Ga)(id:Nat):List Nat:=match H id,g id with
 | some (.row ..),some l=>match l.A with
  | some a=>[a.block]
  | none=>[]
 | some (.box ..),some l=>[l.b]
 | some (.map ..),some l=>[l.b]
 | _,_=>[]
theorem mem_blk{id k:Nat}:k∈blk H g id↔∃o,H id=some o/\fpO g id o k:=by
 unfold blk;cases hi:H id with
 | none=>simp
 | some o =>
  cases f:g id with
  | none=>cases o<;>simp[fpO,f]
  | some l =>
   cases o with
   | box T cs=>simp[fpO,f]
   | row e t xs foc =>
    cases h:l.A with
    | none=>simp[fpO,f,h]
    | some a=>simp[fpO,f,h]
   | fr t xs=>simp[fpO]
   | fb t x=>simp[fpO]
   | map T k v ks vs foc=>simp[fpO,f]
theorem rR_{I:List Nat}(h:nodupB I=true):∀{i j id:Nat},I[i]? = some id->I[j]? = some id->i=j:=by
 induction I with
 | nil=>intro i j id h;simp at h
 | cons x I q =>
  intro i j id hi f;simp only[nodupB,qAn,qH]at h;have m:∀k,I[k]? = some x->False:=λk s=>by
   have:=qb s;have p:=h.1;simp at p;exact p this
  cases i with
  | zero =>
   cases j with
   | zero=>rfl
   | succ j=>simp at hi f;subst hi;exact(m j f).elim
  | succ i =>
   cases j with
   | zero=>simp at hi f;subst f;exact(m i hi).elim
   | succ j=>simp at hi f;rw[q h.2 hi f]
theorem Cor.obj{I:List Nat}{i id:Nat}{C o2:Obj E}(U:HR P E Bs F0 w0 w z g H)(j:Cor E H I C o2)(hi:I[i]? = some id)(h:ObjR P E z g w id C):ObjR P E z (gOf g I) w i o2/\∀k,fpO (gOf g I) i o2 k↔fpO g id C k:=by
 have f:gOf g I i=g id:=by unfold gOf;rw[hi]
 cases C with
 | row e t xs foc =>
  simp only[Cor]at j;subst j;obtain⟨l,rows,y,F,D,u,s,Y,V,_⟩:=h;refine⟨⟨l,rows,by rw[f];exact y,F,D,u,s,Y,V,λp q=>nomatch q⟩,λk => ?_⟩;simp only[fpO,f]
 | box T cs =>
  obtain⟨px,cs',J,p,t,m,d,k,O,q,M,rfl,G⟩:=j;obtain⟨l,vs,y,u,s⟩:=h;exact⟨⟨l,vs,by rw[f];exact y,u,box_val U O q M G s⟩,λk=>by simp only[fpO,f]⟩
 | fr t xs=>exact j.elim
 | fb t x=>exact j.elim
 | map T k v ks vs foc =>
  obtain rfl:o2 = .map T k v ks vs []:=j;obtain⟨l,es,c,y,u,s,_⟩:=h;exact⟨⟨l,es,c,by rw[f];exact y,u,s,λp q=>nomatch q⟩,λk=>by simp only[fpO,f]⟩
theorem HR.entry(x:HR P E Bs F0 w0 w z g H){I:List Nat}(V:nodupB I=true){l:Chs E}(Y:∀i o,(i,o)∈l->∃id f o2,I[i]? = some id/\H id=some f/\o=some o2/\Cor E H I f o2) :
  HR P E (I.map (blk H g)).flatten z.F w w z (gOf g I) (upH (λ_=>none) l):=by
 have key:∀i o,upH (λ_=>none) l i=some o->∃id f,I[i]? = some id/\H id=some f/\ObjR P E z (gOf g I) w i o/\∀k,fpO (gOf g I) i o k↔fpO g id f k:=λi o h=>by
  obtain⟨id,f,o2,u,m,h3,Z⟩:=Y i _ (jZ_ h);obtain rfl:=qSj h3;obtain⟨J,s⟩:=Z.obj x u (x.hold _ _ m);exact⟨id,f,u,m,J,s⟩
 refine⟨Chg.of_below (Below.refl _ _),λi o h => ?_,λi o k h q => ?_,λi j o p k D h h' q C => ?_,x.fz,λk q => .inl q,λi o k h q U => ?_,x.gl⟩
 .obtain⟨_,_,_,_,J,_⟩:=key i o h;exact J
 .obtain⟨id,f,u,m,_,s⟩:=key i o h
  right
  refine jE.2 ⟨blk H g id,qz.2 ⟨id,qb u,rfl⟩,?_⟩;exact mem_blk.2 ⟨f,m,(s k).1 q⟩
 .obtain⟨id,f,u,m,_,s⟩:=key i o h;obtain⟨id',y,O,M,_,G⟩:=key j p h';refine x.apart id id' f y k (λe => ?_) m M ((s k).1 q) ((G k).1 C);subst e;exact D (rR_ V u O)
 .obtain⟨id,f,u,m,_,s⟩:=key i o h;exact x.fza id f k m ((s k).1 q) U
theorem lp_{I:List Nat}{k:Nat}(h:k∈(I.map (blk H g)).flatten):∃(i id:Nat) (o:Obj E),I[i]? = some id/\H id=some o/\fpO g id o k:=by
 obtain⟨l,j,m⟩:=jE.1 h;obtain⟨id,f,rfl⟩:=qz.1 j;obtain⟨i,hi⟩:=qM.1 f;obtain⟨o,q,p⟩:=mem_blk.1 m;exact⟨i,id,o,hi,q,p⟩
theorem HR.back2{zb z2:Fz}{g1 g2:Ga}{Hb H1 H2:Nat->Option (Obj E)}{M:List Nat}{Fe:Nat->Prop}{I:List Nat}{s:Nat->Nat->Prop}(x:HR P E Bs F0 w0 w zb g Hb)(hx:HR P E M Fe w w' z' g1 H1)
  (hB:∀k,k∈M->∃id o,id∈I/\Hb id=some o/\fpO g id o k) (hg:g.Le g2)
  (hH:∀j o,H2 j=some o->(∃i C,s j i/\H1 i=some C/\(ObjR P E z2 g2 w' j o/\∀k,fpO g2 j o k↔fpO g1 i C k))\/(j∉I/\Hb j=some o)) (hs:∀j O i,s j i->s O i->j=O)
  (hz:zb.Le z2) (ZV:z2.In w') (Y:∀k,z2.F k->zb.F k\/((w.heap.size<=k\/k∈M)/\z'.F k)):HR P E Bs F0 w0 w' z2 g2 H2:=by
 have U:∀j o k,Hb j=some o->fpO g j o k->k<w.heap.size:=λj o k h m=>(x.hold j o h).lt m
 have G:∀j o k,j∉I->Hb j=some o->fpO g j o k->k∉M:=λj o k hj h m Z=>by
  obtain⟨id,o',u,f,q⟩:=hB k Z;exact x.apart j id o o' k (λe=>hj (e▸u)) h f m q
 have J:∀j o k,Hb j=some o->(fpO g2 j o k↔fpO g j o k):=λj o k h=>mv_ (x.hold j o h).loc hg
 have new:∀i C k,H1 i=some C->fpO g1 i C k->w.heap.size<=k\/k∈M:=λi C k f q=>hx.own i C k f q
 refine⟨⟨x.chg.grow.trans hx.chg.grow,λk m hn => ?_⟩,λj o h => ?_,λj o k h m => ?_,λj O o p k hj h h' m D => ?_,ZV,λk m => ?_,λj o k h m ZX => ?_,x.gl.le hz⟩
 .rw[hx.chg.block k (zK m x.size) λZ => ?_]
  .exact x.chg.block k m hn
  .obtain⟨id,o',u,f,q⟩:=hB k Z;rcases x.own id o' k f q with h4|h4
   .omega
   .exact hn h4
 .rcases hH j o h with⟨i,C,u,f,V⟩|⟨u,f⟩
  .exact V.1
  .exact(x.hold j o f).keep hz hg λk m=>hx.chg.block k (U j o k f m) (G j o k u f m)
 .rcases hH j o h with⟨i,C,u,f,V⟩|⟨u,f⟩
  .rcases new i C k f ((V.2 k).1 m)with q|q
   .exact .inl (qt x.size q)
   .obtain⟨id,o',h4,h5,h6⟩:=hB k q;exact x.own id o' k h5 h6
  .exact x.own j o k f ((J j o k f).1 m)
 .rcases hH j o h with⟨i,C,u,f,V⟩|⟨u,f⟩<;>rcases hH O p h' with⟨i',ZY,ZZ,y,ZW⟩|⟨ZZ,y⟩
  .refine hx.apart i i' C ZY k (λe=>hj (hs j O i u (e▸ZZ))) f y ((V.2 k).1 m) ((ZW.2 k).1 D)
  .have D:=(J O p k y).1 D;rcases new i C k f ((V.2 k).1 m)with q|q
   .have:=U O p k y D;omega
   .exact G O p k ZZ y D q
  .have m:=(J j o k f).1 m;rcases new i' ZY k y ((ZW.2 k).1 D)with q|q
   .have:=U j o k f m;omega
   .exact G j o k u f m q
  .exact x.apart j O o p k hj f y ((J j o k f).1 m) ((J O p k y).1 D)
 .rcases Y k m with u|⟨u|u,_⟩
  .exact x.fz0 k u
  .exact .inr (.inl (qt x.size u))
  .obtain⟨id,o',_,h5,h6⟩:=hB k u;exact .inr (x.own id o' k h5 h6)
 .rcases hH j o h with⟨i,C,u,f,V⟩|⟨u,f⟩
  .rcases Y k ZX with q|⟨_,q⟩
   .rcases new i C k f ((V.2 k).1 m)with h4|h4
    .have:=(x.fz k q).1;omega
    .obtain⟨id,o',_,h6,h7⟩:=hB k h4;exact x.fza id o' k h6 h7 q
   .exact hx.fza i C k f ((V.2 k).1 m) q
  .have m:=(J j o k f).1 m;rcases Y k ZX with q|⟨q|q,_⟩
   .exact x.fza j o k f m q
   .have:=U j o k f m;omega
   .exact G j o k u f m q
theorem HR.back{zb z2:Fz}{D m:Ga}{Hb u G:Nat->Option (Obj E)}{f:List Nat}{Fe:Nat->Prop}{I:List Nat}{s:Nat->Nat->Prop}(V:HR P E Bs F0 w0 w zb g Hb)(M:HR P E f Fe w w' z' D u)
  (hB:∀k,k∈f->∃id o,id∈I/\Hb id=some o/\fpO g id o k) (U:g.Le m)
  (Z:∀j o,G j=some o->(∃i,s j i/\u i=some o)\/(j∉I/\Hb j=some o)) (O:∀j x i,s j i->s x i->j=x)
  (Y:∀j i o,s j i->u i=some o->ObjR P E z2 m w' j o/\∀k,fpO m j o k↔fpO D i o k)
  (J:zb.Le z2) (q:z2.In w') (p:∀k,z2.F k->zb.F k\/((w.heap.size<=k\/k∈f)/\z'.F k)):HR P E Bs F0 w0 w' z2 m G :=
 V.back2 M hB U (λj o h=>(Z j o h).imp (λ⟨i,C,y⟩=>⟨i,o,C,y,Y j i o C y⟩) id) O J q p
def hX_ (E:TE) (H:Nat->Option (Obj E)):List Nat->Chs E
 | []=>[]
 | id::ids=>(match upH H (hX_ E H ids) id with
  | some (.box T cs)=>match E.ty T with
   | some t=>match cv_ E (upH H (hX_ E H ids)) (E.flat t) cs with
    | some h=>[(id,some (.fb t (E.ufl t h)))]
    | none=>[]
   | none=>[]
  | _=>[])++hX_ E H ids
theorem qu_(h:HR P E Bs F0 w0 w z g H):∀(l:List Nat),∃z',z.Le z'/\HR P E Bs F0 w0 w z' g (upH H (hX_ E H l))
 | []=>⟨z,Fz.Le.refl z,h⟩
 | id :: l=>by
  obtain⟨p,m,f⟩:=qu_ h l;unfold hX_;split
  .rename_i T cs hi;split
   .rename_i t D;split
    .rename_i C y;refine⟨_,m.trans (f.fz.grow_le _),f.freezeBox (t:=t) (x:=E.ufl t C) hi (λvs s => ?_) λj q u => ?_⟩
     .rw[E.fl_ufl];exact ep_ f y s
     .rw[←aV_]at u;exact cg_ u
    .exact⟨p,m,f⟩
   .exact⟨p,m,f⟩
  .exact⟨p,m,f⟩
def unM:Mk->List (SC E)->List (SC E)|some _::f,_::cs=>unM f cs|none::f,c::cs=>c::unM f cs | [],cs=>cs|_,[]=>[]
def frzF(E:TE)(H:Nat->Option (Obj E)):List (SC E)->Chs E | [.clo _ ids]=>hX_ E H ids | [.ptr id 0]=>hX_ E H [id]|_=>[]
def frzB(E:TE)(H:Nat->Option (Obj E))(m:Mk):List (SC E)->Chs E
 | [.ptr id 0]=>match H id with
  | some (.box _ (.ptr _ _::cs))=>eE_ H (unM m cs)
  | some (.box _ cs)=>eE_ H (unM m cs)
  | _=>[]
 | _=>[]
def frzQ(E:TE)(H:Nat->Option (Obj E)):Pm->V1 E->Chs E | .d _,x=>eE_ H x.cs | .l _ m,x=>eE_ H (unM m x.cs) | .g _ m,x=>eE_ H (unM m x.cs) | .b _ _,_=>[] | .bm _ _ m _,x=>frzB E H m x.cs | .mp _ _ _,_=>[]|_,x=>frzF E H x.cs
def hidX(H:Nat->Option (Obj E))(px:Bool)(id:Nat):List (V1 E):=match px,H id with|true,some (.box _ (.ptr f 0::_))=>[.one (.ptr f 0)]|_,_=>[]
def hidP(H:Nat->Option (Obj E))(p:Pm)(ps:List Pm)(x:V1 E):List (V1 E):=match p,x with | .bm _ _ _ px,.one (.ptr id 0)=>hidX H (pxB px ps) id|_,_=>[]
def frzP(E:TE)(H:Nat->Option (Obj E)):List Pm->List (V1 E)->Chs E|p::ps,x::xs=>frzQ E (upH H (frzP E H ps (hidP H p ps x++xs))) p x++frzP E H ps (hidP H p ps x++xs)|_,_=>[]
theorem frzF_ok(h:HR P E Bs F0 w0 w z g H)(l:List (SC E)):∃z',z.Le z'/\HR P E Bs F0 w0 w z' g (upH H (frzF E H l)):=by
 unfold frzF;split
 .exact qu_ h _
 .exact qu_ h _
 .exact⟨z,Fz.Le.refl z,h⟩
theorem frzB_ok(h:HR P E Bs F0 w0 w z g H)(m:Mk)(l:List (SC E)):∃z',z.Le z'/\HR P E Bs F0 w0 w z' g (upH H (frzB E H m l)):=by
 unfold frzB;split
 .split
  .exact eg_ h _
  .exact eg_ h _
  .exact⟨z,Fz.Le.refl z,h⟩
 .exact⟨z,Fz.Le.refl z,h⟩
theorem frzQ_ok(h:HR P E Bs F0 w0 w z g H)(p:Pm)(x:V1 E):∃z',z.Le z'/\HR P E Bs F0 w0 w z' g (upH H (frzQ E H p x)):=by
 cases p with
 | d t=>exact eg_ h _
 | l t m=>exact eg_ h _
 | g t m=>exact eg_ h _
 | b T t=>exact⟨z,Fz.Le.refl z,h⟩
 | bm T t m px=>exact frzB_ok h _ _
 | mp T k v=>exact⟨z,Fz.Le.refl z,h⟩
 | p t=>exact frzF_ok h _
 | f1 a r=>exact frzF_ok h _
 | f2 a b r=>exact frzF_ok h _
theorem frzP_ok(h:HR P E Bs F0 w0 w z g H):∀(ps:List Pm) (xs:List (V1 E)),∃z',z.Le z'/\HR P E Bs F0 w0 w z' g (upH H (frzP E H ps xs))
 | [],_=>⟨z,Fz.Le.refl z,h⟩
 | _::_,[]=>⟨z,Fz.Le.refl z,h⟩
 | p::ps,x::xs=>by
  obtain⟨s,q,m⟩:=frzP_ok h ps (hidP H p ps x++xs);obtain⟨z2,j,f⟩:=frzQ_ok m p x;rw[aV_]at f;exact⟨z2,q.trans j,f⟩
def OnlyF(u:Chs E):Prop:=∀i o,(i,o)∈u->(∃t xs,o=some (.fr t xs))\/∃t x,o=some (.fb t x)
theorem OnlyF.append{u v:Chs E}(h:OnlyF u)(f:OnlyF v):OnlyF (u++v):=λi o hm=>by
 rcases qY.1 hm with hm|hm
 .exact h i o hm
 .exact f i o hm
theorem frz1_only(H:Nat->Option (Obj E))(c:SC E):OnlyF (frz1 H c):=by
 unfold frz1;split
 .split
  .intro i o hm;simp only[qD,qG]at hm;exact .inl ⟨_,_,hm.2⟩
  .intro i o hm;cases hm
 .intro i o hm;cases hm
theorem j0_(H:Nat->Option (Obj E)):∀(l:List (SC E)),OnlyF (eE_ H l)
 | []=>λi o hm=>by cases hm
 | c::l=>(frz1_only _ c).append (j0_ H l)
theorem n0_(H:Nat->Option (Obj E)):∀(l:List Nat),OnlyF (hX_ E H l)
 | []=>λi o hm=>by cases hm
 | id::l=>by
  unfold hX_;refine OnlyF.append ?_ (n0_ H l);split
  .split
   .split
    .intro i o hm;simp only[qD,qG]at hm;exact .inr ⟨_,_,hm.2⟩
    .intro i o hm;cases hm
   .intro i o hm;cases hm
  .intro i o hm;cases hm
theorem rS_(H:Nat->Option (Obj E))(l:List (SC E)):OnlyF (frzF E H l):=by
 unfold frzF;split
 .exact n0_ H _
 .exact n0_ H _
 .intro i o hm;cases hm
theorem frzB_only(H:Nat->Option (Obj E))(m:Mk)(l:List (SC E)):OnlyF (frzB E H m l):=by
 unfold frzB;split
 .split
  .exact j0_ H _
  .exact j0_ H _
  .intro i o hm;cases hm
 .intro i o hm;cases hm
theorem frzP_only(H:Nat->Option (Obj E)):∀(ps:List Pm) (xs:List (V1 E)),OnlyF (frzP E H ps xs)
 | [],_=>λi o hm=>by simp[frzP]at hm
 | _::_,[]=>λi o hm=>by simp[frzP]at hm
 | p::ps,x::xs=>by
  refine OnlyF.append ?_ (frzP_only H ps (hidP H p ps x++xs));cases p with
  | d t=>exact j0_ _ _
  | l t m=>exact j0_ _ _
  | g t m=>exact j0_ _ _
  | b T t=>intro i o hm;cases hm
  | bm T t m px=>exact frzB_only _ _ _
  | mp T k v=>intro i o hm;cases hm
  | p t=>exact rS_ _ _
  | f1 a r=>exact rS_ _ _
  | f2 a b r=>exact rS_ _ _
theorem upH_or{i:Nat}{o:Obj E}:∀{u:Chs E},upH H u i=some o->H i=some o\/(i,some o)∈u
 | [],h => .inl h
 | (j,p)::u,h=>by
  simp only[upH]at h;split at h
  .rename_i f;obtain rfl:=qNb f;subst h;exact .inr (qE ..)
  .rcases upH_or h with h|h
   .exact .inl h
   .exact .inr (qC _ h)
theorem RD.flat:∀{ts:List Ty} {h:HL E.S ts} {vs:List Value},ts.all Ty.flatB=true->RD E z ts h vs->RD E z' ts h vs
 | [],h,vs,_,r=>by rw[r.nil_inv];exact .nil
 | .int k::ts,h,vs,f,r=>by
  obtain⟨vs',rfl,r'⟩:=r.int_inv;exact .int (RD.flat (by simpa[Ty.flatB]using f) r')
 | .bool::ts,h,vs,f,r=>by
  obtain⟨vs',rfl,r'⟩:=r.bool_inv;exact .bool (RD.flat (by simpa[Ty.flatB]using f) r')
 | .str::ts,h,vs,f,r=>by
  obtain⟨vs',rfl,r'⟩:=r.str_inv;exact .str (RD.flat (by simpa[Ty.flatB]using f) r')
 | .sl e::ts,h,vs,f,r=>by simp[Ty.flatB]at f
 | .st n::ts,h,vs,f,r=>by simp[Ty.flatB]at f
def flatT(E:TE)(t:Ty):Bool:=(E.flat t).all Ty.flatB
theorem Rows.flat{t:Ty}{xs:List (Den E.S t)}{rows:List (List Value)}(f:flatT E t=true)(h:Rows E z t xs rows):Rows E z' t xs rows:=λi x r m j=>(h i x r m j).flat f
def hY_(E:TE):Mk->List Ty->Bool|some _::f,.sl t::ts=>flatT E t&&hY_ E f ts|none::f,t::ts=>t.flatB&&hY_ E f ts|_,ts=>ts.all Ty.flatB
def nh_(E:TE):Mk->List Ty->Bool|some _::f,.sl t::ts=>flatT E t&&nh_ E f ts|none::f,_::ts=>nh_ E f ts|_,_=>true
def ki_(E:TE):Rs->Bool | []=>true|p::rs=>hY_ E p.2 (E.flat p.1)&&ki_ E rs
def fJ_(E:TE):List Pm->Bool | []=>true | .l t m::ps=>nh_ E m (E.flat t)&&fJ_ E ps | .g _ _::ps=>fJ_ E ps | .b _ t::ps=>flatT E t&&fJ_ E ps | .bm _ t m _::ps=>hY_ E m (E.flat t)&&fJ_ E ps|_::ps=>fJ_ E ps
theorem flatM_O:∀{m:Mk} {ts:List Ty},hY_ E m ts=true->nh_ E m ts=true:=by
 intro m
 induction m with
 | nil=>intro ts _;cases ts<;>rfl
 | cons a m f =>
  intro ts h;cases ts with
  | nil=>cases a<;>rfl
  | cons t ts =>
   cases a with
   | none=>simp only[hY_,qAn]at h;simp only[nh_];exact f h.2
   | some e =>
    cases t with
    | sl t=>simp only[hY_,qAn]at h;simp only[nh_,qAn];exact⟨h.1,f h.2⟩
    | _=>rfl
def FlatC:SC E->Prop | .dt t _=>t.flatB=true | .own _=>True | .ptr _ _=>True|_=>False
def lq_(E:TE):Obj E->Prop | .row _ t _ foc=>flatT E t=true/\foc=[] | .map _ _ _ _ _ foc=>foc=[] | .box _ cs=>∀c∈cs,FlatC c|_=>False
theorem qw_:∀{ts:List Ty} {h:HL E.S ts},ts.all Ty.flatB=true->∀c∈hlc E ts h,FlatC c
 | [],_,_,_,f=>by cases f
 | t::ts,h,j,c,f=>by
  simp only[jY,qAn]at j;simp only[hlc]at f;rcases qW.1 f with rfl|f
  .exact j.1
  .exact qw_ j.2 c f
theorem ownC_flat{m:Mk}:∀{ts:List Ty} {h:HL E.S ts} {n:Nat},hY_ E m ts=true->∀c∈b3_ E m ts h n,FlatC c:=by
 induction m with
 | nil=>intro ts h n j;cases ts<;>exact qw_ j
 | cons a m p =>
  intro ts h n j;cases ts with
  | nil=>cases a<;>(intro c f;cases f)
  | cons t ts =>
   cases a with
   | none =>
    simp only[hY_,qAn]at j;intro c f;simp only[b3_]at f;rcases qW.1 f with rfl|f
    .exact j.1
    .exact p j.2 c f
   | some e =>
    cases t with
    | sl t =>
     simp only[hY_,qAn]at j;intro c f;simp only[b3_]at f;rcases qW.1 f with rfl|f
     .trivial
     .exact p j.2 c f
    | _=>exact qw_ j
theorem rT_{m:Mk}:∀{ts:List Ty} {h:HL E.S ts} {n:Nat},nh_ E m ts=true->∀i o,(i,o)∈bw_ E m ts h n->∃p,o=some p/\lq_ E p:=by
 induction m with
 | nil=>intro ts h n _ i o f;cases ts<;>simp[bw_]at f
 | cons a m q =>
  intro ts h n j i o f;cases ts with
  | nil=>cases a<;>simp[bw_]at f
  | cons t ts =>
   cases a with
   | none=>simp only[nh_]at j;simp only[bw_]at f;exact q j i o f
   | some e =>
    cases t with
    | sl t =>
     simp only[nh_,qAn]at j;simp only[bw_,qW,qG]at f;rcases f with⟨rfl,rfl⟩|f
     .exact⟨_,rfl,j.1,rfl⟩
     .exact q j.2 i o f
    | _=>simp[bw_]at f
theorem rU_:∀{rs:Rs} {h:HL E.S rs.ts} {n:Nat},ki_ E rs=true->∀i o,(i,o)∈dp_ E rs h n->∃p,o=some p/\lq_ E p
 | [],h,n,_,i,o,f=>by simp[dp_]at f
 | (t,m)::rs,h,n,j,i,o,f=>by
  simp only[ki_,qAn]at j;simp only[dp_,qY]at f;rcases f with f|f
  .exact rT_ (flatM_O j.1) i o f
  .exact rU_ j.2 i o f
theorem dq_:∀{ps:List Pm} {a:PA E ps} {n k:Nat},fJ_ E ps=true->∀i o,(i,o)∈bd_ E ps a n k->∃p,o=some p/\lq_ E p
 | [],a,n,k,_,i,o,f=>by simp[bd_]at f
 | .l t m::ps,a,n,k,h,i,o,f=>by
  simp only[fJ_,qAn]at h;simp only[bd_,qY]at f;rcases f with f|f
  .exact rT_ h.1 i o f
  .exact dq_ h.2 i o f
 | .b T t::ps,a,n,k,h,i,o,f=>by
  simp only[fJ_,qAn]at h;simp only[bd_,qW,qG]at f;rcases f with⟨rfl,rfl⟩|f
  .exact⟨_,rfl,qw_ h.1⟩
  .exact dq_ h.2 i o f
 | .bm T t m px::ps,a,n,k,h,i,o,f=>by
  simp only[fJ_,qAn]at h;simp only[bd_,qW,qY,qG]at f;rcases f with⟨rfl,rfl⟩|f|f
  .refine⟨_,rfl,λc j => ?_⟩;rcases qY.1 j with j|j
   .cases q:pxB px ps<;>rw[q]at j
    .cases j
    .obtain rfl:=qD.1 j
     trivial
   .exact ownC_flat h.1 c j
  .exact rT_ (flatM_O h.1) i o f
  .exact dq_ h.2 i o f
 | .g t m::ps,a,n,k,h,i,o,f=>dq_ (ps:=ps) (a:=a.2) h i o f
 | .mp T kt v::ps,a,n,k,h,i,o,f=>by
  simp only[bd_,qW,qG]at f;rcases f with⟨rfl,rfl⟩|f
  .exact⟨_,rfl,rfl⟩
  .exact dq_ (ps:=ps) h i o f
 | .d t::ps,a,n,k,h,i,o,f=>dq_ (ps:=ps) (a:=a.2) h i o f
 | .p t::ps,a,n,k,h,i,o,f=>dq_ (ps:=ps) (a:=a.2) h i o f
 | .f1 x r::ps,a,n,k,h,i,o,f=>dq_ (ps:=ps) (a:=a.2) h i o f
 | .f2 x y r::ps,a,n,k,h,i,o,f=>dq_ (ps:=ps) (a:=a.2) h i o f
def PlainC(K:Nat->Prop):SC E->Prop | .dt _ _=>True | .own id=>K id | .ptr id _=>K id|_=>False
theorem oM_{K:Nat->Prop}:∀{ts:List Ty} {h:HL E.S ts},∀c∈hlc E ts h,PlainC K c
 | [],_,_,f=>by cases f
 | t::ts,h,c,f=>by
  simp only[hlc]at f;rcases qW.1 f with rfl|f
  .trivial
  .exact oM_ c f
theorem ownC_plain{K:Nat->Prop}{m:Mk}:∀{ts:List Ty} {h:HL E.S ts} {n:Nat},(∀i,i<aJ_ m ts->K (n+i))->∀c∈b3_ E m ts h n,PlainC K c:=by
 induction m with
 | nil=>intro ts h n _;cases ts<;>exact oM_
 | cons a m p =>
  intro ts h n j;cases ts with
  | nil=>cases a<;>(intro c f;cases f)
  | cons t ts =>
   cases a with
   | none =>
    intro c f;simp only[b3_]at f;rcases qW.1 f with rfl|f
    .trivial
    .exact p j c f
   | some e =>
    cases t with
    | sl t =>
     intro c f;simp only[b3_]at f;rcases qW.1 f with rfl|f
     .exact j 0 (by simp only[aJ_];omega)
     .refine p (n:=n+1) (λi hi => ?_) c f;have:=j (i+1) (by simp only[aJ_];omega)
      rwa [show n+1+i=n+(i+1)by omega]
    | _=>exact oM_
theorem RC.ren{K:Nat->Prop}{s:Nat->Nat}{c:SC E}{v:Value}(j:PlainC K c)(q:∀i l,K i->g i=some l->g' (s i)=some l)(f:z=z'\/FlatC c)(h:RC P E z g c v):RC P E z' g' (SC.ren s c) v:=by
 cases c with
 | dt t x =>
  rcases f with rfl|f
  .exact h
  .exact RD.flat (ts:=[t]) (by simpa[FlatC]using f) h
 | own id =>
  obtain⟨l,p,m⟩:=h;exact⟨l,q id l j p,m⟩
 | ptr id off =>
  obtain⟨l,p,m⟩:=h;exact⟨l,q id l j p,m⟩
 | _=>exact j.elim
theorem RCs.ren{K:Nat->Prop}{s:Nat->Nat}(q:∀i l,K i->g i=some l->g' (s i)=some l):∀{cs:List (SC E)} {vs:List Value},(∀c∈cs,PlainC K c)->(z=z'\/∀c∈cs,FlatC c)->All2 (RC P E z g) cs vs->All2 (RC P E z' g') (cs.map (SC.ren s)) vs
 | [],_,_,_,h=>by cases h;exact .nil
 | c::cs,_,p,m,h=>by
  cases h with
  | cons x u=>exact .cons (x.ren (p c (qE ..)) q (m.imp id λf=>f c (qE ..))) (RCs.ren q (λd j=>p d (qC _ j)) (m.imp id λf d j=>f d (qC _ j)) u)
def Plain(E:TE)(K:Nat->Prop):Obj E->Prop | .row _ _ _ foc=>foc=[] | .map _ _ _ _ _ foc=>foc=[] | .box _ cs=>∀c∈cs,PlainC K c|_=>False
theorem ObjR.move2{K:Nat->Prop}{s:Nat->Nat}{i j:Nat}{o:Obj E}(f:Plain E K o)(J:∀i l,K i->g i=some l->g' (s i)=some l)(C:z=z'\/lq_ E o)(m:g' j=g i)(h:ObjR P E z g w i o):ObjR P E z' g' w j (Obj.ren s o)/\∀k,fpO g' j (Obj.ren s o) k↔fpO g i o k:=by
 cases o with
 | row e t xs foc =>
  simp only[Plain]at f;subst f;obtain⟨l,rows,y,F,G,u,q,M,D,_⟩:=h;refine⟨⟨l,rows,by rw[m];exact y,F,G,u,q,M,?_,λp f=>nomatch f⟩,λk=>by simp only[Obj.ren,fpO,m]⟩;rcases C with rfl|C
  .exact D
  .exact D.flat C.1
 | box T cs =>
  obtain⟨l,vs,y,u,q⟩:=h;exact⟨⟨l,vs,by rw[m];exact y,u,RCs.ren J f C q⟩,λk=>by simp only[Obj.ren,fpO,m]⟩
 | fr t xs=>exact f.elim
 | fb t x=>exact f.elim
 | map T k v ks vs foc =>
  simp only[Plain]at f;subst f;obtain⟨l,es,c,y,u,q,_⟩:=h;exact⟨⟨l,es,c,by rw[m];exact y,u,q,λp f=>nomatch f⟩,λk=>by simp only[Obj.ren,fpO,m]⟩
theorem Plain.mono{K K':Nat->Prop}{o:Obj E}(f:∀j,K j->K' j)(h:Plain E K o):Plain E K' o:=by
 cases o with
 | box T cs =>
  intro c m;have:=h c m;cases c with
  | own id=>exact f _ this
  | ptr id off=>exact f _ this
  | _=>exact this
 | _=>exact h
theorem pxB_cnt{px:Bool}{ps:List Pm}(h:pxB px ps=true):0<ar_ E ps:=by
 unfold pxB at h;split at h
 .simp only[ar_];omega
 .simp only[ar_];omega
 .cases h
theorem SC.ren_id(c:SC E):SC.ren (λi=>i) c=c:=by cases c<;>rfl
theorem Obj.ren_id(o:Obj E):Obj.ren (λi=>i) o=o:=by
 cases o with
 | box T cs =>
  have:cs.map (SC.ren λi=>i)=cs:=by
   induction cs with
   | nil=>rfl
   | cons c cs f=>rw[zB,f,SC.ren_id]
  simp only[Obj.ren,this]
 | _=>rfl
theorem ObjR.move{K:Nat->Prop}{i:Nat}{o:Obj E}(m:Plain E K o)(q:∀i l,K i->g i=some l->g' i=some l)(f:z=z'\/lq_ E o)(p:g' i=g i)(h:ObjR P E z g w i o):ObjR P E z' g' w i o/\∀k,fpO g' i o k↔fpO g i o k:=by
 have:=h.move2 (s:=λi=>i) (j:=i) m q f p
 rwa [Obj.ren_id]at this
theorem bD_{m:Mk}:∀{ts:List Ty} {h:HL E.S ts} {n:Nat},∀i o,(i,o)∈bw_ E m ts h n->∃p,o=some p/\(∀K,Plain E K p)/\n<=i/\i<n+aJ_ m ts:=by
 induction m with
 | nil=>intro ts h n i o f;cases ts<;>simp[bw_]at f
 | cons a m j =>
  intro ts h n i o f;cases ts with
  | nil=>cases a<;>simp[bw_]at f
  | cons t ts =>
   cases a with
   | none=>simp only[bw_]at f;simp only[aJ_];exact j i o f
   | some e =>
    cases t with
    | sl t =>
     simp only[bw_,qW,qG]at f;simp only[aJ_];rcases f with⟨rfl,rfl⟩|f
     .exact⟨_,rfl,λ_=>rfl,qA _,by omega⟩
     .obtain⟨p,s,q,x,u⟩:=j i o f;exact⟨p,s,q,by omega,by omega⟩
    | _=>simp[bw_]at f
theorem gi_:∀{rs:Rs} {h:HL E.S rs.ts} {n:Nat},∀i o,(i,o)∈dp_ E rs h n->∃p,o=some p/\(∀K,Plain E K p)/\n<=i/\i<n+c3_ E rs
 | [],h,n,i,o,f=>by simp[dp_]at f
 | (t,m)::rs,h,n,i,o,f=>by
  simp only[dp_,qY]at f;simp only[c3_];rcases f with f|f
  .obtain⟨p,q,j,s,u⟩:=bD_ i o f;exact⟨p,q,j,s,by omega⟩
  .obtain⟨p,q,j,s,u⟩:=gi_ i o f;exact⟨p,q,j,by omega,by omega⟩
theorem cB_:∀{ps:List Pm} {a:PA E ps} {n:Nat},∀i o,(i,o)∈bC_ E ps a n->n<=i/\i<n+ar_ E ps
 | [],a,n,i,o,f=>by simp[bC_]at f
 | .l t m::ps,a,n,i,o,f=>by
  simp only[bC_,qY]at f;simp only[ar_];rcases f with f|f
  .obtain⟨p,s,q,j,h⟩:=bD_ i o f;omega
  .have:=cB_ (ps:=ps) (a:=a.2) i o f;omega
 | .g t m::ps,a,n,i,o,f=>by
  simp only[bC_,qY]at f;simp only[ar_];rcases f with f|f
  .obtain⟨p,s,q,j,h⟩:=bD_ i o f;omega
  .have:=cB_ (ps:=ps) (a:=a.2) i o f;omega
 | .b T t::ps,a,n,i,o,f=>by
  simp only[bC_,qW,qG]at f;simp only[ar_];rcases f with⟨rfl,rfl⟩|f
  .omega
  .have:=cB_ (ps:=ps) (a:=a.2) i o f;omega
 | .bm T t m px::ps,a,n,i,o,f=>by
  simp only[bC_,qW,qY,qG]at f;simp only[ar_];rcases f with⟨rfl,rfl⟩|f|f
  .omega
  .obtain⟨p,s,q,j,h⟩:=bD_ i o f;omega
  .have:=cB_ (ps:=ps) (a:=a.2) i o f;omega
 | .mp T k v::ps,a,n,i,o,f=>by
  simp only[bC_,qW,qG]at f;simp only[ar_];rcases f with⟨rfl,rfl⟩|f
  .omega
  .have:=cB_ (ps:=ps) (a:=a.2) i o f;omega
 | .d t::ps,a,n,i,o,f=>cB_ (ps:=ps) (a:=a.2) i o f
 | .p t::ps,a,n,i,o,f=>cB_ (ps:=ps) (a:=a.2) i o f
 | .f1 x r::ps,a,n,i,o,f=>cB_ (ps:=ps) (a:=a.2) i o f
 | .f2 x y r::ps,a,n,i,o,f=>cB_ (ps:=ps) (a:=a.2) i o f
theorem cG_:∀{ps:List Pm} {a:PA E ps} {n k:Nat},∀i o,(i,o)∈bd_ E ps a n k->∃p,o=some p/\Plain E (λj=>(k<=j/\j<k+dM_ E ps)\/(n<=j/\j<n+ar_ E ps)) p/\((n<=i/\i<n+ar_ E ps)\/(k<=i/\i<k+dM_ E ps))
 | [],a,n,k,i,o,f=>by simp[bd_]at f
 | .l t m::ps,a,n,k,i,o,f=>by
  simp only[bd_,qY]at f;simp only[ar_,dM_];rcases f with f|f
  .obtain⟨p,q,h,u,F⟩:=bD_ i o f;exact⟨p,q,h _,by omega⟩
  .obtain⟨p,q,h,u⟩:=cG_ (ps:=ps) (a:=a.2) i o f;exact⟨p,q,h.mono (λj C=>by omega),by omega⟩
 | .g t m::ps,a,n,k,i,o,f=>by
  obtain⟨p,q,h,u⟩:=cG_ (ps:=ps) (a:=a.2) i o f;simp only[ar_,dM_];exact⟨p,q,h.mono (λj C=>by omega),by omega⟩
 | .b T t::ps,a,n,k,i,o,f=>by
  simp only[bd_,qW,qG]at f;simp only[ar_,dM_];rcases f with⟨rfl,rfl⟩|f
  .exact⟨_,rfl,oM_,by omega⟩
  .obtain⟨p,q,h,u⟩:=cG_ (ps:=ps) (a:=a.2) i o f;exact⟨p,q,h.mono (λj C=>by omega),by omega⟩
 | .bm T t m px::ps,a,n,k,i,o,f=>by
  simp only[bd_,qW,qY,qG]at f;simp only[ar_,dM_];rcases f with⟨rfl,rfl⟩|f|f
  .refine⟨_,rfl,λc s => ?_,by omega⟩;rcases qY.1 s with s|s
   .cases D:pxB px ps<;>rw[D]at s
    .cases s
    .obtain rfl:=qD.1 s;have:=pxB_cnt (E:=E) D;exact .inr ⟨by omega,by omega⟩
   .exact ownC_plain (K:=λj=>(k<=j/\j<k+(aJ_ m (E.flat t)+dM_ E ps))\/_) (λj C => .inl ⟨by omega,by omega⟩) c s
  .obtain⟨p,q,h,u,F⟩:=bD_ i o f;exact⟨p,q,h _,by omega⟩
  .obtain⟨p,q,h,u⟩:=cG_ (ps:=ps) (a:=a.2) i o f;refine⟨p,q,?_,by omega⟩;exact Plain.mono (λj C=>by omega) h
 | .mp T kt v::ps,a,n,k,i,o,f=>by
  simp only[bd_,qW,qG]at f;simp only[ar_,dM_];rcases f with⟨rfl,rfl⟩|f
  .exact⟨_,rfl,rfl,by omega⟩
  .obtain⟨p,q,h,u⟩:=cG_ (ps:=ps) (a:=a.2) i o f;exact⟨p,q,h.mono (λj C=>by omega),by omega⟩
 | .d t::ps,a,n,k,i,o,f=>cG_ (ps:=ps) (a:=a.2) i o f
 | .p t::ps,a,n,k,i,o,f=>cG_ (ps:=ps) (a:=a.2) i o f
 | .f1 x r::ps,a,n,k,i,o,f=>cG_ (ps:=ps) (a:=a.2) i o f
 | .f2 x y r::ps,a,n,k,i,o,f=>cG_ (ps:=ps) (a:=a.2) i o f
def UniqK(l:Chs E):Prop:=∀i o o',(i,o)∈l->(i,o')∈l->o=o'
theorem uW_{i:Nat}{o:Option (Obj E)}:∀{l:Chs E},UniqK l->(i,o)∈l->upH H l i=o
 | [],_,h=>by cases h
 | (j,p)::l,q,h=>by
  simp only[upH];split
  .rename_i m;obtain rfl:=qNb m;exact q i p o (qE ..) h
  .rename_i m;have f:=dC_ m;refine uW_ (λa b c u s=>q a b c (qC _ u) (qC _ s)) ?_;rcases qW.1 h with h|h
   .simp only[qG]at h;exact absurd h.1 f
   .exact h
theorem UniqK.append{l m:Chs E}(p:UniqK l)(hm:UniqK m)(j:∀i o o',(i,o)∈l->(i,o')∈m->False):UniqK (l++m):=λi o o' h f=>by
 rcases qY.1 h with h|h<;>rcases qY.1 f with f|f
 .exact p i o o' h f
 .exact(j i o o' h f).elim
 .exact(j i o' o f h).elim
 .exact hm i o o' h f
theorem j1_{m:Mk}:∀{ts:List Ty} {h:HL E.S ts} {n:Nat},UniqK (bw_ E m ts h n):=by
 induction m with
 | nil=>intro ts h n i o o' j;cases ts<;>simp[bw_]at j
 | cons a m q =>
  intro ts h n;cases ts with
  | nil=>intro i o o' j;cases a<;>simp[bw_]at j
  | cons t ts =>
   cases a with
   | none=>simp only[bw_];exact q
   | some e =>
    cases t with
    | sl t =>
     simp only[bw_];intro i o o' p f;simp only[qW,qG]at p f;rcases p with⟨rfl,rfl⟩|p<;>rcases f with⟨f,rfl⟩|f
     .rfl
     .obtain⟨_,_,_,s,_⟩:=bD_ _ _ f;omega
     .obtain⟨_,_,_,s,_⟩:=bD_ _ _ p;omega
     .exact q i o o' p f
    | _=>intro i o o' j;simp[bw_]at j
theorem resO_uniq:∀{rs:Rs} {h:HL E.S rs.ts} {n:Nat},UniqK (dp_ E rs h n)
 | [],h,n=>λi o o' f=>by simp[dp_]at f
 | (t,m)::rs,h,n=>by
  simp only[dp_];refine UniqK.append j1_ resO_uniq λi o o' p j => ?_
  obtain⟨_,_,_,_,s⟩:=bD_ _ _ p;obtain⟨_,_,_,q,_⟩:=gi_ _ _ j;omega
theorem eF_:∀{ps:List Pm} {a:PA E ps} {n:Nat},UniqK (bC_ E ps a n)
 | [],a,n=>λi o o' q=>by simp[bC_]at q
 | .l t m::ps,a,n=>by
  simp only[bC_];refine UniqK.append j1_ (eF_ (ps:=ps)) λi o o' h f => ?_
  obtain⟨_,_,_,_,j⟩:=bD_ _ _ h;have s:=(cB_ (ps:=ps) _ _ f).1;omega
 | .g t m::ps,a,n=>by
  simp only[bC_];refine UniqK.append j1_ (eF_ (ps:=ps)) λi o o' h f => ?_
  obtain⟨_,_,_,_,j⟩:=bD_ _ _ h;have s:=(cB_ (ps:=ps) _ _ f).1;omega
 | .b T t::ps,a,n=>by
  simp only[bC_];intro i o o' h f;simp only[qW,qG]at h f;rcases h with⟨rfl,rfl⟩|h<;>rcases f with⟨f,rfl⟩|f
  .rfl
  .have:=(cB_ (ps:=ps) _ _ f).1;omega
  .have:=(cB_ (ps:=ps) _ _ h).1;omega
  .exact eF_ (ps:=ps) i o o' h f
 | .bm T t m px::ps,a,n=>by
  simp only[bC_];refine UniqK.append (l:=[(n,some (.box T (ptrC E (pxB px ps) (n+1+aJ_ m (E.flat t))++b3_ E m (E.flat t) (E.fl t a.1) (n+1))))]) (λi o o' h f => ?_) (UniqK.append j1_ (eF_ (ps:=ps)) λi o o' h f => ?_) λi o o' h f => ?_
  .simp only[qD,qG]at h f;rw[h.2,f.2]
  .obtain⟨_,_,_,_,j⟩:=bD_ _ _ h;have:=(cB_ (ps:=ps) _ _ f).1;omega
  .simp only[qD,qG]at h;rcases qY.1 f with f|f
   .obtain⟨_,_,_,j,_⟩:=bD_ _ _ f;omega
   .have:=(cB_ (ps:=ps) _ _ f).1;omega
 | .mp T k v::ps,a,n=>by
  simp only[bC_];intro i o o' h f;simp only[qW,qG]at h f;rcases h with⟨rfl,rfl⟩|h<;>rcases f with⟨f,rfl⟩|f
  .rfl
  .have:=(cB_ (ps:=ps) _ _ f).1;omega
  .have:=(cB_ (ps:=ps) _ _ h).1;omega
  .exact eF_ (ps:=ps) i o o' h f
 | .d t::ps,a,n=>eF_ (ps:=ps) (a:=a.2)
 | .p t::ps,a,n=>eF_ (ps:=ps) (a:=a.2)
 | .f1 x r::ps,a,n=>eF_ (ps:=ps) (a:=a.2)
 | .f2 x y r::ps,a,n=>eF_ (ps:=ps) (a:=a.2)
theorem ownO_shift{m:Mk}:∀{ts:List Ty} {h:HL E.S ts} {n n' d:Nat} {o:Option (Obj E)},(n+d,o)∈bw_ E m ts h n->(n'+d,o)∈bw_ E m ts h n':=by
 induction m with
 | nil=>intro ts h n n' d o f;cases ts<;>simp[bw_]at f
 | cons a m p =>
  intro ts h n n' d o f;cases ts with
  | nil=>cases a<;>simp[bw_]at f
  | cons t ts =>
   cases a with
   | none=>simp only[bw_]at f ⊢;exact p f
   | some e =>
    cases t with
    | sl t =>
     simp only[bw_,qW,qG]at f ⊢;rcases f with⟨s,rfl⟩|f
     .exact .inl ⟨by omega,rfl⟩
     .right
      obtain⟨_,_,_,q,_⟩:=bD_ _ _ f;obtain⟨j,rfl⟩:∃j,d=j+1:=⟨d-1,by omega⟩;rw[show n+(j+1)=n+1+j by omega]at f;rw[show n'+(j+1)=n'+1+j by omega];exact p f
    | _=>simp[bw_]at f
theorem resO_shift:∀{rs:Rs} {h:HL E.S rs.ts} {n n' d:Nat} {o:Option (Obj E)},(n+d,o)∈dp_ E rs h n->(n'+d,o)∈dp_ E rs h n'
 | [],h,n,n',d,o,f=>by simp[dp_]at f
 | (t,m)::rs,h,n,n',d,o,f=>by
  simp only[dp_,qY]at f ⊢;rcases f with f|f
  .exact .inl (ownO_shift f)
  .right
   obtain⟨_,_,_,p,_⟩:=gi_ _ _ f;obtain⟨j,rfl⟩:∃j,d=aJ_ m (E.flat t)+j:=⟨d-aJ_ m (E.flat t),by omega⟩;rw[←zO]at f ⊢;exact resO_shift f
theorem ownO_len{m:Mk}:∀{ts:List Ty} {h:HL E.S ts} {n:Nat},(bw_ E m ts h n).length=aJ_ m ts:=by
 induction m with
 | nil=>intro ts h n;cases ts<;>simp[bw_,aJ_]
 | cons a m f =>
  intro ts h n;cases ts with
  | nil=>cases a<;>simp[bw_,aJ_]
  | cons t ts =>
   cases a with
   | none=>simp only[bw_,aJ_];exact f
   | some e =>
    cases t with
    | sl t=>simp only[bw_,aJ_,qLc,f]
    | _=>simp[bw_,aJ_]
theorem resO_len:∀{rs:Rs} {h:HL E.S rs.ts} {n:Nat},(dp_ E rs h n).length=c3_ E rs
 | [],h,n=>rfl
 | (t,m)::rs,h,n=>by simp only[dp_,c3_,qLa,ownO_len,resO_len]
theorem resO_in{rs:Rs}{h:HL E.S rs.ts}{n i:Nat}{o:Option (Obj E)}(f:(i,o)∈dp_ E rs h n):n<=i/\i<n+c3_ E rs:=by
 obtain⟨_,_,_,m,j⟩:=gi_ _ _ f;exact⟨m,j⟩
theorem jD_{ps:List Pm}{a:PA E ps}{n k i:Nat}{o:Option (Obj E)}(f:(i,o)∈bd_ E ps a n k):(n<=i/\i<n+ar_ E ps)\/(k<=i/\i<k+dM_ E ps):=by
 obtain⟨_,_,_,h⟩:=cG_ _ _ f;exact h
theorem dV_:∀{ps:List Pm} {a:PA E ps} {n k:Nat},n+ar_ E ps<=k->UniqK (bd_ E ps a n k)
 | [],a,n,k,_=>λi o o' s=>by simp[bd_]at s
 | .l t m::ps,a,n,k,j=>by
  simp only[ar_]at j;simp only[bd_];refine UniqK.append j1_ (dV_ (ps:=ps) (by omega)) λi o o' h f => ?_
  obtain⟨_,_,_,_,q⟩:=bD_ _ _ h;have:=jD_ (ps:=ps) f;omega
 | .g t m::ps,a,n,k,j=>by
  simp only[ar_]at j;exact dV_ (ps:=ps) (a:=a.2) (by omega)
 | .b T t::ps,a,n,k,j=>by
  simp only[ar_]at j;simp only[bd_];refine UniqK.append (l:=[(n,some (.box T (E.cells t a.1)))]) (λi o o' h f => ?_) (dV_ (ps:=ps) (by omega)) λi o o' h f => ?_
  .simp only[qD,qG]at h f;rw[h.2,f.2]
  .simp only[qD,qG]at h;have:=jD_ (ps:=ps) f;omega
 | .bm T t m px::ps,a,n,k,j=>by
  simp only[ar_]at j;simp only[bd_];refine UniqK.append (l:=[(n,some (.box T (ptrC E (pxB px ps) (n+1+aJ_ m (E.flat t))++b3_ E m (E.flat t) (E.fl t a.1) k)))]) (λi o o' h f => ?_) (UniqK.append j1_ (dV_ (ps:=ps) (by omega)) λi o o' h f => ?_) λi o o' h f => ?_
  .simp only[qD,qG]at h f;rw[h.2,f.2]
  .obtain⟨_,_,_,q,u⟩:=bD_ _ _ h;have:=jD_ (ps:=ps) f;omega
  .simp only[qD,qG]at h;rcases qY.1 f with f|f
   .obtain⟨_,_,_,q,_⟩:=bD_ _ _ f;omega
   .have:=jD_ (ps:=ps) f;omega
 | .mp T kt v::ps,a,n,k,j=>by
  simp only[ar_]at j;simp only[bd_];refine UniqK.append (l:=[(n,some (.map T kt v a.1.1 a.1.2 []))]) (λi o o' h f => ?_) (dV_ (ps:=ps) (by omega)) λi o o' h f => ?_
  .simp only[qD,qG]at h f;rw[h.2,f.2]
  .simp only[qD,qG]at h;have:=jD_ (ps:=ps) f;omega
 | .d t::ps,a,n,k,j=>dV_ (ps:=ps) (a:=a.2) j
 | .p t::ps,a,n,k,j=>dV_ (ps:=ps) (a:=a.2) j
 | .f1 x r::ps,a,n,k,j=>dV_ (ps:=ps) (a:=a.2) j
 | .f2 x y r::ps,a,n,k,j=>dV_ (ps:=ps) (a:=a.2) j
theorem eJ_:∀{ps:List Pm} {a:PA E ps} {n k:Nat},dM_ E ps<=(bd_ E ps a n k).length
 | [],_,_,_=>qA _
 | .l t m::ps,a,n,k=>by
  simp only[bd_,qLa,dM_];have:=eJ_ (ps:=ps) (a:=a.2) (n:=n+aJ_ m (E.flat t)) (k:=k);omega
 | .g t m::ps,a,n,k=>eJ_ (ps:=ps) (a:=a.2)
 | .b T t::ps,a,n,k=>by
  simp only[bd_,qLc,dM_];have:=eJ_ (ps:=ps) (a:=a.2) (n:=n+1) (k:=k);omega
 | .bm T t m px::ps,a,n,k=>by
  simp only[bd_,qLc,qLa,dM_,ownO_len];have:=eJ_ (ps:=ps) (a:=a.2) (n:=n+1+aJ_ m (E.flat t)) (k:=k+aJ_ m (E.flat t));omega
 | .mp T kt v::ps,a,n,k=>by
  simp only[bd_,qLc,dM_];have:=eJ_ (ps:=ps) (a:=a.2) (n:=n+1) (k:=k);omega
 | .d t::ps,a,n,k=>eJ_ (ps:=ps) (a:=a.2)
 | .p t::ps,a,n,k=>eJ_ (ps:=ps) (a:=a.2)
 | .f1 x r::ps,a,n,k=>eJ_ (ps:=ps) (a:=a.2)
 | .f2 x y r::ps,a,n,k=>eJ_ (ps:=ps) (a:=a.2)
theorem ownC_move{m:Mk}:∀{ts:List Ty} {h:HL E.S ts} {n n':Nat} {v:List Value},All2 (RC P E z g) (b3_ E m ts h n) v->(∀i l,i<aJ_ m ts->g (n+i)=some l->g' (n'+i)=some l)->(z=z'\/hY_ E m ts=true)->All2 (RC P E z' g') (b3_ E m ts h n') v:=by
 have key:∀{ts:List Ty} {h:HL E.S ts} {v:List Value},All2 (RC P E z g) (hlc E ts h) v->(z=z'\/ts.all Ty.flatB=true)->All2 (RC P E z' g') (hlc E ts h) v:=by
  intro ts h v f j;rcases j with rfl|j
  .exact hlc_rd.1 (hlc_rd.2 f)
  .exact hlc_rd.1 ((hlc_rd.2 f).flat j)
 induction m with
 | nil =>
  intro ts h n n' v f p j;cases ts with
  | nil=>simp only[b3_]at f ⊢;exact key f (j.imp id λh=>h)
  | cons t ts=>simp only[b3_]at f ⊢;exact key f (j.imp id λh=>h)
 | cons a m u =>
  intro ts h n n' v f p j;cases ts with
  | nil=>cases a<;>simp only[b3_]at f ⊢<;>exact key f (.inr rfl)
  | cons t ts =>
   cases a with
   | none =>
    simp only[b3_]at f ⊢;cases f with
    | cons q s =>
     simp only[hY_,qAn]at j;refine .cons ?_ (u s p (j.imp id And.right));rcases j with rfl|j
     .exact q
     .exact RD.flat (ts:=[t]) (by simp[j.1]) q
   | some e =>
    cases t with
    | sl t =>
     simp only[b3_]at f ⊢;cases f with
     | cons q s =>
      obtain⟨l,C,y⟩:=q;simp only[hY_,qAn]at j;refine .cons ⟨l,p 0 l (by simp only[aJ_];omega) C,y⟩ (u s (λi l x hi => ?_) (j.imp id And.right));have:=p (i+1) l (by simp only[aJ_];omega) (by rw[show n+(i+1)=n+1+i by omega];exact hi)
      rwa [show n'+(i+1)=n'+1+i by omega]at this
    | _=>simp only[b3_]at f ⊢;exact key f (j.imp id λh=>h)
theorem asV_move{t:Ty}{l f:List (SC E)}{x m:V1 E}{v:Value}(h:asV E t l=some x)(j:asV E t f=some m)(hr:R1 P E z g x v)(hm:∀vs,All2 (RC P E z g) l vs->All2 (RC P E z' g') f vs):R1 P E z' g' m v:=by
 have one:∀c d,l=[c]->f=[d]->RC P E z g c v->RC P E z' g' d v:=λc d e e' p=>by
  subst e;subst e';have:=hm [v] (.cons p .nil);cases this with
  | cons h _=>exact h
 cases t with
 | st n =>
  simp only[asV,qOi]at h j;subst h;subst j;obtain⟨vs,rfl,hr⟩:=hr;exact⟨vs,rfl,hm vs hr⟩
 | _ =>
  cases l with
  | nil=>simp[asV]at h
  | cons c l =>
   cases l with
   | cons d l=>simp[asV]at h
   | nil =>
    cases f with
    | nil=>simp[asV]at j
    | cons q f =>
     cases f with
     | cons d l=>simp[asV]at j
     | nil =>
      simp only[asV,qOi]at h j;subst h;subst j;exact one c q rfl rfl hr
theorem oN_:∀{rs:Rs} {h:HL E.S rs.ts} {n n':Nat} {l f:List (V1 E)} {vs:List Value},resV E rs h n=some l->resV E rs h n'=some f->All2 (R1 P E z g) l vs->(∀i l,i<c3_ E rs->g (n+i)=some l->g' (n'+i)=some l)->(z=z'\/ki_ E rs=true)->All2 (R1 P E z' g') f vs
 | [],h,n,n',l,f,vs,e,e',hr,_,_=>by
  simp only[resV,qOi]at e e';subst e;subst e';cases hr
  exact .nil
 | (t,m)::rs,h,n,n',l,f,vs,e,e',hr,y,j=>by
  simp only[resV]at e e';split at e
  .rename_i x q C D;obtain rfl:=qSj e;split at e'
   .rename_i M O p u;obtain rfl:=qSj e';simp only[ki_,qAn]at j;cases hr with
    | cons J G =>
     refine .cons (asV_move C p J λvs s=>ownC_move s (λi l hi=>y i l (by simp only[c3_];omega)) (j.imp id And.left)) (oN_ D u G (λi l F hi => ?_) (j.imp id And.right));rw[zO]at hi ⊢;exact y _ l (by simp only[c3_];omega) hi
   .cases e'
  .cases e
theorem tW_:∀{rs:Rs} {h:HL E.S rs.ts} {n n':Nat} {l f:List (V1 E)},resV E rs h n=some l->resV E rs h n'=some f->l.length=f.length
 | [],h,n,n',l,f,e,e'=>by
  simp only[resV,qOi]at e e';subst e;subst e';rfl
 | (t,m)::rs,h,n,n',l,f,e,e'=>by
  simp only[resV]at e e';split at e
  .rename_i x q C s;obtain rfl:=qSj e;split at e'
   .rename_i u y p j;obtain rfl:=qSj e';simp[tW_ s j]
   .cases e'
  .cases e
theorem rW_{l f:List (V1 E)}{v:Value}(m:l.length=f.length)(h:RV P E z g (oneV E l) v)(hm:∀vs,All2 (R1 P E z g) l vs->All2 (R1 P E z' g') f vs):RV P E z' g' (oneV E f) v:=by
 match l,f,m with
 | [],[],_=>obtain⟨vs,rfl,hr⟩:=h;exact⟨vs,rfl,hm vs hr⟩
 | [x],[j],_ =>
  have:=hm [v] (.cons h .nil);cases this with
  | cons h _=>exact h
 | x::y::l,j::p::f,_=>obtain⟨vs,rfl,hr⟩:=h;exact⟨vs,rfl,hm vs hr⟩
def renS(c nx:Nat)(I:List Nat)(i:Nat):Nat:=match Nat.blt i c with|true=>I.getD i 0|false=>nx+(i-c)
def lentU(s:Nat->Nat)(l:Chs E):Chs E:=l.map λp=>(s p.1,p.2.map (Obj.ren s))
def goneU(I:List Nat):Chs E:=I.map λi=>(i,none)
def callU(E:TE)(C:Con E)(nx:Nat)(q:PA E C.ps×List Nat)(rh:HL E.S C.rs.ts)(bh:HL E.S (bo_ C.ps)):Chs E:=lentU (renS (ar_ E C.ps) nx q.2) (dp_ E C.rs rh (ar_ E C.ps)++bd_ E C.ps (aI_ E C.ps q.1 bh) 0 (ar_ E C.ps+c3_ E C.rs))++goneU q.2
def lCall (E:TE) (tab:Tab E) (H:Nat->Option (Obj E)) (nx:Nat) (f:FuncId) (xs:List (V1 E)) {R:Type} (k:Option (SV E)->Chs E->Option R):Option R :=
 match tab f with
 | none=>none
 | some C=>match C.I with
 | some I=>I H nx xs R k
 | none=>match takeA E tab (upH H (frzP E H C.ps xs)) C.ps xs with
  | none=>none
  | some q=>match nodupB q.2 with
   | false=>none
   | true=>C.F R q.1 λrh bh=>match resV E C.rs rh nx with
    | none=>none
    | some svr=>match C.ali with
     | true=>k (some (oneV E svr)) (callU E C nx q rh bh++frzP E H C.ps xs)
     | false=>match ki_ E C.rs&&fJ_ E C.ps with
      | true=>k (some (oneV E svr)) (callU E C nx q rh bh)
      | false=>none
theorem leave_uniq{C:Con E}{q:PA E C.ps×List Nat}{rh:HL E.S C.rs.ts}{bh:HL E.S (bo_ C.ps)}:UniqK (dp_ E C.rs rh (ar_ E C.ps)++bd_ E C.ps (aI_ E C.ps q.1 bh) 0 (ar_ E C.ps+c3_ E C.rs)) :=
 UniqK.append resO_uniq (dV_ (by omega)) λi o o' h f=>by
  have m:=resO_in h;have j:=jD_ f;omega
theorem uX_{C:Con E}{q:PA E C.ps×List Nat}{rh:HL E.S C.rs.ts}{bh:HL E.S (bo_ C.ps)}{Hb:Nat->Option (Obj E)}{j:Nat}{o:Obj E}
  (h:upH Hb (callU E C nx q rh bh) j=some o) :
  (∃i u,(j=renS (ar_ E C.ps) nx q.2 i/\i<ar_ E C.ps+(c3_ E C.rs+dM_ E C.ps))/\upH (λ_=>none) (dp_ E C.rs rh (ar_ E C.ps)++bd_ E C.ps (aI_ E C.ps q.1 bh) 0 (ar_ E C.ps+c3_ E C.rs)) i=some u/\o=Obj.ren (renS (ar_ E C.ps) nx q.2) u)\/(j∉q.2/\Hb j=some o):=by
 unfold callU at h;rw[←aV_]at h;rcases upH_or h with h|h
 .have s:∀(I:List Nat),upH Hb (goneU I) j=some o->j∉I/\Hb j=some o:=by
   intro I
   induction I with
   | nil=>intro h;exact⟨by simp,h⟩
   | cons i I y =>
    intro h;simp only[goneU,zB,upH]at h;split at h
    .cases h
    .rename_i F;obtain⟨J,G⟩:=y h;exact⟨λhm=>by rcases qW.1 hm with rfl|hm;exact dC_ F rfl;exact J hm,G⟩
  exact .inr (s _ h)
 .left
  obtain⟨p,f,m⟩:=qz.1 h;simp only[qG]at m;obtain⟨D,x⟩:=m;obtain⟨i,o2⟩:=p;cases o2 with
  | none=>cases x
  | some u =>
   refine⟨i,u,⟨D.symm,?_⟩,uW_ leave_uniq f,(qSj x).symm⟩;rcases qY.1 f with f|f
   .have:=resO_in f;omega
   .have:=jD_ f;omega
theorem tX_{m:Mk}:∀{ts:List Ty} {h:HL E.S ts} {n i:Nat},n<=i->i<n+aJ_ m ts->∃o,(i,o)∈bw_ E m ts h n:=by
 induction m with
 | nil=>intro ts h n i q f;cases ts<;>simp[aJ_]at f<;>omega
 | cons a m p =>
  intro ts h n i q f;cases ts with
  | nil=>cases a<;>simp[aJ_]at f<;>omega
  | cons t ts =>
   cases a with
   | none=>simp only[aJ_]at f;simp only[bw_];exact p q f
   | some e =>
    cases t with
    | sl t =>
     simp only[aJ_]at f;simp only[bw_,qW,qG];by_cases j:i=n
     .exact⟨_,.inl ⟨j,rfl⟩⟩
     .obtain⟨o,s⟩:=p (h:=h.2) (n:=n+1) (i:=i) (by omega) (by omega);exact⟨o,.inr s⟩
    | _=>simp[aJ_]at f<;>omega
theorem argsO_cov:∀{ps:List Pm} {a:PA E ps} {n i:Nat},n<=i->i<n+ar_ E ps->∃o,(i,o)∈bC_ E ps a n:=by
 intro ps
 induction ps with
 | nil=>intro a n i u q;simp[ar_]at q;omega
 | cons p ps s =>
  intro a n i u q;cases p with
  | l t m =>
   simp only[ar_]at q;simp only[bC_,qY];by_cases f:i<n+aJ_ m (E.flat t)
   .obtain⟨o,j⟩:=tX_ (h:=E.fl t a.1) u f;exact⟨o,.inl j⟩
   .obtain⟨o,j⟩:=s (a:=a.2) (n:=n+aJ_ m (E.flat t)) (i:=i) (by omega) (by omega);exact⟨o,.inr j⟩
  | g t m =>
   simp only[ar_]at q;simp only[bC_,qY];by_cases f:i<n+aJ_ m (E.flat t)
   .obtain⟨o,j⟩:=tX_ (h:=E.fl t a.1) u f;exact⟨o,.inl j⟩
   .obtain⟨o,j⟩:=s (a:=a.2) (n:=n+aJ_ m (E.flat t)) (i:=i) (by omega) (by omega);exact⟨o,.inr j⟩
  | b T t =>
   simp only[ar_]at q;simp only[bC_,qW,qG];by_cases f:i=n
   .exact⟨_,.inl ⟨f,rfl⟩⟩
   .obtain⟨o,j⟩:=s (a:=a.2) (n:=n+1) (i:=i) (by omega) (by omega);exact⟨o,.inr j⟩
  | bm T t m px =>
   simp only[ar_]at q;simp only[bC_,qW,qY,qG];by_cases f:i=n
   .exact⟨_,.inl ⟨f,rfl⟩⟩
   .by_cases C:i<n+1+aJ_ m (E.flat t)
    .obtain⟨o,j⟩:=tX_ (h:=E.fl t a.1) (n:=n+1) (i:=i) (by omega) C;exact⟨o,.inr (.inl j)⟩
    .obtain⟨o,j⟩:=s (a:=a.2) (n:=n+1+aJ_ m (E.flat t)) (i:=i) (by omega) (by omega);exact⟨o,.inr (.inr j)⟩
  | mp T k v =>
   simp only[ar_]at q;simp only[bC_,qW,qG];by_cases f:i=n
   .exact⟨_,.inl ⟨f,rfl⟩⟩
   .obtain⟨o,j⟩:=s (a:=a.2) (n:=n+1) (i:=i) (by omega) (by omega);exact⟨o,.inr j⟩
  | d t=>exact s (a:=a.2) u q
  | p t=>exact s (a:=a.2) u q
  | f1 x r=>exact s (a:=a.2) u q
  | f2 x y r=>exact s (a:=a.2) u q
def iO_(tab:Tab E)(f:FuncId):Bool:=match tab f with|some C=>ng_ C.ps|none=>true
theorem takeA_own {tab:Tab E}:∀{ps:List Pm} {xs:List (V1 E)} {q:PA E ps×List Nat},ng_ ps=false->takeA E tab H ps xs=some q->q.2=[]:=by
 intro ps
 induction ps with
 | nil =>
  intro xs q _ h;cases xs with
  | nil=>simp only[takeA,qOi]at h;subst h;rfl
  | cons x xs=>simp[takeA]at h
 | cons p ps u =>
  intro xs q j h;cases xs with
  | nil=>cases p<;>simp[takeA]at h
  | cons x xs =>
   cases p with
   | l t m=>cases j
   | g t m=>cases j
   | b T t=>cases j
   | bm T t m px=>cases j
   | mp T k v=>cases j
   | d t =>
    simp only[takeA]at h;split at h
    .rename_i d y O s;obtain rfl:=qSj h;exact u j s
    .cases h
   | p t =>
    cases x with
    | agg l=>simp[takeA]at h
    | one c =>
     cases c with
     | elf M J off =>
      cases off with
      | succ off=>simp[takeA]at h
      | zero =>
       simp only[takeA]at h;split at h
       .split at h
        .rename_i y s;obtain rfl:=qSj h;exact u j s
        .cases h
       .cases h
     | ptr id off =>
      cases off with
      | succ off=>simp[takeA]at h
      | zero =>
       simp only[takeA]at h;split at h
       .split at h
        .split at h
         .rename_i y s;obtain rfl:=qSj h;exact u j s
         .cases h
        .cases h
       .cases h
     | _=>simp[takeA]at h
   | f1 C D =>
    cases x with
    | agg l=>simp[takeA]at h
    | one c =>
     simp only[takeA]at h;split at h
     .rename_i f y F s;obtain rfl:=qSj h;exact u j s
     .cases h
   | f2 C G D =>
    cases x with
    | agg l=>simp[takeA]at h
    | one c =>
     simp only[takeA]at h;split at h
     .rename_i f y F s;obtain rfl:=qSj h;exact u j s
     .cases h
theorem lCall_ok2 {tab:Tab E} (ht:tab.OK P E) {f:FuncId} (Zw:∀C,tab f=some C->C.I=none) {xs:List (V1 E)} {vs:List Value} {R:Type} {k:Option (SV E)->Chs E->Option R} {r:R} (ZP:Fresh g nx) (hv:All2 (R1 P E z g) xs vs) (h:lCall E tab H nx f xs k=some r) :
  dU_ P f=true/\∃s u,k (some s) u=some r/\∀(Bs:List Nat) (F0:Nat->Prop) (w0 w:World),HR P E Bs F0 w0 w z g H->Ret P f vs.toArray w λv w'=>∃z2 Z,z.Le z2/\g.Le Z/\Fresh Z (nx+1+u.length)/\RV P E z2 Z s v/\HR P E Bs F0 w0 w' z2 Z (upH H u)/\(iO_ tab f=false->Ext w w'):=by
 unfold lCall at h;split at h
 .cases h
 .rename_i C hC;obtain⟨Zx,ZM,_⟩:=ht f C hC;refine⟨ZM,?_⟩;rw[Zw C hC]at h;simp only at h;split at h
  .cases h
  .rename_i q hq;split at h
   .cases h
   .rename_i hn;obtain⟨rh,bh,x,ZN⟩:=Zx _ _ _ _ h;obtain⟨svr2,m,u,hu,x⟩:∃svr2,resV E C.rs rh nx=some svr2/\∃u,((C.ali=true/\u=callU E C nx q rh bh++frzP E H C.ps xs)\/(C.ali=false/\(ki_ E C.rs&&fJ_ E C.ps)=true/\u=callU E C nx q rh bh))/\k (some (oneV E svr2)) u=some r:=by
     split at x
     .cases x
     .rename_i svr2 m;split at x
      .rename_i Y;exact⟨svr2,m,_,.inl ⟨Y,rfl⟩,x⟩
      .rename_i Y;split at x
       .rename_i V;exact⟨svr2,m,_,.inr ⟨Y,V,rfl⟩,x⟩
       .cases x
    refine⟨_,u,x,λBs F0 w0 w hH => ?_⟩;obtain⟨z1,ZX,ZV⟩:=frzP_ok hH C.ps xs;obtain⟨⟨svs,e1,e2⟩,e3,e4⟩:=takeA_ok ht ZV (I:=q.2) (n:=0) hq (λj id U=>by rw[qg];exact U) (hv.mono λ_ _ h=>R1.le h ZX (Ga.Le.refl g));have ZC:=ZV.entry hn e3;have Zs:Fresh (gOf g q.2) (ar_ E C.ps):=λi hi=>by
     unfold gOf;rw[qR (by omega)]
    have ZI:=ZN w z1 _ _ svs vs e1 ZC Zs e2;refine ZI.mono λv w' ⟨z',g1,svr,ZK,ZB,Zu,M,ZJ,hx⟩ => ?_
    have ZW:∀id∈q.2,∃l,g id=some l:=λid ZW=>by
     obtain⟨i,hi⟩:=qM.1 ZW;have Zn:i<ar_ E C.ps:=by rw[←e4];exact(qZ.1 hi).1
     by_cases ZD:∃l,g id=some l
     .exact ZD
     .exfalso;obtain⟨o,ho⟩:=argsO_cov (a:=q.1) (n:=0) (i:=i) (zV _) (by omega);obtain⟨id',O,_,F,h6,_⟩:=e3 i o ho;rw[hi]at F;obtain rfl:=qSj F;exact ZD (ZV.hold _ _ h6).loc
    have Zv:∀id∈q.2,id<nx:=λid ZF=>by
     obtain⟨l,hl⟩:=ZW id ZF;rcases qN id nx with F|F
     .exact F
     .rw[ZP id F]at hl;cases hl
    -- the numbers behind the call
    have Zp:∀i,i<ar_ E C.ps->q.2[i]? = some (renS (ar_ E C.ps) nx q.2 i):=λi hi=>by
     have ZE:i<q.2.length:=by omega
     have hb:Nat.blt i (ar_ E C.ps)=true:=by simpa using hi
     unfold renS;rw[hb,qQ ZE];simp[za,ZE]
    have Zr : ∀ i,ar_ E C.ps<=i->renS (ar_ E C.ps) nx q.2 i=nx+(i-ar_ E C.ps):=λi hi=>by
     have hb:Nat.blt i (ar_ E C.ps)=false:=by
      cases hb:Nat.blt i (ar_ E C.ps)with
      | false=>rfl
      | true => have:i<ar_ E C.ps:=by simpa using hb
                omega
     unfold renS;rw[hb]
    let Z:Ga:=λj=>if nx<=j/\j<nx+(c3_ E C.rs+dM_ E C.ps)then g1 (ar_ E C.ps+(j-nx))else g j
    have ZY:g.Le Z:=λj l U=>by
     have:j<nx:=by
      rcases qN j nx with F|F
      .exact F
      .rw[ZP j F]at U;cases U
     show(if _ then _ else g j)=_;rw[qX (by omega)];exact U
    have ZU:Fresh Z (nx+(c3_ E C.rs+dM_ E C.ps)):=λj U=>by
     show(if _ then _ else g j)=_;rw[qX (by omega)];exact ZP j (by omega)
    have ZG:∀i l,i<c3_ E C.rs->g1 (ar_ E C.ps+i)=some l->Z (nx+i)=some l:=λi l Zv hi=>by
     show(if _ then _ else g _)=_;rw[qV ⟨by omega,by omega⟩,show ar_ E C.ps+(nx+i-nx)=ar_ E C.ps+i by omega];exact hi
    let s:Nat->Nat->Prop:=λj i=>j=renS (ar_ E C.ps) nx q.2 i/\i<ar_ E C.ps+(c3_ E C.rs+dM_ E C.ps)
    have hs:∀j j' i,s j i->s j' i->j=j':=λj j' i D G=>D.1.trans G.1.symm
    have ZQ:∀j i,s j i->Z j=g1 i:=λj i D=>by
     obtain⟨rfl,hi⟩:=D;rcases qN i (ar_ E C.ps)with F|F
     .have h6:=Zp i F;obtain⟨l,hl⟩:=ZW _ (qb h6);rw[ZY _ l hl];exact(Zu i l (by unfold gOf;rw[h6];exact hl)).symm
     .rw[Zr i F];show(if _ then _ else g _)=_;rw[qV ⟨by omega,by omega⟩,show ar_ E C.ps+(nx+(i-ar_ E C.ps)-nx)=i by omega]
    have ZA:∀i l,((ar_ E C.ps+c3_ E C.rs<=i/\i<ar_ E C.ps+c3_ E C.rs+dM_ E C.ps)\/(0<=i/\i<0+ar_ E C.ps))->g1 i=some l->Z (renS (ar_ E C.ps) nx q.2 i)=some l:=λi l hi hl=>(ZQ _ i ⟨rfl,by omega⟩).trans hl
    have ZH:∀i o,upH (λ_=>none) (dp_ E C.rs rh (ar_ E C.ps)++bd_ E C.ps (aI_ E C.ps q.1 bh) 0 (ar_ E C.ps+c3_ E C.rs)) i=some o->Plain E (λi=>(ar_ E C.ps+c3_ E C.rs<=i/\i<ar_ E C.ps+c3_ E C.rs+dM_ E C.ps)\/(0<=i/\i<0+ar_ E C.ps)) o:=λi o ho=>by
     rcases qY.1 (jZ_ ho)with D|D
     .obtain⟨p,hp,J,_⟩:=gi_ _ _ D;obtain rfl:=qSj hp;exact J _
     .obtain⟨p,hp,J,_⟩:=cG_ _ _ D;obtain rfl:=qSj hp;exact J
    have Zo:c3_ E C.rs+dM_ E C.ps<=(callU E C nx q rh bh).length:=by
     unfold callU lentU;rw[qLa,zq,qLa,resO_len];have:=eJ_ (ps:=C.ps) (a:=aI_ E C.ps q.1 bh) (n:=0) (k:=ar_ E C.ps+c3_ E C.rs);omega
    have ZT:iO_ tab f=false->Ext w w':=λhl=>by
     have Zy:q.2=[]:=takeA_own (by simpa only[iO_,hC]using hl) hq;have ZS:=hx.chg;rw[Zy]at ZS;exact Ext.of_below (Chg.below ZS)
    .rcases hu with⟨Y,rfl⟩|⟨Y,V,rfl⟩
     .refine⟨z',Z,ZX.trans ZK,ZY,λj U=>ZU j (by simp only[qLa]at U;omega),?_,?_,ZT⟩
      .exact rW_ (tW_ M m) ZJ λvs ZR=>oN_ M m ZR ZG (.inl rfl)
      .rw[←aV_];refine ZV.back2 (s:=s) hx (λk x => ?_) ZY (λj o U=>(uX_ U).imp (λ⟨i,O,ZZ,G,ho⟩=>⟨i,O,ZZ,G,by rw[ho];exact(hx.hold i O G).move2 (ZH i O G) ZA (.inl rfl) (ZQ j i ZZ)⟩) id) hs ZK hx.fz λk x => ?_
       .obtain⟨i,id,o,D,G,h3⟩:=lp_ x;exact⟨id,o,qb D,G,h3⟩
       .rcases hx.fz0 k x with D|D|D
        .exact .inl D
        .exact .inr ⟨.inl D,x⟩
        .exact .inr ⟨.inr D,x⟩
     ··simp only[qAn]at V;obtain rfl:=ZB Y;have ZL:z.In w':=λk x=>by
        have D:=hx.fz k (ZX k x).1;exact⟨D.1,D.2.trans (ZX k x).2⟩
       have ZO:∀i O,upH (λ_=>none) (dp_ E C.rs rh (ar_ E C.ps)++bd_ E C.ps (aI_ E C.ps q.1 bh) 0 (ar_ E C.ps+c3_ E C.rs)) i=some O->lq_ E O:=λi O G=>by
        rcases qY.1 (jZ_ G)with h3|h3
        .obtain⟨p,hp,J⟩:=rU_ V.1 _ _ h3;obtain rfl:=qSj hp;exact J
        .obtain⟨p,hp,J⟩:=dq_ V.2 _ _ h3;obtain rfl:=qSj hp;exact J
       refine⟨z,Z,Fz.Le.refl z,ZY,λj U=>ZU j (by omega),?_,?_,ZT⟩
       .exact rW_ (tW_ M m) ZJ λvs ZR=>oN_ M m ZR ZG (.inr V.1)
       .refine hH.back2 (s:=s) hx (λk x => ?_) ZY (λj o U=>(uX_ U).imp (λ⟨i,O,ZZ,G,ho⟩=>⟨i,O,ZZ,G,by rw[ho];exact(hx.hold i O G).move2 (ZH i O G) ZA (.inr (ZO i O G)) (ZQ j i ZZ)⟩) id) hs (Fz.Le.refl z) ZL λk x => .inl x
        obtain⟨i,id,o,D,G,h3⟩:=lp_ x;refine⟨id,o,qb D,?_,h3⟩;rcases upH_or G with h4|h4
        .exact h4
        .rcases frzP_only H C.ps xs _ _ h4 with⟨t,ys,F⟩|⟨t,y,F⟩
         .obtain rfl:=qSj F;exact h3.elim
         .obtain rfl:=qSj F;exact h3.elim
theorem lCall_ok{tab:Tab E}(ht:tab.OK P E){f:FuncId}{xs:List (V1 E)}{vs:List Value}{R:Type}{k:Option (SV E)->Chs E->Option R}{r:R}(p:Fresh g nx)(hH:HR P E Bs F0 w0 w z g H)(Z:All2 (R1 P E z g) xs vs)(h:lCall E tab H nx f xs k=some r) :
  dU_ P f=true/\Ret P f vs.toArray w λv w'=>∃s u z2 j,k (some s) u=some r/\z.Le z2/\g.Le j/\Fresh j (nxU nx u)/\RV P E z2 j s v/\HR P E Bs F0 w0 w' z2 j (upH H u)/\(iO_ tab f=false->Ext w w'):=by
 cases x:tab f with
 | none =>
  unfold lCall at h;rw[x]at h;cases h
 | some C =>
  cases G:C.I with
  | none =>
   obtain⟨D,s,u,hk,m⟩:=lCall_ok2 ht (λC' e=>by rw[x]at e;obtain rfl:=qSj e;exact G) p Z h;exact⟨D,(m Bs F0 w0 w hH).mono λv w' ⟨z2,j,Y,V,U,O,M,J⟩=>⟨s,u,z2,j,hk,Y,V,U.nxU,O,M,J⟩⟩
  | some I =>
   obtain⟨_,D,F⟩:=ht f C x;obtain⟨hl,y⟩:=F I G;unfold lCall at h;rw[x]at h;simp only[G]at h;refine⟨D,(y p hH Z h).mono λv w' ⟨s,u,z2,j,Y,V,U,O,M,J⟩=>⟨s,u,z2,j,Y,V,U,O,M,J,λq => ?_⟩⟩;unfold iO_ at q;rw[x]at q;simp only at q;rw[hl]at q;cases q
end
section
variable{P:Program}{E:TE}{w w0:World}{Bs:List Nat}{F0:Nat->Prop}
def kj_{α:Type}:List (Option (TypeId×Ty))->List (SC E)->Nat->(List (SC E)->Chs E->Nat->α)->α|some (e,ty)::ps,.nils::cs,n,k=>kj_ ps cs (n+1) λl u m=>k (.own n::l) (u++[(n,some (.row e ty [] []))]) m|_::ps,c::cs,n,k=>kj_ ps cs n λl u m=>k (c::l) u m|_,cs,n,k=>k cs [] n
def wantM:Mk->List Ty->List (Option (TypeId×Ty))|some e::f,.sl t::ts=>some (e,t)::wantM f ts|_::f,_::ts=>none::wantM f ts|_,_=>[]
def ni_(E:TE){α:Type}(t:Ty)(m:Mk)(x:V1 E)(n:Nat)(k:V1 E->Chs E->Nat->α):α :=
 match x with
 | .agg l=>kj_ (wantM m (E.flat t)) l n λl u n'=>k (.agg l) u n'
 | .one c=>kj_ (wantM m (E.flat t)) [c] n λl u n'=>match l with
  | [f]=>k (.one f) u n'
  | _=>k (.one c) [] n
def PrepIs(P:Program)(E:TE)(Bs:List Nat)(F0:Nat->Prop)(w0 w:World)(z:Fz)(g:Ga)(H:Nat->Option (Obj E))(ps:List (Option (TypeId×Ty)))(cs:List (SC E))(n:Nat):Prop:=∃l u m g',(∀{α:Type} (k:List (SC E)->Chs E->Nat->α),kj_ ps cs n k=k l u m)/\g.Le g'/\Fresh g' m/\HR P E Bs F0 w0 w z g' (upH H u)/\(∀z f vs,g'.Le f->All2 (RC P E z f) cs vs->All2 (RC P E z f) l vs)/\(∀i o,(i,o)∈u->n<=i/\o≠none)/\n<=m/\m<=n+u.length
theorem PrepIs.step{z:Fz}{g:Ga}{H:Nat->Option (Obj E)}{p:Option (TypeId×Ty)}{ps:List (Option (TypeId×Ty))}{c:SC E}{cs:List (SC E)}{n:Nat}(h:PrepIs P E Bs F0 w0 w z g H ps cs n)(s:∀{α:Type} (k:List (SC E)->Chs E->Nat->α),kj_ (p::ps) (c::cs) n k=kj_ ps cs n λl u m=>k (c::l) u m) :
  PrepIs P E Bs F0 w0 w z g H (p::ps) (c::cs) n:=by
 obtain⟨l,u,m,g',J,G,F,D,C,y,x⟩:=h;exact⟨c::l,u,m,g',(λk=>(s k).trans (J _)),G,F,D,(λz M vs q j=>by
  cases j with
  | cons f hr=>exact .cons f (C z M _ q hr)),y,x⟩
theorem jE_{z:Fz}:∀(ps:List (Option (TypeId×Ty))) (cs:List (SC E)) {n:Nat} {g:Ga} {H:Nat->Option (Obj E)},HR P E Bs F0 w0 w z g H->Fresh g n->PrepIs P E Bs F0 w0 w z g H ps cs n
 | [],cs,n,g,H,j,f=>⟨cs,[],n,g,(λ_=>by cases cs<;>rfl),Ga.Le.refl g,f,j,(λ_ _ _ _ h=>h),(λ_ _ h=>nomatch h),qA _,qA _⟩
 | p::ps,[],n,g,H,j,f=>⟨[],[],n,g,(λ_=>by cases p<;>rfl),Ga.Le.refl g,f,j,(λ_ _ _ _ h=>h),(λ_ _ h=>nomatch h),qA _,qA _⟩
 | p :: ps,c::cs,n,g,H,j,f=>by
  have D:=jE_ ps cs j f;cases p with
  | none=>exact D.step λk=>by cases c<;>rfl
  | some q =>
   obtain⟨e,ty⟩:=q;cases c with
   | nils =>
    have y:=j.row_new (e:=e) (t:=ty) (xs:=[]) (A:=none) (cap:=0) (n:=0) (rows:=[]) f (Ext.refl w) rfl ⟨by simp,.inl ⟨rfl,rfl⟩⟩ rfl (λi x r C _=>by simp at C) (λq ⟨a,O,_⟩=>nomatch O);obtain⟨l,u,m,g',C,G,Z,Y,V,U,h7⟩:=jE_ ps cs y (f.put _);refine⟨.own n::l,u++[(n,some (.row e ty [] []))],m,g',(λk => ?_),(Ga.le_put f.self).trans G,Z,by rw[←aV_];exact Y,(λz g2 vs F M => ?_),(λi o s => ?_),by omega,by simp only[qLa,qLc,zp];omega⟩
    .simp only[kj_];exact C _
    .cases M with
     | cons J hr=>exact .cons ⟨_,F _ _ (G _ _ (Ga.put_self _ _ _)),J⟩ (V z g2 _ F hr)
    .rcases qY.1 s with s|s
     .have:=U i o s;exact⟨by omega,this.2⟩
     .obtain⟨rfl,rfl⟩:=Prod.mk.inj (qD.1 s);exact⟨qA _,λe=>nomatch e⟩
   | _=>exact D.step λk=>rfl
theorem prepV_ok{z:Fz}{g:Ga}{H:Nat->Option (Obj E)}{n:Nat}(t:Ty)(m:Mk)(x:V1 E)(s:HR P E Bs F0 w0 w z g H)(q:Fresh g n) :
  ∃U u n' g',(∀{α:Type} (k:V1 E->Chs E->Nat->α),ni_ E t m x n k=k U u n')/\g.Le g'/\Fresh g' n'/\HR P E Bs F0 w0 w z g' (upH H u)/\(∀z f v,g'.Le f->R1 P E z f x v->R1 P E z f U v)/\(∀i o,(i,o)∈u->n<=i/\o≠none)/\n<=n'/\n'<=n+u.length:=by
 cases x with
 | agg l =>
  obtain⟨y,u,n',g',p,O,M,J,G,F,D⟩:=jE_ (wantM m (E.flat t)) l s q;refine⟨.agg y,u,n',g',(λk => ?_),O,M,J,(λz f v C j => ?_),F,D⟩
  .simp only[ni_];exact p _
  .obtain⟨vs,e,j⟩:=j;exact⟨vs,e,G z f vs C j⟩
 | one c =>
  obtain⟨y,u,n',g',p,O,M,J,G,F,D⟩:=jE_ (wantM m (E.flat t)) [c] s q;rcases y with _|⟨V,_|⟨c2,l2⟩⟩
  .exact⟨.one c,[],n,g,(λk=>by simp only[ni_];exact p _),Ga.Le.refl g,q,s,(λ_ _ _ _ h=>h),(λ_ _ h=>nomatch h),qA _,qA _⟩
  .exact⟨.one V,u,n',g',(λk=>by simp only[ni_];exact p _),O,M,J,(λz f v C j=>by
    have Z:All2 (RC P E z f) [V] [v]:=G z f [v] C (.cons j .nil);cases Z with
    | cons Y _=>exact Y),F,D⟩
  .exact⟨.one c,[],n,g,(λk=>by simp only[ni_];exact p _),Ga.Le.refl g,q,s,(λ_ _ _ _ h=>h),(λ_ _ h=>nomatch h),qA _,qA _⟩
theorem upH_far{H:Nat->Option (Obj E)}{i n:Nat}:∀{u:Chs E},(∀j o,(j,o)∈u->n<=j)->i<n->upH H u i=H i
 | [],_,_=>rfl
 | (j,p)::u,h,hi=>by
  simp only[upH];have:Nat.beq i j=false:=by
   cases m:Nat.beq i j with
   | false=>rfl
   | true=>have:=qNb m;have:=h j p (qE ..);omega
  rw[this];exact upH_far (u:=u) (λj o f=>h j o (qC _ f)) hi
def wantP(px:Bool)(m:Mk)(ts:List Ty):List (Option (TypeId×Ty)):=match px with|true=>none::wantM m ts|false=>wantM m ts
def onNew{α:Type}:Chs E->α->α->α | [],a,_=>a|_::_,_,b=>b
def prepB{α:Type}(H:Nat->Option (Obj E))(f:List (Option (TypeId×Ty)))(id n:Nat)(k:Chs E->Nat->α):α:=match H id with|some (.box T cs)=>kj_ f cs n λl u n'=>onNew u (k [] n) (k ((id,some (.box T l))::u) n')|_=>k [] n
def lQ_(E:TE){α:Type}:(ps:List Pm)->(Nat->Option (Obj E))->List (V1 E)->Nat->(List (V1 E)->Chs E->Nat->α)->α | .l t m::ps,H,x::xs,n,k=>ni_ E t m x n λp u j=>lQ_ E ps (upH H u) xs j λxs' f h=>k (p::xs') (f++u) h | .g t m::ps,H,x::xs,n,k=>ni_ E t m x n λp u j=>lQ_ E ps (upH H u) xs j λxs' f h=>k (p::xs') (f++u) h | .bm _ t m px::ps,H,.one (.ptr id 0)::xs,n,k=>prepB H (wantP (pxB px ps) m (E.flat t)) id n λu j=>lQ_ E ps (upH H u) (hidX H (pxB px ps) id++xs) j λxs' f h=>k (.one (.ptr id 0)::xs'.drop (hidX H (pxB px ps) id).length) (f++u) h|_::ps,H,x::xs,n,k=>lQ_ E ps H xs n λxs' u n'=>k (x::xs') u n' | [],_,xs,n,k=>k xs [] n|_::_,_,[],n,k=>k [] [] n
def PrepA(P:Program)(E:TE)(Bs:List Nat)(F0:Nat->Prop)(w0 w:World)(z:Fz)(g:Ga)(H:Nat->Option (Obj E))(ps:List Pm)(xs:List (V1 E))(n:Nat):Prop:=∃xs' u n' g',(∀{α:Type} (k:List (V1 E)->Chs E->Nat->α),lQ_ E ps H xs n k=k xs' u n')/\g.Le g'/\Fresh g' n'/\HR P E Bs F0 w0 w z g' (upH H u)/\(∀z2 f vs,z.Le z2->g'.Le f->All2 (R1 P E z2 f) xs vs->All2 (R1 P E z2 f) xs' vs)/\n'<=n+u.length/\∀i o,(i,o)∈u->o≠none
theorem HR.up{z:Fz}{g g':Ga}{H:Nat->Option (Obj E)}{i:Nat}{f o2:Obj E}(h:HR P E Bs F0 w0 w z g H)(x:g.Le g')(hi:H i=some f)(s:∀z w,ObjR P E z g w i f->ObjR P E z g' w i o2)(y:∀k,fpO g' i o2 k↔fpO g i f k):HR P E Bs F0 w0 w z g' (upH H [(i,some o2)]):=by
 refine h.turn x (i:=i) (i':=i) (C:=λk=>fpO g i f k) (λk m=>⟨f,hi,m⟩) (Grow.refl w) (λk _ _=>rfl) (s z w (h.hold i f hi)) (λk m => .inl ((y k).1 m)) λj p u => ?_
 rcases cg_ u with⟨rfl,rfl⟩|⟨q,D⟩
 .exact .inl ⟨rfl,rfl⟩
 .exact .inr ⟨q,.inl q,D⟩
theorem prepB_ok{z:Fz}{g:Ga}{H:Nat->Option (Obj E)}(C:List (Option (TypeId×Ty)))(id n:Nat)(x:HR P E Bs F0 w0 w z g H)(s:Fresh g n) :
  ∃u n' g',(∀{α:Type} (k:Chs E->Nat->α),prepB H C id n k=k u n')/\g.Le g'/\Fresh g' n'/\HR P E Bs F0 w0 w z g' (upH H u)/\n'<=n+u.length/\∀i o,(i,o)∈u->o≠none:=by
 unfold prepB;split
 .rename_i T cs hi;obtain⟨l,u,m,g',G,Z,Y,V,U,F,h7,q⟩:=jE_ C cs x s;cases u with
  | nil=>exact⟨[],n,g,(λk=>G _),Ga.Le.refl g,s,x,qA _,λ_ _ h=>nomatch h⟩
  | cons p u =>
   obtain⟨lo,D⟩:=(x.hold _ _ hi).loc;have O:id<n:=by
    rcases qN id n with q|q
    .exact q
    .rw[s id q]at D;cases D
   have y:upH H (p::u) id=some (.box T cs):=(upH_far (λi o h=>(F i o h).1) O).trans hi;have j:=V.up (Ga.Le.refl g') y (o2 := .box T l) (λz w f=>by
    obtain⟨lo',vs,k1,M,J⟩:=f;exact⟨lo',vs,k1,M,U z g' vs (Ga.Le.refl g') J⟩) (λk=>Iff.rfl)
   refine⟨(id,some (.box T l))::p::u,m,g',(λk=>G _),Z,Y,?_,by simp only[qLc]at q ⊢;omega,λi o f => ?_⟩
   .rw[aV_]at j;exact j
   .rcases qW.1 f with f|f
    .obtain⟨_,rfl⟩:=Prod.mk.inj f;exact λe=>nomatch e
    .exact(F i o f).2
 .exact⟨[],n,g,(λk=>rfl),Ga.Le.refl g,s,x,qA _,λ_ _ h=>nomatch h⟩
theorem PrepA.skip{z:Fz}{g:Ga}{H:Nat->Option (Obj E)}{p:Pm}{ps:List Pm}{x:V1 E}{xs:List (V1 E)}{n:Nat}(h:PrepA P E Bs F0 w0 w z g H ps xs n)(s:∀{α:Type} (k:List (V1 E)->Chs E->Nat->α),lQ_ E (p::ps) H (x::xs) n k=lQ_ E ps H xs n λxs' u n'=>k (x::xs') u n') :
  PrepA P E Bs F0 w0 w z g H (p::ps) (x::xs) n:=by
 obtain⟨xs',u,n',g',J,G,F,D,C,y⟩:=h;exact⟨x::xs',u,n',g',(λk=>(s k).trans (J _)),G,F,D,(λz2 M vs f q m=>by
  cases m with
  | cons j hr=>exact .cons j (C z2 M _ f q hr)),y⟩
theorem prepA_ok {z:Fz}:∀(ps:List Pm) {H:Nat->Option (Obj E)} (xs:List (V1 E)) {n:Nat} {g:Ga},HR P E Bs F0 w0 w z g H->Fresh g n->PrepA P E Bs F0 w0 w z g H ps xs n:=by
 intro ps
 induction ps with
 | nil =>
  intro H xs n g f j;exact⟨xs,[],n,g,(λk=>by cases xs<;>rfl),Ga.Le.refl g,j,f,(λ_ _ _ _ _ h=>h),qA _,λ_ _ h=>nomatch h⟩
 | cons p ps q =>
  intro H xs n g f j;cases xs with
  | nil=>exact⟨[],[],n,g,(λk=>by cases p<;>rfl),Ga.Le.refl g,j,f,(λ_ _ _ _ _ h=>h),qA _,λ_ _ h=>nomatch h⟩
  | cons x xs =>
   have row:∀(t:Ty) (m:Mk),(∀{α:Type} (k:List (V1 E)->Chs E->Nat->α),lQ_ E (p::ps) H (x::xs) n k=ni_ E t m x n λU u V=>lQ_ E ps (upH H u) xs V λxs' F G=>k (U::xs') (F++u) G)->PrepA P E Bs F0 w0 w z g H (p::ps) (x::xs) n:=λt m he=>by
    obtain⟨U,u,V,g1,h1,O,h3,h4,h5,h6,h7,h8⟩:=prepV_ok t m x f j;obtain⟨xs',F,G,g2,k1,J,k3,Z,y,k6,Y⟩:=q xs h4 h3;refine⟨U::xs',F++u,G,g2,(λk=>(he k).trans ((h1 _).trans (k1 _))),O.trans J,k3,by rw[←aV_];exact Z,(λz3 D vs M C hv => ?_),by rw[qLa];omega,λi o s => ?_⟩
    .cases hv with
     | cons hx hr=>exact .cons (h5 z3 D _ (J.trans C) hx) (y z3 D _ M C hr)
    .rcases qY.1 s with s|s
     .exact Y i o s
     .exact(h6 i o s).2
   cases p with
   | l t m=>exact row t m λk=>rfl
   | g t m=>exact row t m λk=>rfl
   | bm T t m px =>
    cases x with
    | agg l=>exact(q xs f j).skip λk=>rfl
    | one c =>
     cases c with
     | ptr id off =>
      cases off with
      | succ off=>exact(q xs f j).skip λk=>rfl
      | zero =>
       obtain⟨u,V,g1,h1,O,h3,h4,h5,h6⟩:=prepB_ok (wantP (pxB px ps) m (E.flat t)) id n f j;obtain⟨xs',F,G,g2,k1,J,k3,Z,y,k6,Y⟩:=q (hidX H (pxB px ps) id++xs) h4 h3;refine⟨.one (.ptr id 0)::xs'.drop (hidX H (pxB px ps) id).length,F++u,G,g2,(λk=>(h1 _).trans (k1 _)),O.trans J,k3,by rw[←aV_];exact Z,(λz3 D vs M C hv => ?_),by rw[qLa];omega,λi o s => ?_⟩
       .cases hv with
        | cons hx hr =>
         refine .cons hx ?_;unfold hidX at y ⊢;split at y
         .rename_i hi;obtain⟨lo,ZX,_,_,ZZ⟩:=f.hold _ _ hi;cases ZZ with
          | cons hp _ =>
           obtain⟨l2,ZY,_⟩:=hp;have hq:∃l,D _=some l/\Value.pointer (some ⟨l2.b,0,none⟩)=Value.pointer (some ⟨l.b,0,none⟩):=⟨l2,C _ _ (J _ _ (O _ _ ZY)),rfl⟩;have:=y z3 D (Value.pointer (some ⟨l2.b,0,none⟩)::_) M C (All2.cons hq hr);cases this with
           | cons _ h9=>exact h9
         .exact y z3 D _ M C hr
       .rcases qY.1 s with s|s
        .exact Y i o s
        .exact h6 i o s
     | _=>exact(q xs f j).skip λk=>rfl
   | d t=>exact(q xs f j).skip λk=>rfl
   | b T t=>exact(q xs f j).skip λk=>rfl
   | p t=>exact(q xs f j).skip λk=>rfl
   | mp T k v=>exact(q xs f j).skip λk=>rfl
   | f1 a r=>exact(q xs f j).skip λk=>rfl
   | f2 a b r=>exact(q xs f j).skip λk=>rfl
end
section
variable{P:Program}{E:TE}{z z':Fz}{g g':Ga}{nx:Nat}{w w' w0:World}{H H':Nat->Option (Obj E)}{L:Nat->Option (SV E)}{ρ:Operand->Value}{o:Oper}{Bs:List Nat}{F0:Nat->Prop}{R:Type}{r:R}
def nj_(E:TE)(L:Nat->Option (SV E)):List Operand->Option (List (V1 E))
 | []=>some []
 | x::l=>match opS E L x,nj_ E L l with
  | some (.v v),some vs=>some (v::vs)
  | _,_=>none
theorem jF_(hρ:OpR P E z g L ρ):∀{l:List Operand} {xs:List (V1 E)},nj_ E L l=some xs->All2 (R1 P E z g) xs (l.map ρ)
 | [],xs,h=>by simp only[nj_,qOi]at h;subst h;exact .nil
 | x::l,xs,h=>by
  simp only[nj_]at h;split at h
  .rename_i v vs j f;obtain rfl:=qSj h;exact .cons (hρ x _ j) (jF_ hρ f)
  .cases h
theorem uY_{f:FuncId}{args:Array Operand}{ats:Array TypeId}(h:o.op = .call { callee := .value (.func f),args:=args,argTypes:=ats })(j:ρ (.func f) = .func (.func f) #[] #[])(m:dU_ P f=true)(w:World) :
  (execOp ρ o).run P w = .ok (.enter f (args.toList.map ρ).toArray) w:=by
 unfold execOp;rw[h];simp only[resolve,j,Deferred.ofValue,Sem.run_bind,Sem.run_pure,Result.andThen_ok,invoke];have e:(#[]++args.map ρ ++ #[]:Array Value)=(args.toList.map ρ).toArray:=by
  rw[←List.map_toArray];simp
 rw[e];exact rI_ m
theorem pn_{x:Operand}{f:FuncId}{caps:Array Value}{args:Array Operand}{ats:Array TypeId}(h:o.op = .call { callee := .value x,args:=args,argTypes:=ats })(j:ρ x = .func (.func f) #[] caps)(m:dU_ P f=true)(w:World) :
  (execOp ρ o).run P w = .ok (.enter f ((args.toList.map ρ).toArray++caps)) w:=by
 unfold execOp;rw[h];simp only[resolve,j,Deferred.ofValue,Sem.run_bind,Sem.run_pure,Result.andThen_ok,invoke];have e:(#[]++args.map ρ++caps:Array Value)=(args.toList.map ρ).toArray++caps:=by
  rw[←List.map_toArray];simp
 rw[e];exact rI_ m
theorem qz_{t:Ty}{x:V1 E}{d:Den E.S t}{v:Value}(m:HR P E Bs F0 w0 w z g H)(h:takeD E H t x=some d)(hr:R1 P E z g x v):RT E z t d v:=by
 unfold takeD at h;split at h
 .rename_i p j f;obtain rfl:=qSj h;cases x with
  | one c =>
   have:=ep_ m f (.cons hr .nil:All2 (RC P E z g) [c] [v]);cases t with
   | st n=>cases j
   | int k=>exact this
   | bool=>exact this
   | str=>exact this
   | sl e=>exact this
  | agg l =>
   obtain⟨vs,rfl,hr⟩:=hr;have:=ep_ m f hr;cases t with
   | st n =>
    have q:RD E z (E.flat (.st n)) (E.fl (.st n) (E.ufl (.st n) p)) vs:=by rw[E.fl_ufl];exact this
    exact⟨vs,rfl,q⟩
   | _=>cases j
 .cases h
def lCallV(E:TE)(L:Nat->Option (SV E))(H:Nat->Option (Obj E))(x:Operand)(args:List Operand){R:Type}(k:Option (SV E)->Chs E->Option R):Option R :=
 match opS E L x,nj_ E L args with
 | some (.v (.one (.fn1 a r f))),some [u]=>match takeD E H a u with
  | some d=>Option.bind (f d) λy=>k (some (.v (.one (.dt r y)))) []
  | none=>none
 | some (.v (.one (.fn2 a b r f))),some [u,v]=>match takeD E H a u,takeD E H b v with
  | some d,some e=>Option.bind (f d e) λy=>k (some (.v (.one (.dt r y)))) []
  | _,_=>none
 | _,_=>none
theorem lCallV_ok{x:Operand}{args:List Operand}{k:Option (SV E)->Chs E->Option R}(hρ:OpR P E z g L ρ)(m:HR P E Bs F0 w0 w z g H)(h:lCallV E L H x args k=some r) :
  ∃f caps s,ρ x = .func (.func f) #[] caps/\dU_ P f=true/\k (some s) []=some r/\Ret P f ((args.map ρ).toArray++caps) w λv w'=>RV P E z g s v/\Ext w w':=by
 unfold lCallV at h;split at h
 .rename_i a r' f u C D;split at h
  .rename_i d G;obtain⟨y,q,h⟩:=bind_some h;obtain⟨fid,caps,e,⟨M,F⟩,J⟩:=hρ x _ C;have j:=jF_ hρ D;generalize args.map ρ=vs at j;cases j with
   | cons O p =>
    cases p
    exact⟨fid,caps,_,e,M,h,J w z (d,()) y _ (Fz.Le.refl z) m.fz ⟨_,_,rfl,qz_ m G O,rfl⟩ q⟩
  .cases h
 .rename_i a b r' f u v C D;split at h
  .rename_i d e' G U;obtain⟨y,q,h⟩:=bind_some h;obtain⟨fid,caps,e,⟨M,F⟩,J⟩:=hρ x _ C;have j:=jF_ hρ D;generalize args.map ρ=vs at j;cases j with
   | cons O p =>
    cases p with
    | cons p V =>
     cases V
     exact⟨fid,caps,_,e,M,h,J w z (d,e',()) y _ (Fz.Le.refl z) m.fz ⟨_,_,rfl,qz_ m G O,_,_,rfl,qz_ m U p,rfl⟩ q⟩
  .cases h
 .cases h
def capsV(E:TE):List Nat->List (V1 E) | []=>[]|i::l => .one (.ptr i 0)::capsV E l
theorem tY_:∀{ids:List Nat} {us:List Value},All2 (λid u=>∃l,g id=some l/\u=Value.pointer (some ⟨l.b,0,none⟩)) ids us->All2 (R1 P E z g) (capsV E ids) us
 | [],_,h=>by cases h;exact .nil
 | i::ids,_,h=>by
  cases h with
  | cons j f=>exact .cons j (tY_ f)
def psOf(tab:Tab E)(f:FuncId):List Pm:=match tab f with|some C=>C.ps|none=>[]
def pCall(E:TE)(tab:Tab E)(H:Nat->Option (Obj E))(nx:Nat)(f:FuncId)(xs:List (V1 E)){R:Type}(k:Option (SV E)->Chs E->Option R):Option R:=lQ_ E (psOf tab f) H xs nx λxs u n=>lCall E tab (upH H u) n f xs λs h=>k s (h++u)
theorem nxU_app{nx n':Nat}{u f:Chs E}(h:n'<=nx+u.length)(s:∀i o,(i,o)∈u->o≠none):nxU n' f<=nxU nx (f++u):=by
 cases f with
 | nil =>
  cases u with
  | nil=>simp only[zp]at h;simp only[nxU,zl];omega
  | cons p u =>
   obtain⟨i,o⟩:=p;cases o with
   | none=>exact(s i none (qE ..) rfl).elim
   | some o=>simp only[qLc]at h;simp only[nxU,zG];omega
 | cons p f =>
  obtain⟨i,o⟩:=p;cases o with
  | some o=>simp only[nxU,qa,qLa];omega
  | none =>
   simp only[nxU,qa,qLa];cases q:Nat.ble (n'+1+(f.length+1)) (i+1)<;>cases m:Nat.ble (nx+1+(f.length+List.length u+1)) (i+1)<;>simp only
   .omega
   .have y:=qy m;have x:n'+1+(f.length+1)<=i+1:=by omega
    rw[zy x]at q;cases q
   .have y:¬(nx+1+(f.length+List.length u+1)<=i+1):=λj=>by rw[zy j]at m;cases m
    omega
   .exact qA _
theorem pCall_ok{tab:Tab E}(O:tab.OK P E){f:FuncId}{xs:List (V1 E)}{vs:List Value}{R:Type}{k:Option (SV E)->Chs E->Option R}{r:R}(m:Fresh g nx)(V:HR P E Bs F0 w0 w z g H)(M:All2 (R1 P E z g) xs vs)(h:pCall E tab H nx f xs k=some r) :
  dU_ P f=true/\Ret P f vs.toArray w λv w'=>∃s u z2 j,k (some s) u=some r/\z.Le z2/\g.Le j/\Fresh j (nxU nx u)/\RV P E z2 j s v/\HR P E Bs F0 w0 w' z2 j (upH H u)/\(iO_ tab f=false->Ext w w'):=by
 unfold pCall at h;obtain⟨xs',u,n',g',h1,q,h3,h4,h5,Z,Y⟩:=prepA_ok (psOf tab f) xs V m;rw[h1]at h;obtain⟨U,hr⟩:=lCall_ok O h3 h4 (h5 z g' vs (Fz.Le.refl z) (Ga.Le.refl g') (M.mono λ_ _ J=>R1.le J (Fz.Le.refl z) q)) h;refine⟨U,hr.mono λv w' ⟨s,x,z2,j,k1,G,F,D,C,p,y⟩=>⟨s,x++u,z2,j,k1,G,q.trans F,λi hi=>D i (qt (nxU_app Z Y) hi),C,?_,y⟩⟩;rw[aV_]at p;exact p
noncomputable def evOp(P:Program)(E:TE)(eqs:List (Nat×Nat))(tab:Tab E)(L:Nat->Option (SV E))(H:Nat->Option (Obj E))(nx:Nat)(o:Oper){R:Type}(k:Option (SV E)->Chs E->Option R):Option R :=
 match o.op with
 | .box T x=>lBox E L nx T x k
 | .alloc T=>lAlloc P E nx T k
 | .store T x y=>lStore P E L H T x y k
 | .buildSlice T n ps=>lSlice P E L H nx T n ps k
 | .makeSlice T x y=>lMake P E L nx T x y k
 | .makeMap T none=>tT_ P E nx T k
 | .mapUpdate T m x y=>lMapUpd P E eqs L H T m x y k
 | .mapEntry T m x=>lMapEnt P E eqs L H nx T m x k
 | .entryStore _ m x y=>lEntSt E L H m x y k
 | .call { callee := .builtin .append,args:=⟨[x,y]⟩,argTypes:=⟨[T,T']⟩ }=>match Nat.beq T T' with
  | true=>lApp P E L H nx T x y k
  | false=>lAppS P E L H nx T T' x y k
 | .call { callee := .builtin .copy,args:=⟨[x,y]⟩,argTypes:=⟨[T,_]⟩ }=>lCopy P E L H T x y k
 | .call { callee := .value (.func f),args:=args,argTypes:=_ }=>match nj_ E L args.toList with
  | some xs=>pCall E tab H nx f xs k
  | none=>none
 | .call { callee := .value (.tmp t),args:=args,argTypes:=_ }=>match L t with
  | some (.v (.one (.clo f ids)))=>match nj_ E L args.toList with
   | some xs=>pCall E tab H nx f (xs++capsV E ids) k
   | none=>none
  | _=>lCallV E L H (.tmp t) args.toList k
 | _=>qOp P E eqs L H nx o λs up=>k (some s) (match up with|none=>[]|some (i,p)=>[(i,some p)])
def fK_(tab:Tab E)(L:Nat->Option (SV E))(o:Oper):Bool:=match o.op with
 | .store .. => false
 | .mapUpdate .. => false
 | .mapEntry .. => false
 | .entryStore .. => false
 | .call { callee := .builtin .append,args:=_,argTypes:=_ }=>false
 | .call { callee := .builtin .copy,args:=_,argTypes:=_ }=>false
 | .call { callee := .value (.func f),args:=_,argTypes:=_ } => !(iO_ tab f)
 | .call { callee := .value (.tmp t),args:=_,argTypes:=_ }=>match L t with
  | some (.v (.one (.clo f _))) => !(iO_ tab f)
  | _=>true
 | _=>true
theorem n2_{eqs:List (Nat×Nat)}{tab:Tab E}{N:Nat}{a:Act}{K:Act->World->Prop}{Q:Exit->Act->World->Prop}{k:Option (SV E)->Chs E->Option R}(V:∀p∈eqs,ba_ P E p.1 p.2)(D:tab.OK P E)(q:Fresh g nx)(O:ER P E z g N a L)(C:HR P E Bs F0 w0 w z g H)
  (h:evOp P E eqs tab L H nx o k=some r)
  (Z:∀s u v w' z2 F,k s u=some r->z.Le z2->g.Le F->ER P E z2 F N a L->HR P E Bs F0 w0 w' z2 F (upH H u)->Fresh F (nxU nx u)->(∀sv,s=some sv->RV P E z2 F sv v)->(fK_ tab L o=true->Ext w w')->K (a.put o.dst v) w'):o.wp P a w K Q:=by
 have hρ:=O.op C.gl;have hρc:∀v,a.eval (.const v)=v:=λv=>rfl
 have loud:∀{ex:Bool},(fK_ tab L o=true->ex=true)->e1_ P E Bs F0 w0 w z g nx H a.eval o ex k r->o.wp P a w K Q:=by
  rintro ex ZX ⟨s,u,z2,F,w',n,J,D⟩;unfold Oper.wp;rw[D.run];have M:Fresh F (nxU nx u):=Fresh.nxU λi hi=>D.fresh i (by omega)
  cases s with
  | some sv =>
   obtain⟨v,rfl,hv⟩:=D.val;exact Z _ u v w' z2 F J D.le D.leg (O.le D.le D.leg) D.hr M (λsv' e=>by obtain rfl:=qSj e;exact hv) λhm=>D.ext (ZX hm)
  | none =>
   have hn:n = .skip:=D.val;subst hn;exact Z none u undef w' z2 F J D.le D.leg (O.le D.le D.leg) D.hr M (λsv' e=>by cases e) λhm=>D.ext (ZX hm)
 unfold evOp at h;split at h
 .rename_i T x j;exact loud (λ_=>rfl) (lBox_ok j q hρ C h)
 .rename_i T j;exact loud (λ_=>rfl) (lAlloc_ok j q C h)
 .rename_i T x y j;exact loud (λhm=>by simp[fK_,j]at hm) (lStore_ok j q hρ C h)
 .rename_i T n ps j;exact loud (λ_=>rfl) (lSlice_ok j q hρ C h)
 .rename_i T x y j;exact loud (λ_=>rfl) (lMake_ok j hρc q hρ C h)
 .rename_i T j;exact loud (λ_=>rfl) (lMakeMap_ok j q C h)
 .rename_i T m x y j;exact loud (λhm=>by simp[fK_,j]at hm) (lMapUpd_ok V j q hρ C h)
 .rename_i T m x j;exact loud (λhm=>by simp[fK_,j]at hm) (lMapEnt_ok V j q hρ C h)
 .rename_i T m x y j;exact loud (λhm=>by simp[fK_,j]at hm) (lEntSt_ok j q hρ C h)
 .rename_i x y T T' j;split at h
  .rename_i Y;obtain rfl:=qNb Y;exact loud (λhm=>by simp[fK_,j]at hm) (lApp_ok j q hρ C h)
  .exact loud (λhm=>by simp[fK_,j]at hm) (lAppS_ok j q hρ C h)
 .rename_i x y T T2 j;exact loud (λhm=>by simp[fK_,j]at hm) (lCopy_ok j q hρ C h)
 .rename_i f args ats j;split at h
  .rename_i xs U;obtain⟨Y,G⟩:=pCall_ok D q C (jF_ hρ U) h;unfold Oper.wp;rw[uY_ j rfl Y];simp only[Oper.upon];refine Calls.mono G λe w' ⟨v,he,s,u,z2,F,J,h1,h2,h3,h4,h5,h6⟩ => ?_
   subst he;exact Z _ u v w' z2 F J h1 h2 (O.le h1 h2) h5 h3 (λsv' e=>by obtain rfl:=qSj e;exact h4) λhm=>h6 (by simpa[fK_,j]using hm)
  .cases h
 .rename_i t args ats j;split at h
  .rename_i f ids hL;split at h
   .rename_i xs U;obtain⟨us,hf,ZW⟩:=hρ (.tmp t) _ hL;obtain⟨Y,G⟩:=pCall_ok D q C ((jF_ hρ U).append (tY_ ZW)) h;unfold Oper.wp;rw[pn_ j hf Y];simp only[Oper.upon];have e:(args.toList.map a.eval).toArray++us.toArray=(args.toList.map a.eval++us).toArray:=by simp
    rw[e];refine Calls.mono G λe w' ⟨v,he,s,u,z2,F,J,h1,h2,h3,h4,h5,h6⟩ => ?_
    subst he;exact Z _ u v w' z2 F J h1 h2 (O.le h1 h2) h5 h3 (λsv' e=>by obtain rfl:=qSj e;exact h4) λhm=>h6 (by simpa[fK_,j,hL]using hm)
   .cases h
  .obtain⟨f,caps,s,hf,Y,J,G⟩:=lCallV_ok hρ C h;unfold Oper.wp;rw[pn_ j hf Y];simp only[Oper.upon];refine Calls.mono G λe w' ⟨v,he,hv,hx⟩ => ?_
   subst he;exact Z _ [] v w' z g J (Fz.Le.refl z) (Ga.Le.refl g) O (C.ext hx) (Fresh.nxU λi hi=>q i (by omega)) (λsv' e=>by obtain rfl:=qSj e;exact hv) λ_=>hx
 .obtain⟨s,v,up,F,J,hg,ZV,hv,ZY,ZZ⟩:=qOp_ok (W:=w) (I:=λw'=>w'=w) V q.self hρ C (λw' e=>by subst e;exact Stands.refl C) h;unfold Oper.wp;rw[ZY w rfl];have M:∀m,Fresh F (nx+1+m):=λm i hi=>by rw[ZV i (by omega)];exact q i (by omega)
  cases up with
  | none =>
   obtain rfl:=ZZ;exact Z _ [] v w z F J (Fz.Le.refl z) (Ga.Le.refl F) O C (M _).nxU (λsv' e=>by obtain rfl:=qSj e;exact hv) λ_=>Ext.refl w
  | some p =>
   obtain⟨i,o2⟩:=p;obtain⟨o1,h1,h2,h3⟩:=ZZ;exact Z _ [(i,some o2)] v w z F J (Fz.Le.refl z) hg (O.le (Fz.Le.refl z) hg) (C.up hg h1 h2 h3) (M _).nxU (λsv' e=>by obtain rfl:=qSj e;exact hv) λ_=>Ext.refl w
theorem evOp_ok{eqs:List (Nat×Nat)}{tab:Tab E}{N:Nat}{a:Act}{K:Act->World->Prop}{Q:Exit->Act->World->Prop}{k:Option (SV E)->Chs E->Option R}(m:∀p∈eqs,ba_ P E p.1 p.2)(q:tab.OK P E)(j:Fresh g nx)(C:ER P E z g N a L)(y:HR P E Bs F0 w0 w z g H)
  (h:evOp P E eqs tab L H nx o k=some r)
  (x:∀s u v w' z2 f,k s u=some r->z.Le z2->g.Le f->ER P E z2 f N a L->HR P E Bs F0 w0 w' z2 f (upH H u)->Fresh f (nxU nx u)->(∀sv,s=some sv->RV P E z2 f sv v)->K (a.put o.dst v) w'):o.wp P a w K Q :=
 n2_ m q j C y h λs u v w' z2 f U O M J G F D _=>x s u v w' z2 f U O M J G F D
end
section
variable{P:Program}{E:TE}{z z':Fz}{g g':Ga}{nx:Nat}{w w' W w0:World}{I:World->Prop}{H H':Nat->Option (Obj E)}{L:Nat->Option (SV E)}{ρ:Operand->Value}{o:Oper}{Bs:List Nat}{F0:Nat->Prop}{R:Type}{r:R}
def SC.enc:SC E->Option Value | .dt (.int k) n=>some (.int k n) | .dt .bool b=>some (.bool b) | .dt .str s=>some (S s)|_=>none
def encCs:List (SC E)->Option (List Value)
 | []=>some []
 | c::l=>match c.enc,encCs l with
  | some v,some vs=>some (v::vs)
  | _,_=>none
def V1.enc:V1 E->Option Value
 | .one c=>c.enc
 | .agg l=>match encCs l with
  | some vs=>some (.agg vs.toArray)
  | none=>none
def encVs:List (V1 E)->Option (List Value)
 | []=>some []
 | c::l=>match c.enc,encVs l with
  | some v,some vs=>some (v::vs)
  | _,_=>none
def SV.enc:SV E->Option Value
 | .v x=>x.enc
 | .tup l=>match encVs l with
  | some vs=>some (.tuple vs.toArray)
  | none=>none
theorem SC.enc_ok{c:SC E}{u v:Value}(h:c.enc=some u):RC P E z g c v↔v=u:=by
 unfold SC.enc at h;split at h
 .obtain rfl:=qSj h;exact⟨λhr=>by obtain⟨vs,e,_⟩:=RD.int_inv (hr:RD E z _ _ [v]);simp at e;exact e.1,λe=>by subst e;exact RD.int .nil⟩
 .obtain rfl:=qSj h;exact⟨λhr=>by obtain⟨vs,e,_⟩:=RD.bool_inv (hr:RD E z _ _ [v]);simp at e;exact e.1,λe=>by subst e;exact RD.bool .nil⟩
 .obtain rfl:=qSj h;exact⟨λhr=>by obtain⟨vs,e,_⟩:=RD.str_inv (hr:RD E z _ _ [v]);simp at e;exact e.1,λe=>by subst e;exact RD.str .nil⟩
 .cases h
theorem qA_:∀{l:List (SC E)} {us vs:List Value},encCs l=some us->(All2 (RC P E z g) l vs↔vs=us)
 | [],us,vs,h=>by
  obtain rfl:=qSj h;exact⟨λh=>by cases h;rfl,λe=>by subst e;exact .nil⟩
 | c :: l,us,vs,h=>by
  simp only[encCs]at h;split at h
  .rename_i v vs' j f;obtain rfl:=qSj h;refine⟨λh => ?_,λe => ?_⟩
   .cases h with
    | cons p m =>
     obtain rfl:=(SC.enc_ok j).1 p;obtain rfl:=(qA_ f).1 m;rfl
   .subst e;exact .cons ((SC.enc_ok j).2 rfl) ((qA_ f).2 rfl)
  .cases h
theorem V1.enc_ok{x:V1 E}{u v:Value}(h:x.enc=some u):R1 P E z g x v↔v=u:=by
 cases x with
 | one c=>exact SC.enc_ok h
 | agg l =>
  simp only[V1.enc]at h;split at h
  .rename_i vs f;obtain rfl:=qSj h;exact⟨λ⟨us,e,j⟩=>by obtain rfl:=(qA_ f).1 j;exact e,λe=>⟨vs,e,(qA_ f).2 rfl⟩⟩
  .cases h
theorem n3_:∀{l:List (V1 E)} {us vs:List Value},encVs l=some us->(All2 (R1 P E z g) l vs↔vs=us)
 | [],us,vs,h=>by
  obtain rfl:=qSj h;exact⟨λh=>by cases h;rfl,λe=>by subst e;exact .nil⟩
 | c :: l,us,vs,h=>by
  simp only[encVs]at h;split at h
  .rename_i v vs' j f;obtain rfl:=qSj h;refine⟨λh => ?_,λe => ?_⟩
   .cases h with
    | cons p m =>
     obtain rfl:=(V1.enc_ok j).1 p;obtain rfl:=(n3_ f).1 m;rfl
   .subst e;exact .cons ((V1.enc_ok j).2 rfl) ((n3_ f).2 rfl)
  .cases h
theorem SV.enc_ok{x:SV E}{u v:Value}(h:x.enc=some u):RV P E z g x v↔v=u:=by
 cases x with
 | v x=>exact V1.enc_ok h
 | tup l =>
  simp only[SV.enc]at h;split at h
  .rename_i vs f;obtain rfl:=qSj h;exact⟨λ⟨us,e,j⟩=>by obtain rfl:=(n3_ f).1 j;exact e,λe=>⟨vs,e,(n3_ f).2 rfl⟩⟩
  .cases h
def qCall(E:TE)(tab:Tab E)(H:Nat->Option (Obj E))(nx:Nat)(f:FuncId)(xs:List (V1 E)){R:Type}(k:Option (SV E)->Chs E->Option R):Option R :=
 match iO_ tab f with
 | true=>none
 | false=>lCall E tab H nx f xs λs u=>match s,u with
  | some sv,[]=>match sv.enc with
   | some _=>k (some sv) []
   | none=>none
  | _,_=>none
noncomputable def kk_(P:Program)(E:TE)(eqs:List (Nat×Nat))(tab:Tab E)(L:Nat->Option (SV E))(H:Nat->Option (Obj E))(nx:Nat)(o:Oper){R:Type}(k:Option (SV E)->Chs E->Option R):Option R :=
 match o.op with
 | .call { callee := .value (.func f),args:=args,argTypes:=_ }=>match nj_ E L args.toList with
  | some xs=>qCall E tab H nx f xs k
  | none=>none
 | .call { callee := .value (.tmp t),args:=args,argTypes:=_ }=>match L t with
  | some (.v (.one (.clo f ids)))=>match nj_ E L args.toList with
   | some xs=>qCall E tab H nx f (xs++capsV E ids) k
   | none=>none
  | _=>none
 | _=>qOp P E eqs L H nx o λs up=>k (some s) (match up with|none=>[]|some (i,p)=>[(i,some p)])
def Keeps(P:Program)(E:TE)(z:Fz)(g:Ga)(H:Nat->Option (Obj E))(W w:World):Prop:=Stands z g H W w/\∃Bs F0 w0,HR P E Bs F0 w0 w z g H
theorem Keeps.of_ext(f:HR P E Bs F0 w0 W z g H)(h:Ext W w):Keeps P E z g H W w:=⟨Stands.of_ext f h,_,_,_,f.ext h⟩
def Quiet(P:Program)(E:TE)(Bs:List Nat)(F0:Nat->Prop)(w0 W:World)(I:World->Prop)(z:Fz)(g:Ga)(nx:Nat)(H:Nat->Option (Obj E))(ρ:Operand->Value)(o:Oper){R:Type}(k:Option (SV E)->Chs E->Option R)(r:R):Prop:=∃s u v f,k (some s) u=some r/\g.Le f/\HR P E Bs F0 w0 W z f (upH H u)/\Fresh f (nx+1+u.length)/\RV P E z f s v/\∀w',I w'->Oper.quietUponX P w' v ((execOp ρ o).run P w')
theorem qCall_ok{tab:Tab E}(U:tab.OK P E)(x:Fresh g nx)(hH:HR P E Bs F0 w0 W z g H)(hI:∀w',I w'->Keeps P E z g H W w'){f:FuncId}{xs:List (V1 E)}{vs:List Value}{k:Option (SV E)->Chs E->Option R}(Y:All2 (R1 P E z g) xs vs)(h:qCall E tab H nx f xs k=some r)
  (p:dU_ P f=true->∀w',(execOp ρ o).run P w' = .ok (.enter f vs.toArray) w'):Quiet P E Bs F0 w0 W I z g nx H ρ o k r:=by
 unfold qCall at h;split at h
 .cases h
 .rename_i j;obtain⟨hb,s,u,y,q⟩:=lCall_ok2 U (λC e=>by
   cases J:C.I with
   | none=>rfl
   | some I2 =>
    have h5:=((U f C e).2.2 I2 J).1;unfold iO_ at j;rw[e]at j;simp only at j;rw[h5]at j;cases j) x Y h
  split at y
  .rename_i sv G;obtain rfl:=qSj G;split at y
   .rename_i v m;refine⟨_,[],v,g,y,Ga.Le.refl g,hH,(λi hi=>x i (by omega)),(SV.enc_ok m).2 rfl,λw' F => ?_⟩;rw[p hb w'];obtain⟨_,Bs',O,D,M⟩:=hI w' F;refine⟨rfl,Calls.mono (q Bs' O D w' M) λe V ⟨v',Z,z2,g2,_,_,_,h4,_,h6⟩ => ?_⟩;obtain rfl:=(SV.enc_ok m).1 h4;exact⟨Z,h6 j⟩
   .cases y
  .cases y
theorem n4_{eqs:List (Nat×Nat)}{tab:Tab E}{N:Nat}{a:Act}{k:Option (SV E)->Chs E->Option R}(O:∀p∈eqs,ba_ P E p.1 p.2)(Z:tab.OK P E)(j:Fresh g nx)(hE:ER P E z g N a L)(x:HR P E Bs F0 w0 W z g H)(V:∀w',I w'->Keeps P E z g H W w')
  (h:kk_ P E eqs tab L H nx o k=some r):Quiet P E Bs F0 w0 W I z g nx H a.eval o k r:=by
 have hρ:=hE.op x.gl;unfold kk_ at h;split at h
 .rename_i f args ats J;split at h
  .rename_i xs q;exact qCall_ok Z j x V (jF_ hρ q) h λU w'=>uY_ J rfl U w'
  .cases h
 .rename_i t args ats J;split at h
  .rename_i f ids hL;split at h
   .rename_i xs q;obtain⟨us,hf,G⟩:=hρ (.tmp t) _ hL;refine qCall_ok Z j x V ((jF_ hρ q).append (tY_ G)) h λU w' => ?_
    rw[pn_ J hf U w'];simp
   .cases h
  .cases h
 .obtain⟨s,v,up,F,hk,hg,M,Y,C,y⟩:=qOp_ok (W:=W) (I:=I) O j.self hρ x (λw' u=>(V w' u).1) h;have D:∀m,Fresh F (nx+1+m):=λm i hi=>by rw[M i (by omega)];exact j i (by omega)
  have hq:∀w',I w'->Oper.quietUponX P w' v ((execOp a.eval o).run P w'):=λw' u=>by rw[C w' u];exact⟨rfl,rfl⟩
  cases up with
  | none =>
   obtain rfl:=y;exact⟨s,[],v,F,hk,Ga.Le.refl F,x,D _,Y,hq⟩
  | some p =>
   obtain⟨i,o2⟩:=p;obtain⟨o1,h1,h2,h3⟩:=y;exact⟨s,[(i,some o2)],v,F,hk,hg,x.up hg h1 h2 h3,D _,Y,hq⟩
noncomputable def qFree(P:Program)(E:TE)(eqs:List (Nat×Nat))(L:Nat->Option (SV E))(o:Oper){R:Type}(k:SV E->Up E->Option R):Option R:=match o.op with | .move x=>qMove E L x k | .assign x=>qMove E L x k | .nilCheck x=>qNil E L x k | .extract x i=>qm_ E L x i k | .field T x f=>qField P E L T x f k | .fieldAddr T x f=>nd_ P E L T x f k | .unOp _ _ _=>nc_ P E L o k | .binOp op T x y _=>qBin P E L (λ_=>none) eqs o op T x y k | .index T x i=>qIndex P E L T x i k | .slice T x lo hi none=>qSlice P E L (λ_=>none) T x lo hi k | .convert _ _ _=>nc_ P E L o k | .build T ps=>qBuild P E L T ps k | .makeFunc f first caps=>oL_ E L f first caps k | .call { callee := .builtin .len,args:=⟨[x]⟩,argTypes:=⟨[T]⟩ }=>qLen P E L (λ_=>none) T x k|_=>none
theorem lr_{eqs:List (Nat×Nat)}{k:SV E->Up E->Option R}(m:∀p∈eqs,ba_ P E p.1 p.2)(hρ:OpR P E z g L ρ)(q:HR P E Bs F0 w0 W z g (λ_=>none))(h:qFree P E eqs L o k=some r)(I:World->Prop):Good P E z g nx I (λ_=>none) ρ o k r:=by
 unfold qFree at h;split at h
 case h_1 x j=>exact ql_ (.inl j) hρ h
 case h_2 x j=>exact ql_ (.inr j) hρ h
 case h_3 x j=>exact qNil_ok j hρ h
 case h_4 x i j=>exact tt_ j hρ h
 case h_5 T x f j=>exact qField_ok j hρ h
 case h_6 T x f j=>exact rm_ j hρ h
 case h_7=>exact jC_ hρ h
 case h_8 op T x y yt j=>exact qBin_ok j m hρ q h
 case h_9 T x i j=>exact qIndex_ok j hρ h
 case h_10 T x lo hi j=>exact qSlice_ok j hρ q h
 case h_11=>exact jC_ hρ h
 case h_12 T ps j=>exact qBuild_ok j hρ h
 case h_13 f first caps j=>exact rO_ j hρ h
 case h_14 x T j=>exact qLen_ok j hρ q h
 case h_15=>cases h
end
end Rt
open Go.RowKit
section
variable{P:Program}{ops:Array Oper}{md:Region.Mode}{Q:Exit->Act->World->Prop}
def Oper.quietI(P:Program)(o:Oper)(a:Act)(I:World->Prop)(next:Act->Prop):Prop:=∃v,(∀w,I w->Oper.quietUponX P w v ((execOp a.eval o).run P w))/\next (a.put o.dst v)
def b8_(P:Program)(ops:Array Oper)(tl fr:List Nat)(I:World->Prop)(Q:Exit->Act->World->Prop):List (Nat×Bool)->Act->World->Prop
 | [],a,w=>∀X d,Q .normal a (w.ext X d)
 | (i,true)::rest,a,w=>match ops[i]? with
  | none=>False
  | some o=>∀X d,wpList P ops (Exit.then (λf w'=>(tl.contains i=false->I w->I w')/\b8_ P ops tl fr I Q rest f w') (ef_ Q)) [o] a (w.ext X d)
 | (i,false)::rest,a,w=>match ops[i]? with
  | none=>False
  | some o=>if Region.wanted o (yielded ops a.tmps)then o.quietI P a (if fr.contains i then λ_=>True else I) (λf=>b8_ P ops tl fr I Q rest f w)else b8_ P ops tl fr I Q rest (a.put o.dst undef) w
def fe_(P:Program)(md:Region.Mode)(ops:Array Oper)(tl:List Nat)(I:World->Prop)(Q:Exit->Act->World->Prop):Nat->Bool->Array Bool->Act->World->Prop
 | 0,_,f,a,w=>Region.ready md ops f=[]/\∀X d,Q .normal a (w.ext X d)
 | fuel+1,st,f,a,w =>
  (Region.ready md ops f=[]->∀X d,Q .normal a (w.ext X d)) /\
  ∀i∈Region.ready md ops f,∀X d,wpOp P ops (ef_ Q) i (λh w'=>((st && !(tl.contains i))=true->I w')/\fe_ P md ops tl I Q fuel (st && !(tl.contains i)) (f.setIfInBounds i true) h w') a (w.ext X d)
theorem nk_{I:World->Prop}{tl:List Nat}:∀(fuel:Nat) (st:Bool) (f:Array Bool) (a:Act) (w:World),fe_ P md ops tl I Q fuel st f a w->wpAny P md ops Q fuel f a w
 | 0,_,_,a,w,h=>⟨h.1,by have:=h.2 #[] w.drawn;rwa [←World.self_as_ext]at this⟩
 | fuel+1,_,_,a,w,h=>⟨λj=>by have:=h.1 j #[] w.drawn;rwa [←World.self_as_ext]at this,λi hi=>by
   have:=h.2 i hi #[] w.drawn;rw[←World.self_as_ext]at this;exact wpOp_out (wpOp_mono (λp w' m=>nk_ fuel _ _ p w' m.2) this)⟩
theorem kl_{I:World->Prop}{tl:List Nat}:∀(fuel:Nat) (st:Bool) (f:Array Bool) (a:Act) (w:World) (X:Array Obj) (d:Nat),fe_ P md ops tl I Q fuel st f a w->fe_ P md ops tl I Q fuel st f a (w.ext X d)
 | 0,_,_,a,w,X,d,h=>⟨h.1,λY e=>by rw[World.ext_ext];exact h.2 _ _⟩
 | fuel+1,_,_,a,w,X,d,h=>⟨λj Y e=>by rw[World.ext_ext];exact h.1 j _ _,λi hi Y e=>by rw[World.ext_ext];exact h.2 i hi _ _⟩
def YieldsI(P:Program)(ops:Array Oper)(I:World->Prop)(o:Oper)(v:Value)(a:Act):Prop:=(Region.wanted o (yielded ops a.tmps)=true/\∀w,I w->Oper.quietUponX P w v ((execOp a.eval o).run P w))\/(Region.wanted o (yielded ops a.tmps)=false/\v=undef)
theorem YieldsI.of_same{I:World->Prop}{o:Oper}{v:Value}{a f:Act}(h:YieldsI P ops I o v a)(m:execOp f.eval o=execOp a.eval o)
  (j:Region.wanted o (yielded ops f.tmps)=Region.wanted o (yielded ops a.tmps)):YieldsI P ops I o v f:=by
 unfold YieldsI at *
 rw[m,j];exact h
theorem YieldsI.wpOp{I:World->Prop}{w:World}{i:Nat}{o:Oper}{v:Value}{a:Act}(hi:ops[i]? = some o)(C:YieldsI P ops I o v a)(D:I w)
  {K:Act->World->Prop} (h:∀w',Ext w w'->K (a.put o.dst v) w'):wpOp P ops Q i K a w:=by
 unfold Go.wpOp;simp only[hi];rcases C with⟨j,F⟩|⟨j,rfl⟩
 .simp only[j,jB]
  left
  unfold Oper.wp;have p:=F w D;generalize(execOp a.eval o).run P w=r at *
  cases r with
  | ok n w' =>
   cases n<;>simp only[Oper.quietUponX]at p<;>simp only[Oper.upon]
   case value u=>obtain⟨q,s⟩:=p;rw[q,s];exact h _ (Ext.refl _)
   case skip=>obtain⟨q,s⟩:=p;rw[q,←s];exact h _ (Ext.refl _)
   case enter f args =>
    obtain⟨q,J⟩:=p;rw[q];exact J.mono λe y ⟨G,m⟩=>by subst G;exact h _ m
  | halt x w'=>simp only[Oper.quietUponX]at p
 .simp only[j,qu,jJ];exact h _ (Ext.refl _)
theorem wpOp_putI{I:World->Prop}{j:Nat}{oi oj:Oper}{v:Value}(O:ops[j]? = some oj)(hap:oi.apart ops oj=true)
  (D:∀cs b,oi.op ≠ .select cs b) (q:∀cs b,oj.op ≠ .select cs b) {K:Act->World->Prop} {a:Act} {w:World}
  (m:YieldsI P ops I oi v a) (h:wpOp P ops (ef_ Q) j K (a.put oi.dst v) w) :
  wpOp P ops (ef_ Q) j (λJ w'=>YieldsI P ops I oi v J/\K (J.put oi.dst v) w') a w:=by
 obtain⟨F,p,G⟩:=Oper.apart_spec hap;have keep:∀(a:Act),YieldsI P ops I oi v a->∀u,YieldsI P ops I oi v (a.put oj.dst u):=λa m u =>
  m.of_same (execOp_put oi D a oj.dst u G) (wanted_put oi a oj.dst u G)
 have keepD:∀(a:Act) (ds:List Deferred),YieldsI P ops I oi v a->YieldsI P ops I oi v { a with defers:=ds }:=λa ds m=>m
 unfold Go.wpOp at *
 simp only[O]at *
 rw[wanted_put oj a oi.dst v F]at h;split
 .rename_i C;simp only[C,jB]at h;rcases h with h|⟨h,M⟩
  .left
   unfold Oper.wp at *
   rw[execOp_put oj q a oi.dst v F]at h;generalize(execOp a.eval oj).run P w=r at *
   cases r with
   | ok n w' =>
    cases n<;>simp only[Oper.upon]at h ⊢
    case value u=>exact⟨keep a m u,by rw[←Act.put_comm a v u p];exact h⟩
    case skip=>exact⟨keep a m _,by rw[←Act.put_comm a v undef p];exact h⟩
    case defer dd =>
     refine⟨keep _ (keepD a _ m) _,?_⟩;rw[←Act.put_comm _ v undef p];have:=h;rw[Act.put_defers]at this;exact this
    case enter f args =>
     exact Calls.mono h (λe y s=>by
      cases e with
      | returned u=>exact⟨keep a m u,by rw[←Act.put_comm a v u p];exact s⟩
      | panicked chain=>exact s
      | outgrown=>exact s)
    case row row args =>
     exact Rows.mono h (λu y s=>⟨keep a m u,by rw[←Act.put_comm a v u p];exact s⟩)
   | halt x w'=>cases x<;>simp only[Oper.upon]at h ⊢<;>exact h
  .right
   refine⟨?_,M⟩;unfold Oper.asks at *
   rw[execOp_put oj q a oi.dst v F]at h;exact h
 .rename_i C;simp only[C]at h;exact⟨keep a m _,by rw[←Act.put_comm a v undef p];exact h⟩
theorem d7_{I:World->Prop}(hI:∀w w',I w->Ext w w'->I w'){tl:List Nat}{i fu:Nat}(fre:Bool)(ZY:tl.contains i=false)(ZX:fre=false->∀j∈tl,ey_ md ops fu j i=true){oi:Oper}{v:Value}(hi:ops[i]? = some oi)(D:∀(j:Nat) (o:Oper) cs b,ops[j]? = some o->o.op ≠ .select cs b) :
  ∀(fuel:Nat) (st:Bool) (f:Array Bool) (a:Act) (w:World),(st=true->I w)->(fre=false->st=true)->Closed md ops f ->
   (∀j oj,ops[j]? = some oj->j≠i->f.getD j true=false->(∀e∈oj.after,Region.binds md e=true->e.on≠i)->oi.apart ops oj=true) ->
   i∈Region.ready md ops f->YieldsI P ops (if fre then λ_=>True else I) oi v a ->
   fe_ P md ops tl I Q fuel st (f.setIfInBounds i true) (a.put oi.dst v) w->fe_ P md ops tl I Q (fuel+1) st f a w:=by
 have stands:∀{st:Bool} {w w':World},(st=true->I w)->(fre=false->st=true)->Ext w w'->(if fre then λ_=>True else I) w':=fun{st w w'} C h2 hx=>by
  cases fre with
  | true=>trivial
  | false=>exact hI _ _ (C (h2 rfl)) hx
 intro fuel
 induction fuel with
 | zero =>
  intro st f a w hW y M _ hr hy H;refine⟨λh=>(by rw[h]at hr;cases hr),λj hj X d => ?_⟩;by_cases m:j=i
  .subst m;rw[ZY];simp only[Bool.not_false,Bool.and_true];exact hy.wpOp hi (stands hW y ⟨X,d,rfl⟩) λw' q=>⟨λJ=>hI _ _ (hI _ _ (hW J) ⟨X,d,rfl⟩) q,by
    obtain⟨Y,e,rfl⟩:=q;rw[World.ext_ext];exact kl_ _ _ _ _ _ _ _ H⟩
  .have:=ready_mono hj m;rw[H.1]at this;cases this
 | succ fuel ih =>
  intro st f a w hW y M s hr hy H;refine⟨λh=>(by rw[h]at hr;cases hr),λj hj X d => ?_⟩;by_cases m:j=i
  .subst m;rw[ZY];simp only[Bool.not_false,Bool.and_true];exact hy.wpOp hi (stands hW y ⟨X,d,rfl⟩) λw' q=>⟨λJ=>hI _ _ (hI _ _ (hW J) ⟨X,d,rfl⟩) q,by
    obtain⟨Y,e,rfl⟩:=q;rw[World.ext_ext];exact kl_ _ _ _ _ _ _ _ H⟩
  .have C:=H.2 j (ready_mono hj m) X d;obtain⟨F,oj,u,G⟩:=mem_ready.1 hj;have Z:∀e∈oj.after,Region.binds md e=true->e.on≠i:=λe he hb ZT=>by
    have C:=G e he hb;have U:=(mem_ready.1 hr).1;rw[ZT]at C;rcases qN i f.size with O|O
    .simp[O]at U C;rw[U]at C;cases C
    .simp[zQ O]at C
   have h2:=wpOp_putI u (s j oj u m F Z) (λcs b=>D i oi cs b hi) (λcs b=>D j oj cs b u) hy C;have x:∀k ok,ops[k]? = some ok->k≠i->(f.setIfInBounds j true).getD k true=false ->
     (∀e∈ok.after,Region.binds md e=true->e.on≠i)->oi.apart ops ok=true:=λk ok hk ZV V ZW=>by
    refine s k ok hk ZV ?_ ZW;by_cases ZZ:j=k
    .subst ZZ;exact F
    .rw[getD_set_ne true ZZ]at V;exact V
   have ZU:fre=false->tl.contains j=false:=λp=>by
    cases hc:tl.contains j with
    | false=>rfl
    | true =>
     have hw:=ZX p j (by simpa using hc);have:=rD_ M fu j i oj u G hw;have U:=(mem_ready.1 hr).1;rcases qN i f.size with O|O
     .simp[O]at U this;rw[U]at this;cases this
     .simp[zQ O]at U
   refine wpOp_mono (λa' w' h3=>⟨h3.2.1,ih (st && !(tl.contains j)) (f.setIfInBounds j true) a' w' h3.2.1 (λp=>by rw[y p,ZU p];rfl) (eD_ M hj) x (ready_mono hr (Ne.symm m)) h3.1 ?_⟩) h2;rw[Array.setIfInBounds_comm _ _ m];exact h3.2.2
def ff_(fr:List Nat):List (Nat×Bool)->Bool | []=>false|(i,b)::r=>(!b && !(fr.contains i))||ff_ fr r
def gj_(md:Region.Mode)(ops:Array Oper)(tl fr:List Nat):List (Nat×Bool)->Array Bool->Bool | [],f=>(Region.ready md ops f).isEmpty|(i,true)::rest,f=>Region.ready md ops f==[i]&&(!(tl.contains i) || !(ff_ fr rest))&&gj_ md ops tl fr rest (f.setIfInBounds i true)|(i,false)::rest,f=>(Region.ready md ops f).contains i&&Region.free md ops f i && !(tl.contains i)&&gj_ md ops tl fr rest (f.setIfInBounds i true)
def mixBI(md:Region.Mode)(ops:Array Oper)(tl fr:List Nat)(ord:List (Nat×Bool)):Bool :=
 Region.noSelect ops&&gj_ md ops tl fr ord (Array.replicate ops.size false)&&decide (ord.length=ops.size) &&
  ord.all λp=>p.2||(fr.contains p.1||tl.all λj=>ey_ md ops ops.size j p.1)
theorem fg_{I:World->Prop}(Z:∀w w',I w->Ext w w'->I w'){tl fr:List Nat}{fu:Nat}(U:Region.noSelect ops=true):∀(ord:List (Nat×Bool)) (st:Bool) (f:Array Bool) (a:Act) (w:World),(st=true->I w)->(ff_ fr ord=true->st=true)->Closed md ops f->(∀i,(i,false)∈ord->fr.contains i=false->∀j∈tl,ey_ md ops fu j i=true) ->
  gj_ md ops tl fr ord f=true->b8_ P ops tl fr I Q ord a w->fe_ P md ops tl I Q ord.length st f a w
 | [],_,_,_,_,_,_,_,_,O,h=>⟨by simpa[gj_]using O,h⟩
 | (i,true)::rest,st,f,a,w,Y,y,q,hT,O,h=>by
  simp only[gj_,qAn,qF]at O;obtain⟨⟨hr,ZZ⟩,u⟩:=O;refine⟨λh0=>(by rw[h0]at hr;cases hr),λj hj X d => ?_⟩;rw[hr]at hj;obtain rfl:j=i:=by simpa using hj
  have hm:j∈Region.ready md ops f:=by rw[hr];simp
  obtain⟨_,o,F,_⟩:=mem_ready.1 hm;simp only[b8_,F]at h;have x:=h X d;have s:∀k,(k,false)∈rest->fr.contains k=false->∀j∈tl,ey_ md ops fu j k=true:=λk M=>hT k (qC _ M)
  have p:=eD_ q hm;have m:ff_ fr rest=true->(st && !(tl.contains j))=true:=λV=>by
   rw[V]at ZZ;have h1:tl.contains j=false:=by simpa using ZZ
   rw[y (by simp[ff_,V]),h1];rfl
  have D:∀w',(tl.contains j=false->I w->I w')->((st && !(tl.contains j))=true->I w'):=λw' h1 h2=>by
   simp only[qAn,qH]at h2;exact h1 h2.2 (Y h2.1)
  unfold wpOp;simp only[F];unfold wpList at x;split at x
  .rename_i J;rw[qV J];refine x.imp (λx => ?_) (λx=>⟨x.1,x.2⟩);exact Oper.wp_out (λa' w' M=>⟨D w' M.1,fg_ Z U rest _ _ a' w' (D w' M.1) m p s u M.2⟩) (λch a w h=>h) (λh=>h) x
  .rename_i J;rw[qX J];exact⟨D _ x.1,fg_ Z U rest _ _ _ _ (D _ x.1) m p s u x.2⟩
 | (i,false)::rest,st,f,a,w,Y,y,q,hT,O,h=>by
  simp only[gj_,qAn,qH]at O;obtain⟨⟨⟨hr,hf⟩,ZY⟩,u⟩:=O;have C:i∈Region.ready md ops f:=by simpa using hr
  obtain⟨_,o,F,_⟩:=mem_ready.1 C;simp only[b8_,F]at h;have s:∀k,(k,false)∈rest->fr.contains k=false->∀j∈tl,ey_ md ops fu j k=true:=λk M=>hT k (qC _ M)
  have p:=eD_ q C;have m:ff_ fr rest=true->st=true:=λV=>y (by simp[ff_,V])
  have G:fr.contains i=false->st=true:=λV=>y (by simp only[ff_,V];rfl)
  split at h
  .rename_i J;obtain⟨v,hv,hn⟩:=h;exact d7_ Z (fr.contains i) ZY (hT i (by simp)) F (Region.noSelect_spec U) rest.length st f a w Y G q (Region.free_spec F hf) C (.inl ⟨J,hv⟩)
    (fg_ Z U rest _ _ _ w Y m p s u hn)
  .rename_i J;exact d7_ Z (fr.contains i) ZY (hT i (by simp)) F (Region.noSelect_spec U) rest.length st f a w Y G q (Region.free_spec F hf) C (.inr ⟨by simpa using J,rfl⟩)
    (fg_ Z U rest _ _ _ w Y m p s u h)
theorem pO_{I:World->Prop}(D:∀w w',I w->Ext w w'->I w'){id:Nat}{l:List Oper}{a:Act}{w:World}(tl fr:List Nat)(ord:List (Nat×Bool))(hm:P.follows .mixedOrders=true)(q:mixBI .any l.toArray tl fr ord=true)
  (u:I w) (h:b8_ P l.toArray tl fr I Q ord a w):(Code.region id l.toArray true).wp P Q a w:=by
 simp only[mixBI,qAn,qDe]at q;obtain⟨⟨⟨x,C⟩,f⟩,m⟩:=q;refine wp_region_any hm (nk_ (I:=I) (tl:=tl) _ true _ _ _ ?_);have:=fg_ D (md := .any) (tl:=tl) (fr:=fr) (fu:=l.toArray.size) x ord true (Array.replicate l.toArray.size false) a w (λ_=>u) (λ_=>rfl) (nT_ _) (λi hi p j y=>by
  have:=qh.1 m _ hi;simp only[jZ,p]at this;exact qh.1 this j y) C h
 have s:=kl_ _ _ _ _ _ #[] (w.drawn+1) this;rw[←World.drew_as_ext,f]at s;exact s
theorem wpMixI_nil{tl fr:List Nat}{I:World->Prop}{a:Act}{w:World}(h:∀X d,Q .normal a (w.ext X d)):b8_ P ops tl fr I Q [] a w:=h
theorem fL_{tl fr:List Nat}{l:List Oper}{I:World->Prop}{i:Nat}{rest:List (Nat×Bool)}{a:Act}{w:World}(o:Oper)(j:l[i]? = some o)
  (h:∀K:Act->Prop,(∀a,b8_ P l.toArray tl fr I Q rest a w->K a)->if Region.wanted o (yielded l.toArray a.tmps)then o.quietI P a (if fr.contains i then λ_=>True else I) K else K (a.put o.dst undef)) :
  b8_ P l.toArray tl fr I Q ((i,false)::rest) a w:=by
 have f:l.toArray[i]? = some o:=by simpa using j
 simp only[b8_,f];exact h _ (λ_ h=>h)
theorem tu_{tl fr:List Nat}{l:List Oper}{I:World->Prop}{i:Nat}{rest:List (Nat×Bool)}{a:Act}{w:World}(o:Oper)(m:l[i]? = some o)
  (h:∀K:Act->World->Prop,(∀j w',(tl.contains i=false->I w->I w')->b8_ P l.toArray tl fr I Q rest j w'->K j w')->∀X d,wpList P l.toArray (Exit.then K (ef_ Q)) [o] a (w.ext X d)) :
  b8_ P l.toArray tl fr I Q ((i,true)::rest) a w:=by
 have f:l.toArray[i]? = some o:=by simpa using m
 simp only[b8_,f];exact h _ (λ_ _ q p=>⟨q,p⟩)
def dH_(P:Program)(ops:Array Oper)(tl fr:List Nat)(I:World->Prop)(Q:Exit->Act->World->Prop)(fl:Nat)(post:List (Nat×Bool)):List (Nat×Bool)->Act->World->Prop
 | [],a,w=>b8_ P ops tl fr I Q ((fl,true)::post) a w
 | (i,true)::pre,a,w=>(match ops[i]? with
  | none=>False
  | some o=>∀X d,wpList P ops (Exit.then (λf w'=>(tl.contains i=false->I w->I w')/\dH_ P ops tl fr I Q fl post pre f w') (ef_ Q)) [o] a (w.ext X d)) /\
  (match ops[fl]? with
  | none=>False
  | some o=>∀X d,wpList P ops (Exit.then (λf w'=>(tl.contains fl=false->I w->I w')/\b8_ P ops tl fr I Q ((i,true)::pre++post) f w') (ef_ Q)) [o] a (w.ext X d))
 | (i,false)::pre,a,w=>match ops[i]? with
  | none=>False
  | some o=>if Region.wanted o (yielded ops a.tmps)then o.quietI P a (if fr.contains i then λ_=>True else I) (λf=>dH_ P ops tl fr I Q fl post pre f w)else dH_ P ops tl fr I Q fl post pre (a.put o.dst undef) w
def ls_(md:Region.Mode)(ops:Array Oper)(tl fr:List Nat)(fl:Nat)(post:List (Nat×Bool)):List (Nat×Bool)->Array Bool->Bool
 | [],f=>gj_ md ops tl fr ((fl,true)::post) f
 | (i,true)::pre,f=>(Region.ready md ops f).contains i&&(Region.ready md ops f).contains fl&&(Region.ready md ops f).all (λj=>j==i||j==fl)&&(!(tl.contains i) || !(ff_ fr (pre++post))) &&
  ls_ md ops tl fr fl post pre (f.setIfInBounds i true)&&gj_ md ops tl fr ((i,true)::pre++post) (f.setIfInBounds fl true)
 | (i,false)::pre,f=>(Region.ready md ops f).contains i&&Region.free md ops f i && !(tl.contains i)&&ls_ md ops tl fr fl post pre (f.setIfInBounds i true)
def mixBF(md:Region.Mode)(ops:Array Oper)(tl fr:List Nat)(fl:Nat)(pre post:List (Nat×Bool)):Bool :=
 Region.noSelect ops&&ls_ md ops tl fr fl post pre (Array.replicate ops.size false)&&decide (pre.length+(post.length+1)=ops.size) && !(tl.contains fl) &&
  (pre++post).all λp=>p.2||(fr.contains p.1||tl.all λj=>ey_ md ops ops.size j p.1)
theorem iP_{I:World->Prop}(Y:∀w w',I w->Ext w w'->I w'){tl fr:List Nat}{fu fl:Nat}{post:List (Nat×Bool)}(M:Region.noSelect ops=true)(F:tl.contains fl=false):∀(pre:List (Nat×Bool)) (st:Bool) (f:Array Bool) (a:Act) (w:World),(st=true->I w)->(ff_ fr (pre++post)=true->st=true)->Closed md ops f ->
  (∀i,(i,false)∈pre++post->fr.contains i=false->∀j∈tl,ey_ md ops fu j i=true) ->
  ls_ md ops tl fr fl post pre f=true->dH_ P ops tl fr I Q fl post pre a w->fe_ P md ops tl I Q (pre.length+(post.length+1)) st f a w
 | [],st,f,a,w,U,x,u,V,hB,h=>by
  rw[zp,qg];exact fg_ Y M ((fl,true)::post) st f a w U (λJ=>x (by simpa[ff_]using J)) u (λi hi=>V i (by simpa using hi)) hB h
 | (i,true)::pre,st,f,a,w,U,x,u,V,hB,h=>by
  simp only[ls_,qAn]at hB;obtain⟨⟨⟨⟨⟨ZX,ZO⟩,ZT⟩,ZY⟩,ZR⟩,ZS⟩:=hB;rw[qLc,show pre.length+1+(post.length+1)=(pre.length+(post.length+1))+1 by omega];refine⟨λh0=>(by rw[h0]at ZX;simp at ZX),λj hj X d => ?_⟩;obtain⟨h1,h2⟩:=h;by_cases ZV:j=i
  .subst ZV;obtain⟨_,o,C,_⟩:=mem_ready.1 hj;simp only[C]at h1;have q:=h1 X d;have G:∀k,(k,false)∈pre++post->fr.contains k=false->∀j∈tl,ey_ md ops fu j k=true:=λk D=>V k (by simp only[qa];exact qC _ D)
   have p:=eD_ u hj;have m:ff_ fr (pre++post)=true->(st && !(tl.contains j))=true:=λJ=>by
    rw[J]at ZY;have Z:tl.contains j=false:=by simpa using ZY
    rw[x (by simp[ff_,J]),Z];rfl
   have s:∀w',(tl.contains j=false->I w->I w')->((st && !(tl.contains j))=true->I w'):=λw' Z h4=>by
    simp only[qAn,qH]at h4;exact Z h4.2 (U h4.1)
   unfold wpOp;simp only[C];unfold wpList at q;split at q
   .rename_i y;rw[qV y];refine q.imp (λq => ?_) (λq=>⟨q.1,q.2⟩);exact Oper.wp_out (λa' w' D=>⟨s w' D.1,iP_ Y M F pre _ _ a' w' (s w' D.1) m p G ZR D.2⟩) (λch a w h=>h) (λh=>h) q
   .rename_i y;rw[qX y];exact⟨s _ q.1,iP_ Y M F pre _ _ _ _ (s _ q.1) m p G ZR q.2⟩
  .have ZP:j=fl:=by
    have:=qh.1 ZT j hj;simp only[qT,qF]at this;rcases this with Z|Z
    .exact absurd Z ZV
    .exact Z
   subst ZP;obtain⟨_,o,C,_⟩:=mem_ready.1 hj;simp only[C]at h2;have q:=h2 X d;have p:=eD_ u hj;have m:ff_ fr ((i,true)::pre++post)=true->(st && !(tl.contains j))=true:=λJ=>by
    rw[F,x J];rfl
   have s:∀w',(tl.contains j=false->I w->I w')->((st && !(tl.contains j))=true->I w'):=λw' Z h4=>by
    simp only[qAn,qH]at h4;exact Z h4.2 (U h4.1)
   have ZW:pre.length+(post.length+1)=((i,true)::pre++post).length:=by simp;omega
   rw[ZW];unfold wpOp;simp only[C];unfold wpList at q;split at q
   .rename_i y;rw[qV y];refine q.imp (λq => ?_) (λq=>⟨q.1,q.2⟩);exact Oper.wp_out (λa' w' D=>⟨s w' D.1,fg_ Y M _ _ _ a' w' (s w' D.1) m p V ZS D.2⟩) (λch a w h=>h) (λh=>h) q
   .rename_i y;rw[qX y];exact⟨s _ q.1,fg_ Y M _ _ _ _ _ (s _ q.1) m p V ZS q.2⟩
 | (i,false)::pre,st,f,a,w,U,x,u,V,hB,h=>by
  simp only[ls_,qAn,qH]at hB;obtain⟨⟨⟨hr,hf⟩,ZU⟩,ZQ⟩:=hB;rw[qLc,show pre.length+1+(post.length+1)=(pre.length+(post.length+1))+1 by omega];have O:i∈Region.ready md ops f:=by simpa using hr
  obtain⟨_,o,C,_⟩:=mem_ready.1 O;simp only[dH_,C]at h;have G:∀k,(k,false)∈pre++post->fr.contains k=false->∀j∈tl,ey_ md ops fu j k=true:=λk D=>V k (by simp only[qa];exact qC _ D)
  have p:=eD_ u O;have m:ff_ fr (pre++post)=true->st=true:=λJ=>x (by simp[ff_,J])
  have ZZ:fr.contains i=false->st=true:=λJ=>x (by simp only[qa,ff_,J];rfl)
  split at h
  .rename_i y;obtain⟨v,hv,hn⟩:=h;exact d7_ Y (fr.contains i) ZU (V i (by simp)) C (Region.noSelect_spec M) _ st f a w U ZZ u (Region.free_spec C hf) O (.inl ⟨y,hv⟩)
    (iP_ Y M F pre _ _ _ w U m p G ZQ hn)
  .rename_i y;exact d7_ Y (fr.contains i) ZU (V i (by simp)) C (Region.noSelect_spec M) _ st f a w U ZZ u (Region.free_spec C hf) O (.inr ⟨by simpa using y,rfl⟩)
    (iP_ Y M F pre _ _ _ w U m p G ZQ h)
theorem wu_{I:World->Prop}(F:∀w w',I w->Ext w w'->I w'){id fl:Nat}{l:List Oper}{a:Act}{w:World}(tl fr:List Nat)(pre post:List (Nat×Bool))(hm:P.follows .mixedOrders=true)(s:mixBF .any l.toArray tl fr fl pre post=true)
  (x:I w) (h:dH_ P l.toArray tl fr I Q fl post pre a w):(Code.region id l.toArray true).wp P Q a w:=by
 simp only[mixBF,qAn,qDe,qH]at s;obtain⟨⟨⟨⟨y,D⟩,f⟩,p⟩,m⟩:=s;refine wp_region_any hm (nk_ (I:=I) (tl:=tl) _ true _ _ _ ?_);have:=iP_ F (md := .any) (tl:=tl) (fr:=fr) (fu:=l.toArray.size) y p pre true (Array.replicate l.toArray.size false) a w (λ_=>x) (λ_=>rfl) (nT_ _) (λi hi q j C=>by
  have:=qh.1 m _ hi;simp only[jZ,q]at this;exact qh.1 this j C) D h
 have u:=kl_ _ _ _ _ _ #[] (w.drawn+1) this;rw[←World.drew_as_ext,f]at u;exact u
theorem hs_{tl fr:List Nat}{l:List Oper}{I:World->Prop}{i fl:Nat}{pre post:List (Nat×Bool)}{a:Act}{w:World}(o:Oper)(j:l[i]? = some o)
  (h:∀K:Act->Prop,(∀a,dH_ P l.toArray tl fr I Q fl post pre a w->K a)->if Region.wanted o (yielded l.toArray a.tmps)then o.quietI P a (if fr.contains i then λ_=>True else I) K else K (a.put o.dst undef)) :
  dH_ P l.toArray tl fr I Q fl post ((i,false)::pre) a w:=by
 have f:l.toArray[i]? = some o:=by simpa using j
 simp only[dH_,f];exact h _ (λ_ h=>h)
theorem wpMixF_loud{tl fr:List Nat}{l:List Oper}{I:World->Prop}{i fl:Nat}{pre post:List (Nat×Bool)}{a:Act}{w:World}(o fo:Oper)(u:l[i]? = some o)(p:l[fl]? = some fo)
  (h:∀K:Act->World->Prop,(∀j w',(tl.contains i=false->I w->I w')->dH_ P l.toArray tl fr I Q fl post pre j w'->K j w')->∀X d,wpList P l.toArray (Exit.then K (ef_ Q)) [o] a (w.ext X d))
  (x:∀K:Act->World->Prop,(∀j w',(tl.contains fl=false->I w->I w')->b8_ P l.toArray tl fr I Q ((i,true)::pre++post) j w'->K j w')->∀X d,wpList P l.toArray (Exit.then K (ef_ Q)) [fo] a (w.ext X d)) :
  dH_ P l.toArray tl fr I Q fl post ((i,true)::pre) a w:=by
 have m:l.toArray[i]? = some o:=by simpa using u
 have f:l.toArray[fl]? = some fo:=by simpa using p
 simp only[dH_,m,f];exact⟨h _ (λ_ _ s q=>⟨s,q⟩),x _ (λ_ _ s q=>⟨s,q⟩)⟩
inductive OT where
 | nil
 | free (i:Nat) (t:OT)
 | alt (i:Nat) (t r:OT)
 | spl (i:Nat) (t f:OT)
def OT.ids:OT->List Nat | .alt i _ r=>i::r.ids|_=>[]
def OT.dep:OT->Nat | .nil=>0 | .free _ t=>t.dep+1 | .alt _ t r=>max (t.dep+1) r.dep | .spl _ t f=>max t.dep f.dep
def OT.tlO:OT->List Nat | .nil=>[] | .free _ t=>t.tlO | .alt i t r=>i::(t.tlO++r.tlO) | .spl _ t f=>t.tlO++f.tlO
def OT.frO:OT->List Nat | .nil=>[] | .free i t=>i::t.frO | .alt _ t r=>t.frO++r.frO | .spl _ t f=>t.frO++f.frO
def chkO(md:Region.Mode)(ops:Array Oper)(tl fr:List Nat):OT->Bool->Array Bool->Bool | .nil,false,h=>(Region.ready md ops h).isEmpty | .nil,true,_=>true | .free i t,false,h=>(Region.ready md ops h).contains i&&Region.free md ops h i && !(tl.contains i)&&fr.contains i&&chkO md ops tl fr t false (h.setIfInBounds i true) | .free _ _,true,_=>false | .spl _ t f,c,h => !c&&(chkO md ops tl fr t false h&&chkO md ops tl fr f false h) | .alt i t r,c,h=>(c||(!((Region.ready md ops h).isEmpty)&&(Region.ready md ops h).all λj=>(i::r.ids).contains j))&&tl.contains i&&chkO md ops tl fr t false (h.setIfInBounds i true)&&chkO md ops tl fr r true h
def wpO(P:Program)(ops:Array Oper)(Q:Exit->Act->World->Prop):OT->Bool->Act->World->Prop
 | .nil,false,a,w=>∀X d,Q .normal a (w.ext X d)
 | .nil,true,_,_=>True
 | .free i t,_,a,w=>match ops[i]? with
  | none=>False
  | some o=>if Region.wanted o (yielded ops a.tmps)then o.quietI P a (λ_=>True) (λh=>wpO P ops Q t false h w)else wpO P ops Q t false (a.put o.dst undef) w
 | .alt i t r,_,a,w=>(match ops[i]? with
  | none=>False
  | some o=>∀X d,wpList P ops (Exit.then (λh w'=>wpO P ops Q t false h w') (ef_ Q)) [o] a (w.ext X d))/\wpO P ops Q r true a w
 | .spl i t f,_,a,w=>(yielded ops a.tmps i=some true/\wpO P ops Q t false a w)\/(yielded ops a.tmps i=some false/\wpO P ops Q f false a w)
theorem wpO_pick{tl fr:List Nat}{i:Nat}{f:Array Bool}{a:Act}{w:World}:∀{t:OT} {c:Bool},i∈t.ids->chkO md ops tl fr t c f=true->wpO P ops Q t c a w->∃m,m.dep+1<=t.dep/\tl.contains i=true/\chkO md ops tl fr m false (f.setIfInBounds i true)=true /\
  match ops[i]? with
  | none=>False
  | some o=>∀X d,wpList P ops (Exit.then (λx w'=>wpO P ops Q m false x w') (ef_ Q)) [o] a (w.ext X d)
 | .nil,_,h,_,_=>nomatch h
 | .free _ _,_,h,_,_=>nomatch h
 | .spl _ _ _,_,h,_,_=>nomatch h
 | .alt j t r,c,h,p,q=>by
  simp only[chkO,qAn]at p;rcases qW.1 h with rfl|h
  .exact⟨t,ja _ _,p.1.1.2,p.1.2,q.1⟩
  .obtain⟨m,u,s⟩:=wpO_pick h p.2 q.2;exact⟨m,qt u (Nat.le_max_right _ _),s⟩
theorem splO{I:World->Prop}{tl fr:List Nat}{fuel i:Nat}{t f:OT}
  (p:∀(st:Bool) (j:Array Bool) (a:Act) (w:World),t.dep<=fuel->(st=true->I w)->Closed md ops j->chkO md ops tl fr t false j=true->wpO P ops Q t false a w->fe_ P md ops tl I Q fuel st j a w)
  (q:∀(st:Bool) (j:Array Bool) (a:Act) (w:World),f.dep<=fuel->(st=true->I w)->Closed md ops j->chkO md ops tl fr f false j=true->wpO P ops Q f false a w->fe_ P md ops tl I Q fuel st j a w)
  (st:Bool) (j:Array Bool) (a:Act) (w:World) (x:(OT.spl i t f).dep<=fuel) (u:st=true->I w) (m:Closed md ops j)
  (s:chkO md ops tl fr (.spl i t f) false j=true) (h:wpO P ops Q (.spl i t f) false a w):fe_ P md ops tl I Q fuel st j a w:=by
 simp only[chkO,qAn]at s;simp only[OT.dep]at x;have:=ja t.dep f.dep;have:=Nat.le_max_right t.dep f.dep;rcases h with h|h
 .exact p st j a w (by omega) u m s.2.1 h.2
 .exact q st j a w (by omega) u m s.2.2 h.2
theorem wpAnyI_O{I:World->Prop}(hI:∀w w',I w->Ext w w'->I w'){tl fr:List Nat}{fu:Nat}(hs:Region.noSelect ops=true):∀(fuel:Nat) (t:OT) (st:Bool) (m:Array Bool) (a:Act) (w:World),t.dep<=fuel->(st=true->I w)->Closed md ops m ->
  chkO md ops tl fr t false m=true->wpO P ops Q t false a w->fe_ P md ops tl I Q fuel st m a w:=by
 intro fuel
 induction fuel with
 | zero =>
  intro t
  induction t with
  | nil =>
   intro st m a w D M p s h;exact⟨by simpa[chkO]using s,h⟩
  | free i t _=>intro st m a w D;simp[OT.dep]at D
  | spl i t f F G=>exact splO F G
  | alt i t r _ _ =>
   intro st m a w D;simp only[OT.dep]at D;have:=ja (t.dep+1) r.dep;omega
 | succ fuel ih =>
  intro t
  induction t with
  | spl i t f F G=>exact splO F G
  | nil =>
   intro st m a w D M p s h;have h0:Region.ready md ops m=[]:=by simpa[chkO]using s
   exact⟨λ_=>h,λi hi=>(by rw[h0]at hi;cases hi)⟩
  | free i t _ =>
   intro st m a w D M p s h;simp only[chkO,qAn,qH]at s;obtain⟨⟨⟨⟨hr,hf⟩,Y⟩,ZW⟩,x⟩:=s;have u:i∈Region.ready md ops m:=by simpa using hr
   obtain⟨_,o,C,_⟩:=mem_ready.1 u;simp only[OT.dep]at D;simp only[wpO,C]at h;have q:=eD_ p u;split at h
   .rename_i J;obtain⟨v,hv,hn⟩:=h;exact d7_ (fu:=fu) hI true Y (λe=>nomatch e) C (Region.noSelect_spec hs) fuel st m a w M (λe=>nomatch e) p (Region.free_spec C hf) u (.inl ⟨J,hv⟩)
     (ih t st _ _ w (by omega) M q x hn)
   .rename_i J;exact d7_ (fu:=fu) hI true Y (λe=>nomatch e) C (Region.noSelect_spec hs) fuel st m a w M (λe=>nomatch e) p (Region.free_spec C hf) u (.inr ⟨by simpa using J,rfl⟩)
     (ih t st _ _ w (by omega) M q x h)
  | alt i t r _ _ =>
   intro st m a w D M p s h;have ZX:=s;simp only[chkO,jZ,qAn,qH]at s;obtain⟨⟨⟨⟨U,Z⟩,_⟩,_⟩,_⟩:=s;refine⟨λh0=>(by rw[h0]at U;cases U),λj hj X d => ?_⟩;have V:j∈(OT.alt i t r).ids:=by
    have:=qh.1 Z j hj;simpa[OT.ids]using this
   obtain⟨t',ZV,ZZ,x,hp⟩:=wpO_pick V ZX h;obtain⟨_,o,C,_⟩:=mem_ready.1 hj;simp only[C]at hp;have y:=hp X d;have q:=eD_ p hj;have ZY:(st && !(tl.contains j))=false:=by rw[ZZ];simp
   rw[ZY];have go:∀O w',wpO P ops Q t' false O w'->(false=true->I w')/\fe_ P md ops tl I Q fuel false (m.setIfInBounds j true) O w':=λO w' hk=>⟨(λe=>nomatch e),ih t' false _ O w' (by omega) (λe=>nomatch e) q x hk⟩
   unfold wpOp;simp only[C];unfold wpList at y;split at y
   .rename_i J;rw[qV J];refine y.imp (λy => ?_) (λy=>⟨y.1,y.2⟩);exact Oper.wp_out (λO w' hk=>go O w' hk) (λch a w h=>h) (λh=>h) y
   .rename_i J;rw[qX J];exact go _ _ y
def gD_(P:Program)(ops:Array Oper)(fr:List Nat)(I:World->Prop)(Q:Exit->Act->World->Prop)(t:OT):List (Nat×Bool)->Act->World->Prop
 | [],a,w=>wpO P ops Q t false a w
 | (_,true)::_,_,_=>False
 | (i,false)::rest,a,w=>match ops[i]? with
  | none=>False
  | some o=>if Region.wanted o (yielded ops a.tmps)then o.quietI P a (if fr.contains i then λ_=>True else I) (λf=>gD_ P ops fr I Q t rest f w)else gD_ P ops fr I Q t rest (a.put o.dst undef) w
def qB_(md:Region.Mode)(ops:Array Oper)(tl fr:List Nat)(t:OT):List (Nat×Bool)->Array Bool->Bool | [],f=>chkO md ops tl fr t false f|(_,true)::_,_=>false|(i,false)::rest,f=>(Region.ready md ops f).contains i&&Region.free md ops f i && !(tl.contains i)&&qB_ md ops tl fr t rest (f.setIfInBounds i true)
def mixBO(md:Region.Mode)(ops:Array Oper)(tl fr:List Nat)(t:OT)(pre:List (Nat×Bool)):Bool:=Region.noSelect ops&&qB_ md ops tl fr t pre (Array.replicate ops.size false)&&decide (pre.length+t.dep<=ops.size)&&pre.all λp=>p.2||(fr.contains p.1||tl.all λj=>ey_ md ops ops.size j p.1)
theorem po_{I:World->Prop}(G:∀w w',I w->Ext w w'->I w'){tl fr:List Nat}{fu m:Nat}{t:OT}(hm:t.dep<=m)(y:Region.noSelect ops=true):∀(pre:List (Nat×Bool)) (f:Array Bool) (a:Act) (w:World),I w->Closed md ops f ->
  (∀i,(i,false)∈pre->fr.contains i=false->∀j∈tl,ey_ md ops fu j i=true)->qB_ md ops tl fr t pre f=true->gD_ P ops fr I Q t pre a w->fe_ P md ops tl I Q (pre.length+m) true f a w
 | [],f,a,w,u,p,_,x,h=>by
  rw[zp,qg];exact wpAnyI_O (fu:=fu) G y m t true f a w hm (λ_=>u) p x h
 | (i,true)::rest,f,a,w,_,_,_,x,_=>nomatch x
 | (i,false)::pre,f,a,w,u,p,O,x,h=>by
  simp only[qB_,qAn,qH]at x;obtain⟨⟨⟨hr,U⟩,D⟩,J⟩:=x;rw[qLc,show pre.length+1+m=(pre.length+m)+1 by omega];have q:i∈Region.ready md ops f:=by simpa using hr
  obtain⟨_,o,C,_⟩:=mem_ready.1 q;simp only[gD_,C]at h;have F:∀k,(k,false)∈pre->fr.contains k=false->∀j∈tl,ey_ md ops fu j k=true:=λk Z=>O k (qC _ Z)
  have s:=eD_ p q;split at h
  .rename_i M;obtain⟨v,V,Y⟩:=h;exact d7_ G (fr.contains i) D (O i (by simp)) C (Region.noSelect_spec y) _ true f a w (λ_=>u) (λ_=>rfl) p (Region.free_spec C U) q (.inl ⟨M,V⟩)
    (po_ G hm y pre _ _ w u s F J Y)
  .rename_i M;exact d7_ G (fr.contains i) D (O i (by simp)) C (Region.noSelect_spec y) _ true f a w (λ_=>u) (λ_=>rfl) p (Region.free_spec C U) q (.inr ⟨by simpa using M,rfl⟩)
    (po_ G hm y pre _ _ w u s F J h)
theorem pP_{I:World->Prop}(F:∀w w',I w->Ext w w'->I w'){id:Nat}{t:OT}{l:List Oper}{a:Act}{w:World}(tl fr:List Nat)(pre:List (Nat×Bool))(hm:P.follows .mixedOrders=true)(s:mixBO .any l.toArray tl fr t pre=true)
  (x:I w) (h:gD_ P l.toArray fr I Q t pre a w):(Code.region id l.toArray true).wp P Q a w:=by
 simp only[mixBO,qAn,qDe]at s;obtain⟨⟨⟨y,D⟩,q⟩,f⟩:=s;refine wp_region_any hm (nk_ (I:=I) (tl:=tl) _ true _ _ _ ?_);have:=po_ F (md := .any) (tl:=tl) (fr:=fr) (fu:=l.toArray.size) (m:=l.toArray.size-pre.length) (by omega) y pre (Array.replicate l.toArray.size false) a w x (nT_ _) (λi hi p j C=>by
  have:=qh.1 f _ hi;simp only[jZ,p]at this;exact qh.1 this j C) D h
 have u:=kl_ _ _ _ _ _ #[] (w.drawn+1) this;rw[←World.drew_as_ext,show pre.length+(l.toArray.size-pre.length)=l.toArray.size by omega]at u;exact u
theorem n5_{fr:List Nat}{l:List Oper}{I:World->Prop}{t:OT}{i:Nat}{pre:List (Nat×Bool)}{a:Act}{w:World}(o:Oper)(j:l[i]? = some o)
  (h:∀K:Act->Prop,(∀a,gD_ P l.toArray fr I Q t pre a w->K a)->if Region.wanted o (yielded l.toArray a.tmps)then o.quietI P a (if fr.contains i then λ_=>True else I) K else K (a.put o.dst undef)) :
  gD_ P l.toArray fr I Q t ((i,false)::pre) a w:=by
 have f:l.toArray[i]? = some o:=by simpa using j
 simp only[gD_,f];exact h _ (λ_ h=>h)
end
end Go
namespace Go
namespace Rt
open Go.RowKit
structure Ba(E:TE) where
 L:Nat->Option (SV E)
 H:Nat->Option (Obj E)
 lo:Nat
structure St(E:TE) where (env:List (Nat×Option (SV E))) (vis:Option (List Nat)) (heap:Chs E) (hvis:Option (List Nat)) (nx:Nat)
def aC_(t:Nat):List Nat->Bool
 | []=>false
 | u::l=>match Nat.beq t u with
  | true=>true
  | false=>aC_ t l
def seen:Option (List Nat)->Nat->Bool|none,_=>true|some l,t=>aC_ t l
def aN_{α:Type}(t:Nat):List (Nat×α)->Option α
 | []=>none
 | (u,v)::l=>match Nat.beq t u with
  | true=>some v
  | false=>aN_ t l
variable{E:TE}
def St.L(b:Ba E)(s:St E)(t:Nat):Option (SV E):=match aN_ t s.env with
 | some v=>v
 | none=>match seen s.vis t with
  | true=>b.L t
  | false=>none
def St.H(b:Ba E)(s:St E):Nat->Option (Obj E):=upH (λi=>match seen s.hvis i with|true=>b.H i|false=>none) s.heap
def St.after(N:Nat)(s:St E)(o:Oper)(v:Option (SV E))(u:Chs E):Option (St E):=match o.dst with
 | none=>some { s with heap:=u++s.heap,nx:=nxU s.nx u }
 | some d=>match Nat.blt d N with
  | true=>some { s with env:=(d,v)::s.env,heap:=u++s.heap,nx:=nxU s.nx u }
  | false=>none
def St.base(b:Ba E)(s:St E):Ba E:=⟨s.L b,s.H b,b.lo⟩
def St.new(nx:Nat):St E:=⟨[],none,[],none,nx⟩
abbrev Gd:=Option (Nat×Bool×Nat)
def sY_(o:Oper):Gd->Bool
 | none=>match o.guard with
  | none=>true
  | some _=>false
 | some (j,w,_)=>match o.guard with
  | none=>false
  | some (f,w')=>Nat.beq j f&&(match w,w' with|true,true=>true|false,false=>true|_,_=>false)
def dstOK(o:Oper):Gd->Bool
 | none=>true
 | some (_,_,d)=>match o.dst with
  | none=>true
  | some f => !(Nat.beq d f)
def j2_ (d:Nat):List Oper->Option (List Oper×Oper×List Oper)
 | []=>none
 | o::r=>match o.op with
  | .pick (.tmp f) _ _=>match Nat.beq d f with
   | true=>some ([],o,r)
   | false=>match j2_ d r with
    | some (l,p,q)=>some (o::l,p,q)
    | none=>none
  | _=>match j2_ d r with
   | some (l,p,q)=>some (o::l,p,q)
   | none=>none
def groupOf (o:Oper) (idx:Nat):List Oper->Option (Nat×Bool×List Oper×Oper×List Oper)
 | []=>none
 | o2::r=>match o2.guard,o.dst with
  | some (j,w),some d=>match Nat.beq j idx with
   | true=>match j2_ d (o2::r)with
    | some (l,p,q)=>some (d,w,l,p,q)
    | none=>none
   | false=>none
  | _,_=>none
def e7_:List Oper->List Nat
 | []=>[]
 | o::l=>match o.dst with
  | some d=>d::e7_ l
  | none=>e7_ l
def keysIn(l:List Nat):List (Nat×Option (SV E))->Bool | []=>true|p::r=>aC_ p.1 l&&keysIn l r
def qC_(n:Nat):Chs E->Bool | []=>true|p::r=>Nat.ble n p.1&&qC_ n r
def totalB(P:Program)(o:Oper):Bool:=match o.op with
 | .binOp op t _ y _=>match op with
  | .add=>match P.underlying t with|some (.int _)=>true|_=>false
  | .quo | .rem | .shl | .shr=>Operand.isC y
  | _=>true
 | .move _ | .assign _ | .pick .. | .load .. | .fieldAddr .. | .field .. | .unOp .. | .convert .. | .extract .. | .nilCheck .. => true
 | .call { callee := .builtin .len,args:=_,argTypes:=_ }=>true
 | .call { callee := .builtin .max,args:=_,argTypes:=_ }=>true
 | .call { callee := .builtin .min,args:=_,argTypes:=_ }=>true
 | _=>false
def totalL(P:Program):List Oper->Bool | []=>true|o::l=>totalB P o&&totalL P l
def skipB(idx d:Nat)(w:Bool):List Oper->Nat->Bool
 | [],_=>true
 | o::l,i=>(match o.guard,o.dst with
  | some (j,w'),some f=>((Nat.beq j idx&&(match w,w' with|true,true=>true|false,false=>true|_,_=>false))||(Nat.blt idx j&&Nat.blt j i)) && !(Nat.beq d f)
  | _,_=>false)&&skipB idx d w l (i+1)
def notIn(g:Gd)(l:List Nat):Bool:=match g with|none=>true|some (_,_,d) => !(aC_ d l)
def pQ_(b:Bool):SV E := .v (.one (.dt .bool b))
def isBoolC(w:Bool):Operand->Bool
 | .const (.bool b)=>match w,b with|true,true=>true|false,false=>true|_,_=>false
 | _=>false
def lR_(body:List Oper):Nat:=1000*(body.length+1)
def lt_(bs:Ba E)(nx lim:Nat)(ds:List Nat)(x:Operand)(s:St E):Option Bool:=match keysIn ds s.env&&qC_ nx s.heap&&Nat.ble s.nx (nx+lim),s.vis,s.hvis,opS E (s.L bs) x with|true,none,none,some (.v (.one (.dt .bool e)))=>some e|_,_,_,_=>none
def clear(ds:List Nat):List (Nat×Option (SV E)):=ds.map λd=>(d,none)
def picked{α:Type}(w:Bool)(x y:α):α:=match w with|true=>x|false=>y
abbrev Ev(E:TE):=(Nat->Option (SV E))->(Nat->Option (Obj E))->Nat->Oper->(R:Type)->(Option (SV E)->Chs E->Option R)->Option R
def dI_ (P:Program) (E:TE) (ev:Ev E) (N:Nat):Nat->(R:Type)->Gd->List Oper->Nat->Ba E->St E->(St E->Option R)->Option R
 | 0,_,_,_,_,_,_,_=>none
 | _+1,_,_,[],_,_,s,k=>k s
 | n + 1,R,gd,o::rest,idx,b,s,k =>
  match sY_ o gd&&dstOK o gd with
  | false=>none
  | true => ev (s.L b) (s.H b) s.nx o R λv u=>match s.after N o v u with
   | none=>none
   | some s1=>match groupOf o idx rest with
    | none=>dI_ P E ev N n R gd rest (idx+1) b s1 k
    | some (d,w,body,pk,rest')=>match s1.L b d,pk.op,pk.dst with
     | some (.v (.one (.dt .bool c))),.pick _ x y,some pd =>
      match sY_ pk gd&&dstOK pk gd&&notIn gd (e7_ body)&&Nat.blt pd N&&skipB idx d w body (idx+1)&&isBoolC (!w) (picked w y x)with
      | false=>none
      | true =>
       match totalL P body with
       | true=>match dI_ P E ev N n Bool (some (idx,w,d)) body (idx+1) (s1.base b) (St.new s1.nx) (lt_ (s1.base b) s1.nx (lR_ body) (e7_ body) (picked w x y))with
        | none=>none
        | some e=>dI_ P E ev N n R gd rest' (idx+1+body.length+1) b { s1 with env:=(pd,some (pQ_ (picked w (c&&e) (c||e))))::(clear (e7_ body)++s1.env),nx:=s1.nx+lR_ body } k
       | false=>Option.bind (picked w
        (bif c then dI_ P E ev N n Bool (some (idx,w,d)) body (idx+1) (s1.base b) (St.new s1.nx) (lt_ (s1.base b) s1.nx (lR_ body) (e7_ body) x)else some false)
        (bif c then some true else dI_ P E ev N n Bool (some (idx,w,d)) body (idx+1) (s1.base b) (St.new s1.nx) (lt_ (s1.base b) s1.nx (lR_ body) (e7_ body) y))) λe =>
         dI_ P E ev N n R gd rest' (idx+1+body.length+1) b { s1 with env:=(pd,some (pQ_ e))::(clear (e7_ body)++s1.env),nx:=s1.nx+lR_ body } k
     | _,_,_=>none
noncomputable def evReg(P:Program)(E:TE)(eqs:List (Nat×Nat))(tab:Tab E)(N:Nat){R:Type}(l:List Oper)(b:Ba E)(s:St E)(k:St E->Option R):Option R:=dI_ P E (λL H nx o _ k=>evOp P E eqs tab L H nx o k) N (l.length+1) R none l 0 b s k
def tlOf:Nat->List Nat->List Nat
 | _,[]=>[]
 | i,f::fl=>match Nat.beq f 2 with
  | true=>i::tlOf (i+1) fl
  | false=>tlOf (i+1) fl
def frOf:Nat->List Nat->List Nat
 | _,[]=>[]
 | i,f::fl=>match Nat.beq f 4 with
  | true=>i::frOf (i+1) fl
  | false=>frOf (i+1) fl
def ay_:List Nat->Nat
 | []=>0
 | f::fl=>match Nat.beq f 0 with
  | true=>ay_ fl+1
  | false=>0
def fw_:Nat->List Oper->List (Nat×Bool)|_,[]=>[]|i,_::l=>(i,false)::fw_ (i+1) l
def eU_(h:List Nat):Nat->List Oper->List Nat->List (Nat×Oper×Nat)
 | i,o::l,f::fl=>match aC_ i h with
  | true=>eU_ h (i+1) l fl
  | false=>(i,o,f)::eU_ h (i+1) l fl
 | _,_,_=>[]
def hOrd:List Nat->List (Nat×Bool) | []=>[]|i::l=>(i,false)::hOrd l
def quietM(f:Nat):Bool:=Nat.beq f 0||Nat.beq f 4
def dW_:List (Nat×Oper×Nat)->List (Nat×Bool) | []=>[]|t::l=>(t.1,!(quietM t.2.2))::dW_ l
noncomputable def evH(P:Program)(E:TE)(eqs:List (Nat×Nat))(tab:Tab E)(N:Nat){R:Type}(b:Ba E)(all:List Oper)(fr:List Nat):List Nat->St E->(St E->Option R)->Option R
 | [],s,k=>k s
 | i :: f,s,k=>match all[i]? with
  | none=>none
  | some o=>match o.guard with
   | some _=>none
   | none=>match fr.contains i with
    | true=>qFree P E eqs (s.L b) o λv up=>match up with
     | some _=>none
     | none=>match s.after N o (some v) []with
      | some s1=>evH P E eqs tab N b all fr f s1 k
      | none=>none
    | false=>kk_ P E eqs tab (s.L b) (s.H b) s.nx o λv u=>match s.after N o v u with
     | some s1=>evH P E eqs tab N b all fr f s1 k
     | none=>none
noncomputable def evB(P:Program)(E:TE)(eqs:List (Nat×Nat))(tab:Tab E)(N:Nat)(fm:Bool){R:Type}(b:Ba E):List (Nat×Oper×Nat)->St E->(St E->Option R)->Option R
 | [],s,k=>k s
 | (_,o,f)::l,s,k=>match o.guard with
  | some _=>none
  | none=>match quietM f with
   | true=>qFree P E eqs (s.L b) o λv up=>match up with
    | some _=>none
    | none=>match s.after N o (some v) []with
     | some s1=>evB P E eqs tab N fm b l s1 k
     | none=>none
   | false=>match Nat.beq f 2||(fm||fK_ tab (s.L b) o)with
    | false=>none
    | true=>evOp P E eqs tab (s.L b) (s.H b) s.nx o λv u=>match s.after N o v u with
     | some s1=>evB P E eqs tab N fm b l s1 k
     | none=>none
def gk_(S:List Nat)(H:Nat->Option (Obj E))(i:Nat):Option (Obj E):=match aC_ i S with|true=>none|false=>H i
def ja_(S:List Nat)(H:Nat->Option (Obj E))(i:Nat):Option (Obj E):=match aC_ i S with|true=>H i|false=>none
noncomputable def evDraw(P:Program)(E:TE)(eqs:List (Nat×Nat))(tab:Tab E)(N:Nat){R:Type}(l:List Oper)(fl h:List Nat)(fm:Bool)(S:List Nat)(b:Ba E)(s:St E)(k:St E->Option R):Option R :=
 match P.follows .mixedOrders&&mixBI .any l.toArray (tlOf 0 fl) (frOf 0 fl) (fw_ 0 (l.take (ay_ fl))++(hOrd h++dW_ (eU_ h (ay_ fl) (l.drop (ay_ fl)) (fl.drop (ay_ fl)))))with
 | false=>none
 | true=>match fm with
  | false=>dI_ P E (λL H nx o _ k=>kk_ P E eqs tab L H nx o k) N (l.length+1) R none (l.take (ay_ fl)) 0 b s λs1=>evH P E eqs tab N b l (frOf 0 fl) h s1 λf=>evB P E eqs tab N false b (eU_ h (ay_ fl) (l.drop (ay_ fl)) (fl.drop (ay_ fl))) f k
  | true=>dI_ P E (λL H nx o _ k=>kk_ P E eqs tab L H nx o k) N (l.length+1) R none (l.take (ay_ fl)) 0 ⟨s.L b,gk_ S (s.H b),b.lo⟩ (St.new s.nx) λs1 =>
   evH P E eqs tab N ⟨s.L b,gk_ S (s.H b),b.lo⟩ l (frOf 0 fl) h s1 λf=>match f.vis,f.hvis,f.heap with
    | none,none,[]=>evB P E eqs tab N true ⟨f.L ⟨s.L b,gk_ S (s.H b),b.lo⟩,ja_ S (s.H b),b.lo⟩ (eU_ h (ay_ fl) (l.drop (ay_ fl)) (fl.drop (ay_ fl))) (St.new f.nx) λj=>match j.vis,j.hvis with
     | none,none=>k { s with env:=j.env++(f.env++s.env),heap:=j.heap++s.heap,nx:=j.nx }
     | _,_=>none
    | _,_,_=>none
def dstN(o:Oper):Nat:=match o.dst with|some d=>d|none=>0
def floatB(P:Program)(N:Nat)(o:Oper)(ds:List Nat):Bool:=match o.op,o.guard,o.dst with
 | .alloc T,none,some d => !(aC_ d ds)&&(Nat.blt d N&&(match zeroOf P T with|some _=>true|none=>false))
 | _,_,_=>false
def dstsT:List (Nat×Oper×Nat)->List Nat
 | []=>[]
 | t::l=>match t.2.1.dst with
  | some d=>d::dstsT l
  | none=>dstsT l
noncomputable def evFloat(P:Program)(E:TE)(eqs:List (Nat×Nat))(tab:Tab E)(N:Nat){R:Type}(l:List Oper)(fl f:List Nat)(p:Nat)(b:Ba E)(s:St E)(k:St E->Option R):Option R :=
 match(eU_ f (ay_ fl) (l.drop (ay_ fl)) (fl.drop (ay_ fl)))[p]? with
 | none=>none
 | some t=>match P.follows .mixedOrders&&(floatB P N t.2.1 (dstsT ((eU_ f (ay_ fl) (l.drop (ay_ fl)) (fl.drop (ay_ fl))).take p))&&Nat.beq t.2.2 1) &&
   mixBF .any l.toArray (tlOf 0 fl) (frOf 0 fl) t.1 (fw_ 0 (l.take (ay_ fl))++(hOrd f++dW_ ((eU_ f (ay_ fl) (l.drop (ay_ fl)) (fl.drop (ay_ fl))).take p))) (dW_ ((eU_ f (ay_ fl) (l.drop (ay_ fl)) (fl.drop (ay_ fl))).drop (p+1)))with
  | false=>none
  | true=>dI_ P E (λL H nx o _ k=>kk_ P E eqs tab L H nx o k) N (l.length+1) R none (l.take (ay_ fl)) 0 b s λs1=>evH P E eqs tab N b l (frOf 0 fl) f s1 λh =>
    evB P E eqs tab N false b ((eU_ f (ay_ fl) (l.drop (ay_ fl)) (fl.drop (ay_ fl))).take p++t::(eU_ f (ay_ fl) (l.drop (ay_ fl)) (fl.drop (ay_ fl))).drop (p+1)) { h with env:=(dstN t.2.1,none)::h.env } k
abbrev Gs:=List (Nat×Nat×Bool)
def gsAt(k:Nat):Gs->Option (Nat×Nat×Bool)
 | []=>none
 | q::l=>match Nat.beq q.1 k with
  | true=>some q
  | false=>gsAt k l
def gsSlot(d:Nat):Gs->Option (Nat×Nat×Bool)
 | []=>none
 | q::l=>match Nat.beq q.2.1 d with
  | true=>some q
  | false=>gsSlot d l
def gsFree(o:Oper)(gs:Gs):Bool:=gs.all λq=>dstOK o (some (q.1,q.2.2,q.2.1))
def wantG(o:Oper)(gs:Gs):Option Bool:=match o.guard with
 | none=>some true
 | some (k,w)=>match gsAt k gs with
  | none=>none
  | some q=>some (match q.2.2,w with|true,true=>true|false,false=>true|_,_=>false)
def pickG(o:Oper)(gs:Gs):Option Operand:=match o.op with
 | .pick (.tmp d) x y=>match gsSlot d gs with
  | none=>none
  | some q=>some (picked q.2.2 x y)
 | _=>none
noncomputable def evO1(P:Program)(E:TE)(eqs:List (Nat×Nat))(tab:Tab E)(N:Nat){R:Type}(b:Ba E)(all:List Oper)(i:Nat)(gs:Gs)(s:St E)(kk:St E->Option R):Option R:=match all[i]? with
 | none=>none
 | some o=>match gsFree o gs,wantG o gs with
  | true,some true=>match pickG o gs with
   | some x=>match opS E (s.L b) x with
    | none=>none
    | some v=>match s.after N o (some v) []with
     | some s1=>kk s1
     | none=>none
   | none=>evOp P E eqs tab (s.L b) (s.H b) s.nx o λv u=>match s.after N o v u with
    | some s1=>kk s1
    | none=>none
  | true,some false=>match s.after N o none []with
   | some s1=>kk s1
   | none=>none
  | _,_=>none
noncomputable def evOT(P:Program)(E:TE)(eqs:List (Nat×Nat))(tab:Tab E)(N:Nat){R:Type}(b:Ba E)(all:List Oper)(k:St E->Option R):OT->Gs->St E->Option R
 | .nil,_,s=>k s
 | .spl i t f,gs,s=>match all[i]? with
  | none=>none
  | some o=>match o.dst with
   | none=>none
   | some d=>match s.L b d with
    | some (.v (.one (.dt .bool c)))=>bif c then evOT P E eqs tab N b all k t ((i,d,true)::gs) s else evOT P E eqs tab N b all k f ((i,d,false)::gs) s
    | _=>none
 | .free i t,gs,s=>match all[i]? with
  | none=>none
  | some o=>match gsFree o gs,wantG o gs with
   | true,some true=>qFree P E eqs (s.L b) o λv up=>match up with
    | some _=>none
    | none=>match s.after N o (some v) []with
     | some s1=>evOT P E eqs tab N b all k t gs s1
     | none=>none
   | true,some false=>match s.after N o none []with
    | some s1=>evOT P E eqs tab N b all k t gs s1
    | none=>none
   | _,_=>none
 | .alt i t .nil,gs,s=>evO1 P E eqs tab N b all i gs s λs1=>evOT P E eqs tab N b all k t gs s1
 | .alt i t (.alt j t2 h),gs,s=>both (evO1 P E eqs tab N b all i gs s λs1=>evOT P E eqs tab N b all k t gs s1) (evOT P E eqs tab N b all k (.alt j t2 h) gs s)
 | .alt _ _ (.free _ _),_,_=>none
 | .alt _ _ (.spl _ _ _),_,_=>none
noncomputable def evOrd(P:Program)(E:TE)(eqs:List (Nat×Nat))(tab:Tab E)(N:Nat){R:Type}(l:List Oper)(p:Nat)(t:OT)(b:Ba E)(s:St E)(k:St E->Option R):Option R:=match P.follows .mixedOrders&&((t.frO.all λi=>Nat.ble p i)&&mixBO .any l.toArray t.tlO t.frO t (fw_ 0 (l.take p)))with|false=>none|true=>dI_ P E (λL H nx o _ k=>kk_ P E eqs tab L H nx o k) N (l.length+1) R none (l.take p) 0 b s λs1=>evOT P E eqs tab N b l k t [] s1
def chO:Nat->Nat->OT|_,0 => .nil|i,n+1 => .alt i (chO (i+1) n) .nil
noncomputable def evChain(P:Program)(E:TE)(eqs:List (Nat×Nat))(tab:Tab E)(N:Nat){R:Type}(l:List Oper)(p:Nat)(b:Ba E)(s:St E)(k:St E->Option R):Option R:=match P.follows .mixedOrders&&(Nat.ble p l.length&&mixBO .any l.toArray (chO p (l.length-p)).tlO [] (chO p (l.length-p)) (fw_ 0 (l.take p)))with|false=>none|true=>dI_ P E (λL H nx o _ k=>kk_ P E eqs tab L H nx o k) N (l.length+1) R none (l.take p) 0 b s λs1=>dI_ P E (λL H nx o _ k=>evOp P E eqs tab L H nx o k) N (l.length+1) R none (l.drop p) p b s1 k
inductive CP where
 | v (t:Ty)
 | own (j:Nat)
 | ptr (j:Nat)
 | mp (j:Nat)
 | sbp (j:Nat)
inductive VP where
 | d (t:Ty)
 | one (c:CP)
 | agg (l:List CP)
inductive OP where
 | box (T:TypeId) (t:Ty)
 | cells (T:TypeId) (l:List CP)
 | row (e:TypeId) (t:Ty) (foc:List (Nat×Nat))
 | map (T:TypeId) (k v:Ty)
structure JP where (slots:List (Nat×VP)) (objs:List (Nat×Bool×OP)) (keep hkeep gkeep:List Nat) (nx:Nat)
def cpT:List CP->List Ty | []=>[] | .v t::l=>t::cpT l|_::l=>cpT l
def VP.T:VP->List Ty | .d t=>[t] | .one c=>cpT [c] | .agg l=>cpT l
def OP.T:OP->List Ty | .box _ t=>[t] | .cells _ l=>cpT l | .row _ t _=>[.sl t] | .map _ k v=>[.sl k,.sl v]
def fM_:List (Nat×VP)->List Ty | []=>[]|p::l=>p.2.T++fM_ l
def jb_:List (Nat×Bool×OP)->List Ty | []=>[]|p::l=>p.2.2.T++jb_ l
def JP.T(j:JP):List Ty:=fM_ j.slots++jb_ j.objs
def hap{S:Nat->Type}:{ts us:List Ty}->HL S ts->HL S us->HL S (ts++us) | [],_,_,h=>h|_::_,_,a,h=>(a.1,hap a.2 h)
def hfst{S:Nat->Type}:(ts us:List Ty)->HL S (ts++us)->HL S ts | [],_,_=>()|_::ts,us,h=>(h.1,hfst ts us h.2)
def hsnd{S:Nat->Type}:(ts us:List Ty)->HL S (ts++us)->HL S us | [],_,h=>h|_::ts,us,h=>hsnd ts us h.2
def rowOf(j:Nat):List (Nat×Bool×OP)->Option (TypeId×Ty)
 | []=>none
 | (i,_,.row e t _)::l=>match Nat.beq i j with
  | true=>some (e,t)
  | false=>rowOf j l
 | _::l=>rowOf j l
def wantC(objs:List (Nat×Bool×OP)):List CP->List (Option (TypeId×Ty)) | .own j::ps=>rowOf j objs::wantC objs ps|_::ps=>none::wantC objs ps | []=>[]
def prepRs(E:TE){α:Type}:Rs->List (V1 E)->Nat->(List (V1 E)->Chs E->Nat->α)->α|(t,m)::rs,x::xs,n,k=>ni_ E t m x n λf u p=>prepRs E rs xs p λxs' h j=>k (f::xs') (h++u) j|_,xs,n,k=>k xs [] n
def prepS(b:Ba E)(s:St E)(objs:List (Nat×Bool×OP)):Nat×VP->St E
 | (t,.one (.own j))=>match s.L b t,rowOf j objs with
  | some (.v (.one .nils)),some (e,ty)=>{ s with env:=(t,some (.v (.one (.own s.nx))))::s.env,heap:=(s.nx,some (.row e ty [] []))::s.heap,nx:=s.nx+1 }
  | _,_=>s
 | (t,.d _)=>match s.L b t with
  | some (.v x)=>{ s with heap:=eE_ (s.H b) x.cs++s.heap }
  | _=>s
 | (t,.agg ps)=>match s.L b t with
  | some (.v (.agg cs))=>kj_ (wantC objs ps) cs s.nx λl u m=>{ s with env:=(t,some (.v (.agg l)))::s.env,heap:=u++s.heap,nx:=m }
  | _=>s
 | _=>s
def lS_(b:Ba E)(objs:List (Nat×Bool×OP)):List (Nat×VP)->St E->St E | [],s=>s|p::l,s=>lS_ b objs l (prepS b s objs p)
def pR_(b:Ba E)(objs:List (Nat×Bool×OP))(s:St E):Nat×Bool×OP->St E
 | (j,true,.cells _ ps)=>match s.H b j with
  | some (.box T cs)=>kj_ (wantC objs ps) cs s.nx λl u m=>{ s with heap:=(j,some (.box T l))::(u++s.heap),nx:=m }
  | _=>s
 | _=>s
def lT_(b:Ba E)(objs:List (Nat×Bool×OP)):List (Nat×Bool×OP)->St E->St E | [],s=>s|p::l,s=>lT_ b objs l (pR_ b objs s p)
def selV:List CP->List (SC E)->List (SC E) | .v _::ps,c::cs=>c::selV ps cs|_::ps,_::cs=>selV ps cs|_,_=>[]
def frzC(b:Ba E)(s:St E)(cs:List (SC E)):St E:={ s with heap:=eE_ (s.H b) cs++s.heap }
def frzS1(b:Ba E)(s:St E):Nat×VP->St E
 | (t,.agg ps)=>match s.L b t with
  | some (.v (.agg cs))=>frzC b s (selV ps cs)
  | _=>s
 | _=>s
def frzS(b:Ba E):List (Nat×VP)->St E->St E | [],s=>s|p::l,s=>frzS b l (frzS1 b s p)
def frzO1(b:Ba E)(s:St E):Nat×Bool×OP->St E
 | (j,true,.cells _ ps)=>match s.H b j with
  | some (.box _ cs)=>frzC b s (selV ps cs)
  | _=>s
 | (j,true,.box _ _)=>match s.H b j with
  | some (.box _ cs)=>frzC b s cs
  | _=>s
 | _=>s
def frzOs(b:Ba E):List (Nat×Bool×OP)->St E->St E | [],s=>s|p::l,s=>frzOs b l (frzO1 b s p)
abbrev Bd:=List (Nat×Nat)
def addB(j id:Nat)(bs:Bd):Option Bd:=match aN_ j bs with
 | some id'=>match Nat.beq id id' with
  | true=>some bs
  | false=>none
 | none=>some ((j,id)::bs)
def bx_:List CP->List (SC E)->Bd->Option Bd
 | [],[],bs=>some bs
 | .v _::ps,_::cs,bs=>bx_ ps cs bs
 | .own j::ps,.own id::cs,bs=>match addB j id bs with
  | some bs=>bx_ ps cs bs
  | none=>none
 | .ptr j::ps,.ptr id 0::cs,bs=>match addB j id bs with
  | some bs=>bx_ ps cs bs
  | none=>none
 | .mp j::ps,.mp id::cs,bs=>match addB j id bs with
  | some bs=>bx_ ps cs bs
  | none=>none
 | .sbp j::ps,.sbp id::cs,bs=>match addB j id bs with
  | some bs=>bx_ ps cs bs
  | none=>none
 | _,_,_=>none
def hb_(L:Nat->Option (SV E)):List (Nat×VP)->Bd->Option Bd
 | [],bs=>some bs
 | (_,.d _)::l,bs=>hb_ L l bs
 | (t,.one p)::l,bs=>match L t with
  | some (.v (.one c))=>match bx_ [p] [c] bs with
   | some bs=>hb_ L l bs
   | none=>none
  | _=>none
 | (t,.agg ps)::l,bs=>match L t with
  | some (.v (.agg cs))=>match bx_ ps cs bs with
   | some bs=>hb_ L l bs
   | none=>none
  | _=>none
def selfB(self:Bool)(j:Nat)(bs:Bd):Option Bd:=match self with|true=>addB j j bs|false=>some bs
def kn_ (H:Nat->Option (Obj E)):List (Nat×Bool×OP)->Bd->Option Bd
 | [],bs=>some bs
 | (j,self,p)::l,bs=>match selfB self j bs with
  | some bs=>match p with
   | .cells _ ps=>match aN_ j bs with
    | some id=>match H id with
     | some (.box _ cs)=>match bx_ ps cs bs with
      | some bs=>kn_ H l bs
      | none=>none
     | _=>none
    | none=>none
   | _=>kn_ H l bs
  | none=>none
def fh_{α:Type}:Bool->Option α->Option α|true,x=>x|false,_=>none
theorem dX_{α:Type}{c:Bool}{x:Option α}{y:α}(h:fh_ c x=some y):c=true/\x=some y:=by
 cases c with
 | true=>exact⟨rfl,h⟩
 | false=>cases h
def castO{S:TE}(t:Ty){f:Ty}(xs:List (Den S.S f)):Option (List (Den S.S t)):=if h:f=t then some (gh_ h xs)else none
theorem qE_{S:TE}{t j:Ty}{xs:List (Den S.S j)}{f:List (Den S.S t)}(h:castO t xs=some f):∃e:j=t,f=gh_ e xs:=by
 unfold castO at h;split at h
 .rename_i e;exact⟨e,(qSj h).symm⟩
 .cases h
def unitO{α:Type}:Option α->Option (α×Unit)|some x=>some (x,())|none=>none
theorem nl_{α:Type}{x:Option α}{q:α×Unit}(h:unitO x=some q):x=some q.1:=by
 cases x with
 | none=>cases h
 | some a=>obtain rfl:=qSj h;rfl
def hapO{S:Nat->Type}{ts us:List Ty}:Option (HL S ts)->Option (HL S us)->Option (HL S (ts++us))|some x,some y=>some (hap x y)|_,_=>none
theorem rX_{S:Nat->Type}{ts us:List Ty}{x:Option (HL S ts)}{y:Option (HL S us)}{q:HL S (ts++us)}(h:hapO x y=some q):∃a b,x=some a/\y=some b/\q=hap a b:=by
 cases x with
 | none=>cases h
 | some a =>
  cases y with
  | none=>cases h
  | some b=>exact⟨a,b,rfl,rfl,(qSj h).symm⟩
def pairO{α β:Type}:Option α->Option β->Option (α×β)|some x,some y=>some (x,y)|_,_=>none
theorem u5_{α β:Type}{x:Option α}{y:Option β}{q:α×β}(h:pairO x y=some q):x=some q.1/\y=some q.2:=by
 cases x with
 | none=>cases h
 | some a =>
  cases y with
  | none=>cases h
  | some b=>obtain rfl:=qSj h;exact⟨rfl,rfl⟩
def eh_(H:Nat->Option (Obj E)):(ps:List CP)->List (SC E)->Option (HL E.S (cpT ps)) | [],[]=>some () | .v t::ps,c::cs=>pairO (c.data H t) (eh_ H ps cs) | .own _::ps,_::cs=>eh_ H ps cs | .ptr _::ps,_::cs=>eh_ H ps cs | .mp _::ps,_::cs=>eh_ H ps cs | .sbp _::ps,_::cs=>eh_ H ps cs|_,_=>none
def leafV(H:Nat->Option (Obj E)):(p:VP)->V1 E->Option (HL E.S p.T) | .d t,x=>unitO (takeD E H t x) | .one p,.one c=>eh_ H [p] [c] | .agg ps,.agg cs=>eh_ H ps cs|_,_=>none
def leafS(L:Nat->Option (SV E))(H:Nat->Option (Obj E)):(l:List (Nat×VP))->Option (HL E.S (fM_ l))
 | []=>some ()
 | (t,p)::l=>match L t with
  | some (.v x)=>hapO (leafV H p x) (leafS L H l)
  | _=>none
def leafO(H:Nat->Option (Obj E)):(p:OP)->Obj E->Option (HL E.S p.T) | .box T t,.box T' cs=>fh_ (Nat.beq T T') (unitO ((cv_ E H (E.flat t) cs).map (E.ufl t))) | .cells T ps,.box T' cs=>fh_ (Nat.beq T T') (eh_ H ps cs) | .row e t _,.row e' _ xs _=>fh_ (Nat.beq e e') (unitO (castO t xs)) | .map T k v,.map T' _ _ ks vs _=>fh_ (Nat.beq T T') (pairO (castO k ks) (unitO (castO v vs)))|_,_=>none
def n6_(H:Nat->Option (Obj E))(bs:Bd):(l:List (Nat×Bool×OP))->Option (HL E.S (jb_ l))
 | []=>some ()
 | (j,_,p)::l=>match aN_ j bs with
  | some id=>match H id with
   | some o=>hapO (leafO H p o) (n6_ H bs l)
   | none=>none
  | none=>none
def focOK(H:Nat->Option (Obj E))(bs:Bd)(keep gkeep:List Nat):List (Nat×Bool×OP)->Bool
 | []=>true
 | (j,_,.row _ _ fs)::l=>(match aN_ j bs with
  | some id=>match H id with
   | some (.row _ _ _ foc)=>fs.all λf=>(foc.any λp=>Nat.beq p.1 f.1)&&(aC_ f.2 keep&&aC_ f.1 gkeep)
   | _=>false
  | none=>false)&&focOK H bs keep gkeep l
 | _::l=>focOK H bs keep gkeep l
def noKey{α:Type}(i:Nat)(l:List (Nat×α)):Bool:=match aN_ i l with|none=>true|some _=>false
def subset(l m:List Nat):Bool:=l.all λt=>aC_ t m
def selfs:List (Nat×Bool×OP)->List Nat | []=>[]|(j,true,_)::l=>j::selfs l|_::l=>selfs l
def disj(l m:List Nat):Bool:=l.all λt => !(aC_ t m)
def JP.mtB(j:JP)(lo:Nat)(s:St E)(bs:Bd):Bool:=(Nat.ble lo j.nx&&bs.all λp=>Nat.ble lo p.1||Nat.beq p.1 p.2)&&(j.keep.all λt=>noKey t s.env&&seen s.vis t)&&((j.hkeep.all λt=>noKey t s.heap&&seen s.hvis t)&&(nodupB (bs.map (·.2))&&(disj (bs.map (·.2)) j.hkeep&&(disj (bs.map (·.1)) (j.hkeep++j.gkeep)&&((bs.all λp=>Nat.blt p.1 j.nx)&&(j.hkeep++j.gkeep).all λi=>Nat.blt i j.nx)))))
def JP.mt(j:JP)(b:Ba E)(s0:St E):Option (HL E.S j.T) :=
 let s:=lT_ b j.objs j.objs (lS_ b j.objs j.slots (frzOs b j.objs (frzS b j.slots s0)))
 match hb_ (s.L b) j.slots []with
 | some bs=>match kn_ (s.H b) j.objs bs with
  | some bs=>fh_ (j.mtB b.lo s bs&&focOK (s.H b) bs j.keep j.gkeep j.objs) (hapO (leafS (s.L b) (s.H b) j.slots) (n6_ (s.H b) bs j.objs))
  | none=>none
 | none=>none
def newC:(ps:List CP)->HL E.S (cpT ps)->List (SC E) | [],_=>[] | .v t::ps,h => .dt t h.1::newC ps h.2 | .own j::ps,h => .own j::newC ps h | .ptr j::ps,h => .ptr j 0::newC ps h | .mp j::ps,h => .mp j::newC ps h | .sbp j::ps,h => .sbp j::newC ps h
def ones:List (SC E)->Option (V1 E) | [c]=>some (.one c)|_=>none
def newV:(p:VP)->HL E.S p.T->Option (V1 E) | .d t,h=>asV E t (E.cells t h.1) | .one p,h=>ones (newC [p] h) | .agg ps,h=>some (.agg (newC ps h))
def slotO(t:Nat):Option (V1 E)->Option (List (Nat×Option (SV E)))->Option (List (Nat×Option (SV E)))|some x,some r=>some ((t,some (.v x))::r)|_,_=>none
def newS:(l:List (Nat×VP))->HL E.S (fM_ l)->Option (List (Nat×Option (SV E))) | [],_=>some []|(t,p)::l,h=>slotO t (newV p (hfst p.T (fM_ l) h)) (newS l (hsnd p.T (fM_ l) h))
def focK(L:Nat->Option (SV E)){R:Type}{t:Ty}(xs:List (Den E.S t)):List (Nat×Nat)->(List (Nat×Int×Den E.S t)->Option R)->Option R
 | [],k=>k []
 | (q,sl)::fs,k=>match L sl with
  | some (.v (.one (.elo _ f i _)))=>match Nat.beq q f with
   | true=>Option.bind (an_ xs i) λy=>focK L xs fs λl=>k ((q,i,y)::l)
   | false=>none
  | _=>none
def newO(L:Nat->Option (SV E)){R:Type}:(p:OP)->HL E.S p.T->(Obj E->Option R)->Option R | .box T t,h,k=>k (.box T (E.cells t h.1)) | .cells T ps,h,k=>k (.box T (newC ps h)) | .row e t fs,h,k=>focK L h.1 fs λl=>k (.row e t h.1 l) | .map T kt v,h,k=>k (.map T kt v h.1 h.2.1 [])
def newOs(L:Nat->Option (SV E)){R:Type}:(l:List (Nat×Bool×OP))->HL E.S (jb_ l)->(Chs E->Option R)->Option R | [],_,k=>k []|(j,_,p)::l,h,k=>newO L p (hfst p.T (jb_ l) h) λo=>newOs L l (hsnd p.T (jb_ l) h) λu=>k ((j,some o)::u)
def SC.okIds(A:List Nat):SC E->Bool | .own id=>aC_ id A | .pre id _=>aC_ id A | .suf id _=>aC_ id A | .ptr id _=>aC_ id A | .elo id q _ _=>aC_ id A&&aC_ q A | .clo _ ids=>subset ids A | .mp id=>aC_ id A | .mst q=>aC_ q A | .sbp id=>aC_ id A | .pix id _=>aC_ id A|_=>true
def V1.okIds(A:List Nat):V1 E->Bool | .one c=>c.okIds A | .agg l=>l.all λc=>c.okIds A
def SV.okIds(A:List Nat):SV E->Bool | .v x=>x.okIds A | .tup l=>l.all λx=>x.okIds A
def Obj.okIds(A:List Nat):Obj E->Bool | .box _ cs=>cs.all λc=>c.okIds A | .row _ _ _ foc=>foc.all λp=>aC_ p.1 A | .map _ _ _ _ _ foc=>foc.all λp=>aC_ p.1 A|_=>true
def filtK{α:Type}(keep:List Nat)(l:List (Nat×α)):List (Nat×α):=l.filter λp=>aC_ p.1 keep
def JP.goB(j:JP)(b:Ba E)(s:St E):Bool :=
 (j.keep.all λt=>match s.L b t with|some v=>v.okIds (j.hkeep++(j.gkeep++selfs j.objs))|none=>true)&&(j.hkeep.all λi=>match s.H b i with|some o=>o.okIds (j.hkeep++(j.gkeep++selfs j.objs))|none=>true)
def JP.goS(j:JP)(s:St E)(env:List (Nat×Option (SV E)))(u:Chs E):St E:={ env:=env++filtK j.keep s.env,vis:=some (j.keep.filter (seen s.vis)),heap:=u++filtK j.hkeep s.heap,hvis:=some (j.hkeep.filter (seen s.hvis)),nx:=j.nx }
def JP.go(j:JP)(b:Ba E)(s:St E){R:Type}(h:HL E.S j.T)(k:St E->Option R):Option R :=
 match newS j.slots (hfst (fM_ j.slots) (jb_ j.objs) h)with
 | none=>none
 | some env =>
  fh_ (j.goB b s) (newOs (s.L b) j.objs (hsnd (fM_ j.slots) (jb_ j.objs) h) λu=>k (j.goS s env u))
inductive Pl where
 | p
 | s (x y:Pl)
 | j (m:JP) (ret:Bool) (x y:Pl)
 | lp (hd ex:JP) (ret:Bool) (x:Pl)
 | dr (fl hs:List Nat) (fm:Bool) (ids:List Nat)
 | df (fl hs:List Nat) (p:Nat)
 | ot (p:Nat) (t:OT)
 | sq (p:Nat)
def Pl.l:Pl->Pl | .s x _=>x|_ => .p
def Pl.r:Pl->Pl | .s _ y=>y|_ => .p
noncomputable def evCode(P:Program)(E:TE)(eqs:List (Nat×Nat))(tab:Tab E)(N:Nat)(RT:Type)(rv:Ba E->St E->Option RT):Code->Pl->(R:Type)->Ba E->St E->(Option Nat->St E->Option R)->(RT->Option R)->Option R
 | .skip,_,_,_,s,k,_=>k none s
 | .region _ ops false,_,_,b,s,k,_=>evReg P E eqs tab N ops.toList b s (k none)
 | .region _ ops true,.dr fl q fm ids,_,b,s,k,_=>evDraw P E eqs tab N ops.toList fl q fm ids b s (k none)
 | .region _ ops true,.df fl q p,_,b,s,k,_=>evFloat P E eqs tab N ops.toList fl q p b s (k none)
 | .region _ ops true,.ot p t,_,b,s,k,_=>evOrd P E eqs tab N ops.toList p t b s (k none)
 | .region _ ops true,.sq p,_,b,s,k,_=>evChain P E eqs tab N ops.toList p b s (k none)
 | .seq x y,.j m ret px py,R,b,s,k,kr=>match ret with
  | false=>Option.bind (evCode P E eqs tab N RT rv x px (Tp E.S m.T) (s.base b) (St.new s.nx) (λex s'=>match ex with
    | none=>(match m.mt (s.base b) s' with|some h=>some (e6_ m.T h)|none=>none)
    | some _=>none) (λ_=>none)) λo=>m.go b s (dh_ m.T o) λs'=>evCode P E eqs tab N RT rv y py R b s' k kr
  | true=>Option.bind (evCode P E eqs tab N RT rv x px (Out (Tp E.S m.T) RT) (s.base b) (St.new s.nx) (λex s'=>match ex with
    | none=>(match m.mt (s.base b) s' with|some h=>some (.fall (e6_ m.T h))|none=>none)
    | some _=>none) (λr=>some (.ret r))) λo=>match o with
     | .ret r=>kr r
     | .fall o=>m.go b s (dh_ m.T o) λs'=>evCode P E eqs tab N RT rv y py R b s' k kr
 | .seq x y,pl,R,b,s,k,kr=>evCode P E eqs tab N RT rv x pl.l R b s (λex s'=>match ex with
   | none=>evCode P E eqs tab N RT rv y pl.r R b s' k kr
   | some i=>k (some i) s') kr
 | .cond c x y,pl,R,b,s,k,kr=>match opS E (s.L b) c with
  | some (.v (.one (.dt .bool c)))=>bif c then evCode P E eqs tab N RT rv x pl.l R b s k kr else evCode P E eqs tab N RT rv y pl.r R b s k kr
  | _=>none
 | .block id (.loop body),.lp f ex ret pb,_,b,s,k,kr=>match f.mt (s.base b) (St.new s.nx)with
  | none=>none
  | some u=>match ret with
   | false=>Option.bind (am_ (λtp=>f.go (s.base b) (St.new s.nx) (dh_ f.T tp) λs1=>evCode P E eqs tab N RT rv body pb (Step (Tp E.S f.T) (Tp E.S ex.T)) (s.base b) s1 (λe s'=>match e with
      | none=>(match f.mt (s.base b) s' with|some h=>some (.next (e6_ f.T h))|none=>none)
      | some i=>match Nat.beq i id with
       | true=>(match ex.mt (s.base b) s' with|some h=>some (.done (e6_ ex.T h))|none=>none)
       | false=>none) (λ_=>none)) BIG (e6_ f.T u)) λo=>ex.go b s (dh_ ex.T o) λs'=>k none s'
   | true=>Option.bind (am_ (λtp=>f.go (s.base b) (St.new s.nx) (dh_ f.T tp) λs1=>evCode P E eqs tab N RT rv body pb (Step (Tp E.S f.T) (Out (Tp E.S ex.T) RT)) (s.base b) s1 (λe s'=>match e with
      | none=>(match f.mt (s.base b) s' with|some h=>some (.next (e6_ f.T h))|none=>none)
      | some i=>match Nat.beq i id with
       | true=>(match ex.mt (s.base b) s' with|some h=>some (.done (.fall (e6_ ex.T h)))|none=>none)
       | false=>none) (λr=>some (.done (.ret r)))) BIG (e6_ f.T u)) λo=>match o with
     | .ret r=>kr r
     | .fall o=>ex.go b s (dh_ ex.T o) λs'=>k none s'
 | .block id x,pl,R,b,s,k,kr=>evCode P E eqs tab N RT rv x pl R b s (λex s'=>match ex with
   | none=>k none s'
   | some i=>match Nat.beq i id with
    | true=>k none s'
    | false=>k (some i) s') kr
 | .exit i,_,_,_,s,k,_=>k (some i) s
 | .scope x,pl,R,b,s,k,kr=>evCode P E eqs tab N RT rv x pl R b s k kr
 | .ret,_,_,b,s,_,kr=>match rv b s with
  | some r=>kr r
  | none=>none
 | _,_,_,_,_,_,_=>none
def resSV(E:TE)(P:Program)(b:Ba E)(s:St E):ResultVar->Option (V1 E)
 | .tmp t=>match s.L b t with
  | some (.v x)=>some x
  | _=>none
 | .cell t T=>match s.L b t with
  | some (.v (.one c))=>match behind E (s.H b) c with
   | some (l,off)=>loadC P T l off
   | none=>none
  | _=>none
def resXs(E:TE)(P:Program)(b:Ba E)(s:St E):List ResultVar->Option (List (V1 E))
 | []=>some []
 | v::vs=>match resSV E P b s v,resXs E P b s vs with
  | some x,some l=>some (x::l)
  | _,_=>none
def frzR(E:TE)(H:Nat->Option (Obj E)):Rs->List (V1 E)->Chs E|(_,m)::rs,x::xs=>eE_ (upH H (frzR E H rs xs)) (unM m x.cs)++frzR E H rs xs|_,_=>[]
def frzV(E:TE)(H:Nat->Option (Obj E)):List Pm->Nat->Chs E
 | [],_=>[]
 | .b _ _::ps,n=>(match upH H (frzV E H ps (n+1)) n with
  | some (.box _ cs)=>eE_ (upH H (frzV E H ps (n+1))) cs
  | _=>[])++frzV E H ps (n+1)
 | .bm _ t m _::ps,n=>(match upH H (frzV E H ps (n+1+aJ_ m (E.flat t))) n with
  | some (.box _ (.ptr _ _::cs))=>eE_ (upH H (frzV E H ps (n+1+aJ_ m (E.flat t)))) (unM m cs)
  | some (.box _ cs)=>eE_ (upH H (frzV E H ps (n+1+aJ_ m (E.flat t)))) (unM m cs)
  | _=>[])++frzV E H ps (n+1+aJ_ m (E.flat t))
 | .l t m::ps,n=>frzV E H ps (n+aJ_ m (E.flat t))
 | .g t m::ps,n=>frzV E H ps (n+aJ_ m (E.flat t))
 | .mp _ _ _::ps,n=>frzV E H ps (n+1)
 | .d _::ps,n=>frzV E H ps n
 | .p _::ps,n=>frzV E H ps n
 | .f1 _ _::ps,n=>frzV E H ps n
 | .f2 _ _ _::ps,n=>frzV E H ps n
def frzA(E:TE)(H:Nat->Option (Obj E))(ps:List Pm)(rs:Rs)(xs:List (V1 E)):Chs E:=frzV E (upH H (frzR E H rs xs)) ps 0++frzR E H rs xs
def takeR(E:TE)(H:Nat->Option (Obj E)):(rs:Rs)->List (V1 E)->Option (HL E.S rs.ts×List Nat)
 | [],[]=>some ((),[])
 | (t,m)::rs,x::xs=>match V1.fits t x,cr_ E H m (E.flat t) x.cs,takeR E H rs xs with
  | true,some d,some q=>some ((E.ufl t d.1,q.1),d.2++q.2)
  | _,_,_=>none
 | _,_=>none
def nm_ (E:TE) (H:Nat->Option (Obj E)):Mk->(ts:List Ty)->HL E.S ts->Nat->Option (HL E.S ts)
 | some e::f,.sl t::ts,h,n=>match H n with
  | some (.row e' j xs _)=>if m:j=t then match Nat.beq e e',nm_ E H f ts h.2 (n+1)with
    | true,some q=>some (gh_ m xs,q)
    | _,_=>none
   else none
  | _=>none
 | none::f,_::ts,h,n=>match nm_ E H f ts h.2 n with
  | some q=>some (h.1,q)
  | none=>none
 | [],_,h,_=>some h
 | _,_,_,_=>none
def hidI:List (V1 E)->Nat->Bool | [],_=>true | [.one (.ptr id _)],p=>Nat.beq p id|_,_=>false
def ei_ (E:TE) (H:Nat->Option (Obj E)):(ps:List Pm)->PA E ps->Nat->Option (HL E.S (bo_ ps)×List Nat)
 | [],_,_=>some ((),[])
 | .l t m::ps,a,n=>match nm_ E H m (E.flat t) (E.fl t a.1) n,ei_ E H ps a.2 (n+aJ_ m (E.flat t))with
  | some h,some q=>some ((E.ufl t h,q.1),q.2)
  | _,_=>none
 | .g t m::ps,a,n=>ei_ E H ps a.2 (n+aJ_ m (E.flat t))
 | .mp T k v::ps,a,n=>match H n,ei_ E H ps a.2 (n+1)with
  | some (.map T' x u ks vs _),some q=>if s:x=k/\u=v then match Nat.beq T T' with
    | true=>some ((gh_ s.1 ks,gh_ s.2 vs,q.1),q.2)
    | false=>none
   else none
  | _,_=>none
 | .b T t::ps,a,n=>match H n,ei_ E H ps a.2 (n+1)with
  | some (.box T' cs),some q=>match Nat.beq T T',cv_ E H (E.flat t) cs with
   | true,some h=>some ((E.ufl t h,q.1),q.2)
   | _,_=>none
  | _,_=>none
 | .bm T t m px::ps,a,n=>match H n,ei_ E H ps a.2 (n+1+aJ_ m (E.flat t))with
  | some (.box T' j),some q=>match kh_ (pxB px ps) j with
   | some (cs,f)=>match Nat.beq T T'&&hidI f (n+1+aJ_ m (E.flat t)),cr_ E H m (E.flat t) cs with
    | true,some d=>some ((E.ufl t d.1,q.1),d.2++q.2)
    | _,_=>none
   | none=>none
  | _,_=>none
 | .d _::ps,a,n=>ei_ E H ps a.2 n
 | .p _::ps,a,n=>ei_ E H ps a.2 n
 | .f1 _ _::ps,a,n=>ei_ E H ps a.2 n
 | .f2 _ _ _::ps,a,n=>ei_ E H ps a.2 n
def ej_(E:TE):List Pm->Nat->List Nat | [],_=>[] | .l t m::ps,n=>List.range' n (aJ_ m (E.flat t))++ej_ E ps (n+aJ_ m (E.flat t)) | .g t m::ps,n=>ej_ E ps (n+aJ_ m (E.flat t)) | .mp _ _ _::ps,n=>n::ej_ E ps (n+1) | .b _ _::ps,n=>n::ej_ E ps (n+1) | .bm _ t m _::ps,n=>n::ej_ E ps (n+1+aJ_ m (E.flat t)) | .d _::ps,n=>ej_ E ps n | .p _::ps,n=>ej_ E ps n | .f1 _ _::ps,n=>ej_ E ps n | .f2 _ _ _::ps,n=>ej_ E ps n
def retF(E:TE)(P:Program)(ps:List Pm)(rs:Rs)(a:PA E ps)(vs:List ResultVar)(b:Ba E)(s:St E):Option (Tp E.S (rs.ts++bo_ ps)) :=
 match resXs E P b s vs with
 | none=>none
 | some f=>prepRs E rs f s.nx λxs u _=>match takeR E (upH (upH (s.H b) u) (frzA E (upH (s.H b) u) ps rs xs)) rs xs with
  | none=>none
  | some q=>match ei_ E (upH (upH (s.H b) u) (frzA E (upH (s.H b) u) ps rs xs)) ps a 0 with
   | some bh=>fh_ (nodupB (ej_ E ps 0++(q.2++bh.2))) (some (e6_ _ (hap q.1 bh.1)))
   | none=>none
def slotsOf:Nat->List (V1 E)->List (Nat×Option (SV E))|_,[]=>[]|i,x::l=>(i,some (.v x))::slotsOf (i+1) l
noncomputable def evFun(P:Program)(E:TE)(eqs:List (Nat×Nat))(tab:Tab E)(f:Func)(ps:List Pm)(rs:Rs)(pl:Pl)(a:PA E ps):Option (Tp E.S (rs.ts++bo_ ps)) :=
 match f.body,ck_ E ps a 0 with
 | some c,some svs=>fh_ (Nat.ble svs.length f.ntmps)<|evCode P E eqs tab f.ntmps (Tp E.S (rs.ts++bo_ ps)) (retF E P ps rs a f.results.toList) c pl (Tp E.S (rs.ts++bo_ ps)) ⟨λ_=>none,λ_=>none,ar_ E ps⟩
   ⟨slotsOf 0 svs,none,bC_ E ps a 0,none,ar_ E ps⟩ (λex s=>match ex with
    | none=>retF E P ps rs a f.results.toList ⟨λ_=>none,λ_=>none,ar_ E ps⟩ s
    | some _=>none) some
 | _,_=>none
end Rt
namespace Rt
open Go.RowKit
structure Org where (z:Fz) (g:Ga) (lo:Nat)
variable{P:Program}{E:TE}{eqs:List (Nat×Nat)}{tab:Tab E}{N:Nat}{Bs:List Nat}{F0:Org}{w0:World}
def Rel(P:Program)(E:TE)(Bs:List Nat)(F0:Org)(w0:World)(N:Nat)(L:Nat->Option (SV E))(H:Nat->Option (Obj E))(nx:Nat)(a:Act)(w:World):Prop:=∃z g,ER P E z g N a L/\HR P E Bs F0.z.F w0 w z g H/\Fresh g nx/\F0.z.Le z/\F0.g.Le g
theorem ER.del{z:Fz}{g:Ga}{a:Act}{L L':Nat->Option (SV E)}(h:ER P E z g N a L){d:Nat}{v:Value}(j:∀t u,L' t=some u->t≠d/\L t=some u):ER P E z g N (a.put (some d) v) L':=by
 refine⟨by simpa[Act.put]using h.size,h.defers,λt u e => ?_⟩;obtain⟨s,q⟩:=j t u e;obtain⟨f,p,m⟩:=h.get t u q;refine⟨f,?_,m⟩;simp only[Act.put];rw[ji (Ne.symm s)];exact p
theorem after_ok2{b:Ba E}{s s1:St E}{o:Oper}{v:Option (SV E)}{u:Chs E}{a:Act}{w':World}{x:Value}{z:Fz}{g:Ga}(h:s.after N o v u=some s1)(y:ER P E z g N a (s.L b))(G:HR P E Bs F0.z.F w0 w' z g (upH (s.H b) u))(C:Fresh g (nxU s.nx u))(M:∀sv,v=some sv->RV P E z g sv x) :
  (ER P E z g N (a.put o.dst x) (s1.L b)/\HR P E Bs F0.z.F w0 w' z g (s1.H b)/\Fresh g s1.nx/\s1.H b=upH (s.H b) u)/\(∀t,(∀d,o.dst=some d->t≠d)->s1.L b t=s.L b t):=by
 unfold St.after at h;have j:∀(env:List (Nat×Option (SV E))) (nx:Nat),(St.H b { s with env:=env,heap:=u++s.heap,nx:=nx })=upH (s.H b) u:=λenv nx=>by
  unfold St.H;rw[aV_]
 cases D:o.dst with
 | none =>
  rw[D]at h;obtain rfl:=qSj h;refine⟨⟨y,?_,C,j _ _⟩,λt _=>rfl⟩;have:=j s.env (nxU s.nx u);show HR P E Bs F0.z.F w0 w' z g (St.H b _);rw[this];exact G
 | some d =>
  rw[D]at h;simp only at h;split at h
  .rename_i hN;obtain rfl:=qSj h;have q:∀t,t≠d->St.L b { s with env:=(d,v)::s.env,heap:=u++s.heap,nx:=nxU s.nx u } t=s.L b t:=λt f=>by
    unfold St.L;simp only[aN_];split
    .rename_i m;split at m
     .rename_i O;exact absurd (qNb O) f
     .rw[m]
    .rename_i m;split at m
     .cases m
     .rw[m]
   have p:St.L b { s with env:=(d,v)::s.env,heap:=u++s.heap,nx:=nxU s.nx u } d=v:=by
    unfold St.L;simp only[aN_];have:Nat.beq d d=true:=by simp
    rw[this]
   refine⟨⟨?_,?_,C,j _ _⟩,λt f=>q t (f d rfl)⟩
   .cases v with
    | some sv =>
     refine y.put hN (M sv rfl) λt J e => ?_
     by_cases f:t=d
     .subst f;rw[p]at e;exact .inl ⟨rfl,(qSj e).symm⟩
     .rw[q t f]at e;exact .inr ⟨f,e⟩
    | none =>
     refine y.del λt J e => ?_
     by_cases f:t=d
     .subst f;rw[p]at e;cases e
     .rw[q t f]at e;exact⟨f,e⟩
   .have:=j ((d,v)::s.env) (nxU s.nx u);rw[this];exact G
  .cases h
theorem c4_{b:Ba E}{s s1:St E}{o:Oper}{v:Option (SV E)}{u:Chs E}{a:Act}{w':World}{x:Value}{z:Fz}{g:Ga}(h:s.after N o v u=some s1)(y:ER P E z g N a (s.L b))(q:HR P E Bs F0.z.F w0 w' z g (upH (s.H b) u))(f:F0.z.Le z)(j:F0.g.Le g)(p:Fresh g (nxU s.nx u))(m:∀sv,v=some sv->RV P E z g sv x) :
  Rel P E Bs F0 w0 N (s1.L b) (s1.H b) s1.nx (a.put o.dst x) w'/\(∀t,(∀d,o.dst=some d->t≠d)->s1.L b t=s.L b t) :=
 let ⟨⟨J,G,D,_⟩,C⟩:=after_ok2 h y q p m
 ⟨⟨z,g,J,G,D,f,j⟩,C⟩
def gdOK(all:List Oper)(gd:Gd)(L:Nat->Option (SV E)):Prop:=match gd with|none=>True|some (j,w,d)=>(∃oj,all[j]? = some oj/\oj.dst=some d)/\∃c,L d=some (.v (.one (.dt .bool c)))/\c=w
theorem nn_{all:List Oper}{j d:Nat}{oj:Oper}{a:Act}{c:Bool}(m:all[j]? = some oj)(h:oj.dst=some d)(f:a.tmps[d]? = some (.bool c)):yielded all.toArray a.tmps j=some c:=by
 unfold yielded;simp[m,h,f]
theorem rZ_{all:List Oper}{gd:Gd}{L:Nat->Option (SV E)}{o:Oper}{a:Act}{z:Fz}{g:Ga}(h:sY_ o gd=true)(s:gdOK all gd L)(u:ER P E z g N a L):Region.wanted o (yielded all.toArray a.tmps)=true:=by
 unfold sY_ at h;unfold Region.wanted;split at h
 .split at h
  .rename_i q;rw[q]
  .cases h
 .rename_i j w d;split at h
  .cases h
  .rename_i G w' m;simp only[qAn]at h;obtain rfl:=qNb h.1;have f:w=w':=by cases w<;>cases w'<;>simp_all
   subst f;obtain⟨⟨oj,F,D⟩,c,C,rfl⟩:=s;obtain⟨v,y,x⟩:=u.get d _ C;rw[m];have p:=SV.bool_ok rfl x;subst p;simp only;rw[nn_ F D y];simp
structure Walk(P:Program)(E:TE)(ev:Ev E)(N:Nat)(Bs:List Nat)(F0:Org)(w0:World)(all:List Oper) where
 W:(Act->World->Prop)->List Oper->Nat->Act->World->Prop
 nil:∀{J i a w},J a w->W J [] i a w
 app:∀{J1 J l1 l2 i a w},W J1 l1 i a w->(∀a w,J1 a w->W J l2 (i+l1.length) a w)->W J (l1++l2) i a w
 skip:∀{J o l i a w},all[i]? = some o->Region.wanted o (yielded all.toArray a.tmps)=false->W J l (i+1) (a.put o.dst undef) w->W J (o::l) i a w
 step:∀{J o l i a w} {R:Type} {L H nx z g} {k:Option (SV E)->Chs E->Option R} {r:R},all[i]? = some o->Region.wanted o (yielded all.toArray a.tmps)=true ->
  ER P E z g N a L->HR P E Bs F0.z.F w0 w z g H->Fresh g nx->F0.z.Le z->F0.g.Le g->ev L H nx o R k=some r ->
  (∀s u v w' z2 g2,k s u=some r->z.Le z2->g.Le g2->ER P E z2 g2 N a L->HR P E Bs F0.z.F w0 w' z2 g2 (upH H u)->Fresh g2 (nxU nx u)->(∀sv,s=some sv->RV P E z2 g2 sv v)->W J l (i+1) (a.put o.dst v) w')->W J (o::l) i a w
 pick:∀{J o l i a w v},all[i]? = some o->Region.wanted o (yielded all.toArray a.tmps)=true->(∀w,(execOp a.eval o).run P w = .ok (.value v) w)->W J l (i+1) (a.put o.dst v) w->W J (o::l) i a w
theorem r0_{d:Nat}:∀{l body rest:List Oper} {pk:Oper},j2_ d l=some (body,pk,rest)->l=body++pk::rest/\∃x y,pk.op = .pick (.tmp d) x y
 | [],_,_,_,h=>by cases h
 | o :: r,body,rest,pk,h=>by
  have tail:∀{q:List Oper×Oper×List Oper},j2_ d r=some q->(o::q.1,q.2.1,q.2.2)=(body,pk,rest)->o::r=body++pk::rest/\∃x y,pk.op = .pick (.tmp d) x y:=by
   rintro⟨l,p,q⟩ f j;simp only[qG]at j;obtain⟨rfl,rfl,rfl⟩:=j;obtain⟨C,u⟩:=r0_ f;exact⟨by rw[C];rfl,u⟩
  unfold j2_ at h;split at h
  .rename_i D x y m;split at h
   .rename_i s;obtain rfl:=qNb s;simp only[qOi,qG]at h;obtain⟨rfl,rfl,rfl⟩:=h;exact⟨rfl,x,y,m⟩
   .split at h
    .rename_i l p q f;exact tail f (qSj h)
    .cases h
  .split at h
   .rename_i l p q f;exact tail f (qSj h)
   .cases h
theorem groupOf_eq{o:Oper}{idx:Nat}{l body rest:List Oper}{d:Nat}{w:Bool}{pk:Oper}(h:groupOf o idx l=some (d,w,body,pk,rest)):o.dst=some d/\l=body++pk::rest/\∃x y,pk.op = .pick (.tmp d) x y:=by
 unfold groupOf at h;split at h
 .cases h
 .split at h
  .rename_i j w' C u m;split at h
   .split at h
    .rename_i s p q f;simp only[qOi,qG]at h;obtain⟨rfl,rfl,rfl,rfl,rfl⟩:=h;exact⟨m,r0_ f⟩
    .cases h
   .cases h
  .cases h
theorem skip_ok {ev:Ev E} {all:List Oper} (wk:Walk P E ev N Bs F0 w0 all) {idx d:Nat} {wt c:Bool} {J:Act->World->Prop} (hc:c≠wt) {os:Oper} (h1:all[idx]? = some os) (h2:os.dst=some d):∀(l tl:List Oper) (i:Nat) (a:Act) (w:World),all.drop i=l++tl->idx<i->skipB idx d wt l i=true ->
  a.tmps[d]? = some (.bool c)->(∀j,idx<j->j<i->yielded all.toArray a.tmps j=none) ->
  (∀s,s.tmps.size=a.tmps.size->s.defers=a.defers->(∀t,aC_ t (e7_ l)=false->s.tmps[t]? = a.tmps[t]?)->J s w)->wk.W J l i a w
 | [],tl,i,a,w,_,_,_,_,_,hJ=>wk.nil (hJ a rfl rfl λ_ _=>rfl)
 | o :: l,tl,i,a,w,hd,hi,hs,x,q,hJ=>by
  have ho:all[i]? = some o:=by
   have:(all.drop i)[0]? = some o:=by rw[hd];rfl
   rw[zA]at this;simpa using this
  simp only[skipB,qAn]at hs;obtain⟨p,O⟩:=hs;split at p
  .rename_i j w' d' hg m;simp only[qAn,qT,qH]at p;obtain⟨M,G⟩:=p;have Y:d≠d':=dC_ G;have V:Region.wanted o (yielded all.toArray a.tmps)=false:=by
    unfold Region.wanted;rw[hg];simp only;rcases M with⟨y,D⟩|⟨y,D⟩
    .obtain rfl:=qNb y;have F:wt=w':=by cases wt<;>cases w'<;>simp_all
     subst F;rw[nn_ h1 h2 x];cases c<;>cases wt<;>simp_all
    .have ZX:idx<j:=by simpa using y
     have ZY:j<i:=by simpa using D
     rw[q j ZX ZY];rfl
   refine wk.skip ho V ?_;rw[m];refine skip_ok wk hc h1 h2 l tl (i+1) _ w ?_ (by omega) O ?_ (λj ZZ ZW => ?_) λs y D e3=>hJ s ?_ ?_ λt C => ?_
   .have:=qL (List.drop 1) hd;rw[jV]at this;simpa[Nat.add_comm]using this
   .simp only[Act.put];rw[ji (Ne.symm Y)];exact x
   .unfold yielded;by_cases Z:j=i
    .subst Z;simp only[jl,ho,qBs,m,Act.put];rw[Array.getElem?_setIfInBounds];split
     .rename_i h;split at h
      .split at h
       .obtain h:=qSj h;simp[undef]at h
       .cases h
      .rename_i hx;exact absurd rfl hx
     .rfl
    .have f:=q j ZZ (by omega);unfold yielded at f;simp only[jl]at f ⊢;cases U:(all[j]?).bind (·.dst)with
     | none=>rfl
     | some dj =>
      rw[U]at f;simp only[qBs]at f ⊢;simp only[Act.put,Array.getElem?_setIfInBounds];by_cases u:d'=dj
      .rw[qV u];split
       .rename_i h;split at h
        .obtain h:=qSj h;simp[undef]at h
        .cases h
       .rfl
      .rw[qX u];exact f
   .rw[y];simp[Act.put]
   .rw[D];simp[Act.put]
   .simp only[e7_,m,aC_]at C;split at C
    .cases C
    .rename_i hb;rw[e3 t C];simp only[Act.put];rw[ji (Ne.symm (dC_ hb))]
  .cases p
end Rt
end Go
