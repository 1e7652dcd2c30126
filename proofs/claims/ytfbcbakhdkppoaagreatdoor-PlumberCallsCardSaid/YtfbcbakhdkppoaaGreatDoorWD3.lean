/-
 What the statements of this seat hang on,part 3: Rl Rm Rn Rw Ro Rr Dr Rp Rq Sa.
-/
import Derived.Test.YtfbcbakhdkppoaaGreatDoorWD2
namespace Go
namespace Rt
open Go.RowKit
section
variable{P:tT}{E:TE}{z z':Fz}{g g':Ga}{nx:Nat}{w w' w0:tS}{H H':Nat->tO (Obj E)}{Bs:tL Nat}{F0:Nat->Prop}
theorem lg_{I l m:tL Nat}{n:Nat}(h:∀j id,(l++m)[j]? = some id->I[n+j]? = some id):(∀j id,l[j]? = some id->I[n+j]? = some id)/\∀j id,m[j]? = some id->I[n+l.length+j]? = some id:=by
 refine⟨λj id f=>h j id ?_,λj id f => ?_⟩
 .rw[zR (qj.1 f).1];exact f
 .rw[zG];refine h _ id ?_;rw[zZ (by omega)];rw[show l.length+j-l.length=j by omega];exact f
theorem ownC_nil{ts:tL Ty}{h:HL E.S ts}{n:Nat}:bM_ E [] ts h n=hlc E ts h:=by cases ts<;>rfl
theorem takeM_nil{ts:tL Ty}{cs:tL (SC E)}{h:HL E.S ts}(f:cf_ E H ts cs=some h):b9_ E H [] ts cs=some (h,[]):=by
 unfold b9_;rw[f]
theorem takeP_val{px:tV}{j cs:tL (SC E)}{f xs:tL (V1 E)}{p vs:tL tW}(h:iI_ px j=some (cs,f))(s:All2 (RC P E z g) j p)(q:All2 (R1 P E z g) xs vs):∃p,All2 (R1 P E z g) (f++xs) (p++vs)/\p.length=f.length:=by
 unfold iI_ at h;split at h
 .simp only[qOi,qg]at h;obtain⟨rfl,rfl⟩:=h;exact⟨[],q,rfl⟩
 .simp only[qOi,qg]at h;obtain⟨rfl,rfl⟩:=h;cases s with
  | @cons _ u _ _ x _=>exact⟨[u],.cons x q,rfl⟩
 .cases h
theorem dropP_val{px:tV}{p cs:tL (SC E)}{f:tL (V1 E)}{R:V1 E->tW->Prop}{svs:tL (V1 E)}{j vs:tL tW}(h:iI_ px p=some (cs,f))(s:j.length=f.length)(q:All2 R svs (j++vs)):∃svs',dropP px svs=some svs'/\All2 R svs' vs:=by
 unfold iI_ at h;split at h
 .simp only[qOi,qg]at h;obtain⟨rfl,rfl⟩:=h;obtain rfl:j=[]:=zI.1 s;exact⟨svs,rfl,q⟩
 .simp only[qOi,qg]at h;obtain⟨rfl,rfl⟩:=h
  match j,s with
  | [u],_ =>
   cases q with
   | cons y x=>exact⟨_,rfl,x⟩
 .cases h
theorem hidB_val{id o:Nat}{l:tL Nat}(h:hidB (E:=E) [.one (.ptr id o)] l=true):l[0]? = some id:=by
 cases l with
 | nil=>cases h
 | cons i l =>
  simp only[hidB]at h;obtain rfl:=qNb h;rfl
theorem box_val{px:tV}{q cs:tL (SC E)}{h:tL (V1 E)}{I:tL Nat}{p:Nat}{t:Ty}{m:Mk}{d:HL E.S (E.flat t)×tL Nat}{k:Nat}{vs:tL tW}(y:HR P E Bs F0 w0 w z g H)(f:iI_ px q=some (cs,h))(C:∀id o,h=[.one (.ptr id o)]->I[p]? = some id)
  (x:b9_ E H m (E.flat t) cs=some d) (u:∀j id,d.2[j]? = some id->I[k+j]? = some id) (s:All2 (RC P E z g) q vs):All2 (RC P E z (gOf g I)) (ptrC E px p++bM_ E m (E.flat t) d.1 k) vs:=by
 unfold iI_ at f;split at f
 .simp only[qOi,qg]at f;obtain⟨rfl,rfl⟩:=f;exact(kb_ y x u s).1
 .rename_i id cs';simp only[qOi,qg]at f;obtain⟨rfl,rfl⟩:=f;cases s with
  | cons J G =>
   obtain⟨l,F,D⟩:=J;refine .cons ⟨l,?_,D⟩ (kb_ y x u G).1;unfold gOf;rw[C id 0 rfl];exact F
 .cases f
theorem takeA_ok {tab:Tab E} (ht:tab.OK P E) (hH:HR P E Bs F0 w0 w z g H) {I:tL Nat}:∀{ps:tL Pm} {xs:tL (V1 E)} {q:PA E ps×tL Nat} {vs:tL tW} {n:Nat},takeA E tab H ps xs=some q->(∀j id,q.2[j]? = some id->I[n+j]? = some id) ->
  All2 (R1 P E z g) xs vs->(∃svs,b0_ E ps q.1 n=some svs/\All2 (R1 P E z (gOf g I)) svs vs)/\(∀i o,(i,o)∈bn_ E ps q.1 n->∃id o1 o2,I[i]? = some id/\H id=some o1/\o=some o2/\Cor E H I o1 o2)/\q.2.length=ao_ E ps:=by
 intro ps
 induction ps with
 | nil =>
  intro xs q vs n h U hv;cases xs with
  | nil =>
   simp only[takeA,qOi]at h;subst h;cases hv
   exact⟨⟨[],rfl,.nil⟩,λi o s=>by simp[bn_]at s,rfl⟩
  | cons x xs=>simp[takeA]at h
 | cons p ps ih =>
  intro xs q vs n h U hv;cases xs with
  | nil=>cases p<;>simp[takeA]at h
  | cons x xs =>
   cases hv with
   | @cons _ v _ vs' V h2 =>
    cases p with
    | d t =>
     simp only[takeA]at h;split at h
     .rename_i d Z Y G;obtain rfl:=qSj h;obtain⟨⟨svs,F,M⟩,D,J⟩:=ih G U h2;obtain⟨y,e5,e6⟩:=takeD_ok hH Y V (gOf g I);exact⟨⟨y::svs,by simp only[b0_,F,e5],.cons e6 M⟩,D,J⟩
     .cases h
    | l t m =>
     simp only[takeA]at h;split at h
     .rename_i d Z hf Y G;obtain rfl:=qSj h;obtain⟨i1,i2⟩:=lg_ U;obtain⟨e7,e8⟩:=lt_ Y i1;obtain⟨⟨svs,F,M⟩,D,J⟩:=ih G i2 h2;rw[e8]at F D;have O:∀vs,All2 (RC P E z g) x.cs vs->_:=λvs C=>kb_ hH Y i1 C
      obtain⟨y,e5,e6⟩:=asV_ok (z':=z) (g':=gOf g I) (l:=bM_ E m (E.flat t) d.1 n) hf (by
       have:∃vs,All2 (RC P E z g) x.cs vs:=by
        cases x with
        | one c=>exact⟨[v],.cons V .nil⟩
        | agg l=>obtain⟨vs,_,h⟩:=V;exact⟨vs,h⟩
       obtain⟨vs,C⟩:=this;rw[(O vs C).2.1,(O vs C).2.2]) V λvs C=>(O vs C).1
      refine⟨⟨y::svs,by simp only[b0_,F,E.fl_ufl,e5],.cons e6 M⟩,λi o s => ?_,by simp only[qLa,e8,J];rfl⟩;simp only[bn_,qF,E.fl_ufl]at s;rcases s with s|s
      .exact e7 i o s
      .exact D i o s
     .cases h
    | g t m =>
     simp only[takeA]at h;split at h
     .rename_i d Z hf Y G;obtain rfl:=qSj h;obtain⟨i1,i2⟩:=lg_ U;obtain⟨e7,e8⟩:=lt_ Y i1;obtain⟨⟨svs,F,M⟩,D,J⟩:=ih G i2 h2;rw[e8]at F D;have O:∀vs,All2 (RC P E z g) x.cs vs->_:=λvs C=>kb_ hH Y i1 C
      obtain⟨y,e5,e6⟩:=asV_ok (z':=z) (g':=gOf g I) (l:=bM_ E m (E.flat t) d.1 n) hf (by
       have:∃vs,All2 (RC P E z g) x.cs vs:=by
        cases x with
        | one c=>exact⟨[v],.cons V .nil⟩
        | agg l=>obtain⟨vs,_,h⟩:=V;exact⟨vs,h⟩
       obtain⟨vs,C⟩:=this;rw[(O vs C).2.1,(O vs C).2.2]) V λvs C=>(O vs C).1
      refine⟨⟨y::svs,by simp only[b0_,F,E.fl_ufl,e5],.cons e6 M⟩,λi o s => ?_,by simp only[qLa,e8,J];rfl⟩;simp only[bn_,qF,E.fl_ufl]at s;rcases s with s|s
      .exact e7 i o s
      .exact D i o s
     .cases h
    | b T t =>
     cases x with
     | agg l=>simp[takeA]at h
     | one c =>
     cases c with
     | ptr id off =>
      cases off with
      | succ off=>simp[takeA]at h
      | zero =>
      simp only[takeA]at h;split at h
      .rename_i T' cs Z hi G;split at h
       .rename_i Y hb hh;obtain rfl:=qSj h;obtain rfl:=qNb hb;obtain⟨⟨svs,F,M⟩,D,J⟩:=ih (n:=n+1) G (λj id' hj=>by
         have:=U (j+1) id' (by simpa using hj)
         rwa [show n+1+j=n+(j+1)by omega]) h2
        have h0:I[n]? = some id:=by simpa using U 0 id (by simp)
        obtain⟨l,h6,h7⟩:=V;refine⟨⟨.one (.ptr n 0)::svs,by simp only[b0_,F],.cons ⟨l,by unfold gOf;rw[h0];exact h6,h7⟩ M⟩,λi o s => ?_,by simp only[qLc,J,ao_];omega⟩;simp only[bn_,qD,qg]at s;rcases s with⟨rfl,rfl⟩|s
        .exact⟨id,_,_,h0,hi,rfl,false,_,[],0,t,[],(Y,[]),0,rfl,(λ_ _ e=>nomatch e),takeM_nil hh,by rw[ownC_nil];unfold TE.cells;rw[E.fl_ufl];rfl,λj id' hj=>by simp at hj⟩
        .exact D i o s
       .cases h
      .cases h
     | _=>simp[takeA]at h
    | bm T t m px =>
     cases x with
     | agg l=>simp[takeA]at h
     | one c =>
     cases c with
     | ptr id off =>
      cases off with
      | succ off=>simp[takeA]at h
      | zero =>
      simp only[takeA]at h;split at h
      .rename_i T' ZQ hi;split at h
       .rename_i cs ZY hP;split at h
        .rename_i Z G;split at h
         .rename_i d hb Y;obtain rfl:=qSj h;simp only[qAn]at hb;obtain⟨hb,ZX⟩:=hb;obtain rfl:=qNb hb;have ZU:∀j id',(d.2++Z.2)[j]? = some id'->I[n+1+j]? = some id':=λj id' hj=>by
           have:=U (j+1) id' (by simpa using hj)
           rwa [show n+1+j=n+(j+1)by omega]
          obtain⟨i1,i2⟩:=lg_ ZU;obtain⟨e7,e8⟩:=lt_ (n:=n+1) Y i1;obtain⟨ZR,h3,h4⟩:∃us,All2 (R1 P E z g) (ZY++xs) (us++vs')/\us.length=ZY.length:=by
           obtain⟨lb,vsb,_,_,ZV⟩:=hH.hold _ _ hi;exact takeP_val hP ZV h2
          obtain⟨⟨svs,F,M⟩,D,J⟩:=ih G i2 h3;rw[e8]at F D;have h0:I[n]? = some id:=by simpa using U 0 id (by simp)
          obtain⟨l,h6,h7⟩:=V;obtain⟨svs',e5,e6⟩:=dropP_val hP h4 M;refine⟨⟨.one (.ptr n 0)::svs',by simp only[b0_,F,e5],.cons ⟨l,by unfold gOf;rw[h0];exact h6,h7⟩ e6⟩,λi o s => ?_,by simp only[qLc,qLa,e8,J,ao_];omega⟩;simp only[bn_,qD,qF,qg,E.fl_ufl]at s;rcases s with⟨rfl,rfl⟩|s|s
          .exact⟨id,_,_,h0,hi,rfl,_,cs,ZY,_,t,m,d,_,hP,(λZW o2 e=>by
            subst e;rw[e8]at i2;exact i2 0 ZW (hidB_val ZX)),Y,rfl,i1⟩
          .exact e7 i o s
          .exact D i o s
         .cases h
        .cases h
       .cases h
      .cases h
     | _=>simp[takeA]at h
    | mp T k v =>
     cases x with
     | agg l=>simp[takeA]at h
     | one c =>
     cases c with
     | mp id =>
      simp only[takeA]at h;split at h
      .rename_i T' k' v' ks vs foc Z hi G;split at h
       .rename_i ht;obtain⟨rfl,rfl⟩:=ht;split at h
        .rename_i hb;obtain rfl:=qSj h;obtain rfl:=qNb hb;obtain⟨⟨svs,F,M⟩,D,J⟩:=ih (n:=n+1) G (λj id' hj=>by
          have:=U (j+1) id' (by simpa using hj)
          rwa [show n+1+j=n+(j+1)by omega]) h2
         have h0:I[n]? = some id:=by simpa using U 0 id (by simp)
         obtain⟨l,h6,h7⟩:=V;refine⟨⟨.one (.mp n)::svs,by simp only[b0_,F],.cons ⟨l,by unfold gOf;rw[h0];exact h6,h7⟩ M⟩,λi o s => ?_,by simp only[qLc,J,ao_];omega⟩;simp only[bn_,qD,qg]at s;rcases s with⟨rfl,rfl⟩|s
         .exact⟨id,_,_,h0,hi,rfl,rfl⟩
         .exact D i o s
        .cases h
       .cases h
      .cases h
     | _=>simp[takeA]at h
    | p t =>
     cases x with
     | agg l=>simp[takeA]at h
     | one c =>
     cases c with
     | elf t' x' off =>
      cases off with
      | succ off=>simp[takeA]at h
      | zero =>
      simp only[takeA]at h;split at h
      .rename_i ZZ;subst ZZ;split at h
       .rename_i Z G;obtain rfl:=qSj h;obtain⟨⟨svs,F,M⟩,D,J⟩:=ih G U h2;exact⟨⟨.one (.elf t' x' 0)::svs,by simp only[b0_,F],.cons V M⟩,D,J⟩
       .cases h
      .cases h
     | ptr id off =>
      cases off with
      | succ off=>simp[takeA]at h
      | zero =>
      simp only[takeA]at h;split at h
      .rename_i t' x' hi;split at h
       .rename_i ZZ;subst ZZ;split at h
        .rename_i Z G;obtain rfl:=qSj h;obtain⟨⟨svs,F,M⟩,D,J⟩:=ih G U h2;obtain⟨l,h7,rfl⟩:=V;obtain⟨l',r,h8,h9,ZS,ZT⟩:=hH.hold _ _ hi;rw[h7]at h8;obtain rfl:=qSj h8;exact⟨⟨.one (.elf t' x' 0)::svs,by simp only[b0_,F],.cons ⟨l.b,0,r,rfl,h9,ZS,λj u hj=>by rw[qh];exact ZT j u hj⟩ M⟩,D,J⟩
        .cases h
       .cases h
      .cases h
     | _=>simp[takeA]at h
    | f1 a r =>
     cases x with
     | agg l=>simp[takeA]at h
     | one c =>
      simp only[takeA]at h;split at h
      .rename_i f Z hf G;obtain rfl:=qSj h;obtain⟨⟨svs,F,M⟩,D,J⟩:=ih G U h2;exact⟨⟨.one (.fn1 a r f)::svs,by simp only[b0_,F],.cons (takeF1_ok ht hH hf V) M⟩,D,J⟩
      .cases h
    | f2 a c r =>
     cases x with
     | agg l=>simp[takeA]at h
     | one c =>
      simp only[takeA]at h;split at h
      .rename_i f Z hf G;obtain rfl:=qSj h;obtain⟨⟨svs,F,M⟩,D,J⟩:=ih G U h2;exact⟨⟨.one (.fn2 a _ r f)::svs,by simp only[b0_,F],.cons (takeF2_ok ht hH hf V) M⟩,D,J⟩
      .cases h
theorem iq_{i:Nat}{o:Obj E}:∀{l:Chs E},upH (λ_=>none) l i=some o->(i,some o)∈l
 | [],h=>by cases h
 | (j,p)::l,h=>by
  simp only[upH]at h;split at h
  .rename_i f;obtain rfl:=qNb f;subst h;exact qT ..
  .exact qG _ (iq_ h)
def blk(H:Nat->tO (Obj E))(g:Ga)(id:Nat):tL Nat:=match H id,g id with
 | some (.row ..),some l=>match l.A with
  | some a=>[a.block]
  | none=>[]
 | some (.box ..),some l=>[l.b]
 | some (.map ..),some l=>[l.b]
 | _,_=>[]
theorem mem_blk{id k:Nat}:k∈blk H g id↔∃o,H id=some o/\fpO g id o k:=by
 unfold blk;cases hi:H id with
 | none=>simp
 | some o =>
  cases f:g id with
  | none=>cases o<;>simp[fpO,f]
  | some l =>
   cases o with
   | box T cs=>simp[fpO,f]
   | row e t xs foc =>
    cases h:l.A with
    | none=>simp[fpO,f,h]
    | some a=>simp[fpO,f,h]
   | fr t xs=>simp[fpO]
   | fb t x=>simp[fpO]
   | map T k v j vs foc=>simp[fpO,f]
theorem oB_{I:tL Nat}(h:nodupB I=true):∀{i j id:Nat},I[i]? = some id->I[j]? = some id->i=j:=by
 induction I with
 | nil=>intro i j id h;simp at h
 | cons x I s =>
  intro i j id hi f;simp only[nodupB,qAn,qo]at h;have p:∀k,I[k]? = some x->False:=λk u=>by
   have:=qw u;have q:=h.1;simp at q;exact q this
  cases i with
  | zero =>
   cases j with
   | zero=>rfl
   | succ j=>simp at hi f;subst hi;exact(p j f).elim
  | succ i =>
   cases j with
   | zero=>simp at hi f;subst f;exact(p i hi).elim
   | succ j=>simp at hi f;rw[s h.2 hi f]
theorem Cor.obj{I:tL Nat}{i id:Nat}{C o2:Obj E}(V:HR P E Bs F0 w0 w z g H)(j:Cor E H I C o2)(hi:I[i]? = some id)(h:ObjR P E z g w id C):ObjR P E z (gOf g I) w i o2/\∀k,fpO (gOf g I) i o2 k↔fpO g id C k:=by
 have f:gOf g I i=g id:=by unfold gOf;rw[hi]
 cases C with
 | row e t xs foc =>
  simp only[Cor]at j;subst j;obtain⟨l,rows,y,G,D,u,s,Z,Y,_⟩:=h;refine⟨⟨l,rows,by rw[f];exact y,G,D,u,s,Z,Y,λp q=>nomatch q⟩,λk => ?_⟩;simp only[fpO,f]
 | box T cs =>
  obtain⟨px,cs',M,p,t,m,d,k,U,q,O,rfl,J⟩:=j;obtain⟨l,vs,y,u,s⟩:=h;exact⟨⟨l,vs,by rw[f];exact y,u,box_val V U q O J s⟩,λk=>by simp only[fpO,f]⟩
 | fr t xs=>exact j.elim
 | fb t x=>exact j.elim
 | map T k v F vs foc =>
  obtain rfl:o2 = .map T k v F vs []:=j;obtain⟨l,es,c,y,u,s,_⟩:=h;exact⟨⟨l,es,c,by rw[f];exact y,u,s,λp q=>nomatch q⟩,λk=>by simp only[fpO,f]⟩
theorem HR.entry(y:HR P E Bs F0 w0 w z g H){I:tL Nat}(Y:nodupB I=true){l:Chs E}(Z:∀i o,(i,o)∈l->∃id f o2,I[i]? = some id/\H id=some f/\o=some o2/\Cor E H I f o2) :
  HR P E (I.map (blk H g)).flatten z.F w w z (gOf g I) (upH (λ_=>none) l):=by
 have key:∀i o,upH (λ_=>none) l i=some o->∃id f,I[i]? = some id/\H id=some f/\ObjR P E z (gOf g I) w i o/\∀k,fpO (gOf g I) i o k↔fpO g id f k:=λi o h=>by
  obtain⟨id,f,o2,x,q,h3,h4⟩:=Z i _ (iq_ h);obtain rfl:=qSj h3;obtain⟨M,u⟩:=h4.obj y x (y.hold _ _ q);exact⟨id,f,x,q,M,u⟩
 refine⟨Chg.of_below (Below.refl _ _),λi o h => ?_,λi o k h s => ?_,λi j o p k G h h' s D => ?_,y.fz,λk s => .inl s,λi o k h s V => ?_,y.gl⟩
 .obtain⟨_,_,_,_,M,_⟩:=key i o h;exact M
 .obtain⟨id,f,x,q,_,u⟩:=key i o h
  right
  refine jL.2 ⟨blk H g id,jJ.2 ⟨id,qw x,rfl⟩,?_⟩;exact mem_blk.2 ⟨f,q,(u k).1 s⟩
 .obtain⟨id,f,x,q,_,u⟩:=key i o h;obtain⟨id',C,U,O,_,J⟩:=key j p h';refine y.apart id id' f C k (λe => ?_) q O ((u k).1 s) ((J k).1 D);subst e;exact G (oB_ Y x U)
 .obtain⟨id,f,x,q,_,u⟩:=key i o h;exact y.fza id f k q ((u k).1 s) V
theorem jf_{I:tL Nat}{k:Nat}(h:k∈(I.map (blk H g)).flatten):∃(i id:Nat) (o:Obj E),I[i]? = some id/\H id=some o/\fpO g id o k:=by
 obtain⟨l,j,p⟩:=jL.1 h;obtain⟨id,f,rfl⟩:=jJ.1 j;obtain⟨i,hi⟩:=jW.1 f;obtain⟨o,s,q⟩:=mem_blk.1 p;exact⟨i,id,o,hi,s,q⟩
theorem HR.back2{zb z2:Fz}{g1 g2:Ga}{Hb H1 H2:Nat->tO (Obj E)}{O:tL Nat}{Fe:Nat->Prop}{I:tL Nat}{s:Nat->Nat->Prop}(y:HR P E Bs F0 w0 w zb g Hb)(hx:HR P E O Fe w w' z' g1 H1)
  (hB:∀k,k∈O->∃id o,id∈I/\Hb id=some o/\fpO g id o k) (hg:g.Le g2)
  (hH:∀j o,H2 j=some o->(∃i D,s j i/\H1 i=some D/\(ObjR P E z2 g2 w' j o/\∀k,fpO g2 j o k↔fpO g1 i D k))\/(j∉I/\Hb j=some o)) (hs:∀j U i,s j i->s U i->j=U)
  (hz:zb.Le z2) (ZU:z2.In w') (Z:∀k,z2.F k->zb.F k\/((w.heap.size<=k\/k∈O)/\z'.F k)):HR P E Bs F0 w0 w' z2 g2 H2:=by
 have V:∀j o k,Hb j=some o->fpO g j o k->k<w.heap.size:=λj o k h q=>(y.hold j o h).lt q
 have J:∀j o k,j∉I->Hb j=some o->fpO g j o k->k∉O:=λj o k hj h q ZZ=>by
  obtain⟨id,o',x,f,u⟩:=hB k ZZ;exact y.apart j id o o' k (λe=>hj (e▸x)) h f q u
 have M:∀j o k,Hb j=some o->(fpO g2 j o k↔fpO g j o k):=λj o k h=>hj_ (y.hold j o h).loc hg
 have new:∀i D k,H1 i=some D->fpO g1 i D k->w.heap.size<=k\/k∈O:=λi D k f u=>hx.own i D k f u
 refine⟨⟨y.chg.grow.trans hx.chg.grow,λk q hn => ?_⟩,λj o h => ?_,λj o k h q => ?_,λj U o p k hj h h' q G => ?_,ZU,λk q => ?_,λj o k h q ZW => ?_,y.gl.le hz⟩
 .rw[hx.chg.block k (zf q y.size) λZZ => ?_]
  .exact y.chg.block k q hn
  .obtain⟨id,o',x,f,u⟩:=hB k ZZ;rcases y.own id o' k f u with h4|h4
   .omega
   .exact hn h4
 .rcases hH j o h with⟨i,D,x,f,Y⟩|⟨x,f⟩
  .exact Y.1
  .exact(y.hold j o f).keep hz hg λk q=>hx.chg.block k (V j o k f q) (J j o k x f q)
 .rcases hH j o h with⟨i,D,x,f,Y⟩|⟨x,f⟩
  .rcases new i D k f ((Y.2 k).1 q)with u|u
   .exact .inl (zQ y.size u)
   .obtain⟨id,o',h4,h5,h6⟩:=hB k u;exact y.own id o' k h5 h6
  .exact y.own j o k f ((M j o k f).1 q)
 .rcases hH j o h with⟨i,D,x,f,Y⟩|⟨x,f⟩<;>rcases hH U p h' with⟨i',ZX,ZY,C,ZV⟩|⟨ZY,C⟩
  .refine hx.apart i i' D ZX k (λe=>hj (hs j U i x (e▸ZY))) f C ((Y.2 k).1 q) ((ZV.2 k).1 G)
  .have G:=(M U p k C).1 G;rcases new i D k f ((Y.2 k).1 q)with u|u
   .have:=V U p k C G;omega
   .exact J U p k ZY C G u
  .have q:=(M j o k f).1 q;rcases new i' ZX k C ((ZV.2 k).1 G)with u|u
   .have:=V j o k f q;omega
   .exact J j o k x f q u
  .exact y.apart j U o p k hj f C ((M j o k f).1 q) ((M U p k C).1 G)
 .rcases Z k q with x|⟨x|x,_⟩
  .exact y.fz0 k x
  .exact .inr (.inl (zQ y.size x))
  .obtain⟨id,o',_,h5,h6⟩:=hB k x;exact .inr (y.own id o' k h5 h6)
 .rcases hH j o h with⟨i,D,x,f,Y⟩|⟨x,f⟩
  .rcases Z k ZW with u|⟨_,u⟩
   .rcases new i D k f ((Y.2 k).1 q)with h4|h4
    .have:=(y.fz k u).1;omega
    .obtain⟨id,o',_,h6,h7⟩:=hB k h4;exact y.fza id o' k h6 h7 u
   .exact hx.fza i D k f ((Y.2 k).1 q) u
  .have q:=(M j o k f).1 q;rcases Z k ZW with u|⟨u|u,_⟩
   .exact y.fza j o k f q u
   .have:=V j o k f q;omega
   .exact J j o k x f q u
theorem HR.back{zb z2:Fz}{g1 p:Ga}{Hb x G:Nat->tO (Obj E)}{f:tL Nat}{Fe:Nat->Prop}{I:tL Nat}{s:Nat->Nat->Prop}(V:HR P E Bs F0 w0 w zb g Hb)(M:HR P E f Fe w w' z' g1 x)
  (hB:∀k,k∈f->∃id o,id∈I/\Hb id=some o/\fpO g id o k) (U:g.Le p)
  (Z:∀j o,G j=some o->(∃i,s j i/\x i=some o)\/(j∉I/\Hb j=some o)) (O:∀j y i,s j i->s y i->j=y)
  (Y:∀j i o,s j i->x i=some o->ObjR P E z2 p w' j o/\∀k,fpO p j o k↔fpO g1 i o k)
  (J:zb.Le z2) (u:z2.In w') (q:∀k,z2.F k->zb.F k\/((w.heap.size<=k\/k∈f)/\z'.F k)):HR P E Bs F0 w0 w' z2 p G :=
 V.back2 M hB U (λj o h=>(Z j o h).imp (λ⟨i,D,C⟩=>⟨i,o,D,C,Y j i o D C⟩) id) O J u q
def gG_ (E:TE) (H:Nat->tO (Obj E)):tL Nat->Chs E
 | []=>[]
 | id::ids=>(match upH H (gG_ E H ids) id with
  | some (.box T cs)=>match E.ty T with
   | some t=>match cf_ E (upH H (gG_ E H ids)) (E.flat t) cs with
    | some h=>[(id,some (.fb t (E.ufl t h)))]
    | none=>[]
   | none=>[]
  | _=>[])++gG_ E H ids
theorem nn_(h:HR P E Bs F0 w0 w z g H):∀(l:tL Nat),∃z',z.Le z'/\HR P E Bs F0 w0 w z' g (upH H (gG_ E H l))
 | []=>⟨z,Fz.Le.refl z,h⟩
 | id :: l=>by
  obtain⟨s,p,f⟩:=nn_ h l;unfold gG_;split
  .rename_i T cs hi;split
   .rename_i t F;split
    .rename_i D C;refine⟨_,p.trans (f.fz.grow_le _),f.freezeBox (t:=t) (x:=E.ufl t D) hi (λvs u => ?_) λj q y => ?_⟩
     .rw[E.fl_ufl];exact el_ f C u
     .rw[←aT_]at y;exact bi_ y
    .exact⟨s,p,f⟩
   .exact⟨s,p,f⟩
  .exact⟨s,p,f⟩
def unM:Mk->tL (SC E)->tL (SC E)|some _::ms,_::cs=>unM ms cs|none::ms,c::cs=>c::unM ms cs | [],cs=>cs|_,[]=>[]
def frzF(E:TE)(H:Nat->tO (Obj E)):tL (SC E)->Chs E | [.clo _ ids]=>gG_ E H ids | [.ptr id 0]=>gG_ E H [id]|_=>[]
def frzB(E:TE)(H:Nat->tO (Obj E))(m:Mk):tL (SC E)->Chs E
 | [.ptr id 0]=>match H id with
  | some (.box _ (.ptr _ _::cs))=>dU_ H (unM m cs)
  | some (.box _ cs)=>dU_ H (unM m cs)
  | _=>[]
 | _=>[]
def frzQ(E:TE)(H:Nat->tO (Obj E)):Pm->V1 E->Chs E | .d _,x=>dU_ H x.cs | .l _ m,x=>dU_ H (unM m x.cs) | .g _ m,x=>dU_ H (unM m x.cs) | .b _ _,_=>[] | .bm _ _ m _,x=>frzB E H m x.cs | .mp _ _ _,_=>[]|_,x=>frzF E H x.cs
def hidX(H:Nat->tO (Obj E))(px:tV)(id:Nat):tL (V1 E):=match px,H id with|true,some (.box _ (.ptr f 0::_))=>[.one (.ptr f 0)]|_,_=>[]
def hidP(H:Nat->tO (Obj E))(p:Pm)(ps:tL Pm)(x:V1 E):tL (V1 E):=match p,x with | .bm _ _ _ px,.one (.ptr id 0)=>hidX H (pxB px ps) id|_,_=>[]
def frzP(E:TE)(H:Nat->tO (Obj E)):tL Pm->tL (V1 E)->Chs E|p::ps,x::xs=>frzQ E (upH H (frzP E H ps (hidP H p ps x++xs))) p x++frzP E H ps (hidP H p ps x++xs)|_,_=>[]
theorem frzF_ok(h:HR P E Bs F0 w0 w z g H)(l:tL (SC E)):∃z',z.Le z'/\HR P E Bs F0 w0 w z' g (upH H (frzF E H l)):=by
 unfold frzF;split
 .exact nn_ h _
 .exact nn_ h _
 .exact⟨z,Fz.Le.refl z,h⟩
theorem frzB_ok(h:HR P E Bs F0 w0 w z g H)(m:Mk)(l:tL (SC E)):∃z',z.Le z'/\HR P E Bs F0 w0 w z' g (upH H (frzB E H m l)):=by
 unfold frzB;split
 .split
  .exact dB_ h _
  .exact dB_ h _
  .exact⟨z,Fz.Le.refl z,h⟩
 .exact⟨z,Fz.Le.refl z,h⟩
theorem frzQ_ok(h:HR P E Bs F0 w0 w z g H)(p:Pm)(x:V1 E):∃z',z.Le z'/\HR P E Bs F0 w0 w z' g (upH H (frzQ E H p x)):=by
 cases p with
 | d t=>exact dB_ h _
 | l t m=>exact dB_ h _
 | g t m=>exact dB_ h _
 | b T t=>exact⟨z,Fz.Le.refl z,h⟩
 | bm T t m px=>exact frzB_ok h _ _
 | mp T k v=>exact⟨z,Fz.Le.refl z,h⟩
 | p t=>exact frzF_ok h _
 | f1 a r=>exact frzF_ok h _
 | f2 a b r=>exact frzF_ok h _
theorem frzP_ok(h:HR P E Bs F0 w0 w z g H):∀(ps:tL Pm) (xs:tL (V1 E)),∃z',z.Le z'/\HR P E Bs F0 w0 w z' g (upH H (frzP E H ps xs))
 | [],_=>⟨z,Fz.Le.refl z,h⟩
 | _::_,[]=>⟨z,Fz.Le.refl z,h⟩
 | p::ps,x::xs=>by
  obtain⟨u,s,q⟩:=frzP_ok h ps (hidP H p ps x++xs);obtain⟨z2,j,f⟩:=frzQ_ok q p x;rw[aT_]at f;exact⟨z2,s.trans j,f⟩
def OnlyF(u:Chs E):Prop:=∀i o,(i,o)∈u->(∃t xs,o=some (.fr t xs))\/∃t x,o=some (.fb t x)
theorem OnlyF.append{u v:Chs E}(h:OnlyF u)(j:OnlyF v):OnlyF (u++v):=λi o f=>by
 rcases qF.1 f with f|f
 .exact h i o f
 .exact j i o f
theorem frz1_only(H:Nat->tO (Obj E))(c:SC E):OnlyF (frz1 H c):=by
 unfold frz1;split
 .split
  .intro i o f;simp only[qH,qg]at f;exact .inl ⟨_,_,f.2⟩
  .intro i o f;cases f
 .split
  .intro i o f;simp only[qH,qg]at f;exact .inl ⟨_,_,f.2⟩
  .intro i o f;cases f
 .intro i o f;cases f
theorem ir_(H:Nat->tO (Obj E)):∀(l:tL (SC E)),OnlyF (dU_ H l)
 | []=>λi o f=>by cases f
 | c::l=>(frz1_only _ c).append (ir_ H l)
theorem lv_(H:Nat->tO (Obj E)):∀(l:tL Nat),OnlyF (gG_ E H l)
 | []=>λi o f=>by cases f
 | id::l=>by
  unfold gG_;refine OnlyF.append ?_ (lv_ H l);split
  .split
   .split
    .intro i o f;simp only[qH,qg]at f;exact .inr ⟨_,_,f.2⟩
    .intro i o f;cases f
   .intro i o f;cases f
  .intro i o f;cases f
theorem oC_(H:Nat->tO (Obj E))(l:tL (SC E)):OnlyF (frzF E H l):=by
 unfold frzF;split
 .exact lv_ H _
 .exact lv_ H _
 .intro i o f;cases f
theorem frzB_only(H:Nat->tO (Obj E))(m:Mk)(l:tL (SC E)):OnlyF (frzB E H m l):=by
 unfold frzB;split
 .split
  .exact ir_ H _
  .exact ir_ H _
  .intro i o f;cases f
 .intro i o f;cases f
theorem frzP_only(H:Nat->tO (Obj E)):∀(ps:tL Pm) (xs:tL (V1 E)),OnlyF (frzP E H ps xs)
 | [],_=>λi o f=>by simp[frzP]at f
 | _::_,[]=>λi o f=>by simp[frzP]at f
 | p::ps,x::xs=>by
  refine OnlyF.append ?_ (frzP_only H ps (hidP H p ps x++xs));cases p with
  | d t=>exact ir_ _ _
  | l t m=>exact ir_ _ _
  | g t m=>exact ir_ _ _
  | b T t=>intro i o f;cases f
  | bm T t m px=>exact frzB_only _ _ _
  | mp T k v=>intro i o f;cases f
  | p t=>exact oC_ _ _
  | f1 a r=>exact oC_ _ _
  | f2 a b r=>exact oC_ _ _
theorem upH_or{i:Nat}{o:Obj E}:∀{u:Chs E},upH H u i=some o->H i=some o\/(i,some o)∈u
 | [],h => .inl h
 | (j,p)::u,h=>by
  simp only[upH]at h;split at h
  .rename_i f;obtain rfl:=qNb f;subst h;exact .inr (qT ..)
  .rcases upH_or h with h|h
   .exact .inl h
   .exact .inr (qG _ h)
theorem RD.flat:∀{ts:tL Ty} {h:HL E.S ts} {vs:tL tW},ts.all Ty.flatB=true->RD E z ts h vs->RD E z' ts h vs
 | [],h,vs,_,r=>by rw[r.nil_inv];exact .nil
 | .int k::ts,h,vs,f,r=>by
  obtain⟨vs',rfl,r'⟩:=r.int_inv;exact .int (RD.flat (by simpa[Ty.flatB]using f) r')
 | .bool::ts,h,vs,f,r=>by
  obtain⟨vs',rfl,r'⟩:=r.bool_inv;exact .bool (RD.flat (by simpa[Ty.flatB]using f) r')
 | .str::ts,h,vs,f,r=>by
  obtain⟨vs',rfl,r'⟩:=r.str_inv;exact .str (RD.flat (by simpa[Ty.flatB]using f) r')
 | .sl e::ts,h,vs,f,r=>by simp[Ty.flatB]at f
 | .st n::ts,h,vs,f,r=>by simp[Ty.flatB]at f
def flatT(E:TE)(t:Ty):tV:=(E.flat t).all Ty.flatB
theorem Rows.flat{t:Ty}{xs:tL (Den E.S t)}{rows:tL (tL tW)}(f:flatT E t=true)(h:Rows E z t xs rows):Rows E z' t xs rows:=λi x r p j=>(h i x r p j).flat f
def gH_(E:TE):Mk->tL Ty->tV|some _::ms,.sl t::ts=>flatT E t&&gH_ E ms ts|none::ms,t::ts=>t.flatB&&gH_ E ms ts|_,ts=>ts.all Ty.flatB
def kG_(E:TE):Mk->tL Ty->tV|some _::ms,.sl t::ts=>flatT E t&&kG_ E ms ts|none::ms,_::ts=>kG_ E ms ts|_,_=>true
def iJ_(E:TE):Rs->tV | []=>true|p::rs=>gH_ E p.2 (E.flat p.1)&&iJ_ E rs
def fc_(E:TE):tL Pm->tV | []=>true | .l t m::ps=>kG_ E m (E.flat t)&&fc_ E ps | .g _ _::ps=>fc_ E ps | .b _ t::ps=>flatT E t&&fc_ E ps | .bm _ t m _::ps=>gH_ E m (E.flat t)&&fc_ E ps|_::ps=>fc_ E ps
theorem flatM_O:∀{m:Mk} {ts:tL Ty},gH_ E m ts=true->kG_ E m ts=true:=by
 intro m
 induction m with
 | nil=>intro ts _;cases ts<;>rfl
 | cons a m f =>
  intro ts h;cases ts with
  | nil=>cases a<;>rfl
  | cons t ts =>
   cases a with
   | none=>simp only[gH_,qAn]at h;simp only[kG_];exact f h.2
   | some e =>
    cases t with
    | sl t=>simp only[gH_,qAn]at h;simp only[kG_,qAn];exact⟨h.1,f h.2⟩
    | _=>rfl
def FlatC:SC E->Prop | .dt t _=>t.flatB=true | .own _=>True | .ptr _ _=>True|_=>False
def jg_(E:TE):Obj E->Prop | .row _ t _ foc=>flatT E t=true/\foc=[] | .map _ _ _ _ _ foc=>foc=[] | .box _ cs=>∀c∈cs,FlatC c|_=>False
theorem np_:∀{ts:tL Ty} {h:HL E.S ts},ts.all Ty.flatB=true->∀c∈hlc E ts h,FlatC c
 | [],_,_,_,f=>by cases f
 | t::ts,h,j,c,f=>by
  simp only[jR,qAn]at j;simp only[hlc]at f;rcases qD.1 f with rfl|f
  .exact j.1
  .exact np_ j.2 c f
theorem ownC_flat{m:Mk}:∀{ts:tL Ty} {h:HL E.S ts} {n:Nat},gH_ E m ts=true->∀c∈bM_ E m ts h n,FlatC c:=by
 induction m with
 | nil=>intro ts h n j;cases ts<;>exact np_ j
 | cons a m p =>
  intro ts h n j;cases ts with
  | nil=>cases a<;>(intro c f;cases f)
  | cons t ts =>
   cases a with
   | none =>
    simp only[gH_,qAn]at j;intro c f;simp only[bM_]at f;rcases qD.1 f with rfl|f
    .exact j.1
    .exact p j.2 c f
   | some e =>
    cases t with
    | sl t =>
     simp only[gH_,qAn]at j;intro c f;simp only[bM_]at f;rcases qD.1 f with rfl|f
     .trivial
     .exact p j.2 c f
    | _=>exact np_ j
theorem oD_{m:Mk}:∀{ts:tL Ty} {h:HL E.S ts} {n:Nat},kG_ E m ts=true->∀i o,(i,o)∈bk_ E m ts h n->∃p,o=some p/\jg_ E p:=by
 induction m with
 | nil=>intro ts h n _ i o f;cases ts<;>simp[bk_]at f
 | cons a m q =>
  intro ts h n j i o f;cases ts with
  | nil=>cases a<;>simp[bk_]at f
  | cons t ts =>
   cases a with
   | none=>simp only[kG_]at j;simp only[bk_]at f;exact q j i o f
   | some e =>
    cases t with
    | sl t =>
     simp only[kG_,qAn]at j;simp only[bk_,qD,qg]at f;rcases f with⟨rfl,rfl⟩|f
     .exact⟨_,rfl,j.1,rfl⟩
     .exact q j.2 i o f
    | _=>simp[bk_]at f
theorem oE_:∀{rs:Rs} {h:HL E.S rs.ts} {n:Nat},iJ_ E rs=true->∀i o,(i,o)∈cY_ E rs h n->∃p,o=some p/\jg_ E p
 | [],h,n,_,i,o,f=>by simp[cY_]at f
 | (t,m)::rs,h,n,j,i,o,f=>by
  simp only[iJ_,qAn]at j;simp only[cY_,qF]at f;rcases f with f|f
  .exact oD_ (flatM_O j.1) i o f
  .exact oE_ j.2 i o f
theorem c4_:∀{ps:tL Pm} {a:PA E ps} {n k:Nat},fc_ E ps=true->∀i o,(i,o)∈aY_ E ps a n k->∃p,o=some p/\jg_ E p
 | [],a,n,k,_,i,o,f=>by simp[aY_]at f
 | .l t m::ps,a,n,k,h,i,o,f=>by
  simp only[fc_,qAn]at h;simp only[aY_,qF]at f;rcases f with f|f
  .exact oD_ h.1 i o f
  .exact c4_ h.2 i o f
 | .b T t::ps,a,n,k,h,i,o,f=>by
  simp only[fc_,qAn]at h;simp only[aY_,qD,qg]at f;rcases f with⟨rfl,rfl⟩|f
  .exact⟨_,rfl,np_ h.1⟩
  .exact c4_ h.2 i o f
 | .bm T t m px::ps,a,n,k,h,i,o,f=>by
  simp only[fc_,qAn]at h;simp only[aY_,qD,qF,qg]at f;rcases f with⟨rfl,rfl⟩|f|f
  .refine⟨_,rfl,λc j => ?_⟩;rcases qF.1 j with j|j
   .cases q:pxB px ps<;>rw[q]at j
    .cases j
    .obtain rfl:=qH.1 j
     trivial
   .exact ownC_flat h.1 c j
  .exact oD_ (flatM_O h.1) i o f
  .exact c4_ h.2 i o f
 | .g t m::ps,a,n,k,h,i,o,f=>c4_ (ps:=ps) (a:=a.2) h i o f
 | .mp T kt v::ps,a,n,k,h,i,o,f=>by
  simp only[aY_,qD,qg]at f;rcases f with⟨rfl,rfl⟩|f
  .exact⟨_,rfl,rfl⟩
  .exact c4_ (ps:=ps) h i o f
 | .d t::ps,a,n,k,h,i,o,f=>c4_ (ps:=ps) (a:=a.2) h i o f
 | .p t::ps,a,n,k,h,i,o,f=>c4_ (ps:=ps) (a:=a.2) h i o f
 | .f1 x r::ps,a,n,k,h,i,o,f=>c4_ (ps:=ps) (a:=a.2) h i o f
 | .f2 x y r::ps,a,n,k,h,i,o,f=>c4_ (ps:=ps) (a:=a.2) h i o f
def PlainC(K:Nat->Prop):SC E->Prop | .dt _ _=>True | .own id=>K id | .ptr id _=>K id|_=>False
theorem lW_{K:Nat->Prop}:∀{ts:tL Ty} {h:HL E.S ts},∀c∈hlc E ts h,PlainC K c
 | [],_,_,f=>by cases f
 | t::ts,h,c,f=>by
  simp only[hlc]at f;rcases qD.1 f with rfl|f
  .trivial
  .exact lW_ c f
theorem ownC_plain{K:Nat->Prop}{m:Mk}:∀{ts:tL Ty} {h:HL E.S ts} {n:Nat},(∀i,i<aH_ m ts->K (n+i))->∀c∈bM_ E m ts h n,PlainC K c:=by
 induction m with
 | nil=>intro ts h n _;cases ts<;>exact lW_
 | cons a m p =>
  intro ts h n j;cases ts with
  | nil=>cases a<;>(intro c f;cases f)
  | cons t ts =>
   cases a with
   | none =>
    intro c f;simp only[bM_]at f;rcases qD.1 f with rfl|f
    .trivial
    .exact p j c f
   | some e =>
    cases t with
    | sl t =>
     intro c f;simp only[bM_]at f;rcases qD.1 f with rfl|f
     .exact j 0 (by simp only[aH_];omega)
     .refine p (n:=n+1) (λi hi => ?_) c f;have:=j (i+1) (by simp only[aH_];omega)
      rwa [show n+1+i=n+(i+1)by omega]
    | _=>exact lW_
theorem RC.ren{K:Nat->Prop}{s:Nat->Nat}{c:SC E}{v:tW}(j:PlainC K c)(u:∀i l,K i->g i=some l->g' (s i)=some l)(f:z=z'\/FlatC c)(h:RC P E z g c v):RC P E z' g' (SC.ren s c) v:=by
 cases c with
 | dt t x =>
  rcases f with rfl|f
  .exact h
  .exact RD.flat (ts:=[t]) (by simpa[FlatC]using f) h
 | own id =>
  obtain⟨l,q,p⟩:=h;exact⟨l,u id l j q,p⟩
 | ptr id off =>
  obtain⟨l,q,p⟩:=h;exact⟨l,u id l j q,p⟩
 | _=>exact j.elim
theorem RCs.ren{K:Nat->Prop}{s:Nat->Nat}(u:∀i l,K i->g i=some l->g' (s i)=some l):∀{cs:tL (SC E)} {vs:tL tW},(∀c∈cs,PlainC K c)->(z=z'\/∀c∈cs,FlatC c)->All2 (RC P E z g) cs vs->All2 (RC P E z' g') (cs.map (SC.ren s)) vs
 | [],_,_,_,h=>by cases h;exact .nil
 | c::cs,_,q,p,h=>by
  cases h with
  | cons y x=>exact .cons (y.ren (q c (qT ..)) u (p.imp id λf=>f c (qT ..))) (RCs.ren u (λd j=>q d (qG _ j)) (p.imp id λf d j=>f d (qG _ j)) x)
def Plain(E:TE)(K:Nat->Prop):Obj E->Prop | .row _ _ _ foc=>foc=[] | .map _ _ _ _ _ foc=>foc=[] | .box _ cs=>∀c∈cs,PlainC K c|_=>False
theorem ObjR.move2{K:Nat->Prop}{s:Nat->Nat}{i j:Nat}{o:Obj E}(f:Plain E K o)(M:∀i l,K i->g i=some l->g' (s i)=some l)(D:z=z'\/jg_ E o)(q:g' j=g i)(h:ObjR P E z g w i o):ObjR P E z' g' w j (Obj.ren s o)/\∀k,fpO g' j (Obj.ren s o) k↔fpO g i o k:=by
 cases o with
 | row e t xs foc =>
  simp only[Plain]at f;subst f;obtain⟨l,rows,C,G,J,y,u,O,F,_⟩:=h;refine⟨⟨l,rows,by rw[q];exact C,G,J,y,u,O,?_,λp f=>nomatch f⟩,λk=>by simp only[Obj.ren,fpO,q]⟩;rcases D with rfl|D
  .exact F
  .exact F.flat D.1
 | box T cs =>
  obtain⟨l,vs,C,y,u⟩:=h;exact⟨⟨l,vs,by rw[q];exact C,y,RCs.ren M f D u⟩,λk=>by simp only[Obj.ren,fpO,q]⟩
 | fr t xs=>exact f.elim
 | fb t x=>exact f.elim
 | map T k v U vs foc =>
  simp only[Plain]at f;subst f;obtain⟨l,es,c,C,y,u,_⟩:=h;exact⟨⟨l,es,c,by rw[q];exact C,y,u,λp f=>nomatch f⟩,λk=>by simp only[Obj.ren,fpO,q]⟩
theorem Plain.mono{K K':Nat->Prop}{o:Obj E}(f:∀j,K j->K' j)(h:Plain E K o):Plain E K' o:=by
 cases o with
 | box T cs =>
  intro c p;have:=h c p;cases c with
  | own id=>exact f _ this
  | ptr id off=>exact f _ this
  | _=>exact this
 | _=>exact h
theorem pxB_cnt{px:tV}{ps:tL Pm}(h:pxB px ps=true):0<ao_ E ps:=by
 unfold pxB at h;split at h
 .simp only[ao_];omega
 .simp only[ao_];omega
 .cases h
theorem SC.ren_id(c:SC E):SC.ren (λi=>i) c=c:=by cases c<;>rfl
theorem Obj.ren_id(o:Obj E):Obj.ren (λi=>i) o=o:=by
 cases o with
 | box T cs =>
  have:cs.map (SC.ren λi=>i)=cs:=by
   induction cs with
   | nil=>rfl
   | cons c cs f=>rw[zH,f,SC.ren_id]
  simp only[Obj.ren,this]
 | _=>rfl
theorem ObjR.move{K:Nat->Prop}{i:Nat}{o:Obj E}(p:Plain E K o)(u:∀i l,K i->g i=some l->g' i=some l)(f:z=z'\/jg_ E o)(q:g' i=g i)(h:ObjR P E z g w i o):ObjR P E z' g' w i o/\∀k,fpO g' i o k↔fpO g i o k:=by
 have:=h.move2 (s:=λi=>i) (j:=i) p u f q
 rwa [Obj.ren_id]at this
theorem bo_{m:Mk}:∀{ts:tL Ty} {h:HL E.S ts} {n:Nat},∀i o,(i,o)∈bk_ E m ts h n->∃p,o=some p/\(∀K,Plain E K p)/\n<=i/\i<n+aH_ m ts:=by
 induction m with
 | nil=>intro ts h n i o f;cases ts<;>simp[bk_]at f
 | cons a m j =>
  intro ts h n i o f;cases ts with
  | nil=>cases a<;>simp[bk_]at f
  | cons t ts =>
   cases a with
   | none=>simp only[bk_]at f;simp only[aH_];exact j i o f
   | some e =>
    cases t with
    | sl t =>
     simp only[bk_,qD,qg]at f;simp only[aH_];rcases f with⟨rfl,rfl⟩|f
     .exact⟨_,rfl,λ_=>rfl,qE _,by omega⟩
     .obtain⟨p,s,q,x,u⟩:=j i o f;exact⟨p,s,q,by omega,by omega⟩
    | _=>simp[bk_]at f
theorem fv_:∀{rs:Rs} {h:HL E.S rs.ts} {n:Nat},∀i o,(i,o)∈cY_ E rs h n->∃p,o=some p/\(∀K,Plain E K p)/\n<=i/\i<n+cH_ E rs
 | [],h,n,i,o,f=>by simp[cY_]at f
 | (t,m)::rs,h,n,i,o,f=>by
  simp only[cY_,qF]at f;simp only[cH_];rcases f with f|f
  .obtain⟨p,q,j,s,u⟩:=bo_ i o f;exact⟨p,q,j,s,by omega⟩
  .obtain⟨p,q,j,s,u⟩:=fv_ i o f;exact⟨p,q,j,by omega,by omega⟩
theorem cg_:∀{ps:tL Pm} {a:PA E ps} {n:Nat},∀i o,(i,o)∈bn_ E ps a n->n<=i/\i<n+ao_ E ps
 | [],a,n,i,o,f=>by simp[bn_]at f
 | .l t m::ps,a,n,i,o,f=>by
  simp only[bn_,qF]at f;simp only[ao_];rcases f with f|f
  .obtain⟨p,s,q,j,h⟩:=bo_ i o f;omega
  .have:=cg_ (ps:=ps) (a:=a.2) i o f;omega
 | .g t m::ps,a,n,i,o,f=>by
  simp only[bn_,qF]at f;simp only[ao_];rcases f with f|f
  .obtain⟨p,s,q,j,h⟩:=bo_ i o f;omega
  .have:=cg_ (ps:=ps) (a:=a.2) i o f;omega
 | .b T t::ps,a,n,i,o,f=>by
  simp only[bn_,qD,qg]at f;simp only[ao_];rcases f with⟨rfl,rfl⟩|f
  .omega
  .have:=cg_ (ps:=ps) (a:=a.2) i o f;omega
 | .bm T t m px::ps,a,n,i,o,f=>by
  simp only[bn_,qD,qF,qg]at f;simp only[ao_];rcases f with⟨rfl,rfl⟩|f|f
  .omega
  .obtain⟨p,s,q,j,h⟩:=bo_ i o f;omega
  .have:=cg_ (ps:=ps) (a:=a.2) i o f;omega
 | .mp T k v::ps,a,n,i,o,f=>by
  simp only[bn_,qD,qg]at f;simp only[ao_];rcases f with⟨rfl,rfl⟩|f
  .omega
  .have:=cg_ (ps:=ps) (a:=a.2) i o f;omega
 | .d t::ps,a,n,i,o,f=>cg_ (ps:=ps) (a:=a.2) i o f
 | .p t::ps,a,n,i,o,f=>cg_ (ps:=ps) (a:=a.2) i o f
 | .f1 x r::ps,a,n,i,o,f=>cg_ (ps:=ps) (a:=a.2) i o f
 | .f2 x y r::ps,a,n,i,o,f=>cg_ (ps:=ps) (a:=a.2) i o f
theorem cn_:∀{ps:tL Pm} {a:PA E ps} {n k:Nat},∀i o,(i,o)∈aY_ E ps a n k->∃p,o=some p/\Plain E (λj=>(k<=j/\j<k+di_ E ps)\/(n<=j/\j<n+ao_ E ps)) p/\((n<=i/\i<n+ao_ E ps)\/(k<=i/\i<k+di_ E ps))
 | [],a,n,k,i,o,f=>by simp[aY_]at f
 | .l t m::ps,a,n,k,i,o,f=>by
  simp only[aY_,qF]at f;simp only[ao_,di_];rcases f with f|f
  .obtain⟨p,q,h,u,F⟩:=bo_ i o f;exact⟨p,q,h _,by omega⟩
  .obtain⟨p,q,h,u⟩:=cn_ (ps:=ps) (a:=a.2) i o f;exact⟨p,q,h.mono (λj C=>by omega),by omega⟩
 | .g t m::ps,a,n,k,i,o,f=>by
  obtain⟨p,q,h,u⟩:=cn_ (ps:=ps) (a:=a.2) i o f;simp only[ao_,di_];exact⟨p,q,h.mono (λj C=>by omega),by omega⟩
 | .b T t::ps,a,n,k,i,o,f=>by
  simp only[aY_,qD,qg]at f;simp only[ao_,di_];rcases f with⟨rfl,rfl⟩|f
  .exact⟨_,rfl,lW_,by omega⟩
  .obtain⟨p,q,h,u⟩:=cn_ (ps:=ps) (a:=a.2) i o f;exact⟨p,q,h.mono (λj C=>by omega),by omega⟩
 | .bm T t m px::ps,a,n,k,i,o,f=>by
  simp only[aY_,qD,qF,qg]at f;simp only[ao_,di_];rcases f with⟨rfl,rfl⟩|f|f
  .refine⟨_,rfl,λc s => ?_,by omega⟩;rcases qF.1 s with s|s
   .cases D:pxB px ps<;>rw[D]at s
    .cases s
    .obtain rfl:=qH.1 s;have:=pxB_cnt (E:=E) D;exact .inr ⟨by omega,by omega⟩
   .exact ownC_plain (K:=λj=>(k<=j/\j<k+(aH_ m (E.flat t)+di_ E ps))\/_) (λj C => .inl ⟨by omega,by omega⟩) c s
  .obtain⟨p,q,h,u,F⟩:=bo_ i o f;exact⟨p,q,h _,by omega⟩
  .obtain⟨p,q,h,u⟩:=cn_ (ps:=ps) (a:=a.2) i o f;refine⟨p,q,?_,by omega⟩;exact Plain.mono (λj C=>by omega) h
 | .mp T kt v::ps,a,n,k,i,o,f=>by
  simp only[aY_,qD,qg]at f;simp only[ao_,di_];rcases f with⟨rfl,rfl⟩|f
  .exact⟨_,rfl,rfl,by omega⟩
  .obtain⟨p,q,h,u⟩:=cn_ (ps:=ps) (a:=a.2) i o f;exact⟨p,q,h.mono (λj C=>by omega),by omega⟩
 | .d t::ps,a,n,k,i,o,f=>cn_ (ps:=ps) (a:=a.2) i o f
 | .p t::ps,a,n,k,i,o,f=>cn_ (ps:=ps) (a:=a.2) i o f
 | .f1 x r::ps,a,n,k,i,o,f=>cn_ (ps:=ps) (a:=a.2) i o f
 | .f2 x y r::ps,a,n,k,i,o,f=>cn_ (ps:=ps) (a:=a.2) i o f
def UniqK(l:Chs E):Prop:=∀i o o',(i,o)∈l->(i,o')∈l->o=o'
theorem ra_{i:Nat}{o:tO (Obj E)}:∀{l:Chs E},UniqK l->(i,o)∈l->upH H l i=o
 | [],_,h=>by cases h
 | (j,p)::l,s,h=>by
  simp only[upH];split
  .rename_i q;obtain rfl:=qNb q;exact s i p o (qT ..) h
  .rename_i q;have f:=bv_ q;refine ra_ (λa b c x u=>s a b c (qG _ x) (qG _ u)) ?_;rcases qD.1 h with h|h
   .simp only[qg]at h;exact absurd h.1 f
   .exact h
theorem UniqK.append{l m:Chs E}(q:UniqK l)(p:UniqK m)(j:∀i o o',(i,o)∈l->(i,o')∈m->False):UniqK (l++m):=λi o o' h f=>by
 rcases qF.1 h with h|h<;>rcases qF.1 f with f|f
 .exact q i o o' h f
 .exact(j i o o' h f).elim
 .exact(j i o' o f h).elim
 .exact p i o o' h f
theorem is_{m:Mk}:∀{ts:tL Ty} {h:HL E.S ts} {n:Nat},UniqK (bk_ E m ts h n):=by
 induction m with
 | nil=>intro ts h n i o o' j;cases ts<;>simp[bk_]at j
 | cons a m q =>
  intro ts h n;cases ts with
  | nil=>intro i o o' j;cases a<;>simp[bk_]at j
  | cons t ts =>
   cases a with
   | none=>simp only[bk_];exact q
   | some e =>
    cases t with
    | sl t =>
     simp only[bk_];intro i o o' p f;simp only[qD,qg]at p f;rcases p with⟨rfl,rfl⟩|p<;>rcases f with⟨f,rfl⟩|f
     .rfl
     .obtain⟨_,_,_,s,_⟩:=bo_ _ _ f;omega
     .obtain⟨_,_,_,s,_⟩:=bo_ _ _ p;omega
     .exact q i o o' p f
    | _=>intro i o o' j;simp[bk_]at j
theorem resO_uniq:∀{rs:Rs} {h:HL E.S rs.ts} {n:Nat},UniqK (cY_ E rs h n)
 | [],h,n=>λi o o' f=>by simp[cY_]at f
 | (t,m)::rs,h,n=>by
  simp only[cY_];refine UniqK.append is_ resO_uniq λi o o' p j => ?_
  obtain⟨_,_,_,_,s⟩:=bo_ _ _ p;obtain⟨_,_,_,q,_⟩:=fv_ _ _ j;omega
theorem dW_:∀{ps:tL Pm} {a:PA E ps} {n:Nat},UniqK (bn_ E ps a n)
 | [],a,n=>λi o o' q=>by simp[bn_]at q
 | .l t m::ps,a,n=>by
  simp only[bn_];refine UniqK.append is_ (dW_ (ps:=ps)) λi o o' h f => ?_
  obtain⟨_,_,_,_,j⟩:=bo_ _ _ h;have s:=(cg_ (ps:=ps) _ _ f).1;omega
 | .g t m::ps,a,n=>by
  simp only[bn_];refine UniqK.append is_ (dW_ (ps:=ps)) λi o o' h f => ?_
  obtain⟨_,_,_,_,j⟩:=bo_ _ _ h;have s:=(cg_ (ps:=ps) _ _ f).1;omega
 | .b T t::ps,a,n=>by
  simp only[bn_];intro i o o' h f;simp only[qD,qg]at h f;rcases h with⟨rfl,rfl⟩|h<;>rcases f with⟨f,rfl⟩|f
  .rfl
  .have:=(cg_ (ps:=ps) _ _ f).1;omega
  .have:=(cg_ (ps:=ps) _ _ h).1;omega
  .exact dW_ (ps:=ps) i o o' h f
 | .bm T t m px::ps,a,n=>by
  simp only[bn_];refine UniqK.append (l:=[(n,some (.box T (ptrC E (pxB px ps) (n+1+aH_ m (E.flat t))++bM_ E m (E.flat t) (E.fl t a.1) (n+1))))]) (λi o o' h f => ?_) (UniqK.append is_ (dW_ (ps:=ps)) λi o o' h f => ?_) λi o o' h f => ?_
  .simp only[qH,qg]at h f;rw[h.2,f.2]
  .obtain⟨_,_,_,_,j⟩:=bo_ _ _ h;have:=(cg_ (ps:=ps) _ _ f).1;omega
  .simp only[qH,qg]at h;rcases qF.1 f with f|f
   .obtain⟨_,_,_,j,_⟩:=bo_ _ _ f;omega
   .have:=(cg_ (ps:=ps) _ _ f).1;omega
 | .mp T k v::ps,a,n=>by
  simp only[bn_];intro i o o' h f;simp only[qD,qg]at h f;rcases h with⟨rfl,rfl⟩|h<;>rcases f with⟨f,rfl⟩|f
  .rfl
  .have:=(cg_ (ps:=ps) _ _ f).1;omega
  .have:=(cg_ (ps:=ps) _ _ h).1;omega
  .exact dW_ (ps:=ps) i o o' h f
 | .d t::ps,a,n=>dW_ (ps:=ps) (a:=a.2)
 | .p t::ps,a,n=>dW_ (ps:=ps) (a:=a.2)
 | .f1 x r::ps,a,n=>dW_ (ps:=ps) (a:=a.2)
 | .f2 x y r::ps,a,n=>dW_ (ps:=ps) (a:=a.2)
theorem ownO_shift{m:Mk}:∀{ts:tL Ty} {h:HL E.S ts} {n n' d:Nat} {o:tO (Obj E)},(n+d,o)∈bk_ E m ts h n->(n'+d,o)∈bk_ E m ts h n':=by
 induction m with
 | nil=>intro ts h n n' d o f;cases ts<;>simp[bk_]at f
 | cons a m p =>
  intro ts h n n' d o f;cases ts with
  | nil=>cases a<;>simp[bk_]at f
  | cons t ts =>
   cases a with
   | none=>simp only[bk_]at f ⊢;exact p f
   | some e =>
    cases t with
    | sl t =>
     simp only[bk_,qD,qg]at f ⊢;rcases f with⟨s,rfl⟩|f
     .exact .inl ⟨by omega,rfl⟩
     .right
      obtain⟨_,_,_,q,_⟩:=bo_ _ _ f;obtain⟨j,rfl⟩:∃j,d=j+1:=⟨d-1,by omega⟩;rw[show n+(j+1)=n+1+j by omega]at f;rw[show n'+(j+1)=n'+1+j by omega];exact p f
    | _=>simp[bk_]at f
theorem resO_shift:∀{rs:Rs} {h:HL E.S rs.ts} {n n' d:Nat} {o:tO (Obj E)},(n+d,o)∈cY_ E rs h n->(n'+d,o)∈cY_ E rs h n'
 | [],h,n,n',d,o,f=>by simp[cY_]at f
 | (t,m)::rs,h,n,n',d,o,f=>by
  simp only[cY_,qF]at f ⊢;rcases f with f|f
  .exact .inl (ownO_shift f)
  .right
   obtain⟨_,_,_,p,_⟩:=fv_ _ _ f;obtain⟨j,rfl⟩:∃j,d=aH_ m (E.flat t)+j:=⟨d-aH_ m (E.flat t),by omega⟩;rw[←zG]at f ⊢;exact resO_shift f
theorem ownO_len{m:Mk}:∀{ts:tL Ty} {h:HL E.S ts} {n:Nat},(bk_ E m ts h n).length=aH_ m ts:=by
 induction m with
 | nil=>intro ts h n;cases ts<;>simp[bk_,aH_]
 | cons a m f =>
  intro ts h n;cases ts with
  | nil=>cases a<;>simp[bk_,aH_]
  | cons t ts =>
   cases a with
   | none=>simp only[bk_,aH_];exact f
   | some e =>
    cases t with
    | sl t=>simp only[bk_,aH_,qLc,f]
    | _=>simp[bk_,aH_]
theorem resO_len:∀{rs:Rs} {h:HL E.S rs.ts} {n:Nat},(cY_ E rs h n).length=cH_ E rs
 | [],h,n=>rfl
 | (t,m)::rs,h,n=>by simp only[cY_,cH_,qLa,ownO_len,resO_len]
theorem resO_in{rs:Rs}{h:HL E.S rs.ts}{n i:Nat}{o:tO (Obj E)}(f:(i,o)∈cY_ E rs h n):n<=i/\i<n+cH_ E rs:=by
 obtain⟨_,_,_,p,j⟩:=fv_ _ _ f;exact⟨p,j⟩
theorem ib_{ps:tL Pm}{a:PA E ps}{n k i:Nat}{o:tO (Obj E)}(f:(i,o)∈aY_ E ps a n k):(n<=i/\i<n+ao_ E ps)\/(k<=i/\i<k+di_ E ps):=by
 obtain⟨_,_,_,h⟩:=cn_ _ _ f;exact h
theorem do_:∀{ps:tL Pm} {a:PA E ps} {n k:Nat},n+ao_ E ps<=k->UniqK (aY_ E ps a n k)
 | [],a,n,k,_=>λi o o' s=>by simp[aY_]at s
 | .l t m::ps,a,n,k,j=>by
  simp only[ao_]at j;simp only[aY_];refine UniqK.append is_ (do_ (ps:=ps) (by omega)) λi o o' h f => ?_
  obtain⟨_,_,_,_,q⟩:=bo_ _ _ h;have:=ib_ (ps:=ps) f;omega
 | .g t m::ps,a,n,k,j=>by
  simp only[ao_]at j;exact do_ (ps:=ps) (a:=a.2) (by omega)
 | .b T t::ps,a,n,k,j=>by
  simp only[ao_]at j;simp only[aY_];refine UniqK.append (l:=[(n,some (.box T (E.cells t a.1)))]) (λi o o' h f => ?_) (do_ (ps:=ps) (by omega)) λi o o' h f => ?_
  .simp only[qH,qg]at h f;rw[h.2,f.2]
  .simp only[qH,qg]at h;have:=ib_ (ps:=ps) f;omega
 | .bm T t m px::ps,a,n,k,j=>by
  simp only[ao_]at j;simp only[aY_];refine UniqK.append (l:=[(n,some (.box T (ptrC E (pxB px ps) (n+1+aH_ m (E.flat t))++bM_ E m (E.flat t) (E.fl t a.1) k)))]) (λi o o' h f => ?_) (UniqK.append is_ (do_ (ps:=ps) (by omega)) λi o o' h f => ?_) λi o o' h f => ?_
  .simp only[qH,qg]at h f;rw[h.2,f.2]
  .obtain⟨_,_,_,q,u⟩:=bo_ _ _ h;have:=ib_ (ps:=ps) f;omega
  .simp only[qH,qg]at h;rcases qF.1 f with f|f
   .obtain⟨_,_,_,q,_⟩:=bo_ _ _ f;omega
   .have:=ib_ (ps:=ps) f;omega
 | .mp T kt v::ps,a,n,k,j=>by
  simp only[ao_]at j;simp only[aY_];refine UniqK.append (l:=[(n,some (.map T kt v a.1.1 a.1.2 []))]) (λi o o' h f => ?_) (do_ (ps:=ps) (by omega)) λi o o' h f => ?_
  .simp only[qH,qg]at h f;rw[h.2,f.2]
  .simp only[qH,qg]at h;have:=ib_ (ps:=ps) f;omega
 | .d t::ps,a,n,k,j=>do_ (ps:=ps) (a:=a.2) j
 | .p t::ps,a,n,k,j=>do_ (ps:=ps) (a:=a.2) j
 | .f1 x r::ps,a,n,k,j=>do_ (ps:=ps) (a:=a.2) j
 | .f2 x y r::ps,a,n,k,j=>do_ (ps:=ps) (a:=a.2) j
theorem d6_:∀{ps:tL Pm} {a:PA E ps} {n k:Nat},di_ E ps<=(aY_ E ps a n k).length
 | [],_,_,_=>qE _
 | .l t m::ps,a,n,k=>by
  simp only[aY_,qLa,di_];have:=d6_ (ps:=ps) (a:=a.2) (n:=n+aH_ m (E.flat t)) (k:=k);omega
 | .g t m::ps,a,n,k=>d6_ (ps:=ps) (a:=a.2)
 | .b T t::ps,a,n,k=>by
  simp only[aY_,qLc,di_];have:=d6_ (ps:=ps) (a:=a.2) (n:=n+1) (k:=k);omega
 | .bm T t m px::ps,a,n,k=>by
  simp only[aY_,qLc,qLa,di_,ownO_len];have:=d6_ (ps:=ps) (a:=a.2) (n:=n+1+aH_ m (E.flat t)) (k:=k+aH_ m (E.flat t));omega
 | .mp T kt v::ps,a,n,k=>by
  simp only[aY_,qLc,di_];have:=d6_ (ps:=ps) (a:=a.2) (n:=n+1) (k:=k);omega
 | .d t::ps,a,n,k=>d6_ (ps:=ps) (a:=a.2)
 | .p t::ps,a,n,k=>d6_ (ps:=ps) (a:=a.2)
 | .f1 x r::ps,a,n,k=>d6_ (ps:=ps) (a:=a.2)
 | .f2 x y r::ps,a,n,k=>d6_ (ps:=ps) (a:=a.2)
theorem ownC_move{m:Mk}:∀{ts:tL Ty} {h:HL E.S ts} {n n':Nat} {v:tL tW},All2 (RC P E z g) (bM_ E m ts h n) v->(∀i l,i<aH_ m ts->g (n+i)=some l->g' (n'+i)=some l)->(z=z'\/gH_ E m ts=true)->All2 (RC P E z' g') (bM_ E m ts h n') v:=by
 have key:∀{ts:tL Ty} {h:HL E.S ts} {v:tL tW},All2 (RC P E z g) (hlc E ts h) v->(z=z'\/ts.all Ty.flatB=true)->All2 (RC P E z' g') (hlc E ts h) v:=by
  intro ts h v f j;rcases j with rfl|j
  .exact hlc_rd.1 (hlc_rd.2 f)
  .exact hlc_rd.1 ((hlc_rd.2 f).flat j)
 induction m with
 | nil =>
  intro ts h n n' v f p j;cases ts with
  | nil=>simp only[bM_]at f ⊢;exact key f (j.imp id λh=>h)
  | cons t ts=>simp only[bM_]at f ⊢;exact key f (j.imp id λh=>h)
 | cons a m u =>
  intro ts h n n' v f p j;cases ts with
  | nil=>cases a<;>simp only[bM_]at f ⊢<;>exact key f (.inr rfl)
  | cons t ts =>
   cases a with
   | none =>
    simp only[bM_]at f ⊢;cases f with
    | cons q s =>
     simp only[gH_,qAn]at j;refine .cons ?_ (u s p (j.imp id And.right));rcases j with rfl|j
     .exact q
     .exact RD.flat (ts:=[t]) (by simp[j.1]) q
   | some e =>
    cases t with
    | sl t =>
     simp only[bM_]at f ⊢;cases f with
     | cons q s =>
      obtain⟨l,C,y⟩:=q;simp only[gH_,qAn]at j;refine .cons ⟨l,p 0 l (by simp only[aH_];omega) C,y⟩ (u s (λi l x hi => ?_) (j.imp id And.right));have:=p (i+1) l (by simp only[aH_];omega) (by rw[show n+(i+1)=n+1+i by omega];exact hi)
      rwa [show n'+(i+1)=n'+1+i by omega]at this
    | _=>simp only[bM_]at f ⊢;exact key f (j.imp id λh=>h)
theorem asV_move{t:Ty}{l f:tL (SC E)}{x p:V1 E}{v:tW}(h:asV E t l=some x)(j:asV E t f=some p)(hr:R1 P E z g x v)(q:∀vs,All2 (RC P E z g) l vs->All2 (RC P E z' g') f vs):R1 P E z' g' p v:=by
 have one:∀c d,l=[c]->f=[d]->RC P E z g c v->RC P E z' g' d v:=λc d e u s=>by
  subst e;subst u;have:=q [v] (.cons s .nil);cases this with
  | cons h _=>exact h
 cases t with
 | st n =>
  simp only[asV,qOi]at h j;subst h;subst j;obtain⟨vs,rfl,hr⟩:=hr;exact⟨vs,rfl,q vs hr⟩
 | _ =>
  cases l with
  | nil=>simp[asV]at h
  | cons c l =>
   cases l with
   | cons d l=>simp[asV]at h
   | nil =>
    cases f with
    | nil=>simp[asV]at j
    | cons y f =>
     cases f with
     | cons d l=>simp[asV]at j
     | nil =>
      simp only[asV,qOi]at h j;subst h;subst j;exact one c y rfl rfl hr
theorem lX_:∀{rs:Rs} {h:HL E.S rs.ts} {n n':Nat} {l j:tL (V1 E)} {vs:tL tW},resV E rs h n=some l->resV E rs h n'=some j->All2 (R1 P E z g) l vs->(∀i l,i<cH_ E rs->g (n+i)=some l->g' (n'+i)=some l)->(z=z'\/iJ_ E rs=true)->All2 (R1 P E z' g') j vs
 | [],h,n,n',l,j,vs,e,f,hr,_,_=>by
  simp only[resV,qOi]at e f;subst e;subst f;cases hr
  exact .nil
 | (t,m)::rs,h,n,n',l,j,vs,e,f,hr,C,p=>by
  simp only[resV]at e f;split at e
  .rename_i x q D F;obtain rfl:=qSj e;split at f
   .rename_i O U s y;obtain rfl:=qSj f;simp only[iJ_,qAn]at p;cases hr with
    | cons M J =>
     refine .cons (asV_move D s M λvs u=>ownC_move u (λi l hi=>C i l (by simp only[cH_];omega)) (p.imp id And.left)) (lX_ F y J (λi l G hi => ?_) (p.imp id And.right));rw[zG]at hi ⊢;exact C _ l (by simp only[cH_];omega) hi
   .cases f
  .cases e
theorem ql_:∀{rs:Rs} {h:HL E.S rs.ts} {n n':Nat} {l j:tL (V1 E)},resV E rs h n=some l->resV E rs h n'=some j->l.length=j.length
 | [],h,n,n',l,j,e,f=>by
  simp only[resV,qOi]at e f;subst e;subst f;rfl
 | (t,m)::rs,h,n,n',l,j,e,f=>by
  simp only[resV]at e f;split at e
  .rename_i x q D u;obtain rfl:=qSj e;split at f
   .rename_i y C s p;obtain rfl:=qSj f;simp[ql_ u p]
   .cases f
  .cases e
theorem oG_{l f:tL (V1 E)}{v:tW}(q:l.length=f.length)(h:RV P E z g (oneV E l) v)(j:∀vs,All2 (R1 P E z g) l vs->All2 (R1 P E z' g') f vs):RV P E z' g' (oneV E f) v:=by
 match l,f,q with
 | [],[],_=>obtain⟨vs,rfl,hr⟩:=h;exact⟨vs,rfl,j vs hr⟩
 | [x],[p],_ =>
  have:=j [v] (.cons h .nil);cases this with
  | cons h _=>exact h
 | x::y::l,p::s::f,_=>obtain⟨vs,rfl,hr⟩:=h;exact⟨vs,rfl,j vs hr⟩
def renS(c nx:Nat)(I:tL Nat)(i:Nat):Nat:=match Nat.blt i c with|true=>I.getD i 0|false=>nx+(i-c)
def lentU(s:Nat->Nat)(l:Chs E):Chs E:=l.map λp=>(s p.1,p.2.map (Obj.ren s))
def goneU(I:tL Nat):Chs E:=I.map λi=>(i,none)
def callU(E:TE)(C:Con E)(nx:Nat)(q:PA E C.ps×tL Nat)(rh:HL E.S C.rs.ts)(bh:HL E.S (ba_ C.ps)):Chs E:=lentU (renS (ao_ E C.ps) nx q.2) (cY_ E C.rs rh (ao_ E C.ps)++aY_ E C.ps (dJ_ E C.ps q.1 bh) 0 (ao_ E C.ps+cH_ E C.rs))++goneU q.2
def lCall (E:TE) (tab:Tab E) (H:Nat->tO (Obj E)) (nx:Nat) (f:FuncId) (xs:tL (V1 E)) {R:Type} (k:tO (SV E)->Chs E->tO R):tO R :=
 match tab f with
 | none=>none
 | some C=>match C.I with
 | some I=>I H nx xs R k
 | none=>match takeA E tab (upH H (frzP E H C.ps xs)) C.ps xs with
  | none=>none
  | some q=>match nodupB q.2 with
   | false=>none
   | true=>C.F R q.1 λrh bh=>match resV E C.rs rh nx with
    | none=>none
    | some svr=>match C.ali with
     | true=>k (some (oneV E svr)) (callU E C nx q rh bh++frzP E H C.ps xs)
     | false=>match iJ_ E C.rs&&fc_ E C.ps with
      | true=>k (some (oneV E svr)) (callU E C nx q rh bh)
      | false=>none
theorem leave_uniq{C:Con E}{q:PA E C.ps×tL Nat}{rh:HL E.S C.rs.ts}{bh:HL E.S (ba_ C.ps)}:UniqK (cY_ E C.rs rh (ao_ E C.ps)++aY_ E C.ps (dJ_ E C.ps q.1 bh) 0 (ao_ E C.ps+cH_ E C.rs)) :=
 UniqK.append resO_uniq (do_ (by omega)) λi o o' h f=>by
  have p:=resO_in h;have j:=ib_ f;omega
theorem rb_{C:Con E}{q:PA E C.ps×tL Nat}{rh:HL E.S C.rs.ts}{bh:HL E.S (ba_ C.ps)}{Hb:Nat->tO (Obj E)}{j:Nat}{o:Obj E}
  (h:upH Hb (callU E C nx q rh bh) j=some o) :
  (∃i x,(j=renS (ao_ E C.ps) nx q.2 i/\i<ao_ E C.ps+(cH_ E C.rs+di_ E C.ps))/\upH (λ_=>none) (cY_ E C.rs rh (ao_ E C.ps)++aY_ E C.ps (dJ_ E C.ps q.1 bh) 0 (ao_ E C.ps+cH_ E C.rs)) i=some x/\o=Obj.ren (renS (ao_ E C.ps) nx q.2) x)\/(j∉q.2/\Hb j=some o):=by
 unfold callU at h;rw[←aT_]at h;rcases upH_or h with h|h
 .have u:∀(I:tL Nat),upH Hb (goneU I) j=some o->j∉I/\Hb j=some o:=by
   intro I
   induction I with
   | nil=>intro h;exact⟨by simp,h⟩
   | cons i I F =>
    intro h;simp only[goneU,zH,upH]at h;split at h
    .cases h
    .rename_i J;obtain⟨O,M⟩:=F h;exact⟨λy=>by rcases qD.1 y with rfl|y;exact bv_ J rfl;exact O y,M⟩
  exact .inr (u _ h)
 .left
  obtain⟨p,f,s⟩:=jJ.1 h;simp only[qg]at s;obtain⟨G,D⟩:=s;obtain⟨i,o2⟩:=p;cases o2 with
  | none=>cases D
  | some x =>
   refine⟨i,x,⟨G.symm,?_⟩,ra_ leave_uniq f,(qSj D).symm⟩;rcases qF.1 f with f|f
   .have:=resO_in f;omega
   .have:=ib_ f;omega
theorem qm_{m:Mk}:∀{ts:tL Ty} {h:HL E.S ts} {n i:Nat},n<=i->i<n+aH_ m ts->∃o,(i,o)∈bk_ E m ts h n:=by
 induction m with
 | nil=>intro ts h n i q f;cases ts<;>simp[aH_]at f<;>omega
 | cons a m p =>
  intro ts h n i q f;cases ts with
  | nil=>cases a<;>simp[aH_]at f<;>omega
  | cons t ts =>
   cases a with
   | none=>simp only[aH_]at f;simp only[bk_];exact p q f
   | some e =>
    cases t with
    | sl t =>
     simp only[aH_]at f;simp only[bk_,qD,qg];by_cases j:i=n
     .exact⟨_,.inl ⟨j,rfl⟩⟩
     .obtain⟨o,s⟩:=p (h:=h.2) (n:=n+1) (i:=i) (by omega) (by omega);exact⟨o,.inr s⟩
    | _=>simp[aH_]at f<;>omega
theorem argsO_cov:∀{ps:tL Pm} {a:PA E ps} {n i:Nat},n<=i->i<n+ao_ E ps->∃o,(i,o)∈bn_ E ps a n:=by
 intro ps
 induction ps with
 | nil=>intro a n i u q;simp[ao_]at q;omega
 | cons p ps s =>
  intro a n i u q;cases p with
  | l t m =>
   simp only[ao_]at q;simp only[bn_,qF];by_cases f:i<n+aH_ m (E.flat t)
   .obtain⟨o,j⟩:=qm_ (h:=E.fl t a.1) u f;exact⟨o,.inl j⟩
   .obtain⟨o,j⟩:=s (a:=a.2) (n:=n+aH_ m (E.flat t)) (i:=i) (by omega) (by omega);exact⟨o,.inr j⟩
  | g t m =>
   simp only[ao_]at q;simp only[bn_,qF];by_cases f:i<n+aH_ m (E.flat t)
   .obtain⟨o,j⟩:=qm_ (h:=E.fl t a.1) u f;exact⟨o,.inl j⟩
   .obtain⟨o,j⟩:=s (a:=a.2) (n:=n+aH_ m (E.flat t)) (i:=i) (by omega) (by omega);exact⟨o,.inr j⟩
  | b T t =>
   simp only[ao_]at q;simp only[bn_,qD,qg];by_cases f:i=n
   .exact⟨_,.inl ⟨f,rfl⟩⟩
   .obtain⟨o,j⟩:=s (a:=a.2) (n:=n+1) (i:=i) (by omega) (by omega);exact⟨o,.inr j⟩
  | bm T t m px =>
   simp only[ao_]at q;simp only[bn_,qD,qF,qg];by_cases f:i=n
   .exact⟨_,.inl ⟨f,rfl⟩⟩
   .by_cases C:i<n+1+aH_ m (E.flat t)
    .obtain⟨o,j⟩:=qm_ (h:=E.fl t a.1) (n:=n+1) (i:=i) (by omega) C;exact⟨o,.inr (.inl j)⟩
    .obtain⟨o,j⟩:=s (a:=a.2) (n:=n+1+aH_ m (E.flat t)) (i:=i) (by omega) (by omega);exact⟨o,.inr (.inr j)⟩
  | mp T k v =>
   simp only[ao_]at q;simp only[bn_,qD,qg];by_cases f:i=n
   .exact⟨_,.inl ⟨f,rfl⟩⟩
   .obtain⟨o,j⟩:=s (a:=a.2) (n:=n+1) (i:=i) (by omega) (by omega);exact⟨o,.inr j⟩
  | d t=>exact s (a:=a.2) u q
  | p t=>exact s (a:=a.2) u q
  | f1 x r=>exact s (a:=a.2) u q
  | f2 x y r=>exact s (a:=a.2) u q
def hk_(tab:Tab E)(f:FuncId):tV:=match tab f with|some C=>kE_ C.ps|none=>true
theorem takeA_own {tab:Tab E}:∀{ps:tL Pm} {xs:tL (V1 E)} {q:PA E ps×tL Nat},kE_ ps=false->takeA E tab H ps xs=some q->q.2=[]:=by
 intro ps
 induction ps with
 | nil =>
  intro xs q _ h;cases xs with
  | nil=>simp only[takeA,qOi]at h;subst h;rfl
  | cons x xs=>simp[takeA]at h
 | cons p ps u =>
  intro xs q j h;cases xs with
  | nil=>cases p<;>simp[takeA]at h
  | cons x xs =>
   cases p with
   | l t m=>cases j
   | g t m=>cases j
   | b T t=>cases j
   | bm T t m px=>cases j
   | mp T k v=>cases j
   | d t =>
    simp only[takeA]at h;split at h
    .rename_i d y J s;obtain rfl:=qSj h;exact u j s
    .cases h
   | p t =>
    cases x with
    | agg l=>simp[takeA]at h
    | one c =>
     cases c with
     | elf G F off =>
      cases off with
      | succ off=>simp[takeA]at h
      | zero =>
       simp only[takeA]at h;split at h
       .split at h
        .rename_i y s;obtain rfl:=qSj h;exact u j s
        .cases h
       .cases h
     | ptr id off =>
      cases off with
      | succ off=>simp[takeA]at h
      | zero =>
       simp only[takeA]at h;split at h
       .split at h
        .split at h
         .rename_i y s;obtain rfl:=qSj h;exact u j s
         .cases h
        .cases h
       .cases h
     | _=>simp[takeA]at h
   | f1 x1 C =>
    cases x with
    | agg l=>simp[takeA]at h
    | one c =>
     simp only[takeA]at h;split at h
     .rename_i f y D s;obtain rfl:=qSj h;exact u j s
     .cases h
   | f2 x1 y1 C =>
    cases x with
    | agg l=>simp[takeA]at h
    | one c =>
     simp only[takeA]at h;split at h
     .rename_i f y D s;obtain rfl:=qSj h;exact u j s
     .cases h
theorem lCall_ok2 {tab:Tab E} (ht:tab.OK P E) {f:FuncId} (Zx:∀C,tab f=some C->C.I=none) {xs:tL (V1 E)} {vs:tL tW} {R:Type} {k:tO (SV E)->Chs E->tO R} {r:R} (ZP:Fresh g nx) (hv:All2 (R1 P E z g) xs vs) (h:lCall E tab H nx f xs k=some r) :
  c3_ P f=true/\∃s u,k (some s) u=some r/\∀(Bs:tL Nat) (F0:Nat->Prop) (w0 w:tS),HR P E Bs F0 w0 w z g H->Ret P f vs.toArray w λv w'=>∃z2 g2,z.Le z2/\g.Le g2/\Fresh g2 (nx+1+u.length)/\RV P E z2 g2 s v/\HR P E Bs F0 w0 w' z2 g2 (upH H u)/\(hk_ tab f=false->Ext w w'):=by
 unfold lCall at h;split at h
 .cases h
 .rename_i C hC;obtain⟨Zy,ZM,_⟩:=ht f C hC;refine⟨ZM,?_⟩;rw[Zx C hC]at h;simp only at h;split at h
  .cases h
  .rename_i q hq;split at h
   .cases h
   .rename_i hn;obtain⟨rh,bh,D,ZN⟩:=Zy _ _ _ _ h;obtain⟨svr2,x,u,hu,D⟩:∃svr2,resV E C.rs rh nx=some svr2/\∃u,((C.ali=true/\u=callU E C nx q rh bh++frzP E H C.ps xs)\/(C.ali=false/\(iJ_ E C.rs&&fc_ E C.ps)=true/\u=callU E C nx q rh bh))/\k (some (oneV E svr2)) u=some r:=by
     split at D
     .cases D
     .rename_i svr2 x;split at D
      .rename_i Z;exact⟨svr2,x,_,.inl ⟨Z,rfl⟩,D⟩
      .rename_i Z;split at D
       .rename_i Y;exact⟨svr2,x,_,.inr ⟨Z,Y,rfl⟩,D⟩
       .cases D
    refine⟨_,u,D,λBs F0 w0 w hH => ?_⟩;obtain⟨z1,ZX,ZV⟩:=frzP_ok hH C.ps xs;obtain⟨⟨svs,e1,e2⟩,e3,e4⟩:=takeA_ok ht ZV (I:=q.2) (n:=0) hq (λj id V=>by rw[qh];exact V) (hv.mono λ_ _ h=>R1.le h ZX (Ga.Le.refl g));have ZC:=ZV.entry hn e3;have Zu:Fresh (gOf g q.2) (ao_ E C.ps):=λi hi=>by
     unfold gOf;rw[qe (by omega)]
    have ZI:=ZN w z1 _ _ svs vs e1 ZC Zu e2;refine ZI.mono λv w' ⟨z',g1,svr,ZK,ZB,Zv,O,ZJ,hx⟩ => ?_
    have ZW:∀id∈q.2,∃l,g id=some l:=λid ZW=>by
     obtain⟨i,hi⟩:=jW.1 ZW;have Zq:i<ao_ E C.ps:=by rw[←e4];exact(qj.1 hi).1
     by_cases ZD:∃l,g id=some l
     .exact ZD
     .exfalso;obtain⟨o,ho⟩:=argsO_cov (a:=q.1) (n:=0) (i:=i) (qO _) (by omega);obtain⟨id',U,_,G,h6,_⟩:=e3 i o ho;rw[hi]at G;obtain rfl:=qSj G;exact ZD (ZV.hold _ _ h6).loc
    have Zw:∀id∈q.2,id<nx:=λid ZF=>by
     obtain⟨l,hl⟩:=ZW id ZF;rcases qR id nx with G|G
     .exact G
     .rw[ZP id G]at hl;cases hl
    -- the numbers behind the call
    have Zs:∀i,i<ao_ E C.ps->q.2[i]? = some (renS (ao_ E C.ps) nx q.2 i):=λi hi=>by
     have ZE:i<q.2.length:=by omega
     have hb:Nat.blt i (ao_ E C.ps)=true:=by simpa using hi
     unfold renS;rw[hb,qY ZE];simp[List.getD_eq_getElem?_getD,ZE]
    have Zt : ∀ i,ao_ E C.ps<=i->renS (ao_ E C.ps) nx q.2 i=nx+(i-ao_ E C.ps):=λi hi=>by
     have hb:Nat.blt i (ao_ E C.ps)=false:=by
      cases hb:Nat.blt i (ao_ E C.ps)with
      | false=>rfl
      | true => have:i<ao_ E C.ps:=by simpa using hb
                omega
     unfold renS;rw[hb]
    let g2:Ga:=λj=>if nx<=j/\j<nx+(cH_ E C.rs+di_ E C.ps)then g1 (ao_ E C.ps+(j-nx))else g j
    have ZY:g.Le g2:=λj l V=>by
     have:j<nx:=by
      rcases qR j nx with G|G
      .exact G
      .rw[ZP j G]at V;cases V
     show(if _ then _ else g j)=_;rw[qP (by omega)];exact V
    have ZU:Fresh g2 (nx+(cH_ E C.rs+di_ E C.ps)):=λj V=>by
     show(if _ then _ else g j)=_;rw[qP (by omega)];exact ZP j (by omega)
    have ZG:∀i l,i<cH_ E C.rs->g1 (ao_ E C.ps+i)=some l->g2 (nx+i)=some l:=λi l Zw hi=>by
     show(if _ then _ else g _)=_;rw[qL ⟨by omega,by omega⟩,show ao_ E C.ps+(nx+i-nx)=ao_ E C.ps+i by omega];exact hi
    let s:Nat->Nat->Prop:=λj i=>j=renS (ao_ E C.ps) nx q.2 i/\i<ao_ E C.ps+(cH_ E C.rs+di_ E C.ps)
    have hs:∀j j' i,s j i->s j' i->j=j':=λj j' i F J=>F.1.trans J.1.symm
    have ZQ:∀j i,s j i->g2 j=g1 i:=λj i F=>by
     obtain⟨rfl,hi⟩:=F;rcases qR i (ao_ E C.ps)with G|G
     .have h6:=Zs i G;obtain⟨l,hl⟩:=ZW _ (qw h6);rw[ZY _ l hl];exact(Zv i l (by unfold gOf;rw[h6];exact hl)).symm
     .rw[Zt i G];show(if _ then _ else g _)=_;rw[qL ⟨by omega,by omega⟩,show ao_ E C.ps+(nx+(i-ao_ E C.ps)-nx)=i by omega]
    have ZA:∀i l,((ao_ E C.ps+cH_ E C.rs<=i/\i<ao_ E C.ps+cH_ E C.rs+di_ E C.ps)\/(0<=i/\i<0+ao_ E C.ps))->g1 i=some l->g2 (renS (ao_ E C.ps) nx q.2 i)=some l:=λi l hi hl=>(ZQ _ i ⟨rfl,by omega⟩).trans hl
    have ZH:∀i o,upH (λ_=>none) (cY_ E C.rs rh (ao_ E C.ps)++aY_ E C.ps (dJ_ E C.ps q.1 bh) 0 (ao_ E C.ps+cH_ E C.rs)) i=some o->Plain E (λi=>(ao_ E C.ps+cH_ E C.rs<=i/\i<ao_ E C.ps+cH_ E C.rs+di_ E C.ps)\/(0<=i/\i<0+ao_ E C.ps)) o:=λi o ho=>by
     rcases qF.1 (iq_ ho)with F|F
     .obtain⟨p,hp,M,_⟩:=fv_ _ _ F;obtain rfl:=qSj hp;exact M _
     .obtain⟨p,hp,M,_⟩:=cn_ _ _ F;obtain rfl:=qSj hp;exact M
    have Zr:cH_ E C.rs+di_ E C.ps<=(callU E C nx q rh bh).length:=by
     unfold callU lentU;rw[qLa,ql,qLa,resO_len];have:=d6_ (ps:=C.ps) (a:=dJ_ E C.ps q.1 bh) (n:=0) (k:=ao_ E C.ps+cH_ E C.rs);omega
    have ZT:hk_ tab f=false->Ext w w':=λhl=>by
     have Zz:q.2=[]:=takeA_own (by simpa only[hk_,hC]using hl) hq;have ZS:=hx.chg;rw[Zz]at ZS;exact Ext.of_below (Chg.below ZS)
    .rcases hu with⟨Z,rfl⟩|⟨Z,Y,rfl⟩
     .refine⟨z',g2,ZX.trans ZK,ZY,λj V=>ZU j (by simp only[qLa]at V;omega),?_,?_,ZT⟩
      .exact oG_ (ql_ O x) ZJ λvs ZR=>lX_ O x ZR ZG (.inl rfl)
      .rw[←aT_];refine ZV.back2 (s:=s) hx (λk D => ?_) ZY (λj o V=>(rb_ V).imp (λ⟨i,U,ZZ,J,ho⟩=>⟨i,U,ZZ,J,by rw[ho];exact(hx.hold i U J).move2 (ZH i U J) ZA (.inl rfl) (ZQ j i ZZ)⟩) id) hs ZK hx.fz λk D => ?_
       .obtain⟨i,id,o,F,J,h3⟩:=jf_ D;exact⟨id,o,qw F,J,h3⟩
       .rcases hx.fz0 k D with F|F|F
        .exact .inl F
        .exact .inr ⟨.inl F,D⟩
        .exact .inr ⟨.inr F,D⟩
     ··simp only[qAn]at Y;obtain rfl:=ZB Z;have ZL:z.In w':=λk D=>by
        have F:=hx.fz k (ZX k D).1;exact⟨F.1,F.2.trans (ZX k D).2⟩
       have ZO:∀i U,upH (λ_=>none) (cY_ E C.rs rh (ao_ E C.ps)++aY_ E C.ps (dJ_ E C.ps q.1 bh) 0 (ao_ E C.ps+cH_ E C.rs)) i=some U->jg_ E U:=λi U J=>by
        rcases qF.1 (iq_ J)with h3|h3
        .obtain⟨p,hp,M⟩:=oE_ Y.1 _ _ h3;obtain rfl:=qSj hp;exact M
        .obtain⟨p,hp,M⟩:=c4_ Y.2 _ _ h3;obtain rfl:=qSj hp;exact M
       refine⟨z,g2,Fz.Le.refl z,ZY,λj V=>ZU j (by omega),?_,?_,ZT⟩
       .exact oG_ (ql_ O x) ZJ λvs ZR=>lX_ O x ZR ZG (.inr Y.1)
       .refine hH.back2 (s:=s) hx (λk D => ?_) ZY (λj o V=>(rb_ V).imp (λ⟨i,U,ZZ,J,ho⟩=>⟨i,U,ZZ,J,by rw[ho];exact(hx.hold i U J).move2 (ZH i U J) ZA (.inr (ZO i U J)) (ZQ j i ZZ)⟩) id) hs (Fz.Le.refl z) ZL λk D => .inl D
        obtain⟨i,id,o,F,J,h3⟩:=jf_ D;refine⟨id,o,qw F,?_,h3⟩;rcases upH_or J with h4|h4
        .exact h4
        .rcases frzP_only H C.ps xs _ _ h4 with⟨t,ys,G⟩|⟨t,y,G⟩
         .obtain rfl:=qSj G;exact h3.elim
         .obtain rfl:=qSj G;exact h3.elim
theorem lCall_ok{tab:Tab E}(ht:tab.OK P E){f:FuncId}{xs:tL (V1 E)}{vs:tL tW}{R:Type}{k:tO (SV E)->Chs E->tO R}{r:R}(q:Fresh g nx)(hH:HR P E Bs F0 w0 w z g H)(hv:All2 (R1 P E z g) xs vs)(h:lCall E tab H nx f xs k=some r) :
  c3_ P f=true/\Ret P f vs.toArray w λv w'=>∃s u z2 j,k (some s) u=some r/\z.Le z2/\g.Le j/\Fresh j (nxU nx u)/\RV P E z2 j s v/\HR P E Bs F0 w0 w' z2 j (upH H u)/\(hk_ tab f=false->Ext w w'):=by
 cases y:tab f with
 | none =>
  unfold lCall at h;rw[y]at h;cases h
 | some C =>
  cases J:C.I with
  | none =>
   obtain⟨F,s,u,hk,p⟩:=lCall_ok2 ht (λC' e=>by rw[y]at e;obtain rfl:=qSj e;exact J) q hv h;exact⟨F,(p Bs F0 w0 w hH).mono λv w' ⟨z2,j,Z,Y,V,U,O,M⟩=>⟨s,u,z2,j,hk,Z,Y,V.nxU,U,O,M⟩⟩
  | some I =>
   obtain⟨_,F,G⟩:=ht f C y;obtain⟨hl,D⟩:=G I J;unfold lCall at h;rw[y]at h;simp only[J]at h;refine⟨F,(D q hH hv h).mono λv w' ⟨s,u,z2,j,Z,Y,V,U,O,M⟩=>⟨s,u,z2,j,Z,Y,V,U,O,M,λx => ?_⟩⟩;unfold hk_ at x;rw[y]at x;simp only at x;rw[hl]at x;cases x
end
section
variable{P:tT}{E:TE}{w w0:tS}{Bs:tL Nat}{F0:Nat->Prop}
def iK_{α:Type}:tL (tO (tN×Ty))->tL (SC E)->Nat->(tL (SC E)->Chs E->Nat->α)->α|some (e,ty)::ps,.nils::cs,n,k=>iK_ ps cs (n+1) λl u m=>k (.own n::l) (u++[(n,some (.row e ty [] []))]) m|_::ps,c::cs,n,k=>iK_ ps cs n λl u m=>k (c::l) u m|_,cs,n,k=>k cs [] n
def wantM:Mk->tL Ty->tL (tO (tN×Ty))|some e::ms,.sl t::ts=>some (e,t)::wantM ms ts|_::ms,_::ts=>none::wantM ms ts|_,_=>[]
def kH_(E:TE){α:Type}(t:Ty)(m:Mk)(x:V1 E)(n:Nat)(k:V1 E->Chs E->Nat->α):α :=
 match x with
 | .agg l=>iK_ (wantM m (E.flat t)) l n λl u n'=>k (.agg l) u n'
 | .one c=>iK_ (wantM m (E.flat t)) [c] n λl u n'=>match l with
  | [f]=>k (.one f) u n'
  | _=>k (.one c) [] n
def PrepIs(P:tT)(E:TE)(Bs:tL Nat)(F0:Nat->Prop)(w0 w:tS)(z:Fz)(g:Ga)(H:Nat->tO (Obj E))(ps:tL (tO (tN×Ty)))(cs:tL (SC E))(n:Nat):Prop:=∃l u m g',(∀{α:Type} (k:tL (SC E)->Chs E->Nat->α),iK_ ps cs n k=k l u m)/\g.Le g'/\Fresh g' m/\HR P E Bs F0 w0 w z g' (upH H u)/\(∀z f vs,g'.Le f->All2 (RC P E z f) cs vs->All2 (RC P E z f) l vs)/\(∀i o,(i,o)∈u->n<=i/\o≠none)/\n<=m/\m<=n+u.length
theorem PrepIs.step{z:Fz}{g:Ga}{H:Nat->tO (Obj E)}{p:tO (tN×Ty)}{ps:tL (tO (tN×Ty))}{c:SC E}{cs:tL (SC E)}{n:Nat}(h:PrepIs P E Bs F0 w0 w z g H ps cs n)(s:∀{α:Type} (k:tL (SC E)->Chs E->Nat->α),iK_ (p::ps) (c::cs) n k=iK_ ps cs n λl u m=>k (c::l) u m) :
  PrepIs P E Bs F0 w0 w z g H (p::ps) (c::cs) n:=by
 obtain⟨l,u,m,g',J,G,F,D,C,y,x⟩:=h;exact⟨c::l,u,m,g',(λk=>(s k).trans (J _)),G,F,D,(λz M vs q j=>by
  cases j with
  | cons f hr=>exact .cons f (C z M _ q hr)),y,x⟩
theorem ic_{z:Fz}:∀(ps:tL (tO (tN×Ty))) (cs:tL (SC E)) {n:Nat} {g:Ga} {H:Nat->tO (Obj E)},HR P E Bs F0 w0 w z g H->Fresh g n->PrepIs P E Bs F0 w0 w z g H ps cs n
 | [],cs,n,g,H,j,f=>⟨cs,[],n,g,(λ_=>by cases cs<;>rfl),Ga.Le.refl g,f,j,(λ_ _ _ _ h=>h),(λ_ _ h=>nomatch h),qE _,qE _⟩
 | p::ps,[],n,g,H,j,f=>⟨[],[],n,g,(λ_=>by cases p<;>rfl),Ga.Le.refl g,f,j,(λ_ _ _ _ h=>h),(λ_ _ h=>nomatch h),qE _,qE _⟩
 | p :: ps,c::cs,n,g,H,j,f=>by
  have D:=ic_ ps cs j f;cases p with
  | none=>exact D.step λk=>by cases c<;>rfl
  | some q =>
   obtain⟨e,ty⟩:=q;cases c with
   | nils =>
    have y:=j.row_new (e:=e) (t:=ty) (xs:=[]) (A:=none) (cap:=0) (n:=0) (rows:=[]) f (Ext.refl w) rfl ⟨by simp,.inl ⟨rfl,rfl⟩⟩ rfl (λi x r C _=>by simp at C) (λq ⟨a,O,_⟩=>nomatch O);obtain⟨l,u,m,g',C,G,Z,Y,V,U,h7⟩:=ic_ ps cs y (f.put _);refine⟨.own n::l,u++[(n,some (.row e ty [] []))],m,g',(λk => ?_),(Ga.le_put f.self).trans G,Z,by rw[←aT_];exact Y,(λz g2 vs F M => ?_),(λi o s => ?_),by omega,by simp only[qLa,qLc,qQ];omega⟩
    .simp only[iK_];exact C _
    .cases M with
     | cons J hr=>exact .cons ⟨_,F _ _ (G _ _ (Ga.put_self _ _ _)),J⟩ (V z g2 _ F hr)
    .rcases qF.1 s with s|s
     .have:=U i o s;exact⟨by omega,this.2⟩
     .obtain⟨rfl,rfl⟩:=Prod.mk.inj (qH.1 s);exact⟨qE _,λe=>nomatch e⟩
   | _=>exact D.step λk=>rfl
theorem prepV_ok{z:Fz}{g:Ga}{H:Nat->tO (Obj E)}{n:Nat}(t:Ty)(m:Mk)(x:V1 E)(s:HR P E Bs F0 w0 w z g H)(q:Fresh g n) :
  ∃U u n' g',(∀{α:Type} (k:V1 E->Chs E->Nat->α),kH_ E t m x n k=k U u n')/\g.Le g'/\Fresh g' n'/\HR P E Bs F0 w0 w z g' (upH H u)/\(∀z f v,g'.Le f->R1 P E z f x v->R1 P E z f U v)/\(∀i o,(i,o)∈u->n<=i/\o≠none)/\n<=n'/\n'<=n+u.length:=by
 cases x with
 | agg l =>
  obtain⟨y,u,n',g',p,O,M,J,G,F,D⟩:=ic_ (wantM m (E.flat t)) l s q;refine⟨.agg y,u,n',g',(λk => ?_),O,M,J,(λz f v C j => ?_),F,D⟩
  .simp only[kH_];exact p _
  .obtain⟨vs,e,j⟩:=j;exact⟨vs,e,G z f vs C j⟩
 | one c =>
  obtain⟨y,u,n',g',p,O,M,J,G,F,D⟩:=ic_ (wantM m (E.flat t)) [c] s q;rcases y with _|⟨V,_|⟨c2,l2⟩⟩
  .exact⟨.one c,[],n,g,(λk=>by simp only[kH_];exact p _),Ga.Le.refl g,q,s,(λ_ _ _ _ h=>h),(λ_ _ h=>nomatch h),qE _,qE _⟩
  .exact⟨.one V,u,n',g',(λk=>by simp only[kH_];exact p _),O,M,J,(λz f v C j=>by
    have Z:All2 (RC P E z f) [V] [v]:=G z f [v] C (.cons j .nil);cases Z with
    | cons Y _=>exact Y),F,D⟩
  .exact⟨.one c,[],n,g,(λk=>by simp only[kH_];exact p _),Ga.Le.refl g,q,s,(λ_ _ _ _ h=>h),(λ_ _ h=>nomatch h),qE _,qE _⟩
theorem upH_far{H:Nat->tO (Obj E)}{i n:Nat}:∀{u:Chs E},(∀j o,(j,o)∈u->n<=j)->i<n->upH H u i=H i
 | [],_,_=>rfl
 | (j,p)::u,h,hi=>by
  simp only[upH];have:Nat.beq i j=false:=by
   cases q:Nat.beq i j with
   | false=>rfl
   | true=>have:=qNb q;have:=h j p (qT ..);omega
  rw[this];exact upH_far (u:=u) (λj o f=>h j o (qG _ f)) hi
def wantP(px:tV)(m:Mk)(ts:tL Ty):tL (tO (tN×Ty)):=match px with|true=>none::wantM m ts|false=>wantM m ts
def onNew{α:Type}:Chs E->α->α->α | [],a,_=>a|_::_,_,b=>b
def prepB{α:Type}(H:Nat->tO (Obj E))(f:tL (tO (tN×Ty)))(id n:Nat)(k:Chs E->Nat->α):α:=match H id with|some (.box T cs)=>iK_ f cs n λl u n'=>onNew u (k [] n) (k ((id,some (.box T l))::u) n')|_=>k [] n
def jA_(E:TE){α:Type}:(ps:tL Pm)->(Nat->tO (Obj E))->tL (V1 E)->Nat->(tL (V1 E)->Chs E->Nat->α)->α | .l t m::ps,H,x::xs,n,k=>kH_ E t m x n λp u j=>jA_ E ps (upH H u) xs j λxs' f h=>k (p::xs') (f++u) h | .g t m::ps,H,x::xs,n,k=>kH_ E t m x n λp u j=>jA_ E ps (upH H u) xs j λxs' f h=>k (p::xs') (f++u) h | .bm _ t m px::ps,H,.one (.ptr id 0)::xs,n,k=>prepB H (wantP (pxB px ps) m (E.flat t)) id n λu j=>jA_ E ps (upH H u) (hidX H (pxB px ps) id++xs) j λxs' f h=>k (.one (.ptr id 0)::xs'.drop (hidX H (pxB px ps) id).length) (f++u) h|_::ps,H,x::xs,n,k=>jA_ E ps H xs n λxs' u n'=>k (x::xs') u n' | [],_,xs,n,k=>k xs [] n|_::_,_,[],n,k=>k [] [] n
def PrepA(P:tT)(E:TE)(Bs:tL Nat)(F0:Nat->Prop)(w0 w:tS)(z:Fz)(g:Ga)(H:Nat->tO (Obj E))(ps:tL Pm)(xs:tL (V1 E))(n:Nat):Prop:=∃xs' u n' g',(∀{α:Type} (k:tL (V1 E)->Chs E->Nat->α),jA_ E ps H xs n k=k xs' u n')/\g.Le g'/\Fresh g' n'/\HR P E Bs F0 w0 w z g' (upH H u)/\(∀z2 f vs,z.Le z2->g'.Le f->All2 (R1 P E z2 f) xs vs->All2 (R1 P E z2 f) xs' vs)/\n'<=n+u.length/\∀i o,(i,o)∈u->o≠none
theorem HR.up{z:Fz}{g g':Ga}{H:Nat->tO (Obj E)}{i:Nat}{f o2:Obj E}(h:HR P E Bs F0 w0 w z g H)(y:g.Le g')(hi:H i=some f)(u:∀z w,ObjR P E z g w i f->ObjR P E z g' w i o2)(D:∀k,fpO g' i o2 k↔fpO g i f k):HR P E Bs F0 w0 w z g' (upH H [(i,some o2)]):=by
 refine h.turn y (i:=i) (i':=i) (C:=λk=>fpO g i f k) (λk q=>⟨f,hi,q⟩) (Grow.refl w) (λk _ _=>rfl) (u z w (h.hold i f hi)) (λk q => .inl ((D k).1 q)) λj p x => ?_
 rcases bi_ x with⟨rfl,rfl⟩|⟨s,F⟩
 .exact .inl ⟨rfl,rfl⟩
 .exact .inr ⟨s,.inl s,F⟩
theorem prepB_ok{z:Fz}{g:Ga}{H:Nat->tO (Obj E)}(C:tL (tO (tN×Ty)))(id n:Nat)(x:HR P E Bs F0 w0 w z g H)(s:Fresh g n) :
  ∃u n' g',(∀{α:Type} (k:Chs E->Nat->α),prepB H C id n k=k u n')/\g.Le g'/\Fresh g' n'/\HR P E Bs F0 w0 w z g' (upH H u)/\n'<=n+u.length/\∀i o,(i,o)∈u->o≠none:=by
 unfold prepB;split
 .rename_i T cs hi;obtain⟨l,u,m,g',G,h2,Z,Y,V,F,h7,q⟩:=ic_ C cs x s;cases u with
  | nil=>exact⟨[],n,g,(λk=>G _),Ga.Le.refl g,s,x,qE _,λ_ _ h=>nomatch h⟩
  | cons p u =>
   obtain⟨lo,D⟩:=(x.hold _ _ hi).loc;have U:id<n:=by
    rcases qR id n with q|q
    .exact q
    .rw[s id q]at D;cases D
   have y:upH H (p::u) id=some (.box T cs):=(upH_far (λi o h=>(F i o h).1) U).trans hi;have j:=Y.up (Ga.Le.refl g') y (o2 := .box T l) (λz w f=>by
    obtain⟨lo',vs,O,M,J⟩:=f;exact⟨lo',vs,O,M,V z g' vs (Ga.Le.refl g') J⟩) (λk=>Iff.rfl)
   refine⟨(id,some (.box T l))::p::u,m,g',(λk=>G _),h2,Z,?_,by simp only[qLc]at q ⊢;omega,λi o f => ?_⟩
   .rw[aT_]at j;exact j
   .rcases qD.1 f with f|f
    .obtain⟨_,rfl⟩:=Prod.mk.inj f;exact λe=>nomatch e
    .exact(F i o f).2
 .exact⟨[],n,g,(λk=>rfl),Ga.Le.refl g,s,x,qE _,λ_ _ h=>nomatch h⟩
theorem PrepA.skip{z:Fz}{g:Ga}{H:Nat->tO (Obj E)}{p:Pm}{ps:tL Pm}{x:V1 E}{xs:tL (V1 E)}{n:Nat}(h:PrepA P E Bs F0 w0 w z g H ps xs n)(y:∀{α:Type} (k:tL (V1 E)->Chs E->Nat->α),jA_ E (p::ps) H (x::xs) n k=jA_ E ps H xs n λxs' u n'=>k (x::xs') u n') :
  PrepA P E Bs F0 w0 w z g H (p::ps) (x::xs) n:=by
 obtain⟨xs',u,n',g',M,J,G,F,D,C⟩:=h;exact⟨x::xs',u,n',g',(λk=>(y k).trans (M _)),J,G,F,(λz2 O vs f s q=>by
  cases q with
  | cons j hr=>exact .cons j (D z2 O _ f s hr)),C⟩
theorem prepA_ok {z:Fz}:∀(ps:tL Pm) {H:Nat->tO (Obj E)} (xs:tL (V1 E)) {n:Nat} {g:Ga},HR P E Bs F0 w0 w z g H->Fresh g n->PrepA P E Bs F0 w0 w z g H ps xs n:=by
 intro ps
 induction ps with
 | nil =>
  intro H xs n g f j;exact⟨xs,[],n,g,(λk=>by cases xs<;>rfl),Ga.Le.refl g,j,f,(λ_ _ _ _ _ h=>h),qE _,λ_ _ h=>nomatch h⟩
 | cons p ps q =>
  intro H xs n g f j;cases xs with
  | nil=>exact⟨[],[],n,g,(λk=>by cases p<;>rfl),Ga.Le.refl g,j,f,(λ_ _ _ _ _ h=>h),qE _,λ_ _ h=>nomatch h⟩
  | cons x xs =>
   have row:∀(t:Ty) (m:Mk),(∀{α:Type} (k:tL (V1 E)->Chs E->Nat->α),jA_ E (p::ps) H (x::xs) n k=kH_ E t m x n λU u V=>jA_ E ps (upH H u) xs V λxs' F G=>k (U::xs') (F++u) G)->PrepA P E Bs F0 w0 w z g H (p::ps) (x::xs) n:=λt m he=>by
    obtain⟨U,u,V,g1,h1,O,h3,h4,h5,h6,h7,h8⟩:=prepV_ok t m x f j;obtain⟨xs',F,G,g2,k1,J,k3,Z,y,k6,Y⟩:=q xs h4 h3;refine⟨U::xs',F++u,G,g2,(λk=>(he k).trans ((h1 _).trans (k1 _))),O.trans J,k3,by rw[←aT_];exact Z,(λz3 D vs M C hv => ?_),by rw[qLa];omega,λi o s => ?_⟩
    .cases hv with
     | cons hx hr=>exact .cons (h5 z3 D _ (J.trans C) hx) (y z3 D _ M C hr)
    .rcases qF.1 s with s|s
     .exact Y i o s
     .exact(h6 i o s).2
   cases p with
   | l t m=>exact row t m λk=>rfl
   | g t m=>exact row t m λk=>rfl
   | bm T t m px =>
    cases x with
    | agg l=>exact(q xs f j).skip λk=>rfl
    | one c =>
     cases c with
     | ptr id off =>
      cases off with
      | succ off=>exact(q xs f j).skip λk=>rfl
      | zero =>
       obtain⟨u,V,g1,h1,O,h3,h4,h5,h6⟩:=prepB_ok (wantP (pxB px ps) m (E.flat t)) id n f j;obtain⟨xs',F,G,g2,k1,J,k3,Z,y,k6,Y⟩:=q (hidX H (pxB px ps) id++xs) h4 h3;refine⟨.one (.ptr id 0)::xs'.drop (hidX H (pxB px ps) id).length,F++u,G,g2,(λk=>(h1 _).trans (k1 _)),O.trans J,k3,by rw[←aT_];exact Z,(λz3 D vs M C hv => ?_),by rw[qLa];omega,λi o s => ?_⟩
       .cases hv with
        | cons hx hr =>
         refine .cons hx ?_;unfold hidX at y ⊢;split at y
         .rename_i hi;obtain⟨lo,ZX,_,_,ZZ⟩:=f.hold _ _ hi;cases ZZ with
          | cons hp _ =>
           obtain⟨l2,ZY,_⟩:=hp;have hq:∃l,D _=some l/\Value.pointer (some ⟨l2.b,0,none⟩)=Value.pointer (some ⟨l.b,0,none⟩):=⟨l2,C _ _ (J _ _ (O _ _ ZY)),rfl⟩;have:=y z3 D (Value.pointer (some ⟨l2.b,0,none⟩)::_) M C (All2.cons hq hr);cases this with
           | cons _ h9=>exact h9
         .exact y z3 D _ M C hr
       .rcases qF.1 s with s|s
        .exact Y i o s
        .exact h6 i o s
     | _=>exact(q xs f j).skip λk=>rfl
   | d t=>exact(q xs f j).skip λk=>rfl
   | b T t=>exact(q xs f j).skip λk=>rfl
   | p t=>exact(q xs f j).skip λk=>rfl
   | mp T k v=>exact(q xs f j).skip λk=>rfl
   | f1 a r=>exact(q xs f j).skip λk=>rfl
   | f2 a b r=>exact(q xs f j).skip λk=>rfl
end
section
variable{P:tT}{E:TE}{z z':Fz}{g g':Ga}{nx:Nat}{w w' w0:tS}{H H':Nat->tO (Obj E)}{L:Nat->tO (SV E)}{ρ:tI->tW}{o:tP}{Bs:tL Nat}{F0:Nat->Prop}{R:Type}{r:R}
def kI_(E:TE)(L:Nat->tO (SV E)):tL tI->tO (tL (V1 E))
 | []=>some []
 | x::l=>match opS E L x,kI_ E L l with
  | some (.v v),some vs=>some (v::vs)
  | _,_=>none
theorem id_(hρ:OpR P E z g L ρ):∀{l:tL tI} {xs:tL (V1 E)},kI_ E L l=some xs->All2 (R1 P E z g) xs (l.map ρ)
 | [],xs,h=>by simp only[kI_,qOi]at h;subst h;exact .nil
 | x::l,xs,h=>by
  simp only[kI_]at h;split at h
  .rename_i v vs j f;obtain rfl:=qSj h;exact .cons (hρ x _ j) (id_ hρ f)
  .cases h
theorem rc_{f:FuncId}{args:Array tI}{ats:Array tN}(h:o.op = .call { callee := .value (.func f),args:=args,argTypes:=ats })(j:ρ (.func f) = .func (.func f) #[] #[])(p:c3_ P f=true)(w:tS) :
  (execOp ρ o).run P w = .ok (.enter f (args.toList.map ρ).toArray) w:=by
 unfold execOp;rw[h];simp only[resolve,j,Deferred.ofValue,Sem.run_bind,Sem.run_pure,Result.andThen_ok,invoke];have e:(#[]++args.map ρ ++ #[]:Array tW)=(args.toList.map ρ).toArray:=by
  rw[←List.map_toArray];simp
 rw[e];exact ov_ p
theorem mu_{x:tI}{f:FuncId}{caps:Array tW}{args:Array tI}{ats:Array tN}(h:o.op = .call { callee := .value x,args:=args,argTypes:=ats })(j:ρ x = .func (.func f) #[] caps)(p:c3_ P f=true)(w:tS) :
  (execOp ρ o).run P w = .ok (.enter f ((args.toList.map ρ).toArray++caps)) w:=by
 unfold execOp;rw[h];simp only[resolve,j,Deferred.ofValue,Sem.run_bind,Sem.run_pure,Result.andThen_ok,invoke];have e:(#[]++args.map ρ++caps:Array tW)=(args.toList.map ρ).toArray++caps:=by
  rw[←List.map_toArray];simp
 rw[e];exact ov_ p
theorem ns_{t:Ty}{x:V1 E}{d:Den E.S t}{v:tW}(p:HR P E Bs F0 w0 w z g H)(h:takeD E H t x=some d)(hr:R1 P E z g x v):RT E z t d v:=by
 unfold takeD at h;split at h
 .rename_i q j f;obtain rfl:=qSj h;cases x with
  | one c =>
   have:=el_ p f (.cons hr .nil:All2 (RC P E z g) [c] [v]);cases t with
   | st n=>cases j
   | int k=>exact this
   | bool=>exact this
   | str=>exact this
   | sl e=>exact this
  | agg l =>
   obtain⟨vs,rfl,hr⟩:=hr;have:=el_ p f hr;cases t with
   | st n =>
    have s:RD E z (E.flat (.st n)) (E.fl (.st n) (E.ufl (.st n) q)) vs:=by rw[E.fl_ufl];exact this
    exact⟨vs,rfl,s⟩
   | _=>cases j
 .cases h
def lCallV(E:TE)(L:Nat->tO (SV E))(H:Nat->tO (Obj E))(x:tI)(args:tL tI){R:Type}(k:tO (SV E)->Chs E->tO R):tO R :=
 match opS E L x,kI_ E L args with
 | some (.v (.one (.fn1 a r f))),some [u]=>match takeD E H a u with
  | some d=>Option.bind (f d) λy=>k (some (.v (.one (.dt r y)))) []
  | none=>none
 | some (.v (.one (.fn2 a b r f))),some [u,v]=>match takeD E H a u,takeD E H b v with
  | some d,some e=>Option.bind (f d e) λy=>k (some (.v (.one (.dt r y)))) []
  | _,_=>none
 | _,_=>none
theorem lCallV_ok{x:tI}{args:tL tI}{k:tO (SV E)->Chs E->tO R}(hρ:OpR P E z g L ρ)(p:HR P E Bs F0 w0 w z g H)(h:lCallV E L H x args k=some r) :
  ∃f caps s,ρ x = .func (.func f) #[] caps/\c3_ P f=true/\k (some s) []=some r/\Ret P f ((args.map ρ).toArray++caps) w λv w'=>RV P E z g s v/\Ext w w':=by
 unfold lCallV at h;split at h
 .rename_i a r' f u D F;split at h
  .rename_i d J;obtain⟨y,C,h⟩:=bind_some h;obtain⟨fid,caps,e,⟨O,G⟩,M⟩:=hρ x _ D;have j:=id_ hρ F;generalize args.map ρ=vs at j;cases j with
   | cons U q =>
    cases q
    exact⟨fid,caps,_,e,O,h,M w z (d,()) y _ (Fz.Le.refl z) p.fz ⟨_,_,rfl,ns_ p J U,rfl⟩ C⟩
  .cases h
 .rename_i a b r' f u v D F;split at h
  .rename_i d Z J V;obtain⟨y,C,h⟩:=bind_some h;obtain⟨fid,caps,e,⟨O,G⟩,M⟩:=hρ x _ D;have j:=id_ hρ F;generalize args.map ρ=vs at j;cases j with
   | cons U q =>
    cases q with
    | cons q Y =>
     cases Y
     exact⟨fid,caps,_,e,O,h,M w z (d,Z,()) y _ (Fz.Le.refl z) p.fz ⟨_,_,rfl,ns_ p J U,_,_,rfl,ns_ p V q,rfl⟩ C⟩
  .cases h
 .cases h
def capsV(E:TE):tL Nat->tL (V1 E) | []=>[]|i::l => .one (.ptr i 0)::capsV E l
theorem qn_:∀{ids:tL Nat} {f:tL tW},All2 (λid u=>∃l,g id=some l/\u=Value.pointer (some ⟨l.b,0,none⟩)) ids f->All2 (R1 P E z g) (capsV E ids) f
 | [],_,h=>by cases h;exact .nil
 | i::ids,_,h=>by
  cases h with
  | cons p j=>exact .cons p (qn_ j)
def psOf(tab:Tab E)(f:FuncId):tL Pm:=match tab f with|some C=>C.ps|none=>[]
def pCall(E:TE)(tab:Tab E)(H:Nat->tO (Obj E))(nx:Nat)(f:FuncId)(xs:tL (V1 E)){R:Type}(k:tO (SV E)->Chs E->tO R):tO R:=jA_ E (psOf tab f) H xs nx λxs u n=>lCall E tab (upH H u) n f xs λs h=>k s (h++u)
theorem nxU_app{nx n':Nat}{u f:Chs E}(h:n'<=nx+u.length)(x:∀i o,(i,o)∈u->o≠none):nxU n' f<=nxU nx (f++u):=by
 cases f with
 | nil =>
  cases u with
  | nil=>simp only[qQ]at h;simp only[nxU,zP];omega
  | cons p u =>
   obtain⟨i,o⟩:=p;cases o with
   | none=>exact(x i none (qT ..) rfl).elim
   | some o=>simp only[qLc]at h;simp only[nxU,zy];omega
 | cons p f =>
  obtain⟨i,o⟩:=p;cases o with
  | some o=>simp only[nxU,qc,qLa];omega
  | none =>
   simp only[nxU,qc,qLa];cases s:Nat.ble (n'+1+(f.length+1)) (i+1)<;>cases q:Nat.ble (nx+1+(f.length+List.length u+1)) (i+1)<;>simp only
   .omega
   .have C:=zD q;have y:n'+1+(f.length+1)<=i+1:=by omega
    rw[jQ y]at s;cases s
   .have C:¬(nx+1+(f.length+List.length u+1)<=i+1):=λj=>by rw[jQ j]at q;cases q
    omega
   .exact qE _
theorem pCall_ok{tab:Tab E}(V:tab.OK P E){f:FuncId}{xs:tL (V1 E)}{vs:tL tW}{R:Type}{k:tO (SV E)->Chs E->tO R}{r:R}(p:Fresh g nx)(Z:HR P E Bs F0 w0 w z g H)(U:All2 (R1 P E z g) xs vs)(h:pCall E tab H nx f xs k=some r) :
  c3_ P f=true/\Ret P f vs.toArray w λv w'=>∃s u z2 j,k (some s) u=some r/\z.Le z2/\g.Le j/\Fresh j (nxU nx u)/\RV P E z2 j s v/\HR P E Bs F0 w0 w' z2 j (upH H u)/\(hk_ tab f=false->Ext w w'):=by
 unfold pCall at h;obtain⟨xs',u,n',g',h1,x,h3,h4,h5,h6,h7⟩:=prepA_ok (psOf tab f) xs Z p;rw[h1]at h;obtain⟨Y,hr⟩:=lCall_ok V h3 h4 (h5 z g' vs (Fz.Le.refl z) (Ga.Le.refl g') (U.mono λ_ _ O=>R1.le O (Fz.Le.refl z) x)) h;refine⟨Y,hr.mono λv w' ⟨s,y,z2,j,M,J,G,F,D,q,C⟩=>⟨s,y++u,z2,j,M,J,x.trans G,λi hi=>F i (zQ (nxU_app h6 h7) hi),D,?_,C⟩⟩;rw[aT_]at q;exact q
noncomputable def evOp(P:tT)(E:TE)(eqs:tL (Nat×Nat))(tab:Tab E)(L:Nat->tO (SV E))(H:Nat->tO (Obj E))(nx:Nat)(o:tP){R:Type}(k:tO (SV E)->Chs E->tO R):tO R :=
 match o.op with
 | .box T x=>lBox E L nx T x k
 | .alloc T=>lAlloc P E nx T k
 | .store T x y=>lStore P E L H T x y k
 | .buildSlice T n ps=>lSlice P E L H nx T n ps k
 | .makeSlice T x y=>lMake P E L nx T x y k
 | .call { callee := .builtin .append,args:=⟨[x,y]⟩,argTypes:=⟨[T,T']⟩ }=>match Nat.beq T T' with
  | true=>lApp P E L H nx T x y k
  | false=>lAppS P E L H nx T T' x y k
 | .call { callee := .builtin .copy,args:=⟨[x,y]⟩,argTypes:=⟨[T,_]⟩ }=>lCopy P E L H T x y k
 | .call { callee := .builtin .clear,args:=⟨[x]⟩,argTypes:=⟨[T]⟩ }=>lClear P E L H T x k
 | .call { callee := .value (.func f),args:=args,argTypes:=_ }=>match kI_ E L args.toList with
  | some xs=>pCall E tab H nx f xs k
  | none=>none
 | .call { callee := .value (.tmp t),args:=args,argTypes:=_ }=>match L t with
  | some (.v (.one (.clo f ids)))=>match kI_ E L args.toList with
   | some xs=>pCall E tab H nx f (xs++capsV E ids) k
   | none=>none
  | _=>lCallV E L H (.tmp t) args.toList k
 | _=>qOp P E eqs L H nx o λs up=>k (some s) (match up with|none=>[]|some (i,p)=>[(i,some p)])
def gq_(tab:Tab E)(L:Nat->tO (SV E))(o:tP):tV:=match o.op with
 | .store .. => false
 | .mapUpdate .. => false
 | .mapEntry .. => false
 | .entryStore .. => false
 | .call { callee := .builtin .append,args:=_,argTypes:=_ }=>false
 | .call { callee := .builtin .copy,args:=_,argTypes:=_ }=>false
 | .call { callee := .builtin .clear,args:=_,argTypes:=_ }=>false
 | .call { callee := .value (.func f),args:=_,argTypes:=_ } => !(hk_ tab f)
 | .call { callee := .value (.tmp t),args:=_,argTypes:=_ }=>match L t with
  | some (.v (.one (.clo f _))) => !(hk_ tab f)
  | _=>true
 | _=>true
theorem lx_{eqs:tL (Nat×Nat)}{tab:Tab E}{N:Nat}{a:Act}{K:Act->tS->Prop}{Q:Exit->Act->tS->Prop}{k:tO (SV E)->Chs E->tO R}(ZU:∀p∈eqs,bd_ P E p.1 p.2)(C:tab.OK P E)(j:Fresh g nx)(U:ER P E z g N a L)(D:HR P E Bs F0 w0 w z g H)
  (h:evOp P E eqs tab L H nx o k=some r)
  (Z:∀s u v w' z2 F,k s u=some r->z.Le z2->g.Le F->ER P E z2 F N a L->HR P E Bs F0 w0 w' z2 F (upH H u)->Fresh F (nxU nx u)->(∀sv,s=some sv->RV P E z2 F sv v)->(gq_ tab L o=true->Ext w w')->K (a.put o.dst v) w'):o.wp P a w K Q:=by
 have hρ:=U.op D.gl;have hρc:∀v,a.eval (.const v)=v:=λv=>rfl
 have loud:∀{ex:tV},(gq_ tab L o=true->ex=true)->gF_ P E Bs F0 w0 w z g nx H a.eval o ex k r->o.wp P a w K Q:=by
  rintro ex ZX ⟨s,u,z2,F,w',n,M,C⟩;unfold Oper.wp;rw[C.run];have O:Fresh F (nxU nx u):=Fresh.nxU λi hi=>C.fresh i (by omega)
  cases s with
  | some sv =>
   obtain⟨v,rfl,hv⟩:=C.val;exact Z _ u v w' z2 F M C.le C.leg (U.le C.le C.leg) C.hr O (λsv' e=>by obtain rfl:=qSj e;exact hv) λJ=>C.ext (ZX J)
  | none =>
   have hn:n = .skip:=C.val;subst hn;exact Z none u undef w' z2 F M C.le C.leg (U.le C.le C.leg) C.hr O (λsv' e=>by cases e) λJ=>C.ext (ZX J)
 unfold evOp at h;split at h
 .rename_i T x q;exact loud (λ_=>rfl) (lBox_ok q j hρ D h)
 .rename_i T q;exact loud (λ_=>rfl) (lAlloc_ok q j D h)
 .rename_i T x y q;exact loud (λJ=>by simp[gq_,q]at J) (lStore_ok q j hρ D h)
 .rename_i T n ps q;exact loud (λ_=>rfl) (lSlice_ok q j hρ D h)
 .rename_i T x y q;exact loud (λ_=>rfl) (lMake_ok q hρc j hρ D h)
 .rename_i x y T T' q;split at h
  .rename_i Y;obtain rfl:=qNb Y;exact loud (λJ=>by simp[gq_,q]at J) (lApp_ok q j hρ D h)
  .exact loud (λJ=>by simp[gq_,q]at J) (lAppS_ok q j hρ D h)
 .rename_i x y T T2 q;exact loud (λJ=>by simp[gq_,q]at J) (lCopy_ok q j hρ D h)
 .rename_i x T q;exact loud (λJ=>by simp[gq_,q]at J) (lClear_ok q j hρ D h)
 .rename_i f args ats q;split at h
  .rename_i xs V;obtain⟨Y,G⟩:=pCall_ok C j D (id_ hρ V) h;unfold Oper.wp;rw[rc_ q rfl Y];simp only[Oper.upon];refine Calls.mono G λe w' ⟨v,he,s,u,z2,F,M,h1,h2,h3,h4,h5,h6⟩ => ?_
   subst he;exact Z _ u v w' z2 F M h1 h2 (U.le h1 h2) h5 h3 (λsv' e=>by obtain rfl:=qSj e;exact h4) λJ=>h6 (by simpa[gq_,q]using J)
  .cases h
 .rename_i t args ats q;split at h
  .rename_i f ids hL;split at h
   .rename_i xs V;obtain⟨us,hf,ZW⟩:=hρ (.tmp t) _ hL;obtain⟨Y,G⟩:=pCall_ok C j D ((id_ hρ V).append (qn_ ZW)) h;unfold Oper.wp;rw[mu_ q hf Y];simp only[Oper.upon];have e:(args.toList.map a.eval).toArray++us.toArray=(args.toList.map a.eval++us).toArray:=by simp
    rw[e];refine Calls.mono G λe w' ⟨v,he,s,u,z2,F,M,h1,h2,h3,h4,h5,h6⟩ => ?_
    subst he;exact Z _ u v w' z2 F M h1 h2 (U.le h1 h2) h5 h3 (λsv' e=>by obtain rfl:=qSj e;exact h4) λJ=>h6 (by simpa[gq_,q,hL]using J)
   .cases h
  .obtain⟨f,caps,s,hf,Y,M,G⟩:=lCallV_ok hρ D h;unfold Oper.wp;rw[mu_ q hf Y];simp only[Oper.upon];refine Calls.mono G λe w' ⟨v,he,hv,hx⟩ => ?_
   subst he;exact Z _ [] v w' z g M (Fz.Le.refl z) (Ga.Le.refl g) U (D.ext hx) (Fresh.nxU λi hi=>j i (by omega)) (λsv' e=>by obtain rfl:=qSj e;exact hv) λ_=>hx
 .obtain⟨s,v,up,F,M,hg,ZV,hv,ZY,ZZ⟩:=qOp_ok (W:=w) (I:=λw'=>w'=w) ZU j.self hρ D (λw' e=>by subst e;exact Stands.refl D) h;unfold Oper.wp;rw[ZY w rfl];have O:∀m,Fresh F (nx+1+m):=λm i hi=>by rw[ZV i (by omega)];exact j i (by omega)
  cases up with
  | none =>
   obtain rfl:=ZZ;exact Z _ [] v w z F M (Fz.Le.refl z) (Ga.Le.refl F) U D (O _).nxU (λsv' e=>by obtain rfl:=qSj e;exact hv) λ_=>Ext.refl w
  | some p =>
   obtain⟨i,o2⟩:=p;obtain⟨o1,h1,h2,h3⟩:=ZZ;exact Z _ [(i,some o2)] v w z F M (Fz.Le.refl z) hg (U.le (Fz.Le.refl z) hg) (D.up hg h1 h2 h3) (O _).nxU (λsv' e=>by obtain rfl:=qSj e;exact hv) λ_=>Ext.refl w
theorem evOp_ok{eqs:tL (Nat×Nat)}{tab:Tab E}{N:Nat}{a:Act}{K:Act->tS->Prop}{Q:Exit->Act->tS->Prop}{k:tO (SV E)->Chs E->tO R}(q:∀p∈eqs,bd_ P E p.1 p.2)(x:tab.OK P E)(j:Fresh g nx)(D:ER P E z g N a L)(C:HR P E Bs F0 w0 w z g H)
  (h:evOp P E eqs tab L H nx o k=some r)
  (y:∀s u v w' z2 f,k s u=some r->z.Le z2->g.Le f->ER P E z2 f N a L->HR P E Bs F0 w0 w' z2 f (upH H u)->Fresh f (nxU nx u)->(∀sv,s=some sv->RV P E z2 f sv v)->K (a.put o.dst v) w'):o.wp P a w K Q :=
 lx_ q x j D C h λs u v w' z2 f V U O M J G F _=>y s u v w' z2 f V U O M J G F
end
section
variable{P:tT}{E:TE}{z z':Fz}{g g':Ga}{nx:Nat}{w w' W w0:tS}{I:tS->Prop}{H H':Nat->tO (Obj E)}{L:Nat->tO (SV E)}{ρ:tI->tW}{o:tP}{Bs:tL Nat}{F0:Nat->Prop}{R:Type}{r:R}
def SC.enc:SC E->tO tW | .dt (.int k) n=>some (.int k n) | .dt .bool b=>some (.bool b) | .dt .str s=>some (S s)|_=>none
def encCs:tL (SC E)->tO (tL tW)
 | []=>some []
 | c::l=>match c.enc,encCs l with
  | some v,some vs=>some (v::vs)
  | _,_=>none
def V1.enc:V1 E->tO tW
 | .one c=>c.enc
 | .agg l=>match encCs l with
  | some vs=>some (.agg vs.toArray)
  | none=>none
def encVs:tL (V1 E)->tO (tL tW)
 | []=>some []
 | c::l=>match c.enc,encVs l with
  | some v,some vs=>some (v::vs)
  | _,_=>none
def SV.enc:SV E->tO tW
 | .v x=>x.enc
 | .tup l=>match encVs l with
  | some vs=>some (.tuple vs.toArray)
  | none=>none
theorem SC.enc_ok{c:SC E}{u v:tW}(h:c.enc=some u):RC P E z g c v↔v=u:=by
 unfold SC.enc at h;split at h
 .obtain rfl:=qSj h;exact⟨λhr=>by obtain⟨vs,e,_⟩:=RD.int_inv (hr:RD E z _ _ [v]);simp at e;exact e.1,λe=>by subst e;exact RD.int .nil⟩
 .obtain rfl:=qSj h;exact⟨λhr=>by obtain⟨vs,e,_⟩:=RD.bool_inv (hr:RD E z _ _ [v]);simp at e;exact e.1,λe=>by subst e;exact RD.bool .nil⟩
 .obtain rfl:=qSj h;exact⟨λhr=>by obtain⟨vs,e,_⟩:=RD.str_inv (hr:RD E z _ _ [v]);simp at e;exact e.1,λe=>by subst e;exact RD.str .nil⟩
 .cases h
theorem nt_:∀{l:tL (SC E)} {j vs:tL tW},encCs l=some j->(All2 (RC P E z g) l vs↔vs=j)
 | [],j,vs,h=>by
  obtain rfl:=qSj h;exact⟨λh=>by cases h;rfl,λe=>by subst e;exact .nil⟩
 | c :: l,j,vs,h=>by
  simp only[encCs]at h;split at h
  .rename_i v vs' p f;obtain rfl:=qSj h;refine⟨λh => ?_,λe => ?_⟩
   .cases h with
    | cons s q =>
     obtain rfl:=(SC.enc_ok p).1 s;obtain rfl:=(nt_ f).1 q;rfl
   .subst e;exact .cons ((SC.enc_ok p).2 rfl) ((nt_ f).2 rfl)
  .cases h
theorem V1.enc_ok{x:V1 E}{u v:tW}(h:x.enc=some u):R1 P E z g x v↔v=u:=by
 cases x with
 | one c=>exact SC.enc_ok h
 | agg l =>
  simp only[V1.enc]at h;split at h
  .rename_i vs f;obtain rfl:=qSj h;exact⟨λ⟨p,e,j⟩=>by obtain rfl:=(nt_ f).1 j;exact e,λe=>⟨vs,e,(nt_ f).2 rfl⟩⟩
  .cases h
theorem ly_:∀{l:tL (V1 E)} {j vs:tL tW},encVs l=some j->(All2 (R1 P E z g) l vs↔vs=j)
 | [],j,vs,h=>by
  obtain rfl:=qSj h;exact⟨λh=>by cases h;rfl,λe=>by subst e;exact .nil⟩
 | c :: l,j,vs,h=>by
  simp only[encVs]at h;split at h
  .rename_i v vs' p f;obtain rfl:=qSj h;refine⟨λh => ?_,λe => ?_⟩
   .cases h with
    | cons s q =>
     obtain rfl:=(V1.enc_ok p).1 s;obtain rfl:=(ly_ f).1 q;rfl
   .subst e;exact .cons ((V1.enc_ok p).2 rfl) ((ly_ f).2 rfl)
  .cases h
theorem SV.enc_ok{x:SV E}{u v:tW}(h:x.enc=some u):RV P E z g x v↔v=u:=by
 cases x with
 | v x=>exact V1.enc_ok h
 | tup l =>
  simp only[SV.enc]at h;split at h
  .rename_i vs f;obtain rfl:=qSj h;exact⟨λ⟨p,e,j⟩=>by obtain rfl:=(ly_ f).1 j;exact e,λe=>⟨vs,e,(ly_ f).2 rfl⟩⟩
  .cases h
def qCall(E:TE)(tab:Tab E)(H:Nat->tO (Obj E))(nx:Nat)(f:FuncId)(xs:tL (V1 E)){R:Type}(k:tO (SV E)->Chs E->tO R):tO R :=
 match hk_ tab f with
 | true=>none
 | false=>lCall E tab H nx f xs λs u=>match s,u with
  | some sv,[]=>match sv.enc with
   | some _=>k (some sv) []
   | none=>none
  | _,_=>none
noncomputable def hL_(P:tT)(E:TE)(eqs:tL (Nat×Nat))(tab:Tab E)(L:Nat->tO (SV E))(H:Nat->tO (Obj E))(nx:Nat)(o:tP){R:Type}(k:tO (SV E)->Chs E->tO R):tO R :=
 match o.op with
 | .call { callee := .value (.func f),args:=args,argTypes:=_ }=>match kI_ E L args.toList with
  | some xs=>qCall E tab H nx f xs k
  | none=>none
 | .call { callee := .value (.tmp t),args:=args,argTypes:=_ }=>match L t with
  | some (.v (.one (.clo f ids)))=>match kI_ E L args.toList with
   | some xs=>qCall E tab H nx f (xs++capsV E ids) k
   | none=>none
  | _=>none
 | _=>qOp P E eqs L H nx o λs up=>k (some s) (match up with|none=>[]|some (i,p)=>[(i,some p)])
def Keeps(P:tT)(E:TE)(z:Fz)(g:Ga)(H:Nat->tO (Obj E))(W w:tS):Prop:=Stands z g H W w/\∃Bs F0 w0,HR P E Bs F0 w0 w z g H
theorem Keeps.of_ext(f:HR P E Bs F0 w0 W z g H)(h:Ext W w):Keeps P E z g H W w:=⟨Stands.of_ext f h,_,_,_,f.ext h⟩
def Quiet(P:tT)(E:TE)(Bs:tL Nat)(F0:Nat->Prop)(w0 W:tS)(I:tS->Prop)(z:Fz)(g:Ga)(nx:Nat)(H:Nat->tO (Obj E))(ρ:tI->tW)(o:tP){R:Type}(k:tO (SV E)->Chs E->tO R)(r:R):Prop:=∃s u v f,k (some s) u=some r/\g.Le f/\HR P E Bs F0 w0 W z f (upH H u)/\Fresh f (nx+1+u.length)/\RV P E z f s v/\∀w',I w'->Oper.quietUponX P w' v ((execOp ρ o).run P w')
theorem qCall_ok{tab:Tab E}(V:tab.OK P E)(y:Fresh g nx)(hH:HR P E Bs F0 w0 W z g H)(hI:∀w',I w'->Keeps P E z g H W w'){f:FuncId}{xs:tL (V1 E)}{vs:tL tW}{k:tO (SV E)->Chs E->tO R}(Z:All2 (R1 P E z g) xs vs)(h:qCall E tab H nx f xs k=some r)
  (q:c3_ P f=true->∀w',(execOp ρ o).run P w' = .ok (.enter f vs.toArray) w'):Quiet P E Bs F0 w0 W I z g nx H ρ o k r:=by
 unfold qCall at h;split at h
 .cases h
 .rename_i j;obtain⟨hb,s,u,D,x⟩:=lCall_ok2 V (λC e=>by
   cases M:C.I with
   | none=>rfl
   | some I2 =>
    have h5:=((V f C e).2.2 I2 M).1;unfold hk_ at j;rw[e]at j;simp only at j;rw[h5]at j;cases j) y Z h
  split at D
  .rename_i sv J;obtain rfl:=qSj J;split at D
   .rename_i v p;refine⟨_,[],v,g,D,Ga.Le.refl g,hH,(λi hi=>y i (by omega)),(SV.enc_ok p).2 rfl,λw' G => ?_⟩;rw[q hb w'];obtain⟨_,Bs',U,F,O⟩:=hI w' G;refine⟨rfl,Calls.mono (x Bs' U F w' O) λe Y ⟨v',he,z2,g2,_,_,_,h4,_,h6⟩ => ?_⟩;obtain rfl:=(SV.enc_ok p).1 h4;exact⟨he,h6 j⟩
   .cases D
  .cases D
theorem lz_{eqs:tL (Nat×Nat)}{tab:Tab E}{N:Nat}{a:Act}{k:tO (SV E)->Chs E->tO R}(O:∀p∈eqs,bd_ P E p.1 p.2)(Z:tab.OK P E)(j:Fresh g nx)(hE:ER P E z g N a L)(x:HR P E Bs F0 w0 W z g H)(V:∀w',I w'->Keeps P E z g H W w')
  (h:hL_ P E eqs tab L H nx o k=some r):Quiet P E Bs F0 w0 W I z g nx H a.eval o k r:=by
 have hρ:=hE.op x.gl;unfold hL_ at h;split at h
 .rename_i f args ats J;split at h
  .rename_i xs q;exact qCall_ok Z j x V (id_ hρ q) h λU w'=>rc_ J rfl U w'
  .cases h
 .rename_i t args ats J;split at h
  .rename_i f ids hL;split at h
   .rename_i xs q;obtain⟨us,hf,G⟩:=hρ (.tmp t) _ hL;refine qCall_ok Z j x V ((id_ hρ q).append (qn_ G)) h λU w' => ?_
    rw[mu_ J hf U w'];simp
   .cases h
  .cases h
 .obtain⟨s,v,up,F,hk,hg,M,Y,C,y⟩:=qOp_ok (W:=W) (I:=I) O j.self hρ x (λw' u=>(V w' u).1) h;have D:∀m,Fresh F (nx+1+m):=λm i hi=>by rw[M i (by omega)];exact j i (by omega)
  have hq:∀w',I w'->Oper.quietUponX P w' v ((execOp a.eval o).run P w'):=λw' u=>by rw[C w' u];exact⟨rfl,rfl⟩
  cases up with
  | none =>
   obtain rfl:=y;exact⟨s,[],v,F,hk,Ga.Le.refl F,x,D _,Y,hq⟩
  | some p =>
   obtain⟨i,o2⟩:=p;obtain⟨o1,h1,h2,h3⟩:=y;exact⟨s,[(i,some o2)],v,F,hk,hg,x.up hg h1 h2 h3,D _,Y,hq⟩
noncomputable def qFree(P:tT)(E:TE)(eqs:tL (Nat×Nat))(L:Nat->tO (SV E))(o:tP){R:Type}(k:SV E->Up E->tO R):tO R:=match o.op with | .move x=>qMove E L x k | .assign x=>qMove E L x k | .nilCheck x=>qNil E L x k | .extract x i=>ni_ E L x i k | .field T x f=>qField P E L T x f k | .fieldAddr T x f=>kA_ P E L T x f k | .unOp _ _ _=>kz_ P E L o k | .binOp op T x y _=>qBin P E L (λ_=>none) eqs o op T x y k | .index T x i=>qIndex P E L T x i k | .slice T x lo hi none=>qSlice P E L (λ_=>none) T x lo hi k | .convert _ _ _=>kz_ P E L o k | .build T ps=>qBuild P E L T ps k | .makeFunc f first caps=>lV_ E L f first caps k | .call { callee := .builtin .len,args:=⟨[x]⟩,argTypes:=⟨[T]⟩ }=>qLen P E L (λ_=>none) T x k|_=>none
theorem ie_{eqs:tL (Nat×Nat)}{k:SV E->Up E->tO R}(q:∀p∈eqs,bd_ P E p.1 p.2)(hρ:OpR P E z g L ρ)(s:HR P E Bs F0 w0 W z g (λ_=>none))(h:qFree P E eqs L o k=some r)(I:tS->Prop):Good P E z g nx I (λ_=>none) ρ o k r:=by
 unfold qFree at h;split at h
 case h_1 x j=>exact nh_ (.inl j) hρ h
 case h_2 x j=>exact nh_ (.inr j) hρ h
 case h_3 x j=>exact qNil_ok j hρ h
 case h_4 x i j=>exact pW_ j hρ h
 case h_5 T x f j=>exact qField_ok j hρ h
 case h_6 T x f j=>exact oi_ j hρ h
 case h_7=>exact ia_ hρ h
 case h_8 op T x y yt j=>exact qBin_ok j q hρ s h
 case h_9 T x i j=>exact qIndex_ok j hρ h
 case h_10 T x lo hi j=>exact qSlice_ok j hρ s h
 case h_11=>exact ia_ hρ h
 case h_12 T ps j=>exact qBuild_ok j hρ h
 case h_13 f first caps j=>exact oz_ j hρ h
 case h_14 x T j=>exact qLen_ok j hρ s h
 case h_15=>cases h
end
end Rt
open Go.RowKit
section
variable{P:tT}{ops:Array tP}{md:Region.Mode}{Q:Exit->Act->tS->Prop}
def Oper.quietI(P:tT)(o:tP)(a:Act)(I:tS->Prop)(next:Act->Prop):Prop:=∃v,(∀w,I w->Oper.quietUponX P w v ((execOp a.eval o).run P w))/\next (a.put o.dst v)
def be_(P:tT)(ops:Array tP)(tl fr:tL Nat)(I:tS->Prop)(Q:Exit->Act->tS->Prop):tL (Nat×tV)->Act->tS->Prop
 | [],a,w=>∀X d,Q .normal a (w.ext X d)
 | (i,true)::rest,a,w=>match ops[i]? with
  | none=>False
  | some o=>∀X d,wpList P ops (Exit.then (λf w'=>(tl.contains i=false->I w->I w')/\be_ P ops tl fr I Q rest f w') (cp_ Q)) [o] a (w.ext X d)
 | (i,false)::rest,a,w=>match ops[i]? with
  | none=>False
  | some o=>if Region.wanted o (yielded ops a.tmps)then o.quietI P a (if fr.contains i then λ_=>True else I) (λf=>be_ P ops tl fr I Q rest f w)else be_ P ops tl fr I Q rest (a.put o.dst undef) w
def eH_(P:tT)(md:Region.Mode)(ops:Array tP)(tl:tL Nat)(I:tS->Prop)(Q:Exit->Act->tS->Prop):Nat->tV->Array tV->Act->tS->Prop
 | 0,_,f,a,w=>Region.ready md ops f=[]/\∀X d,Q .normal a (w.ext X d)
 | fuel+1,st,f,a,w =>
  (Region.ready md ops f=[]->∀X d,Q .normal a (w.ext X d)) /\
  ∀i∈Region.ready md ops f,∀X d,wpOp P ops (cp_ Q) i (λh w'=>((st && !(tl.contains i))=true->I w')/\eH_ P md ops tl I Q fuel (st && !(tl.contains i)) (f.setIfInBounds i true) h w') a (w.ext X d)
theorem kJ_{I:tS->Prop}{tl:tL Nat}:∀(fuel:Nat) (st:tV) (f:Array tV) (a:Act) (w:tS),eH_ P md ops tl I Q fuel st f a w->wpAny P md ops Q fuel f a w
 | 0,_,_,a,w,h=>⟨h.1,by have:=h.2 #[] w.drawn;rwa [←World.self_as_ext]at this⟩
 | fuel+1,_,_,a,w,h=>⟨λj=>by have:=h.1 j #[] w.drawn;rwa [←World.self_as_ext]at this,λi hi=>by
   have:=h.2 i hi #[] w.drawn;rw[←World.self_as_ext]at this;exact wpOp_out (wpOp_mono (λq w' p=>kJ_ fuel _ _ q w' p.2) this)⟩
theorem iL_{I:tS->Prop}{tl:tL Nat}:∀(fuel:Nat) (st:tV) (f:Array tV) (a:Act) (w:tS) (X:Array Obj) (d:Nat),eH_ P md ops tl I Q fuel st f a w->eH_ P md ops tl I Q fuel st f a (w.ext X d)
 | 0,_,_,a,w,X,d,h=>⟨h.1,λY e=>by rw[World.ext_ext];exact h.2 _ _⟩
 | fuel+1,_,_,a,w,X,d,h=>⟨λj Y e=>by rw[World.ext_ext];exact h.1 j _ _,λi hi Y e=>by rw[World.ext_ext];exact h.2 i hi _ _⟩
def YieldsI(P:tT)(ops:Array tP)(I:tS->Prop)(o:tP)(v:tW)(a:Act):Prop:=(Region.wanted o (yielded ops a.tmps)=true/\∀w,I w->Oper.quietUponX P w v ((execOp a.eval o).run P w))\/(Region.wanted o (yielded ops a.tmps)=false/\v=undef)
theorem YieldsI.of_same{I:tS->Prop}{o:tP}{v:tW}{a f:Act}(h:YieldsI P ops I o v a)(p:execOp f.eval o=execOp a.eval o)
  (j:Region.wanted o (yielded ops f.tmps)=Region.wanted o (yielded ops a.tmps)):YieldsI P ops I o v f:=by
 unfold YieldsI at *
 rw[p,j];exact h
theorem YieldsI.wpOp{I:tS->Prop}{w:tS}{i:Nat}{o:tP}{v:tW}{a:Act}(hi:ops[i]? = some o)(D:YieldsI P ops I o v a)(F:I w)
  {K:Act->tS->Prop} (h:∀w',Ext w w'->K (a.put o.dst v) w'):wpOp P ops Q i K a w:=by
 unfold Go.wpOp;simp only[hi];rcases D with⟨j,G⟩|⟨j,rfl⟩
 .simp only[j,zT]
  left
  unfold Oper.wp;have q:=G w F;generalize(execOp a.eval o).run P w=r at *
  cases r with
  | ok n w' =>
   cases n<;>simp only[Oper.quietUponX]at q<;>simp only[Oper.upon]
   case value u=>obtain⟨s,y⟩:=q;rw[s,y];exact h _ (Ext.refl _)
   case skip=>obtain⟨s,y⟩:=q;rw[s,←y];exact h _ (Ext.refl _)
   case enter f args =>
    obtain⟨s,M⟩:=q;rw[s];exact M.mono λe C ⟨J,p⟩=>by subst J;exact h _ p
  | halt x w'=>simp only[Oper.quietUponX]at q
 .simp only[j,qM,zY];exact h _ (Ext.refl _)
theorem wpOp_putI{I:tS->Prop}{j:Nat}{oi oj:tP}{v:tW}(U:ops[j]? = some oj)(hap:oi.apart ops oj=true)
  (F:∀cs b,oi.op ≠ .select cs b) (s:∀cs b,oj.op ≠ .select cs b) {K:Act->tS->Prop} {a:Act} {w:tS}
  (p:YieldsI P ops I oi v a) (h:wpOp P ops (cp_ Q) j K (a.put oi.dst v) w) :
  wpOp P ops (cp_ Q) j (λM w'=>YieldsI P ops I oi v M/\K (M.put oi.dst v) w') a w:=by
 obtain⟨G,q,J⟩:=Oper.apart_spec hap;have keep:∀(a:Act),YieldsI P ops I oi v a->∀u,YieldsI P ops I oi v (a.put oj.dst u):=λa p u =>
  p.of_same (execOp_put oi F a oj.dst u J) (wanted_put oi a oj.dst u J)
 have keepD:∀(a:Act) (ds:tL Deferred),YieldsI P ops I oi v a->YieldsI P ops I oi v { a with defers:=ds }:=λa ds p=>p
 unfold Go.wpOp at *
 simp only[U]at *
 rw[wanted_put oj a oi.dst v G]at h;split
 .rename_i D;simp only[D,zT]at h;rcases h with h|⟨h,O⟩
  .left
   unfold Oper.wp at *
   rw[execOp_put oj s a oi.dst v G]at h;generalize(execOp a.eval oj).run P w=r at *
   cases r with
   | ok n w' =>
    cases n<;>simp only[Oper.upon]at h ⊢
    case value u=>exact⟨keep a p u,by rw[←Act.put_comm a v u q];exact h⟩
    case skip=>exact⟨keep a p _,by rw[←Act.put_comm a v undef q];exact h⟩
    case defer dd =>
     refine⟨keep _ (keepD a _ p) _,?_⟩;rw[←Act.put_comm _ v undef q];have:=h;rw[Act.put_defers]at this;exact this
    case enter f args =>
     exact Calls.mono h (λe C y=>by
      cases e with
      | returned u=>exact⟨keep a p u,by rw[←Act.put_comm a v u q];exact y⟩
      | panicked chain=>exact y
      | outgrown=>exact y)
    case row row args =>
     exact Rows.mono h (λu C y=>⟨keep a p u,by rw[←Act.put_comm a v u q];exact y⟩)
   | halt x w'=>cases x<;>simp only[Oper.upon]at h ⊢<;>exact h
  .right
   refine⟨?_,O⟩;unfold Oper.asks at *
   rw[execOp_put oj s a oi.dst v G]at h;exact h
 .rename_i D;simp only[D]at h;exact⟨keep a p _,by rw[←Act.put_comm a v undef q];exact h⟩
theorem dt_{I:tS->Prop}(hI:∀w w',I w->Ext w w'->I w'){tl:tL Nat}{i fu:Nat}(fre:tV)(ZX:tl.contains i=false)(ZW:fre=false->∀j∈tl,dP_ md ops fu j i=true){oi:tP}{v:tW}(hi:ops[i]? = some oi)(F:∀(j:Nat) (o:tP) cs b,ops[j]? = some o->o.op ≠ .select cs b) :
  ∀(fuel:Nat) (st:tV) (f:Array tV) (a:Act) (w:tS),(st=true->I w)->(fre=false->st=true)->Closed md ops f ->
   (∀j oj,ops[j]? = some oj->j≠i->f.getD j true=false->(∀e∈oj.after,Region.binds md e=true->e.on≠i)->oi.apart ops oj=true) ->
   i∈Region.ready md ops f->YieldsI P ops (if fre then λ_=>True else I) oi v a ->
   eH_ P md ops tl I Q fuel st (f.setIfInBounds i true) (a.put oi.dst v) w->eH_ P md ops tl I Q (fuel+1) st f a w:=by
 have stands:∀{st:tV} {w w':tS},(st=true->I w)->(fre=false->st=true)->Ext w w'->(if fre then λ_=>True else I) w':=fun{st w w'} D h2 hx=>by
  cases fre with
  | true=>trivial
  | false=>exact hI _ _ (D (h2 rfl)) hx
 intro fuel
 induction fuel with
 | zero =>
  intro st f a w hW C O _ hr hy H;refine⟨λh=>(by rw[h]at hr;cases hr),λj hj X d => ?_⟩;by_cases p:j=i
  .subst p;rw[ZX];simp only[qf,Bool.and_true];exact hy.wpOp hi (stands hW C ⟨X,d,rfl⟩) λw' s=>⟨λM=>hI _ _ (hI _ _ (hW M) ⟨X,d,rfl⟩) s,by
    obtain⟨Y,e,rfl⟩:=s;rw[World.ext_ext];exact iL_ _ _ _ _ _ _ _ H⟩
  .have:=ready_mono hj p;rw[H.1]at this;cases this
 | succ fuel ih =>
  intro st f a w hW C O u hr hy H;refine⟨λh=>(by rw[h]at hr;cases hr),λj hj X d => ?_⟩;by_cases p:j=i
  .subst p;rw[ZX];simp only[qf,Bool.and_true];exact hy.wpOp hi (stands hW C ⟨X,d,rfl⟩) λw' s=>⟨λM=>hI _ _ (hI _ _ (hW M) ⟨X,d,rfl⟩) s,by
    obtain⟨Y,e,rfl⟩:=s;rw[World.ext_ext];exact iL_ _ _ _ _ _ _ _ H⟩
  .have D:=H.2 j (ready_mono hj p) X d;obtain⟨G,oj,x,J⟩:=mem_ready.1 hj;have ZZ:∀e∈oj.after,Region.binds md e=true->e.on≠i:=λe he hb ZS=>by
    have D:=J e he hb;have V:=(mem_ready.1 hr).1;rw[ZS]at D;rcases qR i f.size with U|U
    .simp[U]at V D;rw[V]at D;cases D
    .simp[zJ U]at D
   have h2:=wpOp_putI x (u j oj x p G ZZ) (λcs b=>F i oi cs b hi) (λcs b=>F j oj cs b x) hy D;have y:∀k ok,ops[k]? = some ok->k≠i->(f.setIfInBounds j true).getD k true=false ->
     (∀e∈ok.after,Region.binds md e=true->e.on≠i)->oi.apart ops ok=true:=λk ok hk ZU Z ZV=>by
    refine u k ok hk ZU ?_ ZV;by_cases ZY:j=k
    .subst ZY;exact G
    .rw[getD_set_ne true ZY]at Z;exact Z
   have ZT:fre=false->tl.contains j=false:=λq=>by
    cases hc:tl.contains j with
    | false=>rfl
    | true =>
     have hw:=ZW q j (by simpa using hc);have:=op_ O fu j i oj x J hw;have V:=(mem_ready.1 hr).1;rcases qR i f.size with U|U
     .simp[U]at V this;rw[V]at this;cases this
     .simp[zJ U]at V
   refine wpOp_mono (λa' w' h3=>⟨h3.2.1,ih (st && !(tl.contains j)) (f.setIfInBounds j true) a' w' h3.2.1 (λq=>by rw[C q,ZT q];rfl) (dT_ O hj) y (ready_mono hr (Ne.symm p)) h3.1 ?_⟩) h2;rw[Array.setIfInBounds_comm _ _ p];exact h3.2.2
def eI_(fr:tL Nat):tL (Nat×tV)->tV | []=>false|(i,b)::r=>(!b && !(fr.contains i))||eI_ fr r
def fw_(md:Region.Mode)(ops:Array tP)(tl fr:tL Nat):tL (Nat×tV)->Array tV->tV | [],f=>(Region.ready md ops f).isEmpty|(i,true)::rest,f=>Region.ready md ops f==[i]&&(!(tl.contains i) || !(eI_ fr rest))&&fw_ md ops tl fr rest (f.setIfInBounds i true)|(i,false)::rest,f=>(Region.ready md ops f).contains i&&Region.free md ops f i && !(tl.contains i)&&fw_ md ops tl fr rest (f.setIfInBounds i true)
def mixBI(md:Region.Mode)(ops:Array tP)(tl fr:tL Nat)(ord:tL (Nat×tV)):tV :=
 Region.noSelect ops&&fw_ md ops tl fr ord (Array.replicate ops.size false)&&decide (ord.length=ops.size) &&
  ord.all λp=>p.2||(fr.contains p.1||tl.all λj=>dP_ md ops ops.size j p.1)
theorem eJ_{I:tS->Prop}(hI:∀w w',I w->Ext w w'->I w'){tl fr:tL Nat}{fu:Nat}(V:Region.noSelect ops=true):∀(ord:tL (Nat×tV)) (st:tV) (f:Array tV) (a:Act) (w:tS),(st=true->I w)->(eI_ fr ord=true->st=true)->Closed md ops f->(∀i,(i,false)∈ord->fr.contains i=false->∀j∈tl,dP_ md ops fu j i=true) ->
  fw_ md ops tl fr ord f=true->be_ P ops tl fr I Q ord a w->eH_ P md ops tl I Q ord.length st f a w
 | [],_,_,_,_,_,_,_,_,U,h=>⟨by simpa[fw_]using U,h⟩
 | (i,true)::rest,st,f,a,w,Z,C,s,hT,U,h=>by
  simp only[fw_,qAn,qn]at U;obtain⟨⟨hr,ZZ⟩,x⟩:=U;refine⟨λh0=>(by rw[h0]at hr;cases hr),λj hj X d => ?_⟩;rw[hr]at hj;obtain rfl:j=i:=by simpa using hj
  have hm:j∈Region.ready md ops f:=by rw[hr];simp
  obtain⟨_,o,G,_⟩:=mem_ready.1 hm;simp only[be_,G]at h;have y:=h X d;have u:∀k,(k,false)∈rest->fr.contains k=false->∀j∈tl,dP_ md ops fu j k=true:=λk O=>hT k (qG _ O)
  have q:=dT_ s hm;have p:eI_ fr rest=true->(st && !(tl.contains j))=true:=λY=>by
   rw[Y]at ZZ;have h1:tl.contains j=false:=by simpa using ZZ
   rw[C (by simp[eI_,Y]),h1];rfl
  have F:∀w',(tl.contains j=false->I w->I w')->((st && !(tl.contains j))=true->I w'):=λw' h1 h2=>by
   simp only[qAn,qo]at h2;exact h1 h2.2 (Z h2.1)
  unfold wpOp;simp only[G];unfold wpList at y;split at y
  .rename_i M;rw[qL M];refine y.imp (λy => ?_) (λy=>⟨y.1,y.2⟩);exact Oper.wp_out (λa' w' O=>⟨F w' O.1,eJ_ hI V rest _ _ a' w' (F w' O.1) p q u x O.2⟩) (λch a w h=>h) (λh=>h) y
  .rename_i M;rw[qP M];exact⟨F _ y.1,eJ_ hI V rest _ _ _ _ (F _ y.1) p q u x y.2⟩
 | (i,false)::rest,st,f,a,w,Z,C,s,hT,U,h=>by
  simp only[fw_,qAn,qo]at U;obtain⟨⟨⟨hr,hf⟩,ZY⟩,x⟩:=U;have D:i∈Region.ready md ops f:=by simpa using hr
  obtain⟨_,o,G,_⟩:=mem_ready.1 D;simp only[be_,G]at h;have u:∀k,(k,false)∈rest->fr.contains k=false->∀j∈tl,dP_ md ops fu j k=true:=λk O=>hT k (qG _ O)
  have q:=dT_ s D;have p:eI_ fr rest=true->st=true:=λY=>C (by simp[eI_,Y])
  have J:fr.contains i=false->st=true:=λY=>C (by simp only[eI_,Y];rfl)
  split at h
  .rename_i M;obtain⟨v,hv,hn⟩:=h;exact dt_ hI (fr.contains i) ZY (hT i (by simp)) G (Region.noSelect_spec V) rest.length st f a w Z J s (Region.free_spec G hf) D (.inl ⟨M,hv⟩)
    (eJ_ hI V rest _ _ _ w Z p q u x hn)
  .rename_i M;exact dt_ hI (fr.contains i) ZY (hT i (by simp)) G (Region.noSelect_spec V) rest.length st f a w Z J s (Region.free_spec G hf) D (.inr ⟨by simpa using M,rfl⟩)
    (eJ_ hI V rest _ _ _ w Z p q u x h)
theorem jh_{I:tS->Prop}(G:∀w w',I w->Ext w w'->I w'){id:Nat}{l:tL tP}{a:Act}{w:tS}(tl fr:tL Nat)(ord:tL (Nat×tV))(C:P.follows .mixedOrders=true)(s:mixBI .any l.toArray tl fr ord=true)
  (x:I w) (h:be_ P l.toArray tl fr I Q ord a w):(Code.region id l.toArray true).wp P Q a w:=by
 simp only[mixBI,qAn,qDe]at s;obtain⟨⟨⟨y,F⟩,f⟩,p⟩:=s;refine wp_region_any C (kJ_ (I:=I) (tl:=tl) _ true _ _ _ ?_);have:=eJ_ G (md := .any) (tl:=tl) (fr:=fr) (fu:=l.toArray.size) y ord true (Array.replicate l.toArray.size false) a w (λ_=>x) (λ_=>rfl) (lm_ _) (λi hi q j D=>by
  have:=qx.1 p _ hi;simp only[zX,q]at this;exact qx.1 this j D) F h
 have u:=iL_ _ _ _ _ _ #[] (w.drawn+1) this;rw[←World.drew_as_ext,f]at u;exact u
theorem wpMixI_nil{tl fr:tL Nat}{I:tS->Prop}{a:Act}{w:tS}(h:∀X d,Q .normal a (w.ext X d)):be_ P ops tl fr I Q [] a w:=h
theorem em_{tl fr:tL Nat}{l:tL tP}{I:tS->Prop}{i:Nat}{rest:tL (Nat×tV)}{a:Act}{w:tS}(o:tP)(j:l[i]? = some o)
  (h:∀K:Act->Prop,(∀a,be_ P l.toArray tl fr I Q rest a w->K a)->if Region.wanted o (yielded l.toArray a.tmps)then o.quietI P a (if fr.contains i then λ_=>True else I) K else K (a.put o.dst undef)) :
  be_ P l.toArray tl fr I Q ((i,false)::rest) a w:=by
 have f:l.toArray[i]? = some o:=by simpa using j
 simp only[be_,f];exact h _ (λ_ h=>h)
theorem pX_{tl fr:tL Nat}{l:tL tP}{I:tS->Prop}{i:Nat}{rest:tL (Nat×tV)}{a:Act}{w:tS}(o:tP)(p:l[i]? = some o)
  (h:∀K:Act->tS->Prop,(∀j w',(tl.contains i=false->I w->I w')->be_ P l.toArray tl fr I Q rest j w'->K j w')->∀X d,wpList P l.toArray (Exit.then K (cp_ Q)) [o] a (w.ext X d)) :
  be_ P l.toArray tl fr I Q ((i,true)::rest) a w:=by
 have f:l.toArray[i]? = some o:=by simpa using p
 simp only[be_,f];exact h _ (λ_ _ s q=>⟨s,q⟩)
def ct_(P:tT)(ops:Array tP)(tl fr:tL Nat)(I:tS->Prop)(Q:Exit->Act->tS->Prop)(fl:Nat)(post:tL (Nat×tV)):tL (Nat×tV)->Act->tS->Prop
 | [],a,w=>be_ P ops tl fr I Q ((fl,true)::post) a w
 | (i,true)::pre,a,w=>(match ops[i]? with
  | none=>False
  | some o=>∀X d,wpList P ops (Exit.then (λf w'=>(tl.contains i=false->I w->I w')/\ct_ P ops tl fr I Q fl post pre f w') (cp_ Q)) [o] a (w.ext X d)) /\
  (match ops[fl]? with
  | none=>False
  | some o=>∀X d,wpList P ops (Exit.then (λf w'=>(tl.contains fl=false->I w->I w')/\be_ P ops tl fr I Q ((i,true)::pre++post) f w') (cp_ Q)) [o] a (w.ext X d))
 | (i,false)::pre,a,w=>match ops[i]? with
  | none=>False
  | some o=>if Region.wanted o (yielded ops a.tmps)then o.quietI P a (if fr.contains i then λ_=>True else I) (λf=>ct_ P ops tl fr I Q fl post pre f w)else ct_ P ops tl fr I Q fl post pre (a.put o.dst undef) w
def ji_(md:Region.Mode)(ops:Array tP)(tl fr:tL Nat)(fl:Nat)(post:tL (Nat×tV)):tL (Nat×tV)->Array tV->tV
 | [],f=>fw_ md ops tl fr ((fl,true)::post) f
 | (i,true)::pre,f=>(Region.ready md ops f).contains i&&(Region.ready md ops f).contains fl&&(Region.ready md ops f).all (λj=>j==i||j==fl)&&(!(tl.contains i) || !(eI_ fr (pre++post))) &&
  ji_ md ops tl fr fl post pre (f.setIfInBounds i true)&&fw_ md ops tl fr ((i,true)::pre++post) (f.setIfInBounds fl true)
 | (i,false)::pre,f=>(Region.ready md ops f).contains i&&Region.free md ops f i && !(tl.contains i)&&ji_ md ops tl fr fl post pre (f.setIfInBounds i true)
def mixBF(md:Region.Mode)(ops:Array tP)(tl fr:tL Nat)(fl:Nat)(pre post:tL (Nat×tV)):tV :=
 Region.noSelect ops&&ji_ md ops tl fr fl post pre (Array.replicate ops.size false)&&decide (pre.length+(post.length+1)=ops.size) && !(tl.contains fl) &&
  (pre++post).all λp=>p.2||(fr.contains p.1||tl.all λj=>dP_ md ops ops.size j p.1)
theorem hl_{I:tS->Prop}(Z:∀w w',I w->Ext w w'->I w'){tl fr:tL Nat}{fu fl:Nat}{post:tL (Nat×tV)}(O:Region.noSelect ops=true)(G:tl.contains fl=false):∀(pre:tL (Nat×tV)) (st:tV) (f:Array tV) (a:Act) (w:tS),(st=true->I w)->(eI_ fr (pre++post)=true->st=true)->Closed md ops f ->
  (∀i,(i,false)∈pre++post->fr.contains i=false->∀j∈tl,dP_ md ops fu j i=true) ->
  ji_ md ops tl fr fl post pre f=true->ct_ P ops tl fr I Q fl post pre a w->eH_ P md ops tl I Q (pre.length+(post.length+1)) st f a w
 | [],st,f,a,w,V,y,x,Y,hB,h=>by
  rw[qQ,qh];exact eJ_ Z O ((fl,true)::post) st f a w V (λM=>y (by simpa[eI_]using M)) x (λi hi=>Y i (by simpa using hi)) hB h
 | (i,true)::pre,st,f,a,w,V,y,x,Y,hB,h=>by
  simp only[ji_,qAn]at hB;obtain⟨⟨⟨⟨⟨ZX,ZO⟩,ZT⟩,ZY⟩,ZR⟩,ZS⟩:=hB;rw[qLc,show pre.length+1+(post.length+1)=(pre.length+(post.length+1))+1 by omega];refine⟨λh0=>(by rw[h0]at ZX;simp at ZX),λj hj X d => ?_⟩;obtain⟨h1,h2⟩:=h;by_cases ZV:j=i
  .subst ZV;obtain⟨_,o,D,_⟩:=mem_ready.1 hj;simp only[D]at h1;have s:=h1 X d;have J:∀k,(k,false)∈pre++post->fr.contains k=false->∀j∈tl,dP_ md ops fu j k=true:=λk F=>Y k (by simp only[qc];exact qG _ F)
   have q:=dT_ x hj;have p:eI_ fr (pre++post)=true->(st && !(tl.contains j))=true:=λM=>by
    rw[M]at ZY;have h3:tl.contains j=false:=by simpa using ZY
    rw[y (by simp[eI_,M]),h3];rfl
   have u:∀w',(tl.contains j=false->I w->I w')->((st && !(tl.contains j))=true->I w'):=λw' h3 h4=>by
    simp only[qAn,qo]at h4;exact h3 h4.2 (V h4.1)
   unfold wpOp;simp only[D];unfold wpList at s;split at s
   .rename_i C;rw[qL C];refine s.imp (λs => ?_) (λs=>⟨s.1,s.2⟩);exact Oper.wp_out (λa' w' F=>⟨u w' F.1,hl_ Z O G pre _ _ a' w' (u w' F.1) p q J ZR F.2⟩) (λch a w h=>h) (λh=>h) s
   .rename_i C;rw[qP C];exact⟨u _ s.1,hl_ Z O G pre _ _ _ _ (u _ s.1) p q J ZR s.2⟩
  .have ZP:j=fl:=by
    have:=qx.1 ZT j hj;simp only[zh,qn]at this;rcases this with h3|h3
    .exact absurd h3 ZV
    .exact h3
   subst ZP;obtain⟨_,o,D,_⟩:=mem_ready.1 hj;simp only[D]at h2;have s:=h2 X d;have q:=dT_ x hj;have p:eI_ fr ((i,true)::pre++post)=true->(st && !(tl.contains j))=true:=λM=>by
    rw[G,y M];rfl
   have u:∀w',(tl.contains j=false->I w->I w')->((st && !(tl.contains j))=true->I w'):=λw' h3 h4=>by
    simp only[qAn,qo]at h4;exact h3 h4.2 (V h4.1)
   have ZW:pre.length+(post.length+1)=((i,true)::pre++post).length:=by simp;omega
   rw[ZW];unfold wpOp;simp only[D];unfold wpList at s;split at s
   .rename_i C;rw[qL C];refine s.imp (λs => ?_) (λs=>⟨s.1,s.2⟩);exact Oper.wp_out (λa' w' F=>⟨u w' F.1,eJ_ Z O _ _ _ a' w' (u w' F.1) p q Y ZS F.2⟩) (λch a w h=>h) (λh=>h) s
   .rename_i C;rw[qP C];exact⟨u _ s.1,eJ_ Z O _ _ _ _ _ (u _ s.1) p q Y ZS s.2⟩
 | (i,false)::pre,st,f,a,w,V,y,x,Y,hB,h=>by
  simp only[ji_,qAn,qo]at hB;obtain⟨⟨⟨hr,hf⟩,ZU⟩,ZQ⟩:=hB;rw[qLc,show pre.length+1+(post.length+1)=(pre.length+(post.length+1))+1 by omega];have U:i∈Region.ready md ops f:=by simpa using hr
  obtain⟨_,o,D,_⟩:=mem_ready.1 U;simp only[ct_,D]at h;have J:∀k,(k,false)∈pre++post->fr.contains k=false->∀j∈tl,dP_ md ops fu j k=true:=λk F=>Y k (by simp only[qc];exact qG _ F)
  have q:=dT_ x U;have p:eI_ fr (pre++post)=true->st=true:=λM=>y (by simp[eI_,M])
  have ZZ:fr.contains i=false->st=true:=λM=>y (by simp only[qc,eI_,M];rfl)
  split at h
  .rename_i C;obtain⟨v,hv,hn⟩:=h;exact dt_ Z (fr.contains i) ZU (Y i (by simp)) D (Region.noSelect_spec O) _ st f a w V ZZ x (Region.free_spec D hf) U (.inl ⟨C,hv⟩)
    (hl_ Z O G pre _ _ _ w V p q J ZQ hn)
  .rename_i C;exact dt_ Z (fr.contains i) ZU (Y i (by simp)) D (Region.noSelect_spec O) _ st f a w V ZZ x (Region.free_spec D hf) U (.inr ⟨by simpa using C,rfl⟩)
    (hl_ Z O G pre _ _ _ w V p q J ZQ h)
theorem mU_{I:tS->Prop}(J:∀w w',I w->Ext w w'->I w'){id fl:Nat}{l:tL tP}{a:Act}{w:tS}(tl fr:tL Nat)(pre post:tL (Nat×tV))(D:P.follows .mixedOrders=true)(u:mixBF .any l.toArray tl fr fl pre post=true)
  (y:I w) (h:ct_ P l.toArray tl fr I Q fl post pre a w):(Code.region id l.toArray true).wp P Q a w:=by
 simp only[mixBF,qAn,qDe,qo]at u;obtain⟨⟨⟨⟨C,G⟩,f⟩,q⟩,p⟩:=u;refine wp_region_any D (kJ_ (I:=I) (tl:=tl) _ true _ _ _ ?_);have:=hl_ J (md := .any) (tl:=tl) (fr:=fr) (fu:=l.toArray.size) C q pre true (Array.replicate l.toArray.size false) a w (λ_=>y) (λ_=>rfl) (lm_ _) (λi hi s j F=>by
  have:=qx.1 p _ hi;simp only[zX,s]at this;exact qx.1 this j F) G h
 have x:=iL_ _ _ _ _ _ #[] (w.drawn+1) this;rw[←World.drew_as_ext,f]at x;exact x
theorem gr_{tl fr:tL Nat}{l:tL tP}{I:tS->Prop}{i fl:Nat}{pre post:tL (Nat×tV)}{a:Act}{w:tS}(o:tP)(j:l[i]? = some o)
  (h:∀K:Act->Prop,(∀a,ct_ P l.toArray tl fr I Q fl post pre a w->K a)->if Region.wanted o (yielded l.toArray a.tmps)then o.quietI P a (if fr.contains i then λ_=>True else I) K else K (a.put o.dst undef)) :
  ct_ P l.toArray tl fr I Q fl post ((i,false)::pre) a w:=by
 have f:l.toArray[i]? = some o:=by simpa using j
 simp only[ct_,f];exact h _ (λ_ h=>h)
theorem wpMixF_loud{tl fr:tL Nat}{l:tL tP}{I:tS->Prop}{i fl:Nat}{pre post:tL (Nat×tV)}{a:Act}{w:tS}(o fo:tP)(x:l[i]? = some o)(q:l[fl]? = some fo)
  (h:∀K:Act->tS->Prop,(∀j w',(tl.contains i=false->I w->I w')->ct_ P l.toArray tl fr I Q fl post pre j w'->K j w')->∀X d,wpList P l.toArray (Exit.then K (cp_ Q)) [o] a (w.ext X d))
  (y:∀K:Act->tS->Prop,(∀j w',(tl.contains fl=false->I w->I w')->be_ P l.toArray tl fr I Q ((i,true)::pre++post) j w'->K j w')->∀X d,wpList P l.toArray (Exit.then K (cp_ Q)) [fo] a (w.ext X d)) :
  ct_ P l.toArray tl fr I Q fl post ((i,true)::pre) a w:=by
 have p:l.toArray[i]? = some o:=by simpa using x
 have f:l.toArray[fl]? = some fo:=by simpa using q
 simp only[ct_,p,f];exact⟨h _ (λ_ _ u s=>⟨u,s⟩),y _ (λ_ _ u s=>⟨u,s⟩)⟩
inductive OT where
 | nil
 | free (i:Nat) (t:OT)
 | alt (i:Nat) (t r:OT)
 | spl (i:Nat) (t f:OT)
def OT.ids:OT->tL Nat | .alt i _ r=>i::r.ids|_=>[]
def OT.dep:OT->Nat | .nil=>0 | .free _ t=>t.dep+1 | .alt _ t r=>max (t.dep+1) r.dep | .spl _ t f=>max t.dep f.dep
def OT.tlO:OT->tL Nat | .nil=>[] | .free _ t=>t.tlO | .alt i t r=>i::(t.tlO++r.tlO) | .spl _ t f=>t.tlO++f.tlO
def OT.frO:OT->tL Nat | .nil=>[] | .free i t=>i::t.frO | .alt _ t r=>t.frO++r.frO | .spl _ t f=>t.frO++f.frO
def chkO(md:Region.Mode)(ops:Array tP)(tl fr:tL Nat):OT->tV->Array tV->tV | .nil,false,h=>(Region.ready md ops h).isEmpty | .nil,true,_=>true | .free i t,false,h=>(Region.ready md ops h).contains i&&Region.free md ops h i && !(tl.contains i)&&fr.contains i&&chkO md ops tl fr t false (h.setIfInBounds i true) | .free _ _,true,_=>false | .spl _ t f,c,h => !c&&(chkO md ops tl fr t false h&&chkO md ops tl fr f false h) | .alt i t r,c,h=>(c||(!((Region.ready md ops h).isEmpty)&&(Region.ready md ops h).all λj=>(i::r.ids).contains j))&&tl.contains i&&chkO md ops tl fr t false (h.setIfInBounds i true)&&chkO md ops tl fr r true h
def wpO(P:tT)(ops:Array tP)(Q:Exit->Act->tS->Prop):OT->tV->Act->tS->Prop
 | .nil,false,a,w=>∀X d,Q .normal a (w.ext X d)
 | .nil,true,_,_=>True
 | .free i t,_,a,w=>match ops[i]? with
  | none=>False
  | some o=>if Region.wanted o (yielded ops a.tmps)then o.quietI P a (λ_=>True) (λh=>wpO P ops Q t false h w)else wpO P ops Q t false (a.put o.dst undef) w
 | .alt i t r,_,a,w=>(match ops[i]? with
  | none=>False
  | some o=>∀X d,wpList P ops (Exit.then (λh w'=>wpO P ops Q t false h w') (cp_ Q)) [o] a (w.ext X d))/\wpO P ops Q r true a w
 | .spl i t f,_,a,w=>(yielded ops a.tmps i=some true/\wpO P ops Q t false a w)\/(yielded ops a.tmps i=some false/\wpO P ops Q f false a w)
theorem wpO_pick{tl fr:tL Nat}{i:Nat}{f:Array tV}{a:Act}{w:tS}:∀{t:OT} {c:tV},i∈t.ids->chkO md ops tl fr t c f=true->wpO P ops Q t c a w->∃p,p.dep+1<=t.dep/\tl.contains i=true/\chkO md ops tl fr p false (f.setIfInBounds i true)=true /\
  match ops[i]? with
  | none=>False
  | some o=>∀X d,wpList P ops (Exit.then (λy w'=>wpO P ops Q p false y w') (cp_ Q)) [o] a (w.ext X d)
 | .nil,_,h,_,_=>nomatch h
 | .free _ _,_,h,_,_=>nomatch h
 | .spl _ _ _,_,h,_,_=>nomatch h
 | .alt j t r,c,h,q,s=>by
  simp only[chkO,qAn]at q;rcases qD.1 h with rfl|h
  .exact⟨t,Nat.le_max_left _ _,q.1.1.2,q.1.2,s.1⟩
  .obtain⟨p,x,u⟩:=wpO_pick h q.2 s.2;exact⟨p,zQ x (Nat.le_max_right _ _),u⟩
theorem splO{I:tS->Prop}{tl fr:tL Nat}{fuel i:Nat}{t f:OT}
  (q:∀(st:tV) (j:Array tV) (a:Act) (w:tS),t.dep<=fuel->(st=true->I w)->Closed md ops j->chkO md ops tl fr t false j=true->wpO P ops Q t false a w->eH_ P md ops tl I Q fuel st j a w)
  (s:∀(st:tV) (j:Array tV) (a:Act) (w:tS),f.dep<=fuel->(st=true->I w)->Closed md ops j->chkO md ops tl fr f false j=true->wpO P ops Q f false a w->eH_ P md ops tl I Q fuel st j a w)
  (st:tV) (j:Array tV) (a:Act) (w:tS) (y:(OT.spl i t f).dep<=fuel) (x:st=true->I w) (p:Closed md ops j)
  (u:chkO md ops tl fr (.spl i t f) false j=true) (h:wpO P ops Q (.spl i t f) false a w):eH_ P md ops tl I Q fuel st j a w:=by
 simp only[chkO,qAn]at u;simp only[OT.dep]at y;have:=Nat.le_max_left t.dep f.dep;have:=Nat.le_max_right t.dep f.dep;rcases h with h|h
 .exact q st j a w (by omega) x p u.2.1 h.2
 .exact s st j a w (by omega) x p u.2.2 h.2
theorem wpAnyI_O{I:tS->Prop}(hI:∀w w',I w->Ext w w'->I w'){tl fr:tL Nat}{fu:Nat}(hs:Region.noSelect ops=true):∀(fuel:Nat) (t:OT) (st:tV) (p:Array tV) (a:Act) (w:tS),t.dep<=fuel->(st=true->I w)->Closed md ops p ->
  chkO md ops tl fr t false p=true->wpO P ops Q t false a w->eH_ P md ops tl I Q fuel st p a w:=by
 intro fuel
 induction fuel with
 | zero =>
  intro t
  induction t with
  | nil =>
   intro st p a w F O q u h;exact⟨by simpa[chkO]using u,h⟩
  | free i t _=>intro st p a w F;simp[OT.dep]at F
  | spl i t f G J=>exact splO G J
  | alt i t r _ _ =>
   intro st p a w F;simp only[OT.dep]at F;have:=Nat.le_max_left (t.dep+1) r.dep;omega
 | succ fuel ih =>
  intro t
  induction t with
  | spl i t f G J=>exact splO G J
  | nil =>
   intro st p a w F O q u h;have h0:Region.ready md ops p=[]:=by simpa[chkO]using u
   exact⟨λ_=>h,λi hi=>(by rw[h0]at hi;cases hi)⟩
  | free i t _ =>
   intro st p a w F O q u h;simp only[chkO,qAn,qo]at u;obtain⟨⟨⟨⟨hr,hf⟩,Z⟩,ZV⟩,y⟩:=u;have x:i∈Region.ready md ops p:=by simpa using hr
   obtain⟨_,o,D,_⟩:=mem_ready.1 x;simp only[OT.dep]at F;simp only[wpO,D]at h;have s:=dT_ q x;split at h
   .rename_i M;obtain⟨v,hv,hn⟩:=h;exact dt_ (fu:=fu) hI true Z (λe=>nomatch e) D (Region.noSelect_spec hs) fuel st p a w O (λe=>nomatch e) q (Region.free_spec D hf) x (.inl ⟨M,hv⟩)
     (ih t st _ _ w (by omega) O s y hn)
   .rename_i M;exact dt_ (fu:=fu) hI true Z (λe=>nomatch e) D (Region.noSelect_spec hs) fuel st p a w O (λe=>nomatch e) q (Region.free_spec D hf) x (.inr ⟨by simpa using M,rfl⟩)
     (ih t st _ _ w (by omega) O s y h)
  | alt i t r _ _ =>
   intro st p a w F O q u h;have ZW:=u;simp only[chkO,zX,qAn,qo]at u;obtain⟨⟨⟨⟨V,ZZ⟩,_⟩,_⟩,_⟩:=u;refine⟨λh0=>(by rw[h0]at V;cases V),λj hj X d => ?_⟩;have Y:j∈(OT.alt i t r).ids:=by
    have:=qx.1 ZZ j hj;simpa[OT.ids]using this
   obtain⟨t',ZU,ZY,y,hp⟩:=wpO_pick Y ZW h;obtain⟨_,o,D,_⟩:=mem_ready.1 hj;simp only[D]at hp;have C:=hp X d;have s:=dT_ q hj;have ZX:(st && !(tl.contains j))=false:=by rw[ZY];simp
   rw[ZX];have go:∀U w',wpO P ops Q t' false U w'->(false=true->I w')/\eH_ P md ops tl I Q fuel false (p.setIfInBounds j true) U w':=λU w' hk=>⟨(λe=>nomatch e),ih t' false _ U w' (by omega) (λe=>nomatch e) s y hk⟩
   unfold wpOp;simp only[D];unfold wpList at C;split at C
   .rename_i M;rw[qL M];refine C.imp (λC => ?_) (λC=>⟨C.1,C.2⟩);exact Oper.wp_out (λU w' hk=>go U w' hk) (λch a w h=>h) (λh=>h) C
   .rename_i M;rw[qP M];exact go _ _ C
def fL_(P:tT)(ops:Array tP)(fr:tL Nat)(I:tS->Prop)(Q:Exit->Act->tS->Prop)(t:OT):tL (Nat×tV)->Act->tS->Prop
 | [],a,w=>wpO P ops Q t false a w
 | (_,true)::_,_,_=>False
 | (i,false)::rest,a,w=>match ops[i]? with
  | none=>False
  | some o=>if Region.wanted o (yielded ops a.tmps)then o.quietI P a (if fr.contains i then λ_=>True else I) (λf=>fL_ P ops fr I Q t rest f w)else fL_ P ops fr I Q t rest (a.put o.dst undef) w
def nu_(md:Region.Mode)(ops:Array tP)(tl fr:tL Nat)(t:OT):tL (Nat×tV)->Array tV->tV | [],f=>chkO md ops tl fr t false f|(_,true)::_,_=>false|(i,false)::rest,f=>(Region.ready md ops f).contains i&&Region.free md ops f i && !(tl.contains i)&&nu_ md ops tl fr t rest (f.setIfInBounds i true)
def mixBO(md:Region.Mode)(ops:Array tP)(tl fr:tL Nat)(t:OT)(pre:tL (Nat×tV)):tV:=Region.noSelect ops&&nu_ md ops tl fr t pre (Array.replicate ops.size false)&&decide (pre.length+t.dep<=ops.size)&&pre.all λp=>p.2||(fr.contains p.1||tl.all λj=>dP_ md ops ops.size j p.1)
theorem mv_{I:tS->Prop}(G:∀w w',I w->Ext w w'->I w'){tl fr:tL Nat}{fu m:Nat}{t:OT}(O:t.dep<=m)(y:Region.noSelect ops=true):∀(pre:tL (Nat×tV)) (f:Array tV) (a:Act) (w:tS),I w->Closed md ops f ->
  (∀i,(i,false)∈pre->fr.contains i=false->∀j∈tl,dP_ md ops fu j i=true)->nu_ md ops tl fr t pre f=true->fL_ P ops fr I Q t pre a w->eH_ P md ops tl I Q (pre.length+m) true f a w
 | [],f,a,w,u,p,_,x,h=>by
  rw[qQ,qh];exact wpAnyI_O (fu:=fu) G y m t true f a w O (λ_=>u) p x h
 | (i,true)::rest,f,a,w,_,_,_,x,_=>nomatch x
 | (i,false)::pre,f,a,w,u,p,U,x,h=>by
  simp only[nu_,qAn,qo]at x;obtain⟨⟨⟨hr,V⟩,D⟩,J⟩:=x;rw[qLc,show pre.length+1+m=(pre.length+m)+1 by omega];have q:i∈Region.ready md ops f:=by simpa using hr
  obtain⟨_,o,C,_⟩:=mem_ready.1 q;simp only[fL_,C]at h;have F:∀k,(k,false)∈pre->fr.contains k=false->∀j∈tl,dP_ md ops fu j k=true:=λk hk=>U k (qG _ hk)
  have s:=dT_ p q;split at h
  .rename_i M;obtain⟨v,Y,Z⟩:=h;exact dt_ G (fr.contains i) D (U i (by simp)) C (Region.noSelect_spec y) _ true f a w (λ_=>u) (λ_=>rfl) p (Region.free_spec C V) q (.inl ⟨M,Y⟩)
    (mv_ G O y pre _ _ w u s F J Z)
  .rename_i M;exact dt_ G (fr.contains i) D (U i (by simp)) C (Region.noSelect_spec y) _ true f a w (λ_=>u) (λ_=>rfl) p (Region.free_spec C V) q (.inr ⟨by simpa using M,rfl⟩)
    (mv_ G O y pre _ _ w u s F J h)
theorem mV_{I:tS->Prop}(G:∀w w',I w->Ext w w'->I w'){id:Nat}{t:OT}{l:tL tP}{a:Act}{w:tS}(tl fr:tL Nat)(pre:tL (Nat×tV))(C:P.follows .mixedOrders=true)(s:mixBO .any l.toArray tl fr t pre=true)
  (x:I w) (h:fL_ P l.toArray fr I Q t pre a w):(Code.region id l.toArray true).wp P Q a w:=by
 simp only[mixBO,qAn,qDe]at s;obtain⟨⟨⟨y,F⟩,q⟩,f⟩:=s;refine wp_region_any C (kJ_ (I:=I) (tl:=tl) _ true _ _ _ ?_);have:=mv_ G (md := .any) (tl:=tl) (fr:=fr) (fu:=l.toArray.size) (m:=l.toArray.size-pre.length) (by omega) y pre (Array.replicate l.toArray.size false) a w x (lm_ _) (λi hi p j D=>by
  have:=qx.1 f _ hi;simp only[zX,p]at this;exact qx.1 this j D) F h
 have u:=iL_ _ _ _ _ _ #[] (w.drawn+1) this;rw[←World.drew_as_ext,show pre.length+(l.toArray.size-pre.length)=l.toArray.size by omega]at u;exact u
theorem lA_{fr:tL Nat}{l:tL tP}{I:tS->Prop}{t:OT}{i:Nat}{pre:tL (Nat×tV)}{a:Act}{w:tS}(o:tP)(j:l[i]? = some o)
  (h:∀K:Act->Prop,(∀a,fL_ P l.toArray fr I Q t pre a w->K a)->if Region.wanted o (yielded l.toArray a.tmps)then o.quietI P a (if fr.contains i then λ_=>True else I) K else K (a.put o.dst undef)) :
  fL_ P l.toArray fr I Q t ((i,false)::pre) a w:=by
 have f:l.toArray[i]? = some o:=by simpa using j
 simp only[fL_,f];exact h _ (λ_ h=>h)
end
end Go
namespace Go
namespace Rt
open Go.RowKit
structure Ba(E:TE) where
 L:Nat->tO (SV E)
 H:Nat->tO (Obj E)
 lo:Nat
structure St(E:TE) where (env:tL (Nat×tO (SV E))) (vis:tO (tL Nat)) (heap:Chs E) (hvis:tO (tL Nat)) (nx:Nat)
def ay_(t:Nat):tL Nat->tV
 | []=>false
 | u::l=>match Nat.beq t u with
  | true=>true
  | false=>ay_ t l
def seen:tO (tL Nat)->Nat->tV|none,_=>true|some l,t=>ay_ t l
def aK_{α:Type}(t:Nat):tL (Nat×α)->tO α
 | []=>none
 | (u,v)::l=>match Nat.beq t u with
  | true=>some v
  | false=>aK_ t l
variable{E:TE}
def St.L(b:Ba E)(s:St E)(t:Nat):tO (SV E):=match aK_ t s.env with
 | some v=>v
 | none=>match seen s.vis t with
  | true=>b.L t
  | false=>none
def St.H(b:Ba E)(s:St E):Nat->tO (Obj E):=upH (λi=>match seen s.hvis i with|true=>b.H i|false=>none) s.heap
def St.after(N:Nat)(s:St E)(o:tP)(v:tO (SV E))(u:Chs E):tO (St E):=match o.dst with
 | none=>some { s with heap:=u++s.heap,nx:=nxU s.nx u }
 | some d=>match Nat.blt d N with
  | true=>some { s with env:=(d,v)::s.env,heap:=u++s.heap,nx:=nxU s.nx u }
  | false=>none
def St.base(b:Ba E)(s:St E):Ba E:=⟨s.L b,s.H b,b.lo⟩
def St.new(nx:Nat):St E:=⟨[],none,[],none,nx⟩
abbrev Gd:=tO (Nat×tV×Nat)
def pA_(o:tP):Gd->tV
 | none=>match o.guard with
  | none=>true
  | some _=>false
 | some (j,w,_)=>match o.guard with
  | none=>false
  | some (f,w')=>Nat.beq j f&&(match w,w' with|true,true=>true|false,false=>true|_,_=>false)
def dstOK(o:tP):Gd->tV
 | none=>true
 | some (_,_,d)=>match o.dst with
  | none=>true
  | some f => !(Nat.beq d f)
def it_ (d:Nat):tL tP->tO (tL tP×tP×tL tP)
 | []=>none
 | o::r=>match o.op with
  | .pick (.tmp f) _ _=>match Nat.beq d f with
   | true=>some ([],o,r)
   | false=>match it_ d r with
    | some (l,p,q)=>some (o::l,p,q)
    | none=>none
  | _=>match it_ d r with
   | some (l,p,q)=>some (o::l,p,q)
   | none=>none
def groupOf (o:tP) (idx:Nat):tL tP->tO (Nat×tV×tL tP×tP×tL tP)
 | []=>none
 | o2::r=>match o2.guard,o.dst with
  | some (j,w),some d=>match Nat.beq j idx with
   | true=>match it_ d (o2::r)with
    | some (l,p,q)=>some (d,w,l,p,q)
    | none=>none
   | false=>none
  | _,_=>none
def ex_:tL tP->tL Nat
 | []=>[]
 | o::l=>match o.dst with
  | some d=>d::ex_ l
  | none=>ex_ l
def keysIn(l:tL Nat):tL (Nat×tO (SV E))->tV | []=>true|p::r=>ay_ p.1 l&&keysIn l r
def nv_(n:Nat):Chs E->tV | []=>true|p::r=>Nat.ble n p.1&&nv_ n r
def totalB(P:tT)(o:tP):tV:=match o.op with
 | .binOp op t _ y _=>match op with
  | .add=>match P.underlying t with|some (.int _)=>true|_=>false
  | .quo | .rem | .shl | .shr=>Operand.isC y
  | _=>true
 | .move _ | .assign _ | .pick .. | .load .. | .fieldAddr .. | .field .. | .unOp .. | .convert .. | .extract .. | .nilCheck .. => true
 | .call { callee := .builtin .len,args:=_,argTypes:=_ }=>true
 | .call { callee := .builtin .max,args:=_,argTypes:=_ }=>true
 | .call { callee := .builtin .min,args:=_,argTypes:=_ }=>true
 | _=>false
def totalL(P:tT):tL tP->tV | []=>true|o::l=>totalB P o&&totalL P l
def skipB(idx d:Nat)(w:tV):tL tP->Nat->tV
 | [],_=>true
 | o::l,i=>(match o.guard,o.dst with
  | some (j,w'),some f=>((Nat.beq j idx&&(match w,w' with|true,true=>true|false,false=>true|_,_=>false))||(Nat.blt idx j&&Nat.blt j i)) && !(Nat.beq d f)
  | _,_=>false)&&skipB idx d w l (i+1)
def notIn(g:Gd)(l:tL Nat):tV:=match g with|none=>true|some (_,_,d) => !(ay_ d l)
def mW_(b:tV):SV E := .v (.one (.dt .bool b))
def isBoolC(w:tV):tI->tV
 | .const (.bool b)=>match w,b with|true,true=>true|false,false=>true|_,_=>false
 | _=>false
def jB_(body:tL tP):Nat:=1000*(body.length+1)
def jj_(bs:Ba E)(nx lim:Nat)(ds:tL Nat)(x:tI)(s:St E):tO tV:=match keysIn ds s.env&&nv_ nx s.heap&&Nat.ble s.nx (nx+lim),s.vis,s.hvis,opS E (s.L bs) x with|true,none,none,some (.v (.one (.dt .bool e)))=>some e|_,_,_,_=>none
def clear(ds:tL Nat):tL (Nat×tO (SV E)):=ds.map λd=>(d,none)
def picked{α:Type}(w:tV)(x y:α):α:=match w with|true=>x|false=>y
abbrev Ev(E:TE):=(Nat->tO (SV E))->(Nat->tO (Obj E))->Nat->tP->(R:Type)->(tO (SV E)->Chs E->tO R)->tO R
def c5_ (P:tT) (E:TE) (ev:Ev E) (N:Nat):Nat->(R:Type)->Gd->tL tP->Nat->Ba E->St E->(St E->tO R)->tO R
 | 0,_,_,_,_,_,_,_=>none
 | _+1,_,_,[],_,_,s,k=>k s
 | n + 1,R,gd,o::rest,idx,b,s,k =>
  match pA_ o gd&&dstOK o gd with
  | false=>none
  | true => ev (s.L b) (s.H b) s.nx o R λv u=>match s.after N o v u with
   | none=>none
   | some f=>match groupOf o idx rest with
    | none=>c5_ P E ev N n R gd rest (idx+1) b f k
    | some (d,w,body,pk,rest')=>match f.L b d,pk.op,pk.dst with
     | some (.v (.one (.dt .bool c))),.pick _ x y,some pd =>
      match pA_ pk gd&&dstOK pk gd&&notIn gd (ex_ body)&&Nat.blt pd N&&skipB idx d w body (idx+1)&&isBoolC (!w) (picked w y x)with
      | false=>none
      | true =>
       match totalL P body with
       | true=>match c5_ P E ev N n tV (some (idx,w,d)) body (idx+1) (f.base b) (St.new f.nx) (jj_ (f.base b) f.nx (jB_ body) (ex_ body) (picked w x y))with
        | none=>none
        | some e=>c5_ P E ev N n R gd rest' (idx+1+body.length+1) b { f with env:=(pd,some (mW_ (picked w (c&&e) (c||e))))::(clear (ex_ body)++f.env),nx:=f.nx+jB_ body } k
       | false=>Option.bind (picked w
        (bif c then c5_ P E ev N n tV (some (idx,w,d)) body (idx+1) (f.base b) (St.new f.nx) (jj_ (f.base b) f.nx (jB_ body) (ex_ body) x)else some false)
        (bif c then some true else c5_ P E ev N n tV (some (idx,w,d)) body (idx+1) (f.base b) (St.new f.nx) (jj_ (f.base b) f.nx (jB_ body) (ex_ body) y))) λe =>
         c5_ P E ev N n R gd rest' (idx+1+body.length+1) b { f with env:=(pd,some (mW_ e))::(clear (ex_ body)++f.env),nx:=f.nx+jB_ body } k
     | _,_,_=>none
noncomputable def evReg(P:tT)(E:TE)(eqs:tL (Nat×Nat))(tab:Tab E)(N:Nat){R:Type}(l:tL tP)(b:Ba E)(s:St E)(k:St E->tO R):tO R:=c5_ P E (λL H nx o _ k=>evOp P E eqs tab L H nx o k) N (l.length+1) R none l 0 b s k
def tlOf:Nat->tL Nat->tL Nat
 | _,[]=>[]
 | i,f::fl=>match Nat.beq f 2 with
  | true=>i::tlOf (i+1) fl
  | false=>tlOf (i+1) fl
def frOf:Nat->tL Nat->tL Nat
 | _,[]=>[]
 | i,f::fl=>match Nat.beq f 4 with
  | true=>i::frOf (i+1) fl
  | false=>frOf (i+1) fl
def aw_:tL Nat->Nat
 | []=>0
 | f::fl=>match Nat.beq f 0 with
  | true=>aw_ fl+1
  | false=>0
def ey_:Nat->tL tP->tL (Nat×tV)|_,[]=>[]|i,_::l=>(i,false)::ey_ (i+1) l
def en_(h:tL Nat):Nat->tL tP->tL Nat->tL (Nat×tP×Nat)
 | i,o::l,f::fl=>match ay_ i h with
  | true=>en_ h (i+1) l fl
  | false=>(i,o,f)::en_ h (i+1) l fl
 | _,_,_=>[]
def hOrd:tL Nat->tL (Nat×tV) | []=>[]|i::l=>(i,false)::hOrd l
def quietM(f:Nat):tV:=Nat.beq f 0||Nat.beq f 4
def dp_:tL (Nat×tP×Nat)->tL (Nat×tV) | []=>[]|t::l=>(t.1,!(quietM t.2.2))::dp_ l
noncomputable def evH(P:tT)(E:TE)(eqs:tL (Nat×Nat))(tab:Tab E)(N:Nat){R:Type}(b:Ba E)(all:tL tP)(fr:tL Nat):tL Nat->St E->(St E->tO R)->tO R
 | [],s,k=>k s
 | i :: h,s,k=>match all[i]? with
  | none=>none
  | some o=>match o.guard with
   | some _=>none
   | none=>match fr.contains i with
    | true=>qFree P E eqs (s.L b) o λv up=>match up with
     | some _=>none
     | none=>match s.after N o (some v) []with
      | some f=>evH P E eqs tab N b all fr h f k
      | none=>none
    | false=>hL_ P E eqs tab (s.L b) (s.H b) s.nx o λv u=>match s.after N o v u with
     | some f=>evH P E eqs tab N b all fr h f k
     | none=>none
noncomputable def evB(P:tT)(E:TE)(eqs:tL (Nat×Nat))(tab:Tab E)(N:Nat)(fm:tV){R:Type}(b:Ba E):tL (Nat×tP×Nat)->St E->(St E->tO R)->tO R
 | [],s,k=>k s
 | (_,o,f)::l,s,k=>match o.guard with
  | some _=>none
  | none=>match quietM f with
   | true=>qFree P E eqs (s.L b) o λv up=>match up with
    | some _=>none
    | none=>match s.after N o (some v) []with
     | some h=>evB P E eqs tab N fm b l h k
     | none=>none
   | false=>match Nat.beq f 2||(fm||gq_ tab (s.L b) o)with
    | false=>none
    | true=>evOp P E eqs tab (s.L b) (s.H b) s.nx o λv u=>match s.after N o v u with
     | some h=>evB P E eqs tab N fm b l h k
     | none=>none
def fx_(S:tL Nat)(H:Nat->tO (Obj E))(i:Nat):tO (Obj E):=match ay_ i S with|true=>none|false=>H i
def hM_(S:tL Nat)(H:Nat->tO (Obj E))(i:Nat):tO (Obj E):=match ay_ i S with|true=>H i|false=>none
noncomputable def evDraw(P:tT)(E:TE)(eqs:tL (Nat×Nat))(tab:Tab E)(N:Nat){R:Type}(l:tL tP)(fl h:tL Nat)(fm:tV)(S:tL Nat)(b:Ba E)(s:St E)(k:St E->tO R):tO R :=
 match P.follows .mixedOrders&&mixBI .any l.toArray (tlOf 0 fl) (frOf 0 fl) (ey_ 0 (l.take (aw_ fl))++(hOrd h++dp_ (en_ h (aw_ fl) (l.drop (aw_ fl)) (fl.drop (aw_ fl)))))with
 | false=>none
 | true=>match fm with
  | false=>c5_ P E (λL H nx o _ k=>hL_ P E eqs tab L H nx o k) N (l.length+1) R none (l.take (aw_ fl)) 0 b s λp=>evH P E eqs tab N b l (frOf 0 fl) h p λf=>evB P E eqs tab N false b (en_ h (aw_ fl) (l.drop (aw_ fl)) (fl.drop (aw_ fl))) f k
  | true=>c5_ P E (λL H nx o _ k=>hL_ P E eqs tab L H nx o k) N (l.length+1) R none (l.take (aw_ fl)) 0 ⟨s.L b,fx_ S (s.H b),b.lo⟩ (St.new s.nx) λp =>
   evH P E eqs tab N ⟨s.L b,fx_ S (s.H b),b.lo⟩ l (frOf 0 fl) h p λf=>match f.vis,f.hvis,f.heap with
    | none,none,[]=>evB P E eqs tab N true ⟨f.L ⟨s.L b,fx_ S (s.H b),b.lo⟩,hM_ S (s.H b),b.lo⟩ (en_ h (aw_ fl) (l.drop (aw_ fl)) (fl.drop (aw_ fl))) (St.new f.nx) λj=>match j.vis,j.hvis with
     | none,none=>k { s with env:=j.env++(f.env++s.env),heap:=j.heap++s.heap,nx:=j.nx }
     | _,_=>none
    | _,_,_=>none
def dstN(o:tP):Nat:=match o.dst with|some d=>d|none=>0
def floatB(P:tT)(N:Nat)(o:tP)(ds:tL Nat):tV:=match o.op,o.guard,o.dst with
 | .alloc T,none,some d => !(ay_ d ds)&&(Nat.blt d N&&(match zeroOf P T with|some _=>true|none=>false))
 | _,_,_=>false
def dstsT:tL (Nat×tP×Nat)->tL Nat
 | []=>[]
 | t::l=>match t.2.1.dst with
  | some d=>d::dstsT l
  | none=>dstsT l
noncomputable def evFloat(P:tT)(E:TE)(eqs:tL (Nat×Nat))(tab:Tab E)(N:Nat){R:Type}(l:tL tP)(fl f:tL Nat)(p:Nat)(b:Ba E)(s:St E)(k:St E->tO R):tO R :=
 match(en_ f (aw_ fl) (l.drop (aw_ fl)) (fl.drop (aw_ fl)))[p]? with
 | none=>none
 | some t=>match P.follows .mixedOrders&&(floatB P N t.2.1 (dstsT ((en_ f (aw_ fl) (l.drop (aw_ fl)) (fl.drop (aw_ fl))).take p))&&Nat.beq t.2.2 1) &&
   mixBF .any l.toArray (tlOf 0 fl) (frOf 0 fl) t.1 (ey_ 0 (l.take (aw_ fl))++(hOrd f++dp_ ((en_ f (aw_ fl) (l.drop (aw_ fl)) (fl.drop (aw_ fl))).take p))) (dp_ ((en_ f (aw_ fl) (l.drop (aw_ fl)) (fl.drop (aw_ fl))).drop (p+1)))with
  | false=>none
  | true=>c5_ P E (λL H nx o _ k=>hL_ P E eqs tab L H nx o k) N (l.length+1) R none (l.take (aw_ fl)) 0 b s λj=>evH P E eqs tab N b l (frOf 0 fl) f j λh =>
    evB P E eqs tab N false b ((en_ f (aw_ fl) (l.drop (aw_ fl)) (fl.drop (aw_ fl))).take p++t::(en_ f (aw_ fl) (l.drop (aw_ fl)) (fl.drop (aw_ fl))).drop (p+1)) { h with env:=(dstN t.2.1,none)::h.env } k
abbrev Gs:=tL (Nat×Nat×tV)
def gsAt(k:Nat):Gs->tO (Nat×Nat×tV)
 | []=>none
 | q::l=>match Nat.beq q.1 k with
  | true=>some q
  | false=>gsAt k l
def gsSlot(d:Nat):Gs->tO (Nat×Nat×tV)
 | []=>none
 | q::l=>match Nat.beq q.2.1 d with
  | true=>some q
  | false=>gsSlot d l
def gsFree(o:tP)(gs:Gs):tV:=gs.all λq=>dstOK o (some (q.1,q.2.2,q.2.1))
def wantG(o:tP)(gs:Gs):tO tV:=match o.guard with
 | none=>some true
 | some (k,w)=>match gsAt k gs with
  | none=>none
  | some q=>some (match q.2.2,w with|true,true=>true|false,false=>true|_,_=>false)
def pickG(o:tP)(gs:Gs):tO tI:=match o.op with
 | .pick (.tmp d) x y=>match gsSlot d gs with
  | none=>none
  | some q=>some (picked q.2.2 x y)
 | _=>none
noncomputable def evO1(P:tT)(E:TE)(eqs:tL (Nat×Nat))(tab:Tab E)(N:Nat){R:Type}(b:Ba E)(all:tL tP)(i:Nat)(gs:Gs)(s:St E)(h:St E->tO R):tO R:=match all[i]? with
 | none=>none
 | some o=>match gsFree o gs,wantG o gs with
  | true,some true=>match pickG o gs with
   | some x=>match opS E (s.L b) x with
    | none=>none
    | some v=>match s.after N o (some v) []with
     | some f=>h f
     | none=>none
   | none=>evOp P E eqs tab (s.L b) (s.H b) s.nx o λv u=>match s.after N o v u with
    | some f=>h f
    | none=>none
  | true,some false=>match s.after N o none []with
   | some f=>h f
   | none=>none
  | _,_=>none
noncomputable def ez_(P:tT)(E:TE)(eqs:tL (Nat×Nat))(tab:Tab E)(N:Nat){R:Type}(b:Ba E)(all:tL tP)(k:St E->tO R):OT->Gs->St E->tO R
 | .nil,_,s=>k s
 | .spl i t f,gs,s=>match all[i]? with
  | none=>none
  | some o=>match o.dst with
   | none=>none
   | some d=>match s.L b d with
    | some (.v (.one (.dt .bool c)))=>bif c then ez_ P E eqs tab N b all k t ((i,d,true)::gs) s else ez_ P E eqs tab N b all k f ((i,d,false)::gs) s
    | _=>none
 | .free i t,gs,s=>match all[i]? with
  | none=>none
  | some o=>match gsFree o gs,wantG o gs with
   | true,some true=>qFree P E eqs (s.L b) o λv up=>match up with
    | some _=>none
    | none=>match s.after N o (some v) []with
     | some h=>ez_ P E eqs tab N b all k t gs h
     | none=>none
   | true,some false=>match s.after N o none []with
    | some h=>ez_ P E eqs tab N b all k t gs h
    | none=>none
   | _,_=>none
 | .alt i t .nil,gs,s=>evO1 P E eqs tab N b all i gs s λh=>ez_ P E eqs tab N b all k t gs h
 | .alt i t (.alt j t2 p),gs,s=>both (evO1 P E eqs tab N b all i gs s λh=>ez_ P E eqs tab N b all k t gs h) (ez_ P E eqs tab N b all k (.alt j t2 p) gs s)
 | .alt _ _ (.free _ _),_,_=>none
 | .alt _ _ (.spl _ _ _),_,_=>none
noncomputable def evOrd(P:tT)(E:TE)(eqs:tL (Nat×Nat))(tab:Tab E)(N:Nat){R:Type}(l:tL tP)(p:Nat)(t:OT)(b:Ba E)(s:St E)(k:St E->tO R):tO R:=match P.follows .mixedOrders&&((t.frO.all λi=>Nat.ble p i)&&mixBO .any l.toArray t.tlO t.frO t (ey_ 0 (l.take p)))with|false=>none|true=>c5_ P E (λL H nx o _ k=>hL_ P E eqs tab L H nx o k) N (l.length+1) R none (l.take p) 0 b s λf=>ez_ P E eqs tab N b l k t [] f
def linO:OT->Nat->Nat->tV | .nil,i,n=>Nat.beq i n | .free j t,i,n=>Nat.beq j i&&linO t (i+1) n | .alt j t .nil,i,n=>Nat.beq j i&&linO t (i+1) n | .alt _ _ _,_,_=>false | .spl _ t f,i,n=>linO t i n&&linO f i n
noncomputable def evLin(P:tT)(E:TE)(eqs:tL (Nat×Nat))(tab:Tab E)(N:Nat){R:Type}(l:tL tP)(t:OT)(b:Ba E)(s:St E)(k:St E->tO R):tO R:=match linO t 0 l.length with|false=>none|true=>ez_ P E eqs tab N b l k t [] s
def chO:Nat->Nat->OT|_,0 => .nil|i,n+1 => .alt i (chO (i+1) n) .nil
noncomputable def evChain(P:tT)(E:TE)(eqs:tL (Nat×Nat))(tab:Tab E)(N:Nat){R:Type}(l:tL tP)(p:Nat)(b:Ba E)(s:St E)(k:St E->tO R):tO R:=match P.follows .mixedOrders&&(Nat.ble p l.length&&mixBO .any l.toArray (chO p (l.length-p)).tlO [] (chO p (l.length-p)) (ey_ 0 (l.take p)))with|false=>none|true=>c5_ P E (λL H nx o _ k=>hL_ P E eqs tab L H nx o k) N (l.length+1) R none (l.take p) 0 b s λf=>c5_ P E (λL H nx o _ k=>evOp P E eqs tab L H nx o k) N (l.length+1) R none (l.drop p) p b f k
inductive CP where
 | v (t:Ty)
 | own (j:Nat)
 | ptr (j:Nat)
 | mp (j:Nat)
 | sbp (j:Nat)
inductive VP where
 | d (t:Ty)
 | one (c:CP)
 | agg (l:tL CP)
inductive OP where
 | box (T:tN) (t:Ty)
 | cells (T:tN) (l:tL CP)
 | row (e:tN) (t:Ty) (foc:tL (Nat×Nat))
 | map (T:tN) (k v:Ty)
structure JP where (slots:tL (Nat×VP)) (objs:tL (Nat×tV×OP)) (keep hkeep gkeep:tL Nat) (nx:Nat)
def cpT:tL CP->tL Ty | []=>[] | .v t::l=>t::cpT l|_::l=>cpT l
def VP.T:VP->tL Ty | .d t=>[t] | .one c=>cpT [c] | .agg l=>cpT l
def OP.T:OP->tL Ty | .box _ t=>[t] | .cells _ l=>cpT l | .row _ t _=>[.sl t] | .map _ k v=>[.sl k,.sl v]
def fd_:tL (Nat×VP)->tL Ty | []=>[]|p::l=>p.2.T++fd_ l
def hN_:tL (Nat×tV×OP)->tL Ty | []=>[]|p::l=>p.2.2.T++hN_ l
def JP.T(j:JP):tL Ty:=fd_ j.slots++hN_ j.objs
def hap{S:Nat->Type}:{ts f:tL Ty}->HL S ts->HL S f->HL S (ts++f) | [],_,_,h=>h|_::_,_,a,h=>(a.1,hap a.2 h)
def hfst{S:Nat->Type}:(ts f:tL Ty)->HL S (ts++f)->HL S ts | [],_,_=>()|_::ts,f,h=>(h.1,hfst ts f h.2)
def hsnd{S:Nat->Type}:(ts f:tL Ty)->HL S (ts++f)->HL S f | [],_,h=>h|_::ts,f,h=>hsnd ts f h.2
def rowOf(j:Nat):tL (Nat×tV×OP)->tO (tN×Ty)
 | []=>none
 | (i,_,.row e t _)::l=>match Nat.beq i j with
  | true=>some (e,t)
  | false=>rowOf j l
 | _::l=>rowOf j l
def wantC(objs:tL (Nat×tV×OP)):tL CP->tL (tO (tN×Ty)) | .own j::ps=>rowOf j objs::wantC objs ps|_::ps=>none::wantC objs ps | []=>[]
def prepRs(E:TE){α:Type}:Rs->tL (V1 E)->Nat->(tL (V1 E)->Chs E->Nat->α)->α|(t,m)::rs,x::xs,n,k=>kH_ E t m x n λf u p=>prepRs E rs xs p λxs' h j=>k (f::xs') (h++u) j|_,xs,n,k=>k xs [] n
def prepS(b:Ba E)(s:St E)(objs:tL (Nat×tV×OP)):Nat×VP->St E
 | (t,.one (.own j))=>match s.L b t,rowOf j objs with
  | some (.v (.one .nils)),some (e,ty)=>{ s with env:=(t,some (.v (.one (.own s.nx))))::s.env,heap:=(s.nx,some (.row e ty [] []))::s.heap,nx:=s.nx+1 }
  | _,_=>s
 | (t,.d _)=>match s.L b t with
  | some (.v x)=>{ s with heap:=dU_ (s.H b) x.cs++s.heap }
  | _=>s
 | (t,.agg ps)=>match s.L b t with
  | some (.v (.agg cs))=>iK_ (wantC objs ps) cs s.nx λl u m=>{ s with env:=(t,some (.v (.agg l)))::s.env,heap:=u++s.heap,nx:=m }
  | _=>s
 | _=>s
def jC_(b:Ba E)(objs:tL (Nat×tV×OP)):tL (Nat×VP)->St E->St E | [],s=>s|p::l,s=>jC_ b objs l (prepS b s objs p)
def mX_(b:Ba E)(objs:tL (Nat×tV×OP))(s:St E):Nat×tV×OP->St E
 | (j,true,.cells _ ps)=>match s.H b j with
  | some (.box T cs)=>iK_ (wantC objs ps) cs s.nx λl u m=>{ s with heap:=(j,some (.box T l))::(u++s.heap),nx:=m }
  | _=>s
 | _=>s
def jD_(b:Ba E)(objs:tL (Nat×tV×OP)):tL (Nat×tV×OP)->St E->St E | [],s=>s|p::l,s=>jD_ b objs l (mX_ b objs s p)
def selV:tL CP->tL (SC E)->tL (SC E) | .v _::ps,c::cs=>c::selV ps cs|_::ps,_::cs=>selV ps cs|_,_=>[]
def frzC(b:Ba E)(s:St E)(cs:tL (SC E)):St E:={ s with heap:=dU_ (s.H b) cs++s.heap }
def frzS1(b:Ba E)(s:St E):Nat×VP->St E
 | (t,.agg ps)=>match s.L b t with
  | some (.v (.agg cs))=>frzC b s (selV ps cs)
  | _=>s
 | _=>s
def frzS(b:Ba E):tL (Nat×VP)->St E->St E | [],s=>s|p::l,s=>frzS b l (frzS1 b s p)
def frzO1(b:Ba E)(s:St E):Nat×tV×OP->St E
 | (j,true,.cells _ ps)=>match s.H b j with
  | some (.box _ cs)=>frzC b s (selV ps cs)
  | _=>s
 | (j,true,.box _ _)=>match s.H b j with
  | some (.box _ cs)=>frzC b s cs
  | _=>s
 | _=>s
def frzOs(b:Ba E):tL (Nat×tV×OP)->St E->St E | [],s=>s|p::l,s=>frzOs b l (frzO1 b s p)
abbrev Bd:=tL (Nat×Nat)
def addB(j id:Nat)(bs:Bd):tO Bd:=match aK_ j bs with
 | some id'=>match Nat.beq id id' with
  | true=>some bs
  | false=>none
 | none=>some ((j,id)::bs)
def bl_:tL CP->tL (SC E)->Bd->tO Bd
 | [],[],bs=>some bs
 | .v _::ps,_::cs,bs=>bl_ ps cs bs
 | .own j::ps,.own id::cs,bs=>match addB j id bs with
  | some bs=>bl_ ps cs bs
  | none=>none
 | .ptr j::ps,.ptr id 0::cs,bs=>match addB j id bs with
  | some bs=>bl_ ps cs bs
  | none=>none
 | .mp j::ps,.mp id::cs,bs=>match addB j id bs with
  | some bs=>bl_ ps cs bs
  | none=>none
 | .sbp j::ps,.sbp id::cs,bs=>match addB j id bs with
  | some bs=>bl_ ps cs bs
  | none=>none
 | _,_,_=>none
def gg_(L:Nat->tO (SV E)):tL (Nat×VP)->Bd->tO Bd
 | [],bs=>some bs
 | (_,.d _)::l,bs=>gg_ L l bs
 | (t,.one p)::l,bs=>match L t with
  | some (.v (.one c))=>match bl_ [p] [c] bs with
   | some bs=>gg_ L l bs
   | none=>none
  | _=>none
 | (t,.agg ps)::l,bs=>match L t with
  | some (.v (.agg cs))=>match bl_ ps cs bs with
   | some bs=>gg_ L l bs
   | none=>none
  | _=>none
def selfB(self:tV)(j:Nat)(bs:Bd):tO Bd:=match self with|true=>addB j j bs|false=>some bs
def iM_ (H:Nat->tO (Obj E)):tL (Nat×tV×OP)->Bd->tO Bd
 | [],bs=>some bs
 | (j,self,p)::l,bs=>match selfB self j bs with
  | some bs=>match p with
   | .cells _ ps=>match aK_ j bs with
    | some id=>match H id with
     | some (.box _ cs)=>match bl_ ps cs bs with
      | some bs=>iM_ H l bs
      | none=>none
     | _=>none
    | none=>none
   | _=>iM_ H l bs
  | none=>none
def cL_{α:Type}:tV->tO α->tO α|true,x=>x|false,_=>none
theorem bN_{α:Type}{c:tV}{x:tO α}{y:α}(h:cL_ c x=some y):c=true/\x=some y:=by
 cases c with
 | true=>exact⟨rfl,h⟩
 | false=>cases h
def castO{S:TE}(t:Ty){f:Ty}(xs:tL (Den S.S f)):tO (tL (Den S.S t)):=if h:f=t then some (dV_ h xs)else none
theorem ny_{S:TE}{t j:Ty}{xs:tL (Den S.S j)}{f:tL (Den S.S t)}(h:castO t xs=some f):∃e:j=t,f=dV_ e xs:=by
 unfold castO at h;split at h
 .rename_i e;exact⟨e,(qSj h).symm⟩
 .cases h
def unitO{α:Type}:tO α->tO (α×Unit)|some x=>some (x,())|none=>none
theorem kK_{α:Type}{x:tO α}{q:α×Unit}(h:unitO x=some q):x=some q.1:=by
 cases x with
 | none=>cases h
 | some a=>obtain rfl:=qSj h;rfl
def hapO{S:Nat->Type}{ts f:tL Ty}:tO (HL S ts)->tO (HL S f)->tO (HL S (ts++f))|some x,some y=>some (hap x y)|_,_=>none
theorem oH_{S:Nat->Type}{ts f:tL Ty}{x:tO (HL S ts)}{y:tO (HL S f)}{q:HL S (ts++f)}(h:hapO x y=some q):∃a b,x=some a/\y=some b/\q=hap a b:=by
 cases x with
 | none=>cases h
 | some a =>
  cases y with
  | none=>cases h
  | some b=>exact⟨a,b,rfl,rfl,(qSj h).symm⟩
def pairO{α β:Type}:tO α->tO β->tO (α×β)|some x,some y=>some (x,y)|_,_=>none
theorem rj_{α β:Type}{x:tO α}{y:tO β}{q:α×β}(h:pairO x y=some q):x=some q.1/\y=some q.2:=by
 cases x with
 | none=>cases h
 | some a =>
  cases y with
  | none=>cases h
  | some b=>obtain rfl:=qSj h;exact⟨rfl,rfl⟩
def dC_(H:Nat->tO (Obj E)):(ps:tL CP)->tL (SC E)->tO (HL E.S (cpT ps)) | [],[]=>some () | .v t::ps,c::cs=>pairO (c.data H t) (dC_ H ps cs) | .own _::ps,_::cs=>dC_ H ps cs | .ptr _::ps,_::cs=>dC_ H ps cs | .mp _::ps,_::cs=>dC_ H ps cs | .sbp _::ps,_::cs=>dC_ H ps cs|_,_=>none
def leafV(H:Nat->tO (Obj E)):(p:VP)->V1 E->tO (HL E.S p.T) | .d t,x=>unitO (takeD E H t x) | .one p,.one c=>dC_ H [p] [c] | .agg ps,.agg cs=>dC_ H ps cs|_,_=>none
def leafS(L:Nat->tO (SV E))(H:Nat->tO (Obj E)):(l:tL (Nat×VP))->tO (HL E.S (fd_ l))
 | []=>some ()
 | (t,p)::l=>match L t with
  | some (.v x)=>hapO (leafV H p x) (leafS L H l)
  | _=>none
def leafO(H:Nat->tO (Obj E)):(p:OP)->Obj E->tO (HL E.S p.T) | .box T t,.box T' cs=>cL_ (Nat.beq T T') (unitO ((cf_ E H (E.flat t) cs).map (E.ufl t))) | .cells T ps,.box T' cs=>cL_ (Nat.beq T T') (dC_ H ps cs) | .row e t _,.row h _ xs _=>cL_ (Nat.beq e h) (unitO (castO t xs)) | .map T k v,.map T' _ _ f vs _=>cL_ (Nat.beq T T') (pairO (castO k f) (unitO (castO v vs)))|_,_=>none
def lB_(H:Nat->tO (Obj E))(bs:Bd):(l:tL (Nat×tV×OP))->tO (HL E.S (hN_ l))
 | []=>some ()
 | (j,_,p)::l=>match aK_ j bs with
  | some id=>match H id with
   | some o=>hapO (leafO H p o) (lB_ H bs l)
   | none=>none
  | none=>none
def focOK(H:Nat->tO (Obj E))(bs:Bd)(keep gkeep:tL Nat):tL (Nat×tV×OP)->tV
 | []=>true
 | (j,_,.row _ _ fs)::l=>(match aK_ j bs with
  | some id=>match H id with
   | some (.row _ _ _ foc)=>fs.all λf=>(foc.any λp=>Nat.beq p.1 f.1)&&(ay_ f.2 keep&&ay_ f.1 gkeep)
   | _=>false
  | none=>false)&&focOK H bs keep gkeep l
 | _::l=>focOK H bs keep gkeep l
def noKey{α:Type}(i:Nat)(l:tL (Nat×α)):tV:=match aK_ i l with|none=>true|some _=>false
def subset(l m:tL Nat):tV:=l.all λt=>ay_ t m
def selfs:tL (Nat×tV×OP)->tL Nat | []=>[]|(j,true,_)::l=>j::selfs l|_::l=>selfs l
def disj(l m:tL Nat):tV:=l.all λt => !(ay_ t m)
def JP.mtB(j:JP)(lo:Nat)(s:St E)(bs:Bd):tV:=(Nat.ble lo j.nx&&bs.all λp=>Nat.ble lo p.1||Nat.beq p.1 p.2)&&(j.keep.all λt=>noKey t s.env&&seen s.vis t)&&((j.hkeep.all λt=>noKey t s.heap&&seen s.hvis t)&&(nodupB (bs.map (·.2))&&(disj (bs.map (·.2)) j.hkeep&&(disj (bs.map (·.1)) (j.hkeep++j.gkeep)&&((bs.all λp=>Nat.blt p.1 j.nx)&&(j.hkeep++j.gkeep).all λi=>Nat.blt i j.nx)))))
def JP.mt(j:JP)(b:Ba E)(f:St E):tO (HL E.S j.T) :=
 let s:=jD_ b j.objs j.objs (jC_ b j.objs j.slots (frzOs b j.objs (frzS b j.slots f)))
 match gg_ (s.L b) j.slots []with
 | some bs=>match iM_ (s.H b) j.objs bs with
  | some bs=>cL_ (j.mtB b.lo s bs&&focOK (s.H b) bs j.keep j.gkeep j.objs) (hapO (leafS (s.L b) (s.H b) j.slots) (lB_ (s.H b) bs j.objs))
  | none=>none
 | none=>none
def newC:(ps:tL CP)->HL E.S (cpT ps)->tL (SC E) | [],_=>[] | .v t::ps,h => .dt t h.1::newC ps h.2 | .own j::ps,h => .own j::newC ps h | .ptr j::ps,h => .ptr j 0::newC ps h | .mp j::ps,h => .mp j::newC ps h | .sbp j::ps,h => .sbp j::newC ps h
def ones:tL (SC E)->tO (V1 E) | [c]=>some (.one c)|_=>none
def newV:(p:VP)->HL E.S p.T->tO (V1 E) | .d t,h=>asV E t (E.cells t h.1) | .one p,h=>ones (newC [p] h) | .agg ps,h=>some (.agg (newC ps h))
def slotO(t:Nat):tO (V1 E)->tO (tL (Nat×tO (SV E)))->tO (tL (Nat×tO (SV E)))|some x,some r=>some ((t,some (.v x))::r)|_,_=>none
def newS:(l:tL (Nat×VP))->HL E.S (fd_ l)->tO (tL (Nat×tO (SV E))) | [],_=>some []|(t,p)::l,h=>slotO t (newV p (hfst p.T (fd_ l) h)) (newS l (hsnd p.T (fd_ l) h))
def focK(L:Nat->tO (SV E)){R:Type}{t:Ty}(xs:tL (Den E.S t)):tL (Nat×Nat)->(tL (Nat×Int×Den E.S t)->tO R)->tO R
 | [],k=>k []
 | (q,sl)::fs,k=>match L sl with
  | some (.v (.one (.elo _ f i _)))=>match Nat.beq q f with
   | true=>Option.bind (ah_ xs i) λy=>focK L xs fs λl=>k ((q,i,y)::l)
   | false=>none
  | _=>none
def newO(L:Nat->tO (SV E)){R:Type}:(p:OP)->HL E.S p.T->(Obj E->tO R)->tO R | .box T t,h,k=>k (.box T (E.cells t h.1)) | .cells T ps,h,k=>k (.box T (newC ps h)) | .row e t fs,h,k=>focK L h.1 fs λl=>k (.row e t h.1 l) | .map T kt v,h,k=>k (.map T kt v h.1 h.2.1 [])
def newOs(L:Nat->tO (SV E)){R:Type}:(l:tL (Nat×tV×OP))->HL E.S (hN_ l)->(Chs E->tO R)->tO R | [],_,k=>k []|(j,_,p)::l,h,k=>newO L p (hfst p.T (hN_ l) h) λo=>newOs L l (hsnd p.T (hN_ l) h) λu=>k ((j,some o)::u)
def SC.okIds(A:tL Nat):SC E->tV | .own id=>ay_ id A | .pre id _=>ay_ id A | .suf id _=>ay_ id A | .ptr id _=>ay_ id A | .elo id q _ _=>ay_ id A&&ay_ q A | .clo _ ids=>subset ids A | .mp id=>ay_ id A | .mst q=>ay_ q A | .sbp id=>ay_ id A | .pix id _=>ay_ id A|_=>true
def V1.okIds(A:tL Nat):V1 E->tV | .one c=>c.okIds A | .agg l=>l.all λc=>c.okIds A
def SV.okIds(A:tL Nat):SV E->tV | .v x=>x.okIds A | .tup l=>l.all λx=>x.okIds A
def Obj.okIds(A:tL Nat):Obj E->tV | .box _ cs=>cs.all λc=>c.okIds A | .row _ _ _ foc=>foc.all λp=>ay_ p.1 A | .map _ _ _ _ _ foc=>foc.all λp=>ay_ p.1 A|_=>true
def filtK{α:Type}(keep:tL Nat)(l:tL (Nat×α)):tL (Nat×α):=l.filter λp=>ay_ p.1 keep
def JP.goB(j:JP)(b:Ba E)(s:St E):tV :=
 (j.keep.all λt=>match s.L b t with|some v=>v.okIds (j.hkeep++(j.gkeep++selfs j.objs))|none=>true)&&(j.hkeep.all λi=>match s.H b i with|some o=>o.okIds (j.hkeep++(j.gkeep++selfs j.objs))|none=>true)
def JP.goS(j:JP)(s:St E)(env:tL (Nat×tO (SV E)))(u:Chs E):St E:={ env:=env++filtK j.keep s.env,vis:=some (j.keep.filter (seen s.vis)),heap:=u++filtK j.hkeep s.heap,hvis:=some (j.hkeep.filter (seen s.hvis)),nx:=j.nx }
def JP.go(j:JP)(b:Ba E)(s:St E){R:Type}(h:HL E.S j.T)(k:St E->tO R):tO R :=
 match newS j.slots (hfst (fd_ j.slots) (hN_ j.objs) h)with
 | none=>none
 | some env =>
  cL_ (j.goB b s) (newOs (s.L b) j.objs (hsnd (fd_ j.slots) (hN_ j.objs) h) λu=>k (j.goS s env u))
def pF_(o:tP):tO (tN×Nat):=match o.op,o.guard,o.dst with | .alloc T,none,some d=>some (T,d)|_,_,_=>none
def pG_(o:tP):tO (tN×Nat×Nat):=match o.op,o.guard,o.dst with | .store T (.tmp d) (.tmp x),none,none=>some (T,d,x)|_,_,_=>none
def pairB(N:Nat)(T1 d1 T2 d2 p h x1 j f x2:Nat):tV:=(Nat.beq p T1&&Nat.beq j T2)&&((Nat.beq h d1&&Nat.beq f d2)&&((!(Nat.beq d1 d2)&&(Nat.blt d1 N&&Nat.blt d2 N))&&((!(Nat.beq x1 d1) && !(Nat.beq x1 d2))&&(!(Nat.beq x2 d1) && !(Nat.beq x2 d2)))))
noncomputable def evPair(P:tT)(E:TE)(eqs:tL (Nat×Nat))(tab:Tab E)(N:Nat){R:Type}(l:tL tP)(p:Nat)(b:Ba E)(s:St E)(k:St E->tO R):tO R :=
 match l.drop p with
 | [oA,oB,oC,oD]=>match pF_ oA,pF_ oB,pG_ oC,pG_ oD with
  | some (T1,d1),some (T2,d2),some (G,D,x1),some (F,C,x2) =>
   match P.follows .mixedOrders&&(mixBF .any l.toArray [p+3] [] (p+1) (ey_ 0 (l.take p)++[(p,true)]) [(p+2,true),(p+3,true)]&&pairB N T1 d1 T2 d2 G D x1 F C x2)with
   | false=>none
   | true=>c5_ P E (λL H nx o _ k=>hL_ P E eqs tab L H nx o k) N (l.length+1) R none (l.take p) 0 b s λf=>match f.L b x1,f.L b x2 with
    | some y,some v2=>match y.cells?,v2.cells?,zeroOf P T1,zeroOf P T2,aO_ P T1,aO_ P T2 with
     | some u,some q,some x,some z2,some j,some h=>match(Nat.beq j u.length&&Nat.beq x.length j)&&(Nat.beq h q.length&&Nat.beq z2.length h)with
      | true=>k { f with env:=(d2,some (.v (.one (.ptr (f.nx+2) 0))))::(d1,some (.v (.one (.ptr f.nx 0))))::f.env,heap:=[(f.nx+2,some (.box T2 q)),(f.nx,some (.box T1 u))]++f.heap,nx:=f.nx+8 }
      | false=>none
     | _,_,_,_,_,_=>none
    | _,_=>none
  | _,_,_,_=>none
 | _=>none
inductive Pl where
 | p
 | s (x y:Pl)
 | j (m:JP) (ret:tV) (x y:Pl)
 | lp (hd ex:JP) (ret:tV) (x:Pl)
 | dr (fl hs:tL Nat) (fm:tV) (ids:tL Nat)
 | df (fl hs:tL Nat) (p:Nat)
 | ot (p:Nat) (t:OT)
 | sq (p:Nat)
 | pr (p:Nat)
 | lx (hd ex rm:JP) (x:Pl)
 | rx
def Pl.l:Pl->Pl | .s x _=>x|_ => .p
def Pl.r:Pl->Pl | .s _ y=>y|_ => .p
noncomputable def evCode(P:tT)(E:TE)(eqs:tL (Nat×Nat))(tab:Tab E)(N:Nat)(RT:Type)(rv:Ba E->St E->tO RT):Code->Pl->(R:Type)->Ba E->St E->(tO Nat->St E->tO R)->(RT->tO R)->tO R
 | .skip,_,_,_,s,k,_=>k none s
 | .region _ ops false,.ot _ t,_,b,s,k,_=>evLin P E eqs tab N ops.toList t b s (k none)
 | .region _ ops false,_,_,b,s,k,_=>evReg P E eqs tab N ops.toList b s (k none)
 | .region _ ops true,.dr fl C fm ids,_,b,s,k,_=>evDraw P E eqs tab N ops.toList fl C fm ids b s (k none)
 | .region _ ops true,.df fl C p,_,b,s,k,_=>evFloat P E eqs tab N ops.toList fl C p b s (k none)
 | .region _ ops true,.ot p t,_,b,s,k,_=>evOrd P E eqs tab N ops.toList p t b s (k none)
 | .region _ ops true,.sq p,_,b,s,k,_=>evChain P E eqs tab N ops.toList p b s (k none)
 | .region _ ops true,.pr p,_,b,s,k,_=>evPair P E eqs tab N ops.toList p b s (k none)
 | .seq x y,.j m ret px py,R,b,s,k,kr=>match ret with
  | false=>Option.bind (evCode P E eqs tab N RT rv x px (Tp E.S m.T) (s.base b) (St.new s.nx) (λex s'=>match ex with
    | none=>(match m.mt (s.base b) s' with|some h=>some (cG_ m.T h)|none=>none)
    | some _=>none) (λ_=>none)) λo=>m.go b s (b6_ m.T o) λs'=>evCode P E eqs tab N RT rv y py R b s' k kr
  | true=>Option.bind (evCode P E eqs tab N RT rv x px (Out (Tp E.S m.T) RT) (s.base b) (St.new s.nx) (λex s'=>match ex with
    | none=>(match m.mt (s.base b) s' with|some h=>some (.fall (cG_ m.T h))|none=>none)
    | some _=>none) (λr=>some (.ret r))) λo=>match o with
     | .ret r=>kr r
     | .fall o=>m.go b s (b6_ m.T o) λs'=>evCode P E eqs tab N RT rv y py R b s' k kr
 | .seq x y,pl,R,b,s,k,kr=>evCode P E eqs tab N RT rv x pl.l R b s (λex s'=>match ex with
   | none=>evCode P E eqs tab N RT rv y pl.r R b s' k kr
   | some i=>k (some i) s') kr
 | .cond c x y,pl,R,b,s,k,kr=>match opS E (s.L b) c with
  | some (.v (.one (.dt .bool c)))=>bif c then evCode P E eqs tab N RT rv x pl.l R b s k kr else evCode P E eqs tab N RT rv y pl.r R b s k kr
  | _=>none
 | .block id (.loop body),.lp f ex ret pb,_,b,s,k,kr=>match f.mt (s.base b) (St.new s.nx)with
  | none=>none
  | some u=>match ret with
   | false=>Option.bind (af_ (λtp=>f.go (s.base b) (St.new s.nx) (b6_ f.T tp) λq=>evCode P E eqs tab N RT rv body pb (Step (Tp E.S f.T) (Tp E.S ex.T)) (s.base b) q (λe s'=>match e with
      | none=>(match f.mt (s.base b) s' with|some h=>some (.next (cG_ f.T h))|none=>none)
      | some i=>match Nat.beq i (id+1)with
       | true=>(match ex.mt (s.base b) s' with|some h=>some (.done (cG_ ex.T h))|none=>none)
       | false=>none) (λ_=>none)) BIG (cG_ f.T u)) λo=>ex.go b s (b6_ ex.T o) λs'=>k none s'
   | true=>Option.bind (af_ (λtp=>f.go (s.base b) (St.new s.nx) (b6_ f.T tp) λq=>evCode P E eqs tab N RT rv body pb (Step (Tp E.S f.T) (Out (Tp E.S ex.T) RT)) (s.base b) q (λe s'=>match e with
      | none=>(match f.mt (s.base b) s' with|some h=>some (.next (cG_ f.T h))|none=>none)
      | some i=>match Nat.beq i (id+1)with
       | true=>(match ex.mt (s.base b) s' with|some h=>some (.done (.fall (cG_ ex.T h)))|none=>none)
       | false=>none) (λr=>some (.done (.ret r)))) BIG (cG_ f.T u)) λo=>match o with
     | .ret r=>kr r
     | .fall o=>ex.go b s (b6_ ex.T o) λs'=>k none s'
 | .block id (.loop body),.lx f ex rm pb,_,b,s,k,_=>match f.mt (s.base b) (St.new s.nx)with
  | none=>none
  | some u=>Option.bind (af_ (λtp=>f.go (s.base b) (St.new s.nx) (b6_ f.T tp) λq=>evCode P E eqs tab N RT rv body pb (Step (Tp E.S f.T) (Out (Tp E.S ex.T) (Tp E.S rm.T))) (s.base b) q (λe s'=>match e with
      | none=>(match f.mt (s.base b) s' with|some h=>some (.next (cG_ f.T h))|none=>none)
      | some i=>match Nat.beq i (id+1)with
       | true=>(match ex.mt (s.base b) s' with|some h=>some (.done (.fall (cG_ ex.T h)))|none=>none)
       | false=>match Nat.beq i 0 with
        | true=>(match rm.mt (s.base b) s' with|some h=>some (.done (.ret (cG_ rm.T h)))|none=>none)
        | false=>none) (λ_=>none)) BIG (cG_ f.T u)) λo=>match o with
     | .ret o=>rm.go b s (b6_ rm.T o) λs'=>k (some 0) s'
     | .fall o=>ex.go b s (b6_ ex.T o) λs'=>k none s'
 | .block id x,pl,R,b,s,k,kr=>evCode P E eqs tab N RT rv x pl R b s (λex s'=>match ex with
   | none=>k none s'
   | some i=>match Nat.beq i (id+1)with
    | true=>k none s'
    | false=>k (some i) s') kr
 | .exit i,_,_,_,s,k,_=>k (some (i+1)) s
 | .ret,.rx,_,_,s,k,_=>k (some 0) s
 | .scope x,pl,R,b,s,k,kr=>evCode P E eqs tab N RT rv x pl R b s k kr
 | .ret,_,_,b,s,_,kr=>match rv b s with
  | some r=>kr r
  | none=>none
 | _,_,_,_,_,_,_=>none
def resSV(E:TE)(P:tT)(b:Ba E)(s:St E):ResultVar->tO (V1 E)
 | .tmp t=>match s.L b t with
  | some (.v x)=>some x
  | _=>none
 | .cell t T=>match s.L b t with
  | some (.v (.one c))=>match behind E (s.H b) c with
   | some (l,off)=>loadC P T l off
   | none=>none
  | _=>none
def resXs(E:TE)(P:tT)(b:Ba E)(s:St E):tL ResultVar->tO (tL (V1 E))
 | []=>some []
 | v::vs=>match resSV E P b s v,resXs E P b s vs with
  | some x,some l=>some (x::l)
  | _,_=>none
def frzR(E:TE)(H:Nat->tO (Obj E)):Rs->tL (V1 E)->Chs E|(_,m)::rs,x::xs=>dU_ (upH H (frzR E H rs xs)) (unM m x.cs)++frzR E H rs xs|_,_=>[]
def frzV(E:TE)(H:Nat->tO (Obj E)):tL Pm->Nat->Chs E
 | [],_=>[]
 | .b _ _::ps,n=>(match upH H (frzV E H ps (n+1)) n with
  | some (.box _ cs)=>dU_ (upH H (frzV E H ps (n+1))) cs
  | _=>[])++frzV E H ps (n+1)
 | .bm _ t m _::ps,n=>(match upH H (frzV E H ps (n+1+aH_ m (E.flat t))) n with
  | some (.box _ (.ptr _ _::cs))=>dU_ (upH H (frzV E H ps (n+1+aH_ m (E.flat t)))) (unM m cs)
  | some (.box _ cs)=>dU_ (upH H (frzV E H ps (n+1+aH_ m (E.flat t)))) (unM m cs)
  | _=>[])++frzV E H ps (n+1+aH_ m (E.flat t))
 | .l t m::ps,n=>frzV E H ps (n+aH_ m (E.flat t))
 | .g t m::ps,n=>frzV E H ps (n+aH_ m (E.flat t))
 | .mp _ _ _::ps,n=>frzV E H ps (n+1)
 | .d _::ps,n=>frzV E H ps n
 | .p _::ps,n=>frzV E H ps n
 | .f1 _ _::ps,n=>frzV E H ps n
 | .f2 _ _ _::ps,n=>frzV E H ps n
def frzA(E:TE)(H:Nat->tO (Obj E))(ps:tL Pm)(rs:Rs)(xs:tL (V1 E)):Chs E:=frzV E (upH H (frzR E H rs xs)) ps 0++frzR E H rs xs
def takeR(E:TE)(H:Nat->tO (Obj E)):(rs:Rs)->tL (V1 E)->tO (HL E.S rs.ts×tL Nat)
 | [],[]=>some ((),[])
 | (t,m)::rs,x::xs=>match V1.fits t x,b9_ E H m (E.flat t) x.cs,takeR E H rs xs with
  | true,some d,some q=>some ((E.ufl t d.1,q.1),d.2++q.2)
  | _,_,_=>none
 | _,_=>none
def kL_ (E:TE) (H:Nat->tO (Obj E)):Mk->(ts:tL Ty)->HL E.S ts->Nat->tO (HL E.S ts)
 | some e::ms,.sl t::ts,h,n=>match H n with
  | some (.row p f xs _)=>if j:f=t then match Nat.beq e p,kL_ E H ms ts h.2 (n+1)with
    | true,some q=>some (dV_ j xs,q)
    | _,_=>none
   else none
  | _=>none
 | none::ms,_::ts,h,n=>match kL_ E H ms ts h.2 n with
  | some q=>some (h.1,q)
  | none=>none
 | [],_,h,_=>some h
 | _,_,_,_=>none
def hidI:tL (V1 E)->Nat->tV | [],_=>true | [.one (.ptr id _)],p=>Nat.beq p id|_,_=>false
def dD_ (E:TE) (H:Nat->tO (Obj E)):(ps:tL Pm)->PA E ps->Nat->tO (HL E.S (ba_ ps)×tL Nat)
 | [],_,_=>some ((),[])
 | .l t m::ps,a,n=>match kL_ E H m (E.flat t) (E.fl t a.1) n,dD_ E H ps a.2 (n+aH_ m (E.flat t))with
  | some h,some q=>some ((E.ufl t h,q.1),q.2)
  | _,_=>none
 | .g t m::ps,a,n=>dD_ E H ps a.2 (n+aH_ m (E.flat t))
 | .mp T k v::ps,a,n=>match H n,dD_ E H ps a.2 (n+1)with
  | some (.map T' y u x vs _),some q=>if s:y=k/\u=v then match Nat.beq T T' with
    | true=>some ((dV_ s.1 x,dV_ s.2 vs,q.1),q.2)
    | false=>none
   else none
  | _,_=>none
 | .b T t::ps,a,n=>match H n,dD_ E H ps a.2 (n+1)with
  | some (.box T' cs),some q=>match Nat.beq T T',cf_ E H (E.flat t) cs with
   | true,some h=>some ((E.ufl t h,q.1),q.2)
   | _,_=>none
  | _,_=>none
 | .bm T t m px::ps,a,n=>match H n,dD_ E H ps a.2 (n+1+aH_ m (E.flat t))with
  | some (.box T' j),some q=>match iI_ (pxB px ps) j with
   | some (cs,f)=>match Nat.beq T T'&&hidI f (n+1+aH_ m (E.flat t)),b9_ E H m (E.flat t) cs with
    | true,some d=>some ((E.ufl t d.1,q.1),d.2++q.2)
    | _,_=>none
   | none=>none
  | _,_=>none
 | .d _::ps,a,n=>dD_ E H ps a.2 n
 | .p _::ps,a,n=>dD_ E H ps a.2 n
 | .f1 _ _::ps,a,n=>dD_ E H ps a.2 n
 | .f2 _ _ _::ps,a,n=>dD_ E H ps a.2 n
def dE_(E:TE):tL Pm->Nat->tL Nat | [],_=>[] | .l t m::ps,n=>List.range' n (aH_ m (E.flat t))++dE_ E ps (n+aH_ m (E.flat t)) | .g t m::ps,n=>dE_ E ps (n+aH_ m (E.flat t)) | .mp _ _ _::ps,n=>n::dE_ E ps (n+1) | .b _ _::ps,n=>n::dE_ E ps (n+1) | .bm _ t m _::ps,n=>n::dE_ E ps (n+1+aH_ m (E.flat t)) | .d _::ps,n=>dE_ E ps n | .p _::ps,n=>dE_ E ps n | .f1 _ _::ps,n=>dE_ E ps n | .f2 _ _ _::ps,n=>dE_ E ps n
def retF(E:TE)(P:tT)(ps:tL Pm)(rs:Rs)(a:PA E ps)(vs:tL ResultVar)(b:Ba E)(s:St E):tO (Tp E.S (rs.ts++ba_ ps)) :=
 match resXs E P b s vs with
 | none=>none
 | some f=>prepRs E rs f s.nx λxs u _=>match takeR E (upH (upH (s.H b) u) (frzA E (upH (s.H b) u) ps rs xs)) rs xs with
  | none=>none
  | some q=>match dD_ E (upH (upH (s.H b) u) (frzA E (upH (s.H b) u) ps rs xs)) ps a 0 with
   | some bh=>cL_ (nodupB (dE_ E ps 0++(q.2++bh.2))) (some (cG_ _ (hap q.1 bh.1)))
   | none=>none
def slotsOf:Nat->tL (V1 E)->tL (Nat×tO (SV E))|_,[]=>[]|i,x::l=>(i,some (.v x))::slotsOf (i+1) l
noncomputable def gI_(P:tT)(E:TE)(eqs:tL (Nat×Nat))(tab:Tab E)(f:Func)(ps:tL Pm)(rs:Rs)(pl:Pl)(a:PA E ps):tO (Tp E.S (rs.ts++ba_ ps)) :=
 match f.body,b0_ E ps a 0 with
 | some c,some svs=>cL_ (Nat.ble svs.length f.ntmps)<|evCode P E eqs tab f.ntmps (Tp E.S (rs.ts++ba_ ps)) (retF E P ps rs a f.results.toList) c pl (Tp E.S (rs.ts++ba_ ps)) ⟨λ_=>none,λ_=>none,ao_ E ps⟩
   ⟨slotsOf 0 svs,none,bn_ E ps a 0,none,ao_ E ps⟩ (λex s=>match ex with
    | none=>retF E P ps rs a f.results.toList ⟨λ_=>none,λ_=>none,ao_ E ps⟩ s
    | some _=>none) some
 | _,_=>none
end Rt
namespace Rt
open Go.RowKit
structure Org where (z:Fz) (g:Ga) (lo:Nat)
variable{P:tT}{E:TE}{eqs:tL (Nat×Nat)}{tab:Tab E}{N:Nat}{Bs:tL Nat}{F0:Org}{w0:tS}
def Rel(P:tT)(E:TE)(Bs:tL Nat)(F0:Org)(w0:tS)(N:Nat)(L:Nat->tO (SV E))(H:Nat->tO (Obj E))(nx:Nat)(a:Act)(w:tS):Prop:=∃z g,ER P E z g N a L/\HR P E Bs F0.z.F w0 w z g H/\Fresh g nx/\F0.z.Le z/\F0.g.Le g
theorem ER.del{z:Fz}{g:Ga}{a:Act}{L L':Nat->tO (SV E)}(h:ER P E z g N a L){d:Nat}{v:tW}(j:∀t u,L' t=some u->t≠d/\L t=some u):ER P E z g N (a.put (some d) v) L':=by
 refine⟨by simpa[Act.put]using h.size,h.defers,λt u e => ?_⟩;obtain⟨x,s⟩:=j t u e;obtain⟨f,q,p⟩:=h.get t u s;refine⟨f,?_,p⟩;simp only[Act.put];rw[jG (Ne.symm x)];exact q
theorem after_ok2{b:Ba E}{s p:St E}{o:tP}{v:tO (SV E)}{u:Chs E}{a:Act}{w':tS}{x:tW}{z:Fz}{g:Ga}(h:s.after N o v u=some p)(D:ER P E z g N a (s.L b))(M:HR P E Bs F0.z.F w0 w' z g (upH (s.H b) u))(G:Fresh g (nxU s.nx u))(U:∀sv,v=some sv->RV P E z g sv x) :
  (ER P E z g N (a.put o.dst x) (p.L b)/\HR P E Bs F0.z.F w0 w' z g (p.H b)/\Fresh g p.nx/\p.H b=upH (s.H b) u)/\(∀t,(∀d,o.dst=some d->t≠d)->p.L b t=s.L b t):=by
 unfold St.after at h;have j:∀(env:tL (Nat×tO (SV E))) (nx:Nat),(St.H b { s with env:=env,heap:=u++s.heap,nx:=nx })=upH (s.H b) u:=λenv nx=>by
  unfold St.H;rw[aT_]
 cases J:o.dst with
 | none =>
  rw[J]at h;obtain rfl:=qSj h;refine⟨⟨D,?_,G,j _ _⟩,λt _=>rfl⟩;have:=j s.env (nxU s.nx u);show HR P E Bs F0.z.F w0 w' z g (St.H b _);rw[this];exact M
 | some d =>
  rw[J]at h;simp only at h;split at h
  .rename_i Y;obtain rfl:=qSj h;have C:∀t,t≠d->St.L b { s with env:=(d,v)::s.env,heap:=u++s.heap,nx:=nxU s.nx u } t=s.L b t:=λt f=>by
    unfold St.L;simp only[aK_];split
    .rename_i q;split at q
     .rename_i V;exact absurd (qNb V) f
     .rw[q]
    .rename_i q;split at q
     .cases q
     .rw[q]
   have y:St.L b { s with env:=(d,v)::s.env,heap:=u++s.heap,nx:=nxU s.nx u } d=v:=by
    unfold St.L;simp only[aK_];have:Nat.beq d d=true:=by simp
    rw[this]
   refine⟨⟨?_,?_,G,j _ _⟩,λt f=>C t (f d rfl)⟩
   .cases v with
    | some sv =>
     refine D.put Y (U sv rfl) λt O e => ?_
     by_cases f:t=d
     .subst f;rw[y]at e;exact .inl ⟨rfl,(qSj e).symm⟩
     .rw[C t f]at e;exact .inr ⟨f,e⟩
    | none =>
     refine D.del λt O e => ?_
     by_cases f:t=d
     .subst f;rw[y]at e;cases e
     .rw[C t f]at e;exact⟨f,e⟩
   .have:=j ((d,v)::s.env) (nxU s.nx u);rw[this];exact M
  .cases h
theorem ch_{b:Ba E}{s f:St E}{o:tP}{v:tO (SV E)}{u:Chs E}{a:Act}{w':tS}{x:tW}{z:Fz}{g:Ga}(h:s.after N o v u=some f)(D:ER P E z g N a (s.L b))(C:HR P E Bs F0.z.F w0 w' z g (upH (s.H b) u))(j:F0.z.Le z)(p:F0.g.Le g)(y:Fresh g (nxU s.nx u))(q:∀sv,v=some sv->RV P E z g sv x) :
  Rel P E Bs F0 w0 N (f.L b) (f.H b) f.nx (a.put o.dst x) w'/\(∀t,(∀d,o.dst=some d->t≠d)->f.L b t=s.L b t) :=
 let ⟨⟨O,M,J,_⟩,G⟩:=after_ok2 h D C y q
 ⟨⟨z,g,O,M,J,j,p⟩,G⟩
def gdOK(all:tL tP)(gd:Gd)(L:Nat->tO (SV E)):Prop:=match gd with|none=>True|some (j,w,d)=>(∃oj,all[j]? = some oj/\oj.dst=some d)/\∃c,L d=some (.v (.one (.dt .bool c)))/\c=w
theorem kM_{all:tL tP}{j d:Nat}{oj:tP}{a:Act}{c:tV}(p:all[j]? = some oj)(h:oj.dst=some d)(f:a.tmps[d]? = some (.bool c)):yielded all.toArray a.tmps j=some c:=by
 unfold yielded;simp[p,h,f]
theorem oJ_{all:tL tP}{gd:Gd}{L:Nat->tO (SV E)}{o:tP}{a:Act}{z:Fz}{g:Ga}(h:pA_ o gd=true)(u:gdOK all gd L)(x:ER P E z g N a L):Region.wanted o (yielded all.toArray a.tmps)=true:=by
 unfold pA_ at h;unfold Region.wanted;split at h
 .split at h
  .rename_i s;rw[s]
  .cases h
 .rename_i j w d;split at h
  .cases h
  .rename_i J w' p;simp only[qAn]at h;obtain rfl:=qNb h.1;have f:w=w':=by cases w<;>cases w'<;>simp_all
   subst f;obtain⟨⟨oj,G,F⟩,c,D,rfl⟩:=u;obtain⟨v,C,y⟩:=x.get d _ D;rw[p];have q:=SV.bool_ok rfl y;subst q;simp only;rw[kM_ G F C];simp
structure Walk(P:tT)(E:TE)(ev:Ev E)(N:Nat)(Bs:tL Nat)(F0:Org)(w0:tS)(all:tL tP) where
 W:(Act->tS->Prop)->tL tP->Nat->Act->tS->Prop
 nil:∀{J i a w},J a w->W J [] i a w
 app:∀{J1 J l1 l2 i a w},W J1 l1 i a w->(∀a w,J1 a w->W J l2 (i+l1.length) a w)->W J (l1++l2) i a w
 skip:∀{J o l i a w},all[i]? = some o->Region.wanted o (yielded all.toArray a.tmps)=false->W J l (i+1) (a.put o.dst undef) w->W J (o::l) i a w
 step:∀{J o l i a w} {R:Type} {L H nx z g} {k:tO (SV E)->Chs E->tO R} {r:R},all[i]? = some o->Region.wanted o (yielded all.toArray a.tmps)=true ->
  ER P E z g N a L->HR P E Bs F0.z.F w0 w z g H->Fresh g nx->F0.z.Le z->F0.g.Le g->ev L H nx o R k=some r ->
  (∀s u v w' z2 g2,k s u=some r->z.Le z2->g.Le g2->ER P E z2 g2 N a L->HR P E Bs F0.z.F w0 w' z2 g2 (upH H u)->Fresh g2 (nxU nx u)->(∀sv,s=some sv->RV P E z2 g2 sv v)->W J l (i+1) (a.put o.dst v) w')->W J (o::l) i a w
 pick:∀{J o l i a w v},all[i]? = some o->Region.wanted o (yielded all.toArray a.tmps)=true->(∀w,(execOp a.eval o).run P w = .ok (.value v) w)->W J l (i+1) (a.put o.dst v) w->W J (o::l) i a w
theorem oK_{d:Nat}:∀{l body rest:tL tP} {pk:tP},it_ d l=some (body,pk,rest)->l=body++pk::rest/\∃x y,pk.op = .pick (.tmp d) x y
 | [],_,_,_,h=>by cases h
 | o :: r,body,rest,pk,h=>by
  have tail:∀{q:tL tP×tP×tL tP},it_ d r=some q->(o::q.1,q.2.1,q.2.2)=(body,pk,rest)->o::r=body++pk::rest/\∃x y,pk.op = .pick (.tmp d) x y:=by
   rintro⟨l,p,q⟩ f j;simp only[qg]at j;obtain⟨rfl,rfl,rfl⟩:=j;obtain⟨D,C⟩:=oK_ f;exact⟨by rw[D];rfl,C⟩
  unfold it_ at h;split at h
  .rename_i F x y s;split at h
   .rename_i u;obtain rfl:=qNb u;simp only[qOi,qg]at h;obtain⟨rfl,rfl,rfl⟩:=h;exact⟨rfl,x,y,s⟩
   .split at h
    .rename_i l p q f;exact tail f (qSj h)
    .cases h
  .split at h
   .rename_i l p q f;exact tail f (qSj h)
   .cases h
theorem groupOf_eq{o:tP}{idx:Nat}{l body rest:tL tP}{d:Nat}{w:tV}{pk:tP}(h:groupOf o idx l=some (d,w,body,pk,rest)):o.dst=some d/\l=body++pk::rest/\∃x y,pk.op = .pick (.tmp d) x y:=by
 unfold groupOf at h;split at h
 .cases h
 .split at h
  .rename_i j w' D C s;split at h
   .split at h
    .rename_i u p q f;simp only[qOi,qg]at h;obtain⟨rfl,rfl,rfl,rfl,rfl⟩:=h;exact⟨s,oK_ f⟩
    .cases h
   .cases h
  .cases h
theorem skip_ok {ev:Ev E} {all:tL tP} (wk:Walk P E ev N Bs F0 w0 all) {idx d:Nat} {wt c:tV} {J:Act->tS->Prop} (hc:c≠wt) {os:tP} (h1:all[idx]? = some os) (h2:os.dst=some d):∀(l tl:tL tP) (i:Nat) (a:Act) (w:tS),all.drop i=l++tl->idx<i->skipB idx d wt l i=true ->
  a.tmps[d]? = some (.bool c)->(∀j,idx<j->j<i->yielded all.toArray a.tmps j=none) ->
  (∀u,u.tmps.size=a.tmps.size->u.defers=a.defers->(∀t,ay_ t (ex_ l)=false->u.tmps[t]? = a.tmps[t]?)->J u w)->wk.W J l i a w
 | [],tl,i,a,w,_,_,_,_,_,hJ=>wk.nil (hJ a rfl rfl λ_ _=>rfl)
 | o :: l,tl,i,a,w,hd,hi,hs,y,s,hJ=>by
  have ho:all[i]? = some o:=by
   have:(all.drop i)[0]? = some o:=by rw[hd];rfl
   rw[zW]at this;simpa using this
  simp only[skipB,qAn]at hs;obtain⟨q,U⟩:=hs;split at q
  .rename_i j w' d' hg p;simp only[qAn,zh,qo]at q;obtain⟨O,M⟩:=q;have Z:d≠d':=bv_ M;have Y:Region.wanted o (yielded all.toArray a.tmps)=false:=by
    unfold Region.wanted;rw[hg];simp only;rcases O with⟨C,F⟩|⟨C,F⟩
    .obtain rfl:=qNb C;have G:wt=w':=by cases wt<;>cases w'<;>simp_all
     subst G;rw[kM_ h1 h2 y];cases c<;>cases wt<;>simp_all
    .have ZW:idx<j:=by simpa using C
     have ZX:j<i:=by simpa using F
     rw[s j ZW ZX];rfl
   refine wk.skip ho Y ?_;rw[p];refine skip_ok wk hc h1 h2 l tl (i+1) _ w ?_ (by omega) U ?_ (λj ZY ZV => ?_) λu C F e3=>hJ u ?_ ?_ λt D => ?_
   .have:=qa (List.drop 1) hd;rw[zz]at this;simpa[Nat.add_comm]using this
   .simp only[Act.put];rw[jG (Ne.symm Z)];exact y
   .unfold yielded;by_cases ZZ:j=i
    .subst ZZ;simp only[ju,ho,qBs,p,Act.put];rw[Array.getElem?_setIfInBounds];split
     .rename_i h;split at h
      .split at h
       .obtain h:=qSj h;simp[undef]at h
       .cases h
      .rename_i hx;exact absurd rfl hx
     .rfl
    .have f:=s j ZY (by omega);unfold yielded at f;simp only[ju]at f ⊢;cases V:(all[j]?).bind (·.dst)with
     | none=>rfl
     | some dj =>
      rw[V]at f;simp only[qBs]at f ⊢;simp only[Act.put,Array.getElem?_setIfInBounds];by_cases x:d'=dj
      .rw[qL x];split
       .rename_i h;split at h
        .obtain h:=qSj h;simp[undef]at h
        .cases h
       .rfl
      .rw[qP x];exact f
   .rw[C];simp[Act.put]
   .rw[F];simp[Act.put]
   .simp only[ex_,p,ay_]at D;split at D
    .cases D
    .rename_i hb;rw[e3 t D];simp only[Act.put];rw[jG (Ne.symm (bv_ hb))]
  .cases q
end Rt
end Go
