/-
 What the statements of this seat hang on,part 4: Sb Sq Sr Sc Sd Se Sf Sg Sh Si Sj Sk St Sn Open So Ms.
-/
import Derived.Test.YtebokaoegomboaaGreatDoorZH3
import Derived.Deep.Slices
import Derived.ChangeSame
import Derived.ProofKit
import Derived.OpenShut
import Derived.Sort.Statements
import Derived.Lib.SlicesCompact
import Derived.Lib.BitFns
namespace Go
namespace Rt
open Go.RowKit
variable{P:Program}{E:TE}{eqs:List (Nat×Nat)}{tab:Tab E}{N:Nat}{Bs:List Nat}{F0:Org}{w0:World}
theorem new_L(b:Ba E)(s:St E)(nx:Nat):(St.new nx).L (s.base b)=s.L b:=rfl
theorem new_H(b:Ba E)(s:St E)(nx:Nat):(St.new nx).H (s.base b)=s.H b:=rfl
theorem memN_true{t:Nat}:∀{l:List Nat},aC_ t l=true↔t∈l
 | []=>by simp[aC_]
 | u::l=>by
  simp only[aC_];split
  .rename_i f;obtain rfl:=qNb f;simp
  .rename_i f;have:=dC_ f;rw[memN_true];simp[this]
theorem uS_{ds:List Nat}{t:Nat}:∀{l:List (Nat×Option (SV E))},keysIn ds l=true->aC_ t ds=false->aP_ t l=none
 | [],_,_=>rfl
 | p::l,h,f=>by
  simp only[keysIn,qAn]at h;simp only[aP_];split
  .rename_i j;obtain rfl:=qNb j;rw[h.1]at f;cases f
  .exact uS_ h.2 f
theorem rd_{f:Nat->Option (Obj E)}{n i:Nat}(hi:i<n):∀{l:Chs E},qs_ n l=true->upH f l i=f i
 | [],_=>rfl
 | p::l,h=>by
  simp only[qs_,qAn]at h;have:=qx h.1;simp only[upH];split
  .rename_i j;have:=qNb j;omega
  .exact rd_ hi h.2
theorem skip_dst{idx d:Nat}{w:Bool}:∀{l:List Oper} {i:Nat},skipB idx d w l i=true->aC_ d (e8_ l)=false
 | [],_,_=>rfl
 | o::l,i,h=>by
  simp only[skipB,qAn]at h;obtain⟨f,p⟩:=h;split at f
  .rename_i j w' s q m;simp only[qAn,qL]at f;simp only[e8_,m,aC_];rw[f.2];exact skip_dst p
  .cases f
theorem clear_in{t:Nat}:∀{ds:List Nat} {l:List (Nat×Option (SV E))},aC_ t ds=true->aP_ t (clear ds++l)=some none
 | [],_,h=>by simp[aC_]at h
 | d::ds,l,h=>by
  unfold clear;simp only[zB,qR,aP_];by_cases f:Nat.beq t d=true
  .rw[f]
  .rw[Bool.not_eq_true]at f;rw[f];refine clear_in (ds:=ds) ?_;simpa only[aC_,f]using h
theorem clear_out{t:Nat}:∀{ds:List Nat} {l:List (Nat×Option (SV E))},aC_ t ds=false->aP_ t (clear ds++l)=aP_ t l
 | [],_,_=>rfl
 | d::ds,l,h=>by
  unfold clear;simp only[zB,qR,aP_];by_cases f:Nat.beq t d=true
  .simp[aC_,f]at h
  .rw[Bool.not_eq_true]at f;rw[f];refine clear_out (ds:=ds) ?_;simpa only[aC_,f]using h
def lb_(ds:List Nat)(L:Nat->Option (SV E))(t:Nat):Option (SV E):=if aC_ t ds then none else L t
theorem qA_{all:List Oper}{gd:Gd}{o:Oper}{L L':Nat->Option (SV E)}(h:gdOK all gd L)(m:dstOK o gd=true)(p:∀t,(∀d,o.dst=some d->t≠d)->L' t=L t):gdOK all gd L':=by
 unfold gdOK at *
 split
 .trivial
 .rename_i j w d;obtain⟨u,c,s,q⟩:=h;refine⟨u,c,?_,q⟩;rw[p d λx f => ?_]
  .exact s
  .unfold dstOK at m;simp only[f,qL]at m;exact dC_ m
theorem drop_next{all l tl:List Oper}{o:Oper}{i:Nat}(h:all.drop i=(o::l)++tl):all[i]? = some o/\all.drop (i+1)=l++tl:=by
 constructor
 .have:(all.drop i)[0]? = some o:=by rw[h];rfl
  rw[zA]at this;simpa using this
 .have:=qH (List.drop 1) h;rw[jV]at this;simpa[Nat.add_comm]using this
theorem drop_more{all l m tl:List Oper}{i:Nat}(h:all.drop i=(l++m)++tl):all.drop (i+l.length)=m++tl:=by
 have:=qH (List.drop l.length) h;rw[jV,qT,List.drop_left]at this;exact this
theorem pick_run{o:Oper}{d:Nat}{x y:Operand}{ρ:Operand->Value}{c e:Bool}(h:o.op = .pick (.tmp d) x y)(j:ρ (.tmp d) = .bool c)(f:(bif c then ρ x else ρ y) = .bool e)(w:World):(execOp ρ o).run P w = .ok (.value (.bool e)) w:=by
 unfold execOp;rw[h];simp only[j];cases c with
 | true=>simp only[qn]at f;simp[asBool,f]
 | false=>simp only[qw]at f;simp[asBool,f]
theorem hx_ {ev:Ev E} {all:List Oper} (wk:Walk P E ev N Bs F0 w0 all):∀(n:Nat) {R:Type} {gd:Gd} {l:List Oper} {idx:Nat} {b:Ba E} {s:St E} {k:St E->Option R} {r:R} {a:Act} {w:World} {J:Act->World->Prop} {tl:List Oper},
  dJ_ P E ev N n R gd l idx b s k=some r->all.drop idx=l++tl->Rel P E Bs F0 w0 N (s.L b) (s.H b) s.nx a w->gdOK all gd (s.L b) ->
  (∀s' a' w',k s'=some r->Rel P E Bs F0 w0 N (s'.L b) (s'.H b) s'.nx a' w'->gdOK all gd (s'.L b)->J a' w')->wk.W J l idx a w:=by
 intro n
 induction n with
 | zero=>intro R gd l idx b s k r a w J tl h;cases h
 | succ n ih =>
  intro R gd l idx b s k r a w J tl h hd hR hg hK;cases l with
  | nil=>exact wk.nil (hK s a w h hR hg)
  | cons o rest =>
   unfold dJ_ at h;split at h
   .cases h
   .rename_i ZR;simp only[qAn]at ZR;obtain⟨z,g,hE,hH,hf,ZN,ZE⟩:=hR;obtain⟨ZP,ZX⟩:=drop_next hd;refine wk.step ZP (rP_ ZR.1 hg hE) hE hH hf ZN ZE h λv u x w' z2 g2 C ZB O Zb Zc Zi hv => ?_
    split at C
    .cases C
    .rename_i s1 Zy;obtain⟨ZW,Ze⟩:=c6_ Zy Zb Zc (ZN.trans ZB) (ZE.trans O) Zi hv;have ZQ:=qA_ hg ZR.2 Ze;split at C
     .exact ih C ZX ZW ZQ hK
     .rename_i d wt body pk rest' ZF;obtain⟨ZG,rfl,x0,y0,ZJ⟩:=groupOf_eq ZF;split at C
      .rename_i c d1 x y pd hc ZK ZI;rw[ZJ]at ZK;injection ZK with e1 e2 e3;subst e1;subst e2;subst e3;split at C
       .cases C
       .rename_i ZV;simp only[qAn]at ZV;obtain⟨⟨⟨⟨⟨Zq,Zr⟩,ZT⟩,Zs⟩,ZH⟩,Zu⟩:=ZV;have ZD:aC_ d (e8_ body)=false:=skip_dst ZH
        -- the group's value
        have ZL:∃res,dJ_ P E ev N n R gd rest' (idx+1+body.length+1) b { s1 with env:=(pd,some (pD_ res))::(clear (e8_ body)++s1.env),nx:=s1.nx+lB_ body } k=some r /\
          (c=wt->dJ_ P E ev N n Bool (some (idx,wt,d)) body (idx+1) (s1.base b) (St.new s1.nx) (la_ (s1.base b) s1.nx (lB_ body) (e8_ body) (picked wt x0 y0))=some res)/\(c≠wt->res = !wt):=by
         obtain⟨tot,ZM⟩:∃tot,totalL P body=tot:=⟨_,rfl⟩;rw[ZM]at C;cases tot with
         | true =>
          simp only at C;obtain⟨oe,he⟩:∃oe,dJ_ P E ev N n Bool (some (idx,wt,d)) body (idx+1) (s1.base b) (St.new s1.nx) (la_ (s1.base b) s1.nx (lB_ body) (e8_ body) (picked wt x0 y0))=oe:=⟨_,rfl⟩;rw[he]at C ⊢;cases oe with
          | none=>cases C
          | some e =>
           refine⟨_,C,λf => ?_,λf => ?_⟩
           .cases wt<;>subst f<;>rfl
           .cases wt<;>cases c<;>simp_all [picked]
         | false =>
          simp only at C;obtain⟨e,he,C⟩:=bind_some C;refine⟨e,C,λf => ?_,λf => ?_⟩
          .cases wt<;>subst f<;>exact he
          .cases wt<;>cases c<;>simp_all [picked]
        obtain⟨res,Zj,ZC,ZY⟩:=ZL;have Zo:∀j p,s1.H b j=some p->j<s1.nx:=λj p hj=>by
         obtain⟨z3,g3,_,h2,h3,_⟩:=ZW;obtain⟨l,hl⟩:=(h2.hold j p hj).loc;rcases qN j s1.nx with h5|h5
         .exact h5
         .rw[h3 j h5]at hl;cases hl
        refine wk.app (J1:=λa2 w2=>Rel P E Bs F0 w0 N (lb_ (e8_ body) (s1.L b)) (s1.H b) (s1.nx+lB_ body) a2 w2/\a2.eval (.tmp d) = .bool c/\(bif c then a2.eval x0 else a2.eval y0) = .bool res) ?_ ?_
        .by_cases f:c=wt
         .refine ih (tl:=pk::rest'++tl) (ZC f) (by rw[ZX];simp) (by rw[new_L,new_H];exact ZW) ⟨⟨o,ZP,ZG⟩,c,hc,f⟩ λs2 a2 w2 ZZ ZO O => ?_
          unfold la_ at ZZ;split at ZZ
          .rename_i e V hvis ZS Zp;obtain rfl:=qSj ZZ;simp only[qAn]at V;obtain⟨⟨Zk,Zl⟩,Zn⟩:=V;have Y:∀t,aC_ t (e8_ body)=false->s2.L (s1.base b) t=s1.L b t:=λt ZA=>by
            unfold St.L;rw[uS_ Zk ZA,hvis];rfl
           have Zd:∀j,j<s1.nx->s2.H (s1.base b) j=s1.H b j:=λj hj=>by
            unfold St.H;rw[rd_ hj Zl,ZS];rfl
           obtain⟨z3,g3,m,F,U,M⟩:=ZO;refine⟨⟨z3,g3,m.less λt u G => ?_,F.less λj p hj => ?_,(λi hi=>U i (by have:=qx Zn;omega)),M⟩,?_,?_⟩
           .unfold lb_ at G;split at G
            .cases G
            .rename_i hm;rw[Y t (by simpa using hm)];exact G
           .rw[Zd j (Zo j p hj)];exact hj
           .have:=m.op F.gl (.tmp d) (.v (.one (.dt .bool c))) (by show s2.L (s1.base b) d=_;rw[Y d ZD];exact hc);exact SV.bool_ok rfl this
           .have:=SV.bool_ok rfl (m.op F.gl _ _ Zp);subst f;cases c<;>exact this
          .cases ZZ
         .obtain⟨z3,g3,m,F,U,M⟩:=ZW;have Zg:∃v,(a.put o.dst x).tmps[d]? = some v/\RV P E z3 g3 (.v (.one (.dt .bool c))) v:=m.get d _ hc;obtain⟨v,Z,ZU⟩:=Zg;obtain rfl:=SV.bool_ok rfl ZU;refine skip_ok wk f ZP ZG body (pk::rest'++tl) (idx+1) _ w' (by rw[ZX];simp) (Nat.lt_succ_self idx) ZH Z (λj h5 h6=>by omega) λa' h5 h6 h7 => ?_
          refine⟨⟨z3,g3,⟨by rw[h5];exact m.size,by rw[h6];exact m.defers,λt u G => ?_⟩,F,(λi hi=>U i (by omega)),M⟩,?_,?_⟩
          .unfold lb_ at G;split at G
           .cases G
           .rename_i hm;rw[h7 t (by simpa using hm)];exact m.get t u G
          .have h8:=h7 d ZD;rw[Z]at h8;simp[Act.eval,h8]
          .have Zf:∀{q:Operand},isBoolC (!wt) q=true->a'.eval q = .bool (!wt):=fun{q} hq=>by
            unfold isBoolC at hq;split at hq
            .rename_i b';show Value.bool b'=_;cases wt<;>cases b'<;>simp_all
            .cases hq
           rw[ZY f];have:=Zf Zu;cases wt<;>cases c<;>simp_all [picked]
        .rintro a2 w2 ⟨ZO,Z,ZU⟩;have Zh:all.drop (idx+1+body.length)=(pk::rest')++tl:=drop_more ZX;obtain⟨Zv,Zw⟩:=drop_next Zh;have O:gdOK all gd (lb_ (e8_ body) (s1.L b)):=by
          unfold gdOK at ZQ ⊢;split
          .trivial
          .rename_i j w1 d1;obtain⟨h1,c1,h2,h3⟩:=ZQ;refine⟨h1,c1,?_,h3⟩;unfold notIn at ZT;simp only[qL]at ZT;unfold lb_;rw[ZT];exact h2
         obtain⟨z3,g3,m,F,U,M⟩:=ZO;refine wk.pick Zv (rP_ Zq O m) (λw=>pick_run ZJ Z ZU w) ?_;have Y:∀t,St.L b { s1 with env:=(pd,some (pD_ res))::(clear (e8_ body)++s1.env),nx:=s1.nx+lB_ body } t=if t=pd then some (pD_ res)else lb_ (e8_ body) (s1.L b) t:=λt=>by
          unfold St.L lb_;simp only[aP_];by_cases D:t=pd
          .subst D;have:Nat.beq t t=true:=by simp
           rw[this,qV rfl]
          .rw[qX D];have:Nat.beq t pd=false:=by
            cases hb:Nat.beq t pd with
            | false=>rfl
            | true=>exact absurd (qNb hb) D
           rw[this];by_cases hm:aC_ t (e8_ body)=true
           .rw[clear_in hm,qV hm]
           .rw[clear_out (by simpa using hm),qX hm]
         refine ih Zj Zw ⟨z3,g3,?_,F,U,M⟩ ?_ hK
         .rw[ZI];refine m.put Zs (s:=pD_ res) (RD.bool .nil) λt u G => ?_
          rw[Y t]at G;split at G
          .rename_i D;exact .inl ⟨D,(qSj G).symm⟩
          .rename_i D;exact .inr ⟨D,G⟩
         .refine qA_ O Zr λt ht => ?_
          rw[Y t,qX (ht pd ZI)]
      .cases C
def seqWalk(y:∀p∈eqs,ba_ P E p.1 p.2)(G:tab.OK P E)(all:List Oper):Walk P E (λL H nx o _ k=>evOp P E eqs tab L H nx o k) N Bs F0 w0 all where
 W J l _ a w:=∀(rest:List Oper) (Q:Exit->Act->World->Prop),(∀q w',J q w'->wpList P all.toArray Q rest q w')->wpList P all.toArray Q (l++rest) a w
 nil C:=λrest Q h=>h _ _ C
 app j D:=λrest Q h=>by
  rw[qT];exact j _ Q λq w' C=>D q w' C rest Q h
 skip F m j:=λrest Q h=>by
  simp only[qR];unfold wpList;rw[qX (by rw[m];exact jM)];exact j rest Q h
 step F m V U O hz hg s M:=λrest Q h=>by
  simp only[qR];refine wpList_step λK f => ?_
  rw[qV m];exact evOp_ok y G O V U s λv u x w' z2 g2 j D h3 h4 h5 Z Y=>f _ _ (M v u x w' z2 g2 j D h3 h4 h5 Z Y rest Q h)
 pick F m hr j:=λrest Q h=>by
  simp only[qR];refine wpList_step λK f => ?_
  rw[qV m];unfold Oper.wp;rw[hr _];exact f _ _ (j rest Q h)
theorem evReg_ok(j:∀p∈eqs,ba_ P E p.1 p.2)(m:tab.OK P E){R:Type}{l:List Oper}{id:Nat}{b:Ba E}{s:St E}{k:St E->Option R}{r:R}{a:Act}{w:World}{Q:Exit->Act->World->Prop}(h:evReg P E eqs tab N l b s k=some r)(q:Rel P E Bs F0 w0 N (s.L b) (s.H b) s.nx a w)
  (u:∀s' f w',k s'=some r->Rel P E Bs F0 w0 N (s'.L b) (s'.H b) s'.nx f w'->Q .normal f w'):(Code.region id l.toArray false).wp P Q a w :=
 r_list (by
  have:=hx_ (seqWalk j m l) _ (tl:=[]) (J:=λf w'=>Q .normal f w') h (by simp) q trivial λs' f w' y x _=>u s' f w' y x
  have:=this [] Q λf w' h=>h
  simpa using this)
theorem lE_:∀(f l2:List Oper) (i:Nat),fz_ i (f++l2)=fz_ i f++fz_ (i+f.length) l2
 | [],_,_=>rfl
 | o::f,l2,i=>by
  simp only[qR,fz_,qLc];rw[lE_ f l2 (i+1),show i+1+f.length=i+(f.length+1)by omega]
def quietWalk(O:∀p∈eqs,ba_ P E p.1 p.2)(ht:tab.OK P E)(all:List Oper)(tl fr:List Nat)(m:Nat)(hm:∀i,i<m->fr.contains i=false)(W:World)(I:World->Prop)(hI:∀z g H,HR P E Bs F0.z.F w0 W z g H->F0.z.Le z->∀w',I w'->Keeps P E z g H W w')(Q:Exit->Act->World->Prop):Walk P E (λL H nx o _ k=>j9_ P E eqs tab L H nx o k) N Bs F0 w0 all where
 W J l i a w:=w=W->i+l.length<=m->∀rest:List (Nat×Bool),(∀D,J D W->ca_ P all.toArray tl fr I Q rest D W)->ca_ P all.toArray tl fr I Q (fz_ i l++rest) a W
 nil U:=λe _ rest h=>h _ (e▸U)
 app j C:=λe f rest h=>by
  rw[lE_,qT];rw[qLa]at f;exact j e (by omega) _ λD U=>C D W U rfl (by omega) rest h
 skip {J o l i a w} x q j:=λe f rest h=>by
  simp only[qLc]at f;simp only[fz_,qR];refine fQ_ o x λK y => ?_
  rw[qX (by rw[q];exact jM)];exact y _ (j e (by omega) rest h)
 step {J o l i a w R L H nx z g k r} x q Y V hf Z hg M hk:=λe f rest h=>by
  simp only[qLc]at f;subst e;simp only[fz_,qR];refine fQ_ o x λK y => ?_
  rw[qV q,hm i (by omega)];obtain⟨s,u,v,g2,j,C,h3,h4,h5,h6⟩:=nP_ O ht hf Y V (hI z g H V Z) M;refine⟨v,h6,y _ ?_⟩;exact hk (some s) u v w z g2 j (Fz.Le.refl z) C (Y.le (Fz.Le.refl z) C) h3 h4.nxU (λsv G=>by obtain rfl:=qSj G;exact h5) rfl (by omega) rest h
 pick {J o l i a w v} x q hr j:=λe f rest h=>by
  simp only[qLc]at f;simp only[fz_,qR];refine fQ_ o x λK y => ?_
  rw[qV q];exact⟨v,λw' _=>by rw[hr];exact⟨rfl,rfl⟩,y _ (j e (by omega) rest h)⟩
theorem Rel.ext{L:Nat->Option (SV E)}{H:Nat->Option (Obj E)}{nx:Nat}{a:Act}{w w':World}(h:Rel P E Bs F0 w0 N L H nx a w)(f:Ext w w'):Rel P E Bs F0 w0 N L H nx a w' :=
 let ⟨z,g,p,m,j⟩:=h
 ⟨z,g,p,m.ext f,j⟩
theorem Rel.inz{L:Nat->Option (SV E)}{H:Nat->Option (Obj E)}{nx:Nat}{a:Act}{w:World}(h:Rel P E Bs F0 w0 N L H nx a w):F0.z.In w:=by
 obtain⟨z,g,_,m,_,j,_⟩:=h;exact λk f=>⟨(m.fz k (j k f).1).1,(m.fz k (j k f).1).2.trans (j k f).2⟩
theorem tL_:∀{fl:List Nat} {n k:Nat},fl[k]? = some 2->n+k∈tlOf n fl
 | [],n,k,h=>by simp at h
 | f::fl,n,0,h=>by
  simp only[je,qOi]at h;subst h;simp[tlOf]
 | f::fl,n,k+1,h=>by
  have:=tL_ (n:=n+1) (show fl[k]? = some 2 by simpa using h);rw[show n+1+k=n+(k+1)by omega]at this;simp only[tlOf];split
  .exact qC _ this
  .exact this
theorem dY_{o:Oper}(h:o.guard=none)(y:Nat->Option Bool):Region.wanted o y=true:=by
 unfold Region.wanted;rw[h]
theorem mem_frOf:∀{fl:List Nat} {n i:Nat},i∈frOf n fl->n<=i/\fl[i-n]? = some 4
 | [],n,i,h=>by cases h
 | f::fl,n,i,h=>by
  have next:i∈frOf (n+1) fl->n<=i/\(f::fl)[i-n]? = some 4:=λh=>by
   obtain⟨p,m⟩:=mem_frOf h;refine⟨by omega,?_⟩;rw[show i-n=(i-(n+1))+1 by omega];simpa using m
  simp only[frOf]at h;split at h
  .rename_i j;rcases qW.1 h with rfl|h
   .obtain rfl:=qNb j;simp
   .exact next h
  .exact next h
theorem uT_:∀{fl:List Nat} {i:Nat},i<aA_ fl->fl[i]? = some 0
 | [],i,h=>by simp[aA_]at h
 | f::fl,i,h=>by
  simp only[aA_]at h;split at h
  .rename_i j;obtain rfl:=qNb j;cases i with
   | zero=>rfl
   | succ i=>simpa using uT_ (fl:=fl) (i:=i) (by omega)
  .omega
theorem notFree{fl:List Nat}{i:Nat}(h:i<aA_ fl):(frOf 0 fl).contains i=false:=by
 cases j:(frOf 0 fl).contains i with
 | false=>rfl
 | true =>
  obtain⟨_,f⟩:=mem_frOf (jk.1 j);rw[Nat.sub_zero,uT_ h]at f;cases f
theorem evH_ok(m:∀p∈eqs,ba_ P E p.1 p.2)(V:tab.OK P E){W:World}{I:World->Prop}(hI:∀z g H,HR P E Bs F0.z.F w0 W z g H->F0.z.Le z->∀w',I w'->Keeps P E z g H W w'){R:Type}{r:R}{all:List Oper}{tl fr:List Nat}{Q:Exit->Act->World->Prop}{b:Ba E}{k:St E->Option R}{rest:List (Nat×Bool)}
  (hK:∀s' a',k s'=some r->Rel P E Bs F0 w0 N (s'.L b) (s'.H b) s'.nx a' W->ca_ P all.toArray tl fr I Q rest a' W):∀{Y:List Nat} {s:St E} {a:Act},
  evH P E eqs tab N b all fr Y s k=some r->Rel P E Bs F0 w0 N (s.L b) (s.H b) s.nx a W->ca_ P all.toArray tl fr I Q (hOrd Y++rest) a W
 | [],s,a,h,hR=>hK s a h hR
 | i :: Y,s,a,h,hR=>by
  unfold evH at h;split at h
  .cases h
  .rename_i o ho;split at h
   .cases h
   .rename_i Z;obtain⟨z,g,O,M,G,q,D⟩:=hR;simp only[hOrd,qR];refine fQ_ o ho λK J => ?_
    rw[qV (dY_ Z _)];split at h
    .rename_i hc;rw[hc];obtain⟨sv,v,up,g2,f,ZY,ZZ,hv,C,U⟩:=k8_ (nx:=s.nx) m (O.op M.gl) (M.less (H':=λ_=>none) λ_ _ e=>by cases e) h (λ_=>True);simp only at f;split at f
     .cases f
     .obtain rfl:g2=g:=U;split at f
      .rename_i s1 x;obtain⟨y,_⟩:=c6_ (u:=[]) x O M q D (λj hj=>G j (by simp only[nxU]at hj;omega)) (λsv' e=>by obtain rfl:=qSj e;exact hv);exact⟨v,λw' _=>by rw[C w' trivial];exact⟨rfl,rfl⟩,J _ (evH_ok m V hI hK f y)⟩
      .cases f
    .rename_i hc;rw[hc];obtain⟨sv,u,v,g2,f,h2,h3,h4,h5,h6⟩:=nP_ m V G O M (hI z g _ M q) h;simp only at f;split at f
     .rename_i s1 x;obtain⟨y,_⟩:=c6_ x (O.le (Fz.Le.refl z) h2) h3 q (D.trans h2) h4.nxU (λsv' e=>by obtain rfl:=qSj e;exact h5);exact⟨v,h6,J _ (evH_ok m V hI hK f y)⟩
     .cases f
theorem pF_(y:∀p∈eqs,ba_ P E p.1 p.2)(ht:tab.OK P E){fm:Bool}{I:World->Prop}(D:∀w w',I w->Ext w w'->I w')(U:fm=true->∀{L:Nat->Option (SV E)} {H:Nat->Option (Obj E)} {nx:Nat} {a:Act} {w:World},Rel P E Bs F0 w0 N L H nx a w->I w){R:Type}{r:R}{all:List Oper}{tl fr:List Nat}{Q:Exit->Act->World->Prop}{b:Ba E}{k:St E->Option R}
  (hK:∀s' a' w',k s'=some r->Rel P E Bs F0 w0 N (s'.L b) (s'.H b) s'.nx a' w'->Q .normal a' w'):∀{l:List (Nat×Oper×Nat)} {s:St E} {a:Act} {w:World},
  evB P E eqs tab N fm b l s k=some r->(∀t∈l,all[t.1]? = some t.2.1/\(t.2.2=2->t.1∈tl))->Rel P E Bs F0 w0 N (s.L b) (s.H b) s.nx a w->ca_ P all.toArray tl fr I Q (dW_ l) a w
 | [],s,a,w,h,_,hR=>wpMixI_nil λX d=>hK s a _ h (hR.ext ⟨X,d,rfl⟩)
 | (i, o,f)::l,s,a,w,h,F,hR=>by
  obtain⟨ho,Z⟩:=F _ (qD ..);have m:∀t∈l,all[t.1]? = some t.2.1/\(t.2.2=2->t.1∈tl):=λt ht=>F t (qC _ ht)
  simp only at ho Z;unfold evB at h;split at h
  .cases h
  .rename_i ZY;simp only[dW_];split at h
   .rename_i V;rw[V];obtain⟨z,g,hE,hH,O,G,M⟩:=hR;obtain⟨sv,v,up,g2,q,ZN,ZO,hv,ZZ,ZV⟩:=k8_ (nx:=s.nx) y (hE.op hH.gl) (hH.less (H':=λ_=>none) λ_ _ e=>by cases e) h (λ_=>True);simp only at q;split at q
    .cases q
    .obtain rfl:g2=g:=ZV;split at q
     .rename_i s1 J;obtain⟨C,_⟩:=c6_ (u:=[]) J hE hH G M (λj hj=>O j (by simp only[nxU]at hj;omega)) (λsv' e=>by obtain rfl:=qSj e;exact hv);refine fQ_ o ho λK Y => ?_
      rw[qV (dY_ ZY _)];exact⟨v,λw' _=>by rw[ZZ w' trivial];exact⟨rfl,rfl⟩,Y _ (pF_ y ht D U hK q m C)⟩
     .cases q
   .rename_i V;rw[V];split at h
    .cases h
    .rename_i ZX;refine tg_ o ho λK Y X d => ?_
     have hx:Ext w (w.ext X d):=⟨X,d,rfl⟩;obtain⟨z,g,hE,hH,O,G,M⟩:=hR.ext hx;refine wpList_step λK2 ZR => ?_
     rw[qV (dY_ ZY _)];refine nN_ y ht O hE hH h λv u x w' z2 g2 q ZW ZT ZP ZQ ZS hv ZU=>ZR _ _ ?_
     split at q
     .rename_i s1 J;obtain⟨C,_⟩:=c6_ J ZP ZQ (G.trans ZW) (M.trans ZT) ZS hv;show K _ _;refine Y _ _ (λhc hw => ?_) (pF_ y ht D U hK q m C);simp only[qP]at ZX;rcases ZX with h1|h1|h1
      .obtain rfl:=qNb h1;rw[jk.2 (Z rfl)]at hc;cases hc
      .exact U h1 C
      .exact D _ _ (D _ _ hw hx) (ZU h1)
     .cases q
theorem tM_{j:List Nat}:∀{l:List Oper} {fl:List Nat} {i:Nat} {t:Nat×Oper×Nat},t∈eU_ j i l fl->∃k,t.1=i+k/\l[k]? = some t.2.1/\fl[k]? = some t.2.2
 | [],fl,i,t,h=>by cases fl<;>simp[eU_]at h
 | o::l,[],i,t,h=>by simp[eU_]at h
 | o::l,f::fl,i,t,h=>by
  have next:t∈eU_ j (i+1) l fl->∃k,t.1=i+k/\(o::l)[k]? = some t.2.1/\(f::fl)[k]? = some t.2.2:=λh=>by
   obtain⟨k,q,p,m⟩:=tM_ h;exact⟨k+1,by omega,by simpa using p,by simpa using m⟩
  simp only[eU_]at h;split at h
  .exact next h
  .rcases qW.1 h with rfl|h
   .exact⟨0,rfl,rfl,rfl⟩
   .exact next h
theorem h3_{S:List Nat}{H:Nat->Option (Obj E)}{i:Nat}{o:Obj E}(h:gn_ S H i=some o):i∉S/\H i=some o:=by
 unfold gn_ at h;split at h
 .cases h
 .rename_i hm;exact⟨λf=>(by rw[memN_true.2 f]at hm;cases hm),h⟩
theorem h4_{S:List Nat}{H:Nat->Option (Obj E)}{i:Nat}{o:Obj E}(h:i2_ S H i=some o):i∈S/\H i=some o:=by
 unfold i2_ at h;split at h
 .rename_i hm;exact⟨memN_true.1 hm,h⟩
 .cases h
theorem HR.ga{z:Fz}{g g':Ga}{w:World}{H:Nat->Option (Obj E)}{F:Nat->Prop}(h:HR P E Bs F w0 w z g H)(j:g.Le g'):HR P E Bs F w0 w z g' H :=
 ⟨h.chg,λid o e=>(h.hold id o e).keep (Fz.Le.refl z) j λ_ _=>rfl,λid o k e f=>h.own id o k e ((mf_ (h.hold id o e).loc j).1 f),λid id' o o' k p e e' f m=>h.apart id id' o o' k p e e' ((mf_ (h.hold id o e).loc j).1 f) ((mf_ (h.hold id' o' e').loc j).1 m),h.fz,h.fz0,λid o k e f=>h.fza id o k e ((mf_ (h.hold id o e).loc j).1 f),h.gl⟩
theorem HR.part{z:Fz}{g:Ga}{w:World}{H H':Nat->Option (Obj E)}{F:Nat->Prop}(h:HR P E Bs F w0 w z g H)(f:∀i o,H' i=some o->H i=some o){B:List Nat}(s:∀i o k,H' i=some o->fpO g i o k->k∈B):HR P E B z.F w w z g H' :=
 ⟨Chg.of_below (Below.refl _ _),λi o e=>h.hold i o (f i o e),λi o k e m => .inr (s i o k e m),λi j o p k q e e'=>h.apart i j o p k q (f i o e) (f j p e'),h.fz,λ_ m => .inl m,λi o k e=>h.fza i o k (f i o e),h.gl⟩
theorem iN_{α:Type}{t:Nat}:∀{l m:List (Nat×α)},aP_ t (l++m)=match aP_ t l with|some v=>some v|none=>aP_ t m
 | [],m=>rfl
 | (u,x)::l,m=>by
  simp only[qR,aP_];cases Nat.beq t u with
  | true=>rfl
  | false=>exact iN_
theorem lc_{H:Nat->Option (Obj E)}{i:Nat}:∀{l:Chs E},upH H l i=match aP_ i l with|some o=>o|none=>H i
 | []=>rfl
 | (k,o)::l=>by
  simp only[upH,aP_];cases Nat.beq i k with
  | true=>rfl
  | false=>exact lc_
theorem evDraw_ok (M:∀p∈eqs,ba_ P E p.1 p.2) (ht:tab.OK P E) {R:Type} {l:List Oper} {fl hs S:List Nat} {fm:Bool} {id:Nat} {b:Ba E} {s:St E} {k:St E->Option R} {r:R} {a:Act} {w:World} {Q:Exit->Act->World->Prop} (h:evDraw P E eqs tab N l fl hs fm S b s k=some r) (hR:Rel P E Bs F0 w0 N (s.L b) (s.H b) s.nx a w)
  (hK:∀s' a' w',k s'=some r->Rel P E Bs F0 w0 N (s'.L b) (s'.H b) s'.nx a' w'->Q .normal a' w'):(Code.region id l.toArray true).wp P Q a w:=by
 unfold evDraw at h;split at h
 .cases h
 .rename_i ZW;simp only[qAn]at ZW;obtain⟨hm,hB⟩:=ZW;have G:∀t∈eU_ hs (aA_ fl) (l.drop (aA_ fl)) (fl.drop (aA_ fl)),l[t.1]? = some t.2.1/\(t.2.2=2->t.1∈tlOf 0 fl):=λt G=>by
   obtain⟨k,m,C,y⟩:=tM_ G;rw[zA]at C y;rw[←m]at C y;refine⟨C,λhf => ?_⟩;rw[hf]at y;have:=tL_ (n:=0) y
   rwa [qo]at this
  split at h
  .have V:∀w1 w',Ext w w1->Ext w1 w'->Ext w w':=λ_ _ q O=>q.trans O
   have hI:∀z g H,HR P E Bs F0.z.F w0 w z g H->F0.z.Le z->∀w',Ext w w'->Keeps P E z g H w w':=λz g H q _ w' O=>Keeps.of_ext q O
   refine pB_ (I:=Ext w) V _ _ _ hm hB (Ext.refl w) ?_;have:=hx_ (quietWalk M ht l (tlOf 0 fl) (frOf 0 fl) (aA_ fl) (λ_ h=>notFree h) w (Ext w) hI Q) _ (tl:=l.drop (aA_ fl)) (J:=λa' w'=>w'=w->ca_ P l.toArray (tlOf 0 fl) (frOf 0 fl) (Ext w) Q (hOrd hs++dW_ (eU_ hs (aA_ fl) (l.drop (aA_ fl)) (fl.drop (aA_ fl)))) a' w) h (by simp) hR trivial λs' a' w' q O _ hw=>by
    subst hw;exact evH_ok M ht hI (λs2 a2 x D=>pF_ M ht V (λe=>by cases e) hK x G D) q O
   exact this rfl (by rw[qo];exact List.length_take_le _ _) _ λa' q=>q rfl
  .obtain ⟨z,g,hE,hH,ZJ,ZF,Zy⟩:=hR
   -- the footprints of what is read, and of what is turned
   let B1:List Nat:=((List.range s.nx).map (blk (gn_ S (s.H b)) g)).flatten
   let B2:List Nat:=(S.map (blk (i2_ S (s.H b)) g)).flatten
   have ZC:∀i o,s.H b i=some o->i<s.nx:=λi o e=>by
    obtain⟨l',hl⟩:=(hH.hold i o e).loc;rcases qN i s.nx with m|m
    .exact m
    .rw[ZJ i m]at hl;cases hl
   have Zo:∀i o k,gn_ S (s.H b) i=some o->fpO g i o k->k∈B1:=λi o k e f=>jD.2 ⟨_,zQ.2 ⟨i,List.mem_range.2 (ZC i o (h3_ e).2),rfl⟩,mem_blk.2 ⟨o,e,f⟩⟩
   have Zp:∀i o k,i2_ S (s.H b) i=some o->fpO g i o k->k∈B2:=λi o k e f=>jD.2 ⟨_,zQ.2 ⟨i,(h4_ e).1,rfl⟩,mem_blk.2 ⟨o,e,f⟩⟩
   have ZZ:∀k,k∈B1->∃i o,gn_ S (s.H b) i=some o/\fpO g i o k:=λk f=>by
    obtain⟨_,i,o,_,m,C⟩:=k6_ f;exact⟨i,o,m,C⟩
   have ZV:∀k,k∈B2->∃i o,i2_ S (s.H b) i=some o/\fpO g i o k:=λk f=>by
    obtain⟨_,i,o,_,m,C⟩:=k6_ f;exact⟨i,o,m,C⟩
   have ZH:∀k,k∈B1->k∉B2:=λk q O=>by
    obtain⟨i,o,x,D⟩:=ZZ k q;obtain⟨j,p,m,C⟩:=ZV k O;exact hH.apart i j o p k (λe=>(h3_ x).1 (e▸(h4_ m).1)) (h3_ x).2 (h4_ m).2 D C
   have Z:∀k,k∈B1->k<w.heap.size:=λk f=>by
    obtain⟨i,o,x,D⟩:=ZZ k f;exact(hH.hold i o (h3_ x).2).lt D
   have hq:=hH.part (λi o e=>(h3_ e).2) Zo
   let F1:Org:=⟨z,g,F0.lo⟩
   let I:World->Prop:=λw'=>z.In w'/\∀k,k∈B1->w'.heap[k]? = w.heap[k]?
   have V:∀w1 w',I w1->Ext w1 w'->I w':=λw1 w' q O=>⟨q.1.ext O,λk f=>by
    have x:=q.2 k f;have D:k<w1.heap.size:=by
     rcases qN k w1.heap.size with m|m
     .exact m
     .rw[qy m,Array.getElem?_eq_getElem (Z k f)]at x;cases x
    exact(O.below.block k D).trans x⟩
   have hI:∀z2 g2 H2,HR P E B1 F1.z.F w w z2 g2 H2->F1.z.Le z2->∀w',I w'->Keeps P E z2 g2 H2 w w':=λz2 g2 H2 q ZB w' ZY=>by
    have ZR:∀i o k,H2 i=some o->fpO g2 i o k->k∈B1:=λi o k e f=>by
     rcases q.own i o k e f with x|x
     .have:=(q.hold i o e).lt f;omega
     .exact x
    have ZN:z2.In w':=λk f=>by
     rcases q.fz0 k f with x|x|x
     .have D:=ZY.1 k x;exact⟨D.1,D.2.trans (ZB k x).2.symm⟩
     .have:=(q.fz k f).1;omega
     .have D:=ZY.2 k x;refine⟨?_,D.trans (q.fz k f).2⟩;rcases qN k w'.heap.size with m|m
      .exact m
      .rw[qy m,Array.getElem?_eq_getElem (Z k x)]at D;cases D
    refine⟨⟨ZN,λi o k e f=>ZY.2 k (ZR i o k e f)⟩,B1,z2.F,w',⟨Chg.of_below (Below.refl _ _),λi o e=>(q.hold i o e).keep (Fz.Le.refl z2) (Ga.Le.refl g2) λk f=>ZY.2 k (ZR i o k e f),λi o k e f => .inr (ZR i o k e f),q.apart,ZN,λk f => .inl f,q.fza,q.gl⟩⟩
   refine pB_ (I:=I) V _ _ _ hm hB ⟨hH.fz,λ_ _=>rfl⟩ ?_;have Zv:Rel P E B1 F1 w N ((St.new s.nx:St E).L ⟨s.L b,gn_ S (s.H b),b.lo⟩) ((St.new s.nx:St E).H ⟨s.L b,gn_ S (s.H b),b.lo⟩) s.nx a w:=⟨z,g,hE,hq,ZJ,Fz.Le.refl z,Ga.Le.refl g⟩
   have := hx_ (quietWalk (F0:=F1) (w0:=w) (Bs:=B1) M ht l (tlOf 0 fl) (frOf 0 fl) (aA_ fl) (λ_ h=>notFree h) w I hI Q) _ (tl:=l.drop (aA_ fl)) (J:=λa' w'=>w'=w->ca_ P l.toArray (tlOf 0 fl) (frOf 0 fl) I Q (hOrd hs++dW_ (eU_ hs (aA_ fl) (l.drop (aA_ fl)) (fl.drop (aA_ fl)))) a' w) h (by simp) Zv trivial λs' a' w' q O _ hw=>by
    subst hw;refine evH_ok (F0:=F1) (w0:=w') (Bs:=B1) M ht hI (λs2 a2 x D => ?_) q O;split at x
    .rename_i hvis ZU ZT;obtain⟨z2,g2,Zq,ZX,ZK,ZG,ZS⟩:=D;have Zu:St.H ⟨s.L b,gn_ S (s.H b),b.lo⟩ s2=gn_ S (s.H b):=by
      unfold St.H;rw[ZT,ZU];rfl
     rw[Zu]at ZX;have ZP:z2.Le z:=λk f=>by
      have m:z.F k:=by
       rcases ZX.fz0 k f with C|C|C
       .exact C
       .have:=(ZX.fz k f).1;omega
       .obtain⟨i,o,y,h8⟩:=ZZ k C;exact(ZX.fza i o k y ((mf_ (hH.hold i o (h3_ y).2).loc ZS).2 h8) f).elim
      exact⟨m,(ZG k m).2.symm⟩
     have ZD:HR P E B2 z.F w' w' z g2 (i2_ S (s.H b)):=(hH.part (λi o e=>(h4_ e).2) Zp).ga ZS;have Zw:Rel P E B2 ⟨z,g,F0.lo⟩ w' N ((St.new s2.nx:St E).L ⟨s2.L ⟨s.L b,gn_ S (s.H b),b.lo⟩,i2_ S (s.H b),b.lo⟩) ((St.new s2.nx:St E).H ⟨s2.L ⟨s.L b,gn_ S (s.H b),b.lo⟩,i2_ S (s.H b),b.lo⟩) s2.nx a2 w':=⟨z,g2,Zq.le ZP (Ga.Le.refl g2),ZD,ZK,Fz.Le.refl z,ZS⟩;refine pF_ (F0:=⟨z,g,F0.lo⟩) (Bs:=B2) (w0:=w') M ht V (λ_ {L H nx a w1} m=>⟨m.inz,λk f => ?_⟩) (λs3 a3 w3 m C => ?_) x G Zw
     .obtain⟨_,_,_,C,_⟩:=m;exact C.chg.block k (Z k f) (ZH k f)
     .split at m
      .rename_i ZE ZA;refine hK _ a3 w3 m ?_;obtain⟨z3,g3,Zr,Y,ZL,ZQ,ZM⟩:=C;have ZI:St.H ⟨s2.L ⟨s.L b,gn_ S (s.H b),b.lo⟩,i2_ S (s.H b),b.lo⟩ s3=upH (i2_ S (s.H b)) s3.heap:=by
        unfold St.H;rw[ZA];rfl
       rw[ZI]at Y;have Zs:St.H b { s with env:=s3.env++(s2.env++s.env),heap:=s3.heap++s.heap,nx:=s3.nx }=upH (s.H b) s3.heap:=by
        unfold St.H;rw[aV_]
       refine⟨z3,g3,Zr.less λt u hu => ?_,?_,ZL,ZF.trans ZQ,Zy.trans ZM⟩
       .simp only[St.L]at hu ⊢;rw[iN_,iN_]at hu;simp only[ZE,hvis,seen];cases e3:aP_ t s3.env with
        | some v=>rw[e3]at hu;exact hu
        | none =>
         rw[e3]at hu;simp only at hu ⊢;cases e2:aP_ t s2.env with
         | some v=>rw[e2]at hu;exact hu
         | none=>rw[e2]at hu;exact hu
       .rw [Zs];refine hH.back (I:=S) (s:=λj i=>j=i) Y (λk f => ?_) ZM (λj o U => ?_) (λj j' i y h8=>y.trans h8.symm) (λj i o y h8=>by subst y;exact⟨Y.hold _ _ h8,λ_=>Iff.rfl⟩) ZQ Y.fz λk f => ?_
        .obtain⟨i,o,y,h8⟩:=ZV k f;exact⟨i,o,(h4_ y).1,(h4_ y).2,h8⟩
        .by_cases ZO:j∈S
         .refine .inl ⟨j,rfl,?_⟩;rw[lc_]at U ⊢;cases e4:aP_ j s3.heap with
          | some v=>rw[e4]at U;exact U
          | none =>
           rw[e4]at U;simp only at U ⊢;unfold i2_;rw[memN_true.2 ZO];exact U
         .rw[lc_]at U;cases e4:aP_ j s3.heap with
          | some v =>
           rw[e4]at U;refine .inl ⟨j,rfl,?_⟩;rw[lc_,e4];exact U
          | none =>
           rw[e4]at U;exact .inr ⟨ZO,U⟩
        .rcases Y.fz0 k f with y|y|y
         .exact .inl y
         .exact .inr ⟨.inl y,f⟩
         .exact .inr ⟨.inr y,f⟩
      .cases m
    .cases x
   exact this rfl (by rw[qo];exact List.length_take_le _ _) _ λa' q=>q rfl
structure Apart1(w0:World)(z:Fz)(g:Ga)(H:Nat->Option (Obj E))(w:World)(q:Nat)(o:Go.Obj):Prop where
 at_:w.heap[q]? = some o
 new:w0.heap.size<=q
 fp:∀id p k,H id=some p->fpO g id p k->k≠q
 fz:¬z.F q
def RelF(P:Program)(E:TE)(Bs:List Nat)(F0:Org)(w0:World)(N:Nat)(d q:Nat)(o:Go.Obj)(L:Nat->Option (SV E))(H:Nat->Option (Obj E))(nx:Nat)(a:Act)(w:World):Prop:=∃z g,ER P E z g N a L/\HR P E Bs F0.z.F w0 w z g H/\Fresh g nx/\F0.z.Le z/\F0.g.Le g/\Apart1 w0 z g H w q o/\a.tmps[d]? = some (.pointer (some ⟨q,0,none⟩))
theorem Apart1.ext{z:Fz}{g:Ga}{H:Nat->Option (Obj E)}{w w':World}{q:Nat}{o:Go.Obj}(h:Apart1 w0 z g H w q o)(j:Ext w w'):Apart1 w0 z g H w' q o:=by
 have f:q<w.heap.size:=(Array.getElem?_eq_some_iff.1 h.at_).1;exact⟨(j.below.block q f).trans h.at_,h.new,h.fp,h.fz⟩
theorem RelF.ext{d q:Nat}{o:Go.Obj}{L:Nat->Option (SV E)}{H:Nat->Option (Obj E)}{nx:Nat}{a:Act}{w w':World}(h:RelF P E Bs F0 w0 N d q o L H nx a w)(f:Ext w w'):RelF P E Bs F0 w0 N d q o L H nx a w' :=
 let ⟨z,g,y,x,u,s,p,m,j⟩:=h
 ⟨z,g,y,x.ext f,u,s,p,m.ext f,j⟩
theorem evOp_frame(ZY:∀p∈eqs,ba_ P E p.1 p.2)(ht:tab.OK P E){R:Type}{r:R}{z:Fz}{g:Ga}{L:Nat->Option (SV E)}{H:Nat->Option (Obj E)}{nx:Nat}{a:Act}{w:World}{o:Oper}{K:Act->World->Prop}{Q:Exit->Act->World->Prop}{k:Option (SV E)->Chs E->Option R}{q:Nat}{ob:Go.Obj}
  (M:Fresh g nx) (hE:ER P E z g N a L) (hH:HR P E Bs F0.z.F w0 w z g H) (hap:Apart1 w0 z g H w q ob) (h:evOp P E eqs tab L H nx o k=some r)
  (hK:∀s u v w' z2 C,k s u=some r->z.Le z2->g.Le C->ER P E z2 C N a L->HR P E Bs F0.z.F w0 w' z2 C (upH H u)->Fresh C (nxU nx u)->(∀sv,s=some sv->RV P E z2 C sv v)->(fP_ tab L o=true->Ext w w')->Apart1 w0 z2 C (upH H u) w' q ob->K (a.put o.dst v) w'):o.wp P a w K Q:=by
 have O:∀i p,H i=some p->i<nx:=λi p e=>by
  obtain⟨l',hl⟩:=(hH.hold i p e).loc;rcases qN i nx with y|y
  .exact y
  .rw[M i y]at hl;cases hl
 let B:List Nat:=((List.range nx).map (blk H g)).flatten
 have hB:∀i p k,H i=some p->fpO g i p k->k∈B:=λi p k e x=>jD.2 ⟨_,zQ.2 ⟨i,List.mem_range.2 (O i p e),rfl⟩,mem_blk.2 ⟨p,e,x⟩⟩
 have V:∀k,k∈B->∃i p,i∈List.range nx/\H i=some p/\fpO g i p k:=λk x=>by
  obtain⟨_,i,p,h4,y,h6⟩:=k6_ x;exact⟨i,p,List.mem_range.2 (O i p y),y,h6⟩
 have D:q∉B:=λhq=>by
  obtain⟨i,p,_,y,h6⟩:=V q hq;exact hap.fp i p q y h6 rfl
 have J:q<w.heap.size:=(Array.getElem?_eq_some_iff.1 hap.at_).1;have hp:=hH.part (λ_ _ e=>e) hB;refine nN_ (Bs:=B) (F0:=z.F) (w0:=w) ZY ht M hE hp h λs u v w' z2 C x G U ZX m ZZ hv Y => ?_
 refine hK s u v w' z2 C x G U ZX ?_ ZZ hv Y ⟨?_,hap.new,λid p k he Z => ?_,λhz => ?_⟩
 .refine hH.back (I:=List.range nx) (s:=λj i=>j=i) m (λk x => ?_) U (λj p hj => .inl ⟨j,rfl,hj⟩) (λj j' i f h8=>f.trans h8.symm) (λj i p f h8=>by subst f;exact⟨m.hold _ _ h8,λ_=>Iff.rfl⟩) G m.fz λk x => ?_
  .exact V k x
  .rcases m.fz0 k x with f|f|f
   .exact .inl f
   .exact .inr ⟨.inl f,x⟩
   .exact .inr ⟨.inr f,x⟩
 .exact(m.chg.block q J D).trans hap.at_
 .rcases m.own id p k he Z with f|f
  .omega
  .intro e;subst e;exact D f
 .rcases m.fz0 q hz with f|f|f
  .exact hap.fz f
  .omega
  .exact D f
theorem HR.adopt{z:Fz}{g:Ga}{H:Nat->Option (Obj E)}{F:Nat->Prop}{w:World}{q n:Nat}{T:TypeId}{cs:List (SC E)}{vs:List Value}(U:HR P E Bs F w0 w z g H)(Y:g n=none)(hap:Apart1 w0 z g H w q (.cells vs.toArray T (0,0)))(G:All2 (RC P E z (g.put n ⟨none,0,0,0,q,0⟩)) cs vs) :
  HR P E Bs F w0 w z (g.put n ⟨none,0,0,0,q,0⟩) (upH H [(n,some (.box T cs))]):=by
 have y:=Ga.le_put (l:=⟨none,0,0,0,q,0⟩) Y;have u:=U.ga y;have h:=Ga.put_self g n ⟨none,0,0,0,q,0⟩;have s:∀k,fpO (g.put n ⟨none,0,0,0,q,0⟩) n (Obj.box T cs:Obj E) k->k=q:=λk f=>by
  obtain⟨l,V,m⟩:=f;rw[h]at V;obtain rfl:=qSj V;exact m
 have hold:∀j p k,H j=some p->fpO (g.put n ⟨none,0,0,0,q,0⟩) j p k->k≠q:=λj p k e f=>hap.fp j p k e ((mf_ (U.hold j p e).loc y).1 f)
 refine⟨u.chg,λj p e => ?_,λj p k e f => ?_,λj M p J k O e e' f x => ?_,u.fz,u.fz0,λj p k e f D => ?_,u.gl⟩
 .rcases ci_ e with⟨rfl,rfl⟩|⟨_,m⟩
  .exact⟨_,vs,h,hap.at_,G⟩
  .exact u.hold j p m
 .rcases ci_ e with⟨rfl,rfl⟩|⟨_,m⟩
  .rw[s k f];exact .inl hap.new
  .exact u.own j p k m f
 .rcases ci_ e with⟨rfl,rfl⟩|⟨_,m⟩<;>rcases ci_ e' with⟨rfl,rfl⟩|⟨_,C⟩
  .exact O rfl
  .exact hold M J k C x (s k f)
  .exact hold j p k m f (s k x)
  .exact u.apart j M p J k O m C f x
 .rcases ci_ e with⟨rfl,rfl⟩|⟨_,m⟩
  .rw[s k f]at D;exact hap.fz D
  .exact u.fza j p k m f D
theorem put_same{a:Act}{d:Nat}{v:Value}(h:a.tmps[d]? = some v):a.put (some d) v=a:=by
 unfold Act.put;have:a.tmps.setIfInBounds d v=a.tmps:=by
  apply Array.ext_getElem?;intro i;rw[Array.getElem?_setIfInBounds];split
  .rename_i hi;subst hi;split
   .exact h.symm
   .rename_i f;rw[qy (by omega)]
  .rfl
 simp only[this]
theorem put_other{a:Act}{d:Nat}{o:Oper}{v u:Value}(h:a.tmps[d]? = some v)(j:o.dst≠some d):(a.put o.dst u).tmps[d]? = some v:=by
 unfold Act.put;split
 .rename_i e f;rw[Array.getElem?_setIfInBounds];split
  .rename_i hi;subst hi;exact absurd f j
  .exact h
 .exact h
theorem qB_{d:Nat}:∀{l:List (Nat×Oper×Nat)},aC_ d (dstsT l)=false->∀t∈l,t.2.1.dst≠some d
 | [],_,_,h=>by cases h
 | t0::l,hm,t,h=>by
  simp only[dstsT]at hm;cases j:t0.2.1.dst with
  | none =>
   rw[j]at hm;rcases qW.1 h with rfl|h
   .rw[j];exact λe=>nomatch e
   .exact qB_ hm t h
  | some m =>
   rw[j]at hm;simp only[aC_]at hm;have f:Nat.beq d m=false:=by
    cases p:Nat.beq d m with
    | true=>rw[p]at hm;cases hm
    | false=>rfl
   rw[f]at hm;rcases qW.1 h with rfl|h
   .rw[j];intro e;obtain rfl:=qSj e;exact dC_ f rfl
   .exact qB_ hm t h
theorem after_okF{b:Ba E}{s s1:St E}{o:Oper}{v:Option (SV E)}{u:Chs E}{a:Act}{w':World}{x:Value}{z:Fz}{g:Ga}{d q:Nat}{ob:Go.Obj}(h:s.after N o v u=some s1)(D:ER P E z g N a (s.L b))(C:HR P E Bs F0.z.F w0 w' z g (upH (s.H b) u))(f:F0.z.Le z)(j:F0.g.Le g)(p:Fresh g (nxU s.nx u))(m:∀sv,v=some sv->RV P E z g sv x)
  (hap:Apart1 w0 z g (upH (s.H b) u) w' q ob) (y:(a.put o.dst x).tmps[d]? = some (.pointer (some ⟨q,0,none⟩))):RelF P E Bs F0 w0 N d q ob (s1.L b) (s1.H b) s1.nx (a.put o.dst x) w':=by
 obtain⟨⟨O,M,J,G⟩,_⟩:=after_ok2 h D C p m;exact⟨z,g,O,M,J,f,j,by rw[G];exact hap,y⟩
theorem rR_(M:∀p∈eqs,ba_ P E p.1 p.2)(Z:tab.OK P E){I:World->Prop}(U:∀w w',I w->Ext w w'->I w'){R:Type}{r:R}{all:List Oper}{tl fr:List Nat}{Q:Exit->Act->World->Prop}{b:Ba E}{k:St E->Option R}
  (hK:∀s' a' w',k s'=some r->Rel P E Bs F0 w0 N (s'.L b) (s'.H b) s'.nx a' w'->Q .normal a' w') {fi d T:Nat} {fo:Oper} {post:List (Nat×Oper×Nat)} {zs:List Value} {q:Nat} (ZV:fo.op = .alloc T) (ZX:fo.guard=none) (ZW:fo.dst=some d) (hz:zeroOf P T=some zs) (y:∀t∈post,all[t.1]? = some t.2.1/\(t.2.2=2->t.1∈tl)):∀{pre:List (Nat×Oper×Nat)} {s:St E} {a:Act} {w:World},
  evB P E eqs tab N false b (pre++(fi,fo,1)::post) s k=some r->(∀t∈pre,all[t.1]? = some t.2.1/\(t.2.2=2->t.1∈tl))->(∀t∈pre,t.2.1.dst≠some d)->RelF P E Bs F0 w0 N d q (.cells zs.toArray T (0,0)) (s.L b) (s.H b) s.nx a w->ca_ P all.toArray tl fr I Q (dW_ pre++dW_ post) a w
 | [],s,a,w,h,_,_,hR=>by
  obtain⟨z,g,hE,hH,m,D,J,hap,hd⟩:=hR;rw[zG]at h;unfold evB at h;simp only[ZX]at h;have ZI:quietM 1=false:=rfl;rw[ZI]at h;simp only at h;split at h
  .cases h
  .unfold evOp at h;simp only[ZV]at h;unfold lAlloc at h;have fin:∀{cs:List (SC E)},All2 (RC P E z (g.put s.nx ⟨none,0,0,0,q,0⟩)) cs zs->(match s.after N fo (some (.v (.one (.ptr s.nx 0)))) [(s.nx,some (.box T cs))]with
     | some s1=>evB P E eqs tab N false b post s1 k
     | none=>none)=some r->ca_ P all.toArray tl fr I Q (dW_ post) a w:=fun{cs} G h=>by
    split at h
    .rename_i s1 F;have hA:=hH.adopt m.self hap G;have ZO:=Ga.le_put (l:=⟨none,0,0,0,q,0⟩) m.self;obtain⟨C,_⟩:=c6_ (F0:=F0) (x := .pointer (some ⟨q,0,none⟩)) F (hE.le (Fz.Le.refl z) ZO) hA D (J.trans ZO) (Fresh.nxU λi hi=>by
      have:=m.put (⟨none,0,0,0,q,0⟩:Loc) i (by simp at hi;omega);exact this) (λsv e=>by obtain rfl:=qSj e;exact⟨_,Ga.put_self _ _ _,rfl⟩)
     rw[ZW,put_same hd]at C;exact pF_ (fm:=false) M Z U (λe=>by cases e) hK h y C
    .cases h
   split at h
   .rename_i Y;rw[hz]at Y;obtain rfl:=qSj Y;exact fin (cs:=[.sbp s.nx,.nils]) (.cons ⟨_,Ga.put_self _ _ _,.inl rfl⟩ (.cons rfl .nil)) h
   .split at h
    .rename_i cs ZE;obtain⟨zs',ZS,G⟩:=qh_ (z:=z) (g:=g) ZE;rw[hz]at ZS;obtain rfl:=qSj ZS;exact fin (G.mono λ_ _ h=>RC.le h (Fz.Le.refl z) (Ga.le_put m.self)) h
    .cases h
 | (i, o,f)::pre,s,a,w,h,ZY,ZL,hR=>by
  obtain⟨ho,ZR⟩:=ZY _ (qD ..);have O:∀t∈pre,all[t.1]? = some t.2.1/\(t.2.2=2->t.1∈tl):=λt Z=>ZY t (qC _ Z)
  have ZZ:∀t∈pre,t.2.1.dst≠some d:=λt Z=>ZL t (qC _ Z)
  have ZP:o.dst≠some d:=ZL _ (qD ..);simp only at ho ZR;rw[qR]at h;unfold evB at h;split at h
  .cases h
  .rename_i ZN;simp only[dW_,qR];split at h
   .rename_i ZU;rw[ZU];obtain⟨z,g,hE,hH,m,D,J,hap,hd⟩:=hR;obtain⟨sv,v,up,g2,V,Zy,ZA,hv,ZQ,ZJ⟩:=k8_ (nx:=s.nx) M (hE.op hH.gl) (hH.less (H':=λ_=>none) λ_ _ e=>by cases e) h (λ_=>True);simp only at V;split at V
    .cases V
    .obtain rfl:g2=g:=ZJ;split at V
     .rename_i s1 F;have C:=after_okF (u:=[]) F hE hH D J (λj hj=>m j (by simp only[nxU]at hj;omega)) (λsv' e=>by obtain rfl:=qSj e;exact hv) hap (put_other hd ZP);refine fQ_ o ho λK ZT => ?_
      rw[qV (dY_ ZN _)];exact⟨v,λw' _=>by rw[ZQ w' trivial];exact⟨rfl,rfl⟩,ZT _ (rR_ M Z U hK ZV ZX ZW hz y V O ZZ C)⟩
     .cases V
   .rename_i ZU;rw[ZU];split at h
    .cases h
    .rename_i ZM;refine tg_ o ho λK ZT X e => ?_
     have hx:Ext w (w.ext X e):=⟨X,e,rfl⟩;obtain⟨z,g,hE,hH,m,D,J,hap,hd⟩:=hR.ext hx;refine wpList_step λK2 ZD => ?_
     rw[qV (dY_ ZN _)];refine evOp_frame M Z m hE hH hap h λv u x w' z2 g2 V Y ZG ZB ZC ZF hv ZH ZK=>ZD _ _ ?_
     split at V
     .rename_i s1 F;have C:=after_okF F ZB ZC (D.trans Y) (J.trans ZG) ZF hv ZK (put_other hd ZP);show K _ _;refine ZT _ _ (λhc hw => ?_) (rR_ M Z U hK ZV ZX ZW hz y V O ZZ C);simp only[qP,qu,false_or]at ZM;rcases ZM with h1|h1
      .obtain rfl:=qNb h1;rw[jk.2 (ZR rfl)]at hc;cases hc
      .exact U _ _ (U _ _ hw hx) (ZH h1)
     .cases V
theorem rS_ (D:∀p∈eqs,ba_ P E p.1 p.2) (C:tab.OK P E) {I:World->Prop} (y:∀w w',I w->Ext w w'->I w') {R:Type} {r:R} {all:List Oper} {tl fr:List Nat} {Q:Exit->Act->World->Prop} {b:Ba E} {k:St E->Option R}
  (hK:∀s' a' w',k s'=some r->Rel P E Bs F0 w0 N (s'.L b) (s'.H b) s'.nx a' w'->Q .normal a' w') {fi d T:Nat} {fo:Oper} {post:List (Nat×Oper×Nat)} (ZZ:all[fi]? = some fo) (ZW:fo.op = .alloc T) (ZY:fo.guard=none) (ZX:fo.dst=some d) (m:∀t∈post,all[t.1]? = some t.2.1/\(t.2.2=2->t.1∈tl)):∀{pre:List (Nat×Oper×Nat)} {s:St E} {a:Act} {w:World},
  evB P E eqs tab N false b (pre++(fi,fo,1)::post) s k=some r->(∀t∈pre,all[t.1]? = some t.2.1/\(t.2.2=2->t.1∈tl))->(∀t∈pre,t.2.1.dst≠some d)->s.L b d=none->Nat.blt d N=true->(∃zs,zeroOf P T=some zs)->Rel P E Bs F0 w0 N (s.L b) (s.H b) s.nx a w->dI_ P all.toArray tl fr I Q fi (dW_ post) (dW_ pre) a w
 | [],s,a,w,h,_,_,_,_,_,hR=>by
  rw[zG]at h;exact pF_ (fm:=false) D C y (λe=>by cases e) hK (l:=(fi,fo,1)::post) h (λt C=>by
   rcases qW.1 C with rfl|C
   .exact⟨ZZ,λe=>nomatch e⟩
   .exact m t C) hR
 | (i, o,f)::pre,s,a,w,h,O,ZQ,ZN,ZP,ZT,hR=>by
  obtain⟨ho,ZJ⟩:=O _ (qD ..);have M:∀t∈pre,all[t.1]? = some t.2.1/\(t.2.2=2->t.1∈tl):=λt C=>O t (qC _ C)
  have ZU:∀t∈pre,t.2.1.dst≠some d:=λt C=>ZQ t (qC _ C)
  have Z:o.dst≠some d:=ZQ _ (qD ..);have ZR:=h;simp only at ho ZJ;rw[qR]at h;unfold evB at h;split at h
  .cases h
  .rename_i ZH;simp only[dW_];split at h
   .rename_i ZV;rw[ZV];obtain⟨z,g,hE,V,J,F,G⟩:=hR;obtain⟨sv,v,up,g2,Y,Zr,Zs,hv,ZI,ZD⟩:=k8_ (nx:=s.nx) D (hE.op V.gl) (V.less (H':=λ_=>none) λ_ _ e=>by cases e) h (λ_=>True);simp only at Y;split at Y
    .cases Y
    .obtain rfl:g2=g:=ZD;split at Y
     .rename_i s1 ZS;obtain⟨ZO,ZM⟩:=c6_ (u:=[]) ZS hE V F G (λj hj=>J j (by simp only[nxU]at hj;omega)) (λsv' e=>by obtain rfl:=qSj e;exact hv);refine hv_ o ho λK U => ?_
      rw[qV (dY_ ZH _)];exact⟨v,λw' _=>by rw[ZI w' trivial];exact⟨rfl,rfl⟩,U _ (rS_ D C y hK ZZ ZW ZY ZX m Y M ZU ((ZM d λd' e=>by rw[e]at Z;exact λh=>Z (by rw[h])).trans ZN) ZP ZT ZO)⟩
     .cases Y
   .rename_i ZV;rw[ZV];split at h
    .cases h
    .rename_i ZG;refine wpMixF_loud o fo ho ZZ (λK U X e => ?_) λK U X e => ?_
     .have hx:Ext w (w.ext X e):=⟨X,e,rfl⟩;obtain⟨z,g,hE,V,J,F,G⟩:=hR.ext hx;refine wpList_step λK2 ZL => ?_
      rw[qV (dY_ ZH _)];refine nN_ D C J hE V h λv u x w' z2 g2 Y ZE ZB Zv Zw Zy hv ZC=>ZL _ _ ?_
      split at Y
      .rename_i s1 ZS;obtain⟨ZO,ZM⟩:=c6_ ZS Zv Zw (F.trans ZE) (G.trans ZB) Zy hv;show K _ _;refine U _ _ (λhc hw => ?_) (rS_ D C y hK ZZ ZW ZY ZX m Y M ZU ((ZM d λd' e=>by rw[e]at Z;exact λh=>Z (by rw[h])).trans ZN) ZP ZT ZO);simp only[qP,qu,false_or]at ZG;rcases ZG with h1|h1
       .obtain rfl:=qNb h1;rw[jk.2 (ZJ rfl)]at hc;cases hc
       .exact y _ _ (y _ _ hw hx) (ZC h1)
      .cases Y
     .have hx:Ext w (w.ext X e):=⟨X,e,rfl⟩;obtain⟨zs,hz⟩:=ZT;obtain⟨z,g,hE,V,J,F,G⟩:=hR.ext hx;refine wpList_step λK2 ZL => ?_
      rw[qV (dY_ ZY _)];unfold Oper.wp;rw[rv_ ZW hz];simp only[Oper.upon];rw[ZX];refine ZL _ _ ?_;show K _ _;generalize Zu:w.ext X e=w1 at hE V hx;have ZK:Ext w1 (w1.alloc (.cells zs.toArray T)):=Ext.one w1 _;have hb:ca_ P all.toArray tl fr I Q (dW_ ((i,o,f)::pre)++dW_ post) (a.put (some d) (.pointer (some ⟨w1.heap.size,0,none⟩))) (w1.alloc (.cells zs.toArray T)):=by
       refine rR_ (q:=w1.heap.size) D C y hK ZW ZY ZX hz m ZR O ZQ ?_;refine⟨z,g,hE.del (λt u hu=>⟨λe => ?_,hu⟩),V.ext ZK,J,F,G,⟨?_,V.size,λid p k he ZA => ?_,λZF => ?_⟩,?_⟩
       .subst e;rw[ZN]at hu;cases hu
       .show(w1.heap.push _)[w1.heap.size]? = _;simp
       .have:=(V.hold id p he).lt ZA;omega
       .have:=(V.fz _ ZF).1;omega
       .unfold Act.put;have:d<a.tmps.size:=by rw[hE.size];exact qx ZP
        simp[this]
      simp only[dW_,ZV,Bool.not_false]at hb;exact U _ _ (λ_ hw=>y _ _ (y _ _ hw hx) ZK) hb
def quietWalkF(O:∀p∈eqs,ba_ P E p.1 p.2)(ht:tab.OK P E)(all:List Oper)(tl fr:List Nat)(m:Nat)(hm:∀i,i<m->fr.contains i=false)(W:World)(I:World->Prop)(hI:∀z g H,HR P E Bs F0.z.F w0 W z g H->F0.z.Le z->∀w',I w'->Keeps P E z g H W w')(Q:Exit->Act->World->Prop)(fi:Nat)(post:List (Nat×Bool)):Walk P E (λL H nx o _ k=>j9_ P E eqs tab L H nx o k) N Bs F0 w0 all where
 W J l i a w:=w=W->i+l.length<=m->∀rest:List (Nat×Bool),(∀D,J D W->dI_ P all.toArray tl fr I Q fi post rest D W)->dI_ P all.toArray tl fr I Q fi post (fz_ i l++rest) a W
 nil U:=λe _ rest h=>h _ (e▸U)
 app j C:=λe f rest h=>by
  rw[lE_,qT];rw[qLa]at f;exact j e (by omega) _ λD U=>C D W U rfl (by omega) rest h
 skip {J o l i a w} x q j:=λe f rest h=>by
  simp only[qLc]at f;simp only[fz_,qR];refine hv_ o x λK y => ?_
  rw[qX (by rw[q];exact jM)];exact y _ (j e (by omega) rest h)
 step {J o l i a w R L H nx z g k r} x q Y V hf Z hg M hk:=λe f rest h=>by
  simp only[qLc]at f;subst e;simp only[fz_,qR];refine hv_ o x λK y => ?_
  rw[qV q,hm i (by omega)];obtain⟨s,u,v,g2,j,C,h3,h4,h5,h6⟩:=nP_ O ht hf Y V (hI z g H V Z) M;refine⟨v,h6,y _ ?_⟩;exact hk (some s) u v w z g2 j (Fz.Le.refl z) C (Y.le (Fz.Le.refl z) C) h3 h4.nxU (λsv G=>by obtain rfl:=qSj G;exact h5) rfl (by omega) rest h
 pick {J o l i a w v} x q hr j:=λe f rest h=>by
  simp only[qLc]at f;simp only[fz_,qR];refine hv_ o x λK y => ?_
  rw[qV q];exact⟨v,λw' _=>by rw[hr];exact⟨rfl,rfl⟩,y _ (j e (by omega) rest h)⟩
theorem evH_okF(m:∀p∈eqs,ba_ P E p.1 p.2)(V:tab.OK P E){W:World}{I:World->Prop}(hI:∀z g H,HR P E Bs F0.z.F w0 W z g H->F0.z.Le z->∀w',I w'->Keeps P E z g H W w'){R:Type}{r:R}{all:List Oper}{tl fr:List Nat}{Q:Exit->Act->World->Prop}{b:Ba E}{k:St E->Option R}{fi:Nat}{post rest:List (Nat×Bool)}
  (hK:∀s' a',k s'=some r->Rel P E Bs F0 w0 N (s'.L b) (s'.H b) s'.nx a' W->dI_ P all.toArray tl fr I Q fi post rest a' W):∀{Y:List Nat} {s:St E} {a:Act},
  evH P E eqs tab N b all fr Y s k=some r->Rel P E Bs F0 w0 N (s.L b) (s.H b) s.nx a W->dI_ P all.toArray tl fr I Q fi post (hOrd Y++rest) a W
 | [],s,a,h,hR=>hK s a h hR
 | i :: Y,s,a,h,hR=>by
  unfold evH at h;split at h
  .cases h
  .rename_i o ho;split at h
   .cases h
   .rename_i Z;obtain⟨z,g,O,M,G,q,D⟩:=hR;simp only[hOrd,qR];refine hv_ o ho λK J => ?_
    rw[qV (dY_ Z _)];split at h
    .rename_i hc;rw[hc];obtain⟨sv,v,up,g2,f,ZY,ZZ,hv,C,U⟩:=k8_ (nx:=s.nx) m (O.op M.gl) (M.less (H':=λ_=>none) λ_ _ e=>by cases e) h (λ_=>True);simp only at f;split at f
     .cases f
     .obtain rfl:g2=g:=U;split at f
      .rename_i s1 x;obtain⟨y,_⟩:=c6_ (u:=[]) x O M q D (λj hj=>G j (by simp only[nxU]at hj;omega)) (λsv' e=>by obtain rfl:=qSj e;exact hv);exact⟨v,λw' _=>by rw[C w' trivial];exact⟨rfl,rfl⟩,J _ (evH_okF m V hI hK f y)⟩
      .cases f
    .rename_i hc;rw[hc];obtain⟨sv,u,v,g2,f,h2,h3,h4,h5,h6⟩:=nP_ m V G O M (hI z g _ M q) h;simp only at f;split at f
     .rename_i s1 x;obtain⟨y,_⟩:=c6_ x (O.le (Fz.Le.refl z) h2) h3 q (D.trans h2) h4.nxU (λsv' e=>by obtain rfl:=qSj e;exact h5);exact⟨v,h6,J _ (evH_okF m V hI hK f y)⟩
     .cases f
theorem evFloat_ok(C:∀p∈eqs,ba_ P E p.1 p.2)(ht:tab.OK P E){R:Type}{l:List Oper}{fl G:List Nat}{p:Nat}{id:Nat}{b:Ba E}{s:St E}{k:St E->Option R}{r:R}{a:Act}{w:World}{Q:Exit->Act->World->Prop}(h:evFloat P E eqs tab N l fl G p b s k=some r)(hR:Rel P E Bs F0 w0 N (s.L b) (s.H b) s.nx a w)
  (hK:∀s' M w',k s'=some r->Rel P E Bs F0 w0 N (s'.L b) (s'.H b) s'.nx M w'->Q .normal M w'):(Code.region id l.toArray true).wp P Q a w:=by
 unfold evFloat at h;split at h
 .cases h
 .rename_i t ZX;obtain⟨fi,fo,f1⟩:=t;split at h
  .cases h
  .rename_i m;simp only[qAn]at m;obtain⟨⟨hm,j,ZU⟩,hB⟩:=m;obtain rfl:=qNb ZU;have f:∀t∈eU_ G (aA_ fl) (l.drop (aA_ fl)) (fl.drop (aA_ fl)),l[t.1]? = some t.2.1/\(t.2.2=2->t.1∈tlOf 0 fl):=λt f=>by
    obtain⟨k,h5,h6,h7⟩:=tM_ f;rw[zA]at h6 h7;rw[←h5]at h6 h7;refine⟨h6,λhf => ?_⟩;rw[hf]at h7;have:=tL_ (n:=0) h7
    rwa [qo]at this
   have V:=(f _ (qe ZX)).1;unfold floatB at j;simp only at j V hB h;split at j
   .rename_i T d ZV ZW Y;simp only[qAn,qL]at j;obtain⟨ZT,ZS,O⟩:=j;have ZY:∃zs,zeroOf P T=some zs:=by
     split at O
     .rename_i zs hz;exact⟨zs,hz⟩
     .cases O
    have Z:dstN fo=d:=by unfold dstN;rw[Y]
    rw[Z]at h;have ZZ:∀w1 w',Ext w w1->Ext w1 w'->Ext w w':=λ_ _ D h2=>D.trans h2
    have hI:∀z g H,HR P E Bs F0.z.F w0 w z g H->F0.z.Le z->∀w',Ext w w'->Keeps P E z g H w w':=λz g H D _ w' h2=>Keeps.of_ext D h2
    refine we_ (I:=Ext w) ZZ _ _ _ _ hm hB (Ext.refl w) ?_;have:=hx_ (quietWalkF C ht l (tlOf 0 fl) (frOf 0 fl) (aA_ fl) (λ_ h=>notFree h) w (Ext w) hI Q fi (dW_ ((eU_ G (aA_ fl) (l.drop (aA_ fl)) (fl.drop (aA_ fl))).drop (p+1)))) _ (tl:=l.drop (aA_ fl)) (J:=λM w'=>w'=w->dI_ P l.toArray (tlOf 0 fl) (frOf 0 fl) (Ext w) Q fi (dW_ ((eU_ G (aA_ fl) (l.drop (aA_ fl)) (fl.drop (aA_ fl))).drop (p+1))) (hOrd G++dW_ ((eU_ G (aA_ fl) (l.drop (aA_ fl)) (fl.drop (aA_ fl))).take p)) M w') h (by simp) hR trivial λs' M w' D h2 _ hw=>by
     subst hw;refine evH_okF C ht hI (λq a2 h3 h4 => ?_) D h2;have hL:(({ q with env:=(d,none)::q.env }:St E).L b) d=none:=by
      simp only[St.L,aP_,Nat.beq_refl]
     have ZR:Rel P E Bs F0 w0 N (({ q with env:=(d,none)::q.env }:St E).L b) (({ q with env:=(d,none)::q.env }:St E).H b) q.nx a2 w':=by
      obtain⟨z,g,hE,hH,y⟩:=h4;exact⟨z,g,hE.less λt u U=>(by
       simp only[St.L,aP_]at U ⊢;cases hb:Nat.beq t d with
       | true=>rw[hb]at U;cases U
       | false=>rw[hb]at U;exact U),hH,y⟩
     refine rS_ C ht ZZ hK V ZV ZW Y (λt x=>f t (List.mem_of_mem_drop x)) h3 (λt x=>f t (zd x)) (qB_ ZT) hL ZS ZY ZR
    exact this rfl (by rw[qo];exact List.length_take_le _ _) _ λM D=>D rfl
   .cases j
def uV_(O:∀p∈eqs,ba_ P E p.1 p.2)(ht:tab.OK P E)(all:List Oper)(fr:List Nat)(m:Nat)(hm:∀i,i<m->fr.contains i=false)(W:World)(I:World->Prop)(hI:∀z g H,HR P E Bs F0.z.F w0 W z g H->F0.z.Le z->∀w',I w'->Keeps P E z g H W w')(Q:Exit->Act->World->Prop)(t:OT):Walk P E (λL H nx o _ k=>j9_ P E eqs tab L H nx o k) N Bs F0 w0 all where
 W J l i a w:=w=W->i+l.length<=m->∀rest:List (Nat×Bool),(∀D,J D W->gG_ P all.toArray fr I Q t rest D W)->gG_ P all.toArray fr I Q t (fz_ i l++rest) a W
 nil U:=λe _ rest h=>h _ (e▸U)
 app j C:=λe f rest h=>by
  rw[lE_,qT];rw[qLa]at f;exact j e (by omega) _ λD U=>C D W U rfl (by omega) rest h
 skip {J o l i a w} x q j:=λe f rest h=>by
  simp only[qLc]at f;simp only[fz_,qR];refine nQ_ o x λK y => ?_
  rw[qX (by rw[q];exact jM)];exact y _ (j e (by omega) rest h)
 step {J o l i a w R L H nx z g k r} x q Y V hf Z hg M hk:=λe f rest h=>by
  simp only[qLc]at f;subst e;simp only[fz_,qR];refine nQ_ o x λK y => ?_
  rw[qV q,hm i (by omega)];obtain⟨s,u,v,g2,j,C,h3,h4,h5,h6⟩:=nP_ O ht hf Y V (hI z g H V Z) M;refine⟨v,h6,y _ ?_⟩;exact hk (some s) u v w z g2 j (Fz.Le.refl z) C (Y.le (Fz.Le.refl z) C) h3 h4.nxU (λsv G=>by obtain rfl:=qSj G;exact h5) rfl (by omega) rest h
 pick {J o l i a w v} x q hr j:=λe f rest h=>by
  simp only[qLc]at f;simp only[fz_,qR];refine nQ_ o x λK y => ?_
  rw[qV q];exact⟨v,λw' _=>by rw[hr];exact⟨rfl,rfl⟩,y _ (j e (by omega) rest h)⟩
def GS(all:List Oper)(gs:Gs)(L:Nat->Option (SV E)):Prop:=∀q∈gs,gdOK all (some (q.1,q.2.2,q.2.1)) L
theorem GS.after{all:List Oper}{gs:Gs}{o:Oper}{L L':Nat->Option (SV E)}(h:GS all gs L)(j:gsFree o gs=true)(m:∀t,(∀d,o.dst=some d->t≠d)->L' t=L t):GS all gs L' :=
 λq f=>qA_ (h q f) (qf.1 j q f) m
theorem gsAt_mem{k:Nat}{q:Nat×Nat×Bool}:∀{gs:Gs},gsAt k gs=some q->q∈gs/\q.1=k
 | [],h=>nomatch h
 | p::l,h=>by
  simp only[gsAt]at h;split at h
  .rename_i f;obtain rfl:=qSj h;exact⟨qD,qNb f⟩
  .have:=gsAt_mem h;exact⟨qC _ this.1,this.2⟩
theorem uW_{k:Nat}{q:Nat×Nat×Bool}:∀{gs:Gs},gsSlot k gs=some q->q∈gs/\q.2.1=k
 | [],h=>nomatch h
 | p::l,h=>by
  simp only[gsSlot]at h;split at h
  .rename_i f;obtain rfl:=qSj h;exact⟨qD,qNb f⟩
  .have:=uW_ h;exact⟨qC _ this.1,this.2⟩
theorem GS.val{all:List Oper}{gs:Gs}{L:Nat->Option (SV E)}{q:Nat×Nat×Bool}{z:Fz}{g:Ga}{a:Act}(h:GS all gs L)(f:q∈gs)(j:ER P E z g N a L):(∃oj,all[q.1]? = some oj/\oj.dst=some q.2.1)/\a.tmps[q.2.1]? = some (.bool q.2.2):=by
 obtain⟨u,c,s,rfl⟩:=h q f;obtain⟨v,p,m⟩:=j.get _ _ s;exact⟨u,by rw[p];exact qH some (SV.bool_ok rfl m)⟩
theorem qC_{all:List Oper}{gs:Gs}{L:Nat->Option (SV E)}{o:Oper}{u:Bool}{z:Fz}{g:Ga}{a:Act}(h:GS all gs L)(p:ER P E z g N a L)(f:wantG o gs=some u):Region.wanted o (yielded all.toArray a.tmps)=u:=by
 unfold wantG at f;unfold Region.wanted;split at f
 .rename_i j;rw[j];exact qSj f
 .rename_i k w j;rw[j];split at f
  .cases f
  .rename_i q m;obtain⟨hm,rfl⟩:=gsAt_mem m;obtain⟨⟨oj,y,x⟩,s⟩:=h.val hm p;obtain rfl:=qSj f;simp only[m6_ y x s];cases q.2.2<;>cases w<;>rfl
theorem evO1_ok (ZU:∀p∈eqs,ba_ P E p.1 p.2) (ht:tab.OK P E) {R:Type} {r:R} {all:List Oper} {Q:Exit->Act->World->Prop} {b:Ba E} {gs:Gs} {i:Nat} {t:OT} {kk:St E->Option R} {s:St E} {a:Act} {w:World}
  (Z:∀{s:St E} {a:Act} {w:World},kk s=some r->Rel P E Bs F0 w0 N (s.L b) (s.H b) s.nx a w->GS all gs (s.L b)->wpO P all.toArray Q t false a w)
  (h:evO1 P E eqs tab N b all i gs s kk=some r) (hR:Rel P E Bs F0 w0 N (s.L b) (s.H b) s.nx a w) (U:GS all gs (s.L b)) :
   (match all.toArray[i]? with
    | none=>False
    | some o=>∀X d,wpList P all.toArray (Exit.then (λa' w'=>wpO P all.toArray Q t false a' w') (eg_ Q)) [o] a (w.ext X d)):=by
 unfold evO1 at h;split at h
 .cases h
 .rename_i o ho;have ZX:all.toArray[i]? = some o:=by simpa using ho
  rw[ZX];intro X d;have ZT:=hR.ext ⟨X,d,rfl⟩;obtain⟨z,g,M,Y,G,D,F⟩:=ZT;refine wpList_step λK2 J => ?_
  split at h
  .rename_i C hw;rw[qV (qC_ U M hw)];split at h
   .rename_i x O;split at h
    .cases h
    .rename_i v hv;split at h
     .rename_i s1 f;obtain⟨m,y⟩:=c6_ (u:=[]) (x:=a.eval x) f M Y D F (λj hj=>G j (by simp only[nxU]at hj;omega)) (λsv' e=>by obtain rfl:=qSj e;exact M.op Y.gl _ _ hv);unfold pickG at O;split at O
      .rename_i dd x0 y0 ZY;split at O
       .cases O
       .rename_i q hq;obtain⟨hm,rfl⟩:=uW_ hq;obtain⟨_,h3⟩:=U.val hm M;obtain rfl:=qSj O;unfold Oper.wp;have V:(execOp a.eval o).run P (w.ext X d) = .ok (.value (a.eval (picked q.2.2 x0 y0))) (w.ext X d):=by
         have hc:a.eval (.tmp q.2.1) = .bool q.2.2:=by simp[Act.eval,h3]
         unfold execOp;rw[ZY];simp only[hc];cases q.2.2<;>simp[asBool,picked]
        rw[V];exact J _ _ (Z h m (U.after C y))
      .cases O
     .cases h
   .refine nN_ ZU ht G M Y h λv u x w' z2 g2 hk ZZ ZW ZR ZS ZV hv _=>J _ _ ?_
    split at hk
    .rename_i s1 f;obtain⟨m,y⟩:=c6_ f ZR ZS (D.trans ZZ) (F.trans ZW) ZV hv;exact Z hk m (U.after C y)
    .cases hk
  .rename_i C hw;rw[qX (by rw[qC_ U M hw];exact jM)];split at h
   .rename_i s1 f;obtain⟨m,y⟩:=c6_ (u:=[]) (x:=undef) f M Y D F (λj hj=>G j (by simp only[nxU]at hj;omega)) (λ_ e=>nomatch e);exact J _ _ (Z h m (U.after C y))
   .cases h
  .cases h
theorem evOT_ok(U:∀p∈eqs,ba_ P E p.1 p.2)(ht:tab.OK P E){R:Type}{r:R}{all:List Oper}{Q:Exit->Act->World->Prop}{b:Ba E}{k:St E->Option R}
  (hK:∀s' a' w',k s'=some r->Rel P E Bs F0 w0 N (s'.L b) (s'.H b) s'.nx a' w'->Q .normal a' w'):∀{t:OT} {c:Bool} {gs:Gs} {s:St E} {a:Act} {w:World},
  evOT P E eqs tab N b all k t gs s=some r->Rel P E Bs F0 w0 N (s.L b) (s.H b) s.nx a w->GS all gs (s.L b)->wpO P all.toArray Q t c a w:=by
 intro t
 induction t with
 | nil =>
  intro c gs s a w h y m;cases c with
  | true=>trivial
  | false=>exact λX d=>hK s a _ (by simpa only[evOT]using h) (y.ext ⟨X,d,rfl⟩)
 | spl i t f ZY ZW =>
  intro c gs s a w h y m;simp only[evOT]at h;split at h
  .cases h
  .rename_i o ho;split at h
   .cases h
   .rename_i d hd;split at h
    .rename_i u hu;obtain⟨z,g,G,Z,F,C,D⟩:=y;obtain⟨v,h3,h4⟩:=G.get _ _ hu;have hy:=m6_ (c:=u) ho hd (by rw[h3];exact qH some (SV.bool_ok rfl h4));cases u with
     | true=>exact .inl ⟨hy,ZY h ⟨z,g,G,Z,F,C,D⟩ λq M=>by
       rcases qW.1 M with rfl|M
       .exact⟨⟨o,ho,hd⟩,true,hu,rfl⟩
       .exact m q M⟩
     | false=>exact .inr ⟨hy,ZW h ⟨z,g,G,Z,F,C,D⟩ λq M=>by
       rcases qW.1 M with rfl|M
       .exact⟨⟨o,ho,hd⟩,false,hu,rfl⟩
       .exact m q M⟩
    .cases h
 | free i t ih =>
  intro c gs s a w h y m;simp only[evOT]at h;split at h
  .cases h
  .rename_i o ho;have ZU:all.toArray[i]? = some o:=by simpa using ho
   simp only[wpO,ZU];obtain⟨z,g,G,Z,F,C,D⟩:=y;split at h
   .rename_i O hw;rw[qV (qC_ m G hw)];obtain⟨sv,v,up,g2,hk,ZS,ZT,hv,ZZ,ZV⟩:=k8_ (nx:=s.nx) U (G.op Z.gl) (Z.less (H':=λ_=>none) λ_ _ e=>by cases e) h (λ_=>True);simp only at hk;split at hk
    .cases hk
    .obtain rfl:g2=g:=ZV;split at hk
     .rename_i s1 J;obtain⟨V,Y⟩:=c6_ (u:=[]) J G Z C D (λj hj=>F j (by simp only[nxU]at hj;omega)) (λsv' e=>by obtain rfl:=qSj e;exact hv);exact⟨v,λw' _=>by rw[ZZ w' trivial];exact⟨rfl,rfl⟩,ih hk V (m.after O Y)⟩
     .cases hk
   .rename_i O hw;rw[qX (by rw[qC_ m G hw];exact jM)];split at h
    .rename_i s1 J;obtain⟨V,Y⟩:=c6_ (u:=[]) (x:=undef) J G Z C D (λj hj=>F j (by simp only[nxU]at hj;omega)) (λ_ e=>nomatch e);exact ih h V (m.after O Y)
    .cases h
   .cases h
 | alt i t rr ih ZX =>
  intro c gs s a w h y m;cases rr with
  | nil =>
   simp only[evOT]at h;exact⟨evO1_ok U ht (λh y m=>ih h y m) h y m,trivial⟩
  | free j t2 =>
   simp only[evOT]at h;cases h
  | spl j t2 f2 =>
   simp only[evOT]at h;cases h
  | alt j t2 r2 =>
   rw[evOT]at h;obtain⟨h1,h2⟩:=both_some h;exact⟨evO1_ok U ht (λh y m=>ih h y m) h1 y m,ZX h2 y m⟩
theorem evOrd_ok(q:∀p∈eqs,ba_ P E p.1 p.2)(G:tab.OK P E){R:Type}{l:List Oper}{p:Nat}{t:OT}{id:Nat}{b:Ba E}{s:St E}{k:St E->Option R}{r:R}{a:Act}{w:World}{Q:Exit->Act->World->Prop}(h:evOrd P E eqs tab N l p t b s k=some r)(U:Rel P E Bs F0 w0 N (s.L b) (s.H b) s.nx a w)
  (V:∀s' m w',k s'=some r->Rel P E Bs F0 w0 N (s'.L b) (s'.H b) s'.nx m w'->Q .normal m w'):(Code.region id l.toArray true).wp P Q a w:=by
 unfold evOrd at h;split at h
 .cases h
 .rename_i f;simp only[qAn]at f;obtain⟨hm,y,Z⟩:=f;have C:∀D w',Ext w D->Ext D w'->Ext w w':=λ_ _ j u=>j.trans u
  have Y:∀z g H,HR P E Bs F0.z.F w0 w z g H->F0.z.Le z->∀w',Ext w w'->Keeps P E z g H w w':=λz g H j _ w' u=>Keeps.of_ext j u
  have x:∀i,i<p->t.frO.contains i=false:=λi hi=>by
   cases O:t.frO.contains i with
   | false=>rfl
   | true =>
    have:=qf.1 y i (jk.1 O);have:=qx this;omega
  refine pC_ (I:=Ext w) C _ _ _ hm Z (Ext.refl w) ?_;have:=hx_ (uV_ q G l t.frO p x w (Ext w) Y Q t) _ (tl:=l.drop p) (J:=λm w'=>w'=w->gG_ P l.toArray t.frO (Ext w) Q t [] m w) h (by simp) U trivial λs' m w' j u _ M=>by
   subst M;exact evOT_ok q G V j u (λ_ e=>nomatch e)
  have h3:=this rfl (by rw[qo];exact List.length_take_le _ _) [] λm j=>j rfl
  rwa [zj]at h3
def chainWalk(O:∀p∈eqs,ba_ P E p.1 p.2)(Z:tab.OK P E)(all:List Oper)(Q:Exit->Act->World->Prop):Walk P E (λL H nx o _ k=>evOp P E eqs tab L H nx o k) N Bs F0 w0 all where
 W J l i a w:=∀n:Nat,(∀D w',J D w'->∀j,Ext w' j->wpO P all.toArray Q (chO (i+l.length) n) false D j)->∀w',Ext w w'->wpO P all.toArray Q (chO i (l.length+n)) false a w'
 nil {J i a w} U:=λn h w' m=>by
  rw[zn,qo];exact h _ _ U w' m
 app {J1 J l1 l2 i a w} q V:=λn h w' m=>by
  rw[qLa,zP];exact q (l2.length+n) (λD Y U j G=>V D Y U n (by rw[zP,←qLa];exact h) j G) w' m
 skip {J o l i a w} y s q:=λn h w' m=>by
  rw[qLc,show l.length+1+n=(l.length+n)+1 by omega];have f:all.toArray[i]? = some o:=by simpa using y
  refine⟨?_,trivial⟩;rw[f];intro X d;refine wpList_step λK C => ?_
  rw[qX (by rw[s];exact jM)];exact C _ _ (q n (by rw[show i+1+l.length=i+(o::l).length by rw[qLc];omega];exact h) _ (m.trans ⟨X,d,rfl⟩))
 step {J o l i a w R L H nx z g k r} y s hE hH hf hz hg M hk:=λn h w' m=>by
  rw[qLc,show l.length+1+n=(l.length+n)+1 by omega];have f:all.toArray[i]? = some o:=by simpa using y
  refine⟨?_,trivial⟩;rw[f];intro X d;refine wpList_step λK C => ?_
  rw[qV s];exact evOp_ok O Z hf hE (hH.ext (m.trans ⟨X,d,rfl⟩)) M λv u x F z2 g2 q V h3 h4 h5 h6 h7=>C _ _ (hk v u x F z2 g2 q V h3 h4 h5 h6 h7 n (by rw[show i+1+l.length=i+(o::l).length by rw[qLc];omega];exact h) F (Ext.refl F))
 pick {J o l i a w v} y s hr q:=λn h w' m=>by
  rw[qLc,show l.length+1+n=(l.length+n)+1 by omega];have f:all.toArray[i]? = some o:=by simpa using y
  refine⟨?_,trivial⟩;rw[f];intro X d;refine wpList_step λK C => ?_
  rw[qV s];unfold Oper.wp;rw[hr _];exact C _ _ (q n (by rw[show i+1+l.length=i+(o::l).length by rw[qLc];omega];exact h) _ (m.trans ⟨X,d,rfl⟩))
theorem evChain_ok(y:∀p∈eqs,ba_ P E p.1 p.2)(G:tab.OK P E){R:Type}{l:List Oper}{p:Nat}{id:Nat}{b:Ba E}{s:St E}{k:St E->Option R}{r:R}{a:Act}{w:World}{Q:Exit->Act->World->Prop}(h:evChain P E eqs tab N l p b s k=some r)(V:Rel P E Bs F0 w0 N (s.L b) (s.H b) s.nx a w)
  (Y:∀s' f w',k s'=some r->Rel P E Bs F0 w0 N (s'.L b) (s'.H b) s'.nx f w'->Q .normal f w'):(Code.region id l.toArray true).wp P Q a w:=by
 unfold evChain at h;split at h
 .cases h
 .rename_i m;simp only[qAn]at m;obtain⟨hm,x,hB⟩:=m;have x:=qx x;have C:∀D w',Ext w D->Ext D w'->Ext w w':=λ_ _ j u=>j.trans u
  have Z:∀z g H,HR P E Bs F0.z.F w0 w z g H->F0.z.Le z->∀w',Ext w w'->Keeps P E z g H w w':=λz g H j _ w' u=>Keeps.of_ext j u
  refine pC_ (I:=Ext w) C _ _ _ hm hB (Ext.refl w) ?_;have:=hx_ (uV_ y G l [] p (λ_ _=>rfl) w (Ext w) Z Q (chO p (l.length-p))) _ (tl:=l.drop p) (J:=λf w'=>w'=w->gG_ P l.toArray [] (Ext w) Q (chO p (l.length-p)) [] f w') h (by simp) V trivial λs' f w' j u h5 U=>by
   subst U;have h4:=hx_ (chainWalk y G l Q) _ (tl:=[]) (J:=λf w'=>∀q,Ext w' q->wpO P l.toArray Q (chO l.length 0) false f q) j (by simp) u trivial λs' f w' j u _ q O X d=>Y s' f _ j (u.ext (O.trans ⟨X,d,rfl⟩))
   have M:=h4 0 (by
    rw[qS,show p+(l.length-p)=l.length by omega];exact λf w' h=>h) w' (Ext.refl _)
   rw[qS,jF]at M;exact M
  have h3:=this rfl (by rw[qo];exact List.length_take_le _ _) [] λf j=>j rfl
  rwa [zj]at h3
end Rt
namespace Rt
open Go.RowKit
section
variable{P:Program}{E:TE}{z:Fz}{g g':Ga}{w w0:World}{Bs:List Nat}{F0:Nat->Prop}{N:Nat}
theorem HR.remap{H H':Nat->Option (Obj E)}(h:HR P E Bs F0 w0 w z g H)(f:Nat->Nat)(J:∀i j o p,H' i=some o->H' j=some p->f i=f j->i=j)
  (m:∀i o',H' i=some o'->∃o,H (f i)=some o/\ObjR P E z g' w i o'/\∀k,fpO g' i o' k->fpO g (f i) o k):HR P E Bs F0 w0 w z g' H':=by
 refine⟨h.chg,λi o e => ?_,λi o k e s => ?_,λi j o p k G e e' s y => ?_,h.fz,h.fz0,λi o k e s => ?_,h.gl⟩
 .obtain⟨_,_,M,_⟩:=m i o e;exact M
 .obtain⟨q,x,_,u⟩:=m i o e;exact h.own _ q k x (u k s)
 .obtain⟨q,x,_,u⟩:=m i o e;obtain⟨F,D,_,C⟩:=m j p e';exact h.apart _ _ q F k (λO=>G (J i j o p e e' O)) x D (u k s) (C k y)
 .obtain⟨q,x,_,u⟩:=m i o e;exact h.fza _ q k x (u k s)
theorem subset_mem{l m:List Nat}(h:subset l m=true){t:Nat}(f:t∈l):aC_ t m=true:=by
 unfold subset at h;exact qf.1 h t f
theorem disj_mem{l m:List Nat}(h:disj l m=true){t:Nat}(f:t∈l):aC_ t m=false:=by
 unfold disj at h;simpa using qf.1 h t f
theorem fA_{t:Nat}:∀{l m:List Nat},aC_ t (l++m)=(aC_ t l||aC_ t m)
 | [],m=>rfl
 | u::l,m=>by
  simp only[qR,aC_];cases Nat.beq t u with
  | true=>rfl
  | false=>exact fA_
theorem RC.same{A:List Nat}{c:SC E}{v:Value}(h:RC P E z g c v)(s:∀i,aC_ i A=true->g' i=g i)(p:c.okIds A=true):RC P E z g' c v:=by
 cases c with
 | dt t x=>exact h
 | own id=>obtain⟨l,m,j⟩:=h;exact⟨l,by rw[s id p];exact m,j⟩
 | pre id n=>obtain⟨l,m,j⟩:=h;exact⟨l,by rw[s id p];exact m,j⟩
 | suf id lo=>obtain⟨l,m,j⟩:=h;exact⟨l,by rw[s id p];exact m,j⟩
 | nils=>exact h
 | ptr id off=>obtain⟨l,m,j⟩:=h;exact⟨l,by rw[s id p];exact m,j⟩
 | elo id q i off =>
  simp only[SC.okIds,qAn]at p;obtain⟨l,m,j⟩:=h;exact⟨l,by rw[s q p.2];exact m,j⟩
 | elf t x off=>exact h
 | fn1 a r f=>exact h
 | fn2 a b r f=>exact h
 | clo f caps =>
  obtain⟨us,m,j⟩:=h;refine⟨us,m,?_⟩;have:∀{caps:List Nat} {us:List Value},subset caps A=true->All2 (λid u=>∃l,g id=some l/\u=Value.pointer (some ⟨l.b,0,none⟩)) caps us->All2 (λid u=>∃l,g' id=some l/\u=Value.pointer (some ⟨l.b,0,none⟩)) caps us:=by
   intro caps us y hr
   induction hr with
   | nil=>exact .nil
   | cons D _ C =>
    obtain⟨l,G,F⟩:=D;exact .cons ⟨l,by rw[s _ (subset_mem y (qD ..))];exact G,F⟩ (C (by unfold subset at y ⊢;simp only[jY,qAn]at y;exact y.2))
  exact this p j
 | mp id=>obtain⟨l,m,j⟩:=h;exact⟨l,by rw[s id p];exact m,j⟩
 | mst q=>obtain⟨l,m,j⟩:=h;exact⟨l,by rw[s q p];exact m,j⟩
 | nilp=>exact h
 | nif=>exact h
 | sbp id=>obtain⟨l,m,j⟩:=h;exact⟨l,by rw[s id p];exact m,j⟩
 | pix id i=>obtain⟨l,m,j⟩:=h;exact⟨l,by rw[s id p];exact m,j⟩
 | efx t x i=>exact h
theorem RCs.same{A:List Nat}(p:∀i,aC_ i A=true->g' i=g i){l:List (SC E)}{vs:List Value}(h:All2 (RC P E z g) l vs):(l.all λc=>c.okIds A)=true->All2 (RC P E z g') l vs:=by
 induction h with
 | nil=>intro _;exact .nil
 | cons m _ j =>
  intro f;simp only[jY,qAn]at f;exact .cons (m.same p f.1) (j f.2)
theorem R1.same{A:List Nat}{x:V1 E}{v:Value}(h:R1 P E z g x v)(j:∀i,aC_ i A=true->g' i=g i)(f:x.okIds A=true):R1 P E z g' x v:=by
 cases x with
 | one c=>exact RC.same h j f
 | agg l=>obtain⟨vs,p,m⟩:=h;exact⟨vs,p,RCs.same j m f⟩
theorem RV.same{A:List Nat}{x:SV E}{v:Value}(h:RV P E z g x v)(m:∀i,aC_ i A=true->g' i=g i)(j:x.okIds A=true):RV P E z g' x v:=by
 cases x with
 | v x=>exact R1.same h m j
 | tup l =>
  obtain⟨vs,u,s⟩:=h;refine⟨vs,u,?_⟩;have:∀{l:List (V1 E)} {vs:List Value},(l.all λc=>c.okIds A)=true->All2 (R1 P E z g) l vs->All2 (R1 P E z g') l vs:=by
   intro l vs f hr
   induction hr with
   | nil=>exact .nil
   | cons q _ p =>
    simp only[jY,qAn]at f;exact .cons (q.same m f.1) (p f.2)
  exact this j s
theorem fpO_same{i i':Nat}{o:Obj E}{k:Nat}(f:g' i'=g i):fpO g' i' o k↔fpO g i o k:=by
 cases o<;>simp[fpO,f]
theorem ObjR.same{A:List Nat}{i:Nat}{o:Obj E}(h:ObjR P E z g w i o)(u:∀i,aC_ i A=true->g' i=g i)(hi:g' i=g i)(s:o.okIds A=true):ObjR P E z g' w i o:=by
 cases o with
 | box T cs=>obtain⟨l,vs,j,f,q⟩:=h;exact⟨l,vs,by rw[hi];exact j,f,RCs.same u q s⟩
 | row e t xs foc =>
  obtain⟨l,rows,j,f,q,D,C,y,O,M⟩:=h;refine⟨l,rows,by rw[hi];exact j,f,q,D,C,y,O,λp m => ?_⟩;obtain⟨J,lq,o,G,F⟩:=M p m;exact⟨J,lq,o,by rw[u p.1 (qf.1 s p m)];exact G,F⟩
 | fr t xs=>obtain⟨l,rows,j,f⟩:=h;exact⟨l,rows,by rw[hi];exact j,f⟩
 | fb t x=>obtain⟨l,r,j,f⟩:=h;exact⟨l,r,by rw[hi];exact j,f⟩
 | map T k v ks vs foc =>
  obtain⟨l,es,c,j,f,q,D⟩:=h;refine⟨l,es,c,by rw[hi];exact j,f,q,λp m => ?_⟩;obtain⟨lq,i,e,C,y⟩:=D p m;exact⟨lq,i,e,by rw[u p.1 (qf.1 s p m)];exact C,y⟩
def Bd.Le(a b:Bd):Prop:=∀j id,aP_ j a=some id->aP_ j b=some id
theorem Bd.Le.refl(a:Bd):Bd.Le a a:=λ_ _ h=>h
theorem Bd.Le.trans{a b c:Bd}(h:Bd.Le a b)(k:Bd.Le b c):Bd.Le a c:=λj id e=>k j id (h j id e)
theorem gR_{j id:Nat}{a b:Bd}(h:addB j id a=some b):Bd.Le a b/\aP_ j b=some id:=by
 unfold addB at h;split at h
 .rename_i id' f;split at h
  .rename_i m;obtain rfl:=qNb m;obtain rfl:=qSj h;exact⟨Bd.Le.refl _,f⟩
  .cases h
 .rename_i f;obtain rfl:=qSj h;refine⟨λp id' e => ?_,?_⟩
  .simp only[aP_];split
   .rename_i m;obtain rfl:=qNb m;rw[f]at e;cases e
   .exact e
  .simp only[aP_];have:Nat.beq j j=true:=by simp
   rw[this]
def Bound(g g':Ga)(bs:Bd):Prop:=∀j id,aP_ j bs=some id->g' j=g id
theorem es_:∀{ps:List CP} {cs:List (SC E)} {a b:Bd},bu_ ps cs a=some b->Bd.Le a b
 | [],cs,a,b,h=>by
  cases cs with
  | nil=>obtain rfl:=qSj h;exact Bd.Le.refl _
  | cons c cs=>simp[bu_]at h
 | p::ps,cs,a,b,h=>by
  unfold bu_ at h;split at h
  .rename_i f;cases f
  .rename_i f;cases f;exact es_ h
  .rename_i f;cases f
   split at h
   .rename_i j;exact(gR_ j).1.trans (es_ h)
   .cases h
  .rename_i f;cases f
   split at h
   .rename_i j;exact(gR_ j).1.trans (es_ h)
   .cases h
  .rename_i f;cases f
   split at h
   .rename_i j;exact(gR_ j).1.trans (es_ h)
   .cases h
  .rename_i f;cases f
   split at h
   .rename_i j;exact(gR_ j).1.trans (es_ h)
   .cases h
  .cases h
theorem leafC_v{H:Nat->Option (Obj E)}{t:Ty}{ps:List CP}{c:SC E}{cs:List (SC E)}{h:HL E.S (cpT (.v t::ps))}(e:ei_ H (.v t::ps) (c::cs)=some h):c.data H t=some h.1/\ei_ H ps cs=some h.2 :=
 uQ_ e
theorem leafC_own{H:Nat->Option (Obj E)}{j:Nat}{ps:List CP}{c:SC E}{cs:List (SC E)}{h:HL E.S (cpT ps)}(e:ei_ H (.own j::ps) (c::cs)=some h):ei_ H ps cs=some h:=e
theorem leafC_ptr{H:Nat->Option (Obj E)}{j:Nat}{ps:List CP}{c:SC E}{cs:List (SC E)}{h:HL E.S (cpT ps)}(e:ei_ H (.ptr j::ps) (c::cs)=some h):ei_ H ps cs=some h:=e
theorem bindC_own{j:Nat}{ps:List CP}{c:SC E}{cs:List (SC E)}{a b:Bd}(e:bu_ (.own j::ps) (c::cs) a=some b):∃id f,c = .own id/\addB j id a=some f/\bu_ ps cs f=some b:=by
 cases c with
 | own id =>
  simp only[bu_]at e;split at e
  .rename_i f h;exact⟨id,f,rfl,h,e⟩
  .cases e
 | _=>simp[bu_]at e
theorem bindC_ptr{j:Nat}{ps:List CP}{c:SC E}{cs:List (SC E)}{a b:Bd}(e:bu_ (.ptr j::ps) (c::cs) a=some b):∃id f,c = .ptr id 0/\addB j id a=some f/\bu_ ps cs f=some b:=by
 cases c with
 | ptr id off =>
  cases off with
  | zero =>
   simp only[bu_]at e;split at e
   .rename_i f h;exact⟨id,f,rfl,h,e⟩
   .cases e
  | succ n=>simp[bu_]at e
 | _=>simp[bu_]at e
theorem leafC_mp{H:Nat->Option (Obj E)}{j:Nat}{ps:List CP}{c:SC E}{cs:List (SC E)}{h:HL E.S (cpT ps)}(e:ei_ H (.mp j::ps) (c::cs)=some h):ei_ H ps cs=some h:=e
theorem bindC_mp{j:Nat}{ps:List CP}{c:SC E}{cs:List (SC E)}{a b:Bd}(e:bu_ (.mp j::ps) (c::cs) a=some b):∃id f,c = .mp id/\addB j id a=some f/\bu_ ps cs f=some b:=by
 cases c with
 | mp id =>
  simp only[bu_]at e;split at e
  .rename_i f h;exact⟨id,f,rfl,h,e⟩
  .cases e
 | _=>simp[bu_]at e
theorem leafC_sbp{H:Nat->Option (Obj E)}{j:Nat}{ps:List CP}{c:SC E}{cs:List (SC E)}{h:HL E.S (cpT ps)}(e:ei_ H (.sbp j::ps) (c::cs)=some h):ei_ H ps cs=some h:=e
theorem bindC_sbp{j:Nat}{ps:List CP}{c:SC E}{cs:List (SC E)}{a b:Bd}(e:bu_ (.sbp j::ps) (c::cs) a=some b):∃id f,c = .sbp id/\addB j id a=some f/\bu_ ps cs f=some b:=by
 cases c with
 | sbp id =>
  simp only[bu_]at e;split at e
  .rename_i f h;exact⟨id,f,rfl,h,e⟩
  .cases e
 | _=>simp[bu_]at e
theorem bindC_v{t:Ty}{ps:List CP}{c:SC E}{cs:List (SC E)}{a b:Bd}(e:bu_ (.v t::ps) (c::cs) a=some b):bu_ ps cs a=some b:=e
theorem bindC_cons{p:CP}{ps:List CP}{cs:List (SC E)}{a b:Bd}(e:bu_ (p::ps) cs a=some b):∃c cs',cs=c::cs':=by
 cases cs with
 | nil=>cases p<;>simp[bu_]at e
 | cons c cs=>exact⟨c,cs,rfl⟩
theorem qD_{H:Nat->Option (Obj E)}(Y:HR P E Bs F0 w0 w z g H){bs:Bd}(M:Bound g g' bs):∀(ps:List CP) (cs:List (SC E)) (a b:Bd) (h:HL E.S (cpT ps)) (vs:List Value),bu_ ps cs a=some b->Bd.Le b bs->ei_ H ps cs=some h->All2 (RC P E z g) cs vs->All2 (RC P E z g') (newC ps h) vs:=by
 intro ps
 induction ps with
 | nil =>
  intro cs a b h vs f _ _ O;cases cs with
  | nil=>cases O;exact .nil
  | cons c cs=>simp[bu_]at f
 | cons p ps G =>
  intro cs a b h vs f s J O;obtain⟨c,cs,rfl⟩:=bindC_cons f;obtain⟨v,vs,rfl,u,hr⟩:∃v vs',vs=v::vs'/\RC P E z g c v/\All2 (RC P E z g) cs vs':=by
   cases O with|cons u hr=>exact⟨_,_,rfl,u,hr⟩
  cases p with
  | v t =>
   obtain⟨V,U⟩:=leafC_v J;have q:=G cs a b h.2 vs (bindC_v f) s U hr;have m:RC P E z g' (.dt t h.1) v:=SC.data_ok (w:=w) Y V u;show All2 _ (SC.dt t h.1::newC ps h.2) _;exact All2.cons m q
  | own j =>
   obtain⟨id,F,rfl,y,f⟩:=bindC_own f;have q:=G cs F b h vs f s (leafC_own J) hr;obtain⟨l,m,D⟩:=u;have x:=M j id (s _ _ (es_ f _ _ (gR_ y).2));have C:RC P E z g' (.own j) v:=⟨l,by rw[x];exact m,D⟩;show All2 _ (SC.own j::newC ps h) _;exact All2.cons C q
  | ptr j =>
   obtain⟨id,F,rfl,y,f⟩:=bindC_ptr f;have q:=G cs F b h vs f s (leafC_ptr J) hr;obtain⟨l,m,D⟩:=u;have x:=M j id (s _ _ (es_ f _ _ (gR_ y).2));have C:RC P E z g' (.ptr j 0) v:=⟨l,by rw[x];exact m,D⟩;show All2 _ (SC.ptr j 0::newC ps h) _;exact All2.cons C q
  | mp j =>
   obtain⟨id,F,rfl,y,f⟩:=bindC_mp f;have q:=G cs F b h vs f s (leafC_mp J) hr;obtain⟨l,m,D⟩:=u;have x:=M j id (s _ _ (es_ f _ _ (gR_ y).2));have C:RC P E z g' (.mp j) v:=⟨l,by rw[x];exact m,D⟩;show All2 _ (SC.mp j::newC ps h) _;exact All2.cons C q
  | sbp j =>
   obtain⟨id,F,rfl,y,f⟩:=bindC_sbp f;have q:=G cs F b h vs f s (leafC_sbp J) hr;obtain⟨l,m,D⟩:=u;have x:=M j id (s _ _ (es_ f _ _ (gR_ y).2));have C:RC P E z g' (.sbp j) v:=⟨l,by rw[x];exact m,D⟩;show All2 _ (SC.sbp j::newC ps h) _;exact All2.cons C q
theorem nS_{S:Nat->Type}:∀(ts us:List Ty) (a:HL S ts) (b:HL S us),hfst ts us (hap a b)=a
 | [],_,_,_=>rfl
 | _::ts,us,(x,a),b=>by
  show(x,hfst ts us (hap a b))=_;rw[nS_ ts us a b]
theorem nT_{S:Nat->Type}:∀(ts us:List Ty) (a:HL S ts) (b:HL S us),hsnd ts us (hap a b)=b
 | [],_,_,_=>rfl
 | _::ts,us,a,b=>nT_ ts us a.2 b
theorem qE_{L:Nat->Option (SV E)}:∀{l:List (Nat×VP)} {a b:Bd},hf_ L l a=some b->Bd.Le a b
 | [],a,b,h=>by obtain rfl:=qSj h;exact Bd.Le.refl _
 | (t,.d _)::l,a,b,h=>qE_ (l:=l) h
 | (t,.one p)::l,a,b,h=>by
  simp only[hf_]at h;split at h
  .split at h
   .rename_i f;exact(es_ f).trans (qE_ h)
   .cases h
  .cases h
 | (t,.agg ps)::l,a,b,h=>by
  simp only[hf_]at h;split at h
  .split at h
   .rename_i f;exact(es_ f).trans (qE_ h)
   .cases h
  .cases h
theorem newV_ok{H:Nat->Option (Obj E)}(u:HR P E Bs F0 w0 w z g H){bs:Bd}(G:Bound g g' bs){p:VP}{x q:V1 E}{h:HL E.S p.T}{a b:Bd}{v:Value}
  (U:∀c,p = .one c->∃y,x = .one y/\bu_ [c] [y] a=some b) (M:∀ps,p = .agg ps->∃y,x = .agg y/\bu_ ps y a=some b) (J:Bd.Le b bs) (F:leafV H p x=some h) (D:newV p h=some q) (s:R1 P E z g x v):R1 P E z g' q v:=by
 cases p with
 | d ty =>
  have O:takeD E H ty x=some h.1:=m4_ F;obtain⟨y,j,f⟩:=pA_ (qp_ u O s) g';have m:asV E ty (E.cells ty h.1)=some q:=D;rw[j]at m;obtain rfl:=qSj m;exact f
 | one c =>
  obtain⟨y,rfl,m⟩:=U c rfl;have j:=qD_ u G [c] [y] a b h [v] m J F (.cons s .nil);have f:ones (newC [c] h)=some q:=D;generalize newC [c] h=l at j f;cases j with
  | cons C V =>
   cases V
   obtain rfl:=qSj f;exact C
 | agg ps =>
  obtain⟨y,rfl,m⟩:=M ps rfl;obtain⟨vs,rfl,C⟩:=s;have j:=qD_ u G ps y a b h vs m J F C;have f:some (V1.agg (newC ps h))=some q:=D;obtain rfl:=qSj f;exact⟨vs,rfl,j⟩
theorem bindS_cons{L:Nat->Option (SV E)}{t:Nat}{p:VP}{l:List (Nat×VP)}{a b:Bd}{x:V1 E}(q:L t=some (.v x))(h:hf_ L ((t,p)::l) a=some b) :
  ∃m,hf_ L l m=some b/\(∀c,p = .one c->∃y,x = .one y/\bu_ [c] [y] a=some m)/\∀ps,p = .agg ps->∃y,x = .agg y/\bu_ ps y a=some m:=by
 cases p with
 | d ty=>exact⟨a,h,(λ_ e=>nomatch e),λ_ e=>nomatch e⟩
 | one c =>
  unfold hf_ at h;rw[q]at h;cases x with
  | agg y=>cases h
  | one y =>
   cases f:bu_ [c] [y] a with
   | none=>simp only[f]at h;cases h
   | some j =>
    simp only[f]at h;exact⟨j,h,(λs e=>by injection e with e;subst e;exact⟨y,rfl,f⟩),λ_ e=>nomatch e⟩
 | agg ps =>
  unfold hf_ at h;rw[q]at h;cases x with
  | one y=>cases h
  | agg y =>
   cases f:bu_ ps y a with
   | none=>simp only[f]at h;cases h
   | some j =>
    simp only[f]at h;exact⟨j,h,(λ_ e=>nomatch e),λs e=>by injection e with e;subst e;exact⟨y,rfl,f⟩⟩
theorem leafS_cons{L:Nat->Option (SV E)}{H:Nat->Option (Obj E)}{t:Nat}{p:VP}{l:List (Nat×VP)}{h:HL E.S (fR_ ((t,p)::l))}(e:leafS L H ((t,p)::l)=some h) :
  ∃x j f,L t=some (.v x)/\leafV H p x=some j/\leafS L H l=some f/\h=hap j f:=by
 unfold leafS at e;cases m:L t with
 | none=>rw[m]at e;cases e
 | some sv =>
  cases sv with
  | tup q=>rw[m]at e;cases e
  | v x =>
   rw[m]at e;obtain⟨a,b,j,f,s⟩:=rO_ e;exact⟨x,a,b,rfl,j,f,s⟩
theorem newS_cons{t:Nat}{p:VP}{l:List (Nat×VP)}{h:HL E.S p.T}{f:HL E.S (fR_ l)}{env:List (Nat×Option (SV E))}(e:go_ ((t,p)::l) (hap h f)=some env) :
  ∃x env',newV p h=some x/\go_ l f=some env'/\env=(t,some (.v x))::env':=by
 have e':slotO t (newV p (hfst p.T (fR_ l) (hap h f))) (go_ l (hsnd p.T (fR_ l) (hap h f)))=some env:=e;rw[nS_,nT_]at e';cases j:newV p h with
 | none=>rw[j]at e';cases e'
 | some x =>
  cases m:go_ l f with
  | none=>rw[j,m]at e';cases e'
  | some env' =>
   rw[j,m]at e';exact⟨x,env',rfl,rfl,(qSj e').symm⟩
theorem slots_meet{H:Nat->Option (Obj E)}{L:Nat->Option (SV E)}(Z:HR P E Bs F0 w0 w z g H){bs:Bd}(hB:Bound g g' bs):∀(l:List (Nat×VP)) (a b:Bd) (h:HL E.S (fR_ l)) (env:List (Nat×Option (SV E))),hf_ L l a=some b->Bd.Le b bs->leafS L H l=some h->go_ l h=some env ->
  ∀t o,aP_ t env=some o->∃sv s0,o=some sv/\L t=some s0/\∀v,RV P E z g s0 v->RV P E z g' sv v:=by
 intro l
 induction l with
 | nil =>
  intro a b h env _ _ _ C t o f;have h6:some []=some env:=C;obtain rfl:=qSj h6;cases f
 | cons q l O =>
  obtain⟨t,p⟩:=q;intro a b h env h1 G h3 C M o f;obtain⟨x,y1,J,D,u,s,rfl⟩:=leafS_cons h3;obtain⟨x',env',m,j,rfl⟩:=newS_cons C;obtain⟨a',F,Y,V⟩:=bindS_cons D h1;simp only[aP_]at f;split at f
  .rename_i y;obtain rfl:=qNb y;obtain rfl:=qSj f;exact⟨_,_,rfl,D,λv U=>newV_ok Z hB Y V ((qE_ F).trans G) u m U⟩
  .exact O a' b J env' F G s j M o f
theorem focK_ok{L:Nat->Option (SV E)}{R:Type}{t:Ty}{xs:List (Den E.S t)}{r:R}:∀{fs:List (Nat×Nat)} {k:List (Nat×Int×Den E.S t)->Option R},focK L xs fs k=some r ->
  ∃l,k l=some r/\∀p∈l,∃sl id off,(p.1,sl)∈fs/\L sl=some (.v (.one (.elo id p.1 p.2.1 off)))/\an_ xs p.2.1=some p.2.2
 | [],k,h=>⟨[],h,λ_ f=>nomatch f⟩
 | (q,sl)::fs,k,h=>by
  unfold focK at h;split at h
  .rename_i id F i off s;split at h
   .rename_i m;obtain rfl:=qNb m;obtain⟨y,j,h⟩:=bind_some h;obtain⟨l,D,C⟩:=focK_ok h;refine⟨_,D,λp f => ?_⟩;rcases qW.1 f with rfl|f
    .exact⟨sl,id,off,qD ..,s,j⟩
    .obtain⟨sl',id',off',x,u⟩:=C p f;exact⟨sl',id',off',qC _ x,u⟩
   .cases h
  .cases h
def focB(o:Obj E)(keep gkeep:List Nat)(fs:List (Nat×Nat)):Bool:=match o with | .row _ _ _ foc=>fs.all λf=>(foc.any λp=>Nat.beq p.1 f.1)&&(aC_ f.2 keep&&aC_ f.1 gkeep)|_=>false
theorem obj_meet{H:Nat->Option (Obj E)}{L:Nat->Option (SV E)}{R:Type}{k:Obj E->Option R}{r:R}(hH:HR P E Bs F0 w0 w z g H){bs:Bd}(hB:Bound g g' bs){keep gkeep:List Nat}(ZS:∀i,aC_ i gkeep=true->g' i=g i)
  (hk:∀sl id q i off,aC_ sl keep=true->L sl=some (.v (.one (.elo id q i off)))->∃l,g q=some l/\l.ix=i) {p:OP} {o:Obj E} {h:HL E.S p.T} {i id:Nat} (hi:g' i=g id) (x:leafO H p o=some h) (h2:newO L p h k=some r)
  (hf:∀e t fs,p = .row e t fs->focB o keep gkeep fs=true) (hc:∀T ps,p = .cells T ps->∀T' cs,o = .box T' cs->∃a b,bu_ ps cs a=some b/\Bd.Le b bs) :
  ∃o',k o'=some r/\(ObjR P E z g w id o->ObjR P E z g' w i o')/\∀q,fpO g' i o' q->fpO g id o q:=by
 cases p with
 | box T t =>
  cases o with
  | box T' cs =>
   obtain⟨O,f⟩:=dX_ (show fi_ (Nat.beq T T') (unitO ((cy_ E H (E.flat t) cs).map (E.ufl t)))=some h from x);obtain rfl:=qNb O;have u:=m4_ f;cases hd:cy_ E H (E.flat t) cs with
   | none=>rw[hd]at u;cases u
   | some d =>
    rw[hd]at u;have V:E.ufl t d=h.1:=qSj u;refine⟨_,h2,λD => ?_,λq s => ?_⟩
    .obtain⟨l,vs,m,j,J⟩:=D;refine⟨l,vs,by rw[hi];exact m,j,?_⟩;have h8:=er_ hH hd J;have h9:d=E.fl t h.1:=by rw[←V,E.fl_ufl]
     rw[h9]at h8;exact cells_rd.1 h8
    .obtain⟨l,m,j⟩:=s;exact⟨l,by rw[←hi];exact m,j⟩
  | _=>simp[leafO]at x
 | cells T ps =>
  cases o with
  | box T' cs =>
   obtain⟨a,b,u,V⟩:=hc T ps rfl T' cs rfl;obtain⟨O,f⟩:=dX_ (show fi_ (Nat.beq T T') (ei_ H ps cs)=some h from x);obtain rfl:=qNb O;refine⟨_,h2,λD => ?_,λq s => ?_⟩
   .obtain⟨l,vs,m,j,J⟩:=D;exact⟨l,vs,by rw[hi];exact m,j,qD_ hH hB ps cs a b h vs u V f J⟩
   .obtain⟨l,m,j⟩:=s;exact⟨l,by rw[←hi];exact m,j⟩
  | _=>simp[leafO]at x
 | row e t fs =>
  cases o with
  | row e' t' xs foc =>
   obtain⟨he,f⟩:=dX_ (show fi_ (Nat.beq e e') (unitO (castO t xs))=some h from x);obtain rfl:=qNb he;obtain⟨ht,y⟩:=qu_ (m4_ f);subst ht;have y:h.1=xs:=y;obtain⟨l,u,V⟩:=focK_ok (show focK L h.1 fs (λl=>k (.row e t' h.1 l))=some r from h2);refine⟨_,u,λD => ?_,λq s => ?_⟩
   .obtain⟨lo,rows,m,hn,ZQ,j,J,h8,U,ZJ⟩:=D;rw[←y]at hn U;refine⟨lo,rows,by rw[hi];exact m,hn,ZQ,j,J,h8,U,λp hp => ?_⟩;obtain⟨sl,id',off,ZK,ZL,ZM⟩:=V p hp;refine⟨ZM,?_⟩;have ZR:=hf e t' fs rfl;have M:=qf.1 ZR _ ZK;simp only[qAn,zf]at M;obtain⟨⟨p0,ZV,hb⟩,G,ZU⟩:=M;have s:=qNb hb;obtain⟨_,lq,oo,ZZ,ZN,ZO,ZP⟩:=ZJ p0 ZV;obtain⟨l2,Z,Y⟩:=hk _ _ _ _ _ G ZL;rw[s,Z]at ZZ;obtain rfl:=qSj ZZ;have ZT:p0.2.1=p.2.1:=by rw[←ZP,Y]
    exact⟨l2,oo,by rw[ZS _ ZU];exact Z,ZN,by rw[←ZT];exact ZO,Y⟩
   .obtain⟨l,a,m,j⟩:=s;exact⟨l,a,by rw[←hi];exact m,j⟩
  | _=>simp[leafO]at x
 | map T kt vt =>
  cases o with
  | map T' kt' vt' ks vs foc =>
   obtain⟨O,f⟩:=dX_ (show fi_ (Nat.beq T T') (pairO (castO kt ks) (unitO (castO vt vs)))=some h from x);obtain rfl:=qNb O;obtain⟨G,ZY⟩:=uQ_ f;obtain⟨ZW,F⟩:=qu_ G;obtain⟨ZX,C⟩:=qu_ (m4_ ZY);subst ZW;subst ZX;have F:h.1=ks:=F;have C:h.2.1=vs:=C;refine⟨_,h2,λD => ?_,λq s => ?_⟩
   .obtain⟨l,es,c,m,j,J,_⟩:=D;refine⟨l,es,c,by rw[hi];exact m,j,?_,λp hp=>nomatch hp⟩;rw[F,C];exact J
   .obtain⟨l,m,j⟩:=s;exact⟨l,by rw[←hi];exact m,j⟩
  | _=>simp[leafO]at x
theorem uX_{H:Nat->Option (Obj E)}{j:Nat}{sf:Bool}{p:OP}{l:List (Nat×Bool×OP)}{a b:Bd}(h:kc_ H ((j,sf,p)::l) a=some b) :
  ∃f a2,Bd.Le a f/\Bd.Le f a2/\(sf=true->aP_ j f=some j)/\kc_ H l a2=some b/\∀T ps,p = .cells T ps->∃id T' cs,aP_ j f=some id/\H id=some (.box T' cs)/\bu_ ps cs f=some a2:=by
 have first:∃f,selfB sf j a=some f/\Bd.Le a f/\(sf=true->aP_ j f=some j):=by
  cases sf with
  | false=>exact⟨a,rfl,Bd.Le.refl a,λe=>nomatch e⟩
  | true =>
   cases s:addB j j a with
   | none =>
    unfold kc_ selfB at h;simp only[s]at h;cases h
   | some f=>exact⟨f,s,(gR_ s).1,λ_=>(gR_ s).2⟩
 obtain⟨f,D,x,u⟩:=first;unfold kc_ at h;rw[D]at h;simp only at h;cases p with
 | box T t=>exact⟨f,f,x,Bd.Le.refl f,u,h,λ_ _ e=>nomatch e⟩
 | row e t fs=>exact⟨f,f,x,Bd.Le.refl f,u,h,λ_ _ e=>nomatch e⟩
 | map T k v=>exact⟨f,f,x,Bd.Le.refl f,u,h,λ_ _ e=>nomatch e⟩
 | cells T ps =>
  simp only at h;cases y:aP_ j f with
  | none=>simp only[y]at h;cases h
  | some id =>
   simp only[y]at h;cases m:H id with
   | none=>simp only[m]at h;cases h
   | some o =>
    cases o with
    | box T' cs =>
     simp only[m]at h;cases q:bu_ ps cs f with
     | none=>simp only[q]at h;cases h
     | some a2 =>
      simp only[q]at h;exact⟨f,a2,x,es_ q,u,h,λJ C e=>by injection e with G F;subst F;exact⟨id,T',cs,y,m,q⟩⟩
    | _=>simp only[m]at h;cases h
theorem qF_{H:Nat->Option (Obj E)}:∀{l:List (Nat×Bool×OP)} {a b:Bd},kc_ H l a=some b->Bd.Le a b/\∀j,j∈selfs l->aP_ j b=some j
 | [],a,b,h=>by obtain rfl:=qSj h;exact⟨Bd.Le.refl _,λ_ s=>nomatch s⟩
 | (j,sf,p)::l,a,b,h=>by
  obtain⟨C,a2,y,q,x,u,_⟩:=uX_ h;obtain⟨m,f⟩:=qF_ u;refine⟨(y.trans q).trans m,λi hi => ?_⟩;cases sf with
  | false=>exact f i hi
  | true =>
   rcases qW.1 hi with rfl|hi
   .exact(q.trans m) _ _ (x rfl)
   .exact f i hi
theorem leafOs_cons{H:Nat->Option (Obj E)}{bs:Bd}{j:Nat}{sf:Bool}{p:OP}{l:List (Nat×Bool×OP)}{h:HL E.S (i3_ ((j,sf,p)::l))}(e:nR_ H bs ((j,sf,p)::l)=some h) :
  ∃id o m f,aP_ j bs=some id/\H id=some o/\leafO H p o=some m/\nR_ H bs l=some f/\h=hap m f:=by
 unfold nR_ at e;cases s:aP_ j bs with
 | none=>rw[s]at e;cases e
 | some id =>
  rw[s]at e;cases q:H id with
  | none=>simp only[q]at e;cases e
  | some o =>
   simp only[q]at e;obtain⟨a,b,m,f,u⟩:=rO_ e;exact⟨id,o,a,b,rfl,q,m,f,u⟩
theorem objs_meet{H:Nat->Option (Obj E)}{L:Nat->Option (SV E)}{R:Type}{r:R}(hH:HR P E Bs F0 w0 w z g H){bs:Bd}(hB:Bound g g' bs){keep gkeep:List Nat}(V:∀i,aC_ i gkeep=true->g' i=g i)
  (hk:∀sl id q i off,aC_ sl keep=true->L sl=some (.v (.one (.elo id q i off)))->∃l,g q=some l/\l.ix=i):∀(l:List (Nat×Bool×OP)) (a b:Bd) (h:HL E.S (i3_ l)) (k:Chs E->Option R),
  kc_ H l a=some b->Bd.Le b bs->nR_ H bs l=some h->focOK H bs keep gkeep l=true->newOs L l h k=some r ->
  ∃u,k u=some r/\∀i o',(i,o')∈u->∃id o p,aP_ i bs=some id/\H id=some o/\o'=some p/\(ObjR P E z g w id o->ObjR P E z g' w i p)/\∀q,fpO g' i p q->fpO g id o q:=by
 intro l
 induction l with
 | nil=>intro a b h k _ _ _ _ h5;exact⟨[],h5,λ_ _ hm=>nomatch hm⟩
 | cons q l ih =>
  obtain⟨j,sf,p⟩:=q;intro a b h k h1 h2 h3 D h5;obtain⟨id,o,y1,J,G,M,U,O,rfl⟩:=leafOs_cons h3;obtain⟨a1,a2,ZX,Z,_,hb,y⟩:=uX_ h1;have h6:newO L p (hfst p.T (i3_ l) (hap y1 J)) (λo=>newOs L l (hsnd p.T (i3_ l) (hap y1 J)) λu=>k ((j,some o)::u))=some r:=h5;rw[nS_,nT_]at h6;have s:focOK H bs keep gkeep l=true/\∀e t fs,p = .row e t fs->focB o keep gkeep fs=true:=by
   cases p with
   | row e t fs =>
    unfold focOK at D;simp only[G,M,qAn]at D;refine⟨D.2,λe2 t2 ZW x => ?_⟩;injection x with _ _ x;subst x;unfold focB;cases o<;>first|exact D.1|cases D.1
   | _=>exact⟨D,λ_ _ _ x=>nomatch x⟩
  have m:Bd.Le a2 bs:=(qF_ hb).1.trans h2;obtain⟨o',h7,h8,h9⟩:=obj_meet hH hB V hk (hB j id G) U h6 s.2 λT ps hp T' cs Y=>by
   obtain⟨ZY,T2,ZV,C,f,ZZ⟩:=y T ps hp;have F:=m _ _ (Z _ _ C);rw[G]at F;obtain rfl:=qSj F;rw[M,Y]at f;injection f with f;injection f with _ f;subst f;exact⟨a1,a2,ZZ,m⟩
  obtain⟨u,C,f⟩:=ih a2 b J _ hb h2 O s.1 h7;refine⟨_,C,λi o2 hm => ?_⟩;rcases qW.1 hm with x|hm
  .injection x with e1 e2;subst e1;subst e2;exact⟨id,o,o',G,M,rfl,h8,h9⟩
  .exact f i o2 hm
theorem St.L_cons{b:Ba E}{s:St E}{t f:Nat}{v:Option (SV E)}:St.L b { s with env:=(t,v)::s.env } f=if f=t then v else s.L b f:=by
 unfold St.L;simp only[aP_];by_cases h:f=t
 .subst h;have:Nat.beq f f=true:=by simp
  rw[this,qV rfl]
 .have:Nat.beq f t=false:=by
   cases j:Nat.beq f t with
   | false=>rfl
   | true=>exact absurd (qNb j) h
  rw[this,qX h]
theorem prepS_ok{F0:Org}{b:Ba E}{s:St E}{objs:List (Nat×Bool×OP)}{p:Nat×VP}{a:Act}(h:Rel P E Bs F0 w0 N (s.L b) (s.H b) s.nx a w):Rel P E Bs F0 w0 N ((prepS b s objs p).L b) ((prepS b s objs p).H b) (prepS b s objs p).nx a w:=by
 unfold prepS;split
 .rename_i t j;split
  .rename_i e ty V ZZ;obtain⟨z,g,C,U,G,f,y⟩:=h;refine⟨z,g.put s.nx ⟨none,0,0,E.size ty,0,0⟩,⟨C.size,C.defers,λO u hu => ?_⟩,?_,G.put _,f,y.trans (Ga.le_put G.self)⟩
   .have M:(if O=t then some (SV.v (.one (.own s.nx)))else s.L b O)=some u:=by rw[←hu];exact(St.L_cons (s:={ s with heap:=(s.nx,some (.row e ty [] []))::s.heap,nx:=s.nx+1 })).symm
    split at M
    .rename_i Z;subst Z;obtain rfl:=qSj M;obtain⟨v,F,D⟩:=C.get _ _ V;have h3:v = .slice none 0 0:=D;exact⟨v,F,_,Ga.put_self _ _ _,h3⟩
    .obtain⟨v,F,D⟩:=C.get _ _ M;exact⟨v,F,D.le (Fz.Le.refl z) (Ga.le_put G.self)⟩
   .have:=U.row_new (e:=e) (t:=ty) (xs:=[]) (A:=none) (cap:=0) (n:=0) (rows:=[]) G (Ext.refl w) rfl ⟨by simp,.inl ⟨rfl,rfl⟩⟩ rfl (λi x r F _=>by simp at F) (λq ⟨a,ha,_⟩=>nomatch ha);exact this
  .exact h
 .rename_i t ty;split
  .rename_i x V;obtain⟨z,g,C,U,G,f,y⟩:=h;obtain⟨z',F,D⟩:=eh_ U x.cs;refine⟨z',g,C.le F (Ga.Le.refl g),?_,G,f.trans F,y⟩;unfold St.H at D ⊢;rw[aV_]at D;exact D
  .exact h
 .rename_i t ps;split
  .rename_i cs V;obtain⟨z,g,C,U,G,f,y⟩:=h;obtain⟨l,u,m,g',F,D,h3,h4,h5,_,_⟩:=jv_ (wantC objs ps) cs U G;rw[F];refine⟨z,g',⟨C.size,C.defers,λO x hx => ?_⟩,?_,h3,f,y.trans D⟩
   .have J:(if O=t then some (SV.v (.agg l))else s.L b O)=some x:=by rw[←hx];exact(St.L_cons (s:={ s with heap:=u++s.heap,nx:=m })).symm
    split at J
    .rename_i Z;subst Z;obtain rfl:=qSj J;obtain⟨v,k1,Y⟩:=C.get _ _ V;obtain⟨vs,k3,k4⟩:=Y;exact⟨v,k1,vs,k3,h5 z g' vs (Ga.Le.refl g') (k4.mono λ_ _ h=>RC.le h (Fz.Le.refl z) D)⟩
    .obtain⟨v,k1,Y⟩:=C.get _ _ J;exact⟨v,k1,Y.le (Fz.Le.refl z) D⟩
   .unfold St.H at h4 ⊢;rw[aV_]at h4;exact h4
  .exact h
 .exact h
theorem prepL_ok{F0:Org}{b:Ba E}{objs:List (Nat×Bool×OP)}{a:Act}:∀{l:List (Nat×VP)} {s:St E},Rel P E Bs F0 w0 N (s.L b) (s.H b) s.nx a w->Rel P E Bs F0 w0 N ((lC_ b objs l s).L b) ((lC_ b objs l s).H b) (lC_ b objs l s).nx a w
 | [],_,h=>h
 | p::l,s,h=>prepL_ok (l:=l) (s:=prepS b s objs p) (prepS_ok h)
theorem frzC_ok{F0:Org}{b:Ba E}{s:St E}{a:Act}(cs:List (SC E))(h:Rel P E Bs F0 w0 N (s.L b) (s.H b) s.nx a w):Rel P E Bs F0 w0 N ((frzC b s cs).L b) ((frzC b s cs).H b) (frzC b s cs).nx a w:=by
 obtain⟨z,g,x,u,q,f,j⟩:=h;obtain⟨z',p,m⟩:=eh_ u cs;refine⟨z',g,x.le p (Ga.Le.refl g),?_,q,f.trans p,j⟩;unfold frzC;unfold St.H at m ⊢;rw[aV_]at m;exact m
theorem frzS_ok{F0:Org}{b:Ba E}{a:Act}:∀{l:List (Nat×VP)} {s:St E},Rel P E Bs F0 w0 N (s.L b) (s.H b) s.nx a w->Rel P E Bs F0 w0 N ((frzS b l s).L b) ((frzS b l s).H b) (frzS b l s).nx a w
 | [],_,h=>h
 | p::l,s,h=>by
  refine frzS_ok (l:=l) (s:=frzS1 b s p) ?_;unfold frzS1;split
  .split
   .exact frzC_ok _ h
   .exact h
  .exact h
theorem frzOs_ok{F0:Org}{b:Ba E}{a:Act}:∀{l:List (Nat×Bool×OP)} {s:St E},Rel P E Bs F0 w0 N (s.L b) (s.H b) s.nx a w->Rel P E Bs F0 w0 N ((frzOs b l s).L b) ((frzOs b l s).H b) (frzOs b l s).nx a w
 | [],_,h=>h
 | p::l,s,h=>by
  refine frzOs_ok (l:=l) (s:=frzO1 b s p) ?_;unfold frzO1;split
  .split
   .exact frzC_ok _ h
   .exact h
  .split
   .exact frzC_ok _ h
   .exact h
  .exact h
theorem prepO1_ok{F0:Org}{b:Ba E}{s:St E}{objs:List (Nat×Bool×OP)}{p:Nat×Bool×OP}{a:Act}(h:Rel P E Bs F0 w0 N (s.L b) (s.H b) s.nx a w):Rel P E Bs F0 w0 N ((pE_ b objs s p).L b) ((pE_ b objs s p).H b) (pE_ b objs s p).nx a w:=by
 unfold pE_;split
 .rename_i j T' ps;split
  .rename_i T cs hi;obtain⟨z,g,F,M,J,y,D⟩:=h;obtain⟨l,u,m,g',h1,O,h3,h4,h5,h6,h7⟩:=jv_ (wantC objs ps) cs M J;rw[h1];obtain⟨lo,G⟩:=(M.hold _ _ hi).loc;have hj:j<s.nx:=by
    rcases qN j s.nx with f|f
    .exact f
    .rw[J j f]at G;cases G
   have C:upH (s.H b) u j=some (.box T cs):=(upH_far (λi o h=>(h6 i o h).1) hj).trans hi;have f:=h4.up (Ga.Le.refl g') C (o2 := .box T l) (λz w Z=>by
    obtain⟨lo',vs,k1,q,V⟩:=Z;exact⟨lo',vs,k1,q,h5 z g' vs (Ga.Le.refl g') V⟩) (λk=>Iff.rfl)
   refine⟨z,g',⟨F.size,F.defers,λU x Y => ?_⟩,?_,h3,y,D.trans O⟩
   .obtain⟨v,k1,q⟩:=F.get U x Y;exact⟨v,k1,q.le (Fz.Le.refl z) O⟩
   .unfold St.H at f ⊢;rw[aV_,aV_]at f;exact f
  .exact h
 .exact h
theorem prepO_ok{F0:Org}{b:Ba E}{objs:List (Nat×Bool×OP)}{a:Act}:∀{l:List (Nat×Bool×OP)} {s:St E},Rel P E Bs F0 w0 N (s.L b) (s.H b) s.nx a w->Rel P E Bs F0 w0 N ((lD_ b objs l s).L b) ((lD_ b objs l s).H b) (lD_ b objs l s).nx a w
 | [],_,h=>h
 | p::l,s,h=>prepO_ok (l:=l) (s:=pE_ b objs s p) (prepO1_ok h)
theorem prepLO_ok{F0:Org}{b:Ba E}{objs l2:List (Nat×Bool×OP)}{a:Act}{l:List (Nat×VP)}{s:St E}(h:Rel P E Bs F0 w0 N (s.L b) (s.H b) s.nx a w):Rel P E Bs F0 w0 N ((lD_ b objs l2 (lC_ b objs l s)).L b) ((lD_ b objs l2 (lC_ b objs l s)).H b) (lD_ b objs l2 (lC_ b objs l s)).nx a w :=
 prepO_ok (prepL_ok h)
theorem prepRs_ok{z:Fz}:∀(rs:Rs) (xs:List (V1 E)) {n:Nat} {g:Ga} {H:Nat->Option (Obj E)},HR P E Bs F0 w0 w z g H->Fresh g n ->
  ∃xs' u n' g',(∀{α:Type} (k:List (V1 E)->Chs E->Nat->α),prepRs E rs xs n k=k xs' u n')/\g.Le g'/\Fresh g' n'/\HR P E Bs F0 w0 w z g' (upH H u)/\(∀z s vs,g'.Le s->All2 (R1 P E z s) xs vs->All2 (R1 P E z s) xs' vs)/\(∀i o,(i,o)∈u->n<=i)/\n<=n'
 | [],xs,n,g,H,q,j=>⟨xs,[],n,g,(λk=>by cases xs<;>rfl),Ga.Le.refl g,j,q,(λ_ _ _ _ h=>h),(λ_ _ h=>nomatch h),qA _⟩
 | p::rs,[],n,g,H,q,j=>⟨[],[],n,g,(λk=>rfl),Ga.Le.refl g,j,q,(λ_ _ _ _ h=>h),(λ_ _ h=>nomatch h),qA _⟩
 | (t,m)::rs,x::xs,n,g,H,q,j=>by
  obtain⟨F,u,n1,g1,h1,h2,h3,h4,h5,h6,h7,_⟩:=prepV_ok t m x q j;obtain⟨xs',G,J,s,k1,y,V,U,O,M,k7⟩:=prepRs_ok rs xs h4 h3;refine⟨F::xs',G++u,J,s,(λk => ?_),h2.trans y,V,by rw[←aV_];exact U,(λz D vs C Z => ?_),(λi o f => ?_),by omega⟩
  .simp only[prepRs];exact(h1 _).trans (k1 _)
  .cases Z with
   | cons Y hr=>exact .cons (h5 z D _ (y.trans C) Y) (O z D _ C hr)
  .rcases qY.1 f with f|f
   .have:=M i o f;omega
   .exact(h6 i o f).1
end
section
variable{P:Program}{E:TE}{w w0:World}{Bs:List Nat}{F0:Org}{N:Nat}
theorem hy_{α:Type}{t:Nat}{v:α}:∀{l:List (Nat×α)},aP_ t l=some v->(t,v)∈l
 | [],h=>by cases h
 | (u,x)::l,h=>by
  simp only[aP_]at h;split at h
  .rename_i f;obtain rfl:=qNb f;obtain rfl:=qSj h;exact qD ..
  .exact qC _ (hy_ h)
theorem rT_{α:Type}{t:Nat}{K:List Nat}:∀{l:List (Nat×α)},aP_ t (filtK K l)=match aC_ t K with|true=>aP_ t l|false=>none
 | []=>by cases aC_ t K<;>rfl
 | (u,x)::l=>by
  have f:=rT_ (t:=t) (K:=K) (l:=l);unfold filtK at f ⊢;simp only[zZ];cases h:Nat.beq t u with
  | true =>
   obtain rfl:=qNb h;cases hm:aC_ t K with
   | true =>
    simp only[jB,aP_];have:Nat.beq t t=true:=by simp
    rw[this]
   | false =>
    rw[hm]at f;simp only[qu,jJ];exact f
  | false =>
   have:aP_ t ((u,x)::l)=aP_ t l:=by simp only[aP_,h]
   rw[this];split
   .simp only[aP_,h];exact f
   .exact f
theorem th_{K:List Nat}{vis:Option (List Nat)}{t:Nat}:seen (some (K.filter (seen vis))) t=(aC_ t K&&seen vis t):=by
 show aC_ t (K.filter (seen vis))=_
 induction K with
 | nil=>rfl
 | cons u K f =>
  simp only[zZ,aC_];cases j:Nat.beq t u with
  | true =>
   obtain rfl:=qNb j;cases h:seen vis t with
   | true=>simp[aC_]
   | false =>
    rw[h,Bool.and_false]at f;simp[f]
  | false =>
   cases h:seen vis u with
   | true=>simp[aC_,j,f]
   | false=>simp[f]
theorem goS_L{j:JP}{b:Ba E}{s:St E}{env:List (Nat×Option (SV E))}{u:Chs E}{t:Nat}{x:SV E}(h:(j.goS s env u).L b t=some x):aP_ t env=some (some x)\/(aC_ t j.keep=true/\s.L b t=some x):=by
 unfold JP.goS St.L at h;simp only[iN_,rT_,th_]at h;cases f:aP_ t env with
 | some v=>rw[f]at h;simp only at h;subst h;exact .inl rfl
 | none =>
  rw[f]at h;cases hm:aC_ t j.keep with
  | false=>rw[hm]at h;simp at h
  | true =>
   rw[hm]at h;refine .inr ⟨rfl,?_⟩;unfold St.L;simpa using h
theorem goS_H{j:JP}{b:Ba E}{s:St E}{env:List (Nat×Option (SV E))}{u:Chs E}{i:Nat}{o:Obj E}(h:(j.goS s env u).H b i=some o):(i,some o)∈u\/(aC_ i j.hkeep=true/\s.H b i=some o):=by
 unfold JP.goS St.H at h;simp only[lc_,iN_,rT_,th_]at h;cases f:aP_ i u with
 | some v=>rw[f]at h;simp only at h;subst h;exact .inl (hy_ f)
 | none =>
  rw[f]at h;cases hm:aC_ i j.hkeep with
  | false=>rw[hm]at h;simp at h
  | true =>
   rw[hm]at h;refine .inr ⟨rfl,?_⟩;unfold St.H;rw[lc_];simpa using h
theorem JP.mt_some{j:JP}{b:Ba E}{s0:St E}{h:HL E.S j.T}(e:j.mt b s0=some h):∃s f bs q u,s=lD_ b j.objs j.objs (lC_ b j.objs j.slots (frzOs b j.objs (frzS b j.slots s0)))/\hf_ (s.L b) j.slots []=some f/\kc_ (s.H b) j.objs f=some bs /\
  j.mtB b.lo s bs=true/\focOK (s.H b) bs j.keep j.gkeep j.objs=true/\leafS (s.L b) (s.H b) j.slots=some q/\nR_ (s.H b) bs j.objs=some u/\h=hap q u:=by
 unfold JP.mt at e;generalize F:lD_ b j.objs j.objs (lC_ b j.objs j.slots (frzOs b j.objs (frzS b j.slots s0)))=s at e;simp only at e;cases p:hf_ (s.L b) j.slots []with
 | none=>rw[p]at e;cases e
 | some f =>
  rw[p]at e;simp only at e;cases m:kc_ (s.H b) j.objs f with
  | none=>rw[m]at e;cases e
  | some bs =>
   rw[m]at e;obtain⟨q,u⟩:=dX_ e;obtain⟨D,a2,C,y,x⟩:=rO_ u;simp only[qAn]at q;exact⟨s,f,bs,D,a2,rfl,p,m,q.1,q.2,C,y,x⟩
theorem uY_{α:Type}{i:Nat}{l:List (Nat×α)}(h:noKey i l=true):aP_ i l=none:=by
 unfold noKey at h;split at h
 .assumption
 .cases h
theorem bd_one{bs:Bd}(h:nodupB (bs.map (·.2))=true){i j id:Nat}(hi:aP_ i bs=some id)(p:aP_ j bs=some id):i=j:=by
 obtain⟨n,f⟩:=List.getElem?_of_mem (hy_ hi);obtain⟨m,hm⟩:=List.getElem?_of_mem (hy_ p);have s:(bs.map (·.2))[n]? = some id:=by rw[qm,f];rfl
 have q:(bs.map (·.2))[m]? = some id:=by rw[qm,hm];rfl
 have:=rI_ h s q;subst this;rw[f]at hm;have:=qSj hm;exact qH Prod.fst this
def lF_(g:Ga)(lo:Nat)(K:List Nat)(bs:Bd):Ga:=λi=>match aC_ i K||Nat.blt i lo with
 | true=>g i
 | false=>match aP_ i bs with
  | some id=>g id
  | none=>none
theorem JP.ok {j:JP} {b:Ba E} {s s0:St E} {h:HL E.S j.T} {a:Act} {R:Type} {k:St E->Option R} {r:R} (ZH:Fresh F0.g b.lo) (hm:j.mt (s.base b) s0=some h) (hR:Rel P E Bs F0 w0 N (s0.L (s.base b)) (s0.H (s.base b)) s0.nx a w) (J:j.go b s h k=some r) :
  ∃s',k s'=some r/\Rel P E Bs F0 w0 N (s'.L b) (s'.H b) s'.nx a w:=by
 obtain⟨s1,ZR,bs,h1,h2,ZO,Zw,ZX,hB,ZT,ZF,ZG,rfl⟩:=JP.mt_some hm;have ZS:=prepLO_ok (objs:=j.objs) (l2:=j.objs) (l:=j.slots) (frzOs_ok (l:=j.objs) (frzS_ok (l:=j.slots) hR));rw[←ZO]at ZS;obtain⟨z,g,hE,hH,hf,ZQ,ZB⟩:=ZS;unfold JP.mtB at hB;simp only[qAn]at hB;obtain⟨⟨⟨ZI,Y⟩,ZD⟩,ZE,ZL,Zy,ZA,ZJ,ZK⟩:=hB;unfold JP.go at J;rw[nS_]at J;cases Z:go_ j.slots h1 with
 | none=>rw[Z]at J;cases J
 | some env =>
  rw[Z]at J;simp only at J;obtain⟨ZY,J⟩:=dX_ J;rw[nT_]at J;unfold JP.goB at ZY;simp only[qAn]at ZY;obtain⟨ZM,ZN⟩:=ZY
  -- the new places
  have keyIn:∀i id,aP_ i bs=some id->aC_ i (j.hkeep++j.gkeep)=false:=λi id e=>disj_mem ZA (zQ.2 ⟨_,hy_ e,rfl⟩)
  have f:Bound g (lF_ g b.lo (j.hkeep++j.gkeep) bs) bs:=λi id e=>by
   unfold lF_;rw[keyIn i id e,jZ];split
   .rename_i hb;have M:=qf.1 Y _ (hy_ e);simp only[qP]at M;rcases M with M|M
    .have Zu:=qx M;have Zr:i<b.lo:=by simpa using hb
     have:b.lo<=i:=Zu;omega
    .rw[qNb M]
   .rw[e]
  have D:∀i,aC_ i (j.hkeep++j.gkeep)=true->lF_ g b.lo (j.hkeep++j.gkeep) bs i=g i:=λi e=>by
   unfold lF_;rw[e,Bool.true_or]
  have ZU:∀i,aC_ i j.gkeep=true->lF_ g b.lo (j.hkeep++j.gkeep) bs i=g i:=λi e=>D i (by rw[fA_,e,Bool.or_true])
  have ZZ:∀i,aC_ i j.hkeep=true->lF_ g b.lo (j.hkeep++j.gkeep) bs i=g i:=λi e=>D i (by rw[fA_,e,Bool.true_or])
  have hA:∀i,aC_ i (j.hkeep++(j.gkeep++selfs j.objs))=true->lF_ g b.lo (j.hkeep++j.gkeep) bs i=g i:=λi e=>by
   rw[fA_,fA_]at e;simp only[qP]at e;rcases e with e|e|e
   .exact ZZ i e
   .exact ZU i e
   .exact f i i ((qF_ ZX).2 i (memN_true.1 e))
  have keepL:∀t,aC_ t j.keep=true->s1.L (s.base b) t=s.L b t:=λt ht=>by
   have:=qf.1 ZD t (memN_true.1 ht);simp only[qAn]at this;unfold St.L;rw[uY_ this.1,this.2];rfl
  have keepH:∀i,aC_ i j.hkeep=true->s1.H (s.base b) i=s.H b i:=λi hi=>by
   have:=qf.1 ZE i (memN_true.1 hi);simp only[qAn]at this;unfold St.H;rw[lc_,uY_ this.1,this.2];rfl
  obtain⟨u,hu,U⟩:=objs_meet hH f ZU (L:=s.L b) (keep:=j.keep) (λsl id q i off ZP hL=>by
   rw[←keepL sl ZP]at hL;obtain⟨v,_,hv⟩:=hE.get sl _ hL;obtain⟨l,m,G,_⟩:=hv;exact⟨l,m,G⟩) j.objs ZR bs h2 _ ZX (Bd.Le.refl bs) ZG ZT J
  refine⟨_,hu,z,lF_ g b.lo (j.hkeep++j.gkeep) bs,⟨hE.size,hE.defers,λt x hx => ?_⟩,?_,λi hi => ?_,ZQ,λi l hl => ?_⟩
  .rcases goS_L hx with hx|⟨V,hx⟩
   .obtain⟨sv,s2,m,G,h5⟩:=slots_meet hH f j.slots [] ZR h1 env Zw (qF_ ZX).1 ZF Z t _ hx;obtain rfl:=qSj m;obtain⟨v,h6,h7⟩:=hE.get t _ G;exact⟨v,h6,h5 v h7⟩
   .have ZW:=hx;rw[←keepL t V]at ZW;obtain⟨v,h6,h7⟩:=hE.get t _ ZW;have h8:=qf.1 ZM t (memN_true.1 V);rw[hx]at h8;exact⟨v,h6,h7.same hA h8⟩
  .refine hH.remap (λi=>match aC_ i j.hkeep with|true=>i|false=>(aP_ i bs).getD i) (λi i' o o' e e' y => ?_) λi o' e => ?_
   .have kind:∀i o,(j.goS s env u).H b i=some o->aC_ i j.hkeep=true\/(aC_ i j.hkeep=false/\∃id,aP_ i bs=some id):=λi o e=>by
     rcases goS_H e with e|⟨e,_⟩
     .obtain⟨id,_,_,m,_⟩:=U i _ e;have:=keyIn i id m;rw[fA_,qh]at this;exact .inr ⟨this.1,id,m⟩
     .exact .inl e
    have far:∀i id,aP_ i bs=some id->aC_ id j.hkeep=false:=λi id e=>disj_mem Zy (zQ.2 ⟨_,hy_ e,rfl⟩)
    rcases kind i o e with m|⟨m,id,G⟩<;>rcases kind i' o' e' with C|⟨C,id',O⟩
    .simpa[m,C]using y
    .simp only[m,C,O,zw]at y;subst y;rw[far i' _ O]at m;cases m
    .simp only[m,C,G,zw]at y;subst y;rw[far i _ G]at C;cases C
    .simp only[m,C,G,O,zw]at y;subst y;exact bd_one ZL G O
   .rcases goS_H e with e|⟨V,e⟩
    .obtain⟨id,o,p,m,G,h5,h6,h7⟩:=U i _ e;obtain rfl:=qSj h5;have:=keyIn i id m;rw[fA_,qh]at this;simp only[this.1,m,zw];exact⟨o,G,h6 (hH.hold _ _ G),h7⟩
    .simp only[V];have e2:=e;rw[←keepH i V]at e2;have h8:=qf.1 ZN i (memN_true.1 V);rw[e]at h8;exact⟨o',e2,(hH.hold _ _ e2).same hA (ZZ i V) h8,λq hq=>(fpO_same (ZZ i V)).1 hq⟩
  .have ZC :  j.nx<=i:=hi;unfold lF_;have Zs:b.lo<=i:=qk (qx ZI) ZC;have F:Nat.blt i b.lo=false:=by
    cases hb:Nat.blt i b.lo with
    | false=>rfl
    | true => have:i<b.lo:=by simpa using hb
              omega
   rw[F,Bool.or_false];cases ZV:aC_ i (j.hkeep++j.gkeep)with
   | true =>
    have:=qf.1 ZK i (memN_true.1 ZV);have:i<j.nx:=by simpa using this
    omega
   | false =>
    cases Zv:aP_ i bs with
    | none=>rfl
    | some id =>
     have:=qf.1 ZJ _ (hy_ Zv);have:i<j.nx:=by simpa using this
     omega
  .have F:Nat.blt i b.lo=true:=by
    rcases qN i b.lo with M|M
    .simpa using M
    .rw[ZH i M]at hl;cases hl
   unfold lF_;rw[F,Bool.or_true];exact ZB i l hl
end
section
variable{P:Program}{E:TE}{eqs:List (Nat×Nat)}{tab:Tab E}{N:Nat}{Bs:List Nat}{F0:Org}{w0:World}{RT:Type}{rv:Ba E->St E->Option RT}{Qr:RT->Act->World->Prop}
def nU_:Option Nat->Exit|none => .normal|some i => .exit i
def gH_(P:Program)(E:TE)(eqs:List (Nat×Nat))(tab:Tab E)(N:Nat)(Bs:List Nat)(F0:Org)(w0:World)(RT:Type)(rv:Ba E->St E->Option RT)(Qr:RT->Act->World->Prop)(c:Code):Prop :=
 ∀(pl:Pl) (R:Type) (b:Ba E) (s:St E) (k:Option Nat->St E->Option R) (kr:RT->Option R) (r:R) (a:Act) (w:World) (Q:Exit->Act->World->Prop),
  Fresh F0.g b.lo->evCode P E eqs tab N RT rv c pl R b s k kr=some r->Rel P E Bs F0 w0 N (s.L b) (s.H b) s.nx a w ->
  (∀ex s' f w',k ex s'=some r->Rel P E Bs F0 w0 N (s'.L b) (s'.H b) s'.nx f w'->Q (nU_ ex) f w') ->
  (∀y f w',kr y=some r->Qr y f w'->Q .ret f w')->c.wp P Q a w
theorem jy_{x y:Code}{pl pl':Pl}{R:Type}{b:Ba E}{s:St E}{k:Option Nat->St E->Option R}{kr:RT->Option R}{r:R}{a:Act}{w:World}{Q:Exit->Act->World->Prop}
  (j:Fresh F0.g b.lo) (F:gH_ P E eqs tab N Bs F0 w0 RT rv Qr x) (D:gH_ P E eqs tab N Bs F0 w0 RT rv Qr y)
  (h:evCode P E eqs tab N RT rv x pl R b s (λex s'=>match ex with
   | none=>evCode P E eqs tab N RT rv y pl' R b s' k kr
   | some i=>k (some i) s') kr=some r) (J:Rel P E Bs F0 w0 N (s.L b) (s.H b) s.nx a w)
  (u:∀ex s' f w',k ex s'=some r->Rel P E Bs F0 w0 N (s'.L b) (s'.H b) s'.nx f w'->Q (nU_ ex) f w') (m:∀y f w',kr y=some r->Qr y f w'->Q .ret f w'):(Code.seq x y).wp P Q a w:=by
 refine s_join (λf w'=>y.wp P Q f w') (λ_ _ h=>h) (F pl R b s _ kr r a w _ j h J (λex s' f w' q p => ?_) λC f w' q G=>m C f w' q G);cases ex with
 | none=>exact D pl' R b s' k kr r f w' Q j q p u m
 | some i=>exact u (some i) s' f w' q p
theorem blockPlain{id:Nat}{x:Code}{pl:Pl}{R:Type}{b:Ba E}{s:St E}{k:Option Nat->St E->Option R}{kr:RT->Option R}{r:R}{a:Act}{w:World}{Q:Exit->Act->World->Prop}
  (p:Fresh F0.g b.lo) (F:gH_ P E eqs tab N Bs F0 w0 RT rv Qr x)
  (h:evCode P E eqs tab N RT rv x pl R b s (λex s'=>match ex with
   | none=>k none s'
   | some i=>match Nat.beq i id with
    | true=>k none s'
    | false=>k (some i) s') kr=some r) (J:Rel P E Bs F0 w0 N (s.L b) (s.H b) s.nx a w)
  (u:∀ex s' f w',k ex s'=some r->Rel P E Bs F0 w0 N (s'.L b) (s'.H b) s'.nx f w'->Q (nU_ ex) f w') (q:∀y f w',kr y=some r->Qr y f w'->Q .ret f w'):(Code.block id x).wp P Q a w:=by
 refine wp_block (F pl R b s _ kr r a w _ p h J (λex s' f w' j m => ?_) λD f w' j G=>q D f w' j G);cases ex with
 | none=>exact u none s' f w' j m
 | some i =>
  simp only at j;show Exit.inBlock id Q (.exit i) f w';show if i=id then Q .normal f w' else Q (.exit i) f w'
  split at j
  .rename_i C;rw[qV (qNb C)];exact u none s' f w' j m
  .rename_i C;rw[qX (dC_ C)];exact u (some i) s' f w' j m
theorem seqJoin{x y:Code}{m:JP}{px py:Pl}{R:Type}{b:Ba E}{s:St E}{k:Option Nat->St E->Option R}{kr:RT->Option R}{r:R}{a:Act}{w:World}{Q:Exit->Act->World->Prop}
  (j:Fresh F0.g b.lo) (F:gH_ P E eqs tab N Bs F0 w0 RT rv Qr x) (D:gH_ P E eqs tab N Bs F0 w0 RT rv Qr y)
  (h:Option.bind (evCode P E eqs tab N RT rv x px (Tp E.S m.T) (s.base b) (St.new s.nx) (λex s'=>match ex with
    | none=>(match m.mt (s.base b) s' with|some h=>some (e7_ m.T h)|none=>none)
    | some _=>none) (λ_=>none)) (λo=>m.go b s (dj_ m.T o) λs'=>evCode P E eqs tab N RT rv y py R b s' k kr)=some r) (J:Rel P E Bs F0 w0 N (s.L b) (s.H b) s.nx a w)
  (G:∀ex s' f w',k ex s'=some r->Rel P E Bs F0 w0 N (s'.L b) (s'.H b) s'.nx f w'->Q (nU_ ex) f w') (q:∀y f w',kr y=some r->Qr y f w'->Q .ret f w'):(Code.seq x y).wp P Q a w:=by
 obtain⟨o,U,C⟩:=bind_some h;refine s_join (λf w'=>∃s',evCode P E eqs tab N RT rv y py R b s' k kr=some r/\Rel P E Bs F0 w0 N (s'.L b) (s'.H b) s'.nx f w') (λf w' ⟨s',O,M⟩=>D py R b s' k kr r f w' Q j O M G q)
  (F px _ (s.base b) (St.new s.nx) _ _ o a w _ j U J (λex s' f w' p u => ?_) λV f w' p _=>nomatch p)
 cases ex with
 | none =>
  simp only at p;split at p
  .rename_i Y hm;obtain rfl:=qSj p;rw[gf_]at C;exact JP.ok j hm u C
  .cases p
 | some i=>cases p
theorem seqJoinR{x y:Code}{m:JP}{px py:Pl}{R:Type}{b:Ba E}{s:St E}{k:Option Nat->St E->Option R}{kr:RT->Option R}{r:R}{a:Act}{w:World}{Q:Exit->Act->World->Prop}
  (j:Fresh F0.g b.lo) (G:gH_ P E eqs tab N Bs F0 w0 RT rv Qr x) (F:gH_ P E eqs tab N Bs F0 w0 RT rv Qr y)
  (h : Option.bind (evCode P E eqs tab N RT rv x px (Out (Tp E.S m.T) RT) (s.base b) (St.new s.nx) (λex s'=>match ex with
    | none=>(match m.mt (s.base b) s' with|some h=>some (.fall (e7_ m.T h))|none=>none)
    | some _=>none) (λr=>some (.ret r))) (λo=>match o with
     | .ret r=>kr r
     | .fall o=>m.go b s (dj_ m.T o) λs'=>evCode P E eqs tab N RT rv y py R b s' k kr)=some r) (O:Rel P E Bs F0 w0 N (s.L b) (s.H b) s.nx a w)
  (M:∀ex s' f w',k ex s'=some r->Rel P E Bs F0 w0 N (s'.L b) (s'.H b) s'.nx f w'->Q (nU_ ex) f w') (q:∀y f w',kr y=some r->Qr y f w'->Q .ret f w'):(Code.seq x y).wp P Q a w:=by
 obtain⟨o,Y,u⟩:=bind_some h;refine s_join (λf w'=>∃s',evCode P E eqs tab N RT rv y py R b s' k kr=some r/\Rel P E Bs F0 w0 N (s'.L b) (s'.H b) s'.nx f w') (λf w' ⟨s',V,U⟩=>F py R b s' k kr r f w' Q j V U M q)
  (G px _ (s.base b) (St.new s.nx) _ _ o a w _ j Y O (λex s' f w' p C => ?_) λD f w' p J => ?_)
 .cases ex with
  | none =>
   simp only at p;split at p
   .rename_i Z hm;obtain rfl:=qSj p;simp only at u;rw[gf_]at u;exact JP.ok j hm C u
   .cases p
  | some i=>cases p
 .obtain rfl:=qSj p;exact q D f w' u J
theorem loopPlain{id:Nat}{body:Code}{j ex:JP}{pb:Pl}{R:Type}{b:Ba E}{s:St E}{k:Option Nat->St E->Option R}{M:HL E.S j.T}{r:R}{a:Act}{w:World}{Q:Exit->Act->World->Prop}
  (q:Fresh F0.g b.lo) (U:gH_ P E eqs tab N Bs F0 w0 RT rv Qr body) (hm:j.mt (s.base b) (St.new s.nx)=some M)
  (h : Option.bind (am_ (λtp=>j.go (s.base b) (St.new s.nx) (dj_ j.T tp) λs1=>evCode P E eqs tab N RT rv body pb (Step (Tp E.S j.T) (Tp E.S ex.T)) (s.base b) s1 (λe s'=>match e with
      | none=>(match j.mt (s.base b) s' with|some h=>some (.next (e7_ j.T h))|none=>none)
      | some i=>match Nat.beq i id with
       | true=>(match ex.mt (s.base b) s' with|some h=>some (.done (e7_ ex.T h))|none=>none)
       | false=>none) (λ_=>none)) BIG (e7_ j.T M)) (λo=>ex.go b s (dj_ ex.T o) λs'=>k none s')=some r) (Z:Rel P E Bs F0 w0 N (s.L b) (s.H b) s.nx a w)
  (V:∀ex s' m w',k ex s'=some r->Rel P E Bs F0 w0 N (s'.L b) (s'.H b) s'.nx m w'->Q (nU_ ex) m w'):(Code.block id (.loop body)).wp P Q a w:=by
 obtain⟨o,h1,J⟩:=bind_some h;refine b_join (λm w'=>∃s',k none s'=some r/\Rel P E Bs F0 w0 N (s'.L b) (s'.H b) s'.nx m w') (λm w' ⟨s',F,D⟩=>V none s' m w' F D)
  (loop_rule h1 (λtp m w'=>∃s0 C,j.mt (s.base b) s0=some C/\tp=e7_ j.T C/\Rel P E Bs F0 w0 N (s0.L (s.base b)) (s0.H (s.base b)) s0.nx m w') ⟨_,_,hm,rfl,Z⟩ ?_)
 rintro tp a1 O ⟨s0,C,F,rfl,D⟩ st x u;rw[gf_]at x;obtain⟨s1,h5,h6⟩:=JP.ok (b:=s.base b) (s:=St.new s.nx) q F D x;refine U pb _ (s.base b) s1 _ _ st a1 O _ q h5 h6 (λe s' m w' f y => ?_) λy' m w' f _=>nomatch f
 cases e with
 | none =>
  simp only at f;split at f
  .rename_i G p;exact⟨_,(qSj f).symm,s',G,p,rfl,y⟩
  .cases f
 | some i =>
  simp only at f;split at f
  .rename_i Y;split at f
   .rename_i G p;have h8:=u _ (qSj f).symm;subst h8;rw[gf_]at J;show if i=id then _ else _
    rw[qV (qNb Y)];exact JP.ok q p y J
   .cases f
  .cases f
theorem loopPlainR{id:Nat}{body:Code}{p ex:JP}{pb:Pl}{R:Type}{b:Ba E}{s:St E}{k:Option Nat->St E->Option R}{kr:RT->Option R}{V:HL E.S p.T}{r:R}{a:Act}{w:World}{Q:Exit->Act->World->Prop}
  (u:Fresh F0.g b.lo) (hx:gH_ P E eqs tab N Bs F0 w0 RT rv Qr body) (hm:p.mt (s.base b) (St.new s.nx)=some V)
  (h : Option.bind (am_ (λtp=>p.go (s.base b) (St.new s.nx) (dj_ p.T tp) λs1=>evCode P E eqs tab N RT rv body pb (Step (Tp E.S p.T) (Out (Tp E.S ex.T) RT)) (s.base b) s1 (λe s'=>match e with
      | none=>(match p.mt (s.base b) s' with|some h=>some (.next (e7_ p.T h))|none=>none)
      | some i=>match Nat.beq i id with
       | true=>(match ex.mt (s.base b) s' with|some h=>some (.done (.fall (e7_ ex.T h)))|none=>none)
       | false=>none) (λr=>some (.done (.ret r)))) BIG (e7_ p.T V)) (λo=>match o with
     | .ret r=>kr r
     | .fall o=>ex.go b s (dj_ ex.T o) λs'=>k none s')=some r) (hR:Rel P E Bs F0 w0 N (s.L b) (s.H b) s.nx a w)
  (hk:∀ex s' f w',k ex s'=some r->Rel P E Bs F0 w0 N (s'.L b) (s'.H b) s'.nx f w'->Q (nU_ ex) f w') (F:∀y f w',kr y=some r->Qr y f w'->Q .ret f w'):(Code.block id (.loop body)).wp P Q a w:=by
 obtain⟨o,h1,D⟩:=bind_some h;refine b_join (λf w'=>∃s',k none s'=some r/\Rel P E Bs F0 w0 N (s'.L b) (s'.H b) s'.nx f w') (λf w' ⟨s',O,M⟩=>hk none s' f w' O M)
  (loop_rule h1 (λtp f w'=>∃s0 G,p.mt (s.base b) s0=some G/\tp=e7_ p.T G/\Rel P E Bs F0 w0 N (s0.L (s.base b)) (s0.H (s.base b)) s0.nx f w') ⟨_,_,hm,rfl,hR⟩ ?_)
 rintro tp a1 Z ⟨s0,G,O,rfl,M⟩ st x m;rw[gf_]at x;obtain⟨s1,h5,h6⟩:=JP.ok (b:=s.base b) (s:=St.new s.nx) u O M x;refine hx pb _ (s.base b) s1 _ _ st a1 Z _ u h5 h6 (λe s' f w' j C => ?_) λY f w' j hq => ?_
 .cases e with
  | none =>
   simp only at j;split at j
   .rename_i U q;exact⟨_,(qSj j).symm,s',U,q,rfl,C⟩
   .cases j
  | some i =>
   simp only at j;split at j
   .rename_i hb;split at j
    .rename_i U q;have J:=m _ (qSj j).symm;subst J;simp only at D;rw[gf_]at D;show if i=id then _ else _
     rw[qV (qNb hb)];exact JP.ok u q C D
    .cases j
   .cases j
 .have J:=m _ (qSj j).symm;subst J;exact F Y f w' D hq
theorem evCode_both(O:∀p∈eqs,ba_ P E p.1 p.2)(U:tab.OK P E)(Y:∀b s a w y,Rel P E Bs F0 w0 N (s.L b) (s.H b) s.nx a w->rv b s=some y->Qr y a w):∀(c:Code),gH_ P E eqs tab N Bs F0 w0 RT rv Qr c/\∀body,c = .loop body->gH_ P E eqs tab N Bs F0 w0 RT rv Qr body:=by
 intro c
 induction c with
 | skip =>
  refine⟨?_,λ_ e=>nomatch e⟩;intro pl R b s k kr r a w Q f h u C q;rw[evCode.eq_def]at h;exact wp_skip (C none s a w h u)
 | region id ops d =>
  refine⟨?_,λ_ e=>nomatch e⟩;intro pl R b s k kr r a w Q f h u C q;rw[evCode.eq_def]at h;cases d with
  | true =>
   cases pl with
   | dr fl V fm ids =>
    have:=evDraw_ok (id:=id) (Q:=Q) O U h u λs' M w' J G=>C none s' M w' J G
    rw[zW]at this;exact this
   | df fl V p =>
    have:=evFloat_ok (id:=id) (Q:=Q) O U h u λs' M w' J G=>C none s' M w' J G
    rw[zW]at this;exact this
   | ot p t =>
    have:=evOrd_ok (id:=id) (Q:=Q) O U h u λs' M w' J G=>C none s' M w' J G
    rw[zW]at this;exact this
   | sq p =>
    have:=evChain_ok (id:=id) (Q:=Q) O U h u λs' M w' J G=>C none s' M w' J G
    rw[zW]at this;exact this
   | _=>cases h
  | false =>
   have:=evReg_ok (id:=id) (Q:=Q) O U h u λs' M w' J G=>C none s' M w' J G
   rw[zW]at this;exact this
 | seq x y D F =>
  refine⟨?_,λ_ e=>nomatch e⟩;obtain⟨D,_⟩:=D;obtain⟨F,_⟩:=F;intro pl R b s k kr r a w Q f h u C q;cases pl with
  | j m ret px py =>
   cases ret with
   | false=>exact seqJoin f D F h u C q
   | true=>exact seqJoinR f D F h u C q
  | p=>exact jy_ f D F h u C q
  | s px py=>exact jy_ f D F h u C q
  | lp hd ex ret px=>exact jy_ f D F h u C q
  | dr fl V fm ids=>exact jy_ f D F h u C q
  | df fl V p=>exact jy_ f D F h u C q
  | ot p t=>exact jy_ f D F h u C q
  | sq p=>exact jy_ f D F h u C q
 | cond t x y D F =>
  refine⟨?_,λ_ e=>nomatch e⟩;obtain⟨D,_⟩:=D;obtain⟨F,_⟩:=F;intro pl R b s k kr r a w Q f h u C q;rw[evCode.eq_def]at h;simp only at h;split at h
  .rename_i c hc;have hv:a.eval t = .bool c:=by
    obtain⟨z,g,hE,Z,_⟩:=u;exact SV.bool_ok rfl (hE.op Z.gl _ _ hc)
   refine wp_cond hv ?_;cases c with
   | true=>exact D _ R b s k kr r a w Q f h u C q
   | false=>exact F _ R b s k kr r a w Q f h u C q
  .cases h
 | block id x D =>
  refine⟨?_,λ_ e=>nomatch e⟩;obtain⟨D,hl⟩:=D;intro pl R b s k kr r a w Q f h u C q;have plain:evCode P E eqs tab N RT rv x pl R b s (λex s'=>match ex with
   | none=>k none s'
   | some i=>match Nat.beq i id with
    | true=>k none s'
    | false=>k (some i) s') kr=some r->(Code.block id x).wp P Q a w:=λh=>blockPlain f D h u C q
  cases x with
  | loop body =>
   cases pl with
   | lp hd ex ret pb =>
    have hb:=hl body rfl;rw[evCode.eq_def]at h;simp only at h;split at h
    .cases h
    .rename_i h0 hm;cases ret with
     | false=>exact loopPlain f hb hm h u C
     | true=>exact loopPlainR f hb hm h u C q
   | p=>exact plain h
   | s px py=>exact plain h
   | j m ret px py=>exact plain h
   | dr fl V fm ids=>exact plain h
   | df fl V p=>exact plain h
   | ot p t=>exact plain h
   | sq p=>exact plain h
  | _=>exact plain h
 | exit i =>
  refine⟨?_,λ_ e=>nomatch e⟩;intro pl R b s k kr r a w Q f h u C q;exact wp_exit (C (some i) s a w h u)
 | scope x D =>
  refine⟨?_,λ_ e=>nomatch e⟩;obtain⟨D,_⟩:=D;intro pl R b s k kr r a w Q f h u C q;exact wp_scope_straight (D pl R b s k kr r a w _ f h u (λex s' M w' J G=>by cases ex<;>exact C _ s' M w' J G) λy M w' J G=>q y M w' J G)
 | ret =>
  refine⟨?_,λ_ e=>nomatch e⟩;intro pl R b s k kr r a w Q f h u C q;rw[evCode.eq_def]at h;simp only at h;split at h
  .rename_i y F;exact wp_ret (q y a w h (Y b s a w y u F))
  .cases h
 | loop x D =>
  refine⟨?_,λbody e=>by injection e with e;subst e;exact D.1⟩;intro pl R b s k kr r a w Q f h u C q;rw[evCode.eq_def]at h;cases h
 | _ =>
  refine⟨?_,λ_ e=>nomatch e⟩;intro pl R b s k kr r a w Q f h u C q;rw[evCode.eq_def]at h;cases h
theorem evCode_ok(h:∀p∈eqs,ba_ P E p.1 p.2)(j:tab.OK P E)(f:∀b s a w y,Rel P E Bs F0 w0 N (s.L b) (s.H b) s.nx a w->rv b s=some y->Qr y a w)(c:Code):gH_ P E eqs tab N Bs F0 w0 RT rv Qr c:=(evCode_both h j f c).1
end
section
variable{P:Program}{E:TE}{z z':Fz}{g g':Ga}{w w0:World}{Bs:List Nat}{F0:Nat->Prop}{N:Nat}{H:Nat->Option (Obj E)}
theorem frzR_ok(h:HR P E Bs F0 w0 w z g H):∀(rs:Rs) (xs:List (V1 E)),∃z',z.Le z'/\HR P E Bs F0 w0 w z' g (upH H (frzR E H rs xs))
 | [],_=>⟨z,Fz.Le.refl z,h⟩
 | (_,_)::_,[]=>⟨z,Fz.Le.refl z,h⟩
 | (t,m)::rs,x::xs=>by
  obtain⟨s,q,p⟩:=frzR_ok h rs xs;obtain⟨z2,j,f⟩:=eh_ p (unM m x.cs);rw[aV_]at f;exact⟨z2,q.trans j,f⟩
theorem gS_:∀(ps:List Pm) (n:Nat) {z:Fz} {H:Nat->Option (Obj E)},HR P E Bs F0 w0 w z g H->∃z',z.Le z'/\HR P E Bs F0 w0 w z' g (upH H (frzV E H ps n))
 | [],_,z,_,h=>⟨z,Fz.Le.refl z,h⟩
 | .b _ _::ps,n,z,H,h=>by
  obtain⟨u,q,j⟩:=gS_ ps (n+1) h;unfold frzV;split
  .obtain⟨z2,s,f⟩:=eh_ j ‹List (SC E)›;rw[aV_]at f;exact⟨z2,q.trans s,f⟩
  .exact⟨u,q,j⟩
 | .bm _ t m _::ps,n,z,H,h=>by
  obtain⟨u,q,j⟩:=gS_ ps (n+1+aK_ m (E.flat t)) h;unfold frzV;split
  .rename_i cs _;obtain⟨z2,s,f⟩:=eh_ j (unM m cs);rw[aV_]at f;exact⟨z2,q.trans s,f⟩
  .rename_i cs _ _;obtain⟨z2,s,f⟩:=eh_ j (unM m cs);rw[aV_]at f;exact⟨z2,q.trans s,f⟩
  .exact⟨u,q,j⟩
 | .l t m::ps,n,z,_,h=>gS_ ps _ h
 | .g t m::ps,n,z,_,h=>gS_ ps _ h
 | .mp _ _ _::ps,n,z,_,h=>gS_ ps _ h
 | .d _::ps,n,z,_,h=>gS_ ps n h
 | .p _::ps,n,z,_,h=>gS_ ps n h
 | .f1 _ _::ps,n,z,_,h=>gS_ ps n h
 | .f2 _ _ _::ps,n,z,_,h=>gS_ ps n h
theorem frzA_ok(h:HR P E Bs F0 w0 w z g H)(ps:List Pm)(rs:Rs)(xs:List (V1 E)):∃z',z.Le z'/\HR P E Bs F0 w0 w z' g (upH H (frzA E H ps rs xs)):=by
 obtain⟨q,p,m⟩:=frzR_ok h rs xs;obtain⟨z2,j,f⟩:=gS_ ps 0 m;rw[aV_]at f;exact⟨z2,p.trans j,f⟩
theorem resSV_ok{b:Ba E}{s:St E}{a:Act}{v:ResultVar}{x:V1 E}(G:ER P E z g N a (s.L b))(F:HR P E Bs F0 w0 w z g (s.H b))(h:resSV E P b s v=some x):∃u,(nI_ a.tmps v).run P w = .ok u w/\R1 P E z g x u:=by
 cases v with
 | tmp t =>
  unfold resSV at h;simp only at h;split at h
  .rename_i y q;obtain rfl:=qSj h;obtain⟨u,D,C⟩:=G.get t _ q;refine⟨u,?_,C⟩;have:a.tmps.getD t undef=u:=by rw[Array.getD_eq_getD_getElem?,D];rfl
   simp only[nI_,this,Sem.run_pure]
  .cases h
 | cell t T =>
  unfold resSV at h;simp only at h;split at h
  .rename_i c q;split at h
   .rename_i l off O;obtain⟨u,D,C⟩:=G.get t _ q;obtain⟨bb,base,vs,rfl,J,M⟩:=behind_ok F O C;obtain⟨v,m,j⟩:=ty_ h J;refine⟨v,?_,j⟩;have:a.tmps.getD t undef = .pointer (some ⟨bb,base+off,none⟩):=by rw[Array.getD_eq_getD_getElem?,D];rfl
    have p:(asAddr (.pointer (some ⟨bb,base+off,none⟩))).run P w = .ok ⟨bb,base+off,none⟩ w:=rfl;have f:=o4_ (P:=P) m (M w (Stands.refl F));simp only[nI_,this,Sem.run_bind,p,Result.andThen_ok,f]
   .cases h
  .cases h
theorem tN_{b:Ba E}{s:St E}{a:Act}(j:ER P E z g N a (s.L b))(f:HR P E Bs F0 w0 w z g (s.H b)):∀{vs:List ResultVar} {xs:List (V1 E)},resXs E P b s vs=some xs->∃us,(vs.mapM (nI_ a.tmps)).run P w = .ok us w/\All2 (R1 P E z g) xs us
 | [],xs,h=>by obtain rfl:=qSj h;exact⟨[],rfl,.nil⟩
 | v::vs,xs,h=>by
  simp only[resXs]at h;split at h
  .rename_i x l m p;obtain rfl:=qSj h;obtain⟨u,D,C⟩:=resSV_ok j f m;obtain⟨us,y,q⟩:=tN_ j f p;refine⟨u::us,?_,.cons C q⟩;rw[List.mapM_cons,Sem.run_bind,D];simp only[Sem.run_pure,Result.andThen_ok,Sem.run_bind,y]
  .cases h
theorem tuple_out{fn:Func}{a:Act}{rs:List ResultVar}{us:List Value}(j:fn.results.toList=rs)(h:(rs.mapM (nI_ a.tmps)).run P w = .ok us w):(results fn a.tmps).run P w = .ok (tupleOf us) w:=by
 have f:fn.results=rs.toArray:=by rw[←j,zW]
 rw[results_eq,f,List.mapM_toArray,Sem.run_bind];have:((Functor.map List.toArray (rs.mapM (nI_ a.tmps))).run P w) = .ok us.toArray w:=by
  rw[map_eq_pure_bind,Sem.run_bind,h];rfl
 rw[this];simp only[Result.andThen_ok,Sem.run_pure]
 congr 1
 match us with
 | []=>rfl
 | [v]=>rfl
 | v::u::r=>simp[tupleOf]
theorem takeR_ok(O:HR P E Bs F0 w0 w z g H){I:List Nat}:∀{rs:Rs} {xs:List (V1 E)} {q:HL E.S rs.ts×List Nat} {us:List Value} {n:Nat},takeR E H rs xs=some q->(∀j id,q.2[j]? = some id->I[n+j]? = some id)->All2 (R1 P E z g) xs us ->
  (∃svr,resV E rs q.1 n=some svr/\All2 (R1 P E z (gOf g I)) svr us)/\(∀i o,(i,o)∈dp_ E rs q.1 n->∃id J o2,I[i]? = some id/\H id=some J/\o=some o2/\Cor E H I J o2)/\q.2.length=c5_ E rs
 | [],[],q,us,n,h,_,F=>by
  cases F
  obtain rfl:=qSj h;exact⟨⟨[],rfl,.nil⟩,(λi o hm=>nomatch hm),rfl⟩
 | [],_::_,q,us,n,h,_,_=>by simp[takeR]at h
 | (t,m)::rs,[],q,us,n,h,_,_=>by simp[takeR]at h
 | (t,m)::rs,x::xs,q,us,n,h,hI,F=>by
  simp only[takeR]at h;split at h
  .rename_i d q' hf M Z;obtain rfl:=qSj h;obtain⟨C,G⟩:=ny_ hI;cases F with
   | @cons _ u _ us' D hr =>
    obtain⟨e7,U⟩:=nJ_ (I:=I) (n:=n) M C;obtain⟨⟨svr,Y,e2⟩,V,e4⟩:=takeR_ok O (n:=n+d.2.length) Z G hr;rw[U]at Y V;have p:∀vs,All2 (RC P E z g) x.cs vs->_:=λvs f=>mg_ O M C f
    obtain⟨y,e5,e6⟩:=asV_ok (z':=z) (g':=gOf g I) (l:=b3_ E m (E.flat t) d.1 n) hf (by
     have:∃vs,All2 (RC P E z g) x.cs vs:=by
      cases x with
      | one c=>exact⟨[u],.cons D .nil⟩
      | agg l=>obtain⟨vs,_,h⟩:=D;exact⟨vs,h⟩
     obtain⟨vs,f⟩:=this;rw[(p vs f).2.1,(p vs f).2.2]) D λvs f=>(p vs f).1
    refine⟨⟨y::svr,by simp only[resV,Y,E.fl_ufl,e5],.cons e6 e2⟩,λi o s => ?_,by simp only[qLa,U,e4];rfl⟩;simp only[dp_,qY,E.fl_ufl]at s;rcases s with s|s
    .exact e7 i o s
    .exact V i o s
  .cases h
theorem HR.leave(m:HR P E Bs F0 w0 w z g H){I:List Nat}{l:Chs E}(V:∀i j o p id,(i,o)∈l->(j,p)∈l->I[i]? = some id->I[j]? = some id->i=j)(Y:∀i o,(i,o)∈l->∃id f o2,I[i]? = some id/\H id=some f/\o=some o2/\Cor E H I f o2) :
  HR P E Bs F0 w0 w z (gOf g I) (upH (λ_=>none) l):=by
 have key:∀i o,upH (λ_=>none) l i=some o->∃id f,I[i]? = some id/\H id=some f/\ObjR P E z (gOf g I) w i o/\∀k,fpO (gOf g I) i o k↔fpO g id f k:=λi o h=>by
  obtain⟨id,f,o2,x,q,h3,Z⟩:=Y i _ (jN_ h);obtain rfl:=qSj h3;obtain⟨G,s⟩:=Z.obj m x (m.hold _ _ q);exact⟨id,f,x,q,G,s⟩
 refine⟨m.chg,λi o h => ?_,λi o k h u => ?_,λi j o p k D h O u C => ?_,m.fz,m.fz0,λi o k h u U => ?_,m.gl⟩
 .obtain⟨_,_,_,_,G,_⟩:=key i o h;exact G
 .obtain⟨id,f,_,q,_,s⟩:=key i o h;exact m.own id f k q ((s k).1 u)
 .obtain⟨id,f,x,q,_,s⟩:=key i o h;obtain⟨id',y,M,J,_,F⟩:=key j p O;refine m.apart id id' f y k (λe => ?_) q J ((s k).1 u) ((F k).1 C);subst e;exact D (V i j _ _ _ (jN_ h) (jN_ O) x M)
 .obtain⟨id,f,x,q,_,s⟩:=key i o h;exact m.fza id f k q ((s k).1 u) U
end
section
variable{P:Program}{E:TE}{H:Nat->Option (Obj E)}
theorem backM_ok {m:Mk} {I:List Nat}:∀{ts:List Ty} {h x:HL E.S ts} {n:Nat},m5_ E H m ts h n=some x->∀i o,(i,o)∈bt_ E m ts x n->∃y o2,H i=some y/\o=some o2/\Cor E H I y o2:=by
 induction m with
 | nil =>
  intro ts h x n _ i o hm;cases ts<;>simp[bt_]at hm
 | cons a m C =>
  intro ts h x n f i o hm;cases ts with
  | nil=>cases a<;>simp[bt_]at hm
  | cons t ts =>
   cases a with
   | none =>
    simp only[m5_]at f;cases j:m5_ E H m ts h.2 n with
    | none=>rw[j]at f;cases f
    | some q =>
     rw[j]at f;obtain rfl:=qSj f;simp only[bt_]at hm;exact C j i o hm
   | some e =>
    cases t with
    | sl t =>
     simp only[m5_]at f;cases s:H n with
     | none=>rw[s]at f;cases f
     | some p =>
      cases p with
      | row e' J xs foc =>
       rw[s]at f;simp only at f;split at f
       .rename_i D;subst D;cases u:Nat.beq e e' with
        | false=>rw[u]at f;cases f
        | true =>
         cases j:m5_ E H m ts h.2 (n+1)with
         | none=>rw[u,j]at f;cases f
         | some q =>
          rw[u,j]at f;obtain rfl:=qSj f;obtain rfl:=qNb u;simp only[bt_,qW]at hm;rcases hm with hm|hm
          .injection hm with G F;subst G;subst F;exact⟨_,_,s,rfl,rfl⟩
          .exact C j i o hm
       .cases f
      | _=>rw[s]at f;cases f
    | _=>simp[bt_]at hm
theorem backH_ok {I:List Nat}:∀{ps:List Pm} {a:PA E ps} {bh:HL E.S (bn_ ps)×List Nat} {n k:Nat},ej_ E H ps a n=some bh->(∀i,i<n+as_ E ps->n<=i->I[i]? = some i)->(∀j id,bh.2[j]? = some id->I[k+j]? = some id) ->
  (∀i o,(i,o)∈bd_ E ps (aJ_ E ps a bh.1) n k->∃id o1 o2,I[i]? = some id/\H id=some o1/\o=some o2/\Cor E H I o1 o2)/\bh.2.length=dN_ E ps:=by
 intro ps
 induction ps with
 | nil =>
  intro a bh n k f _ _;obtain rfl:=qSj f;exact⟨(λi o hm=>nomatch hm),rfl⟩
 | cons p ps G =>
  intro a bh n k f C J;cases p with
  | d t=>exact G f C J
  | p t=>exact G f C J
  | g t m =>
   simp only[as_]at C;exact G f (λi M u=>C i (by omega) (by omega)) J
  | f1 x r=>exact G f C J
  | f2 x y r=>exact G f C J
  | l t m =>
   simp only[as_]at C;simp only[ej_]at f;cases M:m5_ E H m (E.flat t) (E.fl t a.1) n with
   | none=>rw[M]at f;cases f
   | some h =>
    cases u:ej_ E H ps a.2 (n+aK_ m (E.flat t))with
    | none=>rw[M,u]at f;cases f
    | some q =>
     rw[M,u]at f;obtain rfl:=qSj f;obtain⟨U,V⟩:=G (k:=k) u (λi M u=>C i (by omega) (by omega)) J;refine⟨λi o hm => ?_,V⟩;have s:(i,o)∈bt_ E m (E.flat t) (E.fl t (E.ufl t h)) n++bd_ E ps (aJ_ E ps a.2 q.1) (n+aK_ m (E.flat t)) k:=hm;rw[E.fl_ufl]at s;rcases qY.1 s with s|s
     .obtain⟨o1,o2,h6,h7,h8⟩:=backM_ok (I:=I) M i o s;obtain⟨_,_,_,h9,ZW⟩:=bD_ i o s;exact⟨i,o1,o2,C i (by omega) h9,h6,h7,h8⟩
     .exact U i o s
  | mp T kt v =>
   simp only[as_]at C;simp only[ej_]at f;cases D:H n with
   | none=>rw[D]at f;cases f
   | some p =>
    cases p with
    | map T' k' v' ks vs foc =>
     cases u:ej_ E H ps a.2 (n+1)with
     | none=>rw[D,u]at f;cases f
     | some q =>
      rw[D,u]at f;simp only at f;split at f
      .rename_i ht;obtain⟨rfl,rfl⟩:=ht;cases F:Nat.beq T T' with
       | false=>rw[F]at f;cases f
       | true =>
        rw[F]at f;obtain rfl:=qSj f;obtain rfl:=qNb F;obtain⟨U,V⟩:=G (k:=k) u (λi M u=>C i (by omega) (by omega)) J;refine⟨λi o hm => ?_,V⟩;have s:(i,o)∈(n,some (Obj.map T k' v' ks vs []))::bd_ E ps (aJ_ E ps a.2 q.1) (n+1) k:=hm;rcases qW.1 s with s|s
        .injection s with e1 e2;subst e1;subst e2;exact⟨_,_,_,C _ (by omega) (qA _),D,rfl,rfl⟩
        .exact U i o s
      .cases f
    | _=>rw[D]at f;cases f
  | b T t =>
   simp only[as_]at C;simp only[ej_]at f;cases D:H n with
   | none=>rw[D]at f;cases f
   | some p =>
    cases p with
    | box T' cs =>
     cases u:ej_ E H ps a.2 (n+1)with
     | none=>rw[D,u]at f;cases f
     | some q =>
      rw[D,u]at f;simp only at f;cases F:Nat.beq T T' with
      | false=>rw[F]at f;cases f
      | true =>
       cases O:cy_ E H (E.flat t) cs with
       | none=>rw[F,O]at f;cases f
       | some h =>
        rw[F,O]at f;obtain rfl:=qSj f;obtain rfl:=qNb F;obtain⟨U,V⟩:=G (k:=k) u (λi M u=>C i (by omega) (by omega)) J;refine⟨λi o hm => ?_,V⟩;have s:(i,o)∈(n,some (Obj.box T (E.cells t (E.ufl t h))))::bd_ E ps (aJ_ E ps a.2 q.1) (n+1) k:=hm;rcases qW.1 s with s|s
        .injection s with e1 e2;subst e1;subst e2;exact⟨_,_,_,C _ (by omega) (qA _),D,rfl,false,_,[],0,t,[],(h,[]),0,rfl,(λ_ _ e=>nomatch e),takeM_nil O,by rw[ownC_nil];unfold TE.cells;rw[E.fl_ufl];rfl,λj id' hj=>by simp at hj⟩
        .exact U i o s
    | _=>rw[D]at f;cases f
  | bm T t m px =>
   simp only[as_]at C;simp only[ej_]at f;cases D:H n with
   | none=>rw[D]at f;cases f
   | some p =>
    cases p with
    | box T' ZY =>
     cases u:ej_ E H ps a.2 (n+1+aK_ m (E.flat t))with
     | none=>rw[D,u]at f;cases f
     | some q =>
      rw[D,u]at f;simp only at f;cases Z:j6_ (pxB px ps) ZY with
      | none=>rw[Z]at f;cases f
      | some c2 =>
       obtain⟨cs,Y⟩:=c2;rw[Z]at f;simp only at f;cases F:Nat.beq T T'&&hidI Y (n+1+aK_ m (E.flat t))with
       | false=>rw[F]at f;cases f
       | true =>
        cases O:ct_ E H m (E.flat t) cs with
        | none=>rw[F,O]at f;cases f
        | some d =>
         rw[F,O]at f;obtain rfl:=qSj f;simp only[qAn]at F;obtain⟨F,hh⟩:=F;obtain rfl:=qNb F;obtain⟨i1,i2⟩:=ny_ J;obtain⟨e7,e8⟩:=nJ_ (n:=k) O i1;obtain⟨U,V⟩:=G (k:=k+d.2.length) u (λi M u=>C i (by omega) (by omega)) i2;refine⟨λi o hm => ?_,by simp only[qLa,e8,V,dN_]⟩;have s:(i,o)∈(n,some (Obj.box T (ptrC E (pxB px ps) (n+1+aK_ m (E.flat t))++b3_ E m (E.flat t) (E.fl t (E.ufl t d.1)) k)))::(bt_ E m (E.flat t) (E.fl t (E.ufl t d.1)) k++bd_ E ps (aJ_ E ps a.2 q.1) (n+1+aK_ m (E.flat t)) (k+aK_ m (E.flat t))):=hm;rw[E.fl_ufl]at s;rw[e8]at U;rcases qW.1 s with s|s
         .injection s with e1 e2;subst e1;subst e2;refine⟨_,_,_,C _ (by omega) (qA _),D,rfl,_,cs,Y,_,t,m,d,k,Z,(λZX o2 e => ?_),O,rfl,i1⟩;subst e;simp only[hidI]at hh;have h9:=qNb hh;rw[h9];have ZZ:pxB px ps=true:=by
           cases hx:pxB px ps with
           | true=>rfl
           | false=>rw[hx]at Z;simp[j6_]at Z
          have:=pxB_cnt (E:=E) ZZ;exact C _ (by omega) (by omega)
         .rcases qY.1 s with s|s
          .exact e7 i o s
          .exact U i o s
    | _=>rw[D]at f;cases f
end
section
variable{P:Program}{E:TE}{eqs:List (Nat×Nat)}{tab:Tab E}{z:Fz}{g:Ga}{w w0:World}{Bs:List Nat}{N:Nat}
def EndIs(P:Program)(E:TE)(z:Fz)(g:Ga)(Bs:List Nat)(w:World)(ps:List Pm)(rs:Rs)(a:PA E ps)(rh:HL E.S rs.ts)(bh:HL E.S (bn_ ps))(v:Value)(w':World):Prop:=∃z' g' svr,z.Le z'/\g.Le g'/\resV E rs rh (as_ E ps)=some svr/\RV P E z' g' (oneV E svr) v/\HR P E Bs z.F w w' z' g' (upH (λ_=>none) (dp_ E rs rh (as_ E ps)++bd_ E ps (aJ_ E ps a bh) 0 (as_ E ps+c5_ E rs)))
theorem oneV_ok{svr:List (V1 E)}{us:List Value}(h:All2 (R1 P E z g) svr us):RV P E z g (oneV E svr) (tupleOf us):=by
 cases h with
 | nil=>exact⟨[],rfl,.nil⟩
 | cons f p =>
  cases p with
  | nil=>exact f
  | cons m j=>exact⟨_,rfl,.cons f (.cons m j)⟩
theorem eM_:∀{ps:List Pm} {a:PA E ps} {n k i:Nat} {o:Option (Obj E)},(i,o)∈bd_ E ps a n k->i∈ek_ E ps n\/(k<=i/\i<k+dN_ E ps)
 | [],_,_,_,_,_,h=>by cases h
 | .l t m::ps,a,n,k,i,o,h=>by
  rcases qY.1 h with h|h
  .obtain⟨_,_,_,f,j⟩:=bD_ i _ h;exact .inl (qY.2 (.inl (List.mem_range'_1.2 ⟨f,j⟩)))
  .exact(eM_ (ps:=ps) h).imp (λh=>qY.2 (.inr h)) id
 | .g _ _::ps,_,_,_,_,_,h=>eM_ (ps:=ps) h
 | .b _ _::ps,_,_,_,_,_,h=>by
  rcases qW.1 h with h|h
  .injection h with e;subst e;exact .inl (qW.2 (.inl rfl))
  .exact(eM_ (ps:=ps) h).imp (λh=>qW.2 (.inr h)) id
 | .bm _ t m _::ps,a,n,k,i,o,h=>by
  simp only[dN_];rcases qW.1 h with h|h
  .injection h with e;subst e;exact .inl (qW.2 (.inl rfl))
  .rcases qY.1 h with h|h
   .obtain⟨_,_,_,f,j⟩:=bD_ i _ h;exact .inr ⟨f,by omega⟩
   .rcases eM_ (ps:=ps) h with h|h
    .exact .inl (qW.2 (.inr h))
    .exact .inr ⟨by omega,by omega⟩
 | .mp _ _ _::ps,_,_,_,_,_,h=>by
  rcases qW.1 h with h|h
  .injection h with e;subst e;exact .inl (qW.2 (.inl rfl))
  .exact(eM_ (ps:=ps) h).imp (λh=>qW.2 (.inr h)) id
 | .d _::ps,_,_,_,_,_,h=>eM_ (ps:=ps) h
 | .p _::ps,_,_,_,_,_,h=>eM_ (ps:=ps) h
 | .f1 _ _::ps,_,_,_,_,_,h=>eM_ (ps:=ps) h
 | .f2 _ _ _::ps,_,_,_,_,_,h=>eM_ (ps:=ps) h
theorem fB_:∀{ps:List Pm} {n i:Nat},i∈ek_ E ps n->i<n+as_ E ps
 | [],_,_,h=>by cases h
 | .l t m::ps,n,i,h=>by
  simp only[as_];rcases qY.1 h with h|h
  .have:=List.mem_range'_1.1 h;omega
  .have:=fB_ (ps:=ps) h;omega
 | .g t m::ps,n,i,h=>by
  simp only[as_];have:=fB_ (ps:=ps) h;omega
 | .b _ _::ps,n,i,h=>by
  simp only[as_];rcases qW.1 h with h|h
  .omega
  .have:=fB_ (ps:=ps) h;omega
 | .bm _ t m _::ps,n,i,h=>by
  simp only[as_];rcases qW.1 h with h|h
  .omega
  .have:=fB_ (ps:=ps) h;omega
 | .mp _ _ _::ps,n,i,h=>by
  simp only[as_];rcases qW.1 h with h|h
  .omega
  .have:=fB_ (ps:=ps) h;omega
 | .d _::ps,_,_,h=>fB_ (ps:=ps) h
 | .p _::ps,_,_,h=>fB_ (ps:=ps) h
 | .f1 _ _::ps,_,_,h=>fB_ (ps:=ps) h
 | .f2 _ _ _::ps,_,_,h=>fB_ (ps:=ps) h
theorem retF_ok {ps:List Pm} {rs:Rs} {a:PA E ps} {fn:Func} {b:Ba E} {s:St E} {act:Act} {w':World} {y:Tp E.S (rs.ts++bn_ ps)} (ZX:Fresh g (as_ E ps))
  (hR:Rel P E Bs ⟨z,g,as_ E ps⟩ w N (s.L b) (s.H b) s.nx act w') (h:retF E P ps rs a fn.results.toList b s=some y) :
  act.defers=[]/\∃v,(results fn act.tmps).run P w' = .ok v w'/\EndIs P E z g Bs w ps rs a (hfst rs.ts (bn_ ps) (dj_ _ y)) (hsnd rs.ts (bn_ ps) (dj_ _ y)) v w':=by
 obtain⟨z1,g1,hE,hH,ZY,U,ZZ⟩:=hR;refine⟨hE.defers,?_⟩;unfold retF at h;cases f:resXs E P b s fn.results.toList with
 | none=>rw[f]at h;cases h
 | some J =>
  rw[f]at h;simp only at h;obtain⟨xs,u0,n0,G,p1,M,_,p4,p5,_,_⟩:=prepRs_ok rs J hH ZY;rw[p1]at h;generalize ZT:upH (s.H b) u0=Hu at h p4;cases Y:takeR E (upH Hu (frzA E Hu ps rs xs)) rs xs with
  | none=>rw[Y]at h;cases h
  | some q =>
   rw[Y]at h;simp only at h;cases hb:ej_ E (upH Hu (frzA E Hu ps rs xs)) ps a 0 with
   | none=>rw[hb]at h;cases h
   | some bq =>
    rw[hb]at h;obtain⟨bh,ids⟩:=bq;obtain⟨hn,h⟩:=dX_ h;obtain rfl:=qSj h;simp only at hn;rw[gf_,nS_,nT_];obtain⟨us,h1,ZU⟩:=tN_ hE hH f;have h2:=p5 z1 G us (Ga.Le.refl G) (ZU.mono λ_ _ h=>R1.le h (Fz.Le.refl z1) M);obtain⟨z2,u,D⟩:=frzA_ok p4 ps rs xs;have ZV:∀j id,(q.2++ids)[j]? = some id->(List.range (as_ E ps)++(q.2++ids))[as_ E ps+j]? = some id:=λj id hj=>by
     rw[zg (by simp)];simpa using hj
    obtain⟨ZW,C⟩:=ny_ ZV;have m:∀i,i<as_ E ps->(List.range (as_ E ps)++(q.2++ids))[i]? = some i:=λi hi=>by
     rw[zR (by simpa using hi)];simp[hi]
    obtain⟨⟨svr,h3,h4⟩,h5,V⟩:=takeR_ok D (n:=as_ E ps) Y ZW (h2.mono λ_ _ h=>R1.le h u (Ga.Le.refl G));rw[V]at C;obtain⟨h6,_⟩:=backH_ok (I:=List.range (as_ E ps)++(q.2++ids)) (k:=as_ E ps+c5_ E rs) hb (λi h1 _=>m i (by omega)) C;refine⟨_,tuple_out rfl h1,z2,gOf G (List.range (as_ E ps)++(q.2++ids)),svr,U.trans u,λi l hl => ?_,h3,oneV_ok h4,D.leave (λi j o p id hi hj e1 e2 => ?_) λi o hm => ?_⟩
    .have hi:i<as_ E ps:=by
      rcases qN i (as_ E ps)with h9|h9
      .exact h9
      .rw[ZX i h9]at hl;cases hl
     unfold gOf;rw[m i hi];exact M i l (ZZ i l hl)
    .have far:∀i,as_ E ps<=i->(List.range (as_ E ps)++(q.2++ids))[i]? = some id->∃p,(ek_ E ps 0++(q.2++ids))[p]? = some id/\((p<(ek_ E ps 0).length/\i=id/\i<as_ E ps)\/(as_ E ps<=i/\p=(ek_ E ps 0).length+(i-as_ E ps))):=λi k1 e=>by
      rw[zg (by simpa using k1)]at e;refine⟨(ek_ E ps 0).length+(i-as_ E ps),?_,.inr ⟨k1,rfl⟩⟩;rw[zg (by omega)];simpa using e
     have key:∀i o,(i,o)∈dp_ E rs q.1 (as_ E ps)++bd_ E ps (aJ_ E ps a bh) 0 (as_ E ps+c5_ E rs)->(List.range (as_ E ps)++(q.2++ids))[i]? = some id->∃p,(ek_ E ps 0++(q.2++ids))[p]? = some id/\((p<(ek_ E ps 0).length/\i=id/\i<as_ E ps)\/(as_ E ps<=i/\p=(ek_ E ps 0).length+(i-as_ E ps))):=λi o hm e=>by
      rcases qY.1 hm with hm|hm
      .obtain⟨_,_,_,k1,_⟩:=gl_ i o hm;exact far i k1 e
      .rcases eM_ hm with hm|hm
       .have F:=fB_ hm;rw[m i (by omega)]at e;obtain rfl:=qSj e;obtain⟨p,Z⟩:=qO.1 hm;have x:p<(ek_ E ps 0).length:=(qZ.1 Z).1;exact⟨p,by rw[zR x];exact Z,.inl ⟨x,rfl,by omega⟩⟩
       .exact far i (by omega) e
     obtain⟨p1,k1,F⟩:=key i o hi e1;obtain⟨M,k3,O⟩:=key j p hj e2;have Z:=rI_ hn k1 k3;rcases F with F|F<;>rcases O with O|O<;>omega
    .rcases qY.1 hm with hm|hm
     .exact h5 i o hm
     .exact h6 i o hm
theorem slots_in{svs:List (V1 E)}{vs:List Value}(h:All2 (R1 P E z g) svs vs):∀(i t:Nat) (o:Option (SV E)),aP_ t (slotsOf i svs)=some o->∃x v,o=some (.v x)/\look t (nH_ i vs)=some v/\R1 P E z g x v:=by
 induction h with
 | nil=>intro i t o f;cases f
 | @cons x v la bs p _ m =>
  intro i t o f;simp only[slotsOf,aP_]at f;simp only[nH_,look];cases j:Nat.beq t i with
  | true =>
   rw[j]at f;exact⟨x,v,(qSj f).symm,rfl,p⟩
  | false =>
   rw[j]at f;exact m (i+1) t o f
theorem evFun_ok(O:∀p∈eqs,ba_ P E p.1 p.2)(ht:tab.OK P E){f:FuncId}{fn:Func}(hf:P.funcs[f]? = some fn){ps:List Pm}{rs:Rs}{pl:Pl}{a:PA E ps}{y:Tp E.S (rs.ts++bn_ ps)}(h:evFun P E eqs tab fn ps rs pl a=some y) :
  CallOK P E f ps rs true a (hfst rs.ts (bn_ ps) (dj_ _ y)) (hsnd rs.ts (bn_ ps) (dj_ _ y)):=by
 intro w z g Bs svs vs V hH j hv;unfold evFun at h;cases U:fn.body with
 | none=>rw[U]at h;cases h
 | some c =>
  rw[U,V]at h;simp only at h;obtain⟨M,h⟩:=dX_ h;refine Ret.mono (R:=λv w'=>EndIs P E z g Bs w ps rs a (hfst rs.ts (bn_ ps) (dj_ _ y)) (hsnd rs.ts (bn_ ps) (dj_ _ y)) v w') ?_ λv w' ⟨z',g',svr,C,q,m,h4,h5⟩=>⟨z',g',svr,C,(λe=>nomatch e),q,m,h4,h5⟩
  refine enter hf U rfl (by rw[jf,←hv.len];exact M) λact hE => ?_
  refine evCode_ok (Bs:=Bs) (F0:=⟨z,g,as_ E ps⟩) (w0:=w) (Qr:=λG F w'=>F.defers=[]/\∃v,(results fn F.tmps).run P w' = .ok v w'/\EndIs P E z g Bs w ps rs a (hfst rs.ts (bn_ ps) (dj_ _ G)) (hsnd rs.ts (bn_ ps) (dj_ _ G)) v w') O ht
   (λb s F w' G hR hy=>retF_ok j hR hy) c pl _ _ _ _ _ y act w _ j h ?_ ?_ ?_
  .refine⟨z,g,⟨hE.size,hE.defers,λt u D => ?_⟩,hH,j,Fz.Le.refl z,Ga.Le.refl g⟩;unfold St.L at D;simp only at D;cases Y:aP_ t (slotsOf 0 svs)with
   | none=>rw[Y]at D;cases D
   | some o =>
    rw[Y]at D;obtain⟨x,v,C,q,m⟩:=slots_in hv 0 t o Y;subst C;obtain rfl:=qSj D;exact⟨v,hE.get t v (by simpa using q),m⟩
  .intro ex s' F w' J Z;cases ex with
   | some i=>cases J
   | none =>
    obtain⟨C,v,q,m⟩:=retF_ok j Z J;exact⟨C,_,q,v,rfl,m⟩
  .intro G F w' J hq;obtain rfl:=qSj J;obtain⟨C,v,q,m⟩:=hq;exact⟨C,_,q,v,rfl,m⟩
end
section
variable{P:Program}{E:TE}{eqs:List (Nat×Nat)}{tab:Tab E}
theorem CallOK.flat{f:FuncId}{ps:List Pm}{rs:Rs}{ali:Bool}{a:PA E ps}{rh:HL E.S rs.ts}{bh:HL E.S (bn_ ps)}(hr:j7_ E rs=true)(hp:fO_ E ps=true)(h:CallOK P E f ps rs ali a rh bh):CallOK P E f ps rs false a rh bh:=by
 intro w z g Bs svs vs C O y Z;refine Ret.mono (h w z g Bs svs vs C O y Z) λv w' ⟨z',g',svr,U,_,h3,D,h5,j⟩=>⟨z,g',svr,Fz.Le.refl z,(λ_=>rfl),h3,D,?_,?_⟩
 .exact rN_ (z:=z') (g:=g') rfl h5 λvs u=>ox_ D D u (λi l _ x=>x) (.inr hr)
 .have key:∀i o,upH (λ_=>none) (dp_ E rs rh (as_ E ps)++bd_ E ps (aJ_ E ps a bh) 0 (as_ E ps+c5_ E rs)) i=some o->Plain E (λ_=>True) o/\k7_ E o:=λi o e=>by
   rcases qY.1 (jN_ e)with hm|hm
   .obtain⟨p,J,G⟩:=rL_ hr i _ hm;obtain⟨V,F,q,_⟩:=gl_ i _ hm;obtain rfl:=qSj J;obtain rfl:=qSj F;exact⟨q _,G⟩
   .obtain⟨p,J,G⟩:=dq_ hp i _ hm;obtain⟨V,F,q,_⟩:=cI_ i _ hm;obtain rfl:=qSj J;obtain rfl:=qSj F;refine⟨?_,G⟩;cases o with
    | box T cs =>
     intro c hc;have:=q c hc;cases c<;>first|trivial|exact this.elim
    | _=>exact q
  refine⟨j.chg,λi o e => ?_,j.own,j.apart,λk m => ?_,λk m => .inl m,λi o k e m Y=>j.fza i o k e m (U k Y).1,O.gl⟩
  .obtain⟨k1,s⟩:=key i o e;exact(ObjR.move k1 (λ_ _ _ x=>x) (.inr s) rfl (j.hold i o e)).1
  .obtain⟨k1,s⟩:=U k m;have M:=j.fz k k1;exact⟨M.1,M.2.trans s⟩
def aj_(E:TE)(ps:List Pm)(rs:Rs)(ali:Bool)(f:PA E ps->Option (Tp E.S (rs.ts++bn_ ps))):Con E:=⟨ps,rs,ali,λ_ a k=>(f a).bind λy=>k (hfst rs.ts (bn_ ps) (dj_ _ y)) (hsnd rs.ts (bn_ ps) (dj_ _ y)),none⟩
theorem ad_(m:∀p∈eqs,ba_ P E p.1 p.2)(u:tab.OK P E){fid:FuncId}{fn:Func}(x:P.funcs[fid]? = some fn){ps:List Pm}{rs:Rs}{ali:Bool}(j:(ali||(j7_ E rs&&fO_ E ps))=true){pl:Pl}{f:PA E ps->Option (Tp E.S (rs.ts++bn_ ps))}
  (h:∀a,f a=evFun P E eqs tab fn ps rs pl a):(aj_ E ps rs ali f).OK P E fid:=by
 intro R a k r hr;obtain⟨y,s,C⟩:=bind_some (show(f a).bind (λy=>k (hfst rs.ts (bn_ ps) (dj_ _ y)) (hsnd rs.ts (bn_ ps) (dj_ _ y)))=some r from hr);rw[h a]at s;have q:=evFun_ok m u x s;refine⟨_,_,C,?_⟩;cases ali with
 | true=>exact q
 | false =>
  simp only[jZ,qAn]at j;exact q.flat j.1 j.2
def idsC:List (SC E)->List Nat | []=>[] | .own id::cs=>id::idsC cs | .ptr id _::cs=>id::idsC cs | .pre id _::cs=>id::idsC cs | .suf id _::cs=>id::idsC cs | .mp id::cs=>id::idsC cs | .clo _ ids::cs=>ids++idsC cs|_::cs=>idsC cs
def idsX:List (V1 E)->List Nat | []=>[]|x::xs=>idsC x.cs++idsX xs
def pG_(H:Nat->Option (Obj E)):Nat->List Nat->List Nat
 | 0,l=>l
 | d+1,l=>l++pG_ H d (l.flatMap λi=>match H i with
  | some (.box _ cs)=>idsC cs
  | _=>[])
def onlyH(l:List Nat)(H:Nat->Option (Obj E)):Nat->Option (Obj E):=λi=>match aC_ i l with|true=>H i|false=>none
abbrev EndI(E:TE):=List (V1 E)×(Nat->Option (Obj E))×List Nat×Nat
def resI(P:Program)(E:TE)(vs:List ResultVar)(b:Ba E)(s:St E):Option (EndI E):=match resXs E P b s vs with|some xs=>some (xs,s.H b,s.heap.map (·.1),s.nx)|none=>none
def chsI(l:List Nat)(H:Nat->Option (Obj E)):Chs E:=l.map λi=>(i,H i)
def finI(E:TE)(cand:List Nat){R:Type}(k:Option (SV E)->Chs E->Option R)(y:EndI E):Option R:=k (some (oneV E y.1)) ((y.2.2.2+200,none)::chsI (cand++y.2.2.1) y.2.1)
noncomputable def inlF(P:Program)(E:TE)(eqs:List (Nat×Nat))(tab:Tab E)(fn:Func)(pl:Pl):InlF E:=λH nx xs R k=>match fn.body with
 | none=>none
 | some c=>fi_ (Nat.ble xs.length fn.ntmps)<|evCode P E eqs tab fn.ntmps (EndI E) (resI P E fn.results.toList) c pl R ⟨λ_=>none,onlyH (pG_ H 3 (idsX xs)) H,nx⟩ ⟨slotsOf 0 xs,none,[],none,nx⟩ (λex s=>match ex with
   | none=>match resI P E fn.results.toList ⟨λ_=>none,onlyH (pG_ H 3 (idsX xs)) H,nx⟩ s with
    | some y=>finI E (pG_ H 3 (idsX xs)) k y
    | none=>none
   | some _=>none) (finI E (pG_ H 3 (idsX xs)) k)
theorem chsI_look{H H':Nat->Option (Obj E)}{i:Nat}:∀{l:List Nat},upH H (chsI l H') i=match aC_ i l with
  | true=>H' i
  | false=>H i
 | []=>rfl
 | j::l=>by
  simp only[chsI,zB,upH,aC_];cases f:Nat.beq i j with
  | true =>
   obtain rfl:=qNb f;rfl
  | false=>exact chsI_look
theorem m7_{l:List Nat}{H:Nat->Option (Obj E)}{i:Nat}{o:Obj E}(h:onlyH l H i=some o):i∈l/\H i=some o:=by
 unfold onlyH at h;split at h
 .rename_i hm;exact⟨memN_true.1 hm,h⟩
 .cases h
theorem sS_(ZT:∀p∈eqs,ba_ P E p.1 p.2)(ht:tab.OK P E){f:FuncId}{fn:Func}(hf:P.funcs[f]? = some fn){pl:Pl}:InlOK P E f (inlF P E eqs tab fn pl):=by
 intro z g nx H xs vs R k r Bs F0 w0 w ZZ hH hv h;unfold inlF at h;cases hb:fn.body with
 | none=>rw[hb]at h;cases h
 | some c =>
  rw[hb]at h;simp only at h;obtain⟨U,h⟩:=dX_ h;generalize ZS:pG_ H 3 (idsX xs)=cand at h
  -- the memory that is known, seen from ZP
  let B:List Nat:=(cand.map (blk (onlyH cand H) g)).flatten
  have hB:∀i p k,onlyH cand H i=some p->fpO g i p k->k∈B:=λi p k e G=>jD.2 ⟨_,zQ.2 ⟨i,(m7_ e).1,rfl⟩,mem_blk.2 ⟨p,e,G⟩⟩
  have ZQ:∀k,k∈B->∃i p,i∈cand/\H i=some p/\fpO g i p k:=λk G=>by
   obtain⟨_,i,p,_,Z,h6⟩:=k6_ G;exact⟨i,p,(m7_ Z).1,(m7_ Z).2,h6⟩
  have hp:=hH.part (λ_ _ e=>(m7_ e).2) hB
  -- what is to be shown of the end
  let Q:EndI E->Value->World->Prop:=λy v w'=>∃z2 m,z.Le z2/\g.Le m/\Fresh m y.2.2.2/\RV P E z2 m (oneV E y.1) v/\HR P E B z.F w w' z2 m y.2.1
  have O:∀(b:Ba E) (s:St E) (act:Act) (w':World) (y:EndI E),Rel P E B ⟨z,g,nx⟩ w fn.ntmps (s.L b) (s.H b) s.nx act w'->resI P E fn.results.toList b s=some y ->
    act.defers=[]/\∃v,(results fn act.tmps).run P w' = .ok v w'/\Q y v w':=by
   intro b s act w' y hR q;obtain⟨z1,g1,hE,ZY,ZU,ZX,ZV⟩:=hR;unfold resI at q;split at q
   .rename_i ys ZW;obtain rfl:=qSj q;obtain⟨us,D,C⟩:=tN_ hE ZY ZW;exact⟨hE.defers,_,tuple_out rfl D,z1,g1,ZX,ZV,ZU,oneV_ok C,ZY⟩
   .cases q
  have M:∀(y:EndI E) (v:Value) (w':World),finI E cand k y=some r->Q y v w'->∃s u z2 m,k (some s) u=some r/\z.Le z2/\g.Le m/\Fresh m (nxU nx u)/\RV P E z2 m s v/\HR P E Bs F0 w0 w' z2 m (upH H u):=by
   intro y v w' q ⟨z2,m,D,C,h3,h4,Z⟩;refine⟨_,_,z2,m,q,D,C,λi hi=>h3 i ?_,h4,?_⟩
   .simp only[nxU]at hi;split at hi<;>rename_i hb
    .omega
    .have:¬(nx+1+((chsI (cand++y.2.2.1) y.2.1).length+1)<=y.2.2.2+200+1):=λU=>by
      rw[zt U]at hb;cases hb
     omega
   refine hH.back (I:=cand) (s:=λj i=>j=i) Z (λk G=>ZQ k G) C (λj p V => ?_) (λj j' i J h8=>J.trans h8.symm) (λj i p J h8=>by subst J;exact⟨Z.hold _ _ h8,λ_=>Iff.rfl⟩) D Z.fz λk G => ?_
   .simp only[upH]at V;split at V
    .cases V
    .rw[chsI_look]at V;split at V
     .exact .inl ⟨j,rfl,V⟩
     .rename_i hm;refine .inr ⟨λhc => ?_,V⟩;rw[memN_true.2 (qY.2 (.inl hc))]at hm;cases hm
   .rcases Z.fz0 k G with J|J|J
    .exact .inl J
    .exact .inr ⟨.inl J,G⟩
    .exact .inr ⟨.inr J,G⟩
  refine enter hf hb rfl (by rw[jf,←hv.len];exact U) λact hE => ?_
  refine evCode_ok (Bs:=B) (F0:=⟨z,g,nx⟩) (w0:=w) (Qr:=λy' a' w'=>a'.defers=[]/\∃v,(results fn a'.tmps).run P w' = .ok v w'/\Q y' v w') ZT ht
   (λb s a' w' y' hR q=>O b s a' w' y' hR q) c pl _ _ _ _ _ r act w _ ZZ h ?_ ?_ ?_
  .refine⟨z,g,⟨hE.size,hE.defers,λt u hu => ?_⟩,hp,ZZ,Fz.Le.refl z,Ga.Le.refl g⟩;unfold St.L at hu;simp only at hu;cases ha:aP_ t (slotsOf 0 xs)with
   | none=>rw[ha]at hu;cases hu
   | some o =>
    rw[ha]at hu;obtain⟨x,v,D,C,h3⟩:=slots_in hv 0 t o ha;subst D;obtain rfl:=qSj hu;exact⟨v,hE.get t v (by simpa using C),h3⟩
  .intro ex s' a' w' Y ZR;cases ex with
   | some i=>cases Y
   | none =>
    simp only at Y;split at Y
    .rename_i y q;obtain⟨D,v,C,h3⟩:=O _ _ _ _ _ ZR q;exact⟨D,_,C,v,rfl,M y v w' Y h3⟩
    .cases Y
  .intro y' a' w' Y hq;obtain⟨D,v,C,h3⟩:=hq;exact⟨D,_,C,v,rfl,M y' v w' Y h3⟩
end
section
variable{P:Program}{E:TE}
theorem jR_:∀{ps:List Pm} {a:PA E ps} {n:Nat},mZ_ ps=false->bB_ E ps a n=[]
 | [],_,_,_=>rfl
 | .l _ _::_,_,_,h=>by cases h
 | .g _ _::_,_,_,h=>by cases h
 | .mp _ _ _::_,_,_,h=>by cases h
 | .b _ _::_,_,_,h=>by cases h
 | .bm _ _ _ _::_,_,_,h=>by cases h
 | .d _::ps,a,n,h=>jR_ (ps:=ps) (a:=a.2) (n:=n) h
 | .p _::ps,a,n,h=>jR_ (ps:=ps) (a:=a.2) (n:=n) h
 | .f1 _ _::ps,a,n,h=>jR_ (ps:=ps) (a:=a.2) (n:=n) h
 | .f2 _ _ _::ps,a,n,h=>jR_ (ps:=ps) (a:=a.2) (n:=n) h
theorem mh_:∀{ps:List Pm} {a:PA E ps} {n k:Nat},mZ_ ps=false->bd_ E ps a n k=[]
 | [],_,_,_,_=>rfl
 | .l _ _::_,_,_,_,h=>by cases h
 | .g _ _::_,_,_,_,h=>by cases h
 | .mp _ _ _::_,_,_,_,h=>by cases h
 | .b _ _::_,_,_,_,h=>by cases h
 | .bm _ _ _ _::_,_,_,_,h=>by cases h
 | .d _::ps,a,n,k,h=>mh_ (ps:=ps) (a:=a.2) (n:=n) (k:=k) h
 | .p _::ps,a,n,k,h=>mh_ (ps:=ps) (a:=a.2) (n:=n) (k:=k) h
 | .f1 _ _::ps,a,n,k,h=>mh_ (ps:=ps) (a:=a.2) (n:=n) (k:=k) h
 | .f2 _ _ _::ps,a,n,k,h=>mh_ (ps:=ps) (a:=a.2) (n:=n) (k:=k) h
theorem rU_{f:FuncId}{ps:List Pm}{r:Ty}{a:PA E ps}{y:Den E.S r}{bh:HL E.S (bn_ ps)}(hr:r.flatB=true)(q:mZ_ ps=false){svs0:List (V1 E)}{us:List Value}{v:Value}(J:ck_ E ps a 0=some svs0)(G:encVs svs0=some us)(C:(V1.one (.dt r y):V1 E).enc=some v)
  (h:∀w z,z.In w->Glo E z->Ret P f us.toArray w λu w'=>u=v/\Ext w w'):CallOK P E f ps [(r,[])] false a (y,()) bh:=by
 intro w z g Bs svs vs j p F m;rw[J]at j;obtain rfl:=qSj j;obtain rfl:=(nO_ G).1 m;refine(h w z p.fz p.gl).mono λu w' ⟨D,x⟩ => ?_
 subst D;refine⟨z,g,[.one (.dt r y)],Fz.Le.refl z,λ_=>rfl,Ga.Le.refl g,?_,(show R1 P E z g (.one (.dt r y)) u from(V1.enc_ok C).2 rfl),?_⟩
 .cases r with
  | int k=>rfl
  | bool=>rfl
  | str=>rfl
  | _=>cases hr
 .have s:=p.ext x;rw[jR_ q]at s;rw[mh_ q];have M:dp_ E [(r,([]:Mk))] (y,()) (as_ E ps)=[]:=by
   cases r with
   | int k=>rfl
   | bool=>rfl
   | str=>rfl
   | _=>cases hr
  rw[M];exact s
theorem callOK_flat{f:FuncId}{ps:List Pm}{r:Ty}{a:PA E ps}{y:Den E.S r}{bh:HL E.S (bn_ ps)}(hr:r.flatB=true)(m:mZ_ ps=false){svs0:List (V1 E)}{us:List Value}{v:Value}(q:ck_ E ps a 0=some svs0)(p:encVs svs0=some us)(j:(V1.one (.dt r y):V1 E).enc=some v)
  (h:∀w,Ret P f us.toArray w λu w'=>u=v/\Ext w w'):CallOK P E f ps [(r,[])] false a (y,()) bh :=
 rU_ hr m q p j λw _ _ _=>h w
theorem h5_{f:FuncId}{ps:List Pm}{rs:Rs}{ali:Bool}{F:PA E ps->Option (Tp E.S (rs.ts++bn_ ps))}(h:∀a,F a=none):(aj_ E ps rs ali F).OK P E f:=λR a k r hr=>by
 have:(F a).bind (λy=>k (hfst rs.ts (bn_ ps) (dj_ _ y)) (hsnd rs.ts (bn_ ps) (dj_ _ y)))=some r:=hr;rw[h a]at this;cases this
def tnil:Tab E:=λ_=>none
theorem ae_:(tnil:Tab E).OK P E:=λ_ _ h=>by cases h
def tb(f:Nat)(C:Con E)(r:Tab E):Tab E:=λn=>match Nat.beq n f with|true=>some C|false=>r n
theorem ac_{f:Nat}{C:Con E}{r:Tab E}(h:Con.OK P E f C/\dU_ P f=true)(hr:r.OK P E)(p:C.I=none:=by rfl):(tb f C r).OK P E:=λn D j=>by
 unfold tb at j;split at j
 .rename_i m;obtain rfl:=qNb m;obtain rfl:=qSj j;exact⟨h.1,h.2,λI e=>by rw[p]at e;cases e⟩
 .exact hr n D j
def inlC(I:InlF E):Con E:=⟨[.b 0 .bool],[],true,λ_ _ _=>none,some I⟩
def ti(f:Nat)(I:InlF E)(r:Tab E):Tab E:=tb f (inlC I) r
theorem ti_ok{f:Nat}{I:InlF E}{r:Tab E}(h:InlOK P E f I/\dU_ P f=true)(hr:r.OK P E):(ti f I r).OK P E:=λn D j=>by
 unfold ti tb at j;split at j
 .rename_i m;obtain rfl:=qNb m;obtain rfl:=qSj j;refine⟨(λR a k r hr=>nomatch hr),h.2,λJ e=>⟨rfl,?_⟩⟩;obtain rfl:=qSj e;exact h.1
 .exact hr n D j
end
open Go.ChangeShapes Go.WideShapes Go.Deep
def InK(k:IntKind)(n:Int):Prop:=k.min<=n/\n<=k.max
abbrev I64(n:Int):Prop := -9223372036854775808<=n/\n<=9223372036854775807
def FitL{S:Nat->Type}(f:(t:Ty)->Den S t->Prop):(ts:List Ty)->HL S ts->Prop | [],_=>True|t::ts,h=>f t h.1/\FitL f ts h.2
def FitC(E:TE):Nat->(t:Ty)->Den E.S t->Prop|_,.int k,x=>InK k x|_,.bool,_=>True|_,.str,s=>s.length<=9223372036854775807 | 0,.sl _,xs=>xs.length<=9223372036854775807|k+1,.sl e,xs=>xs.length<=9223372036854775807/\∀x∈xs,FitL (FitC E k) (E.flat e) (E.fl e x)|_,.st _,_=>True
def Fit(E:TE)(t:Ty)(x:Den E.S t):Prop:=∀k,FitL (FitC E k) (E.flat t) (E.fl t x)
theorem FitL.app{S:Nat->Type}{f:(t:Ty)->Den S t->Prop}:∀{ts us:List Ty} {h:HL S ts} {k:HL S us},FitL f ts h->FitL f us k->FitL f (ts++us) (hap h k)
 | [],_,_,_,_,j=>j
 | _::_,_,_,_,m,j=>⟨m.1,m.2.app j⟩
section
variable{E:TE}{z:Fz}
theorem RD.app:∀{ts us:List Ty} {h:HL E.S ts} {k:HL E.S us} {vs f:List Value},RD E z ts h vs->RD E z us k f->RD E z (ts++us) (hap h k) (vs++f)
 | [],_,_,_,_,_,m,j=>by rw[m.nil_inv];exact j
 | t::ts,us,h,k,vs,f,m,j=>by
  obtain⟨v,vs',rfl,q,p⟩:=m.uncons;exact RD.cons q (p.app j)
def prefB(ts us:List Ty):Bool:=decide (us.take ts.length=ts)
theorem prefB_eq{ts us:List Ty}(h:prefB ts us=true):us=ts++us.drop ts.length:=by
 unfold prefB at h;have j:=of_decide_eq_true h;have f:=zl ts.length us;rw[j]at f;exact f.symm
def nV_(P:Program)(E:TE)(f:TypeId->Ty->Bool)(total:Nat):Nat->List Field->List Ty->Bool
 | off,[],ts=>Nat.beq off total&&ts.isEmpty
 | off,g::gs,ts=>match E.ty g.type with
  | some t=>Nat.beq g.offset off&&(f g.type t&&(prefB (E.flat t) ts&&nV_ P E f total (off+P.cellsOf g.type) gs (ts.drop (E.flat t).length)))
  | none=>false
def arrTy(E:TE)(t:Ty):Nat->List Ty->Bool | 0,ts=>ts.isEmpty|n+1,ts=>prefB (E.flat t) ts&&arrTy E t n (ts.drop (E.flat t).length)
def tyOK(P:Program)(E:TE):Nat->TypeId->Ty->Bool
 | 0,_,_=>false
 | n+1,T,t=>match P.underlying T,t with
  | some (.int k),.int f=>decide (k=f)
  | some .bool,.bool=>true
  | some .string,.str=>true
  | some (.slice e),.sl t=>tyOK P E n e t&&Nat.beq (P.cellsOf e) (E.size t)
  | some (.struct fs),.st m=>nV_ P E (tyOK P E n) (P.cellsOf T) 0 fs.toList (E.cs m)
  | some (.array c e),.st m=>match E.ty e with
   | some t=>tyOK P E n e t&&(Nat.beq (c*P.cellsOf e) (P.cellsOf T)&&arrTy E t c (E.cs m))
   | none=>false
  | _,_=>false
end
section
variable{H:Type}{enc:TypeId×Value->H}{P:Program}{E:TE}{w:World}{spare:Nat->Bool}{held:Bool}
def fC_(w:World):Fz:=⟨λk=>k<w.heap.size,w⟩
def Opens(E:TE)(w:World)(ts:List Ty)(cs:List Value):Prop:=∃h:HL E.S ts,RD E (fC_ w) ts h cs/\∀k,FitL (FitC E k) ts h
theorem Opens.app{ts us:List Ty}{cs ds:List Value}(s:Opens E w ts cs)(q:Opens E w us ds):Opens E w (ts++us) (cs++ds):=by
 obtain⟨h,p,m⟩:=s;obtain⟨k,j,f⟩:=q;exact⟨hap h k,p.app j,λn=>(m n).app (f n)⟩
theorem rW_{f:TypeId->Ty->Bool}{total m:Nat}(s:∀T t cs (x:DataW H×List MemPlace),f T t=true->DataW.trod enc P w 0 spare held m T cs=some x->Opens E w (E.flat t) cs){cs:List Value}(j:cs.length=total) :
  ∀{gs:List Field} {off:Nat} {ts:List Ty} {xs:List (DataW H×List MemPlace)},nV_ P E f total off gs ts=true->xs.length=gs.length ->
   (∀(i:Nat) (g:Field),gs[i]? = some g->DataW.trod enc P w 0 spare held m g.type ((cs.drop g.offset).take (P.cellsOf g.type))=xs[i]?)->Opens E w ts (cs.drop off)
 | [],off,ts,xs,h,_,_=>by
  simp only[nV_,qAn]at h;obtain rfl:off=total:=qNb h.1;obtain rfl:ts=[]:=by simpa using h.2
  rw[jI (by omega)];exact⟨(),.nil,λ_=>trivial⟩
 | g::gs,off,ts,xs,h,q,p=>by
  simp only[nV_]at h;split at h
  .rename_i t y;simp only[qAn]at h;obtain⟨O,M,J,G⟩:=h;obtain rfl:g.offset=off:=qNb O;cases xs with
   | nil=>simp at q
   | cons x xs =>
    have u:=p 0 g rfl;simp only[je]at u;have F:=s _ _ _ _ M u;have D:=rW_ s j G (by simpa using q) (λi g' C=>by simpa using p (i+1) g' (by simpa using C));have:=F.app D;rw[←prefB_eq J,←jV,zl]at this;exact this
  .cases h
theorem arr_opens{c m e n:Nat}{t:Ty}{cs:List Value}(f:cs.length=n*c)(j:∀i,i<n->Opens E w (E.flat t) ((cs.drop (i*c)).take c)):∀{k:Nat} {ts:List Ty},k<=n->arrTy E t k ts=true->Opens E w ts (cs.drop ((n-k)*c))
 | 0,ts,_,h=>by
  obtain rfl:ts=[]:=by simpa[arrTy]using h
  rw[jI (by rw[f,Nat.sub_zero];exact qA _)];exact⟨(),.nil,λ_=>trivial⟩
 | k+1,ts,u,h=>by
  simp only[arrTy,qAn]at h;have q:=j (n-(k+1)) (by omega);have p:=arr_opens (m:=m) (e:=e) f j (k:=k) (by omega) h.2;have:=q.app p;rw[←prefB_eq h.1]at this;have s:(n-k)*c=(n-(k+1))*c+c:=by
   rw[show n-k=n-(k+1)+1 by omega,zD]
  rw[s,←jV,zl]at this;exact this
theorem m8_:∀{n fuel:Nat} {T:TypeId} {t:Ty} {cs:List Value} {x:DataW H×List MemPlace},tyOK P E n T t=true->DataW.trod enc P w 0 spare held fuel T cs=some x->Opens E w (E.flat t) cs
 | 0,_,_,_,_,_,h,_=>by cases h
 | n + 1,fuel,T,t,cs,x,h,Z=>by
  simp only[tyOK]at h;split at h
  .rename_i k k' p;obtain rfl:=of_decide_eq_true h;obtain⟨m,rfl,rfl,hw⟩:=DataW.trod_int p Z;exact⟨(m,()),.int .nil,λ_=>⟨by simpa[Lit.wf,InK,FitC]using hw,trivial⟩⟩
  .rename_i p;obtain⟨b,rfl,rfl⟩:=DataW.trod_bool p Z;exact⟨(b,()),.bool .nil,λk=>⟨by cases k<;>trivial,trivial⟩⟩
  .rename_i p;obtain⟨s,rfl,rfl,hs⟩:=DataW.trod_string p Z;refine⟨(s.data.toList,()),?_,λk=>⟨?_,trivial⟩⟩
   .have:Value.string s=S s.data.toList:=by simp[S]
    rw[this];exact .str .nil
   .have e:FitC E k .str s.data.toList=(s.data.toList.length<=9223372036854775807):=by cases k<;>rfl
    show FitC E k .str s.data.toList;rw[e];have:s.data.toList.length=s.size:=by rw[qi];rfl
    rw[this];exact hs
  .rename_i e t p;simp only[qAn]at h;have hC:P.cellsOf e=E.size t:=qNb h.2;rcases open_slice p Z with⟨rfl,_⟩|⟨a,len,cap,m,q,D,Pl,rfl,_,hl,hm,ZY,C,hi⟩
   .exact⟨([],()),.sl (rows:=[]) (SlF.nil _ _ _ _) (qA _) (λi x r h=>by simp at h) .nil,λk=>⟨by cases k<;>simp[FitC],trivial⟩⟩
   .have ZT:len<=m:=by rw[ZY];split<;>omega
    have hc:0<E.size t:=E.size_pos t
    let row:Nat->List Value:=λi=>(w.cells? 0 (a.add (i*E.size t)) (E.size t)).getD []
    have G:∀i,i<len->w.cells? 0 (a.add (i*E.size t)) (E.size t)=some (row i)/\Opens E w (E.flat t) (row i):=λi J=>by
     obtain⟨cs',M,y⟩:=hi i (by omega);rw[hC]at M;simp only[row,M,zw];exact⟨trivial,m8_ h.1 y⟩
    have O:∀j,j<=len->∃xs:List (Den E.S t),xs.length=j/\∀i x,xs[i]? = some x->RD E (fC_ w) (E.flat t) (E.fl t x) (row i)/\∀k,FitL (FitC E k) (E.flat t) (E.fl t x):=by
     intro j
     induction j with
     | zero=>intro _;exact⟨[],rfl,λi x h=>by simp at h⟩
     | succ j ih =>
      intro hj;obtain⟨xs,M,y⟩:=ih (by omega);obtain⟨hh,h3,h4⟩:=(G j (by omega)).2;refine⟨xs++[E.ufl t hh],by simp[M],λi x C => ?_⟩;rw[List.getElem?_append]at C;split at C
      .exact y i x C
      .rename_i ZS;have ZW:i=j:=by
        have:i-xs.length<1:=by
         rcases qN (i-xs.length) 1 with h5|h5
         .exact h5
         .rw[qa (by simpa using h5)]at C;cases C
        omega
       subst ZW;rw[M,Nat.sub_self]at C;simp only[je,qOi]at C;subst C;rw[E.fl_ufl];exact⟨h3,h4⟩
    obtain⟨xs,f,O⟩:=O len (qA _);have hr:∀(i:Nat) x r,xs[i]? = some x->((List.range len).map row)[i]? = some r->RD E (fC_ w) (E.flat t) (E.fl t x) r:=λi x r M y=>by
     have ZX:i<len:=by rw[←f];exact(qZ.1 M).1
     rw[qm,List.getElem?_range ZX]at y;simp only[qM,qOi]at y;subst y;exact(O i x M).1
    refine⟨(xs,()),?_,λk=>⟨?_,trivial⟩⟩
    .have hs:SlF (fC_ w).F (E.size t) (some a) xs.length ((List.range len).map row) (fC_ w).w:=by
      refine⟨by simp[f],λhn => ?_⟩;obtain⟨b,off,spot⟩:=a;rw[f]at hn;have g0:=(World.cells?_some (G 0 hn).1).2;have V:=g0.2 0 hc;obtain⟨c0,ZV⟩:∃c0,(row 0)[0]? = some c0:=⟨(row 0)[0]'(by rw[g0.1];exact hc),qQ _⟩;rw[ZV]at V;have U:spot=none:=by simpa[Addr.add]using World.cell?_spot V
      subst U;refine⟨b,off,rfl,?_,λi r hr => ?_⟩
      .have hb:((Addr.add ⟨b,off,none⟩ (0*E.size t)).add 0).block=b:=by rw[Addr.add_mk,Addr.add_mk]
       unfold World.cell? at V;split at V
       .rename_i heap _ _ hh;rw[hb]at hh;show b<w.heap.size;rcases qN b w.heap.size with h'|h'
        .exact h'
        .rw[qy h']at hh;cases hh
       .cases V
      .rw[qm]at hr;by_cases J:i<len
       .rw[List.getElem?_range J]at hr;simp only[qM,qOi]at hr;subst hr;obtain⟨_,y,h3⟩:=World.cells?_some (G i J).1;refine⟨y,λj u p => ?_⟩;have hj:j<E.size t:=by rw[←y];exact(qZ.1 p).1
        have:=h3 j hj;rw[Addr.add_mk,Addr.add_mk]at this;show w.cell? _=_;rw[this];exact p
       .rw[qa (by simp;omega)]at hr;cases hr
     have:=RD.sl (E:=E) (z:=fC_ w) (e:=t) (xs:=xs) (cap:=cap) (ts:=[]) (h:=()) hs (by rw[f];exact hl) hr .nil;rw[f]at this;exact this
    .have hb:xs.length<=9223372036854775807:=by unfold maxLen at hm;omega
     cases k with
     | zero=>exact hb
     | succ k =>
      refine⟨hb,λx C => ?_⟩;obtain⟨i,J⟩:=qO.1 C;exact(O i x J).2 k
  .rename_i fs m p;obtain⟨xs,q,_,rfl,Y,f,hf⟩:=DataW.trod_struct p Z;have:=rW_ (λT t cs x hk ht=>m8_ (n:=n) hk ht) Y h (by simpa using f) (λi g V=>hf i g (by simpa using V));rw[zm]at this;exact this
  .rename_i c e m p;split at h
   .rename_i t ZU;simp only[qAn]at h;obtain⟨M,y,h3⟩:=h;obtain⟨xs,q,_,rfl,Y,f,hf⟩:=DataW.trod_array p Z;have ZZ:cs.length=c*P.cellsOf e:=by rw[Y];exact(qNb y).symm
    have:=arr_opens (c:=P.cellsOf e) (m:=0) (e:=0) (t:=t) ZZ (λi hi=>by
     have:=hf i hi;rw[qQ (by omega)]at this;exact m8_ M this) (qA c) h3
    rw[Nat.sub_self,Nat.zero_mul,zm]at this;exact this
   .cases h
  .cases h
theorem qH_{r:Reach}{O n:Nat}{T:TypeId}{t:Ty}{v:Value}{d:DataW H}{ps:List MemPlace}(q:tyOK P E n T t=true)(p:Value.okWide P w r O T v)(h:DataW.Trod enc P w 0 spare held T v d ps) :
  ∃x:Den E.S t,(∃y,asV E t (E.cells t x)=some y/\∀(g:Ga),R1 P E (fC_ w) g y v)/\Fit E t x:=by
 obtain⟨fuel,F⟩:=h;obtain⟨u,M,J⟩:=m8_ q F;refine⟨E.ufl t u,?_,λk=>by rw[E.fl_ufl];exact J k⟩;have f:RD E (fC_ w) (E.flat t) (E.fl t (E.ufl t u)) v.cells.toList:=by rw[E.fl_ufl];exact M
 have s:RT E (fC_ w) t (E.ufl t u) v:=by
  cases n with
  | zero=>cases q
  | succ n =>
   simp only[tyOK]at q;split at q
   .rename_i k V j;obtain⟨m,rfl⟩:=okWide_int j p;exact f
   .rename_i j;obtain⟨m,rfl⟩:=okWide_bool j p;exact f
   .rename_i j;obtain⟨m,rfl⟩:=okWide_string j p;exact f
   .rename_i e t j;obtain⟨a,len,cap,rfl⟩:=okWide_slice j p;exact f
   .rename_i fs m j;obtain⟨cs,rfl,_⟩:=okWide_struct j p;exact⟨cs.toList,by rw[zW],f⟩
   .rename_i c e m j;simp only[Value.okWide,j]at p;obtain⟨cs,rfl,_⟩:=p;exact⟨cs.toList,by rw[zW],f⟩
   .cases q
 obtain⟨y,D,Y⟩:=pA_ (P:=P) s (λ_ => .none);refine⟨y,D,λg => ?_⟩;obtain⟨U,C,G⟩:=pA_ (P:=P) s g;rw[D]at C;obtain rfl:=qSj C;exact G
theorem law_of_con{f:FuncId}{ps:List Pm}{F:PA E ps->Option (Tp E.S (Rs.ts [(.bool,[])]++bn_ ps))}{ali:Bool}(M:(aj_ E ps [(.bool,[])] ali F).OK P E f)(J:mZ_ ps=false){a:PA E ps}{y:Tp E.S (Rs.ts [(.bool,[])]++bn_ ps)}(O:F a=some y)
  (G:(hfst (Rs.ts [(.bool,[])]) (bn_ ps) (dj_ _ y)).1=true) {svs:List (V1 E)} (q:ck_ E ps a 0=some svs) {vs:List Value} (p:All2 (R1 P E (fC_ w) λ_=>none) svs vs) (C:Glo E (fC_ w)) :
  Ret P f vs.toArray w λv w'=>v = .bool true/\Below w.heap.size w w':=by
 obtain⟨rh,bh,u,h⟩:=M Bool a (λrh _=>some rh.1) true (by
  show(F a).bind _=_;rw[O];exact qH some G)
 have x:(fC_ w).In w:=λk u=>⟨u,rfl⟩
 refine(h w (fC_ w) (λ_=>none) [] svs vs q (by
  show HR P E [] (fC_ w).F w w (fC_ w) (λ_=>none) (upH (λ_=>none) (bB_ E ps a 0));rw[jR_ J];exact HR.nothing x C _) (λ_ _=>rfl) p).mono λv w' ⟨z',g',svr,_,_,_,m,j,D⟩ => ?_
 refine⟨?_,D.chg.below⟩;have s:rh.1=true:=qSj u;have e:svr=[.one (.dt .bool rh.1)]:=(qSj m).symm;subst e;rw[s]at j;exact SV.bool_ok rfl j
end
end Rt
namespace Rt
def gI_{α:Type}[Inhabited α](key:α->Int)(xs:List α):Option (List α):=if xs.length<4611686018427387904 then some (Sort.pdq (λx y=>decide (key x<key y)) xs.toArray 0 xs.length (Lib.bitLen xs.length) true true).toList else none
end Rt
end Go
