/-
 What the statements of this seat hang on,part 4: Sb Sq Sr Sc Sd Se Sf Sp Sg Sh Si Sj Sk St Sn Open.
-/
import Derived.Test.YtfbcbakhdkppoaaGreatDoorWD3
import Derived.Deep.Slices
import Derived.ChangeSame
import Derived.ProofKit
namespace Go
namespace Rt
open Go.RowKit
variable{P:tT}{E:TE}{eqs:tL (Nat×Nat)}{tab:Tab E}{N:Nat}{Bs:tL Nat}{F0:Org}{w0:tS}
theorem new_L(b:Ba E)(s:St E)(nx:Nat):(St.new nx).L (s.base b)=s.L b:=rfl
theorem new_H(b:Ba E)(s:St E)(nx:Nat):(St.new nx).H (s.base b)=s.H b:=rfl
theorem memN_true{t:Nat}:∀{l:tL Nat},ay_ t l=true↔t∈l
 | []=>by simp[ay_]
 | u::l=>by
  simp only[ay_];split
  .rename_i f;obtain rfl:=qNb f;simp
  .rename_i f;have:=bv_ f;rw[memN_true];simp[this]
theorem rk_{ds:tL Nat}{t:Nat}:∀{l:tL (Nat×tO (SV E))},keysIn ds l=true->ay_ t ds=false->aK_ t l=none
 | [],_,_=>rfl
 | p::l,h,f=>by
  simp only[keysIn,qAn]at h;simp only[aK_];split
  .rename_i j;obtain rfl:=qNb j;rw[h.1]at f;cases f
  .exact rk_ h.2 f
theorem oj_{f:Nat->tO (Obj E)}{n i:Nat}(hi:i<n):∀{l:Chs E},nv_ n l=true->upH f l i=f i
 | [],_=>rfl
 | p::l,h=>by
  simp only[nv_,qAn]at h;have:=zD h.1;simp only[upH];split
  .rename_i j;have:=qNb j;omega
  .exact oj_ hi h.2
theorem skip_dst{idx d:Nat}{w:tV}:∀{l:tL tP} {i:Nat},skipB idx d w l i=true->ay_ d (ex_ l)=false
 | [],_,_=>rfl
 | o::l,i,h=>by
  simp only[skipB,qAn]at h;obtain⟨f,q⟩:=h;split at f
  .rename_i j w' u s p;simp only[qAn,qo]at f;simp only[ex_,p,ay_];rw[f.2];exact skip_dst q
  .cases f
theorem clear_in{t:Nat}:∀{ds:tL Nat} {l:tL (Nat×tO (SV E))},ay_ t ds=true->aK_ t (clear ds++l)=some none
 | [],_,h=>by simp[ay_]at h
 | d::ds,l,h=>by
  unfold clear;simp only[zH,qc,aK_];by_cases f:Nat.beq t d=true
  .rw[f]
  .rw[Bool.not_eq_true]at f;rw[f];refine clear_in (ds:=ds) ?_;simpa only[ay_,f]using h
theorem clear_out{t:Nat}:∀{ds:tL Nat} {l:tL (Nat×tO (SV E))},ay_ t ds=false->aK_ t (clear ds++l)=aK_ t l
 | [],_,_=>rfl
 | d::ds,l,h=>by
  unfold clear;simp only[zH,qc,aK_];by_cases f:Nat.beq t d=true
  .simp[ay_,f]at h
  .rw[Bool.not_eq_true]at f;rw[f];refine clear_out (ds:=ds) ?_;simpa only[ay_,f]using h
def jk_(ds:tL Nat)(L:Nat->tO (SV E))(t:Nat):tO (SV E):=if ay_ t ds then none else L t
theorem nE_{all:tL tP}{gd:Gd}{o:tP}{L L':Nat->tO (SV E)}(h:gdOK all gd L)(p:dstOK o gd=true)(q:∀t,(∀d,o.dst=some d->t≠d)->L' t=L t):gdOK all gd L':=by
 unfold gdOK at *
 split
 .trivial
 .rename_i j w d;obtain⟨x,c,u,s⟩:=h;refine⟨x,c,?_,s⟩;rw[q d λy f => ?_]
  .exact u
  .unfold dstOK at p;simp only[f,qo]at p;exact bv_ p
theorem drop_next{all l tl:tL tP}{o:tP}{i:Nat}(h:all.drop i=(o::l)++tl):all[i]? = some o/\all.drop (i+1)=l++tl:=by
 constructor
 .have:(all.drop i)[0]? = some o:=by rw[h];rfl
  rw[zW]at this;simpa using this
 .have:=qa (List.drop 1) h;rw[zz]at this;simpa[Nat.add_comm]using this
theorem drop_more{all l m tl:tL tP}{i:Nat}(h:all.drop i=(l++m)++tl):all.drop (i+l.length)=m++tl:=by
 have:=qa (List.drop l.length) h;rw[zz,qS,List.drop_left]at this;exact this
theorem pick_run{o:tP}{d:Nat}{x y:tI}{ρ:tI->tW}{c e:tV}(h:o.op = .pick (.tmp d) x y)(j:ρ (.tmp d) = .bool c)(f:(bif c then ρ x else ρ y) = .bool e)(w:tS):(execOp ρ o).run P w = .ok (.value (.bool e)) w:=by
 unfold execOp;rw[h];simp only[j];cases c with
 | true=>simp only[qW]at f;simp[asBool,f]
 | false=>simp only[qZ]at f;simp[asBool,f]
theorem ft_ {ev:Ev E} {all:tL tP} (wk:Walk P E ev N Bs F0 w0 all):∀(n:Nat) {R:Type} {gd:Gd} {l:tL tP} {idx:Nat} {b:Ba E} {s:St E} {k:St E->tO R} {r:R} {a:Act} {w:tS} {J:Act->tS->Prop} {tl:tL tP},
  c5_ P E ev N n R gd l idx b s k=some r->all.drop idx=l++tl->Rel P E Bs F0 w0 N (s.L b) (s.H b) s.nx a w->gdOK all gd (s.L b) ->
  (∀s' a' w',k s'=some r->Rel P E Bs F0 w0 N (s'.L b) (s'.H b) s'.nx a' w'->gdOK all gd (s'.L b)->J a' w')->wk.W J l idx a w:=by
 intro n
 induction n with
 | zero=>intro R gd l idx b s k r a w J tl h;cases h
 | succ n ih =>
  intro R gd l idx b s k r a w J tl h hd hR hg hK;cases l with
  | nil=>exact wk.nil (hK s a w h hR hg)
  | cons o rest =>
   unfold c5_ at h;split at h
   .cases h
   .rename_i ZP;simp only[qAn]at ZP;obtain⟨z,g,hE,hH,hf,ZL,ZC⟩:=hR;obtain⟨ZN,ZV⟩:=drop_next hd;refine wk.step ZN (oJ_ ZP.1 hg hE) hE hH hf ZL ZC h λv u x w' z2 g2 F Zz V Zc Zd Zj hv => ?_
    split at F
    .cases F
    .rename_i f Zx;obtain⟨ZU,Zf⟩:=ch_ Zx Zc Zd (ZL.trans Zz) (ZC.trans V) Zj hv;have ZO:=nE_ hg ZP.2 Zf;split at F
     .exact ih F ZV ZU ZO hK
     .rename_i d wt body pk rest' ZD;obtain⟨ZE,rfl,x0,y0,ZH⟩:=groupOf_eq ZD;split at F
      .rename_i c d1 x y pd hc ZI ZG;rw[ZH]at ZI;injection ZI with e1 e2 e3;subst e1;subst e2;subst e3;split at F
       .cases F
       .rename_i ZT;simp only[qAn]at ZT;obtain⟨⟨⟨⟨⟨Zr,Zs⟩,ZR⟩,Zt⟩,ZF⟩,Zu⟩:=ZT;have ZB:ay_ d (ex_ body)=false:=skip_dst ZF
        -- the group's value
        have ZJ:∃res,c5_ P E ev N n R gd rest' (idx+1+body.length+1) b { f with env:=(pd,some (mW_ res))::(clear (ex_ body)++f.env),nx:=f.nx+jB_ body } k=some r /\
          (c=wt->c5_ P E ev N n tV (some (idx,wt,d)) body (idx+1) (f.base b) (St.new f.nx) (jj_ (f.base b) f.nx (jB_ body) (ex_ body) (picked wt x0 y0))=some res)/\(c≠wt->res = !wt):=by
         obtain⟨tot,ZK⟩:∃tot,totalL P body=tot:=⟨_,rfl⟩;rw[ZK]at F;cases tot with
         | true =>
          simp only at F;obtain⟨oe,he⟩:∃oe,c5_ P E ev N n tV (some (idx,wt,d)) body (idx+1) (f.base b) (St.new f.nx) (jj_ (f.base b) f.nx (jB_ body) (ex_ body) (picked wt x0 y0))=oe:=⟨_,rfl⟩;rw[he]at F ⊢;cases oe with
          | none=>cases F
          | some e =>
           refine⟨_,F,λC => ?_,λC => ?_⟩
           .cases wt<;>subst C<;>rfl
           .cases wt<;>cases c<;>simp_all [picked]
         | false =>
          simp only at F;obtain⟨e,he,F⟩:=bind_some F;refine⟨e,F,λC => ?_,λC => ?_⟩
          .cases wt<;>subst C<;>exact he
          .cases wt<;>cases c<;>simp_all [picked]
        obtain⟨res,Zl,ZA,ZW⟩:=ZJ;have Zp:∀j p,f.H b j=some p->j<f.nx:=λj p hj=>by
         obtain⟨z3,g3,_,h2,h3,_⟩:=ZU;obtain⟨l,hl⟩:=(h2.hold j p hj).loc;rcases qR j f.nx with h5|h5
         .exact h5
         .rw[h3 j h5]at hl;cases hl
        refine wk.app (J1:=λa2 w2=>Rel P E Bs F0 w0 N (jk_ (ex_ body) (f.L b)) (f.H b) (f.nx+jB_ body) a2 w2/\a2.eval (.tmp d) = .bool c/\(bif c then a2.eval x0 else a2.eval y0) = .bool res) ?_ ?_
        .by_cases C:c=wt
         .refine ih (tl:=pk::rest'++tl) (ZA C) (by rw[ZV];simp) (by rw[new_L,new_H];exact ZU) ⟨⟨o,ZN,ZE⟩,c,hc,C⟩ λs2 a2 w2 ZX ZM V => ?_
          unfold jj_ at ZX;split at ZX
          .rename_i e Z hvis ZQ Zq;obtain rfl:=qSj ZX;simp only[qAn]at Z;obtain⟨⟨Zm,Zn⟩,Zo⟩:=Z;have ZZ:∀t,ay_ t (ex_ body)=false->s2.L (f.base b) t=f.L b t:=λt Zy=>by
            unfold St.L;rw[rk_ Zm Zy,hvis];rfl
           have Ze:∀j,j<f.nx->s2.H (f.base b) j=f.H b j:=λj hj=>by
            unfold St.H;rw[oj_ hj Zn,ZQ];rfl
           obtain⟨z3,g3,D,M,Y,U⟩:=ZM;refine⟨⟨z3,g3,D.less λt u O => ?_,M.less λj p hj => ?_,(λi hi=>Y i (by have:=zD Zo;omega)),U⟩,?_,?_⟩
           .unfold jk_ at O;split at O
            .cases O
            .rename_i hm;rw[ZZ t (by simpa using hm)];exact O
           .rw[Ze j (Zp j p hj)];exact hj
           .have:=D.op M.gl (.tmp d) (.v (.one (.dt .bool c))) (by show s2.L (f.base b) d=_;rw[ZZ d ZB];exact hc);exact SV.bool_ok rfl this
           .have:=SV.bool_ok rfl (D.op M.gl _ _ Zq);subst C;cases c<;>exact this
          .cases ZX
         .obtain⟨z3,g3,D,M,Y,U⟩:=ZU;have Zh:∃v,(a.put o.dst x).tmps[d]? = some v/\RV P E z3 g3 (.v (.one (.dt .bool c))) v:=D.get d _ hc;obtain⟨v,ZY,ZS⟩:=Zh;obtain rfl:=SV.bool_ok rfl ZS;refine skip_ok wk C ZN ZE body (pk::rest'++tl) (idx+1) _ w' (by rw[ZV];simp) (Nat.lt_succ_self idx) ZF ZY (λj h5 h6=>by omega) λa' h5 h6 h7 => ?_
          refine⟨⟨z3,g3,⟨by rw[h5];exact D.size,by rw[h6];exact D.defers,λt u O => ?_⟩,M,(λi hi=>Y i (by omega)),U⟩,?_,?_⟩
          .unfold jk_ at O;split at O
           .cases O
           .rename_i hm;rw[h7 t (by simpa using hm)];exact D.get t u O
          .have h8:=h7 d ZB;rw[ZY]at h8;simp[Act.eval,h8]
          .have Zg:∀{q:tI},isBoolC (!wt) q=true->a'.eval q = .bool (!wt):=fun{q} hq=>by
            unfold isBoolC at hq;split at hq
            .rename_i b';show Value.bool b'=_;cases wt<;>cases b'<;>simp_all
            .cases hq
           rw[ZW C];have:=Zg Zu;cases wt<;>cases c<;>simp_all [picked]
        .rintro a2 w2 ⟨ZM,ZY,ZS⟩;have Zi:all.drop (idx+1+body.length)=(pk::rest')++tl:=drop_more ZV;obtain⟨Zv,Zw⟩:=drop_next Zi;have V:gdOK all gd (jk_ (ex_ body) (f.L b)):=by
          unfold gdOK at ZO ⊢;split
          .trivial
          .rename_i j w1 d1;obtain⟨h1,c1,h2,h3⟩:=ZO;refine⟨h1,c1,?_,h3⟩;unfold notIn at ZR;simp only[qo]at ZR;unfold jk_;rw[ZR];exact h2
         obtain⟨z3,g3,D,M,Y,U⟩:=ZM;refine wk.pick Zv (oJ_ Zr V D) (λw=>pick_run ZH ZY ZS w) ?_;have ZZ:∀t,St.L b { f with env:=(pd,some (mW_ res))::(clear (ex_ body)++f.env),nx:=f.nx+jB_ body } t=if t=pd then some (mW_ res)else jk_ (ex_ body) (f.L b) t:=λt=>by
          unfold St.L jk_;simp only[aK_];by_cases G:t=pd
          .subst G;have:Nat.beq t t=true:=by simp
           rw[this,qL rfl]
          .rw[qP G];have:Nat.beq t pd=false:=by
            cases hb:Nat.beq t pd with
            | false=>rfl
            | true=>exact absurd (qNb hb) G
           rw[this];by_cases hm:ay_ t (ex_ body)=true
           .rw[clear_in hm,qL hm]
           .rw[clear_out (by simpa using hm),qP hm]
         refine ih Zl Zw ⟨z3,g3,?_,M,Y,U⟩ ?_ hK
         .rw[ZG];refine D.put Zt (s:=mW_ res) (RD.bool .nil) λt u O => ?_
          rw[ZZ t]at O;split at O
          .rename_i G;exact .inl ⟨G,(qSj O).symm⟩
          .rename_i G;exact .inr ⟨G,O⟩
         .refine nE_ V Zs λt ht => ?_
          rw[ZZ t,qP (ht pd ZG)]
      .cases F
def seqWalk(C:∀p∈eqs,bd_ P E p.1 p.2)(M:tab.OK P E)(all:tL tP):Walk P E (λL H nx o _ k=>evOp P E eqs tab L H nx o k) N Bs F0 w0 all where
 W J l _ a w:=∀(rest:tL tP) (Q:Exit->Act->tS->Prop),(∀s w',J s w'->wpList P all.toArray Q rest s w')->wpList P all.toArray Q (l++rest) a w
 nil D:=λrest Q h=>h _ _ D
 app j F:=λrest Q h=>by
  rw[qS];exact j _ Q λs w' D=>F s w' D rest Q h
 skip G q j:=λrest Q h=>by
  simp only[qc];unfold wpList;rw[qP (by rw[q];exact jS)];exact j rest Q h
 step G q Y V U hz hg y O:=λrest Q h=>by
  simp only[qc];refine wpList_step λK f => ?_
  rw[qL q];exact evOp_ok C M U Y V y λv u x w' z2 g2 j F h3 h4 h5 h6 Z=>f _ _ (O v u x w' z2 g2 j F h3 h4 h5 h6 Z rest Q h)
 pick G q hr j:=λrest Q h=>by
  simp only[qc];refine wpList_step λK f => ?_
  rw[qL q];unfold Oper.wp;rw[hr _];exact f _ _ (j rest Q h)
theorem evReg_ok(j:∀p∈eqs,bd_ P E p.1 p.2)(q:tab.OK P E){R:Type}{l:tL tP}{id:Nat}{b:Ba E}{s:St E}{k:St E->tO R}{r:R}{a:Act}{w:tS}{Q:Exit->Act->tS->Prop}(h:evReg P E eqs tab N l b s k=some r)(u:Rel P E Bs F0 w0 N (s.L b) (s.H b) s.nx a w)
  (x:∀s' f w',k s'=some r->Rel P E Bs F0 w0 N (s'.L b) (s'.H b) s'.nx f w'->Q .normal f w'):(Code.region id l.toArray false).wp P Q a w :=
 iG_ (by
  have:=ft_ (seqWalk j q l) _ (tl:=[]) (J:=λf w'=>Q .normal f w') h (by simp) u trivial λs' f w' C y _=>x s' f w' C y
  have:=this [] Q λf w' h=>h
  simpa using this)
theorem jE_:∀(l1 l2:tL tP) (i:Nat),ey_ i (l1++l2)=ey_ i l1++ey_ (i+l1.length) l2
 | [],_,_=>rfl
 | o::l1,l2,i=>by
  simp only[qc,ey_,qLc];rw[jE_ l1 l2 (i+1),show i+1+l1.length=i+(l1.length+1)by omega]
def quietWalk(O:∀p∈eqs,bd_ P E p.1 p.2)(ht:tab.OK P E)(all:tL tP)(tl fr:tL Nat)(m:Nat)(hm:∀i,i<m->fr.contains i=false)(W:tS)(I:tS->Prop)(hI:∀z g H,HR P E Bs F0.z.F w0 W z g H->F0.z.Le z->∀w',I w'->Keeps P E z g H W w')(Q:Exit->Act->tS->Prop):Walk P E (λL H nx o _ k=>hL_ P E eqs tab L H nx o k) N Bs F0 w0 all where
 W J l i a w:=w=W->i+l.length<=m->∀rest:tL (Nat×tV),(∀D,J D W->be_ P all.toArray tl fr I Q rest D W)->be_ P all.toArray tl fr I Q (ey_ i l++rest) a W
 nil U:=λe _ rest h=>h _ (e▸U)
 app j C:=λe f rest h=>by
  rw[jE_,qS];rw[qLa]at f;exact j e (by omega) _ λD U=>C D W U rfl (by omega) rest h
 skip {J o l i a w} x q j:=λe f rest h=>by
  simp only[qLc]at f;simp only[ey_,qc];refine em_ o x λK y => ?_
  rw[qP (by rw[q];exact jS)];exact y _ (j e (by omega) rest h)
 step {J o l i a w R L H nx z g k r} x q Y V hf Z hg M hk:=λe f rest h=>by
  simp only[qLc]at f;subst e;simp only[ey_,qc];refine em_ o x λK y => ?_
  rw[qL q,hm i (by omega)];obtain⟨s,u,v,g2,j,C,h3,h4,h5,h6⟩:=lz_ O ht hf Y V (hI z g H V Z) M;refine⟨v,h6,y _ ?_⟩;exact hk (some s) u v w z g2 j (Fz.Le.refl z) C (Y.le (Fz.Le.refl z) C) h3 h4.nxU (λsv G=>by obtain rfl:=qSj G;exact h5) rfl (by omega) rest h
 pick {J o l i a w v} x q hr j:=λe f rest h=>by
  simp only[qLc]at f;simp only[ey_,qc];refine em_ o x λK y => ?_
  rw[qL q];exact⟨v,λw' _=>by rw[hr];exact⟨rfl,rfl⟩,y _ (j e (by omega) rest h)⟩
theorem Rel.ext{L:Nat->tO (SV E)}{H:Nat->tO (Obj E)}{nx:Nat}{a:Act}{w w':tS}(h:Rel P E Bs F0 w0 N L H nx a w)(f:Ext w w'):Rel P E Bs F0 w0 N L H nx a w' :=
 let ⟨z,g,q,p,j⟩:=h
 ⟨z,g,q,p.ext f,j⟩
theorem Rel.inz{L:Nat->tO (SV E)}{H:Nat->tO (Obj E)}{nx:Nat}{a:Act}{w:tS}(h:Rel P E Bs F0 w0 N L H nx a w):F0.z.In w:=by
 obtain⟨z,g,_,p,_,j,_⟩:=h;exact λk f=>⟨(p.fz k (j k f).1).1,(p.fz k (j k f).1).2.trans (j k f).2⟩
theorem qq_:∀{fl:tL Nat} {n k:Nat},fl[k]? = some 2->n+k∈tlOf n fl
 | [],n,k,h=>by simp at h
 | f::fl,n,0,h=>by
  simp only[jt,qOi]at h;subst h;simp[tlOf]
 | f::fl,n,k+1,h=>by
  have:=qq_ (n:=n+1) (show fl[k]? = some 2 by simpa using h);rw[show n+1+k=n+(k+1)by omega]at this;simp only[tlOf];split
  .exact qG _ this
  .exact this
theorem dq_{o:tP}(h:o.guard=none)(y:Nat->tO tV):Region.wanted o y=true:=by
 unfold Region.wanted;rw[h]
theorem mem_frOf:∀{fl:tL Nat} {n i:Nat},i∈frOf n fl->n<=i/\fl[i-n]? = some 4
 | [],n,i,h=>by cases h
 | f::fl,n,i,h=>by
  have next:i∈frOf (n+1) fl->n<=i/\(f::fl)[i-n]? = some 4:=λh=>by
   obtain⟨q,p⟩:=mem_frOf h;refine⟨by omega,?_⟩;rw[show i-n=(i-(n+1))+1 by omega];simpa using p
  simp only[frOf]at h;split at h
  .rename_i j;rcases qD.1 h with rfl|h
   .obtain rfl:=qNb j;simp
   .exact next h
  .exact next h
theorem rl_:∀{fl:tL Nat} {i:Nat},i<aw_ fl->fl[i]? = some 0
 | [],i,h=>by simp[aw_]at h
 | f::fl,i,h=>by
  simp only[aw_]at h;split at h
  .rename_i j;obtain rfl:=qNb j;cases i with
   | zero=>rfl
   | succ i=>simpa using rl_ (fl:=fl) (i:=i) (by omega)
  .omega
theorem notFree{fl:tL Nat}{i:Nat}(h:i<aw_ fl):(frOf 0 fl).contains i=false:=by
 cases j:(frOf 0 fl).contains i with
 | false=>rfl
 | true =>
  obtain⟨_,f⟩:=mem_frOf (zl.1 j);rw[Nat.sub_zero,rl_ h]at f;cases f
theorem evH_ok(q:∀p∈eqs,bd_ P E p.1 p.2)(Y:tab.OK P E){W:tS}{I:tS->Prop}(hI:∀z g H,HR P E Bs F0.z.F w0 W z g H->F0.z.Le z->∀w',I w'->Keeps P E z g H W w'){R:Type}{r:R}{all:tL tP}{tl fr:tL Nat}{Q:Exit->Act->tS->Prop}{b:Ba E}{k:St E->tO R}{rest:tL (Nat×tV)}
  (hK:∀s' a',k s'=some r->Rel P E Bs F0 w0 N (s'.L b) (s'.H b) s'.nx a' W->be_ P all.toArray tl fr I Q rest a' W):∀{Z:tL Nat} {s:St E} {a:Act},
  evH P E eqs tab N b all fr Z s k=some r->Rel P E Bs F0 w0 N (s.L b) (s.H b) s.nx a W->be_ P all.toArray tl fr I Q (hOrd Z++rest) a W
 | [],s,a,h,hR=>hK s a h hR
 | i :: Z,s,a,h,hR=>by
  unfold evH at h;split at h
  .cases h
  .rename_i o ho;split at h
   .cases h
   .rename_i ZZ;obtain⟨z,g,U,O,J,x,G⟩:=hR;simp only[hOrd,qc];refine em_ o ho λK M => ?_
    rw[qL (dq_ ZZ _)];split at h
    .rename_i hc;rw[hc];obtain⟨sv,v,up,g2,f,ZX,ZY,hv,D,V⟩:=ie_ (nx:=s.nx) q (U.op O.gl) (O.less (H':=λ_=>none) λ_ _ e=>by cases e) h (λ_=>True);simp only at f;split at f
     .cases f
     .obtain rfl:g2=g:=V;split at f
      .rename_i s1 y;obtain⟨C,_⟩:=ch_ (u:=[]) y U O x G (λj hj=>J j (by simp only[nxU]at hj;omega)) (λsv' e=>by obtain rfl:=qSj e;exact hv);exact⟨v,λw' _=>by rw[D w' trivial];exact⟨rfl,rfl⟩,M _ (evH_ok q Y hI hK f C)⟩
      .cases f
    .rename_i hc;rw[hc];obtain⟨sv,u,v,g2,f,h2,h3,h4,h5,h6⟩:=lz_ q Y J U O (hI z g _ O x) h;simp only at f;split at f
     .rename_i s1 y;obtain⟨C,_⟩:=ch_ y (U.le (Fz.Le.refl z) h2) h3 x (G.trans h2) h4.nxU (λsv' e=>by obtain rfl:=qSj e;exact h5);exact⟨v,h6,M _ (evH_ok q Y hI hK f C)⟩
     .cases f
theorem mY_(C:∀p∈eqs,bd_ P E p.1 p.2)(ht:tab.OK P E){fm:tV}{I:tS->Prop}(F:∀w w',I w->Ext w w'->I w')(V:fm=true->∀{L:Nat->tO (SV E)} {H:Nat->tO (Obj E)} {nx:Nat} {a:Act} {w:tS},Rel P E Bs F0 w0 N L H nx a w->I w){R:Type}{r:R}{all:tL tP}{tl fr:tL Nat}{Q:Exit->Act->tS->Prop}{b:Ba E}{k:St E->tO R}
  (hK:∀s' a' w',k s'=some r->Rel P E Bs F0 w0 N (s'.L b) (s'.H b) s'.nx a' w'->Q .normal a' w'):∀{l:tL (Nat×tP×Nat)} {s:St E} {a:Act} {w:tS},
  evB P E eqs tab N fm b l s k=some r->(∀t∈l,all[t.1]? = some t.2.1/\(t.2.2=2->t.1∈tl))->Rel P E Bs F0 w0 N (s.L b) (s.H b) s.nx a w->be_ P all.toArray tl fr I Q (dp_ l) a w
 | [],s,a,w,h,_,hR=>wpMixI_nil λX d=>hK s a _ h (hR.ext ⟨X,d,rfl⟩)
 | (i, o,f)::l,s,a,w,h,G,hR=>by
  obtain⟨ho,ZZ⟩:=G _ (qT ..);have q:∀t∈l,all[t.1]? = some t.2.1/\(t.2.2=2->t.1∈tl):=λt ht=>G t (qG _ ht)
  simp only at ho ZZ;unfold evB at h;split at h
  .cases h
  .rename_i ZX;simp only[dp_];split at h
   .rename_i Y;rw[Y];obtain⟨z,g,hE,hH,U,J,O⟩:=hR;obtain⟨sv,v,up,g2,y,ZM,ZN,hv,ZY,ZU⟩:=ie_ (nx:=s.nx) C (hE.op hH.gl) (hH.less (H':=λ_=>none) λ_ _ e=>by cases e) h (λ_=>True);simp only at y;split at y
    .cases y
    .obtain rfl:g2=g:=ZU;split at y
     .rename_i s1 M;obtain⟨D,_⟩:=ch_ (u:=[]) M hE hH J O (λj hj=>U j (by simp only[nxU]at hj;omega)) (λsv' e=>by obtain rfl:=qSj e;exact hv);refine em_ o ho λK Z => ?_
      rw[qL (dq_ ZX _)];exact⟨v,λw' _=>by rw[ZY w' trivial];exact⟨rfl,rfl⟩,Z _ (mY_ C ht F V hK y q D)⟩
     .cases y
   .rename_i Y;rw[Y];split at h
    .cases h
    .rename_i ZW;refine pX_ o ho λK Z X d => ?_
     have hx:Ext w (w.ext X d):=⟨X,d,rfl⟩;obtain⟨z,g,hE,hH,U,J,O⟩:=hR.ext hx;refine wpList_step λK2 ZQ => ?_
     rw[qL (dq_ ZX _)];refine lx_ C ht U hE hH h λv u x w' z2 g2 y ZV ZS ZO ZP ZR hv ZT=>ZQ _ _ ?_
     split at y
     .rename_i s1 M;obtain⟨D,_⟩:=ch_ M ZO ZP (J.trans ZV) (O.trans ZS) ZR hv;show K _ _;refine Z _ _ (λhc hw => ?_) (mY_ C ht F V hK y q D);simp only[zh]at ZW;rcases ZW with h1|h1|h1
      .obtain rfl:=qNb h1;rw[zl.2 (ZZ rfl)]at hc;cases hc
      .exact V h1 D
      .exact F _ _ (F _ _ hw hx) (ZT h1)
     .cases y
theorem qr_{j:tL Nat}:∀{l:tL tP} {fl:tL Nat} {i:Nat} {t:Nat×tP×Nat},t∈en_ j i l fl->∃k,t.1=i+k/\l[k]? = some t.2.1/\fl[k]? = some t.2.2
 | [],fl,i,t,h=>by cases fl<;>simp[en_]at h
 | o::l,[],i,t,h=>by simp[en_]at h
 | o::l,f::fl,i,t,h=>by
  have next:t∈en_ j (i+1) l fl->∃k,t.1=i+k/\(o::l)[k]? = some t.2.1/\(f::fl)[k]? = some t.2.2:=λh=>by
   obtain⟨k,s,q,p⟩:=qr_ h;exact⟨k+1,by omega,by simpa using q,by simpa using p⟩
  simp only[en_]at h;split at h
  .exact next h
  .rcases qD.1 h with rfl|h
   .exact⟨0,rfl,rfl,rfl⟩
   .exact next h
theorem gJ_{S:tL Nat}{H:Nat->tO (Obj E)}{i:Nat}{o:Obj E}(h:fx_ S H i=some o):i∉S/\H i=some o:=by
 unfold fx_ at h;split at h
 .cases h
 .rename_i f;exact⟨λj=>(by rw[memN_true.2 j]at f;cases f),h⟩
theorem gK_{S:tL Nat}{H:Nat->tO (Obj E)}{i:Nat}{o:Obj E}(h:hM_ S H i=some o):i∈S/\H i=some o:=by
 unfold hM_ at h;split at h
 .rename_i f;exact⟨memN_true.1 f,h⟩
 .cases h
theorem HR.ga{z:Fz}{g g':Ga}{w:tS}{H:Nat->tO (Obj E)}{F:Nat->Prop}(h:HR P E Bs F w0 w z g H)(j:g.Le g'):HR P E Bs F w0 w z g' H :=
 ⟨h.chg,λid o e=>(h.hold id o e).keep (Fz.Le.refl z) j λ_ _=>rfl,λid o k e f=>h.own id o k e ((hj_ (h.hold id o e).loc j).1 f),λid id' o o' k s e q f p=>h.apart id id' o o' k s e q ((hj_ (h.hold id o e).loc j).1 f) ((hj_ (h.hold id' o' q).loc j).1 p),h.fz,h.fz0,λid o k e f=>h.fza id o k e ((hj_ (h.hold id o e).loc j).1 f),h.gl⟩
theorem HR.part{z:Fz}{g:Ga}{w:tS}{H H':Nat->tO (Obj E)}{F:Nat->Prop}(h:HR P E Bs F w0 w z g H)(f:∀i o,H' i=some o->H i=some o){B:tL Nat}(u:∀i o k,H' i=some o->fpO g i o k->k∈B):HR P E B z.F w w z g H' :=
 ⟨Chg.of_below (Below.refl _ _),λi o e=>h.hold i o (f i o e),λi o k e q => .inr (u i o k e q),λi j o p k s e x=>h.apart i j o p k s (f i o e) (f j p x),h.fz,λ_ q => .inl q,λi o k e=>h.fza i o k (f i o e),h.gl⟩
theorem hm_{α:Type}{t:Nat}:∀{l m:tL (Nat×α)},aK_ t (l++m)=match aK_ t l with|some v=>some v|none=>aK_ t m
 | [],m=>rfl
 | (u,x)::l,m=>by
  simp only[qc,aK_];cases Nat.beq t u with
  | true=>rfl
  | false=>exact hm_
theorem jl_{H:Nat->tO (Obj E)}{i:Nat}:∀{l:Chs E},upH H l i=match aK_ i l with|some o=>o|none=>H i
 | []=>rfl
 | (k,o)::l=>by
  simp only[upH,aK_];cases Nat.beq i k with
  | true=>rfl
  | false=>exact jl_
theorem evDraw_ok (O:∀p∈eqs,bd_ P E p.1 p.2) (ht:tab.OK P E) {R:Type} {l:tL tP} {fl hs S:tL Nat} {fm:tV} {id:Nat} {b:Ba E} {s:St E} {k:St E->tO R} {r:R} {a:Act} {w:tS} {Q:Exit->Act->tS->Prop} (h:evDraw P E eqs tab N l fl hs fm S b s k=some r) (hR:Rel P E Bs F0 w0 N (s.L b) (s.H b) s.nx a w)
  (hK:∀s' a' w',k s'=some r->Rel P E Bs F0 w0 N (s'.L b) (s'.H b) s'.nx a' w'->Q .normal a' w'):(Code.region id l.toArray true).wp P Q a w:=by
 unfold evDraw at h;split at h
 .cases h
 .rename_i ZV;simp only[qAn]at ZV;obtain⟨hm,hB⟩:=ZV;have M:∀t∈en_ hs (aw_ fl) (l.drop (aw_ fl)) (fl.drop (aw_ fl)),l[t.1]? = some t.2.1/\(t.2.2=2->t.1∈tlOf 0 fl):=λt M=>by
   obtain⟨k,q,D,C⟩:=qr_ M;rw[zW]at D C;rw[←q]at D C;refine⟨D,λhf => ?_⟩;rw[hf]at C;have:=qq_ (n:=0) C
   rwa [qh]at this
  split at h
  .have Y:∀w1 w',Ext w w1->Ext w1 w'->Ext w w':=λ_ _ x U=>x.trans U
   have hI:∀z g H,HR P E Bs F0.z.F w0 w z g H->F0.z.Le z->∀w',Ext w w'->Keeps P E z g H w w':=λz g H x _ w' U=>Keeps.of_ext x U
   refine jh_ (I:=Ext w) Y _ _ _ hm hB (Ext.refl w) ?_;have:=ft_ (quietWalk O ht l (tlOf 0 fl) (frOf 0 fl) (aw_ fl) (λ_ h=>notFree h) w (Ext w) hI Q) _ (tl:=l.drop (aw_ fl)) (J:=λa' w'=>w'=w->be_ P l.toArray (tlOf 0 fl) (frOf 0 fl) (Ext w) Q (hOrd hs++dp_ (en_ hs (aw_ fl) (l.drop (aw_ fl)) (fl.drop (aw_ fl)))) a' w) h (by simp) hR trivial λs' a' w' x U _ hw=>by
    subst hw;exact evH_ok O ht hI (λs2 a2 y G=>mY_ O ht Y (λe=>by cases e) hK y M G) x U
   exact this rfl (by rw[qh];exact jf _ _) _ λa' x=>x rfl
  .obtain ⟨z,g,hE,hH,ZI,ZE,Zy⟩:=hR
   -- the footprints of what is read, and of what is turned
   let B1:tL Nat:=((List.range s.nx).map (blk (fx_ S (s.H b)) g)).flatten
   let B2:tL Nat:=(S.map (blk (hM_ S (s.H b)) g)).flatten
   have ZB:∀i o,s.H b i=some o->i<s.nx:=λi o e=>by
    obtain⟨l',hl⟩:=(hH.hold i o e).loc;rcases qR i s.nx with q|q
    .exact q
    .rw[ZI i q]at hl;cases hl
   have Zq:∀i o k,fx_ S (s.H b) i=some o->fpO g i o k->k∈B1:=λi o k e f=>jL.2 ⟨_,jJ.2 ⟨i,List.mem_range.2 (ZB i o (gJ_ e).2),rfl⟩,mem_blk.2 ⟨o,e,f⟩⟩
   have Zr:∀i o k,hM_ S (s.H b) i=some o->fpO g i o k->k∈B2:=λi o k e f=>jL.2 ⟨_,jJ.2 ⟨i,(gK_ e).1,rfl⟩,mem_blk.2 ⟨o,e,f⟩⟩
   have ZY:∀k,k∈B1->∃i o,fx_ S (s.H b) i=some o/\fpO g i o k:=λk f=>by
    obtain⟨_,i,o,_,q,D⟩:=jf_ f;exact⟨i,o,q,D⟩
   have ZU:∀k,k∈B2->∃i o,hM_ S (s.H b) i=some o/\fpO g i o k:=λk f=>by
    obtain⟨_,i,o,_,q,D⟩:=jf_ f;exact⟨i,o,q,D⟩
   have ZG:∀k,k∈B1->k∉B2:=λk x U=>by
    obtain⟨i,o,y,G⟩:=ZY k x;obtain⟨j,p,q,D⟩:=ZU k U;exact hH.apart i j o p k (λe=>(gJ_ y).1 (e▸(gK_ q).1)) (gJ_ y).2 (gK_ q).2 G D
   have ZZ:∀k,k∈B1->k<w.heap.size:=λk f=>by
    obtain⟨i,o,y,G⟩:=ZY k f;exact(hH.hold i o (gJ_ y).2).lt G
   have hq:=hH.part (λi o e=>(gJ_ e).2) Zq
   let F1:Org:=⟨z,g,F0.lo⟩
   let I:tS->Prop:=λw'=>z.In w'/\∀k,k∈B1->w'.heap[k]? = w.heap[k]?
   have Y:∀w1 w',I w1->Ext w1 w'->I w':=λw1 w' x U=>⟨x.1.ext U,λk f=>by
    have y:=x.2 k f;have G:k<w1.heap.size:=by
     rcases qR k w1.heap.size with q|q
     .exact q
     .rw[zJ q,Array.getElem?_eq_getElem (ZZ k f)]at y;cases y
    exact(U.below.block k G).trans y⟩
   have hI:∀z2 g2 H2,HR P E B1 F1.z.F w w z2 g2 H2->F1.z.Le z2->∀w',I w'->Keeps P E z2 g2 H2 w w':=λz2 g2 H2 x ZA w' ZX=>by
    have ZQ:∀i o k,H2 i=some o->fpO g2 i o k->k∈B1:=λi o k e f=>by
     rcases x.own i o k e f with y|y
     .have:=(x.hold i o e).lt f;omega
     .exact y
    have ZM:z2.In w':=λk f=>by
     rcases x.fz0 k f with y|y|y
     .have G:=ZX.1 k y;exact⟨G.1,G.2.trans (ZA k y).2.symm⟩
     .have:=(x.fz k f).1;omega
     .have G:=ZX.2 k y;refine⟨?_,G.trans (x.fz k f).2⟩;rcases qR k w'.heap.size with q|q
      .exact q
      .rw[zJ q,Array.getElem?_eq_getElem (ZZ k y)]at G;cases G
    refine⟨⟨ZM,λi o k e f=>ZX.2 k (ZQ i o k e f)⟩,B1,z2.F,w',⟨Chg.of_below (Below.refl _ _),λi o e=>(x.hold i o e).keep (Fz.Le.refl z2) (Ga.Le.refl g2) λk f=>ZX.2 k (ZQ i o k e f),λi o k e f => .inr (ZQ i o k e f),x.apart,ZM,λk f => .inl f,x.fza,x.gl⟩⟩
   refine jh_ (I:=I) Y _ _ _ hm hB ⟨hH.fz,λ_ _=>rfl⟩ ?_;have Zw:Rel P E B1 F1 w N ((St.new s.nx:St E).L ⟨s.L b,fx_ S (s.H b),b.lo⟩) ((St.new s.nx:St E).H ⟨s.L b,fx_ S (s.H b),b.lo⟩) s.nx a w:=⟨z,g,hE,hq,ZI,Fz.Le.refl z,Ga.Le.refl g⟩
   have := ft_ (quietWalk (F0:=F1) (w0:=w) (Bs:=B1) O ht l (tlOf 0 fl) (frOf 0 fl) (aw_ fl) (λ_ h=>notFree h) w I hI Q) _ (tl:=l.drop (aw_ fl)) (J:=λa' w'=>w'=w->be_ P l.toArray (tlOf 0 fl) (frOf 0 fl) I Q (hOrd hs++dp_ (en_ hs (aw_ fl) (l.drop (aw_ fl)) (fl.drop (aw_ fl)))) a' w) h (by simp) Zw trivial λs' a' w' x U _ hw=>by
    subst hw;refine evH_ok (F0:=F1) (w0:=w') (Bs:=B1) O ht hI (λs2 a2 y G => ?_) x U;split at y
    .rename_i hvis ZT ZS;obtain⟨z2,g2,Zs,ZW,ZJ,ZF,ZR⟩:=G;have Zv:St.H ⟨s.L b,fx_ S (s.H b),b.lo⟩ s2=fx_ S (s.H b):=by
      unfold St.H;rw[ZS,ZT];rfl
     rw[Zv]at ZW;have ZO:z2.Le z:=λk f=>by
      have q:z.F k:=by
       rcases ZW.fz0 k f with D|D|D
       .exact D
       .have:=(ZW.fz k f).1;omega
       .obtain⟨i,o,C,h8⟩:=ZY k D;exact(ZW.fza i o k C ((hj_ (hH.hold i o (gJ_ C).2).loc ZR).2 h8) f).elim
      exact⟨q,(ZF k q).2.symm⟩
     have ZC:HR P E B2 z.F w' w' z g2 (hM_ S (s.H b)):=(hH.part (λi o e=>(gK_ e).2) Zr).ga ZR;have Zx:Rel P E B2 ⟨z,g,F0.lo⟩ w' N ((St.new s2.nx:St E).L ⟨s2.L ⟨s.L b,fx_ S (s.H b),b.lo⟩,hM_ S (s.H b),b.lo⟩) ((St.new s2.nx:St E).H ⟨s2.L ⟨s.L b,fx_ S (s.H b),b.lo⟩,hM_ S (s.H b),b.lo⟩) s2.nx a2 w':=⟨z,g2,Zs.le ZO (Ga.Le.refl g2),ZC,ZJ,Fz.Le.refl z,ZR⟩;refine mY_ (F0:=⟨z,g,F0.lo⟩) (Bs:=B2) (w0:=w') O ht Y (λ_ {L H nx a w1} q=>⟨q.inz,λk f => ?_⟩) (λs3 a3 w3 q D => ?_) y M Zx
     .obtain⟨_,_,_,D,_⟩:=q;exact D.chg.block k (ZZ k f) (ZG k f)
     .split at q
      .rename_i ZD Zz;refine hK _ a3 w3 q ?_;obtain⟨z3,g3,Zt,Z,ZK,ZP,ZL⟩:=D;have ZH:St.H ⟨s2.L ⟨s.L b,fx_ S (s.H b),b.lo⟩,hM_ S (s.H b),b.lo⟩ s3=upH (hM_ S (s.H b)) s3.heap:=by
        unfold St.H;rw[Zz];rfl
       rw[ZH]at Z;have Zu:St.H b { s with env:=s3.env++(s2.env++s.env),heap:=s3.heap++s.heap,nx:=s3.nx }=upH (s.H b) s3.heap:=by
        unfold St.H;rw[aT_]
       refine⟨z3,g3,Zt.less λt u hu => ?_,?_,ZK,ZE.trans ZP,Zy.trans ZL⟩
       .simp only[St.L]at hu ⊢;rw[hm_,hm_]at hu;simp only[ZD,hvis,seen];cases e3:aK_ t s3.env with
        | some v=>rw[e3]at hu;exact hu
        | none =>
         rw[e3]at hu;simp only at hu ⊢;cases e2:aK_ t s2.env with
         | some v=>rw[e2]at hu;exact hu
         | none=>rw[e2]at hu;exact hu
       .rw [Zu];refine hH.back (I:=S) (s:=λj i=>j=i) Z (λk f => ?_) ZL (λj o V => ?_) (λj j' i C h8=>C.trans h8.symm) (λj i o C h8=>by subst C;exact⟨Z.hold _ _ h8,λ_=>Iff.rfl⟩) ZP Z.fz λk f => ?_
        .obtain⟨i,o,C,h8⟩:=ZU k f;exact⟨i,o,(gK_ C).1,(gK_ C).2,h8⟩
        .by_cases ZN:j∈S
         .refine .inl ⟨j,rfl,?_⟩;rw[jl_]at V ⊢;cases e4:aK_ j s3.heap with
          | some v=>rw[e4]at V;exact V
          | none =>
           rw[e4]at V;simp only at V ⊢;unfold hM_;rw[memN_true.2 ZN];exact V
         .rw[jl_]at V;cases e4:aK_ j s3.heap with
          | some v =>
           rw[e4]at V;refine .inl ⟨j,rfl,?_⟩;rw[jl_,e4];exact V
          | none =>
           rw[e4]at V;exact .inr ⟨ZN,V⟩
        .rcases Z.fz0 k f with C|C|C
         .exact .inl C
         .exact .inr ⟨.inl C,f⟩
         .exact .inr ⟨.inr C,f⟩
      .cases q
    .cases y
   exact this rfl (by rw[qh];exact jf _ _) _ λa' x=>x rfl
structure Apart1(w0:tS)(z:Fz)(g:Ga)(H:Nat->tO (Obj E))(w:tS)(q:Nat)(o:Go.Obj):Prop where
 at_:w.heap[q]? = some o
 new:w0.heap.size<=q
 fp:∀id p k,H id=some p->fpO g id p k->k≠q
 fz:¬z.F q
def RelF(P:tT)(E:TE)(Bs:tL Nat)(F0:Org)(w0:tS)(N:Nat)(d q:Nat)(o:Go.Obj)(L:Nat->tO (SV E))(H:Nat->tO (Obj E))(nx:Nat)(a:Act)(w:tS):Prop:=∃z g,ER P E z g N a L/\HR P E Bs F0.z.F w0 w z g H/\Fresh g nx/\F0.z.Le z/\F0.g.Le g/\Apart1 w0 z g H w q o/\a.tmps[d]? = some (.pointer (some ⟨q,0,none⟩))
theorem Apart1.ext{z:Fz}{g:Ga}{H:Nat->tO (Obj E)}{w w':tS}{q:Nat}{o:Go.Obj}(h:Apart1 w0 z g H w q o)(j:Ext w w'):Apart1 w0 z g H w' q o:=by
 have f:q<w.heap.size:=(jm.1 h.at_).1;exact⟨(j.below.block q f).trans h.at_,h.new,h.fp,h.fz⟩
theorem RelF.ext{d q:Nat}{o:Go.Obj}{L:Nat->tO (SV E)}{H:Nat->tO (Obj E)}{nx:Nat}{a:Act}{w w':tS}(h:RelF P E Bs F0 w0 N d q o L H nx a w)(f:Ext w w'):RelF P E Bs F0 w0 N d q o L H nx a w' :=
 let ⟨z,g,C,y,x,u,s,p,j⟩:=h
 ⟨z,g,C,y.ext f,x,u,s,p.ext f,j⟩
theorem evOp_frame(ZX:∀p∈eqs,bd_ P E p.1 p.2)(ht:tab.OK P E){R:Type}{r:R}{z:Fz}{g:Ga}{L:Nat->tO (SV E)}{H:Nat->tO (Obj E)}{nx:Nat}{a:Act}{w:tS}{o:tP}{K:Act->tS->Prop}{Q:Exit->Act->tS->Prop}{k:tO (SV E)->Chs E->tO R}{q:Nat}{ob:Go.Obj}
  (O:Fresh g nx) (hE:ER P E z g N a L) (hH:HR P E Bs F0.z.F w0 w z g H) (hap:Apart1 w0 z g H w q ob) (h:evOp P E eqs tab L H nx o k=some r)
  (hK:∀s u v w' z2 D,k s u=some r->z.Le z2->g.Le D->ER P E z2 D N a L->HR P E Bs F0.z.F w0 w' z2 D (upH H u)->Fresh D (nxU nx u)->(∀sv,s=some sv->RV P E z2 D sv v)->(gq_ tab L o=true->Ext w w')->Apart1 w0 z2 D (upH H u) w' q ob->K (a.put o.dst v) w'):o.wp P a w K Q:=by
 have U:∀i p,H i=some p->i<nx:=λi p e=>by
  obtain⟨l',hl⟩:=(hH.hold i p e).loc;rcases qR i nx with C|C
  .exact C
  .rw[O i C]at hl;cases hl
 let B:tL Nat:=((List.range nx).map (blk H g)).flatten
 have hB:∀i p k,H i=some p->fpO g i p k->k∈B:=λi p k e y=>jL.2 ⟨_,jJ.2 ⟨i,List.mem_range.2 (U i p e),rfl⟩,mem_blk.2 ⟨p,e,y⟩⟩
 have Y:∀k,k∈B->∃i p,i∈List.range nx/\H i=some p/\fpO g i p k:=λk y=>by
  obtain⟨_,i,p,h4,C,h6⟩:=jf_ y;exact⟨i,p,List.mem_range.2 (U i p C),C,h6⟩
 have G:q∉B:=λhq=>by
  obtain⟨i,p,_,C,h6⟩:=Y q hq;exact hap.fp i p q C h6 rfl
 have M:q<w.heap.size:=(jm.1 hap.at_).1;have hp:=hH.part (λ_ _ e=>e) hB;refine lx_ (Bs:=B) (F0:=z.F) (w0:=w) ZX ht O hE hp h λs u v w' z2 D y J V ZW x ZY hv Z => ?_
 refine hK s u v w' z2 D y J V ZW ?_ ZY hv Z ⟨?_,hap.new,λid p k he ZZ => ?_,λhz => ?_⟩
 .refine hH.back (I:=List.range nx) (s:=λj i=>j=i) x (λk y => ?_) V (λj p hj => .inl ⟨j,rfl,hj⟩) (λj j' i f h8=>f.trans h8.symm) (λj i p f h8=>by subst f;exact⟨x.hold _ _ h8,λ_=>Iff.rfl⟩) J x.fz λk y => ?_
  .exact Y k y
  .rcases x.fz0 k y with f|f|f
   .exact .inl f
   .exact .inr ⟨.inl f,y⟩
   .exact .inr ⟨.inr f,y⟩
 .exact(x.chg.block q M G).trans hap.at_
 .rcases x.own id p k he ZZ with f|f
  .omega
  .intro e;subst e;exact G f
 .rcases x.fz0 q hz with f|f|f
  .exact hap.fz f
  .omega
  .exact G f
theorem HR.adopt{z:Fz}{g:Ga}{H:Nat->tO (Obj E)}{F:Nat->Prop}{w:tS}{q n:Nat}{T:tN}{cs:tL (SC E)}{vs:tL tW}(V:HR P E Bs F w0 w z g H)(Z:g n=none)(hap:Apart1 w0 z g H w q (.cells vs.toArray T (0,0)))(J:All2 (RC P E z (g.put n ⟨none,0,0,0,q,0⟩)) cs vs) :
  HR P E Bs F w0 w z (g.put n ⟨none,0,0,0,q,0⟩) (upH H [(n,some (.box T cs))]):=by
 have C:=Ga.le_put (l:=⟨none,0,0,0,q,0⟩) Z;have x:=V.ga C;have h:=Ga.put_self g n ⟨none,0,0,0,q,0⟩;have u:∀k,fpO (g.put n ⟨none,0,0,0,q,0⟩) n (Obj.box T cs:Obj E) k->k=q:=λk f=>by
  obtain⟨l,Y,s⟩:=f;rw[h]at Y;obtain rfl:=qSj Y;exact s
 have hold:∀j p k,H j=some p->fpO (g.put n ⟨none,0,0,0,q,0⟩) j p k->k≠q:=λj p k e f=>hap.fp j p k e ((hj_ (V.hold j p e).loc C).1 f)
 refine⟨x.chg,λj p e => ?_,λj p k e f => ?_,λj O p M k U e e' f y => ?_,x.fz,x.fz0,λj p k e f G => ?_,x.gl⟩
 .rcases bi_ e with⟨rfl,rfl⟩|⟨_,s⟩
  .exact⟨_,vs,h,hap.at_,J⟩
  .exact x.hold j p s
 .rcases bi_ e with⟨rfl,rfl⟩|⟨_,s⟩
  .rw[u k f];exact .inl hap.new
  .exact x.own j p k s f
 .rcases bi_ e with⟨rfl,rfl⟩|⟨_,s⟩<;>rcases bi_ e' with⟨rfl,rfl⟩|⟨_,D⟩
  .exact U rfl
  .exact hold O M k D y (u k f)
  .exact hold j p k s f (u k y)
  .exact x.apart j O p M k U s D f y
 .rcases bi_ e with⟨rfl,rfl⟩|⟨_,s⟩
  .rw[u k f]at G;exact hap.fz G
  .exact x.fza j p k s f G
theorem put_same{a:Act}{d:Nat}{v:tW}(h:a.tmps[d]? = some v):a.put (some d) v=a:=by
 unfold Act.put;have:a.tmps.setIfInBounds d v=a.tmps:=by
  apply Array.ext_getElem?;intro i;rw[Array.getElem?_setIfInBounds];split
  .rename_i hi;subst hi;split
   .exact h.symm
   .rename_i f;rw[zJ (by omega)]
  .rfl
 simp only[this]
theorem put_other{a:Act}{d:Nat}{o:tP}{v u:tW}(h:a.tmps[d]? = some v)(j:o.dst≠some d):(a.put o.dst u).tmps[d]? = some v:=by
 unfold Act.put;split
 .rename_i e f;rw[Array.getElem?_setIfInBounds];split
  .rename_i hi;subst hi;exact absurd f j
  .exact h
 .exact h
theorem nF_{d:Nat}:∀{l:tL (Nat×tP×Nat)},ay_ d (dstsT l)=false->∀t∈l,t.2.1.dst≠some d
 | [],_,_,h=>by cases h
 | t0::l,f,t,h=>by
  simp only[dstsT]at f;cases p:t0.2.1.dst with
  | none =>
   rw[p]at f;rcases qD.1 h with rfl|h
   .rw[p];exact λe=>nomatch e
   .exact nF_ f t h
  | some q =>
   rw[p]at f;simp only[ay_]at f;have j:Nat.beq d q=false:=by
    cases s:Nat.beq d q with
    | true=>rw[s]at f;cases f
    | false=>rfl
   rw[j]at f;rcases qD.1 h with rfl|h
   .rw[p];intro e;obtain rfl:=qSj e;exact bv_ j rfl
   .exact nF_ f t h
theorem after_okF{b:Ba E}{s f:St E}{o:tP}{v:tO (SV E)}{u:Chs E}{a:Act}{w':tS}{x:tW}{z:Fz}{g:Ga}{d q:Nat}{ob:Go.Obj}(h:s.after N o v u=some f)(J:ER P E z g N a (s.L b))(G:HR P E Bs F0.z.F w0 w' z g (upH (s.H b) u))(j:F0.z.Le z)(p:F0.g.Le g)(C:Fresh g (nxU s.nx u))(y:∀sv,v=some sv->RV P E z g sv x)
  (hap:Apart1 w0 z g (upH (s.H b) u) w' q ob) (D:(a.put o.dst x).tmps[d]? = some (.pointer (some ⟨q,0,none⟩))):RelF P E Bs F0 w0 N d q ob (f.L b) (f.H b) f.nx (a.put o.dst x) w':=by
 obtain⟨⟨V,U,O,M⟩,_⟩:=after_ok2 h J G C y;exact⟨z,g,V,U,O,j,p,by rw[M];exact hap,D⟩
theorem oL_(O:∀p∈eqs,bd_ P E p.1 p.2)(ht:tab.OK P E){I:tS->Prop}(V:∀w w',I w->Ext w w'->I w'){R:Type}{r:R}{all:tL tP}{tl fr:tL Nat}{Q:Exit->Act->tS->Prop}{b:Ba E}{k:St E->tO R}
  (hK:∀s' a' w',k s'=some r->Rel P E Bs F0 w0 N (s'.L b) (s'.H b) s'.nx a' w'->Q .normal a' w') {fi d T:Nat} {fo:tP} {post:tL (Nat×tP×Nat)} {zs:tL tW} {q:Nat} (ZV:fo.op = .alloc T) (ZX:fo.guard=none) (ZW:fo.dst=some d) (hz:zeroOf P T=some zs) (C:∀t∈post,all[t.1]? = some t.2.1/\(t.2.2=2->t.1∈tl)):∀{pre:tL (Nat×tP×Nat)} {s:St E} {a:Act} {w:tS},
  evB P E eqs tab N false b (pre++(fi,fo,1)::post) s k=some r->(∀t∈pre,all[t.1]? = some t.2.1/\(t.2.2=2->t.1∈tl))->(∀t∈pre,t.2.1.dst≠some d)->RelF P E Bs F0 w0 N d q (.cells zs.toArray T (0,0)) (s.L b) (s.H b) s.nx a w->be_ P all.toArray tl fr I Q (dp_ pre++dp_ post) a w
 | [],s,a,w,h,_,_,hR=>by
  obtain⟨z,g,hE,hH,y,F,M,hap,hd⟩:=hR;rw[zy]at h;unfold evB at h;simp only[ZX]at h;have ZI:quietM 1=false:=rfl;rw[ZI]at h;simp only at h;split at h
  .cases h
  .unfold evOp at h;simp only[ZV]at h;unfold lAlloc at h;have fin:∀{cs:tL (SC E)},All2 (RC P E z (g.put s.nx ⟨none,0,0,0,q,0⟩)) cs zs->(match s.after N fo (some (.v (.one (.ptr s.nx 0)))) [(s.nx,some (.box T cs))]with
     | some s1=>evB P E eqs tab N false b post s1 k
     | none=>none)=some r->be_ P all.toArray tl fr I Q (dp_ post) a w:=fun{cs} J h=>by
    split at h
    .rename_i s1 G;have hA:=hH.adopt y.self hap J;have ZO:=Ga.le_put (l:=⟨none,0,0,0,q,0⟩) y.self;obtain⟨D,_⟩:=ch_ (F0:=F0) (x := .pointer (some ⟨q,0,none⟩)) G (hE.le (Fz.Le.refl z) ZO) hA F (M.trans ZO) (Fresh.nxU λi hi=>by
      have:=y.put (⟨none,0,0,0,q,0⟩:Loc) i (by simp at hi;omega);exact this) (λsv e=>by obtain rfl:=qSj e;exact⟨_,Ga.put_self _ _ _,rfl⟩)
     rw[ZW,put_same hd]at D;exact mY_ (fm:=false) O ht V (λe=>by cases e) hK h C D
    .cases h
   split at h
   .rename_i Z;rw[hz]at Z;obtain rfl:=qSj Z;exact fin (cs:=[.sbp s.nx,.nils]) (.cons ⟨_,Ga.put_self _ _ _,.inl rfl⟩ (.cons rfl .nil)) h
   .split at h
    .rename_i cs ZE;obtain⟨zs',ZS,J⟩:=nl_ (z:=z) (g:=g) ZE;rw[hz]at ZS;obtain rfl:=qSj ZS;exact fin (J.mono λ_ _ h=>RC.le h (Fz.Le.refl z) (Ga.le_put y.self)) h
    .cases h
 | (i, o,f)::pre,s,a,w,h,ZY,ZL,hR=>by
  obtain⟨ho,ZR⟩:=ZY _ (qT ..);have U:∀t∈pre,all[t.1]? = some t.2.1/\(t.2.2=2->t.1∈tl):=λt ht=>ZY t (qG _ ht)
  have ZZ:∀t∈pre,t.2.1.dst≠some d:=λt ht=>ZL t (qG _ ht)
  have ZP:o.dst≠some d:=ZL _ (qT ..);simp only at ho ZR;rw[qc]at h;unfold evB at h;split at h
  .cases h
  .rename_i ZN;simp only[dp_,qc];split at h
   .rename_i ZU;rw[ZU];obtain⟨z,g,hE,hH,y,F,M,hap,hd⟩:=hR;obtain⟨sv,v,up,g2,Y,Zz,ZA,hv,ZQ,ZJ⟩:=ie_ (nx:=s.nx) O (hE.op hH.gl) (hH.less (H':=λ_=>none) λ_ _ e=>by cases e) h (λ_=>True);simp only at Y;split at Y
    .cases Y
    .obtain rfl:g2=g:=ZJ;split at Y
     .rename_i s1 G;have D:=after_okF (u:=[]) G hE hH F M (λj hj=>y j (by simp only[nxU]at hj;omega)) (λsv' e=>by obtain rfl:=qSj e;exact hv) hap (put_other hd ZP);refine em_ o ho λK ZT => ?_
      rw[qL (dq_ ZN _)];exact⟨v,λw' _=>by rw[ZQ w' trivial];exact⟨rfl,rfl⟩,ZT _ (oL_ O ht V hK ZV ZX ZW hz C Y U ZZ D)⟩
     .cases Y
   .rename_i ZU;rw[ZU];split at h
    .cases h
    .rename_i ZM;refine pX_ o ho λK ZT X e => ?_
     have hx:Ext w (w.ext X e):=⟨X,e,rfl⟩;obtain⟨z,g,hE,hH,y,F,M,hap,hd⟩:=hR.ext hx;refine wpList_step λK2 ZD => ?_
     rw[qL (dq_ ZN _)];refine evOp_frame O ht y hE hH hap h λv u x w' z2 g2 Y Z ZG ZB ZC ZF hv ZH ZK=>ZD _ _ ?_
     split at Y
     .rename_i s1 G;have D:=after_okF G ZB ZC (F.trans Z) (M.trans ZG) ZF hv ZK (put_other hd ZP);show K _ _;refine ZT _ _ (λhc hw => ?_) (oL_ O ht V hK ZV ZX ZW hz C Y U ZZ D);simp only[zh,qM,false_or]at ZM;rcases ZM with h1|h1
      .obtain rfl:=qNb h1;rw[zl.2 (ZR rfl)]at hc;cases hc
      .exact V _ _ (V _ _ hw hx) (ZH h1)
     .cases Y
theorem oM_ (F:∀p∈eqs,bd_ P E p.1 p.2) (D:tab.OK P E) {I:tS->Prop} (C:∀w w',I w->Ext w w'->I w') {R:Type} {r:R} {all:tL tP} {tl fr:tL Nat} {Q:Exit->Act->tS->Prop} {b:Ba E} {k:St E->tO R}
  (hK:∀s' a' w',k s'=some r->Rel P E Bs F0 w0 N (s'.L b) (s'.H b) s'.nx a' w'->Q .normal a' w') {fi d T:Nat} {fo:tP} {post:tL (Nat×tP×Nat)} (ZY:all[fi]? = some fo) (ZV:fo.op = .alloc T) (ZX:fo.guard=none) (ZW:fo.dst=some d) (y:∀t∈post,all[t.1]? = some t.2.1/\(t.2.2=2->t.1∈tl)):∀{pre:tL (Nat×tP×Nat)} {s:St E} {a:Act} {w:tS},
  evB P E eqs tab N false b (pre++(fi,fo,1)::post) s k=some r->(∀t∈pre,all[t.1]? = some t.2.1/\(t.2.2=2->t.1∈tl))->(∀t∈pre,t.2.1.dst≠some d)->s.L b d=none->Nat.blt d N=true->(∃zs,zeroOf P T=some zs)->Rel P E Bs F0 w0 N (s.L b) (s.H b) s.nx a w->ct_ P all.toArray tl fr I Q fi (dp_ post) (dp_ pre) a w
 | [],s,a,w,h,_,_,_,_,_,hR=>by
  rw[zy]at h;exact mY_ (fm:=false) F D C (λe=>by cases e) hK (l:=(fi,fo,1)::post) h (λt D=>by
   rcases qD.1 D with rfl|D
   .exact⟨ZY,λe=>nomatch e⟩
   .exact y t D) hR
 | (i, o,f)::pre,s,a,w,h,U,ZP,ZM,ZO,ZS,hR=>by
  obtain⟨ho,ZI⟩:=U _ (qT ..);have O:∀t∈pre,all[t.1]? = some t.2.1/\(t.2.2=2->t.1∈tl):=λt D=>U t (qG _ D)
  have ZT:∀t∈pre,t.2.1.dst≠some d:=λt D=>ZP t (qG _ D)
  have ZZ:o.dst≠some d:=ZP _ (qT ..);have ZQ:=h;simp only at ho ZI;rw[qc]at h;unfold evB at h;split at h
  .cases h
  .rename_i ZG;simp only[dp_];split at h
   .rename_i ZU;rw[ZU];obtain⟨z,g,hE,Y,M,G,J⟩:=hR;obtain⟨sv,v,up,g2,Z,Zt,Zu,hv,ZH,ZC⟩:=ie_ (nx:=s.nx) F (hE.op Y.gl) (Y.less (H':=λ_=>none) λ_ _ e=>by cases e) h (λ_=>True);simp only at Z;split at Z
    .cases Z
    .obtain rfl:g2=g:=ZC;split at Z
     .rename_i s1 ZR;obtain⟨ZN,ZL⟩:=ch_ (u:=[]) ZR hE Y G J (λj hj=>M j (by simp only[nxU]at hj;omega)) (λsv' e=>by obtain rfl:=qSj e;exact hv);refine gr_ o ho λK V => ?_
      rw[qL (dq_ ZG _)];exact⟨v,λw' _=>by rw[ZH w' trivial];exact⟨rfl,rfl⟩,V _ (oM_ F D C hK ZY ZV ZX ZW y Z O ZT ((ZL d λd' e=>by rw[e]at ZZ;exact λh=>ZZ (by rw[h])).trans ZM) ZO ZS ZN)⟩
     .cases Z
   .rename_i ZU;rw[ZU];split at h
    .cases h
    .rename_i ZF;refine wpMixF_loud o fo ho ZY (λK V X e => ?_) λK V X e => ?_
     .have hx:Ext w (w.ext X e):=⟨X,e,rfl⟩;obtain⟨z,g,hE,Y,M,G,J⟩:=hR.ext hx;refine wpList_step λK2 ZK => ?_
      rw[qL (dq_ ZG _)];refine lx_ F D M hE Y h λv u x w' z2 g2 Z ZD ZA Zw Zx Zy hv ZB=>ZK _ _ ?_
      split at Z
      .rename_i s1 ZR;obtain⟨ZN,ZL⟩:=ch_ ZR Zw Zx (G.trans ZD) (J.trans ZA) Zy hv;show K _ _;refine V _ _ (λhc hw => ?_) (oM_ F D C hK ZY ZV ZX ZW y Z O ZT ((ZL d λd' e=>by rw[e]at ZZ;exact λh=>ZZ (by rw[h])).trans ZM) ZO ZS ZN);simp only[zh,qM,false_or]at ZF;rcases ZF with h1|h1
       .obtain rfl:=qNb h1;rw[zl.2 (ZI rfl)]at hc;cases hc
       .exact C _ _ (C _ _ hw hx) (ZB h1)
      .cases Z
     .have hx:Ext w (w.ext X e):=⟨X,e,rfl⟩;obtain⟨zs,hz⟩:=ZS;obtain⟨z,g,hE,Y,M,G,J⟩:=hR.ext hx;refine wpList_step λK2 ZK => ?_
      rw[qL (dq_ ZX _)];unfold Oper.wp;rw[j8_ ZV hz];simp only[Oper.upon];rw[ZW];refine ZK _ _ ?_;show K _ _;generalize Zv:w.ext X e=w1 at hE Y hx;have ZJ:Ext w1 (w1.alloc (.cells zs.toArray T)):=Ext.one w1 _;have hb:be_ P all.toArray tl fr I Q (dp_ ((i,o,f)::pre)++dp_ post) (a.put (some d) (.pointer (some ⟨w1.heap.size,0,none⟩))) (w1.alloc (.cells zs.toArray T)):=by
       refine oL_ (q:=w1.heap.size) F D C hK ZV ZX ZW hz y ZQ U ZP ?_;refine⟨z,g,hE.del (λt u hu=>⟨λe => ?_,hu⟩),Y.ext ZJ,M,G,J,⟨?_,Y.size,λid p k he Zz => ?_,λZE => ?_⟩,?_⟩
       .subst e;rw[ZM]at hu;cases hu
       .show(w1.heap.push _)[w1.heap.size]? = _;simp
       .have:=(Y.hold id p he).lt Zz;omega
       .have:=(Y.fz _ ZE).1;omega
       .unfold Act.put;have:d<a.tmps.size:=by rw[hE.size];exact zD ZO
        simp[this]
      simp only[dp_,ZU,qf]at hb;exact V _ _ (λ_ hw=>C _ _ (C _ _ hw hx) ZJ) hb
def rn_(O:∀p∈eqs,bd_ P E p.1 p.2)(ht:tab.OK P E)(all:tL tP)(tl fr:tL Nat)(m:Nat)(hm:∀i,i<m->fr.contains i=false)(W:tS)(I:tS->Prop)(hI:∀z g H,HR P E Bs F0.z.F w0 W z g H->F0.z.Le z->∀w',I w'->Keeps P E z g H W w')(Q:Exit->Act->tS->Prop)(fi:Nat)(post:tL (Nat×tV)):Walk P E (λL H nx o _ k=>hL_ P E eqs tab L H nx o k) N Bs F0 w0 all where
 W J l i a w:=w=W->i+l.length<=m->∀rest:tL (Nat×tV),(∀D,J D W->ct_ P all.toArray tl fr I Q fi post rest D W)->ct_ P all.toArray tl fr I Q fi post (ey_ i l++rest) a W
 nil U:=λe _ rest h=>h _ (e▸U)
 app j C:=λe f rest h=>by
  rw[jE_,qS];rw[qLa]at f;exact j e (by omega) _ λD U=>C D W U rfl (by omega) rest h
 skip {J o l i a w} x q j:=λe f rest h=>by
  simp only[qLc]at f;simp only[ey_,qc];refine gr_ o x λK y => ?_
  rw[qP (by rw[q];exact jS)];exact y _ (j e (by omega) rest h)
 step {J o l i a w R L H nx z g k r} x q Y V hf Z hg M hk:=λe f rest h=>by
  simp only[qLc]at f;subst e;simp only[ey_,qc];refine gr_ o x λK y => ?_
  rw[qL q,hm i (by omega)];obtain⟨s,u,v,g2,j,C,h3,h4,h5,h6⟩:=lz_ O ht hf Y V (hI z g H V Z) M;refine⟨v,h6,y _ ?_⟩;exact hk (some s) u v w z g2 j (Fz.Le.refl z) C (Y.le (Fz.Le.refl z) C) h3 h4.nxU (λsv G=>by obtain rfl:=qSj G;exact h5) rfl (by omega) rest h
 pick {J o l i a w v} x q hr j:=λe f rest h=>by
  simp only[qLc]at f;simp only[ey_,qc];refine gr_ o x λK y => ?_
  rw[qL q];exact⟨v,λw' _=>by rw[hr];exact⟨rfl,rfl⟩,y _ (j e (by omega) rest h)⟩
theorem evH_okF(q:∀p∈eqs,bd_ P E p.1 p.2)(Y:tab.OK P E){W:tS}{I:tS->Prop}(hI:∀z g H,HR P E Bs F0.z.F w0 W z g H->F0.z.Le z->∀w',I w'->Keeps P E z g H W w'){R:Type}{r:R}{all:tL tP}{tl fr:tL Nat}{Q:Exit->Act->tS->Prop}{b:Ba E}{k:St E->tO R}{fi:Nat}{post rest:tL (Nat×tV)}
  (hK:∀s' a',k s'=some r->Rel P E Bs F0 w0 N (s'.L b) (s'.H b) s'.nx a' W->ct_ P all.toArray tl fr I Q fi post rest a' W):∀{Z:tL Nat} {s:St E} {a:Act},
  evH P E eqs tab N b all fr Z s k=some r->Rel P E Bs F0 w0 N (s.L b) (s.H b) s.nx a W->ct_ P all.toArray tl fr I Q fi post (hOrd Z++rest) a W
 | [],s,a,h,hR=>hK s a h hR
 | i :: Z,s,a,h,hR=>by
  unfold evH at h;split at h
  .cases h
  .rename_i o ho;split at h
   .cases h
   .rename_i ZZ;obtain⟨z,g,U,O,J,x,G⟩:=hR;simp only[hOrd,qc];refine gr_ o ho λK M => ?_
    rw[qL (dq_ ZZ _)];split at h
    .rename_i hc;rw[hc];obtain⟨sv,v,up,g2,f,ZX,ZY,hv,D,V⟩:=ie_ (nx:=s.nx) q (U.op O.gl) (O.less (H':=λ_=>none) λ_ _ e=>by cases e) h (λ_=>True);simp only at f;split at f
     .cases f
     .obtain rfl:g2=g:=V;split at f
      .rename_i s1 y;obtain⟨C,_⟩:=ch_ (u:=[]) y U O x G (λj hj=>J j (by simp only[nxU]at hj;omega)) (λsv' e=>by obtain rfl:=qSj e;exact hv);exact⟨v,λw' _=>by rw[D w' trivial];exact⟨rfl,rfl⟩,M _ (evH_okF q Y hI hK f C)⟩
      .cases f
    .rename_i hc;rw[hc];obtain⟨sv,u,v,g2,f,h2,h3,h4,h5,h6⟩:=lz_ q Y J U O (hI z g _ O x) h;simp only at f;split at f
     .rename_i s1 y;obtain⟨C,_⟩:=ch_ y (U.le (Fz.Le.refl z) h2) h3 x (G.trans h2) h4.nxU (λsv' e=>by obtain rfl:=qSj e;exact h5);exact⟨v,h6,M _ (evH_okF q Y hI hK f C)⟩
     .cases f
theorem evFloat_ok(D:∀p∈eqs,bd_ P E p.1 p.2)(ht:tab.OK P E){R:Type}{l:tL tP}{fl M:tL Nat}{p:Nat}{id:Nat}{b:Ba E}{s:St E}{k:St E->tO R}{r:R}{a:Act}{w:tS}{Q:Exit->Act->tS->Prop}(h:evFloat P E eqs tab N l fl M p b s k=some r)(hR:Rel P E Bs F0 w0 N (s.L b) (s.H b) s.nx a w)
  (hK:∀s' O w',k s'=some r->Rel P E Bs F0 w0 N (s'.L b) (s'.H b) s'.nx O w'->Q .normal O w'):(Code.region id l.toArray true).wp P Q a w:=by
 unfold evFloat at h;split at h
 .cases h
 .rename_i t ZW;obtain⟨fi,fo,f1⟩:=t;split at h
  .cases h
  .rename_i q;simp only[qAn]at q;obtain⟨⟨hm,j,ZT⟩,hB⟩:=q;obtain rfl:=qNb ZT;have f:∀t∈en_ M (aw_ fl) (l.drop (aw_ fl)) (fl.drop (aw_ fl)),l[t.1]? = some t.2.1/\(t.2.2=2->t.1∈tlOf 0 fl):=λt f=>by
    obtain⟨k,h5,h6,h7⟩:=qr_ f;rw[zW]at h6 h7;rw[←h5]at h6 h7;refine⟨h6,λhf => ?_⟩;rw[hf]at h7;have:=qq_ (n:=0) h7
    rwa [qh]at this
   have Y:=(f _ (qw ZW)).1;unfold floatB at j;simp only at j Y hB h;split at j
   .rename_i T d ZU ZV Z;simp only[qAn,qo]at j;obtain⟨ZS,ZR,U⟩:=j;have ZX:∃zs,zeroOf P T=some zs:=by
     split at U
     .rename_i zs hz;exact⟨zs,hz⟩
     .cases U
    have ZZ:dstN fo=d:=by unfold dstN;rw[Z]
    rw[ZZ]at h;have ZY:∀w1 w',Ext w w1->Ext w1 w'->Ext w w':=λ_ _ G h2=>G.trans h2
    have hI:∀z g H,HR P E Bs F0.z.F w0 w z g H->F0.z.Le z->∀w',Ext w w'->Keeps P E z g H w w':=λz g H G _ w' h2=>Keeps.of_ext G h2
    refine mU_ (I:=Ext w) ZY _ _ _ _ hm hB (Ext.refl w) ?_;have:=ft_ (rn_ D ht l (tlOf 0 fl) (frOf 0 fl) (aw_ fl) (λ_ h=>notFree h) w (Ext w) hI Q fi (dp_ ((en_ M (aw_ fl) (l.drop (aw_ fl)) (fl.drop (aw_ fl))).drop (p+1)))) _ (tl:=l.drop (aw_ fl)) (J:=λO w'=>w'=w->ct_ P l.toArray (tlOf 0 fl) (frOf 0 fl) (Ext w) Q fi (dp_ ((en_ M (aw_ fl) (l.drop (aw_ fl)) (fl.drop (aw_ fl))).drop (p+1))) (hOrd M++dp_ ((en_ M (aw_ fl) (l.drop (aw_ fl)) (fl.drop (aw_ fl))).take p)) O w') h (by simp) hR trivial λs' O w' G h2 _ hw=>by
     subst hw;refine evH_okF D ht hI (λx a2 h3 h4 => ?_) G h2;have hL:(({ x with env:=(d,none)::x.env }:St E).L b) d=none:=by
      simp only[St.L,aK_,Nat.beq_refl]
     have ZQ:Rel P E Bs F0 w0 N (({ x with env:=(d,none)::x.env }:St E).L b) (({ x with env:=(d,none)::x.env }:St E).H b) x.nx a2 w':=by
      obtain⟨z,g,hE,hH,C⟩:=h4;exact⟨z,g,hE.less λt u V=>(by
       simp only[St.L,aK_]at V ⊢;cases hb:Nat.beq t d with
       | true=>rw[hb]at V;cases V
       | false=>rw[hb]at V;exact V),hH,C⟩
     refine oM_ D ht ZY hK Y ZU ZV Z (λt y=>f t (jk y)) h3 (λt y=>f t (zK y)) (nF_ ZS) hL ZR ZX ZQ
    exact this rfl (by rw[qh];exact jf _ _) _ λO G=>G rfl
   .cases j
def ro_(O:∀p∈eqs,bd_ P E p.1 p.2)(ht:tab.OK P E)(all:tL tP)(fr:tL Nat)(m:Nat)(hm:∀i,i<m->fr.contains i=false)(W:tS)(I:tS->Prop)(hI:∀z g H,HR P E Bs F0.z.F w0 W z g H->F0.z.Le z->∀w',I w'->Keeps P E z g H W w')(Q:Exit->Act->tS->Prop)(t:OT):Walk P E (λL H nx o _ k=>hL_ P E eqs tab L H nx o k) N Bs F0 w0 all where
 W J l i a w:=w=W->i+l.length<=m->∀rest:tL (Nat×tV),(∀D,J D W->fL_ P all.toArray fr I Q t rest D W)->fL_ P all.toArray fr I Q t (ey_ i l++rest) a W
 nil U:=λe _ rest h=>h _ (e▸U)
 app j C:=λe f rest h=>by
  rw[jE_,qS];rw[qLa]at f;exact j e (by omega) _ λD U=>C D W U rfl (by omega) rest h
 skip {J o l i a w} x q j:=λe f rest h=>by
  simp only[qLc]at f;simp only[ey_,qc];refine lA_ o x λK y => ?_
  rw[qP (by rw[q];exact jS)];exact y _ (j e (by omega) rest h)
 step {J o l i a w R L H nx z g k r} x q Y V hf Z hg M hk:=λe f rest h=>by
  simp only[qLc]at f;subst e;simp only[ey_,qc];refine lA_ o x λK y => ?_
  rw[qL q,hm i (by omega)];obtain⟨s,u,v,g2,j,C,h3,h4,h5,h6⟩:=lz_ O ht hf Y V (hI z g H V Z) M;refine⟨v,h6,y _ ?_⟩;exact hk (some s) u v w z g2 j (Fz.Le.refl z) C (Y.le (Fz.Le.refl z) C) h3 h4.nxU (λsv G=>by obtain rfl:=qSj G;exact h5) rfl (by omega) rest h
 pick {J o l i a w v} x q hr j:=λe f rest h=>by
  simp only[qLc]at f;simp only[ey_,qc];refine lA_ o x λK y => ?_
  rw[qL q];exact⟨v,λw' _=>by rw[hr];exact⟨rfl,rfl⟩,y _ (j e (by omega) rest h)⟩
def GS(all:tL tP)(gs:Gs)(L:Nat->tO (SV E)):Prop:=∀q∈gs,gdOK all (some (q.1,q.2.2,q.2.1)) L
theorem GS.after{all:tL tP}{gs:Gs}{o:tP}{L L':Nat->tO (SV E)}(h:GS all gs L)(j:gsFree o gs=true)(p:∀t,(∀d,o.dst=some d->t≠d)->L' t=L t):GS all gs L' :=
 λq f=>nE_ (h q f) (qx.1 j q f) p
theorem gsAt_mem{k:Nat}{q:Nat×Nat×tV}:∀{gs:Gs},gsAt k gs=some q->q∈gs/\q.1=k
 | [],h=>nomatch h
 | p::l,h=>by
  simp only[gsAt]at h;split at h
  .rename_i f;obtain rfl:=qSj h;exact⟨qT,qNb f⟩
  .have:=gsAt_mem h;exact⟨qG _ this.1,this.2⟩
theorem rp_{k:Nat}{q:Nat×Nat×tV}:∀{gs:Gs},gsSlot k gs=some q->q∈gs/\q.2.1=k
 | [],h=>nomatch h
 | p::l,h=>by
  simp only[gsSlot]at h;split at h
  .rename_i f;obtain rfl:=qSj h;exact⟨qT,qNb f⟩
  .have:=rp_ h;exact⟨qG _ this.1,this.2⟩
theorem GS.val{all:tL tP}{gs:Gs}{L:Nat->tO (SV E)}{q:Nat×Nat×tV}{z:Fz}{g:Ga}{a:Act}(h:GS all gs L)(f:q∈gs)(j:ER P E z g N a L):(∃oj,all[q.1]? = some oj/\oj.dst=some q.2.1)/\a.tmps[q.2.1]? = some (.bool q.2.2):=by
 obtain⟨x,c,u,rfl⟩:=h q f;obtain⟨v,s,p⟩:=j.get _ _ u;exact⟨x,by rw[s];exact qa some (SV.bool_ok rfl p)⟩
theorem jm_{all:tL tP}{gs:Gs}{L:Nat->tO (SV E)}{o:tP}{u:tV}{z:Fz}{g:Ga}{a:Act}(h:GS all gs L)(x:ER P E z g N a L)(f:wantG o gs=some u):Region.wanted o (yielded all.toArray a.tmps)=u:=by
 unfold wantG at f;unfold Region.wanted;split at f
 .rename_i j;rw[j];exact qSj f
 .rename_i k w j;rw[j];split at f
  .cases f
  .rename_i q p;obtain⟨s,rfl⟩:=gsAt_mem p;obtain⟨⟨oj,D,C⟩,y⟩:=h.val s x;obtain rfl:=qSj f;simp only[kM_ D C y];cases q.2.2<;>cases w<;>rfl
theorem evO1_ok (ZU:∀p∈eqs,bd_ P E p.1 p.2) (ht:tab.OK P E) {R:Type} {r:R} {all:tL tP} {Q:Exit->Act->tS->Prop} {b:Ba E} {gs:Gs} {i:Nat} {K:Act->tS->Prop} {kk:St E->tO R} {s:St E} {a:Act} {w:tS}
  (ih:∀{s:St E} {a:Act} {w:tS},kk s=some r->Rel P E Bs F0 w0 N (s.L b) (s.H b) s.nx a w->GS all gs (s.L b)->K a w)
  (h:evO1 P E eqs tab N b all i gs s kk=some r) (hR:Rel P E Bs F0 w0 N (s.L b) (s.H b) s.nx a w) (V:GS all gs (s.L b)) :
   (match all.toArray[i]? with
    | none=>False
    | some o=>∀X d,wpList P all.toArray (Exit.then K (cp_ Q)) [o] a (w.ext X d)):=by
 unfold evO1 at h;split at h
 .cases h
 .rename_i o ho;have ZX:all.toArray[i]? = some o:=by simpa using ho
  rw[ZX];intro X d;have ZT:=hR.ext ⟨X,d,rfl⟩;obtain⟨z,g,O,Z,J,F,G⟩:=ZT;refine wpList_step λK2 M => ?_
  split at h
  .rename_i D hw;rw[qL (jm_ V O hw)];split at h
   .rename_i x U;split at h
    .cases h
    .rename_i v hv;split at h
     .rename_i s1 f;obtain⟨y,C⟩:=ch_ (u:=[]) (x:=a.eval x) f O Z F G (λj hj=>J j (by simp only[nxU]at hj;omega)) (λsv' e=>by obtain rfl:=qSj e;exact O.op Z.gl _ _ hv);unfold pickG at U;split at U
      .rename_i dd x0 y0 ZY;split at U
       .cases U
       .rename_i q hq;obtain⟨hm,rfl⟩:=rp_ hq;obtain⟨_,h3⟩:=V.val hm O;obtain rfl:=qSj U;unfold Oper.wp;have Y:(execOp a.eval o).run P (w.ext X d) = .ok (.value (a.eval (picked q.2.2 x0 y0))) (w.ext X d):=by
         have hc:a.eval (.tmp q.2.1) = .bool q.2.2:=by simp[Act.eval,h3]
         unfold execOp;rw[ZY];simp only[hc];cases q.2.2<;>simp[asBool,picked]
        rw[Y];exact M _ _ (ih h y (V.after D C))
      .cases U
     .cases h
   .refine lx_ ZU ht J O Z h λv u x w' z2 g2 hk ZZ ZW ZR ZS ZV hv _=>M _ _ ?_
    split at hk
    .rename_i s1 f;obtain⟨y,C⟩:=ch_ f ZR ZS (F.trans ZZ) (G.trans ZW) ZV hv;exact ih hk y (V.after D C)
    .cases hk
  .rename_i D hw;rw[qP (by rw[jm_ V O hw];exact jS)];split at h
   .rename_i s1 f;obtain⟨y,C⟩:=ch_ (u:=[]) (x:=undef) f O Z F G (λj hj=>J j (by simp only[nxU]at hj;omega)) (λ_ e=>nomatch e);exact M _ _ (ih h y (V.after D C))
   .cases h
  .cases h
theorem evOT_ok(V:∀p∈eqs,bd_ P E p.1 p.2)(ht:tab.OK P E){R:Type}{r:R}{all:tL tP}{Q:Exit->Act->tS->Prop}{b:Ba E}{k:St E->tO R}
  (hK:∀s' a' w',k s'=some r->Rel P E Bs F0 w0 N (s'.L b) (s'.H b) s'.nx a' w'->Q .normal a' w'):∀{t:OT} {c:tV} {gs:Gs} {s:St E} {a:Act} {w:tS},
  ez_ P E eqs tab N b all k t gs s=some r->Rel P E Bs F0 w0 N (s.L b) (s.H b) s.nx a w->GS all gs (s.L b)->wpO P all.toArray Q t c a w:=by
 intro t
 induction t with
 | nil =>
  intro c gs s a w h C y;cases c with
  | true=>trivial
  | false=>exact λX d=>hK s a _ (by simpa only[ez_]using h) (C.ext ⟨X,d,rfl⟩)
 | spl i t f ZY ZW =>
  intro c gs s a w h C y;simp only[ez_]at h;split at h
  .cases h
  .rename_i o ho;split at h
   .cases h
   .rename_i d hd;split at h
    .rename_i u hu;obtain⟨z,g,J,hH,G,D,F⟩:=C;obtain⟨v,h3,h4⟩:=J.get _ _ hu;have hy:=kM_ (c:=u) ho hd (by rw[h3];exact qa some (SV.bool_ok rfl h4));cases u with
     | true=>exact .inl ⟨hy,ZY h ⟨z,g,J,hH,G,D,F⟩ λq O=>by
       rcases qD.1 O with rfl|O
       .exact⟨⟨o,ho,hd⟩,true,hu,rfl⟩
       .exact y q O⟩
     | false=>exact .inr ⟨hy,ZW h ⟨z,g,J,hH,G,D,F⟩ λq O=>by
       rcases qD.1 O with rfl|O
       .exact⟨⟨o,ho,hd⟩,false,hu,rfl⟩
       .exact y q O⟩
    .cases h
 | free i t ih =>
  intro c gs s a w h C y;simp only[ez_]at h;split at h
  .cases h
  .rename_i o ho;have ZU:all.toArray[i]? = some o:=by simpa using ho
   simp only[wpO,ZU];obtain⟨z,g,J,hH,G,D,F⟩:=C;split at h
   .rename_i U hw;rw[qL (jm_ y J hw)];obtain⟨sv,v,up,g2,hk,ZS,ZT,hv,ZZ,ZV⟩:=ie_ (nx:=s.nx) V (J.op hH.gl) (hH.less (H':=λ_=>none) λ_ _ e=>by cases e) h (λ_=>True);simp only at hk;split at hk
    .cases hk
    .obtain rfl:g2=g:=ZV;split at hk
     .rename_i s1 M;obtain⟨Y,Z⟩:=ch_ (u:=[]) M J hH D F (λj hj=>G j (by simp only[nxU]at hj;omega)) (λsv' e=>by obtain rfl:=qSj e;exact hv);exact⟨v,λw' _=>by rw[ZZ w' trivial];exact⟨rfl,rfl⟩,ih hk Y (y.after U Z)⟩
     .cases hk
   .rename_i U hw;rw[qP (by rw[jm_ y J hw];exact jS)];split at h
    .rename_i s1 M;obtain⟨Y,Z⟩:=ch_ (u:=[]) (x:=undef) M J hH D F (λj hj=>G j (by simp only[nxU]at hj;omega)) (λ_ e=>nomatch e);exact ih h Y (y.after U Z)
    .cases h
   .cases h
 | alt i t rr ih ZX =>
  intro c gs s a w h C y;cases rr with
  | nil =>
   simp only[ez_]at h;exact⟨evO1_ok V ht (λh C y=>ih h C y) h C y,trivial⟩
  | free j t2 =>
   simp only[ez_]at h;cases h
  | spl j t2 f2 =>
   simp only[ez_]at h;cases h
  | alt j t2 r2 =>
   rw[ez_]at h;obtain⟨h1,h2⟩:=both_some h;exact⟨evO1_ok V ht (λh C y=>ih h C y) h1 C y,ZX h2 C y⟩
theorem wpList_one{ops:Array tP}{Q:Exit->Act->tS->Prop}{K:Act->tS->Prop}{o:tP}{rest:tL tP}{a:Act}{w:tS}(h:wpList P ops (Exit.then K (cp_ Q)) [o] a w)(p:∀f w',K f w'->wpList P ops Q rest f w'):wpList P ops Q (o::rest) a w:=by
 unfold wpList at h ⊢;split
 .rename_i j;rw[qL j]at h;rcases h with h|h
  .exact .inl (Oper.wp_out (λf w' q=>p f w' q) (λ_ _ _ h=>nomatch h.1) (λh=>ge_ (Q:=Q) h) h)
  .exact .inr ⟨h.1,ge_ (Q:=Q) h.2⟩
 .rename_i j;rw[qP j]at h;exact p _ _ h
theorem evLin_go(ZW:∀p∈eqs,bd_ P E p.1 p.2)(ht:tab.OK P E){R:Type}{r:R}{all:tL tP}{Q:Exit->Act->tS->Prop}{b:Ba E}{k:St E->tO R}
  (hK:∀s' a' w',k s'=some r->Rel P E Bs F0 w0 N (s'.L b) (s'.H b) s'.nx a' w'->Q .normal a' w'):∀{t:OT} {i:Nat} {gs:Gs} {s:St E} {a:Act} {w:tS},linO t i all.length=true ->
  ez_ P E eqs tab N b all k t gs s=some r->Rel P E Bs F0 w0 N (s.L b) (s.H b) s.nx a w->GS all gs (s.L b)->wpList P all.toArray Q (all.drop i) a w:=by
 have D:∀{i:Nat} {o:tP},all[i]? = some o->all.drop i=o::all.drop (i+1):=fun{i o} h=>by
  obtain⟨h1,h2⟩:=qj.1 h;rw[qi h1,h2]
 intro t
 induction t with
 | nil =>
  intro i gs s a w y h F C;have:i=all.length:=qNb y;subst this;rw[ze];exact hK s a _ (by simpa only[ez_]using h) F
 | spl j t f ZU ZT =>
  intro i gs s a w y h F C;simp only[linO,qAn]at y;simp only[ez_]at h;split at h
  .cases h
  .rename_i o V;split at h
   .cases h
   .rename_i d hd;split at h
    .rename_i u hu;cases u with
     | true =>
      refine ZU y.1 h F λq J => ?_
      rcases qD.1 J with rfl|J
      .exact⟨⟨o,V,hd⟩,true,hu,rfl⟩
      .exact C q J
     | false =>
      refine ZT y.2 h F λq J => ?_
      rcases qD.1 J with rfl|J
      .exact⟨⟨o,V,hd⟩,false,hu,rfl⟩
      .exact C q J
    .cases h
 | free j t ih =>
  intro i gs s a w y h F C;simp only[linO,qAn]at y;obtain rfl:=qNb y.1;simp only[ez_]at h;split at h
  .cases h
  .rename_i o V;rw[D V];obtain⟨z,g,hE,hH,ZX,Z,ZY⟩:=F;refine wpList_step λK2 ZV => ?_
   split at h
   .rename_i M hw;rw[qL (jm_ C hE hw)];obtain⟨sv,v,up,g2,Y,ZP,ZQ,hv,ZZ,ZS⟩:=ie_ (nx:=s.nx) ZW (hE.op hH.gl) (hH.less (H':=λ_=>none) λ_ _ e=>by cases e) h (λ_=>True);simp only at Y;split at Y
    .cases Y
    .obtain rfl:g2=g:=ZS;split at Y
     .rename_i s1 G;obtain⟨O,U⟩:=ch_ (u:=[]) G hE hH Z ZY (λj hj=>ZX j (by simp only[nxU]at hj;omega)) (λsv' e=>by obtain rfl:=qSj e;exact hv);unfold Oper.wp;rw[ZZ w trivial];exact ZV _ _ (ih y.2 Y O (C.after M U))
     .cases Y
   .rename_i M hw;rw[qP (by rw[jm_ C hE hw];exact jS)];split at h
    .rename_i s1 G;obtain⟨O,U⟩:=ch_ (u:=[]) (x:=undef) G hE hH Z ZY (λj hj=>ZX j (by simp only[nxU]at hj;omega)) (λ_ e=>nomatch e);exact ZV _ _ (ih y.2 h O (C.after M U))
    .cases h
   .cases h
 | alt j t rr ih ZR =>
  intro i gs s a w y h F C;cases rr with
  | nil =>
   simp only[linO,qAn]at y;obtain rfl:=qNb y.1;simp only[ez_]at h;have h1:=evO1_ok ZW ht (Q:=Q) (K:=λa' w'=>wpList P all.toArray Q (all.drop (j+1)) a' w') (λh F C=>ih y.2 h F C) h F C;split at h1
   .cases h1
   .rename_i o V;rw[D (by simpa using V)];obtain⟨X,d,he⟩:=Ext.refl w;have h2:=h1 X d;rw[←he]at h2;exact wpList_one h2 λ_ _ h=>h
  | free _ _=>cases y
  | spl _ _ _=>cases y
  | alt _ _ _=>cases y
theorem evLin_ok(f:∀p∈eqs,bd_ P E p.1 p.2)(q:tab.OK P E){R:Type}{l:tL tP}{t:OT}{id:Nat}{b:Ba E}{s:St E}{k:St E->tO R}{r:R}{a:Act}{w:tS}{Q:Exit->Act->tS->Prop}(h:evLin P E eqs tab N l t b s k=some r)(x:Rel P E Bs F0 w0 N (s.L b) (s.H b) s.nx a w)
  (y:∀s' j w',k s'=some r->Rel P E Bs F0 w0 N (s'.L b) (s'.H b) s'.nx j w'->Q .normal j w'):(Code.region id l.toArray false).wp P Q a w:=by
 unfold evLin at h;split at h
 .cases h
 .rename_i u;have:=evLin_go f q y u h x (λ_ e=>nomatch e);rw[zO]at this;exact iG_ this
theorem evOrd_ok(u:∀p∈eqs,bd_ P E p.1 p.2)(M:tab.OK P E){R:Type}{l:tL tP}{p:Nat}{t:OT}{id:Nat}{b:Ba E}{s:St E}{k:St E->tO R}{r:R}{a:Act}{w:tS}{Q:Exit->Act->tS->Prop}(h:evOrd P E eqs tab N l p t b s k=some r)(Y:Rel P E Bs F0 w0 N (s.L b) (s.H b) s.nx a w)
  (Z:∀s' q w',k s'=some r->Rel P E Bs F0 w0 N (s'.L b) (s'.H b) s'.nx q w'->Q .normal q w'):(Code.region id l.toArray true).wp P Q a w:=by
 unfold evOrd at h;split at h
 .cases h
 .rename_i f;simp only[qAn]at f;obtain⟨U,C,hB⟩:=f;have D:∀G w',Ext w G->Ext G w'->Ext w w':=λ_ _ j x=>j.trans x
  have hI:∀z g H,HR P E Bs F0.z.F w0 w z g H->F0.z.Le z->∀w',Ext w w'->Keeps P E z g H w w':=λz g H j _ w' x=>Keeps.of_ext j x
  have y:∀i,i<p->t.frO.contains i=false:=λi hi=>by
   cases V:t.frO.contains i with
   | false=>rfl
   | true =>
    have:=qx.1 C i (zl.1 V);have:=zD this;omega
  refine mV_ (I:=Ext w) D _ _ _ U hB (Ext.refl w) ?_;have:=ft_ (ro_ u M l t.frO p y w (Ext w) hI Q t) _ (tl:=l.drop p) (J:=λq w'=>w'=w->fL_ P l.toArray t.frO (Ext w) Q t [] q w) h (by simp) Y trivial λs' q w' j x _ O=>by
   subst O;exact evOT_ok u M Z j x (λ_ e=>nomatch e)
  have h3:=this rfl (by rw[qh];exact jf _ _) [] λq j=>j rfl
  rwa [zP]at h3
def chainWalk(U:∀p∈eqs,bd_ P E p.1 p.2)(ht:tab.OK P E)(all:tL tP)(Q:Exit->Act->tS->Prop):Walk P E (λL H nx o _ k=>evOp P E eqs tab L H nx o k) N Bs F0 w0 all where
 W J l i a w:=∀n:Nat,(∀F w',J F w'->∀j,Ext w' j->wpO P all.toArray Q (chO (i+l.length) n) false F j)->∀w',Ext w w'->wpO P all.toArray Q (chO i (l.length+n)) false a w'
 nil {J i a w} V:=λn h w' q=>by
  rw[qQ,qh];exact h _ _ V w' q
 app {J1 J l1 l2 i a w} s Y:=λn h w' q=>by
  rw[qLa,zG];exact s (l2.length+n) (λF Z V j M=>Y F Z V n (by rw[zG,←qLa];exact h) j M) w' q
 skip {J o l i a w} C y s:=λn h w' q=>by
  rw[qLc,show l.length+1+n=(l.length+n)+1 by omega];have f:all.toArray[i]? = some o:=by simpa using C
  refine⟨?_,trivial⟩;rw[f];intro X d;refine wpList_step λK D => ?_
  rw[qP (by rw[y];exact jS)];exact D _ _ (s n (by rw[show i+1+l.length=i+(o::l).length by rw[qLc];omega];exact h) _ (q.trans ⟨X,d,rfl⟩))
 step {J o l i a w R L H nx z g k r} C y hE hH hf hz hg O hk:=λn h w' q=>by
  rw[qLc,show l.length+1+n=(l.length+n)+1 by omega];have f:all.toArray[i]? = some o:=by simpa using C
  refine⟨?_,trivial⟩;rw[f];intro X d;refine wpList_step λK D => ?_
  rw[qL y];exact evOp_ok U ht hf hE (hH.ext (q.trans ⟨X,d,rfl⟩)) O λv u x G z2 g2 s Y h3 h4 h5 h6 h7=>D _ _ (hk v u x G z2 g2 s Y h3 h4 h5 h6 h7 n (by rw[show i+1+l.length=i+(o::l).length by rw[qLc];omega];exact h) G (Ext.refl G))
 pick {J o l i a w v} C y hr s:=λn h w' q=>by
  rw[qLc,show l.length+1+n=(l.length+n)+1 by omega];have f:all.toArray[i]? = some o:=by simpa using C
  refine⟨?_,trivial⟩;rw[f];intro X d;refine wpList_step λK D => ?_
  rw[qL y];unfold Oper.wp;rw[hr _];exact D _ _ (s n (by rw[show i+1+l.length=i+(o::l).length by rw[qLc];omega];exact h) _ (q.trans ⟨X,d,rfl⟩))
theorem evChain_ok(C:∀p∈eqs,bd_ P E p.1 p.2)(M:tab.OK P E){R:Type}{l:tL tP}{p:Nat}{id:Nat}{b:Ba E}{s:St E}{k:St E->tO R}{r:R}{a:Act}{w:tS}{Q:Exit->Act->tS->Prop}(h:evChain P E eqs tab N l p b s k=some r)(Z:Rel P E Bs F0 w0 N (s.L b) (s.H b) s.nx a w)
  (hK:∀s' f w',k s'=some r->Rel P E Bs F0 w0 N (s'.L b) (s'.H b) s'.nx f w'->Q .normal f w'):(Code.region id l.toArray true).wp P Q a w:=by
 unfold evChain at h;split at h
 .cases h
 .rename_i q;simp only[qAn]at q;obtain⟨Y,y,hB⟩:=q;have y:=zD y;have D:∀G w',Ext w G->Ext G w'->Ext w w':=λ_ _ j x=>j.trans x
  have hI:∀z g H,HR P E Bs F0.z.F w0 w z g H->F0.z.Le z->∀w',Ext w w'->Keeps P E z g H w w':=λz g H j _ w' x=>Keeps.of_ext j x
  refine mV_ (I:=Ext w) D _ _ _ Y hB (Ext.refl w) ?_;have:=ft_ (ro_ C M l [] p (λ_ _=>rfl) w (Ext w) hI Q (chO p (l.length-p))) _ (tl:=l.drop p) (J:=λf w'=>w'=w->fL_ P l.toArray [] (Ext w) Q (chO p (l.length-p)) [] f w') h (by simp) Z trivial λs' f w' j x h5 V=>by
   subst V;have h4:=ft_ (chainWalk C M l Q) _ (tl:=[]) (J:=λf w'=>∀u,Ext w' u->wpO P l.toArray Q (chO l.length 0) false f u) j (by simp) x trivial λs' f w' j x _ u U X d=>hK s' f _ j (x.ext (U.trans ⟨X,d,rfl⟩))
   have O:=h4 0 (by
    rw[qC,show p+(l.length-p)=l.length by omega];exact λf w' h=>h) w' (Ext.refl _)
   rw[qC,jP]at O;exact O
  have h3:=this rfl (by rw[qh];exact jf _ _) [] λf j=>j rfl
  rwa [zP]at h3
end Rt
namespace Rt
open Go.RowKit
section
variable{P:tT}{E:TE}{z:Fz}{g g':Ga}{w w0:tS}{Bs:tL Nat}{F0:Nat->Prop}{N:Nat}
theorem HR.remap{H H':Nat->tO (Obj E)}(h:HR P E Bs F0 w0 w z g H)(f:Nat->Nat)(O:∀i j o p,H' i=some o->H' j=some p->f i=f j->i=j)
  (s:∀i o',H' i=some o'->∃o,H (f i)=some o/\ObjR P E z g' w i o'/\∀k,fpO g' i o' k->fpO g (f i) o k):HR P E Bs F0 w0 w z g' H':=by
 refine⟨h.chg,λi o e => ?_,λi o k e u => ?_,λi j o p k M e G u C => ?_,h.fz,h.fz0,λi o k e u => ?_,h.gl⟩
 .obtain⟨_,_,U,_⟩:=s i o e;exact U
 .obtain⟨q,y,_,x⟩:=s i o e;exact h.own _ q k y (x k u)
 .obtain⟨q,y,_,x⟩:=s i o e;obtain⟨J,F,_,D⟩:=s j p G;exact h.apart _ _ q J k (λV=>M (O i j o p e G V)) y F (x k u) (D k C)
 .obtain⟨q,y,_,x⟩:=s i o e;exact h.fza _ q k y (x k u)
theorem subset_mem{l m:tL Nat}(h:subset l m=true){t:Nat}(f:t∈l):ay_ t m=true:=by
 unfold subset at h;exact qx.1 h t f
theorem disj_mem{l m:tL Nat}(h:disj l m=true){t:Nat}(f:t∈l):ay_ t m=false:=by
 unfold disj at h;simpa using qx.1 h t f
theorem eU_{t:Nat}:∀{l m:tL Nat},ay_ t (l++m)=(ay_ t l||ay_ t m)
 | [],m=>rfl
 | u::l,m=>by
  simp only[qc,ay_];cases Nat.beq t u with
  | true=>rfl
  | false=>exact eU_
theorem RC.same{A:tL Nat}{c:SC E}{v:tW}(h:RC P E z g c v)(y:∀i,ay_ i A=true->g' i=g i)(s:c.okIds A=true):RC P E z g' c v:=by
 cases c with
 | dt t x=>exact h
 | own id=>obtain⟨l,p,j⟩:=h;exact⟨l,by rw[y id s];exact p,j⟩
 | pre id n=>obtain⟨l,p,j⟩:=h;exact⟨l,by rw[y id s];exact p,j⟩
 | suf id lo=>obtain⟨l,p,j⟩:=h;exact⟨l,by rw[y id s];exact p,j⟩
 | nils=>exact h
 | ptr id off=>obtain⟨l,p,j⟩:=h;exact⟨l,by rw[y id s];exact p,j⟩
 | elo id q i off =>
  simp only[SC.okIds,qAn]at s;obtain⟨l,p,j⟩:=h;exact⟨l,by rw[y q s.2];exact p,j⟩
 | elf t x off=>exact h
 | fn1 a r f=>exact h
 | fn2 a b r f=>exact h
 | clo f caps =>
  obtain⟨C,p,j⟩:=h;refine⟨C,p,?_⟩;have:∀{caps:tL Nat} {C:tL tW},subset caps A=true->All2 (λid u=>∃l,g id=some l/\u=Value.pointer (some ⟨l.b,0,none⟩)) caps C->All2 (λid u=>∃l,g' id=some l/\u=Value.pointer (some ⟨l.b,0,none⟩)) caps C:=by
   intro caps C D hr
   induction hr with
   | nil=>exact .nil
   | cons G _ F =>
    obtain⟨l,M,J⟩:=G;exact .cons ⟨l,by rw[y _ (subset_mem D (qT ..))];exact M,J⟩ (F (by unfold subset at D ⊢;simp only[jR,qAn]at D;exact D.2))
  exact this s j
 | mp id=>obtain⟨l,p,j⟩:=h;exact⟨l,by rw[y id s];exact p,j⟩
 | mst q=>obtain⟨l,p,j⟩:=h;exact⟨l,by rw[y q s];exact p,j⟩
 | nilp=>exact h
 | nif=>exact h
 | sbp id=>obtain⟨l,p,j⟩:=h;exact⟨l,by rw[y id s];exact p,j⟩
 | pix id i=>obtain⟨l,p,j⟩:=h;exact⟨l,by rw[y id s];exact p,j⟩
 | efx t x i=>exact h
theorem RCs.same{A:tL Nat}(q:∀i,ay_ i A=true->g' i=g i){l:tL (SC E)}{vs:tL tW}(h:All2 (RC P E z g) l vs):(l.all λc=>c.okIds A)=true->All2 (RC P E z g') l vs:=by
 induction h with
 | nil=>intro _;exact .nil
 | cons p _ j =>
  intro f;simp only[jR,qAn]at f;exact .cons (p.same q f.1) (j f.2)
theorem R1.same{A:tL Nat}{x:V1 E}{v:tW}(h:R1 P E z g x v)(j:∀i,ay_ i A=true->g' i=g i)(f:x.okIds A=true):R1 P E z g' x v:=by
 cases x with
 | one c=>exact RC.same h j f
 | agg l=>obtain⟨vs,q,p⟩:=h;exact⟨vs,q,RCs.same j p f⟩
theorem RV.same{A:tL Nat}{x:SV E}{v:tW}(h:RV P E z g x v)(p:∀i,ay_ i A=true->g' i=g i)(j:x.okIds A=true):RV P E z g' x v:=by
 cases x with
 | v x=>exact R1.same h p j
 | tup l =>
  obtain⟨vs,y,u⟩:=h;refine⟨vs,y,?_⟩;have:∀{l:tL (V1 E)} {vs:tL tW},(l.all λc=>c.okIds A)=true->All2 (R1 P E z g) l vs->All2 (R1 P E z g') l vs:=by
   intro l vs f hr
   induction hr with
   | nil=>exact .nil
   | cons s _ q =>
    simp only[jR,qAn]at f;exact .cons (s.same p f.1) (q f.2)
  exact this j u
theorem fpO_same{i i':Nat}{o:Obj E}{k:Nat}(f:g' i'=g i):fpO g' i' o k↔fpO g i o k:=by
 cases o<;>simp[fpO,f]
theorem ObjR.same{A:tL Nat}{i:Nat}{o:Obj E}(h:ObjR P E z g w i o)(y:∀i,ay_ i A=true->g' i=g i)(hi:g' i=g i)(u:o.okIds A=true):ObjR P E z g' w i o:=by
 cases o with
 | box T cs=>obtain⟨l,vs,j,f,s⟩:=h;exact⟨l,vs,by rw[hi];exact j,f,RCs.same y s u⟩
 | row e t xs foc =>
  obtain⟨l,rows,j,f,s,F,D,C,U,O⟩:=h;refine⟨l,rows,by rw[hi];exact j,f,s,F,D,C,U,λp q => ?_⟩;obtain⟨M,lq,o,J,G⟩:=O p q;exact⟨M,lq,o,by rw[y p.1 (qx.1 u p q)];exact J,G⟩
 | fr t xs=>obtain⟨l,rows,j,f⟩:=h;exact⟨l,rows,by rw[hi];exact j,f⟩
 | fb t x=>obtain⟨l,r,j,f⟩:=h;exact⟨l,r,by rw[hi];exact j,f⟩
 | map T k v V vs foc =>
  obtain⟨l,es,c,j,f,s,F⟩:=h;refine⟨l,es,c,by rw[hi];exact j,f,s,λp q => ?_⟩;obtain⟨lq,i,e,D,C⟩:=F p q;exact⟨lq,i,e,by rw[y p.1 (qx.1 u p q)];exact D,C⟩
def Bd.Le(a b:Bd):Prop:=∀j id,aK_ j a=some id->aK_ j b=some id
theorem Bd.Le.refl(a:Bd):Bd.Le a a:=λ_ _ h=>h
theorem Bd.Le.trans{a b c:Bd}(h:Bd.Le a b)(k:Bd.Le b c):Bd.Le a c:=λj id e=>k j id (h j id e)
theorem f0_{j id:Nat}{a b:Bd}(h:addB j id a=some b):Bd.Le a b/\aK_ j b=some id:=by
 unfold addB at h;split at h
 .rename_i id' f;split at h
  .rename_i p;obtain rfl:=qNb p;obtain rfl:=qSj h;exact⟨Bd.Le.refl _,f⟩
  .cases h
 .rename_i f;obtain rfl:=qSj h;refine⟨λq id' e => ?_,?_⟩
  .simp only[aK_];split
   .rename_i p;obtain rfl:=qNb p;rw[f]at e;cases e
   .exact e
  .simp only[aK_];have:Nat.beq j j=true:=by simp
   rw[this]
def Bound(g g':Ga)(bs:Bd):Prop:=∀j id,aK_ j bs=some id->g' j=g id
theorem dK_:∀{ps:tL CP} {cs:tL (SC E)} {a b:Bd},bl_ ps cs a=some b->Bd.Le a b
 | [],cs,a,b,h=>by
  cases cs with
  | nil=>obtain rfl:=qSj h;exact Bd.Le.refl _
  | cons c cs=>simp[bl_]at h
 | p::ps,cs,a,b,h=>by
  unfold bl_ at h;split at h
  .rename_i f;cases f
  .rename_i f;cases f;exact dK_ h
  .rename_i f;cases f
   split at h
   .rename_i j;exact(f0_ j).1.trans (dK_ h)
   .cases h
  .rename_i f;cases f
   split at h
   .rename_i j;exact(f0_ j).1.trans (dK_ h)
   .cases h
  .rename_i f;cases f
   split at h
   .rename_i j;exact(f0_ j).1.trans (dK_ h)
   .cases h
  .rename_i f;cases f
   split at h
   .rename_i j;exact(f0_ j).1.trans (dK_ h)
   .cases h
  .cases h
theorem leafC_v{H:Nat->tO (Obj E)}{t:Ty}{ps:tL CP}{c:SC E}{cs:tL (SC E)}{h:HL E.S (cpT (.v t::ps))}(e:dC_ H (.v t::ps) (c::cs)=some h):c.data H t=some h.1/\dC_ H ps cs=some h.2 :=
 rj_ e
theorem leafC_own{H:Nat->tO (Obj E)}{j:Nat}{ps:tL CP}{c:SC E}{cs:tL (SC E)}{h:HL E.S (cpT ps)}(e:dC_ H (.own j::ps) (c::cs)=some h):dC_ H ps cs=some h:=e
theorem leafC_ptr{H:Nat->tO (Obj E)}{j:Nat}{ps:tL CP}{c:SC E}{cs:tL (SC E)}{h:HL E.S (cpT ps)}(e:dC_ H (.ptr j::ps) (c::cs)=some h):dC_ H ps cs=some h:=e
theorem bindC_own{j:Nat}{ps:tL CP}{c:SC E}{cs:tL (SC E)}{a b:Bd}(e:bl_ (.own j::ps) (c::cs) a=some b):∃id f,c = .own id/\addB j id a=some f/\bl_ ps cs f=some b:=by
 cases c with
 | own id =>
  simp only[bl_]at e;split at e
  .rename_i f h;exact⟨id,f,rfl,h,e⟩
  .cases e
 | _=>simp[bl_]at e
theorem bindC_ptr{j:Nat}{ps:tL CP}{c:SC E}{cs:tL (SC E)}{a b:Bd}(e:bl_ (.ptr j::ps) (c::cs) a=some b):∃id f,c = .ptr id 0/\addB j id a=some f/\bl_ ps cs f=some b:=by
 cases c with
 | ptr id off =>
  cases off with
  | zero =>
   simp only[bl_]at e;split at e
   .rename_i f h;exact⟨id,f,rfl,h,e⟩
   .cases e
  | succ n=>simp[bl_]at e
 | _=>simp[bl_]at e
theorem leafC_mp{H:Nat->tO (Obj E)}{j:Nat}{ps:tL CP}{c:SC E}{cs:tL (SC E)}{h:HL E.S (cpT ps)}(e:dC_ H (.mp j::ps) (c::cs)=some h):dC_ H ps cs=some h:=e
theorem bindC_mp{j:Nat}{ps:tL CP}{c:SC E}{cs:tL (SC E)}{a b:Bd}(e:bl_ (.mp j::ps) (c::cs) a=some b):∃id f,c = .mp id/\addB j id a=some f/\bl_ ps cs f=some b:=by
 cases c with
 | mp id =>
  simp only[bl_]at e;split at e
  .rename_i f h;exact⟨id,f,rfl,h,e⟩
  .cases e
 | _=>simp[bl_]at e
theorem leafC_sbp{H:Nat->tO (Obj E)}{j:Nat}{ps:tL CP}{c:SC E}{cs:tL (SC E)}{h:HL E.S (cpT ps)}(e:dC_ H (.sbp j::ps) (c::cs)=some h):dC_ H ps cs=some h:=e
theorem bindC_sbp{j:Nat}{ps:tL CP}{c:SC E}{cs:tL (SC E)}{a b:Bd}(e:bl_ (.sbp j::ps) (c::cs) a=some b):∃id f,c = .sbp id/\addB j id a=some f/\bl_ ps cs f=some b:=by
 cases c with
 | sbp id =>
  simp only[bl_]at e;split at e
  .rename_i f h;exact⟨id,f,rfl,h,e⟩
  .cases e
 | _=>simp[bl_]at e
theorem bindC_v{t:Ty}{ps:tL CP}{c:SC E}{cs:tL (SC E)}{a b:Bd}(e:bl_ (.v t::ps) (c::cs) a=some b):bl_ ps cs a=some b:=e
theorem bindC_cons{p:CP}{ps:tL CP}{cs:tL (SC E)}{a b:Bd}(e:bl_ (p::ps) cs a=some b):∃c cs',cs=c::cs':=by
 cases cs with
 | nil=>cases p<;>simp[bl_]at e
 | cons c cs=>exact⟨c,cs,rfl⟩
theorem nG_{H:Nat->tO (Obj E)}(Z:HR P E Bs F0 w0 w z g H){bs:Bd}(O:Bound g g' bs):∀(ps:tL CP) (cs:tL (SC E)) (a b:Bd) (h:HL E.S (cpT ps)) (vs:tL tW),bl_ ps cs a=some b->Bd.Le b bs->dC_ H ps cs=some h->All2 (RC P E z g) cs vs->All2 (RC P E z g') (newC ps h) vs:=by
 intro ps
 induction ps with
 | nil =>
  intro cs a b h vs f _ _ U;cases cs with
  | nil=>cases U;exact .nil
  | cons c cs=>simp[bl_]at f
 | cons p ps J =>
  intro cs a b h vs f u M U;obtain⟨c,cs,rfl⟩:=bindC_cons f;obtain⟨v,vs,rfl,x,hr⟩:∃v vs',vs=v::vs'/\RC P E z g c v/\All2 (RC P E z g) cs vs':=by
   cases U with|cons x hr=>exact⟨_,_,rfl,x,hr⟩
  cases p with
  | v t =>
   obtain⟨Y,V⟩:=leafC_v M;have s:=J cs a b h.2 vs (bindC_v f) u V hr;have q:RC P E z g' (.dt t h.1) v:=SC.data_ok (w:=w) Z Y x;show All2 _ (SC.dt t h.1::newC ps h.2) _;exact All2.cons q s
  | own j =>
   obtain⟨id,G,rfl,C,f⟩:=bindC_own f;have s:=J cs G b h vs f u (leafC_own M) hr;obtain⟨l,q,F⟩:=x;have y:=O j id (u _ _ (dK_ f _ _ (f0_ C).2));have D:RC P E z g' (.own j) v:=⟨l,by rw[y];exact q,F⟩;show All2 _ (SC.own j::newC ps h) _;exact All2.cons D s
  | ptr j =>
   obtain⟨id,G,rfl,C,f⟩:=bindC_ptr f;have s:=J cs G b h vs f u (leafC_ptr M) hr;obtain⟨l,q,F⟩:=x;have y:=O j id (u _ _ (dK_ f _ _ (f0_ C).2));have D:RC P E z g' (.ptr j 0) v:=⟨l,by rw[y];exact q,F⟩;show All2 _ (SC.ptr j 0::newC ps h) _;exact All2.cons D s
  | mp j =>
   obtain⟨id,G,rfl,C,f⟩:=bindC_mp f;have s:=J cs G b h vs f u (leafC_mp M) hr;obtain⟨l,q,F⟩:=x;have y:=O j id (u _ _ (dK_ f _ _ (f0_ C).2));have D:RC P E z g' (.mp j) v:=⟨l,by rw[y];exact q,F⟩;show All2 _ (SC.mp j::newC ps h) _;exact All2.cons D s
  | sbp j =>
   obtain⟨id,G,rfl,C,f⟩:=bindC_sbp f;have s:=J cs G b h vs f u (leafC_sbp M) hr;obtain⟨l,q,F⟩:=x;have y:=O j id (u _ _ (dK_ f _ _ (f0_ C).2));have D:RC P E z g' (.sbp j) v:=⟨l,by rw[y];exact q,F⟩;show All2 _ (SC.sbp j::newC ps h) _;exact All2.cons D s
theorem lC_{S:Nat->Type}:∀(ts f:tL Ty) (a:HL S ts) (b:HL S f),hfst ts f (hap a b)=a
 | [],_,_,_=>rfl
 | _::ts,f,(x,a),b=>by
  show(x,hfst ts f (hap a b))=_;rw[lC_ ts f a b]
theorem lD_{S:Nat->Type}:∀(ts f:tL Ty) (a:HL S ts) (b:HL S f),hsnd ts f (hap a b)=b
 | [],_,_,_=>rfl
 | _::ts,f,a,b=>lD_ ts f a.2 b
theorem nH_{L:Nat->tO (SV E)}:∀{l:tL (Nat×VP)} {a b:Bd},gg_ L l a=some b->Bd.Le a b
 | [],a,b,h=>by obtain rfl:=qSj h;exact Bd.Le.refl _
 | (t,.d _)::l,a,b,h=>nH_ (l:=l) h
 | (t,.one p)::l,a,b,h=>by
  simp only[gg_]at h;split at h
  .split at h
   .rename_i f;exact(dK_ f).trans (nH_ h)
   .cases h
  .cases h
 | (t,.agg ps)::l,a,b,h=>by
  simp only[gg_]at h;split at h
  .split at h
   .rename_i f;exact(dK_ f).trans (nH_ h)
   .cases h
  .cases h
theorem newV_ok{H:Nat->tO (Obj E)}(C:HR P E Bs F0 w0 w z g H){bs:Bd}(J:Bound g g' bs){p:VP}{x s:V1 E}{h:HL E.S p.T}{a b:Bd}{v:tW}
  (V:∀c,p = .one c->∃y,x = .one y/\bl_ [c] [y] a=some b) (O:∀ps,p = .agg ps->∃y,x = .agg y/\bl_ ps y a=some b) (M:Bd.Le b bs) (G:leafV H p x=some h) (F:newV p h=some s) (u:R1 P E z g x v):R1 P E z g' s v:=by
 cases p with
 | d ty =>
  have U:takeD E H ty x=some h.1:=kK_ G;obtain⟨y,j,f⟩:=mT_ (ns_ C U u) g';have q:asV E ty (E.cells ty h.1)=some s:=F;rw[j]at q;obtain rfl:=qSj q;exact f
 | one c =>
  obtain⟨y,rfl,q⟩:=V c rfl;have j:=nG_ C J [c] [y] a b h [v] q M G (.cons u .nil);have f:ones (newC [c] h)=some s:=F;generalize newC [c] h=l at j f;cases j with
  | cons D Y =>
   cases Y
   obtain rfl:=qSj f;exact D
 | agg ps =>
  obtain⟨y,rfl,q⟩:=O ps rfl;obtain⟨vs,rfl,D⟩:=u;have j:=nG_ C J ps y a b h vs q M G D;have f:some (V1.agg (newC ps h))=some s:=F;obtain rfl:=qSj f;exact⟨vs,rfl,j⟩
theorem bindS_cons{L:Nat->tO (SV E)}{t:Nat}{p:VP}{l:tL (Nat×VP)}{a b:Bd}{x:V1 E}(s:L t=some (.v x))(h:gg_ L ((t,p)::l) a=some b) :
  ∃q,gg_ L l q=some b/\(∀c,p = .one c->∃y,x = .one y/\bl_ [c] [y] a=some q)/\∀ps,p = .agg ps->∃y,x = .agg y/\bl_ ps y a=some q:=by
 cases p with
 | d ty=>exact⟨a,h,(λ_ e=>nomatch e),λ_ e=>nomatch e⟩
 | one c =>
  unfold gg_ at h;rw[s]at h;cases x with
  | agg y=>cases h
  | one y =>
   cases f:bl_ [c] [y] a with
   | none=>simp only[f]at h;cases h
   | some j =>
    simp only[f]at h;exact⟨j,h,(λu e=>by injection e with e;subst e;exact⟨y,rfl,f⟩),λ_ e=>nomatch e⟩
 | agg ps =>
  unfold gg_ at h;rw[s]at h;cases x with
  | one y=>cases h
  | agg y =>
   cases f:bl_ ps y a with
   | none=>simp only[f]at h;cases h
   | some j =>
    simp only[f]at h;exact⟨j,h,(λ_ e=>nomatch e),λu e=>by injection e with e;subst e;exact⟨y,rfl,f⟩⟩
theorem leafS_cons{L:Nat->tO (SV E)}{H:Nat->tO (Obj E)}{t:Nat}{p:VP}{l:tL (Nat×VP)}{h:HL E.S (fd_ ((t,p)::l))}(e:leafS L H ((t,p)::l)=some h) :
  ∃x j f,L t=some (.v x)/\leafV H p x=some j/\leafS L H l=some f/\h=hap j f:=by
 unfold leafS at e;cases s:L t with
 | none=>rw[s]at e;cases e
 | some sv =>
  cases sv with
  | tup q=>rw[s]at e;cases e
  | v x =>
   rw[s]at e;obtain⟨a,b,j,f,u⟩:=oH_ e;exact⟨x,a,b,rfl,j,f,u⟩
theorem newS_cons{t:Nat}{p:VP}{l:tL (Nat×VP)}{j:HL E.S p.T}{h:HL E.S (fd_ l)}{env:tL (Nat×tO (SV E))}(e:newS ((t,p)::l) (hap j h)=some env) :
  ∃x env',newV p j=some x/\newS l h=some env'/\env=(t,some (.v x))::env':=by
 have f:slotO t (newV p (hfst p.T (fd_ l) (hap j h))) (newS l (hsnd p.T (fd_ l) (hap j h)))=some env:=e;rw[lC_,lD_]at f;cases q:newV p j with
 | none=>rw[q]at f;cases f
 | some x =>
  cases s:newS l h with
  | none=>rw[q,s]at f;cases f
  | some env' =>
   rw[q,s]at f;exact⟨x,env',rfl,rfl,(qSj f).symm⟩
theorem slots_meet{H:Nat->tO (Obj E)}{L:Nat->tO (SV E)}(hH:HR P E Bs F0 w0 w z g H){bs:Bd}(hB:Bound g g' bs):∀(l:tL (Nat×VP)) (a b:Bd) (h:HL E.S (fd_ l)) (env:tL (Nat×tO (SV E))),gg_ L l a=some b->Bd.Le b bs->leafS L H l=some h->newS l h=some env ->
  ∀t o,aK_ t env=some o->∃sv F,o=some sv/\L t=some F/\∀v,RV P E z g F v->RV P E z g' sv v:=by
 intro l
 induction l with
 | nil =>
  intro a b h env _ _ _ D t o f;have h6:some []=some env:=D;obtain rfl:=qSj h6;cases f
 | cons q l V =>
  obtain⟨t,p⟩:=q;intro a b h env h1 M h3 D U o f;obtain⟨x,y1,O,G,y,u,rfl⟩:=leafS_cons h3;obtain⟨x',env',s,j,rfl⟩:=newS_cons D;obtain⟨a',J,hb,Z⟩:=bindS_cons G h1;simp only[aK_]at f;split at f
  .rename_i C;obtain rfl:=qNb C;obtain rfl:=qSj f;exact⟨_,_,rfl,G,λv Y=>newV_ok hH hB hb Z ((nH_ J).trans M) y s Y⟩
  .exact V a' b O env' J M u j U o f
theorem focK_ok{L:Nat->tO (SV E)}{R:Type}{t:Ty}{xs:tL (Den E.S t)}{r:R}:∀{fs:tL (Nat×Nat)} {k:tL (Nat×Int×Den E.S t)->tO R},focK L xs fs k=some r ->
  ∃l,k l=some r/\∀p∈l,∃sl id off,(p.1,sl)∈fs/\L sl=some (.v (.one (.elo id p.1 p.2.1 off)))/\ah_ xs p.2.1=some p.2.2
 | [],k,h=>⟨[],h,λ_ f=>nomatch f⟩
 | (q,sl)::fs,k,h=>by
  unfold focK at h;split at h
  .rename_i id G i off u;split at h
   .rename_i s;obtain rfl:=qNb s;obtain⟨y,j,h⟩:=bind_some h;obtain⟨l,F,D⟩:=focK_ok h;refine⟨_,F,λp f => ?_⟩;rcases qD.1 f with rfl|f
    .exact⟨sl,id,off,qT ..,u,j⟩
    .obtain⟨sl',id',off',C,x⟩:=D p f;exact⟨sl',id',off',qG _ C,x⟩
   .cases h
  .cases h
def focB(o:Obj E)(keep gkeep:tL Nat)(fs:tL (Nat×Nat)):tV:=match o with | .row _ _ _ foc=>fs.all λf=>(foc.any λp=>Nat.beq p.1 f.1)&&(ay_ f.2 keep&&ay_ f.1 gkeep)|_=>false
theorem obj_meet{H:Nat->tO (Obj E)}{L:Nat->tO (SV E)}{R:Type}{k:Obj E->tO R}{r:R}(hH:HR P E Bs F0 w0 w z g H){bs:Bd}(hB:Bound g g' bs){keep gkeep:tL Nat}(ZR:∀i,ay_ i gkeep=true->g' i=g i)
  (hk:∀sl id q i off,ay_ sl keep=true->L sl=some (.v (.one (.elo id q i off)))->∃l,g q=some l/\l.ix=i) {p:OP} {o:Obj E} {h:HL E.S p.T} {i id:Nat} (hi:g' i=g id) (y:leafO H p o=some h) (h2:newO L p h k=some r)
  (hf:∀e t fs,p = .row e t fs->focB o keep gkeep fs=true) (hc:∀T ps,p = .cells T ps->∀T' cs,o = .box T' cs->∃a b,bl_ ps cs a=some b/\Bd.Le b bs) :
  ∃o',k o'=some r/\(ObjR P E z g w id o->ObjR P E z g' w i o')/\∀q,fpO g' i o' q->fpO g id o q:=by
 cases p with
 | box T t =>
  cases o with
  | box T' cs =>
   obtain⟨U,f⟩:=bN_ (show cL_ (Nat.beq T T') (unitO ((cf_ E H (E.flat t) cs).map (E.ufl t)))=some h from y);obtain rfl:=qNb U;have x:=kK_ f;cases hd:cf_ E H (E.flat t) cs with
   | none=>rw[hd]at x;cases x
   | some d =>
    rw[hd]at x;have Y:E.ufl t d=h.1:=qSj x;refine⟨_,h2,λF => ?_,λq u => ?_⟩
    .obtain⟨l,vs,s,j,M⟩:=F;refine⟨l,vs,by rw[hi];exact s,j,?_⟩;have h8:=el_ hH hd M;have h9:d=E.fl t h.1:=by rw[←Y,E.fl_ufl]
     rw[h9]at h8;exact cells_rd.1 h8
    .obtain⟨l,s,j⟩:=u;exact⟨l,by rw[←hi];exact s,j⟩
  | _=>simp[leafO]at y
 | cells T ps =>
  cases o with
  | box T' cs =>
   obtain⟨a,b,x,Y⟩:=hc T ps rfl T' cs rfl;obtain⟨U,f⟩:=bN_ (show cL_ (Nat.beq T T') (dC_ H ps cs)=some h from y);obtain rfl:=qNb U;refine⟨_,h2,λF => ?_,λq u => ?_⟩
   .obtain⟨l,vs,s,j,M⟩:=F;exact⟨l,vs,by rw[hi];exact s,j,nG_ hH hB ps cs a b h vs x Y f M⟩
   .obtain⟨l,s,j⟩:=u;exact⟨l,by rw[←hi];exact s,j⟩
  | _=>simp[leafO]at y
 | row e t fs =>
  cases o with
  | row e' t' xs foc =>
   obtain⟨he,f⟩:=bN_ (show cL_ (Nat.beq e e') (unitO (castO t xs))=some h from y);obtain rfl:=qNb he;obtain⟨ht,C⟩:=ny_ (kK_ f);subst ht;have C:h.1=xs:=C;obtain⟨l,x,Y⟩:=focK_ok (show focK L h.1 fs (λl=>k (.row e t' h.1 l))=some r from h2);refine⟨_,x,λF => ?_,λq u => ?_⟩
   .obtain⟨lo,rows,s,hn,ZP,j,M,h8,V,ZI⟩:=F;rw[←C]at hn V;refine⟨lo,rows,by rw[hi];exact s,hn,ZP,j,M,h8,V,λp hp => ?_⟩;obtain⟨sl,id',off,ZJ,ZK,ZL⟩:=Y p hp;refine⟨ZL,?_⟩;have ZQ:=hf e t' fs rfl;have O:=qx.1 ZQ _ ZJ;simp only[qAn,List.any_eq_true]at O;obtain⟨⟨p0,ZU,hb⟩,J,ZT⟩:=O;have u:=qNb hb;obtain⟨_,lq,oo,ZY,ZM,ZN,ZO⟩:=ZI p0 ZU;obtain⟨l2,ZZ,Z⟩:=hk _ _ _ _ _ J ZK;rw[u,ZZ]at ZY;obtain rfl:=qSj ZY;have ZS:p0.2.1=p.2.1:=by rw[←ZO,Z]
    exact⟨l2,oo,by rw[ZR _ ZT];exact ZZ,ZM,by rw[←ZS];exact ZN,Z⟩
   .obtain⟨l,a,s,j⟩:=u;exact⟨l,a,by rw[←hi];exact s,j⟩
  | _=>simp[leafO]at y
 | map T kt vt =>
  cases o with
  | map T' kt' vt' ks vs foc =>
   obtain⟨U,f⟩:=bN_ (show cL_ (Nat.beq T T') (pairO (castO kt ks) (unitO (castO vt vs)))=some h from y);obtain rfl:=qNb U;obtain⟨J,ZX⟩:=rj_ f;obtain⟨ZV,G⟩:=ny_ J;obtain⟨ZW,D⟩:=ny_ (kK_ ZX);subst ZV;subst ZW;have G:h.1=ks:=G;have D:h.2.1=vs:=D;refine⟨_,h2,λF => ?_,λq u => ?_⟩
   .obtain⟨l,es,c,s,j,M,_⟩:=F;refine⟨l,es,c,by rw[hi];exact s,j,?_,λp hp=>nomatch hp⟩;rw[G,D];exact M
   .obtain⟨l,s,j⟩:=u;exact⟨l,by rw[←hi];exact s,j⟩
  | _=>simp[leafO]at y
theorem rq_{H:Nat->tO (Obj E)}{j:Nat}{sf:tV}{p:OP}{l:tL (Nat×tV×OP)}{a b:Bd}(h:iM_ H ((j,sf,p)::l) a=some b) :
  ∃f a2,Bd.Le a f/\Bd.Le f a2/\(sf=true->aK_ j f=some j)/\iM_ H l a2=some b/\∀T ps,p = .cells T ps->∃id T' cs,aK_ j f=some id/\H id=some (.box T' cs)/\bl_ ps cs f=some a2:=by
 have first:∃f,selfB sf j a=some f/\Bd.Le a f/\(sf=true->aK_ j f=some j):=by
  cases sf with
  | false=>exact⟨a,rfl,Bd.Le.refl a,λe=>nomatch e⟩
  | true =>
   cases u:addB j j a with
   | none =>
    unfold iM_ selfB at h;simp only[u]at h;cases h
   | some f=>exact⟨f,u,(f0_ u).1,λ_=>(f0_ u).2⟩
 obtain⟨f,F,y,x⟩:=first;unfold iM_ at h;rw[F]at h;simp only at h;cases p with
 | box T t=>exact⟨f,f,y,Bd.Le.refl f,x,h,λ_ _ e=>nomatch e⟩
 | row e t fs=>exact⟨f,f,y,Bd.Le.refl f,x,h,λ_ _ e=>nomatch e⟩
 | map T k v=>exact⟨f,f,y,Bd.Le.refl f,x,h,λ_ _ e=>nomatch e⟩
 | cells T ps =>
  simp only at h;cases C:aK_ j f with
  | none=>simp only[C]at h;cases h
  | some id =>
   simp only[C]at h;cases q:H id with
   | none=>simp only[q]at h;cases h
   | some o =>
    cases o with
    | box T' cs =>
     simp only[q]at h;cases s:bl_ ps cs f with
     | none=>simp only[s]at h;cases h
     | some a2 =>
      simp only[s]at h;exact⟨f,a2,y,dK_ s,x,h,λT2 D e=>by injection e with J G;subst G;exact⟨id,T',cs,C,q,s⟩⟩
    | _=>simp only[q]at h;cases h
theorem nI_{H:Nat->tO (Obj E)}:∀{l:tL (Nat×tV×OP)} {a b:Bd},iM_ H l a=some b->Bd.Le a b/\∀j,j∈selfs l->aK_ j b=some j
 | [],a,b,h=>by obtain rfl:=qSj h;exact⟨Bd.Le.refl _,λ_ u=>nomatch u⟩
 | (j,sf,p)::l,a,b,h=>by
  obtain⟨D,a2,C,s,y,x,_⟩:=rq_ h;obtain⟨q,f⟩:=nI_ x;refine⟨(C.trans s).trans q,λi hi => ?_⟩;cases sf with
  | false=>exact f i hi
  | true =>
   rcases qD.1 hi with rfl|hi
   .exact(s.trans q) _ _ (y rfl)
   .exact f i hi
theorem leafOs_cons{H:Nat->tO (Obj E)}{bs:Bd}{j:Nat}{sf:tV}{p:OP}{l:tL (Nat×tV×OP)}{h:HL E.S (hN_ ((j,sf,p)::l))}(e:lB_ H bs ((j,sf,p)::l)=some h) :
  ∃id o q f,aK_ j bs=some id/\H id=some o/\leafO H p o=some q/\lB_ H bs l=some f/\h=hap q f:=by
 unfold lB_ at e;cases u:aK_ j bs with
 | none=>rw[u]at e;cases e
 | some id =>
  rw[u]at e;cases s:H id with
  | none=>simp only[s]at e;cases e
  | some o =>
   simp only[s]at e;obtain⟨a,b,q,f,x⟩:=oH_ e;exact⟨id,o,a,b,rfl,s,q,f,x⟩
theorem objs_meet{H:Nat->tO (Obj E)}{L:Nat->tO (SV E)}{R:Type}{r:R}(hH:HR P E Bs F0 w0 w z g H){bs:Bd}(hB:Bound g g' bs){keep gkeep:tL Nat}(Z:∀i,ay_ i gkeep=true->g' i=g i)
  (hk:∀sl id q i off,ay_ sl keep=true->L sl=some (.v (.one (.elo id q i off)))->∃l,g q=some l/\l.ix=i):∀(l:tL (Nat×tV×OP)) (a b:Bd) (h:HL E.S (hN_ l)) (k:Chs E->tO R),
  iM_ H l a=some b->Bd.Le b bs->lB_ H bs l=some h->focOK H bs keep gkeep l=true->newOs L l h k=some r ->
  ∃u,k u=some r/\∀i o',(i,o')∈u->∃id o p,aK_ i bs=some id/\H id=some o/\o'=some p/\(ObjR P E z g w id o->ObjR P E z g' w i p)/\∀q,fpO g' i p q->fpO g id o q:=by
 intro l
 induction l with
 | nil=>intro a b h k _ _ _ _ h5;exact⟨[],h5,λ_ _ G=>nomatch G⟩
 | cons q l ih =>
  obtain⟨j,sf,p⟩:=q;intro a b h k h1 h2 h3 F h5;obtain⟨id,o,y1,O,M,U,Y,V,rfl⟩:=leafOs_cons h3;obtain⟨a1,a2,ZV,ZY,_,hb,C⟩:=rq_ h1;have h6:newO L p (hfst p.T (hN_ l) (hap y1 O)) (λo=>newOs L l (hsnd p.T (hN_ l) (hap y1 O)) λu=>k ((j,some o)::u))=some r:=h5;rw[lC_,lD_]at h6;have x:focOK H bs keep gkeep l=true/\∀e t fs,p = .row e t fs->focB o keep gkeep fs=true:=by
   cases p with
   | row e t fs =>
    unfold focOK at F;simp only[M,U,qAn]at F;refine⟨F.2,λe2 t2 ZU y => ?_⟩;injection y with _ _ y;subst y;unfold focB;cases o<;>first|exact F.1|cases F.1
   | _=>exact⟨F,λ_ _ _ y=>nomatch y⟩
  have s:Bd.Le a2 bs:=(nI_ hb).1.trans h2;obtain⟨o',h7,h8,h9⟩:=obj_meet hH hB Z hk (hB j id M) Y h6 x.2 λT ps hp T' cs ZZ=>by
   obtain⟨ZW,T2,ZT,D,f,ZX⟩:=C T ps hp;have J:=s _ _ (ZY _ _ D);rw[M]at J;obtain rfl:=qSj J;rw[U,ZZ]at f;injection f with f;injection f with _ f;subst f;exact⟨a1,a2,ZX,s⟩
  obtain⟨u,D,f⟩:=ih a2 b O _ hb h2 V x.1 h7;refine⟨_,D,λi o2 G => ?_⟩;rcases qD.1 G with y|G
  .injection y with e1 e2;subst e1;subst e2;exact⟨id,o,o',M,U,rfl,h8,h9⟩
  .exact f i o2 G
theorem St.L_cons{b:Ba E}{s:St E}{t f:Nat}{v:tO (SV E)}:St.L b { s with env:=(t,v)::s.env } f=if f=t then v else s.L b f:=by
 unfold St.L;simp only[aK_];by_cases h:f=t
 .subst h;have:Nat.beq f f=true:=by simp
  rw[this,qL rfl]
 .have:Nat.beq f t=false:=by
   cases j:Nat.beq f t with
   | false=>rfl
   | true=>exact absurd (qNb j) h
  rw[this,qP h]
theorem prepS_ok{F0:Org}{b:Ba E}{s:St E}{objs:tL (Nat×tV×OP)}{p:Nat×VP}{a:Act}(h:Rel P E Bs F0 w0 N (s.L b) (s.H b) s.nx a w):Rel P E Bs F0 w0 N ((prepS b s objs p).L b) ((prepS b s objs p).H b) (prepS b s objs p).nx a w:=by
 unfold prepS;split
 .rename_i t j;split
  .rename_i e ty V ZZ;obtain⟨z,g,C,U,G,f,y⟩:=h;refine⟨z,g.put s.nx ⟨none,0,0,E.size ty,0,0⟩,⟨C.size,C.defers,λO u hu => ?_⟩,?_,G.put _,f,y.trans (Ga.le_put G.self)⟩
   .have M:(if O=t then some (SV.v (.one (.own s.nx)))else s.L b O)=some u:=by rw[←hu];exact(St.L_cons (s:={ s with heap:=(s.nx,some (.row e ty [] []))::s.heap,nx:=s.nx+1 })).symm
    split at M
    .rename_i ht;subst ht;obtain rfl:=qSj M;obtain⟨v,F,D⟩:=C.get _ _ V;have h3:v = .slice none 0 0:=D;exact⟨v,F,_,Ga.put_self _ _ _,h3⟩
    .obtain⟨v,F,D⟩:=C.get _ _ M;exact⟨v,F,D.le (Fz.Le.refl z) (Ga.le_put G.self)⟩
   .have:=U.row_new (e:=e) (t:=ty) (xs:=[]) (A:=none) (cap:=0) (n:=0) (rows:=[]) G (Ext.refl w) rfl ⟨by simp,.inl ⟨rfl,rfl⟩⟩ rfl (λi x r F _=>by simp at F) (λq ⟨a,ha,_⟩=>nomatch ha);exact this
  .exact h
 .rename_i t ty;split
  .rename_i x V;obtain⟨z,g,C,U,G,f,y⟩:=h;obtain⟨z',F,D⟩:=dB_ U x.cs;refine⟨z',g,C.le F (Ga.Le.refl g),?_,G,f.trans F,y⟩;unfold St.H at D ⊢;rw[aT_]at D;exact D
  .exact h
 .rename_i t ps;split
  .rename_i cs V;obtain⟨z,g,C,U,G,f,y⟩:=h;obtain⟨l,u,m,g',F,D,h3,h4,h5,_,_⟩:=ic_ (wantC objs ps) cs U G;rw[F];refine⟨z,g',⟨C.size,C.defers,λO x hx => ?_⟩,?_,h3,f,y.trans D⟩
   .have J:(if O=t then some (SV.v (.agg l))else s.L b O)=some x:=by rw[←hx];exact(St.L_cons (s:={ s with heap:=u++s.heap,nx:=m })).symm
    split at J
    .rename_i ht;subst ht;obtain rfl:=qSj J;obtain⟨v,Z,Y⟩:=C.get _ _ V;obtain⟨vs,k3,k4⟩:=Y;exact⟨v,Z,vs,k3,h5 z g' vs (Ga.Le.refl g') (k4.mono λ_ _ h=>RC.le h (Fz.Le.refl z) D)⟩
    .obtain⟨v,Z,Y⟩:=C.get _ _ J;exact⟨v,Z,Y.le (Fz.Le.refl z) D⟩
   .unfold St.H at h4 ⊢;rw[aT_]at h4;exact h4
  .exact h
 .exact h
theorem prepL_ok{F0:Org}{b:Ba E}{objs:tL (Nat×tV×OP)}{a:Act}:∀{l:tL (Nat×VP)} {s:St E},Rel P E Bs F0 w0 N (s.L b) (s.H b) s.nx a w->Rel P E Bs F0 w0 N ((jC_ b objs l s).L b) ((jC_ b objs l s).H b) (jC_ b objs l s).nx a w
 | [],_,h=>h
 | p::l,s,h=>prepL_ok (l:=l) (s:=prepS b s objs p) (prepS_ok h)
theorem frzC_ok{F0:Org}{b:Ba E}{s:St E}{a:Act}(cs:tL (SC E))(h:Rel P E Bs F0 w0 N (s.L b) (s.H b) s.nx a w):Rel P E Bs F0 w0 N ((frzC b s cs).L b) ((frzC b s cs).H b) (frzC b s cs).nx a w:=by
 obtain⟨z,g,y,x,u,f,j⟩:=h;obtain⟨z',q,p⟩:=dB_ x cs;refine⟨z',g,y.le q (Ga.Le.refl g),?_,u,f.trans q,j⟩;unfold frzC;unfold St.H at p ⊢;rw[aT_]at p;exact p
theorem frzS_ok{F0:Org}{b:Ba E}{a:Act}:∀{l:tL (Nat×VP)} {s:St E},Rel P E Bs F0 w0 N (s.L b) (s.H b) s.nx a w->Rel P E Bs F0 w0 N ((frzS b l s).L b) ((frzS b l s).H b) (frzS b l s).nx a w
 | [],_,h=>h
 | p::l,s,h=>by
  refine frzS_ok (l:=l) (s:=frzS1 b s p) ?_;unfold frzS1;split
  .split
   .exact frzC_ok _ h
   .exact h
  .exact h
theorem frzOs_ok{F0:Org}{b:Ba E}{a:Act}:∀{l:tL (Nat×tV×OP)} {s:St E},Rel P E Bs F0 w0 N (s.L b) (s.H b) s.nx a w->Rel P E Bs F0 w0 N ((frzOs b l s).L b) ((frzOs b l s).H b) (frzOs b l s).nx a w
 | [],_,h=>h
 | p::l,s,h=>by
  refine frzOs_ok (l:=l) (s:=frzO1 b s p) ?_;unfold frzO1;split
  .split
   .exact frzC_ok _ h
   .exact h
  .split
   .exact frzC_ok _ h
   .exact h
  .exact h
theorem prepO1_ok{F0:Org}{b:Ba E}{s:St E}{objs:tL (Nat×tV×OP)}{p:Nat×tV×OP}{a:Act}(h:Rel P E Bs F0 w0 N (s.L b) (s.H b) s.nx a w):Rel P E Bs F0 w0 N ((mX_ b objs s p).L b) ((mX_ b objs s p).H b) (mX_ b objs s p).nx a w:=by
 unfold mX_;split
 .rename_i j T' ps;split
  .rename_i T cs hi;obtain⟨z,g,G,O,M,C,F⟩:=h;obtain⟨l,u,m,g',h1,U,h3,h4,h5,h6,h7⟩:=ic_ (wantC objs ps) cs O M;rw[h1];obtain⟨lo,J⟩:=(O.hold _ _ hi).loc;have hj:j<s.nx:=by
    rcases qR j s.nx with f|f
    .exact f
    .rw[M j f]at J;cases J
   have D:upH (s.H b) u j=some (.box T cs):=(upH_far (λi o h=>(h6 i o h).1) hj).trans hi;have f:=h4.up (Ga.Le.refl g') D (o2 := .box T l) (λz w ho=>by
    obtain⟨lo',vs,y,q,Y⟩:=ho;exact⟨lo',vs,y,q,h5 z g' vs (Ga.Le.refl g') Y⟩) (λk=>Iff.rfl)
   refine⟨z,g',⟨G.size,G.defers,λV x Z => ?_⟩,?_,h3,C,F.trans U⟩
   .obtain⟨v,y,q⟩:=G.get V x Z;exact⟨v,y,q.le (Fz.Le.refl z) U⟩
   .unfold St.H at f ⊢;rw[aT_,aT_]at f;exact f
  .exact h
 .exact h
theorem prepO_ok{F0:Org}{b:Ba E}{objs:tL (Nat×tV×OP)}{a:Act}:∀{l:tL (Nat×tV×OP)} {s:St E},Rel P E Bs F0 w0 N (s.L b) (s.H b) s.nx a w->Rel P E Bs F0 w0 N ((jD_ b objs l s).L b) ((jD_ b objs l s).H b) (jD_ b objs l s).nx a w
 | [],_,h=>h
 | p::l,s,h=>prepO_ok (l:=l) (s:=mX_ b objs s p) (prepO1_ok h)
theorem prepLO_ok{F0:Org}{b:Ba E}{objs l2:tL (Nat×tV×OP)}{a:Act}{l:tL (Nat×VP)}{s:St E}(h:Rel P E Bs F0 w0 N (s.L b) (s.H b) s.nx a w):Rel P E Bs F0 w0 N ((jD_ b objs l2 (jC_ b objs l s)).L b) ((jD_ b objs l2 (jC_ b objs l s)).H b) (jD_ b objs l2 (jC_ b objs l s)).nx a w :=
 prepO_ok (prepL_ok h)
theorem prepRs_ok{z:Fz}:∀(rs:Rs) (xs:tL (V1 E)) {n:Nat} {g:Ga} {H:Nat->tO (Obj E)},HR P E Bs F0 w0 w z g H->Fresh g n ->
  ∃xs' u n' g',(∀{α:Type} (k:tL (V1 E)->Chs E->Nat->α),prepRs E rs xs n k=k xs' u n')/\g.Le g'/\Fresh g' n'/\HR P E Bs F0 w0 w z g' (upH H u)/\(∀z s vs,g'.Le s->All2 (R1 P E z s) xs vs->All2 (R1 P E z s) xs' vs)/\(∀i o,(i,o)∈u->n<=i)/\n<=n'
 | [],xs,n,g,H,q,j=>⟨xs,[],n,g,(λk=>by cases xs<;>rfl),Ga.Le.refl g,j,q,(λ_ _ _ _ h=>h),(λ_ _ h=>nomatch h),qE _⟩
 | p::rs,[],n,g,H,q,j=>⟨[],[],n,g,(λk=>rfl),Ga.Le.refl g,j,q,(λ_ _ _ _ h=>h),(λ_ _ h=>nomatch h),qE _⟩
 | (t,m)::rs,x::xs,n,g,H,q,j=>by
  obtain⟨F,u,n1,g1,h1,h2,h3,h4,h5,h6,h7,_⟩:=prepV_ok t m x q j;obtain⟨xs',G,J,s,Y,y,V,U,O,M,k7⟩:=prepRs_ok rs xs h4 h3;refine⟨F::xs',G++u,J,s,(λk => ?_),h2.trans y,V,by rw[←aT_];exact U,(λz D vs C hv => ?_),(λi o f => ?_),by omega⟩
  .simp only[prepRs];exact(h1 _).trans (Y _)
  .cases hv with
   | cons Z hr=>exact .cons (h5 z D _ (y.trans C) Z) (O z D _ C hr)
  .rcases qF.1 f with f|f
   .have:=M i o f;omega
   .exact(h6 i o f).1
end
section
variable{P:tT}{E:TE}{w w0:tS}{Bs:tL Nat}{F0:Org}{N:Nat}
theorem gu_{α:Type}{t:Nat}{v:α}:∀{l:tL (Nat×α)},aK_ t l=some v->(t,v)∈l
 | [],h=>by cases h
 | (u,x)::l,h=>by
  simp only[aK_]at h;split at h
  .rename_i f;obtain rfl:=qNb f;obtain rfl:=qSj h;exact qT ..
  .exact qG _ (gu_ h)
theorem oN_{α:Type}{t:Nat}{K:tL Nat}:∀{l:tL (Nat×α)},aK_ t (filtK K l)=match ay_ t K with|true=>aK_ t l|false=>none
 | []=>by cases ay_ t K<;>rfl
 | (u,x)::l=>by
  have f:=oN_ (t:=t) (K:=K) (l:=l);unfold filtK at f ⊢;simp only[List.filter_cons];cases h:Nat.beq t u with
  | true =>
   obtain rfl:=qNb h;cases j:ay_ t K with
   | true =>
    simp only[zT,aK_];have:Nat.beq t t=true:=by simp
    rw[this]
   | false =>
    rw[j]at f;simp only[qM,zY];exact f
  | false =>
   have:aK_ t ((u,x)::l)=aK_ t l:=by simp only[aK_,h]
   rw[this];split
   .simp only[aK_,h];exact f
   .exact f
theorem pY_{K:tL Nat}{vis:tO (tL Nat)}{t:Nat}:seen (some (K.filter (seen vis))) t=(ay_ t K&&seen vis t):=by
 show ay_ t (K.filter (seen vis))=_
 induction K with
 | nil=>rfl
 | cons u K f =>
  simp only[List.filter_cons,ay_];cases j:Nat.beq t u with
  | true =>
   obtain rfl:=qNb j;cases h:seen vis t with
   | true=>simp[ay_]
   | false =>
    rw[h,zr]at f;simp[f]
  | false =>
   cases h:seen vis u with
   | true=>simp[ay_,j,f]
   | false=>simp[f]
theorem goS_L{j:JP}{b:Ba E}{s:St E}{env:tL (Nat×tO (SV E))}{u:Chs E}{t:Nat}{x:SV E}(h:(j.goS s env u).L b t=some x):aK_ t env=some (some x)\/(ay_ t j.keep=true/\s.L b t=some x):=by
 unfold JP.goS St.L at h;simp only[hm_,oN_,pY_]at h;cases p:aK_ t env with
 | some v=>rw[p]at h;simp only at h;subst h;exact .inl rfl
 | none =>
  rw[p]at h;cases f:ay_ t j.keep with
  | false=>rw[f]at h;simp at h
  | true =>
   rw[f]at h;refine .inr ⟨rfl,?_⟩;unfold St.L;simpa using h
theorem goS_H{j:JP}{b:Ba E}{s:St E}{env:tL (Nat×tO (SV E))}{u:Chs E}{i:Nat}{o:Obj E}(h:(j.goS s env u).H b i=some o):(i,some o)∈u\/(ay_ i j.hkeep=true/\s.H b i=some o):=by
 unfold JP.goS St.H at h;simp only[jl_,hm_,oN_,pY_]at h;cases f:aK_ i u with
 | some v=>rw[f]at h;simp only at h;subst h;exact .inl (gu_ f)
 | none =>
  rw[f]at h;cases p:ay_ i j.hkeep with
  | false=>rw[p]at h;simp at h
  | true =>
   rw[p]at h;refine .inr ⟨rfl,?_⟩;unfold St.H;rw[jl_];simpa using h
theorem JP.mt_some{j:JP}{b:Ba E}{y:St E}{h:HL E.S j.T}(e:j.mt b y=some h):∃s f bs u x,s=jD_ b j.objs j.objs (jC_ b j.objs j.slots (frzOs b j.objs (frzS b j.slots y)))/\gg_ (s.L b) j.slots []=some f/\iM_ (s.H b) j.objs f=some bs /\
  j.mtB b.lo s bs=true/\focOK (s.H b) bs j.keep j.gkeep j.objs=true/\leafS (s.L b) (s.H b) j.slots=some u/\lB_ (s.H b) bs j.objs=some x/\h=hap u x:=by
 unfold JP.mt at e;generalize J:jD_ b j.objs j.objs (jC_ b j.objs j.slots (frzOs b j.objs (frzS b j.slots y)))=s at e;simp only at e;cases q:gg_ (s.L b) j.slots []with
 | none=>rw[q]at e;cases e
 | some f =>
  rw[q]at e;simp only at e;cases p:iM_ (s.H b) j.objs f with
  | none=>rw[p]at e;cases e
  | some bs =>
   rw[p]at e;obtain⟨u,x⟩:=bN_ e;obtain⟨G,a2,F,D,C⟩:=oH_ x;simp only[qAn]at u;exact⟨s,f,bs,G,a2,rfl,q,p,u.1,u.2,F,D,C⟩
theorem rr_{α:Type}{i:Nat}{l:tL (Nat×α)}(h:noKey i l=true):aK_ i l=none:=by
 unfold noKey at h;split at h
 .assumption
 .cases h
theorem bd_one{bs:Bd}(h:nodupB (bs.map (·.2))=true){i j id:Nat}(hi:aK_ i bs=some id)(q:aK_ j bs=some id):i=j:=by
 obtain⟨n,p⟩:=List.getElem?_of_mem (gu_ hi);obtain⟨m,f⟩:=List.getElem?_of_mem (gu_ q);have u:(bs.map (·.2))[n]? = some id:=by rw[zF,p];rfl
 have s:(bs.map (·.2))[m]? = some id:=by rw[zF,f];rfl
 have:=oB_ h u s;subst this;rw[p]at f;have:=qSj f;exact qa Prod.fst this
def jF_(g:Ga)(lo:Nat)(K:tL Nat)(bs:Bd):Ga:=λi=>match ay_ i K||Nat.blt i lo with
 | true=>g i
 | false=>match aK_ i bs with
  | some id=>g id
  | none=>none
theorem JP.ok {j:JP} {b:Ba E} {s s0:St E} {h:HL E.S j.T} {a:Act} {R:Type} {k:St E->tO R} {r:R} (ZG:Fresh F0.g b.lo) (hm:j.mt (s.base b) s0=some h) (hR:Rel P E Bs F0 w0 N (s0.L (s.base b)) (s0.H (s.base b)) s0.nx a w) (M:j.go b s h k=some r) :
  ∃s',k s'=some r/\Rel P E Bs F0 w0 N (s'.L b) (s'.H b) s'.nx a w:=by
 obtain⟨s1,ZQ,bs,h1,h2,ZN,Zx,ZW,hB,ZS,ZE,ZF,rfl⟩:=JP.mt_some hm;have ZR:=prepLO_ok (objs:=j.objs) (l2:=j.objs) (l:=j.slots) (frzOs_ok (l:=j.objs) (frzS_ok (l:=j.slots) hR));rw[←ZN]at ZR;obtain⟨z,g,hE,hH,hf,ZP,ZA⟩:=ZR;unfold JP.mtB at hB;simp only[qAn]at hB;obtain⟨⟨⟨ZH,Z⟩,ZC⟩,ZD,ZK,Zy,Zz,ZI,ZJ⟩:=hB;unfold JP.go at M;rw[lC_]at M;cases ZZ:newS j.slots h1 with
 | none=>rw[ZZ]at M;cases M
 | some env =>
  rw[ZZ]at M;simp only at M;obtain⟨ZX,M⟩:=bN_ M;rw[lD_]at M;unfold JP.goB at ZX;simp only[qAn]at ZX;obtain⟨ZL,ZM⟩:=ZX
  -- the new places
  have keyIn:∀i id,aK_ i bs=some id->ay_ i (j.hkeep++j.gkeep)=false:=λi id e=>disj_mem Zz (jJ.2 ⟨_,gu_ e,rfl⟩)
  have f:Bound g (jF_ g b.lo (j.hkeep++j.gkeep) bs) bs:=λi id e=>by
   unfold jF_;rw[keyIn i id e,zX];split
   .rename_i hb;have O:=qx.1 Z _ (gu_ e);simp only[zh]at O;rcases O with O|O
    .have Zv:=zD O;have Zt:i<b.lo:=by simpa using hb
     have:b.lo<=i:=Zv;omega
    .rw[qNb O]
   .rw[e]
  have F:∀i,ay_ i (j.hkeep++j.gkeep)=true->jF_ g b.lo (j.hkeep++j.gkeep) bs i=g i:=λi e=>by
   unfold jF_;rw[e,jM]
  have ZT:∀i,ay_ i j.gkeep=true->jF_ g b.lo (j.hkeep++j.gkeep) bs i=g i:=λi e=>F i (by rw[eU_,e,jE])
  have ZY:∀i,ay_ i j.hkeep=true->jF_ g b.lo (j.hkeep++j.gkeep) bs i=g i:=λi e=>F i (by rw[eU_,e,jM])
  have hA:∀i,ay_ i (j.hkeep++(j.gkeep++selfs j.objs))=true->jF_ g b.lo (j.hkeep++j.gkeep) bs i=g i:=λi e=>by
   rw[eU_,eU_]at e;simp only[zh]at e;rcases e with e|e|e
   .exact ZY i e
   .exact ZT i e
   .exact f i i ((nI_ ZW).2 i (memN_true.1 e))
  have keepL:∀t,ay_ t j.keep=true->s1.L (s.base b) t=s.L b t:=λt ht=>by
   have:=qx.1 ZC t (memN_true.1 ht);simp only[qAn]at this;unfold St.L;rw[rr_ this.1,this.2];rfl
  have keepH:∀i,ay_ i j.hkeep=true->s1.H (s.base b) i=s.H b i:=λi hi=>by
   have:=qx.1 ZD i (memN_true.1 hi);simp only[qAn]at this;unfold St.H;rw[jl_,rr_ this.1,this.2];rfl
  obtain⟨u,hu,V⟩:=objs_meet hH f ZT (L:=s.L b) (keep:=j.keep) (λsl id q i off ZO hL=>by
   rw[←keepL sl ZO]at hL;obtain⟨v,_,hv⟩:=hE.get sl _ hL;obtain⟨l,y,J,_⟩:=hv;exact⟨l,y,J⟩) j.objs ZQ bs h2 _ ZW (Bd.Le.refl bs) ZF ZS M
  refine⟨_,hu,z,jF_ g b.lo (j.hkeep++j.gkeep) bs,⟨hE.size,hE.defers,λt x hx => ?_⟩,?_,λi hi => ?_,ZP,λi l hl => ?_⟩
  .rcases goS_L hx with hx|⟨Y,hx⟩
   .obtain⟨sv,s2,y,J,h5⟩:=slots_meet hH f j.slots [] ZQ h1 env Zx (nI_ ZW).1 ZE ZZ t _ hx;obtain rfl:=qSj y;obtain⟨v,h6,h7⟩:=hE.get t _ J;exact⟨v,h6,h5 v h7⟩
   .have ZV:=hx;rw[←keepL t Y]at ZV;obtain⟨v,h6,h7⟩:=hE.get t _ ZV;have h8:=qx.1 ZL t (memN_true.1 Y);rw[hx]at h8;exact⟨v,h6,h7.same hA h8⟩
  .refine hH.remap (λi=>match ay_ i j.hkeep with|true=>i|false=>(aK_ i bs).getD i) (λi i' o o' e e' C => ?_) λi o' e => ?_
   .have kind:∀i o,(j.goS s env u).H b i=some o->ay_ i j.hkeep=true\/(ay_ i j.hkeep=false/\∃id,aK_ i bs=some id):=λi o e=>by
     rcases goS_H e with e|⟨e,_⟩
     .obtain⟨id,_,_,y,_⟩:=V i _ e;have:=keyIn i id y;rw[eU_,zS]at this;exact .inr ⟨this.1,id,y⟩
     .exact .inl e
    have far:∀i id,aK_ i bs=some id->ay_ id j.hkeep=false:=λi id e=>disj_mem Zy (jJ.2 ⟨_,gu_ e,rfl⟩)
    rcases kind i o e with y|⟨y,id,J⟩<;>rcases kind i' o' e' with D|⟨D,id',U⟩
    .simpa[y,D]using C
    .simp only[y,D,U,zu]at C;subst C;rw[far i' _ U]at y;cases y
    .simp only[y,D,J,zu]at C;subst C;rw[far i _ J]at D;cases D
    .simp only[y,D,J,U,zu]at C;subst C;exact bd_one ZK J U
   .rcases goS_H e with e|⟨Y,e⟩
    .obtain⟨id,o,p,y,J,h5,h6,h7⟩:=V i _ e;obtain rfl:=qSj h5;have:=keyIn i id y;rw[eU_,zS]at this;simp only[this.1,y,zu];exact⟨o,J,h6 (hH.hold _ _ J),h7⟩
    .simp only[Y];have e2:=e;rw[←keepH i Y]at e2;have h8:=qx.1 ZM i (memN_true.1 Y);rw[e]at h8;exact⟨o',e2,(hH.hold _ _ e2).same hA (ZY i Y) h8,λq hq=>(fpO_same (ZY i Y)).1 hq⟩
  .have ZB :  j.nx<=i:=hi;unfold jF_;have Zu:b.lo<=i:=zQ (zD ZH) ZB;have G:Nat.blt i b.lo=false:=by
    cases hb:Nat.blt i b.lo with
    | false=>rfl
    | true => have:i<b.lo:=by simpa using hb
              omega
   rw[G,za];cases ZU:ay_ i (j.hkeep++j.gkeep)with
   | true =>
    have:=qx.1 ZJ i (memN_true.1 ZU);have:i<j.nx:=by simpa using this
    omega
   | false =>
    cases Zw:aK_ i bs with
    | none=>rfl
    | some id =>
     have:=qx.1 ZI _ (gu_ Zw);have:i<j.nx:=by simpa using this
     omega
  .have G:Nat.blt i b.lo=true:=by
    rcases qR i b.lo with O|O
    .simpa using O
    .rw[ZG i O]at hl;cases hl
   unfold jF_;rw[G,jE];exact ZA i l hl
end
section
variable{P:tT}{E:TE}{eqs:tL (Nat×Nat)}{tab:Tab E}{N:Nat}{Bs:tL Nat}{F0:Org}{w0:tS}{RT:Type}{rv:Ba E->St E->tO RT}{Qr:RT->Act->tS->Prop}
def iN_:tO Nat->Exit|none => .normal|some 0 => .ret|some (i+1) => .exit i
def fe_(P:tT)(E:TE)(eqs:tL (Nat×Nat))(tab:Tab E)(N:Nat)(Bs:tL Nat)(F0:Org)(w0:tS)(RT:Type)(rv:Ba E->St E->tO RT)(Qr:RT->Act->tS->Prop)(c:Code):Prop :=
 ∀(pl:Pl) (R:Type) (b:Ba E) (s:St E) (k:tO Nat->St E->tO R) (kr:RT->tO R) (r:R) (a:Act) (w:tS) (Q:Exit->Act->tS->Prop),
  Fresh F0.g b.lo->evCode P E eqs tab N RT rv c pl R b s k kr=some r->Rel P E Bs F0 w0 N (s.L b) (s.H b) s.nx a w ->
  (∀ex s' f w',k ex s'=some r->Rel P E Bs F0 w0 N (s'.L b) (s'.H b) s'.nx f w'->Q (iN_ ex) f w') ->
  (∀y f w',kr y=some r->Qr y f w'->Q .ret f w')->c.wp P Q a w
theorem eV_{x y:Code}{pl pl':Pl}{R:Type}{b:Ba E}{s:St E}{k:tO Nat->St E->tO R}{kr:RT->tO R}{r:R}{a:Act}{w:tS}{Q:Exit->Act->tS->Prop}
  (j:Fresh F0.g b.lo) (G:fe_ P E eqs tab N Bs F0 w0 RT rv Qr x) (F:fe_ P E eqs tab N Bs F0 w0 RT rv Qr y)
  (h:evCode P E eqs tab N RT rv x pl R b s (λex s'=>match ex with
   | none=>evCode P E eqs tab N RT rv y pl' R b s' k kr
   | some i=>k (some i) s') kr=some r) (M:Rel P E Bs F0 w0 N (s.L b) (s.H b) s.nx a w)
  (C:∀ex s' f w',k ex s'=some r->Rel P E Bs F0 w0 N (s'.L b) (s'.H b) s'.nx f w'->Q (iN_ ex) f w') (p:∀y f w',kr y=some r->Qr y f w'->Q .ret f w'):(Code.seq x y).wp P Q a w:=by
 refine ka_ (λf w'=>y.wp P Q f w') (λ_ _ h=>h) (G pl R b s _ kr r a w _ j h M (λex s' f w' u q => ?_) λD f w' u J=>p D f w' u J);cases ex with
 | none=>exact F pl' R b s' k kr r f w' Q j u q C p
 | some i=>cases i<;>exact C (some _) s' f w' u q
theorem blockPlain{id:Nat}{x:Code}{pl:Pl}{R:Type}{b:Ba E}{s:St E}{k:tO Nat->St E->tO R}{kr:RT->tO R}{r:R}{a:Act}{w:tS}{Q:Exit->Act->tS->Prop}
  (u:Fresh F0.g b.lo) (G:fe_ P E eqs tab N Bs F0 w0 RT rv Qr x)
  (h:evCode P E eqs tab N RT rv x pl R b s (λex s'=>match ex with
   | none=>k none s'
   | some i=>match Nat.beq i (id+1)with
    | true=>k none s'
    | false=>k (some i) s') kr=some r) (M:Rel P E Bs F0 w0 N (s.L b) (s.H b) s.nx a w)
  (q:∀ex s' f w',k ex s'=some r->Rel P E Bs F0 w0 N (s'.L b) (s'.H b) s'.nx f w'->Q (iN_ ex) f w') (C:∀y f w',kr y=some r->Qr y f w'->Q .ret f w'):(Code.block id x).wp P Q a w:=by
 refine wp_block (G pl R b s _ kr r a w _ u h M (λex s' f w' p j => ?_) λF f w' p J=>C F f w' p J);cases ex with
 | none=>exact q none s' f w' p j
 | some i =>
  simp only at p;cases i with
  | zero=>exact q (some 0) s' f w' p j
  | succ i =>
   show if i=id then Q .normal f w' else Q (.exit i) f w'
   split at p
   .rename_i D;rw[qL (Nat.succ.inj (qNb D))];exact q none s' f w' p j
   .rename_i D;rw[qP (λe=>bv_ D (qa (· + 1) e))];exact q (some (i+1)) s' f w' p j
theorem seqJoin{x y:Code}{m:JP}{px py:Pl}{R:Type}{b:Ba E}{s:St E}{k:tO Nat->St E->tO R}{kr:RT->tO R}{r:R}{a:Act}{w:tS}{Q:Exit->Act->tS->Prop}
  (j:Fresh F0.g b.lo) (F:fe_ P E eqs tab N Bs F0 w0 RT rv Qr x) (D:fe_ P E eqs tab N Bs F0 w0 RT rv Qr y)
  (h:Option.bind (evCode P E eqs tab N RT rv x px (Tp E.S m.T) (s.base b) (St.new s.nx) (λex s'=>match ex with
    | none=>(match m.mt (s.base b) s' with|some h=>some (cG_ m.T h)|none=>none)
    | some _=>none) (λ_=>none)) (λo=>m.go b s (b6_ m.T o) λs'=>evCode P E eqs tab N RT rv y py R b s' k kr)=some r) (M:Rel P E Bs F0 w0 N (s.L b) (s.H b) s.nx a w)
  (J:∀ex s' f w',k ex s'=some r->Rel P E Bs F0 w0 N (s'.L b) (s'.H b) s'.nx f w'->Q (iN_ ex) f w') (q:∀y f w',kr y=some r->Qr y f w'->Q .ret f w'):(Code.seq x y).wp P Q a w:=by
 obtain⟨o,V,C⟩:=bind_some h;refine ka_ (λf w'=>∃s',evCode P E eqs tab N RT rv y py R b s' k kr=some r/\Rel P E Bs F0 w0 N (s'.L b) (s'.H b) s'.nx f w') (λf w' ⟨s',U,O⟩=>D py R b s' k kr r f w' Q j U O J q)
  (F px _ (s.base b) (St.new s.nx) _ _ o a w _ j V M (λex s' f w' p u => ?_) λY f w' p _=>nomatch p)
 cases ex with
 | none =>
  simp only at p;split at p
  .rename_i Z G;obtain rfl:=qSj p;rw[ds_]at C;exact JP.ok j G u C
  .cases p
 | some i=>cases p
theorem seqJoinR{x y:Code}{m:JP}{px py:Pl}{R:Type}{b:Ba E}{s:St E}{k:tO Nat->St E->tO R}{kr:RT->tO R}{r:R}{a:Act}{w:tS}{Q:Exit->Act->tS->Prop}
  (j:Fresh F0.g b.lo) (G:fe_ P E eqs tab N Bs F0 w0 RT rv Qr x) (F:fe_ P E eqs tab N Bs F0 w0 RT rv Qr y)
  (h : Option.bind (evCode P E eqs tab N RT rv x px (Out (Tp E.S m.T) RT) (s.base b) (St.new s.nx) (λex s'=>match ex with
    | none=>(match m.mt (s.base b) s' with|some h=>some (.fall (cG_ m.T h))|none=>none)
    | some _=>none) (λr=>some (.ret r))) (λo=>match o with
     | .ret r=>kr r
     | .fall o=>m.go b s (b6_ m.T o) λs'=>evCode P E eqs tab N RT rv y py R b s' k kr)=some r) (U:Rel P E Bs F0 w0 N (s.L b) (s.H b) s.nx a w)
  (O:∀ex s' f w',k ex s'=some r->Rel P E Bs F0 w0 N (s'.L b) (s'.H b) s'.nx f w'->Q (iN_ ex) f w') (q:∀y f w',kr y=some r->Qr y f w'->Q .ret f w'):(Code.seq x y).wp P Q a w:=by
 obtain⟨o,Z,u⟩:=bind_some h;refine ka_ (λf w'=>∃s',evCode P E eqs tab N RT rv y py R b s' k kr=some r/\Rel P E Bs F0 w0 N (s'.L b) (s'.H b) s'.nx f w') (λf w' ⟨s',Y,V⟩=>F py R b s' k kr r f w' Q j Y V O q)
  (G px _ (s.base b) (St.new s.nx) _ _ o a w _ j Z U (λex s' f w' p C => ?_) λD f w' p J => ?_)
 .cases ex with
  | none =>
   simp only at p;split at p
   .rename_i hh M;obtain rfl:=qSj p;simp only at u;rw[ds_]at u;exact JP.ok j M C u
   .cases p
  | some i=>cases p
 .obtain rfl:=qSj p;exact q D f w' u J
theorem loopPlain{id:Nat}{body:Code}{j ex:JP}{pb:Pl}{R:Type}{b:Ba E}{s:St E}{k:tO Nat->St E->tO R}{V:HL E.S j.T}{r:R}{a:Act}{w:tS}{Q:Exit->Act->tS->Prop}
  (u:Fresh F0.g b.lo) (Z:fe_ P E eqs tab N Bs F0 w0 RT rv Qr body) (hm:j.mt (s.base b) (St.new s.nx)=some V)
  (h : Option.bind (af_ (λtp=>j.go (s.base b) (St.new s.nx) (b6_ j.T tp) λF=>evCode P E eqs tab N RT rv body pb (Step (Tp E.S j.T) (Tp E.S ex.T)) (s.base b) F (λe s'=>match e with
      | none=>(match j.mt (s.base b) s' with|some h=>some (.next (cG_ j.T h))|none=>none)
      | some i=>match Nat.beq i (id+1)with
       | true=>(match ex.mt (s.base b) s' with|some h=>some (.done (cG_ ex.T h))|none=>none)
       | false=>none) (λ_=>none)) BIG (cG_ j.T V)) (λo=>ex.go b s (b6_ ex.T o) λs'=>k none s')=some r) (hR:Rel P E Bs F0 w0 N (s.L b) (s.H b) s.nx a w)
  (hk:∀ex s' p w',k ex s'=some r->Rel P E Bs F0 w0 N (s'.L b) (s'.H b) s'.nx p w'->Q (iN_ ex) p w'):(Code.block id (.loop body)).wp P Q a w:=by
 obtain⟨o,h1,U⟩:=bind_some h;refine b_join (λp w'=>∃s',k none s'=some r/\Rel P E Bs F0 w0 N (s'.L b) (s'.H b) s'.nx p w') (λp w' ⟨s',M,J⟩=>hk none s' p w' M J)
  (lS_ h1 (λtp p w'=>∃y G,j.mt (s.base b) y=some G/\tp=cG_ j.T G/\Rel P E Bs F0 w0 N (y.L (s.base b)) (y.H (s.base b)) y.nx p w') ⟨_,_,hm,rfl,hR⟩ ?_)
 rintro tp a1 Y ⟨y,G,M,rfl,J⟩ st C x;rw[ds_]at C;obtain⟨F,h5,h6⟩:=JP.ok (b:=s.base b) (s:=St.new s.nx) u M J C;refine Z pb _ (s.base b) F _ _ st a1 Y _ u h5 h6 (λe s' p w' f D => ?_) λy' p w' f _=>nomatch f
 cases e with
 | none =>
  simp only at f;split at f
  .rename_i O q;exact⟨_,(qSj f).symm,s',O,q,rfl,D⟩
  .cases f
 | some i =>
  simp only at f;split at f
  .rename_i hb;split at f
   .rename_i O q;have h8:=x _ (qSj f).symm;subst h8;rw[ds_]at U;obtain rfl:=qNb hb;show if id=id then _ else _
    rw[qL rfl];exact JP.ok u q D U
   .cases f
  .cases f
theorem loopPlainR{id:Nat}{body:Code}{q ex:JP}{pb:Pl}{R:Type}{b:Ba E}{s:St E}{k:tO Nat->St E->tO R}{kr:RT->tO R}{h0:HL E.S q.T}{r:R}{a:Act}{w:tS}{Q:Exit->Act->tS->Prop}
  (x:Fresh F0.g b.lo) (hx:fe_ P E eqs tab N Bs F0 w0 RT rv Qr body) (hm:q.mt (s.base b) (St.new s.nx)=some h0)
  (h : Option.bind (af_ (λtp=>q.go (s.base b) (St.new s.nx) (b6_ q.T tp) λJ=>evCode P E eqs tab N RT rv body pb (Step (Tp E.S q.T) (Out (Tp E.S ex.T) RT)) (s.base b) J (λe s'=>match e with
      | none=>(match q.mt (s.base b) s' with|some h=>some (.next (cG_ q.T h))|none=>none)
      | some i=>match Nat.beq i (id+1)with
       | true=>(match ex.mt (s.base b) s' with|some h=>some (.done (.fall (cG_ ex.T h)))|none=>none)
       | false=>none) (λr=>some (.done (.ret r)))) BIG (cG_ q.T h0)) (λo=>match o with
     | .ret r=>kr r
     | .fall o=>ex.go b s (b6_ ex.T o) λs'=>k none s')=some r) (hR:Rel P E Bs F0 w0 N (s.L b) (s.H b) s.nx a w)
  (hk:∀ex s' f w',k ex s'=some r->Rel P E Bs F0 w0 N (s'.L b) (s'.H b) s'.nx f w'->Q (iN_ ex) f w') (M:∀y f w',kr y=some r->Qr y f w'->Q .ret f w'):(Code.block id (.loop body)).wp P Q a w:=by
 obtain⟨o,h1,G⟩:=bind_some h;refine b_join (λf w'=>∃s',k none s'=some r/\Rel P E Bs F0 w0 N (s'.L b) (s'.H b) s'.nx f w') (λf w' ⟨s',Y,V⟩=>hk none s' f w' Y V)
  (lS_ h1 (λtp f w'=>∃C O,q.mt (s.base b) C=some O/\tp=cG_ q.T O/\Rel P E Bs F0 w0 N (C.L (s.base b)) (C.H (s.base b)) C.nx f w') ⟨_,_,hm,rfl,hR⟩ ?_)
 rintro tp a1 w1 ⟨C,O,Y,rfl,V⟩ st D p;rw[ds_]at D;obtain⟨J,h5,h6⟩:=JP.ok (b:=s.base b) (s:=St.new s.nx) x Y V D;refine hx pb _ (s.base b) J _ _ st a1 w1 _ x h5 h6 (λe s' f w' j F => ?_) λy' f w' j hq => ?_
 .cases e with
  | none =>
   simp only at j;split at j
   .rename_i Z u;exact⟨_,(qSj j).symm,s',Z,u,rfl,F⟩
   .cases j
  | some i =>
   simp only at j;split at j
   .rename_i hb;split at j
    .rename_i Z u;have U:=p _ (qSj j).symm;subst U;simp only at G;rw[ds_]at G;obtain rfl:=qNb hb;show if id=id then _ else _
     rw[qL rfl];exact JP.ok x u F G
    .cases j
   .cases j
 .have U:=p _ (qSj j).symm;subst U;exact M y' f w' G hq
theorem loopPlainX {id:Nat} {body:Code} {u ex rm:JP} {pb:Pl} {R:Type} {b:Ba E} {s:St E} {k:tO Nat->St E->tO R} {h0:HL E.S u.T} {r:R} {a:Act} {w:tS} {Q:Exit->Act->tS->Prop}
  (x:Fresh F0.g b.lo) (hx:fe_ P E eqs tab N Bs F0 w0 RT rv Qr body) (hm:u.mt (s.base b) (St.new s.nx)=some h0)
  (h : Option.bind (af_ (λtp=>u.go (s.base b) (St.new s.nx) (b6_ u.T tp) λD=>evCode P E eqs tab N RT rv body pb (Step (Tp E.S u.T) (Out (Tp E.S ex.T) (Tp E.S rm.T))) (s.base b) D (λe s'=>match e with
      | none=>(match u.mt (s.base b) s' with|some h=>some (.next (cG_ u.T h))|none=>none)
      | some i=>match Nat.beq i (id+1)with
       | true=>(match ex.mt (s.base b) s' with|some h=>some (.done (.fall (cG_ ex.T h)))|none=>none)
       | false=>match Nat.beq i 0 with
        | true=>(match rm.mt (s.base b) s' with|some h=>some (.done (.ret (cG_ rm.T h)))|none=>none)
        | false=>none) (λ_=>none)) BIG (cG_ u.T h0)) (λo=>match o with
     | .ret o=>rm.go b s (b6_ rm.T o) λs'=>k (some 0) s'
     | .fall o=>ex.go b s (b6_ ex.T o) λs'=>k none s')=some r) (hR:Rel P E Bs F0 w0 N (s.L b) (s.H b) s.nx a w)
  (hk:∀ex s' q w',k ex s'=some r->Rel P E Bs F0 w0 N (s'.L b) (s'.H b) s'.nx q w'->Q (iN_ ex) q w'):(Code.block id (.loop body)).wp P Q a w:=by
 obtain⟨o,h1,C⟩:=bind_some h;refine b_join (λq w'=>∃s',k none s'=some r/\Rel P E Bs F0 w0 N (s'.L b) (s'.H b) s'.nx q w') (λq w' ⟨s',Y,V⟩=>hk none s' q w' Y V)
  (lS_ h1 (λtp q w'=>∃F J,u.mt (s.base b) F=some J/\tp=cG_ u.T J/\Rel P E Bs F0 w0 N (F.L (s.base b)) (F.H (s.base b)) F.nx q w') ⟨_,_,hm,rfl,hR⟩ ?_)
 rintro tp a1 w1 ⟨F,J,Y,rfl,V⟩ st G p;rw[ds_]at G;obtain⟨D,h5,h6⟩:=JP.ok (b:=s.base b) (s:=St.new s.nx) x Y V G;refine hx pb _ (s.base b) D _ _ st a1 w1 _ x h5 h6 (λe s' q w' f y => ?_) λy' q w' f _=>nomatch f
 .cases e with
  | none =>
   simp only at f;split at f
   .rename_i U j;exact⟨_,(qSj f).symm,s',U,j,rfl,y⟩
   .cases f
  | some i =>
   simp only at f;split at f
   .rename_i hb;split at f
    .rename_i U j;have O:=p _ (qSj f).symm;subst O;simp only at C;rw[ds_]at C;obtain rfl:=qNb hb;show if id=id then _ else _
     rw[qL rfl];exact JP.ok x j y C
    .cases f
   .split at f
    .rename_i M;obtain rfl:=qNb M;split at f
     .rename_i U j;have O:=p _ (qSj f).symm;subst O;simp only at C;rw[ds_]at C;obtain⟨D,h9,Z⟩:=JP.ok x j y C;exact hk (some 0) D q w' h9 Z
     .cases f
    .cases f
end
variable{P:tT}{E:TE}{eqs:tL (Nat×Nat)}{tab:Tab E}{N:Nat}{Bs:tL Nat}{F0:Org}{w0:tS}
def VarAt(w:tS)(d:Nat)(T:tN)(a:Act)(w':tS):tO (Nat×tL tW)->Prop|none=>True|some (b,vs)=>a.tmps[d]? = some (.pointer (some ⟨b,0,none⟩))/\w.heap.size<=b/\w'.heap[b]? = some (.cells vs.toArray T (0,0))
structure PrS(N:Nat)(w:tS)(a0:Act)(T1 d1 T2 d2:Nat)(α β:tO (Nat×tL tW))(a:Act)(w':tS):Prop where
 ext:Ext w w'
 size:a.tmps.size=N
 defers:a.defers=[]
 same:∀t,t≠d1->t≠d2->a.tmps[t]? = a0.tmps[t]?
 fst:VarAt w d1 T1 a w' α
 snd:VarAt w d2 T2 a w' β
 ne:∀b vs b' vs',α=some (b,vs)->β=some (b',vs')->b≠b'
section
variable{w w':tS}{a0 a:Act}{T1 d1 T2 d2:Nat}{α β:tO (Nat×tL tW)}{ops:Array tP}{o:tP}{K:Act->tS->Prop}{Q:Exit->Act->tS->Prop}
theorem VarAt.ext{d T:Nat}{γ:tO (Nat×tL tW)}{j f:tS}(h:VarAt w d T a j γ)(s:Ext j f):VarAt w d T a f γ:=by
 cases γ with
 | none=>trivial
 | some q =>
  obtain⟨x,u,p⟩:=h;exact⟨x,u,(s.below.block _ (jm.1 p).1).trans p⟩
theorem PrS.go(h:PrS N w a0 T1 d1 T2 d2 α β a w'){j:tS}(f:Ext w' j):PrS N w a0 T1 d1 T2 d2 α β a j:=⟨h.ext.trans f,h.size,h.defers,h.same,h.fst.ext f,h.snd.ext f,h.ne⟩
theorem one_val{v:tW}{f:tS}(j:o.guard=none)(hr:(execOp a.eval o).run P w' = .ok (.value v) f)(h:K (a.put o.dst v) f):wpList P ops (Exit.then K Q) [o] a w':=by
 refine wpList_step λK' p => ?_
 rw[qL (by simp[Region.wanted,j])];unfold Oper.wp;rw[hr];exact p _ _ h
theorem one_skip{f:tS}(j:o.guard=none)(p:o.dst=none)(hr:(execOp a.eval o).run P w' = .ok .skip f)(h:K a f):wpList P ops (Exit.then K Q) [o] a w':=by
 refine wpList_step λK' q => ?_
 rw[qL (by simp[Region.wanted,j])];unfold Oper.wp;rw[hr];show K' (a.put o.dst undef) f;rw[p];exact q _ _ h
theorem put_at{d:Nat}{v:tW}(f:a.tmps.size=N)(h:d<N):(a.put (some d) v).tmps[d]? = some v:=by simp[Act.put,f,h]
theorem pJ_{d t:Nat}{v:tW}(h:t≠d):(a.put (some d) v).tmps[t]? = a.tmps[t]? := by
 simp only[Act.put];rw[jG (Ne.symm h)]
theorem PrS.mkA{f:tL tW}(h:PrS N w a0 T1 d1 T2 d2 none β a w')(j:d1≠d2)(G:d1<N)(C:zeroOf P T1=some f)(D:o.op = .alloc T1)(F:o.guard=none)(p:o.dst=some d1)
  (J:∀y s b,PrS N w a0 T1 d1 T2 d2 (some (b,f)) β y s->K y s):wpList P ops (Exit.then K Q) [o] a w':=by
 refine one_val F (j8_ (P:=P) (w:=w') (ρ:=a.eval) D C) (J _ _ w'.heap.size ?_);rw[p];have u:=Ext.one w' (.cells f.toArray T1);refine⟨h.ext.trans u,by simpa[Act.put]using h.size,h.defers,λt x M=>(pJ_ x).trans (h.same t x M),⟨put_at h.size G,h.ext.below.size,?_⟩,?_,λb vs V vs' e U => ?_⟩
 .show(w'.heap.push _)[w'.heap.size]? = _;simp
 .have:=h.snd.ext u;cases β with
  | none=>trivial
  | some q=>exact⟨(pJ_ (Ne.symm j)).trans this.1,this.2⟩
 .injection e with e;injection e with O _;subst O U;have:=(jm.1 h.snd.2.2).1;omega
theorem PrS.mkB{z2:tL tW}(h:PrS N w a0 T1 d1 T2 d2 α none a w')(f:d1≠d2)(G:d2<N)(C:zeroOf P T2=some z2)(D:o.op = .alloc T2)(F:o.guard=none)(j:o.dst=some d2)
  (J:∀y s b,PrS N w a0 T1 d1 T2 d2 α (some (b,z2)) y s->K y s):wpList P ops (Exit.then K Q) [o] a w':=by
 refine one_val F (j8_ (P:=P) (w:=w') (ρ:=a.eval) D C) (J _ _ w'.heap.size ?_);rw[j];have u:=Ext.one w' (.cells z2.toArray T2);refine⟨h.ext.trans u,by simpa[Act.put]using h.size,h.defers,λt M x=>(pJ_ x).trans (h.same t M x),?_,⟨put_at h.size G,h.ext.below.size,?_⟩,λb vs U vs' e p => ?_⟩
 .have:=h.fst.ext u;cases α with
  | none=>trivial
  | some q=>exact⟨(pJ_ f).trans this.1,this.2⟩
 .show(w'.heap.push _)[w'.heap.size]? = _;simp
 .injection p with p;injection p with O _;subst O e;have:=(jm.1 h.fst.2.2).1;omega
theorem rs_{b:Nat}{cs:Array tW}(h:Ext w w')(p:w.heap.size<=b):Ext w (w'.setRow b cs):=by
 have f:=h.below;exact Ext.of_below ⟨f.os,f.tape,f.output,by rw[setRow_size];exact f.size,λk j=>(cm_ w' b k cs (by omega)).trans (f.block k j)⟩
theorem PrS.setA{b x:Nat}{s f:tL tW}{u:tW}(h:PrS N w a0 T1 d1 T2 d2 (some (b,s)) β a w')(F:x≠d1)(D:x≠d2)(ho:o.op = .store T1 (.tmp d1) (.tmp x))(hg:o.guard=none)(M:o.dst=none)
  (hu:a0.tmps[x]? = some u) (p:u.cells.toList=f) (hn:aO_ P T1=some f.length) (C:s.length=f.length) (h1:bH_ f=true)
  (hK:∀O,PrS N w a0 T1 d1 T2 d2 (some (b,f)) β a O->K a O):wpList P ops (Exit.then K Q) [o] a w':=by
 obtain⟨y,V,U⟩:=h.fst;have G:u.cells.size=f.length:=by rw[←p,qq]
 have J:splice s 0 f=f:=by
  unfold splice;simp[C]
 have j:=eB_ (P:=P) (w:=w') (ρ:=a.eval) (o:=o) (v:=u) (off:=0) ho (by simp[Act.eval,y]) (by simp[Act.eval,(h.same x F D).trans hu]) U (by rw[hn,G]) (by apply jQ;omega) (by rw[p];exact h1);rw[p,J]at j;refine one_skip hg M j (hK _ ⟨rs_ h.ext V,h.size,h.defers,h.same,⟨y,V,eG_ w' b _ _ T1 U⟩,?_,λb1 vs b' vs' e e' => ?_⟩)
 .cases β with
  | none=>trivial
  | some q =>
   obtain⟨q1,Z,Y⟩:=h.snd;exact⟨q1,Z,(cm_ w' b q.1 _ (Ne.symm (h.ne b s q.1 q.2 rfl rfl))).trans Y⟩
 .injection e with e;injection e with y _;subst y;exact h.ne _ _ _ _ rfl e'
theorem PrS.setB{b x:Nat}{z2 f:tL tW}{u:tW}(h:PrS N w a0 T1 d1 T2 d2 α (some (b,z2)) a w')(D:x≠d1)(C:x≠d2)(ho:o.op = .store T2 (.tmp d2) (.tmp x))(hg:o.guard=none)(J:o.dst=none)
  (hu:a0.tmps[x]? = some u) (p:u.cells.toList=f) (hn:aO_ P T2=some f.length) (y:z2.length=f.length) (h1:bH_ f=true)
  (hK:∀O,PrS N w a0 T1 d1 T2 d2 α (some (b,f)) a O->K a O):wpList P ops (Exit.then K Q) [o] a w':=by
 obtain⟨s,V,U⟩:=h.snd;have F:u.cells.size=f.length:=by rw[←p,qq]
 have G:splice z2 0 f=f:=by
  unfold splice;simp[y]
 have j:=eB_ (P:=P) (w:=w') (ρ:=a.eval) (o:=o) (v:=u) (off:=0) ho (by simp[Act.eval,s]) (by simp[Act.eval,(h.same x D C).trans hu]) U (by rw[hn,F]) (by apply jQ;omega) (by rw[p];exact h1);rw[p,G]at j;refine one_skip hg J j (hK _ ⟨rs_ h.ext V,h.size,h.defers,h.same,?_,⟨s,V,eG_ w' b _ _ T2 U⟩,λb1 vs b' vs' e M => ?_⟩)
 .cases α with
  | none=>trivial
  | some q =>
   obtain⟨q1,Z,Y⟩:=h.fst;exact⟨q1,Z,(cm_ w' b q.1 _ (h.ne q.1 q.2 b z2 rfl rfl)).trans Y⟩
 .injection M with M;injection M with s _;subst s;exact h.ne _ _ _ _ e rfl
end
theorem oO_{o:tP}{T d:Nat}(h:pF_ o=some (T,d)):o.op = .alloc T/\o.guard=none/\o.dst=some d:=by
 unfold pF_ at h;split at h
 .rename_i p j f;injection qSj h with s q;subst s q;exact⟨p,j,f⟩
 .cases h
theorem oP_{o:tP}{T d x:Nat}(h:pG_ o=some (T,d,x)):o.op = .store T (.tmp d) (.tmp x)/\o.guard=none/\o.dst=none:=by
 unfold pG_ at h;split at h
 .rename_i q p j;injection qSj h with u f;injection f with f s;subst u f s;exact⟨q,p,j⟩
 .cases h
section
variable{w:tS}{a:Act}{l:tL tP}{o o':tP}{tl fr:tL Nat}{I:tS->Prop}{Q:Exit->Act->tS->Prop}{i fl:Nat}{rest pre post:tL (Nat×tV)}
theorem nJ_(p:l[i]? = some o)(h:∀j,Ext w j->wpList P l.toArray (Exit.then (λq w'=>(tl.contains i=false->I w->I w')/\be_ P l.toArray tl fr I Q rest q w') (cp_ Q)) [o] a j):be_ P l.toArray tl fr I Q ((i,true)::rest) a w:=by
 have f:l.toArray[i]? = some o:=by simpa using p
 simp only[be_,f];exact λX d=>h _ ⟨X,d,rfl⟩
theorem mxF_loud(s:l[i]? = some o)(u:l[fl]? = some o')(h:∀f,Ext w f->wpList P l.toArray (Exit.then (λq w'=>(tl.contains i=false->I w->I w')/\ct_ P l.toArray tl fr I Q fl post pre q w') (cp_ Q)) [o] a f)
  (x:∀f,Ext w f->wpList P l.toArray (Exit.then (λq w'=>(tl.contains fl=false->I w->I w')/\be_ P l.toArray tl fr I Q ((i,true)::pre++post) q w') (cp_ Q)) [o'] a f):ct_ P l.toArray tl fr I Q fl post ((i,true)::pre) a w:=by
 have j:l.toArray[i]? = some o:=by simpa using s
 have p:l.toArray[fl]? = some o':=by simpa using u
 simp only[ct_,j,p];exact⟨λX d=>h _ ⟨X,d,rfl⟩,λX d=>x _ ⟨X,d,rfl⟩⟩
end
theorem evPair_ok (Zt:∀p∈eqs,bd_ P E p.1 p.2) (ht:tab.OK P E) {R:Type} {l:tL tP} {p:Nat} {id:Nat} {b:Ba E} {s:St E} {k:St E->tO R} {r:R} {a:Act} {w:tS} {Q:Exit->Act->tS->Prop} (h:evPair P E eqs tab N l p b s k=some r) (hR:Rel P E Bs F0 w0 N (s.L b) (s.H b) s.nx a w)
  (hK:∀s' a' w',k s'=some r->Rel P E Bs F0 w0 N (s'.L b) (s'.H b) s'.nx a' w'->Q .normal a' w'):(Code.region id l.toArray true).wp P Q a w:=by
 unfold evPair at h;split at h
 .rename_i oA oB oC oD hl;split at h
  .rename_i T1 d1 T2 d2 S1 e1 x1 S2 e2 x2 hA hB hC hD;split at h
   .cases h
   .rename_i ZW;simp only[qAn]at ZW;obtain⟨hm,ZK,hp⟩:=ZW;unfold pairB at hp;simp only[qAn,qo]at hp;obtain⟨⟨Zi,Zj⟩,⟨Zr,Zs⟩,⟨x,ZY,ZZ⟩,⟨Y,V⟩,U,O⟩:=hp;obtain rfl:=qNb Zi;obtain rfl:=qNb Zj;obtain rfl:=qNb Zr;obtain rfl:=qNb Zs;have x:=bv_ x;have Y:=bv_ Y;have V:=bv_ V;have U:=bv_ U;have O:=bv_ O;have ZY:e1<N:=by simpa using ZY
    have ZZ:e2<N:=by simpa using ZZ
    obtain⟨ZS,ZT,ZU⟩:=oO_ hA;obtain⟨ZV,oB2,oB3⟩:=oO_ hB;obtain⟨Zz,ZA,ZB⟩:=oP_ hC;obtain⟨ZC,ZD,ZE⟩:=oP_ hD;have iA:l[p]? = some oA:=by have:=zW (xs:=l) (i:=p) (j:=0);rw[hl]at this;simpa using this.symm
    have iB:l[p+1]? = some oB:=by have:=zW (xs:=l) (i:=p) (j:=1);rw[hl]at this;simpa using this.symm
    have iC:l[p+2]? = some oC:=by have:=zW (xs:=l) (i:=p) (j:=2);rw[hl]at this;simpa using this.symm
    have iD:l[p+3]? = some oD:=by have:=zW (xs:=l) (i:=p) (j:=3);rw[hl]at this;simpa using this.symm
    have Zh:∀w1 w',Ext w w1->Ext w1 w'->Ext w w':=λ_ _ G h2=>G.trans h2
    have hI:∀z g H,HR P E Bs F0.z.F w0 w z g H->F0.z.Le z->∀w',Ext w w'->Keeps P E z g H w w':=λz g H G _ w' h2=>Keeps.of_ext G h2
    refine mU_ (I:=Ext w) Zh [p+3] [] _ _ hm ZK (Ext.refl w) ?_
    have := ft_ (rn_ Zt ht l [p+3] [] p (λ_ _=>rfl) w (Ext w) hI Q (p+1) [(p+2,true),(p+3,true)]) _ (tl:=l.drop p) (J:=λa' w'=>w'=w->ct_ P l.toArray [p+3] [] (Ext w) Q (p+1) [(p+2,true),(p+3,true)] [(p,true)] a' w') h (by simp) hR trivial λs1 a' w' G h2 _ hw=>by
     subst hw;split at G
     .rename_i v1 v2 Zw Zx;split at G
      .rename_i c1 c2 z1 z2 n1 n2 Zp Zq ZO ZQ ZL ZM;split at G
       .rename_i hb;simp only[qAn]at hb;obtain⟨⟨Zl,Zm⟩,Zn,Zo⟩:=hb;obtain⟨z,g,hE,hH,hf,Zy,Zu⟩:=h2;obtain⟨u1,t1,r1⟩:=hE.get x1 _ Zw;obtain⟨u2,t2,r2⟩:=hE.get x2 _ Zx;have q1:=SV.cells_ok Zp r1;have q2:=SV.cells_ok Zq r2;have l1:n1=u1.cells.toList.length:=(qNb Zl).trans q1.len;have l2:n2=u2.cells.toList.length:=(qNb Zn).trans q2.len;have ZP:z1.length=u1.cells.toList.length:=(qNb Zm).trans l1;have ZR:z2.length=u2.cells.toList.length:=(qNb Zo).trans l2;rw[l1]at ZL;rw[l2]at ZM;have ZN:g s1.nx=none:=hf.self;have ZJ:∀a2 M y C,PrS N w' a' S1 e1 S2 e2 (some (y,u1.cells.toList)) (some (C,u2.cells.toList)) a2 M->∀X d,Q .normal a2 (M.ext X d):=λa2 M y C D X d=>by
         have D:=D.go ⟨X,d,rfl⟩;obtain⟨f1,f2,f3⟩:=D.fst;obtain⟨k1,k2,k3⟩:=D.snd;have Zv:=D.ne _ _ _ _ rfl rfl;have g1:=Ga.le_put (l:=⟨none,0,0,0,y,0⟩) ZN;have ZX:(g.put s1.nx ⟨none,0,0,0,y,0⟩) (s1.nx+2)=none:=by
          rw[Ga.put_ne _ _ (by omega)];exact hf _ (by omega)
         have g2:=Ga.le_put (l:=⟨none,0,0,0,C,0⟩) ZX;have far:∀q,w'.heap.size<=q->∀id o k,s1.H b id=some o->fpO g id o k->k≠q:=λq hq id o k e hk=>by
          have:=(hH.hold id o e).lt hk;omega
         have nfz:∀q,w'.heap.size<=q->¬z.F q:=λq hq hz=>by
          have:=(hH.fz q hz).1;omega
         have h3:=(hH.ext D.ext).adopt (n:=s1.nx) (q:=y) (T:=S1) ZN ⟨f3,zQ hH.size f2,far y f2,nfz y f2⟩ (q1.mono λ_ _ h=>RC.le h (Fz.Le.refl z) g1);have h4:=h3.adopt (n:=s1.nx+2) (q:=C) (T:=S2) ZX ⟨k3,zQ hH.size k2,λid o k e hk=>by
          rcases bi_ e with⟨rfl,rfl⟩|⟨_,e2⟩
          .obtain⟨l',h5,h6⟩:=hk;rw[Ga.put_self]at h5;obtain rfl:=qSj h5;rw[h6];exact Zv
          .exact far C k2 id o k e2 ((hj_ ((hH.hold id o e2).loc) g1).1 hk),nfz C k2⟩ (q2.mono λ_ _ h=>RC.le (RC.le h (Fz.Le.refl z) g1) (Fz.Le.refl z) g2)
         refine hK _ a2 _ G ⟨z,_,⟨D.size,D.defers,λt u hu => ?_⟩,?_,λi hi => ?_,Zy,Zu.trans (g1.trans g2)⟩
         .simp only[St.L,aK_]at hu;cases c2:Nat.beq t e2 with
          | true =>
           rw[c2]at hu;obtain rfl:=qNb c2;obtain rfl:=qSj hu;exact⟨_,k1,_,Ga.put_self _ _ _,rfl⟩
          | false =>
           rw[c2]at hu;cases c1:Nat.beq t e1 with
           | true =>
            rw[c1]at hu;obtain rfl:=qNb c1;obtain rfl:=qSj hu;exact⟨_,f1,_,g2 _ _ (Ga.put_self _ _ _),rfl⟩
           | false =>
            rw[c1]at hu;obtain⟨v,h5,h6⟩:=hE.get t u hu;exact⟨v,(D.same t (bv_ c1) (bv_ c2)).trans h5,h6.le (Fz.Le.refl z) (g1.trans g2)⟩
         .exact h4
         .have hi:s1.nx+8<=i:=hi;rw[Ga.put_ne _ _ (by omega),Ga.put_ne _ _ (by omega)];exact hf i (by omega)
        have Zg:∀a2 M y C,PrS N w' a' S1 e1 S2 e2 (some (y,u1.cells.toList)) (some (C,z2)) a2 M->be_ P l.toArray [p+3] [] (Ext w') Q [(p+3,true)] a2 M:=λa2 M y C D =>
         nJ_ iD λw3 Z=>(D.go Z).setB U O ZC ZD ZE t2 rfl ZM ZR (RC.cells q2) λw4 f=>⟨λhc=>(by simp at hc),ZJ _ _ _ _ f⟩
        have ZF:∀a2 M y C,PrS N w' a' S1 e1 S2 e2 (some (y,z1)) (some (C,z2)) a2 M->be_ P l.toArray [p+3] [] (Ext w') Q [(p+2,true),(p+3,true)] a2 M:=λa2 M y C D =>
         nJ_ iC λw3 Z=>(D.go Z).setA Y V Zz ZA ZB t1 rfl ZL ZP (RC.cells q1) λw4 f=>⟨λ_ _=>f.ext,Zg _ _ _ _ f⟩
        have ZG:PrS N w' a' S1 e1 S2 e2 none none a' w':=⟨Ext.refl w',hE.size,hE.defers,λ_ _ _=>rfl,trivial,trivial,λ_ _ _ _ e=>nomatch e⟩;refine mxF_loud iA iB (λw3 Z=>(ZG.go Z).mkA x ZY ZO ZS ZT ZU λa4 w4 y f=>⟨λ_ _=>f.ext,?_⟩) λw3 Z=>(ZG.go Z).mkB x ZZ ZQ ZV oB2 oB3 λa4 w4 C f=>⟨λ_ _=>f.ext,?_⟩
        .exact nJ_ iB λw7 Z=>(f.go Z).mkB x ZZ ZQ ZV oB2 oB3 λa8 w8 C ZI=>⟨λ_ _=>ZI.ext,ZF _ _ _ _ ZI⟩
        .exact nJ_ iA λw5 Z=>(f.go Z).mkA x ZY ZO ZS ZT ZU λa6 w6 y ZH=>⟨λ_ _=>ZH.ext,ZF _ _ _ _ ZH⟩
       .cases G
      .cases G
     .cases G
    exact this rfl (by rw[qh];exact jf _ _) _ λa' G=>G rfl
  .cases h
 .cases h
end Rt
namespace Rt
open Go.RowKit
section
variable{P:tT}{E:TE}{eqs:tL (Nat×Nat)}{tab:Tab E}{N:Nat}{Bs:tL Nat}{F0:Org}{w0:tS}{RT:Type}{rv:Ba E->St E->tO RT}{Qr:RT->Act->tS->Prop}
theorem evCode_both(O:∀p∈eqs,bd_ P E p.1 p.2)(U:tab.OK P E)(ZZ:∀b s a w y,Rel P E Bs F0 w0 N (s.L b) (s.H b) s.nx a w->rv b s=some y->Qr y a w):∀(c:Code),fe_ P E eqs tab N Bs F0 w0 RT rv Qr c/\∀body,c = .loop body->fe_ P E eqs tab N Bs F0 w0 RT rv Qr body:=by
 intro c
 induction c with
 | skip =>
  refine⟨?_,λ_ e=>nomatch e⟩;intro pl R b s k kr r a w Q f h u C q;rw[evCode.eq_def]at h;exact wp_skip (C none s a w h u)
 | region id ops d =>
  refine⟨?_,λ_ e=>nomatch e⟩;intro pl R b s k kr r a w Q f h u C q;rw[evCode.eq_def]at h;cases d with
  | true =>
   cases pl with
   | dr fl V fm ids =>
    have:=evDraw_ok (id:=id) (Q:=Q) O U h u λs' M w' J G=>C none s' M w' J G
    rw[zN]at this;exact this
   | df fl V p =>
    have:=evFloat_ok (id:=id) (Q:=Q) O U h u λs' M w' J G=>C none s' M w' J G
    rw[zN]at this;exact this
   | ot p t =>
    have:=evOrd_ok (id:=id) (Q:=Q) O U h u λs' M w' J G=>C none s' M w' J G
    rw[zN]at this;exact this
   | sq p =>
    have:=evChain_ok (id:=id) (Q:=Q) O U h u λs' M w' J G=>C none s' M w' J G
    rw[zN]at this;exact this
   | pr p =>
    have:=evPair_ok (id:=id) (Q:=Q) O U h u λs' M w' J G=>C none s' M w' J G
    rw[zN]at this;exact this
   | _=>cases h
  | false =>
   have old:evReg P E eqs tab N ops.toList b s (k none)=some r->(Code.region id ops false).wp P Q a w:=λh=>by
    have:=evReg_ok (id:=id) (Q:=Q) O U h u λs' M w' J G=>C none s' M w' J G
    rw[zN]at this;exact this
   cases pl with
   | ot p t =>
    have:=evLin_ok (id:=id) (Q:=Q) O U h u λs' M w' J G=>C none s' M w' J G
    rw[zN]at this;exact this
   | _=>exact old h
 | seq x y D F =>
  refine⟨?_,λ_ e=>nomatch e⟩;obtain⟨D,_⟩:=D;obtain⟨F,_⟩:=F;intro pl R b s k kr r a w Q f h u C q;cases pl with
  | j m ret px py =>
   cases ret with
   | false=>exact seqJoin f D F h u C q
   | true=>exact seqJoinR f D F h u C q
  | p=>exact eV_ f D F h u C q
  | s px py=>exact eV_ f D F h u C q
  | lp hd ex ret px=>exact eV_ f D F h u C q
  | dr fl V fm ids=>exact eV_ f D F h u C q
  | df fl V p=>exact eV_ f D F h u C q
  | ot p t=>exact eV_ f D F h u C q
  | sq p=>exact eV_ f D F h u C q
  | pr p=>exact eV_ f D F h u C q
  | lx hd ex rm px=>exact eV_ f D F h u C q
  | rx=>exact eV_ f D F h u C q
 | cond t x y D F =>
  refine⟨?_,λ_ e=>nomatch e⟩;obtain⟨D,_⟩:=D;obtain⟨F,_⟩:=F;intro pl R b s k kr r a w Q f h u C q;rw[evCode.eq_def]at h;simp only at h;split at h
  .rename_i c hc;have hv:a.eval t = .bool c:=by
    obtain⟨z,g,hE,ZY,_⟩:=u;exact SV.bool_ok rfl (hE.op ZY.gl _ _ hc)
   refine wp_cond hv ?_;cases c with
   | true=>exact D _ R b s k kr r a w Q f h u C q
   | false=>exact F _ R b s k kr r a w Q f h u C q
  .cases h
 | block id x D =>
  refine⟨?_,λ_ e=>nomatch e⟩;obtain⟨D,hl⟩:=D;intro pl R b s k kr r a w Q f h u C q;have plain:evCode P E eqs tab N RT rv x pl R b s (λex s'=>match ex with
   | none=>k none s'
   | some i=>match Nat.beq i (id+1)with
    | true=>k none s'
    | false=>k (some i) s') kr=some r->(Code.block id x).wp P Q a w:=λh=>blockPlain f D h u C q
  cases x with
  | loop body =>
   cases pl with
   | lp hd ex ret pb =>
    have Z:=hl body rfl;rw[evCode.eq_def]at h;simp only at h;split at h
    .cases h
    .rename_i h0 Y;cases ret with
     | false=>exact loopPlain f Z Y h u C
     | true=>exact loopPlainR f Z Y h u C q
   | p=>exact plain h
   | s px py=>exact plain h
   | j m ret px py=>exact plain h
   | dr fl V fm ids=>exact plain h
   | df fl V p=>exact plain h
   | ot p t=>exact plain h
   | sq p=>exact plain h
   | pr p=>exact plain h
   | lx hd ex rm pb =>
    have Z:=hl body rfl;rw[evCode.eq_def]at h;simp only at h;split at h
    .cases h
    .rename_i h0 Y;exact loopPlainX f Z Y h u C
   | rx=>exact plain h
  | _=>exact plain h
 | exit i =>
  refine⟨?_,λ_ e=>nomatch e⟩;intro pl R b s k kr r a w Q f h u C q;exact wp_exit (C (some (i+1)) s a w h u)
 | scope x D =>
  refine⟨?_,λ_ e=>nomatch e⟩;obtain⟨D,_⟩:=D;intro pl R b s k kr r a w Q f h u C q;exact wp_scope_straight (D pl R b s k kr r a w _ f h u (λex s' M w' J G=>by rcases ex with _|_|i<;>exact C _ s' M w' J G) λy M w' J G=>q y M w' J G)
 | ret =>
  refine⟨?_,λ_ e=>nomatch e⟩;intro pl R b s k kr r a w Q f h u C q;have old:(match rv b s with
   | some y=>kr y
   | none=>none)=some r->Code.ret.wp P Q a w:=λh=>by
   split at h
   .rename_i y F;exact wp_ret (q y a w h (ZZ b s a w y u F))
   .cases h
  rw[evCode.eq_def]at h;cases pl with
  | rx=>exact wp_ret (C (some 0) s a w h u)
  | _=>exact old h
 | loop x D =>
  refine⟨?_,λbody e=>by injection e with e;subst e;exact D.1⟩;intro pl R b s k kr r a w Q f h u C q;rw[evCode.eq_def]at h;cases h
 | _ =>
  refine⟨?_,λ_ e=>nomatch e⟩;intro pl R b s k kr r a w Q f h u C q;rw[evCode.eq_def]at h;cases h
theorem oQ_(h:∀p∈eqs,bd_ P E p.1 p.2)(j:tab.OK P E)(f:∀b s a w y,Rel P E Bs F0 w0 N (s.L b) (s.H b) s.nx a w->rv b s=some y->Qr y a w)(c:Code):fe_ P E eqs tab N Bs F0 w0 RT rv Qr c:=(evCode_both h j f c).1
end
section
variable{P:tT}{E:TE}{z z':Fz}{g g':Ga}{w w0:tS}{Bs:tL Nat}{F0:Nat->Prop}{N:Nat}{H:Nat->tO (Obj E)}
theorem frzR_ok(h:HR P E Bs F0 w0 w z g H):∀(rs:Rs) (xs:tL (V1 E)),∃z',z.Le z'/\HR P E Bs F0 w0 w z' g (upH H (frzR E H rs xs))
 | [],_=>⟨z,Fz.Le.refl z,h⟩
 | (_,_)::_,[]=>⟨z,Fz.Le.refl z,h⟩
 | (t,m)::rs,x::xs=>by
  obtain⟨s,q,p⟩:=frzR_ok h rs xs;obtain⟨z2,j,f⟩:=dB_ p (unM m x.cs);rw[aT_]at f;exact⟨z2,q.trans j,f⟩
theorem f1_:∀(ps:tL Pm) (n:Nat) {z:Fz} {H:Nat->tO (Obj E)},HR P E Bs F0 w0 w z g H->∃z',z.Le z'/\HR P E Bs F0 w0 w z' g (upH H (frzV E H ps n))
 | [],_,z,_,h=>⟨z,Fz.Le.refl z,h⟩
 | .b _ _::ps,n,z,H,h=>by
  obtain⟨u,q,j⟩:=f1_ ps (n+1) h;unfold frzV;split
  .obtain⟨z2,s,f⟩:=dB_ j ‹tL (SC E)›;rw[aT_]at f;exact⟨z2,q.trans s,f⟩
  .exact⟨u,q,j⟩
 | .bm _ t m _::ps,n,z,H,h=>by
  obtain⟨u,q,j⟩:=f1_ ps (n+1+aH_ m (E.flat t)) h;unfold frzV;split
  .rename_i cs _;obtain⟨z2,s,f⟩:=dB_ j (unM m cs);rw[aT_]at f;exact⟨z2,q.trans s,f⟩
  .rename_i cs _ _;obtain⟨z2,s,f⟩:=dB_ j (unM m cs);rw[aT_]at f;exact⟨z2,q.trans s,f⟩
  .exact⟨u,q,j⟩
 | .l t m::ps,n,z,_,h=>f1_ ps _ h
 | .g t m::ps,n,z,_,h=>f1_ ps _ h
 | .mp _ _ _::ps,n,z,_,h=>f1_ ps _ h
 | .d _::ps,n,z,_,h=>f1_ ps n h
 | .p _::ps,n,z,_,h=>f1_ ps n h
 | .f1 _ _::ps,n,z,_,h=>f1_ ps n h
 | .f2 _ _ _::ps,n,z,_,h=>f1_ ps n h
theorem frzA_ok(h:HR P E Bs F0 w0 w z g H)(ps:tL Pm)(rs:Rs)(xs:tL (V1 E)):∃z',z.Le z'/\HR P E Bs F0 w0 w z' g (upH H (frzA E H ps rs xs)):=by
 obtain⟨s,q,p⟩:=frzR_ok h rs xs;obtain⟨z2,j,f⟩:=f1_ ps 0 p;rw[aT_]at f;exact⟨z2,q.trans j,f⟩
theorem resSV_ok{b:Ba E}{s:St E}{a:Act}{v:ResultVar}{x:V1 E}(J:ER P E z g N a (s.L b))(G:HR P E Bs F0 w0 w z g (s.H b))(h:resSV E P b s v=some x):∃u,(fK_ a.tmps v).run P w = .ok u w/\R1 P E z g x u:=by
 cases v with
 | tmp t =>
  unfold resSV at h;simp only at h;split at h
  .rename_i y C;obtain rfl:=qSj h;obtain⟨u,F,D⟩:=J.get t _ C;refine⟨u,?_,D⟩;have:a.tmps.getD t undef=u:=by rw[Array.getD_eq_getD_getElem?,F];rfl
   simp only[fK_,this,Sem.run_pure]
  .cases h
 | cell t T =>
  unfold resSV at h;simp only at h;split at h
  .rename_i c C;split at h
   .rename_i l off U;obtain⟨u,F,D⟩:=J.get t _ C;obtain⟨bb,base,vs,rfl,M,O⟩:=behind_ok G U D;obtain⟨v,p,j⟩:=qf_ h M;refine⟨v,?_,j⟩;have:a.tmps.getD t undef = .pointer (some ⟨bb,base+off,none⟩):=by rw[Array.getD_eq_getD_getElem?,F];rfl
    have q:(asAddr (.pointer (some ⟨bb,base+off,none⟩))).run P w = .ok ⟨bb,base+off,none⟩ w:=rfl;have f:=d4_ (P:=P) p (O w (Stands.refl G));simp only[fK_,this,Sem.run_bind,q,Result.andThen_ok,f]
   .cases h
  .cases h
theorem qs_{b:Ba E}{s:St E}{a:Act}(p:ER P E z g N a (s.L b))(j:HR P E Bs F0 w0 w z g (s.H b)):∀{vs:tL ResultVar} {xs:tL (V1 E)},resXs E P b s vs=some xs->∃f,(vs.mapM (fK_ a.tmps)).run P w = .ok f w/\All2 (R1 P E z g) xs f
 | [],xs,h=>by obtain rfl:=qSj h;exact⟨[],rfl,.nil⟩
 | v::vs,xs,h=>by
  simp only[resXs]at h;split at h
  .rename_i x l q y;obtain rfl:=qSj h;obtain⟨u,G,F⟩:=resSV_ok p j q;obtain⟨f,D,C⟩:=qs_ p j y;refine⟨u::f,?_,.cons F C⟩;rw[List.mapM_cons,Sem.run_bind,G];simp only[Sem.run_pure,Result.andThen_ok,Sem.run_bind,D]
  .cases h
theorem tuple_out{fn:Func}{a:Act}{rs:tL ResultVar}{j:tL tW}(p:fn.results.toList=rs)(h:(rs.mapM (fK_ a.tmps)).run P w = .ok j w):(results fn a.tmps).run P w = .ok (ld_ j) w:=by
 have f:fn.results=rs.toArray:=by rw[←p,zN]
 rw[qO_,f,List.mapM_toArray,Sem.run_bind];have:((Functor.map List.toArray (rs.mapM (fK_ a.tmps))).run P w) = .ok j.toArray w:=by
  rw[map_eq_pure_bind,Sem.run_bind,h];rfl
 rw[this];simp only[Result.andThen_ok,Sem.run_pure]
 congr 1
 match j with
 | []=>rfl
 | [v]=>rfl
 | v::u::r=>simp[ld_]
theorem takeR_ok(U:HR P E Bs F0 w0 w z g H){I:tL Nat}:∀{rs:Rs} {xs:tL (V1 E)} {q:HL E.S rs.ts×tL Nat} {s:tL tW} {n:Nat},takeR E H rs xs=some q->(∀j id,q.2[j]? = some id->I[n+j]? = some id)->All2 (R1 P E z g) xs s ->
  (∃svr,resV E rs q.1 n=some svr/\All2 (R1 P E z (gOf g I)) svr s)/\(∀i o,(i,o)∈cY_ E rs q.1 n->∃id M o2,I[i]? = some id/\H id=some M/\o=some o2/\Cor E H I M o2)/\q.2.length=cH_ E rs
 | [],[],q,s,n,h,_,G=>by
  cases G
  obtain rfl:=qSj h;exact⟨⟨[],rfl,.nil⟩,(λi o hm=>nomatch hm),rfl⟩
 | [],_::_,q,s,n,h,_,_=>by simp[takeR]at h
 | (t,m)::rs,[],q,s,n,h,_,_=>by simp[takeR]at h
 | (t,m)::rs,x::xs,q,s,n,h,hI,G=>by
  simp only[takeR]at h;split at h
  .rename_i d q' hf O hq;obtain rfl:=qSj h;obtain⟨D,J⟩:=lg_ hI;cases G with
   | @cons _ u _ us' F hr =>
    obtain⟨e7,V⟩:=lt_ (I:=I) (n:=n) O D;obtain⟨⟨svr,Z,e2⟩,Y,e4⟩:=takeR_ok U (n:=n+d.2.length) hq J hr;rw[V]at Z Y;have p:∀vs,All2 (RC P E z g) x.cs vs->_:=λvs f=>kb_ U O D f
    obtain⟨y,e5,e6⟩:=asV_ok (z':=z) (g':=gOf g I) (l:=bM_ E m (E.flat t) d.1 n) hf (by
     have:∃vs,All2 (RC P E z g) x.cs vs:=by
      cases x with
      | one c=>exact⟨[u],.cons F .nil⟩
      | agg l=>obtain⟨vs,_,h⟩:=F;exact⟨vs,h⟩
     obtain⟨vs,f⟩:=this;rw[(p vs f).2.1,(p vs f).2.2]) F λvs f=>(p vs f).1
    refine⟨⟨y::svr,by simp only[resV,Z,E.fl_ufl,e5],.cons e6 e2⟩,λi o C => ?_,by simp only[qLa,V,e4];rfl⟩;simp only[cY_,qF,E.fl_ufl]at C;rcases C with C|C
    .exact e7 i o C
    .exact Y i o C
  .cases h
theorem HR.leave(q:HR P E Bs F0 w0 w z g H){I:tL Nat}{l:Chs E}(Y:∀i j o p id,(i,o)∈l->(j,p)∈l->I[i]? = some id->I[j]? = some id->i=j)(Z:∀i o,(i,o)∈l->∃id f o2,I[i]? = some id/\H id=some f/\o=some o2/\Cor E H I f o2) :
  HR P E Bs F0 w0 w z (gOf g I) (upH (λ_=>none) l):=by
 have key:∀i o,upH (λ_=>none) l i=some o->∃id f,I[i]? = some id/\H id=some f/\ObjR P E z (gOf g I) w i o/\∀k,fpO (gOf g I) i o k↔fpO g id f k:=λi o h=>by
  obtain⟨id,f,o2,y,s,h3,h4⟩:=Z i _ (iq_ h);obtain rfl:=qSj h3;obtain⟨J,u⟩:=h4.obj q y (q.hold _ _ s);exact⟨id,f,y,s,J,u⟩
 refine⟨q.chg,λi o h => ?_,λi o k h x => ?_,λi j o p k F h U x D => ?_,q.fz,q.fz0,λi o k h x V => ?_,q.gl⟩
 .obtain⟨_,_,_,_,J,_⟩:=key i o h;exact J
 .obtain⟨id,f,_,s,_,u⟩:=key i o h;exact q.own id f k s ((u k).1 x)
 .obtain⟨id,f,y,s,_,u⟩:=key i o h;obtain⟨id',C,O,M,_,G⟩:=key j p U;refine q.apart id id' f C k (λe => ?_) s M ((u k).1 x) ((G k).1 D);subst e;exact F (Y i j _ _ _ (iq_ h) (iq_ U) y O)
 .obtain⟨id,f,y,s,_,u⟩:=key i o h;exact q.fza id f k s ((u k).1 x) V
end
section
variable{P:tT}{E:TE}{H:Nat->tO (Obj E)}
theorem backM_ok {m:Mk} {I:tL Nat}:∀{ts:tL Ty} {h y:HL E.S ts} {n:Nat},kL_ E H m ts h n=some y->∀i o,(i,o)∈bk_ E m ts y n->∃C o2,H i=some C/\o=some o2/\Cor E H I C o2:=by
 induction m with
 | nil =>
  intro ts h y n _ i o j;cases ts<;>simp[bk_]at j
 | cons a m D =>
  intro ts h y n f i o j;cases ts with
  | nil=>cases a<;>simp[bk_]at j
  | cons t ts =>
   cases a with
   | none =>
    simp only[kL_]at f;cases s:kL_ E H m ts h.2 n with
    | none=>rw[s]at f;cases f
    | some q =>
     rw[s]at f;obtain rfl:=qSj f;simp only[bk_]at j;exact D s i o j
   | some e =>
    cases t with
    | sl t =>
     simp only[kL_]at f;cases u:H n with
     | none=>rw[u]at f;cases f
     | some p =>
      cases p with
      | row M O xs foc =>
       rw[u]at f;simp only at f;split at f
       .rename_i F;subst F;cases x:Nat.beq e M with
        | false=>rw[x]at f;cases f
        | true =>
         cases s:kL_ E H m ts h.2 (n+1)with
         | none=>rw[x,s]at f;cases f
         | some q =>
          rw[x,s]at f;obtain rfl:=qSj f;obtain rfl:=qNb x;simp only[bk_,qD]at j;rcases j with j|j
          .injection j with J G;subst J;subst G;exact⟨_,_,u,rfl,rfl⟩
          .exact D s i o j
       .cases f
      | _=>rw[u]at f;cases f
    | _=>simp[bk_]at j
theorem backH_ok {I:tL Nat}:∀{ps:tL Pm} {a:PA E ps} {bh:HL E.S (ba_ ps)×tL Nat} {n k:Nat},dD_ E H ps a n=some bh->(∀i,i<n+ao_ E ps->n<=i->I[i]? = some i)->(∀j id,bh.2[j]? = some id->I[k+j]? = some id) ->
  (∀i o,(i,o)∈aY_ E ps (dJ_ E ps a bh.1) n k->∃id o1 o2,I[i]? = some id/\H id=some o1/\o=some o2/\Cor E H I o1 o2)/\bh.2.length=di_ E ps:=by
 intro ps
 induction ps with
 | nil =>
  intro a bh n k f _ _;obtain rfl:=qSj f;exact⟨(λi o J=>nomatch J),rfl⟩
 | cons p ps G =>
  intro a bh n k f C M;cases p with
  | d t=>exact G f C M
  | p t=>exact G f C M
  | g t m =>
   simp only[ao_]at C;exact G f (λi O u=>C i (by omega) (by omega)) M
  | f1 x r=>exact G f C M
  | f2 x y r=>exact G f C M
  | l t m =>
   simp only[ao_]at C;simp only[dD_]at f;cases O:kL_ E H m (E.flat t) (E.fl t a.1) n with
   | none=>rw[O]at f;cases f
   | some h =>
    cases u:dD_ E H ps a.2 (n+aH_ m (E.flat t))with
    | none=>rw[O,u]at f;cases f
    | some q =>
     rw[O,u]at f;obtain rfl:=qSj f;obtain⟨g1,V⟩:=G (k:=k) u (λi O u=>C i (by omega) (by omega)) M;refine⟨λi o J => ?_,V⟩;have s:(i,o)∈bk_ E m (E.flat t) (E.fl t (E.ufl t h)) n++aY_ E ps (dJ_ E ps a.2 q.1) (n+aH_ m (E.flat t)) k:=J;rw[E.fl_ufl]at s;rcases qF.1 s with s|s
     .obtain⟨o1,o2,h6,h7,h8⟩:=backM_ok (I:=I) O i o s;obtain⟨_,_,_,h9,ZW⟩:=bo_ i o s;exact⟨i,o1,o2,C i (by omega) h9,h6,h7,h8⟩
     .exact g1 i o s
  | mp T kt v =>
   simp only[ao_]at C;simp only[dD_]at f;cases D:H n with
   | none=>rw[D]at f;cases f
   | some p =>
    cases p with
    | map T' k' v' ks vs foc =>
     cases u:dD_ E H ps a.2 (n+1)with
     | none=>rw[D,u]at f;cases f
     | some q =>
      rw[D,u]at f;simp only at f;split at f
      .rename_i ht;obtain⟨rfl,rfl⟩:=ht;cases F:Nat.beq T T' with
       | false=>rw[F]at f;cases f
       | true =>
        rw[F]at f;obtain rfl:=qSj f;obtain rfl:=qNb F;obtain⟨g1,V⟩:=G (k:=k) u (λi O u=>C i (by omega) (by omega)) M;refine⟨λi o J => ?_,V⟩;have s:(i,o)∈(n,some (Obj.map T k' v' ks vs []))::aY_ E ps (dJ_ E ps a.2 q.1) (n+1) k:=J;rcases qD.1 s with s|s
        .injection s with e1 e2;subst e1;subst e2;exact⟨_,_,_,C _ (by omega) (qE _),D,rfl,rfl⟩
        .exact g1 i o s
      .cases f
    | _=>rw[D]at f;cases f
  | b T t =>
   simp only[ao_]at C;simp only[dD_]at f;cases D:H n with
   | none=>rw[D]at f;cases f
   | some p =>
    cases p with
    | box T' cs =>
     cases u:dD_ E H ps a.2 (n+1)with
     | none=>rw[D,u]at f;cases f
     | some q =>
      rw[D,u]at f;simp only at f;cases F:Nat.beq T T' with
      | false=>rw[F]at f;cases f
      | true =>
       cases U:cf_ E H (E.flat t) cs with
       | none=>rw[F,U]at f;cases f
       | some h =>
        rw[F,U]at f;obtain rfl:=qSj f;obtain rfl:=qNb F;obtain⟨g1,V⟩:=G (k:=k) u (λi O u=>C i (by omega) (by omega)) M;refine⟨λi o J => ?_,V⟩;have s:(i,o)∈(n,some (Obj.box T (E.cells t (E.ufl t h))))::aY_ E ps (dJ_ E ps a.2 q.1) (n+1) k:=J;rcases qD.1 s with s|s
        .injection s with e1 e2;subst e1;subst e2;exact⟨_,_,_,C _ (by omega) (qE _),D,rfl,false,_,[],0,t,[],(h,[]),0,rfl,(λ_ _ e=>nomatch e),takeM_nil U,by rw[ownC_nil];unfold TE.cells;rw[E.fl_ufl];rfl,λj id' hj=>by simp at hj⟩
        .exact g1 i o s
    | _=>rw[D]at f;cases f
  | bm T t m px =>
   simp only[ao_]at C;simp only[dD_]at f;cases D:H n with
   | none=>rw[D]at f;cases f
   | some p =>
    cases p with
    | box T' ZY =>
     cases u:dD_ E H ps a.2 (n+1+aH_ m (E.flat t))with
     | none=>rw[D,u]at f;cases f
     | some q =>
      rw[D,u]at f;simp only at f;cases Z:iI_ (pxB px ps) ZY with
      | none=>rw[Z]at f;cases f
      | some c2 =>
       obtain⟨cs,Y⟩:=c2;rw[Z]at f;simp only at f;cases F:Nat.beq T T'&&hidI Y (n+1+aH_ m (E.flat t))with
       | false=>rw[F]at f;cases f
       | true =>
        cases U:b9_ E H m (E.flat t) cs with
        | none=>rw[F,U]at f;cases f
        | some d =>
         rw[F,U]at f;obtain rfl:=qSj f;simp only[qAn]at F;obtain⟨F,hh⟩:=F;obtain rfl:=qNb F;obtain⟨i1,i2⟩:=lg_ M;obtain⟨e7,e8⟩:=lt_ (n:=k) U i1;obtain⟨g1,V⟩:=G (k:=k+d.2.length) u (λi O u=>C i (by omega) (by omega)) i2;refine⟨λi o J => ?_,by simp only[qLa,e8,V,di_]⟩;have s:(i,o)∈(n,some (Obj.box T (ptrC E (pxB px ps) (n+1+aH_ m (E.flat t))++bM_ E m (E.flat t) (E.fl t (E.ufl t d.1)) k)))::(bk_ E m (E.flat t) (E.fl t (E.ufl t d.1)) k++aY_ E ps (dJ_ E ps a.2 q.1) (n+1+aH_ m (E.flat t)) (k+aH_ m (E.flat t))):=J;rw[E.fl_ufl]at s;rw[e8]at g1;rcases qD.1 s with s|s
         .injection s with e1 e2;subst e1;subst e2;refine⟨_,_,_,C _ (by omega) (qE _),D,rfl,_,cs,Y,_,t,m,d,k,Z,(λZX o2 e => ?_),U,rfl,i1⟩;subst e;simp only[hidI]at hh;have h9:=qNb hh;rw[h9];have ZZ:pxB px ps=true:=by
           cases hx:pxB px ps with
           | true=>rfl
           | false=>rw[hx]at Z;simp[iI_]at Z
          have:=pxB_cnt (E:=E) ZZ;exact C _ (by omega) (by omega)
         .rcases qF.1 s with s|s
          .exact e7 i o s
          .exact g1 i o s
    | _=>rw[D]at f;cases f
end
section
variable{P:tT}{E:TE}{eqs:tL (Nat×Nat)}{tab:Tab E}{z:Fz}{g:Ga}{w w0:tS}{Bs:tL Nat}{N:Nat}
def EndIs(P:tT)(E:TE)(z:Fz)(g:Ga)(Bs:tL Nat)(w:tS)(ps:tL Pm)(rs:Rs)(a:PA E ps)(rh:HL E.S rs.ts)(bh:HL E.S (ba_ ps))(v:tW)(w':tS):Prop:=∃z' g' svr,z.Le z'/\g.Le g'/\resV E rs rh (ao_ E ps)=some svr/\RV P E z' g' (oneV E svr) v/\HR P E Bs z.F w w' z' g' (upH (λ_=>none) (cY_ E rs rh (ao_ E ps)++aY_ E ps (dJ_ E ps a bh) 0 (ao_ E ps+cH_ E rs)))
theorem oneV_ok{svr:tL (V1 E)}{f:tL tW}(h:All2 (R1 P E z g) svr f):RV P E z g (oneV E svr) (ld_ f):=by
 cases h with
 | nil=>exact⟨[],rfl,.nil⟩
 | cons j s =>
  cases s with
  | nil=>exact j
  | cons q p=>exact⟨_,rfl,.cons j (.cons q p)⟩
theorem d7_:∀{ps:tL Pm} {a:PA E ps} {n k i:Nat} {o:tO (Obj E)},(i,o)∈aY_ E ps a n k->i∈dE_ E ps n\/(k<=i/\i<k+di_ E ps)
 | [],_,_,_,_,_,h=>by cases h
 | .l t m::ps,a,n,k,i,o,h=>by
  rcases qF.1 h with h|h
  .obtain⟨_,_,_,f,j⟩:=bo_ i _ h;exact .inl (qF.2 (.inl (List.mem_range'_1.2 ⟨f,j⟩)))
  .exact(d7_ (ps:=ps) h).imp (λh=>qF.2 (.inr h)) id
 | .g _ _::ps,_,_,_,_,_,h=>d7_ (ps:=ps) h
 | .b _ _::ps,_,_,_,_,_,h=>by
  rcases qD.1 h with h|h
  .injection h with e;subst e;exact .inl (qD.2 (.inl rfl))
  .exact(d7_ (ps:=ps) h).imp (λh=>qD.2 (.inr h)) id
 | .bm _ t m _::ps,a,n,k,i,o,h=>by
  simp only[di_];rcases qD.1 h with h|h
  .injection h with e;subst e;exact .inl (qD.2 (.inl rfl))
  .rcases qF.1 h with h|h
   .obtain⟨_,_,_,f,j⟩:=bo_ i _ h;exact .inr ⟨f,by omega⟩
   .rcases d7_ (ps:=ps) h with h|h
    .exact .inl (qD.2 (.inr h))
    .exact .inr ⟨by omega,by omega⟩
 | .mp _ _ _::ps,_,_,_,_,_,h=>by
  rcases qD.1 h with h|h
  .injection h with e;subst e;exact .inl (qD.2 (.inl rfl))
  .exact(d7_ (ps:=ps) h).imp (λh=>qD.2 (.inr h)) id
 | .d _::ps,_,_,_,_,_,h=>d7_ (ps:=ps) h
 | .p _::ps,_,_,_,_,_,h=>d7_ (ps:=ps) h
 | .f1 _ _::ps,_,_,_,_,_,h=>d7_ (ps:=ps) h
 | .f2 _ _ _::ps,_,_,_,_,_,h=>d7_ (ps:=ps) h
theorem eW_:∀{ps:tL Pm} {n i:Nat},i∈dE_ E ps n->i<n+ao_ E ps
 | [],_,_,h=>by cases h
 | .l t m::ps,n,i,h=>by
  simp only[ao_];rcases qF.1 h with h|h
  .have:=List.mem_range'_1.1 h;omega
  .have:=eW_ (ps:=ps) h;omega
 | .g t m::ps,n,i,h=>by
  simp only[ao_];have:=eW_ (ps:=ps) h;omega
 | .b _ _::ps,n,i,h=>by
  simp only[ao_];rcases qD.1 h with h|h
  .omega
  .have:=eW_ (ps:=ps) h;omega
 | .bm _ t m _::ps,n,i,h=>by
  simp only[ao_];rcases qD.1 h with h|h
  .omega
  .have:=eW_ (ps:=ps) h;omega
 | .mp _ _ _::ps,n,i,h=>by
  simp only[ao_];rcases qD.1 h with h|h
  .omega
  .have:=eW_ (ps:=ps) h;omega
 | .d _::ps,_,_,h=>eW_ (ps:=ps) h
 | .p _::ps,_,_,h=>eW_ (ps:=ps) h
 | .f1 _ _::ps,_,_,h=>eW_ (ps:=ps) h
 | .f2 _ _ _::ps,_,_,h=>eW_ (ps:=ps) h
theorem retF_ok {ps:tL Pm} {rs:Rs} {a:PA E ps} {fn:Func} {b:Ba E} {s:St E} {act:Act} {w':tS} {y:Tp E.S (rs.ts++ba_ ps)} (ZW:Fresh g (ao_ E ps))
  (hR:Rel P E Bs ⟨z,g,ao_ E ps⟩ w N (s.L b) (s.H b) s.nx act w') (h:retF E P ps rs a fn.results.toList b s=some y) :
  act.defers=[]/\∃v,(results fn act.tmps).run P w' = .ok v w'/\EndIs P E z g Bs w ps rs a (hfst rs.ts (ba_ ps) (b6_ _ y)) (hsnd rs.ts (ba_ ps) (b6_ _ y)) v w':=by
 obtain⟨z1,g1,hE,hH,ZX,Z,ZY⟩:=hR;refine⟨hE.defers,?_⟩;unfold retF at h;cases u:resXs E P b s fn.results.toList with
 | none=>rw[u]at h;cases h
 | some U =>
  rw[u]at h;simp only at h;obtain⟨xs,u0,n0,O,p1,V,_,p4,p5,_,_⟩:=prepRs_ok rs U hH ZX;rw[p1]at h;generalize ZS:upH (s.H b) u0=Hu at h p4;cases hq:takeR E (upH Hu (frzA E Hu ps rs xs)) rs xs with
  | none=>rw[hq]at h;cases h
  | some q =>
   rw[hq]at h;simp only at h;cases hb:dD_ E (upH Hu (frzA E Hu ps rs xs)) ps a 0 with
   | none=>rw[hb]at h;cases h
   | some bq =>
    rw[hb]at h;obtain⟨bh,ids⟩:=bq;obtain⟨hn,h⟩:=bN_ h;obtain rfl:=qSj h;simp only at hn;rw[ds_,lC_,lD_];obtain⟨us,h1,ZT⟩:=qs_ hE hH u;have h2:=p5 z1 O us (Ga.Le.refl O) (ZT.mono λ_ _ h=>R1.le h (Fz.Le.refl z1) V);obtain⟨z2,D,J⟩:=frzA_ok p4 ps rs xs;have ZU:∀j id,(q.2++ids)[j]? = some id->(List.range (ao_ E ps)++(q.2++ids))[ao_ E ps+j]? = some id:=λj id hj=>by
     rw[zZ (by simp)];simpa using hj
    obtain⟨ZV,G⟩:=lg_ ZU;have x:∀i,i<ao_ E ps->(List.range (ao_ E ps)++(q.2++ids))[i]? = some i:=λi hi=>by
     rw[zR (by simpa using hi)];simp[hi]
    obtain⟨⟨svr,h3,h4⟩,h5,ZZ⟩:=takeR_ok J (n:=ao_ E ps) hq ZV (h2.mono λ_ _ h=>R1.le h D (Ga.Le.refl O));rw[ZZ]at G;obtain⟨h6,_⟩:=backH_ok (I:=List.range (ao_ E ps)++(q.2++ids)) (k:=ao_ E ps+cH_ E rs) hb (λi h1 _=>x i (by omega)) G;refine⟨_,tuple_out rfl h1,z2,gOf O (List.range (ao_ E ps)++(q.2++ids)),svr,Z.trans D,λi l hl => ?_,h3,oneV_ok h4,J.leave (λi j o p id hi hj e1 e2 => ?_) λi o f => ?_⟩
    .have hi:i<ao_ E ps:=by
      rcases qR i (ao_ E ps)with h9|h9
      .exact h9
      .rw[ZW i h9]at hl;cases hl
     unfold gOf;rw[x i hi];exact V i l (ZY i l hl)
    .have far:∀i,ao_ E ps<=i->(List.range (ao_ E ps)++(q.2++ids))[i]? = some id->∃p,(dE_ E ps 0++(q.2++ids))[p]? = some id/\((p<(dE_ E ps 0).length/\i=id/\i<ao_ E ps)\/(ao_ E ps<=i/\p=(dE_ E ps 0).length+(i-ao_ E ps))):=λi C e=>by
      rw[zZ (by simpa using C)]at e;refine⟨(dE_ E ps 0).length+(i-ao_ E ps),?_,.inr ⟨C,rfl⟩⟩;rw[zZ (by omega)];simpa using e
     have key:∀i o,(i,o)∈cY_ E rs q.1 (ao_ E ps)++aY_ E ps (dJ_ E ps a bh) 0 (ao_ E ps+cH_ E rs)->(List.range (ao_ E ps)++(q.2++ids))[i]? = some id->∃p,(dE_ E ps 0++(q.2++ids))[p]? = some id/\((p<(dE_ E ps 0).length/\i=id/\i<ao_ E ps)\/(ao_ E ps<=i/\p=(dE_ E ps 0).length+(i-ao_ E ps))):=λi o f e=>by
      rcases qF.1 f with f|f
      .obtain⟨_,_,_,C,_⟩:=fv_ i o f;exact far i C e
      .rcases d7_ f with f|f
       .have M:=eW_ f;rw[x i (by omega)]at e;obtain rfl:=qSj e;obtain⟨p,hp⟩:=jW.1 f;have F:p<(dE_ E ps 0).length:=(qj.1 hp).1;exact⟨p,by rw[zR F];exact hp,.inl ⟨F,rfl,by omega⟩⟩
       .exact far i (by omega) e
     obtain⟨p1,C,M⟩:=key i o hi e1;obtain⟨V,k3,Y⟩:=key j p hj e2;have hp:=oB_ hn C k3;rcases M with M|M<;>rcases Y with Y|Y<;>omega
    .rcases qF.1 f with f|f
     .exact h5 i o f
     .exact h6 i o f
theorem slots_in{svs:tL (V1 E)}{vs:tL tW}(h:All2 (R1 P E z g) svs vs):∀(i t:Nat) (o:tO (SV E)),aK_ t (slotsOf i svs)=some o->∃x v,o=some (.v x)/\look t (lp_ i vs)=some v/\R1 P E z g x v:=by
 induction h with
 | nil=>intro i t o f;cases f
 | @cons x v la bs q _ p =>
  intro i t o f;simp only[slotsOf,aK_]at f;simp only[lp_,look];cases j:Nat.beq t i with
  | true =>
   rw[j]at f;exact⟨x,v,(qSj f).symm,rfl,q⟩
  | false =>
   rw[j]at f;exact p (i+1) t o f
theorem evFun_ok(U:∀p∈eqs,bd_ P E p.1 p.2)(ht:tab.OK P E){f:FuncId}{fn:Func}(hf:P.funcs[f]? = some fn){ps:tL Pm}{rs:Rs}{pl:Pl}{a:PA E ps}{y:Tp E.S (rs.ts++ba_ ps)}(h:gI_ P E eqs tab fn ps rs pl a=some y) :
  CallOK P E f ps rs true a (hfst rs.ts (ba_ ps) (b6_ _ y)) (hsnd rs.ts (ba_ ps) (b6_ _ y)):=by
 intro w z g Bs svs vs Y hH j hv;unfold gI_ at h;cases V:fn.body with
 | none=>rw[V]at h;cases h
 | some c =>
  rw[V,Y]at h;simp only at h;obtain⟨O,h⟩:=bN_ h;refine Ret.mono (R:=λv w'=>EndIs P E z g Bs w ps rs a (hfst rs.ts (ba_ ps) (b6_ _ y)) (hsnd rs.ts (ba_ ps) (b6_ _ y)) v w') ?_ λv w' ⟨z',g',svr,D,C,q,h4,h5⟩=>⟨z',g',svr,D,(λe=>nomatch e),C,q,h4,h5⟩
  refine enter hf V rfl (by rw[jA,←hv.len];exact O) λact hE => ?_
  refine oQ_ (Bs:=Bs) (F0:=⟨z,g,ao_ E ps⟩) (w0:=w) (Qr:=λJ G w'=>G.defers=[]/\∃v,(results fn G.tmps).run P w' = .ok v w'/\EndIs P E z g Bs w ps rs a (hfst rs.ts (ba_ ps) (b6_ _ J)) (hsnd rs.ts (ba_ ps) (b6_ _ J)) v w') U ht
   (λb s G w' J hR hy=>retF_ok j hR hy) c pl _ _ _ _ _ y act w _ j h ?_ ?_ ?_
  .refine⟨z,g,⟨hE.size,hE.defers,λt u F => ?_⟩,hH,j,Fz.Le.refl z,Ga.Le.refl g⟩;unfold St.L at F;simp only at F;cases Z:aK_ t (slotsOf 0 svs)with
   | none=>rw[Z]at F;cases F
   | some o =>
    rw[Z]at F;obtain⟨x,v,D,C,q⟩:=slots_in hv 0 t o Z;subst D;obtain rfl:=qSj F;exact⟨v,hE.get t v (by simpa using C),q⟩
  .intro ex s' G w' M ZZ;cases ex with
   | some i=>cases M
   | none =>
    obtain⟨D,v,C,q⟩:=retF_ok j ZZ M;exact⟨D,_,C,v,rfl,q⟩
  .intro J G w' M hq;obtain rfl:=qSj M;obtain⟨D,v,C,q⟩:=hq;exact⟨D,_,C,v,rfl,q⟩
end
section
variable{P:tT}{E:TE}{eqs:tL (Nat×Nat)}{tab:Tab E}
theorem CallOK.flat{f:FuncId}{ps:tL Pm}{rs:Rs}{ali:tV}{a:PA E ps}{rh:HL E.S rs.ts}{bh:HL E.S (ba_ ps)}(hr:iJ_ E rs=true)(hp:fc_ E ps=true)(h:CallOK P E f ps rs ali a rh bh):CallOK P E f ps rs false a rh bh:=by
 intro w z g Bs svs vs G Y F hv;refine Ret.mono (h w z g Bs svs vs G Y F hv) λv w' ⟨z',g',svr,Z,_,h3,J,h5,j⟩=>⟨z,g',svr,Fz.Le.refl z,(λ_=>rfl),h3,J,?_,?_⟩
 .exact oG_ (z:=z') (g:=g') rfl h5 λvs C=>lX_ J J C (λi l _ D=>D) (.inr hr)
 .have key:∀i o,upH (λ_=>none) (cY_ E rs rh (ao_ E ps)++aY_ E ps (dJ_ E ps a bh) 0 (ao_ E ps+cH_ E rs)) i=some o->Plain E (λ_=>True) o/\jg_ E o:=λi o e=>by
   rcases qF.1 (iq_ e)with q|q
   .obtain⟨p,U,O⟩:=oE_ hr i _ q;obtain⟨p',M,u,_⟩:=fv_ i _ q;obtain rfl:=qSj U;obtain rfl:=qSj M;exact⟨u _,O⟩
   .obtain⟨p,U,O⟩:=c4_ hp i _ q;obtain⟨p',M,u,_⟩:=cn_ i _ q;obtain rfl:=qSj U;obtain rfl:=qSj M;refine⟨?_,O⟩;cases o with
    | box T cs =>
     intro c hc;have:=u c hc;cases c<;>first|trivial|exact this.elim
    | _=>exact u
  refine⟨j.chg,λi o e => ?_,j.own,j.apart,λk s => ?_,λk s => .inl s,λi o k e s hz=>j.fza i o k e s (Z k hz).1,Y.gl⟩
  .obtain⟨y,x⟩:=key i o e;exact(ObjR.move y (λ_ _ _ D=>D) (.inr x) rfl (j.hold i o e)).1
  .obtain⟨y,x⟩:=Z k s;have V:=j.fz k y;exact⟨V.1,V.2.trans x⟩
def ag_(E:TE)(ps:tL Pm)(rs:Rs)(ali:tV)(f:PA E ps->tO (Tp E.S (rs.ts++ba_ ps))):Con E:=⟨ps,rs,ali,λ_ a k=>(f a).bind λy=>k (hfst rs.ts (ba_ ps) (b6_ _ y)) (hsnd rs.ts (ba_ ps) (b6_ _ y)),none⟩
theorem ab_(q:∀p∈eqs,bd_ P E p.1 p.2)(x:tab.OK P E){fid:FuncId}{fn:Func}(C:P.funcs[fid]? = some fn){ps:tL Pm}{rs:Rs}{ali:tV}(j:(ali||(iJ_ E rs&&fc_ E ps))=true){pl:Pl}{f:PA E ps->tO (Tp E.S (rs.ts++ba_ ps))}
  (h:∀a,f a=gI_ P E eqs tab fn ps rs pl a):(ag_ E ps rs ali f).OK P E fid:=by
 intro R a k r hr;obtain⟨y,u,D⟩:=bind_some (show(f a).bind (λy=>k (hfst rs.ts (ba_ ps) (b6_ _ y)) (hsnd rs.ts (ba_ ps) (b6_ _ y)))=some r from hr);rw[h a]at u;have s:=evFun_ok q x C u;refine⟨_,_,D,?_⟩;cases ali with
 | true=>exact s
 | false =>
  simp only[zX,qAn]at j;exact s.flat j.1 j.2
def idsC:tL (SC E)->tL Nat | []=>[] | .own id::cs=>id::idsC cs | .ptr id _::cs=>id::idsC cs | .pre id _::cs=>id::idsC cs | .suf id _::cs=>id::idsC cs | .mp id::cs=>id::idsC cs | .clo _ ids::cs=>ids++idsC cs|_::cs=>idsC cs
def idsX:tL (V1 E)->tL Nat | []=>[]|x::xs=>idsC x.cs++idsX xs
def mZ_(H:Nat->tO (Obj E)):Nat->tL Nat->tL Nat
 | 0,l=>l
 | d+1,l=>l++mZ_ H d (l.flatMap λi=>match H i with
  | some (.box _ cs)=>idsC cs
  | _=>[])
def onlyH(l:tL Nat)(H:Nat->tO (Obj E)):Nat->tO (Obj E):=λi=>match ay_ i l with|true=>H i|false=>none
abbrev EndI(E:TE):=tL (V1 E)×(Nat->tO (Obj E))×tL Nat×Nat
def resI(P:tT)(E:TE)(vs:tL ResultVar)(b:Ba E)(s:St E):tO (EndI E):=match resXs E P b s vs with|some xs=>some (xs,s.H b,s.heap.map (·.1),s.nx)|none=>none
def chsI(l:tL Nat)(H:Nat->tO (Obj E)):Chs E:=l.map λi=>(i,H i)
def finI(E:TE)(cand:tL Nat){R:Type}(k:tO (SV E)->Chs E->tO R)(y:EndI E):tO R:=k (some (oneV E y.1)) ((y.2.2.2+200,none)::chsI (cand++y.2.2.1) y.2.1)
noncomputable def inlF(P:tT)(E:TE)(eqs:tL (Nat×Nat))(tab:Tab E)(fn:Func)(pl:Pl):InlF E:=λH nx xs R k=>match fn.body with
 | none=>none
 | some c=>cL_ (Nat.ble xs.length fn.ntmps)<|evCode P E eqs tab fn.ntmps (EndI E) (resI P E fn.results.toList) c pl R ⟨λ_=>none,onlyH (mZ_ H 3 (idsX xs)) H,nx⟩ ⟨slotsOf 0 xs,none,[],none,nx⟩ (λex s=>match(match ex with
    | none=>true
    | some i=>Nat.beq i 0)with
   | true=>match resI P E fn.results.toList ⟨λ_=>none,onlyH (mZ_ H 3 (idsX xs)) H,nx⟩ s with
    | some y=>finI E (mZ_ H 3 (idsX xs)) k y
    | none=>none
   | false=>none) (finI E (mZ_ H 3 (idsX xs)) k)
theorem chsI_look{H H':Nat->tO (Obj E)}{i:Nat}:∀{l:tL Nat},upH H (chsI l H') i=match ay_ i l with
  | true=>H' i
  | false=>H i
 | []=>rfl
 | j::l=>by
  simp only[chsI,zH,upH,ay_];cases f:Nat.beq i j with
  | true =>
   obtain rfl:=qNb f;rfl
  | false=>exact chsI_look
theorem kN_{l:tL Nat}{H:Nat->tO (Obj E)}{i:Nat}{o:Obj E}(h:onlyH l H i=some o):i∈l/\H i=some o:=by
 unfold onlyH at h;split at h
 .rename_i f;exact⟨memN_true.1 f,h⟩
 .cases h
theorem ff_(ZS:∀p∈eqs,bd_ P E p.1 p.2)(ht:tab.OK P E){f:FuncId}{fn:Func}(hf:P.funcs[f]? = some fn){pl:Pl}:kF_ P E f (inlF P E eqs tab fn pl):=by
 intro z g nx H xs vs R k r Bs F0 w0 w ZZ hH hv h;unfold inlF at h;cases hb:fn.body with
 | none=>rw[hb]at h;cases h
 | some c =>
  rw[hb]at h;simp only at h;obtain⟨Z,h⟩:=bN_ h;generalize ZR:mZ_ H 3 (idsX xs)=cand at h
  -- the memory that is known, seen from ZP
  let B:tL Nat:=(cand.map (blk (onlyH cand H) g)).flatten
  have hB:∀i p k,onlyH cand H i=some p->fpO g i p k->k∈B:=λi p k e U=>jL.2 ⟨_,jJ.2 ⟨i,(kN_ e).1,rfl⟩,mem_blk.2 ⟨p,e,U⟩⟩
  have ZQ:∀k,k∈B->∃i p,i∈cand/\H i=some p/\fpO g i p k:=λk U=>by
   obtain⟨_,i,p,_,h5,h6⟩:=jf_ U;exact⟨i,p,(kN_ h5).1,(kN_ h5).2,h6⟩
  have hp:=hH.part (λ_ _ e=>(kN_ e).2) hB
  -- what is to be shown of the end
  let Q:EndI E->tW->tS->Prop:=λy v w'=>∃z2 O,z.Le z2/\g.Le O/\Fresh O y.2.2.2/\RV P E z2 O (oneV E y.1) v/\HR P E B z.F w w' z2 O y.2.1
  have M:∀(b:Ba E) (s:St E) (act:Act) (w':tS) (y:EndI E),Rel P E B ⟨z,g,nx⟩ w fn.ntmps (s.L b) (s.H b) s.nx act w'->resI P E fn.results.toList b s=some y ->
    act.defers=[]/\∃v,(results fn act.tmps).run P w' = .ok v w'/\Q y v w':=by
   intro b s act w' y hR q;obtain⟨z1,g1,hE,ZX,ZT,ZW,ZU⟩:=hR;unfold resI at q;split at q
   .rename_i ys ZV;obtain rfl:=qSj q;obtain⟨us,G,D⟩:=qs_ hE ZX ZV;exact⟨hE.defers,_,tuple_out rfl G,z1,g1,ZW,ZU,ZT,oneV_ok D,ZX⟩
   .cases q
  have J:∀(y:EndI E) (v:tW) (w':tS),finI E cand k y=some r->Q y v w'->∃s u z2 O,k (some s) u=some r/\z.Le z2/\g.Le O/\Fresh O (nxU nx u)/\RV P E z2 O s v/\HR P E Bs F0 w0 w' z2 O (upH H u):=by
   intro y v w' q ⟨z2,O,G,D,Y,h4,h5⟩;refine⟨_,_,z2,O,q,G,D,λi hi=>Y i ?_,h4,?_⟩
   .simp only[nxU]at hi;split at hi<;>rename_i hb
    .omega
    .have:¬(nx+1+((chsI (cand++y.2.2.1) y.2.1).length+1)<=y.2.2.2+200+1):=λZ=>by
      rw[jQ Z]at hb;cases hb
     omega
   refine hH.back (I:=cand) (s:=λj i=>j=i) h5 (λk U=>ZQ k U) D (λj p hj => ?_) (λj j' i V h8=>V.trans h8.symm) (λj i p V h8=>by subst V;exact⟨h5.hold _ _ h8,λ_=>Iff.rfl⟩) G h5.fz λk U => ?_
   .simp only[upH]at hj;split at hj
    .cases hj
    .rw[chsI_look]at hj;split at hj
     .exact .inl ⟨j,rfl,hj⟩
     .rename_i hm;refine .inr ⟨λhc => ?_,hj⟩;rw[memN_true.2 (qF.2 (.inl hc))]at hm;cases hm
   .rcases h5.fz0 k U with V|V|V
    .exact .inl V
    .exact .inr ⟨.inl V,U⟩
    .exact .inr ⟨.inr V,U⟩
  refine enter hf hb rfl (by rw[jA,←hv.len];exact Z) λact hE => ?_
  refine oQ_ (Bs:=B) (F0:=⟨z,g,nx⟩) (w0:=w) (Qr:=λy' a' w'=>a'.defers=[]/\∃v,(results fn a'.tmps).run P w' = .ok v w'/\Q y' v w') ZS ht
   (λb s a' w' y' hR q=>M b s a' w' y' hR q) c pl _ _ _ _ _ r act w _ ZZ h ?_ ?_ ?_
  .refine⟨z,g,⟨hE.size,hE.defers,λt u hu => ?_⟩,hp,ZZ,Fz.Le.refl z,Ga.Le.refl g⟩;unfold St.L at hu;simp only at hu;cases ha:aK_ t (slotsOf 0 xs)with
   | none=>rw[ha]at hu;cases hu
   | some o =>
    rw[ha]at hu;obtain⟨x,v,G,D,Y⟩:=slots_in hv 0 t o ha;subst G;obtain rfl:=qSj hu;exact⟨v,hE.get t v (by simpa using D),Y⟩
  .intro ex s' a' w' C ZY;rcases ex with _|_|i
   .simp only at C;split at C
    .rename_i y q;obtain⟨G,v,D,Y⟩:=M _ _ _ _ _ ZY q;exact⟨G,_,D,v,rfl,J y v w' C Y⟩
    .cases C
   .simp only at C;split at C
    .rename_i y q;obtain⟨G,v,D,Y⟩:=M _ _ _ _ _ ZY q;exact⟨G,_,D,v,rfl,J y v w' C Y⟩
    .cases C
   .simp only[Nat.beq]at C;cases C
  .intro y' a' w' C hq;obtain⟨G,v,D,Y⟩:=hq;exact⟨G,_,D,v,rfl,J y' v w' C Y⟩
end
section
variable{P:tT}{E:TE}
theorem iu_:∀{ps:tL Pm} {a:PA E ps} {n:Nat},kE_ ps=false->bn_ E ps a n=[]
 | [],_,_,_=>rfl
 | .l _ _::_,_,_,h=>by cases h
 | .g _ _::_,_,_,h=>by cases h
 | .mp _ _ _::_,_,_,h=>by cases h
 | .b _ _::_,_,_,h=>by cases h
 | .bm _ _ _ _::_,_,_,h=>by cases h
 | .d _::ps,a,n,h=>iu_ (ps:=ps) (a:=a.2) (n:=n) h
 | .p _::ps,a,n,h=>iu_ (ps:=ps) (a:=a.2) (n:=n) h
 | .f1 _ _::ps,a,n,h=>iu_ (ps:=ps) (a:=a.2) (n:=n) h
 | .f2 _ _ _::ps,a,n,h=>iu_ (ps:=ps) (a:=a.2) (n:=n) h
theorem kc_:∀{ps:tL Pm} {a:PA E ps} {n k:Nat},kE_ ps=false->aY_ E ps a n k=[]
 | [],_,_,_,_=>rfl
 | .l _ _::_,_,_,_,h=>by cases h
 | .g _ _::_,_,_,_,h=>by cases h
 | .mp _ _ _::_,_,_,_,h=>by cases h
 | .b _ _::_,_,_,_,h=>by cases h
 | .bm _ _ _ _::_,_,_,_,h=>by cases h
 | .d _::ps,a,n,k,h=>kc_ (ps:=ps) (a:=a.2) (n:=n) (k:=k) h
 | .p _::ps,a,n,k,h=>kc_ (ps:=ps) (a:=a.2) (n:=n) (k:=k) h
 | .f1 _ _::ps,a,n,k,h=>kc_ (ps:=ps) (a:=a.2) (n:=n) (k:=k) h
 | .f2 _ _ _::ps,a,n,k,h=>kc_ (ps:=ps) (a:=a.2) (n:=n) (k:=k) h
theorem oR_{f:FuncId}{ps:tL Pm}{r:Ty}{a:PA E ps}{y:Den E.S r}{bh:HL E.S (ba_ ps)}(hr:r.flatB=true)(x:kE_ ps=false){svs0:tL (V1 E)}{s:tL tW}{v:tW}(O:b0_ E ps a 0=some svs0)(M:encVs svs0=some s)(F:(V1.one (.dt r y):V1 E).enc=some v)
  (h:∀w z,z.In w->Glo E z->Ret P f s.toArray w λu w'=>u=v/\Ext w w'):CallOK P E f ps [(r,[])] false a (y,()) bh:=by
 intro w z g Bs svs vs j q J p;rw[O]at j;obtain rfl:=qSj j;obtain rfl:=(ly_ M).1 p;refine(h w z q.fz q.gl).mono λu w' ⟨G,D⟩ => ?_
 subst G;refine⟨z,g,[.one (.dt r y)],Fz.Le.refl z,λ_=>rfl,Ga.Le.refl g,?_,(show R1 P E z g (.one (.dt r y)) u from(V1.enc_ok F).2 rfl),?_⟩
 .cases r with
  | int k=>rfl
  | bool=>rfl
  | str=>rfl
  | _=>cases hr
 .have C:=q.ext D;rw[iu_ x]at C;rw[kc_ x];have U:cY_ E [(r,([]:Mk))] (y,()) (ao_ E ps)=[]:=by
   cases r with
   | int k=>rfl
   | bool=>rfl
   | str=>rfl
   | _=>cases hr
  rw[U];exact C
theorem mx_{f:FuncId}{ps:tL Pm}{r:Ty}{a:PA E ps}{y:Den E.S r}{bh:HL E.S (ba_ ps)}(hr:r.flatB=true)(q:kE_ ps=false){svs0:tL (V1 E)}{j:tL tW}{v:tW}(x:b0_ E ps a 0=some svs0)(s:encVs svs0=some j)(p:(V1.one (.dt r y):V1 E).enc=some v)
  (h:∀w,Ret P f j.toArray w λu w'=>u=v/\Ext w w'):CallOK P E f ps [(r,[])] false a (y,()) bh :=
 oR_ hr q x s p λw _ _ _=>h w
theorem gL_{f:FuncId}{ps:tL Pm}{rs:Rs}{ali:tV}{F:PA E ps->tO (Tp E.S (rs.ts++ba_ ps))}(h:∀a,F a=none):(ag_ E ps rs ali F).OK P E f:=λR a k r hr=>by
 have:(F a).bind (λy=>k (hfst rs.ts (ba_ ps) (b6_ _ y)) (hsnd rs.ts (ba_ ps) (b6_ _ y)))=some r:=hr;rw[h a]at this;cases this
def dX_:Tab E:=λ_=>none
theorem ac_:(dX_:Tab E).OK P E:=λ_ _ h=>by cases h
def tb(f:Nat)(C:Con E)(r:Tab E):Tab E:=λn=>match Nat.beq n f with|true=>some C|false=>r n
theorem aa_{f:Nat}{C:Con E}{r:Tab E}(h:Con.OK P E f C/\c3_ P f=true)(hr:r.OK P E)(q:C.I=none:=by rfl):(tb f C r).OK P E:=λn D j=>by
 unfold tb at j;split at j
 .rename_i p;obtain rfl:=qNb p;obtain rfl:=qSj j;exact⟨h.1,h.2,λI e=>by rw[q]at e;cases e⟩
 .exact hr n D j
def inlC(I:InlF E):Con E:=⟨[.b 0 .bool],[],true,λ_ _ _=>none,some I⟩
def ti(f:Nat)(I:InlF E)(r:Tab E):Tab E:=tb f (inlC I) r
theorem cW_{f:Nat}{I:InlF E}{r:Tab E}(h:kF_ P E f I/\c3_ P f=true)(hr:r.OK P E):(ti f I r).OK P E:=λn D j=>by
 unfold ti tb at j;split at j
 .rename_i p;obtain rfl:=qNb p;obtain rfl:=qSj j;refine⟨(λR a k r hr=>nomatch hr),h.2,λJ e=>⟨rfl,?_⟩⟩;obtain rfl:=qSj e;exact h.1
 .exact hr n D j
end
open Go.ChangeShapes Go.WideShapes Go.Deep
def InK(k:IntKind)(n:Int):Prop:=k.min<=n/\n<=k.max
abbrev I64(n:Int):Prop := -9223372036854775808<=n/\n<=9223372036854775807
end Rt
end Go
