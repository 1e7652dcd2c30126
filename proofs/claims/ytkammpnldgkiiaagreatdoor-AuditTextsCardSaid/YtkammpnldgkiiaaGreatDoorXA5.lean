/-
 What the statements of this seat hang on,part 5: St Sn Open So.
-/
import Derived.Test.YtkammpnldgkiiaaGreatDoorXA4
import Derived.Deep.Slices
import Derived.ChangeSame
import Derived.ProofKit
import Derived.OpenShut
namespace Go
namespace Rt
open Go.RowKit
section
variable{P:Program}{E:TE}{eqs:List (Nat×Nat)}{tab:Tab E}
def idsC:List (SC E)->List Nat | []=>[] | .own id::cs=>id::idsC cs | .ptr id _::cs=>id::idsC cs | .pre id _::cs=>id::idsC cs | .suf id _::cs=>id::idsC cs | .mp id::cs=>id::idsC cs | .clo _ ids::cs=>ids++idsC cs|_::cs=>idsC cs
def idsX:List (V1 E)->List Nat | []=>[]|x::xs=>idsC x.cs++idsX xs
def hQ_(H:Nat->Option (Obj E)):Nat->List Nat->List Nat
 | 0,l=>l
 | d+1,l=>l++hQ_ H d (l.flatMap λi=>match H i with
  | some (.box _ cs)=>idsC cs
  | _=>[])
def onlyH(l:List Nat)(H:Nat->Option (Obj E)):Nat->Option (Obj E):=λi=>match al_ i l with|true=>H i|false=>none
abbrev EndI(E:TE):=List (V1 E)×(Nat->Option (Obj E))×List Nat×Nat
def resI(P:Program)(E:TE)(vs:List ResultVar)(b:Ba E)(s:St E):Option (EndI E):=match resXs E P b s vs with|some xs=>some (xs,s.H b,s.heap.map (·.1),s.nx)|none=>none
def chsI(l:List Nat)(H:Nat->Option (Obj E)):Chs E:=l.map λi=>(i,H i)
def finI(E:TE)(cand:List Nat){R:Type}(k:Option (SV E)->Chs E->Option R)(y:EndI E):Option R:=k (some (oneV E y.1)) ((y.2.2.2+200,none)::chsI (cand++y.2.2.1) y.2.1)
noncomputable def inlF(P:Program)(E:TE)(eqs:List (Nat×Nat))(tab:Tab E)(fn:Func)(pl:Pl):InlF E:=λH nx xs R k=>match fn.body with
 | none=>none
 | some c=>cg_ (Nat.ble xs.length fn.ntmps)<|evCode P E eqs tab fn.ntmps (EndI E) (resI P E fn.results.toList) c pl R ⟨λ_=>none,onlyH (hQ_ H 3 (idsX xs)) H,nx⟩ ⟨slotsOf 0 xs,none,[],none,nx⟩ (λex s=>match(match ex with
    | none=>true
    | some i=>Nat.beq i 0)with
   | true=>match resI P E fn.results.toList ⟨λ_=>none,onlyH (hQ_ H 3 (idsX xs)) H,nx⟩ s with
    | some y=>finI E (hQ_ H 3 (idsX xs)) k y
    | none=>none
   | false=>none) (finI E (hQ_ H 3 (idsX xs)) k)
theorem chsI_look{H H':Nat->Option (Obj E)}{i:Nat}:∀{l:List Nat},upH H (chsI l H') i=match al_ i l with
  | true=>H' i
  | false=>H i
 | []=>rfl
 | j::l=>by
  simp only[chsI,List.map_cons,upH,al_];cases hb:Nat.beq i j with
  | true =>
   obtain rfl:=qNb hb;rfl
  | false=>exact chsI_look
theorem fO_{l:List Nat}{H:Nat->Option (Obj E)}{i:Nat}{o:Obj E}(h:onlyH l H i=some o):i∈l/\H i=some o:=by
 unfold onlyH at h;split at h
 .rename_i hm;exact⟨memN_true.1 hm,h⟩
 .cases h
theorem hR_(heq:∀p∈eqs,ap_ P E p.1 p.2)(ht:tab.OK P E){f:FuncId}{fn:Func}(hf:P.funcs[f]? = some fn){pl:Pl}:InlOK P E f (inlF P E eqs tab fn pl):=by
 intro z g nx H xs vs R k r Bs F0 w0 w hnx hH hv h;unfold inlF at h;cases hb:fn.body with
 | none=>rw[hb]at h;cases h
 | some c =>
  rw[hb]at h;simp only at h;obtain⟨hle,h⟩:=br_ h;generalize hcand:hQ_ H 3 (idsX xs)=cand at h
  -- the memory that is known, seen from here
  let B:List Nat:=(cand.map (blk (onlyH cand H) g)).flatten
  have hB:∀i p k,onlyH cand H i=some p->fpO g i p k->k∈B:=λi p k e hk=>List.mem_flatten.2 ⟨_,List.mem_map.2 ⟨i,(fO_ e).1,rfl⟩,mem_blk.2 ⟨p,e,hk⟩⟩
  have hB':∀k,k∈B->∃i p,i∈cand/\H i=some p/\fpO g i p k:=λk hk=>by
   obtain⟨_,i,p,_,h5,h6⟩:=eK_ hk;exact⟨i,p,(fO_ h5).1,(fO_ h5).2,h6⟩
  have hp:=hH.part (λ_ _ e=>(fO_ e).2) hB
  -- what is to be shown of the end
  let Q:EndI E->Value->World->Prop:=λy v w'=>∃z2 g2,z.Le z2/\g.Le g2/\Fresh g2 y.2.2.2/\RV P E z2 g2 (oneV E y.1) v/\HR P E B z.F w w' z2 g2 y.2.1
  have hend:∀(b:Ba E) (s:St E) (act:Act) (w':World) (y:EndI E),Rel P E B ⟨z,g,nx⟩ w fn.ntmps (s.L b) (s.H b) s.nx act w'->resI P E fn.results.toList b s=some y ->
    act.defers=[]/\∃v,(results fn act.tmps).run P w' = .ok v w'/\Q y v w':=by
   intro b s act w' y hR hy;obtain⟨z1,g1,hE,hH1,hfz,hz1,hg1⟩:=hR;unfold resI at hy;split at hy
   .rename_i ys hxs;obtain rfl:=qSj hy;obtain⟨us,h1,h2⟩:=lY_ hE hH1 hxs;exact⟨hE.defers,_,tuple_out rfl h1,z1,g1,hz1,hg1,hfz,oneV_ok h2,hH1⟩
   .cases hy
  have hfin:∀(y:EndI E) (v:Value) (w':World),finI E cand k y=some r->Q y v w'->∃s u z2 g2,k (some s) u=some r/\z.Le z2/\g.Le g2/\Fresh g2 (nxU nx u)/\RV P E z2 g2 s v/\HR P E Bs F0 w0 w' z2 g2 (upH H u):=by
   intro y v w' hy ⟨z2,g2,h1,h2,h3,h4,h5⟩;refine⟨_,_,z2,g2,hy,h1,h2,λi hi=>h3 i ?_,h4,?_⟩
   .simp only[nxU]at hi;split at hi<;>rename_i hb
    .omega
    .have:¬(nx+1+((chsI (cand++y.2.2.1) y.2.1).length+1)<=y.2.2.2+200+1):=λhle=>by
      rw[Nat.ble_eq_true_of_le hle]at hb;cases hb
     omega
   refine hH.back (I:=cand) (s:=λj i=>j=i) h5 (λk hk=>hB' k hk) h2 (λj p hj => ?_) (λj j' i h7 h8=>h7.trans h8.symm) (λj i p h7 h8=>by subst h7;exact⟨h5.hold _ _ h8,λ_=>Iff.rfl⟩) h1 h5.fz λk hk => ?_
   .simp only[upH]at hj;split at hj
    .cases hj
    .rw[chsI_look]at hj;split at hj
     .exact .inl ⟨j,rfl,hj⟩
     .rename_i hm;refine .inr ⟨λhc => ?_,hj⟩;rw[memN_true.2 (List.mem_append.2 (.inl hc))]at hm;cases hm
   .rcases h5.fz0 k hk with h7|h7|h7
    .exact .inl h7
    .exact .inr ⟨.inl h7,hk⟩
    .exact .inr ⟨.inr h7,hk⟩
  refine enter hf hb rfl (by rw[List.size_toArray,←hv.len];exact hle) λact hE => ?_
  refine evCode_ok (Bs:=B) (F0:=⟨z,g,nx⟩) (w0:=w) (Qr:=λy' a' w'=>a'.defers=[]/\∃v,(results fn a'.tmps).run P w' = .ok v w'/\Q y' v w') heq ht
   (λb s a' w' y' hR hy=>hend b s a' w' y' hR hy) c pl _ _ _ _ _ r act w _ hnx h ?_ ?_ ?_
  .refine⟨z,g,⟨hE.size,hE.defers,λt u hu => ?_⟩,hp,hnx,Fz.Le.refl z,Ga.Le.refl g⟩;unfold St.L at hu;simp only at hu;cases ha:an_ t (slotsOf 0 xs)with
   | none=>rw[ha]at hu;cases hu
   | some o =>
    rw[ha]at hu;obtain⟨x,v,h1,h2,h3⟩:=slots_in hv 0 t o ha;subst h1;obtain rfl:=qSj hu;exact⟨v,hE.get t v (by simpa using h2),h3⟩
  .intro ex s' a' w' he hR';rcases ex with _|_|i
   .simp only at he;split at he
    .rename_i y hy;obtain⟨h1,v,h2,h3⟩:=hend _ _ _ _ _ hR' hy;exact⟨h1,_,h2,v,rfl,hfin y v w' he h3⟩
    .cases he
   .simp only at he;split at he
    .rename_i y hy;obtain⟨h1,v,h2,h3⟩:=hend _ _ _ _ _ hR' hy;exact⟨h1,_,h2,v,rfl,hfin y v w' he h3⟩
    .cases he
   .simp only[Nat.beq]at he;cases he
  .intro y' a' w' he hq;obtain⟨h1,v,h2,h3⟩:=hq;exact⟨h1,_,h2,v,rfl,hfin y' v w' he h3⟩
end
section
variable{P:Program}{E:TE}
theorem ed_:∀{ps:List Pm} {a:PA E ps} {n:Nat},fG_ ps=false->ay_ E ps a n=[]
 | [],_,_,_=>rfl
 | .l _ _::_,_,_,h=>by cases h
 | .g _ _::_,_,_,h=>by cases h
 | .mp _ _ _::_,_,_,h=>by cases h
 | .b _ _::_,_,_,h=>by cases h
 | .bm _ _ _ _::_,_,_,h=>by cases h
 | .d _::ps,a,n,h=>ed_ (ps:=ps) (a:=a.2) (n:=n) h
 | .p _::ps,a,n,h=>ed_ (ps:=ps) (a:=a.2) (n:=n) h
 | .f1 _ _::ps,a,n,h=>ed_ (ps:=ps) (a:=a.2) (n:=n) h
 | .f2 _ _ _::ps,a,n,h=>ed_ (ps:=ps) (a:=a.2) (n:=n) h
theorem fg_:∀{ps:List Pm} {a:PA E ps} {n k:Nat},fG_ ps=false->ar_ E ps a n k=[]
 | [],_,_,_,_=>rfl
 | .l _ _::_,_,_,_,h=>by cases h
 | .g _ _::_,_,_,_,h=>by cases h
 | .mp _ _ _::_,_,_,_,h=>by cases h
 | .b _ _::_,_,_,_,h=>by cases h
 | .bm _ _ _ _::_,_,_,_,h=>by cases h
 | .d _::ps,a,n,k,h=>fg_ (ps:=ps) (a:=a.2) (n:=n) (k:=k) h
 | .p _::ps,a,n,k,h=>fg_ (ps:=ps) (a:=a.2) (n:=n) (k:=k) h
 | .f1 _ _::ps,a,n,k,h=>fg_ (ps:=ps) (a:=a.2) (n:=n) (k:=k) h
 | .f2 _ _ _::ps,a,n,k,h=>fg_ (ps:=ps) (a:=a.2) (n:=n) (k:=k) h
theorem jY_{f:FuncId}{ps:List Pm}{r:Ty}{a:PA E ps}{y:Den E.S r}{bh:HL E.S (aq_ ps)}(hr:r.flatB=true)(hl:fG_ ps=false){svs0:List (V1 E)}{us:List Value}{v:Value}(ha:aI_ E ps a 0=some svs0)(he:encVs svs0=some us)(hv:(V1.one (.dt r y):V1 E).enc=some v)
  (h:∀w z,z.In w->Glo E z->Ret P f us.toArray w λu w'=>u=v/\Ext w w'):CallOK P E f ps [(r,[])] false a (y,()) bh:=by
 intro w z g Bs svs vs hav hH hfr hvs;rw[ha]at hav;obtain rfl:=qSj hav;obtain rfl:=(f8_ he).1 hvs;refine(h w z hH.fz hH.gl).mono λu w' ⟨hu,hx⟩ => ?_
 subst hu;refine⟨z,g,[.one (.dt r y)],Fz.Le.refl z,λ_=>rfl,Ga.Le.refl g,?_,(show R1 P E z g (.one (.dt r y)) u from(V1.enc_ok hv).2 rfl),?_⟩
 .cases r with
  | int k=>rfl
  | bool=>rfl
  | str=>rfl
  | _=>cases hr
 .have h1:=hH.ext hx;rw[ed_ hl]at h1;rw[fg_ hl];have h2:ba_ E [(r,([]:Mk))] (y,()) (ai_ E ps)=[]:=by
   cases r with
   | int k=>rfl
   | bool=>rfl
   | str=>rfl
   | _=>cases hr
  rw[h2];exact h1
theorem hj_{f:FuncId}{ps:List Pm}{r:Ty}{a:PA E ps}{y:Den E.S r}{bh:HL E.S (aq_ ps)}(hr:r.flatB=true)(hl:fG_ ps=false){svs0:List (V1 E)}{us:List Value}{v:Value}(ha:aI_ E ps a 0=some svs0)(he:encVs svs0=some us)(hv:(V1.one (.dt r y):V1 E).enc=some v)
  (h:∀w,Ret P f us.toArray w λu w'=>u=v/\Ext w w'):CallOK P E f ps [(r,[])] false a (y,()) bh :=
 jY_ hr hl ha he hv λw _ _ _=>h w
theorem m0_{f:FuncId}{ps:List Pm}{rs:Rs}{ali:Bool}{F:PA E ps->Option (Tp E.S (rs.ts++aq_ ps))}(h:∀a,F a=none):(ae_ E ps rs ali F).OK P E f:=λR a k r hr=>by
 have:(F a).bind (λy=>k (hfst rs.ts (aq_ ps) (aK_ _ y)) (hsnd rs.ts (aq_ ps) (aK_ _ y)))=some r:=hr;rw[h a]at this;cases this
def tnil:Tab E:=λ_=>none
theorem ab_:(tnil:Tab E).OK P E:=λ_ _ h=>by cases h
def tb(f:Nat)(C:Con E)(r:Tab E):Tab E:=λn=>match Nat.beq n f with|true=>some C|false=>r n
theorem ac_{f:Nat}{C:Con E}{r:Tab E}(h:Con.OK P E f C/\bo_ P f=true)(hr:r.OK P E)(hI:C.I=none:=by rfl):(tb f C r).OK P E:=λn D hD=>by
 unfold tb at hD;split at hD
 .rename_i hb;obtain rfl:=qNb hb;obtain rfl:=qSj hD;exact⟨h.1,h.2,λI e=>by rw[hI]at e;cases e⟩
 .exact hr n D hD
def inlC(I:InlF E):Con E:=⟨[.b 0 .bool],[],true,λ_ _ _=>none,some I⟩
def ti(f:Nat)(I:InlF E)(r:Tab E):Tab E:=tb f (inlC I) r
theorem c5_{f:Nat}{I:InlF E}{r:Tab E}(h:InlOK P E f I/\bo_ P f=true)(hr:r.OK P E):(ti f I r).OK P E:=λn D hD=>by
 unfold ti tb at hD;split at hD
 .rename_i hb;obtain rfl:=qNb hb;obtain rfl:=qSj hD;refine⟨(λR a k r hr=>nomatch hr),h.2,λJ e=>⟨rfl,?_⟩⟩;obtain rfl:=qSj e;exact h.1
 .exact hr n D hD
end
open Go.ChangeShapes Go.WideShapes Go.Deep
def InK(k:IntKind)(n:Int):Prop:=k.min<=n/\n<=k.max
abbrev I64(n:Int):Prop := -9223372036854775808<=n/\n<=9223372036854775807
def FitL{S:Nat->Type}(f:(t:Ty)->Den S t->Prop):(ts:List Ty)->HL S ts->Prop | [],_=>True|t::ts,h=>f t h.1/\FitL f ts h.2
def FitC(E:TE):Nat->(t:Ty)->Den E.S t->Prop|_,.int k,x=>InK k x|_,.bool,_=>True|_,.str,s=>s.length<=9223372036854775807 | 0,.sl _,xs=>xs.length<=9223372036854775807|k+1,.sl e,xs=>xs.length<=9223372036854775807/\∀x∈xs,FitL (FitC E k) (E.flat e) (E.fl e x)|_,.st _,_=>True
def Fit(E:TE)(t:Ty)(x:Den E.S t):Prop:=∀k,FitL (FitC E k) (E.flat t) (E.fl t x)
theorem FitL.app{S:Nat->Type}{f:(t:Ty)->Den S t->Prop}:∀{ts us:List Ty} {h:HL S ts} {k:HL S us},FitL f ts h->FitL f us k->FitL f (ts++us) (hap h k)
 | [],_,_,_,_,h2=>h2
 | _::_,_,_,_,h1,h2=>⟨h1.1,h1.2.app h2⟩
section
variable{E:TE}{z:Fz}
theorem RD.app:∀{ts us:List Ty} {h:HL E.S ts} {k:HL E.S us} {vs ws:List Value},RD E z ts h vs->RD E z us k ws->RD E z (ts++us) (hap h k) (vs++ws)
 | [],_,_,_,_,_,h1,h2=>by rw[h1.nil_inv];exact h2
 | t::ts,us,h,k,vs,ws,h1,h2=>by
  obtain⟨v,vs',rfl,h3,h4⟩:=h1.uncons;exact RD.cons h3 (h4.app h2)
def prefB(ts us:List Ty):Bool:=decide (us.take ts.length=ts)
theorem prefB_eq{ts us:List Ty}(h:prefB ts us=true):us=ts++us.drop ts.length:=by
 unfold prefB at h;have h1:=of_decide_eq_true h;have h2:=List.take_append_drop ts.length us;rw[h1]at h2;exact h2.symm
def gf_(P:Program)(E:TE)(f:TypeId->Ty->Bool)(total:Nat):Nat->List Field->List Ty->Bool
 | off,[],ts=>Nat.beq off total&&ts.isEmpty
 | off,g::gs,ts=>match E.ty g.type with
  | some t=>Nat.beq g.offset off&&(f g.type t&&(prefB (E.flat t) ts&&gf_ P E f total (off+P.cellsOf g.type) gs (ts.drop (E.flat t).length)))
  | none=>false
def arrTy(E:TE)(t:Ty):Nat->List Ty->Bool | 0,ts=>ts.isEmpty|n+1,ts=>prefB (E.flat t) ts&&arrTy E t n (ts.drop (E.flat t).length)
def tyOK(P:Program)(E:TE):Nat->TypeId->Ty->Bool
 | 0,_,_=>false
 | n+1,T,t=>match P.underlying T,t with
  | some (.int k),.int k'=>decide (k=k')
  | some .bool,.bool=>true
  | some .string,.str=>true
  | some (.slice e),.sl t=>tyOK P E n e t&&Nat.beq (P.cellsOf e) (E.size t)
  | some (.struct fs),.st m=>gf_ P E (tyOK P E n) (P.cellsOf T) 0 fs.toList (E.cs m)
  | some (.array c e),.st m=>match E.ty e with
   | some t=>tyOK P E n e t&&(Nat.beq (c*P.cellsOf e) (P.cellsOf T)&&arrTy E t c (E.cs m))
   | none=>false
  | _,_=>false
end
section
variable{H:Type}{enc:TypeId×Value->H}{P:Program}{E:TE}{w:World}{spare:Nat->Bool}{held:Bool}
def cr_(w:World):Fz:=⟨λk=>k<w.heap.size,w⟩
def Opens(E:TE)(w:World)(ts:List Ty)(cs:List Value):Prop:=∃h:HL E.S ts,RD E (cr_ w) ts h cs/\∀k,FitL (FitC E k) ts h
theorem Opens.app{ts us:List Ty}{cs ds:List Value}(h1:Opens E w ts cs)(h2:Opens E w us ds):Opens E w (ts++us) (cs++ds):=by
 obtain⟨h,h3,h4⟩:=h1;obtain⟨k,h5,h6⟩:=h2;exact⟨hap h k,h3.app h5,λn=>(h4 n).app (h6 n)⟩
theorem j0_{f:TypeId->Ty->Bool}{total m:Nat}(hf:∀T t cs (x:DataW H×List MemPlace),f T t=true->DataW.trod enc P w 0 spare held m T cs=some x->Opens E w (E.flat t) cs){cs:List Value}(hcs:cs.length=total) :
  ∀{gs:List Field} {off:Nat} {ts:List Ty} {xs:List (DataW H×List MemPlace)},gf_ P E f total off gs ts=true->xs.length=gs.length ->
   (∀(i:Nat) (g:Field),gs[i]? = some g->DataW.trod enc P w 0 spare held m g.type ((cs.drop g.offset).take (P.cellsOf g.type))=xs[i]?)->Opens E w ts (cs.drop off)
 | [],off,ts,xs,h,_,_=>by
  simp only[gf_,qAn]at h;obtain rfl:off=total:=qNb h.1;obtain rfl:ts=[]:=by simpa using h.2
  rw[List.drop_eq_nil_of_le (by omega)];exact⟨(),.nil,λ_=>trivial⟩
 | g::gs,off,ts,xs,h,hl,ht=>by
  simp only[gf_]at h;split at h
  .rename_i t hty;simp only[qAn]at h;obtain⟨h1,h2,h3,h4⟩:=h;obtain rfl:g.offset=off:=qNb h1;cases xs with
   | nil=>simp at hl
   | cons x xs =>
    have h0:=ht 0 g rfl;simp only[List.getElem?_cons_zero]at h0;have ha:=hf _ _ _ _ h2 h0;have hb:=j0_ hf hcs h4 (by simpa using hl) (λi g' hg=>by simpa using ht (i+1) g' (by simpa using hg));have:=ha.app hb;rw[←prefB_eq h3,←List.drop_drop,List.take_append_drop]at this;exact this
  .cases h
theorem arr_opens{c m e n:Nat}{t:Ty}{cs:List Value}(hcs:cs.length=n*c)(hf:∀i,i<n->Opens E w (E.flat t) ((cs.drop (i*c)).take c)):∀{k:Nat} {ts:List Ty},k<=n->arrTy E t k ts=true->Opens E w ts (cs.drop ((n-k)*c))
 | 0,ts,_,h=>by
  obtain rfl:ts=[]:=by simpa[arrTy]using h
  rw[List.drop_eq_nil_of_le (by rw[hcs,Nat.sub_zero];exact Nat.le_refl _)];exact⟨(),.nil,λ_=>trivial⟩
 | k+1,ts,hk,h=>by
  simp only[arrTy,qAn]at h;have ha:=hf (n-(k+1)) (by omega);have hb:=arr_opens (m:=m) (e:=e) hcs hf (k:=k) (by omega) h.2;have:=ha.app hb;rw[←prefB_eq h.1]at this;have e1:(n-k)*c=(n-(k+1))*c+c:=by
   rw[show n-k=n-(k+1)+1 by omega,Nat.succ_mul]
  rw[e1,←List.drop_drop,List.take_append_drop]at this;exact this
theorem fP_:∀{n fuel:Nat} {T:TypeId} {t:Ty} {cs:List Value} {x:DataW H×List MemPlace},tyOK P E n T t=true->DataW.trod enc P w 0 spare held fuel T cs=some x->Opens E w (E.flat t) cs
 | 0,_,_,_,_,_,h,_=>by cases h
 | n + 1,fuel,T,t,cs,x,h,hd=>by
  simp only[tyOK]at h;split at h
  .rename_i k k' hu;obtain rfl:=of_decide_eq_true h;obtain⟨m,rfl,rfl,hw⟩:=DataW.trod_int hu hd;exact⟨(m,()),.int .nil,λ_=>⟨by simpa[Lit.wf,InK,FitC]using hw,trivial⟩⟩
  .rename_i hu;obtain⟨b,rfl,rfl⟩:=DataW.trod_bool hu hd;exact⟨(b,()),.bool .nil,λk=>⟨by cases k<;>trivial,trivial⟩⟩
  .rename_i hu;obtain⟨s,rfl,rfl,hs⟩:=DataW.trod_string hu hd;refine⟨(s.data.toList,()),?_,λk=>⟨?_,trivial⟩⟩
   .have:Value.string s=S s.data.toList:=by simp[S]
    rw[this];exact .str .nil
   .have e:FitC E k .str s.data.toList=(s.data.toList.length<=9223372036854775807):=by cases k<;>rfl
    show FitC E k .str s.data.toList;rw[e];have:s.data.toList.length=s.size:=by rw[Array.length_toList];rfl
    rw[this];exact hs
  .rename_i e t hu;simp only[qAn]at h;have hC:P.cellsOf e=E.size t:=qNb h.2;rcases open_slice hu hd with⟨rfl,_⟩|⟨a,len,cap,m,q,D,Pl,rfl,_,hl,hm,hmm,hx,hi⟩
   .exact⟨([],()),.sl (rows:=[]) (SlF.nil _ _ _ _) (Nat.le_refl _) (λi x r h=>by simp at h) .nil,λk=>⟨by cases k<;>simp[FitC],trivial⟩⟩
   .have hlm:len<=m:=by rw[hmm];split<;>omega
    have hc:0<E.size t:=E.size_pos t
    let row:Nat->List Value:=λi=>(w.cells? 0 (a.add (i*E.size t)) (E.size t)).getD []
    have hrow:∀i,i<len->w.cells? 0 (a.add (i*E.size t)) (E.size t)=some (row i)/\Opens E w (E.flat t) (row i):=λi hi'=>by
     obtain⟨cs',h1,h2⟩:=hi i (by omega);rw[hC]at h1;simp only[row,h1,Option.getD_some];exact⟨trivial,fP_ h.1 h2⟩
    have hxs:∀j,j<=len->∃xs:List (Den E.S t),xs.length=j/\∀i x,xs[i]? = some x->RD E (cr_ w) (E.flat t) (E.fl t x) (row i)/\∀k,FitL (FitC E k) (E.flat t) (E.fl t x):=by
     intro j
     induction j with
     | zero=>intro _;exact⟨[],rfl,λi x h=>by simp at h⟩
     | succ j ih =>
      intro hj;obtain⟨xs,h1,h2⟩:=ih (by omega);obtain⟨hh,h3,h4⟩:=(hrow j (by omega)).2;refine⟨xs++[E.ufl t hh],by simp[h1],λi x hx => ?_⟩;rw[List.getElem?_append]at hx;split at hx
      .exact h2 i x hx
      .rename_i hge;have hij:i=j:=by
        have:i-xs.length<1:=by
         rcases Nat.lt_or_ge (i-xs.length) 1 with h5|h5
         .exact h5
         .rw[List.getElem?_eq_none (by simpa using h5)]at hx;cases hx
        omega
       subst hij;rw[h1,Nat.sub_self]at hx;simp only[List.getElem?_cons_zero,qOi]at hx;subst hx;rw[E.fl_ufl];exact⟨h3,h4⟩
    obtain⟨xs,hxl,hxs⟩:=hxs len (Nat.le_refl _);have hr:∀(i:Nat) x r,xs[i]? = some x->((List.range len).map row)[i]? = some r->RD E (cr_ w) (E.flat t) (E.fl t x) r:=λi x r h1 h2=>by
     have hil:i<len:=by rw[←hxl];exact(List.getElem?_eq_some_iff.1 h1).1
     rw[List.getElem?_map,List.getElem?_range hil]at h2;simp only[Option.map_some,qOi]at h2;subst h2;exact(hxs i x h1).1
    refine⟨(xs,()),?_,λk=>⟨?_,trivial⟩⟩
    .have hs:SlF (cr_ w).F (E.size t) (some a) xs.length ((List.range len).map row) (cr_ w).w:=by
      refine⟨by simp[hxl],λhn => ?_⟩;obtain⟨b,off,spot⟩:=a;rw[hxl]at hn;have g0:=(World.cells?_some (hrow 0 hn).1).2;have hg:=g0.2 0 hc;obtain⟨c0,hc0⟩:∃c0,(row 0)[0]? = some c0:=⟨(row 0)[0]'(by rw[g0.1];exact hc),List.getElem?_eq_getElem _⟩;rw[hc0]at hg;have hspot:spot=none:=by simpa[Addr.add]using World.cell?_spot hg
      subst hspot;refine⟨b,off,rfl,?_,λi r hr => ?_⟩
      .have hb:((Addr.add ⟨b,off,none⟩ (0*E.size t)).add 0).block=b:=by rw[Addr.add_mk,Addr.add_mk]
       unfold World.cell? at hg;split at hg
       .rename_i heap _ _ hh;rw[hb]at hh;show b<w.heap.size;rcases Nat.lt_or_ge b w.heap.size with h'|h'
        .exact h'
        .rw[Array.getElem?_eq_none h']at hh;cases hh
       .cases hg
      .rw[List.getElem?_map]at hr;by_cases hi':i<len
       .rw[List.getElem?_range hi']at hr;simp only[Option.map_some,qOi]at hr;subst hr;obtain⟨_,h2,h3⟩:=World.cells?_some (hrow i hi').1;refine⟨h2,λj u hu => ?_⟩;have hj:j<E.size t:=by rw[←h2];exact(List.getElem?_eq_some_iff.1 hu).1
        have:=h3 j hj;rw[Addr.add_mk,Addr.add_mk]at this;show w.cell? _=_;rw[this];exact hu
       .rw[List.getElem?_eq_none (by simp;omega)]at hr;cases hr
     have:=RD.sl (E:=E) (z:=cr_ w) (e:=t) (xs:=xs) (cap:=cap) (ts:=[]) (h:=()) hs (by rw[hxl];exact hl) hr .nil;rw[hxl]at this;exact this
    .have hb:xs.length<=9223372036854775807:=by unfold maxLen at hm;omega
     cases k with
     | zero=>exact hb
     | succ k =>
      refine⟨hb,λx hx => ?_⟩;obtain⟨i,hi'⟩:=List.mem_iff_getElem?.1 hx;exact(hxs i x hi').2 k
  .rename_i fs m hu;obtain⟨xs,q,_,rfl,hcl,hxl,hf⟩:=DataW.trod_struct hu hd;have:=j0_ (λT t cs x hk ht=>fP_ (n:=n) hk ht) hcl h (by simpa using hxl) (λi g hg=>hf i g (by simpa using hg));rw[List.drop_zero]at this;exact this
  .rename_i c e m hu;split at h
   .rename_i t hty;simp only[qAn]at h;obtain⟨h1,h2,h3⟩:=h;obtain⟨xs,q,_,rfl,hcl,hxl,hf⟩:=DataW.trod_array hu hd;have hlen:cs.length=c*P.cellsOf e:=by rw[hcl];exact(qNb h2).symm
    have:=arr_opens (c:=P.cellsOf e) (m:=0) (e:=0) (t:=t) hlen (λi hi=>by
     have:=hf i hi;rw[List.getElem?_eq_getElem (by omega)]at this;exact fP_ h1 this) (Nat.le_refl c) h3
    rw[Nat.sub_self,Nat.zero_mul,List.drop_zero]at this;exact this
   .cases h
  .cases h
theorem open_arg{r:Reach}{b0 n:Nat}{T:TypeId}{t:Ty}{v:Value}{d:DataW H}{ps:List MemPlace}(ht:tyOK P E n T t=true)(hv:Value.okWide P w r b0 T v)(h:DataW.Trod enc P w 0 spare held T v d ps) :
  ∃x:Den E.S t,(∃y,asV E t (E.cells t x)=some y/\∀(g:Ga),R1 P E (cr_ w) g y v)/\Fit E t x:=by
 obtain⟨fuel,hf⟩:=h;obtain⟨hh,h1,h2⟩:=fP_ ht hf;refine⟨E.ufl t hh,?_,λk=>by rw[E.fl_ufl];exact h2 k⟩;have hcells:RD E (cr_ w) (E.flat t) (E.fl t (E.ufl t hh)) v.cells.toList:=by rw[E.fl_ufl];exact h1
 have hRT:RT E (cr_ w) t (E.ufl t hh) v:=by
  cases n with
  | zero=>cases ht
  | succ n =>
   simp only[tyOK]at ht;split at ht
   .rename_i k k' hu;obtain⟨m,rfl⟩:=okWide_int hu hv;exact hcells
   .rename_i hu;obtain⟨m,rfl⟩:=okWide_bool hu hv;exact hcells
   .rename_i hu;obtain⟨m,rfl⟩:=okWide_string hu hv;exact hcells
   .rename_i e t hu;obtain⟨a,len,cap,rfl⟩:=okWide_slice hu hv;exact hcells
   .rename_i fs m hu;obtain⟨cs,rfl,_⟩:=okWide_struct hu hv;exact⟨cs.toList,by rw[Array.toArray_toList],hcells⟩
   .rename_i c e m hu;simp only[Value.okWide,hu]at hv;obtain⟨cs,rfl,_⟩:=hv;exact⟨cs.toList,by rw[Array.toArray_toList],hcells⟩
   .cases ht
 obtain⟨y,h3,h4⟩:=hK_ (P:=P) hRT (λ_ => .none);refine⟨y,h3,λg => ?_⟩;obtain⟨y',h5,h6⟩:=hK_ (P:=P) hRT g;rw[h3]at h5;obtain rfl:=qSj h5;exact h6
theorem law_of_con{f:FuncId}{ps:List Pm}{F:PA E ps->Option (Tp E.S (Rs.ts [(.bool,[])]++aq_ ps))}{ali:Bool}(hc:(ae_ E ps [(.bool,[])] ali F).OK P E f)(hl:fG_ ps=false){a:PA E ps}{y:Tp E.S (Rs.ts [(.bool,[])]++aq_ ps)}(hF:F a=some y)
  (hy:(hfst (Rs.ts [(.bool,[])]) (aq_ ps) (aK_ _ y)).1=true) {svs:List (V1 E)} (hsv:aI_ E ps a 0=some svs) {vs:List Value} (hvs:All2 (R1 P E (cr_ w) λ_=>none) svs vs) (hgl:Glo E (cr_ w)) :
  Ret P f vs.toArray w λv w'=>v = .bool true/\Below w.heap.size w w':=by
 obtain⟨rh,bh,hk,hcall⟩:=hc Bool a (λrh _=>some rh.1) true (by
  show(F a).bind _=_;rw[hF];exact congrArg some hy)
 have hin:(cr_ w).In w:=λk hk=>⟨hk,rfl⟩
 refine(hcall w (cr_ w) (λ_=>none) [] svs vs hsv (by
  show HR P E [] (cr_ w).F w w (cr_ w) (λ_=>none) (upH (λ_=>none) (ay_ E ps a 0));rw[ed_ hl];exact HR.nothing hin hgl _) (λ_ _=>rfl) hvs).mono λv w' ⟨z',g',svr,_,_,_,hres,hrv,hHR⟩ => ?_
 refine⟨?_,hHR.chg.below⟩;have hrh:rh.1=true:=qSj hk;have e:svr=[.one (.dt .bool rh.1)]:=(qSj hres).symm;subst e;rw[hrh]at hrv;exact SV.bool_ok rfl hrv
end
end Rt
end Go
