/-
 What the statements of this seat hang on,part 6: LSb K1 K2 K3 K4 K5 K6 K7 K8 K9 Num Fa0 Aa Ab Ac Ad Ae Af Ag Ah Ai Aj Ak Al Am An Ao Ap Aq Ar Ba Bb.
-/
import Derived.Test.YtbdcelleafhelaaGreatDoorWC5
import Derived.Laws.BitsLemmas
import Derived.KernelRfl
namespace Go
namespace Rt
open Go.RowKit Go.Proofs
section
variable{P:Program}{E:TE}{z:Fz}{g:Ga}{w w' w0:World}{Bs:List Nat}{F0:Nat->Prop}{H H':Nat->Option (Obj E)}
theorem HR.gone(h:HR P E Bs F0 w0 w z g H){C:Nat->Prop}(hC:∀k,C k->∃i o,H i=some o/\fpO g i o k/\H' i=none)
  (hb:Grow w w') (hk:∀k,k<w.heap.size->¬C k->w'.heap[k]? = w.heap[k]?) (hH:∀j o,H' j=some o->H j=some o):HR P E Bs F0 w0 w' z g H':=by
 have bw_:∀k,C k->w0.heap.size<=k\/k∈Bs:=λk hc=>by obtain⟨i,o,h1,h2,_⟩:=hC k hc;exact h.own i o k h1 h2
 have far:∀j o k,H' j=some o->fpO g j o k->¬C k:=λj o k e hf hc=>by
  obtain⟨i,p,h1,h2,h3⟩:=hC k hc;exact h.apart j i o p k (λej=>by rw[ej,h3]at e;cases e) (hH j o e) h1 hf h2
 have fzC:∀k,z.F k->¬C k:=λk hz hc=>by obtain⟨i,o,h1,h2,_⟩:=hC k hc;exact h.fza i o k h1 h2 hz
 refine⟨⟨h.chg.grow.trans hb,λk hk1 hn=>(hk k (Nat.lt_of_lt_of_le hk1 h.size) λhc => ?_).trans (h.chg.block k hk1 hn)⟩,λj o e => ?_,λj o k e=>h.own j o k (hH j o e),λj j' o p k hn e e'=>h.apart j j' o p k hn (hH j o e) (hH j' p e'),λk hz => ?_,h.fz0,λj o k e=>h.fza j o k (hH j o e),h.gl⟩
 .rcases bw_ k hc with h1|h1
  .omega
  .exact hn h1
 .exact(h.hold j o (hH j o e)).keep (Fz.Le.refl z) (Ga.Le.refl g) λk hfk=>hk k ((h.hold j o (hH j o e)).lt hfk) (far j o k e hfk)
 .have:=h.fz k hz;exact⟨Nat.lt_of_lt_of_le this.1 hb.size,(hk k this.1 (fzC k hz)).trans this.2⟩
end
end Rt
end Go
namespace Go.Proofs
open Go.Shelf
def Tryz.laysCC_ren:Go.Shelf.Ren:=⟨λ | 240=>104 | 276=>139|n=>n,λ | 0=>0 | 4=>4 | 9=>9 | 20=>20 | 37=>92 | 70=>91 | 72=>94 | 164=>168|n=>n,λ|n=>n⟩
theorem Tryz.laysCC:Go.Proofs.Lays.n240 Tryz.prog Tryz.laysCC_ren:={
 mixed:=by kernel_rfl
 f240:=Tryz.func104.trans (congrArg some (by kernel_rfl))
 f276:=Tryz.func139.trans (congrArg some (by kernel_rfl))
 t0:=Tryz.underlying0
 a0:=Tryz.isAgg0
 z0:=Tryz.sizeOf0
 v0:=Tryz.zeroValue0
 t4:=Tryz.underlying4
 a4:=Tryz.isAgg4
 z4:=Tryz.sizeOf4
 v4:=Tryz.zeroValue4
 t9:=Tryz.underlying9
 a9:=Tryz.isAgg9
 z9:=Tryz.sizeOf9
 v9:=Tryz.zeroValue9
 t20:=Tryz.underlying20
 a20:=Tryz.isAgg20
 z20:=Tryz.sizeOf20
 v20:=Tryz.zeroValue20
 t70:=Tryz.underlying91
 a70:=Tryz.isAgg91
 z70:=Tryz.sizeOf91
 v70:=Tryz.zeroValue91
 t72:=Tryz.underlying94
 a72:=Tryz.isAgg94
 z72:=Tryz.sizeOf94
 v72:=Tryz.zeroValue94
 t164:=Tryz.underlying168
 a164:=Tryz.isAgg168
 z164:=Tryz.sizeOf168
 v164:=Tryz.zeroValue168 }
theorem Tryz.x72CC:Builder.X72 Tryz.prog Tryz.laysCC_ren where
 sizeBuilder:=by kernel_rfl
 liesBuilder:=by kernel_rfl
theorem Tryz.extraBS:Builder.Extra Tryz.prog Tryz.laysBString_ren where
 sizeBuilder:=by kernel_rfl
 liesBuilder:=by kernel_rfl
 t5:=Tryz.underlying5
 a5:=Tryz.isAgg5
 z5:=Tryz.sizeOf5
 v5:=Tryz.zeroValue5
 infoByte:=by kernel_rfl
 cellsByte:=by kernel_rfl
 sizeByte:=by kernel_rfl
 neB5:=by decide
open Go.RowKit
theorem km_{P:Program}{w:World}:∀(l:List Int) (a:Addr) (acc:ByteArray),(∀j x,l[j]? = some x->w.cell? (a.add j)=some (.int .u8 x)) ->
  (loadBytes a acc l.length).run P w = .ok ⟨acc.data++(Rt.bytesS l).toArray⟩ w
 | [],a,acc,_=>by simp[loadBytes,Rt.bytesS]
 | x::l,a,acc,h=>by
  have h0:w.cell? a=some (.int .u8 x):=by
   have:=h 0 x rfl;simpa[Addr.add]using this
  have ih:=km_ (P:=P) l (a.add 1) (acc.push x.toNat.toUInt8) (λj y hy=>by
   have:=h (j+1) y (by simpa using hy);have e:(a.add 1).add j=a.add (j+1):=by
    unfold Addr.add;by_cases hj:j=0
    .subst hj;simp
    .simp[hj];omega
   rw[e];exact this)
  simp only[qLc,loadBytes,Sem.run_bind,run_load,h0,Result.andThen];rw[ih]
  congr 1
  apply ByteArray.ext;simp[ByteArray.push,Rt.bytesS]
theorem kn_{P:Program}{w:World}(pt it ty e:TypeId)(hp:P.underlying pt=some (.pointer e))(hc:P.cellsOf e=1)(g cells:Nat)(hsh:w.shape? g=some (e,cells))(l:List Int)(h0:l≠[])(hn:l.length<=cells)(h63:l.length<=9223372036854775807)
  (hcell:∀j x,l[j]? = some x->w.cell? ((⟨g,0,none⟩:Addr).add j)=some (.int .u8 x)) :
  (Builtin.unsafeString_ #[pt,it] ty #[.pointer (some ⟨g,0,none⟩),.int .i64 l.length]).run P w = .ok (.string ⟨(Rt.bytesS l).toArray⟩) (w.freeze ⟨g,0,none⟩ l.length):=by
 have hl:l.length≠0:=by simpa using h0
 have hlb:=km_ (P:=P) l ⟨g,0,none⟩ .empty hcell;have hlies:=Lib.liesAt_bytes (P:=P) hc (cells/P.cellsOf e) l.length (by rw[hc];simpa using hn);have h63':¬(9223372036854775807:Int)<(l.length:Int):=by omega
 have hdef:Builtin.unsafeString_ #[pt,it] ty #[.pointer (some ⟨g,0,none⟩),.int .i64 l.length] =
   (do
    let n ←asInt (.int .i64 l.length)
    if n < 0 then runtimePanic (.error "unsafe.String: len out of range")
    if n > IntKind.i64.max then unsupported (.unsafePointer "String: a length above the largest int")
    if n=0 then pure (.string .empty)
    else if ←variablesAt ⟨g,0,none⟩ (←elemOf pt) n.toNat then do
     let s ←loadBytes ⟨g,0,none⟩ .empty n.toNat
     freeze ⟨g,0,none⟩ n.toNat
     pure (.string s)
    else unsupported (.unsafePointer "String: not so many bytes at ptr")) := rfl
 rw[hdef];have hmax:IntKind.i64.max=9223372036854775807:=rfl;have hneg:¬(l.length:Int)<0:=by omega
 simp[asInt,asIntOf,hmax,h63',hneg,hl,variablesAt,hsh,elemOf,run_underlying hp,hlies,hlb]
set_option maxHeartbeats 1000000 in
set_option maxRecDepth 100000 in
theorem Any.Builder_String_w{P:Program}{ρ:Ren}(L:Lays.n169 P ρ)(X:Builder.Extra P ρ)(b g cap:Nat)(p:Value)(cur:Array Value)(l:List Int)(w:World)(hbk:w.heap[b]? = some (.cells #[p,.slice (some ⟨g,0,none⟩) l.length cap] (ρ.t 72) (0,0)))(h0:l≠[])
  (hg:w.heap[g]? = some (.cells cur (ρ.t 5) (0,0))) (hnc:l.length<=cap) (hcm:cap<=maxLen) (hcs:cur.size=cap) (hown:∀j x,l[j]? = some x->w.cell? ((⟨g,0,none⟩:Addr).add j)=some (.int .u8 x)) :
  Calls P (ρ.f 169) #[.pointer (some ⟨b,0,none⟩)] w λe w'=>e = .returned (.string ⟨(Rt.bytesS l).toArray⟩)/\w'=w.drew.freeze ⟨g,0,none⟩ l.length:=by
 have hl0:l.length≠0:=by simpa using h0
 have c1:w.drew.cell? ⟨b,1,none⟩=some (.slice (some ⟨g,0,none⟩) l.length cap):=by
  have:w.drew.heap[b]? = some (.cells #[p,.slice (some ⟨g,0,none⟩) l.length cap] (ρ.t 72) (0,0)):=hbk;rw[Lib.cell_of_heap this];rfl
 have hSD:(Builtin.unsafeSliceData_ #[(ρ.t 37)] (ρ.t 127) #[.slice (some ⟨g,0,none⟩) l.length cap]).run P w.drew = .ok (.pointer (some ⟨g,0,none⟩)) w.drew :=
  Lib.run_unsafeSliceData_row _ _ _ _ _ _ (by omega)
 have hUS:(Builtin.unsafeString_ #[(ρ.t 127),(ρ.t 3)] (ρ.t 9) #[.pointer (some ⟨g,0,none⟩),.int .i64 l.length]).run P w.drew = .ok (.string ⟨(Rt.bytesS l).toArray⟩) (w.drew.freeze ⟨g,0,none⟩ l.length):=by
  refine kn_ (w:=w.drew) (ρ.t 127) (ρ.t 3) (ρ.t 9) (ρ.t 5) L.t127 X.cellsByte g cur.size (by have hg':w.drew.heap[g]? = some (.cells cur (ρ.t 5) (0,0)):=hg;simp[World.shape?,hg']) l h0 (by omega) (by unfold maxLen at hcm;omega) ?_;intro j x hx;exact hown j x hx
 have mixed:=L.mixed;have t72:=L.t72;have a72:=L.a72;have z72:=L.z72;have v72:=L.v72;have u72:=run_underlying L.t72;have t70:=L.t70;have a70:=L.a70;have z70:=L.z70;have v70:=L.v70;have u70:=run_underlying L.t70;have t37:=L.t37;have a37:=L.a37;have z37:=L.z37;have v37:=L.v37;have u37:=run_underlying L.t37;have t127:=L.t127;have a127:=L.a127;have z127:=L.z127;have v127:=L.v127;have u127:=run_underlying L.t127;have t3:=L.t3;have a3:=L.a3;have z3:=L.z3;have v3:=L.v3;have u3:=run_underlying L.t3;have t9:=L.t9;have a9:=L.a9;have z9:=L.z9;have v9:=L.v9;have u9:=run_underlying L.t9;have t5:=X.t5;have a5:=X.a5;have z5:=X.z5;have v5:=X.v5;have u5:=run_underlying X.t5
 go_enter L.f169,Body.n169_ntmps ρ
 go_wp2
 go_region_o
 all_goals (go_wp2;go_ret;exact⟨rfl,rfl⟩)
end Go.Proofs
namespace Go.Proofs.YtbdcelleafhelaaGreatDoor
open Go.RowKit Go.Rt
def dJ_:InlF te:=λH _ xs _ k=>match xs with
 | [.one (.ptr id 0)]=>match H id with
  | some (.box T [.sbp id',_])=>match Nat.beq id id'&&te.sb T with
   | true=>k (some (.tup [])) []
   | false=>none
  | _=>none
 | _=>none
def fG_:InlF te:=λH _ xs _ k=>match xs with
 | [.one (.ptr id 0)]=>match H id with
  | some (.box T [.sbp id',c])=>match Nat.beq id id'&&te.sb T,c with
   | true,.nils=>k (some (.v (.one (.dt .str (bytesS []))))) [(id,none)]
   | true,.own r=>match H r with
    | some (.row e (.int .u8) xs _)=>match Nat.beq e 5 with
     | true=>k (some (.v (.one (.dt .str (bytesS xs))))) [(id,none),(r,none)]
     | false=>none
    | _=>none
   | _,_=>none
  | _=>none
 | _=>none
theorem eA_:InlOK Tryz.prog te 104 dJ_/\cE_ Tryz.prog 104=true:=by
 refine⟨?_,by kernel_rfl⟩;intro z g nx H xs vs R k r Bs F0 w0 w hnx hH hv h;unfold dJ_ at h;split at h
 .rename_i id;split at h
  .rename_i T id' c hi;split at h
   .rename_i hb;simp only[qAn]at hb;obtain rfl:=qNb hb.1;have hT:T=94:=qNb hb.2;subst hT;cases hv with
    | cons v1 hv =>
     cases hv
     obtain⟨l,h1,rfl⟩:=v1;obtain⟨l',us,h2,h3,h4⟩:=hH.hold _ _ hi;rw[h1]at h2;obtain rfl:=qSj h2;cases h4 with
     | cons c1 h4=>cases h4 with
      | cons c2 h4 =>
       cases h4
       obtain⟨l2,h5,h6⟩:=c1;rw[h1]at h5;obtain rfl:=qSj h5;rename_i u1 u2;have hc0:w.cell? ⟨l.b,0,none⟩=some u1:=by rw[cell_of_row w l.b 0 _ _ _ h3];rfl
       rcases h6 with rfl|rfl
       .refine Calls.mono (Any.Builder_copyCheck_fresh Tryz.laysCC Tryz.x72CC l.b w hc0 (by simp[World.shape?,h3];rfl) (by unfold World.frozen?;simp only[h3];simp)) λe w' ⟨he,hw⟩=>⟨_,he,.tup [],[],z,g,h,Fz.Le.refl z,Ga.Le.refl g,hnx.succ,⟨[],rfl,.nil⟩,?_⟩
        subst hw;have hat:(w.setCell ⟨l.b,0,none⟩ (.pointer (some ⟨l.b,0,none⟩))).heap[l.b]? = some (.cells [.pointer (some ⟨l.b,0,none⟩),u2].toArray 94 (0,0)):=by
         unfold World.setCell;simp[Array.getElem?_modify,h3]
        refine hH.turn (Ga.Le.refl g) (i:=id) (i':=id) (C:=λk=>k=l.b) (λk hk=>⟨_,hi,l,h1,hk⟩) ⟨rfl,rfl,rfl,by simp[World.setCell]⟩ (λk _ hk => ?_) (o' := .box 94 [.sbp id,c]) ?_ (λk hk => ?_) λj p hj => ?_
        .unfold World.setCell;simp only[Array.getElem?_modify];rw[if_neg λe=>hk e.symm]
        .exact⟨l,_,h1,hat,.cons ⟨l,h1,.inr rfl⟩ (.cons c2 .nil)⟩
        .obtain⟨l2,h5,rfl⟩:=hk;rw[h1]at h5;obtain rfl:=qSj h5;exact .inl rfl
        .by_cases hji:j=id
         .subst hji;have hj':H j=some p:=hj;rw[hi]at hj';exact .inl ⟨rfl,(qSj hj').symm⟩
         .exact .inr ⟨hji,.inl hji,hj⟩
       .refine Calls.mono (Any.Builder_copyCheck_used Tryz.laysCC Tryz.x72CC l.b w hc0) λe w' ⟨he,hw⟩=>⟨_,he,.tup [],[],z,g,h,Fz.Le.refl z,Ga.Le.refl g,hnx.succ,⟨[],rfl,.nil⟩,?_⟩
        subst hw;exact hH
   .cases h
  .cases h
 .cases h
theorem up1{H:Nat->Option (Rt.Obj te)}{id:Nat}{j:Nat}{o:Rt.Obj te}(h:upH H [(id,none)] j=some o):j≠id/\H j=some o:=by
 simp only[upH]at h;split at h
 .cases h
 .rename_i hb;refine⟨λe => ?_,h⟩;rw[e,Nat.beq_refl]at hb;cases hb
theorem up2{H:Nat->Option (Rt.Obj te)}{id r:Nat}{j:Nat}{o:Rt.Obj te}(h:upH H [(id,none),(r,none)] j=some o):j≠id/\j≠r/\H j=some o:=by
 simp only[upH]at h;split at h
 .cases h
 .rename_i hb;split at h
  .cases h
  .rename_i hb2;refine⟨λe => ?_,λe => ?_,h⟩
   .rw[e,Nat.beq_refl]at hb;cases hb
   .rw[e,Nat.beq_refl]at hb2;cases hb2
theorem gg_ : InlOK Tryz.prog te 65 fG_/\cE_ Tryz.prog 65=true:=by
 refine⟨?_,by kernel_rfl⟩;intro z g nx H xs vs R k r Bs F0 w0 w hnx hH hv h;unfold fG_ at h;split at h
 .rename_i id;split at h
  .rename_i T id' c hi;have hv1:∃l,g id=some l/\vs=[.pointer (some ⟨l.b,0,none⟩)]:=by
    cases hv with
    | cons v1 hv =>
     cases hv
     obtain⟨l,h1,rfl⟩:=v1;exact⟨l,h1,rfl⟩
   obtain⟨l,h1,rfl⟩:=hv1;obtain⟨l',us,h2,h3,h4⟩:=hH.hold _ _ hi;rw[h1]at h2;obtain rfl:=qSj h2;split at h
   .rename_i hb;simp only[qAn]at hb;have hT:T=94:=qNb hb.2;subst hT;cases h4 with
    | cons c1 h4=>cases h4 with
     | cons c2 h4 =>
      cases h4
      rename_i u1 u2;obtain rfl:u2 = .slice none 0 0:=c2;refine Calls.mono (Any.Builder_String_nil Tryz.laysBString Tryz.extraBS w.heap.size l.b u1 w h3) λe w' ⟨he,hw⟩=>⟨_,he,_,_,z,g,h,Fz.Le.refl z,Ga.Le.refl g,(λi hi=>hnx i (Nat.le_trans (by omega) (Nat.le_trans (j8_ nx _) hi))),.str .nil,?_⟩
      exact hH.gone (C:=λ_=>False) (λ_ h=>h.elim) (Grow.of_below hw) (λk hk _=>hw.block k hk) λj o hj=>(up1 hj).2
   .rename_i r' hb;simp only[qAn]at hb;have hT:T=94:=qNb hb.2;subst hT;split at h
    .rename_i e xs foc hr;split at h
     .rename_i he5;obtain rfl:=qNb he5;cases h4 with
      | cons c1 h4=>cases h4 with
       | cons c2 h4 =>
        cases h4
        rename_i u1 u2;obtain⟨lr,h5,rfl⟩:=c2;obtain⟨lr',rows,h6,hn,hc,hown,hlen,hrl,hrows,_⟩:=hH.hold _ _ hr;rw[h5]at h6;obtain rfl:=qSj h6;have hrw:=ky_ hrows (by omega);obtain⟨_,ho⟩:=hown;rcases ho with⟨ho,h0⟩|⟨b,cap,cur,hvv,_,hh,hnc,hcm,hcs,htk⟩
        .injection ho with e1 e2 e3;rw[e1,e2,e3]at h3;have hx0:xs=[]:=List.length_eq_zero_iff.1 (by omega);subst hx0;refine Calls.mono (Any.Builder_String_nil Tryz.laysBString Tryz.extraBS w.heap.size l.b u1 w h3) λe w' ⟨he,hw⟩=>⟨_,he,_,_,z,g,h,Fz.Le.refl z,Ga.Le.refl g,(λi hi=>hnx i (Nat.le_trans (by omega) (Nat.le_trans (j8_ nx _) hi))),.str .nil,?_⟩
         exact hH.gone (C:=λ_=>False) (λ_ h=>h.elim) (Grow.of_below hw) (λk hk _=>hw.block k hk) λj o hj=>(up2 hj).2.2
        .injection hvv with e1 _ e3;subst e3;rw[e1]at h3;have hb1:b<w.heap.size:=by
          rcases Nat.lt_or_ge b w.heap.size with h'|h'
          .exact h'
          .rw[Array.getElem?_eq_none h']at hh;cases hh
         cases xs with
         | nil =>
          have hn0:lr.n=0:=hn;rw[hn0]at h3;by_cases hc0:lr.cap=0
          .rw[hc0]at h3;exact Calls.mono (Any.Builder_String_noroom Tryz.laysBString Tryz.extraBS w.heap.size l.b b u1 cur w (Nat.le_refl _) h3 hh) λe w' ⟨he,hw⟩=>⟨_,he,_,_,z,g,h,Fz.Le.refl z,Ga.Le.refl g,(λi hi=>hnx i (Nat.le_trans (by omega) (Nat.le_trans (j8_ nx _) hi))),.str .nil,hH.gone (C:=λ_=>False) (λ_ h=>h.elim) (Grow.of_below hw) (λk hk _=>hw.block k hk) λj o hj=>(up2 hj).2.2⟩
          .exact Calls.mono (Any.Builder_String_room Tryz.laysBString Tryz.extraBS w.heap.size l.b b lr.cap u1 w hc0 h3) λe w' ⟨he,hw⟩=>⟨_,he,_,_,z,g,h,Fz.Le.refl z,Ga.Le.refl g,(λi hi=>hnx i (Nat.le_trans (by omega) (Nat.le_trans (j8_ nx _) hi))),.str .nil,hH.gone (C:=λ_=>False) (λ_ h=>h.elim) (Grow.of_below hw) (λk hk _=>hw.block k hk) λj o hj=>(up2 hj).2.2⟩
         | cons x xs =>
          have hc1:lr.c=1:=hc;rw[hn]at h3 htk hnc;rw[hc1]at htk hcs;have hcur:∀j y,(x::xs)[j]? = some y->w.cell? ((⟨b,0,none⟩:Addr).add j)=some (.int .u8 y):=λj y hy=>by
           have hj:j<(x::xs).length:=by
            rcases Nat.lt_or_ge j (x::xs).length with h'|h'
            .exact h'
            .rw[List.getElem?_eq_none h']at hy;cases hy
           have e2:(⟨b,0,none⟩:Addr).add j=⟨b,j,none⟩:=by
            unfold Addr.add;by_cases h0:j=0
            .subst h0;simp
            .simp[h0]
           rw[e2,cell_of_row w b j _ _ _ hh];have e3:(cur.toList.take ((x::xs).length*1))[j]? = cur.toList[j]? := by rw[List.getElem?_take,if_pos (by omega)]
           rw[←Array.getElem?_toList,←e3,htk,hrw];have e4:∀(l:List Int),(l.map λb=>[Value.int .u8 b]).flatten=l.map λb=>Value.int .u8 b:=λl=>by
            induction l with
            | nil=>rfl
            | cons a l ih=>rw[List.map_cons,List.flatten_cons,ih];rfl
           rw[e4,List.getElem?_map,hy];rfl
          refine Calls.mono (Any.Builder_String_w Tryz.laysBString Tryz.extraBS l.b b lr.cap u1 cur (x::xs) w h3 (by simp) hh hnc hcm (by omega) hcur) λe w' ⟨he,hw⟩=>⟨_,he,_,_,z,g,h,Fz.Le.refl z,Ga.Le.refl g,(λi hi=>hnx i (Nat.le_trans (by omega) (Nat.le_trans (j8_ nx _) hi))),.str .nil,?_⟩
          subst hw;refine hH.gone (C:=λk=>k=b) (λk hk=>⟨r',_,hr,⟨lr,_,h5,e1,hk⟩,?_⟩) ⟨?_,?_,?_,?_⟩ (λk hk hne => ?_) λj o hj=>(up2 hj).2.2
          .cases hq:upH H [(id,none),(r',none)] r' with
           | none=>rfl
           | some o=>exact absurd rfl (up2 hq).2.1
          .unfold World.freeze;split<;>rfl
          .unfold World.freeze;split<;>rfl
          .unfold World.freeze;split<;>rfl
          .unfold World.freeze;split
           .exact Nat.le_refl _
           .simp only[Array.size_modify];exact Nat.le_refl _
          .unfold World.freeze;split
           .rfl
           .simp only[Array.getElem?_modify];rw[if_neg λe=>hne e.symm];rfl
     .cases h
    .cases h
   .cases h
  .cases h
 .cases h
noncomputable section
def c_9:Con te:=af_ te [.d (.st 1)] [(.bool,[])] false λa=>fP_ a.1
theorem ok_9:OKF 9 c_9:=⟨ab_ ad_ ac_ Tryz.func9 (by kernel_rfl) (pl := .s .p (.s (.s .p (.lp ⟨[(7,.d (.int .i64))],[],[1,6],[0],[],7⟩ ⟨[],[],[1],[0],[],7⟩ true (.s .p (.s .p (.s (.s .p (.s (.dr [0,0,0,0,0,0,0,0,0,0,0,0,0,0,0,0] [] false []) .p)) .p))))) .p)) λ_=>by kernel_rfl,by kernel_rfl⟩
def c_82:Con te:=af_ te [.d .str,.d .str] [(.int .i64,[])] false λa=>strings_Index a.1 a.2.1
theorem ok_82:OKF 82 c_82:=⟨ab_ ad_ (aa_ fe_ ac_) Tryz.func82 (by kernel_rfl) (pl := .p) λ_=>by kernel_rfl,by kernel_rfl⟩
def c_39:Con te:=af_ te [.d .str,.d .str] [(.bool,[])] false λa=>strings_Contains a.1 a.2.1
theorem ok_39:OKF 39 c_39:=⟨ab_ ad_ (aa_ ok_82 ac_) Tryz.func39 (by kernel_rfl) (pl := .p) λ_=>by kernel_rfl,by kernel_rfl⟩
def c_99:Con te:=af_ te [.d .str,.d .str] [(.bool,[])] false λa=>bt_ a.1 a.2.1
theorem ok_99:OKF 99 c_99:=⟨ab_ ad_ ac_ Tryz.func99 (by kernel_rfl) (pl := .p) λ_=>by kernel_rfl,by kernel_rfl⟩
def c_177:Con te:=af_ te [.d .str,.d .str] [(.str,[])] false λa=>co_ a.1 a.2.1
theorem ok_177:OKF 177 c_177:=⟨ab_ ad_ (aa_ ok_99 ac_) Tryz.func177 (by kernel_rfl) (pl := .p) λ_=>by kernel_rfl,by kernel_rfl⟩
def c_151:Con te:=af_ te [.d .str,.d .str] [(.str,[])] false λa=>strings_TrimPrefix a.1 a.2.1
theorem ok_151:OKF 151 c_151:=⟨ab_ ad_ (aa_ ok_177 ac_) Tryz.func151 (by kernel_rfl) (pl := .p) λ_=>by kernel_rfl,by kernel_rfl⟩
def c_112:Con te:=af_ te [.d .str] [(.bool,[])] false λa=>hI_ a.1
theorem ok_112:OKF 112 c_112:=⟨ab_ ad_ (aa_ ok_151 ac_) Tryz.func112 (by kernel_rfl) (pl := .s .p (.s .p (.s .p (.s (.s .p (.lp ⟨[(26,.d (.int .i64))],[],[0,25],[],[],12012⟩ ⟨[],[],[],[],[],12012⟩ true .p)) .p)))) λ_=>by kernel_rfl,by kernel_rfl⟩
def c_140:Con te:=af_ te [.d .str,.d (.int .u8)] [(.int .i64,[])] false λa=>strings_IndexByte a.1 a.2.1
theorem ok_140:OKF 140 c_140:=⟨ab_ ad_ (aa_ hw_ ac_) Tryz.func140 (by kernel_rfl) (pl := .p) λ_=>by kernel_rfl,by kernel_rfl⟩
def c_105:Con te:=af_ te [.d .str,.d .str] [(.int .i64,[])] false λa=>ex_ a.1 a.2.1
theorem ok_105:OKF 105 c_105:=⟨ab_ ad_ (aa_ ok_140 ac_) Tryz.func105 (by kernel_rfl) (pl := .s .p (.s (.s .p (.lp ⟨[(8,.d (.int .i64))],[],[0,1,7],[],[],4⟩ ⟨[],[],[0],[],[],4⟩ true .p)) .p)) λ_=>by kernel_rfl,by kernel_rfl⟩
def c_119:Con te:=af_ te [.d (.sl (.st 0)),.f1 (.st 0) .bool] [(.int .i64,[])] false λa=>ba_ a.1 a.2.1
theorem ok_119:OKF 119 c_119:=⟨ab_ ad_ ac_ Tryz.func119 (by kernel_rfl) (pl := .s .p (.s (.s .p (.lp ⟨[(8,.d (.int .i64))],[],[0,1,7],[],[],4⟩ ⟨[],[],[],[],[],4⟩ true .p)) .p)) λ_=>by kernel_rfl,by kernel_rfl⟩
def c_83:Con te:=af_ te [.d (.sl (.st 0)),.f1 (.st 0) .bool] [(.bool,[])] false λa=>bg_ a.1 a.2.1
theorem ok_83:OKF 83 c_83:=⟨ab_ ad_ (aa_ ok_119 ac_) Tryz.func83 (by kernel_rfl) (pl := .p) λ_=>by kernel_rfl,by kernel_rfl⟩
def c_113:Con te:=af_ te [.d (.st 0),.p (.st 0)] [(.bool,[])] false λa=>i6_ a.1 a.2.1
theorem ok_113:OKF 113 c_113:=⟨ab_ ad_ ac_ Tryz.func113 (by kernel_rfl) (pl := .p) λ_=>by kernel_rfl,by kernel_rfl⟩
def c_76:Con te:=af_ te [.d (.sl (.st 0)),.d (.st 0)] [(.int .i64,[])] false λa=>fu_ a.1 a.2.1
theorem ok_76:OKF 76 c_76:=⟨ab_ ad_ (aa_ ok_113 (aa_ ok_83 (aa_ ok_105 (aa_ ok_112 ac_)))) Tryz.func76 (by kernel_rfl) (pl := .s .p (.s (.s .p (.s .p (.s .p (.s .p (.s .p (.s .p (.s (.dr [0,0,0,0,0,0,0,0] [] false []) .p))))))) .p)) λ_=>by kernel_rfl,by kernel_rfl⟩
def c_40:Con te:=af_ te [.d (.sl (.st 0))] [(.int .i64,[])] false λa=>gV_ a.1
theorem ok_40:OKF 40 c_40:=⟨ab_ ad_ (aa_ ok_76 ac_) Tryz.func40 (by kernel_rfl) (pl := .s .p (.s (.s .p (.lp ⟨[(8,.d (.int .i64))],[],[0,6,7],[],[],4⟩ ⟨[],[],[],[],[],4⟩ true (.s .p (.s .p (.s (.s .p (.s (.dr [0,0,0,0,0,0] [] false []) .p)) .p))))) .p)) λ_=>by kernel_rfl,by kernel_rfl⟩
def c_84:Con te:=af_ te [.d (.st 0)] [(.bool,[])] false λa=>gW_ a.1
theorem ok_84:OKF 84 c_84:=⟨ab_ ad_ ac_ Tryz.func84 (by kernel_rfl) (pl := .p) λ_=>by kernel_rfl,by kernel_rfl⟩
def c_41:Con te:=af_ te [.d (.sl (.st 0))] [(.bool,[])] false λa=>eD_ a.1
theorem ok_41:OKF 41 c_41:=⟨ab_ ad_ (aa_ ok_84 (aa_ ok_83 ac_)) Tryz.func41 (by kernel_rfl) (pl := .p) λ_=>by kernel_rfl,by kernel_rfl⟩
def c_15:Con te:=af_ te [.d (.st 1)] [(.int .i64,[])] false λa=>bP_ a.1
theorem ok_15:OKF 15 c_15:=⟨ab_ ad_ (aa_ ok_41 (aa_ ok_40 (aa_ ok_39 ac_))) Tryz.func15 (by kernel_rfl) (pl := .s .p (.s (.s .p (.lp ⟨[(16,.d (.int .i64))],[(11,true,.row 9 .str [])],[1,14,15],[0],[],15⟩ ⟨[],[],[1],[0],[],15⟩ true .p)) .p)) λ_=>by kernel_rfl,by kernel_rfl⟩
def c_148:Con te:=af_ te [.d .str] [(.int .i32,[]),(.int .i64,[])] false λa=>utf8_DecodeRuneInString a.1
theorem ok_148:OKF 148 c_148:=⟨fr_ λ_=>rfl,by kernel_rfl⟩
theorem e_141(a:PA te [.d .str,.d .str,.d .str,.d (.int .i64)]):strings_Replace a.1 a.2.1 a.2.2.1 a.2.2.2.1=gU_ Tryz.prog te eqL (ti 64 (inlF Tryz.prog te eqL (ti 104 dJ_ ei_) Tryz.f64 (.p:Pl)) (tb 148 c_148 (tb 82 c_82 (tb 110 ik_ (ti 65 fG_ (ti 67 nb_ ei_)))))) Tryz.f141 [.d .str,.d .str,.d .str,.d (.int .i64)] [(.str,[])] (.s .p (.s .p (.j ⟨[(3,.d (.int .i64))],[],[0,1,2],[],[],3005⟩ true .p (.s .p (.s .p (.s .p (.j ⟨[(11,.d (.int .i64))],[(3005,true,.cells 94 [.sbp 3005,.own 3021]),(3021,false,.row 5 (.int .u8) [])],[0,10],[],[],3022⟩ false (.s .p (.s (.s .p (.lp ⟨[(11,.d (.int .i64)),(53,.d (.int .i64))],[(3005,true,.cells 94 [.sbp 3005,.own 3026]),(3026,false,.row 5 (.int .u8) [])],[0,1,2,10,52],[],[],3027⟩ ⟨[(11,.d (.int .i64))],[(3005,true,.cells 94 [.sbp 3005,.own 3026]),(3026,false,.row 5 (.int .u8) [])],[0,10],[],[],3027⟩ false .p)) (.s .p (.s .p (.lp ⟨[(11,.d (.int .i64)),(78,.d (.int .i64))],[(3005,true,.cells 94 [.sbp 3005,.own 3249]),(3249,false,.row 5 (.int .u8) [])],[0,2,10,77],[],[],3250⟩ ⟨[(11,.d (.int .i64))],[(3005,true,.cells 94 [.sbp 3005,.own 3249]),(3249,false,.row 5 (.int .u8) [])],[0,10],[],[],3250⟩ false .p))))) .p))))))) a:=by kernel_rfl
def c_141:Con te:=af_ te [.d .str,.d .str,.d .str,.d (.int .i64)] [(.str,[])] false λa=>strings_Replace a.1 a.2.1 a.2.2.1 a.2.2.2.1
theorem ok_141:OKF 141 c_141:=⟨ab_ ad_ (c3_ ⟨eM_ ad_ (c3_ eA_ ac_) Tryz.func64,by kernel_rfl⟩ (aa_ ok_148 (aa_ ok_82 (aa_ g7_ (c3_ gg_ (c3_ mN_ ac_)))))) Tryz.func141 (by kernel_rfl) e_141,by kernel_rfl⟩
def c_106:Con te:=af_ te [.d .str,.d .str,.d .str] [(.str,[])] false λa=>strings_ReplaceAll a.1 a.2.1 a.2.2.1
theorem ok_106:OKF 106 c_106:=⟨ab_ ad_ (aa_ ok_141 ac_) Tryz.func106 (by kernel_rfl) (pl := .p) λ_=>by kernel_rfl,by kernel_rfl⟩
def c_66:Con te:=af_ te [.d .str] [(.str,[])] false λa=>n8_ a.1
theorem ok_66:OKF 66 c_66:=⟨ab_ ad_ (aa_ ok_106 (aa_ ok_105 ac_)) Tryz.func66 (by kernel_rfl) (pl := .p) λ_=>by kernel_rfl,by kernel_rfl⟩
theorem e_30(a:PA te [.d (.sl .str),.d .str]):strings_Join a.1 a.2.1=gU_ Tryz.prog te eqL (ti 64 (inlF Tryz.prog te eqL (ti 104 dJ_ ei_) Tryz.f64 (.p:Pl)) (ti 65 fG_ (ti 67 nb_ ei_))) Tryz.f30 [.d (.sl .str),.d .str] [(.str,[])] (.s .p (.s .p (.s .p (.j ⟨[(5,.d (.int .i64))],[],[0,1],[],[],8⟩ false (.s .p (.s (.j ⟨[],[],[0,1,5],[],[],11⟩ false .p .p) .p)) (.s (.s .p (.lp ⟨[(5,.d (.int .i64)),(41,.d (.int .i64))],[],[0,1,39,40],[],[],11⟩ ⟨[(5,.d (.int .i64))],[],[0,1],[],[],11⟩ false (.s .p (.s .p (.s (.s .p (.j ⟨[],[],[0,1,5,7,39,40,41],[],[],15⟩ false .p .p)) .p))))) (.s .p (.s .p (.s .p (.s (.s .p (.lp ⟨[(65,.d (.int .i64))],[(11,true,.cells 94 [.sbp 11,.own 245]),(245,false,.row 5 (.int .u8) [])],[1,8,63,64],[],[],246⟩ ⟨[],[(11,true,.cells 94 [.sbp 11,.own 245]),(245,false,.row 5 (.int .u8) [])],[8],[],[],246⟩ false .p)) .p))))))))) a:=by kernel_rfl
def c_30:Con te:=af_ te [.d (.sl .str),.d .str] [(.str,[])] false λa=>strings_Join a.1 a.2.1
theorem ok_30:OKF 30 c_30:=⟨ab_ ad_ (c3_ ⟨eM_ ad_ (c3_ eA_ ac_) Tryz.func64,by kernel_rfl⟩ (c3_ gg_ (c3_ mN_ ac_))) Tryz.func30 (by kernel_rfl) e_30,by kernel_rfl⟩
def c_29:Con te:=af_ te [.d (.sl (.st 0))] [(.str,[]),(.int .i64,[])] false λa=>ob_ a.1
theorem ok_29:OKF 29 c_29:=⟨ab_ ad_ (aa_ ok_30 (aa_ ok_66 (aa_ ok_40 ac_))) Tryz.func29 (by kernel_rfl) (pl := .s .p (.s .p (.s .p (.s (.s .p (.lp ⟨[(5,.one (.own 15)),(18,.d (.int .i64))],[(15,false,.row 9 .str [])],[16,17],[],[],16⟩ ⟨[(5,.one (.own 15))],[(15,false,.row 9 .str [])],[],[],[],16⟩ false (.s .p (.s .p (.j ⟨[(5,.one (.own 17))],[(17,false,.row 9 .str [])],[16,17,18],[],[],18⟩ false (.s .p (.s .p (.s .p (.dr [0,0,0,0,0,0,0,0,1,2,4] [] false [])))) .p))))) .p)))) λ_=>by kernel_rfl,by kernel_rfl⟩
def c_68:Con te:=af_ te [.d (.int .i64)] [(.bool,[])] false λa=>lZ_ a.1
theorem ok_68:OKF 68 c_68:=⟨ab_ ad_ ac_ Tryz.func68 (by kernel_rfl) (pl := .p) λ_=>by kernel_rfl,by kernel_rfl⟩
def c_31:Con te:=af_ te [.d (.int .i64),.d (.int .i64)] [(.str,[])] false λa=>num_Text a.1 a.2.1
theorem ok_31:OKF 31 c_31:=⟨ab_ ad_ (aa_ i7_ (aa_ ok_68 ac_)) Tryz.func31 (by kernel_rfl) (pl := .p) λ_=>by kernel_rfl,by kernel_rfl⟩
def c_11:Con te:=af_ te [.d (.st 1)] [(.str,[]),(.int .i64,[])] false λa=>jN_ a.1
theorem ok_11:OKF 11 c_11:=⟨ab_ ad_ (aa_ ok_30 (aa_ ok_31 (aa_ ok_29 (aa_ ok_15 ac_)))) Tryz.func11 (by kernel_rfl) (pl := .s .p (.s .p (.s .p (.s .p (.s (.dr [0,0,0,0,0,0,0,0,0,0,0,0,0,0,0,1,1,4,4] [] false []) .p))))) λ_=>by kernel_rfl,by kernel_rfl⟩
def c_109:Con te:=af_ te [.d .str,.d (.int .i64)] [(.sl .str,[])] false λa=>jq_ a.1 a.2.1
theorem ok_109:OKF 109 c_109:=⟨fr_ λ_=>rfl,by kernel_rfl⟩
def c_73:Con te:=af_ te [.d .str,.d .str,.d (.int .i64),.d (.int .i64)] [(.sl .str,[])] true λa=>strings_genSplit a.1 a.2.1 a.2.2.1 a.2.2.2.1
theorem ok_73:OKF 73 c_73:=⟨ab_ ad_ (aa_ ok_82 (aa_ g7_ (aa_ ok_109 ac_))) Tryz.func73 (by kernel_rfl) (pl := .s .p (.s .p (.s .p (.j ⟨[(3,.d (.int .i64))],[],[0,1,2],[],[],5⟩ false .p (.s .p (.s .p (.s .p (.s .p (.s (.lp ⟨[(0,.d .str),(10,.d (.int .i64))],[(12,true,.row 9 .str [])],[1,2,3,9],[],[],19⟩ ⟨[(0,.d .str),(10,.d (.int .i64))],[(12,true,.row 9 .str [])],[9],[],[],19⟩ false .p) .p))))))))) λ_=>by kernel_rfl,by kernel_rfl⟩
def c_34:Con te:=af_ te [.d .str,.d .str,.d (.int .i64)] [(.sl .str,[])] true λa=>strings_SplitN a.1 a.2.1 a.2.2.1
theorem ok_34:OKF 34 c_34:=⟨ab_ ad_ (aa_ ok_73 ac_) Tryz.func34 (by kernel_rfl) (pl := .p) λ_=>by kernel_rfl,by kernel_rfl⟩
def c_74:Con te:=af_ te [.d (.int .u8)] [(.bool,[])] false λa=>fw_ a.1
theorem ok_74:OKF 74 c_74:=⟨ab_ ad_ ac_ Tryz.func74 (by kernel_rfl) (pl := .p) λ_=>by kernel_rfl,by kernel_rfl⟩
def c_56:Con te:=af_ te [.d .str,.d .str] [(.bool,[])] false λa=>strings_HasPrefix a.1 a.2.1
theorem ok_56:OKF 56 c_56:=⟨ab_ ad_ (aa_ ok_99 ac_) Tryz.func56 (by kernel_rfl) (pl := .p) λ_=>by kernel_rfl,by kernel_rfl⟩
theorem e_111(a:PA te [.d .str]):fQ_ a.1=gU_ Tryz.prog te eqL (ti 150 (inlF Tryz.prog te eqL (ti 104 dJ_ ei_) Tryz.f150 (.p:Pl)) (ti 65 fG_ ei_)) Tryz.f111 [.d .str] [(.str,[]),(.int .i64,[]),(.bool,[])] (.s .p (.s .p (.s (.s .p (.lp ⟨[(6,.d (.int .i64))],[(3,true,.cells 94 [.sbp 3,.own 6]),(6,false,.row 5 (.int .u8) [])],[0,5],[],[],7⟩ ⟨[],[],[],[],[],6⟩ true (.s .p (.j ⟨[(6,.d (.int .i64))],[(3,true,.cells 94 [.sbp 3,.own 11]),(11,false,.row 5 (.int .u8) [])],[0,5],[],[],12⟩ true .p .p)))) .p))) a:=by kernel_rfl
def c_111:Con te:=af_ te [.d .str] [(.str,[]),(.int .i64,[]),(.bool,[])] false λa=>fQ_ a.1
theorem ok_111:OKF 111 c_111:=⟨ab_ ad_ (c3_ ⟨eM_ ad_ (c3_ eA_ ac_) Tryz.func150,by kernel_rfl⟩ (c3_ gg_ ac_)) Tryz.func111 (by kernel_rfl) e_111,by kernel_rfl⟩
def c_75:Con te:=af_ te [.d .str] [(.st 0,[]),(.int .i64,[]),(.int .i64,[])] false λa=>kZ_ a.1
theorem ok_75:OKF 75 c_75:=⟨ab_ ad_ (aa_ ok_74 (aa_ ok_39 (aa_ ok_111 (aa_ ok_56 (aa_ ok_105 ac_))))) Tryz.func75 (by kernel_rfl) (pl := .s .p (.s .p (.s .p (.s .p (.j ⟨[(5,.d (.int .i64))],[(11,true,.box 50 (.st 0))],[0,2,6],[0],[],19⟩ true .p .p))))) λ_=>by kernel_rfl,by kernel_rfl⟩
def c_35:Con te:=af_ te [.d .str] [(.sl (.st 0),[some 50]),(.int .i64,[]),(.int .i64,[])] false λa=>iB_ a.1
theorem ok_35:OKF 35 c_35:=⟨ab_ ad_ (aa_ ok_76 (aa_ ok_75 (aa_ ok_74 ac_))) Tryz.func35 (by kernel_rfl) (pl := .s .p (.s .p (.s (.s .p (.lp ⟨[(5,.one (.own 5)),(6,.d (.int .i64))],[(5,false,.row 50 (.st 0) [])],[0],[],[],6⟩ ⟨[(5,.one (.own 5))],[(5,false,.row 50 (.st 0) [])],[],[],[],6⟩ true (.s .p (.s .p (.s .p (.j ⟨[(9,.d (.int .i64))],[],[0,5,6,7,8],[5,22],[],28⟩ false .p .p)))))) .p))) λ_=>by kernel_rfl,by kernel_rfl⟩
def c_77:Con te:=af_ te [.d (.int .u8)] [(.int .i64,[])] false λa=>num_digit a.1
theorem ok_77:OKF 77 c_77:=⟨ab_ ad_ ac_ Tryz.func77 (by kernel_rfl) (pl := .p) λ_=>by kernel_rfl,by kernel_rfl⟩
def c_36:Con te:=af_ te [.d .str,.d (.int .i64),.d (.int .i64)] [(.int .i64,[]),(.int .i64,[])] false λa=>num_Parse a.1 a.2.1 a.2.2.1
theorem ok_36:OKF 36 c_36:=⟨ab_ ad_ (aa_ ok_77 (aa_ ok_68 ac_)) Tryz.func36 (by kernel_rfl) (pl := .s .p (.s .p (.s .p (.s .p (.s (.s .p (.lp ⟨[(8,.d (.int .i64)),(32,.d (.int .i64))],[],[0,1,2,31],[],[],12013⟩ ⟨[(8,.d (.int .i64))],[],[],[],[],12013⟩ true .p)) .p))))) λ_=>by kernel_rfl,by kernel_rfl⟩
def c_13:Con te:=af_ te [.d .str] [(.st 1,[none,none,none,none,some 50]),(.int .i64,[])] false λa=>jO_ a.1
theorem ok_13:OKF 13 c_13:=⟨ab_ ad_ (aa_ ok_15 (aa_ ok_36 (aa_ ok_35 (aa_ ok_34 ac_)))) Tryz.func13 (by kernel_rfl) (pl := .s .p (.s .p (.s .p (.s .p (.s .p (.s .p (.s .p (.s (.dr [0,0,0,0,0,0,0,0,0,0,0,0,0,0,0,0,0,1,2] [] false []) .p)))))))) λ_=>by kernel_rfl,by kernel_rfl⟩
def c_170:Con te:=af_ te [.d .str,.d .str] [(.bool,[])] false λa=>dR_ a.1 a.2.1
theorem ok_170:OKF 170 c_170:=⟨ab_ ad_ ac_ Tryz.func170 (by kernel_rfl) (pl := .p) λ_=>by kernel_rfl,by kernel_rfl⟩
def c_136:Con te:=af_ te [.d .str,.d .str] [(.str,[])] false λa=>dD_ a.1 a.2.1
theorem ok_136:OKF 136 c_136:=⟨ab_ ad_ (aa_ ok_170 ac_) Tryz.func136 (by kernel_rfl) (pl := .p) λ_=>by kernel_rfl,by kernel_rfl⟩
def c_98:Con te:=af_ te [.d .str,.d .str] [(.str,[])] false λa=>strings_TrimSuffix a.1 a.2.1
theorem ok_98:OKF 98 c_98:=⟨ab_ ad_ (aa_ ok_136 ac_) Tryz.func98 (by kernel_rfl) (pl := .p) λ_=>by kernel_rfl,by kernel_rfl⟩
def c_97:Con te:=af_ te [.d .str,.d .str] [(.sl .str,[])] true λa=>strings_Split a.1 a.2.1
theorem ok_97:OKF 97 c_97:=⟨ab_ ad_ (aa_ ok_73 ac_) Tryz.func97 (by kernel_rfl) (pl := .p) λ_=>by kernel_rfl,by kernel_rfl⟩
def c_55:Con te:=af_ te [.d .str] [(.sl .str,[])] true λa=>jP_ a.1
theorem ok_55:OKF 55 c_55:=⟨ab_ ad_ (aa_ ok_97 (aa_ ok_98 ac_)) Tryz.func55 (by kernel_rfl) (pl := .p) λ_=>by kernel_rfl,by kernel_rfl⟩
def c_57:Con te:=af_ te [.d (.st 3)] [(.bool,[])] false λa=>d5_ a.1
theorem ok_57:OKF 57 c_57:=⟨ab_ ad_ ac_ Tryz.func57 (by kernel_rfl) (pl := .p) λ_=>by kernel_rfl,by kernel_rfl⟩
def c_137:Con te:=af_ te [.d .str,.d .str] [(.str,[]),(.str,[]),(.bool,[])] false λa=>dA_ a.1 a.2.1
theorem ok_137:OKF 137 c_137:=⟨ab_ ad_ (aa_ fe_ ac_) Tryz.func137 (by kernel_rfl) (pl := .s .p (.s (.s .p (.s .p (.s (.s (.dr [0,0,0,0,0,0,0,0,0,0,0,0] [] false []) .p) .p))) .p)) λ_=>by kernel_rfl,by kernel_rfl⟩
def c_100:Con te:=af_ te [.d .str,.d .str] [(.str,[]),(.str,[]),(.bool,[])] false λa=>strings_Cut a.1 a.2.1
theorem ok_100:OKF 100 c_100:=⟨ab_ ad_ (aa_ ok_137 ac_) Tryz.func100 (by kernel_rfl) (pl := .p) λ_=>by kernel_rfl,by kernel_rfl⟩
def c_58:Con te:=af_ te [.d .str] [(.st 2,[])] false λa=>ic_ a.1
theorem ok_58:OKF 58 c_58:=⟨ab_ ad_ (aa_ ok_100 ac_) Tryz.func58 (by kernel_rfl) (pl := .p) λ_=>by kernel_rfl,by kernel_rfl⟩
def c_102:Con te:=af_ te [.d .str] [(.sl .str,[some 9])] false λa=>cp_ a.1
theorem ok_102:OKF 102 c_102:=⟨ab_ ad_ ac_ Tryz.func102 (by kernel_rfl) (pl := .s .p (.s (.s .p (.j ⟨[(4,.d .bool)],[],[3],[],[],2⟩ false .p .p)) .p)) λ_=>by kernel_rfl,by kernel_rfl⟩
def c_138:Con te:=af_ te [.d (.sl .str),.d .str] [(.int .i64,[])] false λa=>dl_ a.1 a.2.1
theorem ok_138:OKF 138 c_138:=⟨ab_ ad_ ac_ Tryz.func138 (by kernel_rfl) (pl := .s .p (.s (.s .p (.lp ⟨[(8,.d (.int .i64))],[],[0,1,7],[],[],4⟩ ⟨[],[],[],[],[],4⟩ true .p)) .p)) λ_=>by kernel_rfl,by kernel_rfl⟩
def c_101:Con te:=af_ te [.d (.sl .str),.d .str] [(.bool,[])] false λa=>aA_ a.1 a.2.1
theorem ok_101:OKF 101 c_101:=⟨ab_ ad_ (aa_ ok_138 ac_) Tryz.func101 (by kernel_rfl) (pl := .p) λ_=>by kernel_rfl,by kernel_rfl⟩
def c_125:Con te:=af_ te [.bm 149 (.st 6) [none,none,none,some 126] false,.d (.st 4)] [(.int .i64,[])] false λa=>av_ a.1 a.2.1
theorem ko_:OKF 125 c_125:=⟨ab_ ad_ ac_ Tryz.func125 (by kernel_rfl) (pl := .s .p (.s (.dr [4,0,0,0,0,0,1,2,4,4,2] [0,1,2,3,4,5] false []) .p)) λ_=>by kernel_rfl,by kernel_rfl⟩
def c_181:Con te:=af_ te [.bm 149 (.st 6) [none,none,none,some 126] false] [(.int .u8,[]),(.bool,[])] false λa=>bq_ a.1
theorem ok_181:OKF 181 c_181:=⟨ab_ ad_ ac_ Tryz.func181 (by kernel_rfl) (pl := .s .p (.s (.s (.dr [0,0,0,0,0,0,0,0,0,0] [] false []) .p) (.s (.dr [0,0,0,0,0,0,0,0,0,0,0] [] false []) .p))) λ_=>by kernel_rfl,by kernel_rfl⟩
def c_196:Con te:=af_ te [.bm 149 (.st 6) [none,none,none,some 126] false] [(.bool,[])] false λa=>aX_ a.1
theorem ok_196:OKF 196 c_196:=⟨ab_ ad_ ac_ Tryz.func196 (by kernel_rfl) (pl := .p) λ_=>by kernel_rfl,by kernel_rfl⟩
def c_162:Con te:=af_ te [.bm 149 (.st 6) [none,none,none,some 126] false,.d (.int .u8)] [(.bool,[])] false λa=>aF_ a.1 a.2.1
theorem ok_162:OKF 162 c_162:=⟨ab_ ad_ (aa_ ok_181 ac_) Tryz.func162 (by kernel_rfl) (pl := .p) λ_=>by kernel_rfl,by kernel_rfl⟩
def h0_(rec0:regex_parser->Int->Option (Bool×regex_parser)):Con te:=af_ te [.bm 149 (.st 6) [none,none,none,some 126] false,.d (.int .i64)] [(.bool,[])] false λa=>rec0 a.1 a.2.1
def cS_197(f126:regex_parser->Int->Option (Bool×regex_parser)):Con te:=af_ te [.bm 149 (.st 6) [none,none,none,some 126] false,.d (.int .i64)] [(.bool,[])] false λa=>bG_ f126 a.1 a.2.1
theorem okS_197(f126:regex_parser->Int->Option (Bool×regex_parser))(h126:OKF 126 (h0_ f126)):OKF 197 (cS_197 f126):=⟨ab_ ad_ (aa_ ok_162 (aa_ h126 (aa_ ko_ (aa_ ok_196 ac_)))) Tryz.func197 (by kernel_rfl) (pl := .p) λ_=>by kernel_rfl,by kernel_rfl⟩
def c_199:Con te:=af_ te [.bm 149 (.st 6) [none,none,none,some 126] false] [(.int .u8,[]),(.bool,[])] false λa=>cu_ a.1
theorem ok_199:OKF 199 c_199:=⟨ab_ ad_ (aa_ ok_196 (aa_ ok_181 ac_)) Tryz.func199 (by kernel_rfl) (pl := .p) λ_=>by kernel_rfl,by kernel_rfl⟩
def c_201:Con te:=af_ te [.bm 149 (.st 6) [none,none,none,some 126] false] [(.int .u8,[]),(.bool,[])] false λa=>b4_ a.1
theorem ok_201:OKF 201 c_201:=⟨ab_ ad_ (aa_ ok_199 (aa_ ok_196 (aa_ ok_181 ac_))) Tryz.func201 (by kernel_rfl) (pl := .p) λ_=>by kernel_rfl,by kernel_rfl⟩
def c_198:Con te:=af_ te [.bm 149 (.st 6) [none,none,none,some 126] false] [(.bool,[])] false λa=>dS_ a.1
theorem ok_198:OKF 198 c_198:=⟨ab_ ad_ (aa_ ko_ (aa_ ok_196 (aa_ ok_201 (aa_ ok_162 ac_)))) Tryz.func198 (by kernel_rfl) (pl := .s .p (.s .p (.s (.s .p (.lp ⟨[(4,.d .bool)],[(0,true,.cells 149 [.v .str,.v (.int .i64),.v (.int .i64),.own 15,.v (.int .i64)]),(15,false,.row 126 (.st 4) []),(10,true,.box 126 (.st 4))],[0,3],[],[],16⟩ ⟨[],[(0,true,.cells 149 [.v .str,.v (.int .i64),.v (.int .i64),.own 15,.v (.int .i64)]),(15,false,.row 126 (.st 4) []),(10,true,.box 126 (.st 4))],[0,3],[],[],16⟩ true (.s (.s (.ot 0 (.free 0 (.free 1 (.spl 1 (.free 2 (.alt 3 (.free 4 (.alt 5 .nil .nil)) .nil)) (.free 2 (.alt 3 (.free 4 (.alt 5 .nil .nil)) .nil)))))) .p) (.s (.s .p (.s .p (.s .p (.j ⟨[(7,.d (.int .u8))],[(0,true,.cells 149 [.v .str,.v (.int .i64),.v (.int .i64),.own 41,.v (.int .i64)]),(41,false,.row 126 (.st 4) [])],[0,3,5,13,14,15],[10],[],42⟩ true .p .p)))) .p)))) .p))) λ_=>by kernel_rfl,by kernel_rfl⟩
def cS_188(f126:regex_parser->Int->Option (Bool×regex_parser)):Con te:=af_ te [.bm 149 (.st 6) [none,none,none,some 126] false,.d (.int .i64)] [(.bool,[])] false λa=>ax_ f126 a.1 a.2.1
theorem okS_188(f126:regex_parser->Int->Option (Bool×regex_parser))(h126:OKF 126 (h0_ f126)):OKF 188 (cS_188 f126):=⟨ab_ ad_ (aa_ ok_199 (aa_ ok_198 (aa_ ko_ (aa_ (okS_197 f126 h126) (aa_ ok_196 (aa_ ok_181 ac_)))))) Tryz.func188 (by kernel_rfl) (pl := .s .p (.s .p (.s .p (.j ⟨[],[(0,true,.cells 149 [.v .str,.v (.int .i64),.v (.int .i64),.own 16,.v (.int .i64)]),(16,false,.row 126 (.st 4) [])],[0],[],[],17⟩ true (.s .p (.s .p (.s .p (.j ⟨[(28,.d .bool)],[],[0,5,18],[0,4],[],19⟩ false .p .p)))) .p)))) λ_=>by kernel_rfl,by kernel_rfl⟩
def c_163:Con te:=af_ te [.bm 149 (.st 6) [none,none,none,some 126] false,.d (.int .i64),.d (.st 4)] [] false λa=>b6_ a.1 a.2.1 a.2.2.1
theorem ok_163:OKF 163 c_163:=⟨ab_ ad_ (aa_ kk_ ac_) Tryz.func163 (by kernel_rfl) (pl := .s .p (.s (.s .p (.lp ⟨[(6,.d (.int .i64))],[(1,true,.row 126 (.st 4) [])],[0,1,5],[0,2],[],6⟩ ⟨[],[(1,true,.row 126 (.st 4) [])],[0,1,5],[0,2],[],6⟩ false (.s .p (.j ⟨[],[(1,true,.row 126 (.st 4) [])],[0,1,5,6],[0,2],[],13⟩ false .p .p)))) (.dr [4,0,0,0,0,0,0,1,2,4,4,2] [0,1,2,3,4,5,6] false []))) λ_=>by kernel_rfl,by kernel_rfl⟩
def cS_182(f126:regex_parser->Int->Option (Bool×regex_parser)):Con te:=af_ te [.bm 149 (.st 6) [none,none,none,some 126] false,.d (.int .i64)] [(.bool,[])] false λa=>bi_ f126 a.1 a.2.1
theorem okS_182(f126:regex_parser->Int->Option (Bool×regex_parser))(h126:OKF 126 (h0_ f126)):OKF 182 (cS_182 f126):=⟨ab_ ad_ (aa_ ko_ (aa_ ok_163 (aa_ ok_162 (aa_ (okS_188 f126 h126) ac_)))) Tryz.func182 (by kernel_rfl) (pl := .s .p (.s .p (.s .p (.j ⟨[],[(0,true,.cells 149 [.v .str,.v (.int .i64),.v (.int .i64),.own 17,.v (.int .i64)]),(17,false,.row 126 (.st 4) [])],[],[],[],18⟩ false (.s .p (.s (.s .p (.s .p (.dr [0,0,0,0,0,0,0,0,0,0,0,0,2] [] false []))) (.s .p (.s .p (.s .p (.s (.s .p (.dr [0,0,0,0,0,0,0,0,0,0,0,0,2] [] false [])) .p)))))) .p)))) λ_=>by kernel_rfl,by kernel_rfl⟩
def cS_161(f126:regex_parser->Int->Option (Bool×regex_parser)):Con te:=af_ te [.bm 149 (.st 6) [none,none,none,some 126] false,.d (.int .i64)] [(.bool,[])] false λa=>ck_ f126 a.1 a.2.1
theorem okS_161(f126:regex_parser->Int->Option (Bool×regex_parser))(h126:OKF 126 (h0_ f126)):OKF 161 (cS_161 f126):=⟨ab_ ad_ (aa_ (okS_182 f126 h126) (aa_ ok_181 ac_)) Tryz.func161 (by kernel_rfl) (pl := .s .p (.lp ⟨[],[(0,true,.cells 149 [.v .str,.v (.int .i64),.v (.int .i64),.own 3,.v (.int .i64)]),(3,false,.row 126 (.st 4) [])],[0,1],[],[],4⟩ ⟨[],[],[],[0,1],[],3⟩ true .p)) λ_=>by kernel_rfl,by kernel_rfl⟩
theorem okS_126(rec0:regex_parser->Int->Option (Bool×regex_parser))(h:OKF 126 (h0_ rec0)):OKF 126 (h0_ (b2_ rec0)):=⟨ab_ ad_ (aa_ ko_ (aa_ ok_163 (aa_ ok_162 (aa_ (okS_161 rec0 h) (aa_ h ac_))))) Tryz.func126 (by kernel_rfl) (pl := .s .p (.s .p (.s .p (.s .p (.s .p (.s .p (.s .p (.s .p (.s (.dr [0,0,0,0,0,0,0,0,0,0,0,0,2] [] false []) .p))))))))) λ_=>by kernel_rfl,by kernel_rfl⟩
theorem okN_126:∀n,OKF 126 (h0_ (aj_ n))
 | 0=>⟨fr_ λ_=>rfl,by kernel_rfl⟩
 | n+1=>okS_126 _ (okN_126 n)
def c_126:Con te:=h0_ (aj_ BIG)
theorem ok_126:OKF 126 c_126:=okN_126 BIG
def c_88:Con te:=af_ te [.d .str] [(.st 5,[some 126]),(.int .i64,[]),(.int .i64,[])] false λa=>aE_ a.1
theorem ok_88:OKF 88 c_88:=⟨ab_ ad_ (aa_ ok_126 (aa_ ko_ ac_)) Tryz.func88 (by kernel_rfl) (pl := .s .p (.s .p (.s .p (.s .p (.s (.s .p (.s (.s (.dr [0,0,0,0,0,1,4,4] [] true [0]) .p) .p)) (.s .p (.s .p (.s (.dr [0,0,0,0,0,0,0,0,0,0,2,4,4] [] false []) .p)))))))) λ_=>by kernel_rfl,by kernel_rfl⟩
def c_59:Con te:=af_ te [.d (.st 2)] [(.bool,[])] false λa=>d6_ a.1
theorem ok_59:OKF 59 c_59:=⟨ab_ ad_ (aa_ ok_88 (aa_ ok_39 (aa_ ok_101 (aa_ ok_102 ac_)))) Tryz.func59 (by kernel_rfl) (pl := .s .p (.s (.j ⟨[(28,.d .bool)],[],[1],[0],[],3⟩ false (.ot 0 (.free 0 (.free 3 (.alt 1 (.alt 2 (.alt 4 (.alt 5 (.free 6 (.free 7 (.spl 7 (.free 8 (.alt 9 (.free 10 (.alt 11 (.free 12 (.spl 12 (.free 13 (.alt 14 (.free 15 (.free 16 (.alt 17 (.free 18 (.spl 18 (.free 19 (.alt 20 (.alt 21 (.alt 22 .nil .nil) .nil) .nil)) (.free 19 (.alt 20 (.alt 21 (.alt 22 .nil .nil) .nil) .nil)))) .nil))) .nil)) (.free 13 (.alt 14 (.free 15 (.free 16 (.alt 17 (.free 18 (.spl 18 (.free 19 (.alt 20 (.alt 21 (.alt 22 .nil .nil) .nil) .nil)) (.free 19 (.alt 20 (.alt 21 (.alt 22 .nil .nil) .nil) .nil)))) .nil))) .nil)))) .nil)) .nil)) (.free 8 (.alt 9 (.free 10 (.alt 11 (.free 12 (.spl 12 (.free 13 (.alt 14 (.free 15 (.free 16 (.alt 17 (.free 18 (.spl 18 (.free 19 (.alt 20 (.alt 21 (.alt 22 .nil .nil) .nil) .nil)) (.free 19 (.alt 20 (.alt 21 (.alt 22 .nil .nil) .nil) .nil)))) .nil))) .nil)) (.free 13 (.alt 14 (.free 15 (.free 16 (.alt 17 (.free 18 (.spl 18 (.free 19 (.alt 20 (.alt 21 (.alt 22 .nil .nil) .nil) .nil)) (.free 19 (.alt 20 (.alt 21 (.alt 22 .nil .nil) .nil) .nil)))) .nil))) .nil)))) .nil)) .nil))))) .nil) .nil) (.alt 4 (.alt 2 (.alt 5 (.free 6 (.free 7 (.spl 7 (.free 8 (.alt 9 (.free 10 (.alt 11 (.free 12 (.spl 12 (.free 13 (.alt 14 (.free 15 (.free 16 (.alt 17 (.free 18 (.spl 18 (.free 19 (.alt 20 (.alt 21 (.alt 22 .nil .nil) .nil) .nil)) (.free 19 (.alt 20 (.alt 21 (.alt 22 .nil .nil) .nil) .nil)))) .nil))) .nil)) (.free 13 (.alt 14 (.free 15 (.free 16 (.alt 17 (.free 18 (.spl 18 (.free 19 (.alt 20 (.alt 21 (.alt 22 .nil .nil) .nil) .nil)) (.free 19 (.alt 20 (.alt 21 (.alt 22 .nil .nil) .nil) .nil)))) .nil))) .nil)))) .nil)) .nil)) (.free 8 (.alt 9 (.free 10 (.alt 11 (.free 12 (.spl 12 (.free 13 (.alt 14 (.free 15 (.free 16 (.alt 17 (.free 18 (.spl 18 (.free 19 (.alt 20 (.alt 21 (.alt 22 .nil .nil) .nil) .nil)) (.free 19 (.alt 20 (.alt 21 (.alt 22 .nil .nil) .nil) .nil)))) .nil))) .nil)) (.free 13 (.alt 14 (.free 15 (.free 16 (.alt 17 (.free 18 (.spl 18 (.free 19 (.alt 20 (.alt 21 (.alt 22 .nil .nil) .nil) .nil)) (.free 19 (.alt 20 (.alt 21 (.alt 22 .nil .nil) .nil) .nil)))) .nil))) .nil)))) .nil)) .nil))))) .nil) .nil) .nil)) (.alt 4 (.alt 1 (.alt 2 (.alt 5 (.free 6 (.free 7 (.spl 7 (.free 8 (.alt 9 (.free 10 (.alt 11 (.free 12 (.spl 12 (.free 13 (.alt 14 (.free 15 (.free 16 (.alt 17 (.free 18 (.spl 18 (.free 19 (.alt 20 (.alt 21 (.alt 22 .nil .nil) .nil) .nil)) (.free 19 (.alt 20 (.alt 21 (.alt 22 .nil .nil) .nil) .nil)))) .nil))) .nil)) (.free 13 (.alt 14 (.free 15 (.free 16 (.alt 17 (.free 18 (.spl 18 (.free 19 (.alt 20 (.alt 21 (.alt 22 .nil .nil) .nil) .nil)) (.free 19 (.alt 20 (.alt 21 (.alt 22 .nil .nil) .nil) .nil)))) .nil))) .nil)))) .nil)) .nil)) (.free 8 (.alt 9 (.free 10 (.alt 11 (.free 12 (.spl 12 (.free 13 (.alt 14 (.free 15 (.free 16 (.alt 17 (.free 18 (.spl 18 (.free 19 (.alt 20 (.alt 21 (.alt 22 .nil .nil) .nil) .nil)) (.free 19 (.alt 20 (.alt 21 (.alt 22 .nil .nil) .nil) .nil)))) .nil))) .nil)) (.free 13 (.alt 14 (.free 15 (.free 16 (.alt 17 (.free 18 (.spl 18 (.free 19 (.alt 20 (.alt 21 (.alt 22 .nil .nil) .nil) .nil)) (.free 19 (.alt 20 (.alt 21 (.alt 22 .nil .nil) .nil) .nil)))) .nil))) .nil)))) .nil)) .nil))))) .nil) .nil) .nil) .nil))))) .p) .p)) λ_=>by kernel_rfl,by kernel_rfl⟩
def c_24:Con te:=af_ te [.d .str] [(.sl (.st 3),[some 41]),(.int .i64,[]),(.int .i64,[])] true λa=>hJ_ a.1
theorem ok_24:OKF 24 c_24:=⟨ab_ ad_ (aa_ ok_59 (aa_ ok_58 (aa_ ok_57 (aa_ ok_56 (aa_ ok_55 ac_))))) Tryz.func24 (by kernel_rfl) (pl := .s .p (.s .p (.s .p (.s .p (.s (.s .p (.lp ⟨[(5,.one (.own 15)),(16,.d (.int .i64))],[(15,false,.row 41 (.st 3) []),(5,true,.cells 41 [.own 16]),(16,false,.row 66 (.st 2) [])],[6,7,14,15],[],[],17⟩ ⟨[(5,.one (.own 15))],[(15,false,.row 41 (.st 3) []),(5,true,.cells 41 [.own 16]),(16,false,.row 66 (.st 2) [])],[6,7],[],[],17⟩ true (.s .p (.s .p (.j ⟨[(5,.one (.own 18))],[(18,false,.row 41 (.st 3) []),(5,true,.cells 41 [.own 19]),(19,false,.row 66 (.st 2) [])],[6,7,14,15,16],[],[],20⟩ true .p .p))))) (.j ⟨[(5,.one (.own 17))],[(17,false,.row 41 (.st 3) [])],[],[],[],18⟩ true .p .p)))))) λ_=>by kernel_rfl,by kernel_rfl⟩
def c_45:Con te:=af_ te [.d (.st 3)] [(.bool,[])] false λa=>eN_ a.1
theorem ok_45:OKF 45 c_45:=⟨ab_ ad_ (aa_ ok_59 ac_) Tryz.func45 (by kernel_rfl) (pl := .s .p (.s .p (.s .p (.s (.s .p (.lp ⟨[(18,.d (.int .i64))],[],[3,16,17],[],[],3014⟩ ⟨[],[],[],[],[],3014⟩ true .p)) .p)))) λ_=>by kernel_rfl,by kernel_rfl⟩
def c_46:Con te:=af_ te [.d (.sl (.st 0))] [(.sl (.st 0),[some 50])] false λa=>aH_ a.1
theorem ok_46:OKF 46 c_46:=⟨ab_ ad_ ac_ Tryz.func46 (by kernel_rfl) (pl := .p) λa=>(congrFun hh_ a.1).symm.trans (by kernel_rfl),by kernel_rfl⟩
def c_120:Con te:=af_ te [.bm 71 (.st 7) [] false,.d (.int .i64)] [(.str,[])] true λa=>ea_ a.1 a.2.1
theorem ok_120:OKF 120 c_120:=⟨ab_ ad_ ac_ Tryz.func120 (by kernel_rfl) (pl := .s .p (.s (.s (.dr [0,0,0,0,0,0,0,0,0,0,0,0,0,0,0,0,0,0,0,0,0,0,0,0,0,0,0,0,0,0,0,0,0,0,0,0,0,0,0,0] [] false []) .p) (.s (.dr [0,0,0,0,0,0,0,0,0,0,0,0,0,0,0,0,0,0,0,0,0,0,0] [] false []) .p))) λ_=>by kernel_rfl,by kernel_rfl⟩
theorem e_121(a:PA te [.bm 71 (.st 7) [] false,.d .str]):df_ a.1 a.2.1=gU_ Tryz.prog te eqL (ti 87 (inlF Tryz.prog te eqL ei_ Tryz.f87 (.p:Pl)) (tb 56 c_56 ei_)) Tryz.f121 [.bm 71 (.st 7) [] false,.d .str] [(.str,[]),(.int .i64,[])] (.s .p (.s (.s .p (.lp ⟨[(10,.d (.int .i64))],[(3,true,.row 9 .str [])],[0,1,8,9],[0],[],7⟩ ⟨[],[],[],[0],[],7⟩ true .p)) .p)) a:=by kernel_rfl
def c_121:Con te:=af_ te [.bm 71 (.st 7) [] false,.d .str] [(.str,[]),(.int .i64,[])] true λa=>df_ a.1 a.2.1
theorem ok_121:OKF 121 c_121:=⟨ab_ ad_ (c3_ ⟨eM_ ad_ ac_ Tryz.func87,by kernel_rfl⟩ (aa_ ok_56 ac_)) Tryz.func121 (by kernel_rfl) e_121,by kernel_rfl⟩
theorem e_85(a:PA te [.bm 71 (.st 7) [] false,.d .str]):bu_ a.1 a.2.1=gU_ Tryz.prog te eqL (ti 64 (inlF Tryz.prog te eqL (ti 104 dJ_ ei_) Tryz.f64 (.p:Pl)) (tb 121 c_121 (tb 120 c_120 (tb 56 c_56 (tb 100 c_100 (ti 65 fG_ ei_)))))) Tryz.f85 [.bm 71 (.st 7) [] false,.d .str] [(.str,[])] (.s .p (.s .p (.s (.lp ⟨[(1,.d .str)],[(0,true,.box 71 (.st 7)),(2,true,.cells 94 [.sbp 2,.own 4]),(4,false,.row 5 (.int .u8) [])],[0,5],[],[],5⟩ ⟨[],[(2,true,.cells 94 [.sbp 2,.own 4]),(4,false,.row 5 (.int .u8) []),(0,true,.box 71 (.st 7))],[5],[],[],5⟩ false .p) .p))) a:=by kernel_rfl
def c_85:Con te:=af_ te [.bm 71 (.st 7) [] false,.d .str] [(.str,[])] true λa=>bu_ a.1 a.2.1
theorem ok_85:OKF 85 c_85:=⟨ab_ ad_ (c3_ ⟨eM_ ad_ (c3_ eA_ ac_) Tryz.func64,by kernel_rfl⟩ (aa_ ok_121 (aa_ ok_120 (aa_ ok_56 (aa_ ok_100 (c3_ gg_ ac_)))))) Tryz.func85 (by kernel_rfl) e_85,by kernel_rfl⟩
def c_157:Con te:=af_ te [.g (.sl (.st 0)) [some 50],.f1 (.st 0) .bool] [(.sl (.st 0),[])] true λa=>bH_ a.1 a.2.1
theorem ok_157:OKF 157 c_157:=⟨ab_ ad_ (aa_ ok_119 ac_) Tryz.func157 (by kernel_rfl) (pl := .s .p (.s .p (.s .p (.s (.s .p (.lp ⟨[(5,.d (.int .i64)),(6,.d (.int .i64))],[(0,true,.row 50 (.st 0) [])],[0,1],[],[],11⟩ ⟨[(5,.d (.int .i64))],[(0,true,.row 50 (.st 0) [])],[0],[],[],11⟩ false (.s .p (.j ⟨[(5,.d (.int .i64))],[(0,true,.row 50 (.st 0) [])],[0,1,6],[],[],15⟩ false .p .p)))) .p)))) λ_=>by kernel_rfl,by kernel_rfl⟩
def c_158:Con te:=af_ te [.d (.st 0),.p .str] [(.bool,[])] false λa=>kg_ a.1 a.2.1
theorem ok_158:OKF 158 c_158:=⟨ab_ ad_ ac_ Tryz.func158 (by kernel_rfl) (pl := .p) λ_=>by kernel_rfl,by kernel_rfl⟩
def c_122:Con te:=af_ te [.d (.sl (.st 0)),.d .str] [(.sl (.st 0),[])] true λa=>gX_ a.1 a.2.1
theorem ok_122:OKF 122 c_122:=⟨ab_ ad_ (aa_ ok_158 (aa_ ok_157 (aa_ ok_46 ac_))) Tryz.func122 (by kernel_rfl) (pl := .p) λ_=>by kernel_rfl,by kernel_rfl⟩
def c_180:Con te:=af_ te [.d (.st 0),.p .str] [(.bool,[])] false λa=>l0_ a.1 a.2.1
theorem ok_180:OKF 180 c_180:=⟨ab_ ad_ ac_ Tryz.func180 (by kernel_rfl) (pl := .p) λ_=>by kernel_rfl,by kernel_rfl⟩
def c_160:Con te:=af_ te [.d (.sl (.st 0)),.d .str] [(.int .i64,[])] false λa=>iC_ a.1 a.2.1
theorem ok_160:OKF 160 c_160:=⟨ab_ ad_ (aa_ ok_180 (aa_ ok_119 ac_)) Tryz.func160 (by kernel_rfl) (pl := .p) λ_=>by kernel_rfl,by kernel_rfl⟩
def c_159:Con te:=af_ te [.d (.sl (.st 0)),.d .str] [(.str,[]),(.bool,[])] false λa=>jr_ a.1 a.2.1
theorem ok_159:OKF 159 c_159:=⟨ab_ ad_ (aa_ ok_160 ac_) Tryz.func159 (by kernel_rfl) (pl := .p) λ_=>by kernel_rfl,by kernel_rfl⟩
def c_123:Con te:=af_ te [.d (.sl (.st 0)),.d (.sl (.st 0))] [(.bool,[])] false λa=>gZ_ a.1 a.2.1
theorem ok_123:OKF 123 c_123:=⟨ab_ ad_ (aa_ ok_159 ac_) Tryz.func123 (by kernel_rfl) (pl := .s .p (.s (.s .p (.lp ⟨[(11,.d (.int .i64))],[],[0,9,10],[],[],4⟩ ⟨[],[],[],[],[],4⟩ true .p)) .p)) λ_=>by kernel_rfl,by kernel_rfl⟩
def c_124:Con te:=af_ te [.d (.sl (.st 0)),.d .str,.d .str] [(.sl (.st 0),[some 50])] false λa=>k0_ a.1 a.2.1 a.2.2.1
theorem ok_124:OKF 124 c_124:=⟨ab_ ad_ (aa_ ok_160 (aa_ ok_46 ac_)) Tryz.func124 (by kernel_rfl) (pl := .p) λ_=>by kernel_rfl,by kernel_rfl⟩
def c_86:Con te:=af_ te [.bm 71 (.st 7) [] false,.d .str,.d .str] [(.bool,[])] true λa=>cB_ a.1 a.2.1 a.2.2.1
theorem ok_86:OKF 86 c_86:=⟨ab_ ad_ (aa_ ok_124 (aa_ ok_41 (aa_ ok_123 (aa_ ok_35 (aa_ ok_122 ac_))))) Tryz.func86 (by kernel_rfl) (pl := .s .p (.s .p (.s .p (.s .p (.s .p (.s .p (.s (.s .p (.lp ⟨[(49,.d (.int .i64))],[(0,true,.cells 71 [.v .str,.v .str,.v .str,.v .str,.v (.sl (.st 0)),.v .str,.v .str,.v (.sl (.int .i64)),.v .str]),(5,true,.row 50 (.st 0) [])],[0,47,48],[],[],23⟩ ⟨[],[(0,true,.box 71 (.st 7))],[],[],[],23⟩ false (.s .p (.s .p (.s (.s .p (.dr [0,0,0,0,0,0,0,0,0,0,1,4,4,4,2] [] false [])) .p))))) .p))))))) λ_=>by kernel_rfl,by kernel_rfl⟩
def c_192:Con te:=af_ te [.d (.int .u64),.d (.int .u64)] [(.int .u64,[]),(.int .u64,[])] false λa=>bits_Mul64 a.1 a.2.1
theorem ok_192:OKF 192 c_192:=⟨ab_ ad_ ac_ Tryz.func192 (by kernel_rfl) (pl := .p) λ_=>by kernel_rfl,by kernel_rfl⟩
def c_184:Con te:=af_ te [.d (.int .u64),.d (.int .u64)] [(.int .u64,[]),(.int .u64,[])] false λa=>bits_Mul a.1 a.2.1
theorem ok_184:OKF 184 c_184:=⟨ab_ ad_ (aa_ ok_192 ac_) Tryz.func184 (by kernel_rfl) (pl := .p) λ_=>by kernel_rfl,by kernel_rfl⟩
def c_166:Con te:=af_ te [.d (.sl (.int .i64)),.d (.int .i64)] [(.sl (.int .i64),[some 3])] false λa=>dm_ a.1 a.2.1
theorem ok_166:OKF 166 c_166:=⟨ab_ ad_ (aa_ ok_184 ac_) Tryz.func166 (by kernel_rfl) (pl := .s .p (.j ⟨[],[],[0,1],[],[],1⟩ false .p (.s .p (.j ⟨[],[],[0,6],[],[],12⟩ false .p (.s .p (.s .p (.s (.lp ⟨[(8,.d (.int .i64))],[(14,true,.row 3 (.int .i64) [])],[7],[],[],22⟩ ⟨[],[(14,true,.row 3 (.int .i64) [])],[7],[],[],22⟩ false (.s .p (.dr [4,0,0,0,0,0,0,2,4,4] [0,1,2,3,4,5,6] false []))) .p))))))) λ_=>by kernel_rfl,by kernel_rfl⟩
def c_128:Con te:=af_ te [.d (.sl (.int .i64))] [(.sl (.int .i64),[some 3])] false λa=>aU_ a.1
theorem ok_128:OKF 128 c_128:=⟨ab_ ad_ ac_ Tryz.func128 (by kernel_rfl) (pl := .p) λa=>(congrFun ki_ a.1).symm.trans (by kernel_rfl),by kernel_rfl⟩
def cS_165(rec0:regex_machine->Int->(List Int)->Option regex_machine):Con te:=af_ te [.bm 191 (.st 9) [none,none,none,none,some 3,some 196] false,.d (.int .i64),.d (.sl (.int .i64))] [] true λa=>rec0 a.1 a.2.1 a.2.2.1
theorem okS_165(rec0:regex_machine->Int->(List Int)->Option regex_machine)(h:OKF 165 (cS_165 rec0)):OKF 165 (cS_165 (b7_ rec0)):=⟨ab_ ad_ (aa_ ok_128 (aa_ h ac_)) Tryz.func165 (by kernel_rfl) (pl := .s .p (.s .p (.s .p (.s .p (.s .p (.s .p (.s .p (.s .p (.s .p (.s (.s .p (.s (.dr [0,0,0,0,0,0,0,0,2] [] false []) .p)) (.s .p (.s .p (.s .p (.s (.s (.dr [0,0,0,0,0,0,0,0,0,0] [] false []) .p) .p)))))))))))))) λ_=>by kernel_rfl,by kernel_rfl⟩
theorem okN_165:∀n,OKF 165 (cS_165 (al_ n))
 | 0=>⟨fr_ λ_=>rfl,by kernel_rfl⟩
 | n+1=>okS_165 _ (okN_165 n)
def c_165:Con te:=cS_165 (al_ BIG)
theorem ok_165:OKF 165 c_165:=okN_165 BIG
def c_168:Con te:=af_ te [.d (.st 4),.d (.int .u8)] [(.bool,[])] false λa=>eE_ a.1 a.2.1
theorem ok_168:OKF 168 c_168:=⟨ab_ ad_ ac_ Tryz.func168 (by kernel_rfl) (pl := .s .p (.s (.s .p (.s .p (.s .p (.s .p (.s .p (.s .p (.s (.s .p (.s (.s .p (.lp ⟨[(5,.d .bool),(6,.d (.int .i64))],[],[1,2],[0],[],13⟩ ⟨[(5,.d .bool)],[],[2],[0],[],13⟩ false .p)) .p)) .p))))))) .p)) λ_=>by kernel_rfl,by kernel_rfl⟩
theorem e_127(a:PA te [.d (.st 5),.d .str,.d (.int .i64),.d .bool]):fc_ a.1 a.2.1 a.2.2.1 a.2.2.2.1=gU_ Tryz.prog te eqL (ti 167 (inlF Tryz.prog te eqL ei_ Tryz.f167 (.s .p (.s (.s .p (.lx ⟨[(10,.d (.int .i64))],[(257,true,.row 196 (.st 8) [])],[0,8,9],[7,256],[],266⟩ ⟨[],[(257,true,.row 196 (.st 8) [])],[],[7,256],[],266⟩ ⟨[(2,.d (.sl (.int .i64)))],[(257,true,.row 196 (.st 8) [])],[],[7,256],[],266⟩ (.s .p (.s .p (.s (.s .p (.s (.dr [0,0,0,0,0,0,0,0,0,0,0] [] false []) (.s (.s .p .rx) .p))) .p))))) .p))) (ti 164 (inlF Tryz.prog te eqL ei_ Tryz.f164 (.p:Pl)) (tb 168 c_168 (tb 165 c_165 (tb 166 c_166 ei_))))) Tryz.f127 [.d (.st 5),.d .str,.d (.int .i64),.d .bool] [(.sl (.int .i64),[]),(.int .i64,[])] (.s .p (.s .p (.s .p (.s .p (.s .p (.s .p (.lp ⟨[(11,.d (.sl (.int .i64))),(12,.d (.int .i64))],[(7,true,.cells 191 [.v (.sl (.st 4)),.v (.int .i64),.v .str,.v (.int .i64),.own 256,.own 257]),(256,false,.row 3 (.int .i64) []),(257,false,.row 196 (.st 8) [])],[1,3,4,10],[0],[],258⟩ ⟨[],[],[],[],[],256⟩ true (.j ⟨[(11,.d (.sl (.int .i64))),(12,.d (.int .i64))],[(7,true,.cells 191 [.v (.sl (.st 4)),.v (.int .i64),.v .str,.v (.int .i64),.own 256,.own 257]),(256,true,.row 3 (.int .i64) []),(257,true,.row 196 (.st 8) [])],[1,3,4,10],[0],[],258⟩ false (.s .p (.s .p (.s (.dr [0,0,0,0,0,0,0] [] false []) .p))) (.s .p (.s (.dr [0,0,0,0,0,0,0,0,0,0,0,0] [] false []) (.s .p (.s .p (.lp ⟨[(90,.d (.int .i64))],[(7,true,.cells 191 [.v (.sl (.st 4)),.v (.int .i64),.v .str,.v (.int .i64),.own 7511,.own 7512]),(7511,false,.row 3 (.int .i64) []),(7512,false,.row 196 (.st 8) []),(257,true,.row 196 (.st 8) [])],[1,3,4,10,11,12,15,88,89],[0],[],7513⟩ ⟨[],[(7,true,.cells 191 [.v (.sl (.st 4)),.v (.int .i64),.v .str,.v (.int .i64),.own 7511,.own 7512]),(7511,false,.row 3 (.int .i64) []),(7512,false,.row 196 (.st 8) [])],[1,3,4,10,11,12],[0],[],7513⟩ false (.s .p (.s .p (.j ⟨[],[(7,true,.cells 191 [.v (.sl (.st 4)),.v (.int .i64),.v .str,.v (.int .i64),.own 7514,.own 7515]),(7514,false,.row 3 (.int .i64) []),(7515,false,.row 196 (.st 8) []),(257,true,.row 196 (.st 8) [])],[1,3,4,10,11,12,15,88,89,90],[0],[],7516⟩ false .p .p)))))))))))))))) a:=by kernel_rfl
def c_127:Con te:=af_ te [.d (.st 5),.d .str,.d (.int .i64),.d .bool] [(.sl (.int .i64),[]),(.int .i64,[])] true λa=>fc_ a.1 a.2.1 a.2.2.1 a.2.2.2.1
theorem ok_127:OKF 127 c_127:=⟨ab_ ad_ (c3_ ⟨eM_ ad_ ac_ Tryz.func167,by kernel_rfl⟩ (c3_ ⟨eM_ ad_ ac_ Tryz.func164,by kernel_rfl⟩ (aa_ ok_168 (aa_ ok_165 (aa_ ok_166 ac_))))) Tryz.func127 (by kernel_rfl) e_127,by kernel_rfl⟩
def c_89:Con te:=af_ te [.d (.st 5),.d .str] [(.sl (.int .i64),[some 3]),(.bool,[])] false λa=>b0_ a.1 a.2.1
theorem ok_89:OKF 89 c_89:=⟨ab_ ad_ (aa_ ok_128 (aa_ ok_127 ac_)) Tryz.func89 (by kernel_rfl) (pl := .p) λ_=>by kernel_rfl,by kernel_rfl⟩
theorem e_47(a:PA te [.bm 71 (.st 7) [] false,.d (.st 2)]):bn_ a.1 a.2.1=gU_ Tryz.prog te eqL (ti 87 (inlF Tryz.prog te eqL ei_ Tryz.f87 (.p:Pl)) (tb 89 c_89 (tb 88 c_88 (tb 86 c_86 (tb 85 c_85 ei_))))) Tryz.f47 [.bm 71 (.st 7) [] false,.d (.st 2)] [(.bool,[])] (.s .p (.s .p (.s .p (.s .p (.s (.dr [0,0,0,0,0,2,4] [] false []) (.s .p (.s .p (.s .p (.s (.dr [0,0,0,0,1,4,4,4,4,4] [] false []) (.j ⟨[],[(0,true,.cells 71 [.v .str,.v .str,.v .str,.v .str,.v (.sl (.st 0)),.v .str,.v .str,.v (.sl (.int .i64)),.v .str])],[11],[],[],4276⟩ false .p .p)))))))))) a:=by kernel_rfl
def c_47:Con te:=af_ te [.bm 71 (.st 7) [] false,.d (.st 2)] [(.bool,[])] true λa=>bn_ a.1 a.2.1
theorem ok_47:OKF 47 c_47:=⟨ab_ ad_ (c3_ ⟨eM_ ad_ ac_ Tryz.func87,by kernel_rfl⟩ (aa_ ok_89 (aa_ ok_88 (aa_ ok_86 (aa_ ok_85 ac_))))) Tryz.func47 (by kernel_rfl) e_47,by kernel_rfl⟩
def c_19:Con te:=af_ te [.d (.st 3),.d (.st 1)] [(.st 1,[]),(.str,[]),(.bool,[])] true λa=>b9_ a.1 a.2.1
theorem ok_19:OKF 19 c_19:=⟨ab_ ad_ (aa_ ok_47 (aa_ ok_46 (aa_ ok_15 (aa_ ok_45 ac_)))) Tryz.func19 (by kernel_rfl) (pl := .s .p (.s .p (.s .p (.s .p (.s (.s .p (.lp ⟨[(32,.d (.int .i64))],[(4014,true,.cells 71 [.v .str,.v .str,.v .str,.v .str,.v (.sl (.st 0)),.v .str,.v .str,.v (.sl (.int .i64)),.v .str])],[4,7,30,31],[4],[],4031⟩ ⟨[],[(4014,true,.box 71 (.st 7))],[4,7],[4],[],4031⟩ true .p)) (.s .p (.s (.dr [0,0,0,0,0,0,0,0,1,4,4] [] true [4]) .p))))))) λ_=>by kernel_rfl,by kernel_rfl⟩
theorem okS_10(f11:Xx->Option (Str×Int))(f13:Str->Option (Xx×Int))(f24:Str->Option ((List Xw)×Int×Int))(f19:Xw->Xx->Option (Xx×Str×Bool))(h11:OKF 11 (af_ te [.d (.st 1)] [(.str,[]),(.int .i64,[])] false λa=>f11 a.1))(h13:OKF 13 (af_ te [.d .str] [(.st 1,[none,none,none,none,some 50]),(.int .i64,[])] false λa=>f13 a.1))(h24:OKF 24 (af_ te [.d .str] [(.sl (.st 3),[some 41]),(.int .i64,[]),(.int .i64,[])] true λa=>f24 a.1))(h19:OKF 19 (af_ te [.d (.st 3),.d (.st 1)] [(.st 1,[]),(.str,[]),(.bool,[])] true λa=>f19 a.1 a.2.1)):OKF 10 (af_ te [] [(.bool,[])] false λ_=>id_ f11 f13 f24 f19):=⟨ab_ ad_ (aa_ h19 (aa_ h24 (aa_ h13 (aa_ h11 ac_)))) Tryz.func10 (by kernel_rfl) (pl := .p) λ_=>by kernel_rfl,by kernel_rfl⟩
def c_10:Con te:=af_ te [] [(.bool,[])] false λ_=>cq_
theorem ok_10:OKF 10 c_10:=okS_10 _ _ _ _ ok_11 ok_13 ok_24 ok_19
def c_42:Con te:=af_ te [.d .str] [(.int .i64,[])] false λa=>g0_ a.1
theorem ok_42:OKF 42 c_42:=⟨ab_ ad_ ac_ Tryz.func42 (by kernel_rfl) (pl := .s .p (.s .p (.s (.s .p (.lp ⟨[(3,.d (.int .i64))],[],[0],[],[],5⟩ ⟨[],[],[],[],[],5⟩ true .p)) .p))) λ_=>by kernel_rfl,by kernel_rfl⟩
def c_152:Con te:=af_ te [.d .str] [(.bool,[])] false λa=>g1_ a.1
theorem ok_152:OKF 152 c_152:=⟨ab_ ad_ ac_ Tryz.func152 (by kernel_rfl) (pl := .p) λ_=>by kernel_rfl,by kernel_rfl⟩
def c_116:Con te:=af_ te [.d .str] [(.bool,[])] false λa=>iD_ a.1
theorem ok_116:OKF 116 c_116:=⟨ab_ ad_ (aa_ ok_152 ac_) Tryz.func116 (by kernel_rfl) (pl := .s .p (.j ⟨[(0,.d .str)],[],[],[],[],1⟩ false .p (.s (.s .p (.lp ⟨[(3,.d (.int .i64))],[],[0],[],[],2⟩ ⟨[],[],[0],[],[],2⟩ true .p)) .p))) λ_=>by kernel_rfl,by kernel_rfl⟩
def c_117:Con te:=af_ te [.d .str] [(.bool,[])] false λa=>hK_ a.1
theorem ok_117:OKF 117 c_117:=⟨ab_ ad_ ac_ Tryz.func117 (by kernel_rfl) (pl := .s .p (.s (.s .p (.lp ⟨[(3,.d (.int .i64))],[],[0],[],[],2⟩ ⟨[],[],[],[],[],2⟩ true .p)) .p)) λ_=>by kernel_rfl,by kernel_rfl⟩
def c_80:Con te:=af_ te [.d (.sl (.st 0)),.d (.st 0)] [(.int .i64,[])] false λa=>gF_ a.1 a.2.1
theorem ok_80:OKF 80 c_80:=⟨ab_ ad_ (aa_ ok_117 (aa_ ok_116 ac_)) Tryz.func80 (by kernel_rfl) (pl := .s .p (.s .p (.s (.s .p (.lp ⟨[(5,.d (.int .i64))],[],[0,3],[0],[],9023⟩ ⟨[],[],[],[],[],9023⟩ true (.s .p (.s (.s (.dr [0,0,0,0,0,0,0,0] [] false []) .p) .p)))) .p))) λ_=>by kernel_rfl,by kernel_rfl⟩
def c_43:Con te:=af_ te [.d (.sl (.st 0))] [(.int .i64,[])] false λa=>hL_ a.1
theorem ok_43:OKF 43 c_43:=⟨ab_ ad_ (aa_ ok_80 ac_) Tryz.func43 (by kernel_rfl) (pl := .s .p (.s (.s .p (.lp ⟨[(3,.d (.int .i64))],[],[0],[],[],2⟩ ⟨[],[],[],[],[],2⟩ true (.s .p (.s (.s (.dr [0,0,0,0,0,0,0,0,0] [] false []) .p) .p)))) .p)) λ_=>by kernel_rfl,by kernel_rfl⟩
def c_16:Con te:=af_ te [.d (.st 1)] [(.int .i64,[])] false λa=>fR_ a.1
theorem ok_16:OKF 16 c_16:=⟨ab_ ad_ (aa_ ok_43 (aa_ ok_42 ac_)) Tryz.func16 (by kernel_rfl) (pl := .s .p (.s .p (.s (.s .p (.lp ⟨[(4,.d (.int .i64))],[(11,true,.row 9 .str [])],[1,3],[0],[],15⟩ ⟨[],[],[1],[0],[],15⟩ true .p)) (.s .p (.s (.s .p (.lp ⟨[(7,.d (.int .i64))],[],[1],[0],[],22⟩ ⟨[],[],[1],[0],[],22⟩ true .p)) .p))))) λ_=>by kernel_rfl,by kernel_rfl⟩
def c_78:Con te:=af_ te [.d (.int .u8)] [(.bool,[])] false λa=>fS_ a.1
theorem ok_78:OKF 78 c_78:=⟨ab_ ad_ ac_ Tryz.func78 (by kernel_rfl) (pl := .p) λ_=>by kernel_rfl,by kernel_rfl⟩
def c_114:Con te:=af_ te [.d .str,.d (.int .i64)] [(.bool,[])] false λa=>fB_ a.1 a.2.1
theorem ok_114:OKF 114 c_114:=⟨ab_ ad_ (aa_ ok_78 ac_) Tryz.func114 (by kernel_rfl) (pl := .p) λ_=>by kernel_rfl,by kernel_rfl⟩
def c_115:Con te:=af_ te [.d .str,.d (.int .i64)] [(.str,[]),(.int .i64,[]),(.int .i64,[])] false λa=>g3_ a.1 a.2.1
theorem ok_115:OKF 115 c_115:=⟨ab_ ad_ ac_ Tryz.func115 (by kernel_rfl) (pl := .s .p (.s .p (.s (.lp ⟨[(1,.d (.int .i64)),(7,.d .str)],[],[0],[],[],4⟩ ⟨[(1,.d (.int .i64))],[],[],[],[],4⟩ true .p) .p))) λ_=>by kernel_rfl,by kernel_rfl⟩
def c_79:Con te:=af_ te [.d .str,.d (.int .i64)] [(.st 0,[]),(.int .i64,[]),(.int .i64,[])] false λa=>iE_ a.1 a.2.1
theorem ok_79:OKF 79 c_79:=⟨ab_ ad_ (aa_ ok_115 (aa_ ok_114 (aa_ ok_78 ac_))) Tryz.func79 (by kernel_rfl) (pl := .s .p (.s .p (.s (.lp ⟨[(1,.d (.int .i64))],[],[0,4,7],[0],[],6⟩ ⟨[(1,.d (.int .i64))],[],[0,4,7],[0],[],6⟩ false .p) (.s .p (.s .p (.s .p (.s .p (.s (.s .p (.s (.s .p (.j ⟨[(11,.d (.int .i64))],[],[4,8,9,10],[0,11],[],20045⟩ false .p .p)) .p)) (.s .p (.s (.lp ⟨[(1,.d (.int .i64))],[],[0,4,7,8],[0,11],[],20036⟩ ⟨[(1,.d (.int .i64))],[],[0,4,7,8],[0,11],[],20036⟩ true .p) .p)))))))))) λ_=>by kernel_rfl,by kernel_rfl⟩
def c_37:Con te:=af_ te [.d .str] [(.sl (.st 0),[some 50]),(.int .i64,[]),(.int .i64,[])] false λa=>hM_ a.1
theorem ok_37:OKF 37 c_37:=⟨ab_ ad_ (aa_ ok_80 (aa_ ok_79 (aa_ ok_78 ac_))) Tryz.func37 (by kernel_rfl) (pl := .s .p (.s .p (.s .p (.lp ⟨[(5,.one (.own 5)),(6,.d (.int .i64))],[(5,false,.row 50 (.st 0) [])],[0],[],[],6⟩ ⟨[],[],[],[],[],5⟩ true (.s (.lp ⟨[(6,.d (.int .i64))],[],[0,5],[5],[],6⟩ ⟨[(6,.d (.int .i64))],[],[0,5],[5],[],6⟩ false .p) (.s .p (.s .p (.j ⟨[(9,.d (.int .i64))],[],[0,5,6,7,8],[5,17],[],23⟩ false .p .p)))))))) λ_=>by kernel_rfl,by kernel_rfl⟩
def c_44:Con te:=af_ te [.d (.sl (.st 0)),.d (.sl (.st 0))] [(.bool,[])] false λa=>e2_ a.1 a.2.1
theorem ok_44:OKF 44 c_44:=⟨ab_ ad_ ac_ Tryz.func44 (by kernel_rfl) (pl := .s .p (.s .p (.s (.s .p (.lp ⟨[(5,.d (.int .i64))],[],[0,1],[],[],7⟩ ⟨[],[],[],[],[],7⟩ true (.s .p (.s (.s (.dr [0,0,0,0,0,0,0,0,0] [] false []) .p) .p)))) .p))) λ_=>by kernel_rfl,by kernel_rfl⟩
def c_17:Con te:=af_ te [.d (.st 1),.d (.st 1)] [(.bool,[])] false λa=>fC_ a.1 a.2.1
theorem ok_17:OKF 17 c_17:=⟨ab_ ad_ (aa_ ok_44 ac_) Tryz.func17 (by kernel_rfl) (pl := .p) λ_=>by kernel_rfl,by kernel_rfl⟩
def c_23:Con te:=af_ te [.d (.sl (.st 3))] [(.bool,[])] false λa=>js_ a.1
theorem ok_23:OKF 23 c_23:=⟨ab_ ad_ ac_ Tryz.func23 (by kernel_rfl) (pl := .s .p (.s .p (.s .p (.s (.s .p (.lp ⟨[(3,.d (.int .i64)),(12,.d (.int .i64))],[],[0,11],[],[],8⟩ ⟨[],[],[],[],[],8⟩ true (.s .p (.s .p (.s (.s .p (.s .p (.s .p (.s .p (.lp ⟨[(32,.d (.int .i64))],[],[0,3,4,11,12,31],[],[],30⟩ ⟨[],[],[0,3,11,12],[],[],30⟩ true .p))))) .p))))) .p)))) λ_=>by kernel_rfl,by kernel_rfl⟩
def c_18:Con te:=af_ te [.d (.sl (.st 3)),.d (.st 1)] [(.bool,[])] false λa=>g5_ a.1 a.2.1
theorem ok_18:OKF 18 c_18:=⟨ab_ ad_ (aa_ ok_9 (aa_ ok_23 ac_)) Tryz.func18 (by kernel_rfl) (pl := .s .p (.s .p (.s (.s .p (.lp ⟨[(39,.d (.int .i64))],[],[0,38],[],[],25011⟩ ⟨[],[],[0],[],[],25011⟩ true (.s .p (.s .p (.s (.s .p (.s .p (.lp ⟨[(48,.d (.int .i64))],[],[0,5,38,39,47],[],[],25021⟩ ⟨[],[],[0,38,39],[],[],25021⟩ true .p))) .p))))) .p))) λ_=>by kernel_rfl,by kernel_rfl⟩
def c_103:Con te:=af_ te [.d .str] [(.bool,[])] false λa=>fT_ a.1
theorem ok_103:OKF 103 c_103:=⟨ab_ ad_ ac_ Tryz.func103 (by kernel_rfl) (pl := .p) λ_=>by kernel_rfl,by kernel_rfl⟩
def c_95:Con te:=af_ te [.g (.st 10) [some 126],.d (.st 4)] [(.st 10,[some 126])] false λa=>aN_ a.1 a.2.1
theorem ok_95:OKF 95 c_95:=⟨ab_ ad_ ac_ Tryz.func95 (by kernel_rfl) (pl := .p) λ_=>by kernel_rfl,by kernel_rfl⟩
def c_131:Con te:=af_ te [.d .str,.l (.st 10) [some 126],.d (.int .u8)] [(.bool,[])] false λa=>bI_ a.1 a.2.1 a.2.2.1
theorem ok_131:OKF 131 c_131:=⟨ab_ ad_ ac_ Tryz.func131 (by kernel_rfl) (pl := .p) λ_=>by kernel_rfl,by kernel_rfl⟩
theorem e_193(a:PA te [.d .str,.g (.st 10) [some 126]]):fU_ a.1 a.2.1=gU_ Tryz.prog te eqL (ti 195 (inlF Tryz.prog te eqL ei_ Tryz.f195 (.p:Pl)) (tb 95 c_95 (tb 131 c_131 ei_))) Tryz.f193 [.d .str,.g (.st 10) [some 126]] [(.st 10,[some 126])] (.s .p (.s .p (.s .p (.j ⟨[],[(1,true,.cells 122 [.own 0,.v (.int .i64),.v (.int .i64),.v .bool]),(0,true,.row 126 (.st 4) []),(12,true,.box 126 (.st 4))],[0,3,4,5],[3],[],16⟩ false .p (.s .p (.s (.lp ⟨[(6,.one (.own 17))],[(1,true,.cells 122 [.own 0,.v (.int .i64),.v (.int .i64),.v .bool]),(0,true,.row 126 (.st 4) []),(17,false,.row 5 (.int .u8) [])],[0,3,4,5],[3,12],[],18⟩ ⟨[(6,.one (.own 17))],[(1,true,.cells 122 [.own 0,.v (.int .i64),.v (.int .i64),.v .bool]),(0,true,.row 126 (.st 4) []),(17,false,.row 5 (.int .u8) [])],[0,3,4,5],[3,12],[],18⟩ true (.s .p (.s .p (.j ⟨[(7,.one (.ptr 17030)),(8,.d (.int .u8))],[(0,true,.row 126 (.st 4) []),(17030,false,.cells 122 [.own 0,.v (.int .i64),.v (.int .i64),.v .bool])],[0,3,4,5,6],[1,3,12,17],[],17031⟩ false .p (.s .p (.j ⟨[(9,.d (.int .u8))],[(0,true,.row 126 (.st 4) []),(17030,true,.cells 122 [.own 0,.v (.int .i64),.v (.int .i64),.v .bool])],[0,3,4,5,6,7,8],[1,3,12,17],[],17033⟩ true (.s .p (.s (.s .p (.s .p (.s .p (.j ⟨[(9,.d (.int .u8))],[(0,true,.row 126 (.st 4) []),(17030,true,.cells 122 [.own 0,.v (.int .i64),.v (.int .i64),.v .bool])],[0,3,4,5,6,7,8,10],[1,3,12,17],[],29054⟩ false .p .p)))) .p)) .p)))))) .p)))))) a:=by kernel_rfl
def c_193:Con te:=af_ te [.d .str,.g (.st 10) [some 126]] [(.st 10,[some 126])] false λa=>fU_ a.1 a.2.1
theorem ok_193:OKF 193 c_193:=⟨ab_ ad_ (c3_ ⟨eM_ ad_ ac_ Tryz.func195,by kernel_rfl⟩ (aa_ ok_95 (aa_ ok_131 ac_))) Tryz.func193 (by kernel_rfl) e_193,by kernel_rfl⟩
def c_194:Con te:=af_ te [.d (.int .u8)] [(.bool,[])] false λa=>gb_ a.1
theorem ok_194:OKF 194 c_194:=⟨ab_ ad_ ac_ Tryz.func194 (by kernel_rfl) (pl := .s .p (.s .p (.s (.s .p (.lp ⟨[(4,.d (.int .i64))],[],[0,3],[],[],3⟩ ⟨[],[],[],[],[],3⟩ true .p)) .p))) λ_=>by kernel_rfl,by kernel_rfl⟩
def cS_94(rec0:Str->Xj->Option Xj):Con te:=af_ te [.d .str,.g (.st 10) [some 126]] [(.st 10,[some 126])] false λa=>rec0 a.1 a.2.1
def cS_185(f94:Str->Xj->Option Xj):Con te:=af_ te [.d .str,.g (.st 10) [some 126]] [(.st 10,[some 126])] false λa=>bo_ f94 a.1 a.2.1
theorem okS_185(f94:Str->Xj->Option Xj)(h94:OKF 94 (cS_94 f94)):OKF 185 (cS_185 f94):=⟨ab_ (tab:=(ti 195 (inlF Tryz.prog te eqL ei_ Tryz.f195 (.p:Pl)) (tb 194 c_194 (tb 193 c_193 (tb 131 c_131 (tb 94 (cS_94 f94) (tb 95 c_95 ei_))))))) ad_ (c3_ ⟨eM_ ad_ ac_ Tryz.func195,by kernel_rfl⟩ (aa_ ok_194 (aa_ ok_193 (aa_ ok_131 (aa_ h94 (aa_ ok_95 ac_)))))) Tryz.func185 (by kernel_rfl) (pl := .s .p (.s .p (.j ⟨[],[(1,true,.cells 122 [.own 10,.v (.int .i64),.v (.int .i64),.v .bool]),(10,false,.row 126 (.st 4) [])],[3,4],[3],[],11⟩ true (.s .p (.s .p (.s .p (.s .p (.s .p (.s .p (.s .p (.s .p (.s .p (.s .p (.s .p (.s .p (.j ⟨[(7,.one (.ptr 3024)),(8,.d (.int .u8))],[(3024,false,.cells 122 [.own 0,.v (.int .i64),.v (.int .i64),.v .bool]),(0,true,.row 126 (.st 4) [])],[4],[3],[],3025⟩ false .p .p))))))))))))) .p))) λ_=>by kernel_rfl,by kernel_rfl⟩
def c_132:Con te:=af_ te [.g (.st 10) [some 126],.d (.int .i64),.d (.st 4)] [(.st 10,[some 126])] false λa=>el_ a.1 a.2.1 a.2.2.1
theorem ok_132:OKF 132 c_132:=⟨ab_ ad_ ac_ Tryz.func132 (by kernel_rfl) (pl := .s .p (.s .p (.s .p (.s .p (.s (.s .p (.lp ⟨[(7,.one (.own 26)),(8,.d (.int .i64))],[(0,true,.row 126 (.st 4) []),(26,false,.row 126 (.st 4) [])],[3,6],[1,5],[],27⟩ ⟨[(7,.one (.own 26))],[(0,true,.row 126 (.st 4) []),(26,false,.row 126 (.st 4) [])],[3,6],[1,5],[],27⟩ false (.s .p (.s (.s .p (.j ⟨[],[(38,true,.box 126 (.st 4))],[3,6,7,8,9],[0,1,5,26],[35],42⟩ false .p (.j ⟨[],[(38,true,.box 126 (.st 4))],[3,6,7,8,9],[0,1,5,26],[35],42⟩ false .p .p))) .p)))) .p))))) λ_=>by kernel_rfl,by kernel_rfl⟩
def cS_169(f94:Str->Xj->Option Xj):Con te:=af_ te [.d .str,.g (.st 10) [some 126]] [(.st 10,[some 126])] false λa=>c9_ f94 a.1 a.2.1
theorem okS_169(f94:Str->Xj->Option Xj)(h94:OKF 94 (cS_94 f94)):OKF 169 (cS_169 f94):=⟨ab_ ad_ (aa_ ok_95 (aa_ ok_132 (aa_ ok_131 (aa_ (okS_185 f94 h94) ac_)))) Tryz.func169 (by kernel_rfl) (pl := .s .p (.s .p (.s .p (.j ⟨[],[(1,true,.cells 122 [.own 16,.v (.int .i64),.v (.int .i64),.v .bool]),(16,false,.row 126 (.st 4) [])],[3,4],[3],[],17⟩ false .p .p)))) λ_=>by kernel_rfl,by kernel_rfl⟩
def cS_130(f94:Str->Xj->Option Xj):Con te:=af_ te [.d .str,.g (.st 10) [some 126]] [(.st 10,[some 126])] false λa=>em_ f94 a.1 a.2.1
theorem okS_130(f94:Str->Xj->Option Xj)(h94:OKF 94 (cS_94 f94)):OKF 130 (cS_130 f94):=⟨ab_ ad_ (aa_ (okS_169 f94 h94) ac_) Tryz.func130 (by kernel_rfl) (pl := .s .p (.s (.lp ⟨[],[(1,true,.cells 122 [.own 5,.v (.int .i64),.v (.int .i64),.v .bool]),(5,false,.row 126 (.st 4) [])],[0,3,4],[3],[],6⟩ ⟨[],[(1,true,.cells 122 [.own 5,.v (.int .i64),.v (.int .i64),.v .bool]),(5,false,.row 126 (.st 4) [])],[3,4],[3],[],6⟩ false .p) .p)) λ_=>by kernel_rfl,by kernel_rfl⟩
theorem okS_94(rec0:Str->Xj->Option Xj)(h:OKF 94 (cS_94 rec0)):OKF 94 (cS_94 (dI_ rec0)):=⟨ab_ ad_ (aa_ ok_95 (aa_ ok_132 (aa_ ok_131 (aa_ (okS_130 rec0 h) (aa_ h ac_))))) Tryz.func94 (by kernel_rfl) (pl := .p) λ_=>by kernel_rfl,by kernel_rfl⟩
theorem okN_94:∀n,OKF 94 (cS_94 (aB_ n))
 | 0=>⟨fr_ λ_=>rfl,by kernel_rfl⟩
 | n+1=>okS_94 _ (okN_94 n)
def c_94:Con te:=cS_94 (aB_ BIG)
theorem ok_94:OKF 94 c_94:=okN_94 BIG
def c_52:Con te:=af_ te [.d .str] [(.st 5,[some 126]),(.int .i64,[]),(.int .i64,[])] false λa=>bL_ a.1
theorem ok_52:OKF 52 c_52:=⟨ab_ ad_ (aa_ ok_94 (aa_ ok_95 ac_)) Tryz.func52 (by kernel_rfl) (pl := .s .p (.s .p (.s .p (.s (.s .p (.s (.s (.dr [0,0,0,1,4,4] [] true [0]) .p) .p)) .p)))) λ_=>by kernel_rfl,by kernel_rfl⟩
def c_63:Con te:=af_ te [.d (.st 2)] [(.bool,[])] false λa=>gc_ a.1
theorem ok_63:OKF 63 c_63:=⟨ab_ ad_ (aa_ ok_52 (aa_ ok_103 (aa_ ok_42 ac_))) Tryz.func63 (by kernel_rfl) (pl := .s .p (.s .p (.s (.s .p (.j ⟨[(17,.d .bool)],[],[1,16],[0],[],5009⟩ false .p (.s .p (.s .p (.s .p (.s .p (.s .p (.j ⟨[(49,.d .bool)],[],[1,16],[0],[],5013⟩ false .p .p)))))))) .p))) λ_=>by kernel_rfl,by kernel_rfl⟩
def c_48:Con te:=af_ te [.d (.st 3)] [(.bool,[])] false λa=>hN_ a.1
theorem ok_48:OKF 48 c_48:=⟨ab_ ad_ (aa_ ok_63 ac_) Tryz.func48 (by kernel_rfl) (pl := .s .p (.s .p (.s .p (.s (.s .p (.lp ⟨[(4,.d (.int .i64))],[],[1,3],[0],[],3011⟩ ⟨[],[],[],[],[],3011⟩ true .p)) .p)))) λ_=>by kernel_rfl,by kernel_rfl⟩
def c_53:Con te:=af_ te [.d (.st 1),.d .str] [(.str,[])] false λa=>ca_ a.1 a.2.1
theorem ok_53:OKF 53 c_53:=⟨ab_ ad_ ac_ Tryz.func53 (by kernel_rfl) (pl := .p) λ_=>by kernel_rfl,by kernel_rfl⟩
def c_90:Con te:=af_ te [.d .str,.d (.int .i64),.d (.st 1),.d (.st 11)] [(.str,[]),(.int .i64,[])] false λa=>dw_ a.1 a.2.1 a.2.2.1 a.2.2.2.1
theorem ok_90:OKF 90 c_90:=⟨ab_ ad_ (aa_ ok_53 ac_) Tryz.func90 (by kernel_rfl) (pl := .s .p (.s .p (.s .p (.s .p (.s (.s .p (.s (.s .p (.s (.s .p (.s (.s (.dr [0,0,0,0,0,0,0,0,0,0,0,0,0,0,0,0] [] false []) .p) .p)) .p)) .p)) (.s .p (.s (.s .p (.lp ⟨[(12,.d (.sl .str)),(13,.d (.int .i64))],[],[0,1,6],[0],[],3025⟩ ⟨[],[],[],[],[],3025⟩ true (.s .p (.s (.s .p (.s (.dr [0,0,0,0,0,0,0,0,0,0,0,0,0,0,0,0,0,0,0,0,0,0] [] false []) (.s (.s (.dr [0,0,0,0,0,0,0,0,0,0] [] false []) .p) .p))) .p)))) .p))))))) λ_=>by kernel_rfl,by kernel_rfl⟩
def c_49:Con te:=af_ te [.d .str,.d (.st 1),.d (.st 11)] [(.str,[])] false λa=>en_ a.1 a.2.1 a.2.2.1
theorem ok_49:OKF 49 c_49:=⟨ab_ ad_ (aa_ ok_90 ac_) Tryz.func49 (by kernel_rfl) (pl := .s .p (.s .p (.s .p (.s (.lp ⟨[(7,.d .str),(8,.d (.int .i64))],[],[0,4,5],[0,2],[],7⟩ ⟨[(7,.d .str)],[],[],[],[],7⟩ false (.s .p (.s .p (.j ⟨[(9,.d .str),(10,.d (.int .i64))],[],[0,4,5,7,8],[0,2],[],13⟩ false .p (.j ⟨[(9,.d .str),(10,.d (.int .i64))],[],[0,4,5,7,8],[0,2],[],13⟩ false .p .p))))) .p)))) λ_=>by kernel_rfl,by kernel_rfl⟩
def c_91:Con te:=af_ te [.d (.sl (.st 0)),.d .str] [(.sl (.st 0),[some 50])] false λa=>gd_ a.1 a.2.1
theorem ok_91:OKF 91 c_91:=⟨ab_ ad_ ac_ Tryz.func91 (by kernel_rfl) (pl := .s .p (.s .p (.s (.s .p (.lp ⟨[(5,.one (.own 3)),(6,.d (.int .i64))],[(3,false,.row 50 (.st 0) [])],[0,1],[],[],4⟩ ⟨[(5,.one (.own 3))],[(3,false,.row 50 (.st 0) [])],[],[],[],4⟩ false (.s .p (.j ⟨[(5,.one (.own 8))],[(8,false,.row 50 (.st 0) [])],[0,1,6],[],[],9⟩ false .p .p)))) .p))) λ_=>by kernel_rfl,by kernel_rfl⟩
def c_129:Con te:=af_ te [.d (.sl (.st 0)),.d .str] [(.str,[]),(.bool,[])] false λa=>iF_ a.1 a.2.1
theorem ok_129:OKF 129 c_129:=⟨ab_ ad_ ac_ Tryz.func129 (by kernel_rfl) (pl := .s .p (.s (.s .p (.lp ⟨[(6,.d (.int .i64))],[],[0,1],[],[],3⟩ ⟨[],[],[],[],[],3⟩ true .p)) .p)) λ_=>by kernel_rfl,by kernel_rfl⟩
def c_92:Con te:=af_ te [.d (.sl (.st 0)),.d (.sl (.st 0))] [(.bool,[])] false λa=>gf_ a.1 a.2.1
theorem ok_92:OKF 92 c_92:=⟨ab_ ad_ (aa_ ok_129 ac_) Tryz.func92 (by kernel_rfl) (pl := .s .p (.s (.s .p (.lp ⟨[(5,.d (.int .i64))],[],[0,1],[],[],2⟩ ⟨[],[],[],[],[],2⟩ true .p)) .p)) λ_=>by kernel_rfl,by kernel_rfl⟩
def c_93:Con te:=af_ te [.d (.sl (.st 0)),.d .str,.d .str] [(.sl (.st 0),[some 50])] false λa=>jt_ a.1 a.2.1 a.2.2.1
theorem ok_93:OKF 93 c_93:=⟨ab_ ad_ ac_ Tryz.func93 (by kernel_rfl) (pl := .s .p (.s .p (.s .p (.s (.s .p (.lp ⟨[(7,.one (.own 4)),(8,.d .bool),(9,.d (.int .i64))],[(4,false,.row 50 (.st 0) [])],[0,1,2],[],[],5⟩ ⟨[(7,.one (.own 4)),(8,.d .bool)],[(4,false,.row 50 (.st 0) [])],[1,2],[],[],5⟩ false (.s .p (.s (.s .p (.j ⟨[(8,.d .bool)],[(13,true,.box 50 (.st 0))],[0,1,2,7,9,10],[4],[],17⟩ false .p .p)) .p)))) (.j ⟨[(7,.one (.own 5))],[(5,false,.row 50 (.st 0) [])],[],[],[],6⟩ false .p .p))))) λ_=>by kernel_rfl,by kernel_rfl⟩
def c_50:Con te:=af_ te [.d (.st 1),.d .str,.d .str] [(.st 1,[]),(.bool,[])] true λa=>fV_ a.1 a.2.1 a.2.2.1
theorem ok_50:OKF 50 c_50:=⟨ab_ ad_ (aa_ ok_93 (aa_ ok_92 (aa_ ok_37 (aa_ ok_91 ac_)))) Tryz.func50 (by kernel_rfl) (pl := .s .p (.s .p (.s .p (.s .p (.s (.s .p (.s (.s (.dr [0,0,0,0,0,4,4,4,2,4] [5,6,7] false []) .p) .p)) (.s (.s .p (.lp ⟨[(11,.d (.int .i64))],[(0,true,.cells 24 [.v .str,.v .str,.v .str,.v .str,.v (.sl (.st 0)),.v .str]),(8,true,.row 50 (.st 0) [])],[3,6,8],[2],[],22⟩ ⟨[],[(0,true,.box 24 (.st 1))],[3,6],[2],[],22⟩ true (.s .p (.s (.s .p (.dr [0,0,0,0,0,0,0,0,0,0,0,0,1,4,2] [] false [])) .p)))) .p)))))) λ_=>by kernel_rfl,by kernel_rfl⟩
def c_51:Con te:=af_ te [.d (.st 1),.d .str,.d .str] [(.st 1,[])] true λa=>hZ_ a.1 a.2.1 a.2.2.1
theorem ok_51:OKF 51 c_51:=⟨ab_ ad_ ac_ Tryz.func51 (by kernel_rfl) (pl := .s .p (.j ⟨[],[(0,true,.box 24 (.st 1))],[3,6],[2],[],4⟩ false .p .p)) λ_=>by kernel_rfl,by kernel_rfl⟩
def c_134:Con te:=af_ te [.d (.st 5)] [(.st 13,[some 165,some 4])] true λa=>bv_ a.1
theorem ok_134:OKF 134 c_134:=⟨ab_ ad_ ac_ Tryz.func134 (by kernel_rfl) (pl := .p) λ_=>by kernel_rfl,by kernel_rfl⟩
def cS_133(rec0:Xk->Str->Xb->Int->Int->(List Int)->Option Xb):Con te:=af_ te [.d (.st 5),.d .str,.g (.st 13) [some 165,some 4],.d (.int .i64),.d (.int .i64),.d (.sl (.int .i64))] [(.st 13,[some 165,some 4])] true λa=>rec0 a.1 a.2.1 a.2.2.1 a.2.2.2.1 a.2.2.2.2.1 a.2.2.2.2.2.1
theorem okS_133(rec0:Xk->Str->Xb->Int->Int->(List Int)->Option Xb)(h:OKF 133 (cS_133 rec0)):OKF 133 (cS_133 (eO_ rec0)):=⟨ab_ ad_ (aa_ h ac_) Tryz.func133 (by kernel_rfl) (pl := .s .p (.s .p (.s .p (.s .p (.s (.s .p (.s .p (.s .p (.s .p (.s (.s (.dr [0,0,0,0,0,0,0,0,0,1,0,0,0,0,1,1] [10,12,13,11] true [0,1,6]) .p) .p))))) .p))))) λ_=>by kernel_rfl,by kernel_rfl⟩
theorem okN_133:∀n,OKF 133 (cS_133 (ao_ n))
 | 0=>⟨fr_ λ_=>rfl,by kernel_rfl⟩
 | n+1=>okS_133 _ (okN_133 n)
def c_133:Con te:=cS_133 (ao_ BIG)
theorem ok_133:OKF 133 c_133:=okN_133 BIG
def c_135:Con te:=af_ te [.d (.st 4),.d (.int .u8)] [(.bool,[])] false λa=>eG_ a.1 a.2.1
theorem ok_135:OKF 135 c_135:=⟨ab_ ad_ ac_ Tryz.func135 (by kernel_rfl) (pl := .s .p (.s (.s .p (.s .p (.s .p (.s .p (.s .p (.s .p (.s (.s .p (.s (.s .p (.lp ⟨[(5,.d .bool),(6,.d (.int .i64))],[],[1,2],[0],[],13⟩ ⟨[(5,.d .bool)],[],[2],[0],[],13⟩ false .p)) .p)) .p))))))) .p)) λ_=>by kernel_rfl,by kernel_rfl⟩
def c_96:Con te:=af_ te [.d (.st 5),.d .str,.d (.int .i64),.d .bool] [(.st 14,[])] true λa=>iG_ a.1 a.2.1 a.2.2.1 a.2.2.2.1
theorem ok_96:OKF 96 c_96:=⟨ab_ ad_ (aa_ ok_135 (aa_ ok_133 (aa_ ok_134 ac_))) Tryz.func96 (by kernel_rfl) (pl := .s .p (.s .p (.s (.s .p (.lp ⟨[(10,.d (.int .i64))],[(7,true,.row 3 (.int .i64) [])],[1,2,3,4,8,9],[0,2],[],11⟩ ⟨[],[(7,true,.row 3 (.int .i64) [])],[1,2,3,4,8,9],[0,2],[],11⟩ false .p)) (.j ⟨[(11,.one (.ptr 11))],[(11,false,.cells 161 [.own 12,.own 13]),(12,false,.row 165 (.st 12) []),(13,false,.row 4 .bool [])],[1,2,3,4,8],[0,2],[],14⟩ false (.ot 0 (.free 1 (.free 4 (.free 5 (.alt 0 (.alt 2 (.alt 3 (.alt 6 (.alt 7 (.alt 8 .nil .nil) .nil) (.alt 7 (.alt 6 (.alt 8 .nil .nil) .nil) .nil)) (.alt 7 (.alt 3 (.alt 6 (.alt 8 .nil .nil) .nil) .nil) .nil)) (.alt 7 (.alt 2 (.alt 3 (.alt 6 (.alt 8 .nil .nil) .nil) .nil) .nil) .nil)) (.alt 2 (.alt 0 (.alt 3 (.alt 6 (.alt 7 (.alt 8 .nil .nil) .nil) (.alt 7 (.alt 6 (.alt 8 .nil .nil) .nil) .nil)) (.alt 7 (.alt 3 (.alt 6 (.alt 8 .nil .nil) .nil) .nil) .nil)) (.alt 3 (.alt 0 (.alt 6 (.alt 7 (.alt 8 .nil .nil) .nil) (.alt 7 (.alt 6 (.alt 8 .nil .nil) .nil) .nil)) (.alt 7 (.alt 0 (.alt 6 (.alt 8 .nil .nil) .nil) .nil) .nil)) (.alt 7 (.alt 0 (.alt 3 (.alt 6 (.alt 8 .nil .nil) .nil) .nil) (.alt 3 (.alt 0 (.alt 6 (.alt 8 .nil .nil) .nil) .nil) .nil)) .nil))) (.alt 7 (.alt 0 (.alt 2 (.alt 3 (.alt 6 (.alt 8 .nil .nil) .nil) .nil) .nil) (.alt 2 (.alt 0 (.alt 3 (.alt 6 (.alt 8 .nil .nil) .nil) .nil) (.alt 3 (.alt 0 (.alt 6 (.alt 8 .nil .nil) .nil) .nil) .nil)) .nil)) .nil))))))) (.s .p (.s (.s .p (.lp ⟨[(13,.d (.int .i64))],[(11,true,.cells 161 [.own 18,.own 19]),(18,false,.row 165 (.st 12) []),(19,false,.row 4 .bool []),(14,true,.box 128 (.st 14))],[1,2,3,4,8,11,12],[0,2],[],20⟩ ⟨[],[(14,true,.box 128 (.st 14))],[8,12],[2],[],18⟩ false (.s .p (.s (.s .p (.s .p (.s (.s .p (.lp ⟨[(15,.d .bool),(16,.d (.int .i64))],[(18,true,.row 165 (.st 12) []),(14,true,.box 128 (.st 14)),(5029,true,.cells 161 [.own 5035,.own 5036]),(5035,false,.row 165 (.st 12) []),(5036,false,.row 4 .bool [])],[1,2,3,4,8,11,12,13,14],[0,2,11,19],[],5037⟩ ⟨[],[(18,true,.row 165 (.st 12) []),(14,true,.box 128 (.st 14)),(5029,true,.cells 161 [.own 5035,.own 5036]),(5035,false,.row 165 (.st 12) []),(5036,false,.row 4 .bool [])],[1,2,3,4,8,11,12,13,14],[0,2,11,19],[],5037⟩ false (.s .p (.j ⟨[(15,.d .bool)],[(18,true,.row 165 (.st 12) []),(14,true,.box 128 (.st 14)),(5029,true,.cells 161 [.own 5042,.own 5043]),(5042,false,.row 165 (.st 12) []),(5043,false,.row 4 .bool [])],[1,2,3,4,8,11,12,13,14,16],[0,2,11,19],[],5044⟩ false (.s (.dr [0,0,0,0,0,0,0,0,0,0,1,2] [] false []) (.j ⟨[(15,.d .bool)],[(18,true,.row 165 (.st 12) []),(14,true,.box 128 (.st 14))],[1,2,3,4,8,11,12,13,14,16,17],[0,2,11,19,5029,5035,5036,5053],[],5057⟩ false .p (.s (.dr [0,0,0,0,0,0,0,0,0,0,0] [] false []) (.s (.dr [0,0,0,0,0,0,0,0,0,0,0,0,0,0,0,0,0,0,2,2] [] false []) .p)))) .p)))) .p))) .p)))) .p)))))) λ_=>by kernel_rfl,by kernel_rfl⟩
def c_54:Con te:=af_ te [.d (.st 5),.d .str] [(.sl (.int .i64),[some 3]),(.bool,[])] false λa=>d7_ a.1 a.2.1
theorem ok_54:OKF 54 c_54:=⟨ab_ ad_ (aa_ ok_96 ac_) Tryz.func54 (by kernel_rfl) (pl := .s .p (.s .p (.s (.dr [1,0,0,1,0,0,4,4] [1,4,2,5] true []) .p))) λ_=>by kernel_rfl,by kernel_rfl⟩
def c_20:Con te:=af_ te [.d (.st 3),.d (.st 1)] [(.st 1,[]),(.str,[]),(.bool,[])] true λa=>eP_ a.1 a.2.1
theorem ok_20:OKF 20 c_20:=⟨ab_ ad_ (aa_ ok_54 (aa_ ok_53 (aa_ ok_52 (aa_ ok_51 (aa_ ok_50 (aa_ ok_49 (aa_ ok_16 (aa_ ok_48 ac_)))))))) Tryz.func20 (by kernel_rfl) (pl := .s .p (.s .p (.s .p (.s .p (.s .p (.s (.s .p (.lp ⟨[(8,.d .str),(10,.d (.int .i64))],[(4013,true,.box 24 (.st 1)),(4018,true,.cells 75 [.v .str,.own 4021]),(4021,false,.row 3 (.int .i64) [])],[2,4,7,9],[0,4],[],4022⟩ ⟨[(8,.d .str)],[(4013,true,.box 24 (.st 1))],[4,7],[4],[],4021⟩ true (.s .p (.s (.s .p (.s .p (.s .p (.j ⟨[(8,.d .str),(13,.d .bool)],[(4013,true,.box 24 (.st 1)),(4018,true,.cells 75 [.v .str,.own 4043]),(4043,false,.row 3 (.int .i64) [])],[2,4,7,9,10],[0,4],[],4044⟩ false (.s .p (.s .p (.s .p (.s .p (.s .p (.s .p (.s .p (.s .p (.s .p (.s .p (.dr [0,0,0,0,0,0,0,0,0,0,0] [] false []))))))))))) .p)))) .p)))) .p)))))) λ_=>by kernel_rfl,by kernel_rfl⟩
def c_21:Con te:=af_ te [.d (.sl (.st 3)),.d (.st 1)] [(.st 1,[]),(.str,[]),(.bool,[])] true λa=>eQ_ a.1 a.2.1
theorem ok_21:OKF 21 c_21:=⟨ab_ ad_ (aa_ ok_19 ac_) Tryz.func21 (by kernel_rfl) (pl := .s .p (.s (.s .p (.lp ⟨[(14,.d (.int .i64))],[],[3,4,12,13],[0,2],[],9⟩ ⟨[],[],[4],[2],[],9⟩ true .p)) .p)) λ_=>by kernel_rfl,by kernel_rfl⟩
def c_22:Con te:=af_ te [.d (.sl (.st 3)),.d (.st 1)] [(.st 1,[]),(.str,[]),(.bool,[])] true λa=>hO_ a.1 a.2.1
theorem ok_22:OKF 22 c_22:=⟨ab_ ad_ (aa_ ok_20 ac_) Tryz.func22 (by kernel_rfl) (pl := .s .p (.s (.s .p (.lp ⟨[(7,.d (.int .i64))],[],[0,3,4],[0,2],[],7⟩ ⟨[],[],[4],[2],[],7⟩ true (.s .p (.s (.s (.df [0,0,0,0,0,1,4,4,4,4,1,2,4,4] [] 5) .p) .p)))) .p)) λ_=>by kernel_rfl,by kernel_rfl⟩
def c_5:Con te:=af_ te [.d (.sl (.st 3)),.d (.st 1)] [(.bool,[])] false λa=>cV_ a.1 a.2.1
theorem ok_5:OKF 5 c_5:=⟨ab_ ad_ (aa_ ok_22 (aa_ ok_21 (aa_ ok_15 (aa_ ok_17 (aa_ ok_20 (aa_ ok_19 (aa_ ok_10 (aa_ ok_18 ac_)))))))) Tryz.func5 (by kernel_rfl) (pl := .s .p (.s .p (.s (.s .p (.lp ⟨[(25,.d (.int .i64))],[],[0,3,24],[0],[],10⟩ ⟨[],[],[0,3],[0],[],10⟩ true (.s .p (.s .p (.s (.s .p (.s (.df [0,0,0,0,0,1,4,4,4,4,1,2,4,4] [] 5) (.s (.df [0,0,0,0,0,1,4,4,4,4,1,2,4,4] [] 5) .p))) .p))))) .p))) λ_=>by kernel_rfl,by kernel_rfl⟩
def c_6:Con te:=af_ te [.d (.sl (.st 3)),.d (.st 1)] [(.bool,[])] false λa=>dC_ a.1 a.2.1
theorem ok_6:OKF 6 c_6:=⟨ab_ ad_ (aa_ ok_17 (aa_ ok_21 (aa_ ok_19 (aa_ ok_10 (aa_ ok_18 ac_))))) Tryz.func6 (by kernel_rfl) (pl := .s .p (.s .p (.s .p (.s (.s .p (.lp ⟨[(5,.one (.own 11)),(23,.d (.int .i64))],[(11,false,.row 41 (.st 3) [])],[0,3,22],[0],[],12⟩ ⟨[(5,.one (.own 11))],[(11,false,.row 41 (.st 3) [])],[0,3],[0],[],12⟩ false (.s .p (.s .p (.j ⟨[(5,.one (.own 13))],[(13,false,.row 41 (.st 3) [])],[0,3,22,23],[0],[],14⟩ false (.s .p (.s (.df [0,0,0,0,0,1,4,4,4,4,1,2,4,4] [] 5) .p)) .p))))) .p)))) λ_=>by kernel_rfl,by kernel_rfl⟩
end
end Go.Proofs.YtbdcelleafhelaaGreatDoor
namespace Go
namespace Rt
theorem bE_{n:Int}(h:I64 n):w64 n=n:=by
 unfold w64;rw[IntKind.wrap_i64];omega
theorem wu8(n:Int):IntKind.u8.wrap n=n%256:=IntKind.wrap_u8 n
theorem as_{α β:Type}{x:Option α}{a:α}{f:α->Option β}{r:Option β}(h:x=some a)(hr:f a=r):x.bind f=r:=by subst h;exact hr
theorem i8_{α:Type}{c:Bool}{A B r:α}(hc:c=true)(h:A=r):(bif c then A else B)=r:=by subst hc;exact h
theorem fW_{α:Type}{c:Bool}{A B r:α}(hc:c=false)(h:B=r):(bif c then A else B)=r:=by subst hc;exact h
theorem loopF_run{σ β:Type}{body:σ->Option (Step σ β)}(I:Nat->σ->β->Prop)
  (h0:∀s b,I 0 s b->body s=some (.done b))
  (h:∀k s b,I (k+1) s b->body s=some (.done b)\/∃s',body s=some (.next s')/\I k s' b):∀{k n:Nat} {s:σ} {b:β},I k s b->k<n->ae_ body n s=some b
 | 0,n+1,s,b,hI,_=>by simp only[ae_,h0 s b hI]
 | k+1,n+1,s,b,hI,hk=>by
  simp only[ae_];rcases h k s b hI with hd|⟨s',hn,hI'⟩
  .rw[hd]
  .rw[hn];exact loopF_run I h0 h hI' (by omega)
theorem i9_{σ β:Type}{body:σ->Option (Step σ β)}(n:Nat)(hn:n<BIG)(J:Nat->σ->β->Prop)(h0:∀s b,J n s b->body s=some (.done b))
  (h:∀i s b,i<n->J i s b->body s=some (.done b)\/∃s',body s=some (.next s')/\J (i+1) s' b) {s:σ} {b:β} (hJ:J 0 s b):ae_ body BIG s=some b:=by
 refine loopF_run (λk s b=>k<=n/\J (n-k) s b) (λs b hI=>h0 s b (by simpa using hI.2)) (λk s b hI => ?_) (k:=n) ⟨Nat.le_refl _,by simpa using hJ⟩ hn;obtain⟨hk,hI⟩:=hI;rcases h _ s b (by omega) hI with hd|⟨s',hs,hI'⟩
 .exact .inl hd
 .exact .inr ⟨s',hs,by omega,by rwa [show n-(k+1)+1=n-k by omega]at hI'⟩
theorem ff_{σ β:Type}{body:σ->Option (Step σ β)}(T:Nat->σ)(n:Nat)(hn:n<BIG){b:β}(hs:∀i,i<n->body (T i)=some (.next (T (i+1))))(hd:body (T n)=some (.done b)):ae_ body BIG (T 0)=some b:=by
 refine i9_ (J:=λi s b'=>s=T i/\b'=b) n hn (λs b' hJ => ?_) (λi s b' hi hJ => ?_) ⟨rfl,rfl⟩
 .obtain⟨rfl,rfl⟩:=hJ;exact hd
 .obtain⟨rfl,rfl⟩:=hJ;exact .inr ⟨_,hs i hi,rfl,rfl⟩
theorem k1_{α β:Type}{body:Int->Option (Step Int (Out Unit β))}(xs:List α)(p:α->Bool)(r:β)(hn:xs.length<BIG)
  (hb:∀i (h:i<xs.length),body (i:Int)=if p xs[i]then some (.next ((i+1:Nat):Int))else some (.done (.ret r)))
  (he:body (xs.length:Int)=some (.done (.fall ()))):ae_ body BIG 0=some (if xs.all p then .fall ()else .ret r):=by
 refine i9_ (J:=λi s b=>s=(i:Int)/\b=if(xs.drop i).all p then .fall ()else .ret r) xs.length hn (λs b hJ => ?_) (λi s b hi hJ => ?_) (by simp)
 .obtain⟨rfl,rfl⟩:=hJ;rw[he];simp
 .obtain⟨rfl,rfl⟩:=hJ;rw[hb i hi,List.drop_eq_getElem_cons hi,List.all_cons];cases hp:p xs[i]with
  | true=>exact .inr ⟨_,rfl,rfl,by simp⟩
  | false=>exact .inl (by simp)
theorem bf_{α:Type}(xs:List α)(i:Nat):ah_ xs (i:Int)=xs[i]? := by
 unfold ah_;rw[if_pos (by omega)];simp
theorem aC_{α:Type}{xs:List α}{i:Nat}(h:i<xs.length):ah_ xs (i:Int)=some xs[i]:=by
 rw[bf_,List.getElem?_eq_getElem h]
theorem aT_{s:Str}{i:Nat}(h:i<s.length):an_ s (i:Int)=some (s[i].toNat:Int):=by
 unfold an_;rw[aC_ h];rfl
theorem byteI_nat(s:Str)(i:Nat):an_ s (i:Int)=s[i]?.map λb=>(b.toNat:Int):=by
 unfold an_;rw[bf_]
theorem cat_eq{a b:Str}(h:a.length+b.length<=9223372036854775807):cat a b=some (a++b):=by
 unfold cat;rw[if_pos h]
theorem bl_{α:Type}{bytes:Nat}{xs ys:List α}(h1:xs.length+ys.length<=9223372036854775807)(h2:(xs.length+ys.length)*bytes<=140737488355328):room bytes xs ys=some (xs++ys):=by
 unfold room;rw[if_pos ⟨h1,h2⟩]
theorem bm_{α:Type}{xs:List α}{lo hi:Int}(h0:0<=lo)(h1:lo<=hi)(h2:hi<=xs.length):bc_ xs lo hi=some ((xs.take hi.toNat).drop lo.toNat):=by
 unfold bc_;rw[if_pos ⟨h0,h1,h2⟩]
theorem k2_{α:Type}{bytes:Nat}{z:α}{n:Int}(h0:0<=n)(h1:n<=9223372036854775807)(h2:bytes*n<=281474976710656):cY_ bytes z n=some (List.replicate n.toNat z):=by
 unfold cY_;rw[if_pos ⟨h0,h1,h2⟩]
theorem iN_{a b:Str}:(a==b)=decide (a=b):=by
 rw[Bool.eq_iff_iff];simp
end Rt
end Go
namespace Go.Proofs.YtbdcelleafhelaaGreatDoor
open Go.Rt Go.RowKit
theorem ap_{σ β:Type}{body:σ->Option (Step σ β)}{s s':σ}{n:Nat}{r:Option β}(h:body s=some (.next s'))(hr:ae_ body n s'=r):ae_ body (n+1) s=r:=by
 simp only[ae_,h];exact hr
theorem ai_{σ β:Type}{body:σ->Option (Step σ β)}{s:σ}{n:Nat}{b:β}(h:body s=some (.done b)):ae_ body (n+1) s=some b:=by
 simp only[ae_,h]
def bh_{α β:Type}(g:Nat->α->Option β):Nat->List α->Option β
 | _,[]=>none
 | i,x::l=>match g i x with
  | some r=>some r
  | none=>bh_ g (i+1) l
def outO{β:Type}:Option β->Out Unit β|some r => .ret r|none => .fall ()
theorem aR_{i n:Nat}(h:i<n):decide ((i:Int)<(n:Int))=true:=by simpa using h
theorem bj_(n:Nat):decide ((n:Int)<(n:Int))=false:=by simp
theorem ag_{i:Nat}(h:i<9223372036854775807):w64 ((i:Int)+1)=((i+1:Nat):Int):=by
 rw[bE_ ⟨by omega,by omega⟩];rfl
def ec_{β:Type}(o:Option β)(i:Nat):Step Int (Out Unit β):=match o with|some r => .done (.ret r)|none => .next ((i+1:Nat):Int)
theorem bp_{α β:Type}{body:Int->Option (Step Int (Out Unit β))}(xs:List α)(g:Nat->α->Option β)(hn:xs.length<BIG)
  (hb:∀i (h:i<xs.length),body (i:Int)=some (ec_ (g i xs[i]) i))
  (he:body (xs.length:Int)=some (.done (.fall ()))):ae_ body BIG 0=some (outO (bh_ g 0 xs)):=by
 refine i9_ (J:=λi s b=>s=(i:Int)/\b=outO (bh_ g i (xs.drop i))) xs.length hn (λs b hJ => ?_) (λi s b hi hJ => ?_) (by simp)
 .obtain⟨rfl,rfl⟩:=hJ;rw[he];simp[bh_,outO]
 .obtain⟨rfl,rfl⟩:=hJ;rw[hb i hi,List.drop_eq_getElem_cons hi];simp only[bh_];cases hg:g i xs[i]with
  | some r=>exact .inl rfl
  | none=>exact .inr ⟨_,rfl,rfl,rfl⟩
theorem bX_{β:Type}{L:Option (Out Unit β)}{k:Out Unit β->Option β}{o:Option β}{x:β}(h:L=some (outO o))(h1:∀r,k (.ret r)=some r)(h2:k (.fall ())=some x):Option.bind L k=some (o.getD x):=by
 subst h;cases o with
 | some r=>exact h1 r
 | none=>exact h2
theorem fg_{α β:Type}(p:α->Bool)(f:α->β):∀(k:Nat) (l:List α),bh_ (λ_ x=>if p x then some (f x)else none) k l=(l.find? p).map f
 | _,[]=>rfl
 | k,x::l=>by
  simp only[bh_,List.find?_cons];cases p x with
  | true=>rfl
  | false=>exact fg_ p f (k+1) l
theorem scan_idx{α:Type}(p:α->Bool):∀(k:Nat) (l:List α),bh_ (λi x=>if p x then some ((i:Nat):Int)else none) k l=(l.findIdx? p).map λi=>((k+i:Nat):Int)
 | _,[]=>rfl
 | k,x::l=>by
  simp only[bh_,List.findIdx?_cons];cases p x with
  | true=>rfl
  | false =>
   simp only[Bool.false_eq_true,if_false];rw[scan_idx p (k+1) l];cases l.findIdx? p with
   | none=>rfl
   | some i=>simp only[Option.map_some];congr 2;omega
theorem scan_none{α β:Type}{g:Nat->α->Option β}:∀{k:Nat} {l:List α},bh_ g k l=none↔∀i x,l[i]? = some x->g (k+i) x=none
 | _,[]=>⟨λ_ i x h=>by simp at h,λ_=>rfl⟩
 | k,x::l=>by
  simp only[bh_];constructor
  .intro h;split at h
   .cases h
   .rename_i h0;intro i y hy;cases i with
    | zero=>simp at hy;subst hy;exact h0
    | succ i=>have:=(scan_none (k:=k+1)).1 h i y (by simpa using hy);rwa [show k+1+i=k+(i+1)by omega]at this
  .intro h;have h0:=h 0 x rfl;rw[Nat.add_zero]at h0;rw[h0];exact scan_none.2 λi y hy=>by rw[show k+1+i=k+(i+1)by omega];exact h (i+1) y (by simpa using hy)
theorem h1_{α β:Type}{g:Nat->α->Option β}{r:β}:∀{k:Nat} {l:List α},bh_ g k l=some r->∃i x,l[i]? = some x/\g (k+i) x=some r/\∀j y,j<i->l[j]? = some y->g (k+j) y=none
 | _,[],h=>by cases h
 | k,x::l,h=>by
  simp only[bh_]at h;split at h
  .rename_i r' h0;obtain rfl:=qSj h;exact⟨0,x,rfl,h0,λj y hj=>by omega⟩
  .rename_i h0;obtain⟨i,y,h1,h2,h3⟩:=h1_ h;refine⟨i+1,y,by simpa using h1,by rw[show k+(i+1)=k+1+i by omega];exact h2,λj q hj hq => ?_⟩;cases j with
   | zero=>simp at hq;subst hq;exact h0
   | succ j=>rw[show k+(j+1)=k+1+j by omega];exact h3 j q (by omega) (by simpa using hq)
def at_{α:Type}(p:α->Bool)(l:List α):Int:=match l.findIdx? p with|some i=>(i:Int)|none => -1
theorem at_getD{α:Type}(p:α->Bool)(l:List α):(bh_ (λi x=>if p x then some ((i:Nat):Int)else none) 0 l).getD (-1)=at_ p l:=by
 rw[scan_idx];unfold at_;cases l.findIdx? p<;>simp
theorem mD_{α:Type}(p:α->Bool)(l:List α):(l.find? p=none/\at_ p l = -1)\/∃(i:Nat) (x:α),l.find? p=some x/\at_ p l=(i:Int)/\l[i]? = some x/\p x=true/\∀j y,j<i->l[j]? = some y->p y=false:=by
 unfold at_;cases h:l.findIdx? p with
 | none =>
  refine .inl ⟨?_,rfl⟩;rw[List.find?_eq_none];intro x hx;rw[List.findIdx?_eq_none_iff]at h;simpa using h x hx
 | some i =>
  obtain⟨hlt,hp,hall⟩:=List.findIdx?_eq_some_iff_getElem.1 h;refine .inr ⟨i,l[i],?_,rfl,List.getElem?_eq_getElem hlt,hp,λj y hj hy => ?_⟩
  .rw[List.find?_eq_some_iff_getElem];exact⟨hp,i,hlt,rfl,λj hj=>by simpa using hall j hj⟩
  .have:=hall j hj;rw[List.getElem?_eq_getElem (by omega)]at hy;obtain rfl:=qSj hy;simpa using this
theorem at_neg{α:Type}(p:α->Bool)(l:List α):decide (at_ p l<0)=(l.find? p).isNone:=by
 rcases mD_ p l with⟨h1,h2⟩|⟨i,x,h1,h2,_⟩
 .rw[h1,h2];rfl
 .rw[h1,h2];simp
theorem aS_{n:Nat}(h:n<=9223372036854775807):n<BIG:=by unfold BIG;omega
theorem hasPre(s p:Str):bt_ s p=some (s.take p.length==p):=by
 unfold bt_;by_cases h:p.length<=s.length
 .rw[show decide ((s.length:Int)>=(p.length:Int))=true by simpa using h];simp only[cond_true];rw[bm_ (Int.le_refl 0) (by omega) (by omega)];simp
 .rw[show decide ((s.length:Int)>=(p.length:Int))=false by simpa using h];simp only[cond_false,qBs];have:(s.take p.length==p)=false:=by
   rw[iN_];refine decide_eq_false λe => ?_
   have:=congrArg List.length e;rw[List.length_take]at this;omega
  rw[this]
theorem trimPre(s p:Str):strings_TrimPrefix s p=some (if s.take p.length==p then s.drop p.length else s):=by
 unfold strings_TrimPrefix co_;rw[hasPre];simp only[qBs];cases hc:s.take p.length==p with
 | true =>
  have hle:p.length<=s.length:=by
   rw[iN_]at hc;have:=congrArg List.length (of_decide_eq_true hc);rw[List.length_take]at this;omega
  rw[cond_true,bm_ (by omega) (by omega) (Int.le_refl _)];simp
 | false=>simp
theorem idxB_range(s:Str)(c:UInt8):dy_ s c = -1\/(0<=dy_ s c/\dy_ s c<s.length):=by
 induction s with
 | nil=>exact .inl rfl
 | cons b l ih =>
  simp only[dy_];split
  .exact .inr ⟨Int.le_refl 0,by simp only[qLc];omega⟩
  .split
   .exact .inl rfl
   .rename_i h1 h2;rcases ih with ih|ih
    .exact absurd (by rw[ih];rfl) h2
    .exact .inr ⟨by omega,by simp only[qLc];omega⟩
theorem idxB_iff(s:Str)(c:UInt8):0<=dy_ s c↔s.contains c=true:=by
 induction s with
 | nil=>exact⟨λh=>absurd (show(0:Int) <= -1 from h) (by decide),λh=>by cases h⟩
 | cons b l ih =>
  have e:dy_ (b::l) c=if b==c then 0 else if dy_ l c == -1 then -1 else dy_ l c+1:=rfl
  rw[e,List.contains_cons];by_cases hb:b=c
  .subst hb;simp
  .have h1:(b==c)=false:=beq_eq_false_iff_ne.2 hb;have h2:(c==b)=false:=beq_eq_false_iff_ne.2 λe=>hb e.symm
   rw[h1,h2,Bool.false_or,←ih];rcases idxB_range l c with h|⟨h,_⟩
   .rw[h];simp
   .have h3:(dy_ l c == -1)=false:=beq_eq_false_iff_ne.2 (by omega);rw[h3];simp only[Bool.false_eq_true,if_false];omega
theorem idxB_ge(s:Str)(c:UInt8):decide (dy_ s c>=0)=s.contains c:=by
 cases h:s.contains c with
 | true=>exact decide_eq_true ((idxB_iff s c).2 h)
 | false=>exact decide_eq_false λh2=>by rw[(idxB_iff s c).1 h2]at h;cases h
theorem jQ_(s:Str)(c:UInt8):strings_Contains s [c]=some (s.contains c):=by
 unfold strings_Contains strings_Index stringslite_Index;simp only[qBs];rw[idxB_ge]
def ak_(p:Str)(s:Str):Nat:=(s.takeWhile λb => !(p.contains b)).length
theorem es_(p s:Str):ak_ p s<=s.length:=by
 unfold ak_;exact List.Sublist.length_le (List.takeWhile_sublist _)
theorem oo_(p:Str):∀(k:Nat) (s:Str),(bh_ (λi b=>if p.contains b then some (((i:Nat):Int))else none) k s).getD ((k+s.length:Nat):Int)=((k+ak_ p s:Nat):Int)
 | k,[]=>by simp[bh_,ak_]
 | k,b::s=>by
  simp only[bh_,ak_,List.takeWhile_cons];cases h:p.contains b with
  | true=>simp
  | false =>
   have ih:=oo_ p (k+1) s;simp only[Bool.not_false,if_true,Bool.false_eq_true,if_false,qLc];rw[show k+(s.length+1)=k+1+s.length by omega,ih];unfold ak_
   congr 1
   omega
theorem toNat_u8(b:UInt8):((b.toNat:Int)).toNat.toUInt8=b:=by simp
theorem nc_{s p:Str}(hs:s.length<=9223372036854775807):ex_ s p=some ((ak_ p s:Nat):Int):=by
 unfold ex_;have h:=bp_ (body:=f5_ s p) s (λi b=>if p.contains b then some (((i:Nat):Int))else none) (aS_ hs) (λi hi=>by
  unfold f5_;rw[aR_ hi,cond_true,aT_ hi];simp only[qBs];unfold strings_IndexByte stringslite_IndexByte;simp only[qBs];rw[toNat_u8,idxB_ge];cases hc:p.contains s[i]with
  | true=>rfl
  | false =>
   simp only[cond_false,Bool.false_eq_true,if_false,ec_];rw[ag_ (by omega)]) (by
  unfold f5_;rw[bj_];rfl)
 refine(bX_ (x:=((s.length:Nat):Int)) h (λr=>rfl) rfl).trans ?_;have:=oo_ p 0 s;rw[Nat.zero_add,Nat.zero_add]at this;rw[this]
def okN(n:Nat):Bool:=(decide (97<=n)&&decide (n<=122))||(decide (48<=n)&&decide (n<=57))||n==45||n==95
def lowN(n:Nat):Bool:=decide (97<=n)&&decide (n<=122)
def trimB(s:Str):Str:=if s.take 1==[33]then s.drop 1 else s
def g9_(s:Str):Bool:=(trimB s).length>=1&&((trimB s).length<=32&&(lowN ((trimB s).headD 0).toNat&&(trimB s).all λb=>okN b.toNat))
theorem okN_int(n:Nat):((((decide ((n:Int)<97)||decide ((n:Int)>122))&&(decide ((n:Int)<48)||decide ((n:Int)>57)))&&((n:Int) != 45))&&((n:Int) != 95)) = !(okN n):=by
 unfold okN;rw[Bool.eq_iff_iff];simp only[qAn,Bool.or_eq_true,qDe,bne_iff_ne,ne_eq,Bool.not_eq_true',Bool.or_eq_false_iff,Bool.and_eq_false_iff,decide_eq_false_iff_not,beq_eq_false_iff_ne];omega
theorem isName_eq{s:Str}(hs:s.length<=9223372036854775807):hI_ s=some (g9_ s):=by
 unfold hI_;have h0:strings_TrimPrefix s [33]=some (trimB s):=trimPre s [33];rw[h0];simp only[qBs];have htl:(trimB s).length<=s.length:=by
  unfold trimB;split
  .rw[List.length_drop];omega
  .exact Nat.le_refl _
 unfold g9_;cases ht:trimB s with
 | nil=>rfl
 | cons b t =>
  rw[ht]at htl;by_cases h32:(b::t).length<=32
  .have e1:decide (((b::t).length:Int)>32)=false:=decide_eq_false (by omega);have e2:((b::t:Str)==[])=false:=rfl;rw[e1,e2];have hb0:an_ (b::t) 0=some (b.toNat:Int):=aT_ (s:=b::t) (i:=0) (by simp);simp only[Bool.or_false,cond_false,hb0,qBs];have e3:decide ((b::t).length>=1)=true:=by simp
   rw[e3,decide_eq_true h32];simp only[Bool.true_and,List.headD_cons];by_cases hl:lowN b.toNat=true
   .have hl':=hl;unfold lowN at hl';simp only[qAn,qDe]at hl';rw[decide_eq_false (show ¬(b.toNat:Int)<97 by omega)];simp only[cond_false];rw[decide_eq_false (show ¬(b.toNat:Int)>122 by omega)];simp only[qBs,cond_false,hl,Bool.true_and];have h:=k1_ (body:=ft_ (b::t)) (b::t) (λb=>okN b.toNat) false (aS_ (by omega)) (λi hi=>by
     unfold ft_;rw[aR_ hi,cond_true,aT_ hi];simp only[qBs];rw[okN_int];cases okN (b::t)[i].toNat with
     | true=>simp only[Bool.not_true,cond_false,if_true];rw[ag_ (by omega)]
     | false=>rfl) (by
     unfold ft_;rw[bj_];rfl)
    refine as_ h ?_;cases(b::t).all λb=>okN b.toNat<;>rfl
   .have hl2:lowN b.toNat=false:=by simpa using hl
    rw[hl2];have:¬(97<=b.toNat/\b.toNat<=122):=λ⟨h1,h2⟩=>by
     unfold lowN at hl2;rw[decide_eq_true h1,decide_eq_true h2]at hl2;cases hl2
    by_cases h97:(b.toNat:Int)<97
    .rw[decide_eq_true h97];rfl
    .rw[decide_eq_false h97];simp only[cond_false];rw[decide_eq_true (show(b.toNat:Int)>122 by omega)];rfl
  .have e1:decide (((b::t).length:Int)>32)=true:=decide_eq_true (by omega);rw[e1,decide_eq_false h32];simp
theorem secret_eq(s:Str):g1_ s=some (s.take 1==[33]):=by
 unfold g1_;cases s with
 | nil=>rfl
 | cons b t =>
  rw[decide_eq_true (show((b::t).length:Int)>0 by simp only[qLc];omega),cond_true,show an_ (b::t) 0=some (b.toNat:Int)from aT_ (s:=b::t) (i:=0) (by simp)];simp only[qBs,List.take_succ_cons,List.take_zero]
  congr 1
  rw[Bool.eq_iff_iff,beq_iff_eq,beq_iff_eq];constructor
  .intro h;have:b=33:=UInt8.toNat_inj.1 (by show b.toNat=33;omega);rw[this]
  .intro h;injection h with h _;rw[h];rfl
theorem okR_int(n i:Nat):(Option.bind (bif decide ((n:Int)>=97)then Option.bind (some (n:Int)) λy=>some (decide (y<=122))else some false) λ(y17:Bool) =>
  Option.bind (bif(!y17)then
   Option.bind (bif((i:Int)==0)then some true else
    Option.bind (some (n:Int)) λy18 =>
    Option.bind (bif(decide (y18>=48))then
     Option.bind (some (n:Int)) λy19 =>
     some (decide (y19<=57))
      else some false) λ(y20:Bool) =>
    Option.bind (bif y20 then some true else
     Option.bind (some (n:Int)) λy21 =>
     some (y21==45)
     ) λ(y22:Bool) =>
    Option.bind (bif y22 then some true else
     Option.bind (some (n:Int)) λy23 =>
     some (y23==95)
     ) λ(y24:Bool) =>
    some (!y24)
    ) λ(y25:Bool) =>
   some y25
    else some false) λ(y26:Bool)=>some y26)=some (!(lowN n||(decide (i≠0)&&okN n))):=by
 unfold lowN okN;have c97:decide ((n:Int)>=97)=decide (97<=n):=decide_eq_decide.2 (by omega);have c122:decide ((n:Int)<=122)=decide (n<=122):=decide_eq_decide.2 (by omega);have c48:decide ((n:Int)>=48)=decide (48<=n):=decide_eq_decide.2 (by omega);have c57:decide ((n:Int)<=57)=decide (n<=57):=decide_eq_decide.2 (by omega);have c45:((n:Int)==45)=(n==45):=by rw[Bool.eq_iff_iff,beq_iff_eq,beq_iff_eq];omega
 have c95:((n:Int)==95)=(n==95):=by rw[Bool.eq_iff_iff,beq_iff_eq,beq_iff_eq];omega
 have c0:((i:Int)==0)=decide (i=0):=by rw[Bool.eq_iff_iff,beq_iff_eq,qDe];omega
 have cn:decide (i≠0) = !(decide (i=0)):=by simp
 simp only[qBs,c97,c122,c48,c57,c45,c95,c0,cn];cases decide (97<=n)<;>cases decide (n<=122)<;>cases decide (48<=n)<;>cases decide (n<=57)<;>cases n==45<;>cases n==95<;>cases decide (i=0)<;>rfl
theorem low_ok{n:Nat}(h:lowN n=true):okN n=true:=by
 unfold lowN at h;unfold okN;rw[h];rfl
def gName(i:Nat)(b:UInt8):Option Bool:=if !(lowN b.toNat||(decide (i≠0)&&okN b.toNat))then some false else none
theorem scan_name:∀(t:Str) (k:Nat),0<k->bh_ gName k t=if t.all λb=>okN b.toNat then none else some false
 | [],_,_=>rfl
 | b::t,k,hk=>by
  have hg:gName k b=if okN b.toNat then none else some false:=by
   unfold gName;rw[decide_eq_true (show k≠0 by omega),Bool.true_and];cases ho:okN b.toNat with
   | true=>simp
   | false =>
    cases hl:lowN b.toNat with
    | true=>rw[low_ok hl]at ho;cases ho
    | false=>rfl
  simp only[bh_,hg,List.all_cons];by_cases ho:okN b.toNat=true
  .simp only[ho,if_true,Bool.true_and];exact scan_name t (k+1) (by omega)
  .have ho':okN b.toNat=false:=by simpa using ho
   simp[ho']
theorem bind2_last{α γ:Type}{A:Option α}{B:α->Option Bool}{f:Bool->Option γ}{r:Bool}(h:(Option.bind A λy=>Option.bind (B y) λz=>some z)=some r):(Option.bind A λy=>Option.bind (B y) f)=f r:=by
 cases A with
 | none=>cases h
 | some a =>
  simp only[qBs]at h ⊢;cases hb:B a with
  | none=>rw[hb]at h;cases h
  | some b =>
   rw[hb]at h;simp only[qBs]at h ⊢;rw[qSj h]
theorem refName_eq{s:Str}(hs:s.length<=9223372036854775807):iD_ s=some (g9_ s):=by
 unfold iD_;rw[secret_eq];have h0:(Option.bind (some (s.take 1==[33])) λy1=>(bif y1 then(bc_ s 1 (s.length:Int)).bind λy2=>some y2 else some s))=some (trimB s):=by
  simp only[qBs];unfold trimB;cases hc:s.take 1==[33]with
  | true =>
   have hle:1<=s.length:=by
    cases s with
    | nil=>cases hc
    | cons b t=>simp
   rw[cond_true,bm_ (by omega) (by omega) (Int.le_refl _)];simp
  | false=>rfl
 refine as_ h0 ?_;have htl:(trimB s).length<=s.length:=by
  unfold trimB;split
  .rw[List.length_drop];omega
  .exact Nat.le_refl _
 have h:=bp_ (body:=f8_ (trimB s)) (trimB s) gName (aS_ (by omega)) (λi hi=>by
  unfold f8_;rw[aR_ hi,cond_true,aT_ hi];simp only[qBs];refine(bind2_last (okR_int (trimB s)[i].toNat i)).trans ?_;unfold gName;cases(lowN (trimB s)[i].toNat||(decide (i≠0)&&okN (trimB s)[i].toNat))with
  | true =>
   simp only[Bool.not_true,cond_false,Bool.false_eq_true,if_false,ec_];rw[ag_ (by omega)]
  | false=>rfl) (by
  unfold f8_;rw[bj_];rfl)
 refine(bX_ (x:=(decide (((trimB s).length:Int)>=1)&&decide (((trimB s).length:Int)<=32))) h (λr=>rfl) rfl).trans ?_
 congr 1
 unfold g9_;cases ht:trimB s with
 | nil=>rfl
 | cons b t =>
  have e1:decide (((b::t).length:Int)>=1)=decide ((b::t).length>=1):=decide_eq_decide.2 (by omega);have e2:decide (((b::t).length:Int)<=32)=decide ((b::t).length<=32):=decide_eq_decide.2 (by omega);rw[e1,e2];have g0:gName 0 b=if lowN b.toNat then none else some false:=by
   unfold gName;cases lowN b.toNat<;>rfl
  simp only[bh_,g0,List.headD_cons,List.all_cons];by_cases hl:lowN b.toNat=true
  .rw[scan_name t (0+1) (by omega)];simp only[hl,low_ok hl,if_true,Bool.true_and];cases t.all λb=>okN b.toNat<;>simp
  .have hl':lowN b.toNat=false:=by simpa using hl
   simp[hl']
theorem refPlain_eq{s:Str}(hs:s.length<=9223372036854775807):hK_ s=some (decide (ak_ [0,10,13] s=s.length)):=by
 unfold hK_;have h:=bp_ (body:=fx_ s) s (λ_ b=>if([0,10,13]:Str).contains b then some false else none) (aS_ hs) (λi hi=>by
  unfold fx_;rw[aR_ hi,cond_true,aT_ hi];simp only[qBs];have hc:([0,10,13]:Str).contains s[i]=(((s[i].toNat:Int)==0)||(((s[i].toNat:Int)==10)||((s[i].toNat:Int)==13))):=by
   have key:∀k:UInt8,(s[i]==k)=((s[i].toNat:Int)==(k.toNat:Int)):=λk=>by
    rw[Bool.eq_iff_iff,beq_iff_eq,beq_iff_eq];exact⟨λe=>by rw[e],λe=>UInt8.toNat_inj.1 (by omega)⟩
   simp only[List.contains_cons,List.contains_nil,Bool.or_false];rw[key 0,key 10,key 13];rfl
  rw[hc];cases((s[i].toNat:Int)==0)with
  | true=>rfl
  | false =>
   cases((s[i].toNat:Int)==10)with
   | true=>rfl
   | false =>
    cases((s[i].toNat:Int)==13)with
    | true=>rfl
    | false =>
     simp only[cond_false,qBs,Bool.or_false,Bool.false_eq_true,if_false,ec_];rw[ag_ (by omega)]) (by
  unfold fx_;rw[bj_];rfl)
 refine(bX_ (x:=true) h (λr=>rfl) rfl).trans ?_
 congr 1
 have:∀(k:Nat) (t:Str),(bh_ (λ_ b=>if([0,10,13]:Str).contains b then some false else none) k t).getD true=decide (ak_ [0,10,13] t=t.length):=by
  intro k t
  induction t generalizing k with
  | nil=>rfl
  | cons b t ih =>
   simp only[bh_,ak_,List.takeWhile_cons];cases hb:([0,10,13]:Str).contains b with
   | true=>simp
   | false =>
    simp only[Bool.false_eq_true,if_false,Bool.not_false,if_true,qLc];rw[ih (k+1)];unfold ak_;exact decide_eq_decide.2 (by omega)
 exact this 0 s
def cW_(l:List Xq)(a:Xq):Int:=if l.length>=32 then 22 else if !(g9_ a.Xc)then 6 else if a.Xa && !(a.Xn==[])then 2 else if ak_ [0,10,13] a.Xn<a.Xn.length then 2 else if a.Xn.length>1024 then 4 else if l.any λb=>b.Xc==a.Xc then 7 else 0
theorem ja_(l:List Xq)(p:Xq->Bool)(hl:l.length<=9223372036854775807):ba_ l (λa=>some (p a))=some (at_ p l):=by
 unfold ba_;have h:=bp_ (body:=bA_ l (λa=>some (p a))) l (λi x=>if p x then some ((i:Nat):Int)else none) (aS_ hl) (λi hi=>by
  unfold bA_;rw[aR_ hi,cond_true,aC_ hi];simp only[qBs];cases p l[i]with
  | true=>rfl
  | false =>
   simp only[cond_false,Bool.false_eq_true,if_false,ec_];rw[ag_ (by omega)]) (by
  unfold bA_;rw[bj_];rfl)
 refine(bX_ (x:=(-1:Int)) h (λr=>rfl) rfl).trans ?_;rw[at_getD]
theorem at_any{α:Type}(p:α->Bool)(l:List α):decide (at_ p l>=0)=l.any p:=by
 have:=at_neg p l;have h2:decide (at_ p l>=0) = !(decide (at_ p l<0)):=by
  by_cases h:at_ p l<0
  .rw[decide_eq_true h,decide_eq_false (by omega)];rfl
  .rw[decide_eq_false h,decide_eq_true (by omega)];rfl
 rw[h2,this];cases hf:l.find? p with
 | none =>
  rw[List.find?_eq_none]at hf
  symm;simp only[Option.isNone_none,Bool.not_true,List.any_eq_false];exact hf
 | some x =>
  symm;simp only[Option.isNone_some,Bool.not_false,List.any_eq_true];exact⟨x,List.mem_of_find?_eq_some hf,List.find?_some hf⟩
theorem ha_(l:List Xq)(p:Xq->Bool)(hl:l.length<=9223372036854775807):bg_ l (λa=>some (p a))=some (l.any p):=by
 unfold bg_;rw[ja_ l p hl];simp only[qBs];rw[at_any]
theorem nd_{l:List Xq}{a:Xq}(hl:l.length<=9223372036854775807)(hn:a.Xc.length<=9223372036854775807)(hv:a.Xn.length<=9223372036854775807):fu_ l a=some (cW_ l a):=by
 unfold fu_ cW_;by_cases h32:l.length>=32
 .rw[decide_eq_true (show(l.length:Int)>=32 by omega),if_pos h32];rfl
 .rw [decide_eq_false (show ¬(l.length:Int)>=32 by omega),if_neg h32,cond_false,isName_eq hn];simp only[qBs];cases g9_ a.Xc with
  | false=>rfl
  | true =>
   simp only[Bool.not_true,cond_false,Bool.false_eq_true,if_false];cases a.Xa && !(a.Xn==[])with
   | true=>rfl
   | false =>
    simp only[cond_false,Bool.false_eq_true,if_false];rw[nc_ hv];simp only[qBs];by_cases hu:ak_ [0,10,13] a.Xn<a.Xn.length
    .rw[decide_eq_true (show((ak_ [0,10,13] a.Xn:Nat):Int)<(a.Xn.length:Int)by omega),if_pos hu];rfl
    .rw[decide_eq_false (show ¬((ak_ [0,10,13] a.Xn:Nat):Int)<(a.Xn.length:Int)by omega),if_neg hu,cond_false];by_cases h1:a.Xn.length>1024
     .rw[decide_eq_true (show(a.Xn.length:Int)>1024 by omega),if_pos h1];rfl
     .rw[decide_eq_false (show ¬(a.Xn.length:Int)>1024 by omega),if_neg h1,cond_false];have:(λ(u1:Xq)=>Option.bind (i6_ u1 a) λ(v1:Bool)=>some v1)=λb=>some (b.Xc==a.Xc):=rfl
      rw[this,ha_ l _ hl];simp only[qBs];cases l.any λb=>b.Xc==a.Xc<;>rfl
theorem l7_ {l:List Xq} {a:Xq} (hl:l.length<=9223372036854775807) (hn:a.Xc.length<=9223372036854775807) (hv:a.Xn.length<=9223372036854775807):gF_ l a=some (cW_ l a):=by
 unfold gF_ cW_;by_cases h32:l.length>=32
 .rw[decide_eq_true (show(l.length:Int)>=32 by omega),if_pos h32];rfl
 .rw [decide_eq_false (show ¬(l.length:Int)>=32 by omega),if_neg h32,cond_false,refName_eq hn];simp only[qBs];cases g9_ a.Xc with
  | false=>rfl
  | true =>
   simp only[Bool.not_true,cond_false,Bool.false_eq_true,if_false];cases a.Xa && !(a.Xn==[])with
   | true=>rfl
   | false =>
    simp only[cond_false,Bool.false_eq_true,if_false];rw[refPlain_eq hv];simp only[qBs];have hle:=es_ [0,10,13] a.Xn;by_cases hu:ak_ [0,10,13] a.Xn<a.Xn.length
    .rw[decide_eq_false (show ¬ak_ [0,10,13] a.Xn=a.Xn.length by omega),if_pos hu];rfl
    .rw [decide_eq_true (show ak_ [0,10,13] a.Xn=a.Xn.length by omega),if_neg hu];simp only[Bool.not_true,cond_false];by_cases h1:a.Xn.length>1024
     .rw[decide_eq_true (show(a.Xn.length:Int)>1024 by omega),if_pos h1];rfl
     .rw[decide_eq_false (show ¬(a.Xn.length:Int)>1024 by omega),if_neg h1,cond_false];have h:=k1_ (body:=g2_ l a) l (λb => !(b.Xc==a.Xc)) (7:Int) (aS_ hl) (λi hi=>by
       unfold g2_;rw[aR_ hi,cond_true,aC_ hi];simp only[qBs];cases l[i].Xc==a.Xc with
       | true=>rfl
       | false =>
        simp only[cond_false,Bool.not_false,if_true];rw[ag_ (by omega)]) (by
       unfold g2_;rw[bj_];rfl)
      refine as_ h ?_;have hany:(l.any λb=>b.Xc==a.Xc) = !(l.all λb => !(b.Xc==a.Xc)):=by
       rw[List.all_eq_not_any_not];simp
      rw[hany];cases l.all λb => !(b.Xc==a.Xc)<;>rfl
theorem k4_{α β γ:Type}{body:Int×γ->Option (Step (Int×γ) (Out Unit β))}(c:γ)(xs:List α)(g:Nat->α->Option β)(hn:xs.length<BIG)
  (hb:∀i (h:i<xs.length),body ((i:Int),c)=some (match g i xs[i]with|some r => .done (.ret r)|none => .next (((i+1:Nat):Int),c)))
  (he:body ((xs.length:Int),c)=some (.done (.fall ()))):ae_ body BIG (0,c)=some (outO (bh_ g 0 xs)):=by
 refine i9_ (J:=λi s b=>s=((i:Int),c)/\b=outO (bh_ g i (xs.drop i))) xs.length hn (λs b hJ => ?_) (λi s b hi hJ => ?_) (by simp)
 .obtain⟨rfl,rfl⟩:=hJ;rw[he];simp[bh_,outO]
 .obtain⟨rfl,rfl⟩:=hJ;rw[hb i hi,List.drop_eq_getElem_cons hi];simp only[bh_];cases hg:g i xs[i]with
  | some r=>exact .inl rfl
  | none=>exact .inr ⟨_,rfl,rfl,rfl⟩
structure AttrL(l:List Xq):Prop where
 len:l.length<=9223372036854775807
 nm:∀a∈l,a.Xc.length<=9223372036854775807
 vl:∀a∈l,a.Xn.length<=9223372036854775807
def fX_(l:List Xq)(i:Nat)(x:Xq):Option Int:=if cW_ (l.take i) x=0 then none else some (cW_ (l.take i) x)
def da_(l:List Xq):Int:=(bh_ (fX_ l) 0 l).getD 0
theorem attrCheck_eq{l:List Xq}(h:AttrL l):gV_ l=some (da_ l):=by
 unfold gV_;have hs:=bp_ (body:=f6_ l) l (fX_ l) (aS_ h.len) (λi hi=>by
  unfold f6_;have hm:=List.getElem_mem hi;have hl:=h.len;rw[aR_ hi,cond_true,aC_ hi,bm_ (Int.le_refl 0) (by omega) (by omega)];simp only[qBs,Int.toNat_natCast,Int.toNat_zero,List.drop_zero];rw[nd_ (by rw[List.length_take];omega) (h.nm _ hm) (h.vl _ hm)];simp only[qBs];unfold fX_;by_cases h0:cW_ (l.take i) l[i]=0
  .rw[if_pos h0,h0];simp only[bne_self_eq_false,cond_false,ec_];rw[ag_ (by omega)]
  .rw[if_neg h0,show(cW_ (l.take i) l[i] != 0)=true from bne_iff_ne.2 h0];rfl) (by
  unfold f6_;rw[bj_];rfl)
 exact bX_ (x:=(0:Int)) hs (λr=>rfl) rfl
theorem refCheck_eq{l:List Xq}(h:AttrL l):hL_ l=some (da_ l):=by
 unfold hL_;have hs:=bp_ (body:=fy_ l) l (fX_ l) (aS_ h.len) (λi hi=>by
  unfold fy_;have hm:=List.getElem_mem hi;have hl:=h.len;rw[aR_ hi,cond_true,aC_ hi,bm_ (Int.le_refl 0) (by omega) (by omega)];simp only[qBs,Int.toNat_natCast,Int.toNat_zero,List.drop_zero];rw[l7_ (by rw[List.length_take];omega) (h.nm _ hm) (h.vl _ hm)];simp only[qBs];unfold fX_;by_cases h0:cW_ (l.take i) l[i]=0
  .rw[if_pos h0,h0];simp only[bne_self_eq_false,cond_false,ec_];rw[ag_ (by omega)]
  .rw[if_neg h0,show(cW_ (l.take i) l[i] != 0)=true from bne_iff_ne.2 h0];rfl) (by
  unfold fy_;rw[bj_];rfl)
 exact bX_ (x:=(0:Int)) hs (λr=>rfl) rfl
def e4_(s:Str):Int:=if s.length>1024 then 4 else if s.contains 10 then 2 else 0
theorem op_(s:Str):g0_ s=some (e4_ s):=by
 unfold g0_ e4_;by_cases h:s.length>1024
 .rw[decide_eq_true (show(s.length:Int)>1024 by omega),if_pos h];rfl
 .rw[decide_eq_false (show ¬(s.length:Int)>1024 by omega),if_neg h,cond_false];have hl:=k1_ (body:=f7_ s) s (λb => !(b==10)) (2:Int) (aS_ (by omega)) (λi hi=>by
   unfold f7_;rw[aR_ hi,cond_true,aT_ hi];simp only[qBs];have hc:((s[i].toNat:Int)==10)=(s[i]==10):=by
    rw[Bool.eq_iff_iff,beq_iff_eq,beq_iff_eq];exact⟨λe=>UInt8.toNat_inj.1 (show s[i].toNat=10 by omega),λe=>by rw[e];rfl⟩
   rw[hc];cases s[i]==10 with
   | true=>rfl
   | false =>
    simp only[cond_false,Bool.not_false,if_true];rw[ag_ (by omega)]) (by
   unfold f7_;rw[bj_];rfl)
  refine as_ hl ?_;have:s.contains 10 = !(s.all λb => !(b==10)):=by
   rw[List.contains_eq_any_beq,List.all_eq_not_any_not];simp only[Bool.not_not]
   congr 1
   funext b
   rw[Bool.eq_iff_iff,beq_iff_eq,beq_iff_eq];exact eq_comm
  rw[this];cases s.all λb => !(b==10)<;>rfl
def hP_(_:Nat)(s:Str):Option Int:=if e4_ s=0 then none else some (e4_ s)
def hb_(m:Xx):Int:=(bh_ hP_ 0 [m.Xd,m.Xr,m.Xt,m.Xf]).getD (if da_ m.Xv=0 then(if m.Xv.any (·.Xa)then 2 else if m.Xm.length>65536 then 4 else 0)else da_ m.Xv)
theorem ll_{m:Xx}(h:AttrL m.Xv):bP_ m=some (hb_ m):=by
 unfold bP_;have hs:=k4_ (body:=fv_ m) [m.Xd,m.Xr,m.Xt,m.Xf] [m.Xd,m.Xr,m.Xt,m.Xf] hP_ (by unfold BIG;simp) (λi hi=>by
  unfold fv_;rw[aR_ hi,cond_true,aC_ hi];simp only[qBs];generalize([m.Xd,m.Xr,m.Xt,m.Xf]:List Str)[i]=s;unfold hP_ e4_;by_cases h1:s.length>1024
  .rw[decide_eq_true (show(s.length:Int)>1024 by omega),if_pos h1];rfl
  .rw[decide_eq_false (show ¬(s.length:Int)>1024 by omega),if_neg h1,cond_false,jQ_];simp only[qBs];cases s.contains 10 with
   | true=>rfl
   | false =>
    simp only[cond_false,Bool.false_eq_true,if_false,if_true];have hi':i<4:=hi;rw[ag_ (by omega)]) (by
  unfold fv_;rw[bj_];rfl)
 unfold hb_;cases hsc:bh_ hP_ 0 [m.Xd,m.Xr,m.Xt,m.Xf]with
 | some r =>
  rw[hsc]at hs;exact as_ hs rfl
 | none =>
  rw[hsc]at hs;refine as_ hs ?_;simp only[outO];rw[attrCheck_eq h];simp only[qBs,Option.getD_none];by_cases h0:da_ m.Xv=0
  .rw[if_pos h0,h0];simp only[bne_self_eq_false,cond_false];unfold eD_;have:(λ(u1:Xq)=>Option.bind (gW_ u1) λ(v1:Bool)=>some v1)=λb=>some b.Xa:=rfl
   rw[this,ha_ _ _ h.len];simp only[qBs];cases m.Xv.any (·.Xa)with
   | true=>rfl
   | false =>
    simp only[cond_false,Bool.false_eq_true,if_false];by_cases h1:m.Xm.length>65536
    .rw[decide_eq_true (show(m.Xm.length:Int)>65536 by omega),if_pos h1];rfl
    .rw[decide_eq_false (show ¬(m.Xm.length:Int)>65536 by omega),if_neg h1];rfl
  .rw[if_neg h0,show(da_ m.Xv != 0)=true from bne_iff_ne.2 h0];rfl
theorem jb_{m:Xx}(h:AttrL m.Xv):fR_ m=some (hb_ m):=by
 unfold fR_;have hs:=k4_ (body:=fz_) [m.Xd,m.Xr,m.Xt,m.Xf] [m.Xd,m.Xr,m.Xt,m.Xf] hP_ (by unfold BIG;simp) (λi hi=>by
  unfold fz_;rw[aR_ hi,cond_true,aC_ hi];simp only[qBs];generalize([m.Xd,m.Xr,m.Xt,m.Xf]:List Str)[i]=s;rw[op_];simp only[qBs];unfold hP_;by_cases h0:e4_ s=0
  .rw[if_pos h0,h0];simp only[bne_self_eq_false,cond_false];have hi':i<4:=hi;rw[ag_ (by omega)]
  .rw[if_neg h0,show(e4_ s != 0)=true from bne_iff_ne.2 h0];rfl) (by
  unfold fz_;rw[bj_];rfl)
 unfold hb_;cases hsc:bh_ hP_ 0 [m.Xd,m.Xr,m.Xt,m.Xf]with
 | some r =>
  rw[hsc]at hs;exact as_ hs rfl
 | none =>
  rw[hsc]at hs;refine as_ hs ?_;simp only[outO];rw[refCheck_eq h];simp only[qBs,Option.getD_none];by_cases h0:da_ m.Xv=0
  .rw[if_pos h0,h0];simp only[bne_self_eq_false,cond_false];have hq:=k1_ (body:=fA_ m) m.Xv (λa => !a.Xa) (2:Int) (aS_ h.len) (λi hi=>by
    unfold fA_;have hl:=h.len;rw[aR_ hi,cond_true,aC_ hi];simp only[qBs];cases m.Xv[i].Xa with
    | true=>rfl
    | false =>
     simp only[cond_false,Bool.not_false,if_true];rw[ag_ (by omega)]) (by
    unfold fA_;rw[bj_];rfl)
   refine as_ hq ?_;have hany:(m.Xv.any (·.Xa)) = !(m.Xv.all λa => !a.Xa):=by
    rw[List.all_eq_not_any_not];simp
   rw[hany];cases m.Xv.all λa => !a.Xa with
   | false=>rfl
   | true =>
    simp only[Bool.not_true,Bool.false_eq_true,if_false,if_true];by_cases h1:m.Xm.length>65536
    .rw[decide_eq_true (show(m.Xm.length:Int)>65536 by omega),if_pos h1];rfl
    .rw[decide_eq_false (show ¬(m.Xm.length:Int)>65536 by omega),if_neg h1];rfl
  .rw[if_neg h0,show(da_ m.Xv != 0)=true from bne_iff_ne.2 h0];rfl
theorem mO_{c:UInt8}{s:Str}(h:s.contains c=true):s=s.take (ak_ [c] s)++c::s.drop (ak_ [c] s+1)/\(s.take (ak_ [c] s)).contains c=false/\dy_ s c=((ak_ [c] s:Nat):Int)/\ak_ [c] s<s.length:=by
 induction s with
 | nil=>cases h
 | cons b t ih =>
  by_cases hb:b=c
  .subst hb;have hu:ak_ [b] (b::t)=0:=by
    unfold ak_;rw[List.takeWhile_cons];simp
   rw[hu];refine⟨rfl,rfl,?_,by simp⟩;simp[dy_]
  .have h1:(b==c)=false:=beq_eq_false_iff_ne.2 hb;have h2:(c==b)=false:=beq_eq_false_iff_ne.2 λe=>hb e.symm
   rw[List.contains_cons,h2,Bool.false_or]at h;obtain⟨i1,i2,i3,i4⟩:=ih h;have hu:ak_ [c] (b::t)=ak_ [c] t+1:=by
    unfold ak_;rw[List.takeWhile_cons];simp[hb]
   rw[hu];refine⟨?_,?_,?_,by simp only[qLc];omega⟩
   .rw[List.take_succ_cons,List.drop_succ_cons,List.cons_append,←i1]
   .rw[List.take_succ_cons,List.contains_cons,h2,i2];rfl
   .have e:dy_ (b::t) c=if b==c then 0 else if dy_ t c == -1 then -1 else dy_ t c+1:=rfl
    rw[e,h1,i3,show(((ak_ [c] t:Nat):Int) == -1)=false from beq_eq_false_iff_ne.2 (by omega)];simp only[Bool.false_eq_true,if_false];omega
theorem hQ_(s:Str):bytesS (aJ_ s)=s:=by
 unfold bytesS aJ_;rw[List.map_map]
 conv=>rhs;rw[←List.map_id s]
 apply List.map_congr_left;intro b _;simp
theorem strI_app(a b:Str):aJ_ (a++b)=aJ_ a++aJ_ b:=List.map_append
theorem gs_(s:Str):(aJ_ s).length=s.length:=List.length_map _
theorem aW_(b k:UInt8):((b.toNat:Int)==(k.toNat:Int))=(b==k):=by
 rw[Bool.eq_iff_iff,beq_iff_eq,beq_iff_eq];exact⟨λe=>UInt8.toNat_inj.1 (by omega),λe=>by rw[e]⟩
theorem ds_{α:Type}{l:List α}{i:Nat}(h:i<l.length):l.take (i+1)=l.take i++[l[i]]:=by
 rw[List.take_succ_eq_append_getElem h]
theorem eR_{l:List Xq}{a:Xq}(h:cW_ l a=0):l.length<32/\g9_ a.Xc=true/\(a.Xa=true->a.Xn=[])/\ak_ [0,10,13] a.Xn=a.Xn.length/\a.Xn.length<=1024/\(l.any λb=>b.Xc==a.Xc)=false:=by
 unfold cW_ at h;split at h
 .cases h
 .rename_i h1;split at h
  .cases h
  .rename_i h2;split at h
   .cases h
   .rename_i h3;split at h
    .cases h
    .rename_i h4;split at h
     .cases h
     .rename_i h5;split at h
      .cases h
      .rename_i h6;have:=es_ [0,10,13] a.Xn;refine⟨by omega,by simpa using h2,λhq => ?_,by omega,by omega,by simpa using h6⟩;rw[hq]at h3;simpa using h3
theorem p4_{l:List Xq}:da_ l=0↔∀i (h:i<l.length),cW_ (l.take i) l[i]=0:=by
 unfold da_;constructor
 .intro h i hi;cases hs:bh_ (fX_ l) 0 l with
  | none =>
   have:=scan_none.1 hs i l[i] (List.getElem?_eq_getElem hi);rw[Nat.zero_add]at this;unfold fX_ at this;split at this
   .rename_i h0;exact h0
   .cases this
  | some r =>
   rw[hs]at h;obtain⟨j,x,h1,h2,_⟩:=h1_ hs;unfold fX_ at h2;split at h2
   .cases h2
   .rename_i h0;have e:=qSj h2;rw[Option.getD_some]at h;omega
 .intro h;have:bh_ (fX_ l) 0 l=none:=scan_none.2 λi x hx=>by
   obtain⟨hi,rfl⟩:=List.getElem?_eq_some_iff.1 hx;unfold fX_;rw[Nat.zero_add,if_pos (h i hi)]
  rw[this];rfl
theorem nameB_len{s:Str}(h:g9_ s=true):s.length<=33:=by
 unfold g9_ at h;simp only[qAn,qDe]at h;have h2:=h.2.1;unfold trimB at h2;split at h2
 .rw[List.length_drop]at h2;omega
 .omega
structure AttrOK(l:List Xq):Prop where
 len:l.length<=32
 nm:∀a∈l,g9_ a.Xc=true
 qv:∀a∈l,a.Xa=true->a.Xn=[]
 pl:∀a∈l,ak_ [0,10,13] a.Xn=a.Xn.length
 vl:∀a∈l,a.Xn.length<=1024
theorem attrOK_of{l:List Xq}(h:da_ l=0):AttrOK l:=by
 rw[p4_]at h;have key:∀a∈l,∃m,cW_ m a=0:=λa ha=>by
  obtain⟨i,hi,rfl⟩:=List.getElem_of_mem ha;exact⟨_,h i hi⟩
 refine⟨?_,λa ha => ?_,λa ha => ?_,λa ha => ?_,λa ha => ?_⟩
 .rcases Nat.lt_or_ge 32 l.length with h1|h1
  .have:=(eR_ (h 32 h1)).1;rw[List.length_take]at this;omega
  .exact h1
 .obtain⟨m,hm⟩:=key a ha;exact(eR_ hm).2.1
 .obtain⟨m,hm⟩:=key a ha;exact(eR_ hm).2.2.1
 .obtain⟨m,hm⟩:=key a ha;exact(eR_ hm).2.2.2.1
 .obtain⟨m,hm⟩:=key a ha;exact(eR_ hm).2.2.2.2.1
def be_:Str->Option (Str×Nat)
 | []=>none
 | b::t=>if b=39 then(match t with
   | []=>some ([],1)
   | c::t'=>if c=39 then(be_ t').map λp=>(39::p.1,p.2+2)else some ([],1))
  else(be_ t).map λp=>(b::p.1,p.2+1)
theorem fY_:∀(n:Nat) {s:Str} {p:Str×Nat},s.length<=n->be_ s=some p->p.2<=s.length/\p.1.length<=s.length/\1<=p.2
 | n,[],p,_,h=>by simp[be_]at h
 | n + 1,b::t,p,hn,h=>by
  have hn':t.length<=n:=by simpa using hn
  unfold be_ at h;split at h
  .split at h
   .obtain rfl:=qSj h;simp
   .rename_i c t';split at h
    .cases hq:be_ t' with
     | none=>rw[hq]at h;cases h
     | some q =>
      rw[hq]at h;obtain rfl:=qSj h;have:=fY_ n (s:=t') (by simp at hn';omega) hq;simp only[qLc];omega
    .obtain rfl:=qSj h;simp
  .cases hq:be_ t with
   | none=>rw[hq]at h;cases h
   | some q =>
    rw[hq]at h;obtain rfl:=qSj h;have:=fY_ n hn' hq;simp only[qLc];omega
theorem gG_{s t:Str}{i:Nat}{b:UInt8}(h:s.drop i=b::t):i<s.length/\an_ s (i:Int)=some (b.toNat:Int)/\s.drop (i+1)=t:=by
 have hi:i<s.length:=by
  rcases Nat.lt_or_ge i s.length with h1|h1
  .exact h1
  .rw[List.drop_eq_nil_of_le h1]at h;cases h
 rw[List.drop_eq_getElem_cons hi]at h;injection h with h1 h2;exact⟨hi,by rw[aT_ hi,h1],h2⟩
theorem drop_nil{s:Str}{i:Nat}(hi:i<=s.length)(h:s.drop i=[]):i=s.length:=by
 have:=congrArg List.length h;rw[List.length_drop,List.length_nil]at this;omega
theorem quoted_go {s:Str} (hs:s.length<=1000000000):∀(k:Nat) (rest:Str) (i:Nat) (buf:List Int) (f:Nat),rest.length<=k->k<f->i<=s.length->s.drop i=rest->buf.length<=i ->
  ae_ (ci_ s) f ((i:Int),buf)=some (match be_ rest with
   | some p => .ret (bytesS (buf++aJ_ p.1),((i+p.2:Nat):Int),true)
   | none => .fall ()):=by
 intro k
 induction k with
 | zero =>
  intro rest i buf f hk hf hi hd hb;obtain rfl:rest=[]:=List.length_eq_zero_iff.1 (by omega);obtain⟨f,rfl⟩:∃g,f=g+1:=⟨f-1,by omega⟩;obtain rfl:=drop_nil hi hd;refine ai_ ?_;unfold ci_;simp only[];rw[bj_];rfl
 | succ k ih =>
  intro rest i buf f hk hf hi hd hb;obtain⟨f,rfl⟩:∃g,f=g+1:=⟨f-1,by omega⟩;cases rest with
  | nil =>
   obtain rfl:=drop_nil hi hd;refine ai_ ?_;unfold ci_;simp only[];rw[bj_];rfl
  | cons b t =>
   obtain⟨hlt,hby,hd1⟩:=gG_ hd;have hk':t.length<=k:=by simpa using hk
   have hc:((b.toNat:Int)==39)=(b==39):=aW_ b 39;by_cases hb39:b=39
   .
    have e39:((b.toNat:Int) != 39)=false:=by rw[bne,hc,hb39];rfl
    cases t with
    | nil =>
     have he:i+1=s.length:=drop_nil (by omega) hd1;refine ai_ ?_;unfold ci_;simp only[];rw[aR_ hlt,cond_true,hby];simp only[qBs,e39,cond_false];rw[ag_ (by omega),show(((i+1:Nat):Int)==(s.length:Int))=true by rw[he];simp];simp only[cond_true,qBs];unfold be_;rw[if_pos hb39];simp[aJ_]
    | cons c t' =>
     obtain⟨hlt1,hby1,hd2⟩:=gG_ hd1;have hc1:((c.toNat:Int)==39)=(c==39):=aW_ c 39;have hne:(((i+1:Nat):Int)==(s.length:Int))=false:=beq_eq_false_iff_ne.2 (by omega);by_cases hc39:c=39
     .have e2:((c.toNat:Int) != 39)=false:=by rw[bne,hc1,hc39];rfl
      refine ap_ (s':=(((i+2:Nat):Int),buf++[39])) ?_ ?_
      .unfold ci_;simp only[];rw[aR_ hlt,cond_true,hby];simp only[qBs,e39,cond_false];rw[ag_ (by omega),hne];simp only[cond_false,hby1,qBs,e2];rw[bl_ (by simp only[qLc,List.length_nil];omega) (by simp only[qLc,List.length_nil];omega)];simp only[qBs];rw[ag_ (by omega)]
      .have hk2:t'.length<=k:=by simp at hk';omega
       rw[ih t' (i+2) (buf++[39]) f hk2 (by omega) (by omega) hd2 (by simp only[qLa,qLc,List.length_nil];omega)]
       conv=>rhs;unfold be_
       rw[if_pos hb39];simp only[hc39,if_true];cases be_ t' with
       | none=>rfl
       | some p =>
        simp only[Option.map_some]
        congr 2
        simp only[aJ_,List.map_cons,List.append_assoc,List.cons_append,List.nil_append]
        congr 2
        omega
     .have e2:((c.toNat:Int) != 39)=true:=by rw[bne,hc1,beq_eq_false_iff_ne.2 hc39];rfl
      refine ai_ ?_;unfold ci_;simp only[];rw[aR_ hlt,cond_true,hby];simp only[qBs,e39,cond_false];rw[ag_ (by omega),hne];simp only[cond_false,hby1,qBs,e2,cond_true];unfold be_;rw[if_pos hb39];simp only[hc39,if_false];simp[aJ_]
   .have e39:((b.toNat:Int) != 39)=true:=by rw[bne,hc,beq_eq_false_iff_ne.2 hb39];rfl
    refine ap_ (s':=(((i+1:Nat):Int),buf++[(b.toNat:Int)])) ?_ ?_
    .unfold ci_;simp only[];rw[aR_ hlt,cond_true,hby];simp only[qBs,e39,cond_true];rw[bl_ (by simp only[qLc,List.length_nil];omega) (by simp only[qLc,List.length_nil];omega)];simp only[qBs];rw[ag_ (by omega)]
    .rw[ih t (i+1) (buf++[(b.toNat:Int)]) f hk' (by omega) (by omega) hd1 (by simp only[qLa,qLc,List.length_nil];omega)]
     conv=>rhs;unfold be_
     rw[if_neg hb39];cases be_ t with
     | none=>rfl
     | some p =>
      simp only[Option.map_some]
      congr 2
      simp only[aJ_,List.map_cons,List.append_assoc,List.cons_append,List.nil_append]
      congr 2
      omega
theorem quoted_eq{s:Str}(hs:s.length<=1000000000):fQ_ s=some (match be_ s with
  | some p=>(p.1,(p.2:Int),true)
  | none=>([],0,false)):=by
 unfold fQ_;have h:=quoted_go hs s.length s 0 [] BIG (Nat.le_refl _) (aS_ (by omega)) (Nat.zero_le _) rfl (Nat.le_refl _);refine as_ h ?_;cases be_ s with
 | none=>rfl
 | some p =>
  simp only[List.nil_append,Nat.zero_add];rw[hQ_]
def cm_(b:UInt8):Bool:=(b==32)||(b==9)
def bR_(t:Str)(i:Nat):Bool:=match t[i]? with|none=>true|some b=>cm_ b
def zeroA:Xq:=Xq.mk [] [] false
def bO_(t:Str):Int×Xq×Nat :=
 if(t.drop (ak_ [32,9,61,63,39] t)).take 1==[63]then
  if bR_ t (ak_ [32,9,61,63,39] t+1)then(0,Xq.mk (t.take (ak_ [32,9,61,63,39] t)) [] true,ak_ [32,9,61,63,39] t+1)else(2,zeroA,0)
 else if(t.drop (ak_ [32,9,61,63,39] t)).take 2==[61,39]then
  match be_ (t.drop (ak_ [32,9,61,63,39] t+2))with
  | none=>(48,zeroA,0)
  | some p=>if bR_ t (ak_ [32,9,61,63,39] t+(2+p.2))then(0,Xq.mk (t.take (ak_ [32,9,61,63,39] t)) p.1 false,ak_ [32,9,61,63,39] t+(2+p.2))else(2,zeroA,0)
 else if(t.drop (ak_ [32,9,61,63,39] t)).take 1==[61]then
  if(((t.drop (ak_ [32,9,61,63,39] t)).take (ak_ [32,9] (t.drop (ak_ [32,9,61,63,39] t)))).drop 1).contains 39 then(2,zeroA,0)
  else(0,Xq.mk (t.take (ak_ [32,9,61,63,39] t)) (((t.drop (ak_ [32,9,61,63,39] t)).take (ak_ [32,9] (t.drop (ak_ [32,9,61,63,39] t)))).drop 1) false,ak_ [32,9,61,63,39] t+ak_ [32,9] (t.drop (ak_ [32,9,61,63,39] t)))
 else(2,zeroA,0)
theorem until_at{p s:Str}{b:UInt8}(h:s[ak_ p s]? = some b):p.contains b=true:=by
 induction s with
 | nil=>simp at h
 | cons c t ih =>
  unfold ak_ at h ih;rw[List.takeWhile_cons]at h;cases hc:p.contains c with
  | true =>
   rw[hc]at h;simp at h;rw[←h];exact hc
  | false =>
   rw[hc]at h;simp only[Bool.not_false,if_true,qLc,List.getElem?_cons_succ]at h;exact ih h
theorem h2_(b:UInt8):fw_ (b.toNat:Int)=some (cm_ b):=by
 unfold fw_ cm_;have k1:((b.toNat:Int)==32)=(b==32):=aW_ b 32;have k2:((b.toNat:Int)==9)=(b==9):=aW_ b 9;rw[k1,k2]
theorem tail_eq{t:Str}{i:Nat}(_:i<=t.length):(Option.bind (bif(decide ((i:Int)<(t.length:Int)))then
   (an_ t (i:Int)).bind λy12 =>
   (fw_ y12).bind λy13 =>
   some (!y13)
    else some false) λ(y14:Bool)=>some y14)=some (!(bR_ t i)):=by
 unfold bR_;rcases Nat.lt_or_ge i t.length with h|h
 .rw[aR_ h,cond_true,aT_ h,List.getElem?_eq_getElem h];simp only[qBs];rw[h2_];rfl
 .rw[decide_eq_false (by omega),List.getElem?_eq_none h];rfl
theorem k5_{β:Type}{o:Option Bool}{f:Bool->Option β}{r:Bool}(h:(Option.bind o λy=>some y)=some r):Option.bind o f=f r:=by
 cases o with
 | none=>cases h
 | some x=>simp only[qBs]at h ⊢;rw[qSj h]
theorem one_eq{t:Str}(ht:t.length<=1000000000):kZ_ t=some ((bO_ t).2.1,((bO_ t).2.2:Int),(bO_ t).1):=by
 have hn:=es_ [32,9,61,63,39] t;unfold kZ_ bO_;rw[nc_ (by omega)];generalize hu:ak_ [32,9,61,63,39] t=n at hn;simp only[qBs];rw[bm_ (Int.le_refl 0) (by omega) (by omega),bm_ (by omega) (by omega) (Int.le_refl _)];simp only[qBs,Int.toNat_natCast,Int.toNat_zero,List.drop_zero,List.take_length];unfold strings_HasPrefix;rw[hasPre,hasPre,hasPre];simp only[qBs,qLc,List.length_nil,Nat.zero_add,Nat.reduceAdd];have hdl:(t.drop n).length=t.length-n:=List.length_drop;cases c1:(t.drop n).take 1==[63]with
 | true =>
  have hlt:n<t.length:=by
   rcases Nat.lt_or_ge n t.length with h|h
   .exact h
   .rw[List.drop_eq_nil_of_le h]at c1;cases c1
  simp only[cond_true,qBs,if_true];rw[ag_ (by omega)];refine(k5_ (tail_eq (by omega))).trans ?_;cases bR_ t (n+1)<;>rfl
 | false =>
  simp only[cond_false,Bool.false_eq_true,if_false];cases c2:(t.drop n).take 2==[61,39]with
  | true =>
   have hlt:n+2<=t.length:=by
    rw[iN_]at c2;have:=congrArg List.length (of_decide_eq_true c2);rw[List.length_take,hdl]at this;simp only[qLc,List.length_nil]at this;omega
   simp only[cond_true,if_true];rw[bm_ (by omega) (by omega) (Int.le_refl _)];simp only[qBs,Int.toNat_natCast,List.take_length];have e2:(t.drop n).drop (2:Int).toNat=t.drop (n+2):=by rw[List.drop_drop];rfl
   rw[e2,quoted_eq (by rw[List.length_drop];omega)];cases hq:be_ (t.drop (n+2))with
   | none=>rfl
   | some p =>
    have hp:=fY_ (t.drop (n+2)).length (Nat.le_refl _) hq;rw[List.length_drop]at hp;simp only[qBs,Bool.not_true,cond_false];rw[bE_ (n:=2+(p.2:Int)) ⟨by omega,by omega⟩,bE_ ⟨by omega,by omega⟩,show(n:Int)+(2+(p.2:Int))=((n+(2+p.2):Nat):Int)by omega];refine(k5_ (tail_eq (by omega))).trans ?_;cases bR_ t (n+(2+p.2))<;>rfl
  | false =>
   simp only[cond_false,Bool.false_eq_true,if_false];cases c3:(t.drop n).take 1==[61]with
   | false=>rfl
   | true =>
    have hlt:n<t.length:=by
     rcases Nat.lt_or_ge n t.length with h|h
     .exact h
     .rw[List.drop_eq_nil_of_le h]at c3;cases c3
    simp only[cond_true,if_true];rw[nc_ (by rw[hdl];omega)];have hk:=es_ [32,9] (t.drop n);have hk1:1<=ak_ [32,9] (t.drop n):=by
     cases hr:t.drop n with
     | nil=>rw[hr]at hdl;simp at hdl;omega
     | cons b r =>
      rw[hr]at c3;have hb:b=61:=by
       rw[List.take_succ_cons,List.take_zero,iN_]at c3;have:=of_decide_eq_true c3;injection this
      unfold ak_;rw[List.takeWhile_cons,hb];simp
    simp only[qBs];rw[bm_ (by omega) (by omega) (by omega)];simp only[qBs,Int.toNat_natCast];rw[jQ_];simp only[qBs];have e1:(1:Int).toNat=1:=rfl;rw[e1];cases hc:(((t.drop n).take (ak_ [32,9] (t.drop n))).drop 1).contains 39 with
    | true=>rfl
    | false =>
     simp only[cond_false,qBs,Bool.false_eq_true,if_false];rw[hdl]at hk;rw[bE_ ⟨by omega,by omega⟩,show(n:Int)+((ak_ [32,9] (t.drop n):Nat):Int)=((n+ak_ [32,9] (t.drop n):Nat):Int)by omega];refine(k5_ (tail_eq (by omega))).trans ?_;have hbl:bR_ t (n+ak_ [32,9] (t.drop n))=true:=by
      unfold bR_;cases hg:t[n+ak_ [32,9] (t.drop n)]? with
      | none=>rfl
      | some b =>
       have h4:=until_at (p:=[32,9]) (s:=t.drop n) (b:=b) (by rw[List.getElem?_drop];exact hg);simp only[List.contains_cons,List.contains_nil,Bool.or_false]at h4;exact h4
     rw[hbl];rfl
theorem or_{s:Str}{p:UInt8->Bool}{body:Int->Option (Step Int Int)}(hb:∀i (h:i<s.length),body (i:Int)=some (if p s[i]then .done (i:Int)else .next ((i+1:Nat):Int)))
  (he:body (s.length:Int)=some (.done (s.length:Int))):∀(k:Nat) (i f:Nat),(s.drop i).length<=k->k<f->i<=s.length->ae_ body f (i:Int)=some ((i+((s.drop i).takeWhile λb => !(p b)).length:Nat):Int):=by
 intro k
 induction k with
 | zero =>
  intro i f hk hf hi;obtain⟨f,rfl⟩:∃g,f=g+1:=⟨f-1,by omega⟩;rw[List.length_drop]at hk;obtain rfl:i=s.length:=by omega
  rw[ai_ he,List.drop_length];rfl
 | succ k ih =>
  intro i f hk hf hi;obtain⟨f,rfl⟩:∃g,f=g+1:=⟨f-1,by omega⟩;rw[List.length_drop]at hk;rcases Nat.lt_or_ge i s.length with h|h
  .rw[List.drop_eq_getElem_cons h,List.takeWhile_cons];by_cases hp:p s[i]=true
   .rw[ai_ ((hb i h).trans (by rw[if_pos hp])),hp];rfl
   .have hp':p s[i]=false:=by simpa using hp
    refine(ap_ ((hb i h).trans (by rw[if_neg hp])) (ih (i+1) f (by rw[List.length_drop];omega) (by omega) (by omega))).trans ?_;rw[hp'];simp only[Bool.not_false,if_true,qLc]
    congr 2
    omega
  .obtain rfl:i=s.length:=by omega
   rw[ai_ he,List.drop_length];rfl
theorem l8_(b:UInt8):fS_ (b.toNat:Int)=some (cm_ b):=h2_ b
theorem hx_{s:Str}{i:Nat}(hi:i<=s.length):fB_ s (i:Int)=some (bR_ s i):=by
 unfold fB_ bR_;rcases Nat.lt_or_ge i s.length with h|h
 .rw[show((i:Int)==(s.length:Int))=false from beq_eq_false_iff_ne.2 (by omega),cond_false,aT_ h,List.getElem?_eq_getElem h];simp only[qBs];rw[l8_];rfl
 .obtain rfl:i=s.length:=by omega
  rw[List.getElem?_eq_none (Nat.le_refl _)];simp
theorem refQuoted_go {s:Str} (hs:s.length<=1000000000):∀(k:Nat) (rest:Str) (i:Nat) (out:Str) (f:Nat),rest.length<=k->k<f->i<=s.length->s.drop i=rest->out.length<=i ->
  ∃e,ae_ (b5_ s) f ((i:Int),out)=some (match be_ rest with
   | some p => .ret (out++p.1,((i+p.2:Nat):Int),0)
   | none => .fall e):=by
 intro k
 induction k with
 | zero =>
  intro rest i out f hk hf hi hd hb;obtain rfl:rest=[]:=List.length_eq_zero_iff.1 (by omega);obtain⟨f,rfl⟩:∃g,f=g+1:=⟨f-1,by omega⟩;obtain rfl:=drop_nil hi hd;refine⟨(s.length:Int),ai_ ?_⟩;unfold b5_;simp only[];rw[bj_];rfl
 | succ k ih =>
  intro rest i out f hk hf hi hd hb;obtain⟨f,rfl⟩:∃g,f=g+1:=⟨f-1,by omega⟩;cases rest with
  | nil =>
   obtain rfl:=drop_nil hi hd;refine⟨(s.length:Int),ai_ ?_⟩;unfold b5_;simp only[];rw[bj_];rfl
  | cons b t =>
   obtain⟨hlt,hby,hd1⟩:=gG_ hd;have hk':t.length<=k:=by simpa using hk
   have hc:((b.toNat:Int)==39)=(b==39):=aW_ b 39;by_cases hb39:b=39
   .have e39:((b.toNat:Int) != 39)=false:=by rw[bne,hc,hb39];rfl
    cases t with
    | nil =>
     have he:i+1=s.length:=drop_nil (by omega) hd1;refine⟨0,ai_ ?_⟩;unfold b5_;simp only[];rw[aR_ hlt,cond_true,hby];simp only[qBs,e39,cond_false];rw[ag_ (by omega),show(((i+1:Nat):Int)==(s.length:Int))=true by rw[he];simp];simp only[cond_true,qBs];unfold be_;rw[if_pos hb39];simp
    | cons c t' =>
     obtain⟨hlt1,hby1,hd2⟩:=gG_ hd1;have hc1:((c.toNat:Int)==39)=(c==39):=aW_ c 39;have hne:(((i+1:Nat):Int)==(s.length:Int))=false:=beq_eq_false_iff_ne.2 (by omega);by_cases hc39:c=39
     .have e2:((c.toNat:Int) != 39)=false:=by rw[bne,hc1,hc39];rfl
      have hk2:t'.length<=k:=by simp at hk';omega
      obtain⟨e,hih⟩:=ih t' (i+2) (out++[39]) f hk2 (by omega) (by omega) hd2 (by simp only[qLa,qLc,List.length_nil];omega);refine⟨e,(ap_ (s':=(((i+2:Nat):Int),out++[39])) ?_ hih).trans ?_⟩
      .unfold b5_;simp only[];rw[aR_ hlt,cond_true,hby];simp only[qBs,e39,cond_false];rw[ag_ (by omega),hne];simp only[cond_false,hby1,qBs,e2];rw[cat_eq (by simp only[qLc,List.length_nil];omega),bE_ (n:=(i:Int)+2) ⟨by omega,by omega⟩];rfl
      .conv=>rhs;unfold be_
       rw[if_pos hb39];simp only[hc39,if_true];cases be_ t' with
       | none=>rfl
       | some p =>
        simp only[Option.map_some,List.append_assoc,List.cons_append,List.nil_append]
        congr 4
        omega
     .have e2:((c.toNat:Int) != 39)=true:=by rw[bne,hc1,beq_eq_false_iff_ne.2 hc39];rfl
      refine⟨0,ai_ ?_⟩;unfold b5_;simp only[];rw[aR_ hlt,cond_true,hby];simp only[qBs,e39,cond_false];rw[ag_ (by omega),hne];simp only[cond_false,hby1,qBs,e2,cond_true];unfold be_;rw[if_pos hb39];simp only[hc39,if_false];simp
   .have e39:((b.toNat:Int) != 39)=true:=by rw[bne,hc,beq_eq_false_iff_ne.2 hb39];rfl
    obtain⟨e,hih⟩:=ih t (i+1) (out++[b]) f hk' (by omega) (by omega) hd1 (by simp only[qLa,qLc,List.length_nil];omega);refine⟨e,(ap_ (s':=(((i+1:Nat):Int),out++[b])) ?_ hih).trans ?_⟩
    .have e1:(s.take (i+1)).drop i=[b]:=by
      rw[List.drop_take,hd,show i+1-i=1 by omega];rfl
     unfold b5_;simp only[];rw[aR_ hlt,cond_true,hby];simp only[qBs,e39,cond_true];rw[ag_ (by omega),bm_ (by omega) (by omega) (by omega)];simp only[qBs,Int.toNat_natCast];rw[e1,cat_eq (by simp only[qLc,List.length_nil];omega)];rfl
    .conv=>rhs;unfold be_
     rw[if_neg hb39];cases be_ t with
     | none=>rfl
     | some p =>
      simp only[Option.map_some,List.append_assoc,List.cons_append,List.nil_append]
      congr 4
      omega
theorem refQuoted_eq{s:Str}{i:Nat}(hs:s.length<=1000000000)(hi:i<=s.length):∃v e,g3_ s (i:Int)=some (match be_ (s.drop i)with
  | some p=>(p.1,((i+p.2:Nat):Int),0)
  | none=>(v,e,48)):=by
 obtain⟨e,h⟩:=refQuoted_go hs (s.drop i).length (s.drop i) i [] BIG (Nat.le_refl _) (aS_ (by rw[List.length_drop];omega)) hi rfl (Nat.zero_le _);refine⟨[],e,?_⟩;unfold g3_;refine as_ h ?_;cases be_ (s.drop i)<;>rfl
theorem ne_{t:Str}{c:UInt8}:(t.take 1==[c])=(match t with | []=>false|b::_=>b==c):=by
 cases t with
 | nil=>rfl
 | cons b r =>
  rw[List.take_succ_cons,List.take_zero];rw[Bool.eq_iff_iff,beq_iff_eq,beq_iff_eq];exact⟨λe=>by injection e,λe=>by rw[e]⟩
theorem loopL1{s:Str}(hs:s.length<=1000000000){i:Nat}(hi:i<=s.length):ae_ (eF_ s) BIG (i:Int)=some ((i+ak_ [32,9,61,63,39] (s.drop i):Nat):Int):=by
 have h:=or_ (s:=s) (p:=λb=>([32,9,61,63,39]:Str).contains b) (body:=eF_ s) (λi hi=>by
  unfold eF_;rw[aR_ hi,cond_true,aT_ hi];simp only[qBs];rw[l8_];have k1:((s[i].toNat:Int)==61)=(s[i]==61):=aW_ s[i] 61;have k2:((s[i].toNat:Int)==63)=(s[i]==63):=aW_ s[i] 63;have k3:((s[i].toNat:Int)==39)=(s[i]==39):=aW_ s[i] 39;have hc:([32,9,61,63,39]:Str).contains s[i]=(cm_ s[i]||((s[i]==61)||((s[i]==63)||(s[i]==39)))):=by
   unfold cm_;simp only[List.contains_cons,List.contains_nil,Bool.or_false,Bool.or_assoc]
  simp only[hc,qBs,bne,k1,k2,k3];rw[ag_ (by omega)];cases cm_ s[i]<;>cases(s[i]==61)<;>cases(s[i]==63)<;>cases(s[i]==39)<;>rfl) (by
  unfold eF_;rw[bj_];rfl) (s.drop i).length i BIG (Nat.le_refl _) (aS_ (by rw[List.length_drop];omega)) hi
 rw[h];rfl
theorem loopL2{s nm:Str}(hs:s.length<=1000000000):∀(k:Nat) (i f:Nat),(s.drop i).length<=k->k<f->i<=s.length ->
  ∃e,ae_ (c8_ s nm) f (i:Int)=some (if((s.drop i).take (ak_ [32,9] (s.drop i))).contains 39 then .ret (Xq.mk nm [] false,e,2)else .fall ((i+ak_ [32,9] (s.drop i):Nat):Int)):=by
 intro k
 induction k with
 | zero =>
  intro i f hk hf hi;obtain⟨f,rfl⟩:∃g,f=g+1:=⟨f-1,by omega⟩;rw[List.length_drop]at hk;obtain rfl:i=s.length:=by omega
  refine⟨0,ai_ ?_⟩;unfold c8_;rw[hx_ (Nat.le_refl _)];unfold bR_;rw[List.getElem?_eq_none (Nat.le_refl _),List.drop_length];rfl
 | succ k ih =>
  intro i f hk hf hi;obtain⟨f,rfl⟩:∃g,f=g+1:=⟨f-1,by omega⟩;rw[List.length_drop]at hk;rcases Nat.lt_or_ge i s.length with h|h
  .have hd:=List.drop_eq_getElem_cons h;have k3:((s[i].toNat:Int)==39)=(s[i]==39):=aW_ s[i] 39;have hbc:([32,9]:Str).contains s[i]=cm_ s[i]:=by
    unfold cm_;simp only[List.contains_cons,List.contains_nil,Bool.or_false]
   have hba:bR_ s i=cm_ s[i]:=by
    unfold bR_;rw[List.getElem?_eq_getElem h]
   cases hb:cm_ s[i]with
   | true =>
    refine⟨0,ai_ ?_⟩;unfold c8_;rw[hx_ hi,hba,hb];have hu:ak_ [32,9] (s.drop i)=0:=by
     unfold ak_;rw[hd,List.takeWhile_cons,hbc,hb];rfl
    rw[hu];rfl
   | false =>
    have hu:ak_ [32,9] (s.drop i)=ak_ [32,9] (s.drop (i+1))+1:=by
     unfold ak_;rw[hd,List.takeWhile_cons,hbc,hb];rfl
    by_cases h39:s[i]=39
    .refine⟨(i:Int),ai_ ?_⟩;unfold c8_;rw[hx_ hi,hba,hb];simp only[qBs,Bool.not_false,cond_true];rw[aT_ h];simp only[qBs];rw[k3,h39,hu,hd,List.take_succ_cons,h39,List.contains_cons];rfl
    .obtain⟨e,he⟩:=ih (i+1) f (by rw[List.length_drop];omega) (by omega) (by omega);refine⟨e,(ap_ (s':=((i+1:Nat):Int)) ?_ he).trans ?_⟩
     .unfold c8_;rw[hx_ hi,hba,hb];simp only[qBs,Bool.not_false,cond_true];rw[aT_ h];simp only[qBs];rw[k3,beq_eq_false_iff_ne.2 h39,cond_false,ag_ (by omega)]
     .have e1:((s.drop i).take (ak_ [32,9] (s.drop i))).contains 39=((s.drop (i+1)).take (ak_ [32,9] (s.drop (i+1)))).contains 39:=by
       rw[hu,hd,List.take_succ_cons,List.contains_cons,show((39:UInt8)==s[i])=false from beq_eq_false_iff_ne.2 λe=>h39 e.symm,Bool.false_or]
      rw[e1,hu]
      congr 2
      congr 1
      omega
  .obtain rfl:i=s.length:=by omega
   refine⟨0,ai_ ?_⟩;unfold c8_;rw[hx_ (Nat.le_refl _)];unfold bR_;rw[List.getElem?_eq_none (Nat.le_refl _),List.drop_length];rfl
theorem l9_(s:Str)(i m:Nat):bR_ (s.drop i) m=bR_ s (i+m):=by
 unfold bR_;rw[List.getElem?_drop]
def ReadsAs(o:Option (Xq×Int×Int))(i:Nat)(q:Int×Xq×Nat):Prop:=∃a nx,o=some (a,nx,q.1)/\(q.1=0->a=q.2.1/\nx=((i+q.2.2:Nat):Int))
theorem gH_{o:Option (Xq×Int×Int)}{i:Nat}{a:Xq}{nx e:Int}{q:Int×Xq×Nat}(h:o=some (a,nx,e))(hq:q.1=e)(he:e≠0):ReadsAs o i q :=
 ⟨a,nx,by rw[h,hq],λh0=>absurd (hq.symm.trans h0) he⟩
theorem nf_{o:Option (Xq×Int×Int)}{i m:Nat}{a:Xq}(h:o=some (a,((i+m:Nat):Int),0)):ReadsAs o i (0,a,m) :=
 ⟨a,_,h,λ_=>⟨rfl,rfl⟩⟩
theorem read_eq{s:Str}(hs:s.length<=1000000000){i:Nat}(hi:i<=s.length):ReadsAs (iE_ s (i:Int)) i (bO_ (s.drop i)):=by
 have hn:=es_ [32,9,61,63,39] (s.drop i);unfold iE_;rw[loopL1 hs hi];simp only[qBs];unfold bO_;generalize hu:ak_ [32,9,61,63,39] (s.drop i)=n at hn;rw[List.length_drop]at hn;have e1:(s.take (i+n)).drop i=(s.drop i).take n:=by
  rw[List.drop_take];congr 1;omega
 rw[bm_ (by omega) (by omega) (by omega)];simp only[qBs,Int.toNat_natCast];rw[e1];have ed:(s.drop i).drop n=s.drop (i+n):=by rw[List.drop_drop]
 have ed2:(s.drop i).drop (n+2)=s.drop (i+n+2):=by rw[List.drop_drop];congr 1
 rw[ed,ed2,l9_,ne_,ne_];cases hr:s.drop (i+n)with
 | nil =>
  have he:i+n=s.length:=drop_nil (by omega) hr;rw[decide_eq_false (show ¬((i+n:Nat):Int)<(s.length:Int)by omega),show(((i+n:Nat):Int)==(s.length:Int))=true by rw[he];simp];exact gH_ rfl rfl (by decide)
 | cons b r =>
  obtain⟨hlt,hby,hd1⟩:=gG_ hr;have k63:((b.toNat:Int)==63)=(b==63):=aW_ b 63;have k61:((b.toNat:Int)==61)=(b==61):=aW_ b 61;have hne:(((i+n:Nat):Int)==(s.length:Int))=false:=beq_eq_false_iff_ne.2 (by omega);rw[aR_ hlt,cond_true,hby,hne];simp only[qBs];rw[k63];by_cases hb63:b=63
  .have e61:((b.toNat:Int) != 61)=true:=by rw[bne,k61,hb63];rfl
   rw[hb63];simp only[beq_self_eq_true,cond_true,if_true];rw[ag_ (by omega),hx_ (by omega)];simp only[qBs];rw[show i+(n+1)=i+n+1 by omega];cases hbl:bR_ s (i+n+1)with
   | true =>
    simp only[cond_true,if_true];exact nf_ (m:=n+1) (by rw[show i+(n+1)=i+n+1 by omega])
   | false =>
    simp only[cond_false,Bool.false_eq_true,if_false];rw[hb63]at e61;rw[e61];exact gH_ rfl rfl (by decide)
  .rw [beq_eq_false_iff_ne.2 hb63];simp only[cond_false,qBs,Bool.false_eq_true,if_false];by_cases hb61:b=61
   .have e61:((b.toNat:Int) != 61)=false:=by rw[bne,k61,hb61];rfl
    rw[e61];simp only[cond_false];rw[ag_ (by omega)];have hk:ak_ [32,9] (b::r)=ak_ [32,9] r+1:=by
     unfold ak_;rw[List.takeWhile_cons,hb61];rfl
    have hbb:(b==61)=true:=by rw[hb61];rfl
    -- whether a quote follows
    have hq:(Option.bind (bif decide (((i+n+1:Nat):Int)<(s.length:Int))then(an_ s ((i+n+1:Nat):Int)).bind λy26=>some (y26==39)else some false) λy=>some y)=some ((b::r).take 2==[61,39]):=by
     rw[hb61];cases r with
     | nil =>
      have he:i+n+1=s.length:=drop_nil (by omega) hd1;rw[decide_eq_false (by omega)];rfl
     | cons c r' =>
      obtain⟨hlt1,hby1,_⟩:=gG_ hd1;rw[aR_ hlt1,cond_true,hby1];simp only[qBs];have k39:((c.toNat:Int)==39)=(c==39):=aW_ c 39;rw[k39]
      congr 1
      rw[Bool.eq_iff_iff,beq_iff_eq,beq_iff_eq];constructor
      .intro e;rw[e];rfl
      .intro e;simp only[List.take_succ_cons,List.take_zero]at e;injection e with _ e;injection e
    refine(k5_ hq).symm ▸ ?_;cases hc:(b::r).take 2==[61,39]with
    | true =>
     have hlt2:i+n+2<=s.length:=by
      rw[iN_]at hc;have:=congrArg List.length (of_decide_eq_true hc);rw[←hr,List.length_take,List.length_drop]at this;simp only[qLc,List.length_nil]at this;omega
     simp only[cond_true,if_true];rw[ag_ (by omega)];obtain⟨v,e,hqd⟩:=refQuoted_eq hs hlt2;rw[hqd];cases hqs:be_ (s.drop (i+n+2))with
     | none =>
      simp only[qBs];exact gH_ (e:=48) rfl rfl (by decide)
     | some p =>
      have hp:=fY_ (s.drop (i+n+2)).length (Nat.le_refl _) hqs;rw[List.length_drop]at hp;simp only[qBs,beq_self_eq_true,cond_true];rw[hx_ (by omega)];simp only[qBs];rw[l9_,show i+(n+(2+p.2))=i+n+2+p.2 by omega];cases hbl:bR_ s (i+n+2+p.2)with
      | true =>
       simp only[Bool.not_true,cond_false,qBs,if_true];exact nf_ (m:=n+(2+p.2)) (by rw[show i+(n+(2+p.2))=i+n+2+p.2 by omega])
      | false =>
       simp only[Bool.not_false,cond_true,qBs,Bool.false_eq_true,if_false];exact gH_ rfl rfl (by decide)
    | false =>
     simp only[cond_false,Bool.false_eq_true,if_false,hbb,if_true];obtain⟨e,hl2⟩:=loopL2 (nm:=(s.drop i).take n) hs (s.drop (i+n+1)).length (i+n+1) BIG (Nat.le_refl _) (aS_ (by rw[List.length_drop];omega)) (by omega);rw[hl2,hd1,hk];have e5:((b::r).take (ak_ [32,9] r+1)).drop 1=r.take (ak_ [32,9] r):=by
      rw[List.take_succ_cons];rfl
     rw[e5];have hur:=es_ [32,9] r;have hrl:r.length=s.length-(i+n+1):=by rw[←hd1,List.length_drop]
     cases hc9:(r.take (ak_ [32,9] r)).contains 39 with
     | true=>exact gH_ rfl rfl (by decide)
     | false =>
      simp only[Bool.false_eq_true,if_false,qBs];rw[bm_ (by omega) (by omega) (by omega)];simp only[qBs,Int.toNat_natCast];have e6:(s.take (i+n+1+ak_ [32,9] r)).drop (i+n+1)=r.take (ak_ [32,9] r):=by
       rw[List.drop_take,hd1];congr 1;omega
      rw[e6];exact nf_ (m:=n+(ak_ [32,9] r+1)) (by rw[show i+(n+(ak_ [32,9] r+1))=i+n+1+ak_ [32,9] r by omega])
   .have e61:((b.toNat:Int) != 61)=true:=by rw[bne,k61,beq_eq_false_iff_ne.2 hb61];rfl
    have hc2:((b::r).take 2==[61,39])=false:=by
     rw[beq_eq_false_iff_ne];intro e;cases r with
     | nil=>simp at e
     | cons c r' =>
      simp only[List.take_succ_cons,List.take_zero]at e;injection e with e _;exact hb61 e
    rw[e61,hc2];simp only[beq_eq_false_iff_ne.2 hb61,cond_true,Bool.false_eq_true,if_false];exact gH_ rfl rfl (by decide)
theorem gI_{t:Str}(h:(bO_ t).1=0):1<=(bO_ t).2.2/\(bO_ t).2.2<=t.length/\(bO_ t).2.1.Xc.length<=t.length/\(bO_ t).2.1.Xn.length<=t.length:=by
 have hn:=es_ [32,9,61,63,39] t;unfold bO_ at h ⊢;generalize ak_ [32,9,61,63,39] t=n at hn h ⊢;have hdl:(t.drop n).length=t.length-n:=List.length_drop;have htk:(t.take n).length<=t.length:=by rw[List.length_take];omega
 have hne:∀c:UInt8,((t.drop n).take 1==[c])=true->n<t.length:=λc hc=>by
  rcases Nat.lt_or_ge n t.length with h1|h1
  .exact h1
  .rw[List.drop_eq_nil_of_le h1]at hc;cases hc
 by_cases c1:((t.drop n).take 1==[63])=true
 .have:=hne _ c1;rw[if_pos c1]at h ⊢;by_cases hb:bR_ t (n+1)=true
  .rw[if_pos hb];exact⟨by simp,by simp;omega,htk,by simp⟩
  .rw[if_neg hb]at h;cases h
 .rw [if_neg c1]at h ⊢;by_cases c2:((t.drop n).take 2==[61,39])=true
  .rw[if_pos c2]at h ⊢;have h2:n+2<=t.length:=by
    have e:=c2;rw[iN_]at e;have:=congrArg List.length (of_decide_eq_true e);rw[List.length_take,hdl]at this;simp only[qLc,List.length_nil]at this;omega
   cases hq:be_ (t.drop (n+2))with
   | none=>rw[hq]at h;cases h
   | some p =>
    rw[hq]at h;have hp:=fY_ (t.drop (n+2)).length (Nat.le_refl _) hq;rw[List.length_drop]at hp;simp only at h ⊢;by_cases hb:bR_ t (n+(2+p.2))=true
    .rw[if_pos hb];exact⟨by simp;omega,by simp;omega,htk,by simp;omega⟩
    .rw[if_neg hb]at h;cases h
  .rw [if_neg c2]at h ⊢;by_cases c3:((t.drop n).take 1==[61])=true
   .have hlt:=hne _ c3;rw[if_pos c3]at h ⊢;split at h
    .cases h
    .rename_i hc;rw[if_neg hc];have hk:=es_ [32,9] (t.drop n);have hk1:1<=ak_ [32,9] (t.drop n):=by
      rw[ne_]at c3;cases hr:t.drop n with
      | nil=>rw[hr]at c3;cases c3
      | cons b r =>
       rw[hr]at c3;have hb:b=61:=by simpa using c3
       unfold ak_;rw[List.takeWhile_cons,hb];simp
     refine⟨by simp;omega,by simp;omega,htk,?_⟩;show(((t.drop n).take (ak_ [32,9] (t.drop n))).drop 1).length<=t.length;rw[List.length_drop,List.length_take,hdl];omega
   .rw[if_neg c3]at h;cases h
def fH_(s:Str)(i:Nat)(out:List Xq):Int:=if(bO_ (s.drop i)).1=0 then cW_ out (bO_ (s.drop i)).2.1 else(bO_ (s.drop i)).1
inductive PR(s:Str):Nat->List Xq->List Xq×Int×Int->Prop
 | done {out}:PR s s.length out (out,0,0)
 | blank {i out r} (h:i<s.length) (hb:cm_ s[i]=true) (t:PR s (i+1) out r):PR s i out r
 | err {i out} (h:i<s.length) (hb:cm_ s[i]=false) (he:fH_ s i out≠0):PR s i out ([],(i:Int),fH_ s i out)
 | next {i out r} (h:i<s.length) (hb:cm_ s[i]=false) (he:fH_ s i out=0) (t:PR s (i+(bO_ (s.drop i)).2.2) (out++[(bO_ (s.drop i)).2.1]) r):PR s i out r
theorem k6_{s:Str}{i:Nat}{out:List Xq}(h:fH_ s i out=0):(bO_ (s.drop i)).1=0/\cW_ out (bO_ (s.drop i)).2.1=0:=by
 unfold fH_ at h;split at h
 .rename_i h0;exact⟨h0,h⟩
 .rename_i h0;exact absurd h h0
theorem PR.ex{s:Str}:∀(k i:Nat) (out:List Xq),s.length-i<=k->i<=s.length->∃r,PR s i out r:=by
 intro k
 induction k with
 | zero =>
  intro i out hk hi;obtain rfl:i=s.length:=by omega
  exact⟨_,.done⟩
 | succ k ih =>
  intro i out hk hi;rcases Nat.lt_or_ge i s.length with h|h
  .cases hb:cm_ s[i]with
   | true =>
    obtain⟨r,hr⟩:=ih (i+1) out (by omega) (by omega);exact⟨r,.blank h hb hr⟩
   | false =>
    by_cases he:fH_ s i out=0
    .have hl:=gI_ (k6_ he).1;rw[List.length_drop]at hl;obtain⟨r,hr⟩:=ih (i+(bO_ (s.drop i)).2.2) (out++[(bO_ (s.drop i)).2.1]) (by omega) (by omega);exact⟨r,.next h hb he hr⟩
    .exact⟨_,.err h hb he⟩
  .obtain rfl:i=s.length:=by omega
   exact⟨_,.done⟩
theorem out_len{out:List Xq}{a:Xq}(h:cW_ out a=0):out.length<32:=(eR_ h).1
theorem PR.prog{s:Str}(hs:s.length<=1000000000){i:Nat}{out:List Xq}{r:List Xq×Int×Int}(h:PR s i out r):i<=s.length->out.length<=32->∀f,s.length-i<f ->
  Option.bind (ae_ (cD_ s) f ((i:Int),out)) (λwo=>match wo with
   | .ret r3=>some r3
   | .fall o3=>some (o3,0,0))=some r:=by
 induction h with
 | done =>
  intro _ _ f hf;obtain⟨f,rfl⟩:∃g,f=g+1:=⟨f-1,by omega⟩;refine as_ (ai_ (b := .fall _) ?_) rfl;unfold cD_;simp only[];rw[bj_];rfl
 | @blank i out r h hb _ ih =>
  intro hi ho f hf;obtain⟨f,rfl⟩:∃g,f=g+1:=⟨f-1,by omega⟩;have h1:=ih (by omega) ho f (by omega);have hbody:cD_ s ((i:Int),out)=some (.next (((i+1:Nat):Int),out)):=by
   unfold cD_;simp only[];rw[aR_ h,cond_true,aT_ h];simp only[qBs];rw[h2_,hb];simp only[qBs,cond_true];rw[ag_ (by omega)]
  rw[ap_ hbody rfl];exact h1
 | @err i out h hb he =>
  intro hi ho f hf;obtain⟨f,rfl⟩:∃g,f=g+1:=⟨f-1,by omega⟩;refine as_ (ai_ (b := .ret ([],(i:Int),fH_ s i out)) ?_) rfl;unfold cD_;simp only[];rw[aR_ h,cond_true,aT_ h];simp only[qBs];rw[h2_,hb];simp only[qBs,cond_false];rw[bm_ (by omega) (by omega) (Int.le_refl _)];simp only[qBs,Int.toNat_natCast,List.take_length];rw[one_eq (by rw[List.length_drop];omega)];simp only[qBs];have hee:(bif(bO_ (s.drop i)).1==0 then(fu_ out (bO_ (s.drop i)).2.1).bind λy11=>some y11 else some (bO_ (s.drop i)).1)=some (fH_ s i out):=by
   unfold fH_;by_cases h0:(bO_ (s.drop i)).1=0
   .have hl:=gI_ h0;rw[List.length_drop]at hl;rw[if_pos h0,h0];simp only[beq_self_eq_true,cond_true];rw[nd_ (by omega) (by omega) (by omega)];rfl
   .rw[if_neg h0,beq_eq_false_iff_ne.2 h0];rfl
  rw[hee];simp only[qBs];rw[show(fH_ s i out != 0)=true from bne_iff_ne.2 he];rfl
 | @next i out r h hb he _ ih =>
  intro hi ho f hf;obtain⟨f,rfl⟩:∃g,f=g+1:=⟨f-1,by omega⟩;obtain⟨z0,z1⟩:=k6_ he;have hl:=gI_ z0;rw[List.length_drop]at hl;have hol:=out_len z1;have h1:=ih (by omega) (by rw[qLa];simp only[qLc,List.length_nil];omega) f (by omega);have hbody:cD_ s ((i:Int),out)=some (.next (((i+(bO_ (s.drop i)).2.2:Nat):Int),out++[(bO_ (s.drop i)).2.1])):=by
   unfold cD_;simp only[];rw[aR_ h,cond_true,aT_ h];simp only[qBs];rw[h2_,hb];simp only[qBs,cond_false];rw[bm_ (by omega) (by omega) (Int.le_refl _)];simp only[qBs,Int.toNat_natCast,List.take_length];rw[one_eq (by rw[List.length_drop];omega)];simp only[qBs];rw[z0];simp only[beq_self_eq_true,cond_true];rw[nd_ (by omega) (by omega) (by omega),z1];simp only[qBs,bne_self_eq_false,cond_false];rw[bl_ (by simp only[qLc,List.length_nil];omega) (by simp only[qLc,List.length_nil];omega)];simp only[qBs];rw[bE_ ⟨by omega,by omega⟩];rfl
  rw[ap_ hbody rfl];exact h1
theorem parse_eq{s:Str}(hs:s.length<=1000000000){r:List Xq×Int×Int}(h:PR s 0 [] r):iB_ s=some r :=
 h.prog hs (Nat.zero_le _) (Nat.zero_le _) BIG (aS_ (by omega))
def iI_(s:Str)(i:Nat):Nat:=i+((s.drop i).takeWhile cm_).length
theorem h3_{s:Str}(hs:s.length<=1000000000){i:Nat}(hi:i<=s.length):ae_ (ek_ s) BIG (i:Int)=some ((iI_ s i:Nat):Int):=by
 have h:=or_ (s:=s) (p:=λb => !(cm_ b)) (body:=ek_ s) (λi hi=>by
  unfold ek_;rw[aR_ hi,cond_true,aT_ hi];simp only[qBs];rw[l8_];simp only[qBs];rw[ag_ (by omega)];cases cm_ s[i]<;>rfl) (by
  unfold ek_;rw[bj_];rfl) (s.drop i).length i BIG (Nat.le_refl _) (aS_ (by rw[List.length_drop];omega)) hi
 rw[h];unfold iI_;simp only[Bool.not_not]
theorem skip_blank{s:Str}{i:Nat}(h:i<s.length)(hb:cm_ s[i]=true):iI_ s i=iI_ s (i+1):=by
 unfold iI_;rw[List.drop_eq_getElem_cons h,List.takeWhile_cons,hb];simp only[if_true,qLc];omega
theorem skip_none{s:Str}{i:Nat}(h:i<s.length)(hb:cm_ s[i]=false):iI_ s i=i:=by
 unfold iI_;rw[List.drop_eq_getElem_cons h,List.takeWhile_cons,hb];rfl
theorem skip_end(s:Str):iI_ s s.length=s.length:=by
 unfold iI_;rw[List.drop_length];rfl
theorem loopF_same{σ β:Type}{body:σ->Option (Step σ β)}{s s':σ}(h:body s=body s'):∀(f:Nat),ae_ body f s=ae_ body f s'
 | 0=>rfl
 | f+1=>by simp only[ae_,h]
theorem PR.ref{s:Str}(hs:s.length<=1000000000){i:Nat}{out:List Xq}{r:List Xq×Int×Int}(h:PR s i out r):i<=s.length->out.length<=32->∀f,s.length-i<f ->
  ae_ (dv_ s) f ((i:Int),out)=some (.ret r):=by
 induction h with
 | done =>
  intro _ _ f hf;obtain⟨f,rfl⟩:∃g,f=g+1:=⟨f-1,by omega⟩;refine ai_ ?_;unfold dv_;simp only[];rw[h3_ hs (Nat.le_refl _),skip_end];simp
 | @blank i out r h hb _ ih =>
  intro hi ho f hf;have h1:=ih (by omega) ho f (by omega);rw[←h1];refine loopF_same ?_ f;unfold dv_;simp only[];rw[h3_ hs hi,h3_ hs (by omega),skip_blank h hb]
 | @err i out h hb he =>
  intro hi ho f hf;obtain⟨f,rfl⟩:∃g,f=g+1:=⟨f-1,by omega⟩;refine ai_ ?_;unfold dv_;simp only[];rw[h3_ hs hi,skip_none h hb];simp only[qBs];rw[show((i:Int)==(s.length:Int))=false from beq_eq_false_iff_ne.2 (by omega),cond_false];obtain⟨a,nx,hr,h0⟩:=read_eq hs hi;rw[hr];simp only[qBs];have hee:(bif(bO_ (s.drop i)).1==0 then(gF_ out a).bind λy17=>some y17 else some (bO_ (s.drop i)).1)=some (fH_ s i out):=by
   unfold fH_;by_cases hz:(bO_ (s.drop i)).1=0
   .have hl:=gI_ hz;rw[List.length_drop]at hl;obtain⟨rfl,_⟩:=h0 hz;rw[if_pos hz,hz];simp only[beq_self_eq_true,cond_true];rw[l7_ (by omega) (by omega) (by omega)];rfl
   .rw[if_neg hz,beq_eq_false_iff_ne.2 hz];rfl
  rw[hee];simp only[qBs];rw[show(fH_ s i out != 0)=true from bne_iff_ne.2 he];rfl
 | @next i out r h hb he _ ih =>
  intro hi ho f hf;obtain⟨f,rfl⟩:∃g,f=g+1:=⟨f-1,by omega⟩;obtain⟨z0,z1⟩:=k6_ he;have hl:=gI_ z0;rw[List.length_drop]at hl;have hol:=out_len z1;have h1:=ih (by omega) (by rw[qLa];simp only[qLc,List.length_nil];omega) f (by omega);obtain⟨a,nx,hr,h0⟩:=read_eq hs hi;obtain⟨rfl,rfl⟩:=h0 z0;refine ap_ ?_ h1;unfold dv_;simp only[];rw[h3_ hs hi,skip_none h hb];simp only[qBs];rw[show((i:Int)==(s.length:Int))=false from beq_eq_false_iff_ne.2 (by omega),cond_false,hr];simp only[qBs];rw[z0];simp only[beq_self_eq_true,cond_true];rw[l7_ (by omega) (by omega) (by omega),z1];simp only[qBs,bne_self_eq_false,cond_false]
  rw[bl_ (by simp only[qLc,List.length_nil];omega) (by simp only[qLc,List.length_nil];omega)];rfl
theorem refParse_eq{s:Str}(hs:s.length<=1000000000){r:List Xq×Int×Int}(h:PR s 0 [] r):hM_ s=some r:=by
 unfold hM_;exact as_ (h.ref hs (Nat.zero_le _) (Nat.zero_le _) BIG (aS_ (by omega))) rfl
theorem PR.lens{s:Str}{i:Nat}{out:List Xq}{r:List Xq×Int×Int}(h:PR s i out r):out.length<=32->(∀a∈out,a.Xc.length<=s.length/\a.Xn.length<=s.length)->r.1.length<=32/\∀a∈r.1,a.Xc.length<=s.length/\a.Xn.length<=s.length:=by
 induction h with
 | done=>exact λh1 h2=>⟨h1,h2⟩
 | blank _ _ _ ih=>exact ih
 | err=>exact λ_ _=>⟨Nat.zero_le _,λa ha=>nomatch ha⟩
 | @next i out r h hb he _ ih =>
  intro h1 h2;obtain⟨z0,z1⟩:=k6_ he;have hl:=gI_ z0;rw[List.length_drop]at hl;have hol:=out_len z1;refine ih (by rw[qLa];simp only[qLc,List.length_nil];omega) λa ha => ?_
  rcases List.mem_append.1 ha with ha|ha
  .exact h2 a ha
  .obtain rfl:=List.mem_singleton.1 ha;exact⟨by omega,by omega⟩
theorem checkM_zero{m:Xx}(h:hb_ m=0):(∀s∈[m.Xd,m.Xr,m.Xt,m.Xf],s.length<=1024/\s.contains 10=false)/\da_ m.Xv=0/\m.Xv.any (·.Xa)=false/\m.Xm.length<=65536:=by
 unfold hb_ at h;cases hs:bh_ hP_ 0 [m.Xd,m.Xr,m.Xt,m.Xf]with
 | some r =>
  rw[hs,Option.getD_some]at h;obtain⟨i,x,h1,h2,_⟩:=h1_ hs;unfold hP_ at h2;split at h2
  .cases h2
  .rename_i h0;have:=qSj h2;omega
 | none =>
  rw[hs,Option.getD_none]at h;have key:=scan_none.1 hs;refine⟨λs hm => ?_,?_⟩
  .obtain⟨i,hi⟩:=List.mem_iff_getElem?.1 hm;have h3:=key i s hi;unfold hP_ at h3;split at h3
   .rename_i h4;unfold e4_ at h4;split at h4
    .cases h4
    .split at h4
     .cases h4
     .rename_i h5 h6;exact⟨by omega,by simpa using h6⟩
   .cases h3
  .split at h
   .rename_i h0;refine⟨h0,?_⟩;split at h
    .cases h
    .rename_i h1;split at h
     .cases h
     .rename_i h2;exact⟨by simpa using h1,by omega⟩
   .rename_i h0;exact absurd h h0
def gSmall(_:Nat)(a:Xq):Option Bool:=if decide (w64 ((a.Xc.length:Int)+(a.Xn.length:Int))>2000)then some false else none
theorem small_eq{m:Xx}(hl:m.Xv.length<=9223372036854775807):∃b,fP_ m=some b/\(b=true->m.Xv.length<=40/\m.Xm.length<=70000/\m.Xd.length<=2000/\m.Xr.length<=2000/\m.Xt.length<=2000/\m.Xf.length<=2000):=by
 unfold fP_;have hs:=bp_ (body:=fs_ m) m.Xv gSmall (aS_ hl) (λi hi=>by
  unfold fs_;rw[aR_ hi,cond_true,aC_ hi];simp only[qBs];unfold gSmall;cases decide (w64 ((m.Xv[i].Xc.length:Int)+(m.Xv[i].Xn.length:Int))>2000)with
  | true=>rfl
  | false =>
   simp only[cond_false,Bool.false_eq_true,if_false,ec_];rw[ag_ (by omega)]) (by
  unfold fs_;rw[bj_];rfl)
 cases hsc:bh_ gSmall 0 m.Xv with
 | some r =>
  rw[hsc]at hs;refine⟨r,as_ hs rfl,λhr => ?_⟩;obtain⟨i,x,_,h2,_⟩:=h1_ hsc;unfold gSmall at h2;split at h2
  .have:=qSj h2;rw[hr]at this;cases this
  .cases h2
 | none =>
  rw[hsc]at hs;refine⟨_,as_ hs rfl,λhr => ?_⟩;simp only[qAn,qDe]at hr;omega
theorem pb_{l:List Xq}(hl:l.length<=9223372036854775807):e2_ l l=some true:=by
 unfold e2_;rw[show((l.length:Int) != (l.length:Int))=false from bne_self_eq_false _,cond_false];have hs:=bp_ (body:=dT_ l l) l (λ_ _=>(none:Option Bool)) (aS_ hl) (λi hi=>by
  unfold dT_;rw[aR_ hi,cond_true,aC_ hi];simp only[qBs];rw[decide_eq_true trivial,Bool.not_true,cond_false,ag_ (by omega)];rfl) (by
  unfold dT_;rw[bj_];rfl)
 have hn:bh_ (λ_ _=>(none:Option Bool)) 0 l=none:=scan_none.2 λ_ _ _=>rfl
 rw[hn]at hs;exact as_ hs rfl
theorem ma_{m:Xx}(hl:m.Xv.length<=9223372036854775807):fC_ m m=some true:=by
 unfold fC_;rw[beq_self_eq_true,beq_self_eq_true,beq_self_eq_true,beq_self_eq_true,beq_self_eq_true];simp only[Bool.and_self,cond_true];rw[pb_ hl];rfl
inductive CR|err (p:Nat)|ok (b:UInt8) (q:Nat)
inductive PR2|err (p:Nat)|ok (a b:UInt8) (q:Nat)
inductive SR|err (p:Nat)|ok (set:Str) (q:Nat)
def escB(d:UInt8):UInt8:=if d=110 then 10 else if d=116 then 9 else d
def escS(s:Str)(i:Nat):CR:=match s[i+1]? with|none => .err (i+1)|some d => .ok (escB d) (i+2)
def chS(s:Str)(i:Nat):CR:=match s[i]? with|none => .err i|some c=>if c=93\/c=45 then .err i else if c=92 then escS s i else .ok c (i+1)
def eB_(s:Str)(i:Nat):PR2:=match chS s i with
 | .err e => .err e
 | .ok a p=>if s[p]? = some 45 then(match chS s (p+1)with
   | .err e => .err e
   | .ok b q=>if b.toNat<a.toNat then .err (q-1)else .ok a b q)
  else .ok a a p
inductive Cx(s:Str):Nat->Str->SR->Prop
 | done {i set} (h0:set≠[]) (h:s[i]? = some 93):Cx s i set (.ok set (i+1))
 | err {i set e} (h0:¬(set≠[]/\s[i]? = some 93)) (h:eB_ s i = .err e):Cx s i set (.err e)
 | next {i set a b q r} (h0:¬(set≠[]/\s[i]? = some 93)) (h:eB_ s i = .ok a b q) (t:Cx s q (set++[a,b]) r):Cx s i set r
theorem az_{s:Str}{i:Nat}{c:UInt8}(h:s[i]? = some c):i<s.length:=by
 rcases Nat.lt_or_ge i s.length with h1|h1
 .exact h1
 .rw[List.getElem?_eq_none h1]at h;cases h
theorem escS_len{s:Str}{i:Nat}{b:UInt8}{q:Nat}(h:escS s i = .ok b q):i<q/\q<=s.length:=by
 unfold escS at h;split at h
 .cases h
 .rename_i d hd;have:=az_ hd;injection h with _ h;omega
theorem escS_err{s:Str}{i e:Nat}(hi:i<s.length)(h:escS s i = .err e):e<=s.length:=by
 unfold escS at h;split at h
 .injection h;omega
 .cases h
theorem gJ_{s:Str}{i:Nat}{b:UInt8}{q:Nat}(h:chS s i = .ok b q):i<q/\q<=s.length:=by
 unfold chS at h;split at h
 .cases h
 .rename_i c hc;have:=az_ hc;split at h
  .cases h
  .split at h
   .exact escS_len h
   .injection h with _ h;omega
theorem chS_err{s:Str}{i e:Nat}(hi:i<=s.length)(h:chS s i = .err e):e<=s.length:=by
 unfold chS at h;split at h
 .injection h;omega
 .rename_i c hc;have:=az_ hc;split at h
  .injection h;omega
  .split at h
   .exact escS_err (by omega) h
   .cases h
theorem jw_{s:Str}{i:Nat}{a b:UInt8}{q:Nat}(h:eB_ s i = .ok a b q):i<q/\q<=s.length:=by
 unfold eB_ at h;split at h
 .cases h
 .rename_i a p h1;have:=gJ_ h1;split at h
  .split at h
   .cases h
   .rename_i b q h2;have:=gJ_ h2;split at h
    .cases h
    .injection h with _ _ h;omega
  .injection h with _ _ h;omega
theorem pairS_err{s:Str}{i e:Nat}(hi:i<=s.length)(h:eB_ s i = .err e):e<=s.length:=by
 unfold eB_ at h;split at h
 .rename_i h1;injection h with h;have:=chS_err hi h1;omega
 .rename_i a p h1;have:=gJ_ h1;split at h
  .rename_i h45;have:=az_ h45;split at h
   .rename_i h2;injection h with h;have:=chS_err (by omega) h2;omega
   .rename_i b q h2;have:=gJ_ h2;split at h
    .injection h;omega
    .cases h
  .cases h
theorem Cx.ex{s:Str}:∀(k i:Nat) (set:Str),s.length-i<=k->i<=s.length->∃r,Cx s i set r:=by
 intro k
 induction k with
 | zero =>
  intro i set hk hi;have hn:s[i]? = none:=List.getElem?_eq_none (by omega);refine⟨_,.err (e:=i) (λh=>by rw[hn]at h;cases h.2) ?_⟩;unfold eB_ chS;rw[hn]
 | succ k ih =>
  intro i set hk hi;by_cases h0:set≠[]/\s[i]? = some 93
  .exact⟨_,.done h0.1 h0.2⟩
  .cases hp:eB_ s i with
   | err e=>exact⟨_,.err h0 hp⟩
   | ok a b q =>
    have:=jw_ hp;obtain⟨r,hr⟩:=ih q (set++[a,b]) (by omega) (by omega);exact⟨r,.next h0 hp hr⟩
theorem Cx.len{s:Str}{i:Nat}{set:Str}{r:SR}(h:Cx s i set r):(∀e,r = .err e->i<=s.length->e<=s.length)/\∀x q,r = .ok x q->i<q/\q<=s.length/\x.length+2*(s.length-q)<=set.length+2*(s.length-i):=by
 induction h with
 | done h0 h =>
  refine⟨λe he=>(by cases he),λx q he => ?_⟩;injection he with h1 h2;subst h1;subst h2;have:=az_ h;omega
 | err h0 h =>
  refine⟨λe' he hi => ?_,λx q he=>(by cases he)⟩;injection he with he;have:=pairS_err hi h;omega
 | next h0 h t ih =>
  have hq:=jw_ h;refine⟨λe he hi=>ih.1 e he (by omega),λx q' he => ?_⟩;obtain⟨k1,k2,k5⟩:=ih.2 x q' he;simp only[qLa,qLc,List.length_nil]at k5;omega
def ps(s:Str)(i g:Nat)(C:List Xz)(bad:Int):regex_parser:=regex_parser.mk s (i:Int) (g:Int) C bad
theorem bS_{s:Str}{i g:Nat}{C:List Xz}{bad:Int}{c:UInt8}(h:s[i]? = some c):bq_ (ps s i g C bad)=some ((c.toNat:Int),true,ps s i g C bad):=by
 have hi:=az_ h;unfold bq_ ps;simp only[];rw[decide_eq_false (by omega),cond_false,aT_ hi];simp only[qBs];rw[List.getElem?_eq_getElem hi]at h;rw[qSj h]
theorem jx_{s:Str}{i g:Nat}{C:List Xz}{bad:Int}(h:s[i]? = none):bq_ (ps s i g C bad)=some (0,false,ps s i g C bad):=by
 unfold bq_ ps;simp only[];rw[decide_eq_true (by have:=List.getElem?_eq_none_iff.1 h;omega)];rfl
theorem hy_{s:Str}{i g:Nat}{C:List Xz}{bad:Int}(hs:s.length<=1000){c:UInt8}{k:Int}(hk:k=(c.toNat:Int)):aF_ (ps s i g C bad) k=some (if s[i]? = some c then(true,ps s (i+1) g C bad)else(false,ps s i g C bad)):=by
 subst hk;unfold aF_;cases h:s[i]? with
 | none =>
  rw[jx_ h];simp
 | some d =>
  have hi:=az_ h;rw[bS_ h];simp only[qBs,Bool.not_true,Bool.false_or];by_cases hd:d=c
  .subst hd;rw[bne_self_eq_false,cond_false,if_pos rfl];unfold ps;simp only[];rw[ag_ (by omega)]
  .rw[show((d.toNat:Int) != (c.toNat:Int))=true from bne_iff_ne.2 λe=>hd (UInt8.toNat_inj.1 (by omega)),cond_true,if_neg λe=>hd (qSj e)]
theorem ot_{s:Str}{i g:Nat}{C:List Xz}{bad:Int}(hs:s.length<=1000)(hi:i<s.length):cu_ (ps s i g C bad)=some (match escS s i with
  | .err e=>(0,false,ps s e g C (e:Int))
  | .ok b q=>((b.toNat:Int),true,ps s q g C bad)):=by
 unfold cu_ escS;have e1:regex_parser.mk (ps s i g C bad).s_ (w64 ((ps s i g C bad).at_+1)) (ps s i g C bad).groups_ (ps s i g C bad).code_ (ps s i g C bad).bad_=ps s (i+1) g C bad:=by
  unfold ps;simp only[];rw[ag_ (by omega)]
 rw[e1];cases h:s[i+1]? with
 | none =>
  rw[jx_ h];rfl
 | some d =>
  have hlt:=az_ h;rw[bS_ h];simp only[qBs,Bool.not_true,cond_false];have k1:((d.toNat:Int)==110)=(d==110):=aW_ d 110;have k2:((d.toNat:Int)==116)=(d==116):=aW_ d 116;have e2:regex_parser.mk (ps s (i+1) g C bad).s_ (w64 ((ps s (i+1) g C bad).at_+1)) (ps s (i+1) g C bad).groups_ (ps s (i+1) g C bad).code_ (ps s (i+1) g C bad).bad_=ps s (i+2) g C bad:=by
   unfold ps;simp only[];rw[ag_ (by omega)]
  rw[k1,k2,e2];unfold escB;by_cases h1:d=110
  .subst h1;rfl
  .rw[beq_eq_false_iff_ne.2 h1,if_neg h1,cond_false];by_cases h2:d=116
   .subst h2;rfl
   .rw[beq_eq_false_iff_ne.2 h2,if_neg h2,cond_false]
theorem mE_{s:Str}{i g:Nat}{C:List Xz}{bad:Int}(hs:s.length<=1000):b4_ (ps s i g C bad)=some (match chS s i with
  | .err e=>(0,false,ps s e g C (e:Int))
  | .ok b q=>((b.toNat:Int),true,ps s q g C bad)):=by
 unfold b4_ chS;cases h:s[i]? with
 | none =>
  rw[jx_ h];rfl
 | some d =>
  have hlt:=az_ h;rw[bS_ h];simp only[qBs,Bool.not_true,Bool.false_or];have k1:((d.toNat:Int)==93)=(d==93):=aW_ d 93;have k2:((d.toNat:Int)==45)=(d==45):=aW_ d 45;have k3:((d.toNat:Int)==92)=(d==92):=aW_ d 92;rw[k1,k2,k3];by_cases h1:d=93\/d=45
  .rw[if_pos h1,show((d==93)||(d==45))=true by rcases h1 with rfl|rfl<;>rfl];rfl
  .rw[if_neg h1,show((d==93)||(d==45))=false by
    rw[Bool.or_eq_false_iff,beq_eq_false_iff_ne,beq_eq_false_iff_ne];exact⟨λe=>h1 (.inl e),λe=>h1 (.inr e)⟩,cond_false]
   by_cases h2:d=92
   .subst h2;rw[if_pos rfl,beq_self_eq_true,cond_true,ot_ hs hlt];cases escS s i<;>rfl
   .rw[if_neg h2,beq_eq_false_iff_ne.2 h2,cond_false];unfold ps;simp only[];rw[ag_ (by omega)]
def setI(set:Str)(n:Bool):Xz:=Xz.mk 3 0 set n 0 0
theorem ou_{s:Str}{i g:Nat}{C:List Xz}{bad:Int}(hs:s.length<=1000){set:Str}{n fst:Bool}(hset:set.length<=100000)(hf:fst=true\/s[i]? ≠ some 93):cj_ (fst,s,(i:Int),(g:Int),bad,C,setI set n)=some (match eB_ s i with
  | .err e => .done (.ret (false,ps s e g C (e:Int)))
  | .ok a b q => .next (false,s,(q:Int),(g:Int),bad,C,setI (set++[a,b]) n)):=by
 have e0:regex_parser.mk s (i:Int) (g:Int) C bad=ps s i g C bad:=rfl;have key:∀(a b:UInt8),(cat set (bytesS [(a.toNat:Int),(b.toNat:Int)]))=some (set++[a,b]):=λa b=>by
  have:bytesS [(a.toNat:Int),(b.toNat:Int)]=[a,b]:=hQ_ [a,b];rw[this,cat_eq (by simp only[qLc,List.length_nil];omega)]
 unfold cj_;simp only[];rw[e0];unfold eB_;cases fst with
 | true =>
  rw[cond_true,mE_ hs];simp only[qBs];cases h1:chS s i with
  | err e=>rfl
  | ok a p =>
   simp only[Bool.not_true,cond_false];rw[hy_ hs (c:=45) (k:=45) rfl];by_cases h2:s[p]? = some 45
   .rw[if_pos h2,if_pos h2];simp only[qBs,cond_true];rw[mE_ hs];simp only[qBs];cases h3:chS s (p+1)with
    | err e=>rfl
    | ok b q =>
     have hq:=gJ_ h3;simp only[Bool.not_true,cond_false];by_cases h4:b.toNat<a.toNat
     .rw[if_pos h4,decide_eq_true (by omega),cond_true];unfold aX_ ps;simp only[qBs];rw[bE_ ⟨by omega,by omega⟩,show(q:Int)-1=((q-1:Nat):Int)by omega]
     .rw[if_neg h4,decide_eq_false (by omega),cond_false];simp only[qBs];unfold setI ps;simp only[];rw[key];rfl
   .rw[if_neg h2,if_neg h2];simp only[qBs,cond_false];unfold setI ps;simp only[];rw[key];rfl
 | false =>
  have h93:s[i]? ≠ some 93:=hf.resolve_left (by decide);rw[cond_false,hy_ hs (c:=93) (k:=93) rfl,if_neg h93];simp only[qBs,Bool.not_false,cond_true];rw[mE_ hs];simp only[qBs];cases h1:chS s i with
  | err e=>rfl
  | ok a p =>
   simp only[Bool.not_true,cond_false];rw[hy_ hs (c:=45) (k:=45) rfl];by_cases h2:s[p]? = some 45
   .rw[if_pos h2,if_pos h2];simp only[qBs,cond_true];rw[mE_ hs];simp only[qBs];cases h3:chS s (p+1)with
    | err e=>rfl
    | ok b q =>
     have hq:=gJ_ h3;simp only[Bool.not_true,cond_false];by_cases h4:b.toNat<a.toNat
     .rw[if_pos h4,decide_eq_true (by omega),cond_true];unfold aX_ ps;simp only[qBs];rw[bE_ ⟨by omega,by omega⟩,show(q:Int)-1=((q-1:Nat):Int)by omega]
     .rw[if_neg h4,decide_eq_false (by omega),cond_false];simp only[qBs];unfold setI ps;simp only[];rw[key];rfl
   .rw[if_neg h2,if_neg h2];simp only[qBs,cond_false];unfold setI ps;simp only[];rw[key];rfl
def clsO(s:Str)(g:Nat)(C:List Xz)(bad:Int)(n:Bool):SR->Out (Str×Int×Int×Int×(List Xz)×Xz) (Bool×regex_parser) | .err e => .ret (false,ps s e g C (e:Int)) | .ok x q => .fall (s,(q:Int),(g:Int),bad,C,setI x n)
def clsP(s:Str)(g:Nat)(C:List Xz)(bad:Int)(n:Bool):SR->Bool×regex_parser | .err e=>(false,ps s e g C (e:Int)) | .ok x q=>(true,ps s q g (C++[setI x n]) bad)
theorem class_go{s:Str}(hs:s.length<=1000){g:Nat}{C:List Xz}{bad:Int}{n:Bool}{i:Nat}{set:Str}{r:SR}(h:Cx s i set r):∀(f:Nat),s.length-i<f->set.length+2*(s.length-i)<=5000 ->
  ae_ cj_ f (decide (set=[]),s,(i:Int),(g:Int),bad,C,setI set n)=some (clsO s g C bad n r):=by
 induction h with
 | @done i set h0 h =>
  intro f hf hl;obtain⟨f,rfl⟩:∃k,f=k+1:=⟨f-1,by omega⟩;refine ai_ ?_;unfold cj_;have e0:regex_parser.mk s (i:Int) (g:Int) C bad=ps s i g C bad:=rfl;simp only[];rw[decide_eq_false h0,cond_false,e0,hy_ hs (c:=93) (k:=93) rfl,if_pos h];rfl
 | @err i set e h0 h =>
  intro f hf hl;obtain⟨f,rfl⟩:∃k,f=k+1:=⟨f-1,by omega⟩;refine ai_ ?_;rw[ou_ hs (by omega) (by
   by_cases hz:set=[]
   .left;exact decide_eq_true hz
   .right;exact λe=>h0 ⟨hz,e⟩),h]
  rfl
 | @next i set a b q r h0 h t ih =>
  intro f hf hl;obtain⟨f,rfl⟩:∃k,f=k+1:=⟨f-1,by omega⟩;have hq:=jw_ h;have hst:=ou_ (s:=s) (i:=i) (g:=g) (C:=C) (bad:=bad) hs (set:=set) (n:=n) (fst:=decide (set=[])) (by omega) (by
   by_cases hz:set=[]
   .left;exact decide_eq_true hz
   .right;exact λe=>h0 ⟨hz,e⟩)
  rw[h]at hst;have:=ih f (by omega) (by simp only[qLa,qLc,List.length_nil];omega);rw[decide_eq_false (by simp)]at this;exact ap_ hst this
def clsI(s:Str)(i:Nat):Nat:=if s[i]? = some 94 then i+1 else i
def clsN(s:Str)(i:Nat):Bool:=decide (s[i]? = some 94)
theorem class_eq{s:Str}(hs:s.length<=1000){g:Nat}{C:List Xz}{bad:Int}{i:Nat}{r:SR}(hC:C.length<=100000)(h:Cx s (clsI s i) [] r):dS_ (ps s i g C bad)=some (clsP s g C bad (clsN s i) r):=by
 have hgo:=class_go hs (g:=g) (C:=C) (bad:=bad) (n:=clsN s i) h BIG (by unfold BIG;omega) (by simp only[List.length_nil];omega);rw[decide_eq_true rfl]at hgo;unfold dS_;rw[hy_ hs (c:=94) (k:=94) rfl];have e0:(if s[i]? = some 94 then(true,ps s (i+1) g C bad)else(false,ps s i g C bad))=(clsN s i,ps s (clsI s i) g C bad):=by
  unfold clsN clsI;by_cases h:s[i]? = some 94
  .rw[if_pos h,if_pos h,decide_eq_true h]
  .rw[if_neg h,if_neg h,decide_eq_false h]
 rw[e0];simp only[qBs];refine as_ hgo ?_;cases r with
 | err e=>rfl
 | ok x q =>
  unfold clsO;simp only[];unfold av_;simp only[];rw[bl_ (by simp only[qLc,List.length_nil];omega) (by simp only[qLc,List.length_nil];omega)];rfl
inductive Re where
 | emp|chr (b:UInt8)|any|bol|eol|set (x:Str) (n:Bool)
 | seq (a b:Re)|alt (a b:Re)|grp (k:Nat) (a:Re)|star (a:Re)|plus (a:Re)|opt (a:Re)
def iC(b:UInt8):Xz:=Xz.mk 1 (b.toNat:Int) [] false 0 0
def iOne(k:Int):Xz:=Xz.mk k 0 [] false 0 0
def br_(x y:Nat):Xz:=Xz.mk 6 0 [] false (x:Int) (y:Int)
def cn_(x:Nat):Xz:=Xz.mk 7 0 [] false (x:Int) 0
def aI_(x:Nat):Xz:=Xz.mk 8 0 [] false (x:Int) 0
def Re.len:Re->Nat | .emp=>0 | .chr _=>1 | .any=>1 | .bol=>1 | .eol=>1 | .set _ _=>1 | .seq a b=>a.len+b.len | .alt a b=>a.len+b.len+2 | .grp _ a=>a.len+2 | .star a=>a.len+2 | .plus a=>a.len+1 | .opt a=>a.len+1
def Re.code:Re->Nat->List Xz | .emp,_=>[] | .chr b,_=>[iC b] | .any,_=>[iOne 2] | .bol,_=>[iOne 4] | .eol,_=>[iOne 5] | .set x n,_=>[setI x n] | .seq a b,n=>a.code n++b.code (n+a.len) | .alt a b,n=>br_ (n+1) (n+a.len+2)::(a.code (n+1)++cn_ (n+a.len+b.len+2)::b.code (n+a.len+2)) | .grp k a,n=>aI_ (2*k)::(a.code (n+1)++[aI_ (2*k+1)]) | .star a,n=>br_ (n+1) (n+a.len+2)::(a.code (n+1)++[cn_ n]) | .plus a,n=>a.code n++[br_ n (n+a.len+1)] | .opt a,n=>br_ (n+1) (n+a.len+1)::a.code (n+1)
theorem aw_:∀(a:Re) (n:Nat),(a.code n).length=a.len
 | .emp,_=>rfl
 | .chr _,_=>rfl
 | .any,_=>rfl
 | .bol,_=>rfl
 | .eol,_=>rfl
 | .set _ _,_=>rfl
 | .seq a b,n=>by simp only[Re.code,Re.len,qLa,aw_ a,aw_ b]
 | .alt a b,n=>by simp only[Re.code,Re.len,qLa,qLc,aw_ a,aw_ b];omega
 | .grp k a,n=>by simp only[Re.code,Re.len,qLa,qLc,List.length_nil,aw_ a]
 | .star a,n=>by simp only[Re.code,Re.len,qLa,qLc,List.length_nil,aw_ a]
 | .plus a,n=>by simp only[Re.code,Re.len,qLa,qLc,List.length_nil,aw_ a]
 | .opt a,n=>by simp only[Re.code,Re.len,qLc,aw_ a]
def bump(x:Xz):Xz:=bif x.Op_==6 then Xz.mk x.Op_ x.C_ x.Xu x.Yq (x.X_+1) (x.Y_+1)else bif x.Op_==7 then Xz.mk x.Op_ x.C_ x.Xu x.Yq (x.X_+1) x.Y_ else x
theorem iJ_(x y:Nat):bump (br_ x y)=br_ (x+1) (y+1):=rfl
theorem bump_jump(x:Nat):bump (cn_ x)=cn_ (x+1):=rfl
theorem bump_save(x:Nat):bump (aI_ x)=aI_ x:=rfl
theorem dt_:∀(a:Re) (n:Nat),(a.code n).map bump=a.code (n+1)
 | .emp,_=>rfl
 | .chr _,_=>rfl
 | .any,_=>rfl
 | .bol,_=>rfl
 | .eol,_=>rfl
 | .set _ _,_=>rfl
 | .seq a b,n=>by
  simp only[Re.code,List.map_append,dt_ a,dt_ b];rw[show n+a.len+1=n+1+a.len by omega]
 | .alt a b,n=>by
  simp only[Re.code,List.map_append,List.map_cons,dt_ a,dt_ b,iJ_,bump_jump];rw[show n+a.len+2+1=n+1+a.len+2 by omega,show n+a.len+b.len+2+1=n+1+a.len+b.len+2 by omega]
 | .grp k a,n=>by simp only[Re.code,List.map_append,List.map_cons,List.map_nil,dt_ a,bump_save]
 | .star a,n=>by
  simp only[Re.code,List.map_append,List.map_cons,List.map_nil,dt_ a,iJ_,bump_jump];rw[show n+a.len+2+1=n+1+a.len+2 by omega]
 | .plus a,n=>by
  simp only[Re.code,List.map_append,List.map_cons,List.map_nil,dt_ a,iJ_];rw[show n+a.len+1+1=n+1+a.len+1 by omega]
 | .opt a,n=>by
  simp only[Re.code,List.map_cons,dt_ a,iJ_];rw[show n+a.len+1+1=n+1+a.len+1 by omega]
def LowI(x:Xz):Prop:=0<=x.X_/\x.X_<=1000000/\0<=x.Y_/\x.Y_<=1000000
def Re.grps(m:Nat):Re->Prop | .seq a b=>a.grps m/\b.grps m | .alt a b=>a.grps m/\b.grps m | .grp k a=>k<=m/\a.grps m | .star a=>a.grps m | .plus a=>a.grps m | .opt a=>a.grps m|_=>True
theorem d8_:∀(a:Re) (n:Nat),n+a.len<=100000->a.grps 100->∀x∈a.code n,LowI x
 | .emp,_,_,_,x,h=>by cases h
 | .chr _,_,_,_,x,h=>by rw[List.mem_singleton.1 h];unfold LowI iC;simp only[];omega
 | .any,_,_,_,x,h=>by rw[List.mem_singleton.1 h];unfold LowI iOne;simp only[];omega
 | .bol,_,_,_,x,h=>by rw[List.mem_singleton.1 h];unfold LowI iOne;simp only[];omega
 | .eol,_,_,_,x,h=>by rw[List.mem_singleton.1 h];unfold LowI iOne;simp only[];omega
 | .set _ _,_,_,_,x,h=>by rw[List.mem_singleton.1 h];unfold LowI setI;simp only[];omega
 | .seq a b,n,hn,hg,x,h=>by
  simp only[Re.len]at hn;rcases List.mem_append.1 h with h|h
  .exact d8_ a n (by omega) hg.1 x h
  .exact d8_ b _ (by omega) hg.2 x h
 | .alt a b,n,hn,hg,x,h=>by
  simp only[Re.len]at hn;rcases List.mem_cons.1 h with rfl|h
  .unfold LowI br_;simp only[];omega
  .rcases List.mem_append.1 h with h|h
   .exact d8_ a _ (by omega) hg.1 x h
   .rcases List.mem_cons.1 h with rfl|h
    .unfold LowI cn_;simp only[];omega
    .exact d8_ b _ (by omega) hg.2 x h
 | .grp k a,n,hn,hg,x,h=>by
  simp only[Re.len]at hn;have hk:=hg.1;rcases List.mem_cons.1 h with rfl|h
  .unfold LowI aI_;simp only[];omega
  .rcases List.mem_append.1 h with h|h
   .exact d8_ a _ (by omega) hg.2 x h
   .rw[List.mem_singleton.1 h];unfold LowI aI_;simp only[];omega
 | .star a,n,hn,hg,x,h=>by
  simp only[Re.len]at hn;rcases List.mem_cons.1 h with rfl|h
  .unfold LowI br_;simp only[];omega
  .rcases List.mem_append.1 h with h|h
   .exact d8_ a _ (by omega) hg x h
   .rw[List.mem_singleton.1 h];unfold LowI cn_;simp only[];omega
 | .plus a,n,hn,hg,x,h=>by
  simp only[Re.len]at hn;rcases List.mem_append.1 h with h|h
  .exact d8_ a _ (by omega) hg x h
  .rw[List.mem_singleton.1 h];unfold LowI br_;simp only[];omega
 | .opt a,n,hn,hg,x,h=>by
  simp only[Re.len]at hn;rcases List.mem_cons.1 h with rfl|h
  .unfold LowI br_;simp only[];omega
  .exact d8_ a _ (by omega) hg x h
theorem db_{α:Type}{A B:List α}{x:α}{k:Int}(h:k=(A.length:Int)):ah_ (A++x::B) k=some x:=by
 subst h;rw[bf_];simp
theorem dK_{α:Type}{A B:List α}{x y:α}{k:Nat}(h:k=A.length):(A++x::B).set k y=A++y::B:=by
 subst h;simp
theorem w64_up{x:Int}(h0:0<=x)(h:x<=1000000):w64 (x+1)=x+1:=bE_ ⟨by omega,by omega⟩
theorem insert_go:∀(D A:List Xz) (f:Nat),D.length<f->A.length+D.length<=100000->(∀x∈D,LowI x)->ae_ b8_ f ((A.length:Int),A++D)=some (A++D.map bump)
 | [],A,f+1,_,_,_=>by
  refine ai_ ?_;unfold b8_;simp only[List.append_nil,List.map_nil];rw[decide_eq_false (by omega),cond_false]
 | x::D,A,f+1,hf,hl,hx=>by
  simp only[qLc]at hf hl;have hlow:=hx x List.mem_cons_self;have hstep:b8_ ((A.length:Int),A++x::D)=some (.next (((A++[bump x]).length:Int),(A++[bump x])++D)):=by
   unfold b8_;simp only[];rw[decide_eq_true (by simp only[qLa,qLc];omega),cond_true,db_ rfl];simp only[qBs];rw[show(A.length:Int).toNat=A.length from rfl];simp only[dK_ rfl,db_ rfl,qBs];rw[w64_up hlow.1 hlow.2.1,w64_up hlow.2.2.1 hlow.2.2.2,ag_ (by omega)];have e:∀y:Xz,A++y::D=(A++[y])++D:=λy=>by simp
   have e2:(A++[bump x]).length=A.length+1:=by simp
   rw[e2];unfold bump;cases h6:(x.Op_==6)with
   | true=>simp only[cond_true,qBs];rw[e]
   | false =>
    cases h7:(x.Op_==7)with
    | true=>simp only[cond_true,cond_false,qBs];rw[e]
    | false=>simp only[cond_false,qBs];rw[e]
  have:=insert_go D (A++[bump x]) f (by omega) (by simp only[qLa,qLc,List.length_nil];omega) (λy hy=>hx y (List.mem_cons_of_mem _ hy));refine ap_ hstep ?_;rw[this];simp
theorem ow_:∀(D A acc:List Xz) (f:Nat),D.length<f->A.length+D.length<=100000->acc.length+D.length<=200000->(∀x∈D,LowI x)->ae_ dU_ f ((A.length:Int),A++D,acc)=some (A++D,acc++D.map bump)
 | [],A,acc,f+1,_,_,_,_=>by
  refine ai_ ?_;unfold dU_;simp only[List.append_nil,List.map_nil];rw[decide_eq_false (by omega),cond_false]
 | x::D,A,acc,f+1,hf,hl,hc,hx=>by
  simp only[qLc]at hf hl hc;have hlow:=hx x List.mem_cons_self;have hstep:dU_ ((A.length:Int),A++x::D,acc)=some (.next (((A++[x]).length:Int),(A++[x])++D,acc++[bump x])):=by
   unfold dU_;simp only[];rw[decide_eq_true (by simp only[qLa,qLc];omega),cond_true,db_ rfl];simp only[qBs];rw[ag_ (by omega),w64_up hlow.1 hlow.2.1];have e:A++x::D=(A++[x])++D:=by simp
   have e2:(A++[x]).length=A.length+1:=by simp
   have er:∀y:Xz,room 56 acc [y]=some (acc++[y]):=λy=>bl_ (by simp only[qLc,List.length_nil];omega) (by simp only[qLc,List.length_nil];omega)
   rw[e2,←e];unfold bump;cases h6:(x.Op_==6)with
   | true=>simp only[Bool.true_or,cond_true,qBs,h6];rw[w64_up hlow.2.2.1 hlow.2.2.2,er];rfl
   | false =>
    cases h7:(x.Op_==7)with
    | true=>simp only[Bool.false_or,cond_true,cond_false,qBs,h6];rw[er];rfl
    | false=>simp only[Bool.false_or,cond_false,qBs,h6];rw[er];rfl
  have:=ow_ D (A++[x]) (acc++[bump x]) f (by omega) (by simp only[qLa,qLc,List.length_nil];omega) (by simp only[qLa,qLc,List.length_nil];omega) (λy hy=>hx y (List.mem_cons_of_mem _ hy));refine ap_ hstep ?_;rw[this];simp
theorem mb_{s:Str}{i g:Nat}{C:List Xz}{bad:Int}{a:Re}{x:Xz}{k:Int}(hk:k=(C.length:Int))(hl:C.length+a.len<=50000)(hg:a.grps 100):b6_ (ps s i g (C++a.code C.length) bad) k x=some (ps s i g (C++x::a.code (C.length+1)) bad):=by
 subst hk;have hlow:=d8_ a C.length (by omega) hg;have h:=insert_go (a.code C.length) C BIG (by rw[aw_];unfold BIG;omega) (by rw[aw_];omega) hlow;unfold b6_;refine as_ h ?_;rw[dt_];have e:(insN (α:=Xz) 56) (C++a.code (C.length+1)) (C.length:Int) [x]=some (C++x::a.code (C.length+1)):=by
  unfold insN;simp only[List.length_nil];rw[if_pos ⟨by omega,by rw[qLa];omega,by rw[qLa,aw_];omega⟩];simp
 rw[e];rfl
theorem k7_{i g:Int}{C:List Xz}{bad:Bool}{a:Re}{x:Xz}{k:Int}(hk:k=(C.length:Int))(hl:C.length+a.len<=50000)(hg:a.grps 100):el_ (Xj.mk (C++a.code C.length) i g bad) k x=some (Xj.mk (C++x::a.code (C.length+1)) i g bad):=by
 subst hk;have hlow:=d8_ a C.length (by omega) hg;have h:=ow_ (a.code C.length) C (C++[x]) BIG (by rw[aw_];unfold BIG;omega) (by rw[aw_];omega) (by rw[aw_];simp only[qLa,qLc,List.length_nil];omega) hlow;unfold el_;simp only[];rw[bm_ (by omega) (by omega) (by rw[qLa];omega)];simp only[qBs];have e1:(C++a.code C.length).take (C.length:Int).toNat=C:=by simp
 rw[e1,bl_ (by simp only[List.length_nil];omega) (by simp only[List.length_nil];omega)];simp only[qBs,List.nil_append];rw[bl_ (by simp only[qLc,List.length_nil];omega) (by simp only[qLc,List.length_nil];omega)];simp only[qBs];rw[h,dt_];simp
end Go.Proofs.YtbdcelleafhelaaGreatDoor
