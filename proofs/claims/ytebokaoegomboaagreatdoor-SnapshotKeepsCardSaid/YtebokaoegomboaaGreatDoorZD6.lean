/-
 What the statements of this seat hang on,part 6: LSb Lq ShSf LSf K1 K2 K3 K4 K5 K6 K7 K8 K9 K10 K11 K12 K13 K14 Num Fa0 Ht.
-/
import Derived.Test.YtebokaoegomboaaGreatDoorZD5
import Derived.Sort.Grow
import Derived.Sort.EncStr
import Derived.Test.YtebokaoegomboaaGreatDoorProg
import Derived.Shelf.SlSortCmp.NoneTotal
import Derived.Shelf.SlSortCmp.WholeK
import Derived.Shelf.SlGeneric
import Derived.Lib.Agree
import Derived.KernelRfl
import Derived.WalkKit
import Derived.Laws.BitsLemmas
namespace Go
namespace Rt
open Go.RowKit Go.Proofs
section
variable{P:Program}{E:TE}{z:Fz}{g:Ga}{w w' w0:World}{Bs:List Nat}{F0:Nat->Prop}{H H':Nat->Option (Obj E)}
theorem HR.gone(h:HR P E Bs F0 w0 w z g H){C:Nat->Prop}(hC:∀k,C k->∃i o,H i=some o/\fpO g i o k/\H' i=none)
  (hb:Grow w w') (hk:∀k,k<w.heap.size->¬C k->w'.heap[k]? = w.heap[k]?) (hH:∀j o,H' j=some o->H j=some o):HR P E Bs F0 w0 w' z g H':=by
 have bN_:∀k,C k->w0.heap.size<=k\/k∈Bs:=λ k hc=>by obtain⟨i,o,h1,h2,_⟩:=hC k hc;exact h.own i o k h1 h2
 have far:∀j o k,H' j=some o->fpO g j o k->¬C k:=λ j o k e hf hc=>by
  obtain⟨i,p,h1,h2,h3⟩:=hC k hc;exact h.apart j i o p k (λ ej=>by rw[ej,h3]at e;cases e) (hH j o e) h1 hf h2
 have fzC:∀k,z.F k->¬C k:=λ k hz hc=>by obtain⟨i,o,h1,h2,_⟩:=hC k hc;exact h.fza i o k h1 h2 hz
 refine⟨⟨h.chg.grow.trans hb,λ k hk1 hn=>(hk k (Nat.lt_of_lt_of_le hk1 h.size) λ hc => ?_).trans (h.chg.block k hk1 hn)⟩,λ j o e => ?_,λ j o k e=>h.own j o k (hH j o e),λ j j' o p k hn e e'=>h.apart j j' o p k hn (hH j o e) (hH j' p e'),λ k hz => ?_,h.fz0,λ j o k e=>h.fza j o k (hH j o e),h.gl⟩
 .rcases bN_ k hc with h1|h1
  .omega
  .exact hn h1
 .exact(h.hold j o (hH j o e)).keep (Fz.Le.refl z) (Ga.Le.refl g) λ k hfk=>hk k ((h.hold j o (hH j o e)).lt hfk) (far j o k e hfk)
 .have:=h.fz k hz;exact⟨Nat.lt_of_lt_of_le this.1 hb.size,(hk k this.1 (fzC k hz)).trans this.2⟩
end
end Rt
end Go
namespace Go.Proofs
open Go.Shelf
def Tryz.laysCC_ren:Go.Shelf.Ren:=⟨λ | 240=>365 | 276=>371|n=>n,λ | 0=>0 | 4=>4 | 9=>9 | 20=>20 | 37=>235 | 70=>321 | 72=>323 | 164=>355|n=>n,fun|n=>n⟩
theorem Tryz.laysCC:Go.Proofs.Lays.n240 Tryz.prog Tryz.laysCC_ren:={
 mixed:=by kernel_rfl
 f240:=Tryz.func365.trans (congrArg some (by kernel_rfl))
 f276:=Tryz.func371.trans (congrArg some (by kernel_rfl))
 t0:=Tryz.underlying0
 a0:=Tryz.isAgg0
 z0:=Tryz.sizeOf0
 v0:=Tryz.zeroValue0
 t4:=Tryz.underlying4
 a4:=Tryz.isAgg4
 z4:=Tryz.sizeOf4
 v4:=Tryz.zeroValue4
 t9:=Tryz.underlying9
 a9:=Tryz.isAgg9
 z9:=Tryz.sizeOf9
 v9:=Tryz.zeroValue9
 t20:=Tryz.underlying20
 a20:=Tryz.isAgg20
 z20:=Tryz.sizeOf20
 v20:=Tryz.zeroValue20
 t70:=Tryz.underlying321
 a70:=Tryz.isAgg321
 z70:=Tryz.sizeOf321
 v70:=Tryz.zeroValue321
 t72:=Tryz.underlying323
 a72:=Tryz.isAgg323
 z72:=Tryz.sizeOf323
 v72:=Tryz.zeroValue323
 t164:=Tryz.underlying355
 a164:=Tryz.isAgg355
 z164:=Tryz.sizeOf355
 v164:=Tryz.zeroValue355 }
theorem Tryz.x72CC:Builder.X72 Tryz.prog Tryz.laysCC_ren where
 sizeBuilder:=by kernel_rfl
 liesBuilder:=by kernel_rfl
theorem Tryz.extraBS:Builder.Extra Tryz.prog Tryz.laysBString_ren where
 sizeBuilder:=by kernel_rfl
 liesBuilder:=by kernel_rfl
 t5:=Tryz.underlying5
 a5:=Tryz.isAgg5
 z5:=Tryz.sizeOf5
 v5:=Tryz.zeroValue5
 infoByte:=by kernel_rfl
 cellsByte:=by kernel_rfl
 sizeByte:=by kernel_rfl
 neB5:=by decide
open Go.RowKit
theorem od_{P:Program}{w:World}:∀(l:List Int) (a:Addr) (acc:ByteArray),(∀j x,l[j]? = some x->w.cell? (a.add j)=some (.int .u8 x)) ->
  (loadBytes a acc l.length).run P w = .ok ⟨acc.data++(Rt.bytesS l).toArray⟩ w
 | [],a,acc,_=>by simp[loadBytes,Rt.bytesS]
 | x::l,a,acc,h=>by
  have h0:w.cell? a=some (.int .u8 x):=by
   have:=h 0 x rfl;simpa[Addr.add]using this
  have ih:=od_ (P:=P) l (a.add 1) (acc.push x.toNat.toUInt8) (λ j y hy=>by
   have:=h (j+1) y (by simpa using hy);have e:(a.add 1).add j=a.add (j+1):=by
    unfold Addr.add;by_cases hj:j=0
    .subst hj;simp
    .simp[hj];omega
   rw[e];exact this)
  simp only[qLc,loadBytes,Sem.run_bind,run_load,h0,Result.andThen];rw[ih]
  congr 1
  apply ByteArray.ext;simp[ByteArray.push,Rt.bytesS]
theorem oe_{P:Program}{w:World}(pt it ty e:TypeId)(hp:P.underlying pt=some (.pointer e))(hc:P.cellsOf e=1)(g cells:Nat)(hsh:w.shape? g=some (e,cells))(l:List Int)(h0:l≠[])(hn:l.length<=cells)(h63:l.length<=9223372036854775807)
  (hcell:∀j x,l[j]? = some x->w.cell? ((⟨g,0,none⟩:Addr).add j)=some (.int .u8 x)) :
  (Builtin.unsafeString_ #[pt,it] ty #[.pointer (some ⟨g,0,none⟩),.int .i64 l.length]).run P w = .ok (.string ⟨(Rt.bytesS l).toArray⟩) (w.freeze ⟨g,0,none⟩ l.length):=by
 have hl:l.length≠0:=by simpa using h0
 have hlb:=od_ (P:=P) l ⟨g,0,none⟩ .empty hcell;have hlies:=Lib.liesAt_bytes (P:=P) hc (cells/P.cellsOf e) l.length (by rw[hc];simpa using hn);have h63':¬(9223372036854775807:Int)<(l.length:Int):=by omega
 have hdef:Builtin.unsafeString_ #[pt,it] ty #[.pointer (some ⟨g,0,none⟩),.int .i64 l.length] =
   (do
    let n ←asInt (.int .i64 l.length)
    if n < 0 then runtimePanic (.error "unsafe.String: len out of range")
    if n > IntKind.i64.max then unsupported (.unsafePointer "String: a length above the largest int")
    if n=0 then pure (.string .empty)
    else if ←variablesAt ⟨g,0,none⟩ (←elemOf pt) n.toNat then do
     let s ←loadBytes ⟨g,0,none⟩ .empty n.toNat
     freeze ⟨g,0,none⟩ n.toNat
     pure (.string s)
    else unsupported (.unsafePointer "String: not so many bytes at ptr")) := rfl
 rw[hdef];have hmax:IntKind.i64.max=9223372036854775807:=rfl;have hneg:¬(l.length:Int)<0:=by omega
 simp[asInt,asIntOf,hmax,h63',hneg,hl,variablesAt,hsh,elemOf,run_underlying hp,hlies,hlb]
set_option maxHeartbeats 1000000 in
set_option maxRecDepth 100000 in
theorem Any.Builder_String_w{P:Program}{ρ:Ren}(L:Lays.n169 P ρ)(X:Builder.Extra P ρ)(b g cap:Nat)(p:Value)(cur:Array Value)(l:List Int)(w:World)(hbk:w.heap[b]? = some (.cells #[p,.slice (some ⟨g,0,none⟩) l.length cap] (ρ.t 72) (0,0)))(h0:l≠[])
  (hg:w.heap[g]? = some (.cells cur (ρ.t 5) (0,0))) (hnc:l.length<=cap) (hcm:cap<=maxLen) (hcs:cur.size=cap) (hown:∀j x,l[j]? = some x->w.cell? ((⟨g,0,none⟩:Addr).add j)=some (.int .u8 x)) :
  Calls P (ρ.f 169) #[.pointer (some ⟨b,0,none⟩)] w λ e w'=>e = .returned (.string ⟨(Rt.bytesS l).toArray⟩)/\w'=w.drew.freeze ⟨g,0,none⟩ l.length:=by
 have hl0:l.length≠0:=by simpa using h0
 have c1:w.drew.cell? ⟨b,1,none⟩=some (.slice (some ⟨g,0,none⟩) l.length cap):=by
  have:w.drew.heap[b]? = some (.cells #[p,.slice (some ⟨g,0,none⟩) l.length cap] (ρ.t 72) (0,0)):=hbk;rw[Lib.cell_of_heap this];rfl
 have hSD:(Builtin.unsafeSliceData_ #[(ρ.t 37)] (ρ.t 127) #[.slice (some ⟨g,0,none⟩) l.length cap]).run P w.drew = .ok (.pointer (some ⟨g,0,none⟩)) w.drew :=
  Lib.run_unsafeSliceData_row _ _ _ _ _ _ (by omega)
 have hUS:(Builtin.unsafeString_ #[(ρ.t 127),(ρ.t 3)] (ρ.t 9) #[.pointer (some ⟨g,0,none⟩),.int .i64 l.length]).run P w.drew = .ok (.string ⟨(Rt.bytesS l).toArray⟩) (w.drew.freeze ⟨g,0,none⟩ l.length):=by
  refine oe_ (w:=w.drew) (ρ.t 127) (ρ.t 3) (ρ.t 9) (ρ.t 5) L.t127 X.cellsByte g cur.size (by have hg':w.drew.heap[g]? = some (.cells cur (ρ.t 5) (0,0)):=hg;simp[World.shape?,hg']) l h0 (by omega) (by unfold maxLen at hcm;omega) ?_;intro j x hx;exact hown j x hx
 have mixed:=L.mixed;have t72:=L.t72;have a72:=L.a72;have z72:=L.z72;have v72:=L.v72;have u72:=run_underlying L.t72;have t70:=L.t70;have a70:=L.a70;have z70:=L.z70;have v70:=L.v70;have u70:=run_underlying L.t70;have t37:=L.t37;have a37:=L.a37;have z37:=L.z37;have v37:=L.v37;have u37:=run_underlying L.t37;have t127:=L.t127;have a127:=L.a127;have z127:=L.z127;have v127:=L.v127;have u127:=run_underlying L.t127;have t3:=L.t3;have a3:=L.a3;have z3:=L.z3;have v3:=L.v3;have u3:=run_underlying L.t3;have t9:=L.t9;have a9:=L.a9;have z9:=L.z9;have v9:=L.v9;have u9:=run_underlying L.t9;have t5:=X.t5;have a5:=X.a5;have z5:=X.z5;have v5:=X.v5;have u5:=run_underlying X.t5
 go_enter L.f169,Body.n169_ntmps ρ
 go_wp2
 go_region_o
 all_goals (go_wp2;go_ret;exact⟨rfl,rfl⟩)
end Go.Proofs
namespace Go.Proofs.YtebokaoegomboaaGreatDoor
open Go.RowKit Go.Rt
def ip_:InlF te:=λ H _ xs _ k=>match xs with
 | [.one (.ptr id 0)]=>match H id with
  | some (.box T [.sbp id',_])=>match Nat.beq id id'&&te.sb T with
   | true=>k (some (.tup [])) []
   | false=>none
  | _=>none
 | _=>none
def pe_:InlF te:=λ H _ xs _ k=>match xs with
 | [.one (.ptr id 0)]=>match H id with
  | some (.box T [.sbp id',c])=>match Nat.beq id id'&&te.sb T,c with
   | true,.nils=>k (some (.v (.one (.dt .str (bytesS []))))) [(id,none)]
   | true,.own r=>match H r with
    | some (.row e (.int .u8) xs _)=>match Nat.beq e 5 with
     | true=>k (some (.v (.one (.dt .str (bytesS xs))))) [(id,none),(r,none)]
     | false=>none
    | _=>none
   | _,_=>none
  | _=>none
 | _=>none
theorem mL_:InlOK Tryz.prog te 365 ip_/\dy_ Tryz.prog 365=true:=by
 refine⟨?_,by kernel_rfl⟩;intro z g nx H xs vs R k r Bs F0 w0 w hnx hH hv h;unfold ip_ at h;split at h
 .rename_i id;split at h
  .rename_i T id' c hi;split at h
   .rename_i hb;simp only[qAn]at hb;obtain rfl:=qNb hb.1;have hT:T=323:=qNb hb.2;subst hT;cases hv with
    | cons v1 hv =>
     cases hv
     obtain⟨l,h1,rfl⟩:=v1;obtain⟨l',us,h2,h3,h4⟩:=hH.hold _ _ hi;rw[h1]at h2;obtain rfl:=qSj h2;cases h4 with
     | cons c1 h4=>cases h4 with
      | cons c2 h4 =>
       cases h4
       obtain⟨l2,h5,h6⟩:=c1;rw[h1]at h5;obtain rfl:=qSj h5;rename_i u1 u2;have hc0:w.cell? ⟨l.b,0,none⟩=some u1:=by rw[cell_of_row w l.b 0 _ _ _ h3];rfl
       rcases h6 with rfl|rfl
       .refine Calls.mono (Any.Builder_copyCheck_fresh Tryz.laysCC Tryz.x72CC l.b w hc0 (by simp[World.shape?,h3];rfl) (by unfold World.frozen?;simp only[h3];simp)) λ e w' ⟨he,hw⟩=>⟨_,he,.tup [],[],z,g,h,Fz.Le.refl z,Ga.Le.refl g,hnx.succ,⟨[],rfl,.nil⟩,?_⟩
        subst hw;have hat:(w.setCell ⟨l.b,0,none⟩ (.pointer (some ⟨l.b,0,none⟩))).heap[l.b]? = some (.cells [.pointer (some ⟨l.b,0,none⟩),u2].toArray 323 (0,0)):=by
         unfold World.setCell;simp[Array.getElem?_modify,h3]
        refine hH.turn (Ga.Le.refl g) (i:=id) (i':=id) (C:=λ k=>k=l.b) (λ k hk=>⟨_,hi,l,h1,hk⟩) ⟨rfl,rfl,rfl,by simp[World.setCell]⟩ (λ k _ hk => ?_) (o' := .box 323 [.sbp id,c]) ?_ (λ k hk => ?_) λ j p hj => ?_
        .unfold World.setCell;simp only[Array.getElem?_modify];rw[if_neg λ e=>hk e.symm]
        .exact⟨l,_,h1,hat,.cons ⟨l,h1,.inr rfl⟩ (.cons c2 .nil)⟩
        .obtain⟨l2,h5,rfl⟩:=hk;rw[h1]at h5;obtain rfl:=qSj h5;exact .inl rfl
        .by_cases hji:j=id
         .subst hji;have hj':H j=some p:=hj;rw[hi]at hj';exact .inl ⟨rfl,(qSj hj').symm⟩
         .exact .inr ⟨hji,.inl hji,hj⟩
       .refine Calls.mono (Any.Builder_copyCheck_used Tryz.laysCC Tryz.x72CC l.b w hc0) λ e w' ⟨he,hw⟩=>⟨_,he,.tup [],[],z,g,h,Fz.Le.refl z,Ga.Le.refl g,hnx.succ,⟨[],rfl,.nil⟩,?_⟩
        subst hw;exact hH
   .cases h
  .cases h
 .cases h
theorem up1{H:Nat->Option (Rt.Obj te)}{id:Nat}{j:Nat}{o:Rt.Obj te}(h:upH H [(id,none)] j=some o):j≠id/\H j=some o:=by
 simp only[upH]at h;split at h
 .cases h
 .rename_i hb;refine⟨λ e => ?_,h⟩;rw[e,Nat.beq_refl]at hb;cases hb
theorem up2{H:Nat->Option (Rt.Obj te)}{id r:Nat}{j:Nat}{o:Rt.Obj te}(h:upH H [(id,none),(r,none)] j=some o):j≠id/\j≠r/\H j=some o:=by
 simp only[upH]at h;split at h
 .cases h
 .rename_i hb;split at h
  .cases h
  .rename_i hb2;refine⟨λ e => ?_,λ e => ?_,h⟩
   .rw[e,Nat.beq_refl]at hb;cases hb
   .rw[e,Nat.beq_refl]at hb2;cases hb2
theorem wm_ : InlOK Tryz.prog te 344 pe_/\dy_ Tryz.prog 344=true:=by
 refine⟨?_,by kernel_rfl⟩;intro z g nx H xs vs R k r Bs F0 w0 w hnx hH hv h;unfold pe_ at h;split at h
 .rename_i id;split at h
  .rename_i T id' c hi;have hv1:∃l,g id=some l/\vs=[.pointer (some ⟨l.b,0,none⟩)]:=by
    cases hv with
    | cons v1 hv =>
     cases hv
     obtain⟨l,h1,rfl⟩:=v1;exact⟨l,h1,rfl⟩
   obtain⟨l,h1,rfl⟩:=hv1;obtain⟨l',us,h2,h3,h4⟩:=hH.hold _ _ hi;rw[h1]at h2;obtain rfl:=qSj h2;split at h
   .rename_i hb;simp only[qAn]at hb;have hT:T=323:=qNb hb.2;subst hT;cases h4 with
    | cons c1 h4=>cases h4 with
     | cons c2 h4 =>
      cases h4
      rename_i u1 u2;obtain rfl:u2 = .slice none 0 0:=c2;refine Calls.mono (Any.Builder_String_nil Tryz.laysBString Tryz.extraBS w.heap.size l.b u1 w h3) λ e w' ⟨he,hw⟩=>⟨_,he,_,_,z,g,h,Fz.Le.refl z,Ga.Le.refl g,(λ i hi=>hnx i (Nat.le_trans (by omega) (Nat.le_trans (mm_ nx _) hi))),.str .nil,?_⟩
      exact hH.gone (C:=λ _=>False) (λ _ h=>h.elim) (Grow.of_below hw) (λ k hk _=>hw.block k hk) λ j o hj=>(up1 hj).2
   .rename_i r' hb;simp only[qAn]at hb;have hT:T=323:=qNb hb.2;subst hT;split at h
    .rename_i e xs foc hr;split at h
     .rename_i he5;obtain rfl:=qNb he5;cases h4 with
      | cons c1 h4=>cases h4 with
       | cons c2 h4 =>
        cases h4
        rename_i u1 u2;obtain⟨lr,h5,rfl⟩:=c2;obtain⟨lr',rows,h6,hn,hc,hown,hlen,hrl,hrows,_⟩:=hH.hold _ _ hr;rw[h5]at h6;obtain rfl:=qSj h6;have hrw:=oH_ hrows (by omega);obtain⟨_,ho⟩:=hown;rcases ho with⟨ho,h0⟩|⟨b,cap,cur,hvv,_,hh,hnc,hcm,hcs,htk⟩
        .injection ho with e1 e2 e3;rw[e1,e2,e3]at h3;have hx0:xs=[]:=List.length_eq_zero_iff.1 (by omega);subst hx0;refine Calls.mono (Any.Builder_String_nil Tryz.laysBString Tryz.extraBS w.heap.size l.b u1 w h3) λ e w' ⟨he,hw⟩=>⟨_,he,_,_,z,g,h,Fz.Le.refl z,Ga.Le.refl g,(λ i hi=>hnx i (Nat.le_trans (by omega) (Nat.le_trans (mm_ nx _) hi))),.str .nil,?_⟩
         exact hH.gone (C:=λ _=>False) (λ _ h=>h.elim) (Grow.of_below hw) (λ k hk _=>hw.block k hk) λ j o hj=>(up2 hj).2.2
        .injection hvv with e1 _ e3;subst e3;rw[e1]at h3;have hb1:b<w.heap.size:=by
          rcases Nat.lt_or_ge b w.heap.size with h'|h'
          .exact h'
          .rw[Array.getElem?_eq_none h']at hh;cases hh
         cases xs with
         | nil =>
          have hn0:lr.n=0:=hn;rw[hn0]at h3;by_cases hc0:lr.cap=0
          .rw[hc0]at h3;exact Calls.mono (Any.Builder_String_noroom Tryz.laysBString Tryz.extraBS w.heap.size l.b b u1 cur w (Nat.le_refl _) h3 hh) λ e w' ⟨he,hw⟩=>⟨_,he,_,_,z,g,h,Fz.Le.refl z,Ga.Le.refl g,(λ i hi=>hnx i (Nat.le_trans (by omega) (Nat.le_trans (mm_ nx _) hi))),.str .nil,hH.gone (C:=λ _=>False) (λ _ h=>h.elim) (Grow.of_below hw) (λ k hk _=>hw.block k hk) λ j o hj=>(up2 hj).2.2⟩
          .exact Calls.mono (Any.Builder_String_room Tryz.laysBString Tryz.extraBS w.heap.size l.b b lr.cap u1 w hc0 h3) λ e w' ⟨he,hw⟩=>⟨_,he,_,_,z,g,h,Fz.Le.refl z,Ga.Le.refl g,(λ i hi=>hnx i (Nat.le_trans (by omega) (Nat.le_trans (mm_ nx _) hi))),.str .nil,hH.gone (C:=λ _=>False) (λ _ h=>h.elim) (Grow.of_below hw) (λ k hk _=>hw.block k hk) λ j o hj=>(up2 hj).2.2⟩
         | cons x xs =>
          have hc1:lr.c=1:=hc;rw[hn]at h3 htk hnc;rw[hc1]at htk hcs;have hcur:∀j y,(x::xs)[j]? = some y->w.cell? ((⟨b,0,none⟩:Addr).add j)=some (.int .u8 y):=λ j y hy=>by
           have hj:j<(x::xs).length:=by
            rcases Nat.lt_or_ge j (x::xs).length with h'|h'
            .exact h'
            .rw[List.getElem?_eq_none h']at hy;cases hy
           have e2:(⟨b,0,none⟩:Addr).add j=⟨b,j,none⟩:=by
            unfold Addr.add;by_cases h0:j=0
            .subst h0;simp
            .simp[h0]
           rw[e2,cell_of_row w b j _ _ _ hh];have e3:(cur.toList.take ((x::xs).length*1))[j]? = cur.toList[j]? := by rw[List.getElem?_take,if_pos (by omega)]
           rw[←Array.getElem?_toList,←e3,htk,hrw];have e4:∀(l:List Int),(l.map λ b=>[Value.int .u8 b]).flatten=l.map λ b=>Value.int .u8 b:=λ l=>by
            induction l with
            | nil=>rfl
            | cons a l ih=>rw[List.map_cons,List.flatten_cons,ih];rfl
           rw[e4,List.getElem?_map,hy];rfl
          refine Calls.mono (Any.Builder_String_w Tryz.laysBString Tryz.extraBS l.b b lr.cap u1 cur (x::xs) w h3 (by simp) hh hnc hcm (by omega) hcur) λ e w' ⟨he,hw⟩=>⟨_,he,_,_,z,g,h,Fz.Le.refl z,Ga.Le.refl g,(λ i hi=>hnx i (Nat.le_trans (by omega) (Nat.le_trans (mm_ nx _) hi))),.str .nil,?_⟩
          subst hw;refine hH.gone (C:=λ k=>k=b) (λ k hk=>⟨r',_,hr,⟨lr,_,h5,e1,hk⟩,?_⟩) ⟨?_,?_,?_,?_⟩ (λ k hk hne => ?_) λ j o hj=>(up2 hj).2.2
          .cases hq:upH H [(id,none),(r',none)] r' with
           | none=>rfl
           | some o=>exact absurd rfl (up2 hq).2.1
          .unfold World.freeze;split<;>rfl
          .unfold World.freeze;split<;>rfl
          .unfold World.freeze;split<;>rfl
          .unfold World.freeze;split
           .exact Nat.le_refl _
           .simp only[Array.size_modify];exact Nat.le_refl _
          .unfold World.freeze;split
           .rfl
           .simp only[Array.getElem?_modify];rw[if_neg λ e=>hne e.symm];rfl
     .cases h
    .cases h
   .cases h
  .cases h
 .cases h
end Go.Proofs.YtebokaoegomboaaGreatDoor
namespace Go
namespace Rt
open Go.RowKit Go.Sort Go.Proofs
section
variable{P:Program}{E:TE}{z:Fz}{g:Ga}{w w' w0:World}{Bs:List Nat}{F0:Nat->Prop}{t:Ty}{enc:Den E.S t->List Value}
structure EncOK(E:TE)(t:Ty)(enc:Den E.S t->List Value):Prop where
 out:∀(z:Fz) (x:Den E.S t) (r:List Value),RD E z (E.flat t) (E.fl t x) r->r=enc x
 into:∀(z:Fz) (x:Den E.S t),RD E z (E.flat t) (E.fl t x) (enc x)
theorem EncOK.len(he:EncOK E t enc)(x:Den E.S t):(enc x).length=E.size t:=(he.into ⟨λ _=>False,default⟩ x).len
theorem rows_enc(he:EncOK E t enc){xs:List (Den E.S t)}{rows:List (List Value)}(h:Rows E z t xs rows)(hl:rows.length=xs.length):rows=xs.map enc:=by
 apply List.ext_getElem?;intro i;rw[List.getElem?_map];rcases Nat.lt_or_ge i xs.length with hi|hi
 .have hx:=List.getElem?_eq_getElem hi;have hr:=List.getElem?_eq_getElem (show i<rows.length by omega);rw[hr,hx,he.out z _ _ (h i _ _ hx hr)];rfl
 .rw[List.getElem?_eq_none (by omega),List.getElem?_eq_none hi];rfl
theorem fB_(he:EncOK E t enc):∀(xs:List (Den E.S t)),(xs.map enc).flatten.length=xs.length*E.size t
 | []=>by simp
 | x::xs=>by rw[List.map_cons,List.flatten_cons,qLa,he.len,fB_ he xs,qLc,Nat.succ_mul,Nat.add_comm]
def RowQ(E:TE)(t:Ty)(enc:Den E.S t->List Value)(w:World)(e:TypeId)(xs:List (Den E.S t))(A:Option Addr)(cap:Nat):Prop:=(A=none/\cap=0/\xs=[])\/∃b cs,A=some ⟨b,0,none⟩/\w.heap[b]? = some (.cells (cs:List Value).toArray e (0,0))/\xs.length<=cap/\cap<=maxLen/\cs.length=cap*E.size t/\cs.take (xs.length*E.size t)=(xs.map enc).flatten
theorem rowQ_of(he:EncOK E t enc){id:Nat}{e:TypeId}{xs:List (Den E.S t)}{foc:List (Nat×Int×Den E.S t)}(h:ObjR P E z g w id (.row e t xs foc)):∃l,g id=some l/\l.n=xs.length/\l.c=E.size t/\RowQ E t enc w e xs l.A l.cap:=by
 obtain⟨l,rows,h1,hn,hc,hown,hlen,hrl,hrows,_⟩:=h;rw[hc,rows_enc he hrows (by omega)]at hown;refine⟨l,h1,hn,hc,?_⟩;obtain⟨_,h2⟩:=hown;rcases h2 with⟨h2,h3⟩|⟨b,cap,cur,hv,_,hh,hnc,hcm,hcs,htk⟩
 .injection h2 with e1 e2 e3;exact .inl ⟨e1,e3,List.length_eq_zero_iff.1 (by omega)⟩
 .injection hv with e1 _ e3;subst e3;exact .inr ⟨b,cur.toList,e1,by simpa using hh,by omega,hcm,by simpa using hcs,by rw[hn]at htk;exact htk⟩
theorem rowQ_mk(he:EncOK E t enc){id:Nat}{e:TypeId}{xs:List (Den E.S t)}{l:Loc}(h:RowQ E t enc w e xs l.A l.cap)(hg:g id=some l)(hn:l.n=xs.length)(hc:l.c=E.size t):ObjR P E z g w id (.row e t xs []):=by
 refine⟨l,xs.map enc,hg,hn,hc,?_,by simp[hn],λ r hr => ?_,λ i x r hx hr => ?_,λ p hp=>nomatch hp⟩
 .rw[hc,hn];refine⟨fB_ he xs,?_⟩;rcases h with⟨hA,hcap,rfl⟩|⟨b,cs,hA,hh,h1,h2,h3,h4⟩
  .exact .inl ⟨by rw[hA,hcap];rfl,rfl⟩
  .exact .inr ⟨b,l.cap,cs.toArray,by rw[hA],Nat.zero_le _,hh,h1,h2,by simpa using h3,h4⟩
 .obtain⟨x,_,rfl⟩:=List.mem_map.1 hr;rw[he.len,hc]
 .rw[List.getElem?_map,hx]at hr;obtain rfl:=qSj hr;exact he.into z x
theorem wn_{β:Type}[Inhabited β](f:β->Value)(D:Array β)(cs:List Value)(h:D.size<=cs.length):(putCells f 0 D cs.toArray).toList=D.toList.map f++cs.drop D.size:=by
 apply List.ext_getElem?;intro i;simp only[putCells,Array.toList_mapIdx,List.getElem?_mapIdx];by_cases hi:i<D.size
 .have hc:i<cs.length:=by omega
  rw[List.getElem?_append_left (by simpa using hi),List.getElem?_map,List.getElem?_eq_getElem hc,Option.map_some,if_pos ⟨Nat.zero_le _,by omega⟩,Nat.sub_zero,getElem!_pos D i hi];simp[hi]
 .rw[List.getElem?_append_right (by simpa using Nat.le_of_not_lt hi),List.getElem?_drop];have e1:D.size+(i-(D.toList.map f).length)=i:=by simp;omega
  rw[e1];cases hx:cs[i]? with
  | none=>rfl
  | some v=>rw[Option.map_some,if_neg (by omega)]
theorem RowQ.put{β:Type}[Inhabited β]{e:TypeId}{xs zs:List (Den E.S t)}{b cap:Nat}(h:RowQ E t enc w e xs (some ⟨b,0,none⟩) cap)(hl:zs.length<=xs.length)(f:β->Value)(D:Array β)(hD:D.size=xs.length*E.size t)(hf:(D.toList.map f).take (zs.length*E.size t)=(zs.map enc).flatten)(q:Nat)(os:Array Go.Obj)
  (hw:w'=grow (putRow f (Go.Sort.ahead w q) b 0 D) os):RowQ E t enc w' e zs (some ⟨b,0,none⟩) cap/\Grow w w'/\(∀k,k<w.heap.size->k≠b->w'.heap[k]? = w.heap[k]?):=by
 rcases h with⟨h,_⟩|⟨b',cs,hA,hh,h1,h2,h3,h4⟩
 .cases h
 .injection hA with hA;injection hA with hA;subst hA;have hb:b<w.heap.size:=by
   rcases Nat.lt_or_ge b w.heap.size with h'|h'
   .exact h'
   .rw[Array.getElem?_eq_none h']at hh;cases hh
  have hDl:D.size<=cs.length:=by rw[hD,h3];exact Nat.mul_le_mul_right _ h1
  have hgk:∀(W:World) k,k<W.heap.size->(grow W os).heap[k]? = W.heap[k]? := λ W k hk=>by
   show(W.heap++os)[k]? = _;rw[Array.getElem?_append_left hk]
  have hms:(putRow f (Go.Sort.ahead w q) b 0 D).heap.size=w.heap.size:=by simp[putRow,mapBlock,Go.Sort.ahead]
  have hmb:(putRow f (Go.Sort.ahead w q) b 0 D).heap[b]? = some (.cells (putCells f 0 D cs.toArray) e (0,0)):=by
   show(mapBlock (Go.Sort.ahead w q) b (putCells f 0 D)).heap[b]? = _;unfold mapBlock;have hh':(Go.Sort.ahead w q).heap[b]? = some (.cells cs.toArray e (0,0)):=hh;simp only[Array.getElem?_modify,if_true,hh',Option.map_some,onCells]
  subst hw;refine⟨.inr ⟨b,D.toList.map f++cs.drop D.size,rfl,?_,by omega,h2,?_,?_⟩,⟨rfl,rfl,rfl,?_⟩,λ k hk hne => ?_⟩
  .rw[hgk _ _ (by omega),hmb,←wn_ f D cs hDl,Array.toArray_toList]
  .rw[qLa,List.length_map,List.length_drop,Array.length_toList];omega
  .have hle:zs.length*E.size t<=(D.toList.map f).length:=by
    have h9:D.toList.length=xs.length*E.size t:=hD;rw[List.length_map,h9];exact Nat.mul_le_mul_right _ hl
   rw[List.take_append_of_le_length hle];exact hf
  .have h9:(grow (putRow f (Go.Sort.ahead w q) b 0 D) os).heap.size=(putRow f (Go.Sort.ahead w q) b 0 D).heap.size+os.size:=by simp[grow]
   omega
  .rw[hgk _ _ (by omega)];show(mapBlock (Go.Sort.ahead w q) b (putCells f 0 D)).heap[k]? = _;unfold mapBlock;simp only[Array.getElem?_modify];rw[if_neg λ e=>hne e.symm];rfl
theorem HR.rowQ{e:TypeId}{xs zs:List (Den E.S t)}{foc:List (Nat×Int×Den E.S t)}{i:Nat}{H H':Nat->Option (Obj E)}(he:EncOK E t enc){l l':Loc}{i':Nat}{g':Ga}(h:HR P E Bs F0 w0 w z g H)(hi:H i=some (.row e t xs foc))(hg:g i=some l)(hle:g.Le g')(hg':g' i'=some l')(hA:l'.A=l.A)(hn:l'.n=zs.length)(hc:l'.c=E.size t)
  (hb:Grow w w') (hk:∀k,k<w.heap.size->¬cB_ l.A k->w'.heap[k]? = w.heap[k]?) (hr:RowQ E t enc w' e zs l'.A l'.cap)
  (hH:∀j o,H' j=some o->(j=i'/\o = .row e t zs [])\/(j≠i'/\j≠i/\H j=some o)):HR P E Bs F0 w0 w' z g' H':=by
 refine h.turn hle (i:=i) (i':=i') (C:=cB_ l.A) (λ q ⟨a,ha,hq⟩=>⟨_,hi,l,a,hg,ha,hq⟩) hb hk (o' := .row e t zs []) (rowQ_mk he hr hg' hn hc) (λ q hq => ?_) λ j p hj => ?_
 .obtain⟨l2,a2,h5,h6,rfl⟩:=hq;rw[hg']at h5;obtain rfl:=qSj h5;exact .inl ⟨a2,by rw[←hA];exact h6,rfl⟩
 .rcases hH j p hj with h1|⟨h1,h2,h3⟩
  .exact .inl h1
  .exact .inr ⟨h1,.inl h2,h3⟩
end
end Rt
end Go
namespace Go.Proofs
open Go.Shelf
def Tryz.laysSortF_ren:Go.Shelf.Ren:=⟨λ | 6=>190 | 15=>262 | 14=>261 | 28=>319 | 29=>320 | 20=>311 | 21=>312 | 22=>313 | 23=>314 | 24=>315 | 25=>316 | 26=>317 | 27=>318 | 46=>347 | 47=>348 | 48=>349 | 49=>350 | 50=>351 | 57=>367|n=>n,λ | 22=>24 | 24=>81 | 25=>216 | 3=>3 | 39=>265 | 0=>0 | 53=>306 | 55=>267 | 4=>4 | 46=>300 | 45=>299 | 50=>245 | 5=>5 | 9=>9 | 66=>330 | 70=>334 | 76=>348 | 77=>287|n=>n,fun|n=>n⟩
theorem Tryz.laysSortF:Go.Proofs.SlLaysF0.n6 Tryz.prog Tryz.laysSortF_ren:={
 mixed:=by kernel_rfl
 f6:=⟨Tryz.f190.name,by decide,Tryz.func190.trans (congrArg some (by kernel_rfl))⟩
 f14:=⟨Tryz.f261.name,by decide,Tryz.func261.trans (congrArg some (by kernel_rfl))⟩
 f15:=Tryz.func262.trans (congrArg some (by kernel_rfl))
 f20:=⟨Tryz.f311.name,by decide,Tryz.func311.trans (congrArg some (by kernel_rfl))⟩
 f21:=⟨Tryz.f312.name,by decide,Tryz.func312.trans (congrArg some (by kernel_rfl))⟩
 f22:=⟨Tryz.f313.name,by decide,Tryz.func313.trans (congrArg some (by kernel_rfl))⟩
 f23:=⟨Tryz.f314.name,by decide,Tryz.func314.trans (congrArg some (by kernel_rfl))⟩
 f24:=⟨Tryz.f315.name,by decide,Tryz.func315.trans (congrArg some (by kernel_rfl))⟩
 f25:=⟨Tryz.f316.name,by decide,Tryz.func316.trans (congrArg some (by kernel_rfl))⟩
 f26:=⟨Tryz.f317.name,by decide,Tryz.func317.trans (congrArg some (by kernel_rfl))⟩
 f27:=⟨Tryz.f318.name,by decide,Tryz.func318.trans (congrArg some (by kernel_rfl))⟩
 f28:=Tryz.func319.trans (congrArg some (by kernel_rfl))
 f29:=Tryz.func320.trans (congrArg some (by kernel_rfl))
 f46:=⟨Tryz.f347.name,by decide,Tryz.func347.trans (congrArg some (by kernel_rfl))⟩
 f47:=Tryz.func348.trans (congrArg some (by kernel_rfl))
 f48:=Tryz.func349.trans (congrArg some (by kernel_rfl))
 f49:=⟨Tryz.f350.name,by decide,Tryz.func350.trans (congrArg some (by kernel_rfl))⟩
 f50:=⟨Tryz.f351.name,by decide,Tryz.func351.trans (congrArg some (by kernel_rfl))⟩
 f57:=⟨Tryz.f367.name,by decide,Tryz.func367.trans (congrArg some (by kernel_rfl))⟩
 t0:=Tryz.underlying0
 a0:=Tryz.isAgg0
 z0:=Tryz.sizeOf0
 v0:=Tryz.zeroValue0
 t3:=Tryz.underlying3
 a3:=Tryz.isAgg3
 z3:=Tryz.sizeOf3
 v3:=Tryz.zeroValue3
 t4:=Tryz.underlying4
 a4:=Tryz.isAgg4
 z4:=Tryz.sizeOf4
 v4:=Tryz.zeroValue4
 t5:=Tryz.underlying5
 a5:=Tryz.isAgg5
 z5:=Tryz.sizeOf5
 v5:=Tryz.zeroValue5
 t9:=Tryz.underlying9
 a9:=Tryz.isAgg9
 z9:=Tryz.sizeOf9
 v9:=Tryz.zeroValue9
 t22:=Tryz.underlying24
 a22:=Tryz.isAgg24
 z22:=Tryz.sizeOf24
 v22:=Tryz.zeroValue24
 t25:=Tryz.underlying216
 a25:=Tryz.isAgg216
 z25:=Tryz.sizeOf216
 v25:=Tryz.zeroValue216
 t39:=Tryz.underlying265
 a39:=Tryz.isAgg265
 z39:=Tryz.sizeOf265
 v39:=Tryz.zeroValue265
 t45:=Tryz.underlying299
 a45:=Tryz.isAgg299
 z45:=Tryz.sizeOf299
 v45:=Tryz.zeroValue299
 t46:=Tryz.underlying300
 a46:=Tryz.isAgg300
 z46:=Tryz.sizeOf300
 v46:=Tryz.zeroValue300
 t50:=Tryz.underlying245
 a50:=Tryz.isAgg245
 z50:=Tryz.sizeOf245
 v50:=Tryz.zeroValue245
 t53:=Tryz.underlying306
 a53:=Tryz.isAgg306
 z53:=Tryz.sizeOf306
 v53:=Tryz.zeroValue306
 t55:=Tryz.underlying267
 a55:=Tryz.isAgg267
 z55:=Tryz.sizeOf267
 v55:=Tryz.zeroValue267
 t66:=Tryz.underlying330
 a66:=Tryz.isAgg330
 z66:=Tryz.sizeOf330
 v66:=Tryz.zeroValue330
 t70:=Tryz.underlying334
 a70:=Tryz.isAgg334
 z70:=Tryz.sizeOf334
 v70:=Tryz.zeroValue334
 t76:=Tryz.underlying348
 a76:=Tryz.isAgg348
 z76:=Tryz.sizeOf348
 v76:=Tryz.zeroValue348
 t77:=Tryz.underlying287
 a77:=Tryz.isAgg287
 z77:=Tryz.sizeOf287
 v77:=Tryz.zeroValue287 }
end Go.Proofs
namespace Go
namespace Rt
open Go.RowKit Go.Sort Go.Shelf Go.Proofs
section
variable{α:Type}[Inhabited α]
theorem flat_get(enc:α->List Value)(k:Nat)(hk:∀x,(enc x).length=k):∀(L:List α) (t:Nat),t<L.length*k->(L.map enc).flatten[t]? = (enc (L[t/k]?.getD default))[t%k]?
 | [],t,h=>by simp at h
 | x::L,t,h=>by
  have k0:0<k:=by
   rcases Nat.eq_zero_or_pos k with h'|h'
   .subst h';simp at h
   .exact h'
  rw[List.map_cons,List.flatten_cons];rcases Nat.lt_or_ge t k with ht|ht
  .rw[List.getElem?_append_left (by rw[hk];exact ht),Nat.div_eq_of_lt ht,Nat.mod_eq_of_lt ht];rfl
  .obtain⟨u,rfl⟩:∃u,t=u+k:=⟨t-k,by omega⟩;rw[List.getElem?_append_right (by rw[hk];omega),hk,Nat.add_sub_cancel,Nat.add_div_right _ k0,Nat.add_mod_right,flat_get enc k hk L u (by
    rw[qLc,Nat.succ_mul]at h;omega)]
   rfl
theorem pF_(enc:α->List Value)(k:Nat)(hk:∀x,(enc x).length=k)(d:Array α):flatK enc k d=(d.toList.map enc).flatten.toArray:=by
 have hfl:∀(xs:List α),(xs.map enc).flatten.length=xs.length*k:=λ xs=>by
  induction xs with
  | nil=>simp
  | cons x xs ih=>rw[List.map_cons,List.flatten_cons,qLa,hk,ih,qLc,Nat.succ_mul,Nat.add_comm]
 refine Sort.ext_get! (by rw[size_flatK,←Array.length_toList,←Array.length_toList,List.toList_toArray,hfl]) λ t ht => ?_
 rw[size_flatK]at ht;rw[get_flatK _ _ _ t ht];have k0:0<k:=by
  rcases Nat.eq_zero_or_pos k with h'|h'
  .subst h';simp at ht
  .exact h'
 have h1:=flat_get enc k hk d.toList t (by simpa using ht);have hd:t/k<d.size:=Nat.div_lt_of_lt_mul (by rwa [Nat.mul_comm]at ht);have e1:d.toList[t/k]?.getD default=d[t/k]! := by
  rw[getElem!_pos d _ hd,Array.getElem?_toList,Array.getElem?_eq_getElem hd];rfl
 rw[e1]at h1;have hm:t%k<(enc d[t/k]!).length:=by rw[hk];exact Nat.mod_lt _ k0
 have ht2:t<(d.toList.map enc).flatten.length:=by rw[hfl];simpa using ht
 rw[getElem!_pos (enc d[t/k]!) _ hm,getElem!_pos (d.toList.map enc).flatten.toArray t (by simpa using ht2)];rw[List.getElem?_eq_getElem hm,List.getElem?_eq_getElem ht2]at h1;simpa using(qSj h1).symm
end
section
variable{P:Program}{E:TE}{w:World}{t:Ty}{enc:Den E.S t->List Value}[Inhabited (Den E.S t)]
theorem RowQ.holdsK(he:EncOK E t enc){e:TypeId}{xs:List (Den E.S t)}{b cap:Nat}(h:RowQ E t enc w e xs (some ⟨b,0,none⟩) cap):HoldsK enc (E.size t) w b 0 xs.toArray/\xs.length<=cap/\cap<=maxLen/\b<w.heap.size:=by
 rcases h with⟨h,_⟩|⟨b',cs,hA,hh,h1,h2,h3,h4⟩
 .cases h
 .injection hA with hA;injection hA with hA;subst hA;refine⟨?_,h1,h2,?_⟩
  .unfold HoldsK;rw[pF_ enc (E.size t) he.len];intro q hq;have hq':q<xs.length*E.size t:=by
    rw[←fB_ he xs];simpa using hq
   refine⟨?_,by unfold World.frozen?;simp only[hh];simp⟩;rw[Nat.zero_add,cell_of_row w b q _ e (0,0) hh];have:(cs.take (xs.length*E.size t))[q]? = cs[q]? := by rw[List.getElem?_take,if_pos hq']
   rw[List.getElem?_toArray,←this,h4,getElem!_pos _ q hq];have hq2:q<(xs.map enc).flatten.length:=by rw[fB_ he];exact hq'
   rw[List.getElem?_eq_getElem hq2];simp
  .rcases Nat.lt_or_ge b w.heap.size with h'|h'
   .exact h'
   .rw[Array.getElem?_eq_none h']at hh;cases hh
def l0_{α:Type}(key:α->Int)(x y:α):Int:=Lib.compareInt (key x) (key y)
theorem mM_{α:Type}(key:α->Int):ltOf (l0_ key)=λ x y=>decide (key x<key y):=by
 funext x y
 unfold ltOf l0_ Lib.compareInt;by_cases h1:key x<key y
 .simp[h1]
 .by_cases h2:key y<key x<;>simp[h1,h2]
theorem byKey_swo{α:Type}(key:α->Int):SWO (ltOf (l0_ key)) where
 irrefl x:=by rw[mM_];simp
 trans x y z h1 h2:=by rw[mM_]at *;simp at *;omega
 ntrans x y z h1 h2:=by rw[mM_]at *;simp at *;omega
theorem sortF_run{ρ:Ren}(L:SlLaysF0.n6 P ρ)(he:EncOK E t enc)(aE:∀w,(isAgg (ρ.t 24)).run P w = .ok true w)(zE:∀w,(Go.sizeOf (ρ.t 24)).run P w = .ok (E.size t) w)(h1:∀x,∀v∈enc x,v.oneCell'=true)(key:Den E.S t->Int)(g:Nat)
  (eg:∀args w,(callFunc g args).run P w = .ok (.enter g args) w) (hcmp:∀x y W,Calls P g #[.agg (enc x).toArray,.agg (enc y).toArray] W λ e w'=>e = .returned (.int .i64 (l0_ key x y))/\∃q os,w'=grow (W.drewN q) os)
  {e:TypeId} {xs zs:List (Den E.S t)} {A:Option Addr} {cap:Nat} (hx:RowQ E t enc w e xs A cap) (hl:dJ_ key xs=some zs) :
  Ret P (ρ.f 6) #[.slice A xs.length cap,.func (.func g) #[] #[]] w λ v w'=>v = .tuple #[]/\zs.length=xs.length/\RowQ E t enc w' e zs A cap/\Grow w w'/\∀k,k<w.heap.size->¬cB_ A k->w'.heap[k]? = w.heap[k]? := by
 unfold dJ_ at hl;split at hl
 .rename_i hlt;obtain rfl:=qSj hl;have hsz:(Sort.pdq (λ x y=>decide (key x<key y)) xs.toArray 0 xs.length (Lib.bitLen xs.length) true true).size=xs.length:=by
   have h:=pdq_sorts (ltOf (l0_ key)) (byKey_swo key) xs.toArray 0 xs.length (Lib.bitLen xs.length) true true (Nat.zero_le _) (by simp) (Or.inl rfl);rw[mM_]at h;simpa using h.1.1
  cases xs with
  | nil =>
   have hz:(Sort.pdq (λ x y=>decide (key x<key y)) ([]:List (Den E.S t)).toArray 0 ([]:List (Den E.S t)).length (Lib.bitLen ([]:List (Den E.S t)).length) true true).toList=[]:=List.length_eq_zero_iff.1 (by rw[Array.length_toList,hsz];rfl);refine Calls.mono (AnyF.slices_SortFunc_none L A cap _ w) λ e w' ⟨he,hw⟩=>⟨_,he,rfl,by rw[hz],?_,?_,λ k _ _ => ?_⟩
   .subst hw;rw[hz];exact hx
   .subst hw;exact Grow.refl _
   .subst hw;rfl
  | cons x xs =>
   obtain⟨b,rfl⟩:∃b,A=some ⟨b,0,none⟩:=by
    rcases hx with⟨_,_,h⟩|⟨b,_,h,_⟩
    .cases h
    .exact⟨b,h⟩
   obtain⟨hH,h2,h3,hb⟩:=hx.holdsK he;have hc:CmpLays P g #[] enc (E.size t) (l0_ key) b 0 (x::xs).toArray.size w:=λ m os dk hs x y=>hcmp x y _
   refine Calls.mono (AnyQ.slices_SortFunc_eq L (E.size t) aE zE enc he.len h1 (l0_ key) (byKey_swo key) g #[] b 0 cap (x::xs).toArray w eg hc hH hb (by simpa using hlt)) λ e w' ⟨he',q,os,hw⟩=>⟨_,he',rfl,?_⟩
   have hb1:Lib.bitLen (x::xs).toArray.size=Lib.bitLen (x::xs).length:=by simp
   rw[mM_,hb1]at hw;generalize hd:Sort.pdq (λ x y=>decide (key x<key y)) (x::xs).toArray 0 (x::xs).length (Lib.bitLen (x::xs).length) true true=d at *
   have hw2:w'=grow (putRow id (Sort.ahead w q) b 0 (flatK enc (E.size t) d)) os:=by
    rw[hw,←hd];rfl
   rw[pF_ enc (E.size t) he.len]at hw2;have hlen:d.toList.length=(x::xs).length:=by rw[Array.length_toList,hsz]
   obtain⟨r1,r2,r3⟩:=hx.put (E:=E) (t:=t) (enc:=enc) (w':=w') (zs:=d.toList) (Nat.le_of_eq hlen) id (d.toList.map enc).flatten.toArray (by
    rw[List.size_toArray,fB_ he,hlen]) (by
    rw[List.map_id,List.toList_toArray,List.take_of_length_le];exact Nat.le_of_eq (fB_ he _)) q os hw2
   exact⟨hlen,r1,r2,λ k hk hn=>r3 k hk λ e=>hn ⟨_,rfl,e⟩⟩
 .cases hl
end
end Rt
end Go
namespace Go.Proofs.YtebokaoegomboaaGreatDoor
open Go.RowKit Go.Rt Go.Sort
def encN(x:Xq):List Value:=[.int .i64 x.Id_,.int .i64 x.Xw,.int .i64 x.Xo,S x.Xy,.int .i64 x.Xv,S x.Yw,S x.Yv,S x.Yg,.int .i64 x.Xu,.int .i64 x.Xa,S x.Xl]
theorem encN_ok:EncOK te (.st nodeN) encN:=⟨λ z x r h=>by
  obtain⟨v1,e1,h⟩:=RD.int_inv h;obtain⟨v2,e2,h⟩:=RD.int_inv h;obtain⟨v3,e3,h⟩:=RD.int_inv h;obtain⟨v4,e4,h⟩:=RD.str_inv h;obtain⟨v5,e5,h⟩:=RD.int_inv h;obtain⟨v6,e6,h⟩:=RD.str_inv h;obtain⟨v7,e7,h⟩:=RD.str_inv h;obtain⟨v8,e8,h⟩:=RD.str_inv h;obtain⟨v9,e9,h⟩:=RD.int_inv h;obtain⟨v10,e10,h⟩:=RD.int_inv h;obtain⟨v11,e11,h⟩:=RD.str_inv h;rw[e1,e2,e3,e4,e5,e6,e7,e8,e9,e10,e11,h.nil_inv];rfl,λ z x => .int (.int (.int (.str (.int (.str (.str (.str (.int (.int (.str .nil))))))))))⟩
set_option maxHeartbeats 1000000 in
theorem nanI(x:Int)(W:World):Calls Tryz.prog 263 #[.int .i64 x] W λ e w'=>e = .returned (.bool false)/\w'=W:=by
 go_enter Tryz.func263,Tryz.ntmps263
 go_wp2
 go_ret
 exact⟨rfl,rfl⟩
set_option maxHeartbeats 1000000 in
theorem compareI(x y:Int)(W:World):Calls Tryz.prog 192 #[.int .i64 x,.int .i64 y] W λ e w'=>e = .returned (.int .i64 (Lib.compareInt x y))/\w'=W:=by
 go_enter Tryz.func192,Tryz.ntmps192
 go_wp2_with (go_at_call 263;refine(nanI _ _).mono ?_;rintro e w' ⟨rfl,hw⟩;rw[hw])
 all_goals (go_ret;refine⟨?_,rfl⟩;unfold Lib.compareInt;(repeat' split)<;>first|rfl|(exfalso;omega))
set_option maxHeartbeats 4000000 in
theorem closureN(x y:Xq)(W:World):Calls Tryz.prog 191 #[.agg (encN x).toArray,.agg (encN y).toArray] W λ e w'=>e = .returned (.int .i64 (l0_ (fun(n:Xq)=>n.Id_) x y))/\∃q os,w'=grow (W.drewN q) os:=by
 unfold l0_;simp only;have hcon:=λ W=>compareI x.Id_ y.Id_ W
 generalize Lib.compareInt x.Id_ y.Id_=r at hcon ⊢;unfold encN;cases x
 cases y
 go_enter Tryz.func191,Tryz.ntmps191
 go_wp2_with (go_at_call 192;refine(hcon _).mono ?_;rintro e w' ⟨rfl,rfl⟩)
 go_ret
 rw[alloc_eq_grow,alloc_eq_grow,grow_grow];exact⟨rfl,0,_,rfl⟩
def pG_:InlF te:=λ H _ xs _ k=>match xs with
 | [.one (.own id),.one (.clo g [])]=>match Nat.beq g 191,H id with
  | true,some (.row e t ys _)=>match Nat.beq e 81 with
   | true=>if h:t = .st nodeN then Option.bind (dJ_ (fun(x:Xq)=>x.Id_) (fM_ (E:=te) h ys)) λ zs=>k (some (.tup [])) [(id,some (.row e (.st nodeN) zs []))]else none
   | false=>none
  | _,_=>none
 | _=>none
theorem sk_:InlOK Tryz.prog te 190 pG_/\dy_ Tryz.prog 190=true:=by
 refine⟨?_,by kernel_rfl⟩;intro z g nx H xs vs R k r Bs F0 w0 w hnx hH hv h;unfold pG_ at h;split at h
 .rename_i id fn;split at h
  .rename_i e t ys foc hg hi;obtain rfl:=qNb hg;split at h
   .rename_i he;obtain rfl:=qNb he;split at h
    .rename_i ht;subst ht;obtain⟨zs,hs,h⟩:=bind_some h;have hs':dJ_ (fun(x:Xq)=>x.Id_) ys=some zs:=hs;obtain⟨l0,g0,n0,c0,r0⟩:=rowQ_of encN_ok (hH.hold _ _ hi);cases hv with
     | cons v1 hv=>cases hv with
      | cons v2 hv =>
       cases hv
       obtain⟨l1,e0,rfl⟩:=v1;rw[g0]at e0;obtain rfl:=qSj e0;obtain⟨us,rfl,hu⟩:=v2;cases hu
       rw[n0]
       letI:Inhabited (Den te.S (.st nodeN)):=(inferInstance:Inhabited Xq)
       have hrun:=sortF_run (P:=Tryz.prog) (E:=te) (t := .st nodeN) (enc:=encN) Tryz.laysSortF encN_ok Tryz.isAgg81 Tryz.sizeOf81 (λ x v hv=>by
        simp only[encN,List.mem_cons,List.not_mem_nil,or_false]at hv;rcases hv with rfl|rfl|rfl|rfl|rfl|rfl|rfl|rfl|rfl|rfl|rfl<;>rfl) (fun(x:Xq)=>x.Id_) 191 (enters_of Tryz.func191 (by kernel_rfl) rfl) (λ x y W=>closureN x y W) r0 hs'
       refine Ret.mono (f:=190) hrun λ v w' ⟨hv',hlen,hr',hg',hk'⟩ => ?_
       subst hv';refine⟨.tup [],_,z,g,h,Fz.Le.refl z,Ga.Le.refl g,(λ i hi=>hnx i (Nat.le_trans (by omega) (Nat.le_trans (mm_ nx _) hi))),⟨[],rfl,.nil⟩,?_⟩;exact hH.rowQ encN_ok (i:=id) (i':=id) (xs:=ys) (zs:=zs) hi g0 (Ga.Le.refl g) g0 rfl (n0.trans hlen.symm) c0 hg' hk' hr' λ j o hj=>by
        rcases b2_ hj with h|⟨h1,h2⟩
        .exact .inl h
        .exact .inr ⟨h1,h1,h2⟩
    .cases h
   .cases h
  .cases h
 .cases h
end Go.Proofs.YtebokaoegomboaaGreatDoor
namespace Go.Proofs.YtebokaoegomboaaGreatDoor
open Go.Rt Go.RowKit
noncomputable section
def c_10:Con te:=aj_ te [.d (.st 8)] [(.bool,[])] false λ a=>hX_ a.1
theorem ok_10:OKF 10 c_10:=⟨ad_ ag_ af_ Tryz.func10 (by kernel_rfl) (pl := .s .p (.s .p (.s .p (.s (.s .p (.lp ⟨[(49,.d (.int .i64))],[],[1,3,48],[0,5],[],27022⟩ ⟨[],[],[1,3],[0,5],[],27022⟩ true .p)) (.s (.s .p (.lp ⟨[(65,.d (.int .i64))],[],[1,3,64],[0,5],[],27027⟩ ⟨[],[],[1],[0],[],27027⟩ true .p)) (.s (.s .p (.lp ⟨[(93,.d (.int .i64))],[],[1,92],[0],[],27032⟩ ⟨[],[],[1],[0],[],27032⟩ true .p)) (.s (.s .p (.lp ⟨[(120,.d (.int .i64))],[],[1,119],[0],[],27036⟩ ⟨[],[],[],[],[],27036⟩ true .p)) .p))))))) λ _=>by kernel_rfl,by kernel_rfl⟩
def c_83:Con te:=aj_ te [.d .str] [(.bool,[])] false λ a=>hY_ a.1
theorem ok_83:OKF 83 c_83:=⟨ad_ ag_ af_ Tryz.func83 (by kernel_rfl) (pl := .s .p (.s .p (.s (.s .p (.lp ⟨[(3,.d (.int .i64))],[],[0],[],[],4006⟩ ⟨[],[],[],[],[],4006⟩ true .p)) .p))) λ _=>by kernel_rfl,by kernel_rfl⟩
def c_203:Con te:=aj_ te [.d (.sl (.st 0)),.d .str] [(.int .i64,[])] false λ a=>iB_ a.1 a.2.1
theorem ok_203:OKF 203 c_203:=⟨ad_ ag_ af_ Tryz.func203 (by kernel_rfl) (pl := .s .p (.s (.s .p (.lp ⟨[(8,.d (.int .i64))],[],[0,1,7],[],[],4⟩ ⟨[],[],[],[],[],4⟩ true .p)) .p)) λ _=>by kernel_rfl,by kernel_rfl⟩
def c_146:Con te:=aj_ te [.d (.sl (.st 0)),.d (.int .i64)] [(.int .i64,[])] false λ a=>g9_ a.1 a.2.1
theorem ok_146:OKF 146 c_146:=⟨ad_ ag_ (ab_ ok_203 (ab_ ok_83 af_)) Tryz.func146 (by kernel_rfl) (pl := .s .p (.s .p (.s .p (.s (.s .p (.lp ⟨[(37,.d (.int .i64))],[],[0,5,36],[5],[],6030⟩ ⟨[],[],[],[],[],6030⟩ true (.s .p (.s .p (.s (.s .p (.s (.dr [0,0,0,0,0,0,0,0,0,0,0,0,0,0,0,0,0,0,0,0,0,0,0,0,0,0] [] false []) .p)) .p))))) .p)))) λ _=>by kernel_rfl,by kernel_rfl⟩
def c_81:Con te:=aj_ te [.d (.sl (.st 0))] [(.int .i64,[])] false λ a=>kB_ a.1
theorem ok_81:OKF 81 c_81:=⟨ad_ ag_ (ab_ ok_146 af_) Tryz.func81 (by kernel_rfl) (pl := .s .p (.s .p (.s (.s .p (.lp ⟨[(10,.d (.int .i64))],[],[0,9],[],[],7⟩ ⟨[],[],[],[],[],7⟩ true .p)) .p))) λ _=>by kernel_rfl,by kernel_rfl⟩
def c_82:Con te:=aj_ te [.d (.sl (.st 1))] [(.int .i64,[])] false λ a=>kC_ a.1
theorem ok_82:OKF 82 c_82:=⟨ad_ ag_ (ab_ ok_83 af_) Tryz.func82 (by kernel_rfl) (pl := .s .p (.s .p (.s (.s .p (.lp ⟨[(3,.d (.int .i64))],[],[0],[],[],5⟩ ⟨[],[],[],[],[],5⟩ true (.s .p (.s (.s .p (.s .p (.s (.s (.dr [0,0,0,0,0,0,0,0,0,0,0,0,0] [] false []) .p) .p))) .p)))) .p))) λ _=>by kernel_rfl,by kernel_rfl⟩
def c_172:Con te:=aj_ te [.d (.int .i64)] [(.bool,[])] false λ a=>lV_ a.1
theorem ok_172:OKF 172 c_172:=⟨ad_ ag_ af_ Tryz.func172 (by kernel_rfl) (pl := .p) λ _=>by kernel_rfl,by kernel_rfl⟩
def c_108:Con te:=aj_ te [.d (.int .i64)] [(.bool,[])] false λ a=>ce_ a.1
theorem ok_108:OKF 108 c_108:=⟨ad_ ag_ af_ Tryz.func108 (by kernel_rfl) (pl := .p) λ _=>by kernel_rfl,by kernel_rfl⟩
def c_106:Con te:=aj_ te [.d (.st 2)] [(.bool,[])] false λ a=>gN_ a.1
theorem ok_106:OKF 106 c_106:=⟨ad_ ag_ (ab_ ok_108 (ab_ ok_172 af_)) Tryz.func106 (by kernel_rfl) (pl := .p) λ _=>by kernel_rfl,by kernel_rfl⟩
def c_107:Con te:=aj_ te [.d .str] [(.bool,[])] false λ a=>hZ_ a.1
theorem ok_107:OKF 107 c_107:=⟨ad_ ag_ af_ Tryz.func107 (by kernel_rfl) (pl := .s .p (.s (.s .p (.lp ⟨[(3,.d (.int .i64))],[],[0],[],[],2⟩ ⟨[],[],[0],[],[],2⟩ true .p)) .p)) λ _=>by kernel_rfl,by kernel_rfl⟩
def c_40:Con te:=aj_ te [.d (.st 3)] [(.bool,[])] false λ a=>eg_ a.1
theorem ok_40:OKF 40 c_40:=⟨ad_ ag_ (ab_ ok_108 (ab_ ok_107 (ab_ ok_106 af_))) Tryz.func40 (by kernel_rfl) (pl := .s .p (.s .p (.s .p (.s (.s (.dr [0,0,0,0,0,0,0,0,0,0,0,0,0,0,0] [] false []) .p) (.s (.s .p (.lp ⟨[(4,.d (.int .i64))],[],[3],[],[],38027⟩ ⟨[],[],[],[],[],38027⟩ true (.s .p (.s (.s (.s (.dr [0,0,0,0,0,0,0,0,0,0,0,0,0,0,0,0,0,0,0,0,0,0,0,0,0,0,0,0,0,0,0,0,0,0,0,0,0,0,0,0,0,0] [] false []) .p) (.s .p (.s (.s .p (.lp ⟨[(5,.d .bool),(6,.d (.int .i64))],[],[3,4],[],[],65048⟩ ⟨[(5,.d .bool)],[],[3,4],[],[],65048⟩ true (.s .p (.s (.s (.dr [0,0,0,0,0,0,0,0,0,0,0,0,0,0,0,0,0,0,0,0,0,0,0] [] false []) (.s (.dr [0,0,0,0,0,0,0,0,0,0,0,0,0,0,0,0,0,0,0,0,0,0,0,0,0,0,0,0] [] false []) .p)) .p)))) .p))) .p)))) .p))))) λ _=>by kernel_rfl,by kernel_rfl⟩
def c_139:Con te:=aj_ te [.d (.st 3),.d (.int .i64)] [(.int .i64,[])] false λ a=>nG_ a.1 a.2.1
theorem ok_139:OKF 139 c_139:=⟨ad_ ag_ af_ Tryz.func139 (by kernel_rfl) (pl := .s .p (.s (.s .p (.lp ⟨[(5,.d (.int .i64))],[],[1,2],[0],[],4⟩ ⟨[],[],[],[],[],4⟩ true .p)) .p)) λ _=>by kernel_rfl,by kernel_rfl⟩
def c_68:Con te:=aj_ te [.d (.st 3),.d (.int .i64)] [(.st 2,[]),(.bool,[])] false λ a=>ha_ a.1 a.2.1
theorem ok_68:OKF 68 c_68:=⟨ad_ ag_ (ab_ ok_139 af_) Tryz.func68 (by kernel_rfl) (pl := .p) λ _=>by kernel_rfl,by kernel_rfl⟩
def c_98:Con te:=aj_ te [.d (.int .i64),.d (.int .i64)] [(.bool,[])] false λ a=>eW_ a.1 a.2.1
theorem ok_98:OKF 98 c_98:=⟨ad_ ag_ af_ Tryz.func98 (by kernel_rfl) (pl := .p) λ _=>by kernel_rfl,by kernel_rfl⟩
def c_37:Con te:=aj_ te [.d (.st 4)] [(.bool,[])] false λ a=>kD_ a.1
theorem ok_37:OKF 37 c_37:=⟨ad_ ag_ (ab_ ok_98 (ab_ ok_68 (ab_ ok_40 (ab_ ok_82 (ab_ ok_81 af_))))) Tryz.func37 (by kernel_rfl) (pl := .s .p (.s .p (.s (.s .p (.lp ⟨[(25,.d (.int .i64))],[],[1,24],[0],[],10013⟩ ⟨[],[],[],[],[],10013⟩ true (.s .p (.s .p (.s (.s .p (.s (.dr [0,0,0,0,0,0,0,0,0,0,4,1,2,4] [10] false []) (.s (.dr [0,0,0,0,0,0,0,0,0,0,0,0,0,0,0,0,0,0,0,0,0,0,0,0,0,0] [] false []) .p))) .p))))) .p))) λ _=>by kernel_rfl,by kernel_rfl⟩
def c_99:Con te:=aj_ te [.d (.int .i64)] [(.bool,[])] false λ a=>tr_ a.1
theorem ok_99:OKF 99 c_99:=⟨ad_ ag_ af_ Tryz.func99 (by kernel_rfl) (pl := .p) λ _=>by kernel_rfl,by kernel_rfl⟩
def c_100:Con te:=aj_ te [.d (.sl (.st 5)),.d .str] [(.int .i64,[])] false λ a=>mx_ a.1 a.2.1
theorem ok_100:OKF 100 c_100:=⟨ad_ ag_ af_ Tryz.func100 (by kernel_rfl) (pl := .s .p (.s (.s .p (.lp ⟨[(5,.d (.int .i64))],[],[0,1],[],[],2⟩ ⟨[],[],[],[],[],2⟩ true .p)) .p)) λ _=>by kernel_rfl,by kernel_rfl⟩
def c_38:Con te:=aj_ te [.d (.st 6)] [(.bool,[])] false λ a=>h0_ a.1
theorem ok_38:OKF 38 c_38:=⟨ad_ ag_ (ab_ ok_100 (ab_ ok_99 af_)) Tryz.func38 (by kernel_rfl) (pl := .s .p (.s .p (.s (.s .p (.lp ⟨[(3,.d (.int .i64))],[],[1],[0],[],11009⟩ ⟨[],[],[],[],[],11009⟩ true (.s .p (.s (.s .p (.s (.dr [0,0,0,0,0,0,0,0,0,0,0,0,0,0,0,0,0,0,0,0,0,0,0,0,0,0] [] false []) .p)) .p)))) .p))) λ _=>by kernel_rfl,by kernel_rfl⟩
def c_337:Con te:=aj_ te [.d (.int .u64),.d (.int .i64)] [(.str,[])] false λ a=>gO_ a.1 a.2.1
theorem ok_337:OKF 337 c_337:=⟨ad_ ag_ af_ Tryz.func337 (by kernel_rfl) (pl := .s .p (.s .p (.s (.s .p (.lp ⟨[(0,.d (.int .u64)),(5,.d .str),(6,.d (.int .i64))],[],[1],[],[],3⟩ ⟨[(5,.d .str)],[],[],[],[],3⟩ false .p)) .p))) λ _=>by kernel_rfl,by kernel_rfl⟩
def c_335:Con te:=aj_ te [.d .str] [(.str,[])] false λ a=>ji_ a.1
theorem ok_335:OKF 335 c_335:=⟨ad_ ag_ (ab_ ok_337 af_) Tryz.func335 (by kernel_rfl) (pl := .s .p (.s .p (.s (.lp ⟨[(3,.d .str)],[],[0],[],[],4⟩ ⟨[(3,.d .str)],[],[0],[],[],4⟩ false .p) .p))) λ _=>by kernel_rfl,by kernel_rfl⟩
def c_358:Con te:=aj_ te [] [(.sl (.int .u32),[some 306])] false λ _=>nf_
theorem ok_358:OKF 358 c_358:=⟨ad_ ag_ af_ Tryz.func358 (by kernel_rfl) (pl := .p) λ _=>by kernel_rfl,by kernel_rfl⟩
def c_360:Con te:=aj_ te [.d (.int .u32),.d (.int .i64)] [(.int .u32,[])] false λ a=>aT_ a.1 a.2.1
theorem ok_360:OKF 360 c_360:=⟨ad_ ag_ af_ Tryz.func360 (by kernel_rfl) (pl := .s .p (.s (.dr [0,0,0,0,0,0,0,0,0] [] false []) .p)) λ _=>by kernel_rfl,by kernel_rfl⟩
def c_359:Con te:=aj_ te [.d .str] [(.sl (.int .u32),[some 306])] false λ a=>hd_ a.1
theorem ok_359:OKF 359 c_359:=⟨ad_ ag_ (ab_ ok_360 af_) Tryz.func359 (by kernel_rfl) (pl := .s .p (.s .p (.s (.s .p (.lp ⟨[(3,.one (.own 3)),(4,.d (.int .i64))],[(3,false,.row 306 (.int .u32) [])],[0],[],[],4⟩ ⟨[(3,.one (.own 3))],[(3,false,.row 306 (.int .u32) [])],[],[],[],4⟩ false (.s .p (.s (.dr [0,0,0,0,0,0,0,0,0,0,0,0,0,0,0,0,0,0,0,0,0,0,0,0,0,0,0,0,0,0,1,2,4] [] false []) .p)))) (.s (.s .p (.lp ⟨[(3,.one (.own 5)),(5,.d (.int .i64))],[(5,false,.row 306 (.int .u32) [])],[],[],[],6⟩ ⟨[(3,.one (.own 5))],[(5,false,.row 306 (.int .u32) [])],[],[],[],6⟩ false (.s .p (.s (.s (.dr [0,0,0,0,0,0,0,0,0,0,0,0] [] false []) (.s .p (.s .p (.dr [0,0,0,0,0,0,0,0,0,0,0,0,0,0,0,0,1,2,4] [] false [])))) .p)))) .p)))) λ _=>by kernel_rfl,by kernel_rfl⟩
def c_336:Con te:=aj_ te [.d (.sl (.int .u32)),.d .str] [(.sl (.int .u32),[some 306])] false λ a=>kF_ a.1 a.2.1
theorem ok_336:OKF 336 c_336:=⟨ad_ ag_ (ab_ ok_360 (ab_ ok_359 (ab_ ok_358 af_))) Tryz.func336 (by kernel_rfl) (pl := .s .p (.s .p (.s (.dr [0,0,0,0,0,0,0,0,0,0,0,0,0,0,0,0] [] false []) (.s (.dr [0,0,0,0,0,0,0,0,0,0,0,0,0,0,0,0] [] false []) (.s (.s .p (.lp ⟨[(7,.d (.int .u32)),(8,.d (.int .u32)),(9,.d (.int .u32)),(10,.d (.int .u32)),(11,.d (.int .u32)),(12,.d (.int .u32)),(13,.d (.int .u32)),(14,.d (.int .u32)),(15,.d (.int .i64))],[(1,true,.row 306 (.int .u32) []),(4,true,.row 306 (.int .u32) [])],[0,5,6],[],[],41⟩ ⟨[(7,.d (.int .u32)),(8,.d (.int .u32)),(9,.d (.int .u32)),(10,.d (.int .u32)),(11,.d (.int .u32)),(12,.d (.int .u32)),(13,.d (.int .u32)),(14,.d (.int .u32))],[],[0],[],[],41⟩ false (.s .p (.s (.s (.dr [0,0,0,0,0,0,0,0,0,0,0,0,0,0,0,0,0,0,0,0,0,0,0,0,0,0,0,0,0,0] [] false []) .p) .p)))) (.s (.dr [0,0,0,0,0,0,0,0,0,0,0,0,0,0,0,0,0,0,0,0,0,0,0,0,0,0,0,0,0,0,0,0,0,0,0,0,0,0,0,0,1,4] [] false []) .p)))))) λ _=>by kernel_rfl,by kernel_rfl⟩
def c_296:Con te:=aj_ te [.d .str] [(.str,[])] false λ a=>ng_ a.1
theorem ok_296:OKF 296 c_296:=⟨ad_ ag_ (ab_ ok_337 (ab_ ok_336 (ab_ ok_335 af_))) Tryz.func296 (by kernel_rfl) (pl := .s .p (.s .p (.s .p (.s (.s .p (.lp ⟨[(3,.one (.own 8)),(5,.d (.int .i64))],[(8,false,.row 306 (.int .u32) [])],[4],[],[],9⟩ ⟨[(3,.one (.own 8))],[(8,false,.row 306 (.int .u32) [])],[],[],[],9⟩ false .p)) (.s .p (.s (.s .p (.lp ⟨[(6,.d .str),(7,.d (.int .i64))],[(8,true,.row 306 (.int .u32) [])],[3],[],[],11⟩ ⟨[(6,.d .str)],[],[],[],[],11⟩ false .p)) .p)))))) λ _=>by kernel_rfl,by kernel_rfl⟩
def c_237:Con te:=aj_ te [.d (.int .i64),.d .str] [(.str,[])] false λ a=>kG_ a.1 a.2.1
theorem ok_237:OKF 237 c_237:=⟨ad_ ag_ (ab_ ok_296 af_) Tryz.func237 (by kernel_rfl) (pl := .p) λ _=>by kernel_rfl,by kernel_rfl⟩
def c_168:Con te:=aj_ te [.d (.st 6),.d .str,.d (.int .i64)] [(.str,[]),(.int .i64,[])] false λ a=>nh_ a.1 a.2.1 a.2.2.1
theorem ok_168:OKF 168 c_168:=⟨ad_ ag_ (ab_ ok_237 (ab_ ok_100 af_)) Tryz.func168 (by kernel_rfl) (pl := .p) λ _=>by kernel_rfl,by kernel_rfl⟩
def c_101:Con te:=aj_ te [.d (.st 6),.d .str,.d (.int .i64)] [(.str,[]),(.int .i64,[])] false λ a=>gc_ a.1 a.2.1 a.2.2.1
theorem ok_101:OKF 101 c_101:=⟨ad_ ag_ (ab_ ok_168 af_) Tryz.func101 (by kernel_rfl) (pl := .p) λ _=>by kernel_rfl,by kernel_rfl⟩
def c_102:Con te:=aj_ te [.b 135 (.st 9),.d (.int .i64)] [(.int .i64,[])] false λ a=>aC_ a.1 a.2.1
theorem ok_102:OKF 102 c_102:=⟨ad_ ag_ af_ Tryz.func102 (by kernel_rfl) (pl := .s .p (.s (.s (.dr [0,0,0,0,0,0,0,0,0,0,0,0,0,0,0,0,0,0] [] false []) .p) (.s .p (.s (.s .p (.lp ⟨[(5,.d (.int .i64)),(6,.d (.int .i64))],[],[0,1],[0],[],13011⟩ ⟨[(5,.d (.int .i64))],[],[0,1],[0],[],13011⟩ true (.s .p (.s (.s .p (.dr [0,0,0,0,0,0,0,0,0,0,0,0,0,0,0,0] [] false [])) .p)))) .p)))) λ _=>by kernel_rfl,by kernel_rfl⟩
def c_169:Con te:=aj_ te [.b 135 (.st 9),.d (.int .i64)] [(.str,[])] false λ a=>bI_ a.1 a.2.1
theorem ok_169:OKF 169 c_169:=⟨ad_ ag_ af_ Tryz.func169 (by kernel_rfl) (pl := .s .p (.s (.s (.dr [0,0,0,0,0,0,0,0,0,0,0,0,0,0,0,0,0,0] [] false []) .p) (.s .p (.s (.dr [0,0,0,0,0,0,0,0,0,0,0,0,0,0,0,0] [] false []) .p)))) λ _=>by kernel_rfl,by kernel_rfl⟩
def c_103:Con te:=aj_ te [.b 135 (.st 9)] [(.st 2,[]),(.st 10,[])] false λ a=>et_ a.1
theorem ok_103:OKF 103 c_103:=⟨ad_ ag_ (ab_ ok_169 (ab_ ok_102 af_)) Tryz.func103 (by kernel_rfl) (pl := .s .p (.s .p (.s .p (.s .p (.s .p (.s .p (.s .p (.s .p (.s .p (.s .p (.s .p (.s .p (.s .p (.s .p (.s (.dr [0,0,1,1] [] true [1,3]) .p))))))))))))))) λ _=>by kernel_rfl,by kernel_rfl⟩
def c_238:Con te:=aj_ te [.d (.int .i64)] [(.int .i64,[])] false λ a=>jk_ a.1
theorem ok_238:OKF 238 c_238:=⟨ad_ ag_ af_ Tryz.func238 (by kernel_rfl) (pl := .s .p (.s .p (.s .p (.s (.lp ⟨[(3,.d (.int .i64)),(4,.d (.int .i64))],[],[],[],[],8⟩ ⟨[(4,.d (.int .i64))],[],[],[],[],8⟩ false .p) .p)))) λ _=>by kernel_rfl,by kernel_rfl⟩
def c_170:Con te:=aj_ te [.d (.st 10)] [(.bool,[])] false λ a=>h1_ a.1
theorem ok_170:OKF 170 c_170:=⟨ad_ ag_ (ab_ ok_238 af_) Tryz.func170 (by kernel_rfl) (pl := .s .p (.s (.dr [0,0,0,0,0,0,0,0,0,0,0,0,0,0,0,0,0,0,0,0,0,0,0] [] false []) .p)) λ _=>by kernel_rfl,by kernel_rfl⟩
def c_297:Con te:=aj_ te [.d (.int .i64)] [(.int .i64,[])] false λ a=>he_ a.1
theorem ok_297:OKF 297 c_297:=⟨ad_ ag_ af_ Tryz.func297 (by kernel_rfl) (pl := .s .p (.s .p (.s (.s .p (.lp ⟨[(3,.d (.int .i64)),(4,.d (.int .i64))],[],[0],[],[],3⟩ ⟨[(3,.d (.int .i64))],[],[],[],[],3⟩ false .p)) .p))) λ _=>by kernel_rfl,by kernel_rfl⟩
def cS_239(rec0:Xj->Str->Int->Int->Int->Int->Int->Bool->Option (Str×Int)):Con te:=aj_ te [.d (.st 6),.d .str,.d (.int .i64),.d (.int .i64),.d (.int .i64),.d (.int .i64),.d (.int .i64),.d .bool] [(.str,[]),(.int .i64,[])] false λ a=>rec0 a.1 a.2.1 a.2.2.1 a.2.2.2.1 a.2.2.2.2.1 a.2.2.2.2.2.1 a.2.2.2.2.2.2.1 a.2.2.2.2.2.2.2.1
theorem okS_239(rec0:Xj->Str->Int->Int->Int->Int->Int->Bool->Option (Str×Int))(h:OKF 239 (cS_239 rec0)):OKF 239 (cS_239 (fu_ rec0)):=⟨ad_ ag_ (ab_ ok_297 (ab_ ok_101 (ab_ h af_))) Tryz.func239 (by kernel_rfl) (pl := .s .p (.s .p (.s .p (.s .p (.s .p (.s .p (.s .p (.s .p (.s (.s .p (.lp ⟨[(24,.d .str),(25,.d (.int .i64))],[],[2,3,4,5,6,7,8,20,22,23],[0],[],34⟩ ⟨[(24,.d .str)],[],[],[],[],34⟩ true (.s .p (.j ⟨[(24,.d .str)],[],[2,3,4,5,6,7,8,20,22,23,25],[0],[],37⟩ true (.s .p (.s .p (.s .p (.s (.dr [0,0,0,0,0,0,0,0,0,0,0,0,0,0,0,0,0,0,0,0,0] [] false []) .p)))) .p)))) .p))))))))) λ _=>by kernel_rfl,by kernel_rfl⟩
theorem okN_239:∀n,OKF 239 (cS_239 (eY_ n))
 | 0=>⟨jh_ λ _=>rfl,by kernel_rfl⟩
 | n+1=>okS_239 _ (okN_239 n)
def c_239:Con te:=cS_239 (eY_ BIG)
theorem ok_239:OKF 239 c_239:=okN_239 BIG
def c_171:Con te:=aj_ te [.d (.st 6),.d (.int .i64),.d (.st 10)] [(.str,[]),(.int .i64,[])] false λ a=>do_ a.1 a.2.1 a.2.2.1
theorem ok_171:OKF 171 c_171:=⟨ad_ ag_ (ab_ ok_239 (ab_ ok_170 af_)) Tryz.func171 (by kernel_rfl) (pl := .p) λ _=>by kernel_rfl,by kernel_rfl⟩
def cS_104(rec0:Xj->Xq->Xp->Int->Option ((List Xq)×Int)):Con te:=aj_ te [.d (.st 6),.d (.st 2),.d (.st 10),.d (.int .i64)] [(.sl (.st 2),[]),(.int .i64,[])] true λ a=>rec0 a.1 a.2.1 a.2.2.1 a.2.2.2.1
theorem okS_104(rec0:Xj->Xq->Xp->Int->Option ((List Xq)×Int))(h:OKF 104 (cS_104 rec0)):OKF 104 (cS_104 (c6_ rec0)):=⟨ad_ ag_ (ab_ ok_103 (ab_ ok_171 (ab_ ok_108 (ab_ ok_170 (ab_ h af_))))) Tryz.func104 (by kernel_rfl) (pl := .s .p (.s .p (.s .p (.s .p (.s .p (.s .p (.s .p (.s .p (.s (.lp ⟨[(14,.one (.own 4032)),(15,.one (.own 4033))],[(4032,false,.row 81 (.st 2) []),(4033,false,.row 137 (.st 10) []),(4029,true,.box 135 (.st 9))],[3,4,5,12,16],[0,2],[],4034⟩ ⟨[(14,.one (.own 4032)),(15,.one (.own 4033))],[(4032,false,.row 81 (.st 2) []),(4033,false,.row 137 (.st 10) [])],[3,4,5],[0,2],[],4034⟩ true .p) (.s .p (.s (.s .p (.lp ⟨[(19,.one (.own 4039)),(20,.d (.int .i64))],[(4032,true,.row 81 (.st 2) []),(4033,true,.row 137 (.st 10) []),(4039,false,.row 81 (.st 2) [])],[3,4,14,15],[0],[],4040⟩ ⟨[(19,.one (.own 4039))],[(4039,false,.row 81 (.st 2) [])],[],[],[],4040⟩ true (.s .p (.s (.s (.dr [0,0,0,0,0,0,0,0,0,0,0,0,0,1,4,4,4,4,4] [] false []) .p) .p)))) .p))))))))))) λ _=>by kernel_rfl,by kernel_rfl⟩
theorem okN_104:∀n,OKF 104 (cS_104 (cH_ n))
 | 0=>⟨jh_ λ _=>rfl,by kernel_rfl⟩
 | n+1=>okS_104 _ (okN_104 n)
def c_104:Con te:=cS_104 (cH_ BIG)
theorem ok_104:OKF 104 c_104:=okN_104 BIG
def c_105:Con te:=aj_ te [.d (.sl (.st 2))] [(.sl (.st 2),[])] true λ a=>jl_ a.1
theorem ok_105:OKF 105 c_105:=⟨ad_ ag_ af_ Tryz.func105 (by kernel_rfl) (pl := .s .p (.s .p (.s (.s .p (.lp ⟨[(3,.d (.sl (.st 2))),(4,.d (.int .i64))],[],[0],[],[],3⟩ ⟨[(3,.d (.sl (.st 2)))],[],[],[],[],3⟩ false (.s .p (.s (.s .p (.s (.lp ⟨[(5,.d (.int .i64))],[],[0,3,4],[],[],8⟩ ⟨[(5,.d (.int .i64))],[],[0,3,4],[],[],8⟩ false (.s (.s (.dr [0,0,0,0,0,0,0,0,0,0,0,0,0,0,0,0,0] [] false []) .p) .p)) .p)) .p)))) .p))) λ _=>by kernel_rfl,by kernel_rfl⟩
def c_39:Con te:=aj_ te [.d (.st 6),.d .str] [(.st 3,[]),(.int .i64,[])] true λ a=>eG_ a.1 a.2.1
theorem ok_39:OKF 39 c_39:=⟨ad_ ag_ (ab_ ok_40 (ab_ ok_105 (ab_ ok_104 (ab_ ok_103 (ab_ ok_102 (ab_ ok_101 af_)))))) Tryz.func39 (by kernel_rfl) (pl := .p) λ _=>by kernel_rfl,by kernel_rfl⟩
def c_11:Con te:=aj_ te [.d (.st 8)] [(.bool,[])] false λ a=>h2_ a.1
theorem ok_11:OKF 11 c_11:=⟨ad_ ag_ (ab_ ok_40 (ab_ ok_39 (ab_ ok_38 (ab_ ok_37 af_)))) Tryz.func11 (by kernel_rfl) (pl := .s .p (.s .p (.s (.s .p (.lp ⟨[(26,.d (.int .i64))],[],[1,25],[0],[],10013⟩ ⟨[],[],[],[],[],10013⟩ true (.s .p (.s .p (.s (.s .p (.s .p (.s (.s (.dr [0,0,0,0,0,0,0,0,0,0,0,0,0,0,0,0,0,0,0,0,0,0,0,0] [] false []) .p) .p))) .p))))) .p))) λ _=>by kernel_rfl,by kernel_rfl⟩
def c_75:Con te:=aj_ te [.d .str] [(.bool,[])] false λ a=>eZ_ a.1
theorem ok_75:OKF 75 c_75:=⟨ad_ ag_ af_ Tryz.func75 (by kernel_rfl) (pl := .s .p (.s .p (.s (.s .p (.lp ⟨[(16,.d (.int .i64))],[],[0,15],[],[],4007⟩ ⟨[],[],[],[],[],4007⟩ true .p)) .p))) λ _=>by kernel_rfl,by kernel_rfl⟩
def c_143:Con te:=aj_ te [.mp 154 .str (.int .i64),.d (.sl .str)] [(.int .i64,[])] false λ a=>jm_ a.1 a.2.1
theorem ok_143:OKF 143 c_143:=⟨ad_ ag_ af_ Tryz.func143 (by kernel_rfl) (pl := .s .p (.s (.s .p (.lp ⟨[(9,.d (.int .i64))],[],[0,1,7,8],[0],[],5⟩ ⟨[],[],[],[0],[],5⟩ true .p)) .p)) λ _=>by kernel_rfl,by kernel_rfl⟩
def c_73:Con te:=aj_ te [.d (.sl (.st 0))] [(.int .i64,[])] false λ a=>hg_ a.1
theorem ok_73:OKF 73 c_73:=⟨ad_ ag_ (ab_ ok_143 (ab_ ok_75 af_)) Tryz.func73 (by kernel_rfl) (pl := .s .p (.s .p (.s .p (.s (.s .p (.lp ⟨[(17,.d (.int .i64))],[(4,true,.map 154 .str (.int .i64))],[0,3,4,15,16],[6],[],13⟩ ⟨[],[(4,true,.map 154 .str (.int .i64))],[0,3,4],[6],[],13⟩ false .p)) (.s (.s .p (.lp ⟨[(29,.d (.int .i64))],[(4,true,.map 154 .str (.int .i64)),(6,true,.map 154 .str (.int .i64))],[3,4,27,28],[],[],16⟩ ⟨[],[],[],[],[],16⟩ true .p)) .p))))) λ _=>by kernel_rfl,by kernel_rfl⟩
def c_74:Con te:=aj_ te [.d (.sl (.st 1))] [(.int .i64,[])] false λ a=>gd_ a.1
theorem ok_74:OKF 74 c_74:=⟨ad_ ag_ (ab_ ok_75 af_) Tryz.func74 (by kernel_rfl) (pl := .s .p (.s .p (.s (.s .p (.lp ⟨[(10,.d (.int .i64))],[],[0,8,9],[],[],7⟩ ⟨[],[],[],[],[],7⟩ true (.s .p (.s .p (.s (.s .p (.s .p (.s .p (.s (.dr [0,0,0,0,0,0,0,0,0,0,0,0,0,0] [] false []) .p)))) .p))))) .p))) λ _=>by kernel_rfl,by kernel_rfl⟩
def c_76:Con te:=aj_ te [.d (.sl (.st 0))] [(.sl (.st 0),[some 79])] true λ a=>bj_ a.1
theorem ok_76:OKF 76 c_76:=⟨ad_ ag_ af_ Tryz.func76 (by kernel_rfl) (pl := .p) λ _=>by kernel_rfl,by kernel_rfl⟩
def c_77:Con te:=aj_ te [.d (.sl (.st 1))] [(.sl (.st 1),[some 120])] false λ a=>aV_ a.1
theorem ok_77:OKF 77 c_77:=⟨ad_ ag_ af_ Tryz.func77 (by kernel_rfl) (pl := .p) λ _=>by kernel_rfl,by kernel_rfl⟩
def c_79:Con te:=aj_ te [.d (.int .i64)] [(.int .i64,[])] false λ a=>bE_ a.1
theorem ok_79:OKF 79 c_79:=⟨ad_ ag_ af_ Tryz.func79 (by kernel_rfl) (pl := .p) λ _=>by kernel_rfl,by kernel_rfl⟩
def c_144:Con te:=aj_ te [.d .str] [(.str,[])] false λ a=>ea_ a.1
theorem ok_144:OKF 144 c_144:=⟨ad_ ag_ af_ Tryz.func144 (by kernel_rfl) (pl := .p) λ _=>by kernel_rfl,by kernel_rfl⟩
def c_145:Con te:=aj_ te [.d (.int .i64)] [(.int .i64,[])] false λ a=>fQ_ a.1
theorem ok_145:OKF 145 c_145:=⟨ad_ ag_ af_ Tryz.func145 (by kernel_rfl) (pl := .p) λ _=>by kernel_rfl,by kernel_rfl⟩
def c_78:Con te:=aj_ te [.d .str,.d (.int .i64),.d (.int .i64)] [(.st 3,[none,some 81])] false λ a=>sg_ a.1 a.2.1 a.2.2.1
theorem ok_78:OKF 78 c_78:=⟨ad_ ag_ (ab_ ok_145 (ab_ ok_144 af_)) Tryz.func78 (by kernel_rfl) (pl := .p) λ _=>by kernel_rfl,by kernel_rfl⟩
def c_80:Con te:=aj_ te [.d (.sl .str)] [(.sl .str,[some 9])] false λ a=>bc_ a.1
theorem ok_80:OKF 80 c_80:=⟨ad_ ag_ af_ Tryz.func80 (by kernel_rfl) (pl := .p) λ _=>by kernel_rfl,by kernel_rfl⟩
def c_31:Con te:=aj_ te [.d (.sl (.st 0)),.d (.sl (.st 1)),.d .str,.d (.int .i64)] [(.st 4,[some 79,some 120,none,some 81]),(.int .i64,[])] true λ a=>kH_ a.1 a.2.1 a.2.2.1 a.2.2.2.1
theorem ok_31:OKF 31 c_31:=⟨ad_ ag_ (ab_ ok_80 (ab_ ok_78 (ab_ ok_79 (ab_ ok_77 (ab_ ok_76 (ab_ ok_75 (ab_ ok_74 (ab_ ok_73 af_)))))))) Tryz.func31 (by kernel_rfl) (pl := .s .p (.s .p (.s .p (.s .p (.s .p (.s (.s .p (.lp ⟨[(42,.d (.int .i64))],[(17,true,.row 79 (.st 0) [])],[8,12,41],[0,20,25,28],[],36⟩ ⟨[],[(17,true,.row 79 (.st 0) [])],[8,12],[0,20,25,28],[],36⟩ false (.s .p (.s .p (.s (.s .p (.dr [0,0,0,0,0,0,0,0,0,1,1,4,2] [] false [])) .p))))) .p)))))) λ _=>by kernel_rfl,by kernel_rfl⟩
def c_126:Con te:=aj_ te [.d (.sl (.st 2))] [(.sl (.st 2),[some 81])] false λ a=>bx_ a.1
theorem ok_126:OKF 126 c_126:=⟨ad_ ag_ af_ Tryz.func126 (by kernel_rfl) (pl := .p) λ _=>by kernel_rfl,by kernel_rfl⟩
def c_127:Con te:=aj_ te [.d (.sl (.int .i64))] [(.sl (.int .i64),[some 3])] false λ a=>bS_ a.1
theorem ok_127:OKF 127 c_127:=⟨ad_ ag_ af_ Tryz.func127 (by kernel_rfl) (pl := .p) λ _=>by kernel_rfl,by kernel_rfl⟩
def c_50:Con te:=aj_ te [.d (.st 4)] [(.st 4,[some 79,some 120,none,some 81,some 3])] true λ a=>b6_ a.1
theorem ok_50:OKF 50 c_50:=⟨ad_ ag_ (ab_ ok_127 (ab_ ok_126 (ab_ ok_77 (ab_ ok_80 (ab_ ok_76 af_))))) Tryz.func50 (by kernel_rfl) (pl := .s .p (.s .p (.s .p (.s (.s .p (.lp ⟨[(13,.d (.int .i64))],[(11,true,.row 79 (.st 0) [])],[1,2,3,12],[0,2,5],[],20⟩ ⟨[],[(11,true,.row 79 (.st 0) [])],[1,2,3],[0,2,5],[],20⟩ false (.s .p (.s .p (.s (.s .p (.dr [0,0,0,0,0,0,0,0,0,1,1,4,2] [] false [])) .p))))) .p)))) λ _=>by kernel_rfl,by kernel_rfl⟩
def c_51:Con te:=aj_ te [.d (.int .i64)] [(.st 6,[])] true λ a=>ql_ a.1
theorem ok_51:OKF 51 c_51:=⟨ad_ ag_ af_ Tryz.func51 (by kernel_rfl) (pl := .p) λ _=>by kernel_rfl,by kernel_rfl⟩
def c_20:Con te:=aj_ te [.d (.st 4),.d (.int .i64)] [(.st 8,[])] true λ a=>jn_ a.1 a.2.1
theorem ok_20:OKF 20 c_20:=⟨ad_ ag_ (ab_ ok_51 (ab_ ok_50 af_)) Tryz.func20 (by kernel_rfl) (pl := .p) λ _=>by kernel_rfl,by kernel_rfl⟩
def c_249:Con te:=aj_ te [.d (.st 3),.f1 (.st 2) .bool] [(.int .i64,[])] false λ a=>ni_ a.1 a.2.1
theorem ok_249:OKF 249 c_249:=⟨ad_ ag_ af_ Tryz.func249 (by kernel_rfl) (pl := .s .p (.s (.s .p (.lp ⟨[(10,.d (.int .i64))],[],[1,8,9],[],[],7⟩ ⟨[],[],[],[],[],7⟩ true .p)) .p)) λ _=>by kernel_rfl,by kernel_rfl⟩
def c_250:Con te:=aj_ te [.d (.st 2),.p (.int .i64)] [(.bool,[])] false λ a=>qm_ a.1 a.2.1
theorem ok_250:OKF 250 c_250:=⟨ad_ ag_ af_ Tryz.func250 (by kernel_rfl) (pl := .p) λ _=>by kernel_rfl,by kernel_rfl⟩
def c_184:Con te:=aj_ te [.d (.st 3),.d (.int .i64)] [(.int .i64,[])] false λ a=>c7_ a.1 a.2.1
theorem of_:OKF 184 c_184:=⟨ad_ ag_ (ab_ ok_250 (ab_ ok_249 af_)) Tryz.func184 (by kernel_rfl) (pl := .p) λ _=>by kernel_rfl,by kernel_rfl⟩
def c_114:Con te:=aj_ te [.d (.st 3),.d (.int .i64)] [(.st 2,[]),(.bool,[])] false λ a=>b0_ a.1 a.2.1
theorem k4_:OKF 114 c_114:=⟨ad_ ag_ (ab_ of_ af_) Tryz.func114 (by kernel_rfl) (pl := .p) λ _=>by kernel_rfl,by kernel_rfl⟩
def c_178:Con te:=aj_ te [.d (.st 4),.d .str,.d (.int .i64)] [(.st 2,[]),(.int .i64,[])] false λ a=>cD_ a.1 a.2.1 a.2.2.1
theorem ok_178:OKF 178 c_178:=⟨ad_ ag_ (ab_ k4_ (ab_ ok_75 af_)) Tryz.func178 (by kernel_rfl) (pl := .p) λ _=>by kernel_rfl,by kernel_rfl⟩
def c_118:Con te:=aj_ te [.d (.int .i64),.d (.int .i64)] [(.bool,[])] false λ a=>aq_ a.1 a.2.1
theorem gU_:OKF 118 c_118:=⟨ad_ ag_ af_ Tryz.func118 (by kernel_rfl) (pl := .p) λ _=>by kernel_rfl,by kernel_rfl⟩
def c_129:Con te:=aj_ te [.d (.st 4),.d .str,.d (.int .i64)] [(.st 2,[]),(.int .i64,[])] false λ a=>cz_ a.1 a.2.1 a.2.2.1
theorem ok_129:OKF 129 c_129:=⟨ad_ ag_ (ab_ gU_ (ab_ ok_178 af_)) Tryz.func129 (by kernel_rfl) (pl := .s .p (.s .p (.j ⟨[(9,.d (.int .i64))],[],[6,8],[2,12],[],17⟩ false .p .p))) λ _=>by kernel_rfl,by kernel_rfl⟩
def c_251:Con te:=aj_ te [.d (.sl (.st 0)),.d .str] [(.st 0,[none,none,some 9]),(.bool,[])] false λ a=>i0_ a.1 a.2.1
theorem ok_251:OKF 251 c_251:=⟨ad_ ag_ (ab_ ok_80 af_) Tryz.func251 (by kernel_rfl) (pl := .s .p (.s (.s .p (.lp ⟨[(10,.d (.int .i64))],[],[1,4,8,9],[0],[],6⟩ ⟨[],[],[4],[0],[],6⟩ true .p)) .p)) λ _=>by kernel_rfl,by kernel_rfl⟩
def c_306:Con te:=aj_ te [.d (.sl .str),.d .str] [(.int .i64,[])] false λ a=>eb_ a.1 a.2.1
theorem ok_306:OKF 306 c_306:=⟨ad_ ag_ af_ Tryz.func306 (by kernel_rfl) (pl := .s .p (.s (.s .p (.lp ⟨[(8,.d (.int .i64))],[],[0,1,7],[],[],4⟩ ⟨[],[],[],[],[],4⟩ true .p)) .p)) λ _=>by kernel_rfl,by kernel_rfl⟩
def c_252:Con te:=aj_ te [.d (.sl .str),.d .str] [(.bool,[])] false λ a=>bW_ a.1 a.2.1
theorem ok_252:OKF 252 c_252:=⟨ad_ ag_ (ab_ ok_306 af_) Tryz.func252 (by kernel_rfl) (pl := .p) λ _=>by kernel_rfl,by kernel_rfl⟩
def c_185:Con te:=aj_ te [.d (.sl (.st 0)),.d .str,.d .str] [(.bool,[])] false λ a=>eh_ a.1 a.2.1 a.2.2.1
theorem ok_185:OKF 185 c_185:=⟨ad_ ag_ (ab_ ok_252 (ab_ ok_251 af_)) Tryz.func185 (by kernel_rfl) (pl := .p) λ _=>by kernel_rfl,by kernel_rfl⟩
def c_115:Con te:=aj_ te [.d (.sl (.st 0)),.d .str,.d .str,.d .str,.d (.int .i64),.d (.int .i64)] [(.bool,[])] false λ a=>fc_ a.1 a.2.1 a.2.2.1 a.2.2.2.1 a.2.2.2.2.1 a.2.2.2.2.2.1
theorem ok_115:OKF 115 c_115:=⟨ad_ ag_ (ab_ ok_185 af_) Tryz.func115 (by kernel_rfl) (pl := .s .p (.s .p (.s .p (.j ⟨[(13,.d (.int .i64))],[],[1,2,4,5],[],[],6008⟩ false .p (.j ⟨[(13,.d (.int .i64))],[],[5],[],[],6008⟩ false .p .p))))) λ _=>by kernel_rfl,by kernel_rfl⟩
def c_130:Con te:=aj_ te [.d (.st 4),.d .str,.d (.st 2),.d (.int .i64)] [(.bool,[])] false λ a=>c0_ a.1 a.2.1 a.2.2.1 a.2.2.2.1
theorem ok_130:OKF 130 c_130:=⟨ad_ ag_ (ab_ ok_115 af_) Tryz.func130 (by kernel_rfl) (pl := .p) λ _=>by kernel_rfl,by kernel_rfl⟩
def c_121:Con te:=aj_ te [.d (.int .i64)] [(.bool,[])] false λ a=>bu_ a.1
theorem ok_121:OKF 121 c_121:=⟨ad_ ag_ af_ Tryz.func121 (by kernel_rfl) (pl := .p) λ _=>by kernel_rfl,by kernel_rfl⟩
def c_142:Con te:=aj_ te [.d (.st 3),.d (.int .i64)] [(.int .i64,[])] false λ a=>ge_ a.1 a.2.1
theorem ok_142:OKF 142 c_142:=⟨ad_ ag_ (ab_ ok_121 (ab_ k4_ af_)) Tryz.func142 (by kernel_rfl) (pl := .p) λ _=>by kernel_rfl,by kernel_rfl⟩
def c_264:Con te:=aj_ te [.d (.st 2),.p (.int .i64),.p .str] [(.bool,[])] false λ a=>qn_ a.1 a.2.1 a.2.2.1
theorem ok_264:OKF 264 c_264:=⟨ad_ ag_ af_ Tryz.func264 (by kernel_rfl) (pl := .p) λ _=>by kernel_rfl,by kernel_rfl⟩
def c_195:Con te:=aj_ te [.d (.st 3),.d (.int .i64),.d .str] [(.int .i64,[])] false λ a=>hh_ a.1 a.2.1 a.2.2.1
theorem ok_195:OKF 195 c_195:=⟨ad_ ag_ (ab_ ok_264 (ab_ ok_249 af_)) Tryz.func195 (by kernel_rfl) (pl := .p) λ _=>by kernel_rfl,by kernel_rfl⟩
def c_131:Con te:=aj_ te [.d (.st 3),.d (.int .i64),.d .str] [(.int .i64,[]),(.int .i64,[])] false λ a=>fI_ a.1 a.2.1 a.2.2.1
theorem ok_131:OKF 131 c_131:=⟨ad_ ag_ (ab_ ok_195 (ab_ k4_ (ab_ ok_142 af_))) Tryz.func131 (by kernel_rfl) (pl := .p) λ _=>by kernel_rfl,by kernel_rfl⟩
def c_54:Con te:=aj_ te [.d (.st 4),.d .str,.d (.int .i64),.d .str] [(.int .i64,[]),(.int .i64,[])] false λ a=>eu_ a.1 a.2.1 a.2.2.1 a.2.2.2.1
theorem ok_54:OKF 54 c_54:=⟨ad_ ag_ (ab_ ok_131 (ab_ ok_130 (ab_ ok_129 af_))) Tryz.func54 (by kernel_rfl) (pl := .p) λ _=>by kernel_rfl,by kernel_rfl⟩
def c_128:Con te:=aj_ te [.d (.st 8),.d .str] [(.bool,[])] false λ a=>fv_ a.1 a.2.1
theorem ok_128:OKF 128 c_128:=⟨ad_ ag_ (ab_ ok_54 af_) Tryz.func128 (by kernel_rfl) (pl := .p) λ _=>by kernel_rfl,by kernel_rfl⟩
def c_294:Con te:=aj_ te [.d (.sl (.st 5)),.f1 (.st 5) .bool] [(.int .i64,[])] false λ a=>cE_ a.1 a.2.1
theorem ok_294:OKF 294 c_294:=⟨ad_ ag_ af_ Tryz.func294 (by kernel_rfl) (pl := .s .p (.s (.s .p (.lp ⟨[(8,.d (.int .i64))],[],[0,1,7],[],[],4⟩ ⟨[],[],[],[],[],4⟩ true .p)) .p)) λ _=>by kernel_rfl,by kernel_rfl⟩
def c_295:Con te:=aj_ te [.d (.st 5),.p .str] [(.bool,[])] false λ a=>lk_ a.1 a.2.1
theorem ok_295:OKF 295 c_295:=⟨ad_ ag_ af_ Tryz.func295 (by kernel_rfl) (pl := .p) λ _=>by kernel_rfl,by kernel_rfl⟩
def c_234:Con te:=aj_ te [.d (.st 6),.d .str] [(.int .i64,[])] false λ a=>gf_ a.1 a.2.1
theorem ok_234:OKF 234 c_234:=⟨ad_ ag_ (ab_ ok_295 (ab_ ok_294 af_)) Tryz.func234 (by kernel_rfl) (pl := .p) λ _=>by kernel_rfl,by kernel_rfl⟩
theorem e_356(a:PA te [.d .str]):mB_ a.1=evFun Tryz.prog te eqL (ti 343 (inlF Tryz.prog te eqL tnil Tryz.f343 (.p:Pl)) (ti 368 (inlF Tryz.prog te eqL (ti 365 ip_ tnil) Tryz.f368 (.p:Pl)) (ti 342 (inlF Tryz.prog te eqL (ti 365 ip_ tnil) Tryz.f342 (.p:Pl)) (ti 344 pe_ tnil)))) Tryz.f356 [.d .str] [(.str,[])] (.s .p (.s .p (.s .p (.s .p (.s (.lp ⟨[],[(1,true,.cells 323 [.sbp 1,.own 443]),(443,false,.row 5 (.int .u8) [])],[0,3],[],[],444⟩ ⟨[],[(1,true,.cells 323 [.sbp 1,.own 443]),(443,false,.row 5 (.int .u8) [])],[0,3],[],[],444⟩ false .p) (.s .p (.s (.s .p (.lp ⟨[(5,.d (.int .i64))],[(1,true,.cells 323 [.sbp 1,.own 450]),(450,false,.row 5 (.int .u8) [])],[3,4],[],[],451⟩ ⟨[],[(1,true,.cells 323 [.sbp 1,.own 450]),(450,false,.row 5 (.int .u8) [])],[3],[],[],451⟩ false .p)) .p))))))) a:=by kernel_rfl
def c_356:Con te:=aj_ te [.d .str] [(.str,[])] false λ a=>mB_ a.1
theorem ok_356:OKF 356 c_356:=⟨ad_ ag_ (ti_ok ⟨re_ ag_ af_ Tryz.func343,by kernel_rfl⟩ (ti_ok ⟨re_ ag_ (ti_ok mL_ af_) Tryz.func368,by kernel_rfl⟩ (ti_ok ⟨re_ ag_ (ti_ok mL_ af_) Tryz.func342,by kernel_rfl⟩ (ti_ok wm_ af_)))) Tryz.func356 (by kernel_rfl) e_356,by kernel_rfl⟩
def c_373:Con te:=aj_ te [.d .str] [(.int .u32,[])] false λ a=>nj_ a.1
theorem ok_373:OKF 373 c_373:=⟨ad_ ag_ af_ Tryz.func373 (by kernel_rfl) (pl := .s .p (.s (.dr [0,0,0,0,0,0,0,0,0,0,0,0,0,0,0,0,0,0,0] [] false []) .p)) λ _=>by kernel_rfl,by kernel_rfl⟩
def c_374:Con te:=aj_ te [.d (.int .u32),.d (.int .i64)] [(.int .u32,[])] false λ a=>lF_ a.1 a.2.1
theorem ok_374:OKF 374 c_374:=⟨ad_ ag_ af_ Tryz.func374 (by kernel_rfl) (pl := .p) λ _=>by kernel_rfl,by kernel_rfl⟩
def c_370:Con te:=aj_ te [.d (.int .u32),.d (.int .i64)] [(.int .u32,[])] false λ a=>bg_ a.1 a.2.1
theorem ok_370:OKF 370 c_370:=⟨ad_ ag_ (ab_ ok_374 af_) Tryz.func370 (by kernel_rfl) (pl := .p) λ _=>by kernel_rfl,by kernel_rfl⟩
def c_369:Con te:=aj_ te [.d .str] [(.st 14,[])] false λ a=>ih_ a.1
theorem ok_369:OKF 369 c_369:=⟨ad_ ag_ (ab_ ok_370 (ab_ ok_373 af_)) Tryz.func369 (by kernel_rfl) (pl := .s .p (.s .p (.s (.s .p (.lp ⟨[(9,.d (.int .i64))],[(2,true,.box 353 (.st 14))],[0,2,3],[0],[],5⟩ ⟨[],[(2,true,.box 353 (.st 14))],[2,3],[0],[],5⟩ false (.s .p (.s .p (.j ⟨[],[(2,true,.box 353 (.st 14))],[0,2,3,9],[0],[],6⟩ false (.s .p (.s .p (.s (.dr [0,0,0,0,0,0,0,0,0,0] [] false []) (.s .p (.s .p (.dr [0,0,0,0,0,0,0,0,0,0,0,0,0,0,0,2] [] false [])))))) .p))))) .p))) λ _=>by kernel_rfl,by kernel_rfl⟩
def c_357:Con te:=aj_ te [.d (.st 13),.d .str] [(.st 13,[])] false λ a=>o5_ a.1 a.2.1
theorem ok_357:OKF 357 c_357:=⟨ad_ ag_ (ab_ ok_370 (ab_ ok_369 af_)) Tryz.func357 (by kernel_rfl) (pl := .s .p (.s .p (.s .p (.s (.s .p (.lp ⟨[(20,.d (.int .i64))],[(11,true,.box 337 (.st 13))],[2,4,5,6],[0,2,6],[],16⟩ ⟨[],[(11,true,.box 337 (.st 13))],[2,4,6],[0,2],[],16⟩ false (.s .p (.s .p (.s (.s .p (.s (.dr [0,0,0,0,0,0,0,0,0,0,0,0,0,0,0,0,0,0] [] false []) (.s (.dr [0,0,0,0,0,0,0,0,0,0,0,0,0,0,0,0,0,0,0,0,0,0,0,0,0,0,0,0,0] [] false []) .p))) .p))))) (.s (.s .p (.lp ⟨[(98,.d (.int .i64))],[(0,true,.box 337 (.st 13))],[2,4,6],[2,11],[],17⟩ ⟨[],[(0,true,.box 337 (.st 13))],[2,4],[2],[],17⟩ false (.s .p (.s .p (.s (.s .p (.dr [0,0,0,0,0,0,0,0,2] [] false [])) .p))))) .p))))) λ _=>by kernel_rfl,by kernel_rfl⟩
def c_334:Con te:=aj_ te [.d .str] [(.str,[])] false λ a=>o6_ a.1
theorem ok_334:OKF 334 c_334:=⟨ad_ ag_ (ab_ ok_357 (ab_ ok_356 af_)) Tryz.func334 (by kernel_rfl) (pl := .s .p (.s .p (.s (.s .p (.lp ⟨[(4,.d .str)],[(2,true,.box 337 (.st 13))],[3],[],[],9⟩ ⟨[],[(2,true,.box 337 (.st 13))],[3],[],[],9⟩ false (.s .p (.s (.dr [0,0,0,0,2] [] false []) .p)))) (.s .p (.s (.s .p (.lp ⟨[(5,.one (.own 14)),(21,.d (.int .i64))],[(14,false,.row 5 (.int .u8) [])],[20],[],[],15⟩ ⟨[(5,.one (.own 14))],[(14,false,.row 5 (.int .u8) [])],[],[],[],15⟩ false .p)) .p))))) λ _=>by kernel_rfl,by kernel_rfl⟩
def c_293:Con te:=aj_ te [.d (.int .i64),.d .str] [(.str,[])] false λ a=>lW_ a.1 a.2.1
theorem ok_293:OKF 293 c_293:=⟨ad_ ag_ (ab_ ok_334 af_) Tryz.func293 (by kernel_rfl) (pl := .p) λ _=>by kernel_rfl,by kernel_rfl⟩
def c_233:Con te:=aj_ te [.d (.int .i64),.d .str] [(.st 5,[])] false λ a=>hj_ a.1 a.2.1
theorem ok_233:OKF 233 c_233:=⟨ad_ ag_ (ab_ ok_293 af_) Tryz.func233 (by kernel_rfl) (pl := .p) λ _=>by kernel_rfl,by kernel_rfl⟩
def c_253:Con te:=aj_ te [.d (.st 6),.d .str,.d (.int .i64)] [(.str,[]),(.int .i64,[])] false λ a=>nk_ a.1 a.2.1 a.2.2.1
theorem ok_253:OKF 253 c_253:=⟨ad_ ag_ (ab_ ok_233 (ab_ ok_234 af_)) Tryz.func253 (by kernel_rfl) (pl := .s .p (.s .p (.s (.s .p (.s .p (.s .p (.s .p (.s (.dr [0,0,0,0,0,0,0,0,0,0,0,0,0,0,0] [] false []) .p))))) .p))) λ _=>by kernel_rfl,by kernel_rfl⟩
def c_186:Con te:=aj_ te [.bm 205 (.st 12) [none,none,some 9] false,.d .str,.d (.int .i64)] [(.str,[]),(.int .i64,[])] true λ a=>b7_ a.1 a.2.1 a.2.2.1
theorem ok_186:OKF 186 c_186:=⟨ad_ ag_ (ab_ ok_253 af_) Tryz.func186 (by kernel_rfl) (pl := .s .p (.s .p (.j ⟨[(9,.d (.int .i64))],[],[0,1,8],[0,1],[],16⟩ false .p .p))) λ _=>by kernel_rfl,by kernel_rfl⟩
def c_254:Con te:=aj_ te [.d .str,.d (.int .i64),.d (.int .i64)] [(.int .i64,[]),(.int .i64,[]),(.int .i64,[])] false λ a=>k3_ a.1 a.2.1 a.2.2.1
theorem ok_254:OKF 254 c_254:=⟨ad_ ag_ af_ Tryz.func254 (by kernel_rfl) (pl := .s .p (.s .p (.s .p (.s .p (.s (.s .p (.lp ⟨[(9,.d (.int .u64)),(10,.d (.int .i64))],[],[0,1,2],[],[],11018⟩ ⟨[(9,.d (.int .u64))],[],[1,2],[],[],11018⟩ false .p)) .p))))) λ _=>by kernel_rfl,by kernel_rfl⟩
def c_187:Con te:=aj_ te [.b 209 (.st 15),.d (.int .i64)] [(.int .i64,[])] false λ a=>aw_ a.1 a.2.1
theorem ok_187:OKF 187 c_187:=⟨ad_ ag_ (ab_ ok_254 af_) Tryz.func187 (by kernel_rfl) (pl := .s .p (.s (.dr [0,0,0,0,0,0,0,0,0,0,0,0,0,0,0,0,0] [] false []) .p)) λ _=>by kernel_rfl,by kernel_rfl⟩
def c_307:Con te:=aj_ te [.d .str,.d (.int .i64)] [(.str,[]),(.int .i64,[]),(.int .i64,[])] false λ a=>ii_ a.1 a.2.1
theorem ok_307:OKF 307 c_307:=⟨ad_ ag_ (ab_ ok_254 af_) Tryz.func307 (by kernel_rfl) (pl := .p) λ _=>by kernel_rfl,by kernel_rfl⟩
def c_255:Con te:=aj_ te [.b 209 (.st 15)] [(.str,[])] false λ a=>b8_ a.1
theorem ok_255:OKF 255 c_255:=⟨ad_ ag_ (ab_ ok_307 af_) Tryz.func255 (by kernel_rfl) (pl := .s .p (.s (.dr [0,0,0,0,0,0,0,0,0,0,0,0,0,0,0,0] [] false []) .p)) λ _=>by kernel_rfl,by kernel_rfl⟩
def c_256:Con te:=aj_ te [.b 209 (.st 15)] [(.str,[])] false λ a=>dQ_ a.1
theorem ok_256:OKF 256 c_256:=⟨ad_ ag_ af_ Tryz.func256 (by kernel_rfl) (pl := .s .p (.s (.s (.dr [0,0,0,0,0,0,0,0,0,0,0,0,0,0,0,0,0] [] false []) .p) (.s .p (.s (.dr [0,0,0,0,0,0,0,0,0,0,0,0,0,0,0] [] false []) .p)))) λ _=>by kernel_rfl,by kernel_rfl⟩
def c_188:Con te:=aj_ te [.b 209 (.st 15)] [(.st 16,[])] false λ a=>cl_ a.1
theorem ok_188:OKF 188 c_188:=⟨ad_ ag_ (ab_ ok_256 (ab_ ok_255 (ab_ ok_187 af_))) Tryz.func188 (by kernel_rfl) (pl := .p) λ _=>by kernel_rfl,by kernel_rfl⟩
def c_230:Con te:=aj_ te [.d (.st 2)] [(.bool,[])] false λ a=>ca_ a.1
theorem ok_230:OKF 230 c_230:=⟨ad_ ag_ af_ Tryz.func230 (by kernel_rfl) (pl := .p) λ _=>by kernel_rfl,by kernel_rfl⟩
def c_333:Con te:=aj_ te [.d (.int .i64),.d (.int .i64)] [(.int .i64,[])] false λ a=>ev_ a.1 a.2.1
theorem ok_333:OKF 333 c_333:=⟨ad_ ag_ af_ Tryz.func333 (by kernel_rfl) (pl := .s .p (.s .p (.s (.s .p (.lp ⟨[(5,.d (.int .i64)),(12,.d (.int .i64))],[],[11],[],[],9⟩ ⟨[(5,.d (.int .i64))],[],[],[],[],9⟩ false .p)) .p))) λ _=>by kernel_rfl,by kernel_rfl⟩
def c_291:Con te:=aj_ te [.d (.int .i64)] [(.int .i64,[])] false λ a=>en_ a.1
theorem ok_291:OKF 291 c_291:=⟨ad_ ag_ (ab_ ok_333 af_) Tryz.func291 (by kernel_rfl) (pl := .s .p (.s .p (.s (.lp ⟨[(3,.d (.int .i64))],[],[0],[],[],2⟩ ⟨[(3,.d (.int .i64))],[],[],[],[],2⟩ false .p) .p))) λ _=>by kernel_rfl,by kernel_rfl⟩
def c_308:Con te:=aj_ te [.d (.st 10)] [(.bool,[])] false λ a=>ij_ a.1
theorem ok_308:OKF 308 c_308:=⟨ad_ ag_ (ab_ ok_291 af_) Tryz.func308 (by kernel_rfl) (pl := .s .p (.s (.dr [0,0,0,0,0,0,0,0,0,0,0,0,0,0,0,0,0,0,0,0,0,0,0] [] false []) .p)) λ _=>by kernel_rfl,by kernel_rfl⟩
def c_345:Con te:=aj_ te [.d (.st 18),.d (.int .i64),.d (.int .i64)] [(.int .i64,[])] false λ a=>cm_ a.1 a.2.1 a.2.2.1
theorem ok_345:OKF 345 c_345:=⟨ad_ ag_ (ab_ ok_333 af_) Tryz.func345 (by kernel_rfl) (pl := .p) λ _=>by kernel_rfl,by kernel_rfl⟩
def c_346:Con te:=aj_ te [.d (.int .i64)] [(.int .i64,[])] false λ a=>ct_ a.1
theorem ok_346:OKF 346 c_346:=⟨ad_ ag_ af_ Tryz.func346 (by kernel_rfl) (pl := .s .p (.s .p (.s (.s .p (.lp ⟨[(3,.d (.int .i64)),(5,.d (.int .i64))],[],[4],[],[],4⟩ ⟨[(3,.d (.int .i64))],[],[],[],[],4⟩ false .p)) .p))) λ _=>by kernel_rfl,by kernel_rfl⟩
def cS_309(rec0:Xg->Zz->Str->Int->Int->Option (Str×Int×Xg)):Con te:=aj_ te [.bm 205 (.st 12) [none,none,some 9] false,.d (.st 18),.d .str,.d (.int .i64),.d (.int .i64)] [(.str,[]),(.int .i64,[])] true λ a=>rec0 a.1 a.2.1 a.2.2.1 a.2.2.2.1 a.2.2.2.2.1
theorem okS_309(rec0:Xg->Zz->Str->Int->Int->Option (Str×Int×Xg))(h:OKF 309 (cS_309 rec0)):OKF 309 (cS_309 (cn_ rec0)):=⟨ad_ ag_ (ab_ ok_346 (ab_ ok_345 (ab_ ok_186 (ab_ h af_)))) Tryz.func309 (by kernel_rfl) (pl := .s .p (.s .p (.j ⟨[(12,.d (.int .i64))],[],[0,2,3,4,6],[0,1,2],[],7⟩ false .p (.s .p (.s .p (.s .p (.s .p (.s .p (.s .p (.s (.s .p (.lp ⟨[(16,.d .str),(66,.d (.int .i64))],[(0,true,.cells 205 [.v (.int .i64),.v (.sl (.st 5)),.own 41]),(41,false,.row 9 .str [])],[0,3,4,6,13,65],[2],[],42⟩ ⟨[(16,.d .str)],[(0,true,.cells 205 [.v (.int .i64),.v (.sl (.st 5)),.own 41]),(41,false,.row 9 .str [])],[],[],[],42⟩ true (.s .p (.s .p (.j ⟨[(16,.d .str)],[(0,true,.cells 205 [.v (.int .i64),.v (.sl (.st 5)),.own 43]),(43,false,.row 9 .str [])],[0,3,4,6,13,65,66],[2],[],44⟩ true (.s .p (.s .p (.s .p (.s (.s (.dr [0,0,0,0,0,0,0,0,0,0,0,0,0,0] [] false []) .p) (.s (.dr [0,0,0,0,0,0,0,0,0,0,0,0,2,4,4,4,4,4] [] false []) .p))))) .p))))) .p)))))))))) λ _=>by kernel_rfl,by kernel_rfl⟩
theorem okN_309:∀n,OKF 309 (cS_309 (bT_ n))
 | 0=>⟨jh_ λ _=>rfl,by kernel_rfl⟩
 | n+1=>okS_309 _ (okN_309 n)
def c_309:Con te:=cS_309 (bT_ BIG)
theorem ok_309:OKF 309 c_309:=okN_309 BIG
def c_257:Con te:=aj_ te [.bm 205 (.st 12) [none,none,some 9] false,.d (.st 10),.d (.int .i64)] [(.str,[]),(.int .i64,[])] true λ a=>de_ a.1 a.2.1 a.2.2.1
theorem ok_257:OKF 257 c_257:=⟨ad_ ag_ (ab_ ok_309 (ab_ ok_186 (ab_ ok_308 af_))) Tryz.func257 (by kernel_rfl) (pl := .s .p (.s .p (.s (.s .p (.s (.s .p (.j ⟨[(9,.d (.int .i64))],[],[],[0,16],[],26⟩ false .p .p)) .p)) .p))) λ _=>by kernel_rfl,by kernel_rfl⟩
def c_258:Con te:=aj_ te [.d .str] [(.sl (.st 16),[some 184]),(.bool,[])] false λ a=>gw_ a.1
theorem ok_258:OKF 258 c_258:=⟨ad_ ag_ (ab_ ok_188 af_) Tryz.func258 (by kernel_rfl) (pl := .s .p (.s .p (.s .p (.s (.lp ⟨[(5,.one (.own 8))],[(4,true,.box 209 (.st 15)),(8,false,.row 184 (.st 16) [])],[0,4],[],[],9⟩ ⟨[(5,.one (.own 8))],[(4,true,.box 209 (.st 15)),(8,false,.row 184 (.st 16) [])],[4],[],[],9⟩ false .p) (.s (.dr [0,0,0,0,0,0,0,0] [] false []) .p))))) λ _=>by kernel_rfl,by kernel_rfl⟩
def c_310:Con te:=aj_ te [.d (.sl (.st 16)),.f1 (.st 16) .bool] [(.int .i64,[])] false λ a=>bZ_ a.1 a.2.1
theorem ok_310:OKF 310 c_310:=⟨ad_ ag_ af_ Tryz.func310 (by kernel_rfl) (pl := .s .p (.s (.s .p (.lp ⟨[(8,.d (.int .i64))],[],[0,1,7],[],[],4⟩ ⟨[],[],[],[],[],4⟩ true .p)) .p)) λ _=>by kernel_rfl,by kernel_rfl⟩
def c_259:Con te:=aj_ te [.d (.sl (.st 16)),.f1 (.st 16) .bool] [(.bool,[])] false λ a=>aK_ a.1 a.2.1
theorem ok_259:OKF 259 c_259:=⟨ad_ ag_ (ab_ ok_310 af_) Tryz.func259 (by kernel_rfl) (pl := .p) λ _=>by kernel_rfl,by kernel_rfl⟩
def c_260:Con te:=aj_ te [.d (.st 16),.p (.st 16)] [(.bool,[])] false λ a=>cq_ a.1 a.2.1
theorem ok_260:OKF 260 c_260:=⟨ad_ ag_ af_ Tryz.func260 (by kernel_rfl) (pl := .p) λ _=>by kernel_rfl,by kernel_rfl⟩
def cS_189(rec0:Xe->Xg->Xr->Option (Int×Xe×Xg)):Con te:=aj_ te [.bm 213 (.st 17) [some 81] true,.bm 205 (.st 12) [none,none,some 9] false,.d (.st 16)] [(.int .i64,[])] true λ a=>rec0 a.1 a.2.1 a.2.2.1
theorem okS_189(rec0:Xe->Xg->Xr->Option (Int×Xe×Xg))(h:OKF 189 (cS_189 rec0)):OKF 189 (cS_189 (bp_ rec0)):=⟨ad_ ag_ (ab_ ok_260 (ab_ ok_259 (ab_ ok_258 (ab_ ok_257 (ab_ ok_230 (ab_ h af_)))))) Tryz.func189 (by kernel_rfl) (pl := .s .p (.s (.s (.dr [0,0,0,0,0,0,0,0,0,0] [] false []) .p) (.s .p (.j ⟨[(5,.d (.int .i64))],[],[0,3],[0,1,2,3,4],[],18⟩ false .p (.s (.dr [0,0,0,0,0,0,0,2,4,4,4,4,4] [] false []) (.s .p (.s (.s .p (.s (.s .p (.s (.dr [4,0,0,0,0,0,0,1,2,4,4,2] [0,1,2,3,4,5,6] false []) .p)) .p)) (.s (.dr [4,0,0,0,0,0,0,1,2,4,4,2] [0,1,2,3,4,5,6] false []) (.s .p (.s .p (.s (.s .p (.lp ⟨[(83,.d (.int .i64))],[(0,true,.cells 213 [.ptr 2,.own 4072,.v (.int .i64)]),(2,true,.cells 205 [.v (.int .i64),.v (.sl (.st 5)),.own 4071]),(4071,false,.row 9 .str []),(4072,false,.row 81 (.st 2) []),(58,true,.row 184 (.st 16) [])],[0,81,82],[],[],4073⟩ ⟨[],[(0,true,.cells 213 [.ptr 2,.own 4072,.v (.int .i64)]),(2,true,.cells 205 [.v (.int .i64),.v (.sl (.st 5)),.own 4071]),(4071,false,.row 9 .str []),(4072,false,.row 81 (.st 2) [])],[],[],[],4073⟩ true .p)) .p))))))))))) λ _=>by kernel_rfl,by kernel_rfl⟩
theorem okN_189:∀n,OKF 189 (cS_189 (aS_ n))
 | 0=>⟨jh_ λ _=>rfl,by kernel_rfl⟩
 | n+1=>okS_189 _ (okN_189 n)
def c_189:Con te:=cS_189 (aS_ BIG)
theorem ok_189:OKF 189 c_189:=okN_189 BIG
def c_193:Con te:=aj_ te [.d (.int .i64)] [(.bool,[])] false λ a=>hk_ a.1
theorem ok_193:OKF 193 c_193:=⟨ad_ ag_ af_ Tryz.func193 (by kernel_rfl) (pl := .s .p (.s .p (.s (.s .p (.j ⟨[(9,.d .bool)],[],[],[],[],7⟩ false .p .p)) .p))) λ _=>by kernel_rfl,by kernel_rfl⟩
def c_120:Con te:=aj_ te [.d (.st 2)] [(.bool,[])] false λ a=>jo_ a.1
theorem ok_120:OKF 120 c_120:=⟨ad_ ag_ (ab_ ok_121 (ab_ ok_145 (ab_ ok_193 af_))) Tryz.func120 (by kernel_rfl) (pl := .s .p (.s (.s (.dr [0,0,0,0,0,0,0,0,0,0,0,0,0,0,0,0,0,0,0,0,0,0,0,0,0,0,0,0,0,0] [] false []) .p) .p)) λ _=>by kernel_rfl,by kernel_rfl⟩
def c_122:Con te:=aj_ te [.d .str] [(.bool,[])] false λ a=>cI_ a.1
theorem og_:OKF 122 c_122:=⟨ad_ ag_ af_ Tryz.func122 (by kernel_rfl) (pl := .s .p (.s .p (.s (.s .p (.lp ⟨[(21,.d (.int .i64))],[],[0,20],[],[],10009⟩ ⟨[],[],[],[],[],10009⟩ true .p)) .p))) λ _=>by kernel_rfl,by kernel_rfl⟩
def c_47:Con te:=aj_ te [.d (.st 3)] [(.bool,[])] false λ a=>dD_ a.1
theorem ok_47:OKF 47 c_47:=⟨ad_ ag_ (ab_ og_ (ab_ ok_121 (ab_ ok_120 af_))) Tryz.func47 (by kernel_rfl) (pl := .s .p (.s .p (.s .p (.s (.s .p (.lp ⟨[(27,.d (.int .i64))],[(9009,true,.map 155 (.int .i64) (.int .i64)),(9011,true,.map 156 (.st 19) (.int .i64))],[1,3,4,25,26],[0],[],9019⟩ ⟨[],[],[],[],[],9019⟩ true (.s .p (.s .p (.j ⟨[],[(9009,true,.map 155 (.int .i64) (.int .i64)),(9011,true,.map 156 (.st 19) (.int .i64))],[1,3,4,25,26,27],[0],[],9020⟩ true (.s .p (.s (.s (.dr [0,0,0,0,0,0,0,0,0,0,0,0,0,0,0,0,0,0,0,0,0,0,0,0,0,0] [] false []) .p) (.j ⟨[],[],[1,3,4,5,6,25,26,27],[0,9009,9011,9023],[],30033⟩ true .p (.j ⟨[],[(9011,true,.map 156 (.st 19) (.int .i64))],[1,3,4,6,25,26,27],[0,9009,9023],[],30033⟩ false (.s .p (.s (.ot 6 (.alt 6 (.free 7 (.alt 8 (.free 9 (.alt 10 .nil .nil)) .nil)) (.alt 8 (.free 9 (.alt 6 (.free 7 (.alt 10 .nil .nil)) .nil)) .nil))) .p)) .p)))) .p))))) .p)))) λ _=>by kernel_rfl,by kernel_rfl⟩
def c_117:Con te:=aj_ te [.bm 205 (.st 12) [none,none,some 9] false,.d .str] [(.st 3,[none,some 81]),(.int .i64,[])] true λ a=>bU_ a.1 a.2.1
theorem ok_117:OKF 117 c_117:=⟨ad_ ag_ (ab_ ok_47 (ab_ ok_189 (ab_ ok_188 (ab_ ok_187 (ab_ ok_186 (ti_ok sk_ af_)))))) Tryz.func117 (by kernel_rfl) (pl := .p) λ _=>by kernel_rfl,by kernel_rfl⟩
theorem e_44(a:PA te [.d (.st 6),.d .str]):bK_ a.1 a.2.1=evFun Tryz.prog te eqL (ti 116 (inlF Tryz.prog te eqL tnil Tryz.f116 (.p:Pl)) (tb 117 c_117 tnil)) Tryz.f44 [.d (.st 6),.d .str] [(.st 3,[none,some 81]),(.int .i64,[])] (.p:Pl) a:=by kernel_rfl
def c_44:Con te:=aj_ te [.d (.st 6),.d .str] [(.st 3,[none,some 81]),(.int .i64,[])] false λ a=>bK_ a.1 a.2.1
theorem ok_44:OKF 44 c_44:=⟨ad_ ag_ (ti_ok ⟨re_ ag_ af_ Tryz.func116,by kernel_rfl⟩ (ab_ ok_117 af_)) Tryz.func44 (by kernel_rfl) e_44,by kernel_rfl⟩
def c_61:Con te:=aj_ te [.d (.st 8),.d (.int .i64)] [(.st 11,[]),(.bool,[])] true λ a=>db_ a.1 a.2.1
theorem ok_61:OKF 61 c_61:=⟨ad_ ag_ (ab_ k4_ (ab_ ok_44 af_)) Tryz.func61 (by kernel_rfl) (pl := .s .p (.s .p (.s .p (.s .p (.s .p (.j ⟨[],[(10022,true,.cells 96 [.v (.sl (.st 0)),.v (.sl (.st 1)),.v (.int .i64),.v (.sl (.st 2)),.v (.sl (.int .i64)),.v (.int .i64),.v (.int .i64)])],[4,7,8],[2],[],10026⟩ true (.s .p (.s (.s (.df [0,0,0,0,0,0,0,0,0,1,4,4,4,1,2,4] [] 4) .p) .p)) .p)))))) λ _=>by kernel_rfl,by kernel_rfl⟩
def c_53:Con te:=aj_ te [.d (.st 8),.d .str,.d (.int .i64)] [(.st 11,[]),(.int .i64,[])] true λ a=>bX_ a.1 a.2.1 a.2.2.1
theorem ok_53:OKF 53 c_53:=⟨ad_ ag_ (ab_ ok_61 (ab_ ok_128 af_)) Tryz.func53 (by kernel_rfl) (pl := .p) λ _=>by kernel_rfl,by kernel_rfl⟩
def c_161:Con te:=aj_ te [.d (.sl (.st 5))] [(.sl (.st 5),[some 83])] false λ a=>aW_ a.1
theorem ok_161:OKF 161 c_161:=⟨ad_ ag_ af_ Tryz.func161 (by kernel_rfl) (pl := .p) λ _=>by kernel_rfl,by kernel_rfl⟩
def c_162:Con te:=aj_ te [.d (.sl (.st 7))] [(.sl (.st 7),[some 39])] false λ a=>b1_ a.1
theorem ok_162:OKF 162 c_162:=⟨ad_ ag_ af_ Tryz.func162 (by kernel_rfl) (pl := .p) λ _=>by kernel_rfl,by kernel_rfl⟩
def c_96:Con te:=aj_ te [.d (.st 8)] [(.st 8,[some 79,some 120,none,some 81,some 3,none,some 83,some 39])] true λ a=>ar_ a.1
theorem ok_96:OKF 96 c_96:=⟨ad_ ag_ (ab_ ok_162 (ab_ ok_161 (ab_ ok_50 af_))) Tryz.func96 (by kernel_rfl) (pl := .s .p (.s (.dr [0,0,1,0,0,0,0,0,0,1,4,0,0,1,4,2] [3,6,11,4,7,12,5,8] false []) .p)) λ _=>by kernel_rfl,by kernel_rfl⟩
def c_173:Con te:=aj_ te [.d (.st 4)] [(.st 4,[some 79,some 120,none,some 81,some 3])] true λ a=>cb_ a.1
theorem oh_:OKF 173 c_173:=⟨ad_ ag_ (ab_ ok_127 (ab_ ok_77 (ab_ ok_126 (ab_ ok_80 (ab_ ok_76 af_))))) Tryz.func173 (by kernel_rfl) (pl := .s .p (.s .p (.s (.s .p (.lp ⟨[(11,.d (.int .i64))],[(6,true,.row 79 (.st 0) [])],[1,2,3,10],[0,2],[],12⟩ ⟨[],[(6,true,.row 79 (.st 0) [])],[1,2,3],[0,2],[],12⟩ false .p)) (.s (.df [0,0,0,0,0,0,1,4,1,2] [] 2) (.s (.dr [0,0,0,1,0,0,0,1,4,2] [4,5,6] false []) .p))))) λ _=>by kernel_rfl,by kernel_rfl⟩
def c_240:Con te:=aj_ te [.d (.int .i64)] [(.bool,[])] false λ a=>c9_ a.1
theorem ok_240:OKF 240 c_240:=⟨ad_ ag_ af_ Tryz.func240 (by kernel_rfl) (pl := .p) λ _=>by kernel_rfl,by kernel_rfl⟩
def c_183:Con te:=aj_ te [.d (.int .i64),.d (.int .i64)] [(.bool,[])] false λ a=>iD_ a.1 a.2.1
theorem ok_183:OKF 183 c_183:=⟨ad_ ag_ af_ Tryz.func183 (by kernel_rfl) (pl := .p) λ _=>by kernel_rfl,by kernel_rfl⟩
def c_113:Con te:=aj_ te [.d (.int .i64)] [(.int .i64,[]),(.int .i64,[])] false λ a=>cP_ a.1
theorem ok_113:OKF 113 c_113:=⟨ad_ ag_ (ab_ ok_183 af_) Tryz.func113 (by kernel_rfl) (pl := .s .p (.s .p (.j ⟨[(4,.d (.int .i64))],[],[0],[],[],4⟩ false .p (.j ⟨[(4,.d (.int .i64))],[],[0],[],[],4⟩ false .p (.s .p (.s .p (.j ⟨[(5,.d (.int .i64))],[],[],[],[],3014⟩ false .p .p))))))) λ _=>by kernel_rfl,by kernel_rfl⟩
def c_298:Con te:=aj_ te [.d (.sl (.st 1)),.d .str] [(.st 1,[]),(.bool,[])] false λ a=>o7_ a.1 a.2.1
theorem ok_298:OKF 298 c_298:=⟨ad_ ag_ af_ Tryz.func298 (by kernel_rfl) (pl := .s .p (.s (.s .p (.lp ⟨[(10,.d (.int .i64))],[],[1,4,8,9],[0],[],6⟩ ⟨[],[],[4],[0],[],6⟩ true .p)) .p)) λ _=>by kernel_rfl,by kernel_rfl⟩
def c_299:Con te:=aj_ te [.d (.st 3),.d .str] [(.int .i64,[]),(.int .i64,[])] false λ a=>lX_ a.1 a.2.1
theorem ok_299:OKF 299 c_299:=⟨ad_ ag_ af_ Tryz.func299 (by kernel_rfl) (pl := .s .p (.s .p (.s (.s .p (.lp ⟨[(6,.d (.int .i64)),(7,.d (.int .i64)),(13,.d (.int .i64))],[],[1,11,12],[],[],10⟩ ⟨[(6,.d (.int .i64)),(7,.d (.int .i64))],[],[],[],[],10⟩ false (.s .p (.s .p (.j ⟨[(6,.d (.int .i64)),(7,.d (.int .i64))],[],[1,11,12,13],[],[],11⟩ false .p .p))))) .p))) λ _=>by kernel_rfl,by kernel_rfl⟩
def c_241:Con te:=aj_ te [.d (.sl (.st 1)),.d (.st 3),.d .str,.d (.int .i64),.d (.int .i64)] [(.bool,[])] false λ a=>hl_ a.1 a.2.1 a.2.2.1 a.2.2.2.1 a.2.2.2.2.1
theorem ok_241:OKF 241 c_241:=⟨ad_ ag_ (ab_ ok_299 (ab_ ok_298 af_)) Tryz.func241 (by kernel_rfl) (pl := .p) λ _=>by kernel_rfl,by kernel_rfl⟩
def c_174:Con te:=aj_ te [.d (.st 4),.d .str,.d (.st 2),.d .str,.d (.int .i64),.d (.int .i64)] [(.int .i64,[])] false λ a=>eH_ a.1 a.2.1 a.2.2.1 a.2.2.2.1 a.2.2.2.2.1 a.2.2.2.2.2.1
theorem ok_174:OKF 174 c_174:=⟨ad_ ag_ (ab_ ok_241 (ab_ ok_131 (ab_ ok_130 (ab_ gU_ (ab_ ok_113 (ab_ ok_240 (ab_ og_ af_))))))) Tryz.func174 (by kernel_rfl) (pl := .p) λ _=>by kernel_rfl,by kernel_rfl⟩
def c_175:Con te:=aj_ te [.d (.int .i64),.d (.int .i64)] [(.int .i64,[])] false λ a=>ew_ a.1 a.2.1
theorem ok_175:OKF 175 c_175:=⟨ad_ ag_ (ab_ ok_183 af_) Tryz.func175 (by kernel_rfl) (pl := .s .p (.s .p (.s .p (.j ⟨[(5,.d (.int .i64))],[],[0,1],[],[],3005⟩ false .p .p)))) λ _=>by kernel_rfl,by kernel_rfl⟩
def c_242:Con te:=aj_ te [.d (.st 3)] [(.st 3,[none,some 81])] false λ a=>aE_ a.1
theorem oi_:OKF 242 c_242:=⟨ad_ ag_ af_ Tryz.func242 (by kernel_rfl) (pl := .p) λ _=>by kernel_rfl,by kernel_rfl⟩
def c_243:Con te:=aj_ te [.l (.st 3) [none,some 81],.d (.int .i64),.d .str,.d (.int .i64)] [] false λ a=>c1_ a.1 a.2.1 a.2.2.1 a.2.2.2.1
theorem ok_243:OKF 243 c_243:=⟨ad_ ag_ (ab_ ok_144 (ab_ ok_145 af_)) Tryz.func243 (by kernel_rfl) (pl := .s .p (.s .p (.s .p (.j ⟨[],[(0,true,.row 81 (.st 2) [(6,8)])],[2,3,8],[],[6],18⟩ false .p .p)))) λ _=>by kernel_rfl,by kernel_rfl⟩
def c_176:Con te:=aj_ te [.d (.st 3),.d (.int .i64),.d .str,.d (.int .i64),.d .str,.d .str,.d (.int .i64)] [(.st 3,[none,some 81]),(.int .i64,[]),(.int .i64,[])] false λ a=>h3_ a.1 a.2.1 a.2.2.1 a.2.2.2.1 a.2.2.2.2.1 a.2.2.2.2.2.1 a.2.2.2.2.2.2.1
theorem ok_176:OKF 176 c_176:=⟨ad_ ag_ (ab_ ok_144 (ab_ ok_145 (ab_ ok_243 (ab_ of_ (ab_ ok_195 (ab_ ok_193 (ab_ og_ (ab_ oi_ (ab_ ok_142 af_))))))))) Tryz.func176 (by kernel_rfl) (pl := .s .p (.s .p (.s .p (.s .p (.s (.dr [0,0,0,0,0,0,2] [] false []) (.s .p (.s (.dr [0,0,0,0,0,0,0,0,0,0,0,0,0,0,0,0,1,2,4,2] [] false []) (.s .p (.s (.dr [0,0,0,1,4,4] [] true [2]) .p))))))))) λ _=>by kernel_rfl,by kernel_rfl⟩
def c_263:Con te:=aj_ te [.d (.int .i64)] [(.bool,[])] false λ a=>cmp_isNaN_int a.1
theorem ok_263:OKF 263 c_263:=⟨ad_ ag_ af_ Tryz.func263 (by kernel_rfl) (pl := .p) λ _=>by kernel_rfl,by kernel_rfl⟩
def c_300:Con te:=aj_ te [.d (.int .i64),.d (.int .i64)] [(.bool,[])] false λ a=>cmp_Less_int a.1 a.2.1
theorem ok_300:OKF 300 c_300:=⟨ad_ ag_ (ab_ ok_263 af_) Tryz.func300 (by kernel_rfl) (pl := .p) λ _=>by kernel_rfl,by kernel_rfl⟩
def c_301:Con te:=aj_ te [.d (.int .i64)] [(.bool,[])] false λ a=>cM_ a.1
theorem ok_301:OKF 301 c_301:=⟨ad_ ag_ af_ Tryz.func301 (by kernel_rfl) (pl := .p) λ _=>by kernel_rfl,by kernel_rfl⟩
def c_244:Con te:=aj_ te [.d (.sl (.int .i64)),.d (.int .i64)] [(.int .i64,[]),(.bool,[])] false λ a=>bF_ a.1 a.2.1
theorem ok_244:OKF 244 c_244:=⟨ad_ ag_ (ab_ ok_301 (ab_ ok_300 af_)) Tryz.func244 (by kernel_rfl) (pl := .s .p (.s .p (.s .p (.s (.lp ⟨[(7,.d (.int .i64)),(8,.d (.int .i64))],[],[0,1,6],[],[],8⟩ ⟨[(7,.d (.int .i64))],[],[0,1,6],[],[],8⟩ false .p) .p)))) λ _=>by kernel_rfl,by kernel_rfl⟩
def c_177:Con te:=aj_ te [.d (.st 4),.d (.int .i64)] [(.st 4,[])] true λ a=>ex_ a.1 a.2.1
theorem ok_177:OKF 177 c_177:=⟨ad_ ag_ (ab_ pd_ (ab_ ok_127 (ab_ ok_244 af_))) Tryz.func177 (by kernel_rfl) (pl := .s .p (.j ⟨[],[(0,true,.cells 29 [.v (.sl (.st 0)),.v (.sl (.st 1)),.v (.int .i64),.v (.sl (.st 2)),.v (.sl (.int .i64))])],[2,4],[2],[],4⟩ false .p .p)) λ _=>by kernel_rfl,by kernel_rfl⟩
def c_109:Con te:=aj_ te [.d (.st 4),.d .str,.d (.int .i64),.d .str,.d (.int .i64),.d (.int .i64),.d (.int .i64)] [(.st 4,[]),(.int .i64,[]),(.int .i64,[])] true λ a=>eo_ a.1 a.2.1 a.2.2.1 a.2.2.2.1 a.2.2.2.2.1 a.2.2.2.2.2.1 a.2.2.2.2.2.2.1
theorem ok_109:OKF 109 c_109:=⟨ad_ ag_ (ab_ ok_177 (ab_ gU_ (ab_ ok_176 (ab_ ok_79 (ab_ ok_175 (ab_ ok_174 (ab_ ok_129 (ab_ oh_ af_)))))))) Tryz.func109 (by kernel_rfl) (pl := .s .p (.s .p (.s .p (.j ⟨[(19,.d (.int .i64))],[],[1,2,3,4,6,14,17,18],[2,7,8,9,10,12,23],[],28⟩ false .p (.s .p (.s .p (.s (.df [0,0,0,0,0,0,0,0,0,0,1,4,4,4,4,1,2,4,4] [] 5) (.s .p (.s .p (.j ⟨[],[(12,true,.cells 29 [.v (.sl (.st 0)),.v (.sl (.st 1)),.v (.int .i64),.v (.sl (.st 2)),.v (.sl (.int .i64))])],[14,17,22],[2],[],67⟩ false .p .p)))))))))) λ _=>by kernel_rfl,by kernel_rfl⟩
def c_110:Con te:=aj_ te [.d (.st 8),.d (.st 4)] [(.st 8,[none,none,none,none,none,none,some 83,some 39])] true λ a=>cc_ a.1 a.2.1
theorem oj_:OKF 110 c_110:=⟨ad_ ag_ (ab_ ok_96 af_) Tryz.func110 (by kernel_rfl) (pl := .p) λ _=>by kernel_rfl,by kernel_rfl⟩
def c_41:Con te:=aj_ te [.d (.st 8),.d .str,.d (.int .i64),.d .str,.d (.int .i64),.d (.int .i64),.d (.int .i64)] [(.st 8,[none,none,none,none,none,none,some 83,some 39]),(.int .i64,[]),(.int .i64,[])] true λ a=>c8_ a.1 a.2.1 a.2.2.1 a.2.2.2.1 a.2.2.2.2.1 a.2.2.2.2.2.1 a.2.2.2.2.2.2.1
theorem ok_41:OKF 41 c_41:=⟨ad_ ag_ (ab_ oj_ (ab_ ok_109 (ab_ ok_96 (ab_ ok_53 af_)))) Tryz.func41 (by kernel_rfl) (pl := .p) λ _=>by kernel_rfl,by kernel_rfl⟩
def c_62:Con te:=aj_ te [.d (.st 11)] [(.bool,[])] false λ a=>cw_ a.1
theorem ok_62:OKF 62 c_62:=⟨ad_ ag_ (ab_ k4_ af_) Tryz.func62 (by kernel_rfl) (pl := .p) λ _=>by kernel_rfl,by kernel_rfl⟩
def c_179:Con te:=aj_ te [.d (.st 4),.d (.st 2),.d (.int .i64)] [(.bool,[])] false λ a=>eI_ a.1 a.2.1 a.2.2.1
theorem ok_179:OKF 179 c_179:=⟨ad_ ag_ (ab_ ok_241 af_) Tryz.func179 (by kernel_rfl) (pl := .p) λ _=>by kernel_rfl,by kernel_rfl⟩
def c_197:Con te:=aj_ te [.d (.st 3),.d (.int .i64)] [(.int .i64,[]),(.int .i64,[])] false λ a=>i1_ a.1 a.2.1
theorem ok_197:OKF 197 c_197:=⟨ad_ ag_ (ab_ ok_121 (ab_ of_ af_)) Tryz.func197 (by kernel_rfl) (pl := .p) λ _=>by kernel_rfl,by kernel_rfl⟩
def c_246:Con te:=aj_ te [.d (.int .i64)] [(.bool,[])] false λ a=>mC_ a.1
theorem ok_246:OKF 246 c_246:=⟨ad_ ag_ af_ Tryz.func246 (by kernel_rfl) (pl := .p) λ _=>by kernel_rfl,by kernel_rfl⟩
def c_247:Con te:=aj_ te [.d .str,.d (.int .i64)] [(.str,[])] false λ a=>mD_ a.1 a.2.1
theorem ok_247:OKF 247 c_247:=⟨ad_ ag_ (ab_ oc_ af_) Tryz.func247 (by kernel_rfl) (pl := .p) λ _=>by kernel_rfl,by kernel_rfl⟩
def c_180:Con te:=aj_ te [.d (.st 3),.d (.int .i64),.d (.int .i64),.d .str,.d .str,.d (.int .i64)] [(.st 3,[none,some 81]),(.int .i64,[]),(.int .i64,[])] false λ a=>jp_ a.1 a.2.1 a.2.2.1 a.2.2.2.1 a.2.2.2.2.1 a.2.2.2.2.2.1
theorem ok_180:OKF 180 c_180:=⟨ad_ ag_ (ab_ ok_243 (ab_ ok_247 (ab_ ok_246 (ab_ oi_ (ab_ ok_197 af_))))) Tryz.func180 (by kernel_rfl) (pl := .s .p (.s .p (.s .p (.s .p (.s .p (.s .p (.j ⟨[(2,.d (.int .i64))],[],[3,4,5,6,12,15,17],[0,2],[],27⟩ false .p (.s .p (.s .p (.s (.dr [0,0,0,0,0,0,0,0,0,0,0,0,0,0,0,0,0,0,0,0,2] [] false []) .p)))))))))) λ _=>by kernel_rfl,by kernel_rfl⟩
def c_111:Con te:=aj_ te [.d (.st 4),.d .str,.d (.int .i64),.d (.int .i64),.d .str,.d (.int .i64)] [(.st 4,[some 79,some 120,none,some 81,some 3]),(.int .i64,[]),(.int .i64,[])] true λ a=>eJ_ a.1 a.2.1 a.2.2.1 a.2.2.2.1 a.2.2.2.2.1 a.2.2.2.2.2.1
theorem ok_111:OKF 111 c_111:=⟨ad_ ag_ (ab_ ok_180 (ab_ ok_79 (ab_ ok_179 (ab_ gU_ (ab_ ok_178 (ab_ oh_ af_)))))) Tryz.func111 (by kernel_rfl) (pl := .s .p (.s .p (.s .p (.s .p (.j ⟨[(3,.d (.int .i64))],[],[1,2,4,5,6,12,15,16],[0,2,7,8,9,10,12,23],[],41⟩ false .p (.s .p (.s .p (.s (.df [0,0,0,0,0,0,0,0,1,4,4,4,4,1,2,4,4] [] 5) .p)))))))) λ _=>by kernel_rfl,by kernel_rfl⟩
def c_42:Con te:=aj_ te [.d (.st 8),.d .str,.d (.int .i64),.d (.int .i64),.d .str,.d (.int .i64)] [(.st 8,[none,none,none,none,none,none,some 83,some 39]),(.int .i64,[]),(.int .i64,[])] true λ a=>cQ_ a.1 a.2.1 a.2.2.1 a.2.2.2.1 a.2.2.2.2.1 a.2.2.2.2.2.1
theorem ok_42:OKF 42 c_42:=⟨ad_ ag_ (ab_ oj_ (ab_ ok_111 (ab_ ok_62 (ab_ ok_96 (ab_ ok_53 af_))))) Tryz.func42 (by kernel_rfl) (pl := .p) λ _=>by kernel_rfl,by kernel_rfl⟩
def c_163:Con te:=aj_ te [.d (.st 6)] [(.st 6,[none,some 83])] false λ a=>ei_ a.1
theorem ok_163:OKF 163 c_163:=⟨ad_ ag_ (ab_ ok_161 af_) Tryz.func163 (by kernel_rfl) (pl := .p) λ _=>by kernel_rfl,by kernel_rfl⟩
def c_71:Con te:=aj_ te [.d (.st 3),.d (.int .i64)] [(.sl (.int .i64),[some 3])] false λ a=>eK_ a.1 a.2.1
theorem ok_71:OKF 71 c_71:=⟨ad_ ag_ (ab_ ok_142 af_) Tryz.func71 (by kernel_rfl) (pl := .s .p (.s .p (.s .p (.s (.s .p (.lp ⟨[(5,.one (.own 12)),(15,.d (.int .i64))],[(12,false,.row 3 (.int .i64) [])],[1,13,14],[],[],13⟩ ⟨[(5,.one (.own 12))],[(12,false,.row 3 (.int .i64) [])],[],[],[],13⟩ false (.s .p (.s .p (.j ⟨[(5,.one (.own 14))],[(14,false,.row 3 (.int .i64) [])],[1,13,14,15],[],[],15⟩ false .p .p))))) .p)))) λ _=>by kernel_rfl,by kernel_rfl⟩
def c_165:Con te:=aj_ te [.d (.int .i64),.d (.int .i64)] [(.str,[]),(.int .i64,[])] false λ a=>ej_ a.1 a.2.1
theorem ok_165:OKF 165 c_165:=⟨ad_ ag_ af_ Tryz.func165 (by kernel_rfl) (pl := .s .p (.s .p (.s .p (.s .p (.s (.s .p (.lp ⟨[(31,.d (.int .i64))],[(13009,true,.row 5 (.int .u8) [])],[0,6,30],[],[],13015⟩ ⟨[],[(13009,true,.row 5 (.int .u8) [])],[6],[],[],13015⟩ false .p)) .p))))) λ _=>by kernel_rfl,by kernel_rfl⟩
def c_235:Con te:=aj_ te [.d (.int .i64),.d (.int .i64),.b 9 .str] [] false λ a=>bw_ a.1 a.2.1 a.2.2.1
theorem ok_235:OKF 235 c_235:=⟨ad_ ag_ (ab_ ok_165 af_) Tryz.func235 (by kernel_rfl) (pl := .p) λ _=>by kernel_rfl,by kernel_rfl⟩
def c_236:Con te:=aj_ te [.d .str] [(.str,[]),(.int .i64,[])] false λ a=>f2_ a.1
theorem ok_236:OKF 236 c_236:=⟨ad_ ag_ (ab_ ok_165 af_) Tryz.func236 (by kernel_rfl) (pl := .p) λ _=>by kernel_rfl,by kernel_rfl⟩
def c_167:Con te:=aj_ te [.d (.st 16)] [(.str,[])] false λ a=>ep_ a.1
theorem ok_167:OKF 167 c_167:=⟨ad_ ag_ (ab_ ok_236 (ab_ ok_235 af_)) Tryz.func167 (by kernel_rfl) (pl := .s .p (.s .p (.s .p (.s .p (.s (.s .p (.lp ⟨[(25,.d (.int .i64))],[(3,true,.box 9 .str),(23,true,.row 3 (.int .i64) [])],[1,3,4,5,23,24],[0,11],[],27⟩ ⟨[],[(3,true,.box 9 .str)],[1,3,4,5],[0,11],[],27⟩ false .p)) (.s .p (.s .p (.s (.s .p (.lp ⟨[(51,.d (.int .i64))],[(3,true,.box 9 .str),(47,true,.row 9 .str [])],[1,3,4,49,50],[0],[],51⟩ ⟨[],[(3,true,.box 9 .str)],[1,3,4],[0],[],51⟩ false .p)) .p)))))))) λ _=>by kernel_rfl,by kernel_rfl⟩
def c_292:Con te:=aj_ te [.d .str,.d (.int .i64)] [(.sl .str,[some 9])] false λ a=>ds_ a.1 a.2.1
theorem ok_292:OKF 292 c_292:=⟨ad_ ag_ af_ Tryz.func292 (by kernel_rfl) (pl := .s .p (.s .p (.s (.lp ⟨[(0,.d .str),(5,.one (.own 4))],[(4,false,.row 9 .str [])],[1],[],[],5⟩ ⟨[(0,.d .str),(5,.one (.own 4))],[(4,false,.row 9 .str [])],[],[],[],5⟩ false .p) .p))) λ _=>by kernel_rfl,by kernel_rfl⟩
def c_232:Con te:=aj_ te [.d (.st 6)] [(.st 6,[none,some 83])] false λ a=>kJ_ a.1
theorem ok_232:OKF 232 c_232:=⟨ad_ ag_ (ab_ ok_161 af_) Tryz.func232 (by kernel_rfl) (pl := .p) λ _=>by kernel_rfl,by kernel_rfl⟩
def c_119:Con te:=aj_ te [.d (.int .i64)] [(.bool,[])] false λ a=>kK_ a.1
theorem ok_119:OKF 119 c_119:=⟨ad_ ag_ af_ Tryz.func119 (by kernel_rfl) (pl := .p) λ _=>by kernel_rfl,by kernel_rfl⟩
def c_166:Con te:=aj_ te [.d (.st 6),.d (.int .i64),.d .str] [(.st 6,[none,some 83]),(.str,[]),(.int .i64,[])] false λ a=>gS_ a.1 a.2.1 a.2.2.1
theorem ok_166:OKF 166 c_166:=⟨ad_ ag_ (ab_ ok_234 (ab_ ok_233 (ab_ ok_119 (ab_ ok_232 af_)))) Tryz.func166 (by kernel_rfl) (pl := .s .p (.s .p (.s .p (.s .p (.s (.s .p (.s .p (.s (.s (.s (.dr [0,0,0,0,0,0,0] [] false []) .p) (.s (.dr [0,0,0,1,4,4] [] true [2]) .p)) .p))) (.s .p (.s .p (.s (.dr [0,0,0,1,4,4] [] true [2]) .p)))))))) λ _=>by kernel_rfl,by kernel_rfl⟩
def c_231:Con te:=aj_ te [.d (.st 6),.d (.int .i64),.d .str] [(.st 6,[]),(.st 10,[]),(.int .i64,[])] true λ a=>ek_ a.1 a.2.1 a.2.2.1
theorem ok_231:OKF 231 c_231:=⟨ad_ ag_ (ab_ ok_166 (ab_ ok_292 (ab_ ok_291 af_))) Tryz.func231 (by kernel_rfl) (pl := .s .p (.s .p (.s .p (.lp ⟨[(1,.d (.int .i64)),(10,.one (.own 21))],[(0,true,.box 32 (.st 6)),(13,true,.box 137 (.st 10)),(21,false,.row 9 .str [])],[3,6,7,9],[2,4],[],22⟩ ⟨[],[],[],[],[],21⟩ true (.s .p (.s (.s .p (.lp ⟨[(11,.d .str),(27,.d (.int .i64))],[(0,true,.cells 32 [.v (.int .i64),.v (.sl (.st 5))]),(13,true,.box 137 (.st 10)),(21,true,.row 9 .str [])],[1,3,6,7,9,10,25,26],[2,4],[],26⟩ ⟨[(11,.d .str)],[(0,true,.box 32 (.st 6)),(13,true,.box 137 (.st 10)),(21,true,.row 9 .str [])],[3,6,7,9,10],[2,4],[],26⟩ true .p)) (.s (.s .p (.s (.s (.dr [0,0,1,1,4] [] true [2,4]) .p) .p)) .p))))))) λ _=>by kernel_rfl,by kernel_rfl⟩
def cS_164(rec0:Xj->Xk->Int->Option (Xj×Xr×Int)):Con te:=aj_ te [.d (.st 6),.d (.st 3),.d (.int .i64)] [(.st 6,[]),(.st 16,[]),(.int .i64,[])] true λ a=>rec0 a.1 a.2.1 a.2.2.1
theorem okS_164(rec0:Xj->Xk->Int->Option (Xj×Xr×Int))(h:OKF 164 (cS_164 rec0)):OKF 164 (cS_164 (cA_ rec0)):=⟨ad_ ag_ (ab_ ok_231 (ab_ ok_167 (ab_ ok_71 (ab_ ok_230 (ab_ k4_ (ab_ h af_)))))) Tryz.func164 (by kernel_rfl) (pl := .s .p (.s .p (.s (.dr [0,0,0,0] [] false []) (.s .p (.j ⟨[(11,.d (.int .i64)),(12,.d .str)],[(0,true,.box 32 (.st 6))],[3,6,7,9],[4,6,15],[],27⟩ true (.s .p (.s (.s .p (.s .p (.lp ⟨[(12,.d .str),(36,.d (.int .i64))],[(0,true,.box 32 (.st 6)),(33,true,.row 3 (.int .i64) [])],[3,4,6,7,9,11,34,35],[2,4,6,15],[],37⟩ ⟨[(12,.d .str)],[(0,true,.box 32 (.st 6))],[3,6,7,9,11],[4,6,15],[],37⟩ true .p))) .p)) (.s .p (.s (.dr [0,0,0,0,0,1,1,4] [] true [4,6]) .p))))))) λ _=>by kernel_rfl,by kernel_rfl⟩
theorem okN_164:∀n,OKF 164 (cS_164 (ci_ n))
 | 0=>⟨jh_ λ _=>rfl,by kernel_rfl⟩
 | n+1=>okS_164 _ (okN_164 n)
def c_164:Con te:=cS_164 (ci_ BIG)
theorem ok_164:OKF 164 c_164:=okN_164 BIG
def c_97:Con te:=aj_ te [.d (.st 6),.d (.st 3)] [(.st 6,[none,some 83]),(.str,[]),(.int .i64,[])] false λ a=>dR_ a.1 a.2.1
theorem ok_97:OKF 97 c_97:=⟨ad_ ag_ (ab_ ok_166 (ab_ ok_167 (ab_ ok_165 (ab_ ok_164 (ab_ ok_163 (ab_ ok_47 af_)))))) Tryz.func97 (by kernel_rfl) (pl := .s .p (.s .p (.s .p (.s .p (.s .p (.s .p (.s (.dr [0,0,0,0,0,0,0,1,4,4,4,4,2,4,4] [] false []) .p))))))) λ _=>by kernel_rfl,by kernel_rfl⟩
def c_36:Con te:=aj_ te [.d (.st 8),.d (.int .i64)] [(.st 8,[some 79,some 120,none,some 81,some 3,none,some 83,some 39]),(.int .i64,[])] true λ a=>d0_ a.1 a.2.1
theorem ok_36:OKF 36 c_36:=⟨ad_ ag_ (ab_ ok_97 (ab_ ok_96 af_)) Tryz.func36 (by kernel_rfl) (pl := .p) λ _=>by kernel_rfl,by kernel_rfl⟩
def c_55:Con te:=aj_ te [.d (.int .i64)] [(.int .i64,[])] false λ a=>jq_ a.1
theorem ok_55:OKF 55 c_55:=⟨ad_ ag_ af_ Tryz.func55 (by kernel_rfl) (pl := .p) λ _=>by kernel_rfl,by kernel_rfl⟩
def c_132:Con te:=aj_ te [.d (.int .i64)] [(.bool,[])] false λ a=>num_known a.1
theorem ok_132:OKF 132 c_132:=⟨ad_ ag_ af_ Tryz.func132 (by kernel_rfl) (pl := .p) λ _=>by kernel_rfl,by kernel_rfl⟩
def c_56:Con te:=aj_ te [.d (.int .i64),.d (.int .i64)] [(.str,[])] false λ a=>num_Text a.1 a.2.1
theorem ok_56:OKF 56 c_56:=⟨ad_ ag_ (ab_ mK_ (ab_ ok_132 af_)) Tryz.func56 (by kernel_rfl) (pl := .p) λ _=>by kernel_rfl,by kernel_rfl⟩
def c_22:Con te:=aj_ te [.d (.st 8),.d .str,.d (.int .i64),.d .str] [(.int .i64,[]),(.int .i64,[])] false λ a=>il_ a.1 a.2.1 a.2.2.1 a.2.2.2.1
theorem ok_22:OKF 22 c_22:=⟨ad_ ag_ (ab_ ok_56 (ab_ ok_55 (ab_ ok_54 (ab_ ok_53 af_)))) Tryz.func22 (by kernel_rfl) (pl := .s .p (.s .p (.s .p (.s .p (.s .p (.s .p (.s .p (.s (.s .p (.lp ⟨[(75,.d (.int .i64))],[],[2,3,73,74],[],[],6033⟩ ⟨[],[],[],[],[],6033⟩ true .p)) .p)))))))) λ _=>by kernel_rfl,by kernel_rfl⟩
def c_136:Con te:=aj_ te [.d (.st 3),.d (.int .i64),.d (.int .i64),.d (.int .i64)] [(.str,[]),(.int .i64,[])] false λ a=>tree_Read a.1 a.2.1 a.2.2.1 a.2.2.2.1
theorem ok_136:OKF 136 c_136:=⟨ad_ ag_ (ab_ ok_197 af_) Tryz.func136 (by kernel_rfl) (pl := .p) λ _=>by kernel_rfl,by kernel_rfl⟩
def c_63:Con te:=aj_ te [.d (.st 4),.d (.int .i64),.d (.int .i64),.d (.int .i64)] [(.str,[]),(.int .i64,[])] false λ a=>mF_ a.1 a.2.1 a.2.2.1 a.2.2.2.1
theorem ok_63:OKF 63 c_63:=⟨ad_ ag_ (ab_ ok_136 af_) Tryz.func63 (by kernel_rfl) (pl := .p) λ _=>by kernel_rfl,by kernel_rfl⟩
def c_24:Con te:=aj_ te [.d (.st 8),.d (.int .i64),.d (.int .i64),.d (.int .i64)] [(.str,[]),(.int .i64,[])] false λ a=>f3_ a.1 a.2.1 a.2.2.1 a.2.2.2.1
theorem ok_24:OKF 24 c_24:=⟨ad_ ag_ (ab_ ok_63 (ab_ ok_62 (ab_ ok_61 af_))) Tryz.func24 (by kernel_rfl) (pl := .p) λ _=>by kernel_rfl,by kernel_rfl⟩
def c_205:Con te:=aj_ te [.d (.st 4),.d .str,.d (.st 2)] [(.bool,[])] false λ a=>dc_ a.1 a.2.1 a.2.2.1
theorem ok_205:OKF 205 c_205:=⟨ad_ ag_ (ab_ ok_130 (ab_ k4_ af_)) Tryz.func205 (by kernel_rfl) (pl := .p) λ _=>by kernel_rfl,by kernel_rfl⟩
def c_305:Con te:=aj_ te [.d (.sl (.int .i64)),.d (.int .i64)] [(.int .i64,[])] false λ a=>gn_ a.1 a.2.1
theorem ok_305:OKF 305 c_305:=⟨ad_ ag_ af_ Tryz.func305 (by kernel_rfl) (pl := .s .p (.s (.s .p (.lp ⟨[(8,.d (.int .i64))],[],[0,1,7],[],[],4⟩ ⟨[],[],[],[],[],4⟩ true .p)) .p)) λ _=>by kernel_rfl,by kernel_rfl⟩
def c_248:Con te:=aj_ te [.d (.sl (.int .i64)),.d (.int .i64)] [(.bool,[])] false λ a=>cF_ a.1 a.2.1
theorem ok_248:OKF 248 c_248:=⟨ad_ ag_ (ab_ ok_305 af_) Tryz.func248 (by kernel_rfl) (pl := .p) λ _=>by kernel_rfl,by kernel_rfl⟩
def c_181:Con te:=aj_ te [.d (.st 4),.d .str,.d (.st 2),.d (.int .i64)] [(.int .i64,[])] false λ a=>eL_ a.1 a.2.1 a.2.2.1 a.2.2.2.1
theorem ok_181:OKF 181 c_181:=⟨ad_ ag_ (ab_ ok_248 (ab_ ok_205 (ab_ ok_130 (ab_ gU_ (ab_ ok_113 af_))))) Tryz.func181 (by kernel_rfl) (pl := .p) λ _=>by kernel_rfl,by kernel_rfl⟩
def c_182:Con te:=aj_ te [.d (.st 3),.d (.int .i64),.d (.int .i64),.d .str,.d (.int .i64)] [(.st 3,[none,some 81]),(.int .i64,[])] false λ a=>gg_ a.1 a.2.1 a.2.2.1 a.2.2.2.1 a.2.2.2.2.1
theorem ok_182:OKF 182 c_182:=⟨ad_ ag_ (ab_ ok_243 (ab_ ok_247 (ab_ oi_ (ab_ ok_197 af_)))) Tryz.func182 (by kernel_rfl) (pl := .s .p (.s .p (.s .p (.s .p (.s (.dr [0,0,0,0,0,0,0,0,0,0,0,0,0,2] [] false []) .p))))) λ _=>by kernel_rfl,by kernel_rfl⟩
def c_112:Con te:=aj_ te [.d (.st 4),.d .str,.d (.int .i64),.d (.int .i64),.d (.int .i64)] [(.st 4,[]),(.int .i64,[])] true λ a=>fw_ a.1 a.2.1 a.2.2.1 a.2.2.2.1 a.2.2.2.2.1
theorem ok_112:OKF 112 c_112:=⟨ad_ ag_ (ab_ ok_177 (ab_ ok_182 (ab_ ok_79 (ab_ gU_ (ab_ ok_181 (ab_ ok_178 (ab_ oh_ af_))))))) Tryz.func112 (by kernel_rfl) (pl := .s .p (.s .p (.s .p (.s .p (.s .p (.j ⟨[],[(11,true,.cells 29 [.own 6,.own 7,.v (.int .i64),.own 37,.own 9]),(6,true,.row 79 (.st 0) []),(7,true,.row 120 (.st 1) []),(37,false,.row 81 (.st 2) []),(9,true,.row 3 (.int .i64) [])],[2,10,12,13],[2,22],[],38⟩ false (.s .p (.s (.dr [0,0,0,0,0,0,1,4,4,4,4,2] [] false []) .p)) (.j ⟨[],[(11,true,.cells 29 [.v (.sl (.st 0)),.v (.sl (.st 1)),.v (.int .i64),.v (.sl (.st 2)),.v (.sl (.int .i64))])],[10,12],[2],[],38⟩ false .p .p))))))) λ _=>by kernel_rfl,by kernel_rfl⟩
def c_43:Con te:=aj_ te [.d (.st 8),.d .str,.d (.int .i64),.d (.int .i64),.d (.int .i64)] [(.st 8,[none,none,none,none,none,none,some 83,some 39]),(.int .i64,[])] true λ a=>d1_ a.1 a.2.1 a.2.2.1 a.2.2.2.1 a.2.2.2.2.1
theorem ok_43:OKF 43 c_43:=⟨ad_ ag_ (ab_ ok_115 (ab_ k4_ (ab_ ok_62 (ab_ ok_113 (ab_ oj_ (ab_ ok_112 (ab_ ok_96 (ab_ ok_53 af_)))))))) Tryz.func43 (by kernel_rfl) (pl := .p) λ _=>by kernel_rfl,by kernel_rfl⟩
def c_12:Con te:=aj_ te [] [(.bool,[])] false λ _=>law17_awake
theorem ok_12:OKF 12 c_12:=⟨ad_ ag_ (ab_ ok_43 (ab_ ok_24 (ab_ ok_22 (ab_ ok_36 (ab_ ok_42 (ab_ ok_41 (ab_ ok_20 (ab_ ok_31 af_)))))))) Tryz.func12 (by kernel_rfl) (pl := .p) λ _=>by kernel_rfl,by kernel_rfl⟩
def c_13:Con te:=aj_ te [.d (.st 8),.d (.int .i64)] [(.st 7,[]),(.bool,[])] false λ a=>kL_ a.1 a.2.1
theorem ok_13:OKF 13 c_13:=⟨ad_ ag_ af_ Tryz.func13 (by kernel_rfl) (pl := .s .p (.s (.s .p (.lp ⟨[(6,.d (.int .i64))],[],[1,2,4],[0,2],[],10⟩ ⟨[],[],[4],[2],[],10⟩ true .p)) .p)) λ _=>by kernel_rfl,by kernel_rfl⟩
def c_15:Con te:=aj_ te [.d (.st 8),.d (.int .i64)] [(.st 3,[none,some 81]),(.int .i64,[])] false λ a=>f4_ a.1 a.2.1
theorem ok_15:OKF 15 c_15:=⟨ad_ ag_ (ab_ ok_44 (ab_ ok_13 af_)) Tryz.func15 (by kernel_rfl) (pl := .p) λ _=>by kernel_rfl,by kernel_rfl⟩
def c_17:Con te:=aj_ te [.d (.st 3),.d (.st 3)] [(.bool,[])] false λ a=>hm_ a.1 a.2.1
theorem ok_17:OKF 17 c_17:=⟨ad_ ag_ af_ Tryz.func17 (by kernel_rfl) (pl := .s .p (.s .p (.s (.s .p (.lp ⟨[(23,.d (.int .i64))],[],[2,3,22],[0,2],[],8015⟩ ⟨[],[],[],[],[],8015⟩ true (.s .p (.s .p (.s (.s .p (.s (.dr [0,0,0,0,0,0,0,0,0,0,0] [] false []) .p)) .p))))) .p))) λ _=>by kernel_rfl,by kernel_rfl⟩
def c_33:Con te:=aj_ te [.d (.st 22)] [(.bool,[])] false λ a=>rG_ a.1
theorem ok_33:OKF 33 c_33:=⟨ad_ ag_ af_ Tryz.func33 (by kernel_rfl) (pl := .p) λ _=>by kernel_rfl,by kernel_rfl⟩
def c_204:Con te:=aj_ te [.d (.st 4),.d (.int .i64)] [(.st 4,[])] true λ a=>er_ a.1 a.2.1
theorem ok_204:OKF 204 c_204:=⟨ad_ ag_ (ab_ pc_ (ab_ ok_127 (ab_ ok_244 af_))) Tryz.func204 (by kernel_rfl) (pl := .s .p (.j ⟨[],[(0,true,.cells 29 [.v (.sl (.st 0)),.v (.sl (.st 1)),.v (.int .i64),.v (.sl (.st 2)),.v (.sl (.int .i64))])],[2,4],[2],[],4⟩ false .p .p)) λ _=>by kernel_rfl,by kernel_rfl⟩
def c_206:Con te:=aj_ te [.d (.st 3),.d (.int .i64),.d .str,.d (.int .i64)] [(.st 3,[none,some 81]),(.int .i64,[])] false λ a=>kM_ a.1 a.2.1 a.2.2.1 a.2.2.2.1
theorem ok_206:OKF 206 c_206:=⟨ad_ ag_ (ab_ ok_243 (ab_ ok_71 (ab_ oi_ (ab_ of_ af_)))) Tryz.func206 (by kernel_rfl) (pl := .s .p (.s .p (.s .p (.s .p (.s (.dr [0,0,0,0,0,0,0,0,0,0,0,2] [] false []) (.s (.dr [0,0,0,0,0,0,0,0,0,2,4,2] [] false []) .p)))))) λ _=>by kernel_rfl,by kernel_rfl⟩
def c_150:Con te:=aj_ te [.d (.st 4),.d .str,.d (.int .i64),.d (.int .i64)] [(.st 4,[]),(.int .i64,[])] true λ a=>fy_ a.1 a.2.1 a.2.2.1 a.2.2.2.1
theorem ok_150:OKF 150 c_150:=⟨ad_ ag_ (ab_ ok_204 (ab_ ok_206 (ab_ ok_79 (ab_ ok_205 (ab_ ok_178 (ab_ oh_ af_)))))) Tryz.func150 (by kernel_rfl) (pl := .s .p (.s .p (.s .p (.s .p (.s .p (.s (.df [0,0,0,0,0,0,1,4,4,4,1,2,4] [] 4) .p)))))) λ _=>by kernel_rfl,by kernel_rfl⟩
def c_149:Con te:=aj_ te [.d (.st 4),.d .str,.d (.int .i64),.d (.int .i64),.d (.int .i64)] [(.st 4,[])] true λ a=>in_ a.1 a.2.1 a.2.2.1 a.2.2.2.1 a.2.2.2.2.1
theorem ok_149:OKF 149 c_149:=⟨ad_ ag_ (ab_ ok_150 (ab_ gU_ (ab_ ok_204 (ab_ oh_ af_)))) Tryz.func149 (by kernel_rfl) (pl := .s .p (.s .p (.j ⟨[],[],[10,11],[2,16],[],20⟩ true .p .p))) λ _=>by kernel_rfl,by kernel_rfl⟩
def c_86:Con te:=aj_ te [.d (.st 8),.d .str,.d (.int .i64),.d (.int .i64),.d (.int .i64)] [(.st 8,[none,none,none,none,none,none,some 83,some 39])] true λ a=>hn_ a.1 a.2.1 a.2.2.1 a.2.2.2.1 a.2.2.2.2.1
theorem ok_86:OKF 86 c_86:=⟨ad_ ag_ (ab_ oj_ (ab_ ok_149 (ab_ ok_96 (ab_ ok_61 af_)))) Tryz.func86 (by kernel_rfl) (pl := .s .p (.s .p (.s .p (.s (.dr [0,0,0,0,0,0,0,0,1,1,2] [] false []) .p)))) λ _=>by kernel_rfl,by kernel_rfl⟩
def c_87:Con te:=aj_ te [.d (.st 8),.d .str,.d (.int .i64),.d (.int .i64)] [(.st 8,[none,none,none,none,none,none,some 83,some 39]),(.int .i64,[])] true λ a=>gx_ a.1 a.2.1 a.2.2.1 a.2.2.2.1
theorem ok_87:OKF 87 c_87:=⟨ad_ ag_ (ab_ oj_ (ab_ ok_150 (ab_ ok_96 (ab_ ok_53 af_)))) Tryz.func87 (by kernel_rfl) (pl := .s .p (.s .p (.j ⟨[(11,.d (.int .i64))],[],[1,3,4,8,10],[0,2,12],[],17⟩ false .p .p))) λ _=>by kernel_rfl,by kernel_rfl⟩
def c_325:Con te:=aj_ te [.d (.st 21)] [(.sl (.st 23),[some 313])] false λ a=>mI_ a.1
theorem ok_325:OKF 325 c_325:=⟨ad_ ag_ af_ Tryz.func325 (by kernel_rfl) (pl := .p) λ _=>by kernel_rfl,by kernel_rfl⟩
def c_326:Con te:=aj_ te [.d (.int .i64),.d (.int .i64)] [(.bool,[])] false λ a=>h4_ a.1 a.2.1
theorem ok_326:OKF 326 c_326:=⟨ad_ ag_ af_ Tryz.func326 (by kernel_rfl) (pl := .p) λ _=>by kernel_rfl,by kernel_rfl⟩
def c_270:Con te:=aj_ te [.d (.st 21)] [(.int .i64,[])] false λ a=>lY_ a.1
theorem ok_270:OKF 270 c_270:=⟨ad_ ag_ (ab_ og_ (ab_ ok_326 (ab_ ok_325 af_))) Tryz.func270 (by kernel_rfl) (pl := .s .p (.s (.s .p (.lp ⟨[(8,.d (.int .i64))],[(4,true,.row 313 (.st 23) [])],[1,6,7],[0],[],8⟩ ⟨[],[],[1],[0],[],8⟩ true .p)) .p)) λ _=>by kernel_rfl,by kernel_rfl⟩
def c_271:Con te:=aj_ te [] [(.st 21,[])] false λ _=>stat_None
theorem ok_271:OKF 271 c_271:=⟨ad_ ag_ af_ Tryz.func271 (by kernel_rfl) (pl := .p) λ _=>by kernel_rfl,by kernel_rfl⟩
def c_272:Con te:=aj_ te [.d (.st 4),.d .str,.d (.st 2),.d .str] [(.int .i64,[])] false λ a=>gy_ a.1 a.2.1 a.2.2.1 a.2.2.2.1
theorem ok_272:OKF 272 c_272:=⟨ad_ ag_ (ab_ ok_131 (ab_ ok_205 (ab_ og_ af_))) Tryz.func272 (by kernel_rfl) (pl := .p) λ _=>by kernel_rfl,by kernel_rfl⟩
def c_209:Con te:=aj_ te [.d (.st 2)] [(.int .i64,[])] false λ a=>fz_ a.1
theorem ok_209:OKF 209 c_209:=⟨ad_ ag_ (ab_ gU_ af_) Tryz.func209 (by kernel_rfl) (pl := .p) λ _=>by kernel_rfl,by kernel_rfl⟩
def c_273:Con te:=aj_ te [.d (.st 4),.d .str,.d (.st 2),.d (.int .i64)] [(.int .i64,[])] false λ a=>gz_ a.1 a.2.1 a.2.2.1 a.2.2.2.1
theorem ok_273:OKF 273 c_273:=⟨ad_ ag_ (ab_ ok_179 (ab_ ok_130 (ab_ gU_ (ab_ ok_209 af_)))) Tryz.func273 (by kernel_rfl) (pl := .p) λ _=>by kernel_rfl,by kernel_rfl⟩
def c_274:Con te:=aj_ te [.d (.sl (.st 0)),.d .str,.d .str] [(.bool,[])] false λ a=>ho_ a.1 a.2.1 a.2.2.1
theorem ok_274:OKF 274 c_274:=⟨ad_ ag_ (ab_ ok_185 (ab_ ok_251 af_)) Tryz.func274 (by kernel_rfl) (pl := .p) λ _=>by kernel_rfl,by kernel_rfl⟩
def c_275:Con te:=aj_ te [.d (.st 4),.d .str,.d (.st 2),.d .str] [(.int .i64,[])] false λ a=>fS_ a.1 a.2.1 a.2.2.1 a.2.2.2.1
theorem ok_275:OKF 275 c_275:=⟨ad_ ag_ (ab_ ok_274 (ab_ ok_185 af_)) Tryz.func275 (by kernel_rfl) (pl := .p) λ _=>by kernel_rfl,by kernel_rfl⟩
def c_207:Con te:=aj_ te [.d (.st 4),.d .str,.d (.st 2),.d (.st 21)] [(.int .i64,[])] false λ a=>gA_ a.1 a.2.1 a.2.2.1 a.2.2.2.1
theorem ok_207:OKF 207 c_207:=⟨ad_ ag_ (ab_ ok_275 (ab_ ok_240 (ab_ gU_ (ab_ ok_274 (ab_ ok_273 (ab_ ok_272 (ab_ ok_271 (ab_ ok_270 af_)))))))) Tryz.func207 (by kernel_rfl) (pl := .s .p (.s .p (.s .p (.s .p (.s .p (.s .p (.s .p (.j ⟨[],[],[1,4,6,7,13],[0,2,4],[],33051⟩ true (.s .p (.s (.s .p (.s .p (.s (.dr [0,0,0,0,0,0,0,0] [] false []) .p))) .p)) .p)))))))) λ _=>by kernel_rfl,by kernel_rfl⟩
def c_208:Con te:=aj_ te [.d (.st 3),.d (.int .i64),.d .str,.d .str,.d (.int .i64)] [(.st 3,[none,some 81]),(.int .i64,[])] false λ a=>kN_ a.1 a.2.1 a.2.2.1 a.2.2.2.1 a.2.2.2.2.1
theorem ok_208:OKF 208 c_208:=⟨ad_ ag_ (ab_ ok_243 (ab_ ok_195 (ab_ og_ (ab_ oi_ (ab_ of_ af_))))) Tryz.func208 (by kernel_rfl) (pl := .s .p (.s .p (.s (.s .p (.s .p (.s .p (.s .p (.s .p (.s .p (.s .p (.s .p (.s (.dr [0,0,0,0,0,0,0,0,0,0,0] [] false []) .p))))))))) (.s .p (.s .p (.s (.dr [0,0,0,0,0,0,0,0,0,0,0,2] [] false []) .p)))))) λ _=>by kernel_rfl,by kernel_rfl⟩
def c_210:Con te:=aj_ te [.d (.st 3),.d (.int .i64),.d (.int .i64),.d .str,.d (.int .i64)] [(.st 3,[none,some 81]),(.int .i64,[])] false λ a=>lZ_ a.1 a.2.1 a.2.2.1 a.2.2.2.1 a.2.2.2.2.1
theorem ok_210:OKF 210 c_210:=⟨ad_ ag_ (ab_ ok_144 (ab_ ok_145 (ab_ ok_121 (ab_ ok_193 (ab_ oi_ (ab_ of_ af_)))))) Tryz.func210 (by kernel_rfl) (pl := .s .p (.s .p (.s (.s .p (.s .p (.s (.dr [0,0,0,0,0,0,0,0,0,0,0,0,0,0,0,0,0,0,0,0] [] false []) .p))) (.s .p (.s .p (.j ⟨[],[(21021,true,.row 81 (.st 2) [(21030,14)])],[3,4,10,13,14],[2,21023],[21030],21033⟩ false .p (.j ⟨[],[(21021,true,.row 81 (.st 2) [(21030,14)])],[4,10,13,14],[2,21023],[21030],21033⟩ false .p (.j ⟨[],[(21021,true,.row 81 (.st 2) [])],[10,13],[2,21023],[],21033⟩ false .p .p)))))))) λ _=>by kernel_rfl,by kernel_rfl⟩
def c_151:Con te:=aj_ te [.d (.st 4),.d .str,.d (.int .i64),.d (.st 21),.d (.int .i64)] [(.st 4,[]),(.int .i64,[])] true λ a=>io_ a.1 a.2.1 a.2.2.1 a.2.2.2.1 a.2.2.2.2.1
theorem ok_151:OKF 151 c_151:=⟨ad_ ag_ (ab_ ok_204 (ab_ gU_ (ab_ ok_210 (ab_ ok_182 (ab_ ok_209 (ab_ ok_208 (ab_ ok_79 (ab_ ok_207 (ab_ ok_178 (ab_ oh_ af_)))))))))) Tryz.func151 (by kernel_rfl) (pl := .s .p (.s .p (.s .p (.j ⟨[(14,.d (.int .i64))],[],[1,2,4,8,10,12,13],[2,4,8,9,10,11,13,24],[],29⟩ false .p (.s .p (.j ⟨[],[(13,true,.cells 29 [.own 8,.own 9,.v (.int .i64),.own 31,.own 11]),(8,true,.row 79 (.st 0) []),(9,true,.row 120 (.st 1) []),(31,false,.row 81 (.st 2) []),(11,true,.row 3 (.int .i64) [])],[1,2,4,8,10,12,13],[2,4,24],[],32⟩ false (.s .p (.s (.dr [0,0,0,0,0,0,0,0,1,4,4,4,4,2] [] false []) .p)) (.j ⟨[],[(13,true,.cells 29 [.own 8,.own 9,.v (.int .i64),.own 32,.own 11]),(8,true,.row 79 (.st 0) []),(9,true,.row 120 (.st 1) []),(32,false,.row 81 (.st 2) []),(11,true,.row 3 (.int .i64) [])],[2,8,10,12,13],[2,4,24],[],33⟩ false (.s (.dr [0,0,0,0,0,0,0,0,0,0] [] false []) (.s (.dr [0,0,0,0,0,0,0,0,1,4,4,4,4,2] [] false []) .p)) (.s .p (.j ⟨[(15,.d .str)],[],[2,8,10,12],[2,4,8,9,11,13,32],[],36⟩ false .p (.j ⟨[],[(13,true,.cells 29 [.own 8,.own 9,.v (.int .i64),.own 36,.own 11]),(8,true,.row 79 (.st 0) []),(9,true,.row 120 (.st 1) []),(36,false,.row 81 (.st 2) []),(11,true,.row 3 (.int .i64) [])],[2,8,10,12],[2,4],[],37⟩ false .p (.j ⟨[],[(13,true,.cells 29 [.v (.sl (.st 0)),.v (.sl (.st 1)),.v (.int .i64),.v (.sl (.st 2)),.v (.sl (.int .i64))])],[10,12],[4],[],37⟩ false .p .p))))))))))) λ _=>by kernel_rfl,by kernel_rfl⟩
def c_88:Con te:=aj_ te [.d (.st 8),.d .str,.d (.int .i64),.d (.st 21),.d (.int .i64)] [(.st 8,[none,none,none,none,none,none,some 83,some 39]),(.int .i64,[])] true λ a=>hp_ a.1 a.2.1 a.2.2.1 a.2.2.2.1 a.2.2.2.2.1
theorem ok_88:OKF 88 c_88:=⟨ad_ ag_ (ab_ oj_ (ab_ ok_151 (ab_ ok_96 (ab_ ok_53 af_)))) Tryz.func88 (by kernel_rfl) (pl := .s .p (.s .p (.j ⟨[(13,.d (.int .i64))],[],[1,4,5,8,10,12],[0,2,4,14],[],19⟩ false .p .p))) λ _=>by kernel_rfl,by kernel_rfl⟩
def c_34:Con te:=aj_ te [.d (.st 8),.d (.st 22)] [(.st 8,[]),(.int .i64,[]),(.int .i64,[])] true λ a=>nm_ a.1 a.2.1
theorem ok_34:OKF 34 c_34:=⟨ad_ ag_ (ab_ ok_36 (ab_ ok_88 (ab_ ok_87 (ab_ ok_86 (ab_ ok_42 (ab_ ok_41 (ab_ ok_43 af_))))))) Tryz.func34 (by kernel_rfl) (pl := .s .p (.s .p (.j ⟨[(7,.d (.int .i64)),(8,.d (.int .i64))],[(0,true,.cells 35 [.v (.sl (.st 0)),.v (.sl (.st 1)),.v (.int .i64),.v (.sl (.st 2)),.v (.sl (.int .i64)),.v (.int .i64),.v (.sl (.st 5)),.v (.sl (.st 7))])],[2,4],[4],[],10⟩ false .p .p))) λ _=>by kernel_rfl,by kernel_rfl⟩
def c_8:Con te:=aj_ te [.d (.st 8),.d (.st 22)] [(.bool,[])] false λ a=>eB_ a.1 a.2.1
theorem ok_8:OKF 8 c_8:=⟨ad_ ag_ (ab_ ok_17 (ab_ ok_15 (ab_ ok_34 (ab_ ok_12 (ab_ ok_11 (ab_ ok_33 (ab_ ok_10 af_))))))) Tryz.func8 (by kernel_rfl) (pl := .s .p (.s .p (.s .p (.s .p (.s (.s .p (.lp ⟨[(44,.d (.int .i64))],[],[2,5,43],[0,8017],[],8034⟩ ⟨[],[],[],[],[],8034⟩ true (.s .p (.s .p (.s (.s .p (.s (.df [0,0,0,0,0,0,0,1,4,4,4,1,2,4] [] 4) (.s (.df [0,0,0,0,0,0,0,1,4,4,4,1,2,4] [] 4) .p))) .p))))) .p))))) λ _=>by kernel_rfl,by kernel_rfl⟩
end
end Go.Proofs.YtebokaoegomboaaGreatDoor
namespace Go
namespace Rt
theorem ap_{n:Int}(h:I64 n):w64 n=n:=by
 unfold w64;rw[IntKind.wrap_i64];omega
theorem eN_{n:Int}(h:I64 n):IntKind.i64.wrap n=n:=ap_ h
theorem wu8(n:Int):IntKind.u8.wrap n=n%256:=IntKind.wrap_u8 n
theorem wu64(n:Int):IntKind.u64.wrap n=n%18446744073709551616:=by simp[IntKind.wrap,IntKind.bits,IntKind.signed]
theorem fJ_{a:Nat}(ha:a<2^64):(BitVec.ofInt 64 (a:Int)).toNat=a:=by
 rw[BitVec.toNat_ofInt];have:((a:Int)%((2^64:Nat):Int))=((a%2^64:Nat):Int):=by omega
 rw[this];simp;omega
theorem ke_{a b:Nat}(ha:a<2^63)(hb:b<2^63):bR_ .i64 a b=((a&&&b:Nat):Int):=by
 have h1:a&&&b<2^63:=Nat.and_lt_two_pow a hb;show IntKind.i64.wrap (((BitVec.ofInt 64 (a:Int)&&&BitVec.ofInt 64 (b:Int)).toNat:Nat):Int)=_;rw[BitVec.toNat_and,fJ_ (by omega),fJ_ (by omega)];exact eN_ ⟨by omega,by omega⟩
theorem orI_u64{a b:Nat}(ha:a<2^64)(hb:b<2^64):orI .u64 a b=((a|||b:Nat):Int):=by
 have h1:a|||b<2^64:=Nat.or_lt_two_pow ha hb
 show IntKind.u64.wrap (((BitVec.ofInt 64 (a:Int)|||BitVec.ofInt 64 (b:Int)).toNat:Nat):Int)=_;rw[BitVec.toNat_or,fJ_ ha,fJ_ hb,wu64];omega
theorem nL_{a b:Nat}(ha:a<2^63)(hb:b<2^63):cu_ .i64 a b=((a&&&(2^64-1-b):Nat):Int):=by
 have h1:a&&&(2^64-1-b)<2^63:=Nat.lt_of_le_of_lt Nat.and_le_left ha;show IntKind.i64.wrap (((BitVec.ofInt 64 (a:Int) &&& ~~~(BitVec.ofInt 64 (b:Int))).toNat:Nat):Int)=_;rw[BitVec.toNat_and,BitVec.toNat_not,fJ_ (by omega),fJ_ (by omega)];exact eN_ ⟨by omega,by omega⟩
theorem rI_{a b:Nat}(ha:a<2^63)(hb:b<2^63):(cu_ .i64 a b==0)=(bR_ .i64 a b==a):=by
 rw[nL_ ha hb,ke_ ha hb];rw[Bool.eq_iff_iff];simp only[beq_iff_eq];constructor
 .intro h;have h':a&&&(2^64-1-b)=0:=by omega
  have:a&&&b=a:=by
   apply Nat.eq_of_testBit_eq;intro i;have hi:=congrArg (λ n=>n.testBit i) h';simp only[Nat.testBit_and,Nat.zero_testBit]at hi ⊢;by_cases hi64:i<64
   .rw[show 2^64-1-b=2^64-(b+1)by omega,Nat.testBit_two_pow_sub_succ (by omega)]at hi;simp only[hi64,decide_true,Bool.true_and]at hi;cases h1:a.testBit i<;>cases h2:b.testBit i<;>simp_all
   .have:a.testBit i=false:=Nat.testBit_lt_two_pow (Nat.lt_of_lt_of_le ha (Nat.pow_le_pow_right (by omega) (by omega)));simp[this]
  omega
 .intro h;have h':a&&&b=a:=by omega
  have:a&&&(2^64-1-b)=0:=by
   apply Nat.eq_of_testBit_eq;intro i;have hi:=congrArg (λ n=>n.testBit i) h';simp only[Nat.testBit_and,Nat.zero_testBit]at hi ⊢;by_cases hi64:i<64
   .rw[show 2^64-1-b=2^64-(b+1)by omega,Nat.testBit_two_pow_sub_succ (by omega)];simp only[hi64,decide_true,Bool.true_and];cases h1:a.testBit i<;>cases h2:b.testBit i<;>simp_all
   .have:a.testBit i=false:=Nat.testBit_lt_two_pow (Nat.lt_of_lt_of_le ha (Nat.pow_le_pow_right (by omega) (by omega)));simp[this]
  omega
theorem and_le{a b:Nat}(h:a&&&b=a):a<=b:=by
 rw[←h];exact Nat.and_le_right
theorem bit_and{a k:Nat}:(a&&&2^k != 0)=(a/2^k%2==1):=by
 have h1:a&&&2^k=if a.testBit k then 2^k else 0:=by
  apply Nat.eq_of_testBit_eq;intro i;rw[Nat.testBit_and,Nat.testBit_two_pow];by_cases hik:k=i
  .subst hik;cases h:a.testBit k<;>simp
  .cases h:a.testBit k<;>simp[hik]
 rw[h1];have h2:a.testBit k=decide (a/2^k%2=1):=Nat.testBit_eq_decide_div_mod_eq;by_cases h:a/2^k%2=1
 .simp[h2,h]
 .simp[h2,h]
theorem aa_{α β:Type}{x:Option α}{a:α}{f:α->Option β}{r:Option β}(h:x=some a)(hr:f a=r):x.bind f=r:=by subst h;exact hr
theorem ah_{α:Type}{c:Bool}{A B r:α}(hc:c=true)(h:A=r):(bif c then A else B)=r:=by subst hc;exact h
theorem ac_{α:Type}{c:Bool}{A B r:α}(hc:c=false)(h:B=r):(bif c then A else B)=r:=by subst hc;exact h
theorem loopF_run{σ β:Type}{body:σ->Option (Step σ β)}(I:Nat->σ->β->Prop)
  (h0:∀s b,I 0 s b->body s=some (.done b))
  (h:∀k s b,I (k+1) s b->body s=some (.done b)\/∃s',body s=some (.next s')/\I k s' b):∀{k n:Nat} {s:σ} {b:β},I k s b->k<n->ak_ body n s=some b
 | 0,n+1,s,b,hI,_=>by simp only[ak_,h0 s b hI]
 | k+1,n+1,s,b,hI,hk=>by
  simp only[ak_];rcases h k s b hI with hd|⟨s',hn,hI'⟩
  .rw[hd]
  .rw[hn];exact loopF_run I h0 h hI' (by omega)
theorem fe_{σ β:Type}{body:σ->Option (Step σ β)}(n:Nat)(hn:n<BIG)(J:Nat->σ->β->Prop)(h0:∀s b,J n s b->body s=some (.done b))
  (h:∀i s b,i<n->J i s b->body s=some (.done b)\/∃s',body s=some (.next s')/\J (i+1) s' b) {s:σ} {b:β} (hJ:J 0 s b):ak_ body BIG s=some b:=by
 refine loopF_run (λ k s b=>k<=n/\J (n-k) s b) (λ s b hI=>h0 s b (by simpa using hI.2)) (λ k s b hI => ?_) (k:=n) ⟨Nat.le_refl _,by simpa using hJ⟩ hn;obtain⟨hk,hI⟩:=hI;rcases h _ s b (by omega) hI with hd|⟨s',hs,hI'⟩
 .exact .inl hd
 .exact .inr ⟨s',hs,by omega,by rwa [show n-(k+1)+1=n-k by omega]at hI'⟩
theorem bd_{σ β:Type}{body:σ->Option (Step σ β)}(T:Nat->σ)(n:Nat)(hn:n<BIG){b:β}(hs:∀i,i<n->body (T i)=some (.next (T (i+1))))(hd:body (T n)=some (.done b)):ak_ body BIG (T 0)=some b:=by
 refine fe_ (J:=λ i s b'=>s=T i/\b'=b) n hn (λ s b' hJ => ?_) (λ i s b' hi hJ => ?_) ⟨rfl,rfl⟩
 .obtain⟨rfl,rfl⟩:=hJ;exact hd
 .obtain⟨rfl,rfl⟩:=hJ;exact .inr ⟨_,hs i hi,rfl,rfl⟩
theorem bk_{α:Type}(xs:List α)(i:Nat):al_ xs (i:Int)=xs[i]? := by
 unfold al_;rw[if_pos (by omega)];simp
theorem as_{α:Type}{xs:List α}{i:Nat}(h:i<xs.length):al_ xs (i:Int)=some xs[i]:=by
 rw[bk_,List.getElem?_eq_getElem h]
theorem kf_{s:Str}{i:Nat}(h:i<s.length):cg_ s (i:Int)=some (s[i].toNat:Int):=by
 unfold cg_;rw[as_ h];rfl
theorem cy_{a b:Str}(h:a.length+b.length<=9223372036854775807):cat a b=some (a++b):=by
 unfold cat;rw[if_pos h]
theorem cx_{α:Type}{bytes:Nat}{xs ys:List α}(h1:xs.length+ys.length<=9223372036854775807)(h2:(xs.length+ys.length)*bytes<=140737488355328):room bytes xs ys=some (xs++ys):=by
 unfold room;rw[if_pos ⟨h1,h2⟩]
theorem cf_{α:Type}{xs:List α}{lo hi:Int}(h0:0<=lo)(h1:lo<=hi)(h2:hi<=xs.length):bz_ xs lo hi=some ((xs.take hi.toNat).drop lo.toNat):=by
 unfold bz_;rw[if_pos ⟨h0,h1,h2⟩]
theorem makeI_eq{α:Type}{bytes:Nat}{z:α}{n:Int}(h0:0<=n)(h1:n<=9223372036854775807)(h2:bytes*n<=281474976710656):i8_ bytes z n=some (List.replicate n.toNat z):=by
 unfold i8_;rw[if_pos ⟨h0,h1,h2⟩]
theorem shrI_eq{k:IntKind}{x y:Int}(h:0<=y)(h2:y<=k.bits):shrI k x y=some (x.fdiv (2^y.toNat)):=by
 unfold shrI;rw[if_neg (by omega),show min y.toNat k.bits=y.toNat by omega]
def byteAt(n:Int)(i:Nat):Int:=n.fdiv (2^(8*i))%256
def leL(n:Int)(w:Nat):List Int:=(List.range w).map (byteAt n)
def leB(n:Int)(w:Nat):Str:=bytesS (leL n w)
theorem leL_len(n:Int)(w:Nat):(leL n w).length=w:=by simp[leL]
theorem dv_(n:Int)(w:Nat):(leB n w).length=w:=by simp[leB,bytesS,leL_len]
theorem leL_succ(n:Int)(w:Nat):leL n (w+1)=leL n w++[byteAt n w]:=by simp[leL,List.range_succ]
theorem shr_byte(n:Int)(i:Nat)(hi:i<8):shrI .i64 n (w64 (8*(i:Int)))=some (n.fdiv (2^(8*i))):=by
 rw[ap_ ⟨by omega,by omega⟩,shrI_eq (by omega) (by show 8*(i:Int)<=(64:Nat);omega)];rw[show(8*(i:Int)).toNat=8*i by omega]
theorem set_mid{α:Type}(A:List α)(k:Nat)(z v:α):(A++List.replicate (k+1) z).set A.length v=A++[v]++List.replicate k z:=by
 simp[List.replicate_succ]
end Rt
end Go
namespace Go.Proofs.YtebokaoegomboaaGreatDoor
open Go.Rt Go.RowKit
theorem bL_{σ β:Type}{body:σ->Option (Step σ β)}{s s':σ}{n:Nat}{r:Option β}(h:body s=some (.next s'))(hr:ak_ body n s'=r):ak_ body (n+1) s=r:=by
 simp only[ak_,h];exact hr
theorem aZ_{σ β:Type}{body:σ->Option (Step σ β)}{s:σ}{n:Nat}{b:β}(h:body s=some (.done b)):ak_ body (n+1) s=some b:=by
 simp only[ak_,h]
def aL_{α β:Type}(g:Nat->α->Option β):Nat->List α->Option β
 | _,[]=>none
 | i,x::l=>match g i x with
  | some r=>some r
  | none=>aL_ g (i+1) l
def dK_{β:Type}:Option β->Out Unit β|some r => .ret r|none => .fall ()
theorem br_{i n:Nat}(h:i<n):decide ((i:Int)<(n:Int))=true:=by simpa using h
theorem bA_(n:Nat):decide ((n:Int)<(n:Int))=false:=by simp
theorem au_{i:Nat}(h:i<9223372036854775807):w64 ((i:Int)+1)=((i+1:Nat):Int):=by
 rw[ap_ ⟨by omega,by omega⟩];rfl
theorem w_pred{i:Nat}(h0:0<i)(h:i<9223372036854775807):w64 ((i:Int)-1)=((i-1:Nat):Int):=by
 rw[ap_ ⟨by omega,by omega⟩];omega
def stepO{β:Type}(o:Option β)(i:Nat):Step Int (Out Unit β):=match o with|some r => .done (.ret r)|none => .next ((i+1:Nat):Int)
theorem aU_{α β:Type}{body:Int->Option (Step Int (Out Unit β))}(xs:List α)(g:Nat->α->Option β)(hn:xs.length<BIG)
  (hb:∀i (h:i<xs.length),body (i:Int)=some (stepO (g i xs[i]) i))
  (he:body (xs.length:Int)=some (.done (.fall ()))):ak_ body BIG 0=some (dK_ (aL_ g 0 xs)):=by
 refine fe_ (J:=λ i s b=>s=(i:Int)/\b=dK_ (aL_ g i (xs.drop i))) xs.length hn (λ s b hJ => ?_) (λ i s b hi hJ => ?_) (by simp)
 .obtain⟨rfl,rfl⟩:=hJ;rw[he];simp[aL_,dK_]
 .obtain⟨rfl,rfl⟩:=hJ;rw[hb i hi,List.drop_eq_getElem_cons hi];simp only[aL_];cases hg:g i xs[i]with
  | some r=>exact .inl rfl
  | none=>exact .inr ⟨_,rfl,rfl,rfl⟩
theorem bl_{β:Type}{L:Option (Out Unit β)}{k:Out Unit β->Option β}{o:Option β}{x:β}(h:L=some (dK_ o))(h1:∀r,k (.ret r)=some r)(h2:k (.fall ())=some x):Option.bind L k=some (o.getD x):=by
 subst h;cases o with
 | some r=>exact h1 r
 | none=>exact h2
theorem i2_{α β:Type}(p:α->Bool)(f:α->β):∀(k:Nat) (l:List α),aL_ (λ _ x=>if p x then some (f x)else none) k l=(l.find? p).map f
 | _,[]=>rfl
 | k,x::l=>by
  simp only[aL_,List.find?_cons];cases p x with
  | true=>rfl
  | false=>exact i2_ p f (k+1) l
theorem scan_idx{α:Type}(p:α->Bool):∀(k:Nat) (l:List α),aL_ (λ i x=>if p x then some ((i:Nat):Int)else none) k l=(l.findIdx? p).map λ i=>((k+i:Nat):Int)
 | _,[]=>rfl
 | k,x::l=>by
  simp only[aL_,List.findIdx?_cons];cases p x with
  | true=>rfl
  | false =>
   simp only[Bool.false_eq_true,if_false];rw[scan_idx p (k+1) l];cases l.findIdx? p with
   | none=>rfl
   | some i=>simp only[Option.map_some];congr 2;omega
theorem scan_none{α β:Type}{g:Nat->α->Option β}:∀{k:Nat} {l:List α},aL_ g k l=none↔∀i x,l[i]? = some x->g (k+i) x=none
 | _,[]=>⟨λ _ i x h=>by simp at h,λ _=>rfl⟩
 | k,x::l=>by
  simp only[aL_];constructor
  .intro h;split at h
   .cases h
   .rename_i h0;intro i y hy;cases i with
    | zero=>simp at hy;subst hy;exact h0
    | succ i=>have:=(scan_none (k:=k+1)).1 h i y (by simpa using hy);rwa [show k+1+i=k+(i+1)by omega]at this
  .intro h;have h0:=h 0 x rfl;rw[Nat.add_zero]at h0;rw[h0];exact scan_none.2 λ i y hy=>by rw[show k+1+i=k+(i+1)by omega];exact h (i+1) y (by simpa using hy)
theorem qu_{α β:Type}{g:Nat->α->Option β}{r:β}:∀{k:Nat} {l:List α},aL_ g k l=some r->∃i x,l[i]? = some x/\g (k+i) x=some r/\∀j y,j<i->l[j]? = some y->g (k+j) y=none
 | _,[],h=>by cases h
 | k,x::l,h=>by
  simp only[aL_]at h;split at h
  .rename_i r' h0;obtain rfl:=qSj h;exact⟨0,x,rfl,h0,λ j y hj=>by omega⟩
  .rename_i h0;obtain⟨i,y,h1,h2,h3⟩:=qu_ h;refine⟨i+1,y,by simpa using h1,by rw[show k+(i+1)=k+1+i by omega];exact h2,λ j q hj hq => ?_⟩;cases j with
   | zero=>simp at hq;subst hq;exact h0
   | succ j=>rw[show k+(j+1)=k+1+j by omega];exact h3 j q (by omega) (by simpa using hq)
def fi_{α σ:Type}(f:σ->Nat->α->σ):σ->Nat->List α->σ|s,_,[]=>s|s,i,x::l=>fi_ f (f s i x) (i+1) l
theorem jt_{α σ τ β:Type}{body:τ->Option (Step τ β)}(xs:List α)(f:σ->Nat->α->σ)(mk:Nat->σ->τ)(Inv:Nat->σ->Prop)(fin:σ->β)(s0:σ)(hn:xs.length<BIG)(h0:Inv 0 s0)
  (hb:∀i s (h:i<xs.length),Inv i s->body (mk i s)=some (.next (mk (i+1) (f s i xs[i])))/\Inv (i+1) (f s i xs[i]))
  (he:∀s,Inv xs.length s->body (mk xs.length s)=some (.done (fin s))):ak_ body BIG (mk 0 s0)=some (fin (fi_ f s0 0 xs)):=by
 refine fe_ (J:=λ i t b=>∃s,Inv i s/\t=mk i s/\b=fin (fi_ f s i (xs.drop i))) xs.length hn (λ t b hJ => ?_) (λ i t b hi hJ => ?_) ⟨s0,h0,rfl,by simp⟩
 .obtain⟨s,hI,rfl,rfl⟩:=hJ;rw[he s hI];simp[fi_]
 .obtain⟨s,hI,rfl,rfl⟩:=hJ;obtain⟨h1,h2⟩:=hb i s hi hI;rw[List.drop_eq_getElem_cons hi];exact .inr ⟨_,h1,_,h2,rfl,rfl⟩
def at_{α:Type}(p:α->Bool)(l:List α):Int:=match l.findIdx? p with|some i=>(i:Int)|none => -1
theorem i3_{α:Type}(p:α->Bool)(l:List α):(aL_ (λ i x=>if p x then some ((i:Nat):Int)else none) 0 l).getD (-1)=at_ p l:=by
 rw[scan_idx];unfold at_;cases l.findIdx? p<;>simp
theorem kg_{α:Type}(p:α->Bool)(l:List α):(l.find? p=none/\at_ p l = -1)\/∃(i:Nat) (x:α),l.find? p=some x/\at_ p l=(i:Int)/\l[i]? = some x/\p x=true/\∀j y,j<i->l[j]? = some y->p y=false:=by
 unfold at_;cases h:l.findIdx? p with
 | none =>
  refine .inl ⟨?_,rfl⟩;rw[List.find?_eq_none];intro x hx;rw[List.findIdx?_eq_none_iff]at h;simpa using h x hx
 | some i =>
  obtain⟨hlt,hp,hall⟩:=List.findIdx?_eq_some_iff_getElem.1 h;refine .inr ⟨i,l[i],?_,rfl,List.getElem?_eq_getElem hlt,hp,λ j y hj hy => ?_⟩
  .rw[List.find?_eq_some_iff_getElem];exact⟨hp,i,hlt,rfl,λ j hj=>by simpa using hall j hj⟩
  .have:=hall j hj;rw[List.getElem?_eq_getElem (by omega)]at hy;obtain rfl:=qSj hy;simpa using this
theorem ju_{α:Type}(p:α->Bool)(l:List α):decide (at_ p l<0)=(l.find? p).isNone:=by
 rcases kg_ p l with⟨h1,h2⟩|⟨i,x,h1,h2,_⟩
 .rw[h1,h2];rfl
 .rw[h1,h2];simp
theorem mN_{α:Type}(p:α->Bool)(l:List α)(h:(l.find? p).isNone=false):al_ l (at_ p l)=l.find? p:=by
 rcases kg_ p l with⟨h1,h2⟩|⟨i,x,h1,h2,h3,_⟩
 .rw[h1]at h;cases h
 .rw[h1,h2,bk_,h3]
theorem nilB_same{α R:Type}{xs:List α}{k:Bool->Option R}{r:Option R}(h0:xs=[]->k true=r)(h1:k false=r):nilB xs k=r:=by
 cases xs with
 | nil=>simp only[nilB,h0 rfl,h1];exact eS_ r
 | cons x l=>exact h1
theorem gV_{α:Type}{n:Nat}{xs:List α}(h:xs.length*n<=140737488355328)(h63:xs.length<=9223372036854775807):(nilB xs λ c=>bif c then some []else Option.bind (room n ([]:List α) xs) λ y=>some y)=some xs:=by
 refine nilB_same (λ e=>by subst e;rfl) ?_;rw[cond_false,cx_ (by simpa using h63) (by simpa using h)];rfl
theorem bB_{α:Type}{l:List α}(h:l.length<=9223372036854775807):l.length<BIG:=by
 have:BIG=18446744073709551616:=rfl;omega
section
variable{α β:Type}{eq:α->α->Bool}
theorem pf_:∀{ks:List α} {vs:List β} {x:α} {v:β},ks.length=vs.length->(aQ_ eq ks x).length=(bm_ eq ks vs x v).length
 | [],vs,x,v,h=>by cases vs with|nil=>rfl|cons a l=>simp at h
 | k::ks,[],x,v,h=>by simp at h
 | k::ks,w::vs,x,v,h=>by
  have ih:=pf_ (ks:=ks) (vs:=vs) (x:=x) (v:=v) (by simpa using h);unfold aQ_ at ih ⊢;simp only[List.any_cons,bm_];cases hx:eq x k with
  | true=>simpa using h
  | false =>
   simp only[Bool.false_or,cond_false,qLc];cases ha:ks.any (eq x)with
   | true=>rw[ha]at ih;simp only[cond_true]at ih ⊢;simpa using ih
   | false=>rw[ha]at ih;simp only[cond_false]at ih ⊢;simpa using ih
theorem mputK_cons{k x:α}{ks:List α}(h:eq x k=false):aQ_ eq (k::ks) x=k::aQ_ eq ks x:=by
 unfold aQ_;rw[List.any_cons,h,Bool.false_or];cases ks.any (eq x)<;>rfl
theorem pg_(hq:∀x y,eq x y=true↔x=y):∀{ks:List α} {vs:List β} {x y:α} {v d:β},ks.length=vs.length->aG_ eq (aQ_ eq ks x) (bm_ eq ks vs x v) y d=bif eq y x then v else aG_ eq ks vs y d
 | [],vs,x,y,v,d,h=>by
  cases vs with
  | nil=>rfl
  | cons a l=>simp at h
 | k::ks,[],x,y,v,d,h=>by simp at h
 | k :: ks,w::vs,x,y,v,d,h=>by
  have ih:=pg_ hq (ks:=ks) (vs:=vs) (x:=x) (y:=y) (v:=v) (d:=d) (by simpa using h);cases hx:eq x k with
  | true =>
   obtain rfl:=(hq x k).1 hx;have e:aQ_ eq (x::ks) x=x::ks:=by unfold aQ_;rw[List.any_cons,hx];rfl
   rw[e];simp only[bm_,hx,cond_true,aG_];cases eq y x<;>rfl
  | false =>
   rw[mputK_cons hx];simp only[bm_,hx,cond_false,aG_];cases hy:eq y k with
   | true =>
    obtain rfl:=(hq y k).1 hy;have:eq y x=false:=by
     cases he:eq y x with
     | false=>rfl
     | true=>rw[(hq y x).1 he,(hq x x).2 rfl]at hx;cases hx
    rw[this];rfl
   | false=>exact ih
end
theorem eqI_iff(x y:Int):eqI x y=true↔x=y:=beq_iff_eq
theorem iE_{α:Type}{ms:List α}{k:Nat}(d:α)(h0:0<k)(hk:k<ms.length)(hl:ms.length<=1024):al_ ms (w64 ((k:Int)-1))=some (ms.getD (k-1) d):=by
 rw[w_pred h0 (by omega),as_ (by omega)];simp[List.getElem?_eq_getElem (by omega:k-1<ms.length)]
theorem iq_{α:Type}{l:List α}{i:Nat}(h:i<l.length):l.take (i+1)=l.take i++[l[i]]:=List.take_succ_eq_append_getElem h
def an_(x:Int)(k:Nat):Bool:=decide (0<=x)&&x.toNat.testBit k
theorem tbit{n k:Nat}:(n/2^k%2==1)=n.testBit k:=by
 rw[Nat.testBit_eq_decide_div_mod_eq,Bool.eq_iff_iff];simp
theorem iF_(n k:Nat):an_ (n:Int) k=n.testBit k:=by
 unfold an_;rw[qTn];simp
theorem iG_{x:Int}(h:x<0)(k:Nat):an_ x k=false:=by
 unfold an_;have:decide (0<=x)=false:=by simp;omega
 rw[this];rfl
theorem rh_(x:Int)(k:Nat)(_:k<63)(h1:x<=9223372036854775807):(Option.bind (bif(decide (x>=0))then Option.bind (quoI .i64 x ((2^k:Nat):Int)) fun(y1:Int)=>some ((y1.tmod 2)==1)else some false) fun(y2:Bool)=>some y2)=some (an_ x k):=by
 by_cases h0:0<=x
 .obtain⟨n,rfl⟩:∃n:Nat,x=(n:Int):=⟨x.toNat,by omega⟩;have hpos:=Nat.two_pow_pos k;have hd:n/2^k<=n:=Nat.div_le_self _ _;have hq:quoI .i64 (n:Int) ((2^k:Nat):Int)=some ((n/2^k:Nat):Int):=by
   unfold quoI;rw[if_neg (by omega)];have:(n:Int).tdiv ((2^k:Nat):Int)=((n/2^k:Nat):Int):=rfl;rw[this];generalize n/2^k=q at hd;rw[eN_ (n:=(q:Int)) ⟨by omega,by omega⟩]
  have h0':decide ((n:Int)>=0)=true:=by simp
  rw[h0',hq,iF_,←tbit];simp only[cond_true,qBs];have:((n/2^k:Nat):Int).tmod 2=((n/2^k%2:Nat):Int):=rfl;rw[this]
  congr 1
  rw[Bool.eq_iff_iff,beq_iff_eq,beq_iff_eq];omega
 .have h0':decide (x>=0)=false:=by simp;omega
  rw[h0',iG_ (by omega)];rfl
theorem has_lit(x:Int)(k:Nat)(hk:k<63)(h1:x<=9223372036854775807):(decide (x>=0)&&(((IntKind.i64.wrap (x.tdiv ((2^k:Nat):Int))).tmod 2)==1))=an_ x k:=by
 have h:=rh_ x k hk h1;by_cases h0:0<=x
 .have h0':decide (x>=0)=true:=by simp;omega
  rw[h0']at h ⊢;have hpos:=Nat.two_pow_pos k;have hq:quoI .i64 x ((2^k:Nat):Int)=some (IntKind.i64.wrap (x.tdiv ((2^k:Nat):Int))):=by
   unfold quoI;rw[if_neg (by omega)]
  rw[hq]at h;exact qSj h
 .have h0':decide (x>=0)=false:=by simp;omega
  rw[h0',iG_ (by omega)];rfl
theorem el_(x:Int)(h1:x<=9223372036854775807):bu_ x=some (an_ x 31):=congrArg some (has_lit x 31 (by omega) h1)
def topI(x:Int):Int:=x-x%512
def aI_(x:Int):Bool:=decide (0<=x)&&((topI x==0)||(topI x==2147483648)||(topI x==1073741824)||(topI x==536870912)||(topI x==1610612736))
theorem no_{x:Int}(h:aI_ x=true):0<=x/\x<4294967296:=by
 unfold aI_ topI at h;simp only[qAn,Bool.or_eq_true,qDe,beq_iff_eq]at h;omega
theorem top_w{x:Int}(h0:0<=x)(h1:x<=9223372036854775807):w64 (x-(x.tmod 512))=topI x:=by
 obtain⟨n,rfl⟩:∃n:Nat,x=(n:Int):=⟨x.toNat,by omega⟩;have:(n:Int).tmod 512=(n:Int)%512:=rfl;rw[this,ap_ ⟨by omega,by omega⟩];rfl
theorem lq_(x:Int)(h1:x<=9223372036854775807):hk_ x=some (aI_ x):=by
 unfold hk_ aI_;by_cases h0:0<=x
 .have h0':decide (x<0)=false:=by simp;omega
  have h0'':decide (0<=x)=true:=by simpa using h0
  rw[top_w h0 h1,h0',h0''];cases topI x==0<;>cases topI x==2147483648<;>cases topI x==1073741824<;>cases topI x==536870912<;>cases topI x==1610612736<;>rfl
 .have h0':decide (x<0)=true:=by simp;omega
  have h0'':decide (0<=x)=false:=by simp;omega
  rw[h0',h0''];rfl
theorem wo_(x:Int)(h1:x<=9223372036854775807):lV_ x=some (aI_ x):=by
 unfold lV_;by_cases h0:0<=x/\x<4294967296
 .refine ac_ (by simp;omega) ?_;rw[top_w h0.1 h1];unfold aI_;have h0'':decide (0<=x)=true:=by simpa using h0.1
  rw[h0''];rfl
 .have:aI_ x=false:=by
   cases h:aI_ x with
   | false=>rfl
   | true=>exact absurd (no_ h) h0
  rw[this];exact ah_ (by simp;omega) rfl
theorem iH_{x:Int}(h:aI_ x=true):decide (x>=2147483648)=an_ x 31:=by
 obtain⟨h0,h1⟩:=no_ h;obtain⟨n,rfl⟩:∃n:Nat,x=(n:Int):=⟨x.toNat,by omega⟩;rw[iF_,←tbit,Bool.eq_iff_iff,qDe,beq_iff_eq];omega
def k5_(b:UInt8):Bool:=decide (33<=b.toNat)&&decide (b.toNat<=126)&&(b.toNat != 47)
def bM_(s:Str):Bool:=decide (1<=s.length)&&decide (s.length<=64)&&(s != [46])&&(s != [46,46])&&s.all k5_
def gN(_:Nat)(b:UInt8):Option Bool:=if k5_ b then none else some false
theorem scan_gN:∀(k:Nat) (s:Str),aL_ gN k s=if s.all k5_ then none else some false
 | _,[]=>rfl
 | k,b::s=>by
  have ih:=scan_gN (k+1) s;rw[List.all_cons];cases hb:k5_ b with
  | true =>
   have h0:gN k b=none:=by unfold gN;rw[hb];rfl
   simp only[aL_,h0];rw[ih,Bool.true_and]
  | false =>
   have h0:gN k b=some false:=by unfold gN;rw[hb];rfl
   simp only[aL_,h0];rfl
theorem path_loop(s:Str)(h:s.length<=9223372036854775807):ak_ (ik_ s) BIG 0=some (dK_ (aL_ gN 0 s)):=by
 refine aU_ s gN (bB_ h) (λ i hi => ?_) ?_
 .unfold ik_;rw[kf_ hi,br_ hi,au_ (by omega)];have e:k5_ s[i] = !(decide ((s[i].toNat:Int)<33)||decide ((s[i].toNat:Int)>126)||(s[i].toNat:Int)==47):=by
   unfold k5_;rw[Bool.eq_iff_iff];simp only[qAn,qDe,bne_iff_ne,Bool.not_eq_true',Bool.or_eq_false_iff,qDf,beq_eq_false_iff_ne];omega
  unfold gN;rw[e];simp only[cond_true,qBs];cases decide ((s[i].toNat:Int)<33)<;>cases decide ((s[i].toNat:Int)>126)<;>cases((s[i].toNat:Int)==47)<;>rfl
 .unfold ik_;rw[bA_];rfl
theorem ref03_loop(s:Str)(h:s.length<=9223372036854775807):ak_ (oa_ s) BIG 0=some (dK_ (aL_ gN 0 s)):=by
 rw[←path_loop s h];rfl
theorem hq_(s:Str)(h:s.length<=9223372036854775807):cI_ s=some (bM_ s):=by
 unfold cI_ bM_;rw[path_loop s h,scan_gN];have e1:(s==[]) = !decide (1<=s.length):=by cases s with|nil=>rfl|cons a l=>rw[Bool.eq_iff_iff];simp
 have e2:decide ((s.length:Int)>64) = !decide (s.length<=64):=by rw[Bool.eq_iff_iff];simp;omega
 rw[e1,e2];simp only[bne,qBs];cases decide (1<=s.length)<;>cases decide (s.length<=64)<;>cases(s==[46])<;>cases(s==[46,46])<;>cases s.all k5_<;>rfl
theorem rJ_(s:Str)(h:s.length<=9223372036854775807):hZ_ s=some (bM_ s):=by
 unfold hZ_ bM_;rw[ref03_loop s h,scan_gN];have e1:decide ((s.length:Int)>=1)=decide (1<=s.length):=by rw[Bool.eq_iff_iff,qDe,qDe];omega
 have e2:decide ((s.length:Int)<=64)=decide (s.length<=64):=by rw[Bool.eq_iff_iff,qDe,qDe];omega
 rw[e1,e2];simp only[bne,qBs];cases decide (1<=s.length)<;>cases decide (s.length<=64)<;>cases(s==[46])<;>cases(s==[46,46])<;>cases s.all k5_<;>rfl
theorem tI_{α β:Type}{body:Int->Option (Step Int (Out Unit β))}(xs:List α)(g:Nat->α->Option β)(k:Nat)(hk:k<=xs.length)(hn:xs.length<BIG)
  (hb:∀i (h:i<xs.length),k<=i->body (i:Int)=some (stepO (g i xs[i]) i))
  (he:body (xs.length:Int)=some (.done (.fall ()))):ak_ body BIG (k:Int)=some (dK_ (aL_ g k (xs.drop k))):=by
 have key:∀(n i:Nat),i+n=xs.length->k<=i->ak_ body (n+1) (i:Int)=some (dK_ (aL_ g i (xs.drop i))):=by
  intro n
  induction n with
  | zero =>
   intro i hi _;obtain rfl:i=xs.length:=by omega
   rw[aZ_ he];simp[aL_,dK_]
  | succ n ih =>
   intro i hi hki;have hlt:i<xs.length:=by omega
   have h1:=hb i hlt hki;rw[List.drop_eq_getElem_cons hlt];simp only[aL_];cases hg:g i xs[i]with
   | some r=>rw[hg]at h1;exact aZ_ h1
   | none=>rw[hg]at h1;exact bL_ h1 (ih (i+1) (by omega) (by omega))
 have big:∀{σ β:Type} {body:σ->Option (Step σ β)} {n k:Nat} {s:σ} {b:β},ak_ body n s=some b->ak_ body (k+n) s=some b:=by
  intro σ β body n
  induction n with
  | zero=>intro k s b h;cases h
  | succ n ih =>
   intro k s b h;rw[show k+(n+1)=(k+n)+1 by omega];simp only[ak_]at h ⊢;split at h
   .exact h
   .exact ih h
   .exact h
 have h:=key (xs.length-k) k (by omega) (Nat.le_refl _);rw[show BIG=(BIG-(xs.length-k+1))+(xs.length-k+1)by omega];exact big h
abbrev eC_(id:Int)(n:Xq):Bool:=n.Id_==id
def zeroN:Xq:=Xq.mk 0 0 0 [] 0 [] [] [] 0 0 []
def ai_(l:List Xq)(id:Int):Xq×Bool:=match l.find? (eC_ id)with|some n=>(n,true)|none=>(zeroN,false)
theorem qv_(t:Xk)(f:Xq->Option Bool)(p:Xq->Bool)(hf:∀n,f n=some (p n))(h:t.Xz.length<=2000):ni_ t f=some (at_ p t.Xz):=by
 rw[←i3_];refine bl_ (aU_ t.Xz _ (bB_ (by omega)) (λ i hi => ?_) ?_) (λ _=>rfl) rfl
 .unfold mA_;rw[as_ hi,br_ hi,au_ (by omega)];simp only[cond_true,qBs];refine aa_ (hf _) ?_;cases p t.Xz[i]<;>rfl
 .unfold mA_;rw[bA_];rfl
theorem dd_(t:Xk)(id:Int)(h:t.Xz.length<=2000):c7_ t id=some (at_ (eC_ id) t.Xz):=by
 unfold c7_;exact aa_ (qv_ t _ (eC_ id) (λ n=>rfl) h) rfl
theorem cG_(t:Xk)(id:Int)(h:t.Xz.length<=2000):b0_ t id=some (ai_ t.Xz id):=by
 unfold b0_ ai_;refine aa_ (dd_ t id h) ?_;rw[ju_];cases hf:t.Xz.find? (eC_ id)with
 | none=>rfl
 | some n=>exact ac_ rfl (aa_ ((mN_ (eC_ id) _ (by rw[hf];rfl)).trans hf) rfl)
theorem uV_(t:Xk)(id:Int)(h:t.Xz.length<=2000):nG_ t id=some (at_ (eC_ id) t.Xz):=by
 rw[←i3_];refine bl_ (aU_ t.Xz _ (bB_ (by omega)) (λ i hi => ?_) ?_) (λ _=>rfl) rfl
 .unfold ka_;rw[as_ hi,br_ hi,au_ (by omega)];simp only[cond_true,qBs];unfold eC_;cases t.Xz[i].Id_==id<;>rfl
 .unfold ka_;rw[bA_];rfl
theorem lr_(t:Xk)(id:Int)(h:t.Xz.length<=2000):ha_ t id=some (ai_ t.Xz id):=by
 unfold ha_ ai_;refine aa_ (uV_ t id h) ?_;rw[ju_];cases hf:t.Xz.find? (eC_ id)with
 | none=>rfl
 | some n=>exact ac_ rfl (aa_ ((mN_ (eC_ id) _ (by rw[hf];rfl)).trans hf) rfl)
def bt_(x:Int):Int:=ck_ (cv_ x 0) 1099511627776
def aM_(n:Xq):Bool:=aI_ n.Xv&&(decide (0<=n.Xo)&&decide (n.Xo<=2147483647))&&(decide (0<=n.Xu)&&decide (n.Xu<=1099511627776))&&(decide (0<=n.Xa)&&decide (n.Xa<=1099511627776))&&(decide (n.Yw.length<=64)&&(decide (n.Yv.length<=64)&&decide (n.Yg.length<=64)))&&decide (n.Xl.length<=65536)&&(!(an_ n.Xv 31)||n.Xl==[])
structure OkT(l:List Xq)(next:Int):Prop where
 srt:l.Pairwise λ a b=>a.Id_<b.Id_
 root:∃r q,l=r::q/\r.Id_=1/\r.Xw=1/\r.Xy=[47]/\an_ r.Xv 31=true
 flds:∀n∈l,aM_ n=true
 nam:∀n∈l,n.Id_≠1->bM_ n.Xy=true
 par:∀n∈l,n.Id_≠1->∃p∈l,p.Id_=n.Xw/\p.Id_<n.Id_/\an_ p.Xv 31=true
 uniq:∀a∈l,∀b∈l,a.Id_≠1->b.Id_≠1->a.Xw=b.Xw->a.Xy=b.Xy->a.Id_=b.Id_
 nxt:∀n∈l,n.Id_<next
 nx2:next<=1048576
 len:l.length<=1024
theorem gh_{n:Xq}(h:aM_ n=true):aI_ n.Xv=true:=by
 unfold aM_ at h;simp only[qAn]at h;exact h.1.1.1.1.1.1
theorem OkT.mode{l:List Xq}{next:Int}(h:OkT l next){n:Xq}(hn:n∈l):0<=n.Xv/\n.Xv<4294967296:=no_ (gh_ (h.flds n hn))
theorem OkT.ge{l:List Xq}{next:Int}(h:OkT l next){n:Xq}(hn:n∈l):1<=n.Id_:=by
 obtain⟨r,q,rfl,h1,_⟩:=h.root;rcases List.mem_cons.1 hn with rfl|hn
 .omega
 .have:=(List.pairwise_cons.1 h.srt).1 n hn;omega
theorem ok_{l:List Xq}(hs:l.Pairwise λ a b=>a.Id_<b.Id_){a b:Xq}(ha:a∈l)(hb:b∈l)(h:a.Id_=b.Id_):a=b:=by
 induction l with
 | nil=>cases ha
 | cons x l ih =>
  obtain⟨h1,h2⟩:=List.pairwise_cons.1 hs;rcases List.mem_cons.1 ha with ea|ha'
  .rcases List.mem_cons.1 hb with eb|hb'
   .rw[ea,eb]
   .have:=h1 b hb';rw[ea]at h;omega
  .rcases List.mem_cons.1 hb with eb|hb'
   .have:=h1 a ha';rw[eb]at h;omega
   .exact ih h2 ha' hb'
theorem bs_{l:List Xq}{id:Int}(h:(ai_ l id).2=true):(ai_ l id).1∈l/\(ai_ l id).1.Id_=id:=by
 unfold ai_ at h ⊢;cases hf:l.find? (eC_ id)with
 | none=>rw[hf]at h;cases h
 | some n=>exact⟨List.mem_of_find?_eq_some hf,by simpa[eC_]using List.find?_some hf⟩
theorem ph_{l:List Xq}{id:Int}(h:(ai_ l id).2=false):(∀n∈l,n.Id_≠id)/\(ai_ l id).1=zeroN:=by
 unfold ai_ at h ⊢;cases hf:l.find? (eC_ id)with
 | none =>
  rw[List.find?_eq_none]at hf;exact⟨λ n hn e=>hf n hn (by simpa[eC_]using e),rfl⟩
 | some n=>rw[hf]at h;cases h
theorem iI_{l:List Xq}(hs:l.Pairwise λ a b=>a.Id_<b.Id_){n:Xq}(hn:n∈l):ai_ l n.Id_=(n,true):=by
 cases hb:(ai_ l n.Id_).2 with
 | false=>exact absurd rfl ((ph_ hb).1 n hn)
 | true =>
  obtain⟨h1,h2⟩:=bs_ hb;exact Prod.ext (ok_ hs h1 hn h2) hb
theorem OkT.hm{l:List Xq}{next:Int}(h:OkT l next){n:Xq}(hn:n∈l):n.Xv<=9223372036854775807:=by have:=h.mode hn;omega
def isD(l:List Xq)(id:Int):Bool:=(ai_ l id).2&&an_ (ai_ l id).1.Xv 31
def md_(l:List Xq)(id:Int):Int:=bif !(ai_ l id).2 then 8 else bif !(an_ (ai_ l id).1.Xv 31)then 9 else 0
theorem i4_{l:List Xq}{next:Int}(h:OkT l next)(id:Int):(ai_ l id).1.Xv<=9223372036854775807:=by
 cases hb:(ai_ l id).2 with
 | true=>exact h.hm (bs_ hb).1
 | false=>rw[(ph_ hb).2];decide
theorem qw_(t:Xk)(id:Int)(h:OkT t.Xz t.Xt):ge_ t id=some (md_ t.Xz id):=by
 unfold ge_ md_;have hl:=h.len;refine aa_ (cG_ t id (by omega)) ?_;cases(ai_ t.Xz id).2 with
 | false=>rfl
 | true =>
  refine ac_ rfl (aa_ (el_ _ (i4_ h id)) ?_);cases an_ (ai_ t.Xz id).1.Xv 31<;>rfl
def cS_(l:List Xq)(dir:Int):List Int:=(l.filter λ n=>n.Xw==dir&&n.Id_ != 1).map (·.Id_)
theorem rK_{α β:Type}(p:α->Bool)(f:α->β):∀(q:List α) (i:Nat) (acc:List β),fi_ (fun(s:List β) _ x=>bif p x then s++[f x]else s) acc i q=acc++(q.filter p).map f
 | [],i,acc=>by simp[fi_]
 | x::q,i,acc=>by
  simp only[fi_];rw[rK_ p f q,List.filter_cons];cases p x<;>simp
theorem fold_len{β:Type}(c:Bool)(s:List β)(x:β)(i:Nat)(h:s.length<=i):(bif c then s++[x]else s).length<=i+1:=by
 cases c
 .simp;omega
 .simp;omega
theorem qx_(t:Xk)(dir:Int)(h:t.Xz.length<=2000):ak_ (fR_ t dir) BIG (0,[])=some (cS_ t.Xz dir):=by
 have hk:=rK_ (λ n:Xq=>n.Xw==dir&&n.Id_ != 1) (·.Id_) t.Xz 0 [];rw[List.nil_append]at hk;unfold cS_;rw[←hk];refine jt_ (τ:=Int×List Int) t.Xz _ (λ i s=>((i:Int),s)) (λ i s=>s.length<=i) (λ s=>s) [] (bB_ (by omega)) (Nat.le_refl _) (λ i s hi hI=>⟨?_,fold_len _ _ _ _ hI⟩) (λ s hI => ?_)
 .unfold fR_;simp only;rw[br_ hi,as_ hi,au_ (by omega)];refine ah_ rfl ?_;simp only[qBs];cases t.Xz[i].Xw==dir&&t.Xz[i].Id_ != 1 with
  | true=>exact aa_ (a:=s++[t.Xz[i].Id_]) (aa_ (cx_ (by simp;omega) (by simp;omega)) rfl) rfl
  | false=>rfl
 .unfold fR_;simp only;rw[bA_];rfl
theorem isD_par{l:List Xq}{next:Int}(h:OkT l next){dir:Int}{n:Xq}(hn:n∈l)(hp:n.Xw=dir)(h1:n.Id_≠1):isD l dir=true:=by
 obtain⟨p,hp1,hp2,_,hp3⟩:=h.par n hn h1;have:=iI_ h.srt hp1;unfold isD;rw[←hp,←hp2,this];exact hp3
theorem childT_nil{l:List Xq}{next:Int}(h:OkT l next){dir:Int}(hd:isD l dir=false):cS_ l dir=[]:=by
 unfold cS_;rw[List.map_eq_nil_iff,List.filter_eq_nil_iff];intro n hn hc;simp only[qAn,beq_iff_eq,bne_iff_ne]at hc;rw[isD_par h hn hc.1 hc.2]at hd;cases hd
theorem within_zero(l:List Xq)(dir:Int):(md_ l dir != 0) = !(isD l dir):=by
 unfold md_ isD;cases(ai_ l dir).2<;>cases an_ (ai_ l dir).1.Xv 31<;>rfl
theorem iJ_(t:Xk)(dir:Int)(h:OkT t.Xz t.Xt):eK_ t dir=some (cS_ t.Xz dir):=by
 have hl:=h.len;unfold eK_;refine aa_ (qw_ t dir h) ?_;rw[within_zero];cases hd:isD t.Xz dir with
 | false=>rw[childT_nil h hd];rfl
 | true=>exact ac_ rfl (aa_ (qx_ t dir (by omega)) rfl)
theorem clock_ne(x:Int):(x != bt_ x)=(decide (x<0)||decide (x>1099511627776)):=by
 unfold bt_ ck_ cv_;rw[Bool.eq_iff_iff];simp only[bne_iff_ne,ne_eq,Bool.or_eq_true,qDe];split<;>split<;>omega
theorem max3(a b c:Nat)(k:Nat):decide (cv_ (cv_ (a:Int) (b:Int)) (c:Int)>(k:Int)) = !(decide (a<=k)&&(decide (b<=k)&&decide (c<=k))):=by
 unfold cv_;rw[Bool.eq_iff_iff];simp only[qDe,Bool.not_eq_true',Bool.and_eq_false_iff,qDf];split<;>split<;>omega
theorem clock_le(x:Int):(x != bt_ x) = !(decide (0<=x)&&decide (x<=1099511627776)):=by
 rw[clock_ne,Bool.eq_iff_iff];simp only[Bool.or_eq_true,qDe,Bool.not_eq_true',Bool.and_eq_false_iff,qDf];omega
theorem wp_(n:Xq)(hm:n.Xv<=9223372036854775807):jo_ n=some (aM_ n):=by
 unfold jo_ aM_;refine aa_ (lq_ _ hm) ?_;have e1:decide (n.Xo<0) = !(decide (0<=n.Xo)):=by rw[Bool.eq_iff_iff];simp
 have e2:decide (n.Xo>2147483647) = !(decide (n.Xo<=2147483647)):=by rw[Bool.eq_iff_iff];simp
 rw[e1,e2];cases aI_ n.Xv with
 | false=>rfl
 | true =>
  cases decide (0<=n.Xo)with
  | false=>rfl
  | true =>
   cases decide (n.Xo<=2147483647)with
   | false=>rfl
   | true =>
    refine aa_ (a:=n.Xu != bt_ n.Xu) rfl ?_;rw[clock_le n.Xu];cases decide (0<=n.Xu)&&decide (n.Xu<=1099511627776)with
    | false=>rfl
    | true =>
     refine aa_ (a:=n.Xa != bt_ n.Xa) rfl ?_;rw[clock_le n.Xa];cases decide (0<=n.Xa)&&decide (n.Xa<=1099511627776)with
     | false=>rfl
     | true =>
      refine ac_ rfl ?_;rw[show(64:Int)=((64:Nat):Int)from rfl,max3];cases decide (n.Yw.length<=64)&&(decide (n.Yv.length<=64)&&decide (n.Yg.length<=64))with
      | false=>rfl
      | true =>
       have e3:decide ((n.Xl.length:Int)>65536) = !(decide (n.Xl.length<=65536)):=by rw[Bool.eq_iff_iff];simp;omega
       rw[e3];cases decide (n.Xl.length<=65536)with
       | false=>rfl
       | true=>exact ac_ rfl (aa_ (el_ _ hm) (by simp))
def okNodeD(D:Bool)(n:Xq):Bool:=aI_ n.Xv&&(decide (0<=n.Xo)&&decide (n.Xo<=2147483647))&&(decide (0<=n.Xu)&&decide (n.Xu<=1099511627776))&&(decide (0<=n.Xa)&&decide (n.Xa<=1099511627776))&&(decide (n.Yw.length<=64)&&(decide (n.Yv.length<=64)&&decide (n.Yg.length<=64)))&&decide (n.Xl.length<=65536)&&(!D||n.Xl==[])
theorem np_(n:Xq)(hm:n.Xv<=9223372036854775807):gN_ n=some (aM_ n):=by
 have e0:aM_ n=okNodeD (decide (n.Xv>=2147483648)) n:=by
  unfold aM_ okNodeD;cases hk:aI_ n.Xv with
  | false=>simp
  | true=>rw[iH_ hk]
 rw[e0];unfold gN_ okNodeD;refine aa_ (wo_ _ hm) ?_;have e1:decide (n.Xo<0) = !(decide (0<=n.Xo)):=by rw[Bool.eq_iff_iff];simp
 have e2:decide (n.Xo>2147483647) = !(decide (n.Xo<=2147483647)):=by rw[Bool.eq_iff_iff];simp
 have e3:decide (n.Xu<0) = !(decide (0<=n.Xu)):=by rw[Bool.eq_iff_iff];simp
 have e4:decide (n.Xu>1099511627776) = !(decide (n.Xu<=1099511627776)):=by rw[Bool.eq_iff_iff];simp
 have e5:decide (n.Xa<0) = !(decide (0<=n.Xa)):=by rw[Bool.eq_iff_iff];simp
 have e6:decide (n.Xa>1099511627776) = !(decide (n.Xa<=1099511627776)):=by rw[Bool.eq_iff_iff];simp
 have e7:∀s:Str,decide ((s.length:Int)>64) = !(decide (s.length<=64)):=λ s=>by rw[Bool.eq_iff_iff];simp;omega
 have e8:decide ((n.Xl.length:Int)>65536) = !(decide (n.Xl.length<=65536)):=by rw[Bool.eq_iff_iff];simp;omega
 rw[e1,e2,e3,e4,e5,e6,e7,e7,e7,e8];cases aI_ n.Xv<;>cases decide (0<=n.Xo)<;>cases decide (n.Xo<=2147483647)<;>cases decide (0<=n.Xu)<;>cases decide (n.Xu<=1099511627776)<;>cases decide (0<=n.Xa)<;>cases decide (n.Xa<=1099511627776)<;>try rfl
 cases decide (n.Yw.length<=64)<;>cases decide (n.Yv.length<=64)<;>cases decide (n.Yg.length<=64)<;>cases decide (n.Xl.length<=65536)<;>rfl
def fj_(l:List Xq)(i:Nat):Xq:=l.getD (i-1) zeroN
def dh_(a b:Xq):Bool:=a.Xw==b.Xw&&a.Xy==b.Xy
def StepOK(l:List Xq)(i:Nat)(n:Xq):Prop:=(fj_ l i).Id_<n.Id_/\bM_ n.Xy=true/\(∃p∈l.take i,p.Id_=n.Xw/\an_ p.Xv 31=true)/\∀c∈(l.take i).drop 1,dh_ c n=false
def RootOK(n:Xq):Prop:=n.Id_=1/\n.Xw=1/\n.Xy=[47]/\an_ n.Xv 31=true
theorem mem_take{α:Type}{l:List α}{i:Nat}{x:α}:x∈l.take i↔∃j,j<i/\l[j]? = some x:=by
 rw[List.mem_iff_getElem?];constructor
 .rintro⟨j,hj⟩;rw[List.getElem?_take]at hj;split at hj
  .exact⟨j,by assumption,hj⟩
  .cases hj
 .rintro⟨j,h1,h2⟩;exact⟨j,by rw[List.getElem?_take,if_pos h1];exact h2⟩
theorem mem_take_drop{α:Type}{l:List α}{i:Nat}{x:α}:x∈(l.take i).drop 1↔∃j,0<j/\j<i/\l[j]? = some x:=by
 rw[List.mem_iff_getElem?];constructor
 .rintro⟨j,hj⟩;rw[List.getElem?_drop,List.getElem?_take]at hj;split at hj
  .exact⟨1+j,by omega,by assumption,hj⟩
  .cases hj
 .rintro⟨j,h0,h1,h2⟩;exact⟨j-1,by rw[List.getElem?_drop,List.getElem?_take,show 1+(j-1)=j by omega,if_pos h1];exact h2⟩
theorem qz_{l:List Xq}{i:Nat}(h0:0<i)(hi:i<l.length):l[i-1]? = some (fj_ l i):=by
 unfold fj_;rw[List.getD_eq_getElem?_getD,List.getElem?_eq_getElem (by omega)];rfl
theorem srt_iff{l:List Xq}:(l.Pairwise λ a b=>a.Id_<b.Id_)↔∀i n,0<i->l[i]? = some n->(fj_ l i).Id_<n.Id_:=by
 rw[List.pairwise_iff_getElem];constructor
 .intro h i n h0 hn;obtain⟨hi,rfl⟩:=List.getElem?_eq_some_iff.1 hn;have:=qz_ h0 hi;obtain⟨_,e⟩:=List.getElem?_eq_some_iff.1 this;rw[←e];exact h _ _ _ _ (by omega)
 .intro h;have key:∀(d i:Nat) (hj:i+d+1<l.length),(l[i]'(by omega)).Id_<(l[i+d+1]'hj).Id_:=by
   intro d
   induction d with
   | zero =>
    intro i hj;have:=h (i+1) _ (by omega) (List.getElem?_eq_getElem (by omega));have e:=qz_ (l:=l) (i:=i+1) (by omega) (by omega);obtain⟨_,e⟩:=List.getElem?_eq_some_iff.1 e;rw[←e]at this;exact this
   | succ d ih =>
    intro i hj;have h1:=ih i (by omega);have:=h (i+d+1+1) _ (by omega) (List.getElem?_eq_getElem (by omega));have e:=qz_ (l:=l) (i:=i+d+1+1) (by omega) (by omega);obtain⟨_,e⟩:=List.getElem?_eq_some_iff.1 e;rw[←e]at this;simp only[Nat.add_sub_cancel]at this;exact Int.lt_trans h1 this
  intro i j hi hj hij;have:=key (j-i-1) i (by omega);simpa[show i+(j-i-1)+1=j by omega]using this
theorem OkT_iff{l:List Xq}{next:Int}:OkT l next↔1<=l.length/\l.length<=1024/\next<=1048576/\(∀n,l[0]? = some n->RootOK n)/\(∀n∈l,aM_ n=true)/\(∀n∈l,n.Id_<next)/\∀i n,0<i->l[i]? = some n->StepOK l i n:=by
 constructor
 .intro h;have hmem:∀{i:Nat} {n:Xq},l[i]? = some n->n∈l:=λ h=>List.mem_iff_getElem?.2 ⟨_,h⟩
  have lt:∀{i j:Nat} {a b:Xq},l[i]? = some a->l[j]? = some b->a.Id_<b.Id_->i<j:=fun{i j a b} ha hb hab=>by
   rcases Nat.lt_trichotomy i j with h1|h1|h1
   .exact h1
   .subst h1;rw[ha]at hb;cases hb;omega
   .have:=List.pairwise_iff_getElem.1 h.srt j i (List.getElem?_eq_some_iff.1 hb).1 (List.getElem?_eq_some_iff.1 ha).1 h1;rw[(List.getElem?_eq_some_iff.1 ha).2,(List.getElem?_eq_some_iff.1 hb).2]at this;omega
  have gt:∀{i j:Nat} {a b:Xq},l[i]? = some a->l[j]? = some b->i<j->a.Id_<b.Id_:=fun{i j a b} ha hb hab=>by
   have:=List.pairwise_iff_getElem.1 h.srt i j (List.getElem?_eq_some_iff.1 ha).1 (List.getElem?_eq_some_iff.1 hb).1 hab;rw[(List.getElem?_eq_some_iff.1 ha).2,(List.getElem?_eq_some_iff.1 hb).2]at this;exact this
  obtain⟨r,q,hl,hr⟩:=h.root;have h0:l[0]? = some r:=by rw[hl];rfl
  refine⟨by rw[hl];simp,h.len,h.nx2,λ n hn => ?_,h.flds,h.nxt,λ i n hi hn => ?_⟩
  .rw[h0]at hn;cases hn;exact hr
  .have h1:n.Id_≠1:=by have:=gt h0 hn hi;rw[hr.1]at this;omega
   refine⟨srt_iff.1 h.srt i n hi hn,h.nam n (hmem hn) h1,?_,λ c hc => ?_⟩
   .obtain⟨p,p1,p2,p3,p4⟩:=h.par n (hmem hn) h1;obtain⟨j,hj⟩:=List.mem_iff_getElem?.1 p1;exact⟨p,mem_take.2 ⟨j,lt hj hn p3,hj⟩,p2,p4⟩
   .obtain⟨j,j0,j1,hj⟩:=mem_take_drop.1 hc;cases hs:dh_ c n with
    | false=>rfl
    | true =>
     unfold dh_ at hs;rw[qAn,beq_iff_eq,beq_iff_eq]at hs;have c1:c.Id_≠1:=by have:=gt h0 hj j0;rw[hr.1]at this;omega
     have:=h.uniq c (hmem hj) n (hmem hn) c1 h1 hs.1 hs.2;have:=gt hj hn j1;omega
 .rintro⟨h1,h2,h3,h4,h5,h6,h7⟩;have srt:l.Pairwise λ a b=>a.Id_<b.Id_:=srt_iff.2 λ i n hi hn=>(h7 i n hi hn).1
  have gt:∀{i j:Nat} {a b:Xq},l[i]? = some a->l[j]? = some b->i<j->a.Id_<b.Id_:=fun{i j a b} ha hb hab=>by
   have:=List.pairwise_iff_getElem.1 srt i j (List.getElem?_eq_some_iff.1 ha).1 (List.getElem?_eq_some_iff.1 hb).1 hab;rw[(List.getElem?_eq_some_iff.1 ha).2,(List.getElem?_eq_some_iff.1 hb).2]at this;exact this
  cases l with
  | nil=>exact absurd h1 (by simp)
  | cons r q =>
   have hr:=h4 r rfl;have pos:∀{i:Nat} {n:Xq},(r::q)[i]? = some n->n.Id_≠1->0<i:=fun{i n} hn hne=>by
    rcases Nat.eq_zero_or_pos i with rfl|h0
    .cases hn;exact absurd hr.1 hne
    .exact h0
   refine⟨srt,⟨r,q,rfl,hr⟩,h5,λ n hn hne => ?_,λ n hn hne => ?_,λ a ha b hb ha1 hb1 hp hnm => ?_,h6,h3,h2⟩
   .obtain⟨i,hi⟩:=List.mem_iff_getElem?.1 hn;exact(h7 i n (pos hi hne) hi).2.1
   .obtain⟨i,hi⟩:=List.mem_iff_getElem?.1 hn;obtain⟨p,hp,p1,p2⟩:=(h7 i n (pos hi hne) hi).2.2.1;obtain⟨j,hj,e⟩:=mem_take.1 hp;exact⟨p,List.mem_iff_getElem?.2 ⟨_,e⟩,p1,gt e hi hj,p2⟩
   .obtain⟨i,hi⟩:=List.mem_iff_getElem?.1 ha;obtain⟨j,hj⟩:=List.mem_iff_getElem?.1 hb;rcases Nat.lt_trichotomy i j with h|h|h
    .have:=(h7 j b (pos hj hb1) hj).2.2.2 a (mem_take_drop.2 ⟨i,pos hi ha1,h,hi⟩);unfold dh_ at this;rw[hp,hnm]at this;simp at this
    .subst h;rw[hi]at hj;cases hj;rfl
    .have:=(h7 i a (pos hi ha1) hi).2.2.2 b (mem_take_drop.2 ⟨j,pos hj hb1,h,hj⟩);unfold dh_ at this;rw[hp,hnm]at this;simp at this
def CntP{κ α:Type}(eq : κ -> κ -> Bool)(P : κ -> α->Bool)(ks:List κ)(vs:List Int)(l:List α):Prop:=ks.length=vs.length/\∀k,aG_ eq ks vs k 0=((l.countP (P k):Nat):Int)
theorem CntP.nil{κ α:Type}{eq : κ -> κ -> Bool}{P : κ -> α->Bool}:CntP eq P [] [] []:=⟨rfl,λ _=>by simp[aG_]⟩
theorem CntP.put{κ α:Type}{eq : κ -> κ -> Bool}{P : κ -> α->Bool}(hq:∀x y,eq x y=true↔x=y){ks:List κ}{vs:List Int}{l:List α}(h:CntP eq P ks vs l){x:α}{key : κ}(hx:∀k,P k x=eq k key)(hl:l.length<=2000) :
  CntP eq P (aQ_ eq ks key) (bm_ eq ks vs key (w64 (aG_ eq ks vs key 0+1))) (l++[x]):=by
 refine⟨pf_ h.1,λ n => ?_⟩;have hc:=List.countP_le_length (p:=P key) (l:=l);rw[pg_ hq h.1,h.2 key,h.2 n,au_ (by omega),List.countP_append];have e:List.countP (P n) [x]=if eq n key then 1 else 0:=by simp[List.countP_cons,hx]
 rw[e];cases hn:eq n key with
 | true=>obtain rfl:=(hq _ _).1 hn;rfl
 | false=>rfl
theorem CntP.skip{κ α:Type}{eq : κ -> κ -> Bool}{P : κ -> α->Bool}{ks:List κ}{vs:List Int}{l:List α}(h:CntP eq P ks vs l){x:α}(hx:∀k,P k x=false):CntP eq P ks vs (l++[x]) :=
 ⟨h.1,λ k=>by rw[h.2 k,List.countP_append];simp[hx]⟩
theorem CntP.put2{κ α:Type}{eq : κ -> κ -> Bool}{P : κ -> α->Bool}(hq:∀x y,eq x y=true↔x=y){ks:List κ}{vs:List Int}{l:List α}(h:CntP eq P ks vs l){x:α}{key : κ}(hx:∀k,P k x=eq k key)(hl:l.length<=2000) :
  CntP eq P (aQ_ eq (aQ_ eq ks key) key) (bm_ eq (aQ_ eq ks key) (bm_ eq ks vs key (aG_ eq ks vs key 0)) key (w64 (aG_ eq ks vs key 0+1))) (l++[x]) /\
  aG_ eq (aQ_ eq ks key) (bm_ eq ks vs key (aG_ eq ks vs key 0)) key 0=aG_ eq ks vs key 0:=by
 have e:∀n,aG_ eq (aQ_ eq ks key) (bm_ eq ks vs key (aG_ eq ks vs key 0)) n 0=aG_ eq ks vs n 0:=λ n=>by
  rw[pg_ hq h.1];cases hn:eq n key with
  | true=>obtain rfl:=(hq _ _).1 hn;rfl
  | false=>rfl
 have h':CntP eq P (aQ_ eq ks key) (bm_ eq ks vs key (aG_ eq ks vs key 0)) l:=⟨pf_ h.1,λ n=>by rw[e];exact h.2 n⟩;refine⟨?_,e key⟩;have:=h'.put hq hx hl;rw[e key]at this;exact this
theorem CntP.zero{κ α:Type}{eq : κ -> κ -> Bool}{P : κ -> α->Bool}{ks:List κ}{vs:List Int}{l:List α}(h:CntP eq P ks vs l)(k : κ):(aG_ eq ks vs k 0==0) = !(l.any (P k)):=by
 rw[h.2 k,Bool.eq_iff_iff,beq_iff_eq,Bool.not_eq_true',List.any_eq_false];have:((l.countP (P k):Nat):Int)=0↔l.countP (P k)=0:=by omega
 rw[this,List.countP_eq_zero]
theorem CntP.pos{κ α:Type}{eq : κ -> κ -> Bool}{P : κ -> α->Bool}{ks:List κ}{vs:List Int}{l:List α}(h:CntP eq P ks vs l)(k : κ):decide (aG_ eq ks vs k 0>0)=l.any (P k):=by
 rw[h.2 k,Bool.eq_iff_iff,qDe,List.any_eq_true];have:((l.countP (P k):Nat):Int)>0↔0<l.countP (P k):=by omega
 rw[this,List.countP_pos_iff]
def dirP(k:Int)(n:Xq):Bool:=k==n.Id_&&an_ n.Xv 31
abbrev eqPl(a b:Xn):Bool:=decide (a=b)
def plP(k:Xn)(n:Xq):Bool:=eqPl k (Xn.mk n.Xw n.Xy)
theorem plP_same(c n:Xq):plP (Xn.mk n.Xw n.Xy) c=dh_ c n:=by
 unfold plP dh_ eqPl;rw[Bool.eq_iff_iff];simp only[qDe,Xn.mk.injEq,qAn,beq_iff_eq];exact⟨fun⟨h1,h2⟩=>⟨h1.symm,h2.symm⟩,fun⟨h1,h2⟩=>⟨h1.symm,h2.symm⟩⟩
def okAt(l:List Xq)(i:Nat)(n:Xq):Bool:=bif i==0 then n.Id_==1&&(n.Xw==1&&(n.Xy==[47]&&an_ n.Xv 31))else bM_ n.Xy&&((l.take i).any (dirP n.Xw) && !(((l.take i).drop 1).any (plP (Xn.mk n.Xw n.Xy))))
def tB(l:List Xq)(next:Int)(i:Nat)(n:Xq):Bool:=aM_ n&&(decide (n.Id_<next)&&((i==0||decide ((fj_ l i).Id_<n.Id_))&&okAt l i n))
def gT(l:List Xq)(next:Int)(i:Nat)(n:Xq):Option Bool:=if tB l next i n then none else some false
theorem ol_{l:List Xq}{i:Nat}(hi:i<l.length)(h0:0<i):(l.take (i+1)).drop 1=(l.take i).drop 1++[l[i]]:=by
 rw[iq_ hi,List.drop_append,List.length_take,show(1-min i l.length)=0 by omega];rfl
theorem tJ_(t:Xk)(i:Nat)(hi:i<t.Xz.length)(hl:t.Xz.length<=1024)(hm:∀n∈t.Xz,n.Xv<=9223372036854775807/\n.Xy.length<=9223372036854775807){dk:List Int}{dv:List Int}{pk:List Xn}{pv:List Int}
  (h1:CntP eqI dirP dk dv (t.Xz.take i)) (h2:CntP eqPl plP pk pv ((t.Xz.take i).drop 1)) :
  (tB t.Xz t.Xt i t.Xz[i]=false/\cJ_ t ((i:Int),dk,dv,pk,pv)=some (.done (.ret false))) \/
  (tB t.Xz t.Xt i t.Xz[i]=true/\∃dk' dv' pk' pv',cJ_ t ((i:Int),dk,dv,pk,pv)=some (.next (((i+1:Nat):Int),dk',dv',pk',pv'))/\CntP eqI dirP dk' dv' (t.Xz.take (i+1))/\CntP eqPl plP pk' pv' ((t.Xz.take (i+1)).drop 1)):=by
 have hmem:=List.getElem_mem hi;obtain⟨hm1,hm2⟩:=hm _ hmem;unfold cJ_;simp only;rw[br_ hi,as_ hi,au_ (by omega)];simp only[cond_true,qBs];rw[wp_ _ hm1];simp only[qBs];have hnx:decide (t.Xz[i].Id_>=t.Xt) = !(decide (t.Xz[i].Id_<t.Xt)):=by rw[Bool.eq_iff_iff];simp
 rw[hnx];have htk:t.Xz.take (i+1)=t.Xz.take i++[t.Xz[i]]:=iq_ hi;have hdir:∀{A B:Option (Out ((List Int)×(List Int)×(List Xn)×(List Int)) Bool)},(Option.bind (bu_ t.Xz[i].Xv) fun(y22:Bool)=>bif y22 then A else B)=bif an_ t.Xz[i].Xv 31 then A else B:=by
  intro A B;rw[el_ _ hm1];rfl
 -- the directories counted after this node
 have hD:∃dk' dv',(∀(p q:_),(bif an_ t.Xz[i].Xv 31 then some (.fall (aQ_ eqI dk t.Xz[i].Id_,bm_ eqI dk dv t.Xz[i].Id_ (w64 (aG_ eqI dk dv t.Xz[i].Id_ 0+1)),p,q))else some (.fall (dk,dv,p,q)):Option (Out ((List Int)×(List Int)×(List Xn)×(List Int)) Bool))=some (.fall (dk',dv',p,q)))/\CntP eqI dirP dk' dv' (t.Xz.take (i+1)):=by
  rw[htk];cases hh:an_ t.Xz[i].Xv 31 with
  | true=>exact⟨_,_,λ p q=>rfl,h1.put eqI_iff (λ k=>by unfold dirP eqI;rw[hh,Bool.and_true]) (by rw[List.length_take];omega)⟩
  | false=>exact⟨dk,dv,λ p q=>rfl,h1.skip (λ k=>by unfold dirP;rw[hh,Bool.and_false])⟩
 obtain⟨dk',dv',hD1,hD2⟩:=hD;cases ho:aM_ t.Xz[i]with
 | false=>exact .inl ⟨by unfold tB;rw[ho];rfl,rfl⟩
 | true =>
  cases hx:decide (t.Xz[i].Id_<t.Xt)with
  | false=>exact .inl ⟨by unfold tB;rw[ho,hx];rfl,rfl⟩
  | true =>
   simp only[Bool.not_true,Bool.or_self,cond_false];rcases Nat.eq_zero_or_pos i with rfl|h0
   .
    have e0:decide (((0:Nat):Int)>0)=false:=rfl;have e1:(((0:Nat):Int)==0)=true:=rfl;rw[e0,e1];simp only[cond_false,cond_true,qBs];have hroot:(Option.bind (bif(((t.Xz[0].Id_ != 1)||(t.Xz[0].Xw != 1))||(!(t.Xz[0].Xy==[47])))then some true else Option.bind (bu_ t.Xz[0].Xv) fun(y17:Bool)=>some (!y17)) fun(y18:Bool)=>(bif y18 then some (.ret (false))else some (.fall ())):Option (Out Unit Bool))=bif okAt t.Xz 0 t.Xz[0]then some (.fall ())else some (.ret false):=by
     rw[el_ _ hm1];unfold okAt bne;simp only[qBs];cases t.Xz[0].Id_==1<;>cases t.Xz[0].Xw==1<;>cases t.Xz[0].Xy==[47]<;>cases an_ t.Xz[0].Xv 31<;>rfl
    rw[hroot];cases hk:okAt t.Xz 0 t.Xz[0]with
    | false=>exact .inl ⟨by unfold tB;rw[ho,hx,hk];rfl,rfl⟩
    | true =>
     refine .inr ⟨by unfold tB;rw[ho,hx,hk];rfl,dk',dv',pk,pv,?_,hD2,?_⟩
     .simp only[cond_true,qBs];rw[hdir,hD1];rfl
     .have e:(t.Xz.take (0+1)).drop 1=(t.Xz.take 0).drop 1:=by rw[htk];simp
      rw[e];exact h2
   .have e0:decide ((i:Int)>0)=true:=by simpa using h0
    have e1:((i:Int)==0)=false:=by simp;omega
    have e2:(i==0)=false:=by simp;omega
    have hp:al_ t.Xz (w64 ((i:Int)-1))=some (fj_ t.Xz i):=iE_ zeroN h0 hi hl;rw[e0,e1,hp];have hle:decide (t.Xz[i].Id_<=(fj_ t.Xz i).Id_) = !(decide ((fj_ t.Xz i).Id_<t.Xz[i].Id_)):=by rw[Bool.eq_iff_iff];simp
    simp only[cond_true,qBs];rw[hle];cases hs:decide ((fj_ t.Xz i).Id_<t.Xz[i].Id_)with
    | false=>exact .inl ⟨by unfold tB;rw[ho,hx,hs,e2];rfl,rfl⟩
    | true =>
     simp only[Bool.not_true,cond_false];have hnode:(Option.bind (cI_ t.Xz[i].Xy) fun(y19:Bool)=>Option.bind (bif(!y19)then some true else some ((aG_ eqI dk dv t.Xz[i].Xw 0)==0)) fun(y20:Bool)=>Option.bind (bif y20 then some true else some (decide ((aG_ (fun(a b:Xn)=>decide (a=b)) pk pv (Xn.mk t.Xz[i].Xw t.Xz[i].Xy) 0)>0))) fun(y21:Bool)=>(bif y21 then some (.ret (false))else some (.fall ())):Option (Out Unit Bool))=bif okAt t.Xz i t.Xz[i]then some (.fall ())else some (.ret false):=by
      rw[hq_ _ hm2];unfold okAt;rw[h1.zero,e2];have:=h2.pos (Xn.mk t.Xz[i].Xw t.Xz[i].Xy);unfold eqPl at this;rw[this];simp only[qBs,cond_false];cases bM_ t.Xz[i].Xy<;>cases(t.Xz.take i).any (dirP t.Xz[i].Xw)<;>cases((t.Xz.take i).drop 1).any (plP (Xn.mk t.Xz[i].Xw t.Xz[i].Xy))<;>rfl
     rw[hnode];cases hk:okAt t.Xz i t.Xz[i]with
     | false=>exact .inl ⟨by unfold tB;rw[ho,hx,hk];simp,rfl⟩
     | true =>
      obtain⟨c1,c2⟩:=h2.put2 (x:=t.Xz[i]) (key:=Xn.mk t.Xz[i].Xw t.Xz[i].Xy) (λ x y=>decide_eq_true_iff) (λ k=>rfl) (by rw[List.length_drop,List.length_take];omega);refine .inr ⟨by unfold tB;rw[ho,hx,hk,hs];simp,dk',dv',_,_,?_,hD2,by rw[ol_ hi h0];exact c1⟩;simp only[cond_true,qBs];rw[c2,eS_];simp only[qBs];rw[hdir,hD1];rfl
theorem tK_(t:Xk)(hl:t.Xz.length<=1024)(hm:∀n∈t.Xz,n.Xv<=9223372036854775807/\n.Xy.length<=9223372036854775807) :
  ak_ (cJ_ t) BIG (0,([]:List Int),([]:List Int),([]:List Xn),([]:List Int))=some (dK_ (aL_ (gT t.Xz t.Xt) 0 t.Xz)):=by
 refine fe_ (body:=cJ_ t) (J:=λ i s b=>∃dk dv pk pv,s=((i:Int),dk,dv,pk,pv)/\CntP eqI dirP dk dv (t.Xz.take i)/\CntP eqPl plP pk pv ((t.Xz.take i).drop 1)/\b=dK_ (aL_ (gT t.Xz t.Xt) i (t.Xz.drop i))) t.Xz.length (bB_ (by omega)) (λ s b hJ => ?_) (λ i s b hi hJ => ?_) ⟨[],[],[],[],rfl,CntP.nil,by simp[CntP.nil],by simp⟩
 .obtain⟨dk,dv,pk,pv,rfl,_,_,rfl⟩:=hJ;unfold cJ_;simp only;rw[bA_];simp[aL_,dK_]
 .obtain⟨dk,dv,pk,pv,rfl,h1,h2,rfl⟩:=hJ;rw[List.drop_eq_getElem_cons hi];rcases tJ_ t i hi hl hm h1 h2 with⟨hb,hr⟩|⟨hb,dk',dv',pk',pv',hr,h1',h2'⟩
  .exact .inl (by rw[hr];simp[aL_,gT,hb,dK_])
  .exact .inr ⟨_,hr,dk',dv',pk',pv',rfl,h1',h2',by simp[aL_,gT,hb]⟩
theorem pj_{α:Type}{g:Nat->α->Option Bool}{p:Nat->α->Bool}(hg:∀i x,g i x=if p i x then none else some false)(l:List α)(k:Nat):(aL_ g k l).getD true=true↔∀i x,l[i]? = some x->p (k+i) x=true:=by
 cases hs:aL_ g k l with
 | none =>
  refine⟨λ _ i x hx => ?_,λ _=>rfl⟩;have:=scan_none.1 hs i x hx;rw[hg]at this;cases hp:p (k+i) x with
  | true=>rfl
  | false=>rw[hp]at this;cases this
 | some r =>
  obtain⟨i,x,hx,h1,_⟩:=qu_ hs;rw[hg]at h1;cases hp:p (k+i) x with
  | true=>rw[hp]at h1;cases h1
  | false =>
   rw[hp]at h1;obtain rfl:false=r:=by cases h1;rfl
   refine⟨λ h=>(nomatch h),λ h => ?_⟩;rw[h i x hx]at hp;cases hp
theorem hr_(t:Xk)(hl:t.Xz.length<=1024)(hm:∀n∈t.Xz,n.Xv<=9223372036854775807/\n.Xy.length<=9223372036854775807):∃b,dD_ t=some b/\(b=true↔OkT t.Xz t.Xt):=by
 unfold dD_;cases hc:((decide ((t.Xz.length:Int)<1))||(decide ((t.Xz.length:Int)>1024)))||(decide (t.Xt>1048576))with
 | true =>
  refine⟨false,ah_ rfl rfl,λ h=>(nomatch h),λ h => ?_⟩;obtain⟨h1,h2,h3,_⟩:=OkT_iff.1 h;simp only[Bool.or_eq_true,qDe]at hc;omega
 | false =>
  simp only[Bool.or_eq_false_iff,qDf]at hc;refine⟨(aL_ (gT t.Xz t.Xt) 0 t.Xz).getD true,ac_ rfl (bl_ (tK_ t hl hm) (λ _=>rfl) rfl),?_⟩;rw[pj_ (g:=gT t.Xz t.Xt) (p:=tB t.Xz t.Xt) (λ _ _=>rfl),OkT_iff];simp only[Nat.zero_add];have tk:∀i (n:Xq),tB t.Xz t.Xt i n=true↔aM_ n=true/\n.Id_<t.Xt/\(i=0\/(fj_ t.Xz i).Id_<n.Id_)/\okAt t.Xz i n=true:=λ i n=>by
   unfold tB;simp only[qAn,Bool.or_eq_true,qDe,beq_iff_eq]
  have ok0:∀n,okAt t.Xz 0 n=true↔RootOK n:=λ n=>by
   unfold okAt RootOK;simp only[beq_self_eq_true,cond_true,qAn,beq_iff_eq]
  have okS:∀i n,0<i->(okAt t.Xz i n=true↔bM_ n.Xy=true/\(∃p∈t.Xz.take i,p.Id_=n.Xw/\an_ p.Xv 31=true)/\∀c∈(t.Xz.take i).drop 1,dh_ c n=false):=λ i n h0=>by
   unfold okAt;rw[show(i==0)=false by simp;omega];simp only[cond_false,qAn,Bool.not_eq_true',List.any_eq_true,List.any_eq_false,plP_same,dirP,beq_iff_eq,Bool.not_eq_true];constructor
   .rintro⟨h1,⟨p,p1,p2,p3⟩,h3⟩;exact⟨h1,⟨p,p1,p2.symm,p3⟩,h3⟩
   .rintro⟨h1,⟨p,p1,p2,p3⟩,h3⟩;exact⟨h1,⟨p,p1,p2.symm,p3⟩,h3⟩
  constructor
  .intro h;refine⟨by omega,by omega,by omega,λ n hn=>(ok0 n).1 ((tk 0 n).1 (h 0 n hn)).2.2.2,λ n hn => ?_,λ n hn => ?_,λ i n h0 hn => ?_⟩
   .obtain⟨i,hi⟩:=List.mem_iff_getElem?.1 hn;exact((tk i n).1 (h i n hi)).1
   .obtain⟨i,hi⟩:=List.mem_iff_getElem?.1 hn;exact((tk i n).1 (h i n hi)).2.1
   .obtain⟨a,b,c,d⟩:=(tk i n).1 (h i n hn);exact⟨c.resolve_left (by omega),(okS i n h0).1 d⟩
  .rintro⟨h1,h2,h3,h4,h5,h6,h7⟩ i n hn;have hm:=List.mem_iff_getElem?.2 ⟨_,hn⟩;rcases Nat.eq_zero_or_pos i with rfl|h0
   .exact(tk 0 n).2 ⟨h5 n hm,h6 n hm,.inl rfl,(ok0 n).2 (h4 n hn)⟩
   .obtain⟨a,b⟩:=h7 i n h0 hn;exact(tk i n).2 ⟨h5 n hm,h6 n hm,.inr a,(okS i n h0).2 b⟩
def dirD(n c:Xq):Bool:=c.Id_==n.Xw&&decide (c.Xv>=2147483648)
theorem ref10_inner(t:Xk)(i:Nat)(hi:i<t.Xz.length)(hl:t.Xz.length<=1024) :
  ak_ (em_ (i:Int) t) BIG (false,0)=some (bif((t.Xz.take i).drop 1).any (λ c=>dh_ c t.Xz[i])then .ret false else .fall ((t.Xz.take i).any (dirD t.Xz[i]))):=by
 refine fe_ (body:=em_ (i:Int) t) (J:=λ j s b=>j<=i/\s=((t.Xz.take j).any (dirD t.Xz[i]),(j:Int))/\((t.Xz.take j).drop 1).any (λ c=>dh_ c t.Xz[i])=false/\b=bif((t.Xz.take i).drop 1).any (λ c=>dh_ c t.Xz[i])then .ret false else .fall ((t.Xz.take i).any (dirD t.Xz[i]))) i (by show i<18446744073709551616;omega) (λ s b hJ => ?_) (λ j s b hj hJ => ?_) ⟨Nat.zero_le _,rfl,by simp,rfl⟩
 .obtain⟨_,rfl,h2,rfl⟩:=hJ;rw[h2];unfold em_;simp only;rw[bA_];rfl
 .obtain⟨_,rfl,h2,rfl⟩:=hJ;have hjl:j<t.Xz.length:=by omega
  have htk:t.Xz.take (j+1)=t.Xz.take j++[t.Xz[j]]:=iq_ hjl;have hany:(t.Xz.take (j+1)).any (dirD t.Xz[i])=((t.Xz.take j).any (dirD t.Xz[i])||dirD t.Xz[i] t.Xz[j]):=by rw[htk,List.any_append];simp
  have hbody:em_ (i:Int) t ((t.Xz.take j).any (dirD t.Xz[i]),(j:Int))=bif(decide (0<j)&&dh_ t.Xz[j] t.Xz[i])then some (.done (.ret false))else some (.next ((t.Xz.take (j+1)).any (dirD t.Xz[i]),((j+1:Nat):Int))):=by
   unfold em_;simp only;rw[br_ hj,as_ hjl,as_ hi,au_ (by omega),hany];have e0:decide ((j:Int)>0)=decide (0<j):=by rw[Bool.eq_iff_iff];simp
   rw[e0];unfold dirD dh_ ce_;simp only[cond_true,qBs];cases(t.Xz.take j).any λ c=>c.Id_==t.Xz[i].Xw&&decide (c.Xv>=2147483648)<;>cases t.Xz[j].Id_==t.Xz[i].Xw<;>cases decide (t.Xz[j].Xv>=2147483648)<;>cases decide (0<j)<;>cases t.Xz[j].Xw==t.Xz[i].Xw<;>cases t.Xz[j].Xy==t.Xz[i].Xy<;>rfl
  cases hd:decide (0<j)&&dh_ t.Xz[j] t.Xz[i]with
  | true =>
   rw[hd]at hbody;refine .inl ?_;rw[hbody];rw[qAn,qDe]at hd;have:((t.Xz.take i).drop 1).any (λ c=>dh_ c t.Xz[i])=true:=List.any_eq_true.2 ⟨_,mem_take_drop.2 ⟨j,hd.1,hj,List.getElem?_eq_getElem hjl⟩,hd.2⟩;rw[this];rfl
  | false =>
   rw[hd]at hbody;refine .inr ⟨_,hbody,by omega,rfl,?_,rfl⟩;rcases Nat.eq_zero_or_pos j with rfl|h0
   .rw[htk];simp
   .rw[ol_ hjl h0,List.any_append,h2];rw[show decide (0<j)=true by simpa using h0,Bool.true_and]at hd;simpa using hd
def rB(l:List Xq)(i:Nat)(n:Xq):Bool:=decide ((fj_ l i).Id_<n.Id_)&&(decide (n.Xw<n.Id_)&&(bM_ n.Xy&&(aM_ n&&(!(((l.take i).drop 1).any λ c=>dh_ c n)&&(l.take i).any (dirD n)))))
def gR(l:List Xq)(i:Nat)(n:Xq):Option Bool:=if rB l i n then none else some false
theorem sm_(t:Xk)(hl:t.Xz.length<=1024)(h1:1<=t.Xz.length)(hm:∀n∈t.Xz,n.Xv<=9223372036854775807/\n.Xy.length<=9223372036854775807) :
  ak_ (ft_ t) BIG 1=some (dK_ (aL_ (gR t.Xz) 1 (t.Xz.drop 1))):=by
 refine tI_ t.Xz (gR t.Xz) 1 h1 (bB_ (by omega)) (λ i hi h0 => ?_) ?_
 .have hmem:=List.getElem_mem hi;obtain⟨hm1,hm2⟩:=hm _ hmem;unfold ft_;have hp:al_ t.Xz (w64 ((i:Int)-1))=some (fj_ t.Xz i):=iE_ zeroN h0 hi hl;rw[br_ hi,as_ hi,hp,au_ (by omega)];simp only[cond_true,qBs];rw[rJ_ _ hm2,np_ _ hm1];simp only[qBs];rw[ref10_inner t i hi hl];have e1:decide (t.Xz[i].Id_<=(fj_ t.Xz i).Id_) = !(decide ((fj_ t.Xz i).Id_<t.Xz[i].Id_)):=by rw[Bool.eq_iff_iff];simp
  have e2:decide (t.Xz[i].Xw>=t.Xz[i].Id_) = !(decide (t.Xz[i].Xw<t.Xz[i].Id_)):=by rw[Bool.eq_iff_iff];simp
  rw[e1,e2];unfold gR rB;cases decide ((fj_ t.Xz i).Id_<t.Xz[i].Id_)<;>cases decide (t.Xz[i].Xw<t.Xz[i].Id_)<;>cases bM_ t.Xz[i].Xy<;>cases aM_ t.Xz[i]<;>try rfl
  cases((t.Xz.take i).drop 1).any λ c=>dh_ c t.Xz[i]<;>cases(t.Xz.take i).any (dirD t.Xz[i])<;>rfl
 .unfold ft_;rw[bA_];rfl
theorem last_lt{l:List Xq}(hs:l.Pairwise λ a b=>a.Id_<b.Id_){x:Xq}(hx:l[l.length-1]? = some x)(next:Int):(∀n∈l,n.Id_<next)↔x.Id_<next:=by
 constructor
 .exact λ h=>h x (List.mem_iff_getElem?.2 ⟨_,hx⟩)
 .intro h n hn;obtain⟨i,hi⟩:=List.mem_iff_getElem?.1 hn;obtain⟨h1,e1⟩:=List.getElem?_eq_some_iff.1 hi;obtain⟨h2,e2⟩:=List.getElem?_eq_some_iff.1 hx;rcases Nat.lt_or_ge i (l.length-1)with hlt|hge
  .have:=List.pairwise_iff_getElem.1 hs i (l.length-1) h1 h2 hlt;rw[e1,e2]at this;omega
  .obtain rfl:i=l.length-1:=by omega
   rw[hi]at hx;cases hx;exact h
def rootD(r:Xq):Bool:=r.Id_==1&&(r.Xw==1&&(r.Xy==[47]&&(decide (2147483648<=r.Xv)&&aM_ r)))
theorem jw_(t:Xk)(hl:t.Xz.length<=1024)(hm:∀n∈t.Xz,n.Xv<=9223372036854775807/\n.Xy.length<=9223372036854775807):∃b,eg_ t=some b/\(b=true↔OkT t.Xz t.Xt):=by
 rcases Nat.eq_zero_or_pos t.Xz.length with h0|h0
 .refine⟨false,?_,λ h=>(nomatch h),λ h => ?_⟩
  .unfold eg_;rw[show decide ((t.Xz.length:Int)<1)=true by simp;omega];rfl
  .have:=(OkT_iff.1 h).1;omega
 .obtain⟨r,hr⟩:∃r,t.Xz[0]? = some r:=⟨_,List.getElem?_eq_getElem h0⟩;obtain⟨z,hz⟩:∃z,t.Xz[t.Xz.length-1]? = some z:=⟨_,List.getElem?_eq_getElem (by omega)⟩;have gr:al_ t.Xz 0=some r:=(bk_ t.Xz 0).trans hr;have gz:al_ t.Xz (w64 ((t.Xz.length:Int)-1))=some z:=by rw[w_pred h0 (by omega),bk_];exact hz
  have hrm:=List.mem_iff_getElem?.2 ⟨_,hr⟩;have hlen:((decide ((t.Xz.length:Int)<1))||(decide ((t.Xz.length:Int)>1024)))=false:=by simp;omega
  have ev:eg_ t=bif rootD r then(bif((decide (t.Xt<=z.Id_))||(decide (t.Xt>1048576)))then some false else some ((aL_ (gR t.Xz) 1 (t.Xz.drop 1)).getD true))else some false:=by
   unfold eg_;rw[hlen,gr,gz];have e1:decide (r.Xv<2147483648) = !(decide (2147483648<=r.Xv)):=by rw[Bool.eq_iff_iff];simp
   simp only[cond_false,qBs];rw[np_ _ (hm r hrm).1,e1];simp only[qBs];unfold rootD bne;cases r.Id_==1<;>cases r.Xw==1<;>cases r.Xy==[47]<;>cases decide (2147483648<=r.Xv)<;>cases aM_ r<;>try rfl
   cases hN:(decide (t.Xt<=z.Id_))||(decide (t.Xt>1048576))with
   | true=>rfl
   | false =>
    show(Option.bind (ak_ (ft_ t) BIG 1) fun(wo3:Out Unit Bool)=>match wo3 with | .ret r3=>some r3 | .fall _=>some true)=some ((aL_ (gR t.Xz) 1 (t.Xz.drop 1)).getD true);exact bl_ (sm_ t hl h0 hm) (λ _=>rfl) rfl
  have hroot:rootD r=true↔RootOK r/\aM_ r=true:=by
   unfold rootD RootOK;simp only[qAn,beq_iff_eq,qDe];constructor
   .rintro⟨h1,h2,h3,h4,h5⟩;have:=iH_ (gh_ h5);exact⟨⟨h1,h2,h3,by rw[←this];simpa using h4⟩,h5⟩
   .rintro⟨⟨h1,h2,h3,h4⟩,h5⟩;have:=iH_ (gh_ h5);rw[h4]at this;exact⟨h1,h2,h3,by simpa using this,h5⟩
  rw[OkT_iff];cases hR:rootD r with
  | false =>
   refine⟨false,by rw[ev,hR];rfl,λ h=>(nomatch h),fun⟨_,_,_,h4,h5,_⟩ => ?_⟩;rw[hroot.2 ⟨h4 r hr,h5 r hrm⟩]at hR;cases hR
  | true =>
   obtain⟨hr1,hr2⟩:=hroot.1 hR;cases hN:(decide (t.Xt<=z.Id_))||(decide (t.Xt>1048576))with
   | true =>
    refine⟨false,by rw[ev,hR,hN];rfl,λ h=>(nomatch h),fun⟨_,_,h3,_,_,h6,_⟩ => ?_⟩;have:=h6 z (List.mem_iff_getElem?.2 ⟨_,hz⟩);simp only[Bool.or_eq_true,qDe]at hN;omega
   | false =>
    refine⟨(aL_ (gR t.Xz) 1 (t.Xz.drop 1)).getD true,by rw[ev,hR,hN];rfl,?_⟩;simp only[Bool.or_eq_false_iff,qDf]at hN;rw[pj_ (g:=gR t.Xz) (p:=rB t.Xz) (λ _ _=>rfl)];have rk:∀i (n:Xq),rB t.Xz i n=true↔(fj_ t.Xz i).Id_<n.Id_/\n.Xw<n.Id_/\bM_ n.Xy=true/\aM_ n=true/\(∀c∈(t.Xz.take i).drop 1,dh_ c n=false)/\∃p∈t.Xz.take i,p.Id_=n.Xw/\2147483648<=p.Xv:=λ i n=>by
     unfold rB;simp only[qAn,qDe,Bool.not_eq_true',List.any_eq_true,List.any_eq_false,dirD,beq_iff_eq,Bool.not_eq_true,ge_iff_le]
    have nth:∀i n,(t.Xz.drop 1)[i]? = some n↔t.Xz[1+i]? = some n:=λ i n=>by rw[List.getElem?_drop]
    constructor
    .intro h;have h':∀i n,0<i->t.Xz[i]? = some n->rB t.Xz i n=true:=λ i n h0 hn=>by
      have:=h (i-1) n ((nth _ _).2 (by rw[show 1+(i-1)=i by omega];exact hn))
      rwa [show 1+(i-1)=i by omega]at this
     have flds:∀n∈t.Xz,aM_ n=true:=λ n hn=>by
      obtain⟨i,hi⟩:=List.mem_iff_getElem?.1 hn;rcases Nat.eq_zero_or_pos i with rfl|h0
      .rw[hr]at hi;cases hi;exact hr2
      .exact((rk i n).1 (h' i n h0 hi)).2.2.2.1
     refine⟨h0,by omega,by omega,λ n hn=>by rw[hr]at hn;cases hn;exact hr1,flds,?_,λ i n h0 hn => ?_⟩
     .exact(last_lt (srt_iff.2 λ i n h0 hn=>((rk i n).1 (h' i n h0 hn)).1) hz _).2 (by omega)
     .obtain⟨a,b,c,d,e,p,p1,p2,p3⟩:=(rk i n).1 (h' i n h0 hn);refine⟨a,c,⟨p,p1,p2,?_⟩,e⟩;rw[←iH_ (gh_ (flds p (List.mem_of_mem_take p1)))];simpa using p3
    .intro h i n hn;have ht:=OkT_iff.2 h;obtain⟨_,_,_,_,h5,_,h7⟩:=h;have hn':=(nth _ _).1 hn;obtain⟨a,b,⟨p,p1,p2,p3⟩,d⟩:=h7 (1+i) n (by omega) hn';refine(rk (1+i) n).2 ⟨a,?_,b,h5 n (List.mem_iff_getElem?.2 ⟨_,hn'⟩),d,p,p1,p2,?_⟩
     .obtain⟨j,j1,j2⟩:=mem_take.1 p1;rw[←p2];obtain⟨q1,e1⟩:=List.getElem?_eq_some_iff.1 j2;obtain⟨q2,e2⟩:=List.getElem?_eq_some_iff.1 hn';have:=List.pairwise_iff_getElem.1 ht.srt j (1+i) q1 q2 j1
      rwa [e1,e2]at this
     .rw[←iH_ (gh_ (h5 p (List.mem_of_mem_take p1)))]at p3;simpa using p3
end Go.Proofs.YtebokaoegomboaaGreatDoor
