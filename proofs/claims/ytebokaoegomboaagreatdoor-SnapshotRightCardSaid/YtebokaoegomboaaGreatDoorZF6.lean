/-
 What the statements of this seat hang on,part 6: LSf K1 K2 K3 K4 K5 K6 K7 K8 K9 K10 K11 K12 K13 K14 K15 Num Fa0 Ht Ua Ub Hs Uw Ho.
-/
import Derived.Test.YtebokaoegomboaaGreatDoorZF5
import Derived.WalkKit
import Derived.Laws.BitsLemmas
import Derived.KernelRfl
import Derived.Sort.AssemblyPlain
namespace Go
namespace Rt
open Go.RowKit Go.Sort Go.Shelf Go.Proofs
section
variable{α:Type}[Inhabited α]
theorem flat_get(enc:α->List Value)(k:Nat)(hk:∀x,(enc x).length=k):∀(L:List α) (t:Nat),t<L.length*k->(L.map enc).flatten[t]? = (enc (L[t/k]?.getD default))[t%k]?
 | [],t,h=>by simp at h
 | x::L,t,h=>by
  have k0:0<k:=by
   rcases Nat.eq_zero_or_pos k with h'|h'
   .subst h';simp at h
   .exact h'
  rw[List.map_cons,List.flatten_cons];rcases Nat.lt_or_ge t k with ht|ht
  .rw[List.getElem?_append_left (by rw[hk];exact ht),Nat.div_eq_of_lt ht,Nat.mod_eq_of_lt ht];rfl
  .obtain⟨u,rfl⟩:∃u,t=u+k:=⟨t-k,by omega⟩;rw[List.getElem?_append_right (by rw[hk];omega),hk,Nat.add_sub_cancel,Nat.add_div_right _ k0,Nat.add_mod_right,flat_get enc k hk L u (by
    rw[qLc,Nat.succ_mul]at h;omega)]
   rfl
theorem lK_(enc:α->List Value)(k:Nat)(hk:∀x,(enc x).length=k)(d:Array α):flatK enc k d=(d.toList.map enc).flatten.toArray:=by
 have hfl:∀(xs:List α),(xs.map enc).flatten.length=xs.length*k:=λxs=>by
  induction xs with
  | nil=>simp
  | cons x xs ih=>rw[List.map_cons,List.flatten_cons,qLa,hk,ih,qLc,Nat.succ_mul,Nat.add_comm]
 refine Sort.ext_get! (by rw[size_flatK,←Array.length_toList,←Array.length_toList,List.toList_toArray,hfl]) λt ht => ?_
 rw[size_flatK]at ht;rw[get_flatK _ _ _ t ht];have k0:0<k:=by
  rcases Nat.eq_zero_or_pos k with h'|h'
  .subst h';simp at ht
  .exact h'
 have h1:=flat_get enc k hk d.toList t (by simpa using ht);have hd:t/k<d.size:=Nat.div_lt_of_lt_mul (by rwa [Nat.mul_comm]at ht);have e1:d.toList[t/k]?.getD default=d[t/k]! := by
  rw[getElem!_pos d _ hd,Array.getElem?_toList,Array.getElem?_eq_getElem hd];rfl
 rw[e1]at h1;have hm:t%k<(enc d[t/k]!).length:=by rw[hk];exact Nat.mod_lt _ k0
 have ht2:t<(d.toList.map enc).flatten.length:=by rw[hfl];simpa using ht
 rw[getElem!_pos (enc d[t/k]!) _ hm,getElem!_pos (d.toList.map enc).flatten.toArray t (by simpa using ht2)];rw[List.getElem?_eq_getElem hm,List.getElem?_eq_getElem ht2]at h1;simpa using(qSj h1).symm
end
section
variable{P:Program}{E:TE}{w:World}{t:Ty}{enc:Den E.S t->List Value}[Inhabited (Den E.S t)]
theorem RowQ.holdsK(he:EncOK E t enc){e:TypeId}{xs:List (Den E.S t)}{b cap:Nat}(h:RowQ E t enc w e xs (some ⟨b,0,none⟩) cap):HoldsK enc (E.size t) w b 0 xs.toArray/\xs.length<=cap/\cap<=maxLen/\b<w.heap.size:=by
 rcases h with⟨h,_⟩|⟨b',cs,hA,hh,h1,h2,h3,h4⟩
 .cases h
 .injection hA with hA;injection hA with hA;subst hA;refine⟨?_,h1,h2,?_⟩
  .unfold HoldsK;rw[lK_ enc (E.size t) he.len];intro q hq;have hq':q<xs.length*E.size t:=by
    rw[←dN_ he xs];simpa using hq
   refine⟨?_,by unfold World.frozen?;simp only[hh];simp⟩;rw[Nat.zero_add,cell_of_row w b q _ e (0,0) hh];have:(cs.take (xs.length*E.size t))[q]? = cs[q]? := by rw[List.getElem?_take,if_pos hq']
   rw[List.getElem?_toArray,←this,h4,getElem!_pos _ q hq];have hq2:q<(xs.map enc).flatten.length:=by rw[dN_ he];exact hq'
   rw[List.getElem?_eq_getElem hq2];simp
  .rcases Nat.lt_or_ge b w.heap.size with h'|h'
   .exact h'
   .rw[Array.getElem?_eq_none h']at hh;cases hh
def iv_{α:Type}(key:α->Int)(x y:α):Int:=Lib.compareInt (key x) (key y)
theorem i5_{α:Type}(key:α->Int):ltOf (iv_ key)=λx y=>decide (key x<key y):=by
 funext x y
 unfold ltOf iv_ Lib.compareInt;by_cases h1:key x<key y
 .simp[h1]
 .by_cases h2:key y<key x<;>simp[h1,h2]
theorem byKey_swo{α:Type}(key:α->Int):SWO (ltOf (iv_ key)) where
 irrefl x:=by rw[i5_];simp
 trans x y z h1 h2:=by rw[i5_]at *;simp at *;omega
 ntrans x y z h1 h2:=by rw[i5_]at *;simp at *;omega
theorem sortF_run{ρ:Ren}(L:SlLaysF0.n6 P ρ)(he:EncOK E t enc)(aE:∀w,(isAgg (ρ.t 24)).run P w = .ok true w)(zE:∀w,(Go.sizeOf (ρ.t 24)).run P w = .ok (E.size t) w)(h1:∀x,∀v∈enc x,v.oneCell'=true)(key:Den E.S t->Int)(g:Nat)
  (eg:∀args w,(callFunc g args).run P w = .ok (.enter g args) w) (hcmp:∀x y W,Calls P g #[.agg (enc x).toArray,.agg (enc y).toArray] W λe w'=>e = .returned (.int .i64 (iv_ key x y))/\∃q os,w'=grow (W.drewN q) os)
  {e:TypeId} {xs zs:List (Den E.S t)} {A:Option Addr} {cap:Nat} (hx:RowQ E t enc w e xs A cap) (hl:fl_ key xs=some zs) :
  Ret P (ρ.f 6) #[.slice A xs.length cap,.func (.func g) #[] #[]] w λv w'=>v = .tuple #[]/\zs.length=xs.length/\RowQ E t enc w' e zs A cap/\Grow w w'/\∀k,k<w.heap.size->¬cb_ A k->w'.heap[k]? = w.heap[k]? := by
 unfold fl_ at hl;split at hl
 .rename_i hlt;obtain rfl:=qSj hl;have hsz:(Sort.pdq (λx y=>decide (key x<key y)) xs.toArray 0 xs.length (Lib.bitLen xs.length) true true).size=xs.length:=by
   have h:=pdq_sorts (ltOf (iv_ key)) (byKey_swo key) xs.toArray 0 xs.length (Lib.bitLen xs.length) true true (Nat.zero_le _) (by simp) (Or.inl rfl);rw[i5_]at h;simpa using h.1.1
  cases xs with
  | nil =>
   have hz:(Sort.pdq (λx y=>decide (key x<key y)) ([]:List (Den E.S t)).toArray 0 ([]:List (Den E.S t)).length (Lib.bitLen ([]:List (Den E.S t)).length) true true).toList=[]:=List.length_eq_zero_iff.1 (by rw[Array.length_toList,hsz];rfl);refine Calls.mono (AnyF.slices_SortFunc_none L A cap _ w) λe w' ⟨he,hw⟩=>⟨_,he,rfl,by rw[hz],?_,?_,λk _ _ => ?_⟩
   .subst hw;rw[hz];exact hx
   .subst hw;exact Grow.refl _
   .subst hw;rfl
  | cons x xs =>
   obtain⟨b,rfl⟩:∃b,A=some ⟨b,0,none⟩:=by
    rcases hx with⟨_,_,h⟩|⟨b,_,h,_⟩
    .cases h
    .exact⟨b,h⟩
   obtain⟨hH,h2,h3,hb⟩:=hx.holdsK he;have hc:CmpLays P g #[] enc (E.size t) (iv_ key) b 0 (x::xs).toArray.size w:=λm os dk hs x y=>hcmp x y _
   refine Calls.mono (AnyQ.slices_SortFunc_eq L (E.size t) aE zE enc he.len h1 (iv_ key) (byKey_swo key) g #[] b 0 cap (x::xs).toArray w eg hc hH hb (by simpa using hlt)) λe w' ⟨he',q,os,hw⟩=>⟨_,he',rfl,?_⟩
   have hb1:Lib.bitLen (x::xs).toArray.size=Lib.bitLen (x::xs).length:=by simp
   rw[i5_,hb1]at hw;generalize hd:Sort.pdq (λx y=>decide (key x<key y)) (x::xs).toArray 0 (x::xs).length (Lib.bitLen (x::xs).length) true true=d at *
   have hw2:w'=grow (putRow id (Sort.ahead w q) b 0 (flatK enc (E.size t) d)) os:=by
    rw[hw,←hd];rfl
   rw[lK_ enc (E.size t) he.len]at hw2;have hlen:d.toList.length=(x::xs).length:=by rw[Array.length_toList,hsz]
   obtain⟨r1,r2,r3⟩:=hx.put (E:=E) (t:=t) (enc:=enc) (w':=w') (zs:=d.toList) (Nat.le_of_eq hlen) id (d.toList.map enc).flatten.toArray (by
    rw[List.size_toArray,dN_ he,hlen]) (by
    rw[List.map_id,List.toList_toArray,List.take_of_length_le];exact Nat.le_of_eq (dN_ he _)) q os hw2
   exact⟨hlen,r1,r2,λk hk hn=>r3 k hk λe=>hn ⟨_,rfl,e⟩⟩
 .cases hl
end
end Rt
end Go
namespace Go.Proofs.YtebokaoegomboaaGreatDoor
open Go.RowKit Go.Rt Go.Sort
def encN(x:Xq):List Value:=[.int .i64 x.Id_,.int .i64 x.Xw,.int .i64 x.Yz,S x.Xv,.int .i64 x.Xp,S x.Yf,S x.Ym,S x.Yy,.int .i64 x.Xo,.int .i64 x.Yx,S x.Xl]
theorem encN_ok:EncOK te (.st nodeN) encN:=⟨λz x r h=>by
  obtain⟨v1,e1,h⟩:=RD.int_inv h;obtain⟨v2,e2,h⟩:=RD.int_inv h;obtain⟨v3,e3,h⟩:=RD.int_inv h;obtain⟨v4,e4,h⟩:=RD.str_inv h;obtain⟨v5,e5,h⟩:=RD.int_inv h;obtain⟨v6,e6,h⟩:=RD.str_inv h;obtain⟨v7,e7,h⟩:=RD.str_inv h;obtain⟨v8,e8,h⟩:=RD.str_inv h;obtain⟨v9,e9,h⟩:=RD.int_inv h;obtain⟨v10,e10,h⟩:=RD.int_inv h;obtain⟨v11,e11,h⟩:=RD.str_inv h;rw[e1,e2,e3,e4,e5,e6,e7,e8,e9,e10,e11,h.nil_inv];rfl,λz x => .int (.int (.int (.str (.int (.str (.str (.str (.int (.int (.str .nil))))))))))⟩
set_option maxHeartbeats 1000000 in
theorem nanI(x:Int)(W:World):Calls Tryz.prog 263 #[.int .i64 x] W λe w'=>e = .returned (.bool false)/\w'=W:=by
 go_enter Tryz.func263,Tryz.ntmps263
 go_wp2
 go_ret
 exact⟨rfl,rfl⟩
set_option maxHeartbeats 1000000 in
theorem compareI(x y:Int)(W:World):Calls Tryz.prog 192 #[.int .i64 x,.int .i64 y] W λe w'=>e = .returned (.int .i64 (Lib.compareInt x y))/\w'=W:=by
 go_enter Tryz.func192,Tryz.ntmps192
 go_wp2_with (go_at_call 263;refine(nanI _ _).mono ?_;rintro e w' ⟨rfl,hw⟩;rw[hw])
 all_goals (go_ret;refine⟨?_,rfl⟩;unfold Lib.compareInt;(repeat' split)<;>first|rfl|(exfalso;omega))
set_option maxHeartbeats 4000000 in
theorem closureN(x y:Xq)(W:World):Calls Tryz.prog 191 #[.agg (encN x).toArray,.agg (encN y).toArray] W λe w'=>e = .returned (.int .i64 (iv_ (λ(n:Xq)=>n.Id_) x y))/\∃q os,w'=grow (W.drewN q) os:=by
 unfold iv_;simp only;have hcon:=λW=>compareI x.Id_ y.Id_ W
 generalize Lib.compareInt x.Id_ y.Id_=r at hcon ⊢;unfold encN;cases x
 cases y
 go_enter Tryz.func191,Tryz.ntmps191
 go_wp2_with (go_at_call 192;refine(hcon _).mono ?_;rintro e w' ⟨rfl,rfl⟩)
 go_ret
 rw[alloc_eq_grow,alloc_eq_grow,grow_grow];exact⟨rfl,0,_,rfl⟩
def lL_:InlF te:=λH _ xs _ k=>match xs with
 | [.one (.own id),.one (.clo g [])]=>match Nat.beq g 191,H id with
  | true,some (.row e t ys _)=>match Nat.beq e 81 with
   | true=>if h:t = .st nodeN then Option.bind (fl_ (λ(x:Xq)=>x.Id_) (dR_ (E:=te) h ys)) λzs=>k (some (.tup [])) [(id,some (.row e (.st nodeN) zs []))]else none
   | false=>none
  | _,_=>none
 | _=>none
theorem nX_:InlOK Tryz.prog te 190 lL_/\cI_ Tryz.prog 190=true:=by
 refine⟨?_,by kernel_rfl⟩;intro z g nx H xs vs R k r Bs F0 w0 w hnx hH hv h;unfold lL_ at h;split at h
 .rename_i id fn;split at h
  .rename_i e t ys foc hg hi;obtain rfl:=qNb hg;split at h
   .rename_i he;obtain rfl:=qNb he;split at h
    .rename_i ht;subst ht;obtain⟨zs,hs,h⟩:=bind_some h;have hs':fl_ (λ(x:Xq)=>x.Id_) ys=some zs:=hs;obtain⟨l0,g0,n0,c0,r0⟩:=rowQ_of encN_ok (hH.hold _ _ hi);cases hv with
     | cons v1 hv=>cases hv with
      | cons v2 hv =>
       cases hv
       obtain⟨l1,e0,rfl⟩:=v1;rw[g0]at e0;obtain rfl:=qSj e0;obtain⟨us,rfl,hu⟩:=v2;cases hu
       rw[n0]
       letI:Inhabited (Den te.S (.st nodeN)):=(inferInstance:Inhabited Xq)
       have hrun:=sortF_run (P:=Tryz.prog) (E:=te) (t := .st nodeN) (enc:=encN) Tryz.laysSortF encN_ok Tryz.isAgg81 Tryz.sizeOf81 (λx v hv=>by
        simp only[encN,List.mem_cons,List.not_mem_nil,or_false]at hv;rcases hv with rfl|rfl|rfl|rfl|rfl|rfl|rfl|rfl|rfl|rfl|rfl<;>rfl) (λ(x:Xq)=>x.Id_) 191 (enters_of Tryz.func191 (by kernel_rfl) rfl) (λx y W=>closureN x y W) r0 hs'
       refine Ret.mono (f:=190) hrun λv w' ⟨hv',hlen,hr',hg',hk'⟩ => ?_
       subst hv';refine⟨.tup [],_,z,g,h,Fz.Le.refl z,Ga.Le.refl g,(λi hi=>hnx i (Nat.le_trans (by omega) (Nat.le_trans (iH_ nx _) hi))),⟨[],rfl,.nil⟩,?_⟩;exact hH.rowQ encN_ok (i:=id) (i':=id) (xs:=ys) (zs:=zs) hi g0 (Ga.Le.refl g) g0 rfl (n0.trans hlen.symm) c0 hg' hk' hr' λj o hj=>by
        rcases bA_ hj with h|⟨h1,h2⟩
        .exact .inl h
        .exact .inr ⟨h1,h1,h2⟩
    .cases h
   .cases h
  .cases h
 .cases h
end Go.Proofs.YtebokaoegomboaaGreatDoor
namespace Go.Proofs.YtebokaoegomboaaGreatDoor
open Go.Rt Go.RowKit
noncomputable section
def c_10:Con te:=ag_ te [.d (.st 8)] [(.bool,[])] false λa=>hl_ a.1
theorem ok_10:OKF 10 c_10:=⟨ac_ af_ ad_ Tryz.func10 (by kernel_rfl) (pl := .s .p (.s .p (.s .p (.s (.s .p (.lp ⟨[(49,.d (.int .i64))],[],[1,3,48],[0,5],[],27022⟩ ⟨[],[],[1,3],[0,5],[],27022⟩ true .p)) (.s (.s .p (.lp ⟨[(65,.d (.int .i64))],[],[1,3,64],[0,5],[],27027⟩ ⟨[],[],[1],[0],[],27027⟩ true .p)) (.s (.s .p (.lp ⟨[(93,.d (.int .i64))],[],[1,92],[0],[],27032⟩ ⟨[],[],[1],[0],[],27032⟩ true .p)) (.s (.s .p (.lp ⟨[(120,.d (.int .i64))],[],[1,119],[0],[],27036⟩ ⟨[],[],[],[],[],27036⟩ true .p)) .p))))))) λ_=>by kernel_rfl,by kernel_rfl⟩
def c_83:Con te:=ag_ te [.d .str] [(.bool,[])] false λa=>fm_ a.1
theorem ok_83:OKF 83 c_83:=⟨ac_ af_ ad_ Tryz.func83 (by kernel_rfl) (pl := .s .p (.s .p (.s (.s .p (.lp ⟨[(3,.d (.int .i64))],[],[0],[],[],4006⟩ ⟨[],[],[],[],[],4006⟩ true .p)) .p))) λ_=>by kernel_rfl,by kernel_rfl⟩
def c_203:Con te:=ag_ te [.d (.sl (.st 0)),.d .str] [(.int .i64,[])] false λa=>fS_ a.1 a.2.1
theorem ok_203:OKF 203 c_203:=⟨ac_ af_ ad_ Tryz.func203 (by kernel_rfl) (pl := .s .p (.s (.s .p (.lp ⟨[(8,.d (.int .i64))],[],[0,1,7],[],[],4⟩ ⟨[],[],[],[],[],4⟩ true .p)) .p)) λ_=>by kernel_rfl,by kernel_rfl⟩
def c_146:Con te:=ag_ te [.d (.sl (.st 0)),.d (.int .i64)] [(.int .i64,[])] false λa=>eN_ a.1 a.2.1
theorem ok_146:OKF 146 c_146:=⟨ac_ af_ (ab_ ok_203 (ab_ ok_83 ad_)) Tryz.func146 (by kernel_rfl) (pl := .s .p (.s .p (.s .p (.s (.s .p (.lp ⟨[(37,.d (.int .i64))],[],[0,5,36],[5],[],6030⟩ ⟨[],[],[],[],[],6030⟩ true (.s .p (.s .p (.s (.s .p (.s (.dr [0,0,0,0,0,0,0,0,0,0,0,0,0,0,0,0,0,0,0,0,0,0,0,0,0,0] [] false []) .p)) .p))))) .p)))) λ_=>by kernel_rfl,by kernel_rfl⟩
def c_81:Con te:=ag_ te [.d (.sl (.st 0))] [(.int .i64,[])] false λa=>hm_ a.1
theorem ok_81:OKF 81 c_81:=⟨ac_ af_ (ab_ ok_146 ad_) Tryz.func81 (by kernel_rfl) (pl := .s .p (.s .p (.s (.s .p (.lp ⟨[(10,.d (.int .i64))],[],[0,9],[],[],7⟩ ⟨[],[],[],[],[],7⟩ true .p)) .p))) λ_=>by kernel_rfl,by kernel_rfl⟩
def c_82:Con te:=ag_ te [.d (.sl (.st 1))] [(.int .i64,[])] false λa=>hn_ a.1
theorem ok_82:OKF 82 c_82:=⟨ac_ af_ (ab_ ok_83 ad_) Tryz.func82 (by kernel_rfl) (pl := .s .p (.s .p (.s (.s .p (.lp ⟨[(3,.d (.int .i64))],[],[0],[],[],5⟩ ⟨[],[],[],[],[],5⟩ true (.s .p (.s (.s .p (.s .p (.s (.s (.dr [0,0,0,0,0,0,0,0,0,0,0,0,0] [] false []) .p) .p))) .p)))) .p))) λ_=>by kernel_rfl,by kernel_rfl⟩
def c_172:Con te:=ag_ te [.d (.int .i64)] [(.bool,[])] false λa=>ir_ a.1
theorem ok_172:OKF 172 c_172:=⟨ac_ af_ ad_ Tryz.func172 (by kernel_rfl) (pl := .p) λ_=>by kernel_rfl,by kernel_rfl⟩
def c_108:Con te:=ag_ te [.d (.int .i64)] [(.bool,[])] false λa=>b9_ a.1
theorem ok_108:OKF 108 c_108:=⟨ac_ af_ ad_ Tryz.func108 (by kernel_rfl) (pl := .p) λ_=>by kernel_rfl,by kernel_rfl⟩
def c_106:Con te:=ag_ te [.d (.st 2)] [(.bool,[])] false λa=>ex_ a.1
theorem ok_106:OKF 106 c_106:=⟨ac_ af_ (ab_ ok_108 (ab_ ok_172 ad_)) Tryz.func106 (by kernel_rfl) (pl := .p) λ_=>by kernel_rfl,by kernel_rfl⟩
def c_107:Con te:=ag_ te [.d .str] [(.bool,[])] false λa=>ho_ a.1
theorem ok_107:OKF 107 c_107:=⟨ac_ af_ ad_ Tryz.func107 (by kernel_rfl) (pl := .s .p (.s (.s .p (.lp ⟨[(3,.d (.int .i64))],[],[0],[],[],2⟩ ⟨[],[],[0],[],[],2⟩ true .p)) .p)) λ_=>by kernel_rfl,by kernel_rfl⟩
def c_40:Con te:=ag_ te [.d (.st 3)] [(.bool,[])] false λa=>c5_ a.1
theorem ok_40:OKF 40 c_40:=⟨ac_ af_ (ab_ ok_108 (ab_ ok_107 (ab_ ok_106 ad_))) Tryz.func40 (by kernel_rfl) (pl := .s .p (.s .p (.s .p (.s (.s (.dr [0,0,0,0,0,0,0,0,0,0,0,0,0,0,0] [] false []) .p) (.s (.s .p (.lp ⟨[(4,.d (.int .i64))],[],[3],[],[],38027⟩ ⟨[],[],[],[],[],38027⟩ true (.s .p (.s (.s (.s (.dr [0,0,0,0,0,0,0,0,0,0,0,0,0,0,0,0,0,0,0,0,0,0,0,0,0,0,0,0,0,0,0,0,0,0,0,0,0,0,0,0,0,0] [] false []) .p) (.s .p (.s (.s .p (.lp ⟨[(5,.d .bool),(6,.d (.int .i64))],[],[3,4],[],[],65048⟩ ⟨[(5,.d .bool)],[],[3,4],[],[],65048⟩ true (.s .p (.s (.s (.dr [0,0,0,0,0,0,0,0,0,0,0,0,0,0,0,0,0,0,0,0,0,0,0] [] false []) (.s (.dr [0,0,0,0,0,0,0,0,0,0,0,0,0,0,0,0,0,0,0,0,0,0,0,0,0,0,0,0] [] false []) .p)) .p)))) .p))) .p)))) .p))))) λ_=>by kernel_rfl,by kernel_rfl⟩
def c_139:Con te:=ag_ te [.d (.st 3),.d (.int .i64)] [(.int .i64,[])] false λa=>jS_ a.1 a.2.1
theorem ok_139:OKF 139 c_139:=⟨ac_ af_ ad_ Tryz.func139 (by kernel_rfl) (pl := .s .p (.s (.s .p (.lp ⟨[(5,.d (.int .i64))],[],[1,2],[0],[],4⟩ ⟨[],[],[],[],[],4⟩ true .p)) .p)) λ_=>by kernel_rfl,by kernel_rfl⟩
def c_68:Con te:=ag_ te [.d (.st 3),.d (.int .i64)] [(.st 2,[]),(.bool,[])] false λa=>is_ a.1 a.2.1
theorem ok_68:OKF 68 c_68:=⟨ac_ af_ (ab_ ok_139 ad_) Tryz.func68 (by kernel_rfl) (pl := .p) λ_=>by kernel_rfl,by kernel_rfl⟩
def c_98:Con te:=ag_ te [.d (.int .i64),.d (.int .i64)] [(.bool,[])] false λa=>mj_ a.1 a.2.1
theorem ok_98:OKF 98 c_98:=⟨ac_ af_ ad_ Tryz.func98 (by kernel_rfl) (pl := .p) λ_=>by kernel_rfl,by kernel_rfl⟩
def c_37:Con te:=ag_ te [.d (.st 4)] [(.bool,[])] false λa=>hp_ a.1
theorem ok_37:OKF 37 c_37:=⟨ac_ af_ (ab_ ok_98 (ab_ ok_68 (ab_ ok_40 (ab_ ok_82 (ab_ ok_81 ad_))))) Tryz.func37 (by kernel_rfl) (pl := .s .p (.s .p (.s (.s .p (.lp ⟨[(25,.d (.int .i64))],[],[1,24],[0],[],10013⟩ ⟨[],[],[],[],[],10013⟩ true (.s .p (.s .p (.s (.s .p (.s (.dr [0,0,0,0,0,0,0,0,0,0,4,1,2,4] [10] false []) (.s (.dr [0,0,0,0,0,0,0,0,0,0,0,0,0,0,0,0,0,0,0,0,0,0,0,0,0,0] [] false []) .p))) .p))))) .p))) λ_=>by kernel_rfl,by kernel_rfl⟩
def c_99:Con te:=ag_ te [.d (.int .i64)] [(.bool,[])] false λa=>oS_ a.1
theorem ok_99:OKF 99 c_99:=⟨ac_ af_ ad_ Tryz.func99 (by kernel_rfl) (pl := .p) λ_=>by kernel_rfl,by kernel_rfl⟩
def c_100:Con te:=ag_ te [.d (.sl (.st 5)),.d .str] [(.int .i64,[])] false λa=>iT_ a.1 a.2.1
theorem ok_100:OKF 100 c_100:=⟨ac_ af_ ad_ Tryz.func100 (by kernel_rfl) (pl := .s .p (.s (.s .p (.lp ⟨[(5,.d (.int .i64))],[],[0,1],[],[],2⟩ ⟨[],[],[],[],[],2⟩ true .p)) .p)) λ_=>by kernel_rfl,by kernel_rfl⟩
def c_38:Con te:=ag_ te [.d (.st 6)] [(.bool,[])] false λa=>fn_ a.1
theorem ok_38:OKF 38 c_38:=⟨ac_ af_ (ab_ ok_100 (ab_ ok_99 ad_)) Tryz.func38 (by kernel_rfl) (pl := .s .p (.s .p (.s (.s .p (.lp ⟨[(3,.d (.int .i64))],[],[1],[0],[],11009⟩ ⟨[],[],[],[],[],11009⟩ true (.s .p (.s (.s .p (.s (.dr [0,0,0,0,0,0,0,0,0,0,0,0,0,0,0,0,0,0,0,0,0,0,0,0,0,0] [] false []) .p)) .p)))) .p))) λ_=>by kernel_rfl,by kernel_rfl⟩
def c_337:Con te:=ag_ te [.d (.int .u64),.d (.int .i64)] [(.str,[])] false λa=>ey_ a.1 a.2.1
theorem ok_337:OKF 337 c_337:=⟨ac_ af_ ad_ Tryz.func337 (by kernel_rfl) (pl := .s .p (.s .p (.s (.s .p (.lp ⟨[(0,.d (.int .u64)),(5,.d .str),(6,.d (.int .i64))],[],[1],[],[],3⟩ ⟨[(5,.d .str)],[],[],[],[],3⟩ false .p)) .p))) λ_=>by kernel_rfl,by kernel_rfl⟩
def c_335:Con te:=ag_ te [.d .str] [(.str,[])] false λa=>gn_ a.1
theorem ok_335:OKF 335 c_335:=⟨ac_ af_ (ab_ ok_337 ad_) Tryz.func335 (by kernel_rfl) (pl := .s .p (.s .p (.s (.lp ⟨[(3,.d .str)],[],[0],[],[],4⟩ ⟨[(3,.d .str)],[],[0],[],[],4⟩ false .p) .p))) λ_=>by kernel_rfl,by kernel_rfl⟩
def c_358:Con te:=ag_ te [] [(.sl (.int .u32),[some 306])] false λ_=>jr_
theorem ok_358:OKF 358 c_358:=⟨ac_ af_ ad_ Tryz.func358 (by kernel_rfl) (pl := .p) λ_=>by kernel_rfl,by kernel_rfl⟩
def c_360:Con te:=ag_ te [.d (.int .u32),.d (.int .i64)] [(.int .u32,[])] false λa=>aH_ a.1 a.2.1
theorem ok_360:OKF 360 c_360:=⟨ac_ af_ ad_ Tryz.func360 (by kernel_rfl) (pl := .s .p (.s (.dr [0,0,0,0,0,0,0,0,0] [] false []) .p)) λ_=>by kernel_rfl,by kernel_rfl⟩
def c_359:Con te:=ag_ te [.d .str] [(.sl (.int .u32),[some 306])] false λa=>eQ_ a.1
theorem ok_359:OKF 359 c_359:=⟨ac_ af_ (ab_ ok_360 ad_) Tryz.func359 (by kernel_rfl) (pl := .s .p (.s .p (.s (.s .p (.lp ⟨[(3,.one (.own 3)),(4,.d (.int .i64))],[(3,false,.row 306 (.int .u32) [])],[0],[],[],4⟩ ⟨[(3,.one (.own 3))],[(3,false,.row 306 (.int .u32) [])],[],[],[],4⟩ false (.s .p (.s (.dr [0,0,0,0,0,0,0,0,0,0,0,0,0,0,0,0,0,0,0,0,0,0,0,0,0,0,0,0,0,0,1,2,4] [] false []) .p)))) (.s (.s .p (.lp ⟨[(3,.one (.own 5)),(5,.d (.int .i64))],[(5,false,.row 306 (.int .u32) [])],[],[],[],6⟩ ⟨[(3,.one (.own 5))],[(5,false,.row 306 (.int .u32) [])],[],[],[],6⟩ false (.s .p (.s (.s (.dr [0,0,0,0,0,0,0,0,0,0,0,0] [] false []) (.s .p (.s .p (.dr [0,0,0,0,0,0,0,0,0,0,0,0,0,0,0,0,1,2,4] [] false [])))) .p)))) .p)))) λ_=>by kernel_rfl,by kernel_rfl⟩
def c_336:Con te:=ag_ te [.d (.sl (.int .u32)),.d .str] [(.sl (.int .u32),[some 306])] false λa=>hr_ a.1 a.2.1
theorem ok_336:OKF 336 c_336:=⟨ac_ af_ (ab_ ok_360 (ab_ ok_359 (ab_ ok_358 ad_))) Tryz.func336 (by kernel_rfl) (pl := .s .p (.s .p (.s (.dr [0,0,0,0,0,0,0,0,0,0,0,0,0,0,0,0] [] false []) (.s (.dr [0,0,0,0,0,0,0,0,0,0,0,0,0,0,0,0] [] false []) (.s (.s .p (.lp ⟨[(7,.d (.int .u32)),(8,.d (.int .u32)),(9,.d (.int .u32)),(10,.d (.int .u32)),(11,.d (.int .u32)),(12,.d (.int .u32)),(13,.d (.int .u32)),(14,.d (.int .u32)),(15,.d (.int .i64))],[(1,true,.row 306 (.int .u32) []),(4,true,.row 306 (.int .u32) [])],[0,5,6],[],[],41⟩ ⟨[(7,.d (.int .u32)),(8,.d (.int .u32)),(9,.d (.int .u32)),(10,.d (.int .u32)),(11,.d (.int .u32)),(12,.d (.int .u32)),(13,.d (.int .u32)),(14,.d (.int .u32))],[],[0],[],[],41⟩ false (.s .p (.s (.s (.dr [0,0,0,0,0,0,0,0,0,0,0,0,0,0,0,0,0,0,0,0,0,0,0,0,0,0,0,0,0,0] [] false []) .p) .p)))) (.s (.dr [0,0,0,0,0,0,0,0,0,0,0,0,0,0,0,0,0,0,0,0,0,0,0,0,0,0,0,0,0,0,0,0,0,0,0,0,0,0,0,0,1,4] [] false []) .p)))))) λ_=>by kernel_rfl,by kernel_rfl⟩
def c_296:Con te:=ag_ te [.d .str] [(.str,[])] false λa=>js_ a.1
theorem ok_296:OKF 296 c_296:=⟨ac_ af_ (ab_ ok_337 (ab_ ok_336 (ab_ ok_335 ad_))) Tryz.func296 (by kernel_rfl) (pl := .s .p (.s .p (.s .p (.s (.s .p (.lp ⟨[(3,.one (.own 8)),(5,.d (.int .i64))],[(8,false,.row 306 (.int .u32) [])],[4],[],[],9⟩ ⟨[(3,.one (.own 8))],[(8,false,.row 306 (.int .u32) [])],[],[],[],9⟩ false .p)) (.s .p (.s (.s .p (.lp ⟨[(6,.d .str),(7,.d (.int .i64))],[(8,true,.row 306 (.int .u32) [])],[3],[],[],11⟩ ⟨[(6,.d .str)],[],[],[],[],11⟩ false .p)) .p)))))) λ_=>by kernel_rfl,by kernel_rfl⟩
def c_237:Con te:=ag_ te [.d (.int .i64),.d .str] [(.str,[])] false λa=>hs_ a.1 a.2.1
theorem ok_237:OKF 237 c_237:=⟨ac_ af_ (ab_ ok_296 ad_) Tryz.func237 (by kernel_rfl) (pl := .p) λ_=>by kernel_rfl,by kernel_rfl⟩
def c_168:Con te:=ag_ te [.d (.st 6),.d .str,.d (.int .i64)] [(.str,[]),(.int .i64,[])] false λa=>jt_ a.1 a.2.1 a.2.2.1
theorem ok_168:OKF 168 c_168:=⟨ac_ af_ (ab_ ok_237 (ab_ ok_100 ad_)) Tryz.func168 (by kernel_rfl) (pl := .p) λ_=>by kernel_rfl,by kernel_rfl⟩
def c_101:Con te:=ag_ te [.d (.st 6),.d .str,.d (.int .i64)] [(.str,[]),(.int .i64,[])] false λa=>d6_ a.1 a.2.1 a.2.2.1
theorem ok_101:OKF 101 c_101:=⟨ac_ af_ (ab_ ok_168 ad_) Tryz.func101 (by kernel_rfl) (pl := .p) λ_=>by kernel_rfl,by kernel_rfl⟩
def c_102:Con te:=ag_ te [.b 135 (.st 9),.d (.int .i64)] [(.int .i64,[])] false λa=>ar_ a.1 a.2.1
theorem ok_102:OKF 102 c_102:=⟨ac_ af_ ad_ Tryz.func102 (by kernel_rfl) (pl := .s .p (.s (.s (.dr [0,0,0,0,0,0,0,0,0,0,0,0,0,0,0,0,0,0] [] false []) .p) (.s .p (.s (.s .p (.lp ⟨[(5,.d (.int .i64)),(6,.d (.int .i64))],[],[0,1],[0],[],13011⟩ ⟨[(5,.d (.int .i64))],[],[0,1],[0],[],13011⟩ true (.s .p (.s (.s .p (.dr [0,0,0,0,0,0,0,0,0,0,0,0,0,0,0,0] [] false [])) .p)))) .p)))) λ_=>by kernel_rfl,by kernel_rfl⟩
def c_169:Con te:=ag_ te [.b 135 (.st 9),.d (.int .i64)] [(.str,[])] false λa=>be_ a.1 a.2.1
theorem ok_169:OKF 169 c_169:=⟨ac_ af_ ad_ Tryz.func169 (by kernel_rfl) (pl := .s .p (.s (.s (.dr [0,0,0,0,0,0,0,0,0,0,0,0,0,0,0,0,0,0] [] false []) .p) (.s .p (.s (.dr [0,0,0,0,0,0,0,0,0,0,0,0,0,0,0,0] [] false []) .p)))) λ_=>by kernel_rfl,by kernel_rfl⟩
def c_103:Con te:=ag_ te [.b 135 (.st 9)] [(.st 2,[]),(.st 10,[])] false λa=>c9_ a.1
theorem ok_103:OKF 103 c_103:=⟨ac_ af_ (ab_ ok_169 (ab_ ok_102 ad_)) Tryz.func103 (by kernel_rfl) (pl := .s .p (.s .p (.s .p (.s .p (.s .p (.s .p (.s .p (.s .p (.s .p (.s .p (.s .p (.s .p (.s .p (.s .p (.s (.dr [0,0,1,1] [] true [1,3]) .p))))))))))))))) λ_=>by kernel_rfl,by kernel_rfl⟩
def c_238:Con te:=ag_ te [.d (.int .i64)] [(.int .i64,[])] false λa=>gp_ a.1
theorem ok_238:OKF 238 c_238:=⟨ac_ af_ ad_ Tryz.func238 (by kernel_rfl) (pl := .s .p (.s .p (.s .p (.s (.lp ⟨[(3,.d (.int .i64)),(4,.d (.int .i64))],[],[],[],[],8⟩ ⟨[(4,.d (.int .i64))],[],[],[],[],8⟩ false .p) .p)))) λ_=>by kernel_rfl,by kernel_rfl⟩
def c_170:Con te:=ag_ te [.d (.st 10)] [(.bool,[])] false λa=>fo_ a.1
theorem ok_170:OKF 170 c_170:=⟨ac_ af_ (ab_ ok_238 ad_) Tryz.func170 (by kernel_rfl) (pl := .s .p (.s (.dr [0,0,0,0,0,0,0,0,0,0,0,0,0,0,0,0,0,0,0,0,0,0,0] [] false []) .p)) λ_=>by kernel_rfl,by kernel_rfl⟩
def c_297:Con te:=ag_ te [.d (.int .i64)] [(.int .i64,[])] false λa=>eR_ a.1
theorem ok_297:OKF 297 c_297:=⟨ac_ af_ ad_ Tryz.func297 (by kernel_rfl) (pl := .s .p (.s .p (.s (.s .p (.lp ⟨[(3,.d (.int .i64)),(4,.d (.int .i64))],[],[0],[],[],3⟩ ⟨[(3,.d (.int .i64))],[],[],[],[],3⟩ false .p)) .p))) λ_=>by kernel_rfl,by kernel_rfl⟩
def cS_239(rec0:Xx->Str->Int->Int->Int->Int->Int->Bool->Option (Str×Int)):Con te:=ag_ te [.d (.st 6),.d .str,.d (.int .i64),.d (.int .i64),.d (.int .i64),.d (.int .i64),.d (.int .i64),.d .bool] [(.str,[]),(.int .i64,[])] false λa=>rec0 a.1 a.2.1 a.2.2.1 a.2.2.2.1 a.2.2.2.2.1 a.2.2.2.2.2.1 a.2.2.2.2.2.2.1 a.2.2.2.2.2.2.2.1
theorem okS_239(rec0:Xx->Str->Int->Int->Int->Int->Int->Bool->Option (Str×Int))(h:OKF 239 (cS_239 rec0)):OKF 239 (cS_239 (dI_ rec0)):=⟨ac_ af_ (ab_ ok_297 (ab_ ok_101 (ab_ h ad_))) Tryz.func239 (by kernel_rfl) (pl := .s .p (.s .p (.s .p (.s .p (.s .p (.s .p (.s .p (.s .p (.s (.s .p (.lp ⟨[(24,.d .str),(25,.d (.int .i64))],[],[2,3,4,5,6,7,8,20,22,23],[0],[],34⟩ ⟨[(24,.d .str)],[],[],[],[],34⟩ true (.s .p (.j ⟨[(24,.d .str)],[],[2,3,4,5,6,7,8,20,22,23,25],[0],[],37⟩ true (.s .p (.s .p (.s .p (.s (.dr [0,0,0,0,0,0,0,0,0,0,0,0,0,0,0,0,0,0,0,0,0] [] false []) .p)))) .p)))) .p))))))))) λ_=>by kernel_rfl,by kernel_rfl⟩
theorem okN_239:∀n,OKF 239 (cS_239 (dp_ n))
 | 0=>⟨gm_ λ_=>rfl,by kernel_rfl⟩
 | n+1=>okS_239 _ (okN_239 n)
def c_239:Con te:=cS_239 (dp_ BIG)
theorem ok_239:OKF 239 c_239:=okN_239 BIG
def c_171:Con te:=ag_ te [.d (.st 6),.d (.int .i64),.d (.st 10)] [(.str,[]),(.int .i64,[])] false λa=>cu_ a.1 a.2.1 a.2.2.1
theorem ok_171:OKF 171 c_171:=⟨ac_ af_ (ab_ ok_239 (ab_ ok_170 ad_)) Tryz.func171 (by kernel_rfl) (pl := .p) λ_=>by kernel_rfl,by kernel_rfl⟩
def cS_104(rec0:Xx->Xq->Xr->Int->Option ((List Xq)×Int)):Con te:=ag_ te [.d (.st 6),.d (.st 2),.d (.st 10),.d (.int .i64)] [(.sl (.st 2),[]),(.int .i64,[])] true λa=>rec0 a.1 a.2.1 a.2.2.1 a.2.2.2.1
theorem okS_104(rec0:Xx->Xq->Xr->Int->Option ((List Xq)×Int))(h:OKF 104 (cS_104 rec0)):OKF 104 (cS_104 (cf_ rec0)):=⟨ac_ af_ (ab_ ok_103 (ab_ ok_171 (ab_ ok_108 (ab_ ok_170 (ab_ h ad_))))) Tryz.func104 (by kernel_rfl) (pl := .s .p (.s .p (.s .p (.s .p (.s .p (.s .p (.s .p (.s .p (.s (.lp ⟨[(14,.one (.own 4032)),(15,.one (.own 4033))],[(4032,false,.row 81 (.st 2) []),(4033,false,.row 137 (.st 10) []),(4029,true,.box 135 (.st 9))],[3,4,5,12,16],[0,2],[],4034⟩ ⟨[(14,.one (.own 4032)),(15,.one (.own 4033))],[(4032,false,.row 81 (.st 2) []),(4033,false,.row 137 (.st 10) [])],[3,4,5],[0,2],[],4034⟩ true .p) (.s .p (.s (.s .p (.lp ⟨[(19,.one (.own 4039)),(20,.d (.int .i64))],[(4032,true,.row 81 (.st 2) []),(4033,true,.row 137 (.st 10) []),(4039,false,.row 81 (.st 2) [])],[3,4,14,15],[0],[],4040⟩ ⟨[(19,.one (.own 4039))],[(4039,false,.row 81 (.st 2) [])],[],[],[],4040⟩ true (.s .p (.s (.s (.dr [0,0,0,0,0,0,0,0,0,0,0,0,0,1,4,4,4,4,4] [] false []) .p) .p)))) .p))))))))))) λ_=>by kernel_rfl,by kernel_rfl⟩
theorem okN_104:∀n,OKF 104 (cS_104 (bT_ n))
 | 0=>⟨gm_ λ_=>rfl,by kernel_rfl⟩
 | n+1=>okS_104 _ (okN_104 n)
def c_104:Con te:=cS_104 (bT_ BIG)
theorem ok_104:OKF 104 c_104:=okN_104 BIG
def c_105:Con te:=ag_ te [.d (.sl (.st 2))] [(.sl (.st 2),[])] true λa=>gq_ a.1
theorem ok_105:OKF 105 c_105:=⟨ac_ af_ ad_ Tryz.func105 (by kernel_rfl) (pl := .s .p (.s .p (.s (.s .p (.lp ⟨[(3,.d (.sl (.st 2))),(4,.d (.int .i64))],[],[0],[],[],3⟩ ⟨[(3,.d (.sl (.st 2)))],[],[],[],[],3⟩ false (.s .p (.s (.s .p (.s (.lp ⟨[(5,.d (.int .i64))],[],[0,3,4],[],[],8⟩ ⟨[(5,.d (.int .i64))],[],[0,3,4],[],[],8⟩ false (.s (.s (.dr [0,0,0,0,0,0,0,0,0,0,0,0,0,0,0,0,0] [] false []) .p) .p)) .p)) .p)))) .p))) λ_=>by kernel_rfl,by kernel_rfl⟩
def c_39:Con te:=ag_ te [.d (.st 6),.d .str] [(.st 3,[]),(.int .i64,[])] true λa=>di_ a.1 a.2.1
theorem ok_39:OKF 39 c_39:=⟨ac_ af_ (ab_ ok_40 (ab_ ok_105 (ab_ ok_104 (ab_ ok_103 (ab_ ok_102 (ab_ ok_101 ad_)))))) Tryz.func39 (by kernel_rfl) (pl := .p) λ_=>by kernel_rfl,by kernel_rfl⟩
def c_11:Con te:=ag_ te [.d (.st 8)] [(.bool,[])] false λa=>ht_ a.1
theorem ok_11:OKF 11 c_11:=⟨ac_ af_ (ab_ ok_40 (ab_ ok_39 (ab_ ok_38 (ab_ ok_37 ad_)))) Tryz.func11 (by kernel_rfl) (pl := .s .p (.s .p (.s (.s .p (.lp ⟨[(26,.d (.int .i64))],[],[1,25],[0],[],10013⟩ ⟨[],[],[],[],[],10013⟩ true (.s .p (.s .p (.s (.s .p (.s .p (.s (.s (.dr [0,0,0,0,0,0,0,0,0,0,0,0,0,0,0,0,0,0,0,0,0,0,0,0] [] false []) .p) .p))) .p))))) .p))) λ_=>by kernel_rfl,by kernel_rfl⟩
def c_75:Con te:=ag_ te [.d .str] [(.bool,[])] false λa=>dV_ a.1
theorem ok_75:OKF 75 c_75:=⟨ac_ af_ ad_ Tryz.func75 (by kernel_rfl) (pl := .s .p (.s .p (.s (.s .p (.lp ⟨[(16,.d (.int .i64))],[],[0,15],[],[],4007⟩ ⟨[],[],[],[],[],4007⟩ true .p)) .p))) λ_=>by kernel_rfl,by kernel_rfl⟩
def c_143:Con te:=ag_ te [.mp 154 .str (.int .i64),.d (.sl .str)] [(.int .i64,[])] false λa=>gr_ a.1 a.2.1
theorem ok_143:OKF 143 c_143:=⟨ac_ af_ ad_ Tryz.func143 (by kernel_rfl) (pl := .s .p (.s (.s .p (.lp ⟨[(9,.d (.int .i64))],[],[0,1,7,8],[0],[],5⟩ ⟨[],[],[],[0],[],5⟩ true .p)) .p)) λ_=>by kernel_rfl,by kernel_rfl⟩
def c_73:Con te:=ag_ te [.d (.sl (.st 0))] [(.int .i64,[])] false λa=>gs_ a.1
theorem ok_73:OKF 73 c_73:=⟨ac_ af_ (ab_ ok_143 (ab_ ok_75 ad_)) Tryz.func73 (by kernel_rfl) (pl := .s .p (.s .p (.s .p (.s (.s .p (.lp ⟨[(17,.d (.int .i64))],[(4,true,.map 154 .str (.int .i64))],[0,3,4,15,16],[6],[],13⟩ ⟨[],[(4,true,.map 154 .str (.int .i64))],[0,3,4],[6],[],13⟩ false .p)) (.s (.s .p (.lp ⟨[(29,.d (.int .i64))],[(4,true,.map 154 .str (.int .i64)),(6,true,.map 154 .str (.int .i64))],[3,4,27,28],[],[],16⟩ ⟨[],[],[],[],[],16⟩ true .p)) .p))))) λ_=>by kernel_rfl,by kernel_rfl⟩
def c_74:Con te:=ag_ te [.d (.sl (.st 1))] [(.int .i64,[])] false λa=>fp_ a.1
theorem ok_74:OKF 74 c_74:=⟨ac_ af_ (ab_ ok_75 ad_) Tryz.func74 (by kernel_rfl) (pl := .s .p (.s .p (.s (.s .p (.lp ⟨[(10,.d (.int .i64))],[],[0,8,9],[],[],7⟩ ⟨[],[],[],[],[],7⟩ true (.s .p (.s .p (.s (.s .p (.s .p (.s .p (.s (.dr [0,0,0,0,0,0,0,0,0,0,0,0,0,0] [] false []) .p)))) .p))))) .p))) λ_=>by kernel_rfl,by kernel_rfl⟩
def c_76:Con te:=ag_ te [.d (.sl (.st 0))] [(.sl (.st 0),[some 79])] true λa=>bb_ a.1
theorem ok_76:OKF 76 c_76:=⟨ac_ af_ ad_ Tryz.func76 (by kernel_rfl) (pl := .p) λa=>(congrFun gF_ a.1).symm.trans (by kernel_rfl),by kernel_rfl⟩
def c_77:Con te:=ag_ te [.d (.sl (.st 1))] [(.sl (.st 1),[some 120])] false λa=>aW_ a.1
theorem ok_77:OKF 77 c_77:=⟨ac_ af_ ad_ Tryz.func77 (by kernel_rfl) (pl := .p) λa=>(congrFun gb_ a.1).symm.trans (by kernel_rfl),by kernel_rfl⟩
def c_79:Con te:=ag_ te [.d (.int .i64)] [(.int .i64,[])] false λa=>d1_ a.1
theorem ok_79:OKF 79 c_79:=⟨ac_ af_ ad_ Tryz.func79 (by kernel_rfl) (pl := .p) λ_=>by kernel_rfl,by kernel_rfl⟩
def c_144:Con te:=ag_ te [.d .str] [(.str,[])] false λa=>eT_ a.1
theorem ok_144:OKF 144 c_144:=⟨ac_ af_ ad_ Tryz.func144 (by kernel_rfl) (pl := .p) λ_=>by kernel_rfl,by kernel_rfl⟩
def c_145:Con te:=ag_ te [.d (.int .i64)] [(.int .i64,[])] false λa=>eU_ a.1
theorem ok_145:OKF 145 c_145:=⟨ac_ af_ ad_ Tryz.func145 (by kernel_rfl) (pl := .p) λ_=>by kernel_rfl,by kernel_rfl⟩
def c_78:Con te:=ag_ te [.d .str,.d (.int .i64),.d (.int .i64)] [(.st 3,[none,some 81])] false λa=>tree_New a.1 a.2.1 a.2.2.1
theorem ok_78:OKF 78 c_78:=⟨ac_ af_ (ab_ ok_145 (ab_ ok_144 ad_)) Tryz.func78 (by kernel_rfl) (pl := .p) λ_=>by kernel_rfl,by kernel_rfl⟩
def c_80:Con te:=ag_ te [.d (.sl .str)] [(.sl .str,[some 9])] false λa=>aX_ a.1
theorem ok_80:OKF 80 c_80:=⟨ac_ af_ ad_ Tryz.func80 (by kernel_rfl) (pl := .p) λa=>(congrFun hJ_ a.1).symm.trans (by kernel_rfl),by kernel_rfl⟩
def c_31:Con te:=ag_ te [.d (.sl (.st 0)),.d (.sl (.st 1)),.d .str,.d (.int .i64)] [(.st 4,[some 79,some 120,none,some 81]),(.int .i64,[])] true λa=>nl_ a.1 a.2.1 a.2.2.1 a.2.2.2.1
theorem ok_31:OKF 31 c_31:=⟨ac_ af_ (ab_ ok_80 (ab_ ok_78 (ab_ ok_79 (ab_ ok_77 (ab_ ok_76 (ab_ ok_75 (ab_ ok_74 (ab_ ok_73 ad_)))))))) Tryz.func31 (by kernel_rfl) (pl := .s .p (.s .p (.s .p (.s .p (.s .p (.s (.s .p (.lp ⟨[(42,.d (.int .i64))],[(17,true,.row 79 (.st 0) [])],[8,12,41],[0,20,25,28],[],36⟩ ⟨[],[(17,true,.row 79 (.st 0) [])],[8,12],[0,20,25,28],[],36⟩ false (.s .p (.s .p (.s (.s .p (.dr [0,0,0,0,0,0,0,0,0,1,1,4,2] [] false [])) .p))))) .p)))))) λ_=>by kernel_rfl,by kernel_rfl⟩
def c_126:Con te:=ag_ te [.d (.sl (.st 2))] [(.sl (.st 2),[some 81])] false λa=>bs_ a.1
theorem ok_126:OKF 126 c_126:=⟨ac_ af_ ad_ Tryz.func126 (by kernel_rfl) (pl := .p) λa=>(congrFun gH_ a.1).symm.trans (by kernel_rfl),by kernel_rfl⟩
def c_127:Con te:=ag_ te [.d (.sl (.int .i64))] [(.sl (.int .i64),[some 3])] false λa=>bP_ a.1
theorem ok_127:OKF 127 c_127:=⟨ac_ af_ ad_ Tryz.func127 (by kernel_rfl) (pl := .p) λa=>(congrFun kj_ a.1).symm.trans (by kernel_rfl),by kernel_rfl⟩
def c_50:Con te:=ag_ te [.d (.st 4)] [(.st 4,[some 79,some 120,none,some 81,some 3])] true λa=>cg_ a.1
theorem ok_50:OKF 50 c_50:=⟨ac_ af_ (ab_ ok_127 (ab_ ok_126 (ab_ ok_77 (ab_ ok_80 (ab_ ok_76 ad_))))) Tryz.func50 (by kernel_rfl) (pl := .s .p (.s .p (.s .p (.s (.s .p (.lp ⟨[(13,.d (.int .i64))],[(11,true,.row 79 (.st 0) [])],[1,2,3,12],[0,2,5],[],20⟩ ⟨[],[(11,true,.row 79 (.st 0) [])],[1,2,3],[0,2,5],[],20⟩ false (.s .p (.s .p (.s (.s .p (.dr [0,0,0,0,0,0,0,0,0,1,1,4,2] [] false [])) .p))))) .p)))) λ_=>by kernel_rfl,by kernel_rfl⟩
def c_51:Con te:=ag_ te [.d (.int .i64)] [(.st 6,[])] true λa=>block_New a.1
theorem ok_51:OKF 51 c_51:=⟨ac_ af_ ad_ Tryz.func51 (by kernel_rfl) (pl := .p) λ_=>by kernel_rfl,by kernel_rfl⟩
def c_20:Con te:=ag_ te [.d (.st 4),.d (.int .i64)] [(.st 8,[])] true λa=>da_ a.1 a.2.1
theorem ok_20:OKF 20 c_20:=⟨ac_ af_ (ab_ ok_51 (ab_ ok_50 ad_)) Tryz.func20 (by kernel_rfl) (pl := .p) λ_=>by kernel_rfl,by kernel_rfl⟩
def c_249:Con te:=ag_ te [.d (.st 3),.f1 (.st 2) .bool] [(.int .i64,[])] false λa=>ju_ a.1 a.2.1
theorem ok_249:OKF 249 c_249:=⟨ac_ af_ ad_ Tryz.func249 (by kernel_rfl) (pl := .s .p (.s (.s .p (.lp ⟨[(10,.d (.int .i64))],[],[1,8,9],[],[],7⟩ ⟨[],[],[],[],[],7⟩ true .p)) .p)) λ_=>by kernel_rfl,by kernel_rfl⟩
def c_250:Con te:=ag_ te [.d (.st 2),.p (.int .i64)] [(.bool,[])] false λa=>mk_ a.1 a.2.1
theorem ok_250:OKF 250 c_250:=⟨ac_ af_ ad_ Tryz.func250 (by kernel_rfl) (pl := .p) λ_=>by kernel_rfl,by kernel_rfl⟩
def c_184:Con te:=ag_ te [.d (.st 3),.d (.int .i64)] [(.int .i64,[])] false λa=>eV_ a.1 a.2.1
theorem ok_184:OKF 184 c_184:=⟨ac_ af_ (ab_ ok_250 (ab_ ok_249 ad_)) Tryz.func184 (by kernel_rfl) (pl := .p) λ_=>by kernel_rfl,by kernel_rfl⟩
def c_114:Con te:=ag_ te [.d (.st 3),.d (.int .i64)] [(.st 2,[]),(.bool,[])] false λa=>ck_ a.1 a.2.1
theorem gz_:OKF 114 c_114:=⟨ac_ af_ (ab_ ok_184 ad_) Tryz.func114 (by kernel_rfl) (pl := .p) λ_=>by kernel_rfl,by kernel_rfl⟩
def c_178:Con te:=ag_ te [.d (.st 4),.d .str,.d (.int .i64)] [(.st 2,[]),(.int .i64,[])] false λa=>gt_ a.1 a.2.1 a.2.2.1
theorem ok_178:OKF 178 c_178:=⟨ac_ af_ (ab_ gz_ (ab_ ok_75 ad_)) Tryz.func178 (by kernel_rfl) (pl := .p) λ_=>by kernel_rfl,by kernel_rfl⟩
def c_118:Con te:=ag_ te [.d (.int .i64),.d (.int .i64)] [(.bool,[])] false λa=>aV_ a.1 a.2.1
theorem i6_:OKF 118 c_118:=⟨ac_ af_ ad_ Tryz.func118 (by kernel_rfl) (pl := .p) λ_=>by kernel_rfl,by kernel_rfl⟩
def c_129:Con te:=ag_ te [.d (.st 4),.d .str,.d (.int .i64)] [(.st 2,[]),(.int .i64,[])] false λa=>fa_ a.1 a.2.1 a.2.2.1
theorem ok_129:OKF 129 c_129:=⟨ac_ af_ (ab_ i6_ (ab_ ok_178 ad_)) Tryz.func129 (by kernel_rfl) (pl := .s .p (.s .p (.j ⟨[(9,.d (.int .i64))],[],[6,8],[2,12],[],17⟩ false .p .p))) λ_=>by kernel_rfl,by kernel_rfl⟩
def c_251:Con te:=ag_ te [.d (.sl (.st 0)),.d .str] [(.st 0,[none,none,some 9]),(.bool,[])] false λa=>user_Find a.1 a.2.1
theorem ok_251:OKF 251 c_251:=⟨ac_ af_ (ab_ ok_80 ad_) Tryz.func251 (by kernel_rfl) (pl := .s .p (.s (.s .p (.lp ⟨[(10,.d (.int .i64))],[],[1,4,8,9],[0],[],6⟩ ⟨[],[],[4],[0],[],6⟩ true .p)) .p)) λ_=>by kernel_rfl,by kernel_rfl⟩
def c_306:Con te:=ag_ te [.d (.sl .str),.d .str] [(.int .i64,[])] false λa=>c1_ a.1 a.2.1
theorem ok_306:OKF 306 c_306:=⟨ac_ af_ ad_ Tryz.func306 (by kernel_rfl) (pl := .s .p (.s (.s .p (.lp ⟨[(8,.d (.int .i64))],[],[0,1,7],[],[],4⟩ ⟨[],[],[],[],[],4⟩ true .p)) .p)) λ_=>by kernel_rfl,by kernel_rfl⟩
def c_252:Con te:=ag_ te [.d (.sl .str),.d .str] [(.bool,[])] false λa=>dJ_ a.1 a.2.1
theorem ok_252:OKF 252 c_252:=⟨ac_ af_ (ab_ ok_306 ad_) Tryz.func252 (by kernel_rfl) (pl := .p) λ_=>by kernel_rfl,by kernel_rfl⟩
def c_185:Con te:=ag_ te [.d (.sl (.st 0)),.d .str,.d .str] [(.bool,[])] false λa=>nm_ a.1 a.2.1 a.2.2.1
theorem ok_185:OKF 185 c_185:=⟨ac_ af_ (ab_ ok_252 (ab_ ok_251 ad_)) Tryz.func185 (by kernel_rfl) (pl := .p) λ_=>by kernel_rfl,by kernel_rfl⟩
def c_115:Con te:=ag_ te [.d (.sl (.st 0)),.d .str,.d .str,.d .str,.d (.int .i64),.d (.int .i64)] [(.bool,[])] false λa=>jT_ a.1 a.2.1 a.2.2.1 a.2.2.2.1 a.2.2.2.2.1 a.2.2.2.2.2.1
theorem ok_115:OKF 115 c_115:=⟨ac_ af_ (ab_ ok_185 ad_) Tryz.func115 (by kernel_rfl) (pl := .s .p (.s .p (.s .p (.j ⟨[(13,.d (.int .i64))],[],[1,2,4,5],[],[],6008⟩ false .p (.j ⟨[(13,.d (.int .i64))],[],[5],[],[],6008⟩ false .p .p))))) λ_=>by kernel_rfl,by kernel_rfl⟩
def c_130:Con te:=ag_ te [.d (.st 4),.d .str,.d (.st 2),.d (.int .i64)] [(.bool,[])] false λa=>fq_ a.1 a.2.1 a.2.2.1 a.2.2.2.1
theorem ok_130:OKF 130 c_130:=⟨ac_ af_ (ab_ ok_115 ad_) Tryz.func130 (by kernel_rfl) (pl := .p) λ_=>by kernel_rfl,by kernel_rfl⟩
def c_121:Con te:=ag_ te [.d (.int .i64)] [(.bool,[])] false λa=>bq_ a.1
theorem ok_121:OKF 121 c_121:=⟨ac_ af_ ad_ Tryz.func121 (by kernel_rfl) (pl := .p) λ_=>by kernel_rfl,by kernel_rfl⟩
def c_142:Con te:=ag_ te [.d (.st 3),.d (.int .i64)] [(.int .i64,[])] false λa=>hu_ a.1 a.2.1
theorem ok_142:OKF 142 c_142:=⟨ac_ af_ (ab_ ok_121 (ab_ gz_ ad_)) Tryz.func142 (by kernel_rfl) (pl := .p) λ_=>by kernel_rfl,by kernel_rfl⟩
def c_264:Con te:=ag_ te [.d (.st 2),.p (.int .i64),.p .str] [(.bool,[])] false λa=>ml_ a.1 a.2.1 a.2.2.1
theorem ok_264:OKF 264 c_264:=⟨ac_ af_ ad_ Tryz.func264 (by kernel_rfl) (pl := .p) λ_=>by kernel_rfl,by kernel_rfl⟩
def c_195:Con te:=ag_ te [.d (.st 3),.d (.int .i64),.d .str] [(.int .i64,[])] false λa=>la_ a.1 a.2.1 a.2.2.1
theorem ok_195:OKF 195 c_195:=⟨ac_ af_ (ab_ ok_264 (ab_ ok_249 ad_)) Tryz.func195 (by kernel_rfl) (pl := .p) λ_=>by kernel_rfl,by kernel_rfl⟩
def c_131:Con te:=ag_ te [.d (.st 3),.d (.int .i64),.d .str] [(.int .i64,[]),(.int .i64,[])] false λa=>mm_ a.1 a.2.1 a.2.2.1
theorem ok_131:OKF 131 c_131:=⟨ac_ af_ (ab_ ok_195 (ab_ gz_ (ab_ ok_142 ad_))) Tryz.func131 (by kernel_rfl) (pl := .p) λ_=>by kernel_rfl,by kernel_rfl⟩
def c_54:Con te:=ag_ te [.d (.st 4),.d .str,.d (.int .i64),.d .str] [(.int .i64,[]),(.int .i64,[])] false λa=>iX_ a.1 a.2.1 a.2.2.1 a.2.2.2.1
theorem ok_54:OKF 54 c_54:=⟨ac_ af_ (ab_ ok_131 (ab_ ok_130 (ab_ ok_129 ad_))) Tryz.func54 (by kernel_rfl) (pl := .p) λ_=>by kernel_rfl,by kernel_rfl⟩
def c_128:Con te:=ag_ te [.d (.st 8),.d .str] [(.bool,[])] false λa=>kk_ a.1 a.2.1
theorem ok_128:OKF 128 c_128:=⟨ac_ af_ (ab_ ok_54 ad_) Tryz.func128 (by kernel_rfl) (pl := .p) λ_=>by kernel_rfl,by kernel_rfl⟩
def c_294:Con te:=ag_ te [.d (.sl (.st 5)),.f1 (.st 5) .bool] [(.int .i64,[])] false λa=>bQ_ a.1 a.2.1
theorem ok_294:OKF 294 c_294:=⟨ac_ af_ ad_ Tryz.func294 (by kernel_rfl) (pl := .s .p (.s (.s .p (.lp ⟨[(8,.d (.int .i64))],[],[0,1,7],[],[],4⟩ ⟨[],[],[],[],[],4⟩ true .p)) .p)) λ_=>by kernel_rfl,by kernel_rfl⟩
def c_295:Con te:=ag_ te [.d (.st 5),.p .str] [(.bool,[])] false λa=>hY_ a.1 a.2.1
theorem ok_295:OKF 295 c_295:=⟨ac_ af_ ad_ Tryz.func295 (by kernel_rfl) (pl := .p) λ_=>by kernel_rfl,by kernel_rfl⟩
def c_234:Con te:=ag_ te [.d (.st 6),.d .str] [(.int .i64,[])] false λa=>fr_ a.1 a.2.1
theorem ok_234:OKF 234 c_234:=⟨ac_ af_ (ab_ ok_295 (ab_ ok_294 ad_)) Tryz.func234 (by kernel_rfl) (pl := .p) λ_=>by kernel_rfl,by kernel_rfl⟩
theorem e_356(a:PA te [.d .str]):iY_ a.1=evFun Tryz.prog te eqL (ti 343 (inlF Tryz.prog te eqL tnil Tryz.f343 (.p:Pl)) (ti 368 (inlF Tryz.prog te eqL (ti 365 fI_ tnil) Tryz.f368 (.p:Pl)) (ti 342 (inlF Tryz.prog te eqL (ti 365 fI_ tnil) Tryz.f342 (.p:Pl)) (ti 344 lg_ tnil)))) Tryz.f356 [.d .str] [(.str,[])] (.s .p (.s .p (.s .p (.s .p (.s (.lp ⟨[],[(1,true,.cells 323 [.sbp 1,.own 443]),(443,false,.row 5 (.int .u8) [])],[0,3],[],[],444⟩ ⟨[],[(1,true,.cells 323 [.sbp 1,.own 443]),(443,false,.row 5 (.int .u8) [])],[0,3],[],[],444⟩ false .p) (.s .p (.s (.s .p (.lp ⟨[(5,.d (.int .i64))],[(1,true,.cells 323 [.sbp 1,.own 450]),(450,false,.row 5 (.int .u8) [])],[3,4],[],[],451⟩ ⟨[],[(1,true,.cells 323 [.sbp 1,.own 450]),(450,false,.row 5 (.int .u8) [])],[3],[],[],451⟩ false .p)) .p))))))) a:=by kernel_rfl
def c_356:Con te:=ag_ te [.d .str] [(.str,[])] false λa=>iY_ a.1
theorem ok_356:OKF 356 c_356:=⟨ac_ af_ (ti_ok ⟨m2_ af_ ad_ Tryz.func343,by kernel_rfl⟩ (ti_ok ⟨m2_ af_ (ti_ok i4_ ad_) Tryz.func368,by kernel_rfl⟩ (ti_ok ⟨m2_ af_ (ti_ok i4_ ad_) Tryz.func342,by kernel_rfl⟩ (ti_ok rg_ ad_)))) Tryz.func356 (by kernel_rfl) e_356,by kernel_rfl⟩
def c_373:Con te:=ag_ te [.d .str] [(.int .u32,[])] false λa=>jv_ a.1
theorem ok_373:OKF 373 c_373:=⟨ac_ af_ ad_ Tryz.func373 (by kernel_rfl) (pl := .s .p (.s (.dr [0,0,0,0,0,0,0,0,0,0,0,0,0,0,0,0,0,0,0] [] false []) .p)) λ_=>by kernel_rfl,by kernel_rfl⟩
def c_374:Con te:=ag_ te [.d (.int .u32),.d (.int .i64)] [(.int .u32,[])] false λa=>h6_ a.1 a.2.1
theorem ok_374:OKF 374 c_374:=⟨ac_ af_ ad_ Tryz.func374 (by kernel_rfl) (pl := .p) λ_=>by kernel_rfl,by kernel_rfl⟩
def c_370:Con te:=ag_ te [.d (.int .u32),.d (.int .i64)] [(.int .u32,[])] false λa=>aQ_ a.1 a.2.1
theorem ok_370:OKF 370 c_370:=⟨ac_ af_ (ab_ ok_374 ad_) Tryz.func370 (by kernel_rfl) (pl := .p) λ_=>by kernel_rfl,by kernel_rfl⟩
def c_369:Con te:=ag_ te [.d .str] [(.st 14,[])] false λa=>fB_ a.1
theorem ok_369:OKF 369 c_369:=⟨ac_ af_ (ab_ ok_370 (ab_ ok_373 ad_)) Tryz.func369 (by kernel_rfl) (pl := .s .p (.s .p (.s (.s .p (.lp ⟨[(9,.d (.int .i64))],[(2,true,.box 353 (.st 14))],[0,2,3],[0],[],5⟩ ⟨[],[(2,true,.box 353 (.st 14))],[2,3],[0],[],5⟩ false (.s .p (.s .p (.j ⟨[],[(2,true,.box 353 (.st 14))],[0,2,3,9],[0],[],6⟩ false (.s .p (.s .p (.s (.dr [0,0,0,0,0,0,0,0,0,0] [] false []) (.s .p (.s .p (.dr [0,0,0,0,0,0,0,0,0,0,0,0,0,0,0,2] [] false [])))))) .p))))) .p))) λ_=>by kernel_rfl,by kernel_rfl⟩
def c_357:Con te:=ag_ te [.d (.st 13),.d .str] [(.st 13,[])] false λa=>lb_ a.1 a.2.1
theorem ok_357:OKF 357 c_357:=⟨ac_ af_ (ab_ ok_370 (ab_ ok_369 ad_)) Tryz.func357 (by kernel_rfl) (pl := .s .p (.s .p (.s .p (.s (.s .p (.lp ⟨[(20,.d (.int .i64))],[(11,true,.box 337 (.st 13))],[2,4,5,6],[0,2,6],[],16⟩ ⟨[],[(11,true,.box 337 (.st 13))],[2,4,6],[0,2],[],16⟩ false (.s .p (.s .p (.s (.s .p (.s (.dr [0,0,0,0,0,0,0,0,0,0,0,0,0,0,0,0,0,0] [] false []) (.s (.dr [0,0,0,0,0,0,0,0,0,0,0,0,0,0,0,0,0,0,0,0,0,0,0,0,0,0,0,0,0] [] false []) .p))) .p))))) (.s (.s .p (.lp ⟨[(98,.d (.int .i64))],[(0,true,.box 337 (.st 13))],[2,4,6],[2,11],[],17⟩ ⟨[],[(0,true,.box 337 (.st 13))],[2,4],[2],[],17⟩ false (.s .p (.s .p (.s (.s .p (.dr [0,0,0,0,0,0,0,0,2] [] false [])) .p))))) .p))))) λ_=>by kernel_rfl,by kernel_rfl⟩
def c_334:Con te:=ag_ te [.d .str] [(.str,[])] false λa=>lc_ a.1
theorem ok_334:OKF 334 c_334:=⟨ac_ af_ (ab_ ok_357 (ab_ ok_356 ad_)) Tryz.func334 (by kernel_rfl) (pl := .s .p (.s .p (.s (.s .p (.lp ⟨[(4,.d .str)],[(2,true,.box 337 (.st 13))],[3],[],[],9⟩ ⟨[],[(2,true,.box 337 (.st 13))],[3],[],[],9⟩ false (.s .p (.s (.dr [0,0,0,0,2] [] false []) .p)))) (.s .p (.s (.s .p (.lp ⟨[(5,.one (.own 14)),(21,.d (.int .i64))],[(14,false,.row 5 (.int .u8) [])],[20],[],[],15⟩ ⟨[(5,.one (.own 14))],[(14,false,.row 5 (.int .u8) [])],[],[],[],15⟩ false .p)) .p))))) λ_=>by kernel_rfl,by kernel_rfl⟩
def c_293:Con te:=ag_ te [.d (.int .i64),.d .str] [(.str,[])] false λa=>it_ a.1 a.2.1
theorem ok_293:OKF 293 c_293:=⟨ac_ af_ (ab_ ok_334 ad_) Tryz.func293 (by kernel_rfl) (pl := .p) λ_=>by kernel_rfl,by kernel_rfl⟩
def c_233:Con te:=ag_ te [.d (.int .i64),.d .str] [(.st 5,[])] false λa=>gu_ a.1 a.2.1
theorem ok_233:OKF 233 c_233:=⟨ac_ af_ (ab_ ok_293 ad_) Tryz.func233 (by kernel_rfl) (pl := .p) λ_=>by kernel_rfl,by kernel_rfl⟩
def c_253:Con te:=ag_ te [.d (.st 6),.d .str,.d (.int .i64)] [(.str,[]),(.int .i64,[])] false λa=>jw_ a.1 a.2.1 a.2.2.1
theorem ok_253:OKF 253 c_253:=⟨ac_ af_ (ab_ ok_233 (ab_ ok_234 ad_)) Tryz.func253 (by kernel_rfl) (pl := .s .p (.s .p (.s (.s .p (.s .p (.s .p (.s .p (.s (.dr [0,0,0,0,0,0,0,0,0,0,0,0,0,0,0] [] false []) .p))))) .p))) λ_=>by kernel_rfl,by kernel_rfl⟩
def c_186:Con te:=ag_ te [.bm 205 (.st 12) [none,none,some 9] false,.d .str,.d (.int .i64)] [(.str,[]),(.int .i64,[])] true λa=>bN_ a.1 a.2.1 a.2.2.1
theorem ok_186:OKF 186 c_186:=⟨ac_ af_ (ab_ ok_253 ad_) Tryz.func186 (by kernel_rfl) (pl := .s .p (.s .p (.j ⟨[(9,.d (.int .i64))],[],[0,1,8],[0,1],[],16⟩ false .p .p))) λ_=>by kernel_rfl,by kernel_rfl⟩
def c_254:Con te:=ag_ te [.d .str,.d (.int .i64),.d (.int .i64)] [(.int .i64,[]),(.int .i64,[]),(.int .i64,[])] false λa=>hK_ a.1 a.2.1 a.2.2.1
theorem ok_254:OKF 254 c_254:=⟨ac_ af_ ad_ Tryz.func254 (by kernel_rfl) (pl := .s .p (.s .p (.s .p (.s .p (.s (.s .p (.lp ⟨[(9,.d (.int .u64)),(10,.d (.int .i64))],[],[0,1,2],[],[],11018⟩ ⟨[(9,.d (.int .u64))],[],[1,2],[],[],11018⟩ false .p)) .p))))) λ_=>by kernel_rfl,by kernel_rfl⟩
def c_187:Con te:=ag_ te [.b 209 (.st 15),.d (.int .i64)] [(.int .i64,[])] false λa=>av_ a.1 a.2.1
theorem ok_187:OKF 187 c_187:=⟨ac_ af_ (ab_ ok_254 ad_) Tryz.func187 (by kernel_rfl) (pl := .s .p (.s (.dr [0,0,0,0,0,0,0,0,0,0,0,0,0,0,0,0,0] [] false []) .p)) λ_=>by kernel_rfl,by kernel_rfl⟩
def c_307:Con te:=ag_ te [.d .str,.d (.int .i64)] [(.str,[]),(.int .i64,[]),(.int .i64,[])] false λa=>fC_ a.1 a.2.1
theorem ok_307:OKF 307 c_307:=⟨ac_ af_ (ab_ ok_254 ad_) Tryz.func307 (by kernel_rfl) (pl := .p) λ_=>by kernel_rfl,by kernel_rfl⟩
def c_255:Con te:=ag_ te [.b 209 (.st 15)] [(.str,[])] false λa=>bw_ a.1
theorem ok_255:OKF 255 c_255:=⟨ac_ af_ (ab_ ok_307 ad_) Tryz.func255 (by kernel_rfl) (pl := .s .p (.s (.dr [0,0,0,0,0,0,0,0,0,0,0,0,0,0,0,0] [] false []) .p)) λ_=>by kernel_rfl,by kernel_rfl⟩
def c_256:Con te:=ag_ te [.b 209 (.st 15)] [(.str,[])] false λa=>cN_ a.1
theorem ok_256:OKF 256 c_256:=⟨ac_ af_ ad_ Tryz.func256 (by kernel_rfl) (pl := .s .p (.s (.s (.dr [0,0,0,0,0,0,0,0,0,0,0,0,0,0,0,0,0] [] false []) .p) (.s .p (.s (.dr [0,0,0,0,0,0,0,0,0,0,0,0,0,0,0] [] false []) .p)))) λ_=>by kernel_rfl,by kernel_rfl⟩
def c_188:Con te:=ag_ te [.b 209 (.st 15)] [(.st 16,[])] false λa=>b0_ a.1
theorem ok_188:OKF 188 c_188:=⟨ac_ af_ (ab_ ok_256 (ab_ ok_255 (ab_ ok_187 ad_))) Tryz.func188 (by kernel_rfl) (pl := .p) λ_=>by kernel_rfl,by kernel_rfl⟩
def c_230:Con te:=ag_ te [.d (.st 2)] [(.bool,[])] false λa=>cl_ a.1
theorem ok_230:OKF 230 c_230:=⟨ac_ af_ ad_ Tryz.func230 (by kernel_rfl) (pl := .p) λ_=>by kernel_rfl,by kernel_rfl⟩
def c_333:Con te:=ag_ te [.d (.int .i64),.d (.int .i64)] [(.int .i64,[])] false λa=>db_ a.1 a.2.1
theorem ok_333:OKF 333 c_333:=⟨ac_ af_ ad_ Tryz.func333 (by kernel_rfl) (pl := .s .p (.s .p (.s (.s .p (.lp ⟨[(5,.d (.int .i64)),(12,.d (.int .i64))],[],[11],[],[],9⟩ ⟨[(5,.d (.int .i64))],[],[],[],[],9⟩ false .p)) .p))) λ_=>by kernel_rfl,by kernel_rfl⟩
def c_291:Con te:=ag_ te [.d (.int .i64)] [(.int .i64,[])] false λa=>dK_ a.1
theorem ok_291:OKF 291 c_291:=⟨ac_ af_ (ab_ ok_333 ad_) Tryz.func291 (by kernel_rfl) (pl := .s .p (.s .p (.s (.lp ⟨[(3,.d (.int .i64))],[],[0],[],[],2⟩ ⟨[(3,.d (.int .i64))],[],[],[],[],2⟩ false .p) .p))) λ_=>by kernel_rfl,by kernel_rfl⟩
def c_308:Con te:=ag_ te [.d (.st 10)] [(.bool,[])] false λa=>fD_ a.1
theorem ok_308:OKF 308 c_308:=⟨ac_ af_ (ab_ ok_291 ad_) Tryz.func308 (by kernel_rfl) (pl := .s .p (.s (.dr [0,0,0,0,0,0,0,0,0,0,0,0,0,0,0,0,0,0,0,0,0,0,0] [] false []) .p)) λ_=>by kernel_rfl,by kernel_rfl⟩
def c_345:Con te:=ag_ te [.d (.st 18),.d (.int .i64),.d (.int .i64)] [(.int .i64,[])] false λa=>bF_ a.1 a.2.1 a.2.2.1
theorem ok_345:OKF 345 c_345:=⟨ac_ af_ (ab_ ok_333 ad_) Tryz.func345 (by kernel_rfl) (pl := .p) λ_=>by kernel_rfl,by kernel_rfl⟩
def c_346:Con te:=ag_ te [.d (.int .i64)] [(.int .i64,[])] false λa=>bM_ a.1
theorem ok_346:OKF 346 c_346:=⟨ac_ af_ ad_ Tryz.func346 (by kernel_rfl) (pl := .s .p (.s .p (.s (.s .p (.lp ⟨[(3,.d (.int .i64)),(5,.d (.int .i64))],[],[4],[],[],4⟩ ⟨[(3,.d (.int .i64))],[],[],[],[],4⟩ false .p)) .p))) λ_=>by kernel_rfl,by kernel_rfl⟩
def cS_309(rec0:Xj->Yt->Str->Int->Int->Option (Str×Int×Xj)):Con te:=ag_ te [.bm 205 (.st 12) [none,none,some 9] false,.d (.st 18),.d .str,.d (.int .i64),.d (.int .i64)] [(.str,[]),(.int .i64,[])] true λa=>rec0 a.1 a.2.1 a.2.2.1 a.2.2.2.1 a.2.2.2.2.1
theorem okS_309(rec0:Xj->Yt->Str->Int->Int->Option (Str×Int×Xj))(h:OKF 309 (cS_309 rec0)):OKF 309 (cS_309 (bG_ rec0)):=⟨ac_ af_ (ab_ ok_346 (ab_ ok_345 (ab_ ok_186 (ab_ h ad_)))) Tryz.func309 (by kernel_rfl) (pl := .s .p (.s .p (.j ⟨[(12,.d (.int .i64))],[],[0,2,3,4,6],[0,1,2],[],7⟩ false .p (.s .p (.s .p (.s .p (.s .p (.s .p (.s .p (.s (.s .p (.lp ⟨[(16,.d .str),(66,.d (.int .i64))],[(0,true,.cells 205 [.v (.int .i64),.v (.sl (.st 5)),.own 41]),(41,false,.row 9 .str [])],[0,3,4,6,13,65],[2],[],42⟩ ⟨[(16,.d .str)],[(0,true,.cells 205 [.v (.int .i64),.v (.sl (.st 5)),.own 41]),(41,false,.row 9 .str [])],[],[],[],42⟩ true (.s .p (.s .p (.j ⟨[(16,.d .str)],[(0,true,.cells 205 [.v (.int .i64),.v (.sl (.st 5)),.own 43]),(43,false,.row 9 .str [])],[0,3,4,6,13,65,66],[2],[],44⟩ true (.s .p (.s .p (.s .p (.s (.s (.dr [0,0,0,0,0,0,0,0,0,0,0,0,0,0] [] false []) .p) (.s (.dr [0,0,0,0,0,0,0,0,0,0,0,0,2,4,4,4,4,4] [] false []) .p))))) .p))))) .p)))))))))) λ_=>by kernel_rfl,by kernel_rfl⟩
theorem okN_309:∀n,OKF 309 (cS_309 (bn_ n))
 | 0=>⟨gm_ λ_=>rfl,by kernel_rfl⟩
 | n+1=>okS_309 _ (okN_309 n)
def c_309:Con te:=cS_309 (bn_ BIG)
theorem ok_309:OKF 309 c_309:=okN_309 BIG
def c_257:Con te:=ag_ te [.bm 205 (.st 12) [none,none,some 9] false,.d (.st 10),.d (.int .i64)] [(.str,[]),(.int .i64,[])] true λa=>cn_ a.1 a.2.1 a.2.2.1
theorem ok_257:OKF 257 c_257:=⟨ac_ af_ (ab_ ok_309 (ab_ ok_186 (ab_ ok_308 ad_))) Tryz.func257 (by kernel_rfl) (pl := .s .p (.s .p (.s (.s .p (.s (.s .p (.j ⟨[(9,.d (.int .i64))],[],[],[0,16],[],26⟩ false .p .p)) .p)) .p))) λ_=>by kernel_rfl,by kernel_rfl⟩
def c_258:Con te:=ag_ te [.d .str] [(.sl (.st 16),[some 184]),(.bool,[])] false λa=>ek_ a.1
theorem ok_258:OKF 258 c_258:=⟨ac_ af_ (ab_ ok_188 ad_) Tryz.func258 (by kernel_rfl) (pl := .s .p (.s .p (.s .p (.s (.lp ⟨[(5,.one (.own 8))],[(4,true,.box 209 (.st 15)),(8,false,.row 184 (.st 16) [])],[0,4],[],[],9⟩ ⟨[(5,.one (.own 8))],[(4,true,.box 209 (.st 15)),(8,false,.row 184 (.st 16) [])],[4],[],[],9⟩ false .p) (.s (.dr [0,0,0,0,0,0,0,0] [] false []) .p))))) λ_=>by kernel_rfl,by kernel_rfl⟩
def c_310:Con te:=ag_ te [.d (.sl (.st 16)),.f1 (.st 16) .bool] [(.int .i64,[])] false λa=>br_ a.1 a.2.1
theorem ok_310:OKF 310 c_310:=⟨ac_ af_ ad_ Tryz.func310 (by kernel_rfl) (pl := .s .p (.s (.s .p (.lp ⟨[(8,.d (.int .i64))],[],[0,1,7],[],[],4⟩ ⟨[],[],[],[],[],4⟩ true .p)) .p)) λ_=>by kernel_rfl,by kernel_rfl⟩
def c_259:Con te:=ag_ te [.d (.sl (.st 16)),.f1 (.st 16) .bool] [(.bool,[])] false λa=>aE_ a.1 a.2.1
theorem ok_259:OKF 259 c_259:=⟨ac_ af_ (ab_ ok_310 ad_) Tryz.func259 (by kernel_rfl) (pl := .p) λ_=>by kernel_rfl,by kernel_rfl⟩
def c_260:Con te:=ag_ te [.d (.st 16),.p (.st 16)] [(.bool,[])] false λa=>bK_ a.1 a.2.1
theorem ok_260:OKF 260 c_260:=⟨ac_ af_ ad_ Tryz.func260 (by kernel_rfl) (pl := .p) λ_=>by kernel_rfl,by kernel_rfl⟩
def cS_189(rec0:Xb->Xj->Xn->Option (Int×Xb×Xj)):Con te:=ag_ te [.bm 213 (.st 17) [some 81] true,.bm 205 (.st 12) [none,none,some 9] false,.d (.st 16)] [(.int .i64,[])] true λa=>rec0 a.1 a.2.1 a.2.2.1
theorem okS_189(rec0:Xb->Xj->Xn->Option (Int×Xb×Xj))(h:OKF 189 (cS_189 rec0)):OKF 189 (cS_189 (aU_ rec0)):=⟨ac_ af_ (ab_ ok_260 (ab_ ok_259 (ab_ ok_258 (ab_ ok_257 (ab_ ok_230 (ab_ h ad_)))))) Tryz.func189 (by kernel_rfl) (pl := .s .p (.s (.s (.dr [0,0,0,0,0,0,0,0,0,0] [] false []) .p) (.s .p (.j ⟨[(5,.d (.int .i64))],[],[0,3],[0,1,2,3,4],[],18⟩ false .p (.s (.dr [0,0,0,0,0,0,0,2,4,4,4,4,4] [] false []) (.s .p (.s (.s .p (.s (.s .p (.s (.dr [4,0,0,0,0,0,0,1,2,4,4,2] [0,1,2,3,4,5,6] false []) .p)) .p)) (.s (.dr [4,0,0,0,0,0,0,1,2,4,4,2] [0,1,2,3,4,5,6] false []) (.s .p (.s .p (.s (.s .p (.lp ⟨[(83,.d (.int .i64))],[(0,true,.cells 213 [.ptr 2,.own 4072,.v (.int .i64)]),(2,true,.cells 205 [.v (.int .i64),.v (.sl (.st 5)),.own 4071]),(4071,false,.row 9 .str []),(4072,false,.row 81 (.st 2) []),(58,true,.row 184 (.st 16) [])],[0,81,82],[],[],4073⟩ ⟨[],[(0,true,.cells 213 [.ptr 2,.own 4072,.v (.int .i64)]),(2,true,.cells 205 [.v (.int .i64),.v (.sl (.st 5)),.own 4071]),(4071,false,.row 9 .str []),(4072,false,.row 81 (.st 2) [])],[],[],[],4073⟩ true .p)) .p))))))))))) λ_=>by kernel_rfl,by kernel_rfl⟩
theorem okN_189:∀n,OKF 189 (cS_189 (aL_ n))
 | 0=>⟨gm_ λ_=>rfl,by kernel_rfl⟩
 | n+1=>okS_189 _ (okN_189 n)
def c_189:Con te:=cS_189 (aL_ BIG)
theorem ok_189:OKF 189 c_189:=okN_189 BIG
def c_193:Con te:=ag_ te [.d (.int .i64)] [(.bool,[])] false λa=>gv_ a.1
theorem ok_193:OKF 193 c_193:=⟨ac_ af_ ad_ Tryz.func193 (by kernel_rfl) (pl := .s .p (.s .p (.s (.s .p (.j ⟨[(9,.d .bool)],[],[],[],[],7⟩ false .p .p)) .p))) λ_=>by kernel_rfl,by kernel_rfl⟩
def c_120:Con te:=ag_ te [.d (.st 2)] [(.bool,[])] false λa=>gw_ a.1
theorem ok_120:OKF 120 c_120:=⟨ac_ af_ (ab_ ok_121 (ab_ ok_145 (ab_ ok_193 ad_))) Tryz.func120 (by kernel_rfl) (pl := .s .p (.s (.s (.dr [0,0,0,0,0,0,0,0,0,0,0,0,0,0,0,0,0,0,0,0,0,0,0,0,0,0,0,0,0,0] [] false []) .p) .p)) λ_=>by kernel_rfl,by kernel_rfl⟩
def c_122:Con te:=ag_ te [.d .str] [(.bool,[])] false λa=>dq_ a.1
theorem ok_122:OKF 122 c_122:=⟨ac_ af_ ad_ Tryz.func122 (by kernel_rfl) (pl := .s .p (.s .p (.s (.s .p (.lp ⟨[(21,.d (.int .i64))],[],[0,20],[],[],10009⟩ ⟨[],[],[],[],[],10009⟩ true .p)) .p))) λ_=>by kernel_rfl,by kernel_rfl⟩
def c_47:Con te:=ag_ te [.d (.st 3)] [(.bool,[])] false λa=>c2_ a.1
theorem ok_47:OKF 47 c_47:=⟨ac_ af_ (ab_ ok_122 (ab_ ok_121 (ab_ ok_120 ad_))) Tryz.func47 (by kernel_rfl) (pl := .s .p (.s .p (.s .p (.s (.s .p (.lp ⟨[(27,.d (.int .i64))],[(9009,true,.map 155 (.int .i64) (.int .i64)),(9011,true,.map 156 (.st 19) (.int .i64))],[1,3,4,25,26],[0],[],9019⟩ ⟨[],[],[],[],[],9019⟩ true (.s .p (.s .p (.j ⟨[],[(9009,true,.map 155 (.int .i64) (.int .i64)),(9011,true,.map 156 (.st 19) (.int .i64))],[1,3,4,25,26,27],[0],[],9020⟩ true (.s .p (.s (.s (.dr [0,0,0,0,0,0,0,0,0,0,0,0,0,0,0,0,0,0,0,0,0,0,0,0,0,0] [] false []) .p) (.j ⟨[],[],[1,3,4,5,6,25,26,27],[0,9009,9011,9023],[],30033⟩ true .p (.j ⟨[],[(9011,true,.map 156 (.st 19) (.int .i64))],[1,3,4,6,25,26,27],[0,9009,9023],[],30033⟩ false (.s .p (.s (.ot 6 (.alt 6 (.free 7 (.alt 8 (.free 9 (.alt 10 .nil .nil)) .nil)) (.alt 8 (.free 9 (.alt 6 (.free 7 (.alt 10 .nil .nil)) .nil)) .nil))) .p)) .p)))) .p))))) .p)))) λa=>(congrFun e_tree_Right a.1).symm.trans (by kernel_rfl),by kernel_rfl⟩
def c_117:Con te:=ag_ te [.bm 205 (.st 12) [none,none,some 9] false,.d .str] [(.st 3,[none,some 81]),(.int .i64,[])] true λa=>de_ a.1 a.2.1
theorem ok_117:OKF 117 c_117:=⟨ac_ af_ (ab_ ok_47 (ab_ ok_189 (ab_ ok_188 (ab_ ok_187 (ab_ ok_186 (ti_ok nX_ ad_)))))) Tryz.func117 (by kernel_rfl) (pl := .p) λ_=>by kernel_rfl,by kernel_rfl⟩
theorem e_44(a:PA te [.d (.st 6),.d .str]):cO_ a.1 a.2.1=evFun Tryz.prog te eqL (ti 116 (inlF Tryz.prog te eqL tnil Tryz.f116 (.p:Pl)) (tb 117 c_117 tnil)) Tryz.f44 [.d (.st 6),.d .str] [(.st 3,[none,some 81]),(.int .i64,[])] (.p:Pl) a:=by kernel_rfl
def c_44:Con te:=ag_ te [.d (.st 6),.d .str] [(.st 3,[none,some 81]),(.int .i64,[])] false λa=>cO_ a.1 a.2.1
theorem ok_44:OKF 44 c_44:=⟨ac_ af_ (ti_ok ⟨m2_ af_ ad_ Tryz.func116,by kernel_rfl⟩ (ab_ ok_117 ad_)) Tryz.func44 (by kernel_rfl) e_44,by kernel_rfl⟩
def c_61:Con te:=ag_ te [.d (.st 8),.d (.int .i64)] [(.st 11,[]),(.bool,[])] true λa=>hZ_ a.1 a.2.1
theorem ok_61:OKF 61 c_61:=⟨ac_ af_ (ab_ gz_ (ab_ ok_44 ad_)) Tryz.func61 (by kernel_rfl) (pl := .s .p (.s .p (.s .p (.s .p (.s .p (.j ⟨[],[(10022,true,.cells 96 [.v (.sl (.st 0)),.v (.sl (.st 1)),.v (.int .i64),.v (.sl (.st 2)),.v (.sl (.int .i64)),.v (.int .i64),.v (.int .i64)])],[4,7,8],[2],[],10026⟩ true (.s .p (.s (.s (.df [0,0,0,0,0,0,0,0,0,1,4,4,4,1,2,4] [] 4) .p) .p)) .p)))))) λ_=>by kernel_rfl,by kernel_rfl⟩
def c_53:Con te:=ag_ te [.d (.st 8),.d .str,.d (.int .i64)] [(.st 11,[]),(.int .i64,[])] true λa=>dL_ a.1 a.2.1 a.2.2.1
theorem ok_53:OKF 53 c_53:=⟨ac_ af_ (ab_ ok_61 (ab_ ok_128 ad_)) Tryz.func53 (by kernel_rfl) (pl := .p) λ_=>by kernel_rfl,by kernel_rfl⟩
def c_161:Con te:=ag_ te [.d (.sl (.st 5))] [(.sl (.st 5),[some 83])] false λa=>bl_ a.1
theorem ok_161:OKF 161 c_161:=⟨ac_ af_ ad_ Tryz.func161 (by kernel_rfl) (pl := .p) λa=>(congrFun gd_ a.1).symm.trans (by kernel_rfl),by kernel_rfl⟩
def c_162:Con te:=ag_ te [.d (.sl (.st 7))] [(.sl (.st 7),[some 39])] false λa=>cF_ a.1
theorem ok_162:OKF 162 c_162:=⟨ac_ af_ ad_ Tryz.func162 (by kernel_rfl) (pl := .p) λa=>(congrFun gJ_ a.1).symm.trans (by kernel_rfl),by kernel_rfl⟩
def c_96:Con te:=ag_ te [.d (.st 8)] [(.st 8,[some 79,some 120,none,some 81,some 3,none,some 83,some 39])] true λa=>ax_ a.1
theorem ok_96:OKF 96 c_96:=⟨ac_ af_ (ab_ ok_162 (ab_ ok_161 (ab_ ok_50 ad_))) Tryz.func96 (by kernel_rfl) (pl := .s .p (.s (.dr [0,0,1,0,0,0,0,0,0,1,4,0,0,1,4,2] [3,6,11,4,7,12,5,8] false []) .p)) λ_=>by kernel_rfl,by kernel_rfl⟩
def c_173:Con te:=ag_ te [.d (.st 4)] [(.st 4,[some 79,some 120,none,some 81,some 3])] true λa=>fF_ a.1
theorem ok_173:OKF 173 c_173:=⟨ac_ af_ (ab_ ok_127 (ab_ ok_77 (ab_ ok_126 (ab_ ok_80 (ab_ ok_76 ad_))))) Tryz.func173 (by kernel_rfl) (pl := .s .p (.s .p (.s (.s .p (.lp ⟨[(11,.d (.int .i64))],[(6,true,.row 79 (.st 0) [])],[1,2,3,10],[0,2],[],12⟩ ⟨[],[(6,true,.row 79 (.st 0) [])],[1,2,3],[0,2],[],12⟩ false .p)) (.s (.df [0,0,0,0,0,0,1,4,1,2] [] 2) (.s (.dr [0,0,0,1,0,0,0,1,4,2] [4,5,6] false []) .p))))) λ_=>by kernel_rfl,by kernel_rfl⟩
def c_240:Con te:=ag_ te [.d (.int .i64)] [(.bool,[])] false λa=>h7_ a.1
theorem ok_240:OKF 240 c_240:=⟨ac_ af_ ad_ Tryz.func240 (by kernel_rfl) (pl := .p) λ_=>by kernel_rfl,by kernel_rfl⟩
def c_183:Con te:=ag_ te [.d (.int .i64),.d (.int .i64)] [(.bool,[])] false λa=>iZ_ a.1 a.2.1
theorem ok_183:OKF 183 c_183:=⟨ac_ af_ ad_ Tryz.func183 (by kernel_rfl) (pl := .p) λ_=>by kernel_rfl,by kernel_rfl⟩
def c_113:Con te:=ag_ te [.d (.int .i64)] [(.int .i64,[]),(.int .i64,[])] false λa=>jx_ a.1
theorem ok_113:OKF 113 c_113:=⟨ac_ af_ (ab_ ok_183 ad_) Tryz.func113 (by kernel_rfl) (pl := .s .p (.s .p (.j ⟨[(4,.d (.int .i64))],[],[0],[],[],4⟩ false .p (.j ⟨[(4,.d (.int .i64))],[],[0],[],[],4⟩ false .p (.s .p (.s .p (.j ⟨[(5,.d (.int .i64))],[],[],[],[],3014⟩ false .p .p))))))) λ_=>by kernel_rfl,by kernel_rfl⟩
def c_298:Con te:=ag_ te [.d (.sl (.st 1)),.d .str] [(.st 1,[]),(.bool,[])] false λa=>oU_ a.1 a.2.1
theorem ok_298:OKF 298 c_298:=⟨ac_ af_ ad_ Tryz.func298 (by kernel_rfl) (pl := .s .p (.s (.s .p (.lp ⟨[(10,.d (.int .i64))],[],[1,4,8,9],[0],[],6⟩ ⟨[],[],[4],[0],[],6⟩ true .p)) .p)) λ_=>by kernel_rfl,by kernel_rfl⟩
def c_299:Con te:=ag_ te [.d (.st 3),.d .str] [(.int .i64,[]),(.int .i64,[])] false λa=>oV_ a.1 a.2.1
theorem ok_299:OKF 299 c_299:=⟨ac_ af_ ad_ Tryz.func299 (by kernel_rfl) (pl := .s .p (.s .p (.s (.s .p (.lp ⟨[(6,.d (.int .i64)),(7,.d (.int .i64)),(13,.d (.int .i64))],[],[1,11,12],[],[],10⟩ ⟨[(6,.d (.int .i64)),(7,.d (.int .i64))],[],[],[],[],10⟩ false (.s .p (.s .p (.j ⟨[(6,.d (.int .i64)),(7,.d (.int .i64))],[],[1,11,12,13],[],[],11⟩ false .p .p))))) .p))) λ_=>by kernel_rfl,by kernel_rfl⟩
def c_241:Con te:=ag_ te [.d (.sl (.st 1)),.d (.st 3),.d .str,.d (.int .i64),.d (.int .i64)] [(.bool,[])] false λa=>ld_ a.1 a.2.1 a.2.2.1 a.2.2.2.1 a.2.2.2.2.1
theorem ok_241:OKF 241 c_241:=⟨ac_ af_ (ab_ ok_299 (ab_ ok_298 ad_)) Tryz.func241 (by kernel_rfl) (pl := .p) λ_=>by kernel_rfl,by kernel_rfl⟩
def c_174:Con te:=ag_ te [.d (.st 4),.d .str,.d (.st 2),.d .str,.d (.int .i64),.d (.int .i64)] [(.int .i64,[])] false λa=>lx_ a.1 a.2.1 a.2.2.1 a.2.2.2.1 a.2.2.2.2.1 a.2.2.2.2.2.1
theorem ok_174:OKF 174 c_174:=⟨ac_ af_ (ab_ ok_241 (ab_ ok_131 (ab_ ok_130 (ab_ i6_ (ab_ ok_113 (ab_ ok_240 (ab_ ok_122 ad_))))))) Tryz.func174 (by kernel_rfl) (pl := .p) λ_=>by kernel_rfl,by kernel_rfl⟩
def c_175:Con te:=ag_ te [.d (.int .i64),.d (.int .i64)] [(.int .i64,[])] false λa=>mo_ a.1 a.2.1
theorem ok_175:OKF 175 c_175:=⟨ac_ af_ (ab_ ok_183 ad_) Tryz.func175 (by kernel_rfl) (pl := .s .p (.s .p (.s .p (.j ⟨[(5,.d (.int .i64))],[],[0,1],[],[],3005⟩ false .p .p)))) λ_=>by kernel_rfl,by kernel_rfl⟩
def c_242:Con te:=ag_ te [.d (.st 3)] [(.st 3,[none,some 81])] false λa=>bg_ a.1
theorem ok_242:OKF 242 c_242:=⟨ac_ af_ ad_ Tryz.func242 (by kernel_rfl) (pl := .p) λ_=>by kernel_rfl,by kernel_rfl⟩
def c_243:Con te:=ag_ te [.l (.st 3) [none,some 81],.d (.int .i64),.d .str,.d (.int .i64)] [] false λa=>hw_ a.1 a.2.1 a.2.2.1 a.2.2.2.1
theorem ok_243:OKF 243 c_243:=⟨ac_ af_ (ab_ ok_144 (ab_ ok_145 ad_)) Tryz.func243 (by kernel_rfl) (pl := .s .p (.s .p (.s .p (.j ⟨[],[(0,true,.row 81 (.st 2) [(6,8)])],[2,3,8],[],[6],18⟩ false .p .p)))) λ_=>by kernel_rfl,by kernel_rfl⟩
def c_176:Con te:=ag_ te [.d (.st 3),.d (.int .i64),.d .str,.d (.int .i64),.d .str,.d .str,.d (.int .i64)] [(.st 3,[none,some 81]),(.int .i64,[]),(.int .i64,[])] false λa=>np_ a.1 a.2.1 a.2.2.1 a.2.2.2.1 a.2.2.2.2.1 a.2.2.2.2.2.1 a.2.2.2.2.2.2.1
theorem ok_176:OKF 176 c_176:=⟨ac_ af_ (ab_ ok_144 (ab_ ok_145 (ab_ ok_243 (ab_ ok_184 (ab_ ok_195 (ab_ ok_193 (ab_ ok_122 (ab_ ok_242 (ab_ ok_142 ad_))))))))) Tryz.func176 (by kernel_rfl) (pl := .s .p (.s .p (.s .p (.s .p (.s (.dr [0,0,0,0,0,0,2] [] false []) (.s .p (.s (.dr [0,0,0,0,0,0,0,0,0,0,0,0,0,0,0,0,1,2,4,2] [] false []) (.s .p (.s (.dr [0,0,0,1,4,4] [] true [2]) .p))))))))) λ_=>by kernel_rfl,by kernel_rfl⟩
def c_263:Con te:=ag_ te [.d (.int .i64)] [(.bool,[])] false λa=>cmp_isNaN_int a.1
theorem ok_263:OKF 263 c_263:=⟨ac_ af_ ad_ Tryz.func263 (by kernel_rfl) (pl := .p) λ_=>by kernel_rfl,by kernel_rfl⟩
def c_300:Con te:=ag_ te [.d (.int .i64),.d (.int .i64)] [(.bool,[])] false λa=>cmp_Less_int a.1 a.2.1
theorem ok_300:OKF 300 c_300:=⟨ac_ af_ (ab_ ok_263 ad_) Tryz.func300 (by kernel_rfl) (pl := .p) λ_=>by kernel_rfl,by kernel_rfl⟩
def c_301:Con te:=ag_ te [.d (.int .i64)] [(.bool,[])] false λa=>fU_ a.1
theorem ok_301:OKF 301 c_301:=⟨ac_ af_ ad_ Tryz.func301 (by kernel_rfl) (pl := .p) λ_=>by kernel_rfl,by kernel_rfl⟩
def c_244:Con te:=ag_ te [.d (.sl (.int .i64)),.d (.int .i64)] [(.int .i64,[]),(.bool,[])] false λa=>d2_ a.1 a.2.1
theorem ok_244:OKF 244 c_244:=⟨ac_ af_ (ab_ ok_301 (ab_ ok_300 ad_)) Tryz.func244 (by kernel_rfl) (pl := .s .p (.s .p (.s .p (.s (.lp ⟨[(7,.d (.int .i64)),(8,.d (.int .i64))],[],[0,1,6],[],[],8⟩ ⟨[(7,.d (.int .i64))],[],[0,1,6],[],[],8⟩ false .p) .p)))) λ_=>by kernel_rfl,by kernel_rfl⟩
def c_177:Con te:=ag_ te [.d (.st 4),.d (.int .i64)] [(.st 4,[])] true λa=>i0_ a.1 a.2.1
theorem ok_177:OKF 177 c_177:=⟨ac_ af_ (ab_ lf_ (ab_ ok_127 (ab_ ok_244 ad_))) Tryz.func177 (by kernel_rfl) (pl := .s .p (.j ⟨[],[(0,true,.cells 29 [.v (.sl (.st 0)),.v (.sl (.st 1)),.v (.int .i64),.v (.sl (.st 2)),.v (.sl (.int .i64))])],[2,4],[2],[],4⟩ false .p .p)) λ_=>by kernel_rfl,by kernel_rfl⟩
def c_109:Con te:=ag_ te [.d (.st 4),.d .str,.d (.int .i64),.d .str,.d (.int .i64),.d (.int .i64),.d (.int .i64)] [(.st 4,[]),(.int .i64,[]),(.int .i64,[])] true λa=>kl_ a.1 a.2.1 a.2.2.1 a.2.2.2.1 a.2.2.2.2.1 a.2.2.2.2.2.1 a.2.2.2.2.2.2.1
theorem ok_109:OKF 109 c_109:=⟨ac_ af_ (ab_ ok_177 (ab_ i6_ (ab_ ok_176 (ab_ ok_79 (ab_ ok_175 (ab_ ok_174 (ab_ ok_129 (ab_ ok_173 ad_)))))))) Tryz.func109 (by kernel_rfl) (pl := .s .p (.s .p (.s .p (.j ⟨[(19,.d (.int .i64))],[],[1,2,3,4,6,14,17,18],[2,7,8,9,10,12,23],[],28⟩ false .p (.s .p (.s .p (.s (.df [0,0,0,0,0,0,0,0,0,0,1,4,4,4,4,1,2,4,4] [] 5) (.s .p (.s .p (.j ⟨[],[(12,true,.cells 29 [.v (.sl (.st 0)),.v (.sl (.st 1)),.v (.int .i64),.v (.sl (.st 2)),.v (.sl (.int .i64))])],[14,17,22],[2],[],67⟩ false .p .p)))))))))) λ_=>by kernel_rfl,by kernel_rfl⟩
def c_110:Con te:=ag_ te [.d (.st 8),.d (.st 4)] [(.st 8,[none,none,none,none,none,none,some 83,some 39])] true λa=>fG_ a.1 a.2.1
theorem ok_110:OKF 110 c_110:=⟨ac_ af_ (ab_ ok_96 ad_) Tryz.func110 (by kernel_rfl) (pl := .p) λ_=>by kernel_rfl,by kernel_rfl⟩
def c_41:Con te:=ag_ te [.d (.st 8),.d .str,.d (.int .i64),.d .str,.d (.int .i64),.d (.int .i64),.d (.int .i64)] [(.st 8,[none,none,none,none,none,none,some 83,some 39]),(.int .i64,[]),(.int .i64,[])] true λa=>jy_ a.1 a.2.1 a.2.2.1 a.2.2.2.1 a.2.2.2.2.1 a.2.2.2.2.2.1 a.2.2.2.2.2.2.1
theorem ok_41:OKF 41 c_41:=⟨ac_ af_ (ab_ ok_110 (ab_ ok_109 (ab_ ok_96 (ab_ ok_53 ad_)))) Tryz.func41 (by kernel_rfl) (pl := .p) λ_=>by kernel_rfl,by kernel_rfl⟩
def c_62:Con te:=ag_ te [.d (.st 11)] [(.bool,[])] false λa=>eW_ a.1
theorem ok_62:OKF 62 c_62:=⟨ac_ af_ (ab_ gz_ ad_) Tryz.func62 (by kernel_rfl) (pl := .p) λ_=>by kernel_rfl,by kernel_rfl⟩
def c_179:Con te:=ag_ te [.d (.st 4),.d (.st 2),.d (.int .i64)] [(.bool,[])] false λa=>ly_ a.1 a.2.1 a.2.2.1
theorem ok_179:OKF 179 c_179:=⟨ac_ af_ (ab_ ok_241 ad_) Tryz.func179 (by kernel_rfl) (pl := .p) λ_=>by kernel_rfl,by kernel_rfl⟩
def c_197:Con te:=ag_ te [.d (.st 3),.d (.int .i64)] [(.int .i64,[]),(.int .i64,[])] false λa=>jz_ a.1 a.2.1
theorem ok_197:OKF 197 c_197:=⟨ac_ af_ (ab_ ok_121 (ab_ ok_184 ad_)) Tryz.func197 (by kernel_rfl) (pl := .p) λ_=>by kernel_rfl,by kernel_rfl⟩
def c_246:Con te:=ag_ te [.d (.int .i64)] [(.bool,[])] false λa=>mp_ a.1
theorem ok_246:OKF 246 c_246:=⟨ac_ af_ ad_ Tryz.func246 (by kernel_rfl) (pl := .p) λ_=>by kernel_rfl,by kernel_rfl⟩
def c_247:Con te:=ag_ te [.d .str,.d (.int .i64)] [(.str,[])] false λa=>nS_ a.1 a.2.1
theorem ok_247:OKF 247 c_247:=⟨ac_ af_ (ab_ ko_ ad_) Tryz.func247 (by kernel_rfl) (pl := .p) λ_=>by kernel_rfl,by kernel_rfl⟩
def c_180:Con te:=ag_ te [.d (.st 3),.d (.int .i64),.d (.int .i64),.d .str,.d .str,.d (.int .i64)] [(.st 3,[none,some 81]),(.int .i64,[]),(.int .i64,[])] false λa=>oW_ a.1 a.2.1 a.2.2.1 a.2.2.2.1 a.2.2.2.2.1 a.2.2.2.2.2.1
theorem ok_180:OKF 180 c_180:=⟨ac_ af_ (ab_ ok_243 (ab_ ok_247 (ab_ ok_246 (ab_ ok_242 (ab_ ok_197 ad_))))) Tryz.func180 (by kernel_rfl) (pl := .s .p (.s .p (.s .p (.s .p (.s .p (.s .p (.j ⟨[(2,.d (.int .i64))],[],[3,4,5,6,12,15,17],[0,2],[],27⟩ false .p (.s .p (.s .p (.s (.dr [0,0,0,0,0,0,0,0,0,0,0,0,0,0,0,0,0,0,0,0,2] [] false []) .p)))))))))) λ_=>by kernel_rfl,by kernel_rfl⟩
def c_111:Con te:=ag_ te [.d (.st 4),.d .str,.d (.int .i64),.d (.int .i64),.d .str,.d (.int .i64)] [(.st 4,[some 79,some 120,none,some 81,some 3]),(.int .i64,[]),(.int .i64,[])] true λa=>lz_ a.1 a.2.1 a.2.2.1 a.2.2.2.1 a.2.2.2.2.1 a.2.2.2.2.2.1
theorem ok_111:OKF 111 c_111:=⟨ac_ af_ (ab_ ok_180 (ab_ ok_79 (ab_ ok_179 (ab_ i6_ (ab_ ok_178 (ab_ ok_173 ad_)))))) Tryz.func111 (by kernel_rfl) (pl := .s .p (.s .p (.s .p (.s .p (.j ⟨[(3,.d (.int .i64))],[],[1,2,4,5,6,12,15,16],[0,2,7,8,9,10,12,23],[],41⟩ false .p (.s .p (.s .p (.s (.df [0,0,0,0,0,0,0,0,1,4,4,4,4,1,2,4,4] [] 5) .p)))))))) λ_=>by kernel_rfl,by kernel_rfl⟩
def c_42:Con te:=ag_ te [.d (.st 8),.d .str,.d (.int .i64),.d (.int .i64),.d .str,.d (.int .i64)] [(.st 8,[none,none,none,none,none,none,some 83,some 39]),(.int .i64,[]),(.int .i64,[])] true λa=>km_ a.1 a.2.1 a.2.2.1 a.2.2.2.1 a.2.2.2.2.1 a.2.2.2.2.2.1
theorem ok_42:OKF 42 c_42:=⟨ac_ af_ (ab_ ok_110 (ab_ ok_111 (ab_ ok_62 (ab_ ok_96 (ab_ ok_53 ad_))))) Tryz.func42 (by kernel_rfl) (pl := .p) λ_=>by kernel_rfl,by kernel_rfl⟩
def c_163:Con te:=ag_ te [.d (.st 6)] [(.st 6,[none,some 83])] false λa=>hx_ a.1
theorem ok_163:OKF 163 c_163:=⟨ac_ af_ (ab_ ok_161 ad_) Tryz.func163 (by kernel_rfl) (pl := .p) λ_=>by kernel_rfl,by kernel_rfl⟩
def c_71:Con te:=ag_ te [.d (.st 3),.d (.int .i64)] [(.sl (.int .i64),[some 3])] false λa=>lA_ a.1 a.2.1
theorem ok_71:OKF 71 c_71:=⟨ac_ af_ (ab_ ok_142 ad_) Tryz.func71 (by kernel_rfl) (pl := .s .p (.s .p (.s .p (.s (.s .p (.lp ⟨[(5,.one (.own 12)),(15,.d (.int .i64))],[(12,false,.row 3 (.int .i64) [])],[1,13,14],[],[],13⟩ ⟨[(5,.one (.own 12))],[(12,false,.row 3 (.int .i64) [])],[],[],[],13⟩ false (.s .p (.s .p (.j ⟨[(5,.one (.own 14))],[(14,false,.row 3 (.int .i64) [])],[1,13,14,15],[],[],15⟩ false .p .p))))) .p)))) λ_=>by kernel_rfl,by kernel_rfl⟩
def c_165:Con te:=ag_ te [.d (.int .i64),.d (.int .i64)] [(.str,[]),(.int .i64,[])] false λa=>hL_ a.1 a.2.1
theorem ok_165:OKF 165 c_165:=⟨ac_ af_ ad_ Tryz.func165 (by kernel_rfl) (pl := .s .p (.s .p (.s .p (.s .p (.s (.s .p (.lp ⟨[(31,.d (.int .i64))],[(13009,true,.row 5 (.int .u8) [])],[0,6,30],[],[],13015⟩ ⟨[],[(13009,true,.row 5 (.int .u8) [])],[6],[],[],13015⟩ false .p)) .p))))) λ_=>by kernel_rfl,by kernel_rfl⟩
def c_235:Con te:=ag_ te [.d (.int .i64),.d (.int .i64),.b 9 .str] [] false λa=>cx_ a.1 a.2.1 a.2.2.1
theorem ok_235:OKF 235 c_235:=⟨ac_ af_ (ab_ ok_165 ad_) Tryz.func235 (by kernel_rfl) (pl := .p) λ_=>by kernel_rfl,by kernel_rfl⟩
def c_236:Con te:=ag_ te [.d .str] [(.str,[]),(.int .i64,[])] false λa=>lB_ a.1
theorem ok_236:OKF 236 c_236:=⟨ac_ af_ (ab_ ok_165 ad_) Tryz.func236 (by kernel_rfl) (pl := .p) λ_=>by kernel_rfl,by kernel_rfl⟩
def c_167:Con te:=ag_ te [.d (.st 16)] [(.str,[])] false λa=>g6_ a.1
theorem ok_167:OKF 167 c_167:=⟨ac_ af_ (ab_ ok_236 (ab_ ok_235 ad_)) Tryz.func167 (by kernel_rfl) (pl := .s .p (.s .p (.s .p (.s .p (.s (.s .p (.lp ⟨[(25,.d (.int .i64))],[(3,true,.box 9 .str),(23,true,.row 3 (.int .i64) [])],[1,3,4,5,23,24],[0,11],[],27⟩ ⟨[],[(3,true,.box 9 .str)],[1,3,4,5],[0,11],[],27⟩ false .p)) (.s .p (.s .p (.s (.s .p (.lp ⟨[(51,.d (.int .i64))],[(3,true,.box 9 .str),(47,true,.row 9 .str [])],[1,3,4,49,50],[0],[],51⟩ ⟨[],[(3,true,.box 9 .str)],[1,3,4],[0],[],51⟩ false .p)) .p)))))))) λ_=>by kernel_rfl,by kernel_rfl⟩
def c_292:Con te:=ag_ te [.d .str,.d (.int .i64)] [(.sl .str,[some 9])] false λa=>g7_ a.1 a.2.1
theorem ok_292:OKF 292 c_292:=⟨ac_ af_ ad_ Tryz.func292 (by kernel_rfl) (pl := .s .p (.s .p (.s (.lp ⟨[(0,.d .str),(5,.one (.own 4))],[(4,false,.row 9 .str [])],[1],[],[],5⟩ ⟨[(0,.d .str),(5,.one (.own 4))],[(4,false,.row 9 .str [])],[],[],[],5⟩ false .p) .p))) λ_=>by kernel_rfl,by kernel_rfl⟩
def c_232:Con te:=ag_ te [.d (.st 6)] [(.st 6,[none,some 83])] false λa=>nq_ a.1
theorem ok_232:OKF 232 c_232:=⟨ac_ af_ (ab_ ok_161 ad_) Tryz.func232 (by kernel_rfl) (pl := .p) λ_=>by kernel_rfl,by kernel_rfl⟩
def c_119:Con te:=ag_ te [.d (.int .i64)] [(.bool,[])] false λa=>jX_ a.1
theorem ok_119:OKF 119 c_119:=⟨ac_ af_ ad_ Tryz.func119 (by kernel_rfl) (pl := .p) λ_=>by kernel_rfl,by kernel_rfl⟩
def c_166:Con te:=ag_ te [.d (.st 6),.d (.int .i64),.d .str] [(.st 6,[none,some 83]),(.str,[]),(.int .i64,[])] false λa=>mq_ a.1 a.2.1 a.2.2.1
theorem ok_166:OKF 166 c_166:=⟨ac_ af_ (ab_ ok_234 (ab_ ok_233 (ab_ ok_119 (ab_ ok_232 ad_)))) Tryz.func166 (by kernel_rfl) (pl := .s .p (.s .p (.s .p (.s .p (.s (.s .p (.s .p (.s (.s (.s (.dr [0,0,0,0,0,0,0] [] false []) .p) (.s (.dr [0,0,0,1,4,4] [] true [2]) .p)) .p))) (.s .p (.s .p (.s (.dr [0,0,0,1,4,4] [] true [2]) .p)))))))) λ_=>by kernel_rfl,by kernel_rfl⟩
def c_231:Con te:=ag_ te [.d (.st 6),.d (.int .i64),.d .str] [(.st 6,[]),(.st 10,[]),(.int .i64,[])] true λa=>nr_ a.1 a.2.1 a.2.2.1
theorem ok_231:OKF 231 c_231:=⟨ac_ af_ (ab_ ok_166 (ab_ ok_292 (ab_ ok_291 ad_))) Tryz.func231 (by kernel_rfl) (pl := .s .p (.s .p (.s .p (.lp ⟨[(1,.d (.int .i64)),(10,.one (.own 21))],[(0,true,.box 32 (.st 6)),(13,true,.box 137 (.st 10)),(21,false,.row 9 .str [])],[3,6,7,9],[2,4],[],22⟩ ⟨[],[],[],[],[],21⟩ true (.s .p (.s (.s .p (.lp ⟨[(11,.d .str),(27,.d (.int .i64))],[(0,true,.cells 32 [.v (.int .i64),.v (.sl (.st 5))]),(13,true,.box 137 (.st 10)),(21,true,.row 9 .str [])],[1,3,6,7,9,10,25,26],[2,4],[],26⟩ ⟨[(11,.d .str)],[(0,true,.box 32 (.st 6)),(13,true,.box 137 (.st 10)),(21,true,.row 9 .str [])],[3,6,7,9,10],[2,4],[],26⟩ true .p)) (.s (.s .p (.s (.s (.dr [0,0,1,1,4] [] true [2,4]) .p) .p)) .p))))))) λ_=>by kernel_rfl,by kernel_rfl⟩
def cS_164(rec0:Xx->Xy->Int->Option (Xx×Xn×Int)):Con te:=ag_ te [.d (.st 6),.d (.st 3),.d (.int .i64)] [(.st 6,[]),(.st 16,[]),(.int .i64,[])] true λa=>rec0 a.1 a.2.1 a.2.2.1
theorem okS_164(rec0:Xx->Xy->Int->Option (Xx×Xn×Int))(h:OKF 164 (cS_164 rec0)):OKF 164 (cS_164 (h8_ rec0)):=⟨ac_ af_ (ab_ ok_231 (ab_ ok_167 (ab_ ok_71 (ab_ ok_230 (ab_ gz_ (ab_ h ad_)))))) Tryz.func164 (by kernel_rfl) (pl := .s .p (.s .p (.s (.dr [0,0,0,0] [] false []) (.s .p (.j ⟨[(11,.d (.int .i64)),(12,.d .str)],[(0,true,.box 32 (.st 6))],[3,6,7,9],[4,6,15],[],27⟩ true (.s .p (.s (.s .p (.s .p (.lp ⟨[(12,.d .str),(36,.d (.int .i64))],[(0,true,.box 32 (.st 6)),(33,true,.row 3 (.int .i64) [])],[3,4,6,7,9,11,34,35],[2,4,6,15],[],37⟩ ⟨[(12,.d .str)],[(0,true,.box 32 (.st 6))],[3,6,7,9,11],[4,6,15],[],37⟩ true .p))) .p)) (.s .p (.s (.dr [0,0,0,0,0,1,1,4] [] true [4,6]) .p))))))) λ_=>by kernel_rfl,by kernel_rfl⟩
theorem okN_164:∀n,OKF 164 (cS_164 (el_ n))
 | 0=>⟨gm_ λ_=>rfl,by kernel_rfl⟩
 | n+1=>okS_164 _ (okN_164 n)
def c_164:Con te:=cS_164 (el_ BIG)
theorem ok_164:OKF 164 c_164:=okN_164 BIG
def c_97:Con te:=ag_ te [.d (.st 6),.d (.st 3)] [(.st 6,[none,some 83]),(.str,[]),(.int .i64,[])] false λa=>jA_ a.1 a.2.1
theorem ok_97:OKF 97 c_97:=⟨ac_ af_ (ab_ ok_166 (ab_ ok_167 (ab_ ok_165 (ab_ ok_164 (ab_ ok_163 (ab_ ok_47 ad_)))))) Tryz.func97 (by kernel_rfl) (pl := .s .p (.s .p (.s .p (.s .p (.s .p (.s .p (.s (.dr [0,0,0,0,0,0,0,1,4,4,4,4,2,4,4] [] false []) .p))))))) λ_=>by kernel_rfl,by kernel_rfl⟩
def c_36:Con te:=ag_ te [.d (.st 8),.d (.int .i64)] [(.st 8,[some 79,some 120,none,some 81,some 3,none,some 83,some 39]),(.int .i64,[])] true λa=>lC_ a.1 a.2.1
theorem ok_36:OKF 36 c_36:=⟨ac_ af_ (ab_ ok_97 (ab_ ok_96 ad_)) Tryz.func36 (by kernel_rfl) (pl := .p) λ_=>by kernel_rfl,by kernel_rfl⟩
def c_55:Con te:=ag_ te [.d (.int .i64)] [(.int .i64,[])] false λa=>i1_ a.1
theorem ok_55:OKF 55 c_55:=⟨ac_ af_ ad_ Tryz.func55 (by kernel_rfl) (pl := .p) λ_=>by kernel_rfl,by kernel_rfl⟩
def c_132:Con te:=ag_ te [.d (.int .i64)] [(.bool,[])] false λa=>num_known a.1
theorem ok_132:OKF 132 c_132:=⟨ac_ af_ ad_ Tryz.func132 (by kernel_rfl) (pl := .p) λ_=>by kernel_rfl,by kernel_rfl⟩
def c_56:Con te:=ag_ te [.d (.int .i64),.d (.int .i64)] [(.str,[])] false λa=>num_Text a.1 a.2.1
theorem ok_56:OKF 56 c_56:=⟨ac_ af_ (ab_ i3_ (ab_ ok_132 ad_)) Tryz.func56 (by kernel_rfl) (pl := .p) λ_=>by kernel_rfl,by kernel_rfl⟩
def c_22:Con te:=ag_ te [.d (.st 8),.d .str,.d (.int .i64),.d .str] [(.int .i64,[]),(.int .i64,[])] false λa=>lD_ a.1 a.2.1 a.2.2.1 a.2.2.2.1
theorem ok_22:OKF 22 c_22:=⟨ac_ af_ (ab_ ok_56 (ab_ ok_55 (ab_ ok_54 (ab_ ok_53 ad_)))) Tryz.func22 (by kernel_rfl) (pl := .s .p (.s .p (.s .p (.s .p (.s .p (.s .p (.s .p (.s (.s .p (.lp ⟨[(75,.d (.int .i64))],[],[2,3,73,74],[],[],6033⟩ ⟨[],[],[],[],[],6033⟩ true .p)) .p)))))))) λ_=>by kernel_rfl,by kernel_rfl⟩
def c_136:Con te:=ag_ te [.d (.st 3),.d (.int .i64),.d (.int .i64),.d (.int .i64)] [(.str,[]),(.int .i64,[])] false λa=>tree_Read a.1 a.2.1 a.2.2.1 a.2.2.2.1
theorem ok_136:OKF 136 c_136:=⟨ac_ af_ (ab_ ok_197 ad_) Tryz.func136 (by kernel_rfl) (pl := .p) λ_=>by kernel_rfl,by kernel_rfl⟩
def c_63:Con te:=ag_ te [.d (.st 4),.d (.int .i64),.d (.int .i64),.d (.int .i64)] [(.str,[]),(.int .i64,[])] false λa=>ms_ a.1 a.2.1 a.2.2.1 a.2.2.2.1
theorem ok_63:OKF 63 c_63:=⟨ac_ af_ (ab_ ok_136 ad_) Tryz.func63 (by kernel_rfl) (pl := .p) λ_=>by kernel_rfl,by kernel_rfl⟩
def c_24:Con te:=ag_ te [.d (.st 8),.d (.int .i64),.d (.int .i64),.d (.int .i64)] [(.str,[]),(.int .i64,[])] false λa=>lE_ a.1 a.2.1 a.2.2.1 a.2.2.2.1
theorem ok_24:OKF 24 c_24:=⟨ac_ af_ (ab_ ok_63 (ab_ ok_62 (ab_ ok_61 ad_))) Tryz.func24 (by kernel_rfl) (pl := .p) λ_=>by kernel_rfl,by kernel_rfl⟩
def c_205:Con te:=ag_ te [.d (.st 4),.d .str,.d (.st 2)] [(.bool,[])] false λa=>lF_ a.1 a.2.1 a.2.2.1
theorem ok_205:OKF 205 c_205:=⟨ac_ af_ (ab_ ok_130 (ab_ gz_ ad_)) Tryz.func205 (by kernel_rfl) (pl := .p) λ_=>by kernel_rfl,by kernel_rfl⟩
def c_305:Con te:=ag_ te [.d (.sl (.int .i64)),.d (.int .i64)] [(.int .i64,[])] false λa=>gL_ a.1 a.2.1
theorem ok_305:OKF 305 c_305:=⟨ac_ af_ ad_ Tryz.func305 (by kernel_rfl) (pl := .s .p (.s (.s .p (.lp ⟨[(8,.d (.int .i64))],[],[0,1,7],[],[],4⟩ ⟨[],[],[],[],[],4⟩ true .p)) .p)) λ_=>by kernel_rfl,by kernel_rfl⟩
def c_248:Con te:=ag_ te [.d (.sl (.int .i64)),.d (.int .i64)] [(.bool,[])] false λa=>fs_ a.1 a.2.1
theorem ok_248:OKF 248 c_248:=⟨ac_ af_ (ab_ ok_305 ad_) Tryz.func248 (by kernel_rfl) (pl := .p) λ_=>by kernel_rfl,by kernel_rfl⟩
def c_181:Con te:=ag_ te [.d (.st 4),.d .str,.d (.st 2),.d (.int .i64)] [(.int .i64,[])] false λa=>lG_ a.1 a.2.1 a.2.2.1 a.2.2.2.1
theorem ok_181:OKF 181 c_181:=⟨ac_ af_ (ab_ ok_248 (ab_ ok_205 (ab_ ok_130 (ab_ i6_ (ab_ ok_113 ad_))))) Tryz.func181 (by kernel_rfl) (pl := .p) λ_=>by kernel_rfl,by kernel_rfl⟩
def c_182:Con te:=ag_ te [.d (.st 3),.d (.int .i64),.d (.int .i64),.d .str,.d (.int .i64)] [(.st 3,[none,some 81]),(.int .i64,[])] false λa=>ns_ a.1 a.2.1 a.2.2.1 a.2.2.2.1 a.2.2.2.2.1
theorem ok_182:OKF 182 c_182:=⟨ac_ af_ (ab_ ok_243 (ab_ ok_247 (ab_ ok_242 (ab_ ok_197 ad_)))) Tryz.func182 (by kernel_rfl) (pl := .s .p (.s .p (.s .p (.s .p (.s (.dr [0,0,0,0,0,0,0,0,0,0,0,0,0,2] [] false []) .p))))) λ_=>by kernel_rfl,by kernel_rfl⟩
def c_112:Con te:=ag_ te [.d (.st 4),.d .str,.d (.int .i64),.d (.int .i64),.d (.int .i64)] [(.st 4,[]),(.int .i64,[])] true λa=>mt_ a.1 a.2.1 a.2.2.1 a.2.2.2.1 a.2.2.2.2.1
theorem ok_112:OKF 112 c_112:=⟨ac_ af_ (ab_ ok_177 (ab_ ok_182 (ab_ ok_79 (ab_ i6_ (ab_ ok_181 (ab_ ok_178 (ab_ ok_173 ad_))))))) Tryz.func112 (by kernel_rfl) (pl := .s .p (.s .p (.s .p (.s .p (.s .p (.j ⟨[],[(11,true,.cells 29 [.own 6,.own 7,.v (.int .i64),.own 37,.own 9]),(6,true,.row 79 (.st 0) []),(7,true,.row 120 (.st 1) []),(37,false,.row 81 (.st 2) []),(9,true,.row 3 (.int .i64) [])],[2,10,12,13],[2,22],[],38⟩ false (.s .p (.s (.dr [0,0,0,0,0,0,1,4,4,4,4,2] [] false []) .p)) (.j ⟨[],[(11,true,.cells 29 [.v (.sl (.st 0)),.v (.sl (.st 1)),.v (.int .i64),.v (.sl (.st 2)),.v (.sl (.int .i64))])],[10,12],[2],[],38⟩ false .p .p))))))) λ_=>by kernel_rfl,by kernel_rfl⟩
def c_43:Con te:=ag_ te [.d (.st 8),.d .str,.d (.int .i64),.d (.int .i64),.d (.int .i64)] [(.st 8,[none,none,none,none,none,none,some 83,some 39]),(.int .i64,[])] true λa=>lH_ a.1 a.2.1 a.2.2.1 a.2.2.2.1 a.2.2.2.2.1
theorem ok_43:OKF 43 c_43:=⟨ac_ af_ (ab_ ok_115 (ab_ gz_ (ab_ ok_62 (ab_ ok_113 (ab_ ok_110 (ab_ ok_112 (ab_ ok_96 (ab_ ok_53 ad_)))))))) Tryz.func43 (by kernel_rfl) (pl := .p) λ_=>by kernel_rfl,by kernel_rfl⟩
theorem okS_12(f31:(List Xf)->(List Yq)->Str->Int->Option (Xm×Int))(f20:Xm->Int->Option Xg)(f41:Xg->Str->Int->Str->Int->Int->Int->Option (Xg×Int×Int))(f42:Xg->Str->Int->Int->Str->Int->Option (Xg×Int×Int))(f36:Xg->Int->Option (Xg×Int))(f22:Xg->Str->Int->Str->Option (Int×Int))(f24:Xg->Int->Int->Int->Option (Str×Int))(f43:Xg->Str->Int->Int->Int->Option (Xg×Int))(h31:OKF 31 (ag_ te [.d (.sl (.st 0)),.d (.sl (.st 1)),.d .str,.d (.int .i64)] [(.st 4,[some 79,some 120,none,some 81]),(.int .i64,[])] true λa=>f31 a.1 a.2.1 a.2.2.1 a.2.2.2.1))(h20:OKF 20 (ag_ te [.d (.st 4),.d (.int .i64)] [(.st 8,[])] true λa=>f20 a.1 a.2.1))(h41:OKF 41 (ag_ te [.d (.st 8),.d .str,.d (.int .i64),.d .str,.d (.int .i64),.d (.int .i64),.d (.int .i64)] [(.st 8,[none,none,none,none,none,none,some 83,some 39]),(.int .i64,[]),(.int .i64,[])] true λa=>f41 a.1 a.2.1 a.2.2.1 a.2.2.2.1 a.2.2.2.2.1 a.2.2.2.2.2.1 a.2.2.2.2.2.2.1))(h42:OKF 42 (ag_ te [.d (.st 8),.d .str,.d (.int .i64),.d (.int .i64),.d .str,.d (.int .i64)] [(.st 8,[none,none,none,none,none,none,some 83,some 39]),(.int .i64,[]),(.int .i64,[])] true λa=>f42 a.1 a.2.1 a.2.2.1 a.2.2.2.1 a.2.2.2.2.1 a.2.2.2.2.2.1))(h36:OKF 36 (ag_ te [.d (.st 8),.d (.int .i64)] [(.st 8,[some 79,some 120,none,some 81,some 3,none,some 83,some 39]),(.int .i64,[])] true λa=>f36 a.1 a.2.1))(h22:OKF 22 (ag_ te [.d (.st 8),.d .str,.d (.int .i64),.d .str] [(.int .i64,[]),(.int .i64,[])] false λa=>f22 a.1 a.2.1 a.2.2.1 a.2.2.2.1))(h24:OKF 24 (ag_ te [.d (.st 8),.d (.int .i64),.d (.int .i64),.d (.int .i64)] [(.str,[]),(.int .i64,[])] false λa=>f24 a.1 a.2.1 a.2.2.1 a.2.2.2.1))(h43:OKF 43 (ag_ te [.d (.st 8),.d .str,.d (.int .i64),.d (.int .i64),.d (.int .i64)] [(.st 8,[none,none,none,none,none,none,some 83,some 39]),(.int .i64,[])] true λa=>f43 a.1 a.2.1 a.2.2.1 a.2.2.2.1 a.2.2.2.2.1)):OKF 12 (ag_ te [] [(.bool,[])] false λ_=>lI_ f31 f20 f41 f42 f36 f22 f24 f43):=⟨ac_ af_ (ab_ h43 (ab_ h24 (ab_ h22 (ab_ h36 (ab_ h42 (ab_ h41 (ab_ h20 (ab_ h31 ad_)))))))) Tryz.func12 (by kernel_rfl) (pl := .p) λ_=>by kernel_rfl,by kernel_rfl⟩
def c_12:Con te:=ag_ te [] [(.bool,[])] false λ_=>d7_
theorem ok_12:OKF 12 c_12:=okS_12 _ _ _ _ _ _ _ _ ok_31 ok_20 ok_41 ok_42 ok_36 ok_22 ok_24 ok_43
def c_17:Con te:=ag_ te [.d (.st 3),.d (.st 3)] [(.bool,[])] false λa=>eX_ a.1 a.2.1
theorem ok_17:OKF 17 c_17:=⟨ac_ af_ ad_ Tryz.func17 (by kernel_rfl) (pl := .s .p (.s .p (.s (.s .p (.lp ⟨[(23,.d (.int .i64))],[],[2,3,22],[0,2],[],8015⟩ ⟨[],[],[],[],[],8015⟩ true (.s .p (.s .p (.s (.s .p (.s (.dr [0,0,0,0,0,0,0,0,0,0,0] [] false []) .p)) .p))))) .p))) λ_=>by kernel_rfl,by kernel_rfl⟩
def c_45:Con te:=ag_ te [.d (.st 4)] [(.bool,[])] false λa=>fH_ a.1
theorem ok_45:OKF 45 c_45:=⟨ac_ af_ (ab_ i6_ (ab_ gz_ (ab_ ok_47 (ab_ ok_74 (ab_ ok_73 ad_))))) Tryz.func45 (by kernel_rfl) (pl := .s .p (.s .p (.s .p (.s (.s .p (.lp ⟨[(3,.d (.int .i64)),(27,.d (.int .i64))],[],[1,25,26],[0],[],10014⟩ ⟨[],[],[],[],[],10014⟩ true .p)) .p)))) λ_=>by kernel_rfl,by kernel_rfl⟩
def c_46:Con te:=ag_ te [.d (.st 6)] [(.bool,[])] false λa=>hy_ a.1
theorem ok_46:OKF 46 c_46:=⟨ac_ af_ (ab_ ok_119 ad_) Tryz.func46 (by kernel_rfl) (pl := .s .p (.s .p (.s .p (.s (.s .p (.lp ⟨[(26,.d (.int .i64))],[(11008,true,.map 154 .str (.int .i64))],[3,24,25],[],[],11015⟩ ⟨[],[],[],[],[],11015⟩ true .p)) .p)))) λ_=>by kernel_rfl,by kernel_rfl⟩
def c_18:Con te:=ag_ te [.d (.st 8)] [(.bool,[])] false λa=>eY_ a.1
theorem ok_18:OKF 18 c_18:=⟨ac_ af_ (ab_ ok_47 (ab_ ok_44 (ab_ ok_46 (ab_ ok_45 ad_)))) Tryz.func18 (by kernel_rfl) (pl := .s .p (.s .p (.s .p (.s (.s .p (.lp ⟨[(3,.d (.int .i64)),(27,.d (.int .i64))],[],[1,25,26],[0],[],10014⟩ ⟨[],[],[],[],[],10014⟩ true .p)) .p)))) λ_=>by kernel_rfl,by kernel_rfl⟩
def c_52:Con te:=ag_ te [.d (.int .i64)] [(.st 6,[])] true λa=>ref15_New a.1
theorem ok_52:OKF 52 c_52:=⟨ac_ af_ ad_ Tryz.func52 (by kernel_rfl) (pl := .p) λ_=>by kernel_rfl,by kernel_rfl⟩
def c_21:Con te:=ag_ te [.d (.st 4),.d (.int .i64)] [(.st 8,[])] true λa=>hM_ a.1 a.2.1
theorem ok_21:OKF 21 c_21:=⟨ac_ af_ (ab_ ok_52 ad_) Tryz.func21 (by kernel_rfl) (pl := .s .p (.s (.dr [0,0,1,4,2] [] false []) .p)) λ_=>by kernel_rfl,by kernel_rfl⟩
def c_194:Con te:=ag_ te [.d (.sl .str),.d (.sl .str)] [(.bool,[])] false λa=>em_ a.1 a.2.1
theorem ok_194:OKF 194 c_194:=⟨ac_ af_ ad_ Tryz.func194 (by kernel_rfl) (pl := .s .p (.s .p (.s (.s .p (.lp ⟨[(13,.d (.int .i64))],[],[0,1,12],[],[],9⟩ ⟨[],[],[],[],[],9⟩ true (.s .p (.s .p (.s (.s .p (.s (.dr [0,0,0,0,0,0,0,0,0] [] false []) .p)) .p))))) .p))) λ_=>by kernel_rfl,by kernel_rfl⟩
def c_123:Con te:=ag_ te [.d (.sl (.st 0)),.d (.sl (.st 0))] [(.bool,[])] false λa=>en_ a.1 a.2.1
theorem ok_123:OKF 123 c_123:=⟨ac_ af_ (ab_ ok_194 ad_) Tryz.func123 (by kernel_rfl) (pl := .s .p (.s .p (.s (.s .p (.lp ⟨[(13,.d (.int .i64))],[],[0,1,12],[],[],9⟩ ⟨[],[],[],[],[],9⟩ true (.s .p (.s .p (.s (.s .p (.s (.dr [0,0,0,0,0,0,0,0,0,0,0,0,0,0,0,0,0,0,0,0,0,0,0,0,0,0,0,0,0,0,0,0,0,0,0,0,0,0] [] false []) .p)) .p))))) .p))) λ_=>by kernel_rfl,by kernel_rfl⟩
def c_124:Con te:=ag_ te [.d (.sl (.st 1)),.d (.sl (.st 1))] [(.bool,[])] false λa=>dW_ a.1 a.2.1
theorem ok_124:OKF 124 c_124:=⟨ac_ af_ ad_ Tryz.func124 (by kernel_rfl) (pl := .s .p (.s .p (.s (.s .p (.lp ⟨[(13,.d (.int .i64))],[],[0,1,12],[],[],9⟩ ⟨[],[],[],[],[],9⟩ true (.s .p (.s .p (.s (.s .p (.s (.dr [0,0,0,0,0,0,0,0,0] [] false []) .p)) .p))))) .p))) λ_=>by kernel_rfl,by kernel_rfl⟩
def c_125:Con te:=ag_ te [.d (.sl (.int .i64)),.d (.sl (.int .i64))] [(.bool,[])] false λa=>eZ_ a.1 a.2.1
theorem ok_125:OKF 125 c_125:=⟨ac_ af_ ad_ Tryz.func125 (by kernel_rfl) (pl := .s .p (.s .p (.s (.s .p (.lp ⟨[(13,.d (.int .i64))],[],[0,1,12],[],[],9⟩ ⟨[],[],[],[],[],9⟩ true (.s .p (.s .p (.s (.s .p (.s (.dr [0,0,0,0,0,0,0,0,0] [] false []) .p)) .p))))) .p))) λ_=>by kernel_rfl,by kernel_rfl⟩
def c_48:Con te:=ag_ te [.d (.st 4),.d (.st 4)] [(.bool,[])] false λa=>iu_ a.1 a.2.1
theorem ok_48:OKF 48 c_48:=⟨ac_ af_ (ab_ ok_125 (ab_ ok_17 (ab_ ok_124 (ab_ ok_123 ad_)))) Tryz.func48 (by kernel_rfl) (pl := .p) λ_=>by kernel_rfl,by kernel_rfl⟩
def c_49:Con te:=ag_ te [.d (.st 6),.d (.st 6)] [(.bool,[])] false λa=>eo_ a.1 a.2.1
theorem ok_49:OKF 49 c_49:=⟨ac_ af_ ad_ Tryz.func49 (by kernel_rfl) (pl := .s .p (.s .p (.s (.s .p (.lp ⟨[(23,.d (.int .i64))],[],[2,3,22],[0,2],[],8015⟩ ⟨[],[],[],[],[],8015⟩ true (.s .p (.s .p (.s (.s .p (.s (.dr [0,0,0,0,0,0,0,0,0,0,0] [] false []) .p)) .p))))) .p))) λ_=>by kernel_rfl,by kernel_rfl⟩
def c_19:Con te:=ag_ te [.d (.st 8),.d (.st 8)] [(.bool,[])] false λa=>e0_ a.1 a.2.1
theorem ok_19:OKF 19 c_19:=⟨ac_ af_ (ab_ ok_49 (ab_ ok_48 ad_)) Tryz.func19 (by kernel_rfl) (pl := .s .p (.s .p (.s (.s .p (.lp ⟨[(32,.d (.int .i64))],[],[2,3,31],[0,2],[],15017⟩ ⟨[],[],[],[],[],15017⟩ true (.s .p (.s .p (.s (.s .p (.s (.dr [0,0,0,0,0,0,0,0,0,0,0] [] false []) .p)) .p))))) .p))) λ_=>by kernel_rfl,by kernel_rfl⟩
def c_4:Con te:=ag_ te [.d (.st 8),.d (.int .i64)] [(.bool,[])] false λa=>df_ a.1 a.2.1
theorem ok_4:OKF 4 c_4:=⟨ac_ af_ (ab_ ok_19 (ab_ ok_21 (ab_ ok_20 (ab_ ok_11 (ab_ ok_18 (ab_ ok_12 (ab_ ok_10 ad_))))))) Tryz.func4 (by kernel_rfl) (pl := .s .p (.s .p (.s (.ot 5 (.free 5 (.spl 5 (.free 6 (.free 8 (.free 10 (.free 12 (.alt 7 (.alt 9 (.alt 11 (.alt 13 (.alt 14 (.alt 15 (.free 16 (.spl 16 (.alt 17 (.alt 18 (.free 19 .nil) .nil) .nil) (.alt 17 (.alt 18 (.free 19 .nil) .nil) .nil))) .nil) .nil) .nil) .nil) (.alt 11 (.alt 9 (.alt 13 (.alt 14 (.alt 15 (.free 16 (.spl 16 (.alt 17 (.alt 18 (.free 19 .nil) .nil) .nil) (.alt 17 (.alt 18 (.free 19 .nil) .nil) .nil))) .nil) .nil) .nil) .nil) .nil)) (.alt 11 (.alt 7 (.alt 9 (.alt 13 (.alt 14 (.alt 15 (.free 16 (.spl 16 (.alt 17 (.alt 18 (.free 19 .nil) .nil) .nil) (.alt 17 (.alt 18 (.free 19 .nil) .nil) .nil))) .nil) .nil) .nil) .nil) .nil) .nil)))))) (.free 6 (.free 8 (.free 10 (.free 12 (.alt 7 (.alt 9 (.alt 11 (.alt 13 (.alt 14 (.alt 15 (.free 16 (.spl 16 (.alt 17 (.alt 18 (.free 19 .nil) .nil) .nil) (.alt 17 (.alt 18 (.free 19 .nil) .nil) .nil))) .nil) .nil) .nil) .nil) (.alt 11 (.alt 9 (.alt 13 (.alt 14 (.alt 15 (.free 16 (.spl 16 (.alt 17 (.alt 18 (.free 19 .nil) .nil) .nil) (.alt 17 (.alt 18 (.free 19 .nil) .nil) .nil))) .nil) .nil) .nil) .nil) .nil)) (.alt 11 (.alt 7 (.alt 9 (.alt 13 (.alt 14 (.alt 15 (.free 16 (.spl 16 (.alt 17 (.alt 18 (.free 19 .nil) .nil) .nil) (.alt 17 (.alt 18 (.free 19 .nil) .nil) .nil))) .nil) .nil) .nil) .nil) .nil) .nil))))))))) .p))) λ_=>by kernel_rfl,by kernel_rfl⟩
end
end Go.Proofs.YtebokaoegomboaaGreatDoor
namespace Go
namespace Rt
theorem an_{n:Int}(h:I64 n):w64 n=n:=by
 unfold w64;rw[IntKind.wrap_i64];omega
theorem g8_{n:Int}(h:I64 n):IntKind.i64.wrap n=n:=an_ h
theorem wu8(n:Int):IntKind.u8.wrap n=n%256:=IntKind.wrap_u8 n
theorem wu64(n:Int):IntKind.u64.wrap n=n%18446744073709551616:=by simp[IntKind.wrap,IntKind.bits,IntKind.signed]
theorem jB_{a:Nat}(ha:a<2^64):(BitVec.ofInt 64 (a:Int)).toNat=a:=by
 rw[BitVec.toNat_ofInt];have:((a:Int)%((2^64:Nat):Int))=((a%2^64:Nat):Int):=by omega
 rw[this];simp;omega
theorem andI_nat{a b:Nat}(ha:a<2^63)(hb:b<2^63):b4_ .i64 a b=((a&&&b:Nat):Int):=by
 have h1:a&&&b<2^63:=Nat.and_lt_two_pow a hb;show IntKind.i64.wrap (((BitVec.ofInt 64 (a:Int)&&&BitVec.ofInt 64 (b:Int)).toNat:Nat):Int)=_;rw[BitVec.toNat_and,jB_ (by omega),jB_ (by omega)];exact g8_ ⟨by omega,by omega⟩
theorem orI_u64{a b:Nat}(ha:a<2^64)(hb:b<2^64):orI .u64 a b=((a|||b:Nat):Int):=by
 have h1:a|||b<2^64:=Nat.or_lt_two_pow ha hb
 show IntKind.u64.wrap (((BitVec.ofInt 64 (a:Int)|||BitVec.ofInt 64 (b:Int)).toNat:Nat):Int)=_;rw[BitVec.toNat_or,jB_ ha,jB_ hb,wu64];omega
theorem bit_and{a k:Nat}:(a&&&2^k != 0)=(a/2^k%2==1):=by
 have h1:a&&&2^k=if a.testBit k then 2^k else 0:=by
  apply Nat.eq_of_testBit_eq;intro i;rw[Nat.testBit_and,Nat.testBit_two_pow];by_cases hik:k=i
  .subst hik;cases h:a.testBit k<;>simp
  .cases h:a.testBit k<;>simp[hik]
 rw[h1];have h2:a.testBit k=decide (a/2^k%2=1):=Nat.testBit_eq_decide_div_mod_eq;by_cases h:a/2^k%2=1
 .simp[h2,h]
 .simp[h2,h]
theorem aa_{α β:Type}{x:Option α}{a:α}{f:α->Option β}{r:Option β}(h:x=some a)(hr:f a=r):x.bind f=r:=by subst h;exact hr
theorem ai_{α:Type}{c:Bool}{A B r:α}(hc:c=true)(h:A=r):(bif c then A else B)=r:=by subst hc;exact h
theorem ah_{α:Type}{c:Bool}{A B r:α}(hc:c=false)(h:B=r):(bif c then A else B)=r:=by subst hc;exact h
theorem loopF_run{σ β:Type}{body:σ->Option (Step σ β)}(I:Nat->σ->β->Prop)
  (h0:∀s b,I 0 s b->body s=some (.done b))
  (h:∀k s b,I (k+1) s b->body s=some (.done b)\/∃s',body s=some (.next s')/\I k s' b):∀{k n:Nat} {s:σ} {b:β},I k s b->k<n->aj_ body n s=some b
 | 0,n+1,s,b,hI,_=>by simp only[aj_,h0 s b hI]
 | k+1,n+1,s,b,hI,hk=>by
  simp only[aj_];rcases h k s b hI with hd|⟨s',hn,hI'⟩
  .rw[hd]
  .rw[hn];exact loopF_run I h0 h hI' (by omega)
theorem dx_{σ β:Type}{body:σ->Option (Step σ β)}(n:Nat)(hn:n<BIG)(J:Nat->σ->β->Prop)(h0:∀s b,J n s b->body s=some (.done b))
  (h:∀i s b,i<n->J i s b->body s=some (.done b)\/∃s',body s=some (.next s')/\J (i+1) s' b) {s:σ} {b:β} (hJ:J 0 s b):aj_ body BIG s=some b:=by
 refine loopF_run (λk s b=>k<=n/\J (n-k) s b) (λs b hI=>h0 s b (by simpa using hI.2)) (λk s b hI => ?_) (k:=n) ⟨Nat.le_refl _,by simpa using hJ⟩ hn;obtain⟨hk,hI⟩:=hI;rcases h _ s b (by omega) hI with hd|⟨s',hs,hI'⟩
 .exact .inl hd
 .exact .inr ⟨s',hs,by omega,by rwa [show n-(k+1)+1=n-k by omega]at hI'⟩
theorem bh_{σ β:Type}{body:σ->Option (Step σ β)}(T:Nat->σ)(n:Nat)(hn:n<BIG){b:β}(hs:∀i,i<n->body (T i)=some (.next (T (i+1))))(hd:body (T n)=some (.done b)):aj_ body BIG (T 0)=some b:=by
 refine dx_ (J:=λi s b'=>s=T i/\b'=b) n hn (λs b' hJ => ?_) (λi s b' hi hJ => ?_) ⟨rfl,rfl⟩
 .obtain⟨rfl,rfl⟩:=hJ;exact hd
 .obtain⟨rfl,rfl⟩:=hJ;exact .inr ⟨_,hs i hi,rfl,rfl⟩
theorem eC_{α:Type}(xs:List α)(i:Nat):ak_ xs (i:Int)=xs[i]? := by
 unfold ak_;rw[if_pos (by omega)];simp
theorem as_{α:Type}{xs:List α}{i:Nat}(h:i<xs.length):ak_ xs (i:Int)=some xs[i]:=by
 rw[eC_,List.getElem?_eq_getElem h]
theorem g9_{s:Str}{i:Nat}(h:i<s.length):bB_ s (i:Int)=some (s[i].toNat:Int):=by
 unfold bB_;rw[as_ h];rfl
theorem hO_{a b:Str}(h:a.length+b.length<=9223372036854775807):cat a b=some (a++b):=by
 unfold cat;rw[if_pos h]
theorem dj_{α:Type}{bytes:Nat}{xs ys:List α}(h1:xs.length+ys.length<=9223372036854775807)(h2:(xs.length+ys.length)*bytes<=140737488355328):room bytes xs ys=some (xs++ys):=by
 unfold room;rw[if_pos ⟨h1,h2⟩]
theorem cP_{α:Type}{xs:List α}{lo hi:Int}(h0:0<=lo)(h1:lo<=hi)(h2:hi<=xs.length):bo_ xs lo hi=some ((xs.take hi.toNat).drop lo.toNat):=by
 unfold bo_;rw[if_pos ⟨h0,h1,h2⟩]
theorem shrI_eq{k:IntKind}{x y:Int}(h:0<=y)(h2:y<=k.bits):shrI k x y=some (x.fdiv (2^y.toNat)):=by
 unfold shrI;rw[if_neg (by omega),show min y.toNat k.bits=y.toNat by omega]
end Rt
end Go
namespace Go.Proofs.YtebokaoegomboaaGreatDoor
open Go.Rt Go.RowKit
theorem e1_{σ β:Type}{body:σ->Option (Step σ β)}{s s':σ}{n:Nat}{r:Option β}(h:body s=some (.next s'))(hr:aj_ body n s'=r):aj_ body (n+1) s=r:=by
 simp only[aj_,h];exact hr
theorem bO_{σ β:Type}{body:σ->Option (Step σ β)}{s:σ}{n:Nat}{b:β}(h:body s=some (.done b)):aj_ body (n+1) s=some b:=by
 simp only[aj_,h]
def aB_{α β:Type}(g:Nat->α->Option β):Nat->List α->Option β
 | _,[]=>none
 | i,x::l=>match g i x with
  | some r=>some r
  | none=>aB_ g (i+1) l
def b6_{β:Type}:Option β->Out Unit β|some r => .ret r|none => .fall ()
theorem bi_{i n:Nat}(h:i<n):decide ((i:Int)<(n:Int))=true:=by simpa using h
theorem bx_(n:Nat):decide ((n:Int)<(n:Int))=false:=by simp
theorem aw_{i:Nat}(h:i<9223372036854775807):w64 ((i:Int)+1)=((i+1:Nat):Int):=by
 rw[an_ ⟨by omega,by omega⟩];rfl
theorem w_pred{i:Nat}(h0:0<i)(h:i<9223372036854775807):w64 ((i:Int)-1)=((i-1:Nat):Int):=by
 rw[an_ ⟨by omega,by omega⟩];omega
def stepO{β:Type}(o:Option β)(i:Nat):Step Int (Out Unit β):=match o with|some r => .done (.ret r)|none => .next ((i+1:Nat):Int)
theorem aZ_{α β:Type}{body:Int->Option (Step Int (Out Unit β))}(xs:List α)(g:Nat->α->Option β)(hn:xs.length<BIG)
  (hb:∀i (h:i<xs.length),body (i:Int)=some (stepO (g i xs[i]) i))
  (he:body (xs.length:Int)=some (.done (.fall ()))):aj_ body BIG 0=some (b6_ (aB_ g 0 xs)):=by
 refine dx_ (J:=λi s b=>s=(i:Int)/\b=b6_ (aB_ g i (xs.drop i))) xs.length hn (λs b hJ => ?_) (λi s b hi hJ => ?_) (by simp)
 .obtain⟨rfl,rfl⟩:=hJ;rw[he];simp[aB_,b6_]
 .obtain⟨rfl,rfl⟩:=hJ;rw[hb i hi,List.drop_eq_getElem_cons hi];simp only[aB_];cases hg:g i xs[i]with
  | some r=>exact .inl rfl
  | none=>exact .inr ⟨_,rfl,rfl,rfl⟩
theorem ba_{β:Type}{L:Option (Out Unit β)}{k:Out Unit β->Option β}{o:Option β}{x:β}(h:L=some (b6_ o))(h1:∀r,k (.ret r)=some r)(h2:k (.fall ())=some x):Option.bind L k=some (o.getD x):=by
 subst h;cases o with
 | some r=>exact h1 r
 | none=>exact h2
theorem mw_{α β:Type}(p:α->Bool)(f:α->β):∀(k:Nat) (l:List α),aB_ (λ_ x=>if p x then some (f x)else none) k l=(l.find? p).map f
 | _,[]=>rfl
 | k,x::l=>by
  simp only[aB_,List.find?_cons];cases p x with
  | true=>rfl
  | false=>exact mw_ p f (k+1) l
theorem scan_idx{α:Type}(p:α->Bool):∀(k:Nat) (l:List α),aB_ (λi x=>if p x then some ((i:Nat):Int)else none) k l=(l.findIdx? p).map λi=>((k+i:Nat):Int)
 | _,[]=>rfl
 | k,x::l=>by
  simp only[aB_,List.findIdx?_cons];cases p x with
  | true=>rfl
  | false =>
   simp only[Bool.false_eq_true,if_false];rw[scan_idx p (k+1) l];cases l.findIdx? p with
   | none=>rfl
   | some i=>simp only[Option.map_some];congr 2;omega
theorem scan_none{α β:Type}{g:Nat->α->Option β}:∀{k:Nat} {l:List α},aB_ g k l=none↔∀i x,l[i]? = some x->g (k+i) x=none
 | _,[]=>⟨λ_ i x h=>by simp at h,λ_=>rfl⟩
 | k,x::l=>by
  simp only[aB_];constructor
  .intro h;split at h
   .cases h
   .rename_i h0;intro i y hy;cases i with
    | zero=>simp at hy;subst hy;exact h0
    | succ i=>have:=(scan_none (k:=k+1)).1 h i y (by simpa using hy);rwa [show k+1+i=k+(i+1)by omega]at this
  .intro h;have h0:=h 0 x rfl;rw[Nat.add_zero]at h0;rw[h0];exact scan_none.2 λi y hy=>by rw[show k+1+i=k+(i+1)by omega];exact h (i+1) y (by simpa using hy)
theorem mx_{α β:Type}{g:Nat->α->Option β}{r:β}:∀{k:Nat} {l:List α},aB_ g k l=some r->∃i x,l[i]? = some x/\g (k+i) x=some r/\∀j y,j<i->l[j]? = some y->g (k+j) y=none
 | _,[],h=>by cases h
 | k,x::l,h=>by
  simp only[aB_]at h;split at h
  .rename_i r' h0;obtain rfl:=qSj h;exact⟨0,x,rfl,h0,λj y hj=>by omega⟩
  .rename_i h0;obtain⟨i,y,h1,h2,h3⟩:=mx_ h;refine⟨i+1,y,by simpa using h1,by rw[show k+(i+1)=k+1+i by omega];exact h2,λj q hj hq => ?_⟩;cases j with
   | zero=>simp at hq;subst hq;exact h0
   | succ j=>rw[show k+(j+1)=k+1+j by omega];exact h3 j q (by omega) (by simpa using hq)
def fJ_{α σ:Type}(f:σ->Nat->α->σ):σ->Nat->List α->σ|s,_,[]=>s|s,i,x::l=>fJ_ f (f s i x) (i+1) l
theorem pd_{α σ τ β:Type}{body:τ->Option (Step τ β)}(xs:List α)(f:σ->Nat->α->σ)(mk:Nat->σ->τ)(Inv:Nat->σ->Prop)(fin:σ->β)(s0:σ)(hn:xs.length<BIG)(h0:Inv 0 s0)
  (hb:∀i s (h:i<xs.length),Inv i s->body (mk i s)=some (.next (mk (i+1) (f s i xs[i])))/\Inv (i+1) (f s i xs[i]))
  (he:∀s,Inv xs.length s->body (mk xs.length s)=some (.done (fin s))):aj_ body BIG (mk 0 s0)=some (fin (fJ_ f s0 0 xs)):=by
 refine dx_ (J:=λi t b=>∃s,Inv i s/\t=mk i s/\b=fin (fJ_ f s i (xs.drop i))) xs.length hn (λt b hJ => ?_) (λi t b hi hJ => ?_) ⟨s0,h0,rfl,by simp⟩
 .obtain⟨s,hI,rfl,rfl⟩:=hJ;rw[he s hI];simp[fJ_]
 .obtain⟨s,hI,rfl,rfl⟩:=hJ;obtain⟨h1,h2⟩:=hb i s hi hI;rw[List.drop_eq_getElem_cons hi];exact .inr ⟨_,h1,_,h2,rfl,rfl⟩
def at_{α:Type}(p:α->Bool)(l:List α):Int:=match l.findIdx? p with|some i=>(i:Int)|none => -1
theorem ha_{α:Type}(p:α->Bool)(l:List α):(aB_ (λi x=>if p x then some ((i:Nat):Int)else none) 0 l).getD (-1)=at_ p l:=by
 rw[scan_idx];unfold at_;cases l.findIdx? p<;>simp
theorem kr_{α:Type}(p:α->Bool)(l:List α):(l.find? p=none/\at_ p l = -1)\/∃(i:Nat) (x:α),l.find? p=some x/\at_ p l=(i:Int)/\l[i]? = some x/\p x=true/\∀j y,j<i->l[j]? = some y->p y=false:=by
 unfold at_;cases h:l.findIdx? p with
 | none =>
  refine .inl ⟨?_,rfl⟩;rw[List.find?_eq_none];intro x hx;rw[List.findIdx?_eq_none_iff]at h;simpa using h x hx
 | some i =>
  obtain⟨hlt,hp,hall⟩:=List.findIdx?_eq_some_iff_getElem.1 h;refine .inr ⟨i,l[i],?_,rfl,List.getElem?_eq_getElem hlt,hp,λj y hj hy => ?_⟩
  .rw[List.find?_eq_some_iff_getElem];exact⟨hp,i,hlt,rfl,λj hj=>by simpa using hall j hj⟩
  .have:=hall j hj;rw[List.getElem?_eq_getElem (by omega)]at hy;obtain rfl:=qSj hy;simpa using this
theorem ks_{α:Type}(p:α->Bool)(l:List α):decide (at_ p l<0)=(l.find? p).isNone:=by
 rcases kr_ p l with⟨h1,h2⟩|⟨i,x,h1,h2,_⟩
 .rw[h1,h2];rfl
 .rw[h1,h2];simp
theorem at_get{α:Type}(p:α->Bool)(l:List α)(h:(l.find? p).isNone=false):ak_ l (at_ p l)=l.find? p:=by
 rcases kr_ p l with⟨h1,h2⟩|⟨i,x,h1,h2,h3,_⟩
 .rw[h1]at h;cases h
 .rw[h1,h2,eC_,h3]
theorem hP_{α:Type}{n:Nat}{xs:List α}(h:xs.length*n<=140737488355328)(h63:xs.length<=9223372036854775807):room n ([]:List α) xs=some xs :=
 dj_ (by simpa using h63) (by simpa using h)
theorem bR_{α:Type}{l:List α}(h:l.length<=9223372036854775807):l.length<BIG:=by
 have:BIG=18446744073709551616:=rfl;omega
section
variable{α β:Type}{eq:α->α->Bool}
theorem lh_:∀{ks:List α} {vs:List β} {x:α} {v:β},ks.length=vs.length->(aD_ eq ks x).length=(aN_ eq ks vs x v).length
 | [],vs,x,v,h=>by cases vs with|nil=>rfl|cons a l=>simp at h
 | k::ks,[],x,v,h=>by simp at h
 | k::ks,w::vs,x,v,h=>by
  have ih:=lh_ (ks:=ks) (vs:=vs) (x:=x) (v:=v) (by simpa using h);unfold aD_ at ih ⊢;simp only[List.any_cons,aN_];cases hx:eq x k with
  | true=>simpa using h
  | false =>
   simp only[Bool.false_or,cond_false,qLc];cases ha:ks.any (eq x)with
   | true=>rw[ha]at ih;simp only[cond_true]at ih ⊢;simpa using ih
   | false=>rw[ha]at ih;simp only[cond_false]at ih ⊢;simpa using ih
theorem mputK_cons{k x:α}{ks:List α}(h:eq x k=false):aD_ eq (k::ks) x=k::aD_ eq ks x:=by
 unfold aD_;rw[List.any_cons,h,Bool.false_or];cases ks.any (eq x)<;>rfl
theorem li_(hq:∀x y,eq x y=true↔x=y):∀{ks:List α} {vs:List β} {x y:α} {v d:β},ks.length=vs.length->au_ eq (aD_ eq ks x) (aN_ eq ks vs x v) y d=bif eq y x then v else au_ eq ks vs y d
 | [],vs,x,y,v,d,h=>by
  cases vs with
  | nil=>rfl
  | cons a l=>simp at h
 | k::ks,[],x,y,v,d,h=>by simp at h
 | k :: ks,w::vs,x,y,v,d,h=>by
  have ih:=li_ hq (ks:=ks) (vs:=vs) (x:=x) (y:=y) (v:=v) (d:=d) (by simpa using h);cases hx:eq x k with
  | true =>
   obtain rfl:=(hq x k).1 hx;have e:aD_ eq (x::ks) x=x::ks:=by unfold aD_;rw[List.any_cons,hx];rfl
   rw[e];simp only[aN_,hx,cond_true,au_];cases eq y x<;>rfl
  | false =>
   rw[mputK_cons hx];simp only[aN_,hx,cond_false,au_];cases hy:eq y k with
   | true =>
    obtain rfl:=(hq y k).1 hy;have:eq y x=false:=by
     cases he:eq y x with
     | false=>rfl
     | true=>rw[(hq y x).1 he,(hq x x).2 rfl]at hx;cases hx
    rw[this];rfl
   | false=>exact ih
end
theorem eqI_iff(x y:Int):eqI x y=true↔x=y:=beq_iff_eq
theorem fV_{α:Type}{ms:List α}{k:Nat}(d:α)(h0:0<k)(hk:k<ms.length)(hl:ms.length<=9223372036854775807):ak_ ms (w64 ((k:Int)-1))=some (ms.getD (k-1) d):=by
 rw[w_pred h0 (by omega),as_ (by omega)];simp[List.getElem?_eq_getElem (by omega:k-1<ms.length)]
theorem fK_{α:Type}{l:List α}{i:Nat}(h:i<l.length):l.take (i+1)=l.take i++[l[i]]:=List.take_succ_eq_append_getElem h
def b7_(x:Int)(k:Nat):Bool:=decide (0<=x)&&x.toNat.testBit k
theorem tbit{n k:Nat}:(n/2^k%2==1)=n.testBit k:=by
 rw[Nat.testBit_eq_decide_div_mod_eq,Bool.eq_iff_iff];simp
theorem nY_(n k:Nat):b7_ (n:Int) k=n.testBit k:=by
 unfold b7_;rw[qTn];simp
theorem nZ_{x:Int}(h:x<0)(k:Nat):b7_ x k=false:=by
 unfold b7_;have:decide (0<=x)=false:=by simp;omega
 rw[this];rfl
theorem has_div(x:Int)(k:Nat)(_:k<63)(h1:x<=9223372036854775807):(Option.bind (bif(decide (x>=0))then Option.bind (quoI .i64 x ((2^k:Nat):Int)) λ(y1:Int)=>some ((y1.tmod 2)==1)else some false) λ(y2:Bool)=>some y2)=some (b7_ x k):=by
 by_cases h0:0<=x
 .obtain⟨n,rfl⟩:∃n:Nat,x=(n:Int):=⟨x.toNat,by omega⟩;have hpos:=Nat.two_pow_pos k;have hd:n/2^k<=n:=Nat.div_le_self _ _;have hq:quoI .i64 (n:Int) ((2^k:Nat):Int)=some ((n/2^k:Nat):Int):=by
   unfold quoI;rw[if_neg (by omega)];have:(n:Int).tdiv ((2^k:Nat):Int)=((n/2^k:Nat):Int):=rfl;rw[this];generalize n/2^k=q at hd;rw[g8_ (n:=(q:Int)) ⟨by omega,by omega⟩]
  have h0':decide ((n:Int)>=0)=true:=by simp
  rw[h0',hq,nY_,←tbit];simp only[cond_true,qBs];have:((n/2^k:Nat):Int).tmod 2=((n/2^k%2:Nat):Int):=rfl;rw[this]
  congr 1
  rw[Bool.eq_iff_iff,beq_iff_eq,beq_iff_eq];omega
 .have h0':decide (x>=0)=false:=by simp;omega
  rw[h0',nZ_ (by omega)];rfl
theorem has_lit(x:Int)(k:Nat)(hk:k<63)(h1:x<=9223372036854775807):(decide (x>=0)&&(((IntKind.i64.wrap (x.tdiv ((2^k:Nat):Int))).tmod 2)==1))=b7_ x k:=by
 have h:=has_div x k hk h1;by_cases h0:0<=x
 .have h0':decide (x>=0)=true:=by simp;omega
  rw[h0']at h ⊢;have hpos:=Nat.two_pow_pos k;have hq:quoI .i64 x ((2^k:Nat):Int)=some (IntKind.i64.wrap (x.tdiv ((2^k:Nat):Int))):=by
   unfold quoI;rw[if_neg (by omega)]
  rw[hq]at h;exact qSj h
 .have h0':decide (x>=0)=false:=by simp;omega
  rw[h0',nZ_ (by omega)];rfl
theorem jZ_(x:Int)(h1:x<=9223372036854775807):bq_ x=some (b7_ x 31):=congrArg some (has_lit x 31 (by omega) h1)
def topI(x:Int):Int:=x-x%512
def dc_(x:Int):Bool:=decide (0<=x)&&((topI x==0)||(topI x==2147483648)||(topI x==1073741824)||(topI x==536870912)||(topI x==1610612736))
theorem mz_{x:Int}(h:dc_ x=true):0<=x/\x<4294967296:=by
 unfold dc_ topI at h;simp only[qAn,Bool.or_eq_true,qDe,beq_iff_eq]at h;omega
theorem top_w{x:Int}(h0:0<=x)(h1:x<=9223372036854775807):w64 (x-(x.tmod 512))=topI x:=by
 obtain⟨n,rfl⟩:∃n:Nat,x=(n:Int):=⟨x.toNat,by omega⟩;have:(n:Int).tmod 512=(n:Int)%512:=rfl;rw[this,an_ ⟨by omega,by omega⟩];rfl
theorem ri_(x:Int)(h1:x<=9223372036854775807):gv_ x=some (dc_ x):=by
 unfold gv_ dc_;by_cases h0:0<=x
 .have h0':decide (x<0)=false:=by simp;omega
  have h0'':decide (0<=x)=true:=by simpa using h0
  rw[top_w h0 h1,h0',h0''];cases topI x==0<;>cases topI x==2147483648<;>cases topI x==1073741824<;>cases topI x==536870912<;>cases topI x==1610612736<;>rfl
 .have h0':decide (x<0)=true:=by simp;omega
  have h0'':decide (0<=x)=false:=by simp;omega
  rw[h0',h0''];rfl
theorem rj_(x:Int)(h1:x<=9223372036854775807):ir_ x=some (dc_ x):=by
 unfold ir_;by_cases h0:0<=x/\x<4294967296
 .refine ah_ (by simp;omega) ?_;rw[top_w h0.1 h1];unfold dc_;have h0'':decide (0<=x)=true:=by simpa using h0.1
  rw[h0''];rfl
 .have:dc_ x=false:=by
   cases h:dc_ x with
   | false=>rfl
   | true=>exact absurd (mz_ h) h0
  rw[this];exact ai_ (by simp;omega) rfl
theorem i7_{x:Int}(h:dc_ x=true):decide (x>=2147483648)=b7_ x 31:=by
 obtain⟨h0,h1⟩:=mz_ h;obtain⟨n,rfl⟩:∃n:Nat,x=(n:Int):=⟨x.toNat,by omega⟩;rw[nY_,←tbit,Bool.eq_iff_iff,qDe,beq_iff_eq];omega
def hQ_(b:UInt8):Bool:=decide (33<=b.toNat)&&decide (b.toNat<=126)&&(b.toNat != 47)
def dO_(s:Str):Bool:=decide (1<=s.length)&&decide (s.length<=64)&&(s != [46])&&(s != [46,46])&&s.all hQ_
def gN(_:Nat)(b:UInt8):Option Bool:=if hQ_ b then none else some false
theorem scan_gN:∀(k:Nat) (s:Str),aB_ gN k s=if s.all hQ_ then none else some false
 | _,[]=>rfl
 | k,b::s=>by
  have ih:=scan_gN (k+1) s;rw[List.all_cons];cases hb:hQ_ b with
  | true =>
   have h0:gN k b=none:=by unfold gN;rw[hb];rfl
   simp only[aB_,h0];rw[ih,Bool.true_and]
  | false =>
   have h0:gN k b=some false:=by unfold gN;rw[hb];rfl
   simp only[aB_,h0];rfl
theorem path_loop(s:Str)(h:s.length<=9223372036854775807):aj_ (fE_ s) BIG 0=some (b6_ (aB_ gN 0 s)):=by
 refine aZ_ s gN (bR_ h) (λi hi => ?_) ?_
 .unfold fE_;rw[g9_ hi,bi_ hi,aw_ (by omega)];have e:hQ_ s[i] = !(decide ((s[i].toNat:Int)<33)||decide ((s[i].toNat:Int)>126)||(s[i].toNat:Int)==47):=by
   unfold hQ_;rw[Bool.eq_iff_iff];simp only[qAn,qDe,bne_iff_ne,Bool.not_eq_true',Bool.or_eq_false_iff,qDf,beq_eq_false_iff_ne];omega
  unfold gN;rw[e];simp only[cond_true,qBs];cases decide ((s[i].toNat:Int)<33)<;>cases decide ((s[i].toNat:Int)>126)<;>cases((s[i].toNat:Int)==47)<;>rfl
 .unfold fE_;rw[bx_];rfl
theorem ref03_loop(s:Str)(h:s.length<=9223372036854775807):aj_ (kh_ s) BIG 0=some (b6_ (aB_ gN 0 s)):=by
 rw[←path_loop s h];rfl
theorem path_valid(s:Str)(h:s.length<=9223372036854775807):dq_ s=some (dO_ s):=by
 unfold dq_ dO_;rw[path_loop s h,scan_gN];have e1:(s==[]) = !decide (1<=s.length):=by cases s with|nil=>rfl|cons a l=>rw[Bool.eq_iff_iff];simp
 have e2:decide ((s.length:Int)>64) = !decide (s.length<=64):=by rw[Bool.eq_iff_iff];simp;omega
 rw[e1,e2];simp only[bne,qBs];cases decide (1<=s.length)<;>cases decide (s.length<=64)<;>cases(s==[46])<;>cases(s==[46,46])<;>cases s.all hQ_<;>rfl
theorem ref03_valid(s:Str)(h:s.length<=9223372036854775807):ho_ s=some (dO_ s):=by
 unfold ho_ dO_;rw[ref03_loop s h,scan_gN];have e1:decide ((s.length:Int)>=1)=decide (1<=s.length):=by rw[Bool.eq_iff_iff,qDe,qDe];omega
 have e2:decide ((s.length:Int)<=64)=decide (s.length<=64):=by rw[Bool.eq_iff_iff,qDe,qDe];omega
 rw[e1,e2];simp only[bne,qBs];cases decide (1<=s.length)<;>cases decide (s.length<=64)<;>cases(s==[46])<;>cases(s==[46,46])<;>cases s.all hQ_<;>rfl
theorem loop_scan1{α β:Type}{body:Int->Option (Step Int (Out Unit β))}(xs:List α)(g:Nat->α->Option β)(k:Nat)(hk:k<=xs.length)(hn:xs.length<BIG)
  (hb:∀i (h:i<xs.length),k<=i->body (i:Int)=some (stepO (g i xs[i]) i))
  (he:body (xs.length:Int)=some (.done (.fall ()))):aj_ body BIG (k:Int)=some (b6_ (aB_ g k (xs.drop k))):=by
 have key:∀(n i:Nat),i+n=xs.length->k<=i->aj_ body (n+1) (i:Int)=some (b6_ (aB_ g i (xs.drop i))):=by
  intro n
  induction n with
  | zero =>
   intro i hi _;obtain rfl:i=xs.length:=by omega
   rw[bO_ he];simp[aB_,b6_]
  | succ n ih =>
   intro i hi hki;have hlt:i<xs.length:=by omega
   have h1:=hb i hlt hki;rw[List.drop_eq_getElem_cons hlt];simp only[aB_];cases hg:g i xs[i]with
   | some r=>rw[hg]at h1;exact bO_ h1
   | none=>rw[hg]at h1;exact e1_ h1 (ih (i+1) (by omega) (by omega))
 have big:∀{σ β:Type} {body:σ->Option (Step σ β)} {n k:Nat} {s:σ} {b:β},aj_ body n s=some b->aj_ body (k+n) s=some b:=by
  intro σ β body n
  induction n with
  | zero=>intro k s b h;cases h
  | succ n ih =>
   intro k s b h;rw[show k+(n+1)=(k+n)+1 by omega];simp only[aj_]at h ⊢;split at h
   .exact h
   .exact ih h
   .exact h
 have h:=key (xs.length-k) k (by omega) (Nat.le_refl _);rw[show BIG=(BIG-(xs.length-k+1))+(xs.length-k+1)by omega];exact big h
abbrev e2_(id:Int)(n:Xq):Bool:=n.Id_==id
def zeroN:Xq:=Xq.mk 0 0 0 [] 0 [] [] [] 0 0 []
def bD_(l:List Xq)(id:Int):Xq×Bool:=match l.find? (e2_ id)with|some n=>(n,true)|none=>(zeroN,false)
theorem tree_find_eq(t:Xy)(f:Xq->Option Bool)(p:Xq->Bool)(hf:∀n,f n=some (p n))(h:t.Xz.length<=2000):ju_ t f=some (at_ p t.Xz):=by
 rw[←ha_];refine ba_ (aZ_ t.Xz _ (bR_ (by omega)) (λi hi => ?_) ?_) (λ_=>rfl) rfl
 .unfold iW_;rw[as_ hi,bi_ hi,aw_ (by omega)];simp only[cond_true,qBs];refine aa_ (hf _) ?_;cases p t.Xz[i]<;>rfl
 .unfold iW_;rw[bx_];rfl
theorem rk_(t:Xy)(id:Int)(h:t.Xz.length<=2000):eV_ t id=some (at_ (e2_ id) t.Xz):=by
 unfold eV_;exact aa_ (tree_find_eq t _ (e2_ id) (λn=>rfl) h) rfl
theorem tree_node_eq(t:Xy)(id:Int)(h:t.Xz.length<=2000):ck_ t id=some (bD_ t.Xz id):=by
 unfold ck_ bD_;refine aa_ (rk_ t id h) ?_;rw[ks_];cases hf:t.Xz.find? (e2_ id)with
 | none=>rfl
 | some n=>exact ah_ rfl (aa_ ((at_get (e2_ id) _ (by rw[hf];rfl)).trans hf) rfl)
theorem qb_(t:Xy)(id:Int)(h:t.Xz.length<=2000):jS_ t id=some (at_ (e2_ id) t.Xz):=by
 rw[←ha_];refine ba_ (aZ_ t.Xz _ (bR_ (by omega)) (λi hi => ?_) ?_) (λ_=>rfl) rfl
 .unfold g3_;rw[as_ hi,bi_ hi,aw_ (by omega)];simp only[cond_true,qBs];unfold e2_;cases t.Xz[i].Id_==id<;>rfl
 .unfold g3_;rw[bx_];rfl
theorem rl_(t:Xy)(id:Int)(h:t.Xz.length<=2000):is_ t id=some (bD_ t.Xz id):=by
 unfold is_ bD_;refine aa_ (qb_ t id h) ?_;rw[ks_];cases hf:t.Xz.find? (e2_ id)with
 | none=>rfl
 | some n=>exact ah_ rfl (aa_ ((at_get (e2_ id) _ (by rw[hf];rfl)).trans hf) rfl)
def clockI(x:Int):Int:=bH_ (bV_ x 0) 1099511627776
def ch_(n:Xq):Bool:=dc_ n.Xp&&(decide (0<=n.Yz)&&decide (n.Yz<=2147483647))&&(decide (0<=n.Xo)&&decide (n.Xo<=1099511627776))&&(decide (0<=n.Yx)&&decide (n.Yx<=1099511627776))&&(decide (n.Yf.length<=64)&&(decide (n.Ym.length<=64)&&decide (n.Yy.length<=64)))&&decide (n.Xl.length<=65536)&&(!(b7_ n.Xp 31)||n.Xl==[])
structure OkT(l:List Xq)(next:Int):Prop where
 srt:l.Pairwise λa b=>a.Id_<b.Id_
 root:∃r q,l=r::q/\r.Id_=1/\r.Xw=1/\r.Xv=[47]/\b7_ r.Xp 31=true
 flds:∀n∈l,ch_ n=true
 nam:∀n∈l,n.Id_≠1->dO_ n.Xv=true
 par:∀n∈l,n.Id_≠1->∃p∈l,p.Id_=n.Xw/\p.Id_<n.Id_/\b7_ p.Xp 31=true
 uniq:∀a∈l,∀b∈l,a.Id_≠1->b.Id_≠1->a.Xw=b.Xw->a.Xv=b.Xv->a.Id_=b.Id_
 nxt:∀n∈l,n.Id_<next
 nx2:next<=1048576
 len:l.length<=1024
theorem ft_{n:Xq}(h:ch_ n=true):dc_ n.Xp=true:=by
 unfold ch_ at h;simp only[qAn]at h;exact h.1.1.1.1.1.1
theorem OkT.mode{l:List Xq}{next:Int}(h:OkT l next){n:Xq}(hn:n∈l):0<=n.Xp/\n.Xp<4294967296:=mz_ (ft_ (h.flds n hn))
theorem OkT.ge{l:List Xq}{next:Int}(h:OkT l next){n:Xq}(hn:n∈l):1<=n.Id_:=by
 obtain⟨r,q,rfl,h1,_⟩:=h.root;rcases List.mem_cons.1 hn with rfl|hn
 .omega
 .have:=(List.pairwise_cons.1 h.srt).1 n hn;omega
theorem id_inj{l:List Xq}(hs:l.Pairwise λa b=>a.Id_<b.Id_){a b:Xq}(ha:a∈l)(hb:b∈l)(h:a.Id_=b.Id_):a=b:=by
 induction l with
 | nil=>cases ha
 | cons x l ih =>
  obtain⟨h1,h2⟩:=List.pairwise_cons.1 hs;rcases List.mem_cons.1 ha with ea|ha'
  .rcases List.mem_cons.1 hb with eb|hb'
   .rw[ea,eb]
   .have:=h1 b hb';rw[ea]at h;omega
  .rcases List.mem_cons.1 hb with eb|hb'
   .have:=h1 a ha';rw[eb]at h;omega
   .exact ih h2 ha' hb'
theorem lj_{l:List Xq}{id:Int}(h:(bD_ l id).2=true):(bD_ l id).1∈l/\(bD_ l id).1.Id_=id:=by
 unfold bD_ at h ⊢;cases hf:l.find? (e2_ id)with
 | none=>rw[hf]at h;cases h
 | some n=>exact⟨List.mem_of_find?_eq_some hf,by simpa[e2_]using List.find?_some hf⟩
theorem nodeT_none{l:List Xq}{id:Int}(h:(bD_ l id).2=false):(∀n∈l,n.Id_≠id)/\(bD_ l id).1=zeroN:=by
 unfold bD_ at h ⊢;cases hf:l.find? (e2_ id)with
 | none =>
  rw[List.find?_eq_none]at hf;exact⟨λn hn e=>hf n hn (by simpa[e2_]using e),rfl⟩
 | some n=>rw[hf]at h;cases h
theorem OkT.hm{l:List Xq}{next:Int}(h:OkT l next){n:Xq}(hn:n∈l):n.Xp<=9223372036854775807:=by have:=h.mode hn;omega
theorem node_hm{l:List Xq}{next:Int}(h:OkT l next)(id:Int):(bD_ l id).1.Xp<=9223372036854775807:=by
 cases hb:(bD_ l id).2 with
 | true=>exact h.hm (lj_ hb).1
 | false=>rw[(nodeT_none hb).2];decide
theorem clock_ne(x:Int):(x != clockI x)=(decide (x<0)||decide (x>1099511627776)):=by
 unfold clockI bH_ bV_;rw[Bool.eq_iff_iff];simp only[bne_iff_ne,ne_eq,Bool.or_eq_true,qDe];split<;>split<;>omega
theorem max3(a b c:Nat)(k:Nat):decide (bV_ (bV_ (a:Int) (b:Int)) (c:Int)>(k:Int)) = !(decide (a<=k)&&(decide (b<=k)&&decide (c<=k))):=by
 unfold bV_;rw[Bool.eq_iff_iff];simp only[qDe,Bool.not_eq_true',Bool.and_eq_false_iff,qDf];split<;>split<;>omega
theorem clock_le(x:Int):(x != clockI x) = !(decide (0<=x)&&decide (x<=1099511627776)):=by
 rw[clock_ne,Bool.eq_iff_iff];simp only[Bool.or_eq_true,qDe,Bool.not_eq_true',Bool.and_eq_false_iff,qDf];omega
theorem rm_(n:Xq)(hm:n.Xp<=9223372036854775807):gw_ n=some (ch_ n):=by
 unfold gw_ ch_;refine aa_ (ri_ _ hm) ?_;have e1:decide (n.Yz<0) = !(decide (0<=n.Yz)):=by rw[Bool.eq_iff_iff];simp
 have e2:decide (n.Yz>2147483647) = !(decide (n.Yz<=2147483647)):=by rw[Bool.eq_iff_iff];simp
 rw[e1,e2];cases dc_ n.Xp with
 | false=>rfl
 | true =>
  cases decide (0<=n.Yz)with
  | false=>rfl
  | true =>
   cases decide (n.Yz<=2147483647)with
   | false=>rfl
   | true =>
    refine aa_ (a:=n.Xo != clockI n.Xo) rfl ?_;rw[clock_le n.Xo];cases decide (0<=n.Xo)&&decide (n.Xo<=1099511627776)with
    | false=>rfl
    | true =>
     refine aa_ (a:=n.Yx != clockI n.Yx) rfl ?_;rw[clock_le n.Yx];cases decide (0<=n.Yx)&&decide (n.Yx<=1099511627776)with
     | false=>rfl
     | true =>
      refine ah_ rfl ?_;rw[show(64:Int)=((64:Nat):Int)from rfl,max3];cases decide (n.Yf.length<=64)&&(decide (n.Ym.length<=64)&&decide (n.Yy.length<=64))with
      | false=>rfl
      | true =>
       have e3:decide ((n.Xl.length:Int)>65536) = !(decide (n.Xl.length<=65536)):=by rw[Bool.eq_iff_iff];simp;omega
       rw[e3];cases decide (n.Xl.length<=65536)with
       | false=>rfl
       | true=>exact ah_ rfl (aa_ (jZ_ _ hm) (by simp))
def okNodeD(D:Bool)(n:Xq):Bool:=dc_ n.Xp&&(decide (0<=n.Yz)&&decide (n.Yz<=2147483647))&&(decide (0<=n.Xo)&&decide (n.Xo<=1099511627776))&&(decide (0<=n.Yx)&&decide (n.Yx<=1099511627776))&&(decide (n.Yf.length<=64)&&(decide (n.Ym.length<=64)&&decide (n.Yy.length<=64)))&&decide (n.Xl.length<=65536)&&(!D||n.Xl==[])
theorem jC_(n:Xq)(hm:n.Xp<=9223372036854775807):ex_ n=some (ch_ n):=by
 have e0:ch_ n=okNodeD (decide (n.Xp>=2147483648)) n:=by
  unfold ch_ okNodeD;cases hk:dc_ n.Xp with
  | false=>simp
  | true=>rw[i7_ hk]
 rw[e0];unfold ex_ okNodeD;refine aa_ (rj_ _ hm) ?_;have e1:decide (n.Yz<0) = !(decide (0<=n.Yz)):=by rw[Bool.eq_iff_iff];simp
 have e2:decide (n.Yz>2147483647) = !(decide (n.Yz<=2147483647)):=by rw[Bool.eq_iff_iff];simp
 have e3:decide (n.Xo<0) = !(decide (0<=n.Xo)):=by rw[Bool.eq_iff_iff];simp
 have e4:decide (n.Xo>1099511627776) = !(decide (n.Xo<=1099511627776)):=by rw[Bool.eq_iff_iff];simp
 have e5:decide (n.Yx<0) = !(decide (0<=n.Yx)):=by rw[Bool.eq_iff_iff];simp
 have e6:decide (n.Yx>1099511627776) = !(decide (n.Yx<=1099511627776)):=by rw[Bool.eq_iff_iff];simp
 have e7:∀s:Str,decide ((s.length:Int)>64) = !(decide (s.length<=64)):=λs=>by rw[Bool.eq_iff_iff];simp;omega
 have e8:decide ((n.Xl.length:Int)>65536) = !(decide (n.Xl.length<=65536)):=by rw[Bool.eq_iff_iff];simp;omega
 rw[e1,e2,e3,e4,e5,e6,e7,e7,e7,e8];cases dc_ n.Xp<;>cases decide (0<=n.Yz)<;>cases decide (n.Yz<=2147483647)<;>cases decide (0<=n.Xo)<;>cases decide (n.Xo<=1099511627776)<;>cases decide (0<=n.Yx)<;>cases decide (n.Yx<=1099511627776)<;>try rfl
 cases decide (n.Yf.length<=64)<;>cases decide (n.Ym.length<=64)<;>cases decide (n.Yy.length<=64)<;>cases decide (n.Xl.length<=65536)<;>rfl
def dB_(l:List Xq)(i:Nat):Xq:=l.getD (i-1) zeroN
def cq_(a b:Xq):Bool:=a.Xw==b.Xw&&a.Xv==b.Xv
def StepOK(l:List Xq)(i:Nat)(n:Xq):Prop:=(dB_ l i).Id_<n.Id_/\dO_ n.Xv=true/\(∃p∈l.take i,p.Id_=n.Xw/\b7_ p.Xp 31=true)/\∀c∈(l.take i).drop 1,cq_ c n=false
def RootOK(n:Xq):Prop:=n.Id_=1/\n.Xw=1/\n.Xv=[47]/\b7_ n.Xp 31=true
theorem mem_take{α:Type}{l:List α}{i:Nat}{x:α}:x∈l.take i↔∃j,j<i/\l[j]? = some x:=by
 rw[List.mem_iff_getElem?];constructor
 .rintro⟨j,hj⟩;rw[List.getElem?_take]at hj;split at hj
  .exact⟨j,by assumption,hj⟩
  .cases hj
 .rintro⟨j,h1,h2⟩;exact⟨j,by rw[List.getElem?_take,if_pos h1];exact h2⟩
theorem mem_take_drop{α:Type}{l:List α}{i:Nat}{x:α}:x∈(l.take i).drop 1↔∃j,0<j/\j<i/\l[j]? = some x:=by
 rw[List.mem_iff_getElem?];constructor
 .rintro⟨j,hj⟩;rw[List.getElem?_drop,List.getElem?_take]at hj;split at hj
  .exact⟨1+j,by omega,by assumption,hj⟩
  .cases hj
 .rintro⟨j,h0,h1,h2⟩;exact⟨j-1,by rw[List.getElem?_drop,List.getElem?_take,show 1+(j-1)=j by omega,if_pos h1];exact h2⟩
theorem mC_{l:List Xq}{i:Nat}(h0:0<i)(hi:i<l.length):l[i-1]? = some (dB_ l i):=by
 unfold dB_;rw[List.getD_eq_getElem?_getD,List.getElem?_eq_getElem (by omega)];rfl
theorem srt_iff{l:List Xq}:(l.Pairwise λa b=>a.Id_<b.Id_)↔∀i n,0<i->l[i]? = some n->(dB_ l i).Id_<n.Id_:=by
 rw[List.pairwise_iff_getElem];constructor
 .intro h i n h0 hn;obtain⟨hi,rfl⟩:=List.getElem?_eq_some_iff.1 hn;have:=mC_ h0 hi;obtain⟨_,e⟩:=List.getElem?_eq_some_iff.1 this;rw[←e];exact h _ _ _ _ (by omega)
 .intro h;have key:∀(d i:Nat) (hj:i+d+1<l.length),(l[i]'(by omega)).Id_<(l[i+d+1]'hj).Id_:=by
   intro d
   induction d with
   | zero =>
    intro i hj;have:=h (i+1) _ (by omega) (List.getElem?_eq_getElem (by omega));have e:=mC_ (l:=l) (i:=i+1) (by omega) (by omega);obtain⟨_,e⟩:=List.getElem?_eq_some_iff.1 e;rw[←e]at this;exact this
   | succ d ih =>
    intro i hj;have h1:=ih i (by omega);have:=h (i+d+1+1) _ (by omega) (List.getElem?_eq_getElem (by omega));have e:=mC_ (l:=l) (i:=i+d+1+1) (by omega) (by omega);obtain⟨_,e⟩:=List.getElem?_eq_some_iff.1 e;rw[←e]at this;simp only[Nat.add_sub_cancel]at this;exact Int.lt_trans h1 this
  intro i j hi hj hij;have:=key (j-i-1) i (by omega);simpa[show i+(j-i-1)+1=j by omega]using this
theorem OkT_iff{l:List Xq}{next:Int}:OkT l next↔1<=l.length/\l.length<=1024/\next<=1048576/\(∀n,l[0]? = some n->RootOK n)/\(∀n∈l,ch_ n=true)/\(∀n∈l,n.Id_<next)/\∀i n,0<i->l[i]? = some n->StepOK l i n:=by
 constructor
 .intro h;have hmem:∀{i:Nat} {n:Xq},l[i]? = some n->n∈l:=λh=>List.mem_iff_getElem?.2 ⟨_,h⟩
  have lt:∀{i j:Nat} {a b:Xq},l[i]? = some a->l[j]? = some b->a.Id_<b.Id_->i<j:=fun{i j a b} ha hb hab=>by
   rcases Nat.lt_trichotomy i j with h1|h1|h1
   .exact h1
   .subst h1;rw[ha]at hb;cases hb;omega
   .have:=List.pairwise_iff_getElem.1 h.srt j i (List.getElem?_eq_some_iff.1 hb).1 (List.getElem?_eq_some_iff.1 ha).1 h1;rw[(List.getElem?_eq_some_iff.1 ha).2,(List.getElem?_eq_some_iff.1 hb).2]at this;omega
  have gt:∀{i j:Nat} {a b:Xq},l[i]? = some a->l[j]? = some b->i<j->a.Id_<b.Id_:=fun{i j a b} ha hb hab=>by
   have:=List.pairwise_iff_getElem.1 h.srt i j (List.getElem?_eq_some_iff.1 ha).1 (List.getElem?_eq_some_iff.1 hb).1 hab;rw[(List.getElem?_eq_some_iff.1 ha).2,(List.getElem?_eq_some_iff.1 hb).2]at this;exact this
  obtain⟨r,q,hl,hr⟩:=h.root;have h0:l[0]? = some r:=by rw[hl];rfl
  refine⟨by rw[hl];simp,h.len,h.nx2,λn hn => ?_,h.flds,h.nxt,λi n hi hn => ?_⟩
  .rw[h0]at hn;cases hn;exact hr
  .have h1:n.Id_≠1:=by have:=gt h0 hn hi;rw[hr.1]at this;omega
   refine⟨srt_iff.1 h.srt i n hi hn,h.nam n (hmem hn) h1,?_,λc hc => ?_⟩
   .obtain⟨p,p1,p2,p3,p4⟩:=h.par n (hmem hn) h1;obtain⟨j,hj⟩:=List.mem_iff_getElem?.1 p1;exact⟨p,mem_take.2 ⟨j,lt hj hn p3,hj⟩,p2,p4⟩
   .obtain⟨j,j0,j1,hj⟩:=mem_take_drop.1 hc;cases hs:cq_ c n with
    | false=>rfl
    | true =>
     unfold cq_ at hs;rw[qAn,beq_iff_eq,beq_iff_eq]at hs;have c1:c.Id_≠1:=by have:=gt h0 hj j0;rw[hr.1]at this;omega
     have:=h.uniq c (hmem hj) n (hmem hn) c1 h1 hs.1 hs.2;have:=gt hj hn j1;omega
 .rintro⟨h1,h2,h3,h4,h5,h6,h7⟩;have srt:l.Pairwise λa b=>a.Id_<b.Id_:=srt_iff.2 λi n hi hn=>(h7 i n hi hn).1
  have gt:∀{i j:Nat} {a b:Xq},l[i]? = some a->l[j]? = some b->i<j->a.Id_<b.Id_:=fun{i j a b} ha hb hab=>by
   have:=List.pairwise_iff_getElem.1 srt i j (List.getElem?_eq_some_iff.1 ha).1 (List.getElem?_eq_some_iff.1 hb).1 hab;rw[(List.getElem?_eq_some_iff.1 ha).2,(List.getElem?_eq_some_iff.1 hb).2]at this;exact this
  cases l with
  | nil=>exact absurd h1 (by simp)
  | cons r q =>
   have hr:=h4 r rfl;have pos:∀{i:Nat} {n:Xq},(r::q)[i]? = some n->n.Id_≠1->0<i:=fun{i n} hn hne=>by
    rcases Nat.eq_zero_or_pos i with rfl|h0
    .cases hn;exact absurd hr.1 hne
    .exact h0
   refine⟨srt,⟨r,q,rfl,hr⟩,h5,λn hn hne => ?_,λn hn hne => ?_,λa ha b hb ha1 hb1 hp hnm => ?_,h6,h3,h2⟩
   .obtain⟨i,hi⟩:=List.mem_iff_getElem?.1 hn;exact(h7 i n (pos hi hne) hi).2.1
   .obtain⟨i,hi⟩:=List.mem_iff_getElem?.1 hn;obtain⟨p,hp,p1,p2⟩:=(h7 i n (pos hi hne) hi).2.2.1;obtain⟨j,hj,e⟩:=mem_take.1 hp;exact⟨p,List.mem_iff_getElem?.2 ⟨_,e⟩,p1,gt e hi hj,p2⟩
   .obtain⟨i,hi⟩:=List.mem_iff_getElem?.1 ha;obtain⟨j,hj⟩:=List.mem_iff_getElem?.1 hb;rcases Nat.lt_trichotomy i j with h|h|h
    .have:=(h7 j b (pos hj hb1) hj).2.2.2 a (mem_take_drop.2 ⟨i,pos hi ha1,h,hi⟩);unfold cq_ at this;rw[hp,hnm]at this;simp at this
    .subst h;rw[hi]at hj;cases hj;rfl
    .have:=(h7 i a (pos hi ha1) hi).2.2.2 b (mem_take_drop.2 ⟨j,pos hj hb1,h,hj⟩);unfold cq_ at this;rw[hp,hnm]at this;simp at this
def CntP{κ α:Type}(eq : κ -> κ -> Bool)(P : κ -> α->Bool)(ks:List κ)(vs:List Int)(l:List α):Prop:=ks.length=vs.length/\∀k,au_ eq ks vs k 0=((l.countP (P k):Nat):Int)
theorem CntP.nil{κ α:Type}{eq : κ -> κ -> Bool}{P : κ -> α->Bool}:CntP eq P [] [] []:=⟨rfl,λ_=>by simp[au_]⟩
theorem CntP.put{κ α:Type}{eq : κ -> κ -> Bool}{P : κ -> α->Bool}(hq:∀x y,eq x y=true↔x=y){ks:List κ}{vs:List Int}{l:List α}(h:CntP eq P ks vs l){x:α}{key : κ}(hx:∀k,P k x=eq k key)(hl:l.length<=2000) :
  CntP eq P (aD_ eq ks key) (aN_ eq ks vs key (w64 (au_ eq ks vs key 0+1))) (l++[x]):=by
 refine⟨lh_ h.1,λn => ?_⟩;have hc:=List.countP_le_length (p:=P key) (l:=l);rw[li_ hq h.1,h.2 key,h.2 n,aw_ (by omega),List.countP_append];have e:List.countP (P n) [x]=if eq n key then 1 else 0:=by simp[List.countP_cons,hx]
 rw[e];cases hn:eq n key with
 | true=>obtain rfl:=(hq _ _).1 hn;rfl
 | false=>rfl
theorem CntP.skip{κ α:Type}{eq : κ -> κ -> Bool}{P : κ -> α->Bool}{ks:List κ}{vs:List Int}{l:List α}(h:CntP eq P ks vs l){x:α}(hx:∀k,P k x=false):CntP eq P ks vs (l++[x]) :=
 ⟨h.1,λk=>by rw[h.2 k,List.countP_append];simp[hx]⟩
theorem CntP.put2{κ α:Type}{eq : κ -> κ -> Bool}{P : κ -> α->Bool}(hq:∀x y,eq x y=true↔x=y){ks:List κ}{vs:List Int}{l:List α}(h:CntP eq P ks vs l){x:α}{key : κ}(hx:∀k,P k x=eq k key)(hl:l.length<=2000) :
  CntP eq P (aD_ eq (aD_ eq ks key) key) (aN_ eq (aD_ eq ks key) (aN_ eq ks vs key (au_ eq ks vs key 0)) key (w64 (au_ eq ks vs key 0+1))) (l++[x]) /\
  au_ eq (aD_ eq ks key) (aN_ eq ks vs key (au_ eq ks vs key 0)) key 0=au_ eq ks vs key 0:=by
 have e:∀n,au_ eq (aD_ eq ks key) (aN_ eq ks vs key (au_ eq ks vs key 0)) n 0=au_ eq ks vs n 0:=λn=>by
  rw[li_ hq h.1];cases hn:eq n key with
  | true=>obtain rfl:=(hq _ _).1 hn;rfl
  | false=>rfl
 have h':CntP eq P (aD_ eq ks key) (aN_ eq ks vs key (au_ eq ks vs key 0)) l:=⟨lh_ h.1,λn=>by rw[e];exact h.2 n⟩;refine⟨?_,e key⟩;have:=h'.put hq hx hl;rw[e key]at this;exact this
theorem CntP.zero{κ α:Type}{eq : κ -> κ -> Bool}{P : κ -> α->Bool}{ks:List κ}{vs:List Int}{l:List α}(h:CntP eq P ks vs l)(k : κ):(au_ eq ks vs k 0==0) = !(l.any (P k)):=by
 rw[h.2 k,Bool.eq_iff_iff,beq_iff_eq,Bool.not_eq_true',List.any_eq_false];have:((l.countP (P k):Nat):Int)=0↔l.countP (P k)=0:=by omega
 rw[this,List.countP_eq_zero]
theorem CntP.pos{κ α:Type}{eq : κ -> κ -> Bool}{P : κ -> α->Bool}{ks:List κ}{vs:List Int}{l:List α}(h:CntP eq P ks vs l)(k : κ):decide (au_ eq ks vs k 0>0)=l.any (P k):=by
 rw[h.2 k,Bool.eq_iff_iff,qDe,List.any_eq_true];have:((l.countP (P k):Nat):Int)>0↔0<l.countP (P k):=by omega
 rw[this,List.countP_pos_iff]
def dirP(k:Int)(n:Xq):Bool:=k==n.Id_&&b7_ n.Xp 31
abbrev eqPl(a b:Xk):Bool:=decide (a=b)
def plP(k:Xk)(n:Xq):Bool:=eqPl k (Xk.mk n.Xw n.Xv)
theorem plP_same(c n:Xq):plP (Xk.mk n.Xw n.Xv) c=cq_ c n:=by
 unfold plP cq_ eqPl;rw[Bool.eq_iff_iff];simp only[qDe,Xk.mk.injEq,qAn,beq_iff_eq];exact⟨λ⟨h1,h2⟩=>⟨h1.symm,h2.symm⟩,λ⟨h1,h2⟩=>⟨h1.symm,h2.symm⟩⟩
def okAt(l:List Xq)(i:Nat)(n:Xq):Bool:=bif i==0 then n.Id_==1&&(n.Xw==1&&(n.Xv==[47]&&b7_ n.Xp 31))else dO_ n.Xv&&((l.take i).any (dirP n.Xw) && !(((l.take i).drop 1).any (plP (Xk.mk n.Xw n.Xv))))
def tB(l:List Xq)(next:Int)(i:Nat)(n:Xq):Bool:=ch_ n&&(decide (n.Id_<next)&&((i==0||decide ((dB_ l i).Id_<n.Id_))&&okAt l i n))
def gT(l:List Xq)(next:Int)(i:Nat)(n:Xq):Option Bool:=if tB l next i n then none else some false
theorem kt_{l:List Xq}{i:Nat}(hi:i<l.length)(h0:0<i):(l.take (i+1)).drop 1=(l.take i).drop 1++[l[i]]:=by
 rw[fK_ hi,List.drop_append,List.length_take,show(1-min i l.length)=0 by omega];rfl
theorem pf_(t:Xy)(i:Nat)(hi:i<t.Xz.length)(hl:t.Xz.length<=1024)(hm:∀n∈t.Xz,n.Xp<=9223372036854775807/\n.Xv.length<=9223372036854775807){dk:List Int}{dv:List Int}{pk:List Xk}{pv:List Int}
  (h1:CntP eqI dirP dk dv (t.Xz.take i)) (h2:CntP eqPl plP pk pv ((t.Xz.take i).drop 1)) :
  (tB t.Xz t.Yk i t.Xz[i]=false/\bU_ t ((i:Int),dk,dv,pk,pv)=some (.done (.ret false))) \/
  (tB t.Xz t.Yk i t.Xz[i]=true/\∃dk' dv' pk' pv',bU_ t ((i:Int),dk,dv,pk,pv)=some (.next (((i+1:Nat):Int),dk',dv',pk',pv'))/\CntP eqI dirP dk' dv' (t.Xz.take (i+1))/\CntP eqPl plP pk' pv' ((t.Xz.take (i+1)).drop 1)):=by
 have hmem:=List.getElem_mem hi;obtain⟨hm1,hm2⟩:=hm _ hmem;unfold bU_;simp only;rw[bi_ hi,as_ hi,aw_ (by omega)];simp only[cond_true,qBs];rw[rm_ _ hm1];simp only[qBs];have hnx:decide (t.Xz[i].Id_>=t.Yk) = !(decide (t.Xz[i].Id_<t.Yk)):=by rw[Bool.eq_iff_iff];simp
 rw[hnx];have htk:t.Xz.take (i+1)=t.Xz.take i++[t.Xz[i]]:=fK_ hi;have hdir:∀{A B:Option (Out ((List Int)×(List Int)×(List Xk)×(List Int)) Bool)},(Option.bind (bq_ t.Xz[i].Xp) λ(y22:Bool)=>bif y22 then A else B)=bif b7_ t.Xz[i].Xp 31 then A else B:=by
  intro A B;rw[jZ_ _ hm1];rfl
 -- the directories counted after this node
 have hD:∃dk' dv',(∀(p q:_),(bif b7_ t.Xz[i].Xp 31 then some (.fall (aD_ eqI dk t.Xz[i].Id_,aN_ eqI dk dv t.Xz[i].Id_ (w64 (au_ eqI dk dv t.Xz[i].Id_ 0+1)),p,q))else some (.fall (dk,dv,p,q)):Option (Out ((List Int)×(List Int)×(List Xk)×(List Int)) Bool))=some (.fall (dk',dv',p,q)))/\CntP eqI dirP dk' dv' (t.Xz.take (i+1)):=by
  rw[htk];cases hh:b7_ t.Xz[i].Xp 31 with
  | true=>exact⟨_,_,λp q=>rfl,h1.put eqI_iff (λk=>by unfold dirP eqI;rw[hh,Bool.and_true]) (by rw[List.length_take];omega)⟩
  | false=>exact⟨dk,dv,λp q=>rfl,h1.skip (λk=>by unfold dirP;rw[hh,Bool.and_false])⟩
 obtain⟨dk',dv',hD1,hD2⟩:=hD;cases ho:ch_ t.Xz[i]with
 | false=>exact .inl ⟨by unfold tB;rw[ho];rfl,rfl⟩
 | true =>
  cases hx:decide (t.Xz[i].Id_<t.Yk)with
  | false=>exact .inl ⟨by unfold tB;rw[ho,hx];rfl,rfl⟩
  | true =>
   simp only[Bool.not_true,Bool.or_self,cond_false];rcases Nat.eq_zero_or_pos i with rfl|h0
   .
    have e0:decide (((0:Nat):Int)>0)=false:=rfl;have e1:(((0:Nat):Int)==0)=true:=rfl;rw[e0,e1];simp only[cond_false,cond_true,qBs];have hroot:(Option.bind (bif(((t.Xz[0].Id_ != 1)||(t.Xz[0].Xw != 1))||(!(t.Xz[0].Xv==[47])))then some true else Option.bind (bq_ t.Xz[0].Xp) λ(y17:Bool)=>some (!y17)) λ(y18:Bool)=>(bif y18 then some (.ret (false))else some (.fall ())):Option (Out Unit Bool))=bif okAt t.Xz 0 t.Xz[0]then some (.fall ())else some (.ret false):=by
     rw[jZ_ _ hm1];unfold okAt bne;simp only[qBs];cases t.Xz[0].Id_==1<;>cases t.Xz[0].Xw==1<;>cases t.Xz[0].Xv==[47]<;>cases b7_ t.Xz[0].Xp 31<;>rfl
    rw[hroot];cases hk:okAt t.Xz 0 t.Xz[0]with
    | false=>exact .inl ⟨by unfold tB;rw[ho,hx,hk];rfl,rfl⟩
    | true =>
     refine .inr ⟨by unfold tB;rw[ho,hx,hk];rfl,dk',dv',pk,pv,?_,hD2,?_⟩
     .simp only[cond_true,qBs];rw[hdir,hD1];rfl
     .have e:(t.Xz.take (0+1)).drop 1=(t.Xz.take 0).drop 1:=by rw[htk];simp
      rw[e];exact h2
   .have e0:decide ((i:Int)>0)=true:=by simpa using h0
    have e1:((i:Int)==0)=false:=by simp;omega
    have e2:(i==0)=false:=by simp;omega
    have hp:ak_ t.Xz (w64 ((i:Int)-1))=some (dB_ t.Xz i):=fV_ zeroN h0 hi (by omega);rw[e0,e1,hp];have hle:decide (t.Xz[i].Id_<=(dB_ t.Xz i).Id_) = !(decide ((dB_ t.Xz i).Id_<t.Xz[i].Id_)):=by rw[Bool.eq_iff_iff];simp
    simp only[cond_true,qBs];rw[hle];cases hs:decide ((dB_ t.Xz i).Id_<t.Xz[i].Id_)with
    | false=>exact .inl ⟨by unfold tB;rw[ho,hx,hs,e2];rfl,rfl⟩
    | true =>
     simp only[Bool.not_true,cond_false];have hnode:(Option.bind (dq_ t.Xz[i].Xv) λ(y19:Bool)=>Option.bind (bif(!y19)then some true else some ((au_ eqI dk dv t.Xz[i].Xw 0)==0)) λ(y20:Bool)=>Option.bind (bif y20 then some true else some (decide ((au_ (λ(a b:Xk)=>decide (a=b)) pk pv (Xk.mk t.Xz[i].Xw t.Xz[i].Xv) 0)>0))) λ(y21:Bool)=>(bif y21 then some (.ret (false))else some (.fall ())):Option (Out Unit Bool))=bif okAt t.Xz i t.Xz[i]then some (.fall ())else some (.ret false):=by
      rw[path_valid _ hm2];unfold okAt;rw[h1.zero,e2];have:=h2.pos (Xk.mk t.Xz[i].Xw t.Xz[i].Xv);unfold eqPl at this;rw[this];simp only[qBs,cond_false];cases dO_ t.Xz[i].Xv<;>cases(t.Xz.take i).any (dirP t.Xz[i].Xw)<;>cases((t.Xz.take i).drop 1).any (plP (Xk.mk t.Xz[i].Xw t.Xz[i].Xv))<;>rfl
     rw[hnode];cases hk:okAt t.Xz i t.Xz[i]with
     | false=>exact .inl ⟨by unfold tB;rw[ho,hx,hk];simp,rfl⟩
     | true =>
      obtain⟨c1,c2⟩:=h2.put2 (x:=t.Xz[i]) (key:=Xk.mk t.Xz[i].Xw t.Xz[i].Xv) (λx y=>decide_eq_true_iff) (λk=>rfl) (by rw[List.length_drop,List.length_take];omega);refine .inr ⟨by unfold tB;rw[ho,hx,hk,hs];simp,dk',dv',_,_,?_,hD2,by rw[kt_ hi h0];exact c1⟩;simp only[cond_true,qBs];rw[c2,bothC_self];simp only[qBs];rw[hdir,hD1];rfl
theorem pg_(t:Xy)(hl:t.Xz.length<=1024)(hm:∀n∈t.Xz,n.Xp<=9223372036854775807/\n.Xv.length<=9223372036854775807) :
  aj_ (bU_ t) BIG (0,([]:List Int),([]:List Int),([]:List Xk),([]:List Int))=some (b6_ (aB_ (gT t.Xz t.Yk) 0 t.Xz)):=by
 refine dx_ (body:=bU_ t) (J:=λi s b=>∃dk dv pk pv,s=((i:Int),dk,dv,pk,pv)/\CntP eqI dirP dk dv (t.Xz.take i)/\CntP eqPl plP pk pv ((t.Xz.take i).drop 1)/\b=b6_ (aB_ (gT t.Xz t.Yk) i (t.Xz.drop i))) t.Xz.length (bR_ (by omega)) (λs b hJ => ?_) (λi s b hi hJ => ?_) ⟨[],[],[],[],rfl,CntP.nil,by simp[CntP.nil],by simp⟩
 .obtain⟨dk,dv,pk,pv,rfl,_,_,rfl⟩:=hJ;unfold bU_;simp only;rw[bx_];simp[aB_,b6_]
 .obtain⟨dk,dv,pk,pv,rfl,h1,h2,rfl⟩:=hJ;rw[List.drop_eq_getElem_cons hi];rcases pf_ t i hi hl hm h1 h2 with⟨hb,hr⟩|⟨hb,dk',dv',pk',pv',hr,h1',h2'⟩
  .exact .inl (by rw[hr];simp[aB_,gT,hb,b6_])
  .exact .inr ⟨_,hr,dk',dv',pk',pv',rfl,h1',h2',by simp[aB_,gT,hb]⟩
theorem i8_{α:Type}{g:Nat->α->Option Bool}{p:Nat->α->Bool}(hg:∀i x,g i x=if p i x then none else some false)(l:List α)(k:Nat):(aB_ g k l).getD true=true↔∀i x,l[i]? = some x->p (k+i) x=true:=by
 cases hs:aB_ g k l with
 | none =>
  refine⟨λ_ i x hx => ?_,λ_=>rfl⟩;have:=scan_none.1 hs i x hx;rw[hg]at this;cases hp:p (k+i) x with
  | true=>rfl
  | false=>rw[hp]at this;cases this
 | some r =>
  obtain⟨i,x,hx,h1,_⟩:=mx_ hs;rw[hg]at h1;cases hp:p (k+i) x with
  | true=>rw[hp]at h1;cases h1
  | false =>
   rw[hp]at h1;obtain rfl:false=r:=by cases h1;rfl
   refine⟨λh=>(nomatch h),λh => ?_⟩;rw[h i x hx]at hp;cases hp
theorem hb_(t:Xy)(hl:t.Xz.length<=1024)(hm:∀n∈t.Xz,n.Xp<=9223372036854775807/\n.Xv.length<=9223372036854775807):∃b,c2_ t=some b/\(b=true↔OkT t.Xz t.Yk):=by
 unfold c2_;cases hc:((decide ((t.Xz.length:Int)<1))||(decide ((t.Xz.length:Int)>1024)))||(decide (t.Yk>1048576))with
 | true =>
  refine⟨false,ai_ rfl rfl,λh=>(nomatch h),λh => ?_⟩;obtain⟨h1,h2,h3,_⟩:=OkT_iff.1 h;simp only[Bool.or_eq_true,qDe]at hc;omega
 | false =>
  simp only[Bool.or_eq_false_iff,qDf]at hc;refine⟨(aB_ (gT t.Xz t.Yk) 0 t.Xz).getD true,ah_ rfl (ba_ (pg_ t hl hm) (λ_=>rfl) rfl),?_⟩;rw[i8_ (g:=gT t.Xz t.Yk) (p:=tB t.Xz t.Yk) (λ_ _=>rfl),OkT_iff];simp only[Nat.zero_add];have tk:∀i (n:Xq),tB t.Xz t.Yk i n=true↔ch_ n=true/\n.Id_<t.Yk/\(i=0\/(dB_ t.Xz i).Id_<n.Id_)/\okAt t.Xz i n=true:=λi n=>by
   unfold tB;simp only[qAn,Bool.or_eq_true,qDe,beq_iff_eq]
  have ok0:∀n,okAt t.Xz 0 n=true↔RootOK n:=λn=>by
   unfold okAt RootOK;simp only[beq_self_eq_true,cond_true,qAn,beq_iff_eq]
  have okS:∀i n,0<i->(okAt t.Xz i n=true↔dO_ n.Xv=true/\(∃p∈t.Xz.take i,p.Id_=n.Xw/\b7_ p.Xp 31=true)/\∀c∈(t.Xz.take i).drop 1,cq_ c n=false):=λi n h0=>by
   unfold okAt;rw[show(i==0)=false by simp;omega];simp only[cond_false,qAn,Bool.not_eq_true',List.any_eq_true,List.any_eq_false,plP_same,dirP,beq_iff_eq,Bool.not_eq_true];constructor
   .rintro⟨h1,⟨p,p1,p2,p3⟩,h3⟩;exact⟨h1,⟨p,p1,p2.symm,p3⟩,h3⟩
   .rintro⟨h1,⟨p,p1,p2,p3⟩,h3⟩;exact⟨h1,⟨p,p1,p2.symm,p3⟩,h3⟩
  constructor
  .intro h;refine⟨by omega,by omega,by omega,λn hn=>(ok0 n).1 ((tk 0 n).1 (h 0 n hn)).2.2.2,λn hn => ?_,λn hn => ?_,λi n h0 hn => ?_⟩
   .obtain⟨i,hi⟩:=List.mem_iff_getElem?.1 hn;exact((tk i n).1 (h i n hi)).1
   .obtain⟨i,hi⟩:=List.mem_iff_getElem?.1 hn;exact((tk i n).1 (h i n hi)).2.1
   .obtain⟨a,b,c,d⟩:=(tk i n).1 (h i n hn);exact⟨c.resolve_left (by omega),(okS i n h0).1 d⟩
  .rintro⟨h1,h2,h3,h4,h5,h6,h7⟩ i n hn;have hm:=List.mem_iff_getElem?.2 ⟨_,hn⟩;rcases Nat.eq_zero_or_pos i with rfl|h0
   .exact(tk 0 n).2 ⟨h5 n hm,h6 n hm,.inl rfl,(ok0 n).2 (h4 n hn)⟩
   .obtain⟨a,b⟩:=h7 i n h0 hn;exact(tk i n).2 ⟨h5 n hm,h6 n hm,.inr a,(okS i n h0).2 b⟩
def dirD(n c:Xq):Bool:=c.Id_==n.Xw&&decide (c.Xp>=2147483648)
theorem ref10_inner(t:Xy)(i:Nat)(hi:i<t.Xz.length)(hl:t.Xz.length<=1024) :
  aj_ (c6_ (i:Int) t) BIG (false,0)=some (bif((t.Xz.take i).drop 1).any (λc=>cq_ c t.Xz[i])then .ret false else .fall ((t.Xz.take i).any (dirD t.Xz[i]))):=by
 refine dx_ (body:=c6_ (i:Int) t) (J:=λj s b=>j<=i/\s=((t.Xz.take j).any (dirD t.Xz[i]),(j:Int))/\((t.Xz.take j).drop 1).any (λc=>cq_ c t.Xz[i])=false/\b=bif((t.Xz.take i).drop 1).any (λc=>cq_ c t.Xz[i])then .ret false else .fall ((t.Xz.take i).any (dirD t.Xz[i]))) i (by show i<18446744073709551616;omega) (λs b hJ => ?_) (λj s b hj hJ => ?_) ⟨Nat.zero_le _,rfl,by simp,rfl⟩
 .obtain⟨_,rfl,h2,rfl⟩:=hJ;rw[h2];unfold c6_;simp only;rw[bx_];rfl
 .obtain⟨_,rfl,h2,rfl⟩:=hJ;have hjl:j<t.Xz.length:=by omega
  have htk:t.Xz.take (j+1)=t.Xz.take j++[t.Xz[j]]:=fK_ hjl;have hany:(t.Xz.take (j+1)).any (dirD t.Xz[i])=((t.Xz.take j).any (dirD t.Xz[i])||dirD t.Xz[i] t.Xz[j]):=by rw[htk,List.any_append];simp
  have hbody:c6_ (i:Int) t ((t.Xz.take j).any (dirD t.Xz[i]),(j:Int))=bif(decide (0<j)&&cq_ t.Xz[j] t.Xz[i])then some (.done (.ret false))else some (.next ((t.Xz.take (j+1)).any (dirD t.Xz[i]),((j+1:Nat):Int))):=by
   unfold c6_;simp only;rw[bi_ hj,as_ hjl,as_ hi,aw_ (by omega),hany];have e0:decide ((j:Int)>0)=decide (0<j):=by rw[Bool.eq_iff_iff];simp
   rw[e0];unfold dirD cq_ b9_;simp only[cond_true,qBs];cases(t.Xz.take j).any λc=>c.Id_==t.Xz[i].Xw&&decide (c.Xp>=2147483648)<;>cases t.Xz[j].Id_==t.Xz[i].Xw<;>cases decide (t.Xz[j].Xp>=2147483648)<;>cases decide (0<j)<;>cases t.Xz[j].Xw==t.Xz[i].Xw<;>cases t.Xz[j].Xv==t.Xz[i].Xv<;>rfl
  cases hd:decide (0<j)&&cq_ t.Xz[j] t.Xz[i]with
  | true =>
   rw[hd]at hbody;refine .inl ?_;rw[hbody];rw[qAn,qDe]at hd;have:((t.Xz.take i).drop 1).any (λc=>cq_ c t.Xz[i])=true:=List.any_eq_true.2 ⟨_,mem_take_drop.2 ⟨j,hd.1,hj,List.getElem?_eq_getElem hjl⟩,hd.2⟩;rw[this];rfl
  | false =>
   rw[hd]at hbody;refine .inr ⟨_,hbody,by omega,rfl,?_,rfl⟩;rcases Nat.eq_zero_or_pos j with rfl|h0
   .rw[htk];simp
   .rw[kt_ hjl h0,List.any_append,h2];rw[show decide (0<j)=true by simpa using h0,Bool.true_and]at hd;simpa using hd
def rB(l:List Xq)(i:Nat)(n:Xq):Bool:=decide ((dB_ l i).Id_<n.Id_)&&(decide (n.Xw<n.Id_)&&(dO_ n.Xv&&(ch_ n&&(!(((l.take i).drop 1).any λc=>cq_ c n)&&(l.take i).any (dirD n)))))
def gR(l:List Xq)(i:Nat)(n:Xq):Option Bool:=if rB l i n then none else some false
theorem n0_(t:Xy)(hl:t.Xz.length<=1024)(h1:1<=t.Xz.length)(hm:∀n∈t.Xz,n.Xp<=9223372036854775807/\n.Xv.length<=9223372036854775807) :
  aj_ (dH_ t) BIG 1=some (b6_ (aB_ (gR t.Xz) 1 (t.Xz.drop 1))):=by
 refine loop_scan1 t.Xz (gR t.Xz) 1 h1 (bR_ (by omega)) (λi hi h0 => ?_) ?_
 .have hmem:=List.getElem_mem hi;obtain⟨hm1,hm2⟩:=hm _ hmem;unfold dH_;have hp:ak_ t.Xz (w64 ((i:Int)-1))=some (dB_ t.Xz i):=fV_ zeroN h0 hi (by omega);rw[bi_ hi,as_ hi,hp,aw_ (by omega)];simp only[cond_true,qBs];rw[ref03_valid _ hm2,jC_ _ hm1];simp only[qBs];rw[ref10_inner t i hi hl];have e1:decide (t.Xz[i].Id_<=(dB_ t.Xz i).Id_) = !(decide ((dB_ t.Xz i).Id_<t.Xz[i].Id_)):=by rw[Bool.eq_iff_iff];simp
  have e2:decide (t.Xz[i].Xw>=t.Xz[i].Id_) = !(decide (t.Xz[i].Xw<t.Xz[i].Id_)):=by rw[Bool.eq_iff_iff];simp
  rw[e1,e2];unfold gR rB;cases decide ((dB_ t.Xz i).Id_<t.Xz[i].Id_)<;>cases decide (t.Xz[i].Xw<t.Xz[i].Id_)<;>cases dO_ t.Xz[i].Xv<;>cases ch_ t.Xz[i]<;>try rfl
  cases((t.Xz.take i).drop 1).any λc=>cq_ c t.Xz[i]<;>cases(t.Xz.take i).any (dirD t.Xz[i])<;>rfl
 .unfold dH_;rw[bx_];rfl
theorem last_lt{l:List Xq}(hs:l.Pairwise λa b=>a.Id_<b.Id_){x:Xq}(hx:l[l.length-1]? = some x)(next:Int):(∀n∈l,n.Id_<next)↔x.Id_<next:=by
 constructor
 .exact λh=>h x (List.mem_iff_getElem?.2 ⟨_,hx⟩)
 .intro h n hn;obtain⟨i,hi⟩:=List.mem_iff_getElem?.1 hn;obtain⟨h1,e1⟩:=List.getElem?_eq_some_iff.1 hi;obtain⟨h2,e2⟩:=List.getElem?_eq_some_iff.1 hx;rcases Nat.lt_or_ge i (l.length-1)with hlt|hge
  .have:=List.pairwise_iff_getElem.1 hs i (l.length-1) h1 h2 hlt;rw[e1,e2]at this;omega
  .obtain rfl:i=l.length-1:=by omega
   rw[hi]at hx;cases hx;exact h
def rootD(r:Xq):Bool:=r.Id_==1&&(r.Xw==1&&(r.Xv==[47]&&(decide (2147483648<=r.Xp)&&ch_ r)))
theorem gA_(t:Xy)(hl:t.Xz.length<=1024)(hm:∀n∈t.Xz,n.Xp<=9223372036854775807/\n.Xv.length<=9223372036854775807):∃b,c5_ t=some b/\(b=true↔OkT t.Xz t.Yk):=by
 rcases Nat.eq_zero_or_pos t.Xz.length with h0|h0
 .refine⟨false,?_,λh=>(nomatch h),λh => ?_⟩
  .unfold c5_;rw[show decide ((t.Xz.length:Int)<1)=true by simp;omega];rfl
  .have:=(OkT_iff.1 h).1;omega
 .obtain⟨r,hr⟩:∃r,t.Xz[0]? = some r:=⟨_,List.getElem?_eq_getElem h0⟩;obtain⟨z,hz⟩:∃z,t.Xz[t.Xz.length-1]? = some z:=⟨_,List.getElem?_eq_getElem (by omega)⟩;have gr:ak_ t.Xz 0=some r:=(eC_ t.Xz 0).trans hr;have gz:ak_ t.Xz (w64 ((t.Xz.length:Int)-1))=some z:=by rw[w_pred h0 (by omega),eC_];exact hz
  have hrm:=List.mem_iff_getElem?.2 ⟨_,hr⟩;have hlen:((decide ((t.Xz.length:Int)<1))||(decide ((t.Xz.length:Int)>1024)))=false:=by simp;omega
  have ev:c5_ t=bif rootD r then(bif((decide (t.Yk<=z.Id_))||(decide (t.Yk>1048576)))then some false else some ((aB_ (gR t.Xz) 1 (t.Xz.drop 1)).getD true))else some false:=by
   unfold c5_;rw[hlen,gr,gz];have e1:decide (r.Xp<2147483648) = !(decide (2147483648<=r.Xp)):=by rw[Bool.eq_iff_iff];simp
   simp only[cond_false,qBs];rw[jC_ _ (hm r hrm).1,e1];simp only[qBs];unfold rootD bne;cases r.Id_==1<;>cases r.Xw==1<;>cases r.Xv==[47]<;>cases decide (2147483648<=r.Xp)<;>cases ch_ r<;>try rfl
   cases hN:(decide (t.Yk<=z.Id_))||(decide (t.Yk>1048576))with
   | true=>rfl
   | false =>
    show(Option.bind (aj_ (dH_ t) BIG 1) λ(wo3:Out Unit Bool)=>match wo3 with | .ret r3=>some r3 | .fall _=>some true)=some ((aB_ (gR t.Xz) 1 (t.Xz.drop 1)).getD true);exact ba_ (n0_ t hl h0 hm) (λ_=>rfl) rfl
  have hroot:rootD r=true↔RootOK r/\ch_ r=true:=by
   unfold rootD RootOK;simp only[qAn,beq_iff_eq,qDe];constructor
   .rintro⟨h1,h2,h3,h4,h5⟩;have:=i7_ (ft_ h5);exact⟨⟨h1,h2,h3,by rw[←this];simpa using h4⟩,h5⟩
   .rintro⟨⟨h1,h2,h3,h4⟩,h5⟩;have:=i7_ (ft_ h5);rw[h4]at this;exact⟨h1,h2,h3,by simpa using this,h5⟩
  rw[OkT_iff];cases hR:rootD r with
  | false =>
   refine⟨false,by rw[ev,hR];rfl,λh=>(nomatch h),λ⟨_,_,_,h4,h5,_⟩ => ?_⟩;rw[hroot.2 ⟨h4 r hr,h5 r hrm⟩]at hR;cases hR
  | true =>
   obtain⟨hr1,hr2⟩:=hroot.1 hR;cases hN:(decide (t.Yk<=z.Id_))||(decide (t.Yk>1048576))with
   | true =>
    refine⟨false,by rw[ev,hR,hN];rfl,λh=>(nomatch h),λ⟨_,_,h3,_,_,h6,_⟩ => ?_⟩;have:=h6 z (List.mem_iff_getElem?.2 ⟨_,hz⟩);simp only[Bool.or_eq_true,qDe]at hN;omega
   | false =>
    refine⟨(aB_ (gR t.Xz) 1 (t.Xz.drop 1)).getD true,by rw[ev,hR,hN];rfl,?_⟩;simp only[Bool.or_eq_false_iff,qDf]at hN;rw[i8_ (g:=gR t.Xz) (p:=rB t.Xz) (λ_ _=>rfl)];have rk:∀i (n:Xq),rB t.Xz i n=true↔(dB_ t.Xz i).Id_<n.Id_/\n.Xw<n.Id_/\dO_ n.Xv=true/\ch_ n=true/\(∀c∈(t.Xz.take i).drop 1,cq_ c n=false)/\∃p∈t.Xz.take i,p.Id_=n.Xw/\2147483648<=p.Xp:=λi n=>by
     unfold rB;simp only[qAn,qDe,Bool.not_eq_true',List.any_eq_true,List.any_eq_false,dirD,beq_iff_eq,Bool.not_eq_true,ge_iff_le]
    have nth:∀i n,(t.Xz.drop 1)[i]? = some n↔t.Xz[1+i]? = some n:=λi n=>by rw[List.getElem?_drop]
    constructor
    .intro h;have h':∀i n,0<i->t.Xz[i]? = some n->rB t.Xz i n=true:=λi n h0 hn=>by
      have:=h (i-1) n ((nth _ _).2 (by rw[show 1+(i-1)=i by omega];exact hn))
      rwa [show 1+(i-1)=i by omega]at this
     have flds:∀n∈t.Xz,ch_ n=true:=λn hn=>by
      obtain⟨i,hi⟩:=List.mem_iff_getElem?.1 hn;rcases Nat.eq_zero_or_pos i with rfl|h0
      .rw[hr]at hi;cases hi;exact hr2
      .exact((rk i n).1 (h' i n h0 hi)).2.2.2.1
     refine⟨h0,by omega,by omega,λn hn=>by rw[hr]at hn;cases hn;exact hr1,flds,?_,λi n h0 hn => ?_⟩
     .exact(last_lt (srt_iff.2 λi n h0 hn=>((rk i n).1 (h' i n h0 hn)).1) hz _).2 (by omega)
     .obtain⟨a,b,c,d,e,p,p1,p2,p3⟩:=(rk i n).1 (h' i n h0 hn);refine⟨a,c,⟨p,p1,p2,?_⟩,e⟩;rw[←i7_ (ft_ (flds p (List.mem_of_mem_take p1)))];simpa using p3
    .intro h i n hn;have ht:=OkT_iff.2 h;obtain⟨_,_,_,_,h5,_,h7⟩:=h;have hn':=(nth _ _).1 hn;obtain⟨a,b,⟨p,p1,p2,p3⟩,d⟩:=h7 (1+i) n (by omega) hn';refine(rk (1+i) n).2 ⟨a,?_,b,h5 n (List.mem_iff_getElem?.2 ⟨_,hn'⟩),d,p,p1,p2,?_⟩
     .obtain⟨j,j1,j2⟩:=mem_take.1 p1;rw[←p2];obtain⟨q1,e1⟩:=List.getElem?_eq_some_iff.1 j2;obtain⟨q2,e2⟩:=List.getElem?_eq_some_iff.1 hn';have:=List.pairwise_iff_getElem.1 ht.srt j (1+i) q1 q2 j1
      rwa [e1,e2]at this
     .rw[←i7_ (ft_ (h5 p (List.mem_of_mem_take p1)))]at p3;simpa using p3
theorem clone_texts{xs:List Str}(h:xs.length<=1000):aX_ xs=some xs:=hP_ (n:=16) (by omega) (by omega)
def okU(i:Nat)(b:UInt8):Bool:=(decide (97<=b.toNat)&&decide (b.toNat<=122))||(!(i==0)&&((decide (48<=b.toNat)&&decide (b.toNat<=57))||b.toNat==45||b.toNat==95))
def gU(i:Nat)(b:UInt8):Option Bool:=if okU i b then none else some false
def vU(s:Str):Bool:=decide (1<=s.length)&&(decide (s.length<=32)&&((aB_ gU 0 s).getD true))
theorem gU_if(i:Nat)(b:UInt8){c:Bool}(h:c = !(okU i b)):(bif c then some (Step.done (Out.ret false))else some (Step.next ((i+1:Nat):Int)):Option (Step Int (Out Unit Bool)))=some (stepO (gU i b) i):=by
 subst h;unfold gU;cases okU i b<;>rfl
theorem okU_a(i:Nat)(b:UInt8):((!((decide ((b.toNat:Int)>=97))&&(decide ((b.toNat:Int)<=122))))&&(((i:Int)==0)||(!((((decide ((b.toNat:Int)>=48))&&(decide ((b.toNat:Int)<=57)))||((b.toNat:Int)==45))||((b.toNat:Int)==95))))) = !(okU i b):=by
 unfold okU;rw[Bool.eq_iff_iff];simp only[qAn,Bool.or_eq_true,Bool.not_eq_true',Bool.and_eq_false_iff,Bool.or_eq_false_iff,qDf,beq_iff_eq,beq_eq_false_iff_ne,Bool.not_eq_false'];omega
theorem pi_(s:Str)(h:s.length<=9223372036854775807):aj_ (fz_ s) BIG 0=some (b6_ (aB_ gU 0 s)):=by
 refine aZ_ s gU (bR_ h) (λi hi => ?_) ?_
 .unfold fz_;rw[g9_ hi,bi_ hi,aw_ (by omega)];simp only[cond_true,qBs];exact gU_if i s[i] (okU_a i s[i])
 .unfold fz_;rw[bx_];rfl
theorem pj_(s:Str)(h:s.length<=9223372036854775807):dV_ s=some (vU s):=by
 unfold dV_ vU;have e1:(s==[]) = !decide (1<=s.length):=by cases s with|nil=>rfl|cons a l=>rw[Bool.eq_iff_iff];simp
 have e2:decide ((s.length:Int)>32) = !decide (s.length<=32):=by rw[Bool.eq_iff_iff];simp only[qDe,Bool.not_eq_true',qDf];omega
 rw[e1,e2];cases decide (1<=s.length)with
 | false=>rfl
 | true =>
  cases decide (s.length<=32)with
  | false=>rfl
  | true =>
   refine ah_ rfl ?_;exact ba_ (pi_ s h) (λ_=>rfl) rfl
theorem n1_(s:Str)(h:s.length<=9223372036854775807):aj_ (eM_ s) BIG 0=some (b6_ (aB_ gU 0 s)):=by
 refine aZ_ s gU (bR_ h) (λi hi => ?_) ?_
 .unfold eM_;rw[g9_ hi,bi_ hi,aw_ (by omega)];simp only[cond_true,qBs];refine gU_if i s[i] ?_;rw[←okU_a];rw[Bool.eq_iff_iff];simp only[qAn,Bool.or_eq_true,Bool.not_eq_true',Bool.and_eq_false_iff,Bool.or_eq_false_iff,qDf,beq_iff_eq,beq_eq_false_iff_ne,bne_iff_ne,ne_eq]
 .unfold eM_;rw[bx_];rfl
theorem nu_(s:Str)(h:s.length<=9223372036854775807):fm_ s=some (vU s):=by
 unfold fm_ vU;have e1:decide ((s.length:Int)<1) = !decide (1<=s.length):=by rw[Bool.eq_iff_iff];simp only[qDe,Bool.not_eq_true',qDf];omega
 have e2:decide ((s.length:Int)>32) = !decide (s.length<=32):=by rw[Bool.eq_iff_iff];simp only[qDe,Bool.not_eq_true',qDf];omega
 rw[e1,e2];cases decide (1<=s.length)with
 | false=>rfl
 | true =>
  cases decide (s.length<=32)with
  | false=>rfl
  | true =>
   refine ah_ rfl ?_;exact ba_ (n1_ s h) (λ_=>rfl) rfl
abbrev cU_(name:Str)(u:Xf):Bool:=u.Xv==name
def findU(l:List Xf)(name:Str):Xf×Bool:=match l.find? (cU_ name)with|some u=>(u,true)|none=>(Xf.mk [] [] [],false)
theorem hz_(l:List Xf)(name:Str)(h:l.length<=1000):fS_ l name=some (at_ (cU_ name) l):=by
 rw[←ha_];refine ba_ (aZ_ l _ (bR_ (by omega)) (λi hi => ?_) ?_) (λ_=>rfl) rfl
 .unfold jR_;rw[as_ hi,bi_ hi,aw_ (by omega)];simp only[cond_true,qBs];unfold cU_;cases l[i].Xv==name<;>rfl
 .unfold jR_;rw[bx_];rfl
def smallM(l:List Xf):Prop:=∀u∈l,u.Yw.length<=1000
def fitM(l:List Xf):Prop:=∀u∈l,u.Yw.length<=9223372036854775807
theorem smallM.fit{l:List Xf}(h:smallM l):fitM l:=λu hu=>Nat.le_trans (h u hu) (by decide)
theorem rn_(l:List Xf)(name:Str)(h:l.length<=1000):le_ l name=some (findU l name):=by
 unfold le_ findU;refine aa_ (hz_ l name h) ?_;rw[ks_];cases hf:l.find? (cU_ name)with
 | none=>rfl
 | some u =>
  refine ah_ rfl ?_;refine aa_ ((at_get (cU_ name) l (by rw[hf];rfl)).trans hf) rfl
theorem findU_small(l:List Xf)(name:Str)(hm:smallM l):(findU l name).1.Yw.length<=1000:=by
 unfold findU;cases hf:l.find? (cU_ name)with
 | none=>exact Nat.zero_le _
 | some u=>exact hm u (List.mem_of_find?_eq_some hf)
def hasM(l:List Str)(s:Str):Bool:=l.any λm=>m==s
def memberU(l:List Xf)(user group:Str):Bool:=user==group||hasM (findU l group).1.Yw user
theorem index_texts(l:List Str)(s:Str)(h:l.length<=1000):c1_ l s=some (at_ (λm=>m==s) l):=by
 rw[←ha_];refine ba_ (aZ_ l _ (bR_ (by omega)) (λi hi => ?_) ?_) (λ_=>rfl) rfl
 .unfold cw_;rw[as_ hi,bi_ hi,aw_ (by omega)];simp only[cond_true,qBs];have e:(s==l[i])=(l[i]==s):=by rw[Bool.eq_iff_iff,beq_iff_eq,beq_iff_eq];exact⟨Eq.symm,Eq.symm⟩
  rw[e];cases l[i]==s<;>rfl
 .unfold cw_;rw[bx_];rfl
theorem ref05_member_eq(l:List Xf)(user group:Str)(h:l.length<=1000)(hm:smallM l):mu_ l user group=some (memberU l user group):=by
 unfold mu_ memberU;cases user==group with
 | true=>rfl
 | false =>
  refine ah_ rfl ?_;refine aa_ (rn_ l group h) ?_;have hs:=findU_small l group hm;generalize findU l group=q at hs;have e:(false||hasM q.1.Yw user)=((q.1.Yw.find? λm=>m==user).map λ_=>true).getD false:=by
   unfold hasM;rw[Bool.false_or,Bool.eq_iff_iff,List.any_eq_true];cases hf:q.1.Yw.find? λm=>m==user with
   | none =>
    rw[List.find?_eq_none]at hf;simp only[Option.map_none,Option.getD_none];exact⟨λ⟨x,h1,h2⟩=>absurd h2 (hf x h1),λh=>nomatch h⟩
   | some x=>exact⟨λ_=>rfl,λ_=>⟨x,List.mem_of_find?_eq_some hf,by simpa using List.find?_some hf⟩⟩
  rw[e,←mw_ _ _ 0];refine ba_ (aZ_ _ _ (bR_ (by omega)) (λi hi => ?_) ?_) (λ_=>rfl) rfl
  .unfold gy_;rw[as_ hi,bi_ hi,aw_ (by omega)];simp only[cond_true,qBs];cases q.1.Yw[i]==user<;>rfl
  .unfold gy_;rw[bx_];rfl
theorem eqS_iff(x y:Str):eqS x y=true↔x=y:=beq_iff_eq
def Cnt(ks:List Str)(vs:List Int)(l:List Xf):Prop:=ks.length=vs.length/\∀n,au_ eqS ks vs n 0=((l.countP (cU_ n):Nat):Int)
theorem Cnt.put{ks:List Str}{vs:List Int}{l:List Xf}{u:Xf}(h:Cnt ks vs l)(hl:l.length<=1000):Cnt (aD_ eqS ks u.Xv) (aN_ eqS ks vs u.Xv (w64 (au_ eqS ks vs u.Xv 0+1))) (l++[u]):=by
 refine⟨lh_ h.1,λn => ?_⟩;have hc:=List.countP_le_length (p:=cU_ u.Xv) (l:=l);rw[li_ eqS_iff h.1,h.2 u.Xv,h.2 n,aw_ (by omega),List.countP_append];have e:List.countP (cU_ n) [u]=if u.Xv==n then 1 else 0:=by simp[List.countP_cons,cU_]
 rw[e];have e2:eqS n u.Xv=(u.Xv==n):=by unfold eqS;rw[Bool.eq_iff_iff,beq_iff_eq,beq_iff_eq];exact⟨Eq.symm,Eq.symm⟩
 rw[e2];cases hn:u.Xv==n with
 | true=>obtain rfl:=beq_iff_eq.1 hn;rfl
 | false=>rfl
def cQ_(l:List Xf)(n:Str):Bool:=l.any (cU_ n)
def gM(l:List Xf)(ms:List Str)(k:Nat)(m:Str):Option Int:=if !(cQ_ l m)||(decide (0<k) && !(Op.bytesLess (ms.getD (k-1) []) m))then some 26 else none
def memE(l:List Xf)(ms:List Str):Int:=(aB_ (gM l ms) 0 ms).getD 0
def gC(l:List Xf)(i:Nat)(u:Xf):Option Int:=if !(vU u.Xv)then some 25 else if(l.take i).any (cU_ u.Xv)then some 7 else if !(u.Yc==[]) && !(cQ_ l u.Yc)then some 26 else if memE l u.Yw != 0 then some (memE l u.Yw)else none
def hR_(l:List Xf):Int:=if l.length>64 then 22 else(aB_ (gC l) 0 l).getD 0
def ku_(l:List Xf):Prop:=∀u∈l,u.Xv.length<=9223372036854775807
theorem any_find{α:Type}(p:α->Bool)(l:List α):l.any p = !((l.find? p).isNone):=by
 rw[Bool.eq_iff_iff,List.any_eq_true];cases hf:l.find? p with
 | none =>
  rw[List.find?_eq_none]at hf;exact⟨λ⟨x,h1,h2⟩=>absurd h2 (hf x h1),λh=>nomatch h⟩
 | some x=>exact⟨λ_=>rfl,λ_=>⟨x,List.mem_of_find?_eq_some hf,by simpa using List.find?_some hf⟩⟩
theorem at_absent(l:List Xf)(n:Str):decide (at_ (cU_ n) l<0) = !(cQ_ l n):=by
 unfold cQ_;rw[ks_,any_find,Bool.not_not]
theorem at_before(l:List Xf)(i:Nat)(hi:i<l.length):decide (at_ (cU_ l[i].Xv) l<(i:Int))=(l.take i).any (cU_ l[i].Xv):=by
 rw[Bool.eq_iff_iff,qDe,List.any_eq_true];rcases kr_ (cU_ l[i].Xv) l with⟨h1,_⟩|⟨j,x,h1,h2,h3,h4,h5⟩
 .rw[List.find?_eq_none]at h1;exact absurd (beq_self_eq_true l[i].Xv) (h1 _ (List.getElem_mem hi))
 .rw[h2];constructor
  .intro h;have hj:j<i:=by omega
   refine⟨x,?_,h4⟩;rw[List.mem_take_iff_getElem];have hlt:=(List.getElem?_eq_some_iff.1 h3).1;exact⟨j,by omega,(List.getElem?_eq_some_iff.1 h3).2⟩
  .rintro⟨y,hy,hp⟩;rw[List.mem_take_iff_getElem]at hy;obtain⟨q,hq,rfl⟩:=hy;rcases Nat.lt_or_ge q j with h|h
   .have:=h5 q _ h (List.getElem?_eq_getElem (by omega));rw[hp]at this;cases this
   .omega
theorem ro_(l:List Xf)(u:Xf)(h:l.length<=1000)(hu:u.Yw.length<=9223372036854775807):aj_ (dA_ u l) BIG 0=some (b6_ (aB_ (gM l u.Yw) 0 u.Yw)):=by
 refine aZ_ _ _ (bR_ (by omega)) (λi hi => ?_) ?_
 .unfold dA_;rw[as_ hi,bi_ hi,aw_ (by omega)];simp only[cond_true,qBs];refine aa_ (hz_ l _ h) ?_;rw[at_absent];unfold gM;cases hp:cQ_ l u.Yw[i]with
  | false=>rfl
  | true =>
   rcases Nat.eq_zero_or_pos i with rfl|h0
   .rfl
   .have e:decide ((i:Int)>0)=true:=by simpa using h0
    have e2:decide (0<i)=true:=by simpa using h0
    rw[e,e2,fV_ [] h0 hi (by omega)];simp only[Bool.not_true,cond_false,cond_true,qBs,Bool.false_or,Bool.true_and];cases Op.bytesLess (u.Yw.getD (i-1) []) u.Yw[i]<;>rfl
 .unfold dA_;rw[bx_];rfl
theorem ref05_one(l:List Xf)(i:Nat)(hi:i<l.length)(h:l.length<=1000)(hm:fitM l)(hs:ku_ l):eN_ l (i:Int)=some ((gC l i l[i]).getD 0):=by
 unfold eN_ gC;rw[as_ hi];refine aa_ rfl (aa_ (nu_ _ (hs _ (List.getElem_mem hi))) ?_);cases hv:vU l[i].Xv with
 | false=>rfl
 | true =>
  refine ah_ rfl (aa_ (hz_ l _ h) ?_);rw[at_before l i hi];cases hb:(l.take i).any (cU_ l[i].Xv)with
  | true=>rfl
  | false =>
   refine ah_ rfl ?_;have e:Option.bind (bif(!(l[i].Yc==[]))then Option.bind (fS_ l l[i].Yc) λ(y4:Int)=>some (decide (y4<0))else some false)=Option.bind (some (!(l[i].Yc==[]) && !(cQ_ l l[i].Yc)):Option Bool) (β:=Int):=by
    congr 1
    cases l[i].Yc==[]with
    | true=>rfl
    | false =>
     refine ai_ rfl (aa_ (hz_ l _ h) ?_);rw[at_absent];rfl
   rw[e];refine aa_ rfl ?_;cases hl : !(l[i].Yc==[]) && !(cQ_ l l[i].Yc)with
   | true=>rfl
   | false =>
    refine ah_ rfl ?_;refine(ba_ (ro_ l l[i] h (hm _ (List.getElem_mem hi))) (λ_=>rfl) rfl).trans ?_;show some (memE l l[i].Yw)=_;cases hz:memE l l[i].Yw != 0 with
    | true=>simp
    | false=>simp;simpa using hz
theorem gC_ne(l:List Xf)(i:Nat)(u:Xf):(if(gC l i u).getD 0 != 0 then some ((gC l i u).getD 0)else none)=gC l i u:=by
 unfold gC;split
 .rfl
 .split
  .rfl
  .split
   .rfl
   .split
    .rename_i h;simpa using h
    .rfl
theorem qe_(l:List Xf)(h:l.length<=1000)(hm:fitM l)(hs:ku_ l):hm_ l=some (hR_ l):=by
 unfold hm_ hR_;by_cases hl:l.length>64
 .rw[if_pos hl];exact ai_ (by simp;omega) rfl
 .rw[if_neg hl];refine ah_ (by simp;omega) ?_;refine ba_ (aZ_ l _ (bR_ (by omega)) (λi hi => ?_) ?_) (λ_=>rfl) rfl
  .unfold g1_;rw[bi_ hi,aw_ (by omega)];refine ai_ rfl (aa_ (ref05_one l i hi h hm hs) ?_);rw[←gC_ne l i l[i]];cases hz:(gC l i l[i]).getD 0 != 0 with
   | true=>simp[hz,stepO]
   | false=>simp[stepO]
  .unfold g1_;rw[bx_];rfl
theorem nd_(l:List Xf)(ms:List Str)(ks:List Str)(vs:List Int)(hc:Cnt ks vs l)(hu:ms.length<=9223372036854775807):gr_ (ks,vs) ms=some (memE l ms,ks,vs):=by
 have hz:∀n,(au_ eqS ks vs n 0==0) = !(cQ_ l n):=λn=>by
  rw[hc.2 n];unfold cQ_;rw[Bool.eq_iff_iff,beq_iff_eq,Bool.not_eq_true',List.any_eq_false];have:((l.countP (cU_ n):Nat):Int)=0↔l.countP (cU_ n)=0:=by omega
  rw[this,List.countP_eq_zero]
 have hl:aj_ (ej_ ms (ks,vs)) BIG 0=some (b6_ ((aB_ (gM l ms) 0 ms).map λe=>(e,ks,vs))):=by
  have hmap:∀(k:Nat) (q:List Str),(aB_ (gM l ms) k q).map (λe=>(e,ks,vs))=aB_ (λi m=>(gM l ms i m).map λe=>(e,ks,vs)) k q:=by
   intro k q
   induction q generalizing k with
   | nil=>rfl
   | cons a q ih =>
    simp only[aB_];cases gM l ms k a with
    | some r=>rfl
    | none=>exact ih (k+1)
  rw[hmap];refine aZ_ _ _ (bR_ (by omega)) (λi hi => ?_) ?_
  .unfold ej_;rw[as_ hi,bi_ hi,aw_ (by omega)];simp only[cond_true,qBs];rw[hz];unfold gM;cases hp:cQ_ l ms[i]with
   | false=>rfl
   | true =>
    rcases Nat.eq_zero_or_pos i with rfl|h0
    .rfl
    .have e:decide ((i:Int)>0)=true:=by simpa using h0
     have e2:decide (0<i)=true:=by simpa using h0
     rw[e,e2,fV_ [] h0 hi (by omega)];simp only[Bool.not_true,cond_false,cond_true,qBs,Bool.false_or,Bool.true_and];cases Op.bytesLess (ms.getD (i-1) []) ms[i]<;>rfl
  .unfold ej_;rw[bx_];rfl
 unfold gr_ memE;rw[hl];cases aB_ (gM l ms) 0 ms<;>rfl
theorem n3_(l:List Xf)(h:l.length<=1000):∃ks vs,aj_ (fA_ l) BIG (0,([]:List Str),([]:List Int))=some (ks,vs)/\Cnt ks vs l:=by
 let f:List Str×List Int->Nat->Xf->List Str×List Int:=λs _ u=>(aD_ eqS s.1 u.Xv,aN_ eqS s.1 s.2 u.Xv (w64 (au_ eqS s.1 s.2 u.Xv 0+1)))
 have key:∀(i:Nat) (q:List Xf) (s:List Str×List Int) (p:List Xf),p.length+q.length<=1000->Cnt s.1 s.2 p->Cnt (fJ_ f s i q).1 (fJ_ f s i q).2 (p++q):=by
  intro i q
  induction q generalizing i with
  | nil=>intro s p _ hc;simpa[fJ_]using hc
  | cons u q ih =>
   intro s p hl hc;simp only[qLc]at hl;have:=ih (i+1) (f s i u) (p++[u]) (by simp;omega) (hc.put (by omega));simpa[fJ_]using this
 refine⟨(fJ_ f ([],[]) 0 l).1,(fJ_ f ([],[]) 0 l).2,?_,by simpa using key 0 l ([],[]) [] (by simpa using h) ⟨rfl,λn=>rfl⟩⟩;refine pd_ (τ:=Int×List Str×List Int) l f (λi s=>((i:Int),s.1,s.2)) (λ_ _=>True) (λs=>(s.1,s.2)) ([],[]) (bR_ (by omega)) trivial (λi s hi _=>⟨?_,trivial⟩) (λs _ => ?_)
 .unfold fA_;simp only;rw[bi_ hi,as_ hi,aw_ (by omega)];rfl
 .unfold fA_;simp only;rw[bx_];rfl
theorem rp_(l:List Xf)(h:l.length<=1000)(hm:fitM l)(hs:ku_ l):gs_ l=some (hR_ l):=by
 unfold gs_ hR_;by_cases hl:l.length>64
 .rw[if_pos hl];exact ai_ (by simp;omega) rfl
 .rw [if_neg hl];refine ah_ (by simp;omega) ?_;obtain⟨ka,va,h1,hca⟩:=n3_ l h;refine aa_ h1 ?_;refine ba_ (o:=aB_ (gC l) 0 l) ?_ (λ_=>rfl) rfl;refine dx_ (body:=d0_ l) (J:=λi t b=>∃ks vs,t=((i:Int),ka,va,ks,vs)/\Cnt ks vs (l.take i)/\b=b6_ (aB_ (gC l) i (l.drop i))) l.length (bR_ (by omega)) (λt b hJ => ?_) (λi t b hi hJ => ?_) ⟨[],[],rfl,⟨rfl,λn=>by simp[au_]⟩,by simp⟩
  .obtain⟨ks,vs,rfl,_,rfl⟩:=hJ;unfold d0_;simp only;rw[bx_];simp[aB_,b6_]
  .obtain⟨ks,vs,rfl,hc,rfl⟩:=hJ;have hmem:=List.getElem_mem hi;have hput:=hc.put (u:=l[i]) (by rw[List.length_take];omega);rw[←fK_ hi]at hput;rw[List.drop_eq_getElem_cons hi];have hpos:decide (au_ eqS ks vs l[i].Xv 0>0)=(l.take i).any (cU_ l[i].Xv):=by
    rw[hc.2 l[i].Xv,Bool.eq_iff_iff,qDe,List.any_eq_true];have:((List.countP (cU_ l[i].Xv) (l.take i):Nat):Int)>0↔0<List.countP (cU_ l[i].Xv) (l.take i):=by omega
    rw[this,List.countP_pos_iff]
   have hlead:Option.bind (bif(!(l[i].Yc==[]))then some ((au_ eqS ka va l[i].Yc 0)==0)else some false)=Option.bind (some (!(l[i].Yc==[]) && !(cQ_ l l[i].Yc)):Option Bool) (β:=Step (Int×(List Str)×(List Int)×(List Str)×(List Int)) (Out Unit Int)):=by
    congr 1
    cases l[i].Yc==[]with
    | true=>rfl
    | false =>
     have:(au_ eqS ka va l[i].Yc 0==0) = !(cQ_ l l[i].Yc):=by
      rw[hca.2 l[i].Yc];unfold cQ_;rw[Bool.eq_iff_iff,beq_iff_eq,Bool.not_eq_true',List.any_eq_false];have:((l.countP (cU_ l[i].Yc):Nat):Int)=0↔l.countP (cU_ l[i].Yc)=0:=by omega
      rw[this,List.countP_eq_zero]
     rw[this];rfl
   have hbody:d0_ l ((i:Int),ka,va,ks,vs)=some (match gC l i l[i]with|some r => .done (.ret r)|none => .next (((i+1:Nat):Int),ka,va,aD_ eqS ks l[i].Xv,aN_ eqS ks vs l[i].Xv (w64 (au_ eqS ks vs l[i].Xv 0+1)))):=by
    unfold d0_ gC;simp only;rw[bi_ hi,as_ hi];refine ai_ rfl (aa_ rfl (aa_ (pj_ _ (hs _ hmem)) ?_));cases vU l[i].Xv with
    | false=>rfl
    | true =>
     refine ah_ rfl ?_;rw[hpos];cases(l.take i).any (cU_ l[i].Xv)with
     | true=>rfl
     | false =>
      refine ah_ rfl ?_;rw[hlead];refine aa_ rfl ?_;cases !(l[i].Yc==[]) && !(cQ_ l l[i].Yc)with
      | true=>rfl
      | false =>
       refine ah_ rfl (aa_ (nd_ l _ ka va hca (hm _ hmem)) ?_);simp only;cases hz:memE l l[i].Yw != 0 with
       | true=>simp
       | false=>simp only[cond_false];rw[aw_ (by omega)];rfl
   cases hg:gC l i l[i]with
   | some r =>
    rw[hg]at hbody;exact .inl (by rw[hbody];simp[aB_,hg,b6_])
   | none =>
    rw[hg]at hbody;exact .inr ⟨_,hbody,_,_,rfl,hput,by simp[aB_,hg]⟩
theorem has_and(x:Int)(k:Nat)(hk:k<63)(h1:x<=9223372036854775807):(decide (x>=0)&&(b4_ .i64 x ((2^k:Nat):Int)) != 0)=b7_ x k:=by
 by_cases h0:0<=x
 .obtain⟨n,rfl⟩:∃n:Nat,x=(n:Int):=⟨x.toNat,by omega⟩;have hk2:2^k<2^63:=Nat.pow_lt_pow_right (by omega) hk;have h0':decide ((n:Int)>=0)=true:=by simp
  have e1:(((n&&&2^k:Nat):Int) != 0)=(n&&&2^k != 0):=by
   rw[Bool.eq_iff_iff];simp only[bne_iff_ne,ne_eq];omega
  rw[h0',andI_nat (by omega) hk2,e1,bit_and,nY_,tbit];rfl
 .have h0':decide (x>=0)=false:=by simp;omega
  rw[h0',nZ_ (by omega)];rfl
theorem contains_eq(x:Int)(k:Nat)(hk:k<63)(h1:x<=9223372036854775807):aV_ x ((2^k:Nat):Int)=some (b7_ x k):=congrArg some (has_and x k hk h1)
theorem ref13_has_eq(x:Int)(k:Nat)(hk:k<63)(h1:x<=9223372036854775807):mj_ x ((2^k:Nat):Int)=some (b7_ x k):=has_div x k hk h1
theorem trich:∀(a b:Str),(Op.bytesLess a b||a==b) = !(Op.bytesLess b a)
 | [],[]=>rfl
 | [],_::_=>rfl
 | _::_,[]=>rfl
 | x::a,y::b=>by
  have ih:=trich a b;simp only[Op.bytesLess,List.cons_beq_cons];rcases Nat.lt_trichotomy x.toNat y.toNat with h|h|h
  .have h1:decide (x<y)=true:=by simpa[UInt8.lt_iff_toNat_lt]using h
   have h2:decide (y<x)=false:=by simp[UInt8.lt_iff_toNat_lt];omega
   have h3:(y==x)=false:=by rw[beq_eq_false_iff_ne];intro e;subst e;omega
   simp[h1,h2,h3]
  .obtain rfl:x=y:=UInt8.toNat_inj.1 h;have h1:decide (x<x)=false:=by simp
   simp only[h1,beq_self_eq_true,Bool.true_and,Bool.false_or];exact ih
  .have h1:decide (x<y)=false:=by simp[UInt8.lt_iff_toNat_lt];omega
   have h2:decide (y<x)=true:=by simpa[UInt8.lt_iff_toNat_lt]using h
   have h3:(x==y)=false:=by rw[beq_eq_false_iff_ne];intro e;subst e;omega
   simp[h1,h2,h3]
def gQ(l:List Yq)(i:Nat)(q:Yq):Option Int:=if !(vU q.Ye)then some 25 else if decide (0<i) && !(Op.bytesLess (l.getD (i-1) default).Ye q.Ye)then some 2 else if decide (q.Xd<0)||decide (q.Xd>9007199254740991)||decide (q.Ys<0)||decide (q.Ys>9007199254740991)then some 5 else none
def hS_(l:List Yq):Int:=if l.length>64 then 22 else(aB_ (gQ l) 0 l).getD 0
def shortQ(l:List Yq):Prop:=∀q∈l,q.Ye.length<=9223372036854775807
theorem qf_(l:List Yq)(h:l.length<=1000)(hs:shortQ l):fp_ l=some (hS_ l):=by
 unfold fp_ hS_;by_cases hl:l.length>64
 .rw[if_pos hl];exact ai_ (by simp;omega) rfl
 .rw [if_neg hl];refine ah_ (by simp;omega) ?_;refine ba_ (aZ_ l _ (bR_ (by omega)) (λi hi => ?_) ?_) (λ_=>rfl) rfl
  .unfold g5_ gQ;rw[bi_ hi,as_ hi,aw_ (by omega)];refine ai_ rfl (aa_ rfl (aa_ (pj_ _ (hs _ (List.getElem_mem hi))) ?_));cases vU l[i].Ye with
   | false=>rfl
   | true =>
    refine ah_ rfl ?_;have hmm:(decide ((bH_ l[i].Xd l[i].Ys)<0)||decide ((bV_ l[i].Xd l[i].Ys)>9007199254740991))=(decide (l[i].Xd<0)||decide (l[i].Xd>9007199254740991)||decide (l[i].Ys<0)||decide (l[i].Ys>9007199254740991)):=by
     unfold bH_ bV_;rw[Bool.eq_iff_iff];simp only[Bool.or_eq_true,qDe];constructor
     .rintro(hh|hh)<;>split at hh<;>omega
     .intro hh;split<;>split<;>omega
    rw[hmm];rcases Nat.eq_zero_or_pos i with rfl|h0
    .cases(decide (l[0].Xd<0)||decide (l[0].Xd>9007199254740991)||decide (l[0].Ys<0)||decide (l[0].Ys>9007199254740991))<;>rfl
    .have e:decide ((i:Int)>0)=true:=by simpa using h0
     have e2:decide (0<i)=true:=by simpa using h0
     rw[e,e2,fV_ default h0 hi (by omega)];simp only[cond_true,qBs,Bool.true_and,trich];cases Op.bytesLess (l.getD (i-1) default).Ye l[i].Ye<;>cases(decide (l[i].Xd<0)||decide (l[i].Xd>9007199254740991)||decide (l[i].Ys<0)||decide (l[i].Ys>9007199254740991))<;>rfl
  .unfold g5_;rw[bx_];rfl
theorem qg_(l:List Yq)(h:l.length<=1000)(hs:shortQ l):hn_ l=some (hS_ l):=by
 unfold hn_ hS_;by_cases hl:l.length>64
 .rw[if_pos hl];exact ai_ (by simp;omega) rfl
 .rw [if_neg hl];refine ah_ (by simp;omega) ?_;refine ba_ (aZ_ l _ (bR_ (by omega)) (λi hi => ?_) ?_) (λ_=>rfl) rfl
  .unfold g2_ gQ;rw[bi_ hi,as_ hi,aw_ (by omega)];refine ai_ rfl (aa_ rfl (aa_ (nu_ _ (hs _ (List.getElem_mem hi))) ?_));cases vU l[i].Ye with
   | false=>rfl
   | true =>
    refine ah_ rfl ?_;rcases Nat.eq_zero_or_pos i with rfl|h0
    .cases(decide (l[0].Xd<0)||decide (l[0].Xd>9007199254740991)||decide (l[0].Ys<0)||decide (l[0].Ys>9007199254740991))<;>rfl
    .have e:decide ((i:Int)>0)=true:=by simpa using h0
     have e2:decide (0<i)=true:=by simpa using h0
     rw[e,e2,fV_ default h0 hi (by omega)];simp only[cond_true,qBs,Bool.true_and];cases Op.bytesLess (l.getD (i-1) default).Ye l[i].Ye<;>cases(decide (l[i].Xd<0)||decide (l[i].Xd>9007199254740991)||decide (l[i].Ys<0)||decide (l[i].Ys>9007199254740991))<;>rfl
  .unfold g2_;rw[bx_];rfl
def kv_(l:List Int):Prop:=l.Pairwise (· < ·)
structure FileOK(s:Xm):Prop where
 us:hR_ s.Yn=0
 qs:hS_ s.Yp=0
 tr:OkT s.Xe.Xz s.Xe.Yk
 srt:kv_ s.Xu
 exc:∀x∈s.Xu,(bD_ s.Xe.Xz x).2=true/\b7_ (bD_ s.Xe.Xz x).1.Xp 29=true
structure SizeOK(s:Xm):Prop where (ul:s.Yn.length<=1000) (um:smallM s.Yn) (us:ku_ s.Yn) (ql:s.Yp.length<=1000) (qs:shortQ s.Yp) (nl:s.Xe.Xz.length<=1024) (el:s.Xu.length<=500)
def NodesB(s:Xm):Prop:=∀n∈s.Xe.Xz,n.Xp<=9223372036854775807/\n.Xv.length<=9223372036854775807
def dr_(l:List Int)(i:Nat):Int:=(0::l).getD i 0
theorem hT_{l:List Int}{i:Nat}(h0:0<i)(hi:i<=l.length):l[i-1]? = some (dr_ l i):=by
 unfold dr_;obtain⟨k,rfl⟩:∃k,i=k+1:=⟨i-1,by omega⟩;rw[List.getD_cons_succ,List.getD_eq_getElem?_getD,Nat.add_sub_cancel,List.getElem?_eq_getElem (by omega)];rfl
theorem sorted_iff{l:List Int}:kv_ l↔∀i x,0<i->l[i]? = some x->dr_ l i<x:=by
 unfold kv_;rw[List.pairwise_iff_getElem];constructor
 .intro h i n h0 hn;obtain⟨hi,rfl⟩:=List.getElem?_eq_some_iff.1 hn;have:=hT_ h0 (Nat.le_of_lt hi);obtain⟨_,e⟩:=List.getElem?_eq_some_iff.1 this;rw[←e];exact h _ _ _ _ (by omega)
 .intro h;have key:∀(d i:Nat) (hj:i+d+1<l.length),(l[i]'(by omega))<(l[i+d+1]'hj):=by
   intro d
   induction d with
   | zero =>
    intro i hj;have:=h (i+1) _ (by omega) (List.getElem?_eq_getElem (by omega));have e:=hT_ (l:=l) (i:=i+1) (by omega) (by omega);obtain⟨_,e⟩:=List.getElem?_eq_some_iff.1 e;rw[←e]at this;exact this
   | succ d ih =>
    intro i hj;have h1:=ih i (by omega);have:=h (i+d+1+1) _ (by omega) (List.getElem?_eq_getElem (by omega));have e:=hT_ (l:=l) (i:=i+d+1+1) (by omega) (by omega);obtain⟨_,e⟩:=List.getElem?_eq_some_iff.1 e;rw[←e]at this;simp only[Nat.add_sub_cancel]at this;exact Int.lt_trans h1 this
  intro i j hi hj hij;have:=key (j-i-1) i (by omega);simpa[show i+(j-i-1)+1=j by omega]using this
def eB(t:List Xq)(l:List Int)(i:Nat)(x:Int):Bool:=((bD_ t x).2&&b7_ (bD_ t x).1.Xp 29)&&decide (dr_ l i<x)
def gE(t:List Xq)(l:List Int)(i:Nat)(x:Int):Option Bool:=if eB t l i x then none else some false
theorem mF_(s:Xm)(h:OkT s.Xe.Xz s.Xe.Yk)(hl:s.Xu.length<=1000):aj_ (cy_ s) BIG (0,0)=some (b6_ (aB_ (gE s.Xe.Xz s.Xu) 0 s.Xu)):=by
 refine dx_ (body:=cy_ s) (J:=λi t b=>t=(dr_ s.Xu i,(i:Int))/\b=b6_ (aB_ (gE s.Xe.Xz s.Xu) i (s.Xu.drop i))) s.Xu.length (bR_ (by omega)) (λt b hJ => ?_) (λi t b hi hJ => ?_) ⟨rfl,by simp⟩
 .obtain⟨rfl,rfl⟩:=hJ;unfold cy_;simp only;rw[bx_];simp[aB_,b6_]
 .obtain⟨rfl,rfl⟩:=hJ;rw[List.drop_eq_getElem_cons hi];have hp:s.Xu[i]=dr_ s.Xu (i+1):=by
   have:=hT_ (l:=s.Xu) (i:=i+1) (by omega) (by omega);rw[Nat.add_sub_cancel,List.getElem?_eq_getElem hi]at this;exact qSj this
  have hbody:cy_ s (dr_ s.Xu i,(i:Int))=some (match gE s.Xe.Xz s.Xu i s.Xu[i]with|some r => .done (.ret r)|none => .next (dr_ s.Xu (i+1),((i+1:Nat):Int))):=by
   unfold cy_;simp only;rw[bi_ hi,as_ hi,aw_ (by omega)];refine ai_ rfl (aa_ rfl (aa_ (tree_node_eq _ _ (by have:=h.len;omega)) ?_));unfold gE eB;have e1:decide (s.Xu[i]<=dr_ s.Xu i) = !(decide (dr_ s.Xu i<s.Xu[i])):=by rw[Bool.eq_iff_iff];simp
   rw[e1,←hp];have hc:=contains_eq (bD_ s.Xe.Xz s.Xu[i]).1.Xp 29 (by omega) (node_hm h _);simp only[Nat.reducePow,Int.cast_ofNat_Int]at hc;rw[hc];cases(bD_ s.Xe.Xz s.Xu[i]).2<;>cases b7_ (bD_ s.Xe.Xz s.Xu[i]).1.Xp 29<;>cases decide (dr_ s.Xu i<s.Xu[i])<;>rfl
  cases hg:gE s.Xe.Xz s.Xu i s.Xu[i]with
  | some r =>
   rw[hg]at hbody;exact .inl (by rw[hbody];simp[aB_,hg,b6_])
  | none =>
   rw[hg]at hbody;exact .inr ⟨_,hbody,rfl,by simp[aB_,hg]⟩
theorem n4_(s:Xm)(h:OkT s.Xe.Xz s.Xe.Yk)(hl:s.Xu.length<=1000):aj_ (eO_ s) BIG 0=some (b6_ (aB_ (gE s.Xe.Xz s.Xu) 0 s.Xu)):=by
 refine aZ_ s.Xu _ (bR_ (by omega)) (λi hi => ?_) ?_
 .unfold eO_;rw[bi_ hi,as_ hi,aw_ (by omega)];refine ai_ rfl (aa_ rfl (aa_ (rl_ _ _ (by have:=h.len;omega)) ?_));unfold gE eB;have hc:=ref13_has_eq (bD_ s.Xe.Xz s.Xu[i]).1.Xp 29 (by omega) (node_hm h _);simp only[Nat.reducePow,Int.cast_ofNat_Int]at hc;rw[hc];simp only[qBs];cases hn:(bD_ s.Xe.Xz s.Xu[i]).2 with
  | false=>rfl
  | true =>
   have hge:1<=s.Xu[i]:=by
    obtain⟨h1,h2⟩:=lj_ hn;rw[←h2];exact h.ge h1
   cases b7_ (bD_ s.Xe.Xz s.Xu[i]).1.Xp 29 with
   | false=>rfl
   | true =>
    rcases Nat.eq_zero_or_pos i with rfl|h0
    .have:decide (dr_ s.Xu 0<s.Xu[0])=true:=by
      rw[qDe];show(0:Int)<_;omega
     rw[this];rfl
    .have e0:decide ((i:Int)>0)=true:=by simpa using h0
     have hp:ak_ s.Xu (w64 ((i:Int)-1))=some (dr_ s.Xu i):=by
      rw[w_pred h0 (by omega),eC_];exact hT_ h0 (Nat.le_of_lt hi)
     have e1:decide (dr_ s.Xu i>=s.Xu[i]) = !(decide (dr_ s.Xu i<s.Xu[i])):=by rw[Bool.eq_iff_iff];simp
     rw[e0,hp];simp only[cond_true,qBs];rw[e1];cases decide (dr_ s.Xu i<s.Xu[i])<;>rfl
 .unfold eO_;rw[bx_];rfl
theorem excl_iff(s:Xm)(h:OkT s.Xe.Xz s.Xe.Yk):(aB_ (gE s.Xe.Xz s.Xu) 0 s.Xu).getD true=true↔kv_ s.Xu/\∀x∈s.Xu,(bD_ s.Xe.Xz x).2=true/\b7_ (bD_ s.Xe.Xz x).1.Xp 29=true:=by
 rw[i8_ (g:=gE s.Xe.Xz s.Xu) (p:=eB s.Xe.Xz s.Xu) (λ_ _=>rfl),sorted_iff];have ek:∀i x,eB s.Xe.Xz s.Xu i x=true↔((bD_ s.Xe.Xz x).2=true/\b7_ (bD_ s.Xe.Xz x).1.Xp 29=true)/\dr_ s.Xu i<x:=λi x=>by
  unfold eB;simp only[qAn,qDe]
 simp only[Nat.zero_add,ek];constructor
 .intro h';refine⟨λi x _ hx=>(h' i x hx).2,λx hx => ?_⟩;obtain⟨i,hi⟩:=List.mem_iff_getElem?.1 hx;exact(h' i x hi).1
 .rintro⟨h1,h2⟩ i x hx;have hm:=h2 x (List.mem_iff_getElem?.2 ⟨_,hx⟩);refine⟨hm,?_⟩;rcases Nat.eq_zero_or_pos i with rfl|h0
  .obtain⟨h3,h4⟩:=lj_ hm.1;have:=h.ge h3;show(0:Int)<x;omega
  .exact h1 i x h0 hx
theorem pk_(s:Xm):FileOK s↔hR_ s.Yn=0/\hS_ s.Yp=0/\OkT s.Xe.Xz s.Xe.Yk/\kv_ s.Xu/\∀x∈s.Xu,(bD_ s.Xe.Xz x).2=true/\b7_ (bD_ s.Xe.Xz x).1.Xp 29=true :=
 ⟨λh=>⟨h.us,h.qs,h.tr,h.srt,h.exc⟩,λ⟨a,b,c,d,e⟩=>⟨a,b,c,d,e⟩⟩
theorem ne_(s:Xm)(z:SizeOK s)(hb:NodesB s):∃b,fH_ s=some b/\(b=true↔FileOK s):=by
 rw[pk_];unfold fH_;rw[rp_ _ z.ul z.um.fit z.us,qf_ _ z.ql z.qs];simp only[qBs];cases hu:hR_ s.Yn != 0 with
 | true=>exact⟨false,rfl,λh=>(nomatch h),λh=>by rw[h.1]at hu;cases hu⟩
 | false =>
  simp only[cond_false,qBs];cases hq:hS_ s.Yp != 0 with
  | true=>exact⟨false,rfl,λh=>(nomatch h),λh=>by rw[h.2.1]at hq;cases hq⟩
  | false =>
   obtain⟨b,hb1,hb2⟩:=hb_ s.Xe (by have:=z.nl;omega) hb;rw[hb1];cases b with
   | false=>exact⟨false,rfl,λh=>(nomatch h),λh=>hb2.2 h.2.2.1⟩
   | true =>
    have ht:=hb2.1 rfl;refine⟨_,ah_ (A:=some false) rfl (ba_ (mF_ s ht (by have:=z.el;omega)) (λ_=>rfl) rfl),?_⟩;rw[excl_iff s ht];exact⟨λh=>⟨by simpa using hu,by simpa using hq,ht,h⟩,λh=>h.2.2.2⟩
theorem pl_(s:Xm)(z:SizeOK s)(hb:NodesB s):∃b,hp_ s=some b/\(b=true↔FileOK s):=by
 rw[pk_];unfold hp_;rw[qe_ _ z.ul z.um.fit z.us,qg_ _ z.ql z.qs];simp only[qBs];cases hu:hR_ s.Yn != 0 with
 | true=>exact⟨false,rfl,λh=>(nomatch h),λh=>by rw[h.1]at hu;cases hu⟩
 | false =>
  simp only[cond_false,qBs];cases hq:hS_ s.Yp != 0 with
  | true=>exact⟨false,rfl,λh=>(nomatch h),λh=>by rw[h.2.1]at hq;cases hq⟩
  | false =>
   obtain⟨b,hb1,hb2⟩:=gA_ s.Xe (by have:=z.nl;omega) hb;rw[hb1];cases b with
   | false=>exact⟨false,rfl,λh=>(nomatch h),λh=>hb2.2 h.2.2.1⟩
   | true =>
    have ht:=hb2.1 rfl;refine⟨_,ah_ (A:=some false) rfl (ba_ (n4_ s ht (by have:=z.el;omega)) (λ_=>rfl) rfl),?_⟩;rw[excl_iff s ht];exact⟨λh=>⟨by simpa using hu,by simpa using hq,ht,h⟩,λh=>h.2.2.2⟩
theorem scan_nil{α β:Type}:∀(k:Nat) (l:List α),aB_ (λ_ _=>(none:Option β)) k l=none
 | _,[]=>rfl
 | k,_::l=>scan_nil (k+1) l
theorem hU_{α:Type}{body:Int->Option (Step Int (Out Unit Bool))}(l:List α)(hl:l.length<=2000)(hb:∀i,i<l.length->body (i:Int)=some (.next ((i+1:Nat):Int)))(he:body (l.length:Int)=some (.done (.fall ()))):aj_ body BIG 0=some (.fall ()):=by
 have:=aZ_ (body:=body) l (λ_ _=>(none:Option Bool)) (bR_ (by omega)) (λi hi=>hb i hi) he;rw[this,scan_nil];rfl
theorem same_texts(l:List Str)(hl:l.length<=1000):em_ l l=some true:=by
 unfold em_;refine ah_ (by simp) (aa_ (hU_ l (by omega) (λi hi => ?_) ?_) rfl)
 .unfold eA_;rw[bi_ hi,as_ hi,aw_ (by omega)];simp
 .unfold eA_;rw[bx_];rfl
theorem same_users(l:List Xf)(hl:l.length<=1000)(hm:smallM l):en_ l l=some true:=by
 unfold en_;refine ah_ (by simp) (aa_ (hU_ l (by omega) (λi hi => ?_) ?_) rfl)
 .unfold eB_;rw[bi_ hi,as_ hi,aw_ (by omega)];simp[same_texts _ (hm _ (List.getElem_mem hi))]
 .unfold eB_;rw[bx_];rfl
theorem same_quotas(l:List Yq)(hl:l.length<=1000):dW_ l l=some true:=by
 unfold dW_;refine ah_ (by simp) (aa_ (hU_ l (by omega) (λi hi => ?_) ?_) rfl)
 .unfold ed_;rw[bi_ hi,as_ hi,aw_ (by omega)];simp
 .unfold ed_;rw[bx_];rfl
theorem same_tree13(t:Xy)(hl:t.Xz.length<=2000):eX_ t t=some true:=by
 unfold eX_;refine ah_ (by simp) (aa_ (hU_ t.Xz (by omega) (λi hi => ?_) ?_) rfl)
 .unfold fc_;rw[bi_ hi,as_ hi,aw_ (by omega)];simp
 .unfold fc_;rw[bx_];rfl
theorem same_ints(l:List Int)(hl:l.length<=1000):eZ_ l l=some true:=by
 unfold eZ_;refine ah_ (by simp) (aa_ (hU_ l (by omega) (λi hi => ?_) ?_) rfl)
 .unfold fd_;rw[bi_ hi,as_ hi,aw_ (by omega)];simp
 .unfold fd_;rw[bx_];rfl
theorem same_eq(s:Xm)(hu:s.Yn.length<=1000)(hm:smallM s.Yn)(hq:s.Yp.length<=1000)(hn:s.Xe.Xz.length<=1000)(he:s.Xu.length<=1000):iu_ s s=some true:=by
 unfold iu_;rw[same_users _ hu hm,same_quotas _ hq,same_tree13 _ (by omega),same_ints _ he];rfl
theorem clone_users{xs:List Xf}(h:xs.length<=1000):bb_ xs=some xs:=hP_ (n:=56) (by omega) (by omega)
theorem clone_quotas{xs:List Yq}(h:xs.length<=1000):aW_ xs=some xs:=hP_ (n:=32) (by omega) (by omega)
theorem clone_nodes{xs:List Xq}(h:xs.length<=2000):bs_ xs=some xs:=hP_ (n:=128) (by omega) (by omega)
theorem clone_ints{xs:List Int}(h:xs.length<=1000):bP_ xs=some xs:=hP_ (n:=8) (by omega) (by omega)
theorem set_self{α:Type}{l:List α}{i:Nat}{x:α}(h:l[i]? = some x):l.set i x=l:=by
 obtain⟨hi,rfl⟩:=List.getElem?_eq_some_iff.1 h;exact List.set_getElem_self hi
theorem copy_loop{body:Int×List Xf->Option (Step (Int×List Xf) (List Xf))}(l:List Xf)(hl:l.length<=1000)
  (hb:∀i,i<l.length->body ((i:Int),l)=some (.next (((i+1:Nat):Int),l))) (he:body ((l.length:Int),l)=some (.done l)):aj_ body BIG (0,l)=some l :=
 bh_ (λi=>((i:Int),l)) l.length (bR_ (by omega)) (λi hi=>hb i hi) he
open Go.Sort
theorem kw_{α:Type}{R:α->α->Prop}:∀{l1 l2:List α},l1.Perm l2->l1.Pairwise R->l2.Pairwise R->(∀a,a∈l1->∀b,b∈l1->R a b->R b a->a=b)->l1=l2
 | [],l2,hp,_,_,_=>hp.nil_eq
 | a::l1,[],hp,_,_,_=>absurd hp.length_eq (by simp)
 | a::l1,b::l2,hp,h1,h2,hR=>by
  have h1':=List.pairwise_cons.1 h1;have h2':=List.pairwise_cons.1 h2;have hab:a=b:=by
   by_cases e:a=b
   .exact e
   have ha:a∈b::l2:=hp.subset List.mem_cons_self;have hb:b∈a::l1:=hp.symm.subset List.mem_cons_self;rcases List.mem_cons.1 ha with h|ha'
   .exact h
   rcases List.mem_cons.1 hb with h|hb'
   .exact h.symm
   exact hR a List.mem_cons_self b hb (h1'.1 b hb') (h2'.1 a ha')
  subst hab;rw[kw_ hp.cons_inv h1'.2 h2'.2 λx hx y hy=>hR x (List.mem_cons_of_mem _ hx) y (List.mem_cons_of_mem _ hy)]
def leK{α:Type}(key:α->Int)(x y:α):Bool:=decide (key x<=key y)
theorem key_inj{α:Type}{key:α->Int}:∀{l:List α},(l.map key).Nodup->∀a,a∈l->∀b,b∈l->key a=key b->a=b
 | [],_,a,ha,_,_,_=>by cases ha
 | x::l,h,a,ha,b,hb,e=>by
  rw[List.map_cons]at h;obtain⟨h1,h2⟩:=List.nodup_cons.1 h;rcases List.mem_cons.1 ha with ha1|ha1<;>rcases List.mem_cons.1 hb with hb1|hb1
  .rw[ha1,hb1]
  .rw[ha1]at e;exact absurd (List.mem_map.2 ⟨b,hb1,e.symm⟩) h1
  .rw[hb1]at e;exact absurd (List.mem_map.2 ⟨a,ha1,e⟩) h1
  .exact key_inj h2 a ha1 b hb1 e
theorem nv_{α:Type}[Inhabited α]{key:α->Int}{xs ys:List α}(h:fl_ key xs=some ys):ys.Perm xs/\ys.Pairwise λa b=>leK key a b=true:=by
 unfold fl_ at h;split at h
 .obtain rfl:=qSj h;have hs:=pdq_sorts (λ(x y:α)=>decide (key x<key y)) ⟨λx=>by simp,λx y z h1 h2=>by simp at *;omega,λx y z h1 h2=>by simp at *;omega⟩ xs.toArray 0 xs.length (Lib.bitLen xs.length) true true (Nat.zero_le _) (by simp) (Or.inl rfl);generalize Sort.pdq (λ(x y:α)=>decide (key x<key y)) xs.toArray 0 xs.length (Lib.bitLen xs.length) true true=d at hs;obtain⟨⟨h1,_,h2⟩,h3⟩:=hs;have h1':d.size=xs.length:=by simpa using h1
  have e1:d.extract 0 xs.length=d:=by rw[←h1'];simp
  have e2:xs.toArray.extract 0 xs.length=xs.toArray:=by
   have:xs.length=xs.toArray.size:=by simp
   rw[this];simp
  rw[e1,e2]at h2;refine⟨by simpa using h2,List.pairwise_iff_getElem.2 λi j hi hj hij => ?_⟩;have hj':j<xs.length:=by simpa[h1']using hj
  have:=h3 i j (Nat.zero_le _) hij hj';rw[getElem!_pos d j (by omega),getElem!_pos d i (by omega)]at this;unfold leK;simp only[qDe,qDf]at *
  simpa using this
 .cases h
end Go.Proofs.YtebokaoegomboaaGreatDoor
namespace Go.Proofs.YtebokaoegomboaaGreatDoor
open Go.Rt Go.RowKit
theorem awake_eq:d7_=some true:=by kernel_rfl
def leV:Str->Nat | []=>0|b::r=>b.toNat+256*leV r
theorem leV_lt:∀(s:Str),leV s<2^(8*s.length)
 | []=>by simp[leV]
 | b::r=>by
  have h:=leV_lt r;have hb:=b.toNat_lt;simp only[leV,qLc];rw[show 8*(r.length+1)=8*r.length+8 by omega,Nat.pow_add];omega
def win(s:Str)(at_ w:Nat):Str:=(s.drop at_).take w
theorem f8_{s:Str}{at_ w:Nat}(h:at_+w<=s.length):(win s at_ w).length=w:=by simp[win];omega
theorem ll_{s:Str}{at_ w j:Nat}(h:at_+w<=s.length)(hj:j<w):(win s at_ w).drop (w-(j+1))=s[at_+(w-1-j)]'(by omega)::(win s at_ w).drop (w-j):=by
 have hl:=f8_ h;rw[List.drop_eq_getElem_cons (by omega:w-(j+1)<(win s at_ w).length)]
 congr 1
 .simp only[win,List.getElem_take,List.getElem_drop]
  congr 1
  omega
 .congr 1
  omega
theorem or_byte(a b:Nat)(hb:b<256):(a*256)|||b=a*256+b:=by
 have:=Nat.shiftLeft_add_eq_or_of_lt (i:=8) (b:=b) (by omega) a;rw[Nat.shiftLeft_eq]at this;exact this.symm
theorem get_loop(s:Str)(at_ w:Nat)(h1:1<=w)(h8:w<=8)(h:at_+w<=s.length)(hs:s.length<=9223372036854775807):aj_ (ez_ s (at_:Int)) BIG (0,w64 ((w:Int)-1))=some (leV (win s at_ w):Int):=by
 have hB:BIG=18446744073709551616:=rfl;have hw:=bh_ (body:=ez_ s (at_:Int)) (λj=>(((leV ((win s at_ w).drop (w-j)):Nat):Int),(w:Int)-1-(j:Int))) w (by omega) (b:=(leV (win s at_ w):Int)) (λj hj => ?_) ?_
 .have e:(win s at_ w).drop (w-0)=[]:=List.drop_eq_nil_of_le (by rw[f8_ h];omega);simp only[e,leV]at hw;rw[an_ ⟨by omega,by omega⟩];simpa using hw
 .unfold ez_;have hlt:=leV_lt ((win s at_ w).drop (w-j));have hdl:((win s at_ w).drop (w-j)).length=j:=by rw[List.length_drop,f8_ h];omega
  rw[hdl]at hlt;have hpw:2^(8*j)<=2^56:=Nat.pow_le_pow_right (by omega) (by omega);refine ai_ (by simp;omega) ?_;have ei:w64 ((at_:Int)+((w:Int)-1-(j:Int)))=((at_+(w-1-j):Nat):Int):=by
   rw[an_ ⟨by omega,by omega⟩];omega
  show Option.bind (bB_ s (w64 ((at_:Int)+((w:Int)-1-(j:Int))))) _=_;rw[ei];refine aa_ (g9_ (by omega)) ?_;rw[ll_ h hj];simp only[leV];generalize s[at_+(w-1-j)]'(by omega)=b;have hb:=b.toNat_lt;generalize leV ((win s at_ w).drop (w-j))=v at hlt ⊢;show some (Step.next (orI .u64 (IntKind.u64.wrap ((v:Int)*2^8)) (IntKind.u64.wrap (b.toNat:Int)),w64 ((w:Int)-1-(j:Int)-1)))=_;have e1:IntKind.u64.wrap ((v:Int)*2^8)=((v*256:Nat):Int):=by rw[wu64];omega
  have e2:IntKind.u64.wrap (b.toNat:Int)=(b.toNat:Int):=by rw[wu64];omega
  rw[e1,e2,orI_u64 (by omega) (by omega),or_byte _ _ hb,an_ ⟨by omega,by omega⟩]
  congr 3
  .omega
  .omega
 .unfold ez_;refine ah_ (by simp;omega) ?_;simp
theorem get_eq(s:Str)(at_ w:Nat)(h1:1<=w)(h8:w<=8)(h:at_<=s.length)(hs:s.length<=9223372036854775807) :
  hK_ s (at_:Int) (w:Int)=some (if s.length-at_<w then(0,0,3)else if leV (win s at_ w)>9223372036854775807 then(0,0,5)else((leV (win s at_ w):Int),((at_+w:Nat):Int),0)):=by
 unfold hK_;refine ah_ (by simp;omega) ?_;have el:w64 ((s.length:Int)-(at_:Int))=((s.length-at_:Nat):Int):=by rw[an_ ⟨by omega,by omega⟩];omega
 rw[el];by_cases hlt:s.length-at_<w
 .rw[if_pos hlt];exact ai_ (by simp;omega) rfl
 .rw[if_neg hlt];refine ah_ (by simp;omega) ?_;refine aa_ (get_loop s at_ w h1 h8 (by omega) hs) ?_;by_cases hv:leV (win s at_ w)>9223372036854775807
  .rw[if_pos hv];exact ai_ (by simp;omega) rfl
  .rw[if_neg hv];refine ah_ (by simp;omega) ?_;rw[an_ (n:=(leV (win s at_ w):Int)) ⟨by omega,by omega⟩,an_ (n:=(at_:Int)+(w:Int)) ⟨by omega,by omega⟩];rfl
theorem win_sub(s:Str)(at_ w:Nat)(h:at_+w<=s.length)(hs:s.length<=9223372036854775807):bo_ s (at_:Int) (w64 ((at_:Int)+(w:Int)))=some (win s at_ w):=by
 rw[an_ ⟨by omega,by omega⟩,cP_ (by omega) (by omega) (by omega)]
 congr 1
 simp only[win,qTn];rw[show((at_:Int)+(w:Int)).toNat=at_+w by omega,List.drop_take,show at_+w-at_=w by omega]
def takeT(s:Str)(a:Nat):Option (Str×Nat):=if s.length<a+2 then none else if s.length<a+2+leV (win s a 2)then none else some (win s (a+2) (leV (win s a 2)),a+2+leV (win s a 2))
theorem i9_{s t:Str}{a p:Nat}(h:takeT s a=some (t,p)):p<=s.length/\t.length<=s.length/\a+2<=p:=by
 unfold takeT at h;split at h
 .cases h
 .split at h
  .cases h
  .rename_i h1 h2;simp only[qOi,Prod.mk.injEq]at h;obtain⟨rfl,rfl⟩:=h;refine⟨by omega,?_,by omega⟩;rw[f8_ (by omega)];omega
theorem leV_two(s:Str)(a:Nat)(h:a+2<=s.length):leV (win s a 2)<65536:=by
 have:=leV_lt (win s a 2);rw[f8_ h]at this;exact this
theorem gettext_eq(s:Str)(a:Nat)(h:a<=s.length)(hs:s.length<=2000000):fC_ s (a:Int)=some (match takeT s a with|none=>([],0,3)|some (t,p)=>(t,(p:Int),0)):=by
 unfold fC_;have hg:=get_eq s a 2 (by omega) (by omega) h (by omega);rw[show((2:Nat):Int)=2 from rfl]at hg;unfold takeT;by_cases h2:s.length<a+2
 .rw[if_pos (by omega)]at hg;rw[if_pos h2];refine aa_ hg ?_;exact ai_ rfl rfl
 .have hv:=leV_two s a (by omega);rw[if_neg (by omega),if_neg (by omega)]at hg;rw[if_neg h2];refine aa_ hg ?_;refine ah_ rfl ?_;have ew:w64 ((s.length:Int)-((a+2:Nat):Int))=((s.length-(a+2):Nat):Int):=by rw[an_ ⟨by omega,by omega⟩];omega
  have ex:w64 (((a+2:Nat):Int)+(leV (win s a 2):Int))=((a+2+leV (win s a 2):Nat):Int):=by rw[an_ ⟨by omega,by omega⟩];omega
  by_cases h3:s.length<a+2+leV (win s a 2)
  .rw[if_pos h3];refine ai_ ?_ rfl;show decide (w64 ((s.length:Int)-((a+2:Nat):Int))<(leV (win s a 2):Int))=true;rw[ew];simp only[qDe];omega
  .rw[if_neg h3];refine ah_ ?_ ?_
   .show decide (w64 ((s.length:Int)-((a+2:Nat):Int))<(leV (win s a 2):Int))=false;rw[ew];simp only[qDf];omega
   refine aa_ (win_sub s (a+2) (leV (win s a 2)) (by omega) (by omega)) ?_;show some (_,w64 (((a+2:Nat):Int)+(leV (win s a 2):Int)),(0:Int))=_;rw[ex]
end Go.Proofs.YtebokaoegomboaaGreatDoor
