/-
 What the statements of this seat hang on,part 6: Lq ShSf LSf K1 K2 K3 K4 K5 K6 K7 K8 K9 K10 K11 K12 K13 K14 Num Hs Uw Fa0.
-/
import Derived.Test.YtebokaoegomboaaGreatDoorZA5
import Derived.Sort.Grow
import Derived.Sort.EncStr
import Derived.Test.YtebokaoegomboaaGreatDoorProg
import Derived.Shelf.SlSortCmp.NoneTotal
import Derived.Shelf.SlSortCmp.WholeK
import Derived.Shelf.SlGeneric
import Derived.Lib.Agree
import Derived.KernelRfl
import Derived.WalkKit
import Derived.Laws.BitsLemmas
import Derived.Sort.AssemblyPlain
namespace Go
namespace Rt
open Go.RowKit Go.Sort Go.Proofs
section
variable {P:Program} {E:TE} {z:Fz} {g:Ga} {w w' w0:World} {Bs:List Nat} {F0:Nat→Prop} {t:Ty} {enc:Den E.S t→List Value}
structure EncOK (E:TE) (t:Ty) (enc:Den E.S t→List Value):Prop where
 out:∀ (z:Fz) (x:Den E.S t) (r:List Value),RD E z (E.flat t) (E.fl t x) r→r=enc x
 into:∀ (z:Fz) (x:Den E.S t),RD E z (E.flat t) (E.fl t x) (enc x)
theorem EncOK.len (he:EncOK E t enc) (x:Den E.S t):(enc x).length=E.size t:=(he.into ⟨fun _=>False,default⟩ x).len
theorem rows_enc (he:EncOK E t enc) {xs:List (Den E.S t)} {rows:List (List Value)} (h:Rows E z t xs rows) (hl:rows.length=xs.length):rows=xs.map enc:=by
 apply List.ext_getElem?
 intro i
 rw [List.getElem?_map]
 rcases Nat.lt_or_ge i xs.length with hi | hi
 ·have hx:=List.getElem?_eq_getElem hi
  have hr:=List.getElem?_eq_getElem (show i<rows.length by omega)
  rw [hr,hx,he.out z _ _ (h i _ _ hx hr)]
  rfl
 ·rw [List.getElem?_eq_none (by omega),List.getElem?_eq_none hi]
  rfl
theorem eO_ (he:EncOK E t enc):∀ (xs:List (Den E.S t)),(xs.map enc).flatten.length=xs.length*E.size t
 | []=>by simp
 | x::xs=>by rw [List.map_cons,List.flatten_cons,List.length_append,he.len,eO_ he xs,List.length_cons,Nat.succ_mul,Nat.add_comm]
def RowQ (E:TE) (t:Ty) (enc:Den E.S t→List Value) (w:World) (e:TypeId) (xs:List (Den E.S t)) (A:Option Addr) (cap:Nat):Prop :=
 (A=none∧cap=0∧xs=[])∨∃ b cs,A=some ⟨b,0,none⟩∧w.heap[b]? = some (.cells (cs:List Value).toArray e (0,0))∧xs.length≤cap∧cap≤maxLen∧cs.length=cap*E.size t∧cs.take (xs.length*E.size t)=(xs.map enc).flatten
theorem rowQ_of (he:EncOK E t enc) {id:Nat} {e:TypeId} {xs:List (Den E.S t)} {foc:List (Nat × Int × Den E.S t)} (h:ObjR P E z g w id (.row e t xs foc)):∃ l,g id=some l∧l.n=xs.length∧l.c=E.size t∧RowQ E t enc w e xs l.A l.cap:=by
 obtain ⟨l,rows,h1,hn,hc,hown,hlen,hrl,hrows,_⟩:=h
 rw [hc,rows_enc he hrows (by omega)] at hown
 refine ⟨l,h1,hn,hc,?_⟩
 obtain ⟨_,h2⟩:=hown
 rcases h2 with ⟨h2,h3⟩ | ⟨b,cap,cur,hv,_,hh,hnc,hcm,hcs,htk⟩
 ·injection h2 with e1 e2 e3
  exact .inl ⟨e1,e3,List.length_eq_zero_iff.1 (by omega)⟩
 ·injection hv with e1 _ e3
  subst e3
  exact .inr ⟨b,cur.toList,e1,by simpa using hh,by omega,hcm,by simpa using hcs,by rw [hn] at htk; exact htk⟩
theorem rowQ_mk (he:EncOK E t enc) {id:Nat} {e:TypeId} {xs:List (Den E.S t)} {l:Loc} (h:RowQ E t enc w e xs l.A l.cap) (hg:g id=some l) (hn:l.n=xs.length) (hc:l.c=E.size t):ObjR P E z g w id (.row e t xs []):=by
 refine ⟨l,xs.map enc,hg,hn,hc,?_,by simp [hn],fun r hr => ?_,fun i x r hx hr => ?_,fun p hp=>nomatch hp⟩
 ·rw [hc,hn]
  refine ⟨eO_ he xs,?_⟩
  rcases h with ⟨hA,hcap,rfl⟩ | ⟨b,cs,hA,hh,h1,h2,h3,h4⟩
  ·exact .inl ⟨by rw [hA,hcap]; rfl,rfl⟩
  ·exact .inr ⟨b,l.cap,cs.toArray,by rw [hA],Nat.zero_le _,hh,h1,h2,by simpa using h3,h4⟩
 ·obtain ⟨x,_,rfl⟩:=List.mem_map.1 hr
  rw [he.len,hc]
 ·rw [List.getElem?_map,hx] at hr
  obtain rfl:=Option.some.inj hr
  exact he.into z x
theorem t1_ {β : Type} [Inhabited β] (f : β → Value) (D:Array β) (cs:List Value) (h:D.size≤cs.length):(putCells f 0 D cs.toArray).toList=D.toList.map f++cs.drop D.size:=by
 apply List.ext_getElem?
 intro i
 simp only [putCells,Array.toList_mapIdx,List.getElem?_mapIdx]
 by_cases hi:i<D.size
 ·have hc:i<cs.length:=by omega
  rw [List.getElem?_append_left (by simpa using hi),List.getElem?_map,List.getElem?_eq_getElem hc,Option.map_some,if_pos ⟨Nat.zero_le _,by omega⟩,Nat.sub_zero,getElem!_pos D i hi]
  simp [hi]
 ·rw [List.getElem?_append_right (by simpa using Nat.le_of_not_lt hi),List.getElem?_drop]
  have e1:D.size+(i - (D.toList.map f).length)=i:=by simp; omega
  rw [e1]
  cases hx:cs[i]? with
  | none=>rfl
  | some v=>rw [Option.map_some,if_neg (by omega)]
theorem RowQ.put {β : Type} [Inhabited β] {e:TypeId} {xs zs:List (Den E.S t)} {b cap:Nat} (h:RowQ E t enc w e xs (some ⟨b,0,none⟩) cap) (hl:zs.length≤xs.length) (f : β → Value) (D:Array β) (hD:D.size=xs.length*E.size t) (hf:(D.toList.map f).take (zs.length*E.size t)=(zs.map enc).flatten) (q:Nat) (os:Array Go.Obj)
  (hw:w'=grow (putRow f (Go.Sort.ahead w q) b 0 D) os):RowQ E t enc w' e zs (some ⟨b,0,none⟩) cap∧Grow w w'∧(∀ k,k<w.heap.size→k≠b→w'.heap[k]? = w.heap[k]?):=by
 rcases h with ⟨h,_⟩ | ⟨b',cs,hA,hh,h1,h2,h3,h4⟩
 ·cases h
 ·injection hA with hA; injection hA with hA; subst hA
  have hb:b<w.heap.size:=by
   rcases Nat.lt_or_ge b w.heap.size with h' | h'
   ·exact h'
   ·rw [Array.getElem?_eq_none h'] at hh; cases hh
  have hDl:D.size≤cs.length:=by rw [hD,h3]; exact Nat.mul_le_mul_right _ h1
  have hgk:∀ (W:World) k,k<W.heap.size→(grow W os).heap[k]? = W.heap[k]? := fun W k hk=>by
   show (W.heap++os)[k]? = _
   rw [Array.getElem?_append_left hk]
  have hms:(putRow f (Go.Sort.ahead w q) b 0 D).heap.size=w.heap.size:=by simp [putRow,mapBlock,Go.Sort.ahead]
  have hmb:(putRow f (Go.Sort.ahead w q) b 0 D).heap[b]? = some (.cells (putCells f 0 D cs.toArray) e (0,0)):=by
   show (mapBlock (Go.Sort.ahead w q) b (putCells f 0 D)).heap[b]? = _
   unfold mapBlock
   have hh':(Go.Sort.ahead w q).heap[b]? = some (.cells cs.toArray e (0,0)):=hh
   simp only [Array.getElem?_modify,if_true,hh',Option.map_some,onCells]
  subst hw
  refine ⟨.inr ⟨b,D.toList.map f++cs.drop D.size,rfl,?_,by omega,h2,?_,?_⟩,⟨rfl,rfl,rfl,?_⟩,fun k hk hne => ?_⟩
  ·rw [hgk _ _ (by omega),hmb,← t1_ f D cs hDl,Array.toArray_toList]
  ·rw [List.length_append,List.length_map,List.length_drop,Array.length_toList]; omega
  ·have hle:zs.length*E.size t≤(D.toList.map f).length:=by
    have h9:D.toList.length=xs.length*E.size t:=hD
    rw [List.length_map,h9]
    exact Nat.mul_le_mul_right _ hl
   rw [List.take_append_of_le_length hle]
   exact hf
  ·have h9:(grow (putRow f (Go.Sort.ahead w q) b 0 D) os).heap.size=(putRow f (Go.Sort.ahead w q) b 0 D).heap.size+os.size:=by simp [grow]
   omega
  ·rw [hgk _ _ (by omega)]
   show (mapBlock (Go.Sort.ahead w q) b (putCells f 0 D)).heap[k]? = _
   unfold mapBlock
   simp only [Array.getElem?_modify]
   rw [if_neg fun e=>hne e.symm]
   rfl
theorem HR.rowQ {e:TypeId} {xs zs:List (Den E.S t)} {foc:List (Nat × Int × Den E.S t)} {i:Nat} {H H':Nat→Option (Obj E)} (he:EncOK E t enc) {l l':Loc} {i':Nat} {g':Ga} (h:HR P E Bs F0 w0 w z g H) (hi:H i=some (.row e t xs foc)) (hg:g i=some l) (hle:g.Le g') (hg':g' i'=some l') (hA:l'.A=l.A) (hn:l'.n=zs.length) (hc:l'.c=E.size t)
  (hb:Grow w w') (hk:∀ k,k<w.heap.size→¬ cy_ l.A k→w'.heap[k]? = w.heap[k]?) (hr:RowQ E t enc w' e zs l'.A l'.cap)
  (hH:∀ j o,H' j=some o→(j=i'∧o = .row e t zs [])∨(j≠i'∧j≠i∧H j=some o)):HR P E Bs F0 w0 w' z g' H':=by
 refine h.turn hle (i:=i) (i':=i') (C:=cy_ l.A) (fun q ⟨a,ha,hq⟩=>⟨_,hi,l,a,hg,ha,hq⟩) hb hk (o' := .row e t zs []) (rowQ_mk he hr hg' hn hc) (fun q hq => ?_) fun j p hj => ?_
 ·obtain ⟨l2,a2,h5,h6,rfl⟩:=hq
  rw [hg'] at h5
  obtain rfl:=Option.some.inj h5
  exact .inl ⟨a2,by rw [← hA]; exact h6,rfl⟩
 ·rcases hH j p hj with h1 | ⟨h1,h2,h3⟩
  ·exact .inl h1
  ·exact .inr ⟨h1,.inl h2,h3⟩
end
end Rt
end Go
namespace Go.Proofs
open Go.Shelf
def Tryz.laysSortF_ren:Go.Shelf.Ren:=⟨fun | 6=>190 | 15=>262 | 14=>261 | 28=>319 | 29=>320 | 20=>311 | 21=>312 | 22=>313 | 23=>314 | 24=>315 | 25=>316 | 26=>317 | 27=>318 | 46=>347 | 47=>348 | 48=>349 | 49=>350 | 50=>351 | 57=>367 | n=>n,fun | 22=>24 | 24=>81 | 25=>216 | 3=>3 | 39=>265 | 0=>0 | 53=>306 | 55=>267 | 4=>4 | 46=>300 | 45=>299 | 50=>245 | 5=>5 | 9=>9 | 66=>330 | 70=>334 | 76=>348 | 77=>287 | n=>n,fun | n=>n⟩
theorem Tryz.laysSortF:Go.Proofs.SlLaysF0.n6 Tryz.prog Tryz.laysSortF_ren:={
 mixed:=by kernel_rfl
 f6:=⟨Tryz.f190.name,by decide,Tryz.func190.trans (congrArg some (by kernel_rfl))⟩
 f14:=⟨Tryz.f261.name,by decide,Tryz.func261.trans (congrArg some (by kernel_rfl))⟩
 f15:=Tryz.func262.trans (congrArg some (by kernel_rfl))
 f20:=⟨Tryz.f311.name,by decide,Tryz.func311.trans (congrArg some (by kernel_rfl))⟩
 f21:=⟨Tryz.f312.name,by decide,Tryz.func312.trans (congrArg some (by kernel_rfl))⟩
 f22:=⟨Tryz.f313.name,by decide,Tryz.func313.trans (congrArg some (by kernel_rfl))⟩
 f23:=⟨Tryz.f314.name,by decide,Tryz.func314.trans (congrArg some (by kernel_rfl))⟩
 f24:=⟨Tryz.f315.name,by decide,Tryz.func315.trans (congrArg some (by kernel_rfl))⟩
 f25:=⟨Tryz.f316.name,by decide,Tryz.func316.trans (congrArg some (by kernel_rfl))⟩
 f26:=⟨Tryz.f317.name,by decide,Tryz.func317.trans (congrArg some (by kernel_rfl))⟩
 f27:=⟨Tryz.f318.name,by decide,Tryz.func318.trans (congrArg some (by kernel_rfl))⟩
 f28:=Tryz.func319.trans (congrArg some (by kernel_rfl))
 f29:=Tryz.func320.trans (congrArg some (by kernel_rfl))
 f46:=⟨Tryz.f347.name,by decide,Tryz.func347.trans (congrArg some (by kernel_rfl))⟩
 f47:=Tryz.func348.trans (congrArg some (by kernel_rfl))
 f48:=Tryz.func349.trans (congrArg some (by kernel_rfl))
 f49:=⟨Tryz.f350.name,by decide,Tryz.func350.trans (congrArg some (by kernel_rfl))⟩
 f50:=⟨Tryz.f351.name,by decide,Tryz.func351.trans (congrArg some (by kernel_rfl))⟩
 f57:=⟨Tryz.f367.name,by decide,Tryz.func367.trans (congrArg some (by kernel_rfl))⟩
 t0:=Tryz.underlying0
 a0:=Tryz.isAgg0
 z0:=Tryz.sizeOf0
 v0:=Tryz.zeroValue0
 t3:=Tryz.underlying3
 a3:=Tryz.isAgg3
 z3:=Tryz.sizeOf3
 v3:=Tryz.zeroValue3
 t4:=Tryz.underlying4
 a4:=Tryz.isAgg4
 z4:=Tryz.sizeOf4
 v4:=Tryz.zeroValue4
 t5:=Tryz.underlying5
 a5:=Tryz.isAgg5
 z5:=Tryz.sizeOf5
 v5:=Tryz.zeroValue5
 t9:=Tryz.underlying9
 a9:=Tryz.isAgg9
 z9:=Tryz.sizeOf9
 v9:=Tryz.zeroValue9
 t22:=Tryz.underlying24
 a22:=Tryz.isAgg24
 z22:=Tryz.sizeOf24
 v22:=Tryz.zeroValue24
 t25:=Tryz.underlying216
 a25:=Tryz.isAgg216
 z25:=Tryz.sizeOf216
 v25:=Tryz.zeroValue216
 t39:=Tryz.underlying265
 a39:=Tryz.isAgg265
 z39:=Tryz.sizeOf265
 v39:=Tryz.zeroValue265
 t45:=Tryz.underlying299
 a45:=Tryz.isAgg299
 z45:=Tryz.sizeOf299
 v45:=Tryz.zeroValue299
 t46:=Tryz.underlying300
 a46:=Tryz.isAgg300
 z46:=Tryz.sizeOf300
 v46:=Tryz.zeroValue300
 t50:=Tryz.underlying245
 a50:=Tryz.isAgg245
 z50:=Tryz.sizeOf245
 v50:=Tryz.zeroValue245
 t53:=Tryz.underlying306
 a53:=Tryz.isAgg306
 z53:=Tryz.sizeOf306
 v53:=Tryz.zeroValue306
 t55:=Tryz.underlying267
 a55:=Tryz.isAgg267
 z55:=Tryz.sizeOf267
 v55:=Tryz.zeroValue267
 t66:=Tryz.underlying330
 a66:=Tryz.isAgg330
 z66:=Tryz.sizeOf330
 v66:=Tryz.zeroValue330
 t70:=Tryz.underlying334
 a70:=Tryz.isAgg334
 z70:=Tryz.sizeOf334
 v70:=Tryz.zeroValue334
 t76:=Tryz.underlying348
 a76:=Tryz.isAgg348
 z76:=Tryz.sizeOf348
 v76:=Tryz.zeroValue348
 t77:=Tryz.underlying287
 a77:=Tryz.isAgg287
 z77:=Tryz.sizeOf287
 v77:=Tryz.zeroValue287 }
end Go.Proofs
namespace Go
namespace Rt
open Go.RowKit Go.Sort Go.Shelf Go.Proofs
section
variable {α : Type} [Inhabited α]
theorem flat_get (enc : α → List Value) (k:Nat) (hk:∀ x,(enc x).length=k):∀ (L:List α) (t:Nat),t<L.length*k→(L.map enc).flatten[t]? = (enc (L[t / k]?.getD default))[t % k]?
 | [],t,h=>by simp at h
 | x::L,t,h=>by
  have k0:0<k:=by
   rcases Nat.eq_zero_or_pos k with h' | h'
   ·subst h'; simp at h
   ·exact h'
  rw [List.map_cons,List.flatten_cons]
  rcases Nat.lt_or_ge t k with ht | ht
  ·rw [List.getElem?_append_left (by rw [hk]; exact ht),Nat.div_eq_of_lt ht,Nat.mod_eq_of_lt ht]
   rfl
  ·obtain ⟨u,rfl⟩:∃ u,t=u+k:=⟨t - k,by omega⟩
   rw [List.getElem?_append_right (by rw [hk]; omega),hk,Nat.add_sub_cancel,Nat.add_div_right _ k0,Nat.add_mod_right,flat_get enc k hk L u (by
    rw [List.length_cons,Nat.succ_mul] at h; omega)]
   rfl
theorem nQ_ (enc : α → List Value) (k:Nat) (hk:∀ x,(enc x).length=k) (d:Array α):flatK enc k d=(d.toList.map enc).flatten.toArray:=by
 have hfl:∀ (xs:List α),(xs.map enc).flatten.length=xs.length*k:=fun xs=>by
  induction xs with
  | nil=>simp
  | cons x xs ih=>rw [List.map_cons,List.flatten_cons,List.length_append,hk,ih,List.length_cons,Nat.succ_mul,Nat.add_comm]
 refine Sort.ext_get! (by rw [size_flatK,← Array.length_toList,← Array.length_toList,List.toList_toArray,hfl]) fun t ht => ?_
 rw [size_flatK] at ht
 rw [get_flatK _ _ _ t ht]
 have k0:0<k:=by
  rcases Nat.eq_zero_or_pos k with h' | h'
  ·subst h'; simp at ht
  ·exact h'
 have h1:=flat_get enc k hk d.toList t (by simpa using ht)
 have hd:t / k<d.size:=Nat.div_lt_of_lt_mul (by rwa [Nat.mul_comm] at ht)
 have e1:d.toList[t / k]?.getD default=d[t / k]! := by
  rw [getElem!_pos d _ hd,Array.getElem?_toList,Array.getElem?_eq_getElem hd]
  rfl
 rw [e1] at h1
 have hm:t % k<(enc d[t / k]!).length:=by rw [hk]; exact Nat.mod_lt _ k0
 have ht2:t<(d.toList.map enc).flatten.length:=by rw [hfl]; simpa using ht
 rw [getElem!_pos (enc d[t / k]!) _ hm,getElem!_pos (d.toList.map enc).flatten.toArray t (by simpa using ht2)]
 rw [List.getElem?_eq_getElem hm,List.getElem?_eq_getElem ht2] at h1
 simpa using (Option.some.inj h1).symm
end
section
variable {P:Program} {E:TE} {w:World} {t:Ty} {enc:Den E.S t→List Value} [Inhabited (Den E.S t)]
theorem RowQ.holdsK (he:EncOK E t enc) {e:TypeId} {xs:List (Den E.S t)} {b cap:Nat} (h:RowQ E t enc w e xs (some ⟨b,0,none⟩) cap):HoldsK enc (E.size t) w b 0 xs.toArray∧xs.length≤cap∧cap≤maxLen∧b<w.heap.size:=by
 rcases h with ⟨h,_⟩ | ⟨b',cs,hA,hh,h1,h2,h3,h4⟩
 ·cases h
 ·injection hA with hA; injection hA with hA; subst hA
  refine ⟨?_,h1,h2,?_⟩
  ·unfold HoldsK
   rw [nQ_ enc (E.size t) he.len]
   intro q hq
   have hq':q<xs.length*E.size t:=by
    rw [← eO_ he xs]
    simpa using hq
   refine ⟨?_,by unfold World.frozen?; simp only [hh]; simp⟩
   rw [Nat.zero_add,cell_of_row w b q _ e (0,0) hh]
   have:(cs.take (xs.length*E.size t))[q]? = cs[q]? := by rw [List.getElem?_take,if_pos hq']
   rw [List.getElem?_toArray,← this,h4,getElem!_pos _ q hq]
   have hq2:q<(xs.map enc).flatten.length:=by rw [eO_ he]; exact hq'
   rw [List.getElem?_eq_getElem hq2]
   simp
  ·rcases Nat.lt_or_ge b w.heap.size with h' | h'
   ·exact h'
   ·rw [Array.getElem?_eq_none h'] at hh; cases hh
def kH_ {α : Type} (key : α → Int) (x y : α):Int:=Lib.compareInt (key x) (key y)
theorem li_ {α : Type} (key : α → Int):ltOf (kH_ key)=fun x y=>decide (key x<key y):=by
 funext x y
 unfold ltOf kH_ Lib.compareInt
 by_cases h1:key x<key y
 ·simp [h1]
 ·by_cases h2:key y<key x <;> simp [h1,h2]
theorem byKey_swo {α : Type} (key : α → Int):SWO (ltOf (kH_ key)) where
 irrefl x:=by rw [li_]; simp
 trans x y z h1 h2:=by rw [li_] at *; simp at *; omega
 ntrans x y z h1 h2:=by rw [li_] at *; simp at *; omega
theorem sortF_run {ρ : Ren} (L:SlLaysF0.n6 P ρ) (he:EncOK E t enc) (aE:∀ w,(isAgg (ρ.t 24)).run P w = .ok true w) (zE:∀ w,(Go.sizeOf (ρ.t 24)).run P w = .ok (E.size t) w) (h1:∀ x,∀ v∈enc x,v.oneCell'=true) (key:Den E.S t→Int) (g:Nat)
  (eg:∀ args w,(callFunc g args).run P w = .ok (.enter g args) w) (hcmp:∀ x y W,Calls P g #[.agg (enc x).toArray,.agg (enc y).toArray] W fun e w'=>e = .returned (.int .i64 (kH_ key x y))∧∃ q os,w'=grow (W.drewN q) os)
  {e:TypeId} {xs zs:List (Den E.S t)} {A:Option Addr} {cap:Nat} (hx:RowQ E t enc w e xs A cap) (hl:dT_ key xs=some zs) :
  Ret P (ρ.f 6) #[.slice A xs.length cap,.func (.func g) #[] #[]] w fun v w'=>v = .tuple #[]∧zs.length=xs.length∧RowQ E t enc w' e zs A cap∧Grow w w'∧∀ k,k<w.heap.size→¬ cy_ A k→w'.heap[k]? = w.heap[k]? := by
 unfold dT_ at hl
 split at hl
 ·rename_i hlt
  obtain rfl:=Option.some.inj hl
  have hsz:(Sort.pdq (fun x y=>decide (key x<key y)) xs.toArray 0 xs.length (Lib.bitLen xs.length) true true).size=xs.length:=by
   have h:=pdq_sorts (ltOf (kH_ key)) (byKey_swo key) xs.toArray 0 xs.length (Lib.bitLen xs.length) true true (Nat.zero_le _) (by simp) (Or.inl rfl)
   rw [li_] at h
   simpa using h.1.1
  cases xs with
  | nil =>
   have hz:(Sort.pdq (fun x y=>decide (key x<key y)) ([]:List (Den E.S t)).toArray 0 ([]:List (Den E.S t)).length (Lib.bitLen ([]:List (Den E.S t)).length) true true).toList=[]:=List.length_eq_zero_iff.1 (by rw [Array.length_toList,hsz]; rfl)
   refine Calls.mono (AnyF.slices_SortFunc_none L A cap _ w) fun e w' ⟨he,hw⟩=>⟨_,he,rfl,by rw [hz],?_,?_,fun k _ _ => ?_⟩
   ·subst hw; rw [hz]; exact hx
   ·subst hw; exact Grow.refl _
   ·subst hw; rfl
  | cons x xs =>
   obtain ⟨b,rfl⟩:∃ b,A=some ⟨b,0,none⟩:=by
    rcases hx with ⟨_,_,h⟩ | ⟨b,_,h,_⟩
    ·cases h
    ·exact ⟨b,h⟩
   obtain ⟨hH,h2,h3,hb⟩:=hx.holdsK he
   have hc:CmpLays P g #[] enc (E.size t) (kH_ key) b 0 (x::xs).toArray.size w:=fun m os dk hs x y=>hcmp x y _
   refine Calls.mono (AnyQ.slices_SortFunc_eq L (E.size t) aE zE enc he.len h1 (kH_ key) (byKey_swo key) g #[] b 0 cap (x::xs).toArray w eg hc hH hb (by simpa using hlt)) fun e w' ⟨he',q,os,hw⟩=>⟨_,he',rfl,?_⟩
   have hb1:Lib.bitLen (x::xs).toArray.size=Lib.bitLen (x::xs).length:=by simp
   rw [li_,hb1] at hw
   generalize hd:Sort.pdq (fun x y=>decide (key x<key y)) (x::xs).toArray 0 (x::xs).length (Lib.bitLen (x::xs).length) true true=d at *
   have hw2:w'=grow (putRow id (Sort.ahead w q) b 0 (flatK enc (E.size t) d)) os:=by
    rw [hw,← hd]; rfl
   rw [nQ_ enc (E.size t) he.len] at hw2
   have hlen:d.toList.length=(x::xs).length:=by rw [Array.length_toList,hsz]
   obtain ⟨r1,r2,r3⟩:=hx.put (E:=E) (t:=t) (enc:=enc) (w':=w') (zs:=d.toList) (Nat.le_of_eq hlen) id (d.toList.map enc).flatten.toArray (by
    rw [List.size_toArray,eO_ he,hlen]) (by
    rw [List.map_id,List.toList_toArray,List.take_of_length_le]
    exact Nat.le_of_eq (eO_ he _)) q os hw2
   exact ⟨hlen,r1,r2,fun k hk hn=>r3 k hk fun e=>hn ⟨_,rfl,e⟩⟩
 ·cases hl
end
end Rt
end Go
namespace Go.Proofs.YtebokaoegomboaaGreatDoor
open Go.RowKit Go.Rt Go.Sort
def encN (x:api_Node):List Value:=[.int .i64 x.Id_,.int .i64 x.Parent_,.int .i64 x.Vers_,S x.Name_,.int .i64 x.Mode_,S x.Uid_,S x.Gid_,S x.Muid_,.int .i64 x.Atime_,.int .i64 x.Mtime_,S x.Data_]
theorem encN_ok:EncOK te (.st nodeN) encN:=⟨fun z x r h=>by
  obtain ⟨v1,e1,h⟩:=RD.int_inv h
  obtain ⟨v2,e2,h⟩:=RD.int_inv h
  obtain ⟨v3,e3,h⟩:=RD.int_inv h
  obtain ⟨v4,e4,h⟩:=RD.str_inv h
  obtain ⟨v5,e5,h⟩:=RD.int_inv h
  obtain ⟨v6,e6,h⟩:=RD.str_inv h
  obtain ⟨v7,e7,h⟩:=RD.str_inv h
  obtain ⟨v8,e8,h⟩:=RD.str_inv h
  obtain ⟨v9,e9,h⟩:=RD.int_inv h
  obtain ⟨v10,e10,h⟩:=RD.int_inv h
  obtain ⟨v11,e11,h⟩:=RD.str_inv h
  rw [e1,e2,e3,e4,e5,e6,e7,e8,e9,e10,e11,h.nil_inv]
  rfl,fun z x => .int (.int (.int (.str (.int (.str (.str (.str (.int (.int (.str .nil))))))))))⟩
set_option maxHeartbeats 1000000 in
theorem nanI (x:Int) (W:World):Calls Tryz.prog 263 #[.int .i64 x] W fun e w'=>e = .returned (.bool false)∧w'=W:=by
 go_enter Tryz.func263,Tryz.ntmps263
 go_wp2
 go_ret
 exact ⟨rfl,rfl⟩
set_option maxHeartbeats 1000000 in
theorem compareI (x y:Int) (W:World):Calls Tryz.prog 192 #[.int .i64 x,.int .i64 y] W fun e w'=>e = .returned (.int .i64 (Lib.compareInt x y))∧w'=W:=by
 go_enter Tryz.func192,Tryz.ntmps192
 go_wp2_with (go_at_call 263; refine (nanI _ _).mono ?_; rintro e w' ⟨rfl,hw⟩; rw [hw])
 all_goals (go_ret; refine ⟨?_,rfl⟩; unfold Lib.compareInt; (repeat' split) <;> first | rfl | (exfalso; omega))
set_option maxHeartbeats 4000000 in
theorem closureN (x y:api_Node) (W:World):Calls Tryz.prog 191 #[.agg (encN x).toArray,.agg (encN y).toArray] W fun e w'=>e = .returned (.int .i64 (kH_ (fun (n:api_Node)=>n.Id_) x y))∧∃ q os,w'=grow (W.drewN q) os:=by
 unfold kH_
 simp only
 have hcon:=fun W=>compareI x.Id_ y.Id_ W
 generalize Lib.compareInt x.Id_ y.Id_=r at hcon ⊢
 unfold encN
 cases x
 cases y
 go_enter Tryz.func191,Tryz.ntmps191
 go_wp2_with (go_at_call 192; refine (hcon _).mono ?_; rintro e w' ⟨rfl,rfl⟩)
 go_ret
 rw [alloc_eq_grow,alloc_eq_grow,grow_grow]
 exact ⟨rfl,0,_,rfl⟩
def nR_:InlF te:=fun H _ xs _ k=>match xs with
 | [.one (.own id),.one (.clo g [])]=>match Nat.beq g 191,H id with
  | true,some (.row e t ys _)=>match Nat.beq e 81 with
   | true=>if h:t = .st nodeN then Option.bind (dT_ (fun (x:api_Node)=>x.Id_) (eY_ (E:=te) h ys)) fun zs=>k (some (.tup [])) [(id,some (.row e (.st nodeN) zs []))] else none
   | false=>none
  | _,_=>none
 | _=>none
theorem qe_:InlOK Tryz.prog te 190 nR_∧df_ Tryz.prog 190=true:=by
 refine ⟨?_,by kernel_rfl⟩
 intro z g nx H xs vs R k r Bs F0 w0 w hnx hH hv h
 unfold nR_ at h
 split at h
 ·rename_i id fn
  split at h
  ·rename_i e t ys foc hg hi
   obtain rfl:=Nat.eq_of_beq_eq_true hg
   split at h
   ·rename_i he
    obtain rfl:=Nat.eq_of_beq_eq_true he
    split at h
    ·rename_i ht
     subst ht
     obtain ⟨zs,hs,h⟩:=bind_some h
     have hs':dT_ (fun (x:api_Node)=>x.Id_) ys=some zs:=hs
     obtain ⟨l0,g0,n0,c0,r0⟩:=rowQ_of encN_ok (hH.hold _ _ hi)
     cases hv with
     | cons v1 hv=>cases hv with
      | cons v2 hv =>
       cases hv
       obtain ⟨l1,e0,rfl⟩:=v1
       rw [g0] at e0; obtain rfl:=Option.some.inj e0
       obtain ⟨us,rfl,hu⟩:=v2
       cases hu
       rw [n0]
       letI:Inhabited (Den te.S (.st nodeN)):=(inferInstance:Inhabited api_Node)
       have hrun:=sortF_run (P:=Tryz.prog) (E:=te) (t := .st nodeN) (enc:=encN) Tryz.laysSortF encN_ok Tryz.isAgg81 Tryz.sizeOf81 (fun x v hv=>by
        simp only [encN,List.mem_cons,List.not_mem_nil,or_false] at hv
        rcases hv with rfl | rfl | rfl | rfl | rfl | rfl | rfl | rfl | rfl | rfl | rfl <;> rfl) (fun (x:api_Node)=>x.Id_) 191 (enters_of Tryz.func191 (by kernel_rfl) rfl) (fun x y W=>closureN x y W) r0 hs'
       refine Ret.mono (f:=190) hrun fun v w' ⟨hv',hlen,hr',hg',hk'⟩ => ?_
       subst hv'
       refine ⟨.tup [],_,z,g,h,Fz.Le.refl z,Ga.Le.refl g,(fun i hi=>hnx i (Nat.le_trans (by omega) (Nat.le_trans (kW_ nx _) hi))),⟨[],rfl,.nil⟩,?_⟩
       exact hH.rowQ encN_ok (i:=id) (i':=id) (xs:=ys) (zs:=zs) hi g0 (Ga.Le.refl g) g0 rfl (n0.trans hlen.symm) c0 hg' hk' hr' fun j o hj=>by
        rcases bN_ hj with h | ⟨h1,h2⟩
        ·exact .inl h
        ·exact .inr ⟨h1,h1,h2⟩
    ·cases h
   ·cases h
  ·cases h
 ·cases h
end Go.Proofs.YtebokaoegomboaaGreatDoor
namespace Go.Proofs.YtebokaoegomboaaGreatDoor
open Go.Rt Go.RowKit
noncomputable section
def c_10:Con te:=ai_ te [.d (.st 8)] [(.bool,[])] false fun a=>gQ_ a.1
theorem ok_10:OKF 10 c_10:=⟨ad_ af_ ae_ Tryz.func10 (by kernel_rfl) (pl := .s .p (.s .p (.s .p (.s (.s .p (.lp ⟨[(49,.d (.int .i64))],[],[1,3,48],[0,5],[],27022⟩ ⟨[],[],[1,3],[0,5],[],27022⟩ true .p)) (.s (.s .p (.lp ⟨[(65,.d (.int .i64))],[],[1,3,64],[0,5],[],27027⟩ ⟨[],[],[1],[0],[],27027⟩ true .p)) (.s (.s .p (.lp ⟨[(93,.d (.int .i64))],[],[1,92],[0],[],27032⟩ ⟨[],[],[1],[0],[],27032⟩ true .p)) (.s (.s .p (.lp ⟨[(120,.d (.int .i64))],[],[1,119],[0],[],27036⟩ ⟨[],[],[],[],[],27036⟩ true .p)) .p))))))) fun _=>by kernel_rfl,by kernel_rfl⟩
def c_83:Con te:=ai_ te [.d .str] [(.bool,[])] false fun a=>eu_ a.1
theorem ok_83:OKF 83 c_83:=⟨ad_ af_ ae_ Tryz.func83 (by kernel_rfl) (pl := .s .p (.s .p (.s (.s .p (.lp ⟨[(3,.d (.int .i64))],[],[0],[],[],4006⟩ ⟨[],[],[],[],[],4006⟩ true .p)) .p))) fun _=>by kernel_rfl,by kernel_rfl⟩
def c_203:Con te:=ai_ te [.d (.sl (.st 0)),.d .str] [(.int .i64,[])] false fun a=>hw_ a.1 a.2.1
theorem ok_203:OKF 203 c_203:=⟨ad_ af_ ae_ Tryz.func203 (by kernel_rfl) (pl := .s .p (.s (.s .p (.lp ⟨[(8,.d (.int .i64))],[],[0,1,7],[],[],4⟩ ⟨[],[],[],[],[],4⟩ true .p)) .p)) fun _=>by kernel_rfl,by kernel_rfl⟩
def c_146:Con te:=ai_ te [.d (.sl (.st 0)),.d (.int .i64)] [(.int .i64,[])] false fun a=>gc_ a.1 a.2.1
theorem ok_146:OKF 146 c_146:=⟨ad_ af_ (ab_ ok_203 (ab_ ok_83 ae_)) Tryz.func146 (by kernel_rfl) (pl := .s .p (.s .p (.s .p (.s (.s .p (.lp ⟨[(37,.d (.int .i64))],[],[0,5,36],[5],[],6030⟩ ⟨[],[],[],[],[],6030⟩ true (.s .p (.s .p (.s (.s .p (.s (.dr [0,0,0,0,0,0,0,0,0,0,0,0,0,0,0,0,0,0,0,0,0,0,0,0,0,0] [] false []) .p)) .p))))) .p)))) fun _=>by kernel_rfl,by kernel_rfl⟩
def c_81:Con te:=ai_ te [.d (.sl (.st 0))] [(.int .i64,[])] false fun a=>jn_ a.1
theorem ok_81:OKF 81 c_81:=⟨ad_ af_ (ab_ ok_146 ae_) Tryz.func81 (by kernel_rfl) (pl := .s .p (.s .p (.s (.s .p (.lp ⟨[(10,.d (.int .i64))],[],[0,9],[],[],7⟩ ⟨[],[],[],[],[],7⟩ true .p)) .p))) fun _=>by kernel_rfl,by kernel_rfl⟩
def c_82:Con te:=ai_ te [.d (.sl (.st 1))] [(.int .i64,[])] false fun a=>jo_ a.1
theorem ok_82:OKF 82 c_82:=⟨ad_ af_ (ab_ ok_83 ae_) Tryz.func82 (by kernel_rfl) (pl := .s .p (.s .p (.s (.s .p (.lp ⟨[(3,.d (.int .i64))],[],[0],[],[],5⟩ ⟨[],[],[],[],[],5⟩ true (.s .p (.s (.s .p (.s .p (.s (.s (.dr [0,0,0,0,0,0,0,0,0,0,0,0,0] [] false []) .p) .p))) .p)))) .p))) fun _=>by kernel_rfl,by kernel_rfl⟩
def c_172:Con te:=ai_ te [.d (.int .i64)] [(.bool,[])] false fun a=>kv_ a.1
theorem ok_172:OKF 172 c_172:=⟨ad_ af_ ae_ Tryz.func172 (by kernel_rfl) (pl := .p) fun _=>by kernel_rfl,by kernel_rfl⟩
def c_108:Con te:=ai_ te [.d (.int .i64)] [(.bool,[])] false fun a=>bO_ a.1
theorem ok_108:OKF 108 c_108:=⟨ad_ af_ ae_ Tryz.func108 (by kernel_rfl) (pl := .p) fun _=>by kernel_rfl,by kernel_rfl⟩
def c_106:Con te:=ai_ te [.d (.st 2)] [(.bool,[])] false fun a=>fO_ a.1
theorem ok_106:OKF 106 c_106:=⟨ad_ af_ (ab_ ok_108 (ab_ ok_172 ae_)) Tryz.func106 (by kernel_rfl) (pl := .p) fun _=>by kernel_rfl,by kernel_rfl⟩
def c_107:Con te:=ai_ te [.d .str] [(.bool,[])] false fun a=>jp_ a.1
theorem ok_107:OKF 107 c_107:=⟨ad_ af_ ae_ Tryz.func107 (by kernel_rfl) (pl := .s .p (.s (.s .p (.lp ⟨[(3,.d (.int .i64))],[],[0],[],[],2⟩ ⟨[],[],[0],[],[],2⟩ true .p)) .p)) fun _=>by kernel_rfl,by kernel_rfl⟩
def c_40:Con te:=ai_ te [.d (.st 3)] [(.bool,[])] false fun a=>dN_ a.1
theorem ok_40:OKF 40 c_40:=⟨ad_ af_ (ab_ ok_108 (ab_ ok_107 (ab_ ok_106 ae_))) Tryz.func40 (by kernel_rfl) (pl := .s .p (.s .p (.s .p (.s (.s (.dr [0,0,0,0,0,0,0,0,0,0,0,0,0,0,0] [] false []) .p) (.s (.s .p (.lp ⟨[(4,.d (.int .i64))],[],[3],[],[],38027⟩ ⟨[],[],[],[],[],38027⟩ true (.s .p (.s (.s (.s (.dr [0,0,0,0,0,0,0,0,0,0,0,0,0,0,0,0,0,0,0,0,0,0,0,0,0,0,0,0,0,0,0,0,0,0,0,0,0,0,0,0,0,0] [] false []) .p) (.s .p (.s (.s .p (.lp ⟨[(5,.d .bool),(6,.d (.int .i64))],[],[3,4],[],[],65048⟩ ⟨[(5,.d .bool)],[],[3,4],[],[],65048⟩ true (.s .p (.s (.s (.dr [0,0,0,0,0,0,0,0,0,0,0,0,0,0,0,0,0,0,0,0,0,0,0] [] false []) (.s (.dr [0,0,0,0,0,0,0,0,0,0,0,0,0,0,0,0,0,0,0,0,0,0,0,0,0,0,0,0] [] false []) .p)) .p)))) .p))) .p)))) .p))))) fun _=>by kernel_rfl,by kernel_rfl⟩
def c_139:Con te:=ai_ te [.d (.st 3),.d (.int .i64)] [(.int .i64,[])] false fun a=>l4_ a.1 a.2.1
theorem ok_139:OKF 139 c_139:=⟨ad_ af_ ae_ Tryz.func139 (by kernel_rfl) (pl := .s .p (.s (.s .p (.lp ⟨[(5,.d (.int .i64))],[],[1,2],[0],[],4⟩ ⟨[],[],[],[],[],4⟩ true .p)) .p)) fun _=>by kernel_rfl,by kernel_rfl⟩
def c_68:Con te:=ai_ te [.d (.st 3),.d (.int .i64)] [(.st 2,[]),(.bool,[])] false fun a=>cg_ a.1 a.2.1
theorem kI_:OKF 68 c_68:=⟨ad_ af_ (ab_ ok_139 ae_) Tryz.func68 (by kernel_rfl) (pl := .p) fun _=>by kernel_rfl,by kernel_rfl⟩
def c_98:Con te:=ai_ te [.d (.int .i64),.d (.int .i64)] [(.bool,[])] false fun a=>dO_ a.1 a.2.1
theorem ok_98:OKF 98 c_98:=⟨ad_ af_ ae_ Tryz.func98 (by kernel_rfl) (pl := .p) fun _=>by kernel_rfl,by kernel_rfl⟩
def c_37:Con te:=ai_ te [.d (.st 4)] [(.bool,[])] false fun a=>jq_ a.1
theorem ok_37:OKF 37 c_37:=⟨ad_ af_ (ab_ ok_98 (ab_ kI_ (ab_ ok_40 (ab_ ok_82 (ab_ ok_81 ae_))))) Tryz.func37 (by kernel_rfl) (pl := .s .p (.s .p (.s (.s .p (.lp ⟨[(25,.d (.int .i64))],[],[1,24],[0],[],10013⟩ ⟨[],[],[],[],[],10013⟩ true (.s .p (.s .p (.s (.s .p (.s (.dr [0,0,0,0,0,0,0,0,0,0,4,1,2,4] [10] false []) (.s (.dr [0,0,0,0,0,0,0,0,0,0,0,0,0,0,0,0,0,0,0,0,0,0,0,0,0,0] [] false []) .p))) .p))))) .p))) fun _=>by kernel_rfl,by kernel_rfl⟩
def c_99:Con te:=ai_ te [.d (.int .i64)] [(.bool,[])] false fun a=>rl_ a.1
theorem ok_99:OKF 99 c_99:=⟨ad_ af_ ae_ Tryz.func99 (by kernel_rfl) (pl := .p) fun _=>by kernel_rfl,by kernel_rfl⟩
def c_100:Con te:=ai_ te [.d (.sl (.st 5)),.d .str] [(.int .i64,[])] false fun a=>k7_ a.1 a.2.1
theorem ok_100:OKF 100 c_100:=⟨ad_ af_ ae_ Tryz.func100 (by kernel_rfl) (pl := .s .p (.s (.s .p (.lp ⟨[(5,.d (.int .i64))],[],[0,1],[],[],2⟩ ⟨[],[],[],[],[],2⟩ true .p)) .p)) fun _=>by kernel_rfl,by kernel_rfl⟩
def c_38:Con te:=ai_ te [.d (.st 6)] [(.bool,[])] false fun a=>gR_ a.1
theorem ok_38:OKF 38 c_38:=⟨ad_ af_ (ab_ ok_100 (ab_ ok_99 ae_)) Tryz.func38 (by kernel_rfl) (pl := .s .p (.s .p (.s (.s .p (.lp ⟨[(3,.d (.int .i64))],[],[1],[0],[],11009⟩ ⟨[],[],[],[],[],11009⟩ true (.s .p (.s (.s .p (.s (.dr [0,0,0,0,0,0,0,0,0,0,0,0,0,0,0,0,0,0,0,0,0,0,0,0,0,0] [] false []) .p)) .p)))) .p))) fun _=>by kernel_rfl,by kernel_rfl⟩
def c_337:Con te:=ai_ te [.d (.int .u64),.d (.int .i64)] [(.str,[])] false fun a=>fP_ a.1 a.2.1
theorem ok_337:OKF 337 c_337:=⟨ad_ af_ ae_ Tryz.func337 (by kernel_rfl) (pl := .s .p (.s .p (.s (.s .p (.lp ⟨[(0,.d (.int .u64)),(5,.d .str),(6,.d (.int .i64))],[],[1],[],[],3⟩ ⟨[(5,.d .str)],[],[],[],[],3⟩ false .p)) .p))) fun _=>by kernel_rfl,by kernel_rfl⟩
def c_335:Con te:=ai_ te [.d .str] [(.str,[])] false fun a=>h5_ a.1
theorem ok_335:OKF 335 c_335:=⟨ad_ af_ (ab_ ok_337 ae_) Tryz.func335 (by kernel_rfl) (pl := .s .p (.s .p (.s (.lp ⟨[(3,.d .str)],[],[0],[],[],4⟩ ⟨[(3,.d .str)],[],[0],[],[],4⟩ false .p) .p))) fun _=>by kernel_rfl,by kernel_rfl⟩
def c_358:Con te:=ai_ te [] [(.sl (.int .u32),[some 306])] false fun _=>lE_
theorem ok_358:OKF 358 c_358:=⟨ad_ af_ ae_ Tryz.func358 (by kernel_rfl) (pl := .p) fun _=>by kernel_rfl,by kernel_rfl⟩
def c_360:Con te:=ai_ te [.d (.int .u32),.d (.int .i64)] [(.int .u32,[])] false fun a=>aN_ a.1 a.2.1
theorem ok_360:OKF 360 c_360:=⟨ad_ af_ ae_ Tryz.func360 (by kernel_rfl) (pl := .s .p (.s (.dr [0,0,0,0,0,0,0,0,0] [] false []) .p)) fun _=>by kernel_rfl,by kernel_rfl⟩
def c_359:Con te:=ai_ te [.d .str] [(.sl (.int .u32),[some 306])] false fun a=>gf_ a.1
theorem ok_359:OKF 359 c_359:=⟨ad_ af_ (ab_ ok_360 ae_) Tryz.func359 (by kernel_rfl) (pl := .s .p (.s .p (.s (.s .p (.lp ⟨[(3,.one (.own 3)),(4,.d (.int .i64))],[(3,false,.row 306 (.int .u32) [])],[0],[],[],4⟩ ⟨[(3,.one (.own 3))],[(3,false,.row 306 (.int .u32) [])],[],[],[],4⟩ false (.s .p (.s (.dr [0,0,0,0,0,0,0,0,0,0,0,0,0,0,0,0,0,0,0,0,0,0,0,0,0,0,0,0,0,0,1,2,4] [] false []) .p)))) (.s (.s .p (.lp ⟨[(3,.one (.own 5)),(5,.d (.int .i64))],[(5,false,.row 306 (.int .u32) [])],[],[],[],6⟩ ⟨[(3,.one (.own 5))],[(5,false,.row 306 (.int .u32) [])],[],[],[],6⟩ false (.s .p (.s (.s (.dr [0,0,0,0,0,0,0,0,0,0,0,0] [] false []) (.s .p (.s .p (.dr [0,0,0,0,0,0,0,0,0,0,0,0,0,0,0,0,1,2,4] [] false [])))) .p)))) .p)))) fun _=>by kernel_rfl,by kernel_rfl⟩
end
end Go.Proofs.YtebokaoegomboaaGreatDoor
namespace Go.Proofs.YtebokaoegomboaaGreatDoor
open Go.Rt Go.RowKit
noncomputable section
def c_336:Con te:=ai_ te [.d (.sl (.int .u32)),.d .str] [(.sl (.int .u32),[some 306])] false fun a=>js_ a.1 a.2.1
theorem ok_336:OKF 336 c_336:=⟨ad_ af_ (ab_ ok_360 (ab_ ok_359 (ab_ ok_358 ae_))) Tryz.func336 (by kernel_rfl) (pl := .s .p (.s .p (.s (.dr [0,0,0,0,0,0,0,0,0,0,0,0,0,0,0,0] [] false []) (.s (.dr [0,0,0,0,0,0,0,0,0,0,0,0,0,0,0,0] [] false []) (.s (.s .p (.lp ⟨[(7,.d (.int .u32)),(8,.d (.int .u32)),(9,.d (.int .u32)),(10,.d (.int .u32)),(11,.d (.int .u32)),(12,.d (.int .u32)),(13,.d (.int .u32)),(14,.d (.int .u32)),(15,.d (.int .i64))],[(1,true,.row 306 (.int .u32) []),(4,true,.row 306 (.int .u32) [])],[0,5,6],[],[],41⟩ ⟨[(7,.d (.int .u32)),(8,.d (.int .u32)),(9,.d (.int .u32)),(10,.d (.int .u32)),(11,.d (.int .u32)),(12,.d (.int .u32)),(13,.d (.int .u32)),(14,.d (.int .u32))],[],[0],[],[],41⟩ false (.s .p (.s (.s (.dr [0,0,0,0,0,0,0,0,0,0,0,0,0,0,0,0,0,0,0,0,0,0,0,0,0,0,0,0,0,0] [] false []) .p) .p)))) (.s (.dr [0,0,0,0,0,0,0,0,0,0,0,0,0,0,0,0,0,0,0,0,0,0,0,0,0,0,0,0,0,0,0,0,0,0,0,0,0,0,0,0,1,4] [] false []) .p)))))) fun _=>by kernel_rfl,by kernel_rfl⟩
def c_296:Con te:=ai_ te [.d .str] [(.str,[])] false fun a=>lF_ a.1
theorem ok_296:OKF 296 c_296:=⟨ad_ af_ (ab_ ok_337 (ab_ ok_336 (ab_ ok_335 ae_))) Tryz.func296 (by kernel_rfl) (pl := .s .p (.s .p (.s .p (.s (.s .p (.lp ⟨[(3,.one (.own 8)),(5,.d (.int .i64))],[(8,false,.row 306 (.int .u32) [])],[4],[],[],9⟩ ⟨[(3,.one (.own 8))],[(8,false,.row 306 (.int .u32) [])],[],[],[],9⟩ false .p)) (.s .p (.s (.s .p (.lp ⟨[(6,.d .str),(7,.d (.int .i64))],[(8,true,.row 306 (.int .u32) [])],[3],[],[],11⟩ ⟨[(6,.d .str)],[],[],[],[],11⟩ false .p)) .p)))))) fun _=>by kernel_rfl,by kernel_rfl⟩
def c_237:Con te:=ai_ te [.d (.int .i64),.d .str] [(.str,[])] false fun a=>jt_ a.1 a.2.1
theorem ok_237:OKF 237 c_237:=⟨ad_ af_ (ab_ ok_296 ae_) Tryz.func237 (by kernel_rfl) (pl := .p) fun _=>by kernel_rfl,by kernel_rfl⟩
def c_168:Con te:=ai_ te [.d (.st 6),.d .str,.d (.int .i64)] [(.str,[]),(.int .i64,[])] false fun a=>lG_ a.1 a.2.1 a.2.2.1
theorem ok_168:OKF 168 c_168:=⟨ad_ af_ (ab_ ok_237 (ab_ ok_100 ae_)) Tryz.func168 (by kernel_rfl) (pl := .p) fun _=>by kernel_rfl,by kernel_rfl⟩
def c_101:Con te:=ai_ te [.d (.st 6),.d .str,.d (.int .i64)] [(.str,[]),(.int .i64,[])] false fun a=>ff_ a.1 a.2.1 a.2.2.1
theorem ok_101:OKF 101 c_101:=⟨ad_ af_ (ab_ ok_168 ae_) Tryz.func101 (by kernel_rfl) (pl := .p) fun _=>by kernel_rfl,by kernel_rfl⟩
def c_102:Con te:=ai_ te [.b 135 (.st 9),.d (.int .i64)] [(.int .i64,[])] false fun a=>az_ a.1 a.2.1
theorem ok_102:OKF 102 c_102:=⟨ad_ af_ ae_ Tryz.func102 (by kernel_rfl) (pl := .s .p (.s (.s (.dr [0,0,0,0,0,0,0,0,0,0,0,0,0,0,0,0,0,0] [] false []) .p) (.s .p (.s (.s .p (.lp ⟨[(5,.d (.int .i64)),(6,.d (.int .i64))],[],[0,1],[0],[],13011⟩ ⟨[(5,.d (.int .i64))],[],[0,1],[0],[],13011⟩ true (.s .p (.s (.s .p (.dr [0,0,0,0,0,0,0,0,0,0,0,0,0,0,0,0] [] false [])) .p)))) .p)))) fun _=>by kernel_rfl,by kernel_rfl⟩
def c_169:Con te:=ai_ te [.b 135 (.st 9),.d (.int .i64)] [(.str,[])] false fun a=>bo_ a.1 a.2.1
theorem ok_169:OKF 169 c_169:=⟨ad_ af_ ae_ Tryz.func169 (by kernel_rfl) (pl := .s .p (.s (.s (.dr [0,0,0,0,0,0,0,0,0,0,0,0,0,0,0,0,0,0] [] false []) .p) (.s .p (.s (.dr [0,0,0,0,0,0,0,0,0,0,0,0,0,0,0,0] [] false []) .p)))) fun _=>by kernel_rfl,by kernel_rfl⟩
def c_103:Con te:=ai_ te [.b 135 (.st 9)] [(.st 2,[]),(.st 10,[])] false fun a=>dU_ a.1
theorem ok_103:OKF 103 c_103:=⟨ad_ af_ (ab_ ok_169 (ab_ ok_102 ae_)) Tryz.func103 (by kernel_rfl) (pl := .s .p (.s .p (.s .p (.s .p (.s .p (.s .p (.s .p (.s .p (.s .p (.s .p (.s .p (.s .p (.s .p (.s .p (.s (.dr [0,0,1,1] [] true [1,3]) .p))))))))))))))) fun _=>by kernel_rfl,by kernel_rfl⟩
def c_238:Con te:=ai_ te [.d (.int .i64)] [(.int .i64,[])] false fun a=>h7_ a.1
theorem ok_238:OKF 238 c_238:=⟨ad_ af_ ae_ Tryz.func238 (by kernel_rfl) (pl := .s .p (.s .p (.s .p (.s (.lp ⟨[(3,.d (.int .i64)),(4,.d (.int .i64))],[],[],[],[],8⟩ ⟨[(4,.d (.int .i64))],[],[],[],[],8⟩ false .p) .p)))) fun _=>by kernel_rfl,by kernel_rfl⟩
def c_170:Con te:=ai_ te [.d (.st 10)] [(.bool,[])] false fun a=>gS_ a.1
theorem ok_170:OKF 170 c_170:=⟨ad_ af_ (ab_ ok_238 ae_) Tryz.func170 (by kernel_rfl) (pl := .s .p (.s (.dr [0,0,0,0,0,0,0,0,0,0,0,0,0,0,0,0,0,0,0,0,0,0,0] [] false []) .p)) fun _=>by kernel_rfl,by kernel_rfl⟩
def c_297:Con te:=ai_ te [.d (.int .i64)] [(.int .i64,[])] false fun a=>gg_ a.1
theorem ok_297:OKF 297 c_297:=⟨ad_ af_ ae_ Tryz.func297 (by kernel_rfl) (pl := .s .p (.s .p (.s (.s .p (.lp ⟨[(3,.d (.int .i64)),(4,.d (.int .i64))],[],[0],[],[],3⟩ ⟨[(3,.d (.int .i64))],[],[],[],[],3⟩ false .p)) .p))) fun _=>by kernel_rfl,by kernel_rfl⟩
def cS_239 (rec0:api_Store→Str→Int→Int→Int→Int→Int→Bool→Option (Str × Int)):Con te:=ai_ te [.d (.st 6),.d .str,.d (.int .i64),.d (.int .i64),.d (.int .i64),.d (.int .i64),.d (.int .i64),.d .bool] [(.str,[]),(.int .i64,[])] false fun a=>rec0 a.1 a.2.1 a.2.2.1 a.2.2.2.1 a.2.2.2.2.1 a.2.2.2.2.2.1 a.2.2.2.2.2.2.1 a.2.2.2.2.2.2.2.1
theorem okS_239 (rec0:api_Store→Str→Int→Int→Int→Int→Int→Bool→Option (Str × Int)) (h:OKF 239 (cS_239 rec0)):OKF 239 (cS_239 (eJ_ rec0)):=⟨ad_ af_ (ab_ ok_297 (ab_ ok_101 (ab_ h ae_))) Tryz.func239 (by kernel_rfl) (pl := .s .p (.s .p (.s .p (.s .p (.s .p (.s .p (.s .p (.s .p (.s (.s .p (.lp ⟨[(24,.d .str),(25,.d (.int .i64))],[],[2,3,4,5,6,7,8,20,22,23],[0],[],34⟩ ⟨[(24,.d .str)],[],[],[],[],34⟩ true (.s .p (.j ⟨[(24,.d .str)],[],[2,3,4,5,6,7,8,20,22,23,25],[0],[],37⟩ true (.s .p (.s .p (.s .p (.s (.dr [0,0,0,0,0,0,0,0,0,0,0,0,0,0,0,0,0,0,0,0,0] [] false []) .p)))) .p)))) .p))))))))) fun _=>by kernel_rfl,by kernel_rfl⟩
theorem okN_239:∀ n,OKF 239 (cS_239 (ei_ n))
 | 0=>⟨h4_ fun _=>rfl,by kernel_rfl⟩
 | n+1=>okS_239 _ (okN_239 n)
def c_239:Con te:=cS_239 (ei_ BIG)
theorem ok_239:OKF 239 c_239:=okN_239 BIG
def c_171:Con te:=ai_ te [.d (.st 6),.d (.int .i64),.d (.st 10)] [(.str,[]),(.int .i64,[])] false fun a=>cV_ a.1 a.2.1 a.2.2.1
theorem ok_171:OKF 171 c_171:=⟨ad_ af_ (ab_ ok_239 (ab_ ok_170 ae_)) Tryz.func171 (by kernel_rfl) (pl := .p) fun _=>by kernel_rfl,by kernel_rfl⟩
def cS_104 (rec0:api_Store→api_Node→api_Root→Int→Option ((List api_Node) × Int)):Con te:=ai_ te [.d (.st 6),.d (.st 2),.d (.st 10),.d (.int .i64)] [(.sl (.st 2),[]),(.int .i64,[])] true fun a=>rec0 a.1 a.2.1 a.2.2.1 a.2.2.2.1
theorem okS_104 (rec0:api_Store→api_Node→api_Root→Int→Option ((List api_Node) × Int)) (h:OKF 104 (cS_104 rec0)):OKF 104 (cS_104 (cC_ rec0)):=⟨ad_ af_ (ab_ ok_103 (ab_ ok_171 (ab_ ok_108 (ab_ ok_170 (ab_ h ae_))))) Tryz.func104 (by kernel_rfl) (pl := .s .p (.s .p (.s .p (.s .p (.s .p (.s .p (.s .p (.s .p (.s (.lp ⟨[(14,.one (.own 4032)),(15,.one (.own 4033))],[(4032,false,.row 81 (.st 2) []),(4033,false,.row 137 (.st 10) []),(4029,true,.box 135 (.st 9))],[3,4,5,12,16],[0,2],[],4034⟩ ⟨[(14,.one (.own 4032)),(15,.one (.own 4033))],[(4032,false,.row 81 (.st 2) []),(4033,false,.row 137 (.st 10) [])],[3,4,5],[0,2],[],4034⟩ true .p) (.s .p (.s (.s .p (.lp ⟨[(19,.one (.own 4039)),(20,.d (.int .i64))],[(4032,true,.row 81 (.st 2) []),(4033,true,.row 137 (.st 10) []),(4039,false,.row 81 (.st 2) [])],[3,4,14,15],[0],[],4040⟩ ⟨[(19,.one (.own 4039))],[(4039,false,.row 81 (.st 2) [])],[],[],[],4040⟩ true (.s .p (.s (.s (.dr [0,0,0,0,0,0,0,0,0,0,0,0,0,1,4,4,4,4,4] [] false []) .p) .p)))) .p))))))))))) fun _=>by kernel_rfl,by kernel_rfl⟩
theorem okN_104:∀ n,OKF 104 (cS_104 (ch_ n))
 | 0=>⟨h4_ fun _=>rfl,by kernel_rfl⟩
 | n+1=>okS_104 _ (okN_104 n)
def c_104:Con te:=cS_104 (ch_ BIG)
theorem ok_104:OKF 104 c_104:=okN_104 BIG
def c_105:Con te:=ai_ te [.d (.sl (.st 2))] [(.sl (.st 2),[])] true fun a=>h8_ a.1
theorem ok_105:OKF 105 c_105:=⟨ad_ af_ ae_ Tryz.func105 (by kernel_rfl) (pl := .s .p (.s .p (.s (.s .p (.lp ⟨[(3,.d (.sl (.st 2))),(4,.d (.int .i64))],[],[0],[],[],3⟩ ⟨[(3,.d (.sl (.st 2)))],[],[],[],[],3⟩ false (.s .p (.s (.s .p (.s (.lp ⟨[(5,.d (.int .i64))],[],[0,3,4],[],[],8⟩ ⟨[(5,.d (.int .i64))],[],[0,3,4],[],[],8⟩ false (.s (.s (.dr [0,0,0,0,0,0,0,0,0,0,0,0,0,0,0,0,0] [] false []) .p) .p)) .p)) .p)))) .p))) fun _=>by kernel_rfl,by kernel_rfl⟩
def c_39:Con te:=ai_ te [.d (.st 6),.d .str] [(.st 3,[]),(.int .i64,[])] true fun a=>cI_ a.1 a.2.1
theorem ok_39:OKF 39 c_39:=⟨ad_ af_ (ab_ ok_40 (ab_ ok_105 (ab_ ok_104 (ab_ ok_103 (ab_ ok_102 (ab_ ok_101 ae_)))))) Tryz.func39 (by kernel_rfl) (pl := .p) fun _=>by kernel_rfl,by kernel_rfl⟩
def c_11:Con te:=ai_ te [.d (.st 8)] [(.bool,[])] false fun a=>gT_ a.1
theorem ok_11:OKF 11 c_11:=⟨ad_ af_ (ab_ ok_40 (ab_ ok_39 (ab_ ok_38 (ab_ ok_37 ae_)))) Tryz.func11 (by kernel_rfl) (pl := .s .p (.s .p (.s (.s .p (.lp ⟨[(26,.d (.int .i64))],[],[1,25],[0],[],10013⟩ ⟨[],[],[],[],[],10013⟩ true (.s .p (.s .p (.s (.s .p (.s .p (.s (.s (.dr [0,0,0,0,0,0,0,0,0,0,0,0,0,0,0,0,0,0,0,0,0,0,0,0] [] false []) .p) .p))) .p))))) .p))) fun _=>by kernel_rfl,by kernel_rfl⟩
def c_75:Con te:=ai_ te [.d .str] [(.bool,[])] false fun a=>ej_ a.1
theorem ok_75:OKF 75 c_75:=⟨ad_ af_ ae_ Tryz.func75 (by kernel_rfl) (pl := .s .p (.s .p (.s (.s .p (.lp ⟨[(16,.d (.int .i64))],[],[0,15],[],[],4007⟩ ⟨[],[],[],[],[],4007⟩ true .p)) .p))) fun _=>by kernel_rfl,by kernel_rfl⟩
def c_143:Con te:=ai_ te [.mp 154 .str (.int .i64),.d (.sl .str)] [(.int .i64,[])] false fun a=>h9_ a.1 a.2.1
theorem ok_143:OKF 143 c_143:=⟨ad_ af_ ae_ Tryz.func143 (by kernel_rfl) (pl := .s .p (.s (.s .p (.lp ⟨[(9,.d (.int .i64))],[],[0,1,7,8],[0],[],5⟩ ⟨[],[],[],[0],[],5⟩ true .p)) .p)) fun _=>by kernel_rfl,by kernel_rfl⟩
end
end Go.Proofs.YtebokaoegomboaaGreatDoor
namespace Go.Proofs.YtebokaoegomboaaGreatDoor
open Go.Rt Go.RowKit
noncomputable section
def c_73:Con te:=ai_ te [.d (.sl (.st 0))] [(.int .i64,[])] false fun a=>gi_ a.1
theorem ok_73:OKF 73 c_73:=⟨ad_ af_ (ab_ ok_143 (ab_ ok_75 ae_)) Tryz.func73 (by kernel_rfl) (pl := .s .p (.s .p (.s .p (.s (.s .p (.lp ⟨[(17,.d (.int .i64))],[(4,true,.map 154 .str (.int .i64))],[0,3,4,15,16],[6],[],13⟩ ⟨[],[(4,true,.map 154 .str (.int .i64))],[0,3,4],[6],[],13⟩ false .p)) (.s (.s .p (.lp ⟨[(29,.d (.int .i64))],[(4,true,.map 154 .str (.int .i64)),(6,true,.map 154 .str (.int .i64))],[3,4,27,28],[],[],16⟩ ⟨[],[],[],[],[],16⟩ true .p)) .p))))) fun _=>by kernel_rfl,by kernel_rfl⟩
def c_74:Con te:=ai_ te [.d (.sl (.st 1))] [(.int .i64,[])] false fun a=>fg_ a.1
theorem ok_74:OKF 74 c_74:=⟨ad_ af_ (ab_ ok_75 ae_) Tryz.func74 (by kernel_rfl) (pl := .s .p (.s .p (.s (.s .p (.lp ⟨[(10,.d (.int .i64))],[],[0,8,9],[],[],7⟩ ⟨[],[],[],[],[],7⟩ true (.s .p (.s .p (.s (.s .p (.s .p (.s .p (.s (.dr [0,0,0,0,0,0,0,0,0,0,0,0,0,0] [] false []) .p)))) .p))))) .p))) fun _=>by kernel_rfl,by kernel_rfl⟩
def c_76:Con te:=ai_ te [.d (.sl (.st 0))] [(.sl (.st 0),[some 79])] true fun a=>bj_ a.1
theorem ok_76:OKF 76 c_76:=⟨ad_ af_ ae_ Tryz.func76 (by kernel_rfl) (pl := .p) fun _=>by kernel_rfl,by kernel_rfl⟩
def c_77:Con te:=ai_ te [.d (.sl (.st 1))] [(.sl (.st 1),[some 120])] false fun a=>bf_ a.1
theorem ok_77:OKF 77 c_77:=⟨ad_ af_ ae_ Tryz.func77 (by kernel_rfl) (pl := .p) fun _=>by kernel_rfl,by kernel_rfl⟩
def c_79:Con te:=ai_ te [.d (.int .i64)] [(.int .i64,[])] false fun a=>ci_ a.1
theorem ok_79:OKF 79 c_79:=⟨ad_ af_ ae_ Tryz.func79 (by kernel_rfl) (pl := .p) fun _=>by kernel_rfl,by kernel_rfl⟩
def c_144:Con te:=ai_ te [.d .str] [(.str,[])] false fun a=>gj_ a.1
theorem ok_144:OKF 144 c_144:=⟨ad_ af_ ae_ Tryz.func144 (by kernel_rfl) (pl := .p) fun _=>by kernel_rfl,by kernel_rfl⟩
def c_145:Con te:=ai_ te [.d (.int .i64)] [(.int .i64,[])] false fun a=>gk_ a.1
theorem ok_145:OKF 145 c_145:=⟨ad_ af_ ae_ Tryz.func145 (by kernel_rfl) (pl := .p) fun _=>by kernel_rfl,by kernel_rfl⟩
def c_78:Con te:=ai_ te [.d .str,.d (.int .i64),.d (.int .i64)] [(.st 3,[none,some 81])] false fun a=>p9_ a.1 a.2.1 a.2.2.1
theorem ok_78:OKF 78 c_78:=⟨ad_ af_ (ab_ ok_145 (ab_ ok_144 ae_)) Tryz.func78 (by kernel_rfl) (pl := .p) fun _=>by kernel_rfl,by kernel_rfl⟩
def c_80:Con te:=ai_ te [.d (.sl .str)] [(.sl .str,[some 9])] false fun a=>aT_ a.1
theorem ok_80:OKF 80 c_80:=⟨ad_ af_ ae_ Tryz.func80 (by kernel_rfl) (pl := .p) fun _=>by kernel_rfl,by kernel_rfl⟩
def c_31:Con te:=ai_ te [.d (.sl (.st 0)),.d (.sl (.st 1)),.d .str,.d (.int .i64)] [(.st 4,[some 79,some 120,none,some 81]),(.int .i64,[])] true fun a=>ju_ a.1 a.2.1 a.2.2.1 a.2.2.2.1
theorem ok_31:OKF 31 c_31:=⟨ad_ af_ (ab_ ok_80 (ab_ ok_78 (ab_ ok_79 (ab_ ok_77 (ab_ ok_76 (ab_ ok_75 (ab_ ok_74 (ab_ ok_73 ae_)))))))) Tryz.func31 (by kernel_rfl) (pl := .s .p (.s .p (.s .p (.s .p (.s .p (.s (.s .p (.lp ⟨[(42,.d (.int .i64))],[(17,true,.row 79 (.st 0) [])],[8,12,41],[0,20,25,28],[],36⟩ ⟨[],[(17,true,.row 79 (.st 0) [])],[8,12],[0,20,25,28],[],36⟩ false (.s .p (.s .p (.s (.s .p (.dr [0,0,0,0,0,0,0,0,0,1,1,4,2] [] false [])) .p))))) .p)))))) fun _=>by kernel_rfl,by kernel_rfl⟩
def c_126:Con te:=ai_ te [.d (.sl (.st 2))] [(.sl (.st 2),[some 81])] false fun a=>bE_ a.1
theorem ok_126:OKF 126 c_126:=⟨ad_ af_ ae_ Tryz.func126 (by kernel_rfl) (pl := .p) fun _=>by kernel_rfl,by kernel_rfl⟩
def c_127:Con te:=ai_ te [.d (.sl (.int .i64))] [(.sl (.int .i64),[some 3])] false fun a=>ca_ a.1
theorem ok_127:OKF 127 c_127:=⟨ad_ af_ ae_ Tryz.func127 (by kernel_rfl) (pl := .p) fun _=>by kernel_rfl,by kernel_rfl⟩
def c_50:Con te:=ai_ te [.d (.st 4)] [(.st 4,[some 79,some 120,none,some 81,some 3])] true fun a=>cD_ a.1
theorem ok_50:OKF 50 c_50:=⟨ad_ af_ (ab_ ok_127 (ab_ ok_126 (ab_ ok_77 (ab_ ok_80 (ab_ ok_76 ae_))))) Tryz.func50 (by kernel_rfl) (pl := .s .p (.s .p (.s .p (.s (.s .p (.lp ⟨[(13,.d (.int .i64))],[(11,true,.row 79 (.st 0) [])],[1,2,3,12],[0,2,5],[],20⟩ ⟨[],[(11,true,.row 79 (.st 0) [])],[1,2,3],[0,2,5],[],20⟩ false (.s .p (.s .p (.s (.s .p (.dr [0,0,0,0,0,0,0,0,0,1,1,4,2] [] false [])) .p))))) .p)))) fun _=>by kernel_rfl,by kernel_rfl⟩
def c_51:Con te:=ai_ te [.d (.int .i64)] [(.st 6,[])] true fun a=>ox_ a.1
theorem ok_51:OKF 51 c_51:=⟨ad_ af_ ae_ Tryz.func51 (by kernel_rfl) (pl := .p) fun _=>by kernel_rfl,by kernel_rfl⟩
def c_20:Con te:=ai_ te [.d (.st 4),.d (.int .i64)] [(.st 8,[])] true fun a=>ia_ a.1 a.2.1
theorem ok_20:OKF 20 c_20:=⟨ad_ af_ (ab_ ok_51 (ab_ ok_50 ae_)) Tryz.func20 (by kernel_rfl) (pl := .p) fun _=>by kernel_rfl,by kernel_rfl⟩
def c_249:Con te:=ai_ te [.d (.st 3),.f1 (.st 2) .bool] [(.int .i64,[])] false fun a=>lH_ a.1 a.2.1
theorem ok_249:OKF 249 c_249:=⟨ad_ af_ ae_ Tryz.func249 (by kernel_rfl) (pl := .s .p (.s (.s .p (.lp ⟨[(10,.d (.int .i64))],[],[1,8,9],[],[],7⟩ ⟨[],[],[],[],[],7⟩ true .p)) .p)) fun _=>by kernel_rfl,by kernel_rfl⟩
def c_250:Con te:=ai_ te [.d (.st 2),.p (.int .i64)] [(.bool,[])] false fun a=>oy_ a.1 a.2.1
theorem ok_250:OKF 250 c_250:=⟨ad_ af_ ae_ Tryz.func250 (by kernel_rfl) (pl := .p) fun _=>by kernel_rfl,by kernel_rfl⟩
def c_184:Con te:=ai_ te [.d (.st 3),.d (.int .i64)] [(.int .i64,[])] false fun a=>gl_ a.1 a.2.1
theorem ok_184:OKF 184 c_184:=⟨ad_ af_ (ab_ ok_250 (ab_ ok_249 ae_)) Tryz.func184 (by kernel_rfl) (pl := .p) fun _=>by kernel_rfl,by kernel_rfl⟩
def c_114:Con te:=ai_ te [.d (.st 3),.d (.int .i64)] [(.st 2,[]),(.bool,[])] false fun a=>bF_ a.1 a.2.1
theorem in_:OKF 114 c_114:=⟨ad_ af_ (ab_ ok_184 ae_) Tryz.func114 (by kernel_rfl) (pl := .p) fun _=>by kernel_rfl,by kernel_rfl⟩
def c_178:Con te:=ai_ te [.d (.st 4),.d .str,.d (.int .i64)] [(.st 2,[]),(.int .i64,[])] false fun a=>da_ a.1 a.2.1 a.2.2.1
theorem ok_178:OKF 178 c_178:=⟨ad_ af_ (ab_ in_ (ab_ ok_75 ae_)) Tryz.func178 (by kernel_rfl) (pl := .p) fun _=>by kernel_rfl,by kernel_rfl⟩
def c_118:Con te:=ai_ te [.d (.int .i64),.d (.int .i64)] [(.bool,[])] false fun a=>ao_ a.1 a.2.1
theorem mD_:OKF 118 c_118:=⟨ad_ af_ ae_ Tryz.func118 (by kernel_rfl) (pl := .p) fun _=>by kernel_rfl,by kernel_rfl⟩
def c_129:Con te:=ai_ te [.d (.st 4),.d .str,.d (.int .i64)] [(.st 2,[]),(.int .i64,[])] false fun a=>b8_ a.1 a.2.1 a.2.2.1
theorem ok_129:OKF 129 c_129:=⟨ad_ af_ (ab_ mD_ (ab_ ok_178 ae_)) Tryz.func129 (by kernel_rfl) (pl := .s .p (.s .p (.j ⟨[(9,.d (.int .i64))],[],[6,8],[2,12],[],17⟩ false .p .p))) fun _=>by kernel_rfl,by kernel_rfl⟩
def c_251:Con te:=ai_ te [.d (.sl (.st 0)),.d .str] [(.st 0,[none,none,some 9]),(.bool,[])] false fun a=>jL_ a.1 a.2.1
theorem ok_251:OKF 251 c_251:=⟨ad_ af_ (ab_ ok_80 ae_) Tryz.func251 (by kernel_rfl) (pl := .s .p (.s (.s .p (.lp ⟨[(10,.d (.int .i64))],[],[1,4,8,9],[0],[],6⟩ ⟨[],[],[4],[0],[],6⟩ true .p)) .p)) fun _=>by kernel_rfl,by kernel_rfl⟩
def c_306:Con te:=ai_ te [.d (.sl .str),.d .str] [(.int .i64,[])] false fun a=>dI_ a.1 a.2.1
theorem ok_306:OKF 306 c_306:=⟨ad_ af_ ae_ Tryz.func306 (by kernel_rfl) (pl := .s .p (.s (.s .p (.lp ⟨[(8,.d (.int .i64))],[],[0,1,7],[],[],4⟩ ⟨[],[],[],[],[],4⟩ true .p)) .p)) fun _=>by kernel_rfl,by kernel_rfl⟩
def c_252:Con te:=ai_ te [.d (.sl .str),.d .str] [(.bool,[])] false fun a=>bz_ a.1 a.2.1
theorem ok_252:OKF 252 c_252:=⟨ad_ af_ (ab_ ok_306 ae_) Tryz.func252 (by kernel_rfl) (pl := .p) fun _=>by kernel_rfl,by kernel_rfl⟩
def c_185:Con te:=ai_ te [.d (.sl (.st 0)),.d .str,.d .str] [(.bool,[])] false fun a=>fh_ a.1 a.2.1 a.2.2.1
theorem ok_185:OKF 185 c_185:=⟨ad_ af_ (ab_ ok_252 (ab_ ok_251 ae_)) Tryz.func185 (by kernel_rfl) (pl := .p) fun _=>by kernel_rfl,by kernel_rfl⟩
def c_115:Con te:=ai_ te [.d (.sl (.st 0)),.d .str,.d .str,.d .str,.d (.int .i64),.d (.int .i64)] [(.bool,[])] false fun a=>ev_ a.1 a.2.1 a.2.2.1 a.2.2.2.1 a.2.2.2.2.1 a.2.2.2.2.2.1
theorem ok_115:OKF 115 c_115:=⟨ad_ af_ (ab_ ok_185 ae_) Tryz.func115 (by kernel_rfl) (pl := .s .p (.s .p (.s .p (.j ⟨[(13,.d (.int .i64))],[],[1,2,4,5],[],[],6008⟩ false .p (.j ⟨[(13,.d (.int .i64))],[],[5],[],[],6008⟩ false .p .p))))) fun _=>by kernel_rfl,by kernel_rfl⟩
def c_130:Con te:=ai_ te [.d (.st 4),.d .str,.d (.st 2),.d (.int .i64)] [(.bool,[])] false fun a=>c5_ a.1 a.2.1 a.2.2.1 a.2.2.2.1
theorem ok_130:OKF 130 c_130:=⟨ad_ af_ (ab_ ok_115 ae_) Tryz.func130 (by kernel_rfl) (pl := .p) fun _=>by kernel_rfl,by kernel_rfl⟩
def c_121:Con te:=ai_ te [.d (.int .i64)] [(.bool,[])] false fun a=>bA_ a.1
theorem ok_121:OKF 121 c_121:=⟨ad_ af_ ae_ Tryz.func121 (by kernel_rfl) (pl := .p) fun _=>by kernel_rfl,by kernel_rfl⟩
def c_142:Con te:=ai_ te [.d (.st 3),.d (.int .i64)] [(.int .i64,[])] false fun a=>fi_ a.1 a.2.1
theorem ok_142:OKF 142 c_142:=⟨ad_ af_ (ab_ ok_121 (ab_ in_ ae_)) Tryz.func142 (by kernel_rfl) (pl := .p) fun _=>by kernel_rfl,by kernel_rfl⟩
def c_264:Con te:=ai_ te [.d (.st 2),.p (.int .i64),.p .str] [(.bool,[])] false fun a=>oz_ a.1 a.2.1 a.2.2.1
theorem ok_264:OKF 264 c_264:=⟨ad_ af_ ae_ Tryz.func264 (by kernel_rfl) (pl := .p) fun _=>by kernel_rfl,by kernel_rfl⟩
def c_195:Con te:=ai_ te [.d (.st 3),.d (.int .i64),.d .str] [(.int .i64,[])] false fun a=>ib_ a.1 a.2.1 a.2.2.1
theorem ok_195:OKF 195 c_195:=⟨ad_ af_ (ab_ ok_264 (ab_ ok_249 ae_)) Tryz.func195 (by kernel_rfl) (pl := .p) fun _=>by kernel_rfl,by kernel_rfl⟩
end
end Go.Proofs.YtebokaoegomboaaGreatDoor
namespace Go.Proofs.YtebokaoegomboaaGreatDoor
open Go.Rt Go.RowKit
noncomputable section
def c_131:Con te:=ai_ te [.d (.st 3),.d (.int .i64),.d .str] [(.int .i64,[]),(.int .i64,[])] false fun a=>fR_ a.1 a.2.1 a.2.2.1
theorem ok_131:OKF 131 c_131:=⟨ad_ af_ (ab_ ok_195 (ab_ in_ (ab_ ok_142 ae_))) Tryz.func131 (by kernel_rfl) (pl := .p) fun _=>by kernel_rfl,by kernel_rfl⟩
def c_54:Con te:=ai_ te [.d (.st 4),.d .str,.d (.int .i64),.d .str] [(.int .i64,[]),(.int .i64,[])] false fun a=>dV_ a.1 a.2.1 a.2.2.1 a.2.2.2.1
theorem ok_54:OKF 54 c_54:=⟨ad_ af_ (ab_ ok_131 (ab_ ok_130 (ab_ ok_129 ae_))) Tryz.func54 (by kernel_rfl) (pl := .p) fun _=>by kernel_rfl,by kernel_rfl⟩
def c_128:Con te:=ai_ te [.d (.st 8),.d .str] [(.bool,[])] false fun a=>dQ_ a.1 a.2.1
theorem ok_128:OKF 128 c_128:=⟨ad_ af_ (ab_ ok_54 ae_) Tryz.func128 (by kernel_rfl) (pl := .p) fun _=>by kernel_rfl,by kernel_rfl⟩
def c_294:Con te:=ai_ te [.d (.sl (.st 5)),.f1 (.st 5) .bool] [(.int .i64,[])] false fun a=>ce_ a.1 a.2.1
theorem ok_294:OKF 294 c_294:=⟨ad_ af_ ae_ Tryz.func294 (by kernel_rfl) (pl := .s .p (.s (.s .p (.lp ⟨[(8,.d (.int .i64))],[],[0,1,7],[],[],4⟩ ⟨[],[],[],[],[],4⟩ true .p)) .p)) fun _=>by kernel_rfl,by kernel_rfl⟩
def c_295:Con te:=ai_ te [.d (.st 5),.p .str] [(.bool,[])] false fun a=>j2_ a.1 a.2.1
theorem ok_295:OKF 295 c_295:=⟨ad_ af_ ae_ Tryz.func295 (by kernel_rfl) (pl := .p) fun _=>by kernel_rfl,by kernel_rfl⟩
def c_234:Con te:=ai_ te [.d (.st 6),.d .str] [(.int .i64,[])] false fun a=>fj_ a.1 a.2.1
theorem ok_234:OKF 234 c_234:=⟨ad_ af_ (ab_ ok_295 (ab_ ok_294 ae_)) Tryz.func234 (by kernel_rfl) (pl := .p) fun _=>by kernel_rfl,by kernel_rfl⟩
theorem e_356 (a:PA te [.d .str]):lb_ a.1=evFun Tryz.prog te eqL (ti 343 (inlF Tryz.prog te eqL tnil Tryz.f343 (.p:Pl)) (ti 368 (inlF Tryz.prog te eqL (ti 365 hl_ tnil) Tryz.f368 (.p:Pl)) (ti 342 (inlF Tryz.prog te eqL (ti 365 hl_ tnil) Tryz.f342 (.p:Pl)) (ti 344 nv_ tnil)))) Tryz.f356 [.d .str] [(.str,[])] (.s .p (.s .p (.s .p (.s .p (.s (.lp ⟨[],[(1,true,.cells 323 [.sbp 1,.own 443]),(443,false,.row 5 (.int .u8) [])],[0,3],[],[],444⟩ ⟨[],[(1,true,.cells 323 [.sbp 1,.own 443]),(443,false,.row 5 (.int .u8) [])],[0,3],[],[],444⟩ false .p) (.s .p (.s (.s .p (.lp ⟨[(5,.d (.int .i64))],[(1,true,.cells 323 [.sbp 1,.own 450]),(450,false,.row 5 (.int .u8) [])],[3,4],[],[],451⟩ ⟨[],[(1,true,.cells 323 [.sbp 1,.own 450]),(450,false,.row 5 (.int .u8) [])],[3],[],[],451⟩ false .p)) .p))))))) a:=by kernel_rfl
def c_356:Con te:=ai_ te [.d .str] [(.str,[])] false fun a=>lb_ a.1
theorem ok_356:OKF 356 c_356:=⟨ad_ af_ (ti_ok ⟨pf_ af_ ae_ Tryz.func343,by kernel_rfl⟩ (ti_ok ⟨pf_ af_ (ti_ok lh_ ae_) Tryz.func368,by kernel_rfl⟩ (ti_ok ⟨pf_ af_ (ti_ok lh_ ae_) Tryz.func342,by kernel_rfl⟩ (ti_ok t0_ ae_)))) Tryz.func356 (by kernel_rfl) e_356,by kernel_rfl⟩
def c_373:Con te:=ai_ te [.d .str] [(.int .u32,[])] false fun a=>lI_ a.1
theorem ok_373:OKF 373 c_373:=⟨ad_ af_ ae_ Tryz.func373 (by kernel_rfl) (pl := .s .p (.s (.dr [0,0,0,0,0,0,0,0,0,0,0,0,0,0,0,0,0,0,0] [] false []) .p)) fun _=>by kernel_rfl,by kernel_rfl⟩
def c_374:Con te:=ai_ te [.d (.int .u32),.d (.int .i64)] [(.int .u32,[])] false fun a=>kf_ a.1 a.2.1
theorem ok_374:OKF 374 c_374:=⟨ad_ af_ ae_ Tryz.func374 (by kernel_rfl) (pl := .p) fun _=>by kernel_rfl,by kernel_rfl⟩
def c_370:Con te:=ai_ te [.d (.int .u32),.d (.int .i64)] [(.int .u32,[])] false fun a=>aW_ a.1 a.2.1
theorem ok_370:OKF 370 c_370:=⟨ad_ af_ (ab_ ok_374 ae_) Tryz.func370 (by kernel_rfl) (pl := .p) fun _=>by kernel_rfl,by kernel_rfl⟩
def c_369:Con te:=ai_ te [.d .str] [(.st 14,[])] false fun a=>g4_ a.1
theorem ok_369:OKF 369 c_369:=⟨ad_ af_ (ab_ ok_370 (ab_ ok_373 ae_)) Tryz.func369 (by kernel_rfl) (pl := .s .p (.s .p (.s (.s .p (.lp ⟨[(9,.d (.int .i64))],[(2,true,.box 353 (.st 14))],[0,2,3],[0],[],5⟩ ⟨[],[(2,true,.box 353 (.st 14))],[2,3],[0],[],5⟩ false (.s .p (.s .p (.j ⟨[],[(2,true,.box 353 (.st 14))],[0,2,3,9],[0],[],6⟩ false (.s .p (.s .p (.s (.dr [0,0,0,0,0,0,0,0,0,0] [] false []) (.s .p (.s .p (.dr [0,0,0,0,0,0,0,0,0,0,0,0,0,0,0,2] [] false [])))))) .p))))) .p))) fun _=>by kernel_rfl,by kernel_rfl⟩
def c_357:Con te:=ai_ te [.d (.st 13),.d .str] [(.st 13,[])] false fun a=>nq_ a.1 a.2.1
theorem ok_357:OKF 357 c_357:=⟨ad_ af_ (ab_ ok_370 (ab_ ok_369 ae_)) Tryz.func357 (by kernel_rfl) (pl := .s .p (.s .p (.s .p (.s (.s .p (.lp ⟨[(20,.d (.int .i64))],[(11,true,.box 337 (.st 13))],[2,4,5,6],[0,2,6],[],16⟩ ⟨[],[(11,true,.box 337 (.st 13))],[2,4,6],[0,2],[],16⟩ false (.s .p (.s .p (.s (.s .p (.s (.dr [0,0,0,0,0,0,0,0,0,0,0,0,0,0,0,0,0,0] [] false []) (.s (.dr [0,0,0,0,0,0,0,0,0,0,0,0,0,0,0,0,0,0,0,0,0,0,0,0,0,0,0,0,0] [] false []) .p))) .p))))) (.s (.s .p (.lp ⟨[(98,.d (.int .i64))],[(0,true,.box 337 (.st 13))],[2,4,6],[2,11],[],17⟩ ⟨[],[(0,true,.box 337 (.st 13))],[2,4],[2],[],17⟩ false (.s .p (.s .p (.s (.s .p (.dr [0,0,0,0,0,0,0,0,2] [] false [])) .p))))) .p))))) fun _=>by kernel_rfl,by kernel_rfl⟩
def c_334:Con te:=ai_ te [.d .str] [(.str,[])] false fun a=>nr_ a.1
theorem ok_334:OKF 334 c_334:=⟨ad_ af_ (ab_ ok_357 (ab_ ok_356 ae_)) Tryz.func334 (by kernel_rfl) (pl := .s .p (.s .p (.s (.s .p (.lp ⟨[(4,.d .str)],[(2,true,.box 337 (.st 13))],[3],[],[],9⟩ ⟨[],[(2,true,.box 337 (.st 13))],[3],[],[],9⟩ false (.s .p (.s (.dr [0,0,0,0,2] [] false []) .p)))) (.s .p (.s (.s .p (.lp ⟨[(5,.one (.own 14)),(21,.d (.int .i64))],[(14,false,.row 5 (.int .u8) [])],[20],[],[],15⟩ ⟨[(5,.one (.own 14))],[(14,false,.row 5 (.int .u8) [])],[],[],[],15⟩ false .p)) .p))))) fun _=>by kernel_rfl,by kernel_rfl⟩
def c_293:Con te:=ai_ te [.d (.int .i64),.d .str] [(.str,[])] false fun a=>kw_ a.1 a.2.1
theorem ok_293:OKF 293 c_293:=⟨ad_ af_ (ab_ ok_334 ae_) Tryz.func293 (by kernel_rfl) (pl := .p) fun _=>by kernel_rfl,by kernel_rfl⟩
def c_233:Con te:=ai_ te [.d (.int .i64),.d .str] [(.st 5,[])] false fun a=>gm_ a.1 a.2.1
theorem ok_233:OKF 233 c_233:=⟨ad_ af_ (ab_ ok_293 ae_) Tryz.func233 (by kernel_rfl) (pl := .p) fun _=>by kernel_rfl,by kernel_rfl⟩
def c_253:Con te:=ai_ te [.d (.st 6),.d .str,.d (.int .i64)] [(.str,[]),(.int .i64,[])] false fun a=>lJ_ a.1 a.2.1 a.2.2.1
theorem ok_253:OKF 253 c_253:=⟨ad_ af_ (ab_ ok_233 (ab_ ok_234 ae_)) Tryz.func253 (by kernel_rfl) (pl := .s .p (.s .p (.s (.s .p (.s .p (.s .p (.s .p (.s (.dr [0,0,0,0,0,0,0,0,0,0,0,0,0,0,0] [] false []) .p))))) .p))) fun _=>by kernel_rfl,by kernel_rfl⟩
def c_186:Con te:=ai_ te [.bm 205 (.st 12) [none,none,some 9] false,.d .str,.d (.int .i64)] [(.str,[]),(.int .i64,[])] true fun a=>bH_ a.1 a.2.1 a.2.2.1
theorem ok_186:OKF 186 c_186:=⟨ad_ af_ (ab_ ok_253 ae_) Tryz.func186 (by kernel_rfl) (pl := .s .p (.s .p (.j ⟨[(9,.d (.int .i64))],[],[0,1,8],[0,1],[],16⟩ false .p .p))) fun _=>by kernel_rfl,by kernel_rfl⟩
def c_254:Con te:=ai_ te [.d .str,.d (.int .i64),.d (.int .i64)] [(.int .i64,[]),(.int .i64,[]),(.int .i64,[])] false fun a=>jM_ a.1 a.2.1 a.2.2.1
theorem ok_254:OKF 254 c_254:=⟨ad_ af_ ae_ Tryz.func254 (by kernel_rfl) (pl := .s .p (.s .p (.s .p (.s .p (.s (.s .p (.lp ⟨[(9,.d (.int .u64)),(10,.d (.int .i64))],[],[0,1,2],[],[],11018⟩ ⟨[(9,.d (.int .u64))],[],[1,2],[],[],11018⟩ false .p)) .p))))) fun _=>by kernel_rfl,by kernel_rfl⟩
def c_187:Con te:=ai_ te [.b 209 (.st 15),.d (.int .i64)] [(.int .i64,[])] false fun a=>aq_ a.1 a.2.1
theorem ok_187:OKF 187 c_187:=⟨ad_ af_ (ab_ ok_254 ae_) Tryz.func187 (by kernel_rfl) (pl := .s .p (.s (.dr [0,0,0,0,0,0,0,0,0,0,0,0,0,0,0,0,0] [] false []) .p)) fun _=>by kernel_rfl,by kernel_rfl⟩
def c_307:Con te:=ai_ te [.d .str,.d (.int .i64)] [(.str,[]),(.int .i64,[]),(.int .i64,[])] false fun a=>g5_ a.1 a.2.1
theorem ok_307:OKF 307 c_307:=⟨ad_ af_ (ab_ ok_254 ae_) Tryz.func307 (by kernel_rfl) (pl := .p) fun _=>by kernel_rfl,by kernel_rfl⟩
def c_255:Con te:=ai_ te [.b 209 (.st 15)] [(.str,[])] false fun a=>bI_ a.1
theorem ok_255:OKF 255 c_255:=⟨ad_ af_ (ab_ ok_307 ae_) Tryz.func255 (by kernel_rfl) (pl := .s .p (.s (.dr [0,0,0,0,0,0,0,0,0,0,0,0,0,0,0,0] [] false []) .p)) fun _=>by kernel_rfl,by kernel_rfl⟩
def c_256:Con te:=ai_ te [.b 209 (.st 15)] [(.str,[])] false fun a=>dk_ a.1
theorem ok_256:OKF 256 c_256:=⟨ad_ af_ ae_ Tryz.func256 (by kernel_rfl) (pl := .s .p (.s (.s (.dr [0,0,0,0,0,0,0,0,0,0,0,0,0,0,0,0,0] [] false []) .p) (.s .p (.s (.dr [0,0,0,0,0,0,0,0,0,0,0,0,0,0,0] [] false []) .p)))) fun _=>by kernel_rfl,by kernel_rfl⟩
def c_188:Con te:=ai_ te [.b 209 (.st 15)] [(.st 16,[])] false fun a=>bU_ a.1
theorem ok_188:OKF 188 c_188:=⟨ad_ af_ (ab_ ok_256 (ab_ ok_255 (ab_ ok_187 ae_))) Tryz.func188 (by kernel_rfl) (pl := .p) fun _=>by kernel_rfl,by kernel_rfl⟩
def c_230:Con te:=ai_ te [.d (.st 2)] [(.bool,[])] false fun a=>cj_ a.1
theorem ok_230:OKF 230 c_230:=⟨ad_ af_ ae_ Tryz.func230 (by kernel_rfl) (pl := .p) fun _=>by kernel_rfl,by kernel_rfl⟩
def c_333:Con te:=ai_ te [.d (.int .i64),.d (.int .i64)] [(.int .i64,[])] false fun a=>dW_ a.1 a.2.1
theorem ok_333:OKF 333 c_333:=⟨ad_ af_ ae_ Tryz.func333 (by kernel_rfl) (pl := .s .p (.s .p (.s (.s .p (.lp ⟨[(5,.d (.int .i64)),(12,.d (.int .i64))],[],[11],[],[],9⟩ ⟨[(5,.d (.int .i64))],[],[],[],[],9⟩ false .p)) .p))) fun _=>by kernel_rfl,by kernel_rfl⟩
def c_291:Con te:=ai_ te [.d (.int .i64)] [(.int .i64,[])] false fun a=>dR_ a.1
theorem ok_291:OKF 291 c_291:=⟨ad_ af_ (ab_ ok_333 ae_) Tryz.func291 (by kernel_rfl) (pl := .s .p (.s .p (.s (.lp ⟨[(3,.d (.int .i64))],[],[0],[],[],2⟩ ⟨[(3,.d (.int .i64))],[],[],[],[],2⟩ false .p) .p))) fun _=>by kernel_rfl,by kernel_rfl⟩
end
end Go.Proofs.YtebokaoegomboaaGreatDoor
namespace Go.Proofs.YtebokaoegomboaaGreatDoor
open Go.Rt Go.RowKit
noncomputable section
def c_308:Con te:=ai_ te [.d (.st 10)] [(.bool,[])] false fun a=>g6_ a.1
theorem ok_308:OKF 308 c_308:=⟨ad_ af_ (ab_ ok_291 ae_) Tryz.func308 (by kernel_rfl) (pl := .s .p (.s (.dr [0,0,0,0,0,0,0,0,0,0,0,0,0,0,0,0,0,0,0,0,0,0,0] [] false []) .p)) fun _=>by kernel_rfl,by kernel_rfl⟩
def c_345:Con te:=ai_ te [.d (.st 18),.d (.int .i64),.d (.int .i64)] [(.int .i64,[])] false fun a=>bV_ a.1 a.2.1 a.2.2.1
theorem ok_345:OKF 345 c_345:=⟨ad_ af_ (ab_ ok_333 ae_) Tryz.func345 (by kernel_rfl) (pl := .p) fun _=>by kernel_rfl,by kernel_rfl⟩
def c_346:Con te:=ai_ te [.d (.int .i64)] [(.int .i64,[])] false fun a=>b7_ a.1
theorem ok_346:OKF 346 c_346:=⟨ad_ af_ ae_ Tryz.func346 (by kernel_rfl) (pl := .s .p (.s .p (.s (.s .p (.lp ⟨[(3,.d (.int .i64)),(5,.d (.int .i64))],[],[4],[],[],4⟩ ⟨[(3,.d (.int .i64))],[],[],[],[],4⟩ false .p)) .p))) fun _=>by kernel_rfl,by kernel_rfl⟩
def cS_309 (rec0:archive_reader→archive_span→Str→Int→Int→Option (Str × Int × archive_reader)):Con te:=ai_ te [.bm 205 (.st 12) [none,none,some 9] false,.d (.st 18),.d .str,.d (.int .i64),.d (.int .i64)] [(.str,[]),(.int .i64,[])] true fun a=>rec0 a.1 a.2.1 a.2.2.1 a.2.2.2.1 a.2.2.2.2.1
theorem okS_309 (rec0:archive_reader→archive_span→Str→Int→Int→Option (Str × Int × archive_reader)) (h:OKF 309 (cS_309 rec0)):OKF 309 (cS_309 (bW_ rec0)):=⟨ad_ af_ (ab_ ok_346 (ab_ ok_345 (ab_ ok_186 (ab_ h ae_)))) Tryz.func309 (by kernel_rfl) (pl := .s .p (.s .p (.j ⟨[(12,.d (.int .i64))],[],[0,2,3,4,6],[0,1,2],[],7⟩ false .p (.s .p (.s .p (.s .p (.s .p (.s .p (.s .p (.s (.s .p (.lp ⟨[(16,.d .str),(66,.d (.int .i64))],[(0,true,.cells 205 [.v (.int .i64),.v (.sl (.st 5)),.own 41]),(41,false,.row 9 .str [])],[0,3,4,6,13,65],[2],[],42⟩ ⟨[(16,.d .str)],[(0,true,.cells 205 [.v (.int .i64),.v (.sl (.st 5)),.own 41]),(41,false,.row 9 .str [])],[],[],[],42⟩ true (.s .p (.s .p (.j ⟨[(16,.d .str)],[(0,true,.cells 205 [.v (.int .i64),.v (.sl (.st 5)),.own 43]),(43,false,.row 9 .str [])],[0,3,4,6,13,65,66],[2],[],44⟩ true (.s .p (.s .p (.s .p (.s (.s (.dr [0,0,0,0,0,0,0,0,0,0,0,0,0,0] [] false []) .p) (.s (.dr [0,0,0,0,0,0,0,0,0,0,0,0,2,4,4,4,4,4] [] false []) .p))))) .p))))) .p)))))))))) fun _=>by kernel_rfl,by kernel_rfl⟩
theorem okN_309:∀ n,OKF 309 (cS_309 (bv_ n))
 | 0=>⟨h4_ fun _=>rfl,by kernel_rfl⟩
 | n+1=>okS_309 _ (okN_309 n)
def c_309:Con te:=cS_309 (bv_ BIG)
theorem ok_309:OKF 309 c_309:=okN_309 BIG
def c_257:Con te:=ai_ te [.bm 205 (.st 12) [none,none,some 9] false,.d (.st 10),.d (.int .i64)] [(.str,[]),(.int .i64,[])] true fun a=>cM_ a.1 a.2.1 a.2.2.1
theorem ok_257:OKF 257 c_257:=⟨ad_ af_ (ab_ ok_309 (ab_ ok_186 (ab_ ok_308 ae_))) Tryz.func257 (by kernel_rfl) (pl := .s .p (.s .p (.s (.s .p (.s (.s .p (.j ⟨[(9,.d (.int .i64))],[],[],[0,16],[],26⟩ false .p .p)) .p)) .p))) fun _=>by kernel_rfl,by kernel_rfl⟩
def c_258:Con te:=ai_ te [.d .str] [(.sl (.st 16),[some 184]),(.bool,[])] false fun a=>fz_ a.1
theorem ok_258:OKF 258 c_258:=⟨ad_ af_ (ab_ ok_188 ae_) Tryz.func258 (by kernel_rfl) (pl := .s .p (.s .p (.s .p (.s (.lp ⟨[(5,.one (.own 8))],[(4,true,.box 209 (.st 15)),(8,false,.row 184 (.st 16) [])],[0,4],[],[],9⟩ ⟨[(5,.one (.own 8))],[(4,true,.box 209 (.st 15)),(8,false,.row 184 (.st 16) [])],[4],[],[],9⟩ false .p) (.s (.dr [0,0,0,0,0,0,0,0] [] false []) .p))))) fun _=>by kernel_rfl,by kernel_rfl⟩
def c_310:Con te:=ai_ te [.d (.sl (.st 16)),.f1 (.st 16) .bool] [(.int .i64,[])] false fun a=>bD_ a.1 a.2.1
theorem ok_310:OKF 310 c_310:=⟨ad_ af_ ae_ Tryz.func310 (by kernel_rfl) (pl := .s .p (.s (.s .p (.lp ⟨[(8,.d (.int .i64))],[],[0,1,7],[],[],4⟩ ⟨[],[],[],[],[],4⟩ true .p)) .p)) fun _=>by kernel_rfl,by kernel_rfl⟩
def c_259:Con te:=ai_ te [.d (.sl (.st 16)),.f1 (.st 16) .bool] [(.bool,[])] false fun a=>aH_ a.1 a.2.1
theorem ok_259:OKF 259 c_259:=⟨ad_ af_ (ab_ ok_310 ae_) Tryz.func259 (by kernel_rfl) (pl := .p) fun _=>by kernel_rfl,by kernel_rfl⟩
def c_260:Con te:=ai_ te [.d (.st 16),.p (.st 16)] [(.bool,[])] false fun a=>b1_ a.1 a.2.1
theorem ok_260:OKF 260 c_260:=⟨ad_ af_ ae_ Tryz.func260 (by kernel_rfl) (pl := .p) fun _=>by kernel_rfl,by kernel_rfl⟩
def cS_189 (rec0:archive_builder_rest→archive_reader→archive_entry→Option (Int × archive_builder_rest × archive_reader)):Con te:=ai_ te [.bm 213 (.st 17) [some 81] true,.bm 205 (.st 12) [none,none,some 9] false,.d (.st 16)] [(.int .i64,[])] true fun a=>rec0 a.1 a.2.1 a.2.2.1
theorem okS_189 (rec0:archive_builder_rest→archive_reader→archive_entry→Option (Int × archive_builder_rest × archive_reader)) (h:OKF 189 (cS_189 rec0)):OKF 189 (cS_189 (bc_ rec0)):=⟨ad_ af_ (ab_ ok_260 (ab_ ok_259 (ab_ ok_258 (ab_ ok_257 (ab_ ok_230 (ab_ h ae_)))))) Tryz.func189 (by kernel_rfl) (pl := .s .p (.s (.s (.dr [0,0,0,0,0,0,0,0,0,0] [] false []) .p) (.s .p (.j ⟨[(5,.d (.int .i64))],[],[0,3],[0,1,2,3,4],[],18⟩ false .p (.s (.dr [0,0,0,0,0,0,0,2,4,4,4,4,4] [] false []) (.s .p (.s (.s .p (.s (.s .p (.s (.dr [4,0,0,0,0,0,0,1,2,4,4,2] [0,1,2,3,4,5,6] false []) .p)) .p)) (.s (.dr [4,0,0,0,0,0,0,1,2,4,4,2] [0,1,2,3,4,5,6] false []) (.s .p (.s .p (.s (.s .p (.lp ⟨[(83,.d (.int .i64))],[(0,true,.cells 213 [.ptr 2,.own 4072,.v (.int .i64)]),(2,true,.cells 205 [.v (.int .i64),.v (.sl (.st 5)),.own 4071]),(4071,false,.row 9 .str []),(4072,false,.row 81 (.st 2) []),(58,true,.row 184 (.st 16) [])],[0,81,82],[],[],4073⟩ ⟨[],[(0,true,.cells 213 [.ptr 2,.own 4072,.v (.int .i64)]),(2,true,.cells 205 [.v (.int .i64),.v (.sl (.st 5)),.own 4071]),(4071,false,.row 9 .str []),(4072,false,.row 81 (.st 2) [])],[],[],[],4073⟩ true .p)) .p))))))))))) fun _=>by kernel_rfl,by kernel_rfl⟩
theorem okN_189:∀ n,OKF 189 (cS_189 (aM_ n))
 | 0=>⟨h4_ fun _=>rfl,by kernel_rfl⟩
 | n+1=>okS_189 _ (okN_189 n)
def c_189:Con te:=cS_189 (aM_ BIG)
theorem ok_189:OKF 189 c_189:=okN_189 BIG
def c_193:Con te:=ai_ te [.d (.int .i64)] [(.bool,[])] false fun a=>ic_ a.1
theorem ok_193:OKF 193 c_193:=⟨ad_ af_ ae_ Tryz.func193 (by kernel_rfl) (pl := .s .p (.s .p (.s (.s .p (.j ⟨[(9,.d .bool)],[],[],[],[],7⟩ false .p .p)) .p))) fun _=>by kernel_rfl,by kernel_rfl⟩
def c_120:Con te:=ai_ te [.d (.st 2)] [(.bool,[])] false fun a=>id_ a.1
theorem ok_120:OKF 120 c_120:=⟨ad_ af_ (ab_ ok_121 (ab_ ok_145 (ab_ ok_193 ae_))) Tryz.func120 (by kernel_rfl) (pl := .s .p (.s (.s (.dr [0,0,0,0,0,0,0,0,0,0,0,0,0,0,0,0,0,0,0,0,0,0,0,0,0,0,0,0,0,0] [] false []) .p) .p)) fun _=>by kernel_rfl,by kernel_rfl⟩
def c_122:Con te:=ai_ te [.d .str] [(.bool,[])] false fun a=>dJ_ a.1
theorem ok_122:OKF 122 c_122:=⟨ad_ af_ ae_ Tryz.func122 (by kernel_rfl) (pl := .s .p (.s .p (.s (.s .p (.lp ⟨[(21,.d (.int .i64))],[],[0,20],[],[],10009⟩ ⟨[],[],[],[],[],10009⟩ true .p)) .p))) fun _=>by kernel_rfl,by kernel_rfl⟩
def c_47:Con te:=ai_ te [.d (.st 3)] [(.bool,[])] false fun a=>ek_ a.1
theorem ok_47:OKF 47 c_47:=⟨ad_ af_ (ab_ ok_122 (ab_ ok_121 (ab_ ok_120 ae_))) Tryz.func47 (by kernel_rfl) (pl := .s .p (.s .p (.s .p (.s (.s .p (.lp ⟨[(27,.d (.int .i64))],[(9009,true,.map 155 (.int .i64) (.int .i64)),(9011,true,.map 156 (.st 19) (.int .i64))],[1,3,4,25,26],[0],[],9019⟩ ⟨[],[],[],[],[],9019⟩ true (.s .p (.s .p (.j ⟨[],[(9009,true,.map 155 (.int .i64) (.int .i64)),(9011,true,.map 156 (.st 19) (.int .i64))],[1,3,4,25,26,27],[0],[],9020⟩ true (.s .p (.s (.s (.dr [0,0,0,0,0,0,0,0,0,0,0,0,0,0,0,0,0,0,0,0,0,0,0,0,0,0] [] false []) .p) (.j ⟨[],[],[1,3,4,5,6,25,26,27],[0,9009,9011,9023],[],30033⟩ true .p (.j ⟨[],[(9011,true,.map 156 (.st 19) (.int .i64))],[1,3,4,6,25,26,27],[0,9009,9023],[],30033⟩ false (.s .p (.s (.ot 6 (.alt 6 (.free 7 (.alt 8 (.free 9 (.alt 10 .nil .nil)) .nil)) (.alt 8 (.free 9 (.alt 6 (.free 7 (.alt 10 .nil .nil)) .nil)) .nil))) .p)) .p)))) .p))))) .p)))) fun _=>by kernel_rfl,by kernel_rfl⟩
def c_117:Con te:=ai_ te [.bm 205 (.st 12) [none,none,some 9] false,.d .str] [(.st 3,[none,some 81]),(.int .i64,[])] true fun a=>cb_ a.1 a.2.1
theorem ok_117:OKF 117 c_117:=⟨ad_ af_ (ab_ ok_47 (ab_ ok_189 (ab_ ok_188 (ab_ ok_187 (ab_ ok_186 (ti_ok qe_ ae_)))))) Tryz.func117 (by kernel_rfl) (pl := .p) fun _=>by kernel_rfl,by kernel_rfl⟩
theorem e_44 (a:PA te [.d (.st 6),.d .str]):bS_ a.1 a.2.1=evFun Tryz.prog te eqL (ti 116 (inlF Tryz.prog te eqL tnil Tryz.f116 (.p:Pl)) (tb 117 c_117 tnil)) Tryz.f44 [.d (.st 6),.d .str] [(.st 3,[none,some 81]),(.int .i64,[])] (.p:Pl) a:=by kernel_rfl
def c_44:Con te:=ai_ te [.d (.st 6),.d .str] [(.st 3,[none,some 81]),(.int .i64,[])] false fun a=>bS_ a.1 a.2.1
theorem ok_44:OKF 44 c_44:=⟨ad_ af_ (ti_ok ⟨pf_ af_ ae_ Tryz.func116,by kernel_rfl⟩ (ab_ ok_117 ae_)) Tryz.func44 (by kernel_rfl) e_44,by kernel_rfl⟩
def c_61:Con te:=ai_ te [.d (.st 8),.d (.int .i64)] [(.st 11,[]),(.bool,[])] true fun a=>bi_ a.1 a.2.1
theorem ok_61:OKF 61 c_61:=⟨ad_ af_ (ab_ in_ (ab_ ok_44 ae_)) Tryz.func61 (by kernel_rfl) (pl := .s .p (.s .p (.s .p (.s .p (.s .p (.j ⟨[],[(10022,true,.cells 96 [.v (.sl (.st 0)),.v (.sl (.st 1)),.v (.int .i64),.v (.sl (.st 2)),.v (.sl (.int .i64)),.v (.int .i64),.v (.int .i64)])],[4,7,8],[2],[],10026⟩ true (.s .p (.s (.s (.df [0,0,0,0,0,0,0,0,0,1,4,4,4,1,2,4] [] 4) .p) .p)) .p)))))) fun _=>by kernel_rfl,by kernel_rfl⟩
def c_53:Con te:=ai_ te [.d (.st 8),.d .str,.d (.int .i64)] [(.st 11,[]),(.int .i64,[])] true fun a=>cq_ a.1 a.2.1 a.2.2.1
theorem ok_53:OKF 53 c_53:=⟨ad_ af_ (ab_ ok_61 (ab_ ok_128 ae_)) Tryz.func53 (by kernel_rfl) (pl := .p) fun _=>by kernel_rfl,by kernel_rfl⟩
end
end Go.Proofs.YtebokaoegomboaaGreatDoor
namespace Go.Proofs.YtebokaoegomboaaGreatDoor
open Go.Rt Go.RowKit
noncomputable section
def c_161:Con te:=ai_ te [.d (.sl (.st 5))] [(.sl (.st 5),[some 83])] false fun a=>bg_ a.1
theorem ok_161:OKF 161 c_161:=⟨ad_ af_ ae_ Tryz.func161 (by kernel_rfl) (pl := .p) fun _=>by kernel_rfl,by kernel_rfl⟩
def c_162:Con te:=ai_ te [.d (.sl (.st 7))] [(.sl (.st 7),[some 39])] false fun a=>b9_ a.1
theorem ok_162:OKF 162 c_162:=⟨ad_ af_ ae_ Tryz.func162 (by kernel_rfl) (pl := .p) fun _=>by kernel_rfl,by kernel_rfl⟩
def c_96:Con te:=ai_ te [.d (.st 8)] [(.st 8,[some 79,some 120,none,some 81,some 3,none,some 83,some 39])] true fun a=>aw_ a.1
theorem ok_96:OKF 96 c_96:=⟨ad_ af_ (ab_ ok_162 (ab_ ok_161 (ab_ ok_50 ae_))) Tryz.func96 (by kernel_rfl) (pl := .s .p (.s (.dr [0,0,1,0,0,0,0,0,0,1,4,0,0,1,4,2] [3,6,11,4,7,12,5,8] false []) .p)) fun _=>by kernel_rfl,by kernel_rfl⟩
def c_173:Con te:=ai_ te [.d (.st 4)] [(.st 4,[some 79,some 120,none,some 81,some 3])] true fun a=>d8_ a.1
theorem ok_173:OKF 173 c_173:=⟨ad_ af_ (ab_ ok_127 (ab_ ok_77 (ab_ ok_126 (ab_ ok_80 (ab_ ok_76 ae_))))) Tryz.func173 (by kernel_rfl) (pl := .s .p (.s .p (.s (.s .p (.lp ⟨[(11,.d (.int .i64))],[(6,true,.row 79 (.st 0) [])],[1,2,3,10],[0,2],[],12⟩ ⟨[],[(6,true,.row 79 (.st 0) [])],[1,2,3],[0,2],[],12⟩ false .p)) (.s (.df [0,0,0,0,0,0,1,4,1,2] [] 2) (.s (.dr [0,0,0,1,0,0,0,1,4,2] [4,5,6] false []) .p))))) fun _=>by kernel_rfl,by kernel_rfl⟩
def c_240:Con te:=ai_ te [.d (.int .i64)] [(.bool,[])] false fun a=>gC_ a.1
theorem ok_240:OKF 240 c_240:=⟨ad_ af_ ae_ Tryz.func240 (by kernel_rfl) (pl := .p) fun _=>by kernel_rfl,by kernel_rfl⟩
def c_183:Con te:=ai_ te [.d (.int .i64),.d (.int .i64)] [(.bool,[])] false fun a=>lc_ a.1 a.2.1
theorem ok_183:OKF 183 c_183:=⟨ad_ af_ ae_ Tryz.func183 (by kernel_rfl) (pl := .p) fun _=>by kernel_rfl,by kernel_rfl⟩
def c_113:Con te:=ai_ te [.d (.int .i64)] [(.int .i64,[]),(.int .i64,[])] false fun a=>fT_ a.1
theorem ok_113:OKF 113 c_113:=⟨ad_ af_ (ab_ ok_183 ae_) Tryz.func113 (by kernel_rfl) (pl := .s .p (.s .p (.j ⟨[(4,.d (.int .i64))],[],[0],[],[],4⟩ false .p (.j ⟨[(4,.d (.int .i64))],[],[0],[],[],4⟩ false .p (.s .p (.s .p (.j ⟨[(5,.d (.int .i64))],[],[],[],[],3014⟩ false .p .p))))))) fun _=>by kernel_rfl,by kernel_rfl⟩
def c_298:Con te:=ai_ te [.d (.sl (.st 1)),.d .str] [(.st 1,[]),(.bool,[])] false fun a=>rm_ a.1 a.2.1
theorem ok_298:OKF 298 c_298:=⟨ad_ af_ ae_ Tryz.func298 (by kernel_rfl) (pl := .s .p (.s (.s .p (.lp ⟨[(10,.d (.int .i64))],[],[1,4,8,9],[0],[],6⟩ ⟨[],[],[4],[0],[],6⟩ true .p)) .p)) fun _=>by kernel_rfl,by kernel_rfl⟩
def c_299:Con te:=ai_ te [.d (.st 3),.d .str] [(.int .i64,[]),(.int .i64,[])] false fun a=>rn_ a.1 a.2.1
theorem ok_299:OKF 299 c_299:=⟨ad_ af_ ae_ Tryz.func299 (by kernel_rfl) (pl := .s .p (.s .p (.s (.s .p (.lp ⟨[(6,.d (.int .i64)),(7,.d (.int .i64)),(13,.d (.int .i64))],[],[1,11,12],[],[],10⟩ ⟨[(6,.d (.int .i64)),(7,.d (.int .i64))],[],[],[],[],10⟩ false (.s .p (.s .p (.j ⟨[(6,.d (.int .i64)),(7,.d (.int .i64))],[],[1,11,12,13],[],[],11⟩ false .p .p))))) .p))) fun _=>by kernel_rfl,by kernel_rfl⟩
def c_241:Con te:=ai_ te [.d (.sl (.st 1)),.d (.st 3),.d .str,.d (.int .i64),.d (.int .i64)] [(.bool,[])] false fun a=>kx_ a.1 a.2.1 a.2.2.1 a.2.2.2.1 a.2.2.2.2.1
theorem ok_241:OKF 241 c_241:=⟨ad_ af_ (ab_ ok_299 (ab_ ok_298 ae_)) Tryz.func241 (by kernel_rfl) (pl := .p) fun _=>by kernel_rfl,by kernel_rfl⟩
def c_174:Con te:=ai_ te [.d (.st 4),.d .str,.d (.st 2),.d .str,.d (.int .i64),.d (.int .i64)] [(.int .i64,[])] false fun a=>g8_ a.1 a.2.1 a.2.2.1 a.2.2.2.1 a.2.2.2.2.1 a.2.2.2.2.2.1
theorem ok_174:OKF 174 c_174:=⟨ad_ af_ (ab_ ok_241 (ab_ ok_131 (ab_ ok_130 (ab_ mD_ (ab_ ok_113 (ab_ ok_240 (ab_ ok_122 ae_))))))) Tryz.func174 (by kernel_rfl) (pl := .p) fun _=>by kernel_rfl,by kernel_rfl⟩
def c_175:Con te:=ai_ te [.d (.int .i64),.d (.int .i64)] [(.int .i64,[])] false fun a=>ld_ a.1 a.2.1
theorem ok_175:OKF 175 c_175:=⟨ad_ af_ (ab_ ok_183 ae_) Tryz.func175 (by kernel_rfl) (pl := .s .p (.s .p (.s .p (.j ⟨[(5,.d (.int .i64))],[],[0,1],[],[],3005⟩ false .p .p)))) fun _=>by kernel_rfl,by kernel_rfl⟩
def c_242:Con te:=ai_ te [.d (.st 3)] [(.st 3,[none,some 81])] false fun a=>bq_ a.1
theorem ok_242:OKF 242 c_242:=⟨ad_ af_ ae_ Tryz.func242 (by kernel_rfl) (pl := .p) fun _=>by kernel_rfl,by kernel_rfl⟩
def c_243:Con te:=ai_ te [.l (.st 3) [none,some 81],.d (.int .i64),.d .str,.d (.int .i64)] [] false fun a=>jw_ a.1 a.2.1 a.2.2.1 a.2.2.2.1
theorem ok_243:OKF 243 c_243:=⟨ad_ af_ (ab_ ok_144 (ab_ ok_145 ae_)) Tryz.func243 (by kernel_rfl) (pl := .s .p (.s .p (.s .p (.j ⟨[],[(0,true,.row 81 (.st 2) [(6,8)])],[2,3,8],[],[6],18⟩ false .p .p)))) fun _=>by kernel_rfl,by kernel_rfl⟩
def c_176:Con te:=ai_ te [.d (.st 3),.d (.int .i64),.d .str,.d (.int .i64),.d .str,.d .str,.d (.int .i64)] [(.st 3,[none,some 81]),(.int .i64,[]),(.int .i64,[])] false fun a=>l8_ a.1 a.2.1 a.2.2.1 a.2.2.2.1 a.2.2.2.2.1 a.2.2.2.2.2.1 a.2.2.2.2.2.2.1
theorem ok_176:OKF 176 c_176:=⟨ad_ af_ (ab_ ok_144 (ab_ ok_145 (ab_ ok_243 (ab_ ok_184 (ab_ ok_195 (ab_ ok_193 (ab_ ok_122 (ab_ ok_242 (ab_ ok_142 ae_))))))))) Tryz.func176 (by kernel_rfl) (pl := .s .p (.s .p (.s .p (.s .p (.s (.dr [0,0,0,0,0,0,2] [] false []) (.s .p (.s (.dr [0,0,0,0,0,0,0,0,0,0,0,0,0,0,0,0,1,2,4,2] [] false []) (.s .p (.s (.dr [0,0,0,1,4,4] [] true [2]) .p))))))))) fun _=>by kernel_rfl,by kernel_rfl⟩
def c_263:Con te:=ai_ te [.d (.int .i64)] [(.bool,[])] false fun a=>cmp_isNaN_int a.1
theorem ok_263:OKF 263 c_263:=⟨ad_ af_ ae_ Tryz.func263 (by kernel_rfl) (pl := .p) fun _=>by kernel_rfl,by kernel_rfl⟩
def c_300:Con te:=ai_ te [.d (.int .i64),.d (.int .i64)] [(.bool,[])] false fun a=>cmp_Less_int a.1 a.2.1
theorem ok_300:OKF 300 c_300:=⟨ad_ af_ (ab_ ok_263 ae_) Tryz.func300 (by kernel_rfl) (pl := .p) fun _=>by kernel_rfl,by kernel_rfl⟩
def c_301:Con te:=ai_ te [.d (.int .i64)] [(.bool,[])] false fun a=>hz_ a.1
theorem ok_301:OKF 301 c_301:=⟨ad_ af_ ae_ Tryz.func301 (by kernel_rfl) (pl := .p) fun _=>by kernel_rfl,by kernel_rfl⟩
def c_244:Con te:=ai_ te [.d (.sl (.int .i64)),.d (.int .i64)] [(.int .i64,[]),(.bool,[])] false fun a=>du_ a.1 a.2.1
theorem ok_244:OKF 244 c_244:=⟨ad_ af_ (ab_ ok_301 (ab_ ok_300 ae_)) Tryz.func244 (by kernel_rfl) (pl := .s .p (.s .p (.s .p (.s (.lp ⟨[(7,.d (.int .i64)),(8,.d (.int .i64))],[],[0,1,6],[],[],8⟩ ⟨[(7,.d (.int .i64))],[],[0,1,6],[],[],8⟩ false .p) .p)))) fun _=>by kernel_rfl,by kernel_rfl⟩
def c_177:Con te:=ai_ te [.d (.st 4),.d (.int .i64)] [(.st 4,[])] true fun a=>fU_ a.1 a.2.1
theorem ok_177:OKF 177 c_177:=⟨ad_ af_ (ab_ nu_ (ab_ ok_127 (ab_ ok_244 ae_))) Tryz.func177 (by kernel_rfl) (pl := .s .p (.j ⟨[],[(0,true,.cells 29 [.v (.sl (.st 0)),.v (.sl (.st 1)),.v (.int .i64),.v (.sl (.st 2)),.v (.sl (.int .i64))])],[2,4],[2],[],4⟩ false .p .p)) fun _=>by kernel_rfl,by kernel_rfl⟩
def c_109:Con te:=ai_ te [.d (.st 4),.d .str,.d (.int .i64),.d .str,.d (.int .i64),.d (.int .i64),.d (.int .i64)] [(.st 4,[]),(.int .i64,[]),(.int .i64,[])] true fun a=>gn_ a.1 a.2.1 a.2.2.1 a.2.2.2.1 a.2.2.2.2.1 a.2.2.2.2.2.1 a.2.2.2.2.2.2.1
theorem ok_109:OKF 109 c_109:=⟨ad_ af_ (ab_ ok_177 (ab_ mD_ (ab_ ok_176 (ab_ ok_79 (ab_ ok_175 (ab_ ok_174 (ab_ ok_129 (ab_ ok_173 ae_)))))))) Tryz.func109 (by kernel_rfl) (pl := .s .p (.s .p (.s .p (.j ⟨[(19,.d (.int .i64))],[],[1,2,3,4,6,14,17,18],[2,7,8,9,10,12,23],[],28⟩ false .p (.s .p (.s .p (.s (.df [0,0,0,0,0,0,0,0,0,0,1,4,4,4,4,1,2,4,4] [] 5) (.s .p (.s .p (.j ⟨[],[(12,true,.cells 29 [.v (.sl (.st 0)),.v (.sl (.st 1)),.v (.int .i64),.v (.sl (.st 2)),.v (.sl (.int .i64))])],[14,17,22],[2],[],67⟩ false .p .p)))))))))) fun _=>by kernel_rfl,by kernel_rfl⟩
def c_110:Con te:=ai_ te [.d (.st 8),.d (.st 4)] [(.st 8,[none,none,none,none,none,none,some 83,some 39])] true fun a=>d9_ a.1 a.2.1
theorem ok_110:OKF 110 c_110:=⟨ad_ af_ (ab_ ok_96 ae_) Tryz.func110 (by kernel_rfl) (pl := .p) fun _=>by kernel_rfl,by kernel_rfl⟩
def c_41:Con te:=ai_ te [.d (.st 8),.d .str,.d (.int .i64),.d .str,.d (.int .i64),.d (.int .i64),.d (.int .i64)] [(.st 8,[none,none,none,none,none,none,some 83,some 39]),(.int .i64,[]),(.int .i64,[])] true fun a=>fA_ a.1 a.2.1 a.2.2.1 a.2.2.2.1 a.2.2.2.2.1 a.2.2.2.2.2.1 a.2.2.2.2.2.2.1
theorem ok_41:OKF 41 c_41:=⟨ad_ af_ (ab_ ok_110 (ab_ ok_109 (ab_ ok_96 (ab_ ok_53 ae_)))) Tryz.func41 (by kernel_rfl) (pl := .p) fun _=>by kernel_rfl,by kernel_rfl⟩
def c_62:Con te:=ai_ te [.d (.st 11)] [(.bool,[])] false fun a=>bB_ a.1
theorem ok_62:OKF 62 c_62:=⟨ad_ af_ (ab_ in_ ae_) Tryz.func62 (by kernel_rfl) (pl := .p) fun _=>by kernel_rfl,by kernel_rfl⟩
def c_179:Con te:=ai_ te [.d (.st 4),.d (.st 2),.d (.int .i64)] [(.bool,[])] false fun a=>j3_ a.1 a.2.1 a.2.2.1
theorem ok_179:OKF 179 c_179:=⟨ad_ af_ (ab_ ok_241 ae_) Tryz.func179 (by kernel_rfl) (pl := .p) fun _=>by kernel_rfl,by kernel_rfl⟩
def c_197:Con te:=ai_ te [.d (.st 3),.d (.int .i64)] [(.int .i64,[]),(.int .i64,[])] false fun a=>hR_ a.1 a.2.1
theorem ok_197:OKF 197 c_197:=⟨ad_ af_ (ab_ ok_121 (ab_ ok_184 ae_)) Tryz.func197 (by kernel_rfl) (pl := .p) fun _=>by kernel_rfl,by kernel_rfl⟩
def c_246:Con te:=ai_ te [.d (.int .i64)] [(.bool,[])] false fun a=>oA_ a.1
theorem ok_246:OKF 246 c_246:=⟨ad_ af_ ae_ Tryz.func246 (by kernel_rfl) (pl := .p) fun _=>by kernel_rfl,by kernel_rfl⟩
def c_247:Con te:=ai_ te [.d .str,.d (.int .i64)] [(.str,[])] false fun a=>qb_ a.1 a.2.1
theorem ok_247:OKF 247 c_247:=⟨ad_ af_ (ab_ mA_ ae_) Tryz.func247 (by kernel_rfl) (pl := .p) fun _=>by kernel_rfl,by kernel_rfl⟩
end
end Go.Proofs.YtebokaoegomboaaGreatDoor
namespace Go.Proofs.YtebokaoegomboaaGreatDoor
open Go.Rt Go.RowKit
noncomputable section
def c_180:Con te:=ai_ te [.d (.st 3),.d (.int .i64),.d (.int .i64),.d .str,.d .str,.d (.int .i64)] [(.st 3,[none,some 81]),(.int .i64,[]),(.int .i64,[])] false fun a=>ns_ a.1 a.2.1 a.2.2.1 a.2.2.2.1 a.2.2.2.2.1 a.2.2.2.2.2.1
theorem ok_180:OKF 180 c_180:=⟨ad_ af_ (ab_ ok_243 (ab_ ok_247 (ab_ ok_246 (ab_ ok_242 (ab_ ok_197 ae_))))) Tryz.func180 (by kernel_rfl) (pl := .s .p (.s .p (.s .p (.s .p (.s .p (.s .p (.j ⟨[(2,.d (.int .i64))],[],[3,4,5,6,12,15,17],[0,2],[],27⟩ false .p (.s .p (.s .p (.s (.dr [0,0,0,0,0,0,0,0,0,0,0,0,0,0,0,0,0,0,0,0,2] [] false []) .p)))))))))) fun _=>by kernel_rfl,by kernel_rfl⟩
def c_111:Con te:=ai_ te [.d (.st 4),.d .str,.d (.int .i64),.d (.int .i64),.d .str,.d (.int .i64)] [(.st 4,[some 79,some 120,none,some 81,some 3]),(.int .i64,[]),(.int .i64,[])] true fun a=>g9_ a.1 a.2.1 a.2.2.1 a.2.2.2.1 a.2.2.2.2.1 a.2.2.2.2.2.1
theorem ok_111:OKF 111 c_111:=⟨ad_ af_ (ab_ ok_180 (ab_ ok_79 (ab_ ok_179 (ab_ mD_ (ab_ ok_178 (ab_ ok_173 ae_)))))) Tryz.func111 (by kernel_rfl) (pl := .s .p (.s .p (.s .p (.s .p (.j ⟨[(3,.d (.int .i64))],[],[1,2,4,5,6,12,15,16],[0,2,7,8,9,10,12,23],[],41⟩ false .p (.s .p (.s .p (.s (.df [0,0,0,0,0,0,0,0,1,4,4,4,4,1,2,4,4] [] 5) .p)))))))) fun _=>by kernel_rfl,by kernel_rfl⟩
def c_42:Con te:=ai_ te [.d (.st 8),.d .str,.d (.int .i64),.d (.int .i64),.d .str,.d (.int .i64)] [(.st 8,[none,none,none,none,none,none,some 83,some 39]),(.int .i64,[]),(.int .i64,[])] true fun a=>eK_ a.1 a.2.1 a.2.2.1 a.2.2.2.1 a.2.2.2.2.1 a.2.2.2.2.2.1
theorem ok_42:OKF 42 c_42:=⟨ad_ af_ (ab_ ok_110 (ab_ ok_111 (ab_ ok_62 (ab_ ok_96 (ab_ ok_53 ae_))))) Tryz.func42 (by kernel_rfl) (pl := .p) fun _=>by kernel_rfl,by kernel_rfl⟩
def c_163:Con te:=ai_ te [.d (.st 6)] [(.st 6,[none,some 83])] false fun a=>fk_ a.1
theorem ok_163:OKF 163 c_163:=⟨ad_ af_ (ab_ ok_161 ae_) Tryz.func163 (by kernel_rfl) (pl := .p) fun _=>by kernel_rfl,by kernel_rfl⟩
def c_71:Con te:=ai_ te [.d (.st 3),.d (.int .i64)] [(.sl (.int .i64),[some 3])] false fun a=>ea_ a.1 a.2.1
theorem ok_71:OKF 71 c_71:=⟨ad_ af_ (ab_ ok_142 ae_) Tryz.func71 (by kernel_rfl) (pl := .s .p (.s .p (.s .p (.s (.s .p (.lp ⟨[(5,.one (.own 12)),(15,.d (.int .i64))],[(12,false,.row 3 (.int .i64) [])],[1,13,14],[],[],13⟩ ⟨[(5,.one (.own 12))],[(12,false,.row 3 (.int .i64) [])],[],[],[],13⟩ false (.s .p (.s .p (.j ⟨[(5,.one (.own 14))],[(14,false,.row 3 (.int .i64) [])],[1,13,14,15],[],[],15⟩ false .p .p))))) .p)))) fun _=>by kernel_rfl,by kernel_rfl⟩
def c_165:Con te:=ai_ te [.d (.int .i64),.d (.int .i64)] [(.str,[]),(.int .i64,[])] false fun a=>fV_ a.1 a.2.1
theorem ok_165:OKF 165 c_165:=⟨ad_ af_ ae_ Tryz.func165 (by kernel_rfl) (pl := .s .p (.s .p (.s .p (.s .p (.s (.s .p (.lp ⟨[(31,.d (.int .i64))],[(13009,true,.row 5 (.int .u8) [])],[0,6,30],[],[],13015⟩ ⟨[],[(13009,true,.row 5 (.int .u8) [])],[6],[],[],13015⟩ false .p)) .p))))) fun _=>by kernel_rfl,by kernel_rfl⟩
def c_235:Con te:=ai_ te [.d (.int .i64),.d (.int .i64),.b 9 .str] [] false fun a=>cY_ a.1 a.2.1 a.2.2.1
theorem ok_235:OKF 235 c_235:=⟨ad_ af_ (ab_ ok_165 ae_) Tryz.func235 (by kernel_rfl) (pl := .p) fun _=>by kernel_rfl,by kernel_rfl⟩
def c_236:Con te:=ai_ te [.d .str] [(.str,[]),(.int .i64,[])] false fun a=>nO_ a.1
theorem ok_236:OKF 236 c_236:=⟨ad_ af_ (ab_ ok_165 ae_) Tryz.func236 (by kernel_rfl) (pl := .p) fun _=>by kernel_rfl,by kernel_rfl⟩
def c_167:Con te:=ai_ te [.d (.st 16)] [(.str,[])] false fun a=>go_ a.1
theorem ok_167:OKF 167 c_167:=⟨ad_ af_ (ab_ ok_236 (ab_ ok_235 ae_)) Tryz.func167 (by kernel_rfl) (pl := .s .p (.s .p (.s .p (.s .p (.s (.s .p (.lp ⟨[(25,.d (.int .i64))],[(3,true,.box 9 .str),(23,true,.row 3 (.int .i64) [])],[1,3,4,5,23,24],[0,11],[],27⟩ ⟨[],[(3,true,.box 9 .str)],[1,3,4,5],[0,11],[],27⟩ false .p)) (.s .p (.s .p (.s (.s .p (.lp ⟨[(51,.d (.int .i64))],[(3,true,.box 9 .str),(47,true,.row 9 .str [])],[1,3,4,49,50],[0],[],51⟩ ⟨[],[(3,true,.box 9 .str)],[1,3,4],[0],[],51⟩ false .p)) .p)))))))) fun _=>by kernel_rfl,by kernel_rfl⟩
def c_292:Con te:=ai_ te [.d .str,.d (.int .i64)] [(.sl .str,[some 9])] false fun a=>eL_ a.1 a.2.1
theorem ok_292:OKF 292 c_292:=⟨ad_ af_ ae_ Tryz.func292 (by kernel_rfl) (pl := .s .p (.s .p (.s (.lp ⟨[(0,.d .str),(5,.one (.own 4))],[(4,false,.row 9 .str [])],[1],[],[],5⟩ ⟨[(0,.d .str),(5,.one (.own 4))],[(4,false,.row 9 .str [])],[],[],[],5⟩ false .p) .p))) fun _=>by kernel_rfl,by kernel_rfl⟩
def c_232:Con te:=ai_ te [.d (.st 6)] [(.st 6,[none,some 83])] false fun a=>jx_ a.1
theorem ok_232:OKF 232 c_232:=⟨ad_ af_ (ab_ ok_161 ae_) Tryz.func232 (by kernel_rfl) (pl := .p) fun _=>by kernel_rfl,by kernel_rfl⟩
def c_119:Con te:=ai_ te [.d (.int .i64)] [(.bool,[])] false fun a=>l9_ a.1
theorem ok_119:OKF 119 c_119:=⟨ad_ af_ ae_ Tryz.func119 (by kernel_rfl) (pl := .p) fun _=>by kernel_rfl,by kernel_rfl⟩
def c_166:Con te:=ai_ te [.d (.st 6),.d (.int .i64),.d .str] [(.st 6,[none,some 83]),(.str,[]),(.int .i64,[])] false fun a=>jN_ a.1 a.2.1 a.2.2.1
theorem ok_166:OKF 166 c_166:=⟨ad_ af_ (ab_ ok_234 (ab_ ok_233 (ab_ ok_119 (ab_ ok_232 ae_)))) Tryz.func166 (by kernel_rfl) (pl := .s .p (.s .p (.s .p (.s .p (.s (.s .p (.s .p (.s (.s (.s (.dr [0,0,0,0,0,0,0] [] false []) .p) (.s (.dr [0,0,0,1,4,4] [] true [2]) .p)) .p))) (.s .p (.s .p (.s (.dr [0,0,0,1,4,4] [] true [2]) .p)))))))) fun _=>by kernel_rfl,by kernel_rfl⟩
def c_231:Con te:=ai_ te [.d (.st 6),.d (.int .i64),.d .str] [(.st 6,[]),(.st 10,[]),(.int .i64,[])] true fun a=>jy_ a.1 a.2.1 a.2.2.1
theorem ok_231:OKF 231 c_231:=⟨ad_ af_ (ab_ ok_166 (ab_ ok_292 (ab_ ok_291 ae_))) Tryz.func231 (by kernel_rfl) (pl := .s .p (.s .p (.s .p (.lp ⟨[(1,.d (.int .i64)),(10,.one (.own 21))],[(0,true,.box 32 (.st 6)),(13,true,.box 137 (.st 10)),(21,false,.row 9 .str [])],[3,6,7,9],[2,4],[],22⟩ ⟨[],[],[],[],[],21⟩ true (.s .p (.s (.s .p (.lp ⟨[(11,.d .str),(27,.d (.int .i64))],[(0,true,.cells 32 [.v (.int .i64),.v (.sl (.st 5))]),(13,true,.box 137 (.st 10)),(21,true,.row 9 .str [])],[1,3,6,7,9,10,25,26],[2,4],[],26⟩ ⟨[(11,.d .str)],[(0,true,.box 32 (.st 6)),(13,true,.box 137 (.st 10)),(21,true,.row 9 .str [])],[3,6,7,9,10],[2,4],[],26⟩ true .p)) (.s (.s .p (.s (.s (.dr [0,0,1,1,4] [] true [2,4]) .p) .p)) .p))))))) fun _=>by kernel_rfl,by kernel_rfl⟩
def cS_164 (rec0:api_Store→api_Tree→Int→Option (api_Store × archive_entry × Int)):Con te:=ai_ te [.d (.st 6),.d (.st 3),.d (.int .i64)] [(.st 6,[]),(.st 16,[]),(.int .i64,[])] true fun a=>rec0 a.1 a.2.1 a.2.2.1
theorem okS_164 (rec0:api_Store→api_Tree→Int→Option (api_Store × archive_entry × Int)) (h:OKF 164 (cS_164 rec0)):OKF 164 (cS_164 (dz_ rec0)):=⟨ad_ af_ (ab_ ok_231 (ab_ ok_167 (ab_ ok_71 (ab_ ok_230 (ab_ in_ (ab_ h ae_)))))) Tryz.func164 (by kernel_rfl) (pl := .s .p (.s .p (.s (.dr [0,0,0,0] [] false []) (.s .p (.j ⟨[(11,.d (.int .i64)),(12,.d .str)],[(0,true,.box 32 (.st 6))],[3,6,7,9],[4,6,15],[],27⟩ true (.s .p (.s (.s .p (.s .p (.lp ⟨[(12,.d .str),(36,.d (.int .i64))],[(0,true,.box 32 (.st 6)),(33,true,.row 3 (.int .i64) [])],[3,4,6,7,9,11,34,35],[2,4,6,15],[],37⟩ ⟨[(12,.d .str)],[(0,true,.box 32 (.st 6))],[3,6,7,9,11],[4,6,15],[],37⟩ true .p))) .p)) (.s .p (.s (.dr [0,0,0,0,0,1,1,4] [] true [4,6]) .p))))))) fun _=>by kernel_rfl,by kernel_rfl⟩
theorem okN_164:∀ n,OKF 164 (cS_164 (dl_ n))
 | 0=>⟨h4_ fun _=>rfl,by kernel_rfl⟩
 | n+1=>okS_164 _ (okN_164 n)
def c_164:Con te:=cS_164 (dl_ BIG)
theorem ok_164:OKF 164 c_164:=okN_164 BIG
def c_97:Con te:=ai_ te [.d (.st 6),.d (.st 3)] [(.st 6,[none,some 83]),(.str,[]),(.int .i64,[])] false fun a=>fB_ a.1 a.2.1
theorem ok_97:OKF 97 c_97:=⟨ad_ af_ (ab_ ok_166 (ab_ ok_167 (ab_ ok_165 (ab_ ok_164 (ab_ ok_163 (ab_ ok_47 ae_)))))) Tryz.func97 (by kernel_rfl) (pl := .s .p (.s .p (.s .p (.s .p (.s .p (.s .p (.s (.dr [0,0,0,0,0,0,0,1,4,4,4,4,2,4,4] [] false []) .p))))))) fun _=>by kernel_rfl,by kernel_rfl⟩
def c_36:Con te:=ai_ te [.d (.st 8),.d (.int .i64)] [(.st 8,[some 79,some 120,none,some 81,some 3,none,some 83,some 39]),(.int .i64,[])] true fun a=>ha_ a.1 a.2.1
theorem ok_36:OKF 36 c_36:=⟨ad_ af_ (ab_ ok_97 (ab_ ok_96 ae_)) Tryz.func36 (by kernel_rfl) (pl := .p) fun _=>by kernel_rfl,by kernel_rfl⟩
def c_55:Con te:=ai_ te [.d (.int .i64)] [(.int .i64,[])] false fun a=>db_ a.1
theorem ok_55:OKF 55 c_55:=⟨ad_ af_ ae_ Tryz.func55 (by kernel_rfl) (pl := .p) fun _=>by kernel_rfl,by kernel_rfl⟩
def c_132:Con te:=ai_ te [.d (.int .i64)] [(.bool,[])] false fun a=>num_known a.1
theorem ok_132:OKF 132 c_132:=⟨ad_ af_ ae_ Tryz.func132 (by kernel_rfl) (pl := .p) fun _=>by kernel_rfl,by kernel_rfl⟩
def c_56:Con te:=ai_ te [.d (.int .i64),.d (.int .i64)] [(.str,[])] false fun a=>i5_ a.1 a.2.1
theorem ok_56:OKF 56 c_56:=⟨ad_ af_ (ab_ lg_ (ab_ ok_132 ae_)) Tryz.func56 (by kernel_rfl) (pl := .p) fun _=>by kernel_rfl,by kernel_rfl⟩
def c_22:Con te:=ai_ te [.d (.st 8),.d .str,.d (.int .i64),.d .str] [(.int .i64,[]),(.int .i64,[])] false fun a=>dv_ a.1 a.2.1 a.2.2.1 a.2.2.2.1
theorem ok_22:OKF 22 c_22:=⟨ad_ af_ (ab_ ok_56 (ab_ ok_55 (ab_ ok_54 (ab_ ok_53 ae_)))) Tryz.func22 (by kernel_rfl) (pl := .s .p (.s .p (.s .p (.s .p (.s .p (.s .p (.s .p (.s (.s .p (.lp ⟨[(75,.d (.int .i64))],[],[2,3,73,74],[],[],6033⟩ ⟨[],[],[],[],[],6033⟩ true .p)) .p)))))))) fun _=>by kernel_rfl,by kernel_rfl⟩
def c_136:Con te:=ai_ te [.d (.st 3),.d (.int .i64),.d (.int .i64),.d (.int .i64)] [(.str,[]),(.int .i64,[])] false fun a=>lK_ a.1 a.2.1 a.2.2.1 a.2.2.2.1
theorem ok_136:OKF 136 c_136:=⟨ad_ af_ (ab_ ok_197 ae_) Tryz.func136 (by kernel_rfl) (pl := .p) fun _=>by kernel_rfl,by kernel_rfl⟩
end
end Go.Proofs.YtebokaoegomboaaGreatDoor
namespace Go.Proofs.YtebokaoegomboaaGreatDoor
open Go.Rt Go.RowKit
noncomputable section
def c_63:Con te:=ai_ te [.d (.st 4),.d (.int .i64),.d (.int .i64),.d (.int .i64)] [(.str,[]),(.int .i64,[])] false fun a=>fW_ a.1 a.2.1 a.2.2.1 a.2.2.2.1
theorem ok_63:OKF 63 c_63:=⟨ad_ af_ (ab_ ok_136 ae_) Tryz.func63 (by kernel_rfl) (pl := .p) fun _=>by kernel_rfl,by kernel_rfl⟩
def c_24:Con te:=ai_ te [.d (.st 8),.d (.int .i64),.d (.int .i64),.d (.int .i64)] [(.str,[]),(.int .i64,[])] false fun a=>cJ_ a.1 a.2.1 a.2.2.1 a.2.2.2.1
theorem ok_24:OKF 24 c_24:=⟨ad_ af_ (ab_ ok_63 (ab_ ok_62 (ab_ ok_61 ae_))) Tryz.func24 (by kernel_rfl) (pl := .p) fun _=>by kernel_rfl,by kernel_rfl⟩
def c_205:Con te:=ai_ te [.d (.st 4),.d .str,.d (.st 2)] [(.bool,[])] false fun a=>hb_ a.1 a.2.1 a.2.2.1
theorem ok_205:OKF 205 c_205:=⟨ad_ af_ (ab_ ok_130 (ab_ in_ ae_)) Tryz.func205 (by kernel_rfl) (pl := .p) fun _=>by kernel_rfl,by kernel_rfl⟩
def c_305:Con te:=ai_ te [.d (.sl (.int .i64)),.d (.int .i64)] [(.int .i64,[])] false fun a=>iG_ a.1 a.2.1
theorem ok_305:OKF 305 c_305:=⟨ad_ af_ ae_ Tryz.func305 (by kernel_rfl) (pl := .s .p (.s (.s .p (.lp ⟨[(8,.d (.int .i64))],[],[0,1,7],[],[],4⟩ ⟨[],[],[],[],[],4⟩ true .p)) .p)) fun _=>by kernel_rfl,by kernel_rfl⟩
def c_248:Con te:=ai_ te [.d (.sl (.int .i64)),.d (.int .i64)] [(.bool,[])] false fun a=>ew_ a.1 a.2.1
theorem ok_248:OKF 248 c_248:=⟨ad_ af_ (ab_ ok_305 ae_) Tryz.func248 (by kernel_rfl) (pl := .p) fun _=>by kernel_rfl,by kernel_rfl⟩
def c_181:Con te:=ai_ te [.d (.st 4),.d .str,.d (.st 2),.d (.int .i64)] [(.int .i64,[])] false fun a=>hc_ a.1 a.2.1 a.2.2.1 a.2.2.2.1
theorem ok_181:OKF 181 c_181:=⟨ad_ af_ (ab_ ok_248 (ab_ ok_205 (ab_ ok_130 (ab_ mD_ (ab_ ok_113 ae_))))) Tryz.func181 (by kernel_rfl) (pl := .p) fun _=>by kernel_rfl,by kernel_rfl⟩
def c_182:Con te:=ai_ te [.d (.st 3),.d (.int .i64),.d (.int .i64),.d .str,.d (.int .i64)] [(.st 3,[none,some 81]),(.int .i64,[])] false fun a=>mb_ a.1 a.2.1 a.2.2.1 a.2.2.2.1 a.2.2.2.2.1
theorem ok_182:OKF 182 c_182:=⟨ad_ af_ (ab_ ok_243 (ab_ ok_247 (ab_ ok_242 (ab_ ok_197 ae_)))) Tryz.func182 (by kernel_rfl) (pl := .s .p (.s .p (.s .p (.s .p (.s (.dr [0,0,0,0,0,0,0,0,0,0,0,0,0,2] [] false []) .p))))) fun _=>by kernel_rfl,by kernel_rfl⟩
def c_112:Con te:=ai_ te [.d (.st 4),.d .str,.d (.int .i64),.d (.int .i64),.d (.int .i64)] [(.st 4,[]),(.int .i64,[])] true fun a=>ie_ a.1 a.2.1 a.2.2.1 a.2.2.2.1 a.2.2.2.2.1
theorem ok_112:OKF 112 c_112:=⟨ad_ af_ (ab_ ok_177 (ab_ ok_182 (ab_ ok_79 (ab_ mD_ (ab_ ok_181 (ab_ ok_178 (ab_ ok_173 ae_))))))) Tryz.func112 (by kernel_rfl) (pl := .s .p (.s .p (.s .p (.s .p (.s .p (.j ⟨[],[(11,true,.cells 29 [.own 6,.own 7,.v (.int .i64),.own 37,.own 9]),(6,true,.row 79 (.st 0) []),(7,true,.row 120 (.st 1) []),(37,false,.row 81 (.st 2) []),(9,true,.row 3 (.int .i64) [])],[2,10,12,13],[2,22],[],38⟩ false (.s .p (.s (.dr [0,0,0,0,0,0,1,4,4,4,4,2] [] false []) .p)) (.j ⟨[],[(11,true,.cells 29 [.v (.sl (.st 0)),.v (.sl (.st 1)),.v (.int .i64),.v (.sl (.st 2)),.v (.sl (.int .i64))])],[10,12],[2],[],38⟩ false .p .p))))))) fun _=>by kernel_rfl,by kernel_rfl⟩
def c_43:Con te:=ai_ te [.d (.st 8),.d .str,.d (.int .i64),.d (.int .i64),.d (.int .i64)] [(.st 8,[none,none,none,none,none,none,some 83,some 39]),(.int .i64,[])] true fun a=>hd_ a.1 a.2.1 a.2.2.1 a.2.2.2.1 a.2.2.2.2.1
theorem ok_43:OKF 43 c_43:=⟨ad_ af_ (ab_ ok_115 (ab_ in_ (ab_ ok_62 (ab_ ok_113 (ab_ ok_110 (ab_ ok_112 (ab_ ok_96 (ab_ ok_53 ae_)))))))) Tryz.func43 (by kernel_rfl) (pl := .p) fun _=>by kernel_rfl,by kernel_rfl⟩
def c_12:Con te:=ai_ te [] [(.bool,[])] false fun _=>law17_awake
theorem ok_12:OKF 12 c_12:=⟨ad_ af_ (ab_ ok_43 (ab_ ok_24 (ab_ ok_22 (ab_ ok_36 (ab_ ok_42 (ab_ ok_41 (ab_ ok_20 (ab_ ok_31 ae_)))))))) Tryz.func12 (by kernel_rfl) (pl := .p) fun _=>by kernel_rfl,by kernel_rfl⟩
def c_13:Con te:=ai_ te [.d (.st 8),.d (.int .i64)] [(.st 7,[]),(.bool,[])] false fun a=>gU_ a.1 a.2.1
theorem ok_13:OKF 13 c_13:=⟨ad_ af_ ae_ Tryz.func13 (by kernel_rfl) (pl := .s .p (.s (.s .p (.lp ⟨[(6,.d (.int .i64))],[],[1,2,4],[0,2],[],10⟩ ⟨[],[],[4],[2],[],10⟩ true .p)) .p)) fun _=>by kernel_rfl,by kernel_rfl⟩
def c_14:Con te:=ai_ te [.d (.st 8),.d (.int .i64)] [(.st 7,[]),(.bool,[])] false fun a=>nt_ a.1 a.2.1
theorem ok_14:OKF 14 c_14:=⟨ad_ af_ ae_ Tryz.func14 (by kernel_rfl) (pl := .s .p (.s (.s .p (.lp ⟨[(6,.d (.int .i64))],[],[1,2,4],[0,2],[],10⟩ ⟨[],[],[4],[2],[],10⟩ true .p)) .p)) fun _=>by kernel_rfl,by kernel_rfl⟩
def c_15:Con te:=ai_ te [.d (.st 8),.d (.int .i64)] [(.st 3,[none,some 81]),(.int .i64,[])] false fun a=>he_ a.1 a.2.1
theorem ok_15:OKF 15 c_15:=⟨ad_ af_ (ab_ ok_44 (ab_ ok_13 ae_)) Tryz.func15 (by kernel_rfl) (pl := .p) fun _=>by kernel_rfl,by kernel_rfl⟩
def c_16:Con te:=ai_ te [.d (.st 8),.d (.int .i64)] [(.st 3,[]),(.int .i64,[])] true fun a=>ky_ a.1 a.2.1
theorem ok_16:OKF 16 c_16:=⟨ad_ af_ (ab_ ok_39 (ab_ ok_14 ae_)) Tryz.func16 (by kernel_rfl) (pl := .p) fun _=>by kernel_rfl,by kernel_rfl⟩
def c_17:Con te:=ai_ te [.d (.st 3),.d (.st 3)] [(.bool,[])] false fun a=>gp_ a.1 a.2.1
theorem ok_17:OKF 17 c_17:=⟨ad_ af_ ae_ Tryz.func17 (by kernel_rfl) (pl := .s .p (.s .p (.s (.s .p (.lp ⟨[(23,.d (.int .i64))],[],[2,3,22],[0,2],[],8015⟩ ⟨[],[],[],[],[],8015⟩ true (.s .p (.s .p (.s (.s .p (.s (.dr [0,0,0,0,0,0,0,0,0,0,0] [] false []) .p)) .p))))) .p))) fun _=>by kernel_rfl,by kernel_rfl⟩
def c_3:Con te:=ai_ te [.d (.st 8),.d (.int .i64)] [(.bool,[])] false fun a=>d0_ a.1 a.2.1
theorem ok_3:OKF 3 c_3:=⟨ad_ af_ (ab_ ok_17 (ab_ ok_16 (ab_ ok_15 (ab_ ok_14 (ab_ ok_13 (ab_ ok_12 (ab_ ok_11 (ab_ ok_10 ae_)))))))) Tryz.func3 (by kernel_rfl) (pl := .p) fun _=>by kernel_rfl,by kernel_rfl⟩
def c_60:Con te:=ai_ te [.d (.st 8),.d (.int .i64)] [(.st 4,[])] true fun a=>b3_ a.1 a.2.1
theorem ok_60:OKF 60 c_60:=⟨ad_ af_ (ab_ ok_39 ae_) Tryz.func60 (by kernel_rfl) (pl := .s .p (.s .p (.s (.df [0,0,0,0,0,0,0,0,0,1,4,4,4,1,2,4] [] 4) .p))) fun _=>by kernel_rfl,by kernel_rfl⟩
def c_64:Con te:=ai_ te [.d (.st 8),.d (.int .i64)] [(.bool,[])] false fun a=>bL_ a.1 a.2.1
theorem ok_64:OKF 64 c_64:=⟨ad_ af_ (ab_ kI_ (ab_ ok_60 ae_)) Tryz.func64 (by kernel_rfl) (pl := .p) fun _=>by kernel_rfl,by kernel_rfl⟩
def c_57:Con te:=ai_ te [.d (.st 8),.d .str,.d (.int .i64)] [(.int .i64,[])] false fun a=>mc_ a.1 a.2.1 a.2.2.1
theorem ok_57:OKF 57 c_57:=⟨ad_ af_ (ab_ ok_64 (ab_ ok_83 ae_)) Tryz.func57 (by kernel_rfl) (pl := .p) fun _=>by kernel_rfl,by kernel_rfl⟩
def c_201:Con te:=ai_ te [.d (.int .i64)] [(.bool,[])] false fun a=>pH_ a.1
theorem ok_201:OKF 201 c_201:=⟨ad_ af_ ae_ Tryz.func201 (by kernel_rfl) (pl := .p) fun _=>by kernel_rfl,by kernel_rfl⟩
def c_202:Con te:=ai_ te [.d (.int .i64),.d (.int .i64)] [(.str,[])] false fun a=>if_ a.1 a.2.1
theorem ok_202:OKF 202 c_202:=⟨ad_ af_ ae_ Tryz.func202 (by kernel_rfl) (pl := .s .p (.s .p (.s (.lp ⟨[(0,.d (.int .i64)),(5,.d .str)],[],[1],[],[],2⟩ ⟨[(5,.d .str)],[],[],[],[],2⟩ false .p) .p))) fun _=>by kernel_rfl,by kernel_rfl⟩
def c_141:Con te:=ai_ te [.d (.int .i64),.d (.int .i64)] [(.str,[])] false fun a=>ig_ a.1 a.2.1
theorem ok_141:OKF 141 c_141:=⟨ad_ af_ (ab_ ok_202 (ab_ ok_201 ae_)) Tryz.func141 (by kernel_rfl) (pl := .p) fun _=>by kernel_rfl,by kernel_rfl⟩
def c_70:Con te:=ai_ te [.d (.st 8),.d (.int .i64)] [(.str,[])] false fun a=>fl_ a.1 a.2.1
theorem ok_70:OKF 70 c_70:=⟨ad_ af_ (ab_ ok_141 ae_) Tryz.func70 (by kernel_rfl) (pl := .p) fun _=>by kernel_rfl,by kernel_rfl⟩
def c_58:Con te:=ai_ te [.d (.st 8),.d (.int .i64),.d .str] [(.int .i64,[]),(.int .i64,[])] false fun a=>lL_ a.1 a.2.1 a.2.2.1
theorem ok_58:OKF 58 c_58:=⟨ad_ af_ (ab_ ok_70 ae_) Tryz.func58 (by kernel_rfl) (pl := .s .p (.s .p (.s .p (.s (.s .p (.lp ⟨[(8,.d (.int .i64))],[],[1,2,3],[0],[],3010⟩ ⟨[],[],[],[],[],3010⟩ true .p)) .p)))) fun _=>by kernel_rfl,by kernel_rfl⟩
def c_215:Con te:=ai_ te [.d (.int .i64),.d (.int .i64)] [(.bool,[])] false fun a=>jP_ a.1 a.2.1
theorem ok_215:OKF 215 c_215:=⟨ad_ af_ ae_ Tryz.func215 (by kernel_rfl) (pl := .p) fun _=>by kernel_rfl,by kernel_rfl⟩
def c_281:Con te:=ai_ te [.d (.sl (.st 0)),.d .str] [(.st 0,[]),(.bool,[])] true fun a=>kz_ a.1 a.2.1
theorem ok_281:OKF 281 c_281:=⟨ad_ af_ (ab_ ok_203 ae_) Tryz.func281 (by kernel_rfl) (pl := .p) fun _=>by kernel_rfl,by kernel_rfl⟩
def c_216:Con te:=ai_ te [.d (.sl (.st 0)),.d .str,.d .str] [(.bool,[])] false fun a=>ii_ a.1 a.2.1 a.2.2.1
theorem ok_216:OKF 216 c_216:=⟨ad_ af_ (ab_ ok_281 ae_) Tryz.func216 (by kernel_rfl) (pl := .s .p (.s .p (.s .p (.s (.s .p (.lp ⟨[(22,.d (.int .i64))],[],[1,7,21],[10],[],19⟩ ⟨[],[],[],[],[],19⟩ true .p)) .p)))) fun _=>by kernel_rfl,by kernel_rfl⟩
def c_154:Con te:=ai_ te [.d (.sl (.st 0)),.d .str,.d .str,.d .str,.d (.int .i64),.d (.int .i64)] [(.bool,[])] false fun a=>ik_ a.1 a.2.1 a.2.2.1 a.2.2.2.1 a.2.2.2.2.1 a.2.2.2.2.2.1
theorem ok_154:OKF 154 c_154:=⟨ad_ af_ (ab_ ok_216 (ab_ ok_215 ae_)) Tryz.func154 (by kernel_rfl) (pl := .s .p (.s .p (.s (.s .p (.lp ⟨[(13,.d (.int .i64))],[],[0,1,2,3,4,5],[],[],6006⟩ ⟨[],[],[],[],[],6006⟩ true .p)) .p))) fun _=>by kernel_rfl,by kernel_rfl⟩
def c_134:Con te:=ai_ te [.d (.st 4),.d .str,.d (.int .i64),.d (.int .i64)] [(.bool,[])] false fun a=>lM_ a.1 a.2.1 a.2.2.1 a.2.2.2.1
theorem ok_134:OKF 134 c_134:=⟨ad_ af_ (ab_ ok_154 (ab_ kI_ ae_)) Tryz.func134 (by kernel_rfl) (pl := .p) fun _=>by kernel_rfl,by kernel_rfl⟩
end
end Go.Proofs.YtebokaoegomboaaGreatDoor
namespace Go.Proofs.YtebokaoegomboaaGreatDoor
open Go.Rt Go.RowKit
noncomputable section
def c_135:Con te:=ai_ te [.d (.st 3),.d (.int .i64),.d .str] [(.int .i64,[]),(.int .i64,[])] false fun a=>kA_ a.1 a.2.1 a.2.2.1
theorem ok_135:OKF 135 c_135:=⟨ad_ af_ (ab_ ok_108 (ab_ kI_ ae_)) Tryz.func135 (by kernel_rfl) (pl := .s .p (.s .p (.s .p (.s .p (.s .p (.s (.s .p (.lp ⟨[(10,.d (.int .i64))],[],[1,2,3],[0],[],24⟩ ⟨[],[],[],[],[],24⟩ true .p)) .p)))))) fun _=>by kernel_rfl,by kernel_rfl⟩
def c_59:Con te:=ai_ te [.d (.st 4),.d .str,.d (.int .i64),.d .str] [(.int .i64,[]),(.int .i64,[])] false fun a=>kB_ a.1 a.2.1 a.2.2.1 a.2.2.2.1
theorem ok_59:OKF 59 c_59:=⟨ad_ af_ (ab_ ok_135 (ab_ ok_134 (ab_ ok_98 (ab_ ok_83 (ab_ kI_ ae_))))) Tryz.func59 (by kernel_rfl) (pl := .p) fun _=>by kernel_rfl,by kernel_rfl⟩
def c_23:Con te:=ai_ te [.d (.st 8),.d .str,.d (.int .i64),.d .str] [(.int .i64,[]),(.int .i64,[])] false fun a=>kC_ a.1 a.2.1 a.2.2.1 a.2.2.2.1
theorem ok_23:OKF 23 c_23:=⟨ad_ af_ (ab_ ok_59 (ab_ ok_60 (ab_ ok_58 (ab_ ok_57 ae_)))) Tryz.func23 (by kernel_rfl) (pl := .p) fun _=>by kernel_rfl,by kernel_rfl⟩
def c_137:Con te:=ai_ te [.d (.int .i64),.d (.int .i64)] [(.bool,[])] false fun a=>oB_ a.1 a.2.1
theorem ok_137:OKF 137 c_137:=⟨ad_ af_ ae_ Tryz.func137 (by kernel_rfl) (pl := .p) fun _=>by kernel_rfl,by kernel_rfl⟩
def c_65:Con te:=ai_ te [.d (.st 8),.d (.int .i64)] [(.bool,[])] false fun a=>dn_ a.1 a.2.1
theorem ok_65:OKF 65 c_65:=⟨ad_ af_ (ab_ ok_137 (ab_ kI_ (ab_ ok_60 ae_))) Tryz.func65 (by kernel_rfl) (pl := .p) fun _=>by kernel_rfl,by kernel_rfl⟩
def c_66:Con te:=ai_ te [.d (.st 4),.d (.int .i64),.d (.int .i64),.d (.int .i64)] [(.str,[]),(.int .i64,[])] false fun a=>kD_ a.1 a.2.1 a.2.2.1 a.2.2.2.1
theorem ok_66:OKF 66 c_66:=⟨ad_ af_ (ab_ ok_98 (ab_ kI_ ae_)) Tryz.func66 (by kernel_rfl) (pl := .s .p (.s .p (.s .p (.s .p (.j ⟨[(12,.d .str)],[],[],[],[],3038⟩ false .p .p))))) fun _=>by kernel_rfl,by kernel_rfl⟩
def c_25:Con te:=ai_ te [.d (.st 8),.d (.int .i64),.d (.int .i64),.d (.int .i64)] [(.str,[]),(.int .i64,[])] false fun a=>kE_ a.1 a.2.1 a.2.2.1 a.2.2.2.1
theorem ok_25:OKF 25 c_25:=⟨ad_ af_ (ab_ ok_66 (ab_ ok_60 (ab_ ok_65 (ab_ ok_64 ae_)))) Tryz.func25 (by kernel_rfl) (pl := .p) fun _=>by kernel_rfl,by kernel_rfl⟩
def c_199:Con te:=ai_ te [.d (.int .i64),.d (.int .i64)] [(.bool,[])] false fun a=>cw_ a.1 a.2.1
theorem ok_199:OKF 199 c_199:=⟨ad_ af_ ae_ Tryz.func199 (by kernel_rfl) (pl := .p) fun _=>by kernel_rfl,by kernel_rfl⟩
def c_198:Con te:=ai_ te [.d (.int .i64)] [(.int .i64,[])] false fun a=>le_ a.1
theorem ok_198:OKF 198 c_198:=⟨ad_ af_ (ab_ ok_199 ae_) Tryz.func198 (by kernel_rfl) (pl := .s .p (.s .p (.j ⟨[(3,.d (.int .i64))],[],[0],[],[],2⟩ false .p (.j ⟨[(3,.d (.int .i64))],[],[0],[],[],2⟩ false .p (.j ⟨[(3,.d (.int .i64))],[],[0],[],[],2⟩ false .p (.j ⟨[(3,.d (.int .i64))],[],[],[],[],2⟩ false .p .p)))))) fun _=>by kernel_rfl,by kernel_rfl⟩
def c_138:Con te:=ai_ te [.d (.st 2),.d (.int .i64)] [(.st 21,[])] false fun a=>dX_ a.1 a.2.1
theorem ok_138:OKF 138 c_138:=⟨ad_ af_ (ab_ ok_199 (ab_ ok_198 ae_)) Tryz.func138 (by kernel_rfl) (pl := .s .p (.s (.dr [0,0,0,0,0,0,0,0,0,0,0,0,0,0,0,0,0,0,0,0,0,0,0,0,1,2] [] false []) (.j ⟨[],[(28,true,.box 56 (.st 21))],[4,5],[2],[],32⟩ false .p .p))) fun _=>by kernel_rfl,by kernel_rfl⟩
def c_67:Con te:=ai_ te [.d (.st 4),.d (.int .i64)] [(.st 21,[]),(.int .i64,[])] false fun a=>dc_ a.1 a.2.1
theorem ok_67:OKF 67 c_67:=⟨ad_ af_ (ab_ ok_138 (ab_ in_ ae_)) Tryz.func67 (by kernel_rfl) (pl := .p) fun _=>by kernel_rfl,by kernel_rfl⟩
def c_26:Con te:=ai_ te [.d (.st 8),.d (.int .i64)] [(.st 21,[]),(.int .i64,[])] false fun a=>dw_ a.1 a.2.1
theorem ok_26:OKF 26 c_26:=⟨ad_ af_ (ab_ ok_56 (ab_ ok_67 (ab_ ok_61 ae_))) Tryz.func26 (by kernel_rfl) (pl := .s .p (.s .p (.s .p (.s (.s .p (.s (.s .p (.s .p (.j ⟨[],[(39,true,.box 56 (.st 21))],[4,10],[2],[],43⟩ false .p .p))) .p)) (.s .p (.s .p (.s .p (.s .p (.j ⟨[],[(29,true,.box 56 (.st 21))],[4,11],[2],[],44⟩ false .p .p))))))))) fun _=>by kernel_rfl,by kernel_rfl⟩
def c_200:Con te:=ai_ te [.d (.int .i64),.d (.int .i64)] [(.bool,[])] false fun a=>dd_ a.1 a.2.1
theorem ok_200:OKF 200 c_200:=⟨ad_ af_ ae_ Tryz.func200 (by kernel_rfl) (pl := .p) fun _=>by kernel_rfl,by kernel_rfl⟩
def c_140:Con te:=ai_ te [.d (.st 2),.d (.int .i64)] [(.st 21,[])] false fun a=>il_ a.1 a.2.1
theorem ok_140:OKF 140 c_140:=⟨ad_ af_ (ab_ ok_200 ae_) Tryz.func140 (by kernel_rfl) (pl := .s .p (.s .p (.j ⟨[(5,.d (.int .i64))],[],[1,2,4],[0,2],[],5⟩ false .p (.j ⟨[(5,.d (.int .i64))],[],[1,2,4],[0,2],[],5⟩ false .p (.j ⟨[(5,.d (.int .i64))],[],[1,2,4],[0,2],[],5⟩ false .p (.j ⟨[(5,.d (.int .i64))],[],[1,2,4],[0,2],[],5⟩ false .p (.s .p (.j ⟨[(6,.d (.int .i64))],[],[1,2,4,5],[0,2],[],9⟩ false .p .p)))))))) fun _=>by kernel_rfl,by kernel_rfl⟩
def c_69:Con te:=ai_ te [.d (.st 4),.d (.int .i64)] [(.st 21,[]),(.int .i64,[])] false fun a=>im_ a.1 a.2.1
theorem ok_69:OKF 69 c_69:=⟨ad_ af_ (ab_ ok_140 (ab_ kI_ ae_)) Tryz.func69 (by kernel_rfl) (pl := .p) fun _=>by kernel_rfl,by kernel_rfl⟩
def c_27:Con te:=ai_ te [.d (.st 8),.d (.int .i64)] [(.st 21,[]),(.int .i64,[])] false fun a=>gq_ a.1 a.2.1
theorem ok_27:OKF 27 c_27:=⟨ad_ af_ (ab_ ok_70 (ab_ ok_69 (ab_ ok_60 (ab_ kI_ (ab_ ok_64 ae_))))) Tryz.func27 (by kernel_rfl) (pl := .s .p (.s .p (.s (.s .p (.s (.s .p (.s .p (.j ⟨[],[(30,true,.box 56 (.st 21))],[4,8],[2],[],34⟩ false .p .p))) .p)) (.s .p (.s .p (.s .p (.j ⟨[],[(21,true,.box 56 (.st 21))],[4,9],[2],[],34⟩ false .p .p))))))) fun _=>by kernel_rfl,by kernel_rfl⟩
def c_28:Con te:=ai_ te [.d (.st 8),.d (.int .i64)] [(.sl (.st 21),[some 56]),(.int .i64,[])] false fun a=>hg_ a.1 a.2.1
theorem ok_28:OKF 28 c_28:=⟨ad_ af_ (ab_ ok_26 (ab_ ok_71 (ab_ ok_55 (ab_ ok_62 (ab_ ok_61 ae_))))) Tryz.func28 (by kernel_rfl) (pl := .s .p (.s .p (.s .p (.s .p (.s .p (.j ⟨[(8,.one (.own 21))],[(21,false,.row 3 (.int .i64) [])],[2],[0],[],22⟩ false (.s .p (.s .p (.s .p (.s (.s .p (.lp ⟨[(8,.one (.own 31)),(59,.d (.int .i64))],[(31,false,.row 3 (.int .i64) [])],[2,58],[0],[],32⟩ ⟨[(8,.one (.own 31))],[(31,false,.row 3 (.int .i64) [])],[2],[0],[],32⟩ false .p)) (.s .p (.lp ⟨[(8,.one (.own 36)),(35,.d (.int .i64))],[(36,false,.row 3 (.int .i64) []),(32,true,.row 3 (.int .i64) [])],[2,6,33,34],[0,10],[],37⟩ ⟨[(8,.one (.own 36))],[(36,false,.row 3 (.int .i64) [])],[2],[0],[],37⟩ false .p)))))) (.s .p (.s (.s .p (.lp ⟨[(12,.one (.own 26)),(71,.d (.int .i64))],[(26,false,.row 56 (.st 21) []),(21,true,.row 3 (.int .i64) [])],[2,69,70],[0],[],27⟩ ⟨[(12,.one (.own 26))],[(26,false,.row 56 (.st 21) [])],[],[],[],27⟩ false .p)) .p)))))))) fun _=>by kernel_rfl,by kernel_rfl⟩
def c_72:Con te:=ai_ te [.d (.st 3),.d (.int .i64)] [(.sl (.int .i64),[some 3])] false fun a=>gr_ a.1 a.2.1
theorem ok_72:OKF 72 c_72:=⟨ad_ af_ ae_ Tryz.func72 (by kernel_rfl) (pl := .s .p (.s .p (.s (.s .p (.lp ⟨[(5,.one (.own 5)),(6,.d (.int .i64))],[(5,false,.row 3 (.int .i64) [])],[1,2],[0],[],6⟩ ⟨[(5,.one (.own 5))],[(5,false,.row 3 (.int .i64) [])],[],[],[],6⟩ false (.s .p (.j ⟨[(5,.one (.own 11))],[(11,false,.row 3 (.int .i64) [])],[1,2,6],[0],[],12⟩ false .p .p)))) .p))) fun _=>by kernel_rfl,by kernel_rfl⟩
def c_29:Con te:=ai_ te [.d (.st 8),.d (.int .i64)] [(.sl (.st 21),[some 56]),(.int .i64,[])] false fun a=>kF_ a.1 a.2.1
theorem ok_29:OKF 29 c_29:=⟨ad_ af_ (ab_ ok_27 (ab_ ok_72 (ab_ ok_60 (ab_ ok_65 (ab_ ok_64 ae_))))) Tryz.func29 (by kernel_rfl) (pl := .s .p (.s .p (.s .p (.s .p (.j ⟨[(6,.one (.own 13))],[(13,false,.row 3 (.int .i64) [])],[1,2],[0],[],14⟩ false .p (.s (.s .p (.lp ⟨[(6,.one (.own 15)),(7,.d (.int .i64))],[(15,false,.row 3 (.int .i64) [])],[1,2],[0],[],16⟩ ⟨[(6,.one (.own 15))],[(15,false,.row 3 (.int .i64) [])],[1,2],[0],[],16⟩ false .p)) (.j ⟨[(6,.one (.own 16))],[(16,false,.row 3 (.int .i64) [])],[2],[0],[],17⟩ false (.s .p (.s (.s .p (.s .p (.lp ⟨[(6,.one (.own 31)),(55,.d (.int .i64))],[(31,false,.row 3 (.int .i64) []),(25,true,.row 3 (.int .i64) [])],[1,2,8,54],[0],[],32⟩ ⟨[(6,.one (.own 31))],[(31,false,.row 3 (.int .i64) [])],[2],[0],[],32⟩ false .p))) .p)) (.s .p (.s (.s .p (.lp ⟨[(10,.one (.own 21)),(73,.d (.int .i64))],[(16,true,.row 3 (.int .i64) []),(21,false,.row 56 (.st 21) [])],[2,6,72],[0],[],22⟩ ⟨[(10,.one (.own 21))],[(21,false,.row 56 (.st 21) [])],[],[],[],22⟩ false (.s .p (.s .p (.s (.s .p (.s (.dr [0,0,0,0,0,0,0,0,4,1,2,4] [8] false []) .p)) .p))))) .p))))))))) fun _=>by kernel_rfl,by kernel_rfl⟩
def c_30:Con te:=ai_ te [.d (.sl (.st 21)),.d (.sl (.st 21))] [(.bool,[])] false fun a=>kG_ a.1 a.2.1
theorem ok_30:OKF 30 c_30:=⟨ad_ af_ ae_ Tryz.func30 (by kernel_rfl) (pl := .s .p (.s .p (.s (.s .p (.lp ⟨[(13,.d (.int .i64))],[],[0,1,12],[],[],9⟩ ⟨[],[],[],[],[],9⟩ true (.s .p (.s .p (.s (.s .p (.s (.dr [0,0,0,0,0,0,0,0,0] [] false []) .p)) .p))))) .p))) fun _=>by kernel_rfl,by kernel_rfl⟩
def c_5:Con te:=ai_ te [.d (.st 8),.d .str,.d (.int .i64),.d .str,.d (.int .i64),.d (.int .i64)] [(.bool,[])] false fun a=>d1_ a.1 a.2.1 a.2.2.1 a.2.2.2.1 a.2.2.2.2.1 a.2.2.2.2.2.1
theorem ok_5:OKF 5 c_5:=⟨ad_ af_ (ab_ ok_30 (ab_ ok_29 (ab_ ok_28 (ab_ ok_27 (ab_ ok_26 (ab_ ok_25 (ab_ ok_24 (ab_ ok_23 (ab_ ok_22 (ab_ ok_12 (ab_ ok_11 (ab_ ok_10 ae_)))))))))))) Tryz.func5 (by kernel_rfl) (pl := .p) fun _=>by kernel_rfl,by kernel_rfl⟩
end
end Go.Proofs.YtebokaoegomboaaGreatDoor
namespace Go.Proofs.YtebokaoegomboaaGreatDoor
open Go.Rt Go.RowKit
noncomputable section
end
end Go.Proofs.YtebokaoegomboaaGreatDoor
namespace Go.Proofs.YtebokaoegomboaaGreatDoor
open Go.Rt Go.RowKit
noncomputable section
end
end Go.Proofs.YtebokaoegomboaaGreatDoor
namespace Go.Proofs.YtebokaoegomboaaGreatDoor
open Go.Rt Go.RowKit
noncomputable section
end
end Go.Proofs.YtebokaoegomboaaGreatDoor
namespace Go.Proofs.YtebokaoegomboaaGreatDoor
open Go.Rt Go.RowKit
noncomputable section
end
end Go.Proofs.YtebokaoegomboaaGreatDoor
namespace Go.Proofs.YtebokaoegomboaaGreatDoor
open Go.Rt Go.RowKit
noncomputable section
end
end Go.Proofs.YtebokaoegomboaaGreatDoor
namespace Go
namespace Rt
theorem am_ {n:Int} (h:I64 n):w64 n=n:=by
 unfold w64; rw [IntKind.wrap_i64]; omega
theorem c0_ {n:Int} (h:I64 n):IntKind.i64.wrap n=n:=am_ h
theorem wu8 (n:Int):IntKind.u8.wrap n=n % 256:=IntKind.wrap_u8 n
theorem wu64 (n:Int):IntKind.u64.wrap n=n % 18446744073709551616:=by simp [IntKind.wrap,IntKind.bits,IntKind.signed]
theorem hS_ {a:Nat} (ha:a<2 ^ 64):(BitVec.ofInt 64 (a:Int)).toNat=a:=by
 rw [BitVec.toNat_ofInt]
 have:((a:Int) % ((2 ^ 64:Nat):Int))=((a % 2 ^ 64:Nat):Int):=by omega
 rw [this]
 simp
 omega
theorem andI_nat {a b:Nat} (ha:a<2 ^ 63) (hb:b<2 ^ 63):bP_ .i64 a b=((a &&& b:Nat):Int):=by
 have h1:a &&& b<2 ^ 63:=Nat.and_lt_two_pow a hb
 show IntKind.i64.wrap (((BitVec.ofInt 64 (a:Int) &&& BitVec.ofInt 64 (b:Int)).toNat:Nat):Int)=_
 rw [BitVec.toNat_and,hS_ (by omega),hS_ (by omega)]
 exact c0_ ⟨by omega,by omega⟩
theorem orI_u64 {a b:Nat} (ha:a<2 ^ 64) (hb:b<2 ^ 64):orI .u64 a b=((a ||| b:Nat):Int):=by
 have h1:a ||| b<2 ^ 64:=Nat.or_lt_two_pow ha hb
 show IntKind.u64.wrap (((BitVec.ofInt 64 (a:Int) ||| BitVec.ofInt 64 (b:Int)).toNat:Nat):Int)=_
 rw [BitVec.toNat_or,hS_ ha,hS_ hb,wu64]
 omega
theorem bit_and {a k:Nat}:(a &&& 2 ^ k != 0)=(a / 2 ^ k % 2==1):=by
 have h1:a &&& 2 ^ k=if a.testBit k then 2 ^ k else 0:=by
  apply Nat.eq_of_testBit_eq
  intro i
  rw [Nat.testBit_and,Nat.testBit_two_pow]
  by_cases hik:k=i
  ·subst hik
   cases h:a.testBit k <;> simp
  ·cases h:a.testBit k <;> simp [hik]
 rw [h1]
 have h2:a.testBit k=decide (a / 2 ^ k % 2=1):=Nat.testBit_eq_decide_div_mod_eq
 by_cases h:a / 2 ^ k % 2=1
 ·simp [h2,h]
 ·simp [h2,h]
theorem aa_ {α β : Type} {x:Option α} {a : α} {f : α → Option β} {r:Option β} (h:x=some a) (hr:f a=r):x.bind f=r:=by subst h; exact hr
theorem ag_ {α : Type} {c:Bool} {A B r : α} (hc:c=true) (h:A=r):(bif c then A else B)=r:=by subst hc; exact h
theorem ac_ {α : Type} {c:Bool} {A B r : α} (hc:c=false) (h:B=r):(bif c then A else B)=r:=by subst hc; exact h
theorem loopF_run {σ β : Type} {body : σ → Option (Step σ β)} (I:Nat → σ → β → Prop)
  (h0:∀ s b,I 0 s b→body s=some (.done b))
  (h:∀ k s b,I (k+1) s b→body s=some (.done b)∨∃ s',body s=some (.next s')∧I k s' b):∀ {k n:Nat} {s : σ} {b : β},I k s b→k<n→aj_ body n s=some b
 | 0,n+1,s,b,hI,_=>by simp only [aj_,h0 s b hI]
 | k+1,n+1,s,b,hI,hk=>by
  simp only [aj_]
  rcases h k s b hI with hd | ⟨s',hn,hI'⟩
  ·rw [hd]
  ·rw [hn]; exact loopF_run I h0 h hI' (by omega)
theorem fX_ {σ β : Type} {body : σ → Option (Step σ β)} (n:Nat) (hn:n<BIG) (J:Nat → σ → β → Prop) (h0:∀ s b,J n s b→body s=some (.done b))
  (h:∀ i s b,i<n→J i s b→body s=some (.done b)∨∃ s',body s=some (.next s')∧J (i+1) s' b) {s : σ} {b : β} (hJ:J 0 s b):aj_ body BIG s=some b:=by
 refine loopF_run (fun k s b=>k≤n∧J (n - k) s b) (fun s b hI=>h0 s b (by simpa using hI.2)) (fun k s b hI => ?_) (k:=n) ⟨Nat.le_refl _,by simpa using hJ⟩ hn
 obtain ⟨hk,hI⟩:=hI
 rcases h _ s b (by omega) hI with hd | ⟨s',hs,hI'⟩
 ·exact .inl hd
 ·exact .inr ⟨s',hs,by omega,by rwa [show n - (k+1)+1=n - k by omega] at hI'⟩
theorem aJ_ {σ β : Type} {body : σ → Option (Step σ β)} (T:Nat → σ) (n:Nat) (hn:n<BIG) {b : β} (hs:∀ i,i<n→body (T i)=some (.next (T (i+1)))) (hd:body (T n)=some (.done b)):aj_ body BIG (T 0)=some b:=by
 refine fX_ (J:=fun i s b'=>s=T i∧b'=b) n hn (fun s b' hJ => ?_) (fun i s b' hi hJ => ?_) ⟨rfl,rfl⟩
 ·obtain ⟨rfl,rfl⟩:=hJ
  exact hd
 ·obtain ⟨rfl,rfl⟩:=hJ
  exact .inr ⟨_,hs i hi,rfl,rfl⟩
theorem dY_ {α : Type} (xs:List α) (i:Nat):ak_ xs (i:Int)=xs[i]? := by
 unfold ak_; rw [if_pos (by omega)]; simp
theorem ap_ {α : Type} {xs:List α} {i:Nat} (h:i<xs.length):ak_ xs (i:Int)=some xs[i]:=by
 rw [dY_,List.getElem?_eq_getElem h]
theorem i6_ {s:Str} {i:Nat} (h:i<s.length):bQ_ s (i:Int)=some (s[i].toNat:Int):=by
 unfold bQ_; rw [ap_ h]; rfl
theorem io_ {a b:Str} (h:a.length+b.length≤9223372036854775807):cat a b=some (a++b):=by
 unfold cat; rw [if_pos h]
theorem cr_ {α : Type} {bytes:Nat} {xs ys:List α} (h1:xs.length+ys.length≤9223372036854775807) (h2:(xs.length+ys.length)*bytes≤140737488355328):room bytes xs ys=some (xs++ys):=by
 unfold room; rw [if_pos ⟨h1,h2⟩]
theorem cc_ {α : Type} {xs:List α} {lo hi:Int} (h0:0≤lo) (h1:lo≤hi) (h2:hi≤xs.length):bl_ xs lo hi=some ((xs.take hi.toNat).drop lo.toNat):=by
 unfold bl_; rw [if_pos ⟨h0,h1,h2⟩]
theorem shrI_eq {k:IntKind} {x y:Int} (h:0≤y) (h2:y≤k.bits):shrI k x y=some (x.fdiv (2 ^ y.toNat)):=by
 unfold shrI; rw [if_neg (by omega),show min y.toNat k.bits=y.toNat by omega]
end Rt
end Go
namespace Go.Proofs.YtebokaoegomboaaGreatDoor
open Go.Rt Go.RowKit Go.Sort
theorem i7_ {α : Type} {R : α → α → Prop}:∀ {l1 l2:List α},l1.Perm l2→l1.Pairwise R→l2.Pairwise R→(∀ a,a∈l1→∀ b,b∈l1→R a b→R b a→a=b)→l1=l2
 | [],l2,hp,_,_,_=>hp.nil_eq
 | a::l1,[],hp,_,_,_=>absurd hp.length_eq (by simp)
 | a::l1,b::l2,hp,h1,h2,hR=>by
  have h1':=List.pairwise_cons.1 h1
  have h2':=List.pairwise_cons.1 h2
  have hab:a=b:=by
   by_cases e:a=b
   ·exact e
   have ha:a∈b::l2:=hp.subset List.mem_cons_self
   have hb:b∈a::l1:=hp.symm.subset List.mem_cons_self
   rcases List.mem_cons.1 ha with h | ha'
   ·exact h
   rcases List.mem_cons.1 hb with h | hb'
   ·exact h.symm
   exact hR a List.mem_cons_self b hb (h1'.1 b hb') (h2'.1 a ha')
  subst hab
  rw [i7_ hp.cons_inv h1'.2 h2'.2 fun x hx y hy=>hR x (List.mem_cons_of_mem _ hx) y (List.mem_cons_of_mem _ hy)]
def insS {α : Type} (le : α → α → Bool) (x : α):List α → List α
 | []=>[x]
 | y::l=>bif le x y then x::y::l else y::insS le x l
def isort {α : Type} (le : α → α → Bool):List α → List α
 | []=>[]
 | x::l=>insS le x (isort le l)
section
variable {α : Type} {le : α → α → Bool}
theorem oD_ (x : α):∀ (l:List α),(insS le x l).Perm (x::l)
 | []=>List.Perm.refl _
 | y::l=>by
  unfold insS
  cases le x y with
  | true=>exact List.Perm.refl _
  | false=>exact ((oD_ x l).cons y).trans (List.Perm.swap x y l)
theorem rE_:∀ (l:List α),(isort le l).Perm l
 | []=>List.Perm.refl _
 | x::l=>(oD_ x _).trans ((rE_ l).cons x)
theorem pJ_ (ht:∀ a b c,le a b=true→le b c=true→le a c=true) (hl:∀ a b,le a b=true∨le b a=true) (x : α):∀ (l:List α),l.Pairwise (fun a b=>le a b=true)→(insS le x l).Pairwise (fun a b=>le a b=true)
 | [],_=>by simp [insS]
 | y::l,h=>by
  obtain ⟨h1,h2⟩:=List.pairwise_cons.1 h
  unfold insS
  cases hx:le x y with
  | true =>
   refine List.pairwise_cons.2 ⟨fun z hz => ?_,h⟩
   rcases List.mem_cons.1 hz with rfl | hz
   ·exact hx
   ·exact ht _ _ _ hx (h1 z hz)
  | false =>
   refine List.pairwise_cons.2 ⟨fun z hz => ?_,pJ_ ht hl x l h2⟩
   rcases List.mem_cons.1 ((oD_ x l).subset hz) with rfl | hz
   ·rcases hl z y with h' | h'
    ·rw [hx] at h'; cases h'
    ·exact h'
   ·exact h1 z hz
theorem oE_ (ht:∀ a b c,le a b=true→le b c=true→le a c=true) (hl:∀ a b,le a b=true∨le b a=true):∀ (l:List α),(isort le l).Pairwise (fun a b=>le a b=true)
 | []=>List.Pairwise.nil
 | x::l=>pJ_ ht hl x _ (oE_ ht hl l)
end
def leK {α : Type} (key : α → Int) (x y : α):Bool:=decide (key x≤key y)
theorem leK_trans {α : Type} (key : α → Int) (a b c : α) (h1:leK key a b=true) (h2:leK key b c=true):leK key a c=true:=by
 unfold leK at *
 simp only [decide_eq_true_eq] at *
 omega
theorem leK_total {α : Type} (key : α → Int) (a b : α):leK key a b=true∨leK key b a=true:=by
 unfold leK
 simp only [decide_eq_true_eq]
 omega
theorem key_inj {α : Type} {key : α → Int}:∀ {l:List α},(l.map key).Nodup→∀ a,a∈l→∀ b,b∈l→key a=key b→a=b
 | [],_,a,ha,_,_,_=>by cases ha
 | x::l,h,a,ha,b,hb,e=>by
  rw [List.map_cons] at h
  obtain ⟨h1,h2⟩:=List.nodup_cons.1 h
  rcases List.mem_cons.1 ha with ha1 | ha1 <;> rcases List.mem_cons.1 hb with hb1 | hb1
  ·rw [ha1,hb1]
  ·rw [ha1] at e
   exact absurd (List.mem_map.2 ⟨b,hb1,e.symm⟩) h1
  ·rw [hb1] at e
   exact absurd (List.mem_map.2 ⟨a,ha1,e⟩) h1
  ·exact key_inj h2 a ha1 b hb1 e
theorem md_ {α : Type} [Inhabited α] {key : α → Int} {xs ys:List α} (h:dT_ key xs=some ys):ys.Perm xs∧ys.Pairwise fun a b=>leK key a b=true:=by
 unfold dT_ at h
 split at h
 ·obtain rfl:=Option.some.inj h
  have hs:=pdq_sorts (fun (x y : α)=>decide (key x<key y)) ⟨fun x=>by simp,fun x y z h1 h2=>by simp at *; omega,fun x y z h1 h2=>by simp at *; omega⟩ xs.toArray 0 xs.length (Lib.bitLen xs.length) true true (Nat.zero_le _) (by simp) (Or.inl rfl)
  generalize Sort.pdq (fun (x y : α)=>decide (key x<key y)) xs.toArray 0 xs.length (Lib.bitLen xs.length) true true=d at hs
  obtain ⟨⟨h1,_,h2⟩,h3⟩:=hs
  have h1':d.size=xs.length:=by simpa using h1
  have e1:d.extract 0 xs.length=d:=by rw [← h1']; simp
  have e2:xs.toArray.extract 0 xs.length=xs.toArray:=by
   have:xs.length=xs.toArray.size:=by simp
   rw [this]
   simp
  rw [e1,e2] at h2
  refine ⟨by simpa using h2,List.pairwise_iff_getElem.2 fun i j hi hj hij => ?_⟩
  have hj':j<xs.length:=by simpa [h1'] using hj
  have:=h3 i j (Nat.zero_le _) hij hj'
  rw [getElem!_pos d j (by omega),getElem!_pos d i (by omega)] at this
  unfold leK
  simp only [decide_eq_true_eq,decide_eq_false_iff_not] at *
  simpa using this
 ·cases h
def sortByC {α : Type} [Inhabited α] (key : α → Int) (xs:List α):Option (List α):=if xs.length<4611686018427387904 then (if (xs.map key).Nodup then some (isort (leK key) xs) else dT_ key xs) else none
theorem sortBy_eq {α : Type} [Inhabited α] : @dT_ α _=sortByC:=by
 funext key xs
 unfold sortByC
 split
 ·rename_i hl
  split
  ·rename_i hn
   obtain ⟨ys,hy⟩:∃ ys,dT_ key xs=some ys:=⟨_,by unfold dT_; rw [if_pos hl]⟩
   obtain ⟨h1,h2⟩:=md_ hy
   rw [hy]
   congr 1
   refine i7_ (h1.trans (rE_ xs).symm) h2 (oE_ (leK_trans key) (leK_total key) xs) fun a ha b hb h3 h4 => ?_
   refine key_inj hn a (h1.subset ha) b (h1.subset hb) ?_
   unfold leK at h3 h4
   simp only [decide_eq_true_eq] at h3 h4
   omega
  ·rfl
 ·rename_i hl
  unfold dT_
  rw [if_neg hl]
end Go.Proofs.YtebokaoegomboaaGreatDoor
namespace Go.Proofs.YtebokaoegomboaaGreatDoor
open Go.Rt Go.RowKit
noncomputable section
def bothC {R:Type} [DecidableEq R] (x y:Option R):Option R:=if x=y then x else none
theorem e_both {R:Type} [DecidableEq R] : @both R=bothC:=by
 funext x y
 unfold both bothC
 split <;> rfl
def dA_ (xs:List api_User):Option (List api_User):=room 56 ([]:List api_User) xs
theorem fs_:bj_=dA_:=by
 funext xs
 unfold bj_ dA_
 cases xs with
 | nil=>exact ed_ _
 | cons x l =>
  show Option.bind (room 56 ([]:List api_User) (x::l)) (fun y=>some y)=_
  cases room 56 ([]:List api_User) (x::l) <;> rfl
def cP_ (xs:List api_Quota):Option (List api_Quota):=room 32 ([]:List api_Quota) xs
theorem eP_:bf_=cP_:=by
 funext xs
 unfold bf_ cP_
 cases xs with
 | nil=>exact ed_ _
 | cons x l =>
  show Option.bind (room 32 ([]:List api_Quota) (x::l)) (fun y=>some y)=_
  cases room 32 ([]:List api_Quota) (x::l) <;> rfl
def do_ (xs:List Str):Option (List Str):=room 16 ([]:List Str) xs
theorem ez_:aT_=do_:=by
 funext xs
 unfold aT_ do_
 cases xs with
 | nil=>exact ed_ _
 | cons x l =>
  show Option.bind (room 16 ([]:List Str) (x::l)) (fun y=>some y)=_
  cases room 16 ([]:List Str) (x::l) <;> rfl
def eA_ (xs:List api_Node):Option (List api_Node):=room 128 ([]:List api_Node) xs
theorem iH_:bE_=eA_:=by
 funext xs
 unfold bE_ eA_
 cases xs with
 | nil=>exact ed_ _
 | cons x l =>
  show Option.bind (room 128 ([]:List api_Node) (x::l)) (fun y=>some y)=_
  cases room 128 ([]:List api_Node) (x::l) <;> rfl
def jQ_ (xs:List Int):Option (List Int):=room 8 ([]:List Int) xs
theorem me_:ca_=jQ_:=by
 funext xs
 unfold ca_ jQ_
 cases xs with
 | nil=>exact ed_ _
 | cons x l =>
  show Option.bind (room 8 ([]:List Int) (x::l)) (fun y=>some y)=_
  cases room 8 ([]:List Int) (x::l) <;> rfl
def cQ_ (xs:List api_Block):Option (List api_Block):=room 40 ([]:List api_Block) xs
theorem eQ_:bg_=cQ_:=by
 funext xs
 unfold bg_ cQ_
 cases xs with
 | nil=>exact ed_ _
 | cons x l =>
  show Option.bind (room 40 ([]:List api_Block) (x::l)) (fun y=>some y)=_
  cases room 40 ([]:List api_Block) (x::l) <;> rfl
def gF_ (xs:List api_Snap):Option (List api_Snap):=room 24 ([]:List api_Snap) xs
theorem nX_:b9_=gF_:=by
 funext xs
 unfold b9_ gF_
 cases xs with
 | nil=>exact ed_ _
 | cons x l =>
  show Option.bind (room 24 ([]:List api_Snap) (x::l)) (fun y=>some y)=_
  cases room 24 ([]:List api_Snap) (x::l) <;> rfl
def hA_ (y4:(List api_User)) (s2:Int × (List api_User)):Option (Step (Int × (List api_User)) (List api_User)) :=
 (bif (decide (s2.1<(y4.length:Int))) then
  (ak_ s2.2 s2.1).bind fun y11 =>
  (do_ y11.Members_).bind fun y12 =>
  (ak_ s2.2 s2.1).bind fun y13 =>
  some (.next ((w64 (s2.1+1)),(s2.2.set s2.1.toNat (api_User.mk y13.Name_ y13.Leader_ y12))))
 else
  some (.done s2.2))
theorem qg_:i2_=hA_:=by
 funext y4 s2
 simp only [i2_,hA_,ez_] <;> rfl
def j4_ (x0:List api_User) (x1:List api_Quota) (x2:Str) (x3:Int):Option (api_FileSrv × Int) :=
 (gi_ x0).bind fun y1 =>
 (bif (y1 != 0) then
  some (((api_FileSrv.mk [] [] (api_Tree.mk 0 []) []),y1))
 else
  (fg_ x1).bind fun y2 =>
  (bif (y2 != 0) then
   some (((api_FileSrv.mk [] [] (api_Tree.mk 0 []) []),y2))
  else
   (ej_ x2).bind fun y3 =>
   (bif (!y3) then
    some (((api_FileSrv.mk [] [] (api_Tree.mk 0 []) []),25))
   else
    (dA_ x0).bind fun y4 =>
    (cP_ x1).bind fun y5 =>
    (ci_ x3).bind fun y6 =>
    (p9_ x2 493 y6).bind fun y7 =>
    (aj_ (hA_ y4) BIG (0,y4)).bind fun o1 =>
    some (((api_FileSrv.mk o1 y5 y7 []),0)))))
theorem t2_:ju_=j4_:=by
 funext x0 x1 x2 x3
 simp only [ju_,j4_,fs_,eP_,qg_] <;> rfl
def dK_ (y1:(List api_User)) (s2:Int × (List api_User)):Option (Step (Int × (List api_User)) (List api_User)) :=
 (bif (decide (s2.1<(y1.length:Int))) then
  (ak_ s2.2 s2.1).bind fun y5 =>
  (do_ y5.Members_).bind fun y6 =>
  (ak_ s2.2 s2.1).bind fun y7 =>
  some (.next ((w64 (s2.1+1)),(s2.2.set s2.1.toNat (api_User.mk y7.Name_ y7.Leader_ y6))))
 else
  some (.done s2.2))
theorem kJ_:d7_=dK_:=by
 funext y1 s2
 simp only [d7_,dK_,ez_] <;> rfl
def c7_ (x0:api_FileSrv):Option api_FileSrv :=
 (dA_ x0.Users_).bind fun y1 =>
 (aj_ (dK_ y1) BIG (0,y1)).bind fun o1 =>
 (cP_ x0.Quotas_).bind fun y8 =>
 (eA_ x0.Tree_.Nodes_).bind fun y9 =>
 (jQ_ x0.Excl_).bind fun y10 =>
 some ((api_FileSrv.mk o1 y8 (api_Tree.mk x0.Tree_.Next_ y9) y10))
theorem gV_:cD_=c7_:=by
 funext x0
 simp only [cD_,c7_,fs_,kJ_,eP_,iH_,me_] <;> rfl
def i8_ (x0:api_FileSrv) (x1:Int):Option api_SnapSrv :=
 (c7_ x0).bind fun y1 =>
 (ox_ x1).bind fun y2 =>
 some ((api_SnapSrv.mk y1 y2 []))
theorem sR_:ia_=i8_:=by
 funext x0 x1
 simp only [ia_,i8_,gV_] <;> rfl
def i9_ (x0:List api_User) (x1:Str) (s2:Int):Option (Step Int (Out Unit (api_User × Bool))) :=
 (bif (decide (s2<(x0.length:Int))) then
  (ak_ x0 s2).bind fun y3 =>
  (bif (y3.Name_==x1) then
   (do_ y3.Members_).bind fun y4 =>
   some (.done (.ret (((api_User.mk y3.Name_ y3.Leader_ y4),true))))
  else
   some (.next (w64 (s2+1))))
 else
  some (.done (.fall ())))
theorem sS_:fQ_=i9_:=by
 funext x0 x1 s2
 simp only [fQ_,i9_,ez_] <;> rfl
def mf_ (x0:List api_User) (x1:Str):Option (api_User × Bool) :=
 (aj_ (i9_ x0 x1) BIG 0).bind fun wo1=>match wo1 with
 | .ret r1=>some r1
 | .fall _ =>
  some (((api_User.mk [] [] []),false))
theorem e_user_Find:jL_=mf_:=by
 funext x0 x1
 simp only [jL_,mf_,sS_] <;> rfl
def j5_ (x0:List api_User) (x1:Str) (x2:Str):Option Bool :=
 (bif (x1==x2) then
  some (true)
 else
  (mf_ x0 x2).bind fun y1 =>
  Option.bind (bif y1.2 then 
   (bz_ y1.1.Members_ x1).bind fun y2 =>
   some y2
    else some false) fun (y3:Bool) =>
  some (y3))
theorem t3_:fh_=j5_:=by
 funext x0 x1 x2
 simp only [fh_,j5_,e_user_Find] <;> rfl
def hm_ (x0:List api_User) (x1:Str) (x2:Str) (x3:Str) (x4:Int) (x5:Int):Option Bool :=
 (bif (((decide (x4<0))||(decide (x5<0)))||(decide (x5>7))) then
  some (false)
 else
  Option.bind (
   (j5_ x0 x1 x3).bind fun y1 =>
   (bif y1 then
    some (orI .i64 (x4.tmod 8) ((IntKind.i64.wrap (x4.tdiv 8)).tmod 8))
   else
    some (x4.tmod 8))
   ) fun (o1:Int) =>
  Option.bind (
   (bif (x1==x2) then
    some (orI .i64 o1 ((IntKind.i64.wrap (x4.tdiv 64)).tmod 8))
   else
    some o1)
   ) fun (o2:Int) =>
  some (((bP_ .i64 o2 x5)==x5)))
theorem nS_:ev_=hm_:=by
 funext x0 x1 x2 x3 x4 x5
 simp only [ev_,hm_,t3_] <;> rfl
def ec_ (x0:api_FileSrv) (x1:Str) (x2:api_Node) (x3:Int):Option Bool :=
 (hm_ x0.Users_ x1 x2.Uid_ x2.Gid_ x2.Mode_ x3).bind fun y1 =>
 some (y1)
theorem hn_:c5_=ec_:=by
 funext x0 x1 x2 x3
 simp only [c5_,ec_,nS_] <;> rfl
def gs_ (x0:api_FileSrv) (x1:Str) (x2:Int) (x3:Str):Option (Int × Int) :=
 (b8_ x0 x1 x2).bind fun y1 =>
 (bif (y1.2 != 0) then
  some ((0,y1.2))
 else
  (ec_ x0 x1 y1.1 1).bind fun y2 =>
  (bif (!y2) then
   some ((0,11))
  else
   (fR_ x0.Tree_ x2 x3).bind fun y3 =>
   some ((y3.1,y3.2))))
theorem mE_:dV_=gs_:=by
 funext x0 x1 x2 x3
 simp only [dV_,gs_,hn_] <;> rfl
def hB_ (x0:api_SnapSrv) (x1:Str):Option Bool :=
 Option.bind (gs_ x0.Files_ x1 0 []) fun (y1:Int × Int) =>
 some ((y1.2 != 25))
theorem qh_:dQ_=hB_:=by
 funext x0 x1
 simp only [dQ_,hB_,mE_] <;> rfl
def ip_ (x0:api_Tree) (s2:Int × (List Int) × (List Int) × (List tree_place) × (List Int)):Option (Step (Int × (List Int) × (List Int) × (List tree_place) × (List Int)) (Out Unit Bool)) :=
 (bif (decide (s2.1<(x0.Nodes_.length:Int))) then
  Option.bind (
   (ak_ x0.Nodes_ s2.1).bind fun y12 =>
   (id_ y12).bind fun y13 =>
   Option.bind (bif ((!y13)||(decide (y12.Id_≥x0.Next_))) then some true else 
    Option.bind (bif (decide (s2.1>0)) then 
     (ak_ x0.Nodes_ (w64 (s2.1 - 1))).bind fun y14 =>
     some (decide (y12.Id_≤y14.Id_))
      else some false) fun (y15:Bool) =>
    some y15
    ) fun (y16:Bool) =>
   (bif y16 then
    some (.ret (false))
   else
    Option.bind (
     (bif (s2.1==0) then
      Option.bind (bif (((y12.Id_ != 1)||(y12.Parent_ != 1))||(!(y12.Name_==[47]))) then some true else 
       (bA_ y12.Mode_).bind fun y17 =>
       some (!y17)
       ) fun (y18:Bool) =>
      (bif y18 then
       some (.ret (false))
      else
       some (.fall ()))
     else
      (dJ_ y12.Name_).bind fun y19 =>
      Option.bind (bif (!y19) then some true else some ((aB_ eqI s2.2.1 s2.2.2.1 y12.Parent_ 0)==0)) fun (y20:Bool) =>
      Option.bind (bif y20 then some true else some (decide ((aB_ (fun (a b:tree_place)=>decide (a=b)) s2.2.2.2.1 s2.2.2.2.2 (tree_place.mk y12.Parent_ y12.Name_) 0)>0))) fun (y21:Bool) =>
      (bif y21 then
       some (.ret (false))
      else
       some (.fall ())))
     ) fun (wo4:Out Unit Bool)=>match wo4 with
    | .ret r4=>some (.ret r4)
    | .fall _ =>
     Option.bind (
      (bif (decide (s2.1>0)) then
       (bothC (
        some ((aK_ (fun (a b:tree_place)=>decide (a=b)) (aK_ (fun (a b:tree_place)=>decide (a=b)) s2.2.2.2.1 (tree_place.mk y12.Parent_ y12.Name_)) (tree_place.mk y12.Parent_ y12.Name_)),(aZ_ (fun (a b:tree_place)=>decide (a=b)) (aK_ (fun (a b:tree_place)=>decide (a=b)) s2.2.2.2.1 (tree_place.mk y12.Parent_ y12.Name_)) (aZ_ (fun (a b:tree_place)=>decide (a=b)) s2.2.2.2.1 s2.2.2.2.2 (tree_place.mk y12.Parent_ y12.Name_) (aB_ (fun (a b:tree_place)=>decide (a=b)) s2.2.2.2.1 s2.2.2.2.2 (tree_place.mk y12.Parent_ y12.Name_) 0)) (tree_place.mk y12.Parent_ y12.Name_) (w64 ((aB_ (fun (a b:tree_place)=>decide (a=b)) s2.2.2.2.1 s2.2.2.2.2 (tree_place.mk y12.Parent_ y12.Name_) 0)+1))))) (
        some ((aK_ (fun (a b:tree_place)=>decide (a=b)) (aK_ (fun (a b:tree_place)=>decide (a=b)) s2.2.2.2.1 (tree_place.mk y12.Parent_ y12.Name_)) (tree_place.mk y12.Parent_ y12.Name_)),(aZ_ (fun (a b:tree_place)=>decide (a=b)) (aK_ (fun (a b:tree_place)=>decide (a=b)) s2.2.2.2.1 (tree_place.mk y12.Parent_ y12.Name_)) (aZ_ (fun (a b:tree_place)=>decide (a=b)) s2.2.2.2.1 s2.2.2.2.2 (tree_place.mk y12.Parent_ y12.Name_) (aB_ (fun (a b:tree_place)=>decide (a=b)) s2.2.2.2.1 s2.2.2.2.2 (tree_place.mk y12.Parent_ y12.Name_) 0)) (tree_place.mk y12.Parent_ y12.Name_) (w64 ((aB_ (fun (a b:tree_place)=>decide (a=b)) (aK_ (fun (a b:tree_place)=>decide (a=b)) s2.2.2.2.1 (tree_place.mk y12.Parent_ y12.Name_)) (aZ_ (fun (a b:tree_place)=>decide (a=b)) s2.2.2.2.1 s2.2.2.2.2 (tree_place.mk y12.Parent_ y12.Name_) (aB_ (fun (a b:tree_place)=>decide (a=b)) s2.2.2.2.1 s2.2.2.2.2 (tree_place.mk y12.Parent_ y12.Name_) 0)) (tree_place.mk y12.Parent_ y12.Name_) 0)+1))))))
      else
       some (s2.2.2.2.1,s2.2.2.2.2))
      ) fun (o5:(List tree_place) × (List Int)) =>
     (bA_ y12.Mode_).bind fun y22 =>
     (bif y22 then
      some (.fall ((aK_ eqI s2.2.1 y12.Id_),(aZ_ eqI s2.2.1 s2.2.2.1 y12.Id_ (w64 ((aB_ eqI s2.2.1 s2.2.2.1 y12.Id_ 0)+1))),o5.1,o5.2))
     else
      some (.fall (s2.2.1,s2.2.2.1,o5.1,o5.2))))
   ) fun (wo6:Out ((List Int) × (List Int) × (List tree_place) × (List Int)) Bool)=>match wo6 with
  | .ret r6=>some (.done (.ret r6))
  | .fall o6 =>
   some (.next ((w64 (s2.1+1)),o6.1,o6.2.1,o6.2.2.1,o6.2.2.2))
 else
  some (.done (.fall ())))
theorem rF_:ck_=ip_:=by
 funext x0 s2
 simp only [ck_,ip_,e_both] <;> rfl
def iq_ (x0:api_Tree):Option Bool :=
 (bif (((decide ((x0.Nodes_.length:Int)<1))||(decide ((x0.Nodes_.length:Int)>1024)))||(decide (x0.Next_>1048576))) then
  some (false)
 else
  (aj_ (ip_ x0) BIG (0,([]:List Int),([]:List Int),([]:List tree_place),([]:List Int))).bind fun wo7=>match wo7 with
  | .ret r7=>some r7
  | .fall _ =>
   some (true))
theorem oF_:ek_=iq_:=by
 funext x0
 simp only [ek_,iq_,rF_] <;> rfl
def eR_ (x0:archive_reader) (x1:Str):Option (api_Tree × Int × archive_reader) :=
 (bH_ x0 x1 4).bind fun y1 =>
 (bif (y1.2.1 != 0) then
  some (((api_Tree.mk 0 []),y1.2.1,y1.2.2))
 else
  (aq_ (archive_decoder.mk y1.1 0 false) 4).bind fun y2 =>
  (aq_ y2.2 4).bind fun y3 =>
  (bU_ y3.2).bind fun y4 =>
  (bif (((y4.2.bad_||(y4.2.at_ != (y1.1.length:Int)))||(decide (y3.1<1)))||(decide (y3.1>1024))) then
   some (((api_Tree.mk 0 []),2,y1.2.2))
  else
   Option.bind (aM_ BIG (archive_builder_rest.mk [] y3.1) y1.2.2 y4.1) fun (y5:Int × archive_builder_rest × archive_reader) =>
   (bif (y5.1 != 0) then
    some (((api_Tree.mk 0 []),y5.1,y5.2.2))
   else
    (sortByC (fun (x:api_Node)=>x.Id_) y5.2.1.nodes_).bind fun y6 =>
    Option.bind (bif ((y6.length:Int) != y3.1) then some true else 
     (iq_ (api_Tree.mk y2.1 y6)).bind fun y7 =>
     some (!y7)
     ) fun (y8:Bool) =>
    (bif y8 then
     some (((api_Tree.mk 0 []),2,y5.2.2))
    else
     some (((api_Tree.mk y2.1 y6),0,y5.2.2))))))
theorem mF_:cb_=eR_:=by
 funext x0 x1
 simp only [cb_,eR_,sortBy_eq,oF_] <;> rfl
def gG_ (x0:api_Store) (x1:Str):Option (api_Tree × Int) :=
 Option.bind (eR_ (archive_reader.mk x0 []) x1) fun (y1:api_Tree × Int × archive_reader) =>
 some ((y1.1,y1.2.1))
theorem ps_:bS_=gG_:=by
 funext x0 x1
 simp only [bS_,gG_,mF_] <;> rfl
def fC_ (x0:api_SnapSrv) (x1:Int):Option (snapshot_place × Bool) :=
 (bif ((x1==1)||(x1==2)) then
  some (((snapshot_place.mk (api_FileSrv.mk [] [] (api_Tree.mk 0 []) []) 0 x1),true))
 else
  (bif ((decide (x1<1048576))||(decide ((IntKind.i64.wrap (x1.tdiv 1048576))>(w64 ((x0.Snaps_.length:Int)+1))))) then
   some (((snapshot_place.mk (api_FileSrv.mk [] [] (api_Tree.mk 0 []) []) 0 0),false))
  else
   Option.bind (
    (bif (decide ((IntKind.i64.wrap (x1.tdiv 1048576))>1)) then
     (ak_ x0.Snaps_ (w64 ((IntKind.i64.wrap (x1.tdiv 1048576)) - 2))).bind fun y1 =>
     (gG_ x0.Store_ y1.Score_).bind fun y2 =>
     (bif (y2.2 != 0) then
      some (.ret (((snapshot_place.mk (api_FileSrv.mk [] [] (api_Tree.mk 0 []) []) 0 0),false)))
     else
      some (.fall (x0.Files_.Users_,x0.Files_.Quotas_,y2.1.Next_,y2.1.Nodes_,[],(IntKind.i64.wrap (x1.tdiv 1048576)),(x1.tmod 1048576))))
    else
     some (.fall (x0.Files_.Users_,x0.Files_.Quotas_,x0.Files_.Tree_.Next_,x0.Files_.Tree_.Nodes_,x0.Files_.Excl_,(IntKind.i64.wrap (x1.tdiv 1048576)),(x1.tmod 1048576))))
    ) fun (wo1:Out ((List api_User) × (List api_Quota) × Int × (List api_Node) × (List Int) × Int × Int) (snapshot_place × Bool))=>match wo1 with
   | .ret r1=>some r1
   | .fall o1 =>
    (bF_ (api_Tree.mk o1.2.2.1 o1.2.2.2.1) (x1.tmod 1048576)).bind fun y3 =>
    some (((snapshot_place.mk (api_FileSrv.mk o1.1 o1.2.1 (api_Tree.mk o1.2.2.1 o1.2.2.2.1) o1.2.2.2.2.1) o1.2.2.2.2.2.1 o1.2.2.2.2.2.2),y3.2))))
theorem lN_:bi_=fC_:=by
 funext x0 x1
 simp only [bi_,fC_,ps_] <;> rfl
def c1_ (x0:api_SnapSrv) (x1:Str) (x2:Int):Option (snapshot_place × Int) :=
 (hB_ x0 x1).bind fun y1 =>
 (bif (!y1) then
  some (((snapshot_place.mk (api_FileSrv.mk [] [] (api_Tree.mk 0 []) []) 0 0),25))
 else
  (fC_ x0 x2).bind fun y2 =>
  (bif (!y2.2) then
   some (((snapshot_place.mk (api_FileSrv.mk [] [] (api_Tree.mk 0 []) []) 0 0),8))
  else
   some ((y2.1,0))))
theorem e6_:cq_=c1_:=by
 funext x0 x1 x2
 simp only [cq_,c1_,qh_,lN_] <;> rfl
def an_ (x0:api_SnapSrv):Option api_SnapSrv :=
 (c7_ x0.Files_).bind fun y1 =>
 (cQ_ x0.Store_.Blocks_).bind fun y2 =>
 (gF_ x0.Snaps_).bind fun y3 =>
 some ((api_SnapSrv.mk y1 (api_Store.mk x0.Store_.Cap_ y2) y3))
theorem dB_:aw_=an_:=by
 funext x0
 simp only [aw_,an_,gV_,eQ_,nX_] <;> rfl
def fY_ (y1:(List api_User)) (s2:Int × (List api_User)):Option (Step (Int × (List api_User)) (List api_User)) :=
 (bif (decide (s2.1<(y1.length:Int))) then
  (ak_ s2.2 s2.1).bind fun y5 =>
  (do_ y5.Members_).bind fun y6 =>
  (ak_ s2.2 s2.1).bind fun y7 =>
  some (.next ((w64 (s2.1+1)),(s2.2.set s2.1.toNat (api_User.mk y7.Name_ y7.Leader_ y6))))
 else
  some (.done s2.2))
theorem oG_:hy_=fY_:=by
 funext y1 s2
 simp only [hy_,fY_,ez_] <;> rfl
def el_ (x0:api_FileSrv):Option api_FileSrv :=
 (dA_ x0.Users_).bind fun y1 =>
 (aj_ (fY_ y1) BIG (0,y1)).bind fun o1 =>
 (eA_ x0.Tree_.Nodes_).bind fun y8 =>
 (cP_ x0.Quotas_).bind fun y9 =>
 (jQ_ x0.Excl_).bind fun y10 =>
 some ((api_FileSrv.mk o1 y9 (api_Tree.mk x0.Tree_.Next_ y8) y10))
theorem ir_:d8_=el_:=by
 funext x0
 simp only [d8_,el_,fs_,oG_,iH_,eP_,me_] <;> rfl
def is_ (x0:api_FileSrv) (x1:Str) (x2:api_Node) (x3:Str) (x4:Int) (x5:Int):Option Int :=
 (dJ_ x3).bind fun y1 =>
 (bif (!y1) then
  some (6)
 else
  (gC_ x4).bind fun y2 =>
  (bif (!y2) then
   some (1)
  else
   (fT_ x5).bind fun y3 =>
   (bif (y3.2 != 0) then
    some (y3.2)
   else
    (ao_ x4 2147483648).bind fun y4 =>
    (bif (y4&&(x5 != 0)) then
     some (12)
    else
     (ec_ x0 x1 x2 2).bind fun y5 =>
     (bif (!y5) then
      some (11)
     else
      (fR_ x0.Tree_ x2.Id_ x3).bind fun y6 =>
      (bif (y6.2==0) then
       some (7)
      else
       (kx_ x0.Quotas_ x0.Tree_ x1 1 0).bind fun y7 =>
       (bif (!y7) then
        some (21)
       else
        some (0))))))))
theorem rG_:g8_=is_:=by
 funext x0 x1 x2 x3 x4 x5
 simp only [g8_,is_,hn_] <;> rfl
def gt_ (x0:api_FileSrv) (x1:Int):Option api_FileSrv :=
 Option.bind (
  (du_ x0.Excl_ x1).bind fun y1 =>
  (bif (!y1.2) then
   (jQ_ x0.Excl_).bind fun y2 =>
   ((insN (α := Int) 8) y2 y1.1 [x1]).bind fun y3 =>
   some (x0.Users_,x0.Quotas_,x0.Tree_.Next_,x0.Tree_.Nodes_,y3)
  else
   some (x0.Users_,x0.Quotas_,x0.Tree_.Next_,x0.Tree_.Nodes_,x0.Excl_))
  ) fun (o1:(List api_User) × (List api_Quota) × Int × (List api_Node) × (List Int)) =>
 some ((api_FileSrv.mk o1.1 o1.2.1 (api_Tree.mk o1.2.2.1 o1.2.2.2.1) o1.2.2.2.2))
theorem mG_:fU_=gt_:=by
 funext x0 x1
 simp only [fU_,gt_,me_] <;> rfl
def hC_ (x0:api_FileSrv) (x1:Str) (x2:Int) (x3:Str) (x4:Int) (x5:Int) (x6:Int):Option (api_FileSrv × Int × Int) :=
 (el_ x0).bind fun y1 =>
 (b8_ x0 x1 x2).bind fun y2 =>
 Option.bind (
  (bif (y2.2==0) then
   (is_ x0 x1 y2.1 x3 x4 x5).bind fun y3 =>
   some y3
  else
   some y2.2)
  ) fun (o1:Int) =>
 (bif (o1 != 0) then
  some ((y1,0,o1))
 else
  (ld_ y2.1.Mode_ x4).bind fun y4 =>
  (ci_ x6).bind fun y5 =>
  (l8_ y1.Tree_ x2 x3 (orI .i64 (f1_ .i64 x4 511) (bP_ .i64 y4 511)) x1 y2.1.Gid_ y5).bind fun y6 =>
  (bif (y6.2.2 != 0) then
   some ((y1,0,y6.2.2))
  else
   Option.bind (
    (ao_ (orI .i64 (f1_ .i64 x4 511) (bP_ .i64 y4 511)) 536870912).bind fun y7 =>
    (bif y7 then
     (gt_ (api_FileSrv.mk y1.Users_ y1.Quotas_ y6.1 y1.Excl_) y6.2.1).bind fun y8 =>
     some (y8.Users_,y8.Quotas_,y8.Tree_.Next_,y8.Tree_.Nodes_,y8.Excl_)
    else
     some (y1.Users_,y1.Quotas_,y6.1.Next_,y6.1.Nodes_,y1.Excl_))
    ) fun (o2:(List api_User) × (List api_Quota) × Int × (List api_Node) × (List Int)) =>
   some (((api_FileSrv.mk o2.1 o2.2.1 (api_Tree.mk o2.2.2.1 o2.2.2.2.1) o2.2.2.2.2),y6.2.1,0))))
theorem qi_:gn_=hC_:=by
 funext x0 x1 x2 x3 x4 x5 x6
 simp only [gn_,hC_,ir_,rG_,mG_] <;> rfl
def em_ (x0:api_SnapSrv) (x1:api_FileSrv):Option api_SnapSrv :=
 (an_ x0).bind fun y1 =>
 some ((api_SnapSrv.mk x1 y1.Store_ y1.Snaps_))
theorem it_:d9_=em_:=by
 funext x0 x1
 simp only [d9_,em_,dB_] <;> rfl
def gH_ (x0:api_SnapSrv) (x1:Str) (x2:Int) (x3:Str) (x4:Int) (x5:Int) (x6:Int):Option (api_SnapSrv × Int × Int) :=
 (c1_ x0 x1 x2).bind fun y1 =>
 (bif (y1.2 != 0) then
  (an_ x0).bind fun y2 =>
  some ((y2,0,y1.2))
 else
  (bif (y1.1.tree_ != 1) then
   (an_ x0).bind fun y3 =>
   some ((y3,0,33))
  else
   (hC_ x0.Files_ x1 y1.1.node_ x3 x4 x5 x6).bind fun y4 =>
   (bif (y4.2.2 != 0) then
    (an_ x0).bind fun y5 =>
    some ((y5,0,y4.2.2))
   else
    (em_ x0 y4.1).bind fun y6 =>
    some ((y6,(w64 (1048576+y4.2.1)),0)))))
theorem pt_:fA_=gH_:=by
 funext x0 x1 x2 x3 x4 x5 x6
 simp only [fA_,gH_,e6_,dB_,qi_,it_] <;> rfl
def iu_ (x0:api_FileSrv) (x1:Str) (x2:Int) (x3:Int) (x4:Str) (x5:Int):Option (api_FileSrv × Int × Int) :=
 (el_ x0).bind fun y1 =>
 (da_ x0 x1 x2).bind fun y2 =>
 (bif (y2.2 != 0) then
  some ((y1,0,y2.2))
 else
  (ao_ y2.1.Mode_ 2147483648).bind fun y3 =>
  (bif y3 then
   some ((y1,0,10))
  else
   (bif (decide (x3<0)) then
    some ((y1,0,1))
   else
    (bif (x4==[]) then
     some ((y1,0,0))
    else
     Option.bind (
      (ao_ y2.1.Mode_ 1073741824).bind fun y4 =>
      (bif y4 then
       some (y2.1.Data_.length:Int)
      else
       some x3)
      ) fun (o1:Int) =>
     (bif ((decide (o1>65536))||(decide ((x4.length:Int)>(w64 (65536 - o1))))) then
      some ((y1,0,4))
     else
      (j3_ x0 y2.1 (w64 (o1+(x4.length:Int)))).bind fun y5 =>
      (bif (!y5) then
       some ((y1,0,21))
      else
       (ci_ x5).bind fun y6 =>
       (ns_ y1.Tree_ x2 o1 x4 x1 y6).bind fun y7 =>
       (bif (y7.2.2 != 0) then
        some ((y1,0,y7.2.2))
       else
        some (((api_FileSrv.mk y1.Users_ y1.Quotas_ y7.1 y1.Excl_),y7.2.1,0)))))))))
theorem rH_:g9_=iu_:=by
 funext x0 x1 x2 x3 x4 x5
 simp only [g9_,iu_,ir_] <;> rfl
def e7_ (x0:api_SnapSrv) (x1:Str) (x2:Int) (x3:Int) (x4:Str) (x5:Int):Option (api_SnapSrv × Int × Int) :=
 (c1_ x0 x1 x2).bind fun y1 =>
 (bif (y1.2 != 0) then
  (an_ x0).bind fun y2 =>
  some ((y2,0,y1.2))
 else
  (bB_ y1.1).bind fun y3 =>
  (bif y3 then
   (an_ x0).bind fun y4 =>
   some ((y4,0,10))
  else
   (bif (decide (x3<0)) then
    (an_ x0).bind fun y5 =>
    some ((y5,0,1))
   else
    (bif (y1.1.tree_ != 1) then
     (an_ x0).bind fun y6 =>
     some ((y6,0,33))
    else
     (iu_ x0.Files_ x1 y1.1.node_ x3 x4 x5).bind fun y7 =>
     (bif (y7.2.2 != 0) then
      (an_ x0).bind fun y8 =>
      some ((y8,0,y7.2.2))
     else
      (em_ x0 y7.1).bind fun y9 =>
      some ((y9,y7.2.1,0)))))))
theorem qj_:eK_=e7_:=by
 funext x0 x1 x2 x3 x4 x5
 simp only [eK_,e7_,e6_,dB_,rH_,it_] <;> rfl
def fb_ (x0:api_Store):Option api_Store :=
 (cQ_ x0.Blocks_).bind fun y1 =>
 some ((api_Store.mk x0.Cap_ y1))
theorem t4_:fk_=fb_:=by
 funext x0
 simp only [fk_,fb_,eQ_] <;> rfl
def j6_ (x0:api_Store):Option api_Store :=
 (cQ_ x0.Blocks_).bind fun y1 =>
 some ((api_Store.mk x0.Cap_ y1))
theorem t5_:jx_=j6_:=by
 funext x0
 simp only [jx_,j6_,eQ_] <;> rfl
def jz_ (x0:api_Store) (x1:Int) (x2:Str):Option (api_Store × Str × Int) :=
 (j6_ x0).bind fun y1 =>
 (l9_ x1).bind fun y2 =>
 (bif (!y2) then
  some ((y1,[],1))
 else
  (bif (decide ((x2.length:Int)>1024)) then
   some ((y1,[],4))
  else
   (gm_ x1 x2).bind fun y3 =>
   (fj_ x0 y3.Score_).bind fun y4 =>
   (bif (decide (y4≥0)) then
    (ak_ x0.Blocks_ y4).bind fun y5 =>
    (bif (!(decide (y5=y3))) then
     some ((y1,[],34))
    else
     some ((y1,y3.Score_,0)))
   else
    (bif (decide ((x0.Blocks_.length:Int)≥x0.Cap_)) then
     some ((y1,[],22))
    else
     (room 40 y1.Blocks_ [y3]).bind fun y6 =>
     some (((api_Store.mk y1.Cap_ y6),y3.Score_,0))))))
theorem pK_:jN_=jz_:=by
 funext x0 x1 x2
 simp only [jN_,jz_,t5_] <;> rfl
def hD_ (s4:Int × api_Store × api_Root × (List Str)) (s6:Str × Int × Int × (List api_Block) × api_Root × (List Str)):Option (Step (Str × Int × Int × (List api_Block) × api_Root × (List Str)) (Out (Str × api_Store × api_Root × (List Str)) (api_Store × api_Root × Int))) :=
 (bif (decide (s6.2.1<(s4.2.2.2.length:Int))) then
  (ak_ s6.2.2.2.2.2 s6.2.1).bind fun y13 =>
  (jz_ (api_Store.mk s6.2.2.1 s6.2.2.2.1) s4.1 y13).bind fun y14 =>
  (bif (y14.2.2 != 0) then
   some (.done (.ret (((api_Store.mk s6.2.2.1 s6.2.2.2.1),(api_Root.mk [] 0 0),y14.2.2))))
  else
   (cat s6.1 y14.2.1).bind fun y15 =>
   some (.next (y15,(w64 (s6.2.1+1)),y14.1.Cap_,y14.1.Blocks_,(api_Root.mk y14.2.1 s6.2.2.2.2.1.Length_ s6.2.2.2.2.1.Levels_),s6.2.2.2.2.2)))
 else
  some (.done (.fall (s6.1,(api_Store.mk s6.2.2.1 s6.2.2.2.1),s6.2.2.2.2.1,s6.2.2.2.2.2))))
theorem qk_:i3_=hD_:=by
 funext s4 s6
 simp only [i3_,hD_,pK_] <;> rfl
def hE_ (s4:Int × api_Store × api_Root × (List Str)):Option (Step (Int × api_Store × api_Root × (List Str)) (Out Unit (api_Store × api_Root × Int))) :=
 Option.bind (aj_ (hD_ s4) BIG ([],0,s4.2.1.Cap_,s4.2.1.Blocks_,s4.2.2.1,s4.2.2.2)) fun (wo2:Out (Str × api_Store × api_Root × (List Str)) (api_Store × api_Root × Int))=>match wo2 with
 | .ret r2=>some (.done (.ret r2))
 | .fall o2 =>
  (bif ((o2.2.2.2.length:Int)==1) then
   some (.done (.ret ((o2.2.1,o2.2.2.1,0))))
  else
   (eL_ o2.1 1024).bind fun y16 =>
   some (.next (2,o2.2.1,o2.2.2.1,y16)))
theorem ql_:i4_=hE_:=by
 funext s4
 simp only [i4_,hE_,qk_] <;> rfl
def j7_ (x0:api_Store) (x1:Int) (x2:Str):Option (api_Store × api_Root × Int) :=
 (dR_ (x2.length:Int)).bind fun y1 =>
 (eL_ x2 1024).bind fun y2 =>
 Option.bind (aj_ hE_ BIG (x1,x0,(api_Root.mk [] (x2.length:Int) y1),y2)) fun (wo3:Out Unit (api_Store × api_Root × Int))=>match wo3 with
 | .ret r3=>some r3
 | .fall _ =>
  none
theorem t6_:jy_=j7_:=by
 funext x0 x1 x2
 simp only [jy_,j7_,ql_] <;> rfl
def d2_ (rec0:api_Store→api_Tree→Int→Option (api_Store × archive_entry × Int)) (x0:api_Store) (x1:api_Tree) (x2:Int):Option (api_Store × archive_entry × Int) :=
 (bF_ x1 x2).bind fun y1 =>
 Option.bind (
  Option.bind (cj_ (api_Node.mk y1.1.Id_ y1.1.Parent_ y1.1.Vers_ y1.1.Name_ y1.1.Mode_ y1.1.Uid_ y1.1.Gid_ y1.1.Muid_ y1.1.Atime_ y1.1.Mtime_ [])) fun (y2:Bool) =>
  (bif y2 then
   (ea_ x1 x2).bind fun y3 =>
   Option.bind (aj_ (jO_ y3 rec0 x1) BIG ([],0,x0,y3)) fun (wo1:Out (Str × api_Store) (api_Store × archive_entry × Int))=>match wo1 with
   | .ret r1=>some (.ret r1)
   | .fall o1 =>
    some (.fall (3,o1.1,o1.2))
  else
   some (.fall (1,y1.1.Data_,x0)))
  ) fun (wo2:Out (Int × Str × api_Store) (api_Store × archive_entry × Int))=>match wo2 with
 | .ret r2=>some r2
 | .fall o2 =>
  (j7_ o2.2.2 o2.1 o2.2.1).bind fun y12 =>
  some ((y12.1,(archive_entry.mk (api_Node.mk y1.1.Id_ y1.1.Parent_ y1.1.Vers_ y1.1.Name_ y1.1.Mode_ y1.1.Uid_ y1.1.Gid_ y1.1.Muid_ y1.1.Atime_ y1.1.Mtime_ []) y12.2.1),y12.2.2))
theorem nY_:dz_=d2_:=by
 funext rec0 x0 x1 x2
 simp only [dz_,d2_,t6_] <;> rfl
def eB_:Nat→api_Store→api_Tree→Int→Option (api_Store × archive_entry × Int)
 | 0=>fun _ _ _=>none
 | n+1=>d2_ (eB_ n)
theorem pu_:dl_=eB_:=by
 funext n
 induction n with
 | zero=>rfl
 | succ n ih =>
  show dz_ (dl_ n)=d2_ (eB_ n)
  rw [ih,nY_]
def gI_ (x0:api_Store) (x1:api_Tree):Option (api_Store × Str × Int) :=
 (iq_ x1).bind fun y1 =>
 (bif (!y1) then
  (fb_ x0).bind fun y2 =>
  some ((y2,[],1))
 else
  (eB_ BIG x0 x1 1).bind fun y3 =>
  (bif (y3.2.2 != 0) then
   (fb_ x0).bind fun y4 =>
   some ((y4,[],y3.2.2))
  else
   (fV_ x1.Next_ 4).bind fun y5 =>
   (fV_ (x1.Nodes_.length:Int) 4).bind fun y6 =>
   (cat y5.1 y6.1).bind fun y7 =>
   (go_ y3.2.1).bind fun y8 =>
   (cat y7 y8).bind fun y9 =>
   (jz_ y3.1 4 y9).bind fun y10 =>
   (bif (y10.2.2 != 0) then
    (fb_ x0).bind fun y11 =>
    some ((y11,[],y10.2.2))
   else
    some ((y10.1,y10.2.1,0)))))
theorem pv_:fB_=gI_:=by
 funext x0 x1
 simp only [fB_,gI_,oF_,t4_,pu_,pK_] <;> rfl
def iv_ (x0:api_SnapSrv) (x1:Int):Option (api_SnapSrv × Int) :=
 (bif (decide ((x0.Snaps_.length:Int)≥64)) then
  (an_ x0).bind fun y1 =>
  some ((y1,22))
 else
  Option.bind (bif ((decide (x1<0))||(decide (x1>1099511627776))) then some true else 
   Option.bind (bif (decide ((x0.Snaps_.length:Int)>0)) then 
    (ak_ x0.Snaps_ (w64 ((x0.Snaps_.length:Int) - 1))).bind fun y2 =>
    some (decide (x1≤y2.Time_))
     else some false) fun (y3:Bool) =>
   some y3
   ) fun (y4:Bool) =>
  (bif y4 then
   (an_ x0).bind fun y5 =>
   some ((y5,1))
  else
   (gI_ x0.Store_ x0.Files_.Tree_).bind fun y6 =>
   (bif (y6.2.2 != 0) then
    (an_ x0).bind fun y7 =>
    some ((y7,y6.2.2))
   else
    (an_ x0).bind fun y8 =>
    (room 24 y8.Snaps_ [(api_Snap.mk x1 y6.2.1)]).bind fun y9 =>
    some (((api_SnapSrv.mk y8.Files_ y6.1 y9),0)))))
theorem rI_:ha_=iv_:=by
 funext x0 x1
 simp only [ha_,iv_,dB_,pv_] <;> rfl
def iw_ (x0:api_SnapSrv) (x1:Str) (x2:Int) (x3:Str):Option (Int × Int) :=
 (c1_ x0 x1 x2).bind fun y1 =>
 (bif (y1.2 != 0) then
  some ((0,y1.2))
 else
  (bif (decide (y1.1.tree_>0)) then
   (gs_ y1.1.files_ x1 y1.1.node_ x3).bind fun y2 =>
   (bif (y2.2 != 0) then
    some ((0,y2.2))
   else
    (bif ((x3==[46,46])&&(y1.1.node_==1)) then
     some (((bJ_ y1.1.tree_ 2),0))
    else
     some (((w64 ((w64 (y1.1.tree_*1048576))+y2.1)),0))))
  else
   (bif (x3==[46,46]) then
    some ((1,0))
   else
    (bif ((x2==1)&&(x3==[97,99,116,105,118,101])) then
     (db_ 1).bind fun y3 =>
     some ((y3,0))
    else
     (bif ((x2==1)&&(x3==[97,114,99,104,105,118,101])) then
      some ((2,0))
     else
      (aj_ (b2_ x0 x2 x3) BIG 0).bind fun wo1=>match wo1 with
      | .ret r1=>some r1
      | .fall _ =>
       some ((0,8)))))))
theorem rJ_:dv_=iw_:=by
 funext x0 x1 x2 x3
 simp only [dv_,iw_,e6_,mE_] <;> rfl
def fD_ (x0:api_SnapSrv) (x1:Int) (x2:Int) (x3:Int):Option (Str × Int) :=
 (fC_ x0 x1).bind fun y1 =>
 (bif (!y1.2) then
  some (([],8))
 else
  (bB_ y1.1).bind fun y2 =>
  (bif y2 then
   some (([],10))
  else
   (fW_ y1.1.files_ y1.1.node_ x2 x3).bind fun y3 =>
   some ((y3.1,y3.2))))
theorem rK_:cJ_=fD_:=by
 funext x0 x1 x2 x3
 simp only [cJ_,fD_,lN_] <;> rfl
def ix_ (x0:api_FileSrv) (x1:Str) (x2:api_Node):Option Bool :=
 (bF_ x0.Tree_ x2.Parent_).bind fun y1 =>
 Option.bind (bif (y1.2&&(x2.Id_ != 1)) then 
  (ec_ x0 x1 y1.1 2).bind fun y2 =>
  some y2
   else some false) fun (y3:Bool) =>
 some (y3)
theorem rL_:hb_=ix_:=by
 funext x0 x1 x2
 simp only [hb_,ix_,hn_] <;> rfl
def iy_ (x0:api_FileSrv) (x1:Str) (x2:api_Node) (x3:Int):Option Int :=
 (fT_ x3).bind fun y1 =>
 (bif (y1.2 != 0) then
  some (y1.2)
 else
  (ao_ x2.Mode_ 2147483648).bind fun y2 =>
  (bif (y2&&(x3 != 0)) then
   some (10)
  else
   (ec_ x0 x1 x2 y1.1).bind fun y3 =>
   (bif (!y3) then
    some (11)
   else
    Option.bind (bif ((bP_ .i64 x3 64) != 0) then 
     (ix_ x0 x1 x2).bind fun y4 =>
     some (!y4)
      else some false) fun (y5:Bool) =>
    (bif y5 then
     some (11)
    else
     (ao_ x2.Mode_ 536870912).bind fun y6 =>
     Option.bind (bif y6 then 
      (ew_ x0.Excl_ x2.Id_).bind fun y7 =>
      some y7
       else some false) fun (y8:Bool) =>
     (bif y8 then
      some (24)
     else
      some (0))))))
theorem rM_:hc_=iy_:=by
 funext x0 x1 x2 x3
 simp only [hc_,iy_,hn_,rL_] <;> rfl
def ja_ (x0:api_FileSrv) (x1:Str) (x2:Int) (x3:Int) (x4:Int):Option (api_FileSrv × Int) :=
 (el_ x0).bind fun y1 =>
 (da_ x0 x1 x2).bind fun y2 =>
 (bif (y2.2 != 0) then
  some ((y1,y2.2))
 else
  (iy_ x0 x1 y2.1 x3).bind fun y3 =>
  (bif (y3 != 0) then
   some ((y1,y3))
  else
   Option.bind (
    Option.bind (bif ((bP_ .i64 x3 16) != 0) then 
     (ao_ y2.1.Mode_ 1073741824).bind fun y4 =>
     some (!y4)
      else some false) fun (y5:Bool) =>
    (bif y5 then
     (ci_ x4).bind fun y6 =>
     (mb_ y1.Tree_ x2 0 x1 y6).bind fun y7 =>
     some (y7.1.Next_,y1.Users_,y1.Quotas_,y7.1.Nodes_,y1.Excl_)
    else
     some (y1.Tree_.Next_,y1.Users_,y1.Quotas_,y1.Tree_.Nodes_,y1.Excl_))
    ) fun (o1:Int × (List api_User) × (List api_Quota) × (List api_Node) × (List Int)) =>
   Option.bind (
    (ao_ y2.1.Mode_ 536870912).bind fun y8 =>
    (bif y8 then
     (gt_ (api_FileSrv.mk o1.2.1 o1.2.2.1 (api_Tree.mk o1.1 o1.2.2.2.1) o1.2.2.2.2) x2).bind fun y9 =>
     some (y9.Users_,y9.Quotas_,y9.Tree_.Next_,y9.Tree_.Nodes_,y9.Excl_)
    else
     some (o1.2.1,o1.2.2.1,o1.1,o1.2.2.2.1,o1.2.2.2.2))
    ) fun (o2:(List api_User) × (List api_Quota) × Int × (List api_Node) × (List Int)) =>
   some (((api_FileSrv.mk o2.1 o2.2.1 (api_Tree.mk o2.2.2.1 o2.2.2.2.1) o2.2.2.2.2),0))))
theorem sT_:ie_=ja_:=by
 funext x0 x1 x2 x3 x4
 simp only [ie_,ja_,ir_,rM_,mG_] <;> rfl
def iz_ (x0:api_SnapSrv) (x1:Str) (x2:Int) (x3:Int) (x4:Int):Option (api_SnapSrv × Int) :=
 (c1_ x0 x1 x2).bind fun y1 =>
 (bif (y1.2 != 0) then
  (an_ x0).bind fun y2 =>
  some ((y2,y1.2))
 else
  (bif (y1.1.tree_==1) then
   (ja_ x0.Files_ x1 y1.1.node_ x3 x4).bind fun y3 =>
   (bif (y3.2 != 0) then
    (an_ x0).bind fun y4 =>
    some ((y4,y3.2))
   else
    (em_ x0 y3.1).bind fun y5 =>
    some ((y5,0)))
  else
   (fT_ x3).bind fun y6 =>
   (bif (y6.2 != 0) then
    (an_ x0).bind fun y7 =>
    some ((y7,y6.2))
   else
    (bB_ y1.1).bind fun y8 =>
    (bif (y8&&(x3 != 0)) then
     (an_ x0).bind fun y9 =>
     some ((y9,10))
    else
     (bif (y1.1.tree_==0) then
      (an_ x0).bind fun y10 =>
      some ((y10,0))
     else
      (bif (((bP_ .i64 y6.1 2) != 0)||(decide (x3≥64))) then
       (an_ x0).bind fun y11 =>
       some ((y11,33))
      else
       (bF_ y1.1.files_.Tree_ y1.1.node_).bind fun y12 =>
       (hm_ x0.Files_.Users_ x1 y12.1.Uid_ y12.1.Gid_ y12.1.Mode_ y6.1).bind fun y13 =>
       (bif (!y13) then
        (an_ x0).bind fun y14 =>
        some ((y14,11))
       else
        (an_ x0).bind fun y15 =>
        some ((y15,0)))))))))
theorem rN_:hd_=iz_:=by
 funext x0 x1 x2 x3 x4
 simp only [hd_,iz_,e6_,dB_,sT_,it_,nS_] <;> rfl
def nT_  : Option Bool :=
 Option.bind (j4_ [(api_User.mk [97,100,109] [] [])] [] [97,100,109] 1) fun (y1:api_FileSrv × Int) =>
 (bif (y1.2 != 0) then
  some (false)
 else
  (i8_ y1.1 100).bind fun y2 =>
  (gH_ y2 [97,100,109] 1048577 [102] 420 1 2).bind fun y3 =>
  (bif ((y3.2.2 != 0)||(y3.2.1 != 1048578)) then
   some (false)
  else
   (e7_ y3.1 [97,100,109] y3.2.1 0 [111,108,100] 3).bind fun y4 =>
   (bif (y4.2.2 != 0) then
    some (false)
   else
    (iv_ y4.1 5).bind fun y5 =>
    (bif (y5.2 != 0) then
     some (false)
    else
     (e7_ y5.1 [97,100,109] y3.2.1 0 [110,101,119] 6).bind fun y6 =>
     (iw_ y6.1 [97,100,109] 2 [53]).bind fun y7 =>
     (fD_ y6.1 2097154 0 10).bind fun y8 =>
     (fD_ y6.1 y3.2.1 0 10).bind fun y9 =>
     (iz_ y6.1 [97,100,109] 2097154 1 7).bind fun y10 =>
     some (((((((((y6.2.2==0)&&(y7.1==2097153))&&(y7.2==0))&&(y8.1==[111,108,100]))&&(y8.2==0))&&(y9.1==[110,101,119]))&&(y9.2==0))&&(y10.2==33)))))))
theorem t7_:law17_awake=nT_:=by
 simp only [law17_awake,nT_,t2_,sR_,pt_,qj_,rI_,rJ_,rK_,rN_] <;> rfl
theorem awake_eq:law17_awake=some true:=by
 rw [t7_]
 kernel_rfl
end
end Go.Proofs.YtebokaoegomboaaGreatDoor
namespace Go.Proofs.YtebokaoegomboaaGreatDoor
open Go.Rt Go.RowKit
theorem bw_ {σ β : Type} {body : σ → Option (Step σ β)} {s s' : σ} {n:Nat} {r:Option β} (h:body s=some (.next s')) (hr:aj_ body n s'=r):aj_ body (n+1) s=r:=by
 simp only [aj_,h]; exact hr
theorem aO_ {σ β : Type} {body : σ → Option (Step σ β)} {s : σ} {n:Nat} {b : β} (h:body s=some (.done b)):aj_ body (n+1) s=some b:=by
 simp only [aj_,h]
def aE_ {α β : Type} (g:Nat → α → Option β):Nat→List α → Option β
 | _,[]=>none
 | i,x::l=>match g i x with
  | some r=>some r
  | none=>aE_ g (i+1) l
def cL_ {β : Type}:Option β → Out Unit β
 | some r => .ret r
 | none => .fall ()
theorem bm_ {i n:Nat} (h:i<n):decide ((i:Int)<(n:Int))=true:=by simpa using h
theorem br_ (n:Nat):decide ((n:Int)<(n:Int))=false:=by simp
theorem as_ {i:Nat} (h:i<9223372036854775807):w64 ((i:Int)+1)=((i+1:Nat):Int):=by
 rw [am_ ⟨by omega,by omega⟩]; rfl
theorem w_pred {i:Nat} (h0:0<i) (h:i<9223372036854775807):w64 ((i:Int) - 1)=((i - 1:Nat):Int):=by
 rw [am_ ⟨by omega,by omega⟩]; omega
def stepO {β : Type} (o:Option β) (i:Nat):Step Int (Out Unit β):=match o with
 | some r => .done (.ret r)
 | none => .next ((i+1:Nat):Int)
theorem aY_ {α β : Type} {body:Int→Option (Step Int (Out Unit β))} (xs:List α) (g:Nat → α → Option β) (hn:xs.length<BIG)
  (hb:∀ i (h:i<xs.length),body (i:Int)=some (stepO (g i xs[i]) i))
  (he:body (xs.length:Int)=some (.done (.fall ()))):aj_ body BIG 0=some (cL_ (aE_ g 0 xs)):=by
 refine fX_ (J:=fun i s b=>s=(i:Int)∧b=cL_ (aE_ g i (xs.drop i))) xs.length hn (fun s b hJ => ?_) (fun i s b hi hJ => ?_) (by simp)
 ·obtain ⟨rfl,rfl⟩:=hJ
  rw [he]; simp [aE_,cL_]
 ·obtain ⟨rfl,rfl⟩:=hJ
  rw [hb i hi,List.drop_eq_getElem_cons hi]
  simp only [aE_]
  cases hg:g i xs[i] with
  | some r=>exact .inl rfl
  | none=>exact .inr ⟨_,rfl,rfl,rfl⟩
theorem be_ {β : Type} {L:Option (Out Unit β)} {k:Out Unit β → Option β} {o:Option β} {x : β} (h:L=some (cL_ o)) (h1:∀ r,k (.ret r)=some r) (h2:k (.fall ())=some x):Option.bind L k=some (o.getD x):=by
 subst h
 cases o with
 | some r=>exact h1 r
 | none=>exact h2
theorem jR_ {α β : Type} (p : α → Bool) (f : α → β):∀ (k:Nat) (l:List α),aE_ (fun _ x=>if p x then some (f x) else none) k l=(l.find? p).map f
 | _,[]=>rfl
 | k,x::l=>by
  simp only [aE_,List.find?_cons]
  cases p x with
  | true=>rfl
  | false=>exact jR_ p f (k+1) l
theorem scan_idx {α : Type} (p : α → Bool):∀ (k:Nat) (l:List α),aE_ (fun i x=>if p x then some ((i:Nat):Int) else none) k l=(l.findIdx? p).map fun i=>((k+i:Nat):Int)
 | _,[]=>rfl
 | k,x::l=>by
  simp only [aE_,List.findIdx?_cons]
  cases p x with
  | true=>rfl
  | false =>
   simp only [Bool.false_eq_true,if_false]
   rw [scan_idx p (k+1) l]
   cases l.findIdx? p with
   | none=>rfl
   | some i=>simp only [Option.map_some]; congr 2; omega
theorem scan_none {α β : Type} {g:Nat → α → Option β}:∀ {k:Nat} {l:List α},aE_ g k l=none↔∀ i x,l[i]? = some x→g (k+i) x=none
 | _,[]=>⟨fun _ i x h=>by simp at h,fun _=>rfl⟩
 | k,x::l=>by
  simp only [aE_]
  constructor
  ·intro h
   split at h
   ·cases h
   ·rename_i h0
    intro i y hy
    cases i with
    | zero=>simp at hy; subst hy; exact h0
    | succ i=>have:=(scan_none (k:=k+1)).1 h i y (by simpa using hy); rwa [show k+1+i=k+(i+1) by omega] at this
  ·intro h
   have h0:=h 0 x rfl
   rw [Nat.add_zero] at h0
   rw [h0]
   exact scan_none.2 fun i y hy=>by rw [show k+1+i=k+(i+1) by omega]; exact h (i+1) y (by simpa using hy)
theorem oH_ {α β : Type} {g:Nat → α → Option β} {r : β}:∀ {k:Nat} {l:List α},aE_ g k l=some r→∃ i x,l[i]? = some x∧g (k+i) x=some r∧∀ j y,j<i→l[j]? = some y→g (k+j) y=none
 | _,[],h=>by cases h
 | k,x::l,h=>by
  simp only [aE_] at h
  split at h
  ·rename_i r' h0
   obtain rfl:=Option.some.inj h
   exact ⟨0,x,rfl,h0,fun j y hj=>by omega⟩
  ·rename_i h0
   obtain ⟨i,y,h1,h2,h3⟩:=oH_ h
   refine ⟨i+1,y,by simpa using h1,by rw [show k+(i+1)=k+1+i by omega]; exact h2,fun j q hj hq => ?_⟩
   cases j with
   | zero=>simp at hq; subst hq; exact h0
   | succ j=>rw [show k+(j+1)=k+1+j by omega]; exact h3 j q (by omega) (by simpa using hq)
def d3_ {α σ : Type} (f : σ → Nat → α → σ) : σ → Nat→List α → σ
 | s,_,[]=>s
 | s,i,x::l=>d3_ f (f s i x) (i+1) l
theorem nw_ {α σ τ β : Type} {body : τ → Option (Step τ β)} (xs:List α) (f : σ → Nat → α → σ) (mk:Nat → σ → τ) (Inv:Nat → σ → Prop) (fin : σ → β) (s0 : σ) (hn:xs.length<BIG) (h0:Inv 0 s0)
  (hb:∀ i s (h:i<xs.length),Inv i s→body (mk i s)=some (.next (mk (i+1) (f s i xs[i])))∧Inv (i+1) (f s i xs[i]))
  (he:∀ s,Inv xs.length s→body (mk xs.length s)=some (.done (fin s))):aj_ body BIG (mk 0 s0)=some (fin (d3_ f s0 0 xs)):=by
 refine fX_ (J:=fun i t b=>∃ s,Inv i s∧t=mk i s∧b=fin (d3_ f s i (xs.drop i))) xs.length hn (fun t b hJ => ?_) (fun i t b hi hJ => ?_) ⟨s0,h0,rfl,by simp⟩
 ·obtain ⟨s,hI,rfl,rfl⟩:=hJ
  rw [he s hI]; simp [d3_]
 ·obtain ⟨s,hI,rfl,rfl⟩:=hJ
  obtain ⟨h1,h2⟩:=hb i s hi hI
  rw [List.drop_eq_getElem_cons hi]
  exact .inr ⟨_,h1,_,h2,rfl,rfl⟩
def at_ {α : Type} (p : α → Bool) (l:List α):Int:=match l.findIdx? p with
 | some i=>(i:Int)
 | none => -1
theorem jb_ {α : Type} (p : α → Bool) (l:List α):(aE_ (fun i x=>if p x then some ((i:Nat):Int) else none) 0 l).getD (-1)=at_ p l:=by
 rw [scan_idx]; unfold at_; cases l.findIdx? p <;> simp
theorem jc_ {α : Type} (p : α → Bool) (l:List α):(l.find? p=none∧at_ p l = -1)∨∃ (i:Nat) (x : α),l.find? p=some x∧at_ p l=(i:Int)∧l[i]? = some x∧p x=true∧∀ j y,j<i→l[j]? = some y→p y=false:=by
 unfold at_
 cases h:l.findIdx? p with
 | none =>
  refine .inl ⟨?_,rfl⟩
  rw [List.find?_eq_none]
  intro x hx
  rw [List.findIdx?_eq_none_iff] at h
  simpa using h x hx
 | some i =>
  obtain ⟨hlt,hp,hall⟩:=List.findIdx?_eq_some_iff_getElem.1 h
  refine .inr ⟨i,l[i],?_,rfl,List.getElem?_eq_getElem hlt,hp,fun j y hj hy => ?_⟩
  ·rw [List.find?_eq_some_iff_getElem]
   exact ⟨hp,i,hlt,rfl,fun j hj=>by simpa using hall j hj⟩
  ·have:=hall j hj
   rw [List.getElem?_eq_getElem (by omega)] at hy
   obtain rfl:=Option.some.inj hy
   simpa using this
theorem jS_ {α : Type} (p : α → Bool) (l:List α):decide (at_ p l<0)=(l.find? p).isNone:=by
 rcases jc_ p l with ⟨h1,h2⟩ | ⟨i,x,h1,h2,_⟩
 ·rw [h1,h2]; rfl
 ·rw [h1,h2]; simp
theorem mH_ {α : Type} (p : α → Bool) (l:List α) (h:(l.find? p).isNone=false):ak_ l (at_ p l)=l.find? p:=by
 rcases jc_ p l with ⟨h1,h2⟩ | ⟨i,x,h1,h2,h3,_⟩
 ·rw [h1] at h; cases h
 ·rw [h1,h2,dY_,h3]
theorem nilB_same {α R:Type} {xs:List α} {k:Bool→Option R} {r:Option R} (h0:xs=[]→k true=r) (h1:k false=r):nilB xs k=r:=by
 cases xs with
 | nil=>simp only [nilB,h0 rfl,h1]; exact ed_ r
 | cons x l=>exact h1
theorem clone_any {α : Type} {n:Nat} {xs:List α} (h:xs.length*n≤140737488355328) (h63:xs.length≤9223372036854775807):(nilB xs fun c=>bif c then some [] else Option.bind (room n ([]:List α) xs) fun y=>some y)=some xs:=by
 refine nilB_same (fun e=>by subst e; rfl) ?_
 rw [cond_false,cr_ (by simpa using h63) (by simpa using h)]
 rfl
end Go.Proofs.YtebokaoegomboaaGreatDoor
