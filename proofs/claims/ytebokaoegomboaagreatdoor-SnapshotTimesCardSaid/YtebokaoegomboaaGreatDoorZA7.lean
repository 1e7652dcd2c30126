/-
 What the statements of this seat hang on,part 7: Ht Ua Ho Ha Hb Hc Hd He Hf Hg Hh Hu Hv.
-/
import Derived.Test.YtebokaoegomboaaGreatDoorZA6
namespace Go.Proofs.YtebokaoegomboaaGreatDoor
open Go.Rt Go.RowKit
theorem bT_ {α : Type} {l:List α} (h:l.length≤9223372036854775807):l.length<BIG:=by
 have:BIG=18446744073709551616:=rfl
 omega
section
variable {α β : Type} {eq : α → α → Bool}
theorem nx_:∀ {ks:List α} {vs:List β} {x : α} {v : β},ks.length=vs.length→(aK_ eq ks x).length=(aZ_ eq ks vs x v).length
 | [],vs,x,v,h=>by cases vs with | nil=>rfl | cons a l=>simp at h
 | k::ks,[],x,v,h=>by simp at h
 | k::ks,w::vs,x,v,h=>by
  have ih:=nx_ (ks:=ks) (vs:=vs) (x:=x) (v:=v) (by simpa using h)
  unfold aK_ at ih ⊢
  simp only [List.any_cons,aZ_]
  cases hx:eq x k with
  | true=>simpa using h
  | false =>
   simp only [Bool.false_or,cond_false,List.length_cons]
   cases ha:ks.any (eq x) with
   | true=>rw [ha] at ih; simp only [cond_true] at ih ⊢; simpa using ih
   | false=>rw [ha] at ih; simp only [cond_false] at ih ⊢; simpa using ih
theorem mputK_cons {k x : α} {ks:List α} (h:eq x k=false):aK_ eq (k::ks) x=k::aK_ eq ks x:=by
 unfold aK_
 rw [List.any_cons,h,Bool.false_or]
 cases ks.any (eq x) <;> rfl
theorem ny_ (hq:∀ x y,eq x y=true↔x=y):∀ {ks:List α} {vs:List β} {x y : α} {v d : β},ks.length=vs.length→aB_ eq (aK_ eq ks x) (aZ_ eq ks vs x v) y d=bif eq y x then v else aB_ eq ks vs y d
 | [],vs,x,y,v,d,h=>by
  cases vs with
  | nil=>rfl
  | cons a l=>simp at h
 | k::ks,[],x,y,v,d,h=>by simp at h
 | k :: ks,w::vs,x,y,v,d,h=>by
  have ih:=ny_ hq (ks:=ks) (vs:=vs) (x:=x) (y:=y) (v:=v) (d:=d) (by simpa using h)
  cases hx:eq x k with
  | true =>
   obtain rfl:=(hq x k).1 hx
   have e:aK_ eq (x::ks) x=x::ks:=by unfold aK_; rw [List.any_cons,hx]; rfl
   rw [e]
   simp only [aZ_,hx,cond_true,aB_]
   cases eq y x <;> rfl
  | false =>
   rw [mputK_cons hx]
   simp only [aZ_,hx,cond_false,aB_]
   cases hy:eq y k with
   | true =>
    obtain rfl:=(hq y k).1 hy
    have:eq y x=false:=by
     cases he:eq y x with
     | false=>rfl
     | true=>rw [(hq y x).1 he,(hq x x).2 rfl] at hx; cases hx
    rw [this]; rfl
   | false=>exact ih
end
theorem eqI_iff (x y:Int):eqI x y=true↔x=y:=beq_iff_eq
theorem hF_ {α : Type} {ms:List α} {k:Nat} (d : α) (h0:0<k) (hk:k<ms.length) (hl:ms.length≤1024):ak_ ms (w64 ((k:Int) - 1))=some (ms.getD (k - 1) d):=by
 rw [w_pred h0 (by omega),ap_ (by omega)]
 simp [List.getElem?_eq_getElem (by omega:k - 1<ms.length)]
theorem ho_ {α : Type} {l:List α} {i:Nat} (h:i<l.length):l.take (i+1)=l.take i++[l[i]]:=List.take_succ_eq_append_getElem h
def aD_ (x:Int) (k:Nat):Bool:=decide (0≤x)&&x.toNat.testBit k
theorem tbit {n k:Nat}:(n / 2 ^ k % 2==1)=n.testBit k:=by
 rw [Nat.testBit_eq_decide_div_mod_eq,Bool.eq_iff_iff]; simp
theorem nz_ (n k:Nat):aD_ (n:Int) k=n.testBit k:=by
 unfold aD_; rw [Int.toNat_natCast]; simp
theorem qm_ {x:Int} (h:x<0) (k:Nat):aD_ x k=false:=by
 unfold aD_
 have:decide (0≤x)=false:=by simp; omega
 rw [this]; rfl
theorem mI_ (x:Int) (k:Nat) (_:k<63) (h1:x≤9223372036854775807):(Option.bind (bif (decide (x≥0)) then Option.bind (d4_ .i64 x ((2 ^ k:Nat):Int)) fun (y1:Int)=>some ((y1.tmod 2)==1) else some false) fun (y2:Bool)=>some y2)=some (aD_ x k):=by
 by_cases h0:0≤x
 ·obtain ⟨n,rfl⟩:∃ n:Nat,x=(n:Int):=⟨x.toNat,by omega⟩
  have hpos:=Nat.two_pow_pos k
  have hd:n / 2 ^ k≤n:=Nat.div_le_self _ _
  have hq:d4_ .i64 (n:Int) ((2 ^ k:Nat):Int)=some ((n / 2 ^ k:Nat):Int):=by
   unfold d4_
   rw [if_neg (by omega)]
   have:(n:Int).tdiv ((2 ^ k:Nat):Int)=((n / 2 ^ k:Nat):Int):=rfl
   rw [this]
   generalize n / 2 ^ k=q at hd
   rw [c0_ (n:=(q:Int)) ⟨by omega,by omega⟩]
  have h0':decide ((n:Int)≥0)=true:=by simp
  rw [h0',hq,nz_,← tbit]
  simp only [cond_true,Option.bind_some]
  have:((n / 2 ^ k:Nat):Int).tmod 2=((n / 2 ^ k % 2:Nat):Int):=rfl
  rw [this]
  congr 1
  rw [Bool.eq_iff_iff,beq_iff_eq,beq_iff_eq]; omega
 ·have h0':decide (x≥0)=false:=by simp; omega
  rw [h0',qm_ (by omega)]
  rfl
theorem has_lit (x:Int) (k:Nat) (hk:k<63) (h1:x≤9223372036854775807):(decide (x≥0)&&(((IntKind.i64.wrap (x.tdiv ((2 ^ k:Nat):Int))).tmod 2)==1))=aD_ x k:=by
 have h:=mI_ x k hk h1
 by_cases h0:0≤x
 ·have h0':decide (x≥0)=true:=by simp; omega
  rw [h0'] at h ⊢
  have hpos:=Nat.two_pow_pos k
  have hq:d4_ .i64 x ((2 ^ k:Nat):Int)=some (IntKind.i64.wrap (x.tdiv ((2 ^ k:Nat):Int))):=by
   unfold d4_; rw [if_neg (by omega)]
  rw [hq] at h
  exact Option.some.inj h
 ·have h0':decide (x≥0)=false:=by simp; omega
  rw [h0',qm_ (by omega)]
  rfl
theorem fm_ (x:Int) (h1:x≤9223372036854775807):bA_ x=some (aD_ x 31):=congrArg some (has_lit x 31 (by omega) h1)
def topI (x:Int):Int:=x - x % 512
def dC_ (x:Int):Bool:=decide (0≤x)&&((topI x==0)||(topI x==2147483648)||(topI x==1073741824)||(topI x==536870912)||(topI x==1610612736))
theorem oI_ {x:Int} (h:dC_ x=true):0≤x∧x<4294967296:=by
 unfold dC_ topI at h
 simp only [Bool.and_eq_true,Bool.or_eq_true,decide_eq_true_eq,beq_iff_eq] at h
 omega
theorem top_w {x:Int} (h0:0≤x) (h1:x≤9223372036854775807):w64 (x - (x.tmod 512))=topI x:=by
 obtain ⟨n,rfl⟩:∃ n:Nat,x=(n:Int):=⟨x.toNat,by omega⟩
 have:(n:Int).tmod 512=(n:Int) % 512:=rfl
 rw [this,am_ ⟨by omega,by omega⟩]
 rfl
theorem t8_ (x:Int) (h1:x≤9223372036854775807):ic_ x=some (dC_ x):=by
 unfold ic_ dC_
 by_cases h0:0≤x
 ·have h0':decide (x<0)=false:=by simp; omega
  have h0'':decide (0≤x)=true:=by simpa using h0
  rw [top_w h0 h1,h0',h0'']
  cases topI x==0 <;> cases topI x==2147483648 <;> cases topI x==1073741824 <;> cases topI x==536870912 <;> cases topI x==1610612736 <;> rfl
 ·have h0':decide (x<0)=true:=by simp; omega
  have h0'':decide (0≤x)=false:=by simp; omega
  rw [h0',h0'']
  rfl
theorem t9_ (x:Int) (h1:x≤9223372036854775807):kv_ x=some (dC_ x):=by
 unfold kv_
 by_cases h0:0≤x∧x<4294967296
 ·refine ac_ (by simp; omega) ?_
  rw [top_w h0.1 h1]
  unfold dC_
  have h0'':decide (0≤x)=true:=by simpa using h0.1
  rw [h0'']; rfl
 ·have:dC_ x=false:=by
   cases h:dC_ x with
   | false=>rfl
   | true=>exact absurd (oI_ h) h0
  rw [this]
  exact ag_ (by simp; omega) rfl
theorem hG_ {x:Int} (h:dC_ x=true):decide (x≥2147483648)=aD_ x 31:=by
 obtain ⟨h0,h1⟩:=oI_ h
 obtain ⟨n,rfl⟩:∃ n:Nat,x=(n:Int):=⟨x.toNat,by omega⟩
 rw [nz_,← tbit,Bool.eq_iff_iff,decide_eq_true_eq,beq_iff_eq]
 omega
def jT_ (b:UInt8):Bool:=decide (33≤b.toNat)&&decide (b.toNat≤126)&&(b.toNat != 47)
def eS_ (s:Str):Bool:=decide (1≤s.length)&&decide (s.length≤64)&&(s != [46])&&(s != [46,46])&&s.all jT_
def gN (_:Nat) (b:UInt8):Option Bool:=if jT_ b then none else some false
theorem scan_gN:∀ (k:Nat) (s:Str),aE_ gN k s=if s.all jT_ then none else some false
 | _,[]=>rfl
 | k,b::s=>by
  have ih:=scan_gN (k+1) s
  rw [List.all_cons]
  cases hb:jT_ b with
  | true =>
   have h0:gN k b=none:=by unfold gN; rw [hb]; rfl
   simp only [aE_,h0]
   rw [ih,Bool.true_and]
  | false =>
   have h0:gN k b=some false:=by unfold gN; rw [hb]; rfl
   simp only [aE_,h0]
   rfl
theorem path_loop (s:Str) (h:s.length≤9223372036854775807):aj_ (g7_ s) BIG 0=some (cL_ (aE_ gN 0 s)):=by
 refine aY_ s gN (bT_ h) (fun i hi => ?_) ?_
 ·unfold g7_
  rw [i6_ hi,bm_ hi,as_ (by omega)]
  have e:jT_ s[i] = !(decide ((s[i].toNat:Int)<33)||decide ((s[i].toNat:Int)>126)||(s[i].toNat:Int)==47):=by
   unfold jT_
   rw [Bool.eq_iff_iff]
   simp only [Bool.and_eq_true,decide_eq_true_eq,bne_iff_ne,Bool.not_eq_true',Bool.or_eq_false_iff,decide_eq_false_iff_not,beq_eq_false_iff_ne]
   omega
  unfold gN
  rw [e]
  simp only [cond_true,Option.bind_some]
  cases decide ((s[i].toNat:Int)<33) <;> cases decide ((s[i].toNat:Int)>126) <;> cases ((s[i].toNat:Int)==47) <;> rfl
 ·unfold g7_; rw [br_]; rfl
theorem ref03_loop (s:Str) (h:s.length≤9223372036854775807):aj_ (my_ s) BIG 0=some (cL_ (aE_ gN 0 s)):=by
 rw [← path_loop s h]
 rfl
theorem path_valid (s:Str) (h:s.length≤9223372036854775807):dJ_ s=some (eS_ s):=by
 unfold dJ_ eS_
 rw [path_loop s h,scan_gN]
 have e1:(s==[]) = !decide (1≤s.length):=by cases s with | nil=>rfl | cons a l=>rw [Bool.eq_iff_iff]; simp
 have e2:decide ((s.length:Int)>64) = !decide (s.length≤64):=by rw [Bool.eq_iff_iff]; simp; omega
 rw [e1,e2]
 simp only [bne,Option.bind_some]
 cases decide (1≤s.length) <;> cases decide (s.length≤64) <;> cases (s==[46]) <;> cases (s==[46,46]) <;> cases s.all jT_ <;> rfl
theorem ref03_valid (s:Str) (h:s.length≤9223372036854775807):jp_ s=some (eS_ s):=by
 unfold jp_ eS_
 rw [ref03_loop s h,scan_gN]
 have e1:decide ((s.length:Int)≥1)=decide (1≤s.length):=by rw [Bool.eq_iff_iff,decide_eq_true_eq,decide_eq_true_eq]; omega
 have e2:decide ((s.length:Int)≤64)=decide (s.length≤64):=by rw [Bool.eq_iff_iff,decide_eq_true_eq,decide_eq_true_eq]; omega
 rw [e1,e2]
 simp only [bne,Option.bind_some]
 cases decide (1≤s.length) <;> cases decide (s.length≤64) <;> cases (s==[46]) <;> cases (s==[46,46]) <;> cases s.all jT_ <;> rfl
theorem nA_ {α β : Type} {body:Int→Option (Step Int (Out Unit β))} (xs:List α) (g:Nat → α → Option β) (k:Nat) (hk:k≤xs.length) (hn:xs.length<BIG)
  (hb:∀ i (h:i<xs.length),k≤i→body (i:Int)=some (stepO (g i xs[i]) i))
  (he:body (xs.length:Int)=some (.done (.fall ()))):aj_ body BIG (k:Int)=some (cL_ (aE_ g k (xs.drop k))):=by
 have key:∀ (n i:Nat),i+n=xs.length→k≤i→aj_ body (n+1) (i:Int)=some (cL_ (aE_ g i (xs.drop i))):=by
  intro n
  induction n with
  | zero =>
   intro i hi _
   obtain rfl:i=xs.length:=by omega
   rw [aO_ he]; simp [aE_,cL_]
  | succ n ih =>
   intro i hi hki
   have hlt:i<xs.length:=by omega
   have h1:=hb i hlt hki
   rw [List.drop_eq_getElem_cons hlt]
   simp only [aE_]
   cases hg:g i xs[i] with
   | some r=>rw [hg] at h1; exact aO_ h1
   | none=>rw [hg] at h1; exact bw_ h1 (ih (i+1) (by omega) (by omega))
 have big:∀ {σ β : Type} {body : σ → Option (Step σ β)} {n k:Nat} {s : σ} {b : β},aj_ body n s=some b→aj_ body (k+n) s=some b:=by
  intro σ β body n
  induction n with
  | zero=>intro k s b h; cases h
  | succ n ih =>
   intro k s b h
   rw [show k+(n+1)=(k+n)+1 by omega]
   simp only [aj_] at h ⊢
   split at h
   ·exact h
   ·exact ih h
   ·exact h
 have h:=key (xs.length - k) k (by omega) (Nat.le_refl _)
 rw [show BIG=(BIG - (xs.length - k+1))+(xs.length - k+1) by omega]
 exact big h
theorem loop_foldN1 {α σ τ β : Type} {body : τ → Option (Step τ β)} (xs:List α) (f : σ → Nat → α → σ) (mk:Nat → σ → τ) (Inv:Nat → σ → Prop) (fin : σ → β) (s0 : σ) (k:Nat) (hk:k≤xs.length) (hn:xs.length<BIG) (h0:Inv k s0)
  (hb:∀ i s (h:i<xs.length),k≤i→Inv i s→body (mk i s)=some (.next (mk (i+1) (f s i xs[i])))∧Inv (i+1) (f s i xs[i]))
  (he:∀ s,Inv xs.length s→body (mk xs.length s)=some (.done (fin s))):aj_ body BIG (mk k s0)=some (fin (d3_ f s0 k (xs.drop k))):=by
 have key:∀ (n i:Nat) (s : σ),i+n=xs.length→k≤i→Inv i s→aj_ body (n+1) (mk i s)=some (fin (d3_ f s i (xs.drop i))):=by
  intro n
  induction n with
  | zero =>
   intro i s hi _ hI
   obtain rfl:i=xs.length:=by omega
   rw [aO_ (he s hI)]; simp [d3_]
  | succ n ih =>
   intro i s hi hki hI
   have hlt:i<xs.length:=by omega
   obtain ⟨h1,h2⟩:=hb i s hlt hki hI
   rw [List.drop_eq_getElem_cons hlt]
   exact bw_ h1 (ih (i+1) _ (by omega) (by omega) h2)
 have big:∀ {σ β : Type} {body : σ → Option (Step σ β)} {n k:Nat} {s : σ} {b : β},aj_ body n s=some b→aj_ body (k+n) s=some b:=by
  intro σ β body n
  induction n with
  | zero=>intro k s b h; cases h
  | succ n ih =>
   intro k s b h
   rw [show k+(n+1)=(k+n)+1 by omega]
   simp only [aj_] at h ⊢
   split at h
   ·exact h
   ·exact ih h
   ·exact h
 have h:=key (xs.length - k) k s0 (by omega) (Nat.le_refl _) h0
 rw [show BIG=(BIG - (xs.length - k+1))+(xs.length - k+1) by omega]
 exact big h
abbrev en_ (id:Int) (n:api_Node):Bool:=n.Id_==id
def zeroN:api_Node:=api_Node.mk 0 0 0 [] 0 [] [] [] 0 0 []
def ax_ (l:List api_Node) (id:Int):api_Node × Bool:=match l.find? (en_ id) with
 | some n=>(n,true)
 | none=>(zeroN,false)
theorem oJ_ (t:api_Tree) (f:api_Node→Option Bool) (p:api_Node→Bool) (hf:∀ n,f n=some (p n)) (h:t.Nodes_.length≤2000):lH_ t f=some (at_ p t.Nodes_):=by
 rw [← jb_]
 refine be_ (aY_ t.Nodes_ _ (bT_ (by omega)) (fun i hi => ?_) ?_) (fun _=>rfl) rfl
 ·unfold la_
  rw [ap_ hi,bm_ hi,as_ (by omega)]
  simp only [cond_true,Option.bind_some]
  refine aa_ (hf _) ?_
  cases p t.Nodes_[i] <;> rfl
 ·unfold la_; rw [br_]; rfl
theorem nU_ (t:api_Tree) (id:Int) (h:t.Nodes_.length≤2000):gl_ t id=some (at_ (en_ id) t.Nodes_):=by
 unfold gl_
 exact aa_ (oJ_ t _ (en_ id) (fun n=>rfl) h) rfl
theorem cF_ (t:api_Tree) (id:Int) (h:t.Nodes_.length≤2000):bF_ t id=some (ax_ t.Nodes_ id):=by
 unfold bF_ ax_
 refine aa_ (nU_ t id h) ?_
 rw [jS_]
 cases hf:t.Nodes_.find? (en_ id) with
 | none=>rfl
 | some n=>exact ac_ rfl (aa_ ((mH_ (en_ id) _ (by rw [hf]; rfl)).trans hf) rfl)
theorem sV_ (t:api_Tree) (id:Int) (h:t.Nodes_.length≤2000):l4_ t id=some (at_ (en_ id) t.Nodes_):=by
 rw [← jb_]
 refine be_ (aY_ t.Nodes_ _ (bT_ (by omega)) (fun i hi => ?_) ?_) (fun _=>rfl) rfl
 ·unfold iZ_
  rw [ap_ hi,bm_ hi,as_ (by omega)]
  simp only [cond_true,Option.bind_some]
  unfold en_
  cases t.Nodes_[i].Id_==id <;> rfl
 ·unfold iZ_; rw [br_]; rfl
theorem cl_ (t:api_Tree) (id:Int) (h:t.Nodes_.length≤2000):cg_ t id=some (ax_ t.Nodes_ id):=by
 unfold cg_ ax_
 refine aa_ (sV_ t id h) ?_
 rw [jS_]
 cases hf:t.Nodes_.find? (en_ id) with
 | none=>rfl
 | some n=>exact ac_ rfl (aa_ ((mH_ (en_ id) _ (by rw [hf]; rfl)).trans hf) rfl)
def clockI (x:Int):Int:=bJ_ (cK_ x 0) 1099511627776
def b4_ (n:api_Node):Bool:=dC_ n.Mode_&&(decide (0≤n.Vers_)&&decide (n.Vers_≤2147483647))&&(decide (0≤n.Atime_)&&decide (n.Atime_≤1099511627776))&&(decide (0≤n.Mtime_)&&decide (n.Mtime_≤1099511627776)) &&
 (decide (n.Uid_.length≤64)&&(decide (n.Gid_.length≤64)&&decide (n.Muid_.length≤64)))&&decide (n.Data_.length≤65536)&&(!(aD_ n.Mode_ 31)||n.Data_==[])
structure OkT (l:List api_Node) (next:Int):Prop where
 srt:l.Pairwise fun a b=>a.Id_<b.Id_
 root:∃ r q,l=r::q∧r.Id_=1∧r.Parent_=1∧r.Name_=[47]∧aD_ r.Mode_ 31=true
 flds:∀ n∈l,b4_ n=true
 nam:∀ n∈l,n.Id_≠1→eS_ n.Name_=true
 par:∀ n∈l,n.Id_≠1→∃ p∈l,p.Id_=n.Parent_∧p.Id_<n.Id_∧aD_ p.Mode_ 31=true
 uniq:∀ a∈l,∀ b∈l,a.Id_≠1→b.Id_≠1→a.Parent_=b.Parent_→a.Name_=b.Name_→a.Id_=b.Id_
 nxt:∀ n∈l,n.Id_<next
 nx2:next≤1048576
 len:l.length≤1024
theorem fn_ {n:api_Node} (h:b4_ n=true):dC_ n.Mode_=true:=by
 unfold b4_ at h
 simp only [Bool.and_eq_true] at h
 exact h.1.1.1.1.1.1
theorem OkT.mode {l:List api_Node} {next:Int} (h:OkT l next) {n:api_Node} (hn:n∈l):0≤n.Mode_∧n.Mode_<4294967296:=oI_ (fn_ (h.flds n hn))
theorem OkT.ge {l:List api_Node} {next:Int} (h:OkT l next) {n:api_Node} (hn:n∈l):1≤n.Id_:=by
 obtain ⟨r,q,rfl,h1,_⟩:=h.root
 rcases List.mem_cons.1 hn with rfl | hn
 ·omega
 ·have:=(List.pairwise_cons.1 h.srt).1 n hn
  omega
theorem id_inj {l:List api_Node} (hs:l.Pairwise fun a b=>a.Id_<b.Id_) {a b:api_Node} (ha:a∈l) (hb:b∈l) (h:a.Id_=b.Id_):a=b:=by
 induction l with
 | nil=>cases ha
 | cons x l ih =>
  obtain ⟨h1,h2⟩:=List.pairwise_cons.1 hs
  rcases List.mem_cons.1 ha with ea | ha'
  ·rcases List.mem_cons.1 hb with eb | hb'
   ·rw [ea,eb]
   ·have:=h1 b hb'; rw [ea] at h; omega
  ·rcases List.mem_cons.1 hb with eb | hb'
   ·have:=h1 a ha'; rw [eb] at h; omega
   ·exact ih h2 ha' hb'
theorem c8_ {l:List api_Node} {id:Int} (h:(ax_ l id).2=true):(ax_ l id).1∈l∧(ax_ l id).1.Id_=id:=by
 unfold ax_ at h ⊢
 cases hf:l.find? (en_ id) with
 | none=>rw [hf] at h; cases h
 | some n=>exact ⟨List.mem_of_find?_eq_some hf,by simpa [en_] using List.find?_some hf⟩
theorem rQ_ {l:List api_Node} {id:Int} (h:(ax_ l id).2=false):(∀ n∈l,n.Id_≠id)∧(ax_ l id).1=zeroN:=by
 unfold ax_ at h ⊢
 cases hf:l.find? (en_ id) with
 | none =>
  rw [List.find?_eq_none] at hf
  exact ⟨fun n hn e=>hf n hn (by simpa [en_] using e),rfl⟩
 | some n=>rw [hf] at h; cases h
theorem qn_ {l:List api_Node} (hs:l.Pairwise fun a b=>a.Id_<b.Id_) {n:api_Node} (hn:n∈l):ax_ l n.Id_=(n,true):=by
 cases hb:(ax_ l n.Id_).2 with
 | false=>exact absurd rfl ((rQ_ hb).1 n hn)
 | true =>
  obtain ⟨h1,h2⟩:=c8_ hb
  exact Prod.ext (id_inj hs h1 hn h2) hb
theorem OkT.hm {l:List api_Node} {next:Int} (h:OkT l next) {n:api_Node} (hn:n∈l):n.Mode_≤9223372036854775807:=by have:=h.mode hn; omega
def isD (l:List api_Node) (id:Int):Bool:=(ax_ l id).2&&aD_ (ax_ l id).1.Mode_ 31
def mJ_ (l:List api_Node) (id:Int):Int:=bif !(ax_ l id).2 then 8 else bif !(aD_ (ax_ l id).1.Mode_ 31) then 9 else 0
theorem jd_ {l:List api_Node} {next:Int} (h:OkT l next) (id:Int):(ax_ l id).1.Mode_≤9223372036854775807:=by
 cases hb:(ax_ l id).2 with
 | true=>exact h.hm (c8_ hb).1
 | false=>rw [(rQ_ hb).2]; decide
theorem within_eq (t:api_Tree) (id:Int) (h:OkT t.Nodes_ t.Next_):fi_ t id=some (mJ_ t.Nodes_ id):=by
 unfold fi_ mJ_
 have hl:=h.len
 refine aa_ (cF_ t id (by omega)) ?_
 cases (ax_ t.Nodes_ id).2 with
 | false=>rfl
 | true =>
  refine ac_ rfl (aa_ (fm_ _ (jd_ h id)) ?_)
  cases aD_ (ax_ t.Nodes_ id).1.Mode_ 31 <;> rfl
def b5_ (l:List api_Node) (dir:Int):List Int:=(l.filter fun n=>n.Parent_==dir&&n.Id_ != 1).map (·.Id_)
theorem mg_ {α β : Type} (p : α → Bool) (f : α → β):∀ (q:List α) (i:Nat) (acc:List β),d3_ (fun (s:List β) _ x=>bif p x then s++[f x] else s) acc i q=acc++(q.filter p).map f
 | [],i,acc=>by simp [d3_]
 | x::q,i,acc=>by
  simp only [d3_]
  rw [mg_ p f q,List.filter_cons]
  cases p x <;> simp
theorem fold_len {β : Type} (c:Bool) (s:List β) (x : β) (i:Nat) (h:s.length≤i):(bif c then s++[x] else s).length≤i+1:=by
 cases c
 ·simp; omega
 ·simp; omega
theorem oL_ (t:api_Tree) (dir:Int) (h:t.Nodes_.length≤2000):aj_ (e2_ t dir) BIG (0,[])=some (b5_ t.Nodes_ dir):=by
 have hk:=mg_ (fun n:api_Node=>n.Parent_==dir&&n.Id_ != 1) (·.Id_) t.Nodes_ 0 []
 rw [List.nil_append] at hk
 unfold b5_
 rw [← hk]
 refine nw_ (τ := Int × List Int) t.Nodes_ _ (fun i s=>((i:Int),s)) (fun i s=>s.length≤i) (fun s=>s) [] (bT_ (by omega)) (Nat.le_refl _) (fun i s hi hI=>⟨?_,fold_len _ _ _ _ hI⟩) (fun s hI => ?_)
 ·unfold e2_
  simp only
  rw [bm_ hi,ap_ hi,as_ (by omega)]
  refine ag_ rfl ?_
  simp only [Option.bind_some]
  cases t.Nodes_[i].Parent_==dir&&t.Nodes_[i].Id_ != 1 with
  | true=>exact aa_ (a:=s++[t.Nodes_[i].Id_]) (aa_ (cr_ (by simp; omega) (by simp; omega)) rfl) rfl
  | false=>rfl
 ·unfold e2_
  simp only
  rw [br_]; rfl
theorem isD_par {l:List api_Node} {next:Int} (h:OkT l next) {dir:Int} {n:api_Node} (hn:n∈l) (hp:n.Parent_=dir) (h1:n.Id_≠1):isD l dir=true:=by
 obtain ⟨p,hp1,hp2,_,hp3⟩:=h.par n hn h1
 have:=qn_ h.srt hp1
 unfold isD
 rw [← hp,← hp2,this]
 exact hp3
theorem childT_nil {l:List api_Node} {next:Int} (h:OkT l next) {dir:Int} (hd:isD l dir=false):b5_ l dir=[]:=by
 unfold b5_
 rw [List.map_eq_nil_iff,List.filter_eq_nil_iff]
 intro n hn hc
 simp only [Bool.and_eq_true,beq_iff_eq,bne_iff_ne] at hc
 rw [isD_par h hn hc.1 hc.2] at hd
 cases hd
theorem within_zero (l:List api_Node) (dir:Int):(mJ_ l dir != 0) = !(isD l dir):=by
 unfold mJ_ isD
 cases (ax_ l dir).2 <;> cases aD_ (ax_ l dir).1.Mode_ 31 <;> rfl
theorem qo_ (t:api_Tree) (dir:Int) (h:OkT t.Nodes_ t.Next_):ea_ t dir=some (b5_ t.Nodes_ dir):=by
 have hl:=h.len
 unfold ea_
 refine aa_ (within_eq t dir h) ?_
 rw [within_zero]
 cases hd:isD t.Nodes_ dir with
 | false=>rw [childT_nil h hd]; rfl
 | true=>exact ac_ rfl (aa_ (oL_ t dir (by omega)) rfl)
theorem pw_ (t:api_Tree) (dir:Int) (h:OkT t.Nodes_ t.Next_):gr_ t dir=some (b5_ t.Nodes_ dir):=by
 have hl:=h.len
 obtain ⟨r,q,hrq,hr1,_⟩:=h.root
 unfold gr_
 refine aa_ (a:=b5_ t.Nodes_ dir) ?_ rfl
 have hk:=mg_ (fun n:api_Node=>n.Parent_==dir) (·.Id_) (t.Nodes_.drop 1) 1 []
 rw [List.nil_append] at hk
 have hc:b5_ t.Nodes_ dir=((t.Nodes_.drop 1).filter fun n=>n.Parent_==dir).map (·.Id_):=by
  unfold b5_
  have hsrt:=h.srt
  rw [hrq] at hsrt ⊢
  obtain ⟨hs1,_⟩:=List.pairwise_cons.1 hsrt
  rw [List.filter_cons]
  have:(r.Parent_==dir&&r.Id_ != 1)=false:=by simp [hr1]
  rw [this]
  simp only [Bool.false_eq_true,if_false,List.drop_succ_cons,List.drop_zero]
  congr 1
  apply List.filter_congr
  intro n hn
  have:=hs1 n hn
  have hne:(n.Id_ != 1)=true:=by rw [bne_iff_ne]; omega
  rw [hne,Bool.and_true]
 rw [hc,← hk]
 refine loop_foldN1 (τ := Int × List Int) t.Nodes_ _ (fun i s=>((i:Int),s)) (fun i s=>s.length≤i) (fun s=>s) [] 1 (by rw [hrq]; simp) (bT_ (by omega)) (by simp) (fun i s hi _ hI=>⟨?_,fold_len _ _ _ _ hI⟩) (fun s hI => ?_)
 ·unfold gE_
  simp only
  rw [bm_ hi,ap_ hi,as_ (by omega)]
  refine ag_ rfl ?_
  simp only [Option.bind_some]
  cases t.Nodes_[i].Parent_==dir with
  | true=>exact aa_ (a:=s++[t.Nodes_[i].Id_]) (aa_ (cr_ (by simp; omega) (by simp; omega)) rfl) rfl
  | false=>rfl
 ·unfold gE_
  simp only
  rw [br_]; rfl
theorem clock_ne (x:Int):(x != clockI x)=(decide (x<0)||decide (x>1099511627776)):=by
 unfold clockI bJ_ cK_
 rw [Bool.eq_iff_iff]
 simp only [bne_iff_ne,ne_eq,Bool.or_eq_true,decide_eq_true_eq]
 split <;> split <;> omega
theorem max3 (a b c:Nat) (k:Nat):decide (cK_ (cK_ (a:Int) (b:Int)) (c:Int)>(k:Int)) = !(decide (a≤k)&&(decide (b≤k)&&decide (c≤k))):=by
 unfold cK_
 rw [Bool.eq_iff_iff]
 simp only [decide_eq_true_eq,Bool.not_eq_true',Bool.and_eq_false_iff,decide_eq_false_iff_not]
 split <;> split <;> omega
theorem clock_le (x:Int):(x != clockI x) = !(decide (0≤x)&&decide (x≤1099511627776)):=by
 rw [clock_ne,Bool.eq_iff_iff]
 simp only [Bool.or_eq_true,decide_eq_true_eq,Bool.not_eq_true',Bool.and_eq_false_iff,decide_eq_false_iff_not]
 omega
theorem ua_ (n:api_Node) (hm:n.Mode_≤9223372036854775807):id_ n=some (b4_ n):=by
 unfold id_ b4_
 refine aa_ (t8_ _ hm) ?_
 have e1:decide (n.Vers_<0) = !(decide (0≤n.Vers_)):=by rw [Bool.eq_iff_iff]; simp
 have e2:decide (n.Vers_>2147483647) = !(decide (n.Vers_≤2147483647)):=by rw [Bool.eq_iff_iff]; simp
 rw [e1,e2]
 cases dC_ n.Mode_ with
 | false=>rfl
 | true =>
  cases decide (0≤n.Vers_) with
  | false=>rfl
  | true =>
   cases decide (n.Vers_≤2147483647) with
   | false=>rfl
   | true =>
    refine aa_ (a:=n.Atime_ != clockI n.Atime_) rfl ?_
    rw [clock_le n.Atime_]
    cases decide (0≤n.Atime_)&&decide (n.Atime_≤1099511627776) with
    | false=>rfl
    | true =>
     refine aa_ (a:=n.Mtime_ != clockI n.Mtime_) rfl ?_
     rw [clock_le n.Mtime_]
     cases decide (0≤n.Mtime_)&&decide (n.Mtime_≤1099511627776) with
     | false=>rfl
     | true =>
      refine ac_ rfl ?_
      rw [show (64:Int)=((64:Nat):Int) from rfl,max3]
      cases decide (n.Uid_.length≤64)&&(decide (n.Gid_.length≤64)&&decide (n.Muid_.length≤64)) with
      | false=>rfl
      | true =>
       have e3:decide ((n.Data_.length:Int)>65536) = !(decide (n.Data_.length≤65536)):=by rw [Bool.eq_iff_iff]; simp; omega
       rw [e3]
       cases decide (n.Data_.length≤65536) with
       | false=>rfl
       | true=>exact ac_ rfl (aa_ (fm_ _ hm) (by simp))
def okNodeD (D:Bool) (n:api_Node):Bool:=dC_ n.Mode_&&(decide (0≤n.Vers_)&&decide (n.Vers_≤2147483647))&&(decide (0≤n.Atime_)&&decide (n.Atime_≤1099511627776))&&(decide (0≤n.Mtime_)&&decide (n.Mtime_≤1099511627776)) &&
 (decide (n.Uid_.length≤64)&&(decide (n.Gid_.length≤64)&&decide (n.Muid_.length≤64)))&&decide (n.Data_.length≤65536)&&(!D||n.Data_==[])
theorem lO_ (n:api_Node) (hm:n.Mode_≤9223372036854775807):fO_ n=some (b4_ n):=by
 have e0:b4_ n=okNodeD (decide (n.Mode_≥2147483648)) n:=by
  unfold b4_ okNodeD
  cases hk:dC_ n.Mode_ with
  | false=>simp
  | true=>rw [hG_ hk]
 rw [e0]
 unfold fO_ okNodeD
 refine aa_ (t9_ _ hm) ?_
 have e1:decide (n.Vers_<0) = !(decide (0≤n.Vers_)):=by rw [Bool.eq_iff_iff]; simp
 have e2:decide (n.Vers_>2147483647) = !(decide (n.Vers_≤2147483647)):=by rw [Bool.eq_iff_iff]; simp
 have e3:decide (n.Atime_<0) = !(decide (0≤n.Atime_)):=by rw [Bool.eq_iff_iff]; simp
 have e4:decide (n.Atime_>1099511627776) = !(decide (n.Atime_≤1099511627776)):=by rw [Bool.eq_iff_iff]; simp
 have e5:decide (n.Mtime_<0) = !(decide (0≤n.Mtime_)):=by rw [Bool.eq_iff_iff]; simp
 have e6:decide (n.Mtime_>1099511627776) = !(decide (n.Mtime_≤1099511627776)):=by rw [Bool.eq_iff_iff]; simp
 have e7:∀ s:Str,decide ((s.length:Int)>64) = !(decide (s.length≤64)):=fun s=>by rw [Bool.eq_iff_iff]; simp; omega
 have e8:decide ((n.Data_.length:Int)>65536) = !(decide (n.Data_.length≤65536)):=by rw [Bool.eq_iff_iff]; simp; omega
 rw [e1,e2,e3,e4,e5,e6,e7,e7,e7,e8]
 cases dC_ n.Mode_ <;> cases decide (0≤n.Vers_) <;> cases decide (n.Vers_≤2147483647) <;> cases decide (0≤n.Atime_) <;> cases decide (n.Atime_≤1099511627776) <;> cases decide (0≤n.Mtime_) <;> cases decide (n.Mtime_≤1099511627776) <;> try rfl
 cases decide (n.Uid_.length≤64) <;> cases decide (n.Gid_.length≤64) <;> cases decide (n.Muid_.length≤64) <;> cases decide (n.Data_.length≤65536) <;> rfl
def eC_ (l:List api_Node) (i:Nat):api_Node:=l.getD (i - 1) zeroN
def cR_ (a b:api_Node):Bool:=a.Parent_==b.Parent_&&a.Name_==b.Name_
def StepOK (l:List api_Node) (i:Nat) (n:api_Node):Prop:=(eC_ l i).Id_<n.Id_∧eS_ n.Name_=true∧(∃ p∈l.take i,p.Id_=n.Parent_∧aD_ p.Mode_ 31=true)∧∀ c∈(l.take i).drop 1,cR_ c n=false
def RootOK (n:api_Node):Prop:=n.Id_=1∧n.Parent_=1∧n.Name_=[47]∧aD_ n.Mode_ 31=true
theorem mem_take {α : Type} {l:List α} {i:Nat} {x : α}:x∈l.take i↔∃ j,j<i∧l[j]? = some x:=by
 rw [List.mem_iff_getElem?]
 constructor
 ·rintro ⟨j,hj⟩
  rw [List.getElem?_take] at hj
  split at hj
  ·exact ⟨j,by assumption,hj⟩
  ·cases hj
 ·rintro ⟨j,h1,h2⟩
  exact ⟨j,by rw [List.getElem?_take,if_pos h1]; exact h2⟩
theorem mem_take_drop {α : Type} {l:List α} {i:Nat} {x : α}:x∈(l.take i).drop 1↔∃ j,0<j∧j<i∧l[j]? = some x:=by
 rw [List.mem_iff_getElem?]
 constructor
 ·rintro ⟨j,hj⟩
  rw [List.getElem?_drop,List.getElem?_take] at hj
  split at hj
  ·exact ⟨1+j,by omega,by assumption,hj⟩
  ·cases hj
 ·rintro ⟨j,h0,h1,h2⟩
  exact ⟨j - 1,by rw [List.getElem?_drop,List.getElem?_take,show 1+(j - 1)=j by omega,if_pos h1]; exact h2⟩
theorem oN_ {l:List api_Node} {i:Nat} (h0:0<i) (hi:i<l.length):l[i - 1]? = some (eC_ l i):=by
 unfold eC_
 rw [List.getD_eq_getElem?_getD,List.getElem?_eq_getElem (by omega)]; rfl
theorem srt_iff {l:List api_Node}:(l.Pairwise fun a b=>a.Id_<b.Id_)↔∀ i n,0<i→l[i]? = some n→(eC_ l i).Id_<n.Id_:=by
 rw [List.pairwise_iff_getElem]
 constructor
 ·intro h i n h0 hn
  obtain ⟨hi,rfl⟩:=List.getElem?_eq_some_iff.1 hn
  have:=oN_ h0 hi
  obtain ⟨_,e⟩:=List.getElem?_eq_some_iff.1 this
  rw [← e]
  exact h _ _ _ _ (by omega)
 ·intro h
  have key:∀ (d i:Nat) (hj:i+d+1<l.length),(l[i]'(by omega)).Id_<(l[i+d+1]'hj).Id_:=by
   intro d
   induction d with
   | zero =>
    intro i hj
    have:=h (i+1) _ (by omega) (List.getElem?_eq_getElem (by omega))
    have e:=oN_ (l:=l) (i:=i+1) (by omega) (by omega)
    obtain ⟨_,e⟩:=List.getElem?_eq_some_iff.1 e
    rw [← e] at this
    exact this
   | succ d ih =>
    intro i hj
    have h1:=ih i (by omega)
    have:=h (i+d+1+1) _ (by omega) (List.getElem?_eq_getElem (by omega))
    have e:=oN_ (l:=l) (i:=i+d+1+1) (by omega) (by omega)
    obtain ⟨_,e⟩:=List.getElem?_eq_some_iff.1 e
    rw [← e] at this
    simp only [Nat.add_sub_cancel] at this
    exact Int.lt_trans h1 this
  intro i j hi hj hij
  have:=key (j - i - 1) i (by omega)
  simpa [show i+(j - i - 1)+1=j by omega] using this
theorem OkT_iff {l:List api_Node} {next:Int}:OkT l next↔1≤l.length∧l.length≤1024∧next≤1048576∧(∀ n,l[0]? = some n→RootOK n)∧(∀ n∈l,b4_ n=true)∧(∀ n∈l,n.Id_<next)∧∀ i n,0<i→l[i]? = some n→StepOK l i n:=by
 constructor
 ·intro h
  have hmem:∀ {i:Nat} {n:api_Node},l[i]? = some n→n∈l:=fun h=>List.mem_iff_getElem?.2 ⟨_,h⟩
  have lt:∀ {i j:Nat} {a b:api_Node},l[i]? = some a→l[j]? = some b→a.Id_<b.Id_→i<j:=fun {i j a b} ha hb hab=>by
   rcases Nat.lt_trichotomy i j with h1 | h1 | h1
   ·exact h1
   ·subst h1; rw [ha] at hb; cases hb; omega
   ·have:=List.pairwise_iff_getElem.1 h.srt j i (List.getElem?_eq_some_iff.1 hb).1 (List.getElem?_eq_some_iff.1 ha).1 h1
    rw [(List.getElem?_eq_some_iff.1 ha).2,(List.getElem?_eq_some_iff.1 hb).2] at this
    omega
  have gt:∀ {i j:Nat} {a b:api_Node},l[i]? = some a→l[j]? = some b→i<j→a.Id_<b.Id_:=fun {i j a b} ha hb hab=>by
   have:=List.pairwise_iff_getElem.1 h.srt i j (List.getElem?_eq_some_iff.1 ha).1 (List.getElem?_eq_some_iff.1 hb).1 hab
   rw [(List.getElem?_eq_some_iff.1 ha).2,(List.getElem?_eq_some_iff.1 hb).2] at this
   exact this
  obtain ⟨r,q,hl,hr⟩:=h.root
  have h0:l[0]? = some r:=by rw [hl]; rfl
  refine ⟨by rw [hl]; simp,h.len,h.nx2,fun n hn => ?_,h.flds,h.nxt,fun i n hi hn => ?_⟩
  ·rw [h0] at hn; cases hn; exact hr
  ·have h1:n.Id_≠1:=by have:=gt h0 hn hi; rw [hr.1] at this; omega
   refine ⟨srt_iff.1 h.srt i n hi hn,h.nam n (hmem hn) h1,?_,fun c hc => ?_⟩
   ·obtain ⟨p,p1,p2,p3,p4⟩:=h.par n (hmem hn) h1
    obtain ⟨j,hj⟩:=List.mem_iff_getElem?.1 p1
    exact ⟨p,mem_take.2 ⟨j,lt hj hn p3,hj⟩,p2,p4⟩
   ·obtain ⟨j,j0,j1,hj⟩:=mem_take_drop.1 hc
    cases hs:cR_ c n with
    | false=>rfl
    | true =>
     unfold cR_ at hs
     rw [Bool.and_eq_true,beq_iff_eq,beq_iff_eq] at hs
     have c1:c.Id_≠1:=by have:=gt h0 hj j0; rw [hr.1] at this; omega
     have:=h.uniq c (hmem hj) n (hmem hn) c1 h1 hs.1 hs.2
     have:=gt hj hn j1
     omega
 ·rintro ⟨h1,h2,h3,h4,h5,h6,h7⟩
  have srt:l.Pairwise fun a b=>a.Id_<b.Id_:=srt_iff.2 fun i n hi hn=>(h7 i n hi hn).1
  have gt:∀ {i j:Nat} {a b:api_Node},l[i]? = some a→l[j]? = some b→i<j→a.Id_<b.Id_:=fun {i j a b} ha hb hab=>by
   have:=List.pairwise_iff_getElem.1 srt i j (List.getElem?_eq_some_iff.1 ha).1 (List.getElem?_eq_some_iff.1 hb).1 hab
   rw [(List.getElem?_eq_some_iff.1 ha).2,(List.getElem?_eq_some_iff.1 hb).2] at this
   exact this
  cases l with
  | nil=>exact absurd h1 (by simp)
  | cons r q =>
   have hr:=h4 r rfl
   have pos:∀ {i:Nat} {n:api_Node},(r::q)[i]? = some n→n.Id_≠1→0<i:=fun {i n} hn hne=>by
    rcases Nat.eq_zero_or_pos i with rfl | h0
    ·cases hn; exact absurd hr.1 hne
    ·exact h0
   refine ⟨srt,⟨r,q,rfl,hr⟩,h5,fun n hn hne => ?_,fun n hn hne => ?_,fun a ha b hb ha1 hb1 hp hnm => ?_,h6,h3,h2⟩
   ·obtain ⟨i,hi⟩:=List.mem_iff_getElem?.1 hn
    exact (h7 i n (pos hi hne) hi).2.1
   ·obtain ⟨i,hi⟩:=List.mem_iff_getElem?.1 hn
    obtain ⟨p,hp,p1,p2⟩:=(h7 i n (pos hi hne) hi).2.2.1
    obtain ⟨j,hj,e⟩:=mem_take.1 hp
    exact ⟨p,List.mem_iff_getElem?.2 ⟨_,e⟩,p1,gt e hi hj,p2⟩
   ·obtain ⟨i,hi⟩:=List.mem_iff_getElem?.1 ha
    obtain ⟨j,hj⟩:=List.mem_iff_getElem?.1 hb
    rcases Nat.lt_trichotomy i j with h | h | h
    ·have:=(h7 j b (pos hj hb1) hj).2.2.2 a (mem_take_drop.2 ⟨i,pos hi ha1,h,hi⟩)
     unfold cR_ at this
     rw [hp,hnm] at this
     simp at this
    ·subst h; rw [hi] at hj; cases hj; rfl
    ·have:=(h7 i a (pos hi ha1) hi).2.2.2 b (mem_take_drop.2 ⟨j,pos hj hb1,h,hj⟩)
     unfold cR_ at this
     rw [hp,hnm] at this
     simp at this
def CntP {κ α : Type} (eq : κ → κ → Bool) (P : κ → α → Bool) (ks:List κ) (vs:List Int) (l:List α):Prop:=ks.length=vs.length∧∀ k,aB_ eq ks vs k 0=((l.countP (P k):Nat):Int)
theorem CntP.nil {κ α : Type} {eq : κ → κ → Bool} {P : κ → α → Bool}:CntP eq P [] [] []:=⟨rfl,fun _=>by simp [aB_]⟩
theorem CntP.put {κ α : Type} {eq : κ → κ → Bool} {P : κ → α → Bool} (hq:∀ x y,eq x y=true↔x=y) {ks:List κ} {vs:List Int} {l:List α} (h:CntP eq P ks vs l) {x : α} {key : κ} (hx:∀ k,P k x=eq k key) (hl:l.length≤2000) :
  CntP eq P (aK_ eq ks key) (aZ_ eq ks vs key (w64 (aB_ eq ks vs key 0+1))) (l++[x]):=by
 refine ⟨nx_ h.1,fun n => ?_⟩
 have hc:=List.countP_le_length (p:=P key) (l:=l)
 rw [ny_ hq h.1,h.2 key,h.2 n,as_ (by omega),List.countP_append]
 have e:List.countP (P n) [x]=if eq n key then 1 else 0:=by simp [List.countP_cons,hx]
 rw [e]
 cases hn:eq n key with
 | true=>obtain rfl:=(hq _ _).1 hn; rfl
 | false=>rfl
theorem CntP.skip {κ α : Type} {eq : κ → κ → Bool} {P : κ → α → Bool} {ks:List κ} {vs:List Int} {l:List α} (h:CntP eq P ks vs l) {x : α} (hx:∀ k,P k x=false):CntP eq P ks vs (l++[x]) :=
 ⟨h.1,fun k=>by rw [h.2 k,List.countP_append]; simp [hx]⟩
theorem CntP.put2 {κ α : Type} {eq : κ → κ → Bool} {P : κ → α → Bool} (hq:∀ x y,eq x y=true↔x=y) {ks:List κ} {vs:List Int} {l:List α} (h:CntP eq P ks vs l) {x : α} {key : κ} (hx:∀ k,P k x=eq k key) (hl:l.length≤2000) :
  CntP eq P (aK_ eq (aK_ eq ks key) key) (aZ_ eq (aK_ eq ks key) (aZ_ eq ks vs key (aB_ eq ks vs key 0)) key (w64 (aB_ eq ks vs key 0+1))) (l++[x]) ∧
  aB_ eq (aK_ eq ks key) (aZ_ eq ks vs key (aB_ eq ks vs key 0)) key 0=aB_ eq ks vs key 0:=by
 have e:∀ n,aB_ eq (aK_ eq ks key) (aZ_ eq ks vs key (aB_ eq ks vs key 0)) n 0=aB_ eq ks vs n 0:=fun n=>by
  rw [ny_ hq h.1]
  cases hn:eq n key with
  | true=>obtain rfl:=(hq _ _).1 hn; rfl
  | false=>rfl
 have h':CntP eq P (aK_ eq ks key) (aZ_ eq ks vs key (aB_ eq ks vs key 0)) l:=⟨nx_ h.1,fun n=>by rw [e]; exact h.2 n⟩
 refine ⟨?_,e key⟩
 have:=h'.put hq hx hl
 rw [e key] at this
 exact this
theorem CntP.zero {κ α : Type} {eq : κ → κ → Bool} {P : κ → α → Bool} {ks:List κ} {vs:List Int} {l:List α} (h:CntP eq P ks vs l) (k : κ):(aB_ eq ks vs k 0==0) = !(l.any (P k)):=by
 rw [h.2 k,Bool.eq_iff_iff,beq_iff_eq,Bool.not_eq_true',List.any_eq_false]
 have:((l.countP (P k):Nat):Int)=0↔l.countP (P k)=0:=by omega
 rw [this,List.countP_eq_zero]
theorem CntP.pos {κ α : Type} {eq : κ → κ → Bool} {P : κ → α → Bool} {ks:List κ} {vs:List Int} {l:List α} (h:CntP eq P ks vs l) (k : κ):decide (aB_ eq ks vs k 0>0)=l.any (P k):=by
 rw [h.2 k,Bool.eq_iff_iff,decide_eq_true_eq,List.any_eq_true]
 have:((l.countP (P k):Nat):Int)>0↔0<l.countP (P k):=by omega
 rw [this,List.countP_pos_iff]
def dirP (k:Int) (n:api_Node):Bool:=k==n.Id_&&aD_ n.Mode_ 31
abbrev eqPl (a b:tree_place):Bool:=decide (a=b)
def plP (k:tree_place) (n:api_Node):Bool:=eqPl k (tree_place.mk n.Parent_ n.Name_)
theorem plP_same (c n:api_Node):plP (tree_place.mk n.Parent_ n.Name_) c=cR_ c n:=by
 unfold plP cR_ eqPl
 rw [Bool.eq_iff_iff]
 simp only [decide_eq_true_eq,tree_place.mk.injEq,Bool.and_eq_true,beq_iff_eq]
 exact ⟨fun ⟨h1,h2⟩=>⟨h1.symm,h2.symm⟩,fun ⟨h1,h2⟩=>⟨h1.symm,h2.symm⟩⟩
def okAt (l:List api_Node) (i:Nat) (n:api_Node):Bool:=bif i==0 then n.Id_==1&&(n.Parent_==1&&(n.Name_==[47]&&aD_ n.Mode_ 31)) else
 eS_ n.Name_&&((l.take i).any (dirP n.Parent_) && !(((l.take i).drop 1).any (plP (tree_place.mk n.Parent_ n.Name_))))
def tB (l:List api_Node) (next:Int) (i:Nat) (n:api_Node):Bool:=b4_ n&&(decide (n.Id_<next)&&((i==0||decide ((eC_ l i).Id_<n.Id_))&&okAt l i n))
def gT (l:List api_Node) (next:Int) (i:Nat) (n:api_Node):Option Bool:=if tB l next i n then none else some false
theorem mK_ {l:List api_Node} {i:Nat} (hi:i<l.length) (h0:0<i):(l.take (i+1)).drop 1=(l.take i).drop 1++[l[i]]:=by
 rw [ho_ hi,List.drop_append,List.length_take,show (1 - min i l.length)=0 by omega]; rfl
theorem rR_ (t:api_Tree) (i:Nat) (hi:i<t.Nodes_.length) (hl:t.Nodes_.length≤1024) (hm:∀ n∈t.Nodes_,n.Mode_≤9223372036854775807∧n.Name_.length≤9223372036854775807) {dk:List Int} {dv:List Int} {pk:List tree_place} {pv:List Int}
  (h1:CntP eqI dirP dk dv (t.Nodes_.take i)) (h2:CntP eqPl plP pk pv ((t.Nodes_.take i).drop 1)) :
  (tB t.Nodes_ t.Next_ i t.Nodes_[i]=false∧ck_ t ((i:Int),dk,dv,pk,pv)=some (.done (.ret false))) ∨
  (tB t.Nodes_ t.Next_ i t.Nodes_[i]=true∧∃ dk' dv' pk' pv',ck_ t ((i:Int),dk,dv,pk,pv)=some (.next (((i+1:Nat):Int),dk',dv',pk',pv'))∧CntP eqI dirP dk' dv' (t.Nodes_.take (i+1))∧CntP eqPl plP pk' pv' ((t.Nodes_.take (i+1)).drop 1)):=by
 have hmem:=List.getElem_mem hi
 obtain ⟨hm1,hm2⟩:=hm _ hmem
 unfold ck_
 simp only
 rw [bm_ hi,ap_ hi,as_ (by omega)]
 simp only [cond_true,Option.bind_some]
 rw [ua_ _ hm1]
 simp only [Option.bind_some]
 have hnx:decide (t.Nodes_[i].Id_≥t.Next_) = !(decide (t.Nodes_[i].Id_<t.Next_)):=by rw [Bool.eq_iff_iff]; simp
 rw [hnx]
 have htk:t.Nodes_.take (i+1)=t.Nodes_.take i++[t.Nodes_[i]]:=ho_ hi
 have hdir:∀ {A B:Option (Out ((List Int) × (List Int) × (List tree_place) × (List Int)) Bool)},(Option.bind (bA_ t.Nodes_[i].Mode_) fun (y22:Bool)=>bif y22 then A else B)=bif aD_ t.Nodes_[i].Mode_ 31 then A else B:=by
  intro A B; rw [fm_ _ hm1]; rfl
 -- the directories counted after this node
 have hD:∃ dk' dv',(∀ (p q:_),(bif aD_ t.Nodes_[i].Mode_ 31 then some (.fall (aK_ eqI dk t.Nodes_[i].Id_,aZ_ eqI dk dv t.Nodes_[i].Id_ (w64 (aB_ eqI dk dv t.Nodes_[i].Id_ 0+1)),p,q)) else some (.fall (dk,dv,p,q)):Option (Out ((List Int) × (List Int) × (List tree_place) × (List Int)) Bool))=some (.fall (dk',dv',p,q)))∧CntP eqI dirP dk' dv' (t.Nodes_.take (i+1)):=by
  rw [htk]
  cases hh:aD_ t.Nodes_[i].Mode_ 31 with
  | true=>exact ⟨_,_,fun p q=>rfl,h1.put eqI_iff (fun k=>by unfold dirP eqI; rw [hh,Bool.and_true]) (by rw [List.length_take]; omega)⟩
  | false=>exact ⟨dk,dv,fun p q=>rfl,h1.skip (fun k=>by unfold dirP; rw [hh,Bool.and_false])⟩
 obtain ⟨dk',dv',hD1,hD2⟩:=hD
 cases ho:b4_ t.Nodes_[i] with
 | false=>exact .inl ⟨by unfold tB; rw [ho]; rfl,rfl⟩
 | true =>
  cases hx:decide (t.Nodes_[i].Id_<t.Next_) with
  | false=>exact .inl ⟨by unfold tB; rw [ho,hx]; rfl,rfl⟩
  | true =>
   simp only [Bool.not_true,Bool.or_self,cond_false]
   rcases Nat.eq_zero_or_pos i with rfl | h0
   ·
    have e0:decide (((0:Nat):Int)>0)=false:=rfl
    have e1:(((0:Nat):Int)==0)=true:=rfl
    rw [e0,e1]
    simp only [cond_false,cond_true,Option.bind_some]
    have hroot:(Option.bind (bif (((t.Nodes_[0].Id_ != 1)||(t.Nodes_[0].Parent_ != 1))||(!(t.Nodes_[0].Name_==[47]))) then some true else Option.bind (bA_ t.Nodes_[0].Mode_) fun (y17:Bool)=>some (!y17)) fun (y18:Bool)=>(bif y18 then some (.ret (false)) else some (.fall ())):Option (Out Unit Bool))=bif okAt t.Nodes_ 0 t.Nodes_[0] then some (.fall ()) else some (.ret false):=by
     rw [fm_ _ hm1]
     unfold okAt bne
     simp only [Option.bind_some]
     cases t.Nodes_[0].Id_==1 <;> cases t.Nodes_[0].Parent_==1 <;> cases t.Nodes_[0].Name_==[47] <;> cases aD_ t.Nodes_[0].Mode_ 31 <;> rfl
    rw [hroot]
    cases hk:okAt t.Nodes_ 0 t.Nodes_[0] with
    | false=>exact .inl ⟨by unfold tB; rw [ho,hx,hk]; rfl,rfl⟩
    | true =>
     refine .inr ⟨by unfold tB; rw [ho,hx,hk]; rfl,dk',dv',pk,pv,?_,hD2,?_⟩
     ·simp only [cond_true,Option.bind_some]
      rw [hdir,hD1]; rfl
     ·have e:(t.Nodes_.take (0+1)).drop 1=(t.Nodes_.take 0).drop 1:=by rw [htk]; simp
      rw [e]; exact h2
   ·have e0:decide ((i:Int)>0)=true:=by simpa using h0
    have e1:((i:Int)==0)=false:=by simp; omega
    have e2:(i==0)=false:=by simp; omega
    have hp:ak_ t.Nodes_ (w64 ((i:Int) - 1))=some (eC_ t.Nodes_ i):=hF_ zeroN h0 hi hl
    rw [e0,e1,hp]
    have hle:decide (t.Nodes_[i].Id_≤(eC_ t.Nodes_ i).Id_) = !(decide ((eC_ t.Nodes_ i).Id_<t.Nodes_[i].Id_)):=by rw [Bool.eq_iff_iff]; simp
    simp only [cond_true,Option.bind_some]
    rw [hle]
    cases hs:decide ((eC_ t.Nodes_ i).Id_<t.Nodes_[i].Id_) with
    | false=>exact .inl ⟨by unfold tB; rw [ho,hx,hs,e2]; rfl,rfl⟩
    | true =>
     simp only [Bool.not_true,cond_false]
     have hnode:(Option.bind (dJ_ t.Nodes_[i].Name_) fun (y19:Bool)=>Option.bind (bif (!y19) then some true else some ((aB_ eqI dk dv t.Nodes_[i].Parent_ 0)==0)) fun (y20:Bool)=>Option.bind (bif y20 then some true else some (decide ((aB_ (fun (a b:tree_place)=>decide (a=b)) pk pv (tree_place.mk t.Nodes_[i].Parent_ t.Nodes_[i].Name_) 0)>0))) fun (y21:Bool)=>(bif y21 then some (.ret (false)) else some (.fall ())):Option (Out Unit Bool))=bif okAt t.Nodes_ i t.Nodes_[i] then some (.fall ()) else some (.ret false):=by
      rw [path_valid _ hm2]
      unfold okAt
      rw [h1.zero,e2]
      have:=h2.pos (tree_place.mk t.Nodes_[i].Parent_ t.Nodes_[i].Name_)
      unfold eqPl at this
      rw [this]
      simp only [Option.bind_some,cond_false]
      cases eS_ t.Nodes_[i].Name_ <;> cases (t.Nodes_.take i).any (dirP t.Nodes_[i].Parent_) <;> cases ((t.Nodes_.take i).drop 1).any (plP (tree_place.mk t.Nodes_[i].Parent_ t.Nodes_[i].Name_)) <;> rfl
     rw [hnode]
     cases hk:okAt t.Nodes_ i t.Nodes_[i] with
     | false=>exact .inl ⟨by unfold tB; rw [ho,hx,hk]; simp,rfl⟩
     | true =>
      obtain ⟨c1,c2⟩:=h2.put2 (x:=t.Nodes_[i]) (key:=tree_place.mk t.Nodes_[i].Parent_ t.Nodes_[i].Name_) (fun x y=>decide_eq_true_iff) (fun k=>rfl) (by rw [List.length_drop,List.length_take]; omega)
      refine .inr ⟨by unfold tB; rw [ho,hx,hk,hs]; simp,dk',dv',_,_,?_,hD2,by rw [mK_ hi h0]; exact c1⟩
      simp only [cond_true,Option.bind_some]
      rw [c2,ed_]
      simp only [Option.bind_some]
      rw [hdir,hD1]; rfl
theorem rS_ (t:api_Tree) (hl:t.Nodes_.length≤1024) (hm:∀ n∈t.Nodes_,n.Mode_≤9223372036854775807∧n.Name_.length≤9223372036854775807) :
  aj_ (ck_ t) BIG (0,([]:List Int),([]:List Int),([]:List tree_place),([]:List Int))=some (cL_ (aE_ (gT t.Nodes_ t.Next_) 0 t.Nodes_)):=by
 refine fX_ (body:=ck_ t) (J:=fun i s b=>∃ dk dv pk pv,s=((i:Int),dk,dv,pk,pv)∧CntP eqI dirP dk dv (t.Nodes_.take i)∧CntP eqPl plP pk pv ((t.Nodes_.take i).drop 1)∧b=cL_ (aE_ (gT t.Nodes_ t.Next_) i (t.Nodes_.drop i))) t.Nodes_.length (bT_ (by omega)) (fun s b hJ => ?_) (fun i s b hi hJ => ?_) ⟨[],[],[],[],rfl,CntP.nil,by simp [CntP.nil],by simp⟩
 ·obtain ⟨dk,dv,pk,pv,rfl,_,_,rfl⟩:=hJ
  unfold ck_
  simp only
  rw [br_]
  simp [aE_,cL_]
 ·obtain ⟨dk,dv,pk,pv,rfl,h1,h2,rfl⟩:=hJ
  rw [List.drop_eq_getElem_cons hi]
  rcases rR_ t i hi hl hm h1 h2 with ⟨hb,hr⟩ | ⟨hb,dk',dv',pk',pv',hr,h1',h2'⟩
  ·exact .inl (by rw [hr]; simp [aE_,gT,hb,cL_])
  ·exact .inr ⟨_,hr,dk',dv',pk',pv',rfl,h1',h2',by simp [aE_,gT,hb]⟩
theorem nC_ {α : Type} {g:Nat → α → Option Bool} {p:Nat → α → Bool} (hg:∀ i x,g i x=if p i x then none else some false) (l:List α) (k:Nat):(aE_ g k l).getD true=true↔∀ i x,l[i]? = some x→p (k+i) x=true:=by
 cases hs:aE_ g k l with
 | none =>
  refine ⟨fun _ i x hx => ?_,fun _=>rfl⟩
  have:=scan_none.1 hs i x hx
  rw [hg] at this
  cases hp:p (k+i) x with
  | true=>rfl
  | false=>rw [hp] at this; cases this
 | some r =>
  obtain ⟨i,x,hx,h1,_⟩:=oH_ hs
  rw [hg] at h1
  cases hp:p (k+i) x with
  | true=>rw [hp] at h1; cases h1
  | false =>
   rw [hp] at h1
   obtain rfl:false=r:=by cases h1; rfl
   refine ⟨fun h=>(nomatch h),fun h => ?_⟩
   rw [h i x hx] at hp; cases hp
theorem mL_ (t:api_Tree) (hl:t.Nodes_.length≤1024) (hm:∀ n∈t.Nodes_,n.Mode_≤9223372036854775807∧n.Name_.length≤9223372036854775807):∃ b,ek_ t=some b∧(b=true↔OkT t.Nodes_ t.Next_):=by
 unfold ek_
 cases hc:((decide ((t.Nodes_.length:Int)<1))||(decide ((t.Nodes_.length:Int)>1024)))||(decide (t.Next_>1048576)) with
 | true =>
  refine ⟨false,ag_ rfl rfl,fun h=>(nomatch h),fun h => ?_⟩
  obtain ⟨h1,h2,h3,_⟩:=OkT_iff.1 h
  simp only [Bool.or_eq_true,decide_eq_true_eq] at hc
  omega
 | false =>
  simp only [Bool.or_eq_false_iff,decide_eq_false_iff_not] at hc
  refine ⟨(aE_ (gT t.Nodes_ t.Next_) 0 t.Nodes_).getD true,ac_ rfl (be_ (rS_ t hl hm) (fun _=>rfl) rfl),?_⟩
  rw [nC_ (g:=gT t.Nodes_ t.Next_) (p:=tB t.Nodes_ t.Next_) (fun _ _=>rfl),OkT_iff]
  simp only [Nat.zero_add]
  have tk:∀ i (n:api_Node),tB t.Nodes_ t.Next_ i n=true↔b4_ n=true∧n.Id_<t.Next_∧(i=0∨(eC_ t.Nodes_ i).Id_<n.Id_)∧okAt t.Nodes_ i n=true:=fun i n=>by
   unfold tB
   simp only [Bool.and_eq_true,Bool.or_eq_true,decide_eq_true_eq,beq_iff_eq]
  have ok0:∀ n,okAt t.Nodes_ 0 n=true↔RootOK n:=fun n=>by
   unfold okAt RootOK
   simp only [beq_self_eq_true,cond_true,Bool.and_eq_true,beq_iff_eq]
  have okS:∀ i n,0<i→(okAt t.Nodes_ i n=true↔eS_ n.Name_=true∧(∃ p∈t.Nodes_.take i,p.Id_=n.Parent_∧aD_ p.Mode_ 31=true)∧∀ c∈(t.Nodes_.take i).drop 1,cR_ c n=false):=fun i n h0=>by
   unfold okAt
   rw [show (i==0)=false by simp; omega]
   simp only [cond_false,Bool.and_eq_true,Bool.not_eq_true',List.any_eq_true,List.any_eq_false,plP_same,dirP,beq_iff_eq,Bool.not_eq_true]
   constructor
   ·rintro ⟨h1,⟨p,p1,p2,p3⟩,h3⟩
    exact ⟨h1,⟨p,p1,p2.symm,p3⟩,h3⟩
   ·rintro ⟨h1,⟨p,p1,p2,p3⟩,h3⟩
    exact ⟨h1,⟨p,p1,p2.symm,p3⟩,h3⟩
  constructor
  ·intro h
   refine ⟨by omega,by omega,by omega,fun n hn=>(ok0 n).1 ((tk 0 n).1 (h 0 n hn)).2.2.2,fun n hn => ?_,fun n hn => ?_,fun i n h0 hn => ?_⟩
   ·obtain ⟨i,hi⟩:=List.mem_iff_getElem?.1 hn
    exact ((tk i n).1 (h i n hi)).1
   ·obtain ⟨i,hi⟩:=List.mem_iff_getElem?.1 hn
    exact ((tk i n).1 (h i n hi)).2.1
   ·obtain ⟨a,b,c,d⟩:=(tk i n).1 (h i n hn)
    exact ⟨c.resolve_left (by omega),(okS i n h0).1 d⟩
  ·rintro ⟨h1,h2,h3,h4,h5,h6,h7⟩ i n hn
   have hm:=List.mem_iff_getElem?.2 ⟨_,hn⟩
   rcases Nat.eq_zero_or_pos i with rfl | h0
   ·exact (tk 0 n).2 ⟨h5 n hm,h6 n hm,.inl rfl,(ok0 n).2 (h4 n hn)⟩
   ·obtain ⟨a,b⟩:=h7 i n h0 hn
    exact (tk i n).2 ⟨h5 n hm,h6 n hm,.inr a,(okS i n h0).2 b⟩
def dirD (n c:api_Node):Bool:=c.Id_==n.Parent_&&decide (c.Mode_≥2147483648)
theorem ref10_inner (t:api_Tree) (i:Nat) (hi:i<t.Nodes_.length) (hl:t.Nodes_.length≤1024) :
  aj_ (dP_ (i:Int) t) BIG (false,0)=some (bif ((t.Nodes_.take i).drop 1).any (fun c=>cR_ c t.Nodes_[i]) then .ret false else .fall ((t.Nodes_.take i).any (dirD t.Nodes_[i]))):=by
 refine fX_ (body:=dP_ (i:Int) t) (J:=fun j s b=>j≤i∧s=((t.Nodes_.take j).any (dirD t.Nodes_[i]),(j:Int))∧((t.Nodes_.take j).drop 1).any (fun c=>cR_ c t.Nodes_[i])=false∧b=bif ((t.Nodes_.take i).drop 1).any (fun c=>cR_ c t.Nodes_[i]) then .ret false else .fall ((t.Nodes_.take i).any (dirD t.Nodes_[i]))) i (by show i<18446744073709551616; omega) (fun s b hJ => ?_) (fun j s b hj hJ => ?_) ⟨Nat.zero_le _,rfl,by simp,rfl⟩
 ·obtain ⟨_,rfl,h2,rfl⟩:=hJ
  rw [h2]
  unfold dP_
  simp only
  rw [br_]; rfl
 ·obtain ⟨_,rfl,h2,rfl⟩:=hJ
  have hjl:j<t.Nodes_.length:=by omega
  have htk:t.Nodes_.take (j+1)=t.Nodes_.take j++[t.Nodes_[j]]:=ho_ hjl
  have hany:(t.Nodes_.take (j+1)).any (dirD t.Nodes_[i])=((t.Nodes_.take j).any (dirD t.Nodes_[i])||dirD t.Nodes_[i] t.Nodes_[j]):=by rw [htk,List.any_append]; simp
  have hbody:dP_ (i:Int) t ((t.Nodes_.take j).any (dirD t.Nodes_[i]),(j:Int))=bif (decide (0<j)&&cR_ t.Nodes_[j] t.Nodes_[i]) then some (.done (.ret false)) else some (.next ((t.Nodes_.take (j+1)).any (dirD t.Nodes_[i]),((j+1:Nat):Int))):=by
   unfold dP_
   simp only
   rw [bm_ hj,ap_ hjl,ap_ hi,as_ (by omega),hany]
   have e0:decide ((j:Int)>0)=decide (0<j):=by rw [Bool.eq_iff_iff]; simp
   rw [e0]
   unfold dirD cR_ bO_
   simp only [cond_true,Option.bind_some]
   cases (t.Nodes_.take j).any fun c=>c.Id_==t.Nodes_[i].Parent_&&decide (c.Mode_≥2147483648) <;> cases t.Nodes_[j].Id_==t.Nodes_[i].Parent_ <;> cases decide (t.Nodes_[j].Mode_≥2147483648) <;> cases decide (0<j) <;> cases t.Nodes_[j].Parent_==t.Nodes_[i].Parent_ <;> cases t.Nodes_[j].Name_==t.Nodes_[i].Name_ <;> rfl
  cases hd:decide (0<j)&&cR_ t.Nodes_[j] t.Nodes_[i] with
  | true =>
   rw [hd] at hbody
   refine .inl ?_
   rw [hbody]
   rw [Bool.and_eq_true,decide_eq_true_eq] at hd
   have:((t.Nodes_.take i).drop 1).any (fun c=>cR_ c t.Nodes_[i])=true:=List.any_eq_true.2 ⟨_,mem_take_drop.2 ⟨j,hd.1,hj,List.getElem?_eq_getElem hjl⟩,hd.2⟩
   rw [this]; rfl
  | false =>
   rw [hd] at hbody
   refine .inr ⟨_,hbody,by omega,rfl,?_,rfl⟩
   rcases Nat.eq_zero_or_pos j with rfl | h0
   ·rw [htk]; simp
   ·rw [mK_ hjl h0,List.any_append,h2]
    rw [show decide (0<j)=true by simpa using h0,Bool.true_and] at hd
    simpa using hd
def rB (l:List api_Node) (i:Nat) (n:api_Node):Bool:=decide ((eC_ l i).Id_<n.Id_)&&(decide (n.Parent_<n.Id_)&&(eS_ n.Name_&&(b4_ n&&(!(((l.take i).drop 1).any fun c=>cR_ c n)&&(l.take i).any (dirD n)))))
def gR (l:List api_Node) (i:Nat) (n:api_Node):Option Bool:=if rB l i n then none else some false
theorem qp_ (t:api_Tree) (hl:t.Nodes_.length≤1024) (h1:1≤t.Nodes_.length) (hm:∀ n∈t.Nodes_,n.Mode_≤9223372036854775807∧n.Name_.length≤9223372036854775807) :
  aj_ (eI_ t) BIG 1=some (cL_ (aE_ (gR t.Nodes_) 1 (t.Nodes_.drop 1))):=by
 refine nA_ t.Nodes_ (gR t.Nodes_) 1 h1 (bT_ (by omega)) (fun i hi h0 => ?_) ?_
 ·have hmem:=List.getElem_mem hi
  obtain ⟨hm1,hm2⟩:=hm _ hmem
  unfold eI_
  have hp:ak_ t.Nodes_ (w64 ((i:Int) - 1))=some (eC_ t.Nodes_ i):=hF_ zeroN h0 hi hl
  rw [bm_ hi,ap_ hi,hp,as_ (by omega)]
  simp only [cond_true,Option.bind_some]
  rw [ref03_valid _ hm2,lO_ _ hm1]
  simp only [Option.bind_some]
  rw [ref10_inner t i hi hl]
  have e1:decide (t.Nodes_[i].Id_≤(eC_ t.Nodes_ i).Id_) = !(decide ((eC_ t.Nodes_ i).Id_<t.Nodes_[i].Id_)):=by rw [Bool.eq_iff_iff]; simp
  have e2:decide (t.Nodes_[i].Parent_≥t.Nodes_[i].Id_) = !(decide (t.Nodes_[i].Parent_<t.Nodes_[i].Id_)):=by rw [Bool.eq_iff_iff]; simp
  rw [e1,e2]
  unfold gR rB
  cases decide ((eC_ t.Nodes_ i).Id_<t.Nodes_[i].Id_) <;> cases decide (t.Nodes_[i].Parent_<t.Nodes_[i].Id_) <;> cases eS_ t.Nodes_[i].Name_ <;> cases b4_ t.Nodes_[i] <;> try rfl
  cases ((t.Nodes_.take i).drop 1).any fun c=>cR_ c t.Nodes_[i] <;> cases (t.Nodes_.take i).any (dirD t.Nodes_[i]) <;> rfl
 ·unfold eI_; rw [br_]; rfl
theorem last_lt {l:List api_Node} (hs:l.Pairwise fun a b=>a.Id_<b.Id_) {x:api_Node} (hx:l[l.length - 1]? = some x) (next:Int):(∀ n∈l,n.Id_<next)↔x.Id_<next:=by
 constructor
 ·exact fun h=>h x (List.mem_iff_getElem?.2 ⟨_,hx⟩)
 ·intro h n hn
  obtain ⟨i,hi⟩:=List.mem_iff_getElem?.1 hn
  obtain ⟨h1,e1⟩:=List.getElem?_eq_some_iff.1 hi
  obtain ⟨h2,e2⟩:=List.getElem?_eq_some_iff.1 hx
  rcases Nat.lt_or_ge i (l.length - 1) with hlt | hge
  ·have:=List.pairwise_iff_getElem.1 hs i (l.length - 1) h1 h2 hlt
   rw [e1,e2] at this
   omega
  ·obtain rfl:i=l.length - 1:=by omega
   rw [hi] at hx; cases hx; exact h
def rootD (r:api_Node):Bool:=r.Id_==1&&(r.Parent_==1&&(r.Name_==[47]&&(decide (2147483648≤r.Mode_)&&b4_ r)))
theorem iA_ (t:api_Tree) (hl:t.Nodes_.length≤1024) (hm:∀ n∈t.Nodes_,n.Mode_≤9223372036854775807∧n.Name_.length≤9223372036854775807):∃ b,dN_ t=some b∧(b=true↔OkT t.Nodes_ t.Next_):=by
 rcases Nat.eq_zero_or_pos t.Nodes_.length with h0 | h0
 ·refine ⟨false,?_,fun h=>(nomatch h),fun h => ?_⟩
  ·unfold dN_
   rw [show decide ((t.Nodes_.length:Int)<1)=true by simp; omega]
   rfl
  ·have:=(OkT_iff.1 h).1; omega
 ·obtain ⟨r,hr⟩:∃ r,t.Nodes_[0]? = some r:=⟨_,List.getElem?_eq_getElem h0⟩
  obtain ⟨z,hz⟩:∃ z,t.Nodes_[t.Nodes_.length - 1]? = some z:=⟨_,List.getElem?_eq_getElem (by omega)⟩
  have gr:ak_ t.Nodes_ 0=some r:=(dY_ t.Nodes_ 0).trans hr
  have gz:ak_ t.Nodes_ (w64 ((t.Nodes_.length:Int) - 1))=some z:=by rw [w_pred h0 (by omega),dY_]; exact hz
  have hrm:=List.mem_iff_getElem?.2 ⟨_,hr⟩
  have hlen:((decide ((t.Nodes_.length:Int)<1))||(decide ((t.Nodes_.length:Int)>1024)))=false:=by simp; omega
  have ev:dN_ t=bif rootD r then (bif ((decide (t.Next_≤z.Id_))||(decide (t.Next_>1048576))) then some false else some ((aE_ (gR t.Nodes_) 1 (t.Nodes_.drop 1)).getD true)) else some false:=by
   unfold dN_
   rw [hlen,gr,gz]
   have e1:decide (r.Mode_<2147483648) = !(decide (2147483648≤r.Mode_)):=by rw [Bool.eq_iff_iff]; simp
   simp only [cond_false,Option.bind_some]
   rw [lO_ _ (hm r hrm).1,e1]
   simp only [Option.bind_some]
   unfold rootD bne
   cases r.Id_==1 <;> cases r.Parent_==1 <;> cases r.Name_==[47] <;> cases decide (2147483648≤r.Mode_) <;> cases b4_ r <;> try rfl
   cases hN:(decide (t.Next_≤z.Id_))||(decide (t.Next_>1048576)) with
   | true=>rfl
   | false =>
    show (Option.bind (aj_ (eI_ t) BIG 1) fun (wo3:Out Unit Bool)=>match wo3 with | .ret r3=>some r3 | .fall _=>some true)=some ((aE_ (gR t.Nodes_) 1 (t.Nodes_.drop 1)).getD true)
    exact be_ (qp_ t hl h0 hm) (fun _=>rfl) rfl
  have hroot:rootD r=true↔RootOK r∧b4_ r=true:=by
   unfold rootD RootOK
   simp only [Bool.and_eq_true,beq_iff_eq,decide_eq_true_eq]
   constructor
   ·rintro ⟨h1,h2,h3,h4,h5⟩
    have:=hG_ (fn_ h5)
    exact ⟨⟨h1,h2,h3,by rw [← this]; simpa using h4⟩,h5⟩
   ·rintro ⟨⟨h1,h2,h3,h4⟩,h5⟩
    have:=hG_ (fn_ h5)
    rw [h4] at this
    exact ⟨h1,h2,h3,by simpa using this,h5⟩
  rw [OkT_iff]
  cases hR:rootD r with
  | false =>
   refine ⟨false,by rw [ev,hR]; rfl,fun h=>(nomatch h),fun ⟨_,_,_,h4,h5,_⟩ => ?_⟩
   rw [hroot.2 ⟨h4 r hr,h5 r hrm⟩] at hR; cases hR
  | true =>
   obtain ⟨hr1,hr2⟩:=hroot.1 hR
   cases hN:(decide (t.Next_≤z.Id_))||(decide (t.Next_>1048576)) with
   | true =>
    refine ⟨false,by rw [ev,hR,hN]; rfl,fun h=>(nomatch h),fun ⟨_,_,h3,_,_,h6,_⟩ => ?_⟩
    have:=h6 z (List.mem_iff_getElem?.2 ⟨_,hz⟩)
    simp only [Bool.or_eq_true,decide_eq_true_eq] at hN
    omega
   | false =>
    refine ⟨(aE_ (gR t.Nodes_) 1 (t.Nodes_.drop 1)).getD true,by rw [ev,hR,hN]; rfl,?_⟩
    simp only [Bool.or_eq_false_iff,decide_eq_false_iff_not] at hN
    rw [nC_ (g:=gR t.Nodes_) (p:=rB t.Nodes_) (fun _ _=>rfl)]
    have rk:∀ i (n:api_Node),rB t.Nodes_ i n=true↔(eC_ t.Nodes_ i).Id_<n.Id_∧n.Parent_<n.Id_∧eS_ n.Name_=true∧b4_ n=true∧(∀ c∈(t.Nodes_.take i).drop 1,cR_ c n=false)∧∃ p∈t.Nodes_.take i,p.Id_=n.Parent_∧2147483648≤p.Mode_:=fun i n=>by
     unfold rB
     simp only [Bool.and_eq_true,decide_eq_true_eq,Bool.not_eq_true',List.any_eq_true,List.any_eq_false,dirD,beq_iff_eq,Bool.not_eq_true,ge_iff_le]
    have nth:∀ i n,(t.Nodes_.drop 1)[i]? = some n↔t.Nodes_[1+i]? = some n:=fun i n=>by rw [List.getElem?_drop]
    constructor
    ·intro h
     have h':∀ i n,0<i→t.Nodes_[i]? = some n→rB t.Nodes_ i n=true:=fun i n h0 hn=>by
      have:=h (i - 1) n ((nth _ _).2 (by rw [show 1+(i - 1)=i by omega]; exact hn))
      rwa [show 1+(i - 1)=i by omega] at this
     have flds:∀ n∈t.Nodes_,b4_ n=true:=fun n hn=>by
      obtain ⟨i,hi⟩:=List.mem_iff_getElem?.1 hn
      rcases Nat.eq_zero_or_pos i with rfl | h0
      ·rw [hr] at hi; cases hi; exact hr2
      ·exact ((rk i n).1 (h' i n h0 hi)).2.2.2.1
     refine ⟨h0,by omega,by omega,fun n hn=>by rw [hr] at hn; cases hn; exact hr1,flds,?_,fun i n h0 hn => ?_⟩
     ·exact (last_lt (srt_iff.2 fun i n h0 hn=>((rk i n).1 (h' i n h0 hn)).1) hz _).2 (by omega)
     ·obtain ⟨a,b,c,d,e,p,p1,p2,p3⟩:=(rk i n).1 (h' i n h0 hn)
      refine ⟨a,c,⟨p,p1,p2,?_⟩,e⟩
      rw [← hG_ (fn_ (flds p (List.mem_of_mem_take p1)))]
      simpa using p3
    ·intro h i n hn
     have ht:=OkT_iff.2 h
     obtain ⟨_,_,_,_,h5,_,h7⟩:=h
     have hn':=(nth _ _).1 hn
     obtain ⟨a,b,⟨p,p1,p2,p3⟩,d⟩:=h7 (1+i) n (by omega) hn'
     refine (rk (1+i) n).2 ⟨a,?_,b,h5 n (List.mem_iff_getElem?.2 ⟨_,hn'⟩),d,p,p1,p2,?_⟩
     ·obtain ⟨j,j1,j2⟩:=mem_take.1 p1
      rw [← p2]
      obtain ⟨q1,e1⟩:=List.getElem?_eq_some_iff.1 j2
      obtain ⟨q2,e2⟩:=List.getElem?_eq_some_iff.1 hn'
      have:=List.pairwise_iff_getElem.1 ht.srt j (1+i) q1 q2 j1
      rwa [e1,e2] at this
     ·rw [← hG_ (fn_ (h5 p (List.mem_of_mem_take p1)))] at p3
      simpa using p3
end Go.Proofs.YtebokaoegomboaaGreatDoor
namespace Go.Proofs.YtebokaoegomboaaGreatDoor
open Go.Rt Go.RowKit
theorem clone_texts {xs:List Str} (h:xs.length≤1000):aT_ xs=some xs:=clone_any (n:=16) (by omega) (by omega)
def okU (i:Nat) (b:UInt8):Bool:=(decide (97≤b.toNat)&&decide (b.toNat≤122))||(!(i==0)&&((decide (48≤b.toNat)&&decide (b.toNat≤57))||b.toNat==45||b.toNat==95))
def gU (i:Nat) (b:UInt8):Option Bool:=if okU i b then none else some false
def vU (s:Str):Bool:=decide (1≤s.length)&&(decide (s.length≤32)&&((aE_ gU 0 s).getD true))
theorem gU_if (i:Nat) (b:UInt8) {c:Bool} (h:c = !(okU i b)):(bif c then some (Step.done (Out.ret false)) else some (Step.next ((i+1:Nat):Int)):Option (Step Int (Out Unit Bool)))=some (stepO (gU i b) i):=by
 subst h; unfold gU; cases okU i b <;> rfl
theorem okU_a (i:Nat) (b:UInt8):((!((decide ((b.toNat:Int)≥97))&&(decide ((b.toNat:Int)≤122))))&&(((i:Int)==0)||(!((((decide ((b.toNat:Int)≥48))&&(decide ((b.toNat:Int)≤57)))||((b.toNat:Int)==45))||((b.toNat:Int)==95))))) = !(okU i b):=by
 unfold okU
 rw [Bool.eq_iff_iff]
 simp only [Bool.and_eq_true,Bool.or_eq_true,Bool.not_eq_true',Bool.and_eq_false_iff,Bool.or_eq_false_iff,decide_eq_false_iff_not,beq_iff_eq,beq_eq_false_iff_ne,Bool.not_eq_false']
 omega
theorem rU_ (s:Str) (h:s.length≤9223372036854775807):aj_ (g2_ s) BIG 0=some (cL_ (aE_ gU 0 s)):=by
 refine aY_ s gU (bT_ h) (fun i hi => ?_) ?_
 ·unfold g2_
  rw [i6_ hi,bm_ hi,as_ (by omega)]
  simp only [cond_true,Option.bind_some]
  exact gU_if i s[i] (okU_a i s[i])
 ·unfold g2_; rw [br_]; rfl
theorem nD_ (s:Str) (h:s.length≤9223372036854775807):ej_ s=some (vU s):=by
 unfold ej_ vU
 have e1:(s==[]) = !decide (1≤s.length):=by cases s with | nil=>rfl | cons a l=>rw [Bool.eq_iff_iff]; simp
 have e2:decide ((s.length:Int)>32) = !decide (s.length≤32):=by rw [Bool.eq_iff_iff]; simp only [decide_eq_true_eq,Bool.not_eq_true',decide_eq_false_iff_not]; omega
 rw [e1,e2]
 cases decide (1≤s.length) with
 | false=>rfl
 | true =>
  cases decide (s.length≤32) with
  | false=>rfl
  | true =>
   refine ac_ rfl ?_
   exact be_ (rU_ s h) (fun _=>rfl) rfl
theorem qq_ (s:Str) (h:s.length≤9223372036854775807):aj_ (gb_ s) BIG 0=some (cL_ (aE_ gU 0 s)):=by
 refine aY_ s gU (bT_ h) (fun i hi => ?_) ?_
 ·unfold gb_
  rw [i6_ hi,bm_ hi,as_ (by omega)]
  simp only [cond_true,Option.bind_some]
  refine gU_if i s[i] ?_
  rw [← okU_a]
  rw [Bool.eq_iff_iff]
  simp only [Bool.and_eq_true,Bool.or_eq_true,Bool.not_eq_true',Bool.and_eq_false_iff,Bool.or_eq_false_iff,decide_eq_false_iff_not,beq_iff_eq,beq_eq_false_iff_ne,bne_iff_ne,ne_eq]
 ·unfold gb_; rw [br_]; rfl
theorem jA_ (s:Str) (h:s.length≤9223372036854775807):eu_ s=some (vU s):=by
 unfold eu_ vU
 have e1:decide ((s.length:Int)<1) = !decide (1≤s.length):=by rw [Bool.eq_iff_iff]; simp only [decide_eq_true_eq,Bool.not_eq_true',decide_eq_false_iff_not]; omega
 have e2:decide ((s.length:Int)>32) = !decide (s.length≤32):=by rw [Bool.eq_iff_iff]; simp only [decide_eq_true_eq,Bool.not_eq_true',decide_eq_false_iff_not]; omega
 rw [e1,e2]
 cases decide (1≤s.length) with
 | false=>rfl
 | true =>
  cases decide (s.length≤32) with
  | false=>rfl
  | true =>
   refine ac_ rfl ?_
   exact be_ (qq_ s h) (fun _=>rfl) rfl
abbrev cG_ (name:Str) (u:api_User):Bool:=u.Name_==name
def gu_ (l:List api_User) (name:Str):api_User × Bool:=match l.find? (cG_ name) with
 | some u=>(u,true)
 | none=>(api_User.mk [] [] [],false)
theorem jB_ (l:List api_User) (name:Str) (h:l.length≤1000):hw_ l name=some (at_ (cG_ name) l):=by
 rw [← jb_]
 refine be_ (aY_ l _ (bT_ (by omega)) (fun i hi => ?_) ?_) (fun _=>rfl) rfl
 ·unfold l3_
  rw [ap_ hi,bm_ hi,as_ (by omega)]
  simp only [cond_true,Option.bind_some]
  unfold cG_
  cases l[i].Name_==name <;> rfl
 ·unfold l3_; rw [br_]; rfl
def fZ_ (l:List api_User):Prop:=∀ u∈l,u.Members_.length≤1000
theorem ub_ (l:List api_User) (name:Str) (h:l.length≤1000):kz_ l name=some (gu_ l name):=by
 unfold kz_ gu_
 refine aa_ (jB_ l name h) ?_
 rw [jS_]
 cases hf:l.find? (cG_ name) with
 | none=>rfl
 | some u =>
  refine ac_ rfl ?_
  refine aa_ ((mH_ (cG_ name) l (by rw [hf]; rfl)).trans hf) rfl
theorem user_find_eq (l:List api_User) (name:Str) (h:l.length≤1000) (hm:fZ_ l):jL_ l name=some (gu_ l name):=by
 have e:gu_ l name=((l.find? (cG_ name)).map fun u=>(u,true)).getD (api_User.mk [] [] [],false):=by
  unfold gu_; cases l.find? (cG_ name) <;> rfl
 rw [e,← jR_ _ _ 0]
 refine be_ (aY_ l _ (bT_ (by omega)) (fun i hi => ?_) ?_) (fun _=>rfl) rfl
 ·unfold fQ_
  rw [ap_ hi,bm_ hi,as_ (by omega)]
  simp only [cond_true,Option.bind_some]
  unfold cG_
  cases l[i].Name_==name with
  | false=>rfl
  | true =>
   refine ag_ rfl ?_
   refine aa_ (clone_texts (hm _ (List.getElem_mem hi))) rfl
 ·unfold fQ_; rw [br_]; rfl
theorem pL_ (l:List api_User) (name:Str) (hm:fZ_ l):(gu_ l name).1.Members_.length≤1000:=by
 unfold gu_
 cases hf:l.find? (cG_ name) with
 | none=>exact Nat.zero_le _
 | some u=>exact hm u (List.mem_of_find?_eq_some hf)
def hasM (l:List Str) (s:Str):Bool:=l.any fun m=>m==s
def eT_ (l:List api_User) (user group:Str):Bool:=user==group||hasM (gu_ l group).1.Members_ user
theorem index_texts (l:List Str) (s:Str) (h:l.length≤1000):dI_ l s=some (at_ (fun m=>m==s) l):=by
 rw [← jb_]
 refine be_ (aY_ l _ (bT_ (by omega)) (fun i hi => ?_) ?_) (fun _=>rfl) rfl
 ·unfold cX_
  rw [ap_ hi,bm_ hi,as_ (by omega)]
  simp only [cond_true,Option.bind_some]
  have e:(s==l[i])=(l[i]==s):=by rw [Bool.eq_iff_iff,beq_iff_eq,beq_iff_eq]; exact ⟨Eq.symm,Eq.symm⟩
  rw [e]
  cases l[i]==s <;> rfl
 ·unfold cX_; rw [br_]; rfl
theorem at_any {α : Type} (p : α → Bool) (l:List α):decide (at_ p l≥0)=l.any p:=by
 have h:=jS_ p l
 have e:l.any p=(l.find? p).isSome:=by
  rw [Bool.eq_iff_iff,List.find?_isSome,List.any_eq_true]
 rw [e]
 have:decide (at_ p l≥0) = !decide (at_ p l<0):=by rw [Bool.eq_iff_iff]; simp
 rw [this,h]
 cases l.find? p <;> rfl
theorem sY_ (l:List Str) (s:Str) (h:l.length≤1000):bz_ l s=some (hasM l s):=by
 unfold bz_ hasM
 refine aa_ (index_texts l s h) ?_
 rw [at_any]
theorem sZ_ (l:List api_User) (user group:Str) (h:l.length≤1000) (hm:fZ_ l):fh_ l user group=some (eT_ l user group):=by
 unfold fh_ eT_
 cases user==group with
 | true=>rfl
 | false =>
  refine ac_ rfl ?_
  refine aa_ (user_find_eq l group h hm) ?_
  have hs:=pL_ l group hm
  have hz:(gu_ l group).2=false→(gu_ l group).1.Members_=[]:=by
   unfold gu_; cases l.find? (cG_ group) with
   | none=>exact fun _=>rfl
   | some u=>exact fun h=>nomatch h
  cases h2:(gu_ l group).2 with
  | true=>exact aa_ (ag_ rfl (aa_ (sY_ _ user hs) rfl)) rfl
  | false=>rw [hz h2]; exact aa_ (a:=false) rfl rfl
theorem rV_ (l:List api_User) (user group:Str) (h:l.length≤1000) (hm:fZ_ l):ii_ l user group=some (eT_ l user group):=by
 unfold ii_ eT_
 cases user==group with
 | true=>rfl
 | false =>
  refine ac_ rfl ?_
  refine aa_ (ub_ l group h) ?_
  have hs:=pL_ l group hm
  generalize gu_ l group=q at hs
  have e:(false||hasM q.1.Members_ user)=((q.1.Members_.find? fun m=>m==user).map fun _=>true).getD false:=by
   unfold hasM
   rw [Bool.false_or,Bool.eq_iff_iff,List.any_eq_true]
   cases hf:q.1.Members_.find? fun m=>m==user with
   | none =>
    rw [List.find?_eq_none] at hf
    simp only [Option.map_none,Option.getD_none]
    exact ⟨fun ⟨x,h1,h2⟩=>absurd h2 (hf x h1),fun h=>nomatch h⟩
   | some x=>exact ⟨fun _=>rfl,fun _=>⟨x,List.mem_of_find?_eq_some hf,by simpa using List.find?_some hf⟩⟩
  rw [e,← jR_ _ _ 0]
  refine be_ (aY_ _ _ (bT_ (by omega)) (fun i hi => ?_) ?_) (fun _=>rfl) rfl
  ·unfold ih_
   rw [ap_ hi,bm_ hi,as_ (by omega)]
   simp only [cond_true,Option.bind_some]
   cases q.1.Members_[i]==user <;> rfl
  ·unfold ih_; rw [br_]; rfl
theorem eqS_iff (x y:Str):eqS x y=true↔x=y:=beq_iff_eq
def Cnt (ks:List Str) (vs:List Int) (l:List api_User):Prop:=ks.length=vs.length∧∀ n,aB_ eqS ks vs n 0=((l.countP (cG_ n):Nat):Int)
theorem Cnt.put {ks:List Str} {vs:List Int} {l:List api_User} {u:api_User} (h:Cnt ks vs l) (hl:l.length≤1000):Cnt (aK_ eqS ks u.Name_) (aZ_ eqS ks vs u.Name_ (w64 (aB_ eqS ks vs u.Name_ 0+1))) (l++[u]):=by
 refine ⟨nx_ h.1,fun n => ?_⟩
 have hc:=List.countP_le_length (p:=cG_ u.Name_) (l:=l)
 rw [ny_ eqS_iff h.1,h.2 u.Name_,h.2 n,as_ (by omega),List.countP_append]
 have e:List.countP (cG_ n) [u]=if u.Name_==n then 1 else 0:=by simp [List.countP_cons,cG_]
 rw [e]
 have e2:eqS n u.Name_=(u.Name_==n):=by unfold eqS; rw [Bool.eq_iff_iff,beq_iff_eq,beq_iff_eq]; exact ⟨Eq.symm,Eq.symm⟩
 rw [e2]
 cases hn:u.Name_==n with
 | true=>obtain rfl:=beq_iff_eq.1 hn; rfl
 | false=>rfl
def dp_ (l:List api_User) (n:Str):Bool:=l.any (cG_ n)
def gM (l:List api_User) (ms:List Str) (k:Nat) (m:Str):Option Int:=if !(dp_ l m)||(decide (0<k) && !(Op.bytesLess (ms.getD (k - 1) []) m)) then some 26 else none
def memE (l:List api_User) (ms:List Str):Int:=(aE_ (gM l ms) 0 ms).getD 0
def gC (l:List api_User) (i:Nat) (u:api_User):Option Int :=
 if !(vU u.Name_) then some 25 else if (l.take i).any (cG_ u.Name_) then some 7 else if !(u.Leader_==[]) && !(dp_ l u.Leader_) then some 26 else if memE l u.Members_ != 0 then some (memE l u.Members_) else none
def jU_ (l:List api_User):Int:=if l.length>64 then 22 else (aE_ (gC l) 0 l).getD 0
def mM_ (l:List api_User):Prop:=∀ u∈l,u.Name_.length≤9223372036854775807
theorem any_find {α : Type} (p : α → Bool) (l:List α):l.any p = !((l.find? p).isNone):=by
 rw [Bool.eq_iff_iff,List.any_eq_true]
 cases hf:l.find? p with
 | none =>
  rw [List.find?_eq_none] at hf
  exact ⟨fun ⟨x,h1,h2⟩=>absurd h2 (hf x h1),fun h=>nomatch h⟩
 | some x=>exact ⟨fun _=>rfl,fun _=>⟨x,List.mem_of_find?_eq_some hf,by simpa using List.find?_some hf⟩⟩
theorem at_absent (l:List api_User) (n:Str):decide (at_ (cG_ n) l<0) = !(dp_ l n):=by
 unfold dp_
 rw [jS_,any_find,Bool.not_not]
theorem at_before (l:List api_User) (i:Nat) (hi:i<l.length):decide (at_ (cG_ l[i].Name_) l<(i:Int))=(l.take i).any (cG_ l[i].Name_):=by
 rw [Bool.eq_iff_iff,decide_eq_true_eq,List.any_eq_true]
 rcases jc_ (cG_ l[i].Name_) l with ⟨h1,_⟩ | ⟨j,x,h1,h2,h3,h4,h5⟩
 ·rw [List.find?_eq_none] at h1
  exact absurd (beq_self_eq_true l[i].Name_) (h1 _ (List.getElem_mem hi))
 ·rw [h2]
  constructor
  ·intro h
   have hj:j<i:=by omega
   refine ⟨x,?_,h4⟩
   rw [List.mem_take_iff_getElem]
   have hlt:=(List.getElem?_eq_some_iff.1 h3).1
   exact ⟨j,by omega,(List.getElem?_eq_some_iff.1 h3).2⟩
  ·rintro ⟨y,hy,hp⟩
   rw [List.mem_take_iff_getElem] at hy
   obtain ⟨q,hq,rfl⟩:=hy
   rcases Nat.lt_or_ge q j with h | h
   ·have:=h5 q _ h (List.getElem?_eq_getElem (by omega))
    rw [hp] at this
    cases this
   ·omega
theorem uc_ (l:List api_User) (u:api_User) (h:l.length≤1000) (hu:u.Members_.length≤1000):aj_ (ey_ u l) BIG 0=some (cL_ (aE_ (gM l u.Members_) 0 u.Members_)):=by
 refine aY_ _ _ (bT_ (by omega)) (fun i hi => ?_) ?_
 ·unfold ey_
  rw [ap_ hi,bm_ hi,as_ (by omega)]
  simp only [cond_true,Option.bind_some]
  refine aa_ (jB_ l _ h) ?_
  rw [at_absent]
  unfold gM
  cases hp:dp_ l u.Members_[i] with
  | false=>rfl
  | true =>
   rcases Nat.eq_zero_or_pos i with rfl | h0
   ·rfl
   ·have e:decide ((i:Int)>0)=true:=by simpa using h0
    have e2:decide (0<i)=true:=by simpa using h0
    rw [e,e2,hF_ [] h0 hi (by omega)]
    simp only [Bool.not_true,cond_false,cond_true,Option.bind_some,Bool.false_or,Bool.true_and]
    cases Op.bytesLess (u.Members_.getD (i - 1) []) u.Members_[i] <;> rfl
 ·unfold ey_; rw [br_]; rfl
theorem ref05_one (l:List api_User) (i:Nat) (hi:i<l.length) (h:l.length≤1000) (hm:fZ_ l) (hs:mM_ l):gc_ l (i:Int)=some ((gC l i l[i]).getD 0):=by
 unfold gc_ gC
 rw [ap_ hi]
 refine aa_ rfl (aa_ (jA_ _ (hs _ (List.getElem_mem hi))) ?_)
 cases hv:vU l[i].Name_ with
 | false=>rfl
 | true =>
  refine ac_ rfl (aa_ (jB_ l _ h) ?_)
  rw [at_before l i hi]
  cases hb:(l.take i).any (cG_ l[i].Name_) with
  | true=>rfl
  | false =>
   refine ac_ rfl ?_
   have e:Option.bind (bif (!(l[i].Leader_==[])) then Option.bind (hw_ l l[i].Leader_) fun (y4:Int)=>some (decide (y4<0)) else some false)=Option.bind (some (!(l[i].Leader_==[]) && !(dp_ l l[i].Leader_)):Option Bool) (β := Int):=by
    congr 1
    cases l[i].Leader_==[] with
    | true=>rfl
    | false =>
     refine ag_ rfl (aa_ (jB_ l _ h) ?_)
     rw [at_absent]; rfl
   rw [e]
   refine aa_ rfl ?_
   cases hl : !(l[i].Leader_==[]) && !(dp_ l l[i].Leader_) with
   | true=>rfl
   | false =>
    refine ac_ rfl ?_
    refine (be_ (uc_ l l[i] h (hm _ (List.getElem_mem hi))) (fun _=>rfl) rfl).trans ?_
    show some (memE l l[i].Members_)=_
    cases hz:memE l l[i].Members_ != 0 with
    | true=>simp
    | false=>simp; simpa using hz
theorem gC_ne (l:List api_User) (i:Nat) (u:api_User):(if (gC l i u).getD 0 != 0 then some ((gC l i u).getD 0) else none)=gC l i u:=by
 unfold gC
 split
 ·rfl
 ·split
  ·rfl
  ·split
   ·rfl
   ·split
    ·rename_i h; simpa using h
    ·rfl
theorem s0_ (l:List api_User) (h:l.length≤1000) (hm:fZ_ l) (hs:mM_ l):jn_ l=some (jU_ l):=by
 unfold jn_ jU_
 by_cases hl:l.length>64
 ·rw [if_pos hl]
  exact ag_ (by simp; omega) rfl
 ·rw [if_neg hl]
  refine ac_ (by simp; omega) ?_
  refine be_ (aY_ l _ (bT_ (by omega)) (fun i hi => ?_) ?_) (fun _=>rfl) rfl
  ·unfold iX_
   rw [bm_ hi,as_ (by omega)]
   refine ag_ rfl (aa_ (ref05_one l i hi h hm hs) ?_)
   rw [← gC_ne l i l[i]]
   cases hz:(gC l i l[i]).getD 0 != 0 with
   | true=>simp [hz,stepO]
   | false=>simp [stepO]
  ·unfold iX_; rw [br_]; rfl
theorem px_ (l:List api_User) (ms:List Str) (ks:List Str) (vs:List Int) (hc:Cnt ks vs l) (hu:ms.length≤1000):h9_ (ks,vs) ms=some (memE l ms,ks,vs):=by
 have hz:∀ n,(aB_ eqS ks vs n 0==0) = !(dp_ l n):=fun n=>by
  rw [hc.2 n]
  unfold dp_
  rw [Bool.eq_iff_iff,beq_iff_eq,Bool.not_eq_true',List.any_eq_false]
  have:((l.countP (cG_ n):Nat):Int)=0↔l.countP (cG_ n)=0:=by omega
  rw [this,List.countP_eq_zero]
 have hl:aj_ (fy_ ms (ks,vs)) BIG 0=some (cL_ ((aE_ (gM l ms) 0 ms).map fun e=>(e,ks,vs))):=by
  have hmap:∀ (k:Nat) (q:List Str),(aE_ (gM l ms) k q).map (fun e=>(e,ks,vs))=aE_ (fun i m=>(gM l ms i m).map fun e=>(e,ks,vs)) k q:=by
   intro k q
   induction q generalizing k with
   | nil=>rfl
   | cons a q ih =>
    simp only [aE_]
    cases gM l ms k a with
    | some r=>rfl
    | none=>exact ih (k+1)
  rw [hmap]
  refine aY_ _ _ (bT_ (by omega)) (fun i hi => ?_) ?_
  ·unfold fy_
   rw [ap_ hi,bm_ hi,as_ (by omega)]
   simp only [cond_true,Option.bind_some]
   rw [hz]
   unfold gM
   cases hp:dp_ l ms[i] with
   | false=>rfl
   | true =>
    rcases Nat.eq_zero_or_pos i with rfl | h0
    ·rfl
    ·have e:decide ((i:Int)>0)=true:=by simpa using h0
     have e2:decide (0<i)=true:=by simpa using h0
     rw [e,e2,hF_ [] h0 hi (by omega)]
     simp only [Bool.not_true,cond_false,cond_true,Option.bind_some,Bool.false_or,Bool.true_and]
     cases Op.bytesLess (ms.getD (i - 1) []) ms[i] <;> rfl
  ·unfold fy_; rw [br_]; rfl
 unfold h9_ memE
 rw [hl]
 cases aE_ (gM l ms) 0 ms <;> rfl
theorem qs_ (l:List api_User) (h:l.length≤1000):∃ ks vs,aj_ (g3_ l) BIG (0,([]:List Str),([]:List Int))=some (ks,vs)∧Cnt ks vs l:=by
 let f:List Str × List Int→Nat→api_User→List Str × List Int:=fun s _ u=>(aK_ eqS s.1 u.Name_,aZ_ eqS s.1 s.2 u.Name_ (w64 (aB_ eqS s.1 s.2 u.Name_ 0+1)))
 have key:∀ (i:Nat) (q:List api_User) (s:List Str × List Int) (p:List api_User),p.length+q.length≤1000→Cnt s.1 s.2 p→Cnt (d3_ f s i q).1 (d3_ f s i q).2 (p++q):=by
  intro i q
  induction q generalizing i with
  | nil=>intro s p _ hc; simpa [d3_] using hc
  | cons u q ih =>
   intro s p hl hc
   simp only [List.length_cons] at hl
   have:=ih (i+1) (f s i u) (p++[u]) (by simp; omega) (hc.put (by omega))
   simpa [d3_] using this
 refine ⟨(d3_ f ([],[]) 0 l).1,(d3_ f ([],[]) 0 l).2,?_,by simpa using key 0 l ([],[]) [] (by simpa using h) ⟨rfl,fun n=>rfl⟩⟩
 refine nw_ (τ := Int × List Str × List Int) l f (fun i s=>((i:Int),s.1,s.2)) (fun _ _=>True) (fun s=>(s.1,s.2)) ([],[]) (bT_ (by omega)) trivial (fun i s hi _=>⟨?_,trivial⟩) (fun s _ => ?_)
 ·unfold g3_
  simp only
  rw [bm_ hi,ap_ hi,as_ (by omega)]
  rfl
 ·unfold g3_
  simp only
  rw [br_]
  rfl
theorem ud_ (l:List api_User) (h:l.length≤1000) (hm:fZ_ l) (hs:mM_ l):gi_ l=some (jU_ l):=by
 unfold gi_ jU_
 by_cases hl:l.length>64
 ·rw [if_pos hl]
  exact ag_ (by simp; omega) rfl
 ·rw [if_neg hl]
  refine ac_ (by simp; omega) ?_
  obtain ⟨ka,va,h1,hca⟩:=qs_ l h
  refine aa_ h1 ?_
  refine be_ (o:=aE_ (gC l) 0 l) ?_ (fun _=>rfl) rfl
  refine fX_ (body:=fa_ l) (J:=fun i t b=>∃ ks vs,t=((i:Int),ka,va,ks,vs)∧Cnt ks vs (l.take i)∧b=cL_ (aE_ (gC l) i (l.drop i))) l.length (bT_ (by omega)) (fun t b hJ => ?_) (fun i t b hi hJ => ?_) ⟨[],[],rfl,⟨rfl,fun n=>by simp [aB_]⟩,by simp⟩
  ·obtain ⟨ks,vs,rfl,_,rfl⟩:=hJ
   unfold fa_
   simp only
   rw [br_]
   simp [aE_,cL_]
  ·obtain ⟨ks,vs,rfl,hc,rfl⟩:=hJ
   have hmem:=List.getElem_mem hi
   have hput:=hc.put (u:=l[i]) (by rw [List.length_take]; omega)
   rw [← ho_ hi] at hput
   rw [List.drop_eq_getElem_cons hi]
   have hpos:decide (aB_ eqS ks vs l[i].Name_ 0>0)=(l.take i).any (cG_ l[i].Name_):=by
    rw [hc.2 l[i].Name_,Bool.eq_iff_iff,decide_eq_true_eq,List.any_eq_true]
    have:((List.countP (cG_ l[i].Name_) (l.take i):Nat):Int)>0↔0<List.countP (cG_ l[i].Name_) (l.take i):=by omega
    rw [this,List.countP_pos_iff]
   have hlead:Option.bind (bif (!(l[i].Leader_==[])) then some ((aB_ eqS ka va l[i].Leader_ 0)==0) else some false)=Option.bind (some (!(l[i].Leader_==[]) && !(dp_ l l[i].Leader_)):Option Bool) (β := Step (Int × (List Str) × (List Int) × (List Str) × (List Int)) (Out Unit Int)):=by
    congr 1
    cases l[i].Leader_==[] with
    | true=>rfl
    | false =>
     have:(aB_ eqS ka va l[i].Leader_ 0==0) = !(dp_ l l[i].Leader_):=by
      rw [hca.2 l[i].Leader_]
      unfold dp_
      rw [Bool.eq_iff_iff,beq_iff_eq,Bool.not_eq_true',List.any_eq_false]
      have:((l.countP (cG_ l[i].Leader_):Nat):Int)=0↔l.countP (cG_ l[i].Leader_)=0:=by omega
      rw [this,List.countP_eq_zero]
     rw [this]; rfl
   have hbody:fa_ l ((i:Int),ka,va,ks,vs)=some (match gC l i l[i] with | some r => .done (.ret r) | none => .next (((i+1:Nat):Int),ka,va,aK_ eqS ks l[i].Name_,aZ_ eqS ks vs l[i].Name_ (w64 (aB_ eqS ks vs l[i].Name_ 0+1)))):=by
    unfold fa_ gC
    simp only
    rw [bm_ hi,ap_ hi]
    refine ag_ rfl (aa_ rfl (aa_ (nD_ _ (hs _ hmem)) ?_))
    cases vU l[i].Name_ with
    | false=>rfl
    | true =>
     refine ac_ rfl ?_
     rw [hpos]
     cases (l.take i).any (cG_ l[i].Name_) with
     | true=>rfl
     | false =>
      refine ac_ rfl ?_
      rw [hlead]
      refine aa_ rfl ?_
      cases !(l[i].Leader_==[]) && !(dp_ l l[i].Leader_) with
      | true=>rfl
      | false =>
       refine ac_ rfl (aa_ (px_ l _ ka va hca (hm _ hmem)) ?_)
       simp only
       cases hz:memE l l[i].Members_ != 0 with
       | true=>simp
       | false=>simp only [cond_false]; rw [as_ (by omega)]; rfl
   cases hg:gC l i l[i] with
   | some r =>
    rw [hg] at hbody
    exact .inl (by rw [hbody]; simp [aE_,hg,cL_])
   | none =>
    rw [hg] at hbody
    exact .inr ⟨_,hbody,_,_,rfl,hput,by simp [aE_,hg]⟩
theorem mN_ (x:Int) (k:Nat) (hk:k<63) (h1:x≤9223372036854775807):(decide (x≥0)&&(bP_ .i64 x ((2 ^ k:Nat):Int)) != 0)=aD_ x k:=by
 by_cases h0:0≤x
 ·obtain ⟨n,rfl⟩:∃ n:Nat,x=(n:Int):=⟨x.toNat,by omega⟩
  have hk2:2 ^ k<2 ^ 63:=Nat.pow_lt_pow_right (by omega) hk
  have h0':decide ((n:Int)≥0)=true:=by simp
  have e1:(((n &&& 2 ^ k:Nat):Int) != 0)=(n &&& 2 ^ k != 0):=by
   rw [Bool.eq_iff_iff]; simp only [bne_iff_ne,ne_eq]; omega
  rw [h0',andI_nat (by omega) hk2,e1,bit_and,nz_,tbit]
  rfl
 ·have h0':decide (x≥0)=false:=by simp; omega
  rw [h0',qm_ (by omega)]
  rfl
theorem gW_ (x:Int) (k:Nat) (hk:k<63) (h1:x≤9223372036854775807):ao_ x ((2 ^ k:Nat):Int)=some (aD_ x k):=congrArg some (mN_ x k hk h1)
theorem eU_ (x:Int) (k:Nat) (hk:k<63) (h1:x≤9223372036854775807):dO_ x ((2 ^ k:Nat):Int)=some (aD_ x k):=mI_ x k hk h1
theorem ref06_bit_eq (x:Int) (k:Nat) (hk:k<63) (h1:x≤9223372036854775807):jP_ x ((2 ^ k:Nat):Int)=some (aD_ x k):=mI_ x k hk h1
theorem iB_ (x:Int) (k:Nat) (hk:k<63) (h1:x≤9223372036854775807):dd_ x ((2 ^ k:Nat):Int)=some (aD_ x k):=mI_ x k hk h1
theorem big_succ:BIG=18446744073709551610+6:=rfl
theorem orI_i64 {a b:Nat} (ha:a<2 ^ 63) (hb:b<2 ^ 63):orI .i64 a b=((a ||| b:Nat):Int):=by
 have h1:a ||| b<2 ^ 63:=Nat.or_lt_two_pow ha hb
 show IntKind.i64.wrap (((BitVec.ofInt 64 (a:Int) ||| BitVec.ofInt 64 (b:Int)).toNat:Nat):Int)=_
 rw [BitVec.toNat_or,hS_ (by omega),hS_ (by omega)]
 exact c0_ ⟨by omega,by omega⟩
def grB (n:Nat) (mem own:Bool) (i:Nat):Bool:=(n.testBit i||(n.testBit (i+3)&&mem))||(n.testBit (i+6)&&own)
def allowsN (n:Nat) (mem own:Bool) (w:Nat):Bool:=(!(w.testBit 0)||grB n mem own 0)&&((!(w.testBit 1)||grB n mem own 1)&&(!(w.testBit 2)||grB n mem own 2))
def mO_ (l:List api_User) (user uid gid:Str) (mode want:Int):Bool:=decide (0≤mode)&&(decide (0≤want)&&(decide (want≤7)&&allowsN mode.toNat (eT_ l user gid) (user==uid) want.toNat))
theorem and_self_iff (a w:Nat) (hw:w<8):(a &&& w==w)=((!(w.testBit 0)||a.testBit 0)&&((!(w.testBit 1)||a.testBit 1)&&(!(w.testBit 2)||a.testBit 2))):=by
 rw [Bool.eq_iff_iff,beq_iff_eq]
 constructor
 ·intro h
  have k:∀ i,(!(w.testBit i)||a.testBit i)=true:=fun i=>by
   have:=congrArg (fun q=>q.testBit i) h
   simp only [Nat.testBit_and] at this
   cases hw:w.testBit i <;> cases ha:a.testBit i <;> simp_all
  simp only [k,Bool.and_self]
 ·intro h
  simp only [Bool.and_eq_true] at h
  apply Nat.eq_of_testBit_eq
  intro i
  rw [Nat.testBit_and]
  have k:∀ {x y:Bool},(!x||y)=true→(y&&x)=x:=fun {x y}=>by cases x <;> cases y <;> simp
  match i with
  | 0=>exact k h.1
  | 1=>exact k h.2.1
  | 2=>exact k h.2.2
  | i+3 =>
   have:w.testBit (i+3)=false:=Nat.testBit_lt_two_pow (Nat.lt_of_lt_of_le (by omega:w<2 ^ 3) (Nat.pow_le_pow_right (by omega) (by omega)))
   simp [this]
theorem lj_ (n i:Nat) (hi:i<3):(n % 8).testBit i=n.testBit i:=by
 rw [show (8:Nat)=2 ^ 3 from rfl,Nat.testBit_mod_two_pow]; simp [hi]
theorem granted_bits (n:Nat) (mem own:Bool) (i:Nat) (hi:i<3):((if own then (if mem then n % 8 ||| n / 8 % 8 else n % 8) ||| n / 64 % 8 else (if mem then n % 8 ||| n / 8 % 8 else n % 8)):Nat).testBit i=grB n mem own i:=by
 have h8:(n / 8 % 8).testBit i=n.testBit (i+3):=by rw [lj_ _ _ hi,show (8:Nat)=2 ^ 3 from rfl,Nat.testBit_div_two_pow]
 have h64:(n / 64 % 8).testBit i=n.testBit (i+6):=by rw [lj_ _ _ hi,show (64:Nat)=2 ^ 6 from rfl,Nat.testBit_div_two_pow]
 unfold grB
 cases mem <;> cases own <;> simp [Nat.testBit_or,h8,h64,lj_ _ _ hi]
theorem s1_ (l:List api_User) (user uid gid:Str) (mode want:Int) (h:l.length≤1000) (hm:fZ_ l) (h1:mode≤9223372036854775807):ev_ l user uid gid mode want=some (mO_ l user uid gid mode want):=by
 unfold ev_ mO_
 by_cases h0:0≤mode∧0≤want∧want≤7
 ·obtain ⟨n,rfl⟩:∃ n:Nat,mode=(n:Int):=⟨mode.toNat,by omega⟩
  obtain ⟨w,rfl⟩:∃ w:Nat,want=(w:Int):=⟨want.toNat,by omega⟩
  refine ac_ (by simp; omega) ?_
  rw [sZ_ l user gid h hm]
  have d0:(n:Int).tmod 8=((n % 8:Nat):Int):=rfl
  have d8:(IntKind.i64.wrap ((n:Int).tdiv 8)).tmod 8=((n / 8 % 8:Nat):Int):=by
   rw [show (n:Int).tdiv 8=((n / 8:Nat):Int) from rfl,c0_ ⟨by omega,by omega⟩]; rfl
  have d64:(IntKind.i64.wrap ((n:Int).tdiv 64)).tmod 8=((n / 64 % 8:Nat):Int):=by
   rw [show (n:Int).tdiv 64=((n / 64:Nat):Int) from rfl,c0_ ⟨by omega,by omega⟩]; rfl
  rw [d0,d8,d64]
  generalize eT_ l user gid=mem
  have b1:n % 8<8:=Nat.mod_lt _ (by omega)
  have b2:n / 8 % 8<8:=Nat.mod_lt _ (by omega)
  have b3:n / 64 % 8<8:=Nat.mod_lt _ (by omega)
  have b4:n % 8 ||| n / 8 % 8<2 ^ 3:=Nat.or_lt_two_pow (by omega) (by omega)
  refine aa_ (a:=((if mem then n % 8 ||| n / 8 % 8 else n % 8:Nat):Int)) ?_ ?_
  ·refine aa_ rfl ?_
   cases mem with
   | true=>rw [cond_true,orI_i64 (by omega) (by omega)]; rfl
   | false=>rfl
  ·have b5:(if mem then n % 8 ||| n / 8 % 8 else n % 8:Nat)<2 ^ 3:=by split <;> omega
   have hg:=fun own i hi=>granted_bits n mem own i hi
   generalize (if mem then n % 8 ||| n / 8 % 8 else n % 8:Nat)=q at b5 hg
   have b6:q ||| n / 64 % 8<2 ^ 3:=Nat.or_lt_two_pow b5 (by omega)
   refine aa_ (a:=((if user==uid then q ||| n / 64 % 8 else q:Nat):Int)) ?_ ?_
   ·cases user==uid with
    | true=>rw [cond_true,orI_i64 (by omega) (by omega)]; rfl
    | false=>rfl
   ·have hg':=hg (user==uid)
    have b7:(if user==uid then q ||| n / 64 % 8 else q:Nat)<8:=by split <;> omega
    generalize (if user==uid then q ||| n / 64 % 8 else q:Nat)=g at hg' b7
    rw [andI_nat (by omega) (by omega)]
    have e:(((g &&& w:Nat):Int)==(w:Int))=(g &&& w==w):=by rw [Bool.eq_iff_iff,beq_iff_eq,beq_iff_eq]; omega
    rw [e,and_self_iff g w (by omega),hg' 0 (by omega),hg' 1 (by omega),hg' 2 (by omega)]
    have c1:decide (0≤(n:Int))=true:=by simp
    have c2:decide (0≤(w:Int))=true:=by simp
    have c3:decide ((w:Int)≤7)=true:=by simp; omega
    rw [c1,c2,c3,Int.toNat_natCast,Int.toNat_natCast]
    rfl
 ·refine ag_ (by simp; omega) ?_
  have:(decide (0≤mode)&&(decide (0≤want)&&decide (want≤7)))=false:=by
   cases h5:(decide (0≤mode)&&(decide (0≤want)&&decide (want≤7))) with
   | false=>rfl
   | true=>simp at h5; omega
  congr 1
  revert this
  cases decide (0≤mode) <;> cases decide (0≤want) <;> cases decide (want≤7) <;> simp
theorem ref06_body (l:List api_User) (user uid gid:Str) (n w i:Nat) (hi:i≤2) (h:l.length≤1000) (hm:fZ_ l) (hn:n<2 ^ 63) (hw:w<8) :
  ij_ (n:Int) l user gid uid (w:Int) ((2 ^ i:Nat):Int)=some (if !(w.testBit i)||grB n (eT_ l user gid) (user==uid) i then .next ((2 ^ (i+1):Nat):Int) else .done (.ret false)):=by
 have hp:2 ^ i≤4:=by
  have:2 ^ i≤2 ^ 2:=Nat.pow_le_pow_right (by omega) hi
  omega
 have hp1:=Nat.two_pow_pos i
 have e8:w64 (8*((2 ^ i:Nat):Int))=((2 ^ (i+3):Nat):Int):=by
  rw [Nat.pow_add]; rw [am_ ⟨by omega,by omega⟩]; omega
 have e64:w64 (64*((2 ^ i:Nat):Int))=((2 ^ (i+6):Nat):Int):=by
  rw [Nat.pow_add]; rw [am_ ⟨by omega,by omega⟩]; omega
 have e2:w64 (2*((2 ^ i:Nat):Int))=((2 ^ (i+1):Nat):Int):=by
  rw [Nat.pow_add]; rw [am_ ⟨by omega,by omega⟩]; omega
 have hb:=fun k hk=>ref06_bit_eq (n:Int) k hk (by omega)
 have hq:d4_ .i64 (w:Int) ((2 ^ i:Nat):Int)=some ((w / 2 ^ i:Nat):Int):=by
  unfold d4_
  rw [if_neg (by omega),show (w:Int).tdiv ((2 ^ i:Nat):Int)=((w / 2 ^ i:Nat):Int) from rfl]
  have:=Nat.div_le_self w (2 ^ i)
  generalize w / 2 ^ i=q at this
  rw [c0_ ⟨by omega,by omega⟩]
 have ht:(((w / 2 ^ i:Nat):Int).tmod 2==1)=w.testBit i:=by
  rw [← tbit,show ((w / 2 ^ i:Nat):Int).tmod 2=((w / 2 ^ i % 2:Nat):Int) from rfl,Bool.eq_iff_iff,beq_iff_eq,beq_iff_eq]; omega
 unfold ij_
 rw [e8,e64,e2,hb i (by omega),hb (i+3) (by omega),hb (i+6) (by omega),hq]
 simp only [nz_]
 refine ag_ (by rw [decide_eq_true_eq]; omega) ?_
 rw [rV_ l user gid h hm]
 simp only [Option.bind_some]
 rw [ht]
 unfold grB
 cases n.testBit i <;> cases n.testBit (i+3) <;> cases eT_ l user gid <;> cases n.testBit (i+6) <;> cases user==uid <;> cases w.testBit i <;> rfl
theorem rW_ (l:List api_User) (user uid gid:Str) (mode want:Int) (h:l.length≤1000) (hm:fZ_ l) (h1:mode≤9223372036854775807):ik_ l user uid gid mode want=some (mO_ l user uid gid mode want):=by
 unfold ik_ mO_
 by_cases h0:0≤mode∧0≤want∧want≤7
 ·obtain ⟨n,rfl⟩:∃ n:Nat,mode=(n:Int):=⟨mode.toNat,by omega⟩
  obtain ⟨w,rfl⟩:∃ w:Nat,want=(w:Int):=⟨want.toNat,by omega⟩
  refine ac_ (by simp; omega) ?_
  have c1:decide (0≤(n:Int))=true:=by simp
  have c2:decide (0≤(w:Int))=true:=by simp
  have c3:decide ((w:Int)≤7)=true:=by simp; omega
  rw [c1,c2,c3,Int.toNat_natCast,Int.toNat_natCast]
  have hb:=fun i hi=>ref06_body l user uid gid n w i hi h hm (by omega) (by omega)
  unfold allowsN
  rw [big_succ]
  have b0:=hb 0 (by omega)
  have b1:=hb 1 (by omega)
  have b2:=hb 2 (by omega)
  cases k0:(!(w.testBit 0)||grB n (eT_ l user gid) (user==uid) 0) with
  | false=>rw [k0] at b0; exact aa_ (aO_ b0) rfl
  | true =>
   rw [k0] at b0
   cases k1:(!(w.testBit 1)||grB n (eT_ l user gid) (user==uid) 1) with
   | false=>rw [k1] at b1; exact aa_ (bw_ b0 (aO_ b1)) rfl
   | true =>
    rw [k1] at b1
    cases k2:(!(w.testBit 2)||grB n (eT_ l user gid) (user==uid) 2) with
    | false=>rw [k2] at b2; exact aa_ (bw_ b0 (bw_ b1 (aO_ b2))) rfl
    | true=>rw [k2] at b2; exact aa_ (bw_ b0 (bw_ b1 (bw_ b2 (aO_ rfl)))) rfl
 ·refine ag_ (by simp; omega) ?_
  have:(decide (0≤mode)&&(decide (0≤want)&&decide (want≤7)))=false:=by
   cases h5:(decide (0≤mode)&&(decide (0≤want)&&decide (want≤7))) with
   | false=>rfl
   | true=>simp at h5; omega
  congr 1
  revert this
  cases decide (0≤mode) <;> cases decide (0≤want) <;> cases decide (want≤7) <;> simp
theorem trich:∀ (a b:Str),(Op.bytesLess a b||a==b) = !(Op.bytesLess b a)
 | [],[]=>rfl
 | [],_::_=>rfl
 | _::_,[]=>rfl
 | x::a,y::b=>by
  have ih:=trich a b
  simp only [Op.bytesLess,List.cons_beq_cons]
  rcases Nat.lt_trichotomy x.toNat y.toNat with h | h | h
  ·have h1:decide (x<y)=true:=by simpa [UInt8.lt_iff_toNat_lt] using h
   have h2:decide (y<x)=false:=by simp [UInt8.lt_iff_toNat_lt]; omega
   have h3:(y==x)=false:=by rw [beq_eq_false_iff_ne]; intro e; subst e; omega
   simp [h1,h2,h3]
  ·obtain rfl:x=y:=UInt8.toNat_inj.1 h
   have h1:decide (x<x)=false:=by simp
   simp only [h1,beq_self_eq_true,Bool.true_and,Bool.false_or]
   exact ih
  ·have h1:decide (x<y)=false:=by simp [UInt8.lt_iff_toNat_lt]; omega
   have h2:decide (y<x)=true:=by simpa [UInt8.lt_iff_toNat_lt] using h
   have h3:(x==y)=false:=by rw [beq_eq_false_iff_ne]; intro e; subst e; omega
   simp [h1,h2,h3]
def gQ (l:List api_Quota) (i:Nat) (q:api_Quota):Option Int:=if !(vU q.User_) then some 25 else if decide (0<i) && !(Op.bytesLess (l.getD (i - 1) default).User_ q.User_) then some 2 else
 if decide (q.Files_<0)||decide (q.Files_>9007199254740991)||decide (q.Bytes_<0)||decide (q.Bytes_>9007199254740991) then some 5 else none
def jV_ (l:List api_Quota):Int:=if l.length>64 then 22 else (aE_ (gQ l) 0 l).getD 0
def shortQ (l:List api_Quota):Prop:=∀ q∈l,q.User_.length≤9223372036854775807
theorem s2_ (l:List api_Quota) (h:l.length≤1000) (hs:shortQ l):fg_ l=some (jV_ l):=by
 unfold fg_ jV_
 by_cases hl:l.length>64
 ·rw [if_pos hl]
  exact ag_ (by simp; omega) rfl
 ·rw [if_neg hl]
  refine ac_ (by simp; omega) ?_
  refine be_ (aY_ l _ (bT_ (by omega)) (fun i hi => ?_) ?_) (fun _=>rfl) rfl
  ·unfold i1_ gQ
   rw [bm_ hi,ap_ hi,as_ (by omega)]
   refine ag_ rfl (aa_ rfl (aa_ (nD_ _ (hs _ (List.getElem_mem hi))) ?_))
   cases vU l[i].User_ with
   | false=>rfl
   | true =>
    refine ac_ rfl ?_
    have hmm:(decide ((bJ_ l[i].Files_ l[i].Bytes_)<0)||decide ((cK_ l[i].Files_ l[i].Bytes_)>9007199254740991))=(decide (l[i].Files_<0)||decide (l[i].Files_>9007199254740991)||decide (l[i].Bytes_<0)||decide (l[i].Bytes_>9007199254740991)):=by
     unfold bJ_ cK_
     rw [Bool.eq_iff_iff]
     simp only [Bool.or_eq_true,decide_eq_true_eq]
     constructor
     ·rintro (hh | hh) <;> split at hh <;> omega
     ·intro hh
      split <;> split <;> omega
    rw [hmm]
    rcases Nat.eq_zero_or_pos i with rfl | h0
    ·cases (decide (l[0].Files_<0)||decide (l[0].Files_>9007199254740991)||decide (l[0].Bytes_<0)||decide (l[0].Bytes_>9007199254740991)) <;> rfl
    ·have e:decide ((i:Int)>0)=true:=by simpa using h0
     have e2:decide (0<i)=true:=by simpa using h0
     rw [e,e2,hF_ default h0 hi (by omega)]
     simp only [cond_true,Option.bind_some,Bool.true_and,trich]
     cases Op.bytesLess (l.getD (i - 1) default).User_ l[i].User_ <;> cases (decide (l[i].Files_<0)||decide (l[i].Files_>9007199254740991)||decide (l[i].Bytes_<0)||decide (l[i].Bytes_>9007199254740991)) <;> rfl
  ·unfold i1_; rw [br_]; rfl
theorem s3_ (l:List api_Quota) (h:l.length≤1000) (hs:shortQ l):jo_ l=some (jV_ l):=by
 unfold jo_ jV_
 by_cases hl:l.length>64
 ·rw [if_pos hl]
  exact ag_ (by simp; omega) rfl
 ·rw [if_neg hl]
  refine ac_ (by simp; omega) ?_
  refine be_ (aY_ l _ (bT_ (by omega)) (fun i hi => ?_) ?_) (fun _=>rfl) rfl
  ·unfold iY_ gQ
   rw [bm_ hi,ap_ hi,as_ (by omega)]
   refine ag_ rfl (aa_ rfl (aa_ (jA_ _ (hs _ (List.getElem_mem hi))) ?_))
   cases vU l[i].User_ with
   | false=>rfl
   | true =>
    refine ac_ rfl ?_
    rcases Nat.eq_zero_or_pos i with rfl | h0
    ·cases (decide (l[0].Files_<0)||decide (l[0].Files_>9007199254740991)||decide (l[0].Bytes_<0)||decide (l[0].Bytes_>9007199254740991)) <;> rfl
    ·have e:decide ((i:Int)>0)=true:=by simpa using h0
     have e2:decide (0<i)=true:=by simpa using h0
     rw [e,e2,hF_ default h0 hi (by omega)]
     simp only [cond_true,Option.bind_some,Bool.true_and]
     cases Op.bytesLess (l.getD (i - 1) default).User_ l[i].User_ <;> cases (decide (l[i].Files_<0)||decide (l[i].Files_>9007199254740991)||decide (l[i].Bytes_<0)||decide (l[i].Bytes_>9007199254740991)) <;> rfl
  ·unfold iY_; rw [br_]; rfl
def kP_ (l:List Int):Prop:=l.Pairwise (· < ·)
theorem pM_ {n:api_Node} (h:b4_ n=true):n.Data_.length≤65536:=by
 unfold b4_ at h
 simp only [Bool.and_eq_true,decide_eq_true_eq] at h
 exact h.1.2
theorem at_id {l:List api_Node} {id:Int} (h:(ax_ l id).2=true):∃ i:Nat,at_ (en_ id) l=(i:Int)∧l[i]? = some (ax_ l id).1∧i<l.length:=by
 rcases jc_ (en_ id) l with ⟨h1,_⟩ | ⟨i,x,h1,h2,h3,_⟩
 ·unfold ax_ at h; rw [h1] at h; cases h
 ·refine ⟨i,h2,?_,(List.getElem?_eq_some_iff.1 h3).1⟩
  unfold ax_; rw [h1]; exact h3
theorem at_id_none {l:List api_Node} {id:Int} (h:(ax_ l id).2=false):at_ (en_ id) l = -1:=by
 rcases jc_ (en_ id) l with ⟨_,h2⟩ | ⟨i,x,h1,_⟩
 ·exact h2
 ·unfold ax_ at h; rw [h1] at h; cases h
theorem fdir_eq {l:List api_Node} {next:Int} (h:OkT l next) {n:api_Node} (hn:n∈l):bO_ n.Mode_=some (aD_ n.Mode_ 31):=by
 unfold bO_
 rw [hG_ (fn_ (h.flds n hn))]
def f0_ (dir:Int) (name:Str) (n:api_Node):Bool:=(n.Parent_==dir&&n.Id_ != 1)&&n.Name_==name
def findT (l:List api_Node) (dir:Int) (name:Str):Int × Int:=bif !(ax_ l dir).2 then (0,8) else bif !(aD_ (ax_ l dir).1.Mode_ 31) then (0,9) else bif name==[46,46] then ((ax_ l dir).1.Parent_,0) else
 match l.find? (f0_ dir name) with
 | some c=>(c.Id_,0)
 | none=>(0,8)
theorem child_eq (t:api_Tree) (dir:Int) (name:Str) (h:t.Nodes_.length≤2000):ib_ t dir name=some (at_ (f0_ dir name) t.Nodes_):=by
 unfold ib_
 exact aa_ (oJ_ t _ (f0_ dir name) (fun n=>rfl) h) rfl
theorem tree_Find_eq (t:api_Tree) (dir:Int) (name:Str) (h:OkT t.Nodes_ t.Next_):fR_ t dir name=some (findT t.Nodes_ dir name):=by
 have hl:=h.len
 unfold fR_ findT
 refine aa_ (within_eq t dir h) ?_
 unfold mJ_
 cases h1:(ax_ t.Nodes_ dir).2 with
 | false=>rfl
 | true =>
  cases h2:aD_ (ax_ t.Nodes_ dir).1.Mode_ 31 with
  | false=>rfl
  | true =>
   refine ac_ rfl ?_
   cases name==[46,46] with
   | true=>exact aa_ (cF_ t dir (by omega)) rfl
   | false =>
    refine ac_ rfl (aa_ (child_eq t dir name (by omega)) ?_)
    rw [jS_]
    cases hf:t.Nodes_.find? (f0_ dir name) with
    | none=>rfl
    | some c=>exact ac_ rfl (aa_ ((mH_ _ _ (by rw [hf]; rfl)).trans hf) rfl)
theorem ue_ (t:api_Tree) (dir:Int) (name:Str) (h:OkT t.Nodes_ t.Next_):kA_ t dir name=some (findT t.Nodes_ dir name):=by
 have hl:=h.len
 obtain ⟨r,q,hrq,hr1,_⟩:=h.root
 unfold kA_ findT
 refine aa_ (cl_ t dir (by omega)) ?_
 cases h1:(ax_ t.Nodes_ dir).2 with
 | false=>rfl
 | true =>
  refine ac_ rfl (aa_ (fdir_eq h (c8_ h1).1) ?_)
  cases h2:aD_ (ax_ t.Nodes_ dir).1.Mode_ 31 with
  | false=>rfl
  | true =>
   refine ac_ rfl ?_
   cases name==[46,46] with
   | true=>rfl
   | false =>
    refine ac_ rfl ?_
    have hsc:=nA_ (body:=hf_ t dir name) t.Nodes_ (fun _ n=>if (n.Parent_==dir&&n.Name_==name) then some (n.Id_,(0:Int)) else none) 1 (by rw [hrq]; simp) (bT_ (by omega)) (fun i hi _=>by
     unfold hf_
     rw [bm_ hi,ap_ hi,as_ (by omega)]
     refine ag_ rfl ?_
     simp only [Option.bind_some]
     cases t.Nodes_[i].Parent_==dir <;> cases t.Nodes_[i].Name_==name <;> rfl) (by unfold hf_; rw [br_]; rfl)
    rw [jR_] at hsc
    refine (be_ hsc (fun _=>rfl) rfl).trans ?_
    have hq:(t.Nodes_.drop 1).find? (fun n=>n.Parent_==dir&&n.Name_==name)=t.Nodes_.find? (f0_ dir name):=by
     have hsrt:=h.srt
     rw [hrq] at hsrt ⊢
     obtain ⟨hs1,_⟩:=List.pairwise_cons.1 hsrt
     rw [List.find?_cons]
     have:f0_ dir name r=false:=by unfold f0_; simp [hr1]
     rw [this]
     show q.find? _=q.find? _
     have:∀ (q':List api_Node),(∀ n∈q',r.Id_<n.Id_)→q'.find? (fun n=>n.Parent_==dir&&n.Name_==name)=q'.find? (f0_ dir name):=by
      intro q'
      induction q' with
      | nil=>intro _; rfl
      | cons a q' ih =>
       intro hq
       have ha:=hq a (List.mem_cons_self ..)
       have hne:(a.Id_ != 1)=true:=by rw [bne_iff_ne]; omega
       rw [List.find?_cons,List.find?_cons,ih fun n hn=>hq n (List.mem_cons_of_mem _ hn)]
       unfold f0_
       rw [hne,Bool.and_true]
     exact this q hs1
    rw [hq]
    cases t.Nodes_.find? (f0_ dir name) <;> rfl
def fileT (l:List api_Node) (id:Int):Int:=bif !(ax_ l id).2 then 8 else bif aD_ (ax_ l id).1.Mode_ 31 then 10 else 0
theorem tree_file_eq (t:api_Tree) (id:Int) (h:OkT t.Nodes_ t.Next_):∃ i:Int,hR_ t id=some (i,fileT t.Nodes_ id)∧((fileT t.Nodes_ id != 0)=false→∃ k:Nat,i=(k:Int)∧t.Nodes_[k]? = some (ax_ t.Nodes_ id).1):=by
 have hl:=h.len
 unfold hR_ fileT
 rw [nU_ t id (by omega)]
 cases h1:(ax_ t.Nodes_ id).2 with
 | false =>
  rw [at_id_none h1]
  exact ⟨0,rfl,fun h=>nomatch h⟩
 | true =>
  obtain ⟨i,e1,e2,e3⟩:=at_id h1
  rw [e1]
  cases h2:aD_ (ax_ t.Nodes_ id).1.Mode_ 31 with
  | true =>
   refine ⟨0,aa_ rfl (ac_ (by simp) (aa_ (a:=(ax_ t.Nodes_ id).1) (by rw [dY_,e2]) (aa_ (fm_ _ (jd_ h id)) ?_))),fun h=>nomatch h⟩
   rw [h2]; rfl
  | false =>
   refine ⟨(i:Int),aa_ rfl (ac_ (by simp) (aa_ (a:=(ax_ t.Nodes_ id).1) (by rw [dY_,e2]) (aa_ (fm_ _ (jd_ h id)) ?_))),fun _=>⟨i,rfl,e2⟩⟩
   rw [h2]; rfl
def readT (l:List api_Node) (id offset count:Int):Str × Int:=bif fileT l id != 0 then ([],fileT l id) else bif decide (offset<0)||decide (count<0) then ([],1) else
 (((ax_ l id).1.Data_.drop offset.toNat).take count.toNat,0)
theorem minI_nat (a:Int) (b:Nat) (h:0≤a):bJ_ a (b:Int)=((min a.toNat b:Nat):Int):=by
 unfold bJ_
 split <;> omega
theorem tree_read_eq (t:api_Tree) (id offset count:Int) (h:OkT t.Nodes_ t.Next_):lK_ t id offset count=some (readT t.Nodes_ id offset count):=by
 obtain ⟨i,e1,e2⟩:=tree_file_eq t id h
 unfold lK_ readT
 refine aa_ e1 ?_
 cases hf:fileT t.Nodes_ id != 0 with
 | true=>rfl
 | false =>
  obtain ⟨k,rfl,e3⟩:=e2 hf
  refine ac_ rfl ?_
  by_cases hc:0≤offset∧0≤count
  ·have c:(decide (offset<0)||decide (count<0))=false:=by simp; omega
   rw [c]
   have hd:=pM_ (h.flds _ (List.mem_of_getElem? e3))
   generalize (ax_ t.Nodes_ id).1=n at e3 hd
   refine ac_ rfl (aa_ (a:=n) (by rw [dY_,e3]) ?_)
   rw [minI_nat offset _ hc.1]
   refine aa_ (cc_ (by omega) (by omega) (by omega)) ?_
   rw [Int.toNat_natCast,Int.toNat_natCast,List.take_length,minI_nat count _ hc.2]
   refine aa_ (cc_ (by omega) (by omega) (by omega)) ?_
   rw [Int.toNat_natCast,Int.toNat_zero,List.drop_zero]
   have e:n.Data_.drop (min offset.toNat n.Data_.length)=n.Data_.drop offset.toNat:=by
    rcases Nat.lt_or_ge offset.toNat n.Data_.length with h' | h'
    ·rw [Nat.min_eq_left (by omega)]
    ·rw [Nat.min_eq_right h',List.drop_eq_nil_of_le h',List.drop_eq_nil_of_le (Nat.le_refl _)]
   rw [e]
   have e2:∀ (s:Str),s.take (min count.toNat s.length)=s.take count.toNat:=fun s=>by
    rcases Nat.lt_or_ge count.toNat s.length with h' | h'
    ·rw [Nat.min_eq_left (by omega)]
    ·rw [Nat.min_eq_right h',List.take_of_length_le h',List.take_of_length_le (Nat.le_refl _)]
   rw [e2]
   rfl
  ·have c:(decide (offset<0)||decide (count<0))=true:=by simp; omega
   rw [c]; rfl
structure FileOK (s:api_FileSrv):Prop where
 us:jU_ s.Users_=0
 qs:jV_ s.Quotas_=0
 tr:OkT s.Tree_.Nodes_ s.Tree_.Next_
 srt:kP_ s.Excl_
 exc:∀ x∈s.Excl_,(ax_ s.Tree_.Nodes_ x).2=true∧aD_ (ax_ s.Tree_.Nodes_ x).1.Mode_ 29=true
structure SizeOK (s:api_FileSrv):Prop where
 ul:s.Users_.length≤1000
 um:fZ_ s.Users_
 us:mM_ s.Users_
 ql:s.Quotas_.length≤1000
 qs:shortQ s.Quotas_
 nl:s.Tree_.Nodes_.length≤1024
 el:s.Excl_.length≤500
def NodesB (s:api_FileSrv):Prop:=∀ n∈s.Tree_.Nodes_,n.Mode_≤9223372036854775807∧n.Name_.length≤9223372036854775807
def eo_ (l:List Int) (i:Nat):Int:=(0::l).getD i 0
theorem jW_ {l:List Int} {i:Nat} (h0:0<i) (hi:i≤l.length):l[i - 1]? = some (eo_ l i):=by
 unfold eo_
 obtain ⟨k,rfl⟩:∃ k,i=k+1:=⟨i - 1,by omega⟩
 rw [List.getD_cons_succ,List.getD_eq_getElem?_getD,Nat.add_sub_cancel,List.getElem?_eq_getElem (by omega)]; rfl
theorem sorted_iff {l:List Int}:kP_ l↔∀ i x,0<i→l[i]? = some x→eo_ l i<x:=by
 unfold kP_
 rw [List.pairwise_iff_getElem]
 constructor
 ·intro h i n h0 hn
  obtain ⟨hi,rfl⟩:=List.getElem?_eq_some_iff.1 hn
  have:=jW_ h0 (Nat.le_of_lt hi)
  obtain ⟨_,e⟩:=List.getElem?_eq_some_iff.1 this
  rw [← e]
  exact h _ _ _ _ (by omega)
 ·intro h
  have key:∀ (d i:Nat) (hj:i+d+1<l.length),(l[i]'(by omega))<(l[i+d+1]'hj):=by
   intro d
   induction d with
   | zero =>
    intro i hj
    have:=h (i+1) _ (by omega) (List.getElem?_eq_getElem (by omega))
    have e:=jW_ (l:=l) (i:=i+1) (by omega) (by omega)
    obtain ⟨_,e⟩:=List.getElem?_eq_some_iff.1 e
    rw [← e] at this
    exact this
   | succ d ih =>
    intro i hj
    have h1:=ih i (by omega)
    have:=h (i+d+1+1) _ (by omega) (List.getElem?_eq_getElem (by omega))
    have e:=jW_ (l:=l) (i:=i+d+1+1) (by omega) (by omega)
    obtain ⟨_,e⟩:=List.getElem?_eq_some_iff.1 e
    rw [← e] at this
    simp only [Nat.add_sub_cancel] at this
    exact Int.lt_trans h1 this
  intro i j hi hj hij
  have:=key (j - i - 1) i (by omega)
  simpa [show i+(j - i - 1)+1=j by omega] using this
def eB (t:List api_Node) (l:List Int) (i:Nat) (x:Int):Bool:=((ax_ t x).2&&aD_ (ax_ t x).1.Mode_ 29)&&decide (eo_ l i<x)
def gE (t:List api_Node) (l:List Int) (i:Nat) (x:Int):Option Bool:=if eB t l i x then none else some false
theorem oP_ (s:api_FileSrv) (h:OkT s.Tree_.Nodes_ s.Tree_.Next_) (hl:s.Excl_.length≤1000):aj_ (cZ_ s) BIG (0,0)=some (cL_ (aE_ (gE s.Tree_.Nodes_ s.Excl_) 0 s.Excl_)):=by
 refine fX_ (body:=cZ_ s) (J:=fun i t b=>t=(eo_ s.Excl_ i,(i:Int))∧b=cL_ (aE_ (gE s.Tree_.Nodes_ s.Excl_) i (s.Excl_.drop i))) s.Excl_.length (bT_ (by omega)) (fun t b hJ => ?_) (fun i t b hi hJ => ?_) ⟨rfl,by simp⟩
 ·obtain ⟨rfl,rfl⟩:=hJ
  unfold cZ_
  simp only
  rw [br_]
  simp [aE_,cL_]
 ·obtain ⟨rfl,rfl⟩:=hJ
  rw [List.drop_eq_getElem_cons hi]
  have hp:s.Excl_[i]=eo_ s.Excl_ (i+1):=by
   have:=jW_ (l:=s.Excl_) (i:=i+1) (by omega) (by omega)
   rw [Nat.add_sub_cancel,List.getElem?_eq_getElem hi] at this
   exact Option.some.inj this
  have hbody:cZ_ s (eo_ s.Excl_ i,(i:Int))=some (match gE s.Tree_.Nodes_ s.Excl_ i s.Excl_[i] with | some r => .done (.ret r) | none => .next (eo_ s.Excl_ (i+1),((i+1:Nat):Int))):=by
   unfold cZ_
   simp only
   rw [bm_ hi,ap_ hi,as_ (by omega)]
   refine ag_ rfl (aa_ rfl (aa_ (cF_ _ _ (by have:=h.len; omega)) ?_))
   unfold gE eB
   have e1:decide (s.Excl_[i]≤eo_ s.Excl_ i) = !(decide (eo_ s.Excl_ i<s.Excl_[i])):=by rw [Bool.eq_iff_iff]; simp
   rw [e1,← hp]
   have hc:=gW_ (ax_ s.Tree_.Nodes_ s.Excl_[i]).1.Mode_ 29 (by omega) (jd_ h _)
   simp only [Nat.reducePow,Int.cast_ofNat_Int] at hc
   rw [hc]
   cases (ax_ s.Tree_.Nodes_ s.Excl_[i]).2 <;> cases aD_ (ax_ s.Tree_.Nodes_ s.Excl_[i]).1.Mode_ 29 <;> cases decide (eo_ s.Excl_ i<s.Excl_[i]) <;> rfl
  cases hg:gE s.Tree_.Nodes_ s.Excl_ i s.Excl_[i] with
  | some r =>
   rw [hg] at hbody
   exact .inl (by rw [hbody]; simp [aE_,hg,cL_])
  | none =>
   rw [hg] at hbody
   exact .inr ⟨_,hbody,rfl,by simp [aE_,hg]⟩
theorem qt_ (s:api_FileSrv) (h:OkT s.Tree_.Nodes_ s.Tree_.Next_) (hl:s.Excl_.length≤1000):aj_ (gd_ s) BIG 0=some (cL_ (aE_ (gE s.Tree_.Nodes_ s.Excl_) 0 s.Excl_)):=by
 refine aY_ s.Excl_ _ (bT_ (by omega)) (fun i hi => ?_) ?_
 ·unfold gd_
  rw [bm_ hi,ap_ hi,as_ (by omega)]
  refine ag_ rfl (aa_ rfl (aa_ (cl_ _ _ (by have:=h.len; omega)) ?_))
  unfold gE eB
  have hc:=eU_ (ax_ s.Tree_.Nodes_ s.Excl_[i]).1.Mode_ 29 (by omega) (jd_ h _)
  simp only [Nat.reducePow,Int.cast_ofNat_Int] at hc
  rw [hc]
  simp only [Option.bind_some]
  cases hn:(ax_ s.Tree_.Nodes_ s.Excl_[i]).2 with
  | false=>rfl
  | true =>
   have hge:1≤s.Excl_[i]:=by
    obtain ⟨h1,h2⟩:=c8_ hn
    rw [← h2]; exact h.ge h1
   cases aD_ (ax_ s.Tree_.Nodes_ s.Excl_[i]).1.Mode_ 29 with
   | false=>rfl
   | true =>
    rcases Nat.eq_zero_or_pos i with rfl | h0
    ·have:decide (eo_ s.Excl_ 0<s.Excl_[0])=true:=by
      rw [decide_eq_true_eq]
      show (0:Int)<_
      omega
     rw [this]; rfl
    ·have e0:decide ((i:Int)>0)=true:=by simpa using h0
     have hp:ak_ s.Excl_ (w64 ((i:Int) - 1))=some (eo_ s.Excl_ i):=by
      rw [w_pred h0 (by omega),dY_]; exact jW_ h0 (Nat.le_of_lt hi)
     have e1:decide (eo_ s.Excl_ i≥s.Excl_[i]) = !(decide (eo_ s.Excl_ i<s.Excl_[i])):=by rw [Bool.eq_iff_iff]; simp
     rw [e0,hp]
     simp only [cond_true,Option.bind_some]
     rw [e1]
     cases decide (eo_ s.Excl_ i<s.Excl_[i]) <;> rfl
 ·unfold gd_; rw [br_]; rfl
theorem excl_iff (s:api_FileSrv) (h:OkT s.Tree_.Nodes_ s.Tree_.Next_):(aE_ (gE s.Tree_.Nodes_ s.Excl_) 0 s.Excl_).getD true=true↔kP_ s.Excl_∧∀ x∈s.Excl_,(ax_ s.Tree_.Nodes_ x).2=true∧aD_ (ax_ s.Tree_.Nodes_ x).1.Mode_ 29=true:=by
 rw [nC_ (g:=gE s.Tree_.Nodes_ s.Excl_) (p:=eB s.Tree_.Nodes_ s.Excl_) (fun _ _=>rfl),sorted_iff]
 have ek:∀ i x,eB s.Tree_.Nodes_ s.Excl_ i x=true↔((ax_ s.Tree_.Nodes_ x).2=true∧aD_ (ax_ s.Tree_.Nodes_ x).1.Mode_ 29=true)∧eo_ s.Excl_ i<x:=fun i x=>by
  unfold eB
  simp only [Bool.and_eq_true,decide_eq_true_eq]
 simp only [Nat.zero_add,ek]
 constructor
 ·intro h'
  refine ⟨fun i x _ hx=>(h' i x hx).2,fun x hx => ?_⟩
  obtain ⟨i,hi⟩:=List.mem_iff_getElem?.1 hx
  exact (h' i x hi).1
 ·rintro ⟨h1,h2⟩ i x hx
  have hm:=h2 x (List.mem_iff_getElem?.2 ⟨_,hx⟩)
  refine ⟨hm,?_⟩
  rcases Nat.eq_zero_or_pos i with rfl | h0
  ·obtain ⟨h3,h4⟩:=c8_ hm.1
   have:=h.ge h3
   show (0:Int)<x
   omega
  ·exact h1 i x h0 hx
theorem rZ_ (s:api_FileSrv):FileOK s↔jU_ s.Users_=0∧jV_ s.Quotas_=0∧OkT s.Tree_.Nodes_ s.Tree_.Next_∧kP_ s.Excl_∧∀ x∈s.Excl_,(ax_ s.Tree_.Nodes_ x).2=true∧aD_ (ax_ s.Tree_.Nodes_ x).1.Mode_ 29=true :=
 ⟨fun h=>⟨h.us,h.qs,h.tr,h.srt,h.exc⟩,fun ⟨a,b,c,d,e⟩=>⟨a,b,c,d,e⟩⟩
theorem filesrv_right_iff (s:api_FileSrv) (z:SizeOK s) (hb:NodesB s):∃ b,nP_ s=some b∧(b=true↔FileOK s):=by
 rw [rZ_]
 unfold nP_
 rw [ud_ _ z.ul z.um z.us,s2_ _ z.ql z.qs]
 simp only [Option.bind_some]
 cases hu:jU_ s.Users_ != 0 with
 | true=>exact ⟨false,rfl,fun h=>(nomatch h),fun h=>by rw [h.1] at hu; cases hu⟩
 | false =>
  simp only [cond_false,Option.bind_some]
  cases hq:jV_ s.Quotas_ != 0 with
  | true=>exact ⟨false,rfl,fun h=>(nomatch h),fun h=>by rw [h.2.1] at hq; cases hq⟩
  | false =>
   obtain ⟨b,hb1,hb2⟩:=mL_ s.Tree_ (by have:=z.nl; omega) hb
   rw [hb1]
   cases b with
   | false=>exact ⟨false,rfl,fun h=>(nomatch h),fun h=>hb2.2 h.2.2.1⟩
   | true =>
    have ht:=hb2.1 rfl
    refine ⟨_,ac_ (A:=some false) rfl (be_ (oP_ s ht (by have:=z.el; omega)) (fun _=>rfl) rfl),?_⟩
    rw [excl_iff s ht]
    exact ⟨fun h=>⟨by simpa using hu,by simpa using hq,ht,h⟩,fun h=>h.2.2.2⟩
theorem r0_ (s:api_FileSrv) (z:SizeOK s) (hb:NodesB s):∃ b,jq_ s=some b∧(b=true↔FileOK s):=by
 rw [rZ_]
 unfold jq_
 rw [s0_ _ z.ul z.um z.us,s3_ _ z.ql z.qs]
 simp only [Option.bind_some]
 cases hu:jU_ s.Users_ != 0 with
 | true=>exact ⟨false,rfl,fun h=>(nomatch h),fun h=>by rw [h.1] at hu; cases hu⟩
 | false =>
  simp only [cond_false,Option.bind_some]
  cases hq:jV_ s.Quotas_ != 0 with
  | true=>exact ⟨false,rfl,fun h=>(nomatch h),fun h=>by rw [h.2.1] at hq; cases hq⟩
  | false =>
   obtain ⟨b,hb1,hb2⟩:=iA_ s.Tree_ (by have:=z.nl; omega) hb
   rw [hb1]
   cases b with
   | false=>exact ⟨false,rfl,fun h=>(nomatch h),fun h=>hb2.2 h.2.2.1⟩
   | true =>
    have ht:=hb2.1 rfl
    refine ⟨_,ac_ (A:=some false) rfl (be_ (qt_ s ht (by have:=z.el; omega)) (fun _=>rfl) rfl),?_⟩
    rw [excl_iff s ht]
    exact ⟨fun h=>⟨by simpa using hu,by simpa using hq,ht,h⟩,fun h=>h.2.2.2⟩
abbrev bY_ (s:api_FileSrv) (id:Int):api_Node:=(ax_ s.Tree_.Nodes_ id).1
abbrev isS (s:api_FileSrv) (id:Int):Bool:=(ax_ s.Tree_.Nodes_ id).2
def fileC (s:api_FileSrv) (user:Str) (id:Int):Int:=bif !(vU user) then 25 else bif !(isS s id) then 8 else 0
def dirC (s:api_FileSrv) (user:Str) (id:Int):Int:=bif !(vU user) then 25 else bif !(isS s id) then 8 else bif !(aD_ (bY_ s id).Mode_ 31) then 9 else 0
def mayS (s:api_FileSrv) (user:Str) (n:api_Node) (want:Int):Bool:=mO_ s.Users_ user n.Uid_ n.Gid_ n.Mode_ want
theorem nl2 {s:api_FileSrv} (z:SizeOK s):s.Tree_.Nodes_.length≤2000:=by have:=z.nl; omega
theorem hT_ {s:api_FileSrv} (f:FileOK s) (id:Int):(bY_ s id).Mode_≤9223372036854775807:=jd_ f.tr id
theorem has_c (x:Int) (h1:x≤9223372036854775807):ao_ x 2147483648=some (aD_ x 31)∧ao_ x 1073741824=some (aD_ x 30)∧ao_ x 536870912=some (aD_ x 29)∧ao_ x 64=some (aD_ x 6) :=
 ⟨gW_ x 31 (by omega) h1,gW_ x 30 (by omega) h1,gW_ x 29 (by omega) h1,gW_ x 6 (by omega) h1⟩
theorem has_r (x:Int) (h1:x≤9223372036854775807):dO_ x 2147483648=some (aD_ x 31)∧dO_ x 1073741824=some (aD_ x 30)∧dO_ x 536870912=some (aD_ x 29)∧dO_ x 64=some (aD_ x 6)∧dO_ x 16=some (aD_ x 4) :=
 ⟨eU_ x 31 (by omega) h1,eU_ x 30 (by omega) h1,eU_ x 29 (by omega) h1,eU_ x 6 (by omega) h1,eU_ x 4 (by omega) h1⟩
theorem file_eq {s:api_FileSrv} (z:SizeOK s) (user:Str) (id:Int) (hu:user.length≤9223372036854775807):∃ n,da_ s user id=some (n,fileC s user id)∧(fileC s user id=0→n=bY_ s id):=by
 unfold da_ fileC isS
 rw [nD_ _ hu,cF_ _ _ (nl2 z)]
 cases vU user with
 | false=>exact ⟨_,rfl,fun h=>by cases h⟩
 | true =>
  simp only [Option.bind_some,Bool.not_true,cond_false]
  cases (ax_ s.Tree_.Nodes_ id).2 with
  | false=>exact ⟨_,rfl,fun h=>by cases h⟩
  | true=>exact ⟨_,rfl,fun _=>rfl⟩
theorem directory_eq {s:api_FileSrv} (f:FileOK s) (z:SizeOK s) (user:Str) (id:Int) (hu:user.length≤9223372036854775807):∃ n,b8_ s user id=some (n,dirC s user id)∧(dirC s user id=0→n=bY_ s id):=by
 obtain ⟨n,e1,e2⟩:=file_eq z user id hu
 unfold b8_ dirC
 rw [e1]
 unfold fileC at e1 e2 ⊢
 cases hv:vU user with
 | false=>exact ⟨n,rfl,fun h=>by cases h⟩
 | true =>
  rw [hv] at e2
  cases hi:isS s id with
  | false=>exact ⟨n,rfl,fun h=>by cases h⟩
  | true =>
   rw [hi] at e2
   obtain rfl:=e2 rfl
   refine ⟨bY_ s id,aa_ rfl (aa_ (a:=bif !(aD_ (bY_ s id).Mode_ 31) then 9 else 0) (aa_ (a := !(aD_ (bY_ s id).Mode_ 31)) (ag_ rfl (aa_ (has_c _ (hT_ f id)).1 rfl)) ?_) rfl),fun _=>rfl⟩
   cases aD_ (bY_ s id).Mode_ 31 <;> rfl
theorem may_eq {s:api_FileSrv} (z:SizeOK s) (user:Str) {n:api_Node} (hn:n.Mode_≤9223372036854775807) (want:Int):c5_ s user n want=some (mayS s user n want):=by
 unfold c5_ mayS
 exact aa_ (s1_ _ _ _ _ _ _ z.ul z.um hn) rfl
theorem ref_may_eq {s:api_FileSrv} (f:FileOK s) (z:SizeOK s) (user:Str) (id want:Int):lM_ s user id want=some (isS s id&&mayS s user (bY_ s id) want):=by
 unfold lM_ mayS isS
 refine aa_ (cl_ _ _ (nl2 z)) ?_
 cases (ax_ s.Tree_.Nodes_ id).2 with
 | false=>rfl
 | true=>exact aa_ (aa_ (rW_ _ _ _ _ _ _ z.ul z.um (jd_ f.tr _)) rfl) rfl
theorem node_mem {s:api_FileSrv} {id:Int} (h:isS s id=true):bY_ s id∈s.Tree_.Nodes_:=(c8_ h).1
def walkS (s:api_FileSrv) (user:Str) (id:Int) (name:Str):Int × Int:=bif dirC s user id != 0 then (0,dirC s user id) else bif !(mayS s user (bY_ s id) 1) then (0,11) else findT s.Tree_.Nodes_ id name
theorem dirC_zero {s:api_FileSrv} {user:Str} {id:Int} (h:(dirC s user id != 0)=false):dirC s user id=0∧vU user=true∧isS s id=true∧aD_ (bY_ s id).Mode_ 31=true:=by
 have h0:dirC s user id=0:=by simpa using h
 refine ⟨h0,?_⟩
 unfold dirC at h0
 cases hv:vU user with
 | false=>rw [hv] at h0; cases h0
 | true =>
  rw [hv] at h0
  cases hi:isS s id with
  | false=>rw [hi] at h0; cases h0
  | true =>
   rw [hi] at h0
   cases hd:aD_ (bY_ s id).Mode_ 31 with
   | false=>rw [hd] at h0; cases h0
   | true=>exact ⟨rfl,rfl,rfl⟩
theorem walk_eq {s:api_FileSrv} (f:FileOK s) (z:SizeOK s) (user:Str) (id:Int) (name:Str) (hu:user.length≤9223372036854775807):dV_ s user id name=some (walkS s user id name):=by
 obtain ⟨n,e1,e2⟩:=directory_eq f z user id hu
 unfold dV_ walkS
 refine aa_ e1 ?_
 cases hc:dirC s user id != 0 with
 | true=>rfl
 | false =>
  obtain rfl:=e2 (dirC_zero hc).1
  refine ac_ rfl (aa_ (may_eq z user (hT_ f _) 1) ?_)
  cases mayS s user (bY_ s id) 1 with
  | false=>rfl
  | true=>exact ac_ rfl (aa_ (tree_Find_eq _ _ _ f.tr) rfl)
theorem ref_walk_eq {s:api_FileSrv} (f:FileOK s) (z:SizeOK s) (user:Str) (id:Int) (name:Str) (hu:user.length≤9223372036854775807):kB_ s user id name=some (walkS s user id name):=by
 unfold kB_ walkS
 refine aa_ (cl_ _ _ (nl2 z)) (aa_ (jA_ _ hu) ?_)
 unfold dirC
 cases vU user with
 | false=>rfl
 | true =>
  refine ac_ rfl ?_
  cases hi:(ax_ s.Tree_.Nodes_ id).2 with
  | false=>unfold isS; rw [hi]; rfl
  | true =>
   have hi':isS s id=true:=hi
   rw [hi']
   refine ac_ rfl (aa_ (has_r _ (hT_ f id)).1 ?_)
   cases hd:aD_ (bY_ s id).Mode_ 31 with
   | false=>rfl
   | true =>
    refine ac_ rfl (aa_ (ref_may_eq f z user id 1) ?_)
    rw [hi',Bool.true_and]
    cases mayS s user (bY_ s id) 1 with
    | false=>rfl
    | true =>
     refine ac_ rfl ?_
     rw [ue_ _ _ _ f.tr]
     unfold findT
     rw [hi]
     have hd':aD_ (ax_ s.Tree_.Nodes_ id).1.Mode_ 31=true:=hd
     rw [hd']
     simp only [Bool.not_true,cond_false]
     cases name==[46,46] with
     | true=>rfl
     | false =>
      simp only [cond_false]
      cases s.Tree_.Nodes_.find? (f0_ id name) <;> rfl
theorem read_eq {s:api_FileSrv} (f:FileOK s) (id offset count:Int):fW_ s id offset count=some (readT s.Tree_.Nodes_ id offset count):=by
 unfold fW_
 exact aa_ (tree_read_eq _ _ _ _ f.tr) rfl
theorem uf_ {s:api_FileSrv} (f:FileOK s) (z:SizeOK s) (id offset count:Int) (ho:offset≤9223372036854775807):kD_ s id offset count=some (readT s.Tree_.Nodes_ id offset count):=by
 unfold kD_ readT fileT
 refine aa_ (cl_ _ _ (nl2 z)) ?_
 cases hi:(ax_ s.Tree_.Nodes_ id).2 with
 | false=>rfl
 | true =>
  refine ac_ rfl (aa_ (has_r _ (hT_ f id)).1 ?_)
  have hdl:=pM_ (f.tr.flds _ (node_mem hi))
  show (bif aD_ (ax_ s.Tree_.Nodes_ id).1.Mode_ 31 then _ else _)=_
  cases aD_ (ax_ s.Tree_.Nodes_ id).1.Mode_ 31 with
  | true=>rfl
  | false =>
   refine ac_ rfl ?_
   show (bif decide (offset<0)||decide (count<0) then _ else _)=some (bif decide (offset<0)||decide (count<0) then _ else _)
   cases hoc:decide (offset<0)||decide (count<0) with
   | true=>rfl
   | false =>
    simp only [Bool.or_eq_false_iff,decide_eq_false_iff_not] at hoc
    obtain ⟨o,rfl⟩:∃ o:Nat,offset=(o:Int):=⟨offset.toNat,by omega⟩
    obtain ⟨c,rfl⟩:∃ c:Nat,count=(c:Int):=⟨count.toNat,by omega⟩
    simp only [cond_false,Int.toNat_natCast]
    generalize (ax_ s.Tree_.Nodes_ id).1.Data_=D at *
    by_cases h1:D.length≤o
    ·refine ag_ (by simpa using h1) ?_
     rw [List.drop_eq_nil_of_le h1,List.take_nil]
    ·refine ac_ (by simpa using h1) ?_
     have e1:bl_ D (o:Int) (D.length:Int)=some (D.drop o):=by
      rw [cc_ (by omega) (by omega) (by omega)]
      simp
     refine aa_ e1 ?_
     by_cases h2:c<(D.drop o).length
     ·refine aa_ (a:=(D.drop o).take c) (ag_ (by simpa using h2) (aa_ (a:=(D.drop o).take c) ?_ rfl)) rfl
      rw [cc_ (by omega) (by omega) (by omega)]
      simp
     ·refine aa_ (a:=(D.drop o).take c) (ac_ (by simpa using h2) ?_) rfl
      rw [List.take_of_length_le (by omega)]
theorem dr_has (x:Int) (h1:x≤9223372036854775807):cw_ x 2147483648=some (aD_ x 31)∧cw_ x 1073741824=some (aD_ x 30)∧cw_ x 536870912=some (aD_ x 29)∧cw_ x 134217728=some (aD_ x 27) :=
 ⟨congrArg some (mN_ x 31 (by omega) h1),congrArg some (mN_ x 30 (by omega) h1),congrArg some (mN_ x 29 (by omega) h1),congrArg some (mN_ x 27 (by omega) h1)⟩
theorem r11_has (x:Int) (h1:x≤9223372036854775807):dd_ x 2147483648=some (aD_ x 31)∧dd_ x 1073741824=some (aD_ x 30)∧dd_ x 536870912=some (aD_ x 29)∧dd_ x 134217728=some (aD_ x 27) :=
 ⟨iB_ x 31 (by omega) h1,iB_ x 30 (by omega) h1,iB_ x 29 (by omega) h1,iB_ x 27 (by omega) h1⟩
def iC_ (n:api_Node):api_Dir:=(dX_ n 0).getD default
theorem oQ_ (n:api_Node) (h1:n.Mode_≤9223372036854775807):dX_ n 0=some (iC_ n)∧il_ n 0=some (iC_ n):=by
 have key:∃ r,dX_ n 0=some r∧il_ n 0=some r:=by
  unfold dX_ il_ le_
  obtain ⟨a,b,c,d⟩:=dr_has n.Mode_ h1
  obtain ⟨a',b',c',d'⟩:=r11_has n.Mode_ h1
  rw [a,b,c,d,a',b',c',d']
  cases aD_ n.Mode_ 31 <;> cases aD_ n.Mode_ 30 <;> cases aD_ n.Mode_ 29 <;> cases aD_ n.Mode_ 27 <;> exact ⟨_,rfl,rfl⟩
 obtain ⟨r,e1,e2⟩:=key
 have:iC_ n=r:=by unfold iC_; rw [e1]; rfl
 rw [this]
 exact ⟨e1,e2⟩
theorem stat_eq {s:api_FileSrv} (f:FileOK s) (z:SizeOK s) (id:Int):∃ r,dc_ s id=some r∧im_ s id=some r∧(isS s id=true→r.1=iC_ (bY_ s id)):=by
 unfold dc_ im_ isS
 rw [cF_ _ _ (nl2 z),cl_ _ _ (nl2 z)]
 obtain ⟨e1,e2⟩:=oQ_ (bY_ s id) (hT_ f id)
 simp only [Option.bind_some]
 cases hi:(ax_ s.Tree_.Nodes_ id).2 with
 | false=>exact ⟨_,rfl,rfl,fun h=>by cases h⟩
 | true=>exact ⟨_,ac_ rfl (aa_ e1 rfl),ac_ rfl (aa_ e2 rfl),fun _=>rfl⟩
theorem scan_nil {α β : Type}:∀ (k:Nat) (l:List α),aE_ (fun _ _=>(none:Option β)) k l=none
 | _,[]=>rfl
 | k,_::l=>scan_nil (k+1) l
theorem same_loop {α : Type} {body:Int→Option (Step Int (Out Unit Bool))} (l:List α) (hl:l.length≤2000) (hb:∀ i,i<l.length→body (i:Int)=some (.next ((i+1:Nat):Int))) (he:body (l.length:Int)=some (.done (.fall ()))):aj_ body BIG 0=some (.fall ()):=by
 have:=aY_ (body:=body) l (fun _ _=>(none:Option Bool)) (bT_ (by omega)) (fun i hi=>hb i hi) he
 rw [this,scan_nil]; rfl
theorem same_tree13 (t:api_Tree) (hl:t.Nodes_.length≤2000):gp_ t t=some true:=by
 unfold gp_
 refine ac_ (by simp) (aa_ (same_loop t.Nodes_ (by omega) (fun i hi => ?_) ?_) rfl)
 ·unfold gD_
  rw [bm_ hi,ap_ hi,as_ (by omega)]
  simp
 ·unfold gD_; rw [br_]; rfl
end Go.Proofs.YtebokaoegomboaaGreatDoor
namespace Go.Proofs.YtebokaoegomboaaGreatDoor
open Go.Rt Go.RowKit
def leV:Str→Nat
 | []=>0
 | b::r=>b.toNat+256*leV r
theorem leV_lt:∀ (s:Str),leV s<2 ^ (8*s.length)
 | []=>by simp [leV]
 | b::r=>by
  have h:=leV_lt r
  have hb:=b.toNat_lt
  simp only [leV,List.length_cons]
  rw [show 8*(r.length+1)=8*r.length+8 by omega,Nat.pow_add]
  omega
def win (s:Str) (at_ w:Nat):Str:=(s.drop at_).take w
theorem hU_ {s:Str} {at_ w:Nat} (h:at_+w≤s.length):(win s at_ w).length=w:=by simp [win]; omega
theorem nF_ {s:Str} {at_ w j:Nat} (h:at_+w≤s.length) (hj:j<w):(win s at_ w).drop (w - (j+1))=s[at_+(w - 1 - j)]'(by omega)::(win s at_ w).drop (w - j):=by
 have hl:=hU_ h
 rw [List.drop_eq_getElem_cons (by omega:w - (j+1)<(win s at_ w).length)]
 congr 1
 ·simp only [win,List.getElem_take,List.getElem_drop]
  congr 1
  omega
 ·congr 1
  omega
theorem or_byte (a b:Nat) (hb:b<256):(a*256) ||| b=a*256+b:=by
 have:=Nat.shiftLeft_add_eq_or_of_lt (i:=8) (b:=b) (by omega) a
 rw [Nat.shiftLeft_eq] at this
 exact this.symm
theorem get_loop (s:Str) (at_ w:Nat) (h1:1≤w) (h8:w≤8) (h:at_+w≤s.length) (hs:s.length≤9223372036854775807):aj_ (fS_ s (at_:Int)) BIG (0,w64 ((w:Int) - 1))=some (leV (win s at_ w):Int):=by
 have hB:BIG=18446744073709551616:=rfl
 have hw:=aJ_ (body:=fS_ s (at_:Int)) (fun j=>(((leV ((win s at_ w).drop (w - j)):Nat):Int),(w:Int) - 1 - (j:Int))) w (by omega) (b:=(leV (win s at_ w):Int)) (fun j hj => ?_) ?_
 ·have e:(win s at_ w).drop (w - 0)=[]:=List.drop_eq_nil_of_le (by rw [hU_ h]; omega)
  simp only [e,leV] at hw
  rw [am_ ⟨by omega,by omega⟩]
  simpa using hw
 ·unfold fS_
  have hlt:=leV_lt ((win s at_ w).drop (w - j))
  have hdl:((win s at_ w).drop (w - j)).length=j:=by rw [List.length_drop,hU_ h]; omega
  rw [hdl] at hlt
  have hpw:2 ^ (8*j)≤2 ^ 56:=Nat.pow_le_pow_right (by omega) (by omega)
  refine ag_ (by simp; omega) ?_
  have ei:w64 ((at_:Int)+((w:Int) - 1 - (j:Int)))=((at_+(w - 1 - j):Nat):Int):=by
   rw [am_ ⟨by omega,by omega⟩]; omega
  show Option.bind (bQ_ s (w64 ((at_:Int)+((w:Int) - 1 - (j:Int))))) _=_
  rw [ei]
  refine aa_ (i6_ (by omega)) ?_
  rw [nF_ h hj]
  simp only [leV]
  generalize s[at_+(w - 1 - j)]'(by omega)=b
  have hb:=b.toNat_lt
  generalize leV ((win s at_ w).drop (w - j))=v at hlt ⊢
  show some (Step.next (orI .u64 (IntKind.u64.wrap ((v:Int)*2 ^ 8)) (IntKind.u64.wrap (b.toNat:Int)),w64 ((w:Int) - 1 - (j:Int) - 1)))=_
  have e1:IntKind.u64.wrap ((v:Int)*2 ^ 8)=((v*256:Nat):Int):=by rw [wu64]; omega
  have e2:IntKind.u64.wrap (b.toNat:Int)=(b.toNat:Int):=by rw [wu64]; omega
  rw [e1,e2,orI_u64 (by omega) (by omega),or_byte _ _ hb,am_ ⟨by omega,by omega⟩]
  congr 3
  ·omega
  ·omega
 ·unfold fS_
  refine ac_ (by simp; omega) ?_
  simp
theorem get_eq (s:Str) (at_ w:Nat) (h1:1≤w) (h8:w≤8) (h:at_≤s.length) (hs:s.length≤9223372036854775807) :
  jM_ s (at_:Int) (w:Int)=some (if s.length - at_<w then (0,0,3) else if leV (win s at_ w)>9223372036854775807 then (0,0,5) else ((leV (win s at_ w):Int),((at_+w:Nat):Int),0)):=by
 unfold jM_
 refine ac_ (by simp; omega) ?_
 have el:w64 ((s.length:Int) - (at_:Int))=((s.length - at_:Nat):Int):=by rw [am_ ⟨by omega,by omega⟩]; omega
 rw [el]
 by_cases hlt:s.length - at_<w
 ·rw [if_pos hlt]
  exact ag_ (by simp; omega) rfl
 ·rw [if_neg hlt]
  refine ac_ (by simp; omega) ?_
  refine aa_ (get_loop s at_ w h1 h8 (by omega) hs) ?_
  by_cases hv:leV (win s at_ w)>9223372036854775807
  ·rw [if_pos hv]
   exact ag_ (by simp; omega) rfl
  ·rw [if_neg hv]
   refine ac_ (by simp; omega) ?_
   rw [am_ (n:=(leV (win s at_ w):Int)) ⟨by omega,by omega⟩,am_ (n:=(at_:Int)+(w:Int)) ⟨by omega,by omega⟩]
   rfl
theorem win_sub (s:Str) (at_ w:Nat) (h:at_+w≤s.length) (hs:s.length≤9223372036854775807):bl_ s (at_:Int) (w64 ((at_:Int)+(w:Int)))=some (win s at_ w):=by
 rw [am_ ⟨by omega,by omega⟩,cc_ (by omega) (by omega) (by omega)]
 congr 1
 simp only [win,Int.toNat_natCast]
 rw [show ((at_:Int)+(w:Int)).toNat=at_+w by omega,List.drop_take,show at_+w - at_=w by omega]
def takeT (s:Str) (a:Nat):Option (Str × Nat) :=
 if s.length<a+2 then none else if s.length<a+2+leV (win s a 2) then none else some (win s (a+2) (leV (win s a 2)),a+2+leV (win s a 2))
theorem lk_ {s t:Str} {a p:Nat} (h:takeT s a=some (t,p)):p≤s.length∧t.length≤s.length∧a+2≤p:=by
 unfold takeT at h
 split at h
 ·cases h
 ·split at h
  ·cases h
  ·rename_i h1 h2
   simp only [Option.some.injEq,Prod.mk.injEq] at h
   obtain ⟨rfl,rfl⟩:=h
   refine ⟨by omega,?_,by omega⟩
   rw [hU_ (by omega)]; omega
theorem leV_two (s:Str) (a:Nat) (h:a+2≤s.length):leV (win s a 2)<65536:=by
 have:=leV_lt (win s a 2)
 rw [hU_ h] at this
 exact this
theorem gettext_eq (s:Str) (a:Nat) (h:a≤s.length) (hs:s.length≤2000000):g5_ s (a:Int)=some (match takeT s a with | none=>([],0,3) | some (t,p)=>(t,(p:Int),0)):=by
 unfold g5_
 have hg:=get_eq s a 2 (by omega) (by omega) h (by omega)
 rw [show ((2:Nat):Int)=2 from rfl] at hg
 unfold takeT
 by_cases h2:s.length<a+2
 ·rw [if_pos (by omega)] at hg
  rw [if_pos h2]
  refine aa_ hg ?_
  exact ag_ rfl rfl
 ·have hv:=leV_two s a (by omega)
  rw [if_neg (by omega),if_neg (by omega)] at hg
  rw [if_neg h2]
  refine aa_ hg ?_
  refine ac_ rfl ?_
  have ew:w64 ((s.length:Int) - ((a+2:Nat):Int))=((s.length - (a+2):Nat):Int):=by rw [am_ ⟨by omega,by omega⟩]; omega
  have ex:w64 (((a+2:Nat):Int)+(leV (win s a 2):Int))=((a+2+leV (win s a 2):Nat):Int):=by rw [am_ ⟨by omega,by omega⟩]; omega
  by_cases h3:s.length<a+2+leV (win s a 2)
  ·rw [if_pos h3]
   refine ag_ ?_ rfl
   show decide (w64 ((s.length:Int) - ((a+2:Nat):Int))<(leV (win s a 2):Int))=true
   rw [ew]; simp only [decide_eq_true_eq]; omega
  ·rw [if_neg h3]
   refine ac_ ?_ ?_
   ·show decide (w64 ((s.length:Int) - ((a+2:Nat):Int))<(leV (win s a 2):Int))=false
    rw [ew]; simp only [decide_eq_false_iff_not]; omega
   refine aa_ (win_sub s (a+2) (leV (win s a 2)) (by omega) (by omega)) ?_
   show some (_,w64 (((a+2:Nat):Int)+(leV (win s a 2):Int)),(0:Int))=_
   rw [ex]
end Go.Proofs.YtebokaoegomboaaGreatDoor
namespace Go.Proofs.YtebokaoegomboaaGreatDoor
open Go.Rt Go.RowKit
theorem orI_comm (k:IntKind) (a b:Int):orI k a b=orI k b a:=by
 unfold orI
 rw [BitVec.or_comm]
def rot (x:Int) (n:Nat):Int:=orI .u32 (IntKind.u32.wrap (x*2 ^ (32 - n))) (x.fdiv (2 ^ n))
theorem right2 (x:Int):aW_ x 2=some (rot x 2):=by kernel_rfl
theorem right6 (x:Int):aW_ x 6=some (rot x 6):=by kernel_rfl
theorem right7 (x:Int):aW_ x 7=some (rot x 7):=by kernel_rfl
theorem right11 (x:Int):aW_ x 11=some (rot x 11):=by kernel_rfl
theorem right13 (x:Int):aW_ x 13=some (rot x 13):=by kernel_rfl
theorem right17 (x:Int):aW_ x 17=some (rot x 17):=by kernel_rfl
theorem right18 (x:Int):aW_ x 18=some (rot x 18):=by kernel_rfl
theorem right19 (x:Int):aW_ x 19=some (rot x 19):=by kernel_rfl
theorem right22 (x:Int):aW_ x 22=some (rot x 22):=by kernel_rfl
theorem right25 (x:Int):aW_ x 25=some (rot x 25):=by kernel_rfl
theorem ex_ (x:Int) (n:Int) (m:Nat) (h:aN_ x n=some (orI .u32 (x.fdiv (2 ^ m)) (IntKind.u32.wrap (x*2 ^ (32 - m))))):aN_ x n=some (rot x m):=by
 rw [h,orI_comm]
 rfl
theorem rotr2 (x:Int):aN_ x 2=some (rot x 2):=ex_ x 2 2 (by kernel_rfl)
theorem rotr6 (x:Int):aN_ x 6=some (rot x 6):=ex_ x 6 6 (by kernel_rfl)
theorem rotr7 (x:Int):aN_ x 7=some (rot x 7):=ex_ x 7 7 (by kernel_rfl)
theorem rotr11 (x:Int):aN_ x 11=some (rot x 11):=ex_ x 11 11 (by kernel_rfl)
theorem rotr13 (x:Int):aN_ x 13=some (rot x 13):=ex_ x 13 13 (by kernel_rfl)
theorem rotr17 (x:Int):aN_ x 17=some (rot x 17):=ex_ x 17 17 (by kernel_rfl)
theorem rotr18 (x:Int):aN_ x 18=some (rot x 18):=ex_ x 18 18 (by kernel_rfl)
theorem rotr19 (x:Int):aN_ x 19=some (rot x 19):=ex_ x 19 19 (by kernel_rfl)
theorem rotr22 (x:Int):aN_ x 22=some (rot x 22):=ex_ x 22 22 (by kernel_rfl)
theorem rotr25 (x:Int):aN_ x 25=some (rot x 25):=ex_ x 25 25 (by kernel_rfl)
theorem map_nthI (y:List Int):(List.range y.length).map (au_ y)=y:=by
 apply List.ext_getElem?
 intro i
 rw [List.getElem?_map]
 by_cases hi:i<y.length
 ·rw [List.getElem?_range hi,List.getElem?_eq_getElem hi]
  simp [au_,hi]
 ·rw [List.getElem?_eq_none (by simpa using hi),List.getElem?_eq_none (by omega)]
  rfl
theorem l_of64 {y:List Int} (h:y.length=64):(Arr64_int.of y).l=y:=by
 have h1:(Arr64_int.of y).l=(List.range 64).map (au_ y):=rfl
 rw [h1,← h,map_nthI]
theorem je_ {y:List Int} {i:Nat} (h:i<y.length):ak_ y (i:Int)=some (au_ y i):=by
 rw [ap_ h]
 simp [au_,h]
def jC_ (b:Str) (i:Nat):Int:=((b.getD i 0).toNat:Int)
theorem mh_ {b:Str} {i:Nat} (h:i<b.length):bQ_ b (i:Int)=some (jC_ b i):=by
 rw [i6_ h]
 simp [jC_,h]
def wordN (b:Str) (i:Nat):Int:=orI .u32 (orI .u32 (orI .u32 (IntKind.u32.wrap ((IntKind.u32.wrap (jC_ b (4*i)))*2 ^ 24)) (IntKind.u32.wrap ((IntKind.u32.wrap (jC_ b (4*i+1)))*2 ^ 16))) (IntKind.u32.wrap ((IntKind.u32.wrap (jC_ b (4*i+2)))*2 ^ 8))) (IntKind.u32.wrap (jC_ b (4*i+3)))
def wdHi (i:Nat) (l:List Int):Int :=
 (IntKind.u32.wrap ((IntKind.u32.wrap ((IntKind.u32.wrap (au_ l (i - 16)+(bn_ .u32 (bn_ .u32 (rot (au_ l (i - 15)) 7) (rot (au_ l (i - 15)) 18)) ((au_ l (i - 15)).fdiv (2 ^ 3)))))+au_ l (i - 7)))+(bn_ .u32 (bn_ .u32 (rot (au_ l (i - 2)) 17) (rot (au_ l (i - 2)) 19)) ((au_ l (i - 2)).fdiv (2 ^ 10)))))
def wd (b:Str) (i:Nat) (l:List Int):Int:=if i<16 then wordN b i else wdHi i l
theorem wd_hi {b:Str} {i:Nat} {l:List Int} (h:¬ i<16):wd b i l=wdHi i l:=if_neg h
def bk_ (b:Str):Nat→List Int
 | 0=>[]
 | i+1=>bk_ b i++[wd b i (bk_ b i)]
theorem cs_ (b:Str):∀ i,(bk_ b i).length=i
 | 0=>rfl
 | i+1=>by simp [bk_,cs_ b i]
def dD_ (b:Str) (i:Nat):List Int:=bk_ b i++List.replicate (64 - i) 0
theorem nH_ (b:Str) {i:Nat} (h:i≤64):(dD_ b i).length=64:=by
 simp [dD_,cs_]; omega
theorem schedA_nth (b:Str) {i j:Nat} (h:j<i):au_ (dD_ b i) j=au_ (bk_ b i) j:=by
 have:j<(bk_ b i).length:=by rw [cs_]; exact h
 simp only [au_,dD_,List.getD_eq_getElem?_getD]
 rw [List.getElem?_append_left this]
theorem schedA_set (b:Str) {i:Nat} (h:i<64):(dD_ b i).set i (wd b i (bk_ b i))=dD_ b (i+1):=by
 unfold dD_
 have e:64 - i=(64 - (i+1))+1:=by omega
 rw [List.set_append_right _ _ (by rw [cs_]; exact Nat.le_refl _),cs_,Nat.sub_self,e,List.replicate_succ,List.set_cons_zero,bk_,List.append_assoc]
 rfl
theorem word_eq {b:Str} {i:Nat} (hb:b.length=64) (hi:i<16):lI_ ((b.take 64).drop (4*i))=some (wordN b i):=by
 have ht:b.take 64=b:=by rw [← hb]; exact List.take_length
 rw [ht]
 unfold lI_
 have hd:∀ j:Nat,j<4→bQ_ (b.drop (4*i)) (j:Int)=some (jC_ b (4*i+j)):=fun j hj=>by
  rw [mh_ (by rw [List.length_drop]; omega)]
  congr 1
  simp only [jC_,List.getD_eq_getElem?_getD,List.getElem?_drop]
 have h0:=hd 0 (by omega)
 have h1:=hd 1 (by omega)
 have h2:=hd 2 (by omega)
 have h3:=hd 3 (by omega)
 refine aa_ h0 (aa_ h1 (aa_ h2 (aa_ h3 rfl)))
theorem ll_ {n i:Nat} (h:i<n):cz_ n (i:Int)=some ():=by
 unfold cz_
 simp [h]
set_option maxRecDepth 100000 in
theorem schedule_eq {b:Str} (hb:b.length=64):g4_ b=some (Arr64_int.of (bk_ b 64)):=by
 unfold g4_
 refine aa_ (a:=Arr64_int.of (bk_ b 64)) ?_ rfl
 have h64:dD_ b 64=bk_ b 64:=by simp [dD_]
 rw [← h64]
 refine aJ_ (T:=fun i=>((i:Int),Arr64_int.of (dD_ b i))) 64 (by decide) (fun i hi => ?_) ?_
 ·unfold hx_
  have hl:=l_of64 (nH_ b (Nat.le_of_lt hi))
  have hset:setI (Arr64_int.of (dD_ b i)).l (i:Int) (wd b i (bk_ b i))=some (dD_ b (i+1)):=by
   rw [hl]
   unfold setI
   rw [if_pos ⟨by omega,by rw [nH_ b (Nat.le_of_lt hi)]; omega⟩,Int.toNat_natCast,schedA_set b hi]
  refine ag_ (by simp; omega) ?_
  refine aa_ (a:=Arr64_int.of (dD_ b (i+1))) ?_ (by rw [as_ (by omega)])
  by_cases h16:i<16
  ·refine ag_ (by simp; omega) ?_
   have e4:w64 (4*(i:Int))=((4*i:Nat):Int):=by rw [am_ ⟨by omega,by omega⟩]; omega
   refine aa_ (a:=(b.take 64).drop (4*i)) ?_ (aa_ (word_eq hb h16) (aa_ (ll_ hi) (aa_ (a:=dD_ b (i+1)) ?_ rfl)))
   ·rw [e4,cc_ (by omega) (by omega) (by omega),Int.toNat_natCast,Int.toNat_natCast,hb]
   ·have:wd b i (bk_ b i)=wordN b i:=by unfold wd; rw [if_pos h16]
    rw [← this]
    exact hset
  ·refine ac_ (by simp; omega) ?_
   have ek:∀ k:Nat,k≤16→w64 ((i:Int) - (k:Int))=((i - k:Nat):Int):=fun k hk=>by rw [am_ ⟨by omega,by omega⟩]; omega
   have eg:∀ k:Nat,0<k→k≤16→ak_ (Arr64_int.of (dD_ b i)).l (w64 ((i:Int) - (k:Int)))=some (au_ (bk_ b i) (i - k)):=fun k h0 hk=>by
    rw [ek k hk,hl,je_ (by rw [nH_ b (Nat.le_of_lt hi)]; omega),schedA_nth b (by omega)]
   have eb:∀ k:Nat,0<k→k≤16→cz_ 64 (w64 ((i:Int) - (k:Int)))=some ():=fun k h0 hk=>by
    rw [ek k hk]
    exact ll_ (by omega)
   refine aa_ (eb 15 (by omega) (by omega)) (aa_ (eg 15 (by omega) (by omega)) (aa_ (eb 2 (by omega) (by omega)) (aa_ (eg 2 (by omega) (by omega)) (aa_ (right7 _) (aa_ (right18 _) (aa_ (right17 _) (aa_ (right19 _) (aa_ (eb 16 (by omega) (by omega)) (aa_ (eg 16 (by omega) (by omega)) (aa_ (eb 7 (by omega) (by omega)) (aa_ (eg 7 (by omega) (by omega)) (aa_ (ll_ hi) (aa_ (a:=dD_ b (i+1)) ?_ rfl)))))))))))))
   rw [wd_hi h16] at hset
   exact hset
 ·unfold hx_
  exact ac_ (by simp) rfl
theorem room1 {α : Type} {n:Nat} {xs ys:List α} (h:(xs.length+ys.length)*n≤140737488355328) (h2:xs.length+ys.length≤140737488355328):room n xs ys=some (xs++ys):=cr_ (by omega) h
theorem r2_ {b:Str} (hb:b.length=64):gf_ b=some (bk_ b 64):=by
 unfold gf_
 refine aa_ (a:=bk_ b 16) ?_ (aa_ (a:=bk_ b 64) ?_ rfl)
 ·refine aJ_ (T:=fun i=>((i:Int),bk_ b i)) 16 (by decide) (fun i hi => ?_) ?_
  ·unfold gz_
   refine ag_ (by simp; omega) ?_
   have e4:w64 (4*(i:Int))=((4*i:Nat):Int):=by rw [am_ ⟨by omega,by omega⟩]; omega
   have ej:∀ j:Nat,j<4→w64 (w64 (4*(i:Int))+(j:Int))=((4*i+j:Nat):Int):=fun j hj=>by rw [e4,am_ ⟨by omega,by omega⟩]; omega
   have h0:bQ_ b (w64 (4*(i:Int)))=some (jC_ b (4*i)):=by rw [e4]; exact mh_ (by omega)
   have hj:∀ j:Nat,j<4→bQ_ b (w64 (w64 (4*(i:Int))+(j:Int)))=some (jC_ b (4*i+j)):=fun j hj=>by rw [ej j hj]; exact mh_ (by omega)
   refine aa_ h0 (aa_ (hj 1 (by omega)) (aa_ (hj 2 (by omega)) (aa_ (hj 3 (by omega)) (aa_ (a:=bk_ b (i+1)) ?_ (by rw [as_ (by omega)])))))
   rw [room1 (by simp [cs_]; omega) (by simp [cs_]; omega),bk_]
   have:wd b i (bk_ b i)=wordN b i:=by unfold wd; rw [if_pos hi]
   rw [this]
   rfl
  ·unfold gz_
   exact ac_ (by simp) rfl
 ·refine aJ_ (T:=fun k=>(((16+k:Nat):Int),bk_ b (16+k))) 48 (by decide) (fun k hk => ?_) ?_
  ·unfold gA_
   refine ag_ (by simp; omega) ?_
   have ek:∀ j:Nat,j≤16→w64 (((16+k:Nat):Int) - (j:Int))=((16+k - j:Nat):Int):=fun j hj=>by rw [am_ ⟨by omega,by omega⟩]; omega
   have eg:∀ j:Nat,0<j→j≤16→ak_ (bk_ b (16+k)) (w64 (((16+k:Nat):Int) - (j:Int)))=some (au_ (bk_ b (16+k)) (16+k - j)):=fun j h0 hj=>by
    rw [ek j hj,je_ (by rw [cs_]; omega)]
   refine aa_ (eg 15 (by omega) (by omega)) (aa_ (eg 2 (by omega) (by omega)) (aa_ (rotr7 _) (aa_ (rotr18 _) (aa_ (rotr17 _) (aa_ (rotr19 _) (aa_ (eg 16 (by omega) (by omega)) (aa_ (eg 7 (by omega) (by omega)) (aa_ (a:=bk_ b (16+(k+1))) ?_ ?_))))))))
   ·rw [room1 (by simp [cs_]; omega) (by simp [cs_]; omega),← Nat.add_assoc,bk_]
    rw [wd_hi (by omega)]
    rfl
   ·show some (Step.next (w64 (((16+k:Nat):Int)+1),_))=_
    rw [as_ (by omega)]
    rfl
  ·unfold gA_
   exact ac_ (by simp) rfl
end Go.Proofs.YtebokaoegomboaaGreatDoor
namespace Go.Proofs.YtebokaoegomboaaGreatDoor
open Go.Rt Go.RowKit
theorem bd_ {n:Nat} (h:n<9223372036854775808):n<BIG:=Nat.lt_trans h (by decide)
def t1N (W:List Int) (i:Nat) (s:hash_state):Int:=IntKind.u32.wrap ((IntKind.u32.wrap ((IntKind.u32.wrap ((IntKind.u32.wrap (s.a7_+(bn_ .u32 (bn_ .u32 (rot s.a4_ 6) (rot s.a4_ 11)) (rot s.a4_ 25))))+(bn_ .u32 (bP_ .u32 s.a4_ s.a5_) (bP_ .u32 (bn_ .u32 4294967295 s.a4_) s.a6_))))+au_ glob0.l i))+au_ W i)
def t2N (s:hash_state):Int:=IntKind.u32.wrap ((bn_ .u32 (bn_ .u32 (rot s.a0_ 2) (rot s.a0_ 13)) (rot s.a0_ 22))+(bn_ .u32 (bn_ .u32 (bP_ .u32 s.a0_ s.a1_) (bP_ .u32 s.a0_ s.a2_)) (bP_ .u32 s.a1_ s.a2_)))
def rnd (W:List Int) (i:Nat) (s:hash_state):hash_state:=hash_state.mk (IntKind.u32.wrap (t1N W i s+t2N s)) s.a0_ s.a1_ s.a2_ (IntKind.u32.wrap (s.a3_+t1N W i s)) s.a4_ s.a5_ s.a6_
def rnds (W:List Int) (s:hash_state):Nat→hash_state
 | 0=>s
 | i+1=>rnd W i (rnds W s i)
theorem glob_len:glob0.l.length=64:=by kernel_rfl
def mixS (s:hash_state) (p:Str):hash_state :=
 let v:=rnds (bk_ p 64) s 64
 hash_state.mk (IntKind.u32.wrap (s.a0_+v.a0_)) (IntKind.u32.wrap (s.a1_+v.a1_)) (IntKind.u32.wrap (s.a2_+v.a2_)) (IntKind.u32.wrap (s.a3_+v.a3_)) (IntKind.u32.wrap (s.a4_+v.a4_)) (IntKind.u32.wrap (s.a5_+v.a5_)) (IntKind.u32.wrap (s.a6_+v.a6_)) (IntKind.u32.wrap (s.a7_+v.a7_))
theorem mix2_eq (v s:hash_state):aj_ (pF_ v) BIG (0,s)=some (hash_state.mk (IntKind.u32.wrap (s.a0_+v.a0_)) (IntKind.u32.wrap (s.a1_+v.a1_)) (IntKind.u32.wrap (s.a2_+v.a2_)) (IntKind.u32.wrap (s.a3_+v.a3_)) (IntKind.u32.wrap (s.a4_+v.a4_)) (IntKind.u32.wrap (s.a5_+v.a5_)) (IntKind.u32.wrap (s.a6_+v.a6_)) (IntKind.u32.wrap (s.a7_+v.a7_))):=by
 cases v
 cases s
 kernel_rfl
theorem mix_eq {p:Str} (hp:p.length=64) (s:hash_state):nq_ s p=some (mixS s p):=by
 unfold nq_
 have hW:(Arr64_int.of (bk_ p 64)).l=bk_ p 64:=l_of64 (cs_ p 64)
 refine aa_ (schedule_eq hp) (aa_ (a:=rnds (bk_ p 64) s 64) ?_ (aa_ (mix2_eq _ _) rfl))
 refine aJ_ (T:=fun i=>((i:Int),rnds (bk_ p 64) s i)) 64 (by decide) (fun i hi => ?_) ?_
 ·unfold l6_
  refine ag_ (by simp; omega) ?_
  refine aa_ (right6 _) (aa_ (right11 _) (aa_ (right25 _) (aa_ (ll_ hi) (aa_ (je_ (by rw [glob_len]; exact hi)) (aa_ (ll_ hi) (aa_ (a:=au_ (bk_ p 64) i) ?_ (aa_ (right2 _) (aa_ (right13 _) (aa_ (right22 _) ?_)))))))))
  ·rw [hW]
   exact je_ (by rw [cs_]; exact hi)
  ·rw [as_ (by omega)]
   rfl
 ·unfold l6_
  exact ac_ (by simp) rfl
def tupN (s:hash_state) (i:Nat) (K W:List Int):Int × Int × Int × Int × Int × Int × Int × Int × Int × (List Int) × (List Int):=(s.a0_,s.a1_,s.a2_,s.a3_,s.a4_,s.a5_,s.a6_,s.a7_,(i:Int),K,W)
theorem block_eq {p:Str} (hp:p.length=64) (s:hash_state):js_ s.l p=some (mixS s p).l:=by
 unfold js_
 refine aa_ (a:=glob0.l) (by kernel_rfl) (aa_ (r2_ hp) (aa_ (a:=s.a0_) rfl (aa_ (a:=s.a1_) rfl (aa_ (a:=s.a2_) rfl (aa_ (a:=s.a3_) rfl (aa_ (a:=s.a4_) rfl (aa_ (a:=s.a5_) rfl (aa_ (a:=s.a6_) rfl (aa_ (a:=s.a7_) rfl (aa_ (a:=let v:=rnds (bk_ p 64) s 64; (v.a0_,v.a1_,v.a2_,v.a3_,v.a4_,v.a5_,v.a6_,v.a7_)) ?_ (aa_ (a:=s.a0_) rfl (aa_ (a:=s.a1_) rfl (aa_ (a:=s.a2_) rfl (aa_ (a:=s.a3_) rfl (aa_ (a:=s.a4_) rfl (aa_ (a:=s.a5_) rfl (aa_ (a:=s.a6_) rfl (aa_ (a:=s.a7_) rfl rfl))))))))))))))))))
 refine aJ_ (T:=fun i=>tupN (rnds (bk_ p 64) s i) i glob0.l (bk_ p 64)) 64 (by decide) (fun i hi => ?_) ?_
 ·unfold i0_ tupN
  refine ag_ (by simp; omega) ?_
  refine aa_ (rotr6 _) (aa_ (rotr11 _) (aa_ (rotr25 _) (aa_ (je_ (by rw [glob_len]; exact hi)) (aa_ (je_ (by rw [cs_]; exact hi)) (aa_ (rotr2 _) (aa_ (rotr13 _) (aa_ (rotr22 _) ?_)))))))
  simp only [as_ (show i<9223372036854775807 by omega)]
  rfl
 ·unfold i0_ tupN
  exact ac_ (by simp) rfl
theorem u8_toNat (b:UInt8):UInt8.ofNat ((b.toNat:Int)).toNat=b:=by simp
theorem bytesS_strI (s:Str):bytesS (cS_ s)=s:=by
 unfold bytesS cS_
 rw [List.map_map]
 conv=>rhs; rw [← List.map_id s]
 exact List.map_congr_left fun b _=>u8_toNat b
theorem hp_ (a b:List Int):bytesS (a++b)=bytesS a++bytesS b:=List.map_append
theorem kK_ (a:List Int):(bytesS a).length=a.length:=List.length_map _
theorem hH_ (s:Str):(cS_ s).length=s.length:=List.length_map _
def ct_ (n:Nat):Nat:=(119 - n % 64) % 64
theorem oR_ (n:Nat):(n+ct_ n) % 64=55:=by unfold ct_; omega
theorem zeros_lt (n:Nat) {k:Nat} (h:k<ct_ n):(n+k) % 64≠55:=by unfold ct_ at h; omega
def lenL (n:Nat):List Int:=(List.range 8).map fun j=>IntKind.u8.wrap ((IntKind.u64.wrap (8*(IntKind.u64.wrap (n:Int)))).fdiv (2 ^ (56 - 8*j)))
def padL (s:Str):List Int:=cS_ s++[128]++List.replicate (ct_ s.length) 0
def padS (s:Str):Str:=bytesS (padL s++lenL s.length)
theorem lenL_take (n:Nat) {k:Nat} (hk:k<8):(lenL n).take (k+1)=(lenL n).take k++[IntKind.u8.wrap ((IntKind.u64.wrap (8*(IntKind.u64.wrap (n:Int)))).fdiv (2 ^ (56 - 8*k)))]:=by
 rw [List.take_add_one]
 simp [lenL,hk]
theorem qv_ (s:Str):(padL s).length=s.length+1+ct_ s.length:=by
 simp [padL,hH_]
 omega
theorem qw_ (s:Str):(padS s).length=s.length+9+ct_ s.length:=by
 unfold padS
 rw [kK_,List.length_append,qv_]
 simp [lenL]
 omega
theorem padS_mod (s:Str):(padS s).length % 64=0:=by
 rw [qw_]
 have:=oR_ s.length
 omega
theorem tmod64 (n:Nat):((n:Int).tmod 64 != 56)=decide (n % 64≠56):=by
 have:(n:Int).tmod 64=((n % 64:Nat):Int):=by rw [Int.tmod_eq_emod_of_nonneg (by omega)]; rfl
 rw [this,Bool.eq_iff_iff]
 simp only [bne_iff_ne,ne_eq,decide_eq_true_eq]
 omega
theorem pad_eq (s:Str) (hs:s.length<1099511627776):lb_ s=some (padS s):=by
 have hz:ct_ s.length<64:=by unfold ct_; omega
 unfold lb_
 refine aa_ (a:=cS_ s) (by rw [room1 (by simp [hH_]; omega) (by simp [hH_]; omega)]; rfl) (aa_ (a:=cS_ s++[128]) (room1 (by simp [hH_]; omega) (by simp [hH_]; omega)) (aa_ (a:=padL s) ?_ (aa_ (a:=padL s++lenL s.length) ?_ rfl)))
 ·have h0:cS_ s++[128]=cS_ s++[128]++List.replicate 0 (0:Int):=by simp
  rw [h0]
  refine aJ_ (T:=fun k=>cS_ s++[128]++List.replicate k 0) (ct_ s.length) (Nat.lt_trans hz (by decide)) (fun k hk => ?_) ?_
  ·unfold l5_
   have hl:(cS_ s++[128]++List.replicate k (0:Int)).length=s.length+1+k:=by simp [hH_]; omega
   refine ag_ ?_ (aa_ (a:=cS_ s++[128]++List.replicate (k+1) 0) ?_ rfl)
   ·rw [hl,tmod64]
    have:=zeros_lt s.length hk
    simp only [decide_eq_true_eq]
    omega
   ·rw [room1 (by rw [hl]; simp; omega) (by rw [hl]; simp; omega),List.replicate_succ',List.append_assoc]
  ·unfold l5_
   refine ac_ ?_ rfl
   have hl:(cS_ s++[128]++List.replicate (ct_ s.length) (0:Int)).length=s.length+1+ct_ s.length:=by simp [hH_]; omega
   rw [hl,tmod64]
   have:=oR_ s.length
   simp only [decide_eq_false_iff_not]
   omega
 ·have h0:padL s=padL s++(lenL s.length).take 0:=by simp
  have h1:lenL s.length=(lenL s.length).take 8:=by rw [List.take_of_length_le (by simp [lenL])]
  rw [h1]
  refine Eq.trans ?_ (aJ_ (body:=jv_ s) (T:=fun k=>((56:Int) - 8*(k:Int),padL s++(lenL s.length).take k)) 8 (by decide) (fun k hk => ?_) ?_)
  ·rw [List.take_zero,List.append_nil]
   rfl
  ·unfold jv_
   refine ag_ (by simp; omega) (aa_ (a:=(IntKind.u64.wrap (8*(IntKind.u64.wrap (s.length:Int)))).fdiv (2 ^ (56 - 8*k))) ?_ (aa_ (a:=padL s++(lenL s.length).take (k+1)) ?_ ?_))
   ·rw [shrI_eq (by show (0:Int)≤56 - 8*(k:Int); omega) (by show (56:Int) - 8*(k:Int)≤(64:Nat); omega)]
    congr 3
    show ((56:Int) - 8*(k:Int)).toNat=_
    omega
   ·have hl:=qv_ s
    have hk8:((lenL s.length).take k).length≤8:=by simp [lenL]; omega
    rw [room1 (by rw [List.length_append,hl]; simp only [List.length_cons,List.length_nil]; omega) (by rw [List.length_append,hl]; simp only [List.length_cons,List.length_nil]; omega),lenL_take _ hk,List.append_assoc]
   ·show some (Step.next (w64 ((56:Int) - 8*(k:Int) - 8),_))=_
    rw [am_ ⟨by omega,by omega⟩]
    congr 3
    omega
  ·unfold jv_
   exact ac_ (by simp) rfl
theorem big8 (x:Int):fP_ x 8=some (let q:=fun y:Int=>IntKind.u64.wrap (y.tdiv 256); let b:=fun y:Int=>IntKind.u8.wrap (y.tmod 256); bytesS [b (q (q (q (q (q (q (q x))))))),b (q (q (q (q (q (q x)))))),b (q (q (q (q (q x))))),b (q (q (q (q x)))),b (q (q (q x))),b (q (q x)),b (q x),b x]):=by kernel_rfl
theorem big4 (x:Int):fP_ x 4=some (let q:=fun y:Int=>IntKind.u64.wrap (y.tdiv 256); let b:=fun y:Int=>IntKind.u8.wrap (y.tmod 256); bytesS [b (q (q (q x))),b (q (q x)),b (q x),b x]):=by kernel_rfl
theorem q_eq {x:Int} (h0:0≤x) (h:x<18446744073709551616):IntKind.u64.wrap (x.tdiv 256)=x / 256:=by
 rw [Int.tdiv_eq_ediv_of_nonneg h0,wu64]
 omega
theorem b_eq {x:Int} (h0:0≤x):IntKind.u8.wrap (x.tmod 256)=x % 256:=by
 rw [Int.tmod_eq_emod_of_nonneg h0,wu8]
 omega
theorem fdiv_pos (x:Int) (n:Nat):x.fdiv (2 ^ n)=x / 2 ^ n:=Int.fdiv_eq_ediv_of_nonneg _ (Int.le_of_lt (Int.pow_pos (by decide)))
theorem big8_eq {x:Int} (h0:0≤x) (h:x<18446744073709551616):fP_ x 8=some (bytesS ((List.range 8).map fun j=>IntKind.u8.wrap (x.fdiv (2 ^ (56 - 8*j))))):=by
 have hd:∀ y:Int,0≤y→y<18446744073709551616→0≤y / 256∧y / 256<18446744073709551616:=fun y h1 h2=>by omega
 have a1:=hd x h0 h
 have a2:=hd _ a1.1 a1.2
 have a3:=hd _ a2.1 a2.2
 have a4:=hd _ a3.1 a3.2
 have a5:=hd _ a4.1 a4.2
 have a6:=hd _ a5.1 a5.2
 have a7:=hd _ a6.1 a6.2
 rw [big8]
 simp only [q_eq h0 h,q_eq a1.1 a1.2,q_eq a2.1 a2.2,q_eq a3.1 a3.2,q_eq a4.1 a4.2,q_eq a5.1 a5.2,q_eq a6.1 a6.2,b_eq h0,b_eq a1.1,b_eq a2.1,b_eq a3.1,b_eq a4.1,b_eq a5.1,b_eq a6.1,b_eq a7.1]
 have e:((List.range 8).map fun j=>IntKind.u8.wrap (x.fdiv (2 ^ (56 - 8*j))))=[x / 72057594037927936 % 256,x / 281474976710656 % 256,x / 1099511627776 % 256,x / 4294967296 % 256,x / 16777216 % 256,x / 65536 % 256,x / 256 % 256,x / 1 % 256]:=by
  simp only [wu8,fdiv_pos]
  rfl
 rw [e]
 have e2:x / 256 / 256=x / 65536:=by omega
 have e3:x / 65536 / 256=x / 16777216:=by omega
 have e4:x / 16777216 / 256=x / 4294967296:=by omega
 have e5:x / 4294967296 / 256=x / 1099511627776:=by omega
 have e6:x / 1099511627776 / 256=x / 281474976710656:=by omega
 have e7:x / 281474976710656 / 256=x / 72057594037927936:=by omega
 simp only [e2,e3,e4,e5,e6,e7,Int.ediv_one]
theorem padded_eq (s:Str) (hs:s.length<1099511627776):h5_ s=some (padS s):=by
 have hz:ct_ s.length<64:=by unfold ct_; omega
 have hlen:IntKind.u64.wrap ((IntKind.u64.wrap (s.length:Int))*8)=IntKind.u64.wrap (8*(IntKind.u64.wrap (s.length:Int))):=by rw [Int.mul_comm]
 have hP:bytesS (padL s)=s++[128]++List.replicate (ct_ s.length) 0:=by
  unfold padL
  rw [hp_,hp_,bytesS_strI]
  congr 1
  simp [bytesS]
 have hl:∀ k:Nat,(s++[128]++List.replicate k (0:UInt8)).length=s.length+1+k:=fun k=>by simp; omega
 unfold h5_
 refine aa_ (a:=s++[128]) (io_ (by simp; omega)) (aa_ (a:=bytesS (padL s)) ?_ (aa_ (a:=bytesS (lenL s.length)) ?_ (aa_ (a:=padS s) ?_ rfl)))
 ·rw [hP]
  rw [show aj_ eh_ BIG (s++[128])=aj_ eh_ BIG (s++[128]++List.replicate 0 (0:UInt8)) by simp]
  refine aJ_ (T:=fun k=>s++[128]++List.replicate k (0:UInt8)) (ct_ s.length) (Nat.lt_trans hz (by decide)) (fun k hk => ?_) ?_
  ·unfold eh_
   refine ag_ ?_ (aa_ (a:=s++[128]++List.replicate (k+1) (0:UInt8)) ?_ rfl)
   ·rw [hl,tmod64]
    have:=zeros_lt s.length hk
    simp only [decide_eq_true_eq]
    omega
   ·rw [io_ (by rw [hl]; simp; omega),List.replicate_succ',List.append_assoc]
  ·unfold eh_
   refine ac_ ?_ rfl
   rw [hl,tmod64]
   have:=oR_ s.length
   simp only [decide_eq_false_iff_not]
   omega
 ·rw [hlen]
  have hb:0≤IntKind.u64.wrap (8*(IntKind.u64.wrap (s.length:Int)))∧IntKind.u64.wrap (8*(IntKind.u64.wrap (s.length:Int)))<18446744073709551616:=by
   rw [wu64]
   omega
  rw [big8_eq hb.1 hb.2]
  rfl
 ·unfold padS
  rw [hp_]
  refine io_ ?_
  rw [kK_,kK_,qv_]
  simp [lenL]
  omega
def init:hash_state:=hash_state.mk 1779033703 3144134277 1013904242 2773480762 1359893119 2600822924 528734635 1541459225
def sums (t:Str):Nat→hash_state
 | 0=>init
 | k+1=>mixS (sums t k) ((t.drop (64*k)).take 64)
def outL (h:hash_state):List Int:=h.l.flatMap fun x=>[IntKind.u8.wrap (x.fdiv (2 ^ 24)),IntKind.u8.wrap (x.fdiv (2 ^ 16)),IntKind.u8.wrap (x.fdiv (2 ^ 8)),IntKind.u8.wrap x]
def shaS (s:Str):Str:=bytesS (outL (sums (padS s) ((padS s).length / 64)))
theorem out_eq (h:hash_state):aj_ (pG_ h) BIG (0,[])=some (outL h):=by
 cases h
 kernel_rfl
theorem Sum_eq (s:Str) (hs:s.length<1099511627776):nr_ s=some (shaS s):=by
 have hm:=padS_mod s
 have hl:(padS s).length<1099511627900:=by
  rw [qw_]
  have hz:ct_ s.length<64:=by unfold ct_; omega
  omega
 unfold nr_
 refine aa_ (pad_eq s hs) (aa_ (a:=sums (padS s) ((padS s).length / 64)) ?_ (aa_ (a:=List.replicate 32 0) (by kernel_rfl) (aa_ (out_eq _) rfl)))
 generalize padS s=t at *
 have h0:(t,hash_state.mk 1779033703 3144134277 1013904242 2773480762 1359893119 2600822924 528734635 1541459225)=(t.drop (64*0),sums t 0):=by simp [sums,init]
 rw [h0]
 refine aJ_ (T:=fun k=>(t.drop (64*k),sums t k)) (t.length / 64) (bd_ (by omega)) (fun k hk => ?_) ?_
 ·unfold l7_
  have hk':64*k+64≤t.length:=by omega
  have hd:(t.drop (64*k)).length=t.length - 64*k:=List.length_drop
  refine ag_ ?_ (aa_ (a:=(t.drop (64*k)).take 64) ?_ (aa_ (mix_eq (by rw [List.length_take,hd]; omega) _) (aa_ (a:=t.drop (64*(k+1))) ?_ rfl)))
  ·have:t.drop (64*k)≠[]:=fun e=>by rw [e] at hd; simp at hd; omega
   cases h:t.drop (64*k) with
   | nil=>exact absurd h this
   | cons x l=>rfl
  ·show bl_ (t.drop (64*k)) 0 64=_
   rw [cc_ (by omega) (by omega) (by omega)]
   rfl
  ·show bl_ (t.drop (64*k)) 64 ((t.drop (64*k)).length:Int)=_
   rw [cc_ (by omega) (by omega) (by omega),Int.toNat_natCast,List.take_length]
   show some ((t.drop (64*k)).drop 64)=_
   rw [List.drop_drop]
   rfl
 ·unfold l7_
  have:t.drop (64*(t.length / 64))=[]:=List.drop_of_length_le (by omega)
  rw [this]
  exact ac_ rfl rfl
theorem word_bound (h:hash_state) (p:Str):∀ x∈(mixS h p).l,0≤x∧x<4294967296:=by
 have hw:∀ n:Int,0≤IntKind.u32.wrap n∧IntKind.u32.wrap n<4294967296:=fun n=>by
  rw [IntKind.wrap_u32]
  omega
 intro x hx
 simp only [mixS,hash_state.l,List.mem_cons,List.not_mem_nil,or_false] at hx
 rcases hx with rfl | rfl | rfl | rfl | rfl | rfl | rfl | rfl <;> exact hw _
theorem sums_bound (t:Str):∀ k,∀ x∈(sums t k).l,0≤x∧x<4294967296
 | 0=>by
  intro x hx
  simp only [sums,init,hash_state.l,List.mem_cons,List.not_mem_nil,or_false] at hx
  omega
 | k+1=>word_bound _ _
theorem big4_eq {x:Int} (h0:0≤x) (h:x<4294967296):fP_ (IntKind.u64.wrap x) 4=some (bytesS [IntKind.u8.wrap (x.fdiv (2 ^ 24)),IntKind.u8.wrap (x.fdiv (2 ^ 16)),IntKind.u8.wrap (x.fdiv (2 ^ 8)),IntKind.u8.wrap x]):=by
 have hx:IntKind.u64.wrap x=x:=by rw [wu64]; omega
 have hd:∀ y:Int,0≤y→y<18446744073709551616→0≤y / 256∧y / 256<18446744073709551616:=fun y h1 h2=>by omega
 have a1:=hd x h0 (by omega)
 have a2:=hd _ a1.1 a1.2
 have a3:=hd _ a2.1 a2.2
 rw [hx,big4]
 simp only [q_eq h0 (show x<18446744073709551616 by omega),q_eq a1.1 a1.2,q_eq a2.1 a2.2,b_eq h0,b_eq a1.1,b_eq a2.1,b_eq a3.1]
 have e:[IntKind.u8.wrap (x.fdiv (2 ^ 24)),IntKind.u8.wrap (x.fdiv (2 ^ 16)),IntKind.u8.wrap (x.fdiv (2 ^ 8)),IntKind.u8.wrap x]=[x / 16777216 % 256,x / 65536 % 256,x / 256 % 256,x % 256]:=by
  simp only [wu8,fdiv_pos]
  rfl
 rw [e]
 have e2:x / 256 / 256=x / 65536:=by omega
 have e3:x / 65536 / 256=x / 16777216:=by omega
 simp only [e2,e3]
theorem ref_Sum_eq (s:Str) (hs:s.length<1099511627776):lF_ s=some (shaS s):=by
 have hm:=padS_mod s
 have hl:(padS s).length<1099511627900:=by
  rw [qw_]
  have hz:ct_ s.length<64:=by unfold ct_; omega
  omega
 unfold lF_ shaS
 refine aa_ (padded_eq s hs) ?_
 generalize padS s=t at *
 refine aa_ (a:=(sums t (t.length / 64)).l) ?_ (aa_ (a:=bytesS (outL (sums t (t.length / 64)))) ?_ rfl)
 ·refine aJ_ (T:=fun k=>(((64*k:Nat):Int),(sums t k).l)) (t.length / 64) (bd_ (by omega)) (fun k hk => ?_) ?_
  ·unfold k8_
   have e64:w64 (((64*k:Nat):Int)+64)=((64*(k+1):Nat):Int):=by rw [am_ ⟨by omega,by omega⟩]; omega
   refine ag_ (by simp; omega) (aa_ (a:=(t.drop (64*k)).take 64) ?_ (aa_ (block_eq (by rw [List.length_take,List.length_drop]; omega) _) (by rw [e64]; rfl)))
   show bl_ t ((64*k:Nat):Int) (w64 (((64*k:Nat):Int)+64))=_
   rw [e64,cc_ (by omega) (by omega) (by omega),Int.toNat_natCast,Int.toNat_natCast,List.drop_take]
   congr 2
   omega
  ·unfold k8_
   exact ac_ (by simp; omega) rfl
 ·have hb:=sums_bound t (t.length / 64)
  generalize sums t (t.length / 64)=h at *
  refine aJ_ (T:=fun k=>(bytesS ((h.l.take k).flatMap fun x=>[IntKind.u8.wrap (x.fdiv (2 ^ 24)),IntKind.u8.wrap (x.fdiv (2 ^ 16)),IntKind.u8.wrap (x.fdiv (2 ^ 8)),IntKind.u8.wrap x]),(k:Int),h.l)) 8 (by decide) (fun k hk => ?_) ?_
  ·unfold k9_
   have hl8:h.l.length=8:=rfl
   have hk8:k<h.l.length:=by omega
   have hx:=hb h.l[k] (List.getElem_mem hk8)
   refine ag_ (by simp; omega) (aa_ (ap_ hk8) (aa_ (big4_eq hx.1 hx.2) (aa_ (a:=bytesS ((h.l.take (k+1)).flatMap fun x=>[IntKind.u8.wrap (x.fdiv (2 ^ 24)),IntKind.u8.wrap (x.fdiv (2 ^ 16)),IntKind.u8.wrap (x.fdiv (2 ^ 8)),IntKind.u8.wrap x])) ?_ (by rw [as_ (by omega)]))))
   rw [List.take_add_one,List.getElem?_eq_getElem hk8,List.flatMap_append,hp_]
   have hle:(bytesS ((h.l.take k).flatMap fun x=>[IntKind.u8.wrap (x.fdiv (2 ^ 24)),IntKind.u8.wrap (x.fdiv (2 ^ 16)),IntKind.u8.wrap (x.fdiv (2 ^ 8)),IntKind.u8.wrap x])).length≤32:=by
    rw [kK_]
    have hf:∀ l:List Int,(l.flatMap fun x=>[IntKind.u8.wrap (x.fdiv (2 ^ 24)),IntKind.u8.wrap (x.fdiv (2 ^ 16)),IntKind.u8.wrap (x.fdiv (2 ^ 8)),IntKind.u8.wrap x]).length=4*l.length:=fun l=>by
     induction l with
     | nil=>rfl
     | cons a l ih=>rw [List.flatMap_cons,List.length_append,ih]; simp; omega
    rw [hf,List.length_take]
    omega
   rw [io_ (by
    have h4:(bytesS [IntKind.u8.wrap (h.l[k].fdiv (2 ^ 24)),IntKind.u8.wrap (h.l[k].fdiv (2 ^ 16)),IntKind.u8.wrap (h.l[k].fdiv (2 ^ 8)),IntKind.u8.wrap h.l[k]]).length=4:=rfl
    exact Nat.le_trans (Nat.add_le_add hle (Nat.le_of_eq h4)) (by decide))]
   rfl
  ·unfold k9_
   refine ac_ (by simp) ?_
   rfl
end Go.Proofs.YtebokaoegomboaaGreatDoor
namespace Go.Proofs.YtebokaoegomboaaGreatDoor
open Go.Rt Go.RowKit
def mP_ (k:Int) (d:Str):Str:=shaS (bytesS [IntKind.u8.wrap k]++d)
theorem Score_eq (k:Int) {d:Str} (hd:d.length≤1073741824):kw_ k d=some (mP_ k d):=by
 unfold kw_
 have h1:(bytesS [IntKind.u8.wrap k]).length=1:=rfl
 exact aa_ (io_ (by rw [h1]; omega)) (aa_ (Sum_eq _ (by rw [List.length_append,h1]; omega)) rfl)
theorem ref_Score_eq {k:Int} (h0:0≤k) (h4:k<256) {d:Str} (hd:d.length≤1073741824):jt_ k d=some (mP_ k d):=by
 unfold jt_
 have e:(w64 (k.tmod 256+256)).tmod 256=k:=by
  rw [Int.tmod_eq_emod_of_nonneg h0,am_ ⟨by omega,by omega⟩,Int.tmod_eq_emod_of_nonneg (by omega)]
  omega
 rw [e]
 have h1:(bytesS [IntKind.u8.wrap k]).length=1:=rfl
 exact aa_ (io_ (by rw [h1]; omega)) (aa_ (ref_Sum_eq _ (by rw [List.length_append,h1]; omega)) rfl)
def mk (k:Int) (d:Str):api_Block:=api_Block.mk (mP_ k d) k d
theorem made_eq (k:Int) {d:Str} (hd:d.length≤1073741824):gm_ k d=some (mk k d):=by
 unfold gm_
 exact aa_ (Score_eq k hd) rfl
def eV_ (sc:Str) (b:api_Block):Bool:=b.Score_==sc
theorem at_loop {l:List api_Block} (sc:Str) (hl:l.length≤9223372036854775807):k7_ l sc=some (at_ (eV_ sc) l):=by
 unfold k7_
 have h:=aY_ (body:=jr_ l sc) l (fun i x=>if eV_ sc x then some ((i:Nat):Int) else none) (Nat.lt_of_le_of_lt hl (by decide)) (fun i hi => ?_) ?_
 ·rw [be_ h (fun r=>rfl) (x := -1) rfl,jb_]
 ·unfold jr_
  refine ag_ (bm_ hi) (aa_ (ap_ hi) ?_)
  unfold eV_
  cases hb:l[i].Score_==sc with
  | true=>rfl
  | false =>
   rw [as_ (by omega)]
   rfl
 ·unfold jr_
  exact ac_ (br_ _) rfl
theorem index_eq {s:api_Store} (sc:Str) (hl:s.Blocks_.length≤9223372036854775807):fj_ s sc=some (at_ (eV_ sc) s.Blocks_):=by
 unfold fj_
 refine aa_ (a:=at_ (eV_ sc) s.Blocks_) ?_ rfl
 unfold ce_
 generalize s.Blocks_=l at *
 have h:=aY_ (body:=bp_ l (fun (u1:api_Block)=>Option.bind (j2_ u1 sc) fun (v1:Bool)=>some v1)) l (fun i x=>if eV_ sc x then some ((i:Nat):Int) else none) (Nat.lt_of_le_of_lt hl (by decide)) (fun i hi => ?_) ?_
 ·rw [be_ h (fun r=>rfl) (x := -1) rfl,jb_]
 ·unfold bp_
  refine ag_ (bm_ hi) (aa_ (ap_ hi) (aa_ (a:=eV_ sc l[i]) rfl ?_))
  cases hb:eV_ sc l[i] with
  | true=>rfl
  | false =>
   rw [as_ (by omega)]
   rfl
 ·unfold bp_
  exact ac_ (br_ _) rfl
def kL_ (s:api_Store) (sc:Str):Option api_Block:=s.Blocks_.find? (eV_ sc)
theorem nI_ {s:api_Store} {sc:Str} {b:api_Block} (h:kL_ s sc=some b):b∈s.Blocks_∧b.Score_=sc:=by
 unfold kL_ at h
 refine ⟨List.mem_of_find?_eq_some h,?_⟩
 have:=List.find?_some h
 unfold eV_ at this
 exact eq_of_beq this
theorem at_ge {l:List api_Block} (sc:Str):decide (at_ (eV_ sc) l≥0)=(l.find? (eV_ sc)).isSome:=by
 rcases jc_ (eV_ sc) l with ⟨h1,h2⟩ | ⟨i,x,h1,h2,_⟩
 ·rw [h1,h2]; rfl
 ·rw [h1,h2]; simp
def getB (s:api_Store) (sc:Str) (k:Int):Str × Int:=match kL_ s sc with
 | none=>([],35)
 | some b=>if b.Kind_≠k then ([],1) else if mP_ k b.Data_=sc then (b.Data_,0) else ([],34)
theorem Get_eq {s:api_Store} {k:Int} {sc:Str} (hs:s.Blocks_.length≤1073741824) (hd:∀ b∈s.Blocks_,b.Data_.length≤1073741824):lJ_ s sc k=some (getB s sc k):=by
 unfold lJ_ getB
 refine aa_ (index_eq sc (by omega)) ?_
 rw [jS_]
 show (bif (kL_ s sc).isNone then _ else _)=_
 cases hf:kL_ s sc with
 | none=>exact ag_ rfl rfl
 | some b =>
  obtain ⟨h1,h2⟩:=nI_ hf
  have hg:ak_ s.Blocks_ (at_ (eV_ sc) s.Blocks_)=some b:=by
   rw [mH_ (eV_ sc) s.Blocks_ (by show (kL_ s sc).isNone=false; rw [hf]; rfl)]
   exact hf
  refine ac_ rfl (aa_ hg ?_)
  simp only
  by_cases hk:b.Kind_≠k
  ·rw [if_pos hk]
   exact ag_ (by simpa using hk) rfl
  ·rw [if_neg hk]
   refine ac_ (by simpa using hk) (aa_ hg (aa_ hg (aa_ (made_eq k (hd b h1)) ?_)))
   have hk':b.Kind_=k:=Classical.not_not.1 hk
   by_cases hc:mP_ k b.Data_=sc
   ·rw [if_pos hc]
    refine ac_ ?_ (aa_ hg rfl)
    have:b=mk k b.Data_:=by
     cases b
     simp only [mk,api_Block.mk.injEq] at *
     exact ⟨h2.trans hc.symm,hk',trivial⟩
    simp [← this]
   ·rw [if_neg hc]
    refine ag_ ?_ rfl
    have:b≠mk k b.Data_:=fun e=>hc (by
     have:=congrArg api_Block.Score_ e
     rw [h2] at this
     exact this.symm)
    simp [this]
theorem ref_Get_eq {s:api_Store} {k:Int} {sc:Str} (hk:0≤k∧k<256) (hs:s.Blocks_.length≤1073741824) (hd:∀ b∈s.Blocks_,b.Data_.length≤1073741824):lG_ s sc k=some (getB s sc k):=by
 unfold lG_ getB
 refine aa_ (at_loop sc (by omega)) ?_
 rw [jS_]
 show (bif (kL_ s sc).isNone then _ else _)=_
 cases hf:kL_ s sc with
 | none=>exact ag_ rfl rfl
 | some b =>
  obtain ⟨h1,h2⟩:=nI_ hf
  have hg:ak_ s.Blocks_ (at_ (eV_ sc) s.Blocks_)=some b:=by
   rw [mH_ (eV_ sc) s.Blocks_ (by show (kL_ s sc).isNone=false; rw [hf]; rfl)]
   exact hf
  refine ac_ rfl (aa_ hg ?_)
  simp only
  by_cases hk':b.Kind_≠k
  ·rw [if_pos hk']
   exact ag_ (by simpa using hk') rfl
  ·rw [if_neg hk']
   refine ac_ (by simpa using hk') (aa_ (ref_Score_eq hk.1 hk.2 (hd b h1)) ?_)
   by_cases hc:mP_ k b.Data_=sc
   ·rw [if_pos hc]
    exact ac_ (by simp [hc]) rfl
   ·rw [if_neg hc]
    exact ag_ (by simp [hc]) rfl
def BlOK (b:api_Block):Prop:=1≤b.Kind_∧b.Kind_≤4∧b.Data_.length≤1024∧b.Score_.length=32
structure StOK (s:api_Store):Prop where
 cap1:1≤s.Cap_
 cap2:s.Cap_≤4096
 len:(s.Blocks_.length:Int)≤s.Cap_
 all:∀ b∈s.Blocks_,BlOK b
 nd:(s.Blocks_.map (·.Score_)).Nodup
theorem StOK.size {s:api_Store} (h:StOK s):s.Blocks_.length≤4096:=by
 have:=h.len
 have:=h.cap2
 omega
def badB (l:List api_Block) (i:Nat) (b:api_Block):Bool:=((!(decide (b.Kind_≥1)&&decide (b.Kind_≤4)))||decide ((b.Data_.length:Int)>1024))||((b.Score_.length:Int) != 32)||decide (at_ (eV_ b.Score_) (l.take i)≥0)
theorem Right_scan {s:api_Store} (hl:s.Blocks_.length≤9223372036854775807):gR_ s=some (!(decide (s.Cap_<1)||decide (s.Cap_>4096)||decide ((s.Blocks_.length:Int)>s.Cap_))&&((aE_ (fun i b=>if badB s.Blocks_ i b then some false else none) 0 s.Blocks_).getD true)):=by
 unfold gR_
 cases hc:(decide (s.Cap_<1)||decide (s.Cap_>4096)||decide ((s.Blocks_.length:Int)>s.Cap_)) with
 | true=>rfl
 | false =>
  refine ac_ rfl ?_
  have h:=aY_ (body:=ge_ s) s.Blocks_ (fun i b=>if badB s.Blocks_ i b then some false else none) (Nat.lt_of_le_of_lt hl (by decide)) (fun i hi => ?_) ?_
  ·rw [be_ h (fun r=>rfl) (x:=true) rfl]
   simp
  ·unfold ge_
   refine ag_ (bm_ hi) (aa_ (ap_ hi) (aa_ (a:=decide (s.Blocks_[i].Kind_≥1)&&decide (s.Blocks_[i].Kind_≤4)) rfl ?_))
   refine aa_ (a:=badB s.Blocks_ i s.Blocks_[i]) ?_ ?_
   ·unfold badB
    cases hc2:((!(decide (s.Blocks_[i].Kind_≥1)&&decide (s.Blocks_[i].Kind_≤4)))||decide ((s.Blocks_[i].Data_.length:Int)>1024))||((s.Blocks_[i].Score_.length:Int) != 32) with
    | true=>rfl
    | false =>
     refine ac_ rfl (aa_ (a:=s.Blocks_.take i) ?_ (aa_ (at_loop _ (by rw [List.length_take]; omega)) rfl))
     rw [cc_ (by omega) (by omega) (by omega)]
     rfl
   ·cases hb:badB s.Blocks_ i s.Blocks_[i] with
    | true=>rfl
    | false =>
     rw [as_ (by omega)]
     rfl
  ·unfold ge_
   exact ac_ (br_ _) rfl
theorem nodup_iff {α : Type} {l:List α}:l.Nodup↔∀ i x,l[i]? = some x→x ∉ l.take i:=by
  constructor
  ·intro h i x hx hm
   obtain ⟨j,hj,e⟩:=List.getElem_of_mem hm
   rw [List.length_take] at hj
   rw [List.getElem_take] at e
   have hi:i<l.length:=by
    rcases Nat.lt_or_ge i l.length with h' | h'
    ·exact h'
    ·rw [List.getElem?_eq_none h'] at hx; cases hx
   rw [List.getElem?_eq_getElem hi] at hx
   have:=(List.nodup_iff_pairwise_ne.1 h)
   have h2:=List.pairwise_iff_getElem.1 this j i (by omega) hi (by omega)
   exact h2 (e.trans (Option.some.inj hx).symm)
  ·intro h
   refine List.nodup_iff_pairwise_ne.2 (List.pairwise_iff_getElem.2 fun i j hi hj hij e => ?_)
   refine h j l[j] (List.getElem?_eq_getElem hj) ?_
   rw [← e]
   have:i<(l.take j).length:=by rw [List.length_take]; omega
   have h3:=List.getElem_mem this
   rwa [List.getElem_take] at h3
theorem Right_iff {s:api_Store} (hl:s.Blocks_.length≤9223372036854775807):∃ b,gR_ s=some b∧(b=true↔StOK s):=by
 refine ⟨_,Right_scan hl,?_⟩
 have hs:(aE_ (fun i b=>if badB s.Blocks_ i b then some false else none) 0 s.Blocks_).getD true=true↔∀ i x,s.Blocks_[i]? = some x→badB s.Blocks_ i x=false:=by
  cases h:aE_ (fun i b=>if badB s.Blocks_ i b then some false else none) 0 s.Blocks_ with
  | none =>
   refine ⟨fun _ i x hx => ?_,fun _=>rfl⟩
   have:=scan_none.1 h i x hx
   rw [Nat.zero_add] at this
   cases hb:badB s.Blocks_ i x with
   | false=>rfl
   | true=>rw [hb] at this; simp at this
  | some r =>
   obtain ⟨i,x,h1,h2,_⟩:=oH_ h
   rw [Nat.zero_add] at h2
   refine ⟨fun e => ?_,fun h' => ?_⟩
   ·split at h2
    ·obtain rfl:=Option.some.inj h2
     cases e
    ·cases h2
   ·rw [h' i x h1] at h2
    simp at h2
 rw [Bool.and_eq_true,hs]
 have hbad:∀ i x,badB s.Blocks_ i x=false↔BlOK x∧x.Score_ ∉ (s.Blocks_.take i).map (·.Score_):=fun i x=>by
  unfold badB BlOK
  rw [at_ge]
  have hf:((s.Blocks_.take i).find? (eV_ x.Score_)).isSome=false↔x.Score_ ∉ (s.Blocks_.take i).map (·.Score_):=by
   rw [← Bool.not_eq_true,List.find?_isSome]
   simp only [eV_,List.mem_map,beq_iff_eq]
  rw [Bool.or_eq_false_iff,hf]
  refine and_congr ?_ Iff.rfl
  simp only [Bool.or_eq_false_iff,Bool.not_eq_false',Bool.and_eq_true,decide_eq_true_eq,decide_eq_false_iff_not,bne_eq_false_iff_eq]
  omega
 simp only [hbad]
 constructor
 ·intro ⟨h1,h2⟩
  simp only [Bool.not_eq_true',Bool.or_eq_false_iff,decide_eq_false_iff_not] at h1
  refine ⟨by omega,by omega,by omega,fun b hb => ?_,nodup_iff.2 fun i x hx => ?_⟩
  ·obtain ⟨i,hi,e⟩:=List.getElem_of_mem hb
   exact (h2 i b (by rw [List.getElem?_eq_getElem hi,e])).1
  ·rw [List.getElem?_map] at hx
   cases hy:s.Blocks_[i]? with
   | none=>rw [hy] at hx; cases hx
   | some y =>
    rw [hy] at hx
    obtain rfl:=Option.some.inj hx
    rw [← List.map_take]
    exact (h2 i y hy).2
 ·intro h
  refine ⟨?_,fun i x hx=>⟨h.all x (List.mem_of_getElem? hx),?_⟩⟩
  ·have:=h.cap1
   have:=h.cap2
   have:=h.len
   simp only [Bool.not_eq_true',Bool.or_eq_false_iff,decide_eq_false_iff_not]
   omega
  ·have:=nodup_iff.1 h.nd i x.Score_ (by rw [List.getElem?_map,hx]; rfl)
   rwa [← List.map_take] at this
end Go.Proofs.YtebokaoegomboaaGreatDoor
namespace Go.Proofs.YtebokaoegomboaaGreatDoor
open Go.Rt Go.RowKit
def nP (n:Nat):Nat:=max 1 ((n+1023) / 1024)
theorem gv_ {σ β : Type} {body : σ → Option (Step σ β)} {b : β}:∀ {n m:Nat} {s : σ},aj_ body n s=some b→n≤m→aj_ body m s=some b
 | 0,_,_,h,_=>by cases h
 | n+1,0,_,_,hm=>by omega
 | n+1,m+1,s,h,hm=>by
  simp only [aj_] at h ⊢
  cases hb:body s with
  | none=>rw [hb] at h; cases h
  | some x =>
   rw [hb] at h
   cases x with
   | done b'=>exact h
   | next s'=>exact gv_ (n:=n) (m:=m) (s:=s') h (by omega)
def bA:Nat→Nat→Nat
 | n,0=>n
 | n,l+1=>(bA n l+31) / 32
theorem nJ_ {n:Nat} (h:n≤1073741824):∀ l,bA n l≤1073741824
 | 0=>h
 | l+1=>by have:=nJ_ h l; unfold bA; omega
theorem quo32 {n:Nat} (h:n≤1073741824):IntKind.i64.wrap ((w64 ((w64 ((n:Int)+32)) - 1)).tdiv 32)=(((n+31) / 32:Nat):Int):=by
 rw [am_ (n:=(n:Int)+32) ⟨by omega,by omega⟩,am_ ⟨by omega,by omega⟩,Int.tdiv_eq_ediv_of_nonneg (by omega),c0_ ⟨by omega,by omega⟩]
 omega
theorem quo1024 {n:Nat} (h:n≤1073741824):IntKind.i64.wrap ((w64 ((w64 ((n:Int)+1024)) - 1)).tdiv 1024)=(((n+1023) / 1024:Nat):Int):=by
 rw [am_ (n:=(n:Int)+1024) ⟨by omega,by omega⟩,am_ ⟨by omega,by omega⟩,Int.tdiv_eq_ediv_of_nonneg (by omega),c0_ ⟨by omega,by omega⟩]
 omega
theorem max_nP (n:Nat):cK_ 1 (((n+1023) / 1024:Nat):Int)=((nP n:Nat):Int):=by
 unfold cK_ nP
 split <;> omega
theorem mk_ {n:Nat} (hn:n≤1073741824) {l:Nat} (hl:l≤1073741824):dW_ (n:Int) (l:Int)=some ((bA (nP n) l:Nat):Int):=by
 unfold dW_
 rw [quo1024 hn,max_nP]
 have hb:=nJ_ (n:=nP n) (by unfold nP; omega)
 refine aa_ (a:=((bA (nP n) l:Nat):Int)) ?_ rfl
 refine aJ_ (T:=fun i=>(((bA (nP n) i:Nat):Int),(i:Int))) l (bd_ (by omega)) (fun i hi => ?_) ?_
 ·unfold fr_
  refine ag_ (by simp; omega) ?_
  show some (Step.next (IntKind.i64.wrap ((w64 ((w64 (((bA (nP n) i:Nat):Int)+32)) - 1)).tdiv 32),w64 ((i:Int)+1)))=_
  rw [quo32 (hb i),as_ (by omega)]
  rfl
 ·unfold fr_
  exact ac_ (by simp) rfl
def hN (n:Nat):Nat:=if n≤1 then 0 else if n≤32 then 1 else 2
theorem nP_le {n:Nat} (h:n≤1048576):1≤nP n∧nP n≤1024:=by unfold nP; omega
theorem bA_gt {n i:Nat} (h:n≤1024) (hi:i<hN n):1<bA n i:=by
 unfold hN at hi
 split at hi
 ·omega
 ·split at hi
  ·obtain rfl:i=0:=by omega
   show 1<n
   omega
  ·have:i=0∨i=1:=by omega
   rcases this with rfl | rfl
   ·show 1<n
    omega
   ·show 1<(n+31) / 32
    omega
theorem bA_one {n:Nat} (h1:1≤n) (h:n≤1024):bA n (hN n)=1:=by
 unfold hN
 split
 ·show n=1
  omega
 ·split
  ·show (n+31) / 32=1
   omega
  ·show ((n+31) / 32+31) / 32=1
   omega
theorem hN_le (n:Nat):hN n≤2:=by unfold hN; split <;> (try split) <;> omega
theorem height_eq {n:Nat} (hn:n≤1048576):dR_ (n:Int)=some ((hN (nP n):Nat):Int):=by
 unfold dR_
 obtain ⟨n1,n2⟩:=nP_le hn
 have h2:=hN_le (nP n)
 refine aa_ (a:=((hN (nP n):Nat):Int)) ?_ rfl
 refine aJ_ (T:=fun i=>(i:Int)) (hN (nP n)) (bd_ (by omega)) (fun i hi => ?_) ?_
 ·unfold gB_
  refine aa_ (mk_ (by omega) (by omega)) (ag_ ?_ (by rw [as_ (by omega)]))
  have:=bA_gt n2 hi
  simp only [decide_eq_true_eq]
  omega
 ·unfold gB_
  refine aa_ (mk_ (by omega) (by omega)) (ac_ ?_ rfl)
  rw [bA_one n1 n2]
  rfl
theorem levels_ref {n:Nat} (hn:n≤1048576):h7_ (n:Int)=some ((hN (nP n):Nat):Int):=by
 unfold h7_
 rw [quo1024 (by omega),max_nP]
 obtain ⟨n1,n2⟩:=nP_le hn
 have h2:=hN_le (nP n)
 refine aa_ (a:=((hN (nP n):Nat):Int)) ?_ rfl
 refine aJ_ (T:=fun i=>(((bA (nP n) i:Nat):Int),(i:Int))) (hN (nP n)) (bd_ (by omega)) (fun i hi => ?_) ?_
 ·unfold h6_
  have:=bA_gt n2 hi
  refine ag_ (by simp only [decide_eq_true_eq]; omega) ?_
  have hb:=nJ_ (n:=nP n) (by omega) i
  simp only [quo32 hb,as_ (show i<9223372036854775807 by omega)]
  rfl
 ·unfold h6_
  refine ac_ ?_ rfl
  simp only [bA_one n1 n2]
  rfl
end Go.Proofs.YtebokaoegomboaaGreatDoor
namespace Go.Proofs.YtebokaoegomboaaGreatDoor
open Go.Rt Go.RowKit
end Go.Proofs.YtebokaoegomboaaGreatDoor
namespace Go.Proofs.YtebokaoegomboaaGreatDoor
open Go.Rt Go.RowKit
def cf_ {α σ ε : Type} (f : σ → α → σ ⊕ ε) : σ → List α → σ ⊕ ε
 | s,[] => .inl s
 | s,x::l=>match f s x with
  | .inl s'=>cf_ f s' l
  | .inr e => .inr e
def outS {σ ε β : Type} (fin : σ → β) (err : ε → β) : σ ⊕ ε → β
 | .inl s=>fin s
 | .inr e=>err e
def stepS {σ ε τ β : Type} (mk : σ → τ) (err : ε → β) : σ ⊕ ε → Step τ β
 | .inl s => .next (mk s)
 | .inr e => .done (err e)
theorem loop_runS {α σ ε τ β : Type} {body : τ → Option (Step τ β)} (xs:List α) (f : σ → α → σ ⊕ ε) (mk:Nat → σ → τ) (Inv:Nat → σ → Prop) (fin : σ → β) (err : ε → β) (s0 : σ) (hn:xs.length<BIG) (h0:Inv 0 s0)
  (hb:∀ i s (h:i<xs.length),Inv i s→body (mk i s)=some (stepS (mk (i+1)) err (f s xs[i]))∧∀ s',f s xs[i] = .inl s'→Inv (i+1) s')
  (he:∀ s,Inv xs.length s→body (mk xs.length s)=some (.done (fin s))):aj_ body BIG (mk 0 s0)=some (outS fin err (cf_ f s0 xs)):=by
 refine fX_ (J:=fun i t b=>∃ s,Inv i s∧t=mk i s∧b=outS fin err (cf_ f s (xs.drop i))) xs.length hn (fun t b hJ => ?_) (fun i t b hi hJ => ?_) ⟨s0,h0,rfl,by simp⟩
 ·obtain ⟨s,hI,rfl,rfl⟩:=hJ
  rw [he s hI]; simp [cf_,outS]
 ·obtain ⟨s,hI,rfl,rfl⟩:=hJ
  obtain ⟨h1,h2⟩:=hb i s hi hI
  rw [List.drop_eq_getElem_cons hi]
  simp only [cf_]
  cases hf:f s xs[i] with
  | inl s' =>
   rw [hf] at h1
   exact .inr ⟨_,h1,s',h2 s' hf,rfl,rfl⟩
  | inr b =>
   rw [hf] at h1
   exact .inl h1
theorem runS_inv' {σ ε : Type} {f : σ → Nat → σ ⊕ ε} (Inv:Nat → σ → Prop) (Q : ε → Prop):∀ {m k:Nat} {s0 : σ},Inv k s0→(∀ i s,k≤i→i<k+m→Inv i s→(∀ s',f s i = .inl s'→Inv (i+1) s')∧∀ e,f s i = .inr e→Q e) →
  (∀ s,cf_ f s0 (List.range' k m) = .inl s→Inv (k+m) s)∧∀ e,cf_ f s0 (List.range' k m) = .inr e→Q e
 | 0,k,s0,h0,_=>⟨fun s e=>by simp only [List.range',cf_,Sum.inl.injEq] at e; subst e; exact h0,fun e h=>by simp [cf_] at h⟩
 | m+1,k,s0,h0,h=>by
  obtain ⟨h1,h2⟩:=h k s0 (Nat.le_refl _) (by omega) h0
  simp only [List.range'_succ,cf_]
  cases hf:f s0 k with
  | inl s' =>
   obtain ⟨i1,i2⟩:=runS_inv' Inv Q (m:=m) (h1 s' hf) fun i s hi hi2=>h i s (by omega) (by omega)
   refine ⟨fun s e => ?_,i2⟩
   have:=i1 s e
   rwa [show k+1+m=k+(m+1) by omega] at this
  | inr e =>
   refine ⟨fun s e'=>(by cases e'),fun e' h' => ?_⟩
   obtain rfl:=Sum.inr.inj h'
   exact h2 e hf
theorem qx_ {σ ε : Type} {f : σ → Nat → σ ⊕ ε} (Inv:Nat → σ → Prop) (Q : ε → Prop) {n:Nat} {s0 : σ} (h0:Inv 0 s0) (h:∀ i s,i<n→Inv i s→(∀ s',f s i = .inl s'→Inv (i+1) s')∧∀ e,f s i = .inr e→Q e) :
  (∀ s,cf_ f s0 (List.range n) = .inl s→Inv n s)∧∀ e,cf_ f s0 (List.range n) = .inr e→Q e:=by
 have:=runS_inv' (f:=f) Inv Q (m:=n) (k:=0) (s0:=s0) h0 fun i s _ hi=>h i s (by omega)
 rwa [Nat.zero_add,← List.range_eq_range'] at this
def blk (s:api_Store) (sc:Str) (k:Int):Str × Int:=if (getB s sc k).2=1 then ([],2) else getB s sc k
theorem mQ_ {s:api_Store} (hs:StOK s) (sc:Str) (k:Int):(blk s sc k).1.length≤1024:=by
 unfold blk
 split
 ·simp
 ·unfold getB
  split
  ·simp
  ·rename_i b hb
   split
   ·simp
   ·split
    ·exact (hs.all b (nI_ hb).1).2.2.1
    ·simp
theorem ln_ {s:api_Store} (hs:StOK s) (sc:Str) {k:Int} (hk:0≤k∧k<256):ff_ s sc k=some (blk s sc k):=by
 unfold ff_ blk
 refine aa_ (ref_Get_eq hk (by have:=hs.size; omega) fun b hb=>by have:=(hs.all b hb).2.2.1; omega) ?_
 by_cases h:(getB s sc k).2=1
 ·rw [if_pos h]
  exact ag_ (by simp [h]) rfl
 ·rw [if_neg h]
  exact ac_ (by simp [h]) rfl
theorem fE_ {s:api_Store} (hs:StOK s) (sc:Str) (k:Int) {seen:List Str} (hn:seen.length≤1073741824) :
  bH_ (archive_reader.mk s seen) sc k=some (if (blk s sc k).2=0 then ((blk s sc k).1,0,archive_reader.mk s (seen++[sc])) else ([],(blk s sc k).2,archive_reader.mk s seen)):=by
 unfold bH_
 refine aa_ (Get_eq (by have:=hs.size; show s.Blocks_.length≤_; omega) fun b hb=>by have:=(hs.all b hb).2.2.1; omega) (aa_ (a:=(blk s sc k).2) ?_ ?_)
 ·unfold blk
  by_cases h:(getB s sc k).2=1
  ·rw [if_pos h]
   exact ag_ (by simp [h]) rfl
  ·rw [if_neg h]
   exact ac_ (by simp [h]) rfl
 ·by_cases h:(blk s sc k).2=0
  ·rw [if_pos h]
   refine ac_ (by simp [h]) (aa_ (cr_ (by simp; omega) (by simp; omega)) ?_)
   have:(getB s sc k).1=(blk s sc k).1:=by
    unfold blk at h ⊢
    split
    ·rename_i h1
     rw [if_pos h1] at h
     cases h
    ·rfl
   rw [this]
  ·rw [if_neg h]
   exact ag_ (by simp [h]) rfl
def ah_ (l:Nat):Nat:=1024*32 ^ l
theorem oS_ (l:Nat):1024≤ah_ l:=by
 unfold ah_
 have:1≤32 ^ l:=Nat.pos_of_ne_zero (by simp)
 omega
theorem r5_ (l:Nat):ah_ (l+1)=32*ah_ l:=by unfold ah_; rw [Nat.pow_succ]; omega
abbrev Rd:=Str × List Str × Int
def av_ (u len i:Nat):Nat:=min u (len - i*u)
def fRd (rec:Str→Nat→Nat→Nat→Rd) (d:Str) (u len a b:Nat) (acc:Str × List Str) (i:Nat):(Str × List Str) ⊕ Rd :=
 if min (b - i*u) (av_ u len i)≤min (a - i*u) (av_ u len i) then .inl acc else
  (fun r:Rd=>if r.2.2=0 then .inl (acc.1++r.1,acc.2++r.2.1) else .inr ([],acc.2++r.2.1,r.2.2)) (rec ((d.drop (32*i)).take 32) (av_ u len i) (min (a - i*u) (av_ u len i)) (min (b - i*u) (av_ u len i)))
def rdF (s:api_Store) (k:Int):Nat→Str→Nat→Nat→Nat→Rd
 | 0,sc,len,a,b=>if (blk s sc k).2=0 then (if (blk s sc k).1.length=len then (((blk s sc k).1.take b).drop a,[sc],0) else ([],[sc],2)) else ([],[],(blk s sc k).2)
 | l+1,sc,len,a,b=>if (blk s sc 2).2=0 then (if (blk s sc 2).1.length=32*((len+ah_ l - 1) / ah_ l) then outS (fun acc=>(acc.1,acc.2,0)) (fun r=>r) (cf_ (fRd (rdF s k l) (blk s sc 2).1 (ah_ l) len a b) ([],[sc]) (List.range ((len+ah_ l - 1) / ah_ l))) else ([],[sc],2)) else ([],[],(blk s sc 2).2)
def cv_:Nat→Nat
 | 0=>1
 | l+1=>1+32*cv_ l
theorem lP_ {s:api_Store} (hs:StOK s) (k:Int):∀ (l:Nat) (sc:Str) (len a b:Nat),(rdF s k l sc len a b).1.length≤ah_ l∧(rdF s k l sc len a b).2.1.length≤cv_ l
 | 0,sc,len,a,b=>by
  have:=mQ_ hs sc k
  unfold rdF
  split
  ·split
   ·simp only [List.length_drop,List.length_take,List.length_singleton,cv_]
    unfold ah_
    omega
   ·simp [cv_]
  ·simp [cv_]
 | l + 1,sc,len,a,b=>by
  have hb:=mQ_ hs sc 2
  unfold rdF
  split
  ·split
   ·rename_i hl
    have hn:(len+ah_ l - 1) / ah_ l≤32:=by omega
    generalize (len+ah_ l - 1) / ah_ l=n at *
    have h:=qx_ (f:=fRd (rdF s k l) (blk s sc 2).1 (ah_ l) len a b) (fun i acc=>acc.1.length≤i*ah_ l∧acc.2.length≤1+i*cv_ l) (fun r=>r.1.length≤ah_ (l+1)∧r.2.1.length≤cv_ (l+1)) (n:=n) (s0:=([],[sc])) ⟨by simp,by simp⟩ fun i acc hi ⟨h3,h4⟩ => ?_
    ·obtain ⟨h1,h2⟩:=h
     cases hr:cf_ (fRd (rdF s k l) (blk s sc 2).1 (ah_ l) len a b) ([],[sc]) (List.range n) with
     | inl acc =>
      obtain ⟨h3,h4⟩:=h1 acc hr
      simp only [outS,r5_,cv_]
      exact ⟨Nat.le_trans h3 (Nat.mul_le_mul_right _ hn),Nat.le_trans h4 (Nat.add_le_add_left (Nat.mul_le_mul_right _ hn) 1)⟩
     | inr r=>exact h2 r hr
    ·obtain ⟨r1,r2⟩:=lP_ hs k l (((blk s sc 2).1.drop (32*i)).take 32) (av_ (ah_ l) len i) (min (a - i*ah_ l) (av_ (ah_ l) len i)) (min (b - i*ah_ l) (av_ (ah_ l) len i))
     have e1:(i+1)*ah_ l=i*ah_ l+ah_ l:=Nat.succ_mul _ _
     have e2:(i+1)*cv_ l=i*cv_ l+cv_ l:=Nat.succ_mul _ _
     have e3:(i+1)*cv_ l≤32*cv_ l:=Nat.mul_le_mul_right _ (by omega)
     unfold fRd
     refine ⟨fun s' he => ?_,fun e he => ?_⟩
     ·split at he
      ·obtain rfl:=Sum.inl.inj he
       constructor <;> omega
      ·simp only at he
       split at he
       ·obtain rfl:=Sum.inl.inj he
        simp only [List.length_append]
        constructor <;> omega
       ·cases he
     ·split at he
      ·cases he
      ·simp only at he
       split at he
       ·cases he
       ·obtain rfl:=Sum.inr.inj he
        simp only [List.length_append,List.length_nil,cv_]
        constructor <;> omega
   ·simp only [List.length_nil,List.length_singleton,cv_]
    omega
  ·simp [cv_]
theorem unit_eq {l:Nat} (hl:l≤2):gg_ (l:Int)=some ((ah_ l:Nat):Int):=by
 have:l=0∨l=1∨l=2:=by omega
 rcases this with rfl | rfl | rfl
 ·exact (by kernel_rfl:gg_ 0=some 1024)
 ·exact (by kernel_rfl:gg_ 1=some 32768)
 ·exact (by kernel_rfl:gg_ 2=some 1048576)
theorem qy_ {l:Nat} (hl:l≤2):b7_ (l:Int)=some ((ah_ l:Nat):Int):=by
 have:l=0∨l=1∨l=2:=by omega
 rcases this with rfl | rfl | rfl
 ·exact (by kernel_rfl:b7_ 0=some 1024)
 ·exact (by kernel_rfl:b7_ 1=some 32768)
 ·exact (by kernel_rfl:b7_ 2=some 1048576)
theorem qz_ {l:Nat} (hl:l≤2):ah_ l≤1048576:=by
 have:l=0∨l=1∨l=2:=by omega
 rcases this with rfl | rfl | rfl <;> decide
theorem mR_ (a b:Nat):bJ_ (a:Int) (b:Int)=((min a b:Nat):Int):=by
 unfold bJ_
 split <;> omega
theorem max_sub (a b:Nat):cK_ ((a:Int) - (b:Int)) 0=((a - b:Nat):Int):=by
 unfold cK_
 split <;> omega
theorem pN_ {s:api_Store} (hs:StOK s) {k:Int} (hk:0≤k∧k<256) (whole:Bool):∀ (l n:Nat) {sc:Str} {len a b:Nat},l≤2→l<n→len≤1048576→a≤b→b≤len→(whole=true→a=0∧b=len) →
  ei_ n s sc k (l:Int) (len:Int) (a:Int) (b:Int) whole=some ((rdF s k l sc len a b).1,(rdF s k l sc len a b).2.2)
 | 0,n,sc,len,a,b,_,hn,hlen,hab,hb,hw=>by
  obtain ⟨n,rfl⟩:∃ m,n=m+1:=⟨n - 1,by omega⟩
  show eJ_ (ei_ n) s sc k 0 len a b whole=_
  unfold eJ_ rdF
  refine ag_ rfl (aa_ (ln_ hs sc hk) ?_)
  by_cases h:(blk s sc k).2=0
  ·rw [if_pos h]
   refine ac_ (by simp [h]) ?_
   by_cases h2:(blk s sc k).1.length=len
   ·rw [if_pos h2]
    refine ac_ (by simp [h2]) (aa_ (cc_ (by omega) (by omega) (by omega)) ?_)
    rw [Int.toNat_natCast,Int.toNat_natCast]
   ·rw [if_neg h2]
    exact ag_ (by simp; omega) rfl
  ·rw [if_neg h]
   exact ag_ (by simp [h]) rfl
 | l + 1,n,sc,len,a,b,hl,hn,hlen,hab,hb,hw=>by
  obtain ⟨n,rfl⟩:∃ m,n=m+1:=⟨n - 1,by omega⟩
  show eJ_ (ei_ n) s sc k ((l+1:Nat):Int) len a b whole=_
  have hu:=qz_ (l:=l) (by omega)
  have hu1:=oS_ l
  have hd:=mQ_ hs sc 2
  have el:w64 (((l+1:Nat):Int) - 1)=(l:Int):=by rw [am_ ⟨by omega,by omega⟩]; omega
  have eq:d4_ .i64 (w64 ((w64 ((len:Int)+((ah_ l:Nat):Int))) - 1)) ((ah_ l:Nat):Int)=some ((((len+ah_ l - 1) / ah_ l:Nat)):Int):=by
   unfold d4_
   rw [if_neg (by omega),am_ (n:=(len:Int)+((ah_ l:Nat):Int)) ⟨by omega,by omega⟩,am_ ⟨by omega,by omega⟩,Int.tdiv_eq_ediv_of_nonneg (by omega)]
   have e:((len:Int)+((ah_ l:Nat):Int) - 1)=((len+ah_ l - 1:Nat):Int):=by omega
   have:(len+ah_ l - 1) / ah_ l≤len+ah_ l - 1:=Nat.div_le_self _ _
   rw [e,← Int.natCast_ediv]
   generalize (len+ah_ l - 1) / ah_ l=q at *
   rw [c0_ ⟨by omega,by omega⟩]
  unfold eJ_
  rw [rdF]
  refine ac_ (by simp; omega) (aa_ (ln_ hs sc (by omega)) ?_)
  by_cases h:(blk s sc 2).2=0
  ·rw [if_pos h]
   refine ac_ (by simp [h]) (aa_ (by rw [el]; exact unit_eq (by omega)) (aa_ eq ?_))
   have hnb:(len+ah_ l - 1) / ah_ l≤1048576:=by
    have h3:(len+ah_ l - 1) / ah_ l≤(len+ah_ l - 1) / 1024:=Nat.div_le_div_left hu1 (by omega)
    omega
   have e32:w64 (32*(((len+ah_ l - 1) / ah_ l:Nat):Int))=((32*((len+ah_ l - 1) / ah_ l):Nat):Int):=by
    generalize (len+ah_ l - 1) / ah_ l=q at *
    rw [am_ ⟨by omega,by omega⟩]
    omega
   by_cases h2:(blk s sc 2).1.length=32*((len+ah_ l - 1) / ah_ l)
   ·rw [if_pos h2]
    refine ac_ (by rw [e32,h2]; simp) ?_
    have hn32:(len+ah_ l - 1) / ah_ l≤32:=by omega
    have hcov:∀ i,i<(len+ah_ l - 1) / ah_ l→i*ah_ l<len:=fun i hi=>by
     have h3:(i+1)*ah_ l≤len+ah_ l - 1:=Nat.le_trans (Nat.mul_le_mul_right _ (by omega:i+1≤(len+ah_ l - 1) / ah_ l)) (Nat.div_mul_le_self _ _)
     rw [Nat.succ_mul] at h3
     omega
    generalize (len+ah_ l - 1) / ah_ l=N at *
    have hsz:∀ i,i<N→bJ_ ((ah_ l:Nat):Int) (w64 ((len:Int) - w64 ((i:Int)*((ah_ l:Nat):Int))))=((av_ (ah_ l) len i:Nat):Int)∧1≤av_ (ah_ l) len i∧av_ (ah_ l) len i≤len:=fun i hi=>by
     have h3:=hcov i hi
     have e1:(i:Int)*((ah_ l:Nat):Int)=((i*ah_ l:Nat):Int):=by simp
     rw [e1,am_ (n:=((i*ah_ l:Nat):Int)) ⟨by omega,by omega⟩,am_ ⟨by omega,by omega⟩]
     have e2:(len:Int) - ((i*ah_ l:Nat):Int)=((len - i*ah_ l:Nat):Int):=by omega
     rw [e2,mR_]
     unfold av_
     exact ⟨rfl,by omega,by omega⟩
    have hcl:∀ i,i<N→∀ c:Nat,c≤len→bJ_ (cK_ (w64 ((c:Int) - w64 ((i:Int)*((ah_ l:Nat):Int)))) 0) (bJ_ ((ah_ l:Nat):Int) (w64 ((len:Int) - w64 ((i:Int)*((ah_ l:Nat):Int)))))=((min (c - i*ah_ l) (av_ (ah_ l) len i):Nat):Int):=fun i hi c hc=>by
     have h3:=hcov i hi
     rw [(hsz i hi).1]
     have e1:(i:Int)*((ah_ l:Nat):Int)=((i*ah_ l:Nat):Int):=by simp
     rw [e1,am_ (n:=((i*ah_ l:Nat):Int)) ⟨by omega,by omega⟩,am_ ⟨by omega,by omega⟩,max_sub,mR_]
    have hrec:=fun (i:Nat) (hi:i<N)=>pN_ hs hk whole l n (sc:=((blk s sc 2).1.drop (32*i)).take 32) (len:=av_ (ah_ l) len i) (a:=min (a - i*ah_ l) (av_ (ah_ l) len i)) (b:=min (b - i*ah_ l) (av_ (ah_ l) len i)) (by omega) (by omega) (by have:=(hsz i hi).2.2; omega) (by omega) (by omega)
     (fun hw'=>by
      obtain ⟨w1,w2⟩:=hw hw'
      have h3:=hcov i hi
      subst w1
      subst w2
      unfold av_
      omega)
    have hlp:=loop_runS (body:=g1_ ((N:Nat):Int) (a:Int) ((ah_ l:Nat):Int) (len:Int) (b:Int) whole ((blk s sc 2)) (ei_ n) s k ((l+1:Nat):Int)) (List.range N) (fRd (rdF s k l) (blk s sc 2).1 (ah_ l) len a b) (fun i acc=>(acc.1,(i:Int))) (fun i acc=>acc.1.length≤i*ah_ l) (fun acc=>Out.fall acc.1) (fun r=>Out.ret (([]:Str),r.2.2)) ([],[sc]) (bd_ (by simp; omega)) (by simp) (fun i acc hi hI => ?_) (fun acc hI => ?_)
    ·refine aa_ hlp ?_
     have hq:=qx_ (f:=fRd (rdF s k l) (blk s sc 2).1 (ah_ l) len a b) (fun _ _=>True) (fun r=>r.1=[]) (n:=N) (s0:=([],[sc])) trivial fun i acc hi _=>⟨fun _ _=>trivial,fun e he=>by
      unfold fRd at he
      split at he
      ·cases he
      ·simp only at he
       split at he
       ·cases he
       ·obtain rfl:=Sum.inr.inj he
        rfl⟩
     cases hr:cf_ (fRd (rdF s k l) (blk s sc 2).1 (ah_ l) len a b) ([],[sc]) (List.range N) with
     | inl acc=>rfl
     | inr r =>
      simp only [outS]
      rw [hq.2 r hr]
    ·have hi':i<N:=by simpa using hi
     rw [List.getElem_range]
     obtain ⟨z1,z2,z3⟩:=hsz i hi'
     obtain ⟨r1,_⟩:=lP_ hs k l (((blk s sc 2).1.drop (32*i)).take 32) (av_ (ah_ l) len i) (min (a - i*ah_ l) (av_ (ah_ l) len i)) (min (b - i*ah_ l) (av_ (ah_ l) len i))
     have e1:(i+1)*ah_ l=i*ah_ l+ah_ l:=Nat.succ_mul _ _
     have e2:i*ah_ l≤32*ah_ l:=Nat.mul_le_mul_right _ (by omega)
     constructor
     ·unfold g1_
      refine ag_ (by simp; omega) ?_
      rw [hcl i hi' a (by omega),hcl i hi' b hb,z1]
      unfold fRd
      by_cases hsk:min (b - i*ah_ l) (av_ (ah_ l) len i)≤min (a - i*ah_ l) (av_ (ah_ l) len i)
      ·rw [if_pos hsk]
       have hwf:whole=false:=by
        cases hwh:whole with
        | false=>rfl
        | true =>
         obtain ⟨w1,w2⟩:=hw hwh
         have h3:=hcov i hi'
         subst w1
         subst w2
         unfold av_ at hsk
         omega
       refine aa_ (a:=Out.fall acc.1) (ag_ (by rw [hwf]; simp; omega) rfl) ?_
       show some (Step.next (acc.1,w64 ((i:Int)+1)))=_
       rw [as_ (by omega)]
       rfl
      ·rw [if_neg hsk]
       have es:w64 (32*(i:Int))=((32*i:Nat):Int):=by rw [am_ ⟨by omega,by omega⟩]; omega
       have es2:w64 (((32*i:Nat):Int)+32)=((32*i+32:Nat):Int):=by rw [am_ ⟨by omega,by omega⟩]; omega
       have hsub:bl_ (blk s sc 2).1 (w64 (32*(i:Int))) (w64 ((w64 (32*(i:Int)))+32))=some (((blk s sc 2).1.drop (32*i)).take 32):=by
        rw [es,es2,cc_ (by omega) (by omega) (by omega),Int.toNat_natCast,Int.toNat_natCast,List.drop_take,Nat.add_sub_cancel_left]
       have hb1:∀ X:Option (Out Str (Str × Int)),(bif (decide (((min (a - i*ah_ l) (av_ (ah_ l) len i):Nat):Int)≥((min (b - i*ah_ l) (av_ (ah_ l) len i):Nat):Int)) && !whole) then some (Out.fall acc.1) else X)=X:=fun X=>ac_ (by simp; omega) rfl
       rw [hb1]
       have hr:=hrec i hi'
       generalize rdF s k l (((blk s sc 2).1.drop (32*i)).take 32) (av_ (ah_ l) len i) (min (a - i*ah_ l) (av_ (ah_ l) len i)) (min (b - i*ah_ l) (av_ (ah_ l) len i))=r at *
       have hl1:w64 (((l+1:Nat):Int) - 1)=(l:Int):=el
       rw [hl1]
       by_cases he:r.2.2=0
       ·simp only [if_pos he]
        refine aa_ (a:=Out.fall (acc.1++r.1)) (aa_ hsub (aa_ hr (ac_ (by simp [he]) (aa_ (io_ ?_) rfl)))) ?_
        ·show acc.1.length+r.1.length≤_
         omega
        ·show some (Step.next (acc.1++r.1,w64 ((i:Int)+1)))=_
         rw [as_ (by omega)]
         rfl
       ·simp only [if_neg he]
        exact aa_ (a:=Out.ret ([],r.2.2)) (aa_ hsub (aa_ hr (ag_ (by simp [he]) rfl))) rfl
     ·intro s' he
      unfold fRd at he
      split at he
      ·obtain rfl:=Sum.inl.inj he
       omega
      ·simp only at he
       split at he
       ·obtain rfl:=Sum.inl.inj he
        simp only [List.length_append]
        omega
       ·cases he
    ·unfold g1_
     exact ac_ (by simp) rfl
   ·rw [if_neg h2]
    refine ag_ ?_ rfl
    rw [e32]
    simp only [bne_iff_ne,ne_eq]
    omega
  ·rw [if_neg h]
   exact ag_ (by simp [h]) rfl
end Go.Proofs.YtebokaoegomboaaGreatDoor
namespace Go.Proofs.YtebokaoegomboaaGreatDoor
open Go.Rt Go.RowKit
theorem exp_eq {l L i:Nat} (hl:l≤1) (h1:1≤L) (h2:L≤1048576) (hi:i*ah_ (l+1)<L):min 32 (bA (nP L) l - 32*i)=(av_ (ah_ (l+1)) L i+ah_ l - 1) / ah_ l∧32*i<bA (nP L) l:=by
 have hl:l=0∨l=1:=by omega
 rcases hl with rfl | rfl
 ·have e1:ah_ 1=32768:=rfl
  have e0:ah_ 0=1024:=rfl
  rw [e1] at hi
  simp only [e1,e0,av_,bA,nP]
  omega
 ·have e1:ah_ 2=1048576:=rfl
  have e0:ah_ 1=32768:=rfl
  rw [e1] at hi
  simp only [e1,e0,av_,bA,nP]
  omega
theorem cntN_le {l:Nat} (hl:l≤2):cv_ l≤1057:=by
 have:l=0∨l=1∨l=2:=by omega
 rcases this with rfl | rfl | rfl <;> decide
def jX_ (s:api_Store) (k:Int) (l:Nat) (sc:Str) (L lo hi i:Nat):Rd:=rdF s k l sc (av_ (ah_ l) L i) (min (lo - i*ah_ l) (av_ (ah_ l) L i)) (min (hi - i*ah_ l) (av_ (ah_ l) L i))
theorem part_eq {s:api_Store} (hs:StOK s) (k:Int) {L lo hi:Nat} (hL:L≤1048576) (h1:lo<hi) (h2:hi≤L):∀ (l n:Nat) {sc:Str} {i:Nat} {seen:List Str},l≤2→l<n→i*ah_ l<hi→lo<i*ah_ l+ah_ l→seen.length+cv_ l≤1073741824 →
  bv_ n (archive_reader.mk s seen) (archive_span.mk k (L:Int) (lo:Int) (hi:Int)) sc (l:Int) (i:Int)=some ((jX_ s k l sc L lo hi i).1,(jX_ s k l sc L lo hi i).2.2,archive_reader.mk s (seen++(jX_ s k l sc L lo hi i).2.1))
 | 0,n,sc,i,seen,_,hn,h3,h4,h5=>by
  obtain ⟨n,rfl⟩:∃ m,n=m+1:=⟨n - 1,by omega⟩
  show bW_ (bv_ n) (archive_reader.mk s seen) _ sc 0 (i:Int)=_
  have e0:ah_ 0=1024:=rfl
  rw [e0] at h3 h4
  have ei:w64 ((i:Int)*1024)=((i*1024:Nat):Int):=by rw [am_ ⟨by omega,by omega⟩]; omega
  have hexp:bV_ (archive_span.mk k (L:Int) (lo:Int) (hi:Int)) 0 (i:Int)=some ((av_ 1024 L i:Nat):Int):=by
   unfold bV_
   refine ag_ rfl ?_
   show some (bJ_ 1024 (w64 ((L:Int) - w64 ((i:Int)*1024))))=_
   have e2:(L:Int) - ((i*1024:Nat):Int)=((L - i*1024:Nat):Int):=by omega
   rw [ei,e2,am_ ⟨by omega,by omega⟩]
   exact congrArg some (mR_ 1024 (L - i*1024))
  unfold bW_ jX_ rdF
  rw [e0]
  refine aa_ (a:=k) (ag_ rfl rfl) (aa_ (fE_ hs sc k (by simp [cv_] at h5; omega)) ?_)
  by_cases h:(blk s sc k).2=0
  ·simp only [if_pos h]
   refine ac_ rfl (aa_ hexp ?_)
   by_cases h6:(blk s sc k).1.length=av_ 1024 L i
   ·rw [if_pos h6]
    refine ac_ (by simp [h6]) (aa_ (a:=1024) (by kernel_rfl) (ag_ rfl (aa_ (a:=((blk s sc k).1.take (min (hi - i*1024) (av_ 1024 L i))).drop (min (lo - i*1024) (av_ 1024 L i))) ?_ rfl)))
    show bl_ (blk s sc k).1 (cK_ 0 (w64 ((lo:Int) - w64 ((i:Int)*1024)))) (bJ_ ((blk s sc k).1.length:Int) (w64 ((hi:Int) - w64 ((i:Int)*1024))))=_
    have e3:cK_ 0 ((lo:Int) - ((i*1024:Nat):Int))=((lo - i*1024:Nat):Int):=by
     unfold cK_
     split <;> omega
    have e4:(hi:Int) - ((i*1024:Nat):Int)=((hi - i*1024:Nat):Int):=by omega
    rw [ei,am_ (n:=(lo:Int) - ((i*1024:Nat):Int)) ⟨by omega,by omega⟩,e3,e4,am_ ⟨by omega,by omega⟩,mR_,h6]
    have e5:min (lo - i*1024) (av_ 1024 L i)=lo - i*1024:=by unfold av_; omega
    rw [e5,Nat.min_comm,cc_ (by omega) (by unfold av_; omega) (by rw [h6]; omega),Int.toNat_natCast,Int.toNat_natCast]
   ·rw [if_neg h6]
    exact ag_ (by simp; omega) rfl
  ·simp only [if_neg h]
   refine ag_ (by simp [h]) ?_
   rw [List.append_nil]
 | l + 1,n,sc,i,seen,hl,hn,h3,h4,h5=>by
  obtain ⟨n,rfl⟩:∃ m,n=m+1:=⟨n - 1,by omega⟩
  show bW_ (bv_ n) (archive_reader.mk s seen) _ sc ((l+1:Nat):Int) (i:Int)=_
  have hu:=qz_ (l:=l) (by omega)
  have hu1:=oS_ l
  have hus:=r5_ l
  have hc:=cntN_le (l:=l) (by omega)
  have hd:=mQ_ hs sc 2
  have el:w64 (((l+1:Nat):Int) - 1)=(l:Int):=by rw [am_ ⟨by omega,by omega⟩]; omega
  obtain ⟨x1,x2⟩:=exp_eq (l:=l) (L:=L) (i:=i) (by omega) (by omega) hL (by omega)
  have hiL:i≤i*ah_ (l+1):=Nat.le_mul_of_pos_right i (by omega)
  have hbb:=nJ_ (n:=nP L) (by unfold nP; omega) l
  have hexp:bV_ (archive_span.mk k (L:Int) (lo:Int) (hi:Int)) ((l+1:Nat):Int) (i:Int)=some ((32*((av_ (ah_ (l+1)) L i+ah_ l - 1) / ah_ l):Nat):Int):=by
   unfold bV_
   refine ac_ (by simp; omega) (aa_ (by rw [el]; exact mk_ (by omega) (by omega)) ?_)
   have e1:w64 ((i:Int)*32)=((i*32:Nat):Int):=by rw [am_ ⟨by omega,by omega⟩]; omega
   have e2:((bA (nP L) l:Nat):Int) - ((i*32:Nat):Int)=((bA (nP L) l - 32*i:Nat):Int):=by omega
   rw [e1,e2,am_ (n:=((bA (nP L) l - 32*i:Nat):Int)) ⟨by omega,by omega⟩]
   have e3:bJ_ 32 ((bA (nP L) l - 32*i:Nat):Int)=((min 32 (bA (nP L) l - 32*i):Nat):Int):=mR_ 32 _
   have hle:(av_ (ah_ (l+1)) L i+ah_ l - 1) / ah_ l≤32:=by rw [← x1]; omega
   rw [e3,x1]
   generalize (av_ (ah_ (l+1)) L i+ah_ l - 1) / ah_ l=q at *
   rw [am_ ⟨by omega,by omega⟩]
   rfl
  unfold bW_ jX_
  rw [rdF]
  refine aa_ (a:=2) (ac_ (by simp; omega) rfl) (aa_ (fE_ hs sc 2 (by simp [cv_] at h5; omega)) ?_)
  by_cases h:(blk s sc 2).2=0
  ·simp only [if_pos h]
   refine ac_ rfl (aa_ hexp ?_)
   by_cases h6:(blk s sc 2).1.length=32*((av_ (ah_ (l+1)) L i+ah_ l - 1) / ah_ l)
   ·rw [if_pos h6]
    refine ac_ (by rw [h6]; simp) (aa_ (qy_ hl) (ac_ (by simp; omega) ?_))
    have hlen:av_ (ah_ (l+1)) L i=min (32*ah_ l) (L - i*ah_ (l+1)):=by unfold av_; rw [hus]
    have hcov:∀ j,j<(av_ (ah_ (l+1)) L i+ah_ l - 1) / ah_ l→j*ah_ l<av_ (ah_ (l+1)) L i:=fun j hj=>by
     have h7:(j+1)*ah_ l≤av_ (ah_ (l+1)) L i+ah_ l - 1:=Nat.le_trans (Nat.mul_le_mul_right _ (by omega:j+1≤(av_ (ah_ (l+1)) L i+ah_ l - 1) / ah_ l)) (Nat.div_mul_le_self _ _)
     rw [Nat.succ_mul] at h7
     omega
    have hN:(av_ (ah_ (l+1)) L i+ah_ l - 1) / ah_ l≤32:=by rw [← x1]; omega
    generalize hlenG:av_ (ah_ (l+1)) L i=len at *
    generalize (len+ah_ l - 1) / ah_ l=N at *
    have hfrom:(32*i)*ah_ l=i*ah_ (l+1):=by rw [hus,Nat.mul_comm 32 i,Nat.mul_assoc]
    have hat:∀ j,(32*i+j)*ah_ l=i*ah_ (l+1)+j*ah_ l:=fun j=>by rw [Nat.add_mul,hfrom]
    have hju:∀ j,j<N→j*ah_ l+ah_ l≤32*ah_ l:=fun j hj=>by
     have:(j+1)*ah_ l≤32*ah_ l:=Nat.mul_le_mul_right _ (by omega)
     rwa [Nat.succ_mul] at this
    -- what a part of the part is
    have hsub:∀ j,j<N→av_ (ah_ l) len j=av_ (ah_ l) L (32*i+j):=fun j hj=>by
     have:=hju j hj
     unfold av_
     rw [hat j]
     omega
    have hab:∀ j,j<N→∀ c,min (min (c - i*ah_ (l+1)) len - j*ah_ l) (av_ (ah_ l) len j)=min (c - (32*i+j)*ah_ l) (av_ (ah_ l) L (32*i+j)):=fun j hj c=>by
     have:=hju j hj
     rw [← hsub j hj,hat j]
     unfold av_
     omega
    have hskip:∀ j,j<N→(min (hi - (32*i+j)*ah_ l) (av_ (ah_ l) L (32*i+j))≤min (lo - (32*i+j)*ah_ l) (av_ (ah_ l) L (32*i+j))↔hi≤(32*i+j)*ah_ l∨(32*i+j)*ah_ l+ah_ l≤lo):=fun j hj=>by
     have h7:=hcov j hj
     have h8:=hsub j hj
     have h9:(32*i+j)*ah_ l<L:=by rw [hat j]; omega
     unfold av_
     omega
    have hlp:=loop_runS (body:=c6_ ((blk s sc 2).1,0,archive_reader.mk s (seen++[sc])) ((l+1:Nat):Int) (i:Int) (archive_span.mk k (L:Int) (lo:Int) (hi:Int)) (bv_ n)) (List.range N) (fRd (rdF s k l) (blk s sc 2).1 (ah_ l) len (min (lo - i*ah_ (l+1)) len) (min (hi - i*ah_ (l+1)) len)) (fun j acc=>(acc.1,(j:Int),s.Cap_,s.Blocks_,seen++acc.2)) (fun j acc=>acc.1.length≤j*ah_ l∧acc.2.length≤1+j*cv_ l) (fun acc=>Out.fall (acc.1,s.Cap_,s.Blocks_,seen++acc.2)) (fun r=>Out.ret (([]:Str),r.2.2,archive_reader.mk s (seen++r.2.1))) ([],[sc]) (bd_ (by simp; omega)) (by simp) (fun j acc hj hI => ?_) (fun acc hI => ?_)
    ·refine aa_ hlp ?_
     have hq:=qx_ (f:=fRd (rdF s k l) (blk s sc 2).1 (ah_ l) len (min (lo - i*ah_ (l+1)) len) (min (hi - i*ah_ (l+1)) len)) (fun _ _=>True) (fun r=>r.1=[]) (n:=N) (s0:=([],[sc])) trivial fun i acc hi _=>⟨fun _ _=>trivial,fun e he=>by
      unfold fRd at he
      split at he
      ·cases he
      ·simp only at he
       split at he
       ·cases he
       ·obtain rfl:=Sum.inr.inj he
        rfl⟩
     cases hr:cf_ (fRd (rdF s k l) (blk s sc 2).1 (ah_ l) len (min (lo - i*ah_ (l+1)) len) (min (hi - i*ah_ (l+1)) len)) ([],[sc]) (List.range N) with
     | inl acc=>rfl
     | inr r =>
      simp only [outS]
      rw [hq.2 r hr]
    ·have hj':j<N:=by simpa using hj
     rw [List.getElem_range]
     obtain ⟨hI1,hI2⟩:=hI
     have hjl:j*cv_ l+cv_ l≤32*cv_ l:=by
      have:(j+1)*cv_ l≤32*cv_ l:=Nat.mul_le_mul_right _ (by omega)
      rwa [Nat.succ_mul] at this
     have e1:(j+1)*ah_ l=j*ah_ l+ah_ l:=Nat.succ_mul _ _
     have e1c:(j+1)*cv_ l=j*cv_ l+cv_ l:=Nat.succ_mul _ _
     have hjj:=hju j hj'
     have hc5:seen.length+(1+32*cv_ l)≤1073741824:=h5
     have hatL:(32*i+j)*ah_ l≤2097152:=by
      have h7:=hcov j hj'
      rw [hat j]
      omega
     have hrec:=fun (h8:(32*i+j)*ah_ l<hi) (h9:lo<(32*i+j)*ah_ l+ah_ l)=>part_eq hs k hL h1 h2 l n (sc:=((blk s sc 2).1.drop (32*j)).take 32) (i:=32*i+j) (seen:=seen++acc.2) (by omega) (by omega) h8 h9 (by rw [List.length_append]; omega)
     obtain ⟨r1,r2⟩:=lP_ hs k l (((blk s sc 2).1.drop (32*j)).take 32) (av_ (ah_ l) len j) (min (min (lo - i*ah_ (l+1)) len - j*ah_ l) (av_ (ah_ l) len j)) (min (min (hi - i*ah_ (l+1)) len - j*ah_ l) (av_ (ah_ l) len j))
     have hwj:w64 (w64 ((i:Int)*32)+(j:Int))=((32*i+j:Nat):Int):=by
      rw [am_ (n:=(i:Int)*32) ⟨by omega,by omega⟩,am_ ⟨by omega,by omega⟩]
      omega
     have hwat:w64 (((32*i+j:Nat):Int)*((ah_ l:Nat):Int))=(((32*i+j)*ah_ l:Nat):Int):=by
      rw [← Int.natCast_mul,am_ ⟨by omega,by omega⟩]
     constructor
     ·unfold c6_
      have hquo:IntKind.i64.wrap (((blk s sc 2).1.length:Int).tdiv 32)=((N:Nat):Int):=by
       rw [h6,Int.tdiv_eq_ediv_of_nonneg (by omega),c0_ ⟨by omega,by omega⟩]
       omega
      refine ag_ (by simp only [hquo,decide_eq_true_eq]; omega) ?_
      simp only [el,hwj]
      have hskipB:∀ X:Option (Out (Str × Int × List api_Block × List Str) (Str × Int × archive_reader)),((b7_ (l:Int)).bind fun y11=>Option.bind (bif decide (w64 (((32*i+j:Nat):Int)*y11)≥(hi:Int)) then some true else (b7_ (l:Int)).bind fun y12=>some (decide (w64 (w64 (((32*i+j:Nat):Int)*y11)+y12)≤(lo:Int)))) fun (y13:Bool)=>bif y13 then some (Out.fall (acc.1,s.Cap_,s.Blocks_,seen++acc.2)) else X)=if hi≤(32*i+j)*ah_ l∨(32*i+j)*ah_ l+ah_ l≤lo then some (Out.fall (acc.1,s.Cap_,s.Blocks_,seen++acc.2)) else X:=fun X=>by
       refine aa_ (qy_ (by omega)) ?_
       rw [hwat,qy_ (by omega)]
       have e7:w64 ((((32*i+j)*ah_ l:Nat):Int)+((ah_ l:Nat):Int))=(((32*i+j)*ah_ l+ah_ l:Nat):Int):=by rw [am_ ⟨by omega,by omega⟩]; omega
       simp only [Option.bind_some,e7]
       by_cases h8:hi≤(32*i+j)*ah_ l
       ·rw [if_pos (.inl h8)]
        exact aa_ (a:=true) (ag_ (by simp only [decide_eq_true_eq]; omega) rfl) rfl
       ·by_cases h9:(32*i+j)*ah_ l+ah_ l≤lo
        ·rw [if_pos (.inr h9)]
         exact aa_ (a:=true) (ac_ (by simp only [decide_eq_false_iff_not]; omega) (by congr 1; simp only [decide_eq_true_eq]; omega)) rfl
        ·rw [if_neg (by omega)]
         exact aa_ (a:=false) (ac_ (by simp only [decide_eq_false_iff_not]; omega) (by congr 1; simp only [decide_eq_false_iff_not]; omega)) rfl
      rw [hskipB]
      unfold fRd
      rw [hab j hj' hi,hab j hj' lo]
      by_cases hsk:min (hi - (32*i+j)*ah_ l) (av_ (ah_ l) L (32*i+j))≤min (lo - (32*i+j)*ah_ l) (av_ (ah_ l) L (32*i+j))
      ·rw [if_pos ((hskip j hj').1 hsk)]
       rw [hsub j hj',if_pos hsk]
       show some (Step.next (acc.1,w64 ((j:Int)+1),s.Cap_,s.Blocks_,seen++acc.2))=_
       rw [as_ (by omega)]
       rfl
      ·have hsk':=fun h=>hsk ((hskip j hj').2 h)
       rw [if_neg hsk']
       rw [hsub j hj',if_neg hsk]
       have es:w64 ((j:Int)*32)=((32*j:Nat):Int):=by rw [am_ ⟨by omega,by omega⟩]; omega
       have es2:w64 (w64 ((j:Int)+1)*32)=((32*j+32:Nat):Int):=by rw [as_ (by omega),am_ ⟨by omega,by omega⟩]; omega
       have hsubI:bl_ (blk s sc 2).1 (w64 ((j:Int)*32)) (w64 (w64 ((j:Int)+1)*32))=some (((blk s sc 2).1.drop (32*j)).take 32):=by
        rw [es,es2,cc_ (by omega) (by omega) (by omega),Int.toNat_natCast,Int.toNat_natCast,List.drop_take,Nat.add_sub_cancel_left]
       have hr:=hrec (Nat.lt_of_not_le fun h=>hsk' (.inl h)) (Nat.lt_of_not_le fun h=>hsk' (.inr h))
       have hrr:jX_ s k l (((blk s sc 2).1.drop (32*j)).take 32) L lo hi (32*i+j)=rdF s k l (((blk s sc 2).1.drop (32*j)).take 32) (av_ (ah_ l) L (32*i+j)) (min (lo - (32*i+j)*ah_ l) (av_ (ah_ l) L (32*i+j))) (min (hi - (32*i+j)*ah_ l) (av_ (ah_ l) L (32*i+j))):=rfl
       rw [hrr] at hr
       rw [hab j hj' hi,hab j hj' lo,hsub j hj'] at r1 r2
       generalize rdF s k l (((blk s sc 2).1.drop (32*j)).take 32) (av_ (ah_ l) L (32*i+j)) (min (lo - (32*i+j)*ah_ l) (av_ (ah_ l) L (32*i+j))) (min (hi - (32*i+j)*ah_ l) (av_ (ah_ l) L (32*i+j)))=r at *
       by_cases he:r.2.2=0
       ·simp only [if_pos he]
        refine aa_ (a:=Out.fall (acc.1++r.1,s.Cap_,s.Blocks_,seen++(acc.2++r.2.1))) (aa_ hsubI (aa_ hr (ac_ (by simp [he]) (aa_ (io_ ?_) ?_)))) ?_
        ·show acc.1.length+r.1.length≤_
         omega
        ·rw [List.append_assoc]
        ·show some (Step.next (acc.1++r.1,w64 ((j:Int)+1),s.Cap_,s.Blocks_,seen++(acc.2++r.2.1)))=_
         rw [as_ (by omega)]
         rfl
       ·simp only [if_neg he]
        refine aa_ (a:=Out.ret ([],r.2.2,archive_reader.mk s (seen++(acc.2++r.2.1)))) (aa_ hsubI (aa_ hr (ag_ (by simp [he]) ?_))) rfl
        rw [List.append_assoc]
     ·intro s' he
      unfold fRd at he
      split at he
      ·obtain rfl:=Sum.inl.inj he
       omega
      ·simp only at he
       split at he
       ·obtain rfl:=Sum.inl.inj he
        simp only [List.length_append]
        omega
       ·cases he
    ·have hquo:IntKind.i64.wrap (((blk s sc 2).1.length:Int).tdiv 32)=((N:Nat):Int):=by
      rw [h6,Int.tdiv_eq_ediv_of_nonneg (by omega),c0_ ⟨by omega,by omega⟩]
      omega
     unfold c6_
     refine ac_ ?_ rfl
     simp only [hquo,List.length_range,decide_eq_false_iff_not]
     omega
   ·rw [if_neg h6]
    refine ag_ ?_ rfl
    simp only [bne_iff_ne,ne_eq]
    omega
  ·simp only [if_neg h]
   refine ag_ (by simp [h]) ?_
   rw [List.append_nil]
def fc_ (r:api_Root):Bool:=(((r.Score_.length:Int)==32)&&decide (r.Length_≥0))&&decide (r.Length_≤1048576)&&(r.Levels_==((hN (nP r.Length_.toNat):Nat):Int))
theorem valid_eq (r:api_Root):g6_ r=some (fc_ r):=by
 unfold g6_ fc_
 cases h:(((r.Score_.length:Int)==32)&&decide (r.Length_≥0))&&decide (r.Length_≤1048576) with
 | false=>rfl
 | true =>
  simp only [Bool.and_eq_true,decide_eq_true_eq] at h
  refine aa_ (a:=(r.Levels_==((hN (nP r.Length_.toNat):Nat):Int))) (ag_ rfl ?_) rfl
  have e:r.Length_=((r.Length_.toNat:Nat):Int):=by omega
  have hh:=height_eq (n:=r.Length_.toNat) (by omega)
  rw [← e] at hh
  exact aa_ hh rfl
theorem lp_ (r:api_Root):gS_ r=some (fc_ r):=by
 unfold gS_ fc_
 cases h:(((r.Score_.length:Int)==32)&&decide (r.Length_≥0))&&decide (r.Length_≤1048576) with
 | false=>rfl
 | true =>
  simp only [Bool.and_eq_true,decide_eq_true_eq] at h
  refine aa_ (a:=(r.Levels_==((hN (nP r.Length_.toNat):Nat):Int))) (ag_ rfl ?_) rfl
  have e:r.Length_=((r.Length_.toNat:Nat):Int):=by omega
  have hh:=levels_ref (n:=r.Length_.toNat) (by omega)
  rw [← e] at hh
  exact aa_ hh rfl
theorem r6_ {r:api_Root} (h:fc_ r=true):∃ n:Nat,r.Length_=(n:Int)∧n≤1048576∧r.Levels_=((hN (nP n):Nat):Int)∧r.Score_.length=32:=by
 unfold fc_ at h
 simp only [Bool.and_eq_true,decide_eq_true_eq,beq_iff_eq] at h
 exact ⟨r.Length_.toNat,by omega,by omega,h.2,by omega⟩
def aC_ (s:api_Store) (k:Int) (r:api_Root):Rd:=if fc_ r then rdF s k (hN (nP r.Length_.toNat)) r.Score_ r.Length_.toNat 0 r.Length_.toNat else ([],[],2)
theorem hN_zero:hN (nP 0)=0:=by decide
theorem top_size {n:Nat} (hn:n≤1048576):av_ (ah_ (hN (nP n))) n 0=n:=by
 have:n≤ah_ (hN (nP n)):=by
  unfold hN nP
  split
  ·show n≤1024
   omega
  ·split
   ·show n≤32768
    omega
   ·exact hn
 unfold av_
 omega
theorem contents_eq {s:api_Store} (hs:StOK s) (k:Int) (r:api_Root) {seen:List Str} (hn:seen.length≤1073000000) :
  cM_ (archive_reader.mk s seen) r k=some ((aC_ s k r).1,(aC_ s k r).2.2,archive_reader.mk s (seen++(aC_ s k r).2.1)):=by
 unfold cM_ aC_
 refine aa_ (valid_eq r) ?_
 by_cases hr:fc_ r=true
 ·rw [hr,if_pos rfl]
  obtain ⟨n,e1,e2,e3,e4⟩:=r6_ hr
  refine ac_ rfl ?_
  have hl2:=hN_le (nP n)
  by_cases hz:n=0
  ·subst hz
   have hq:rdF s k (hN (nP r.Length_.toNat)) r.Score_ r.Length_.toNat 0 r.Length_.toNat=rdF s k 0 r.Score_ 0 0 0:=by rw [e1,Int.toNat_natCast,hN_zero]
   refine ag_ (by rw [e1]; rfl) ?_
   rw [hq]
   unfold rdF
   refine aa_ (fE_ hs r.Score_ k (by omega)) ?_
   by_cases h:(blk s r.Score_ k).2=0
   ·simp only [if_pos h]
    by_cases h6:(blk s r.Score_ k).1.length=0
    ·rw [if_pos h6]
     have h7:(blk s r.Score_ k).1=[]:=List.length_eq_zero_iff.1 h6
     refine aa_ (a:=0) (ac_ (by rw [h7]; rfl) rfl) ?_
     rw [h7]
     rfl
    ·rw [if_neg h6]
     refine aa_ (a:=2) (ag_ ?_ rfl) rfl
     have h7:(blk s r.Score_ k).1≠[]:=fun e=>h6 (by rw [e]; rfl)
     simp [h7]
   ·simp only [if_neg h]
    refine aa_ (a:=(blk s r.Score_ k).2) (ac_ (by simp) rfl) ?_
    rw [List.append_nil]
  ·refine ac_ (by rw [e1]; simp; omega) ?_
   rw [e1,e3,Int.toNat_natCast]
   have hc:=cntN_le hl2
   have h:=part_eq hs k (L:=n) (lo:=0) (hi:=n) e2 (by omega) (Nat.le_refl _) (hN (nP n)) BIG (sc:=r.Score_) (i:=0) (seen:=seen) hl2 (bd_ (by omega)) (by omega) (by have:=oS_ (hN (nP n)); omega) (by omega)
   have hp:jX_ s k (hN (nP n)) r.Score_ n 0 n 0=rdF s k (hN (nP n)) r.Score_ n 0 n:=by
    unfold jX_
    rw [top_size e2]
    simp
   rw [hp] at h
   exact aa_ h rfl
 ·rw [if_neg hr]
  have:fc_ r=false:=by simpa using hr
  rw [this]
  refine ag_ rfl ?_
  rw [List.append_nil]
theorem lQ_ {s:api_Store} (hs:StOK s) {k:Int} (hk:0≤k∧k<256) (r:api_Root):cV_ s k r=some ((aC_ s k r).1,(aC_ s k r).2.2):=by
 unfold cV_ aC_
 refine aa_ (lp_ r) ?_
 by_cases hr:fc_ r=true
 ·rw [hr,if_pos rfl]
  obtain ⟨n,e1,e2,e3,e4⟩:=r6_ hr
  have hl2:=hN_le (nP n)
  refine ac_ rfl ?_
  rw [e1,e3,Int.toNat_natCast]
  exact aa_ (pN_ hs hk true (hN (nP n)) BIG (len:=n) (a:=0) (b:=n) hl2 (bd_ (by omega)) e2 (Nat.zero_le _) (Nat.le_refl _) fun _=>⟨rfl,rfl⟩) rfl
 ·rw [if_neg hr]
  have:fc_ r=false:=by simpa using hr
  rw [this]
  exact ag_ rfl rfl
end Go.Proofs.YtebokaoegomboaaGreatDoor
namespace Go.Proofs.YtebokaoegomboaaGreatDoor
open Go.Rt Go.RowKit
end Go.Proofs.YtebokaoegomboaaGreatDoor
namespace Go.Proofs.YtebokaoegomboaaGreatDoor
open Go.Rt Go.RowKit
end Go.Proofs.YtebokaoegomboaaGreatDoor
namespace Go.Proofs.YtebokaoegomboaaGreatDoor
open Go.Rt Go.RowKit
theorem okNode_all {n:api_Node} (h:b4_ n=true):dC_ n.Mode_=true∧(0≤n.Vers_∧n.Vers_≤2147483647)∧(0≤n.Atime_∧n.Atime_≤1099511627776)∧(0≤n.Mtime_∧n.Mtime_≤1099511627776)∧n.Uid_.length≤64∧n.Gid_.length≤64∧n.Muid_.length≤64∧n.Data_.length≤65536∧(aD_ n.Mode_ 31=true→n.Data_=[]):=by
 unfold b4_ at h
 simp only [Bool.and_eq_true,decide_eq_true_eq,Bool.or_eq_true,Bool.not_eq_true',beq_iff_eq] at h
 obtain ⟨⟨⟨⟨⟨⟨h1,h2⟩,h3⟩,h4⟩,h5⟩,h6⟩,h7⟩:=h
 refine ⟨h1,h2,h3,h4,?_,?_,?_,?_,fun hd => ?_⟩
 all_goals first | omega | (rcases h7 with h7 | h7 <;> simp_all)
theorem OkT.name {l:List api_Node} {next:Int} (h:OkT l next) {n:api_Node} (hn:n∈l):n.Name_.length≤64:=by
 by_cases h1:n.Id_=1
 ·obtain ⟨r,q,rfl,h2,_,h3,_⟩:=h.root
  have:n=r:=id_inj h.srt hn List.mem_cons_self (by rw [h1,h2])
  rw [this,h3]
  decide
 ·have:=h.nam n hn h1
  unfold eS_ at this
  simp only [Bool.and_eq_true,decide_eq_true_eq] at this
  exact this.1.1.1.2
theorem child_of {l:List api_Node} {next:Int} (h:OkT l next) {id c:Int} (hc:c∈b5_ l id):∃ n∈l,n.Id_=c∧n.Parent_=id∧n.Id_≠1∧ax_ l c=(n,true)∧id<c:=by
 unfold b5_ at hc
 obtain ⟨n,hn,rfl⟩:=List.mem_map.1 hc
 obtain ⟨h1,h2⟩:=List.mem_filter.1 hn
 simp only [Bool.and_eq_true,beq_iff_eq,bne_iff_ne,ne_eq] at h2
 obtain ⟨p,_,e,hlt,_⟩:=h.par n h1 h2.2
 exact ⟨n,h1,rfl,h2.1,h2.2,qn_ h.srt h1,by omega⟩
theorem r7_ (l:List api_Node) (id:Int):(b5_ l id).length≤l.length:=by
 unfold b5_
 rw [List.length_map]
 exact List.length_filter_le _ _
theorem oT_ {α σ ε : Type} {f : σ → α → σ ⊕ ε} (Inv:Nat → σ → Prop) (Q : ε → Prop):∀ {xs:List α} {k:Nat} {s0 : σ},Inv k s0→(∀ i s x,x∈xs→Inv i s→(∀ s',f s x = .inl s'→Inv (i+1) s')∧∀ e,f s x = .inr e→Q e) →
  (∀ s,cf_ f s0 xs = .inl s→Inv (k+xs.length) s)∧∀ e,cf_ f s0 xs = .inr e→Q e
 | [],k,s0,h0,_=>⟨fun s e=>by simp only [cf_,Sum.inl.injEq] at e; subst e; exact h0,fun e h=>by simp [cf_] at h⟩
 | x::l,k,s0,h0,h=>by
  obtain ⟨h1,h2⟩:=h k s0 x List.mem_cons_self h0
  simp only [cf_]
  cases hf:f s0 x with
  | inl s' =>
   obtain ⟨i1,i2⟩:=oT_ Inv Q (xs:=l) (h1 s' hf) fun i s y hy=>h i s y (List.mem_cons_of_mem _ hy)
   refine ⟨fun s e => ?_,i2⟩
   have:=i1 s e
   rwa [show k+1+l.length=k+(x::l).length by simp; omega] at this
  | inr e =>
   refine ⟨fun s e'=>(by cases e'),fun e' h' => ?_⟩
   obtain rfl:=Sum.inr.inj h'
   exact h2 e hf
end Go.Proofs.YtebokaoegomboaaGreatDoor
