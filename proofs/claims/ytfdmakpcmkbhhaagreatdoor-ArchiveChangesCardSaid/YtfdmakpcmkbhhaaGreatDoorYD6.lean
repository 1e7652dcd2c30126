/-
 What the statements of this seat hang on, part 6: Ht Ha Hb Hc Hd Hs Hw He Hf Hg Hh Hu Hv Hx Hy.
-/
import Derived.Test.YtfdmakpcmkbhhaaGreatDoorYD5
import Derived.Sort.AssemblyPlain
import Derived.KernelRfl
import Derived.Sort.Walk0
namespace Go.Proofs.YtfdmakpcmkbhhaaGreatDoor
open Go.Rt Go.RowKit
theorem big_lt {α : Type} {l : List α} (h : l.length ≤ 9223372036854775807) : l.length < BIG := by
 have : BIG = 18446744073709551616 := rfl
 omega
section
variable {α β : Type} {eq : α → α → Bool}
theorem mput_len : ∀ {ks : List α} {vs : List β} {x : α} {v : β}, ks.length = vs.length → (mputK eq ks x).length = (mputV eq ks vs x v).length
 | [], vs, x, v, h => by cases vs with | nil => rfl | cons a l => simp at h
 | k :: ks, [], x, v, h => by simp at h
 | k :: ks, w :: vs, x, v, h => by
  have ih := mput_len (ks := ks) (vs := vs) (x := x) (v := v) (by simpa using h)
  unfold mputK at ih ⊢
  simp only [List.any_cons, mputV]
  cases hx : eq x k with
  | true => simpa using h
  | false =>
   simp only [Bool.false_or, cond_false, List.length_cons]
   cases ha : ks.any (eq x) with
   | true => rw [ha] at ih; simp only [cond_true] at ih ⊢; simpa using ih
   | false => rw [ha] at ih; simp only [cond_false] at ih ⊢; simpa using ih
theorem mputK_cons {k x : α} {ks : List α} (h : eq x k = false) : mputK eq (k :: ks) x = k :: mputK eq ks x := by
 unfold mputK
 rw [List.any_cons, h, Bool.false_or]
 cases ks.any (eq x) <;> rfl
theorem mget_put (hq : ∀ x y, eq x y = true ↔ x = y) : ∀ {ks : List α} {vs : List β} {x y : α} {v d : β}, ks.length = vs.length → mgetD eq (mputK eq ks x) (mputV eq ks vs x v) y d = bif eq y x then v else mgetD eq ks vs y d
 | [], vs, x, y, v, d, h => by
  cases vs with
  | nil => rfl
  | cons a l => simp at h
 | k :: ks, [], x, y, v, d, h => by simp at h
 | k :: ks, w :: vs, x, y, v, d, h => by
  have ih := mget_put hq (ks := ks) (vs := vs) (x := x) (y := y) (v := v) (d := d) (by simpa using h)
  cases hx : eq x k with
  | true =>
   obtain rfl := (hq x k).1 hx
   have e : mputK eq (x :: ks) x = x :: ks := by unfold mputK; rw [List.any_cons, hx]; rfl
   rw [e]
   simp only [mputV, hx, cond_true, mgetD]
   cases eq y x <;> rfl
  | false =>
   rw [mputK_cons hx]
   simp only [mputV, hx, cond_false, mgetD]
   cases hy : eq y k with
   | true =>
    obtain rfl := (hq y k).1 hy
    have : eq y x = false := by
     cases he : eq y x with
     | false => rfl
     | true => rw [(hq y x).1 he, (hq x x).2 rfl] at hx; cases hx
    rw [this]; rfl
   | false => exact ih
end
theorem eqI_iff (x y : Int) : eqI x y = true ↔ x = y := beq_iff_eq
theorem prev_get {α : Type} {ms : List α} {k : Nat} (d : α) (h0 : 0 < k) (hk : k < ms.length) (hl : ms.length ≤ 1024) : getI ms (w64 ((k : Int) - 1)) = some (ms.getD (k - 1) d) := by
 rw [w_pred h0 (by omega), getI_lt (by omega)]
 simp [List.getElem?_eq_getElem (by omega : k - 1 < ms.length)]
theorem take_succ_get {α : Type} {l : List α} {i : Nat} (h : i < l.length) : l.take (i + 1) = l.take i ++ [l[i]] := List.take_succ_eq_append_getElem h
def hasI (x : Int) (k : Nat) : Bool := decide (0 ≤ x) && x.toNat.testBit k
theorem tbit {n k : Nat} : (n / 2 ^ k % 2 == 1) = n.testBit k := by
 rw [Nat.testBit_eq_decide_div_mod_eq, Bool.eq_iff_iff]; simp
theorem hasI_nat (n k : Nat) : hasI (n : Int) k = n.testBit k := by
 unfold hasI; rw [Int.toNat_natCast]; simp
theorem hasI_neg {x : Int} (h : x < 0) (k : Nat) : hasI x k = false := by
 unfold hasI
 have : decide (0 ≤ x) = false := by simp; omega
 rw [this]; rfl
theorem has_div (x : Int) (k : Nat) (_ : k < 63) (h1 : x ≤ 9223372036854775807) : (Option.bind (bif (decide (x ≥ 0)) then Option.bind (quoI .i64 x ((2 ^ k : Nat) : Int)) fun (y1 : Int) => some ((y1.tmod 2) == 1) else some false) fun (y2 : Bool) => some y2) = some (hasI x k) := by
 by_cases h0 : 0 ≤ x
 ·obtain ⟨n, rfl⟩ : ∃ n : Nat, x = (n : Int) := ⟨x.toNat, by omega⟩
  have hpos := Nat.two_pow_pos k
  have hd : n / 2 ^ k ≤ n := Nat.div_le_self _ _
  have hq : quoI .i64 (n : Int) ((2 ^ k : Nat) : Int) = some ((n / 2 ^ k : Nat) : Int) := by
   unfold quoI
   rw [if_neg (by omega)]
   have : (n : Int).tdiv ((2 ^ k : Nat) : Int) = ((n / 2 ^ k : Nat) : Int) := rfl
   rw [this]
   generalize n / 2 ^ k = q at hd
   rw [wi64_eq (n := (q : Int)) ⟨by omega, by omega⟩]
  have h0' : decide ((n : Int) ≥ 0) = true := by simp
  rw [h0', hq, hasI_nat, ← tbit]
  simp only [cond_true, Option.bind_some]
  have : ((n / 2 ^ k : Nat) : Int).tmod 2 = ((n / 2 ^ k % 2 : Nat) : Int) := rfl
  rw [this]
  congr 1
  rw [Bool.eq_iff_iff, beq_iff_eq, beq_iff_eq]; omega
 ·have h0' : decide (x ≥ 0) = false := by simp; omega
  rw [h0', hasI_neg (by omega)]
  rfl
theorem has_lit (x : Int) (k : Nat) (hk : k < 63) (h1 : x ≤ 9223372036854775807) : (decide (x ≥ 0) && (((IntKind.i64.wrap (x.tdiv ((2 ^ k : Nat) : Int))).tmod 2) == 1)) = hasI x k := by
 have h := has_div x k hk h1
 by_cases h0 : 0 ≤ x
 ·have h0' : decide (x ≥ 0) = true := by simp; omega
  rw [h0'] at h ⊢
  have hpos := Nat.two_pow_pos k
  have hq : quoI .i64 x ((2 ^ k : Nat) : Int) = some (IntKind.i64.wrap (x.tdiv ((2 ^ k : Nat) : Int))) := by
   unfold quoI; rw [if_neg (by omega)]
  rw [hq] at h
  exact Option.some.inj h
 ·have h0' : decide (x ≥ 0) = false := by simp; omega
  rw [h0', hasI_neg (by omega)]
  rfl
theorem tree_dir_eq (x : Int) (h1 : x ≤ 9223372036854775807) : tree_directory x = some (hasI x 31) := congrArg some (has_lit x 31 (by omega) h1)
def topI (x : Int) : Int := x - x % 512
def okMode (x : Int) : Bool := decide (0 ≤ x) && ((topI x == 0) || (topI x == 2147483648) || (topI x == 1073741824) || (topI x == 536870912) || (topI x == 1610612736))
theorem okMode_lt {x : Int} (h : okMode x = true) : 0 ≤ x ∧ x < 4294967296 := by
 unfold okMode topI at h
 simp only [Bool.and_eq_true, Bool.or_eq_true, decide_eq_true_eq, beq_iff_eq] at h
 omega
theorem top_w {x : Int} (h0 : 0 ≤ x) (h1 : x ≤ 9223372036854775807) : w64 (x - (x.tmod 512)) = topI x := by
 obtain ⟨n, rfl⟩ : ∃ n : Nat, x = (n : Int) := ⟨x.toNat, by omega⟩
 have : (n : Int).tmod 512 = (n : Int) % 512 := rfl
 rw [this, w64_eq ⟨by omega, by omega⟩]
 rfl
theorem tree_valid_eq (x : Int) (h1 : x ≤ 9223372036854775807) : tree_valid x = some (okMode x) := by
 unfold tree_valid okMode
 by_cases h0 : 0 ≤ x
 ·have h0' : decide (x < 0) = false := by simp; omega
  have h0'' : decide (0 ≤ x) = true := by simpa using h0
  rw [top_w h0 h1, h0', h0'']
  cases topI x == 0 <;> cases topI x == 2147483648 <;> cases topI x == 1073741824 <;> cases topI x == 536870912 <;> cases topI x == 1610612736 <;> rfl
 ·have h0' : decide (x < 0) = true := by simp; omega
  have h0'' : decide (0 ≤ x) = false := by simp; omega
  rw [h0', h0'']
  rfl
theorem ref10_mode_eq (x : Int) (h1 : x ≤ 9223372036854775807) : ref10_Mode x = some (okMode x) := by
 unfold ref10_Mode
 by_cases h0 : 0 ≤ x ∧ x < 4294967296
 ·refine cond_f (by simp; omega) ?_
  rw [top_w h0.1 h1]
  unfold okMode
  have h0'' : decide (0 ≤ x) = true := by simpa using h0.1
  rw [h0'']; rfl
 ·have : okMode x = false := by
   cases h : okMode x with
   | false => rfl
   | true => exact absurd (okMode_lt h) h0
  rw [this]
  exact cond_t (by simp; omega) rfl
theorem isdir_eq {x : Int} (h : okMode x = true) : decide (x ≥ 2147483648) = hasI x 31 := by
 obtain ⟨h0, h1⟩ := okMode_lt h
 obtain ⟨n, rfl⟩ : ∃ n : Nat, x = (n : Int) := ⟨x.toNat, by omega⟩
 rw [hasI_nat, ← tbit, Bool.eq_iff_iff, decide_eq_true_eq, beq_iff_eq]
 omega
def okByte (b : UInt8) : Bool := decide (33 ≤ b.toNat) && decide (b.toNat ≤ 126) && (b.toNat != 47)
def okName (s : Str) : Bool := decide (1 ≤ s.length) && decide (s.length ≤ 64) && (s != [46]) && (s != [46, 46]) && s.all okByte
def gN (_ : Nat) (b : UInt8) : Option Bool := if okByte b then none else some false
theorem scan_gN : ∀ (k : Nat) (s : Str), scan gN k s = if s.all okByte then none else some false
 | _, [] => rfl
 | k, b :: s => by
  have ih := scan_gN (k + 1) s
  rw [List.all_cons]
  cases hb : okByte b with
  | true =>
   have h0 : gN k b = none := by unfold gN; rw [hb]; rfl
   simp only [scan, h0]
   rw [ih, Bool.true_and]
  | false =>
   have h0 : gN k b = some false := by unfold gN; rw [hb]; rfl
   simp only [scan, h0]
   rfl
theorem path_loop (s : Str) (h : s.length ≤ 9223372036854775807) : loopF (path_Valid_L1 s) BIG 0 = some (outO (scan gN 0 s)) := by
 refine loop_scan s gN (big_lt h) (fun i hi => ?_) ?_
 ·unfold path_Valid_L1
  rw [byteI_lt hi, lt_t hi, w_succ (by omega)]
  have e : okByte s[i] = !(decide ((s[i].toNat : Int) < 33) || decide ((s[i].toNat : Int) > 126) || (s[i].toNat : Int) == 47) := by
   unfold okByte
   rw [Bool.eq_iff_iff]
   simp only [Bool.and_eq_true, decide_eq_true_eq, bne_iff_ne, Bool.not_eq_true', Bool.or_eq_false_iff, decide_eq_false_iff_not, beq_eq_false_iff_ne]
   omega
  unfold gN
  rw [e]
  simp only [cond_true, Option.bind_some]
  cases decide ((s[i].toNat : Int) < 33) <;> cases decide ((s[i].toNat : Int) > 126) <;> cases ((s[i].toNat : Int) == 47) <;> rfl
 ·unfold path_Valid_L1; rw [lt_f]; rfl
theorem ref03_loop (s : Str) (h : s.length ≤ 9223372036854775807) : loopF (ref03_Valid_L1 s) BIG 0 = some (outO (scan gN 0 s)) := by
 rw [← path_loop s h]
 rfl
theorem path_valid (s : Str) (h : s.length ≤ 9223372036854775807) : path_Valid s = some (okName s) := by
 unfold path_Valid okName
 rw [path_loop s h, scan_gN]
 have e1 : (s == []) = !decide (1 ≤ s.length) := by cases s with | nil => rfl | cons a l => rw [Bool.eq_iff_iff]; simp
 have e2 : decide ((s.length : Int) > 64) = !decide (s.length ≤ 64) := by rw [Bool.eq_iff_iff]; simp; omega
 rw [e1, e2]
 simp only [bne, Option.bind_some]
 cases decide (1 ≤ s.length) <;> cases decide (s.length ≤ 64) <;> cases (s == [46]) <;> cases (s == [46, 46]) <;> cases s.all okByte <;> rfl
theorem ref03_valid (s : Str) (h : s.length ≤ 9223372036854775807) : ref03_Valid s = some (okName s) := by
 unfold ref03_Valid okName
 rw [ref03_loop s h, scan_gN]
 have e1 : decide ((s.length : Int) ≥ 1) = decide (1 ≤ s.length) := by rw [Bool.eq_iff_iff, decide_eq_true_eq, decide_eq_true_eq]; omega
 have e2 : decide ((s.length : Int) ≤ 64) = decide (s.length ≤ 64) := by rw [Bool.eq_iff_iff, decide_eq_true_eq, decide_eq_true_eq]; omega
 rw [e1, e2]
 simp only [bne, Option.bind_some]
 cases decide (1 ≤ s.length) <;> cases decide (s.length ≤ 64) <;> cases (s == [46]) <;> cases (s == [46, 46]) <;> cases s.all okByte <;> rfl
theorem loop_scan1 {α β : Type} {body : Int → Option (Step Int (Out Unit β))} (xs : List α) (g : Nat → α → Option β) (k : Nat) (hk : k ≤ xs.length) (hn : xs.length < BIG)
  (hb : ∀ i (h : i < xs.length), k ≤ i → body (i : Int) = some (stepO (g i xs[i]) i))
  (he : body (xs.length : Int) = some (.done (.fall ()))) : loopF body BIG (k : Int) = some (outO (scan g k (xs.drop k))) := by
 have key : ∀ (n i : Nat), i + n = xs.length → k ≤ i → loopF body (n + 1) (i : Int) = some (outO (scan g i (xs.drop i))) := by
  intro n
  induction n with
  | zero =>
   intro i hi _
   obtain rfl : i = xs.length := by omega
   rw [loopF_done he]; simp [scan, outO]
  | succ n ih =>
   intro i hi hki
   have hlt : i < xs.length := by omega
   have h1 := hb i hlt hki
   rw [List.drop_eq_getElem_cons hlt]
   simp only [scan]
   cases hg : g i xs[i] with
   | some r => rw [hg] at h1; exact loopF_done h1
   | none => rw [hg] at h1; exact loopF_step h1 (ih (i + 1) (by omega) (by omega))
 have big : ∀ {σ β : Type} {body : σ → Option (Step σ β)} {n k : Nat} {s : σ} {b : β}, loopF body n s = some b → loopF body (k + n) s = some b := by
  intro σ β body n
  induction n with
  | zero => intro k s b h; cases h
  | succ n ih =>
   intro k s b h
   rw [show k + (n + 1) = (k + n) + 1 by omega]
   simp only [loopF] at h ⊢
   split at h
   ·exact h
   ·exact ih h
   ·exact h
 have h := key (xs.length - k) k (by omega) (Nat.le_refl _)
 rw [show BIG = (BIG - (xs.length - k + 1)) + (xs.length - k + 1) by omega]
 exact big h
abbrev hasId (id : Int) (n : api_Node) : Bool := n.Id_ == id
def zeroN : api_Node := api_Node.mk 0 0 0 [] 0 [] [] [] 0 0 []
def nodeT (l : List api_Node) (id : Int) : api_Node × Bool := match l.find? (hasId id) with
 | some n => (n, true)
 | none => (zeroN, false)
theorem tree_find_eq (t : api_Tree) (f : api_Node → Option Bool) (p : api_Node → Bool) (hf : ∀ n, f n = some (p n)) (h : t.Nodes_.length ≤ 2000) : tree_find t f = some (at_ p t.Nodes_) := by
 rw [← at_getD]
 refine scan_ret (loop_scan t.Nodes_ _ (big_lt (by omega)) (fun i hi => ?_) ?_) (fun _ => rfl) rfl
 ·unfold tree_find_L1
  rw [getI_lt hi, lt_t hi, w_succ (by omega)]
  simp only [cond_true, Option.bind_some]
  refine bind_eq (hf _) ?_
  cases p t.Nodes_[i] <;> rfl
 ·unfold tree_find_L1; rw [lt_f]; rfl
theorem tree_index_eq (t : api_Tree) (id : Int) (h : t.Nodes_.length ≤ 2000) : tree_index t id = some (at_ (hasId id) t.Nodes_) := by
 unfold tree_index
 exact bind_eq (tree_find_eq t _ (hasId id) (fun n => rfl) h) rfl
theorem tree_node_eq (t : api_Tree) (id : Int) (h : t.Nodes_.length ≤ 2000) : tree_Node t id = some (nodeT t.Nodes_ id) := by
 unfold tree_Node nodeT
 refine bind_eq (tree_index_eq t id h) ?_
 rw [at_neg]
 cases hf : t.Nodes_.find? (hasId id) with
 | none => rfl
 | some n => exact cond_f rfl (bind_eq ((at_get (hasId id) _ (by rw [hf]; rfl)).trans hf) rfl)
theorem ref10_index_eq (t : api_Tree) (id : Int) (h : t.Nodes_.length ≤ 2000) : ref10_Index t id = some (at_ (hasId id) t.Nodes_) := by
 rw [← at_getD]
 refine scan_ret (loop_scan t.Nodes_ _ (big_lt (by omega)) (fun i hi => ?_) ?_) (fun _ => rfl) rfl
 ·unfold ref10_Index_L1
  rw [getI_lt hi, lt_t hi, w_succ (by omega)]
  simp only [cond_true, Option.bind_some]
  unfold hasId
  cases t.Nodes_[i].Id_ == id <;> rfl
 ·unfold ref10_Index_L1; rw [lt_f]; rfl
theorem ref10_node_eq (t : api_Tree) (id : Int) (h : t.Nodes_.length ≤ 2000) : ref10_Node t id = some (nodeT t.Nodes_ id) := by
 unfold ref10_Node nodeT
 refine bind_eq (ref10_index_eq t id h) ?_
 rw [at_neg]
 cases hf : t.Nodes_.find? (hasId id) with
 | none => rfl
 | some n => exact cond_f rfl (bind_eq ((at_get (hasId id) _ (by rw [hf]; rfl)).trans hf) rfl)
def clockI (x : Int) : Int := minI (maxI x 0) 1099511627776
def okNode (n : api_Node) : Bool := okMode n.Mode_ && (decide (0 ≤ n.Vers_) && decide (n.Vers_ ≤ 2147483647)) && (decide (0 ≤ n.Atime_) && decide (n.Atime_ ≤ 1099511627776)) && (decide (0 ≤ n.Mtime_) && decide (n.Mtime_ ≤ 1099511627776)) &&
 (decide (n.Uid_.length ≤ 64) && (decide (n.Gid_.length ≤ 64) && decide (n.Muid_.length ≤ 64))) && decide (n.Data_.length ≤ 65536) && (!(hasI n.Mode_ 31) || n.Data_ == [])
structure OkT (l : List api_Node) (next : Int) : Prop where
 srt : l.Pairwise fun a b => a.Id_ < b.Id_
 root : ∃ r q, l = r :: q ∧ r.Id_ = 1 ∧ r.Parent_ = 1 ∧ r.Name_ = [47] ∧ hasI r.Mode_ 31 = true
 flds : ∀ n ∈ l, okNode n = true
 nam : ∀ n ∈ l, n.Id_ ≠ 1 → okName n.Name_ = true
 par : ∀ n ∈ l, n.Id_ ≠ 1 → ∃ p ∈ l, p.Id_ = n.Parent_ ∧ p.Id_ < n.Id_ ∧ hasI p.Mode_ 31 = true
 uniq : ∀ a ∈ l, ∀ b ∈ l, a.Id_ ≠ 1 → b.Id_ ≠ 1 → a.Parent_ = b.Parent_ → a.Name_ = b.Name_ → a.Id_ = b.Id_
 nxt : ∀ n ∈ l, n.Id_ < next
 nx2 : next ≤ 1048576
 len : l.length ≤ 1024
theorem okNode_mode {n : api_Node} (h : okNode n = true) : okMode n.Mode_ = true := by
 unfold okNode at h
 simp only [Bool.and_eq_true] at h
 exact h.1.1.1.1.1.1
theorem id_inj {l : List api_Node} (hs : l.Pairwise fun a b => a.Id_ < b.Id_) {a b : api_Node} (ha : a ∈ l) (hb : b ∈ l) (h : a.Id_ = b.Id_) : a = b := by
 induction l with
 | nil => cases ha
 | cons x l ih =>
  obtain ⟨h1, h2⟩ := List.pairwise_cons.1 hs
  rcases List.mem_cons.1 ha with ea | ha'
  ·rcases List.mem_cons.1 hb with eb | hb'
   ·rw [ea, eb]
   ·have := h1 b hb'; rw [ea] at h; omega
  ·rcases List.mem_cons.1 hb with eb | hb'
   ·have := h1 a ha'; rw [eb] at h; omega
   ·exact ih h2 ha' hb'
theorem nodeT_some {l : List api_Node} {id : Int} (h : (nodeT l id).2 = true) : (nodeT l id).1 ∈ l ∧ (nodeT l id).1.Id_ = id := by
 unfold nodeT at h ⊢
 cases hf : l.find? (hasId id) with
 | none => rw [hf] at h; cases h
 | some n => exact ⟨List.mem_of_find?_eq_some hf, by simpa [hasId] using List.find?_some hf⟩
theorem nodeT_none {l : List api_Node} {id : Int} (h : (nodeT l id).2 = false) : (∀ n ∈ l, n.Id_ ≠ id) ∧ (nodeT l id).1 = zeroN := by
 unfold nodeT at h ⊢
 cases hf : l.find? (hasId id) with
 | none =>
  rw [List.find?_eq_none] at hf
  exact ⟨fun n hn e => hf n hn (by simpa [hasId] using e), rfl⟩
 | some n => rw [hf] at h; cases h
theorem nodeT_of {l : List api_Node} (hs : l.Pairwise fun a b => a.Id_ < b.Id_) {n : api_Node} (hn : n ∈ l) : nodeT l n.Id_ = (n, true) := by
 cases hb : (nodeT l n.Id_).2 with
 | false => exact absurd rfl ((nodeT_none hb).1 n hn)
 | true =>
  obtain ⟨h1, h2⟩ := nodeT_some hb
  exact Prod.ext (id_inj hs h1 hn h2) hb
theorem clock_ne (x : Int) : (x != clockI x) = (decide (x < 0) || decide (x > 1099511627776)) := by
 unfold clockI minI maxI
 rw [Bool.eq_iff_iff]
 simp only [bne_iff_ne, ne_eq, Bool.or_eq_true, decide_eq_true_eq]
 split <;> split <;> omega
theorem max3 (a b c : Nat) (k : Nat) : decide (maxI (maxI (a : Int) (b : Int)) (c : Int) > (k : Int)) = !(decide (a ≤ k) && (decide (b ≤ k) && decide (c ≤ k))) := by
 unfold maxI
 rw [Bool.eq_iff_iff]
 simp only [decide_eq_true_eq, Bool.not_eq_true', Bool.and_eq_false_iff, decide_eq_false_iff_not]
 split <;> split <;> omega
theorem clock_le (x : Int) : (x != clockI x) = !(decide (0 ≤ x) && decide (x ≤ 1099511627776)) := by
 rw [clock_ne, Bool.eq_iff_iff]
 simp only [Bool.or_eq_true, decide_eq_true_eq, Bool.not_eq_true', Bool.and_eq_false_iff, decide_eq_false_iff_not]
 omega
theorem tree_sound_eq (n : api_Node) (hm : n.Mode_ ≤ 9223372036854775807) : tree_sound n = some (okNode n) := by
 unfold tree_sound okNode
 refine bind_eq (tree_valid_eq _ hm) ?_
 have e1 : decide (n.Vers_ < 0) = !(decide (0 ≤ n.Vers_)) := by rw [Bool.eq_iff_iff]; simp
 have e2 : decide (n.Vers_ > 2147483647) = !(decide (n.Vers_ ≤ 2147483647)) := by rw [Bool.eq_iff_iff]; simp
 rw [e1, e2]
 cases okMode n.Mode_ with
 | false => rfl
 | true =>
  cases decide (0 ≤ n.Vers_) with
  | false => rfl
  | true =>
   cases decide (n.Vers_ ≤ 2147483647) with
   | false => rfl
   | true =>
    refine bind_eq (a := n.Atime_ != clockI n.Atime_) rfl ?_
    rw [clock_le n.Atime_]
    cases decide (0 ≤ n.Atime_) && decide (n.Atime_ ≤ 1099511627776) with
    | false => rfl
    | true =>
     refine bind_eq (a := n.Mtime_ != clockI n.Mtime_) rfl ?_
     rw [clock_le n.Mtime_]
     cases decide (0 ≤ n.Mtime_) && decide (n.Mtime_ ≤ 1099511627776) with
     | false => rfl
     | true =>
      refine cond_f rfl ?_
      rw [show (64 : Int) = ((64 : Nat) : Int) from rfl, max3]
      cases decide (n.Uid_.length ≤ 64) && (decide (n.Gid_.length ≤ 64) && decide (n.Muid_.length ≤ 64)) with
      | false => rfl
      | true =>
       have e3 : decide ((n.Data_.length : Int) > 65536) = !(decide (n.Data_.length ≤ 65536)) := by rw [Bool.eq_iff_iff]; simp; omega
       rw [e3]
       cases decide (n.Data_.length ≤ 65536) with
       | false => rfl
       | true => exact cond_f rfl (bind_eq (tree_dir_eq _ hm) (by simp))
def okNodeD (D : Bool) (n : api_Node) : Bool := okMode n.Mode_ && (decide (0 ≤ n.Vers_) && decide (n.Vers_ ≤ 2147483647)) && (decide (0 ≤ n.Atime_) && decide (n.Atime_ ≤ 1099511627776)) && (decide (0 ≤ n.Mtime_) && decide (n.Mtime_ ≤ 1099511627776)) &&
 (decide (n.Uid_.length ≤ 64) && (decide (n.Gid_.length ≤ 64) && decide (n.Muid_.length ≤ 64))) && decide (n.Data_.length ≤ 65536) && (!D || n.Data_ == [])
theorem ref10_fields_eq (n : api_Node) (hm : n.Mode_ ≤ 9223372036854775807) : ref10_fields n = some (okNode n) := by
 have e0 : okNode n = okNodeD (decide (n.Mode_ ≥ 2147483648)) n := by
  unfold okNode okNodeD
  cases hk : okMode n.Mode_ with
  | false => simp
  | true => rw [isdir_eq hk]
 rw [e0]
 unfold ref10_fields okNodeD
 refine bind_eq (ref10_mode_eq _ hm) ?_
 have e1 : decide (n.Vers_ < 0) = !(decide (0 ≤ n.Vers_)) := by rw [Bool.eq_iff_iff]; simp
 have e2 : decide (n.Vers_ > 2147483647) = !(decide (n.Vers_ ≤ 2147483647)) := by rw [Bool.eq_iff_iff]; simp
 have e3 : decide (n.Atime_ < 0) = !(decide (0 ≤ n.Atime_)) := by rw [Bool.eq_iff_iff]; simp
 have e4 : decide (n.Atime_ > 1099511627776) = !(decide (n.Atime_ ≤ 1099511627776)) := by rw [Bool.eq_iff_iff]; simp
 have e5 : decide (n.Mtime_ < 0) = !(decide (0 ≤ n.Mtime_)) := by rw [Bool.eq_iff_iff]; simp
 have e6 : decide (n.Mtime_ > 1099511627776) = !(decide (n.Mtime_ ≤ 1099511627776)) := by rw [Bool.eq_iff_iff]; simp
 have e7 : ∀ s : Str, decide ((s.length : Int) > 64) = !(decide (s.length ≤ 64)) := fun s => by rw [Bool.eq_iff_iff]; simp; omega
 have e8 : decide ((n.Data_.length : Int) > 65536) = !(decide (n.Data_.length ≤ 65536)) := by rw [Bool.eq_iff_iff]; simp; omega
 rw [e1, e2, e3, e4, e5, e6, e7, e7, e7, e8]
 cases okMode n.Mode_ <;> cases decide (0 ≤ n.Vers_) <;> cases decide (n.Vers_ ≤ 2147483647) <;> cases decide (0 ≤ n.Atime_) <;> cases decide (n.Atime_ ≤ 1099511627776) <;> cases decide (0 ≤ n.Mtime_) <;> cases decide (n.Mtime_ ≤ 1099511627776) <;> try rfl
 cases decide (n.Uid_.length ≤ 64) <;> cases decide (n.Gid_.length ≤ 64) <;> cases decide (n.Muid_.length ≤ 64) <;> cases decide (n.Data_.length ≤ 65536) <;> rfl
def prevN (l : List api_Node) (i : Nat) : api_Node := l.getD (i - 1) zeroN
def samePl (a b : api_Node) : Bool := a.Parent_ == b.Parent_ && a.Name_ == b.Name_
def StepOK (l : List api_Node) (i : Nat) (n : api_Node) : Prop := (prevN l i).Id_ < n.Id_ ∧ okName n.Name_ = true ∧ (∃ p ∈ l.take i, p.Id_ = n.Parent_ ∧ hasI p.Mode_ 31 = true) ∧ ∀ c ∈ (l.take i).drop 1, samePl c n = false
def RootOK (n : api_Node) : Prop := n.Id_ = 1 ∧ n.Parent_ = 1 ∧ n.Name_ = [47] ∧ hasI n.Mode_ 31 = true
theorem mem_take {α : Type} {l : List α} {i : Nat} {x : α} : x ∈ l.take i ↔ ∃ j, j < i ∧ l[j]? = some x := by
 rw [List.mem_iff_getElem?]
 constructor
 ·rintro ⟨j, hj⟩
  rw [List.getElem?_take] at hj
  split at hj
  ·exact ⟨j, by assumption, hj⟩
  ·cases hj
 ·rintro ⟨j, h1, h2⟩
  exact ⟨j, by rw [List.getElem?_take, if_pos h1]; exact h2⟩
theorem mem_take_drop {α : Type} {l : List α} {i : Nat} {x : α} : x ∈ (l.take i).drop 1 ↔ ∃ j, 0 < j ∧ j < i ∧ l[j]? = some x := by
 rw [List.mem_iff_getElem?]
 constructor
 ·rintro ⟨j, hj⟩
  rw [List.getElem?_drop, List.getElem?_take] at hj
  split at hj
  ·exact ⟨1 + j, by omega, by assumption, hj⟩
  ·cases hj
 ·rintro ⟨j, h0, h1, h2⟩
  exact ⟨j - 1, by rw [List.getElem?_drop, List.getElem?_take, show 1 + (j - 1) = j by omega, if_pos h1]; exact h2⟩
theorem prevN_get {l : List api_Node} {i : Nat} (h0 : 0 < i) (hi : i < l.length) : l[i - 1]? = some (prevN l i) := by
 unfold prevN
 rw [List.getD_eq_getElem?_getD, List.getElem?_eq_getElem (by omega)]; rfl
theorem srt_iff {l : List api_Node} : (l.Pairwise fun a b => a.Id_ < b.Id_) ↔ ∀ i n, 0 < i → l[i]? = some n → (prevN l i).Id_ < n.Id_ := by
 rw [List.pairwise_iff_getElem]
 constructor
 ·intro h i n h0 hn
  obtain ⟨hi, rfl⟩ := List.getElem?_eq_some_iff.1 hn
  have := prevN_get h0 hi
  obtain ⟨_, e⟩ := List.getElem?_eq_some_iff.1 this
  rw [← e]
  exact h _ _ _ _ (by omega)
 ·intro h
  have key : ∀ (d i : Nat) (hj : i + d + 1 < l.length), (l[i]'(by omega)).Id_ < (l[i + d + 1]'hj).Id_ := by
   intro d
   induction d with
   | zero =>
    intro i hj
    have := h (i + 1) _ (by omega) (List.getElem?_eq_getElem (by omega))
    have e := prevN_get (l := l) (i := i + 1) (by omega) (by omega)
    obtain ⟨_, e⟩ := List.getElem?_eq_some_iff.1 e
    rw [← e] at this
    exact this
   | succ d ih =>
    intro i hj
    have h1 := ih i (by omega)
    have := h (i + d + 1 + 1) _ (by omega) (List.getElem?_eq_getElem (by omega))
    have e := prevN_get (l := l) (i := i + d + 1 + 1) (by omega) (by omega)
    obtain ⟨_, e⟩ := List.getElem?_eq_some_iff.1 e
    rw [← e] at this
    simp only [Nat.add_sub_cancel] at this
    exact Int.lt_trans h1 this
  intro i j hi hj hij
  have := key (j - i - 1) i (by omega)
  simpa [show i + (j - i - 1) + 1 = j by omega] using this
theorem OkT_iff {l : List api_Node} {next : Int} : OkT l next ↔ 1 ≤ l.length ∧ l.length ≤ 1024 ∧ next ≤ 1048576 ∧ (∀ n, l[0]? = some n → RootOK n) ∧ (∀ n ∈ l, okNode n = true) ∧ (∀ n ∈ l, n.Id_ < next) ∧ ∀ i n, 0 < i → l[i]? = some n → StepOK l i n := by
 constructor
 ·intro h
  have hmem : ∀ {i : Nat} {n : api_Node}, l[i]? = some n → n ∈ l := fun h => List.mem_iff_getElem?.2 ⟨_, h⟩
  have lt : ∀ {i j : Nat} {a b : api_Node}, l[i]? = some a → l[j]? = some b → a.Id_ < b.Id_ → i < j := fun {i j a b} ha hb hab => by
   rcases Nat.lt_trichotomy i j with h1 | h1 | h1
   ·exact h1
   ·subst h1; rw [ha] at hb; cases hb; omega
   ·have := List.pairwise_iff_getElem.1 h.srt j i (List.getElem?_eq_some_iff.1 hb).1 (List.getElem?_eq_some_iff.1 ha).1 h1
    rw [(List.getElem?_eq_some_iff.1 ha).2, (List.getElem?_eq_some_iff.1 hb).2] at this
    omega
  have gt : ∀ {i j : Nat} {a b : api_Node}, l[i]? = some a → l[j]? = some b → i < j → a.Id_ < b.Id_ := fun {i j a b} ha hb hab => by
   have := List.pairwise_iff_getElem.1 h.srt i j (List.getElem?_eq_some_iff.1 ha).1 (List.getElem?_eq_some_iff.1 hb).1 hab
   rw [(List.getElem?_eq_some_iff.1 ha).2, (List.getElem?_eq_some_iff.1 hb).2] at this
   exact this
  obtain ⟨r, q, hl, hr⟩ := h.root
  have h0 : l[0]? = some r := by rw [hl]; rfl
  refine ⟨by rw [hl]; simp, h.len, h.nx2, fun n hn => ?_, h.flds, h.nxt, fun i n hi hn => ?_⟩
  ·rw [h0] at hn; cases hn; exact hr
  ·have h1 : n.Id_ ≠ 1 := by have := gt h0 hn hi; rw [hr.1] at this; omega
   refine ⟨srt_iff.1 h.srt i n hi hn, h.nam n (hmem hn) h1, ?_, fun c hc => ?_⟩
   ·obtain ⟨p, p1, p2, p3, p4⟩ := h.par n (hmem hn) h1
    obtain ⟨j, hj⟩ := List.mem_iff_getElem?.1 p1
    exact ⟨p, mem_take.2 ⟨j, lt hj hn p3, hj⟩, p2, p4⟩
   ·obtain ⟨j, j0, j1, hj⟩ := mem_take_drop.1 hc
    cases hs : samePl c n with
    | false => rfl
    | true =>
     unfold samePl at hs
     rw [Bool.and_eq_true, beq_iff_eq, beq_iff_eq] at hs
     have c1 : c.Id_ ≠ 1 := by have := gt h0 hj j0; rw [hr.1] at this; omega
     have := h.uniq c (hmem hj) n (hmem hn) c1 h1 hs.1 hs.2
     have := gt hj hn j1
     omega
 ·rintro ⟨h1, h2, h3, h4, h5, h6, h7⟩
  have srt : l.Pairwise fun a b => a.Id_ < b.Id_ := srt_iff.2 fun i n hi hn => (h7 i n hi hn).1
  have gt : ∀ {i j : Nat} {a b : api_Node}, l[i]? = some a → l[j]? = some b → i < j → a.Id_ < b.Id_ := fun {i j a b} ha hb hab => by
   have := List.pairwise_iff_getElem.1 srt i j (List.getElem?_eq_some_iff.1 ha).1 (List.getElem?_eq_some_iff.1 hb).1 hab
   rw [(List.getElem?_eq_some_iff.1 ha).2, (List.getElem?_eq_some_iff.1 hb).2] at this
   exact this
  cases l with
  | nil => exact absurd h1 (by simp)
  | cons r q =>
   have hr := h4 r rfl
   have pos : ∀ {i : Nat} {n : api_Node}, (r :: q)[i]? = some n → n.Id_ ≠ 1 → 0 < i := fun {i n} hn hne => by
    rcases Nat.eq_zero_or_pos i with rfl | h0
    ·cases hn; exact absurd hr.1 hne
    ·exact h0
   refine ⟨srt, ⟨r, q, rfl, hr⟩, h5, fun n hn hne => ?_, fun n hn hne => ?_, fun a ha b hb ha1 hb1 hp hnm => ?_, h6, h3, h2⟩
   ·obtain ⟨i, hi⟩ := List.mem_iff_getElem?.1 hn
    exact (h7 i n (pos hi hne) hi).2.1
   ·obtain ⟨i, hi⟩ := List.mem_iff_getElem?.1 hn
    obtain ⟨p, hp, p1, p2⟩ := (h7 i n (pos hi hne) hi).2.2.1
    obtain ⟨j, hj, e⟩ := mem_take.1 hp
    exact ⟨p, List.mem_iff_getElem?.2 ⟨_, e⟩, p1, gt e hi hj, p2⟩
   ·obtain ⟨i, hi⟩ := List.mem_iff_getElem?.1 ha
    obtain ⟨j, hj⟩ := List.mem_iff_getElem?.1 hb
    rcases Nat.lt_trichotomy i j with h | h | h
    ·have := (h7 j b (pos hj hb1) hj).2.2.2 a (mem_take_drop.2 ⟨i, pos hi ha1, h, hi⟩)
     unfold samePl at this
     rw [hp, hnm] at this
     simp at this
    ·subst h; rw [hi] at hj; cases hj; rfl
    ·have := (h7 i a (pos hi ha1) hi).2.2.2 b (mem_take_drop.2 ⟨j, pos hj hb1, h, hj⟩)
     unfold samePl at this
     rw [hp, hnm] at this
     simp at this
def CntP {κ α : Type} (eq : κ → κ → Bool) (P : κ → α → Bool) (ks : List κ) (vs : List Int) (l : List α) : Prop := ks.length = vs.length ∧ ∀ k, mgetD eq ks vs k 0 = ((l.countP (P k) : Nat) : Int)
theorem CntP.nil {κ α : Type} {eq : κ → κ → Bool} {P : κ → α → Bool} : CntP eq P [] [] [] := ⟨rfl, fun _ => by simp [mgetD]⟩
theorem CntP.put {κ α : Type} {eq : κ → κ → Bool} {P : κ → α → Bool} (hq : ∀ x y, eq x y = true ↔ x = y) {ks : List κ} {vs : List Int} {l : List α} (h : CntP eq P ks vs l) {x : α} {key : κ} (hx : ∀ k, P k x = eq k key) (hl : l.length ≤ 2000) :
  CntP eq P (mputK eq ks key) (mputV eq ks vs key (w64 (mgetD eq ks vs key 0 + 1))) (l ++ [x]) := by
 refine ⟨mput_len h.1, fun n => ?_⟩
 have hc := List.countP_le_length (p := P key) (l := l)
 rw [mget_put hq h.1, h.2 key, h.2 n, w_succ (by omega), List.countP_append]
 have e : List.countP (P n) [x] = if eq n key then 1 else 0 := by simp [List.countP_cons, hx]
 rw [e]
 cases hn : eq n key with
 | true => obtain rfl := (hq _ _).1 hn; rfl
 | false => rfl
theorem CntP.skip {κ α : Type} {eq : κ → κ → Bool} {P : κ → α → Bool} {ks : List κ} {vs : List Int} {l : List α} (h : CntP eq P ks vs l) {x : α} (hx : ∀ k, P k x = false) : CntP eq P ks vs (l ++ [x]) :=
 ⟨h.1, fun k => by rw [h.2 k, List.countP_append]; simp [hx]⟩
theorem CntP.put2 {κ α : Type} {eq : κ → κ → Bool} {P : κ → α → Bool} (hq : ∀ x y, eq x y = true ↔ x = y) {ks : List κ} {vs : List Int} {l : List α} (h : CntP eq P ks vs l) {x : α} {key : κ} (hx : ∀ k, P k x = eq k key) (hl : l.length ≤ 2000) :
  CntP eq P (mputK eq (mputK eq ks key) key) (mputV eq (mputK eq ks key) (mputV eq ks vs key (mgetD eq ks vs key 0)) key (w64 (mgetD eq ks vs key 0 + 1))) (l ++ [x]) ∧
  mgetD eq (mputK eq ks key) (mputV eq ks vs key (mgetD eq ks vs key 0)) key 0 = mgetD eq ks vs key 0 := by
 have e : ∀ n, mgetD eq (mputK eq ks key) (mputV eq ks vs key (mgetD eq ks vs key 0)) n 0 = mgetD eq ks vs n 0 := fun n => by
  rw [mget_put hq h.1]
  cases hn : eq n key with
  | true => obtain rfl := (hq _ _).1 hn; rfl
  | false => rfl
 have h' : CntP eq P (mputK eq ks key) (mputV eq ks vs key (mgetD eq ks vs key 0)) l := ⟨mput_len h.1, fun n => by rw [e]; exact h.2 n⟩
 refine ⟨?_, e key⟩
 have := h'.put hq hx hl
 rw [e key] at this
 exact this
theorem CntP.zero {κ α : Type} {eq : κ → κ → Bool} {P : κ → α → Bool} {ks : List κ} {vs : List Int} {l : List α} (h : CntP eq P ks vs l) (k : κ) : (mgetD eq ks vs k 0 == 0) = !(l.any (P k)) := by
 rw [h.2 k, Bool.eq_iff_iff, beq_iff_eq, Bool.not_eq_true', List.any_eq_false]
 have : ((l.countP (P k) : Nat) : Int) = 0 ↔ l.countP (P k) = 0 := by omega
 rw [this, List.countP_eq_zero]
theorem CntP.pos {κ α : Type} {eq : κ → κ → Bool} {P : κ → α → Bool} {ks : List κ} {vs : List Int} {l : List α} (h : CntP eq P ks vs l) (k : κ) : decide (mgetD eq ks vs k 0 > 0) = l.any (P k) := by
 rw [h.2 k, Bool.eq_iff_iff, decide_eq_true_eq, List.any_eq_true]
 have : ((l.countP (P k) : Nat) : Int) > 0 ↔ 0 < l.countP (P k) := by omega
 rw [this, List.countP_pos_iff]
def dirP (k : Int) (n : api_Node) : Bool := k == n.Id_ && hasI n.Mode_ 31
abbrev eqPl (a b : tree_place) : Bool := decide (a = b)
def plP (k : tree_place) (n : api_Node) : Bool := eqPl k (tree_place.mk n.Parent_ n.Name_)
theorem plP_same (c n : api_Node) : plP (tree_place.mk n.Parent_ n.Name_) c = samePl c n := by
 unfold plP samePl eqPl
 rw [Bool.eq_iff_iff]
 simp only [decide_eq_true_eq, tree_place.mk.injEq, Bool.and_eq_true, beq_iff_eq]
 exact ⟨fun ⟨h1, h2⟩ => ⟨h1.symm, h2.symm⟩, fun ⟨h1, h2⟩ => ⟨h1.symm, h2.symm⟩⟩
def okAt (l : List api_Node) (i : Nat) (n : api_Node) : Bool := bif i == 0 then n.Id_ == 1 && (n.Parent_ == 1 && (n.Name_ == [47] && hasI n.Mode_ 31)) else
 okName n.Name_ && ((l.take i).any (dirP n.Parent_) && !(((l.take i).drop 1).any (plP (tree_place.mk n.Parent_ n.Name_))))
def tB (l : List api_Node) (next : Int) (i : Nat) (n : api_Node) : Bool := okNode n && (decide (n.Id_ < next) && ((i == 0 || decide ((prevN l i).Id_ < n.Id_)) && okAt l i n))
def gT (l : List api_Node) (next : Int) (i : Nat) (n : api_Node) : Option Bool := if tB l next i n then none else some false
theorem drop_take_succ {l : List api_Node} {i : Nat} (hi : i < l.length) (h0 : 0 < i) : (l.take (i + 1)).drop 1 = (l.take i).drop 1 ++ [l[i]] := by
 rw [take_succ_get hi, List.drop_append, List.length_take, show (1 - min i l.length) = 0 by omega]; rfl
theorem tree_right_body (t : api_Tree) (i : Nat) (hi : i < t.Nodes_.length) (hl : t.Nodes_.length ≤ 1024) (hm : ∀ n ∈ t.Nodes_, n.Mode_ ≤ 9223372036854775807 ∧ n.Name_.length ≤ 9223372036854775807) {dk : List Int} {dv : List Int} {pk : List tree_place} {pv : List Int}
  (h1 : CntP eqI dirP dk dv (t.Nodes_.take i)) (h2 : CntP eqPl plP pk pv ((t.Nodes_.take i).drop 1)) :
  (tB t.Nodes_ t.Next_ i t.Nodes_[i] = false ∧ tree_Right_L1 t ((i : Int), dk, dv, pk, pv) = some (.done (.ret false))) ∨
  (tB t.Nodes_ t.Next_ i t.Nodes_[i] = true ∧ ∃ dk' dv' pk' pv', tree_Right_L1 t ((i : Int), dk, dv, pk, pv) = some (.next (((i + 1 : Nat) : Int), dk', dv', pk', pv')) ∧ CntP eqI dirP dk' dv' (t.Nodes_.take (i + 1)) ∧ CntP eqPl plP pk' pv' ((t.Nodes_.take (i + 1)).drop 1)) := by
 have hmem := List.getElem_mem hi
 obtain ⟨hm1, hm2⟩ := hm _ hmem
 unfold tree_Right_L1
 simp only
 rw [lt_t hi, getI_lt hi, w_succ (by omega)]
 simp only [cond_true, Option.bind_some]
 rw [tree_sound_eq _ hm1]
 simp only [Option.bind_some]
 have hnx : decide (t.Nodes_[i].Id_ ≥ t.Next_) = !(decide (t.Nodes_[i].Id_ < t.Next_)) := by rw [Bool.eq_iff_iff]; simp
 rw [hnx]
 have htk : t.Nodes_.take (i + 1) = t.Nodes_.take i ++ [t.Nodes_[i]] := take_succ_get hi
 have hdir : ∀ {A B : Option (Out ((List Int) × (List Int) × (List tree_place) × (List Int)) Bool)}, (Option.bind (tree_directory t.Nodes_[i].Mode_) fun (y22 : Bool) => bif y22 then A else B) = bif hasI t.Nodes_[i].Mode_ 31 then A else B := by
  intro A B; rw [tree_dir_eq _ hm1]; rfl
 -- the directories counted after this node
 have hD : ∃ dk' dv', (∀ (p q : _), (bif hasI t.Nodes_[i].Mode_ 31 then some (.fall (mputK eqI dk t.Nodes_[i].Id_, mputV eqI dk dv t.Nodes_[i].Id_ (w64 (mgetD eqI dk dv t.Nodes_[i].Id_ 0 + 1)), p, q)) else some (.fall (dk, dv, p, q)) : Option (Out ((List Int) × (List Int) × (List tree_place) × (List Int)) Bool)) = some (.fall (dk', dv', p, q))) ∧ CntP eqI dirP dk' dv' (t.Nodes_.take (i + 1)) := by
  rw [htk]
  cases hh : hasI t.Nodes_[i].Mode_ 31 with
  | true => exact ⟨_, _, fun p q => rfl, h1.put eqI_iff (fun k => by unfold dirP eqI; rw [hh, Bool.and_true]) (by rw [List.length_take]; omega)⟩
  | false => exact ⟨dk, dv, fun p q => rfl, h1.skip (fun k => by unfold dirP; rw [hh, Bool.and_false])⟩
 obtain ⟨dk', dv', hD1, hD2⟩ := hD
 cases ho : okNode t.Nodes_[i] with
 | false => exact .inl ⟨by unfold tB; rw [ho]; rfl, rfl⟩
 | true =>
  cases hx : decide (t.Nodes_[i].Id_ < t.Next_) with
  | false => exact .inl ⟨by unfold tB; rw [ho, hx]; rfl, rfl⟩
  | true =>
   simp only [Bool.not_true, Bool.or_self, cond_false]
   rcases Nat.eq_zero_or_pos i with rfl | h0
   ·
    have e0 : decide (((0 : Nat) : Int) > 0) = false := rfl
    have e1 : (((0 : Nat) : Int) == 0) = true := rfl
    rw [e0, e1]
    simp only [cond_false, cond_true, Option.bind_some]
    have hroot : (Option.bind (bif (((t.Nodes_[0].Id_ != 1) || (t.Nodes_[0].Parent_ != 1)) || (!(t.Nodes_[0].Name_ == [47]))) then some true else Option.bind (tree_directory t.Nodes_[0].Mode_) fun (y17 : Bool) => some (!y17)) fun (y18 : Bool) => (bif y18 then some (.ret (false)) else some (.fall ())) : Option (Out Unit Bool)) = bif okAt t.Nodes_ 0 t.Nodes_[0] then some (.fall ()) else some (.ret false) := by
     rw [tree_dir_eq _ hm1]
     unfold okAt bne
     simp only [Option.bind_some]
     cases t.Nodes_[0].Id_ == 1 <;> cases t.Nodes_[0].Parent_ == 1 <;> cases t.Nodes_[0].Name_ == [47] <;> cases hasI t.Nodes_[0].Mode_ 31 <;> rfl
    rw [hroot]
    cases hk : okAt t.Nodes_ 0 t.Nodes_[0] with
    | false => exact .inl ⟨by unfold tB; rw [ho, hx, hk]; rfl, rfl⟩
    | true =>
     refine .inr ⟨by unfold tB; rw [ho, hx, hk]; rfl, dk', dv', pk, pv, ?_, hD2, ?_⟩
     ·simp only [cond_true, Option.bind_some]
      rw [hdir, hD1]; rfl
     ·have e : (t.Nodes_.take (0 + 1)).drop 1 = (t.Nodes_.take 0).drop 1 := by rw [htk]; simp
      rw [e]; exact h2
   ·have e0 : decide ((i : Int) > 0) = true := by simpa using h0
    have e1 : ((i : Int) == 0) = false := by simp; omega
    have e2 : (i == 0) = false := by simp; omega
    have hp : getI t.Nodes_ (w64 ((i : Int) - 1)) = some (prevN t.Nodes_ i) := prev_get zeroN h0 hi hl
    rw [e0, e1, hp]
    have hle : decide (t.Nodes_[i].Id_ ≤ (prevN t.Nodes_ i).Id_) = !(decide ((prevN t.Nodes_ i).Id_ < t.Nodes_[i].Id_)) := by rw [Bool.eq_iff_iff]; simp
    simp only [cond_true, Option.bind_some]
    rw [hle]
    cases hs : decide ((prevN t.Nodes_ i).Id_ < t.Nodes_[i].Id_) with
    | false => exact .inl ⟨by unfold tB; rw [ho, hx, hs, e2]; rfl, rfl⟩
    | true =>
     simp only [Bool.not_true, cond_false]
     have hnode : (Option.bind (path_Valid t.Nodes_[i].Name_) fun (y19 : Bool) => Option.bind (bif (!y19) then some true else some ((mgetD eqI dk dv t.Nodes_[i].Parent_ 0) == 0)) fun (y20 : Bool) => Option.bind (bif y20 then some true else some (decide ((mgetD (fun (a b : tree_place) => decide (a = b)) pk pv (tree_place.mk t.Nodes_[i].Parent_ t.Nodes_[i].Name_) 0) > 0))) fun (y21 : Bool) => (bif y21 then some (.ret (false)) else some (.fall ())) : Option (Out Unit Bool)) = bif okAt t.Nodes_ i t.Nodes_[i] then some (.fall ()) else some (.ret false) := by
      rw [path_valid _ hm2]
      unfold okAt
      rw [h1.zero, e2]
      have := h2.pos (tree_place.mk t.Nodes_[i].Parent_ t.Nodes_[i].Name_)
      unfold eqPl at this
      rw [this]
      simp only [Option.bind_some, cond_false]
      cases okName t.Nodes_[i].Name_ <;> cases (t.Nodes_.take i).any (dirP t.Nodes_[i].Parent_) <;> cases ((t.Nodes_.take i).drop 1).any (plP (tree_place.mk t.Nodes_[i].Parent_ t.Nodes_[i].Name_)) <;> rfl
     rw [hnode]
     cases hk : okAt t.Nodes_ i t.Nodes_[i] with
     | false => exact .inl ⟨by unfold tB; rw [ho, hx, hk]; simp, rfl⟩
     | true =>
      obtain ⟨c1, c2⟩ := h2.put2 (x := t.Nodes_[i]) (key := tree_place.mk t.Nodes_[i].Parent_ t.Nodes_[i].Name_) (fun x y => decide_eq_true_iff) (fun k => rfl) (by rw [List.length_drop, List.length_take]; omega)
      refine .inr ⟨by unfold tB; rw [ho, hx, hk, hs]; simp, dk', dv', _, _, ?_, hD2, by rw [drop_take_succ hi h0]; exact c1⟩
      simp only [cond_true, Option.bind_some]
      rw [c2, both_self]
      simp only [Option.bind_some]
      rw [hdir, hD1]; rfl
theorem tree_right_loop (t : api_Tree) (hl : t.Nodes_.length ≤ 1024) (hm : ∀ n ∈ t.Nodes_, n.Mode_ ≤ 9223372036854775807 ∧ n.Name_.length ≤ 9223372036854775807) :
  loopF (tree_Right_L1 t) BIG (0, ([] : List Int), ([] : List Int), ([] : List tree_place), ([] : List Int)) = some (outO (scan (gT t.Nodes_ t.Next_) 0 t.Nodes_)) := by
 refine loopF_up (body := tree_Right_L1 t) (J := fun i s b => ∃ dk dv pk pv, s = ((i : Int), dk, dv, pk, pv) ∧ CntP eqI dirP dk dv (t.Nodes_.take i) ∧ CntP eqPl plP pk pv ((t.Nodes_.take i).drop 1) ∧ b = outO (scan (gT t.Nodes_ t.Next_) i (t.Nodes_.drop i))) t.Nodes_.length (big_lt (by omega)) (fun s b hJ => ?_) (fun i s b hi hJ => ?_) ⟨[], [], [], [], rfl, CntP.nil, by simp [CntP.nil], by simp⟩
 ·obtain ⟨dk, dv, pk, pv, rfl, _, _, rfl⟩ := hJ
  unfold tree_Right_L1
  simp only
  rw [lt_f]
  simp [scan, outO]
 ·obtain ⟨dk, dv, pk, pv, rfl, h1, h2, rfl⟩ := hJ
  rw [List.drop_eq_getElem_cons hi]
  rcases tree_right_body t i hi hl hm h1 h2 with ⟨hb, hr⟩ | ⟨hb, dk', dv', pk', pv', hr, h1', h2'⟩
  ·exact .inl (by rw [hr]; simp [scan, gT, hb, outO])
  ·exact .inr ⟨_, hr, dk', dv', pk', pv', rfl, h1', h2', by simp [scan, gT, hb]⟩
theorem scan_all {α : Type} {g : Nat → α → Option Bool} {p : Nat → α → Bool} (hg : ∀ i x, g i x = if p i x then none else some false) (l : List α) (k : Nat) : (scan g k l).getD true = true ↔ ∀ i x, l[i]? = some x → p (k + i) x = true := by
 cases hs : scan g k l with
 | none =>
  refine ⟨fun _ i x hx => ?_, fun _ => rfl⟩
  have := scan_none.1 hs i x hx
  rw [hg] at this
  cases hp : p (k + i) x with
  | true => rfl
  | false => rw [hp] at this; cases this
 | some r =>
  obtain ⟨i, x, hx, h1, _⟩ := scan_some hs
  rw [hg] at h1
  cases hp : p (k + i) x with
  | true => rw [hp] at h1; cases h1
  | false =>
   rw [hp] at h1
   obtain rfl : false = r := by cases h1; rfl
   refine ⟨fun h => (nomatch h), fun h => ?_⟩
   rw [h i x hx] at hp; cases hp
theorem tree_right_iff (t : api_Tree) (hl : t.Nodes_.length ≤ 1024) (hm : ∀ n ∈ t.Nodes_, n.Mode_ ≤ 9223372036854775807 ∧ n.Name_.length ≤ 9223372036854775807) : ∃ b, tree_Right t = some b ∧ (b = true ↔ OkT t.Nodes_ t.Next_) := by
 unfold tree_Right
 cases hc : ((decide ((t.Nodes_.length : Int) < 1)) || (decide ((t.Nodes_.length : Int) > 1024))) || (decide (t.Next_ > 1048576)) with
 | true =>
  refine ⟨false, cond_t rfl rfl, fun h => (nomatch h), fun h => ?_⟩
  obtain ⟨h1, h2, h3, _⟩ := OkT_iff.1 h
  simp only [Bool.or_eq_true, decide_eq_true_eq] at hc
  omega
 | false =>
  simp only [Bool.or_eq_false_iff, decide_eq_false_iff_not] at hc
  refine ⟨(scan (gT t.Nodes_ t.Next_) 0 t.Nodes_).getD true, cond_f rfl (scan_ret (tree_right_loop t hl hm) (fun _ => rfl) rfl), ?_⟩
  rw [scan_all (g := gT t.Nodes_ t.Next_) (p := tB t.Nodes_ t.Next_) (fun _ _ => rfl), OkT_iff]
  simp only [Nat.zero_add]
  have tk : ∀ i (n : api_Node), tB t.Nodes_ t.Next_ i n = true ↔ okNode n = true ∧ n.Id_ < t.Next_ ∧ (i = 0 ∨ (prevN t.Nodes_ i).Id_ < n.Id_) ∧ okAt t.Nodes_ i n = true := fun i n => by
   unfold tB
   simp only [Bool.and_eq_true, Bool.or_eq_true, decide_eq_true_eq, beq_iff_eq]
  have ok0 : ∀ n, okAt t.Nodes_ 0 n = true ↔ RootOK n := fun n => by
   unfold okAt RootOK
   simp only [beq_self_eq_true, cond_true, Bool.and_eq_true, beq_iff_eq]
  have okS : ∀ i n, 0 < i → (okAt t.Nodes_ i n = true ↔ okName n.Name_ = true ∧ (∃ p ∈ t.Nodes_.take i, p.Id_ = n.Parent_ ∧ hasI p.Mode_ 31 = true) ∧ ∀ c ∈ (t.Nodes_.take i).drop 1, samePl c n = false) := fun i n h0 => by
   unfold okAt
   rw [show (i == 0) = false by simp; omega]
   simp only [cond_false, Bool.and_eq_true, Bool.not_eq_true', List.any_eq_true, List.any_eq_false, plP_same, dirP, beq_iff_eq, Bool.not_eq_true]
   constructor
   ·rintro ⟨h1, ⟨p, p1, p2, p3⟩, h3⟩
    exact ⟨h1, ⟨p, p1, p2.symm, p3⟩, h3⟩
   ·rintro ⟨h1, ⟨p, p1, p2, p3⟩, h3⟩
    exact ⟨h1, ⟨p, p1, p2.symm, p3⟩, h3⟩
  constructor
  ·intro h
   refine ⟨by omega, by omega, by omega, fun n hn => (ok0 n).1 ((tk 0 n).1 (h 0 n hn)).2.2.2, fun n hn => ?_, fun n hn => ?_, fun i n h0 hn => ?_⟩
   ·obtain ⟨i, hi⟩ := List.mem_iff_getElem?.1 hn
    exact ((tk i n).1 (h i n hi)).1
   ·obtain ⟨i, hi⟩ := List.mem_iff_getElem?.1 hn
    exact ((tk i n).1 (h i n hi)).2.1
   ·obtain ⟨a, b, c, d⟩ := (tk i n).1 (h i n hn)
    exact ⟨c.resolve_left (by omega), (okS i n h0).1 d⟩
  ·rintro ⟨h1, h2, h3, h4, h5, h6, h7⟩ i n hn
   have hm := List.mem_iff_getElem?.2 ⟨_, hn⟩
   rcases Nat.eq_zero_or_pos i with rfl | h0
   ·exact (tk 0 n).2 ⟨h5 n hm, h6 n hm, .inl rfl, (ok0 n).2 (h4 n hn)⟩
   ·obtain ⟨a, b⟩ := h7 i n h0 hn
    exact (tk i n).2 ⟨h5 n hm, h6 n hm, .inr a, (okS i n h0).2 b⟩
def dirD (n c : api_Node) : Bool := c.Id_ == n.Parent_ && decide (c.Mode_ ≥ 2147483648)
theorem ref10_inner (t : api_Tree) (i : Nat) (hi : i < t.Nodes_.length) (hl : t.Nodes_.length ≤ 1024) :
  loopF (ref10_Right_L1 (i : Int) t) BIG (false, 0) = some (bif ((t.Nodes_.take i).drop 1).any (fun c => samePl c t.Nodes_[i]) then .ret false else .fall ((t.Nodes_.take i).any (dirD t.Nodes_[i]))) := by
 refine loopF_up (body := ref10_Right_L1 (i : Int) t) (J := fun j s b => j ≤ i ∧ s = ((t.Nodes_.take j).any (dirD t.Nodes_[i]), (j : Int)) ∧ ((t.Nodes_.take j).drop 1).any (fun c => samePl c t.Nodes_[i]) = false ∧ b = bif ((t.Nodes_.take i).drop 1).any (fun c => samePl c t.Nodes_[i]) then .ret false else .fall ((t.Nodes_.take i).any (dirD t.Nodes_[i]))) i (by show i < 18446744073709551616; omega) (fun s b hJ => ?_) (fun j s b hj hJ => ?_) ⟨Nat.zero_le _, rfl, by simp, rfl⟩
 ·obtain ⟨_, rfl, h2, rfl⟩ := hJ
  rw [h2]
  unfold ref10_Right_L1
  simp only
  rw [lt_f]; rfl
 ·obtain ⟨_, rfl, h2, rfl⟩ := hJ
  have hjl : j < t.Nodes_.length := by omega
  have htk : t.Nodes_.take (j + 1) = t.Nodes_.take j ++ [t.Nodes_[j]] := take_succ_get hjl
  have hany : (t.Nodes_.take (j + 1)).any (dirD t.Nodes_[i]) = ((t.Nodes_.take j).any (dirD t.Nodes_[i]) || dirD t.Nodes_[i] t.Nodes_[j]) := by rw [htk, List.any_append]; simp
  have hbody : ref10_Right_L1 (i : Int) t ((t.Nodes_.take j).any (dirD t.Nodes_[i]), (j : Int)) = bif (decide (0 < j) && samePl t.Nodes_[j] t.Nodes_[i]) then some (.done (.ret false)) else some (.next ((t.Nodes_.take (j + 1)).any (dirD t.Nodes_[i]), ((j + 1 : Nat) : Int))) := by
   unfold ref10_Right_L1
   simp only
   rw [lt_t hj, getI_lt hjl, getI_lt hi, w_succ (by omega), hany]
   have e0 : decide ((j : Int) > 0) = decide (0 < j) := by rw [Bool.eq_iff_iff]; simp
   rw [e0]
   unfold dirD samePl ref10_IsDir
   simp only [cond_true, Option.bind_some]
   cases (t.Nodes_.take j).any fun c => c.Id_ == t.Nodes_[i].Parent_ && decide (c.Mode_ ≥ 2147483648) <;> cases t.Nodes_[j].Id_ == t.Nodes_[i].Parent_ <;> cases decide (t.Nodes_[j].Mode_ ≥ 2147483648) <;> cases decide (0 < j) <;> cases t.Nodes_[j].Parent_ == t.Nodes_[i].Parent_ <;> cases t.Nodes_[j].Name_ == t.Nodes_[i].Name_ <;> rfl
  cases hd : decide (0 < j) && samePl t.Nodes_[j] t.Nodes_[i] with
  | true =>
   rw [hd] at hbody
   refine .inl ?_
   rw [hbody]
   rw [Bool.and_eq_true, decide_eq_true_eq] at hd
   have : ((t.Nodes_.take i).drop 1).any (fun c => samePl c t.Nodes_[i]) = true := List.any_eq_true.2 ⟨_, mem_take_drop.2 ⟨j, hd.1, hj, List.getElem?_eq_getElem hjl⟩, hd.2⟩
   rw [this]; rfl
  | false =>
   rw [hd] at hbody
   refine .inr ⟨_, hbody, by omega, rfl, ?_, rfl⟩
   rcases Nat.eq_zero_or_pos j with rfl | h0
   ·rw [htk]; simp
   ·rw [drop_take_succ hjl h0, List.any_append, h2]
    rw [show decide (0 < j) = true by simpa using h0, Bool.true_and] at hd
    simpa using hd
def rB (l : List api_Node) (i : Nat) (n : api_Node) : Bool := decide ((prevN l i).Id_ < n.Id_) && (decide (n.Parent_ < n.Id_) && (okName n.Name_ && (okNode n && (!(((l.take i).drop 1).any fun c => samePl c n) && (l.take i).any (dirD n)))))
def gR (l : List api_Node) (i : Nat) (n : api_Node) : Option Bool := if rB l i n then none else some false
theorem ref10_right_loop (t : api_Tree) (hl : t.Nodes_.length ≤ 1024) (h1 : 1 ≤ t.Nodes_.length) (hm : ∀ n ∈ t.Nodes_, n.Mode_ ≤ 9223372036854775807 ∧ n.Name_.length ≤ 9223372036854775807) :
  loopF (ref10_Right_L2 t) BIG 1 = some (outO (scan (gR t.Nodes_) 1 (t.Nodes_.drop 1))) := by
 refine loop_scan1 t.Nodes_ (gR t.Nodes_) 1 h1 (big_lt (by omega)) (fun i hi h0 => ?_) ?_
 ·have hmem := List.getElem_mem hi
  obtain ⟨hm1, hm2⟩ := hm _ hmem
  unfold ref10_Right_L2
  have hp : getI t.Nodes_ (w64 ((i : Int) - 1)) = some (prevN t.Nodes_ i) := prev_get zeroN h0 hi hl
  rw [lt_t hi, getI_lt hi, hp, w_succ (by omega)]
  simp only [cond_true, Option.bind_some]
  rw [ref03_valid _ hm2, ref10_fields_eq _ hm1]
  simp only [Option.bind_some]
  rw [ref10_inner t i hi hl]
  have e1 : decide (t.Nodes_[i].Id_ ≤ (prevN t.Nodes_ i).Id_) = !(decide ((prevN t.Nodes_ i).Id_ < t.Nodes_[i].Id_)) := by rw [Bool.eq_iff_iff]; simp
  have e2 : decide (t.Nodes_[i].Parent_ ≥ t.Nodes_[i].Id_) = !(decide (t.Nodes_[i].Parent_ < t.Nodes_[i].Id_)) := by rw [Bool.eq_iff_iff]; simp
  rw [e1, e2]
  unfold gR rB
  cases decide ((prevN t.Nodes_ i).Id_ < t.Nodes_[i].Id_) <;> cases decide (t.Nodes_[i].Parent_ < t.Nodes_[i].Id_) <;> cases okName t.Nodes_[i].Name_ <;> cases okNode t.Nodes_[i] <;> try rfl
  cases ((t.Nodes_.take i).drop 1).any fun c => samePl c t.Nodes_[i] <;> cases (t.Nodes_.take i).any (dirD t.Nodes_[i]) <;> rfl
 ·unfold ref10_Right_L2; rw [lt_f]; rfl
theorem last_lt {l : List api_Node} (hs : l.Pairwise fun a b => a.Id_ < b.Id_) {x : api_Node} (hx : l[l.length - 1]? = some x) (next : Int) : (∀ n ∈ l, n.Id_ < next) ↔ x.Id_ < next := by
 constructor
 ·exact fun h => h x (List.mem_iff_getElem?.2 ⟨_, hx⟩)
 ·intro h n hn
  obtain ⟨i, hi⟩ := List.mem_iff_getElem?.1 hn
  obtain ⟨h1, e1⟩ := List.getElem?_eq_some_iff.1 hi
  obtain ⟨h2, e2⟩ := List.getElem?_eq_some_iff.1 hx
  rcases Nat.lt_or_ge i (l.length - 1) with hlt | hge
  ·have := List.pairwise_iff_getElem.1 hs i (l.length - 1) h1 h2 hlt
   rw [e1, e2] at this
   omega
  ·obtain rfl : i = l.length - 1 := by omega
   rw [hi] at hx; cases hx; exact h
def rootD (r : api_Node) : Bool := r.Id_ == 1 && (r.Parent_ == 1 && (r.Name_ == [47] && (decide (2147483648 ≤ r.Mode_) && okNode r)))
theorem ref10_right_iff (t : api_Tree) (hl : t.Nodes_.length ≤ 1024) (hm : ∀ n ∈ t.Nodes_, n.Mode_ ≤ 9223372036854775807 ∧ n.Name_.length ≤ 9223372036854775807) : ∃ b, ref10_Right t = some b ∧ (b = true ↔ OkT t.Nodes_ t.Next_) := by
 rcases Nat.eq_zero_or_pos t.Nodes_.length with h0 | h0
 ·refine ⟨false, ?_, fun h => (nomatch h), fun h => ?_⟩
  ·unfold ref10_Right
   rw [show decide ((t.Nodes_.length : Int) < 1) = true by simp; omega]
   rfl
  ·have := (OkT_iff.1 h).1; omega
 ·obtain ⟨r, hr⟩ : ∃ r, t.Nodes_[0]? = some r := ⟨_, List.getElem?_eq_getElem h0⟩
  obtain ⟨z, hz⟩ : ∃ z, t.Nodes_[t.Nodes_.length - 1]? = some z := ⟨_, List.getElem?_eq_getElem (by omega)⟩
  have gr : getI t.Nodes_ 0 = some r := (getI_nat t.Nodes_ 0).trans hr
  have gz : getI t.Nodes_ (w64 ((t.Nodes_.length : Int) - 1)) = some z := by rw [w_pred h0 (by omega), getI_nat]; exact hz
  have hrm := List.mem_iff_getElem?.2 ⟨_, hr⟩
  have hlen : ((decide ((t.Nodes_.length : Int) < 1)) || (decide ((t.Nodes_.length : Int) > 1024))) = false := by simp; omega
  have ev : ref10_Right t = bif rootD r then (bif ((decide (t.Next_ ≤ z.Id_)) || (decide (t.Next_ > 1048576))) then some false else some ((scan (gR t.Nodes_) 1 (t.Nodes_.drop 1)).getD true)) else some false := by
   unfold ref10_Right
   rw [hlen, gr, gz]
   have e1 : decide (r.Mode_ < 2147483648) = !(decide (2147483648 ≤ r.Mode_)) := by rw [Bool.eq_iff_iff]; simp
   simp only [cond_false, Option.bind_some]
   rw [ref10_fields_eq _ (hm r hrm).1, e1]
   simp only [Option.bind_some]
   unfold rootD bne
   cases r.Id_ == 1 <;> cases r.Parent_ == 1 <;> cases r.Name_ == [47] <;> cases decide (2147483648 ≤ r.Mode_) <;> cases okNode r <;> try rfl
   cases hN : (decide (t.Next_ ≤ z.Id_)) || (decide (t.Next_ > 1048576)) with
   | true => rfl
   | false =>
    show (Option.bind (loopF (ref10_Right_L2 t) BIG 1) fun (wo3 : Out Unit Bool) => match wo3 with | .ret r3 => some r3 | .fall _ => some true) = some ((scan (gR t.Nodes_) 1 (t.Nodes_.drop 1)).getD true)
    exact scan_ret (ref10_right_loop t hl h0 hm) (fun _ => rfl) rfl
  have hroot : rootD r = true ↔ RootOK r ∧ okNode r = true := by
   unfold rootD RootOK
   simp only [Bool.and_eq_true, beq_iff_eq, decide_eq_true_eq]
   constructor
   ·rintro ⟨h1, h2, h3, h4, h5⟩
    have := isdir_eq (okNode_mode h5)
    exact ⟨⟨h1, h2, h3, by rw [← this]; simpa using h4⟩, h5⟩
   ·rintro ⟨⟨h1, h2, h3, h4⟩, h5⟩
    have := isdir_eq (okNode_mode h5)
    rw [h4] at this
    exact ⟨h1, h2, h3, by simpa using this, h5⟩
  rw [OkT_iff]
  cases hR : rootD r with
  | false =>
   refine ⟨false, by rw [ev, hR]; rfl, fun h => (nomatch h), fun ⟨_, _, _, h4, h5, _⟩ => ?_⟩
   rw [hroot.2 ⟨h4 r hr, h5 r hrm⟩] at hR; cases hR
  | true =>
   obtain ⟨hr1, hr2⟩ := hroot.1 hR
   cases hN : (decide (t.Next_ ≤ z.Id_)) || (decide (t.Next_ > 1048576)) with
   | true =>
    refine ⟨false, by rw [ev, hR, hN]; rfl, fun h => (nomatch h), fun ⟨_, _, h3, _, _, h6, _⟩ => ?_⟩
    have := h6 z (List.mem_iff_getElem?.2 ⟨_, hz⟩)
    simp only [Bool.or_eq_true, decide_eq_true_eq] at hN
    omega
   | false =>
    refine ⟨(scan (gR t.Nodes_) 1 (t.Nodes_.drop 1)).getD true, by rw [ev, hR, hN]; rfl, ?_⟩
    simp only [Bool.or_eq_false_iff, decide_eq_false_iff_not] at hN
    rw [scan_all (g := gR t.Nodes_) (p := rB t.Nodes_) (fun _ _ => rfl)]
    have rk : ∀ i (n : api_Node), rB t.Nodes_ i n = true ↔ (prevN t.Nodes_ i).Id_ < n.Id_ ∧ n.Parent_ < n.Id_ ∧ okName n.Name_ = true ∧ okNode n = true ∧ (∀ c ∈ (t.Nodes_.take i).drop 1, samePl c n = false) ∧ ∃ p ∈ t.Nodes_.take i, p.Id_ = n.Parent_ ∧ 2147483648 ≤ p.Mode_ := fun i n => by
     unfold rB
     simp only [Bool.and_eq_true, decide_eq_true_eq, Bool.not_eq_true', List.any_eq_true, List.any_eq_false, dirD, beq_iff_eq, Bool.not_eq_true, ge_iff_le]
    have nth : ∀ i n, (t.Nodes_.drop 1)[i]? = some n ↔ t.Nodes_[1 + i]? = some n := fun i n => by rw [List.getElem?_drop]
    constructor
    ·intro h
     have h' : ∀ i n, 0 < i → t.Nodes_[i]? = some n → rB t.Nodes_ i n = true := fun i n h0 hn => by
      have := h (i - 1) n ((nth _ _).2 (by rw [show 1 + (i - 1) = i by omega]; exact hn))
      rwa [show 1 + (i - 1) = i by omega] at this
     have flds : ∀ n ∈ t.Nodes_, okNode n = true := fun n hn => by
      obtain ⟨i, hi⟩ := List.mem_iff_getElem?.1 hn
      rcases Nat.eq_zero_or_pos i with rfl | h0
      ·rw [hr] at hi; cases hi; exact hr2
      ·exact ((rk i n).1 (h' i n h0 hi)).2.2.2.1
     refine ⟨h0, by omega, by omega, fun n hn => by rw [hr] at hn; cases hn; exact hr1, flds, ?_, fun i n h0 hn => ?_⟩
     ·exact (last_lt (srt_iff.2 fun i n h0 hn => ((rk i n).1 (h' i n h0 hn)).1) hz _).2 (by omega)
     ·obtain ⟨a, b, c, d, e, p, p1, p2, p3⟩ := (rk i n).1 (h' i n h0 hn)
      refine ⟨a, c, ⟨p, p1, p2, ?_⟩, e⟩
      rw [← isdir_eq (okNode_mode (flds p (List.mem_of_mem_take p1)))]
      simpa using p3
    ·intro h i n hn
     have ht := OkT_iff.2 h
     obtain ⟨_, _, _, _, h5, _, h7⟩ := h
     have hn' := (nth _ _).1 hn
     obtain ⟨a, b, ⟨p, p1, p2, p3⟩, d⟩ := h7 (1 + i) n (by omega) hn'
     refine (rk (1 + i) n).2 ⟨a, ?_, b, h5 n (List.mem_iff_getElem?.2 ⟨_, hn'⟩), d, p, p1, p2, ?_⟩
     ·obtain ⟨j, j1, j2⟩ := mem_take.1 p1
      rw [← p2]
      obtain ⟨q1, e1⟩ := List.getElem?_eq_some_iff.1 j2
      obtain ⟨q2, e2⟩ := List.getElem?_eq_some_iff.1 hn'
      have := List.pairwise_iff_getElem.1 ht.srt j (1 + i) q1 q2 j1
      rwa [e1, e2] at this
     ·rw [← isdir_eq (okNode_mode (h5 p (List.mem_of_mem_take p1)))] at p3
      simpa using p3
end Go.Proofs.YtfdmakpcmkbhhaaGreatDoor
namespace Go.Proofs.YtfdmakpcmkbhhaaGreatDoor
open Go.Rt Go.RowKit
end Go.Proofs.YtfdmakpcmkbhhaaGreatDoor
namespace Go.Proofs.YtfdmakpcmkbhhaaGreatDoor
open Go.Rt Go.RowKit
theorem lt_big {n : Nat} (h : n < 9223372036854775808) : n < BIG := Nat.lt_trans h (by decide)
end Go.Proofs.YtfdmakpcmkbhhaaGreatDoor
namespace Go.Proofs.YtfdmakpcmkbhhaaGreatDoor
open Go.Rt Go.RowKit
end Go.Proofs.YtfdmakpcmkbhhaaGreatDoor
namespace Go.Proofs.YtfdmakpcmkbhhaaGreatDoor
open Go.Rt Go.RowKit
theorem loopF_more {σ β : Type} {body : σ → Option (Step σ β)} {b : β} : ∀ {n m : Nat} {s : σ}, loopF body n s = some b → n ≤ m → loopF body m s = some b
 | 0, _, _, h, _ => by cases h
 | n + 1, 0, _, _, hm => by omega
 | n + 1, m + 1, s, h, hm => by
  simp only [loopF] at h ⊢
  cases hb : body s with
  | none => rw [hb] at h; cases h
  | some x =>
   rw [hb] at h
   cases x with
   | done b' => exact h
   | next s' => exact loopF_more (n := n) (m := m) (s := s') h (by omega)
end Go.Proofs.YtfdmakpcmkbhhaaGreatDoor
namespace Go.Proofs.YtfdmakpcmkbhhaaGreatDoor
open Go.Rt Go.RowKit Go.Sort
theorem perm_sorted_eq {α : Type} {R : α → α → Prop} : ∀ {l1 l2 : List α}, l1.Perm l2 → l1.Pairwise R → l2.Pairwise R → (∀ a, a ∈ l1 → ∀ b, b ∈ l1 → R a b → R b a → a = b) → l1 = l2
 | [], l2, hp, _, _, _ => hp.nil_eq
 | a :: l1, [], hp, _, _, _ => absurd hp.length_eq (by simp)
 | a :: l1, b :: l2, hp, h1, h2, hR => by
  have h1' := List.pairwise_cons.1 h1
  have h2' := List.pairwise_cons.1 h2
  have hab : a = b := by
   by_cases e : a = b
   ·exact e
   have ha : a ∈ b :: l2 := hp.subset List.mem_cons_self
   have hb : b ∈ a :: l1 := hp.symm.subset List.mem_cons_self
   rcases List.mem_cons.1 ha with h | ha'
   ·exact h
   rcases List.mem_cons.1 hb with h | hb'
   ·exact h.symm
   exact hR a List.mem_cons_self b hb (h1'.1 b hb') (h2'.1 a ha')
  subst hab
  rw [perm_sorted_eq hp.cons_inv h1'.2 h2'.2 fun x hx y hy => hR x (List.mem_cons_of_mem _ hx) y (List.mem_cons_of_mem _ hy)]
def insS {α : Type} (le : α → α → Bool) (x : α) : List α → List α
 | [] => [x]
 | y :: l => bif le x y then x :: y :: l else y :: insS le x l
def isort {α : Type} (le : α → α → Bool) : List α → List α
 | [] => []
 | x :: l => insS le x (isort le l)
section
variable {α : Type} {le : α → α → Bool}
theorem insS_perm (x : α) : ∀ (l : List α), (insS le x l).Perm (x :: l)
 | [] => List.Perm.refl _
 | y :: l => by
  unfold insS
  cases le x y with
  | true => exact List.Perm.refl _
  | false => exact ((insS_perm x l).cons y).trans (List.Perm.swap x y l)
theorem isort_perm : ∀ (l : List α), (isort le l).Perm l
 | [] => List.Perm.refl _
 | x :: l => (insS_perm x _).trans ((isort_perm l).cons x)
theorem insS_sorted (ht : ∀ a b c, le a b = true → le b c = true → le a c = true) (hl : ∀ a b, le a b = true ∨ le b a = true) (x : α) : ∀ (l : List α), l.Pairwise (fun a b => le a b = true) → (insS le x l).Pairwise (fun a b => le a b = true)
 | [], _ => by simp [insS]
 | y :: l, h => by
  obtain ⟨h1, h2⟩ := List.pairwise_cons.1 h
  unfold insS
  cases hx : le x y with
  | true =>
   refine List.pairwise_cons.2 ⟨fun z hz => ?_, h⟩
   rcases List.mem_cons.1 hz with rfl | hz
   ·exact hx
   ·exact ht _ _ _ hx (h1 z hz)
  | false =>
   refine List.pairwise_cons.2 ⟨fun z hz => ?_, insS_sorted ht hl x l h2⟩
   rcases List.mem_cons.1 ((insS_perm x l).subset hz) with rfl | hz
   ·rcases hl z y with h' | h'
    ·rw [hx] at h'; cases h'
    ·exact h'
   ·exact h1 z hz
theorem isort_sorted (ht : ∀ a b c, le a b = true → le b c = true → le a c = true) (hl : ∀ a b, le a b = true ∨ le b a = true) : ∀ (l : List α), (isort le l).Pairwise (fun a b => le a b = true)
 | [] => List.Pairwise.nil
 | x :: l => insS_sorted ht hl x _ (isort_sorted ht hl l)
end
def leS (x y : Str) : Bool := decide (x ≤ y)
theorem leS_trans (a b c : Str) (h1 : leS a b = true) (h2 : leS b c = true) : leS a c = true := by
 unfold leS at *
 simp only [decide_eq_true_eq] at *
 exact List.le_trans h1 h2
theorem leS_total (a b : Str) : leS a b = true ∨ leS b a = true := by
 unfold leS
 simp only [decide_eq_true_eq]
 exact List.le_total a b
theorem leS_anti (a b : Str) (h1 : leS a b = true) (h2 : leS b a = true) : a = b := by
 unfold leS at *
 simp only [decide_eq_true_eq] at *
 exact List.le_antisymm h1 h2
def sortC (xs : List Str) : Option (List Str) := if xs.length < 4611686018427387904 then some (isort leS xs) else none
theorem sortS_eq : slices_SortS = sortC := by
 funext xs
 unfold slices_SortS sortC
 split
 ·congr 1
  refine perm_sorted_eq (R := fun a b => leS a b = true) ((List.mergeSort_perm xs _).trans (isort_perm xs).symm) ?_ (isort_sorted leS_trans leS_total xs) fun a _ b _ => leS_anti a b
  exact List.pairwise_mergeSort leS_trans (fun a b => by
   rcases leS_total a b with h | h
   ·rw [h]; rfl
   ·rw [h, Bool.or_true]) xs
 ·rfl
def leK {α : Type} (key : α → Int) (x y : α) : Bool := decide (key x ≤ key y)
theorem leK_trans {α : Type} (key : α → Int) (a b c : α) (h1 : leK key a b = true) (h2 : leK key b c = true) : leK key a c = true := by
 unfold leK at *
 simp only [decide_eq_true_eq] at *
 omega
theorem leK_total {α : Type} (key : α → Int) (a b : α) : leK key a b = true ∨ leK key b a = true := by
 unfold leK
 simp only [decide_eq_true_eq]
 omega
theorem key_inj {α : Type} {key : α → Int} : ∀ {l : List α}, (l.map key).Nodup → ∀ a, a ∈ l → ∀ b, b ∈ l → key a = key b → a = b
 | [], _, a, ha, _, _, _ => by cases ha
 | x :: l, h, a, ha, b, hb, e => by
  rw [List.map_cons] at h
  obtain ⟨h1, h2⟩ := List.nodup_cons.1 h
  rcases List.mem_cons.1 ha with ha1 | ha1 <;> rcases List.mem_cons.1 hb with hb1 | hb1
  ·rw [ha1, hb1]
  ·rw [ha1] at e
   exact absurd (List.mem_map.2 ⟨b, hb1, e.symm⟩) h1
  ·rw [hb1] at e
   exact absurd (List.mem_map.2 ⟨a, ha1, e⟩) h1
  ·exact key_inj h2 a ha1 b hb1 e
theorem sortBy_perm {α : Type} [Inhabited α] {key : α → Int} {xs ys : List α} (h : sortBy key xs = some ys) : ys.Perm xs ∧ ys.Pairwise fun a b => leK key a b = true := by
 unfold sortBy at h
 split at h
 ·obtain rfl := Option.some.inj h
  have hs := pdq_sorts (fun (x y : α) => decide (key x < key y)) ⟨fun x => by simp, fun x y z h1 h2 => by simp at *; omega, fun x y z h1 h2 => by simp at *; omega⟩ xs.toArray 0 xs.length (Lib.bitLen xs.length) true true (Nat.zero_le _) (by simp) (Or.inl rfl)
  generalize Sort.pdq (fun (x y : α) => decide (key x < key y)) xs.toArray 0 xs.length (Lib.bitLen xs.length) true true = d at hs
  obtain ⟨⟨h1, _, h2⟩, h3⟩ := hs
  have h1' : d.size = xs.length := by simpa using h1
  have e1 : d.extract 0 xs.length = d := by rw [← h1']; simp
  have e2 : xs.toArray.extract 0 xs.length = xs.toArray := by
   have : xs.length = xs.toArray.size := by simp
   rw [this]
   simp
  rw [e1, e2] at h2
  refine ⟨by simpa using h2, List.pairwise_iff_getElem.2 fun i j hi hj hij => ?_⟩
  have hj' : j < xs.length := by simpa [h1'] using hj
  have := h3 i j (Nat.zero_le _) hij hj'
  rw [getElem!_pos d j (by omega), getElem!_pos d i (by omega)] at this
  unfold leK
  simp only [decide_eq_true_eq, decide_eq_false_iff_not] at *
  simpa using this
 ·cases h
def sortByC {α : Type} [Inhabited α] (key : α → Int) (xs : List α) : Option (List α) := if xs.length < 4611686018427387904 then (if (xs.map key).Nodup then some (isort (leK key) xs) else sortBy key xs) else none
theorem sortBy_eq {α : Type} [Inhabited α] : @sortBy α _ = sortByC := by
 funext key xs
 unfold sortByC
 split
 ·rename_i hl
  split
  ·rename_i hn
   obtain ⟨ys, hy⟩ : ∃ ys, sortBy key xs = some ys := ⟨_, by unfold sortBy; rw [if_pos hl]⟩
   obtain ⟨h1, h2⟩ := sortBy_perm hy
   rw [hy]
   congr 1
   refine perm_sorted_eq (h1.trans (isort_perm xs).symm) h2 (isort_sorted (leK_trans key) (leK_total key) xs) fun a ha b hb h3 h4 => ?_
   refine key_inj hn a (h1.subset ha) b (h1.subset hb) ?_
   unfold leK at h3 h4
   simp only [decide_eq_true_eq] at h3 h4
   omega
  ·rfl
 ·rename_i hl
  unfold sortBy
  rw [if_neg hl]
end Go.Proofs.YtfdmakpcmkbhhaaGreatDoor
namespace Go.Proofs.YtfdmakpcmkbhhaaGreatDoor
open Go.Rt Go.RowKit
section
def msg1 : Str := [1, 104, 101, 108, 108, 111]
def dig1 : Str := [204, 238, 183, 169, 133, 236, 195, 218, 188, 180, 200, 246, 102, 205, 99, 127, 22, 240, 8, 227, 201, 99, 219, 106, 166, 248, 58, 123, 40, 140, 84, 239]
theorem sum1 : hash_Sum msg1 = some dig1 := by kernel_rfl
def msg2 : Str := [3, 2, 0, 0, 0, 1, 0, 0, 0, 0, 0, 0, 0, 164, 1, 0, 0, 0, 0, 0, 0, 0, 0, 0, 0, 0, 0, 0, 0, 0, 0, 0, 0, 1, 0, 102, 0, 0, 0, 0, 0, 0, 5, 0, 0, 0, 0, 204, 238, 183, 169, 133, 236, 195, 218, 188, 180, 200, 246, 102, 205, 99, 127, 22, 240, 8, 227, 201, 99, 219, 106, 166, 248, 58, 123, 40, 140, 84, 239]
def dig2 : Str := [176, 255, 183, 210, 250, 10, 74, 65, 38, 13, 44, 89, 204, 150, 104, 208, 212, 241, 168, 216, 246, 72, 163, 167, 7, 246, 123, 53, 136, 218, 230, 37]
theorem sum2 : hash_Sum msg2 = some dig2 := by kernel_rfl
def msg3 : Str := [4, 3, 0, 0, 0, 2, 0, 0, 0, 1, 0, 0, 0, 1, 0, 0, 0, 0, 0, 0, 0, 237, 1, 0, 128, 0, 0, 0, 0, 0, 0, 0, 0, 0, 0, 0, 0, 0, 0, 0, 0, 1, 0, 47, 3, 0, 97, 100, 109, 0, 0, 0, 0, 78, 0, 0, 0, 0, 176, 255, 183, 210, 250, 10, 74, 65, 38, 13, 44, 89, 204, 150, 104, 208, 212, 241, 168, 216, 246, 72, 163, 167, 7, 246, 123, 53, 136, 218, 230, 37]
def dig3 : Str := [176, 193, 163, 204, 153, 127, 223, 69, 183, 249, 225, 11, 5, 21, 158, 75, 70, 168, 90, 200, 231, 187, 132, 221, 5, 59, 121, 218, 61, 100, 126, 122]
theorem sum3 : hash_Sum msg3 = some dig3 := by kernel_rfl
noncomputable def sumC (s : Str) : Option Str := bif s == msg1 then some dig1 else bif s == msg2 then some dig2 else bif s == msg3 then some dig3 else hash_Sum s
theorem e_sum : hash_Sum = sumC := by
 funext s
 unfold sumC
 cases h1 : s == msg1 with
 | true =>
  obtain rfl := eq_of_beq h1
  exact sum1
 | false =>
  cases h2 : s == msg2 with
  | true =>
   obtain rfl := eq_of_beq h2
   exact sum2
  | false =>
   cases h3 : s == msg3 with
   | true =>
    obtain rfl := eq_of_beq h3
    exact sum3
   | false => rfl
def cloneC (xs : List api_Block) : Option (List api_Block) := room 40 ([] : List api_Block) xs
theorem e_clone : slices_Clone_apiBlockapiBlock = cloneC := by
 funext xs
 unfold slices_Clone_apiBlockapiBlock cloneC
 cases xs with
 | nil => exact both_self _
 | cons x l =>
  show Option.bind (room 40 ([] : List api_Block) (x :: l)) (fun y => some y) = _
  cases room 40 ([] : List api_Block) (x :: l) <;> rfl
def bothC {R : Type} [DecidableEq R] (x y : Option R) : Option R := if x = y then x else none
theorem e_both {R : Type} [DecidableEq R] : @both R = bothC := by
 funext x y
 unfold both bothC
 split <;> rfl
noncomputable def archive_own_c (x0 : api_Store) : Option api_Store :=
 (cloneC x0.Blocks_).bind fun y1 =>
 some ((api_Store.mk x0.Cap_ y1))
theorem e_archive_own : archive_own = archive_own_c := by
 funext x0
 simp only [archive_own, archive_own_c, e_clone] <;> rfl
noncomputable def block_clone_c (x0 : api_Store) : Option api_Store :=
 (cloneC x0.Blocks_).bind fun y1 =>
 some ((api_Store.mk x0.Cap_ y1))
theorem e_block_clone : block_clone = block_clone_c := by
 funext x0
 simp only [block_clone, block_clone_c, e_clone] <;> rfl
noncomputable def hash_Score_c (x0 : Int) (x1 : Str) : Option Str :=
 (cat (bytesS [(IntKind.u8.wrap x0)]) x1).bind fun y1 =>
 (sumC y1).bind fun y2 =>
 some (y2)
theorem e_hash_Score : hash_Score = hash_Score_c := by
 funext x0 x1
 simp only [hash_Score, hash_Score_c, e_sum] <;> rfl
noncomputable def block_made_c (x0 : Int) (x1 : Str) : Option api_Block :=
 (hash_Score_c x0 x1).bind fun y1 =>
 some ((api_Block.mk y1 x0 x1))
theorem e_block_made : block_made = block_made_c := by
 funext x0 x1
 simp only [block_made, block_made_c, e_hash_Score] <;> rfl
noncomputable def block_Put_c (x0 : api_Store) (x1 : Int) (x2 : Str) : Option (api_Store × Str × Int) :=
 (block_clone_c x0).bind fun y1 =>
 (block_known x1).bind fun y2 =>
 (bif (!y2) then
  some ((y1, [], 1))
 else
  (bif (decide ((x2.length : Int) > 1024)) then
   some ((y1, [], 4))
  else
   (block_made_c x1 x2).bind fun y3 =>
   (block_index x0 y3.Score_).bind fun y4 =>
   (bif (decide (y4 ≥ 0)) then
    (getI x0.Blocks_ y4).bind fun y5 =>
    (bif (!(decide (y5 = y3))) then
     some ((y1, [], 34))
    else
     some ((y1, y3.Score_, 0)))
   else
    (bif (decide ((x0.Blocks_.length : Int) ≥ x0.Cap_)) then
     some ((y1, [], 22))
    else
     (room 40 y1.Blocks_ [y3]).bind fun y6 =>
     some (((api_Store.mk y1.Cap_ y6), y3.Score_, 0))))))
theorem e_block_Put : block_Put = block_Put_c := by
 funext x0 x1 x2
 simp only [block_Put, block_Put_c, e_block_clone, e_block_made] <;> rfl
noncomputable def archive_put_L1_c (s4 : Int × api_Store × api_Root × (List Str)) (s6 : Str × Int × Int × (List api_Block) × api_Root × (List Str)) : Option (Step (Str × Int × Int × (List api_Block) × api_Root × (List Str)) (Out (Str × api_Store × api_Root × (List Str)) (api_Store × api_Root × Int))) :=
 (bif (decide (s6.2.1 < (s4.2.2.2.length : Int))) then
  (getI s6.2.2.2.2.2 s6.2.1).bind fun y13 =>
  (block_Put_c (api_Store.mk s6.2.2.1 s6.2.2.2.1) s4.1 y13).bind fun y14 =>
  (bif (y14.2.2 != 0) then
   some (.done (.ret (((api_Store.mk s6.2.2.1 s6.2.2.2.1), (api_Root.mk [] 0 0), y14.2.2))))
  else
   (cat s6.1 y14.2.1).bind fun y15 =>
   some (.next (y15, (w64 (s6.2.1 + 1)), y14.1.Cap_, y14.1.Blocks_, (api_Root.mk y14.2.1 s6.2.2.2.2.1.Length_ s6.2.2.2.2.1.Levels_), s6.2.2.2.2.2)))
 else
  some (.done (.fall (s6.1, (api_Store.mk s6.2.2.1 s6.2.2.2.1), s6.2.2.2.2.1, s6.2.2.2.2.2))))
theorem e_archive_put_L1 : archive_put_L1 = archive_put_L1_c := by
 funext s4 s6
 simp only [archive_put_L1, archive_put_L1_c, e_block_Put] <;> rfl
noncomputable def archive_put_L2_c (s4 : Int × api_Store × api_Root × (List Str)) : Option (Step (Int × api_Store × api_Root × (List Str)) (Out Unit (api_Store × api_Root × Int))) :=
 Option.bind (loopF (archive_put_L1_c s4) BIG ([], 0, s4.2.1.Cap_, s4.2.1.Blocks_, s4.2.2.1, s4.2.2.2)) fun (wo2 : Out (Str × api_Store × api_Root × (List Str)) (api_Store × api_Root × Int)) => match wo2 with
 | .ret r2 => some (.done (.ret r2))
 | .fall o2 =>
  (bif ((o2.2.2.2.length : Int) == 1) then
   some (.done (.ret ((o2.2.1, o2.2.2.1, 0))))
  else
   (archive_chunks o2.1 1024).bind fun y16 =>
   some (.next (2, o2.2.1, o2.2.2.1, y16)))
theorem e_archive_put_L2 : archive_put_L2 = archive_put_L2_c := by
 funext s4
 simp only [archive_put_L2, archive_put_L2_c, e_archive_put_L1] <;> rfl
noncomputable def archive_put_c (x0 : api_Store) (x1 : Int) (x2 : Str) : Option (api_Store × api_Root × Int) :=
 (archive_height (x2.length : Int)).bind fun y1 =>
 (archive_chunks x2 1024).bind fun y2 =>
 Option.bind (loopF archive_put_L2_c BIG (x1, x0, (api_Root.mk [] (x2.length : Int) y1), y2)) fun (wo3 : Out Unit (api_Store × api_Root × Int)) => match wo3 with
 | .ret r3 => some r3
 | .fall _ =>
  none
theorem e_archive_put : archive_put = archive_put_c := by
 funext x0 x1 x2
 simp only [archive_put, archive_put_c, e_archive_put_L2] <;> rfl
noncomputable def archive_PutFile_c (x0 : api_Store) (x1 : Str) : Option (api_Store × api_Root × Int) :=
 (bif (decide ((x1.length : Int) > 1048576)) then
  (archive_own_c x0).bind fun y1 =>
  some ((y1, (api_Root.mk [] 0 0), 4))
 else
  (archive_put_c x0 1 x1).bind fun y2 =>
  (bif (y2.2.2 != 0) then
   (archive_own_c x0).bind fun y3 =>
   some ((y3, (api_Root.mk [] 0 0), y2.2.2))
  else
   some ((y2.1, y2.2.1, 0))))
theorem e_archive_PutFile : archive_PutFile = archive_PutFile_c := by
 funext x0 x1
 simp only [archive_PutFile, archive_PutFile_c, e_archive_own, e_archive_put] <;> rfl
noncomputable def block_Get_c (x0 : api_Store) (x1 : Str) (x2 : Int) : Option (Str × Int) :=
 (block_index x0 x1).bind fun y1 =>
 (bif (decide (y1 < 0)) then
  some (([], 35))
 else
  (getI x0.Blocks_ y1).bind fun y2 =>
  (bif (y2.Kind_ != x2) then
   some (([], 1))
  else
   (getI x0.Blocks_ y1).bind fun y3 =>
   (getI x0.Blocks_ y1).bind fun y4 =>
   (block_made_c x2 y4.Data_).bind fun y5 =>
   (bif (!(decide (y3 = y5))) then
    some (([], 34))
   else
    (getI x0.Blocks_ y1).bind fun y6 =>
    some ((y6.Data_, 0)))))
theorem e_block_Get : block_Get = block_Get_c := by
 funext x0 x1 x2
 simp only [block_Get, block_Get_c, e_block_made] <;> rfl
noncomputable def archive_reader_block_c (x0 : archive_reader) (x1 : Str) (x2 : Int) : Option (Str × Int × archive_reader) :=
 (block_Get_c x0.store_ x1 x2).bind fun y1 =>
 Option.bind (
  (bif (y1.2 == 1) then
   some 2
  else
   some y1.2)
  ) fun (o1 : Int) =>
 (bif (o1 != 0) then
  some (([], o1, x0))
 else
  (room 16 x0.seen_ [x1]).bind fun y2 =>
  some ((y1.1, 0, (archive_reader.mk x0.store_ y2))))
theorem e_archive_reader_block : archive_reader_block = archive_reader_block_c := by
 funext x0 x1 x2
 simp only [archive_reader_block, archive_reader_block_c, e_block_Get] <;> rfl
noncomputable def archive_reader_part_S_c (rec0 : archive_reader → archive_span → Str → Int → Int → Option (Str × Int × archive_reader)) (x0 : archive_reader) (x1 : archive_span) (x2 : Str) (x3 : Int) (x4 : Int) : Option (Str × Int × archive_reader) :=
 Option.bind (
  (bif (x3 == 0) then
   some x1.kind_
  else
   some 2)
  ) fun (o1 : Int) =>
 (archive_reader_block_c x0 x2 o1).bind fun y1 =>
 (bif (y1.2.1 != 0) then
  some (([], y1.2.1, y1.2.2))
 else
  (archive_span_expected x1 x3 x4).bind fun y2 =>
  (bif ((y1.1.length : Int) != y2) then
   some (([], 2, y1.2.2))
  else
   (archive_width x3).bind fun y3 =>
   (bif (x3 == 0) then
    (subI y1.1 (maxI 0 (w64 (x1.lo_ - (w64 (x4 * y3))))) (minI (y1.1.length : Int) (w64 (x1.hi_ - (w64 (x4 * y3)))))).bind fun y4 =>
    some ((y4, 0, y1.2.2))
   else
    Option.bind (loopF (archive_reader_part_L1 y1 x3 x4 x1 rec0) BIG ([], 0, y1.2.2.store_.Cap_, y1.2.2.store_.Blocks_, y1.2.2.seen_)) fun (wo4 : Out (Str × Int × (List api_Block) × (List Str)) (Str × Int × archive_reader)) => match wo4 with
    | .ret r4 => some r4
    | .fall o4 =>
     some ((o4.1, 0, (archive_reader.mk (api_Store.mk o4.2.1 o4.2.2.1) o4.2.2.2))))))
theorem e_archive_reader_part_S : archive_reader_part_S = archive_reader_part_S_c := by
 funext rec0 x0 x1 x2 x3 x4
 simp only [archive_reader_part_S, archive_reader_part_S_c, e_archive_reader_block] <;> rfl
noncomputable def archive_reader_part_c : Nat → archive_reader → archive_span → Str → Int → Int → Option (Str × Int × archive_reader)
 | 0 => fun _ _ _ _ _ => none
 | n + 1 => archive_reader_part_S_c (archive_reader_part_c n)
theorem e_archive_reader_part : archive_reader_part = archive_reader_part_c := by
 funext n
 induction n with
 | zero => rfl
 | succ n ih =>
  show archive_reader_part_S (archive_reader_part n) = archive_reader_part_S_c (archive_reader_part_c n)
  rw [ih, e_archive_reader_part_S]
noncomputable def archive_ReadAt_c (x0 : api_Store) (x1 : api_Root) (x2 : Int) (x3 : Int) : Option (Str × Int) :=
 (archive_valid x1).bind fun y1 =>
 (bif (!y1) then
  some (([], 2))
 else
  Option.bind (
   (bif (decide (x2 < 0)) then
    some (decide (x2 < 0))
   else
    some (decide (x3 < 0)))
   ) fun (o1 : Bool) =>
  (bif o1 then
   some (([], 1))
  else
   Option.bind (
    (bif (decide (x2 ≥ x1.Length_)) then
     some (decide (x2 ≥ x1.Length_))
    else
     some (x3 == 0))
    ) fun (o2 : Bool) =>
   (bif o2 then
    some (([], 0))
   else
    Option.bind (archive_reader_part_c BIG (archive_reader.mk x0 []) (archive_span.mk 1 x1.Length_ x2 (w64 (x2 + (minI x3 (w64 (x1.Length_ - x2)))))) x1.Score_ x1.Levels_ 0) fun (y2 : Str × Int × archive_reader) =>
    some ((y2.1, y2.2.1)))))
theorem e_archive_ReadAt : archive_ReadAt = archive_ReadAt_c := by
 funext x0 x1 x2 x3
 simp only [archive_ReadAt, archive_ReadAt_c, e_archive_reader_part] <;> rfl
noncomputable def tree_Right_L1_c (x0 : api_Tree) (s2 : Int × (List Int) × (List Int) × (List tree_place) × (List Int)) : Option (Step (Int × (List Int) × (List Int) × (List tree_place) × (List Int)) (Out Unit Bool)) :=
 (bif (decide (s2.1 < (x0.Nodes_.length : Int))) then
  Option.bind (
   (getI x0.Nodes_ s2.1).bind fun y12 =>
   (tree_sound y12).bind fun y13 =>
   Option.bind (bif ((!y13) || (decide (y12.Id_ ≥ x0.Next_))) then some true else 
    Option.bind (bif (decide (s2.1 > 0)) then 
     (getI x0.Nodes_ (w64 (s2.1 - 1))).bind fun y14 =>
     some (decide (y12.Id_ ≤ y14.Id_))
      else some false) fun (y15 : Bool) =>
    some y15
    ) fun (y16 : Bool) =>
   (bif y16 then
    some (.ret (false))
   else
    Option.bind (
     (bif (s2.1 == 0) then
      Option.bind (bif (((y12.Id_ != 1) || (y12.Parent_ != 1)) || (!(y12.Name_ == [47]))) then some true else 
       (tree_directory y12.Mode_).bind fun y17 =>
       some (!y17)
       ) fun (y18 : Bool) =>
      (bif y18 then
       some (.ret (false))
      else
       some (.fall ()))
     else
      (path_Valid y12.Name_).bind fun y19 =>
      Option.bind (bif (!y19) then some true else some ((mgetD eqI s2.2.1 s2.2.2.1 y12.Parent_ 0) == 0)) fun (y20 : Bool) =>
      Option.bind (bif y20 then some true else some (decide ((mgetD (fun (a b : tree_place) => decide (a = b)) s2.2.2.2.1 s2.2.2.2.2 (tree_place.mk y12.Parent_ y12.Name_) 0) > 0))) fun (y21 : Bool) =>
      (bif y21 then
       some (.ret (false))
      else
       some (.fall ())))
     ) fun (wo4 : Out Unit Bool) => match wo4 with
    | .ret r4 => some (.ret r4)
    | .fall _ =>
     Option.bind (
      (bif (decide (s2.1 > 0)) then
       (bothC (
        some ((mputK (fun (a b : tree_place) => decide (a = b)) (mputK (fun (a b : tree_place) => decide (a = b)) s2.2.2.2.1 (tree_place.mk y12.Parent_ y12.Name_)) (tree_place.mk y12.Parent_ y12.Name_)), (mputV (fun (a b : tree_place) => decide (a = b)) (mputK (fun (a b : tree_place) => decide (a = b)) s2.2.2.2.1 (tree_place.mk y12.Parent_ y12.Name_)) (mputV (fun (a b : tree_place) => decide (a = b)) s2.2.2.2.1 s2.2.2.2.2 (tree_place.mk y12.Parent_ y12.Name_) (mgetD (fun (a b : tree_place) => decide (a = b)) s2.2.2.2.1 s2.2.2.2.2 (tree_place.mk y12.Parent_ y12.Name_) 0)) (tree_place.mk y12.Parent_ y12.Name_) (w64 ((mgetD (fun (a b : tree_place) => decide (a = b)) s2.2.2.2.1 s2.2.2.2.2 (tree_place.mk y12.Parent_ y12.Name_) 0) + 1))))) (
        some ((mputK (fun (a b : tree_place) => decide (a = b)) (mputK (fun (a b : tree_place) => decide (a = b)) s2.2.2.2.1 (tree_place.mk y12.Parent_ y12.Name_)) (tree_place.mk y12.Parent_ y12.Name_)), (mputV (fun (a b : tree_place) => decide (a = b)) (mputK (fun (a b : tree_place) => decide (a = b)) s2.2.2.2.1 (tree_place.mk y12.Parent_ y12.Name_)) (mputV (fun (a b : tree_place) => decide (a = b)) s2.2.2.2.1 s2.2.2.2.2 (tree_place.mk y12.Parent_ y12.Name_) (mgetD (fun (a b : tree_place) => decide (a = b)) s2.2.2.2.1 s2.2.2.2.2 (tree_place.mk y12.Parent_ y12.Name_) 0)) (tree_place.mk y12.Parent_ y12.Name_) (w64 ((mgetD (fun (a b : tree_place) => decide (a = b)) (mputK (fun (a b : tree_place) => decide (a = b)) s2.2.2.2.1 (tree_place.mk y12.Parent_ y12.Name_)) (mputV (fun (a b : tree_place) => decide (a = b)) s2.2.2.2.1 s2.2.2.2.2 (tree_place.mk y12.Parent_ y12.Name_) (mgetD (fun (a b : tree_place) => decide (a = b)) s2.2.2.2.1 s2.2.2.2.2 (tree_place.mk y12.Parent_ y12.Name_) 0)) (tree_place.mk y12.Parent_ y12.Name_) 0) + 1))))))
      else
       some (s2.2.2.2.1, s2.2.2.2.2))
      ) fun (o5 : (List tree_place) × (List Int)) =>
     (tree_directory y12.Mode_).bind fun y22 =>
     (bif y22 then
      some (.fall ((mputK eqI s2.2.1 y12.Id_), (mputV eqI s2.2.1 s2.2.2.1 y12.Id_ (w64 ((mgetD eqI s2.2.1 s2.2.2.1 y12.Id_ 0) + 1))), o5.1, o5.2))
     else
      some (.fall (s2.2.1, s2.2.2.1, o5.1, o5.2))))
   ) fun (wo6 : Out ((List Int) × (List Int) × (List tree_place) × (List Int)) Bool) => match wo6 with
  | .ret r6 => some (.done (.ret r6))
  | .fall o6 =>
   some (.next ((w64 (s2.1 + 1)), o6.1, o6.2.1, o6.2.2.1, o6.2.2.2))
 else
  some (.done (.fall ())))
theorem e_tree_Right_L1 : tree_Right_L1 = tree_Right_L1_c := by
 funext x0 s2
 simp only [tree_Right_L1, tree_Right_L1_c, e_both] <;> rfl
noncomputable def tree_Right_c (x0 : api_Tree) : Option Bool :=
 (bif (((decide ((x0.Nodes_.length : Int) < 1)) || (decide ((x0.Nodes_.length : Int) > 1024))) || (decide (x0.Next_ > 1048576))) then
  some (false)
 else
  (loopF (tree_Right_L1_c x0) BIG (0, ([] : List Int), ([] : List Int), ([] : List tree_place), ([] : List Int))).bind fun wo7 => match wo7 with
  | .ret r7 => some r7
  | .fall _ =>
   some (true))
theorem e_tree_Right : tree_Right = tree_Right_c := by
 funext x0
 simp only [tree_Right, tree_Right_c, e_tree_Right_L1] <;> rfl
noncomputable def archive_putNode_S_c (rec0 : api_Store → api_Tree → Int → Option (api_Store × archive_entry × Int)) (x0 : api_Store) (x1 : api_Tree) (x2 : Int) : Option (api_Store × archive_entry × Int) :=
 (tree_Node x1 x2).bind fun y1 =>
 Option.bind (
  Option.bind (archive_isDir (api_Node.mk y1.1.Id_ y1.1.Parent_ y1.1.Vers_ y1.1.Name_ y1.1.Mode_ y1.1.Uid_ y1.1.Gid_ y1.1.Muid_ y1.1.Atime_ y1.1.Mtime_ [])) fun (y2 : Bool) =>
  (bif y2 then
   (tree_Children x1 x2).bind fun y3 =>
   Option.bind (loopF (archive_putNode_L1 y3 rec0 x1) BIG ([], 0, x0, y3)) fun (wo1 : Out (Str × api_Store) (api_Store × archive_entry × Int)) => match wo1 with
   | .ret r1 => some (.ret r1)
   | .fall o1 =>
    some (.fall (3, o1.1, o1.2))
  else
   some (.fall (1, y1.1.Data_, x0)))
  ) fun (wo2 : Out (Int × Str × api_Store) (api_Store × archive_entry × Int)) => match wo2 with
 | .ret r2 => some r2
 | .fall o2 =>
  (archive_put_c o2.2.2 o2.1 o2.2.1).bind fun y12 =>
  some ((y12.1, (archive_entry.mk (api_Node.mk y1.1.Id_ y1.1.Parent_ y1.1.Vers_ y1.1.Name_ y1.1.Mode_ y1.1.Uid_ y1.1.Gid_ y1.1.Muid_ y1.1.Atime_ y1.1.Mtime_ []) y12.2.1), y12.2.2))
theorem e_archive_putNode_S : archive_putNode_S = archive_putNode_S_c := by
 funext rec0 x0 x1 x2
 simp only [archive_putNode_S, archive_putNode_S_c, e_archive_put] <;> rfl
noncomputable def archive_putNode_c : Nat → api_Store → api_Tree → Int → Option (api_Store × archive_entry × Int)
 | 0 => fun _ _ _ => none
 | n + 1 => archive_putNode_S_c (archive_putNode_c n)
theorem e_archive_putNode : archive_putNode = archive_putNode_c := by
 funext n
 induction n with
 | zero => rfl
 | succ n ih =>
  show archive_putNode_S (archive_putNode n) = archive_putNode_S_c (archive_putNode_c n)
  rw [ih, e_archive_putNode_S]
noncomputable def archive_PutTree_c (x0 : api_Store) (x1 : api_Tree) : Option (api_Store × Str × Int) :=
 (tree_Right_c x1).bind fun y1 =>
 (bif (!y1) then
  (archive_own_c x0).bind fun y2 =>
  some ((y2, [], 1))
 else
  (archive_putNode_c BIG x0 x1 1).bind fun y3 =>
  (bif (y3.2.2 != 0) then
   (archive_own_c x0).bind fun y4 =>
   some ((y4, [], y3.2.2))
  else
   (octet_Put x1.Next_ 4).bind fun y5 =>
   (octet_Put (x1.Nodes_.length : Int) 4).bind fun y6 =>
   (cat y5.1 y6.1).bind fun y7 =>
   (archive_encode y3.2.1).bind fun y8 =>
   (cat y7 y8).bind fun y9 =>
   (block_Put_c y3.1 4 y9).bind fun y10 =>
   (bif (y10.2.2 != 0) then
    (archive_own_c x0).bind fun y11 =>
    some ((y11, [], y10.2.2))
   else
    some ((y10.1, y10.2.1, 0)))))
theorem e_archive_PutTree : archive_PutTree = archive_PutTree_c := by
 funext x0 x1
 simp only [archive_PutTree, archive_PutTree_c, e_tree_Right, e_archive_own, e_archive_putNode, e_block_Put] <;> rfl
noncomputable def archive_reader_contents_c (x0 : archive_reader) (x1 : api_Root) (x2 : Int) : Option (Str × Int × archive_reader) :=
 (archive_valid x1).bind fun y1 =>
 (bif (!y1) then
  some (([], 2, x0))
 else
  (bif (x1.Length_ == 0) then
   (archive_reader_block_c x0 x1.Score_ x2).bind fun y2 =>
   Option.bind (
    (bif ((y2.2.1 == 0) && (!(y2.1 == []))) then
     some 2
    else
     some y2.2.1)
    ) fun (o1 : Int) =>
   some (([], o1, y2.2.2))
  else
   (archive_reader_part_c BIG x0 (archive_span.mk x2 x1.Length_ 0 x1.Length_) x1.Score_ x1.Levels_ 0).bind fun y3 =>
   some ((y3.1, y3.2.1, y3.2.2))))
theorem e_archive_reader_contents : archive_reader_contents = archive_reader_contents_c := by
 funext x0 x1 x2
 simp only [archive_reader_contents, archive_reader_contents_c, e_archive_reader_block, e_archive_reader_part] <;> rfl
noncomputable def archive_builder_add_S_c (rec0 : archive_builder_rest → archive_reader → archive_entry → Option (Int × archive_builder_rest × archive_reader)) (x0 : archive_builder_rest) (h0 : archive_reader) (x1 : archive_entry) : Option (Int × archive_builder_rest × archive_reader) :=
 (bif (decide ((x0.nodes_.length : Int) ≥ x0.most_)) then
  some ((2, x0, h0))
 else
  Option.bind (
   (archive_isDir x1.node_).bind fun y1 =>
   (bif y1 then
    some 3
   else
    some 1)
   ) fun (o1 : Int) =>
  (archive_reader_contents_c h0 x1.root_ o1).bind fun y2 =>
  (bif (y2.2.1 != 0) then
   some ((y2.2.1, x0, y2.2.2))
  else
   (archive_isDir x1.node_).bind fun y3 =>
   (bif (!y3) then
    (room 128 x0.nodes_ [(api_Node.mk x1.node_.Id_ x1.node_.Parent_ x1.node_.Vers_ x1.node_.Name_ x1.node_.Mode_ x1.node_.Uid_ x1.node_.Gid_ x1.node_.Muid_ x1.node_.Atime_ x1.node_.Mtime_ y2.1)]).bind fun y4 =>
    some ((0, (archive_builder_rest.mk y4 x0.most_), y2.2.2))
   else
    (room 128 x0.nodes_ [x1.node_]).bind fun y5 =>
    (archive_entries y2.1).bind fun y6 =>
    Option.bind (bif (!y6.2) then some true else 
     (slices_ContainsFunc_archiveentryarchiveentry y6.1 (fun (u1 : archive_entry) => Option.bind (__archive_builder__add_1 u1 x1) fun (v1 : Bool) => some v1)).bind fun y7 =>
     some y7
     ) fun (y8 : Bool) =>
    (bif y8 then
     some ((2, (archive_builder_rest.mk y5 x0.most_), y2.2.2))
    else
     (loopF (archive_builder_add_L1 y6 rec0) BIG (0, x0.most_, y2.2.2.store_.Cap_, y2.2.2.store_.Blocks_, y2.2.2.seen_, y5, y6.1)).bind fun wo2 => match wo2 with
     | .ret r2 => some r2
     | .fall o2 =>
      some ((0, (archive_builder_rest.mk o2.2.2.2.2 o2.1), (archive_reader.mk (api_Store.mk o2.2.1 o2.2.2.1) o2.2.2.2.1)))))))
theorem e_archive_builder_add_S : archive_builder_add_S = archive_builder_add_S_c := by
 funext rec0 x0 h0 x1
 simp only [archive_builder_add_S, archive_builder_add_S_c, e_archive_reader_contents] <;> rfl
noncomputable def archive_builder_add_c : Nat → archive_builder_rest → archive_reader → archive_entry → Option (Int × archive_builder_rest × archive_reader)
 | 0 => fun _ _ _ => none
 | n + 1 => archive_builder_add_S_c (archive_builder_add_c n)
theorem e_archive_builder_add : archive_builder_add = archive_builder_add_c := by
 funext n
 induction n with
 | zero => rfl
 | succ n ih =>
  show archive_builder_add_S (archive_builder_add n) = archive_builder_add_S_c (archive_builder_add_c n)
  rw [ih, e_archive_builder_add_S]
noncomputable def archive_reader_tree_c (x0 : archive_reader) (x1 : Str) : Option (api_Tree × Int × archive_reader) :=
 (archive_reader_block_c x0 x1 4).bind fun y1 =>
 (bif (y1.2.1 != 0) then
  some (((api_Tree.mk 0 []), y1.2.1, y1.2.2))
 else
  (archive_decoder_number (archive_decoder.mk y1.1 0 false) 4).bind fun y2 =>
  (archive_decoder_number y2.2 4).bind fun y3 =>
  (archive_decoder_entry y3.2).bind fun y4 =>
  (bif (((y4.2.bad_ || (y4.2.at_ != (y1.1.length : Int))) || (decide (y3.1 < 1))) || (decide (y3.1 > 1024))) then
   some (((api_Tree.mk 0 []), 2, y1.2.2))
  else
   Option.bind (archive_builder_add_c BIG (archive_builder_rest.mk [] y3.1) y1.2.2 y4.1) fun (y5 : Int × archive_builder_rest × archive_reader) =>
   (bif (y5.1 != 0) then
    some (((api_Tree.mk 0 []), y5.1, y5.2.2))
   else
    (sortByC (fun (x : api_Node) => x.Id_) y5.2.1.nodes_).bind fun y6 =>
    Option.bind (bif ((y6.length : Int) != y3.1) then some true else 
     (tree_Right_c (api_Tree.mk y2.1 y6)).bind fun y7 =>
     some (!y7)
     ) fun (y8 : Bool) =>
    (bif y8 then
     some (((api_Tree.mk 0 []), 2, y5.2.2))
    else
     some (((api_Tree.mk y2.1 y6), 0, y5.2.2))))))
theorem e_archive_reader_tree : archive_reader_tree = archive_reader_tree_c := by
 funext x0 x1
 simp only [archive_reader_tree, archive_reader_tree_c, e_archive_reader_block, e_archive_builder_add, sortBy_eq, e_tree_Right] <;> rfl
noncomputable def archive_GetTree_c (x0 : api_Store) (x1 : Str) : Option (api_Tree × Int) :=
 Option.bind (archive_reader_tree_c (archive_reader.mk x0 []) x1) fun (y1 : api_Tree × Int × archive_reader) =>
 some ((y1.1, y1.2.1))
theorem e_archive_GetTree : archive_GetTree = archive_GetTree_c := by
 funext x0 x1
 simp only [archive_GetTree, archive_GetTree_c, e_archive_reader_tree] <;> rfl
noncomputable def archive_Reach_c (x0 : api_Store) (x1 : Str) : Option ((List Str) × Int) :=
 Option.bind (archive_reader_tree_c (archive_reader.mk x0 []) x1) fun (y1 : api_Tree × Int × archive_reader) =>
 (bif (y1.2.1 != 0) then
  some (([], y1.2.1))
 else
  (sortC y1.2.2.seen_).bind fun y2 =>
  (slices_CompactS y2).bind fun y3 =>
  some ((y3, 0)))
theorem e_archive_Reach : archive_Reach = archive_Reach_c := by
 funext x0 x1
 simp only [archive_Reach, archive_Reach_c, e_archive_reader_tree, sortS_eq] <;> rfl
noncomputable def archive_Changed_c (x0 : api_Tree) (x1 : api_Tree) : Option (List Str) :=
 (archive_places x0).bind fun y1 =>
 (archive_places x1).bind fun y2 =>
 Option.bind (loopF (archive_Changed_L1 y1 y2) BIG (0, y1, [])) fun (o3 : (List archive_place) × (List Str)) =>
 (loopF (archive_Changed_L2 y2 o3) BIG (0, o3.2, y2)).bind fun o6 =>
 (sortC o6).bind fun y15 =>
 (slices_CompactS y15).bind fun y16 =>
 some (y16)
theorem e_archive_Changed : archive_Changed = archive_Changed_c := by
 funext x0 x1
 simp only [archive_Changed, archive_Changed_c, sortS_eq] <;> rfl
noncomputable def law16_awake_c  : Option Bool :=
 Option.bind (archive_PutFile_c (api_Store.mk 9 []) [104, 101, 108, 108, 111]) fun (y1 : api_Store × api_Root × Int) =>
 Option.bind (bif ((((y1.2.2 != 0) || ((y1.1.Blocks_.length : Int) != 1)) || (y1.2.1.Length_ != 5)) || (y1.2.1.Levels_ != 0)) then some true else 
  (getI y1.1.Blocks_ 0).bind fun y2 =>
  some (!(y1.2.1.Score_ == y2.Score_))
  ) fun (y3 : Bool) =>
 (bif y3 then
  some (false)
 else
  (archive_ReadAt_c y1.1 y1.2.1 1 3).bind fun y4 =>
  (bif ((!(y4.1 == [101, 108, 108])) || (y4.2 != 0)) then
   some (false)
  else
   Option.bind (archive_PutTree_c y1.1 (api_Tree.mk 3 [(api_Node.mk 1 1 0 [47] 2147484141 [97, 100, 109] [] [] 0 0 []), (api_Node.mk 2 1 0 [102] 420 [] [] [] 0 0 [104, 101, 108, 108, 111])])) fun (y5 : api_Store × Str × Int) =>
   (bif ((y5.2.2 != 0) || ((y5.1.Blocks_.length : Int) != 3)) then
    some (false)
   else
    (archive_GetTree_c y5.1 y5.2.1).bind fun y6 =>
    (archive_Reach_c y5.1 y5.2.1).bind fun y7 =>
    Option.bind (bif (y6.2 == 0) then 
     Option.bind (ref10_Same (api_Tree.mk 3 [(api_Node.mk 1 1 0 [47] 2147484141 [97, 100, 109] [] [] 0 0 []), (api_Node.mk 2 1 0 [102] 420 [] [] [] 0 0 [104, 101, 108, 108, 111])]) y6.1) fun (y8 : Bool) =>
     some y8
      else some false) fun (y9 : Bool) =>
    Option.bind (bif ((y9 && (y7.2 == 0)) && ((y7.1.length : Int) == 3)) then 
     Option.bind (archive_Changed_c (api_Tree.mk 3 [(api_Node.mk 1 1 0 [47] 2147484141 [97, 100, 109] [] [] 0 0 []), (api_Node.mk 2 1 0 [102] 420 [] [] [] 0 0 [104, 101, 108, 108, 111])]) y6.1) fun (y10 : (List Str)) =>
     some ((y10.length : Int) == 0)
      else some false) fun (y11 : Bool) =>
    some (y11))))
theorem e_law16_awake : law16_awake = law16_awake_c := by
 simp only [law16_awake, law16_awake_c, e_archive_PutFile, e_archive_ReadAt, e_archive_PutTree, e_archive_GetTree, e_archive_Reach, e_archive_Changed] <;> rfl
theorem awake_eq : law16_awake = some true := by
 rw [e_law16_awake]
 kernel_rfl
end
end Go.Proofs.YtfdmakpcmkbhhaaGreatDoor
namespace Go.Proofs.YtfdmakpcmkbhhaaGreatDoor
open Go.Rt Go.RowKit
end Go.Proofs.YtfdmakpcmkbhhaaGreatDoor
namespace Go.Proofs.YtfdmakpcmkbhhaaGreatDoor
open Go.Rt Go.RowKit
def runS {α σ ε : Type} (f : σ → α → σ ⊕ ε) : σ → List α → σ ⊕ ε
 | s, [] => .inl s
 | s, x :: l => match f s x with
  | .inl s' => runS f s' l
  | .inr e => .inr e
def outS {σ ε β : Type} (fin : σ → β) (err : ε → β) : σ ⊕ ε → β
 | .inl s => fin s
 | .inr e => err e
def stepS {σ ε τ β : Type} (mk : σ → τ) (err : ε → β) : σ ⊕ ε → Step τ β
 | .inl s => .next (mk s)
 | .inr e => .done (err e)
theorem loop_runS {α σ ε τ β : Type} {body : τ → Option (Step τ β)} (xs : List α) (f : σ → α → σ ⊕ ε) (mk : Nat → σ → τ) (Inv : Nat → σ → Prop) (fin : σ → β) (err : ε → β) (s0 : σ) (hn : xs.length < BIG) (h0 : Inv 0 s0)
  (hb : ∀ i s (h : i < xs.length), Inv i s → body (mk i s) = some (stepS (mk (i + 1)) err (f s xs[i])) ∧ ∀ s', f s xs[i] = .inl s' → Inv (i + 1) s')
  (he : ∀ s, Inv xs.length s → body (mk xs.length s) = some (.done (fin s))) : loopF body BIG (mk 0 s0) = some (outS fin err (runS f s0 xs)) := by
 refine loopF_up (J := fun i t b => ∃ s, Inv i s ∧ t = mk i s ∧ b = outS fin err (runS f s (xs.drop i))) xs.length hn (fun t b hJ => ?_) (fun i t b hi hJ => ?_) ⟨s0, h0, rfl, by simp⟩
 ·obtain ⟨s, hI, rfl, rfl⟩ := hJ
  rw [he s hI]; simp [runS, outS]
 ·obtain ⟨s, hI, rfl, rfl⟩ := hJ
  obtain ⟨h1, h2⟩ := hb i s hi hI
  rw [List.drop_eq_getElem_cons hi]
  simp only [runS]
  cases hf : f s xs[i] with
  | inl s' =>
   rw [hf] at h1
   exact .inr ⟨_, h1, s', h2 s' hf, rfl, rfl⟩
  | inr b =>
   rw [hf] at h1
   exact .inl h1
end Go.Proofs.YtfdmakpcmkbhhaaGreatDoor
namespace Go.Proofs.YtfdmakpcmkbhhaaGreatDoor
open Go.Rt Go.RowKit
end Go.Proofs.YtfdmakpcmkbhhaaGreatDoor
namespace Go.Proofs.YtfdmakpcmkbhhaaGreatDoor
open Go.Rt Go.RowKit
end Go.Proofs.YtfdmakpcmkbhhaaGreatDoor
namespace Go.Proofs.YtfdmakpcmkbhhaaGreatDoor
open Go.Rt Go.RowKit
end Go.Proofs.YtfdmakpcmkbhhaaGreatDoor
namespace Go.Proofs.YtfdmakpcmkbhhaaGreatDoor
open Go.Rt Go.RowKit
theorem OkT.name {l : List api_Node} {next : Int} (h : OkT l next) {n : api_Node} (hn : n ∈ l) : n.Name_.length ≤ 64 := by
 by_cases h1 : n.Id_ = 1
 ·obtain ⟨r, q, rfl, h2, _, h3, _⟩ := h.root
  have : n = r := id_inj h.srt hn List.mem_cons_self (by rw [h1, h2])
  rw [this, h3]
  decide
 ·have := h.nam n hn h1
  unfold okName at this
  simp only [Bool.and_eq_true, decide_eq_true_eq] at this
  exact this.1.1.1.2
theorem runS_list {α σ ε : Type} {f : σ → α → σ ⊕ ε} (Inv : Nat → σ → Prop) (Q : ε → Prop) : ∀ {xs : List α} {k : Nat} {s0 : σ}, Inv k s0 → (∀ i s x, x ∈ xs → Inv i s → (∀ s', f s x = .inl s' → Inv (i + 1) s') ∧ ∀ e, f s x = .inr e → Q e) →
  (∀ s, runS f s0 xs = .inl s → Inv (k + xs.length) s) ∧ ∀ e, runS f s0 xs = .inr e → Q e
 | [], k, s0, h0, _ => ⟨fun s e => by simp only [runS, Sum.inl.injEq] at e; subst e; exact h0, fun e h => by simp [runS] at h⟩
 | x :: l, k, s0, h0, h => by
  obtain ⟨h1, h2⟩ := h k s0 x List.mem_cons_self h0
  simp only [runS]
  cases hf : f s0 x with
  | inl s' =>
   obtain ⟨i1, i2⟩ := runS_list Inv Q (xs := l) (h1 s' hf) fun i s y hy => h i s y (List.mem_cons_of_mem _ hy)
   refine ⟨fun s e => ?_, i2⟩
   have := i1 s e
   rwa [show k + 1 + l.length = k + (x :: l).length by simp; omega] at this
  | inr e =>
   refine ⟨fun s e' => (by cases e'), fun e' h' => ?_⟩
   obtain rfl := Sum.inr.inj h'
   exact h2 e hf
def smallN (i : Nat) (n : api_Node) : Bool := (((((decide (i ≥ 20)) || (decide ((n.Data_.length : Int) > 10000))) || (decide ((n.Name_.length : Int) > 1000))) || (decide ((n.Uid_.length : Int) > 1000))) || (decide ((n.Gid_.length : Int) > 1000))) || (decide ((n.Muid_.length : Int) > 1000))
theorem small_eq (t : api_Tree) (hl : t.Nodes_.length ≤ 9223372036854775807) : ∃ b, law16_small t = some b ∧ (b = true → t.Nodes_.length ≤ 20 ∧ ∀ n ∈ t.Nodes_, n.Name_.length ≤ 1000) := by
 unfold law16_small
 have h := loop_runS (body := law16_small_L1 t) t.Nodes_ (fun (a : Nat × Int) n => (if smallN a.1 n then .inr () else .inl (a.1 + 1, w64 (a.2 + (n.Data_.length : Int))) : (Nat × Int) ⊕ Unit)) (fun i a => (a.2, (i : Int))) (fun i a => a.1 = i) (fun a => Out.fall a.2) (fun _ => Out.ret false) (0, 0) (Nat.lt_of_le_of_lt hl (by decide)) rfl (fun i a hi hI => ?_) (fun a hI => ?_)
 ·have hinv := runS_list (f := fun (a : Nat × Int) n => (if smallN a.1 n then .inr () else .inl (a.1 + 1, w64 (a.2 + (n.Data_.length : Int))) : (Nat × Int) ⊕ Unit)) (fun i a => a.1 = i ∧ (i = 0 ∨ i ≤ 20)) (fun _ => True) (xs := t.Nodes_) (k := 0) (s0 := (0, 0)) ⟨rfl, .inl rfl⟩ fun i a n hn ⟨a1, a2⟩ => by
   refine ⟨fun s' he => ?_, fun _ _ => trivial⟩
   split at he
   ·cases he
   ·rename_i hs
    obtain rfl := Sum.inl.inj he
    unfold smallN at hs
    simp only [Bool.or_eq_true, decide_eq_true_eq, not_or] at hs
    exact ⟨by simp [a1], .inr (by omega)⟩
  have hall : ∀ (l : List api_Node) (a b : Nat × Int), runS (fun (a : Nat × Int) n => (if smallN a.1 n then .inr () else .inl (a.1 + 1, w64 (a.2 + (n.Data_.length : Int))) : (Nat × Int) ⊕ Unit)) a l = .inl b → ∀ n ∈ l, n.Name_.length ≤ 1000 := fun l => by
   induction l with
   | nil => intro a b _ n hn; cases hn
   | cons x l ih =>
    intro a b hb n hn
    simp only [runS] at hb
    by_cases hx : smallN a.1 x = true
    ·simp only [if_pos hx] at hb
     cases hb
    ·simp only [if_neg hx] at hb
     rcases List.mem_cons.1 hn with rfl | hn
     ·unfold smallN at hx
      simp only [Bool.or_eq_true, decide_eq_true_eq, not_or] at hx
      omega
     ·exact ih _ b hb n hn
  cases hq : runS (fun (a : Nat × Int) n => (if smallN a.1 n then .inr () else .inl (a.1 + 1, w64 (a.2 + (n.Data_.length : Int))) : (Nat × Int) ⊕ Unit)) (0, 0) t.Nodes_ with
  | inl a =>
   rw [hq] at h
   obtain ⟨_, h2⟩ := hinv.1 a hq
   exact ⟨_, bind_eq h rfl, fun _ => ⟨by omega, hall _ _ _ hq⟩⟩
  | inr e =>
   rw [hq] at h
   exact ⟨false, bind_eq h rfl, fun e => by cases e⟩
 ·constructor
  ·unfold law16_small_L1
   refine cond_t (lt_t hi) (bind_eq (getI_lt hi) ?_)
   have hsm : smallN a.1 t.Nodes_[i] = ((((((decide ((i : Int) ≥ 20)) || (decide ((t.Nodes_[i].Data_.length : Int) > 10000))) || (decide ((t.Nodes_[i].Name_.length : Int) > 1000))) || (decide ((t.Nodes_[i].Uid_.length : Int) > 1000))) || (decide ((t.Nodes_[i].Gid_.length : Int) > 1000))) || (decide ((t.Nodes_[i].Muid_.length : Int) > 1000))) := by
    unfold smallN
    rw [hI]
    congr 5
    rw [decide_eq_decide]
    omega
   simp only [← hsm]
   cases smallN a.1 t.Nodes_[i] with
   | true => rfl
   | false =>
    rw [w_succ (by omega)]
    rfl
  ·intro s' he
   split at he
   ·cases he
   ·obtain rfl := Sum.inl.inj he
    simp only [hI]
 ·unfold law16_small_L1
  exact cond_f (lt_f _) rfl
def TreeF (t : api_Tree) : Prop := t.Nodes_.length ≤ 9223372036854775807 ∧ ∀ n ∈ t.Nodes_, n.Mode_ ≤ 9223372036854775807 ∧ n.Name_.length ≤ 9223372036854775807
theorem tree_fit {t : api_Tree} (h : Fit te (.st 8) t) : TreeF t :=
 ⟨(h 0).2.1, fun n hn => ⟨((h 1).2.1.2 n hn).2.2.2.2.1.2, ((h 1).2.1.2 n hn).2.2.2.1⟩⟩
end Go.Proofs.YtfdmakpcmkbhhaaGreatDoor
namespace Go.Proofs.YtfdmakpcmkbhhaaGreatDoor
open Go.Rt Go.RowKit Go.Sort
abbrev Asc (l : List Str) : Prop := l.Pairwise (· < ·)
theorem asc_uniq : ∀ {l m : List Str}, Asc l → Asc m → (∀ x, x ∈ l ↔ x ∈ m) → l = m
 | [], [], _, _, _ => rfl
 | [], y :: m, _, _, h => absurd ((h y).2 List.mem_cons_self) (by simp)
 | x :: l, [], _, _, h => absurd ((h x).1 List.mem_cons_self) (by simp)
 | x :: l, y :: m, h1, h2, h => by
  obtain ⟨a1, a2⟩ := List.pairwise_cons.1 h1
  obtain ⟨b1, b2⟩ := List.pairwise_cons.1 h2
  have hxy : x = y := by
   rcases List.mem_cons.1 ((h x).1 List.mem_cons_self) with e | e
   ·exact e
   ·rcases List.mem_cons.1 ((h y).2 List.mem_cons_self) with e' | e'
    ·exact e'.symm
    ·exact absurd (List.lt_trans (b1 x e) (a1 y e')) (List.lt_irrefl y)
  subst hxy
  rw [asc_uniq a2 b2 fun z => ?_]
  constructor
  ·intro hz
   rcases List.mem_cons.1 ((h z).1 (List.mem_cons_of_mem _ hz)) with e | e
   ·exact absurd (e ▸ a1 z hz) (List.lt_irrefl _)
   ·exact e
  ·intro hz
   rcases List.mem_cons.1 ((h z).2 (List.mem_cons_of_mem _ hz)) with e | e
   ·exact absurd (e ▸ b1 z hz) (List.lt_irrefl _)
   ·exact e
def insD (s : Str) : List Str → List Str
 | [] => [s]
 | y :: l => if y < s then y :: insD s l else if y = s then y :: l else s :: y :: l
def ltN (s : Str) : List Str → Nat
 | [] => 0
 | y :: l => if y < s then ltN s l + 1 else 0
theorem ltN_le (s : Str) : ∀ l, ltN s l ≤ l.length
 | [] => Nat.le_refl _
 | y :: l => by
  unfold ltN
  have := ltN_le s l
  split <;> simp <;> omega
theorem ltN_lt (s : Str) : ∀ {l : List Str} {i : Nat} (h : i < l.length), i < ltN s l → l[i] < s
 | y :: l, 0, _, hi => by
  unfold ltN at hi
  split at hi
  ·assumption
  ·omega
 | y :: l, i + 1, h, hi => by
  unfold ltN at hi
  split at hi
  ·exact ltN_lt s (l := l) (i := i) (by simpa using h) (by omega)
  ·omega
theorem ltN_at (s : Str) : ∀ {l : List Str} (h : ltN s l < l.length), ¬ l[ltN s l] < s
 | y :: l, h => by
  by_cases hy : y < s
  ·have e : ltN s (y :: l) = ltN s l + 1 := by simp [ltN, hy]
   simp only [e] at h ⊢
   exact ltN_at s (l := l) (by simpa using h)
  ·have e : ltN s (y :: l) = 0 := by simp [ltN, hy]
   simp only [e]
   exact hy
theorem insD_eq (s : Str) : ∀ (l : List Str), insD s l = if l[ltN s l]? = some s then l else l.take (ltN s l) ++ [s] ++ l.drop (ltN s l)
 | [] => by simp [insD, ltN]
 | y :: l => by
  unfold insD
  by_cases hy : y < s
  ·have e : ltN s (y :: l) = ltN s l + 1 := by simp [ltN, hy]
   rw [if_pos hy, e, insD_eq s l]
   simp only [List.getElem?_cons_succ, List.take_succ_cons, List.drop_succ_cons]
   split <;> simp
  ·have e : ltN s (y :: l) = 0 := by simp [ltN, hy]
   rw [if_neg hy, e]
   by_cases h2 : y = s
   ·simp [h2]
   ·simp [h2]
theorem insD_mem (s : Str) : ∀ (l : List Str) (x : Str), x ∈ insD s l ↔ x = s ∨ x ∈ l
 | [], x => by simp [insD]
 | y :: l, x => by
  unfold insD
  split
  ·rw [List.mem_cons, insD_mem s l x, List.mem_cons]
   constructor
   ·rintro (h | h | h)
    ·exact .inr (.inl h)
    ·exact .inl h
    ·exact .inr (.inr h)
   ·rintro (h | h | h)
    ·exact .inr (.inl h)
    ·exact .inl h
    ·exact .inr (.inr h)
  ·split
   ·rename_i h
    subst h
    simp
   ·simp
theorem str_tri (a b : Str) (h : ¬ a < b) (h2 : a ≠ b) : b < a := by
 rcases leS_total a b with h3 | h3
 ·unfold leS at h3
  simp only [decide_eq_true_eq] at h3
  rcases List.le_iff_lt_or_eq.1 h3 with h4 | h4
  ·exact absurd h4 h
  ·exact absurd h4 h2
 ·unfold leS at h3
  simp only [decide_eq_true_eq] at h3
  rcases List.le_iff_lt_or_eq.1 h3 with h4 | h4
  ·exact h4
  ·exact absurd h4.symm h2
theorem insD_asc (s : Str) : ∀ {l : List Str}, Asc l → Asc (insD s l)
 | [], _ => by simp [insD, Asc]
 | y :: l, h => by
  obtain ⟨a1, a2⟩ := List.pairwise_cons.1 h
  unfold insD
  split
  ·rename_i hy
   refine List.pairwise_cons.2 ⟨fun z hz => ?_, insD_asc s a2⟩
   rcases (insD_mem s l z).1 hz with rfl | hz
   ·exact hy
   ·exact a1 z hz
  ·rename_i hy
   split
   ·exact h
   ·rename_i h2
    have h3 := str_tri y s hy h2
    refine List.pairwise_cons.2 ⟨fun z hz => ?_, h⟩
    rcases List.mem_cons.1 hz with rfl | hz
    ·exact h3
    ·exact List.lt_trans h3 (a1 z hz)
theorem insD_len (s : Str) : ∀ (l : List Str), (insD s l).length ≤ l.length + 1
 | [] => by simp [insD]
 | y :: l => by
  have := insD_len s l
  unfold insD
  split
  ·simp; omega
  ·split <;> simp
theorem with_eq {l : List Str} (s : Str) (hl : l.length ≤ 1073741824) : ref16_with l s = some (insD s l) := by
 unfold ref16_with
 have hle := ltN_le s l
 refine bind_eq (a := ((ltN s l : Nat) : Int)) ?_ ?_
 ·refine loop_traj (T := fun i => (i : Int)) (ltN s l) (lt_big (by omega)) (fun i hi => ?_) ?_
  ·have hi' : i < l.length := by omega
   unfold ref16_with_L1
   refine bind_eq (a := true) (cond_t (lt_t hi') (bind_eq (getI_lt hi') ?_)) (cond_t rfl (by rw [w_succ (by omega)]))
   rw [bytesLess_eq]
   exact congrArg some (decide_eq_true (ltN_lt s hi' hi))
  ·unfold ref16_with_L1
   refine bind_eq (a := false) ?_ rfl
   by_cases h : ltN s l < l.length
   ·refine cond_t (lt_t h) (bind_eq (getI_lt h) ?_)
    rw [bytesLess_eq]
    exact congrArg some (decide_eq_false (ltN_at s h))
   ·have : ltN s l = l.length := by omega
    rw [this]
    exact cond_f (lt_f _) rfl
 ·rw [insD_eq]
  have hs0 : subI l 0 ((ltN s l : Nat) : Int) = some (l.take (ltN s l)) := by
   rw [subI_eq (by omega) (by omega) (by omega), Int.toNat_natCast]
   rfl
  have hs1 : subI l ((ltN s l : Nat) : Int) (l.length : Int) = some (l.drop (ltN s l)) := by
   rw [subI_eq (by omega) (by omega) (by omega), Int.toNat_natCast, Int.toNat_natCast, List.take_length]
  have hins : ((subI l 0 ((ltN s l : Nat) : Int)).bind fun y7 => (room 16 ([] : List Str) y7).bind fun y8 => (room 16 y8 [s]).bind fun y9 => (subI l ((ltN s l : Nat) : Int) (l.length : Int)).bind fun y10 => (room 16 y9 y10).bind fun y11 => some y11) = some (l.take (ltN s l) ++ [s] ++ l.drop (ltN s l)) := by
   refine bind_eq hs0 (bind_eq (a := l.take (ltN s l)) ?_ (bind_eq (a := l.take (ltN s l) ++ [s]) ?_ (bind_eq hs1 (bind_eq (a := l.take (ltN s l) ++ [s] ++ l.drop (ltN s l)) ?_ rfl))))
   ·rw [room_eq (by simp; omega) (by simp; omega)]
    rfl
   ·rw [room_eq (by simp; omega) (by simp; omega)]
   ·rw [room_eq (by simp; omega) (by simp; omega)]
  by_cases h : ltN s l < l.length
  ·rw [List.getElem?_eq_getElem h]
   by_cases he : l[ltN s l] = s
   ·rw [if_pos (by rw [he])]
    exact bind_eq (a := true) (cond_t (lt_t h) (bind_eq (getI_lt h) (by rw [he]; simp))) rfl
   ·rw [if_neg (fun e => he (Option.some.inj e))]
    exact bind_eq (a := false) (cond_t (lt_t h) (bind_eq (getI_lt h) (by simp [he]))) (cond_f rfl hins)
  ·have hl0 : ltN s l = l.length := by omega
   rw [List.getElem?_eq_none (by omega), if_neg (by simp)]
   refine bind_eq (a := false) (cond_f ?_ rfl) (cond_f rfl hins)
   rw [hl0]
   exact lt_f _
theorem compact_upTo {zs : List Str} (h : zs.Pairwise fun a b => leS a b = true) : ∀ m, m ≤ zs.length → Asc (Lib.compactUpTo zs.toArray m) ∧ (∀ x, x ∈ Lib.compactUpTo zs.toArray m ↔ x ∈ zs.take m)
 | 0, _ => ⟨by simp [Lib.compactUpTo, Asc], fun x => by simp [Lib.compactUpTo]⟩
 | m + 1, hm => by
  obtain ⟨i1, i2⟩ := compact_upTo h m (by omega)
  have hm' : m < zs.length := by omega
  have hsz : m < zs.toArray.size := by simpa using hm'
  have e1 : zs.toArray[m]! = zs[m] := by rw [getElem!_pos zs.toArray m hsz]; simp
  rw [Lib.compactUpTo_succ, e1, List.take_add_one, List.getElem?_eq_getElem hm']
  by_cases h0 : m = 0
  ·subst h0
   have hk : Lib.keeps zs.toArray 0 = true := by simp [Lib.keeps]
   rw [hk, if_pos rfl]
   refine ⟨by simp [Lib.compactUpTo, Asc], fun x => by simp [Lib.compactUpTo]⟩
  ·have hp : m - 1 < zs.length := by omega
   have hsz2 : m - 1 < zs.toArray.size := by simpa using hp
   have e2 : zs.toArray[m - 1]! = zs[m - 1] := by rw [getElem!_pos zs.toArray (m - 1) hsz2]; simp
   have hle : leS zs[m - 1] zs[m] = true := List.pairwise_iff_getElem.1 h (m - 1) m hp hm' (by omega)
   by_cases hk : zs[m] = zs[m - 1]
   ·rw [Lib.keeps_neg (by omega) (by rw [e1, e2, hk])]
    refine ⟨by simpa using i1, fun x => ?_⟩
    simp only [Bool.false_eq_true, if_false, List.append_nil, Option.toList_some, List.mem_append, List.mem_singleton]
    rw [i2 x]
    refine ⟨.inl, fun h' => ?_⟩
    rcases h' with h' | h'
    ·exact h'
    ·rw [h', hk]
     have hl : m - 1 < (zs.take m).length := by rw [List.length_take]; omega
     have := List.getElem_mem hl
     rwa [List.getElem_take] at this
   ·rw [Lib.keeps_pos (by rw [e1, e2]; exact hk), if_pos rfl]
    refine ⟨List.pairwise_append.2 ⟨i1, by simp, fun a ha b hb => ?_⟩, fun x => ?_⟩
    ·rw [List.mem_singleton] at hb
     subst hb
     have ha' := (i2 a).1 ha
     obtain ⟨j, hj, e⟩ := List.getElem_of_mem ha'
     rw [List.length_take] at hj
     rw [List.getElem_take] at e
     have h3 : leS a zs[m] = true := by
      rw [← e]
      exact List.pairwise_iff_getElem.1 h j m (by omega) hm' (by omega)
     have h4 : a ≠ zs[m] := fun e4 => by
      have h5 : leS a zs[m - 1] = true := by
       rw [← e]
       rcases Nat.lt_or_ge j (m - 1) with h6 | h6
       ·exact List.pairwise_iff_getElem.1 h j (m - 1) (by omega) hp h6
       ·have : j = m - 1 := by omega
        subst this
        unfold leS
        simp
      rw [e4] at h5
      exact hk (leS_anti _ _ h5 hle)
     unfold leS at h3
     simp only [decide_eq_true_eq] at h3
     rcases List.le_iff_lt_or_eq.1 h3 with h5 | h5
     ·exact h5
     ·exact absurd h5 h4
    ·simp only [Option.toList_some, List.mem_append, List.mem_singleton]
     rw [i2 x]
def canon (l : List Str) : List Str := Lib.compact (isort leS l)
theorem canon_asc (l : List Str) : Asc (canon l) := (compact_upTo (isort_sorted leS_trans leS_total l) _ (Nat.le_refl _)).1
theorem canon_mem (l : List Str) (x : Str) : x ∈ canon l ↔ x ∈ l := by
 unfold canon Lib.compact
 rw [(compact_upTo (isort_sorted leS_trans leS_total l) _ (Nat.le_refl _)).2 x, List.take_length]
 exact (isort_perm l).mem_iff
theorem canon_eq {l m : List Str} (h : ∀ x, x ∈ l ↔ x ∈ m) : canon l = canon m := asc_uniq (canon_asc l) (canon_asc m) fun x => by rw [canon_mem, canon_mem, h]
theorem canon_of {l m : List Str} (h1 : Asc m) (h : ∀ x, x ∈ m ↔ x ∈ l) : canon l = m := asc_uniq (canon_asc l) h1 fun x => by rw [canon_mem, h]
theorem sort_compact {l : List Str} (hl : l.length < 4611686018427387904) {R : Type} (k : List Str → Option R) : ((slices_SortS l).bind fun y => (slices_CompactS y).bind k) = k (canon l) := by
 have hlen : (isort leS l).length = l.length := (isort_perm l).length_eq
 refine bind_eq (a := isort leS l) (by rw [sortS_eq]; unfold sortC; rw [if_pos hl]) (bind_eq (a := canon l) ?_ rfl)
 unfold slices_CompactS
 rw [if_pos (by omega)]
 rfl
end Go.Proofs.YtfdmakpcmkbhhaaGreatDoor
namespace Go.Proofs.YtfdmakpcmkbhhaaGreatDoor
open Go.Rt Go.RowKit
def befN (l : List api_Node) (n : api_Node) : Nat := l.countP fun x => decide (x.Id_ < n.Id_)
theorem countP_lt {α : Type} {p q : α → Bool} (hpq : ∀ x, p x = true → q x = true) : ∀ {l : List α} {a : α}, a ∈ l → p a = false → q a = true → l.countP p < l.countP q
 | x :: l, a, ha, h1, h2 => by
  have hle : l.countP p ≤ l.countP q := List.countP_mono_left fun x _ hx => hpq x hx
  rw [List.countP_cons, List.countP_cons]
  rcases List.mem_cons.1 ha with rfl | ha
  ·rw [h1, h2]
   simp
   omega
  ·have := countP_lt hpq (l := l) ha h1 h2
   cases hx : p x with
   | true => rw [hpq x hx]; simp; omega
   | false => cases q x <;> simp <;> omega
theorem befN_lt {l : List api_Node} {p n : api_Node} (hp : p ∈ l) (h : p.Id_ < n.Id_) : befN l p < befN l n :=
 countP_lt (fun x hx => by simp only [decide_eq_true_eq] at *; omega) hp (by simp) (by simpa using h)
theorem befN_len {l : List api_Node} {n : api_Node} (hn : n ∈ l) : befN l n < l.length := by
 have := countP_lt (p := fun x : api_Node => decide (x.Id_ < n.Id_)) (q := fun _ => true) (fun _ _ => rfl) hn (by simp) rfl
 rwa [List.countP_true] at this
def pathF (l : List api_Node) : Nat → api_Node → Str
 | 0, _ => []
 | f + 1, n => if n.Id_ = 1 then [] else pathF l f (nodeT l n.Parent_).1 ++ (47 :: n.Name_)
def pathN (l : List api_Node) (n : api_Node) : Str := pathF l (befN l n + 1) n
section
variable {l : List api_Node} {next : Int} (h : OkT l next)
include h
theorem OkT.up {n : api_Node} (hn : n ∈ l) (h1 : n.Id_ ≠ 1) : ∃ p ∈ l, nodeT l n.Parent_ = (p, true) ∧ p.Id_ < n.Id_ ∧ befN l p < befN l n := by
 obtain ⟨p, hp, e, hlt, _⟩ := h.par n hn h1
 have := nodeT_of h.srt hp
 rw [e] at this
 exact ⟨p, hp, this, hlt, befN_lt hp hlt⟩
theorem pathF_eq : ∀ (f g : Nat) {n : api_Node}, n ∈ l → befN l n < f → befN l n < g → pathF l f n = pathF l g n
 | 0, _, n, _, hf, _ => by omega
 | f + 1, 0, n, _, _, hg => by omega
 | f + 1, g + 1, n, hn, hf, hg => by
  unfold pathF
  split
  ·rfl
  ·rename_i h1
   obtain ⟨p, hp, e, _, hb⟩ := OkT.up h hn h1
   rw [e]
   simp only
   rw [pathF_eq f g hp (by omega) (by omega)]
omit h in
theorem pathN_root {n : api_Node} (h1 : n.Id_ = 1) : pathN l n = [] := by
 unfold pathN pathF
 rw [if_pos h1]
theorem pathN_up {n : api_Node} (hn : n ∈ l) (h1 : n.Id_ ≠ 1) : ∃ p ∈ l, nodeT l n.Parent_ = (p, true) ∧ p.Id_ < n.Id_ ∧ befN l p < befN l n ∧ pathN l n = pathN l p ++ (47 :: n.Name_) := by
 obtain ⟨p, hp, e, h2, hb⟩ := OkT.up h hn h1
 refine ⟨p, hp, e, h2, hb, ?_⟩
 unfold pathN
 rw [pathF, if_neg h1, e]
 simp only
 rw [pathF_eq h _ _ hp hb (Nat.lt_succ_self _)]
theorem name_ok {n : api_Node} (hn : n ∈ l) (h1 : n.Id_ ≠ 1) : n.Name_ ≠ [] ∧ (47 : UInt8) ∉ n.Name_ := by
 have := h.nam n hn h1
 unfold okName at this
 simp only [Bool.and_eq_true, decide_eq_true_eq, List.all_eq_true] at this
 obtain ⟨⟨⟨⟨h2, _⟩, _⟩, _⟩, h3⟩ := this
 refine ⟨fun e => by rw [e] at h2; simp at h2, fun hm => ?_⟩
 have := h3 47 hm
 simp [okByte] at this
omit h in
theorem last_slash : ∀ {a b x y : Str}, (47 : UInt8) ∉ x → (47 : UInt8) ∉ y → a ++ 47 :: x = b ++ 47 :: y → a = b ∧ x = y
 | [], [], x, y, _, _, e => ⟨rfl, by simpa using e⟩
 | [], c :: b, x, y, hx, _, e => by
  simp only [List.nil_append, List.cons_append, List.cons.injEq] at e
  exact absurd (by rw [e.2]; simp) hx
 | c :: a, [], x, y, _, hy, e => by
  simp only [List.nil_append, List.cons_append, List.cons.injEq] at e
  exact absurd (by rw [← e.2]; simp) hy
 | c :: a, d :: b, x, y, hx, hy, e => by
  simp only [List.cons_append, List.cons.injEq] at e
  obtain ⟨h1, h2⟩ := last_slash hx hy e.2
  exact ⟨by rw [e.1, h1], h2⟩
theorem pathN_inj : ∀ (k : Nat) {n m : api_Node}, befN l n < k → n ∈ l → m ∈ l → pathN l n = pathN l m → n = m
 | 0, n, m, hk, _, _, _ => by omega
 | k + 1, n, m, hk, hn, hm, e => by
  by_cases h1 : n.Id_ = 1
  ·by_cases h2 : m.Id_ = 1
   ·exact id_inj h.srt hn hm (by rw [h1, h2])
   ·obtain ⟨p, _, _, _, _, e2⟩ := pathN_up h hm h2
    rw [pathN_root h1, e2] at e
    simp at e
  ·by_cases h2 : m.Id_ = 1
   ·obtain ⟨p, _, _, _, _, e2⟩ := pathN_up h hn h1
    rw [pathN_root h2, e2] at e
    simp at e
   ·obtain ⟨p, hp, ep, _, hb, e2⟩ := pathN_up h hn h1
    obtain ⟨q, hq, eq, _, _, e3⟩ := pathN_up h hm h2
    rw [e2, e3] at e
    obtain ⟨h3, h4⟩ := last_slash (name_ok h hn h1).2 (name_ok h hm h2).2 e
    have hpq := pathN_inj k (by omega) hp hq h3
    subst hpq
    have hpid := (nodeT_some (by rw [ep])).2
    have hqid := (nodeT_some (by rw [eq])).2
    rw [ep] at hpid
    rw [eq] at hqid
    exact id_inj h.srt hn hm (h.uniq n hn m hm h1 h2 (by rw [← hpid, ← hqid]) h4)
def fullN (l : List api_Node) (n : api_Node) : Str := if n.Id_ = 1 then [47] else pathN l n
theorem path_two {n : api_Node} (hn : n ∈ l) (h1 : n.Id_ ≠ 1) : 2 ≤ (pathN l n).length := by
 obtain ⟨p, _, _, _, _, e2⟩ := pathN_up h hn h1
 have := List.length_pos_iff.2 (name_ok h hn h1).1
 rw [e2, List.length_append, List.length_cons]
 omega
theorem fullN_inj {n m : api_Node} (hn : n ∈ l) (hm : m ∈ l) (e : fullN l n = fullN l m) : n = m := by
 unfold fullN at e
 split at e <;> split at e
 ·rename_i h1 h2
  exact id_inj h.srt hn hm (by rw [h1, h2])
 ·rename_i h1 h2
  have := path_two h hm h2
  rw [← e] at this
  simp at this
 ·rename_i h1 h2
  have := path_two h hn h1
  rw [e] at this
  simp at this
 ·exact pathN_inj h _ (Nat.lt_succ_self _) hn hm e
end
theorem tree_path_loop {t : api_Tree} (h : OkT t.Nodes_ t.Next_) : ∀ (f k : Nat) {n : api_Node} (p : Str), n ∈ t.Nodes_ → befN t.Nodes_ n < f → k + befN t.Nodes_ n ≤ t.Nodes_.length → p.length ≤ 65 * k → loopF (tree_Path_L1 t) f (true, p, (k : Int), n) = some (pathN t.Nodes_ n ++ p)
 | 0, k, n, p, _, hf, _, _ => by omega
 | f + 1, k, n, p, hn, hf, hk, hp => by
  have hlen := h.len
  by_cases h1 : n.Id_ = 1
  ·rw [pathN_root h1]
   exact loopF_done (cond_f (by simp [h1]) rfl)
  ·obtain ⟨q, hq, e, _, hb, e2⟩ := pathN_up h hn h1
   have hname := h.name hn
   have ih := tree_path_loop h f (k + 1) (n := q) (47 :: n.Name_ ++ p) hq (by omega) (by omega) (by simp; omega)
   rw [e2, List.append_assoc]
   refine loopF_step (s' := (true, 47 :: n.Name_ ++ p, ((k + 1 : Nat) : Int), q)) (cond_t (by simp [h1]; omega) (bind_eq (a := 47 :: n.Name_) (cat_eq (by simp; omega)) (bind_eq (cat_eq (by simp; omega)) (bind_eq (a := (q, true)) (by rw [tree_node_eq t n.Parent_ (by omega), e]) ?_)))) ih
   rw [w_succ (by omega)]
theorem tree_path_eq {t : api_Tree} (h : OkT t.Nodes_ t.Next_) {n : api_Node} (hn : n ∈ t.Nodes_) : tree_Path t n.Id_ = some (fullN t.Nodes_ n, 0) := by
 have hlen := h.len
 unfold tree_Path fullN
 refine bind_eq (a := (n, true)) (by rw [tree_node_eq t n.Id_ (by omega), nodeT_of h.srt hn]) (cond_f rfl ?_)
 have hb := befN_len hn
 by_cases h1 : n.Id_ = 1
 ·rw [if_pos h1]
  exact cond_t (by simp [h1]) rfl
 ·rw [if_neg h1]
  refine cond_f (by simp [h1]) (bind_eq (a := pathN t.Nodes_ n) ?_ rfl)
  have := loopF_more (tree_path_loop h (befN t.Nodes_ n + 1) 0 (n := n) [] hn (by omega) (by omega) (by simp)) (show befN t.Nodes_ n + 1 ≤ BIG from Nat.le_of_lt (lt_big (by omega)))
  rwa [List.append_nil] at this
theorem ref_path_loop {t : api_Tree} (h : OkT t.Nodes_ t.Next_) : ∀ (f k : Nat) {n : api_Node} (p : Str), n ∈ t.Nodes_ → befN t.Nodes_ n < f → k + befN t.Nodes_ n ≤ t.Nodes_.length → p.length ≤ 65 * k → loopF (ref10_Path_L1 t) f (p, (k : Int), n) = some (pathN t.Nodes_ n ++ p)
 | 0, k, n, p, _, hf, _, _ => by omega
 | f + 1, k, n, p, hn, hf, hk, hp => by
  have hlen := h.len
  by_cases h1 : n.Id_ = 1
  ·rw [pathN_root h1]
   exact loopF_done (cond_f (by simp [h1]) rfl)
  ·obtain ⟨q, hq, e, _, hb, e2⟩ := pathN_up h hn h1
   have hname := h.name hn
   have ih := ref_path_loop h f (k + 1) (n := q) (47 :: n.Name_ ++ p) hq (by omega) (by omega) (by simp; omega)
   rw [e2, List.append_assoc]
   refine loopF_step (s' := (47 :: n.Name_ ++ p, ((k + 1 : Nat) : Int), q)) (cond_t (by simp [h1]; omega) (bind_eq (a := 47 :: n.Name_) (cat_eq (by simp; omega)) (bind_eq (cat_eq (by simp; omega)) (bind_eq (a := (q, true)) (by rw [ref10_node_eq t n.Parent_ (by omega), e]) ?_)))) ih
   rw [w_succ (by omega)]
theorem ref_path_eq {t : api_Tree} (h : OkT t.Nodes_ t.Next_) {n : api_Node} (hn : n ∈ t.Nodes_) : ref10_Path t n.Id_ = some (fullN t.Nodes_ n, 0) := by
 have hlen := h.len
 unfold ref10_Path fullN
 refine bind_eq (a := (n, true)) (by rw [ref10_node_eq t n.Id_ (by omega), nodeT_of h.srt hn]) (cond_f rfl ?_)
 have hb := befN_len hn
 refine bind_eq (a := pathN t.Nodes_ n) ?_ ?_
 ·have := loopF_more (ref_path_loop h (befN t.Nodes_ n + 1) 0 (n := n) [] hn (by omega) (by omega) (by simp)) (show befN t.Nodes_ n + 1 ≤ BIG from Nat.le_of_lt (lt_big (by omega)))
  rwa [List.append_nil] at this
 ·by_cases h1 : n.Id_ = 1
  ·rw [if_pos h1, pathN_root h1]
   rfl
  ·rw [if_neg h1]
   have := path_two h hn h1
   cases hp : pathN t.Nodes_ n with
   | nil => rw [hp] at this; simp at this
   | cons a q => rfl
def bareP (n : api_Node) : api_Node := api_Node.mk 0 0 n.Vers_ n.Name_ n.Mode_ n.Uid_ n.Gid_ n.Muid_ n.Atime_ n.Mtime_ n.Data_
def plN (l : List api_Node) (n : api_Node) : archive_place := archive_place.mk (fullN l n) (bareP n)
theorem places_eq {t : api_Tree} (h : OkT t.Nodes_ t.Next_) : archive_places t = some (t.Nodes_.map (plN t.Nodes_)) := by
 have hlen := h.len
 unfold archive_places
 refine bind_eq (a := t.Nodes_.map (plN t.Nodes_)) ?_ rfl
 have e : t.Nodes_.map (plN t.Nodes_) = (t.Nodes_.take t.Nodes_.length).map (plN t.Nodes_) := by rw [List.take_length]
 rw [e]
 refine loop_traj (T := fun i => ((i : Int), (t.Nodes_.take i).map (plN t.Nodes_))) t.Nodes_.length (lt_big (by omega)) (fun i hi => ?_) ?_
 ·unfold archive_places_L1
  refine cond_t (lt_t hi) (bind_eq (getI_lt hi) (bind_eq (tree_path_eq h (List.getElem_mem hi)) (bind_eq (a := (t.Nodes_.take (i + 1)).map (plN t.Nodes_)) ?_ (by rw [w_succ (by omega)]))))
  rw [room_eq (by simp; omega) (by simp; omega), List.take_add_one, List.getElem?_eq_getElem hi, List.map_append]
  rfl
 ·unfold archive_places_L1
  exact cond_f (lt_f _) rfl
theorem contains_eq (l : List archive_place) (p : archive_place) (hl : l.length ≤ 1073741824) : slices_Contains_archiveplacearchiveplace l p = some (decide (p ∈ l)) := by
 unfold slices_Contains_archiveplacearchiveplace
 refine bind_eq (a := at_ (fun x => decide (p = x)) l) ?_ ?_
 ·unfold slices_Index_archiveplacearchiveplace
  have h := loop_scan (body := slices_Index_archiveplacearchiveplace_L1 l p) l (fun i x => if decide (p = x) then some ((i : Nat) : Int) else none) (lt_big (by omega)) (fun i hi => ?_) ?_
  ·rw [scan_ret h (fun r => rfl) (x := -1) rfl, at_getD]
  ·unfold slices_Index_archiveplacearchiveplace_L1
   refine cond_t (lt_t hi) (bind_eq (getI_lt hi) ?_)
   cases decide (p = l[i]) with
   | true => rfl
   | false =>
    rw [w_succ (by omega)]
    rfl
  ·unfold slices_Index_archiveplacearchiveplace_L1
   exact cond_f (lt_f _) rfl
 ·congr 1
  rcases at_find (fun x => decide (p = x)) l with ⟨h1, h2⟩ | ⟨i, x, h1, h2, h3, h4, _⟩
  ·rw [h2]
   have : p ∉ l := fun hm => by
    have := List.find?_eq_none.1 h1 p hm
    simp at this
   simp [this]
  ·rw [h2]
   simp only [decide_eq_true_eq] at h4
   have : p ∈ l := by rw [h4]; exact List.mem_of_getElem? h3
   simp [this]
def outP (x y : List archive_place) : List Str := (x.filter fun p => !(decide (p ∈ y))).map (·.path_)
theorem outP_len (x y : List archive_place) : (outP x y).length ≤ x.length := by
 unfold outP
 rw [List.length_map]
 exact List.length_filter_le _ _
theorem outP_take {x y : List archive_place} {i : Nat} (hi : i < x.length) : outP (x.take (i + 1)) y = if x[i] ∈ y then outP (x.take i) y else outP (x.take i) y ++ [x[i].path_] := by
 unfold outP
 rw [List.take_add_one, List.getElem?_eq_getElem hi, List.filter_append, List.map_append]
 by_cases hx : x[i] ∈ y <;> simp [hx]
theorem changed_loop1 {x y : List archive_place} (hx : x.length ≤ 1073741) (hy : y.length ≤ 1073741) : loopF (archive_Changed_L1 x y) BIG (0, x, []) = some (x, outP x y) := by
 have e : outP x y = outP (x.take x.length) y := by rw [List.take_length]
 rw [e]
 refine loop_traj (T := fun i => ((i : Int), x, outP (x.take i) y)) x.length (lt_big (by omega)) (fun i hi => ?_) ?_
 ·unfold archive_Changed_L1
  have hl := outP_len (x.take i) y
  rw [List.length_take] at hl
  refine cond_t (lt_t hi) (bind_eq (a := (x, outP (x.take (i + 1)) y)) (bind_eq (getI_lt hi) (bind_eq (contains_eq y x[i] (by omega)) ?_)) (by rw [w_succ (by omega)]))
  rw [outP_take hi]
  by_cases hm : x[i] ∈ y
  ·rw [if_pos hm]
   exact cond_f (by simp [hm]) rfl
  ·rw [if_neg hm]
   exact cond_t (by simp [hm]) (bind_eq (room_eq (by simp; omega) (by simp; omega)) rfl)
 ·unfold archive_Changed_L1
  exact cond_f (lt_f _) rfl
theorem changed_loop2 {x y : List archive_place} {acc : List Str} (hx : x.length ≤ 1073741) (hy : y.length ≤ 1073741) (ha : acc.length ≤ 1073741) : loopF (archive_Changed_L2 y (x, acc)) BIG (0, acc, y) = some (acc ++ outP y x) := by
 have e : outP y x = outP (y.take y.length) x := by rw [List.take_length]
 have e0 : acc = acc ++ outP (y.take 0) x := by simp [outP]
 rw [e]
 refine Eq.trans ?_ (loop_traj (body := archive_Changed_L2 y (x, acc)) (T := fun i => ((i : Int), acc ++ outP (y.take i) x, y)) y.length (lt_big (by omega)) (fun i hi => ?_) ?_)
 ·simp [outP]
 ·unfold archive_Changed_L2
  have hl := outP_len (y.take i) x
  rw [List.length_take] at hl
  refine cond_t (lt_t hi) (bind_eq (a := (acc ++ outP (y.take (i + 1)) x, y)) (bind_eq (getI_lt hi) (bind_eq (contains_eq x y[i] (by omega)) ?_)) (by rw [w_succ (by omega)]))
  rw [outP_take hi]
  by_cases hm : y[i] ∈ x
  ·rw [if_pos hm]
   exact cond_f (by simp [hm]) rfl
  ·rw [if_neg hm]
   refine cond_t (by simp [hm]) (bind_eq (room_eq (by simp; omega) (by simp; omega)) ?_)
   rw [List.append_assoc]
 ·unfold archive_Changed_L2
  exact cond_f (lt_f _) rfl
def diffN (a b : List api_Node) : List Str := outP (a.map (plN a)) (b.map (plN b)) ++ outP (b.map (plN b)) (a.map (plN a))
theorem Changed_eq {a b : api_Tree} (ha : OkT a.Nodes_ a.Next_) (hb : OkT b.Nodes_ b.Next_) : archive_Changed a b = some (canon (diffN a.Nodes_ b.Nodes_)) := by
 have h1 := ha.len
 have h2 := hb.len
 have l1 := outP_len (a.Nodes_.map (plN a.Nodes_)) (b.Nodes_.map (plN b.Nodes_))
 have l2 := outP_len (b.Nodes_.map (plN b.Nodes_)) (a.Nodes_.map (plN a.Nodes_))
 rw [List.length_map] at l1 l2
 unfold archive_Changed
 refine bind_eq (places_eq ha) (bind_eq (places_eq hb) (bind_eq (changed_loop1 (by simp; omega) (by simp; omega)) (bind_eq (changed_loop2 (by simp; omega) (by simp; omega) (by omega)) ?_)))
 exact sort_compact (by rw [List.length_append]; omega) _
def findP (l : List api_Node) (p : Str) : Option api_Node := l.find? fun n => fullN l n == p
theorem find_eq {t : api_Tree} (h : OkT t.Nodes_ t.Next_) (p : Str) : ref16_find t p = some (match findP t.Nodes_ p with | some n => (n, true) | none => (zeroN, false)) := by
 have hlen := h.len
 unfold ref16_find
 have hl := loop_scan (body := ref16_find_L1 t p) t.Nodes_ (fun _ n => if fullN t.Nodes_ n == p then some (n, true) else none) (lt_big (by omega)) (fun i hi => ?_) ?_
 ·rw [scan_ret hl (fun r => rfl) (x := (zeroN, false)) rfl, scan_find (fun n => fullN t.Nodes_ n == p) (fun n => (n, true))]
  unfold findP
  cases t.Nodes_.find? fun n => fullN t.Nodes_ n == p <;> rfl
 ·unfold ref16_find_L1
  refine cond_t (lt_t hi) (bind_eq (getI_lt hi) (bind_eq (ref_path_eq h (List.getElem_mem hi)) ?_))
  show (bif (fullN t.Nodes_ t.Nodes_[i]) == p then _ else _) = _
  cases (fullN t.Nodes_ t.Nodes_[i]) == p with
  | true => exact cond_t rfl (bind_eq (getI_lt hi) rfl)
  | false =>
   refine cond_f rfl ?_
   rw [w_succ (by omega)]
   rfl
 ·unfold ref16_find_L1
  exact cond_f (lt_f _) rfl
theorem findP_some {l : List api_Node} {p : Str} {n : api_Node} (h : findP l p = some n) : n ∈ l ∧ fullN l n = p := by
 unfold findP at h
 exact ⟨List.mem_of_find?_eq_some h, by simpa using List.find?_some h⟩
theorem findP_of {l : List api_Node} {next : Int} (h : OkT l next) {n : api_Node} (hn : n ∈ l) : findP l (fullN l n) = some n := by
 cases hf : findP l (fullN l n) with
 | some m =>
  obtain ⟨h1, h2⟩ := findP_some hf
  rw [fullN_inj h h1 hn h2]
 | none =>
  unfold findP at hf
  have := List.find?_eq_none.1 hf n hn
  simp at this
def chN (a b : List api_Node) (n : api_Node) : Bool := !(decide (plN a n ∈ b.map (plN b)))
theorem bareP_iff {m n : api_Node} : api_Node.mk n.Id_ n.Parent_ m.Vers_ m.Name_ m.Mode_ m.Uid_ m.Gid_ m.Muid_ m.Atime_ m.Mtime_ m.Data_ = n ↔ bareP m = bareP n := by
 cases m
 cases n
 simp [bareP]
theorem chN_find {a b : List api_Node} {next : Int} (hb : OkT b next) (n : api_Node) : chN a b n = match findP b (fullN a n) with
  | some m => !(decide (bareP m = bareP n))
  | none => true := by
 unfold chN
 cases hf : findP b (fullN a n) with
 | some m =>
  obtain ⟨h1, h2⟩ := findP_some hf
  simp only
  congr 1
  rw [decide_eq_decide, List.mem_map]
  constructor
  ·rintro ⟨q, hq, e⟩
   unfold plN at e
   injection e with e1 e2
   have := fullN_inj hb hq h1 (by rw [e1, h2])
   rw [← this, e2]
  ·intro e
   exact ⟨m, h1, by unfold plN; rw [h2, e]⟩
 | none =>
  simp only [Bool.not_eq_true', decide_eq_false_iff_not, List.mem_map, not_exists, not_and]
  intro q hq e
  unfold plN at e
  injection e with e1 _
  unfold findP at hf
  have := List.find?_eq_none.1 hf q hq
  simp [e1] at this
def addIf (c : Bool) (l : List Str) (p : Str) : List Str := bif c then insD p l else l
def accN (f : api_Node → Bool) (g : api_Node → Str) : List Str → List api_Node → List Str
 | s, [] => s
 | s, n :: l => accN f g (addIf (f n) s (g n)) l
theorem accN_mem (f : api_Node → Bool) (g : api_Node → Str) : ∀ (l : List api_Node) (s : List Str), (Asc s → Asc (accN f g s l)) ∧ ∀ x, x ∈ accN f g s l ↔ x ∈ s ∨ ∃ n ∈ l, f n = true ∧ g n = x
 | [], s => ⟨fun h => h, fun x => by simp [accN]⟩
 | n :: l, s => by
  obtain ⟨i1, i2⟩ := accN_mem f g l (addIf (f n) s (g n))
  have hm : ∀ x, x ∈ addIf (f n) s (g n) ↔ x ∈ s ∨ (f n = true ∧ g n = x) := fun x => by
   unfold addIf
   cases f n with
   | true =>
    rw [cond_true, insD_mem]
    constructor
    ·rintro (h | h)
     ·exact .inr ⟨rfl, h.symm⟩
     ·exact .inl h
    ·rintro (h | h)
     ·exact .inr h
     ·exact .inl h.2.symm
   | false => simp
  refine ⟨fun h => i1 ?_, fun x => ?_⟩
  ·unfold addIf
   cases f n with
   | true => exact insD_asc _ h
   | false => exact h
  ·unfold accN
   rw [i2 x, hm x]
   constructor
   ·rintro ((h | h) | ⟨m, h1, h2⟩)
    ·exact .inl h
    ·exact .inr ⟨n, List.mem_cons_self, h⟩
    ·exact .inr ⟨m, List.mem_cons_of_mem _ h1, h2⟩
   ·rintro (h | ⟨m, h1, h2⟩)
    ·exact .inl (.inl h)
    ·rcases List.mem_cons.1 h1 with rfl | h1
     ·exact .inl (.inr h2)
     ·exact .inr ⟨m, h1, h2⟩
theorem accN_loop {t : api_Tree} {body : (List Str) × Int → Option (Step ((List Str) × Int) (List Str))} (f : api_Node → Bool) (g : api_Node → Str) (hl : t.Nodes_.length ≤ 1024) (s0 : List Str) (hs : s0.length ≤ 1000000)
  (hb : ∀ (i : Nat) (s : List Str) (hi : i < t.Nodes_.length), s.length ≤ 1000000 + i → body (s, (i : Int)) = some (.next (addIf (f t.Nodes_[i]) s (g t.Nodes_[i]), w64 ((i : Int) + 1)))) (he : ∀ s, body (s, (t.Nodes_.length : Int)) = some (.done s)) : loopF body BIG (s0, 0) = some (accN f g s0 t.Nodes_) := by
 have h := loop_foldN (body := body) t.Nodes_ (fun s _ n => addIf (f n) s (g n)) (fun i s => (s, (i : Int))) (fun i s => s.length ≤ 1000000 + i) (fun s => s) s0 (lt_big (by omega)) (by omega) (fun i s hi hs => ?_) (fun s _ => he s)
 ·have hf : ∀ (l : List api_Node) (s : List Str) (k : Nat), foldN (fun s _ n => addIf (f n) s (g n)) s k l = accN f g s l := fun l => by
   induction l with
   | nil => intro s k; rfl
   | cons n l ih => intro s k; simp only [foldN, accN]; exact ih _ _
  rw [hf] at h
  exact h
 ·refine ⟨by rw [hb i s hi hs, w_succ (by omega)], ?_⟩
  unfold addIf
  have := insD_len (g t.Nodes_[i]) s
  cases f t.Nodes_[i] <;> simp <;> omega
theorem accN_len (f : api_Node → Bool) (g : api_Node → Str) : ∀ (l : List api_Node) (s : List Str), (accN f g s l).length ≤ s.length + l.length
 | [], s => by simp [accN]
 | n :: l, s => by
  have i := accN_len f g l (addIf (f n) s (g n))
  have j : (addIf (f n) s (g n)).length ≤ s.length + 1 := by
   unfold addIf
   have := insD_len (g n) s
   cases f n <;> simp <;> omega
  simp only [accN, List.length_cons]
  omega
def fnd (b : List api_Node) (p : Str) : Bool := (findP b p).isSome
theorem ref_Changed_eq {a b : api_Tree} (ha : OkT a.Nodes_ a.Next_) (hb : OkT b.Nodes_ b.Next_) : ref16_Changed a b = some (accN (fun n => !(fnd a.Nodes_ (fullN b.Nodes_ n))) (fullN b.Nodes_) (accN (chN a.Nodes_ b.Nodes_) (fullN a.Nodes_) [] a.Nodes_) b.Nodes_) := by
 have h1 := ha.len
 have h2 := hb.len
 unfold ref16_Changed
 refine bind_eq (accN_loop (t := a) (chN a.Nodes_ b.Nodes_) (fullN a.Nodes_) h1 [] (by simp) (fun i s hi hs => ?_) (fun s => ?_)) (bind_eq (accN_loop (t := b) (fun n => !(fnd a.Nodes_ (fullN b.Nodes_ n))) (fullN b.Nodes_) h2 _ (by have := accN_len (chN a.Nodes_ b.Nodes_) (fullN a.Nodes_) a.Nodes_ []; simp at this; omega) (fun i s hi hs => ?_) (fun s => ?_)) rfl)
 ·unfold ref16_Changed_L1
  refine cond_t (lt_t hi) (bind_eq (a := addIf (chN a.Nodes_ b.Nodes_ a.Nodes_[i]) s (fullN a.Nodes_ a.Nodes_[i])) (bind_eq (getI_lt hi) (bind_eq (ref_path_eq ha (List.getElem_mem hi)) (bind_eq (find_eq hb _) (bind_eq (getI_lt hi) (bind_eq (getI_lt hi) (bind_eq (a := chN a.Nodes_ b.Nodes_ a.Nodes_[i]) ?_ ?_)))))) rfl)
  ·rw [chN_find hb]
   simp only
   cases findP b.Nodes_ (fullN a.Nodes_ a.Nodes_[i]) with
   | none => rfl
   | some m =>
    refine cond_f rfl (bind_eq (getI_lt hi) ?_)
    simp only [bareP_iff]
  ·unfold addIf
   cases chN a.Nodes_ b.Nodes_ a.Nodes_[i] with
   | true => exact bind_eq (with_eq (l := s) _ (by omega)) rfl
   | false => rfl
 ·unfold ref16_Changed_L1
  exact cond_f (lt_f _) rfl
 ·unfold ref16_Changed_L2
  refine cond_t (lt_t hi) (bind_eq (a := addIf (!(fnd a.Nodes_ (fullN b.Nodes_ b.Nodes_[i]))) s (fullN b.Nodes_ b.Nodes_[i])) (bind_eq (getI_lt hi) (bind_eq (ref_path_eq hb (List.getElem_mem hi)) (bind_eq (find_eq ha _) ?_))) rfl)
  unfold addIf fnd
  simp only
  cases findP a.Nodes_ (fullN b.Nodes_ b.Nodes_[i]) with
  | none => exact bind_eq (with_eq (l := s) _ (by omega)) rfl
  | some m => rfl
 ·unfold ref16_Changed_L2
  exact cond_f (lt_f _) rfl
theorem mem_outP {a b : List api_Node} {x : Str} : x ∈ outP (a.map (plN a)) (b.map (plN b)) ↔ ∃ n ∈ a, chN a b n = true ∧ fullN a n = x := by
 unfold outP
 rw [List.mem_map]
 constructor
 ·rintro ⟨p, hp, rfl⟩
  obtain ⟨h1, h2⟩ := List.mem_filter.1 hp
  obtain ⟨n, hn, rfl⟩ := List.mem_map.1 h1
  exact ⟨n, hn, h2, rfl⟩
 ·rintro ⟨n, hn, h1, rfl⟩
  exact ⟨plN a n, List.mem_filter.2 ⟨List.mem_map.2 ⟨n, hn, rfl⟩, h1⟩, rfl⟩
theorem changed_same {a b : api_Tree} (ha : OkT a.Nodes_ a.Next_) (hb : OkT b.Nodes_ b.Next_) : canon (diffN a.Nodes_ b.Nodes_) = accN (fun n => !(fnd a.Nodes_ (fullN b.Nodes_ n))) (fullN b.Nodes_) (accN (chN a.Nodes_ b.Nodes_) (fullN a.Nodes_) [] a.Nodes_) b.Nodes_ := by
 obtain ⟨m1, m2⟩ := accN_mem (chN a.Nodes_ b.Nodes_) (fullN a.Nodes_) a.Nodes_ []
 obtain ⟨m3, m4⟩ := accN_mem (fun n => !(fnd a.Nodes_ (fullN b.Nodes_ n))) (fullN b.Nodes_) b.Nodes_ (accN (chN a.Nodes_ b.Nodes_) (fullN a.Nodes_) [] a.Nodes_)
 refine canon_of (m3 (m1 List.Pairwise.nil)) fun x => ?_
 rw [m4 x, m2 x]
 unfold diffN
 rw [List.mem_append, mem_outP, mem_outP]
 simp only [List.not_mem_nil, false_or]
 constructor
 ·rintro (h | ⟨n, hn, h1, h2⟩)
  ·exact .inl h
  ·refine .inr ⟨n, hn, ?_, h2⟩
   rw [chN_find ha]
   unfold fnd at h1
   cases hf : findP a.Nodes_ (fullN b.Nodes_ n) with
   | none => rfl
   | some m => rw [hf] at h1; simp at h1
 ·rintro (h | ⟨n, hn, h1, h2⟩)
  ·exact .inl h
  ·cases hf : findP a.Nodes_ (fullN b.Nodes_ n) with
   | none => exact .inr ⟨n, hn, by unfold fnd; rw [hf]; rfl, h2⟩
   | some m =>
    obtain ⟨g1, g2⟩ := findP_some hf
    refine .inl ⟨m, g1, ?_, by rw [g2, h2]⟩
    rw [chN_find ha, hf] at h1
    rw [chN_find hb, g2, findP_of hb hn]
    simp only at h1 ⊢
    simp only [Bool.not_eq_true', decide_eq_false_iff_not] at h1 ⊢
    exact fun e => h1 e.symm
theorem archiveChanges_plain (x0 x1 : api_Tree) (h0 : Fit te (.st 8) x0) (h1 : Fit te (.st 8) x1) : law16_ArchiveChanges x0 x1 = some true := by
 have hf0 := tree_fit h0
 have hf1 := tree_fit h1
 unfold law16_ArchiveChanges
 have hA : (law16_awake.bind fun y4 => some y4) = some true := by rw [awake_eq]; rfl
 obtain ⟨b, e1, e2⟩ := small_eq x0 hf0.1
 obtain ⟨c, e3, e4⟩ := small_eq x1 hf1.1
 refine bind_eq e1 ?_
 cases b with
 | false => exact bind_eq (a := true) rfl (bind_eq (a := true) rfl (bind_eq (a := true) rfl hA))
 | true =>
  refine bind_eq (a := !c) (bind_eq e3 rfl) ?_
  cases c with
  | false => exact bind_eq (a := true) rfl (bind_eq (a := true) rfl hA)
  | true =>
   obtain ⟨d, e5, e6⟩ := ref10_right_iff x0 (by have := (e2 rfl).1; omega) hf0.2
   obtain ⟨f, e7, e8⟩ := ref10_right_iff x1 (by have := (e4 rfl).1; omega) hf1.2
   refine bind_eq (a := !d) (bind_eq e5 rfl) ?_
   cases d with
   | false => exact bind_eq (a := true) rfl hA
   | true =>
    refine bind_eq (a := !f) (bind_eq e7 rfl) ?_
    cases f with
    | false => exact hA
    | true =>
     have ha := e6.1 rfl
     have hb := e8.1 rfl
     have hsame := changed_same ha hb
     have hsym : canon (diffN x1.Nodes_ x0.Nodes_) = canon (diffN x0.Nodes_ x1.Nodes_) := canon_eq fun x => by
      unfold diffN
      rw [List.mem_append, List.mem_append]
      exact Or.comm
     have hself : canon (diffN x0.Nodes_ x0.Nodes_) = [] := canon_of List.Pairwise.nil fun x => by
      unfold diffN
      rw [List.mem_append, mem_outP, or_self]
      simp only [List.not_mem_nil, false_iff, not_exists, not_and]
      have : ∀ n ∈ x0.Nodes_, chN x0.Nodes_ x0.Nodes_ n = true → ¬ fullN x0.Nodes_ n = x := fun n hn hc => by
       unfold chN at hc
       have : plN x0.Nodes_ n ∈ x0.Nodes_.map (plN x0.Nodes_) := List.mem_map.2 ⟨n, hn, rfl⟩
       simp [this] at hc
      exact this
     have q1 := Changed_eq ha hb
     have q2 := ref_Changed_eq ha hb
     have q3 := Changed_eq hb ha
     have q4 := Changed_eq ha ha
     rw [hself] at q4
     rw [hsym] at q3
     rw [← hsame] at q2
     have hCl : (canon (diffN x0.Nodes_ x1.Nodes_)).length ≤ 1073741824 := by
      have l1 := accN_len (chN x0.Nodes_ x1.Nodes_) (fullN x0.Nodes_) x0.Nodes_ []
      have l2 := accN_len (fun n => !(fnd x0.Nodes_ (fullN x1.Nodes_ n))) (fullN x1.Nodes_) x1.Nodes_ (accN (chN x0.Nodes_ x1.Nodes_) (fullN x0.Nodes_) [] x0.Nodes_)
      have l3 := ha.len
      have l4 := hb.len
      rw [hsame]
      simp only [List.length_nil] at l1
      omega
     generalize canon (diffN x0.Nodes_ x1.Nodes_) = C at *
     have hlp := loop_traj (body := law16_ArchiveChanges_L1 C C) (T := fun i => (C, C, (i : Int))) (b := Out.fall ()) C.length (lt_big (by omega)) (fun i hi => ?_) ?_
     ·refine cond_f rfl (bind_eq q1 (bind_eq q2 (bind_eq q3 (cond_f (by simp) (bind_eq hlp ?_)))))
      exact bind_eq q4 (bind_eq (a := true) (cond_t rfl hA) rfl)
     ·unfold law16_ArchiveChanges_L1
      refine cond_t (lt_t hi) (bind_eq (getI_lt hi) (bind_eq (getI_lt hi) (bind_eq (a := false) (cond_f (by simp) (bind_eq (getI_lt hi) (bind_eq (getI_lt hi) (by simp)))) ?_)))
      rw [w_succ (by omega)]
      rfl
     ·unfold law16_ArchiveChanges_L1
      exact cond_f (lt_f _) rfl
end Go.Proofs.YtfdmakpcmkbhhaaGreatDoor
