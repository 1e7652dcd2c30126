/-
 What the statements of this seat hang on, part 6: Ht Ha Hb Hc Hd Hs Hw He Hf Hg Hh Hu.
-/
import Derived.Test.YtfdmakpcmkbhhaaGreatDoorYC5
import Derived.Sort.AssemblyPlain
import Derived.KernelRfl
namespace Go.Proofs.YtfdmakpcmkbhhaaGreatDoor
open Go.Rt Go.RowKit
theorem big_lt {α : Type} {l : List α} (h : l.length ≤ 9223372036854775807) : l.length < BIG := by
 have : BIG = 18446744073709551616 := rfl
 omega
section
variable {α β : Type} {eq : α → α → Bool}
theorem mput_len : ∀ {ks : List α} {vs : List β} {x : α} {v : β}, ks.length = vs.length → (mputK eq ks x).length = (mputV eq ks vs x v).length
 | [], vs, x, v, h => by cases vs with | nil => rfl | cons a l => simp at h
 | k :: ks, [], x, v, h => by simp at h
 | k :: ks, w :: vs, x, v, h => by
  have ih := mput_len (ks := ks) (vs := vs) (x := x) (v := v) (by simpa using h)
  unfold mputK at ih ⊢
  simp only [List.any_cons, mputV]
  cases hx : eq x k with
  | true => simpa using h
  | false =>
   simp only [Bool.false_or, cond_false, List.length_cons]
   cases ha : ks.any (eq x) with
   | true => rw [ha] at ih; simp only [cond_true] at ih ⊢; simpa using ih
   | false => rw [ha] at ih; simp only [cond_false] at ih ⊢; simpa using ih
theorem mputK_cons {k x : α} {ks : List α} (h : eq x k = false) : mputK eq (k :: ks) x = k :: mputK eq ks x := by
 unfold mputK
 rw [List.any_cons, h, Bool.false_or]
 cases ks.any (eq x) <;> rfl
theorem mget_put (hq : ∀ x y, eq x y = true ↔ x = y) : ∀ {ks : List α} {vs : List β} {x y : α} {v d : β}, ks.length = vs.length → mgetD eq (mputK eq ks x) (mputV eq ks vs x v) y d = bif eq y x then v else mgetD eq ks vs y d
 | [], vs, x, y, v, d, h => by
  cases vs with
  | nil => rfl
  | cons a l => simp at h
 | k :: ks, [], x, y, v, d, h => by simp at h
 | k :: ks, w :: vs, x, y, v, d, h => by
  have ih := mget_put hq (ks := ks) (vs := vs) (x := x) (y := y) (v := v) (d := d) (by simpa using h)
  cases hx : eq x k with
  | true =>
   obtain rfl := (hq x k).1 hx
   have e : mputK eq (x :: ks) x = x :: ks := by unfold mputK; rw [List.any_cons, hx]; rfl
   rw [e]
   simp only [mputV, hx, cond_true, mgetD]
   cases eq y x <;> rfl
  | false =>
   rw [mputK_cons hx]
   simp only [mputV, hx, cond_false, mgetD]
   cases hy : eq y k with
   | true =>
    obtain rfl := (hq y k).1 hy
    have : eq y x = false := by
     cases he : eq y x with
     | false => rfl
     | true => rw [(hq y x).1 he, (hq x x).2 rfl] at hx; cases hx
    rw [this]; rfl
   | false => exact ih
end
theorem eqI_iff (x y : Int) : eqI x y = true ↔ x = y := beq_iff_eq
theorem prev_get {α : Type} {ms : List α} {k : Nat} (d : α) (h0 : 0 < k) (hk : k < ms.length) (hl : ms.length ≤ 1024) : getI ms (w64 ((k : Int) - 1)) = some (ms.getD (k - 1) d) := by
 rw [w_pred h0 (by omega), getI_lt (by omega)]
 simp [List.getElem?_eq_getElem (by omega : k - 1 < ms.length)]
theorem take_succ_get {α : Type} {l : List α} {i : Nat} (h : i < l.length) : l.take (i + 1) = l.take i ++ [l[i]] := List.take_succ_eq_append_getElem h
def hasI (x : Int) (k : Nat) : Bool := decide (0 ≤ x) && x.toNat.testBit k
theorem tbit {n k : Nat} : (n / 2 ^ k % 2 == 1) = n.testBit k := by
 rw [Nat.testBit_eq_decide_div_mod_eq, Bool.eq_iff_iff]; simp
theorem hasI_nat (n k : Nat) : hasI (n : Int) k = n.testBit k := by
 unfold hasI; rw [Int.toNat_natCast]; simp
theorem hasI_neg {x : Int} (h : x < 0) (k : Nat) : hasI x k = false := by
 unfold hasI
 have : decide (0 ≤ x) = false := by simp; omega
 rw [this]; rfl
theorem has_div (x : Int) (k : Nat) (_ : k < 63) (h1 : x ≤ 9223372036854775807) : (Option.bind (bif (decide (x ≥ 0)) then Option.bind (quoI .i64 x ((2 ^ k : Nat) : Int)) fun (y1 : Int) => some ((y1.tmod 2) == 1) else some false) fun (y2 : Bool) => some y2) = some (hasI x k) := by
 by_cases h0 : 0 ≤ x
 ·obtain ⟨n, rfl⟩ : ∃ n : Nat, x = (n : Int) := ⟨x.toNat, by omega⟩
  have hpos := Nat.two_pow_pos k
  have hd : n / 2 ^ k ≤ n := Nat.div_le_self _ _
  have hq : quoI .i64 (n : Int) ((2 ^ k : Nat) : Int) = some ((n / 2 ^ k : Nat) : Int) := by
   unfold quoI
   rw [if_neg (by omega)]
   have : (n : Int).tdiv ((2 ^ k : Nat) : Int) = ((n / 2 ^ k : Nat) : Int) := rfl
   rw [this]
   generalize n / 2 ^ k = q at hd
   rw [wi64_eq (n := (q : Int)) ⟨by omega, by omega⟩]
  have h0' : decide ((n : Int) ≥ 0) = true := by simp
  rw [h0', hq, hasI_nat, ← tbit]
  simp only [cond_true, Option.bind_some]
  have : ((n / 2 ^ k : Nat) : Int).tmod 2 = ((n / 2 ^ k % 2 : Nat) : Int) := rfl
  rw [this]
  congr 1
  rw [Bool.eq_iff_iff, beq_iff_eq, beq_iff_eq]; omega
 ·have h0' : decide (x ≥ 0) = false := by simp; omega
  rw [h0', hasI_neg (by omega)]
  rfl
theorem has_lit (x : Int) (k : Nat) (hk : k < 63) (h1 : x ≤ 9223372036854775807) : (decide (x ≥ 0) && (((IntKind.i64.wrap (x.tdiv ((2 ^ k : Nat) : Int))).tmod 2) == 1)) = hasI x k := by
 have h := has_div x k hk h1
 by_cases h0 : 0 ≤ x
 ·have h0' : decide (x ≥ 0) = true := by simp; omega
  rw [h0'] at h ⊢
  have hpos := Nat.two_pow_pos k
  have hq : quoI .i64 x ((2 ^ k : Nat) : Int) = some (IntKind.i64.wrap (x.tdiv ((2 ^ k : Nat) : Int))) := by
   unfold quoI; rw [if_neg (by omega)]
  rw [hq] at h
  exact Option.some.inj h
 ·have h0' : decide (x ≥ 0) = false := by simp; omega
  rw [h0', hasI_neg (by omega)]
  rfl
theorem tree_dir_eq (x : Int) (h1 : x ≤ 9223372036854775807) : tree_directory x = some (hasI x 31) := congrArg some (has_lit x 31 (by omega) h1)
def topI (x : Int) : Int := x - x % 512
def okMode (x : Int) : Bool := decide (0 ≤ x) && ((topI x == 0) || (topI x == 2147483648) || (topI x == 1073741824) || (topI x == 536870912) || (topI x == 1610612736))
theorem okMode_lt {x : Int} (h : okMode x = true) : 0 ≤ x ∧ x < 4294967296 := by
 unfold okMode topI at h
 simp only [Bool.and_eq_true, Bool.or_eq_true, decide_eq_true_eq, beq_iff_eq] at h
 omega
theorem top_w {x : Int} (h0 : 0 ≤ x) (h1 : x ≤ 9223372036854775807) : w64 (x - (x.tmod 512)) = topI x := by
 obtain ⟨n, rfl⟩ : ∃ n : Nat, x = (n : Int) := ⟨x.toNat, by omega⟩
 have : (n : Int).tmod 512 = (n : Int) % 512 := rfl
 rw [this, w64_eq ⟨by omega, by omega⟩]
 rfl
theorem tree_valid_eq (x : Int) (h1 : x ≤ 9223372036854775807) : tree_valid x = some (okMode x) := by
 unfold tree_valid okMode
 by_cases h0 : 0 ≤ x
 ·have h0' : decide (x < 0) = false := by simp; omega
  have h0'' : decide (0 ≤ x) = true := by simpa using h0
  rw [top_w h0 h1, h0', h0'']
  cases topI x == 0 <;> cases topI x == 2147483648 <;> cases topI x == 1073741824 <;> cases topI x == 536870912 <;> cases topI x == 1610612736 <;> rfl
 ·have h0' : decide (x < 0) = true := by simp; omega
  have h0'' : decide (0 ≤ x) = false := by simp; omega
  rw [h0', h0'']
  rfl
theorem ref10_mode_eq (x : Int) (h1 : x ≤ 9223372036854775807) : ref10_Mode x = some (okMode x) := by
 unfold ref10_Mode
 by_cases h0 : 0 ≤ x ∧ x < 4294967296
 ·refine cond_f (by simp; omega) ?_
  rw [top_w h0.1 h1]
  unfold okMode
  have h0'' : decide (0 ≤ x) = true := by simpa using h0.1
  rw [h0'']; rfl
 ·have : okMode x = false := by
   cases h : okMode x with
   | false => rfl
   | true => exact absurd (okMode_lt h) h0
  rw [this]
  exact cond_t (by simp; omega) rfl
theorem isdir_eq {x : Int} (h : okMode x = true) : decide (x ≥ 2147483648) = hasI x 31 := by
 obtain ⟨h0, h1⟩ := okMode_lt h
 obtain ⟨n, rfl⟩ : ∃ n : Nat, x = (n : Int) := ⟨x.toNat, by omega⟩
 rw [hasI_nat, ← tbit, Bool.eq_iff_iff, decide_eq_true_eq, beq_iff_eq]
 omega
def okByte (b : UInt8) : Bool := decide (33 ≤ b.toNat) && decide (b.toNat ≤ 126) && (b.toNat != 47)
def okName (s : Str) : Bool := decide (1 ≤ s.length) && decide (s.length ≤ 64) && (s != [46]) && (s != [46, 46]) && s.all okByte
def gN (_ : Nat) (b : UInt8) : Option Bool := if okByte b then none else some false
theorem scan_gN : ∀ (k : Nat) (s : Str), scan gN k s = if s.all okByte then none else some false
 | _, [] => rfl
 | k, b :: s => by
  have ih := scan_gN (k + 1) s
  rw [List.all_cons]
  cases hb : okByte b with
  | true =>
   have h0 : gN k b = none := by unfold gN; rw [hb]; rfl
   simp only [scan, h0]
   rw [ih, Bool.true_and]
  | false =>
   have h0 : gN k b = some false := by unfold gN; rw [hb]; rfl
   simp only [scan, h0]
   rfl
theorem path_loop (s : Str) (h : s.length ≤ 9223372036854775807) : loopF (path_Valid_L1 s) BIG 0 = some (outO (scan gN 0 s)) := by
 refine loop_scan s gN (big_lt h) (fun i hi => ?_) ?_
 ·unfold path_Valid_L1
  rw [byteI_lt hi, lt_t hi, w_succ (by omega)]
  have e : okByte s[i] = !(decide ((s[i].toNat : Int) < 33) || decide ((s[i].toNat : Int) > 126) || (s[i].toNat : Int) == 47) := by
   unfold okByte
   rw [Bool.eq_iff_iff]
   simp only [Bool.and_eq_true, decide_eq_true_eq, bne_iff_ne, Bool.not_eq_true', Bool.or_eq_false_iff, decide_eq_false_iff_not, beq_eq_false_iff_ne]
   omega
  unfold gN
  rw [e]
  simp only [cond_true, Option.bind_some]
  cases decide ((s[i].toNat : Int) < 33) <;> cases decide ((s[i].toNat : Int) > 126) <;> cases ((s[i].toNat : Int) == 47) <;> rfl
 ·unfold path_Valid_L1; rw [lt_f]; rfl
theorem ref03_loop (s : Str) (h : s.length ≤ 9223372036854775807) : loopF (ref03_Valid_L1 s) BIG 0 = some (outO (scan gN 0 s)) := by
 rw [← path_loop s h]
 rfl
theorem path_valid (s : Str) (h : s.length ≤ 9223372036854775807) : path_Valid s = some (okName s) := by
 unfold path_Valid okName
 rw [path_loop s h, scan_gN]
 have e1 : (s == []) = !decide (1 ≤ s.length) := by cases s with | nil => rfl | cons a l => rw [Bool.eq_iff_iff]; simp
 have e2 : decide ((s.length : Int) > 64) = !decide (s.length ≤ 64) := by rw [Bool.eq_iff_iff]; simp; omega
 rw [e1, e2]
 simp only [bne, Option.bind_some]
 cases decide (1 ≤ s.length) <;> cases decide (s.length ≤ 64) <;> cases (s == [46]) <;> cases (s == [46, 46]) <;> cases s.all okByte <;> rfl
theorem ref03_valid (s : Str) (h : s.length ≤ 9223372036854775807) : ref03_Valid s = some (okName s) := by
 unfold ref03_Valid okName
 rw [ref03_loop s h, scan_gN]
 have e1 : decide ((s.length : Int) ≥ 1) = decide (1 ≤ s.length) := by rw [Bool.eq_iff_iff, decide_eq_true_eq, decide_eq_true_eq]; omega
 have e2 : decide ((s.length : Int) ≤ 64) = decide (s.length ≤ 64) := by rw [Bool.eq_iff_iff, decide_eq_true_eq, decide_eq_true_eq]; omega
 rw [e1, e2]
 simp only [bne, Option.bind_some]
 cases decide (1 ≤ s.length) <;> cases decide (s.length ≤ 64) <;> cases (s == [46]) <;> cases (s == [46, 46]) <;> cases s.all okByte <;> rfl
theorem loop_scan1 {α β : Type} {body : Int → Option (Step Int (Out Unit β))} (xs : List α) (g : Nat → α → Option β) (k : Nat) (hk : k ≤ xs.length) (hn : xs.length < BIG)
  (hb : ∀ i (h : i < xs.length), k ≤ i → body (i : Int) = some (stepO (g i xs[i]) i))
  (he : body (xs.length : Int) = some (.done (.fall ()))) : loopF body BIG (k : Int) = some (outO (scan g k (xs.drop k))) := by
 have key : ∀ (n i : Nat), i + n = xs.length → k ≤ i → loopF body (n + 1) (i : Int) = some (outO (scan g i (xs.drop i))) := by
  intro n
  induction n with
  | zero =>
   intro i hi _
   obtain rfl : i = xs.length := by omega
   rw [loopF_done he]; simp [scan, outO]
  | succ n ih =>
   intro i hi hki
   have hlt : i < xs.length := by omega
   have h1 := hb i hlt hki
   rw [List.drop_eq_getElem_cons hlt]
   simp only [scan]
   cases hg : g i xs[i] with
   | some r => rw [hg] at h1; exact loopF_done h1
   | none => rw [hg] at h1; exact loopF_step h1 (ih (i + 1) (by omega) (by omega))
 have big : ∀ {σ β : Type} {body : σ → Option (Step σ β)} {n k : Nat} {s : σ} {b : β}, loopF body n s = some b → loopF body (k + n) s = some b := by
  intro σ β body n
  induction n with
  | zero => intro k s b h; cases h
  | succ n ih =>
   intro k s b h
   rw [show k + (n + 1) = (k + n) + 1 by omega]
   simp only [loopF] at h ⊢
   split at h
   ·exact h
   ·exact ih h
   ·exact h
 have h := key (xs.length - k) k (by omega) (Nat.le_refl _)
 rw [show BIG = (BIG - (xs.length - k + 1)) + (xs.length - k + 1) by omega]
 exact big h
theorem loop_foldN1 {α σ τ β : Type} {body : τ → Option (Step τ β)} (xs : List α) (f : σ → Nat → α → σ) (mk : Nat → σ → τ) (Inv : Nat → σ → Prop) (fin : σ → β) (s0 : σ) (k : Nat) (hk : k ≤ xs.length) (hn : xs.length < BIG) (h0 : Inv k s0)
  (hb : ∀ i s (h : i < xs.length), k ≤ i → Inv i s → body (mk i s) = some (.next (mk (i + 1) (f s i xs[i]))) ∧ Inv (i + 1) (f s i xs[i]))
  (he : ∀ s, Inv xs.length s → body (mk xs.length s) = some (.done (fin s))) : loopF body BIG (mk k s0) = some (fin (foldN f s0 k (xs.drop k))) := by
 have key : ∀ (n i : Nat) (s : σ), i + n = xs.length → k ≤ i → Inv i s → loopF body (n + 1) (mk i s) = some (fin (foldN f s i (xs.drop i))) := by
  intro n
  induction n with
  | zero =>
   intro i s hi _ hI
   obtain rfl : i = xs.length := by omega
   rw [loopF_done (he s hI)]; simp [foldN]
  | succ n ih =>
   intro i s hi hki hI
   have hlt : i < xs.length := by omega
   obtain ⟨h1, h2⟩ := hb i s hlt hki hI
   rw [List.drop_eq_getElem_cons hlt]
   exact loopF_step h1 (ih (i + 1) _ (by omega) (by omega) h2)
 have big : ∀ {σ β : Type} {body : σ → Option (Step σ β)} {n k : Nat} {s : σ} {b : β}, loopF body n s = some b → loopF body (k + n) s = some b := by
  intro σ β body n
  induction n with
  | zero => intro k s b h; cases h
  | succ n ih =>
   intro k s b h
   rw [show k + (n + 1) = (k + n) + 1 by omega]
   simp only [loopF] at h ⊢
   split at h
   ·exact h
   ·exact ih h
   ·exact h
 have h := key (xs.length - k) k s0 (by omega) (Nat.le_refl _) h0
 rw [show BIG = (BIG - (xs.length - k + 1)) + (xs.length - k + 1) by omega]
 exact big h
abbrev hasId (id : Int) (n : api_Node) : Bool := n.Id_ == id
def zeroN : api_Node := api_Node.mk 0 0 0 [] 0 [] [] [] 0 0 []
def nodeT (l : List api_Node) (id : Int) : api_Node × Bool := match l.find? (hasId id) with
 | some n => (n, true)
 | none => (zeroN, false)
theorem tree_find_eq (t : api_Tree) (f : api_Node → Option Bool) (p : api_Node → Bool) (hf : ∀ n, f n = some (p n)) (h : t.Nodes_.length ≤ 2000) : tree_find t f = some (at_ p t.Nodes_) := by
 rw [← at_getD]
 refine scan_ret (loop_scan t.Nodes_ _ (big_lt (by omega)) (fun i hi => ?_) ?_) (fun _ => rfl) rfl
 ·unfold tree_find_L1
  rw [getI_lt hi, lt_t hi, w_succ (by omega)]
  simp only [cond_true, Option.bind_some]
  refine bind_eq (hf _) ?_
  cases p t.Nodes_[i] <;> rfl
 ·unfold tree_find_L1; rw [lt_f]; rfl
theorem tree_index_eq (t : api_Tree) (id : Int) (h : t.Nodes_.length ≤ 2000) : tree_index t id = some (at_ (hasId id) t.Nodes_) := by
 unfold tree_index
 exact bind_eq (tree_find_eq t _ (hasId id) (fun n => rfl) h) rfl
theorem tree_node_eq (t : api_Tree) (id : Int) (h : t.Nodes_.length ≤ 2000) : tree_Node t id = some (nodeT t.Nodes_ id) := by
 unfold tree_Node nodeT
 refine bind_eq (tree_index_eq t id h) ?_
 rw [at_neg]
 cases hf : t.Nodes_.find? (hasId id) with
 | none => rfl
 | some n => exact cond_f rfl (bind_eq ((at_get (hasId id) _ (by rw [hf]; rfl)).trans hf) rfl)
theorem ref10_index_eq (t : api_Tree) (id : Int) (h : t.Nodes_.length ≤ 2000) : ref10_Index t id = some (at_ (hasId id) t.Nodes_) := by
 rw [← at_getD]
 refine scan_ret (loop_scan t.Nodes_ _ (big_lt (by omega)) (fun i hi => ?_) ?_) (fun _ => rfl) rfl
 ·unfold ref10_Index_L1
  rw [getI_lt hi, lt_t hi, w_succ (by omega)]
  simp only [cond_true, Option.bind_some]
  unfold hasId
  cases t.Nodes_[i].Id_ == id <;> rfl
 ·unfold ref10_Index_L1; rw [lt_f]; rfl
theorem ref10_node_eq (t : api_Tree) (id : Int) (h : t.Nodes_.length ≤ 2000) : ref10_Node t id = some (nodeT t.Nodes_ id) := by
 unfold ref10_Node nodeT
 refine bind_eq (ref10_index_eq t id h) ?_
 rw [at_neg]
 cases hf : t.Nodes_.find? (hasId id) with
 | none => rfl
 | some n => exact cond_f rfl (bind_eq ((at_get (hasId id) _ (by rw [hf]; rfl)).trans hf) rfl)
def clockI (x : Int) : Int := minI (maxI x 0) 1099511627776
def okNode (n : api_Node) : Bool := okMode n.Mode_ && (decide (0 ≤ n.Vers_) && decide (n.Vers_ ≤ 2147483647)) && (decide (0 ≤ n.Atime_) && decide (n.Atime_ ≤ 1099511627776)) && (decide (0 ≤ n.Mtime_) && decide (n.Mtime_ ≤ 1099511627776)) &&
 (decide (n.Uid_.length ≤ 64) && (decide (n.Gid_.length ≤ 64) && decide (n.Muid_.length ≤ 64))) && decide (n.Data_.length ≤ 65536) && (!(hasI n.Mode_ 31) || n.Data_ == [])
structure OkT (l : List api_Node) (next : Int) : Prop where
 srt : l.Pairwise fun a b => a.Id_ < b.Id_
 root : ∃ r q, l = r :: q ∧ r.Id_ = 1 ∧ r.Parent_ = 1 ∧ r.Name_ = [47] ∧ hasI r.Mode_ 31 = true
 flds : ∀ n ∈ l, okNode n = true
 nam : ∀ n ∈ l, n.Id_ ≠ 1 → okName n.Name_ = true
 par : ∀ n ∈ l, n.Id_ ≠ 1 → ∃ p ∈ l, p.Id_ = n.Parent_ ∧ p.Id_ < n.Id_ ∧ hasI p.Mode_ 31 = true
 uniq : ∀ a ∈ l, ∀ b ∈ l, a.Id_ ≠ 1 → b.Id_ ≠ 1 → a.Parent_ = b.Parent_ → a.Name_ = b.Name_ → a.Id_ = b.Id_
 nxt : ∀ n ∈ l, n.Id_ < next
 nx2 : next ≤ 1048576
 len : l.length ≤ 1024
theorem okNode_mode {n : api_Node} (h : okNode n = true) : okMode n.Mode_ = true := by
 unfold okNode at h
 simp only [Bool.and_eq_true] at h
 exact h.1.1.1.1.1.1
theorem OkT.mode {l : List api_Node} {next : Int} (h : OkT l next) {n : api_Node} (hn : n ∈ l) : 0 ≤ n.Mode_ ∧ n.Mode_ < 4294967296 := okMode_lt (okNode_mode (h.flds n hn))
theorem OkT.ge {l : List api_Node} {next : Int} (h : OkT l next) {n : api_Node} (hn : n ∈ l) : 1 ≤ n.Id_ := by
 obtain ⟨r, q, rfl, h1, _⟩ := h.root
 rcases List.mem_cons.1 hn with rfl | hn
 ·omega
 ·have := (List.pairwise_cons.1 h.srt).1 n hn
  omega
theorem id_inj {l : List api_Node} (hs : l.Pairwise fun a b => a.Id_ < b.Id_) {a b : api_Node} (ha : a ∈ l) (hb : b ∈ l) (h : a.Id_ = b.Id_) : a = b := by
 induction l with
 | nil => cases ha
 | cons x l ih =>
  obtain ⟨h1, h2⟩ := List.pairwise_cons.1 hs
  rcases List.mem_cons.1 ha with ea | ha'
  ·rcases List.mem_cons.1 hb with eb | hb'
   ·rw [ea, eb]
   ·have := h1 b hb'; rw [ea] at h; omega
  ·rcases List.mem_cons.1 hb with eb | hb'
   ·have := h1 a ha'; rw [eb] at h; omega
   ·exact ih h2 ha' hb'
theorem nodeT_some {l : List api_Node} {id : Int} (h : (nodeT l id).2 = true) : (nodeT l id).1 ∈ l ∧ (nodeT l id).1.Id_ = id := by
 unfold nodeT at h ⊢
 cases hf : l.find? (hasId id) with
 | none => rw [hf] at h; cases h
 | some n => exact ⟨List.mem_of_find?_eq_some hf, by simpa [hasId] using List.find?_some hf⟩
theorem nodeT_none {l : List api_Node} {id : Int} (h : (nodeT l id).2 = false) : (∀ n ∈ l, n.Id_ ≠ id) ∧ (nodeT l id).1 = zeroN := by
 unfold nodeT at h ⊢
 cases hf : l.find? (hasId id) with
 | none =>
  rw [List.find?_eq_none] at hf
  exact ⟨fun n hn e => hf n hn (by simpa [hasId] using e), rfl⟩
 | some n => rw [hf] at h; cases h
theorem nodeT_of {l : List api_Node} (hs : l.Pairwise fun a b => a.Id_ < b.Id_) {n : api_Node} (hn : n ∈ l) : nodeT l n.Id_ = (n, true) := by
 cases hb : (nodeT l n.Id_).2 with
 | false => exact absurd rfl ((nodeT_none hb).1 n hn)
 | true =>
  obtain ⟨h1, h2⟩ := nodeT_some hb
  exact Prod.ext (id_inj hs h1 hn h2) hb
theorem OkT.hm {l : List api_Node} {next : Int} (h : OkT l next) {n : api_Node} (hn : n ∈ l) : n.Mode_ ≤ 9223372036854775807 := by have := h.mode hn; omega
def isD (l : List api_Node) (id : Int) : Bool := (nodeT l id).2 && hasI (nodeT l id).1.Mode_ 31
def withinT (l : List api_Node) (id : Int) : Int := bif !(nodeT l id).2 then 8 else bif !(hasI (nodeT l id).1.Mode_ 31) then 9 else 0
theorem node_hm {l : List api_Node} {next : Int} (h : OkT l next) (id : Int) : (nodeT l id).1.Mode_ ≤ 9223372036854775807 := by
 cases hb : (nodeT l id).2 with
 | true => exact h.hm (nodeT_some hb).1
 | false => rw [(nodeT_none hb).2]; decide
theorem within_eq (t : api_Tree) (id : Int) (h : OkT t.Nodes_ t.Next_) : tree_within t id = some (withinT t.Nodes_ id) := by
 unfold tree_within withinT
 have hl := h.len
 refine bind_eq (tree_node_eq t id (by omega)) ?_
 cases (nodeT t.Nodes_ id).2 with
 | false => rfl
 | true =>
  refine cond_f rfl (bind_eq (tree_dir_eq _ (node_hm h id)) ?_)
  cases hasI (nodeT t.Nodes_ id).1.Mode_ 31 <;> rfl
def childT (l : List api_Node) (dir : Int) : List Int := (l.filter fun n => n.Parent_ == dir && n.Id_ != 1).map (·.Id_)
theorem fold_filter {α β : Type} (p : α → Bool) (f : α → β) : ∀ (q : List α) (i : Nat) (acc : List β), foldN (fun (s : List β) _ x => bif p x then s ++ [f x] else s) acc i q = acc ++ (q.filter p).map f
 | [], i, acc => by simp [foldN]
 | x :: q, i, acc => by
  simp only [foldN]
  rw [fold_filter p f q, List.filter_cons]
  cases p x <;> simp
theorem fold_len {β : Type} (c : Bool) (s : List β) (x : β) (i : Nat) (h : s.length ≤ i) : (bif c then s ++ [x] else s).length ≤ i + 1 := by
 cases c
 ·simp; omega
 ·simp; omega
theorem tree_children_loop (t : api_Tree) (dir : Int) (h : t.Nodes_.length ≤ 2000) : loopF (tree_Children_L1 t dir) BIG (0, []) = some (childT t.Nodes_ dir) := by
 have hk := fold_filter (fun n : api_Node => n.Parent_ == dir && n.Id_ != 1) (·.Id_) t.Nodes_ 0 []
 rw [List.nil_append] at hk
 unfold childT
 rw [← hk]
 refine loop_foldN (τ := Int × List Int) t.Nodes_ _ (fun i s => ((i : Int), s)) (fun i s => s.length ≤ i) (fun s => s) [] (big_lt (by omega)) (Nat.le_refl _) (fun i s hi hI => ⟨?_, fold_len _ _ _ _ hI⟩) (fun s hI => ?_)
 ·unfold tree_Children_L1
  simp only
  rw [lt_t hi, getI_lt hi, w_succ (by omega)]
  refine cond_t rfl ?_
  simp only [Option.bind_some]
  cases t.Nodes_[i].Parent_ == dir && t.Nodes_[i].Id_ != 1 with
  | true => exact bind_eq (a := s ++ [t.Nodes_[i].Id_]) (bind_eq (room_eq (by simp; omega) (by simp; omega)) rfl) rfl
  | false => rfl
 ·unfold tree_Children_L1
  simp only
  rw [lt_f]; rfl
theorem isD_par {l : List api_Node} {next : Int} (h : OkT l next) {dir : Int} {n : api_Node} (hn : n ∈ l) (hp : n.Parent_ = dir) (h1 : n.Id_ ≠ 1) : isD l dir = true := by
 obtain ⟨p, hp1, hp2, _, hp3⟩ := h.par n hn h1
 have := nodeT_of h.srt hp1
 unfold isD
 rw [← hp, ← hp2, this]
 exact hp3
theorem childT_nil {l : List api_Node} {next : Int} (h : OkT l next) {dir : Int} (hd : isD l dir = false) : childT l dir = [] := by
 unfold childT
 rw [List.map_eq_nil_iff, List.filter_eq_nil_iff]
 intro n hn hc
 simp only [Bool.and_eq_true, beq_iff_eq, bne_iff_ne] at hc
 rw [isD_par h hn hc.1 hc.2] at hd
 cases hd
theorem within_zero (l : List api_Node) (dir : Int) : (withinT l dir != 0) = !(isD l dir) := by
 unfold withinT isD
 cases (nodeT l dir).2 <;> cases hasI (nodeT l dir).1.Mode_ 31 <;> rfl
theorem tree_children_eq (t : api_Tree) (dir : Int) (h : OkT t.Nodes_ t.Next_) : tree_Children t dir = some (childT t.Nodes_ dir) := by
 have hl := h.len
 unfold tree_Children
 refine bind_eq (within_eq t dir h) ?_
 rw [within_zero]
 cases hd : isD t.Nodes_ dir with
 | false => rw [childT_nil h hd]; rfl
 | true => exact cond_f rfl (bind_eq (tree_children_loop t dir (by omega)) rfl)
theorem ref10_children_eq (t : api_Tree) (dir : Int) (h : OkT t.Nodes_ t.Next_) : ref10_Children t dir = some (childT t.Nodes_ dir) := by
 have hl := h.len
 obtain ⟨r, q, hrq, hr1, _⟩ := h.root
 unfold ref10_Children
 refine bind_eq (a := childT t.Nodes_ dir) ?_ rfl
 have hk := fold_filter (fun n : api_Node => n.Parent_ == dir) (·.Id_) (t.Nodes_.drop 1) 1 []
 rw [List.nil_append] at hk
 have hc : childT t.Nodes_ dir = ((t.Nodes_.drop 1).filter fun n => n.Parent_ == dir).map (·.Id_) := by
  unfold childT
  have hsrt := h.srt
  rw [hrq] at hsrt ⊢
  obtain ⟨hs1, _⟩ := List.pairwise_cons.1 hsrt
  rw [List.filter_cons]
  have : (r.Parent_ == dir && r.Id_ != 1) = false := by simp [hr1]
  rw [this]
  simp only [Bool.false_eq_true, if_false, List.drop_succ_cons, List.drop_zero]
  congr 1
  apply List.filter_congr
  intro n hn
  have := hs1 n hn
  have hne : (n.Id_ != 1) = true := by rw [bne_iff_ne]; omega
  rw [hne, Bool.and_true]
 rw [hc, ← hk]
 refine loop_foldN1 (τ := Int × List Int) t.Nodes_ _ (fun i s => ((i : Int), s)) (fun i s => s.length ≤ i) (fun s => s) [] 1 (by rw [hrq]; simp) (big_lt (by omega)) (by simp) (fun i s hi _ hI => ⟨?_, fold_len _ _ _ _ hI⟩) (fun s hI => ?_)
 ·unfold ref10_Children_L1
  simp only
  rw [lt_t hi, getI_lt hi, w_succ (by omega)]
  refine cond_t rfl ?_
  simp only [Option.bind_some]
  cases t.Nodes_[i].Parent_ == dir with
  | true => exact bind_eq (a := s ++ [t.Nodes_[i].Id_]) (bind_eq (room_eq (by simp; omega) (by simp; omega)) rfl) rfl
  | false => rfl
 ·unfold ref10_Children_L1
  simp only
  rw [lt_f]; rfl
theorem clock_ne (x : Int) : (x != clockI x) = (decide (x < 0) || decide (x > 1099511627776)) := by
 unfold clockI minI maxI
 rw [Bool.eq_iff_iff]
 simp only [bne_iff_ne, ne_eq, Bool.or_eq_true, decide_eq_true_eq]
 split <;> split <;> omega
theorem max3 (a b c : Nat) (k : Nat) : decide (maxI (maxI (a : Int) (b : Int)) (c : Int) > (k : Int)) = !(decide (a ≤ k) && (decide (b ≤ k) && decide (c ≤ k))) := by
 unfold maxI
 rw [Bool.eq_iff_iff]
 simp only [decide_eq_true_eq, Bool.not_eq_true', Bool.and_eq_false_iff, decide_eq_false_iff_not]
 split <;> split <;> omega
theorem clock_le (x : Int) : (x != clockI x) = !(decide (0 ≤ x) && decide (x ≤ 1099511627776)) := by
 rw [clock_ne, Bool.eq_iff_iff]
 simp only [Bool.or_eq_true, decide_eq_true_eq, Bool.not_eq_true', Bool.and_eq_false_iff, decide_eq_false_iff_not]
 omega
theorem tree_sound_eq (n : api_Node) (hm : n.Mode_ ≤ 9223372036854775807) : tree_sound n = some (okNode n) := by
 unfold tree_sound okNode
 refine bind_eq (tree_valid_eq _ hm) ?_
 have e1 : decide (n.Vers_ < 0) = !(decide (0 ≤ n.Vers_)) := by rw [Bool.eq_iff_iff]; simp
 have e2 : decide (n.Vers_ > 2147483647) = !(decide (n.Vers_ ≤ 2147483647)) := by rw [Bool.eq_iff_iff]; simp
 rw [e1, e2]
 cases okMode n.Mode_ with
 | false => rfl
 | true =>
  cases decide (0 ≤ n.Vers_) with
  | false => rfl
  | true =>
   cases decide (n.Vers_ ≤ 2147483647) with
   | false => rfl
   | true =>
    refine bind_eq (a := n.Atime_ != clockI n.Atime_) rfl ?_
    rw [clock_le n.Atime_]
    cases decide (0 ≤ n.Atime_) && decide (n.Atime_ ≤ 1099511627776) with
    | false => rfl
    | true =>
     refine bind_eq (a := n.Mtime_ != clockI n.Mtime_) rfl ?_
     rw [clock_le n.Mtime_]
     cases decide (0 ≤ n.Mtime_) && decide (n.Mtime_ ≤ 1099511627776) with
     | false => rfl
     | true =>
      refine cond_f rfl ?_
      rw [show (64 : Int) = ((64 : Nat) : Int) from rfl, max3]
      cases decide (n.Uid_.length ≤ 64) && (decide (n.Gid_.length ≤ 64) && decide (n.Muid_.length ≤ 64)) with
      | false => rfl
      | true =>
       have e3 : decide ((n.Data_.length : Int) > 65536) = !(decide (n.Data_.length ≤ 65536)) := by rw [Bool.eq_iff_iff]; simp; omega
       rw [e3]
       cases decide (n.Data_.length ≤ 65536) with
       | false => rfl
       | true => exact cond_f rfl (bind_eq (tree_dir_eq _ hm) (by simp))
def okNodeD (D : Bool) (n : api_Node) : Bool := okMode n.Mode_ && (decide (0 ≤ n.Vers_) && decide (n.Vers_ ≤ 2147483647)) && (decide (0 ≤ n.Atime_) && decide (n.Atime_ ≤ 1099511627776)) && (decide (0 ≤ n.Mtime_) && decide (n.Mtime_ ≤ 1099511627776)) &&
 (decide (n.Uid_.length ≤ 64) && (decide (n.Gid_.length ≤ 64) && decide (n.Muid_.length ≤ 64))) && decide (n.Data_.length ≤ 65536) && (!D || n.Data_ == [])
theorem ref10_fields_eq (n : api_Node) (hm : n.Mode_ ≤ 9223372036854775807) : ref10_fields n = some (okNode n) := by
 have e0 : okNode n = okNodeD (decide (n.Mode_ ≥ 2147483648)) n := by
  unfold okNode okNodeD
  cases hk : okMode n.Mode_ with
  | false => simp
  | true => rw [isdir_eq hk]
 rw [e0]
 unfold ref10_fields okNodeD
 refine bind_eq (ref10_mode_eq _ hm) ?_
 have e1 : decide (n.Vers_ < 0) = !(decide (0 ≤ n.Vers_)) := by rw [Bool.eq_iff_iff]; simp
 have e2 : decide (n.Vers_ > 2147483647) = !(decide (n.Vers_ ≤ 2147483647)) := by rw [Bool.eq_iff_iff]; simp
 have e3 : decide (n.Atime_ < 0) = !(decide (0 ≤ n.Atime_)) := by rw [Bool.eq_iff_iff]; simp
 have e4 : decide (n.Atime_ > 1099511627776) = !(decide (n.Atime_ ≤ 1099511627776)) := by rw [Bool.eq_iff_iff]; simp
 have e5 : decide (n.Mtime_ < 0) = !(decide (0 ≤ n.Mtime_)) := by rw [Bool.eq_iff_iff]; simp
 have e6 : decide (n.Mtime_ > 1099511627776) = !(decide (n.Mtime_ ≤ 1099511627776)) := by rw [Bool.eq_iff_iff]; simp
 have e7 : ∀ s : Str, decide ((s.length : Int) > 64) = !(decide (s.length ≤ 64)) := fun s => by rw [Bool.eq_iff_iff]; simp; omega
 have e8 : decide ((n.Data_.length : Int) > 65536) = !(decide (n.Data_.length ≤ 65536)) := by rw [Bool.eq_iff_iff]; simp; omega
 rw [e1, e2, e3, e4, e5, e6, e7, e7, e7, e8]
 cases okMode n.Mode_ <;> cases decide (0 ≤ n.Vers_) <;> cases decide (n.Vers_ ≤ 2147483647) <;> cases decide (0 ≤ n.Atime_) <;> cases decide (n.Atime_ ≤ 1099511627776) <;> cases decide (0 ≤ n.Mtime_) <;> cases decide (n.Mtime_ ≤ 1099511627776) <;> try rfl
 cases decide (n.Uid_.length ≤ 64) <;> cases decide (n.Gid_.length ≤ 64) <;> cases decide (n.Muid_.length ≤ 64) <;> cases decide (n.Data_.length ≤ 65536) <;> rfl
def prevN (l : List api_Node) (i : Nat) : api_Node := l.getD (i - 1) zeroN
def samePl (a b : api_Node) : Bool := a.Parent_ == b.Parent_ && a.Name_ == b.Name_
def StepOK (l : List api_Node) (i : Nat) (n : api_Node) : Prop := (prevN l i).Id_ < n.Id_ ∧ okName n.Name_ = true ∧ (∃ p ∈ l.take i, p.Id_ = n.Parent_ ∧ hasI p.Mode_ 31 = true) ∧ ∀ c ∈ (l.take i).drop 1, samePl c n = false
def RootOK (n : api_Node) : Prop := n.Id_ = 1 ∧ n.Parent_ = 1 ∧ n.Name_ = [47] ∧ hasI n.Mode_ 31 = true
theorem mem_take {α : Type} {l : List α} {i : Nat} {x : α} : x ∈ l.take i ↔ ∃ j, j < i ∧ l[j]? = some x := by
 rw [List.mem_iff_getElem?]
 constructor
 ·rintro ⟨j, hj⟩
  rw [List.getElem?_take] at hj
  split at hj
  ·exact ⟨j, by assumption, hj⟩
  ·cases hj
 ·rintro ⟨j, h1, h2⟩
  exact ⟨j, by rw [List.getElem?_take, if_pos h1]; exact h2⟩
theorem mem_take_drop {α : Type} {l : List α} {i : Nat} {x : α} : x ∈ (l.take i).drop 1 ↔ ∃ j, 0 < j ∧ j < i ∧ l[j]? = some x := by
 rw [List.mem_iff_getElem?]
 constructor
 ·rintro ⟨j, hj⟩
  rw [List.getElem?_drop, List.getElem?_take] at hj
  split at hj
  ·exact ⟨1 + j, by omega, by assumption, hj⟩
  ·cases hj
 ·rintro ⟨j, h0, h1, h2⟩
  exact ⟨j - 1, by rw [List.getElem?_drop, List.getElem?_take, show 1 + (j - 1) = j by omega, if_pos h1]; exact h2⟩
theorem prevN_get {l : List api_Node} {i : Nat} (h0 : 0 < i) (hi : i < l.length) : l[i - 1]? = some (prevN l i) := by
 unfold prevN
 rw [List.getD_eq_getElem?_getD, List.getElem?_eq_getElem (by omega)]; rfl
theorem srt_iff {l : List api_Node} : (l.Pairwise fun a b => a.Id_ < b.Id_) ↔ ∀ i n, 0 < i → l[i]? = some n → (prevN l i).Id_ < n.Id_ := by
 rw [List.pairwise_iff_getElem]
 constructor
 ·intro h i n h0 hn
  obtain ⟨hi, rfl⟩ := List.getElem?_eq_some_iff.1 hn
  have := prevN_get h0 hi
  obtain ⟨_, e⟩ := List.getElem?_eq_some_iff.1 this
  rw [← e]
  exact h _ _ _ _ (by omega)
 ·intro h
  have key : ∀ (d i : Nat) (hj : i + d + 1 < l.length), (l[i]'(by omega)).Id_ < (l[i + d + 1]'hj).Id_ := by
   intro d
   induction d with
   | zero =>
    intro i hj
    have := h (i + 1) _ (by omega) (List.getElem?_eq_getElem (by omega))
    have e := prevN_get (l := l) (i := i + 1) (by omega) (by omega)
    obtain ⟨_, e⟩ := List.getElem?_eq_some_iff.1 e
    rw [← e] at this
    exact this
   | succ d ih =>
    intro i hj
    have h1 := ih i (by omega)
    have := h (i + d + 1 + 1) _ (by omega) (List.getElem?_eq_getElem (by omega))
    have e := prevN_get (l := l) (i := i + d + 1 + 1) (by omega) (by omega)
    obtain ⟨_, e⟩ := List.getElem?_eq_some_iff.1 e
    rw [← e] at this
    simp only [Nat.add_sub_cancel] at this
    exact Int.lt_trans h1 this
  intro i j hi hj hij
  have := key (j - i - 1) i (by omega)
  simpa [show i + (j - i - 1) + 1 = j by omega] using this
theorem OkT_iff {l : List api_Node} {next : Int} : OkT l next ↔ 1 ≤ l.length ∧ l.length ≤ 1024 ∧ next ≤ 1048576 ∧ (∀ n, l[0]? = some n → RootOK n) ∧ (∀ n ∈ l, okNode n = true) ∧ (∀ n ∈ l, n.Id_ < next) ∧ ∀ i n, 0 < i → l[i]? = some n → StepOK l i n := by
 constructor
 ·intro h
  have hmem : ∀ {i : Nat} {n : api_Node}, l[i]? = some n → n ∈ l := fun h => List.mem_iff_getElem?.2 ⟨_, h⟩
  have lt : ∀ {i j : Nat} {a b : api_Node}, l[i]? = some a → l[j]? = some b → a.Id_ < b.Id_ → i < j := fun {i j a b} ha hb hab => by
   rcases Nat.lt_trichotomy i j with h1 | h1 | h1
   ·exact h1
   ·subst h1; rw [ha] at hb; cases hb; omega
   ·have := List.pairwise_iff_getElem.1 h.srt j i (List.getElem?_eq_some_iff.1 hb).1 (List.getElem?_eq_some_iff.1 ha).1 h1
    rw [(List.getElem?_eq_some_iff.1 ha).2, (List.getElem?_eq_some_iff.1 hb).2] at this
    omega
  have gt : ∀ {i j : Nat} {a b : api_Node}, l[i]? = some a → l[j]? = some b → i < j → a.Id_ < b.Id_ := fun {i j a b} ha hb hab => by
   have := List.pairwise_iff_getElem.1 h.srt i j (List.getElem?_eq_some_iff.1 ha).1 (List.getElem?_eq_some_iff.1 hb).1 hab
   rw [(List.getElem?_eq_some_iff.1 ha).2, (List.getElem?_eq_some_iff.1 hb).2] at this
   exact this
  obtain ⟨r, q, hl, hr⟩ := h.root
  have h0 : l[0]? = some r := by rw [hl]; rfl
  refine ⟨by rw [hl]; simp, h.len, h.nx2, fun n hn => ?_, h.flds, h.nxt, fun i n hi hn => ?_⟩
  ·rw [h0] at hn; cases hn; exact hr
  ·have h1 : n.Id_ ≠ 1 := by have := gt h0 hn hi; rw [hr.1] at this; omega
   refine ⟨srt_iff.1 h.srt i n hi hn, h.nam n (hmem hn) h1, ?_, fun c hc => ?_⟩
   ·obtain ⟨p, p1, p2, p3, p4⟩ := h.par n (hmem hn) h1
    obtain ⟨j, hj⟩ := List.mem_iff_getElem?.1 p1
    exact ⟨p, mem_take.2 ⟨j, lt hj hn p3, hj⟩, p2, p4⟩
   ·obtain ⟨j, j0, j1, hj⟩ := mem_take_drop.1 hc
    cases hs : samePl c n with
    | false => rfl
    | true =>
     unfold samePl at hs
     rw [Bool.and_eq_true, beq_iff_eq, beq_iff_eq] at hs
     have c1 : c.Id_ ≠ 1 := by have := gt h0 hj j0; rw [hr.1] at this; omega
     have := h.uniq c (hmem hj) n (hmem hn) c1 h1 hs.1 hs.2
     have := gt hj hn j1
     omega
 ·rintro ⟨h1, h2, h3, h4, h5, h6, h7⟩
  have srt : l.Pairwise fun a b => a.Id_ < b.Id_ := srt_iff.2 fun i n hi hn => (h7 i n hi hn).1
  have gt : ∀ {i j : Nat} {a b : api_Node}, l[i]? = some a → l[j]? = some b → i < j → a.Id_ < b.Id_ := fun {i j a b} ha hb hab => by
   have := List.pairwise_iff_getElem.1 srt i j (List.getElem?_eq_some_iff.1 ha).1 (List.getElem?_eq_some_iff.1 hb).1 hab
   rw [(List.getElem?_eq_some_iff.1 ha).2, (List.getElem?_eq_some_iff.1 hb).2] at this
   exact this
  cases l with
  | nil => exact absurd h1 (by simp)
  | cons r q =>
   have hr := h4 r rfl
   have pos : ∀ {i : Nat} {n : api_Node}, (r :: q)[i]? = some n → n.Id_ ≠ 1 → 0 < i := fun {i n} hn hne => by
    rcases Nat.eq_zero_or_pos i with rfl | h0
    ·cases hn; exact absurd hr.1 hne
    ·exact h0
   refine ⟨srt, ⟨r, q, rfl, hr⟩, h5, fun n hn hne => ?_, fun n hn hne => ?_, fun a ha b hb ha1 hb1 hp hnm => ?_, h6, h3, h2⟩
   ·obtain ⟨i, hi⟩ := List.mem_iff_getElem?.1 hn
    exact (h7 i n (pos hi hne) hi).2.1
   ·obtain ⟨i, hi⟩ := List.mem_iff_getElem?.1 hn
    obtain ⟨p, hp, p1, p2⟩ := (h7 i n (pos hi hne) hi).2.2.1
    obtain ⟨j, hj, e⟩ := mem_take.1 hp
    exact ⟨p, List.mem_iff_getElem?.2 ⟨_, e⟩, p1, gt e hi hj, p2⟩
   ·obtain ⟨i, hi⟩ := List.mem_iff_getElem?.1 ha
    obtain ⟨j, hj⟩ := List.mem_iff_getElem?.1 hb
    rcases Nat.lt_trichotomy i j with h | h | h
    ·have := (h7 j b (pos hj hb1) hj).2.2.2 a (mem_take_drop.2 ⟨i, pos hi ha1, h, hi⟩)
     unfold samePl at this
     rw [hp, hnm] at this
     simp at this
    ·subst h; rw [hi] at hj; cases hj; rfl
    ·have := (h7 i a (pos hi ha1) hi).2.2.2 b (mem_take_drop.2 ⟨j, pos hj hb1, h, hj⟩)
     unfold samePl at this
     rw [hp, hnm] at this
     simp at this
def CntP {κ α : Type} (eq : κ → κ → Bool) (P : κ → α → Bool) (ks : List κ) (vs : List Int) (l : List α) : Prop := ks.length = vs.length ∧ ∀ k, mgetD eq ks vs k 0 = ((l.countP (P k) : Nat) : Int)
theorem CntP.nil {κ α : Type} {eq : κ → κ → Bool} {P : κ → α → Bool} : CntP eq P [] [] [] := ⟨rfl, fun _ => by simp [mgetD]⟩
theorem CntP.put {κ α : Type} {eq : κ → κ → Bool} {P : κ → α → Bool} (hq : ∀ x y, eq x y = true ↔ x = y) {ks : List κ} {vs : List Int} {l : List α} (h : CntP eq P ks vs l) {x : α} {key : κ} (hx : ∀ k, P k x = eq k key) (hl : l.length ≤ 2000) :
  CntP eq P (mputK eq ks key) (mputV eq ks vs key (w64 (mgetD eq ks vs key 0 + 1))) (l ++ [x]) := by
 refine ⟨mput_len h.1, fun n => ?_⟩
 have hc := List.countP_le_length (p := P key) (l := l)
 rw [mget_put hq h.1, h.2 key, h.2 n, w_succ (by omega), List.countP_append]
 have e : List.countP (P n) [x] = if eq n key then 1 else 0 := by simp [List.countP_cons, hx]
 rw [e]
 cases hn : eq n key with
 | true => obtain rfl := (hq _ _).1 hn; rfl
 | false => rfl
theorem CntP.skip {κ α : Type} {eq : κ → κ → Bool} {P : κ → α → Bool} {ks : List κ} {vs : List Int} {l : List α} (h : CntP eq P ks vs l) {x : α} (hx : ∀ k, P k x = false) : CntP eq P ks vs (l ++ [x]) :=
 ⟨h.1, fun k => by rw [h.2 k, List.countP_append]; simp [hx]⟩
theorem CntP.put2 {κ α : Type} {eq : κ → κ → Bool} {P : κ → α → Bool} (hq : ∀ x y, eq x y = true ↔ x = y) {ks : List κ} {vs : List Int} {l : List α} (h : CntP eq P ks vs l) {x : α} {key : κ} (hx : ∀ k, P k x = eq k key) (hl : l.length ≤ 2000) :
  CntP eq P (mputK eq (mputK eq ks key) key) (mputV eq (mputK eq ks key) (mputV eq ks vs key (mgetD eq ks vs key 0)) key (w64 (mgetD eq ks vs key 0 + 1))) (l ++ [x]) ∧
  mgetD eq (mputK eq ks key) (mputV eq ks vs key (mgetD eq ks vs key 0)) key 0 = mgetD eq ks vs key 0 := by
 have e : ∀ n, mgetD eq (mputK eq ks key) (mputV eq ks vs key (mgetD eq ks vs key 0)) n 0 = mgetD eq ks vs n 0 := fun n => by
  rw [mget_put hq h.1]
  cases hn : eq n key with
  | true => obtain rfl := (hq _ _).1 hn; rfl
  | false => rfl
 have h' : CntP eq P (mputK eq ks key) (mputV eq ks vs key (mgetD eq ks vs key 0)) l := ⟨mput_len h.1, fun n => by rw [e]; exact h.2 n⟩
 refine ⟨?_, e key⟩
 have := h'.put hq hx hl
 rw [e key] at this
 exact this
theorem CntP.zero {κ α : Type} {eq : κ → κ → Bool} {P : κ → α → Bool} {ks : List κ} {vs : List Int} {l : List α} (h : CntP eq P ks vs l) (k : κ) : (mgetD eq ks vs k 0 == 0) = !(l.any (P k)) := by
 rw [h.2 k, Bool.eq_iff_iff, beq_iff_eq, Bool.not_eq_true', List.any_eq_false]
 have : ((l.countP (P k) : Nat) : Int) = 0 ↔ l.countP (P k) = 0 := by omega
 rw [this, List.countP_eq_zero]
theorem CntP.pos {κ α : Type} {eq : κ → κ → Bool} {P : κ → α → Bool} {ks : List κ} {vs : List Int} {l : List α} (h : CntP eq P ks vs l) (k : κ) : decide (mgetD eq ks vs k 0 > 0) = l.any (P k) := by
 rw [h.2 k, Bool.eq_iff_iff, decide_eq_true_eq, List.any_eq_true]
 have : ((l.countP (P k) : Nat) : Int) > 0 ↔ 0 < l.countP (P k) := by omega
 rw [this, List.countP_pos_iff]
def dirP (k : Int) (n : api_Node) : Bool := k == n.Id_ && hasI n.Mode_ 31
abbrev eqPl (a b : tree_place) : Bool := decide (a = b)
def plP (k : tree_place) (n : api_Node) : Bool := eqPl k (tree_place.mk n.Parent_ n.Name_)
theorem plP_same (c n : api_Node) : plP (tree_place.mk n.Parent_ n.Name_) c = samePl c n := by
 unfold plP samePl eqPl
 rw [Bool.eq_iff_iff]
 simp only [decide_eq_true_eq, tree_place.mk.injEq, Bool.and_eq_true, beq_iff_eq]
 exact ⟨fun ⟨h1, h2⟩ => ⟨h1.symm, h2.symm⟩, fun ⟨h1, h2⟩ => ⟨h1.symm, h2.symm⟩⟩
def okAt (l : List api_Node) (i : Nat) (n : api_Node) : Bool := bif i == 0 then n.Id_ == 1 && (n.Parent_ == 1 && (n.Name_ == [47] && hasI n.Mode_ 31)) else
 okName n.Name_ && ((l.take i).any (dirP n.Parent_) && !(((l.take i).drop 1).any (plP (tree_place.mk n.Parent_ n.Name_))))
def tB (l : List api_Node) (next : Int) (i : Nat) (n : api_Node) : Bool := okNode n && (decide (n.Id_ < next) && ((i == 0 || decide ((prevN l i).Id_ < n.Id_)) && okAt l i n))
def gT (l : List api_Node) (next : Int) (i : Nat) (n : api_Node) : Option Bool := if tB l next i n then none else some false
theorem drop_take_succ {l : List api_Node} {i : Nat} (hi : i < l.length) (h0 : 0 < i) : (l.take (i + 1)).drop 1 = (l.take i).drop 1 ++ [l[i]] := by
 rw [take_succ_get hi, List.drop_append, List.length_take, show (1 - min i l.length) = 0 by omega]; rfl
theorem tree_right_body (t : api_Tree) (i : Nat) (hi : i < t.Nodes_.length) (hl : t.Nodes_.length ≤ 1024) (hm : ∀ n ∈ t.Nodes_, n.Mode_ ≤ 9223372036854775807 ∧ n.Name_.length ≤ 9223372036854775807) {dk : List Int} {dv : List Int} {pk : List tree_place} {pv : List Int}
  (h1 : CntP eqI dirP dk dv (t.Nodes_.take i)) (h2 : CntP eqPl plP pk pv ((t.Nodes_.take i).drop 1)) :
  (tB t.Nodes_ t.Next_ i t.Nodes_[i] = false ∧ tree_Right_L1 t ((i : Int), dk, dv, pk, pv) = some (.done (.ret false))) ∨
  (tB t.Nodes_ t.Next_ i t.Nodes_[i] = true ∧ ∃ dk' dv' pk' pv', tree_Right_L1 t ((i : Int), dk, dv, pk, pv) = some (.next (((i + 1 : Nat) : Int), dk', dv', pk', pv')) ∧ CntP eqI dirP dk' dv' (t.Nodes_.take (i + 1)) ∧ CntP eqPl plP pk' pv' ((t.Nodes_.take (i + 1)).drop 1)) := by
 have hmem := List.getElem_mem hi
 obtain ⟨hm1, hm2⟩ := hm _ hmem
 unfold tree_Right_L1
 simp only
 rw [lt_t hi, getI_lt hi, w_succ (by omega)]
 simp only [cond_true, Option.bind_some]
 rw [tree_sound_eq _ hm1]
 simp only [Option.bind_some]
 have hnx : decide (t.Nodes_[i].Id_ ≥ t.Next_) = !(decide (t.Nodes_[i].Id_ < t.Next_)) := by rw [Bool.eq_iff_iff]; simp
 rw [hnx]
 have htk : t.Nodes_.take (i + 1) = t.Nodes_.take i ++ [t.Nodes_[i]] := take_succ_get hi
 have hdir : ∀ {A B : Option (Out ((List Int) × (List Int) × (List tree_place) × (List Int)) Bool)}, (Option.bind (tree_directory t.Nodes_[i].Mode_) fun (y22 : Bool) => bif y22 then A else B) = bif hasI t.Nodes_[i].Mode_ 31 then A else B := by
  intro A B; rw [tree_dir_eq _ hm1]; rfl
 -- the directories counted after this node
 have hD : ∃ dk' dv', (∀ (p q : _), (bif hasI t.Nodes_[i].Mode_ 31 then some (.fall (mputK eqI dk t.Nodes_[i].Id_, mputV eqI dk dv t.Nodes_[i].Id_ (w64 (mgetD eqI dk dv t.Nodes_[i].Id_ 0 + 1)), p, q)) else some (.fall (dk, dv, p, q)) : Option (Out ((List Int) × (List Int) × (List tree_place) × (List Int)) Bool)) = some (.fall (dk', dv', p, q))) ∧ CntP eqI dirP dk' dv' (t.Nodes_.take (i + 1)) := by
  rw [htk]
  cases hh : hasI t.Nodes_[i].Mode_ 31 with
  | true => exact ⟨_, _, fun p q => rfl, h1.put eqI_iff (fun k => by unfold dirP eqI; rw [hh, Bool.and_true]) (by rw [List.length_take]; omega)⟩
  | false => exact ⟨dk, dv, fun p q => rfl, h1.skip (fun k => by unfold dirP; rw [hh, Bool.and_false])⟩
 obtain ⟨dk', dv', hD1, hD2⟩ := hD
 cases ho : okNode t.Nodes_[i] with
 | false => exact .inl ⟨by unfold tB; rw [ho]; rfl, rfl⟩
 | true =>
  cases hx : decide (t.Nodes_[i].Id_ < t.Next_) with
  | false => exact .inl ⟨by unfold tB; rw [ho, hx]; rfl, rfl⟩
  | true =>
   simp only [Bool.not_true, Bool.or_self, cond_false]
   rcases Nat.eq_zero_or_pos i with rfl | h0
   ·
    have e0 : decide (((0 : Nat) : Int) > 0) = false := rfl
    have e1 : (((0 : Nat) : Int) == 0) = true := rfl
    rw [e0, e1]
    simp only [cond_false, cond_true, Option.bind_some]
    have hroot : (Option.bind (bif (((t.Nodes_[0].Id_ != 1) || (t.Nodes_[0].Parent_ != 1)) || (!(t.Nodes_[0].Name_ == [47]))) then some true else Option.bind (tree_directory t.Nodes_[0].Mode_) fun (y17 : Bool) => some (!y17)) fun (y18 : Bool) => (bif y18 then some (.ret (false)) else some (.fall ())) : Option (Out Unit Bool)) = bif okAt t.Nodes_ 0 t.Nodes_[0] then some (.fall ()) else some (.ret false) := by
     rw [tree_dir_eq _ hm1]
     unfold okAt bne
     simp only [Option.bind_some]
     cases t.Nodes_[0].Id_ == 1 <;> cases t.Nodes_[0].Parent_ == 1 <;> cases t.Nodes_[0].Name_ == [47] <;> cases hasI t.Nodes_[0].Mode_ 31 <;> rfl
    rw [hroot]
    cases hk : okAt t.Nodes_ 0 t.Nodes_[0] with
    | false => exact .inl ⟨by unfold tB; rw [ho, hx, hk]; rfl, rfl⟩
    | true =>
     refine .inr ⟨by unfold tB; rw [ho, hx, hk]; rfl, dk', dv', pk, pv, ?_, hD2, ?_⟩
     ·simp only [cond_true, Option.bind_some]
      rw [hdir, hD1]; rfl
     ·have e : (t.Nodes_.take (0 + 1)).drop 1 = (t.Nodes_.take 0).drop 1 := by rw [htk]; simp
      rw [e]; exact h2
   ·have e0 : decide ((i : Int) > 0) = true := by simpa using h0
    have e1 : ((i : Int) == 0) = false := by simp; omega
    have e2 : (i == 0) = false := by simp; omega
    have hp : getI t.Nodes_ (w64 ((i : Int) - 1)) = some (prevN t.Nodes_ i) := prev_get zeroN h0 hi hl
    rw [e0, e1, hp]
    have hle : decide (t.Nodes_[i].Id_ ≤ (prevN t.Nodes_ i).Id_) = !(decide ((prevN t.Nodes_ i).Id_ < t.Nodes_[i].Id_)) := by rw [Bool.eq_iff_iff]; simp
    simp only [cond_true, Option.bind_some]
    rw [hle]
    cases hs : decide ((prevN t.Nodes_ i).Id_ < t.Nodes_[i].Id_) with
    | false => exact .inl ⟨by unfold tB; rw [ho, hx, hs, e2]; rfl, rfl⟩
    | true =>
     simp only [Bool.not_true, cond_false]
     have hnode : (Option.bind (path_Valid t.Nodes_[i].Name_) fun (y19 : Bool) => Option.bind (bif (!y19) then some true else some ((mgetD eqI dk dv t.Nodes_[i].Parent_ 0) == 0)) fun (y20 : Bool) => Option.bind (bif y20 then some true else some (decide ((mgetD (fun (a b : tree_place) => decide (a = b)) pk pv (tree_place.mk t.Nodes_[i].Parent_ t.Nodes_[i].Name_) 0) > 0))) fun (y21 : Bool) => (bif y21 then some (.ret (false)) else some (.fall ())) : Option (Out Unit Bool)) = bif okAt t.Nodes_ i t.Nodes_[i] then some (.fall ()) else some (.ret false) := by
      rw [path_valid _ hm2]
      unfold okAt
      rw [h1.zero, e2]
      have := h2.pos (tree_place.mk t.Nodes_[i].Parent_ t.Nodes_[i].Name_)
      unfold eqPl at this
      rw [this]
      simp only [Option.bind_some, cond_false]
      cases okName t.Nodes_[i].Name_ <;> cases (t.Nodes_.take i).any (dirP t.Nodes_[i].Parent_) <;> cases ((t.Nodes_.take i).drop 1).any (plP (tree_place.mk t.Nodes_[i].Parent_ t.Nodes_[i].Name_)) <;> rfl
     rw [hnode]
     cases hk : okAt t.Nodes_ i t.Nodes_[i] with
     | false => exact .inl ⟨by unfold tB; rw [ho, hx, hk]; simp, rfl⟩
     | true =>
      obtain ⟨c1, c2⟩ := h2.put2 (x := t.Nodes_[i]) (key := tree_place.mk t.Nodes_[i].Parent_ t.Nodes_[i].Name_) (fun x y => decide_eq_true_iff) (fun k => rfl) (by rw [List.length_drop, List.length_take]; omega)
      refine .inr ⟨by unfold tB; rw [ho, hx, hk, hs]; simp, dk', dv', _, _, ?_, hD2, by rw [drop_take_succ hi h0]; exact c1⟩
      simp only [cond_true, Option.bind_some]
      rw [c2, both_self]
      simp only [Option.bind_some]
      rw [hdir, hD1]; rfl
theorem tree_right_loop (t : api_Tree) (hl : t.Nodes_.length ≤ 1024) (hm : ∀ n ∈ t.Nodes_, n.Mode_ ≤ 9223372036854775807 ∧ n.Name_.length ≤ 9223372036854775807) :
  loopF (tree_Right_L1 t) BIG (0, ([] : List Int), ([] : List Int), ([] : List tree_place), ([] : List Int)) = some (outO (scan (gT t.Nodes_ t.Next_) 0 t.Nodes_)) := by
 refine loopF_up (body := tree_Right_L1 t) (J := fun i s b => ∃ dk dv pk pv, s = ((i : Int), dk, dv, pk, pv) ∧ CntP eqI dirP dk dv (t.Nodes_.take i) ∧ CntP eqPl plP pk pv ((t.Nodes_.take i).drop 1) ∧ b = outO (scan (gT t.Nodes_ t.Next_) i (t.Nodes_.drop i))) t.Nodes_.length (big_lt (by omega)) (fun s b hJ => ?_) (fun i s b hi hJ => ?_) ⟨[], [], [], [], rfl, CntP.nil, by simp [CntP.nil], by simp⟩
 ·obtain ⟨dk, dv, pk, pv, rfl, _, _, rfl⟩ := hJ
  unfold tree_Right_L1
  simp only
  rw [lt_f]
  simp [scan, outO]
 ·obtain ⟨dk, dv, pk, pv, rfl, h1, h2, rfl⟩ := hJ
  rw [List.drop_eq_getElem_cons hi]
  rcases tree_right_body t i hi hl hm h1 h2 with ⟨hb, hr⟩ | ⟨hb, dk', dv', pk', pv', hr, h1', h2'⟩
  ·exact .inl (by rw [hr]; simp [scan, gT, hb, outO])
  ·exact .inr ⟨_, hr, dk', dv', pk', pv', rfl, h1', h2', by simp [scan, gT, hb]⟩
theorem scan_all {α : Type} {g : Nat → α → Option Bool} {p : Nat → α → Bool} (hg : ∀ i x, g i x = if p i x then none else some false) (l : List α) (k : Nat) : (scan g k l).getD true = true ↔ ∀ i x, l[i]? = some x → p (k + i) x = true := by
 cases hs : scan g k l with
 | none =>
  refine ⟨fun _ i x hx => ?_, fun _ => rfl⟩
  have := scan_none.1 hs i x hx
  rw [hg] at this
  cases hp : p (k + i) x with
  | true => rfl
  | false => rw [hp] at this; cases this
 | some r =>
  obtain ⟨i, x, hx, h1, _⟩ := scan_some hs
  rw [hg] at h1
  cases hp : p (k + i) x with
  | true => rw [hp] at h1; cases h1
  | false =>
   rw [hp] at h1
   obtain rfl : false = r := by cases h1; rfl
   refine ⟨fun h => (nomatch h), fun h => ?_⟩
   rw [h i x hx] at hp; cases hp
theorem tree_right_iff (t : api_Tree) (hl : t.Nodes_.length ≤ 1024) (hm : ∀ n ∈ t.Nodes_, n.Mode_ ≤ 9223372036854775807 ∧ n.Name_.length ≤ 9223372036854775807) : ∃ b, tree_Right t = some b ∧ (b = true ↔ OkT t.Nodes_ t.Next_) := by
 unfold tree_Right
 cases hc : ((decide ((t.Nodes_.length : Int) < 1)) || (decide ((t.Nodes_.length : Int) > 1024))) || (decide (t.Next_ > 1048576)) with
 | true =>
  refine ⟨false, cond_t rfl rfl, fun h => (nomatch h), fun h => ?_⟩
  obtain ⟨h1, h2, h3, _⟩ := OkT_iff.1 h
  simp only [Bool.or_eq_true, decide_eq_true_eq] at hc
  omega
 | false =>
  simp only [Bool.or_eq_false_iff, decide_eq_false_iff_not] at hc
  refine ⟨(scan (gT t.Nodes_ t.Next_) 0 t.Nodes_).getD true, cond_f rfl (scan_ret (tree_right_loop t hl hm) (fun _ => rfl) rfl), ?_⟩
  rw [scan_all (g := gT t.Nodes_ t.Next_) (p := tB t.Nodes_ t.Next_) (fun _ _ => rfl), OkT_iff]
  simp only [Nat.zero_add]
  have tk : ∀ i (n : api_Node), tB t.Nodes_ t.Next_ i n = true ↔ okNode n = true ∧ n.Id_ < t.Next_ ∧ (i = 0 ∨ (prevN t.Nodes_ i).Id_ < n.Id_) ∧ okAt t.Nodes_ i n = true := fun i n => by
   unfold tB
   simp only [Bool.and_eq_true, Bool.or_eq_true, decide_eq_true_eq, beq_iff_eq]
  have ok0 : ∀ n, okAt t.Nodes_ 0 n = true ↔ RootOK n := fun n => by
   unfold okAt RootOK
   simp only [beq_self_eq_true, cond_true, Bool.and_eq_true, beq_iff_eq]
  have okS : ∀ i n, 0 < i → (okAt t.Nodes_ i n = true ↔ okName n.Name_ = true ∧ (∃ p ∈ t.Nodes_.take i, p.Id_ = n.Parent_ ∧ hasI p.Mode_ 31 = true) ∧ ∀ c ∈ (t.Nodes_.take i).drop 1, samePl c n = false) := fun i n h0 => by
   unfold okAt
   rw [show (i == 0) = false by simp; omega]
   simp only [cond_false, Bool.and_eq_true, Bool.not_eq_true', List.any_eq_true, List.any_eq_false, plP_same, dirP, beq_iff_eq, Bool.not_eq_true]
   constructor
   ·rintro ⟨h1, ⟨p, p1, p2, p3⟩, h3⟩
    exact ⟨h1, ⟨p, p1, p2.symm, p3⟩, h3⟩
   ·rintro ⟨h1, ⟨p, p1, p2, p3⟩, h3⟩
    exact ⟨h1, ⟨p, p1, p2.symm, p3⟩, h3⟩
  constructor
  ·intro h
   refine ⟨by omega, by omega, by omega, fun n hn => (ok0 n).1 ((tk 0 n).1 (h 0 n hn)).2.2.2, fun n hn => ?_, fun n hn => ?_, fun i n h0 hn => ?_⟩
   ·obtain ⟨i, hi⟩ := List.mem_iff_getElem?.1 hn
    exact ((tk i n).1 (h i n hi)).1
   ·obtain ⟨i, hi⟩ := List.mem_iff_getElem?.1 hn
    exact ((tk i n).1 (h i n hi)).2.1
   ·obtain ⟨a, b, c, d⟩ := (tk i n).1 (h i n hn)
    exact ⟨c.resolve_left (by omega), (okS i n h0).1 d⟩
  ·rintro ⟨h1, h2, h3, h4, h5, h6, h7⟩ i n hn
   have hm := List.mem_iff_getElem?.2 ⟨_, hn⟩
   rcases Nat.eq_zero_or_pos i with rfl | h0
   ·exact (tk 0 n).2 ⟨h5 n hm, h6 n hm, .inl rfl, (ok0 n).2 (h4 n hn)⟩
   ·obtain ⟨a, b⟩ := h7 i n h0 hn
    exact (tk i n).2 ⟨h5 n hm, h6 n hm, .inr a, (okS i n h0).2 b⟩
def dirD (n c : api_Node) : Bool := c.Id_ == n.Parent_ && decide (c.Mode_ ≥ 2147483648)
theorem ref10_inner (t : api_Tree) (i : Nat) (hi : i < t.Nodes_.length) (hl : t.Nodes_.length ≤ 1024) :
  loopF (ref10_Right_L1 (i : Int) t) BIG (false, 0) = some (bif ((t.Nodes_.take i).drop 1).any (fun c => samePl c t.Nodes_[i]) then .ret false else .fall ((t.Nodes_.take i).any (dirD t.Nodes_[i]))) := by
 refine loopF_up (body := ref10_Right_L1 (i : Int) t) (J := fun j s b => j ≤ i ∧ s = ((t.Nodes_.take j).any (dirD t.Nodes_[i]), (j : Int)) ∧ ((t.Nodes_.take j).drop 1).any (fun c => samePl c t.Nodes_[i]) = false ∧ b = bif ((t.Nodes_.take i).drop 1).any (fun c => samePl c t.Nodes_[i]) then .ret false else .fall ((t.Nodes_.take i).any (dirD t.Nodes_[i]))) i (by show i < 18446744073709551616; omega) (fun s b hJ => ?_) (fun j s b hj hJ => ?_) ⟨Nat.zero_le _, rfl, by simp, rfl⟩
 ·obtain ⟨_, rfl, h2, rfl⟩ := hJ
  rw [h2]
  unfold ref10_Right_L1
  simp only
  rw [lt_f]; rfl
 ·obtain ⟨_, rfl, h2, rfl⟩ := hJ
  have hjl : j < t.Nodes_.length := by omega
  have htk : t.Nodes_.take (j + 1) = t.Nodes_.take j ++ [t.Nodes_[j]] := take_succ_get hjl
  have hany : (t.Nodes_.take (j + 1)).any (dirD t.Nodes_[i]) = ((t.Nodes_.take j).any (dirD t.Nodes_[i]) || dirD t.Nodes_[i] t.Nodes_[j]) := by rw [htk, List.any_append]; simp
  have hbody : ref10_Right_L1 (i : Int) t ((t.Nodes_.take j).any (dirD t.Nodes_[i]), (j : Int)) = bif (decide (0 < j) && samePl t.Nodes_[j] t.Nodes_[i]) then some (.done (.ret false)) else some (.next ((t.Nodes_.take (j + 1)).any (dirD t.Nodes_[i]), ((j + 1 : Nat) : Int))) := by
   unfold ref10_Right_L1
   simp only
   rw [lt_t hj, getI_lt hjl, getI_lt hi, w_succ (by omega), hany]
   have e0 : decide ((j : Int) > 0) = decide (0 < j) := by rw [Bool.eq_iff_iff]; simp
   rw [e0]
   unfold dirD samePl ref10_IsDir
   simp only [cond_true, Option.bind_some]
   cases (t.Nodes_.take j).any fun c => c.Id_ == t.Nodes_[i].Parent_ && decide (c.Mode_ ≥ 2147483648) <;> cases t.Nodes_[j].Id_ == t.Nodes_[i].Parent_ <;> cases decide (t.Nodes_[j].Mode_ ≥ 2147483648) <;> cases decide (0 < j) <;> cases t.Nodes_[j].Parent_ == t.Nodes_[i].Parent_ <;> cases t.Nodes_[j].Name_ == t.Nodes_[i].Name_ <;> rfl
  cases hd : decide (0 < j) && samePl t.Nodes_[j] t.Nodes_[i] with
  | true =>
   rw [hd] at hbody
   refine .inl ?_
   rw [hbody]
   rw [Bool.and_eq_true, decide_eq_true_eq] at hd
   have : ((t.Nodes_.take i).drop 1).any (fun c => samePl c t.Nodes_[i]) = true := List.any_eq_true.2 ⟨_, mem_take_drop.2 ⟨j, hd.1, hj, List.getElem?_eq_getElem hjl⟩, hd.2⟩
   rw [this]; rfl
  | false =>
   rw [hd] at hbody
   refine .inr ⟨_, hbody, by omega, rfl, ?_, rfl⟩
   rcases Nat.eq_zero_or_pos j with rfl | h0
   ·rw [htk]; simp
   ·rw [drop_take_succ hjl h0, List.any_append, h2]
    rw [show decide (0 < j) = true by simpa using h0, Bool.true_and] at hd
    simpa using hd
def rB (l : List api_Node) (i : Nat) (n : api_Node) : Bool := decide ((prevN l i).Id_ < n.Id_) && (decide (n.Parent_ < n.Id_) && (okName n.Name_ && (okNode n && (!(((l.take i).drop 1).any fun c => samePl c n) && (l.take i).any (dirD n)))))
def gR (l : List api_Node) (i : Nat) (n : api_Node) : Option Bool := if rB l i n then none else some false
theorem ref10_right_loop (t : api_Tree) (hl : t.Nodes_.length ≤ 1024) (h1 : 1 ≤ t.Nodes_.length) (hm : ∀ n ∈ t.Nodes_, n.Mode_ ≤ 9223372036854775807 ∧ n.Name_.length ≤ 9223372036854775807) :
  loopF (ref10_Right_L2 t) BIG 1 = some (outO (scan (gR t.Nodes_) 1 (t.Nodes_.drop 1))) := by
 refine loop_scan1 t.Nodes_ (gR t.Nodes_) 1 h1 (big_lt (by omega)) (fun i hi h0 => ?_) ?_
 ·have hmem := List.getElem_mem hi
  obtain ⟨hm1, hm2⟩ := hm _ hmem
  unfold ref10_Right_L2
  have hp : getI t.Nodes_ (w64 ((i : Int) - 1)) = some (prevN t.Nodes_ i) := prev_get zeroN h0 hi hl
  rw [lt_t hi, getI_lt hi, hp, w_succ (by omega)]
  simp only [cond_true, Option.bind_some]
  rw [ref03_valid _ hm2, ref10_fields_eq _ hm1]
  simp only [Option.bind_some]
  rw [ref10_inner t i hi hl]
  have e1 : decide (t.Nodes_[i].Id_ ≤ (prevN t.Nodes_ i).Id_) = !(decide ((prevN t.Nodes_ i).Id_ < t.Nodes_[i].Id_)) := by rw [Bool.eq_iff_iff]; simp
  have e2 : decide (t.Nodes_[i].Parent_ ≥ t.Nodes_[i].Id_) = !(decide (t.Nodes_[i].Parent_ < t.Nodes_[i].Id_)) := by rw [Bool.eq_iff_iff]; simp
  rw [e1, e2]
  unfold gR rB
  cases decide ((prevN t.Nodes_ i).Id_ < t.Nodes_[i].Id_) <;> cases decide (t.Nodes_[i].Parent_ < t.Nodes_[i].Id_) <;> cases okName t.Nodes_[i].Name_ <;> cases okNode t.Nodes_[i] <;> try rfl
  cases ((t.Nodes_.take i).drop 1).any fun c => samePl c t.Nodes_[i] <;> cases (t.Nodes_.take i).any (dirD t.Nodes_[i]) <;> rfl
 ·unfold ref10_Right_L2; rw [lt_f]; rfl
theorem last_lt {l : List api_Node} (hs : l.Pairwise fun a b => a.Id_ < b.Id_) {x : api_Node} (hx : l[l.length - 1]? = some x) (next : Int) : (∀ n ∈ l, n.Id_ < next) ↔ x.Id_ < next := by
 constructor
 ·exact fun h => h x (List.mem_iff_getElem?.2 ⟨_, hx⟩)
 ·intro h n hn
  obtain ⟨i, hi⟩ := List.mem_iff_getElem?.1 hn
  obtain ⟨h1, e1⟩ := List.getElem?_eq_some_iff.1 hi
  obtain ⟨h2, e2⟩ := List.getElem?_eq_some_iff.1 hx
  rcases Nat.lt_or_ge i (l.length - 1) with hlt | hge
  ·have := List.pairwise_iff_getElem.1 hs i (l.length - 1) h1 h2 hlt
   rw [e1, e2] at this
   omega
  ·obtain rfl : i = l.length - 1 := by omega
   rw [hi] at hx; cases hx; exact h
def rootD (r : api_Node) : Bool := r.Id_ == 1 && (r.Parent_ == 1 && (r.Name_ == [47] && (decide (2147483648 ≤ r.Mode_) && okNode r)))
theorem ref10_right_iff (t : api_Tree) (hl : t.Nodes_.length ≤ 1024) (hm : ∀ n ∈ t.Nodes_, n.Mode_ ≤ 9223372036854775807 ∧ n.Name_.length ≤ 9223372036854775807) : ∃ b, ref10_Right t = some b ∧ (b = true ↔ OkT t.Nodes_ t.Next_) := by
 rcases Nat.eq_zero_or_pos t.Nodes_.length with h0 | h0
 ·refine ⟨false, ?_, fun h => (nomatch h), fun h => ?_⟩
  ·unfold ref10_Right
   rw [show decide ((t.Nodes_.length : Int) < 1) = true by simp; omega]
   rfl
  ·have := (OkT_iff.1 h).1; omega
 ·obtain ⟨r, hr⟩ : ∃ r, t.Nodes_[0]? = some r := ⟨_, List.getElem?_eq_getElem h0⟩
  obtain ⟨z, hz⟩ : ∃ z, t.Nodes_[t.Nodes_.length - 1]? = some z := ⟨_, List.getElem?_eq_getElem (by omega)⟩
  have gr : getI t.Nodes_ 0 = some r := (getI_nat t.Nodes_ 0).trans hr
  have gz : getI t.Nodes_ (w64 ((t.Nodes_.length : Int) - 1)) = some z := by rw [w_pred h0 (by omega), getI_nat]; exact hz
  have hrm := List.mem_iff_getElem?.2 ⟨_, hr⟩
  have hlen : ((decide ((t.Nodes_.length : Int) < 1)) || (decide ((t.Nodes_.length : Int) > 1024))) = false := by simp; omega
  have ev : ref10_Right t = bif rootD r then (bif ((decide (t.Next_ ≤ z.Id_)) || (decide (t.Next_ > 1048576))) then some false else some ((scan (gR t.Nodes_) 1 (t.Nodes_.drop 1)).getD true)) else some false := by
   unfold ref10_Right
   rw [hlen, gr, gz]
   have e1 : decide (r.Mode_ < 2147483648) = !(decide (2147483648 ≤ r.Mode_)) := by rw [Bool.eq_iff_iff]; simp
   simp only [cond_false, Option.bind_some]
   rw [ref10_fields_eq _ (hm r hrm).1, e1]
   simp only [Option.bind_some]
   unfold rootD bne
   cases r.Id_ == 1 <;> cases r.Parent_ == 1 <;> cases r.Name_ == [47] <;> cases decide (2147483648 ≤ r.Mode_) <;> cases okNode r <;> try rfl
   cases hN : (decide (t.Next_ ≤ z.Id_)) || (decide (t.Next_ > 1048576)) with
   | true => rfl
   | false =>
    show (Option.bind (loopF (ref10_Right_L2 t) BIG 1) fun (wo3 : Out Unit Bool) => match wo3 with | .ret r3 => some r3 | .fall _ => some true) = some ((scan (gR t.Nodes_) 1 (t.Nodes_.drop 1)).getD true)
    exact scan_ret (ref10_right_loop t hl h0 hm) (fun _ => rfl) rfl
  have hroot : rootD r = true ↔ RootOK r ∧ okNode r = true := by
   unfold rootD RootOK
   simp only [Bool.and_eq_true, beq_iff_eq, decide_eq_true_eq]
   constructor
   ·rintro ⟨h1, h2, h3, h4, h5⟩
    have := isdir_eq (okNode_mode h5)
    exact ⟨⟨h1, h2, h3, by rw [← this]; simpa using h4⟩, h5⟩
   ·rintro ⟨⟨h1, h2, h3, h4⟩, h5⟩
    have := isdir_eq (okNode_mode h5)
    rw [h4] at this
    exact ⟨h1, h2, h3, by simpa using this, h5⟩
  rw [OkT_iff]
  cases hR : rootD r with
  | false =>
   refine ⟨false, by rw [ev, hR]; rfl, fun h => (nomatch h), fun ⟨_, _, _, h4, h5, _⟩ => ?_⟩
   rw [hroot.2 ⟨h4 r hr, h5 r hrm⟩] at hR; cases hR
  | true =>
   obtain ⟨hr1, hr2⟩ := hroot.1 hR
   cases hN : (decide (t.Next_ ≤ z.Id_)) || (decide (t.Next_ > 1048576)) with
   | true =>
    refine ⟨false, by rw [ev, hR, hN]; rfl, fun h => (nomatch h), fun ⟨_, _, h3, _, _, h6, _⟩ => ?_⟩
    have := h6 z (List.mem_iff_getElem?.2 ⟨_, hz⟩)
    simp only [Bool.or_eq_true, decide_eq_true_eq] at hN
    omega
   | false =>
    refine ⟨(scan (gR t.Nodes_) 1 (t.Nodes_.drop 1)).getD true, by rw [ev, hR, hN]; rfl, ?_⟩
    simp only [Bool.or_eq_false_iff, decide_eq_false_iff_not] at hN
    rw [scan_all (g := gR t.Nodes_) (p := rB t.Nodes_) (fun _ _ => rfl)]
    have rk : ∀ i (n : api_Node), rB t.Nodes_ i n = true ↔ (prevN t.Nodes_ i).Id_ < n.Id_ ∧ n.Parent_ < n.Id_ ∧ okName n.Name_ = true ∧ okNode n = true ∧ (∀ c ∈ (t.Nodes_.take i).drop 1, samePl c n = false) ∧ ∃ p ∈ t.Nodes_.take i, p.Id_ = n.Parent_ ∧ 2147483648 ≤ p.Mode_ := fun i n => by
     unfold rB
     simp only [Bool.and_eq_true, decide_eq_true_eq, Bool.not_eq_true', List.any_eq_true, List.any_eq_false, dirD, beq_iff_eq, Bool.not_eq_true, ge_iff_le]
    have nth : ∀ i n, (t.Nodes_.drop 1)[i]? = some n ↔ t.Nodes_[1 + i]? = some n := fun i n => by rw [List.getElem?_drop]
    constructor
    ·intro h
     have h' : ∀ i n, 0 < i → t.Nodes_[i]? = some n → rB t.Nodes_ i n = true := fun i n h0 hn => by
      have := h (i - 1) n ((nth _ _).2 (by rw [show 1 + (i - 1) = i by omega]; exact hn))
      rwa [show 1 + (i - 1) = i by omega] at this
     have flds : ∀ n ∈ t.Nodes_, okNode n = true := fun n hn => by
      obtain ⟨i, hi⟩ := List.mem_iff_getElem?.1 hn
      rcases Nat.eq_zero_or_pos i with rfl | h0
      ·rw [hr] at hi; cases hi; exact hr2
      ·exact ((rk i n).1 (h' i n h0 hi)).2.2.2.1
     refine ⟨h0, by omega, by omega, fun n hn => by rw [hr] at hn; cases hn; exact hr1, flds, ?_, fun i n h0 hn => ?_⟩
     ·exact (last_lt (srt_iff.2 fun i n h0 hn => ((rk i n).1 (h' i n h0 hn)).1) hz _).2 (by omega)
     ·obtain ⟨a, b, c, d, e, p, p1, p2, p3⟩ := (rk i n).1 (h' i n h0 hn)
      refine ⟨a, c, ⟨p, p1, p2, ?_⟩, e⟩
      rw [← isdir_eq (okNode_mode (flds p (List.mem_of_mem_take p1)))]
      simpa using p3
    ·intro h i n hn
     have ht := OkT_iff.2 h
     obtain ⟨_, _, _, _, h5, _, h7⟩ := h
     have hn' := (nth _ _).1 hn
     obtain ⟨a, b, ⟨p, p1, p2, p3⟩, d⟩ := h7 (1 + i) n (by omega) hn'
     refine (rk (1 + i) n).2 ⟨a, ?_, b, h5 n (List.mem_iff_getElem?.2 ⟨_, hn'⟩), d, p, p1, p2, ?_⟩
     ·obtain ⟨j, j1, j2⟩ := mem_take.1 p1
      rw [← p2]
      obtain ⟨q1, e1⟩ := List.getElem?_eq_some_iff.1 j2
      obtain ⟨q2, e2⟩ := List.getElem?_eq_some_iff.1 hn'
      have := List.pairwise_iff_getElem.1 ht.srt j (1 + i) q1 q2 j1
      rwa [e1, e2] at this
     ·rw [← isdir_eq (okNode_mode (h5 p (List.mem_of_mem_take p1)))] at p3
      simpa using p3
end Go.Proofs.YtfdmakpcmkbhhaaGreatDoor
namespace Go.Proofs.YtfdmakpcmkbhhaaGreatDoor
open Go.Rt Go.RowKit
theorem orI_comm (k : IntKind) (a b : Int) : orI k a b = orI k b a := by
 unfold orI
 rw [BitVec.or_comm]
def rot (x : Int) (n : Nat) : Int := orI .u32 (IntKind.u32.wrap (x * 2 ^ (32 - n))) (x.fdiv (2 ^ n))
theorem right2 (x : Int) : hash_right x 2 = some (rot x 2) := by kernel_rfl
theorem right6 (x : Int) : hash_right x 6 = some (rot x 6) := by kernel_rfl
theorem right7 (x : Int) : hash_right x 7 = some (rot x 7) := by kernel_rfl
theorem right11 (x : Int) : hash_right x 11 = some (rot x 11) := by kernel_rfl
theorem right13 (x : Int) : hash_right x 13 = some (rot x 13) := by kernel_rfl
theorem right17 (x : Int) : hash_right x 17 = some (rot x 17) := by kernel_rfl
theorem right18 (x : Int) : hash_right x 18 = some (rot x 18) := by kernel_rfl
theorem right19 (x : Int) : hash_right x 19 = some (rot x 19) := by kernel_rfl
theorem right22 (x : Int) : hash_right x 22 = some (rot x 22) := by kernel_rfl
theorem right25 (x : Int) : hash_right x 25 = some (rot x 25) := by kernel_rfl
theorem rotr_any (x : Int) (n : Int) (m : Nat) (h : ref14_rotr x n = some (orI .u32 (x.fdiv (2 ^ m)) (IntKind.u32.wrap (x * 2 ^ (32 - m))))) : ref14_rotr x n = some (rot x m) := by
 rw [h, orI_comm]
 rfl
theorem rotr2 (x : Int) : ref14_rotr x 2 = some (rot x 2) := rotr_any x 2 2 (by kernel_rfl)
theorem rotr6 (x : Int) : ref14_rotr x 6 = some (rot x 6) := rotr_any x 6 6 (by kernel_rfl)
theorem rotr7 (x : Int) : ref14_rotr x 7 = some (rot x 7) := rotr_any x 7 7 (by kernel_rfl)
theorem rotr11 (x : Int) : ref14_rotr x 11 = some (rot x 11) := rotr_any x 11 11 (by kernel_rfl)
theorem rotr13 (x : Int) : ref14_rotr x 13 = some (rot x 13) := rotr_any x 13 13 (by kernel_rfl)
theorem rotr17 (x : Int) : ref14_rotr x 17 = some (rot x 17) := rotr_any x 17 17 (by kernel_rfl)
theorem rotr18 (x : Int) : ref14_rotr x 18 = some (rot x 18) := rotr_any x 18 18 (by kernel_rfl)
theorem rotr19 (x : Int) : ref14_rotr x 19 = some (rot x 19) := rotr_any x 19 19 (by kernel_rfl)
theorem rotr22 (x : Int) : ref14_rotr x 22 = some (rot x 22) := rotr_any x 22 22 (by kernel_rfl)
theorem rotr25 (x : Int) : ref14_rotr x 25 = some (rot x 25) := rotr_any x 25 25 (by kernel_rfl)
theorem map_nthI (y : List Int) : (List.range y.length).map (nthI y) = y := by
 apply List.ext_getElem?
 intro i
 rw [List.getElem?_map]
 by_cases hi : i < y.length
 ·rw [List.getElem?_range hi, List.getElem?_eq_getElem hi]
  simp [nthI, hi]
 ·rw [List.getElem?_eq_none (by simpa using hi), List.getElem?_eq_none (by omega)]
  rfl
theorem l_of64 {y : List Int} (h : y.length = 64) : (Arr64_int.of y).l = y := by
 have h1 : (Arr64_int.of y).l = (List.range 64).map (nthI y) := rfl
 rw [h1, ← h, map_nthI]
theorem nthI_get {y : List Int} {i : Nat} (h : i < y.length) : getI y (i : Int) = some (nthI y i) := by
 rw [getI_lt h]
 simp [nthI, h]
def byteN (b : Str) (i : Nat) : Int := ((b.getD i 0).toNat : Int)
theorem byteI_byteN {b : Str} {i : Nat} (h : i < b.length) : byteI b (i : Int) = some (byteN b i) := by
 rw [byteI_lt h]
 simp [byteN, h]
def wordN (b : Str) (i : Nat) : Int := orI .u32 (orI .u32 (orI .u32 (IntKind.u32.wrap ((IntKind.u32.wrap (byteN b (4 * i))) * 2 ^ 24)) (IntKind.u32.wrap ((IntKind.u32.wrap (byteN b (4 * i + 1))) * 2 ^ 16))) (IntKind.u32.wrap ((IntKind.u32.wrap (byteN b (4 * i + 2))) * 2 ^ 8))) (IntKind.u32.wrap (byteN b (4 * i + 3)))
def wdHi (i : Nat) (l : List Int) : Int :=
 (IntKind.u32.wrap ((IntKind.u32.wrap ((IntKind.u32.wrap (nthI l (i - 16) + (xorI .u32 (xorI .u32 (rot (nthI l (i - 15)) 7) (rot (nthI l (i - 15)) 18)) ((nthI l (i - 15)).fdiv (2 ^ 3))))) + nthI l (i - 7))) + (xorI .u32 (xorI .u32 (rot (nthI l (i - 2)) 17) (rot (nthI l (i - 2)) 19)) ((nthI l (i - 2)).fdiv (2 ^ 10)))))
def wd (b : Str) (i : Nat) (l : List Int) : Int := if i < 16 then wordN b i else wdHi i l
theorem wd_hi {b : Str} {i : Nat} {l : List Int} (h : ¬ i < 16) : wd b i l = wdHi i l := if_neg h
def sched (b : Str) : Nat → List Int
 | 0 => []
 | i + 1 => sched b i ++ [wd b i (sched b i)]
theorem sched_len (b : Str) : ∀ i, (sched b i).length = i
 | 0 => rfl
 | i + 1 => by simp [sched, sched_len b i]
def schedA (b : Str) (i : Nat) : List Int := sched b i ++ List.replicate (64 - i) 0
theorem schedA_len (b : Str) {i : Nat} (h : i ≤ 64) : (schedA b i).length = 64 := by
 simp [schedA, sched_len]; omega
theorem schedA_nth (b : Str) {i j : Nat} (h : j < i) : nthI (schedA b i) j = nthI (sched b i) j := by
 have : j < (sched b i).length := by rw [sched_len]; exact h
 simp only [nthI, schedA, List.getD_eq_getElem?_getD]
 rw [List.getElem?_append_left this]
theorem schedA_set (b : Str) {i : Nat} (h : i < 64) : (schedA b i).set i (wd b i (sched b i)) = schedA b (i + 1) := by
 unfold schedA
 have e : 64 - i = (64 - (i + 1)) + 1 := by omega
 rw [List.set_append_right _ _ (by rw [sched_len]; exact Nat.le_refl _), sched_len, Nat.sub_self, e, List.replicate_succ, List.set_cons_zero, sched, List.append_assoc]
 rfl
theorem word_eq {b : Str} {i : Nat} (hb : b.length = 64) (hi : i < 16) : hash_word ((b.take 64).drop (4 * i)) = some (wordN b i) := by
 have ht : b.take 64 = b := by rw [← hb]; exact List.take_length
 rw [ht]
 unfold hash_word
 have hd : ∀ j : Nat, j < 4 → byteI (b.drop (4 * i)) (j : Int) = some (byteN b (4 * i + j)) := fun j hj => by
  rw [byteI_byteN (by rw [List.length_drop]; omega)]
  congr 1
  simp only [byteN, List.getD_eq_getElem?_getD, List.getElem?_drop]
 have h0 := hd 0 (by omega)
 have h1 := hd 1 (by omega)
 have h2 := hd 2 (by omega)
 have h3 := hd 3 (by omega)
 refine bind_eq h0 (bind_eq h1 (bind_eq h2 (bind_eq h3 rfl)))
theorem bound_eq {n i : Nat} (h : i < n) : boundI n (i : Int) = some () := by
 unfold boundI
 simp [h]
set_option maxRecDepth 100000 in
theorem schedule_eq {b : Str} (hb : b.length = 64) : hash_schedule b = some (Arr64_int.of (sched b 64)) := by
 unfold hash_schedule
 refine bind_eq (a := Arr64_int.of (sched b 64)) ?_ rfl
 have h64 : schedA b 64 = sched b 64 := by simp [schedA]
 rw [← h64]
 refine loop_traj (T := fun i => ((i : Int), Arr64_int.of (schedA b i))) 64 (by decide) (fun i hi => ?_) ?_
 ·unfold hash_schedule_L1
  have hl := l_of64 (schedA_len b (Nat.le_of_lt hi))
  have hset : setI (Arr64_int.of (schedA b i)).l (i : Int) (wd b i (sched b i)) = some (schedA b (i + 1)) := by
   rw [hl]
   unfold setI
   rw [if_pos ⟨by omega, by rw [schedA_len b (Nat.le_of_lt hi)]; omega⟩, Int.toNat_natCast, schedA_set b hi]
  refine cond_t (by simp; omega) ?_
  refine bind_eq (a := Arr64_int.of (schedA b (i + 1))) ?_ (by rw [w_succ (by omega)])
  by_cases h16 : i < 16
  ·refine cond_t (by simp; omega) ?_
   have e4 : w64 (4 * (i : Int)) = ((4 * i : Nat) : Int) := by rw [w64_eq ⟨by omega, by omega⟩]; omega
   refine bind_eq (a := (b.take 64).drop (4 * i)) ?_ (bind_eq (word_eq hb h16) (bind_eq (bound_eq hi) (bind_eq (a := schedA b (i + 1)) ?_ rfl)))
   ·rw [e4, subI_eq (by omega) (by omega) (by omega), Int.toNat_natCast, Int.toNat_natCast, hb]
   ·have : wd b i (sched b i) = wordN b i := by unfold wd; rw [if_pos h16]
    rw [← this]
    exact hset
  ·refine cond_f (by simp; omega) ?_
   have ek : ∀ k : Nat, k ≤ 16 → w64 ((i : Int) - (k : Int)) = ((i - k : Nat) : Int) := fun k hk => by rw [w64_eq ⟨by omega, by omega⟩]; omega
   have eg : ∀ k : Nat, 0 < k → k ≤ 16 → getI (Arr64_int.of (schedA b i)).l (w64 ((i : Int) - (k : Int))) = some (nthI (sched b i) (i - k)) := fun k h0 hk => by
    rw [ek k hk, hl, nthI_get (by rw [schedA_len b (Nat.le_of_lt hi)]; omega), schedA_nth b (by omega)]
   have eb : ∀ k : Nat, 0 < k → k ≤ 16 → boundI 64 (w64 ((i : Int) - (k : Int))) = some () := fun k h0 hk => by
    rw [ek k hk]
    exact bound_eq (by omega)
   refine bind_eq (eb 15 (by omega) (by omega)) (bind_eq (eg 15 (by omega) (by omega)) (bind_eq (eb 2 (by omega) (by omega)) (bind_eq (eg 2 (by omega) (by omega)) (bind_eq (right7 _) (bind_eq (right18 _) (bind_eq (right17 _) (bind_eq (right19 _) (bind_eq (eb 16 (by omega) (by omega)) (bind_eq (eg 16 (by omega) (by omega)) (bind_eq (eb 7 (by omega) (by omega)) (bind_eq (eg 7 (by omega) (by omega)) (bind_eq (bound_eq hi) (bind_eq (a := schedA b (i + 1)) ?_ rfl)))))))))))))
   rw [wd_hi h16] at hset
   exact hset
 ·unfold hash_schedule_L1
  exact cond_f (by simp) rfl
theorem room1 {α : Type} {n : Nat} {xs ys : List α} (h : (xs.length + ys.length) * n ≤ 140737488355328) (h2 : xs.length + ys.length ≤ 140737488355328) : room n xs ys = some (xs ++ ys) := room_eq (by omega) h
theorem ref_schedule_eq {b : Str} (hb : b.length = 64) : ref14_schedule b = some (sched b 64) := by
 unfold ref14_schedule
 refine bind_eq (a := sched b 16) ?_ (bind_eq (a := sched b 64) ?_ rfl)
 ·refine loop_traj (T := fun i => ((i : Int), sched b i)) 16 (by decide) (fun i hi => ?_) ?_
  ·unfold ref14_schedule_L1
   refine cond_t (by simp; omega) ?_
   have e4 : w64 (4 * (i : Int)) = ((4 * i : Nat) : Int) := by rw [w64_eq ⟨by omega, by omega⟩]; omega
   have ej : ∀ j : Nat, j < 4 → w64 (w64 (4 * (i : Int)) + (j : Int)) = ((4 * i + j : Nat) : Int) := fun j hj => by rw [e4, w64_eq ⟨by omega, by omega⟩]; omega
   have h0 : byteI b (w64 (4 * (i : Int))) = some (byteN b (4 * i)) := by rw [e4]; exact byteI_byteN (by omega)
   have hj : ∀ j : Nat, j < 4 → byteI b (w64 (w64 (4 * (i : Int)) + (j : Int))) = some (byteN b (4 * i + j)) := fun j hj => by rw [ej j hj]; exact byteI_byteN (by omega)
   refine bind_eq h0 (bind_eq (hj 1 (by omega)) (bind_eq (hj 2 (by omega)) (bind_eq (hj 3 (by omega)) (bind_eq (a := sched b (i + 1)) ?_ (by rw [w_succ (by omega)])))))
   rw [room1 (by simp [sched_len]; omega) (by simp [sched_len]; omega), sched]
   have : wd b i (sched b i) = wordN b i := by unfold wd; rw [if_pos hi]
   rw [this]
   rfl
  ·unfold ref14_schedule_L1
   exact cond_f (by simp) rfl
 ·refine loop_traj (T := fun k => (((16 + k : Nat) : Int), sched b (16 + k))) 48 (by decide) (fun k hk => ?_) ?_
  ·unfold ref14_schedule_L2
   refine cond_t (by simp; omega) ?_
   have ek : ∀ j : Nat, j ≤ 16 → w64 (((16 + k : Nat) : Int) - (j : Int)) = ((16 + k - j : Nat) : Int) := fun j hj => by rw [w64_eq ⟨by omega, by omega⟩]; omega
   have eg : ∀ j : Nat, 0 < j → j ≤ 16 → getI (sched b (16 + k)) (w64 (((16 + k : Nat) : Int) - (j : Int))) = some (nthI (sched b (16 + k)) (16 + k - j)) := fun j h0 hj => by
    rw [ek j hj, nthI_get (by rw [sched_len]; omega)]
   refine bind_eq (eg 15 (by omega) (by omega)) (bind_eq (eg 2 (by omega) (by omega)) (bind_eq (rotr7 _) (bind_eq (rotr18 _) (bind_eq (rotr17 _) (bind_eq (rotr19 _) (bind_eq (eg 16 (by omega) (by omega)) (bind_eq (eg 7 (by omega) (by omega)) (bind_eq (a := sched b (16 + (k + 1))) ?_ ?_))))))))
   ·rw [room1 (by simp [sched_len]; omega) (by simp [sched_len]; omega), ← Nat.add_assoc, sched]
    rw [wd_hi (by omega)]
    rfl
   ·show some (Step.next (w64 (((16 + k : Nat) : Int) + 1), _)) = _
    rw [w_succ (by omega)]
    rfl
  ·unfold ref14_schedule_L2
   exact cond_f (by simp) rfl
end Go.Proofs.YtfdmakpcmkbhhaaGreatDoor
namespace Go.Proofs.YtfdmakpcmkbhhaaGreatDoor
open Go.Rt Go.RowKit
theorem lt_big {n : Nat} (h : n < 9223372036854775808) : n < BIG := Nat.lt_trans h (by decide)
def t1N (W : List Int) (i : Nat) (s : hash_state) : Int := IntKind.u32.wrap ((IntKind.u32.wrap ((IntKind.u32.wrap ((IntKind.u32.wrap (s.a7_ + (xorI .u32 (xorI .u32 (rot s.a4_ 6) (rot s.a4_ 11)) (rot s.a4_ 25)))) + (xorI .u32 (andI .u32 s.a4_ s.a5_) (andI .u32 (xorI .u32 4294967295 s.a4_) s.a6_)))) + nthI glob0.l i)) + nthI W i)
def t2N (s : hash_state) : Int := IntKind.u32.wrap ((xorI .u32 (xorI .u32 (rot s.a0_ 2) (rot s.a0_ 13)) (rot s.a0_ 22)) + (xorI .u32 (xorI .u32 (andI .u32 s.a0_ s.a1_) (andI .u32 s.a0_ s.a2_)) (andI .u32 s.a1_ s.a2_)))
def rnd (W : List Int) (i : Nat) (s : hash_state) : hash_state := hash_state.mk (IntKind.u32.wrap (t1N W i s + t2N s)) s.a0_ s.a1_ s.a2_ (IntKind.u32.wrap (s.a3_ + t1N W i s)) s.a4_ s.a5_ s.a6_
def rnds (W : List Int) (s : hash_state) : Nat → hash_state
 | 0 => s
 | i + 1 => rnd W i (rnds W s i)
theorem glob_len : glob0.l.length = 64 := by kernel_rfl
def mixS (s : hash_state) (p : Str) : hash_state :=
 let v := rnds (sched p 64) s 64
 hash_state.mk (IntKind.u32.wrap (s.a0_ + v.a0_)) (IntKind.u32.wrap (s.a1_ + v.a1_)) (IntKind.u32.wrap (s.a2_ + v.a2_)) (IntKind.u32.wrap (s.a3_ + v.a3_)) (IntKind.u32.wrap (s.a4_ + v.a4_)) (IntKind.u32.wrap (s.a5_ + v.a5_)) (IntKind.u32.wrap (s.a6_ + v.a6_)) (IntKind.u32.wrap (s.a7_ + v.a7_))
theorem mix2_eq (v s : hash_state) : loopF (hash_mix_L2 v) BIG (0, s) = some (hash_state.mk (IntKind.u32.wrap (s.a0_ + v.a0_)) (IntKind.u32.wrap (s.a1_ + v.a1_)) (IntKind.u32.wrap (s.a2_ + v.a2_)) (IntKind.u32.wrap (s.a3_ + v.a3_)) (IntKind.u32.wrap (s.a4_ + v.a4_)) (IntKind.u32.wrap (s.a5_ + v.a5_)) (IntKind.u32.wrap (s.a6_ + v.a6_)) (IntKind.u32.wrap (s.a7_ + v.a7_))) := by
 cases v
 cases s
 kernel_rfl
theorem mix_eq {p : Str} (hp : p.length = 64) (s : hash_state) : hash_mix s p = some (mixS s p) := by
 unfold hash_mix
 have hW : (Arr64_int.of (sched p 64)).l = sched p 64 := l_of64 (sched_len p 64)
 refine bind_eq (schedule_eq hp) (bind_eq (a := rnds (sched p 64) s 64) ?_ (bind_eq (mix2_eq _ _) rfl))
 refine loop_traj (T := fun i => ((i : Int), rnds (sched p 64) s i)) 64 (by decide) (fun i hi => ?_) ?_
 ·unfold hash_mix_L1
  refine cond_t (by simp; omega) ?_
  refine bind_eq (right6 _) (bind_eq (right11 _) (bind_eq (right25 _) (bind_eq (bound_eq hi) (bind_eq (nthI_get (by rw [glob_len]; exact hi)) (bind_eq (bound_eq hi) (bind_eq (a := nthI (sched p 64) i) ?_ (bind_eq (right2 _) (bind_eq (right13 _) (bind_eq (right22 _) ?_)))))))))
  ·rw [hW]
   exact nthI_get (by rw [sched_len]; exact hi)
  ·rw [w_succ (by omega)]
   rfl
 ·unfold hash_mix_L1
  exact cond_f (by simp) rfl
def tupN (s : hash_state) (i : Nat) (K W : List Int) : Int × Int × Int × Int × Int × Int × Int × Int × Int × (List Int) × (List Int) := (s.a0_, s.a1_, s.a2_, s.a3_, s.a4_, s.a5_, s.a6_, s.a7_, (i : Int), K, W)
theorem block_eq {p : Str} (hp : p.length = 64) (s : hash_state) : ref14_block s.l p = some (mixS s p).l := by
 unfold ref14_block
 refine bind_eq (a := glob0.l) (by kernel_rfl) (bind_eq (ref_schedule_eq hp) (bind_eq (a := s.a0_) rfl (bind_eq (a := s.a1_) rfl (bind_eq (a := s.a2_) rfl (bind_eq (a := s.a3_) rfl (bind_eq (a := s.a4_) rfl (bind_eq (a := s.a5_) rfl (bind_eq (a := s.a6_) rfl (bind_eq (a := s.a7_) rfl (bind_eq (a := let v := rnds (sched p 64) s 64; (v.a0_, v.a1_, v.a2_, v.a3_, v.a4_, v.a5_, v.a6_, v.a7_)) ?_ (bind_eq (a := s.a0_) rfl (bind_eq (a := s.a1_) rfl (bind_eq (a := s.a2_) rfl (bind_eq (a := s.a3_) rfl (bind_eq (a := s.a4_) rfl (bind_eq (a := s.a5_) rfl (bind_eq (a := s.a6_) rfl (bind_eq (a := s.a7_) rfl rfl))))))))))))))))))
 refine loop_traj (T := fun i => tupN (rnds (sched p 64) s i) i glob0.l (sched p 64)) 64 (by decide) (fun i hi => ?_) ?_
 ·unfold ref14_block_L1 tupN
  refine cond_t (by simp; omega) ?_
  refine bind_eq (rotr6 _) (bind_eq (rotr11 _) (bind_eq (rotr25 _) (bind_eq (nthI_get (by rw [glob_len]; exact hi)) (bind_eq (nthI_get (by rw [sched_len]; exact hi)) (bind_eq (rotr2 _) (bind_eq (rotr13 _) (bind_eq (rotr22 _) ?_)))))))
  simp only [w_succ (show i < 9223372036854775807 by omega)]
  rfl
 ·unfold ref14_block_L1 tupN
  exact cond_f (by simp) rfl
theorem u8_toNat (b : UInt8) : UInt8.ofNat ((b.toNat : Int)).toNat = b := by simp
theorem bytesS_strI (s : Str) : bytesS (strI s) = s := by
 unfold bytesS strI
 rw [List.map_map]
 conv => rhs; rw [← List.map_id s]
 exact List.map_congr_left fun b _ => u8_toNat b
theorem bytesS_append (a b : List Int) : bytesS (a ++ b) = bytesS a ++ bytesS b := List.map_append
theorem bytesS_len (a : List Int) : (bytesS a).length = a.length := List.length_map _
theorem strI_len (s : Str) : (strI s).length = s.length := List.length_map _
def zerosN (n : Nat) : Nat := (119 - n % 64) % 64
theorem zeros_mod (n : Nat) : (n + zerosN n) % 64 = 55 := by unfold zerosN; omega
theorem zeros_lt (n : Nat) {k : Nat} (h : k < zerosN n) : (n + k) % 64 ≠ 55 := by unfold zerosN at h; omega
def lenL (n : Nat) : List Int := (List.range 8).map fun j => IntKind.u8.wrap ((IntKind.u64.wrap (8 * (IntKind.u64.wrap (n : Int)))).fdiv (2 ^ (56 - 8 * j)))
def padL (s : Str) : List Int := strI s ++ [128] ++ List.replicate (zerosN s.length) 0
def padS (s : Str) : Str := bytesS (padL s ++ lenL s.length)
theorem lenL_take (n : Nat) {k : Nat} (hk : k < 8) : (lenL n).take (k + 1) = (lenL n).take k ++ [IntKind.u8.wrap ((IntKind.u64.wrap (8 * (IntKind.u64.wrap (n : Int)))).fdiv (2 ^ (56 - 8 * k)))] := by
 rw [List.take_add_one]
 simp [lenL, hk]
theorem padL_len (s : Str) : (padL s).length = s.length + 1 + zerosN s.length := by
 simp [padL, strI_len]
 omega
theorem padS_len (s : Str) : (padS s).length = s.length + 9 + zerosN s.length := by
 unfold padS
 rw [bytesS_len, List.length_append, padL_len]
 simp [lenL]
 omega
theorem padS_mod (s : Str) : (padS s).length % 64 = 0 := by
 rw [padS_len]
 have := zeros_mod s.length
 omega
theorem tmod64 (n : Nat) : ((n : Int).tmod 64 != 56) = decide (n % 64 ≠ 56) := by
 have : (n : Int).tmod 64 = ((n % 64 : Nat) : Int) := by rw [Int.tmod_eq_emod_of_nonneg (by omega)]; rfl
 rw [this, Bool.eq_iff_iff]
 simp only [bne_iff_ne, ne_eq, decide_eq_true_eq]
 omega
theorem pad_eq (s : Str) (hs : s.length < 1099511627776) : hash_pad s = some (padS s) := by
 have hz : zerosN s.length < 64 := by unfold zerosN; omega
 unfold hash_pad
 refine bind_eq (a := strI s) (by rw [room1 (by simp [strI_len]; omega) (by simp [strI_len]; omega)]; rfl) (bind_eq (a := strI s ++ [128]) (room1 (by simp [strI_len]; omega) (by simp [strI_len]; omega)) (bind_eq (a := padL s) ?_ (bind_eq (a := padL s ++ lenL s.length) ?_ rfl)))
 ·have h0 : strI s ++ [128] = strI s ++ [128] ++ List.replicate 0 (0 : Int) := by simp
  rw [h0]
  refine loop_traj (T := fun k => strI s ++ [128] ++ List.replicate k 0) (zerosN s.length) (Nat.lt_trans hz (by decide)) (fun k hk => ?_) ?_
  ·unfold hash_pad_L1
   have hl : (strI s ++ [128] ++ List.replicate k (0 : Int)).length = s.length + 1 + k := by simp [strI_len]; omega
   refine cond_t ?_ (bind_eq (a := strI s ++ [128] ++ List.replicate (k + 1) 0) ?_ rfl)
   ·rw [hl, tmod64]
    have := zeros_lt s.length hk
    simp only [decide_eq_true_eq]
    omega
   ·rw [room1 (by rw [hl]; simp; omega) (by rw [hl]; simp; omega), List.replicate_succ', List.append_assoc]
  ·unfold hash_pad_L1
   refine cond_f ?_ rfl
   have hl : (strI s ++ [128] ++ List.replicate (zerosN s.length) (0 : Int)).length = s.length + 1 + zerosN s.length := by simp [strI_len]; omega
   rw [hl, tmod64]
   have := zeros_mod s.length
   simp only [decide_eq_false_iff_not]
   omega
 ·have h0 : padL s = padL s ++ (lenL s.length).take 0 := by simp
  have h1 : lenL s.length = (lenL s.length).take 8 := by rw [List.take_of_length_le (by simp [lenL])]
  rw [h1]
  refine Eq.trans ?_ (loop_traj (body := hash_pad_L2 s) (T := fun k => ((56 : Int) - 8 * (k : Int), padL s ++ (lenL s.length).take k)) 8 (by decide) (fun k hk => ?_) ?_)
  ·rw [List.take_zero, List.append_nil]
   rfl
  ·unfold hash_pad_L2
   refine cond_t (by simp; omega) (bind_eq (a := (IntKind.u64.wrap (8 * (IntKind.u64.wrap (s.length : Int)))).fdiv (2 ^ (56 - 8 * k))) ?_ (bind_eq (a := padL s ++ (lenL s.length).take (k + 1)) ?_ ?_))
   ·rw [shrI_eq (by show (0 : Int) ≤ 56 - 8 * (k : Int); omega) (by show (56 : Int) - 8 * (k : Int) ≤ (64 : Nat); omega)]
    congr 3
    show ((56 : Int) - 8 * (k : Int)).toNat = _
    omega
   ·have hl := padL_len s
    have hk8 : ((lenL s.length).take k).length ≤ 8 := by simp [lenL]; omega
    rw [room1 (by rw [List.length_append, hl]; simp only [List.length_cons, List.length_nil]; omega) (by rw [List.length_append, hl]; simp only [List.length_cons, List.length_nil]; omega), lenL_take _ hk, List.append_assoc]
   ·show some (Step.next (w64 ((56 : Int) - 8 * (k : Int) - 8), _)) = _
    rw [w64_eq ⟨by omega, by omega⟩]
    congr 3
    omega
  ·unfold hash_pad_L2
   exact cond_f (by simp) rfl
theorem big8 (x : Int) : ref14_big x 8 = some (let q := fun y : Int => IntKind.u64.wrap (y.tdiv 256); let b := fun y : Int => IntKind.u8.wrap (y.tmod 256); bytesS [b (q (q (q (q (q (q (q x))))))), b (q (q (q (q (q (q x)))))), b (q (q (q (q (q x))))), b (q (q (q (q x)))), b (q (q (q x))), b (q (q x)), b (q x), b x]) := by kernel_rfl
theorem big4 (x : Int) : ref14_big x 4 = some (let q := fun y : Int => IntKind.u64.wrap (y.tdiv 256); let b := fun y : Int => IntKind.u8.wrap (y.tmod 256); bytesS [b (q (q (q x))), b (q (q x)), b (q x), b x]) := by kernel_rfl
theorem q_eq {x : Int} (h0 : 0 ≤ x) (h : x < 18446744073709551616) : IntKind.u64.wrap (x.tdiv 256) = x / 256 := by
 rw [Int.tdiv_eq_ediv_of_nonneg h0, wu64]
 omega
theorem b_eq {x : Int} (h0 : 0 ≤ x) : IntKind.u8.wrap (x.tmod 256) = x % 256 := by
 rw [Int.tmod_eq_emod_of_nonneg h0, wu8]
 omega
theorem fdiv_pos (x : Int) (n : Nat) : x.fdiv (2 ^ n) = x / 2 ^ n := Int.fdiv_eq_ediv_of_nonneg _ (Int.le_of_lt (Int.pow_pos (by decide)))
theorem big8_eq {x : Int} (h0 : 0 ≤ x) (h : x < 18446744073709551616) : ref14_big x 8 = some (bytesS ((List.range 8).map fun j => IntKind.u8.wrap (x.fdiv (2 ^ (56 - 8 * j))))) := by
 have hd : ∀ y : Int, 0 ≤ y → y < 18446744073709551616 → 0 ≤ y / 256 ∧ y / 256 < 18446744073709551616 := fun y h1 h2 => by omega
 have a1 := hd x h0 h
 have a2 := hd _ a1.1 a1.2
 have a3 := hd _ a2.1 a2.2
 have a4 := hd _ a3.1 a3.2
 have a5 := hd _ a4.1 a4.2
 have a6 := hd _ a5.1 a5.2
 have a7 := hd _ a6.1 a6.2
 rw [big8]
 simp only [q_eq h0 h, q_eq a1.1 a1.2, q_eq a2.1 a2.2, q_eq a3.1 a3.2, q_eq a4.1 a4.2, q_eq a5.1 a5.2, q_eq a6.1 a6.2, b_eq h0, b_eq a1.1, b_eq a2.1, b_eq a3.1, b_eq a4.1, b_eq a5.1, b_eq a6.1, b_eq a7.1]
 have e : ((List.range 8).map fun j => IntKind.u8.wrap (x.fdiv (2 ^ (56 - 8 * j)))) = [x / 72057594037927936 % 256, x / 281474976710656 % 256, x / 1099511627776 % 256, x / 4294967296 % 256, x / 16777216 % 256, x / 65536 % 256, x / 256 % 256, x / 1 % 256] := by
  simp only [wu8, fdiv_pos]
  rfl
 rw [e]
 have e2 : x / 256 / 256 = x / 65536 := by omega
 have e3 : x / 65536 / 256 = x / 16777216 := by omega
 have e4 : x / 16777216 / 256 = x / 4294967296 := by omega
 have e5 : x / 4294967296 / 256 = x / 1099511627776 := by omega
 have e6 : x / 1099511627776 / 256 = x / 281474976710656 := by omega
 have e7 : x / 281474976710656 / 256 = x / 72057594037927936 := by omega
 simp only [e2, e3, e4, e5, e6, e7, Int.ediv_one]
theorem padded_eq (s : Str) (hs : s.length < 1099511627776) : ref14_padded s = some (padS s) := by
 have hz : zerosN s.length < 64 := by unfold zerosN; omega
 have hlen : IntKind.u64.wrap ((IntKind.u64.wrap (s.length : Int)) * 8) = IntKind.u64.wrap (8 * (IntKind.u64.wrap (s.length : Int))) := by rw [Int.mul_comm]
 have hP : bytesS (padL s) = s ++ [128] ++ List.replicate (zerosN s.length) 0 := by
  unfold padL
  rw [bytesS_append, bytesS_append, bytesS_strI]
  congr 1
  simp [bytesS]
 have hl : ∀ k : Nat, (s ++ [128] ++ List.replicate k (0 : UInt8)).length = s.length + 1 + k := fun k => by simp; omega
 unfold ref14_padded
 refine bind_eq (a := s ++ [128]) (cat_eq (by simp; omega)) (bind_eq (a := bytesS (padL s)) ?_ (bind_eq (a := bytesS (lenL s.length)) ?_ (bind_eq (a := padS s) ?_ rfl)))
 ·rw [hP]
  rw [show loopF ref14_padded_L1 BIG (s ++ [128]) = loopF ref14_padded_L1 BIG (s ++ [128] ++ List.replicate 0 (0 : UInt8)) by simp]
  refine loop_traj (T := fun k => s ++ [128] ++ List.replicate k (0 : UInt8)) (zerosN s.length) (Nat.lt_trans hz (by decide)) (fun k hk => ?_) ?_
  ·unfold ref14_padded_L1
   refine cond_t ?_ (bind_eq (a := s ++ [128] ++ List.replicate (k + 1) (0 : UInt8)) ?_ rfl)
   ·rw [hl, tmod64]
    have := zeros_lt s.length hk
    simp only [decide_eq_true_eq]
    omega
   ·rw [cat_eq (by rw [hl]; simp; omega), List.replicate_succ', List.append_assoc]
  ·unfold ref14_padded_L1
   refine cond_f ?_ rfl
   rw [hl, tmod64]
   have := zeros_mod s.length
   simp only [decide_eq_false_iff_not]
   omega
 ·rw [hlen]
  have hb : 0 ≤ IntKind.u64.wrap (8 * (IntKind.u64.wrap (s.length : Int))) ∧ IntKind.u64.wrap (8 * (IntKind.u64.wrap (s.length : Int))) < 18446744073709551616 := by
   rw [wu64]
   omega
  rw [big8_eq hb.1 hb.2]
  rfl
 ·unfold padS
  rw [bytesS_append]
  refine cat_eq ?_
  rw [bytesS_len, bytesS_len, padL_len]
  simp [lenL]
  omega
def init : hash_state := hash_state.mk 1779033703 3144134277 1013904242 2773480762 1359893119 2600822924 528734635 1541459225
def sums (t : Str) : Nat → hash_state
 | 0 => init
 | k + 1 => mixS (sums t k) ((t.drop (64 * k)).take 64)
def outL (h : hash_state) : List Int := h.l.flatMap fun x => [IntKind.u8.wrap (x.fdiv (2 ^ 24)), IntKind.u8.wrap (x.fdiv (2 ^ 16)), IntKind.u8.wrap (x.fdiv (2 ^ 8)), IntKind.u8.wrap x]
def shaS (s : Str) : Str := bytesS (outL (sums (padS s) ((padS s).length / 64)))
theorem outL_len (h : hash_state) : (outL h).length = 32 := rfl
theorem shaS_len (s : Str) : (shaS s).length = 32 := by
 unfold shaS
 rw [bytesS_len, outL_len]
theorem out_eq (h : hash_state) : loopF (hash_Sum_L2 h) BIG (0, []) = some (outL h) := by
 cases h
 kernel_rfl
theorem Sum_eq (s : Str) (hs : s.length < 1099511627776) : hash_Sum s = some (shaS s) := by
 have hm := padS_mod s
 have hl : (padS s).length < 1099511627900 := by
  rw [padS_len]
  have hz : zerosN s.length < 64 := by unfold zerosN; omega
  omega
 unfold hash_Sum
 refine bind_eq (pad_eq s hs) (bind_eq (a := sums (padS s) ((padS s).length / 64)) ?_ (bind_eq (a := List.replicate 32 0) (by kernel_rfl) (bind_eq (out_eq _) rfl)))
 generalize padS s = t at *
 have h0 : (t, hash_state.mk 1779033703 3144134277 1013904242 2773480762 1359893119 2600822924 528734635 1541459225) = (t.drop (64 * 0), sums t 0) := by simp [sums, init]
 rw [h0]
 refine loop_traj (T := fun k => (t.drop (64 * k), sums t k)) (t.length / 64) (lt_big (by omega)) (fun k hk => ?_) ?_
 ·unfold hash_Sum_L1
  have hk' : 64 * k + 64 ≤ t.length := by omega
  have hd : (t.drop (64 * k)).length = t.length - 64 * k := List.length_drop
  refine cond_t ?_ (bind_eq (a := (t.drop (64 * k)).take 64) ?_ (bind_eq (mix_eq (by rw [List.length_take, hd]; omega) _) (bind_eq (a := t.drop (64 * (k + 1))) ?_ rfl)))
  ·have : t.drop (64 * k) ≠ [] := fun e => by rw [e] at hd; simp at hd; omega
   cases h : t.drop (64 * k) with
   | nil => exact absurd h this
   | cons x l => rfl
  ·show subI (t.drop (64 * k)) 0 64 = _
   rw [subI_eq (by omega) (by omega) (by omega)]
   rfl
  ·show subI (t.drop (64 * k)) 64 ((t.drop (64 * k)).length : Int) = _
   rw [subI_eq (by omega) (by omega) (by omega), Int.toNat_natCast, List.take_length]
   show some ((t.drop (64 * k)).drop 64) = _
   rw [List.drop_drop]
   rfl
 ·unfold hash_Sum_L1
  have : t.drop (64 * (t.length / 64)) = [] := List.drop_of_length_le (by omega)
  rw [this]
  exact cond_f rfl rfl
theorem word_bound (h : hash_state) (p : Str) : ∀ x ∈ (mixS h p).l, 0 ≤ x ∧ x < 4294967296 := by
 have hw : ∀ n : Int, 0 ≤ IntKind.u32.wrap n ∧ IntKind.u32.wrap n < 4294967296 := fun n => by
  rw [IntKind.wrap_u32]
  omega
 intro x hx
 simp only [mixS, hash_state.l, List.mem_cons, List.not_mem_nil, or_false] at hx
 rcases hx with rfl | rfl | rfl | rfl | rfl | rfl | rfl | rfl <;> exact hw _
theorem sums_bound (t : Str) : ∀ k, ∀ x ∈ (sums t k).l, 0 ≤ x ∧ x < 4294967296
 | 0 => by
  intro x hx
  simp only [sums, init, hash_state.l, List.mem_cons, List.not_mem_nil, or_false] at hx
  omega
 | k + 1 => word_bound _ _
theorem big4_eq {x : Int} (h0 : 0 ≤ x) (h : x < 4294967296) : ref14_big (IntKind.u64.wrap x) 4 = some (bytesS [IntKind.u8.wrap (x.fdiv (2 ^ 24)), IntKind.u8.wrap (x.fdiv (2 ^ 16)), IntKind.u8.wrap (x.fdiv (2 ^ 8)), IntKind.u8.wrap x]) := by
 have hx : IntKind.u64.wrap x = x := by rw [wu64]; omega
 have hd : ∀ y : Int, 0 ≤ y → y < 18446744073709551616 → 0 ≤ y / 256 ∧ y / 256 < 18446744073709551616 := fun y h1 h2 => by omega
 have a1 := hd x h0 (by omega)
 have a2 := hd _ a1.1 a1.2
 have a3 := hd _ a2.1 a2.2
 rw [hx, big4]
 simp only [q_eq h0 (show x < 18446744073709551616 by omega), q_eq a1.1 a1.2, q_eq a2.1 a2.2, b_eq h0, b_eq a1.1, b_eq a2.1, b_eq a3.1]
 have e : [IntKind.u8.wrap (x.fdiv (2 ^ 24)), IntKind.u8.wrap (x.fdiv (2 ^ 16)), IntKind.u8.wrap (x.fdiv (2 ^ 8)), IntKind.u8.wrap x] = [x / 16777216 % 256, x / 65536 % 256, x / 256 % 256, x % 256] := by
  simp only [wu8, fdiv_pos]
  rfl
 rw [e]
 have e2 : x / 256 / 256 = x / 65536 := by omega
 have e3 : x / 65536 / 256 = x / 16777216 := by omega
 simp only [e2, e3]
theorem ref_Sum_eq (s : Str) (hs : s.length < 1099511627776) : ref14_Sum s = some (shaS s) := by
 have hm := padS_mod s
 have hl : (padS s).length < 1099511627900 := by
  rw [padS_len]
  have hz : zerosN s.length < 64 := by unfold zerosN; omega
  omega
 unfold ref14_Sum shaS
 refine bind_eq (padded_eq s hs) ?_
 generalize padS s = t at *
 refine bind_eq (a := (sums t (t.length / 64)).l) ?_ (bind_eq (a := bytesS (outL (sums t (t.length / 64)))) ?_ rfl)
 ·refine loop_traj (T := fun k => (((64 * k : Nat) : Int), (sums t k).l)) (t.length / 64) (lt_big (by omega)) (fun k hk => ?_) ?_
  ·unfold ref14_Sum_L1
   have e64 : w64 (((64 * k : Nat) : Int) + 64) = ((64 * (k + 1) : Nat) : Int) := by rw [w64_eq ⟨by omega, by omega⟩]; omega
   refine cond_t (by simp; omega) (bind_eq (a := (t.drop (64 * k)).take 64) ?_ (bind_eq (block_eq (by rw [List.length_take, List.length_drop]; omega) _) (by rw [e64]; rfl)))
   show subI t ((64 * k : Nat) : Int) (w64 (((64 * k : Nat) : Int) + 64)) = _
   rw [e64, subI_eq (by omega) (by omega) (by omega), Int.toNat_natCast, Int.toNat_natCast, List.drop_take]
   congr 2
   omega
  ·unfold ref14_Sum_L1
   exact cond_f (by simp; omega) rfl
 ·have hb := sums_bound t (t.length / 64)
  generalize sums t (t.length / 64) = h at *
  refine loop_traj (T := fun k => (bytesS ((h.l.take k).flatMap fun x => [IntKind.u8.wrap (x.fdiv (2 ^ 24)), IntKind.u8.wrap (x.fdiv (2 ^ 16)), IntKind.u8.wrap (x.fdiv (2 ^ 8)), IntKind.u8.wrap x]), (k : Int), h.l)) 8 (by decide) (fun k hk => ?_) ?_
  ·unfold ref14_Sum_L2
   have hl8 : h.l.length = 8 := rfl
   have hk8 : k < h.l.length := by omega
   have hx := hb h.l[k] (List.getElem_mem hk8)
   refine cond_t (by simp; omega) (bind_eq (getI_lt hk8) (bind_eq (big4_eq hx.1 hx.2) (bind_eq (a := bytesS ((h.l.take (k + 1)).flatMap fun x => [IntKind.u8.wrap (x.fdiv (2 ^ 24)), IntKind.u8.wrap (x.fdiv (2 ^ 16)), IntKind.u8.wrap (x.fdiv (2 ^ 8)), IntKind.u8.wrap x])) ?_ (by rw [w_succ (by omega)]))))
   rw [List.take_add_one, List.getElem?_eq_getElem hk8, List.flatMap_append, bytesS_append]
   have hle : (bytesS ((h.l.take k).flatMap fun x => [IntKind.u8.wrap (x.fdiv (2 ^ 24)), IntKind.u8.wrap (x.fdiv (2 ^ 16)), IntKind.u8.wrap (x.fdiv (2 ^ 8)), IntKind.u8.wrap x])).length ≤ 32 := by
    rw [bytesS_len]
    have hf : ∀ l : List Int, (l.flatMap fun x => [IntKind.u8.wrap (x.fdiv (2 ^ 24)), IntKind.u8.wrap (x.fdiv (2 ^ 16)), IntKind.u8.wrap (x.fdiv (2 ^ 8)), IntKind.u8.wrap x]).length = 4 * l.length := fun l => by
     induction l with
     | nil => rfl
     | cons a l ih => rw [List.flatMap_cons, List.length_append, ih]; simp; omega
    rw [hf, List.length_take]
    omega
   rw [cat_eq (by
    have h4 : (bytesS [IntKind.u8.wrap (h.l[k].fdiv (2 ^ 24)), IntKind.u8.wrap (h.l[k].fdiv (2 ^ 16)), IntKind.u8.wrap (h.l[k].fdiv (2 ^ 8)), IntKind.u8.wrap h.l[k]]).length = 4 := rfl
    exact Nat.le_trans (Nat.add_le_add hle (Nat.le_of_eq h4)) (by decide))]
   rfl
  ·unfold ref14_Sum_L2
   refine cond_f (by simp) ?_
   rfl
end Go.Proofs.YtfdmakpcmkbhhaaGreatDoor
namespace Go.Proofs.YtfdmakpcmkbhhaaGreatDoor
open Go.Rt Go.RowKit
def scoreS (k : Int) (d : Str) : Str := shaS (bytesS [IntKind.u8.wrap k] ++ d)
theorem scoreS_len (k : Int) (d : Str) : (scoreS k d).length = 32 := shaS_len _
theorem Score_eq (k : Int) {d : Str} (hd : d.length ≤ 1073741824) : hash_Score k d = some (scoreS k d) := by
 unfold hash_Score
 have h1 : (bytesS [IntKind.u8.wrap k]).length = 1 := rfl
 exact bind_eq (cat_eq (by rw [h1]; omega)) (bind_eq (Sum_eq _ (by rw [List.length_append, h1]; omega)) rfl)
theorem ref_Score_eq {k : Int} (h0 : 0 ≤ k) (h4 : k < 256) {d : Str} (hd : d.length ≤ 1073741824) : ref14_Score k d = some (scoreS k d) := by
 unfold ref14_Score
 have e : (w64 (k.tmod 256 + 256)).tmod 256 = k := by
  rw [Int.tmod_eq_emod_of_nonneg h0, w64_eq ⟨by omega, by omega⟩, Int.tmod_eq_emod_of_nonneg (by omega)]
  omega
 rw [e]
 have h1 : (bytesS [IntKind.u8.wrap k]).length = 1 := rfl
 exact bind_eq (cat_eq (by rw [h1]; omega)) (bind_eq (ref_Sum_eq _ (by rw [List.length_append, h1]; omega)) rfl)
def mk (k : Int) (d : Str) : api_Block := api_Block.mk (scoreS k d) k d
theorem made_eq (k : Int) {d : Str} (hd : d.length ≤ 1073741824) : block_made k d = some (mk k d) := by
 unfold block_made
 exact bind_eq (Score_eq k hd) rfl
def isSc (sc : Str) (b : api_Block) : Bool := b.Score_ == sc
theorem at_loop {l : List api_Block} (sc : Str) (hl : l.length ≤ 9223372036854775807) : ref15_at l sc = some (at_ (isSc sc) l) := by
 unfold ref15_at
 have h := loop_scan (body := ref15_at_L1 l sc) l (fun i x => if isSc sc x then some ((i : Nat) : Int) else none) (Nat.lt_of_le_of_lt hl (by decide)) (fun i hi => ?_) ?_
 ·rw [scan_ret h (fun r => rfl) (x := -1) rfl, at_getD]
 ·unfold ref15_at_L1
  refine cond_t (lt_t hi) (bind_eq (getI_lt hi) ?_)
  unfold isSc
  cases hb : l[i].Score_ == sc with
  | true => rfl
  | false =>
   rw [w_succ (by omega)]
   rfl
 ·unfold ref15_at_L1
  exact cond_f (lt_f _) rfl
theorem index_eq {s : api_Store} (sc : Str) (hl : s.Blocks_.length ≤ 9223372036854775807) : block_index s sc = some (at_ (isSc sc) s.Blocks_) := by
 unfold block_index
 refine bind_eq (a := at_ (isSc sc) s.Blocks_) ?_ rfl
 unfold slices_IndexFunc_apiBlockapiBlock
 generalize s.Blocks_ = l at *
 have h := loop_scan (body := slices_IndexFunc_apiBlockapiBlock_L1 l (fun (u1 : api_Block) => Option.bind (block_index_1 u1 sc) fun (v1 : Bool) => some v1)) l (fun i x => if isSc sc x then some ((i : Nat) : Int) else none) (Nat.lt_of_le_of_lt hl (by decide)) (fun i hi => ?_) ?_
 ·rw [scan_ret h (fun r => rfl) (x := -1) rfl, at_getD]
 ·unfold slices_IndexFunc_apiBlockapiBlock_L1
  refine cond_t (lt_t hi) (bind_eq (getI_lt hi) (bind_eq (a := isSc sc l[i]) rfl ?_))
  cases hb : isSc sc l[i] with
  | true => rfl
  | false =>
   rw [w_succ (by omega)]
   rfl
 ·unfold slices_IndexFunc_apiBlockapiBlock_L1
  exact cond_f (lt_f _) rfl
def findB (s : api_Store) (sc : Str) : Option api_Block := s.Blocks_.find? (isSc sc)
theorem findB_some {s : api_Store} {sc : Str} {b : api_Block} (h : findB s sc = some b) : b ∈ s.Blocks_ ∧ b.Score_ = sc := by
 unfold findB at h
 refine ⟨List.mem_of_find?_eq_some h, ?_⟩
 have := List.find?_some h
 unfold isSc at this
 exact eq_of_beq this
theorem at_ge {l : List api_Block} (sc : Str) : decide (at_ (isSc sc) l ≥ 0) = (l.find? (isSc sc)).isSome := by
 rcases at_find (isSc sc) l with ⟨h1, h2⟩ | ⟨i, x, h1, h2, _⟩
 ·rw [h1, h2]; rfl
 ·rw [h1, h2]; simp
def putB (s : api_Store) (k : Int) (d : Str) : api_Store × Str × Int :=
 if d.length > 1024 then (s, [], 4) else match findB s (scoreS k d) with
  | some b => if b = mk k d then (s, scoreS k d, 0) else (s, [], 34)
  | none => if (s.Blocks_.length : Int) ≥ s.Cap_ then (s, [], 22) else (api_Store.mk s.Cap_ (s.Blocks_ ++ [mk k d]), scoreS k d, 0)
theorem clone_eq {l : List api_Block} (hl : l.length ≤ 1073741824) : slices_Clone_apiBlockapiBlock l = some l := clone_any (by omega) (by omega)
theorem Put_eq {s : api_Store} {k : Int} {d : Str} (hk : 1 ≤ k ∧ k ≤ 4) (hs : s.Blocks_.length ≤ 1073741824) (hd : d.length ≤ 1073741824) : block_Put s k d = some (putB s k d) := by
 unfold block_Put putB
 refine bind_eq (a := s) (bind_eq (clone_eq hs) rfl) (bind_eq (a := true) (by unfold block_known; simp; omega) (cond_f rfl ?_))
 by_cases h1 : d.length > 1024
 ·rw [if_pos h1]
  exact cond_t (by simp; omega) rfl
 ·rw [if_neg h1]
  refine cond_f (by simp; omega) (bind_eq (made_eq k hd) (bind_eq (index_eq (mk k d).Score_ (by omega)) ?_))
  rw [at_ge]
  show (bif (findB s (scoreS k d)).isSome then _ else _) = _
  cases hf : findB s (scoreS k d) with
  | some b =>
   refine cond_t rfl (bind_eq (a := b) ?_ ?_)
   ·have := at_get (isSc (mk k d).Score_) s.Blocks_ (by show (findB s (scoreS k d)).isNone = false; rw [hf]; rfl)
    rw [this]
    exact hf
   ·simp only
    by_cases hb : b = mk k d
    ·rw [if_pos hb]
     exact cond_f (by simp [hb]) rfl
    ·rw [if_neg hb]
     exact cond_t (by simp [hb]) rfl
  | none =>
   refine cond_f rfl ?_
   simp only
   by_cases hc : (s.Blocks_.length : Int) ≥ s.Cap_
   ·rw [if_pos hc]
    exact cond_t (by simpa using hc) rfl
   ·rw [if_neg hc]
    exact cond_f (by simpa using hc) (bind_eq (room_eq (by simp; omega) (by simp; omega)) rfl)
theorem ref_Put_eq {s : api_Store} {k : Int} {d : Str} (hk : 1 ≤ k ∧ k ≤ 4) (hs : s.Blocks_.length ≤ 1073741824) (hd : d.length ≤ 1073741824) : ref15_Put s k d = some (putB s k d) := by
 unfold ref15_Put putB
 refine bind_eq (a := true) (by unfold ref15_Kind; simp; omega) (cond_f rfl ?_)
 by_cases h1 : d.length > 1024
 ·rw [if_pos h1]
  exact cond_t (by simp; omega) rfl
 ·rw [if_neg h1]
  refine cond_f (by simp; omega) (bind_eq (ref_Score_eq (by omega) (by omega) hd) (bind_eq (at_loop (scoreS k d) (by omega)) ?_))
  rw [at_ge]
  show (bif (findB s (scoreS k d)).isSome then _ else _) = _
  cases hf : findB s (scoreS k d) with
  | some b =>
   refine cond_t rfl (bind_eq (a := b) ?_ ?_)
   ·have := at_get (isSc (scoreS k d)) s.Blocks_ (by show (findB s (scoreS k d)).isNone = false; rw [hf]; rfl)
    rw [this]
    exact hf
   ·simp only
    by_cases hb : b = mk k d
    ·rw [if_pos hb]
     exact cond_f (by simp [hb, mk]) rfl
    ·rw [if_neg hb]
     exact cond_t (by simpa [mk] using hb) rfl
  | none =>
   refine cond_f rfl ?_
   simp only
   by_cases hc : (s.Blocks_.length : Int) ≥ s.Cap_
   ·rw [if_pos hc]
    exact cond_t (by simpa using hc) rfl
   ·rw [if_neg hc]
    refine cond_f (by simpa using hc) (bind_eq (a := s.Blocks_) ?_ (bind_eq (room_eq (by simp; omega) (by simp; omega)) rfl))
    rw [room_eq (by simp; omega) (by simp; omega)]
    rfl
def getB (s : api_Store) (sc : Str) (k : Int) : Str × Int := match findB s sc with
 | none => ([], 35)
 | some b => if b.Kind_ ≠ k then ([], 1) else if scoreS k b.Data_ = sc then (b.Data_, 0) else ([], 34)
def BlOK (b : api_Block) : Prop := 1 ≤ b.Kind_ ∧ b.Kind_ ≤ 4 ∧ b.Data_.length ≤ 1024 ∧ b.Score_.length = 32
structure StOK (s : api_Store) : Prop where
 cap1 : 1 ≤ s.Cap_
 cap2 : s.Cap_ ≤ 4096
 len : (s.Blocks_.length : Int) ≤ s.Cap_
 all : ∀ b ∈ s.Blocks_, BlOK b
 nd : (s.Blocks_.map (·.Score_)).Nodup
theorem StOK.size {s : api_Store} (h : StOK s) : s.Blocks_.length ≤ 4096 := by
 have := h.len
 have := h.cap2
 omega
def badB (l : List api_Block) (i : Nat) (b : api_Block) : Bool := ((!(decide (b.Kind_ ≥ 1) && decide (b.Kind_ ≤ 4))) || decide ((b.Data_.length : Int) > 1024)) || ((b.Score_.length : Int) != 32) || decide (at_ (isSc b.Score_) (l.take i) ≥ 0)
theorem Right_scan {s : api_Store} (hl : s.Blocks_.length ≤ 9223372036854775807) : ref15_Right s = some (!(decide (s.Cap_ < 1) || decide (s.Cap_ > 4096) || decide ((s.Blocks_.length : Int) > s.Cap_)) && ((scan (fun i b => if badB s.Blocks_ i b then some false else none) 0 s.Blocks_).getD true)) := by
 unfold ref15_Right
 cases hc : (decide (s.Cap_ < 1) || decide (s.Cap_ > 4096) || decide ((s.Blocks_.length : Int) > s.Cap_)) with
 | true => rfl
 | false =>
  refine cond_f rfl ?_
  have h := loop_scan (body := ref15_Right_L1 s) s.Blocks_ (fun i b => if badB s.Blocks_ i b then some false else none) (Nat.lt_of_le_of_lt hl (by decide)) (fun i hi => ?_) ?_
  ·rw [scan_ret h (fun r => rfl) (x := true) rfl]
   simp
  ·unfold ref15_Right_L1
   refine cond_t (lt_t hi) (bind_eq (getI_lt hi) (bind_eq (a := decide (s.Blocks_[i].Kind_ ≥ 1) && decide (s.Blocks_[i].Kind_ ≤ 4)) rfl ?_))
   refine bind_eq (a := badB s.Blocks_ i s.Blocks_[i]) ?_ ?_
   ·unfold badB
    cases hc2 : ((!(decide (s.Blocks_[i].Kind_ ≥ 1) && decide (s.Blocks_[i].Kind_ ≤ 4))) || decide ((s.Blocks_[i].Data_.length : Int) > 1024)) || ((s.Blocks_[i].Score_.length : Int) != 32) with
    | true => rfl
    | false =>
     refine cond_f rfl (bind_eq (a := s.Blocks_.take i) ?_ (bind_eq (at_loop _ (by rw [List.length_take]; omega)) rfl))
     rw [subI_eq (by omega) (by omega) (by omega)]
     rfl
   ·cases hb : badB s.Blocks_ i s.Blocks_[i] with
    | true => rfl
    | false =>
     rw [w_succ (by omega)]
     rfl
  ·unfold ref15_Right_L1
   exact cond_f (lt_f _) rfl
theorem nodup_iff {α : Type} {l : List α} : l.Nodup ↔ ∀ i x, l[i]? = some x → x ∉ l.take i := by
  constructor
  ·intro h i x hx hm
   obtain ⟨j, hj, e⟩ := List.getElem_of_mem hm
   rw [List.length_take] at hj
   rw [List.getElem_take] at e
   have hi : i < l.length := by
    rcases Nat.lt_or_ge i l.length with h' | h'
    ·exact h'
    ·rw [List.getElem?_eq_none h'] at hx; cases hx
   rw [List.getElem?_eq_getElem hi] at hx
   have := (List.nodup_iff_pairwise_ne.1 h)
   have h2 := List.pairwise_iff_getElem.1 this j i (by omega) hi (by omega)
   exact h2 (e.trans (Option.some.inj hx).symm)
  ·intro h
   refine List.nodup_iff_pairwise_ne.2 (List.pairwise_iff_getElem.2 fun i j hi hj hij e => ?_)
   refine h j l[j] (List.getElem?_eq_getElem hj) ?_
   rw [← e]
   have : i < (l.take j).length := by rw [List.length_take]; omega
   have h3 := List.getElem_mem this
   rwa [List.getElem_take] at h3
theorem Right_iff {s : api_Store} (hl : s.Blocks_.length ≤ 9223372036854775807) : ∃ b, ref15_Right s = some b ∧ (b = true ↔ StOK s) := by
 refine ⟨_, Right_scan hl, ?_⟩
 have hs : (scan (fun i b => if badB s.Blocks_ i b then some false else none) 0 s.Blocks_).getD true = true ↔ ∀ i x, s.Blocks_[i]? = some x → badB s.Blocks_ i x = false := by
  cases h : scan (fun i b => if badB s.Blocks_ i b then some false else none) 0 s.Blocks_ with
  | none =>
   refine ⟨fun _ i x hx => ?_, fun _ => rfl⟩
   have := scan_none.1 h i x hx
   rw [Nat.zero_add] at this
   cases hb : badB s.Blocks_ i x with
   | false => rfl
   | true => rw [hb] at this; simp at this
  | some r =>
   obtain ⟨i, x, h1, h2, _⟩ := scan_some h
   rw [Nat.zero_add] at h2
   refine ⟨fun e => ?_, fun h' => ?_⟩
   ·split at h2
    ·obtain rfl := Option.some.inj h2
     cases e
    ·cases h2
   ·rw [h' i x h1] at h2
    simp at h2
 rw [Bool.and_eq_true, hs]
 have hbad : ∀ i x, badB s.Blocks_ i x = false ↔ BlOK x ∧ x.Score_ ∉ (s.Blocks_.take i).map (·.Score_) := fun i x => by
  unfold badB BlOK
  rw [at_ge]
  have hf : ((s.Blocks_.take i).find? (isSc x.Score_)).isSome = false ↔ x.Score_ ∉ (s.Blocks_.take i).map (·.Score_) := by
   rw [← Bool.not_eq_true, List.find?_isSome]
   simp only [isSc, List.mem_map, beq_iff_eq]
  rw [Bool.or_eq_false_iff, hf]
  refine and_congr ?_ Iff.rfl
  simp only [Bool.or_eq_false_iff, Bool.not_eq_false', Bool.and_eq_true, decide_eq_true_eq, decide_eq_false_iff_not, bne_eq_false_iff_eq]
  omega
 simp only [hbad]
 constructor
 ·intro ⟨h1, h2⟩
  simp only [Bool.not_eq_true', Bool.or_eq_false_iff, decide_eq_false_iff_not] at h1
  refine ⟨by omega, by omega, by omega, fun b hb => ?_, nodup_iff.2 fun i x hx => ?_⟩
  ·obtain ⟨i, hi, e⟩ := List.getElem_of_mem hb
   exact (h2 i b (by rw [List.getElem?_eq_getElem hi, e])).1
  ·rw [List.getElem?_map] at hx
   cases hy : s.Blocks_[i]? with
   | none => rw [hy] at hx; cases hx
   | some y =>
    rw [hy] at hx
    obtain rfl := Option.some.inj hx
    rw [← List.map_take]
    exact (h2 i y hy).2
 ·intro h
  refine ⟨?_, fun i x hx => ⟨h.all x (List.mem_of_getElem? hx), ?_⟩⟩
  ·have := h.cap1
   have := h.cap2
   have := h.len
   simp only [Bool.not_eq_true', Bool.or_eq_false_iff, decide_eq_false_iff_not]
   omega
  ·have := nodup_iff.1 h.nd i x.Score_ (by rw [List.getElem?_map, hx]; rfl)
   rwa [← List.map_take] at this
theorem Same_refl {s : api_Store} (hl : s.Blocks_.length ≤ 9223372036854775807) : ref15_Same s s = some true := by
 unfold ref15_Same
 refine cond_f (by simp) ?_
 have h := loop_scan (body := ref15_Same_L1 s s) s.Blocks_ (fun (_ : Nat) (_ : api_Block) => (none : Option Bool)) (Nat.lt_of_le_of_lt hl (by decide)) (fun i hi => ?_) ?_
 ·rw [scan_ret h (fun r => rfl) (x := true) rfl]
  have : scan (fun (_ : Nat) (_ : api_Block) => (none : Option Bool)) 0 s.Blocks_ = none := scan_none.2 fun _ _ _ => rfl
  rw [this]
  rfl
 ·unfold ref15_Same_L1
  refine cond_t (lt_t hi) (bind_eq (getI_lt hi) (bind_eq (getI_lt hi) (cond_f (by simp) ?_)))
  rw [w_succ (by omega)]
  rfl
 ·unfold ref15_Same_L1
  exact cond_f (lt_f _) rfl
theorem findB_app {s : api_Store} {sc : Str} (l : List api_Block) (b : api_Block) (h : findB s sc = some b) : findB (api_Store.mk s.Cap_ (s.Blocks_ ++ l)) sc = some b := by
 unfold findB at *
 rw [List.find?_append, h]
 rfl
def StLe (s t : api_Store) : Prop := t.Cap_ = s.Cap_ ∧ ∃ l, t.Blocks_ = s.Blocks_ ++ l
theorem StLe.refl (s : api_Store) : StLe s s := ⟨rfl, [], by simp⟩
theorem StLe.trans {a b c : api_Store} (h : StLe a b) (k : StLe b c) : StLe a c := by
 obtain ⟨h1, l, h2⟩ := h
 obtain ⟨k1, m, k2⟩ := k
 exact ⟨k1.trans h1, l ++ m, by rw [k2, h2, List.append_assoc]⟩
theorem StLe.find {s t : api_Store} (h : StLe s t) {sc : Str} {b : api_Block} (hf : findB s sc = some b) : findB t sc = some b := by
 obtain ⟨h1, l, h2⟩ := h
 have : t = api_Store.mk s.Cap_ (s.Blocks_ ++ l) := by cases t; simp only at h1 h2; rw [h1, h2]
 rw [this]
 exact findB_app l b hf
theorem putB_ok {s : api_Store} {k : Int} {d : Str} (hs : StOK s) (hk : 1 ≤ k ∧ k ≤ 4) : StOK (putB s k d).1 ∧ StLe s (putB s k d).1 ∧ ((putB s k d).2.2 = 0 → (putB s k d).2.1 = scoreS k d ∧ d.length ≤ 1024 ∧ findB (putB s k d).1 (scoreS k d) = some (mk k d)) := by
 unfold putB
 split
 ·exact ⟨hs, StLe.refl s, fun e => by cases e⟩
 ·rename_i hd
  split
  ·rename_i b hb
   split
   ·rename_i e
    exact ⟨hs, StLe.refl s, fun _ => ⟨rfl, by omega, by rw [hb, e]⟩⟩
   ·exact ⟨hs, StLe.refl s, fun e => by cases e⟩
  ·rename_i hb
   split
   ·exact ⟨hs, StLe.refl s, fun e => by cases e⟩
   ·rename_i hc
    refine ⟨⟨hs.cap1, hs.cap2, by simp; omega, fun b hb' => ?_, ?_⟩, ⟨rfl, _, rfl⟩, fun _ => ⟨rfl, by omega, ?_⟩⟩
    ·rcases List.mem_append.1 hb' with h | h
     ·exact hs.all b h
     ·rw [List.mem_singleton] at h
      subst h
      exact ⟨hk.1, hk.2, by show d.length ≤ 1024; omega, scoreS_len k d⟩
    ·simp only [List.map_append, List.map_cons, List.map_nil]
     refine List.nodup_append.2 ⟨hs.nd, by simp, fun a ha b hb' e => ?_⟩
     rw [List.mem_singleton] at hb'
     obtain ⟨c, hc1, hc2⟩ := List.mem_map.1 ha
     have := List.find?_eq_none.1 hb c hc1
     apply this
     unfold isSc
     rw [hc2, e, hb']
     exact beq_self_eq_true _
    ·unfold findB
     rw [List.find?_append]
     have hb' : s.Blocks_.find? (isSc (scoreS k d)) = none := hb
     rw [hb']
     show List.find? _ [mk k d] = _
     simp [isSc, mk]
end Go.Proofs.YtfdmakpcmkbhhaaGreatDoor
namespace Go.Proofs.YtfdmakpcmkbhhaaGreatDoor
open Go.Rt Go.RowKit
def runE {α σ β : Type} (f : σ → α → σ ⊕ β) (fin : σ → β) : σ → List α → β
 | s, [] => fin s
 | s, x :: l => match f s x with
  | .inl s' => runE f fin s' l
  | .inr b => b
def stepE {σ τ β : Type} (mk : σ → τ) : σ ⊕ β → Step τ β
 | .inl s => .next (mk s)
 | .inr b => .done b
theorem loop_runE {α σ τ β : Type} {body : τ → Option (Step τ β)} (xs : List α) (f : σ → α → σ ⊕ β) (mk : Nat → σ → τ) (Inv : Nat → σ → Prop) (fin : σ → β) (s0 : σ) (hn : xs.length < BIG) (h0 : Inv 0 s0)
  (hb : ∀ i s (h : i < xs.length), Inv i s → body (mk i s) = some (stepE (mk (i + 1)) (f s xs[i])) ∧ ∀ s', f s xs[i] = .inl s' → Inv (i + 1) s')
  (he : ∀ s, Inv xs.length s → body (mk xs.length s) = some (.done (fin s))) : loopF body BIG (mk 0 s0) = some (runE f fin s0 xs) := by
 refine loopF_up (J := fun i t b => ∃ s, Inv i s ∧ t = mk i s ∧ b = runE f fin s (xs.drop i)) xs.length hn (fun t b hJ => ?_) (fun i t b hi hJ => ?_) ⟨s0, h0, rfl, by simp⟩
 ·obtain ⟨s, hI, rfl, rfl⟩ := hJ
  rw [he s hI]; simp [runE]
 ·obtain ⟨s, hI, rfl, rfl⟩ := hJ
  obtain ⟨h1, h2⟩ := hb i s hi hI
  rw [List.drop_eq_getElem_cons hi]
  simp only [runE]
  cases hf : f s xs[i] with
  | inl s' =>
   rw [hf] at h1
   exact .inr ⟨_, h1, s', h2 s' hf, rfl, rfl⟩
  | inr b =>
   rw [hf] at h1
   exact .inl h1
def nP (n : Nat) : Nat := max 1 ((n + 1023) / 1024)
def piece (s : Str) (j : Nat) : Str := (s.drop (1024 * j)).take 1024
def pieces (s : Str) : List Str := (List.range (nP s.length)).map (piece s)
theorem pieces_len (s : Str) : (pieces s).length = nP s.length := by simp [pieces]
theorem pieces_get (s : Str) {i : Nat} (h : i < (pieces s).length) : (pieces s)[i] = piece s i := by simp [pieces]
theorem piece_len (s : Str) (j : Nat) : (piece s j).length = min 1024 (s.length - 1024 * j) := by simp [piece]
theorem chunks_eq {s : Str} (hs : s.length ≤ 1099511627776) : archive_chunks s 1024 = some (pieces s) := by
 unfold archive_chunks
 have hm : 1 ≤ nP s.length := Nat.le_max_left _ _
 obtain ⟨m, hm⟩ : ∃ m, nP s.length = m + 1 := ⟨nP s.length - 1, by omega⟩
 have hm' : max 1 ((s.length + 1023) / 1024) = m + 1 := hm
 have hlast : piece s m = s.drop (1024 * m) := by
  unfold piece
  rw [List.take_of_length_le]
  rw [List.length_drop]
  omega
 refine bind_eq (a := (s.drop (1024 * m), (List.range m).map (piece s))) ?_ (bind_eq (a := pieces s) ?_ rfl)
 ·have h0 : (s, ([] : List Str)) = (s.drop (1024 * 0), (List.range 0).map (piece s)) := by simp
  rw [h0]
  refine loop_traj (T := fun i => (s.drop (1024 * i), (List.range i).map (piece s))) m (lt_big (by omega)) (fun i hi => ?_) ?_
  ·unfold archive_chunks_L1
   have hd : (s.drop (1024 * i)).length = s.length - 1024 * i := List.length_drop
   have hi' : 1024 * i + 1024 < s.length := by omega
   refine cond_t (by show decide (((s.drop (1024 * i)).length : Int) > 1024) = true; rw [hd]; simp; omega) (bind_eq (a := piece s i) ?_ (bind_eq (a := (List.range (i + 1)).map (piece s)) ?_ (bind_eq (a := s.drop (1024 * (i + 1))) ?_ rfl)))
   ·show subI (s.drop (1024 * i)) 0 1024 = _
    rw [subI_eq (by omega) (by omega) (by omega)]
    rfl
   ·show room 16 ((List.range i).map (piece s)) [piece s i] = _
    rw [room_eq (by simp; omega) (by simp; omega), List.range_succ, List.map_append]
    rfl
   ·show subI (s.drop (1024 * i)) 1024 ((s.drop (1024 * i)).length : Int) = _
    rw [subI_eq (by omega) (by omega) (by omega), Int.toNat_natCast, List.take_length]
    show some ((s.drop (1024 * i)).drop 1024) = _
    rw [List.drop_drop]
    rfl
  ·unfold archive_chunks_L1
   refine cond_f ?_ rfl
   show decide (((s.drop (1024 * m)).length : Int) > 1024) = false
   rw [List.length_drop]
   simp
   omega
 ·show room 16 ((List.range m).map (piece s)) [s.drop (1024 * m)] = _
  rw [room_eq (by simp; omega) (by simp; omega)]
  unfold pieces
  rw [hm, List.range_succ, List.map_append, ← hlast]
  rfl
def putL (k : Int) : api_Store → List Str → api_Store × List Str × Int
 | s, [] => (s, [], 0)
 | s, p :: ps => if (putB s k p).2.2 = 0 then ((putL k (putB s k p).1 ps).1, (putB s k p).2.1 :: (putL k (putB s k p).1 ps).2.1, (putL k (putB s k p).1 ps).2.2) else (s, [], (putB s k p).2.2)
theorem putL_ok {k : Int} (hk : 1 ≤ k ∧ k ≤ 4) : ∀ {ps : List Str} {s : api_Store}, StOK s → StOK (putL k s ps).1 ∧ StLe s (putL k s ps).1 ∧ ((putL k s ps).2.2 = 0 → (putL k s ps).2.1 = ps.map (scoreS k) ∧ ∀ p ∈ ps, p.length ≤ 1024 ∧ findB (putL k s ps).1 (scoreS k p) = some (mk k p))
 | [], s, hs => ⟨hs, StLe.refl s, fun _ => ⟨rfl, fun _ h => nomatch h⟩⟩
 | p :: ps, s, hs => by
  obtain ⟨h1, h2, h3⟩ := putB_ok (d := p) hs hk
  obtain ⟨i1, i2, i3⟩ := putL_ok hk (ps := ps) h1
  unfold putL
  split
  ·rename_i he
   obtain ⟨h4, h5, h6⟩ := h3 he
   refine ⟨i1, h2.trans i2, fun e => ?_⟩
   obtain ⟨i4, i5⟩ := i3 e
   refine ⟨by rw [List.map_cons, h4, i4], fun q hq => ?_⟩
   rcases List.mem_cons.1 hq with rfl | hq
   ·exact ⟨h5, i2.find h6⟩
   ·exact i5 q hq
  ·rename_i he
   exact ⟨hs, StLe.refl s, fun e => absurd e he⟩
theorem putL_len {k : Int} (hk : 1 ≤ k ∧ k ≤ 4) {ps : List Str} {s : api_Store} (hs : StOK s) (he : (putL k s ps).2.2 = 0) : (putL k s ps).2.1.length = ps.length ∧ ∀ x ∈ (putL k s ps).2.1, x.length = 32 := by
 rw [((putL_ok hk hs).2.2 he).1]
 refine ⟨List.length_map _, fun x hx => ?_⟩
 obtain ⟨p, _, rfl⟩ := List.mem_map.1 hx
 exact scoreS_len k p
abbrev root0 : api_Root := api_Root.mk [] 0 0
def fP (k : Int) (t : Str × api_Store × api_Root) (p : Str) : (Str × api_Store × api_Root) ⊕ Out (Str × api_Store × api_Root × List Str) (api_Store × api_Root × Int) :=
 if (putB t.2.1 k p).2.2 = 0 then .inl (t.1 ++ (putB t.2.1 k p).2.1, (putB t.2.1 k p).1, api_Root.mk (putB t.2.1 k p).2.1 t.2.2.Length_ t.2.2.Levels_) else .inr (.ret (t.2.1, root0, (putB t.2.1 k p).2.2))
theorem fP_run (k : Int) (ps : List Str) : ∀ (l : List Str) (acc : Str) (s : api_Store) (r : api_Root), runE (fP k) (fun t => .fall (t.1, t.2.1, t.2.2, ps)) (acc, s, r) l = (if (putL k s l).2.2 = 0 then .fall (acc ++ (putL k s l).2.1.flatten, (putL k s l).1, api_Root.mk ((putL k s l).2.1.getLastD r.Score_) r.Length_ r.Levels_, ps) else .ret ((fun o => o) (runE (fP k) (fun t => .fall (t.1, t.2.1, t.2.2, ps)) (acc, s, r) l |> fun o => match o with | .ret q => q.1 | .fall q => q.2.1), root0, (putL k s l).2.2))
 | [], acc, s, r => by simp [runE, putL]
 | p :: l, acc, s, r => by
  by_cases he : (putB s k p).2.2 = 0
  ·have h1 : fP k (acc, s, r) p = .inl (acc ++ (putB s k p).2.1, (putB s k p).1, api_Root.mk (putB s k p).2.1 r.Length_ r.Levels_) := if_pos he
   have h2 : putL k s (p :: l) = ((putL k (putB s k p).1 l).1, (putB s k p).2.1 :: (putL k (putB s k p).1 l).2.1, (putL k (putB s k p).1 l).2.2) := if_pos he
   simp only [runE, h1, h2]
   have ih := fP_run k ps l (acc ++ (putB s k p).2.1) (putB s k p).1 (api_Root.mk (putB s k p).2.1 r.Length_ r.Levels_)
   by_cases hz : (putL k (putB s k p).1 l).2.2 = 0
   ·rw [if_pos hz] at ih ⊢
    rw [ih]
    simp only [List.flatten_cons, List.append_assoc, List.getLastD_cons]
   ·rw [if_neg hz] at ih ⊢
    exact ih
  ·have h1 : fP k (acc, s, r) p = .inr (.ret (s, root0, (putB s k p).2.2)) := if_neg he
   have h2 : putL k s (p :: l) = (s, [], (putB s k p).2.2) := if_neg he
   simp only [runE, h1, h2, if_neg he]
theorem passP {k : Int} (hk : 1 ≤ k ∧ k ≤ 4) {s : api_Store} (hs : StOK s) (r : api_Root) {ps : List Str} (hps : ∀ p ∈ ps, p.length ≤ 1024) (hl : ps.length ≤ 1073741824) :
  ∃ o, loopF (archive_put_L1 (k, s, r, ps)) BIG ([], 0, s.Cap_, s.Blocks_, r, ps) = some o ∧ (if (putL k s ps).2.2 = 0 then o = .fall ((putL k s ps).2.1.flatten, (putL k s ps).1, api_Root.mk ((putL k s ps).2.1.getLastD r.Score_) r.Length_ r.Levels_, ps) else ∃ s', o = .ret (s', root0, (putL k s ps).2.2)) := by
 refine ⟨_, loop_runE (body := archive_put_L1 (k, s, r, ps)) ps (fP k) (fun i t => (t.1, (i : Int), t.2.1.Cap_, t.2.1.Blocks_, t.2.2, ps)) (fun i t => StOK t.2.1 ∧ t.1.length ≤ 32 * i) (fun t => .fall (t.1, t.2.1, t.2.2, ps)) ([], s, r) (lt_big (by omega)) ⟨hs, by simp⟩ (fun i t hi hI => ?_) (fun t hI => ?_), ?_⟩
 ·obtain ⟨acc, u, q⟩ := t
  obtain ⟨h1, h2⟩ := hI
  have hp := hps ps[i] (List.getElem_mem hi)
  have hput := Put_eq (s := u) (d := ps[i]) hk (by have := (show StOK u from h1).size; omega) (by omega)
  obtain ⟨p1, p2, p3⟩ := putB_ok (d := ps[i]) h1 hk
  constructor
  ·unfold archive_put_L1
   refine cond_t (by show decide ((i : Int) < (ps.length : Int)) = true; exact lt_t hi) (bind_eq (getI_lt hi) (bind_eq hput ?_))
   unfold fP
   simp only
   by_cases he : (putB u k ps[i]).2.2 = 0
   ·rw [if_pos he]
    refine cond_f (by simp [he]) (bind_eq (cat_eq ?_) ?_)
    ·rw [(p3 he).1, scoreS_len]
     simp only at h2 ⊢
     omega
    ·rw [w_succ (by omega)]
     rfl
   ·rw [if_neg he]
    exact cond_t (by simp [he]) rfl
  ·intro t' ht
   unfold fP at ht
   simp only at ht
   split at ht
   ·rename_i he
    injection ht with ht
    subst ht
    refine ⟨p1, ?_⟩
    simp only [List.length_append, (p3 he).1, scoreS_len]
    simp only at h2
    omega
   ·cases ht
 ·obtain ⟨acc, u, q⟩ := t
  unfold archive_put_L1
  exact cond_f (by show decide ((ps.length : Int) < (ps.length : Int)) = false; exact lt_f _) rfl
 ·rw [fP_run]
  split
  ·simp
  ·exact ⟨_, rfl⟩
def fR0 (x0 : api_Store) (k : Int) (t : api_Store × List Str) (p : Str) : (api_Store × List Str) ⊕ Out (api_Store × List Str) (api_Store × api_Root × Int) :=
 if (putB t.1 k p).2.2 = 0 then .inl ((putB t.1 k p).1, t.2 ++ [(putB t.1 k p).2.1]) else .inr (.ret (x0, root0, (putB t.1 k p).2.2))
theorem fR0_run (x0 : api_Store) (k : Int) : ∀ (l : List Str) (s : api_Store) (acc : List Str), runE (fR0 x0 k) (fun t => .fall t) (s, acc) l = if (putL k s l).2.2 = 0 then .fall ((putL k s l).1, acc ++ (putL k s l).2.1) else .ret (x0, root0, (putL k s l).2.2)
 | [], s, acc => by simp [runE, putL]
 | p :: l, s, acc => by
  by_cases he : (putB s k p).2.2 = 0
  ·have h1 : fR0 x0 k (s, acc) p = .inl ((putB s k p).1, acc ++ [(putB s k p).2.1]) := if_pos he
   have h2 : putL k s (p :: l) = ((putL k (putB s k p).1 l).1, (putB s k p).2.1 :: (putL k (putB s k p).1 l).2.1, (putL k (putB s k p).1 l).2.2) := if_pos he
   simp only [runE, h1, h2]
   rw [fR0_run]
   simp
  ·have h1 : fR0 x0 k (s, acc) p = .inr (.ret (x0, root0, (putB s k p).2.2)) := if_neg he
   have h2 : putL k s (p :: l) = (s, [], (putB s k p).2.2) := if_neg he
   simp only [runE, h1, h2, if_neg he]
theorem passR0 {k : Int} (hk : 1 ≤ k ∧ k ≤ 4) {x0 : api_Store} (hs : StOK x0) {d : Str} (hd : d.length ≤ 1073741824) :
  loopF (ref16_put_L1 d k x0) BIG (0, x0, []) = some (if (putL k x0 (pieces d)).2.2 = 0 then .fall ((putL k x0 (pieces d)).1, (putL k x0 (pieces d)).2.1) else .ret (x0, root0, (putL k x0 (pieces d)).2.2)) := by
 have hn : (pieces d).length = max 1 ((d.length + 1023) / 1024) := pieces_len d
 have h := loop_runE (body := ref16_put_L1 d k x0) (pieces d) (fR0 x0 k) (fun i t => (((1024 * i : Nat) : Int), t.1, t.2)) (fun i t => StOK t.1 ∧ t.2.length = i) (fun t => .fall t) (x0, []) (lt_big (by omega)) ⟨hs, rfl⟩ (fun i t hi hI => ?_) (fun t hI => ?_)
 ·rw [fR0_run] at h
  simpa using h
 ·obtain ⟨u, l⟩ := t
  obtain ⟨h1, h2⟩ := hI
  simp only at h1 h2
  have hp : (pieces d)[i].length ≤ 1024 := by rw [pieces_get, piece_len]; omega
  have hput := ref_Put_eq (s := u) (d := (pieces d)[i]) hk (by have := h1.size; omega) (by omega)
  have e1024 : w64 (((1024 * i : Nat) : Int) + 1024) = ((1024 * (i + 1) : Nat) : Int) := by rw [w64_eq ⟨by omega, by omega⟩]; omega
  constructor
  ·unfold ref16_put_L1
   refine cond_t ?_ (bind_eq (a := (pieces d)[i]) ?_ (bind_eq hput ?_))
   ·simp only [Bool.or_eq_true, beq_iff_eq, decide_eq_true_eq]
    omega
   ·rw [pieces_get]
    show subI d ((1024 * i : Nat) : Int) (minI (w64 (((1024 * i : Nat) : Int) + 1024)) (d.length : Int)) = _
    have emin : minI ((1024 * (i + 1) : Nat) : Int) (d.length : Int) = ((min (1024 * (i + 1)) d.length : Nat) : Int) := by
     unfold minI
     split <;> omega
    rw [e1024, emin, subI_eq (by omega) (by omega) (by omega), Int.toNat_natCast, Int.toNat_natCast]
    unfold piece
    rw [List.drop_take]
    refine congrArg some ?_
    rcases Nat.le_total (1024 * (i + 1)) d.length with h' | h'
    ·rw [Nat.min_eq_left h', show 1024 * (i + 1) - 1024 * i = 1024 by omega]
    ·rw [Nat.min_eq_right h', List.take_of_length_le (by rw [List.length_drop]; omega), List.take_of_length_le (by rw [List.length_drop]; omega)]
   ·unfold fR0
    simp only
    by_cases he : (putB u k (pieces d)[i]).2.2 = 0
    ·rw [if_pos he]
     refine cond_f (by simp [he]) (bind_eq (room_eq (by simp; omega) (by simp; omega)) ?_)
     rw [e1024]
     rfl
    ·rw [if_neg he]
     exact cond_t (by simp [he]) rfl
  ·intro t' ht
   unfold fR0 at ht
   simp only at ht
   split at ht
   ·injection ht with ht
    subst ht
    exact ⟨(putB_ok h1 hk).1, by simp [h2]⟩
   ·cases ht
 ·obtain ⟨u, l⟩ := t
  unfold ref16_put_L1
  refine cond_f ?_ rfl
  simp only [Bool.or_eq_false_iff, beq_eq_false_iff_ne, decide_eq_false_iff_not, ne_eq]
  omega
def all32 (l : List Str) : Prop := ∀ x ∈ l, x.length = 32
theorem flat32_len : ∀ {l : List Str}, all32 l → l.flatten.length = 32 * l.length
 | [], _ => rfl
 | x :: l, h => by
  rw [List.flatten_cons, List.length_append, h x List.mem_cons_self, flat32_len (l := l) fun y hy => h y (List.mem_cons_of_mem _ hy), List.length_cons]
  omega
theorem flat32_drop : ∀ {l : List Str} (n : Nat), all32 l → l.flatten.drop (32 * n) = (l.drop n).flatten
 | [], n, _ => by simp
 | x :: l, 0, _ => by simp
 | x :: l, n + 1, h => by
  have hx := h x List.mem_cons_self
  rw [List.flatten_cons, List.drop_append, List.drop_of_length_le (show x.length ≤ 32 * (n + 1) by omega), List.nil_append, hx, show 32 * (n + 1) - 32 = 32 * n by omega, flat32_drop n fun y hy => h y (List.mem_cons_of_mem _ hy)]
  rfl
theorem flat32_take : ∀ {l : List Str} (n : Nat), all32 l → l.flatten.take (32 * n) = (l.take n).flatten
 | [], n, _ => by simp
 | x :: l, 0, _ => by simp
 | x :: l, n + 1, h => by
  have hx := h x List.mem_cons_self
  rw [List.flatten_cons, List.take_append, List.take_of_length_le (show x.length ≤ 32 * (n + 1) by omega), hx, show 32 * (n + 1) - 32 = 32 * n by omega, flat32_take n fun y hy => h y (List.mem_cons_of_mem _ hy)]
  rfl
theorem piece32 {l : List Str} (h : all32 l) (i : Nat) : piece l.flatten i = ((l.drop (32 * i)).take 32).flatten := by
 unfold piece
 rw [show 1024 * i = 32 * (32 * i) by omega, flat32_drop _ h, show 1024 = 32 * 32 by rfl, flat32_take _ fun y hy => h y (List.mem_of_mem_drop hy)]
theorem fR2_run (l : List Str) (hl : all32 l) (hn : l.length ≤ 1073741824) (i : Nat) (st : api_Store) (acc : List Str) (hi : 32 * i < l.length) :
  loopF (ref16_put_L2 (((32 * i : Nat) : Int), st, l, acc)) BIG ([], ((32 * i : Nat) : Int), l) = some (piece l.flatten i, l) := by
 rw [piece32 hl]
 have e32 : w64 (((32 * i : Nat) : Int) + 32) = ((32 * i + 32 : Nat) : Int) := by rw [w64_eq ⟨by omega, by omega⟩]; omega
 have hm : ((l.drop (32 * i)).take 32).length = min 32 (l.length - 32 * i) := by simp
 have h := loop_foldN (body := ref16_put_L2 (((32 * i : Nat) : Int), st, l, acc)) ((l.drop (32 * i)).take 32) (fun (s : Str) _ x => s ++ x) (fun j s => (s, ((32 * i + j : Nat) : Int), l)) (fun j s => s.length ≤ 32 * j) (fun s => (s, l)) [] (lt_big (by omega)) (by simp) (fun j s hj hs => ?_) (fun s hs => ?_)
 ·have hf : ∀ (xs : List Str) (s : Str) (k : Nat), foldN (fun (s : Str) _ x => s ++ x) s k xs = s ++ xs.flatten := fun xs => by
   induction xs with
   | nil => intro s k; simp [foldN]
   | cons x xs ih => intro s k; simp [foldN, ih]
  rw [hf] at h
  simpa using h
 ·have hj' : 32 * i + j < l.length := by omega
  have hg : ((l.drop (32 * i)).take 32)[j] = l[32 * i + j] := by simp
  have hx := hl l[32 * i + j] (List.getElem_mem hj')
  constructor
  ·unfold ref16_put_L2
   refine cond_t ?_ (bind_eq (getI_lt hj') (bind_eq (cat_eq (show s.length + l[32 * i + j].length ≤ _ by omega)) ?_))
   ·rw [e32]
    simp only [Bool.and_eq_true, decide_eq_true_eq]
    omega
   ·show some (Step.next (s ++ l[32 * i + j], w64 (((32 * i + j : Nat) : Int) + 1), l)) = _
    rw [w_succ (by omega), hg]
    rfl
  ·rw [hg, List.length_append]
   omega
 ·unfold ref16_put_L2
  refine cond_f ?_ rfl
  rw [e32]
  simp only [Bool.and_eq_false_iff, decide_eq_false_iff_not]
  omega
theorem passR {x0 s : api_Store} (hs : StOK s) {l : List Str} (hl : all32 l) (h1 : 1 ≤ l.length) (hn : l.length ≤ 1073741824) :
  loopF (ref16_put_L3 x0) BIG (0, s, l, []) = some (if (putL 2 s (pieces l.flatten)).2.2 = 0 then .fall ((putL 2 s (pieces l.flatten)).1, (putL 2 s (pieces l.flatten)).2.1) else .ret (x0, root0, (putL 2 s (pieces l.flatten)).2.2)) := by
 have hn' : (pieces l.flatten).length = max 1 ((32 * l.length + 1023) / 1024) := by rw [pieces_len, flat32_len hl]; rfl
 have h := loop_runE (body := ref16_put_L3 x0) (pieces l.flatten) (fR0 x0 2) (fun i t => (((32 * i : Nat) : Int), t.1, l, t.2)) (fun i t => StOK t.1 ∧ t.2.length = i) (fun t => .fall t) (s, []) (lt_big (by omega)) ⟨hs, rfl⟩ (fun i t hi hI => ?_) (fun t hI => ?_)
 ·rw [fR0_run] at h
  simpa using h
 ·obtain ⟨u, acc⟩ := t
  obtain ⟨h1', h2⟩ := hI
  simp only at h1' h2
  have hp : (pieces l.flatten)[i].length ≤ 1024 := by rw [pieces_get, piece_len]; omega
  have hput := ref_Put_eq (s := u) (d := (pieces l.flatten)[i]) (k := 2) (by omega) (by have := h1'.size; omega) (by omega)
  have e32 : w64 (((32 * i : Nat) : Int) + 32) = ((32 * (i + 1) : Nat) : Int) := by rw [w64_eq ⟨by omega, by omega⟩]; omega
  constructor
  ·unfold ref16_put_L3
   refine cond_t ?_ (bind_eq (fR2_run l hl hn i u acc (by omega)) (bind_eq (a := putB u 2 (pieces l.flatten)[i]) ?_ ?_))
   ·simp only [decide_eq_true_eq]
    omega
   ·rw [← pieces_get (h := hi)]
    exact hput
   ·unfold fR0
    simp only
    by_cases he : (putB u 2 (pieces l.flatten)[i]).2.2 = 0
    ·rw [if_pos he]
     refine cond_f (by simp [he]) (bind_eq (room_eq (by simp; omega) (by simp; omega)) ?_)
     rw [e32]
     rfl
    ·rw [if_neg he]
     exact cond_t (by simp [he]) rfl
  ·intro t' ht
   unfold fR0 at ht
   simp only at ht
   split at ht
   ·injection ht with ht
    subst ht
    exact ⟨(putB_ok h1' (by omega)).1, by simp [h2]⟩
   ·cases ht
 ·obtain ⟨u, acc⟩ := t
  unfold ref16_put_L3
  refine cond_f ?_ rfl
  simp only [decide_eq_false_iff_not]
  omega
structure Up where
 store : api_Store
 score : Str
 levels : Int
 err : Int
def upF : Nat → Int → api_Store → List Str → Up
 | 0, _, s, _ => ⟨s, [], 0, 2⟩
 | f + 1, k, s, ps => if (putL k s ps).2.2 = 0 then (if ps.length = 1 then ⟨(putL k s ps).1, (putL k s ps).2.1.getLastD [], 0, 0⟩ else ⟨(upF f 2 (putL k s ps).1 (pieces (putL k s ps).2.1.flatten)).store, (upF f 2 (putL k s ps).1 (pieces (putL k s ps).2.1.flatten)).score, (upF f 2 (putL k s ps).1 (pieces (putL k s ps).2.1.flatten)).levels + 1, (upF f 2 (putL k s ps).1 (pieces (putL k s ps).2.1.flatten)).err⟩) else ⟨s, [], 0, (putL k s ps).2.2⟩
theorem loopF_more {σ β : Type} {body : σ → Option (Step σ β)} {b : β} : ∀ {n m : Nat} {s : σ}, loopF body n s = some b → n ≤ m → loopF body m s = some b
 | 0, _, _, h, _ => by cases h
 | n + 1, 0, _, _, hm => by omega
 | n + 1, m + 1, s, h, hm => by
  simp only [loopF] at h ⊢
  cases hb : body s with
  | none => rw [hb] at h; cases h
  | some x =>
   rw [hb] at h
   cases x with
   | done b' => exact h
   | next s' => exact loopF_more (n := n) (m := m) (s := s') h (by omega)
theorem nP_up {n f : Nat} (h : n ≤ 32 ^ (f + 1)) : nP (32 * n) ≤ 32 ^ f := by
 have h1 : 1 ≤ 32 ^ f := Nat.pos_of_ne_zero (by simp)
 rw [Nat.pow_succ] at h
 unfold nP
 omega
theorem upP : ∀ (f : Nat) {k : Int} {s : api_Store} (r : api_Root) {ps : List Str}, 1 ≤ k ∧ k ≤ 4 → StOK s → (∀ p ∈ ps, p.length ≤ 1024) → 1 ≤ ps.length → ps.length ≤ 32 ^ f → ps.length ≤ 1073741824 →
  ∃ q, loopF archive_put_L2 (f + 1) (k, s, r, ps) = some (.ret q) ∧ if (upF (f + 1) k s ps).err = 0 then q = ((upF (f + 1) k s ps).store, api_Root.mk (upF (f + 1) k s ps).score r.Length_ r.Levels_, 0) else ∃ s', q = (s', root0, (upF (f + 1) k s ps).err)
 | f, k, s, r, ps, hk, hs, hps, h1, hf, hn => by
  obtain ⟨o, ho, hc⟩ := passP hk hs r hps hn
  by_cases he : (putL k s ps).2.2 = 0
  ·rw [if_pos he] at hc
   subst hc
   obtain ⟨l1, l2⟩ := putL_len hk hs he
   obtain ⟨ok1, _, _⟩ := putL_ok hk (ps := ps) hs
   by_cases h1' : ps.length = 1
   ·have hu : upF (f + 1) k s ps = ⟨(putL k s ps).1, (putL k s ps).2.1.getLastD [], 0, 0⟩ := by unfold upF; rw [if_pos he, if_pos h1']
    rw [hu]
    refine ⟨_, loopF_done (body := archive_put_L2) (b := .ret ((putL k s ps).1, api_Root.mk ((putL k s ps).2.1.getLastD r.Score_) r.Length_ r.Levels_, 0)) (bind_eq ho (cond_t (by simp [h1']) rfl)), ?_⟩
    ·rw [if_pos rfl]
     obtain ⟨x, hx⟩ := List.length_eq_one_iff.1 (l1.trans h1')
     rw [hx]
     rfl
   ·obtain ⟨f, rfl⟩ : ∃ f', f = f' + 1 := ⟨f - 1, by
     rcases f with _ | f
     ·simp at hf; omega
     ·rfl⟩
    have hfl : (putL k s ps).2.1.flatten.length = 32 * ps.length := by rw [flat32_len l2, l1]
    have hp2 : ∀ p ∈ pieces (putL k s ps).2.1.flatten, p.length ≤ 1024 := fun p hp => by
     obtain ⟨j, _, rfl⟩ := List.mem_map.1 hp
     rw [piece_len]
     omega
    have hpl : (pieces (putL k s ps).2.1.flatten).length = nP (32 * ps.length) := by rw [pieces_len, hfl]
    have hb : nP (32 * ps.length) ≤ 32 ^ f := nP_up hf
    obtain ⟨q, hq, hq'⟩ := upP f (k := 2) (s := (putL k s ps).1) (api_Root.mk ((putL k s ps).2.1.getLastD r.Score_) r.Length_ r.Levels_) (ps := pieces (putL k s ps).2.1.flatten) (by omega) ok1 hp2 (by rw [hpl]; exact Nat.le_max_left _ _) (by rw [hpl]; exact hb) (by rw [hpl]; unfold nP; omega)
    refine ⟨q, loopF_step (s' := (2, (putL k s ps).1, api_Root.mk ((putL k s ps).2.1.getLastD r.Score_) r.Length_ r.Levels_, pieces (putL k s ps).2.1.flatten)) ?_ hq, ?_⟩
    ·refine bind_eq ho (cond_f (by simp; omega) (bind_eq (chunks_eq (by rw [hfl]; omega)) rfl))
    ·have hu : upF (f + 1 + 1) k s ps = ⟨(upF (f + 1) 2 (putL k s ps).1 (pieces (putL k s ps).2.1.flatten)).store, (upF (f + 1) 2 (putL k s ps).1 (pieces (putL k s ps).2.1.flatten)).score, (upF (f + 1) 2 (putL k s ps).1 (pieces (putL k s ps).2.1.flatten)).levels + 1, (upF (f + 1) 2 (putL k s ps).1 (pieces (putL k s ps).2.1.flatten)).err⟩ := by
      rw [upF, if_pos he, if_neg h1']
     rw [hu]
     exact hq'
  ·rw [if_neg he] at hc
   obtain ⟨s', rfl⟩ := hc
   have hu : upF (f + 1) k s ps = ⟨s, [], 0, (putL k s ps).2.2⟩ := by unfold upF; rw [if_neg he]
   rw [hu]
   refine ⟨_, loopF_done (body := archive_put_L2) (b := .ret (s', root0, (putL k s ps).2.2)) (bind_eq ho rfl), ?_⟩
   rw [if_neg he]
   exact ⟨_, rfl⟩
theorem upR (x0 : api_Store) : ∀ (f : Nat) {s : api_Store} {l : List Str} (lev : Int), StOK s → all32 l → 1 ≤ l.length → l.length ≤ 32 ^ f → l.length ≤ 1073741824 → 0 ≤ lev → lev + f ≤ 1000 →
  loopF (ref16_put_L4 x0) (f + 1) (lev, s, l) = some (if l.length = 1 then .fall (lev, s, l) else if (upF f 2 s (pieces l.flatten)).err = 0 then .fall (lev + 1 + (upF f 2 s (pieces l.flatten)).levels, (upF f 2 s (pieces l.flatten)).store, [(upF f 2 s (pieces l.flatten)).score]) else .ret (x0, root0, (upF f 2 s (pieces l.flatten)).err))
 | f, s, l, lev, hs, hl, h1, hf, hn, hl0, hl1 => by
  by_cases h1' : l.length = 1
  ·rw [if_pos h1']
   exact loopF_done (cond_f (by simp; omega) rfl)
  ·rw [if_neg h1']
   obtain ⟨f, rfl⟩ : ∃ f', f = f' + 1 := ⟨f - 1, by
    rcases f with _ | f
    ·simp at hf; omega
    ·rfl⟩
   have hp := passR (x0 := x0) hs hl h1 hn
   have hpl : (pieces l.flatten).length = nP (32 * l.length) := by rw [pieces_len, flat32_len hl]
   have hb : nP (32 * l.length) ≤ 32 ^ f := nP_up hf
   have hw : w64 (lev + 1) = lev + 1 := w64_eq ⟨by omega, by omega⟩
   by_cases he : (putL 2 s (pieces l.flatten)).2.2 = 0
   ·rw [if_pos he] at hp
    obtain ⟨l1, l2⟩ := putL_len (by omega) hs he
    obtain ⟨ok1, _, _⟩ := putL_ok (k := 2) (by omega) (ps := pieces l.flatten) hs
    have hn1 : 1 ≤ nP (32 * l.length) := Nat.le_max_left _ _
    have ih := upR x0 f (s := (putL 2 s (pieces l.flatten)).1) (l := (putL 2 s (pieces l.flatten)).2.1) (lev + 1) ok1 l2 (by rw [l1, hpl]; exact hn1) (by rw [l1, hpl]; exact hb) (by rw [l1, hpl]; unfold nP; omega) (by omega) (by omega)
    refine loopF_step (s' := (lev + 1, (putL 2 s (pieces l.flatten)).1, (putL 2 s (pieces l.flatten)).2.1)) (cond_t (by simp; omega) (bind_eq hp (by rw [hw]))) (ih.trans ?_)
    by_cases h2 : (putL 2 s (pieces l.flatten)).2.1.length = 1
    ·rw [if_pos h2]
     have hu : upF (f + 1) 2 s (pieces l.flatten) = ⟨(putL 2 s (pieces l.flatten)).1, (putL 2 s (pieces l.flatten)).2.1.getLastD [], 0, 0⟩ := by unfold upF; rw [if_pos he, if_pos (l1 ▸ h2)]
     rw [hu, if_pos rfl]
     obtain ⟨x, hx⟩ : ∃ x, (putL 2 s (pieces l.flatten)).2.1 = [x] := List.length_eq_one_iff.1 h2
     rw [hx]
     simp
    ·rw [if_neg h2]
     have hu : upF (f + 1) 2 s (pieces l.flatten) = ⟨(upF f 2 (putL 2 s (pieces l.flatten)).1 (pieces (putL 2 s (pieces l.flatten)).2.1.flatten)).store, (upF f 2 (putL 2 s (pieces l.flatten)).1 (pieces (putL 2 s (pieces l.flatten)).2.1.flatten)).score, (upF f 2 (putL 2 s (pieces l.flatten)).1 (pieces (putL 2 s (pieces l.flatten)).2.1.flatten)).levels + 1, (upF f 2 (putL 2 s (pieces l.flatten)).1 (pieces (putL 2 s (pieces l.flatten)).2.1.flatten)).err⟩ := by
      rw [upF, if_pos he, if_neg (l1 ▸ h2)]
     rw [hu]
     simp only
     split
     ·congr 3
      omega
     ·rfl
   ·rw [if_neg he] at hp
    have hu : upF (f + 1) 2 s (pieces l.flatten) = ⟨s, [], 0, (putL 2 s (pieces l.flatten)).2.2⟩ := by unfold upF; rw [if_neg he]
    rw [hu]
    simp only
    rw [if_neg he]
    exact loopF_done (cond_t (by simp; omega) (bind_eq hp rfl))
def bA : Nat → Nat → Nat
 | n, 0 => n
 | n, l + 1 => (bA n l + 31) / 32
theorem bA_bound {n : Nat} (h : n ≤ 1073741824) : ∀ l, bA n l ≤ 1073741824
 | 0 => h
 | l + 1 => by have := bA_bound h l; unfold bA; omega
theorem quo32 {n : Nat} (h : n ≤ 1073741824) : IntKind.i64.wrap ((w64 ((w64 ((n : Int) + 32)) - 1)).tdiv 32) = (((n + 31) / 32 : Nat) : Int) := by
 rw [w64_eq (n := (n : Int) + 32) ⟨by omega, by omega⟩, w64_eq ⟨by omega, by omega⟩, Int.tdiv_eq_ediv_of_nonneg (by omega), wi64_eq ⟨by omega, by omega⟩]
 omega
theorem quo1024 {n : Nat} (h : n ≤ 1073741824) : IntKind.i64.wrap ((w64 ((w64 ((n : Int) + 1024)) - 1)).tdiv 1024) = (((n + 1023) / 1024 : Nat) : Int) := by
 rw [w64_eq (n := (n : Int) + 1024) ⟨by omega, by omega⟩, w64_eq ⟨by omega, by omega⟩, Int.tdiv_eq_ediv_of_nonneg (by omega), wi64_eq ⟨by omega, by omega⟩]
 omega
theorem max_nP (n : Nat) : maxI 1 (((n + 1023) / 1024 : Nat) : Int) = ((nP n : Nat) : Int) := by
 unfold maxI nP
 split <;> omega
theorem blocksAt_eq {n : Nat} (hn : n ≤ 1073741824) {l : Nat} (hl : l ≤ 1073741824) : archive_blocksAt (n : Int) (l : Int) = some ((bA (nP n) l : Nat) : Int) := by
 unfold archive_blocksAt
 rw [quo1024 hn, max_nP]
 have hb := bA_bound (n := nP n) (by unfold nP; omega)
 refine bind_eq (a := ((bA (nP n) l : Nat) : Int)) ?_ rfl
 refine loop_traj (T := fun i => (((bA (nP n) i : Nat) : Int), (i : Int))) l (lt_big (by omega)) (fun i hi => ?_) ?_
 ·unfold archive_blocksAt_L1
  refine cond_t (by simp; omega) ?_
  show some (Step.next (IntKind.i64.wrap ((w64 ((w64 (((bA (nP n) i : Nat) : Int) + 32)) - 1)).tdiv 32), w64 ((i : Int) + 1))) = _
  rw [quo32 (hb i), w_succ (by omega)]
  rfl
 ·unfold archive_blocksAt_L1
  exact cond_f (by simp) rfl
def hN (n : Nat) : Nat := if n ≤ 1 then 0 else if n ≤ 32 then 1 else 2
theorem nP_le {n : Nat} (h : n ≤ 1048576) : 1 ≤ nP n ∧ nP n ≤ 1024 := by unfold nP; omega
theorem bA_gt {n i : Nat} (h : n ≤ 1024) (hi : i < hN n) : 1 < bA n i := by
 unfold hN at hi
 split at hi
 ·omega
 ·split at hi
  ·obtain rfl : i = 0 := by omega
   show 1 < n
   omega
  ·have : i = 0 ∨ i = 1 := by omega
   rcases this with rfl | rfl
   ·show 1 < n
    omega
   ·show 1 < (n + 31) / 32
    omega
theorem bA_one {n : Nat} (h1 : 1 ≤ n) (h : n ≤ 1024) : bA n (hN n) = 1 := by
 unfold hN
 split
 ·show n = 1
  omega
 ·split
  ·show (n + 31) / 32 = 1
   omega
  ·show ((n + 31) / 32 + 31) / 32 = 1
   omega
theorem hN_le (n : Nat) : hN n ≤ 2 := by unfold hN; split <;> (try split) <;> omega
theorem hN_up {n : Nat} (h : 1 < n) (h2 : n ≤ 1024) : hN n = hN ((n + 31) / 32) + 1 := by
 unfold hN
 by_cases h3 : n ≤ 32
 ·rw [if_neg (by omega), if_pos h3, if_pos (by omega)]
 ·rw [if_neg (by omega), if_neg h3, if_neg (by omega), if_pos (by omega)]
theorem height_eq {n : Nat} (hn : n ≤ 1048576) : archive_height (n : Int) = some ((hN (nP n) : Nat) : Int) := by
 unfold archive_height
 obtain ⟨n1, n2⟩ := nP_le hn
 have h2 := hN_le (nP n)
 refine bind_eq (a := ((hN (nP n) : Nat) : Int)) ?_ rfl
 refine loop_traj (T := fun i => (i : Int)) (hN (nP n)) (lt_big (by omega)) (fun i hi => ?_) ?_
 ·unfold archive_height_L1
  refine bind_eq (blocksAt_eq (by omega) (by omega)) (cond_t ?_ (by rw [w_succ (by omega)]))
  have := bA_gt n2 hi
  simp only [decide_eq_true_eq]
  omega
 ·unfold archive_height_L1
  refine bind_eq (blocksAt_eq (by omega) (by omega)) (cond_f ?_ rfl)
  rw [bA_one n1 n2]
  rfl
def putS (s : api_Store) (k : Int) (d : Str) : Up := upF 3 k s (pieces d)
theorem upF_levels : ∀ (f : Nat) {k : Int} {s : api_Store} {ps : List Str}, 1 ≤ k ∧ k ≤ 4 → StOK s → (upF f k s ps).err = 0 → 1 ≤ ps.length → ps.length ≤ 1024 → (upF f k s ps).levels = ((hN ps.length : Nat) : Int)
 | 0, k, s, ps, _, _, h, _, _ => by simp [upF] at h
 | f + 1, k, s, ps, hk, hs, h, h1, hn => by
  unfold upF at h ⊢
  split at h
  ·rename_i he
   obtain ⟨l1, l2⟩ := putL_len hk hs he
   obtain ⟨ok1, _, _⟩ := putL_ok hk (ps := ps) hs
   rw [if_pos he]
   split at h
   ·rename_i h1'
    rw [if_pos h1', h1']
    rfl
   ·rename_i h1'
    rw [if_neg h1']
    simp only at h ⊢
    have hpl : (pieces (putL k s ps).2.1.flatten).length = nP (32 * ps.length) := by rw [pieces_len, flat32_len l2, l1]
    have hu : nP (32 * ps.length) = (ps.length + 31) / 32 := by unfold nP; omega
    rw [upF_levels f (by omega) ok1 h (by rw [hpl, hu]; omega) (by rw [hpl, hu]; omega), hpl, hu]
    rw [hN_up (by omega) hn]
    rfl
  ·rename_i he
   exact absurd h he
theorem putP {s : api_Store} {k : Int} {d : Str} (hk : 1 ≤ k ∧ k ≤ 4) (hs : StOK s) (hd : d.length ≤ 1048576) :
  ∃ q, archive_put s k d = some q ∧ if (putS s k d).err = 0 then q = ((putS s k d).store, api_Root.mk (putS s k d).score (d.length : Int) ((hN (nP d.length) : Nat) : Int), 0) else ∃ s', q = (s', root0, (putS s k d).err) := by
 have hpl : (pieces d).length = nP d.length := pieces_len d
 obtain ⟨n1, n2⟩ := nP_le hd
 obtain ⟨q, h1, h2⟩ := upP 2 (api_Root.mk [] (d.length : Int) ((hN (nP d.length) : Nat) : Int)) (ps := pieces d) hk hs (fun p hp => by
  obtain ⟨j, _, rfl⟩ := List.mem_map.1 hp
  rw [piece_len]
  omega) (by omega) (by rw [hpl]; exact n2) (by omega)
 refine ⟨q, ?_, h2⟩
 unfold archive_put
 exact bind_eq (height_eq hd) (bind_eq (chunks_eq (by omega)) (bind_eq (loopF_more h1 (by decide)) rfl))
theorem putR {s : api_Store} {k : Int} {d : Str} (hk : 1 ≤ k ∧ k ≤ 4) (hs : StOK s) (hd : d.length ≤ 1048576) :
  ref16_put s k d = some (if (putS s k d).err = 0 then ((putS s k d).store, api_Root.mk (putS s k d).score (d.length : Int) ((hN (nP d.length) : Nat) : Int), 0) else (s, root0, (putS s k d).err)) := by
 have hpl : (pieces d).length = nP d.length := pieces_len d
 obtain ⟨n1, n2⟩ := nP_le hd
 have hlev := upF_levels 3 (k := k) (s := s) (ps := pieces d) hk hs
 unfold ref16_put putS
 refine cond_f (by simp; omega) (bind_eq (passR0 hk hs (by omega)) ?_)
 by_cases he : (putL k s (pieces d)).2.2 = 0
 ·simp only [if_pos he]
  obtain ⟨l1, l2⟩ := putL_len hk hs he
  obtain ⟨ok1, _, _⟩ := putL_ok hk (ps := pieces d) hs
  have h := loopF_more (upR s 2 (s := (putL k s (pieces d)).1) (l := (putL k s (pieces d)).2.1) 0 ok1 l2 (by omega) (by rw [l1, hpl]; exact n2) (by omega) (by omega) (by omega)) (show 2 + 1 ≤ BIG by decide)
  refine bind_eq h ?_
  rw [l1]
  by_cases h1 : (pieces d).length = 1
  ·have hu : upF 3 k s (pieces d) = ⟨(putL k s (pieces d)).1, (putL k s (pieces d)).2.1.getLastD [], 0, 0⟩ := by unfold upF; rw [if_pos he, if_pos h1]
   rw [hu] at hlev ⊢
   rw [if_pos h1]
   obtain ⟨x, hx⟩ : ∃ x, (putL k s (pieces d)).2.1 = [x] := List.length_eq_one_iff.1 (l1.trans h1)
   rw [hx]
   have hl := hlev rfl (by omega) (by omega)
   rw [hpl] at hl
   simp only at hl
   rw [← hl]
   simp only [getI, both_self]
   simp
  ·have hu : upF 3 k s (pieces d) = ⟨(upF 2 2 (putL k s (pieces d)).1 (pieces (putL k s (pieces d)).2.1.flatten)).store, (upF 2 2 (putL k s (pieces d)).1 (pieces (putL k s (pieces d)).2.1.flatten)).score, (upF 2 2 (putL k s (pieces d)).1 (pieces (putL k s (pieces d)).2.1.flatten)).levels + 1, (upF 2 2 (putL k s (pieces d)).1 (pieces (putL k s (pieces d)).2.1.flatten)).err⟩ := by
    rw [upF, if_pos he, if_neg h1]
   rw [hu] at hlev ⊢
   rw [if_neg h1]
   simp only at hlev ⊢
   by_cases hz : (upF 2 2 (putL k s (pieces d)).1 (pieces (putL k s (pieces d)).2.1.flatten)).err = 0
   ·have hl := hlev hz (by omega) (by omega)
    rw [hpl] at hl
    rw [if_pos hz, if_pos hz, ← hl]
    simp only [getI, both_self]
    simp [Int.add_comm]
   ·rw [if_neg hz, if_neg hz]
 ·have hu : upF 3 k s (pieces d) = ⟨s, [], 0, (putL k s (pieces d)).2.2⟩ := by unfold upF; rw [if_neg he]
  rw [hu]
  simp only [if_neg he]
end Go.Proofs.YtfdmakpcmkbhhaaGreatDoor
namespace Go.Proofs.YtfdmakpcmkbhhaaGreatDoor
open Go.Rt Go.RowKit Go.Sort
theorem perm_sorted_eq {α : Type} {R : α → α → Prop} : ∀ {l1 l2 : List α}, l1.Perm l2 → l1.Pairwise R → l2.Pairwise R → (∀ a, a ∈ l1 → ∀ b, b ∈ l1 → R a b → R b a → a = b) → l1 = l2
 | [], l2, hp, _, _, _ => hp.nil_eq
 | a :: l1, [], hp, _, _, _ => absurd hp.length_eq (by simp)
 | a :: l1, b :: l2, hp, h1, h2, hR => by
  have h1' := List.pairwise_cons.1 h1
  have h2' := List.pairwise_cons.1 h2
  have hab : a = b := by
   by_cases e : a = b
   ·exact e
   have ha : a ∈ b :: l2 := hp.subset List.mem_cons_self
   have hb : b ∈ a :: l1 := hp.symm.subset List.mem_cons_self
   rcases List.mem_cons.1 ha with h | ha'
   ·exact h
   rcases List.mem_cons.1 hb with h | hb'
   ·exact h.symm
   exact hR a List.mem_cons_self b hb (h1'.1 b hb') (h2'.1 a ha')
  subst hab
  rw [perm_sorted_eq hp.cons_inv h1'.2 h2'.2 fun x hx y hy => hR x (List.mem_cons_of_mem _ hx) y (List.mem_cons_of_mem _ hy)]
def insS {α : Type} (le : α → α → Bool) (x : α) : List α → List α
 | [] => [x]
 | y :: l => bif le x y then x :: y :: l else y :: insS le x l
def isort {α : Type} (le : α → α → Bool) : List α → List α
 | [] => []
 | x :: l => insS le x (isort le l)
section
variable {α : Type} {le : α → α → Bool}
theorem insS_perm (x : α) : ∀ (l : List α), (insS le x l).Perm (x :: l)
 | [] => List.Perm.refl _
 | y :: l => by
  unfold insS
  cases le x y with
  | true => exact List.Perm.refl _
  | false => exact ((insS_perm x l).cons y).trans (List.Perm.swap x y l)
theorem isort_perm : ∀ (l : List α), (isort le l).Perm l
 | [] => List.Perm.refl _
 | x :: l => (insS_perm x _).trans ((isort_perm l).cons x)
theorem insS_sorted (ht : ∀ a b c, le a b = true → le b c = true → le a c = true) (hl : ∀ a b, le a b = true ∨ le b a = true) (x : α) : ∀ (l : List α), l.Pairwise (fun a b => le a b = true) → (insS le x l).Pairwise (fun a b => le a b = true)
 | [], _ => by simp [insS]
 | y :: l, h => by
  obtain ⟨h1, h2⟩ := List.pairwise_cons.1 h
  unfold insS
  cases hx : le x y with
  | true =>
   refine List.pairwise_cons.2 ⟨fun z hz => ?_, h⟩
   rcases List.mem_cons.1 hz with rfl | hz
   ·exact hx
   ·exact ht _ _ _ hx (h1 z hz)
  | false =>
   refine List.pairwise_cons.2 ⟨fun z hz => ?_, insS_sorted ht hl x l h2⟩
   rcases List.mem_cons.1 ((insS_perm x l).subset hz) with rfl | hz
   ·rcases hl z y with h' | h'
    ·rw [hx] at h'; cases h'
    ·exact h'
   ·exact h1 z hz
theorem isort_sorted (ht : ∀ a b c, le a b = true → le b c = true → le a c = true) (hl : ∀ a b, le a b = true ∨ le b a = true) : ∀ (l : List α), (isort le l).Pairwise (fun a b => le a b = true)
 | [] => List.Pairwise.nil
 | x :: l => insS_sorted ht hl x _ (isort_sorted ht hl l)
end
def leS (x y : Str) : Bool := decide (x ≤ y)
theorem leS_trans (a b c : Str) (h1 : leS a b = true) (h2 : leS b c = true) : leS a c = true := by
 unfold leS at *
 simp only [decide_eq_true_eq] at *
 exact List.le_trans h1 h2
theorem leS_total (a b : Str) : leS a b = true ∨ leS b a = true := by
 unfold leS
 simp only [decide_eq_true_eq]
 exact List.le_total a b
theorem leS_anti (a b : Str) (h1 : leS a b = true) (h2 : leS b a = true) : a = b := by
 unfold leS at *
 simp only [decide_eq_true_eq] at *
 exact List.le_antisymm h1 h2
def sortC (xs : List Str) : Option (List Str) := if xs.length < 4611686018427387904 then some (isort leS xs) else none
theorem sortS_eq : slices_SortS = sortC := by
 funext xs
 unfold slices_SortS sortC
 split
 ·congr 1
  refine perm_sorted_eq (R := fun a b => leS a b = true) ((List.mergeSort_perm xs _).trans (isort_perm xs).symm) ?_ (isort_sorted leS_trans leS_total xs) fun a _ b _ => leS_anti a b
  exact List.pairwise_mergeSort leS_trans (fun a b => by
   rcases leS_total a b with h | h
   ·rw [h]; rfl
   ·rw [h, Bool.or_true]) xs
 ·rfl
def leK {α : Type} (key : α → Int) (x y : α) : Bool := decide (key x ≤ key y)
theorem leK_trans {α : Type} (key : α → Int) (a b c : α) (h1 : leK key a b = true) (h2 : leK key b c = true) : leK key a c = true := by
 unfold leK at *
 simp only [decide_eq_true_eq] at *
 omega
theorem leK_total {α : Type} (key : α → Int) (a b : α) : leK key a b = true ∨ leK key b a = true := by
 unfold leK
 simp only [decide_eq_true_eq]
 omega
theorem key_inj {α : Type} {key : α → Int} : ∀ {l : List α}, (l.map key).Nodup → ∀ a, a ∈ l → ∀ b, b ∈ l → key a = key b → a = b
 | [], _, a, ha, _, _, _ => by cases ha
 | x :: l, h, a, ha, b, hb, e => by
  rw [List.map_cons] at h
  obtain ⟨h1, h2⟩ := List.nodup_cons.1 h
  rcases List.mem_cons.1 ha with ha1 | ha1 <;> rcases List.mem_cons.1 hb with hb1 | hb1
  ·rw [ha1, hb1]
  ·rw [ha1] at e
   exact absurd (List.mem_map.2 ⟨b, hb1, e.symm⟩) h1
  ·rw [hb1] at e
   exact absurd (List.mem_map.2 ⟨a, ha1, e⟩) h1
  ·exact key_inj h2 a ha1 b hb1 e
theorem sortBy_perm {α : Type} [Inhabited α] {key : α → Int} {xs ys : List α} (h : sortBy key xs = some ys) : ys.Perm xs ∧ ys.Pairwise fun a b => leK key a b = true := by
 unfold sortBy at h
 split at h
 ·obtain rfl := Option.some.inj h
  have hs := pdq_sorts (fun (x y : α) => decide (key x < key y)) ⟨fun x => by simp, fun x y z h1 h2 => by simp at *; omega, fun x y z h1 h2 => by simp at *; omega⟩ xs.toArray 0 xs.length (Lib.bitLen xs.length) true true (Nat.zero_le _) (by simp) (Or.inl rfl)
  generalize Sort.pdq (fun (x y : α) => decide (key x < key y)) xs.toArray 0 xs.length (Lib.bitLen xs.length) true true = d at hs
  obtain ⟨⟨h1, _, h2⟩, h3⟩ := hs
  have h1' : d.size = xs.length := by simpa using h1
  have e1 : d.extract 0 xs.length = d := by rw [← h1']; simp
  have e2 : xs.toArray.extract 0 xs.length = xs.toArray := by
   have : xs.length = xs.toArray.size := by simp
   rw [this]
   simp
  rw [e1, e2] at h2
  refine ⟨by simpa using h2, List.pairwise_iff_getElem.2 fun i j hi hj hij => ?_⟩
  have hj' : j < xs.length := by simpa [h1'] using hj
  have := h3 i j (Nat.zero_le _) hij hj'
  rw [getElem!_pos d j (by omega), getElem!_pos d i (by omega)] at this
  unfold leK
  simp only [decide_eq_true_eq, decide_eq_false_iff_not] at *
  simpa using this
 ·cases h
def sortByC {α : Type} [Inhabited α] (key : α → Int) (xs : List α) : Option (List α) := if xs.length < 4611686018427387904 then (if (xs.map key).Nodup then some (isort (leK key) xs) else sortBy key xs) else none
theorem sortBy_eq {α : Type} [Inhabited α] : @sortBy α _ = sortByC := by
 funext key xs
 unfold sortByC
 split
 ·rename_i hl
  split
  ·rename_i hn
   obtain ⟨ys, hy⟩ : ∃ ys, sortBy key xs = some ys := ⟨_, by unfold sortBy; rw [if_pos hl]⟩
   obtain ⟨h1, h2⟩ := sortBy_perm hy
   rw [hy]
   congr 1
   refine perm_sorted_eq (h1.trans (isort_perm xs).symm) h2 (isort_sorted (leK_trans key) (leK_total key) xs) fun a ha b hb h3 h4 => ?_
   refine key_inj hn a (h1.subset ha) b (h1.subset hb) ?_
   unfold leK at h3 h4
   simp only [decide_eq_true_eq] at h3 h4
   omega
  ·rfl
 ·rename_i hl
  unfold sortBy
  rw [if_neg hl]
end Go.Proofs.YtfdmakpcmkbhhaaGreatDoor
namespace Go.Proofs.YtfdmakpcmkbhhaaGreatDoor
open Go.Rt Go.RowKit
section
def msg1 : Str := [1, 104, 101, 108, 108, 111]
def dig1 : Str := [204, 238, 183, 169, 133, 236, 195, 218, 188, 180, 200, 246, 102, 205, 99, 127, 22, 240, 8, 227, 201, 99, 219, 106, 166, 248, 58, 123, 40, 140, 84, 239]
theorem sum1 : hash_Sum msg1 = some dig1 := by kernel_rfl
def msg2 : Str := [3, 2, 0, 0, 0, 1, 0, 0, 0, 0, 0, 0, 0, 164, 1, 0, 0, 0, 0, 0, 0, 0, 0, 0, 0, 0, 0, 0, 0, 0, 0, 0, 0, 1, 0, 102, 0, 0, 0, 0, 0, 0, 5, 0, 0, 0, 0, 204, 238, 183, 169, 133, 236, 195, 218, 188, 180, 200, 246, 102, 205, 99, 127, 22, 240, 8, 227, 201, 99, 219, 106, 166, 248, 58, 123, 40, 140, 84, 239]
def dig2 : Str := [176, 255, 183, 210, 250, 10, 74, 65, 38, 13, 44, 89, 204, 150, 104, 208, 212, 241, 168, 216, 246, 72, 163, 167, 7, 246, 123, 53, 136, 218, 230, 37]
theorem sum2 : hash_Sum msg2 = some dig2 := by kernel_rfl
def msg3 : Str := [4, 3, 0, 0, 0, 2, 0, 0, 0, 1, 0, 0, 0, 1, 0, 0, 0, 0, 0, 0, 0, 237, 1, 0, 128, 0, 0, 0, 0, 0, 0, 0, 0, 0, 0, 0, 0, 0, 0, 0, 0, 1, 0, 47, 3, 0, 97, 100, 109, 0, 0, 0, 0, 78, 0, 0, 0, 0, 176, 255, 183, 210, 250, 10, 74, 65, 38, 13, 44, 89, 204, 150, 104, 208, 212, 241, 168, 216, 246, 72, 163, 167, 7, 246, 123, 53, 136, 218, 230, 37]
def dig3 : Str := [176, 193, 163, 204, 153, 127, 223, 69, 183, 249, 225, 11, 5, 21, 158, 75, 70, 168, 90, 200, 231, 187, 132, 221, 5, 59, 121, 218, 61, 100, 126, 122]
theorem sum3 : hash_Sum msg3 = some dig3 := by kernel_rfl
noncomputable def sumC (s : Str) : Option Str := bif s == msg1 then some dig1 else bif s == msg2 then some dig2 else bif s == msg3 then some dig3 else hash_Sum s
theorem e_sum : hash_Sum = sumC := by
 funext s
 unfold sumC
 cases h1 : s == msg1 with
 | true =>
  obtain rfl := eq_of_beq h1
  exact sum1
 | false =>
  cases h2 : s == msg2 with
  | true =>
   obtain rfl := eq_of_beq h2
   exact sum2
  | false =>
   cases h3 : s == msg3 with
   | true =>
    obtain rfl := eq_of_beq h3
    exact sum3
   | false => rfl
def cloneC (xs : List api_Block) : Option (List api_Block) := room 40 ([] : List api_Block) xs
theorem e_clone : slices_Clone_apiBlockapiBlock = cloneC := by
 funext xs
 unfold slices_Clone_apiBlockapiBlock cloneC
 cases xs with
 | nil => exact both_self _
 | cons x l =>
  show Option.bind (room 40 ([] : List api_Block) (x :: l)) (fun y => some y) = _
  cases room 40 ([] : List api_Block) (x :: l) <;> rfl
def bothC {R : Type} [DecidableEq R] (x y : Option R) : Option R := if x = y then x else none
theorem e_both {R : Type} [DecidableEq R] : @both R = bothC := by
 funext x y
 unfold both bothC
 split <;> rfl
noncomputable def archive_own_c (x0 : api_Store) : Option api_Store :=
 (cloneC x0.Blocks_).bind fun y1 =>
 some ((api_Store.mk x0.Cap_ y1))
theorem e_archive_own : archive_own = archive_own_c := by
 funext x0
 simp only [archive_own, archive_own_c, e_clone] <;> rfl
noncomputable def block_clone_c (x0 : api_Store) : Option api_Store :=
 (cloneC x0.Blocks_).bind fun y1 =>
 some ((api_Store.mk x0.Cap_ y1))
theorem e_block_clone : block_clone = block_clone_c := by
 funext x0
 simp only [block_clone, block_clone_c, e_clone] <;> rfl
noncomputable def hash_Score_c (x0 : Int) (x1 : Str) : Option Str :=
 (cat (bytesS [(IntKind.u8.wrap x0)]) x1).bind fun y1 =>
 (sumC y1).bind fun y2 =>
 some (y2)
theorem e_hash_Score : hash_Score = hash_Score_c := by
 funext x0 x1
 simp only [hash_Score, hash_Score_c, e_sum] <;> rfl
noncomputable def block_made_c (x0 : Int) (x1 : Str) : Option api_Block :=
 (hash_Score_c x0 x1).bind fun y1 =>
 some ((api_Block.mk y1 x0 x1))
theorem e_block_made : block_made = block_made_c := by
 funext x0 x1
 simp only [block_made, block_made_c, e_hash_Score] <;> rfl
noncomputable def block_Put_c (x0 : api_Store) (x1 : Int) (x2 : Str) : Option (api_Store × Str × Int) :=
 (block_clone_c x0).bind fun y1 =>
 (block_known x1).bind fun y2 =>
 (bif (!y2) then
  some ((y1, [], 1))
 else
  (bif (decide ((x2.length : Int) > 1024)) then
   some ((y1, [], 4))
  else
   (block_made_c x1 x2).bind fun y3 =>
   (block_index x0 y3.Score_).bind fun y4 =>
   (bif (decide (y4 ≥ 0)) then
    (getI x0.Blocks_ y4).bind fun y5 =>
    (bif (!(decide (y5 = y3))) then
     some ((y1, [], 34))
    else
     some ((y1, y3.Score_, 0)))
   else
    (bif (decide ((x0.Blocks_.length : Int) ≥ x0.Cap_)) then
     some ((y1, [], 22))
    else
     (room 40 y1.Blocks_ [y3]).bind fun y6 =>
     some (((api_Store.mk y1.Cap_ y6), y3.Score_, 0))))))
theorem e_block_Put : block_Put = block_Put_c := by
 funext x0 x1 x2
 simp only [block_Put, block_Put_c, e_block_clone, e_block_made] <;> rfl
noncomputable def archive_put_L1_c (s4 : Int × api_Store × api_Root × (List Str)) (s6 : Str × Int × Int × (List api_Block) × api_Root × (List Str)) : Option (Step (Str × Int × Int × (List api_Block) × api_Root × (List Str)) (Out (Str × api_Store × api_Root × (List Str)) (api_Store × api_Root × Int))) :=
 (bif (decide (s6.2.1 < (s4.2.2.2.length : Int))) then
  (getI s6.2.2.2.2.2 s6.2.1).bind fun y13 =>
  (block_Put_c (api_Store.mk s6.2.2.1 s6.2.2.2.1) s4.1 y13).bind fun y14 =>
  (bif (y14.2.2 != 0) then
   some (.done (.ret (((api_Store.mk s6.2.2.1 s6.2.2.2.1), (api_Root.mk [] 0 0), y14.2.2))))
  else
   (cat s6.1 y14.2.1).bind fun y15 =>
   some (.next (y15, (w64 (s6.2.1 + 1)), y14.1.Cap_, y14.1.Blocks_, (api_Root.mk y14.2.1 s6.2.2.2.2.1.Length_ s6.2.2.2.2.1.Levels_), s6.2.2.2.2.2)))
 else
  some (.done (.fall (s6.1, (api_Store.mk s6.2.2.1 s6.2.2.2.1), s6.2.2.2.2.1, s6.2.2.2.2.2))))
theorem e_archive_put_L1 : archive_put_L1 = archive_put_L1_c := by
 funext s4 s6
 simp only [archive_put_L1, archive_put_L1_c, e_block_Put] <;> rfl
noncomputable def archive_put_L2_c (s4 : Int × api_Store × api_Root × (List Str)) : Option (Step (Int × api_Store × api_Root × (List Str)) (Out Unit (api_Store × api_Root × Int))) :=
 Option.bind (loopF (archive_put_L1_c s4) BIG ([], 0, s4.2.1.Cap_, s4.2.1.Blocks_, s4.2.2.1, s4.2.2.2)) fun (wo2 : Out (Str × api_Store × api_Root × (List Str)) (api_Store × api_Root × Int)) => match wo2 with
 | .ret r2 => some (.done (.ret r2))
 | .fall o2 =>
  (bif ((o2.2.2.2.length : Int) == 1) then
   some (.done (.ret ((o2.2.1, o2.2.2.1, 0))))
  else
   (archive_chunks o2.1 1024).bind fun y16 =>
   some (.next (2, o2.2.1, o2.2.2.1, y16)))
theorem e_archive_put_L2 : archive_put_L2 = archive_put_L2_c := by
 funext s4
 simp only [archive_put_L2, archive_put_L2_c, e_archive_put_L1] <;> rfl
noncomputable def archive_put_c (x0 : api_Store) (x1 : Int) (x2 : Str) : Option (api_Store × api_Root × Int) :=
 (archive_height (x2.length : Int)).bind fun y1 =>
 (archive_chunks x2 1024).bind fun y2 =>
 Option.bind (loopF archive_put_L2_c BIG (x1, x0, (api_Root.mk [] (x2.length : Int) y1), y2)) fun (wo3 : Out Unit (api_Store × api_Root × Int)) => match wo3 with
 | .ret r3 => some r3
 | .fall _ =>
  none
theorem e_archive_put : archive_put = archive_put_c := by
 funext x0 x1 x2
 simp only [archive_put, archive_put_c, e_archive_put_L2] <;> rfl
noncomputable def archive_PutFile_c (x0 : api_Store) (x1 : Str) : Option (api_Store × api_Root × Int) :=
 (bif (decide ((x1.length : Int) > 1048576)) then
  (archive_own_c x0).bind fun y1 =>
  some ((y1, (api_Root.mk [] 0 0), 4))
 else
  (archive_put_c x0 1 x1).bind fun y2 =>
  (bif (y2.2.2 != 0) then
   (archive_own_c x0).bind fun y3 =>
   some ((y3, (api_Root.mk [] 0 0), y2.2.2))
  else
   some ((y2.1, y2.2.1, 0))))
theorem e_archive_PutFile : archive_PutFile = archive_PutFile_c := by
 funext x0 x1
 simp only [archive_PutFile, archive_PutFile_c, e_archive_own, e_archive_put] <;> rfl
noncomputable def block_Get_c (x0 : api_Store) (x1 : Str) (x2 : Int) : Option (Str × Int) :=
 (block_index x0 x1).bind fun y1 =>
 (bif (decide (y1 < 0)) then
  some (([], 35))
 else
  (getI x0.Blocks_ y1).bind fun y2 =>
  (bif (y2.Kind_ != x2) then
   some (([], 1))
  else
   (getI x0.Blocks_ y1).bind fun y3 =>
   (getI x0.Blocks_ y1).bind fun y4 =>
   (block_made_c x2 y4.Data_).bind fun y5 =>
   (bif (!(decide (y3 = y5))) then
    some (([], 34))
   else
    (getI x0.Blocks_ y1).bind fun y6 =>
    some ((y6.Data_, 0)))))
theorem e_block_Get : block_Get = block_Get_c := by
 funext x0 x1 x2
 simp only [block_Get, block_Get_c, e_block_made] <;> rfl
noncomputable def archive_reader_block_c (x0 : archive_reader) (x1 : Str) (x2 : Int) : Option (Str × Int × archive_reader) :=
 (block_Get_c x0.store_ x1 x2).bind fun y1 =>
 Option.bind (
  (bif (y1.2 == 1) then
   some 2
  else
   some y1.2)
  ) fun (o1 : Int) =>
 (bif (o1 != 0) then
  some (([], o1, x0))
 else
  (room 16 x0.seen_ [x1]).bind fun y2 =>
  some ((y1.1, 0, (archive_reader.mk x0.store_ y2))))
theorem e_archive_reader_block : archive_reader_block = archive_reader_block_c := by
 funext x0 x1 x2
 simp only [archive_reader_block, archive_reader_block_c, e_block_Get] <;> rfl
noncomputable def archive_reader_part_S_c (rec0 : archive_reader → archive_span → Str → Int → Int → Option (Str × Int × archive_reader)) (x0 : archive_reader) (x1 : archive_span) (x2 : Str) (x3 : Int) (x4 : Int) : Option (Str × Int × archive_reader) :=
 Option.bind (
  (bif (x3 == 0) then
   some x1.kind_
  else
   some 2)
  ) fun (o1 : Int) =>
 (archive_reader_block_c x0 x2 o1).bind fun y1 =>
 (bif (y1.2.1 != 0) then
  some (([], y1.2.1, y1.2.2))
 else
  (archive_span_expected x1 x3 x4).bind fun y2 =>
  (bif ((y1.1.length : Int) != y2) then
   some (([], 2, y1.2.2))
  else
   (archive_width x3).bind fun y3 =>
   (bif (x3 == 0) then
    (subI y1.1 (maxI 0 (w64 (x1.lo_ - (w64 (x4 * y3))))) (minI (y1.1.length : Int) (w64 (x1.hi_ - (w64 (x4 * y3)))))).bind fun y4 =>
    some ((y4, 0, y1.2.2))
   else
    Option.bind (loopF (archive_reader_part_L1 y1 x3 x4 x1 rec0) BIG ([], 0, y1.2.2.store_.Cap_, y1.2.2.store_.Blocks_, y1.2.2.seen_)) fun (wo4 : Out (Str × Int × (List api_Block) × (List Str)) (Str × Int × archive_reader)) => match wo4 with
    | .ret r4 => some r4
    | .fall o4 =>
     some ((o4.1, 0, (archive_reader.mk (api_Store.mk o4.2.1 o4.2.2.1) o4.2.2.2))))))
theorem e_archive_reader_part_S : archive_reader_part_S = archive_reader_part_S_c := by
 funext rec0 x0 x1 x2 x3 x4
 simp only [archive_reader_part_S, archive_reader_part_S_c, e_archive_reader_block] <;> rfl
noncomputable def archive_reader_part_c : Nat → archive_reader → archive_span → Str → Int → Int → Option (Str × Int × archive_reader)
 | 0 => fun _ _ _ _ _ => none
 | n + 1 => archive_reader_part_S_c (archive_reader_part_c n)
theorem e_archive_reader_part : archive_reader_part = archive_reader_part_c := by
 funext n
 induction n with
 | zero => rfl
 | succ n ih =>
  show archive_reader_part_S (archive_reader_part n) = archive_reader_part_S_c (archive_reader_part_c n)
  rw [ih, e_archive_reader_part_S]
noncomputable def archive_ReadAt_c (x0 : api_Store) (x1 : api_Root) (x2 : Int) (x3 : Int) : Option (Str × Int) :=
 (archive_valid x1).bind fun y1 =>
 (bif (!y1) then
  some (([], 2))
 else
  Option.bind (
   (bif (decide (x2 < 0)) then
    some (decide (x2 < 0))
   else
    some (decide (x3 < 0)))
   ) fun (o1 : Bool) =>
  (bif o1 then
   some (([], 1))
  else
   Option.bind (
    (bif (decide (x2 ≥ x1.Length_)) then
     some (decide (x2 ≥ x1.Length_))
    else
     some (x3 == 0))
    ) fun (o2 : Bool) =>
   (bif o2 then
    some (([], 0))
   else
    Option.bind (archive_reader_part_c BIG (archive_reader.mk x0 []) (archive_span.mk 1 x1.Length_ x2 (w64 (x2 + (minI x3 (w64 (x1.Length_ - x2)))))) x1.Score_ x1.Levels_ 0) fun (y2 : Str × Int × archive_reader) =>
    some ((y2.1, y2.2.1)))))
theorem e_archive_ReadAt : archive_ReadAt = archive_ReadAt_c := by
 funext x0 x1 x2 x3
 simp only [archive_ReadAt, archive_ReadAt_c, e_archive_reader_part] <;> rfl
noncomputable def tree_Right_L1_c (x0 : api_Tree) (s2 : Int × (List Int) × (List Int) × (List tree_place) × (List Int)) : Option (Step (Int × (List Int) × (List Int) × (List tree_place) × (List Int)) (Out Unit Bool)) :=
 (bif (decide (s2.1 < (x0.Nodes_.length : Int))) then
  Option.bind (
   (getI x0.Nodes_ s2.1).bind fun y12 =>
   (tree_sound y12).bind fun y13 =>
   Option.bind (bif ((!y13) || (decide (y12.Id_ ≥ x0.Next_))) then some true else 
    Option.bind (bif (decide (s2.1 > 0)) then 
     (getI x0.Nodes_ (w64 (s2.1 - 1))).bind fun y14 =>
     some (decide (y12.Id_ ≤ y14.Id_))
      else some false) fun (y15 : Bool) =>
    some y15
    ) fun (y16 : Bool) =>
   (bif y16 then
    some (.ret (false))
   else
    Option.bind (
     (bif (s2.1 == 0) then
      Option.bind (bif (((y12.Id_ != 1) || (y12.Parent_ != 1)) || (!(y12.Name_ == [47]))) then some true else 
       (tree_directory y12.Mode_).bind fun y17 =>
       some (!y17)
       ) fun (y18 : Bool) =>
      (bif y18 then
       some (.ret (false))
      else
       some (.fall ()))
     else
      (path_Valid y12.Name_).bind fun y19 =>
      Option.bind (bif (!y19) then some true else some ((mgetD eqI s2.2.1 s2.2.2.1 y12.Parent_ 0) == 0)) fun (y20 : Bool) =>
      Option.bind (bif y20 then some true else some (decide ((mgetD (fun (a b : tree_place) => decide (a = b)) s2.2.2.2.1 s2.2.2.2.2 (tree_place.mk y12.Parent_ y12.Name_) 0) > 0))) fun (y21 : Bool) =>
      (bif y21 then
       some (.ret (false))
      else
       some (.fall ())))
     ) fun (wo4 : Out Unit Bool) => match wo4 with
    | .ret r4 => some (.ret r4)
    | .fall _ =>
     Option.bind (
      (bif (decide (s2.1 > 0)) then
       (bothC (
        some ((mputK (fun (a b : tree_place) => decide (a = b)) (mputK (fun (a b : tree_place) => decide (a = b)) s2.2.2.2.1 (tree_place.mk y12.Parent_ y12.Name_)) (tree_place.mk y12.Parent_ y12.Name_)), (mputV (fun (a b : tree_place) => decide (a = b)) (mputK (fun (a b : tree_place) => decide (a = b)) s2.2.2.2.1 (tree_place.mk y12.Parent_ y12.Name_)) (mputV (fun (a b : tree_place) => decide (a = b)) s2.2.2.2.1 s2.2.2.2.2 (tree_place.mk y12.Parent_ y12.Name_) (mgetD (fun (a b : tree_place) => decide (a = b)) s2.2.2.2.1 s2.2.2.2.2 (tree_place.mk y12.Parent_ y12.Name_) 0)) (tree_place.mk y12.Parent_ y12.Name_) (w64 ((mgetD (fun (a b : tree_place) => decide (a = b)) s2.2.2.2.1 s2.2.2.2.2 (tree_place.mk y12.Parent_ y12.Name_) 0) + 1))))) (
        some ((mputK (fun (a b : tree_place) => decide (a = b)) (mputK (fun (a b : tree_place) => decide (a = b)) s2.2.2.2.1 (tree_place.mk y12.Parent_ y12.Name_)) (tree_place.mk y12.Parent_ y12.Name_)), (mputV (fun (a b : tree_place) => decide (a = b)) (mputK (fun (a b : tree_place) => decide (a = b)) s2.2.2.2.1 (tree_place.mk y12.Parent_ y12.Name_)) (mputV (fun (a b : tree_place) => decide (a = b)) s2.2.2.2.1 s2.2.2.2.2 (tree_place.mk y12.Parent_ y12.Name_) (mgetD (fun (a b : tree_place) => decide (a = b)) s2.2.2.2.1 s2.2.2.2.2 (tree_place.mk y12.Parent_ y12.Name_) 0)) (tree_place.mk y12.Parent_ y12.Name_) (w64 ((mgetD (fun (a b : tree_place) => decide (a = b)) (mputK (fun (a b : tree_place) => decide (a = b)) s2.2.2.2.1 (tree_place.mk y12.Parent_ y12.Name_)) (mputV (fun (a b : tree_place) => decide (a = b)) s2.2.2.2.1 s2.2.2.2.2 (tree_place.mk y12.Parent_ y12.Name_) (mgetD (fun (a b : tree_place) => decide (a = b)) s2.2.2.2.1 s2.2.2.2.2 (tree_place.mk y12.Parent_ y12.Name_) 0)) (tree_place.mk y12.Parent_ y12.Name_) 0) + 1))))))
      else
       some (s2.2.2.2.1, s2.2.2.2.2))
      ) fun (o5 : (List tree_place) × (List Int)) =>
     (tree_directory y12.Mode_).bind fun y22 =>
     (bif y22 then
      some (.fall ((mputK eqI s2.2.1 y12.Id_), (mputV eqI s2.2.1 s2.2.2.1 y12.Id_ (w64 ((mgetD eqI s2.2.1 s2.2.2.1 y12.Id_ 0) + 1))), o5.1, o5.2))
     else
      some (.fall (s2.2.1, s2.2.2.1, o5.1, o5.2))))
   ) fun (wo6 : Out ((List Int) × (List Int) × (List tree_place) × (List Int)) Bool) => match wo6 with
  | .ret r6 => some (.done (.ret r6))
  | .fall o6 =>
   some (.next ((w64 (s2.1 + 1)), o6.1, o6.2.1, o6.2.2.1, o6.2.2.2))
 else
  some (.done (.fall ())))
theorem e_tree_Right_L1 : tree_Right_L1 = tree_Right_L1_c := by
 funext x0 s2
 simp only [tree_Right_L1, tree_Right_L1_c, e_both] <;> rfl
noncomputable def tree_Right_c (x0 : api_Tree) : Option Bool :=
 (bif (((decide ((x0.Nodes_.length : Int) < 1)) || (decide ((x0.Nodes_.length : Int) > 1024))) || (decide (x0.Next_ > 1048576))) then
  some (false)
 else
  (loopF (tree_Right_L1_c x0) BIG (0, ([] : List Int), ([] : List Int), ([] : List tree_place), ([] : List Int))).bind fun wo7 => match wo7 with
  | .ret r7 => some r7
  | .fall _ =>
   some (true))
theorem e_tree_Right : tree_Right = tree_Right_c := by
 funext x0
 simp only [tree_Right, tree_Right_c, e_tree_Right_L1] <;> rfl
noncomputable def archive_putNode_S_c (rec0 : api_Store → api_Tree → Int → Option (api_Store × archive_entry × Int)) (x0 : api_Store) (x1 : api_Tree) (x2 : Int) : Option (api_Store × archive_entry × Int) :=
 (tree_Node x1 x2).bind fun y1 =>
 Option.bind (
  Option.bind (archive_isDir (api_Node.mk y1.1.Id_ y1.1.Parent_ y1.1.Vers_ y1.1.Name_ y1.1.Mode_ y1.1.Uid_ y1.1.Gid_ y1.1.Muid_ y1.1.Atime_ y1.1.Mtime_ [])) fun (y2 : Bool) =>
  (bif y2 then
   (tree_Children x1 x2).bind fun y3 =>
   Option.bind (loopF (archive_putNode_L1 y3 rec0 x1) BIG ([], 0, x0, y3)) fun (wo1 : Out (Str × api_Store) (api_Store × archive_entry × Int)) => match wo1 with
   | .ret r1 => some (.ret r1)
   | .fall o1 =>
    some (.fall (3, o1.1, o1.2))
  else
   some (.fall (1, y1.1.Data_, x0)))
  ) fun (wo2 : Out (Int × Str × api_Store) (api_Store × archive_entry × Int)) => match wo2 with
 | .ret r2 => some r2
 | .fall o2 =>
  (archive_put_c o2.2.2 o2.1 o2.2.1).bind fun y12 =>
  some ((y12.1, (archive_entry.mk (api_Node.mk y1.1.Id_ y1.1.Parent_ y1.1.Vers_ y1.1.Name_ y1.1.Mode_ y1.1.Uid_ y1.1.Gid_ y1.1.Muid_ y1.1.Atime_ y1.1.Mtime_ []) y12.2.1), y12.2.2))
theorem e_archive_putNode_S : archive_putNode_S = archive_putNode_S_c := by
 funext rec0 x0 x1 x2
 simp only [archive_putNode_S, archive_putNode_S_c, e_archive_put] <;> rfl
noncomputable def archive_putNode_c : Nat → api_Store → api_Tree → Int → Option (api_Store × archive_entry × Int)
 | 0 => fun _ _ _ => none
 | n + 1 => archive_putNode_S_c (archive_putNode_c n)
theorem e_archive_putNode : archive_putNode = archive_putNode_c := by
 funext n
 induction n with
 | zero => rfl
 | succ n ih =>
  show archive_putNode_S (archive_putNode n) = archive_putNode_S_c (archive_putNode_c n)
  rw [ih, e_archive_putNode_S]
noncomputable def archive_PutTree_c (x0 : api_Store) (x1 : api_Tree) : Option (api_Store × Str × Int) :=
 (tree_Right_c x1).bind fun y1 =>
 (bif (!y1) then
  (archive_own_c x0).bind fun y2 =>
  some ((y2, [], 1))
 else
  (archive_putNode_c BIG x0 x1 1).bind fun y3 =>
  (bif (y3.2.2 != 0) then
   (archive_own_c x0).bind fun y4 =>
   some ((y4, [], y3.2.2))
  else
   (octet_Put x1.Next_ 4).bind fun y5 =>
   (octet_Put (x1.Nodes_.length : Int) 4).bind fun y6 =>
   (cat y5.1 y6.1).bind fun y7 =>
   (archive_encode y3.2.1).bind fun y8 =>
   (cat y7 y8).bind fun y9 =>
   (block_Put_c y3.1 4 y9).bind fun y10 =>
   (bif (y10.2.2 != 0) then
    (archive_own_c x0).bind fun y11 =>
    some ((y11, [], y10.2.2))
   else
    some ((y10.1, y10.2.1, 0)))))
theorem e_archive_PutTree : archive_PutTree = archive_PutTree_c := by
 funext x0 x1
 simp only [archive_PutTree, archive_PutTree_c, e_tree_Right, e_archive_own, e_archive_putNode, e_block_Put] <;> rfl
noncomputable def archive_reader_contents_c (x0 : archive_reader) (x1 : api_Root) (x2 : Int) : Option (Str × Int × archive_reader) :=
 (archive_valid x1).bind fun y1 =>
 (bif (!y1) then
  some (([], 2, x0))
 else
  (bif (x1.Length_ == 0) then
   (archive_reader_block_c x0 x1.Score_ x2).bind fun y2 =>
   Option.bind (
    (bif ((y2.2.1 == 0) && (!(y2.1 == []))) then
     some 2
    else
     some y2.2.1)
    ) fun (o1 : Int) =>
   some (([], o1, y2.2.2))
  else
   (archive_reader_part_c BIG x0 (archive_span.mk x2 x1.Length_ 0 x1.Length_) x1.Score_ x1.Levels_ 0).bind fun y3 =>
   some ((y3.1, y3.2.1, y3.2.2))))
theorem e_archive_reader_contents : archive_reader_contents = archive_reader_contents_c := by
 funext x0 x1 x2
 simp only [archive_reader_contents, archive_reader_contents_c, e_archive_reader_block, e_archive_reader_part] <;> rfl
noncomputable def archive_builder_add_S_c (rec0 : archive_builder_rest → archive_reader → archive_entry → Option (Int × archive_builder_rest × archive_reader)) (x0 : archive_builder_rest) (h0 : archive_reader) (x1 : archive_entry) : Option (Int × archive_builder_rest × archive_reader) :=
 (bif (decide ((x0.nodes_.length : Int) ≥ x0.most_)) then
  some ((2, x0, h0))
 else
  Option.bind (
   (archive_isDir x1.node_).bind fun y1 =>
   (bif y1 then
    some 3
   else
    some 1)
   ) fun (o1 : Int) =>
  (archive_reader_contents_c h0 x1.root_ o1).bind fun y2 =>
  (bif (y2.2.1 != 0) then
   some ((y2.2.1, x0, y2.2.2))
  else
   (archive_isDir x1.node_).bind fun y3 =>
   (bif (!y3) then
    (room 128 x0.nodes_ [(api_Node.mk x1.node_.Id_ x1.node_.Parent_ x1.node_.Vers_ x1.node_.Name_ x1.node_.Mode_ x1.node_.Uid_ x1.node_.Gid_ x1.node_.Muid_ x1.node_.Atime_ x1.node_.Mtime_ y2.1)]).bind fun y4 =>
    some ((0, (archive_builder_rest.mk y4 x0.most_), y2.2.2))
   else
    (room 128 x0.nodes_ [x1.node_]).bind fun y5 =>
    (archive_entries y2.1).bind fun y6 =>
    Option.bind (bif (!y6.2) then some true else 
     (slices_ContainsFunc_archiveentryarchiveentry y6.1 (fun (u1 : archive_entry) => Option.bind (__archive_builder__add_1 u1 x1) fun (v1 : Bool) => some v1)).bind fun y7 =>
     some y7
     ) fun (y8 : Bool) =>
    (bif y8 then
     some ((2, (archive_builder_rest.mk y5 x0.most_), y2.2.2))
    else
     (loopF (archive_builder_add_L1 y6 rec0) BIG (0, x0.most_, y2.2.2.store_.Cap_, y2.2.2.store_.Blocks_, y2.2.2.seen_, y5, y6.1)).bind fun wo2 => match wo2 with
     | .ret r2 => some r2
     | .fall o2 =>
      some ((0, (archive_builder_rest.mk o2.2.2.2.2 o2.1), (archive_reader.mk (api_Store.mk o2.2.1 o2.2.2.1) o2.2.2.2.1)))))))
theorem e_archive_builder_add_S : archive_builder_add_S = archive_builder_add_S_c := by
 funext rec0 x0 h0 x1
 simp only [archive_builder_add_S, archive_builder_add_S_c, e_archive_reader_contents] <;> rfl
noncomputable def archive_builder_add_c : Nat → archive_builder_rest → archive_reader → archive_entry → Option (Int × archive_builder_rest × archive_reader)
 | 0 => fun _ _ _ => none
 | n + 1 => archive_builder_add_S_c (archive_builder_add_c n)
theorem e_archive_builder_add : archive_builder_add = archive_builder_add_c := by
 funext n
 induction n with
 | zero => rfl
 | succ n ih =>
  show archive_builder_add_S (archive_builder_add n) = archive_builder_add_S_c (archive_builder_add_c n)
  rw [ih, e_archive_builder_add_S]
noncomputable def archive_reader_tree_c (x0 : archive_reader) (x1 : Str) : Option (api_Tree × Int × archive_reader) :=
 (archive_reader_block_c x0 x1 4).bind fun y1 =>
 (bif (y1.2.1 != 0) then
  some (((api_Tree.mk 0 []), y1.2.1, y1.2.2))
 else
  (archive_decoder_number (archive_decoder.mk y1.1 0 false) 4).bind fun y2 =>
  (archive_decoder_number y2.2 4).bind fun y3 =>
  (archive_decoder_entry y3.2).bind fun y4 =>
  (bif (((y4.2.bad_ || (y4.2.at_ != (y1.1.length : Int))) || (decide (y3.1 < 1))) || (decide (y3.1 > 1024))) then
   some (((api_Tree.mk 0 []), 2, y1.2.2))
  else
   Option.bind (archive_builder_add_c BIG (archive_builder_rest.mk [] y3.1) y1.2.2 y4.1) fun (y5 : Int × archive_builder_rest × archive_reader) =>
   (bif (y5.1 != 0) then
    some (((api_Tree.mk 0 []), y5.1, y5.2.2))
   else
    (sortByC (fun (x : api_Node) => x.Id_) y5.2.1.nodes_).bind fun y6 =>
    Option.bind (bif ((y6.length : Int) != y3.1) then some true else 
     (tree_Right_c (api_Tree.mk y2.1 y6)).bind fun y7 =>
     some (!y7)
     ) fun (y8 : Bool) =>
    (bif y8 then
     some (((api_Tree.mk 0 []), 2, y5.2.2))
    else
     some (((api_Tree.mk y2.1 y6), 0, y5.2.2))))))
theorem e_archive_reader_tree : archive_reader_tree = archive_reader_tree_c := by
 funext x0 x1
 simp only [archive_reader_tree, archive_reader_tree_c, e_archive_reader_block, e_archive_builder_add, sortBy_eq, e_tree_Right] <;> rfl
noncomputable def archive_GetTree_c (x0 : api_Store) (x1 : Str) : Option (api_Tree × Int) :=
 Option.bind (archive_reader_tree_c (archive_reader.mk x0 []) x1) fun (y1 : api_Tree × Int × archive_reader) =>
 some ((y1.1, y1.2.1))
theorem e_archive_GetTree : archive_GetTree = archive_GetTree_c := by
 funext x0 x1
 simp only [archive_GetTree, archive_GetTree_c, e_archive_reader_tree] <;> rfl
noncomputable def archive_Reach_c (x0 : api_Store) (x1 : Str) : Option ((List Str) × Int) :=
 Option.bind (archive_reader_tree_c (archive_reader.mk x0 []) x1) fun (y1 : api_Tree × Int × archive_reader) =>
 (bif (y1.2.1 != 0) then
  some (([], y1.2.1))
 else
  (sortC y1.2.2.seen_).bind fun y2 =>
  (slices_CompactS y2).bind fun y3 =>
  some ((y3, 0)))
theorem e_archive_Reach : archive_Reach = archive_Reach_c := by
 funext x0 x1
 simp only [archive_Reach, archive_Reach_c, e_archive_reader_tree, sortS_eq] <;> rfl
noncomputable def archive_Changed_c (x0 : api_Tree) (x1 : api_Tree) : Option (List Str) :=
 (archive_places x0).bind fun y1 =>
 (archive_places x1).bind fun y2 =>
 Option.bind (loopF (archive_Changed_L1 y1 y2) BIG (0, y1, [])) fun (o3 : (List archive_place) × (List Str)) =>
 (loopF (archive_Changed_L2 y2 o3) BIG (0, o3.2, y2)).bind fun o6 =>
 (sortC o6).bind fun y15 =>
 (slices_CompactS y15).bind fun y16 =>
 some (y16)
theorem e_archive_Changed : archive_Changed = archive_Changed_c := by
 funext x0 x1
 simp only [archive_Changed, archive_Changed_c, sortS_eq] <;> rfl
noncomputable def law16_awake_c  : Option Bool :=
 Option.bind (archive_PutFile_c (api_Store.mk 9 []) [104, 101, 108, 108, 111]) fun (y1 : api_Store × api_Root × Int) =>
 Option.bind (bif ((((y1.2.2 != 0) || ((y1.1.Blocks_.length : Int) != 1)) || (y1.2.1.Length_ != 5)) || (y1.2.1.Levels_ != 0)) then some true else 
  (getI y1.1.Blocks_ 0).bind fun y2 =>
  some (!(y1.2.1.Score_ == y2.Score_))
  ) fun (y3 : Bool) =>
 (bif y3 then
  some (false)
 else
  (archive_ReadAt_c y1.1 y1.2.1 1 3).bind fun y4 =>
  (bif ((!(y4.1 == [101, 108, 108])) || (y4.2 != 0)) then
   some (false)
  else
   Option.bind (archive_PutTree_c y1.1 (api_Tree.mk 3 [(api_Node.mk 1 1 0 [47] 2147484141 [97, 100, 109] [] [] 0 0 []), (api_Node.mk 2 1 0 [102] 420 [] [] [] 0 0 [104, 101, 108, 108, 111])])) fun (y5 : api_Store × Str × Int) =>
   (bif ((y5.2.2 != 0) || ((y5.1.Blocks_.length : Int) != 3)) then
    some (false)
   else
    (archive_GetTree_c y5.1 y5.2.1).bind fun y6 =>
    (archive_Reach_c y5.1 y5.2.1).bind fun y7 =>
    Option.bind (bif (y6.2 == 0) then 
     Option.bind (ref10_Same (api_Tree.mk 3 [(api_Node.mk 1 1 0 [47] 2147484141 [97, 100, 109] [] [] 0 0 []), (api_Node.mk 2 1 0 [102] 420 [] [] [] 0 0 [104, 101, 108, 108, 111])]) y6.1) fun (y8 : Bool) =>
     some y8
      else some false) fun (y9 : Bool) =>
    Option.bind (bif ((y9 && (y7.2 == 0)) && ((y7.1.length : Int) == 3)) then 
     Option.bind (archive_Changed_c (api_Tree.mk 3 [(api_Node.mk 1 1 0 [47] 2147484141 [97, 100, 109] [] [] 0 0 []), (api_Node.mk 2 1 0 [102] 420 [] [] [] 0 0 [104, 101, 108, 108, 111])]) y6.1) fun (y10 : (List Str)) =>
     some ((y10.length : Int) == 0)
      else some false) fun (y11 : Bool) =>
    some (y11))))
theorem e_law16_awake : law16_awake = law16_awake_c := by
 simp only [law16_awake, law16_awake_c, e_archive_PutFile, e_archive_ReadAt, e_archive_PutTree, e_archive_GetTree, e_archive_Reach, e_archive_Changed] <;> rfl
theorem awake_eq : law16_awake = some true := by
 rw [e_law16_awake]
 kernel_rfl
end
end Go.Proofs.YtfdmakpcmkbhhaaGreatDoor
namespace Go.Proofs.YtfdmakpcmkbhhaaGreatDoor
open Go.Rt Go.RowKit
theorem light_eq (s : api_Store) : ∃ b, law16_light s = some b ∧ (b = true → s.Blocks_.length ≤ 120 ∧ ∀ x ∈ s.Blocks_, x.Data_.length ≤ 1024 ∧ x.Score_.length ≤ 100) := by
 unfold law16_light
 by_cases hl : s.Blocks_.length ≤ 120
 ·have h := loop_scan (body := law16_light_L1 s) s.Blocks_ (fun _ x => if (decide ((x.Data_.length : Int) > 1024) || decide ((x.Score_.length : Int) > 100)) = true then some false else none) (lt_big (by omega)) (fun i hi => ?_) ?_
  ·refine ⟨_, cond_f (by simp; omega) (scan_ret h (fun r => rfl) (x := true) rfl), fun e => ⟨hl, fun x hx => ?_⟩⟩
   rw [scan_find (fun (x : api_Block) => decide ((x.Data_.length : Int) > 1024) || decide ((x.Score_.length : Int) > 100)) (fun _ => false)] at e
   cases hf : s.Blocks_.find? (fun (x : api_Block) => decide ((x.Data_.length : Int) > 1024) || decide ((x.Score_.length : Int) > 100)) with
   | some y => rw [hf] at e; cases e
   | none =>
    have := List.find?_eq_none.1 hf x hx
    simp only [Bool.or_eq_true, decide_eq_true_eq, not_or] at this
    omega
  ·unfold law16_light_L1
   refine cond_t (lt_t hi) (bind_eq (getI_lt hi) (bind_eq (a := decide ((s.Blocks_[i].Data_.length : Int) > 1024) || decide ((s.Blocks_[i].Score_.length : Int) > 100)) ?_ ?_))
   ·cases decide ((s.Blocks_[i].Data_.length : Int) > 1024) with
    | true => rfl
    | false => exact bind_eq (getI_lt hi) rfl
   ·cases decide ((s.Blocks_[i].Data_.length : Int) > 1024) || decide ((s.Blocks_[i].Score_.length : Int) > 100) with
    | true => rfl
    | false =>
     rw [w_succ (by omega)]
     rfl
  ·unfold law16_light_L1
   exact cond_f (lt_f _) rfl
 ·exact ⟨false, cond_t (by simp; omega) rfl, fun e => by cases e⟩
theorem own_eq {s : api_Store} (h : s.Blocks_.length ≤ 1073741824) : archive_own s = some s := by
 unfold archive_own
 exact bind_eq (clone_eq h) rfl
theorem upF_ok : ∀ (f : Nat) {k : Int} {s : api_Store} {ps : List Str}, 1 ≤ k ∧ k ≤ 4 → StOK s → StOK (upF f k s ps).store ∧ StLe s (upF f k s ps).store
 | 0, k, s, ps, _, hs => ⟨hs, StLe.refl s⟩
 | f + 1, k, s, ps, hk, hs => by
  obtain ⟨h1, h2, _⟩ := putL_ok hk (ps := ps) hs
  unfold upF
  split
  ·split
   ·exact ⟨h1, h2⟩
   ·obtain ⟨h3, h4⟩ := upF_ok f (k := 2) (ps := pieces (putL k s ps).2.1.flatten) (by omega) h1
    exact ⟨h3, h2.trans h4⟩
  ·exact ⟨hs, StLe.refl s⟩
end Go.Proofs.YtfdmakpcmkbhhaaGreatDoor
namespace Go.Proofs.YtfdmakpcmkbhhaaGreatDoor
open Go.Rt Go.RowKit
def runS {α σ ε : Type} (f : σ → α → σ ⊕ ε) : σ → List α → σ ⊕ ε
 | s, [] => .inl s
 | s, x :: l => match f s x with
  | .inl s' => runS f s' l
  | .inr e => .inr e
def outS {σ ε β : Type} (fin : σ → β) (err : ε → β) : σ ⊕ ε → β
 | .inl s => fin s
 | .inr e => err e
def stepS {σ ε τ β : Type} (mk : σ → τ) (err : ε → β) : σ ⊕ ε → Step τ β
 | .inl s => .next (mk s)
 | .inr e => .done (err e)
theorem loop_runS {α σ ε τ β : Type} {body : τ → Option (Step τ β)} (xs : List α) (f : σ → α → σ ⊕ ε) (mk : Nat → σ → τ) (Inv : Nat → σ → Prop) (fin : σ → β) (err : ε → β) (s0 : σ) (hn : xs.length < BIG) (h0 : Inv 0 s0)
  (hb : ∀ i s (h : i < xs.length), Inv i s → body (mk i s) = some (stepS (mk (i + 1)) err (f s xs[i])) ∧ ∀ s', f s xs[i] = .inl s' → Inv (i + 1) s')
  (he : ∀ s, Inv xs.length s → body (mk xs.length s) = some (.done (fin s))) : loopF body BIG (mk 0 s0) = some (outS fin err (runS f s0 xs)) := by
 refine loopF_up (J := fun i t b => ∃ s, Inv i s ∧ t = mk i s ∧ b = outS fin err (runS f s (xs.drop i))) xs.length hn (fun t b hJ => ?_) (fun i t b hi hJ => ?_) ⟨s0, h0, rfl, by simp⟩
 ·obtain ⟨s, hI, rfl, rfl⟩ := hJ
  rw [he s hI]; simp [runS, outS]
 ·obtain ⟨s, hI, rfl, rfl⟩ := hJ
  obtain ⟨h1, h2⟩ := hb i s hi hI
  rw [List.drop_eq_getElem_cons hi]
  simp only [runS]
  cases hf : f s xs[i] with
  | inl s' =>
   rw [hf] at h1
   exact .inr ⟨_, h1, s', h2 s' hf, rfl, rfl⟩
  | inr b =>
   rw [hf] at h1
   exact .inl h1
def blk (s : api_Store) (sc : Str) (k : Int) : Str × Int := if (getB s sc k).2 = 1 then ([], 2) else getB s sc k
def unitN (l : Nat) : Nat := 1024 * 32 ^ l
theorem unitN_pos (l : Nat) : 1024 ≤ unitN l := by
 unfold unitN
 have : 1 ≤ 32 ^ l := Nat.pos_of_ne_zero (by simp)
 omega
theorem unitN_succ (l : Nat) : unitN (l + 1) = 32 * unitN l := by unfold unitN; rw [Nat.pow_succ]; omega
end Go.Proofs.YtfdmakpcmkbhhaaGreatDoor
namespace Go.Proofs.YtfdmakpcmkbhhaaGreatDoor
open Go.Rt Go.RowKit
end Go.Proofs.YtfdmakpcmkbhhaaGreatDoor
namespace Go.Proofs.YtfdmakpcmkbhhaaGreatDoor
open Go.Rt Go.RowKit
theorem blk_found {u : api_Store} {k : Int} {p : Str} (h : findB u (scoreS k p) = some (mk k p)) : blk u (scoreS k p) k = (p, 0) := by
 have : getB u (scoreS k p) k = (p, 0) := by
  unfold getB
  rw [h]
  simp [mk]
 unfold blk
 rw [this]
 rfl
theorem blk_some {u : api_Store} {sc : Str} {k : Int} (h : (blk u sc k).2 = 0) : ∃ b, findB u sc = some b := by
 cases hf : findB u sc with
 | some b => exact ⟨b, rfl⟩
 | none =>
  have hg : getB u sc k = ([], 35) := by unfold getB; rw [hf]
  unfold blk at h
  rw [hg] at h
  cases h
theorem StLe.blk {s t : api_Store} (h : StLe s t) {sc : Str} {k : Int} (hb : (blk s sc k).2 = 0) : blk t sc k = blk s sc k := by
 obtain ⟨b, hf⟩ := blk_some hb
 have hf' := h.find hf
 have : getB t sc k = getB s sc k := by
  unfold getB
  rw [hf, hf']
 unfold Go.Proofs.YtfdmakpcmkbhhaaGreatDoor.blk
 rw [this]
def chunkN (u : Nat) (d : Str) (i : Nat) : Str := (d.drop (i * u)).take u
def Sto (u : api_Store) (k : Int) : Nat → Str → Str → Prop
 | 0, sc, d => d.length ≤ 1024 ∧ blk u sc k = (d, 0)
 | l + 1, sc, d => ∃ scs : List Str, all32 scs ∧ scs.length = (d.length + unitN l - 1) / unitN l ∧ blk u sc 2 = (scs.flatten, 0) ∧ ∀ (i : Nat) (h : i < scs.length), Sto u k l scs[i] (chunkN (unitN l) d i)
theorem Sto.le {s t : api_Store} {k : Int} (hle : StLe s t) : ∀ {l : Nat} {sc d : Str}, Sto s k l sc d → Sto t k l sc d
 | 0, sc, d, h => ⟨h.1, by rw [hle.blk (by rw [h.2])]; exact h.2⟩
 | l + 1, sc, d, ⟨scs, h1, h2, h3, h4⟩ => ⟨scs, h1, h2, by rw [hle.blk (by rw [h3])]; exact h3, fun i hi => Sto.le hle (h4 i hi)⟩
structure Lev (u : api_Store) (k : Int) (l : Nat) (d : Str) (scs : List Str) : Prop where
 a32 : all32 scs
 len : scs.length = max 1 ((d.length + unitN l - 1) / unitN l)
 sto : ∀ (i : Nat) (h : i < scs.length), Sto u k l scs[i] (chunkN (unitN l) d i)
theorem Lev.one {u : api_Store} {k : Int} {l : Nat} {d : Str} {scs : List Str} (h : Lev u k l d scs) (h1 : scs.length = 1) : Sto u k l (scs.getLastD []) d := by
 obtain ⟨x, rfl⟩ := List.length_eq_one_iff.1 h1
 have h2 := h.sto 0 (by simp)
 have hl := h.len
 have hu1 := unitN_pos l
 have h3 : d.length ≤ unitN l := by
  rcases Nat.lt_or_ge (unitN l) d.length with h' | h'
  ·have : 2 ≤ (d.length + unitN l - 1) / unitN l := (Nat.le_div_iff_mul_le (by omega)).2 (by omega)
   simp at hl
   omega
  ·exact h'
 have e : chunkN (unitN l) d 0 = d := by
  unfold chunkN
  rw [Nat.zero_mul, List.drop_zero, List.take_of_length_le h3]
 rw [e] at h2
 exact h2
theorem lev_zero {s : api_Store} {k : Int} (hk : 1 ≤ k ∧ k ≤ 4) (hs : StOK s) {d : Str} (he : (putL k s (pieces d)).2.2 = 0) : Lev (putL k s (pieces d)).1 k 0 d (putL k s (pieces d)).2.1 := by
 obtain ⟨_, _, h3⟩ := putL_ok hk (ps := pieces d) hs
 obtain ⟨l1, l2⟩ := putL_len hk hs he
 obtain ⟨h4, h5⟩ := h3 he
 refine ⟨l2, by rw [l1, pieces_len]; rfl, fun i hi => ?_⟩
 have hi' : i < (pieces d).length := by rw [← l1]; exact hi
 have e1 : (putL k s (pieces d)).2.1[i] = scoreS k (pieces d)[i] := by simp [h4]
 obtain ⟨p1, p2⟩ := h5 (pieces d)[i] (List.getElem_mem hi')
 rw [e1]
 have e2 : chunkN (unitN 0) d i = (pieces d)[i] := by
  rw [pieces_get]
  unfold chunkN piece
  rw [show unitN 0 = 1024 from rfl, Nat.mul_comm]
 rw [e2]
 exact ⟨p1, blk_found p2⟩
theorem lev_next {s : api_Store} {k : Int} {l : Nat} {d : Str} {scs : List Str} (hs : StOK s) (h : Lev s k l d scs) (h1 : 1 < scs.length) (he : (putL 2 s (pieces scs.flatten)).2.2 = 0) : Lev (putL 2 s (pieces scs.flatten)).1 k (l + 1) d (putL 2 s (pieces scs.flatten)).2.1 := by
 obtain ⟨_, hle, h3⟩ := putL_ok (k := 2) (by omega) (ps := pieces scs.flatten) hs
 obtain ⟨l1, l2⟩ := putL_len (k := 2) (by omega) hs he
 obtain ⟨h4, h5⟩ := h3 he
 have hu1 := unitN_pos l
 have hus := unitN_succ l
 have hpl : (pieces scs.flatten).length = nP (32 * scs.length) := by rw [pieces_len, flat32_len h.a32]
 have hlen := h.len
 generalize hq : (d.length + unitN l - 1) / unitN l = q at hlen
 have hq1 : q * unitN l ≤ d.length + unitN l - 1 := by rw [← hq]; exact Nat.div_mul_le_self _ _
 have hq2 : d.length ≤ q * unitN l := by
  have h5 := Nat.div_add_mod (d.length + unitN l - 1) (unitN l)
  have h6 := Nat.mod_lt (d.length + unitN l - 1) (show unitN l > 0 by omega)
  rw [hq, Nat.mul_comm] at h5
  omega
 have hq3 : scs.length = q := by omega
 have hup : (d.length + unitN (l + 1) - 1) / unitN (l + 1) = (q + 31) / 32 := by
  rw [hus]
  refine Nat.div_eq_of_lt_le ?_ ?_
  ·have : (q + 31) / 32 * 32 ≤ q + 31 := Nat.div_mul_le_self _ _
   have h6 : (q + 31) / 32 * 32 * unitN l ≤ (q + 31) * unitN l := Nat.mul_le_mul_right _ this
   rw [Nat.mul_assoc] at h6
   have h7 : (q + 31) * unitN l = q * unitN l + 31 * unitN l := Nat.add_mul _ _ _
   omega
  ·have : q < ((q + 31) / 32 + 1) * 32 := by omega
   have h6 : (q + 1) * unitN l ≤ ((q + 31) / 32 + 1) * 32 * unitN l := Nat.mul_le_mul_right _ (by omega)
   have h8 : q ≤ (q + 31) / 32 * 32 := by omega
   have h9 : q * unitN l ≤ (q + 31) / 32 * 32 * unitN l := Nat.mul_le_mul_right _ h8
   have h10 : ((q + 31) / 32 + 1) * (32 * unitN l) = (q + 31) / 32 * 32 * unitN l + 32 * unitN l := by rw [Nat.succ_mul, Nat.mul_assoc]
   omega
 refine ⟨l2, ?_, fun i hi => ?_⟩
 ·rw [l1, hpl, hup, hq3]
  unfold nP
  omega
 ·have hi' : i < (pieces scs.flatten).length := by rw [← l1]; exact hi
  have hi2 : 32 * i < scs.length := by
   rw [hpl] at hi'
   unfold nP at hi'
   omega
  have e1 : (putL 2 s (pieces scs.flatten)).2.1[i] = scoreS 2 (pieces scs.flatten)[i] := by simp [h4]
  obtain ⟨p1, p2⟩ := h5 (pieces scs.flatten)[i] (List.getElem_mem hi')
  rw [e1]
  have e2 : (pieces scs.flatten)[i] = ((scs.drop (32 * i)).take 32).flatten := by rw [pieces_get, piece32 h.a32]
  have hcl : (chunkN (unitN (l + 1)) d i).length = min (unitN (l + 1)) (d.length - i * unitN (l + 1)) := by simp [chunkN]
  have hgl : ((scs.drop (32 * i)).take 32).length = min 32 (q - 32 * i) := by simp [hq3]
  have hiu : i * unitN (l + 1) = 32 * i * unitN l := by rw [hus, ← Nat.mul_assoc, Nat.mul_comm i 32]
  refine ⟨(scs.drop (32 * i)).take 32, fun x hx => h.a32 x (List.mem_of_mem_drop (List.mem_of_mem_take hx)), ?_, ?_, fun j hj => ?_⟩
  ·rw [hgl, hcl, hiu, hus]
   -- ceil of a piece
   symm
   have hqi : q * unitN l = (q - 32 * i) * unitN l + 32 * i * unitN l := by rw [← Nat.add_mul]; congr 1; omega
   rcases Nat.le_total 32 (q - 32 * i) with h' | h'
   ·rw [Nat.min_eq_left h']
    have h6 : 32 * unitN l ≤ (q - 32 * i) * unitN l := Nat.mul_le_mul_right _ h'
    have h7 : 31 * unitN l < d.length - 32 * i * unitN l := by
     have : (q - 32 * i) * unitN l + unitN l ≥ 32 * unitN l + unitN l := by omega
     omega
    have h33 : (32 + 1) * unitN l = 32 * unitN l + unitN l := by omega
    refine Nat.div_eq_of_lt_le ?_ ?_
    ·omega
    ·rw [h33]
     omega
   ·rw [Nat.min_eq_right h']
    have h6 : (q - 32 * i) * unitN l ≤ 32 * unitN l := Nat.mul_le_mul_right _ h'
    have h33 : (q - 32 * i + 1) * unitN l = (q - 32 * i) * unitN l + unitN l := Nat.succ_mul _ _
    refine Nat.div_eq_of_lt_le ?_ ?_
    ·omega
    ·rw [h33]
     omega
  ·rw [← e2]
   exact blk_found p2
  ·have hj2 : j < 32 := by rw [hgl] at hj; omega
   have hj3 : 32 * i + j < scs.length := by rw [hgl] at hj; omega
   have e3 : ((scs.drop (32 * i)).take 32)[j] = scs[32 * i + j] := by simp
   rw [e3]
   have e4 : chunkN (unitN l) (chunkN (unitN (l + 1)) d i) j = chunkN (unitN l) d (32 * i + j) := by
    have hju : j * unitN l + unitN l ≤ 32 * unitN l := by
     have : (j + 1) * unitN l ≤ 32 * unitN l := Nat.mul_le_mul_right _ (by omega)
     rwa [Nat.succ_mul] at this
    unfold chunkN
    rw [List.drop_take, List.take_take, List.drop_drop, hiu, Nat.add_mul, hus, Nat.min_eq_left (by omega)]
   rw [e4]
   exact (h.sto (32 * i + j) hj3).le hle
theorem up_sto {k : Int} {d : Str} : ∀ (f : Nat) {s : api_Store} {l : Nat} {scs : List Str}, StOK s → Lev s k l d scs → 1 < scs.length → (upF f 2 s (pieces scs.flatten)).err = 0 → ∃ n : Nat, (upF f 2 s (pieces scs.flatten)).levels = (n : Int) ∧ Sto (upF f 2 s (pieces scs.flatten)).store k (l + 1 + n) (upF f 2 s (pieces scs.flatten)).score d
 | 0, s, l, scs, _, _, _, h => by simp [upF] at h
 | f + 1, s, l, scs, hs, hl, h1, h => by
  unfold upF at h ⊢
  split at h
  ·rename_i he
   rw [if_pos he]
   have hn := lev_next hs hl h1 he
   obtain ⟨l1, l2⟩ := putL_len (k := 2) (by omega) hs he
   obtain ⟨ok1, _, _⟩ := putL_ok (k := 2) (by omega) (ps := pieces scs.flatten) hs
   split at h
   ·rename_i h2
    rw [if_pos h2]
    exact ⟨0, rfl, hn.one (l1.trans h2)⟩
   ·rename_i h2
    rw [if_neg h2]
    have hge : 1 ≤ (pieces scs.flatten).length := by rw [pieces_len]; exact Nat.le_max_left _ _
    obtain ⟨n, e1, e2⟩ := up_sto f ok1 hn (by omega) h
    refine ⟨n + 1, by simp only [e1]; rfl, ?_⟩
    rw [show l + 1 + (n + 1) = l + 1 + 1 + n by omega]
    exact e2
  ·rename_i he
   exact absurd h he
theorem put_sto {s : api_Store} {k : Int} {d : Str} (hk : 1 ≤ k ∧ k ≤ 4) (hs : StOK s) (hd : d.length ≤ 1048576) (he : (putS s k d).err = 0) : Sto (putS s k d).store k (hN (nP d.length)) (putS s k d).score d := by
 obtain ⟨n1, n2⟩ := nP_le hd
 have hlev := upF_levels 3 hk hs he (by rw [pieces_len]; exact n1) (by rw [pieces_len]; exact n2)
 rw [pieces_len] at hlev
 unfold putS at he ⊢
 have hz : (putL k s (pieces d)).2.2 = 0 := by
  rcases Decidable.em ((putL k s (pieces d)).2.2 = 0) with h | h
  ·exact h
  ·unfold upF at he
   rw [if_neg h] at he
   exact absurd he h
 have h0 := lev_zero hk hs hz
 obtain ⟨l1, l2⟩ := putL_len hk hs hz
 obtain ⟨ok1, _, _⟩ := putL_ok hk (ps := pieces d) hs
 by_cases h1 : (pieces d).length = 1
 ·have hu : upF 3 k s (pieces d) = ⟨(putL k s (pieces d)).1, (putL k s (pieces d)).2.1.getLastD [], 0, 0⟩ := by unfold upF; rw [if_pos hz, if_pos h1]
  rw [hu] at hlev ⊢
  have : hN (nP d.length) = 0 := by
   simp only at hlev
   omega
  rw [this]
  exact h0.one (l1.trans h1)
 ·have hu : upF 3 k s (pieces d) = ⟨(upF 2 2 (putL k s (pieces d)).1 (pieces (putL k s (pieces d)).2.1.flatten)).store, (upF 2 2 (putL k s (pieces d)).1 (pieces (putL k s (pieces d)).2.1.flatten)).score, (upF 2 2 (putL k s (pieces d)).1 (pieces (putL k s (pieces d)).2.1.flatten)).levels + 1, (upF 2 2 (putL k s (pieces d)).1 (pieces (putL k s (pieces d)).2.1.flatten)).err⟩ := by
   rw [upF, if_pos hz, if_neg h1]
  rw [hu] at hlev he ⊢
  simp only at hlev he ⊢
  have hge : 1 ≤ (pieces d).length := by rw [pieces_len]; exact n1
  obtain ⟨n, e1, e2⟩ := up_sto 2 ok1 h0 (by omega) he
  have : hN (nP d.length) = 0 + 1 + n := by
   rw [e1] at hlev
   omega
  rw [this]
  exact e2
theorem sto_score {u : api_Store} (hu : StOK u) {k : Int} : ∀ {l : Nat} {sc d : Str}, Sto u k l sc d → sc.length = 32 := by
 intro l sc d h
 have hb : ∃ k', (blk u sc k').2 = 0 := by
  cases l with
  | zero => exact ⟨k, by rw [h.2]⟩
  | succ l =>
   obtain ⟨scs, _, _, h3, _⟩ := h
   exact ⟨2, by rw [h3]⟩
 obtain ⟨k', hb⟩ := hb
 obtain ⟨b, hf⟩ := blk_some hb
 obtain ⟨h1, h2⟩ := findB_some hf
 rw [← h2]
 exact (hu.all b h1).2.2.2
end Go.Proofs.YtfdmakpcmkbhhaaGreatDoor
namespace Go.Proofs.YtfdmakpcmkbhhaaGreatDoor
open Go.Rt Go.RowKit
def encE (n : api_Node) (r : api_Root) : Str := leB n.Id_ 4 ++ leB n.Parent_ 4 ++ leB n.Vers_ 4 ++ leB n.Mode_ 4 ++ leB n.Atime_ 8 ++ leB n.Mtime_ 8 ++ textB n.Name_ ++ textB n.Uid_ ++ textB n.Gid_ ++ textB n.Muid_ ++ leB r.Length_ 4 ++ leB r.Levels_ 1 ++ r.Score_
structure EntOK (n : api_Node) (r : api_Root) : Prop where
 id : 0 ≤ n.Id_ ∧ n.Id_ < 4294967296
 par : 0 ≤ n.Parent_ ∧ n.Parent_ < 4294967296
 vers : 0 ≤ n.Vers_ ∧ n.Vers_ < 4294967296
 mode : 0 ≤ n.Mode_ ∧ n.Mode_ < 4294967296
 atime : 0 ≤ n.Atime_
 mtime : 0 ≤ n.Mtime_
 name : n.Name_.length ≤ 64
 uid : n.Uid_.length ≤ 64
 gid : n.Gid_.length ≤ 64
 muid : n.Muid_.length ≤ 64
 len : 0 ≤ r.Length_ ∧ r.Length_ < 4294967296
 lev : 0 ≤ r.Levels_ ∧ r.Levels_ < 256
 score : r.Score_.length = 32
theorem encE_len {n : api_Node} {r : api_Root} (h : EntOK n r) : (encE n r).length ≤ 333 ∧ 77 ≤ (encE n r).length := by
 have h1 := h.name
 have h2 := h.uid
 have h3 := h.gid
 have h4 := h.muid
 have h5 := h.score
 simp only [encE, List.length_append, leB_len, textB_len]
 omega
theorem little_eq (n : Int) {w : Nat} (hw : w ≤ 8) : ref16_little n (w : Int) = some (leB n w) := by
 unfold ref16_little
 refine bind_eq (a := leB n w) ?_ rfl
 refine loop_traj (T := fun i => (leB n i, (i : Int))) w (lt_big (by omega)) (fun i hi => ?_) ?_
 ·unfold ref16_little_L1
  refine cond_t (by simp; omega) (bind_eq (shr_byte n i (by omega)) (bind_eq (a := leB n (i + 1)) ?_ (by rw [w_succ (by omega)])))
  rw [cat_eq (by rw [leB_len]; simp [bytesS]; omega), leB_succ]
  show some (leB n i ++ bytesS [IntKind.u8.wrap (n.fdiv (2 ^ (8 * i)))]) = _
  rw [wu8]
  rfl
 ·unfold ref16_little_L1
  exact cond_f (by simp) rfl
theorem counted_eq {s : Str} (h : s.length ≤ 1000000) : ref16_counted s = some (textB s) := by
 unfold ref16_counted ref16_counted_S
 exact bind_eq (little_eq (s.length : Int) (w := 2) (by omega)) (bind_eq (cat_eq (by rw [leB_len]; omega)) rfl)
theorem ref_Entry_eq {n : api_Node} {r : api_Root} (h1 : n.Name_.length ≤ 65535) (h2 : n.Uid_.length ≤ 65535) (h3 : n.Gid_.length ≤ 65535) (h4 : n.Muid_.length ≤ 65535) (h5 : r.Score_.length ≤ 100) : ref16_Entry n r = some (encE n r) := by
 unfold ref16_Entry ref16_Entry_S
 have c : ∀ {a b : Str}, a.length ≤ 1000000 → b.length ≤ 1000000 → cat a b = some (a ++ b) := fun ha hb => cat_eq (by omega)
 refine bind_eq (little_eq n.Id_ (w := 4) (by omega)) ?_
 refine bind_eq (little_eq n.Parent_ (w := 4) (by omega)) (bind_eq (c (by simp [leB_len]) (by simp [leB_len])) ?_)
 refine bind_eq (little_eq n.Vers_ (w := 4) (by omega)) (bind_eq (c (by simp [leB_len]) (by simp [leB_len])) ?_)
 refine bind_eq (little_eq n.Mode_ (w := 4) (by omega)) (bind_eq (c (by simp [leB_len]) (by simp [leB_len])) ?_)
 refine bind_eq (little_eq n.Atime_ (w := 8) (by omega)) (bind_eq (c (by simp [leB_len]) (by simp [leB_len])) ?_)
 refine bind_eq (little_eq n.Mtime_ (w := 8) (by omega)) (bind_eq (c (by simp [leB_len]) (by simp [leB_len])) ?_)
 refine bind_eq (counted_eq (by omega)) (bind_eq (c (by simp [leB_len]) (by simp [textB_len]; omega)) ?_)
 refine bind_eq (counted_eq (by omega)) (bind_eq (c (by simp [leB_len, textB_len]; omega) (by simp [textB_len]; omega)) ?_)
 refine bind_eq (counted_eq (by omega)) (bind_eq (c (by simp [leB_len, textB_len]; omega) (by simp [textB_len]; omega)) ?_)
 refine bind_eq (counted_eq (by omega)) (bind_eq (c (by simp [leB_len, textB_len]; omega) (by simp [textB_len]; omega)) ?_)
 refine bind_eq (little_eq r.Length_ (w := 4) (by omega)) (bind_eq (c (by simp [leB_len, textB_len]; omega) (by simp [leB_len])) ?_)
 refine bind_eq (little_eq r.Levels_ (w := 1) (by omega)) (bind_eq (c (by simp [leB_len, textB_len]; omega) (by simp [leB_len])) ?_)
 refine bind_eq (c (by simp [leB_len, textB_len]; omega) (by omega)) rfl
theorem encode1_eq {n : Int} {w : Nat} (h1 : 1 ≤ w) (h8 : w ≤ 8) (h0 : 0 ≤ n) (hn : w < 8 → n < 2 ^ (8 * w)) {s : Str} (hs : s.length ≤ 1000000) : archive_encode_1 n (w : Int) s = some (s ++ leB n w) := by
 unfold archive_encode_1
 exact bind_eq (octet_put_eq n w h1 h8 h0 hn) (bind_eq (cat_eq (by rw [leB_len]; omega)) rfl)
theorem encode_eq {n : api_Node} {r : api_Root} (h : EntOK n r) : archive_encode (archive_entry.mk n r) = some (encE n r) := by
 unfold archive_encode
 have hn := h.name
 have hu := h.uid
 have hg := h.gid
 have hm := h.muid
 have hsc := h.score
 have e4 : ∀ {x : Int}, 0 ≤ x ∧ x < 4294967296 → ∀ {s : Str}, s.length ≤ 1000000 → archive_encode_1 x 4 s = some (s ++ leB x 4) := fun hx _ hs => encode1_eq (w := 4) (by omega) (by omega) hx.1 (fun _ => by show _ < (4294967296 : Int); exact hx.2) hs
 have e8 : ∀ {x : Int}, 0 ≤ x → ∀ {s : Str}, s.length ≤ 1000000 → archive_encode_1 x 8 s = some (s ++ leB x 8) := fun hx _ hs => encode1_eq (w := 8) (by omega) (by omega) hx (fun h => by omega) hs
 have e1 : ∀ {x : Int}, 0 ≤ x ∧ x < 256 → ∀ {s : Str}, s.length ≤ 1000000 → archive_encode_1 x 1 s = some (s ++ leB x 1) := fun hx _ hs => encode1_eq (w := 1) (by omega) (by omega) hx.1 (fun _ => by show _ < (256 : Int); exact hx.2) hs
 refine bind_eq (a := leB n.Id_ 4 ++ leB n.Parent_ 4 ++ leB n.Vers_ 4 ++ leB n.Mode_ 4) ?_ ?_
 ·refine loop_traj (T := fun i => ((i : Int), (match i with | 0 => [] | 1 => leB n.Id_ 4 | 2 => leB n.Id_ 4 ++ leB n.Parent_ 4 | 3 => leB n.Id_ 4 ++ leB n.Parent_ 4 ++ leB n.Vers_ 4 | _ => leB n.Id_ 4 ++ leB n.Parent_ 4 ++ leB n.Vers_ 4 ++ leB n.Mode_ 4), [n.Id_, n.Parent_, n.Vers_, n.Mode_])) 4 (by decide) (fun i hi => ?_) ?_
  ·unfold archive_encode_L1
   have : i = 0 ∨ i = 1 ∨ i = 2 ∨ i = 3 := by omega
   rcases this with rfl | rfl | rfl | rfl
   ·exact cond_t rfl (bind_eq (a := n.Id_) rfl (bind_eq (e4 h.id (by simp)) rfl))
   ·exact cond_t rfl (bind_eq (a := n.Parent_) rfl (bind_eq (e4 h.par (by simp [leB_len])) rfl))
   ·exact cond_t rfl (bind_eq (a := n.Vers_) rfl (bind_eq (e4 h.vers (by simp [leB_len])) rfl))
   ·exact cond_t rfl (bind_eq (a := n.Mode_) rfl (bind_eq (e4 h.mode (by simp [leB_len])) rfl))
  ·unfold archive_encode_L1
   exact cond_f rfl rfl
 refine bind_eq (e8 h.atime (by simp [leB_len])) (bind_eq (e8 h.mtime (by simp [leB_len])) ?_)
 generalize hpre : leB n.Id_ 4 ++ leB n.Parent_ 4 ++ leB n.Vers_ 4 ++ leB n.Mode_ 4 ++ leB n.Atime_ 8 ++ leB n.Mtime_ 8 = pre
 have hpl : pre.length = 32 := by rw [← hpre]; simp [leB_len]
 refine bind_eq (a := pre ++ textB n.Name_ ++ textB n.Uid_ ++ textB n.Gid_ ++ textB n.Muid_) ?_ ?_
 ·refine loop_traj (T := fun i => ((i : Int), (match i with | 0 => pre | 1 => pre ++ textB n.Name_ | 2 => pre ++ textB n.Name_ ++ textB n.Uid_ | 3 => pre ++ textB n.Name_ ++ textB n.Uid_ ++ textB n.Gid_ | _ => pre ++ textB n.Name_ ++ textB n.Uid_ ++ textB n.Gid_ ++ textB n.Muid_), [n.Name_, n.Uid_, n.Gid_, n.Muid_])) 4 (by decide) (fun i hi => ?_) ?_
  ·unfold archive_encode_L2
   have : i = 0 ∨ i = 1 ∨ i = 2 ∨ i = 3 := by omega
   have t : ∀ {s : Str}, s.length ≤ 64 → octet_PutText s = some (textB s, 0) := fun hs => text_put _ (by omega)
   rcases this with rfl | rfl | rfl | rfl
   ·exact cond_t rfl (bind_eq (a := n.Name_) rfl (bind_eq (t hn) (bind_eq (cat_eq (by show pre.length + (textB n.Name_).length ≤ _; simp [textB_len]; omega)) rfl)))
   ·exact cond_t rfl (bind_eq (a := n.Uid_) rfl (bind_eq (t hu) (bind_eq (cat_eq (by show (pre ++ textB n.Name_).length + (textB n.Uid_).length ≤ _; simp [textB_len]; omega)) rfl)))
   ·exact cond_t rfl (bind_eq (a := n.Gid_) rfl (bind_eq (t hg) (bind_eq (cat_eq (by show (pre ++ textB n.Name_ ++ textB n.Uid_).length + (textB n.Gid_).length ≤ _; simp [textB_len]; omega)) rfl)))
   ·exact cond_t rfl (bind_eq (a := n.Muid_) rfl (bind_eq (t hm) (bind_eq (cat_eq (by show (pre ++ textB n.Name_ ++ textB n.Uid_ ++ textB n.Gid_).length + (textB n.Muid_).length ≤ _; simp [textB_len]; omega)) rfl)))
  ·unfold archive_encode_L2
   exact cond_f rfl rfl
 refine bind_eq (e4 h.len (by simp [textB_len]; omega)) (bind_eq (e1 h.lev (by simp [textB_len, leB_len]; omega)) (bind_eq (cat_eq (by simp [textB_len, leB_len]; omega)) ?_))
 rw [← hpre]
 rfl
end Go.Proofs.YtfdmakpcmkbhhaaGreatDoor
