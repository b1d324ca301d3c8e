/-
  Plain law: the bits of a word, lowest first; matching by masks of places. No program is named here.
  Plain law: of which node each one is a part, as the program finds it; the way up from a place, step by step. No program is named here.
  Plain law: the texts of trees; what it is to read a text as nodes, as relations on what is still to be read; nodes put together. No program is named here.
  Plain law: the nodes of a tree, put together as reading puts them, are a regular expression, and their tree is that tree but for the places. No program is named
  Plain law: a tree has as many nodes as its row of nodes, and the same words. No program is named here.
  Walks of the three tests on a byte of a name.
  Walks of names.all and names.Is: what a name is, for every text.
-/
import Derived.Test.YtngpjagpeblbjaaGreatDoorP02
import Derived.Test.YtngpjagpeblbjaaGreatDoorRows
import Derived.Test.YtngpjagpeblbjaaGreatDoorP01
namespace Go.Rx
def tz (w : Nat) : Nat := if _h : w = 0 then 0 else if w % 2 = 1 then 0 else tz (w / 2) + 1
termination_by w
decreasing_by omega
theorem tz_odd {w : Nat} (h : w % 2 = 1) : tz w = 0 := by
 rw [tz, dif_neg (by omega), if_pos h]
theorem tz_even {w : Nat} (h0 : w ≠ 0) (h : w % 2 = 0) : tz w = tz (w / 2) + 1 := by
 rw [tz, dif_neg h0, if_neg (by omega)]
theorem low_bit {w : Nat} (h0 : w ≠ 0) (j : Nat) : (w.testBit j && !(w - 1).testBit j) = (j == tz w) := by
 induction w using Nat.strongRecOn generalizing j with
 | _ w ih =>
 rcases Nat.mod_two_eq_zero_or_one w with h | h
 ·rw [tz_even h0 h]
  cases j with
  | zero => simp only [Nat.testBit_zero, h]; simp
  | succ j =>
    have hh := ih (w / 2) (by omega) (by omega) j
    rw [Nat.testBit_succ, Nat.testBit_succ, show (w - 1) / 2 = w / 2 - 1 by omega, hh]
    rw [Bool.eq_iff_iff]; simp only [beq_iff_eq, Nat.add_right_cancel_iff]
 ·rw [tz_odd h]
  cases j with
  | zero => simp only [Nat.testBit_zero, h, show (w - 1) % 2 = 0 by omega]; simp
  | succ j =>
    rw [Nat.testBit_succ, Nat.testBit_succ, show (w - 1) / 2 = w / 2 by omega]
    simp
theorem tz_bit {w : Nat} (h0 : w ≠ 0) : w.testBit (tz w) = true := by
 have := low_bit h0 (tz w)
 simp only [BEq.rfl, Bool.and_eq_true] at this
 exact this.1
theorem drop_low {w : Nat} (h0 : w ≠ 0) (j : Nat) : (w &&& (w - 1)).testBit j = (w.testBit j && !(j == tz w)) := by
 rw [Nat.testBit_and, ← low_bit h0 j]
 cases w.testBit j <;> cases (w - 1).testBit j <;> rfl
theorem tz_lt {w n : Nat} (h0 : w ≠ 0) (h : w < 2 ^ n) : tz w < n := by
 rcases Nat.lt_or_ge (tz w) n with k | k
 ·exact k
 ·have := Nat.testBit_lt_two_pow (Nat.lt_of_lt_of_le h (Nat.pow_le_pow_right (by omega) k))
  rw [tz_bit h0] at this
  cases this
theorem low_alone {w : Nat} (h0 : w ≠ 0) (h : w < 2 ^ 64) : w &&& (2 ^ 64 - w) = 2 ^ tz w := by
 refine Nat.eq_of_testBit_eq fun j => ?_
 rw [Nat.testBit_and, show 2 ^ 64 - w = 2 ^ 64 - ((w - 1) + 1) by omega, Nat.testBit_two_pow_sub_succ (by omega), Nat.testBit_two_pow]
 have hl := low_bit h0 j
 by_cases hj : j < 64
 ·simp only [hj, decide_true, Bool.true_and, hl]
  rw [Bool.eq_iff_iff]; simp only [beq_iff_eq, decide_eq_true_eq]; exact eq_comm
 ·have := tz_lt h0 h
  simp only [hj, decide_false, Bool.false_and, Bool.and_false]
  rw [eq_comm, decide_eq_false_iff_not]; omega
theorem and_pred_lt {w : Nat} (h0 : w ≠ 0) : w &&& (w - 1) < w := by
 have := Nat.and_le_right (n := w) (m := w - 1)
 omega
def bitsL (w : Nat) : List Nat := if h : w = 0 then [] else tz w :: bitsL (w &&& (w - 1))
termination_by w
decreasing_by exact and_pred_lt h
theorem bitsL_zero : bitsL 0 = [] := by rw [bitsL]; rfl
theorem bitsL_next {w : Nat} (h0 : w ≠ 0) : bitsL w = tz w :: bitsL (w &&& (w - 1)) := by rw [bitsL, dif_neg h0]
theorem mem_bitsL (w j : Nat) : j ∈ bitsL w ↔ w.testBit j = true := by
 induction w using Nat.strongRecOn with
 | _ w ih =>
 by_cases h0 : w = 0
 ·subst h0; simp [bitsL_zero]
 ·rw [bitsL_next h0, List.mem_cons, ih _ (and_pred_lt h0), drop_low h0]
  simp only [Bool.and_eq_true, Bool.not_eq_true', beq_eq_false_iff_ne, ne_eq]
  refine ⟨?_, fun h => ?_⟩
  ·rintro (rfl | h)
   ·exact tz_bit h0
   ·exact h.1
  ·by_cases e : j = tz w
   ·exact .inl e
   ·exact .inr ⟨h, e⟩
theorem tz_le {w : Nat} (h0 : w ≠ 0) {j : Nat} (hj : w.testBit j = true) : tz w ≤ j := by
 induction w using Nat.strongRecOn generalizing j with
 | _ w ih =>
 rcases Nat.mod_two_eq_zero_or_one w with h | h
 ·rw [tz_even h0 h]
  cases j with
  | zero => rw [Nat.testBit_zero, h] at hj; cases hj
  | succ j =>
    rw [Nat.testBit_succ] at hj
    have := ih (w / 2) (by omega) (by omega) hj
    omega
 ·rw [tz_odd h]; omega
theorem bitsL_len_tz {w n : Nat} (h0 : w ≠ 0) (h : w < 2 ^ n) : (bitsL w).length + tz w ≤ n := by
 induction w using Nat.strongRecOn with
 | _ w ih =>
 have hl := tz_lt h0 h
 rw [bitsL_next h0, List.length_cons]
 by_cases h1 : w &&& (w - 1) = 0
 ·rw [h1, bitsL_zero, List.length_nil]; omega
 ·have hlt := and_pred_lt h0
  have hi := ih _ hlt h1 (by omega)
  have hb := tz_bit h1
  rw [drop_low h0] at hb
  simp only [Bool.and_eq_true, Bool.not_eq_true', beq_eq_false_iff_ne, ne_eq] at hb
  have := tz_le h0 hb.1
  omega
theorem bitsL_len {w n : Nat} (h : w < 2 ^ n) : (bitsL w).length ≤ n := by
 by_cases h0 : w = 0
 ·subst h0; rw [bitsL_zero]; exact Nat.zero_le _
 ·have := bitsL_len_tz h0 h; omega
def maskOf : Nat → (Nat → Bool) → Nat
 | 0, _ => 0
 | n + 1, f => if f n then maskOf n f ||| 1 <<< n else maskOf n f
theorem bit_maskOf (n : Nat) (f : Nat → Bool) (q : Nat) : (maskOf n f).testBit q = (decide (q < n) && f q) := by
 induction n with
 | zero => simp [maskOf]
 | succ n ih =>
   have hs : (maskOf (n + 1) f).testBit q = ((decide (q < n) && f q) || (f n && (n == q))) := by
    rw [maskOf]
    cases f n with
    | true => simp only [if_true, Nat.testBit_or, ih, bit_one, Bool.true_and]
    | false => simp [ih]
   rw [hs]
   by_cases hq : n = q
   ·subst hq; simp
   ·have : decide (q < n + 1) = decide (q < n) := by rw [decide_eq_decide]; omega
    rw [this]; simp [hq]
def nextM (l : List Nd) (p : Nat) : Nat := maskOf l.length (pairsT (tr l (l.length - 1)) p)
theorem bit_nextM {l : List Nd} (F : Form l) (p q : Nat) : (nextM l p).testBit q = pairsT (tr l (l.length - 1)) p q := by
 rw [nextM, bit_maskOf]
 cases h : pairsT (tr l (l.length - 1)) p q with
 | false => simp
 | true =>
   have hl : l.length ≠ 0 := fun e => F.ne (List.length_eq_zero_iff.1 e)
   have := pos_lt F (i := l.length - 1) (by omega) (pos_of_pairs h).2
   simp [this]
theorem next_of_climb {l : List Nd} (F : Form l) {p out : Nat} (C : Climb l p (l.length - 1) out) : out = nextM l p :=
 Nat.eq_of_testBit_eq fun q => by rw [C.out, bit_nextM F]
theorem next_of_dead {l : List Nd} (F : Form l) {p : Nat} (D : Dead l p (l.length - 1)) : 0 = nextM l p :=
 Nat.eq_of_testBit_eq fun q => by rw [Nat.zero_testBit, bit_nextM F, D.pairs]
theorem next_of_none {l : List Nd} (F : Form l) {p : Nat} (h : ∀ n, l[p]? = some n → n.op ≠ 2) : 0 = nextM l p := by
 refine Nat.eq_of_testBit_eq fun q => ?_
 rw [Nat.zero_testBit, bit_nextM F, pairs_out]
 intro hp
 have key : ∀ i, p ∈ posT (tr l i) → ∃ n, l[p]? = some n ∧ n.op = 2 := by
  intro i
  induction i using Nat.strongRecOn with
  | _ i ih =>
  intro hp
  cases hn : l[i]? with
  | none => rw [tr, hn] at hp; cases hp
  | some n =>
    cases F.kind hn with
    | none ho => rw [tr_none hn ho] at hp; cases hp
    | empty ho => rw [tr_empty hn ho] at hp; cases hp
    | sym ho =>
      rw [tr_sym hn ho] at hp
      simp only [posT, List.mem_cons, List.not_mem_nil, or_false] at hp
      subst hp; exact ⟨n, hn, ho⟩
    | cat ho s x y a b hx hy =>
      rw [tr_cat hn ho a b hx hy] at hp
      simp only [posT, List.mem_append] at hp
      exact hp.elim (ih x hx) (ih y hy)
    | alt ho s x y a b hx hy =>
      rw [tr_alt hn ho a b hx hy] at hp
      simp only [posT, List.mem_append] at hp
      exact hp.elim (ih x hx) (ih y hy)
    | star ho s x a b hx => rw [tr_star hn ho a hx] at hp; exact ih x hx hp
 obtain ⟨n, hn, ho⟩ := key _ hp
 exact h n hn ho
theorem nextM_lt (l : List Nd) (p : Nat) : nextM l p < 2 ^ l.length := by
 refine Nat.lt_pow_two_of_testBit _ fun i hi => ?_
 rw [nextM, bit_maskOf]
 simp only [show ¬ i < l.length by omega, decide_false, Bool.false_and]
end Go.Rx
namespace Go.Rx
def kidsAt (l : List Nd) (i : Nat) : List Nat := (l[i]?.map kids).getD []
theorem kidsAt_of {l : List Nd} {i : Nat} {n : Nd} (h : l[i]? = some n) : kidsAt l i = kids n := by simp [kidsAt, h]
def up (l : List Nd) : Nat → Nat → Int
 | 0, j => if j + 1 = l.length then -1 else 0
 | k + 1, j => if j ∈ kidsAt l k then (k : Int) else up l k j
section
variable {l : List Nd}
theorem up_top (F : Form l) (k : Nat) : up l k (l.length - 1) = -1 := by
 induction k with
 | zero =>
   have : l.length ≠ 0 := fun e => F.ne (List.length_eq_zero_iff.1 e)
   rw [up, if_pos (by omega)]
 | succ k ih =>
   rw [up, if_neg, ih]
   intro h
   unfold kidsAt at h
   cases hn : l[k]? with
   | none => simp [hn] at h
   | some n => simp [hn] at h; exact root_top F hn h
theorem up_of (F : Form l) {i : Nat} {n : Nd} (hn : l[i]? = some n) {j : Nat} (hj : j ∈ kids n) (k : Nat) (hk : i < k) : up l k j = i := by
 induction k with
 | zero => omega
 | succ k ih =>
   rw [up]
   by_cases e : j ∈ kidsAt l k
   ·rw [if_pos e]
    unfold kidsAt at e
    cases hm : l[k]? with
    | none => simp [hm] at e
    | some m => simp [hm] at e; rw [par_unique F hn hm hj e]
   ·rw [if_neg e]
    refine ih ?_
    by_cases h : i = k
    ·subst h; rw [kidsAt_of hn] at e; exact (e hj).elim
    ·omega
theorem up_cases (F : Form l) {j : Nat} (hj : j < l.length) : (j = l.length - 1 ∧ up l l.length j = -1) ∨ ∃ i n, l[i]? = some n ∧ j ∈ kids n ∧ j < i ∧ up l l.length j = i := by
 by_cases h : j + 1 < l.length
 ·obtain ⟨i, n, hi, hk, hlt⟩ := parent F h
  exact .inr ⟨i, n, hi, hk, hlt, up_of F hi hk _ (lt_of_some hi)⟩
 ·have e : j = l.length - 1 := by omega
  exact .inl ⟨e, by rw [e]; exact up_top F _⟩
theorem climb_up (F : Form l) {at_ part out u : Nat} (C : Climb l at_ part out) {n : Nd} (hn : l[u]? = some n) (hk : part ∈ kids n) (hv : aliveT (tr l u) = true) :
 (endsT (tr l part) at_ = false → Climb l at_ u out) ∧
 (endsT (tr l part) at_ = true →
   (n.op = 3 → n.a = part → ∃ y : Nat, n.b = y ∧ y < u ∧ Climb l at_ u (out ||| (factT (tr l y)).first)) ∧
   (n.op = 3 → n.a ≠ part → Climb l at_ u out) ∧
   (n.op = 5 → Climb l at_ u (out ||| (factT (tr l part)).first)) ∧
   (n.op ≠ 3 → n.op ≠ 5 → Climb l at_ u out)) := by
 cases F.kind hn with
 | none h => rw [kids_leaf (.inl h)] at hk; cases hk
 | empty h => rw [kids_leaf (.inr (.inl h))] at hk; cases hk
 | sym h => rw [kids_leaf (.inr (.inr h))] at hk; cases hk
 | cat ho s x y ha hb hx hy =>
   have hkk := kids_cat (.inl ho) ha hb
   rw [hkk] at hk
   simp only [List.mem_cons, List.not_mem_nil, or_false] at hk
   have hne := kids_apart F hn hkk
   rcases hk with rfl | rfl
   ·have h1 := C.cat_left F hn ho ha hb hy hx hv
    refine ⟨fun e => by rw [e] at h1; simpa using h1, fun e => ?_⟩
    rw [e] at h1
    exact ⟨fun _ _ => ⟨y, hb, hy, by simpa using h1⟩, fun _ h => (h ha).elim, fun h => by omega, fun h => (h ho).elim⟩
   ·have h1 := C.cat_right F hn ho ha hb hx hy hv
    exact ⟨fun _ => h1, fun _ => ⟨fun _ h => by omega, fun _ _ => h1, fun h => by omega, fun h => (h ho).elim⟩⟩
 | alt ho s x y ha hb hx hy =>
   have hkk := kids_cat (.inr ho) ha hb
   rw [hkk] at hk
   simp only [List.mem_cons, List.not_mem_nil, or_false] at hk
   have h1 := C.alt F hn ho ha hb hx hy hk
   exact ⟨fun _ => h1, fun _ => ⟨fun h => by omega, fun h => by omega, fun h => by omega, fun _ _ => h1⟩⟩
 | star ho s x ha hb hx =>
   have hkk := kids_star ho ha
   rw [hkk] at hk
   simp only [List.mem_cons, List.not_mem_nil, or_false] at hk
   subst hk
   have h1 := C.star hn ho ha hx
   refine ⟨fun e => by rw [e] at h1; simpa using h1, fun e => ?_⟩
   rw [e] at h1
   exact ⟨fun h => by omega, fun h => by omega, fun _ => by simpa using h1, fun _ h => (h ho).elim⟩
theorem dead_next (F : Form l) {at_ u part : Nat} (hi : In l part at_) {n : Nd} (hn : l[u]? = some n) (hk : part ∈ kids n) (hv : aliveT (tr l u) = false) : 0 = nextM l at_ := by
 have hl := lt_of_some hn
 have hu : In l u at_ := In.trans (.step .refl hn hk) hi
 exact next_of_dead F ((dead_of_void hu hv).top F (in_root F hl))
end
end Go.Rx
namespace Go.Rx
def isBl (c : UInt8) : Bool := decide (c.toNat = 9) || decide (c.toNat = 10) || decide (c.toNat = 13) || decide (c.toNat = 32)
def isLe (c : Nat) : Bool := (decide (97 ≤ c) && decide (c ≤ 122)) || (decide (65 ≤ c) && decide (c ≤ 90)) || decide (c = 95)
def isIn (c : Nat) : Bool := isLe c || (decide (48 ≤ c) && decide (c ≤ 57)) || decide (c = 45) || decide (c = 46)
def nmB (w : List UInt8) : Bool := decide (1 ≤ w.length) && decide (w.length ≤ 64) && (match w with | c :: _ => isLe c.toNat | [] => false) && w.all fun c => isIn c.toNat
def sk (r : List UInt8) : List UInt8 := r.dropWhile isBl
theorem sk_cons {c : UInt8} {r : List UInt8} (h : isBl c = false) : sk (c :: r) = c :: r := by simp [sk, h]
theorem sk_bl {c : UInt8} {r : List UInt8} (h : isBl c = true) : sk (c :: r) = sk r := by simp [sk, h]
theorem sk_head {c : UInt8} {r q : List UInt8} (h : sk r = c :: q) : isBl c = false := by
 induction r with
 | nil => cases h
 | cons d r ih =>
   cases hd : isBl d with
   | true => rw [sk_bl hd] at h; exact ih h
   | false => rw [sk_cons hd] at h; cases h; exact hd
theorem sk_sk (r : List UInt8) : sk (sk r) = sk r := by
 cases h : sk r with
 | nil => rfl
 | cons c q => exact sk_cons (sk_head h)
theorem sk_suffix (r : List UInt8) : sk r <:+ r := List.dropWhile_suffix _
def mv (by_ : Nat) (n : Nd) : Nd :=
 if n.op = 3 ∨ n.op = 4 then { n with a := n.a + by_, b := n.b + by_ } else if n.op = 5 then { n with a := n.a + by_ } else n
def nd0 : Nd := ⟨0, nil8, 0, 0⟩
def nd1 : Nd := ⟨1, nil8, 0, 0⟩
def nd2 (s : ByteArray) : Nd := ⟨2, s, 0, 0⟩
def two (op : Int) (a b : List Nd) : List Nd := a ++ b.map (mv a.length) ++ [⟨op, nil8, (a.length : Int) - 1, ((a.length + b.length : Nat) : Int) - 1⟩]
def manyL (a : List Nd) : List Nd := a ++ [⟨5, nil8, (a.length : Int) - 1, 0⟩]
def foldN (op : Int) : List (List Nd) → List Nd
 | [] => []
 | l :: ls => ls.foldl (two op) l
theorem foldN_snoc (op : Int) (ls : List (List Nd)) (h : ls ≠ []) (x : List Nd) : foldN op (ls ++ [x]) = two op (foldN op ls) x := by
 cases ls with
 | nil => exact absurd rfl h
 | cons l ls => simp [foldN, List.foldl_append]
theorem two_len (op : Int) (a b : List Nd) : (two op a b).length = a.length + b.length + 1 := by simp [two]; omega
theorem manyL_len (a : List Nd) : (manyL a).length = a.length + 1 := by simp [manyL]
abbrev Part := List UInt8 → List Nd → List UInt8 → Prop
inductive Parts (c : UInt8) (P : Part) : List UInt8 → List (List Nd) → List UInt8 → Prop where
 | last {r l q} : P r l q → (sk q).head? ≠ some c → Parts c P r [l] (sk q)
 | more {r l q q' ls r'} : P r l q → sk q = c :: q' → Parts c P q' ls r' → Parts c P r (l :: ls) r'
def RowOf (c : UInt8) (op : Int) (P : Part) : Part := fun r l r' => ∃ ls, Parts c P r ls r' ∧ l = foldN op ls ∧ l.length ≤ 1024
inductive Marks : List Nd → List UInt8 → List Nd → List UInt8 → Prop where
 | done {l r} : (sk r).head? ≠ some 42 → (sk r).head? ≠ some 43 → (sk r).head? ≠ some 63 → Marks l r l (sk r)
 | star {l r q l' r'} : sk r = 42 :: q → l.length + 1 ≤ 1024 → Marks (manyL l) q l' r' → Marks l r l' r'
 | opt {l r q l' r'} : sk r = 63 :: q → l.length + 2 ≤ 1024 → Marks (two 4 l [nd1]) q l' r' → Marks l r l' r'
def ItemOf (P : Part) : Part := fun r l r' => ∃ l0 q, P r l0 q ∧ Marks l0 q l r'
def SeqOf (P : Part) : Part := RowOf 44 3 (ItemOf P)
def ExprOf (P : Part) : Part := RowOf 124 4 (SeqOf P)
def WordAt (r : List UInt8) (w : List UInt8) (r' : List UInt8) : Prop := r = w ++ r' ∧ nmB w = true ∧ ∀ c q, r' = c :: q → isIn c.toNat = false
def AtomD : Nat → Part
 | 0 => fun _ _ _ => False
 | n + 1 => fun r l r' =>
   (sk r = 33 :: r' ∧ l = [nd0]) ∨
   (∃ q, sk r = 40 :: q ∧ sk q = 41 :: r' ∧ l = [nd1]) ∨
   (∃ q q', sk r = 40 :: q ∧ (sk q).head? ≠ some 41 ∧ ExprOf (AtomD n) (sk q) l q' ∧ sk q' = 41 :: r') ∨
   (∃ w, WordAt (sk r) w r' ∧ l = [nd2 ⟨w.toArray⟩])
def isA : RT ByteArray → Bool | .alt _ _ => true | _ => false
def isC : RT ByteArray → Bool | .cat _ _ => true | _ => false
def par (b : Bool) (x : List UInt8) : List UInt8 := if b then 40 :: (x ++ [41]) else x
def txt : RT ByteArray → List UInt8
 | .none => [33]
 | .empty => [40, 41]
 | .sym _ s => s.data.toList
 | .cat a b => par (isA a) (txt a) ++ 44 :: par (isA b || isC b) (txt b)
 | .alt a b => txt a ++ 124 :: par (isA b) (txt b)
 | .star a => par (isA a || isC a) (txt a) ++ [42]
def sizeT : RT ByteArray → Nat
 | .none => 1
 | .empty => 1
 | .sym _ _ => 1
 | .cat a b => sizeT a + sizeT b + 1
 | .alt a b => sizeT a + sizeT b + 1
 | .star a => sizeT a + 1
def post : RT ByteArray → List Nd
 | .none => [nd0]
 | .empty => [nd1]
 | .sym _ s => [nd2 s]
 | .cat a b => two 3 (post a) (post b)
 | .alt a b => two 4 (post a) (post b)
 | .star a => manyL (post a)
def okT : RT ByteArray → Prop
 | .none => True
 | .empty => True
 | .sym _ s => nmB s.data.toList = true
 | .cat a b => okT a ∧ okT b
 | .alt a b => okT a ∧ okT b
 | .star a => okT a
theorem post_len (t : RT ByteArray) : (post t).length = sizeT t := by
 induction t with
 | none => rfl
 | empty => rfl
 | sym _ _ => rfl
 | cat a b iha ihb => simp [post, sizeT, two_len, iha, ihb]
 | alt a b iha ihb => simp [post, sizeT, two_len, iha, ihb]
 | star a ih => simp [post, sizeT, manyL_len, ih]
theorem size_pos (t : RT ByteArray) : 0 < sizeT t := by cases t <;> simp [sizeT]
def partsS : RT ByteArray → List (List Nd)
 | .cat a b => partsS a ++ [post b]
 | t => [post t]
def partsE : RT ByteArray → List (List Nd)
 | .alt a b => partsE a ++ [post b]
 | t => [post t]
theorem partsS_ne (t : RT ByteArray) : partsS t ≠ [] := by cases t <;> simp [partsS]
theorem partsE_ne (t : RT ByteArray) : partsE t ≠ [] := by cases t <;> simp [partsE]
theorem fold_partsS (t : RT ByteArray) : foldN 3 (partsS t) = post t := by
 induction t with
 | cat a b iha _ => rw [partsS, foldN_snoc _ _ (partsS_ne a), iha]; rfl
 | _ => rfl
theorem fold_partsE (t : RT ByteArray) : foldN 4 (partsE t) = post t := by
 induction t with
 | alt a b iha _ => rw [partsE, foldN_snoc _ _ (partsE_ne a), iha]; rfl
 | _ => rfl
def headB (c : UInt8) : Bool := decide (c.toNat = 33) || decide (c.toNat = 40) || isLe c.toNat
theorem headB_le {c : UInt8} (h : isLe c.toNat = true) : headB c = true := by simp [headB, h]
theorem isBl_of_head {c : UInt8} (h : headB c = true) : isBl c = false := by
 simp only [headB, isLe, isBl, Bool.or_eq_true, Bool.and_eq_true, decide_eq_true_eq, Bool.or_eq_false_iff, decide_eq_false_iff_not] at h ⊢
 omega
theorem nm_head {w : List UInt8} (h : nmB w = true) : ∃ c q, w = c :: q ∧ isLe c.toNat = true := by
 cases w with
 | nil => simp [nmB] at h
 | cons c q => refine ⟨c, q, rfl, ?_⟩; simp only [nmB, Bool.and_eq_true] at h; exact h.1.2
theorem txt_head {t : RT ByteArray} (h : okT t) : ∃ c q, txt t = c :: q ∧ headB c = true := by
 induction t with
 | none => exact ⟨33, [], rfl, rfl⟩
 | empty => exact ⟨40, [41], rfl, rfl⟩
 | sym _ s => obtain ⟨c, q, e, hc⟩ := nm_head h; exact ⟨c, q, e, headB_le hc⟩
 | cat a b iha _ =>
   obtain ⟨c, q, e, hc⟩ := iha h.1
   rw [txt]
   cases isA a with
   | true => exact ⟨40, _, rfl, rfl⟩
   | false => exact ⟨c, q ++ _, by simp only [par, e]; rfl, hc⟩
 | alt a b iha _ =>
   obtain ⟨c, q, e, hc⟩ := iha h.1
   exact ⟨c, q ++ _, by rw [txt, e]; rfl, hc⟩
 | star a ih =>
   obtain ⟨c, q, e, hc⟩ := ih h
   rw [txt]
   cases isA a || isC a with
   | true => exact ⟨40, _, rfl, rfl⟩
   | false => exact ⟨c, q ++ [42], by simp only [par, e]; rfl, hc⟩
theorem sk_txt {t : RT ByteArray} (h : okT t) (r : List UInt8) : sk (txt t ++ r) = txt t ++ r := by
 obtain ⟨c, q, e, hc⟩ := txt_head h
 rw [e]; exact sk_cons (isBl_of_head hc)
def Fol (r : List UInt8) : Prop := ∀ c q, r = c :: q → c = 44 ∨ c = 124 ∨ c = 41
def FolS (r : List UInt8) : Prop := ∀ c q, r = c :: q → c = 44 ∨ c = 124 ∨ c = 41 ∨ c = 42
def FolE (r : List UInt8) : Prop := ∀ c q, r = c :: q → c = 124 ∨ c = 41
theorem Fol.s {r : List UInt8} (h : Fol r) : FolS r := fun c q e => by rcases h c q e with h | h | h <;> simp [h]
theorem FolE.i {r : List UInt8} (h : FolE r) : Fol r := fun c q e => .inr (h c q e)
theorem FolS.sk {r : List UInt8} (h : FolS r) : sk r = r := by
 cases r with
 | nil => rfl
 | cons c q => exact sk_cons (by rcases h c q rfl with rfl | rfl | rfl | rfl <;> rfl)
theorem Fol.done {r : List UInt8} (h : Fol r) (l : List Nd) : Marks l r l r := by
 have e := h.s.sk
 have := Marks.done (l := l) (r := r)
 rw [e] at this
 refine this ?_ ?_ ?_ <;>
 ·cases r with
  | nil => simp
  | cons c q => rcases h c q rfl with rfl | rfl | rfl <;> simp
theorem FolE.head {r : List UInt8} (h : FolE r) : (Rx.sk r).head? ≠ some 44 := by
 rw [h.i.s.sk]
 cases r with
 | nil => simp
 | cons c q => rcases h c q rfl with rfl | rfl <;> simp
theorem FolS.word {r : List UInt8} (h : FolS r) : ∀ c q, r = c :: q → isIn c.toNat = false := fun c q e => by
 rcases h c q e with rfl | rfl | rfl | rfl <;> rfl
def Tail (c : UInt8) (P : Part) (q : List UInt8) (ls : List (List Nd)) (r' : List UInt8) : Prop :=
 (ls = [] ∧ r' = sk q ∧ (sk q).head? ≠ some c) ∨ ∃ q', sk q = c :: q' ∧ Parts c P q' ls r'
theorem Tail.parts {c : UInt8} {P : Part} {r q r' : List UInt8} {l : List Nd} {ls : List (List Nd)} (h : Tail c P q ls r') (hp : P r l q) : Parts c P r (l :: ls) r' := by
 rcases h with ⟨rfl, rfl, h⟩ | ⟨q', h, k⟩
 ·exact .last hp h
 ·exact .more hp h k
theorem seq_of_item {P : Part} {r q : List UInt8} {l : List Nd} (h : ItemOf P r l q) (hq : FolE q) (hl : l.length ≤ 1024) : SeqOf P r l q := by
 have := Parts.last (c := 44) h hq.head
 rw [hq.i.s.sk] at this
 exact ⟨[l], this, rfl, hl⟩
structure Reads (t : RT ByteArray) : Prop where
 expr : ∀ n, sizeT t ≤ n → ∀ rest ls' r', FolE rest → Tail 124 (SeqOf (AtomD n)) rest ls' r' → Parts 124 (SeqOf (AtomD n)) (txt t ++ rest) (partsE t ++ ls') r'
 seq : isA t = false → ∀ n, sizeT t ≤ n → ∀ rest ls' r', Fol rest → Tail 44 (ItemOf (AtomD n)) rest ls' r' → Parts 44 (ItemOf (AtomD n)) (txt t ++ rest) (partsS t ++ ls') r'
 item : isA t = false → isC t = false → ∀ n, sizeT t ≤ n → ∀ rest l' r', FolS rest → Marks (post t) rest l' r' → ItemOf (AtomD n) (txt t ++ rest) l' r'
section
variable {t : RT ByteArray}
theorem Reads.whole (h : Reads t) (hs : sizeT t ≤ 1024) {n : Nat} (hn : sizeT t ≤ n) {rest : List UInt8} (hr : ∀ c q, rest = c :: q → c = 41) : ExprOf (AtomD n) (txt t ++ rest) (post t) rest := by
 have hf : FolE rest := fun c q e => .inr (hr c q e)
 refine ⟨partsE t, ?_, (fold_partsE t).symm, by rw [post_len]; exact hs⟩
 have := h.expr n hn rest [] rest hf (.inl ⟨rfl, hf.i.s.sk.symm, ?_⟩)
 ·rwa [List.append_nil] at this
 ·rw [hf.i.s.sk]
  cases rest with
  | nil => simp
  | cons c q => obtain rfl := hr c q rfl; simp
theorem seq_whole (_ha : isA t = false) (hS : ∀ n, sizeT t ≤ n → ∀ rest ls' r', Fol rest → Tail 44 (ItemOf (AtomD n)) rest ls' r' → Parts 44 (ItemOf (AtomD n)) (txt t ++ rest) (partsS t ++ ls') r')
 (hs : sizeT t ≤ 1024) {n : Nat} (hn : sizeT t ≤ n) {rest : List UInt8} (hr : FolE rest) : SeqOf (AtomD n) (txt t ++ rest) (post t) rest := by
 refine ⟨partsS t, ?_, (fold_partsS t).symm, by rw [post_len]; exact hs⟩
 have := hS n hn rest [] rest hr.i (.inl ⟨rfl, hr.i.s.sk.symm, hr.head⟩)
 rwa [List.append_nil] at this
theorem Reads.atom (h : Reads t) (hok : okT t) (hs : sizeT t ≤ 1024) {n : Nat} (hn : sizeT t + 1 ≤ n) (rest : List UInt8) : AtomD n (par true (txt t) ++ rest) (post t) rest := by
 obtain ⟨m, rfl⟩ : ∃ m, n = m + 1 := ⟨n - 1, by omega⟩
 refine .inr (.inr (.inl ⟨txt t ++ 41 :: rest, 41 :: rest, ?_, ?_, ?_, sk_cons rfl⟩))
 ·simp only [par, if_true, List.cons_append, List.append_assoc, List.nil_append]
  exact sk_cons rfl
 ·rw [sk_txt hok]
  obtain ⟨c, q, e, hc⟩ := txt_head hok
  rw [e]
  simp only [List.cons_append, List.head?_cons, ne_eq, Option.some.injEq]
  rintro rfl
  cases hc
 ·rw [sk_txt hok]
  exact h.whole hs (by omega) (fun c q e => by cases e; rfl)
theorem Reads.itemOf (h : Reads t) (hok : okT t) (hs : sizeT t ≤ 1024) {b : Bool} (hb : b = false → isA t = false ∧ isC t = false) {n : Nat} (hn : sizeT t + 1 ≤ n) {rest r' : List UInt8} (hf : FolS rest) {l : List Nd} (hm : Marks (post t) rest l r') : ItemOf (AtomD n) (par b (txt t) ++ rest) l r' := by
 cases b with
 | true => exact ⟨post t, rest, h.atom hok hs hn rest, hm⟩
 | false => exact h.item (hb rfl).1 (hb rfl).2 n (by omega) rest l r' hf hm
theorem reads_of_seq (hs : sizeT t ≤ 1024) (hA : isA t = false) (hS : ∀ n, sizeT t ≤ n → ∀ rest ls' r', Fol rest → Tail 44 (ItemOf (AtomD n)) rest ls' r' → Parts 44 (ItemOf (AtomD n)) (txt t ++ rest) (partsS t ++ ls') r')
 (hI : isA t = false → isC t = false → ∀ n, sizeT t ≤ n → ∀ rest l' r', FolS rest → Marks (post t) rest l' r' → ItemOf (AtomD n) (txt t ++ rest) l' r') : Reads t := by
 have hPE : partsE t = [post t] := by cases t <;> first | rfl | cases hA
 refine ⟨fun n hn rest ls' r' hf hT => ?_, fun _ => hS, hI⟩
 rw [hPE]
 exact hT.parts (seq_whole hA hS hs hn hf)
theorem reads_of_item (hs : sizeT t ≤ 1024) (hA : isA t = false) (hC : isC t = false) (hI : ∀ n, sizeT t ≤ n → ∀ rest l' r', FolS rest → Marks (post t) rest l' r' → ItemOf (AtomD n) (txt t ++ rest) l' r') : Reads t := by
 have hPS : partsS t = [post t] := by cases t <;> first | rfl | cases hC
 refine reads_of_seq hs hA (fun n hn rest ls' r' hf hT => ?_) (fun _ _ => hI)
 rw [hPS]
 exact hT.parts (hI n hn rest _ _ hf.s (hf.done _))
theorem reads_of_atom (hs : sizeT t ≤ 1024) (hA : isA t = false) (hC : isC t = false) (hI : ∀ n rest, FolS rest → AtomD (n + 1) (txt t ++ rest) (post t) rest) : Reads t := by
 refine reads_of_item hs hA hC fun n hn rest l' r' hf hm => ?_
 obtain ⟨m, rfl⟩ : ∃ m, n = m + 1 := ⟨n - 1, by have := size_pos t; omega⟩
 exact ⟨post t, rest, hI m rest hf, hm⟩
end
theorem reads {t : RT ByteArray} (hok : okT t) (hs : sizeT t ≤ 1024) : Reads t := by
 induction t with
 | none => exact reads_of_atom hs rfl rfl fun n rest _ => .inl ⟨sk_cons rfl, rfl⟩
 | empty => exact reads_of_atom hs rfl rfl fun n rest _ => .inr (.inl ⟨41 :: rest, sk_cons rfl, sk_cons rfl, rfl⟩)
 | sym p s =>
   refine reads_of_atom hs rfl rfl fun n rest hf => .inr (.inr (.inr ⟨s.data.toList, ⟨?_, hok, hf.word⟩, ?_⟩))
   ·exact sk_txt (t := .sym p s) hok rest
   ·simp [post]
 | cat a b iha ihb =>
   simp only [sizeT] at hs
   have Ra := iha hok.1 (by omega)
   have Rb := ihb hok.2 (by omega)
   refine reads_of_seq (by simp only [sizeT]; omega) rfl (fun n hn rest ls' r' hf hT => ?_) (fun _ h => by cases h)
   simp only [sizeT] at hn
   have hb : ItemOf (AtomD n) (par (isA b || isC b) (txt b) ++ rest) (post b) rest := Rb.itemOf hok.2 (by omega) (fun h => by simpa using h) (by omega) hf.s (hf.done _)
   have hT' : Tail 44 (ItemOf (AtomD n)) (44 :: (par (isA b || isC b) (txt b) ++ rest)) (post b :: ls') r' := .inr ⟨_, sk_cons rfl, hT.parts hb⟩
   have hf' : Fol (44 :: (par (isA b || isC b) (txt b) ++ rest)) := fun c q e => by cases e; exact .inl rfl
   simp only [txt, partsS, List.append_assoc, List.cons_append, List.nil_append]
   cases ha : isA a with
   | false => exact Ra.seq ha n (by omega) _ _ _ hf' hT'
   | true =>
     have hPS : partsS a = [post a] := by cases a <;> first | rfl | cases ha
     rw [hPS]
     exact hT'.parts (Ra.itemOf (b := true) hok.1 (by omega) (fun h => by cases h) (by omega) hf'.s (hf'.done _))
 | alt a b iha ihb =>
   simp only [sizeT] at hs
   have Ra := iha hok.1 (by omega)
   have Rb := ihb hok.2 (by omega)
   refine ⟨fun n hn rest ls' r' hf hT => ?_, fun h => (by cases h), fun h => (by cases h)⟩
   simp only [sizeT] at hn
   have hb : SeqOf (AtomD n) (par (isA b) (txt b) ++ rest) (post b) rest := by
    cases hB : isA b with
    | false => exact seq_whole hB (Rb.seq hB) (by omega) (by omega) hf
    | true => exact seq_of_item (Rb.itemOf (b := true) hok.2 (by omega) (fun h => by cases h) (by omega) hf.i.s (hf.i.done _)) hf (by rw [post_len]; omega)
   simp only [txt, partsE, List.append_assoc, List.cons_append, List.nil_append]
   exact Ra.expr n (by omega) _ _ _ (fun c q e => by cases e; exact .inl rfl) (.inr ⟨_, sk_cons rfl, hT.parts hb⟩)
 | star a ih =>
   simp only [sizeT] at hs
   have Ra := ih hok (by omega)
   refine reads_of_item (by simp only [sizeT]; omega) rfl rfl fun n hn rest l' r' hf hm => ?_
   simp only [sizeT] at hn
   simp only [txt, List.append_assoc, List.cons_append, List.nil_append]
   refine Ra.itemOf hok (by omega) (fun h => by simpa using h) hn (fun c q e => by cases e; simp) (.star (sk_cons rfl) (by rw [post_len]; omega) hm)
end Go.Rx
namespace Go.Rx
def okAll (l : List Nd) : Prop := ∀ i n, l[i]? = some n → okNode i n = true
theorem okAll.kind {l : List Nd} (h : okAll l) {i : Nat} {n : Nd} (hn : l[i]? = some n) : Kind i n := kind_of_ok (h i n hn)
theorem mv_op (k : Nat) (n : Nd) : (mv k n).op = n.op := by unfold mv; split <;> (try split) <;> rfl
theorem mv_sym (k : Nat) (n : Nd) : (mv k n).sym = n.sym := by unfold mv; split <;> (try split) <;> rfl
theorem mv_leaf {k : Nat} {n : Nd} (h : n.op = 0 ∨ n.op = 1 ∨ n.op = 2) : mv k n = n := by unfold mv; rw [if_neg (by omega), if_neg (by omega)]
theorem mv_two {k : Nat} {n : Nd} (h : n.op = 3 ∨ n.op = 4) : mv k n = { n with a := n.a + k, b := n.b + k } := by unfold mv; rw [if_pos h]
theorem mv_star {k : Nat} {n : Nd} (h : n.op = 5) : mv k n = { n with a := n.a + k } := by unfold mv; rw [if_neg (by omega), if_pos h]
theorem okNode_leaf {i : Nat} {n : Nd} (h : n.op = 0 ∨ n.op = 1) (s : n.sym = nil8) (a : n.a = 0) (b : n.b = 0) : okNode i n = true := by
 unfold okNode; rw [if_pos h]; simp [s, a, b]
theorem okNode_sym {i : Nat} {n : Nd} (h : n.op = 2) (a : n.a = 0) (b : n.b = 0) : okNode i n = true := by
 unfold okNode; rw [if_neg (by omega), if_pos h]; simp [a, b]
theorem okNode_two {i : Nat} {n : Nd} (h : n.op = 3 ∨ n.op = 4) (s : n.sym = nil8) (a0 : 0 ≤ n.a) (a1 : n.a < i) (b0 : 0 ≤ n.b) (b1 : n.b < i) : okNode i n = true := by
 unfold okNode; rw [if_neg (by omega), if_neg (by omega), if_pos h]; simp [s, inR, a0, a1, b0, b1]
theorem okNode_star {i : Nat} {n : Nd} (h : n.op = 5) (s : n.sym = nil8) (a0 : 0 ≤ n.a) (a1 : n.a < i) (b : n.b = 0) : okNode i n = true := by
 unfold okNode; rw [if_neg (by omega), if_neg (by omega), if_neg (by omega), if_pos h]; simp [s, inR, a0, a1, b]
theorem ok_mv {i k : Nat} {n : Nd} (h : okNode i n = true) : okNode (k + i) (mv k n) = true := by
 cases kind_of_ok h with
 | none ho s a b => rw [mv_leaf (.inl ho)]; exact okNode_leaf (.inl ho) s a b
 | empty ho s a b => rw [mv_leaf (.inr (.inl ho))]; exact okNode_leaf (.inr ho) s a b
 | sym ho a b => rw [mv_leaf (.inr (.inr ho))]; exact okNode_sym ho a b
 | cat ho s x y a b hx hy => rw [mv_two (.inl ho)]; exact okNode_two (.inl ho) s (by simp only; omega) (by simp only; omega) (by simp only; omega) (by simp only; omega)
 | alt ho s x y a b hx hy => rw [mv_two (.inr ho)]; exact okNode_two (.inr ho) s (by simp only; omega) (by simp only; omega) (by simp only; omega) (by simp only; omega)
 | star ho s x a b hx => rw [mv_star ho]; exact okNode_star ho s (by simp only; omega) (by simp only; omega) b
theorem two_get (op : Int) (a b : List Nd) (i : Nat) : (two op a b)[i]? = if i < a.length then a[i]? else if i < a.length + b.length then (b[i - a.length]?).map (mv a.length) else if i = a.length + b.length then some ⟨op, nil8, (a.length : Int) - 1, ((a.length + b.length : Nat) : Int) - 1⟩ else none := by
 unfold two
 by_cases h1 : i < a.length
 ·rw [if_pos h1, List.append_assoc, List.getElem?_append_left h1]
 ·rw [if_neg h1, List.append_assoc, List.getElem?_append_right (by omega)]
  by_cases h2 : i < a.length + b.length
  ·rw [if_pos h2, List.getElem?_append_left (by simp; omega), List.getElem?_map]
  ·rw [if_neg h2, List.getElem?_append_right (by simp; omega)]
   by_cases h3 : i = a.length + b.length
   ·rw [if_pos h3, h3]; simp
   ·rw [if_neg h3, List.getElem?_eq_none]; simp; omega
theorem many_get (a : List Nd) (i : Nat) : (manyL a)[i]? = if i < a.length then a[i]? else if i = a.length then some ⟨5, nil8, (a.length : Int) - 1, 0⟩ else none := by
 unfold manyL
 by_cases h1 : i < a.length
 ·rw [if_pos h1, List.getElem?_append_left h1]
 ·rw [if_neg h1, List.getElem?_append_right (by omega)]
  by_cases h3 : i = a.length
  ·rw [if_pos h3, h3]; simp
  ·rw [if_neg h3, List.getElem?_eq_none]; simp; omega
theorem okAll_two {op : Int} (ho : op = 3 ∨ op = 4) {a b : List Nd} (ha : okAll a) (hb : okAll b) (a0 : 0 < a.length) (_b0 : 0 < b.length) : okAll (two op a b) := by
 intro i n hn
 rw [two_get] at hn
 split at hn
 ·exact ha i n hn
 ·split at hn
  ·rename_i h1 h2
   cases hb' : b[i - a.length]? with
   | none => rw [hb'] at hn; cases hn
   | some m =>
     rw [hb'] at hn
     cases hn
     have := ok_mv (k := a.length) (hb _ _ hb')
     rwa [show a.length + (i - a.length) = i by omega] at this
  ·split at hn
   ·cases hn
    exact okNode_two ho rfl (by simp only; omega) (by simp only; omega) (by simp only; omega) (by simp only; omega)
   ·cases hn
theorem okAll_many {a : List Nd} (ha : okAll a) (a0 : 0 < a.length) : okAll (manyL a) := by
 intro i n hn
 rw [many_get] at hn
 split at hn
 ·exact ha i n hn
 ·split at hn
  ·cases hn; exact okNode_star rfl rfl (by simp only; omega) (by simp only; omega) rfl
  ·cases hn
theorem okAll_one {n : Nd} (h : okNode 0 n = true) : okAll [n] := by
 intro i m hm
 match i with
 | 0 => cases hm; exact h
 | i + 1 => cases hm
theorem kids_mv {i k : Nat} {n : Nd} (h : okNode i n = true) : kids (mv k n) = (kids n).map (k + ·) := by
 cases kind_of_ok h with
 | none ho => rw [mv_leaf (.inl ho), kids_leaf (.inl ho)]; rfl
 | empty ho => rw [mv_leaf (.inr (.inl ho)), kids_leaf (.inr (.inl ho))]; rfl
 | sym ho => rw [mv_leaf (.inr (.inr ho)), kids_leaf (.inr (.inr ho))]; rfl
 | cat ho s x y a b hx hy => rw [mv_two (.inl ho), kids_cat (n := n) (.inl ho) a b]; exact kids_cat (n := { n with a := n.a + (k : Int), b := n.b + (k : Int) }) (x := k + x) (y := k + y) (.inl ho) (by show n.a + (k : Int) = ((k + x : Nat) : Int); omega) (by show n.b + (k : Int) = ((k + y : Nat) : Int); omega)
 | alt ho s x y a b hx hy => rw [mv_two (.inr ho), kids_cat (n := n) (.inr ho) a b]; exact kids_cat (n := { n with a := n.a + (k : Int), b := n.b + (k : Int) }) (x := k + x) (y := k + y) (.inr ho) (by show n.a + (k : Int) = ((k + x : Nat) : Int); omega) (by show n.b + (k : Int) = ((k + y : Nat) : Int); omega)
 | star ho s x a b hx => rw [mv_star ho, kids_star (n := n) ho a]; exact kids_star (n := { n with a := n.a + (k : Int) }) (x := k + x) ho (by show n.a + (k : Int) = ((k + x : Nat) : Int); omega)
theorem flat_congr {α β : Type} {f g : α → List β} {b : List α} (h : ∀ n, n ∈ b → f n = g n) : b.flatMap f = b.flatMap g := by
 induction b with
 | nil => rfl
 | cons x b ih => rw [List.flatMap_cons, List.flatMap_cons, h x (by simp), ih fun n hn => h n (by simp [hn])]
theorem kids_map {b : List Nd} (hb : okAll b) (k : Nat) : (b.map (mv k)).flatMap kids = (b.flatMap kids).map (k + ·) := by
 rw [List.flatMap_map, List.map_flatMap]
 refine flat_congr fun n hn => ?_
 obtain ⟨i, hi⟩ := List.getElem?_of_mem hn
 exact kids_mv (hb i n hi)
theorem kids_below {a : List Nd} (ha : okAll a) {k : Nat} (hk : k ∈ a.flatMap kids) : k + 1 < a.length := by
 obtain ⟨n, hn, hk⟩ := List.mem_flatMap.1 hk
 obtain ⟨i, hi⟩ := List.getElem?_of_mem hn
 have h1 := kids_lt (ha.kind hi) hk
 have h2 := lt_of_some hi
 omega
theorem uses_far {a : List Nd} (ha : okAll a) {j : Nat} (h : a.length ≤ j + 1) : uses a j = 0 := by
 unfold uses
 rw [List.count_eq_zero]
 intro hk
 have := kids_below ha hk
 omega
theorem count_shift (k j : Nat) (l : List Nat) : (l.map (k + ·)).count j = if k ≤ j then l.count (j - k) else 0 := by
 induction l with
 | nil => simp
 | cons x l ih =>
   simp only [List.map_cons, List.count_cons, ih]
   by_cases h : k ≤ j
   ·rw [if_pos h, if_pos h]
    have : (k + x == j) = (x == j - k) := by rw [Bool.eq_iff_iff]; simp only [beq_iff_eq]; omega
    rw [this]
   ·rw [if_neg h, if_neg h]
    have : (k + x == j) = false := by rw [beq_eq_false_iff_ne]; omega
    rw [this]; rfl
theorem form_two {op : Int} (ho : op = 3 ∨ op = 4) {a b : List Nd} (Fa : Form a) (Fb : Form b) : Form (two op a b) := by
 have a0 : 0 < a.length := List.length_pos_iff.2 Fa.ne
 have b0 : 0 < b.length := List.length_pos_iff.2 Fb.ne
 refine ⟨by simp [two], okAll_two ho Fa.ok Fb.ok a0 b0, fun j hj => ?_⟩
 rw [two_len] at hj
 have hk : kids ⟨op, nil8, (a.length : Int) - 1, ((a.length + b.length : Nat) : Int) - 1⟩ = [a.length - 1, a.length + b.length - 1] := kids_cat ho (by simp only; omega) (by simp only; omega)
 unfold uses two
 rw [List.flatMap_append, List.flatMap_append, kids_map Fb.ok, List.count_append, List.count_append, count_shift]
 simp only [List.flatMap_cons, List.flatMap_nil, List.append_nil, hk, List.count_cons, List.count_nil, Nat.zero_add, beq_iff_eq]
 rw [show List.count j (a.flatMap kids) = uses a j from rfl, show List.count (j - a.length) (b.flatMap kids) = uses b (j - a.length) from rfl]
 by_cases h1 : a.length ≤ j
 ·rw [if_pos h1, uses_far Fa.ok (by omega)]
  by_cases h2 : j + 1 < a.length + b.length
  ·rw [Fb.one _ (by omega), if_neg (by omega), if_neg (by omega)]
  ·rw [uses_far Fb.ok (by omega), if_pos (by omega), if_neg (by omega)]
 ·rw [if_neg h1]
  by_cases h2 : j + 1 < a.length
  ·rw [Fa.one _ h2, if_neg (by omega), if_neg (by omega)]
  ·rw [uses_far Fa.ok (by omega), if_neg (by omega), if_pos (by omega)]
theorem form_many {a : List Nd} (Fa : Form a) : Form (manyL a) := by
 have a0 : 0 < a.length := List.length_pos_iff.2 Fa.ne
 refine ⟨by simp [manyL], okAll_many Fa.ok a0, fun j hj => ?_⟩
 rw [manyL_len] at hj
 have hk : kids ⟨5, nil8, (a.length : Int) - 1, 0⟩ = [a.length - 1] := kids_star rfl (by simp only; omega)
 unfold uses manyL
 rw [List.flatMap_append, List.count_append]
 simp only [List.flatMap_cons, List.flatMap_nil, List.append_nil, hk, List.count_cons, List.count_nil, Nat.zero_add, beq_iff_eq]
 rw [show List.count j (a.flatMap kids) = uses a j from rfl]
 by_cases h2 : j + 1 < a.length
 ·rw [Fa.one _ h2, if_neg (by omega)]
 ·rw [uses_far Fa.ok (by omega), if_pos (by omega)]
theorem form_one {n : Nd} (h : okNode 0 n = true) : Form [n] := ⟨by simp, okAll_one h, fun j hj => by simp at hj⟩
theorem form_post (t : RT ByteArray) : Form (post t) := by
 induction t with
 | none => exact form_one (okNode_leaf (.inl rfl) rfl rfl rfl)
 | empty => exact form_one (okNode_leaf (.inr rfl) rfl rfl rfl)
 | sym p s => exact form_one (okNode_sym rfl rfl rfl)
 | cat a b iha ihb => exact form_two (.inl rfl) iha ihb
 | alt a b iha ihb => exact form_two (.inr rfl) iha ihb
 | star a ih => exact form_many ih
end Go.Rx
namespace Go.Rx
def symN (n : Nd) : Option ByteArray := if n.op = 2 then some n.sym else none
def symsL (l : List Nd) : List ByteArray := l.filterMap symN
section
variable {l : List Nd}
end
theorem mv_name {k : Nat} {n : Nd} (h : n.op = 2 → nmB n.sym.data.toList = true) : (mv k n).op = 2 → nmB (mv k n).sym.data.toList = true := by
 rw [mv_op, mv_sym]; exact h
theorem names_post {t : RT ByteArray} (h : okT t) : ∀ n, n ∈ post t → n.op = 2 → nmB n.sym.data.toList = true := by
 have two : ∀ (op : Int) (a b : List Nd), op ≠ 2 → (∀ n, n ∈ a → n.op = 2 → nmB n.sym.data.toList = true) → (∀ n, n ∈ b → n.op = 2 → nmB n.sym.data.toList = true) → ∀ n, n ∈ two op a b → n.op = 2 → nmB n.sym.data.toList = true := by
  intro op a b ho ha hb n hn h2
  simp only [two, List.mem_append, List.mem_map, List.mem_cons, List.not_mem_nil, or_false] at hn
  rcases hn with (hn | ⟨m, hm, rfl⟩) | rfl
  ·exact ha n hn h2
  ·exact mv_name (hb m hm) h2
  ·exact absurd h2 ho
 induction t with
 | none => intro n hn h2; simp only [post, List.mem_cons, List.not_mem_nil, or_false] at hn; subst hn; cases h2
 | empty => intro n hn h2; simp only [post, List.mem_cons, List.not_mem_nil, or_false] at hn; subst hn; cases h2
 | sym p s => intro n hn h2; simp only [post, List.mem_cons, List.not_mem_nil, or_false] at hn; subst hn; exact h
 | cat a b iha ihb => exact two 3 _ _ (by decide) (iha h.1) (ihb h.2)
 | alt a b iha ihb => exact two 4 _ _ (by decide) (iha h.1) (ihb h.2)
 | star a ih =>
   intro n hn h2
   simp only [post, manyL, List.mem_append, List.mem_cons, List.not_mem_nil, or_false] at hn
   rcases hn with hn | rfl
   ·exact ih h n hn h2
   ·cases h2
end Go.Rx
namespace Go.Proofs.YtngpjagpeblbjaaGreatDoor
open Go.RowKit Go.Spy Go.Rx
def isLet (c : Nat) : Bool := (decide (97 ≤ c) && decide (c ≤ 122)) || (decide (65 ≤ c) && decide (c ≤ 90)) || decide (c = 95)
def isDig (c : Nat) : Bool := decide (48 ≤ c) && decide (c ≤ 57)
def isPart (c : Nat) : Bool := isLet c || isDig c || decide (c = 45) || decide (c = 46)
set_option maxHeartbeats 400000 in
theorem letter_any (c : Nat) (w : World) :
 Calls Tryz.prog 96 #[.int .u8 c] w fun e w' => e = .returned (.bool (isLet c)) ∧ w = w' := by
 go_enter Tryz.func96, Tryz.ntmps96
 go_wp2
 all_goals (go_ret; exact ⟨ret_bool (by rw [Bool.eq_iff_iff]; simp [isLet]; omega), rfl⟩)
set_option maxHeartbeats 400000 in
theorem decimal_any (c : Nat) (w : World) :
 Calls Tryz.prog 124 #[.int .u8 c] w fun e w' => e = .returned (.bool (isDig c)) ∧ w = w' := by
 go_enter Tryz.func124, Tryz.ntmps124
 go_wp2
 all_goals (go_ret; exact ⟨ret_bool (by rw [Bool.eq_iff_iff]; simp [isDig]; omega), rfl⟩)
set_option maxHeartbeats 400000 in
theorem part_any (c : Nat) (w : World) :
 Calls Tryz.prog 98 #[.int .u8 c] w fun e w' => e = .returned (.bool (isPart c)) ∧ w = w' := by
 cases h1 : isLet c <;> cases h2 : isDig c
 all_goals
  go_enter Tryz.func98, Tryz.ntmps98
  go_wp2_with (first | (go_at_call 96; refine (letter_any _ _).mono ?_; rintro e w' ⟨rfl, rfl⟩) | (go_at_call 124; refine (decimal_any _ _).mono ?_; rintro e w' ⟨rfl, rfl⟩))
 all_goals (go_ret; exact ⟨ret_bool (by rw [Bool.eq_iff_iff]; simp [isPart, *]; try omega), rfl⟩)
end Go.Proofs.YtngpjagpeblbjaaGreatDoor
namespace Go.Proofs.YtngpjagpeblbjaaGreatDoor
open Go.RowKit Go.Spy
def allPart (s : ByteArray) : Bool := s.data.toList.all fun c => isPart c.toNat
def nameOk (s : ByteArray) : Bool := decide (1 ≤ s.size) && decide (s.size ≤ 64) && (match s.data.toList with | c :: _ => isLet c.toNat | [] => false) && allPart s
theorem isPart_lt {c : Nat} (h : isPart c = true) : c < 128 := by
 simp [isPart, isLet, isDig] at h; omega
theorem allPart_no {s : ByteArray} {k : Nat} (hlt : k < s.size) (h : isPart (s[k]'hlt).toNat = false) : allPart s = false := by
 unfold allPart
 rw [← Bool.not_eq_true, List.all_eq_true]
 intro hall
 have := hall (s[k]'hlt) (by have : s[k]'hlt = s.data.toList[k]'(by simpa using hlt) := rfl
                             rw [this]; exact List.getElem_mem _)
 rw [this] at h; cases h
theorem allPart_yes {s : ByteArray} (h : ∀ j (hj : j < s.size), isPart (s[j]'hj).toNat = true) : allPart s = true := by
 unfold allPart
 rw [List.all_eq_true]
 intro c hc
 obtain ⟨j, hj, rfl⟩ := List.getElem_of_mem hc
 exact h j (by simpa using hj)
set_option maxHeartbeats 400000 in
theorem all_part (s : ByteArray) (w : World) (hs : s.size ≤ maxLen) :
 Calls Tryz.prog 97 #[.string s, .func (.func 98) #[] #[]] w fun e w' => e = .returned (.bool (allPart s)) ∧ Ext w w' := by
 unfold maxLen at hs
 go_enter Tryz.func97, Tryz.ntmps97
 go_wp2_with fail
 go_loopg [5] s.size (fun g _ wr => ∃ k : Nat, k ≤ s.size ∧ g = s.size - k ∧ wr = w.iter s k ∧ Hid (∀ j (hj : j < s.size), j < k → isPart (s[j]'hj).toNat = true))
 case atStart => exact ⟨0, by omega, by omega, rfl, fun j _ hj => by omega⟩
 case round =>
  obtain ⟨k, hk, rfl, rfl, HA⟩ := hrel
  by_cases hlt : k < s.size
  ·cases hp : isPart (s[k]'hlt).toNat
   ·have hn := run_next_any (P := Tryz.prog) w s k
    have hF := hid (allPart_no hlt hp)
    go_wp2_with (first | (go_at_call 98; refine (part_any _ _).mono ?_; rintro e w' ⟨rfl, rfl⟩))
    go_ret
    exact ⟨ret_bool hF.out.symm, (Below.refl _ _).alloc (Nat.le_refl _) _⟩
   ·have hn := run_next_ascii (P := Tryz.prog) w s k
    have hx := isPart_lt hp
    go_wp2_with (first | (go_at_call 98; refine (part_any _ _).mono ?_; rintro e w' ⟨rfl, rfl⟩))
    go_roundg (s.size - (k+1))
    case measure => omega
    case rel => exact ⟨k+1, by omega, rfl, rfl, fun j hj hjk => by
     by_cases e : j = k
     ·subst e; exact hp
     ·exact HA.out j hj (by omega)⟩
  ·have hF := hid (allPart_yes fun j hj => HA.out j hj (by omega))
   have hn := run_next_end (P := Tryz.prog) w s k
   go_wp2_with fail
   go_ret
   exact ⟨ret_bool hF.out.symm, (Below.refl _ _).alloc (Nat.le_refl _) _⟩
theorem nameOk_head {s : ByteArray} (h : 0 < s.size) : (match s.data.toList with | c :: _ => isLet c.toNat | [] => false) = isLet (s[0]'h).toNat := by
 obtain ⟨⟨l⟩⟩ := s
 cases l with
 | nil => simp [ByteArray.size] at h
 | cons c r => rfl
set_option maxHeartbeats 400000 in
theorem is_any (s : ByteArray) (w : World) (hs : s.size ≤ maxLen) :
 Calls Tryz.prog 40 #[.string s] w fun e w' => e = .returned (.bool (nameOk s)) ∧ Ext w w' := by
 have hA := all_part s
 by_cases h1 : 1 ≤ s.size
 ·by_cases h2 : s.size ≤ 64
  ·have hh := nameOk_head (s := s) (by omega)
   cases h3 : isLet (s[0]'(by omega)).toNat
   ·have hF : Hid (nameOk s = false) := by rw [nameOk, hh, h3]; simp [Hid]
    clear hh
    go_enter Tryz.func40, Tryz.ntmps40
    go_wp2_with (first | (go_at_call 96; refine (letter_any _ _).mono ?_; rintro e w' ⟨rfl, rfl⟩) | (go_at_call 97; refine (all_part s _ hs).mono ?_; rintro e w' ⟨rfl, hx⟩))
    go_ret
    exact ⟨ret_bool hF.out.symm, Below.refl _ _⟩
   ·have hF : Hid (nameOk s = allPart s) := by rw [nameOk, hh, h3]; simp [Hid, h1, h2]
    clear hh
    go_enter Tryz.func40, Tryz.ntmps40
    go_wp2_with (first | (go_at_call 96; refine (letter_any _ _).mono ?_; rintro e w' ⟨rfl, rfl⟩) | (go_at_call 97; refine (all_part s _ hs).mono ?_; rintro e w' ⟨rfl, hx⟩))
    go_ret
    exact ⟨ret_bool hF.out.symm, hx⟩
  ·have hF : Hid (nameOk s = false) := by simp [Hid, nameOk, h2]
   go_enter Tryz.func40, Tryz.ntmps40
   go_wp2_with fail
   go_ret
   exact ⟨ret_bool hF.out.symm, Below.refl _ _⟩
 ·have hF : Hid (nameOk s = false) := by simp [Hid, nameOk, h1]
  go_enter Tryz.func40, Tryz.ntmps40
  go_wp2_with fail
  go_ret
  exact ⟨ret_bool hF.out.symm, Below.refl _ _⟩
end Go.Proofs.YtngpjagpeblbjaaGreatDoor
