/-
  Plain law of the reference's Make: a state in a list of places; where it goes, and whether it is final.
-/
import Derived.Test.YtngpjagpeblbjaaGreatDoorO02
namespace Go.Rx
theorem bitsL_sorted (w : Nat) : (bitsL w).Pairwise (· < ·) := by
 induction w using Nat.strongRecOn with
 | _ w ih =>
 by_cases h0 : w = 0
 ·subst h0; rw [bitsL_zero]; exact List.Pairwise.nil
 ·rw [bitsL_next h0, List.pairwise_cons]
  refine ⟨fun j hj => ?_, ih _ (and_pred_lt h0)⟩
  rw [mem_bitsL, drop_low h0, Bool.and_eq_true, Bool.not_eq_true', beq_eq_false_iff_ne] at hj
  rcases Nat.lt_trichotomy (tz w) j with h | h | h
  ·exact h
  ·exact absurd h.symm hj.2
  ·exfalso
   have := tz_le h0 hj.1
   omega
theorem sorted_ext : ∀ {l m : List Nat}, l.Pairwise (· < ·) → m.Pairwise (· < ·) → (∀ x, x ∈ l ↔ x ∈ m) → l = m
 | [], [], _, _, _ => rfl
 | [], b :: m, _, _, h => absurd ((h b).2 (by simp)) (by simp)
 | a :: l, [], _, _, h => absurd ((h a).1 (by simp)) (by simp)
 | a :: l, b :: m, hl, hm, h => by
   rw [List.pairwise_cons] at hl hm
   have hab : a = b := by
    have h1 := (h a).1 (by simp)
    have h2 := (h b).2 (by simp)
    rcases List.mem_cons.1 h1 with e | e
    ·exact e
    ·rcases List.mem_cons.1 h2 with e' | e'
     ·exact e'.symm
     ·have := hl.1 b e'
      have := hm.1 a e
      omega
   subst hab
   refine congrArg _ (sorted_ext hl.2 hm.2 fun x => ?_)
   constructor
   ·intro hx
    rcases List.mem_cons.1 ((h x).1 (by simp [hx])) with e | e
    ·subst e; exact absurd (hl.1 x hx) (Nat.lt_irrefl _)
    ·exact e
   ·intro hx
    rcases List.mem_cons.1 ((h x).2 (by simp [hx])) with e | e
    ·subst e; exact absurd (hm.1 x hx) (Nat.lt_irrefl _)
    ·exact e
end Go.Rx
namespace Go.Proofs.YtngpjagpeblbjaaGreatDoor
open Go.RowKit Go.Spy Go.Heaped Go.Tour Go.Rx
def lstS (s : Sta) : List Int := if s.1 then [-1] else (bitsL s.2.1).map Int.ofNat
def goP1 (l : List Nd) (q : Nat) (p : Int) : Bool := if p < 0 then startsT (rootT l) q else pairsT (rootT l) p.toNat q
def symQ (l : List Nd) (x : ByteArray) (q : Nat) : Bool := match l[q]? with | some n => decide (n.op = 2) && decide (n.sym = x) | none => false
def goesL (l : List Nd) (set : List Int) (x : ByteArray) (k : Nat) : List Nat := (List.range k).filter fun q => symQ l x q && set.any (goP1 l q)
def finP1 (l : List Nd) (p : Int) : Bool := if p < 0 then nullT (rootT l) else endsT (rootT l) p.toNat
def finL (l : List Nd) (set : List Int) : Bool := set.any (finP1 l)
def OkZ (s : Sta) : Prop := s = startS ∨ s.1 = false
theorem bitsL_inj {a b : Nat} (h : bitsL a = bitsL b) : a = b := Nat.eq_of_testBit_eq fun j => by
 rw [Bool.eq_iff_iff, ← mem_bitsL, ← mem_bitsL, h]
theorem lstS_inj {s t : Sta} (hs : OkZ s) (ht : OkZ t) (h : lstS s = lstS t) : s = t := by
 have key : ∀ m : Nat, ¬ ([-1] : List Int) = (bitsL m).map Int.ofNat := fun m e => by
  have h1 : (-1 : Int) ∈ (bitsL m).map Int.ofNat := by rw [← e]; simp
  obtain ⟨n, _, hn⟩ := List.mem_map.1 h1
  have h2 : ((n : Nat) : Int) = -1 := hn
  omega
 have inj : ∀ {a b : List Nat}, a.map Int.ofNat = b.map Int.ofNat → a = b := fun {a b} e => by
  refine List.map_inj_right (f := Int.ofNat) (fun x y e => ?_) |>.1 e
  exact Int.ofNat.inj e
 rcases hs with rfl | hs <;> rcases ht with rfl | ht
 ·rfl
 ·unfold lstS at h
  rw [ht] at h
  exact absurd h (key _)
 ·unfold lstS at h
  rw [hs] at h
  exact absurd h.symm (key _)
 ·unfold lstS at h
  rw [hs, ht] at h
  obtain ⟨a, m⟩ := s
  obtain ⟨b, k⟩ := t
  simp only at hs ht h
  subst hs ht
  have := bitsL_inj (inj h)
  exact Prod.ext rfl (Subtype.ext this)
theorem tour_okZ (l : List Nd) (syms : List ByteArray) (i : Nat) : ∀ k ∈ (tourN (succS l syms) startS i).keys, OkZ k :=
 tourN_univ (U := OkZ) (.inl rfl) (fun k _ x hx => by
  simp only [fan, List.mem_map, List.mem_range] at hx
  obtain ⟨c, _, rfl⟩ := hx
  exact .inr rfl) i
theorem symQ_bit (l : List Nd) (x : ByteArray) (q : Nat) : symQ l x q = (ofM l x).testBit q := by
 rw [Bool.eq_iff_iff, bit_ofM]
 unfold symQ
 cases h : l[q]? with
 | none => simp
 | some n => simp
theorem come_bit {l : List Nd} (F : Rx.Form l) {s : Sta} (hs : OkZ s) (q : Nat) : (lstS s).any (goP1 l q) = (comeS l s).testBit q := by
 rcases hs with rfl | hs
 ·have h1 : lstS startS = [-1] := rfl
  have h2 : comeS l startS = firstM l := by
   unfold comeS
   rw [show startS.2.1 = 0 from rfl, bitsL_zero, List.foldl_nil]
   rfl
  rw [h1, h2]
  unfold firstM
  rw [fact_first]
  show (goP1 l q (-1) || false) = _
  rw [Bool.or_false]
  rfl
 ·rw [Bool.eq_iff_iff, List.any_eq_true]
  unfold lstS comeS
  rw [hs]
  simp only [Bool.false_eq_true, if_false]
  rw [bit_fold]
  constructor
  ·rintro ⟨p, hp, hg⟩
   obtain ⟨n, hn, rfl⟩ := List.mem_map.1 hp
   refine .inr ⟨n, hn, ?_⟩
   rw [bit_nextM F]
   unfold goP1 at hg
   have h0 : ¬ (Int.ofNat n) < 0 := by have : (0 : Int) ≤ (n : Nat) := by omega
                                       exact Int.not_lt.2 this
   rw [if_neg h0] at hg
   exact hg
  ·rintro (h | ⟨n, hn, hg⟩)
   ·simp at h
   ·refine ⟨Int.ofNat n, List.mem_map.2 ⟨n, hn, rfl⟩, ?_⟩
    rw [bit_nextM F] at hg
    unfold goP1
    have h0 : ¬ (Int.ofNat n) < 0 := by have : (0 : Int) ≤ (n : Nat) := by omega
                                        exact Int.not_lt.2 this
    rw [if_neg h0]
    exact hg
theorem goesL_step {l : List Nd} (F : Rx.Form l) (hl : l.length ≤ 64) {syms : List ByteArray} {s : Sta} (hs : OkZ s) {c : Nat} {x : ByteArray} (hx : syms[c]? = some x) : (goesL l (lstS s) x l.length).map Int.ofNat = lstS (stepS l syms s c) := by
 have h1 := (stepS_ok F hl syms s c).2
 unfold lstS
 rw [show (stepS l syms s c).1 = false from rfl]
 simp only [Bool.false_eq_true, if_false]
 rw [h1]
 refine congrArg _ (sorted_ext ((List.pairwise_lt_range (n := l.length)).filter _) (bitsL_sorted _) fun q => ?_)
 rw [mem_bitsL, Nat.testBit_and, goesL, List.mem_filter, List.mem_range, hx]
 simp only [Option.getD_some]
 have hq : (if s.1 = true then ([-1] : List Int) else (bitsL s.2.1).map Int.ofNat).any (goP1 l q) = (comeS l s).testBit q := come_bit F hs q
 rw [hq, symQ_bit, Bool.and_comm]
 constructor
 ·exact fun h => h.2
 ·intro h
  refine ⟨?_, h⟩
  rw [Bool.and_eq_true] at h
  obtain ⟨n, hn, _⟩ := (bit_ofM _ _).1 h.2
  exact (List.getElem?_eq_some_iff.1 hn).1
theorem finL_at {l : List Nd} (F : Rx.Form l) {s : Sta} (hs : OkZ s) : finL l (lstS s) = finalK l s := by
 rcases hs with rfl | hs
 ·have h1 : lstS startS = [-1] := rfl
  unfold finL finalK
  rw [h1, show startS.1 = true from rfl, show startS.2.1 = 0 from rfl, Nat.zero_and]
  show (finP1 l (-1) || false) = (true && nullT (tr l (l.length - 1)) || decide ((0 : Nat) ≠ 0))
  simp [finP1, rootT]
 ·unfold finL finalK lstS
  rw [hs]
  simp only [Bool.false_eq_true, if_false, Bool.false_and, Bool.false_or]
  rw [Bool.eq_iff_iff, List.any_eq_true, decide_eq_true_eq]
  constructor
  ·rintro ⟨p, hp, hg⟩ h0
   obtain ⟨n, hn, rfl⟩ := List.mem_map.1 hp
   unfold finP1 at hg
   have h1 : ¬ (Int.ofNat n) < 0 := by have : (0 : Int) ≤ (n : Nat) := by omega
                                       exact Int.not_lt.2 this
   rw [if_neg h1] at hg
   have h2 : (s.2.1 &&& lastK l).testBit n = true := by
    rw [Nat.testBit_and, Bool.and_eq_true]
    exact ⟨(mem_bitsL _ _).1 hn, (bit_lastK F n).2 hg⟩
   rw [h0] at h2
   simp at h2
  ·intro h0
   obtain ⟨n, hn⟩ : ∃ n, (s.2.1 &&& lastK l).testBit n = true := by
    refine Classical.byContradiction fun h => h0 (Nat.eq_of_testBit_eq fun j => ?_)
    rw [Nat.zero_testBit]
    cases hj : (s.2.1 &&& lastK l).testBit j with
    | false => rfl
    | true => exact absurd ⟨j, hj⟩ h
   rw [Nat.testBit_and, Bool.and_eq_true] at hn
   refine ⟨Int.ofNat n, List.mem_map.2 ⟨n, (mem_bitsL _ _).2 hn.1, rfl⟩, ?_⟩
   unfold finP1
   have h1 : ¬ (Int.ofNat n) < 0 := by have : (0 : Int) ≤ (n : Nat) := by omega
                                       exact Int.not_lt.2 this
   rw [if_neg h1]
   exact (bit_lastK F n).1 hn.2
end Go.Proofs.YtngpjagpeblbjaaGreatDoor
