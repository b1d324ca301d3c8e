/-
  Regions that draw their order, taken piece by piece: a piece whose operations leave the world alone is walked in the text's order, a piece whose order is forced
  Plain law: regular expressions as trees, the rows that they match, and the places of their words. No program is named here.
  Plain law: nodes in a row, whose parts stand ahead of them, as trees. No program is named here.
  Plain law: what is known of each node, as masks of places, and which places stand behind a place. No program is named here.
-/
import Derived.StillTail
import Derived.StillTactics
import Derived.OrdersHeld
import Derived.Deep.OwnRows
import Derived.Test.YtngpjagpeblbjaaGreatDoorP01
namespace Go.Spy
open Go.RowKit
section
variable {P : Program} {ops : Array Oper} {md : Region.Mode} {w : World}
def laterB (md : Region.Mode) (ops : Array Oper) (n : Nat) : Bool :=
 (List.range ops.size).all fun t => decide (t ≤ n) || (List.range t).any fun u => decide (n ≤ u) && Region.waitsFor md ops t u
theorem tail_waits2 {n : Nat} {listed : Array Bool} (hs : Region.sinkB md ops n = true) (hc : laterB md ops n = true) (hn : n < ops.size) (inv : HeadInv md ops n listed) :
 ∀ (d i : Nat), n - i = d → i < n → listed.getD i true = false → ∀ t, n ≤ t → t ∉ Region.ready md ops listed := by
 intro d
 induction d using Nat.strongRecOn with
 | _ d ih =>
   intro i hd hi hun t ht hr
   obtain ⟨_, ot, hot, hall⟩ := mem_ready.1 hr
   have htlt : t < ops.size := (Array.getElem?_eq_some_iff.1 hot).1
   by_cases htn : t = n
   ·subst htn
    have h1 := List.all_eq_true.1 hs i (List.mem_range.2 hi)
    obtain ⟨j, hj, hj2⟩ := List.any_eq_true.1 h1
    simp only [Bool.and_eq_true, decide_eq_true_eq] at hj2
    obtain ⟨oj, hoj, e, he, hb, hon⟩ := Region.waitsFor_spec hj2.2
    have hjle : j ≤ t := by have := List.mem_range.1 hj; omega
    by_cases hjt : j = t
    ·subst hjt
     have : oj = ot := Option.some.inj (hoj.symm.trans hot)
     subst this
     have h2 := hall e he hb
     rw [hon, getD_both hun] at h2
     cases h2
    ·cases hl : listed.getD j false with
     | true =>
       have h2 := inv.closed j oj hoj hl e he hb
       rw [hon, getD_both hun] at h2
       cases h2
     | false =>
       have hjs : j < listed.size := by rw [inv.size]; omega
       exact ih (t - j) (by omega) j rfl (by omega) (getD_in hjs hl) t (Nat.le_refl _) hr
   ·have h1 := List.all_eq_true.1 hc t (List.mem_range.2 htlt)
    simp only [Bool.or_eq_true, decide_eq_true_eq] at h1
    rcases h1 with h1 | h1
    ·omega
    ·obtain ⟨u, hu, hu2⟩ := List.any_eq_true.1 h1
     simp only [Bool.and_eq_true, decide_eq_true_eq] at hu2
     obtain ⟨o', ho', e, he, hb, hon⟩ := Region.waitsFor_spec hu2.2
     have : o' = ot := Option.some.inj (ho'.symm.trans hot)
     subst this
     have h2 := hall e he hb
     have := List.mem_range.1 hu
     rw [hon, getD_both (inv.tail u hu2.1 (by omega))] at h2
     cases h2
theorem wpAnyL_first2 {n i : Nat} {oi : Oper} {v : Value} {L : Array Bool → Act → Prop} (hi : ops[i]? = some oi) (hsel : ∀ (j : Nat) (o : Oper) cs b, ops[j]? = some o → o.op ≠ .select cs b)
 (hs : Region.sinkB md ops n = true) (hc : laterB md ops n = true) (hn : n < ops.size) (hin : i < n)
 (hdone : ∀ listed a, L listed a → ∀ j ∈ Region.ready md ops listed, n ≤ j) :
 ∀ (f : Nat) (listed : Array Bool) (a : Act), HeadInv md ops n listed →
   (∀ j oj, ops[j]? = some oj → j ≠ i → listed.getD j true = false → (∀ e ∈ oj.after, Region.binds md e = true → e.on ≠ i) → oi.apart ops oj = true) →
   i ∈ Region.ready md ops listed → YieldsAt P ops w oi v a →
   wpAnyL P md ops w n L f (listed.setIfInBounds i true) (a.put oi.dst v) → wpAnyL P md ops w n L (f + 1) listed a := by
 intro f
 induction f with
 | zero =>
   intro listed a inv _ hr hy H
   have hun := (mem_ready.1 hr).1
   refine ⟨fun h => (by rw [h] at hr; cases hr), fun j hj => ?_⟩
   have hjn : j < n := by
    rcases Nat.lt_or_ge j n with h | h
    ·exact h
    ·exact absurd hj (tail_waits2 hs hc hn inv _ i rfl hin hun j h)
   refine ⟨hjn, ?_⟩
   by_cases hji : j = i
   ·subst hji; exact hy.stOp hi H
   ·have := hdone _ _ H j (ready_mono hj hji)
    omega
 | succ f ih =>
   intro listed a inv hfree hr hy H
   have hun := (mem_ready.1 hr).1
   refine ⟨fun h => (by rw [h] at hr; cases hr), fun j hj => ?_⟩
   have hjn : j < n := by
    rcases Nat.lt_or_ge j n with h | h
    ·exact h
    ·exact absurd hj (tail_waits2 hs hc hn inv _ i rfl hin hun j h)
   refine ⟨hjn, ?_⟩
   by_cases hji : j = i
   ·subst hji; exact hy.stOp hi H
   ·have h1 := (H.2 j (ready_mono hj hji)).2
    obtain ⟨hjun, oj, hoj, hall⟩ := mem_ready.1 hj
    have hnot : ∀ e ∈ oj.after, Region.binds md e = true → e.on ≠ i := fun e he hb heq => by
     have h1 := hall e he hb
     rw [heq, getD_both hun] at h1
     cases h1
    have h2 := stOp_put hoj (hfree j oj hoj hji hjun hnot) (fun cs b => hsel i oi cs b hi) (fun cs b => hsel j oj cs b hoj) hy h1
    have hfree' : ∀ k ok, ops[k]? = some ok → k ≠ i → (listed.setIfInBounds j true).getD k true = false →
     (∀ e ∈ ok.after, Region.binds md e = true → e.on ≠ i) → oi.apart ops ok = true := fun k ok hk hki hun hno => by
     refine hfree k ok hk hki ?_ hno
     by_cases hjk : j = k
     ·subst hjk; exact hjun
     ·rw [getD_set_ne true hjk] at hun; exact hun
    refine stOp_mono (fun a' h3 => ih (listed.setIfInBounds j true) a' (inv.set hj hjn) hfree' (ready_mono hr (Ne.symm hji)) h3.1 ?_) h2
    rw [Array.setIfInBounds_comm _ _ hji]
    exact h3.2
def sameB (a b : Array Bool) : Bool := a.toList == b.toList
theorem sameB_eq {a b : Array Bool} (h : sameB a b = true) : a = b := by
 unfold sameB at h
 rw [beq_iff_eq] at h
 exact Array.toList_inj.1 h
def lexTo (md : Region.Mode) (ops : Array Oper) (goal : Array Bool) : Nat → Nat → Array Bool → Bool
 | 0, _, listed => sameB listed goal
 | f + 1, k, listed => (Region.ready md ops listed).contains k && Region.free md ops listed k && lexTo md ops goal f (k + 1) (listed.setIfInBounds k true)
def headB (md : Region.Mode) (ops : Array Oper) (n : Nat) (listed : Array Bool) : Bool :=
 decide (listed.size = ops.size) &&
 ((List.range ops.size).all fun j => !listed.getD j false || match ops[j]? with | some oj => oj.after.all (fun e => !Region.binds md e || listed.getD e.on false) | none => true) &&
 ((List.range ops.size).all fun t => decide (t < n) || !listed.getD t true)
theorem headB_inv {n : Nat} {listed : Array Bool} (h : headB md ops n listed = true) : HeadInv md ops n listed := by
 simp only [headB, Bool.and_eq_true, decide_eq_true_eq] at h
 obtain ⟨⟨h1, h2⟩, h3⟩ := h
 refine ⟨h1, fun j oj hj hl e he hb => ?_, fun t ht htl => ?_⟩
 ·have h4 := List.all_eq_true.1 h2 j (List.mem_range.2 (Array.getElem?_eq_some_iff.1 hj).1)
  simp only [hj, hl, Bool.not_true, Bool.false_or] at h4
  have h5 := Array.all_eq_true_iff_forall_mem.1 h4 e he
  rw [hb] at h5
  simpa using h5
 ·have h4 := List.all_eq_true.1 h3 t (List.mem_range.2 htl)
  simp only [Bool.or_eq_true, decide_eq_true_eq, Bool.not_eq_true'] at h4
  rcases h4 with h4 | h4
  ·omega
  ·exact h4
theorem wpAnyL_lex2 {n : Nat} {goal : Array Bool} {Lq : Act → Prop} (hsel : Region.noSelect ops = true) (hs : Region.sinkB md ops n = true) (hc : laterB md ops n = true) (hn : n < ops.size)
 (hg : ∀ j ∈ Region.ready md ops goal, n ≤ j) :
 ∀ (l : List Oper) (k : Nat) (listed : Array Bool) (a : Act), (∀ j, j < l.length → l[j]? = ops[k + j]?) → k + l.length = n → HeadInv md ops n listed →
 lexTo md ops goal l.length k listed = true → wpStill P ops w Lq l a →
 wpAnyL P md ops w n (fun listed' a' => listed' = goal ∧ Lq a') l.length listed a
 | [], k, listed, a, _, hk, _, hB, h => ⟨sameB_eq (by simpa [lexTo] using hB), h⟩
 | o :: l, k, listed, a, hl, hk, inv, hB, h => by
   have h0 : ops[k]? = some o := by simpa using (hl 0 (by simp)).symm
   simp only [List.length_cons, lexTo, Bool.and_eq_true] at hB
   obtain ⟨⟨hr, hf⟩, hB'⟩ := hB
   have hkn : k < n := by simp only [List.length_cons] at hk; omega
   have hr' : k ∈ Region.ready md ops listed := by simpa using hr
   have hst : stOp P ops w k (wpStill P ops w Lq l) a := by unfold stOp; simp only [h0]; exact h
   obtain ⟨v, hy, hK⟩ := yieldsAt_of_stOp h0 hst
   exact wpAnyL_first2 h0 (Region.noSelect_spec hsel) hs hc hn hkn (fun listed' a' hL => by rw [hL.1]; exact hg) l.length listed a inv (Region.free_spec h0 hf) hr' hy
    (wpAnyL_lex2 hsel hs hc hn hg l (k + 1) _ _ (fun j hj => by have := hl (j + 1) (by simp; omega); simpa [Nat.add_assoc, Nat.add_comm 1 j] using this) (by simp only [List.length_cons] at hk; omega) (inv.set hr' hkn) hB' hK)
def stillB (md : Region.Mode) (ops : Array Oper) (k n : Nat) (listed goal : Array Bool) : Bool :=
 Region.noSelect ops && decide (n < ops.size) && decide (k ≤ n) && Region.sinkB md ops n && laterB md ops n && headB md ops n listed && lexTo md ops goal (n - k) k listed && (Region.ready md ops goal).all fun j => decide (n ≤ j)
theorem wpAny_still {Q : Exit → Act → World → Prop} {l : List Oper} (k n g : Nat) {fuel : Nat} {listed : Array Bool} (goal : Array Bool) {a : Act} (hB : stillB md l.toArray k n listed goal = true) (hf : fuel = (n - k) + g)
 (h : wpStill P l.toArray w (fun a' => wpAny P md l.toArray Q g goal a' w) ((l.drop k).take (n - k)) a) : wpAny P md l.toArray Q fuel listed a w := by
 simp only [stillB, Bool.and_eq_true, decide_eq_true_eq] at hB
 obtain ⟨⟨⟨⟨⟨⟨⟨h1, h2⟩, h3⟩, h4⟩, h5⟩, h6⟩, h7⟩, h8⟩ := hB
 subst hf
 have hl : ((l.drop k).take (n - k)).length = n - k := by simp at h2 ⊢; omega
 have H := wpAnyL_lex2 (P := P) (md := md) (w := w) (goal := goal) h1 h4 h5 h2 (fun j hj => by simpa using List.all_eq_true.1 h8 j hj) ((l.drop k).take (n - k)) k listed a (fun j hj => by
  rw [hl] at hj
  simp [List.getElem?_drop, hj]) (by rw [hl]; omega) (headB_inv h6) (by rw [hl]; exact h7) h
 have := wpAny_of_head (Q' := Q) (g := g) (fun listed a' hL => by obtain ⟨rfl, hL2⟩ := hL; exact hL2) _ _ _ H
 rwa [hl] at this
def behind (Q : Exit → Act → World → Prop) (K : Act → World → Prop) : Exit → Act → World → Prop
 | .normal, a, w => K a w
 | e, a, w => Q e a w
theorem wp_behind {Q : Exit → Act → World → Prop} {K K' : Act → World → Prop} {o : Oper} {a : Act} {w : World} (h : o.wp P a w K' (behind Q K)) : o.wp P a w K' Q := by
 unfold Oper.wp at *
 generalize (execOp a.eval o).run P w = r at *
 cases r with
 | ok n w' =>
   cases n <;> simp only [Oper.upon] at h ⊢ <;>
    first
     | exact h
     | exact Calls.mono h (fun e w'' he => by cases e <;> exact he)
 | halt x w' => cases x <;> simp only [Oper.upon] at h ⊢ <;> exact h
def seqTo (md : Region.Mode) (ops : Array Oper) (goal : Array Bool) : Nat → Nat → Array Bool → Bool
 | 0, _, listed => sameB listed goal
 | g + 1, k, listed => decide (Region.ready md ops listed = [k]) && seqTo md ops goal g (k + 1) (listed.setIfInBounds k true)
theorem wpAny_seq {Q : Exit → Act → World → Prop} {goal : Array Bool} {g : Nat} : ∀ (l : List Oper) (k : Nat) (listed : Array Bool) (a : Act) (w : World), (∀ j, j < l.length → l[j]? = ops[k + j]?) →
 seqTo md ops goal l.length k listed = true → wpList P ops (behind Q (wpAny P md ops Q g goal)) l a w → wpAny P md ops Q (l.length + g) listed a w
 | [], _, listed, a, w, _, hB, h => by
   have := sameB_eq (by simpa [seqTo] using hB)
   subst this
   rw [List.length_nil, Nat.zero_add]
   exact h
 | o :: l, k, listed, a, w, hl, hB, h => by
   have h0 : ops[k]? = some o := by simpa using (hl 0 (by simp)).symm
   simp only [List.length_cons, seqTo, Bool.and_eq_true, decide_eq_true_eq] at hB
   rw [show (o :: l).length + g = (l.length + g) + 1 by simp; omega]
   refine ⟨fun h1 => (by rw [hB.1] at h1; cases h1), fun i hi => ?_⟩
   rw [hB.1] at hi
   have hik : i = k := by simpa using hi
   subst hik
   have hw : wpOp P ops Q i (wpList P ops (behind Q (wpAny P md ops Q g goal)) l) a w := by
    unfold wpOp
    simp only [h0]
    have h1 := h
    unfold wpList at h1
    split
    ·rename_i hwt
     rw [if_pos hwt] at h1
     rcases h1 with h1 | ⟨h1, h2⟩
     ·exact .inl (wp_behind h1)
     ·exact .inr ⟨h1, h2⟩
    ·rename_i hwt
     rw [if_neg hwt] at h1
     exact h1
   exact wpOp_mono (fun a' w' h' => wpAny_seq l (i + 1) _ a' w' (fun j hj => by have := hl (j + 1) (by simp; omega); simpa [Nat.add_assoc, Nat.add_comm 1 j] using this) hB.2 h') hw
theorem wpAny_forced {Q : Exit → Act → World → Prop} {l : List Oper} (k n g : Nat) {fuel : Nat} {listed : Array Bool} (goal : Array Bool) {a : Act} (hB : (decide (n ≤ l.toArray.size) && seqTo md l.toArray goal (n - k) k listed) = true) (hf : fuel = (n - k) + g) (hkn : k ≤ n)
 (h : wpList P l.toArray (behind Q (wpAny P md l.toArray Q g goal)) ((l.drop k).take (n - k)) a w) : wpAny P md l.toArray Q fuel listed a w := by
 simp only [Bool.and_eq_true, decide_eq_true_eq] at hB
 subst hf
 have hl : ((l.drop k).take (n - k)).length = n - k := by have := hB.1; simp at this ⊢; omega
 have := wpAny_seq (md := md) (goal := goal) ((l.drop k).take (n - k)) k listed a w (fun j hj => by
  rw [hl] at hj
  simp [List.getElem?_drop, hj]) (by rw [hl]; exact hB.2) h
 rwa [hl] at this
theorem wpStill_load_agg {Q : Act → Prop} {rest : List Oper} {o : Oper} {a : Act} (hgd : o.guard = none) (ty : TypeId) (x : Operand) (ho : o.op = .load ty x)
 (g off : Nat) (hx : a.eval x = .pointer (some ⟨g, off, none⟩)) (t : TypeId) (vs : Array Value) (d : TypeDesc) (n : Nat) (hg : Blk w g t vs)
 (hu : P.underlying ty = some d) (hd : (match d with | .struct _ | .array _ _ => true | _ => false) = true) (hi : (P.info? ty).map (·.size) = some n) (hf : off + n ≤ vs.size)
 (h : ∀ C, Hid (C = vs.extract off (off + n)) → wpStill P ops w Q rest (a.put o.dst (.agg C))) : wpStill P ops w Q (o :: rest) a := by
 unfold wpStill
 rw [if_pos (by simp [Region.wanted, hgd])]
 unfold Oper.still execOp
 simp only [ho, hx, Instr.loadAt, Instr.sureAddr, Sem.run_bind, Sem.run_pure, Result.andThen_ok, run_loadVar_at w g off t ty vs d n hg hu hd hi hf]
 exact ⟨rfl, h _ rfl⟩
theorem run_make_R (t e : TypeId) (z : Value) (size bytes : Nat) (ht : P.underlying t = some (.slice e)) (hinfo : (P.info? e).map (fun i => (i.zero, i.size, i.bytes)) = some (some z, size, bytes))
 (n : Nat) (hbytes : bytes * n ≤ 281474976710656) (h63 : n ≤ 9223372036854775807) (w : World) :
 (Instr.makeSlice t (.int .i64 (n : Int)) (.int .i64 (n : Int))).run P w = .ok (.slice (some ⟨w.heap.size, 0, none⟩) n n) (w.alloc (.cells (madeCells z.cells (n * size)) e)) := by
 obtain ⟨i, hi, hzz⟩ := Option.map_eq_some_iff.1 hinfo
 simp only [Prod.mk.injEq] at hzz
 obtain ⟨hz, hs, hb⟩ := hzz
 subst hs hb
 have hb' : (i.bytes : Int) * (n : Int) ≤ 281474976710656 := by
  have h : ((i.bytes * n : Nat) : Int) ≤ 281474976710656 := by omega
  rwa [Int.natCast_mul] at h
 have hr := run_make (P := P) w t e i z ht hi hz .i64 .i64 n n (by omega) (Int.le_refl _) hb' (by omega)
 simp only [Int.toNat_natCast] at hr
 exact hr
theorem wp_region_pieces {id : Nat} {Q : Exit → Act → World → Prop} {a : Act} {l : List Oper} (hm : P.follows .mixedOrders = true)
 (h : wpAny P .any l.toArray Q l.length (Array.replicate l.length false) a w.drew) : (Code.region id l.toArray true).wp P Q a w := by
 refine wp_region_any hm ?_
 simpa using h
theorem wpAny_end {Q : Exit → Act → World → Prop} {listed : Array Bool} {a : Act} (hr : (Region.ready md ops listed).isEmpty = true) (h : Q .normal a w) : wpAny P md ops Q 0 listed a w :=
 wpAny_done (by simpa using hr) h 0
section
variable {S : World → Prop} {Q : Exit → Act → World → Prop}
theorem wp_region_heldL {id : Nat} {a : Act} {l : List Oper} (S : World → Prop) (hm : P.follows .mixedOrders = true)
 (h : wpAnyH P .any l.toArray Q S l.length (Array.replicate l.length false) a w.drew) : (Code.region id l.toArray true).wp P Q a w :=
 wp_region_held (S := S) hm (by simpa using h)
theorem wpAnyH_takeK {l : List Oper} (k g : Nat) {fuel : Nat} {listed : Array Bool} (goal : Array Bool) {a : Act} {o : Oper} (ho : l[k]? = some o)
 (hB : (Region.noSelect l.toArray && Region.free md l.toArray listed k && (Region.ready md l.toArray listed).contains k && sameB (listed.setIfInBounds k true) goal) = true) (hf : fuel = g + 1)
 (v : Value) (hQ : ∀ c a w, Q (.panic c) (a.put o.dst v) w → Q (.panic c) a w) (hy : YieldsIf P l.toArray S o v a) (hS : S w)
 (h : wpAnyH P md l.toArray Q S g goal (a.put o.dst v) w) : wpAnyH P md l.toArray Q S fuel listed a w := by
 simp only [Bool.and_eq_true] at hB
 obtain ⟨⟨⟨h1, h2⟩, h3⟩, h4⟩ := hB
 subst hf
 refine wpAnyH_take (i := k) (by simpa using ho) h1 h2 h3 hQ hy hS ?_
 rw [sameB_eq h4]
 exact h
theorem wpAnyH_one {l : List Oper} (k g : Nat) {fuel : Nat} {listed : Array Bool} (goal : Array Bool) {a : Act} {o : Oper} (ho : l[k]? = some o)
 (hB : (decide (Region.ready md l.toArray listed = [k]) && sameB (listed.setIfInBounds k true) goal) = true) (hf : fuel = g + 1)
 (h : wpList P l.toArray (behind Q (fun a' w' => S w' ∧ wpAnyH P md l.toArray Q S g goal a' w')) [o] a w) : wpAnyH P md l.toArray Q S fuel listed a w := by
 simp only [Bool.and_eq_true, decide_eq_true_eq] at hB
 subst hf
 refine wpAnyH_all hB.1 (by simp) fun i hi => ?_
 have hik : i = k := by simpa using hi
 subst hik
 have h0 : l.toArray[i]? = some o := by simpa using ho
 unfold wpOp
 simp only [h0]
 unfold wpList at h
 rw [sameB_eq hB.2]
 split
 ·rename_i hwt
  rw [if_pos hwt] at h
  rcases h with h | ⟨h1, h2⟩
  ·exact .inl (wp_behind h)
  ·exact .inr ⟨h1, h2⟩
 ·rename_i hwt
  rw [if_neg hwt] at h
  exact h
theorem wpAnyH_end {listed : Array Bool} {a : Act} (hr : (Region.ready md ops listed).isEmpty = true) (h : Q .normal a w) : wpAnyH P md ops Q S 0 listed a w :=
 wpAnyH_done (by simpa using hr) h 0
end
end
end Go.Spy
namespace Go.Rx
inductive RT (σ : Type) where
 | none | empty
 | sym (p : Nat) (s : σ)
 | cat (a b : RT σ)
 | alt (a b : RT σ)
 | star (a : RT σ)
section
variable {σ : Type}
def nullT : RT σ → Bool
 | .none => false
 | .empty => true
 | .sym _ _ => false
 | .cat a b => nullT a && nullT b
 | .alt a b => nullT a || nullT b
 | .star _ => true
def aliveT : RT σ → Bool
 | .none => false
 | .empty => true
 | .sym _ _ => true
 | .cat a b => aliveT a && aliveT b
 | .alt a b => aliveT a || aliveT b
 | .star _ => true
def startsT : RT σ → Nat → Bool
 | .none, _ => false
 | .empty, _ => false
 | .sym p _, q => p == q
 | .cat a b, q => startsT a q && aliveT b || nullT a && startsT b q
 | .alt a b, q => startsT a q || startsT b q
 | .star a, q => startsT a q
def endsT : RT σ → Nat → Bool
 | .none, _ => false
 | .empty, _ => false
 | .sym p _, q => p == q
 | .cat a b, q => aliveT a && endsT b q || endsT a q && nullT b
 | .alt a b, q => endsT a q || endsT b q
 | .star a, q => endsT a q
def pairsT : RT σ → Nat → Nat → Bool
 | .none, _, _ => false
 | .empty, _, _ => false
 | .sym _ _, _, _ => false
 | .cat a b, p, q => pairsT a p q && aliveT b || aliveT a && pairsT b p q || endsT a p && startsT b q
 | .alt a b, p, q => pairsT a p q || pairsT b p q
 | .star a, p, q => pairsT a p q || endsT a p && startsT a q
def posT : RT σ → List Nat
 | .none => []
 | .empty => []
 | .sym p _ => [p]
 | .cat a b => posT a ++ posT b
 | .alt a b => posT a ++ posT b
 | .star a => posT a
theorem alive_of_null {t : RT σ} (h : nullT t = true) : aliveT t = true := by
 induction t with
 | none => cases h
 | empty => rfl
 | sym _ _ => rfl
 | cat a b iha ihb => simp only [nullT, aliveT, Bool.and_eq_true] at h ⊢; exact ⟨iha h.1, ihb h.2⟩
 | alt a b iha ihb => simp only [nullT, aliveT, Bool.or_eq_true] at h ⊢; exact h.imp iha ihb
 | star _ _ => rfl
theorem alive_of_starts {t : RT σ} {p : Nat} (h : startsT t p = true) : aliveT t = true := by
 induction t with
 | none => cases h
 | empty => rfl
 | sym _ _ => rfl
 | cat a b iha ihb =>
   simp only [startsT, aliveT, Bool.or_eq_true, Bool.and_eq_true] at h ⊢
   rcases h with h | h
   ·exact ⟨iha h.1, h.2⟩
   ·exact ⟨alive_of_null h.1, ihb h.2⟩
 | alt a b iha ihb => simp only [startsT, aliveT, Bool.or_eq_true] at h ⊢; exact h.imp iha ihb
 | star _ _ => rfl
theorem alive_of_ends {t : RT σ} {p : Nat} (h : endsT t p = true) : aliveT t = true := by
 induction t with
 | none => cases h
 | empty => rfl
 | sym _ _ => rfl
 | cat a b iha ihb =>
   simp only [endsT, aliveT, Bool.or_eq_true, Bool.and_eq_true] at h ⊢
   rcases h with h | h
   ·exact ⟨h.1, ihb h.2⟩
   ·exact ⟨iha h.1, alive_of_null h.2⟩
 | alt a b iha ihb => simp only [endsT, aliveT, Bool.or_eq_true] at h ⊢; exact h.imp iha ihb
 | star _ _ => rfl
theorem alive_of_pairs {t : RT σ} {p q : Nat} (h : pairsT t p q = true) : aliveT t = true := by
 induction t with
 | none => cases h
 | empty => rfl
 | sym _ _ => rfl
 | cat a b iha ihb =>
   simp only [pairsT, aliveT, Bool.or_eq_true, Bool.and_eq_true] at h ⊢
   rcases h with (h | h) | h
   ·exact ⟨iha h.1, h.2⟩
   ·exact ⟨h.1, ihb h.2⟩
   ·exact ⟨alive_of_ends h.1, alive_of_starts h.2⟩
 | alt a b iha ihb => simp only [pairsT, aliveT, Bool.or_eq_true] at h ⊢; exact h.imp iha ihb
 | star _ _ => rfl
theorem pos_of_starts {t : RT σ} {p : Nat} (h : startsT t p = true) : p ∈ posT t := by
 induction t with
 | none => cases h
 | empty => cases h
 | sym _ _ => simp only [startsT, beq_iff_eq] at h; simp [posT, h]
 | cat a b iha ihb =>
   simp only [startsT, posT, Bool.or_eq_true, Bool.and_eq_true, List.mem_append] at h ⊢
   exact h.imp (fun h => iha h.1) (fun h => ihb h.2)
 | alt a b iha ihb => simp only [startsT, posT, Bool.or_eq_true, List.mem_append] at h ⊢; exact h.imp iha ihb
 | star a ih => exact ih h
theorem pos_of_ends {t : RT σ} {p : Nat} (h : endsT t p = true) : p ∈ posT t := by
 induction t with
 | none => cases h
 | empty => cases h
 | sym _ _ => simp only [endsT, beq_iff_eq] at h; simp [posT, h]
 | cat a b iha ihb =>
   simp only [endsT, posT, Bool.or_eq_true, Bool.and_eq_true, List.mem_append] at h ⊢
   exact h.symm.imp (fun h => iha h.1) (fun h => ihb h.2)
 | alt a b iha ihb => simp only [endsT, posT, Bool.or_eq_true, List.mem_append] at h ⊢; exact h.imp iha ihb
 | star a ih => exact ih h
theorem pos_of_pairs {t : RT σ} {p q : Nat} (h : pairsT t p q = true) : p ∈ posT t ∧ q ∈ posT t := by
 induction t with
 | none => cases h
 | empty => cases h
 | sym _ _ => cases h
 | cat a b iha ihb =>
   simp only [pairsT, posT, Bool.or_eq_true, Bool.and_eq_true, List.mem_append] at h ⊢
   rcases h with (h | h) | h
   ·exact ⟨.inl (iha h.1).1, .inl (iha h.1).2⟩
   ·exact ⟨.inr (ihb h.2).1, .inr (ihb h.2).2⟩
   ·exact ⟨.inl (pos_of_ends h.1), .inr (pos_of_starts h.2)⟩
 | alt a b iha ihb =>
   simp only [pairsT, posT, Bool.or_eq_true, List.mem_append] at h ⊢
   rcases h with h | h
   ·exact ⟨.inl (iha h).1, .inl (iha h).2⟩
   ·exact ⟨.inr (ihb h).1, .inr (ihb h).2⟩
 | star a ih =>
   simp only [pairsT, posT, Bool.or_eq_true, Bool.and_eq_true] at h ⊢
   rcases h with h | h
   ·exact ih h
   ·exact ⟨pos_of_ends h.1, pos_of_starts h.2⟩
end
end Go.Rx
namespace Go.Rx
structure Nd where
 op : Int
 sym : ByteArray
 a : Int
 b : Int
def nil8 : ByteArray := ⟨#[]⟩
def inR (i : Nat) (x : Int) : Bool := decide (0 ≤ x) && decide (x < i)
def okNode (i : Nat) (n : Nd) : Bool :=
 if n.op = 0 ∨ n.op = 1 then decide (n.sym = nil8) && decide (n.a = 0) && decide (n.b = 0)
 else if n.op = 2 then decide (n.a = 0) && decide (n.b = 0)
 else if n.op = 3 ∨ n.op = 4 then decide (n.sym = nil8) && inR i n.a && inR i n.b
 else if n.op = 5 then decide (n.sym = nil8) && inR i n.a && decide (n.b = 0)
 else false
def kids (n : Nd) : List Nat :=
 if n.op = 3 ∨ n.op = 4 then [n.a.toNat, n.b.toNat] else if n.op = 5 then [n.a.toNat] else []
def uses (l : List Nd) (j : Nat) : Nat := (l.flatMap kids).count j
structure Form (l : List Nd) : Prop where
 ne : l ≠ []
 ok : ∀ i n, l[i]? = some n → okNode i n = true
 one : ∀ j, j + 1 < l.length → uses l j = 1
def tr (l : List Nd) (i : Nat) : RT ByteArray :=
 match l[i]? with
 | none => .none
 | some n =>
   if n.op = 1 then .empty
   else if n.op = 2 then .sym i n.sym
   else if _h : n.op = 3 ∧ n.a.toNat < i ∧ n.b.toNat < i then .cat (tr l n.a.toNat) (tr l n.b.toNat)
   else if _h : n.op = 4 ∧ n.a.toNat < i ∧ n.b.toNat < i then .alt (tr l n.a.toNat) (tr l n.b.toNat)
   else if _h : n.op = 5 ∧ n.a.toNat < i then .star (tr l n.a.toNat)
   else .none
termination_by i
decreasing_by all_goals omega
theorem inR_iff {i : Nat} {x : Int} : inR i x = true ↔ 0 ≤ x ∧ x < i := by simp [inR]
inductive Kind (i : Nat) (n : Nd) : Prop where
 | none (h : n.op = 0) (s : n.sym = nil8) (a : n.a = 0) (b : n.b = 0)
 | empty (h : n.op = 1) (s : n.sym = nil8) (a : n.a = 0) (b : n.b = 0)
 | sym (h : n.op = 2) (a : n.a = 0) (b : n.b = 0)
 | cat (h : n.op = 3) (s : n.sym = nil8) (x y : Nat) (a : n.a = x) (b : n.b = y) (hx : x < i) (hy : y < i)
 | alt (h : n.op = 4) (s : n.sym = nil8) (x y : Nat) (a : n.a = x) (b : n.b = y) (hx : x < i) (hy : y < i)
 | star (h : n.op = 5) (s : n.sym = nil8) (x : Nat) (a : n.a = x) (b : n.b = 0) (hx : x < i)
theorem kind_of_ok {i : Nat} {n : Nd} (h : okNode i n = true) : Kind i n := by
 unfold okNode at h
 split at h
 ·rename_i ho
  simp only [Bool.and_eq_true, decide_eq_true_eq] at h
  rcases ho with ho | ho
  ·exact .none ho h.1.1 h.1.2 h.2
  ·exact .empty ho h.1.1 h.1.2 h.2
 ·split at h
  ·rename_i ho
   simp only [Bool.and_eq_true, decide_eq_true_eq] at h
   exact .sym ho h.1 h.2
  ·split at h
   ·rename_i ho
    simp only [Bool.and_eq_true, decide_eq_true_eq, inR_iff] at h
    rcases ho with ho | ho
    ·exact .cat ho h.1.1 n.a.toNat n.b.toNat (by omega) (by omega) (by omega) (by omega)
    ·exact .alt ho h.1.1 n.a.toNat n.b.toNat (by omega) (by omega) (by omega) (by omega)
   ·split at h
    ·rename_i ho
     simp only [Bool.and_eq_true, decide_eq_true_eq, inR_iff] at h
     exact .star ho h.1.1 n.a.toNat (by omega) h.2 (by omega)
    ·cases h
theorem tr_none {l : List Nd} {i : Nat} {n : Nd} (hn : l[i]? = some n) (ho : n.op = 0) : tr l i = .none := by
 rw [tr, hn]; simp [ho]
theorem tr_empty {l : List Nd} {i : Nat} {n : Nd} (hn : l[i]? = some n) (ho : n.op = 1) : tr l i = .empty := by
 rw [tr, hn]; simp [ho]
theorem tr_sym {l : List Nd} {i : Nat} {n : Nd} (hn : l[i]? = some n) (ho : n.op = 2) : tr l i = .sym i n.sym := by
 rw [tr, hn]; simp [ho]
theorem tr_cat {l : List Nd} {i : Nat} {n : Nd} (hn : l[i]? = some n) (ho : n.op = 3) {x y : Nat} (ha : n.a = x) (hb : n.b = y) (hx : x < i) (hy : y < i) :
 tr l i = .cat (tr l x) (tr l y) := by
 rw [tr, hn]; simp [ho, ha, hb, hx, hy]
theorem tr_alt {l : List Nd} {i : Nat} {n : Nd} (hn : l[i]? = some n) (ho : n.op = 4) {x y : Nat} (ha : n.a = x) (hb : n.b = y) (hx : x < i) (hy : y < i) :
 tr l i = .alt (tr l x) (tr l y) := by
 rw [tr, hn]; simp [ho, ha, hb, hx, hy]
theorem tr_star {l : List Nd} {i : Nat} {n : Nd} (hn : l[i]? = some n) (ho : n.op = 5) {x : Nat} (ha : n.a = x) (hx : x < i) :
 tr l i = .star (tr l x) := by
 rw [tr, hn]; simp [ho, ha, hx]
theorem kids_cat {n : Nd} (ho : n.op = 3 ∨ n.op = 4) {x y : Nat} (ha : n.a = x) (hb : n.b = y) : kids n = [x, y] := by
 unfold kids; rw [if_pos ho, ha, hb]; rfl
theorem kids_star {n : Nd} (ho : n.op = 5) {x : Nat} (ha : n.a = x) : kids n = [x] := by
 unfold kids; rw [if_neg (by omega), if_pos ho, ha]; rfl
theorem kids_leaf {n : Nd} (ho : n.op = 0 ∨ n.op = 1 ∨ n.op = 2) : kids n = [] := by
 unfold kids; rw [if_neg (by omega), if_neg (by omega)]
theorem kids_lt {i : Nat} {n : Nd} (k : Kind i n) {j : Nat} (hj : j ∈ kids n) : j < i := by
 cases k with
 | none h => rw [kids_leaf (.inl h)] at hj; cases hj
 | empty h => rw [kids_leaf (.inr (.inl h))] at hj; cases hj
 | sym h => rw [kids_leaf (.inr (.inr h))] at hj; cases hj
 | cat h s x y a b hx hy =>
   rw [kids_cat (.inl h) a b] at hj
   simp only [List.mem_cons, List.not_mem_nil, or_false] at hj
   rcases hj with rfl | rfl <;> assumption
 | alt h s x y a b hx hy =>
   rw [kids_cat (.inr h) a b] at hj
   simp only [List.mem_cons, List.not_mem_nil, or_false] at hj
   rcases hj with rfl | rfl <;> assumption
 | star h s x a b hx =>
   rw [kids_star h a] at hj
   simp only [List.mem_cons, List.not_mem_nil, or_false] at hj
   subst hj; exact hx
section
variable {l : List Nd}
theorem Form.kind (F : Form l) {i : Nat} {n : Nd} (h : l[i]? = some n) : Kind i n := kind_of_ok (F.ok i n h)
theorem lt_of_some {i : Nat} {n : Nd} (h : l[i]? = some n) : i < l.length := (List.getElem?_eq_some_iff.1 h).1
theorem uses_two (F : Form l) {i i' : Nat} {n n' : Nd} (h : l[i]? = some n) (h' : l[i']? = some n') {j : Nat} (hj : j ∈ kids n) (hj' : j ∈ kids n') (hlt : i < i') : False := by
 have hl := lt_of_some h'
 have hjl : j + 1 < l.length := by have := kids_lt (F.kind h) hj; omega
 have h1 := F.one j hjl
 unfold uses at h1
 rw [← List.take_append_drop i' l, List.flatMap_append, List.count_append] at h1
 have ha : 0 < ((l.take i').flatMap kids).count j := by
  refine List.count_pos_iff.2 (List.mem_flatMap.2 ⟨n, ?_, hj⟩)
  exact List.mem_of_getElem? (i := i) (by rw [List.getElem?_take_of_lt hlt]; exact h)
 have hb : 0 < ((l.drop i').flatMap kids).count j := by
  refine List.count_pos_iff.2 (List.mem_flatMap.2 ⟨n', ?_, hj'⟩)
  exact List.mem_of_getElem? (i := 0) (by rw [List.getElem?_drop]; exact h')
 omega
theorem par_unique (F : Form l) {i i' : Nat} {n n' : Nd} (h : l[i]? = some n) (h' : l[i']? = some n') {j : Nat} (hj : j ∈ kids n) (hj' : j ∈ kids n') : i = i' := by
 rcases Nat.lt_trichotomy i i' with hlt | heq | hgt
 ·exact (uses_two F h h' hj hj' hlt).elim
 ·exact heq
 ·exact (uses_two F h' h hj' hj hgt).elim
theorem kids_apart (F : Form l) {i : Nat} {n : Nd} (h : l[i]? = some n) {x y : Nat} (hk : kids n = [x, y]) : x ≠ y := by
 rintro rfl
 have hl := lt_of_some h
 have hx : x < i := kids_lt (F.kind h) (by rw [hk]; simp)
 have h1 := F.one x (by omega)
 unfold uses at h1
 obtain ⟨hi, rfl⟩ := List.getElem?_eq_some_iff.1 h
 rw [← List.take_append_drop i l, List.flatMap_append, List.count_append, List.drop_eq_getElem_cons hi, List.flatMap_cons, List.count_append, hk] at h1
 simp at h1
 omega
inductive In (l : List Nd) (i : Nat) : Nat → Prop where
 | refl : In l i i
 | step {k j : Nat} {n : Nd} : In l i k → l[k]? = some n → j ∈ kids n → In l i j
theorem In.le (F : Form l) {i j : Nat} (h : In l i j) : j ≤ i := by
 induction h with
 | refl => exact Nat.le_refl _
 | step _ hk hj ih => have := kids_lt (F.kind hk) hj; omega
theorem In.trans {i j k : Nat} (h : In l i j) (g : In l j k) : In l i k := by
 induction g with
 | refl => exact h
 | step _ hk hj ih => exact .step ih hk hj
theorem In.line (F : Form l) {a b j : Nat} (h : In l a j) (g : In l b j) : In l a b ∨ In l b a := by
 induction h with
 | refl => exact .inr g
 | @step k j n hk hn hj ih =>
   cases g with
   | refl => exact .inl (.step hk hn hj)
   | @step k' _ n' hk' hn' hj' =>
     obtain rfl := par_unique F hn hn' hj hj'
     exact ih hk'
theorem In.apart (F : Form l) {i : Nat} {n : Nd} (hn : l[i]? = some n) {x y p : Nat} (hx : x ∈ kids n) (hy : y ∈ kids n) (hxy : x ≠ y) (h : In l x p) (g : In l y p) : False := by
 have key : ∀ u v, u ∈ kids n → v ∈ kids n → u ≠ v → In l u v → False := by
  intro u v hu hv huv h
  cases h with
  | refl => exact huv rfl
  | @step k _ n' hk hn' hj' =>
    obtain rfl := par_unique F hn hn' hv hj'
    have h1 := hk.le F
    have h2 := kids_lt (F.kind hn) hu
    omega
 rcases h.line F g with h | h
 ·exact key x y hx hy hxy h
 ·exact key y x hy hx (Ne.symm hxy) h
theorem in_of_pos (F : Form l) {i p : Nat} (h : p ∈ posT (tr l i)) : In l i p := by
 induction i using Nat.strongRecOn with
 | _ i ih =>
 cases hn : l[i]? with
 | none => rw [tr, hn] at h; cases h
 | some n =>
   cases F.kind hn with
   | none ho => rw [tr_none hn ho] at h; cases h
   | empty ho => rw [tr_empty hn ho] at h; cases h
   | sym ho =>
     rw [tr_sym hn ho] at h
     simp only [posT, List.mem_cons, List.not_mem_nil, or_false] at h
     subst h; exact .refl
   | cat ho s x y a b hx hy =>
     rw [tr_cat hn ho a b hx hy] at h
     simp only [posT, List.mem_append] at h
     rcases h with h | h
     ·exact In.trans (.step .refl hn (by rw [kids_cat (.inl ho) a b]; simp)) (ih x hx h)
     ·exact In.trans (.step .refl hn (by rw [kids_cat (.inl ho) a b]; simp)) (ih y hy h)
   | alt ho s x y a b hx hy =>
     rw [tr_alt hn ho a b hx hy] at h
     simp only [posT, List.mem_append] at h
     rcases h with h | h
     ·exact In.trans (.step .refl hn (by rw [kids_cat (.inr ho) a b]; simp)) (ih x hx h)
     ·exact In.trans (.step .refl hn (by rw [kids_cat (.inr ho) a b]; simp)) (ih y hy h)
   | star ho s x a b hx =>
     rw [tr_star hn ho a hx] at h
     exact In.trans (.step .refl hn (by rw [kids_star ho a]; simp)) (ih x hx h)
def symAt (l : List Nd) (i : Nat) : ByteArray := (l[i]?.map Nd.sym).getD nil8
end
end Go.Rx
namespace Go.Rx
structure Fact where
 void : Bool
 empty : Bool
 first : Nat
 last : Nat
def bothF (a b : Fact) : Fact :=
 if a.void || b.void then ⟨true, false, 0, 0⟩
 else ⟨false, a.empty && b.empty, if a.empty then a.first ||| b.first else a.first, if b.empty then b.last ||| a.last else b.last⟩
def eitherF (a b : Fact) : Fact := ⟨a.void && b.void, a.empty || b.empty, a.first ||| b.first, a.last ||| b.last⟩
def factT {σ : Type} : RT σ → Fact
 | .none => ⟨true, false, 0, 0⟩
 | .empty => ⟨false, true, 0, 0⟩
 | .sym p _ => ⟨false, false, 1 <<< p, 1 <<< p⟩
 | .cat a b => bothF (factT a) (factT b)
 | .alt a b => eitherF (factT a) (factT b)
 | .star a => ⟨false, true, (factT a).first, (factT a).last⟩
section
variable {σ : Type}
theorem fact_void (t : RT σ) : (factT t).void = !aliveT t := by
 induction t with
 | none => rfl
 | empty => rfl
 | sym _ _ => rfl
 | cat a b iha ihb =>
   simp only [factT, bothF, aliveT, iha, ihb]
   cases aliveT a <;> cases aliveT b <;> rfl
 | alt a b iha ihb => simp only [factT, eitherF, aliveT, iha, ihb, Bool.not_or]
 | star _ _ => rfl
theorem null_false {t : RT σ} (h : aliveT t = false) : nullT t = false := by
 cases hn : nullT t with
 | false => rfl
 | true => rw [alive_of_null hn] at h; cases h
theorem starts_false {t : RT σ} (h : aliveT t = false) (p : Nat) : startsT t p = false := by
 cases hn : startsT t p with
 | false => rfl
 | true => rw [alive_of_starts hn] at h; cases h
theorem ends_false {t : RT σ} (h : aliveT t = false) (p : Nat) : endsT t p = false := by
 cases hn : endsT t p with
 | false => rfl
 | true => rw [alive_of_ends hn] at h; cases h
theorem pairs_false {t : RT σ} (h : aliveT t = false) (p q : Nat) : pairsT t p q = false := by
 cases hn : pairsT t p q with
 | false => rfl
 | true => rw [alive_of_pairs hn] at h; cases h
theorem fact_empty (t : RT σ) : (factT t).empty = nullT t := by
 induction t with
 | none => rfl
 | empty => rfl
 | sym _ _ => rfl
 | cat a b iha ihb =>
   simp only [factT, bothF, nullT, fact_void]
   cases ha : aliveT a with
   | false => rw [null_false ha]; rfl
   | true =>
     cases hb : aliveT b with
     | false => rw [null_false hb]; simp
     | true => simp [iha, ihb]
 | alt a b iha ihb => simp only [factT, eitherF, nullT, iha, ihb]
 | star _ _ => rfl
theorem bit_one (p q : Nat) : (1 <<< p).testBit q = (p == q) := by
 rw [Nat.one_shiftLeft, Nat.testBit_two_pow]
 simp only [BEq.beq]
theorem fact_first (t : RT σ) (q : Nat) : (factT t).first.testBit q = startsT t q := by
 induction t with
 | none => simp [factT, startsT]
 | empty => simp [factT, startsT]
 | sym p _ => simp only [factT, startsT, bit_one]
 | cat a b iha ihb =>
   simp only [factT, bothF, startsT, fact_void, fact_empty]
   cases ha : aliveT a with
   | false => simp [null_false ha, starts_false ha]
   | true =>
     cases hb : aliveT b with
     | false => simp [starts_false hb]
     | true =>
       cases nullT a <;> simp [iha, ihb]
 | alt a b iha ihb => simp only [factT, eitherF, startsT, Nat.testBit_or, iha, ihb]
 | star a ih => simp only [factT, startsT, ih]
theorem fact_last (t : RT σ) (q : Nat) : (factT t).last.testBit q = endsT t q := by
 induction t with
 | none => simp [factT, endsT]
 | empty => simp [factT, endsT]
 | sym p _ => simp only [factT, endsT, bit_one]
 | cat a b iha ihb =>
   simp only [factT, bothF, endsT, fact_void, fact_empty]
   cases ha : aliveT a with
   | false => simp [ends_false ha]
   | true =>
     cases hb : aliveT b with
     | false => simp [null_false hb, ends_false hb]
     | true =>
       cases nullT b <;> simp [iha, ihb]
 | alt a b iha ihb => simp only [factT, eitherF, endsT, Nat.testBit_or, iha, ihb]
 | star a ih => simp only [factT, endsT, ih]
theorem or_lt {a b n : Nat} (ha : a < 2 ^ n) (hb : b < 2 ^ n) : a ||| b < 2 ^ n := Nat.or_lt_two_pow ha hb
theorem fact_lt {n : Nat} (t : RT σ) (h : ∀ p, p ∈ posT t → p < n) : (factT t).first < 2 ^ n ∧ (factT t).last < 2 ^ n := by
 have hz : 0 < 2 ^ n := Nat.two_pow_pos n
 induction t with
 | none => exact ⟨hz, hz⟩
 | empty => exact ⟨hz, hz⟩
 | sym p _ =>
   have := h p (by simp [posT])
   simp only [factT, Nat.one_shiftLeft]
   exact ⟨Nat.pow_lt_pow_right (by omega) this, Nat.pow_lt_pow_right (by omega) this⟩
 | cat a b iha ihb =>
   obtain ⟨a1, a2⟩ := iha fun p hp => h p (by simp [posT, hp])
   obtain ⟨b1, b2⟩ := ihb fun p hp => h p (by simp [posT, hp])
   simp only [factT, bothF]
   split
   ·exact ⟨hz, hz⟩
   ·refine ⟨?_, ?_⟩
    ·show (if _ then _ else _) < _
     split
     ·exact or_lt a1 b1
     ·exact a1
    ·show (if _ then _ else _) < _
     split
     ·exact or_lt b2 a2
     ·exact b2
 | alt a b iha ihb =>
   obtain ⟨a1, a2⟩ := iha fun p hp => h p (by simp [posT, hp])
   obtain ⟨b1, b2⟩ := ihb fun p hp => h p (by simp [posT, hp])
   exact ⟨or_lt a1 b1, or_lt a2 b2⟩
 | star a ih => exact ih h
end
section
variable {l : List Nd}
theorem pos_lt (F : Form l) {i p : Nat} (hi : i < l.length) (h : p ∈ posT (tr l i)) : p < l.length := by
 have := (in_of_pos F h).le F
 omega
structure Climb (l : List Nd) (at_ part out : Nat) : Prop where
 inn : In l part at_
 lt : part < l.length
 out : ∀ q, out.testBit q = pairsT (tr l part) at_ q
structure Dead (l : List Nd) (at_ part : Nat) : Prop where
 inn : In l part at_
 pairs : ∀ q, pairsT (tr l part) at_ q = false
 ends : endsT (tr l part) at_ = false
theorem Climb.start {at_ : Nat} {n : Nd} (hn : l[at_]? = some n) (ho : n.op = 2) : Climb l at_ at_ 0 :=
 ⟨.refl, lt_of_some hn, fun q => by rw [tr_sym hn ho, Nat.zero_testBit]; rfl⟩
theorem not_pos (F : Form l) {up : Nat} {n : Nd} (hn : l[up]? = some n) {x y at_ : Nat} (hk : kids n = [x, y] ∨ kids n = [y, x]) (hx : In l x at_) : at_ ∉ posT (tr l y) := by
 intro hp
 have hne : x ≠ y := by
  rcases hk with hk | hk
  ·exact kids_apart F hn hk
  ·exact (kids_apart F hn hk).symm
 refine In.apart F hn (x := x) (y := y) ?_ ?_ hne hx (in_of_pos F hp)
 ·rcases hk with hk | hk <;> rw [hk] <;> simp
 ·rcases hk with hk | hk <;> rw [hk] <;> simp
theorem pairs_out {t : RT ByteArray} {p : Nat} (h : p ∉ posT t) (q : Nat) : pairsT t p q = false := by
 cases hp : pairsT t p q with
 | false => rfl
 | true => exact (h (pos_of_pairs hp).1).elim
theorem ends_out {t : RT ByteArray} {p : Nat} (h : p ∉ posT t) : endsT t p = false := by
 cases hp : endsT t p with
 | false => rfl
 | true => exact (h (pos_of_ends hp)).elim
theorem Climb.cat_left (F : Form l) {at_ part out up : Nat} (C : Climb l at_ part out) {n : Nd} (hn : l[up]? = some n) (ho : n.op = 3) {y : Nat} (ha : n.a = part) (hb : n.b = y) (hy : y < up) (hp : part < up)
 (hv : aliveT (tr l up) = true) : Climb l at_ up (if endsT (tr l part) at_ then out ||| (factT (tr l y)).first else out) := by
 have hk := kids_cat (.inl ho) ha hb
 have hnp := not_pos F hn (.inl hk) C.inn
 rw [tr_cat hn ho ha hb hp hy] at hv
 simp only [aliveT, Bool.and_eq_true] at hv
 refine ⟨In.trans (.step .refl hn (by rw [hk]; simp)) C.inn, lt_of_some hn, fun q => ?_⟩
 rw [tr_cat hn ho ha hb hp hy]
 simp only [pairsT, hv.1, hv.2, pairs_out hnp, Bool.and_true, Bool.true_and, Bool.or_false]
 cases endsT (tr l part) at_ with
 | true => simp [C.out, fact_first]
 | false => simp [C.out]
theorem Climb.cat_right (F : Form l) {at_ part out up : Nat} (C : Climb l at_ part out) {n : Nd} (hn : l[up]? = some n) (ho : n.op = 3) {x : Nat} (ha : n.a = x) (hb : n.b = part) (hx : x < up) (hp : part < up)
 (hv : aliveT (tr l up) = true) : Climb l at_ up out := by
 have hk := kids_cat (.inl ho) ha hb
 have hnp := not_pos F hn (.inr hk) C.inn
 rw [tr_cat hn ho ha hb hx hp] at hv
 simp only [aliveT, Bool.and_eq_true] at hv
 refine ⟨In.trans (.step .refl hn (by rw [hk]; simp)) C.inn, lt_of_some hn, fun q => ?_⟩
 rw [tr_cat hn ho ha hb hx hp]
 simp only [pairsT, hv.1, hv.2, pairs_out hnp, ends_out hnp, Bool.and_true, Bool.true_and, Bool.or_false, Bool.false_or, Bool.false_and]
 exact C.out q
theorem Climb.alt (F : Form l) {at_ part out up : Nat} (C : Climb l at_ part out) {n : Nd} (hn : l[up]? = some n) (ho : n.op = 4) {x y : Nat} (ha : n.a = x) (hb : n.b = y) (hx : x < up) (hy : y < up)
 (hp : part = x ∨ part = y) : Climb l at_ up out := by
 have hk := kids_cat (.inr ho) ha hb
 rcases hp with rfl | rfl
 ·have hnp := not_pos F hn (.inl hk) C.inn
  refine ⟨In.trans (.step .refl hn (by rw [hk]; simp)) C.inn, lt_of_some hn, fun q => ?_⟩
  rw [tr_alt hn ho ha hb hx hy]
  simp only [pairsT, pairs_out hnp, Bool.or_false]
  exact C.out q
 ·have hnp := not_pos F hn (.inr hk) C.inn
  refine ⟨In.trans (.step .refl hn (by rw [hk]; simp)) C.inn, lt_of_some hn, fun q => ?_⟩
  rw [tr_alt hn ho ha hb hx hy]
  simp only [pairsT, pairs_out hnp, Bool.false_or]
  exact C.out q
theorem Climb.star {at_ part out up : Nat} (C : Climb l at_ part out) {n : Nd} (hn : l[up]? = some n) (ho : n.op = 5) (ha : n.a = part) (hp : part < up) :
 Climb l at_ up (if endsT (tr l part) at_ then out ||| (factT (tr l part)).first else out) := by
 have hk := kids_star ho ha
 refine ⟨In.trans (.step .refl hn (by rw [hk]; simp)) C.inn, lt_of_some hn, fun q => ?_⟩
 rw [tr_star hn ho ha hp]
 simp only [pairsT]
 cases endsT (tr l part) at_ with
 | true => simp [C.out, fact_first]
 | false => simp [C.out]
theorem Dead.up (F : Form l) {at_ part up : Nat} (D : Dead l at_ part) {n : Nd} (hn : l[up]? = some n) (hp : part ∈ kids n) : Dead l at_ up := by
 have hi : In l up at_ := In.trans (.step .refl hn hp) D.inn
 cases F.kind hn with
 | none h => rw [kids_leaf (.inl h)] at hp; cases hp
 | empty h => rw [kids_leaf (.inr (.inl h))] at hp; cases hp
 | sym h => rw [kids_leaf (.inr (.inr h))] at hp; cases hp
 | cat ho s x y ha hb hx hy =>
   have hk := kids_cat (.inl ho) ha hb
   rw [hk] at hp
   simp only [List.mem_cons, List.not_mem_nil, or_false] at hp
   rcases hp with rfl | rfl
   ·have hnp := not_pos F hn (.inl hk) D.inn
    refine ⟨hi, fun q => ?_, ?_⟩
    ·rw [tr_cat hn ho ha hb hx hy]; simp [pairsT, D.pairs, D.ends, pairs_out hnp]
    ·rw [tr_cat hn ho ha hb hx hy]; simp [endsT, D.ends, ends_out hnp]
   ·have hnp := not_pos F hn (.inr hk) D.inn
    refine ⟨hi, fun q => ?_, ?_⟩
    ·rw [tr_cat hn ho ha hb hx hy]; simp [pairsT, D.pairs, pairs_out hnp, ends_out hnp]
    ·rw [tr_cat hn ho ha hb hx hy]; simp [endsT, D.ends, ends_out hnp]
 | alt ho s x y ha hb hx hy =>
   have hk := kids_cat (.inr ho) ha hb
   rw [hk] at hp
   simp only [List.mem_cons, List.not_mem_nil, or_false] at hp
   rcases hp with rfl | rfl
   ·have hnp := not_pos F hn (.inl hk) D.inn
    refine ⟨hi, fun q => ?_, ?_⟩
    ·rw [tr_alt hn ho ha hb hx hy]; simp [pairsT, D.pairs, pairs_out hnp]
    ·rw [tr_alt hn ho ha hb hx hy]; simp [endsT, D.ends, ends_out hnp]
   ·have hnp := not_pos F hn (.inr hk) D.inn
    refine ⟨hi, fun q => ?_, ?_⟩
    ·rw [tr_alt hn ho ha hb hx hy]; simp [pairsT, D.pairs, pairs_out hnp]
    ·rw [tr_alt hn ho ha hb hx hy]; simp [endsT, D.ends, ends_out hnp]
 | star ho s x ha hb hx =>
   have hk := kids_star ho ha
   rw [hk] at hp
   simp only [List.mem_cons, List.not_mem_nil, or_false] at hp
   subst hp
   refine ⟨hi, fun q => ?_, ?_⟩
   ·rw [tr_star hn ho ha hx]; simp [pairsT, D.pairs, D.ends]
   ·rw [tr_star hn ho ha hx]; simp [endsT, D.ends]
theorem Dead.top (F : Form l) {at_ part : Nat} (D : Dead l at_ part) {root : Nat} (h : In l root part) : Dead l at_ root := by
 induction h with
 | refl => exact D
 | step _ hn hj ih => exact ih (D.up F hn hj)
theorem dead_of_void {at_ up : Nat} (hi : In l up at_) (hv : aliveT (tr l up) = false) : Dead l at_ up :=
 ⟨hi, fun q => pairs_false hv _ q, ends_false hv _⟩
theorem parent (F : Form l) {j : Nat} (hj : j + 1 < l.length) : ∃ i n, l[i]? = some n ∧ j ∈ kids n ∧ j < i := by
 have h := F.one j hj
 have : 0 < (l.flatMap kids).count j := by unfold uses at h; omega
 obtain ⟨n, hn, hk⟩ := List.mem_flatMap.1 (List.count_pos_iff.1 this)
 obtain ⟨i, hi⟩ := List.getElem?_of_mem hn
 exact ⟨i, n, hi, hk, kids_lt (F.kind hi) hk⟩
theorem in_root (F : Form l) {j : Nat} (hj : j < l.length) : In l (l.length - 1) j := by
 induction hm : l.length - j using Nat.strongRecOn generalizing j with
 | _ m ih =>
 subst hm
 by_cases h : j + 1 < l.length
 ·obtain ⟨i, n, hi, hk, hlt⟩ := parent F h
  exact .step (ih (l.length - i) (by omega) (lt_of_some hi) rfl) hi hk
 ·have : l.length - 1 = j := by omega
  rw [this]; exact .refl
theorem root_top (F : Form l) {i : Nat} {n : Nd} (hn : l[i]? = some n) : l.length - 1 ∉ kids n := by
 intro h
 have h1 := kids_lt (F.kind hn) h
 have h2 := lt_of_some hn
 omega
end
end Go.Rx
