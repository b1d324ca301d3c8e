/-
  Walk of formed: whether nodes may be a regular expression, but for the words.
  Walk of Check: what is wrong with a regular expression.
  Walks of the law's Plain, Small, Texts and Nodes, and of the reference's Null.
  Walks of the law's Texts and Nodes, and of the reference's Null.
-/
import Derived.Deep.CutBlock
import Derived.Test.YtngpjagpeblbjaaGreatDoorP05
import Derived.Outline
namespace Go.Proofs.YtngpjagpeblbjaaGreatDoor
open Go.RowKit Go.Spy Go.Rx
def usesC (ks : List Nat) (N : Nat) : Array Value := ((List.range N).map fun j => Value.int .i64 (ks.count j : Nat)).toArray
theorem usesC_size (ks : List Nat) (N : Nat) : (usesC ks N).size = N := by simp [usesC]
theorem usesC_get {ks : List Nat} {N j : Nat} (h : j < N) : (usesC ks N)[j]? = some (.int .i64 (ks.count j : Nat)) := by simp [usesC, h]
theorem usesC_next (ks : List Nat) (N a : Nat) (h : a < N) : (usesC ks N).setIfInBounds a (.int .i64 (ks.count a + 1 : Nat)) = usesC (ks ++ [a]) N := by
 apply Array.ext_getElem?
 intro i
 by_cases hi : i < N
 ·by_cases e : a = i
  ·subst e
   rw [Array.getElem?_setIfInBounds_self, if_pos (by rw [usesC_size]; exact h), usesC_get hi, List.count_append]; simp
  ·rw [Array.getElem?_setIfInBounds_ne e, usesC_get hi, usesC_get hi, List.count_append, List.count_singleton]
   simp [e]
 ·rw [Array.getElem?_eq_none (by simp [usesC_size]; omega), Array.getElem?_eq_none (by rw [usesC_size]; omega)]
def kidsTo (l : List Nd) (k : Nat) : List Nat := (l.take k).flatMap kids
theorem kidsTo_next {l : List Nd} {k : Nat} {n : Nd} (h : l[k]? = some n) : kidsTo l (k + 1) = kidsTo l k ++ kids n := by
 obtain ⟨hk, rfl⟩ := List.getElem?_eq_some_iff.1 h
 rw [kidsTo, List.take_succ_eq_append_getElem hk, List.flatMap_append]; simp [kidsTo]
theorem kids_le (n : Nd) : (kids n).length ≤ 2 := by
 unfold kids; split
 ·simp
 ·split <;> simp
theorem kidsTo_len (l : List Nd) (k : Nat) : (kidsTo l k).length ≤ 2 * k := by
 have : ∀ m : List Nd, (m.flatMap kids).length ≤ 2 * m.length := by
  intro m
  induction m with
  | nil => simp
  | cons x m ih => have := kids_le x; simp only [List.flatMap_cons, List.length_append, List.length_cons]; omega
 have h1 := this (l.take k)
 have h2 := List.length_take_le k l
 unfold kidsTo; omega
theorem kidsTo_count (l : List Nd) (k j : Nat) : (kidsTo l k).count j ≤ 2 * k := Nat.le_trans List.count_le_length (kidsTo_len l k)
theorem sym_iff {s : ByteArray} : s.toList = [] ↔ s = nil8 := by
 refine ⟨fun h => ?_, fun h => by rw [h]; exact ByteArray.toList_mk []⟩
 obtain ⟨⟨x⟩⟩ := s
 rw [ByteArray.toList_mk] at h
 subst h; rfl
theorem ok01 {k : Nat} {n : Nd} (h : n.op = 0 ∨ n.op = 1) : okNode k n = (decide (n.sym = nil8) && decide (n.a = 0) && decide (n.b = 0)) := by unfold okNode; rw [if_pos h]
theorem ok2 {k : Nat} {n : Nd} (h : n.op = 2) : okNode k n = (decide (n.a = 0) && decide (n.b = 0)) := by unfold okNode; rw [if_neg (by omega), if_pos h]
theorem ok34 {k : Nat} {n : Nd} (h : n.op = 3 ∨ n.op = 4) : okNode k n = (decide (n.sym = nil8) && inR k n.a && inR k n.b) := by unfold okNode; rw [if_neg (by omega), if_neg (by omega), if_pos h]
theorem ok5 {k : Nat} {n : Nd} (h : n.op = 5) : okNode k n = (decide (n.sym = nil8) && inR k n.a && decide (n.b = 0)) := by unfold okNode; rw [if_neg (by omega), if_neg (by omega), if_neg (by omega), if_pos h]
theorem inR_nat {k : Nat} {a : Int} (h : inR k a = true) : ∃ x : Nat, a = x ∧ x < k := ⟨a.toNat, by rw [inR_iff] at h; omega, by rw [inR_iff] at h; omega⟩
def FormRel (l : List Nd) (w : World) (bx bU : Nat) (k : Nat) (v : Value) (wr : World) : Prop :=
 k ≤ l.length ∧ v = .int .i64 k ∧ (∀ i n, i < k → l[i]? = some n → okNode i n = true) ∧ Blk wr bx 46 #[.slice (some ⟨bU, 0, none⟩) l.length l.length] ∧ Blk wr bU 3 (usesC (kidsTo l k) l.length) ∧ Ext w wr
def FormPost (l : List Nd) (w : World) (e : Ending) (w' : World) : Prop := ∃ b, e = .returned (.bool b) ∧ (b = true ↔ Rx.Form l) ∧ Ext w w'
set_option maxRecDepth 100000 in
set_option maxHeartbeats 1000000 in
theorem formed_walk {l : List Nd} {w : World} {b off : Nat} (_hV : NodesV w (some ⟨b, off, none⟩) l) (cap : Nat) (hl : l.length ≤ 1024) (h0 : 0 < l.length) (hb : b < w.heap.size)
 (hc : ∀ (i : Nat) (n : Nd), l[i]? = some n → w.cell? ⟨b, off + i * 4, none⟩ = some (.int .i64 n.op) ∧ w.cell? ⟨b, off + i * 4 + 1, none⟩ = some (.string n.sym) ∧ w.cell? ⟨b, off + i * 4 + 2, none⟩ = some (.int .i64 n.a) ∧ w.cell? ⟨b, off + i * 4 + 3, none⟩ = some (.int .i64 n.b)) :
 Calls Tryz.prog 108 #[.slice (some ⟨b, off, none⟩) l.length cap] w (FormPost l w) := by
 have HC := hid hc
 clear hc _hV
 go_enter Tryz.func108, Tryz.ntmps108
 obtain ⟨i0, hti, hz0, hz1, hz2⟩ := info_parts Tryz.infoInt
 go_wp2_with (at_make; refine wpList_make_row _ rfl _ _ 46 rfl 3 i0 (.int .i64 0) Tryz.underlying46 hti hz0 hz1 rfl .i64 .i64 l.length rfl rfl (by rw [hz2]; omega) (by omega) ?_)
 have hmc : madeCells #[Value.int .i64 0] l.length = usesC [] l.length := by
  apply Array.ext_getElem?
  intro i
  by_cases hi : i < l.length
  ·rw [usesC_get hi]; simp [madeCells, hi, Nat.mod_one]
  ·simp [madeCells, usesC, hi]
 have HMC := hid hmc
 clear hmc
 go_loopg [14] l.length (fun g v wr => ∃ k, g = l.length - k ∧ FormRel l w (w.heap.size + 1) w.heap.size k v wr)
 case atStart =>
  refine ⟨0, rfl, Nat.zero_le _, rfl, fun i n h => by omega, Blk.new' _ _ _ (by simp), ?_, ((Below.refl _ w).alloc (Nat.le_refl _) _).alloc (by simp) _⟩
  rw [show kidsTo l 0 = [] from rfl, ← HMC.out]
  exact (Blk.new w _ _).alloc _
 case round =>
  obtain ⟨k, rfl, hk, rfl, hok, hBx, hBU, hE⟩ := hrel
  have s1 := hBx.lt
  have s2 := hBU.lt
  have x0 := hBx.cell (i := 0) rfl
  have HX := hid hBx
  have HU := hid hBU
  have HE := hid hE
  have HOK := hid hok
  by_cases hlt : k < l.length
  ·obtain ⟨n, hn⟩ : ∃ n, l[k]? = some n := ⟨_, List.getElem?_eq_getElem hlt⟩
   obtain ⟨q0, q1, q2, q3⟩ := HC.out k n hn
   have e0 : wr.cell? ⟨b, off + k * 4, none⟩ = some (.int .i64 n.op) := (hE.cell (p := ⟨b, off + k * 4, none⟩) hb).trans q0
   have e1 : wr.cell? ⟨b, off + k * 4 + 1, none⟩ = some (.string n.sym) := (hE.cell (p := ⟨b, off + k * 4 + 1, none⟩) hb).trans q1
   have e2 : wr.cell? ⟨b, off + k * 4 + 2, none⟩ = some (.int .i64 n.a) := (hE.cell (p := ⟨b, off + k * 4 + 2, none⟩) hb).trans q2
   have e3 : wr.cell? ⟨b, off + k * 4 + 3, none⟩ = some (.int .i64 n.b) := (hE.cell (p := ⟨b, off + k * 4 + 3, none⟩) hb).trans q3
   have HN := hid hn
   clear hn q0 q1 q2 q3 hE hBx hBU hok
   go_upto_block 2 with fail
   go_cut [7] (fun v wx => v = .bool (okNode k n) ∧ Hid (Chg (· = w.heap.size) wr wx ∧ (okNode k n = true → Blk wx w.heap.size 3 (usesC (kidsTo l (k + 1)) l.length))))
   case first =>
    by_cases ho : n.op = 0
    ·have t0 : (n.op == 0) = true := by simp [ho]
     have t1 : (n.op == 1) = false := by simp [ho]
     have t2 : (n.op == 2) = false := by simp [ho]
     have t3 : (n.op == 3) = false := by simp [ho]
     have t4 : (n.op == 4) = false := by simp [ho]
     have t5 : (n.op == 5) = false := by simp [ho]
     have H0 := hid ho
     have HO := hid (ok01 (.inl H0.out) (k := k) (n := n))
     clear ho
     go_wp2_with fail
     all_goals (go_meet; refine ⟨?_, hid ⟨((Chg.refl _ wr).alloc _).alloc _, fun _ => ?_⟩⟩)
     all_goals first
      | (rw [kidsTo_next HN.out, kids_leaf (.inl H0.out), List.append_nil]; exact (HU.out.alloc _).alloc _)
      | (rw [HO.out]; simp [← sym_iff, *]; done)
      | (rw [HO.out]; simp [*]; rw [Bool.eq_iff_iff]; simp; done)
    ·have o0 := ho
     clear ho
     by_cases ho : n.op = 1
     ·have t0 : (n.op == 0) = false := by simp [ho]
      have t1 : (n.op == 1) = true := by simp [ho]
      have t2 : (n.op == 2) = false := by simp [ho]
      have t3 : (n.op == 3) = false := by simp [ho]
      have t4 : (n.op == 4) = false := by simp [ho]
      have t5 : (n.op == 5) = false := by simp [ho]
      have H0 := hid ho
      have HO := hid (ok01 (.inr H0.out) (k := k) (n := n))
      clear ho
      go_wp2_with fail
      all_goals (go_meet; refine ⟨?_, hid ⟨((Chg.refl _ wr).alloc _).alloc _, fun _ => ?_⟩⟩)
      all_goals first
       | (rw [kidsTo_next HN.out, kids_leaf (.inr (.inl H0.out)), List.append_nil]; exact (HU.out.alloc _).alloc _)
       | (rw [HO.out]; simp [← sym_iff, *]; done)
       | (rw [HO.out]; simp [*]; rw [Bool.eq_iff_iff]; simp; done)
     ·have o1 := ho
      clear ho
      by_cases ho : n.op = 2
      ·have t0 : (n.op == 0) = false := by simp [ho]
       have t1 : (n.op == 1) = false := by simp [ho]
       have t2 : (n.op == 2) = true := by simp [ho]
       have t3 : (n.op == 3) = false := by simp [ho]
       have t4 : (n.op == 4) = false := by simp [ho]
       have t5 : (n.op == 5) = false := by simp [ho]
       have H0 := hid ho
       have HO := hid (ok2 H0.out (k := k) (n := n))
       clear ho
       go_wp2_with fail
       all_goals (go_meet; refine ⟨?_, hid ⟨((Chg.refl _ wr).alloc _).alloc _, fun _ => ?_⟩⟩)
       all_goals first
        | (rw [kidsTo_next HN.out, kids_leaf (.inr (.inr H0.out)), List.append_nil]; exact (HU.out.alloc _).alloc _)
        | (rw [HO.out]; simp [*]; done)
        | (rw [HO.out]; simp [*]; rw [Bool.eq_iff_iff]; simp; done)
      ·have o2 := ho
       clear ho
       by_cases ho : n.op = 3
       ·have t0 : (n.op == 0) = false := by simp [ho]
        have t1 : (n.op == 1) = false := by simp [ho]
        have t2 : (n.op == 2) = false := by simp [ho]
        have t3 : (n.op == 3) = true := by simp [ho]
        have t4 : (n.op == 4) = false := by simp [ho]
        have t5 : (n.op == 5) = false := by simp [ho]
        have H0 := hid ho
        have HO := hid (ok34 (.inl H0.out) (k := k) (n := n))
        clear ho
        by_cases hs : n.sym.toList = []
        ·cases hA : inR k n.a with
         | false =>
           have HFF := hid hA
           clear hA
           go_wp2_with (first | (go_at_call 136; refine (part_no n.a wr.heap.size k _ _ (((Blk.new wr 3 #[.int .i64 k]).alloc _).cell (i := 0) rfl) HFF.out).mono ?_; rintro e w' ⟨rfl, rfl⟩))
           go_meet
           exact ⟨by rw [HO.out]; simp [HFF.out], hid ⟨((Chg.refl _ wr).alloc _).alloc _, fun h => by rw [HO.out] at h; simp [HFF.out] at h⟩⟩
         | true =>
           obtain ⟨x, hx, hxk⟩ := inR_nat hA
           have HA := hid hA
           have HX1 := hid hx
           clear hA hx
           go_wp2_with fail
           refine (part_yes' n.a x HX1.out wr.heap.size k (w.heap.size + 1) w.heap.size l.length _ 3 _ _ (((Blk.new wr 3 #[.int .i64 k]).alloc _).cell (i := 0) rfl) (((HX.out.alloc _).alloc _).cell (i := 0) rfl) hxk hk hl ((HU.out.alloc _).alloc _) (usesC_get (by omega)) (by have := kidsTo_count l k x; omega)).mono ?_
           rintro e w2 ⟨rfl, k1, kc⟩
           rw [usesC_next _ _ _ (by omega)] at k1
           have KC : Hid (Chg (· = w.heap.size) wr w2) := hid ((((Chg.refl _ wr).alloc _).alloc _).trans kc)
           have m3 : w2.cell? ⟨wr.heap.size + 1, 3, none⟩ = some (.int .i64 n.b) := (((Blk.new' (wr.alloc _) _ _ (by simp))).chg kc (by show ¬ _ = _; omega)).cell (i := 3) rfl
           have m0 : w2.cell? ⟨wr.heap.size, 0, none⟩ = some (.int .i64 k) := (((Blk.new wr 3 #[.int .i64 k]).alloc _).chg kc (by show ¬ _ = _; omega)).cell (i := 0) rfl
           have mx : w2.cell? ⟨w.heap.size + 1, 0, none⟩ = some (.slice (some ⟨w.heap.size, 0, none⟩) l.length l.length) := (((HX.out.alloc _).alloc _).chg kc (by show ¬ _ = _; omega)).cell (i := 0) rfl
           have K1 := hid k1
           clear k1 kc
           cases hB : inR k n.b with
           | false =>
             have HFF := hid hB
             clear hB
             go_wp2_with (first | (go_at_call 136; refine (part_no n.b wr.heap.size k _ _ m0 HFF.out).mono ?_; rintro e w' ⟨rfl, rfl⟩))
             go_meet
             exact ⟨by rw [HO.out]; simp [HFF.out], hid ⟨KC.out, fun h => by rw [HO.out] at h; simp [HFF.out] at h⟩⟩
           | true =>
             obtain ⟨y, hy, hyk⟩ := inR_nat hB
             have HB := hid hB
             have HY1 := hid hy
             clear hB hy
             go_wp2_with fail
             refine (part_yes' n.b y HY1.out wr.heap.size k (w.heap.size + 1) w.heap.size l.length _ 3 _ _ m0 mx hyk hk hl K1.out (usesC_get (by omega)) (by have := kidsTo_count l k y; have := @List.count_le_length _ _ y [x]; simp only [List.count_append, List.length_cons, List.length_nil] at *; omega)).mono ?_
             rintro e w3 ⟨rfl, k3, kc3⟩
             rw [usesC_next _ _ _ (by omega)] at k3
             have K3 := hid k3
             have KC3 := hid (KC.out.trans kc3)
             clear k3 kc3
             go_wp2_with fail
             go_meet
             refine ⟨by rw [HO.out]; simp [HA.out, HB.out, ← sym_iff, hs], hid ⟨KC3.out, fun _ => ?_⟩⟩
             rw [kidsTo_next HN.out, kids_cat (.inl H0.out) HX1.out HY1.out, show kidsTo l k ++ [x, y] = kidsTo l k ++ [x] ++ [y] by simp]
             exact K3.out
        ·go_wp2_with fail
         go_meet
         exact ⟨by rw [HO.out]; simp [← sym_iff, hs], hid ⟨((Chg.refl _ wr).alloc _).alloc _, fun h => by rw [HO.out] at h; simp [← sym_iff, hs] at h⟩⟩
       ·have o3 := ho
        clear ho
        by_cases ho : n.op = 4
        ·have t0 : (n.op == 0) = false := by simp [ho]
         have t1 : (n.op == 1) = false := by simp [ho]
         have t2 : (n.op == 2) = false := by simp [ho]
         have t3 : (n.op == 3) = false := by simp [ho]
         have t4 : (n.op == 4) = true := by simp [ho]
         have t5 : (n.op == 5) = false := by simp [ho]
         have H0 := hid ho
         have HO := hid (ok34 (.inr H0.out) (k := k) (n := n))
         clear ho
         by_cases hs : n.sym.toList = []
         ·cases hA : inR k n.a with
          | false =>
            have HFF := hid hA
            clear hA
            go_wp2_with (first | (go_at_call 136; refine (part_no n.a wr.heap.size k _ _ (((Blk.new wr 3 #[.int .i64 k]).alloc _).cell (i := 0) rfl) HFF.out).mono ?_; rintro e w' ⟨rfl, rfl⟩))
            go_meet
            exact ⟨by rw [HO.out]; simp [HFF.out], hid ⟨((Chg.refl _ wr).alloc _).alloc _, fun h => by rw [HO.out] at h; simp [HFF.out] at h⟩⟩
          | true =>
            obtain ⟨x, hx, hxk⟩ := inR_nat hA
            have HA := hid hA
            have HX1 := hid hx
            clear hA hx
            go_wp2_with fail
            refine (part_yes' n.a x HX1.out wr.heap.size k (w.heap.size + 1) w.heap.size l.length _ 3 _ _ (((Blk.new wr 3 #[.int .i64 k]).alloc _).cell (i := 0) rfl) (((HX.out.alloc _).alloc _).cell (i := 0) rfl) hxk hk hl ((HU.out.alloc _).alloc _) (usesC_get (by omega)) (by have := kidsTo_count l k x; omega)).mono ?_
            rintro e w2 ⟨rfl, k1, kc⟩
            rw [usesC_next _ _ _ (by omega)] at k1
            have KC : Hid (Chg (· = w.heap.size) wr w2) := hid ((((Chg.refl _ wr).alloc _).alloc _).trans kc)
            have m3 : w2.cell? ⟨wr.heap.size + 1, 3, none⟩ = some (.int .i64 n.b) := (((Blk.new' (wr.alloc _) _ _ (by simp))).chg kc (by show ¬ _ = _; omega)).cell (i := 3) rfl
            have m0 : w2.cell? ⟨wr.heap.size, 0, none⟩ = some (.int .i64 k) := (((Blk.new wr 3 #[.int .i64 k]).alloc _).chg kc (by show ¬ _ = _; omega)).cell (i := 0) rfl
            have mx : w2.cell? ⟨w.heap.size + 1, 0, none⟩ = some (.slice (some ⟨w.heap.size, 0, none⟩) l.length l.length) := (((HX.out.alloc _).alloc _).chg kc (by show ¬ _ = _; omega)).cell (i := 0) rfl
            have K1 := hid k1
            clear k1 kc
            cases hB : inR k n.b with
            | false =>
              have HFF := hid hB
              clear hB
              go_wp2_with (first | (go_at_call 136; refine (part_no n.b wr.heap.size k _ _ m0 HFF.out).mono ?_; rintro e w' ⟨rfl, rfl⟩))
              go_meet
              exact ⟨by rw [HO.out]; simp [HFF.out], hid ⟨KC.out, fun h => by rw [HO.out] at h; simp [HFF.out] at h⟩⟩
            | true =>
              obtain ⟨y, hy, hyk⟩ := inR_nat hB
              have HB := hid hB
              have HY1 := hid hy
              clear hB hy
              go_wp2_with fail
              refine (part_yes' n.b y HY1.out wr.heap.size k (w.heap.size + 1) w.heap.size l.length _ 3 _ _ m0 mx hyk hk hl K1.out (usesC_get (by omega)) (by have := kidsTo_count l k y; have := @List.count_le_length _ _ y [x]; simp only [List.count_append, List.length_cons, List.length_nil] at *; omega)).mono ?_
              rintro e w3 ⟨rfl, k3, kc3⟩
              rw [usesC_next _ _ _ (by omega)] at k3
              have K3 := hid k3
              have KC3 := hid (KC.out.trans kc3)
              clear k3 kc3
              go_wp2_with fail
              go_meet
              refine ⟨by rw [HO.out]; simp [HA.out, HB.out, ← sym_iff, hs], hid ⟨KC3.out, fun _ => ?_⟩⟩
              rw [kidsTo_next HN.out, kids_cat (.inr H0.out) HX1.out HY1.out, show kidsTo l k ++ [x, y] = kidsTo l k ++ [x] ++ [y] by simp]
              exact K3.out
         ·go_wp2_with fail
          go_meet
          exact ⟨by rw [HO.out]; simp [← sym_iff, hs], hid ⟨((Chg.refl _ wr).alloc _).alloc _, fun h => by rw [HO.out] at h; simp [← sym_iff, hs] at h⟩⟩
        ·have o4 := ho
         clear ho
         by_cases ho : n.op = 5
         ·have t0 : (n.op == 0) = false := by simp [ho]
          have t1 : (n.op == 1) = false := by simp [ho]
          have t2 : (n.op == 2) = false := by simp [ho]
          have t3 : (n.op == 3) = false := by simp [ho]
          have t4 : (n.op == 4) = false := by simp [ho]
          have t5 : (n.op == 5) = true := by simp [ho]
          have H0 := hid ho
          have HO := hid (ok5 H0.out (k := k) (n := n))
          clear ho
          by_cases hs : n.sym.toList = []
          ·cases hA : inR k n.a with
           | false =>
             have HFF := hid hA
             clear hA
             go_wp2_with (first | (go_at_call 136; refine (part_no n.a wr.heap.size k _ _ (((Blk.new wr 3 #[.int .i64 k]).alloc _).cell (i := 0) rfl) HFF.out).mono ?_; rintro e w' ⟨rfl, rfl⟩))
             go_meet
             exact ⟨by rw [HO.out]; simp [HFF.out], hid ⟨((Chg.refl _ wr).alloc _).alloc _, fun h => by rw [HO.out] at h; simp [HFF.out] at h⟩⟩
           | true =>
             obtain ⟨x, hx, hxk⟩ := inR_nat hA
             have HA := hid hA
             have HX1 := hid hx
             clear hA hx
             go_wp2_with fail
             refine (part_yes' n.a x HX1.out wr.heap.size k (w.heap.size + 1) w.heap.size l.length _ 3 _ _ (((Blk.new wr 3 #[.int .i64 k]).alloc _).cell (i := 0) rfl) (((HX.out.alloc _).alloc _).cell (i := 0) rfl) hxk hk hl ((HU.out.alloc _).alloc _) (usesC_get (by omega)) (by have := kidsTo_count l k x; omega)).mono ?_
             rintro e w2 ⟨rfl, k1, kc⟩
             rw [usesC_next _ _ _ (by omega)] at k1
             have KC : Hid (Chg (· = w.heap.size) wr w2) := hid ((((Chg.refl _ wr).alloc _).alloc _).trans kc)
             have m3 : w2.cell? ⟨wr.heap.size + 1, 3, none⟩ = some (.int .i64 n.b) := (((Blk.new' (wr.alloc _) _ _ (by simp))).chg kc (by show ¬ _ = _; omega)).cell (i := 3) rfl
             have K1 := hid k1
             clear k1 kc
             by_cases hb0 : n.b = 0
             ·have tb : (n.b == 0) = true := by simp [hb0]
              have HB := hid hb0
              clear hb0
              go_wp2_with fail
              go_meet
              refine ⟨by rw [HO.out]; simp [HA.out, HB.out, ← sym_iff, hs], hid ⟨KC.out, fun _ => ?_⟩⟩
              rw [kidsTo_next HN.out, kids_star H0.out HX1.out]
              exact K1.out
             ·have tb : (n.b == 0) = false := by simp [hb0]
              have HB := hid hb0
              clear hb0
              go_wp2_with fail
              go_meet
              exact ⟨by rw [HO.out]; simp [HB.out], hid ⟨KC.out, fun h => by rw [HO.out] at h; simp [HB.out] at h⟩⟩
          ·go_wp2_with fail
           go_meet
           exact ⟨by rw [HO.out]; simp [← sym_iff, hs], hid ⟨((Chg.refl _ wr).alloc _).alloc _, fun h => by rw [HO.out] at h; simp [← sym_iff, hs] at h⟩⟩
         ·have o5 := ho
          clear ho
          have t0 : (n.op == 0) = false := by simp [o0]
          have t1 : (n.op == 1) = false := by simp [o1]
          have t2 : (n.op == 2) = false := by simp [o2]
          have t3 : (n.op == 3) = false := by simp [o3]
          have t4 : (n.op == 4) = false := by simp [o4]
          have t5 : (n.op == 5) = false := by simp [o5]
          have HO : Hid (okNode k n = false) := hid (by simp [okNode, o0, o1, o2, o3, o4, o5])
          clear o0 o1 o2 o3 o4 o5
          go_wp2_with fail
          go_meet
          exact ⟨by rw [HO.out], hid ⟨((Chg.refl _ wr).alloc _).alloc _, fun h => by rw [HO.out] at h; cases h⟩⟩
   case rest =>
    obtain ⟨rfl, HQ⟩ := hcut
    cases hk2 : okNode k n with
    | false =>
      have HK2 := hid hk2
      clear hk2
      go_wp2_with fail
      go_ret
      exact ⟨_, rfl, ⟨fun h => (by cases h), fun F => by have := F.ok k n HN.out; rw [HK2.out] at this; cases this⟩, ((Chg.of_ext (S := (· = w.heap.size)) HE.out).trans HQ.out.1).below (Nat.le_refl _) (fun j hj => by omega)⟩
    | true =>
      have HK2 := hid hk2
      clear hk2
      go_wp2_with fail
      go_roundg (l.length - (k + 1))
      case measure => omega
      case rel =>
       refine ⟨k + 1, rfl, by omega, by go_num, fun j m hj hm => ?_, HX.out.chg HQ.out.1 (by show ¬ _ = _; omega), HQ.out.2 HK2.out, ((Chg.of_ext (S := (· = w.heap.size)) HE.out).trans HQ.out.1).below (Nat.le_refl _) (fun j hj => by omega)⟩
       by_cases e : j = k
       ·subst e; rw [HN.out] at hm; cases hm; exact HK2.out
       ·exact HOK.out j m (by omega) hm
  ·obtain rfl : k = l.length := by omega
   clear hE hBx hBU hok hlt
   go_wp2_with fail
   obtain ⟨wo, rfl⟩ : ∃ wo : World, wo = wr := ⟨_, rfl⟩
   go_loopg [80] (l.length - 1) (fun g v wi => ∃ j, g = l.length - 1 - j ∧ j ≤ l.length - 1 ∧ v = .int .i64 j ∧ wi = wo ∧ Hid (∀ i, i < j → (kidsTo l l.length).count i = 1))
   case atStart => exact ⟨0, rfl, Nat.zero_le _, rfl, rfl, hid (fun i h => by omega)⟩
   case round =>
    obtain ⟨j, rfl, hj, rfl, rfl, HJ⟩ := hrel
    by_cases hjl : j < l.length - 1
    ·have c1 : wr.cell? ⟨w.heap.size, j, none⟩ = some (.int .i64 ((kidsTo l l.length).count j : Nat)) := HU.out.cell (usesC_get (by omega))
     have hjl2 : j < l.length := by omega
     have hcj := kidsTo_count l l.length j
     obtain ⟨c, HCc⟩ : ∃ c, Hid (c = (kidsTo l l.length).count j) := ⟨_, rfl⟩
     rw [← HCc.out] at c1 hcj
     by_cases h1 : c = 1
     ·have tc : ((c : Int) != 1) = false := by simp [h1]
      have H1 := hid h1
      clear h1
      go_wp2_with fail
      go_roundg (l.length - 1 - (j + 1))
      case measure => omega
      case rel =>
       refine ⟨j + 1, rfl, by omega, by go_num, rfl, hid fun i hi => ?_⟩
       by_cases e : i = j
       ·subst e; rw [← HCc.out]; exact H1.out
       ·exact HJ.out i (by omega)
     ·have tc : ((c : Int) != 1) = true := by simp; omega
      have H1 := hid h1
      clear h1
      go_wp2_with fail
      go_ret
      refine ⟨_, rfl, ⟨fun h => (by cases h), fun F => (H1.out ?_).elim⟩, HE.out⟩
      have := F.one j (by omega)
      rw [HCc.out, ← this, kidsTo, List.take_length]; rfl
    ·obtain rfl : j = l.length - 1 := by omega
     go_wp2_with fail
     go_ret
     refine ⟨_, rfl, ⟨fun _ => ⟨fun e => by simp [e] at h0, fun i n hn => HOK.out i n (lt_of_some hn) hn, fun i hi => ?_⟩, fun _ => rfl⟩, HE.out⟩
     have := HJ.out i (by omega)
     rwa [kidsTo, List.take_length] at this
set_option maxRecDepth 100000 in
set_option maxHeartbeats 400000 in
theorem formed_nil (ao : Option Addr) (cap : Nat) (w : World) : Calls Tryz.prog 108 #[.slice ao 0 cap] w fun e w' => e = .returned (.bool false) ∧ Ext w w' := by
 go_enter Tryz.func108, Tryz.ntmps108
 obtain ⟨i0, hti, hz0, hz1, hz2⟩ := info_parts Tryz.infoInt
 go_wp2_with (at_make; refine wpList_make_row _ rfl _ _ 46 rfl 3 i0 (.int .i64 0) Tryz.underlying46 hti hz0 hz1 rfl .i64 .i64 0 rfl rfl (by rw [hz2]; omega) (by omega) ?_)
 go_loopg [14] 0 (fun _ v wr => v = .int .i64 0 ∧ Hid (Ext w wr))
 case atStart => exact ⟨rfl, hid (((Below.refl _ w).alloc (Nat.le_refl _) _).alloc (by simp) _)⟩
 case round =>
  obtain ⟨rfl, HE⟩ := hrel
  go_wp2_with fail
  go_loopg [80] 0 (fun _ v wi => v = .int .i64 0 ∧ Hid (Ext w wi))
  case atStart => exact ⟨rfl, HE⟩
  case round =>
   obtain ⟨rfl, HE2⟩ := hrel
   go_wp2_with fail
   go_ret
   exact ⟨rfl, HE2.out⟩
theorem formed_any {l : List Nd} {w : World} {ao : Option Addr} (hV : NodesV w ao l) (cap : Nat) (hl : l.length ≤ 1024) :
 Calls Tryz.prog 108 #[.slice ao l.length cap] w (FormPost l w) := by
 by_cases h0 : 0 < l.length
 ·obtain ⟨b, off, rfl, hb, hc⟩ := hV.cells h0
  exact formed_walk hV cap hl h0 hb hc
 ·obtain rfl : l = [] := List.length_eq_zero_iff.1 (by omega)
  exact (formed_nil ao cap w).mono fun e w' ⟨he, hx⟩ => ⟨false, he, ⟨fun h => (by cases h), fun F => (F.ne rfl).elim⟩, hx⟩
end Go.Proofs.YtngpjagpeblbjaaGreatDoor
namespace Go.Proofs.YtngpjagpeblbjaaGreatDoor
open Go.RowKit Go.Spy Go.Rx
def NamesOk (l : List Nd) : Prop := ∀ (i : Nat) (n : Nd), l[i]? = some n → n.op = 2 → nameOk n.sym = true
def CheckC (l : List Nd) (c : Int) : Prop :=
 (1024 < l.length ∧ c = 17) ∨ (l.length ≤ 1024 ∧ ¬ Rx.Form l ∧ c = 12) ∨ (l.length ≤ 1024 ∧ Rx.Form l ∧ ¬ NamesOk l ∧ c = 11) ∨ (l.length ≤ 1024 ∧ Rx.Form l ∧ NamesOk l ∧ c = 0)
theorem checkC_zero {l : List Nd} {c : Int} (h : CheckC l c) : c = 0 ↔ l.length ≤ 1024 ∧ Rx.Form l ∧ NamesOk l := by
 rcases h with ⟨h1, rfl⟩ | ⟨h1, h2, rfl⟩ | ⟨h1, h2, h3, rfl⟩ | ⟨h1, h2, h3, rfl⟩
 ·exact ⟨fun e => by omega, fun k => by omega⟩
 ·exact ⟨fun e => by omega, fun k => (h2 k.2.1).elim⟩
 ·exact ⟨fun e => by omega, fun k => (h3 k.2.2).elim⟩
 ·exact ⟨fun _ => ⟨h1, h2, h3⟩, fun _ => rfl⟩
def CheckPost (l : List Nd) (w : World) (e : Ending) (w' : World) : Prop := ∃ c : Int, e = .returned (.int .i64 c) ∧ CheckC l c ∧ Ext w w'
set_option maxRecDepth 100000 in
set_option maxHeartbeats 1000000 in
theorem check_any {l : List Nd} {w : World} {ao : Option Addr} (hV : NodesV w ao l) (cap : Nat) :
 Calls Tryz.prog 65 #[.agg #[.slice ao l.length cap]] w (CheckPost l w) := by
 have hlen := hV.len
 by_cases hl : 1024 < l.length
 ·go_enter Tryz.func65, Tryz.ntmps65
  go_wp2_with fail
  go_ret
  exact ⟨_, rfl, .inl ⟨hl, rfl⟩, (Below.refl _ _).alloc (Nat.le_refl _) _⟩
 ·have hl2 : l.length ≤ 1024 := by omega
  have HV := hid hV
  clear hV hl
  go_enter Tryz.func65, Tryz.ntmps65
  go_wp2_with fail
  refine (formed_any (HV.out.ext ((Below.refl _ w).alloc (Nat.le_refl _) _)) cap hl2).mono ?_
  rintro e w1 ⟨fb, rfl, hF, hx⟩
  have HX := hid hx
  have HE : Hid (Ext w w1) := hid (((Below.refl _ w).alloc (Nat.le_refl _) _).trans (hx.mono (by simp)))
  have x0 : w1.cell? ⟨w.heap.size, 0, none⟩ = some (.slice ao l.length cap) := ((Blk.new w _ #[.slice ao l.length cap]).ext hx).cell (i := 0) rfl
  have HF := hid hF
  clear hx hF
  cases hb : fb with
  | false =>
    have HB := hid hb
    clear hb
    go_wp2_with fail
    go_ret
    exact ⟨_, rfl, .inr (.inl ⟨hl2, (fun F => by have := HF.out.2 F; rw [HB.out] at this; cases this), rfl⟩), HE.out⟩
  | true =>
    have HFm : Hid (Rx.Form l) := hid (HF.out.1 hb)
    clear HF hb
    go_wp2_with fail
    go_loopg [16] l.length (fun g v wr => ∃ k, g = l.length - k ∧ k ≤ l.length ∧ v = .int .i64 k ∧ Hid (∀ (i : Nat) (n : Nd), i < k → l[i]? = some n → n.op = 2 → nameOk n.sym = true) ∧ Hid (Ext w wr))
    case atStart => exact ⟨0, rfl, Nat.zero_le _, rfl, hid (fun i n h => by omega), HE⟩
    case round =>
     obtain ⟨k, rfl, hk, rfl, HN, HE2⟩ := hrel
     by_cases hlt : k < l.length
     ·obtain ⟨b, off, rfl, hb, hc⟩ := (HV.out.ext HE2.out).cells (by omega)
      obtain ⟨n, hn⟩ : ∃ n, l[k]? = some n := ⟨_, List.getElem?_eq_getElem hlt⟩
      obtain ⟨q0, q1, q2, q3⟩ := hc k n hn
      have hsz := HV.out.size k n hn
      have HNN := hid hn
      clear hc hn
      by_cases ho : n.op = 2
      ·have t2 : (n.op == 2) = true := by simp [ho]
       have HO := hid ho
       clear ho
       cases hok : nameOk n.sym with
       | false =>
         have HK := hid hok
         clear hok
         go_wp2_with (first | (go_at_call 40; refine (is_any n.sym _ (by unfold maxLen; omega)).mono ?_; rintro e w' ⟨rfl, hx⟩; rw [HK.out]; have HX2 := hid hx; clear hx))
         go_ret
         exact ⟨_, rfl, .inr (.inr (.inl ⟨hl2, HFm.out, (fun h => by have := h k n HNN.out HO.out; rw [HK.out] at this; cases this), rfl⟩)), (HE2.out.alloc HE2.out.size _).trans (HX2.out.mono (by have := HE2.out.size; simp; omega))⟩
       | true =>
         have HK := hid hok
         clear hok
         go_wp2_with (first | (go_at_call 40; refine (is_any n.sym _ (by unfold maxLen; omega)).mono ?_; rintro e w' ⟨rfl, hx⟩; rw [HK.out]; have HX2 := hid hx; clear hx))
         go_roundg (l.length - (k + 1))
         case measure => omega
         case rel =>
          refine ⟨k + 1, rfl, by omega, by go_num, hid fun i m hi hm hm2 => ?_, hid ((HE2.out.alloc HE2.out.size _).trans (HX2.out.mono (by have := HE2.out.size; simp; omega)))⟩
          by_cases e : i = k
          ·subst e; rw [HNN.out] at hm; cases hm; exact HK.out
          ·exact HN.out i m (by omega) hm hm2
      ·have t2 : (n.op == 2) = false := by simp [ho]
       have HO := hid ho
       clear ho
       go_wp2_with fail
       go_roundg (l.length - (k + 1))
       case measure => omega
       case rel =>
        refine ⟨k + 1, rfl, by omega, by go_num, hid fun i m hi hm hm2 => ?_, hid (HE2.out.alloc HE2.out.size _)⟩
        by_cases e : i = k
        ·subst e; rw [HNN.out] at hm; cases hm; exact (HO.out hm2).elim
        ·exact HN.out i m (by omega) hm hm2
     ·obtain rfl : k = l.length := by omega
      go_wp2_with fail
      go_ret
      exact ⟨_, rfl, .inr (.inr (.inr ⟨hl2, HFm.out, fun i n hn => HN.out i n (lt_of_some hn) hn, rfl⟩)), HE2.out⟩
end Go.Proofs.YtngpjagpeblbjaaGreatDoor
namespace Go.Proofs.YtngpjagpeblbjaaGreatDoor
open Go.RowKit Go.Spy Go.Rx
def ndV (n : Nd) : Array Value := #[.int .i64 n.op, .string n.sym, .int .i64 n.a, .int .i64 n.b]
theorem ndV_size (n : Nd) : (ndV n).size = 4 := rfl
theorem ones_ndV (n : Nd) : Ones (ndV n) := by
 intro v hv
 simp only [ndV, List.mem_toArray, List.mem_cons, List.not_mem_nil, or_false] at hv
 rcases hv with rfl | rfl | rfl | rfl <;> rfl
theorem nodes_of_own {w : World} {base : Nat} {e : TypeId} {v : Value} {l : List Nd} (h : OwnR w base e 4 ndV v l) (hl : l.length ≤ 4398046511104) (hs : ∀ (i : Nat) (n : Nd), l[i]? = some n → n.sym.size ≤ 9223372036854775807) :
 ∃ ao c, v = .slice ao l.length c ∧ l.length ≤ c ∧ NodesV w ao l ∧ ∀ b off, ao = some ⟨b, off, none⟩ → base ≤ b ∨ l.length = 0 := by
 obtain ⟨ao, c, rfl, hc, h⟩ := h.cells ndV_size
 refine ⟨ao, c, rfl, hc, ⟨hl, hs, fun h0 => ?_⟩, fun b off hb => ?_⟩
 ·rcases h with h | ⟨g, rfl, hb, hg, cur, hB, _, hk⟩
  ·omega
  ·refine ⟨g, 0, rfl, hg, fun i n hn => ?_⟩
   rw [Nat.zero_add]
   exact ⟨hB.cell (by have := hk i 0 n hn (by omega); simpa [ndV] using this), hB.cell (by have := hk i 1 n hn (by omega); simpa [ndV] using this), hB.cell (by have := hk i 2 n hn (by omega); simpa [ndV] using this), hB.cell (by have := hk i 3 n hn (by omega); simpa [ndV] using this)⟩
 ·rcases h with h | ⟨g, rfl, hb', _⟩
  ·exact .inr h
  ·left; cases hb; exact hb'
end Go.Proofs.YtngpjagpeblbjaaGreatDoor
namespace Go.Proofs.YtngpjagpeblbjaaGreatDoor
open Go.RowKit Go.Spy Go.Rx
def SameT (us vs : List ByteArray) : Bool := decide (us = vs)
set_option maxHeartbeats 1000000 in
theorem texts_any {us vs : List ByteArray} {w : World} {a1 a2 : Option Addr} {c1 c2 : Nat} (h1 : StrsV w a1 c1 us) (h2 : StrsV w a2 c2 vs) :
 Calls Tryz.prog 12 #[.slice a1 us.length c1, .slice a2 vs.length c2] w fun e w' => e = .returned (.bool (SameT us vs)) ∧ Ext w w' := by
 have l1 := h1.len
 have l2 := h2.len
 have H1 := hid h1
 have H2 := hid h2
 clear h1 h2
 by_cases hl : us.length = vs.length
 ·have tl : ((us.length : Int) != (vs.length : Int)) = false := by simp [hl]
  have HL := hid hl
  clear hl
  go_enter Tryz.func12, Tryz.ntmps12
  go_wp2_with fail
  go_loopg [5] us.length (fun g i wr => ∃ k, g = us.length - k ∧ k ≤ us.length ∧ i = .int .i64 k ∧ Hid (Ext w wr) ∧ Hid (us.take k = vs.take k))
  case atStart => exact ⟨0, rfl, Nat.zero_le _, rfl, hid (Below.refl _ _), hid (by simp)⟩
  case round =>
   obtain ⟨k, rfl, hk, rfl, HE, HA⟩ := hrel
   by_cases hlt : k < us.length
   ·have hlt2 : k < vs.length := by have := HL.out; omega
    obtain ⟨b1, o1, rfl, hb1, d1⟩ := (H1.out.ext HE.out).cells (by omega)
    obtain ⟨b2, o2, rfl, hb2, d2⟩ := (H2.out.ext HE.out).cells (by omega)
    have e1 := d1 k hlt
    have e2 := d2 k hlt2
    clear d1 d2
    obtain ⟨x, HXe⟩ : ∃ x, Hid (x = us[k]) := ⟨us[k], hid rfl⟩
    obtain ⟨y, HYe⟩ : ∃ y, Hid (y = vs[k]) := ⟨vs[k], hid rfl⟩
    rw [← HXe.out] at e1
    rw [← HYe.out] at e2
    have hk1 : (k : Int) < (us.length : Int) := by omega
    have hk2 : (k : Int) < (vs.length : Int) := by omega
    by_cases hxy : x = y
    ·have t : (x.toList == y.toList) = true := beqB_true hxy
     have HXY := hid hxy
     clear hxy
     go_wp2_with fail
     go_quiet (fail)
     go_wp2_with fail
     go_roundg (us.length - (k + 1))
     case measure => omega
     case rel =>
      refine ⟨k + 1, rfl, by omega, by go_num, hid (ext_drewN HE.out _), hid ?_⟩
      rw [List.take_succ_eq_append_getElem hlt, List.take_succ_eq_append_getElem hlt2, HA.out, ← HXe.out, ← HYe.out, HXY.out]
    ·have t : (x.toList == y.toList) = false := beqB_false hxy
     have HXY := hid hxy
     clear hxy
     go_wp2_with fail
     go_quiet (fail)
     go_wp2_with fail
     go_ret
     refine ⟨ret_bool ?_, ext_drewN HE.out _⟩
     symm
     simp only [SameT, decide_eq_false_iff_not]
     intro e
     refine HXY.out ?_
     rw [HXe.out, HYe.out]
     simp [e]
   ·obtain rfl : k = us.length := by omega
    go_wp2_with fail
    go_ret
    refine ⟨ret_bool ?_, HE.out⟩
    have := HA.out
    rw [List.take_length, HL.out, List.take_length] at this
    simp [SameT, this]
 ·have tl : ((us.length : Int) != (vs.length : Int)) = true := by simp; omega
  have HL := hid hl
  clear hl
  go_enter Tryz.func12, Tryz.ntmps12
  go_wp2_with fail
  go_ret
  refine ⟨ret_bool ?_, Below.refl _ _⟩
  symm
  simp only [SameT, decide_eq_false_iff_not]
  exact fun e => HL.out (by rw [e])
end Go.Proofs.YtngpjagpeblbjaaGreatDoor
