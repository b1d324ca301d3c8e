/-
  Walk of the reference's Put: a word put into words that rise.
-/
import Derived.StillTailTactics
import Derived.Deep.QuietTactic
import Derived.BigQuiet
import Derived.BigRegion
import Derived.IntWalk
import Derived.Sort.OwnSorted
import Derived.Sort.Grow
import Derived.Lib.OwnBridge
import Derived.Outline
import Derived.WalkSpells
import Derived.Lib.TrailingZeros
import Derived.Deep.Draws
import Derived.Laws.ResultCell
import Derived.Laws.CopyRow
import Derived.Laws.OwnMore
import Derived.WalkKit
import Derived.WalkLawsBesides
import Derived.Deep.LoopGhost
import Derived.Deep.DeepCutAuto
import Derived.Deep.CutBlock
import Derived.Deep.OwnRows
import Derived.Deep.AppendLies
import Derived.OwnWalk
import Derived.Deep.RegionLaw
import Derived.StillTail
import Derived.StillTactics
import Derived.OrdersHeld
import Derived.Shelf.Sort.Plain
import Derived.Shelf.Slices.Turned
import Derived.Ground.Names2Prog
import Derived.Shelf.Slices.ReverseS
import Derived.Shelf.Slices.Clone
import Derived.Shelf.Slices.CompactS
import Derived.Shelf.Slices.SearchI
import Derived.Shelf.Slices.Cells
import Derived.Shelf.Slices.In.SortNone
import Derived.Test.YtngpjagpeblbjaaGreatDoorProg
import Derived.Deep.Cut
import Derived.Lib.SlicesCompact
import Derived.Lib.RowBridge
import Derived.Test.YtngpjagpeblbjaaGreatDoorC05
import Derived.Test.YtngpjagpeblbjaaGreatDoorC01
namespace Go.Proofs.YtngpjagpeblbjaaGreatDoor
open Go.RowKit Go.Spy Go.Heaped Go.Tour Go.Rx
section
variable {α : Type} {w : World} {f : α → Array Value} {l : List α}
theorem ReadR.takeN {s : Nat} {ao : Option Addr} {n c : Nat} (h : ReadR w s f (.slice ao n c) l) {k : Nat} (hk : k ≤ l.length) (c' : Nat) : ReadR w s f (.slice ao k c') (l.take k) := by
 obtain ⟨ao', c0, e, h0⟩ := h
 simp only [Value.slice.injEq] at e
 obtain ⟨rfl, rfl, rfl⟩ := e
 refine ⟨ao, c', by rw [List.length_take]; congr 1; omega, ?_⟩
 rcases h0 with h0 | ⟨g, off, rfl, hg, hc⟩
 ·exact .inl (by rw [List.length_take]; omega)
 ·refine .inr ⟨g, off, rfl, hg, fun j i x hx hi => hc j i x ?_ hi⟩
  rw [List.getElem?_take] at hx
  split at hx
  ·exact hx
  ·cases hx
theorem ReadR.dropN {ao ao' : Option Addr} {n c : Nat} (h : ReadR w 1 f (.slice ao n c) l) {k : Nat} (hk : k ≤ l.length) (c' : Nat) (ha : k < l.length → ∀ g off, ao = some ⟨g, off, none⟩ → ao' = some ⟨g, off + k, none⟩) : ReadR w 1 f (.slice ao' (n - k) c') (l.drop k) := by
 obtain ⟨ao0, c0, e, h0⟩ := h
 simp only [Value.slice.injEq] at e
 obtain ⟨rfl, rfl, rfl⟩ := e
 refine ⟨ao', c', by rw [List.length_drop], ?_⟩
 by_cases hlt : k < l.length
 ·rcases h0 with h0 | ⟨g, off, rfl, hg, hc⟩
  ·omega
  ·refine .inr ⟨g, off + k, ha hlt g off rfl, hg, fun j i x hx hi => ?_⟩
   rw [List.getElem?_drop] at hx
   have h := hc (k + j) i x hx hi
   rwa [show off + ((k + j) * 1 + i) = off + k + (j * 1 + i) by omega] at h
 ·exact .inl (by rw [List.length_drop]; omega)
end
theorem put_new {l : List ByteArray} (h : Rising l) {s : ByteArray} {k : Nat} (h1 : ∀ (j : Nat) (x : ByteArray), j < k → l[j]? = some x → ltB x s = true) (h2 : ∀ (j : Nat) (x : ByteArray), k ≤ j → l[j]? = some x → ltB s x = true) : l.take k ++ [s] ++ l.drop k = sortW (l ++ [s]) := by
 refine rising_ext ?_ (sortW_rising _) fun x => ?_
 ·unfold Rising
  rw [List.pairwise_append, List.pairwise_append]
  have hd := List.take_append_drop k l
  have hp : Rising (l.take k ++ l.drop k) := by rw [hd]; exact h
  unfold Rising at hp
  rw [List.pairwise_append] at hp
  have t1 : ∀ a ∈ l.take k, ltB a s = true := fun a ha => by
   obtain ⟨j, hj⟩ := List.getElem?_of_mem ha
   rw [List.getElem?_take] at hj
   split at hj
   ·exact h1 j a ‹_› hj
   ·cases hj
  have t2 : ∀ a ∈ l.drop k, ltB s a = true := fun a ha => by
   obtain ⟨j, hj⟩ := List.getElem?_of_mem ha
   rw [List.getElem?_drop] at hj
   exact h2 _ a (by omega) hj
  refine ⟨⟨hp.1, List.pairwise_singleton _ _, fun a ha b hb => ?_⟩, hp.2.1, fun a ha b hb => ?_⟩
  ·rw [List.mem_singleton.1 hb]; exact t1 a ha
  ·rcases List.mem_append.1 ha with ha | ha
   ·exact hp.2.2 a ha b hb
   ·rw [List.mem_singleton.1 ha]; exact t2 b hb
 ·rw [sortW_mem]
  have hm : x ∈ l ↔ x ∈ l.take k ∨ x ∈ l.drop k := by rw [← List.mem_append, List.take_append_drop]
  simp only [List.mem_append, hm, List.mem_singleton]
  constructor
  ·rintro ((h | h) | h)
   ·exact .inl (.inl h)
   ·exact .inr h
   ·exact .inl (.inr h)
  ·rintro ((h | h) | h)
   ·exact .inl (.inl h)
   ·exact .inr h
   ·exact .inl (.inr h)
theorem put_old {l : List ByteArray} (h : Rising l) {s : ByteArray} (hs : s ∈ l) : l = sortW (l ++ [s]) :=
 rising_ext h (sortW_rising _) fun x => by
  rw [sortW_mem, List.mem_append, List.mem_singleton]
  exact ⟨.inl, fun h => h.elim id fun e => e ▸ hs⟩
def PutPost (ao0 : Option Addr) (n0 : Nat) (l : List ByteArray) (s : ByteArray) (w : World) (e : Ending) (w' : World) : Prop := ∃ ao n c, e = .returned (.slice ao n c) ∧ Hid (ReadR w' 1 strC (.slice ao n c) (sortW (l ++ [s])) ∧ n ≤ c) ∧ Hid ((ao0 = ao ∧ n0 = n) ∨ ∀ g, (Value.slice ao n c).ownBlock = some g → w.heap.size ≤ g) ∧ Ext w w'
set_option maxRecDepth 100000 in
set_option maxHeartbeats 4000000 in
theorem rput_any {w : World} {ao : Option Addr} {n c : Nat} {l : List ByteArray} (hV : ReadR w 1 strC (.slice ao n c) l) (hr : Rising l) (hc : n ≤ c) (hn : n ≤ 100000) (s : ByteArray) : Calls Tryz.prog 31 #[.slice ao n c, .string s] w (PutPost ao n l s w) := by
 have hnl : n = l.length := by
  obtain ⟨_, _, e, _⟩ := hV
  simp only [Value.slice.injEq] at e
  exact e.2.1
 have hform : 0 < n → ∃ g off, ao = some ⟨g, off, none⟩ := by
  obtain ⟨_, _, e, h⟩ := hV.form
  simp only [Value.slice.injEq] at e
  obtain ⟨rfl, -, -⟩ := e
  rw [hnl]; exact h
 have HV := hid hV
 have HR := hid hr
 have HF := hid hform
 have HN := hid hnl
 clear hV hr hform hnl
 go_enter Tryz.func31, Tryz.ntmps31
 go_wp2_with fail
 go_loopg [5] n (fun g u wr => ∃ k, g = n - k ∧ k ≤ n ∧ u = .int .i64 k ∧ Hid (Ext w wr) ∧ Hid (∀ (j : Nat) (x : ByteArray), j < k → l[j]? = some x → ltB x s = true))
 case atStart => exact ⟨0, rfl, Nat.zero_le _, rfl, hid (Below.refl _ _), hid (fun j x h => absurd h (Nat.not_lt_zero j))⟩
 case round =>
  obtain ⟨k, rfl, hk, rfl, HE, HA⟩ := hrel
  by_cases hlt : k < n
  ·have q1 : decide (k < n) = true := decide_eq_true hlt
   have q2 : decide ((k : Int) < (n : Int)) = true := decide_eq_true (by omega)
   obtain ⟨g, off, rfl⟩ := HF.out (by omega)
   obtain ⟨x, hx⟩ : ∃ x, l[k]? = some x := ⟨_, List.getElem?_eq_getElem (by rw [← HN.out]; exact hlt)⟩
   have c1 : wr.cell? ⟨g, off + k, none⟩ = some (.string x) := (HV.out.ext HE.out).cell1 hx
   have HX := hid hx
   have k0 : (0 : Int) ≤ (k : Int) := by omega
   have k1 : (k : Int) < (n : Int) := by omega
   have k2 : (k : Int) ≤ (c : Int) := by omega
   have k3 : (k : Int) ≤ (n : Int) := by omega
   clear hx
   obtain ⟨b, hb⟩ : ∃ b, Op.bytesLess x.toList s.toList = b := ⟨_, rfl⟩
   have HB := hid hb
   cases b with
   | true =>
     go_wp2_with fail
     go_roundg (n - (k + 1))
     case measure => omega
     case rel =>
      refine ⟨k + 1, rfl, by omega, by go_num, HE, hid fun j y hj hy => ?_⟩
      by_cases e : j = k
      ·subst e
       rw [HX.out] at hy
       cases hy
       exact HB.out
      ·exact HA.out j y (by omega) hy
   | false =>
     by_cases hxs : x = s
     ·have t : (x.toList == s.toList) = true := beqB_true hxs
      have HXS := hid hxs
      clear hxs
      go_wp2_with fail
      go_ret
      refine ⟨_, _, _, rfl, hid ⟨?_, hc⟩, hid (.inl ⟨rfl, rfl⟩), HE.out⟩
      rw [← put_old HR.out (by rw [← HXS.out]; exact List.mem_of_getElem? HX.out)]
      exact HV.out.ext HE.out
     ·have t : (x.toList == s.toList) = false := beqB_false hxs
      have HXS := hid hxs
      clear hxs
      have HL := hid (put_new HR.out HA.out (k := k) (fun j y hj hy => by
       have h1 : ltB s x = true := by
        rcases ltB_total HXS.out with h | h
        ·have h2 : ltB x s = false := HB.out
         rw [h2] at h; cases h
        ·exact h
       by_cases e : j = k
       ·subst e
        rw [HX.out] at hy
        cases hy
        exact h1
       ·exact ltB_trans h1 (HR.out.get (by omega) HX.out hy)))
      have HNL : Hid (OwnR wr w.heap.size 9 1 strC (.slice none 0 0) []) := hid (OwnR.nil _ _ _ _ _)
      have HT1 : Hid (ReadR wr 1 strC (.slice (some ⟨g, off, none⟩) k c) (l.take k)) := hid ((HV.out.ext HE.out).takeN (by rw [← HN.out]; omega) c)
      have hsz : w.heap.size ≤ wr.heap.size := HE.out.size
      have hlen : ([] : List ByteArray).length + (l.take k).length ≤ 1000000000 := by rw [List.length_take, ← HN.out]; simp; omega
      have hlen2 : (l.take k).length + 1 ≤ 1000000000 := by rw [List.length_take, ← HN.out]; omega
      have hlen3 : (l.take k ++ [s]).length + (l.drop k).length ≤ 1000000000 := by rw [List.length_append, List.length_take, List.length_drop, ← HN.out]; simp; omega
      go_wp2_with (first
       | (with_reducible refine onOp 38 ?_
          go_loud (refine wpList_append_read elem_str strC_size ones_strC HNL hsz HT1 hlen rfl (.tmp 34) (.tmp 37) rfl rfl rfl ?_)
          intro v4 w4 H10 H2
          have H1 : Hid (OwnR w4 w.heap.size 9 1 strC v4 (l.take k)) := hid (by have h := H10.out; rwa [List.nil_append] at h)
          have HE4 := hid (ext_grown HE.out H2.out (fun i hi => by cases hi))
          have hsz4 : w.heap.size ≤ w4.heap.size := HE4.out.size
          clear H10)
       | (with_reducible refine onOp 42 ?_
          go_loud (refine wpList_append_R elem_str strC_size ones_strC H1 hsz4 hlen2 s _ rfl w4.heap.size rfl rfl _ _ rfl rfl rfl ?_)
          rintro g6 c6 v6 w6 hv6 G1 G2
          have HE6 := hid (ext_grown HE4.out G2.out.1 (fun i hi => (H1.out.lt i hi).1))
          have hsz6 : w.heap.size ≤ w6.heap.size := HE6.out.size
          clear hv6)
       | (with_reducible refine onOp 47 ?_
          go_loud (refine wpList_append_read elem_str strC_size ones_strC G1 hsz6 (x2 := .slice (some ⟨g, off + k, none⟩) (n - k) (c - k)) (hid ((HV.out.ext HE6.out).dropN (by rw [← HN.out]; omega) _ (fun _ _ _ e => by cases e; rfl))) hlen3 rfl (.tmp 43) (.tmp 46) rfl rfl rfl ?_)
          intro v7 w7 H3 H4))
      go_ret
      obtain ⟨a7, c7, e7, hc7, -⟩ := H3.out.cells strC_size
      subst e7
      refine ⟨_, _, _, rfl, hid ⟨?_, hc7⟩, hid (.inr fun g h => (H3.out.lt g h).1), ext_grown HE6.out H4.out (fun i hi => (G1.out.lt i hi).1)⟩
      have h := OwnR.read H3.out strC_size
      rw [HL.out] at h ⊢
      exact h
  ·obtain rfl : n = k := by omega
   have q1 : decide (n < n) = false := decide_eq_false (by omega)
   have q2 : decide ((n : Int) < (n : Int)) = false := decide_eq_false (by omega)
   have k0 : (0 : Int) ≤ (n : Int) := by omega
   have k2 : (n : Int) ≤ (c : Int) := by omega
   have HL := hid (put_new HR.out HA.out (k := n) (fun j y hj hy => absurd (List.getElem?_eq_some_iff.1 hy).1 (by rw [← HN.out]; omega)))
   have HDR : ∀ (W : World) (a : Option Addr) (c' : Nat), ReadR W 1 strC (.slice a 0 c') (l.drop n) := fun W a c' => ⟨a, c', by rw [List.length_drop, ← HN.out, Nat.sub_self], .inl (by rw [List.length_drop, ← HN.out, Nat.sub_self])⟩
   have HNL : Hid (OwnR wr w.heap.size 9 1 strC (.slice none 0 0) []) := hid (OwnR.nil _ _ _ _ _)
   have HT1 : Hid (ReadR wr 1 strC (.slice ao n c) (l.take n)) := hid ((HV.out.ext HE.out).takeN (by rw [← HN.out]; omega) c)
   have hsz : w.heap.size ≤ wr.heap.size := HE.out.size
   have hlen : ([] : List ByteArray).length + (l.take n).length ≤ 1000000000 := by rw [List.length_take, ← HN.out]; simp; omega
   have hlen2 : (l.take n).length + 1 ≤ 1000000000 := by rw [List.length_take, ← HN.out]; omega
   have hlen3 : (l.take n ++ [s]).length + (l.drop n).length ≤ 1000000000 := by rw [List.length_append, List.length_take, List.length_drop, ← HN.out]; simp; omega
   go_wp2_with (first
    | (with_reducible refine onOp 38 ?_
       go_loud (refine wpList_append_read elem_str strC_size ones_strC HNL hsz HT1 hlen rfl (.tmp 34) (.tmp 37) rfl rfl rfl ?_)
       intro v4 w4 H10 H2
       have H1 : Hid (OwnR w4 w.heap.size 9 1 strC v4 (l.take n)) := hid (by have h := H10.out; rwa [List.nil_append] at h)
       have HE4 := hid (ext_grown HE.out H2.out (fun i hi => by cases hi))
       have hsz4 : w.heap.size ≤ w4.heap.size := HE4.out.size
       clear H10)
    | (with_reducible refine onOp 42 ?_
       go_loud (refine wpList_append_R elem_str strC_size ones_strC H1 hsz4 hlen2 s _ rfl w4.heap.size rfl rfl _ _ rfl rfl rfl ?_)
       rintro g6 c6 v6 w6 hv6 G1 G2
       have HE6 := hid (ext_grown HE4.out G2.out.1 (fun i hi => (H1.out.lt i hi).1))
       have hsz6 : w.heap.size ≤ w6.heap.size := HE6.out.size
       clear hv6)
    | (with_reducible refine onOp 47 ?_
       go_loud (refine wpList_append_read elem_str strC_size ones_strC G1 hsz6 (x2 := .slice (if c = n then ao else ao.map fun x => x.add n) 0 (c - n)) (hid (HDR _ _ _)) hlen3 rfl (.tmp 43) (.tmp 46) rfl rfl rfl ?_)
       intro v7 w7 H3 H4))
   all_goals
    go_ret
    obtain ⟨a7, c7, e7, hc7, -⟩ := H3.out.cells strC_size
    subst e7
    refine ⟨_, _, _, rfl, hid ⟨?_, hc7⟩, hid (.inr fun g h => (H3.out.lt g h).1), ext_grown HE6.out H4.out (fun i hi => (G1.out.lt i hi).1)⟩
    have h := OwnR.read H3.out strC_size
    rw [HL.out] at h ⊢
    exact h
end Go.Proofs.YtngpjagpeblbjaaGreatDoor
