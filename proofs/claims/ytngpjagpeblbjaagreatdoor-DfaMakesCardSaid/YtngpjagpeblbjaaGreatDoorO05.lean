/-
  Walk of the reference's Put: a word put into words that rise.
  Walks of the reference's goes and final.
-/
import Derived.StillTailTactics
import Derived.Deep.QuietTactic
import Derived.BigQuiet
import Derived.BigRegion
import Derived.IntWalk
import Derived.Sort.OwnSorted
import Derived.Sort.Grow
import Derived.Lib.OwnBridge
import Derived.Outline
import Derived.WalkSpells
import Derived.Lib.TrailingZeros
import Derived.Deep.Draws
import Derived.Laws.ResultCell
import Derived.Laws.CopyRow
import Derived.Laws.OwnMore
import Derived.WalkKit
import Derived.WalkLawsBesides
import Derived.Deep.LoopGhost
import Derived.Deep.DeepCutAuto
import Derived.Deep.RegionLaw
import Derived.Deep.CutBlock
import Derived.StillTail
import Derived.StillTactics
import Derived.OrdersHeld
import Derived.Deep.OwnRows
import Derived.Deep.AppendLies
import Derived.OwnWalk
import Derived.Shelf.Sort.Plain
import Derived.Shelf.Slices.Turned
import Derived.Ground.Names2Prog
import Derived.Shelf.Slices.ReverseS
import Derived.Shelf.Slices.Clone
import Derived.Shelf.Slices.CompactS
import Derived.Shelf.Slices.SearchI
import Derived.Shelf.Slices.Cells
import Derived.Shelf.Slices.In.SortNone
import Derived.Test.YtngpjagpeblbjaaGreatDoorProg
import Derived.Deep.Cut
import Derived.Recover
import Derived.Deep.RegionWith
import Derived.Test.YtngpjagpeblbjaaGreatDoorRows
import Derived.DeepKeys5
import Derived.Lib.SlicesCompact
import Derived.Lib.RowBridge
import Derived.Test.YtngpjagpeblbjaaGreatDoorO02
import Derived.Test.YtngpjagpeblbjaaGreatDoorO01
import Derived.Test.YtngpjagpeblbjaaGreatDoorO03
import Derived.Test.YtngpjagpeblbjaaGreatDoorO04
namespace Go.Proofs.YtngpjagpeblbjaaGreatDoor
open Go.RowKit Go.Spy Go.Heaped Go.Tour Go.Rx
section
variable {α : Type} {w : World} {f : α → Array Value} {l : List α}
theorem ReadR.takeN {s : Nat} {ao : Option Addr} {n c : Nat} (h : ReadR w s f (.slice ao n c) l) {k : Nat} (hk : k ≤ l.length) (c' : Nat) : ReadR w s f (.slice ao k c') (l.take k) := by
 obtain ⟨ao', c0, e, h0⟩ := h
 simp only [Value.slice.injEq] at e
 obtain ⟨rfl, rfl, rfl⟩ := e
 refine ⟨ao, c', by rw [List.length_take]; congr 1; omega, ?_⟩
 rcases h0 with h0 | ⟨g, off, rfl, hg, hc⟩
 ·exact .inl (by rw [List.length_take]; omega)
 ·refine .inr ⟨g, off, rfl, hg, fun j i x hx hi => hc j i x ?_ hi⟩
  rw [List.getElem?_take] at hx
  split at hx
  ·exact hx
  ·cases hx
theorem ReadR.dropN {ao ao' : Option Addr} {n c : Nat} (h : ReadR w 1 f (.slice ao n c) l) {k : Nat} (hk : k ≤ l.length) (c' : Nat) (ha : k < l.length → ∀ g off, ao = some ⟨g, off, none⟩ → ao' = some ⟨g, off + k, none⟩) : ReadR w 1 f (.slice ao' (n - k) c') (l.drop k) := by
 obtain ⟨ao0, c0, e, h0⟩ := h
 simp only [Value.slice.injEq] at e
 obtain ⟨rfl, rfl, rfl⟩ := e
 refine ⟨ao', c', by rw [List.length_drop], ?_⟩
 by_cases hlt : k < l.length
 ·rcases h0 with h0 | ⟨g, off, rfl, hg, hc⟩
  ·omega
  ·refine .inr ⟨g, off + k, ha hlt g off rfl, hg, fun j i x hx hi => ?_⟩
   rw [List.getElem?_drop] at hx
   have h := hc (k + j) i x hx hi
   rwa [show off + ((k + j) * 1 + i) = off + k + (j * 1 + i) by omega] at h
 ·exact .inl (by rw [List.length_drop]; omega)
end
theorem put_new {l : List ByteArray} (h : Rising l) {s : ByteArray} {k : Nat} (h1 : ∀ (j : Nat) (x : ByteArray), j < k → l[j]? = some x → ltB x s = true) (h2 : ∀ (j : Nat) (x : ByteArray), k ≤ j → l[j]? = some x → ltB s x = true) : l.take k ++ [s] ++ l.drop k = sortW (l ++ [s]) := by
 refine rising_ext ?_ (sortW_rising _) fun x => ?_
 ·unfold Rising
  rw [List.pairwise_append, List.pairwise_append]
  have hd := List.take_append_drop k l
  have hp : Rising (l.take k ++ l.drop k) := by rw [hd]; exact h
  unfold Rising at hp
  rw [List.pairwise_append] at hp
  have t1 : ∀ a ∈ l.take k, ltB a s = true := fun a ha => by
   obtain ⟨j, hj⟩ := List.getElem?_of_mem ha
   rw [List.getElem?_take] at hj
   split at hj
   ·exact h1 j a ‹_› hj
   ·cases hj
  have t2 : ∀ a ∈ l.drop k, ltB s a = true := fun a ha => by
   obtain ⟨j, hj⟩ := List.getElem?_of_mem ha
   rw [List.getElem?_drop] at hj
   exact h2 _ a (by omega) hj
  refine ⟨⟨hp.1, List.pairwise_singleton _ _, fun a ha b hb => ?_⟩, hp.2.1, fun a ha b hb => ?_⟩
  ·rw [List.mem_singleton.1 hb]; exact t1 a ha
  ·rcases List.mem_append.1 ha with ha | ha
   ·exact hp.2.2 a ha b hb
   ·rw [List.mem_singleton.1 ha]; exact t2 b hb
 ·rw [sortW_mem]
  have hm : x ∈ l ↔ x ∈ l.take k ∨ x ∈ l.drop k := by rw [← List.mem_append, List.take_append_drop]
  simp only [List.mem_append, hm, List.mem_singleton]
  constructor
  ·rintro ((h | h) | h)
   ·exact .inl (.inl h)
   ·exact .inr h
   ·exact .inl (.inr h)
  ·rintro ((h | h) | h)
   ·exact .inl (.inl h)
   ·exact .inr h
   ·exact .inl (.inr h)
theorem put_old {l : List ByteArray} (h : Rising l) {s : ByteArray} (hs : s ∈ l) : l = sortW (l ++ [s]) :=
 rising_ext h (sortW_rising _) fun x => by
  rw [sortW_mem, List.mem_append, List.mem_singleton]
  exact ⟨.inl, fun h => h.elim id fun e => e ▸ hs⟩
def PutPost (ao0 : Option Addr) (n0 : Nat) (l : List ByteArray) (s : ByteArray) (w : World) (e : Ending) (w' : World) : Prop := ∃ ao n c, e = .returned (.slice ao n c) ∧ Hid (ReadR w' 1 strC (.slice ao n c) (sortW (l ++ [s])) ∧ n ≤ c) ∧ Hid ((ao0 = ao ∧ n0 = n) ∨ ∀ g, (Value.slice ao n c).ownBlock = some g → w.heap.size ≤ g) ∧ Ext w w'
set_option maxRecDepth 100000 in
set_option maxHeartbeats 4000000 in
theorem rput_any {w : World} {ao : Option Addr} {n c : Nat} {l : List ByteArray} (hV : ReadR w 1 strC (.slice ao n c) l) (hr : Rising l) (hc : n ≤ c) (hn : n ≤ 100000) (s : ByteArray) : Calls Tryz.prog 31 #[.slice ao n c, .string s] w (PutPost ao n l s w) := by
 have hnl : n = l.length := by
  obtain ⟨_, _, e, _⟩ := hV
  simp only [Value.slice.injEq] at e
  exact e.2.1
 have hform : 0 < n → ∃ g off, ao = some ⟨g, off, none⟩ := by
  obtain ⟨_, _, e, h⟩ := hV.form
  simp only [Value.slice.injEq] at e
  obtain ⟨rfl, -, -⟩ := e
  rw [hnl]; exact h
 have HV := hid hV
 have HR := hid hr
 have HF := hid hform
 have HN := hid hnl
 clear hV hr hform hnl
 go_enter Tryz.func31, Tryz.ntmps31
 go_wp2_with fail
 go_loopg [5] n (fun g u wr => ∃ k, g = n - k ∧ k ≤ n ∧ u = .int .i64 k ∧ Hid (Ext w wr) ∧ Hid (∀ (j : Nat) (x : ByteArray), j < k → l[j]? = some x → ltB x s = true))
 case atStart => exact ⟨0, rfl, Nat.zero_le _, rfl, hid (Below.refl _ _), hid (fun j x h => absurd h (Nat.not_lt_zero j))⟩
 case round =>
  obtain ⟨k, rfl, hk, rfl, HE, HA⟩ := hrel
  by_cases hlt : k < n
  ·have q1 : decide (k < n) = true := decide_eq_true hlt
   have q2 : decide ((k : Int) < (n : Int)) = true := decide_eq_true (by omega)
   obtain ⟨g, off, rfl⟩ := HF.out (by omega)
   obtain ⟨x, hx⟩ : ∃ x, l[k]? = some x := ⟨_, List.getElem?_eq_getElem (by rw [← HN.out]; exact hlt)⟩
   have c1 : wr.cell? ⟨g, off + k, none⟩ = some (.string x) := (HV.out.ext HE.out).cell1 hx
   have HX := hid hx
   have k0 : (0 : Int) ≤ (k : Int) := by omega
   have k1 : (k : Int) < (n : Int) := by omega
   have k2 : (k : Int) ≤ (c : Int) := by omega
   have k3 : (k : Int) ≤ (n : Int) := by omega
   clear hx
   obtain ⟨b, hb⟩ : ∃ b, Op.bytesLess x.toList s.toList = b := ⟨_, rfl⟩
   have HB := hid hb
   cases b with
   | true =>
     go_wp2_with fail
     go_roundg (n - (k + 1))
     case measure => omega
     case rel =>
      refine ⟨k + 1, rfl, by omega, by go_num, HE, hid fun j y hj hy => ?_⟩
      by_cases e : j = k
      ·subst e
       rw [HX.out] at hy
       cases hy
       exact HB.out
      ·exact HA.out j y (by omega) hy
   | false =>
     by_cases hxs : x = s
     ·have t : (x.toList == s.toList) = true := beqB_true hxs
      have HXS := hid hxs
      clear hxs
      go_wp2_with fail
      go_ret
      refine ⟨_, _, _, rfl, hid ⟨?_, hc⟩, hid (.inl ⟨rfl, rfl⟩), HE.out⟩
      rw [← put_old HR.out (by rw [← HXS.out]; exact List.mem_of_getElem? HX.out)]
      exact HV.out.ext HE.out
     ·have t : (x.toList == s.toList) = false := beqB_false hxs
      have HXS := hid hxs
      clear hxs
      have HL := hid (put_new HR.out HA.out (k := k) (fun j y hj hy => by
       have h1 : ltB s x = true := by
        rcases ltB_total HXS.out with h | h
        ·have h2 : ltB x s = false := HB.out
         rw [h2] at h; cases h
        ·exact h
       by_cases e : j = k
       ·subst e
        rw [HX.out] at hy
        cases hy
        exact h1
       ·exact ltB_trans h1 (HR.out.get (by omega) HX.out hy)))
      have HNL : Hid (OwnR wr w.heap.size 9 1 strC (.slice none 0 0) []) := hid (OwnR.nil _ _ _ _ _)
      have HT1 : Hid (ReadR wr 1 strC (.slice (some ⟨g, off, none⟩) k c) (l.take k)) := hid ((HV.out.ext HE.out).takeN (by rw [← HN.out]; omega) c)
      have hsz : w.heap.size ≤ wr.heap.size := HE.out.size
      have hlen : ([] : List ByteArray).length + (l.take k).length ≤ 1000000000 := by rw [List.length_take, ← HN.out]; simp; omega
      have hlen2 : (l.take k).length + 1 ≤ 1000000000 := by rw [List.length_take, ← HN.out]; omega
      have hlen3 : (l.take k ++ [s]).length + (l.drop k).length ≤ 1000000000 := by rw [List.length_append, List.length_take, List.length_drop, ← HN.out]; simp; omega
      go_wp2_with (first
       | (with_reducible refine onOp 38 ?_
          go_loud (refine wpList_append_read elem_str strC_size ones_strC HNL hsz HT1 hlen rfl (.tmp 34) (.tmp 37) rfl rfl rfl ?_)
          intro v4 w4 H10 H2
          have H1 : Hid (OwnR w4 w.heap.size 9 1 strC v4 (l.take k)) := hid (by have h := H10.out; rwa [List.nil_append] at h)
          have HE4 := hid (ext_grown HE.out H2.out (fun i hi => by cases hi))
          have hsz4 : w.heap.size ≤ w4.heap.size := HE4.out.size
          clear H10)
       | (with_reducible refine onOp 42 ?_
          go_loud (refine wpList_append_R elem_str strC_size ones_strC H1 hsz4 hlen2 s _ rfl w4.heap.size rfl rfl _ _ rfl rfl rfl ?_)
          rintro g6 c6 v6 w6 hv6 G1 G2
          have HE6 := hid (ext_grown HE4.out G2.out.1 (fun i hi => (H1.out.lt i hi).1))
          have hsz6 : w.heap.size ≤ w6.heap.size := HE6.out.size
          clear hv6)
       | (with_reducible refine onOp 47 ?_
          go_loud (refine wpList_append_read elem_str strC_size ones_strC G1 hsz6 (x2 := .slice (some ⟨g, off + k, none⟩) (n - k) (c - k)) (hid ((HV.out.ext HE6.out).dropN (by rw [← HN.out]; omega) _ (fun _ _ _ e => by cases e; rfl))) hlen3 rfl (.tmp 43) (.tmp 46) rfl rfl rfl ?_)
          intro v7 w7 H3 H4))
      go_ret
      obtain ⟨a7, c7, e7, hc7, -⟩ := H3.out.cells strC_size
      subst e7
      refine ⟨_, _, _, rfl, hid ⟨?_, hc7⟩, hid (.inr fun g h => (H3.out.lt g h).1), ext_grown HE6.out H4.out (fun i hi => (G1.out.lt i hi).1)⟩
      have h := OwnR.read H3.out strC_size
      rw [HL.out] at h ⊢
      exact h
  ·obtain rfl : n = k := by omega
   have q1 : decide (n < n) = false := decide_eq_false (by omega)
   have q2 : decide ((n : Int) < (n : Int)) = false := decide_eq_false (by omega)
   have k0 : (0 : Int) ≤ (n : Int) := by omega
   have k2 : (n : Int) ≤ (c : Int) := by omega
   have HL := hid (put_new HR.out HA.out (k := n) (fun j y hj hy => absurd (List.getElem?_eq_some_iff.1 hy).1 (by rw [← HN.out]; omega)))
   have HDR : ∀ (W : World) (a : Option Addr) (c' : Nat), ReadR W 1 strC (.slice a 0 c') (l.drop n) := fun W a c' => ⟨a, c', by rw [List.length_drop, ← HN.out, Nat.sub_self], .inl (by rw [List.length_drop, ← HN.out, Nat.sub_self])⟩
   have HNL : Hid (OwnR wr w.heap.size 9 1 strC (.slice none 0 0) []) := hid (OwnR.nil _ _ _ _ _)
   have HT1 : Hid (ReadR wr 1 strC (.slice ao n c) (l.take n)) := hid ((HV.out.ext HE.out).takeN (by rw [← HN.out]; omega) c)
   have hsz : w.heap.size ≤ wr.heap.size := HE.out.size
   have hlen : ([] : List ByteArray).length + (l.take n).length ≤ 1000000000 := by rw [List.length_take, ← HN.out]; simp; omega
   have hlen2 : (l.take n).length + 1 ≤ 1000000000 := by rw [List.length_take, ← HN.out]; omega
   have hlen3 : (l.take n ++ [s]).length + (l.drop n).length ≤ 1000000000 := by rw [List.length_append, List.length_take, List.length_drop, ← HN.out]; simp; omega
   go_wp2_with (first
    | (with_reducible refine onOp 38 ?_
       go_loud (refine wpList_append_read elem_str strC_size ones_strC HNL hsz HT1 hlen rfl (.tmp 34) (.tmp 37) rfl rfl rfl ?_)
       intro v4 w4 H10 H2
       have H1 : Hid (OwnR w4 w.heap.size 9 1 strC v4 (l.take n)) := hid (by have h := H10.out; rwa [List.nil_append] at h)
       have HE4 := hid (ext_grown HE.out H2.out (fun i hi => by cases hi))
       have hsz4 : w.heap.size ≤ w4.heap.size := HE4.out.size
       clear H10)
    | (with_reducible refine onOp 42 ?_
       go_loud (refine wpList_append_R elem_str strC_size ones_strC H1 hsz4 hlen2 s _ rfl w4.heap.size rfl rfl _ _ rfl rfl rfl ?_)
       rintro g6 c6 v6 w6 hv6 G1 G2
       have HE6 := hid (ext_grown HE4.out G2.out.1 (fun i hi => (H1.out.lt i hi).1))
       have hsz6 : w.heap.size ≤ w6.heap.size := HE6.out.size
       clear hv6)
    | (with_reducible refine onOp 47 ?_
       go_loud (refine wpList_append_read elem_str strC_size ones_strC G1 hsz6 (x2 := .slice (if c = n then ao else ao.map fun x => x.add n) 0 (c - n)) (hid (HDR _ _ _)) hlen3 rfl (.tmp 43) (.tmp 46) rfl rfl rfl ?_)
       intro v7 w7 H3 H4))
   all_goals
    go_ret
    obtain ⟨a7, c7, e7, hc7, -⟩ := H3.out.cells strC_size
    subst e7
    refine ⟨_, _, _, rfl, hid ⟨?_, hc7⟩, hid (.inr fun g h => (H3.out.lt g h).1), ext_grown HE6.out H4.out (fun i hi => (G1.out.lt i hi).1)⟩
    have h := OwnR.read H3.out strC_size
    rw [HL.out] at h ⊢
    exact h
end Go.Proofs.YtngpjagpeblbjaaGreatDoor
namespace Go.Proofs.YtngpjagpeblbjaaGreatDoor
open Go.RowKit Go.Spy Go.Heaped Go.Tour Go.Rx
theorem own_nat {w : World} {base : Nat} {v : Value} {gs : List Nat} (h : OwnR w base 3 1 natA v gs) : OwnR w base 3 1 intZ v (gs.map Int.ofNat) := by
 unfold OwnR at h ⊢
 rw [List.length_map, List.flatMap_map]
 exact h
theorem goesL_next (l : List Nd) (set : List Int) (x : ByteArray) (q : Nat) : goesL l set x (q + 1) = goesL l set x q ++ if symQ l x q && set.any (goP1 l q) then [q] else [] := by
 unfold goesL
 rw [List.range_succ, List.filter_append]
 congr 1
 simp only [List.filter_cons, List.filter_nil]
theorem any_next {α : Type} {l : List α} {i : Nat} {x : α} (f : α → Bool) (h : l[i]? = some x) : (l.take (i + 1)).any f = ((l.take i).any f || f x) := by
 rw [List.take_add_one, h, List.any_append]
 simp
set_option maxRecDepth 100000 in
set_option maxHeartbeats 4000000 in
theorem rgoes_any {w : World} {l : List Nd} (F : Rx.Form l) {ao : Option Addr} {cap : Nat} (hV : NodesV w ao l) (hl : l.length ≤ 64) {vs : Value} {set : List Int} (hs : ReadR w 1 intZ vs set) (hsl : set.length ≤ 1000) (x : ByteArray) :
 Calls Tryz.prog 92 #[.slice ao l.length cap, vs, .string x] w fun e w' => ∃ v, e = .returned v ∧ OwnR w' w.heap.size 3 1 intZ v ((goesL l set x l.length).map Int.ofNat) ∧ Ext w w' := by
 have h0 : 0 < l.length := List.length_pos_iff.2 F.ne
 obtain ⟨b, off, rfl, hb, hc⟩ := hV.cells h0
 obtain ⟨a2, c2, rfl, hg2⟩ := hs.form
 obtain ⟨m, hm⟩ : ∃ n, n = set.length := ⟨_, rfl⟩
 obtain ⟨r, hr⟩ : ∃ r, l.length = r + 1 := ⟨l.length - 1, by omega⟩
 have HST : Hid (∀ (W : World) (q : Nat), Ext w W → Calls Tryz.prog 119 #[.slice (some ⟨b, off, none⟩) (r + 1) cap, .int .i64 r, .int .i64 q] W fun e w' => NullPost (startsT (rootT l) q) W e w') := hid fun W q e => by
  have h := starts_any F q r W _ cap (hV.ext e) (by omega)
  rw [hr] at h
  unfold rootT
  rw [hr]
  exact h
 have HPT : Hid (∀ (W : World) (p q : Nat), Ext w W → Calls Tryz.prog 120 #[.slice (some ⟨b, off, none⟩) (r + 1) cap, .int .i64 r, .int .i64 p, .int .i64 q] W fun e w' => NullPost (pairsT (rootT l) p q) W e w') := hid fun W p q e => by
  have h := pairs_at F p q r W _ cap (hV.ext e) (by omega)
  rw [hr] at h
  unfold rootT
  rw [hr]
  exact h
 have HC := hid hc
 have HG2 := hid hg2
 have HS := hid hs
 have HM := hid hm
 have HR := hid hr
 rw [← hm] at hsl HG2 HS ⊢
 rw [hr] at hl h0 ⊢
 clear hV hc hs hg2 hm hr
 go_enter Tryz.func92, Tryz.ntmps92
 go_wp2_with fail
 go_loopg [8, 9] (r + 1) (fun g v u wr => ∃ q, g = r + 1 - q ∧ q ≤ r + 1 ∧ u = .int .i64 q ∧ Hid (Ext w wr ∧ OwnR wr w.heap.size 3 1 natA v (goesL l set x q)))
 case atStart => exact ⟨0, rfl, Nat.zero_le _, rfl, hid ⟨Below.refl _ _, OwnR.nil _ _ _ _ _⟩⟩
 case round =>
  obtain ⟨q, rfl, hq, rfl, HO⟩ := hrel
  obtain ⟨vO, hvO⟩ : ∃ v, v = u8 := ⟨_, rfl⟩
  subst hvO
  obtain ⟨wo, hwo⟩ : ∃ y, y = wr := ⟨_, rfl⟩
  subst hwo
  have hlen : (goesL l set x q).length + 1 ≤ 1000000000 := by
   have := List.length_filter_le (fun q => symQ l x q && set.any (goP1 l q)) (List.range q)
   rw [List.length_range] at this
   unfold goesL
   omega
  by_cases hlt : q < r + 1
  ·obtain ⟨n, hn⟩ : ∃ n, l[q]? = some n := ⟨_, List.getElem?_eq_getElem (by rw [HR.out]; exact hlt)⟩
   obtain ⟨d0, d1, -, -⟩ := HC.out q n hn
   have e0 : wo.cell? ⟨b, off + q * 4, none⟩ = some (.int .i64 n.op) := (HO.out.1.cell (p := ⟨b, off + q * 4, none⟩) hb).trans d0
   have e1 : wo.cell? ⟨b, off + q * 4 + 1, none⟩ = some (.string n.sym) := (HO.out.1.cell (p := ⟨b, off + q * 4 + 1, none⟩) hb).trans d1
   have HN := hid hn
   have i1 : (q : Int) < ((r + 1 : Nat) : Int) := by omega
   have q1 : decide ((q : Int) < (r : Int) + 1) = true := decide_eq_true (by omega)
   have i2 : (0 : Int) ≤ (q : Int) := by omega
   clear hn d0 d1
   by_cases ho : n.op = 2
   ·have t0 : (n.op != 2) = false := by simp [ho]
    by_cases hx : n.sym = x
    ·have t1 : (n.sym.toList == x.toList) = true := beqB_true hx
     have HQ : Hid (symQ l x q = true) := hid (by unfold symQ; rw [HN.out]; simp [ho, hx])
     clear ho hx
     go_wp2_with fail
     go_loopg [10, 11] m (fun g v u wr => ∃ (i : Nat) (bv : Bool), g = m - i ∧ i ≤ m ∧ u = .int .i64 i ∧ v = .bool bv ∧ Hid (bv = (set.take i).any (goP1 l q)) ∧ Hid (Ext wo wr))
     case atStart => exact ⟨0, false, rfl, Nat.zero_le _, rfl, rfl, hid rfl, hid (Below.refl _ _)⟩
     case round =>
      obtain ⟨i, bv, rfl, hi, rfl, rfl, HB, HE⟩ := hrel
      clear e0 e1
      by_cases hlt2 : i < m
      ·obtain ⟨g2, o2, rfl⟩ := HG2.out (by omega)
       obtain ⟨p, hp⟩ : ∃ p, set[i]? = some p := ⟨_, List.getElem?_eq_getElem (by rw [← HM.out]; exact hlt2)⟩
       have hEw : Ext w wr := HO.out.1.trans (HE.out.mono HO.out.1.size)
       have c5 : wr.cell? ⟨g2, o2 + i, none⟩ = some (.int .i64 p) := (HS.out.ext hEw).cell1 hp
       have HNX := hid (any_next (goP1 l q) hp)
       have HEW := hid hEw
       have i3 : (i : Int) < (m : Int) := by omega
       have i4 : (0 : Int) ≤ (i : Int) := by omega
       clear hp hEw
       cases bv with
       | true =>
         by_cases h0p : p < 0
         all_goals
          go_wp2_with fail
          go_roundg (m - (i + 1))
          case measure => omega
          case rel =>
           exact ⟨i + 1, true, rfl, by omega, by go_num, rfl, hid (by rw [HNX.out, ← HB.out]; rfl), HE⟩
       | false =>
         by_cases h0p : p < 0
         ·have HG1 : Hid (goP1 l q p = startsT (rootT l) q) := hid (if_pos h0p)
          go_wp2_with fail
          refine (HST.out _ q HEW.out).mono ?_
          rintro e w2 ⟨rfl, hx⟩
          have HX2 := hid (HE.out.trans (hx.mono HE.out.size))
          clear hx
          go_wp2_with fail
          go_roundg (m - (i + 1))
          case measure => omega
          case rel =>
           exact ⟨i + 1, startsT (rootT l) q, rfl, by omega, by go_num, rfl, hid (by rw [HNX.out, ← HB.out, HG1.out]; rfl), HX2⟩
         ·obtain ⟨t, rfl⟩ : ∃ t : Nat, p = t := ⟨p.toNat, by omega⟩
          have HG1 : Hid (goP1 l q t = pairsT (rootT l) t q) := hid (if_neg h0p)
          go_wp2_with fail
          refine (HPT.out _ t q HEW.out).mono ?_
          rintro e w2 ⟨rfl, hx⟩
          have HX2 := hid (HE.out.trans (hx.mono HE.out.size))
          clear hx
          go_wp2_with fail
          go_roundg (m - (i + 1))
          case measure => omega
          case rel =>
           exact ⟨i + 1, pairsT (rootT l) t q, rfl, by omega, by go_num, rfl, hid (by rw [HNX.out, ← HB.out, HG1.out]; rfl), HX2⟩
      ·obtain rfl : m = i := by omega
       have HBB : Hid (bv = set.any (goP1 l q)) := hid (by rw [HB.out, HM.out, List.take_length])
       have HOW := hid (HO.out.2.ext HE.out)
       have HEW := hid (HO.out.1.trans (HE.out.mono HO.out.1.size))
       have hsz : w.heap.size ≤ wr.heap.size := HEW.out.size
       cases bv with
       | true =>
         go_wp2_with (with_reducible refine onOp 69 ?_
                      go_loud (refine wpList_append_R elem_int (fun _ => rfl) ones_int HOW hsz hlen q _ rfl wr.heap.size rfl rfl _ _ rfl rfl rfl ?_)
                      rintro g6 c6 v6 w6 rfl G1 G2)
         go_roundg (r + 1 - (q + 1))
         case measure => omega
         case rel =>
          refine ⟨q + 1, rfl, by omega, by go_num, hid ⟨ext_grown HEW.out G2.out.1 (fun i hi => (HOW.out.lt i hi).1), ?_⟩⟩
          rw [goesL_next, HQ.out, ← HBB.out]
          exact G1.out
       | false =>
         go_wp2_with fail
         go_roundg (r + 1 - (q + 1))
         case measure => omega
         case rel =>
          refine ⟨q + 1, rfl, by omega, by go_num, hid ⟨HEW.out, ?_⟩⟩
          rw [goesL_next, HQ.out, ← HBB.out]
          simpa using HOW.out
    ·have t1 : (n.sym.toList == x.toList) = false := beqB_false hx
     have HQ : Hid (symQ l x q = false) := hid (by unfold symQ; rw [HN.out]; simp [hx])
     clear ho hx
     go_wp2_with fail
     go_roundg (r + 1 - (q + 1))
     case measure => omega
     case rel =>
      refine ⟨q + 1, rfl, by omega, by go_num, hid ⟨HO.out.1, ?_⟩⟩
      rw [goesL_next, HQ.out]
      simpa using HO.out.2
   ·have t0 : (n.op != 2) = true := by simp [ho]
    have HQ : Hid (symQ l x q = false) := hid (by unfold symQ; rw [HN.out]; simp [ho])
    clear ho
    go_wp2_with fail
    go_roundg (r + 1 - (q + 1))
    case measure => omega
    case rel =>
     refine ⟨q + 1, rfl, by omega, by go_num, hid ⟨HO.out.1, ?_⟩⟩
     rw [goesL_next, HQ.out]
     simpa using HO.out.2
  ·obtain rfl : r + 1 = q := by omega
   go_wp2_with fail
   go_ret
   exact ⟨_, rfl, own_nat HO.out.2, HO.out.1⟩
set_option maxRecDepth 100000 in
set_option maxHeartbeats 4000000 in
theorem rfinal_any {w : World} {l : List Nd} (F : Rx.Form l) {ao : Option Addr} {cap : Nat} (hV : NodesV w ao l) (hl : l.length ≤ 64) {vs : Value} {set : List Int} (hs : ReadR w 1 intZ vs set) (hsl : set.length ≤ 1000) :
 Calls Tryz.prog 93 #[.slice ao l.length cap, vs] w fun e w' => e = .returned (.bool (finL l set)) ∧ Ext w w' := by
 have h0 : 0 < l.length := List.length_pos_iff.2 F.ne
 obtain ⟨b, off, rfl, hb, hc⟩ := hV.cells h0
 obtain ⟨a2, c2, rfl, hg2⟩ := hs.form
 obtain ⟨m, hm⟩ : ∃ n, n = set.length := ⟨_, rfl⟩
 obtain ⟨r, hr⟩ : ∃ r, l.length = r + 1 := ⟨l.length - 1, by omega⟩
 have HNT : Hid (∀ (W : World), Ext w W → Calls Tryz.prog 121 #[.slice (some ⟨b, off, none⟩) (r + 1) cap, .int .i64 r] W fun e w' => NullPost (nullT (rootT l)) W e w') := hid fun W e => by
  have h := null_any F r W _ cap (hV.ext e) (by omega)
  rw [hr] at h
  unfold rootT
  rw [hr]
  exact h
 have HET : Hid (∀ (W : World) (p : Nat), Ext w W → Calls Tryz.prog 122 #[.slice (some ⟨b, off, none⟩) (r + 1) cap, .int .i64 r, .int .i64 p] W fun e w' => NullPost (endsT (rootT l) p) W e w') := hid fun W p e => by
  have h := ends_at F p r W _ cap (hV.ext e) (by omega)
  rw [hr] at h
  unfold rootT
  rw [hr]
  exact h
 have HG2 := hid hg2
 have HS := hid hs
 have HM := hid hm
 rw [← hm] at hsl HG2 HS ⊢
 rw [hr] at hl h0 ⊢
 clear hV hc hs hg2 hm hr
 go_enter Tryz.func93, Tryz.ntmps93
 go_wp2_with fail
 go_loopg [6] m (fun g u wr => ∃ i, g = m - i ∧ i ≤ m ∧ u = .int .i64 i ∧ Hid (Ext w wr) ∧ Hid ((set.take i).any (finP1 l) = false))
 case atStart => exact ⟨0, rfl, Nat.zero_le _, rfl, hid (Below.refl _ _), hid rfl⟩
 case round =>
  obtain ⟨i, rfl, hi, rfl, HE, HA⟩ := hrel
  by_cases hlt : i < m
  ·obtain ⟨g2, o2, rfl⟩ := HG2.out (by omega)
   obtain ⟨p, hp⟩ : ∃ p, set[i]? = some p := ⟨_, List.getElem?_eq_getElem (by rw [← HM.out]; exact hlt)⟩
   have c5 : wr.cell? ⟨g2, o2 + i, none⟩ = some (.int .i64 p) := (HS.out.ext HE.out).cell1 hp
   have HNX := hid (any_next (finP1 l) hp)
   have HAL : Hid (finP1 l p = true → finL l set = true) := hid fun h => List.any_eq_true.2 ⟨p, List.mem_of_getElem? hp, h⟩
   have i3 : (i : Int) < (m : Int) := by omega
   have i4 : (0 : Int) ≤ (i : Int) := by omega
   clear hp
   by_cases h0p : p < 0
   ·have t0 : decide (p < 0) = true := decide_eq_true h0p
    have HG1 : Hid (finP1 l p = nullT (rootT l)) := hid (if_pos h0p)
    have t1 : decide ((0 : Int) ≤ p) = false := decide_eq_false (by omega)
    go_wp2_with fail
    refine (HNT.out _ HE.out).mono ?_
    rintro e w2 ⟨rfl, hx⟩
    have HX2 := hid (HE.out.trans (hx.mono HE.out.size))
    have c6 : w2.cell? ⟨g2, o2 + i, none⟩ = some (.int .i64 p) := by
     have h := hx.cell (p := ⟨g2, o2 + i, none⟩) (World.block_lt_of_cell? wr _ c5)
     rw [h]; exact c5
    clear hx c5
    cases hv : nullT (rootT l) with
    | true =>
      have HV := hid hv
      clear hv
      go_wp2_with fail
      go_ret
      exact ⟨ret_bool (HAL.out (by rw [HG1.out, HV.out])).symm, HX2.out⟩
    | false =>
      have HV := hid hv
      clear hv
      go_wp2_with fail
      go_roundg (m - (i + 1))
      case measure => omega
      case rel => exact ⟨i + 1, rfl, by omega, by go_num, HX2, hid (by rw [HNX.out, HA.out, HG1.out, HV.out]; rfl)⟩
   ·obtain ⟨t, rfl⟩ : ∃ t : Nat, p = t := ⟨p.toNat, by omega⟩
    have t0 : decide ((t : Int) < 0) = false := decide_eq_false h0p
    have HG1 : Hid (finP1 l t = endsT (rootT l) t) := hid (if_neg h0p)
    have t1 : decide ((0 : Int) ≤ (t : Int)) = true := decide_eq_true (by omega)
    go_wp2_with fail
    refine (HET.out _ t HE.out).mono ?_
    rintro e w2 ⟨rfl, hx⟩
    have HX2 := hid (HE.out.trans (hx.mono HE.out.size))
    clear hx
    cases hv : endsT (rootT l) t with
    | true =>
      have HV := hid hv
      clear hv
      go_wp2_with fail
      go_ret
      exact ⟨ret_bool (HAL.out (by rw [HG1.out, HV.out])).symm, HX2.out⟩
    | false =>
      have HV := hid hv
      clear hv
      go_wp2_with fail
      go_roundg (m - (i + 1))
      case measure => omega
      case rel => exact ⟨i + 1, rfl, by omega, by go_num, HX2, hid (by rw [HNX.out, HA.out, HG1.out, HV.out]; rfl)⟩
  ·obtain rfl : m = i := by omega
   have HF : Hid (finL l set = false) := hid (by
    have h := HA.out
    rw [HM.out, List.take_length] at h
    exact h)
   go_wp2_with fail
   go_ret
   exact ⟨ret_bool HF.out.symm, HE.out⟩
end Go.Proofs.YtngpjagpeblbjaaGreatDoor
