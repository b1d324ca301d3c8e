/-
  Walk of the closure of plan: what is known of a node.
  Walk of the closure of plan, at a Star and at all.
-/
import Derived.Test.YtngpjagpeblbjaaGreatDoorP06
import Derived.Test.YtngpjagpeblbjaaGreatDoorP02
import Derived.Deep.CutBlock
namespace Go.Proofs.YtngpjagpeblbjaaGreatDoor
open Go.RowKit Go.Spy Go.Rx
theorem aboveV_leaf {l : List Nd} {i : Nat} {n : Nd} (hn : l[i]? = some n) (hk : kids n = []) : aboveV l (i + 1) = aboveV l i := by
 unfold aboveV
 congr 1
 refine List.map_congr_left fun j _ => ?_
 rw [up, kidsAt_of hn, hk]; simp
theorem aboveV_one {l : List Nd} {i x : Nat} {n : Nd} (hn : l[i]? = some n) (hk : kids n = [x]) (hx : x < l.length) : (aboveV l i).setIfInBounds x (.int .i64 i) = aboveV l (i + 1) := by
 apply Array.ext_getElem?
 intro j
 by_cases hj : j < l.length
 ·rw [aboveV_get hj, up, kidsAt_of hn, hk]
  by_cases e : x = j
  ·subst e; rw [Array.getElem?_setIfInBounds_self, if_pos (by rw [aboveV_size]; exact hx)]; simp
  ·rw [Array.getElem?_setIfInBounds_ne e, aboveV_get hj]; simp [Ne.symm e]
 ·rw [Array.getElem?_eq_none (by simp [aboveV_size]; omega), Array.getElem?_eq_none (by rw [aboveV_size]; omega)]
theorem aboveV_two {l : List Nd} {i x y : Nat} {n : Nd} (hn : l[i]? = some n) (hk : kids n = [x, y]) (hx : x < l.length) (hy : y < l.length) : ((aboveV l i).setIfInBounds x (.int .i64 i)).setIfInBounds y (.int .i64 i) = aboveV l (i + 1) := by
 apply Array.ext_getElem?
 intro j
 by_cases hj : j < l.length
 ·rw [aboveV_get hj, up, kidsAt_of hn, hk]
  by_cases e : y = j
  ·subst e; rw [Array.getElem?_setIfInBounds_self, if_pos (by simp [aboveV_size]; exact hy)]; simp
  ·rw [Array.getElem?_setIfInBounds_ne e]
   by_cases e2 : x = j
   ·subst e2; rw [Array.getElem?_setIfInBounds_self, if_pos (by rw [aboveV_size]; exact hx)]; simp
   ·rw [Array.getElem?_setIfInBounds_ne e2, aboveV_get hj]; simp [Ne.symm e, Ne.symm e2]
 ·rw [Array.getElem?_eq_none (by simp [aboveV_size]; omega), Array.getElem?_eq_none (by rw [aboveV_size]; omega)]
structure TellW (w : World) (l : List Nd) (ao : Option Addr) (cap bR bP bF bA : Nat) (fs : List Fact) (i : Nat) : Prop where
 nodes : NodesV w ao l
 rbox : Blk w bR 45 #[.slice ao l.length cap]
 pbox : Blk w bP 126 (planC ao l.length cap bF bA)
 facts : Blk w bF 131 (rowV factV fs)
 above : Blk w bA 3 (aboveV l i)
 len : fs.length = l.length
 known : ∀ j, j < i → fs[j]? = some (factT (tr l j))
def TellPost (l : List Nd) (bA i : Nat) (w : World) (e : Ending) (w' : World) : Prop := ∃ C, e = .returned (.agg C) ∧ C = factV (factT (tr l i)) ∧ Blk w' bA 3 (aboveV l (i + 1)) ∧ Chg (· = bA) w w'
theorem built_empty : Tryz.prog.built 131 [(1, .bool true)] = some (factV ⟨false, true, 0, 0⟩) := by kernel_rfl
theorem built_star (m n : Nat) : Tryz.prog.built 131 [(1, .bool true), (2, .agg (setV m)), (3, .agg (setV n))] = some (factV ⟨false, true, m, n⟩) := by kernel_rfl
set_option maxRecDepth 100000 in
set_option maxHeartbeats 1000000 in
theorem tell_none {w : World} {l : List Nd} {ao : Option Addr} {cap bR bP bF bA : Nat} {fs : List Fact} {i : Nat} (H : TellW w l ao cap bR bP bF bA fs i) {n : Nd} (hn : l[i]? = some n) (ho : n.op = 0) :
 Calls Tryz.prog 114 #[.int .i64 i, .pointer (some ⟨bR, 0, none⟩), .pointer (some ⟨bP, 0, none⟩)] w (TellPost l bA i w) := by
 have hi := lt_of_some hn
 have hlen := H.nodes.len
 obtain ⟨b, off, rfl, hb, hc⟩ := H.nodes.cells (by omega)
 obtain ⟨q0, q1, q2, q3⟩ := hc i n hn
 rw [ho] at q0
 have r0 := H.rbox.cell (i := 0) rfl
 have hb1 : b < w.heap.size + 1 := by omega
 have hbR := H.rbox.lt
 have hbR1 : bR < w.heap.size + 1 := by omega
 have HT := hid (tr_none hn ho)
 have HK := hid (aboveV_leaf hn (kids_leaf (.inl ho)))
 have HH := hid H
 clear H hc hn ho
 go_enter Tryz.func114, Tryz.ntmps114
 go_wp2_with (first
  | (with_reducible refine wpList_alloc_aggD rfl 131 rfl 4 rfl _ zero_fact ?_; intro Z HZ; have sZ : Z.size = 34 := by rw [HZ.out, factV_size])
  | (refine wpList_build_agg rfl 131 #[(0, .const (.bool true))] rfl [(0, .bool true)] ?_ (factV ⟨true, false, 0, 0⟩) ?_ ?_
     ·rfl
     ·exact built_void
     intro C HC)
  | (with_reducible refine wpList_store_agg rfl 131 (.tmp 4) (.tmp 103) rfl _ 0 C rfl rfl 131 Z ((Blk.new w _ Z).alloc _) (by rw [HC.out, factV_size]; exact info_fact) (by rw [HC.out, factV_size]; omega) (by rw [HC.out]; exact ones_factV _) ?_; intro w3 H3 hs3))
 obtain ⟨h3, c3⟩ := H3.out
 rw [splice_all (by rw [HC.out, factV_size]; exact sZ)] at h3
 have hA := HH.out.above.lt
 refine bodyPost_ret (v := .agg C) (results_cell_agg Tryz.results114 _ w3 _ _ C _ rfl h3 Tryz.underlying131 rfl (by rw [HC.out, factV_size]; exact info_fact)) rfl ⟨C, rfl, by rw [HC.out, HT.out]; rfl, ?_, ((((Chg.refl (· = w.heap.size) w).alloc _).alloc _).trans c3).mono (fun k hk e => by omega)⟩
 rw [HK.out]
 exact ((HH.out.above.alloc _).alloc _).chg c3 (by show ¬ _ = _; omega)
set_option maxRecDepth 100000 in
set_option maxHeartbeats 1000000 in
theorem tell_empty {w : World} {l : List Nd} {ao : Option Addr} {cap bR bP bF bA : Nat} {fs : List Fact} {i : Nat} (H : TellW w l ao cap bR bP bF bA fs i) {n : Nd} (hn : l[i]? = some n) (ho : n.op = 1) :
 Calls Tryz.prog 114 #[.int .i64 i, .pointer (some ⟨bR, 0, none⟩), .pointer (some ⟨bP, 0, none⟩)] w (TellPost l bA i w) := by
 have hi := lt_of_some hn
 have hlen := H.nodes.len
 obtain ⟨b, off, rfl, hb, hc⟩ := H.nodes.cells (by omega)
 obtain ⟨q0, q1, q2, q3⟩ := hc i n hn
 rw [ho] at q0
 have r0 := H.rbox.cell (i := 0) rfl
 have hb1 : b < w.heap.size + 1 := by omega
 have hbR := H.rbox.lt
 have hbR1 : bR < w.heap.size + 1 := by omega
 have HT := hid (tr_empty hn ho)
 have HK := hid (aboveV_leaf hn (kids_leaf (.inr <| .inl ho)))
 have HH := hid H
 clear H hc hn ho
 go_enter Tryz.func114, Tryz.ntmps114
 go_wp2_with (first
  | (with_reducible refine wpList_alloc_aggD rfl 131 rfl 4 rfl _ zero_fact ?_; intro Z HZ; have sZ : Z.size = 34 := by rw [HZ.out, factV_size])
  | (refine wpList_build_agg rfl 131 #[(1, .const (.bool true))] rfl [(1, .bool true)] ?_ (factV ⟨false, true, 0, 0⟩) ?_ ?_
     ·rfl
     ·exact built_empty
     intro C HC)
  | (with_reducible refine wpList_store_agg rfl 131 (.tmp 4) (.tmp 16) rfl _ 0 C rfl rfl 131 Z ((Blk.new w _ Z).alloc _) (by rw [HC.out, factV_size]; exact info_fact) (by rw [HC.out, factV_size]; omega) (by rw [HC.out]; exact ones_factV _) ?_; intro w3 H3 hs3))
 obtain ⟨h3, c3⟩ := H3.out
 rw [splice_all (by rw [HC.out, factV_size]; exact sZ)] at h3
 have hA := HH.out.above.lt
 refine bodyPost_ret (v := .agg C) (results_cell_agg Tryz.results114 _ w3 _ _ C _ rfl h3 Tryz.underlying131 rfl (by rw [HC.out, factV_size]; exact info_fact)) rfl ⟨C, rfl, by rw [HC.out, HT.out]; rfl, ?_, ((((Chg.refl (· = w.heap.size) w).alloc _).alloc _).trans c3).mono (fun k hk e => by omega)⟩
 rw [HK.out]
 exact ((HH.out.above.alloc _).alloc _).chg c3 (by show ¬ _ = _; omega)
set_option maxRecDepth 100000 in
set_option maxHeartbeats 1000000 in
theorem tell_sym {w : World} {l : List Nd} {ao : Option Addr} {cap bR bP bF bA : Nat} {fs : List Fact} {i : Nat} (H : TellW w l ao cap bR bP bF bA fs i) {n : Nd} (hn : l[i]? = some n) (ho : n.op = 2) (hl : l.length ≤ 64) :
 Calls Tryz.prog 114 #[.int .i64 i, .pointer (some ⟨bR, 0, none⟩), .pointer (some ⟨bP, 0, none⟩)] w (TellPost l bA i w) := by
 have hi := lt_of_some hn
 have hlen := H.nodes.len
 obtain ⟨b, off, rfl, hb, hc⟩ := H.nodes.cells (by omega)
 obtain ⟨q0, q1, q2, q3⟩ := hc i n hn
 rw [ho] at q0
 have r0 := H.rbox.cell (i := 0) rfl
 have hb1 : b < w.heap.size + 1 := by omega
 have hbR := H.rbox.lt
 have hbR1 : bR < w.heap.size + 1 := by omega
 have HT := hid (tr_sym hn ho)
 have HK := hid (aboveV_leaf hn (kids_leaf (.inr (.inr ho))))
 have HH := hid H
 have hi64 : i < 64 := by omega
 clear H hc hn ho
 go_enter Tryz.func114, Tryz.ntmps114
 go_wp2_with (first
  | (with_reducible refine wpList_alloc_aggD rfl 131 rfl 4 rfl _ zero_fact ?_; intro Z HZ; have sZ : Z.size = 34 := by rw [HZ.out, factV_size])
  | (with_reducible refine wpList_alloc_aggD rfl 131 rfl 6 rfl _ zero_fact ?_; intro Z6 HZ6))
 have HB6 : ∀ X : Array Value, Blk (((w.alloc (.cells Z 131)).alloc (.cells X 100)).alloc (.cells Z6 131)) (w.heap.size + 1 + 1) 131 Z6 := fun X => Blk.new' _ _ Z6 (by simp)
 refine (add_any (w.heap.size + 1 + 1) 2 0 i 131 Z6 _ (by omega) hi64 (HB6 _) (by rw [HZ6.out]; exact factV_first _ (i := 0) (by omega))).mono ?_
 rintro e w1 ⟨rfl, k1, k2⟩
 rw [HZ6.out, Nat.zero_or, factV_put_first] at k1
 have K1 := hid k1
 have K2 := hid k2
 clear k1 k2
 go_wp2_with fail
 refine (add_any (w.heap.size + 1 + 1) 18 0 i 131 _ _ (by omega) hi64 K1.out (factV_last _ (i := 0) (by omega))).mono ?_
 rintro e w2 ⟨rfl, k3, k4⟩
 rw [Nat.zero_or, factV_put_last] at k3
 obtain ⟨D, HD⟩ : ∃ D, Hid (D = factV ⟨false, false, 1 <<< i, 1 <<< i⟩) := ⟨_, rfl⟩
 have K3 : Hid (Blk w2 (w.heap.size + 1 + 1) 131 D) := hid (by rw [HD.out]; exact k3)
 have sD : D.size = 34 := by rw [HD.out, factV_size]
 have KC := hid (K2.out.trans k4)
 have KZ : Hid (Blk w2 w.heap.size 131 Z) := hid ((((Blk.new w _ Z).alloc _).alloc _).chg KC.out (by show ¬ _ = _; omega))
 clear k3 k4
 go_wp2_with (first
  | (with_reducible refine wpList_load_agg rfl 131 (.tmp 6) rfl _ 0 rfl 131 D _ 34 K3.out Tryz.underlying131 rfl info_fact (by omega) ?_; intro C HC; have sC : C.size = 34 := by (rw [HC.out, ext_all D 34 sD]; exact sD))
  | (with_reducible refine wpList_store_agg rfl 131 (.tmp 4) (.tmp 25) rfl _ 0 C rfl rfl 131 Z KZ.out (by rw [sC]; exact info_fact) (by omega) (by rw [HC.out, ext_all D 34 sD, HD.out]; exact ones_factV _) ?_; intro w3 H3 hs3))
 obtain ⟨h3, c3⟩ := H3.out
 rw [splice_all (by omega)] at h3
 have hA := HH.out.above.lt
 have CC : Chg (fun k => k = w.heap.size ∨ k = w.heap.size + 1 + 1) w w3 := ((((((Chg.refl _ w).alloc _).alloc _).alloc _).trans (KC.out.mono fun k _ e => .inr e)).trans (c3.mono fun k _ e => .inl e))
 refine bodyPost_ret (v := .agg C) (results_cell_agg Tryz.results114 _ w3 _ _ C _ rfl h3 Tryz.underlying131 rfl (by rw [sC]; exact info_fact)) rfl ⟨C, rfl, by rw [HC.out, ext_all D 34 sD, HD.out, HT.out]; rfl, ?_, CC.mono (fun k hk e => by omega)⟩
 rw [HK.out]
 exact HH.out.above.chg CC (by omega)
set_option maxRecDepth 100000 in
set_option maxHeartbeats 1000000 in
theorem tell_cat {w : World} {l : List Nd} {ao : Option Addr} {cap bR bP bF bA : Nat} {fs : List Fact} {i : Nat} (H : TellW w l ao cap bR bP bF bA fs i) {n : Nd} (hn : l[i]? = some n) (ho : n.op = 3) {x y : Nat} (ha : n.a = x) (hb' : n.b = y) (hx : x < i) (hy : y < i) (F : Rx.Form l) (hl : l.length ≤ 64) :
 Calls Tryz.prog 114 #[.int .i64 i, .pointer (some ⟨bR, 0, none⟩), .pointer (some ⟨bP, 0, none⟩)] w (TellPost l bA i w) := by
 have hi := lt_of_some hn
 have hlen := H.nodes.len
 obtain ⟨b, off, rfl, hb, hc⟩ := H.nodes.cells (by omega)
 obtain ⟨q0, q1, q2, q3⟩ := hc i n hn
 rw [ho] at q0
 have r0 := H.rbox.cell (i := 0) rfl
 have hb1 : b < w.heap.size + 1 := by omega
 have hbR := H.rbox.lt
 have hbR1 : bR < w.heap.size + 1 := by omega
 rw [ha] at q2
 rw [hb'] at q3
 have hxl : x < l.length := by omega
 have hyl : y < l.length := by omega
 have hkk := kids_cat (.inl ho) ha hb'
 have HT := hid (tr_cat hn ho ha hb' hx hy)
 have HK := hid (aboveV_two hn hkk hxl hyl)
 have hxy : x ≠ y := kids_apart F hn hkk
 have HXY := hid hxy
 have HH := hid H
 have hbA := H.above.lt
 have hbP := H.pbox.lt
 have hbF := H.facts.lt
 clear H hc hn ho ha hb' hkk
 go_enter Tryz.func114, Tryz.ntmps114
 go_wp2_with (first
  | (with_reducible refine wpList_alloc_aggD rfl 131 rfl 4 rfl _ zero_fact ?_; intro Z HZ; have sZ : Z.size = 34 := by rw [HZ.out, factV_size]))
 have m1 : ((w.alloc (.cells Z 131)).alloc (.cells #[.int .i64 3, .string n.sym, .int .i64 x, .int .i64 y] 100)).cell? ⟨bP, 1, none⟩ = some (.slice (some ⟨bF, 0, none⟩) l.length l.length) := ((HH.out.pbox.alloc _).alloc _).cell (i := 1) rfl
 have m2 : ((w.alloc (.cells Z 131)).alloc (.cells #[.int .i64 3, .string n.sym, .int .i64 x, .int .i64 y] 100)).cell? ⟨bP, 2, none⟩ = some (.slice (some ⟨bA, 0, none⟩) l.length l.length) := ((HH.out.pbox.alloc _).alloc _).cell (i := 2) rfl
 have n2 : ((w.alloc (.cells Z 131)).alloc (.cells #[.int .i64 3, .string n.sym, .int .i64 x, .int .i64 y] 100)).cell? ⟨w.heap.size + 1, 2, none⟩ = some (.int .i64 x) := (Blk.new' (w.alloc _) _ _ (by simp)).cell (i := 2) rfl
 have n3 : ((w.alloc (.cells Z 131)).alloc (.cells #[.int .i64 3, .string n.sym, .int .i64 x, .int .i64 y] 100)).cell? ⟨w.heap.size + 1, 3, none⟩ = some (.int .i64 y) := (Blk.new' (w.alloc _) _ _ (by simp)).cell (i := 3) rfl
 have HA : Hid (Blk ((w.alloc (.cells Z 131)).alloc (.cells #[.int .i64 3, .string n.sym, .int .i64 x, .int .i64 y] 100)) bA 3 (aboveV l i)) := hid ((HH.out.above.alloc _).alloc _)
 have HF : Hid (Blk ((w.alloc (.cells Z 131)).alloc (.cells #[.int .i64 3, .string n.sym, .int .i64 x, .int .i64 y] 100)) bF 131 (rowV factV fs)) := hid ((HH.out.facts.alloc _).alloc _)
 have HZ4 : Hid (Blk ((w.alloc (.cells Z 131)).alloc (.cells #[.int .i64 3, .string n.sym, .int .i64 x, .int .i64 y] 100)) w.heap.size 131 Z) := hid ((Blk.new w _ Z).alloc _)
 have HE : Hid (Ext w ((w.alloc (.cells Z 131)).alloc (.cells #[.int .i64 3, .string n.sym, .int .i64 x, .int .i64 y] 100))) := hid (((Below.refl _ w).alloc (Nat.le_refl _) _).alloc (by simp) _)
 have hszW : w.heap.size + 1 < ((w.alloc (.cells Z 131)).alloc (.cells #[.int .i64 3, .string n.sym, .int .i64 x, .int .i64 y] 100)).heap.size := by simp
 generalize ((w.alloc (.cells Z 131)).alloc (.cells #[.int .i64 3, .string n.sym, .int .i64 x, .int .i64 y] 100)) = W at *
 have ax := HA.out.cell (aboveV_get (k := i) hxl)
 have ay := HA.out.cell (aboveV_get (k := i) hyl)
 have fx := HA.out.frozen x
 have fy := HA.out.frozen y
 have hbAW : bA < W.heap.size := HA.out.lt
 have ne1 : bP ≠ bA := blk_ne HH.out.pbox HH.out.above (by decide)
 have ne2 : bA ≠ bP := ne1.symm
 have ne3 : w.heap.size + 1 ≠ bA := by omega
 have ne4 : bA ≠ w.heap.size + 1 := by omega
 have ne5 : y ≠ x := hxy.symm
 go_region
 have hcA : Chg (· = bA) W ((W.setCell ⟨bA, x, none⟩ (.int .i64 i)).setCell ⟨bA, y, none⟩ (.int .i64 i)).drew := Chg.drew (((Chg.refl (· = bA) W).setCell (p := ⟨bA, x, none⟩) rfl _).setCell (p := ⟨bA, y, none⟩) rfl _)
 have HA2 : Hid (Blk ((W.setCell ⟨bA, x, none⟩ (.int .i64 i)).setCell ⟨bA, y, none⟩ (.int .i64 i)).drew bA 3 (aboveV l (i + 1))) := hid (by rw [← HK.out]; exact ((HA.out.set x _).set y _).drew)
 have hFA : bF ≠ bA := blk_ne HF.out HA.out (by decide)
 have HF2 : Hid (Blk ((W.setCell ⟨bA, x, none⟩ (.int .i64 i)).setCell ⟨bA, y, none⟩ (.int .i64 i)).drew bF 131 (rowV factV fs)) := hid (HF.out.chg hcA hFA)
 have HZ2 : Hid (Blk ((W.setCell ⟨bA, x, none⟩ (.int .i64 i)).setCell ⟨bA, y, none⟩ (.int .i64 i)).drew w.heap.size 131 Z) := hid (HZ4.out.chg hcA (by show ¬ _ = _; omega))
 have o1 := (cell_of_chg (a := ⟨bP, 1, none⟩) hcA (by show bP < _; omega) ne1).trans m1
 have o2 := (cell_of_chg (a := ⟨w.heap.size + 1, 2, none⟩) hcA hszW ne3).trans n2
 have o3 := (cell_of_chg (a := ⟨w.heap.size + 1, 3, none⟩) hcA hszW ne3).trans n3
 have HCW : Hid (Chg (· = bA) w ((W.setCell ⟨bA, x, none⟩ (.int .i64 i)).setCell ⟨bA, y, none⟩ (.int .i64 i)).drew) := hid ((Chg.of_ext HE.out).trans hcA)
 generalize ((W.setCell ⟨bA, x, none⟩ (.int .i64 i)).setCell ⟨bA, y, none⟩ (.int .i64 i)).drew = W2 at *
 clear m1 m2 n2 n3 HA HF HZ4 HE hszW ax ay fx fy hbAW hcA
 obtain ⟨f1, f2⟩ := fact64 F hl hxl
 obtain ⟨g1, g2⟩ := fact64 F hl hyl
 have hlf := HH.out.len
 have szx : x * 34 + 34 ≤ (rowV factV fs).size := by rw [rowV_size factV_size, hlf]; have := Nat.mul_le_mul_right 34 hxl; omega
 have szy : y * 34 + 34 ≤ (rowV factV fs).size := by rw [rowV_size factV_size, hlf]; have := Nat.mul_le_mul_right 34 hyl; omega
 have HLF := hid hlf
 clear hlf
 go_wp2_with fail
 refine wp_region_pieces (by kernel_rfl) ?_
 refine wpAny_still 0 12 2 (mk 14 4095) (by kernel_rfl) rfl ?_
 simp only [List.take_succ_cons, List.take_zero, List.drop_zero]
 repeat (first
  | (with_reducible refine wpStill_load_agg rfl 131 (.tmp 44) rfl bF (x * 34) rfl 131 (rowV factV fs) _ 34 HF2.out.drew Tryz.underlying131 rfl info_fact szx ?_; intro C1 HC1)
  | (with_reducible refine wpStill_load_agg rfl 131 (.tmp 50) rfl bF (y * 34) rfl 131 (rowV factV fs) _ 34 HF2.out.drew Tryz.underlying131 rfl info_fact szy ?_; intro C2 HC2)
  | still_step)
 refine wpStill_nil ?_
 refine wpAny_forced 12 14 0 (mk 14 16383) (by kernel_rfl) rfl (by decide) ?_
 simp only [List.take_succ_cons, List.take_zero, List.drop_succ_cons, List.drop_zero]
 have e1 : C1 = factV (factT (tr l x)) := by rw [HC1.out]; exact rowV_extract factV_size (HH.out.known x hx)
 have e2 : C2 = factV (factT (tr l y)) := by rw [HC2.out]; exact rowV_extract factV_size (HH.out.known y hy)
 have E1 := hid e1
 have E2 := hid e2
 clear e1 e2
 go_wp2_with (first
  | (go_at_call 116; refine ((fun w A B hA hB => both_any A B (factT (tr l x)) (factT (tr l y)) w hA hB f1 f2 g1 g2) W2.drew C1 C2 E1.out E2.out).mono ?_; rintro e w3 ⟨C, rfl, hC, hx3⟩; have HC := hid hC; have HX3 := hid hx3; clear hC hx3; have sC : C.size = 34 := by rw [HC.out, factV_size])
  | (with_reducible refine wpList_store_agg rfl 131 (.tmp 4) (.tmp 52) rfl _ 0 C rfl rfl 131 Z (HZ2.out.drew.ext HX3.out) (by rw [sC]; exact info_fact) (by omega) (by rw [HC.out]; exact ones_factV _) ?_; intro w4 H4 hs4))
 refine wpAny_end (P := Tryz.prog) (by kernel_rfl) ?_
 go_wp2_with fail
 obtain ⟨h3, c3⟩ := H4.out
 rw [splice_all (by omega)] at h3
 have CC : Chg (fun k => k = w.heap.size ∨ k = bA) w w4 := (((HCW.out.mono fun k _ e => .inr e).drew.ext HX3.out).trans (c3.mono fun k _ e => .inl e))
 refine bodyPost_ret (v := .agg C) (results_cell_agg Tryz.results114 _ w4 _ _ C _ rfl h3 Tryz.underlying131 rfl (by rw [sC]; exact info_fact)) rfl ⟨C, rfl, by rw [HC.out, HT.out]; rfl, ?_, CC.mono (fun k hk e => by omega)⟩
 exact ((HA2.out.drew.ext HX3.out).chg c3 (by show ¬ _ = _; omega))
set_option maxRecDepth 100000 in
set_option maxHeartbeats 1000000 in
theorem tell_alt {w : World} {l : List Nd} {ao : Option Addr} {cap bR bP bF bA : Nat} {fs : List Fact} {i : Nat} (H : TellW w l ao cap bR bP bF bA fs i) {n : Nd} (hn : l[i]? = some n) (ho : n.op = 4) {x y : Nat} (ha : n.a = x) (hb' : n.b = y) (hx : x < i) (hy : y < i) (F : Rx.Form l) (hl : l.length ≤ 64) :
 Calls Tryz.prog 114 #[.int .i64 i, .pointer (some ⟨bR, 0, none⟩), .pointer (some ⟨bP, 0, none⟩)] w (TellPost l bA i w) := by
 have hi := lt_of_some hn
 have hlen := H.nodes.len
 obtain ⟨b, off, rfl, hb, hc⟩ := H.nodes.cells (by omega)
 obtain ⟨q0, q1, q2, q3⟩ := hc i n hn
 rw [ho] at q0
 have r0 := H.rbox.cell (i := 0) rfl
 have hb1 : b < w.heap.size + 1 := by omega
 have hbR := H.rbox.lt
 have hbR1 : bR < w.heap.size + 1 := by omega
 rw [ha] at q2
 rw [hb'] at q3
 have hxl : x < l.length := by omega
 have hyl : y < l.length := by omega
 have hkk := kids_cat (.inr ho) ha hb'
 have HT := hid (tr_alt hn ho ha hb' hx hy)
 have HK := hid (aboveV_two hn hkk hxl hyl)
 have hxy : x ≠ y := kids_apart F hn hkk
 have HXY := hid hxy
 have HH := hid H
 have hbA := H.above.lt
 have hbP := H.pbox.lt
 have hbF := H.facts.lt
 clear H hc hn ho ha hb' hkk
 go_enter Tryz.func114, Tryz.ntmps114
 go_wp2_with (first
  | (with_reducible refine wpList_alloc_aggD rfl 131 rfl 4 rfl _ zero_fact ?_; intro Z HZ; have sZ : Z.size = 34 := by rw [HZ.out, factV_size]))
 have m1 : ((w.alloc (.cells Z 131)).alloc (.cells #[.int .i64 4, .string n.sym, .int .i64 x, .int .i64 y] 100)).cell? ⟨bP, 1, none⟩ = some (.slice (some ⟨bF, 0, none⟩) l.length l.length) := ((HH.out.pbox.alloc _).alloc _).cell (i := 1) rfl
 have m2 : ((w.alloc (.cells Z 131)).alloc (.cells #[.int .i64 4, .string n.sym, .int .i64 x, .int .i64 y] 100)).cell? ⟨bP, 2, none⟩ = some (.slice (some ⟨bA, 0, none⟩) l.length l.length) := ((HH.out.pbox.alloc _).alloc _).cell (i := 2) rfl
 have n2 : ((w.alloc (.cells Z 131)).alloc (.cells #[.int .i64 4, .string n.sym, .int .i64 x, .int .i64 y] 100)).cell? ⟨w.heap.size + 1, 2, none⟩ = some (.int .i64 x) := (Blk.new' (w.alloc _) _ _ (by simp)).cell (i := 2) rfl
 have n3 : ((w.alloc (.cells Z 131)).alloc (.cells #[.int .i64 4, .string n.sym, .int .i64 x, .int .i64 y] 100)).cell? ⟨w.heap.size + 1, 3, none⟩ = some (.int .i64 y) := (Blk.new' (w.alloc _) _ _ (by simp)).cell (i := 3) rfl
 have HA : Hid (Blk ((w.alloc (.cells Z 131)).alloc (.cells #[.int .i64 4, .string n.sym, .int .i64 x, .int .i64 y] 100)) bA 3 (aboveV l i)) := hid ((HH.out.above.alloc _).alloc _)
 have HF : Hid (Blk ((w.alloc (.cells Z 131)).alloc (.cells #[.int .i64 4, .string n.sym, .int .i64 x, .int .i64 y] 100)) bF 131 (rowV factV fs)) := hid ((HH.out.facts.alloc _).alloc _)
 have HZ4 : Hid (Blk ((w.alloc (.cells Z 131)).alloc (.cells #[.int .i64 4, .string n.sym, .int .i64 x, .int .i64 y] 100)) w.heap.size 131 Z) := hid ((Blk.new w _ Z).alloc _)
 have HE : Hid (Ext w ((w.alloc (.cells Z 131)).alloc (.cells #[.int .i64 4, .string n.sym, .int .i64 x, .int .i64 y] 100))) := hid (((Below.refl _ w).alloc (Nat.le_refl _) _).alloc (by simp) _)
 have hszW : w.heap.size + 1 < ((w.alloc (.cells Z 131)).alloc (.cells #[.int .i64 4, .string n.sym, .int .i64 x, .int .i64 y] 100)).heap.size := by simp
 generalize ((w.alloc (.cells Z 131)).alloc (.cells #[.int .i64 4, .string n.sym, .int .i64 x, .int .i64 y] 100)) = W at *
 have ax := HA.out.cell (aboveV_get (k := i) hxl)
 have ay := HA.out.cell (aboveV_get (k := i) hyl)
 have fx := HA.out.frozen x
 have fy := HA.out.frozen y
 have hbAW : bA < W.heap.size := HA.out.lt
 have ne1 : bP ≠ bA := blk_ne HH.out.pbox HH.out.above (by decide)
 have ne2 : bA ≠ bP := ne1.symm
 have ne3 : w.heap.size + 1 ≠ bA := by omega
 have ne4 : bA ≠ w.heap.size + 1 := by omega
 have ne5 : y ≠ x := hxy.symm
 go_region
 have hcA : Chg (· = bA) W ((W.setCell ⟨bA, x, none⟩ (.int .i64 i)).setCell ⟨bA, y, none⟩ (.int .i64 i)).drew := Chg.drew (((Chg.refl (· = bA) W).setCell (p := ⟨bA, x, none⟩) rfl _).setCell (p := ⟨bA, y, none⟩) rfl _)
 have HA2 : Hid (Blk ((W.setCell ⟨bA, x, none⟩ (.int .i64 i)).setCell ⟨bA, y, none⟩ (.int .i64 i)).drew bA 3 (aboveV l (i + 1))) := hid (by rw [← HK.out]; exact ((HA.out.set x _).set y _).drew)
 have hFA : bF ≠ bA := blk_ne HF.out HA.out (by decide)
 have HF2 : Hid (Blk ((W.setCell ⟨bA, x, none⟩ (.int .i64 i)).setCell ⟨bA, y, none⟩ (.int .i64 i)).drew bF 131 (rowV factV fs)) := hid (HF.out.chg hcA hFA)
 have HZ2 : Hid (Blk ((W.setCell ⟨bA, x, none⟩ (.int .i64 i)).setCell ⟨bA, y, none⟩ (.int .i64 i)).drew w.heap.size 131 Z) := hid (HZ4.out.chg hcA (by show ¬ _ = _; omega))
 have o1 := (cell_of_chg (a := ⟨bP, 1, none⟩) hcA (by show bP < _; omega) ne1).trans m1
 have o2 := (cell_of_chg (a := ⟨w.heap.size + 1, 2, none⟩) hcA hszW ne3).trans n2
 have o3 := (cell_of_chg (a := ⟨w.heap.size + 1, 3, none⟩) hcA hszW ne3).trans n3
 have HCW : Hid (Chg (· = bA) w ((W.setCell ⟨bA, x, none⟩ (.int .i64 i)).setCell ⟨bA, y, none⟩ (.int .i64 i)).drew) := hid ((Chg.of_ext HE.out).trans hcA)
 generalize ((W.setCell ⟨bA, x, none⟩ (.int .i64 i)).setCell ⟨bA, y, none⟩ (.int .i64 i)).drew = W2 at *
 clear m1 m2 n2 n3 HA HF HZ4 HE hszW ax ay fx fy hbAW hcA
 obtain ⟨f1, f2⟩ := fact64 F hl hxl
 obtain ⟨g1, g2⟩ := fact64 F hl hyl
 have hlf := HH.out.len
 have szx : x * 34 + 34 ≤ (rowV factV fs).size := by rw [rowV_size factV_size, hlf]; have := Nat.mul_le_mul_right 34 hxl; omega
 have szy : y * 34 + 34 ≤ (rowV factV fs).size := by rw [rowV_size factV_size, hlf]; have := Nat.mul_le_mul_right 34 hyl; omega
 have HLF := hid hlf
 clear hlf
 go_wp2_with fail
 refine wp_region_pieces (by kernel_rfl) ?_
 refine wpAny_still 0 12 2 (mk 14 4095) (by kernel_rfl) rfl ?_
 simp only [List.take_succ_cons, List.take_zero, List.drop_zero]
 repeat (first
  | (with_reducible refine wpStill_load_agg rfl 131 (.tmp 71) rfl bF (x * 34) rfl 131 (rowV factV fs) _ 34 HF2.out.drew Tryz.underlying131 rfl info_fact szx ?_; intro C1 HC1)
  | (with_reducible refine wpStill_load_agg rfl 131 (.tmp 77) rfl bF (y * 34) rfl 131 (rowV factV fs) _ 34 HF2.out.drew Tryz.underlying131 rfl info_fact szy ?_; intro C2 HC2)
  | still_step)
 refine wpStill_nil ?_
 refine wpAny_forced 12 14 0 (mk 14 16383) (by kernel_rfl) rfl (by decide) ?_
 simp only [List.take_succ_cons, List.take_zero, List.drop_succ_cons, List.drop_zero]
 have e1 : C1 = factV (factT (tr l x)) := by rw [HC1.out]; exact rowV_extract factV_size (HH.out.known x hx)
 have e2 : C2 = factV (factT (tr l y)) := by rw [HC2.out]; exact rowV_extract factV_size (HH.out.known y hy)
 have E1 := hid e1
 have E2 := hid e2
 clear e1 e2
 go_wp2_with (first
  | (go_at_call 117; refine ((fun w A B hA hB => either_any A B _ _ _ _ _ _ _ _ w hA hB f1 f2 g1 g2) W2.drew C1 C2 E1.out E2.out).mono ?_; rintro e w3 ⟨C, rfl, hC, hx3⟩; have HC := hid hC; have HX3 := hid hx3; clear hC hx3; have sC : C.size = 34 := by rw [HC.out, factV_size])
  | (with_reducible refine wpList_store_agg rfl 131 (.tmp 4) (.tmp 79) rfl _ 0 C rfl rfl 131 Z (HZ2.out.drew.ext HX3.out) (by rw [sC]; exact info_fact) (by omega) (by rw [HC.out]; exact ones_factV _) ?_; intro w4 H4 hs4))
 refine wpAny_end (P := Tryz.prog) (by kernel_rfl) ?_
 go_wp2_with fail
 obtain ⟨h3, c3⟩ := H4.out
 rw [splice_all (by omega)] at h3
 have CC : Chg (fun k => k = w.heap.size ∨ k = bA) w w4 := (((HCW.out.mono fun k _ e => .inr e).drew.ext HX3.out).trans (c3.mono fun k _ e => .inl e))
 refine bodyPost_ret (v := .agg C) (results_cell_agg Tryz.results114 _ w4 _ _ C _ rfl h3 Tryz.underlying131 rfl (by rw [sC]; exact info_fact)) rfl ⟨C, rfl, by rw [HC.out, HT.out]; rfl, ?_, CC.mono (fun k hk e => by omega)⟩
 exact ((HA2.out.drew.ext HX3.out).chg c3 (by show ¬ _ = _; omega))
end Go.Proofs.YtngpjagpeblbjaaGreatDoor
namespace Go.Proofs.YtngpjagpeblbjaaGreatDoor
open Go.RowKit Go.Spy Go.Rx
set_option maxRecDepth 100000 in
set_option maxHeartbeats 1000000 in
theorem tell_star {w : World} {l : List Nd} {ao : Option Addr} {cap bR bP bF bA : Nat} {fs : List Fact} {i : Nat} (H : TellW w l ao cap bR bP bF bA fs i) {n : Nd} (hn : l[i]? = some n) (ho : n.op = 5) {x : Nat} (ha : n.a = x) (hx : x < i) (_F : Rx.Form l) :
 Calls Tryz.prog 114 #[.int .i64 i, .pointer (some ⟨bR, 0, none⟩), .pointer (some ⟨bP, 0, none⟩)] w (TellPost l bA i w) := by
 have hi := lt_of_some hn
 have hlen := H.nodes.len
 obtain ⟨b, off, rfl, hb, hc⟩ := H.nodes.cells (by omega)
 obtain ⟨q0, q1, q2, q3⟩ := hc i n hn
 rw [ho] at q0
 have r0 := H.rbox.cell (i := 0) rfl
 have hb1 : b < w.heap.size + 1 := by omega
 have hbR := H.rbox.lt
 have hbR1 : bR < w.heap.size + 1 := by omega
 rw [ha] at q2
 have hxl : x < l.length := by omega
 have hkk := kids_star ho ha
 have HT := hid (tr_star hn ho ha hx)
 have HK := hid (aboveV_one hn hkk hxl)
 have HH := hid H
 have hbA := H.above.lt
 have hbP := H.pbox.lt
 have hbF := H.facts.lt
 have ne1 : bP ≠ bA := blk_ne H.pbox H.above (by decide)
 have ne2 : bA ≠ bP := ne1.symm
 have ne3 : w.heap.size + 1 ≠ bA := by omega
 have ne4 : bA ≠ w.heap.size + 1 := by omega
 have hlf := H.len
 have szx : x * 34 + 34 ≤ (rowV factV fs).size := by rw [rowV_size factV_size, hlf]; have := Nat.mul_le_mul_right 34 hxl; omega
 have szx2 : x * 34 + 2 + 16 ≤ (rowV factV fs).size := by omega
 have szx3 : x * 34 + 18 + 16 ≤ (rowV factV fs).size := by omega
 clear hlf H hc hn ho ha hkk
 go_enter Tryz.func114, Tryz.ntmps114
 go_upto_region 17 with (first
  | (with_reducible refine wpList_alloc_aggD rfl 131 rfl 4 rfl _ zero_fact ?_; intro Z HZ; have sZ : Z.size = 34 := by rw [HZ.out, factV_size]))
 have m1 : ((w.alloc (.cells Z 131)).alloc (.cells #[.int .i64 5, .string n.sym, .int .i64 x, .int .i64 n.b] 100)).cell? ⟨bP, 1, none⟩ = some (.slice (some ⟨bF, 0, none⟩) l.length l.length) := ((HH.out.pbox.alloc _).alloc _).cell (i := 1) rfl
 have m2 : ((w.alloc (.cells Z 131)).alloc (.cells #[.int .i64 5, .string n.sym, .int .i64 x, .int .i64 n.b] 100)).cell? ⟨bP, 2, none⟩ = some (.slice (some ⟨bA, 0, none⟩) l.length l.length) := ((HH.out.pbox.alloc _).alloc _).cell (i := 2) rfl
 have n2 : ((w.alloc (.cells Z 131)).alloc (.cells #[.int .i64 5, .string n.sym, .int .i64 x, .int .i64 n.b] 100)).cell? ⟨w.heap.size + 1, 2, none⟩ = some (.int .i64 x) := (Blk.new' (w.alloc _) _ _ (by simp)).cell (i := 2) rfl
 have HA : Hid (Blk ((w.alloc (.cells Z 131)).alloc (.cells #[.int .i64 5, .string n.sym, .int .i64 x, .int .i64 n.b] 100)) bA 3 (aboveV l i)) := hid ((HH.out.above.alloc _).alloc _)
 have HF : Hid (Blk ((w.alloc (.cells Z 131)).alloc (.cells #[.int .i64 5, .string n.sym, .int .i64 x, .int .i64 n.b] 100)) bF 131 (rowV factV fs)) := hid ((HH.out.facts.alloc _).alloc _)
 have HZ4 : Hid (Blk ((w.alloc (.cells Z 131)).alloc (.cells #[.int .i64 5, .string n.sym, .int .i64 x, .int .i64 n.b] 100)) w.heap.size 131 Z) := hid ((Blk.new w _ Z).alloc _)
 have HE : Hid (Ext w ((w.alloc (.cells Z 131)).alloc (.cells #[.int .i64 5, .string n.sym, .int .i64 x, .int .i64 n.b] 100))) := hid (((Below.refl _ w).alloc (Nat.le_refl _) _).alloc (by simp) _)
 have hszW : w.heap.size + 1 < ((w.alloc (.cells Z 131)).alloc (.cells #[.int .i64 5, .string n.sym, .int .i64 x, .int .i64 n.b] 100)).heap.size := by simp
 generalize ((w.alloc (.cells Z 131)).alloc (.cells #[.int .i64 5, .string n.sym, .int .i64 x, .int .i64 n.b] 100)) = W at *
 have ax := HA.out.cell (aboveV_get (k := i) hxl)
 have fx := HA.out.frozen x
 have hbAW : bA < W.heap.size := HA.out.lt
 go_upto_region 18 with fail
 have hcA : Chg (· = bA) W (W.setCell ⟨bA, x, none⟩ (.int .i64 i)) := (Chg.refl (· = bA) W).setCell (p := ⟨bA, x, none⟩) rfl _
 have HA2 : Hid (Blk (W.setCell ⟨bA, x, none⟩ (.int .i64 i)) bA 3 (aboveV l (i + 1))) := hid (by rw [← HK.out]; exact (HA.out.set x _))
 have hFA : bF ≠ bA := blk_ne HF.out HA.out (by decide)
 have HF2 : Hid (Blk (W.setCell ⟨bA, x, none⟩ (.int .i64 i)) bF 131 (rowV factV fs)) := hid (HF.out.chg hcA hFA)
 have HZ2 : Hid (Blk (W.setCell ⟨bA, x, none⟩ (.int .i64 i)) w.heap.size 131 Z) := hid (HZ4.out.chg hcA (by show ¬ _ = _; omega))
 have o1 := (cell_of_chg (a := ⟨bP, 1, none⟩) hcA (by show bP < _; omega) ne1).trans m1
 have o2 := (cell_of_chg (a := ⟨w.heap.size + 1, 2, none⟩) hcA hszW ne3).trans n2
 have HCW : Hid (Chg (· = bA) w (W.setCell ⟨bA, x, none⟩ (.int .i64 i))) := hid ((Chg.of_ext HE.out).trans hcA)
 generalize (W.setCell ⟨bA, x, none⟩ (.int .i64 i)) = W2 at *
 clear m1 m2 n2 HA HF HZ4 HE hszW ax fx hbAW hcA hFA
 refine wp_region_pieces (by kernel_rfl) ?_
 refine wpAny_still 0 14 2 (mk 16 16383) (by kernel_rfl) rfl ?_
 simp only [List.take_succ_cons, List.take_zero, List.drop_zero]
 repeat (first
  | (with_reducible refine wpStill_load_agg rfl 129 (.tmp 93) rfl bF (x * 34 + 2) rfl 131 (rowV factV fs) _ 16 HF2.out.drew Tryz.underlying129 rfl info_set szx2 ?_; intro C1 HC1)
  | (with_reducible refine wpStill_load_agg rfl 129 (.tmp 100) rfl bF (x * 34 + 18) rfl 131 (rowV factV fs) _ 16 HF2.out.drew Tryz.underlying129 rfl info_set szx3 ?_; intro C2 HC2)
  | still_step)
 refine wpStill_nil ?_
 refine wpAny_forced 14 16 0 (mk 16 65535) (by kernel_rfl) rfl (by decide) ?_
 simp only [List.take_succ_cons, List.take_zero, List.drop_succ_cons, List.drop_zero]
 have hk := HH.out.known x hx
 have e1 : C1 = setV (factT (tr l x)).first := by rw [HC1.out, ← factV_ext_first (factT (tr l x)), ← rowV_extract factV_size hk]; simp
 have e2 : C2 = setV (factT (tr l x)).last := by rw [HC2.out, ← factV_ext_last (factT (tr l x)), ← rowV_extract factV_size hk]; simp
 have E1 := hid e1
 have E2 := hid e2
 clear e1 e2 hk
 go_wp2_with (first
  | (refine wpList_build_agg rfl 131 #[(1, .const (.bool true)), (2, .tmp 94), (3, .tmp 101)] rfl [(1, .bool true), (2, .agg C1), (3, .agg C2)] ?_ (factV ⟨false, true, (factT (tr l x)).first, (factT (tr l x)).last⟩) ?_ ?_
     ·rfl
     ·rw [E1.out, E2.out]; exact built_star _ _
     intro C HC; have sC : C.size = 34 := by rw [HC.out, factV_size])
  | (with_reducible refine wpList_store_agg rfl 131 (.tmp 4) (.tmp 102) rfl _ 0 C rfl rfl 131 Z HZ2.out.drew (by rw [sC]; exact info_fact) (by omega) (by rw [HC.out]; exact ones_factV _) ?_; intro w4 H4 hs4))
 refine wpAny_end (P := Tryz.prog) (by kernel_rfl) ?_
 go_wp2_with fail
 obtain ⟨h3, c3⟩ := H4.out
 rw [splice_all (by omega)] at h3
 have CC : Chg (fun k => k = w.heap.size ∨ k = bA) w w4 := ((HCW.out.mono fun k _ e => .inr e).drew).trans (c3.mono fun k _ e => .inl e)
 refine bodyPost_ret (v := .agg C) (results_cell_agg Tryz.results114 _ w4 _ _ C _ rfl h3 Tryz.underlying131 rfl (by rw [sC]; exact info_fact)) rfl ⟨C, rfl, by rw [HC.out, HT.out]; rfl, ?_, CC.mono (fun k hk e => by omega)⟩
 exact (HA2.out.drew).chg c3 (by show ¬ _ = _; omega)
theorem tell_any {w : World} {l : List Nd} {ao : Option Addr} {cap bR bP bF bA : Nat} {fs : List Fact} {i : Nat} (H : TellW w l ao cap bR bP bF bA fs i) (hi : i < l.length) (F : Rx.Form l) (hl : l.length ≤ 64) :
 Calls Tryz.prog 114 #[.int .i64 i, .pointer (some ⟨bR, 0, none⟩), .pointer (some ⟨bP, 0, none⟩)] w (TellPost l bA i w) := by
 have hn : l[i]? = some l[i] := List.getElem?_eq_getElem hi
 cases F.kind hn with
 | none ho => exact tell_none H hn ho
 | empty ho => exact tell_empty H hn ho
 | sym ho => exact tell_sym H hn ho hl
 | cat ho s x y ha hb hx hy => exact tell_cat H hn ho ha hb hx hy F hl
 | alt ho s x y ha hb hx hy => exact tell_alt H hn ho ha hb hx hy F hl
 | star ho s x ha hb hx => exact tell_star H hn ho ha hx F
end Go.Proofs.YtngpjagpeblbjaaGreatDoor
