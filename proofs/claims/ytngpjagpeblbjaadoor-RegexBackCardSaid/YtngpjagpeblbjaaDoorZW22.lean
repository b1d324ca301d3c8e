/-
  Walk of the closure of plan, at a Star and at all.
-/
import Derived.Test.YtngpjagpeblbjaaDoorZW21
import Derived.Deep.CutBlock
namespace Go.Proofs.YtngpjagpeblbjaaDoor
open Go.RowKit Go.Spy Go.Rx

set_option maxRecDepth 100000 in
set_option maxHeartbeats 1000000 in
theorem tell_star {w : World} {l : List Nd} {ao : Option Addr} {cap bR bP bF bA : Nat} {fs : List Fact} {i : Nat} (H : TellW w l ao cap bR bP bF bA fs i) {n : Nd} (hn : l[i]? = some n) (ho : n.op = 5) {x : Nat} (ha : n.a = x) (hx : x < i) (F : Rx.Form l) :
    Calls Tryd.prog 43 #[.int .i64 i, .pointer (some ⟨bR, 0, none⟩), .pointer (some ⟨bP, 0, none⟩)] w (TellPost l bA i w) := by
  have hi := lt_of_some hn
  have hlen := H.nodes.len
  obtain ⟨b, off, rfl, hb, hc⟩ := H.nodes.cells (by omega)
  obtain ⟨q0, q1, q2, q3⟩ := hc i n hn
  rw [ho] at q0
  have r0 := H.rbox.cell (i := 0) rfl
  have hb1 : b < w.heap.size + 1 := by omega
  have hbR := H.rbox.lt
  have hbR1 : bR < w.heap.size + 1 := by omega
  rw [ha] at q2
  have hxl : x < l.length := by omega
  have hkk := kids_star ho ha
  have HT := hid (tr_star hn ho ha hx)
  have HK := hid (aboveV_one hn hkk hxl)
  have HH := hid H
  have hbA := H.above.lt
  have hbP := H.pbox.lt
  have hbF := H.facts.lt
  have ne1 : bP ≠ bA := blk_ne H.pbox H.above (by decide)
  have ne2 : bA ≠ bP := ne1.symm
  have ne3 : w.heap.size + 1 ≠ bA := by omega
  have ne4 : bA ≠ w.heap.size + 1 := by omega
  have hlf := H.len
  have szx : x * 34 + 34 ≤ (rowV factV fs).size := by rw [rowV_size factV_size, hlf]; have := Nat.mul_le_mul_right 34 hxl; omega
  have szx2 : x * 34 + 2 + 16 ≤ (rowV factV fs).size := by omega
  have szx3 : x * 34 + 18 + 16 ≤ (rowV factV fs).size := by omega
  clear hlf H hc hn ho ha hkk
  go_enter Tryd.func43, Tryd.ntmps43
  go_upto_region 17 with (first
    | (with_reducible refine wpList_alloc_aggD rfl 60 rfl 4 rfl _ zero_fact ?_; intro Z HZ; have sZ : Z.size = 34 := by rw [HZ.out, factV_size]))
  have m1 : ((w.alloc (.cells Z 60)).alloc (.cells #[.int .i64 5, .string n.sym, .int .i64 x, .int .i64 n.b] 45)).cell? ⟨bP, 1, none⟩ = some (.slice (some ⟨bF, 0, none⟩) l.length l.length) := ((HH.out.pbox.alloc _).alloc _).cell (i := 1) rfl
  have m2 : ((w.alloc (.cells Z 60)).alloc (.cells #[.int .i64 5, .string n.sym, .int .i64 x, .int .i64 n.b] 45)).cell? ⟨bP, 2, none⟩ = some (.slice (some ⟨bA, 0, none⟩) l.length l.length) := ((HH.out.pbox.alloc _).alloc _).cell (i := 2) rfl
  have n2 : ((w.alloc (.cells Z 60)).alloc (.cells #[.int .i64 5, .string n.sym, .int .i64 x, .int .i64 n.b] 45)).cell? ⟨w.heap.size + 1, 2, none⟩ = some (.int .i64 x) := (Blk.new' (w.alloc _) _ _ (by simp)).cell (i := 2) rfl
  have HA : Hid (Blk ((w.alloc (.cells Z 60)).alloc (.cells #[.int .i64 5, .string n.sym, .int .i64 x, .int .i64 n.b] 45)) bA 3 (aboveV l i)) := hid ((HH.out.above.alloc _).alloc _)
  have HF : Hid (Blk ((w.alloc (.cells Z 60)).alloc (.cells #[.int .i64 5, .string n.sym, .int .i64 x, .int .i64 n.b] 45)) bF 60 (rowV factV fs)) := hid ((HH.out.facts.alloc _).alloc _)
  have HZ4 : Hid (Blk ((w.alloc (.cells Z 60)).alloc (.cells #[.int .i64 5, .string n.sym, .int .i64 x, .int .i64 n.b] 45)) w.heap.size 60 Z) := hid ((Blk.new w _ Z).alloc _)
  have HE : Hid (Ext w ((w.alloc (.cells Z 60)).alloc (.cells #[.int .i64 5, .string n.sym, .int .i64 x, .int .i64 n.b] 45))) := hid (((Below.refl _ w).alloc (Nat.le_refl _) _).alloc (by simp) _)
  have hszW : w.heap.size + 1 < ((w.alloc (.cells Z 60)).alloc (.cells #[.int .i64 5, .string n.sym, .int .i64 x, .int .i64 n.b] 45)).heap.size := by simp
  generalize ((w.alloc (.cells Z 60)).alloc (.cells #[.int .i64 5, .string n.sym, .int .i64 x, .int .i64 n.b] 45)) = W at *
  have ax := HA.out.cell (aboveV_get (k := i) hxl)
  have fx := HA.out.frozen x
  have hbAW : bA < W.heap.size := HA.out.lt
  go_upto_region 18 with fail
  have hcA : Chg (· = bA) W (W.setCell ⟨bA, x, none⟩ (.int .i64 i)) := (Chg.refl (· = bA) W).setCell (p := ⟨bA, x, none⟩) rfl _
  have HA2 : Hid (Blk (W.setCell ⟨bA, x, none⟩ (.int .i64 i)) bA 3 (aboveV l (i + 1))) := hid (by rw [← HK.out]; exact (HA.out.set x _))
  have hFA : bF ≠ bA := blk_ne HF.out HA.out (by decide)
  have HF2 : Hid (Blk (W.setCell ⟨bA, x, none⟩ (.int .i64 i)) bF 60 (rowV factV fs)) := hid (HF.out.chg hcA hFA)
  have HZ2 : Hid (Blk (W.setCell ⟨bA, x, none⟩ (.int .i64 i)) w.heap.size 60 Z) := hid (HZ4.out.chg hcA (by show ¬ _ = _; omega))
  have o1 := (cell_of_chg (a := ⟨bP, 1, none⟩) hcA (by show bP < _; omega) ne1).trans m1
  have o2 := (cell_of_chg (a := ⟨w.heap.size + 1, 2, none⟩) hcA hszW ne3).trans n2
  have HCW : Hid (Chg (· = bA) w (W.setCell ⟨bA, x, none⟩ (.int .i64 i))) := hid ((Chg.of_ext HE.out).trans hcA)
  generalize (W.setCell ⟨bA, x, none⟩ (.int .i64 i)) = W2 at *
  clear m1 m2 n2 HA HF HZ4 HE hszW ax fx hbAW hcA hFA
  refine wp_region_pieces (by kernel_rfl) ?_
  refine wpAny_still 0 14 2 #[true, true, true, true, true, true, true, true, true, true, true, true, true, true, false, false] (by kernel_rfl) rfl ?_
  simp only [List.take_succ_cons, List.take_zero, List.drop_succ_cons, List.drop_zero]
  repeat (first
    | (with_reducible refine wpStill_load_agg rfl 58 (.tmp 93) rfl bF (x * 34 + 2) rfl 60 (rowV factV fs) _ 16 HF2.out.drew Tryd.underlying58 rfl info_set szx2 ?_; intro C1 HC1)
    | (with_reducible refine wpStill_load_agg rfl 58 (.tmp 100) rfl bF (x * 34 + 18) rfl 60 (rowV factV fs) _ 16 HF2.out.drew Tryd.underlying58 rfl info_set szx3 ?_; intro C2 HC2)
    | still_step)
  refine wpStill_nil ?_
  refine wpAny_forced 14 16 0 #[true, true, true, true, true, true, true, true, true, true, true, true, true, true, true, true] (by kernel_rfl) rfl (by decide) ?_
  simp only [List.take_succ_cons, List.take_zero, List.drop_succ_cons, List.drop_zero]
  have hk := HH.out.known x hx
  have e1 : C1 = setV (factT (tr l x)).first := by rw [HC1.out, ← factV_ext_first (factT (tr l x)), ← rowV_extract factV_size hk]; simp
  have e2 : C2 = setV (factT (tr l x)).last := by rw [HC2.out, ← factV_ext_last (factT (tr l x)), ← rowV_extract factV_size hk]; simp
  have E1 := hid e1
  have E2 := hid e2
  clear e1 e2 hk
  go_wp2_with (first
    | (refine wpList_build_agg rfl 60 #[(1, .const (.bool true)), (2, .tmp 94), (3, .tmp 101)] rfl [(1, .bool true), (2, .agg C1), (3, .agg C2)] ?_ (factV ⟨false, true, (factT (tr l x)).first, (factT (tr l x)).last⟩) ?_ ?_
       · rfl
       · rw [E1.out, E2.out]; exact built_star _ _
       intro C HC; have sC : C.size = 34 := by rw [HC.out, factV_size])
    | (with_reducible refine wpList_store_agg rfl 60 (.tmp 4) (.tmp 102) rfl _ 0 C rfl rfl 60 Z HZ2.out.drew (by rw [sC]; exact info_fact) (by omega) (by rw [HC.out]; exact ones_factV _) ?_; intro w4 H4 hs4))
  refine wpAny_end (P := Tryd.prog) (by kernel_rfl) ?_
  go_wp2_with fail
  obtain ⟨h3, c3⟩ := H4.out
  rw [splice_all (by omega)] at h3
  have CC : Chg (fun k => k = w.heap.size ∨ k = bA) w w4 := ((HCW.out.mono fun k _ e => .inr e).drew).trans (c3.mono fun k _ e => .inl e)
  refine bodyPost_ret (v := .agg C) (results_cell_agg Tryd.results43 _ w4 _ _ C _ rfl h3 Tryd.underlying60 rfl (by rw [sC]; exact info_fact)) rfl ⟨C, rfl, by rw [HC.out, HT.out]; rfl, ?_, CC.mono (fun k hk e => by omega)⟩
  exact (HA2.out.drew).chg c3 (by show ¬ _ = _; omega)

theorem tell_any {w : World} {l : List Nd} {ao : Option Addr} {cap bR bP bF bA : Nat} {fs : List Fact} {i : Nat} (H : TellW w l ao cap bR bP bF bA fs i) (hi : i < l.length) (F : Rx.Form l) (hl : l.length ≤ 64) :
    Calls Tryd.prog 43 #[.int .i64 i, .pointer (some ⟨bR, 0, none⟩), .pointer (some ⟨bP, 0, none⟩)] w (TellPost l bA i w) := by
  have hn : l[i]? = some l[i] := List.getElem?_eq_getElem hi
  cases F.kind hn with
  | none ho => exact tell_none H hn ho
  | empty ho => exact tell_empty H hn ho
  | sym ho => exact tell_sym H hn ho hl
  | cat ho s x y ha hb hx hy => exact tell_cat H hn ho ha hb hx hy F hl
  | alt ho s x y ha hb hx hy => exact tell_alt H hn ho ha hb hx hy F hl
  | star ho s x ha hb hx => exact tell_star H hn ho ha hx F

end Go.Proofs.YtngpjagpeblbjaaDoor
