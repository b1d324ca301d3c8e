/-
  The queue of rows: two items change places.
  The queue of rows: an item comes behind the others.
  The queue of rows: the last item is taken.
  Plain law: a heap in a list. No program is named here.
  The queue of rows: an item goes up.
  The queue of rows: an item goes down.
  The queue of rows: container/heap's Push and Pop.
  The queue of rows: the deferred closures where nobody panics.
-/
import Derived.Test.YtngpjagpeblbjaaGreatDoorP10
import Derived.Deep.RegionLaw
import Derived.Recover
namespace Go.Proofs.YtngpjagpeblbjaaGreatDoor
open Go.RowKit Go.Spy
def PileX (w : World) (base q bo F : Nat) (d : List It) (m : Nat) (put : Int) (S : Nat → Prop) : Prop :=
 ∃ vI vS sw, Pile w base q bo F vI vS d sw put ∧ sw.length ≤ m ∧ S = own q vI vS
def Goes (S : Nat → Prop) (w w' : World) (base q bo F : Nat) (d : List It) (m : Nat) (put : Int) : Prop :=
 ∃ S', PileX w' base q bo F d m put S' ∧ Moved S S' w w'
theorem Tryz.info194 : (Tryz.prog.info? 194).map (fun i => (i.zero, i.size, i.bytes)) = some (some (.agg #[.int .i64 0, .int .u64 0]), 2, 16) := by kernel_rfl
theorem Tryz.info83 : (Tryz.prog.info? 83).map (fun i => (i.zero, i.size, i.bytes)) = some (some (.agg #[.int .i64 0, .int .i64 0]), 2, 16) := by kernel_rfl
theorem wpList_told {F : Nat} {w2 : World} {base q bo : Nat} {vI vS : Value} {d : List It} {sw : List (Int × Int)} {put : Int} (HP : Hid (Pile w2 base q bo F vI vS d sw put)) (hm : sw.length + 1 ≤ 1000000000) (i j : Int)
 {ops : Array Oper} {rest : List Oper} {o : Oper} {a : Act} {Q : Exit → Act → World → Prop} (hgd : o.guard = none) (s x : Operand)
 (ho : o.op = .call { callee := .builtin .append, args := #[s, x], argTypes := #[77, 77] }) (hs : a.eval s = vS) (hx : a.eval x = .slice (some ⟨w2.heap.size, 0, none⟩) 1 1)
 (hK : ∀ (g n' cap : Nat) (v' : Value) (w4 : World), v' = .slice (some ⟨g, 0, none⟩) n' cap → w4.cell? ⟨q, 1, none⟩ = some vS → w4.frozen? ⟨q, 1, none⟩ = false →
   Hid (Pile (w4.setCell ⟨q, 1, none⟩ v') base q bo F vI v' d (sw ++ [(i, j)]) put ∧ Moved (own q vI vS) (own q vI v') w2 (w4.setCell ⟨q, 1, none⟩ v')) → wpList Tryz.prog ops Q rest (a.put o.dst v') w4) :
 wpList Tryz.prog ops Q (o :: rest) a (w2.alloc (.cells #[.int .i64 i, .int .i64 j] 83)) := by
 obtain ⟨i0, hti, hz0, hz1, hz2⟩ := info_parts Tryz.info83
 have h := HP.out
 have hw : Chg (fun _ => False) w2 (w2.alloc (.cells #[.int .i64 i, .int .i64 j] 83)) := (Chg.refl _ _).alloc _
 have hp := h.kept hw (fun _ _ x => x) (fun x => x)
 have hlt := h.blk.lt
 refine wpList_append_lies _ hgd s x 77 ho base 83 i0 _ 2 16 Tryz.underlying77 hti hz0 hz1 hz2 rfl (by decide) vS sw.length (sw.flatMap pairC) hs hp.swaps ⟨w2.heap.size, 0, none⟩ 1 1 (pairC (i, j)) hx rfl ?_ ?_ (by decide) (by unfold maxLen; omega) (by omega) (by have := h.hq; simp; omega) _ rfl ?_
 ·intro k u hu
  have hb := Blk.new w2 83 #[.int .i64 i, .int .i64 j]
  match k, hu with
  | 0, hu => exact hb.cell hu
  | 1, hu => exact hb.cell hu
 ·intro u hu
  simp [pairC] at hu
  rcases hu with rfl | rfl <;> rfl
 ·intro g cap w4 hown hgr hat hlt4
  have c4 : Chg (fun k => vS.ownBlock = some k) w2 w4 := (hw.mono (fun _ _ x => x.elim)).grown hgr (fun k e => e)
  have hp4 : Blk w4 q 200 #[vI, vS, .func (.func 129) #[] #[.pointer (some ⟨bo, 0, none⟩)], .int .u64 put] := h.blk.chg c4 h.vS_q
  refine hK g _ cap _ w4 rfl (hp4.cell rfl) (hp4.frozen 1) (hid ?_)
  have c5 : Chg (own q vI vS) w2 (w4.setCell ⟨q, 1, none⟩ (.slice (some ⟨g, 0, none⟩) (sw.length + 1) cap)) := (c4.mono fun _ _ x => .inr (.inr x)).setCell (.inl rfl) _
  have hgq : g ≠ q := by
   rcases hat with e | e
   ·rintro rfl; exact h.vS_q e
   ·simp at e; omega
  refine ⟨⟨hp4.set 1 _, h.ord.chg c5 h.bo_free, ?_, ?_, h.hq⟩, ⟨c5, ?_⟩⟩
  ·exact owns_setOther (owns_chg h.items c4 (fun k e => h.vI_vS e)) (p := ⟨q, 1, none⟩) h.vI_q _
  ·have e1 : (sw ++ [(i, j)]).flatMap pairC = sw.flatMap pairC ++ pairC (i, j) := by simp
   rw [e1, List.length_append]
   exact owns_setOther hown (p := ⟨q, 1, none⟩) (by simpa [Value.ownBlock] using hgq) _
  ·rintro k (e | e | e)
   ·exact .inl (.inl e)
   ·exact .inl (.inr (.inl e))
   ·simp only [Value.ownBlock, Option.some.injEq] at e
    subst e
    rcases hat with e' | e'
    ·exact .inl (.inr (.inr e'))
    ·right; simp at e'; omega
set_option maxRecDepth 100000 in
set_option maxHeartbeats 1600000 in
theorem swap_any {F : Nat} {w : World} {base q bo : Nat} {d : List It} {m : Nat} {put : Int} {S : Nat → Prop} (h : PileX w base q bo F d m put S)
 (i j : Nat) (x y : It) (hi : d[i]? = some x) (hj : d[j]? = some y) (hm : m + 1 ≤ 1000000000) :
 Calls Tryz.prog 192 #[.pointer (some ⟨q, 0, none⟩), .int .i64 i, .int .i64 j] w fun e w' => e = .returned (.tuple #[]) ∧ Goes S w w' base q bo F ((d.set i y).set j x) (m + 1) put := by
 obtain ⟨vI, vS, sw, h, hsw, rfl⟩ := h
 have hil : i < d.length := (List.getElem?_eq_some_iff.1 hi).1
 have hjl : j < d.length := (List.getElem?_eq_some_iff.1 hj).1
 obtain ⟨ao, cap, rfl, hcap, hg⟩ := slice_form h.items
 obtain ⟨g, rfl⟩ := hg (by omega)
 obtain ⟨x0, x1⟩ := item_cells h.items hi
 obtain ⟨y0, y1⟩ := item_cells h.items hj
 have c0 : w.cell? ⟨q, 0, none⟩ = some (.slice (some ⟨g, 0, none⟩) d.length cap) := h.blk.cell rfl
 have fz : ∀ o, w.frozen? ⟨g, o, none⟩ = false := by
  obtain ⟨_, hb⟩ := own_type h.items (g := g) rfl
  exact hb.frozen
 have HP := hid h
 clear h
 by_cases hij : i = j
 ·subst hij
  obtain rfl : x = y := by rw [hi] at hj; simpa using hj
  clear y0 y1
  go_enter Tryz.func192, Tryz.ntmps192
  go_wp2_with fail
  go_region
  generalize hw2 : World.drew _ = w2
  obtain ⟨hP, hC⟩ := HP.out.swp hil hjl x x hw2.symm
  clear hw2 x0 x1 c0 fz HP
  have c1 : w2.cell? ⟨q, 1, none⟩ = some vS := hP.blk.cell rfl
  have hlt := hP.blk.lt
  have HP2 := hid hP
  have HC := hid hC
  clear hP hC
  go_wp2_with (at_builtin; refine wpList_told HP2 (by omega) i i rfl _ _ rfl rfl rfl ?_; rintro g' n' cap' v' w4 rfl k1 k2 HG)
  go_end0
  refine ⟨rfl, own q _ _, ⟨_, _, _, HG.out.1, by simp; omega, rfl⟩, ?_⟩
  exact Moved.trans ⟨HC.out, fun _ x => .inl x⟩ HG.out.2
 ·have n0 : ¬ (i * 2 = j * 2) := by omega
  go_enter Tryz.func192, Tryz.ntmps192
  go_wp2_with fail
  go_region
  generalize hw2 : World.drew _ = w2
  obtain ⟨hP, hC⟩ := HP.out.swp hil hjl x y hw2.symm
  clear hw2 x0 x1 y0 y1 c0 fz HP
  have c1 : w2.cell? ⟨q, 1, none⟩ = some vS := hP.blk.cell rfl
  have hlt := hP.blk.lt
  have HP2 := hid hP
  have HC := hid hC
  clear hP hC
  go_wp2_with (at_builtin; refine wpList_told HP2 (by omega) i j rfl _ _ rfl rfl rfl ?_; rintro g' n' cap' v' w4 rfl k1 k2 HG)
  go_end0
  refine ⟨rfl, own q _ _, ⟨_, _, _, HG.out.1, by simp; omega, rfl⟩, ?_⟩
  exact Moved.trans ⟨HC.out, fun _ x => .inl x⟩ HG.out.2
end Go.Proofs.YtngpjagpeblbjaaGreatDoor
namespace Go.Proofs.YtngpjagpeblbjaaGreatDoor
open Go.RowKit Go.Spy
theorem Pile.pushed {F : Nat} {w w3 w4 : World} {base q bo : Nat} {vI vS : Value} {d : List It} {sw : List (Int × Int)} {put : Int} (h : Pile w base q bo F vI vS d sw put) (x : It)
 (c3 : Ext w w3) {g cap H : Nat} (hown : w4.ownsRow base 194 2 (.slice (some ⟨g, 0, none⟩) (d.length + 1) cap) (d.length + 1) (d.flatMap itemC ++ itemC x)) (hgr : w3.grownBy w4 vI.ownBlock) (hat : vI.ownBlock = some g ∨ g = H) (hH : w.heap.size ≤ H) :
 w4.cell? ⟨q, 0, none⟩ = some vI ∧ w4.frozen? ⟨q, 0, none⟩ = false ∧ Hid (Pile (w4.setCell ⟨q, 0, none⟩ (.slice (some ⟨g, 0, none⟩) (d.length + 1) cap)) base q bo F (.slice (some ⟨g, 0, none⟩) (d.length + 1) cap) vS (d ++ [x]) sw put ∧
 Moved (own q vI vS) (own q (.slice (some ⟨g, 0, none⟩) (d.length + 1) cap) vS) w (w4.setCell ⟨q, 0, none⟩ (.slice (some ⟨g, 0, none⟩) (d.length + 1) cap))) := by
 have hlt := h.blk.lt
 have c4 : Chg (fun k => vI.ownBlock = some k) w w4 := (Chg.of_ext c3).grown hgr (fun k e => e)
 have hp4 : Blk w4 q 200 #[vI, vS, .func (.func 129) #[] #[.pointer (some ⟨bo, 0, none⟩)], .int .u64 put] := h.blk.chg c4 h.vI_q
 have c5 : Chg (own q vI vS) w (w4.setCell ⟨q, 0, none⟩ (.slice (some ⟨g, 0, none⟩) (d.length + 1) cap)) := (c4.mono fun _ _ x => .inr (.inl x)).setCell (.inl rfl) _
 have hgq : g ≠ q := by
  rcases hat with e | e
  ·rintro rfl; exact h.vI_q e
  ·omega
 refine ⟨hp4.cell rfl, hp4.frozen 0, hid ⟨⟨hp4.set 0 _, h.ord.chg c5 h.bo_free, ?_, ?_, h.hq⟩, ⟨c5, ?_⟩⟩⟩
 ·have e1 : (d ++ [x]).flatMap itemC = d.flatMap itemC ++ itemC x := by simp
  rw [e1, List.length_append]
  exact owns_setOther hown (p := ⟨q, 0, none⟩) (by simpa [Value.ownBlock] using hgq) _
 ·exact owns_setOther (owns_chg h.swaps c4 (fun k e e' => h.vI_vS e' e)) (p := ⟨q, 0, none⟩) h.vS_q _
 ·rintro k (e | e | e)
  ·exact .inl (.inl e)
  ·simp only [Value.ownBlock, Option.some.injEq] at e
   subst e
   rcases hat with e' | e'
   ·exact .inl (.inr (.inl e'))
   ·right; omega
  ·exact .inl (.inr (.inr e))
theorem assert62 (v : Value) (w : World) : (Instr.typeAssert (.iface 194 v) 20 194 true).run Tryz.prog w = .ok (.tuple #[v, .bool true]) w := by kernel_rfl
theorem news62 {w : World} {o : Obj} (r n : Int) : ∀ (j : Nat) (u : Value), (itemC (r, n))[j]? = some u → ((w.alloc o).alloc (.cells #[.int .i64 r, .int .u64 n] 194)).cell? ((⟨w.heap.size + 1, 0, none⟩ : Addr).add j) = some u := by
 intro j u hu
 have hb := Blk.new' (w.alloc o) 194 #[.int .i64 r, .int .u64 n] (b := w.heap.size + 1) (by simp)
 match j, hu with
 | 0, hu => exact hb.cell hu
 | 1, hu => exact hb.cell hu
theorem one62 (r n : Int) : ∀ u ∈ itemC (r, n), u.oneCell' = true := by
 intro u hu
 simp [itemC] at hu
 rcases hu with rfl | rfl <;> rfl
set_option maxRecDepth 100000 in
set_option maxHeartbeats 800000 in
theorem push_any {F : Nat} {w : World} {base q bo : Nat} {d : List It} {m : Nat} {put : Int} {S : Nat → Prop} (h : PileX w base q bo F d m put S) (x : It) (hd : d.length + 1 ≤ 1000000000) :
 Calls Tryz.prog 191 #[.pointer (some ⟨q, 0, none⟩), .iface 194 (itemV x)] w fun e w' => e = .returned (.tuple #[]) ∧ Goes S w w' base q bo F (d ++ [x]) m put := by
 obtain ⟨vI, vS, sw, h, hsw, rfl⟩ := h
 obtain ⟨r, n⟩ := x
 have c0 : w.cell? ⟨q, 0, none⟩ = some vI := h.blk.cell rfl
 have hlt := h.blk.lt
 obtain ⟨i0, hti, hz0, hz1, hz2⟩ := info_parts Tryz.info194
 show Calls Tryz.prog 191 #[.pointer (some ⟨q, 0, none⟩), .iface 194 (.agg #[.int .i64 r, .int .u64 n])] w _
 have HP := hid h
 clear h
 have hta := assert62
 go_enter Tryz.func191, Tryz.ntmps191
 go_wp2_with fail
 have hrow := HP.out.items
 have hbase : base ≤ w.heap.size := by have := HP.out.hq; omega
 go_region_law ((refine step_append_lies _ ?_ (.tmp 16) (.tmp 18) 196 ?_ base 194 i0 _ 2 16 Tryz.underlying196 hti hz0 hz1 hz2 ?_ ?_ vI d.length (d.flatMap itemC) ?_ ?_ ⟨w.heap.size + 1, 0, none⟩ 1 1 (itemC (r, n)) ?_ ?_ ?_ ?_ ?_ ?_ ?_ ?_ (w.heap.size + 2) ?_ ?_; rfl; rfl; decide; decide; rfl; exact (hrow.alloc _).alloc _; rfl; rfl; exact news62 r n; exact one62 r n; decide; (unfold maxLen; omega); omega; (simp; omega); simp; intro g cap w4 hown hgr hat hlt4; obtain ⟨k1, k2, HG⟩ := HP.out.pushed (r, n) (((Below.refl _ _).alloc (Nat.le_refl _) _).alloc (by simp) _).drew hown hgr hat (by omega); clear hown hgr hat))
 all_goals
  go_end0
  exact ⟨rfl, own q _ vS, ⟨_, _, _, HG.out.1, hsw, rfl⟩, HG.out.2⟩
end Go.Proofs.YtngpjagpeblbjaaGreatDoor
namespace Go.Proofs.YtngpjagpeblbjaaGreatDoor
open Go.RowKit Go.Spy
theorem owns_take {w : World} {base g n cap size : Nat} {e : TypeId} {xs : List Value} (h : w.ownsRow base e size (.slice (some ⟨g, 0, none⟩) n cap) n xs) (k : Nat) (hk : k ≤ n) :
 w.ownsRow base e size (.slice (some ⟨g, 0, none⟩) k cap) k (xs.take (k * size)) := by
 have hm := Nat.mul_le_mul_right size hk
 refine ⟨by rw [List.length_take, h.1]; omega, ?_⟩
 rcases h.2 with ⟨h0, _⟩ | ⟨g', cap', cur, hv, hb, hg, hnc, hcm, hcs, ht⟩
 ·simp at h0
 ·simp only [Value.slice.injEq, Option.some.injEq, Addr.mk.injEq, and_true, true_and] at hv
  obtain ⟨rfl, rfl⟩ := hv
  refine .inr ⟨g, cap, cur, rfl, hb, hg, by omega, hcm, hcs, ?_⟩
  rw [← ht, List.take_take, Nat.min_eq_left hm]
theorem Pile.popped {F : Nat} {w : World} {base q bo g cap : Nat} {vS : Value} {d : List It} {x : It} {sw : List (Int × Int)} {put : Int} (h : Pile w base q bo F (.slice (some ⟨g, 0, none⟩) (d ++ [x]).length cap) vS (d ++ [x]) sw put) :
 Pile (((w.setCell ⟨g, d.length * 2, none⟩ (.int .i64 0)).setCell ⟨g, d.length * 2 + 1, none⟩ (.int .u64 0)).setCell ⟨q, 0, none⟩ (.slice (some ⟨g, 0, none⟩) d.length cap)) base q bo F (.slice (some ⟨g, 0, none⟩) d.length cap) vS d sw put ∧
 Moved (own q (.slice (some ⟨g, 0, none⟩) (d ++ [x]).length cap) vS) (own q (.slice (some ⟨g, 0, none⟩) d.length cap) vS) w (((w.setCell ⟨g, d.length * 2, none⟩ (.int .i64 0)).setCell ⟨g, d.length * 2 + 1, none⟩ (.int .u64 0)).setCell ⟨q, 0, none⟩ (.slice (some ⟨g, 0, none⟩) d.length cap)) := by
 have c : Chg (fun k => k = g) w ((w.setCell ⟨g, d.length * 2, none⟩ (.int .i64 0)).setCell ⟨g, d.length * 2 + 1, none⟩ (.int .u64 0)) :=
  ((Chg.refl _ w).setCell (by rfl) _).setCell (by rfl) _
 have hg : (Value.slice (some ⟨g, 0, none⟩) (d ++ [x]).length cap).ownBlock = some g := rfl
 have hq : ¬ q = g := fun e => h.vI_q (by rw [hg, e])
 have c5 := (c.mono (S' := own q (.slice (some ⟨g, 0, none⟩) (d ++ [x]).length cap) vS) fun k _ e => .inr (.inl (by rw [hg, e]))).setCell (p := ⟨q, 0, none⟩) (.inl rfl) (.slice (some ⟨g, 0, none⟩) d.length cap)
 have h0 := owns_take (owns_put2 h.items (j := d.length) (by simp) (0, 0)) d.length (by simp)
 have e0 : (((d ++ [x]).set d.length (0, 0)).flatMap itemC).take (d.length * 2) = d.flatMap itemC := by
  rw [List.set_append_right _ _ (Nat.le_refl _), List.flatMap_append, List.take_append_of_le_length (by rw [flat_len itemC 2 itemC_len]; exact Nat.le_refl _), List.take_of_length_le (by rw [flat_len itemC 2 itemC_len]; exact Nat.le_refl _)]
 rw [e0] at h0
 refine ⟨⟨(h.blk.chg c hq).set 0 _, h.ord.chg c5 h.bo_free, ?_, ?_, h.hq⟩, c5, ?_⟩
 ·exact owns_setOther h0 (p := ⟨q, 0, none⟩) (by simpa [Value.ownBlock] using fun e => hq e.symm) _
 ·exact owns_setOther (owns_chg h.swaps c (fun k e e' => h.vI_vS hg (e' ▸ e))) (p := ⟨q, 0, none⟩) h.vS_q _
 ·rintro k (e | e | e)
  ·exact .inl (.inl e)
  ·exact .inl (.inr (.inl e))
  ·exact .inl (.inr (.inr e))
set_option maxRecDepth 100000 in
set_option maxHeartbeats 800000 in
theorem pop_any {F : Nat} {w : World} {base q bo : Nat} {d : List It} {x : It} {m : Nat} {put : Int} {S : Nat → Prop} (h : PileX w base q bo F (d ++ [x]) m put S) (hd : d.length + 1 ≤ 1000000000) :
 Calls Tryz.prog 190 #[.pointer (some ⟨q, 0, none⟩)] w fun e w' => e = .returned (.iface 194 (itemV x)) ∧ Goes S w w' base q bo F d m put := by
 obtain ⟨vI, vS, sw, h, hsw, rfl⟩ := h
 obtain ⟨r, n⟩ := x
 obtain ⟨ao, cap, rfl, hcap, hg⟩ := slice_form h.items
 obtain ⟨g, rfl⟩ := hg (by simp)
 obtain ⟨x0, x1⟩ := item_cells h.items (j := d.length) (x := (r, n)) (by simp)
 have hL : (d ++ [(r, n)]).length = d.length + 1 := by simp
 have c0 : w.cell? ⟨q, 0, none⟩ = some (.slice (some ⟨g, 0, none⟩) (d.length + 1) cap) := by rw [← hL]; exact h.blk.cell rfl
 have fq := h.blk.frozen 0
 have hlt := h.blk.lt
 have hgl : g < w.heap.size := by obtain ⟨_, hb⟩ := own_type h.items (g := g) rfl; exact hb.lt
 have hqg : q ≠ g := fun e => h.vI_q (by rw [e]; rfl)
 have fz : ∀ o, w.frozen? ⟨g, o, none⟩ = false := by
  obtain ⟨_, hb⟩ := own_type h.items (g := g) rfl
  exact hb.frozen
 have hcap' : d.length + 1 ≤ cap := by rw [← hL]; exact hcap
 have HP := hid h
 clear h hL hcap hg
 go_enter Tryz.func190, Tryz.ntmps190
 go_wp2_with fail
 go_ret
 obtain ⟨hp, hm⟩ := HP.out.popped
 rw [List.length_append] at hm
 exact ⟨rfl, own q _ vS, ⟨_, _, _, (hp.ext ((Below.refl _ _).alloc (Nat.le_refl _) _)), hsw, rfl⟩, hm.ext ((Below.refl _ _).alloc (Nat.le_refl _) _)⟩
end Go.Proofs.YtngpjagpeblbjaaGreatDoor
namespace Go.Heaped
structure Ordered {α : Type} (lt : α → α → Bool) : Prop where
 asym : ∀ x y, lt x y = true → lt y x = false
 ntrans : ∀ x y z, lt y x = false → lt z y = false → lt z x = false
def par (i : Nat) : Nat := (i - 1) / 2
section
variable {α : Type} [Inhabited α] {lt : α → α → Bool}
abbrev g (d : List α) (i : Nat) : α := d.getD i default
def swp (d : List α) (i j : Nat) : List α := (d.set i (g d j)).set j (g d i)
theorem swp_len (d : List α) (i j : Nat) : (swp d i j).length = d.length := by simp [swp]
theorem g_set (d : List α) (i k : Nat) (x : α) (hi : i < d.length) : g (d.set i x) k = if k = i then x else g d k := by
 unfold g
 rw [List.getD_eq_getElem?_getD, List.getD_eq_getElem?_getD, List.getElem?_set]
 by_cases h : i = k
 ·subst h; simp [hi]
 ·rw [if_neg h, if_neg (fun e => h e.symm)]
theorem g_swp (d : List α) (i j k : Nat) (hi : i < d.length) (hj : j < d.length) : g (swp d i j) k = if k = j then g d i else if k = i then g d j else g d k := by
 unfold swp
 rw [g_set _ _ _ _ (by simpa using hj), g_set _ _ _ _ hi]
theorem g_some {d : List α} {i : Nat} {x : α} (h : d[i]? = some x) : g d i = x := by simp [g, List.getD_eq_getElem?_getD, h]
theorem some_g {d : List α} {i : Nat} (h : i < d.length) : d[i]? = some (g d i) := by simp [g, List.getD_eq_getElem?_getD, h]
theorem set_perm_cons (d : List α) (i : Nat) (x : α) (hi : i < d.length) : (g d i :: d.set i x).Perm (x :: d) := by
 induction d generalizing i with
 | nil => simp at hi
 | cons a d ih =>
   cases i with
   | zero => simp [g, List.getD_eq_getElem?_getD]; exact List.Perm.swap _ _ _
   | succ i =>
     have h1 := ih i (by simpa using hi)
     have e : g (a :: d) (i + 1) = g d i := by simp [g, List.getD_eq_getElem?_getD]
     rw [e, List.set_cons_succ]
     exact (List.Perm.swap _ _ _).trans ((h1.cons a).trans (List.Perm.swap _ _ _))
theorem swp_perm (d : List α) (i j : Nat) (hi : i < d.length) (hj : j < d.length) : (swp d i j).Perm d := by
 have h1 := set_perm_cons d i (g d j) hi
 have h2 := set_perm_cons (d.set i (g d j)) j (g d i) (by simpa using hj)
 have e : g (d.set i (g d j)) j = g d j := by
  rw [g_set _ _ _ _ hi]
  split <;> rfl
 rw [e] at h2
 exact (List.Perm.cons_inv (h2.trans h1))
def Heap (lt : α → α → Bool) (d : List α) (n : Nat) : Prop := ∀ k, 0 < k → k < n → lt (g d k) (g d (par k)) = false
def UpHeap (lt : α → α → Bool) (d : List α) (n j : Nat) : Prop :=
 (∀ k, 0 < k → k < n → k ≠ j → lt (g d k) (g d (par k)) = false) ∧ (∀ k, 0 < k → k < n → par k = j → 0 < j → lt (g d k) (g d (par j)) = false)
def DownHeap (lt : α → α → Bool) (d : List α) (n i : Nat) : Prop :=
 (∀ k, 0 < k → k < n → par k ≠ i → lt (g d k) (g d (par k)) = false) ∧ (∀ k, 0 < k → k < n → par k = i → 0 < i → lt (g d k) (g d (par i)) = false)
theorem g_append_left (d e : List α) (k : Nat) (h : k < d.length) : g (d ++ e) k = g d k := by
 simp [g, List.getD_eq_getElem?_getD, List.getElem?_append_left h]
theorem up_start {d : List α} (x : α) (h : Heap lt d d.length) : UpHeap lt (d ++ [x]) (d ++ [x]).length d.length := by
 refine ⟨fun k h0 hk hne => ?_, fun k h0 hk hp _ => ?_⟩
 ·have hk' : k < d.length := by simp at hk; omega
  rw [g_append_left _ _ _ hk', g_append_left _ _ _ (by unfold par; omega)]
  exact h k h0 hk'
 ·simp at hk; unfold par at hp; omega
theorem up_end {d : List α} {n j : Nat} (h : UpHeap lt d n j) (hj : j = 0 ∨ lt (g d j) (g d (par j)) = false) : Heap lt d n := by
 intro k h0 hk
 by_cases e : k = j
 ·subst e
  rcases hj with hj | hj
  ·omega
  ·exact hj
 ·exact h.1 k h0 hk e
theorem up_step {d : List α} {j : Nat} (O : Ordered lt) (h : UpHeap lt d d.length j) (h0 : 0 < j) (hj : j < d.length) (hlt : lt (g d j) (g d (par j)) = true) :
 UpHeap lt (swp d (par j) j) (swp d (par j) j).length (par j) := by
 have hp : par j < j := by unfold par; omega
 have hG := fun k => g_swp d (par j) j k (by omega) hj
 rw [swp_len]
 refine ⟨fun k k0 hk hne => ?_, fun k k0 hk hpk hp0 => ?_⟩
 ·by_cases e : k = j
  ·subst e
   rw [hG, hG, if_pos rfl, if_neg (by omega), if_pos rfl]
   exact O.asym _ _ hlt
  ·rw [hG k, if_neg e, if_neg hne, hG]
   by_cases e2 : par k = j
   ·rw [if_pos e2]
    exact h.2 k k0 hk e2 h0
   ·rw [if_neg e2]
    by_cases e3 : par k = par j
    ·rw [if_pos e3]
     have h1 := h.1 k k0 hk e
     rw [e3] at h1
     exact O.ntrans _ _ _ (O.asym _ _ hlt) h1
    ·rw [if_neg e3]
     exact h.1 k k0 hk e
 ·have hpp : par (par j) < par j := by unfold par at *; omega
  have h1 := h.1 (par j) hp0 (by omega) (by omega)
  rw [hG (par (par j)), if_neg (by omega), if_neg (by omega)]
  by_cases e : k = j
  ·subst e
   rw [hG, if_pos rfl]
   exact h1
  ·have hk2 : k ≠ par j := by intro e2; rw [e2] at hpk; omega
   rw [hG, if_neg e, if_neg hk2]
   have h2 := h.1 k k0 hk e
   rw [hpk] at h2
   exact O.ntrans _ _ _ h1 h2
theorem down_start {d : List α} {n : Nat} (hn : d.length = n + 1) (h : Heap lt d d.length) : DownHeap lt (swp d 0 n) n 0 := by
 refine ⟨fun k k0 hk hp => ?_, fun k _ _ _ h0 => by omega⟩
 have : par k < k := by unfold par; omega
 rw [g_swp _ _ _ _ (by omega) (by omega), g_swp _ _ _ _ (by omega) (by omega), if_neg (by omega), if_neg (by omega), if_neg (by omega), if_neg hp]
 exact h k k0 (by omega)
theorem down_end {d : List α} {n i j : Nat} (O : Ordered lt) (h : DownHeap lt d n i) (hj : ∀ k, 0 < k → k < n → par k = i → lt (g d k) (g d j) = false) (hlt : n ≤ 2 * i + 1 ∨ lt (g d j) (g d i) = false) : Heap lt d n := by
 intro k k0 hk
 by_cases e : par k = i
 ·rcases hlt with hlt | hlt
  ·unfold par at e; omega
  ·rw [e]; exact O.ntrans _ _ _ hlt (hj k k0 hk e)
 ·exact h.1 k k0 hk e
theorem down_step {d : List α} {n i j : Nat} (O : Ordered lt) (h : DownHeap lt d n i) (hn : n ≤ d.length) (hjn : j < n) (hpj : par j = i) (h0 : 0 < j) (hj : ∀ k, 0 < k → k < n → par k = i → lt (g d k) (g d j) = false)
 (hlt : lt (g d j) (g d i) = true) : DownHeap lt (swp d i j) n j := by
 have hij : i < j := by unfold par at hpj; omega
 have hG := fun k => g_swp d i j k (by omega) (by omega)
 refine ⟨fun k k0 hk hp => ?_, fun k k0 hk hp _ => ?_⟩
 ·have hpk : par k < k := by unfold par; omega
  rw [hG (par k), if_neg hp]
  by_cases e : par k = i
  ·rw [if_pos e, hG]
   by_cases e2 : k = j
   ·rw [if_pos e2]; exact O.asym _ _ hlt
   ·rw [if_neg e2, if_neg (by omega)]
    exact hj k k0 hk e
  ·rw [if_neg e, hG]
   by_cases e2 : k = j
   ·subst e2; exact absurd hpj e
   ·rw [if_neg e2]
    by_cases e3 : k = i
    ·rw [if_pos e3]
     subst e3
     exact h.2 j h0 hjn hpj k0
    ·rw [if_neg e3]
     exact h.1 k k0 hk e
 ·have hpk : par k < k := by unfold par; omega
  rw [hpj, hG, hG, if_neg (by omega), if_neg (by omega), if_neg (by omega), if_pos rfl]
  have h1 := h.1 k k0 hk (by omega)
  rw [hp] at h1
  exact h1
theorem heap_min {d : List α} {n : Nat} (O : Ordered lt) (h : Heap lt d n) (irr : ∀ x, lt x x = false) : ∀ k, k < n → lt (g d k) (g d 0) = false := by
 intro k
 induction k using Nat.strongRecOn with
 | ind k ih =>
   intro hk
   by_cases k0 : k = 0
   ·subst k0; exact irr _
   ·exact O.ntrans _ _ _ (ih (par k) (by unfold par; omega) (by unfold par; omega)) (h k (by omega) hk)
end
end Go.Heaped
namespace Go.Proofs.YtngpjagpeblbjaaGreatDoor
open Go.RowKit Go.Spy Go.Heaped
instance : Inhabited It := ⟨(0, 0)⟩
section
variable {F : Nat} {w : World} {base q bo : Nat} {d : List It} {m : Nat} {put : Int} {S : Nat → Prop}
theorem PileX.ext (h : PileX w base q bo F d m put S) {w' : World} (e : Ext w w') : PileX w' base q bo F d m put S := by
 obtain ⟨vI, vS, sw, hp, hs, hS⟩ := h
 exact ⟨vI, vS, sw, hp.ext e, hs, hS⟩
theorem PileX.mono (h : PileX w base q bo F d m put S) {m' : Nat} (e : m ≤ m') : PileX w base q bo F d m' put S := by
 obtain ⟨vI, vS, sw, hp, hs, hS⟩ := h
 exact ⟨vI, vS, sw, hp, Nat.le_trans hs e, hS⟩
theorem Goes.refl (h : PileX w base q bo F d m put S) : Goes S w w base q bo F d m put := ⟨S, h, Moved.refl S w⟩
theorem less_at {f : Int → Int → Int} (O : OrdOk F f) (h : PileX w base q bo F d m put S) (a b : Int) (i j : Nat) (ha : a = i) (hb : b = j) (hi : i < d.length) (hj : j < d.length) (t : Bool) (ht : Hid (aheadB f (g d i) (g d j) = t)) :
 Calls Tryz.prog 189 #[.pointer (some ⟨q, 0, none⟩), .int .i64 a, .int .i64 b] w fun e w' => e = .returned (.bool t) ∧ Ext w w' := by
 obtain ⟨vI, vS, sw, hp, hs, hS⟩ := h
 subst ha hb
 rw [← ht.out]
 exact less_any O hp i j _ _ (some_g hi) (some_g hj)
theorem swap_at (h : PileX w base q bo F d m put S) (a b : Int) (i j : Nat) (ha : a = i) (hb : b = j) (hi : i < d.length) (hj : j < d.length) (hm : m + 1 ≤ 1000000000) :
 Calls Tryz.prog 192 #[.pointer (some ⟨q, 0, none⟩), .int .i64 a, .int .i64 b] w fun e w' => e = .returned (.tuple #[]) ∧ Goes S w w' base q bo F (swp d i j) (m + 1) put := by
 subst ha hb
 exact swap_any h i j _ _ (some_g hi) (some_g hj) hm
theorem plen_at (h : PileX w base q bo F d m put S) :
 Calls Tryz.prog 188 #[.pointer (some ⟨q, 0, none⟩)] w fun e w' => e = .returned (.int .i64 d.length) ∧ w' = w := by
 obtain ⟨vI, vS, sw, hp, hs, hS⟩ := h
 exact plen_any hp
end
theorem method_less (a : Addr) (w : World) : (method 355 203 (.pointer (some a)) "Less").run Tryz.prog w = .ok (189, .pointer (some a)) w := by kernel_rfl
theorem method_swap (a : Addr) (w : World) : (method 355 203 (.pointer (some a)) "Swap").run Tryz.prog w = .ok (192, .pointer (some a)) w := by kernel_rfl
theorem method_len (a : Addr) (w : World) : (method 355 203 (.pointer (some a)) "Len").run Tryz.prog w = .ok (188, .pointer (some a)) w := by kernel_rfl
theorem method_push (a : Addr) (w : World) : (method 355 203 (.pointer (some a)) "Push").run Tryz.prog w = .ok (191, .pointer (some a)) w := by kernel_rfl
theorem method_pop (a : Addr) (w : World) : (method 355 203 (.pointer (some a)) "Pop").run Tryz.prog w = .ok (190, .pointer (some a)) w := by kernel_rfl
def Risen (lt : It → It → Bool) (S : Nat → Prop) (w : World) (base q bo F : Nat) (d : List It) (m : Nat) (put : Int) (w' : World) : Prop :=
 ∃ d', d'.Perm d ∧ Heap lt d' d'.length ∧ Goes S w w' base q bo F d' m put
def UpAt (lt : It → It → Bool) (S : Nat → Prop) (w : World) (base q bo F : Nat) (d : List It) (m : Nat) (put : Int) (j : Nat) (v : Value) (w' : World) : Prop :=
 ∃ (k : Nat) (dk : List It), v = .int .i64 k ∧ k ≤ j ∧ dk.Perm d ∧ UpHeap lt dk dk.length k ∧ k < dk.length ∧ Goes S w w' base q bo F dk (m + (j - k)) put
set_option maxRecDepth 100000 in
set_option maxHeartbeats 800000 in
theorem up_any {F : Nat} {f : Int → Int → Int} (O : OrdOk F f) (L : Ordered (aheadB f)) {w : World} {base q bo : Nat} {d : List It} {m : Nat} {put : Int} {S : Nat → Prop} (h : PileX w base q bo F d m put S)
 (j : Nat) (hj : j < d.length) (hu : UpHeap (aheadB f) d d.length j) (hm : m + d.length ≤ 1000000000) :
 Calls Tryz.prog 155 #[.iface 203 (.pointer (some ⟨q, 0, none⟩)), .int .i64 j] w fun e w' => e = .returned (.tuple #[]) ∧ Risen (aheadB f) S w base q bo F d (m + j) put w' := by
 go_enter Tryz.func155, Tryz.ntmps155
 go_wp2_with fail
 go_loopw [1] (fun v wr => UpAt (aheadB f) S w base q bo F d m put j v wr) (fun v _ => (intOf v).toNat)
 case atStart => exact ⟨j, d, rfl, Nat.le_refl _, List.Perm.refl _, hu, hj, by simpa using Goes.refl h⟩
 case round =>
  obtain ⟨k, dk, rfl, hkj, hp, hu', hk, S1, hP, hM⟩ := hrel
  cases k with
  | zero =>
    go_wp2_with fail
    go_end0
    exact ⟨rfl, dk, hp, up_end hu' (.inl rfl), S1, by simpa using hP, hM⟩
  | succ k =>
    have q1 : ((k : Int) / 2 == (k : Int) + 1) = false := by rw [beq_eq_false_iff_ne]; omega
    have m1 := method_less
    have m2 := method_swap
    have hpar : par (k + 1) = k / 2 := by unfold par; simp
    have HE : Hid (par (k + 1) = k / 2) := hid hpar
    clear hpar
    cases hb : aheadB f (Heaped.g dk (k + 1)) (Heaped.g dk (k / 2))
    ·have HB := hid hb
     clear hb
     go_wp2_with (go_at_call 189; refine (less_at O hP _ _ (k + 1) (k / 2) (by omega) (by omega) hk (by omega) _ HB).mono ?_; rintro e w1 ⟨rfl, h1⟩)
     go_end0
     exact ⟨rfl, dk, hp, up_end hu' (.inr (by rw [HE.out]; exact HB.out)), S1, (hP.mono (by omega)).ext h1, hM.ext h1⟩
    ·have HB := hid hb
     clear hb
     go_wp2_with (first | (go_at_call 189; refine (less_at O hP _ _ (k + 1) (k / 2) (by omega) (by omega) hk (by omega) _ HB).mono ?_; rintro e w1 ⟨rfl, h1⟩; have hP1 := hP.ext h1) | (go_at_call 192; refine (swap_at hP1 _ _ (k / 2) (k + 1) (by omega) (by omega) (by omega) hk (by have := hp.length_eq; omega)).mono ?_; rintro e w2 ⟨rfl, hG⟩))
     go_roundw
     case rel =>
      obtain ⟨S2, hP2, hM2⟩ := hG
      refine ⟨k / 2, swp dk (k / 2) (k + 1), by go_num, by omega, (swp_perm dk _ _ (by omega) hk).trans hp, ?_, by rw [swp_len]; omega, S2, hP2.mono (by omega), (hM.ext h1).trans hM2⟩
      have := up_step L hu' (by omega) hk (by rw [HE.out]; exact HB.out)
      rwa [HE.out] at this
     case measure => simp [intOf]; omega
end Go.Proofs.YtngpjagpeblbjaaGreatDoor
namespace Go.Proofs.YtngpjagpeblbjaaGreatDoor
open Go.RowKit Go.Spy Go.Heaped
def Sunk (lt : It → It → Bool) (S : Nat → Prop) (w : World) (base q bo F : Nat) (d : List It) (n m : Nat) (put : Int) (e : Ending) (w' : World) : Prop :=
 ∃ (t : Bool) (d' : List It), e = .returned (.bool t) ∧ d'.Perm d ∧ Heap lt d' n ∧ g d' n = g d n ∧ Goes S w w' base q bo F d' m put
def DownAt (lt : It → It → Bool) (S : Nat → Prop) (w : World) (base q bo F : Nat) (d : List It) (n m : Nat) (put : Int) (v : Value) (w' : World) : Prop :=
 ∃ (k : Nat) (dk : List It), v = .int .i64 k ∧ k ≤ n ∧ dk.Perm d ∧ DownHeap lt dk n k ∧ g dk n = g d n ∧ Goes S w w' base q bo F dk (m + k) put
theorem kids {lt : It → It → Bool} {d : List It} {n k j : Nat} (_irr : ∀ x, lt x x = false) (h1 : 2 * k + 1 < n → lt (g d (2 * k + 1)) (g d j) = false) (h2 : 2 * k + 2 < n → lt (g d (2 * k + 2)) (g d j) = false) :
 ∀ i, 0 < i → i < n → par i = k → lt (g d i) (g d j) = false := by
 intro i h0 hi hp
 have : i = 2 * k + 1 ∨ i = 2 * k + 2 := by unfold par at hp; omega
 rcases this with rfl | rfl
 ·exact h1 hi
 ·exact h2 hi
theorem sunk_swap {lt : It → It → Bool} {S : Nat → Prop} {w wr w1 w2 : World} {base q bo F n m k j : Nat} {d dk : List It} {put : Int} {S1 : Nat → Prop} (L : Ordered lt) (hlen : d.length = n + 1) (hp : dk.Perm d) (hd : DownHeap lt dk n k) (hn : g dk n = g d n)
 (hM : Moved S S1 w wr) (h1 : Ext wr w1) (hG : Goes S1 w1 w2 base q bo F (swp dk k j) (m + k + 1) put) (hjn : j < n) (hpj : par j = k) (h0 : 0 < j) (hj : ∀ i, 0 < i → i < n → par i = k → lt (g dk i) (g dk j) = false) (hlt : lt (g dk j) (g dk k) = true) :
 DownAt lt S w base q bo F d n m put (.int .i64 j) w2 := by
 obtain ⟨S2, hP2, hM2⟩ := hG
 have hl := hp.length_eq
 have hkj : k < j := by unfold par at hpj; omega
 refine ⟨j, swp dk k j, rfl, by omega, (swp_perm dk _ _ (by omega) (by omega)).trans hp, down_step L hd (by omega) hjn hpj h0 hj hlt, ?_, S2, hP2.mono (by omega), (hM.ext h1).trans hM2⟩
 rw [g_swp _ _ _ _ (by omega) (by omega), if_neg (by omega), if_neg (by omega)]
 exact hn
set_option maxRecDepth 100000 in
set_option maxHeartbeats 2400000 in
theorem down_any {F : Nat} {f : Int → Int → Int} (O : OrdOk F f) (L : Ordered (aheadB f)) (irr : ∀ x, aheadB f x x = false) {w : World} {base q bo : Nat} {d : List It} {m n : Nat} {put : Int} {S : Nat → Prop} (h : PileX w base q bo F d m put S)
 (hlen : d.length = n + 1) (hu : DownHeap (aheadB f) d n 0) (hm : m + n ≤ 1000000000) :
 Calls Tryz.prog 156 #[.iface 203 (.pointer (some ⟨q, 0, none⟩)), .int .i64 0, .int .i64 n] w fun e w' => Sunk (aheadB f) S w base q bo F d n (m + n) put e w' := by
 have HL := hid hlen
 have hl1 : n < d.length := by omega
 clear hlen
 go_enter Tryz.func156, Tryz.ntmps156
 go_wp2_with fail
 go_loopw [7] (fun v wr => DownAt (aheadB f) S w base q bo F d n m put v wr) (fun v _ => n - (intOf v).toNat)
 case atStart => exact ⟨0, d, rfl, by omega, List.Perm.refl _, hu, rfl, by simpa using Goes.refl h⟩
 case round =>
  obtain ⟨k, dk, rfl, hkn, hp, hd, hn, S1, hP, hM⟩ := hrel
  have m1 := method_less
  have m2 := method_swap
  have HN := hid hn
  clear hn
  have hdl : n < dk.length := by rw [hp.length_eq]; exact hl1
  rcases Nat.lt_or_ge (2 * k + 1) n with hA | hA
  ·have qA : decide ((n : Int) ≤ 2 * (k : Int) + 1) = false := decide_eq_false (by omega)
   rcases Nat.lt_or_ge (2 * k + 2) n with hB | hB
   ·have qB : decide (2 * (k : Int) + 1 + 1 < (n : Int)) = true := decide_eq_true (by omega)
    cases hb : aheadB f (Heaped.g dk (2 * k + 2)) (Heaped.g dk (2 * k + 1))
    ·have HB := hid hb
     clear hb
     cases hc : aheadB f (Heaped.g dk (2 * k + 1)) (Heaped.g dk k)
     ·have HC := hid hc
      clear hc
      go_wp2_with (first | (go_at_call 189; refine (less_at O hP _ _ (2 * k + 2) (2 * k + 1) (by omega) (by omega) (by omega) (by omega) _ HB).mono ?_; rintro e w1 ⟨rfl, h1⟩; have hP1 := hP.ext h1) | (go_at_call 189; refine (less_at O hP1 _ _ (2 * k + 1) (k) (by omega) (by omega) (by omega) (by omega) _ HC).mono ?_; rintro e w2 ⟨rfl, h2⟩; have hP2 := hP1.ext h2))
      go_ret
      exact ⟨_, dk, rfl, hp, down_end L hd (kids irr (fun _ => irr _) (fun _ => HB.out)) (.inr HC.out), HN.out, S1, (hP.mono (by omega)).ext (ext_trans h1 h2), hM.ext (ext_trans h1 h2)⟩
     ·have HC := hid hc
      clear hc
      go_wp2_with (first | (go_at_call 189; refine (less_at O hP _ _ (2 * k + 2) (2 * k + 1) (by omega) (by omega) (by omega) (by omega) _ HB).mono ?_; rintro e w1 ⟨rfl, h1⟩; have hP1 := hP.ext h1) | (go_at_call 189; refine (less_at O hP1 _ _ (2 * k + 1) (k) (by omega) (by omega) (by omega) (by omega) _ HC).mono ?_; rintro e w2 ⟨rfl, h2⟩; have hP2 := hP1.ext h2) | (go_at_call 192; refine (swap_at hP2 _ _ k (2 * k + 1) (by omega) (by omega) (by omega) (by omega) (by omega)).mono ?_; rintro e w3 ⟨rfl, hG⟩))
      go_roundw
      case rel =>
       have hR := sunk_swap L HL.out hp hd HN.out hM (ext_trans h1 h2) hG (by omega) (by unfold par; omega) (by omega) (kids irr (fun _ => irr _) (fun _ => HB.out)) HC.out
       first | exact hR | simpa using hR
      case measure => simp [intOf]; omega
    ·have HB := hid hb
     clear hb
     cases hc : aheadB f (Heaped.g dk (2 * k + 2)) (Heaped.g dk k)
     ·have HC := hid hc
      clear hc
      go_wp2_with (first | (go_at_call 189; refine (less_at O hP _ _ (2 * k + 2) (2 * k + 1) (by omega) (by omega) (by omega) (by omega) _ HB).mono ?_; rintro e w1 ⟨rfl, h1⟩; have hP1 := hP.ext h1) | (go_at_call 189; refine (less_at O hP1 _ _ (2 * k + 2) (k) (by omega) (by omega) (by omega) (by omega) _ HC).mono ?_; rintro e w2 ⟨rfl, h2⟩; have hP2 := hP1.ext h2))
      go_ret
      exact ⟨_, dk, rfl, hp, down_end L hd (kids irr (fun _ => L.asym _ _ HB.out) (fun _ => irr _)) (.inr HC.out), HN.out, S1, (hP.mono (by omega)).ext (ext_trans h1 h2), hM.ext (ext_trans h1 h2)⟩
     ·have HC := hid hc
      clear hc
      go_wp2_with (first | (go_at_call 189; refine (less_at O hP _ _ (2 * k + 2) (2 * k + 1) (by omega) (by omega) (by omega) (by omega) _ HB).mono ?_; rintro e w1 ⟨rfl, h1⟩; have hP1 := hP.ext h1) | (go_at_call 189; refine (less_at O hP1 _ _ (2 * k + 2) (k) (by omega) (by omega) (by omega) (by omega) _ HC).mono ?_; rintro e w2 ⟨rfl, h2⟩; have hP2 := hP1.ext h2) | (go_at_call 192; refine (swap_at hP2 _ _ k (2 * k + 2) (by omega) (by omega) (by omega) (by omega) (by omega)).mono ?_; rintro e w3 ⟨rfl, hG⟩))
      go_roundw
      case rel =>
       have hR := sunk_swap L HL.out hp hd HN.out hM (ext_trans h1 h2) hG (by omega) (by unfold par; omega) (by omega) (kids irr (fun _ => L.asym _ _ HB.out) (fun _ => irr _)) HC.out
       first | exact hR | simpa using hR
      case measure => simp [intOf]; omega
   ·have qB : decide (2 * (k : Int) + 1 + 1 < (n : Int)) = false := decide_eq_false (by omega)
    cases hc : aheadB f (Heaped.g dk (2 * k + 1)) (Heaped.g dk k)
    ·have HC := hid hc
     clear hc
     go_wp2_with ((go_at_call 189; refine (less_at O hP _ _ (2 * k + 1) (k) (by omega) (by omega) (by omega) (by omega) _ HC).mono ?_; rintro e w2 ⟨rfl, h2⟩; have hP2 := hP.ext h2))
     go_ret
     exact ⟨_, dk, rfl, hp, down_end L hd (kids irr (fun _ => irr _) (fun h => by omega)) (.inr HC.out), HN.out, S1, (hP.mono (by omega)).ext h2, hM.ext h2⟩
    ·have HC := hid hc
     clear hc
     go_wp2_with (first | (go_at_call 189; refine (less_at O hP _ _ (2 * k + 1) (k) (by omega) (by omega) (by omega) (by omega) _ HC).mono ?_; rintro e w2 ⟨rfl, h2⟩; have hP2 := hP.ext h2) | (go_at_call 192; refine (swap_at hP2 _ _ k (2 * k + 1) (by omega) (by omega) (by omega) (by omega) (by omega)).mono ?_; rintro e w3 ⟨rfl, hG⟩))
     go_roundw
     case rel =>
      have hR := sunk_swap L HL.out hp hd HN.out hM h2 hG (by omega) (by unfold par; omega) (by omega) (kids irr (fun _ => irr _) (fun h => by omega)) HC.out
      first | exact hR | simpa using hR
     case measure => simp [intOf]; omega
  ·have qA : decide ((n : Int) ≤ 2 * (k : Int) + 1) = true := decide_eq_true (by omega)
   go_wp2_with fail
   go_ret
   exact ⟨_, dk, rfl, hp, down_end (j := k) L hd (kids irr (fun h => by omega) (fun h => by omega)) (.inl hA), HN.out, S1, hP.mono (by omega), hM⟩
end Go.Proofs.YtngpjagpeblbjaaGreatDoor
namespace Go.Proofs.YtngpjagpeblbjaaGreatDoor
open Go.RowKit Go.Spy Go.Heaped
set_option maxRecDepth 100000 in
set_option maxHeartbeats 800000 in
theorem hpush_any {F : Nat} {f : Int → Int → Int} (O : OrdOk F f) (L : Ordered (aheadB f)) {w : World} {base q bo : Nat} {d : List It} {m : Nat} {put : Int} {S : Nat → Prop} (h : PileX w base q bo F d m put S)
 (x : It) (hu : Heap (aheadB f) d d.length) (hm : m + d.length + 1 ≤ 1000000000) :
 Calls Tryz.prog 133 #[.iface 203 (.pointer (some ⟨q, 0, none⟩)), .iface 194 (itemV x)] w fun e w' => e = .returned (.tuple #[]) ∧ Risen (aheadB f) S w base q bo F (d ++ [x]) (m + d.length) put w' := by
 have m1 := method_push
 have m2 := method_len
 have hL : Hid ((d ++ [x]).length = d.length + 1) := hid (by simp)
 have hlen : (((d ++ [x]).length : Nat) : Int) = (d.length : Int) + 1 := by rw [hL.out]; rfl
 have HU := hid (up_start x hu)
 go_enter Tryz.func133, Tryz.ntmps133
 go_wp2_with (first | (go_at_call 191; refine (push_any h x (by omega)).mono ?_; rintro e w1 ⟨rfl, S1, hP, hM⟩) | (go_at_call 188; refine (plen_at hP).mono ?_; rintro e w' ⟨rfl, rfl⟩) | (go_at_call 155; refine (up_any O L hP d.length (by rw [hL.out]; omega) HU.out (by rw [hL.out]; omega)).mono ?_; rintro e w2 ⟨rfl, hR⟩))
 go_end0
 obtain ⟨d', r1, r2, S2, hP2, hM2⟩ := hR
 exact ⟨rfl, d', r1, r2, S2, hP2, hM.trans hM2⟩
theorem last_form {d : List It} {n : Nat} (h : d.length = n + 1) : d = d.take n ++ [g d n] := by
 conv => lhs; rw [← List.take_append_drop n d]
 congr 1
 rw [List.drop_eq_getElem_cons (by omega), List.drop_of_length_le (by omega), g, List.getD_eq_getElem?_getD, List.getElem?_eq_getElem (by omega)]
 rfl
theorem heap_take {lt : It → It → Bool} {d : List It} {n : Nat} (h : Heap lt d n) (hn : n ≤ d.length) : Heap lt (d.take n) (d.take n).length := by
 have hl : (d.take n).length = n := by simp; omega
 have hg : ∀ k, k < n → g (d.take n) k = g d k := fun k hk => by simp [g, List.getD_eq_getElem?_getD, hk]
 rw [hl]
 intro k k0 hk
 rw [hg _ hk, hg _ (by unfold par; omega)]
 exact h k k0 hk
def HPopped (lt : It → It → Bool) (S : Nat → Prop) (w : World) (base q bo F : Nat) (d : List It) (m : Nat) (put : Int) (e : Ending) (w' : World) : Prop :=
 ∃ d', e = .returned (.iface 194 (itemV (g d 0))) ∧ (d' ++ [g d 0]).Perm d ∧ Heap lt d' d'.length ∧ Goes S w w' base q bo F d' m put
set_option maxRecDepth 100000 in
set_option maxHeartbeats 800000 in
theorem hpop_any {F : Nat} {f : Int → Int → Int} (O : OrdOk F f) (L : Ordered (aheadB f)) (irr : ∀ x, aheadB f x x = false) {w : World} {base q bo : Nat} {d : List It} {m n : Nat} {put : Int} {S : Nat → Prop} (h : PileX w base q bo F d m put S)
 (hd : Hid (d.length = n + 1)) (hu : Heap (aheadB f) d d.length) (hm : m + n + 1 ≤ 1000000000) :
 Calls Tryz.prog 135 #[.iface 203 (.pointer (some ⟨q, 0, none⟩))] w fun e w' => HPopped (aheadB f) S w base q bo F d (m + 1 + n) put e w' := by
 have m1 := method_pop
 have m2 := method_len
 have m3 := method_swap
 have hl1 : n < d.length := by rw [hd.out]; omega
 have hlen : ((d.length : Nat) : Int) = (n : Int) + 1 := by rw [hd.out]; rfl
 have hu2 : DownHeap (aheadB f) (swp d 0 n) n 0 := down_start hd.out hu
 have hl2 : (swp d 0 n).length = n + 1 := by rw [swp_len, hd.out]
 have HS := hid hl2
 have gn : g (swp d 0 n) n = g d 0 := by rw [g_swp _ _ _ _ (by omega) (by omega), if_pos rfl]
 have GN := hid gn
 clear hl2 gn
 obtain ⟨x0, hx0⟩ : ∃ x0, x0 = g d 0 := ⟨_, rfl⟩
 have HX := hid hx0
 clear hx0
 go_enter Tryz.func135, Tryz.ntmps135
 go_wp2_with (first | (go_at_call 188; refine (plen_at h).mono ?_; rintro e w' ⟨rfl, rfl⟩) | (go_at_call 192; refine (swap_at h _ _ 0 n rfl rfl (by omega) hl1 (by omega)).mono ?_; rintro e w1 ⟨rfl, S1, hP1, hM1⟩) | (go_at_call 156; refine (down_any O L irr hP1 HS.out hu2 (by omega)).mono ?_; rintro e w2 ⟨t, d2, rfl, p2, h2, g2, S2, hP2, hM2⟩; have G2 : Hid (d2 = d2.take n ++ [x0]) := hid ((last_form (p2.length_eq.trans HS.out)).trans (by rw [g2, GN.out, HX.out])); have hPl : PileX w2 base q bo F (d2.take n ++ [x0]) (m + 1 + n) put S2 := G2.out ▸ hP2; have hln : (d2.take n).length + 1 ≤ 1000000000 := (by rw [List.length_take]; omega); clear g2 hP2) | (go_at_call 190; refine (pop_any hPl hln).mono ?_; rintro e w3 ⟨rfl, S3, hP3, hM3⟩))
 go_ret
 refine ⟨d2.take n, (by rw [← HX.out]; rfl), ?_, heap_take h2 (by rw [p2.length_eq, HS.out]; omega), S3, hP3, (hM1.trans hM2).trans hM3⟩
 rw [← HX.out, ← G2.out]
 exact p2.trans (swp_perm d 0 n (by omega) hl1)
end Go.Proofs.YtngpjagpeblbjaaGreatDoor
namespace Go.Proofs.YtngpjagpeblbjaaGreatDoor
open Go.RowKit Go.Spy Go.Heaped
theorem put_idle (a b c : Addr) (w : World) :
 CallsD Tryz.prog 131 #[.pointer (some a), .pointer (some b), .pointer (some c)] .returning w fun e u' w' => e = .returned (.tuple #[]) ∧ u' = .returning ∧ w' = w := by
 refine callsD_of_wpS Tryz.func131 rfl fun c₀ cs hu => ?_
 apply wpS_seq
 apply wpS_region
 simp [wpOpsS, go_sem, recoverD, hu, Tryz.ntmps131, Exit.thenS]
 refine wpS_cond (t := false) (by simp [Act.eval, Array.replicate]) ?_
 simp only [Bool.false_eq_true, if_false]
 refine wpS_of_wp (wp_skip ?_)
 cases c₀
 simp_all [bodyPostS, results, Tryz.results131]
theorem take_idle (a b c d e : Addr) (w : World) :
 CallsD Tryz.prog 134 #[.pointer (some a), .pointer (some b), .pointer (some c), .pointer (some d), .pointer (some e)] .returning w fun e u' w' => e = .returned (.tuple #[]) ∧ u' = .returning ∧ w' = w := by
 refine callsD_of_wpS Tryz.func134 rfl fun c₀ cs hu => ?_
 apply wpS_seq
 apply wpS_region
 simp [wpOpsS, go_sem, recoverD, hu, Tryz.ntmps134, Exit.thenS]
 refine wpS_cond (t := false) (by simp [Act.eval, Array.replicate]) ?_
 simp only [Bool.false_eq_true, if_false]
 refine wpS_of_wp (wp_skip ?_)
 cases c₀
 simp_all [bodyPostS, results, Tryz.results134]
theorem Pile.reset {F : Nat} {w : World} {base q bo n cap : Nat} {vI : Value} {ao : Option Addr} {d : List It} {sw : List (Int × Int)} {put : Int} (h : Pile w base q bo F vI (.slice ao n cap) d sw put) :
 Pile (w.setCell ⟨q, 1, none⟩ (.slice ao 0 cap)) base q bo F vI (.slice ao 0 cap) d [] put ∧ Moved (own q vI (.slice ao n cap)) (own q vI (.slice ao 0 cap)) w (w.setCell ⟨q, 1, none⟩ (.slice ao 0 cap)) := by
 have c5 : Chg (own q vI (.slice ao n cap)) w (w.setCell ⟨q, 1, none⟩ (.slice ao 0 cap)) := (Chg.refl _ w).setCell (.inl rfl) _
 have e0 : (Value.slice ao 0 cap).ownBlock = (Value.slice ao n cap).ownBlock := by cases ao <;> rfl
 refine ⟨⟨h.blk.set 1 _, h.ord.chg c5 h.bo_free, owns_setOther h.items (p := ⟨q, 1, none⟩) h.vI_q _, ?_, h.hq⟩, c5, fun k hk => .inl (by unfold own at *; rw [e0] at hk; exact hk)⟩
 refine owns_setOther ?_ (p := ⟨q, 1, none⟩) (by rw [e0]; exact h.vS_q) _
 have hs := h.swaps
 obtain ⟨ao', cap', hv, _, hg⟩ := slice_form hs
 simp only [Value.slice.injEq] at hv
 obtain ⟨rfl, rfl, rfl⟩ := hv
 rcases hs.2 with ⟨h0, _⟩ | ⟨g', cap', cur, hv, _⟩
 ·simp only [Value.slice.injEq] at h0
  obtain ⟨rfl, _, rfl⟩ := h0
  exact World.ownsRow_nil w base 83 2
 ·simp only [Value.slice.injEq] at hv
  obtain ⟨rfl, _, rfl⟩ := hv
  exact owns_take hs 0 (Nat.zero_le _)
theorem Pile.counted {F : Nat} {w : World} {base q bo : Nat} {vI vS : Value} {d : List It} {sw : List (Int × Int)} {put : Int} (h : Pile w base q bo F vI vS d sw put) (put' : Int) :
 Pile (w.setCell ⟨q, 3, none⟩ (.int .u64 put')) base q bo F vI vS d sw put' ∧ Moved (own q vI vS) (own q vI vS) w (w.setCell ⟨q, 3, none⟩ (.int .u64 put')) := by
 have c5 : Chg (own q vI vS) w (w.setCell ⟨q, 3, none⟩ (.int .u64 put')) := (Chg.refl _ w).setCell (.inl rfl) _
 exact ⟨⟨h.blk.set 3 _, h.ord.chg c5 h.bo_free, owns_setOther h.items (p := ⟨q, 3, none⟩) h.vI_q _, owns_setOther h.swaps (p := ⟨q, 3, none⟩) h.vS_q _, h.hq⟩, c5, fun k hk => .inl hk⟩
end Go.Proofs.YtngpjagpeblbjaaGreatDoor
