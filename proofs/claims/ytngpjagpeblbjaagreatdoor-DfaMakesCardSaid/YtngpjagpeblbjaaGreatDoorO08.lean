/-
  Walk of the law DfaMakes.
-/
import Derived.StillTailTactics
import Derived.Deep.QuietTactic
import Derived.BigQuiet
import Derived.BigRegion
import Derived.Outline
import Derived.WalkSpells
import Derived.Lib.TrailingZeros
import Derived.Deep.Draws
import Derived.Laws.ResultCell
import Derived.Laws.CopyRow
import Derived.Laws.OwnMore
import Derived.WalkKit
import Derived.WalkLawsBesides
import Derived.Deep.LoopGhost
import Derived.Deep.DeepCutAuto
import Derived.Test.YtngpjagpeblbjaaGreatDoorO07
import Derived.Test.YtngpjagpeblbjaaGreatDoorO02
import Derived.Test.YtngpjagpeblbjaaGreatDoorO01
namespace Go.Proofs.YtngpjagpeblbjaaGreatDoor
open Go.RowKit Go.Spy Go.Heaped Go.Tour Go.Rx
set_option maxRecDepth 100000 in
set_option maxHeartbeats 4000000 in
theorem makes_out {w : World} {l : List Nd} {aoL : Option Addr} {capL : Nat} (hL : NodesV w aoL l) {aw : Option Addr} {cw : Nat} {more : List ByteArray} (hM : StrsV w aw cw more) (hT : TabW w) (h : ¬ (SmallL l ∧ more.length ≤ 4)) : Calls Tryz.prog 5 #[.agg #[.slice aoL l.length capL], .slice aw more.length cw] w (TruePost w) := by
 obtain ⟨nl, hnl⟩ : ∃ n, n = l.length := ⟨_, rfl⟩
 obtain ⟨nm, hnm⟩ : ∃ n, n = more.length := ⟨_, rfl⟩
 have HNL := hid hnl
 have HNM := hid hnm
 have HT := hid hT
 have HL0 := hid hL
 have HW0 := hid (read_of_strs hM)
 have HMI := hid (strs_mild hM)
 rw [← hnm] at HW0
 rw [← hnl, ← hnm]
 have HN := hid h
 have hnm9 : nm ≤ 140737488351232 := by rw [hnm]; exact hM.len
 clear h
 clear hnl hnm hL hM hT
 obtain ⟨w1, hw1⟩ : ∃ u, u = w.alloc (.cells #[.slice aoL nl capL] 45) := ⟨_, rfl⟩
 have ew1 : Ext w w1 := hw1 ▸ (Below.refl _ _).alloc (Nat.le_refl _) _
 have HBrn : Hid (Blk w1 w.heap.size 45 #[.slice aoL nl capL]) := hid (hw1 ▸ Blk.new _ _ _)
 have HWw1 := hid hw1
 have HE1 : Hid (Ext w w1) := hid (ew1)
 have HL1 := hid (HL0.out.ext (ew1))
 have HW1 := hid (HW0.out.ext (ew1))
 clear ew1 hw1
 go_enter Tryz.func5, Tryz.ntmps5
 go_wp2_with fail
 rw [← HWw1.out]
 refine (small_n HNL.out HL1.out capL).mono ?_
 rintro e w2 ⟨b, rfl, hb, hx⟩
 have HE2 : Hid (Ext w w2) := hid (HE1.out.trans ((hx).mono HE1.out.size))
 have HBr2 := hid (HBrn.out.ext (hx))
 have HL2 := hid (HL1.out.ext (hx))
 have HW2 := hid (HW1.out.ext (hx))
 clear hx
 have HBB := hid hb
 clear hb
 cases b
 ·obtain ⟨cr0, lr⟩ := HBr2.out.c1
  go_wp2_with fail
  refine (awake8_any (HT.out.ext HE2.out)).mono ?_
  rintro e w3 ⟨rfl, hx⟩
  clear cr0 lr
  have HE3 : Hid (Ext w w3) := hid (HE2.out.trans ((hx).mono HE2.out.size))
  have HBr3 := hid (HBr2.out.ext (hx))
  have HL3 := hid (HL2.out.ext (hx))
  have HW3 := hid (HW2.out.ext (hx))
  clear hx
  obtain ⟨cr0, lr⟩ := HBr3.out.c1
  go_wp2_with fail
  go_ret
  exact ⟨rfl, HE3.out⟩
 ·have HS := hid (HBB.out.1 rfl)
  have hw : 4 < nm := Nat.lt_of_not_le fun hle => HN.out ⟨HS.out, by rw [← HNM.out]; exact hle⟩
  have hw1 : decide (4 < nm) = true := decide_eq_true hw
  have hw2 : decide ((4 : Int) < (nm : Int)) = true := decide_eq_true (by omega)
  obtain ⟨cr0, lr⟩ := HBr2.out.c1
  go_wp2_with fail
  refine (awake8_any (HT.out.ext HE2.out)).mono ?_
  rintro e w3 ⟨rfl, hx⟩
  clear cr0 lr
  have HE3 : Hid (Ext w w3) := hid (HE2.out.trans ((hx).mono HE2.out.size))
  have HBr3 := hid (HBr2.out.ext (hx))
  have HL3 := hid (HL2.out.ext (hx))
  have HW3 := hid (HW2.out.ext (hx))
  clear hx
  obtain ⟨cr0, lr⟩ := HBr3.out.c1
  go_wp2_with fail
  go_ret
  exact ⟨rfl, HE3.out⟩
set_option maxRecDepth 100000 in
set_option maxHeartbeats 4000000 in
theorem makes_ill {w : World} {l : List Nd} {aoL : Option Addr} {capL : Nat} (hL : NodesV w aoL l) {aw : Option Addr} {cw : Nat} {more : List ByteArray} (hM : StrsV w aw cw more) (hT : TabW w) (hS : SmallL l) (h4 : more.length ≤ 4) {c : Int} (hC : CheckC l c) (h0 : c ≠ 0) : Calls Tryz.prog 5 #[.agg #[.slice aoL l.length capL], .slice aw more.length cw] w (TruePost w) := by
 obtain ⟨nl, hnl⟩ : ∃ n, n = l.length := ⟨_, rfl⟩
 obtain ⟨nm, hnm⟩ : ∃ n, n = more.length := ⟨_, rfl⟩
 have HNL := hid hnl
 have HNM := hid hnm
 have HT := hid hT
 have HL0 := hid hL
 have HW0 := hid (read_of_strs hM)
 have HMI := hid (strs_mild hM)
 rw [← hnm] at HW0
 rw [← hnl, ← hnm]
 have h4 : nm ≤ 4 := by rw [hnm]; exact h4
 have HS := hid hS
 have hw1 : decide (4 < nm) = false := decide_eq_false (by omega)
 have hw2 : decide ((4 : Int) < (nm : Int)) = false := decide_eq_false (by omega)
 have hl24 : l.length ≤ 24 := hS.1
 have HC := hid hC
 have HC0 := hid h0
 have t0 : (c != 0) = true := by simp [h0]
 have t1 : (c == c) = true := by simp
 clear hC h0 hS
 clear hnl hnm hL hM hT
 obtain ⟨w1, hw1⟩ : ∃ u, u = w.alloc (.cells #[.slice aoL nl capL] 45) := ⟨_, rfl⟩
 have ew1 : Ext w w1 := hw1 ▸ (Below.refl _ _).alloc (Nat.le_refl _) _
 have HBrn : Hid (Blk w1 w.heap.size 45 #[.slice aoL nl capL]) := hid (hw1 ▸ Blk.new _ _ _)
 have HWw1 := hid hw1
 have HE1 : Hid (Ext w w1) := hid (ew1)
 have HL1 := hid (HL0.out.ext (ew1))
 have HW1 := hid (HW0.out.ext (ew1))
 clear ew1 hw1
 go_enter Tryz.func5, Tryz.ntmps5
 go_wp2_with fail
 rw [← HWw1.out]
 refine (small_n HNL.out HL1.out capL).mono ?_
 rintro e w2 ⟨b, rfl, hb, hx⟩
 have HE2 : Hid (Ext w w2) := hid (HE1.out.trans ((hx).mono HE1.out.size))
 have HBr2 := hid (HBrn.out.ext (hx))
 have HL2 := hid (HL1.out.ext (hx))
 have HW2 := hid (HW1.out.ext (hx))
 clear hx
 obtain rfl : b = true := hb.2 HS.out
 clear hb
 obtain ⟨cr0, lr⟩ := HBr2.out.c1
 go_wp2_with fail
 refine (ill_n HNL.out HL2.out HC.out HC0.out HW2.out).mono ?_
 rintro e w3 ⟨rfl, hx⟩
 clear cr0 lr
 have HE3 : Hid (Ext w w3) := hid (HE2.out.trans ((hx).mono HE2.out.size))
 have HBr3 := hid (HBr2.out.ext (hx))
 have HL3 := hid (HL2.out.ext (hx))
 have HW3 := hid (HW2.out.ext (hx))
 clear hx
 obtain ⟨cr0, lr⟩ := HBr3.out.c1
 go_wp2_with fail
 obtain ⟨w4, hw4⟩ : ∃ u, u = w3.alloc (.cells #[.slice none 0 0, .slice none 0 0, .slice none 0 0] 26) := ⟨_, rfl⟩
 have ew4 : Ext w3 w4 := hw4 ▸ (Below.refl _ _).alloc (Nat.le_refl _) _
 have HBdn : Hid (Blk w4 w3.heap.size 26 #[.slice none 0 0, .slice none 0 0, .slice none 0 0]) := hid (hw4 ▸ Blk.new _ _ _)
 have HWw4 := hid hw4
 clear cr0 lr
 have HE4 : Hid (Ext w w4) := hid (HE3.out.trans ((ew4).mono HE3.out.size))
 have HBr4 := hid (HBr3.out.ext (ew4))
 have HL4 := hid (HL3.out.ext (ew4))
 have HW4 := hid (HW3.out.ext (ew4))
 clear ew4 hw4
 rw [← HWw4.out]
 obtain ⟨cr0, lr⟩ := HBr4.out.c1
 obtain ⟨cd0, cd1, cd2, ld⟩ := HBdn.out.c3
 go_wp2_with fail
 refine (plain_n HNL.out HL4.out capL (by omega)).mono ?_
 rintro e w5 ⟨aoP, cP, rfl, hP, hx⟩
 clear cr0 lr cd0 cd1 cd2 ld
 have HE5 : Hid (Ext w w5) := hid (HE4.out.trans ((hx).mono HE4.out.size))
 have HBr5 := hid (HBr4.out.ext (hx))
 have HBd5 := hid (HBdn.out.ext (hx))
 have HL5 := hid (HL4.out.ext (hx))
 have HW5 := hid (HW4.out.ext (hx))
 have HP0 := hid hP
 clear hx hP
 obtain ⟨cr0, lr⟩ := HBr5.out.c1
 obtain ⟨cd0, cd1, cd2, ld⟩ := HBd5.out.c3
 go_wp2_with fail
 refine (refcheck_n HNL.out HP0.out cP HC.out).mono ?_
 rintro e w6 ⟨rfl, hx⟩
 clear cr0 lr cd0 cd1 cd2 ld
 have HE6 : Hid (Ext w w6) := hid (HE5.out.trans ((hx).mono HE5.out.size))
 have HBr6 := hid (HBr5.out.ext (hx))
 have HBd6 := hid (HBd5.out.ext (hx))
 have HL6 := hid (HL5.out.ext (hx))
 have HW6 := hid (HW5.out.ext (hx))
 have HP6 := hid (HP0.out.ext (hx))
 clear hx
 obtain ⟨cr0, lr⟩ := HBr6.out.c1
 obtain ⟨cd0, cd1, cd2, ld⟩ := HBd6.out.c3
 go_wp2_with fail
 refine (none_nil _).mono ?_
 rintro e w7 ⟨rfl, hx⟩
 clear cr0 lr cd0 cd1 cd2 ld
 have HE7 : Hid (Ext w w7) := hid (HE6.out.trans ((hx).mono HE6.out.size))
 have HBr7 := hid (HBr6.out.ext (hx))
 have HBd7 := hid (HBd6.out.ext (hx))
 have HL7 := hid (HL6.out.ext (hx))
 have HW7 := hid (HW6.out.ext (hx))
 have HP7 := hid (HP6.out.ext (hx))
 clear hx
 obtain ⟨cr0, lr⟩ := HBr7.out.c1
 obtain ⟨cd0, cd1, cd2, ld⟩ := HBd7.out.c3
 go_wp2_with fail
 refine (awake8_any (HT.out.ext HE7.out)).mono ?_
 rintro e w8 ⟨rfl, hx⟩
 clear cr0 lr cd0 cd1 cd2 ld
 have HE8 : Hid (Ext w w8) := hid (HE7.out.trans ((hx).mono HE7.out.size))
 have HBr8 := hid (HBr7.out.ext (hx))
 have HBd8 := hid (HBd7.out.ext (hx))
 have HL8 := hid (HL7.out.ext (hx))
 have HW8 := hid (HW7.out.ext (hx))
 have HP8 := hid (HP7.out.ext (hx))
 clear hx
 obtain ⟨cr0, lr⟩ := HBr8.out.c1
 obtain ⟨cd0, cd1, cd2, ld⟩ := HBd8.out.c3
 go_wp2_with fail
 go_ret
 exact ⟨rfl, HE8.out⟩
set_option maxRecDepth 100000 in
set_option maxHeartbeats 4000000 in
theorem makes_badw {w : World} {l : List Nd} {aoL : Option Addr} {capL : Nat} (hL : NodesV w aoL l) {aw : Option Addr} {cw : Nat} {more : List ByteArray} (hM : StrsV w aw cw more) (hT : TabW w) (hS : SmallL l) (h4 : more.length ≤ 4) (hok : OkL l) (hbad : ∃ x ∈ more, nameOk x = false) : Calls Tryz.prog 5 #[.agg #[.slice aoL l.length capL], .slice aw more.length cw] w (TruePost w) := by
 obtain ⟨nl, hnl⟩ : ∃ n, n = l.length := ⟨_, rfl⟩
 obtain ⟨nm, hnm⟩ : ∃ n, n = more.length := ⟨_, rfl⟩
 have HNL := hid hnl
 have HNM := hid hnm
 have HT := hid hT
 have HL0 := hid hL
 have HW0 := hid (read_of_strs hM)
 have HMI := hid (strs_mild hM)
 rw [← hnm] at HW0
 rw [← hnl, ← hnm]
 have h4 : nm ≤ 4 := by rw [hnm]; exact h4
 have HS := hid hS
 have hw1 : decide (4 < nm) = false := decide_eq_false (by omega)
 have hw2 : decide ((4 : Int) < (nm : Int)) = false := decide_eq_false (by omega)
 have hl24 : l.length ≤ 24 := hS.1
 have HOKL := hid hok
 have HBAD := hid hbad
 clear hok hbad hS
 clear hnl hnm hL hM hT
 obtain ⟨w1, hw1⟩ : ∃ u, u = w.alloc (.cells #[.slice aoL nl capL] 45) := ⟨_, rfl⟩
 have ew1 : Ext w w1 := hw1 ▸ (Below.refl _ _).alloc (Nat.le_refl _) _
 have HBrn : Hid (Blk w1 w.heap.size 45 #[.slice aoL nl capL]) := hid (hw1 ▸ Blk.new _ _ _)
 have HWw1 := hid hw1
 have HE1 : Hid (Ext w w1) := hid (ew1)
 have HL1 := hid (HL0.out.ext (ew1))
 have HW1 := hid (HW0.out.ext (ew1))
 clear ew1 hw1
 go_enter Tryz.func5, Tryz.ntmps5
 go_wp2_with fail
 rw [← HWw1.out]
 refine (small_n HNL.out HL1.out capL).mono ?_
 rintro e w2 ⟨b, rfl, hb, hx⟩
 have HE2 : Hid (Ext w w2) := hid (HE1.out.trans ((hx).mono HE1.out.size))
 have HBr2 := hid (HBrn.out.ext (hx))
 have HL2 := hid (HL1.out.ext (hx))
 have HW2 := hid (HW1.out.ext (hx))
 clear hx
 obtain rfl : b = true := hb.2 HS.out
 clear hb
 obtain ⟨cr0, lr⟩ := HBr2.out.c1
 go_wp2_with fail
 refine (badM_n HNL.out HOKL.out HL2.out (by omega) HW2.out (by rw [← HNM.out]; omega) HMI.out.size HBAD.out).mono ?_
 rintro e w3 ⟨rfl, hx⟩
 clear cr0 lr
 have HE3 : Hid (Ext w w3) := hid (HE2.out.trans ((hx).mono HE2.out.size))
 have HBr3 := hid (HBr2.out.ext (hx))
 have HL3 := hid (HL2.out.ext (hx))
 have HW3 := hid (HW2.out.ext (hx))
 clear hx
 obtain ⟨cr0, lr⟩ := HBr3.out.c1
 go_wp2_with fail
 obtain ⟨w4, hw4⟩ : ∃ u, u = w3.alloc (.cells #[.slice none 0 0, .slice none 0 0, .slice none 0 0] 26) := ⟨_, rfl⟩
 have ew4 : Ext w3 w4 := hw4 ▸ (Below.refl _ _).alloc (Nat.le_refl _) _
 have HBdn : Hid (Blk w4 w3.heap.size 26 #[.slice none 0 0, .slice none 0 0, .slice none 0 0]) := hid (hw4 ▸ Blk.new _ _ _)
 have HWw4 := hid hw4
 clear cr0 lr
 have HE4 : Hid (Ext w w4) := hid (HE3.out.trans ((ew4).mono HE3.out.size))
 have HBr4 := hid (HBr3.out.ext (ew4))
 have HL4 := hid (HL3.out.ext (ew4))
 have HW4 := hid (HW3.out.ext (ew4))
 clear ew4 hw4
 rw [← HWw4.out]
 obtain ⟨cr0, lr⟩ := HBr4.out.c1
 obtain ⟨cd0, cd1, cd2, ld⟩ := HBdn.out.c3
 go_wp2_with fail
 refine (plain_n HNL.out HL4.out capL (by omega)).mono ?_
 rintro e w5 ⟨aoP, cP, rfl, hP, hx⟩
 clear cr0 lr cd0 cd1 cd2 ld
 have HE5 : Hid (Ext w w5) := hid (HE4.out.trans ((hx).mono HE4.out.size))
 have HBr5 := hid (HBr4.out.ext (hx))
 have HBd5 := hid (HBdn.out.ext (hx))
 have HL5 := hid (HL4.out.ext (hx))
 have HW5 := hid (HW4.out.ext (hx))
 have HP0 := hid hP
 clear hx hP
 obtain ⟨cr0, lr⟩ := HBr5.out.c1
 obtain ⟨cd0, cd1, cd2, ld⟩ := HBd5.out.c3
 go_wp2_with fail
 refine (refcheck_n HNL.out HP0.out cP (checkC_ok HOKL.out)).mono ?_
 rintro e w6 ⟨rfl, hx⟩
 clear cr0 lr cd0 cd1 cd2 ld
 have HE6 : Hid (Ext w w6) := hid (HE5.out.trans ((hx).mono HE5.out.size))
 have HBr6 := hid (HBr5.out.ext (hx))
 have HBd6 := hid (HBd5.out.ext (hx))
 have HL6 := hid (HL5.out.ext (hx))
 have HW6 := hid (HW5.out.ext (hx))
 have HP6 := hid (HP0.out.ext (hx))
 clear hx
 obtain ⟨cr0, lr⟩ := HBr6.out.c1
 obtain ⟨cd0, cd1, cd2, ld⟩ := HBd6.out.c3
 go_wp2_with fail
 go_loopg [9, 10] nm (fun g v u wr => ∃ (i : Nat) (ao : Option Addr) (n c : Nat), g = nm - i ∧ i ≤ nm ∧ u = .int .i64 i ∧ v = .slice ao n c ∧ n ≤ c ∧ Hid (Ext w6 wr ∧ ReadR wr 1 strC (.slice ao n c) (sortW (more.take i))) ∧ Hid (∀ (j : Nat) (x : ByteArray), j < i → more[j]? = some x → nameOk x = true))
 case atStart => exact ⟨0, none, 0, 0, rfl, Nat.zero_le _, rfl, rfl, Nat.le_refl _, hid ⟨Below.refl _ _, by
  rw [List.take_zero, sortW_nil]
  exact ⟨none, 0, rfl, .inl rfl⟩⟩, hid (fun j x h => absurd h (Nat.not_lt_zero j))⟩
 case round =>
  clear cr0 lr cd0 cd1 cd2 ld
  obtain ⟨i, ao, n, c, rfl, hi, rfl, rfl, hnc, HV, HG⟩ := hrel
  have HE7 : Hid (Ext w wr) := hid (HE6.out.trans ((HV.out.1).mono HE6.out.size))
  have HBr7 := hid (HBr6.out.ext (HV.out.1))
  have HBd7 := hid (HBd6.out.ext (HV.out.1))
  have HL7 := hid (HL6.out.ext (HV.out.1))
  have HW7 := hid (HW6.out.ext (HV.out.1))
  have HP7 := hid (HP6.out.ext (HV.out.1))
  have hn100 : n ≤ 100000 := by
   obtain ⟨_, _, e, _⟩ := HV.out.2
   simp only [Value.slice.injEq] at e
   have h1 := sortW_len (more.take i)
   rw [List.length_take] at h1
   omega
  by_cases hlt : i < nm
  ·have q1 : decide (i < nm) = true := decide_eq_true hlt
   have q2 : decide ((i : Int) < (nm : Int)) = true := decide_eq_true (by omega)
   obtain ⟨s, hs⟩ : ∃ s, more[i]? = some s := ⟨_, List.getElem?_eq_getElem (by rw [← HNM.out]; exact hlt)⟩
   obtain ⟨gw, ow, hw⟩ : ∃ g o, aw = some ⟨g, o, none⟩ := by
    obtain ⟨ao', c', e, hf⟩ := (HW7.out).form
    simp only [Value.slice.injEq] at e
    rw [e.1]
    exact hf (by rw [← HNM.out]; omega)
   subst hw
   have c5 : wr.cell? ⟨gw, ow + i, none⟩ = some (.string s) := (HW7.out).cell1 hs
   have hsz : s.size ≤ maxLen := HMI.out.size s (List.mem_of_getElem? hs)
   have i1 : (i : Int) < (nm : Int) := by omega
   have i2 : (0 : Int) ≤ (i : Int) := by omega
   have HSS := hid hs
   have HCN := hid (name_any s wr hsz)
   clear hs hsz
   obtain ⟨b, hb⟩ : ∃ b, b = nameOk s := ⟨_, rfl⟩
   rw [← hb] at HCN
   have HBB := hid hb
   clear hb
   obtain ⟨cr0, lr⟩ := HBr7.out.c1
   obtain ⟨cd0, cd1, cd2, ld⟩ := HBd7.out.c3
   go_wp2_with fail
   refine HCN.out.mono ?_
   rintro e w00 ⟨rfl, rfl⟩
   cases b
   ·go_wp2_with fail
    refine (none_nil _).mono ?_
    rintro e w7 ⟨rfl, hx⟩
    clear cr0 lr cd0 cd1 cd2 ld
    have HE8 : Hid (Ext w w7) := hid (HE7.out.trans ((hx).mono HE7.out.size))
    have HBr8 := hid (HBr7.out.ext (hx))
    have HBd8 := hid (HBd7.out.ext (hx))
    have HL8 := hid (HL7.out.ext (hx))
    have HW8 := hid (HW7.out.ext (hx))
    have HP8 := hid (HP7.out.ext (hx))
    clear hx
    obtain ⟨cr0, lr⟩ := HBr8.out.c1
    obtain ⟨cd0, cd1, cd2, ld⟩ := HBd8.out.c3
    go_wp2_with fail
    refine (awake8_any (HT.out.ext HE8.out)).mono ?_
    rintro e w8 ⟨rfl, hx⟩
    clear cr0 lr cd0 cd1 cd2 ld
    have HE9 : Hid (Ext w w8) := hid (HE8.out.trans ((hx).mono HE8.out.size))
    have HBr9 := hid (HBr8.out.ext (hx))
    have HBd9 := hid (HBd8.out.ext (hx))
    have HL9 := hid (HL8.out.ext (hx))
    have HW9 := hid (HW8.out.ext (hx))
    have HP9 := hid (HP8.out.ext (hx))
    clear hx
    obtain ⟨cr0, lr⟩ := HBr9.out.c1
    obtain ⟨cd0, cd1, cd2, ld⟩ := HBd9.out.c3
    go_wp2_with fail
    go_ret
    exact ⟨rfl, HE9.out⟩
   ·have HPU := hid (rput_any HV.out.2 (sortW_rising _) hnc hn100 s)
    go_wp2_with fail
    refine HPU.out.mono ?_
    rintro e w2 ⟨ao2, n2', c2, rfl, HQ, -, hx⟩
    have HV2 := hid (HV.out.1.trans (hx.mono HV.out.1.size))
    have hnc2 := HQ.out.2
    clear hx
    go_wp2_with fail
    go_roundg (nm - (i + 1))
    case measure => omega
    case rel =>
     refine ⟨i + 1, ao2, n2', c2, rfl, by omega, by go_num, rfl, hnc2, hid ⟨HV2.out, ?_⟩, hid fun j x hj hx => ?_⟩
     ·rw [← put1 HSS.out]
      exact HQ.out.1
     ·by_cases e : j = i
      ·subst e
       rw [HSS.out] at hx
       cases hx
       exact HBB.out.symm
      ·exact HG.out j x (by omega) hx
  ·obtain rfl : nm = i := by omega
   exfalso
   obtain ⟨x, hx, hb⟩ := HBAD.out
   obtain ⟨j, hj⟩ := List.getElem?_of_mem hx
   have h1 := HG.out j x (by rw [HNM.out]; exact (List.getElem?_eq_some_iff.1 hj).1) hj
   rw [hb] at h1
   cases h1
set_option maxRecDepth 100000 in
set_option maxHeartbeats 8000000 in
theorem makes_good {w : World} {l : List Nd} {aoL : Option Addr} {capL : Nat} (hL : NodesV w aoL l) {aw : Option Addr} {cw : Nat} {more : List ByteArray} (hM : StrsV w aw cw more) (hT : TabW w) (hS : SmallL l) (h4 : more.length ≤ 4) (hok : OkL l) (hall : ∀ x ∈ more, nameOk x = true) : Calls Tryz.prog 5 #[.agg #[.slice aoL l.length capL], .slice aw more.length cw] w (TruePost w) := by
 obtain ⟨nl, hnl⟩ : ∃ n, n = l.length := ⟨_, rfl⟩
 obtain ⟨nm, hnm⟩ : ∃ n, n = more.length := ⟨_, rfl⟩
 have HNL := hid hnl
 have HNM := hid hnm
 have HT := hid hT
 have HL0 := hid hL
 have HW0 := hid (read_of_strs hM)
 have HMI := hid (strs_mild hM)
 rw [← hnm] at HW0
 rw [← hnl, ← hnm]
 have h4 : nm ≤ 4 := by rw [hnm]; exact h4
 have HS := hid hS
 have hw1 : decide (4 < nm) = false := decide_eq_false (by omega)
 have hw2 : decide ((4 : Int) < (nm : Int)) = false := decide_eq_false (by omega)
 have hl24 : l.length ≤ 24 := hS.1
 have HOKL := hid hok
 have HOK := hid hall
 have hnl24 : nl ≤ 24 := by rw [hnl]; exact hl24
 clear hok hall hS
 clear hnl hnm hL hM hT
 obtain ⟨w1, hw1⟩ : ∃ u, u = w.alloc (.cells #[.slice aoL nl capL] 45) := ⟨_, rfl⟩
 have ew1 : Ext w w1 := hw1 ▸ (Below.refl _ _).alloc (Nat.le_refl _) _
 have HBrn : Hid (Blk w1 w.heap.size 45 #[.slice aoL nl capL]) := hid (hw1 ▸ Blk.new _ _ _)
 have HWw1 := hid hw1
 have HE1 : Hid (Ext w w1) := hid (ew1)
 have HL1 := hid (HL0.out.ext (ew1))
 have HW1 := hid (HW0.out.ext (ew1))
 clear ew1 hw1
 go_enter Tryz.func5, Tryz.ntmps5
 go_wp2_with fail
 rw [← HWw1.out]
 refine (small_n HNL.out HL1.out capL).mono ?_
 rintro e w2 ⟨b, rfl, hb, hx⟩
 have HE2 : Hid (Ext w w2) := hid (HE1.out.trans ((hx).mono HE1.out.size))
 have HBr2 := hid (HBrn.out.ext (hx))
 have HL2 := hid (HL1.out.ext (hx))
 have HW2 := hid (HW1.out.ext (hx))
 clear hx
 obtain rfl : b = true := hb.2 HS.out
 clear hb
 obtain ⟨cr0, lr⟩ := HBr2.out.c1
 go_wp2_with fail
 refine (makeg_any HNL.out HOKL.out HL2.out (by omega) (HT.out.ext HE2.out) HW2.out (by rw [← HNM.out]; omega) HOK.out).mono ?_
 rintro e w3 ⟨aoSd, n1d, cSd, aoNd, n2d, cNd, aoFd, n3d, cFd, E, rfl, hG, hx⟩
 clear cr0 lr
 have HE3 : Hid (Ext w w3) := hid (HE2.out.trans ((hx).mono HE2.out.size))
 have HBr3 := hid (HBr2.out.ext (hx))
 have HL3 := hid (HL2.out.ext (hx))
 have HW3 := hid (HW2.out.ext (hx))
 have HMG0 := hid hG
 clear hx hG
 obtain ⟨cr0, lr⟩ := HBr3.out.c1
 go_wp2_with fail
 obtain ⟨w4, hw4⟩ : ∃ u, u = w3.alloc (.cells #[.slice aoSd n1d cSd, .slice aoNd n2d cNd, .slice aoFd n3d cFd] 26) := ⟨_, rfl⟩
 have ew4 : Ext w3 w4 := hw4 ▸ (Below.refl _ _).alloc (Nat.le_refl _) _
 have HBdn : Hid (Blk w4 w3.heap.size 26 #[.slice aoSd n1d cSd, .slice aoNd n2d cNd, .slice aoFd n3d cFd]) := hid (hw4 ▸ Blk.new _ _ _)
 have HWw4 := hid hw4
 clear cr0 lr
 have HE4 : Hid (Ext w w4) := hid (HE3.out.trans ((ew4).mono HE3.out.size))
 have HBr4 := hid (HBr3.out.ext (ew4))
 have HL4 := hid (HL3.out.ext (ew4))
 have HW4 := hid (HW3.out.ext (ew4))
 have HMG4 := hid (HMG0.out.ext (ew4))
 clear ew4 hw4
 rw [← HWw4.out]
 obtain ⟨cr0, lr⟩ := HBr4.out.c1
 obtain ⟨cd0, cd1, cd2, ld⟩ := HBdn.out.c3
 go_wp2_with fail
 refine (plain_n HNL.out HL4.out capL (by omega)).mono ?_
 rintro e w5 ⟨aoP, cP, rfl, hP, hx⟩
 clear cr0 lr cd0 cd1 cd2 ld
 have HE5 : Hid (Ext w w5) := hid (HE4.out.trans ((hx).mono HE4.out.size))
 have HBr5 := hid (HBr4.out.ext (hx))
 have HBd5 := hid (HBdn.out.ext (hx))
 have HL5 := hid (HL4.out.ext (hx))
 have HW5 := hid (HW4.out.ext (hx))
 have HMG5 := hid (HMG4.out.ext (hx))
 have HP0 := hid hP
 clear hx hP
 obtain ⟨cr0, lr⟩ := HBr5.out.c1
 obtain ⟨cd0, cd1, cd2, ld⟩ := HBd5.out.c3
 go_wp2_with fail
 refine (refcheck_n HNL.out HP0.out cP (checkC_ok HOKL.out)).mono ?_
 rintro e w6 ⟨rfl, hx⟩
 clear cr0 lr cd0 cd1 cd2 ld
 have HE6 : Hid (Ext w w6) := hid (HE5.out.trans ((hx).mono HE5.out.size))
 have HBr6 := hid (HBr5.out.ext (hx))
 have HBd6 := hid (HBd5.out.ext (hx))
 have HL6 := hid (HL5.out.ext (hx))
 have HW6 := hid (HW5.out.ext (hx))
 have HMG6 := hid (HMG5.out.ext (hx))
 have HP6 := hid (HP0.out.ext (hx))
 clear hx
 obtain ⟨cr0, lr⟩ := HBr6.out.c1
 obtain ⟨cd0, cd1, cd2, ld⟩ := HBd6.out.c3
 go_wp2_with fail
 go_loopg [9, 10] nm (fun g v u wr => ∃ (i : Nat) (ao : Option Addr) (n c : Nat), g = nm - i ∧ i ≤ nm ∧ u = .int .i64 i ∧ v = .slice ao n c ∧ n ≤ c ∧ Hid (Ext w6 wr ∧ ReadR wr 1 strC (.slice ao n c) (sortW (more.take i))) ∧ Hid (∀ (j : Nat) (x : ByteArray), j < i → more[j]? = some x → nameOk x = true))
 case atStart => exact ⟨0, none, 0, 0, rfl, Nat.zero_le _, rfl, rfl, Nat.le_refl _, hid ⟨Below.refl _ _, by
  rw [List.take_zero, sortW_nil]
  exact ⟨none, 0, rfl, .inl rfl⟩⟩, hid (fun j x h => absurd h (Nat.not_lt_zero j))⟩
 case round =>
  clear cr0 lr cd0 cd1 cd2 ld
  obtain ⟨i, ao, n, c, rfl, hi, rfl, rfl, hnc, HV, HG⟩ := hrel
  have HE7 : Hid (Ext w wr) := hid (HE6.out.trans ((HV.out.1).mono HE6.out.size))
  have HBr7 := hid (HBr6.out.ext (HV.out.1))
  have HBd7 := hid (HBd6.out.ext (HV.out.1))
  have HL7 := hid (HL6.out.ext (HV.out.1))
  have HW7 := hid (HW6.out.ext (HV.out.1))
  have HMG7 := hid (HMG6.out.ext (HV.out.1))
  have HP7 := hid (HP6.out.ext (HV.out.1))
  have hn100 : n ≤ 100000 := by
   obtain ⟨_, _, e, _⟩ := HV.out.2
   simp only [Value.slice.injEq] at e
   have h1 := sortW_len (more.take i)
   rw [List.length_take] at h1
   omega
  by_cases hlt : i < nm
  ·have q1 : decide (i < nm) = true := decide_eq_true hlt
   have q2 : decide ((i : Int) < (nm : Int)) = true := decide_eq_true (by omega)
   obtain ⟨s, hs⟩ : ∃ s, more[i]? = some s := ⟨_, List.getElem?_eq_getElem (by rw [← HNM.out]; exact hlt)⟩
   obtain ⟨gw, ow, hw⟩ : ∃ g o, aw = some ⟨g, o, none⟩ := by
    obtain ⟨ao', c', e, hf⟩ := (HW7.out).form
    simp only [Value.slice.injEq] at e
    rw [e.1]
    exact hf (by rw [← HNM.out]; omega)
   subst hw
   have c5 : wr.cell? ⟨gw, ow + i, none⟩ = some (.string s) := (HW7.out).cell1 hs
   have hsz : s.size ≤ maxLen := HMI.out.size s (List.mem_of_getElem? hs)
   have i1 : (i : Int) < (nm : Int) := by omega
   have i2 : (0 : Int) ≤ (i : Int) := by omega
   have HSS := hid hs
   have HCN := hid (name_any s wr hsz)
   clear hs hsz
   obtain ⟨b, hb⟩ : ∃ b, b = nameOk s := ⟨_, rfl⟩
   rw [← hb] at HCN
   have HBB := hid hb
   clear hb
   obtain ⟨cr0, lr⟩ := HBr7.out.c1
   obtain ⟨cd0, cd1, cd2, ld⟩ := HBd7.out.c3
   go_wp2_with fail
   refine HCN.out.mono ?_
   rintro e w00 ⟨rfl, rfl⟩
   obtain rfl : b = true := by rw [HBB.out]; exact HOK.out s (List.mem_of_getElem? HSS.out)
   have HPU := hid (rput_any HV.out.2 (sortW_rising _) hnc hn100 s)
   go_wp2_with fail
   refine HPU.out.mono ?_
   rintro e w2 ⟨ao2, n2', c2, rfl, HQ, -, hx⟩
   have HV2 := hid (HV.out.1.trans (hx.mono HV.out.1.size))
   have hnc2 := HQ.out.2
   clear hx
   go_wp2_with fail
   go_roundg (nm - (i + 1))
   case measure => omega
   case rel =>
    refine ⟨i + 1, ao2, n2', c2, rfl, by omega, by go_num, rfl, hnc2, hid ⟨HV2.out, ?_⟩, hid fun j x hj hx => ?_⟩
    ·rw [← put1 HSS.out]
     exact HQ.out.1
    ·by_cases e : j = i
     ·subst e
      rw [HSS.out] at hx
      cases hx
      exact HBB.out.symm
     ·exact HG.out j x (by omega) hx
  ·obtain rfl : nm = i := by omega
   have q1 : decide (nm < nm) = false := decide_eq_false (by omega)
   have HY0 : Hid (ReadR wr 1 strC (.slice ao n c) (sortW (more ++ symsL (l.take 0)))) := hid (by
    have h := HV.out.2
    rw [HNM.out, List.take_length] at h
    have e : more ++ symsL (l.take 0) = more := by simp [symsL]
    rw [e]
    exact h)
   obtain ⟨wa, hwa⟩ : ∃ x, x = wr := ⟨_, rfl⟩
   subst hwa
   obtain ⟨cr0, lr⟩ := HBr7.out.c1
   obtain ⟨cd0, cd1, cd2, ld⟩ := HBd7.out.c3
   go_wp2_with fail
   go_loopg [9, 11] nl (fun g v u wr => ∃ (i : Nat) (ao : Option Addr) (n c : Nat), g = nl - i ∧ i ≤ nl ∧ u = .int .i64 i ∧ v = .slice ao n c ∧ n ≤ c ∧ Hid (Ext wa wr ∧ ReadR wr 1 strC (.slice ao n c) (sortW (more ++ symsL (l.take i)))))
   case atStart => exact ⟨0, ao, n, c, rfl, Nat.zero_le _, rfl, rfl, hnc, hid ⟨Below.refl _ _, HY0.out⟩⟩
   case round =>
    clear cr0 lr cd0 cd1 cd2 ld
    obtain ⟨i, ao3, n3, c3, rfl, hi, rfl, rfl, hnc3, HV3⟩ := hrel
    have HE8 : Hid (Ext w wr) := hid (HE7.out.trans ((HV3.out.1).mono HE7.out.size))
    have HBr8 := hid (HBr7.out.ext (HV3.out.1))
    have HBd8 := hid (HBd7.out.ext (HV3.out.1))
    have HL8 := hid (HL7.out.ext (HV3.out.1))
    have HW8 := hid (HW7.out.ext (HV3.out.1))
    have HMG8 := hid (HMG7.out.ext (HV3.out.1))
    have HP8 := hid (HP7.out.ext (HV3.out.1))
    have hn300 : n3 ≤ 1000 := by
     obtain ⟨_, _, e, _⟩ := HV3.out.2
     simp only [Value.slice.injEq] at e
     have h1 := sortW_len (more ++ symsL (l.take i))
     have h2 := symsL_len (l.take i)
     rw [List.length_append] at h1
     rw [List.length_take] at h2
     have h3 := HNM.out
     omega
    by_cases hlt3 : i < nl
    ·have q1 : decide (i < nl) = true := decide_eq_true hlt3
     have q2 : decide ((i : Int) < (nl : Int)) = true := decide_eq_true (by omega)
     obtain ⟨nd, hnd⟩ : ∃ s, l[i]? = some s := ⟨_, List.getElem?_eq_getElem (by rw [← HNL.out]; exact hlt3)⟩
     obtain ⟨gp, op, hgp, -, hcp⟩ := (HP8.out).cells (by rw [← HNL.out]; omega)
     subst hgp
     obtain ⟨d0, d1, -, -⟩ := hcp i nd hnd
     have HND := hid hnd
     have i1 : (i : Int) < (nl : Int) := by omega
     have i2 : (0 : Int) ≤ (i : Int) := by omega
     clear hnd hcp
     by_cases ho : nd.op = 2
     ·have t0 : (nd.op == 2) = true := by simp [ho]
      have HO := hid ho
      have HPU := hid (rput_any HV3.out.2 (sortW_rising _) hnc3 (by omega) nd.sym)
      clear ho
      obtain ⟨cr0, lr⟩ := HBr8.out.c1
      obtain ⟨cd0, cd1, cd2, ld⟩ := HBd8.out.c3
      go_wp2_with fail
      refine HPU.out.mono ?_
      rintro e w2 ⟨ao2, n2', c2, rfl, HQ, -, hx⟩
      have HV2 := hid (HV3.out.1.trans (hx.mono HV3.out.1.size))
      have hnc2 := HQ.out.2
      clear hx
      go_wp2_with fail
      go_roundg (nl - (i + 1))
      case measure => omega
      case rel =>
       refine ⟨i + 1, ao2, n2', c2, rfl, by omega, by go_num, rfl, hnc2, hid ⟨HV2.out, ?_⟩⟩
       rw [← symsL_sym HND.out HO.out]
       exact HQ.out.1
     ·have t0 : (nd.op == 2) = false := by simp [ho]
      have HO := hid ho
      clear ho
      obtain ⟨cr0, lr⟩ := HBr8.out.c1
      obtain ⟨cd0, cd1, cd2, ld⟩ := HBd8.out.c3
      go_wp2_with fail
      go_roundg (nl - (i + 1))
      case measure => omega
      case rel =>
       refine ⟨i + 1, ao3, n3, c3, rfl, by omega, by go_num, rfl, hnc3, hid ⟨HV3.out.1, ?_⟩⟩
       rw [symsL_skip HND.out HO.out]
       exact HV3.out.2
    ·obtain rfl : nl = i := by omega
     have HYM : Hid (ReadR wr 1 strC (.slice ao3 n3 c3) (makeSyms l more)) := hid (by
      have h := HV3.out.2
      rw [HNL.out, List.take_length, syms_all] at h
      exact h)
     have HRM := hid (rmake_n HNL.out HOKL.out.2.1 (by omega) HP8.out (cap := cP) HYM.out hn300)
     obtain ⟨cr0, lr⟩ := HBr8.out.c1
     obtain ⟨cd0, cd1, cd2, ld⟩ := HBd8.out.c3
     go_wp2_with fail
     rcases HMG8.out with ⟨hE, j, hf, hj, hv⟩ | ⟨hE, hnil, j, hj⟩
     ·subst hE
      have HDL := hid (makeD_lens HS.out HOKL.out (by rw [← HNM.out]; exact h4) HOK.out hf hj)
      have HDV0 := hid hv
      refine HRM.out.mono ?_
      intro e w7 hq
      obtain ⟨aoSm, n1m, cSm, aoNm, n2m, cNm, aoFm, n3m, cFm, rfl, hv2, hx⟩ := rmake_full hf hj hq
      clear hq hf hj hv
      clear cr0 lr cd0 cd1 cd2 ld
      have HE9 : Hid (Ext w w7) := hid (HE8.out.trans ((hx).mono HE8.out.size))
      have HBr9 := hid (HBr8.out.ext (hx))
      have HBd9 := hid (HBd8.out.ext (hx))
      have HL9 := hid (HL8.out.ext (hx))
      have HW9 := hid (HW8.out.ext (hx))
      have HP9 := hid (HP8.out.ext (hx))
      have HDV9 := hid (HDV0.out.ext (hx))
      have HMV0 : Hid (DfaV w7 (.agg #[.slice aoSm n1m cSm, .slice aoNm n2m cNm, .slice aoFm n3m cFm]) (makeD l more j).raw) := hid hv2
      clear hx hv2
      obtain ⟨cr0, lr⟩ := HBr9.out.c1
      obtain ⟨cd0, cd1, cd2, ld⟩ := HBd9.out.c3
      go_wp2_with fail
      obtain ⟨w8, hw8⟩ : ∃ u, u = w7.alloc (.cells #[.slice aoSm n1m cSm, .slice aoNm n2m cNm, .slice aoFm n3m cFm] 40) := ⟨_, rfl⟩
      have ew8 : Ext w7 w8 := hw8 ▸ (Below.refl _ _).alloc (Nat.le_refl _) _
      have HBmn : Hid (Blk w8 w7.heap.size 40 #[.slice aoSm n1m cSm, .slice aoNm n2m cNm, .slice aoFm n3m cFm]) := hid (hw8 ▸ Blk.new _ _ _)
      have HWw8 := hid hw8
      clear cr0 lr cd0 cd1 cd2 ld
      have HE10 : Hid (Ext w w8) := hid (HE9.out.trans ((ew8).mono HE9.out.size))
      have HBr10 := hid (HBr9.out.ext (ew8))
      have HBd10 := hid (HBd9.out.ext (ew8))
      have HL10 := hid (HL9.out.ext (ew8))
      have HW10 := hid (HW9.out.ext (ew8))
      have HP10 := hid (HP9.out.ext (ew8))
      have HDV10 := hid (HDV9.out.ext (ew8))
      have HMV10 := hid (HMV0.out.ext (ew8))
      clear ew8 hw8
      rw [← HWw8.out]
      obtain ⟨cr0, lr⟩ := HBr10.out.c1
      obtain ⟨cd0, cd1, cd2, ld⟩ := HBd10.out.c3
      obtain ⟨cm0, cm1, cm2, lm⟩ := HBmn.out.c3
      go_upto_region 23 with fail
      have hS0 : Ext w8 w8.drew := (Below.refl _ _).drew
      refine wp_region_heldL (fun w' => Ext w8 w') (by kernel_rfl) ?_
      refine wpAnyH_takeN 0 16 (mk 17 1) rfl (by kernel_rfl) rfl (.int .i64 0) (fun _ _ _ h => h) (Or.inl ⟨rfl, fun w' hS => ?_⟩) hS0 (by simp only [Act.put, List.setIfInBounds_toArray, List.set_cons_succ, List.set_cons_zero]; rfl) ?_
      ·go_simp <;> with_reducible rfl
      refine wpAnyH_takeN 1 15 (mk 17 3) rfl (by kernel_rfl) rfl (.bool true) (fun _ _ _ h => h) (Or.inl ⟨rfl, fun w' hS => ?_⟩) hS0 (by simp only [Act.put, List.setIfInBounds_toArray, List.set_cons_succ, List.set_cons_zero]; rfl) ?_
      ·go_simp <;> with_reducible rfl
      refine wpAnyH_takeN 2 14 (mk 17 7) rfl (by kernel_rfl) rfl (.bool true) (fun _ _ _ h => h) (Or.inl ⟨rfl, fun w' hS => ?_⟩) hS0 (by simp only [Act.put, List.setIfInBounds_toArray, List.set_cons_succ, List.set_cons_zero]; rfl) ?_
      ·go_simp <;> with_reducible rfl
      refine wpAnyH_takeN 3 13 (mk 17 15) rfl (by kernel_rfl) rfl (.agg #[.slice aoSd n1d cSd, .slice aoNd n2d cNd, .slice aoFd n3d cFd]) (fun _ _ _ h => h) (Or.inl ⟨by go_simp, fun w' hS => ?_⟩) hS0 (by simp only [Act.put, List.setIfInBounds_toArray, List.set_cons_succ, List.set_cons_zero]; rfl) ?_
      ·obtain ⟨d0, d1, d2, -⟩ := (HBd10.out.ext hS).c3
       go_simp <;> with_reducible rfl
      refine wpAnyH_takeN 5 12 (mk 17 47) rfl (by kernel_rfl) rfl (.agg #[.slice aoSm n1m cSm, .slice aoNm n2m cNm, .slice aoFm n3m cFm]) (fun _ _ _ h => h) (Or.inl ⟨by go_simp, fun w' hS => ?_⟩) hS0 (by simp only [Act.put, List.setIfInBounds_toArray, List.set_cons_succ, List.set_cons_zero]; rfl) ?_
      ·obtain ⟨d0, d1, d2, -⟩ := (HBmn.out.ext hS).c3
       go_simp <;> with_reducible rfl
      refine wpAnyH_one 4 11 (mk 17 63) rfl (by kernel_rfl) rfl ?_
      go_wp2_with fail
      refine (plain8_any _ _ _ _ _ _ _ _ _ _).mono ?_
      rintro e wb ⟨rfl, hx⟩
      have hSwb : Ext w8 wb := hS0.trans (hx.mono hS0.size)
      clear hx
      go_wp2_with fail
      refine ⟨hSwb, ?_⟩
      have HSM : Hid (Calls Tryz.prog 19 #[.agg #[.slice aoSd n1d cSd, .slice aoNd n2d cNd, .slice aoFd n3d cFd], .agg #[.slice aoSm n1m cSm, .slice aoNm n2m cNm, .slice aoFm n3m cFm]] wb fun e w' => e = .returned (.bool true) ∧ Ext wb w') := hid (by
       have W2 := HDL.out.1
       have h := same_any (HDV10.out.ext hSwb) (HMV10.out.ext hSwb) HDL.out.2.2 HDL.out.2.2 (okD_raw W2.ok) (okD_raw W2.ok)
       rw [sameD_iff.2 rfl] at h
       exact h)
      refine wpAnyH_one 6 10 (mk 17 127) rfl (by kernel_rfl) rfl ?_
      go_wp2_with fail
      refine (HSM.out).mono ?_
      rintro e wc ⟨rfl, hx⟩
      have hSwc : Ext w8 wc := hSwb.trans (hx.mono hSwb.size)
      clear hx
      go_wp2_with fail
      refine ⟨hSwc, ?_⟩
      refine wpAnyH_one 7 9 (mk 17 255) rfl (by kernel_rfl) rfl ?_
      go_wp2_with fail
      refine ⟨hSwc, ?_⟩
      refine wpAnyH_one 8 8 (mk 17 511) rfl (by kernel_rfl) rfl ?_
      go_wp2_with fail
      refine ⟨hSwc, ?_⟩
      refine wpAnyH_one 9 7 (mk 17 1023) rfl (by kernel_rfl) rfl ?_
      obtain ⟨d0, d1, d2, dl⟩ := (HBd10.out.ext hSwc).c3
      go_wp2_with fail
      refine ⟨hSwc, ?_⟩
      have HCK := hid (check8_any (HDV10.out.ext hSwc) HDL.out.2.1)
      rw [well_check HDL.out.1] at HCK
      refine wpAnyH_one 10 6 (mk 17 2047) rfl (by kernel_rfl) rfl ?_
      go_wp2_with fail
      refine (HCK.out).mono ?_
      rintro e wd ⟨rfl, hx⟩
      have hSwd : Ext w8 wd := hSwc.trans (hx.mono hSwc.size)
      clear hx
      go_wp2_with fail
      refine ⟨hSwd, ?_⟩
      refine wpAnyH_one 11 5 (mk 17 4095) rfl (by kernel_rfl) rfl ?_
      go_wp2_with fail
      refine ⟨hSwd, ?_⟩
      refine wpAnyH_one 12 4 (mk 17 8191) rfl (by kernel_rfl) rfl ?_
      go_wp2_with fail
      refine ⟨hSwd, ?_⟩
      refine wpAnyH_one 13 3 (mk 17 16383) rfl (by kernel_rfl) rfl ?_
      go_wp2_with fail
      refine ⟨hSwd, ?_⟩
      refine wpAnyH_one 14 2 (mk 17 32767) rfl (by kernel_rfl) rfl ?_
      go_wp2_with fail
      refine (awake8_any (HT.out.ext (HE10.out.trans (hSwd.mono HE10.out.size)))).mono ?_
      rintro e we ⟨rfl, hx⟩
      have hSwe : Ext w8 we := hSwd.trans (hx.mono hSwd.size)
      clear hx
      go_wp2_with fail
      refine ⟨hSwe, ?_⟩
      refine wpAnyH_one 15 1 (mk 17 65535) rfl (by kernel_rfl) rfl ?_
      go_wp2_with fail
      refine ⟨hSwe, ?_⟩
      refine wpAnyH_one 16 0 (mk 17 131071) rfl (by kernel_rfl) rfl ?_
      go_wp2_with fail
      refine ⟨hSwe, ?_⟩
      refine wpAnyH_end (P := Tryz.prog) (by kernel_rfl) ?_
      go_wp2_with fail
      go_ret
      exact ⟨rfl, HE10.out.trans (hSwe.mono HE10.out.size)⟩
     ·subst hE
      simp only [Array.mk.injEq, List.cons.injEq, Value.slice.injEq, and_true] at hnil
      obtain ⟨⟨rfl, rfl, rfl⟩, ⟨rfl, rfl, rfl⟩, rfl, rfl, rfl⟩ := hnil
      refine HRM.out.mono ?_
      intro e w7 hq
      obtain ⟨aoSm, n1m, cSm, aoNm, n2m, cNm, aoFm, n3m, cFm, rfl, hx⟩ := rmake_big hj hq
      clear hq hj
      clear cr0 lr cd0 cd1 cd2 ld
      have HE9 : Hid (Ext w w7) := hid (HE8.out.trans ((hx).mono HE8.out.size))
      have HBr9 := hid (HBr8.out.ext (hx))
      have HBd9 := hid (HBd8.out.ext (hx))
      have HL9 := hid (HL8.out.ext (hx))
      have HW9 := hid (HW8.out.ext (hx))
      have HP9 := hid (HP8.out.ext (hx))
      clear hx
      obtain ⟨cr0, lr⟩ := HBr9.out.c1
      obtain ⟨cd0, cd1, cd2, ld⟩ := HBd9.out.c3
      go_wp2_with fail
      obtain ⟨w8, hw8⟩ : ∃ u, u = w7.alloc (.cells #[.slice aoSm n1m cSm, .slice aoNm n2m cNm, .slice aoFm n3m cFm] 40) := ⟨_, rfl⟩
      have ew8 : Ext w7 w8 := hw8 ▸ (Below.refl _ _).alloc (Nat.le_refl _) _
      have HBmn : Hid (Blk w8 w7.heap.size 40 #[.slice aoSm n1m cSm, .slice aoNm n2m cNm, .slice aoFm n3m cFm]) := hid (hw8 ▸ Blk.new _ _ _)
      have HWw8 := hid hw8
      clear cr0 lr cd0 cd1 cd2 ld
      have HE10 : Hid (Ext w w8) := hid (HE9.out.trans ((ew8).mono HE9.out.size))
      have HBr10 := hid (HBr9.out.ext (ew8))
      have HBd10 := hid (HBd9.out.ext (ew8))
      have HL10 := hid (HL9.out.ext (ew8))
      have HW10 := hid (HW9.out.ext (ew8))
      have HP10 := hid (HP9.out.ext (ew8))
      clear ew8 hw8
      rw [← HWw8.out]
      obtain ⟨cr0, lr⟩ := HBr10.out.c1
      obtain ⟨cd0, cd1, cd2, ld⟩ := HBd10.out.c3
      obtain ⟨cm0, cm1, cm2, lm⟩ := HBmn.out.c3
      go_wp2_with fail
      refine (none_nil _).mono ?_
      rintro e w9 ⟨rfl, hx⟩
      clear cr0 lr cd0 cd1 cd2 ld cm0 cm1 cm2 lm
      have HE11 : Hid (Ext w w9) := hid (HE10.out.trans ((hx).mono HE10.out.size))
      have HBr11 := hid (HBr10.out.ext (hx))
      have HBd11 := hid (HBd10.out.ext (hx))
      have HBm11 := hid (HBmn.out.ext (hx))
      have HL11 := hid (HL10.out.ext (hx))
      have HW11 := hid (HW10.out.ext (hx))
      have HP11 := hid (HP10.out.ext (hx))
      clear hx
      obtain ⟨cr0, lr⟩ := HBr11.out.c1
      obtain ⟨cd0, cd1, cd2, ld⟩ := HBd11.out.c3
      obtain ⟨cm0, cm1, cm2, lm⟩ := HBm11.out.c3
      go_wp2_with fail
      refine (awake8_any (HT.out.ext HE11.out)).mono ?_
      rintro e w10 ⟨rfl, hx⟩
      clear cr0 lr cd0 cd1 cd2 ld cm0 cm1 cm2 lm
      have HE12 : Hid (Ext w w10) := hid (HE11.out.trans ((hx).mono HE11.out.size))
      have HBr12 := hid (HBr11.out.ext (hx))
      have HBd12 := hid (HBd11.out.ext (hx))
      have HBm12 := hid (HBm11.out.ext (hx))
      have HL12 := hid (HL11.out.ext (hx))
      have HW12 := hid (HW11.out.ext (hx))
      have HP12 := hid (HP11.out.ext (hx))
      clear hx
      obtain ⟨cr0, lr⟩ := HBr12.out.c1
      obtain ⟨cd0, cd1, cd2, ld⟩ := HBd12.out.c3
      obtain ⟨cm0, cm1, cm2, lm⟩ := HBm12.out.c3
      go_wp2_with fail
      go_ret
      exact ⟨rfl, HE12.out⟩
end Go.Proofs.YtngpjagpeblbjaaGreatDoor
