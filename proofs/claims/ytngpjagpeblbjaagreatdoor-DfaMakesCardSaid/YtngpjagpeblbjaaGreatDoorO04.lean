/-
  Walks of the reference's alive, Starts, Ends and Pairs.
-/
import Derived.StillTailTactics
import Derived.Deep.QuietTactic
import Derived.BigQuiet
import Derived.BigRegion
import Derived.IntWalk
import Derived.Test.YtngpjagpeblbjaaGreatDoorO01
namespace Go.Proofs.YtngpjagpeblbjaaGreatDoor
open Go.RowKit Go.Spy Go.Heaped Go.Rx
set_option maxRecDepth 100000 in
set_option maxHeartbeats 2000000 in
theorem alive_any {l : List Nd} (F : Rx.Form l) (i : Nat) : ∀ (w : World) (ao : Option Addr) (cap : Nat), NodesV w ao l → i < l.length →
 Calls Tryz.prog 148 #[.slice ao l.length cap, .int .i64 i] w fun e w' => NullPost (aliveT (tr l i)) w e w' := by
 induction i using Nat.strongRecOn with
 | _ i ih =>
 intro w ao cap hV hi
 obtain ⟨b, off, rfl, hb, hc⟩ := hV.cells (by omega)
 obtain ⟨n, hn⟩ : ∃ n, l[i]? = some n := ⟨_, List.getElem?_eq_getElem hi⟩
 obtain ⟨q0, q1, q2, q3⟩ := hc i n hn
 have hlen := hV.len
 have IH := hid ih
 have HV := hid hV
 have HF := hid F
 clear ih hc hV
 cases F.kind hn with
 | none ho s a b =>
   have HT := hid (tr_none hn ho)
   rw [ho] at q0
   clear ho s a b hn
   go_enter Tryz.func148, Tryz.ntmps148
   go_wp2_with fail
   go_ret
   exact ⟨by rw [HT.out]; rfl, (Below.refl _ _).alloc (Nat.le_refl _) _⟩
 | empty ho s a b =>
   have HT := hid (tr_empty hn ho)
   rw [ho] at q0
   clear ho s a b hn
   go_enter Tryz.func148, Tryz.ntmps148
   go_wp2_with fail
   go_ret
   exact ⟨by rw [HT.out]; rfl, (Below.refl _ _).alloc (Nat.le_refl _) _⟩
 | sym ho a b =>
   have HT := hid (tr_sym hn ho)
   rw [ho] at q0
   clear ho a b hn
   go_enter Tryz.func148, Tryz.ntmps148
   go_wp2_with fail
   go_ret
   exact ⟨by rw [HT.out]; rfl, (Below.refl _ _).alloc (Nat.le_refl _) _⟩
 | star ho s x a b hx =>
   have HT := hid (tr_star hn ho a hx)
   rw [ho] at q0
   clear ho s a b hn
   go_enter Tryz.func148, Tryz.ntmps148
   go_wp2_with fail
   go_ret
   exact ⟨by rw [HT.out]; rfl, (Below.refl _ _).alloc (Nat.le_refl _) _⟩
 | cat ho s x y ha hb2 hx hy =>
   have HT := hid (tr_cat hn ho ha hb2 hx hy)
   rw [ho] at q0
   rw [ha] at q2
   rw [hb2] at q3
   clear ho s ha hb2 hn
   go_enter Tryz.func148, Tryz.ntmps148
   go_wp2_with fail
   refine (IH.out x hx _ _ cap (HV.out.ext ((Below.refl _ w).alloc (Nat.le_refl _) _)) (by omega)).mono ?_
   rintro e w1 ⟨rfl, h1⟩
   have HB1 := hid ((Blk.new w _ _).ext h1)
   have HE1 : Hid (Ext w w1) := hid (((Below.refl _ w).alloc (Nat.le_refl _) _).trans (h1.mono (by simp)))
   have d21 : w1.cell? ⟨w.heap.size, 2, none⟩ = some (.int .i64 x) := HB1.out.cell (i := 2) rfl
   have d31 : w1.cell? ⟨w.heap.size, 3, none⟩ = some (.int .i64 y) := HB1.out.cell (i := 3) rfl
   have dl1 := HB1.out.lt
   clear h1
   cases hA : aliveT (tr l x) with
   | false =>
     have HA1 := hid hA
     clear hA
     go_wp2_with fail
     go_ret
     exact ⟨by simp only [HT.out, aliveT, HA1.out]; rfl, HE1.out⟩
   | true =>
     have HA1 := hid hA
     clear hA
     go_wp2_with fail
     refine (IH.out y hy _ _ cap (HV.out.ext HE1.out) (by omega)).mono ?_
     rintro e w2 ⟨rfl, h1⟩
     have HB2 := hid (HB1.out.ext h1)
     have HE2 : Hid (Ext w w2) := hid (HE1.out.trans (h1.mono HE1.out.size))
     have d22 : w2.cell? ⟨w.heap.size, 2, none⟩ = some (.int .i64 x) := HB2.out.cell (i := 2) rfl
     have d32 : w2.cell? ⟨w.heap.size, 3, none⟩ = some (.int .i64 y) := HB2.out.cell (i := 3) rfl
     have dl2 := HB2.out.lt
     clear h1
     clear d21 d31 dl1
     cases hA : aliveT (tr l y) with
     | false =>
       have HA2 := hid hA
       clear hA
       go_wp2_with fail
       go_ret
       exact ⟨by simp only [HT.out, aliveT, HA1.out, HA2.out]; rfl, HE2.out⟩
     | true =>
       have HA2 := hid hA
       clear hA
       go_wp2_with fail
       go_ret
       exact ⟨by simp only [HT.out, aliveT, HA1.out, HA2.out]; rfl, HE2.out⟩
 | alt ho s x y ha hb2 hx hy =>
   have HT := hid (tr_alt hn ho ha hb2 hx hy)
   rw [ho] at q0
   rw [ha] at q2
   rw [hb2] at q3
   clear ho s ha hb2 hn
   go_enter Tryz.func148, Tryz.ntmps148
   go_wp2_with fail
   refine (IH.out x hx _ _ cap (HV.out.ext ((Below.refl _ w).alloc (Nat.le_refl _) _)) (by omega)).mono ?_
   rintro e w1 ⟨rfl, h1⟩
   have HB1 := hid ((Blk.new w _ _).ext h1)
   have HE1 : Hid (Ext w w1) := hid (((Below.refl _ w).alloc (Nat.le_refl _) _).trans (h1.mono (by simp)))
   have d21 : w1.cell? ⟨w.heap.size, 2, none⟩ = some (.int .i64 x) := HB1.out.cell (i := 2) rfl
   have d31 : w1.cell? ⟨w.heap.size, 3, none⟩ = some (.int .i64 y) := HB1.out.cell (i := 3) rfl
   have dl1 := HB1.out.lt
   clear h1
   cases hA : aliveT (tr l x) with
   | false =>
     have HA1 := hid hA
     clear hA
     go_wp2_with fail
     refine (IH.out y hy _ _ cap (HV.out.ext HE1.out) (by omega)).mono ?_
     rintro e w2 ⟨rfl, h1⟩
     have HB2 := hid (HB1.out.ext h1)
     have HE2 : Hid (Ext w w2) := hid (HE1.out.trans (h1.mono HE1.out.size))
     have d22 : w2.cell? ⟨w.heap.size, 2, none⟩ = some (.int .i64 x) := HB2.out.cell (i := 2) rfl
     have d32 : w2.cell? ⟨w.heap.size, 3, none⟩ = some (.int .i64 y) := HB2.out.cell (i := 3) rfl
     have dl2 := HB2.out.lt
     clear h1
     clear d21 d31 dl1
     cases hA : aliveT (tr l y) with
     | false =>
       have HA2 := hid hA
       clear hA
       go_wp2_with fail
       go_ret
       exact ⟨by simp only [HT.out, aliveT, HA1.out, HA2.out]; rfl, HE2.out⟩
     | true =>
       have HA2 := hid hA
       clear hA
       go_wp2_with fail
       go_ret
       exact ⟨by simp only [HT.out, aliveT, HA1.out, HA2.out]; rfl, HE2.out⟩
   | true =>
     have HA1 := hid hA
     clear hA
     go_wp2_with fail
     go_ret
     exact ⟨by simp only [HT.out, aliveT, HA1.out]; rfl, HE1.out⟩
set_option maxRecDepth 100000 in
set_option maxHeartbeats 2000000 in
theorem starts_any {l : List Nd} (F : Rx.Form l) (q : Nat) (i : Nat) : ∀ (w : World) (ao : Option Addr) (cap : Nat), NodesV w ao l → i < l.length →
 Calls Tryz.prog 119 #[.slice ao l.length cap, .int .i64 i, .int .i64 q] w fun e w' => NullPost (startsT (tr l i) q) w e w' := by
 induction i using Nat.strongRecOn with
 | _ i ih =>
 intro w ao cap hV hi
 obtain ⟨b, off, rfl, hb, hc⟩ := hV.cells (by omega)
 obtain ⟨n, hn⟩ : ∃ n, l[i]? = some n := ⟨_, List.getElem?_eq_getElem hi⟩
 obtain ⟨q0, q1, q2, q3⟩ := hc i n hn
 have hlen := hV.len
 have IH := hid ih
 have HV := hid hV
 have HF := hid F
 clear ih hc hV
 cases F.kind hn with
 | none ho s a b =>
   have HT := hid (tr_none hn ho)
   rw [ho] at q0
   clear ho s a b hn
   go_enter Tryz.func119, Tryz.ntmps119
   go_wp2_with fail
   go_ret
   exact ⟨by rw [HT.out]; rfl, (Below.refl _ _).alloc (Nat.le_refl _) _⟩
 | empty ho s a b =>
   have HT := hid (tr_empty hn ho)
   rw [ho] at q0
   clear ho s a b hn
   go_enter Tryz.func119, Tryz.ntmps119
   go_wp2_with fail
   go_ret
   exact ⟨by rw [HT.out]; rfl, (Below.refl _ _).alloc (Nat.le_refl _) _⟩
 | sym ho a b =>
   have HT := hid (tr_sym hn ho)
   rw [ho] at q0
   clear ho a b hn
   by_cases hip : i = q
   ·have t : ((i : Int) == (q : Int)) = true := by simp [hip]
    have HIP := hid hip
    clear hip
    go_enter Tryz.func119, Tryz.ntmps119
    go_wp2_with fail
    go_ret
    exact ⟨by rw [HT.out, startsT]; simp [HIP.out], (Below.refl _ _).alloc (Nat.le_refl _) _⟩
   ·have t : ((i : Int) == (q : Int)) = false := by simp; omega
    have HIP := hid hip
    clear hip
    go_enter Tryz.func119, Tryz.ntmps119
    go_wp2_with fail
    go_ret
    exact ⟨by rw [HT.out, startsT]; simp [HIP.out], (Below.refl _ _).alloc (Nat.le_refl _) _⟩
 | star ho s x ha hb2 hx =>
   have HT := hid (tr_star hn ho ha hx)
   rw [ho] at q0
   rw [ha] at q2
   clear ho s ha hb2 hn
   go_enter Tryz.func119, Tryz.ntmps119
   go_wp2_with fail
   refine (IH.out x hx _ _ cap (HV.out.ext ((Below.refl _ w).alloc (Nat.le_refl _) _)) (by omega)).mono ?_
   rintro e w1 ⟨rfl, h1⟩
   have HB1 := hid ((Blk.new w _ _).ext h1)
   have HE1 : Hid (Ext w w1) := hid (((Below.refl _ w).alloc (Nat.le_refl _) _).trans (h1.mono (by simp)))
   have d21 : w1.cell? ⟨w.heap.size, 2, none⟩ = some (.int .i64 x) := HB1.out.cell (i := 2) rfl
   have dl1 := HB1.out.lt
   clear h1
   cases hA : startsT (tr l x) q with
   | false =>
     have HA1 := hid hA
     clear hA
     go_wp2_with fail
     go_ret
     exact ⟨by simp only [HT.out, startsT, HA1.out]; rfl, HE1.out⟩
   | true =>
     have HA1 := hid hA
     clear hA
     go_wp2_with fail
     go_ret
     exact ⟨by simp only [HT.out, startsT, HA1.out]; rfl, HE1.out⟩
 | cat ho s x y ha hb2 hx hy =>
   have HT := hid (tr_cat hn ho ha hb2 hx hy)
   rw [ho] at q0
   rw [ha] at q2
   rw [hb2] at q3
   clear ho s ha hb2 hn
   go_enter Tryz.func119, Tryz.ntmps119
   go_wp2_with fail
   refine (IH.out x hx _ _ cap (HV.out.ext ((Below.refl _ w).alloc (Nat.le_refl _) _)) (by omega)).mono ?_
   rintro e w1 ⟨rfl, h1⟩
   have HB1 := hid ((Blk.new w _ _).ext h1)
   have HE1 : Hid (Ext w w1) := hid (((Below.refl _ w).alloc (Nat.le_refl _) _).trans (h1.mono (by simp)))
   have d21 : w1.cell? ⟨w.heap.size, 2, none⟩ = some (.int .i64 x) := HB1.out.cell (i := 2) rfl
   have d31 : w1.cell? ⟨w.heap.size, 3, none⟩ = some (.int .i64 y) := HB1.out.cell (i := 3) rfl
   have dl1 := HB1.out.lt
   clear h1
   cases hA : startsT (tr l x) q with
   | false =>
     have HA1 := hid hA
     clear hA
     go_wp2_with fail
     refine (null_any HF.out x _ _ cap (HV.out.ext HE1.out) (by omega)).mono ?_
     rintro e w2 ⟨rfl, h1⟩
     have HB2 := hid (HB1.out.ext h1)
     have HE2 : Hid (Ext w w2) := hid (HE1.out.trans (h1.mono HE1.out.size))
     have d22 : w2.cell? ⟨w.heap.size, 2, none⟩ = some (.int .i64 x) := HB2.out.cell (i := 2) rfl
     have d32 : w2.cell? ⟨w.heap.size, 3, none⟩ = some (.int .i64 y) := HB2.out.cell (i := 3) rfl
     have dl2 := HB2.out.lt
     clear h1
     clear d21 d31 dl1
     cases hA : nullT (tr l x) with
     | false =>
       have HA2 := hid hA
       clear hA
       go_wp2_with fail
       go_ret
       exact ⟨by simp only [HT.out, startsT, HA1.out, HA2.out]; rfl, HE2.out⟩
     | true =>
       have HA2 := hid hA
       clear hA
       go_wp2_with fail
       refine (IH.out y hy _ _ cap (HV.out.ext HE2.out) (by omega)).mono ?_
       rintro e w3 ⟨rfl, h1⟩
       have HB3 := hid (HB2.out.ext h1)
       have HE3 : Hid (Ext w w3) := hid (HE2.out.trans (h1.mono HE2.out.size))
       have d23 : w3.cell? ⟨w.heap.size, 2, none⟩ = some (.int .i64 x) := HB3.out.cell (i := 2) rfl
       have d33 : w3.cell? ⟨w.heap.size, 3, none⟩ = some (.int .i64 y) := HB3.out.cell (i := 3) rfl
       have dl3 := HB3.out.lt
       clear h1
       clear d22 d32 dl2
       cases hA : startsT (tr l y) q with
       | false =>
         have HA3 := hid hA
         clear hA
         go_wp2_with fail
         go_ret
         exact ⟨by simp only [HT.out, startsT, HA1.out, HA2.out, HA3.out]; rfl, HE3.out⟩
       | true =>
         have HA3 := hid hA
         clear hA
         go_wp2_with fail
         go_ret
         exact ⟨by simp only [HT.out, startsT, HA1.out, HA2.out, HA3.out]; rfl, HE3.out⟩
   | true =>
     have HA1 := hid hA
     clear hA
     go_wp2_with fail
     refine (alive_any HF.out y _ _ cap (HV.out.ext HE1.out) (by omega)).mono ?_
     rintro e w2 ⟨rfl, h1⟩
     have HB2 := hid (HB1.out.ext h1)
     have HE2 : Hid (Ext w w2) := hid (HE1.out.trans (h1.mono HE1.out.size))
     have d22 : w2.cell? ⟨w.heap.size, 2, none⟩ = some (.int .i64 x) := HB2.out.cell (i := 2) rfl
     have d32 : w2.cell? ⟨w.heap.size, 3, none⟩ = some (.int .i64 y) := HB2.out.cell (i := 3) rfl
     have dl2 := HB2.out.lt
     clear h1
     clear d21 d31 dl1
     cases hA : aliveT (tr l y) with
     | false =>
       have HA2 := hid hA
       clear hA
       go_wp2_with fail
       refine (null_any HF.out x _ _ cap (HV.out.ext HE2.out) (by omega)).mono ?_
       rintro e w3 ⟨rfl, h1⟩
       have HB3 := hid (HB2.out.ext h1)
       have HE3 : Hid (Ext w w3) := hid (HE2.out.trans (h1.mono HE2.out.size))
       have d23 : w3.cell? ⟨w.heap.size, 2, none⟩ = some (.int .i64 x) := HB3.out.cell (i := 2) rfl
       have d33 : w3.cell? ⟨w.heap.size, 3, none⟩ = some (.int .i64 y) := HB3.out.cell (i := 3) rfl
       have dl3 := HB3.out.lt
       clear h1
       clear d22 d32 dl2
       cases hA : nullT (tr l x) with
       | false =>
         have HA3 := hid hA
         clear hA
         go_wp2_with fail
         go_ret
         exact ⟨by simp only [HT.out, startsT, HA1.out, HA2.out, HA3.out]; rfl, HE3.out⟩
       | true =>
         have HA3 := hid hA
         clear hA
         go_wp2_with fail
         refine (IH.out y hy _ _ cap (HV.out.ext HE3.out) (by omega)).mono ?_
         rintro e w4 ⟨rfl, h1⟩
         have HB4 := hid (HB3.out.ext h1)
         have HE4 : Hid (Ext w w4) := hid (HE3.out.trans (h1.mono HE3.out.size))
         have d24 : w4.cell? ⟨w.heap.size, 2, none⟩ = some (.int .i64 x) := HB4.out.cell (i := 2) rfl
         have d34 : w4.cell? ⟨w.heap.size, 3, none⟩ = some (.int .i64 y) := HB4.out.cell (i := 3) rfl
         have dl4 := HB4.out.lt
         clear h1
         clear d23 d33 dl3
         cases hA : startsT (tr l y) q with
         | false =>
           have HA4 := hid hA
           clear hA
           go_wp2_with fail
           go_ret
           exact ⟨by simp only [HT.out, startsT, HA1.out, HA2.out, HA3.out, HA4.out]; rfl, HE4.out⟩
         | true =>
           have HA4 := hid hA
           clear hA
           go_wp2_with fail
           go_ret
           exact ⟨by simp only [HT.out, startsT, HA1.out, HA2.out, HA3.out, HA4.out]; rfl, HE4.out⟩
     | true =>
       have HA2 := hid hA
       clear hA
       go_wp2_with fail
       go_ret
       exact ⟨by simp only [HT.out, startsT, HA1.out, HA2.out]; rfl, HE2.out⟩
 | alt ho s x y ha hb2 hx hy =>
   have HT := hid (tr_alt hn ho ha hb2 hx hy)
   rw [ho] at q0
   rw [ha] at q2
   rw [hb2] at q3
   clear ho s ha hb2 hn
   go_enter Tryz.func119, Tryz.ntmps119
   go_wp2_with fail
   refine (IH.out x hx _ _ cap (HV.out.ext ((Below.refl _ w).alloc (Nat.le_refl _) _)) (by omega)).mono ?_
   rintro e w1 ⟨rfl, h1⟩
   have HB1 := hid ((Blk.new w _ _).ext h1)
   have HE1 : Hid (Ext w w1) := hid (((Below.refl _ w).alloc (Nat.le_refl _) _).trans (h1.mono (by simp)))
   have d21 : w1.cell? ⟨w.heap.size, 2, none⟩ = some (.int .i64 x) := HB1.out.cell (i := 2) rfl
   have d31 : w1.cell? ⟨w.heap.size, 3, none⟩ = some (.int .i64 y) := HB1.out.cell (i := 3) rfl
   have dl1 := HB1.out.lt
   clear h1
   cases hA : startsT (tr l x) q with
   | false =>
     have HA1 := hid hA
     clear hA
     go_wp2_with fail
     refine (IH.out y hy _ _ cap (HV.out.ext HE1.out) (by omega)).mono ?_
     rintro e w2 ⟨rfl, h1⟩
     have HB2 := hid (HB1.out.ext h1)
     have HE2 : Hid (Ext w w2) := hid (HE1.out.trans (h1.mono HE1.out.size))
     have d22 : w2.cell? ⟨w.heap.size, 2, none⟩ = some (.int .i64 x) := HB2.out.cell (i := 2) rfl
     have d32 : w2.cell? ⟨w.heap.size, 3, none⟩ = some (.int .i64 y) := HB2.out.cell (i := 3) rfl
     have dl2 := HB2.out.lt
     clear h1
     clear d21 d31 dl1
     cases hA : startsT (tr l y) q with
     | false =>
       have HA2 := hid hA
       clear hA
       go_wp2_with fail
       go_ret
       exact ⟨by simp only [HT.out, startsT, HA1.out, HA2.out]; rfl, HE2.out⟩
     | true =>
       have HA2 := hid hA
       clear hA
       go_wp2_with fail
       go_ret
       exact ⟨by simp only [HT.out, startsT, HA1.out, HA2.out]; rfl, HE2.out⟩
   | true =>
     have HA1 := hid hA
     clear hA
     go_wp2_with fail
     go_ret
     exact ⟨by simp only [HT.out, startsT, HA1.out]; rfl, HE1.out⟩
set_option maxRecDepth 100000 in
set_option maxHeartbeats 2000000 in
theorem ends_at {l : List Nd} (F : Rx.Form l) (p : Nat) (i : Nat) : ∀ (w : World) (ao : Option Addr) (cap : Nat), NodesV w ao l → i < l.length →
 Calls Tryz.prog 122 #[.slice ao l.length cap, .int .i64 i, .int .i64 p] w fun e w' => NullPost (endsT (tr l i) p) w e w' := by
 induction i using Nat.strongRecOn with
 | _ i ih =>
 intro w ao cap hV hi
 obtain ⟨b, off, rfl, hb, hc⟩ := hV.cells (by omega)
 obtain ⟨n, hn⟩ : ∃ n, l[i]? = some n := ⟨_, List.getElem?_eq_getElem hi⟩
 obtain ⟨q0, q1, q2, q3⟩ := hc i n hn
 have hlen := hV.len
 have IH := hid ih
 have HV := hid hV
 have HF := hid F
 clear ih hc hV
 cases F.kind hn with
 | none ho s a b =>
   have HT := hid (tr_none hn ho)
   rw [ho] at q0
   clear ho s a b hn
   go_enter Tryz.func122, Tryz.ntmps122
   go_wp2_with fail
   go_ret
   exact ⟨by rw [HT.out]; rfl, (Below.refl _ _).alloc (Nat.le_refl _) _⟩
 | empty ho s a b =>
   have HT := hid (tr_empty hn ho)
   rw [ho] at q0
   clear ho s a b hn
   go_enter Tryz.func122, Tryz.ntmps122
   go_wp2_with fail
   go_ret
   exact ⟨by rw [HT.out]; rfl, (Below.refl _ _).alloc (Nat.le_refl _) _⟩
 | sym ho a b =>
   have HT := hid (tr_sym hn ho)
   rw [ho] at q0
   clear ho a b hn
   by_cases hip : i = p
   ·have t : ((i : Int) == (p : Int)) = true := by simp [hip]
    have HIP := hid hip
    clear hip
    go_enter Tryz.func122, Tryz.ntmps122
    go_wp2_with fail
    go_ret
    exact ⟨by rw [HT.out, endsT]; simp [HIP.out], (Below.refl _ _).alloc (Nat.le_refl _) _⟩
   ·have t : ((i : Int) == (p : Int)) = false := by simp; omega
    have HIP := hid hip
    clear hip
    go_enter Tryz.func122, Tryz.ntmps122
    go_wp2_with fail
    go_ret
    exact ⟨by rw [HT.out, endsT]; simp [HIP.out], (Below.refl _ _).alloc (Nat.le_refl _) _⟩
 | star ho s x ha hb2 hx =>
   have HT := hid (tr_star hn ho ha hx)
   rw [ho] at q0
   rw [ha] at q2
   clear ho s ha hb2 hn
   go_enter Tryz.func122, Tryz.ntmps122
   go_wp2_with fail
   refine (IH.out x hx _ _ cap (HV.out.ext ((Below.refl _ w).alloc (Nat.le_refl _) _)) (by omega)).mono ?_
   rintro e w1 ⟨rfl, h1⟩
   have HB1 := hid ((Blk.new w _ _).ext h1)
   have HE1 : Hid (Ext w w1) := hid (((Below.refl _ w).alloc (Nat.le_refl _) _).trans (h1.mono (by simp)))
   have d21 : w1.cell? ⟨w.heap.size, 2, none⟩ = some (.int .i64 x) := HB1.out.cell (i := 2) rfl
   have dl1 := HB1.out.lt
   clear h1
   cases hA : endsT (tr l x) p with
   | false =>
     have HA1 := hid hA
     clear hA
     go_wp2_with fail
     go_ret
     exact ⟨by simp only [HT.out, endsT, HA1.out]; rfl, HE1.out⟩
   | true =>
     have HA1 := hid hA
     clear hA
     go_wp2_with fail
     go_ret
     exact ⟨by simp only [HT.out, endsT, HA1.out]; rfl, HE1.out⟩
 | cat ho s x y ha hb2 hx hy =>
   have HT := hid (tr_cat hn ho ha hb2 hx hy)
   rw [ho] at q0
   rw [ha] at q2
   rw [hb2] at q3
   clear ho s ha hb2 hn
   go_enter Tryz.func122, Tryz.ntmps122
   go_wp2_with fail
   refine (alive_any HF.out x _ _ cap (HV.out.ext ((Below.refl _ w).alloc (Nat.le_refl _) _)) (by omega)).mono ?_
   rintro e w1 ⟨rfl, h1⟩
   have HB1 := hid ((Blk.new w _ _).ext h1)
   have HE1 : Hid (Ext w w1) := hid (((Below.refl _ w).alloc (Nat.le_refl _) _).trans (h1.mono (by simp)))
   have d21 : w1.cell? ⟨w.heap.size, 2, none⟩ = some (.int .i64 x) := HB1.out.cell (i := 2) rfl
   have d31 : w1.cell? ⟨w.heap.size, 3, none⟩ = some (.int .i64 y) := HB1.out.cell (i := 3) rfl
   have dl1 := HB1.out.lt
   clear h1
   cases hA : aliveT (tr l x) with
   | false =>
     have HA1 := hid hA
     clear hA
     go_wp2_with fail
     refine (IH.out x hx _ _ cap (HV.out.ext HE1.out) (by omega)).mono ?_
     rintro e w2 ⟨rfl, h1⟩
     have HB2 := hid (HB1.out.ext h1)
     have HE2 : Hid (Ext w w2) := hid (HE1.out.trans (h1.mono HE1.out.size))
     have d22 : w2.cell? ⟨w.heap.size, 2, none⟩ = some (.int .i64 x) := HB2.out.cell (i := 2) rfl
     have d32 : w2.cell? ⟨w.heap.size, 3, none⟩ = some (.int .i64 y) := HB2.out.cell (i := 3) rfl
     have dl2 := HB2.out.lt
     clear h1
     clear d21 d31 dl1
     cases hA : endsT (tr l x) p with
     | false =>
       have HA2 := hid hA
       clear hA
       go_wp2_with fail
       go_ret
       exact ⟨by simp only [HT.out, endsT, HA1.out, HA2.out]; rfl, HE2.out⟩
     | true =>
       have HA2 := hid hA
       clear hA
       go_wp2_with fail
       refine (null_any HF.out y _ _ cap (HV.out.ext HE2.out) (by omega)).mono ?_
       rintro e w3 ⟨rfl, h1⟩
       have HB3 := hid (HB2.out.ext h1)
       have HE3 : Hid (Ext w w3) := hid (HE2.out.trans (h1.mono HE2.out.size))
       have d23 : w3.cell? ⟨w.heap.size, 2, none⟩ = some (.int .i64 x) := HB3.out.cell (i := 2) rfl
       have d33 : w3.cell? ⟨w.heap.size, 3, none⟩ = some (.int .i64 y) := HB3.out.cell (i := 3) rfl
       have dl3 := HB3.out.lt
       clear h1
       clear d22 d32 dl2
       cases hA : nullT (tr l y) with
       | false =>
         have HA3 := hid hA
         clear hA
         go_wp2_with fail
         go_ret
         exact ⟨by simp only [HT.out, endsT, HA1.out, HA2.out, HA3.out]; rfl, HE3.out⟩
       | true =>
         have HA3 := hid hA
         clear hA
         go_wp2_with fail
         go_ret
         exact ⟨by simp only [HT.out, endsT, HA1.out, HA2.out, HA3.out]; rfl, HE3.out⟩
   | true =>
     have HA1 := hid hA
     clear hA
     go_wp2_with fail
     refine (IH.out y hy _ _ cap (HV.out.ext HE1.out) (by omega)).mono ?_
     rintro e w2 ⟨rfl, h1⟩
     have HB2 := hid (HB1.out.ext h1)
     have HE2 : Hid (Ext w w2) := hid (HE1.out.trans (h1.mono HE1.out.size))
     have d22 : w2.cell? ⟨w.heap.size, 2, none⟩ = some (.int .i64 x) := HB2.out.cell (i := 2) rfl
     have d32 : w2.cell? ⟨w.heap.size, 3, none⟩ = some (.int .i64 y) := HB2.out.cell (i := 3) rfl
     have dl2 := HB2.out.lt
     clear h1
     clear d21 d31 dl1
     cases hA : endsT (tr l y) p with
     | false =>
       have HA2 := hid hA
       clear hA
       go_wp2_with fail
       refine (IH.out x hx _ _ cap (HV.out.ext HE2.out) (by omega)).mono ?_
       rintro e w3 ⟨rfl, h1⟩
       have HB3 := hid (HB2.out.ext h1)
       have HE3 : Hid (Ext w w3) := hid (HE2.out.trans (h1.mono HE2.out.size))
       have d23 : w3.cell? ⟨w.heap.size, 2, none⟩ = some (.int .i64 x) := HB3.out.cell (i := 2) rfl
       have d33 : w3.cell? ⟨w.heap.size, 3, none⟩ = some (.int .i64 y) := HB3.out.cell (i := 3) rfl
       have dl3 := HB3.out.lt
       clear h1
       clear d22 d32 dl2
       cases hA : endsT (tr l x) p with
       | false =>
         have HA3 := hid hA
         clear hA
         go_wp2_with fail
         go_ret
         exact ⟨by simp only [HT.out, endsT, HA1.out, HA2.out, HA3.out]; rfl, HE3.out⟩
       | true =>
         have HA3 := hid hA
         clear hA
         go_wp2_with fail
         refine (null_any HF.out y _ _ cap (HV.out.ext HE3.out) (by omega)).mono ?_
         rintro e w4 ⟨rfl, h1⟩
         have HB4 := hid (HB3.out.ext h1)
         have HE4 : Hid (Ext w w4) := hid (HE3.out.trans (h1.mono HE3.out.size))
         have d24 : w4.cell? ⟨w.heap.size, 2, none⟩ = some (.int .i64 x) := HB4.out.cell (i := 2) rfl
         have d34 : w4.cell? ⟨w.heap.size, 3, none⟩ = some (.int .i64 y) := HB4.out.cell (i := 3) rfl
         have dl4 := HB4.out.lt
         clear h1
         clear d23 d33 dl3
         cases hA : nullT (tr l y) with
         | false =>
           have HA4 := hid hA
           clear hA
           go_wp2_with fail
           go_ret
           exact ⟨by simp only [HT.out, endsT, HA1.out, HA2.out, HA3.out, HA4.out]; rfl, HE4.out⟩
         | true =>
           have HA4 := hid hA
           clear hA
           go_wp2_with fail
           go_ret
           exact ⟨by simp only [HT.out, endsT, HA1.out, HA2.out, HA3.out, HA4.out]; rfl, HE4.out⟩
     | true =>
       have HA2 := hid hA
       clear hA
       go_wp2_with fail
       go_ret
       exact ⟨by simp only [HT.out, endsT, HA1.out, HA2.out]; rfl, HE2.out⟩
 | alt ho s x y ha hb2 hx hy =>
   have HT := hid (tr_alt hn ho ha hb2 hx hy)
   rw [ho] at q0
   rw [ha] at q2
   rw [hb2] at q3
   clear ho s ha hb2 hn
   go_enter Tryz.func122, Tryz.ntmps122
   go_wp2_with fail
   refine (IH.out x hx _ _ cap (HV.out.ext ((Below.refl _ w).alloc (Nat.le_refl _) _)) (by omega)).mono ?_
   rintro e w1 ⟨rfl, h1⟩
   have HB1 := hid ((Blk.new w _ _).ext h1)
   have HE1 : Hid (Ext w w1) := hid (((Below.refl _ w).alloc (Nat.le_refl _) _).trans (h1.mono (by simp)))
   have d21 : w1.cell? ⟨w.heap.size, 2, none⟩ = some (.int .i64 x) := HB1.out.cell (i := 2) rfl
   have d31 : w1.cell? ⟨w.heap.size, 3, none⟩ = some (.int .i64 y) := HB1.out.cell (i := 3) rfl
   have dl1 := HB1.out.lt
   clear h1
   cases hA : endsT (tr l x) p with
   | false =>
     have HA1 := hid hA
     clear hA
     go_wp2_with fail
     refine (IH.out y hy _ _ cap (HV.out.ext HE1.out) (by omega)).mono ?_
     rintro e w2 ⟨rfl, h1⟩
     have HB2 := hid (HB1.out.ext h1)
     have HE2 : Hid (Ext w w2) := hid (HE1.out.trans (h1.mono HE1.out.size))
     have d22 : w2.cell? ⟨w.heap.size, 2, none⟩ = some (.int .i64 x) := HB2.out.cell (i := 2) rfl
     have d32 : w2.cell? ⟨w.heap.size, 3, none⟩ = some (.int .i64 y) := HB2.out.cell (i := 3) rfl
     have dl2 := HB2.out.lt
     clear h1
     clear d21 d31 dl1
     cases hA : endsT (tr l y) p with
     | false =>
       have HA2 := hid hA
       clear hA
       go_wp2_with fail
       go_ret
       exact ⟨by simp only [HT.out, endsT, HA1.out, HA2.out]; rfl, HE2.out⟩
     | true =>
       have HA2 := hid hA
       clear hA
       go_wp2_with fail
       go_ret
       exact ⟨by simp only [HT.out, endsT, HA1.out, HA2.out]; rfl, HE2.out⟩
   | true =>
     have HA1 := hid hA
     clear hA
     go_wp2_with fail
     go_ret
     exact ⟨by simp only [HT.out, endsT, HA1.out]; rfl, HE1.out⟩
set_option maxRecDepth 100000 in
set_option maxHeartbeats 2000000 in
theorem pairs_at {l : List Nd} (F : Rx.Form l) (p : Nat) (q : Nat) (i : Nat) : ∀ (w : World) (ao : Option Addr) (cap : Nat), NodesV w ao l → i < l.length →
 Calls Tryz.prog 120 #[.slice ao l.length cap, .int .i64 i, .int .i64 p, .int .i64 q] w fun e w' => NullPost (pairsT (tr l i) p q) w e w' := by
 induction i using Nat.strongRecOn with
 | _ i ih =>
 intro w ao cap hV hi
 obtain ⟨b, off, rfl, hb, hc⟩ := hV.cells (by omega)
 obtain ⟨n, hn⟩ : ∃ n, l[i]? = some n := ⟨_, List.getElem?_eq_getElem hi⟩
 obtain ⟨q0, q1, q2, q3⟩ := hc i n hn
 have hlen := hV.len
 have IH := hid ih
 have HV := hid hV
 have HF := hid F
 clear ih hc hV
 cases F.kind hn with
 | none ho s a b =>
   have HT := hid (tr_none hn ho)
   rw [ho] at q0
   clear ho s a b hn
   go_enter Tryz.func120, Tryz.ntmps120
   go_wp2_with fail
   go_ret
   exact ⟨by rw [HT.out]; rfl, (Below.refl _ _).alloc (Nat.le_refl _) _⟩
 | empty ho s a b =>
   have HT := hid (tr_empty hn ho)
   rw [ho] at q0
   clear ho s a b hn
   go_enter Tryz.func120, Tryz.ntmps120
   go_wp2_with fail
   go_ret
   exact ⟨by rw [HT.out]; rfl, (Below.refl _ _).alloc (Nat.le_refl _) _⟩
 | sym ho a b =>
   have HT := hid (tr_sym hn ho)
   rw [ho] at q0
   clear ho a b hn
   go_enter Tryz.func120, Tryz.ntmps120
   go_wp2_with fail
   go_ret
   exact ⟨by rw [HT.out]; rfl, (Below.refl _ _).alloc (Nat.le_refl _) _⟩
 | star ho s x ha hb2 hx =>
   have HT := hid (tr_star hn ho ha hx)
   rw [ho] at q0
   rw [ha] at q2
   clear ho s ha hb2 hn
   go_enter Tryz.func120, Tryz.ntmps120
   go_wp2_with fail
   refine (IH.out x hx _ _ cap (HV.out.ext ((Below.refl _ w).alloc (Nat.le_refl _) _)) (by omega)).mono ?_
   rintro e w1 ⟨rfl, h1⟩
   have HB1 := hid ((Blk.new w _ _).ext h1)
   have HE1 : Hid (Ext w w1) := hid (((Below.refl _ w).alloc (Nat.le_refl _) _).trans (h1.mono (by simp)))
   have d21 : w1.cell? ⟨w.heap.size, 2, none⟩ = some (.int .i64 x) := HB1.out.cell (i := 2) rfl
   have dl1 := HB1.out.lt
   clear h1
   cases hA : pairsT (tr l x) p q with
   | false =>
     have HA1 := hid hA
     clear hA
     go_wp2_with fail
     refine (ends_at HF.out p x _ _ cap (HV.out.ext HE1.out) (by omega)).mono ?_
     rintro e w2 ⟨rfl, h1⟩
     have HB2 := hid (HB1.out.ext h1)
     have HE2 : Hid (Ext w w2) := hid (HE1.out.trans (h1.mono HE1.out.size))
     have d22 : w2.cell? ⟨w.heap.size, 2, none⟩ = some (.int .i64 x) := HB2.out.cell (i := 2) rfl
     have dl2 := HB2.out.lt
     clear h1
     clear d21 dl1
     cases hA : endsT (tr l x) p with
     | false =>
       have HA2 := hid hA
       clear hA
       go_wp2_with fail
       go_ret
       exact ⟨by simp only [HT.out, pairsT, HA1.out, HA2.out]; rfl, HE2.out⟩
     | true =>
       have HA2 := hid hA
       clear hA
       go_wp2_with fail
       refine (starts_any HF.out q x _ _ cap (HV.out.ext HE2.out) (by omega)).mono ?_
       rintro e w3 ⟨rfl, h1⟩
       have HB3 := hid (HB2.out.ext h1)
       have HE3 : Hid (Ext w w3) := hid (HE2.out.trans (h1.mono HE2.out.size))
       have d23 : w3.cell? ⟨w.heap.size, 2, none⟩ = some (.int .i64 x) := HB3.out.cell (i := 2) rfl
       have dl3 := HB3.out.lt
       clear h1
       clear d22 dl2
       cases hA : startsT (tr l x) q with
       | false =>
         have HA3 := hid hA
         clear hA
         go_wp2_with fail
         go_ret
         exact ⟨by simp only [HT.out, pairsT, HA1.out, HA2.out, HA3.out]; rfl, HE3.out⟩
       | true =>
         have HA3 := hid hA
         clear hA
         go_wp2_with fail
         go_ret
         exact ⟨by simp only [HT.out, pairsT, HA1.out, HA2.out, HA3.out]; rfl, HE3.out⟩
   | true =>
     have HA1 := hid hA
     clear hA
     go_wp2_with fail
     go_ret
     exact ⟨by simp only [HT.out, pairsT, HA1.out]; rfl, HE1.out⟩
 | cat ho s x y ha hb2 hx hy =>
   have HT := hid (tr_cat hn ho ha hb2 hx hy)
   rw [ho] at q0
   rw [ha] at q2
   rw [hb2] at q3
   clear ho s ha hb2 hn
   go_enter Tryz.func120, Tryz.ntmps120
   go_wp2_with fail
   refine (IH.out x hx _ _ cap (HV.out.ext ((Below.refl _ w).alloc (Nat.le_refl _) _)) (by omega)).mono ?_
   rintro e w1 ⟨rfl, h1⟩
   have HB1 := hid ((Blk.new w _ _).ext h1)
   have HE1 : Hid (Ext w w1) := hid (((Below.refl _ w).alloc (Nat.le_refl _) _).trans (h1.mono (by simp)))
   have d21 : w1.cell? ⟨w.heap.size, 2, none⟩ = some (.int .i64 x) := HB1.out.cell (i := 2) rfl
   have d31 : w1.cell? ⟨w.heap.size, 3, none⟩ = some (.int .i64 y) := HB1.out.cell (i := 3) rfl
   have dl1 := HB1.out.lt
   clear h1
   cases hA : pairsT (tr l x) p q with
   | false =>
     have HA1 := hid hA
     clear hA
     go_wp2_with fail
     refine (alive_any HF.out x _ _ cap (HV.out.ext HE1.out) (by omega)).mono ?_
     rintro e w2 ⟨rfl, h1⟩
     have HB2 := hid (HB1.out.ext h1)
     have HE2 : Hid (Ext w w2) := hid (HE1.out.trans (h1.mono HE1.out.size))
     have d22 : w2.cell? ⟨w.heap.size, 2, none⟩ = some (.int .i64 x) := HB2.out.cell (i := 2) rfl
     have d32 : w2.cell? ⟨w.heap.size, 3, none⟩ = some (.int .i64 y) := HB2.out.cell (i := 3) rfl
     have dl2 := HB2.out.lt
     clear h1
     clear d21 d31 dl1
     cases hA : aliveT (tr l x) with
     | false =>
       have HA2 := hid hA
       clear hA
       go_wp2_with fail
       refine (ends_at HF.out p x _ _ cap (HV.out.ext HE2.out) (by omega)).mono ?_
       rintro e w3 ⟨rfl, h1⟩
       have HB3 := hid (HB2.out.ext h1)
       have HE3 : Hid (Ext w w3) := hid (HE2.out.trans (h1.mono HE2.out.size))
       have d23 : w3.cell? ⟨w.heap.size, 2, none⟩ = some (.int .i64 x) := HB3.out.cell (i := 2) rfl
       have d33 : w3.cell? ⟨w.heap.size, 3, none⟩ = some (.int .i64 y) := HB3.out.cell (i := 3) rfl
       have dl3 := HB3.out.lt
       clear h1
       clear d22 d32 dl2
       cases hA : endsT (tr l x) p with
       | false =>
         have HA3 := hid hA
         clear hA
         go_wp2_with fail
         go_ret
         exact ⟨by simp only [HT.out, pairsT, HA1.out, HA2.out, HA3.out]; rfl, HE3.out⟩
       | true =>
         have HA3 := hid hA
         clear hA
         go_wp2_with fail
         refine (starts_any HF.out q y _ _ cap (HV.out.ext HE3.out) (by omega)).mono ?_
         rintro e w4 ⟨rfl, h1⟩
         have HB4 := hid (HB3.out.ext h1)
         have HE4 : Hid (Ext w w4) := hid (HE3.out.trans (h1.mono HE3.out.size))
         have d24 : w4.cell? ⟨w.heap.size, 2, none⟩ = some (.int .i64 x) := HB4.out.cell (i := 2) rfl
         have d34 : w4.cell? ⟨w.heap.size, 3, none⟩ = some (.int .i64 y) := HB4.out.cell (i := 3) rfl
         have dl4 := HB4.out.lt
         clear h1
         clear d23 d33 dl3
         cases hA : startsT (tr l y) q with
         | false =>
           have HA4 := hid hA
           clear hA
           go_wp2_with fail
           go_ret
           exact ⟨by simp only [HT.out, pairsT, HA1.out, HA2.out, HA3.out, HA4.out]; rfl, HE4.out⟩
         | true =>
           have HA4 := hid hA
           clear hA
           go_wp2_with fail
           go_ret
           exact ⟨by simp only [HT.out, pairsT, HA1.out, HA2.out, HA3.out, HA4.out]; rfl, HE4.out⟩
     | true =>
       have HA2 := hid hA
       clear hA
       go_wp2_with fail
       refine (IH.out y hy _ _ cap (HV.out.ext HE2.out) (by omega)).mono ?_
       rintro e w3 ⟨rfl, h1⟩
       have HB3 := hid (HB2.out.ext h1)
       have HE3 : Hid (Ext w w3) := hid (HE2.out.trans (h1.mono HE2.out.size))
       have d23 : w3.cell? ⟨w.heap.size, 2, none⟩ = some (.int .i64 x) := HB3.out.cell (i := 2) rfl
       have d33 : w3.cell? ⟨w.heap.size, 3, none⟩ = some (.int .i64 y) := HB3.out.cell (i := 3) rfl
       have dl3 := HB3.out.lt
       clear h1
       clear d22 d32 dl2
       cases hA : pairsT (tr l y) p q with
       | false =>
         have HA3 := hid hA
         clear hA
         go_wp2_with fail
         refine (ends_at HF.out p x _ _ cap (HV.out.ext HE3.out) (by omega)).mono ?_
         rintro e w4 ⟨rfl, h1⟩
         have HB4 := hid (HB3.out.ext h1)
         have HE4 : Hid (Ext w w4) := hid (HE3.out.trans (h1.mono HE3.out.size))
         have d24 : w4.cell? ⟨w.heap.size, 2, none⟩ = some (.int .i64 x) := HB4.out.cell (i := 2) rfl
         have d34 : w4.cell? ⟨w.heap.size, 3, none⟩ = some (.int .i64 y) := HB4.out.cell (i := 3) rfl
         have dl4 := HB4.out.lt
         clear h1
         clear d23 d33 dl3
         cases hA : endsT (tr l x) p with
         | false =>
           have HA4 := hid hA
           clear hA
           go_wp2_with fail
           go_ret
           exact ⟨by simp only [HT.out, pairsT, HA1.out, HA2.out, HA3.out, HA4.out]; rfl, HE4.out⟩
         | true =>
           have HA4 := hid hA
           clear hA
           go_wp2_with fail
           refine (starts_any HF.out q y _ _ cap (HV.out.ext HE4.out) (by omega)).mono ?_
           rintro e w5 ⟨rfl, h1⟩
           have HB5 := hid (HB4.out.ext h1)
           have HE5 : Hid (Ext w w5) := hid (HE4.out.trans (h1.mono HE4.out.size))
           have d25 : w5.cell? ⟨w.heap.size, 2, none⟩ = some (.int .i64 x) := HB5.out.cell (i := 2) rfl
           have d35 : w5.cell? ⟨w.heap.size, 3, none⟩ = some (.int .i64 y) := HB5.out.cell (i := 3) rfl
           have dl5 := HB5.out.lt
           clear h1
           clear d24 d34 dl4
           cases hA : startsT (tr l y) q with
           | false =>
             have HA5 := hid hA
             clear hA
             go_wp2_with fail
             go_ret
             exact ⟨by simp only [HT.out, pairsT, HA1.out, HA2.out, HA3.out, HA4.out, HA5.out]; rfl, HE5.out⟩
           | true =>
             have HA5 := hid hA
             clear hA
             go_wp2_with fail
             go_ret
             exact ⟨by simp only [HT.out, pairsT, HA1.out, HA2.out, HA3.out, HA4.out, HA5.out]; rfl, HE5.out⟩
       | true =>
         have HA3 := hid hA
         clear hA
         go_wp2_with fail
         go_ret
         exact ⟨by simp only [HT.out, pairsT, HA1.out, HA2.out, HA3.out]; rfl, HE3.out⟩
   | true =>
     have HA1 := hid hA
     clear hA
     go_wp2_with fail
     refine (alive_any HF.out y _ _ cap (HV.out.ext HE1.out) (by omega)).mono ?_
     rintro e w2 ⟨rfl, h1⟩
     have HB2 := hid (HB1.out.ext h1)
     have HE2 : Hid (Ext w w2) := hid (HE1.out.trans (h1.mono HE1.out.size))
     have d22 : w2.cell? ⟨w.heap.size, 2, none⟩ = some (.int .i64 x) := HB2.out.cell (i := 2) rfl
     have d32 : w2.cell? ⟨w.heap.size, 3, none⟩ = some (.int .i64 y) := HB2.out.cell (i := 3) rfl
     have dl2 := HB2.out.lt
     clear h1
     clear d21 d31 dl1
     cases hA : aliveT (tr l y) with
     | false =>
       have HA2 := hid hA
       clear hA
       go_wp2_with fail
       refine (alive_any HF.out x _ _ cap (HV.out.ext HE2.out) (by omega)).mono ?_
       rintro e w3 ⟨rfl, h1⟩
       have HB3 := hid (HB2.out.ext h1)
       have HE3 : Hid (Ext w w3) := hid (HE2.out.trans (h1.mono HE2.out.size))
       have d23 : w3.cell? ⟨w.heap.size, 2, none⟩ = some (.int .i64 x) := HB3.out.cell (i := 2) rfl
       have d33 : w3.cell? ⟨w.heap.size, 3, none⟩ = some (.int .i64 y) := HB3.out.cell (i := 3) rfl
       have dl3 := HB3.out.lt
       clear h1
       clear d22 d32 dl2
       cases hA : aliveT (tr l x) with
       | false =>
         have HA3 := hid hA
         clear hA
         go_wp2_with fail
         refine (ends_at HF.out p x _ _ cap (HV.out.ext HE3.out) (by omega)).mono ?_
         rintro e w4 ⟨rfl, h1⟩
         have HB4 := hid (HB3.out.ext h1)
         have HE4 : Hid (Ext w w4) := hid (HE3.out.trans (h1.mono HE3.out.size))
         have d24 : w4.cell? ⟨w.heap.size, 2, none⟩ = some (.int .i64 x) := HB4.out.cell (i := 2) rfl
         have d34 : w4.cell? ⟨w.heap.size, 3, none⟩ = some (.int .i64 y) := HB4.out.cell (i := 3) rfl
         have dl4 := HB4.out.lt
         clear h1
         clear d23 d33 dl3
         cases hA : endsT (tr l x) p with
         | false =>
           have HA4 := hid hA
           clear hA
           go_wp2_with fail
           go_ret
           exact ⟨by simp only [HT.out, pairsT, HA1.out, HA2.out, HA3.out, HA4.out]; rfl, HE4.out⟩
         | true =>
           have HA4 := hid hA
           clear hA
           go_wp2_with fail
           refine (starts_any HF.out q y _ _ cap (HV.out.ext HE4.out) (by omega)).mono ?_
           rintro e w5 ⟨rfl, h1⟩
           have HB5 := hid (HB4.out.ext h1)
           have HE5 : Hid (Ext w w5) := hid (HE4.out.trans (h1.mono HE4.out.size))
           have d25 : w5.cell? ⟨w.heap.size, 2, none⟩ = some (.int .i64 x) := HB5.out.cell (i := 2) rfl
           have d35 : w5.cell? ⟨w.heap.size, 3, none⟩ = some (.int .i64 y) := HB5.out.cell (i := 3) rfl
           have dl5 := HB5.out.lt
           clear h1
           clear d24 d34 dl4
           cases hA : startsT (tr l y) q with
           | false =>
             have HA5 := hid hA
             clear hA
             go_wp2_with fail
             go_ret
             exact ⟨by simp only [HT.out, pairsT, HA1.out, HA2.out, HA3.out, HA4.out, HA5.out]; rfl, HE5.out⟩
           | true =>
             have HA5 := hid hA
             clear hA
             go_wp2_with fail
             go_ret
             exact ⟨by simp only [HT.out, pairsT, HA1.out, HA2.out, HA3.out, HA4.out, HA5.out]; rfl, HE5.out⟩
       | true =>
         have HA3 := hid hA
         clear hA
         go_wp2_with fail
         refine (IH.out y hy _ _ cap (HV.out.ext HE3.out) (by omega)).mono ?_
         rintro e w4 ⟨rfl, h1⟩
         have HB4 := hid (HB3.out.ext h1)
         have HE4 : Hid (Ext w w4) := hid (HE3.out.trans (h1.mono HE3.out.size))
         have d24 : w4.cell? ⟨w.heap.size, 2, none⟩ = some (.int .i64 x) := HB4.out.cell (i := 2) rfl
         have d34 : w4.cell? ⟨w.heap.size, 3, none⟩ = some (.int .i64 y) := HB4.out.cell (i := 3) rfl
         have dl4 := HB4.out.lt
         clear h1
         clear d23 d33 dl3
         cases hA : pairsT (tr l y) p q with
         | false =>
           have HA4 := hid hA
           clear hA
           go_wp2_with fail
           refine (ends_at HF.out p x _ _ cap (HV.out.ext HE4.out) (by omega)).mono ?_
           rintro e w5 ⟨rfl, h1⟩
           have HB5 := hid (HB4.out.ext h1)
           have HE5 : Hid (Ext w w5) := hid (HE4.out.trans (h1.mono HE4.out.size))
           have d25 : w5.cell? ⟨w.heap.size, 2, none⟩ = some (.int .i64 x) := HB5.out.cell (i := 2) rfl
           have d35 : w5.cell? ⟨w.heap.size, 3, none⟩ = some (.int .i64 y) := HB5.out.cell (i := 3) rfl
           have dl5 := HB5.out.lt
           clear h1
           clear d24 d34 dl4
           cases hA : endsT (tr l x) p with
           | false =>
             have HA5 := hid hA
             clear hA
             go_wp2_with fail
             go_ret
             exact ⟨by simp only [HT.out, pairsT, HA1.out, HA2.out, HA3.out, HA4.out, HA5.out]; rfl, HE5.out⟩
           | true =>
             have HA5 := hid hA
             clear hA
             go_wp2_with fail
             refine (starts_any HF.out q y _ _ cap (HV.out.ext HE5.out) (by omega)).mono ?_
             rintro e w6 ⟨rfl, h1⟩
             have HB6 := hid (HB5.out.ext h1)
             have HE6 : Hid (Ext w w6) := hid (HE5.out.trans (h1.mono HE5.out.size))
             have d26 : w6.cell? ⟨w.heap.size, 2, none⟩ = some (.int .i64 x) := HB6.out.cell (i := 2) rfl
             have d36 : w6.cell? ⟨w.heap.size, 3, none⟩ = some (.int .i64 y) := HB6.out.cell (i := 3) rfl
             have dl6 := HB6.out.lt
             clear h1
             clear d25 d35 dl5
             cases hA : startsT (tr l y) q with
             | false =>
               have HA6 := hid hA
               clear hA
               go_wp2_with fail
               go_ret
               exact ⟨by simp only [HT.out, pairsT, HA1.out, HA2.out, HA3.out, HA4.out, HA5.out, HA6.out]; rfl, HE6.out⟩
             | true =>
               have HA6 := hid hA
               clear hA
               go_wp2_with fail
               go_ret
               exact ⟨by simp only [HT.out, pairsT, HA1.out, HA2.out, HA3.out, HA4.out, HA5.out, HA6.out]; rfl, HE6.out⟩
         | true =>
           have HA4 := hid hA
           clear hA
           go_wp2_with fail
           go_ret
           exact ⟨by simp only [HT.out, pairsT, HA1.out, HA2.out, HA3.out, HA4.out]; rfl, HE4.out⟩
     | true =>
       have HA2 := hid hA
       clear hA
       go_wp2_with fail
       go_ret
       exact ⟨by simp only [HT.out, pairsT, HA1.out, HA2.out]; rfl, HE2.out⟩
 | alt ho s x y ha hb2 hx hy =>
   have HT := hid (tr_alt hn ho ha hb2 hx hy)
   rw [ho] at q0
   rw [ha] at q2
   rw [hb2] at q3
   clear ho s ha hb2 hn
   go_enter Tryz.func120, Tryz.ntmps120
   go_wp2_with fail
   refine (IH.out x hx _ _ cap (HV.out.ext ((Below.refl _ w).alloc (Nat.le_refl _) _)) (by omega)).mono ?_
   rintro e w1 ⟨rfl, h1⟩
   have HB1 := hid ((Blk.new w _ _).ext h1)
   have HE1 : Hid (Ext w w1) := hid (((Below.refl _ w).alloc (Nat.le_refl _) _).trans (h1.mono (by simp)))
   have d21 : w1.cell? ⟨w.heap.size, 2, none⟩ = some (.int .i64 x) := HB1.out.cell (i := 2) rfl
   have d31 : w1.cell? ⟨w.heap.size, 3, none⟩ = some (.int .i64 y) := HB1.out.cell (i := 3) rfl
   have dl1 := HB1.out.lt
   clear h1
   cases hA : pairsT (tr l x) p q with
   | false =>
     have HA1 := hid hA
     clear hA
     go_wp2_with fail
     refine (IH.out y hy _ _ cap (HV.out.ext HE1.out) (by omega)).mono ?_
     rintro e w2 ⟨rfl, h1⟩
     have HB2 := hid (HB1.out.ext h1)
     have HE2 : Hid (Ext w w2) := hid (HE1.out.trans (h1.mono HE1.out.size))
     have d22 : w2.cell? ⟨w.heap.size, 2, none⟩ = some (.int .i64 x) := HB2.out.cell (i := 2) rfl
     have d32 : w2.cell? ⟨w.heap.size, 3, none⟩ = some (.int .i64 y) := HB2.out.cell (i := 3) rfl
     have dl2 := HB2.out.lt
     clear h1
     clear d21 d31 dl1
     cases hA : pairsT (tr l y) p q with
     | false =>
       have HA2 := hid hA
       clear hA
       go_wp2_with fail
       go_ret
       exact ⟨by simp only [HT.out, pairsT, HA1.out, HA2.out]; rfl, HE2.out⟩
     | true =>
       have HA2 := hid hA
       clear hA
       go_wp2_with fail
       go_ret
       exact ⟨by simp only [HT.out, pairsT, HA1.out, HA2.out]; rfl, HE2.out⟩
   | true =>
     have HA1 := hid hA
     clear hA
     go_wp2_with fail
     go_ret
     exact ⟨by simp only [HT.out, pairsT, HA1.out]; rfl, HE1.out⟩
end Go.Proofs.YtngpjagpeblbjaaGreatDoor
