/-
  Walk of automaton over pairs of states.
  The tour through the pairs of states of two automata: what it tells, and that it ends.
  Walks of the laws' small helpers: none, Plain, ahead, same.
  Walk of Within.
-/
import Derived.Test.YtngpjagpeblbjaaGreatDoorB03
import Derived.Sort.OwnSorted
import Derived.Sort.Grow
import Derived.Lib.OwnBridge
import Derived.StillTailTactics
import Derived.Deep.QuietTactic
import Derived.BigQuiet
import Derived.BigRegion
import Derived.Outline
import Derived.WalkSpells
import Derived.Deep.Draws
import Derived.Laws.ResultCell
import Derived.Laws.CopyRow
import Derived.Laws.OwnMore
import Derived.Deep.Cut
import Derived.Lib.SlicesCompact
import Derived.Lib.RowBridge
import Derived.Test.YtngpjagpeblbjaaGreatDoorB04
import Derived.Test.YtngpjagpeblbjaaGreatDoorB05
import Derived.Test.YtngpjagpeblbjaaGreatDoorB01
import Derived.Test.YtngpjagpeblbjaaGreatDoorB02
namespace Go.Proofs.YtngpjagpeblbjaaGreatDoor
open Go.RowKit Go.Spy Go.Heaped Go.Tour Go.Rx
set_option maxRecDepth 100000 in
set_option maxHeartbeats 4000000 in
theorem auto_pr {w : World} {vK vN vF vS : Value} {us : List Value} {ks : List Pr} {fr : List (Nat × Nat)} {syms : List ByteArray} (hK : ReadR w 2 prC vK ks) (hN : ReadR w 1 oneA vN us) (hF : ReadR w 2 stepA vF fr) (hS : ReadR w 1 strC vS syms) (hk1 : ks.length ≤ 1000) (hs1 : syms.length ≤ 1000)
 {f : FuncId} {bs caps : Array Value} (hE : Enters Tryz.prog f) (p : Pr → Bool) (hf : ∀ k w', k ∈ ks → Ext w w' → Calls Tryz.prog f (bs ++ #[.agg (prC k)] ++ caps) w' fun e w'' => e = .returned (.bool (p k)) ∧ Ext w' w'') :
 Calls Tryz.prog 48 #[.agg #[vK, vN, vF], vS, .func (.func f) bs caps] w (AutoPost syms vN (ks.map p) w) := by
 obtain ⟨aoK, cK, rfl, hK2⟩ := hK.form
 obtain ⟨aoN, cN, rfl, -⟩ := hN.form
 obtain ⟨aoF, cF, rfl, -⟩ := hF.form
 obtain ⟨aoS, cS, rfl, -⟩ := hS.form
 obtain ⟨n, hn⟩ : ∃ n, n = ks.length := ⟨_, rfl⟩
 rw [← hn] at hK2 hk1 ⊢
 have HK := hid hK
 rw [← hn] at HK
 have HS := hid hS
 have HF := hid hf
 have HEN := hid hE
 have HNN := hid hn
 have HCL : ∀ W : World, Ext w W → Calls Tryz.prog 42 #[.slice aoS syms.length cS] W (ClonePost 9 strC syms W) := fun W e => clone_str (hS.ext e) (by omega)
 have HCLN := hid HCL
 clear hK hN hF hS hf hE hn HCL
 go_enter Tryz.func48, Tryz.ntmps48
 go_upto_region 1 with fail
 go_cut [7] from 8 (fun u7 wx => ∃ b7 vS', u7 = .pointer (some ⟨b7, 0, none⟩) ∧ Hid (AutoW w wx (.slice aoK n cK) (.slice aoN us.length cN) (.slice aoF fr.length cF) vS' (.slice none 0 0) 80 b7 syms []))
 case first =>
  obtain ⟨W1, hW1⟩ : ∃ u, u = ((w.alloc (.cells #[.slice aoK n cK, .slice aoN us.length cN, .slice aoF fr.length cF] 80)).alloc (.cells #[.slice none 0 0, .slice none 0 0, .slice none 0 0] 26)) := ⟨_, rfl⟩
  rw [← hW1]
  have eW : Ext w W1 := hW1 ▸ ((Below.refl _ _).alloc (Nat.le_refl _) _).alloc (by simp) _
  have HB1 : Hid (Blk W1 w.heap.size 80 #[.slice aoK n cK, .slice aoN us.length cN, .slice aoF fr.length cF]) := hid (hW1 ▸ (Blk.new _ _ _).alloc _)
  have HB2 : Hid (Blk W1 (w.heap.size + 1) 26 #[.slice none 0 0, .slice none 0 0, .slice none 0 0]) := hid (hW1 ▸ Blk.new' _ _ _ (by simp))
  have HW1 := hid eW
  have c1 : W1.cell? ⟨w.heap.size, 1, none⟩ = some (.slice aoN us.length cN) := HB1.out.cell rfl
  have l1 := HB1.out.lt
  have l2 := HB2.out.lt
  have hS0 : Ext W1 W1.drew := (Below.refl _ _).drew
  clear eW hW1
  refine wp_region_heldL (Ext W1) (by kernel_rfl) ?_
  refine wpAnyH_takeK 0 6 #[true, false, false, false, false, false, false] rfl (by kernel_rfl) rfl (.slice aoS syms.length cS) (fun _ _ _ h => h) (Or.inl ⟨rfl, fun w' hS => ?_⟩) hS0 ?_
  ·go_simp <;> with_reducible rfl
  refine wpAnyH_takeK 2 5 #[true, false, true, false, false, false, false] rfl (by kernel_rfl) rfl (.pointer (some ⟨w.heap.size, 1, none⟩)) (fun _ _ _ h => h) (Or.inl ⟨rfl, fun w' hS => ?_⟩) hS0 ?_
  ·go_simp <;> with_reducible rfl
  refine wpAnyH_takeK 3 4 #[true, false, true, true, false, false, false] rfl (by kernel_rfl) rfl (.slice aoN us.length cN) (fun _ _ _ h => h) (Or.inl ⟨rfl, fun w' hS => ?_⟩) hS0 ?_
  ·have c2 := (hS.cell (p := ⟨w.heap.size, 1, none⟩) l1).trans c1; go_simp <;> with_reducible rfl
  refine wpAnyH_two 1 5 3 #[true, true, true, true, false, false, false] #[true, false, true, true, false, true, false] rfl rfl (by kernel_rfl) rfl ?_ ?_
  ·go_wp2_with fail
   refine (HCLN.out _ (HW1.out.trans (hS0.mono HW1.out.size))).mono ?_
   rintro e w4 ⟨hx4, vS', rfl, hO⟩
   obtain ⟨aoC, cC, rfl, -⟩ := (OwnR.read hO strC_size).form
   have hS4 : Ext W1 w4 := hS0.trans (hx4.mono (by simp))
   have HO := hid (hO.lower (b := w.heap.size) (by have := HW1.out.size; simpa using this))
   have HS4 := hid hS4
   clear hO hx4
   go_wp2_with fail
   refine ⟨hS4, ?_⟩
   refine wpAnyH_takeK 4 2 #[true, true, true, true, true, false, false] rfl (by kernel_rfl) rfl (.agg #[.slice aoC syms.length cC, .slice aoN us.length cN, .slice none 0 0]) (fun _ _ _ h => h) (Or.inl ⟨rfl, fun w' hS => ?_⟩) hS4 ?_
   ·go_simp <;> with_reducible rfl
   refine wpAnyH_one 5 1 #[true, true, true, true, true, true, false] rfl (by kernel_rfl) rfl ?_
   go_wp2_with fail
   refine ⟨hS4.alloc hS4.size _, ?_⟩
   refine wpAnyH_one 6 0 #[true, true, true, true, true, true, true] rfl (by kernel_rfl) rfl ?_
   go_wp2_with fail
   refine ⟨hS4.alloc hS4.size _, ?_⟩
   refine wpAnyH_end (P := Tryz.prog) (by kernel_rfl) ?_
   go_wp2_with fail
   go_meet
   refine ⟨_, .slice aoC syms.length cC, rfl, hid ⟨(HW1.out.trans (hS4.mono HW1.out.size)).alloc (HW1.out.trans (hS4.mono HW1.out.size)).size _, (HB1.out.ext hS4).alloc _, (HB2.out.ext hS4).alloc _, Blk.new _ _ _, HO.out.alloc _, OwnR.nil _ _ _ _ _, by have := hS4.size; omega⟩⟩
  ·go_wp2_with fail
   have hS3 : Ext W1 (W1.drew.alloc (.cells #[.slice none 0 0, .slice none 0 0, .slice none 0 0] 26)) := hS0.alloc (by simp) _
   refine ⟨hS3, ?_⟩
   refine wpAnyH_one 1 2 #[true, true, true, true, false, true, false] rfl (by kernel_rfl) rfl ?_
   go_wp2_with fail
   refine (HCLN.out _ (HW1.out.trans (hS3.mono HW1.out.size))).mono ?_
   rintro e w4 ⟨hx4, vS', rfl, hO⟩
   obtain ⟨aoC, cC, rfl, -⟩ := (OwnR.read hO strC_size).form
   have hS4 : Ext W1 w4 := hS3.trans (hx4.mono (by simp))
   have hB4 : Blk w4 W1.heap.size 26 #[.slice none 0 0, .slice none 0 0, .slice none 0 0] := (Blk.new' _ _ _ (by simp)).ext hx4
   have HO := hid (hO.lower (b := w.heap.size) (by have := HW1.out.size; have := hS3.size; omega))
   have HB4 := hid hB4
   have d0 : w4.cell? ⟨W1.heap.size, 0, none⟩ = some (.slice none 0 0) := hB4.cell rfl
   have d1 : w4.cell? ⟨W1.heap.size, 1, none⟩ = some (.slice none 0 0) := hB4.cell rfl
   have d2 : w4.cell? ⟨W1.heap.size, 2, none⟩ = some (.slice none 0 0) := hB4.cell rfl
   have df := hB4.frozen
   have dl := hB4.lt
   have hso : ∀ g, (Value.slice aoC syms.length cC).ownBlock = some g → ¬ g = W1.heap.size := fun g e e2 => by obtain ⟨_, hb⟩ := own_block hO e; exact ne_of_blk hB4 hb (by decide) e2.symm
   have HSO := hid hso
   clear hO hx4 hB4 hso
   go_wp2_with fail
   refine ⟨hS4, ?_⟩
   refine wpAnyH_takeK 4 1 #[true, true, true, true, true, true, false] rfl (by kernel_rfl) rfl (.agg #[.slice aoC syms.length cC, .slice aoN us.length cN, .slice none 0 0]) (fun _ _ _ h => h) (Or.inl ⟨rfl, fun w' hS => ?_⟩) hS4 ?_
   ·go_simp <;> with_reducible rfl
   refine wpAnyH_one 6 0 #[true, true, true, true, true, true, true] rfl (by kernel_rfl) rfl ?_
   go_wp2_with fail
   have cc : Chg (fun k => k = W1.heap.size) w4 (((w4.setCell ⟨W1.heap.size, 0, none⟩ (.slice aoC syms.length cC)).setCell ⟨W1.heap.size, 1, none⟩ (.slice aoN us.length cN)).setCell ⟨W1.heap.size, 2, none⟩ (.slice none 0 0)) :=
    Chg.setCell (p := ⟨W1.heap.size, 2, none⟩) (S := fun k => k = W1.heap.size) (Chg.setCell (p := ⟨W1.heap.size, 1, none⟩) (S := fun k => k = W1.heap.size) (Chg.setCell (p := ⟨W1.heap.size, 0, none⟩) (S := fun k => k = W1.heap.size) (Chg.refl _ w4) rfl (.slice aoC syms.length cC)) rfl (.slice aoN us.length cN)) rfl (.slice none 0 0)
   have hS5 := hS4.trans (cc.below (B := W1.heap.size) (by omega) (fun k e => by omega))
   refine ⟨hS5, ?_⟩
   refine wpAnyH_end (P := Tryz.prog) (by kernel_rfl) ?_
   go_wp2_with fail
   go_meet
   refine ⟨_, .slice aoC syms.length cC, rfl, hid ⟨HW1.out.trans (hS5.mono HW1.out.size), HB1.out.ext hS5, HB2.out.ext hS5, ?_, HO.out.chg cc HSO.out, OwnR.nil _ _ _ _ _, l2⟩⟩
   exact ((HB4.out.set 0 _).set 1 _).set 2 _
 case rest =>
  obtain ⟨b7, vS', rfl, HA⟩ := hcut
  have e0 : wc.cell? ⟨w.heap.size, 0, none⟩ = some (.slice aoK n cK) := HA.out.box.cell rfl
  have l0 := HA.out.box.lt
  go_wp2_with fail
  go_loopg [18] n (fun g u wr => ∃ j vFin, g = n - j ∧ j ≤ n ∧ u = .int .i64 j ∧ Hid (AutoW w wr (.slice aoK n cK) (.slice aoN us.length cN) (.slice aoF fr.length cF) vS' vFin 80 b7 syms ((ks.take j).map p)))
  case atStart => exact ⟨0, _, rfl, Nat.zero_le _, rfl, by simpa using HA⟩
  case round =>
   clear HA e0 l0
   obtain ⟨j, vFin, rfl, hj, rfl, HW⟩ := hrel
   obtain ⟨fs, hfs⟩ : ∃ fs, fs = (ks.take j).map p := ⟨_, rfl⟩
   rw [← hfs] at HW
   have hfl : fs.length ≤ 1000 := by rw [hfs]; simp; omega
   have HFS := hid hfs
   clear hfs
   by_cases hlt : j < n
   ·obtain ⟨gK, oK, rfl⟩ := hK2 (by omega)
    obtain ⟨k, hk⟩ : ∃ k, ks[j]? = some k := ⟨_, List.getElem?_eq_getElem (by rw [← HNN.out]; exact hlt)⟩
    have HC1 : Hid (∀ e, e < 2 → wr.cell? ⟨gK, oK + j * 2 + e, none⟩ = (prC k)[e]?) := hid fun e he => by
     have h1 := HK.out.ext HW.out.ext
     rw [HNN.out] at h1
     have h := h1.cell hk (k := e) he
     rwa [show oK + (j * 2 + e) = oK + j * 2 + e by omega] at h
    have hgK : gK < wr.heap.size := by
     have h1 := HK.out.ext HW.out.ext
     rw [HNN.out] at h1
     exact h1.blk_lt (by rw [← HNN.out]; omega)
    have HKK := hid hk
    clear hk
    go_upto_region 5 with (first
     | (with_reducible refine onOp 21 ?_
        go_loud (refine wpList_load_cells rfl 83 (.tmp 20) rfl gK (oK + j * 2) rfl (prC k) _ 2 HC1.out (prC_size _) Tryz.underlying83 rfl info83 ?_))
     | (with_reducible refine onOp 9 ?_
        go_loud (refine wpList_alloc_aggN rfl 83 rfl _ zero83 ?_)
        intro Z HZ1
        have HZs : Hid (Z.size = 2) := hid (by rw [HZ1.out]; exact prC_size _)
        clear HZ1)
     | (with_reducible show wpList _ _ _ ((⟨_, Op.store _ (.tmp 9) _, _, _, _, _⟩ : Oper) :: _) _ _
        go_loud (refine wpList_store_last rfl 83 (.tmp 9) (.tmp 21) rfl wr.heap.size (prC k) rfl rfl 83 Z rfl (by rw [prC_size]; exact info83) (by rw [HZs.out, prC_size]) (ones_pr k) ?_)))
    obtain ⟨wz, hwz⟩ : ∃ u, u = wr.alloc (.cells (prC k) 83) := ⟨_, rfl⟩
    rw [← hwz]
    have HB9 : Hid (Blk wz wr.heap.size 83 (prC k)) := hid (hwz ▸ Blk.new _ _ _)
    have HWZ := hid (HW.out.ext' (hwz ▸ (Below.refl _ _).alloc (Nat.le_refl _) _ : Ext wr wz))
    obtain ⟨b9, hb9⟩ : ∃ n, n = wr.heap.size := ⟨_, rfl⟩
    rw [← hb9] at HB9 ⊢
    have hmem := hid (List.mem_of_getElem? HKK.out)
    have z2 : wz.cell? ⟨b7, 2, none⟩ = some vFin := HWZ.out.dfa.cell rfl
    have zl := HWZ.out.dfa.lt
    have hS0 : Blk wz.drew b9 83 (prC k) := HB9.out.drew
    have HCALL := hid (HF.out k wz.drew hmem.out (HWZ.out.ext.drew))
    clear hwz hb9 HW HC1 hgK
    refine wp_region_heldL (fun w' => Blk w' b9 83 (prC k)) (by kernel_rfl) ?_
    refine wpAnyH_takeK 0 8 (mk 9 1) rfl (by kernel_rfl) rfl (.pointer (some ⟨b7, 2, none⟩)) (fun _ _ _ h => h) (Or.inl ⟨rfl, fun w' hS => ?_⟩) hS0 ?_
    ·go_simp <;> with_reducible rfl
    refine wpAnyH_takeK 2 7 (mk 9 5) rfl (by kernel_rfl) rfl (.func (.func f) bs caps) (fun _ _ _ h => h) (Or.inl ⟨rfl, fun w' hS => ?_⟩) hS0 ?_
    ·go_simp <;> with_reducible rfl
    refine wpAnyH_takeK 3 6 (mk 9 13) rfl (by kernel_rfl) rfl (.agg (prC k)) (fun _ _ _ h => h) (Or.inl ⟨rfl, fun w' hS => ?_⟩) hS0 ?_
    ·exact exec_load_cells 83 (.tmp 9) rfl b9 0 rfl _ _ 2 (blk_cells hS (prC_size _)) (prC_size _) Tryz.underlying83 rfl info83
    refine wpAnyH_two 1 4 5 (mk 9 15) (mk 9 29) rfl rfl (by kernel_rfl) rfl ?_ ?_
    ·go_wp2_with fail
     refine ⟨hS0, ?_⟩
     refine wpAnyH_one 4 4 (mk 9 31) rfl (by kernel_rfl) rfl ?_
     go_wp2_with (with_reducible refine onOp 26 ?_
                  go_loud (refine wpList_callb (args := #[.agg (prC k)]) rfl (.tmp 24) #[.tmp 25] #[83] rfl HEN.out rfl rfl HCALL.out ?_)
                  rintro e w4 ⟨rfl, hx⟩
                  refine ⟨_, rfl, ?_⟩
                  have hE4 : Ext wz w4 := (Below.refl wz.heap.size wz).drew.trans (hx.mono (by simp))
                  have HE4 := hid hE4
                  clear hx hE4)
     refine ⟨HB9.out.ext HE4.out, ?_⟩
     refine wpAnyH_one 5 3 (mk 9 63) rfl (by kernel_rfl) rfl ?_
     go_wp2_with fail
     refine ⟨(HB9.out.ext HE4.out).alloc _, ?_⟩
     have HW4 := hid (HWZ.out.ext' HE4.out)
     have HOW4 := hid HW4.out.fin
     have hsz4 := HW4.out.ext.size
     have hln : fs.length + 1 ≤ 1000000000 := by omega
     refine wpAnyH_one 6 2 (mk 9 127) rfl (by kernel_rfl) rfl ?_
     go_wp2_with (with_reducible refine onOp 28 ?_
                  go_loud (refine wpList_append_R elem_bool (fun _ => rfl) ones_bool HOW4 hsz4 hln (p k) _ rfl w4.heap.size rfl rfl _ _ rfl rfl rfl ?_)
                  rintro g' c' v' w6 rfl G1 G2)
     have P6 := HW4.out.app (by decide) rfl G1.out G2.out.1 G2.out.2
     have y2 : w6.cell? ⟨b7, 2, none⟩ = some vFin := P6.1.cell rfl
     have yf := P6.1.frozen
     have yl := P6.1.lt
     have b9n : ¬ vFin.ownBlock = some b9 := fun e => by obtain ⟨_, hb⟩ := own_block HOW4.out e; exact ne_of_blk (HB9.out.ext HE4.out) hb (by decide) rfl
     have h9 : Blk w6 b9 83 (prC k) := (HB9.out.ext HE4.out).chg ((Chg.refl (fun q => vFin.ownBlock = some q) w4).grown G2.out.1 (fun q e => e)) b9n
     have hne : b7 ≠ b9 := ne_of_blk P6.1 h9 (by decide)
     have HP6 := hid P6.2
     have H9 := hid h9
     clear P6 h9
     refine ⟨H9.out, ?_⟩
     refine wpAnyH_one 7 1 (mk 9 255) rfl (by kernel_rfl) rfl ?_
     go_wp2_with fail
     refine ⟨H9.out, ?_⟩
     refine wpAnyH_one 8 0 (mk 9 511) rfl (by kernel_rfl) rfl ?_
     go_wp2_with fail
     refine ⟨H9.out.setOther (a := ⟨b7, 2, none⟩) hne _, ?_⟩
     refine wpAnyH_end (P := Tryz.prog) (by kernel_rfl) ?_
     go_wp2_with fail
     go_roundg (n - (j + 1))
     case measure => omega
     case rel =>
      refine ⟨j + 1, .slice (some ⟨g', 0, none⟩) (fs.length + 1) c', rfl, by omega, by go_num, ?_⟩
      have e1 : (ks.take (j + 1)).map p = (ks.take j).map p ++ [p k] := by
       obtain ⟨h2, h3⟩ := List.getElem?_eq_some_iff.1 HKK.out
       rw [List.take_succ_eq_append_getElem h2, List.map_append, h3]; rfl
      rw [e1, ← HFS.out]
      exact HP6
    ·go_wp2_with (with_reducible refine onOp 26 ?_
                  go_loud (refine wpList_callb (args := #[.agg (prC k)]) rfl (.tmp 24) #[.tmp 25] #[83] rfl HEN.out rfl rfl HCALL.out ?_)
                  rintro e w4 ⟨rfl, hx⟩
                  refine ⟨_, rfl, ?_⟩
                  have hE4 : Ext wz w4 := (Below.refl wz.heap.size wz).drew.trans (hx.mono (by simp))
                  have HE4 := hid hE4
                  clear hx hE4)
     have z4 : w4.cell? ⟨b7, 2, none⟩ = some vFin := (HWZ.out.dfa.ext HE4.out).cell rfl
     have zl4 := (HWZ.out.dfa.ext HE4.out).lt
     refine ⟨HB9.out.ext HE4.out, ?_⟩
     refine wpAnyH_two 1 5 4 (mk 9 31) (mk 9 61) rfl rfl (by kernel_rfl) rfl ?_ ?_
     ·go_wp2_with fail
      refine ⟨HB9.out.ext HE4.out, ?_⟩
      refine wpAnyH_one 5 3 (mk 9 63) rfl (by kernel_rfl) rfl ?_
      go_wp2_with fail
      refine ⟨(HB9.out.ext HE4.out).alloc _, ?_⟩
      have HW4 := hid (HWZ.out.ext' HE4.out)
      have HOW4 := hid HW4.out.fin
      have hsz4 := HW4.out.ext.size
      have hln : fs.length + 1 ≤ 1000000000 := by omega
      refine wpAnyH_one 6 2 (mk 9 127) rfl (by kernel_rfl) rfl ?_
      go_wp2_with (with_reducible refine onOp 28 ?_
                   go_loud (refine wpList_append_R elem_bool (fun _ => rfl) ones_bool HOW4 hsz4 hln (p k) _ rfl w4.heap.size rfl rfl _ _ rfl rfl rfl ?_)
                   rintro g' c' v' w6 rfl G1 G2)
      have P6 := HW4.out.app (by decide) rfl G1.out G2.out.1 G2.out.2
      have y2 : w6.cell? ⟨b7, 2, none⟩ = some vFin := P6.1.cell rfl
      have yf := P6.1.frozen
      have yl := P6.1.lt
      have b9n : ¬ vFin.ownBlock = some b9 := fun e => by obtain ⟨_, hb⟩ := own_block HOW4.out e; exact ne_of_blk (HB9.out.ext HE4.out) hb (by decide) rfl
      have h9 : Blk w6 b9 83 (prC k) := (HB9.out.ext HE4.out).chg ((Chg.refl (fun q => vFin.ownBlock = some q) w4).grown G2.out.1 (fun q e => e)) b9n
      have hne : b7 ≠ b9 := ne_of_blk P6.1 h9 (by decide)
      have HP6 := hid P6.2
      have H9 := hid h9
      clear P6 h9
      refine ⟨H9.out, ?_⟩
      refine wpAnyH_one 7 1 (mk 9 255) rfl (by kernel_rfl) rfl ?_
      go_wp2_with fail
      refine ⟨H9.out, ?_⟩
      refine wpAnyH_one 8 0 (mk 9 511) rfl (by kernel_rfl) rfl ?_
      go_wp2_with fail
      refine ⟨H9.out.setOther (a := ⟨b7, 2, none⟩) hne _, ?_⟩
      refine wpAnyH_end (P := Tryz.prog) (by kernel_rfl) ?_
      go_wp2_with fail
      go_roundg (n - (j + 1))
      case measure => omega
      case rel =>
       refine ⟨j + 1, .slice (some ⟨g', 0, none⟩) (fs.length + 1) c', rfl, by omega, by go_num, ?_⟩
       have e1 : (ks.take (j + 1)).map p = (ks.take j).map p ++ [p k] := by
        obtain ⟨h2, h3⟩ := List.getElem?_eq_some_iff.1 HKK.out
        rw [List.take_succ_eq_append_getElem h2, List.map_append, h3]; rfl
       rw [e1, ← HFS.out]
       exact HP6
     ·go_wp2_with fail
      refine ⟨(HB9.out.ext HE4.out).alloc _, ?_⟩
      refine wpAnyH_one 1 3 (mk 9 63) rfl (by kernel_rfl) rfl ?_
      go_wp2_with fail
      refine ⟨(HB9.out.ext HE4.out).alloc _, ?_⟩
      have HW4 := hid (HWZ.out.ext' HE4.out)
      have HOW4 := hid HW4.out.fin
      have hsz4 := HW4.out.ext.size
      have hln : fs.length + 1 ≤ 1000000000 := by omega
      refine wpAnyH_one 6 2 (mk 9 127) rfl (by kernel_rfl) rfl ?_
      go_wp2_with (with_reducible refine onOp 28 ?_
                   go_loud (refine wpList_append_R elem_bool (fun _ => rfl) ones_bool HOW4 hsz4 hln (p k) _ rfl w4.heap.size rfl rfl _ _ rfl rfl rfl ?_)
                   rintro g' c' v' w6 rfl G1 G2)
      have P6 := HW4.out.app (by decide) rfl G1.out G2.out.1 G2.out.2
      have y2 : w6.cell? ⟨b7, 2, none⟩ = some vFin := P6.1.cell rfl
      have yf := P6.1.frozen
      have yl := P6.1.lt
      have b9n : ¬ vFin.ownBlock = some b9 := fun e => by obtain ⟨_, hb⟩ := own_block HOW4.out e; exact ne_of_blk (HB9.out.ext HE4.out) hb (by decide) rfl
      have h9 : Blk w6 b9 83 (prC k) := (HB9.out.ext HE4.out).chg ((Chg.refl (fun q => vFin.ownBlock = some q) w4).grown G2.out.1 (fun q e => e)) b9n
      have hne : b7 ≠ b9 := ne_of_blk P6.1 h9 (by decide)
      have HP6 := hid P6.2
      have H9 := hid h9
      clear P6 h9
      refine ⟨H9.out, ?_⟩
      refine wpAnyH_one 7 1 (mk 9 255) rfl (by kernel_rfl) rfl ?_
      go_wp2_with fail
      refine ⟨H9.out, ?_⟩
      refine wpAnyH_one 8 0 (mk 9 511) rfl (by kernel_rfl) rfl ?_
      go_wp2_with fail
      refine ⟨H9.out.setOther (a := ⟨b7, 2, none⟩) hne _, ?_⟩
      refine wpAnyH_end (P := Tryz.prog) (by kernel_rfl) ?_
      go_wp2_with fail
      go_roundg (n - (j + 1))
      case measure => omega
      case rel =>
       refine ⟨j + 1, .slice (some ⟨g', 0, none⟩) (fs.length + 1) c', rfl, by omega, by go_num, ?_⟩
       have e1 : (ks.take (j + 1)).map p = (ks.take j).map p ++ [p k] := by
        obtain ⟨h2, h3⟩ := List.getElem?_eq_some_iff.1 HKK.out
        rw [List.take_succ_eq_append_getElem h2, List.map_append, h3]; rfl
       rw [e1, ← HFS.out]
       exact HP6
   ·have h0 := HW.out.dfa
    have r0 := HW.out.res
    obtain ⟨aoC, cC, rfl, -⟩ := (OwnR.read HW.out.syms strC_size).form
    obtain ⟨aoG, cG, rfl, -⟩ := (OwnR.read HW.out.fin (fun _ => rfl)).form
    have k0 : wr.cell? ⟨b7, 0, none⟩ = some (.slice aoC syms.length cC) := h0.cell rfl
    have k1 : wr.cell? ⟨b7, 1, none⟩ = some (.slice aoN us.length cN) := h0.cell rfl
    have k2 : wr.cell? ⟨b7, 2, none⟩ = some (.slice aoG fs.length cG) := h0.cell rfl
    have kl := h0.lt
    have q0 : wr.cell? ⟨w.heap.size + 1, 0, none⟩ = some (.slice none 0 0) := r0.cell rfl
    have q1 : wr.cell? ⟨w.heap.size + 1, 1, none⟩ = some (.slice none 0 0) := r0.cell rfl
    have q2 : wr.cell? ⟨w.heap.size + 1, 2, none⟩ = some (.slice none 0 0) := r0.cell rfl
    have qf := r0.frozen
    have ql := r0.lt
    have HR0 := hid r0
    clear h0 r0
    go_wp2_with fail
    have h3 : Blk (((wr.setCell ⟨w.heap.size + 1, 0, none⟩ (.slice aoC syms.length cC)).setCell ⟨w.heap.size + 1, 1, none⟩ (.slice aoN us.length cN)).setCell ⟨w.heap.size + 1, 2, none⟩ (.slice aoG fs.length cG)) (w.heap.size + 1) 26 #[.slice aoC syms.length cC, .slice aoN us.length cN, .slice aoG fs.length cG] := ((HR0.out.set 0 _).set 1 _).set 2 _
    have cc : Chg (fun k => k = w.heap.size + 1) wr (((wr.setCell ⟨w.heap.size + 1, 0, none⟩ (.slice aoC syms.length cC)).setCell ⟨w.heap.size + 1, 1, none⟩ (.slice aoN us.length cN)).setCell ⟨w.heap.size + 1, 2, none⟩ (.slice aoG fs.length cG)) :=
     Chg.setCell (p := ⟨w.heap.size + 1, 2, none⟩) (S := fun k => k = w.heap.size + 1) (Chg.setCell (p := ⟨w.heap.size + 1, 1, none⟩) (S := fun k => k = w.heap.size + 1) (Chg.setCell (p := ⟨w.heap.size + 1, 0, none⟩) (S := fun k => k = w.heap.size + 1) (Chg.refl _ wr) rfl (.slice aoC syms.length cC)) rfl (.slice aoN us.length cN)) rfl (.slice aoG fs.length cG)
    refine bodyPost_ret (v := .agg #[.slice aoC syms.length cC, .slice aoN us.length cN, .slice aoG fs.length cG]) (results_cell_agg Tryz.results48 _ _ (w.heap.size + 1) 26 #[.slice aoC syms.length cC, .slice aoN us.length cN, .slice aoG fs.length cG] _ rfl h3 Tryz.underlying26 rfl (by kernel_rfl)) rfl ?_
    have d7 : Chg (fun k => w.heap.size ≤ k) wr _ := cc.mono fun k _ e => by omega
    have hX : Ext w _ := HW.out.ext.trans (d7.below HW.out.ext.size (fun k e => e))
    have hfs : fs = ks.map p := by rw [HFS.out, List.take_of_length_le (by rw [← HNN.out]; omega)]
    refine ⟨hX, _, _, rfl, HW.out.syms.chg cc fun g e e' => ?_, ?_⟩
    ·obtain ⟨_, hb⟩ := own_block HW.out.syms e
     exact ne_of_blk HR0.out hb (by decide) e'.symm
    ·rw [← hfs]
     refine HW.out.fin.chg cc fun g e e' => ?_
     obtain ⟨_, hb⟩ := own_block HW.out.fin e
     exact ne_of_blk HR0.out hb (by decide) e'.symm
end Go.Proofs.YtngpjagpeblbjaaGreatDoor
namespace Go.Proofs.YtngpjagpeblbjaaGreatDoor
open Go.RowKit Go.Spy Go.Heaped Go.Tour Go.Rx
abbrev set3 (w : World) (b : Nat) (v0 v1 v2 : Value) : World := ((w.setCell ⟨b, 0, none⟩ v0).setCell ⟨b, 1, none⟩ v1).setCell ⟨b, 2, none⟩ v2
theorem chg3 (w : World) (b : Nat) (v0 v1 v2 : Value) : Chg (fun k => k = b) w (set3 w b v0 v1 v2) :=
 Chg.setCell (p := ⟨b, 2, none⟩) (S := fun k => k = b) (Chg.setCell (p := ⟨b, 1, none⟩) (S := fun k => k = b) (Chg.setCell (p := ⟨b, 0, none⟩) (S := fun k => k = b) (Chg.refl _ w) rfl v0) rfl v1) rfl v2
theorem blk3 {w : World} {b : Nat} {t : TypeId} {u0 u1 u2 : Value} (h : Blk w b t #[u0, u1, u2]) (v0 v1 v2 : Value) : Blk (set3 w b v0 v1 v2) b t #[v0, v1, v2] := ((h.set 0 v0).set 1 v1).set 2 v2
theorem ext3 {w0 w : World} {b : Nat} (h : Ext w0 w) (hb : w0.heap.size ≤ b) (v0 v1 v2 : Value) : Ext w0 (set3 w b v0 v1 v2) :=
 h.trans ((chg3 w b v0 v1 v2).below h.size (fun k e => by omega))
section
variable {A B : DA}
theorem runP (WA : WellD nameOk A) (WB : WellD nameOk B) (syms : List ByteArray) : ∀ (u : List Nat) (p : Pr), (∀ c ∈ u, c < syms.length) → (runL (goP A B syms) p u).1 = (runS A p.1.1 (wordsOf syms u), runS B p.1.2 (wordsOf syms u))
 | [], p, _ => by simp [runL, runS, wordsOf]
 | c :: u, p, h => by
   have hc : c < syms.length := h c (by simp)
   have ih := runP WA WB syms u (goP A B syms p c) (fun d hd => h d (by simp [hd]))
   rw [goP_val WA WB, symAt_some hc] at ih
   rw [wordsOf_cons hc]
   simpa [runL, runS] using ih
def OkQ (A B : DA) (p : Pr) : Prop := OkP A B p ∧ -1 ≤ p.1.1 ∧ -1 ≤ p.1.2
theorem goP_okQ (WA : WellD nameOk A) (WB : WellD nameOk B) (syms : List ByteArray) (p : Pr) (c : Nat) : OkQ A B (goP A B syms p c) := by
 refine ⟨goP_ok WA WB syms p c, ?_⟩
 rw [goP_val WA WB]
 exact ⟨(goS_bnd WA _ _).1, (goS_bnd WB _ _).1⟩
theorem zeroP_okQ (WA : WellD nameOk A) (WB : WellD nameOk B) : OkQ A B zeroP := ⟨zeroP_ok WA WB, by decide, by decide⟩
theorem succP_okQ (WA : WellD nameOk A) (WB : WellD nameOk B) (syms : List ByteArray) : ∀ k, OkQ A B k → ∀ x ∈ succP A B syms k, OkQ A B x := fun k _ x hx => by
 simp only [fan, List.mem_map, List.mem_range] at hx
 obtain ⟨c, _, rfl⟩ := hx
 exact goP_okQ WA WB syms k c
def allP (A B : DA) : List Pr := (List.range (A.next.length + 1)).flatMap fun (i : Nat) => (List.range (B.next.length + 1)).map fun (j : Nat) => mkP ((i : Int) - 1) ((j : Int) - 1)
theorem allP_len (A B : DA) : (allP A B).length = (A.next.length + 1) * (B.next.length + 1) := by
 simp only [allP, List.length_flatMap, List.length_map, List.length_range, List.map_const', List.sum_replicate_nat]
theorem allP_mem (WA : WellD nameOk A) (WB : WellD nameOk B) (p : Pr) (h : OkQ A B p) : p ∈ allP A B := by
 obtain ⟨⟨h1, h2⟩, h3, h4⟩ := h
 have hA := WA.most
 have hB := WB.most
 refine List.mem_flatMap.2 ⟨(p.1.1 + 1).toNat, List.mem_range.2 (by omega), List.mem_map.2 ⟨(p.1.2 + 1).toNat, List.mem_range.2 (by omega), ?_⟩⟩
 refine Subtype.ext ?_
 have e1 : (((p.1.1 + 1).toNat : Nat) : Int) - 1 = p.1.1 := by omega
 have e2 : (((p.1.2 + 1).toNat : Nat) : Int) - 1 = p.1.2 := by omega
 rw [e1, e2, mkP_val (fits_small h3 (by omega)) (fits_small h4 (by omega))]
theorem tourP_le (WA : WellD nameOk A) (WB : WellD nameOk B) (syms : List ByteArray) (i : Nat) : (tourN (succP A B syms) zeroP i).keys.length ≤ 66049 := by
 have h := tourN_le (U := OkQ A B) (succ := succP A B syms) (first := zeroP) (zeroP_okQ WA WB) (succP_okQ WA WB syms) (u := allP A B) (allP_mem WA WB) i
 rw [allP_len] at h
 refine Nat.le_trans h ?_
 have h1 : A.next.length + 1 ≤ 257 := by have := WA.most; omega
 have h2 : B.next.length + 1 ≤ 257 := by have := WB.most; omega
 exact Nat.mul_le_mul h1 h2
end
theorem next_ok_pr {w : World} {bS bA bB : Nat} {vS : Value} {xA xB : Array Value} {A B : DA} {syms : List ByteArray} (hSB : Blk w bS 22 #[vS]) (hS : ReadR w 1 strC vS syms) (hsl : syms.length ≤ 1000)
 (hA : DfaW w (.agg xA) A) (hBA : Blk w bA 26 xA) (hB : DfaW w (.agg xB) B) (hBB : Blk w bB 26 xB) :
 NextOk kindP 106 #[.pointer (some ⟨bS, 0, none⟩), .pointer (some ⟨bA, 0, none⟩), .pointer (some ⟨bB, 0, none⟩)] w.heap.size (fun _ => False) (fun w' => Ext w w') (OkQ A B) (succP A B syms) where
 enters := enters106
 keep := fun a b i c => i.trans (c.below i.size (fun k e => e))
 below := fun k e => e.elim
 call := fun k w' u i s => by
  have h := pairs1_any (hSB.ext i) (hS.ext i) hsl (hA.ext i) (hBA.ext i) (hB.ext i) (hBB.ext i) k u.1
  refine Calls.mono (by simpa [kindP] using h) ?_
  rintro e w'' ⟨v, rfl, hO, hx⟩
  exact ⟨v, rfl, OwnR.read hO prC_size, fun h0 g hg => .inr (hO.lt g hg).1, i.trans (hx.mono i.size), Chg.of_ext hx⟩
 univ := succP_okQ hA.well hB.well syms
def TourPP (A B : DA) (syms : List ByteArray) (most : Nat) (w : World) (e : Ending) (w' : World) : Prop := Ext w w' ∧
 ((∃ i vK vN vF, Full (succP A B syms) zeroP i ∧ i ≤ most ∧ e = .returned (.tuple #[.agg #[vK, vN, vF], .bool true]) ∧ TourW kindP w' w.heap.size vK vN vF (tourN (succP A B syms) zeroP i).keys (tourN (succP A B syms) zeroP i).next (tourN (succP A B syms) zeroP i).from_) ∨
  (∃ i, most < (tourN (succP A B syms) zeroP i).keys.length ∧ e = .returned (.tuple #[nilD, .bool false])))
theorem tour_pp {w : World} {f : FuncId} {caps : Array Value} {A B : DA} (WA : WellD nameOk A) (WB : WellD nameOk B) {syms : List ByteArray} (hs : syms.length ≤ 1000) (most : Nat) (hm : 1 ≤ most)
 (hN : NextOk kindP f caps w.heap.size (fun _ => False) (fun w' => Ext w w') (OkQ A B) (succP A B syms)) :
 Calls Tryz.prog 46 #[.agg (prC zeroP), .int .i64 most, .func (.func f) #[] caps] w (TourPP A B syms most w) := by
 have h := travel_pr (first := zeroP) (most := most) w hN (Below.refl _ _) (fun i k hk => tourN_univ (U := OkQ A B) (zeroP_okQ WA WB) (succP_okQ WA WB syms) i k hk) hm (.inr fun i => by have := tourP_le WA WB syms i; omega) (fun k _ => by rw [fan_length]; exact hs)
 refine Calls.mono h ?_
 rintro e w' ⟨hi, hc, ⟨i, vK, vN, vF, h1, h2, rfl, h3⟩ | ⟨i, h1, rfl⟩⟩
 ·exact ⟨hi, .inl ⟨i, vK, vN, vF, h1.symm, h2, rfl, h3⟩⟩
 ·exact ⟨hi, .inr ⟨i, h1, rfl⟩⟩
end Go.Proofs.YtngpjagpeblbjaaGreatDoor
namespace Go.Proofs.YtngpjagpeblbjaaGreatDoor
open Go.RowKit Go.Spy Go.Heaped Go.Tour Go.Rx
set_option maxRecDepth 100000 in
theorem none_nil (w : World) : Calls Tryz.prog 24 #[nilD] w fun e w' => e = .returned (.bool true) ∧ Ext w w' := by
 have HX : Hid (Ext w (w.alloc (.cells #[.slice none 0 0, .slice none 0 0, .slice none 0 0] 26))) := hid ((Below.refl _ _).alloc (Nat.le_refl _) _)
 go_enter Tryz.func24, Tryz.ntmps24
 go_wp2_with fail
 go_ret
 exact ⟨rfl, HX.out⟩
def aheadW : List ByteArray → List ByteArray → Bool
 | a :: u, b :: v => if a = b then aheadW u v else ltB a b
 | _, _ => false
theorem aheadW_drop {us vs : List ByteArray} {k : Nat} {x y : ByteArray} (hx : us[k]? = some x) (hy : vs[k]? = some y) : aheadW (us.drop k) (vs.drop k) = if x = y then aheadW (us.drop (k + 1)) (vs.drop (k + 1)) else ltB x y := by
 obtain ⟨h1, rfl⟩ := List.getElem?_eq_some_iff.1 hx
 obtain ⟨h2, rfl⟩ := List.getElem?_eq_some_iff.1 hy
 rw [List.drop_eq_getElem_cons h1, List.drop_eq_getElem_cons h2]
 rfl
theorem aheadW_end {us vs : List ByteArray} {k : Nat} (h : us.length ≤ k ∨ vs.length ≤ k) : aheadW (us.drop k) (vs.drop k) = false := by
 rcases h with h | h
 ·rw [List.drop_eq_nil_of_le h]; rfl
 ·rw [List.drop_eq_nil_of_le h]
  cases us.drop k <;> rfl
set_option maxRecDepth 100000 in
set_option maxHeartbeats 1000000 in
theorem aheadW_any {us vs : List ByteArray} {w : World} {v1 v2 : Value} (h1 : ReadR w 1 strC v1 us) (h2 : ReadR w 1 strC v2 vs) (m1 : MildS us) (m2 : MildS vs) :
 Calls Tryz.prog 27 #[v1, v2] w fun e w' => e = .returned (.bool (aheadW us vs)) ∧ Ext w w' := by
 obtain ⟨a1, c1, rfl, d1⟩ := h1.form
 obtain ⟨a2, c2, rfl, d2⟩ := h2.form
 have H1 := hid h1
 have H2 := hid h2
 have D1 := hid d1
 have D2 := hid d2
 obtain ⟨n, hn⟩ : ∃ n, n = us.length := ⟨_, rfl⟩
 obtain ⟨m, hm⟩ : ∃ m, m = vs.length := ⟨_, rfl⟩
 have l1 : n ≤ 140737488351232 := hn ▸ m1.len
 have l2 : m ≤ 140737488351232 := hm ▸ m2.len
 rw [← hn] at D1 H1 ⊢
 rw [← hm] at D2 H2 ⊢
 have HN := hid hn
 have HM := hid hm
 clear h1 h2 d1 d2 m1 m2 hn hm
 go_enter Tryz.func27, Tryz.ntmps27
 go_wp2_with fail
 go_loopg [5] n (fun g i wr => ∃ k, g = n - k ∧ k ≤ n ∧ i = .int .i64 k ∧ Hid (Ext w wr) ∧ Hid (aheadW us vs = aheadW (us.drop k) (vs.drop k)))
 case atStart => exact ⟨0, rfl, Nat.zero_le _, rfl, hid (Below.refl _ _), hid (by simp)⟩
 case round =>
  obtain ⟨k, rfl, hk, rfl, HE, HA⟩ := hrel
  by_cases hlt : k < n
  ·have t1 : decide (k < n) = true := decide_eq_true hlt
   by_cases hlt2 : k < m
   ·have t2 : decide (k < m) = true := decide_eq_true hlt2
    obtain ⟨b1, o1, rfl⟩ := D1.out (by omega)
    obtain ⟨b2, o2, rfl⟩ := D2.out (by omega)
    obtain ⟨x, hx⟩ : ∃ x, us[k]? = some x := ⟨_, List.getElem?_eq_getElem (by rw [← HN.out]; exact hlt)⟩
    obtain ⟨y, hy⟩ : ∃ x, vs[k]? = some x := ⟨_, List.getElem?_eq_getElem (by rw [← HM.out]; exact hlt2)⟩
    have e1 : wr.cell? ⟨b1, o1 + k, none⟩ = some (.string x) := by
     have h := H1.out.ext HE.out
     rw [HN.out] at h
     exact h.cell1 hx
    have e2 : wr.cell? ⟨b2, o2 + k, none⟩ = some (.string y) := by
     have h := H2.out.ext HE.out
     rw [HM.out] at h
     exact h.cell1 hy
    have HD := hid (aheadW_drop hx hy)
    have hk0 : (0 : Int) ≤ (k : Int) := by omega
    have hk1 : (k : Int) < (n : Int) := by omega
    have hk2 : (k : Int) < (m : Int) := by omega
    clear hx hy
    by_cases hxy : x = y
    ·have t : (x.toList == y.toList) = true := beqB_true hxy
     have HXY := hid hxy
     clear hxy
     go_wp2_with fail
     go_quiet (fail)
     go_wp2_with fail
     go_roundg (n - (k + 1))
     case measure => omega
     case rel =>
      refine ⟨k + 1, rfl, by omega, by go_num, hid (ext_drewN HE.out _), hid ?_⟩
      rw [HA.out, HD.out, if_pos HXY.out]
    ·have t : (x.toList == y.toList) = false := beqB_false hxy
     have HXY := hid hxy
     obtain ⟨b, hb⟩ : ∃ b, Op.bytesLess x.toList y.toList = b := ⟨_, rfl⟩
     have HB := hid hb
     clear hxy
     go_wp2_with fail
     go_quiet (fail)
     go_wp2_with fail
     go_quiet (fail)
     go_wp2_with fail
     go_ret
     refine ⟨ret_bool ?_, ext_drewN (ext_drewN HE.out _) _⟩
     rw [HA.out, HD.out, if_neg HXY.out]
     exact HB.out.symm
   ·have t2 : decide (k < m) = false := decide_eq_false hlt2
    have HF := hid (aheadW_end (us := us) (vs := vs) (k := k) (.inr (by rw [← HM.out]; omega)))
    go_wp2_with fail
    go_ret
    exact ⟨ret_bool (by rw [HA.out, HF.out]), HE.out⟩
  ·have t1 : decide (k < n) = false := decide_eq_false hlt
   have HF := hid (aheadW_end (us := us) (vs := vs) (k := k) (.inl (by rw [← HN.out]; omega)))
   go_wp2_with fail
   go_ret
   exact ⟨ret_bool (by rw [HA.out, HF.out]), HE.out⟩
end Go.Proofs.YtngpjagpeblbjaaGreatDoor
namespace Go.Proofs.YtngpjagpeblbjaaGreatDoor
open Go.RowKit Go.Spy Go.Heaped Go.Tour Go.Rx
def WithinPost (A B : DA) (w : World) (e : Ending) (w' : World) : Prop := Ext w w' ∧
 ((∃ v u, e = .returned (.tuple #[v, .bool false, .int .i64 0]) ∧ OwnR w' w.heap.size 9 1 strC v (wordsOf A.syms u) ∧ u.length ≤ 100000 ∧ (∀ c ∈ u, c < A.syms.length) ∧ langD A u = true ∧ matchD B (wordsOf A.syms u) = false ∧ ∀ x, (∀ c ∈ x, c < A.syms.length) → langD A x = true → matchD B (wordsOf A.syms x) = false → sle u x) ∨
  (e = .returned (.tuple #[.slice none 0 0, .bool true, .int .i64 0]) ∧ ∀ x, (∀ c ∈ x, c < A.syms.length) → langD A x = true → matchD B (wordsOf A.syms x) = true))
theorem passP {A B : DA} (WA : WellD nameOk A) (WB : WellD nameOk B) (u : List Nat) (hu : ∀ c ∈ u, c < A.syms.length) :
 (finS A (runL (goP A B A.syms) zeroP u).1.1 && !finS B (runL (goP A B A.syms) zeroP u).1.2) = (langD A u && !matchD B (wordsOf A.syms u)) := by
 rw [runP WA WB A.syms u zeroP hu, ← match_words WA.rising.nodup hu]
 rfl
set_option maxRecDepth 100000 in
set_option maxHeartbeats 2000000 in
theorem within_any {w : World} {xA xB : Array Value} {A B : DA} (hA : DfaW w (.agg xA) A) (hB : DfaW w (.agg xB) B) : Calls Tryz.prog 17 #[.agg xA, .agg xB] w (WithinPost A B w) := by
 have HA := hid hA
 have HB := hid hB
 have HC : Hid (∀ W, Ext w W → Calls Tryz.prog 44 #[.agg xA, .agg xB] W (ErrP 0 W)) := hid fun W e => by
  have h := checked_any (hA.at_.ext e) hA.bnd (hB.at_.ext e) hB.bnd
  rwa [show check2E A.raw B.raw = 0 by unfold check2E; rw [well_check hA.well, if_pos rfl, well_check hB.well]] at h
 obtain ⟨aoS, n1, cS, aoN, n2, cN, aoF, n3, cF, rfl⟩ := hA.open_
 obtain ⟨aoS2, m1, cS2, aoN2, m2, cN2, aoF2, m3, cF2, rfl⟩ := hB.open_
 have hSY : ReadR w 1 strC (.slice aoS n1 cS) A.syms := by
  obtain ⟨⟨vS, vN, vF, us, e, hP⟩, _, _⟩ := hA
  simp only [Value.agg.injEq, Array.mk.injEq, List.cons.injEq, and_true] at e
  obtain ⟨rfl, rfl, rfl⟩ := e
  exact hP.syms
 have HSY := hid hSY
 have HPA := hid (fun W (e : Ext w W) => pairs_any (hA.ext e) (hB.ext e) aoS n1 cS)
 clear hA hB hSY
 obtain ⟨xA, hxA⟩ : ∃ x, x = #[Value.slice aoS n1 cS, .slice aoN n2 cN, .slice aoF n3 cF] := ⟨_, rfl⟩
 obtain ⟨xB, hxB⟩ : ∃ x, x = #[Value.slice aoS2 m1 cS2, .slice aoN2 m2 cN2, .slice aoF2 m3 cF2] := ⟨_, rfl⟩
 obtain ⟨w1, hw1⟩ : ∃ u, u = (w.alloc (.cells #[Value.slice aoS n1 cS, .slice aoN n2 cN, .slice aoF n3 cF] 26)).alloc (.cells #[.slice aoS2 m1 cS2, .slice aoN2 m2 cN2, .slice aoF2 m3 cF2] 26) := ⟨_, rfl⟩
 have HX1 : Hid (Ext w w1) := hid (hw1 ▸ ((Below.refl _ _).alloc (Nat.le_refl _) _).alloc (by simp) _)
 have HBA : Hid (Blk w1 w.heap.size 26 #[Value.slice aoS n1 cS, .slice aoN n2 cN, .slice aoF n3 cF]) := hid (hw1 ▸ (Blk.new _ _ _).alloc _)
 have HBB : Hid (Blk w1 (w.heap.size + 1) 26 #[.slice aoS2 m1 cS2, .slice aoN2 m2 cN2, .slice aoF2 m3 cF2]) := hid (hw1 ▸ Blk.new' _ _ _ (by simp))
 have HW1 := hid hw1
 clear hxA hxB xA xB hw1
 go_enter Tryz.func17, Tryz.ntmps17
 go_wp2_with fail
 rw [← HW1.out]
 refine (HC.out w1 HX1.out).mono ?_
 rintro e w2 ⟨rfl, hx⟩
 have HX2 := hid (HX1.out.trans (hx.mono HX1.out.size))
 have hba := HBA.out.ext hx
 have hbb := HBB.out.ext hx
 have HBA2 := hid hba
 have HBB2 := hid hbb
 have a0 : w2.cell? ⟨w.heap.size, 0, none⟩ = some (.slice aoS n1 cS) := hba.cell (i := 0) rfl
 have a1 : w2.cell? ⟨w.heap.size, 1, none⟩ = some (.slice aoN n2 cN) := hba.cell (i := 1) rfl
 have a2 : w2.cell? ⟨w.heap.size, 2, none⟩ = some (.slice aoF n3 cF) := hba.cell (i := 2) rfl
 have b0 : w2.cell? ⟨w.heap.size + 1, 0, none⟩ = some (.slice aoS2 m1 cS2) := hbb.cell (i := 0) rfl
 have b1 : w2.cell? ⟨w.heap.size + 1, 1, none⟩ = some (.slice aoN2 m2 cN2) := hbb.cell (i := 1) rfl
 have b2 : w2.cell? ⟨w.heap.size + 1, 2, none⟩ = some (.slice aoF2 m3 cF2) := hbb.cell (i := 2) rfl
 have la := hba.lt
 have lb := hbb.lt
 clear hx hba hbb
 go_wp2_with fail
 refine (HPA.out w2 HX2.out).mono ?_
 rintro e w3 ⟨rfl, hx3, hp1, hp2, hp3⟩
 have HX3 := hid (HX2.out.trans (hx3.mono HX2.out.size))
 have HBA3 := hid (HBA2.out.ext hx3)
 have HBB3 := hid (HBB2.out.ext hx3)
 have HT := hid (tour_pp (w := w3) HA.out.well HB.out.well (syms := A.syms) HA.out.bnd.s 9223372036854775807 (by decide) (next_ok_pr hp3 (HSY.out.ext HX3.out) HA.out.bnd.s (HA.out.ext HX3.out) hp1 (HB.out.ext HX3.out) hp2))
 clear hx3 hp1 hp2 hp3 a0 a1 a2 b0 b1 b2
 go_wp2_with fail
 refine HT.out.mono ?_
 rintro e w4 ⟨hx4, ⟨i, vK, vN, vF, hfull, hi, rfl, hT⟩ | ⟨i, hi, _⟩⟩
 rotate_left
 ·exfalso
  have := tourP_le HA.out.well HB.out.well A.syms i
  have h4 : (9223372036854775807 : Nat) < 66049 := by omega
  exact absurd h4 (by decide)
 clear hi
 obtain ⟨aoK, cK, rfl, hK⟩ := (OwnR.read hT.keys okP.size).form
 obtain ⟨us3, hn3, hu3, hr3⟩ := hT.next
 obtain ⟨aoM, cM, rfl, -⟩ := (OwnR.read hn3 (fun _ => rfl)).form
 obtain ⟨aoG, cG, rfl, -⟩ := (OwnR.read hT.from_ (fun _ => rfl)).form
 have HTK := hid (OwnR.read hT.keys okP.size)
 have HTF := hid (OwnR.read hT.from_ (fun _ => rfl))
 have HFULL := hid hfull
 have HX4 := hid (HX3.out.trans (hx4.mono HX3.out.size))
 have HBA4 := hid (HBA3.out.ext hx4)
 have HBB4 := hid (HBB3.out.ext hx4)
 clear hx4 hK hn3 hu3 hr3 hT hfull
 have hkl0 := tourP_le HA.out.well HB.out.well A.syms i
 have hfl0 := tourN_from_len (succP A B A.syms) zeroP i
 obtain ⟨kl, hkl⟩ : ∃ n, n = (tourN (succP A B A.syms) zeroP i).keys.length := ⟨_, rfl⟩
 obtain ⟨fl, hfl⟩ : ∃ n, n = (tourN (succP A B A.syms) zeroP i).from_.length := ⟨_, rfl⟩
 rw [← hkl] at HTK ⊢
 rw [← hfl] at HTF ⊢
 have hkl1 : kl ≤ 66049 := by omega
 have HKL := hid hkl
 have HFL := hid hfl
 have HKF : Hid (fl = kl) := hid (by omega)
 clear hkl hfl hkl0 hfl0
 have hlt4 := HBA4.out.lt
 have hlt5 := HBB4.out.lt
 have HU : Hid (∀ k ∈ (tourN (succP A B A.syms) zeroP i).keys, OkQ A B k) := hid (tourN_univ (U := OkQ A B) (zeroP_okQ HA.out.well HB.out.well) (succP_okQ HA.out.well HB.out.well A.syms) i)
 go_wp2_with fail
 obtain ⟨w5, hw5⟩ : ∃ u, u = w4.alloc (.cells #[.slice aoK kl cK, .slice aoM us3.length cM, .slice aoG fl cG] 80) := ⟨_, rfl⟩
 rw [← hw5]
 have e5 : Ext w4 w5 := hw5 ▸ (Below.refl _ _).alloc (Nat.le_refl _) _
 have HB5 : Hid (Blk w5 w4.heap.size 80 #[.slice aoK kl cK, .slice aoM us3.length cM, .slice aoG fl cG]) := hid (hw5 ▸ Blk.new _ _ _)
 have HE5 := hid e5
 have HX5 := hid (HX4.out.trans (e5.mono HX4.out.size))
 have HBA5 := hid (HBA4.out.ext e5)
 have HBB5 := hid (HBB4.out.ext e5)
 clear e5 hw5
 refine (indexfunc_pr (HTK.out.ext HE5.out) (by rw [← HKL.out]; omega) enters56 (fun p => finS A p.1.1 && !finS B p.1.2) (fun z w' hz e => ?_)).mono ?_
 ·have hk := HU.out z hz
  exact within1_any ((HA.out.ext HX5.out).ext e) (HBA5.out.ext e) ((HB.out.ext HX5.out).ext e) (HBB5.out.ext e) z hk.1.1 hk.1.2
 rintro e w6 ⟨hx6, hidx⟩
 have HX6 := hid (HX5.out.trans (hx6.mono HX5.out.size))
 have HE6 := hid (HE5.out.trans (hx6.mono HE5.out.size))
 have HB6 := hid (HB5.out.ext hx6)
 have HBA6 := hid (HBA5.out.ext hx6)
 rcases hidx with ⟨n, q, rfl, hq, h2, h3⟩ | ⟨rfl, h1⟩
 ·have hd : decide ((n : Int) < 0) = false := decide_eq_false (by omega)
  have HQ := hid hq
  have H2 := hid h2
  have H3 := hid h3
  have d0 : w6.cell? ⟨w4.heap.size, 0, none⟩ = some (.slice aoK kl cK) := HB6.out.cell rfl
  have d1 : w6.cell? ⟨w4.heap.size, 1, none⟩ = some (.slice aoM us3.length cM) := HB6.out.cell rfl
  have d2 : w6.cell? ⟨w4.heap.size, 2, none⟩ = some (.slice aoG fl cG) := HB6.out.cell rfl
  have d3 : w6.cell? ⟨w.heap.size, 0, none⟩ = some (.slice aoS n1 cS) := HBA6.out.cell rfl
  have hl6 := HBA6.out.lt
  have hl7 := HB6.out.lt
  have hnf : n < fl := by rw [HKF.out, HKL.out]; exact (List.getElem?_eq_some_iff.1 hq).1
  have HWD := hid (words_pr (vK := .slice aoK kl cK) (vN := .slice aoM us3.length cM) (HTF.out.ext HE6.out) (HSY.out.ext HX6.out) (by rw [← HFL.out]; have := HKF.out; omega) HA.out.bnd.s HFULL.out.bfs n (by rw [← HFL.out]; exact hnf))
  clear hx6 hq h2 h3
  go_wp2_with fail
  refine HWD.out.mono ?_
  rintro e w7 ⟨hx7, v, rfl, hO⟩
  have HX7 := hid (HX6.out.trans (hx7.mono HX6.out.size))
  have HO := hid hO
  clear hx7 hO
  go_wp2_with fail
  go_ret3
  obtain ⟨r1, r2, r3⟩ := full_least (δ := goP A B A.syms) (m := A.syms.length) HFULL.out (fun p => finS A p.1.1 && !finS B p.1.2) HQ.out (fun j y hj hy => H3.out j y hj hy)
  have h4 := passP HA.out.well HB.out.well _ r2
  have h5 := H2.out
  rw [← r1] at h5
  rw [h5] at h4
  have h6 := Bool.and_eq_true_iff.1 h4.symm
  refine ⟨HX7.out, .inl ⟨v, _, rfl, HO.out.lower HX6.out.size, by have h1 := wordF_len (tourN (succP A B A.syms) zeroP i).from_ n n; have h2 := HKF.out; unfold word; omega, r2, h6.1, by simpa using h6.2, fun x hx hl hm => r3 x hx ?_⟩⟩
  have h7 := passP HA.out.well HB.out.well x hx
  rw [hl, hm] at h7
  exact h7
 ·have HN := hid h1
  clear hx6 h1
  go_wp2_with fail
  go_ret3
  refine ⟨HX6.out, .inr ⟨rfl, fun x hx hl => ?_⟩⟩
  have h7 := passP HA.out.well HB.out.well x hx
  rw [hl, full_none (δ := goP A B A.syms) (m := A.syms.length) HFULL.out (fun p => finS A p.1.1 && !finS B p.1.2) HN.out x hx] at h7
  simpa using h7.symm
end Go.Proofs.YtngpjagpeblbjaaGreatDoor
