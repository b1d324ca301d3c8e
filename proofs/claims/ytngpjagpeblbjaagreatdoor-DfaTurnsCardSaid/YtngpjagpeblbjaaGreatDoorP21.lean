/-
  Walk of automaton over states of an expression.
  Walks of the laws' small helpers: Small, none, Plain, ahead, Texts.
  Walk of DFA.Not.
  Walk of the closure of Make that tells which states are final.
  What Make gathers ahead of the tour.
-/
import Derived.Test.YtngpjagpeblbjaaGreatDoorP20
import Derived.Test.YtngpjagpeblbjaaGreatDoorP06
import Derived.Test.YtngpjagpeblbjaaGreatDoorP17
namespace Go.Proofs.YtngpjagpeblbjaaGreatDoor
open Go.RowKit Go.Spy Go.Heaped Go.Tour Go.Rx
theorem elem_bool : ElemOk Tryz.prog 24 4 1 1 where
 under := Tryz.underlying24
 info := by
  obtain ⟨i, h1, h2, h3, h4⟩ := info_parts (P := Tryz.prog) (e := 4) (z := .bool false) (size := 1) (bytes := 1) (by kernel_rfl)
  exact ⟨i, _, h1, h2, h3, h4, rfl⟩
 pos := by decide
 small := by decide
theorem ones_bool (b : Bool) : Ones (boolC b) := by
 intro v hv
 simp only [boolC, List.mem_toArray, List.mem_cons, List.not_mem_nil, or_false] at hv
 subst hv; rfl
def AutoPost (syms : List ByteArray) (vN : Value) (fin : List Bool) (w : World) (e : Ending) (w' : World) : Prop :=
 Ext w w' ∧ ∃ vS vF, e = .returned (.agg #[vS, vN, vF]) ∧ OwnR w' w.heap.size 9 1 strC vS syms ∧ OwnR w' w.heap.size 4 1 boolC vF fin
theorem auto_dfa {w w' w'' : World} {vS vN vF : Value} {us : List Value} {rows : List (List Nat)} {syms : List ByteArray} {fin : List Bool} {N q : Nat} (x : Ext w w') (hS : OwnR w' w.heap.size 9 1 strC vS syms) (hF : OwnR w' w.heap.size 4 1 boolC vF fin)
 (hN : OwnR w N 46 1 oneA vN us) (hlen : us.length = rows.length) (hrows : ∀ (i : Nat) (u : Value) (r : List Nat), us[i]? = some u → rows[i]? = some r → ReadR w 1 natA u r ∧ ∀ g, u.ownBlock = some g → N ≤ g) (hq : q < N) (hqw : q < w.heap.size) (c : Chg (· = q) w' w'') : DfaP w'' vS vN vF us ⟨syms, rows.map (·.map Int.ofNat), fin⟩ := by
 refine ⟨(OwnR.read hS strC_size).chg c fun g e e' => ?_, ((OwnR.read hN (fun _ => rfl)).ext x).chg c fun g e e' => ?_, by simpa using hlen, fun i u r hu hr => ?_, (OwnR.read hF (fun _ => rfl)).chg c fun g e e' => ?_⟩
 ·have := (hS.lt g e).1; omega
 ·have := (hN.lt g e).1; omega
 ·rw [List.getElem?_map, Option.map_eq_some_iff] at hr
  obtain ⟨r', hr', rfl⟩ := hr
  have h1 := hrows i u r' hu hr'
  exact nat_int.1 ((h1.1.ext x).chg c fun g e e' => by have := h1.2 g e; omega)
 ·have := (hF.lt g e).1; omega
structure AutoW (w wr : World) (vK vN vF vS' vFin : Value) (tT b7 : Nat) (syms : List ByteArray) (fin : List Bool) : Prop where
 ext : Ext w wr
 box : Blk wr w.heap.size tT #[vK, vN, vF]
 res : Blk wr (w.heap.size + 1) 26 #[.slice none 0 0, .slice none 0 0, .slice none 0 0]
 dfa : Blk wr b7 26 #[vS', vN, vFin]
 syms : OwnR wr w.heap.size 9 1 strC vS' syms
 fin : OwnR wr w.heap.size 4 1 boolC vFin fin
 lt : w.heap.size + 1 < b7
theorem AutoW.ext' {w wr wy : World} {vK vN vF vS' vFin : Value} {tT b7 : Nat} {syms : List ByteArray} {fin : List Bool} (h : AutoW w wr vK vN vF vS' vFin tT b7 syms fin) (e : Ext wr wy) : AutoW w wy vK vN vF vS' vFin tT b7 syms fin :=
 ⟨h.ext.trans (e.mono h.ext.size), h.box.ext e, h.res.ext e, h.dfa.ext e, h.syms.ext e, h.fin.ext e, h.lt⟩
theorem AutoW.app {w wr w6 : World} {vK vN vF vS' vFin v' : Value} {tT b7 : Nat} {syms : List ByteArray} {fin : List Bool} (h : AutoW w wr vK vN vF vS' vFin tT b7 syms fin) (htT : tT ≠ 4 ∧ tT ≠ 26) {g c : Nat} {b : Bool} (hv : v' = .slice (some ⟨g, 0, none⟩) (fin.length + 1) c)
 (hO : OwnR w6 w.heap.size 4 1 boolC v' (fin ++ [b])) (hg : wr.grownBy w6 vFin.ownBlock) (hl : vFin.ownBlock = some g ∨ wr.heap.size ≤ g) :
 Blk w6 b7 26 #[vS', vN, vFin] ∧ AutoW w (w6.setCell ⟨b7, 2, none⟩ v') vK vN vF vS' v' tT b7 syms (fin ++ [b]) := by
 have hvo : v'.ownBlock = some g := by rw [hv]; rfl
 have c6 : Chg (fun k => vFin.ownBlock = some k) wr w6 := (Chg.refl _ wr).grown hg (fun k e => e)
 have nb : ∀ k, vFin.ownBlock = some k → ∃ cur, Blk wr k 4 cur := fun k e => own_block h.fin e
 have b7n : ¬ vFin.ownBlock = some b7 := fun e => by obtain ⟨_, hb⟩ := nb _ e; exact ne_of_blk h.dfa hb (by decide) rfl
 have b0n : ¬ vFin.ownBlock = some w.heap.size := fun e => by obtain ⟨_, hb⟩ := nb _ e; exact ne_of_blk h.box hb htT.1 rfl
 have b1n : ¬ vFin.ownBlock = some (w.heap.size + 1) := fun e => by obtain ⟨_, hb⟩ := nb _ e; exact ne_of_blk h.res hb (by decide) rfl
 have h7 := h.dfa.chg c6 b7n
 have hlt := h.lt
 have c7 : Chg (fun k => k = b7) w6 (w6.setCell ⟨b7, 2, none⟩ v') := Chg.setCell (S := fun k => k = b7) (p := ⟨b7, 2, none⟩) (Chg.refl _ w6) rfl v'
 have d6 : Chg (fun k => w.heap.size ≤ k) wr w6 := c6.mono fun k _ e => (h.fin.lt k e).1
 have d7 : Chg (fun k => w.heap.size ≤ k) w6 (w6.setCell ⟨b7, 2, none⟩ v') := c7.mono fun k _ e => by omega
 refine ⟨h7, ⟨h.ext.trans ((d6.trans d7).below h.ext.size (fun k e => e)), (h.box.chg c6 b0n).chg c7 (by omega), (h.res.chg c6 b1n).chg c7 (by omega), h7.set 2 _, ?_, ?_, hlt⟩⟩
 ·refine (h.syms.chg c6 (fun k e e' => ?_)).chg c7 (fun k e e' => ?_)
  ·obtain ⟨_, hb⟩ := nb _ e'; obtain ⟨_, hc⟩ := own_block h.syms e; exact ne_of_blk hc hb (by decide) rfl
  ·obtain ⟨_, hc⟩ := own_block h.syms e; exact ne_of_blk h.dfa hc (by decide) e'.symm
 ·refine hO.chg c7 (fun k e e' => ?_)
  rw [hvo] at e
  have hgk : g = k := by simpa using e
  rcases hl with e2 | e2
  ·exact b7n (by rw [e2, hgk, e'])
  ·have := h.dfa.lt; omega
set_option maxRecDepth 100000 in
set_option maxHeartbeats 4000000 in
theorem auto_sta {w : World} {vK vN vF vS : Value} {us : List Value} {ks : List Sta} {fr : List (Nat × Nat)} {syms : List ByteArray} (hK : ReadR w 17 staC vK ks) (hN : ReadR w 1 oneA vN us) (hF : ReadR w 2 stepA vF fr) (hS : ReadR w 1 strC vS syms) (hk1 : ks.length ≤ 1000) (hs1 : syms.length ≤ 1000)
 {f : FuncId} {bs caps : Array Value} (hE : Enters Tryz.prog f) (p : Sta → Bool) (hf : ∀ k w', k ∈ ks → Ext w w' → Calls Tryz.prog f (bs ++ #[.agg (staC k)] ++ caps) w' fun e w'' => e = .returned (.bool (p k)) ∧ Ext w' w'') :
 Calls Tryz.prog 77 #[.agg #[vK, vN, vF], vS, .func (.func f) bs caps] w (AutoPost syms vN (ks.map p) w) := by
 obtain ⟨aoK, cK, rfl, hK2⟩ := hK.form
 obtain ⟨aoN, cN, rfl, -⟩ := hN.form
 obtain ⟨aoF, cF, rfl, -⟩ := hF.form
 obtain ⟨aoS, cS, rfl, -⟩ := hS.form
 obtain ⟨n, hn⟩ : ∃ n, n = ks.length := ⟨_, rfl⟩
 rw [← hn] at hK2 hk1 ⊢
 have HK := hid hK
 rw [← hn] at HK
 have HS := hid hS
 have HF := hid hf
 have HEN := hid hE
 have HNN := hid hn
 have HCL : ∀ W : World, Ext w W → Calls Tryz.prog 42 #[.slice aoS syms.length cS] W (ClonePost 9 strC syms W) := fun W e => clone_str (hS.ext e) (by omega)
 have HCLN := hid HCL
 clear hK hN hF hS hf hE hn HCL
 go_enter Tryz.func77, Tryz.ntmps77
 go_upto_region 1 with fail
 go_cut [7] from 8 (fun u7 wx => ∃ b7 vS', u7 = .pointer (some ⟨b7, 0, none⟩) ∧ Hid (AutoW w wx (.slice aoK n cK) (.slice aoN us.length cN) (.slice aoF fr.length cF) vS' (.slice none 0 0) 118 b7 syms []))
 case first =>
  obtain ⟨W1, hW1⟩ : ∃ u, u = ((w.alloc (.cells #[.slice aoK n cK, .slice aoN us.length cN, .slice aoF fr.length cF] 118)).alloc (.cells #[.slice none 0 0, .slice none 0 0, .slice none 0 0] 26)) := ⟨_, rfl⟩
  rw [← hW1]
  have eW : Ext w W1 := hW1 ▸ ((Below.refl _ _).alloc (Nat.le_refl _) _).alloc (by simp) _
  have HB1 : Hid (Blk W1 w.heap.size 118 #[.slice aoK n cK, .slice aoN us.length cN, .slice aoF fr.length cF]) := hid (hW1 ▸ (Blk.new _ _ _).alloc _)
  have HB2 : Hid (Blk W1 (w.heap.size + 1) 26 #[.slice none 0 0, .slice none 0 0, .slice none 0 0]) := hid (hW1 ▸ Blk.new' _ _ _ (by simp))
  have HW1 := hid eW
  have c1 : W1.cell? ⟨w.heap.size, 1, none⟩ = some (.slice aoN us.length cN) := HB1.out.cell rfl
  have l1 := HB1.out.lt
  have l2 := HB2.out.lt
  have hS0 : Ext W1 W1.drew := (Below.refl _ _).drew
  clear eW hW1
  refine wp_region_heldL (Ext W1) (by kernel_rfl) ?_
  refine wpAnyH_takeK 0 6 #[true, false, false, false, false, false, false] rfl (by kernel_rfl) rfl (.slice aoS syms.length cS) (fun _ _ _ h => h) (Or.inl ⟨rfl, fun w' hS => ?_⟩) hS0 ?_
  ·go_simp <;> with_reducible rfl
  refine wpAnyH_takeK 2 5 #[true, false, true, false, false, false, false] rfl (by kernel_rfl) rfl (.pointer (some ⟨w.heap.size, 1, none⟩)) (fun _ _ _ h => h) (Or.inl ⟨rfl, fun w' hS => ?_⟩) hS0 ?_
  ·go_simp <;> with_reducible rfl
  refine wpAnyH_takeK 3 4 #[true, false, true, true, false, false, false] rfl (by kernel_rfl) rfl (.slice aoN us.length cN) (fun _ _ _ h => h) (Or.inl ⟨rfl, fun w' hS => ?_⟩) hS0 ?_
  ·have c2 := (hS.cell (p := ⟨w.heap.size, 1, none⟩) l1).trans c1; go_simp <;> with_reducible rfl
  refine wpAnyH_two 1 5 3 #[true, true, true, true, false, false, false] #[true, false, true, true, false, true, false] rfl rfl (by kernel_rfl) rfl ?_ ?_
  ·go_wp2_with fail
   refine (HCLN.out _ (HW1.out.trans (hS0.mono HW1.out.size))).mono ?_
   rintro e w4 ⟨hx4, vS', rfl, hO⟩
   obtain ⟨aoC, cC, rfl, -⟩ := (OwnR.read hO strC_size).form
   have hS4 : Ext W1 w4 := hS0.trans (hx4.mono (by simp))
   have HO := hid (hO.lower (b := w.heap.size) (by have := HW1.out.size; simpa using this))
   have HS4 := hid hS4
   clear hO hx4
   go_wp2_with fail
   refine ⟨hS4, ?_⟩
   refine wpAnyH_takeK 4 2 #[true, true, true, true, true, false, false] rfl (by kernel_rfl) rfl (.agg #[.slice aoC syms.length cC, .slice aoN us.length cN, .slice none 0 0]) (fun _ _ _ h => h) (Or.inl ⟨rfl, fun w' hS => ?_⟩) hS4 ?_
   ·go_simp <;> with_reducible rfl
   refine wpAnyH_one 5 1 #[true, true, true, true, true, true, false] rfl (by kernel_rfl) rfl ?_
   go_wp2_with fail
   refine ⟨hS4.alloc hS4.size _, ?_⟩
   refine wpAnyH_one 6 0 #[true, true, true, true, true, true, true] rfl (by kernel_rfl) rfl ?_
   go_wp2_with fail
   refine ⟨hS4.alloc hS4.size _, ?_⟩
   refine wpAnyH_end (P := Tryz.prog) (by kernel_rfl) ?_
   go_wp2_with fail
   go_meet
   refine ⟨_, .slice aoC syms.length cC, rfl, hid ⟨(HW1.out.trans (hS4.mono HW1.out.size)).alloc (HW1.out.trans (hS4.mono HW1.out.size)).size _, (HB1.out.ext hS4).alloc _, (HB2.out.ext hS4).alloc _, Blk.new _ _ _, HO.out.alloc _, OwnR.nil _ _ _ _ _, by have := hS4.size; omega⟩⟩
  ·go_wp2_with fail
   have hS3 : Ext W1 (W1.drew.alloc (.cells #[.slice none 0 0, .slice none 0 0, .slice none 0 0] 26)) := hS0.alloc (by simp) _
   refine ⟨hS3, ?_⟩
   refine wpAnyH_one 1 2 #[true, true, true, true, false, true, false] rfl (by kernel_rfl) rfl ?_
   go_wp2_with fail
   refine (HCLN.out _ (HW1.out.trans (hS3.mono HW1.out.size))).mono ?_
   rintro e w4 ⟨hx4, vS', rfl, hO⟩
   obtain ⟨aoC, cC, rfl, -⟩ := (OwnR.read hO strC_size).form
   have hS4 : Ext W1 w4 := hS3.trans (hx4.mono (by simp))
   have hB4 : Blk w4 W1.heap.size 26 #[.slice none 0 0, .slice none 0 0, .slice none 0 0] := (Blk.new' _ _ _ (by simp)).ext hx4
   have HO := hid (hO.lower (b := w.heap.size) (by have := HW1.out.size; have := hS3.size; omega))
   have HB4 := hid hB4
   have d0 : w4.cell? ⟨W1.heap.size, 0, none⟩ = some (.slice none 0 0) := hB4.cell rfl
   have d1 : w4.cell? ⟨W1.heap.size, 1, none⟩ = some (.slice none 0 0) := hB4.cell rfl
   have d2 : w4.cell? ⟨W1.heap.size, 2, none⟩ = some (.slice none 0 0) := hB4.cell rfl
   have df := hB4.frozen
   have dl := hB4.lt
   have hso : ∀ g, (Value.slice aoC syms.length cC).ownBlock = some g → ¬ g = W1.heap.size := fun g e e2 => by obtain ⟨_, hb⟩ := own_block hO e; exact ne_of_blk hB4 hb (by decide) e2.symm
   have HSO := hid hso
   clear hO hx4 hB4 hso
   go_wp2_with fail
   refine ⟨hS4, ?_⟩
   refine wpAnyH_takeK 4 1 #[true, true, true, true, true, true, false] rfl (by kernel_rfl) rfl (.agg #[.slice aoC syms.length cC, .slice aoN us.length cN, .slice none 0 0]) (fun _ _ _ h => h) (Or.inl ⟨rfl, fun w' hS => ?_⟩) hS4 ?_
   ·go_simp <;> with_reducible rfl
   refine wpAnyH_one 6 0 #[true, true, true, true, true, true, true] rfl (by kernel_rfl) rfl ?_
   go_wp2_with fail
   have cc : Chg (fun k => k = W1.heap.size) w4 (((w4.setCell ⟨W1.heap.size, 0, none⟩ (.slice aoC syms.length cC)).setCell ⟨W1.heap.size, 1, none⟩ (.slice aoN us.length cN)).setCell ⟨W1.heap.size, 2, none⟩ (.slice none 0 0)) :=
    Chg.setCell (p := ⟨W1.heap.size, 2, none⟩) (S := fun k => k = W1.heap.size) (Chg.setCell (p := ⟨W1.heap.size, 1, none⟩) (S := fun k => k = W1.heap.size) (Chg.setCell (p := ⟨W1.heap.size, 0, none⟩) (S := fun k => k = W1.heap.size) (Chg.refl _ w4) rfl (.slice aoC syms.length cC)) rfl (.slice aoN us.length cN)) rfl (.slice none 0 0)
   have hS5 := hS4.trans (cc.below (B := W1.heap.size) (by omega) (fun k e => by omega))
   refine ⟨hS5, ?_⟩
   refine wpAnyH_end (P := Tryz.prog) (by kernel_rfl) ?_
   go_wp2_with fail
   go_meet
   refine ⟨_, .slice aoC syms.length cC, rfl, hid ⟨HW1.out.trans (hS5.mono HW1.out.size), HB1.out.ext hS5, HB2.out.ext hS5, ?_, HO.out.chg cc HSO.out, OwnR.nil _ _ _ _ _, l2⟩⟩
   exact ((HB4.out.set 0 _).set 1 _).set 2 _
 case rest =>
  obtain ⟨b7, vS', rfl, HA⟩ := hcut
  have e0 : wc.cell? ⟨w.heap.size, 0, none⟩ = some (.slice aoK n cK) := HA.out.box.cell rfl
  have l0 := HA.out.box.lt
  go_wp2_with fail
  go_loopg [18] n (fun g u wr => ∃ j vFin, g = n - j ∧ j ≤ n ∧ u = .int .i64 j ∧ Hid (AutoW w wr (.slice aoK n cK) (.slice aoN us.length cN) (.slice aoF fr.length cF) vS' vFin 118 b7 syms ((ks.take j).map p)))
  case atStart => exact ⟨0, _, rfl, Nat.zero_le _, rfl, by simpa using HA⟩
  case round =>
   clear HA e0 l0
   obtain ⟨j, vFin, rfl, hj, rfl, HW⟩ := hrel
   obtain ⟨fs, hfs⟩ : ∃ fs, fs = (ks.take j).map p := ⟨_, rfl⟩
   rw [← hfs] at HW
   have hfl : fs.length ≤ 1000 := by rw [hfs]; simp; omega
   have HFS := hid hfs
   clear hfs
   by_cases hlt : j < n
   ·obtain ⟨gK, oK, rfl⟩ := hK2 (by omega)
    obtain ⟨k, hk⟩ : ∃ k, ks[j]? = some k := ⟨_, List.getElem?_eq_getElem (by rw [← HNN.out]; exact hlt)⟩
    have HC1 : Hid (∀ e, e < 17 → wr.cell? ⟨gK, oK + j * 17 + e, none⟩ = (staC k)[e]?) := hid fun e he => by
     have h1 := HK.out.ext HW.out.ext
     rw [HNN.out] at h1
     have h := h1.cell hk (k := e) he
     rwa [show oK + (j * 17 + e) = oK + j * 17 + e by omega] at h
    have hgK : gK < wr.heap.size := by
     have h1 := HK.out.ext HW.out.ext
     rw [HNN.out] at h1
     exact h1.blk_lt (by rw [← HNN.out]; omega)
    have HKK := hid hk
    clear hk
    go_upto_region 5 with (first
     | (with_reducible refine onOp 21 ?_
        go_loud (refine wpList_load_cells rfl 112 (.tmp 20) rfl gK (oK + j * 17) rfl (staC k) _ 17 HC1.out (staC_size _) Tryz.underlying112 rfl info112 ?_))
     | (with_reducible refine onOp 9 ?_
        go_loud (refine wpList_alloc_aggN rfl 112 rfl _ zero112 ?_)
        intro Z HZ1
        have HZs : Hid (Z.size = 17) := hid (by rw [HZ1.out]; exact staC_size _)
        clear HZ1)
     | (with_reducible show wpList _ _ _ ((⟨_, Op.store _ (.tmp 9) _, _, _, _, _⟩ : Oper) :: _) _ _
        go_loud (refine wpList_store_last rfl 112 (.tmp 9) (.tmp 21) rfl wr.heap.size (staC k) rfl rfl 112 Z rfl (by rw [staC_size]; exact info112) (by rw [HZs.out, staC_size]) (ones_sta k) ?_)))
    obtain ⟨wz, hwz⟩ : ∃ u, u = wr.alloc (.cells (staC k) 112) := ⟨_, rfl⟩
    rw [← hwz]
    have HB9 : Hid (Blk wz wr.heap.size 112 (staC k)) := hid (hwz ▸ Blk.new _ _ _)
    have HWZ := hid (HW.out.ext' (hwz ▸ (Below.refl _ _).alloc (Nat.le_refl _) _ : Ext wr wz))
    obtain ⟨b9, hb9⟩ : ∃ n, n = wr.heap.size := ⟨_, rfl⟩
    rw [← hb9] at HB9 ⊢
    have hmem := hid (List.mem_of_getElem? HKK.out)
    have z2 : wz.cell? ⟨b7, 2, none⟩ = some vFin := HWZ.out.dfa.cell rfl
    have zl := HWZ.out.dfa.lt
    have hS0 : Blk wz.drew b9 112 (staC k) := HB9.out.drew
    have HCALL := hid (HF.out k wz.drew hmem.out (HWZ.out.ext.drew))
    clear hwz hb9 HW HC1 hgK
    refine wp_region_heldL (fun w' => Blk w' b9 112 (staC k)) (by kernel_rfl) ?_
    refine wpAnyH_takeK 0 8 (mk 9 1) rfl (by kernel_rfl) rfl (.pointer (some ⟨b7, 2, none⟩)) (fun _ _ _ h => h) (Or.inl ⟨rfl, fun w' hS => ?_⟩) hS0 ?_
    ·go_simp <;> with_reducible rfl
    refine wpAnyH_takeK 2 7 (mk 9 5) rfl (by kernel_rfl) rfl (.func (.func f) bs caps) (fun _ _ _ h => h) (Or.inl ⟨rfl, fun w' hS => ?_⟩) hS0 ?_
    ·go_simp <;> with_reducible rfl
    refine wpAnyH_takeK 3 6 (mk 9 13) rfl (by kernel_rfl) rfl (.agg (staC k)) (fun _ _ _ h => h) (Or.inl ⟨rfl, fun w' hS => ?_⟩) hS0 ?_
    ·exact exec_load_cells 112 (.tmp 9) rfl b9 0 rfl _ _ 17 (blk_cells hS (staC_size _)) (staC_size _) Tryz.underlying112 rfl info112
    refine wpAnyH_two 1 4 5 (mk 9 15) (mk 9 29) rfl rfl (by kernel_rfl) rfl ?_ ?_
    ·go_wp2_with fail
     refine ⟨hS0, ?_⟩
     refine wpAnyH_one 4 4 (mk 9 31) rfl (by kernel_rfl) rfl ?_
     go_wp2_with (with_reducible refine onOp 26 ?_
                  go_loud (refine wpList_callb (args := #[.agg (staC k)]) rfl (.tmp 24) #[.tmp 25] #[112] rfl HEN.out rfl rfl HCALL.out ?_)
                  rintro e w4 ⟨rfl, hx⟩
                  refine ⟨_, rfl, ?_⟩
                  have hE4 : Ext wz w4 := (Below.refl wz.heap.size wz).drew.trans (hx.mono (by simp))
                  have HE4 := hid hE4
                  clear hx hE4)
     refine ⟨HB9.out.ext HE4.out, ?_⟩
     refine wpAnyH_one 5 3 (mk 9 63) rfl (by kernel_rfl) rfl ?_
     go_wp2_with fail
     refine ⟨(HB9.out.ext HE4.out).alloc _, ?_⟩
     have HW4 := hid (HWZ.out.ext' HE4.out)
     have HOW4 := hid HW4.out.fin
     have hsz4 := HW4.out.ext.size
     have hln : fs.length + 1 ≤ 1000000000 := by omega
     refine wpAnyH_one 6 2 (mk 9 127) rfl (by kernel_rfl) rfl ?_
     go_wp2_with (with_reducible refine onOp 28 ?_
                  go_loud (refine wpList_append_R elem_bool (fun _ => rfl) ones_bool HOW4 hsz4 hln (p k) _ rfl w4.heap.size rfl rfl _ _ rfl rfl rfl ?_)
                  rintro g' c' v' w6 rfl G1 G2)
     have P6 := HW4.out.app (by decide) rfl G1.out G2.out.1 G2.out.2
     have y2 : w6.cell? ⟨b7, 2, none⟩ = some vFin := P6.1.cell rfl
     have yf := P6.1.frozen
     have yl := P6.1.lt
     have b9n : ¬ vFin.ownBlock = some b9 := fun e => by obtain ⟨_, hb⟩ := own_block HOW4.out e; exact ne_of_blk (HB9.out.ext HE4.out) hb (by decide) rfl
     have h9 : Blk w6 b9 112 (staC k) := (HB9.out.ext HE4.out).chg ((Chg.refl (fun q => vFin.ownBlock = some q) w4).grown G2.out.1 (fun q e => e)) b9n
     have hne : b7 ≠ b9 := ne_of_blk P6.1 h9 (by decide)
     have HP6 := hid P6.2
     have H9 := hid h9
     clear P6 h9
     refine ⟨H9.out, ?_⟩
     refine wpAnyH_one 7 1 (mk 9 255) rfl (by kernel_rfl) rfl ?_
     go_wp2_with fail
     refine ⟨H9.out, ?_⟩
     refine wpAnyH_one 8 0 (mk 9 511) rfl (by kernel_rfl) rfl ?_
     go_wp2_with fail
     refine ⟨H9.out.setOther (a := ⟨b7, 2, none⟩) hne _, ?_⟩
     refine wpAnyH_end (P := Tryz.prog) (by kernel_rfl) ?_
     go_wp2_with fail
     go_roundg (n - (j + 1))
     case measure => omega
     case rel =>
      refine ⟨j + 1, .slice (some ⟨g', 0, none⟩) (fs.length + 1) c', rfl, by omega, by go_num, ?_⟩
      have e1 : (ks.take (j + 1)).map p = (ks.take j).map p ++ [p k] := by
       obtain ⟨h2, h3⟩ := List.getElem?_eq_some_iff.1 HKK.out
       rw [List.take_succ_eq_append_getElem h2, List.map_append, h3]; rfl
      rw [e1, ← HFS.out]
      exact HP6
    ·go_wp2_with (with_reducible refine onOp 26 ?_
                  go_loud (refine wpList_callb (args := #[.agg (staC k)]) rfl (.tmp 24) #[.tmp 25] #[112] rfl HEN.out rfl rfl HCALL.out ?_)
                  rintro e w4 ⟨rfl, hx⟩
                  refine ⟨_, rfl, ?_⟩
                  have hE4 : Ext wz w4 := (Below.refl wz.heap.size wz).drew.trans (hx.mono (by simp))
                  have HE4 := hid hE4
                  clear hx hE4)
     have z4 : w4.cell? ⟨b7, 2, none⟩ = some vFin := (HWZ.out.dfa.ext HE4.out).cell rfl
     have zl4 := (HWZ.out.dfa.ext HE4.out).lt
     refine ⟨HB9.out.ext HE4.out, ?_⟩
     refine wpAnyH_two 1 5 4 (mk 9 31) (mk 9 61) rfl rfl (by kernel_rfl) rfl ?_ ?_
     ·go_wp2_with fail
      refine ⟨HB9.out.ext HE4.out, ?_⟩
      refine wpAnyH_one 5 3 (mk 9 63) rfl (by kernel_rfl) rfl ?_
      go_wp2_with fail
      refine ⟨(HB9.out.ext HE4.out).alloc _, ?_⟩
      have HW4 := hid (HWZ.out.ext' HE4.out)
      have HOW4 := hid HW4.out.fin
      have hsz4 := HW4.out.ext.size
      have hln : fs.length + 1 ≤ 1000000000 := by omega
      refine wpAnyH_one 6 2 (mk 9 127) rfl (by kernel_rfl) rfl ?_
      go_wp2_with (with_reducible refine onOp 28 ?_
                   go_loud (refine wpList_append_R elem_bool (fun _ => rfl) ones_bool HOW4 hsz4 hln (p k) _ rfl w4.heap.size rfl rfl _ _ rfl rfl rfl ?_)
                   rintro g' c' v' w6 rfl G1 G2)
      have P6 := HW4.out.app (by decide) rfl G1.out G2.out.1 G2.out.2
      have y2 : w6.cell? ⟨b7, 2, none⟩ = some vFin := P6.1.cell rfl
      have yf := P6.1.frozen
      have yl := P6.1.lt
      have b9n : ¬ vFin.ownBlock = some b9 := fun e => by obtain ⟨_, hb⟩ := own_block HOW4.out e; exact ne_of_blk (HB9.out.ext HE4.out) hb (by decide) rfl
      have h9 : Blk w6 b9 112 (staC k) := (HB9.out.ext HE4.out).chg ((Chg.refl (fun q => vFin.ownBlock = some q) w4).grown G2.out.1 (fun q e => e)) b9n
      have hne : b7 ≠ b9 := ne_of_blk P6.1 h9 (by decide)
      have HP6 := hid P6.2
      have H9 := hid h9
      clear P6 h9
      refine ⟨H9.out, ?_⟩
      refine wpAnyH_one 7 1 (mk 9 255) rfl (by kernel_rfl) rfl ?_
      go_wp2_with fail
      refine ⟨H9.out, ?_⟩
      refine wpAnyH_one 8 0 (mk 9 511) rfl (by kernel_rfl) rfl ?_
      go_wp2_with fail
      refine ⟨H9.out.setOther (a := ⟨b7, 2, none⟩) hne _, ?_⟩
      refine wpAnyH_end (P := Tryz.prog) (by kernel_rfl) ?_
      go_wp2_with fail
      go_roundg (n - (j + 1))
      case measure => omega
      case rel =>
       refine ⟨j + 1, .slice (some ⟨g', 0, none⟩) (fs.length + 1) c', rfl, by omega, by go_num, ?_⟩
       have e1 : (ks.take (j + 1)).map p = (ks.take j).map p ++ [p k] := by
        obtain ⟨h2, h3⟩ := List.getElem?_eq_some_iff.1 HKK.out
        rw [List.take_succ_eq_append_getElem h2, List.map_append, h3]; rfl
       rw [e1, ← HFS.out]
       exact HP6
     ·go_wp2_with fail
      refine ⟨(HB9.out.ext HE4.out).alloc _, ?_⟩
      refine wpAnyH_one 1 3 (mk 9 63) rfl (by kernel_rfl) rfl ?_
      go_wp2_with fail
      refine ⟨(HB9.out.ext HE4.out).alloc _, ?_⟩
      have HW4 := hid (HWZ.out.ext' HE4.out)
      have HOW4 := hid HW4.out.fin
      have hsz4 := HW4.out.ext.size
      have hln : fs.length + 1 ≤ 1000000000 := by omega
      refine wpAnyH_one 6 2 (mk 9 127) rfl (by kernel_rfl) rfl ?_
      go_wp2_with (with_reducible refine onOp 28 ?_
                   go_loud (refine wpList_append_R elem_bool (fun _ => rfl) ones_bool HOW4 hsz4 hln (p k) _ rfl w4.heap.size rfl rfl _ _ rfl rfl rfl ?_)
                   rintro g' c' v' w6 rfl G1 G2)
      have P6 := HW4.out.app (by decide) rfl G1.out G2.out.1 G2.out.2
      have y2 : w6.cell? ⟨b7, 2, none⟩ = some vFin := P6.1.cell rfl
      have yf := P6.1.frozen
      have yl := P6.1.lt
      have b9n : ¬ vFin.ownBlock = some b9 := fun e => by obtain ⟨_, hb⟩ := own_block HOW4.out e; exact ne_of_blk (HB9.out.ext HE4.out) hb (by decide) rfl
      have h9 : Blk w6 b9 112 (staC k) := (HB9.out.ext HE4.out).chg ((Chg.refl (fun q => vFin.ownBlock = some q) w4).grown G2.out.1 (fun q e => e)) b9n
      have hne : b7 ≠ b9 := ne_of_blk P6.1 h9 (by decide)
      have HP6 := hid P6.2
      have H9 := hid h9
      clear P6 h9
      refine ⟨H9.out, ?_⟩
      refine wpAnyH_one 7 1 (mk 9 255) rfl (by kernel_rfl) rfl ?_
      go_wp2_with fail
      refine ⟨H9.out, ?_⟩
      refine wpAnyH_one 8 0 (mk 9 511) rfl (by kernel_rfl) rfl ?_
      go_wp2_with fail
      refine ⟨H9.out.setOther (a := ⟨b7, 2, none⟩) hne _, ?_⟩
      refine wpAnyH_end (P := Tryz.prog) (by kernel_rfl) ?_
      go_wp2_with fail
      go_roundg (n - (j + 1))
      case measure => omega
      case rel =>
       refine ⟨j + 1, .slice (some ⟨g', 0, none⟩) (fs.length + 1) c', rfl, by omega, by go_num, ?_⟩
       have e1 : (ks.take (j + 1)).map p = (ks.take j).map p ++ [p k] := by
        obtain ⟨h2, h3⟩ := List.getElem?_eq_some_iff.1 HKK.out
        rw [List.take_succ_eq_append_getElem h2, List.map_append, h3]; rfl
       rw [e1, ← HFS.out]
       exact HP6
   ·have h0 := HW.out.dfa
    have r0 := HW.out.res
    obtain ⟨aoC, cC, rfl, -⟩ := (OwnR.read HW.out.syms strC_size).form
    obtain ⟨aoG, cG, rfl, -⟩ := (OwnR.read HW.out.fin (fun _ => rfl)).form
    have k0 : wr.cell? ⟨b7, 0, none⟩ = some (.slice aoC syms.length cC) := h0.cell rfl
    have k1 : wr.cell? ⟨b7, 1, none⟩ = some (.slice aoN us.length cN) := h0.cell rfl
    have k2 : wr.cell? ⟨b7, 2, none⟩ = some (.slice aoG fs.length cG) := h0.cell rfl
    have kl := h0.lt
    have q0 : wr.cell? ⟨w.heap.size + 1, 0, none⟩ = some (.slice none 0 0) := r0.cell rfl
    have q1 : wr.cell? ⟨w.heap.size + 1, 1, none⟩ = some (.slice none 0 0) := r0.cell rfl
    have q2 : wr.cell? ⟨w.heap.size + 1, 2, none⟩ = some (.slice none 0 0) := r0.cell rfl
    have qf := r0.frozen
    have ql := r0.lt
    have HR0 := hid r0
    clear h0 r0
    go_wp2_with fail
    have h3 : Blk (((wr.setCell ⟨w.heap.size + 1, 0, none⟩ (.slice aoC syms.length cC)).setCell ⟨w.heap.size + 1, 1, none⟩ (.slice aoN us.length cN)).setCell ⟨w.heap.size + 1, 2, none⟩ (.slice aoG fs.length cG)) (w.heap.size + 1) 26 #[.slice aoC syms.length cC, .slice aoN us.length cN, .slice aoG fs.length cG] := ((HR0.out.set 0 _).set 1 _).set 2 _
    have cc : Chg (fun k => k = w.heap.size + 1) wr (((wr.setCell ⟨w.heap.size + 1, 0, none⟩ (.slice aoC syms.length cC)).setCell ⟨w.heap.size + 1, 1, none⟩ (.slice aoN us.length cN)).setCell ⟨w.heap.size + 1, 2, none⟩ (.slice aoG fs.length cG)) :=
     Chg.setCell (p := ⟨w.heap.size + 1, 2, none⟩) (S := fun k => k = w.heap.size + 1) (Chg.setCell (p := ⟨w.heap.size + 1, 1, none⟩) (S := fun k => k = w.heap.size + 1) (Chg.setCell (p := ⟨w.heap.size + 1, 0, none⟩) (S := fun k => k = w.heap.size + 1) (Chg.refl _ wr) rfl (.slice aoC syms.length cC)) rfl (.slice aoN us.length cN)) rfl (.slice aoG fs.length cG)
    refine bodyPost_ret (v := .agg #[.slice aoC syms.length cC, .slice aoN us.length cN, .slice aoG fs.length cG]) (results_cell_agg Tryz.results77 _ _ (w.heap.size + 1) 26 #[.slice aoC syms.length cC, .slice aoN us.length cN, .slice aoG fs.length cG] _ rfl h3 Tryz.underlying26 rfl (by kernel_rfl)) rfl ?_
    have d7 : Chg (fun k => w.heap.size ≤ k) wr _ := cc.mono fun k _ e => by omega
    have hX : Ext w _ := HW.out.ext.trans (d7.below HW.out.ext.size (fun k e => e))
    have hfs : fs = ks.map p := by rw [HFS.out, List.take_of_length_le (by rw [← HNN.out]; omega)]
    refine ⟨hX, _, _, rfl, HW.out.syms.chg cc fun g e e' => ?_, ?_⟩
    ·obtain ⟨_, hb⟩ := own_block HW.out.syms e
     exact ne_of_blk HR0.out hb (by decide) e'.symm
    ·rw [← hfs]
     refine HW.out.fin.chg cc fun g e e' => ?_
     obtain ⟨_, hb⟩ := own_block HW.out.fin e
     exact ne_of_blk HR0.out hb (by decide) e'.symm
end Go.Proofs.YtngpjagpeblbjaaGreatDoor
namespace Go.Proofs.YtngpjagpeblbjaaGreatDoor
open Go.RowKit Go.Spy Go.Heaped Go.Tour Go.Rx
structure MildS (l : List ByteArray) : Prop where
 len : l.length ≤ 140737488351232
 size : ∀ s ∈ l, s.size ≤ 9223372036854775807
theorem strs_of_read {w : World} {v : Value} {l : List ByteArray} (h : ReadR w 1 strC v l) (hl : MildS l) : ∃ ao c, v = .slice ao l.length c ∧ StrsV w ao c l := by
 obtain ⟨ao, c, rfl, h⟩ := h
 refine ⟨ao, c, rfl, hl.len, fun i hi => hl.size _ (List.getElem_mem hi), fun h0 => ?_⟩
 rcases h with h | ⟨g, off, rfl, hg, hc⟩
 ·omega
 ·exact ⟨g, off, rfl, hg, fun i hi => by have := hc i 0 l[i] (List.getElem?_eq_getElem hi) (by decide); simpa [strC] using this⟩
theorem texts_rd {us vs : List ByteArray} {w : World} {v1 v2 : Value} (h1 : ReadR w 1 strC v1 us) (h2 : ReadR w 1 strC v2 vs) (m1 : MildS us) (m2 : MildS vs) :
 Calls Tryz.prog 12 #[v1, v2] w fun e w' => e = .returned (.bool (decide (us = vs))) ∧ Ext w w' := by
 obtain ⟨a1, c1, rfl, s1⟩ := strs_of_read h1 m1
 obtain ⟨a2, c2, rfl, s2⟩ := strs_of_read h2 m2
 exact texts_any s1 s2
structure LenD (d : DR) : Prop where
 s : MildS d.syms
 n : d.next.length ≤ 140737488351232
 f : d.fin.length ≤ 140737488351232
 r : ∀ r ∈ d.next, r.length ≤ 9223372036854775807
end Go.Proofs.YtngpjagpeblbjaaGreatDoor
namespace Go.Proofs.YtngpjagpeblbjaaGreatDoor
open Go.RowKit Go.Spy Go.Heaped Go.Tour Go.Rx
section
variable {w wr : World} {b5 : Nat} {vO : Array Value} {vS vN vF : Value} {us : List Value} {syms : List ByteArray} {rows : List (List Int)} {fin : List Bool}
theorem own_blk_ne {α : Type} {W : World} {N e s g t : Nat} {f : α → Array Value} {v : Value} {l : List α} {A : Array Value} (h : OwnR W N e s f v l) (k : Blk W g t A) (hne : e ≠ t) : ¬ v.ownBlock = some g := fun h1 => by
 obtain ⟨_, hb⟩ := own_block h h1
 exact ne_of_blk hb k hne rfl
end
end Go.Proofs.YtngpjagpeblbjaaGreatDoor
namespace Go.Spy
open Go.RowKit
theorem wpList_unguard {P : Program} {ops : Array Oper} {rest : List Oper} {o : Oper} {a : Act} {w : World} {Q : Exit → Act → World → Prop} (hw : Region.wanted o (yielded ops a.tmps) = true)
 (h : wpList P ops Q ({ o with guard := none } :: rest) a w) : wpList P ops Q (o :: rest) a w := by
 unfold wpList at h ⊢
 rw [if_pos hw]
 rw [if_pos (by rfl)] at h
 obtain ⟨d, op, t, p, af, g⟩ := o
 exact h
end Go.Spy
namespace Go.Proofs.YtngpjagpeblbjaaGreatDoor
open Go.RowKit Go.Spy Go.Heaped Go.Tour Go.Rx
theorem keyOf_set (m : Nat) (hm : m < 18446744073709551616) : ∃ l, keyOf Tryz.prog 105 (.agg (setV m)) = some l := by
 refine keyOf_arr Tryz.underlying105 (by kernel_rfl) (by rw [cells105, setV_size]) ?_
 rw [types_size]
 refine lits_array Tryz.underlying105 (by rw [cells105]; simp [setV_size]) fun i hi => ?_
 rw [cells103]
 have h1 : (List.take 1 (List.drop (i * 1) (setV m).toList)) = [.int .u64 (plG m i)] := by
  apply List.ext_getElem?
  intro j
  have hg := setV_get (m := m) hi
  cases j with
  | zero =>
    rw [List.getElem?_take, if_pos (by decide), List.getElem?_drop]
    simp only [Nat.mul_one, Nat.add_zero]
    rw [Array.getElem?_toList, hg]; rfl
  | succ j => rw [List.getElem?_take, if_neg (by omega)]; simp
 rw [h1]
 refine lits_int Tryz.underlying103 ?_
 have e1 : IntKind.u64.min = 0 := rfl
 have e2 : IntKind.u64.max = 18446744073709551615 := by decide
 cases i with
 | zero => simp [plG, Lit.wf, e1, e2]; omega
 | succ i => simp [plG, Lit.wf, e1, e2]
theorem setV_inj {a b : Nat} (h : setV a = setV b) : a = b := by
 have h0 : (setV a)[0]? = (setV b)[0]? := by rw [h]
 rw [setV_get (by decide), setV_get (by decide)] at h0
 simp [plG] at h0
 exact_mod_cast h0
set_option maxRecDepth 100000 in
theorem run_neq_set (a b : Nat) (ha : a < 18446744073709551616) (hb : b < 18446744073709551616) (w : World) : (binOp .neq 105 (.agg (setV a)) (.agg (setV b))).run Tryz.prog w = .ok (.bool (decide (a ≠ b))) w := by
 obtain ⟨la, hla⟩ := keyOf_set a ha
 obtain ⟨lb, hlb⟩ := keyOf_set b hb
 obtain ⟨r, h1, h2⟩ := equal_of_law (P := Tryz.prog) Tryz.underlying105 (deep_law_gate (by kernel_rfl) (by rw [types_size]; decide) (by rw [types_size]; decide) (by kernel_rfl) (by rw [Tryz.underlying105])) hla hlb rfl w
 simp only [binOp, Sem.run_bind, h1, Result.andThen_ok, Sem.run_pure]
 congr 2
 cases r with
 | true =>
   have e : b = a := setV_inj (by have := h2.1 rfl; simpa using this)
   simp [e]
 | false =>
   have e : ¬ a = b := fun e => by have := h2.2 (by rw [e]); cases this
   simp [e]
theorem built_set0 : Tryz.prog.built 105 [] = some (setV 0) := by kernel_rfl
theorem enters78 : Enters Tryz.prog 78 := fun _ _ => by kernel_rfl
set_option maxRecDepth 100000 in
set_option maxHeartbeats 1000000 in
theorem make2_any {w : World} {bE bL : Nat} {emp : Bool} {last : Nat} (hl : last < 18446744073709551616) (hE : Blk w bE 4 #[.bool emp]) (hL : Blk w bL 105 (setV last)) (s : Sta) :
 Calls Tryz.prog 78 #[.agg (staC s), .pointer (some ⟨bE, 0, none⟩), .pointer (some ⟨bL, 0, none⟩)] w fun e w' => e = .returned (.bool ((s.1 && emp) || decide (s.2.1 &&& last ≠ 0))) ∧ Ext w w' := by
 have HL := hid hL
 have cE0 : ∀ w', Ext w w' → w'.cell? ⟨bE, 0, none⟩ = some (.bool emp) := fun w' e => (hE.ext e).cell rfl
 have HCE := hid cE0
 have hm := s.2.2
 have hneq := fun W => run_neq_set (s.2.1 &&& last) 0 (Nat.lt_of_le_of_lt Nat.and_le_left hm) (by decide) W
 have c0 : (staC s)[0]? = some (.bool s.1) := staC_get0 s
 obtain ⟨b, hb⟩ : ∃ b, b = s.1 := ⟨_, rfl⟩
 rw [← hb] at c0 ⊢
 have HC0 := hid c0
 clear hE hL cE0 hb c0
 go_enter Tryz.func78, Tryz.ntmps78
 go_upto_region 1 with (first
  | (with_reducible refine onOp 3 ?_
     go_loud (refine wpList_box_agg rfl 112 (.tmp 0) rfl (staC s) rfl ?_)
     intro w1 hB1 hz1
     have HB1 := hid hB1.out
     have HZ1 := hid hz1
     clear hB1 hz1))
 have s1 : w.heap.size < w1.heap.size := by have := HZ1.out; omega
 have c3 : w1.cell? ⟨w.heap.size, 0, none⟩ = some (.bool b) := HB1.out.1.cell HC0.out
 have cE := HCE.out w1 HB1.out.2
 have lE := World.block_lt_of_cell? _ _ cE
 have HL1 := hid (HL.out.ext HB1.out.2)
 have c1 : ∀ j, j < 16 → w1.cell? ⟨w.heap.size, 1 + j, none⟩ = (setV s.2.1)[j]? := fun j hj => by
  rw [← staC_get]
  have hsz := staC_size s
  rw [Array.getElem?_eq_getElem (by omega)]
  exact HB1.out.1.cell (Array.getElem?_eq_getElem (by omega))
 have HC1 := hid c1
 clear c1
 cases b <;> cases emp
 all_goals
  go_wp2_with (first
   | (with_reducible refine onOp 12 ?_
      go_loud (refine wpList_unguard (by go_simp) ?_; refine wpList_load_cells rfl 105 (.tmp 11) rfl w.heap.size 1 rfl (setV s.2.1) _ 16 HC1.out (setV_size _) Tryz.underlying105 rfl info105 ?_))
   | (with_reducible refine onOp 13 ?_
      go_loud (refine wpList_unguard (by go_simp) ?_; refine wpList_load_blk rfl 105 (.tmp 2) rfl bL rfl 105 (setV last) _ 16 HL1.out (setV_size _) Tryz.underlying105 rfl info105 ?_))
   | (go_at_call 74
      go_loud (refine (both2_any _ _ hm hl _).mono ?_)
      rintro e w5 ⟨C, rfl, hC, hx5⟩
      subst hC
      have HX5 := hid hx5
      clear hx5)
   | (with_reducible refine onOp 15 ?_
      go_loud (refine wpList_unguard (by go_simp) ?_; refine wpList_build_agg rfl 105 _ rfl [] rfl _ built_set0 ?_)
      intro C HC
      have hC := HC.out
      subst hC))
  go_ret
  first
   | exact ⟨rfl, HB1.out.2.trans (HX5.out.mono HB1.out.2.size)⟩
   | exact ⟨rfl, HB1.out.2⟩
end Go.Proofs.YtngpjagpeblbjaaGreatDoor
namespace Go.Proofs.YtngpjagpeblbjaaGreatDoor
open Go.RowKit Go.Spy Go.Heaped Go.Tour Go.Rx
def symP (l : List Nd) (x : ByteArray) (p : Nat) : Bool := match l[p]? with | some n => decide (n.op = 2) && decide (n.sym.toList = x.toList) | none => false
def ofJ (l : List Nd) (j : Nat) (x : ByteArray) : Nat := maskOf j (symP l x)
def lastP (l : List Nd) (p : Nat) : Bool := match l[p]? with | some n => decide (n.op = 2) && (lastMk l).testBit p | none => false
def lastJ (l : List Nd) (j : Nat) : Nat := maskOf j (lastP l)
def lastK (l : List Nd) : Nat := lastJ l l.length
def finalK (l : List Nd) (s : Sta) : Bool := (s.1 && nullT (tr l (l.length - 1))) || decide (s.2.1 &&& lastK l ≠ 0)
def makeSyms (l : List Nd) (more : List ByteArray) : List ByteArray := sortW (sortW (symsL l) ++ more)
theorem maskOf_lt (f : Nat → Bool) : ∀ n, maskOf n f < 2 ^ n := fun n => by
 apply Nat.lt_pow_two_of_testBit
 intro i hi
 rw [bit_maskOf, decide_eq_false (by omega)]; rfl
theorem maskOf_lt64 (f : Nat → Bool) {n : Nat} (h : n ≤ 64) : maskOf n f < 18446744073709551616 := Nat.lt_of_lt_of_le (maskOf_lt f n) (pow_le64 h)
theorem ofJ_skip {l : List Nd} {j : Nat} {n : Nd} (hn : l[j]? = some n) (h : n.op ≠ 2) (x : ByteArray) : ofJ l (j + 1) x = ofJ l j x := by
 unfold ofJ
 rw [maskOf]
 have : symP l x j = false := by unfold symP; rw [hn]; simp [h]
 rw [this]; rfl
theorem lastJ_skip {l : List Nd} {j : Nat} {n : Nd} (hn : l[j]? = some n) (h : n.op ≠ 2) : lastJ l (j + 1) = lastJ l j := by
 unfold lastJ
 rw [maskOf]
 have : lastP l j = false := by unfold lastP; rw [hn]; simp [h]
 rw [this]; rfl
theorem ofJ_sym {l : List Nd} {j : Nat} {n : Nd} (hn : l[j]? = some n) (h : n.op = 2) (x : ByteArray) : ofJ l (j + 1) x = if n.sym = x then ofJ l j x ||| 1 <<< j else ofJ l j x := by
 unfold ofJ
 rw [maskOf]
 by_cases e : n.sym = x
 ·have : symP l x j = true := by unfold symP; rw [hn]; simp [h, e]
  rw [this, if_pos rfl, if_pos e]
 ·have : symP l x j = false := by
   unfold symP; rw [hn]
   simp only [h, decide_true, Bool.true_and, decide_eq_false_iff_not]
   exact fun e2 => e (bytes_ext e2)
  rw [this, if_neg e]; rfl
theorem lastJ_sym {l : List Nd} {j : Nat} {n : Nd} (hn : l[j]? = some n) (h : n.op = 2) : lastJ l (j + 1) = if (lastMk l).testBit j then lastJ l j ||| 1 <<< j else lastJ l j := by
 unfold lastJ
 rw [maskOf]
 have : lastP l j = (lastMk l).testBit j := by unfold lastP; rw [hn]; simp [h]
 rw [this]
theorem ofs_set {l : List Nd} {j c : Nat} {n : Nd} {syms : List ByteArray} (hr : Rising syms) (hn : l[j]? = some n) (h : n.op = 2) (hc : syms[c]? = some n.sym) :
 (syms.map (ofJ l j)).set c (ofJ l j n.sym ||| 1 <<< j) = syms.map (ofJ l (j + 1)) := by
 apply List.ext_getElem?
 intro i
 rw [List.getElem?_set, List.length_map]
 by_cases e : c = i
 ·subst e
  have hlt := (List.getElem?_eq_some_iff.1 hc).1
  rw [if_pos rfl, if_pos hlt, List.getElem?_map, hc, Option.map_some, ofJ_sym hn h, if_pos rfl]
 ·rw [if_neg e, List.getElem?_map, List.getElem?_map]
  cases hx : syms[i]? with
  | none => rfl
  | some x =>
    have hne : n.sym ≠ x := by
     intro e2
     subst e2
     rcases Nat.lt_trichotomy c i with h1 | h1 | h1
     ·have := hr.get h1 hc hx; rw [ltB_irr] at this; cases this
     ·exact e h1
     ·have := hr.get h1 hx hc; rw [ltB_irr] at this; cases this
    rw [Option.map_some, Option.map_some, ofJ_sym hn h, if_neg hne]
theorem mem_symsL {l : List Nd} {j : Nat} {n : Nd} (hn : l[j]? = some n) (h : n.op = 2) : n.sym ∈ symsL l := by
 unfold symsL
 rw [List.mem_filterMap]
 exact ⟨n, List.mem_of_getElem? hn, by unfold symN; rw [if_pos h]⟩
theorem mem_makeSyms {l : List Nd} {more : List ByteArray} {x : ByteArray} : x ∈ makeSyms l more ↔ x ∈ symsL l ∨ x ∈ more := by
 unfold makeSyms
 rw [sortW_mem, List.mem_append, sortW_mem]
theorem makeSyms_rising (l : List Nd) (more : List ByteArray) : Rising (makeSyms l more) := sortW_rising _
theorem symsL_len (l : List Nd) : (symsL l).length ≤ l.length := List.length_filterMap_le _ _
theorem makeSyms_len (l : List Nd) (more : List ByteArray) : (makeSyms l more).length ≤ l.length + more.length := by
 have h1 := sortW_len (sortW (symsL l) ++ more)
 have h2 := sortW_len (symsL l)
 have h3 := symsL_len l
 rw [List.length_append] at h1
 unfold makeSyms
 omega
abbrev succS (l : List Nd) (syms : List ByteArray) : Sta → List Sta := fan (stepS l syms) syms.length
def MakePost (l : List Nd) (syms : List ByteArray) (w : World) (e : Ending) (w' : World) : Prop :=
 Ext w w' ∧ ((∃ i v, Full (succS l syms) startS i ∧ i ≤ 256 ∧ e = .returned (.tuple #[v, .int .i64 0]) ∧ DfaV w' v (tourD syms (tourN (succS l syms) startS i) (finalK l)).raw) ∨
  (∃ i, 256 < (tourN (succS l syms) startS i).keys.length ∧ e = .returned (.tuple #[.agg #[.slice none 0 0, .slice none 0 0, .slice none 0 0], .int .i64 17])))
structure GatW (w wr : World) (l : List Nd) (ao : Option Addr) (cap : Nat) (syms : List ByteArray) (aoS : Option Addr) (cS bSy bOf bO bLa : Nat) (jo jl : Nat) : Prop where
 ext : Ext w wr
 r : Blk wr w.heap.size 45 #[.slice ao l.length cap]
 res : Blk wr (w.heap.size + 1) 26 #[.slice none 0 0, .slice none 0 0, .slice none 0 0]
 sy : Blk wr bSy 22 #[.slice aoS syms.length cS]
 own : OwnR wr w.heap.size 9 1 strC (.slice aoS syms.length cS) syms
 of_ : Blk wr bOf 102 #[.slice (some ⟨bO, 0, none⟩) syms.length syms.length]
 o : Blk wr bO 105 (rowV setV (syms.map (ofJ l jo)))
 la : Blk wr bLa 105 (setV (lastJ l jl))
 ne : bO ≠ bLa
 lt : w.heap.size + 1 < bSy ∧ w.heap.size + 1 < bOf ∧ w.heap.size + 1 < bO ∧ w.heap.size + 1 < bLa
theorem GatW.ext' {w wr wy : World} {l : List Nd} {ao : Option Addr} {cap : Nat} {syms : List ByteArray} {aoS : Option Addr} {cS bSy bOf bO bLa jo jl : Nat} (h : GatW w wr l ao cap syms aoS cS bSy bOf bO bLa jo jl) (e : Ext wr wy) : GatW w wy l ao cap syms aoS cS bSy bOf bO bLa jo jl :=
 ⟨h.ext.trans (e.mono h.ext.size), h.r.ext e, h.res.ext e, h.sy.ext e, h.own.ext e, h.of_.ext e, h.o.ext e, h.la.ext e, h.ne, h.lt⟩
end Go.Proofs.YtngpjagpeblbjaaGreatDoor
