/-
  Walk of automaton over states of an expression.
  Walks of the laws' small helpers: Small, none, Plain, ahead, Texts.
  Walk of checked: what is wrong with the first of two automata, or else with the second.
-/
import Derived.Test.YtngpjagpeblbjaaGreatDoorZ21
import Derived.Test.YtngpjagpeblbjaaGreatDoorZ06
import Derived.Test.YtngpjagpeblbjaaGreatDoorZ18
namespace Go.Proofs.YtngpjagpeblbjaaGreatDoor
open Go.RowKit Go.Spy Go.Heaped Go.Tour Go.Rx

theorem elem_bool : ElemOk Tryz.prog 24 4 1 1 where
  under := Tryz.underlying24
  info := by
    obtain ⟨i, h1, h2, h3, h4⟩ := info_parts (P := Tryz.prog) (e := 4) (z := .bool false) (size := 1) (bytes := 1) (by kernel_rfl)
    exact ⟨i, _, h1, h2, h3, h4, rfl⟩
  pos := by decide
  small := by decide
theorem ones_bool (b : Bool) : Ones (boolC b) := by
  intro v hv
  simp only [boolC, List.mem_toArray, List.mem_cons, List.not_mem_nil, or_false] at hv
  subst hv; rfl
def AutoPost (syms : List ByteArray) (vN : Value) (fin : List Bool) (w : World) (e : Ending) (w' : World) : Prop :=
  Ext w w' ∧ ∃ vS vF, e = .returned (.agg #[vS, vN, vF]) ∧ OwnR w' w.heap.size 9 1 strC vS syms ∧ OwnR w' w.heap.size 4 1 boolC vF fin
/-- Put together with the tour's rows, behind a change of another block. -/
theorem auto_dfa {w w' w'' : World} {vS vN vF : Value} {us : List Value} {rows : List (List Nat)} {syms : List ByteArray} {fin : List Bool} {N q : Nat} (x : Ext w w') (hS : OwnR w' w.heap.size 9 1 strC vS syms) (hF : OwnR w' w.heap.size 4 1 boolC vF fin)
    (hN : OwnR w N 46 1 oneA vN us) (hlen : us.length = rows.length) (hrows : ∀ (i : Nat) (u : Value) (r : List Nat), us[i]? = some u → rows[i]? = some r → ReadR w 1 natA u r ∧ ∀ g, u.ownBlock = some g → N ≤ g) (hq : q < N) (hqw : q < w.heap.size) (c : Chg (· = q) w' w'') : DfaP w'' vS vN vF us ⟨syms, rows.map (·.map Int.ofNat), fin⟩ := by
  refine ⟨(OwnR.read hS strC_size).chg c fun g e e' => ?_, ((OwnR.read hN (fun _ => rfl)).ext x).chg c fun g e e' => ?_, by simpa using hlen, fun i u r hu hr => ?_, (OwnR.read hF (fun _ => rfl)).chg c fun g e e' => ?_⟩
  · have := (hS.lt g e).1; omega
  · have := (hN.lt g e).1; omega
  · rw [List.getElem?_map, Option.map_eq_some_iff] at hr
    obtain ⟨r', hr', rfl⟩ := hr
    have h1 := hrows i u r' hu hr'
    exact nat_int.1 ((h1.1.ext x).chg c fun g e e' => by have := h1.2 g e; omega)
  · have := (hF.lt g e).1; omega
/-- What stands ahead of the loop, and within it. -/
structure AutoW (w wr : World) (vK vN vF vS' vFin : Value) (tT b7 : Nat) (syms : List ByteArray) (fin : List Bool) : Prop where
  ext : Ext w wr
  box : Blk wr w.heap.size tT #[vK, vN, vF]
  res : Blk wr (w.heap.size + 1) 26 #[.slice none 0 0, .slice none 0 0, .slice none 0 0]
  dfa : Blk wr b7 26 #[vS', vN, vFin]
  syms : OwnR wr w.heap.size 9 1 strC vS' syms
  fin : OwnR wr w.heap.size 4 1 boolC vFin fin
  lt : w.heap.size + 1 < b7

theorem AutoW.ext' {w wr wy : World} {vK vN vF vS' vFin : Value} {tT b7 : Nat} {syms : List ByteArray} {fin : List Bool} (h : AutoW w wr vK vN vF vS' vFin tT b7 syms fin) (e : Ext wr wy) : AutoW w wy vK vN vF vS' vFin tT b7 syms fin :=
  ⟨h.ext.trans (e.mono h.ext.size), h.box.ext e, h.res.ext e, h.dfa.ext e, h.syms.ext e, h.fin.ext e, h.lt⟩
theorem AutoW.app {w wr w6 : World} {vK vN vF vS' vFin v' : Value} {tT b7 : Nat} {syms : List ByteArray} {fin : List Bool} (h : AutoW w wr vK vN vF vS' vFin tT b7 syms fin) (htT : tT ≠ 4 ∧ tT ≠ 26) {g c : Nat} {b : Bool} (hv : v' = .slice (some ⟨g, 0, none⟩) (fin.length + 1) c)
    (hO : OwnR w6 w.heap.size 4 1 boolC v' (fin ++ [b])) (hg : wr.grownBy w6 vFin.ownBlock) (hl : vFin.ownBlock = some g ∨ wr.heap.size ≤ g) :
    Blk w6 b7 26 #[vS', vN, vFin] ∧ AutoW w (w6.setCell ⟨b7, 2, none⟩ v') vK vN vF vS' v' tT b7 syms (fin ++ [b]) := by
  have hvo : v'.ownBlock = some g := by rw [hv]; rfl
  have c6 : Chg (fun k => vFin.ownBlock = some k) wr w6 := (Chg.refl _ wr).grown hg (fun k e => e)
  have nb : ∀ k, vFin.ownBlock = some k → ∃ cur, Blk wr k 4 cur := fun k e => own_block h.fin e
  have b7n : ¬ vFin.ownBlock = some b7 := fun e => by obtain ⟨_, hb⟩ := nb _ e; exact ne_of_blk h.dfa hb (by decide) rfl
  have b0n : ¬ vFin.ownBlock = some w.heap.size := fun e => by obtain ⟨_, hb⟩ := nb _ e; exact ne_of_blk h.box hb htT.1 rfl
  have b1n : ¬ vFin.ownBlock = some (w.heap.size + 1) := fun e => by obtain ⟨_, hb⟩ := nb _ e; exact ne_of_blk h.res hb (by decide) rfl
  have h7 := h.dfa.chg c6 b7n
  have hlt := h.lt
  have c7 : Chg (fun k => k = b7) w6 (w6.setCell ⟨b7, 2, none⟩ v') := Chg.setCell (S := fun k => k = b7) (p := ⟨b7, 2, none⟩) (Chg.refl _ w6) rfl v'
  have d6 : Chg (fun k => w.heap.size ≤ k) wr w6 := c6.mono fun k _ e => (h.fin.lt k e).1
  have d7 : Chg (fun k => w.heap.size ≤ k) w6 (w6.setCell ⟨b7, 2, none⟩ v') := c7.mono fun k _ e => by omega
  refine ⟨h7, ⟨h.ext.trans ((d6.trans d7).below h.ext.size (fun k e => e)), (h.box.chg c6 b0n).chg c7 (by omega), (h.res.chg c6 b1n).chg c7 (by omega), h7.set 2 _, ?_, ?_, hlt⟩⟩
  · refine (h.syms.chg c6 (fun k e e' => ?_)).chg c7 (fun k e e' => ?_)
    · obtain ⟨_, hb⟩ := nb _ e'; obtain ⟨_, hc⟩ := own_block h.syms e; exact ne_of_blk hc hb (by decide) rfl
    · obtain ⟨_, hc⟩ := own_block h.syms e; exact ne_of_blk h.dfa hc (by decide) e'.symm
  · refine hO.chg c7 (fun k e e' => ?_)
    rw [hvo] at e
    have hgk : g = k := by simpa using e
    rcases hl with e2 | e2
    · exact b7n (by rw [e2, hgk, e'])
    · have := h.dfa.lt; omega

set_option maxRecDepth 100000 in
set_option maxHeartbeats 4000000 in
theorem auto_sta {w : World} {vK vN vF vS : Value} {us : List Value} {ks : List Sta} {fr : List (Nat × Nat)} {syms : List ByteArray} (hK : ReadR w 17 staC vK ks) (hN : ReadR w 1 oneA vN us) (hF : ReadR w 2 stepA vF fr) (hS : ReadR w 1 strC vS syms) (hk1 : ks.length ≤ 1000) (hs1 : syms.length ≤ 1000)
    {f : FuncId} {bs caps : Array Value} (hE : Enters Tryz.prog f) (p : Sta → Bool) (hf : ∀ k w', k ∈ ks → Ext w w' → Calls Tryz.prog f (bs ++ #[.agg (staC k)] ++ caps) w' fun e w'' => e = .returned (.bool (p k)) ∧ Ext w' w'') :
    Calls Tryz.prog 77 #[.agg #[vK, vN, vF], vS, .func (.func f) bs caps] w (AutoPost syms vN (ks.map p) w) := by
  obtain ⟨aoK, cK, rfl, hK2⟩ := hK.form
  obtain ⟨aoN, cN, rfl, -⟩ := hN.form
  obtain ⟨aoF, cF, rfl, -⟩ := hF.form
  obtain ⟨aoS, cS, rfl, -⟩ := hS.form
  obtain ⟨n, hn⟩ : ∃ n, n = ks.length := ⟨_, rfl⟩
  rw [← hn] at hK2 hk1 ⊢
  have HK := hid hK
  rw [← hn] at HK
  have HS := hid hS
  have HF := hid hf
  have HEN := hid hE
  have HNN := hid hn
  have HCL : ∀ W : World, Ext w W → Calls Tryz.prog 42 #[.slice aoS syms.length cS] W (ClonePost 9 strC syms W) := fun W e => clone_str (hS.ext e) (by omega)
  have HCLN := hid HCL
  clear hK hN hF hS hf hE hn HCL
  go_enter Tryz.func77, Tryz.ntmps77
  go_upto_region 1 with fail
  go_cut [7] from 8 (fun u7 wx => ∃ b7 vS', u7 = .pointer (some ⟨b7, 0, none⟩) ∧ Hid (AutoW w wx (.slice aoK n cK) (.slice aoN us.length cN) (.slice aoF fr.length cF) vS' (.slice none 0 0) 118 b7 syms []))
  case first =>
    obtain ⟨W1, hW1⟩ : ∃ u, u = ((w.alloc (.cells #[.slice aoK n cK, .slice aoN us.length cN, .slice aoF fr.length cF] 118)).alloc (.cells #[.slice none 0 0, .slice none 0 0, .slice none 0 0] 26)) := ⟨_, rfl⟩
    rw [← hW1]
    have eW : Ext w W1 := hW1 ▸ ((Below.refl _ _).alloc (Nat.le_refl _) _).alloc (by simp) _
    have HB1 : Hid (Blk W1 w.heap.size 118 #[.slice aoK n cK, .slice aoN us.length cN, .slice aoF fr.length cF]) := hid (hW1 ▸ (Blk.new _ _ _).alloc _)
    have HB2 : Hid (Blk W1 (w.heap.size + 1) 26 #[.slice none 0 0, .slice none 0 0, .slice none 0 0]) := hid (hW1 ▸ Blk.new' _ _ _ (by simp))
    have HW1 := hid eW
    have c1 : W1.cell? ⟨w.heap.size, 1, none⟩ = some (.slice aoN us.length cN) := HB1.out.cell rfl
    have l1 := HB1.out.lt
    have l2 := HB2.out.lt
    have hS0 : Ext W1 W1.drew := (Below.refl _ _).drew
    clear eW hW1
    refine wp_region_heldL (Ext W1) (by kernel_rfl) ?_
    refine wpAnyH_takeK 0 6 #[true, false, false, false, false, false, false] rfl (by kernel_rfl) rfl (.slice aoS syms.length cS) (fun _ _ _ h => h) (Or.inl ⟨rfl, fun w' hS => ?_⟩) hS0 ?_
    · go_simp <;> with_reducible rfl
    refine wpAnyH_takeK 2 5 #[true, false, true, false, false, false, false] rfl (by kernel_rfl) rfl (.pointer (some ⟨w.heap.size, 1, none⟩)) (fun _ _ _ h => h) (Or.inl ⟨rfl, fun w' hS => ?_⟩) hS0 ?_
    · go_simp <;> with_reducible rfl
    refine wpAnyH_takeK 3 4 #[true, false, true, true, false, false, false] rfl (by kernel_rfl) rfl (.slice aoN us.length cN) (fun _ _ _ h => h) (Or.inl ⟨rfl, fun w' hS => ?_⟩) hS0 ?_
    · have c2 := (hS.cell (p := ⟨w.heap.size, 1, none⟩) l1).trans c1; go_simp <;> with_reducible rfl
    refine wpAnyH_two 1 5 3 #[true, true, true, true, false, false, false] #[true, false, true, true, false, true, false] rfl rfl (by kernel_rfl) rfl ?_ ?_
    · go_wp2_with fail
      refine (HCLN.out _ (HW1.out.trans (hS0.mono HW1.out.size))).mono ?_
      rintro e w4 ⟨hx4, vS', rfl, hO⟩
      obtain ⟨aoC, cC, rfl, -⟩ := (OwnR.read hO strC_size).form
      have hS4 : Ext W1 w4 := hS0.trans (hx4.mono (by simp))
      have HO := hid (hO.lower (b := w.heap.size) (by have := HW1.out.size; simpa using this))
      have HS4 := hid hS4
      clear hO hx4
      go_wp2_with fail
      refine ⟨hS4, ?_⟩
      refine wpAnyH_takeK 4 2 #[true, true, true, true, true, false, false] rfl (by kernel_rfl) rfl (.agg #[.slice aoC syms.length cC, .slice aoN us.length cN, .slice none 0 0]) (fun _ _ _ h => h) (Or.inl ⟨rfl, fun w' hS => ?_⟩) hS4 ?_
      · go_simp <;> with_reducible rfl
      refine wpAnyH_one 5 1 #[true, true, true, true, true, true, false] rfl (by kernel_rfl) rfl ?_
      go_wp2_with fail
      refine ⟨hS4.alloc hS4.size _, ?_⟩
      refine wpAnyH_one 6 0 #[true, true, true, true, true, true, true] rfl (by kernel_rfl) rfl ?_
      go_wp2_with fail
      refine ⟨hS4.alloc hS4.size _, ?_⟩
      refine wpAnyH_end (P := Tryz.prog) (by kernel_rfl) ?_
      go_wp2_with fail
      go_meet
      refine ⟨_, .slice aoC syms.length cC, rfl, hid ⟨(HW1.out.trans (hS4.mono HW1.out.size)).alloc (HW1.out.trans (hS4.mono HW1.out.size)).size _, (HB1.out.ext hS4).alloc _, (HB2.out.ext hS4).alloc _, Blk.new _ _ _, HO.out.alloc _, OwnR.nil _ _ _ _ _, by have := hS4.size; omega⟩⟩
    · go_wp2_with fail
      have hS3 : Ext W1 (W1.drew.alloc (.cells #[.slice none 0 0, .slice none 0 0, .slice none 0 0] 26)) := hS0.alloc (by simp) _
      refine ⟨hS3, ?_⟩
      refine wpAnyH_one 1 2 #[true, true, true, true, false, true, false] rfl (by kernel_rfl) rfl ?_
      go_wp2_with fail
      refine (HCLN.out _ (HW1.out.trans (hS3.mono HW1.out.size))).mono ?_
      rintro e w4 ⟨hx4, vS', rfl, hO⟩
      obtain ⟨aoC, cC, rfl, -⟩ := (OwnR.read hO strC_size).form
      have hS4 : Ext W1 w4 := hS3.trans (hx4.mono (by simp))
      have hB4 : Blk w4 W1.heap.size 26 #[.slice none 0 0, .slice none 0 0, .slice none 0 0] := (Blk.new' _ _ _ (by simp)).ext hx4
      have HO := hid (hO.lower (b := w.heap.size) (by have := HW1.out.size; have := hS3.size; omega))
      have HB4 := hid hB4
      have d0 : w4.cell? ⟨W1.heap.size, 0, none⟩ = some (.slice none 0 0) := hB4.cell rfl
      have d1 : w4.cell? ⟨W1.heap.size, 1, none⟩ = some (.slice none 0 0) := hB4.cell rfl
      have d2 : w4.cell? ⟨W1.heap.size, 2, none⟩ = some (.slice none 0 0) := hB4.cell rfl
      have df := hB4.frozen
      have dl := hB4.lt
      have hso : ∀ g, (Value.slice aoC syms.length cC).ownBlock = some g → ¬ g = W1.heap.size := fun g e e2 => by obtain ⟨_, hb⟩ := own_block hO e; exact ne_of_blk hB4 hb (by decide) e2.symm
      have HSO := hid hso
      clear hO hx4 hB4 hso
      go_wp2_with fail
      refine ⟨hS4, ?_⟩
      refine wpAnyH_takeK 4 1 #[true, true, true, true, true, true, false] rfl (by kernel_rfl) rfl (.agg #[.slice aoC syms.length cC, .slice aoN us.length cN, .slice none 0 0]) (fun _ _ _ h => h) (Or.inl ⟨rfl, fun w' hS => ?_⟩) hS4 ?_
      · go_simp <;> with_reducible rfl
      refine wpAnyH_one 6 0 #[true, true, true, true, true, true, true] rfl (by kernel_rfl) rfl ?_
      go_wp2_with fail
      have cc : Chg (fun k => k = W1.heap.size) w4 (((w4.setCell ⟨W1.heap.size, 0, none⟩ (.slice aoC syms.length cC)).setCell ⟨W1.heap.size, 1, none⟩ (.slice aoN us.length cN)).setCell ⟨W1.heap.size, 2, none⟩ (.slice none 0 0)) :=
        Chg.setCell (p := ⟨W1.heap.size, 2, none⟩) (S := fun k => k = W1.heap.size) (Chg.setCell (p := ⟨W1.heap.size, 1, none⟩) (S := fun k => k = W1.heap.size) (Chg.setCell (p := ⟨W1.heap.size, 0, none⟩) (S := fun k => k = W1.heap.size) (Chg.refl _ w4) rfl (.slice aoC syms.length cC)) rfl (.slice aoN us.length cN)) rfl (.slice none 0 0)
      have hS5 := hS4.trans (cc.below (B := W1.heap.size) (by omega) (fun k e => by omega))
      refine ⟨hS5, ?_⟩
      refine wpAnyH_end (P := Tryz.prog) (by kernel_rfl) ?_
      go_wp2_with fail
      go_meet
      refine ⟨_, .slice aoC syms.length cC, rfl, hid ⟨HW1.out.trans (hS5.mono HW1.out.size), HB1.out.ext hS5, HB2.out.ext hS5, ?_, HO.out.chg cc HSO.out, OwnR.nil _ _ _ _ _, l2⟩⟩
      exact ((HB4.out.set 0 _).set 1 _).set 2 _
  case rest =>
    obtain ⟨b7, vS', rfl, HA⟩ := hcut
    have e0 : wc.cell? ⟨w.heap.size, 0, none⟩ = some (.slice aoK n cK) := HA.out.box.cell rfl
    have l0 := HA.out.box.lt
    go_wp2_with fail
    go_loopg [18] n (fun g u wr => ∃ j vFin, g = n - j ∧ j ≤ n ∧ u = .int .i64 j ∧ Hid (AutoW w wr (.slice aoK n cK) (.slice aoN us.length cN) (.slice aoF fr.length cF) vS' vFin 118 b7 syms ((ks.take j).map p)))
    case atStart => exact ⟨0, _, rfl, Nat.zero_le _, rfl, by simpa using HA⟩
    case round =>
      clear HA e0 l0
      obtain ⟨j, vFin, rfl, hj, rfl, HW⟩ := hrel
      obtain ⟨fs, hfs⟩ : ∃ fs, fs = (ks.take j).map p := ⟨_, rfl⟩
      rw [← hfs] at HW
      have hfl : fs.length ≤ 1000 := by rw [hfs]; simp; omega
      have HFS := hid hfs
      clear hfs
      by_cases hlt : j < n
      · obtain ⟨gK, oK, rfl⟩ := hK2 (by omega)
        obtain ⟨k, hk⟩ : ∃ k, ks[j]? = some k := ⟨_, List.getElem?_eq_getElem (by rw [← HNN.out]; exact hlt)⟩
        have HC1 : Hid (∀ e, e < 17 → wr.cell? ⟨gK, oK + j * 17 + e, none⟩ = (staC k)[e]?) := hid fun e he => by
          have h1 := HK.out.ext HW.out.ext
          rw [HNN.out] at h1
          have h := h1.cell hk (k := e) he
          rwa [show oK + (j * 17 + e) = oK + j * 17 + e by omega] at h
        have hgK : gK < wr.heap.size := by
          have h1 := HK.out.ext HW.out.ext
          rw [HNN.out] at h1
          exact h1.blk_lt (by rw [← HNN.out]; omega)
        have HKK := hid hk
        clear hk
        go_upto_region 5 with (first
          | (with_reducible show wpList _ _ _ ((⟨some 21, _, _, _, _, _⟩ : Oper) :: _) _ _
             go_loud (refine wpList_load_cells rfl 112 (.tmp 20) rfl gK (oK + j * 17) rfl (staC k) _ 17 HC1.out (staC_size _) Tryz.underlying112 rfl info112 ?_))
          | (with_reducible show wpList _ _ _ ((⟨some 9, _, _, _, _, _⟩ : Oper) :: _) _ _
             go_loud (refine wpList_alloc_aggN rfl 112 rfl _ zero112 ?_)
             intro Z HZ1
             have HZs : Hid (Z.size = 17) := hid (by rw [HZ1.out]; exact staC_size _)
             clear HZ1)
          | (with_reducible show wpList _ _ _ ((⟨_, Op.store _ (.tmp 9) _, _, _, _, _⟩ : Oper) :: _) _ _
             go_loud (refine wpList_store_last rfl 112 (.tmp 9) (.tmp 21) rfl wr.heap.size (staC k) rfl rfl 112 Z rfl (by rw [staC_size]; exact info112) (by rw [HZs.out, staC_size]) (ones_sta k) ?_)))
        obtain ⟨wz, hwz⟩ : ∃ u, u = wr.alloc (.cells (staC k) 112) := ⟨_, rfl⟩
        rw [← hwz]
        have HB9 : Hid (Blk wz wr.heap.size 112 (staC k)) := hid (hwz ▸ Blk.new _ _ _)
        have HWZ := hid (HW.out.ext' (hwz ▸ (Below.refl _ _).alloc (Nat.le_refl _) _ : Ext wr wz))
        obtain ⟨b9, hb9⟩ : ∃ n, n = wr.heap.size := ⟨_, rfl⟩
        rw [← hb9] at HB9 ⊢
        have hmem := hid (List.mem_of_getElem? HKK.out)
        have z2 : wz.cell? ⟨b7, 2, none⟩ = some vFin := HWZ.out.dfa.cell rfl
        have zl := HWZ.out.dfa.lt
        have hS0 : Blk wz.drew b9 112 (staC k) := HB9.out.drew
        have HCALL := hid (HF.out k wz.drew hmem.out (HWZ.out.ext.drew))
        clear hwz hb9 HW HC1 hgK
        refine wp_region_heldL (fun w' => Blk w' b9 112 (staC k)) (by kernel_rfl) ?_
        refine wpAnyH_takeK 0 8 #[true, false, false, false, false, false, false, false, false] rfl (by kernel_rfl) rfl (.pointer (some ⟨b7, 2, none⟩)) (fun _ _ _ h => h) (Or.inl ⟨rfl, fun w' hS => ?_⟩) hS0 ?_
        · go_simp <;> with_reducible rfl
        refine wpAnyH_takeK 2 7 #[true, false, true, false, false, false, false, false, false] rfl (by kernel_rfl) rfl (.func (.func f) bs caps) (fun _ _ _ h => h) (Or.inl ⟨rfl, fun w' hS => ?_⟩) hS0 ?_
        · go_simp <;> with_reducible rfl
        refine wpAnyH_takeK 3 6 #[true, false, true, true, false, false, false, false, false] rfl (by kernel_rfl) rfl (.agg (staC k)) (fun _ _ _ h => h) (Or.inl ⟨rfl, fun w' hS => ?_⟩) hS0 ?_
        · exact exec_load_cells 112 (.tmp 9) rfl b9 0 rfl _ _ 17 (blk_cells hS (staC_size _)) (staC_size _) Tryz.underlying112 rfl info112
        refine wpAnyH_two 1 4 5 #[true, true, true, true, false, false, false, false, false] #[true, false, true, true, true, false, false, false, false] rfl rfl (by kernel_rfl) rfl ?_ ?_
        · go_wp2_with fail
          refine ⟨hS0, ?_⟩
          refine wpAnyH_one 4 4 #[true, true, true, true, true, false, false, false, false] rfl (by kernel_rfl) rfl ?_
          go_wp2_with (with_reducible show wpList _ _ _ ((⟨some 26, _, _, _, _, _⟩ : Oper) :: _) _ _
                       go_loud (refine wpList_callb (args := #[.agg (staC k)]) rfl (.tmp 24) #[.tmp 25] #[112] rfl HEN.out rfl rfl HCALL.out ?_)
                       rintro e w4 ⟨rfl, hx⟩
                       refine ⟨_, rfl, ?_⟩
                       have hE4 : Ext wz w4 := (Below.refl wz.heap.size wz).drew.trans (hx.mono (by simp))
                       have HE4 := hid hE4
                       clear hx hE4)
          refine ⟨HB9.out.ext HE4.out, ?_⟩
          refine wpAnyH_one 5 3 #[true, true, true, true, true, true, false, false, false] rfl (by kernel_rfl) rfl ?_
          go_wp2_with fail
          refine ⟨(HB9.out.ext HE4.out).alloc _, ?_⟩
          have HW4 := hid (HWZ.out.ext' HE4.out)
          have HOW4 := hid HW4.out.fin
          have hsz4 := HW4.out.ext.size
          have hln : fs.length + 1 ≤ 1000000000 := by omega
          refine wpAnyH_one 6 2 #[true, true, true, true, true, true, true, false, false] rfl (by kernel_rfl) rfl ?_
          go_wp2_with (with_reducible show wpList _ _ _ ((⟨some 28, _, _, _, _, _⟩ : Oper) :: _) _ _
                       go_loud (refine wpList_append_R elem_bool (fun _ => rfl) ones_bool HOW4 hsz4 hln (p k) _ rfl w4.heap.size rfl rfl _ _ rfl rfl rfl ?_)
                       rintro g' c' v' w6 rfl G1 G2)
          have P6 := HW4.out.app (by decide) rfl G1.out G2.out.1 G2.out.2
          have y2 : w6.cell? ⟨b7, 2, none⟩ = some vFin := P6.1.cell rfl
          have yf := P6.1.frozen
          have yl := P6.1.lt
          have b9n : ¬ vFin.ownBlock = some b9 := fun e => by obtain ⟨_, hb⟩ := own_block HOW4.out e; exact ne_of_blk (HB9.out.ext HE4.out) hb (by decide) rfl
          have h9 : Blk w6 b9 112 (staC k) := (HB9.out.ext HE4.out).chg ((Chg.refl (fun q => vFin.ownBlock = some q) w4).grown G2.out.1 (fun q e => e)) b9n
          have hne : b7 ≠ b9 := ne_of_blk P6.1 h9 (by decide)
          have HP6 := hid P6.2
          have H9 := hid h9
          clear P6 h9
          refine ⟨H9.out, ?_⟩
          refine wpAnyH_one 7 1 #[true, true, true, true, true, true, true, true, false] rfl (by kernel_rfl) rfl ?_
          go_wp2_with fail
          refine ⟨H9.out, ?_⟩
          refine wpAnyH_one 8 0 #[true, true, true, true, true, true, true, true, true] rfl (by kernel_rfl) rfl ?_
          go_wp2_with fail
          refine ⟨H9.out.setOther (a := ⟨b7, 2, none⟩) hne _, ?_⟩
          refine wpAnyH_end (P := Tryz.prog) (by kernel_rfl) ?_
          go_wp2_with fail
          go_roundg (n - (j + 1))
          case measure => omega
          case rel =>
            refine ⟨j + 1, .slice (some ⟨g', 0, none⟩) (fs.length + 1) c', rfl, by omega, by go_num, ?_⟩
            have e1 : (ks.take (j + 1)).map p = (ks.take j).map p ++ [p k] := by
              obtain ⟨h2, h3⟩ := List.getElem?_eq_some_iff.1 HKK.out
              rw [List.take_succ_eq_append_getElem h2, List.map_append, h3]; rfl
            rw [e1, ← HFS.out]
            exact HP6
        · go_wp2_with (with_reducible show wpList _ _ _ ((⟨some 26, _, _, _, _, _⟩ : Oper) :: _) _ _
                       go_loud (refine wpList_callb (args := #[.agg (staC k)]) rfl (.tmp 24) #[.tmp 25] #[112] rfl HEN.out rfl rfl HCALL.out ?_)
                       rintro e w4 ⟨rfl, hx⟩
                       refine ⟨_, rfl, ?_⟩
                       have hE4 : Ext wz w4 := (Below.refl wz.heap.size wz).drew.trans (hx.mono (by simp))
                       have HE4 := hid hE4
                       clear hx hE4)
          have z4 : w4.cell? ⟨b7, 2, none⟩ = some vFin := (HWZ.out.dfa.ext HE4.out).cell rfl
          have zl4 := (HWZ.out.dfa.ext HE4.out).lt
          refine ⟨HB9.out.ext HE4.out, ?_⟩
          refine wpAnyH_two 1 5 4 #[true, true, true, true, true, false, false, false, false] #[true, false, true, true, true, true, false, false, false] rfl rfl (by kernel_rfl) rfl ?_ ?_
          · go_wp2_with fail
            refine ⟨HB9.out.ext HE4.out, ?_⟩
            refine wpAnyH_one 5 3 #[true, true, true, true, true, true, false, false, false] rfl (by kernel_rfl) rfl ?_
            go_wp2_with fail
            refine ⟨(HB9.out.ext HE4.out).alloc _, ?_⟩
            have HW4 := hid (HWZ.out.ext' HE4.out)
            have HOW4 := hid HW4.out.fin
            have hsz4 := HW4.out.ext.size
            have hln : fs.length + 1 ≤ 1000000000 := by omega
            refine wpAnyH_one 6 2 #[true, true, true, true, true, true, true, false, false] rfl (by kernel_rfl) rfl ?_
            go_wp2_with (with_reducible show wpList _ _ _ ((⟨some 28, _, _, _, _, _⟩ : Oper) :: _) _ _
                         go_loud (refine wpList_append_R elem_bool (fun _ => rfl) ones_bool HOW4 hsz4 hln (p k) _ rfl w4.heap.size rfl rfl _ _ rfl rfl rfl ?_)
                         rintro g' c' v' w6 rfl G1 G2)
            have P6 := HW4.out.app (by decide) rfl G1.out G2.out.1 G2.out.2
            have y2 : w6.cell? ⟨b7, 2, none⟩ = some vFin := P6.1.cell rfl
            have yf := P6.1.frozen
            have yl := P6.1.lt
            have b9n : ¬ vFin.ownBlock = some b9 := fun e => by obtain ⟨_, hb⟩ := own_block HOW4.out e; exact ne_of_blk (HB9.out.ext HE4.out) hb (by decide) rfl
            have h9 : Blk w6 b9 112 (staC k) := (HB9.out.ext HE4.out).chg ((Chg.refl (fun q => vFin.ownBlock = some q) w4).grown G2.out.1 (fun q e => e)) b9n
            have hne : b7 ≠ b9 := ne_of_blk P6.1 h9 (by decide)
            have HP6 := hid P6.2
            have H9 := hid h9
            clear P6 h9
            refine ⟨H9.out, ?_⟩
            refine wpAnyH_one 7 1 #[true, true, true, true, true, true, true, true, false] rfl (by kernel_rfl) rfl ?_
            go_wp2_with fail
            refine ⟨H9.out, ?_⟩
            refine wpAnyH_one 8 0 #[true, true, true, true, true, true, true, true, true] rfl (by kernel_rfl) rfl ?_
            go_wp2_with fail
            refine ⟨H9.out.setOther (a := ⟨b7, 2, none⟩) hne _, ?_⟩
            refine wpAnyH_end (P := Tryz.prog) (by kernel_rfl) ?_
            go_wp2_with fail
            go_roundg (n - (j + 1))
            case measure => omega
            case rel =>
              refine ⟨j + 1, .slice (some ⟨g', 0, none⟩) (fs.length + 1) c', rfl, by omega, by go_num, ?_⟩
              have e1 : (ks.take (j + 1)).map p = (ks.take j).map p ++ [p k] := by
                obtain ⟨h2, h3⟩ := List.getElem?_eq_some_iff.1 HKK.out
                rw [List.take_succ_eq_append_getElem h2, List.map_append, h3]; rfl
              rw [e1, ← HFS.out]
              exact HP6
          · go_wp2_with fail
            refine ⟨(HB9.out.ext HE4.out).alloc _, ?_⟩
            refine wpAnyH_one 1 3 #[true, true, true, true, true, true, false, false, false] rfl (by kernel_rfl) rfl ?_
            go_wp2_with fail
            refine ⟨(HB9.out.ext HE4.out).alloc _, ?_⟩
            have HW4 := hid (HWZ.out.ext' HE4.out)
            have HOW4 := hid HW4.out.fin
            have hsz4 := HW4.out.ext.size
            have hln : fs.length + 1 ≤ 1000000000 := by omega
            refine wpAnyH_one 6 2 #[true, true, true, true, true, true, true, false, false] rfl (by kernel_rfl) rfl ?_
            go_wp2_with (with_reducible show wpList _ _ _ ((⟨some 28, _, _, _, _, _⟩ : Oper) :: _) _ _
                         go_loud (refine wpList_append_R elem_bool (fun _ => rfl) ones_bool HOW4 hsz4 hln (p k) _ rfl w4.heap.size rfl rfl _ _ rfl rfl rfl ?_)
                         rintro g' c' v' w6 rfl G1 G2)
            have P6 := HW4.out.app (by decide) rfl G1.out G2.out.1 G2.out.2
            have y2 : w6.cell? ⟨b7, 2, none⟩ = some vFin := P6.1.cell rfl
            have yf := P6.1.frozen
            have yl := P6.1.lt
            have b9n : ¬ vFin.ownBlock = some b9 := fun e => by obtain ⟨_, hb⟩ := own_block HOW4.out e; exact ne_of_blk (HB9.out.ext HE4.out) hb (by decide) rfl
            have h9 : Blk w6 b9 112 (staC k) := (HB9.out.ext HE4.out).chg ((Chg.refl (fun q => vFin.ownBlock = some q) w4).grown G2.out.1 (fun q e => e)) b9n
            have hne : b7 ≠ b9 := ne_of_blk P6.1 h9 (by decide)
            have HP6 := hid P6.2
            have H9 := hid h9
            clear P6 h9
            refine ⟨H9.out, ?_⟩
            refine wpAnyH_one 7 1 #[true, true, true, true, true, true, true, true, false] rfl (by kernel_rfl) rfl ?_
            go_wp2_with fail
            refine ⟨H9.out, ?_⟩
            refine wpAnyH_one 8 0 #[true, true, true, true, true, true, true, true, true] rfl (by kernel_rfl) rfl ?_
            go_wp2_with fail
            refine ⟨H9.out.setOther (a := ⟨b7, 2, none⟩) hne _, ?_⟩
            refine wpAnyH_end (P := Tryz.prog) (by kernel_rfl) ?_
            go_wp2_with fail
            go_roundg (n - (j + 1))
            case measure => omega
            case rel =>
              refine ⟨j + 1, .slice (some ⟨g', 0, none⟩) (fs.length + 1) c', rfl, by omega, by go_num, ?_⟩
              have e1 : (ks.take (j + 1)).map p = (ks.take j).map p ++ [p k] := by
                obtain ⟨h2, h3⟩ := List.getElem?_eq_some_iff.1 HKK.out
                rw [List.take_succ_eq_append_getElem h2, List.map_append, h3]; rfl
              rw [e1, ← HFS.out]
              exact HP6
      · have h0 := HW.out.dfa
        have r0 := HW.out.res
        obtain ⟨aoC, cC, rfl, -⟩ := (OwnR.read HW.out.syms strC_size).form
        obtain ⟨aoG, cG, rfl, -⟩ := (OwnR.read HW.out.fin (fun _ => rfl)).form
        have k0 : wr.cell? ⟨b7, 0, none⟩ = some (.slice aoC syms.length cC) := h0.cell rfl
        have k1 : wr.cell? ⟨b7, 1, none⟩ = some (.slice aoN us.length cN) := h0.cell rfl
        have k2 : wr.cell? ⟨b7, 2, none⟩ = some (.slice aoG fs.length cG) := h0.cell rfl
        have kl := h0.lt
        have q0 : wr.cell? ⟨w.heap.size + 1, 0, none⟩ = some (.slice none 0 0) := r0.cell rfl
        have q1 : wr.cell? ⟨w.heap.size + 1, 1, none⟩ = some (.slice none 0 0) := r0.cell rfl
        have q2 : wr.cell? ⟨w.heap.size + 1, 2, none⟩ = some (.slice none 0 0) := r0.cell rfl
        have qf := r0.frozen
        have ql := r0.lt
        have HR0 := hid r0
        clear h0 r0
        go_wp2_with fail
        have h3 : Blk (((wr.setCell ⟨w.heap.size + 1, 0, none⟩ (.slice aoC syms.length cC)).setCell ⟨w.heap.size + 1, 1, none⟩ (.slice aoN us.length cN)).setCell ⟨w.heap.size + 1, 2, none⟩ (.slice aoG fs.length cG)) (w.heap.size + 1) 26 #[.slice aoC syms.length cC, .slice aoN us.length cN, .slice aoG fs.length cG] := ((HR0.out.set 0 _).set 1 _).set 2 _
        have cc : Chg (fun k => k = w.heap.size + 1) wr (((wr.setCell ⟨w.heap.size + 1, 0, none⟩ (.slice aoC syms.length cC)).setCell ⟨w.heap.size + 1, 1, none⟩ (.slice aoN us.length cN)).setCell ⟨w.heap.size + 1, 2, none⟩ (.slice aoG fs.length cG)) :=
          Chg.setCell (p := ⟨w.heap.size + 1, 2, none⟩) (S := fun k => k = w.heap.size + 1) (Chg.setCell (p := ⟨w.heap.size + 1, 1, none⟩) (S := fun k => k = w.heap.size + 1) (Chg.setCell (p := ⟨w.heap.size + 1, 0, none⟩) (S := fun k => k = w.heap.size + 1) (Chg.refl _ wr) rfl (.slice aoC syms.length cC)) rfl (.slice aoN us.length cN)) rfl (.slice aoG fs.length cG)
        refine bodyPost_ret (v := .agg #[.slice aoC syms.length cC, .slice aoN us.length cN, .slice aoG fs.length cG]) (results_cell_agg Tryz.results77 _ _ (w.heap.size + 1) 26 #[.slice aoC syms.length cC, .slice aoN us.length cN, .slice aoG fs.length cG] _ rfl h3 Tryz.underlying26 rfl (by kernel_rfl)) rfl ?_
        have d7 : Chg (fun k => w.heap.size ≤ k) wr _ := cc.mono fun k _ e => by omega
        have hX : Ext w _ := HW.out.ext.trans (d7.below HW.out.ext.size (fun k e => e))
        have hfs : fs = ks.map p := by rw [HFS.out, List.take_of_length_le (by rw [← HNN.out]; omega)]
        refine ⟨hX, _, _, rfl, HW.out.syms.chg cc fun g e e' => ?_, ?_⟩
        · obtain ⟨_, hb⟩ := own_block HW.out.syms e
          exact ne_of_blk HR0.out hb (by decide) e'.symm
        · rw [← hfs]
          refine HW.out.fin.chg cc fun g e e' => ?_
          obtain ⟨_, hb⟩ := own_block HW.out.fin e
          exact ne_of_blk HR0.out hb (by decide) e'.symm
end Go.Proofs.YtngpjagpeblbjaaGreatDoor
namespace Go.Proofs.YtngpjagpeblbjaaGreatDoor
open Go.RowKit Go.Spy Go.Heaped Go.Tour Go.Rx

/-- Words of which there are no more than fit, none longer than fits. -/
structure MildS (l : List ByteArray) : Prop where
  len : l.length ≤ 140737488351232
  size : ∀ s ∈ l, s.size ≤ 9223372036854775807
theorem strs_of_read {w : World} {v : Value} {l : List ByteArray} (h : ReadR w 1 strC v l) (hl : MildS l) : ∃ ao c, v = .slice ao l.length c ∧ StrsV w ao c l := by
  obtain ⟨ao, c, rfl, h⟩ := h
  refine ⟨ao, c, rfl, hl.len, fun i hi => hl.size _ (List.getElem_mem hi), fun h0 => ?_⟩
  rcases h with h | ⟨g, off, rfl, hg, hc⟩
  · omega
  · exact ⟨g, off, rfl, hg, fun i hi => by have := hc i 0 l[i] (List.getElem?_eq_getElem hi) (by decide); simpa [strC] using this⟩
theorem read_of_strs {w : World} {ao : Option Addr} {c : Nat} {l : List ByteArray} (h : StrsV w ao c l) : ReadR w 1 strC (.slice ao l.length c) l := by
  refine ⟨ao, c, rfl, ?_⟩
  rcases Nat.eq_zero_or_pos l.length with h0 | h0
  · exact .inl h0
  · obtain ⟨b, off, rfl, hb, hc⟩ := h.cells h0
    refine .inr ⟨b, off, rfl, hb, fun j k x hx hk => ?_⟩
    obtain rfl : k = 0 := by omega
    obtain ⟨hj, rfl⟩ := List.getElem?_eq_some_iff.1 hx
    rw [Nat.mul_one, Nat.add_zero]
    exact hc j hj
theorem strs_mild {w : World} {ao : Option Addr} {c : Nat} {l : List ByteArray} (h : StrsV w ao c l) : MildS l := ⟨h.len, fun s hs => by
  obtain ⟨i, hi, rfl⟩ := List.getElem_of_mem hs
  exact h.size i hi⟩
theorem texts_rd {us vs : List ByteArray} {w : World} {v1 v2 : Value} (h1 : ReadR w 1 strC v1 us) (h2 : ReadR w 1 strC v2 vs) (m1 : MildS us) (m2 : MildS vs) :
    Calls Tryz.prog 12 #[v1, v2] w fun e w' => e = .returned (.bool (decide (us = vs))) ∧ Ext w w' := by
  obtain ⟨a1, c1, rfl, s1⟩ := strs_of_read h1 m1
  obtain ⟨a2, c2, rfl, s2⟩ := strs_of_read h2 m2
  exact texts_any s1 s2

/-- Parts of an automaton of which there are no more than fit. -/
structure LenD (d : DR) : Prop where
  s : MildS d.syms
  n : d.next.length ≤ 140737488351232
  f : d.fin.length ≤ 140737488351232
  r : ∀ r ∈ d.next, r.length ≤ 9223372036854775807
def SmallD (d : DR) : Prop := (∀ r ∈ d.next, r.length ≤ 8) ∧ (∀ s ∈ d.syms, s.size ≤ 80) ∧ d.next.length ≤ 12 ∧ d.fin.length ≤ 12 ∧ d.syms.length ≤ 6
theorem SmallD.bnd {d : DR} (h : SmallD d) : BndD d := ⟨by have := h.2.2.2.2; omega, by have := h.2.2.1; omega, by have := h.2.2.2.1; omega, fun r hr => by have := h.1 r hr; omega, fun s hs => by have := h.2.1 s hs; omega⟩
def Small8Post (d : DR) (w : World) (e : Ending) (w' : World) : Prop := ∃ b, e = .returned (.bool b) ∧ (b = true ↔ SmallD d) ∧ Ext w w'

set_option maxRecDepth 100000 in
set_option maxHeartbeats 1000000 in
theorem small8_any {w : World} {v : Value} {d : DR} (hD : DfaV w v d) (hL : LenD d) : Calls Tryz.prog 10 #[v] w (Small8Post d w) := by
  obtain ⟨vS, vN, vF, us, rfl, hP⟩ := hD
  obtain ⟨aoS, cS, rfl, hS⟩ := hP.syms.form
  obtain ⟨aoN, cN, rfl, hN⟩ := hP.next.form
  obtain ⟨aoF, cF, rfl, hF⟩ := hP.fin.form
  obtain ⟨n1, hn1⟩ : ∃ n, n = d.syms.length := ⟨_, rfl⟩
  obtain ⟨n2, hn2⟩ : ∃ n, n = us.length := ⟨_, rfl⟩
  obtain ⟨n3, hn3⟩ : ∃ n, n = d.fin.length := ⟨_, rfl⟩
  have l1 : n1 ≤ 140737488351232 := hn1 ▸ hL.s.len
  have l2 : n2 ≤ 140737488351232 := by rw [hn2, hP.len]; exact hL.n
  have l3 : n3 ≤ 140737488351232 := hn3 ▸ hL.f
  have HP := hid hP
  have HL := hid hL
  have HN2 : Hid (n2 = d.next.length) := hid (by rw [hn2, hP.len])
  rw [← hn1] at hS HP ⊢
  rw [← hn2] at hN HP ⊢
  rw [← hn3] at HP ⊢
  have HN1 := hid hn1
  have HN3 := hid hn3
  have HS := hid hS
  have HN := hid hN
  obtain ⟨w1, hw1⟩ : ∃ u, u = w.alloc (.cells #[.slice aoS n1 cS, .slice aoN n2 cN, .slice aoF n3 cF] 26) := ⟨_, rfl⟩
  have HX : Hid (Ext w w1 ∧ Blk w1 w.heap.size 26 #[.slice aoS n1 cS, .slice aoN n2 cN, .slice aoF n3 cF]) := hid ⟨hw1 ▸ (Below.refl _ _).alloc (Nat.le_refl _) _, hw1 ▸ Blk.new _ _ _⟩
  have HW1 := hid hw1
  clear hP hL hS hN hF hn1 hn2 hn3 hw1
  go_enter Tryz.func10, Tryz.ntmps10
  go_wp2_with fail
  rw [← HW1.out]
  go_loopg [3] n2 (fun g i wr => ∃ k, g = n2 - k ∧ k ≤ n2 ∧ i = .int .i64 k ∧ Hid (Ext w wr ∧ Blk wr w.heap.size 26 #[.slice aoS n1 cS, .slice aoN n2 cN, .slice aoF n3 cF]) ∧ Hid (∀ (j : Nat) (r : List Int), j < k → d.next[j]? = some r → r.length ≤ 8))
  case atStart => exact ⟨0, rfl, Nat.zero_le _, rfl, HX, hid (fun j n h => absurd h (Nat.not_lt_zero j))⟩
  case round =>
    obtain ⟨k, rfl, hk, rfl, HE, HA⟩ := hrel
    have c0 : wr.cell? ⟨w.heap.size, 0, none⟩ = some (.slice aoS n1 cS) := HE.out.2.cell (i := 0) rfl
    have c1 : wr.cell? ⟨w.heap.size, 1, none⟩ = some (.slice aoN n2 cN) := HE.out.2.cell (i := 1) rfl
    have c2 : wr.cell? ⟨w.heap.size, 2, none⟩ = some (.slice aoF n3 cF) := HE.out.2.cell (i := 2) rfl
    have lb := HE.out.2.lt
    by_cases hlt : k < n2
    · obtain ⟨gN, oN, rfl⟩ := HN.out (by omega)
      obtain ⟨r, hr⟩ : ∃ r, d.next[k]? = some r := ⟨_, List.getElem?_eq_getElem (by rw [← HN2.out]; exact hlt)⟩
      obtain ⟨ao, c, hu, _⟩ := HP.out.row hr
      have hP' := HP.out.ext HE.out.1
      rw [HN2.out, ← HP.out.len] at hP'
      have c3 : wr.cell? ⟨gN, oN + k, none⟩ = some (.slice ao r.length c) := hP'.next.cell1 hu
      have hrl := HL.out.r r (List.mem_of_getElem? hr)
      have HR := hid hr
      obtain ⟨rl, hrl2⟩ : ∃ n, n = r.length := ⟨_, rfl⟩
      rw [← hrl2] at c3 hrl
      have HRL := hid hrl2
      clear hr hu hP' hrl2
      by_cases h8 : rl ≤ 8
      · have h8' : ¬ 8 < rl := by omega
        go_wp2_with fail
        go_roundg (n2 - (k + 1))
        case measure => omega
        case rel =>
          refine ⟨k + 1, rfl, by omega, by go_num, HE, hid fun j m hj hm => ?_⟩
          by_cases e : j = k
          · subst e; rw [HR.out] at hm; cases hm; rw [← HRL.out]; exact h8
          · exact HA.out j m (by omega) hm
      · have h8' : 8 < rl := by omega
        go_wp2_with fail
        go_ret
        exact ⟨_, rfl, ⟨fun h => (by cases h), fun h => (h8 (by rw [HRL.out]; exact h.1 r (List.mem_of_getElem? HR.out))).elim⟩, HE.out.1⟩
    · obtain rfl : n2 = k := by omega
      have HA1 : Hid (∀ r ∈ d.next, r.length ≤ 8) := hid fun r hr => by
        obtain ⟨j, hj⟩ := List.getElem?_of_mem hr
        exact HA.out j r (by rw [HN2.out]; exact (List.getElem?_eq_some_iff.1 hj).1) hj
      go_wp2_with fail
      obtain ⟨wa, hwa⟩ : ∃ x, x = wr := ⟨_, rfl⟩
      subst hwa
      go_loopg [4] n1 (fun g i wr => ∃ k, g = n1 - k ∧ k ≤ n1 ∧ i = .int .i64 k ∧ Hid (Ext w wr ∧ Blk wr w.heap.size 26 #[.slice aoS n1 cS, .slice aoN n2 cN, .slice aoF n3 cF]) ∧ Hid (∀ (j : Nat) (s : ByteArray), j < k → d.syms[j]? = some s → s.size ≤ 80))
      case atStart => exact ⟨0, rfl, Nat.zero_le _, rfl, HE, hid (fun j n h => absurd h (Nat.not_lt_zero j))⟩
      case round =>
        obtain ⟨k, rfl, hk, rfl, HE, HA⟩ := hrel
        clear c0 c1 c2 lb
        have c0 : wr.cell? ⟨w.heap.size, 0, none⟩ = some (.slice aoS n1 cS) := HE.out.2.cell (i := 0) rfl
        have c1 : wr.cell? ⟨w.heap.size, 1, none⟩ = some (.slice aoN n2 cN) := HE.out.2.cell (i := 1) rfl
        have c2 : wr.cell? ⟨w.heap.size, 2, none⟩ = some (.slice aoF n3 cF) := HE.out.2.cell (i := 2) rfl
        have lb := HE.out.2.lt
        by_cases hlt : k < n1
        · obtain ⟨gS, oS, rfl⟩ := HS.out (by omega)
          obtain ⟨s, hs⟩ : ∃ s, d.syms[k]? = some s := ⟨_, List.getElem?_eq_getElem (by rw [← HN1.out]; exact hlt)⟩
          have hP' := (HP.out.ext HE.out.1).syms
          rw [HN1.out] at hP'
          have c3 : wr.cell? ⟨gS, oS + k, none⟩ = some (.string s) := hP'.cell1 hs
          have hsz := HL.out.s.size s (List.mem_of_getElem? hs)
          have HSS := hid hs
          clear hs hP'
          by_cases h80 : s.size ≤ 80
          · have h80' : ¬ 80 < s.size := by omega
            go_wp2_with fail
            go_roundg (n1 - (k + 1))
            case measure => omega
            case rel =>
              refine ⟨k + 1, rfl, by omega, by go_num, HE, hid fun j m hj hm => ?_⟩
              by_cases e : j = k
              · subst e; rw [HSS.out] at hm; cases hm; exact h80
              · exact HA.out j m (by omega) hm
          · have h80' : 80 < s.size := by omega
            go_wp2_with fail
            go_ret
            exact ⟨_, rfl, ⟨fun h => (by cases h), fun h => (h80 (h.2.1 s (List.mem_of_getElem? HSS.out))).elim⟩, HE.out.1⟩
        · obtain rfl : n1 = k := by omega
          have HA2 : Hid (∀ s ∈ d.syms, s.size ≤ 80) := hid fun s hs => by
            obtain ⟨j, hj⟩ := List.getElem?_of_mem hs
            exact HA.out j s (by rw [HN1.out]; exact (List.getElem?_eq_some_iff.1 hj).1) hj
          by_cases q2 : n2 ≤ 12
          · have t2 : decide ((n2 : Int) ≤ 12) = true := decide_eq_true (by omega)
            by_cases q3 : n3 ≤ 12
            · have t3 : decide ((n3 : Int) ≤ 12) = true := decide_eq_true (by omega)
              by_cases q1 : n1 ≤ 6
              · have t1 : decide ((n1 : Int) ≤ 6) = true := decide_eq_true (by omega)
                go_wp2_with fail
                go_ret
                exact ⟨true, rfl, ⟨fun _ => ⟨HA1.out, HA2.out, by rw [← HN2.out]; exact q2, by rw [← HN3.out]; exact q3, by rw [← HN1.out]; exact q1⟩, fun _ => rfl⟩, HE.out.1⟩
              · have t1 : decide ((n1 : Int) ≤ 6) = false := decide_eq_false (by omega)
                go_wp2_with fail
                go_ret
                exact ⟨false, rfl, ⟨fun h => (by cases h), fun h => (q1 (by rw [HN1.out]; exact h.2.2.2.2)).elim⟩, HE.out.1⟩
            · have t3 : decide ((n3 : Int) ≤ 12) = false := decide_eq_false (by omega)
              go_wp2_with fail
              go_ret
              exact ⟨false, rfl, ⟨fun h => (by cases h), fun h => (q3 (by rw [HN3.out]; exact h.2.2.2.1)).elim⟩, HE.out.1⟩
          · have t2 : decide ((n2 : Int) ≤ 12) = false := decide_eq_false (by omega)
            go_wp2_with fail
            go_ret
            exact ⟨false, rfl, ⟨fun h => (by cases h), fun h => (q2 (by rw [HN2.out]; exact h.2.2.1)).elim⟩, HE.out.1⟩
end Go.Proofs.YtngpjagpeblbjaaGreatDoor
namespace Go.Proofs.YtngpjagpeblbjaaGreatDoor
open Go.RowKit Go.Spy Go.Heaped Go.Tour Go.Rx

def check2E (d e : DR) : Nat := if checkE nameOk d = 0 then checkE nameOk e else checkE nameOk d

set_option maxRecDepth 100000 in
set_option maxHeartbeats 1000000 in
theorem checked_any {w : World} {va vb : Value} {da db : DR} (hA : DfaV w va da) (hBA : BndD da) (hB : DfaV w vb db) (hBB : BndD db) : Calls Tryz.prog 44 #[va, vb] w (ErrP (check2E da db) w) := by
  obtain ⟨vS, vN, vF, us, rfl, hP⟩ := hA
  obtain ⟨vS2, vN2, vF2, us2, rfl, hP2⟩ := hB
  have HC1 : Hid (∀ W, Ext w W → Calls Tryz.prog 11 #[.agg #[vS, vN, vF]] W (ErrP (checkE nameOk da) W)) := hid fun W e => dcheck_any (hP.ext e) hBA
  have HC2 : Hid (∀ W, Ext w W → Calls Tryz.prog 11 #[.agg #[vS2, vN2, vF2]] W (ErrP (checkE nameOk db) W)) := hid fun W e => dcheck_any (hP2.ext e) hBB
  obtain ⟨aoS, cS, rfl, hS⟩ := hP.syms.form
  obtain ⟨aoN, cN, rfl, hN⟩ := hP.next.form
  obtain ⟨aoF, cF, rfl, hF⟩ := hP.fin.form
  obtain ⟨aoS2, cS2, rfl, hS2⟩ := hP2.syms.form
  obtain ⟨aoN2, cN2, rfl, hN2⟩ := hP2.next.form
  obtain ⟨aoF2, cF2, rfl, hF2⟩ := hP2.fin.form
  obtain ⟨n1, hn1⟩ : ∃ n, n = da.syms.length := ⟨_, rfl⟩
  obtain ⟨n2, hn2⟩ : ∃ n, n = us.length := ⟨_, rfl⟩
  obtain ⟨n3, hn3⟩ : ∃ n, n = da.fin.length := ⟨_, rfl⟩
  obtain ⟨m1, hm1⟩ : ∃ n, n = db.syms.length := ⟨_, rfl⟩
  obtain ⟨m2, hm2⟩ : ∃ n, n = us2.length := ⟨_, rfl⟩
  obtain ⟨m3, hm3⟩ : ∃ n, n = db.fin.length := ⟨_, rfl⟩
  rw [← hn1, ← hn2, ← hn3] at HC1 ⊢
  rw [← hm1, ← hm2, ← hm3] at HC2 ⊢
  have HA0 : Hid (Ext w ((w.alloc (.cells #[.slice aoS n1 cS, .slice aoN n2 cN, .slice aoF n3 cF] 26)).alloc (.cells #[.slice aoS2 m1 cS2, .slice aoN2 m2 cN2, .slice aoF2 m3 cF2] 26))) := hid (((Below.refl _ _).alloc (Nat.le_refl _) _).alloc (by simp) _)
  have HB0 : Hid (Blk ((w.alloc (.cells #[.slice aoS n1 cS, .slice aoN n2 cN, .slice aoF n3 cF] 26)).alloc (.cells #[.slice aoS2 m1 cS2, .slice aoN2 m2 cN2, .slice aoF2 m3 cF2] 26)) (w.heap.size + 1) 26 #[.slice aoS2 m1 cS2, .slice aoN2 m2 cN2, .slice aoF2 m3 cF2]) := hid (Blk.new' _ _ _ (by simp))
  obtain ⟨V, hV⟩ : ∃ V, V = check2E da db := ⟨_, rfl⟩
  rw [← hV]
  unfold check2E at hV
  obtain ⟨E, hE⟩ : ∃ E, E = checkE nameOk da := ⟨_, rfl⟩
  obtain ⟨E2, hE2⟩ : ∃ E, E = checkE nameOk db := ⟨_, rfl⟩
  rw [← hE] at HC1
  rw [← hE2] at HC2
  rw [← hE, ← hE2] at hV
  have HV := hid hV
  clear hV hP hP2 hBA hBB hS hN hF hS2 hN2 hF2 hn1 hn2 hn3 hm1 hm2 hm3 hE hE2
  go_enter Tryz.func44, Tryz.ntmps44
  go_wp2_with fail
  refine (HC1.out _ HA0.out).mono ?_
  rintro e w2 ⟨rfl, hx⟩
  have HX2 := hid (HA0.out.trans (hx.mono HA0.out.size))
  have hb := HB0.out.ext hx
  have c0 : w2.cell? ⟨w.heap.size + 1, 0, none⟩ = some (.slice aoS2 m1 cS2) := hb.cell (i := 0) rfl
  have c1 : w2.cell? ⟨w.heap.size + 1, 1, none⟩ = some (.slice aoN2 m2 cN2) := hb.cell (i := 1) rfl
  have c2 : w2.cell? ⟨w.heap.size + 1, 2, none⟩ = some (.slice aoF2 m3 cF2) := hb.cell (i := 2) rfl
  have lb := hb.lt
  clear hx hb
  by_cases h0 : E = 0
  · have d0 : (((E : Nat) : Int) != 0) = false := by simp [h0]
    have HE := hid h0
    clear h0
    go_wp2_with fail
    refine (HC2.out _ HX2.out).mono ?_
    rintro e w3 ⟨rfl, hx⟩
    have HX3 := hid (HX2.out.trans (hx.mono HX2.out.size))
    clear hx
    go_wp2_with fail
    go_ret
    rw [show V = E2 from HV.out.trans (if_pos HE.out)]
    exact ⟨rfl, HX3.out⟩
  · have d0 : (((E : Nat) : Int) != 0) = true := by simp [h0]
    have HE := hid h0
    clear h0
    go_wp2_with fail
    go_ret
    rw [show V = E from HV.out.trans (if_neg HE.out)]
    exact ⟨rfl, HX2.out⟩
end Go.Proofs.YtngpjagpeblbjaaGreatDoor
