/-
  Walk of classes over pairs of numbers.
  Walk of automaton over numbers.
  Walks of slices.Max over numbers, and of the closures of Small.
-/
import Derived.Test.YtngpjagpeblbjaaGreatDoorY02
import Derived.Test.YtngpjagpeblbjaaGreatDoorY01
namespace Go.Proofs.YtngpjagpeblbjaaGreatDoor
open Go.RowKit Go.Spy Go.Heaped Go.Tour Go.Rx
theorem len_map_pr {w : World} {b : Nat} {es : Array MapEntry} {clock : Nat} (hb : w.heap[b]? = some (.map es clock)) : (Builtin.len_ #[158] 3 #[.map (some b)]).run Tryz.prog w = .ok (.int .i64 (es.size : Nat)) w := by
 have h := run_len_map (P := Tryz.prog) (w := w) 158 3 b es clock (by kernel_rfl) hb
 exact h
set_option maxRecDepth 100000 in
set_option maxHeartbeats 4000000 in
theorem classes_pr {w : World} {v : Value} {l : List Pr} (hV : ReadR w 2 prC v l) (hl : l.length ≤ 1000) : Calls Tryz.prog 60 #[v] w (ClsPost (cls l) w) := by
 obtain ⟨ao, c, rfl, hg⟩ := hV.form
 obtain ⟨n, hn⟩ : ∃ n, n = l.length := ⟨_, rfl⟩
 have HV := hid hV
 rw [← hn] at hg hl HV ⊢
 have HG := hid hg
 have HN := hid hn
 have HPO : Hid (∀ (w' : World) (v' : Value), Ext w w' → OwnR w' w.heap.size 3 1 natA v' (cls l) → ClsPost (cls l) w (.returned v') w') := hid fun w' v' h1 h2 => ⟨h1, v', rfl, h2⟩
 obtain ⟨Q, hQ⟩ : ∃ Q, Q = ClsPost (cls l) w := ⟨_, rfl⟩
 rw [← hQ] at HPO ⊢
 clear hV hg hn hQ
 go_enter Tryz.func60, Tryz.ntmps60
 have hmm := @run_makeMap Tryz.prog
 go_wp2_with fail
 clear hmm
 go_loopg [4, 12] n (fun g vO u wr => ∃ i, g = n - i ∧ i ≤ n ∧ u = .int .i64 i ∧ Hid (ClsW w wr w.heap.size (fun p : Pr => .agg (prC p)) vO (clsU (l.take i)) (cls (l.take i))))
 case atStart => exact ⟨0, rfl, Nat.zero_le _, rfl, hid ⟨(Below.refl _ _).alloc (Nat.le_refl _) _, MapB.new _ _, OwnR.nil _ _ _ _ _, Nat.le_refl _⟩⟩
 case round =>
  obtain ⟨i, rfl, hi, rfl, HW⟩ := hrel
  obtain ⟨vO, hvO⟩ : ∃ v, v = u4 := ⟨_, rfl⟩
  subst hvO
  by_cases hlt : i < n
  ·obtain ⟨g, o, rfl⟩ := HG.out (by omega)
   obtain ⟨x, hx⟩ : ∃ x, l[i]? = some x := ⟨_, List.getElem?_eq_getElem (by rw [← HN.out]; exact hlt)⟩
   have h2 : ∀ e, e < 2 → wr.cell? ⟨g, o + (i * 2 + e), none⟩ = (prC x)[e]? := fun e he => by
    have h := HV.out.ext HW.out.ext
    rw [HN.out] at h
    exact h.cell hx he
   have HX := hid hx
   obtain ⟨⟨y, z⟩, hyz⟩ := x
   have c1 : wr.cell? ⟨g, o + i * 2, none⟩ = some (.int .i64 y) := h2 0 (by decide)
   have c2 : wr.cell? ⟨g, o + i * 2 + 1, none⟩ = some (.int .i64 z) := by have := h2 1 (by decide); rwa [show o + (i * 2 + 1) = o + i * 2 + 1 by omega] at this
   clear h2
   have hbl0 : w.heap.size < wr.heap.size := HW.out.map.lt
   go_upto_region 6 with fail
   have e0 : Ext wr (wr.alloc (.cells #[.int .i64 y, .int .i64 z] 83)) := (Below.refl _ _).alloc (Nat.le_refl _) _
   have HWy : Hid (ClsW w (wr.alloc (.cells #[.int .i64 y, .int .i64 z] 83)) w.heap.size (fun p : Pr => .agg (prC p)) vO (clsU (l.take i)) (cls (l.take i))) := hid ⟨HW.out.ext.trans (e0.mono HW.out.ext.size), HW.out.map.alloc _, HW.out.own.alloc _, HW.out.ge⟩
   have hB0 := Blk.new wr 83 #[.int .i64 y, .int .i64 z]
   clear e0 HW c1 c2 hbl0
   obtain ⟨wy, hwy⟩ : ∃ u, u = wr.alloc (.cells #[.int .i64 y, .int .i64 z] 83) := ⟨_, rfl⟩
   rw [← hwy] at HWy hB0 ⊢
   obtain ⟨b6, hb6⟩ : ∃ n, n = wr.heap.size := ⟨_, rfl⟩
   rw [← hb6] at hB0 ⊢
   clear hwy hb6
   have HW := HWy
   have d0 : wy.cell? ⟨b6, 0, none⟩ = some (.int .i64 y) := hB0.cell (i := 0) rfl
   have d1 : wy.cell? ⟨b6, 1, none⟩ = some (.int .i64 z) := hB0.cell (i := 1) rfl
   have hl6 := hB0.lt
   have HB0 := hid hB0
   clear hB0
   obtain ⟨x, hxe⟩ : ∃ x : Pr, x = ⟨(y, z), hyz⟩ := ⟨_, rfl⟩
   rw [← hxe] at HX
   have HXE := hid hxe
   clear hxe
   have hsz : w.heap.size ≤ wy.heap.size := HW.out.ext.size
   have hbl : w.heap.size < wy.heap.size := HW.out.map.lt
   have hln : (cls (l.take i)).length + 1 ≤ 1000000000 := by rw [cls_length, List.length_take]; omega
   obtain ⟨es, clock, hb, hes⟩ := mapB_len HW.out.map
   rw [entries_len] at hes
   have HES := hid hes
   clear hx hes
   by_cases hmem : x ∈ clsU (l.take i)
   ·obtain ⟨q, hq⟩ : ∃ n, n = @List.idxOf _ instBEqOfDecidableEq x (clsU (l.take i)) := ⟨_, rfl⟩
    have hlook : alook (entries numV 0 (clsU (l.take i))) x = some (.int .i64 q) := by rw [entries_look, if_pos hmem, Nat.zero_add, ← hq]; rfl
    have HLK := hid hlook
    have HQ := hid hq
    have HME := hid hmem
    have HOW := hid HW.out.own
    clear hlook hq hmem
    go_wp2_with (first
     | (with_reducible show wpList _ _ _ ((⟨_, Op.lookup _ _ _ _, _, _, _, _⟩ : Oper) :: _) _ _
        go_loud (refine wpList_lookupB rfl (.tmp 17) (.tmp 18) 158 rfl 83 3 (fun p => .agg (prC p)) key_pr Tryz.underlying158 w.heap.size (entries numV 0 (clsU (l.take i))) rfl HW.out.map (.int .i64 0) zero_int x (by rw [HXE.out]; rfl) (some (.int .i64 q)) HLK.out ?_))
     | (at_builtin
        go_loud (refine wpList_append_R elem_int (fun _ => rfl) ones_int HOW hsz hln q _ rfl wy.heap.size rfl rfl _ _ rfl rfl rfl ?_)
        rintro g' c' v' w7 rfl G1 G2))
    go_roundg (n - (i + 1))
    case measure => omega
    case rel =>
     obtain ⟨e1, e2⟩ := cls_take_old HX.out HME.out
     refine ⟨i + 1, rfl, by omega, by go_num, hid ⟨ext_grown HW.out.ext G2.out.1 (fun k e => (HOW.out.lt k e).1), ?_, ?_, HW.out.ge⟩⟩
     ·rw [e1]
      exact HW.out.map.grown G2.out.1 (fun e => by
       obtain ⟨_, hc⟩ := own_block HOW.out e.symm
       exact blk_map_ne hc HW.out.map rfl)
     ·rw [e2, ← HQ.out]; exact G1.out
   ·have hlook : alook (entries numV 0 (clsU (l.take i))) x = none := by rw [entries_look, if_neg hmem]
    have HLK := hid hlook
    have HME := hid hmem
    have hlm := len_map_pr hb
    clear hlook hmem
    go_wp2_with (first
     | (with_reducible show wpList _ _ _ ((⟨_, Op.lookup _ _ _ _, _, _, _, _⟩ : Oper) :: _) _ _
        go_loud (refine wpList_lookupB rfl (.tmp 17) (.tmp 18) 158 rfl 83 3 (fun p => .agg (prC p)) key_pr Tryz.underlying158 w.heap.size (entries numV 0 (clsU (l.take i))) rfl HW.out.map (.int .i64 0) zero_int x (by rw [HXE.out]; rfl) none HLK.out ?_))
     | (with_reducible show wpList _ _ _ ((⟨_, Op.mapUpdate _ _ _ _, _, _, _, _⟩ : Oper) :: _) _ _
        go_loud (refine wpList_mapUpdateB _ rfl (.tmp 26) (.tmp 27) (.tmp 28) 158 (.inl rfl) 83 3 (fun p => .agg (prC p)) key_pr Tryz.underlying158 w.heap.size (entries numV 0 (clsU (l.take i))) rfl HW.out.map x (numV es.size) (by rw [HXE.out]; rfl) rfl ?_)
        intro w6 hM6 hG6
        have HM6 := hid hM6
        have HG6 := hid hG6
        have hO6 : OwnR w6 w.heap.size 3 1 natA vO (cls (l.take i)) := HW.out.own.chg ((Chg.refl (fun k => k = w.heap.size) wy).grown hG6 (fun k e => by simpa using e.symm)) (fun k e e' => by
         obtain ⟨_, hc⟩ := own_block HW.out.own e
         exact blk_map_ne hc HW.out.map e')
        have HOW := hid hO6
        have HX6 : Hid (Ext w w6) := hid (ext_grown HW.out.ext hG6 (fun k e => by simp at e; omega))
        have hsz6 : w.heap.size ≤ w6.heap.size := HX6.out.size
        clear hM6 hG6 hO6 hb hlm)
     | (at_builtin
        go_loud (refine wpList_append_R elem_int (fun _ => rfl) ones_int HOW hsz6 hln es.size _ rfl w6.heap.size rfl rfl _ _ rfl rfl rfl ?_)
        rintro g' c' v' w7 rfl G1 G2))
    go_roundg (n - (i + 1))
    case measure => omega
    case rel =>
     obtain ⟨e1, e2⟩ := cls_take_new HX.out HME.out
     refine ⟨i + 1, rfl, by omega, by go_num, hid ⟨ext_grown HX6.out G2.out.1 (fun k e => (HOW.out.lt k e).1), ?_, ?_, HW.out.ge⟩⟩
     ·have h := HM6.out
      rw [aput_push HLK.out] at h
      rw [e1, entries_snoc, Nat.zero_add, ← HES.out]
      exact h.grown G2.out.1 (fun e => by
       obtain ⟨_, hc⟩ := own_block HOW.out e.symm
       exact blk_map_ne hc HM6.out rfl)
     ·rw [e2, ← HES.out]; exact G1.out
  ·obtain rfl : n = i := by omega
   go_wp2_with fail
   have h := HW.out.own
   rw [List.take_of_length_le (by rw [← HN.out]; exact Nat.le_refl _)] at h
   exact HPO.out wr vO HW.out.ext h
end Go.Proofs.YtngpjagpeblbjaaGreatDoor
namespace Go.Proofs.YtngpjagpeblbjaaGreatDoor
open Go.RowKit Go.Spy Go.Heaped Go.Tour Go.Rx
set_option maxRecDepth 100000 in
set_option maxHeartbeats 4000000 in
theorem auto_int {w : World} {vK vN vF vS : Value} {us : List Value} {ks : List Nat} {fr : List (Nat × Nat)} {syms : List ByteArray} (hK : ReadR w 1 natA vK ks) (hN : ReadR w 1 oneA vN us) (hF : ReadR w 2 stepA vF fr) (hS : ReadR w 1 strC vS syms) (hk1 : ks.length ≤ 1000) (hs1 : syms.length ≤ 1000)
 {f : FuncId} {bs caps : Array Value} (hE : Enters Tryz.prog f) (p : Nat → Bool) (hf : ∀ k w', k ∈ ks → Ext w w' → Calls Tryz.prog f (bs ++ #[.int .i64 (k : Nat)] ++ caps) w' fun e w'' => e = .returned (.bool (p k)) ∧ Ext w' w'') :
 Calls Tryz.prog 63 #[.agg #[vK, vN, vF], vS, .func (.func f) bs caps] w (AutoPost syms vN (ks.map p) w) := by
 obtain ⟨aoK, cK, rfl, hK2⟩ := hK.form
 obtain ⟨aoN, cN, rfl, -⟩ := hN.form
 obtain ⟨aoF, cF, rfl, -⟩ := hF.form
 obtain ⟨aoS, cS, rfl, -⟩ := hS.form
 obtain ⟨n, hn⟩ : ∃ n, n = ks.length := ⟨_, rfl⟩
 rw [← hn] at hK2 hk1 ⊢
 have HK := hid hK
 rw [← hn] at HK
 have HS := hid hS
 have HF := hid hf
 have HEN := hid hE
 have HNN := hid hn
 have HCL : ∀ W : World, Ext w W → Calls Tryz.prog 42 #[.slice aoS syms.length cS] W (ClonePost 9 strC syms W) := fun W e => clone_str (hS.ext e) (by omega)
 have HCLN := hid HCL
 clear hK hN hF hS hf hE hn HCL
 go_enter Tryz.func63, Tryz.ntmps63
 go_upto_region 1 with fail
 go_cut [7] from 8 (fun u7 wx => ∃ b7 vS', u7 = .pointer (some ⟨b7, 0, none⟩) ∧ Hid (AutoW w wx (.slice aoK n cK) (.slice aoN us.length cN) (.slice aoF fr.length cF) vS' (.slice none 0 0) 89 b7 syms []))
 case first =>
  obtain ⟨W1, hW1⟩ : ∃ u, u = ((w.alloc (.cells #[.slice aoK n cK, .slice aoN us.length cN, .slice aoF fr.length cF] 89)).alloc (.cells #[.slice none 0 0, .slice none 0 0, .slice none 0 0] 26)) := ⟨_, rfl⟩
  rw [← hW1]
  have eW : Ext w W1 := hW1 ▸ ((Below.refl _ _).alloc (Nat.le_refl _) _).alloc (by simp) _
  have HB1 : Hid (Blk W1 w.heap.size 89 #[.slice aoK n cK, .slice aoN us.length cN, .slice aoF fr.length cF]) := hid (hW1 ▸ (Blk.new _ _ _).alloc _)
  have HB2 : Hid (Blk W1 (w.heap.size + 1) 26 #[.slice none 0 0, .slice none 0 0, .slice none 0 0]) := hid (hW1 ▸ Blk.new' _ _ _ (by simp))
  have HW1 := hid eW
  have c1 : W1.cell? ⟨w.heap.size, 1, none⟩ = some (.slice aoN us.length cN) := HB1.out.cell rfl
  have l1 := HB1.out.lt
  have l2 := HB2.out.lt
  have hS0 : Ext W1 W1.drew := (Below.refl _ _).drew
  clear eW hW1
  refine wp_region_heldL (Ext W1) (by kernel_rfl) ?_
  refine wpAnyH_takeK 0 6 #[true, false, false, false, false, false, false] rfl (by kernel_rfl) rfl (.slice aoS syms.length cS) (fun _ _ _ h => h) (Or.inl ⟨rfl, fun w' hS => ?_⟩) hS0 ?_
  ·go_simp <;> with_reducible rfl
  refine wpAnyH_takeK 2 5 #[true, false, true, false, false, false, false] rfl (by kernel_rfl) rfl (.pointer (some ⟨w.heap.size, 1, none⟩)) (fun _ _ _ h => h) (Or.inl ⟨rfl, fun w' hS => ?_⟩) hS0 ?_
  ·go_simp <;> with_reducible rfl
  refine wpAnyH_takeK 3 4 #[true, false, true, true, false, false, false] rfl (by kernel_rfl) rfl (.slice aoN us.length cN) (fun _ _ _ h => h) (Or.inl ⟨rfl, fun w' hS => ?_⟩) hS0 ?_
  ·have c2 := (hS.cell (p := ⟨w.heap.size, 1, none⟩) l1).trans c1; go_simp <;> with_reducible rfl
  refine wpAnyH_two 1 5 3 #[true, true, true, true, false, false, false] #[true, false, true, true, false, true, false] rfl rfl (by kernel_rfl) rfl ?_ ?_
  ·go_wp2_with fail
   refine (HCLN.out _ (HW1.out.trans (hS0.mono HW1.out.size))).mono ?_
   rintro e w4 ⟨hx4, vS', rfl, hO⟩
   obtain ⟨aoC, cC, rfl, -⟩ := (OwnR.read hO strC_size).form
   have hS4 : Ext W1 w4 := hS0.trans (hx4.mono (by simp))
   have HO := hid (hO.lower (b := w.heap.size) (by have := HW1.out.size; simpa using this))
   have HS4 := hid hS4
   clear hO hx4
   go_wp2_with fail
   refine ⟨hS4, ?_⟩
   refine wpAnyH_takeK 4 2 #[true, true, true, true, true, false, false] rfl (by kernel_rfl) rfl (.agg #[.slice aoC syms.length cC, .slice aoN us.length cN, .slice none 0 0]) (fun _ _ _ h => h) (Or.inl ⟨rfl, fun w' hS => ?_⟩) hS4 ?_
   ·go_simp <;> with_reducible rfl
   refine wpAnyH_one 5 1 #[true, true, true, true, true, true, false] rfl (by kernel_rfl) rfl ?_
   go_wp2_with fail
   refine ⟨hS4.alloc hS4.size _, ?_⟩
   refine wpAnyH_one 6 0 #[true, true, true, true, true, true, true] rfl (by kernel_rfl) rfl ?_
   go_wp2_with fail
   refine ⟨hS4.alloc hS4.size _, ?_⟩
   refine wpAnyH_end (P := Tryz.prog) (by kernel_rfl) ?_
   go_wp2_with fail
   go_meet
   refine ⟨_, .slice aoC syms.length cC, rfl, hid ⟨(HW1.out.trans (hS4.mono HW1.out.size)).alloc (HW1.out.trans (hS4.mono HW1.out.size)).size _, (HB1.out.ext hS4).alloc _, (HB2.out.ext hS4).alloc _, Blk.new _ _ _, HO.out.alloc _, OwnR.nil _ _ _ _ _, by have := hS4.size; omega⟩⟩
  ·go_wp2_with fail
   have hS3 : Ext W1 (W1.drew.alloc (.cells #[.slice none 0 0, .slice none 0 0, .slice none 0 0] 26)) := hS0.alloc (by simp) _
   refine ⟨hS3, ?_⟩
   refine wpAnyH_one 1 2 #[true, true, true, true, false, true, false] rfl (by kernel_rfl) rfl ?_
   go_wp2_with fail
   refine (HCLN.out _ (HW1.out.trans (hS3.mono HW1.out.size))).mono ?_
   rintro e w4 ⟨hx4, vS', rfl, hO⟩
   obtain ⟨aoC, cC, rfl, -⟩ := (OwnR.read hO strC_size).form
   have hS4 : Ext W1 w4 := hS3.trans (hx4.mono (by simp))
   have hB4 : Blk w4 W1.heap.size 26 #[.slice none 0 0, .slice none 0 0, .slice none 0 0] := (Blk.new' _ _ _ (by simp)).ext hx4
   have HO := hid (hO.lower (b := w.heap.size) (by have := HW1.out.size; have := hS3.size; omega))
   have HB4 := hid hB4
   have d0 : w4.cell? ⟨W1.heap.size, 0, none⟩ = some (.slice none 0 0) := hB4.cell rfl
   have d1 : w4.cell? ⟨W1.heap.size, 1, none⟩ = some (.slice none 0 0) := hB4.cell rfl
   have d2 : w4.cell? ⟨W1.heap.size, 2, none⟩ = some (.slice none 0 0) := hB4.cell rfl
   have df := hB4.frozen
   have dl := hB4.lt
   have hso : ∀ g, (Value.slice aoC syms.length cC).ownBlock = some g → ¬ g = W1.heap.size := fun g e e2 => by obtain ⟨_, hb⟩ := own_block hO e; exact ne_of_blk hB4 hb (by decide) e2.symm
   have HSO := hid hso
   clear hO hx4 hB4 hso
   go_wp2_with fail
   refine ⟨hS4, ?_⟩
   refine wpAnyH_takeK 4 1 #[true, true, true, true, true, true, false] rfl (by kernel_rfl) rfl (.agg #[.slice aoC syms.length cC, .slice aoN us.length cN, .slice none 0 0]) (fun _ _ _ h => h) (Or.inl ⟨rfl, fun w' hS => ?_⟩) hS4 ?_
   ·go_simp <;> with_reducible rfl
   refine wpAnyH_one 6 0 #[true, true, true, true, true, true, true] rfl (by kernel_rfl) rfl ?_
   go_wp2_with fail
   have cc : Chg (fun k => k = W1.heap.size) w4 (((w4.setCell ⟨W1.heap.size, 0, none⟩ (.slice aoC syms.length cC)).setCell ⟨W1.heap.size, 1, none⟩ (.slice aoN us.length cN)).setCell ⟨W1.heap.size, 2, none⟩ (.slice none 0 0)) :=
    Chg.setCell (p := ⟨W1.heap.size, 2, none⟩) (S := fun k => k = W1.heap.size) (Chg.setCell (p := ⟨W1.heap.size, 1, none⟩) (S := fun k => k = W1.heap.size) (Chg.setCell (p := ⟨W1.heap.size, 0, none⟩) (S := fun k => k = W1.heap.size) (Chg.refl _ w4) rfl (.slice aoC syms.length cC)) rfl (.slice aoN us.length cN)) rfl (.slice none 0 0)
   have hS5 := hS4.trans (cc.below (B := W1.heap.size) (by omega) (fun k e => by omega))
   refine ⟨hS5, ?_⟩
   refine wpAnyH_end (P := Tryz.prog) (by kernel_rfl) ?_
   go_wp2_with fail
   go_meet
   refine ⟨_, .slice aoC syms.length cC, rfl, hid ⟨HW1.out.trans (hS5.mono HW1.out.size), HB1.out.ext hS5, HB2.out.ext hS5, ?_, HO.out.chg cc HSO.out, OwnR.nil _ _ _ _ _, l2⟩⟩
   exact ((HB4.out.set 0 _).set 1 _).set 2 _
 case rest =>
  obtain ⟨b7, vS', rfl, HA⟩ := hcut
  have e0 : wc.cell? ⟨w.heap.size, 0, none⟩ = some (.slice aoK n cK) := HA.out.box.cell rfl
  have l0 := HA.out.box.lt
  go_wp2_with fail
  go_loopg [18] n (fun g u wr => ∃ j vFin, g = n - j ∧ j ≤ n ∧ u = .int .i64 j ∧ Hid (AutoW w wr (.slice aoK n cK) (.slice aoN us.length cN) (.slice aoF fr.length cF) vS' vFin 89 b7 syms ((ks.take j).map p)))
  case atStart => exact ⟨0, _, rfl, Nat.zero_le _, rfl, by simpa using HA⟩
  case round =>
   clear HA e0 l0
   obtain ⟨j, vFin, rfl, hj, rfl, HW⟩ := hrel
   obtain ⟨fs, hfs⟩ : ∃ fs, fs = (ks.take j).map p := ⟨_, rfl⟩
   rw [← hfs] at HW
   have hfl : fs.length ≤ 1000 := by rw [hfs]; simp; omega
   have HFS := hid hfs
   clear hfs
   by_cases hlt : j < n
   ·obtain ⟨gK, oK, rfl⟩ := hK2 (by omega)
    obtain ⟨k, hk⟩ : ∃ k, ks[j]? = some k := ⟨_, List.getElem?_eq_getElem (by rw [← HNN.out]; exact hlt)⟩
    have c1 : wr.cell? ⟨gK, oK + j, none⟩ = some (.int .i64 k) := (HK.out.ext HW.out.ext).cell1 hk
    have HKK := hid hk
    clear hk
    go_upto_region 5 with fail
    obtain ⟨wz, hwz⟩ : ∃ u, u = wr := ⟨_, rfl⟩
    subst hwz
    have HWZ := hid HW.out
    have hmem := hid (List.mem_of_getElem? HKK.out)
    have z2 : wz.cell? ⟨b7, 2, none⟩ = some vFin := HWZ.out.dfa.cell rfl
    have zl := HWZ.out.dfa.lt
    have hS0 : wz.heap.size ≤ wz.drew.heap.size := Nat.le_refl _
    have HCALL := hid (HF.out k wz.drew hmem.out (HWZ.out.ext.drew))
    clear HW c1
    refine wp_region_heldL (fun w' => wz.heap.size ≤ w'.heap.size) (by kernel_rfl) ?_
    refine wpAnyH_takeK 0 8 (mk 9 1) rfl (by kernel_rfl) rfl (.pointer (some ⟨b7, 2, none⟩)) (fun _ _ _ h => h) (Or.inl ⟨rfl, fun w' hS => ?_⟩) hS0 ?_
    ·go_simp <;> with_reducible rfl
    refine wpAnyH_takeK 2 7 (mk 9 5) rfl (by kernel_rfl) rfl (.func (.func f) bs caps) (fun _ _ _ h => h) (Or.inl ⟨rfl, fun w' hS => ?_⟩) hS0 ?_
    ·go_simp <;> with_reducible rfl
    refine wpAnyH_takeK 3 6 (mk 9 13) rfl (by kernel_rfl) rfl (.int .i64 k) (fun _ _ _ h => h) (Or.inl ⟨rfl, fun w' hS => ?_⟩) hS0 ?_
    ·go_simp <;> with_reducible rfl
    refine wpAnyH_two 1 4 5 (mk 9 15) (mk 9 29) rfl rfl (by kernel_rfl) rfl ?_ ?_
    ·go_wp2_with fail
     refine ⟨hS0, ?_⟩
     refine wpAnyH_one 4 4 (mk 9 31) rfl (by kernel_rfl) rfl ?_
     go_wp2_with (with_reducible refine onOp 26 ?_
                  go_loud (refine wpList_callb (args := #[.int .i64 (k : Nat)]) rfl (.tmp 24) #[.tmp 25] #[3] rfl HEN.out rfl rfl HCALL.out ?_)
                  rintro e w4 ⟨rfl, hx⟩
                  refine ⟨_, rfl, ?_⟩
                  have hE4 : Ext wz w4 := (Below.refl wz.heap.size wz).drew.trans (hx.mono (by simp))
                  have HE4 := hid hE4
                  clear hx hE4)
     refine ⟨HE4.out.size, ?_⟩
     refine wpAnyH_one 5 3 (mk 9 63) rfl (by kernel_rfl) rfl ?_
     go_wp2_with fail
     refine ⟨(by have := HE4.out.size; simp; omega), ?_⟩
     have HW4 := hid (HWZ.out.ext' HE4.out)
     have HOW4 := hid HW4.out.fin
     have hsz4 := HW4.out.ext.size
     have hln : fs.length + 1 ≤ 1000000000 := by omega
     refine wpAnyH_one 6 2 (mk 9 127) rfl (by kernel_rfl) rfl ?_
     go_wp2_with (with_reducible refine onOp 28 ?_
                  go_loud (refine wpList_append_R elem_bool (fun _ => rfl) ones_bool HOW4 hsz4 hln (p k) _ rfl w4.heap.size rfl rfl _ _ rfl rfl rfl ?_)
                  rintro g' c' v' w6 rfl G1 G2)
     have P6 := HW4.out.app (by decide) rfl G1.out G2.out.1 G2.out.2
     have y2 : w6.cell? ⟨b7, 2, none⟩ = some vFin := P6.1.cell rfl
     have yf := P6.1.frozen
     have yl := P6.1.lt
     have HP6 := hid P6.2
     have hz6 : wz.heap.size ≤ w6.heap.size := Nat.le_trans HE4.out.size G2.out.1.size
     clear P6
     refine ⟨hz6, ?_⟩
     refine wpAnyH_one 7 1 (mk 9 255) rfl (by kernel_rfl) rfl ?_
     go_wp2_with fail
     refine ⟨hz6, ?_⟩
     refine wpAnyH_one 8 0 (mk 9 511) rfl (by kernel_rfl) rfl ?_
     go_wp2_with fail
     refine ⟨by simpa [World.setCell] using hz6, ?_⟩
     refine wpAnyH_end (P := Tryz.prog) (by kernel_rfl) ?_
     go_wp2_with fail
     go_roundg (n - (j + 1))
     case measure => omega
     case rel =>
      refine ⟨j + 1, .slice (some ⟨g', 0, none⟩) (fs.length + 1) c', rfl, by omega, by go_num, ?_⟩
      have e1 : (ks.take (j + 1)).map p = (ks.take j).map p ++ [p k] := by
       obtain ⟨h2, h3⟩ := List.getElem?_eq_some_iff.1 HKK.out
       rw [List.take_succ_eq_append_getElem h2, List.map_append, h3]; rfl
      rw [e1, ← HFS.out]
      exact HP6
    ·go_wp2_with (with_reducible refine onOp 26 ?_
                  go_loud (refine wpList_callb (args := #[.int .i64 (k : Nat)]) rfl (.tmp 24) #[.tmp 25] #[3] rfl HEN.out rfl rfl HCALL.out ?_)
                  rintro e w4 ⟨rfl, hx⟩
                  refine ⟨_, rfl, ?_⟩
                  have hE4 : Ext wz w4 := (Below.refl wz.heap.size wz).drew.trans (hx.mono (by simp))
                  have HE4 := hid hE4
                  clear hx hE4)
     have z4 : w4.cell? ⟨b7, 2, none⟩ = some vFin := (HWZ.out.dfa.ext HE4.out).cell rfl
     have zl4 := (HWZ.out.dfa.ext HE4.out).lt
     refine ⟨HE4.out.size, ?_⟩
     refine wpAnyH_two 1 5 4 (mk 9 31) (mk 9 61) rfl rfl (by kernel_rfl) rfl ?_ ?_
     ·go_wp2_with fail
      refine ⟨HE4.out.size, ?_⟩
      refine wpAnyH_one 5 3 (mk 9 63) rfl (by kernel_rfl) rfl ?_
      go_wp2_with fail
      refine ⟨(by have := HE4.out.size; simp; omega), ?_⟩
      have HW4 := hid (HWZ.out.ext' HE4.out)
      have HOW4 := hid HW4.out.fin
      have hsz4 := HW4.out.ext.size
      have hln : fs.length + 1 ≤ 1000000000 := by omega
      refine wpAnyH_one 6 2 (mk 9 127) rfl (by kernel_rfl) rfl ?_
      go_wp2_with (with_reducible refine onOp 28 ?_
                   go_loud (refine wpList_append_R elem_bool (fun _ => rfl) ones_bool HOW4 hsz4 hln (p k) _ rfl w4.heap.size rfl rfl _ _ rfl rfl rfl ?_)
                   rintro g' c' v' w6 rfl G1 G2)
      have P6 := HW4.out.app (by decide) rfl G1.out G2.out.1 G2.out.2
      have y2 : w6.cell? ⟨b7, 2, none⟩ = some vFin := P6.1.cell rfl
      have yf := P6.1.frozen
      have yl := P6.1.lt
      have HP6 := hid P6.2
      have hz6 : wz.heap.size ≤ w6.heap.size := Nat.le_trans HE4.out.size G2.out.1.size
      clear P6
      refine ⟨hz6, ?_⟩
      refine wpAnyH_one 7 1 (mk 9 255) rfl (by kernel_rfl) rfl ?_
      go_wp2_with fail
      refine ⟨hz6, ?_⟩
      refine wpAnyH_one 8 0 (mk 9 511) rfl (by kernel_rfl) rfl ?_
      go_wp2_with fail
      refine ⟨by simpa [World.setCell] using hz6, ?_⟩
      refine wpAnyH_end (P := Tryz.prog) (by kernel_rfl) ?_
      go_wp2_with fail
      go_roundg (n - (j + 1))
      case measure => omega
      case rel =>
       refine ⟨j + 1, .slice (some ⟨g', 0, none⟩) (fs.length + 1) c', rfl, by omega, by go_num, ?_⟩
       have e1 : (ks.take (j + 1)).map p = (ks.take j).map p ++ [p k] := by
        obtain ⟨h2, h3⟩ := List.getElem?_eq_some_iff.1 HKK.out
        rw [List.take_succ_eq_append_getElem h2, List.map_append, h3]; rfl
       rw [e1, ← HFS.out]
       exact HP6
     ·go_wp2_with fail
      refine ⟨(by have := HE4.out.size; simp; omega), ?_⟩
      refine wpAnyH_one 1 3 (mk 9 63) rfl (by kernel_rfl) rfl ?_
      go_wp2_with fail
      refine ⟨(by have := HE4.out.size; simp; omega), ?_⟩
      have HW4 := hid (HWZ.out.ext' HE4.out)
      have HOW4 := hid HW4.out.fin
      have hsz4 := HW4.out.ext.size
      have hln : fs.length + 1 ≤ 1000000000 := by omega
      refine wpAnyH_one 6 2 (mk 9 127) rfl (by kernel_rfl) rfl ?_
      go_wp2_with (with_reducible refine onOp 28 ?_
                   go_loud (refine wpList_append_R elem_bool (fun _ => rfl) ones_bool HOW4 hsz4 hln (p k) _ rfl w4.heap.size rfl rfl _ _ rfl rfl rfl ?_)
                   rintro g' c' v' w6 rfl G1 G2)
      have P6 := HW4.out.app (by decide) rfl G1.out G2.out.1 G2.out.2
      have y2 : w6.cell? ⟨b7, 2, none⟩ = some vFin := P6.1.cell rfl
      have yf := P6.1.frozen
      have yl := P6.1.lt
      have HP6 := hid P6.2
      have hz6 : wz.heap.size ≤ w6.heap.size := Nat.le_trans HE4.out.size G2.out.1.size
      clear P6
      refine ⟨hz6, ?_⟩
      refine wpAnyH_one 7 1 (mk 9 255) rfl (by kernel_rfl) rfl ?_
      go_wp2_with fail
      refine ⟨hz6, ?_⟩
      refine wpAnyH_one 8 0 (mk 9 511) rfl (by kernel_rfl) rfl ?_
      go_wp2_with fail
      refine ⟨by simpa [World.setCell] using hz6, ?_⟩
      refine wpAnyH_end (P := Tryz.prog) (by kernel_rfl) ?_
      go_wp2_with fail
      go_roundg (n - (j + 1))
      case measure => omega
      case rel =>
       refine ⟨j + 1, .slice (some ⟨g', 0, none⟩) (fs.length + 1) c', rfl, by omega, by go_num, ?_⟩
       have e1 : (ks.take (j + 1)).map p = (ks.take j).map p ++ [p k] := by
        obtain ⟨h2, h3⟩ := List.getElem?_eq_some_iff.1 HKK.out
        rw [List.take_succ_eq_append_getElem h2, List.map_append, h3]; rfl
       rw [e1, ← HFS.out]
       exact HP6
   ·have h0 := HW.out.dfa
    have r0 := HW.out.res
    obtain ⟨aoC, cC, rfl, -⟩ := (OwnR.read HW.out.syms strC_size).form
    obtain ⟨aoG, cG, rfl, -⟩ := (OwnR.read HW.out.fin (fun _ => rfl)).form
    have k0 : wr.cell? ⟨b7, 0, none⟩ = some (.slice aoC syms.length cC) := h0.cell rfl
    have k1 : wr.cell? ⟨b7, 1, none⟩ = some (.slice aoN us.length cN) := h0.cell rfl
    have k2 : wr.cell? ⟨b7, 2, none⟩ = some (.slice aoG fs.length cG) := h0.cell rfl
    have kl := h0.lt
    have q0 : wr.cell? ⟨w.heap.size + 1, 0, none⟩ = some (.slice none 0 0) := r0.cell rfl
    have q1 : wr.cell? ⟨w.heap.size + 1, 1, none⟩ = some (.slice none 0 0) := r0.cell rfl
    have q2 : wr.cell? ⟨w.heap.size + 1, 2, none⟩ = some (.slice none 0 0) := r0.cell rfl
    have qf := r0.frozen
    have ql := r0.lt
    have HR0 := hid r0
    clear h0 r0
    go_wp2_with fail
    have h3 : Blk (((wr.setCell ⟨w.heap.size + 1, 0, none⟩ (.slice aoC syms.length cC)).setCell ⟨w.heap.size + 1, 1, none⟩ (.slice aoN us.length cN)).setCell ⟨w.heap.size + 1, 2, none⟩ (.slice aoG fs.length cG)) (w.heap.size + 1) 26 #[.slice aoC syms.length cC, .slice aoN us.length cN, .slice aoG fs.length cG] := ((HR0.out.set 0 _).set 1 _).set 2 _
    have cc : Chg (fun k => k = w.heap.size + 1) wr (((wr.setCell ⟨w.heap.size + 1, 0, none⟩ (.slice aoC syms.length cC)).setCell ⟨w.heap.size + 1, 1, none⟩ (.slice aoN us.length cN)).setCell ⟨w.heap.size + 1, 2, none⟩ (.slice aoG fs.length cG)) :=
     Chg.setCell (p := ⟨w.heap.size + 1, 2, none⟩) (S := fun k => k = w.heap.size + 1) (Chg.setCell (p := ⟨w.heap.size + 1, 1, none⟩) (S := fun k => k = w.heap.size + 1) (Chg.setCell (p := ⟨w.heap.size + 1, 0, none⟩) (S := fun k => k = w.heap.size + 1) (Chg.refl _ wr) rfl (.slice aoC syms.length cC)) rfl (.slice aoN us.length cN)) rfl (.slice aoG fs.length cG)
    refine bodyPost_ret (v := .agg #[.slice aoC syms.length cC, .slice aoN us.length cN, .slice aoG fs.length cG]) (results_cell_agg Tryz.results63 _ _ (w.heap.size + 1) 26 #[.slice aoC syms.length cC, .slice aoN us.length cN, .slice aoG fs.length cG] _ rfl h3 Tryz.underlying26 rfl (by kernel_rfl)) rfl ?_
    have d7 : Chg (fun k => w.heap.size ≤ k) wr _ := cc.mono fun k _ e => by omega
    have hX : Ext w _ := HW.out.ext.trans (d7.below HW.out.ext.size (fun k e => e))
    have hfs : fs = ks.map p := by rw [HFS.out, List.take_of_length_le (by rw [← HNN.out]; omega)]
    refine ⟨hX, _, _, rfl, HW.out.syms.chg cc fun g e e' => ?_, ?_⟩
    ·obtain ⟨_, hb⟩ := own_block HW.out.syms e
     exact ne_of_blk HR0.out hb (by decide) e'.symm
    ·rw [← hfs]
     refine HW.out.fin.chg cc fun g e e' => ?_
     obtain ⟨_, hb⟩ := own_block HW.out.fin e
     exact ne_of_blk HR0.out hb (by decide) e'.symm
end Go.Proofs.YtngpjagpeblbjaaGreatDoor
namespace Go.Proofs.YtngpjagpeblbjaaGreatDoor
open Go.RowKit Go.Spy Go.Heaped Go.Tour Go.Rx
set_option maxRecDepth 100000 in
set_option maxHeartbeats 1000000 in
theorem max_any {w : World} {v : Value} {l : List Nat} (hV : ReadR w 1 natA v l) (h0 : 0 < l.length) (hl : l.length ≤ 1000) :
 Calls Tryz.prog 61 #[v] w fun e w' => (∃ m : Nat, m ∈ l ∧ (∀ x ∈ l, x ≤ m) ∧ e = .returned (.int .i64 m)) ∧ w = w' := by
 obtain ⟨ao, c, rfl, hg⟩ := hV.form
 obtain ⟨g, o, rfl⟩ := hg h0
 have hlt := hV.blk_lt h0
 obtain ⟨x0, hx0⟩ : ∃ x, l[0]? = some x := ⟨_, List.getElem?_eq_getElem h0⟩
 have c0 : w.cell? ⟨g, o, none⟩ = some (.int .i64 x0) := by have := hV.cell1 hx0; simpa [natA] using this
 have HV := hid hV
 obtain ⟨n, hn⟩ : ∃ n, n = l.length := ⟨_, rfl⟩
 rw [← hn] at h0 hl HV ⊢
 have HN := hid hn
 have HX0 := hid hx0
 have hn1 : ¬ n < 1 := by omega
 clear hV hg hn hx0
 go_enter Tryz.func61, Tryz.ntmps61
 go_wp2_with fail
 go_loopg [3, 4] n (fun g u v wr => ∃ k m, g = n + 1 - k ∧ 1 ≤ k ∧ k ≤ n ∧ u = .int .i64 ((m : Nat) : Int) ∧ v = .int .i64 (k : Nat) ∧ wr = w ∧ Hid (m ∈ l ∧ ∀ x ∈ l.take k, x ≤ m))
 case atStart =>
  refine ⟨1, x0, by omega, Nat.le_refl _, by omega, rfl, rfl, rfl, hid ⟨List.mem_of_getElem? HX0.out, fun x hx => ?_⟩⟩
  obtain ⟨j, hj⟩ := List.getElem?_of_mem hx
  rw [List.getElem?_take] at hj
  split at hj
  ·obtain rfl : j = 0 := by omega
   rw [HX0.out] at hj
   cases hj
   exact Nat.le_refl _
  ·cases hj
 case round =>
  obtain ⟨k, m, rfl, hk1, hk, rfl, rfl, rfl, HM⟩ := hrel
  by_cases hlt2 : k < n
  ·obtain ⟨x, hx⟩ : ∃ x, l[k]? = some x := ⟨_, List.getElem?_eq_getElem (by rw [← HN.out]; exact hlt2)⟩
   have c1 : wr.cell? ⟨g, o + k, none⟩ = some (.int .i64 x) := by
    have h := HV.out
    rw [HN.out] at h
    exact h.cell1 hx
   have HX := hid hx
   clear hx
   by_cases hgt : m < x
   ·have hgt1 : (m : Int) < (x : Int) := by omega
    go_wp2_with fail
    go_roundg (n + 1 - (k + 1))
    case measure => omega
    case rel =>
     refine ⟨k + 1, x, rfl, by omega, by omega, by rw [Int.max_eq_right (by omega)], by go_num, rfl, hid ⟨List.mem_of_getElem? HX.out, fun y hy => ?_⟩⟩
     rw [take_snoc HX.out, List.mem_append, List.mem_singleton] at hy
     rcases hy with hy | rfl
     ·have := HM.out.2 y hy; omega
     ·exact Nat.le_refl _
   ·have hgt1 : ¬ (m : Int) < (x : Int) := by omega
    go_wp2_with fail
    go_roundg (n + 1 - (k + 1))
    case measure => omega
    case rel =>
     refine ⟨k + 1, m, rfl, by omega, by omega, by rw [Int.max_eq_left (by omega)], by go_num, rfl, hid ⟨HM.out.1, fun y hy => ?_⟩⟩
     rw [take_snoc HX.out, List.mem_append, List.mem_singleton] at hy
     rcases hy with hy | rfl
     ·exact HM.out.2 y hy
     ·omega
  ·obtain rfl : n = k := by omega
   go_wp2_with fail
   go_ret
   refine ⟨⟨m, HM.out.1, fun x hx => HM.out.2 x ?_, rfl⟩, rfl⟩
   rw [List.take_of_length_le (by rw [← HN.out]; exact Nat.le_refl _)]
   exact hx
set_option maxRecDepth 100000 in
theorem small1_any {w : World} {b : Nat} {vS vN vF : Value} {us : List Value} {D : DA} (hb : Blk w b 26 #[vS, vN, vF]) (hP : DfaP w vS vN vF us D.raw) (W : WellD nameOk D) {s : Nat} (hs : s < D.next.length) :
 Calls Tryz.prog 58 #[.int .i64 s, .pointer (some ⟨b, 0, none⟩)] w fun e w' => (∃ v, e = .returned v ∧ us[s]? = some v ∧ ReadR w 1 natA v (fan (stepD D) D.syms.length s)) ∧ w = w' := by
 obtain ⟨ao, c, hu, hR⟩ := hP.rowN W hs
 obtain ⟨aoN, cN, rfl, hN⟩ := hP.next.form
 rw [hP.len] at hN
 have hlen : us.length = D.next.length := by rw [hP.len]; simp [DF.raw]
 have hbn := W.most
 obtain ⟨gN, oN, rfl⟩ := hN (by simp [DF.raw]; omega)
 have c0 : w.cell? ⟨b, 1, none⟩ = some (.slice (some ⟨gN, oN, none⟩) us.length cN) := hb.cell rfl
 have c1 : w.cell? ⟨gN, oN + s, none⟩ = some (.slice ao D.syms.length c) := hP.next.cell1 hu
 obtain ⟨n, hn⟩ : ∃ n, n = us.length := ⟨_, rfl⟩
 obtain ⟨m, hm⟩ : ∃ m, m = D.syms.length := ⟨_, rfl⟩
 rw [← hn] at c0
 rw [← hm] at c1 hR hu
 have hsn : s < n := by omega
 have hbn2 : n ≤ 256 := by omega
 have HR := hid hR
 have HU := hid hu
 have HM := hid hm
 clear hR hu hN hn hm hP hb hlen
 go_enter Tryz.func58, Tryz.ntmps58
 go_wp2_with fail
 go_ret
 refine ⟨⟨_, rfl, HU.out, ?_⟩, rfl⟩
 rw [← HM.out]
 exact HR.out
structure SmallW (w : World) (E : DA) (a one : List Nat) (bT bO bL : Nat) (vK vN vF vO vA : Value) (us : List Value) : Prop where
 tour : Blk w bT 89 #[vK, vN, vF]
 next : ReadR w 1 oneA vN us
 len : us.length = E.next.length
 rows : ∀ (i : Nat) (u : Value) (r : List Nat), us[i]? = some u → E.next[i]? = some r → ReadR w 1 natA u r
 oneB : Blk w bO 46 #[vO]
 oneR : ReadR w 1 natA vO one
 alike : Blk w bL 46 #[vA]
 alikeR : ReadR w 1 natA vA a
theorem SmallW.ext {w w' : World} {E : DA} {a one : List Nat} {bT bO bL : Nat} {vK vN vF vO vA : Value} {us : List Value} (h : SmallW w E a one bT bO bL vK vN vF vO vA us) (e : Ext w w') : SmallW w' E a one bT bO bL vK vN vF vO vA us :=
 ⟨h.tour.ext e, h.next.ext e, h.len, fun i u r hu hr => (h.rows i u r hu hr).ext e, h.oneB.ext e, h.oneR.ext e, h.alike.ext e, h.alikeR.ext e⟩
theorem enters58 : Enters Tryz.prog 58 := fun _ _ => by kernel_rfl
theorem enters62 : Enters Tryz.prog 62 := fun _ _ => by kernel_rfl
theorem enters64 : Enters Tryz.prog 64 := fun _ _ => by kernel_rfl
abbrev stepK (E : DA) (a one : List Nat) : Nat → List Nat := fan (stepC E a one) E.syms.length
set_option maxRecDepth 100000 in
set_option maxHeartbeats 2000000 in
theorem small2_any {w : World} {E : DA} {a one : List Nat} {bT bO bL : Nat} {vK vN vF vO vA : Value} {us : List Value} (hW : SmallW w E a one bT bO bL vK vN vF vO vA us) (hE : OkD E) (ha : a.length = E.next.length) (hm : E.syms.length ≤ 1000) (hn : E.next.length ≤ 1000)
 {s c : Nat} (hs : s < E.next.length) (hc : one[c]? = some s) (hol : one.length ≤ 1000) :
 Calls Tryz.prog 62 #[.int .i64 c, .pointer (some ⟨bT, 0, none⟩), .pointer (some ⟨bO, 0, none⟩), .pointer (some ⟨bL, 0, none⟩)] w fun e w' => Ext w w' ∧ ∃ v, e = .returned v ∧ OwnR w' w.heap.size 3 1 natA v (stepK E a one c) := by
 obtain ⟨r, hr, hrl, -⟩ : ∃ r, E.next[s]? = some r ∧ r.length = E.syms.length ∧ True := by
  obtain ⟨r, h1⟩ : ∃ r, E.next[s]? = some r := ⟨_, List.getElem?_eq_getElem hs⟩
  exact ⟨r, h1, hE.row r (List.mem_of_getElem? h1), trivial⟩
 have hrf : r = fan (stepD E) E.syms.length s := by
  have := hE.fan hs
  rw [hr] at this
  exact Option.some.inj this
 obtain ⟨u, hu⟩ : ∃ u, us[s]? = some u := ⟨_, List.getElem?_eq_getElem (by rw [hW.len]; exact hs)⟩
 have hRow := hW.rows s u r hu hr
 obtain ⟨aoR, cR, rfl, hgR⟩ := hRow.form
 obtain ⟨aoN, cN, rfl, hgN⟩ := hW.next.form
 obtain ⟨aoO, cO, rfl, hgO⟩ := hW.oneR.form
 obtain ⟨aoA, cA, rfl, hgA⟩ := hW.alikeR.form
 have hcl : c < one.length := (List.getElem?_eq_some_iff.1 hc).1
 obtain ⟨gN, oN, rfl⟩ := hgN (by rw [hW.len]; omega)
 obtain ⟨gO, oO, rfl⟩ := hgO (by omega)
 obtain ⟨gA, oA, rfl⟩ := hgA (by omega)
 have c0 : w.cell? ⟨gO, oO + c, none⟩ = some (.int .i64 s) := hW.oneR.cell1 hc
 have c1 : w.cell? ⟨gN, oN + s, none⟩ = some (.slice aoR r.length cR) := hW.next.cell1 hu
 have d0 : w.cell? ⟨bT, 1, none⟩ = some (.slice (some ⟨gN, oN, none⟩) us.length cN) := hW.tour.cell (i := 1) rfl
 have d1 : w.cell? ⟨bO, 0, none⟩ = some (.slice (some ⟨gO, oO, none⟩) one.length cO) := hW.oneB.cell rfl
 have d2 : w.cell? ⟨bL, 0, none⟩ = some (.slice (some ⟨gA, oA, none⟩) a.length cA) := hW.alike.cell rfl
 have HLEN : Hid (s < us.length ∧ us.length ≤ 1000 ∧ a.length ≤ 1000) := hid ⟨by rw [hW.len]; exact hs, by rw [hW.len]; exact hn, by rw [ha]; exact hn⟩
 have HZ : Hid (∀ (j z : Nat), r[j]? = some z → z < a.length ∧ w.cell? ⟨gA, oA + z, none⟩ = some (.int .i64 (at0 a z : Nat))) := hid fun j z hz => by
  have hza : z < a.length := by rw [ha]; exact hE.goes r (List.mem_of_getElem? hr) z (List.mem_of_getElem? hz)
  exact ⟨hza, hW.alikeR.cell1 (at0_some hza)⟩
 have HALT : Hid (gA < w.heap.size ∧ bL < w.heap.size) := hid ⟨hW.alikeR.blk_lt (by omega), hW.alike.lt⟩
 have HRES : Hid ((List.map (at0 a) r) = stepK E a one c) := hid (by
  rw [hrf]
  simp only [stepK, fan, List.map_map]
  refine List.map_congr_left fun x _ => ?_
  simp only [Function.comp_apply, stepC, at0]
  rw [hc]; rfl)
 have HD2 := hid d2
 obtain ⟨rl, hrl2⟩ : ∃ n, n = r.length := ⟨_, rfl⟩
 obtain ⟨ul, hul⟩ : ∃ n, n = us.length := ⟨_, rfl⟩
 obtain ⟨ol, hol2⟩ : ∃ n, n = one.length := ⟨_, rfl⟩
 obtain ⟨al, hal⟩ : ∃ n, n = a.length := ⟨_, rfl⟩
 rw [← hrl2] at c1 hRow hgR hrl
 rw [← hul] at d0 HLEN
 rw [← hol2] at d1 hcl hol
 rw [← hal] at d2 HLEN HZ HD2
 have hrl3 : rl ≤ 1000 := by omega
 have hul2 : s < ul := HLEN.out.1
 have hul3 : ul ≤ 1000 := HLEN.out.2.1
 have hal2 : al ≤ 1000 := HLEN.out.2.2
 have HROW := hid hRow
 have HGR := hid hgR
 have HRL := hid hrl2
 have i0 : (0 : Int) ≤ (c : Int) := by omega
 have i1 : (c : Int) < (ol : Int) := by omega
 have i2 : (0 : Int) ≤ (s : Int) := by omega
 have i3 : (s : Int) < (ul : Int) := by omega
 have HPO : Hid (∀ (w' : World) (v : Value), Ext w w' → OwnR w' w.heap.size 3 1 natA v (List.map (at0 a) r) → (Ext w w' ∧ ∃ v', Ending.returned v = .returned v' ∧ OwnR w' w.heap.size 3 1 natA v' (stepK E a one c))) := hid fun w' v h1 h2 => ⟨h1, v, rfl, by rw [← HRES.out]; exact h2⟩
 obtain ⟨Q, hQ⟩ : ∃ Q : Ending → World → Prop, Q = fun e w' => Ext w w' ∧ ∃ v, e = .returned v ∧ OwnR w' w.heap.size 3 1 natA v (stepK E a one c) := ⟨_, rfl⟩
 have HPQ : Hid (∀ (w' : World) (v : Value), Ext w w' → OwnR w' w.heap.size 3 1 natA v (List.map (at0 a) r) → Q (.returned v) w') := hid fun w' v h1 h2 => by rw [hQ]; exact HPO.out w' v h1 h2
 rw [← hQ]
 clear hW hE ha hm hn hs hc hr hrl hrf hu hRow hgR hgN hgO hgA hrl2 hul hol2 hal HPO hQ HRES
 go_enter Tryz.func62, Tryz.ntmps62
 go_wp2_with fail
 go_quiet (fail)
 go_wp2_with fail
 clear c0 c1 d0 d1 d2
 go_loopg [6, 18] rl (fun g v u wr => ∃ j, g = rl - j ∧ j ≤ rl ∧ u = .int .i64 j ∧ Hid (Ext w wr ∧ OwnR wr w.heap.size 3 1 natA v (List.map (at0 a) (r.take j))))
 case atStart => exact ⟨0, rfl, Nat.zero_le _, rfl, hid ⟨ext_drewN (Below.refl _ _) _, OwnR.nil _ _ _ _ _⟩⟩
 case round =>
  obtain ⟨j, rfl, hj, rfl, HW⟩ := hrel
  obtain ⟨v, hv⟩ : ∃ v, v = u6 := ⟨_, rfl⟩
  subst hv
  by_cases hlt : j < rl
  ·obtain ⟨gR, oR, rfl⟩ := HGR.out (by omega)
   obtain ⟨z, hz⟩ : ∃ z, r[j]? = some z := ⟨_, List.getElem?_eq_getElem (by rw [← HRL.out]; exact hlt)⟩
   obtain ⟨hz1, hz2⟩ := HZ.out j z hz
   have e1 : wr.cell? ⟨gR, oR + j, none⟩ = some (.int .i64 z) := by
    have h := HROW.out.ext HW.out.1
    rw [HRL.out] at h
    exact h.cell1 hz
   have e2 : wr.cell? ⟨gA, oA + z, none⟩ = some (.int .i64 (at0 a z : Nat)) := (HW.out.1.cell (p := ⟨gA, oA + z, none⟩) HALT.out.1).trans hz2
   have e3 : wr.cell? ⟨bL, 0, none⟩ = some (.slice (some ⟨gA, oA, none⟩) al cA) := (HW.out.1.cell (p := ⟨bL, 0, none⟩) HALT.out.2).trans HD2.out
   obtain ⟨y, hy⟩ : ∃ y, y = at0 a z := ⟨_, rfl⟩
   rw [← hy] at e2
   have HY := hid hy
   have HZZ := hid hz
   have HOW := hid HW.out.2
   have hsz := HW.out.1.size
   have hln : (List.map (at0 a) (r.take j)).length + 1 ≤ 1000000000 := by rw [List.length_map, List.length_take]; omega
   clear hz hz2 hy
   go_wp2_with (at_builtin
                go_loud (refine wpList_append_R elem_int (fun _ => rfl) ones_int HOW hsz hln y _ rfl wr.heap.size rfl rfl _ _ rfl rfl rfl ?_)
                rintro g' c' v' w7 rfl G1 G2)
   go_roundg (rl - (j + 1))
   case measure => omega
   case rel =>
    refine ⟨j + 1, rfl, by omega, by go_num, hid ⟨ext_grown HW.out.1 G2.out.1 (fun k e => (HOW.out.lt k e).1), ?_⟩⟩
    rw [take_snoc HZZ.out, List.map_append, List.map_cons, List.map_nil, ← HY.out]
    have h := G1.out
    rw [List.length_map, List.length_take] at h
    exact h
  ·obtain rfl : rl = j := by omega
   go_wp2_with fail
   have h := HW.out.2
   rw [List.take_of_length_le (by rw [← HRL.out]; exact Nat.le_refl _)] at h
   exact HPQ.out wr v HW.out.1 h
set_option maxRecDepth 100000 in
set_option maxHeartbeats 1000000 in
theorem small3_any {w : World} {bF bO : Nat} {vF vO : Value} {fins : List Bool} {one : List Nat} (hF : Blk w bF 24 #[vF]) (hFR : ReadR w 1 boolC vF fins) (hO : Blk w bO 46 #[vO]) (hOR : ReadR w 1 natA vO one) {c s : Nat} {b : Bool} (hc : one[c]? = some s) (hs : fins[s]? = some b) (hl : one.length ≤ 1000) (hl2 : fins.length ≤ 1000) :
 Calls Tryz.prog 64 #[.int .i64 c, .pointer (some ⟨bF, 0, none⟩), .pointer (some ⟨bO, 0, none⟩)] w fun e w' => e = .returned (.bool b) ∧ Ext w w' := by
 obtain ⟨aoF, cF, rfl, hgF⟩ := hFR.form
 obtain ⟨aoO, cO, rfl, hgO⟩ := hOR.form
 have h1 : c < one.length := (List.getElem?_eq_some_iff.1 hc).1
 have h2 : s < fins.length := (List.getElem?_eq_some_iff.1 hs).1
 obtain ⟨gF, oF, rfl⟩ := hgF (by omega)
 obtain ⟨gO, oO, rfl⟩ := hgO (by omega)
 have c0 : w.cell? ⟨gO, oO + c, none⟩ = some (.int .i64 s) := hOR.cell1 hc
 have c1 : w.cell? ⟨gF, oF + s, none⟩ = some (.bool b) := hFR.cell1 hs
 have d0 : w.cell? ⟨bF, 0, none⟩ = some (.slice (some ⟨gF, oF, none⟩) fins.length cF) := hF.cell rfl
 have d1 : w.cell? ⟨bO, 0, none⟩ = some (.slice (some ⟨gO, oO, none⟩) one.length cO) := hO.cell rfl
 obtain ⟨fl, hfl⟩ : ∃ n, n = fins.length := ⟨_, rfl⟩
 obtain ⟨ol, hol⟩ : ∃ n, n = one.length := ⟨_, rfl⟩
 rw [← hfl] at d0 h2 hl2
 rw [← hol] at d1 h1 hl
 have i0 : (0 : Int) ≤ (c : Int) := by omega
 have i1 : (c : Int) < (ol : Int) := by omega
 have i2 : (0 : Int) ≤ (s : Int) := by omega
 have i3 : (s : Int) < (fl : Int) := by omega
 clear hF hFR hO hOR hc hs hfl hol hgF hgO
 go_enter Tryz.func64, Tryz.ntmps64
 go_wp2_with fail
 go_quiet (fail)
 go_wp2_with fail
 go_ret
 exact ⟨rfl, ext_drewN (Below.refl _ _) _⟩
end Go.Proofs.YtngpjagpeblbjaaGreatDoor
