/-
  Walk of DFA.Not.
  Walk of the closures that tell which pairs of states are final.
  Walk of slices.IndexFunc over pairs, and of the closure that tells where a pair of states goes.
  Where a pair of states goes.
  Walk of the closure that tells where a pair of states goes.
  Walk of pairs, and of the tour through pairs of states.
-/
import Derived.Test.YtngpjagpeblbjaaGreatDoorB03
namespace Go.Proofs.YtngpjagpeblbjaaGreatDoor
open Go.RowKit Go.Spy Go.Heaped Go.Tour Go.Rx
def NotPost (D : DA) (w : World) (e : Ending) (w' : World) : Prop := ∃ v, e = .returned (.tuple #[v, .int .i64 0]) ∧ DfaW w' v (notD D) ∧ Ext w w'
set_option maxRecDepth 100000 in
set_option maxHeartbeats 4000000 in
theorem not_any {w : World} {v : Value} {D : DA} (hD : DfaW w v D) : Calls Tryz.prog 14 #[v] w (NotPost D w) := by
 obtain ⟨⟨vS, vN, vF, us, rfl, hP⟩, hB, W⟩ := hD
 have HC1 : Hid (∀ W', Ext w W' → Calls Tryz.prog 11 #[.agg #[vS, vN, vF]] W' (ErrP 0 W')) := hid fun W' e => well_check W ▸ dcheck_any (hP.ext e) hB
 obtain ⟨aoS, cS, rfl, -⟩ := hP.syms.form
 obtain ⟨aoN, cN, rfl, hN⟩ := hP.next.form
 obtain ⟨aoF, cF, rfl, hF⟩ := hP.fin.form
 have HCL := hid fun W' (e : Ext w W') => clone_str (hP.syms.ext e) (by have := hB.s; omega)
 obtain ⟨n1, hn1⟩ : ∃ n, n = D.raw.syms.length := ⟨_, rfl⟩
 obtain ⟨n2, hn2⟩ : ∃ n, n = us.length := ⟨_, rfl⟩
 obtain ⟨n3, hn3⟩ : ∃ n, n = D.raw.fin.length := ⟨_, rfl⟩
 have hl2 : n2 = D.next.length := by rw [hn2, hP.len]; simp [DF.raw]
 have hl3 : n3 = D.next.length := by rw [hn3]; exact W.ok.fin
 have hl4 : n2 ≤ 256 := by rw [hl2]; exact W.most
 have HP := hid hP
 have HB := hid hB
 have HW' := hid W
 have hpos : 0 < D.next.length := W.ok.pos
 rw [← hn2] at hN
 obtain ⟨gN, oN, rfl⟩ := hN (by omega)
 rw [← hn3] at hF
 obtain ⟨gF, oF, rfl⟩ := hF (by omega)
 rw [← hn1] at HC1 HCL ⊢
 rw [← hn2, ← hn3] at HC1 ⊢
 rw [← hn1, ← hn2, ← hn3] at HP
 have HL2 := hid hl2
 have HL3 := hid hl3
 have HN1 := hid hn1
 have HN2 := hid hn2
 have HN3 := hid hn3
 have hE0 : Ext w ((w.alloc (.cells #[.slice aoS n1 cS, .slice (some ⟨gN, oN, none⟩) n2 cN, .slice (some ⟨gF, oF, none⟩) n3 cF] 26)).alloc (.cells #[.slice none 0 0, .slice none 0 0, .slice none 0 0] 26)) := ((Below.refl _ _).alloc (Nat.le_refl _) _).alloc (by simp) _
 have HE0 := hid hE0
 clear hP hB W hn1 hn2 hn3 hE0 hl2 hl3 hpos hN hF
 go_enter Tryz.func14, Tryz.ntmps14
 go_wp2_with fail
 refine (HC1.out _ HE0.out).mono ?_
 rintro e w2 ⟨rfl, hx⟩
 have HX2 := hid (HE0.out.trans (hx.mono HE0.out.size))
 have hS2 : Blk w2 (w.heap.size + 1) 26 #[.slice none 0 0, .slice none 0 0, .slice none 0 0] := (Blk.new' (w.alloc (.cells #[.slice aoS n1 cS, .slice (some ⟨gN, oN, none⟩) n2 cN, .slice (some ⟨gF, oF, none⟩) n3 cF] 26)) 26 _ (by simp)).ext hx
 have hO2 : Blk w2 w.heap.size 26 #[.slice aoS n1 cS, .slice (some ⟨gN, oN, none⟩) n2 cN, .slice (some ⟨gF, oF, none⟩) n3 cF] := ((Blk.new w _ _).alloc _).ext hx
 have c0 : w2.cell? ⟨w.heap.size, 0, none⟩ = some (.slice aoS n1 cS) := hO2.cell (i := 0) rfl
 have rl := hO2.lt
 have HS2 := hid hS2
 have HO2 := hid hO2
 clear hx hS2 hO2
 go_wp2_with fail
 refine (HCL.out _ HX2.out).mono ?_
 rintro e w3 ⟨hx, vS', rfl, hO⟩
 obtain ⟨aoC, cC, rfl, -⟩ := (OwnR.read hO strC_size).form
 rw [← HN1.out] at hO ⊢
 have HO := hid (hO.lower HX2.out.size)
 have HX3 := hid (HX2.out.trans (hx.mono HX2.out.size))
 have HS3 := hid (HS2.out.ext hx)
 have HO3 := hid (HO2.out.ext hx)
 clear hx hO c0 rl HS2 HO2
 have c1 : w3.cell? ⟨w.heap.size, 1, none⟩ = some (.slice (some ⟨gN, oN, none⟩) n2 cN) := HO3.out.cell (i := 1) rfl
 have rl := HO3.out.lt
 go_upto_region 5 with fail
 obtain ⟨b5, hb5⟩ : ∃ b, b = w3.heap.size := ⟨_, rfl⟩
 have hs3 : w.heap.size + 1 < b5 := by rw [hb5]; exact HS3.out.lt
 obtain ⟨wA, hwA⟩ : ∃ u, u = w3.alloc (.cells #[.slice aoC n1 cC, .slice none 0 0, .slice none 0 0] 26) := ⟨_, rfl⟩
 have eA : Ext w3 wA := hwA ▸ (Below.refl _ _).alloc (Nat.le_refl _) _
 have hNW : NotW w wA b5 #[.slice aoS n1 cS, .slice (some ⟨gN, oN, none⟩) n2 cN, .slice (some ⟨gF, oF, none⟩) n3 cF] (.slice aoC n1 cC) (.slice none 0 0) (.slice none 0 0) [] D.syms [] [] :=
  ⟨HX3.out.trans (eA.mono HX3.out.size), HO3.out.ext eA, HS3.out.ext eA, by rw [hb5, hwA]; exact Blk.new _ _ _, HO.out.ext eA, OwnR.nil _ _ _ _ _, rfl, fun i u r hu => by simp at hu, OwnR.nil _ _ _ _ _, hs3⟩
 have HNW := hid hNW
 rw [← hb5, ← hwA]
 have c2 : wA.cell? ⟨w.heap.size, 1, none⟩ = some (.slice (some ⟨gN, oN, none⟩) n2 cN) := hNW.box.cell (i := 1) rfl
 have rl2 := hNW.box.lt
 clear c1 rl hb5 hwA eA hNW HO3 HS3 HX3 HO
 go_wp2_with fail
 go_loopg [21] n2 (fun g u wr => ∃ j vN vF us', g = n2 - j ∧ j ≤ n2 ∧ u = .int .i64 j ∧ Hid (NotW w wr b5 #[.slice aoS n1 cS, .slice (some ⟨gN, oN, none⟩) n2 cN, .slice (some ⟨gF, oF, none⟩) n3 cF] (.slice aoC n1 cC) vN vF us' D.syms (D.raw.next.take j) ((D.fin.take j).map (!·))))
 case atStart => exact ⟨0, _, _, _, rfl, Nat.zero_le _, rfl, HNW⟩
 case round =>
  clear HNW c2 rl2
  obtain ⟨j, vN, vF, us', rfl, hj, rfl, HW⟩ := hrel
  by_cases hlt : j < n2
  ·obtain ⟨fs, hfs⟩ : ∃ fs, fs = (D.fin.take j).map (!·) := ⟨_, rfl⟩
   obtain ⟨rw, hrw⟩ : ∃ rw, rw = D.raw.next.take j := ⟨_, rfl⟩
   have hrwl : rw.length = j := by
    have := HP.out.len
    rw [hrw, List.length_take]
    have := HN2.out
    omega
   rw [← hfs, ← hrw] at HW
   have HFS := hid hfs
   have HRW := hid hrwl
   have HRS := hid hrw
   obtain ⟨u, hu⟩ : ∃ u, us[j]? = some u := ⟨_, List.getElem?_eq_getElem (by rw [← HN2.out]; exact hlt)⟩
   obtain ⟨r, hr⟩ : ∃ r, D.raw.next[j]? = some r := ⟨_, List.getElem?_eq_getElem (by rw [← HP.out.len, ← HN2.out]; exact hlt)⟩
   have hRR := HP.out.rows j u r hu hr
   have hrl : r.length ≤ 1000 := HB.out.r r (List.mem_of_getElem? hr)
   have HR := hid hr
   have HCR := hid fun W' (e : Ext w W') => clone_int (hRR.ext e) (by omega)
   obtain ⟨aoR, cR, rfl, -⟩ := hRR.form
   have c1 : wr.cell? ⟨gN, oN + j, none⟩ = some (.slice aoR r.length cR) := (HP.out.next.ext HW.out.ext).cell1 hu
   obtain ⟨rl, hrl2⟩ : ∃ n, n = r.length := ⟨_, rfl⟩
   rw [← hrl2] at HCR c1
   have HRL := hid hrl2
   clear hfs hrw hrwl hu hr hRR hrl hrl2
   have z1 : wr.cell? ⟨b5, 1, none⟩ = some vN := HW.out.dfa.cell (i := 1) rfl
   have zl := HW.out.dfa.lt
   go_upto_region 8 with fail
   have hS0 : wr.heap.size ≤ wr.drew.heap.size := Nat.le_refl _
   go_cut [] from 26 to 44 (fun wx => ∃ vN2 us2, Hid (NotW w wx b5 #[.slice aoS n1 cS, .slice (some ⟨gN, oN, none⟩) n2 cN, .slice (some ⟨gF, oF, none⟩) n3 cF] (.slice aoC n1 cC) vN2 vF us2 D.syms (rw ++ [r]) fs))
   case first =>
    refine wp_region_heldL (fun w' => wr.heap.size ≤ w'.heap.size) (by kernel_rfl) ?_
    refine wpAnyH_takeK 0 7 (mk 8 1) rfl (by kernel_rfl) rfl (.pointer (some ⟨b5, 1, none⟩)) (fun _ _ _ h => h) (Or.inl ⟨rfl, fun w' hS => ?_⟩) hS0 ?_
    ·go_simp <;> with_reducible rfl
    refine wpAnyH_takeK 2 6 (mk 8 5) rfl (by kernel_rfl) rfl (.slice aoR rl cR) (fun _ _ _ h => h) (Or.inl ⟨rfl, fun w' hS => ?_⟩) hS0 ?_
    ·go_simp <;> with_reducible rfl
    refine wpAnyH_two 1 3 5 (mk 8 7) (mk 8 13) rfl rfl (by kernel_rfl) rfl ?_ ?_
    ·go_wp2_with fail
     refine ⟨hS0, ?_⟩
     refine wpAnyH_one 3 4 (mk 8 15) rfl (by kernel_rfl) rfl ?_
     go_wp2_with fail
     refine (HCR.out wr.drew HW.out.ext.drew).mono ?_
     rintro e w4 ⟨hx, vR, rfl, hOR⟩
     obtain ⟨aoQ, cQ, rfl, -⟩ := (OwnR.read hOR (fun _ => rfl)).form
     rw [← HRL.out] at hOR ⊢
     have hE4 : Ext wr w4 := (Below.refl wr.heap.size wr).drew.trans (hx.mono (by simp))
     have HE4 := hid hE4
     have HOR := hid (hOR.lower (HW.out.ext.size))
     have z4 : w4.cell? ⟨b5, 1, none⟩ = some vN := (HW.out.dfa.ext hE4).cell (i := 1) rfl
     have zl4 := (HW.out.dfa.ext hE4).lt
     clear hx hOR hE4
     go_wp2_with fail
     refine ⟨HE4.out.size, ?_⟩
     refine wpAnyH_one 4 3 (mk 8 31) rfl (by kernel_rfl) rfl ?_
     go_wp2_with fail
     refine ⟨by have := HE4.out.size; simp; omega, ?_⟩
     have HW4 := hid (HW.out.ext' HE4.out)
     have HOW4 := hid HW4.out.next
     have hsz4 := HW4.out.ext.size
     have hln : us'.length + 1 ≤ 1000000000 := by have := HW4.out.len; have := HRW.out; omega
     refine wpAnyH_one 5 2 (mk 8 63) rfl (by kernel_rfl) rfl ?_
     go_wp2_with (with_reducible refine onOp 31 ?_
                  go_loud (refine wpList_append_R elem_row (fun _ => rfl) ones_row HOW4 hsz4 hln (.slice aoQ rl cQ) _ rfl w4.heap.size rfl rfl _ _ rfl rfl rfl ?_)
                  rintro g' c' v' w6 rfl G1 G2)
     have P6 := HW4.out.appN HOR.out rfl G1.out G2.out.1 G2.out.2
     have y2 : w6.cell? ⟨b5, 1, none⟩ = some vN := P6.1.cell (i := 1) rfl
     have yf := P6.1.frozen
     have yl := P6.1.lt
     have HP6 := hid P6.2
     have hz6 : wr.heap.size ≤ w6.heap.size := Nat.le_trans HE4.out.size G2.out.1.size
     clear P6
     refine ⟨hz6, ?_⟩
     refine wpAnyH_one 6 1 (mk 8 127) rfl (by kernel_rfl) rfl ?_
     go_wp2_with fail
     refine ⟨hz6, ?_⟩
     refine wpAnyH_one 7 0 (mk 8 255) rfl (by kernel_rfl) rfl ?_
     go_wp2_with fail
     refine ⟨by simpa [World.setCell] using hz6, ?_⟩
     refine wpAnyH_end (P := Tryz.prog) (by kernel_rfl) ?_
     go_wp2_with fail
     go_meet
     exact ⟨_, _, HP6⟩
    ·go_wp2_with fail
     refine (HCR.out wr.drew HW.out.ext.drew).mono ?_
     rintro e w4 ⟨hx, vR, rfl, hOR⟩
     obtain ⟨aoQ, cQ, rfl, -⟩ := (OwnR.read hOR (fun _ => rfl)).form
     rw [← HRL.out] at hOR ⊢
     have hE4 : Ext wr w4 := (Below.refl wr.heap.size wr).drew.trans (hx.mono (by simp))
     have HE4 := hid hE4
     have HOR := hid (hOR.lower (HW.out.ext.size))
     have z4 : w4.cell? ⟨b5, 1, none⟩ = some vN := (HW.out.dfa.ext hE4).cell (i := 1) rfl
     have zl4 := (HW.out.dfa.ext hE4).lt
     clear hx hOR hE4
     go_wp2_with fail
     refine ⟨HE4.out.size, ?_⟩
     refine wpAnyH_two 1 4 4 (mk 8 15) (mk 8 29) rfl rfl (by kernel_rfl) rfl ?_ ?_
     ·go_wp2_with fail
      refine ⟨HE4.out.size, ?_⟩
      refine wpAnyH_one 4 3 (mk 8 31) rfl (by kernel_rfl) rfl ?_
      go_wp2_with fail
      refine ⟨by have := HE4.out.size; simp; omega, ?_⟩
      have HW4 := hid (HW.out.ext' HE4.out)
      have HOW4 := hid HW4.out.next
      have hsz4 := HW4.out.ext.size
      have hln : us'.length + 1 ≤ 1000000000 := by have := HW4.out.len; have := HRW.out; omega
      refine wpAnyH_one 5 2 (mk 8 63) rfl (by kernel_rfl) rfl ?_
      go_wp2_with (with_reducible refine onOp 31 ?_
                   go_loud (refine wpList_append_R elem_row (fun _ => rfl) ones_row HOW4 hsz4 hln (.slice aoQ rl cQ) _ rfl w4.heap.size rfl rfl _ _ rfl rfl rfl ?_)
                   rintro g' c' v' w6 rfl G1 G2)
      have P6 := HW4.out.appN HOR.out rfl G1.out G2.out.1 G2.out.2
      have y2 : w6.cell? ⟨b5, 1, none⟩ = some vN := P6.1.cell (i := 1) rfl
      have yf := P6.1.frozen
      have yl := P6.1.lt
      have HP6 := hid P6.2
      have hz6 : wr.heap.size ≤ w6.heap.size := Nat.le_trans HE4.out.size G2.out.1.size
      clear P6
      refine ⟨hz6, ?_⟩
      refine wpAnyH_one 6 1 (mk 8 127) rfl (by kernel_rfl) rfl ?_
      go_wp2_with fail
      refine ⟨hz6, ?_⟩
      refine wpAnyH_one 7 0 (mk 8 255) rfl (by kernel_rfl) rfl ?_
      go_wp2_with fail
      refine ⟨by simpa [World.setCell] using hz6, ?_⟩
      refine wpAnyH_end (P := Tryz.prog) (by kernel_rfl) ?_
      go_wp2_with fail
      go_meet
      exact ⟨_, _, HP6⟩
     ·go_wp2_with fail
      refine ⟨by have := HE4.out.size; simp; omega, ?_⟩
      refine wpAnyH_one 1 3 (mk 8 31) rfl (by kernel_rfl) rfl ?_
      go_wp2_with fail
      refine ⟨by have := HE4.out.size; simp; omega, ?_⟩
      have HW4 := hid (HW.out.ext' HE4.out)
      have HOW4 := hid HW4.out.next
      have hsz4 := HW4.out.ext.size
      have hln : us'.length + 1 ≤ 1000000000 := by have := HW4.out.len; have := HRW.out; omega
      refine wpAnyH_one 5 2 (mk 8 63) rfl (by kernel_rfl) rfl ?_
      go_wp2_with (with_reducible refine onOp 31 ?_
                   go_loud (refine wpList_append_R elem_row (fun _ => rfl) ones_row HOW4 hsz4 hln (.slice aoQ rl cQ) _ rfl w4.heap.size rfl rfl _ _ rfl rfl rfl ?_)
                   rintro g' c' v' w6 rfl G1 G2)
      have P6 := HW4.out.appN HOR.out rfl G1.out G2.out.1 G2.out.2
      have y2 : w6.cell? ⟨b5, 1, none⟩ = some vN := P6.1.cell (i := 1) rfl
      have yf := P6.1.frozen
      have yl := P6.1.lt
      have HP6 := hid P6.2
      have hz6 : wr.heap.size ≤ w6.heap.size := Nat.le_trans HE4.out.size G2.out.1.size
      clear P6
      refine ⟨hz6, ?_⟩
      refine wpAnyH_one 6 1 (mk 8 127) rfl (by kernel_rfl) rfl ?_
      go_wp2_with fail
      refine ⟨hz6, ?_⟩
      refine wpAnyH_one 7 0 (mk 8 255) rfl (by kernel_rfl) rfl ?_
      go_wp2_with fail
      refine ⟨by simpa [World.setCell] using hz6, ?_⟩
      refine wpAnyH_end (P := Tryz.prog) (by kernel_rfl) ?_
      go_wp2_with fail
      go_meet
      exact ⟨_, _, HP6⟩
   case rest =>
    obtain ⟨vN2, us2, HW2⟩ := hcut
    obtain ⟨b, hb⟩ : ∃ b, D.raw.fin[j]? = some b := ⟨_, List.getElem?_eq_getElem (by rw [← HN3.out, HL3.out, ← HL2.out]; exact hlt)⟩
    have HBB := hid hb
    have hjn : j < n3 := by rw [HL3.out, ← HL2.out]; exact hlt
    have hln : fs.length + 1 ≤ 1000000000 := by rw [HFS.out]; simp; omega
    have g1 : (0 : Int) ≤ (j : Int) := by omega
    have g2 : (j : Int) < (n3 : Int) := by omega
    clear hb c1 z1 zl hS0
    have z1 : wc.cell? ⟨b5, 2, none⟩ = some vF := HW2.out.dfa.cell (i := 2) rfl
    have zl := HW2.out.dfa.lt
    have hS0 : Ext w wc.drew ∧ Blk wc.drew w.heap.size 26 #[.slice aoS n1 cS, .slice (some ⟨gN, oN, none⟩) n2 cN, .slice (some ⟨gF, oF, none⟩) n3 cF] := ⟨HW2.out.ext.drew, HW2.out.box.drew⟩
    go_upto_region 9 with fail
    refine wp_region_heldL (fun w' => Ext w w' ∧ Blk w' w.heap.size 26 #[.slice aoS n1 cS, .slice (some ⟨gN, oN, none⟩) n2 cN, .slice (some ⟨gF, oF, none⟩) n3 cF]) (by kernel_rfl) ?_
    refine wpAnyH_takeK 0 11 (mk 12 1) rfl (by kernel_rfl) rfl (.pointer (some ⟨b5, 2, none⟩)) (fun _ _ _ h => h) (Or.inl ⟨rfl, fun w' hS => ?_⟩) hS0 ?_
    ·go_simp <;> with_reducible rfl
    refine wpAnyH_takeK 2 10 (mk 12 5) rfl (by kernel_rfl) rfl (.pointer (some ⟨w.heap.size, 2, none⟩)) (fun _ _ _ h => h) (Or.inl ⟨rfl, fun w' hS => ?_⟩) hS0 ?_
    ·go_simp <;> with_reducible rfl
    refine wpAnyH_takeK 4 9 (mk 12 21) rfl (by kernel_rfl) rfl (.int .i64 j) (fun _ _ _ h => h) (Or.inl ⟨rfl, fun w' hS => ?_⟩) hS0 ?_
    ·go_simp <;> with_reducible rfl
    refine wpAnyH_takeK 3 8 (mk 12 29) rfl (by kernel_rfl) rfl (.slice (some ⟨gF, oF, none⟩) n3 cF) (fun _ _ _ h => h) (Or.inl ⟨rfl, fun w' hS => ?_⟩) hS0 ?_
    ·have c1 : w'.cell? ⟨w.heap.size, 2, none⟩ = some (.slice (some ⟨gF, oF, none⟩) n3 cF) := hS.2.cell (i := 2) rfl; go_simp <;> with_reducible rfl
    refine wpAnyH_takeK 5 7 (mk 12 61) rfl (by kernel_rfl) rfl (.pointer (some ⟨gF, oF + j, none⟩)) (fun _ _ _ h => h) (Or.inl ⟨rfl, fun w' hS => ?_⟩) hS0 ?_
    ·go_simp <;> with_reducible rfl
    refine wpAnyH_takeK 6 6 (mk 12 125) rfl (by kernel_rfl) rfl (.bool b) (fun _ _ _ h => h) (Or.inl ⟨rfl, fun w' hS => ?_⟩) hS0 ?_
    ·have c1 : w'.cell? ⟨gF, oF + j, none⟩ = some (.bool b) := (HP.out.fin.ext hS.1).cell1 HBB.out; go_simp <;> with_reducible rfl
    refine wpAnyH_takeK 7 5 (mk 12 253) rfl (by kernel_rfl) rfl (.bool (!b)) (fun _ _ _ h => h) (Or.inl ⟨rfl, fun w' hS => ?_⟩) hS0 ?_
    ·go_simp <;> with_reducible rfl
    refine wpAnyH_two 1 8 4 (mk 12 255) (mk 12 509) rfl rfl (by kernel_rfl) rfl ?_ ?_
    ·go_wp2_with fail
     refine ⟨hS0, ?_⟩
     refine wpAnyH_one 8 3 (mk 12 511) rfl (by kernel_rfl) rfl ?_
     go_wp2_with fail
     refine ⟨⟨HW2.out.ext.drew.alloc (by have := HW2.out.ext.size; simp; omega) _, HW2.out.box.drew.alloc _⟩, ?_⟩
     have HW4 := hid (HW2.out.ext' (Below.refl wc.heap.size wc).drew)
     have HOW4 := hid HW4.out.fin
     have hsz4 := HW4.out.ext.size
     refine wpAnyH_one 9 2 (mk 12 1023) rfl (by kernel_rfl) rfl ?_
     go_wp2_with (with_reducible refine onOp 42 ?_
                  go_loud (refine wpList_append_R elem_bool (fun _ => rfl) ones_bool HOW4 hsz4 hln (!b) _ rfl wc.heap.size rfl rfl _ _ rfl rfl rfl ?_)
                  rintro g' c' v' w6 rfl G1 G2)
     have P6 := HW4.out.appF rfl G1.out G2.out.1 G2.out.2
     have y2 : w6.cell? ⟨b5, 2, none⟩ = some vF := P6.1.cell (i := 2) rfl
     have yf := P6.1.frozen
     have yl := P6.1.lt
     have HP6 := hid P6.2
     have h6 : Ext w w6 ∧ Blk w6 w.heap.size 26 #[.slice aoS n1 cS, .slice (some ⟨gN, oN, none⟩) n2 cN, .slice (some ⟨gF, oF, none⟩) n3 cF] := by
      have c6 : Chg (fun k => vF.ownBlock = some k) _ w6 := (Chg.refl _ _).grown G2.out.1 (fun k e => e)
      exact ⟨HW4.out.ext.trans ((c6.mono (S' := fun k => w.heap.size ≤ k) fun k _ e => (HOW4.out.lt k e).1).below HW4.out.ext.size (fun k e => e)), HW4.out.box.chg c6 (own_blk_ne HOW4.out HW4.out.box (by decide))⟩
     have H6 := hid h6
     clear P6 h6
     refine ⟨H6.out, ?_⟩
     refine wpAnyH_one 10 1 (mk 12 2047) rfl (by kernel_rfl) rfl ?_
     go_wp2_with fail
     refine ⟨H6.out, ?_⟩
     refine wpAnyH_one 11 0 (mk 12 4095) rfl (by kernel_rfl) rfl ?_
     go_wp2_with fail
     refine ⟨⟨HP6.out.ext, HP6.out.box⟩, ?_⟩
     refine wpAnyH_end (P := Tryz.prog) (by kernel_rfl) ?_
     go_wp2_with fail
     go_roundg (n2 - (j + 1))
     case measure => omega
     case rel =>
      refine ⟨j + 1, vN2, .slice (some ⟨g', 0, none⟩) (fs.length + 1) c', us2, rfl, by omega, by go_num, hid ?_⟩
      have e1 : (D.fin.take (j + 1)).map (!·) = fs ++ [!b] := by
       obtain ⟨h2, h3⟩ := List.getElem?_eq_some_iff.1 HBB.out
       have h2' : j < D.fin.length := h2
       rw [HFS.out, List.take_succ_eq_append_getElem h2', List.map_append]
       congr 1
       simp only [List.map_cons, List.map_nil, List.cons.injEq, and_true]
       exact congrArg (!·) h3
      have e2 : D.raw.next.take (j + 1) = rw ++ [r] := by
       obtain ⟨h2, h3⟩ := List.getElem?_eq_some_iff.1 HR.out
       rw [HRS.out, List.take_succ_eq_append_getElem h2, h3]
      rw [e1, e2]
      exact HP6.out
    ·go_wp2_with fail
     refine ⟨⟨HW2.out.ext.drew.alloc (by have := HW2.out.ext.size; simp; omega) _, HW2.out.box.drew.alloc _⟩, ?_⟩
     refine wpAnyH_one 1 3 (mk 12 511) rfl (by kernel_rfl) rfl ?_
     go_wp2_with fail
     refine ⟨⟨HW2.out.ext.drew.alloc (by have := HW2.out.ext.size; simp; omega) _, HW2.out.box.drew.alloc _⟩, ?_⟩
     have HW4 := hid (HW2.out.ext' (Below.refl wc.heap.size wc).drew)
     have HOW4 := hid HW4.out.fin
     have hsz4 := HW4.out.ext.size
     refine wpAnyH_one 9 2 (mk 12 1023) rfl (by kernel_rfl) rfl ?_
     go_wp2_with (with_reducible refine onOp 42 ?_
                  go_loud (refine wpList_append_R elem_bool (fun _ => rfl) ones_bool HOW4 hsz4 hln (!b) _ rfl wc.heap.size rfl rfl _ _ rfl rfl rfl ?_)
                  rintro g' c' v' w6 rfl G1 G2)
     have P6 := HW4.out.appF rfl G1.out G2.out.1 G2.out.2
     have y2 : w6.cell? ⟨b5, 2, none⟩ = some vF := P6.1.cell (i := 2) rfl
     have yf := P6.1.frozen
     have yl := P6.1.lt
     have HP6 := hid P6.2
     have h6 : Ext w w6 ∧ Blk w6 w.heap.size 26 #[.slice aoS n1 cS, .slice (some ⟨gN, oN, none⟩) n2 cN, .slice (some ⟨gF, oF, none⟩) n3 cF] := by
      have c6 : Chg (fun k => vF.ownBlock = some k) _ w6 := (Chg.refl _ _).grown G2.out.1 (fun k e => e)
      exact ⟨HW4.out.ext.trans ((c6.mono (S' := fun k => w.heap.size ≤ k) fun k _ e => (HOW4.out.lt k e).1).below HW4.out.ext.size (fun k e => e)), HW4.out.box.chg c6 (own_blk_ne HOW4.out HW4.out.box (by decide))⟩
     have H6 := hid h6
     clear P6 h6
     refine ⟨H6.out, ?_⟩
     refine wpAnyH_one 10 1 (mk 12 2047) rfl (by kernel_rfl) rfl ?_
     go_wp2_with fail
     refine ⟨H6.out, ?_⟩
     refine wpAnyH_one 11 0 (mk 12 4095) rfl (by kernel_rfl) rfl ?_
     go_wp2_with fail
     refine ⟨⟨HP6.out.ext, HP6.out.box⟩, ?_⟩
     refine wpAnyH_end (P := Tryz.prog) (by kernel_rfl) ?_
     go_wp2_with fail
     go_roundg (n2 - (j + 1))
     case measure => omega
     case rel =>
      refine ⟨j + 1, vN2, .slice (some ⟨g', 0, none⟩) (fs.length + 1) c', us2, rfl, by omega, by go_num, hid ?_⟩
      have e1 : (D.fin.take (j + 1)).map (!·) = fs ++ [!b] := by
       obtain ⟨h2, h3⟩ := List.getElem?_eq_some_iff.1 HBB.out
       have h2' : j < D.fin.length := h2
       rw [HFS.out, List.take_succ_eq_append_getElem h2', List.map_append]
       congr 1
       simp only [List.map_cons, List.map_nil, List.cons.injEq, and_true]
       exact congrArg (!·) h3
      have e2 : D.raw.next.take (j + 1) = rw ++ [r] := by
       obtain ⟨h2, h3⟩ := List.getElem?_eq_some_iff.1 HR.out
       rw [HRS.out, List.take_succ_eq_append_getElem h2, h3]
      rw [e1, e2]
      exact HP6.out
  ·have hj2 : j = n2 := by omega
   subst hj2
   have e1 : (D.fin.take j).map (!·) = (notD D).raw.fin := by
    rw [List.take_of_length_le (by have := HL3.out; have := HL2.out; have := HW'.out.ok.fin; omega)]; rfl
   have e2 : D.raw.next.take j = (notD D).raw.next := by
    rw [List.take_of_length_le (by have := HL2.out; simp [DF.raw]; omega)]; rfl
   rw [e1, e2] at HW
   obtain ⟨aoM, cM, rfl, -⟩ := (OwnR.read HW.out.next (fun _ => rfl)).form
   obtain ⟨aoG, cG, rfl, -⟩ := (OwnR.read HW.out.fin (fun _ => rfl)).form
   obtain ⟨m2, hm2⟩ : ∃ n, n = us'.length := ⟨_, rfl⟩
   obtain ⟨m3, hm3⟩ : ∃ n, n = (notD D).raw.fin.length := ⟨_, rfl⟩
   rw [← hm2, ← hm3] at HW
   clear hm2 hm3 e1 e2
   have z0 : wr.cell? ⟨b5, 0, none⟩ = some (.slice aoC n1 cC) := HW.out.dfa.cell (i := 0) rfl
   have z1 : wr.cell? ⟨b5, 1, none⟩ = some (.slice aoM m2 cM) := HW.out.dfa.cell (i := 1) rfl
   have z2 : wr.cell? ⟨b5, 2, none⟩ = some (.slice aoG m3 cG) := HW.out.dfa.cell (i := 2) rfl
   have zl := HW.out.dfa.lt
   have r0 : wr.cell? ⟨w.heap.size + 1, 0, none⟩ = some (.slice none 0 0) := HW.out.res.cell (i := 0) rfl
   have r1 : wr.cell? ⟨w.heap.size + 1, 1, none⟩ = some (.slice none 0 0) := HW.out.res.cell (i := 1) rfl
   have r2 : wr.cell? ⟨w.heap.size + 1, 2, none⟩ = some (.slice none 0 0) := HW.out.res.cell (i := 2) rfl
   have rf := HW.out.res.frozen
   have rl := HW.out.res.lt
   go_wp2_with fail
   have h3 : Blk (((wr.setCell ⟨w.heap.size + 1, 0, none⟩ (.slice aoC n1 cC)).setCell ⟨w.heap.size + 1, 1, none⟩ (.slice aoM m2 cM)).setCell ⟨w.heap.size + 1, 2, none⟩ (.slice aoG m3 cG)) (w.heap.size + 1) 26 #[.slice aoC n1 cC, .slice aoM m2 cM, .slice aoG m3 cG] := ((HW.out.res.set 0 _).set 1 _).set 2 _
   have cq : Chg (fun k => k = w.heap.size + 1) wr (((wr.setCell ⟨w.heap.size + 1, 0, none⟩ (.slice aoC n1 cC)).setCell ⟨w.heap.size + 1, 1, none⟩ (.slice aoM m2 cM)).setCell ⟨w.heap.size + 1, 2, none⟩ (.slice aoG m3 cG)) :=
    Chg.setCell (p := ⟨w.heap.size + 1, 2, none⟩) (S := fun k => k = w.heap.size + 1) (Chg.setCell (p := ⟨w.heap.size + 1, 1, none⟩) (S := fun k => k = w.heap.size + 1) (Chg.setCell (p := ⟨w.heap.size + 1, 0, none⟩) (S := fun k => k = w.heap.size + 1) (Chg.refl _ wr) rfl (.slice aoC n1 cC)) rfl (.slice aoM m2 cM)) rfl (.slice aoG m3 cG)
   refine bodyPost_ret (v := .tuple #[.agg #[.slice aoC n1 cC, .slice aoM m2 cM, .slice aoG m3 cG], .int .i64 0]) (results_cell_agg_tmp Tryz.results14 _ _ (w.heap.size + 1) 26 #[.slice aoC n1 cC, .slice aoM m2 cM, .slice aoG m3 cG] _ _ rfl rfl h3 Tryz.underlying26 rfl (by kernel_rfl)) rfl ?_
   have cc := cq.mono (S' := fun k => w.heap.size ≤ k) fun k _ e => by omega
   refine ⟨_, rfl, ⟨⟨_, _, _, us', rfl, ?_, ?_, HW.out.len, fun i u r hu hr => ?_, ?_⟩, notD_bnd HB.out, notD_well HW'.out⟩, HW.out.ext.trans (cc.below HW.out.ext.size (fun k e => e))⟩
   ·exact (OwnR.read HW.out.syms strC_size).chg cq fun g e e' => by subst e'; exact own_blk_ne HW.out.syms HW.out.res (by decide) e
   ·exact (OwnR.read HW.out.next (fun _ => rfl)).chg cq fun g e e' => by subst e'; exact own_blk_ne HW.out.next HW.out.res (by decide) e
   ·have k := HW.out.rows i u r hu hr
    exact (OwnR.read k (fun _ => rfl)).chg cq fun g e e' => by subst e'; exact own_blk_ne k HW.out.res (by decide) e
   ·exact (OwnR.read HW.out.fin (fun _ => rfl)).chg cq fun g e e' => by subst e'; exact own_blk_ne HW.out.fin HW.out.res (by decide) e
end Go.Proofs.YtngpjagpeblbjaaGreatDoor
namespace Go.Proofs.YtngpjagpeblbjaaGreatDoor
open Go.RowKit Go.Spy Go.Heaped Go.Tour Go.Rx
theorem enters49 : Enters Tryz.prog 49 := fun _ _ => by kernel_rfl
theorem enters56 : Enters Tryz.prog 56 := fun _ _ => by kernel_rfl
set_option maxRecDepth 100000 in
set_option maxHeartbeats 1000000 in
theorem both1_any {w : World} {bA bB : Nat} {xA xB : Array Value} {A B : DA} (hA : DfaW w (.agg xA) A) (hBA : Blk w bA 26 xA) (hB : DfaW w (.agg xB) B) (hBB : Blk w bB 26 xB) (p : Pr) (h1 : p.1.1 < A.next.length) (h2 : p.1.2 < B.next.length) :
 Calls Tryz.prog 49 #[.agg (prC p), .pointer (some ⟨bA, 0, none⟩), .pointer (some ⟨bB, 0, none⟩)] w fun e w' => e = .returned (.bool (finS A p.1.1 && finS B p.1.2)) ∧ Ext w w' := by
 obtain ⟨aoS, n1, cS, aoN, n2, cN, aoF, n3, cF, rfl⟩ := hA.open_
 obtain ⟨aoS2, m1, cS2, aoN2, m2, cN2, aoF2, m3, cF2, rfl⟩ := hB.open_
 obtain ⟨⟨x, y⟩, hp⟩ := p
 show Calls Tryz.prog 49 #[.agg #[.int .i64 x, .int .i64 y], .pointer (some ⟨bA, 0, none⟩), .pointer (some ⟨bB, 0, none⟩)] w fun e w' => e = .returned (.bool (finS A x && finS B y)) ∧ Ext w w'
 obtain ⟨w1, hw1⟩ : ∃ u, u = w.alloc (.cells #[.int .i64 x, .int .i64 y] 83) := ⟨_, rfl⟩
 have e1 : Ext w w1 := hw1 ▸ (Below.refl _ _).alloc (Nat.le_refl _) _
 have hb1 : Blk w1 w.heap.size 83 #[.int .i64 x, .int .i64 y] := hw1 ▸ Blk.new _ _ _
 have HF1 := hid (final_any (hA.ext e1) x h1)
 have HF2 : Hid (∀ W, Ext w W → Calls Tryz.prog 50 #[.agg #[.slice aoS2 m1 cS2, .slice aoN2 m2 cN2, .slice aoF2 m3 cF2], .int .i64 y] W fun e w' => e = .returned (.bool (finS B y)) ∧ Ext W w') := hid fun W e => final_any (hB.ext e) y h2
 obtain ⟨f1, hf1⟩ : ∃ b, b = finS A x := ⟨_, rfl⟩
 obtain ⟨f2, hf2⟩ : ∃ b, b = finS B y := ⟨_, rfl⟩
 rw [← hf1] at HF1 ⊢
 rw [← hf2] at HF2 ⊢
 have HB1 := hid hb1
 have HBA := hid (hBA.ext e1)
 have HBB := hid (hBB.ext e1)
 have HE1 := hid e1
 have HW1 := hid hw1
 have a0 : w.cell? ⟨bA, 0, none⟩ = some (.slice aoS n1 cS) := hBA.cell (i := 0) rfl
 have a1 : w.cell? ⟨bA, 1, none⟩ = some (.slice aoN n2 cN) := hBA.cell (i := 1) rfl
 have a2 : w.cell? ⟨bA, 2, none⟩ = some (.slice aoF n3 cF) := hBA.cell (i := 2) rfl
 have la := hBA.lt
 clear hA hBA hB hBB hf1 hf2 hb1 e1 hw1 hp h1 h2
 go_enter Tryz.func49, Tryz.ntmps49
 go_wp2_with fail
 rw [← HW1.out]
 refine HF1.out.mono ?_
 rintro e w2 ⟨rfl, hx⟩
 have hbb := HBB.out.ext hx
 have hb2 := HB1.out.ext hx
 have c0 : w2.cell? ⟨bB, 0, none⟩ = some (.slice aoS2 m1 cS2) := hbb.cell (i := 0) rfl
 have c1 : w2.cell? ⟨bB, 1, none⟩ = some (.slice aoN2 m2 cN2) := hbb.cell (i := 1) rfl
 have c2 : w2.cell? ⟨bB, 2, none⟩ = some (.slice aoF2 m3 cF2) := hbb.cell (i := 2) rfl
 have p1 : w2.cell? ⟨w.heap.size, 1, none⟩ = some (.int .i64 y) := hb2.cell (i := 1) rfl
 have HX2 := hid (HE1.out.trans (hx.mono HE1.out.size))
 clear hx hbb hb2
 cases f1 with
 | false =>
   go_wp2_with fail
   go_ret
   exact ⟨rfl, HX2.out⟩
 | true =>
   go_wp2_with fail
   refine (HF2.out _ HX2.out).mono ?_
   rintro e w3 ⟨rfl, hx⟩
   have HX3 := hid (HX2.out.trans (hx.mono HX2.out.size))
   clear hx
   go_wp2_with fail
   go_ret
   exact ⟨rfl, HX3.out⟩
set_option maxRecDepth 100000 in
set_option maxHeartbeats 1000000 in
theorem within1_any {w : World} {bA bB : Nat} {xA xB : Array Value} {A B : DA} (hA : DfaW w (.agg xA) A) (hBA : Blk w bA 26 xA) (hB : DfaW w (.agg xB) B) (hBB : Blk w bB 26 xB) (p : Pr) (h1 : p.1.1 < A.next.length) (h2 : p.1.2 < B.next.length) :
 Calls Tryz.prog 56 #[.agg (prC p), .pointer (some ⟨bA, 0, none⟩), .pointer (some ⟨bB, 0, none⟩)] w fun e w' => e = .returned (.bool (finS A p.1.1 && !finS B p.1.2)) ∧ Ext w w' := by
 obtain ⟨aoS, n1, cS, aoN, n2, cN, aoF, n3, cF, rfl⟩ := hA.open_
 obtain ⟨aoS2, m1, cS2, aoN2, m2, cN2, aoF2, m3, cF2, rfl⟩ := hB.open_
 obtain ⟨⟨x, y⟩, hp⟩ := p
 show Calls Tryz.prog 56 #[.agg #[.int .i64 x, .int .i64 y], .pointer (some ⟨bA, 0, none⟩), .pointer (some ⟨bB, 0, none⟩)] w fun e w' => e = .returned (.bool (finS A x && !finS B y)) ∧ Ext w w'
 obtain ⟨w1, hw1⟩ : ∃ u, u = w.alloc (.cells #[.int .i64 x, .int .i64 y] 83) := ⟨_, rfl⟩
 have e1 : Ext w w1 := hw1 ▸ (Below.refl _ _).alloc (Nat.le_refl _) _
 have hb1 : Blk w1 w.heap.size 83 #[.int .i64 x, .int .i64 y] := hw1 ▸ Blk.new _ _ _
 have HF1 := hid (final_any (hA.ext e1) x h1)
 have HF2 : Hid (∀ W, Ext w W → Calls Tryz.prog 50 #[.agg #[.slice aoS2 m1 cS2, .slice aoN2 m2 cN2, .slice aoF2 m3 cF2], .int .i64 y] W fun e w' => e = .returned (.bool (finS B y)) ∧ Ext W w') := hid fun W e => final_any (hB.ext e) y h2
 obtain ⟨f1, hf1⟩ : ∃ b, b = finS A x := ⟨_, rfl⟩
 obtain ⟨f2, hf2⟩ : ∃ b, b = finS B y := ⟨_, rfl⟩
 rw [← hf1] at HF1 ⊢
 rw [← hf2] at HF2 ⊢
 have HB1 := hid hb1
 have HBA := hid (hBA.ext e1)
 have HBB := hid (hBB.ext e1)
 have HE1 := hid e1
 have HW1 := hid hw1
 have a0 : w.cell? ⟨bA, 0, none⟩ = some (.slice aoS n1 cS) := hBA.cell (i := 0) rfl
 have a1 : w.cell? ⟨bA, 1, none⟩ = some (.slice aoN n2 cN) := hBA.cell (i := 1) rfl
 have a2 : w.cell? ⟨bA, 2, none⟩ = some (.slice aoF n3 cF) := hBA.cell (i := 2) rfl
 have la := hBA.lt
 clear hA hBA hB hBB hf1 hf2 hb1 e1 hw1 hp h1 h2
 go_enter Tryz.func56, Tryz.ntmps56
 go_wp2_with fail
 rw [← HW1.out]
 refine HF1.out.mono ?_
 rintro e w2 ⟨rfl, hx⟩
 have hbb := HBB.out.ext hx
 have hb2 := HB1.out.ext hx
 have c0 : w2.cell? ⟨bB, 0, none⟩ = some (.slice aoS2 m1 cS2) := hbb.cell (i := 0) rfl
 have c1 : w2.cell? ⟨bB, 1, none⟩ = some (.slice aoN2 m2 cN2) := hbb.cell (i := 1) rfl
 have c2 : w2.cell? ⟨bB, 2, none⟩ = some (.slice aoF2 m3 cF2) := hbb.cell (i := 2) rfl
 have p1 : w2.cell? ⟨w.heap.size, 1, none⟩ = some (.int .i64 y) := hb2.cell (i := 1) rfl
 have HX2 := hid (HE1.out.trans (hx.mono HE1.out.size))
 clear hx hbb hb2
 cases f1 with
 | false =>
   go_wp2_with fail
   go_ret
   exact ⟨rfl, HX2.out⟩
 | true =>
   go_wp2_with fail
   refine (HF2.out _ HX2.out).mono ?_
   rintro e w3 ⟨rfl, hx⟩
   have HX3 := hid (HX2.out.trans (hx.mono HX2.out.size))
   clear hx
   go_wp2_with fail
   go_ret
   exact ⟨rfl, HX3.out⟩
end Go.Proofs.YtngpjagpeblbjaaGreatDoor
namespace Go.Proofs.YtngpjagpeblbjaaGreatDoor
open Go.RowKit Go.Spy Go.Heaped Go.Tour Go.Rx
set_option maxRecDepth 100000 in
set_option maxHeartbeats 1000000 in
theorem indexfunc_pr {w : World} {v : Value} {ns : List Pr} (hV : ReadR w 2 prC v ns) (hlen : ns.length ≤ 100000) {f : FuncId} {first caps : Array Value} (hE : Enters Tryz.prog f) (p : Pr → Bool)
 (hf : ∀ k w', k ∈ ns → Ext w w' → Calls Tryz.prog f (first ++ #[.agg (prC k)] ++ caps) w' fun e w'' => e = .returned (.bool (p k)) ∧ Ext w' w'') :
 Calls Tryz.prog 55 #[v, .func (.func f) first caps] w (IdxPost p ns w) := by
 obtain ⟨ao, cap, rfl, hc⟩ := hV.form
 have HV := hid hV
 have HC := hid hc
 have HF := hid hf
 have HEN := hid hE
 clear hc hV hf hE
 go_enter Tryz.func55, Tryz.ntmps55
 go_wp2_with fail
 go_loopg [8] ns.length (fun g u wr => ∃ k, g = ns.length - k ∧ k ≤ ns.length ∧ u = .int .i64 k ∧ Hid (∀ i y, i < k → ns[i]? = some y → p y = false) ∧ Hid (Ext w wr))
 case atStart => exact ⟨0, rfl, Nat.zero_le _, rfl, hid (fun i y h => by omega), hid (Below.refl _ w)⟩
 case round =>
  obtain ⟨k, rfl, hk, rfl, HN, HE⟩ := hrel
  by_cases hlt : k < ns.length
  ·obtain ⟨b, off, rfl⟩ := HC.out (by omega)
   obtain ⟨q, hq⟩ : ∃ q, ns[k]? = some q := ⟨_, List.getElem?_eq_getElem hlt⟩
   have HC1 : Hid (∀ e, e < 2 → wr.cell? ⟨b, off + k * 2 + e, none⟩ = (prC q)[e]?) := hid fun e he => by
    have h := (HV.out.ext HE.out).cell hq (k := e) he
    rwa [show off + (k * 2 + e) = off + k * 2 + e by omega] at h
   have hgK : b < wr.heap.size := (HV.out.ext HE.out).blk_lt (by omega)
   have HQ := hid hq
   clear hq
   go_wp2_with (first
    | (with_reducible refine onOp 15 ?_
       go_loud (refine wpList_load_cells rfl 83 (.tmp 14) rfl b (off + k * 2) rfl (prC q) _ 2 HC1.out rfl Tryz.underlying83 rfl info83 ?_))
    | (with_reducible refine onOp 16 ?_
       go_loud (refine wpList_callb (args := #[.agg (prC q)]) rfl (.tmp 11) #[.tmp 15] #[83] rfl HEN.out rfl rfl (HF.out q _ (List.mem_of_getElem? HQ.out) HE.out) ?_)
       rintro e w2 ⟨rfl, hx⟩
       refine ⟨_, rfl, ?_⟩
       have HX := hid (HE.out.trans (hx.mono HE.out.size))
       clear hx
       cases hp : p q))
   ·go_roundg (ns.length - (k + 1))
    case measure => omega
    case rel =>
     refine ⟨k + 1, rfl, by omega, by go_num, hid fun i y hi hr => ?_, HX⟩
     by_cases e : i = k
     ·subst e; rw [HQ.out] at hr; cases hr; exact hp
     ·exact HN.out i y (by omega) hr
   ·go_ret
    exact ⟨HX.out, .inl ⟨k, q, rfl, HQ.out, hp, HN.out⟩⟩
  ·go_wp2_with fail
   go_ret
   refine ⟨HE.out, .inr ⟨rfl, fun x hx => ?_⟩⟩
   obtain ⟨i, hi, rfl⟩ := List.getElem_of_mem hx
   exact HN.out i _ (by omega) (List.getElem?_eq_getElem hi)
end Go.Proofs.YtngpjagpeblbjaaGreatDoor
namespace Go.Proofs.YtngpjagpeblbjaaGreatDoor
open Go.RowKit Go.Spy Go.Heaped Go.Tour Go.Rx
theorem fits_small {x : Int} (h1 : -1 ≤ x) (h2 : x < 1000000) : (Lit.int .i64 x).wf = true := by
 have e1 : IntKind.i64.min = -9223372036854775808 := by decide
 have e2 : IntKind.i64.max = 9223372036854775807 := by decide
 simp [Lit.wf, e1, e2]; omega
def zeroP : Pr := ⟨(0, 0), by decide⟩
def mkP (x y : Int) : Pr := if h : (Lit.int .i64 x).wf = true ∧ (Lit.int .i64 y).wf = true then ⟨(x, y), h⟩ else zeroP
theorem mkP_val {x y : Int} (hx : (Lit.int .i64 x).wf = true) (hy : (Lit.int .i64 y).wf = true) : (mkP x y).1 = (x, y) := by
 unfold mkP
 rw [dif_pos ⟨hx, hy⟩]
def goP (A B : DA) (syms : List ByteArray) (p : Pr) (c : Nat) : Pr := mkP (goS A p.1.1 (symAt syms c)) (goS B p.1.2 (symAt syms c))
def OkP (A B : DA) (p : Pr) : Prop := p.1.1 < A.next.length ∧ p.1.2 < B.next.length
theorem goS_bnd {A : DA} (W : WellD nameOk A) (s : Int) (x : ByteArray) : -1 ≤ goS A s x ∧ goS A s x < A.next.length := by
 unfold goS
 have hp := W.ok.pos
 split
 ·exact ⟨by omega, by exact_mod_cast W.ok.step _ _⟩
 ·omega
theorem goS_fits {A : DA} (W : WellD nameOk A) (s : Int) (x : ByteArray) : (Lit.int .i64 (goS A s x)).wf = true := by
 have h := goS_bnd W s x
 have := W.most
 exact fits_small h.1 (by omega)
theorem goP_val {A B : DA} (WA : WellD nameOk A) (WB : WellD nameOk B) (syms : List ByteArray) (p : Pr) (c : Nat) : (goP A B syms p c).1 = (goS A p.1.1 (symAt syms c), goS B p.1.2 (symAt syms c)) := mkP_val (goS_fits WA _ _) (goS_fits WB _ _)
theorem goP_ok {A B : DA} (WA : WellD nameOk A) (WB : WellD nameOk B) (syms : List ByteArray) (p : Pr) (c : Nat) : OkP A B (goP A B syms p c) := by
 unfold OkP
 rw [goP_val WA WB]
 exact ⟨(goS_bnd WA _ _).2, (goS_bnd WB _ _).2⟩
theorem zeroP_ok {A B : DA} (WA : WellD nameOk A) (WB : WellD nameOk B) : OkP A B zeroP := ⟨by have := WA.ok.pos; show (0 : Int) < _; omega, by have := WB.ok.pos; show (0 : Int) < _; omega⟩
abbrev succP (A B : DA) (syms : List ByteArray) : Pr → List Pr := fan (goP A B syms) syms.length
theorem enters106 : Enters Tryz.prog 106 := fun _ _ => by kernel_rfl
end Go.Proofs.YtngpjagpeblbjaaGreatDoor
namespace Go.Proofs.YtngpjagpeblbjaaGreatDoor
open Go.RowKit Go.Spy Go.Heaped Go.Tour Go.Rx
theorem built_pr (x y : Int) : Tryz.prog.built 83 [(0, .int .i64 x), (1, .int .i64 y)] = some #[.int .i64 x, .int .i64 y] := by kernel_rfl
def PairsP (A B : DA) (syms : List ByteArray) (p : Pr) (w : World) (e : Ending) (w' : World) : Prop := ∃ v, e = .returned v ∧ OwnR w' w.heap.size 83 2 prC v (succP A B syms p) ∧ Ext w w'
set_option maxRecDepth 100000 in
set_option maxHeartbeats 2000000 in
theorem pairs1_any {w : World} {bS bA bB : Nat} {vS : Value} {xA xB : Array Value} {A B : DA} {syms : List ByteArray} (hSB : Blk w bS 22 #[vS]) (hS : ReadR w 1 strC vS syms) (hsl : syms.length ≤ 1000)
 (hA : DfaW w (.agg xA) A) (hBA : Blk w bA 26 xA) (hB : DfaW w (.agg xB) B) (hBB : Blk w bB 26 xB) (p : Pr) (hp : OkP A B p) :
 Calls Tryz.prog 106 #[.agg (prC p), .pointer (some ⟨bS, 0, none⟩), .pointer (some ⟨bA, 0, none⟩), .pointer (some ⟨bB, 0, none⟩)] w (PairsP A B syms p w) := by
 have HG : Hid (∀ c, goP A B syms p c = mkP (goS A p.1.1 (symAt syms c)) (goS B p.1.2 (symAt syms c)) ∧ (goP A B syms p c).1 = (goS A p.1.1 (symAt syms c), goS B p.1.2 (symAt syms c))) := hid fun c => ⟨rfl, goP_val hA.well hB.well syms p c⟩
 obtain ⟨aoS, n1, cS, aoN, n2, cN, aoF, n3, cF, rfl⟩ := hA.open_
 obtain ⟨aoS2, m1, cS2, aoN2, m2, cN2, aoF2, m3, cF2, rfl⟩ := hB.open_
 obtain ⟨aoW, cW, rfl, hW⟩ := hS.form
 obtain ⟨⟨x, y⟩, hxy⟩ := p
 obtain ⟨f, hf⟩ : ∃ f, f = goP A B syms ⟨(x, y), hxy⟩ := ⟨_, rfl⟩
 have HPO : Hid (∀ (w' : World) (v : Value), OwnR w' w.heap.size 83 2 prC v ((List.range syms.length).map f) → Ext w w' → PairsP A B syms ⟨(x, y), hxy⟩ w (.returned v) w') := hid fun w' v h e => ⟨v, rfl, by rw [hf] at h; exact h, e⟩
 obtain ⟨Q, hQ⟩ : ∃ Q, Q = PairsP A B syms ⟨(x, y), hxy⟩ w := ⟨_, rfl⟩
 rw [← hQ] at HPO ⊢
 show Calls Tryz.prog 106 #[.agg #[.int .i64 x, .int .i64 y], .pointer (some ⟨bS, 0, none⟩), .pointer (some ⟨bA, 0, none⟩), .pointer (some ⟨bB, 0, none⟩)] w Q
 obtain ⟨n, hn⟩ : ∃ n, n = syms.length := ⟨_, rfl⟩
 have HS := hid hS
 have HSB := hid hSB
 rw [← hn] at hW hSB hsl HPO HS HSB
 have HNN := hid hn
 obtain ⟨w1, hw1⟩ : ∃ u, u = w.alloc (.cells #[.int .i64 x, .int .i64 y] 83) := ⟨_, rfl⟩
 have e1 : Ext w w1 := hw1 ▸ (Below.refl _ _).alloc (Nat.le_refl _) _
 have hz1 : w1.heap.size = w.heap.size + 1 := by rw [hw1]; simp
 have HB4 : Hid (Blk w1 w.heap.size 83 #[.int .i64 x, .int .i64 y]) := hid (hw1 ▸ Blk.new _ _ _)
 have HBA := hid (hBA.ext e1)
 have HBB := hid (hBB.ext e1)
 have HA := hid (hA.ext e1)
 have HB := hid (hB.ext e1)
 have HE1 := hid e1
 have HW1 := hid hw1
 have HZ1 := hid hz1
 have HF : Hid (∀ c s, syms[c]? = some s → (f c).1 = (goS A x s, goS B y s)) := hid fun c s hs => by
  rw [hf, (HG.out c).2]
  unfold symAt
  rw [hs]; rfl
 have HP1 : Hid (x < A.next.length ∧ y < B.next.length) := hid hp
 have c0 : w.cell? ⟨bS, 0, none⟩ = some (.slice aoW n cW) := hSB.cell (i := 0) rfl
 have l0 := hSB.lt
 clear hA hBA hB hBB hS hSB hn e1 hw1 hz1 HG hf hQ hp
 go_enter Tryz.func106, Tryz.ntmps106
 go_wp2_with fail
 rw [← HW1.out]
 go_loopg [6, 11] n (fun g v u wr => ∃ j, g = n - j ∧ j ≤ n ∧ u = .int .i64 j ∧ Hid (Ext w1 wr ∧ OwnR wr w1.heap.size 83 2 prC v ((List.range j).map f)))
 case atStart => exact ⟨0, rfl, Nat.zero_le _, rfl, hid ⟨Below.refl _ _, OwnR.nil _ _ _ _ _⟩⟩
 case round =>
  obtain ⟨j, rfl, hj, rfl, HW⟩ := hrel
  obtain ⟨v, hv⟩ : ∃ v, v = u6 := ⟨_, rfl⟩
  subst hv
  by_cases hlt : j < n
  ·obtain ⟨gW, oW, rfl⟩ := hW (by omega)
   obtain ⟨s, hs⟩ : ∃ s, syms[j]? = some s := ⟨_, List.getElem?_eq_getElem (by rw [← HNN.out]; exact hlt)⟩
   have HSJ := hid hs
   have c1 : wr.cell? ⟨gW, oW + j, none⟩ = some (.string s) := by
    exact (HS.out.ext (HE1.out.trans (HW.out.1.mono HE1.out.size))).cell1 hs
   have hS0 : Ext w1 wr.drew := HW.out.1.drew
   clear hs
   go_upto_region 5 with fail
   refine wp_region_heldL (fun w' => Ext w1 w') (by kernel_rfl) ?_
   refine wpAnyH_takeK 0 14 (mk 15 1) rfl (by kernel_rfl) rfl v (fun _ _ _ h => h) (Or.inl ⟨rfl, fun w' hS => ?_⟩) hS0 ?_
   ·go_simp <;> with_reducible rfl
   refine wpAnyH_takeK 1 13 (mk 15 3) rfl (by kernel_rfl) rfl (.agg #[.slice aoS n1 cS, .slice aoN n2 cN, .slice aoF n3 cF]) (fun _ _ _ h => h) (Or.inl ⟨rfl, fun w' hS => ?_⟩) hS0 ?_
   ·exact exec_load_cells 26 (.tmp 2) rfl bA 0 rfl _ _ 3 (blk_cells (HBA.out.ext hS) rfl) rfl Tryz.underlying26 rfl (by kernel_rfl)
   refine wpAnyH_takeK 2 12 (mk 15 7) rfl (by kernel_rfl) rfl (.pointer (some ⟨w.heap.size, 0, none⟩)) (fun _ _ _ h => h) (Or.inl ⟨rfl, fun w' hS => ?_⟩) hS0 ?_
   ·go_simp <;> with_reducible rfl
   refine wpAnyH_takeK 3 11 (mk 15 15) rfl (by kernel_rfl) rfl (.int .i64 x) (fun _ _ _ h => h) (Or.inl ⟨rfl, fun w' hS => ?_⟩) hS0 ?_
   ·have c1 : w'.cell? ⟨w.heap.size, 0, none⟩ = some (.int .i64 x) := (HB4.out.ext hS).cell (i := 0) rfl; go_simp <;> with_reducible rfl
   refine wpAnyH_takeK 4 10 (mk 15 31) rfl (by kernel_rfl) rfl (.string s) (fun _ _ _ h => h) (Or.inl ⟨rfl, fun w' hS => ?_⟩) hS0 ?_
   ·go_simp <;> with_reducible rfl
   refine wpAnyH_takeK 6 9 (mk 15 95) rfl (by kernel_rfl) rfl (.agg #[.slice aoS2 m1 cS2, .slice aoN2 m2 cN2, .slice aoF2 m3 cF2]) (fun _ _ _ h => h) (Or.inl ⟨rfl, fun w' hS => ?_⟩) hS0 ?_
   ·exact exec_load_cells 26 (.tmp 3) rfl bB 0 rfl _ _ 3 (blk_cells (HBB.out.ext hS) rfl) rfl Tryz.underlying26 rfl (by kernel_rfl)
   refine wpAnyH_takeK 7 8 (mk 15 223) rfl (by kernel_rfl) rfl (.pointer (some ⟨w.heap.size, 1, none⟩)) (fun _ _ _ h => h) (Or.inl ⟨rfl, fun w' hS => ?_⟩) hS0 ?_
   ·go_simp <;> with_reducible rfl
   refine wpAnyH_takeK 8 7 (mk 15 479) rfl (by kernel_rfl) rfl (.int .i64 y) (fun _ _ _ h => h) (Or.inl ⟨rfl, fun w' hS => ?_⟩) hS0 ?_
   ·have c1 : w'.cell? ⟨w.heap.size, 1, none⟩ = some (.int .i64 y) := (HB4.out.ext hS).cell (i := 1) rfl; go_simp <;> with_reducible rfl
   refine wpAnyH_takeK 9 6 (mk 15 991) rfl (by kernel_rfl) rfl (.string s) (fun _ _ _ h => h) (Or.inl ⟨rfl, fun w' hS => ?_⟩) hS0 ?_
   ·go_simp <;> with_reducible rfl
   refine wpAnyH_one 5 5 (mk 15 1023) rfl (by kernel_rfl) rfl ?_
   go_wp2_with fail
   refine (goes_any (HA.out.ext hS0) x HP1.out.1 s).mono ?_
   rintro e w3 ⟨rfl, hx3⟩
   have hS3 : Ext w1 w3 := hS0.trans (hx3.mono hS0.size)
   have hR3 : Ext wr w3 := (Below.refl wr.heap.size wr).drew.trans (hx3.mono (by simp))
   have HR3 := hid hR3
   clear hx3 hR3
   go_wp2_with fail
   refine ⟨hS3, ?_⟩
   refine wpAnyH_one 10 4 (mk 15 2047) rfl (by kernel_rfl) rfl ?_
   go_wp2_with fail
   refine (goes_any (HB.out.ext hS3) y HP1.out.2 s).mono ?_
   rintro e w4 ⟨rfl, hx4⟩
   have hS4 : Ext w1 w4 := hS3.trans (hx4.mono hS3.size)
   have HR4 := hid (HR3.out.trans (hx4.mono HR3.out.size))
   clear hx4
   go_wp2_with fail
   refine ⟨hS4, ?_⟩
   refine wpAnyH_one 11 3 (mk 15 4095) rfl (by kernel_rfl) rfl ?_
   go_wp2_with (with_reducible refine onOp 26 ?_
                go_loud (refine wpList_build_agg rfl 83 _ rfl [(0, .int .i64 (goS A x s)), (1, .int .i64 (goS B y s))] rfl _ (built_pr _ _) ?_)
                intro C HC)
   refine ⟨hS4, ?_⟩
   have hC : C = prC (f j) := by
    rw [HC.out]
    unfold prC
    rw [HF.out j s HSJ.out]
   subst hC
   refine wpAnyH_one 12 2 (mk 15 8191) rfl (by kernel_rfl) rfl ?_
   go_wp2_with (with_reducible refine onOp 27 ?_
                go_loud (refine wpList_slice_one rfl 77 (.tmp 26) rfl (prC (f j)) rfl 83 2 _ Tryz.underlying77 slot83 (by decide) (by decide) rfl ?_))
   refine ⟨hS4.alloc (by have := hS4.size; omega) _, ?_⟩
   have HOW4 := hid (HW.out.2.ext HR4.out)
   have hsz4 := hS4.size
   have hln : ((List.range j).map f).length + 1 ≤ 1000000000 := by simp; omega
   refine wpAnyH_one 13 1 (mk 15 16383) rfl (by kernel_rfl) rfl ?_
   go_wp2_with (with_reducible refine onOp 28 ?_
                go_loud (refine wpList_append_R elem_pr prC_size ones_pr HOW4 hsz4 hln (f j) _ rfl w4.heap.size rfl rfl _ _ rfl rfl rfl ?_)
                rintro g' c' v' w6 rfl G1 G2)
   have c6 : Chg (fun k => v.ownBlock = some k) w4 w6 := (Chg.refl _ w4).grown G2.out.1 (fun k e => e)
   have hS6 : Ext w1 w6 := hS4.trans ((c6.mono (S' := fun k => w1.heap.size ≤ k) fun k _ e => (HOW4.out.lt k e).1).below hS4.size (fun k e => e))
   refine ⟨hS6, ?_⟩
   refine wpAnyH_one 14 0 (mk 15 32767) rfl (by kernel_rfl) rfl ?_
   go_wp2_with fail
   refine ⟨hS6, ?_⟩
   refine wpAnyH_end (P := Tryz.prog) (by kernel_rfl) ?_
   go_wp2_with fail
   go_roundg (n - (j + 1))
   case measure => omega
   case rel =>
    refine ⟨j + 1, rfl, by omega, by go_num, hid ⟨hS6, ?_⟩⟩
    rw [List.range_succ, List.map_append]
    have := G1.out
    simpa using this
  ·go_wp2_with fail
   have hjn : j = syms.length := by rw [← HNN.out]; omega
   have h1 := HW.out.2.lower (b := w.heap.size) (by rw [HZ1.out]; omega)
   rw [hjn] at h1
   rw [← HNN.out] at h1
   exact HPO.out wr v h1 (HE1.out.trans (HW.out.1.mono HE1.out.size))
end Go.Proofs.YtngpjagpeblbjaaGreatDoor
namespace Go.Proofs.YtngpjagpeblbjaaGreatDoor
open Go.RowKit Go.Spy Go.Heaped Go.Tour Go.Rx
def PairsV (xA xB : Array Value) (vS : Value) (w : World) (e : Ending) (w' : World) : Prop :=
 e = .returned (.func (.func 106) #[] #[.pointer (some ⟨w.heap.size + 2, 0, none⟩), .pointer (some ⟨w.heap.size, 0, none⟩), .pointer (some ⟨w.heap.size + 1, 0, none⟩)]) ∧
   Ext w w' ∧ Blk w' w.heap.size 26 xA ∧ Blk w' (w.heap.size + 1) 26 xB ∧ Blk w' (w.heap.size + 2) 22 #[vS]
set_option maxRecDepth 100000 in
set_option maxHeartbeats 1000000 in
theorem pairs_any {w : World} {xA xB : Array Value} {A B : DA} (hA : DfaW w (.agg xA) A) (hB : DfaW w (.agg xB) B) (aoS : Option Addr) (n c : Nat) :
 Calls Tryz.prog 47 #[.agg xA, .agg xB, .slice aoS n c] w (PairsV xA xB (.slice aoS n c) w) := by
 obtain ⟨aoS, n1, cS, aoN, n2, cN, aoF, n3, cF, rfl⟩ := hA.open_
 obtain ⟨aoS2, m1, cS2, aoN2, m2, cN2, aoF2, m3, cF2, rfl⟩ := hB.open_
 clear hA hB
 go_enter Tryz.func47, Tryz.ntmps47
 go_wp2_with fail
 go_ret
 refine ⟨rfl, (((Below.refl _ _).alloc (Nat.le_refl _) _).alloc (by simp) _).alloc (by simp; omega) _, ((Blk.new _ _ _).alloc _).alloc _, (Blk.new' _ _ _ (by simp)).alloc _, Blk.new' _ _ _ (by simp)⟩
end Go.Proofs.YtngpjagpeblbjaaGreatDoor
