/-
  Walk of the law DfaHolds.
-/
import Derived.StillTailTactics
import Derived.Deep.QuietTactic
import Derived.BigQuiet
import Derived.BigRegion
import Derived.Outline
import Derived.WalkSpells
import Derived.Deep.Draws
import Derived.Laws.ResultCell
import Derived.Laws.CopyRow
import Derived.Laws.OwnMore
import Derived.Test.YtngpjagpeblbjaaGreatDoorB10
import Derived.Test.YtngpjagpeblbjaaGreatDoorB06
import Derived.Test.YtngpjagpeblbjaaGreatDoorB03
import Derived.Test.YtngpjagpeblbjaaGreatDoorB01
namespace Go.Proofs.YtngpjagpeblbjaaGreatDoor
open Go.RowKit Go.Spy Go.Heaped Go.Tour Go.Rx
set_option maxRecDepth 100000 in
set_option maxHeartbeats 4000000 in
theorem holds_out {w : World} {l m : List Nd} {aoL aoM : Option Addr} {capL capM : Nat} (hL : NodesV w aoL l) (hM : NodesV w aoM m) (ai : Option Addr) (ni ci : Nat) (hni : ni ≤ 9223372036854775807) (hT : TabW w) (h : ¬ (SmallL l ∧ SmallL m ∧ ni ≤ 8)) : Calls Tryz.prog 4 #[.agg #[.slice aoL l.length capL], .agg #[.slice aoM m.length capM], .slice ai ni ci] w (TruePost w) := by
 obtain ⟨nl, hnl⟩ : ∃ n, n = l.length := ⟨_, rfl⟩
 obtain ⟨nm, hnm⟩ : ∃ n, n = m.length := ⟨_, rfl⟩
 have HSL : Hid (∀ W, Ext w W → Calls Tryz.prog 21 #[.agg #[.slice aoL nl capL]] W (SmallPost l W)) := hid fun W e => by rw [hnl]; exact small_any (hL.ext e) capL
 have HSM : Hid (∀ W, Ext w W → Calls Tryz.prog 21 #[.agg #[.slice aoM nm capM]] W (SmallPost m W)) := hid fun W e => by rw [hnm]; exact small_any (hM.ext e) capM
 have HT := hid hT
 rw [← hnl, ← hnm]
 have HN := hid h
 clear hnl hnm hL hM hT h
 obtain ⟨w1, hw1⟩ : ∃ u, u = w.alloc (.cells #[.slice aoL nl capL] 45) := ⟨_, rfl⟩
 have ew1 : Ext w w1 := hw1 ▸ (Below.refl _ _).alloc (Nat.le_refl _) _
 have HBrn : Hid (Blk w1 w.heap.size 45 #[.slice aoL nl capL]) := hid (hw1 ▸ Blk.new _ _ _)
 have HWw1 := hid hw1
 have HE1 : Hid (Ext w w1) := hid (ew1)
 clear ew1 hw1
 obtain ⟨w2, hw2⟩ : ∃ u, u = w1.alloc (.cells #[.slice aoM nm capM] 45) := ⟨_, rfl⟩
 have ew2 : Ext w1 w2 := hw2 ▸ (Below.refl _ _).alloc (Nat.le_refl _) _
 have HBsn : Hid (Blk w2 (w.heap.size + 1) 45 #[.slice aoM nm capM]) := hid (by rw [hw2]; exact Blk.new' _ _ _ (by rw [HWw1.out]; simp))
 have HWw2 := hid hw2
 have HE2 : Hid (Ext w w2) := hid (HE1.out.trans ((ew2).mono HE1.out.size))
 have HBr2 := hid (HBrn.out.ext (ew2))
 clear ew2 hw2
 go_enter Tryz.func4, Tryz.ntmps4
 go_wp2_with fail
 rw [← HWw1.out, ← HWw2.out]
 refine (HSL.out _ HE2.out).mono ?_
 rintro e w3 ⟨b, rfl, hb, hx⟩
 have HE3 : Hid (Ext w w3) := hid (HE2.out.trans ((hx).mono HE2.out.size))
 have HBr3 := hid (HBr2.out.ext (hx))
 have HBs3 := hid (HBsn.out.ext (hx))
 clear hx
 have HB1 := hid hb
 clear hb
 cases b
 ·obtain ⟨cr0, lr⟩ := HBr3.out.c1
  obtain ⟨cs0, ls⟩ := HBs3.out.c1
  go_wp2_with fail
  refine (awake8_any (HT.out.ext HE3.out)).mono ?_
  rintro e w4 ⟨rfl, hx⟩
  clear cr0 lr cs0 ls
  have HE4 : Hid (Ext w w4) := hid (HE3.out.trans ((hx).mono HE3.out.size))
  have HBr4 := hid (HBr3.out.ext (hx))
  have HBs4 := hid (HBs3.out.ext (hx))
  clear hx
  obtain ⟨cr0, lr⟩ := HBr4.out.c1
  obtain ⟨cs0, ls⟩ := HBs4.out.c1
  go_wp2_with fail
  go_ret
  exact ⟨rfl, HE4.out⟩
 ·have H1 := hid (HB1.out.1 rfl)
  clear HB1
  obtain ⟨cr0, lr⟩ := HBr3.out.c1
  obtain ⟨cs0, ls⟩ := HBs3.out.c1
  go_wp2_with fail
  refine (HSM.out _ HE3.out).mono ?_
  rintro e w4 ⟨b, rfl, hb, hx⟩
  clear cr0 lr cs0 ls
  have HE4 : Hid (Ext w w4) := hid (HE3.out.trans ((hx).mono HE3.out.size))
  have HBr4 := hid (HBr3.out.ext (hx))
  have HBs4 := hid (HBs3.out.ext (hx))
  clear hx
  have HB2 := hid hb
  clear hb
  cases b
  ·obtain ⟨cr0, lr⟩ := HBr4.out.c1
   obtain ⟨cs0, ls⟩ := HBs4.out.c1
   go_wp2_with fail
   refine (awake8_any (HT.out.ext HE4.out)).mono ?_
   rintro e w5 ⟨rfl, hx⟩
   clear cr0 lr cs0 ls
   have HE5 : Hid (Ext w w5) := hid (HE4.out.trans ((hx).mono HE4.out.size))
   have HBr5 := hid (HBr4.out.ext (hx))
   have HBs5 := hid (HBs4.out.ext (hx))
   clear hx
   obtain ⟨cr0, lr⟩ := HBr5.out.c1
   obtain ⟨cs0, ls⟩ := HBs5.out.c1
   go_wp2_with fail
   go_ret
   exact ⟨rfl, HE5.out⟩
  ·have hw : 8 < ni := Nat.lt_of_not_le fun hle => HN.out ⟨H1.out, HB2.out.1 rfl, hle⟩
   have hw1 : decide (8 < ni) = true := decide_eq_true hw
   have hw2 : decide ((8 : Int) < (ni : Int)) = true := decide_eq_true (by omega)
   obtain ⟨cr0, lr⟩ := HBr4.out.c1
   obtain ⟨cs0, ls⟩ := HBs4.out.c1
   go_wp2_with fail
   refine (awake8_any (HT.out.ext HE4.out)).mono ?_
   rintro e w5 ⟨rfl, hx⟩
   clear cr0 lr cs0 ls
   have HE5 : Hid (Ext w w5) := hid (HE4.out.trans ((hx).mono HE4.out.size))
   have HBr5 := hid (HBr4.out.ext (hx))
   have HBs5 := hid (HBs4.out.ext (hx))
   clear hx
   obtain ⟨cr0, lr⟩ := HBr5.out.c1
   obtain ⟨cs0, ls⟩ := HBs5.out.c1
   go_wp2_with fail
   go_ret
   exact ⟨rfl, HE5.out⟩
set_option maxRecDepth 100000 in
set_option maxHeartbeats 100000000 in
theorem holds_in {w : World} {l m : List Nd} {aoL aoM : Option Addr} {capL capM : Nat} (hL : NodesV w aoL l) (hM : NodesV w aoM m) {ai : Option Addr} {ni ci : Nat} {is : List Int} (hI : ReadR w 1 intZ (.slice ai ni ci) is) (hT : TabW w) (sL : SmallL l) (sM : SmallL m) (hni : ni ≤ 8) : Calls Tryz.prog 4 #[.agg #[.slice aoL l.length capL], .agg #[.slice aoM m.length capM], .slice ai ni ci] w (TruePost w) := by
 obtain ⟨nl, hnl⟩ : ∃ n, n = l.length := ⟨_, rfl⟩
 obtain ⟨nm, hnm⟩ : ∃ n, n = m.length := ⟨_, rfl⟩
 have HSL : Hid (∀ W, Ext w W → Calls Tryz.prog 21 #[.agg #[.slice aoL nl capL]] W (SmallPost l W)) := hid fun W e => by rw [hnl]; exact small_any (hL.ext e) capL
 have HSM : Hid (∀ W, Ext w W → Calls Tryz.prog 21 #[.agg #[.slice aoM nm capM]] W (SmallPost m W)) := hid fun W e => by rw [hnm]; exact small_any (hM.ext e) capM
 have HT := hid hT
 rw [← hnl, ← hnm]
 have HSYL : Hid (∀ W, Ext w W → Calls Tryz.prog 23 #[.agg #[.slice aoL nl capL]] W fun e w' => ∃ a n c more, e = .returned (.slice a n c) ∧ ReadR w' 1 strC (.slice a n c) more ∧ MoreOk more ∧ (OkL l → ∀ x, x ∈ more ↔ x ∈ symsL l) ∧ Ext W w') := hid fun W e => by rw [hnl]; exact symbols_in (hL.ext e) sL
 have HMKL : Hid (∀ W, Ext w W → ∀ (vM : Value) (more : List ByteArray), ReadR W 1 strC vM more → MoreOk more → Calls Tryz.prog 22 #[.agg #[.slice aoL nl capL], vM] W fun e w' => ∃ aoS n1 cS aoN n2 cN aoF n3 cF E, e = .returned (.tuple #[.agg #[.slice aoS n1 cS, .slice aoN n2 cN, .slice aoF n3 cF], .int .i64 E]) ∧ MadeX l (makeSyms l more) #[.slice aoS n1 cS, .slice aoN n2 cN, .slice aoF n3 cF] E w' ∧ Ext W w' ∧ ∀ q w'', q < W.heap.size → Chg (· = q) w' w'' → MadeX l (makeSyms l more) #[.slice aoS n1 cS, .slice aoN n2 cN, .slice aoF n3 cF] E w'') := hid fun W e vM more h1 h2 => by rw [hnl]; exact make_x (hL.ext e) sL (hT.ext e) h1 h2
 have HRML : Hid (OkL l → ∀ W, Ext w W → ∀ (a : Option Addr) (n c : Nat) (ws : List ByteArray), ReadR W 1 strC (.slice a n c) ws → MildS ws → ws.length ≤ c → Calls Tryz.prog 25 #[.agg #[.slice aoL nl capL], .slice a n c] W fun e w' => e = .returned (.bool (matchT (rootT l) ws)) ∧ Ext W w') := hid fun hok W e a n c ws h1 h2 h3 => by rw [hnl]; exact rmatch_in (hL.ext e) sL hok (hT.ext e) h1 h2 h3
 have HSYM : Hid (∀ W, Ext w W → Calls Tryz.prog 23 #[.agg #[.slice aoM nm capM]] W fun e w' => ∃ a n c more, e = .returned (.slice a n c) ∧ ReadR w' 1 strC (.slice a n c) more ∧ MoreOk more ∧ (OkL m → ∀ x, x ∈ more ↔ x ∈ symsL m) ∧ Ext W w') := hid fun W e => by rw [hnm]; exact symbols_in (hM.ext e) sM
 have HMKM : Hid (∀ W, Ext w W → ∀ (vM : Value) (more : List ByteArray), ReadR W 1 strC vM more → MoreOk more → Calls Tryz.prog 22 #[.agg #[.slice aoM nm capM], vM] W fun e w' => ∃ aoS n1 cS aoN n2 cN aoF n3 cF E, e = .returned (.tuple #[.agg #[.slice aoS n1 cS, .slice aoN n2 cN, .slice aoF n3 cF], .int .i64 E]) ∧ MadeX m (makeSyms m more) #[.slice aoS n1 cS, .slice aoN n2 cN, .slice aoF n3 cF] E w' ∧ Ext W w' ∧ ∀ q w'', q < W.heap.size → Chg (· = q) w' w'' → MadeX m (makeSyms m more) #[.slice aoS n1 cS, .slice aoN n2 cN, .slice aoF n3 cF] E w'') := hid fun W e vM more h1 h2 => by rw [hnm]; exact make_x (hM.ext e) sM (hT.ext e) h1 h2
 have HRMM : Hid (OkL m → ∀ W, Ext w W → ∀ (a : Option Addr) (n c : Nat) (ws : List ByteArray), ReadR W 1 strC (.slice a n c) ws → MildS ws → ws.length ≤ c → Calls Tryz.prog 25 #[.agg #[.slice aoM nm capM], .slice a n c] W fun e w' => e = .returned (.bool (matchT (rootT m) ws)) ∧ Ext W w') := hid fun hok W e a n c ws h1 h2 h3 => by rw [hnm]; exact rmatch_in (hM.ext e) sM hok (hT.ext e) h1 h2 h3
 have HS1 := hid sL
 have HS2 := hid sM
 have HI := hid hI
 have hw1 : decide (8 < ni) = false := decide_eq_false (by omega)
 have hw2 : decide ((8 : Int) < (ni : Int)) = false := decide_eq_false (by omega)
 clear hnl hnm hL hM hT hI sL sM
 obtain ⟨w1, hw1⟩ : ∃ u, u = w.alloc (.cells #[.slice aoL nl capL] 45) := ⟨_, rfl⟩
 have ew1 : Ext w w1 := hw1 ▸ (Below.refl _ _).alloc (Nat.le_refl _) _
 have HBrn : Hid (Blk w1 w.heap.size 45 #[.slice aoL nl capL]) := hid (hw1 ▸ Blk.new _ _ _)
 have HWw1 := hid hw1
 have HE1 : Hid (Ext w w1) := hid (ew1)
 clear ew1 hw1
 obtain ⟨w2, hw2⟩ : ∃ u, u = w1.alloc (.cells #[.slice aoM nm capM] 45) := ⟨_, rfl⟩
 have ew2 : Ext w1 w2 := hw2 ▸ (Below.refl _ _).alloc (Nat.le_refl _) _
 have HBsn : Hid (Blk w2 (w.heap.size + 1) 45 #[.slice aoM nm capM]) := hid (by rw [hw2]; exact Blk.new' _ _ _ (by rw [HWw1.out]; simp))
 have HWw2 := hid hw2
 have HE2 : Hid (Ext w w2) := hid (HE1.out.trans ((ew2).mono HE1.out.size))
 have HBr2 := hid (HBrn.out.ext (ew2))
 clear ew2 hw2
 go_enter Tryz.func4, Tryz.ntmps4
 go_wp2_with fail
 rw [← HWw1.out, ← HWw2.out]
 refine (HSL.out _ HE2.out).mono ?_
 rintro e w3 ⟨b, rfl, hb, hx⟩
 have HE3 : Hid (Ext w w3) := hid (HE2.out.trans ((hx).mono HE2.out.size))
 have HBr3 := hid (HBr2.out.ext (hx))
 have HBs3 := hid (HBsn.out.ext (hx))
 clear hx
 obtain rfl : b = true := hb.2 HS1.out
 clear hb
 obtain ⟨cr0, lr⟩ := HBr3.out.c1
 obtain ⟨cs0, ls⟩ := HBs3.out.c1
 go_wp2_with fail
 refine (HSM.out _ HE3.out).mono ?_
 rintro e w4 ⟨b, rfl, hb, hx⟩
 clear cr0 lr cs0 ls
 have HE4 : Hid (Ext w w4) := hid (HE3.out.trans ((hx).mono HE3.out.size))
 have HBr4 := hid (HBr3.out.ext (hx))
 have HBs4 := hid (HBs3.out.ext (hx))
 clear hx
 obtain rfl : b = true := hb.2 HS2.out
 clear hb
 obtain ⟨cr0, lr⟩ := HBr4.out.c1
 obtain ⟨cs0, ls⟩ := HBs4.out.c1
 go_upto_region 3 with fail
 go_cut [7, 8] from 25 (fun u7 u8 wx => MadeB l m w4 wx u7 u8)
 case first =>
  as_aux_lemma =>
   have hS0 : Ext w4 w4.drew := (Below.refl _ _).drew
   refine wp_region_heldL (fun w' => Ext w4 w') (by kernel_rfl) ?_
   refine wpAnyH_takeN 0 9 (mk 10 1) rfl (by kernel_rfl) rfl (.agg #[.slice aoL nl capL]) (fun _ _ _ h => h) (Or.inl ⟨rfl, fun w' hS => ?_⟩) hS0 (by simp only [Act.put, List.setIfInBounds_toArray, List.set_cons_succ, List.set_cons_zero]; rfl) ?_
   ·have d0 : w'.cell? ⟨w.heap.size, 0, none⟩ = some (.slice aoL nl capL) := (HBr4.out.ext hS).cell (i := 0) rfl; go_simp <;> with_reducible rfl
   refine wpAnyH_takeN 1 8 (mk 10 3) rfl (by kernel_rfl) rfl (.agg #[.slice aoM nm capM]) (fun _ _ _ h => h) (Or.inl ⟨rfl, fun w' hS => ?_⟩) hS0 (by simp only [Act.put, List.setIfInBounds_toArray, List.set_cons_succ, List.set_cons_zero]; rfl) ?_
   ·have d0 : w'.cell? ⟨(w.heap.size + 1), 0, none⟩ = some (.slice aoM nm capM) := (HBs4.out.ext hS).cell (i := 0) rfl; go_simp <;> with_reducible rfl
   refine wpAnyH_two 2 7 7 (mk 10 7) (mk 10 131) rfl rfl (by kernel_rfl) rfl ?_ ?_
   ·go_wp2_with fail
    refine (HSYM.out _ (HE4.out.trans (hS0.mono HE4.out.size))).mono ?_
    rintro e wy ⟨aY, nY, cY, more, rfl, hR, hM, hMM, hx⟩
    have hSy : Ext w4 wy := hS0.trans (hx.mono hS0.size)
    have HRY := hid hR
    have HMY := hid hM
    have HMMY := hid hMM
    clear hx hR hM hMM
    go_wp2_with fail
    refine ⟨hSy, ?_⟩
    refine wpAnyH_two 3 7 6 (mk 10 15) (mk 10 135) rfl rfl (by kernel_rfl) rfl ?_ ?_
    ·go_wp2_with fail
     refine (HMKL.out _ (HE4.out.trans (hSy.mono HE4.out.size)) _ _ HRY.out HMY.out).mono ?_
     rintro e wm ⟨aoSq, n1q, cSq, aoNq, n2q, cNq, aoFq, n3q, cFq, E, rfl, hMX, hx, hfr⟩
     have hSm : Ext w4 wm := hSy.trans (hx.mono hSy.size)
     have HMX := hid hMX
     clear hx hMX hfr
     go_wp2_with fail
     refine ⟨hSm, ?_⟩
     refine wpAnyH_takeN 4 5 (mk 10 31) rfl (by kernel_rfl) rfl (.tuple #[.agg #[.slice aoSq n1q cSq, .slice aoNq n2q cNq, .slice aoFq n3q cFq], .int .i64 E]) (fun _ _ _ h => h) (Or.inl ⟨rfl, fun w' hS => ?_⟩) hSm (by simp only [Act.put, List.setIfInBounds_toArray, List.set_cons_succ, List.set_cons_zero]; rfl) ?_
     ·go_simp <;> with_reducible rfl
     refine wpAnyH_takeN 5 4 (mk 10 63) rfl (by kernel_rfl) rfl (.agg #[.slice aoSq n1q cSq, .slice aoNq n2q cNq, .slice aoFq n3q cFq]) (fun _ _ _ h => h) (Or.inl ⟨rfl, fun w' hS => ?_⟩) hSm (by simp only [Act.put, List.setIfInBounds_toArray, List.set_cons_succ, List.set_cons_zero]; rfl) ?_
     ·go_simp <;> with_reducible rfl
     refine wpAnyH_takeN 6 3 (mk 10 127) rfl (by kernel_rfl) rfl (.int .i64 E) (fun _ _ _ h => h) (Or.inl ⟨rfl, fun w' hS => ?_⟩) hSm (by simp only [Act.put, List.setIfInBounds_toArray, List.set_cons_succ, List.set_cons_zero]; rfl) ?_
     ·go_simp <;> with_reducible rfl
     refine wpAnyH_one 7 2 (mk 10 255) rfl (by kernel_rfl) rfl ?_
     refine wpList_alloc_agg rfl 26 rfl #[.slice none 0 0, .slice none 0 0, .slice none 0 0] (by kernel_rfl) ?_
     intro wz HZ0 hsz
     obtain ⟨bA, hbA⟩ : ∃ b, b = wm.heap.size := ⟨_, rfl⟩
     rw [← hbA] at HZ0 ⊢
     have hgb : w4.heap.size ≤ bA := by rw [hbA]; exact hSm.size
     have hgm : wm.heap.size ≤ bA := Nat.le_of_eq hbA.symm
     have hSz : Ext w4 wz := hSm.trans (HZ0.out.2.mono hSm.size)
     have HZ := hid HZ0.out.1
     clear hbA hsz
     go_wp2_with fail
     refine ⟨hSz, ?_⟩
     refine wpAnyH_one 8 1 (mk 10 511) rfl (by kernel_rfl) rfl ?_
     refine wpList_store_agg rfl 26 _ _ rfl bA 0 #[.slice aoSq n1q cSq, .slice aoNq n2q cNq, .slice aoFq n3q cFq] rfl rfl 26 _ HZ.out (by kernel_rfl) (by simp) ones_dfa ?_
     intro wt HB8 hs8
     have hSt : Ext w4 wt := ext_store hSz HB8.out.2 hgb
     have hsp : splice #[.slice none 0 0, .slice none 0 0, .slice none 0 0] 0 #[.slice aoSq n1q cSq, .slice aoNq n2q cNq, .slice aoFq n3q cFq] = #[.slice aoSq n1q cSq, .slice aoNq n2q cNq, .slice aoFq n3q cFq] := splice_all rfl
     rw [hsp] at HB8
     clear hsp
     go_wp2_with fail
     refine ⟨hSt, ?_⟩
     refine wpAnyH_one 9 0 (mk 10 1023) rfl (by kernel_rfl) rfl ?_
     go_wp2_with fail
     refine ⟨hSt, ?_⟩
     refine wpAnyH_end (P := Tryz.prog) (by kernel_rfl) ?_
     go_wp2_with fail
     go_meet
     exact ⟨bA, aoSq, n1q, cSq, aoNq, n2q, cNq, aoFq, n3q, cFq, E, more, rfl, rfl, hid hSt, hid HB8.out.1, hid (HMX.out.ext (ext_store HZ0.out.2 HB8.out.2 hgm)), HMMY⟩
    ·refine wpList_alloc_agg rfl 26 rfl #[.slice none 0 0, .slice none 0 0, .slice none 0 0] (by kernel_rfl) ?_
     intro wz HZ0 hsz
     obtain ⟨bA, hbA⟩ : ∃ b, b = wy.heap.size := ⟨_, rfl⟩
     rw [← hbA] at HZ0 ⊢
     have hgb : w4.heap.size ≤ bA := by rw [hbA]; exact hSy.size
     have hgm : wy.heap.size ≤ bA := Nat.le_of_eq hbA.symm
     have hSz : Ext w4 wz := hSy.trans (HZ0.out.2.mono hSy.size)
     have HZ := hid HZ0.out.1
     have HRY2 := hid (HRY.out.ext HZ0.out.2)
     clear hbA hsz
     go_wp2_with fail
     refine ⟨hSz, ?_⟩
     refine wpAnyH_one 3 5 (mk 10 143) rfl (by kernel_rfl) rfl ?_
     go_wp2_with fail
     refine (HMKL.out _ (HE4.out.trans (hSz.mono HE4.out.size)) _ _ HRY2.out HMY.out).mono ?_
     rintro e wm ⟨aoSq, n1q, cSq, aoNq, n2q, cNq, aoFq, n3q, cFq, E, rfl, hMX, hx, hfr⟩
     have hSm : Ext w4 wm := hSz.trans (hx.mono hSz.size)
     have HMX := hid hMX
     have HFR := hid (fun w'' => hfr bA w'' HZ.out.lt)
     have HZm := hid (HZ.out.ext hx)
     clear hx hMX hfr
     go_wp2_with fail
     refine ⟨hSm, ?_⟩
     refine wpAnyH_takeN 4 4 (mk 10 159) rfl (by kernel_rfl) rfl (.tuple #[.agg #[.slice aoSq n1q cSq, .slice aoNq n2q cNq, .slice aoFq n3q cFq], .int .i64 E]) (fun _ _ _ h => h) (Or.inl ⟨rfl, fun w' hS => ?_⟩) hSm (by simp only [Act.put, List.setIfInBounds_toArray, List.set_cons_succ, List.set_cons_zero]; rfl) ?_
     ·go_simp <;> with_reducible rfl
     refine wpAnyH_takeN 5 3 (mk 10 191) rfl (by kernel_rfl) rfl (.agg #[.slice aoSq n1q cSq, .slice aoNq n2q cNq, .slice aoFq n3q cFq]) (fun _ _ _ h => h) (Or.inl ⟨rfl, fun w' hS => ?_⟩) hSm (by simp only [Act.put, List.setIfInBounds_toArray, List.set_cons_succ, List.set_cons_zero]; rfl) ?_
     ·go_simp <;> with_reducible rfl
     refine wpAnyH_takeN 6 2 (mk 10 255) rfl (by kernel_rfl) rfl (.int .i64 E) (fun _ _ _ h => h) (Or.inl ⟨rfl, fun w' hS => ?_⟩) hSm (by simp only [Act.put, List.setIfInBounds_toArray, List.set_cons_succ, List.set_cons_zero]; rfl) ?_
     ·go_simp <;> with_reducible rfl
     refine wpAnyH_one 8 1 (mk 10 511) rfl (by kernel_rfl) rfl ?_
     refine wpList_store_agg rfl 26 _ _ rfl bA 0 #[.slice aoSq n1q cSq, .slice aoNq n2q cNq, .slice aoFq n3q cFq] rfl rfl 26 _ HZm.out (by kernel_rfl) (by simp) ones_dfa ?_
     intro wt HB8 hs8
     have hSt : Ext w4 wt := ext_store hSm HB8.out.2 hgb
     have hsp : splice #[.slice none 0 0, .slice none 0 0, .slice none 0 0] 0 #[.slice aoSq n1q cSq, .slice aoNq n2q cNq, .slice aoFq n3q cFq] = #[.slice aoSq n1q cSq, .slice aoNq n2q cNq, .slice aoFq n3q cFq] := splice_all rfl
     rw [hsp] at HB8
     clear hsp
     go_wp2_with fail
     refine ⟨hSt, ?_⟩
     refine wpAnyH_one 9 0 (mk 10 1023) rfl (by kernel_rfl) rfl ?_
     go_wp2_with fail
     refine ⟨hSt, ?_⟩
     refine wpAnyH_end (P := Tryz.prog) (by kernel_rfl) ?_
     go_wp2_with fail
     go_meet
     exact ⟨bA, aoSq, n1q, cSq, aoNq, n2q, cNq, aoFq, n3q, cFq, E, more, rfl, rfl, hid hSt, hid HB8.out.1, hid (HFR.out _ HB8.out.2), HMMY⟩
   ·refine wpList_alloc_agg rfl 26 rfl #[.slice none 0 0, .slice none 0 0, .slice none 0 0] (by kernel_rfl) ?_
    intro wz HZ0 hsz
    obtain ⟨bA, hbA⟩ : ∃ b, b = w4.drew.heap.size := ⟨_, rfl⟩
    rw [← hbA] at HZ0 ⊢
    have hgb : w4.heap.size ≤ bA := by rw [hbA]; exact hS0.size
    have hgm : w4.drew.heap.size ≤ bA := Nat.le_of_eq hbA.symm
    have hSz : Ext w4 wz := hS0.trans (HZ0.out.2.mono hS0.size)
    have HZ := hid HZ0.out.1
    clear hbA hsz
    go_wp2_with fail
    refine ⟨hSz, ?_⟩
    refine wpAnyH_one 2 6 (mk 10 135) rfl (by kernel_rfl) rfl ?_
    go_wp2_with fail
    refine (HSYM.out _ (HE4.out.trans (hSz.mono HE4.out.size))).mono ?_
    rintro e wy ⟨aY, nY, cY, more, rfl, hR, hM, hMM, hx⟩
    have hSy : Ext w4 wy := hSz.trans (hx.mono hSz.size)
    have HRY := hid hR
    have HMY := hid hM
    have HMMY := hid hMM
    have HZy := hid (HZ.out.ext hx)
    clear hx hR hM hMM
    go_wp2_with fail
    refine ⟨hSy, ?_⟩
    refine wpAnyH_one 3 5 (mk 10 143) rfl (by kernel_rfl) rfl ?_
    go_wp2_with fail
    refine (HMKL.out _ (HE4.out.trans (hSy.mono HE4.out.size)) _ _ HRY.out HMY.out).mono ?_
    rintro e wm ⟨aoSq, n1q, cSq, aoNq, n2q, cNq, aoFq, n3q, cFq, E, rfl, hMX, hx, hfr⟩
    have hSm : Ext w4 wm := hSy.trans (hx.mono hSy.size)
    have HMX := hid hMX
    have HFR := hid (fun w'' => hfr bA w'' HZy.out.lt)
    have HZm := hid (HZy.out.ext hx)
    clear hx hMX hfr
    go_wp2_with fail
    refine ⟨hSm, ?_⟩
    refine wpAnyH_takeN 4 4 (mk 10 159) rfl (by kernel_rfl) rfl (.tuple #[.agg #[.slice aoSq n1q cSq, .slice aoNq n2q cNq, .slice aoFq n3q cFq], .int .i64 E]) (fun _ _ _ h => h) (Or.inl ⟨rfl, fun w' hS => ?_⟩) hSm (by simp only [Act.put, List.setIfInBounds_toArray, List.set_cons_succ, List.set_cons_zero]; rfl) ?_
    ·go_simp <;> with_reducible rfl
    refine wpAnyH_takeN 5 3 (mk 10 191) rfl (by kernel_rfl) rfl (.agg #[.slice aoSq n1q cSq, .slice aoNq n2q cNq, .slice aoFq n3q cFq]) (fun _ _ _ h => h) (Or.inl ⟨rfl, fun w' hS => ?_⟩) hSm (by simp only [Act.put, List.setIfInBounds_toArray, List.set_cons_succ, List.set_cons_zero]; rfl) ?_
    ·go_simp <;> with_reducible rfl
    refine wpAnyH_takeN 6 2 (mk 10 255) rfl (by kernel_rfl) rfl (.int .i64 E) (fun _ _ _ h => h) (Or.inl ⟨rfl, fun w' hS => ?_⟩) hSm (by simp only [Act.put, List.setIfInBounds_toArray, List.set_cons_succ, List.set_cons_zero]; rfl) ?_
    ·go_simp <;> with_reducible rfl
    refine wpAnyH_one 8 1 (mk 10 511) rfl (by kernel_rfl) rfl ?_
    refine wpList_store_agg rfl 26 _ _ rfl bA 0 #[.slice aoSq n1q cSq, .slice aoNq n2q cNq, .slice aoFq n3q cFq] rfl rfl 26 _ HZm.out (by kernel_rfl) (by simp) ones_dfa ?_
    intro wt HB8 hs8
    have hSt : Ext w4 wt := ext_store hSm HB8.out.2 hgb
    have hsp : splice #[.slice none 0 0, .slice none 0 0, .slice none 0 0] 0 #[.slice aoSq n1q cSq, .slice aoNq n2q cNq, .slice aoFq n3q cFq] = #[.slice aoSq n1q cSq, .slice aoNq n2q cNq, .slice aoFq n3q cFq] := splice_all rfl
    rw [hsp] at HB8
    clear hsp
    go_wp2_with fail
    refine ⟨hSt, ?_⟩
    refine wpAnyH_one 9 0 (mk 10 1023) rfl (by kernel_rfl) rfl ?_
    go_wp2_with fail
    refine ⟨hSt, ?_⟩
    refine wpAnyH_end (P := Tryz.prog) (by kernel_rfl) ?_
    go_wp2_with fail
    go_meet
    exact ⟨bA, aoSq, n1q, cSq, aoNq, n2q, cNq, aoFq, n3q, cFq, E, more, rfl, rfl, hid hSt, hid HB8.out.1, hid (HFR.out _ HB8.out.2), HMMY⟩
 case rest =>
  as_aux_lemma =>
   clear cr0 lr cs0 ls
   obtain ⟨ba, aoSa, n1a, cSa, aoNa, n2a, cNa, aoFa, n3a, cFa, Ea, morea, rfl, rfl, HXa, HBa0, HMa0, HMMa⟩ := hcut
   obtain ⟨wca, hwc⟩ : ∃ x, x = wc := ⟨_, rfl⟩
   subst hwc
   have HE5 : Hid (Ext w wca) := hid (HE4.out.trans ((HXa.out).mono HE4.out.size))
   have HBr5 := hid (HBr4.out.ext (HXa.out))
   have HBs5 := hid (HBs4.out.ext (HXa.out))
   obtain ⟨cr0, lr⟩ := HBr5.out.c1
   obtain ⟨cs0, ls⟩ := HBs5.out.c1
   obtain ⟨ca0, ca1, ca2, la⟩ := HBa0.out.c3
   go_upto_region 4 with fail
   go_cut [9, 10] from 25 (fun u7 u8 wx => MadeB m l wca wx u7 u8)
   case first =>
    as_aux_lemma =>
     have hS0 : Ext wca wca.drew := (Below.refl _ _).drew
     refine wp_region_heldL (fun w' => Ext wca w') (by kernel_rfl) ?_
     refine wpAnyH_takeN 0 9 (mk 10 1) rfl (by kernel_rfl) rfl (.agg #[.slice aoM nm capM]) (fun _ _ _ h => h) (Or.inl ⟨rfl, fun w' hS => ?_⟩) hS0 (by simp only [Act.put, List.setIfInBounds_toArray, List.set_cons_succ, List.set_cons_zero]; rfl) ?_
     ·have d0 : w'.cell? ⟨(w.heap.size + 1), 0, none⟩ = some (.slice aoM nm capM) := (HBs5.out.ext hS).cell (i := 0) rfl; go_simp <;> with_reducible rfl
     refine wpAnyH_takeN 1 8 (mk 10 3) rfl (by kernel_rfl) rfl (.agg #[.slice aoL nl capL]) (fun _ _ _ h => h) (Or.inl ⟨rfl, fun w' hS => ?_⟩) hS0 (by simp only [Act.put, List.setIfInBounds_toArray, List.set_cons_succ, List.set_cons_zero]; rfl) ?_
     ·have d0 : w'.cell? ⟨w.heap.size, 0, none⟩ = some (.slice aoL nl capL) := (HBr5.out.ext hS).cell (i := 0) rfl; go_simp <;> with_reducible rfl
     refine wpAnyH_two 2 7 7 (mk 10 7) (mk 10 131) rfl rfl (by kernel_rfl) rfl ?_ ?_
     ·go_wp2_with fail
      refine (HSYL.out _ (HE5.out.trans (hS0.mono HE5.out.size))).mono ?_
      rintro e wy ⟨aY, nY, cY, more, rfl, hR, hM, hMM, hx⟩
      have hSy : Ext wca wy := hS0.trans (hx.mono hS0.size)
      have HRY := hid hR
      have HMY := hid hM
      have HMMY := hid hMM
      clear hx hR hM hMM
      go_wp2_with fail
      refine ⟨hSy, ?_⟩
      refine wpAnyH_two 3 7 6 (mk 10 15) (mk 10 135) rfl rfl (by kernel_rfl) rfl ?_ ?_
      ·go_wp2_with fail
       refine (HMKM.out _ (HE5.out.trans (hSy.mono HE5.out.size)) _ _ HRY.out HMY.out).mono ?_
       rintro e wm ⟨aoSq, n1q, cSq, aoNq, n2q, cNq, aoFq, n3q, cFq, E, rfl, hMX, hx, hfr⟩
       have hSm : Ext wca wm := hSy.trans (hx.mono hSy.size)
       have HMX := hid hMX
       clear hx hMX hfr
       go_wp2_with fail
       refine ⟨hSm, ?_⟩
       refine wpAnyH_takeN 4 5 (mk 10 31) rfl (by kernel_rfl) rfl (.tuple #[.agg #[.slice aoSq n1q cSq, .slice aoNq n2q cNq, .slice aoFq n3q cFq], .int .i64 E]) (fun _ _ _ h => h) (Or.inl ⟨rfl, fun w' hS => ?_⟩) hSm (by simp only [Act.put, List.setIfInBounds_toArray, List.set_cons_succ, List.set_cons_zero]; rfl) ?_
       ·go_simp <;> with_reducible rfl
       refine wpAnyH_takeN 5 4 (mk 10 63) rfl (by kernel_rfl) rfl (.agg #[.slice aoSq n1q cSq, .slice aoNq n2q cNq, .slice aoFq n3q cFq]) (fun _ _ _ h => h) (Or.inl ⟨rfl, fun w' hS => ?_⟩) hSm (by simp only [Act.put, List.setIfInBounds_toArray, List.set_cons_succ, List.set_cons_zero]; rfl) ?_
       ·go_simp <;> with_reducible rfl
       refine wpAnyH_takeN 6 3 (mk 10 127) rfl (by kernel_rfl) rfl (.int .i64 E) (fun _ _ _ h => h) (Or.inl ⟨rfl, fun w' hS => ?_⟩) hSm (by simp only [Act.put, List.setIfInBounds_toArray, List.set_cons_succ, List.set_cons_zero]; rfl) ?_
       ·go_simp <;> with_reducible rfl
       refine wpAnyH_one 7 2 (mk 10 255) rfl (by kernel_rfl) rfl ?_
       refine wpList_alloc_agg rfl 26 rfl #[.slice none 0 0, .slice none 0 0, .slice none 0 0] (by kernel_rfl) ?_
       intro wz HZ0 hsz
       obtain ⟨bA, hbA⟩ : ∃ b, b = wm.heap.size := ⟨_, rfl⟩
       rw [← hbA] at HZ0 ⊢
       have hgb : wca.heap.size ≤ bA := by rw [hbA]; exact hSm.size
       have hgm : wm.heap.size ≤ bA := Nat.le_of_eq hbA.symm
       have hSz : Ext wca wz := hSm.trans (HZ0.out.2.mono hSm.size)
       have HZ := hid HZ0.out.1
       clear hbA hsz
       go_wp2_with fail
       refine ⟨hSz, ?_⟩
       refine wpAnyH_one 8 1 (mk 10 511) rfl (by kernel_rfl) rfl ?_
       refine wpList_store_agg rfl 26 _ _ rfl bA 0 #[.slice aoSq n1q cSq, .slice aoNq n2q cNq, .slice aoFq n3q cFq] rfl rfl 26 _ HZ.out (by kernel_rfl) (by simp) ones_dfa ?_
       intro wt HB8 hs8
       have hSt : Ext wca wt := ext_store hSz HB8.out.2 hgb
       have hsp : splice #[.slice none 0 0, .slice none 0 0, .slice none 0 0] 0 #[.slice aoSq n1q cSq, .slice aoNq n2q cNq, .slice aoFq n3q cFq] = #[.slice aoSq n1q cSq, .slice aoNq n2q cNq, .slice aoFq n3q cFq] := splice_all rfl
       rw [hsp] at HB8
       clear hsp
       go_wp2_with fail
       refine ⟨hSt, ?_⟩
       refine wpAnyH_one 9 0 (mk 10 1023) rfl (by kernel_rfl) rfl ?_
       go_wp2_with fail
       refine ⟨hSt, ?_⟩
       refine wpAnyH_end (P := Tryz.prog) (by kernel_rfl) ?_
       go_wp2_with fail
       go_meet
       exact ⟨bA, aoSq, n1q, cSq, aoNq, n2q, cNq, aoFq, n3q, cFq, E, more, rfl, rfl, hid hSt, hid HB8.out.1, hid (HMX.out.ext (ext_store HZ0.out.2 HB8.out.2 hgm)), HMMY⟩
      ·refine wpList_alloc_agg rfl 26 rfl #[.slice none 0 0, .slice none 0 0, .slice none 0 0] (by kernel_rfl) ?_
       intro wz HZ0 hsz
       obtain ⟨bA, hbA⟩ : ∃ b, b = wy.heap.size := ⟨_, rfl⟩
       rw [← hbA] at HZ0 ⊢
       have hgb : wca.heap.size ≤ bA := by rw [hbA]; exact hSy.size
       have hgm : wy.heap.size ≤ bA := Nat.le_of_eq hbA.symm
       have hSz : Ext wca wz := hSy.trans (HZ0.out.2.mono hSy.size)
       have HZ := hid HZ0.out.1
       have HRY2 := hid (HRY.out.ext HZ0.out.2)
       clear hbA hsz
       go_wp2_with fail
       refine ⟨hSz, ?_⟩
       refine wpAnyH_one 3 5 (mk 10 143) rfl (by kernel_rfl) rfl ?_
       go_wp2_with fail
       refine (HMKM.out _ (HE5.out.trans (hSz.mono HE5.out.size)) _ _ HRY2.out HMY.out).mono ?_
       rintro e wm ⟨aoSq, n1q, cSq, aoNq, n2q, cNq, aoFq, n3q, cFq, E, rfl, hMX, hx, hfr⟩
       have hSm : Ext wca wm := hSz.trans (hx.mono hSz.size)
       have HMX := hid hMX
       have HFR := hid (fun w'' => hfr bA w'' HZ.out.lt)
       have HZm := hid (HZ.out.ext hx)
       clear hx hMX hfr
       go_wp2_with fail
       refine ⟨hSm, ?_⟩
       refine wpAnyH_takeN 4 4 (mk 10 159) rfl (by kernel_rfl) rfl (.tuple #[.agg #[.slice aoSq n1q cSq, .slice aoNq n2q cNq, .slice aoFq n3q cFq], .int .i64 E]) (fun _ _ _ h => h) (Or.inl ⟨rfl, fun w' hS => ?_⟩) hSm (by simp only [Act.put, List.setIfInBounds_toArray, List.set_cons_succ, List.set_cons_zero]; rfl) ?_
       ·go_simp <;> with_reducible rfl
       refine wpAnyH_takeN 5 3 (mk 10 191) rfl (by kernel_rfl) rfl (.agg #[.slice aoSq n1q cSq, .slice aoNq n2q cNq, .slice aoFq n3q cFq]) (fun _ _ _ h => h) (Or.inl ⟨rfl, fun w' hS => ?_⟩) hSm (by simp only [Act.put, List.setIfInBounds_toArray, List.set_cons_succ, List.set_cons_zero]; rfl) ?_
       ·go_simp <;> with_reducible rfl
       refine wpAnyH_takeN 6 2 (mk 10 255) rfl (by kernel_rfl) rfl (.int .i64 E) (fun _ _ _ h => h) (Or.inl ⟨rfl, fun w' hS => ?_⟩) hSm (by simp only [Act.put, List.setIfInBounds_toArray, List.set_cons_succ, List.set_cons_zero]; rfl) ?_
       ·go_simp <;> with_reducible rfl
       refine wpAnyH_one 8 1 (mk 10 511) rfl (by kernel_rfl) rfl ?_
       refine wpList_store_agg rfl 26 _ _ rfl bA 0 #[.slice aoSq n1q cSq, .slice aoNq n2q cNq, .slice aoFq n3q cFq] rfl rfl 26 _ HZm.out (by kernel_rfl) (by simp) ones_dfa ?_
       intro wt HB8 hs8
       have hSt : Ext wca wt := ext_store hSm HB8.out.2 hgb
       have hsp : splice #[.slice none 0 0, .slice none 0 0, .slice none 0 0] 0 #[.slice aoSq n1q cSq, .slice aoNq n2q cNq, .slice aoFq n3q cFq] = #[.slice aoSq n1q cSq, .slice aoNq n2q cNq, .slice aoFq n3q cFq] := splice_all rfl
       rw [hsp] at HB8
       clear hsp
       go_wp2_with fail
       refine ⟨hSt, ?_⟩
       refine wpAnyH_one 9 0 (mk 10 1023) rfl (by kernel_rfl) rfl ?_
       go_wp2_with fail
       refine ⟨hSt, ?_⟩
       refine wpAnyH_end (P := Tryz.prog) (by kernel_rfl) ?_
       go_wp2_with fail
       go_meet
       exact ⟨bA, aoSq, n1q, cSq, aoNq, n2q, cNq, aoFq, n3q, cFq, E, more, rfl, rfl, hid hSt, hid HB8.out.1, hid (HFR.out _ HB8.out.2), HMMY⟩
     ·refine wpList_alloc_agg rfl 26 rfl #[.slice none 0 0, .slice none 0 0, .slice none 0 0] (by kernel_rfl) ?_
      intro wz HZ0 hsz
      obtain ⟨bA, hbA⟩ : ∃ b, b = wca.drew.heap.size := ⟨_, rfl⟩
      rw [← hbA] at HZ0 ⊢
      have hgb : wca.heap.size ≤ bA := by rw [hbA]; exact hS0.size
      have hgm : wca.drew.heap.size ≤ bA := Nat.le_of_eq hbA.symm
      have hSz : Ext wca wz := hS0.trans (HZ0.out.2.mono hS0.size)
      have HZ := hid HZ0.out.1
      clear hbA hsz
      go_wp2_with fail
      refine ⟨hSz, ?_⟩
      refine wpAnyH_one 2 6 (mk 10 135) rfl (by kernel_rfl) rfl ?_
      go_wp2_with fail
      refine (HSYL.out _ (HE5.out.trans (hSz.mono HE5.out.size))).mono ?_
      rintro e wy ⟨aY, nY, cY, more, rfl, hR, hM, hMM, hx⟩
      have hSy : Ext wca wy := hSz.trans (hx.mono hSz.size)
      have HRY := hid hR
      have HMY := hid hM
      have HMMY := hid hMM
      have HZy := hid (HZ.out.ext hx)
      clear hx hR hM hMM
      go_wp2_with fail
      refine ⟨hSy, ?_⟩
      refine wpAnyH_one 3 5 (mk 10 143) rfl (by kernel_rfl) rfl ?_
      go_wp2_with fail
      refine (HMKM.out _ (HE5.out.trans (hSy.mono HE5.out.size)) _ _ HRY.out HMY.out).mono ?_
      rintro e wm ⟨aoSq, n1q, cSq, aoNq, n2q, cNq, aoFq, n3q, cFq, E, rfl, hMX, hx, hfr⟩
      have hSm : Ext wca wm := hSy.trans (hx.mono hSy.size)
      have HMX := hid hMX
      have HFR := hid (fun w'' => hfr bA w'' HZy.out.lt)
      have HZm := hid (HZy.out.ext hx)
      clear hx hMX hfr
      go_wp2_with fail
      refine ⟨hSm, ?_⟩
      refine wpAnyH_takeN 4 4 (mk 10 159) rfl (by kernel_rfl) rfl (.tuple #[.agg #[.slice aoSq n1q cSq, .slice aoNq n2q cNq, .slice aoFq n3q cFq], .int .i64 E]) (fun _ _ _ h => h) (Or.inl ⟨rfl, fun w' hS => ?_⟩) hSm (by simp only [Act.put, List.setIfInBounds_toArray, List.set_cons_succ, List.set_cons_zero]; rfl) ?_
      ·go_simp <;> with_reducible rfl
      refine wpAnyH_takeN 5 3 (mk 10 191) rfl (by kernel_rfl) rfl (.agg #[.slice aoSq n1q cSq, .slice aoNq n2q cNq, .slice aoFq n3q cFq]) (fun _ _ _ h => h) (Or.inl ⟨rfl, fun w' hS => ?_⟩) hSm (by simp only [Act.put, List.setIfInBounds_toArray, List.set_cons_succ, List.set_cons_zero]; rfl) ?_
      ·go_simp <;> with_reducible rfl
      refine wpAnyH_takeN 6 2 (mk 10 255) rfl (by kernel_rfl) rfl (.int .i64 E) (fun _ _ _ h => h) (Or.inl ⟨rfl, fun w' hS => ?_⟩) hSm (by simp only [Act.put, List.setIfInBounds_toArray, List.set_cons_succ, List.set_cons_zero]; rfl) ?_
      ·go_simp <;> with_reducible rfl
      refine wpAnyH_one 8 1 (mk 10 511) rfl (by kernel_rfl) rfl ?_
      refine wpList_store_agg rfl 26 _ _ rfl bA 0 #[.slice aoSq n1q cSq, .slice aoNq n2q cNq, .slice aoFq n3q cFq] rfl rfl 26 _ HZm.out (by kernel_rfl) (by simp) ones_dfa ?_
      intro wt HB8 hs8
      have hSt : Ext wca wt := ext_store hSm HB8.out.2 hgb
      have hsp : splice #[.slice none 0 0, .slice none 0 0, .slice none 0 0] 0 #[.slice aoSq n1q cSq, .slice aoNq n2q cNq, .slice aoFq n3q cFq] = #[.slice aoSq n1q cSq, .slice aoNq n2q cNq, .slice aoFq n3q cFq] := splice_all rfl
      rw [hsp] at HB8
      clear hsp
      go_wp2_with fail
      refine ⟨hSt, ?_⟩
      refine wpAnyH_one 9 0 (mk 10 1023) rfl (by kernel_rfl) rfl ?_
      go_wp2_with fail
      refine ⟨hSt, ?_⟩
      refine wpAnyH_end (P := Tryz.prog) (by kernel_rfl) ?_
      go_wp2_with fail
      go_meet
      exact ⟨bA, aoSq, n1q, cSq, aoNq, n2q, cNq, aoFq, n3q, cFq, E, more, rfl, rfl, hid hSt, hid HB8.out.1, hid (HFR.out _ HB8.out.2), HMMY⟩
   case rest =>
    as_aux_lemma =>
     clear cr0 lr cs0 ls ca0 ca1 ca2 la
     obtain ⟨bb, aoSb, n1b, cSb, aoNb, n2b, cNb, aoFb, n3b, cFb, Eb, moreb, rfl, rfl, HXb, HBb0, HMb0, HMMb⟩ := hcut
     obtain ⟨wcb, hwc⟩ : ∃ x, x = wc := ⟨_, rfl⟩
     subst hwc
     have HE6 : Hid (Ext w wcb) := hid (HE5.out.trans ((HXb.out).mono HE5.out.size))
     have HBr6 := hid (HBr5.out.ext (HXb.out))
     have HBs6 := hid (HBs5.out.ext (HXb.out))
     have HBa6 := hid (HBa0.out.ext (HXb.out))
     have HMa6 := hid (HMa0.out.ext (HXb.out))
     rcases HMa6.out with ⟨hE, hokl, A, hA1, hA2, hA3⟩ | ⟨hE, hnil⟩
     ·subst hE
      rcases HMb0.out with ⟨hE, hokm, B, hB1, hB2, hB3⟩ | ⟨hE, hnil⟩
      ·subst hE
       have HSY : Hid (A.syms = B.syms) := hid (by rw [hA1, hB1]; exact makeSyms_swap (HMMa.out hokm) (HMMb.out hokl))
       have HOKL := hid hokl
       have HOKM := hid hokm
       have HDA := hid hA2
       have HDB := hid hB2
       have HA0 := hid hA3
       have HB0 := hid hB3
       clear hokl hokm hA1 hA2 hA3 hB1 hB2 hB3 HMMa HMMb
       have HN1 := hid (dfaV_rows HA0.out.at_).2
       have hn1 : n1a ≤ 1000 := by rw [HN1.out]; exact HA0.out.bnd.s
       obtain ⟨cr0, lr⟩ := HBr6.out.c1
       obtain ⟨cs0, ls⟩ := HBs6.out.c1
       obtain ⟨ca0, ca1, ca2, la⟩ := HBa6.out.c3
       obtain ⟨cb0, cb1, cb2, lb⟩ := HBb0.out.c3
       go_upto_block 0 with fail
       clear cr0 lr cs0 ls ca0 ca1 ca2 la cb0 cb1 cb2 lb
       go_cut [12] from 13 (fun u wx => ∃ ao c ws lw, u = .slice ao lw c ∧ lw ≤ 8 ∧ Hid (lw = List.length ws) ∧ Hid (Ext wcb wx) ∧ Hid (ReadR wx 1 strC (.slice ao lw c) ws) ∧ Hid (List.length ws ≤ c) ∧ Hid (∀ x ∈ ws, x ∈ A.syms))
       case first =>
        as_aux_lemma =>
         go_wp2_with fail
         go_loopg [12, 13] ni (fun g u v wr => ∃ (i : Nat) (ws : List ByteArray), g = ni - i ∧ i ≤ ni ∧ v = .int .i64 i ∧ Hid (Ext wcb wr ∧ OwnR wr wcb.heap.size 9 1 strC u ws ∧ (∀ x ∈ ws, x ∈ A.syms) ∧ ws.length ≤ i))
         case atStart => exact ⟨0, [], rfl, Nat.zero_le _, rfl, hid ⟨Below.refl _ _, OwnR.nil _ _ _ _ _, by simp, Nat.le_refl _⟩⟩
         case round =>
          obtain ⟨i, ws, rfl, hi, rfl, HL⟩ := hrel
          obtain ⟨ao12, c12, rfl, hc12, -⟩ := HL.out.2.1.cells strC_size
          obtain ⟨lw, hlw⟩ : ∃ n, n = ws.length := ⟨_, rfl⟩
          have HO := hid HL.out.2.1
          rw [← hlw] at HO ⊢ hc12
          have HLW := hid hlw
          have hl8 : lw ≤ i := by rw [hlw]; exact HL.out.2.2.2
          clear hlw
          by_cases h1 : i < ni
          ·have q1 : decide (i < ni) = true := decide_eq_true h1
           have q2 : decide ((i : Int) < (ni : Int)) = true := decide_eq_true (by omega)
           by_cases h2 : 0 < n1a
           ·have q3 : decide (0 < n1a) = true := decide_eq_true h2
            have q4 : decide ((0 : Int) < (n1a : Int)) = true := decide_eq_true (by omega)
            obtain ⟨x, hx⟩ : ∃ x, is[i]? = some x := ⟨_, List.getElem?_eq_getElem (by obtain ⟨_, _, e, _⟩ := HI.out; simp only [Value.slice.injEq] at e; omega)⟩
            have hfi := HI.out.form
            obtain ⟨_, _, ei, hi2⟩ := hfi
            simp only [Value.slice.injEq] at ei
            obtain ⟨rfl, ei2, -⟩ := ei
            obtain ⟨gI, oI, rfl⟩ := hi2 (by omega)
            clear ei2 hi2
            obtain ⟨q, hq1, hq2, hq3⟩ := idx_in x h2 hn1
            obtain ⟨y, hy⟩ : ∃ y, A.syms[q]? = some y := ⟨_, List.getElem?_eq_getElem (by rw [← HN1.out]; exact hq1)⟩
            have hsR := HA0.out.at_.symsR
            obtain ⟨_, _, es, hs2⟩ := hsR.form
            simp only [Value.slice.injEq] at es
            obtain ⟨rfl, es2, -⟩ := es
            obtain ⟨gS, oS, rfl⟩ := hs2 (by omega)
            have HX := hid hx
            have HY := hid hy
            have HR := hid hsR
            have hr0 : decide ((n1a : Int) = 0) = false := decide_eq_false (by omega)
            have hr1 : ¬ (n1a = 0) := by omega
            have g1 : (0 : Int) ≤ i := by omega
            have g2 : (i : Int) < ni := by omega
            have g3 : (0 : Int) ≤ q := by omega
            have g4 : (q : Int) < n1a := by omega
            have hsz : wcb.heap.size ≤ wr.drew.heap.size := HL.out.1.size
            have hln : ws.length + 1 ≤ 1000000000 := by rw [← HLW.out]; omega
            clear hx hy hsR es2 hs2
            have cz : wr.cell? ⟨ba, 0, none⟩ = some (.slice (some ⟨gS, oS, none⟩) n1a cSa) := (HBa6.out.ext HL.out.1).cell (i := 0) rfl
            have lz := (HBa6.out.ext HL.out.1).lt
            go_upto_region 12 with fail
            have hS0 : Ext wcb wr.drew := HL.out.1.drew
            refine wp_region_heldL (fun w' => Ext wcb w') (by kernel_rfl) ?_
            refine wpAnyH_takeN 0 17 (mk 18 1) rfl (by kernel_rfl) rfl (.slice ao12 lw c12) (fun _ _ _ h => h) (Or.inl ⟨rfl, fun w' hS => ?_⟩) hS0 (by simp only [Act.put, List.setIfInBounds_toArray, List.set_cons_succ, List.set_cons_zero]; rfl) ?_
            ·go_simp <;> with_reducible rfl
            refine wpAnyH_takeN 1 16 (mk 18 3) rfl (by kernel_rfl) rfl (.pointer (some ⟨ba, 0, none⟩)) (fun _ _ _ h => h) (Or.inl ⟨rfl, fun w' hS => ?_⟩) hS0 (by simp only [Act.put, List.setIfInBounds_toArray, List.set_cons_succ, List.set_cons_zero]; rfl) ?_
            ·go_simp <;> with_reducible rfl
            refine wpAnyH_takeN 2 15 (mk 18 7) rfl (by kernel_rfl) rfl (.slice (some ⟨gS, oS, none⟩) n1a cSa) (fun _ _ _ h => h) (Or.inl ⟨rfl, fun w' hS => ?_⟩) hS0 (by simp only [Act.put, List.setIfInBounds_toArray, List.set_cons_succ, List.set_cons_zero]; rfl) ?_
            ·have d0 : w'.cell? ⟨ba, 0, none⟩ = some (.slice (some ⟨gS, oS, none⟩) n1a cSa) := (HBa6.out.ext hS).cell (i := 0) rfl; go_simp <;> with_reducible rfl
            refine wpAnyH_takeN 3 14 (mk 18 15) rfl (by kernel_rfl) rfl (.slice (some ⟨gI, oI, none⟩) ni ci) (fun _ _ _ h => h) (Or.inl ⟨rfl, fun w' hS => ?_⟩) hS0 (by simp only [Act.put, List.setIfInBounds_toArray, List.set_cons_succ, List.set_cons_zero]; rfl) ?_
            ·go_simp <;> with_reducible rfl
            refine wpAnyH_takeN 4 13 (mk 18 31) rfl (by kernel_rfl) rfl (.int .i64 i) (fun _ _ _ h => h) (Or.inl ⟨rfl, fun w' hS => ?_⟩) hS0 (by simp only [Act.put, List.setIfInBounds_toArray, List.set_cons_succ, List.set_cons_zero]; rfl) ?_
            ·go_simp <;> with_reducible rfl
            refine wpAnyH_takeN 5 12 (mk 18 63) rfl (by kernel_rfl) rfl (.pointer (some ⟨gI, oI + i, none⟩)) (fun _ _ _ h => h) (Or.inl ⟨rfl, fun w' hS => ?_⟩) hS0 (by simp only [Act.put, List.setIfInBounds_toArray, List.set_cons_succ, List.set_cons_zero]; rfl) ?_
            ·go_simp <;> with_reducible rfl
            refine wpAnyH_takeN 6 11 (mk 18 127) rfl (by kernel_rfl) rfl (.int .i64 x) (fun _ _ _ h => h) (Or.inl ⟨rfl, fun w' hS => ?_⟩) hS0 (by simp only [Act.put, List.setIfInBounds_toArray, List.set_cons_succ, List.set_cons_zero]; rfl) ?_
            ·have d0 : w'.cell? ⟨gI, oI + i, none⟩ = some (.int .i64 x) := (HI.out.ext (HE6.out.trans (hS.mono HE6.out.size))).cell1 HX.out; go_simp <;> with_reducible rfl
            refine wpAnyH_takeN 7 10 (mk 18 255) rfl (by kernel_rfl) rfl (.int .i64 n1a) (fun _ _ _ h => h) (Or.inl ⟨rfl, fun w' hS => ?_⟩) hS0 (by simp only [Act.put, List.setIfInBounds_toArray, List.set_cons_succ, List.set_cons_zero]; rfl) ?_
            ·go_simp <;> with_reducible rfl
            refine wpAnyH_takeN 8 9 (mk 18 511) rfl (by kernel_rfl) rfl (.int .i64 (x.tmod n1a)) (fun _ _ _ h => h) (Or.inl ⟨rfl, fun w' hS => ?_⟩) hS0 (by simp only [Act.put, List.setIfInBounds_toArray, List.set_cons_succ, List.set_cons_zero]; rfl) ?_
            ·go_simp <;> with_reducible rfl
            refine wpAnyH_takeN 9 8 (mk 18 1023) rfl (by kernel_rfl) rfl (.int .i64 n1a) (fun _ _ _ h => h) (Or.inl ⟨rfl, fun w' hS => ?_⟩) hS0 (by simp only [Act.put, List.setIfInBounds_toArray, List.set_cons_succ, List.set_cons_zero]; rfl) ?_
            ·go_simp <;> with_reducible rfl
            refine wpAnyH_takeN 10 7 (mk 18 2047) rfl (by kernel_rfl) rfl (.int .i64 (x.tmod n1a + n1a)) (fun _ _ _ h => h) (Or.inl ⟨rfl, fun w' hS => ?_⟩) hS0 (by simp only [Act.put, List.setIfInBounds_toArray, List.set_cons_succ, List.set_cons_zero]; rfl) ?_
            ·go_simp <;> with_reducible rfl
            refine wpAnyH_takeN 11 6 (mk 18 4095) rfl (by kernel_rfl) rfl (.int .i64 n1a) (fun _ _ _ h => h) (Or.inl ⟨rfl, fun w' hS => ?_⟩) hS0 (by simp only [Act.put, List.setIfInBounds_toArray, List.set_cons_succ, List.set_cons_zero]; rfl) ?_
            ·go_simp <;> with_reducible rfl
            refine wpAnyH_takeN 12 5 (mk 18 8191) rfl (by kernel_rfl) rfl (.int .i64 q) (fun _ _ _ h => h) (Or.inl ⟨rfl, fun w' hS => ?_⟩) hS0 (by simp only [Act.put, List.setIfInBounds_toArray, List.set_cons_succ, List.set_cons_zero]; rfl) ?_
            ·go_simp <;> with_reducible rfl
            refine wpAnyH_takeN 13 4 (mk 18 16383) rfl (by kernel_rfl) rfl (.pointer (some ⟨gS, oS + q, none⟩)) (fun _ _ _ h => h) (Or.inl ⟨rfl, fun w' hS => ?_⟩) hS0 (by simp only [Act.put, List.setIfInBounds_toArray, List.set_cons_succ, List.set_cons_zero]; rfl) ?_
            ·go_simp <;> with_reducible rfl
            refine wpAnyH_takeN 14 3 (mk 18 32767) rfl (by kernel_rfl) rfl (.string y) (fun _ _ _ h => h) (Or.inl ⟨rfl, fun w' hS => ?_⟩) hS0 (by simp only [Act.put, List.setIfInBounds_toArray, List.set_cons_succ, List.set_cons_zero]; rfl) ?_
            ·have d0 : w'.cell? ⟨gS, oS + q, none⟩ = some (.string y) := (HR.out.ext hS).cell1 HY.out; go_simp <;> with_reducible rfl
            refine wpAnyH_one 15 2 (mk 18 65535) rfl (by kernel_rfl) rfl ?_
            go_wp2_with fail
            refine ⟨hS0.alloc hS0.size _, ?_⟩
            refine wpAnyH_one 16 1 (mk 18 131071) rfl (by kernel_rfl) rfl ?_
            have HOD : Hid (OwnR wr.drew wcb.heap.size 9 1 strC (.slice ao12 lw c12) ws) := hid (HO.out.ext (Below.refl wr.heap.size wr).drew)
            go_wp2_with (with_reducible refine onOp 105 ?_
                         go_loud (refine wpList_append_R elem_str strC_size ones_strC HOD hsz hln y _ rfl wr.heap.size rfl rfl _ _ rfl rfl rfl ?_)
                         rintro g6 c6 v6 w6 rfl G1 G2)
            have HX6 := hid (ext_grown hS0 G2.out.1 (fun i hi => (HOD.out.lt i hi).1))
            refine ⟨HX6.out, ?_⟩
            refine wpAnyH_one 17 0 (mk 18 262143) rfl (by kernel_rfl) rfl ?_
            go_wp2_with fail
            refine ⟨HX6.out, ?_⟩
            refine wpAnyH_end (P := Tryz.prog) (by kernel_rfl) ?_
            go_wp2_with fail
            go_roundg (ni - (i + 1))
            case measure => omega
            case rel =>
             exact ⟨i + 1, ws ++ [y], rfl, by omega, by go_num, hid ⟨HX6.out, by first | exact G1.out | (rw [← HLW.out] at G1; exact G1.out), fun z hz => by
              rw [List.mem_append, List.mem_singleton] at hz
              rcases hz with hz | rfl
              ·exact HL.out.2.2.1 z hz
              ·exact List.mem_of_getElem? HY.out, by have := HL.out.2.2.2; simp; omega⟩⟩
           ·have q3 : decide (0 < n1a) = false := decide_eq_false h2
            have q4 : decide ((0 : Int) < (n1a : Int)) = false := decide_eq_false (by omega)
            go_wp2_with fail
            go_meet
            exact ⟨ao12, c12, ws, lw, rfl, by omega, HLW, hid HL.out.1, hid (OwnR.read HO.out strC_size), hid (by rw [← HLW.out]; exact hc12), hid HL.out.2.2.1⟩
          ·have q1 : decide (i < ni) = false := decide_eq_false h1
           have q2 : decide ((i : Int) < (ni : Int)) = false := decide_eq_false (by omega)
           go_wp2_with fail
           go_meet
           exact ⟨ao12, c12, ws, lw, rfl, by omega, HLW, hid HL.out.1, hid (OwnR.read HO.out strC_size), hid (by rw [← HLW.out]; exact hc12), hid HL.out.2.2.1⟩
       case rest =>
        as_aux_lemma =>
         obtain ⟨aw, cw, ws, lw, rfl, hl8, HLW, HXl, HW0, HCW, HIN⟩ := hcut
         obtain ⟨wl, hwc⟩ : ∃ x, x = wc := ⟨_, rfl⟩
         subst hwc
         have HE7 : Hid (Ext w wl) := hid (HE6.out.trans ((HXl.out).mono HE6.out.size))
         have HBr7 := hid (HBr6.out.ext (HXl.out))
         have HBs7 := hid (HBs6.out.ext (HXl.out))
         have HBa7 := hid (HBa6.out.ext (HXl.out))
         have HBb7 := hid (HBb0.out.ext (HXl.out))
         have HA7 := hid (HA0.out.ext (HXl.out))
         have HB7 := hid (HB0.out.ext (HXl.out))
         have HMW : Hid (MildS ws) := hid (mild_small (by rw [← HLW.out]; omega) fun s hs => HA0.out.bnd.b s (HIN.out s hs))
         have HINB : Hid (∀ x ∈ ws, x ∈ B.syms) := hid fun x hx => by rw [← HSY.out]; exact HIN.out x hx
         obtain ⟨bx, hbx⟩ : ∃ b, b = matchT (rootT l) ws := ⟨_, rfl⟩
         obtain ⟨bz, hbz⟩ : ∃ b, b = matchT (rootT m) ws := ⟨_, rfl⟩
         have HMA : Hid (matchD A ws = bx) := hid (by rw [hbx]; exact HDA.out ws HIN.out)
         have HMB : Hid (matchD B ws = bz) := hid (by rw [hbz]; exact HDB.out ws HINB.out)
         have HBX := hid hbx
         have HBZ := hid hbz
         clear hbx hbz
         obtain ⟨cr0, lr⟩ := HBr7.out.c1
         obtain ⟨cs0, ls⟩ := HBs7.out.c1
         obtain ⟨ca0, ca1, ca2, la⟩ := HBa7.out.c3
         obtain ⟨cb0, cb1, cb2, lb⟩ := HBb7.out.c3
         go_wp2_with fail
         have HC := hid (HRML.out HOKL.out _ HE7.out _ _ _ ws HW0.out HMW.out HCW.out)
         rw [← HBX.out] at HC
         refine (HC.out).mono ?_
         rintro e w5 ⟨rfl, hx⟩
         clear cr0 lr cs0 ls ca0 ca1 ca2 la cb0 cb1 cb2 lb
         have HE8 : Hid (Ext w w5) := hid (HE7.out.trans ((hx).mono HE7.out.size))
         have HBr8 := hid (HBr7.out.ext (hx))
         have HBs8 := hid (HBs7.out.ext (hx))
         have HBa8 := hid (HBa7.out.ext (hx))
         have HBb8 := hid (HBb7.out.ext (hx))
         have HA8 := hid (HA7.out.ext (hx))
         have HB8 := hid (HB7.out.ext (hx))
         have HW8 := hid (HW0.out.ext (hx))
         clear hx
         clear HC
         obtain ⟨cr0, lr⟩ := HBr8.out.c1
         obtain ⟨cs0, ls⟩ := HBs8.out.c1
         obtain ⟨ca0, ca1, ca2, la⟩ := HBa8.out.c3
         obtain ⟨cb0, cb1, cb2, lb⟩ := HBb8.out.c3
         go_wp2_with fail
         have HC := hid (HRMM.out HOKM.out _ HE8.out _ _ _ ws HW8.out HMW.out HCW.out)
         rw [← HBZ.out] at HC
         refine (HC.out).mono ?_
         rintro e w6 ⟨rfl, hx⟩
         clear cr0 lr cs0 ls ca0 ca1 ca2 la cb0 cb1 cb2 lb
         have HE9 : Hid (Ext w w6) := hid (HE8.out.trans ((hx).mono HE8.out.size))
         have HBr9 := hid (HBr8.out.ext (hx))
         have HBs9 := hid (HBs8.out.ext (hx))
         have HBa9 := hid (HBa8.out.ext (hx))
         have HBb9 := hid (HBb8.out.ext (hx))
         have HA9 := hid (HA8.out.ext (hx))
         have HB9 := hid (HB8.out.ext (hx))
         have HW9 := hid (HW8.out.ext (hx))
         clear hx
         clear HC
         obtain ⟨cr0, lr⟩ := HBr9.out.c1
         obtain ⟨cs0, ls⟩ := HBs9.out.c1
         obtain ⟨ca0, ca1, ca2, la⟩ := HBa9.out.c3
         obtain ⟨cb0, cb1, cb2, lb⟩ := HBb9.out.c3
         go_wp2_with fail
         refine (not_in8 HA9.out).mono ?_
         rintro e w7 ⟨aoSn, n1n, cSn, aoNn, n2n, cNn, aoFn, n3n, cFn, rfl, hN, hx⟩
         clear cr0 lr cs0 ls ca0 ca1 ca2 la cb0 cb1 cb2 lb
         have HE10 : Hid (Ext w w7) := hid (HE9.out.trans ((hx).mono HE9.out.size))
         have HBr10 := hid (HBr9.out.ext (hx))
         have HBs10 := hid (HBs9.out.ext (hx))
         have HBa10 := hid (HBa9.out.ext (hx))
         have HBb10 := hid (HBb9.out.ext (hx))
         have HA10 := hid (HA9.out.ext (hx))
         have HB10 := hid (HB9.out.ext (hx))
         have HW10 := hid (HW9.out.ext (hx))
         have HN0 := hid hN
         clear hx hN
         obtain ⟨cr0, lr⟩ := HBr10.out.c1
         obtain ⟨cs0, ls⟩ := HBs10.out.c1
         obtain ⟨ca0, ca1, ca2, la⟩ := HBa10.out.c3
         obtain ⟨cb0, cb1, cb2, lb⟩ := HBb10.out.c3
         go_wp2_with fail
         obtain ⟨w8, hw8⟩ : ∃ u, u = w7.alloc (.cells #[.slice aoSn n1n cSn, .slice aoNn n2n cNn, .slice aoFn n3n cFn] 26) := ⟨_, rfl⟩
         have ew8 : Ext w7 w8 := hw8 ▸ (Below.refl _ _).alloc (Nat.le_refl _) _
         have HBnn : Hid (Blk w8 w7.heap.size 26 #[.slice aoSn n1n cSn, .slice aoNn n2n cNn, .slice aoFn n3n cFn]) := hid (hw8 ▸ Blk.new _ _ _)
         have HWw8 := hid hw8
         clear cr0 lr cs0 ls ca0 ca1 ca2 la cb0 cb1 cb2 lb
         have HE11 : Hid (Ext w w8) := hid (HE10.out.trans ((ew8).mono HE10.out.size))
         have HBr11 := hid (HBr10.out.ext (ew8))
         have HBs11 := hid (HBs10.out.ext (ew8))
         have HBa11 := hid (HBa10.out.ext (ew8))
         have HBb11 := hid (HBb10.out.ext (ew8))
         have HA11 := hid (HA10.out.ext (ew8))
         have HB11 := hid (HB10.out.ext (ew8))
         have HW11 := hid (HW10.out.ext (ew8))
         have HN11 := hid (HN0.out.ext (ew8))
         clear ew8 hw8
         rw [← HWw8.out]
         obtain ⟨cr0, lr⟩ := HBr11.out.c1
         obtain ⟨cs0, ls⟩ := HBs11.out.c1
         obtain ⟨ca0, ca1, ca2, la⟩ := HBa11.out.c3
         obtain ⟨cb0, cb1, cb2, lb⟩ := HBb11.out.c3
         obtain ⟨cn0, cn1, cn2, ln⟩ := HBnn.out.c3
         refine (small_gen HA11.out).mono ?_
         rintro e w9 ⟨aoSx, n1x, cSx, aoNx, n2x, cNx, aoFx, n3x, cFx, X, rfl, hmx, hmX, hX, hx⟩
         clear cr0 lr cs0 ls ca0 ca1 ca2 la cb0 cb1 cb2 lb cn0 cn1 cn2 ln
         have HE12 : Hid (Ext w w9) := hid (HE11.out.trans ((hx).mono HE11.out.size))
         have HBr12 := hid (HBr11.out.ext (hx))
         have HBs12 := hid (HBs11.out.ext (hx))
         have HBa12 := hid (HBa11.out.ext (hx))
         have HBb12 := hid (HBb11.out.ext (hx))
         have HBn12 := hid (HBnn.out.ext (hx))
         have HA12 := hid (HA11.out.ext (hx))
         have HB12 := hid (HB11.out.ext (hx))
         have HW12 := hid (HW11.out.ext (hx))
         have HN12 := hid (HN11.out.ext (hx))
         have HX0 := hid hX
         clear hx hX
         have HMX := hid hmX
         clear hmX
         obtain ⟨cr0, lr⟩ := HBr12.out.c1
         obtain ⟨cs0, ls⟩ := HBs12.out.c1
         obtain ⟨ca0, ca1, ca2, la⟩ := HBa12.out.c3
         obtain ⟨cb0, cb1, cb2, lb⟩ := HBb12.out.c3
         obtain ⟨cn0, cn1, cn2, ln⟩ := HBn12.out.c3
         go_wp2_with fail
         obtain ⟨w10, hw10⟩ : ∃ u, u = w9.alloc (.cells #[.slice aoSx n1x cSx, .slice aoNx n2x cNx, .slice aoFx n3x cFx] 26) := ⟨_, rfl⟩
         have ew10 : Ext w9 w10 := hw10 ▸ (Below.refl _ _).alloc (Nat.le_refl _) _
         have HBxn : Hid (Blk w10 w9.heap.size 26 #[.slice aoSx n1x cSx, .slice aoNx n2x cNx, .slice aoFx n3x cFx]) := hid (hw10 ▸ Blk.new _ _ _)
         have HWw10 := hid hw10
         clear cr0 lr cs0 ls ca0 ca1 ca2 la cb0 cb1 cb2 lb cn0 cn1 cn2 ln
         have HE13 : Hid (Ext w w10) := hid (HE12.out.trans ((ew10).mono HE12.out.size))
         have HBr13 := hid (HBr12.out.ext (ew10))
         have HBs13 := hid (HBs12.out.ext (ew10))
         have HBa13 := hid (HBa12.out.ext (ew10))
         have HBb13 := hid (HBb12.out.ext (ew10))
         have HBn13 := hid (HBn12.out.ext (ew10))
         have HA13 := hid (HA12.out.ext (ew10))
         have HB13 := hid (HB12.out.ext (ew10))
         have HW13 := hid (HW12.out.ext (ew10))
         have HN13 := hid (HN12.out.ext (ew10))
         have HX13 := hid (HX0.out.ext (ew10))
         clear ew10 hw10
         rw [← HWw10.out]
         obtain ⟨cr0, lr⟩ := HBr13.out.c1
         obtain ⟨cs0, ls⟩ := HBs13.out.c1
         obtain ⟨ca0, ca1, ca2, la⟩ := HBa13.out.c3
         obtain ⟨cb0, cb1, cb2, lb⟩ := HBb13.out.c3
         obtain ⟨cn0, cn1, cn2, ln⟩ := HBn13.out.c3
         obtain ⟨cx0, cx1, cx2, lx⟩ := HBxn.out.c3
         refine (both_gen HA13.out HB13.out HSY.out).mono ?_
         rintro e w11 ⟨aoSd, n1d, cSd, aoNd, n2d, cNd, aoFd, n3d, cFd, E, rfl, hD, hx⟩
         clear cr0 lr cs0 ls ca0 ca1 ca2 la cb0 cb1 cb2 lb cn0 cn1 cn2 ln cx0 cx1 cx2 lx
         have HE14 : Hid (Ext w w11) := hid (HE13.out.trans ((hx).mono HE13.out.size))
         have HBr14 := hid (HBr13.out.ext (hx))
         have HBs14 := hid (HBs13.out.ext (hx))
         have HBa14 := hid (HBa13.out.ext (hx))
         have HBb14 := hid (HBb13.out.ext (hx))
         have HBn14 := hid (HBn13.out.ext (hx))
         have HBx14 := hid (HBxn.out.ext (hx))
         have HA14 := hid (HA13.out.ext (hx))
         have HB14 := hid (HB13.out.ext (hx))
         have HW14 := hid (HW13.out.ext (hx))
         have HN14 := hid (HN13.out.ext (hx))
         have HX14 := hid (HX13.out.ext (hx))
         have HD0 := hid hD
         clear hx hD
         have HXD : Hid (Ext w11 w11) := hid (Below.refl _ _)
         obtain ⟨cr0, lr⟩ := HBr14.out.c1
         obtain ⟨cs0, ls⟩ := HBs14.out.c1
         obtain ⟨ca0, ca1, ca2, la⟩ := HBa14.out.c3
         obtain ⟨cb0, cb1, cb2, lb⟩ := HBb14.out.c3
         obtain ⟨cn0, cn1, cn2, ln⟩ := HBn14.out.c3
         obtain ⟨cx0, cx1, cx2, lx⟩ := HBx14.out.c3
         go_upto_region 18 with fail
         obtain ⟨w12, hw12⟩ : ∃ u, u = w11.alloc (.cells #[.slice aoSd n1d cSd, .slice aoNd n2d cNd, .slice aoFd n3d cFd] 26) := ⟨_, rfl⟩
         have ew12 : Ext w11 w12 := hw12 ▸ (Below.refl _ _).alloc (Nat.le_refl _) _
         have HBdn : Hid (Blk w12 w11.heap.size 26 #[.slice aoSd n1d cSd, .slice aoNd n2d cNd, .slice aoFd n3d cFd]) := hid (hw12 ▸ Blk.new _ _ _)
         have HWw12 := hid hw12
         clear cr0 lr cs0 ls ca0 ca1 ca2 la cb0 cb1 cb2 lb cn0 cn1 cn2 ln cx0 cx1 cx2 lx
         have HE15 : Hid (Ext w w12) := hid (HE14.out.trans ((ew12).mono HE14.out.size))
         have HBr15 := hid (HBr14.out.ext (ew12))
         have HBs15 := hid (HBs14.out.ext (ew12))
         have HBa15 := hid (HBa14.out.ext (ew12))
         have HBb15 := hid (HBb14.out.ext (ew12))
         have HBn15 := hid (HBn14.out.ext (ew12))
         have HBx15 := hid (HBx14.out.ext (ew12))
         have HA15 := hid (HA14.out.ext (ew12))
         have HB15 := hid (HB14.out.ext (ew12))
         have HW15 := hid (HW14.out.ext (ew12))
         have HN15 := hid (HN14.out.ext (ew12))
         have HX15 := hid (HX14.out.ext (ew12))
         clear ew12 hw12
         rw [← HWw12.out]
         have HXD2 : Hid (Ext w11 w12) := hid (by rw [HWw12.out]; exact (Below.refl _ _).alloc (Nat.le_refl _) _)
         obtain ⟨cr0, lr⟩ := HBr15.out.c1
         obtain ⟨cs0, ls⟩ := HBs15.out.c1
         obtain ⟨ca0, ca1, ca2, la⟩ := HBa15.out.c3
         obtain ⟨cb0, cb1, cb2, lb⟩ := HBb15.out.c3
         obtain ⟨cn0, cn1, cn2, ln⟩ := HBn15.out.c3
         obtain ⟨cx0, cx1, cx2, lx⟩ := HBx15.out.c3
         obtain ⟨cd0, cd1, cd2, ld⟩ := HBdn.out.c3
         go_cut [184] from 128 (fun u wx => u = .bool false ∧ Hid (Ext w12 wx))
         case first =>
          as_aux_lemma =>
           have t1 : decide (n2a < n2x) = false := decide_eq_false (by omega)
           have t2 : decide ((n2a : Int) < (n2x : Int)) = false := decide_eq_false (by omega)
           have t3 : (bx == bx) = true := by simp
           have t4 : (bz == bz) = true := by simp
           have t5 : ((!bx) == bx) = false := by cases bx <;> rfl
           have HY0 : Hid (Ext w12 w12) := hid (Below.refl _ _)
           go_wp2_with fail
           have HC := hid (dmatch_any HA15.out (l := ws) HW15.out (by rw [← HLW.out]; omega))
           rw [HMA.out] at HC
           refine (HC.out).mono ?_
           rintro e w13 ⟨rfl, hx⟩
           clear cr0 lr cs0 ls ca0 ca1 ca2 la cb0 cb1 cb2 lb cn0 cn1 cn2 ln cx0 cx1 cx2 lx cd0 cd1 cd2 ld
           have HE16 : Hid (Ext w w13) := hid (HE15.out.trans ((hx).mono HE15.out.size))
           have HBr16 := hid (HBr15.out.ext (hx))
           have HBs16 := hid (HBs15.out.ext (hx))
           have HBa16 := hid (HBa15.out.ext (hx))
           have HBb16 := hid (HBb15.out.ext (hx))
           have HBn16 := hid (HBn15.out.ext (hx))
           have HBx16 := hid (HBx15.out.ext (hx))
           have HBd16 := hid (HBdn.out.ext (hx))
           have HA16 := hid (HA15.out.ext (hx))
           have HB16 := hid (HB15.out.ext (hx))
           have HW16 := hid (HW15.out.ext (hx))
           have HN16 := hid (HN15.out.ext (hx))
           have HX16 := hid (HX15.out.ext (hx))
           have HY1 := hid (HY0.out.trans (hx.mono HY0.out.size))
           clear hx HC
           obtain ⟨cr0, lr⟩ := HBr16.out.c1
           obtain ⟨cs0, ls⟩ := HBs16.out.c1
           obtain ⟨ca0, ca1, ca2, la⟩ := HBa16.out.c3
           obtain ⟨cb0, cb1, cb2, lb⟩ := HBb16.out.c3
           obtain ⟨cn0, cn1, cn2, ln⟩ := HBn16.out.c3
           obtain ⟨cx0, cx1, cx2, lx⟩ := HBx16.out.c3
           obtain ⟨cd0, cd1, cd2, ld⟩ := HBd16.out.c3
           go_wp2_with fail
           have HC := hid (dmatch_any HB16.out (l := ws) HW16.out (by rw [← HLW.out]; omega))
           rw [HMB.out] at HC
           refine (HC.out).mono ?_
           rintro e w14 ⟨rfl, hx⟩
           clear cr0 lr cs0 ls ca0 ca1 ca2 la cb0 cb1 cb2 lb cn0 cn1 cn2 ln cx0 cx1 cx2 lx cd0 cd1 cd2 ld
           have HE17 : Hid (Ext w w14) := hid (HE16.out.trans ((hx).mono HE16.out.size))
           have HBr17 := hid (HBr16.out.ext (hx))
           have HBs17 := hid (HBs16.out.ext (hx))
           have HBa17 := hid (HBa16.out.ext (hx))
           have HBb17 := hid (HBb16.out.ext (hx))
           have HBn17 := hid (HBn16.out.ext (hx))
           have HBx17 := hid (HBx16.out.ext (hx))
           have HBd17 := hid (HBd16.out.ext (hx))
           have HA17 := hid (HA16.out.ext (hx))
           have HB17 := hid (HB16.out.ext (hx))
           have HW17 := hid (HW16.out.ext (hx))
           have HN17 := hid (HN16.out.ext (hx))
           have HX17 := hid (HX16.out.ext (hx))
           have HY2 := hid (HY1.out.trans (hx.mono HY1.out.size))
           clear hx HC
           obtain ⟨cr0, lr⟩ := HBr17.out.c1
           obtain ⟨cs0, ls⟩ := HBs17.out.c1
           obtain ⟨ca0, ca1, ca2, la⟩ := HBa17.out.c3
           obtain ⟨cb0, cb1, cb2, lb⟩ := HBb17.out.c3
           obtain ⟨cn0, cn1, cn2, ln⟩ := HBn17.out.c3
           obtain ⟨cx0, cx1, cx2, lx⟩ := HBx17.out.c3
           obtain ⟨cd0, cd1, cd2, ld⟩ := HBd17.out.c3
           go_wp2_with fail
           have HC := hid (dmatch_any HN17.out (l := ws) HW17.out (by rw [← HLW.out]; omega))
           rw [match_notW HA0.out.well HIN.out, HMA.out] at HC
           refine (HC.out).mono ?_
           rintro e w15 ⟨rfl, hx⟩
           clear cr0 lr cs0 ls ca0 ca1 ca2 la cb0 cb1 cb2 lb cn0 cn1 cn2 ln cx0 cx1 cx2 lx cd0 cd1 cd2 ld
           have HE18 : Hid (Ext w w15) := hid (HE17.out.trans ((hx).mono HE17.out.size))
           have HBr18 := hid (HBr17.out.ext (hx))
           have HBs18 := hid (HBs17.out.ext (hx))
           have HBa18 := hid (HBa17.out.ext (hx))
           have HBb18 := hid (HBb17.out.ext (hx))
           have HBn18 := hid (HBn17.out.ext (hx))
           have HBx18 := hid (HBx17.out.ext (hx))
           have HBd18 := hid (HBd17.out.ext (hx))
           have HA18 := hid (HA17.out.ext (hx))
           have HB18 := hid (HB17.out.ext (hx))
           have HW18 := hid (HW17.out.ext (hx))
           have HN18 := hid (HN17.out.ext (hx))
           have HX18 := hid (HX17.out.ext (hx))
           have HY3 := hid (HY2.out.trans (hx.mono HY2.out.size))
           clear hx HC
           obtain ⟨cr0, lr⟩ := HBr18.out.c1
           obtain ⟨cs0, ls⟩ := HBs18.out.c1
           obtain ⟨ca0, ca1, ca2, la⟩ := HBa18.out.c3
           obtain ⟨cb0, cb1, cb2, lb⟩ := HBb18.out.c3
           obtain ⟨cn0, cn1, cn2, ln⟩ := HBn18.out.c3
           obtain ⟨cx0, cx1, cx2, lx⟩ := HBx18.out.c3
           obtain ⟨cd0, cd1, cd2, ld⟩ := HBd18.out.c3
           go_wp2_with fail
           have HC := hid (dmatch_any HX18.out (l := ws) HW18.out (by rw [← HLW.out]; omega))
           rw [match_minW HMX.out HA0.out.well HIN.out, HMA.out] at HC
           refine (HC.out).mono ?_
           rintro e w16 ⟨rfl, hx⟩
           clear cr0 lr cs0 ls ca0 ca1 ca2 la cb0 cb1 cb2 lb cn0 cn1 cn2 ln cx0 cx1 cx2 lx cd0 cd1 cd2 ld
           have HE19 : Hid (Ext w w16) := hid (HE18.out.trans ((hx).mono HE18.out.size))
           have HBr19 := hid (HBr18.out.ext (hx))
           have HBs19 := hid (HBs18.out.ext (hx))
           have HBa19 := hid (HBa18.out.ext (hx))
           have HBb19 := hid (HBb18.out.ext (hx))
           have HBn19 := hid (HBn18.out.ext (hx))
           have HBx19 := hid (HBx18.out.ext (hx))
           have HBd19 := hid (HBd18.out.ext (hx))
           have HA19 := hid (HA18.out.ext (hx))
           have HB19 := hid (HB18.out.ext (hx))
           have HW19 := hid (HW18.out.ext (hx))
           have HN19 := hid (HN18.out.ext (hx))
           have HX19 := hid (HX18.out.ext (hx))
           have HY4 := hid (HY3.out.trans (hx.mono HY3.out.size))
           clear hx HC
           obtain ⟨cr0, lr⟩ := HBr19.out.c1
           obtain ⟨cs0, ls⟩ := HBs19.out.c1
           obtain ⟨ca0, ca1, ca2, la⟩ := HBa19.out.c3
           obtain ⟨cb0, cb1, cb2, lb⟩ := HBb19.out.c3
           obtain ⟨cn0, cn1, cn2, ln⟩ := HBn19.out.c3
           obtain ⟨cx0, cx1, cx2, lx⟩ := HBx19.out.c3
           obtain ⟨cd0, cd1, cd2, ld⟩ := HBd19.out.c3
           by_cases hE : E = 0
           ·subst hE
            obtain ⟨D, hD1, hD2⟩ := HD0.out rfl
            have HDD := hid ((hD1.ext HXD2.out).ext HY4.out)
            have HDM := hid (hD2 ws)
            clear hD1 hD2
            go_wp2_with fail
            have HC := hid (dmatch_any HDD.out (l := ws) HW19.out (by rw [← HLW.out]; omega))
            rw [HDM.out, HMA.out, HMB.out] at HC
            refine (HC.out).mono ?_
            rintro e w17 ⟨rfl, hx⟩
            clear cr0 lr cs0 ls ca0 ca1 ca2 la cb0 cb1 cb2 lb cn0 cn1 cn2 ln cx0 cx1 cx2 lx cd0 cd1 cd2 ld
            have HE20 : Hid (Ext w w17) := hid (HE19.out.trans ((hx).mono HE19.out.size))
            have HBr20 := hid (HBr19.out.ext (hx))
            have HBs20 := hid (HBs19.out.ext (hx))
            have HBa20 := hid (HBa19.out.ext (hx))
            have HBb20 := hid (HBb19.out.ext (hx))
            have HBn20 := hid (HBn19.out.ext (hx))
            have HBx20 := hid (HBx19.out.ext (hx))
            have HBd20 := hid (HBd19.out.ext (hx))
            have HA20 := hid (HA19.out.ext (hx))
            have HB20 := hid (HB19.out.ext (hx))
            have HW20 := hid (HW19.out.ext (hx))
            have HN20 := hid (HN19.out.ext (hx))
            have HX20 := hid (HX19.out.ext (hx))
            have HY5 := hid (HY4.out.trans (hx.mono HY4.out.size))
            clear hx HC
            cases bx <;> cases bz
            ·obtain ⟨cr0, lr⟩ := HBr20.out.c1
             obtain ⟨cs0, ls⟩ := HBs20.out.c1
             obtain ⟨ca0, ca1, ca2, la⟩ := HBa20.out.c3
             obtain ⟨cb0, cb1, cb2, lb⟩ := HBb20.out.c3
             obtain ⟨cn0, cn1, cn2, ln⟩ := HBn20.out.c3
             obtain ⟨cx0, cx1, cx2, lx⟩ := HBx20.out.c3
             obtain ⟨cd0, cd1, cd2, ld⟩ := HBd20.out.c3
             go_wp2_with fail
             go_meet
             exact ⟨rfl, HY5⟩
            ·obtain ⟨cr0, lr⟩ := HBr20.out.c1
             obtain ⟨cs0, ls⟩ := HBs20.out.c1
             obtain ⟨ca0, ca1, ca2, la⟩ := HBa20.out.c3
             obtain ⟨cb0, cb1, cb2, lb⟩ := HBb20.out.c3
             obtain ⟨cn0, cn1, cn2, ln⟩ := HBn20.out.c3
             obtain ⟨cx0, cx1, cx2, lx⟩ := HBx20.out.c3
             obtain ⟨cd0, cd1, cd2, ld⟩ := HBd20.out.c3
             go_wp2_with fail
             go_meet
             exact ⟨rfl, HY5⟩
            ·obtain ⟨cr0, lr⟩ := HBr20.out.c1
             obtain ⟨cs0, ls⟩ := HBs20.out.c1
             obtain ⟨ca0, ca1, ca2, la⟩ := HBa20.out.c3
             obtain ⟨cb0, cb1, cb2, lb⟩ := HBb20.out.c3
             obtain ⟨cn0, cn1, cn2, ln⟩ := HBn20.out.c3
             obtain ⟨cx0, cx1, cx2, lx⟩ := HBx20.out.c3
             obtain ⟨cd0, cd1, cd2, ld⟩ := HBd20.out.c3
             go_wp2_with fail
             go_meet
             exact ⟨rfl, HY5⟩
            ·obtain ⟨cr0, lr⟩ := HBr20.out.c1
             obtain ⟨cs0, ls⟩ := HBs20.out.c1
             obtain ⟨ca0, ca1, ca2, la⟩ := HBa20.out.c3
             obtain ⟨cb0, cb1, cb2, lb⟩ := HBb20.out.c3
             obtain ⟨cn0, cn1, cn2, ln⟩ := HBn20.out.c3
             obtain ⟨cx0, cx1, cx2, lx⟩ := HBx20.out.c3
             obtain ⟨cd0, cd1, cd2, ld⟩ := HBd20.out.c3
             go_wp2_with fail
             go_meet
             exact ⟨rfl, HY5⟩
           ·have t6 : (E == 0) = false := by simp [hE]
            clear hE
            go_wp2_with fail
            go_meet
            exact ⟨rfl, HY4⟩
         case rest =>
          as_aux_lemma =>
           obtain ⟨rfl, HXm⟩ := hcut
           obtain ⟨wm, hwc⟩ : ∃ x, x = wc := ⟨_, rfl⟩
           subst hwc
           clear cr0 lr cs0 ls ca0 ca1 ca2 la cb0 cb1 cb2 lb cn0 cn1 cn2 ln cx0 cx1 cx2 lx cd0 cd1 cd2 ld
           have HE16 : Hid (Ext w wm) := hid (HE15.out.trans ((HXm.out).mono HE15.out.size))
           have HBr16 := hid (HBr15.out.ext (HXm.out))
           have HBs16 := hid (HBs15.out.ext (HXm.out))
           have HBa16 := hid (HBa15.out.ext (HXm.out))
           have HBb16 := hid (HBb15.out.ext (HXm.out))
           have HA16 := hid (HA15.out.ext (HXm.out))
           have HB16 := hid (HB15.out.ext (HXm.out))
           have HW16 := hid (HW15.out.ext (HXm.out))
           obtain ⟨cr0, lr⟩ := HBr16.out.c1
           obtain ⟨cs0, ls⟩ := HBs16.out.c1
           obtain ⟨ca0, ca1, ca2, la⟩ := HBa16.out.c3
           obtain ⟨cb0, cb1, cb2, lb⟩ := HBb16.out.c3
           go_wp2_with fail
           refine (within_gen HA16.out HB16.out).mono ?_
           rintro e w13 ⟨av, nv, cv, b, rfl, hb, hx⟩
           clear cr0 lr cs0 ls ca0 ca1 ca2 la cb0 cb1 cb2 lb
           have HE17 : Hid (Ext w w13) := hid (HE16.out.trans ((hx).mono HE16.out.size))
           have HBr17 := hid (HBr16.out.ext (hx))
           have HBs17 := hid (HBs16.out.ext (hx))
           have HBa17 := hid (HBa16.out.ext (hx))
           have HBb17 := hid (HBb16.out.ext (hx))
           have HA17 := hid (HA16.out.ext (hx))
           have HB17 := hid (HB16.out.ext (hx))
           have HW17 := hid (HW16.out.ext (hx))
           clear hx
           rcases hb with ⟨rfl, rfl, hin⟩ | ⟨rfl, vs, hnv, hR, hmv, hcv, hfar⟩
           ·as_aux_lemma =>
            have hIA := fun h => hin ws HIN.out h
            rw [HMA.out, HMB.out] at hIA
            have HIA := hid hIA
            clear hin hIA
            cases bx <;> cases bz
            ·obtain ⟨cr0, lr⟩ := HBr17.out.c1
             obtain ⟨cs0, ls⟩ := HBs17.out.c1
             obtain ⟨ca0, ca1, ca2, la⟩ := HBa17.out.c3
             obtain ⟨cb0, cb1, cb2, lb⟩ := HBb17.out.c3
             go_wp2_with fail
             refine (awake8_any (HT.out.ext HE17.out)).mono ?_
             rintro e w14 ⟨rfl, hx⟩
             clear cr0 lr cs0 ls ca0 ca1 ca2 la cb0 cb1 cb2 lb
             have HE18 : Hid (Ext w w14) := hid (HE17.out.trans ((hx).mono HE17.out.size))
             have HBr18 := hid (HBr17.out.ext (hx))
             have HBs18 := hid (HBs17.out.ext (hx))
             have HBa18 := hid (HBa17.out.ext (hx))
             have HBb18 := hid (HBb17.out.ext (hx))
             have HA18 := hid (HA17.out.ext (hx))
             have HB18 := hid (HB17.out.ext (hx))
             have HW18 := hid (HW17.out.ext (hx))
             clear hx
             obtain ⟨cr0, lr⟩ := HBr18.out.c1
             obtain ⟨cs0, ls⟩ := HBs18.out.c1
             obtain ⟨ca0, ca1, ca2, la⟩ := HBa18.out.c3
             obtain ⟨cb0, cb1, cb2, lb⟩ := HBb18.out.c3
             go_wp2_with fail
             go_ret
             exact ⟨rfl, HE18.out⟩
            ·obtain ⟨cr0, lr⟩ := HBr17.out.c1
             obtain ⟨cs0, ls⟩ := HBs17.out.c1
             obtain ⟨ca0, ca1, ca2, la⟩ := HBa17.out.c3
             obtain ⟨cb0, cb1, cb2, lb⟩ := HBb17.out.c3
             go_wp2_with fail
             refine (awake8_any (HT.out.ext HE17.out)).mono ?_
             rintro e w14 ⟨rfl, hx⟩
             clear cr0 lr cs0 ls ca0 ca1 ca2 la cb0 cb1 cb2 lb
             have HE18 : Hid (Ext w w14) := hid (HE17.out.trans ((hx).mono HE17.out.size))
             have HBr18 := hid (HBr17.out.ext (hx))
             have HBs18 := hid (HBs17.out.ext (hx))
             have HBa18 := hid (HBa17.out.ext (hx))
             have HBb18 := hid (HBb17.out.ext (hx))
             have HA18 := hid (HA17.out.ext (hx))
             have HB18 := hid (HB17.out.ext (hx))
             have HW18 := hid (HW17.out.ext (hx))
             clear hx
             obtain ⟨cr0, lr⟩ := HBr18.out.c1
             obtain ⟨cs0, ls⟩ := HBs18.out.c1
             obtain ⟨ca0, ca1, ca2, la⟩ := HBa18.out.c3
             obtain ⟨cb0, cb1, cb2, lb⟩ := HBb18.out.c3
             go_wp2_with fail
             go_ret
             exact ⟨rfl, HE18.out⟩
            ·have h := HIA.out rfl
             cases h
            ·obtain ⟨cr0, lr⟩ := HBr17.out.c1
             obtain ⟨cs0, ls⟩ := HBs17.out.c1
             obtain ⟨ca0, ca1, ca2, la⟩ := HBa17.out.c3
             obtain ⟨cb0, cb1, cb2, lb⟩ := HBb17.out.c3
             go_wp2_with fail
             refine (awake8_any (HT.out.ext HE17.out)).mono ?_
             rintro e w14 ⟨rfl, hx⟩
             clear cr0 lr cs0 ls ca0 ca1 ca2 la cb0 cb1 cb2 lb
             have HE18 : Hid (Ext w w14) := hid (HE17.out.trans ((hx).mono HE17.out.size))
             have HBr18 := hid (HBr17.out.ext (hx))
             have HBs18 := hid (HBs17.out.ext (hx))
             have HBa18 := hid (HBa17.out.ext (hx))
             have HBb18 := hid (HBb17.out.ext (hx))
             have HA18 := hid (HA17.out.ext (hx))
             have HB18 := hid (HB17.out.ext (hx))
             have HW18 := hid (HW17.out.ext (hx))
             clear hx
             obtain ⟨cr0, lr⟩ := HBr18.out.c1
             obtain ⟨cs0, ls⟩ := HBs18.out.c1
             obtain ⟨ca0, ca1, ca2, la⟩ := HBa18.out.c3
             obtain ⟨cb0, cb1, cb2, lb⟩ := HBb18.out.c3
             go_wp2_with fail
             go_ret
             exact ⟨rfl, HE18.out⟩
           ·as_aux_lemma =>
            have HNV := hid hnv
            have HV0 := hid hR
            have HMV := hid hmv
            have HCV := hid hcv
            have HFAR := hid hfar
            clear hnv hR hmv hcv hfar
            have HFA : Hid (matchT (rootT l) vs = true) := hid (by rw [← HDA.out vs HFAR.out.1]; exact HFAR.out.2.1)
            have HFB : Hid (matchT (rootT m) vs = false) := hid (by rw [← HDB.out vs (fun x hx => by rw [← HSY.out]; exact HFAR.out.1 x hx)]; exact HFAR.out.2.2.1)
            obtain ⟨cr0, lr⟩ := HBr17.out.c1
            obtain ⟨cs0, ls⟩ := HBs17.out.c1
            obtain ⟨ca0, ca1, ca2, la⟩ := HBa17.out.c3
            obtain ⟨cb0, cb1, cb2, lb⟩ := HBb17.out.c3
            go_wp2_with fail
            have HC := hid (HRML.out HOKL.out _ HE17.out _ _ _ vs HV0.out HMV.out HCV.out)
            rw [HFA.out] at HC
            refine (HC.out).mono ?_
            rintro e w14 ⟨rfl, hx⟩
            clear cr0 lr cs0 ls ca0 ca1 ca2 la cb0 cb1 cb2 lb
            have HE18 : Hid (Ext w w14) := hid (HE17.out.trans ((hx).mono HE17.out.size))
            have HBr18 := hid (HBr17.out.ext (hx))
            have HBs18 := hid (HBs17.out.ext (hx))
            have HBa18 := hid (HBa17.out.ext (hx))
            have HBb18 := hid (HBb17.out.ext (hx))
            have HA18 := hid (HA17.out.ext (hx))
            have HB18 := hid (HB17.out.ext (hx))
            have HW18 := hid (HW17.out.ext (hx))
            have HV18 := hid (HV0.out.ext (hx))
            clear hx
            clear HC
            obtain ⟨cr0, lr⟩ := HBr18.out.c1
            obtain ⟨cs0, ls⟩ := HBs18.out.c1
            obtain ⟨ca0, ca1, ca2, la⟩ := HBa18.out.c3
            obtain ⟨cb0, cb1, cb2, lb⟩ := HBb18.out.c3
            go_wp2_with fail
            have HC := hid (HRMM.out HOKM.out _ HE18.out _ _ _ vs HV18.out HMV.out HCV.out)
            rw [HFB.out] at HC
            refine (HC.out).mono ?_
            rintro e w15 ⟨rfl, hx⟩
            clear cr0 lr cs0 ls ca0 ca1 ca2 la cb0 cb1 cb2 lb
            have HE19 : Hid (Ext w w15) := hid (HE18.out.trans ((hx).mono HE18.out.size))
            have HBr19 := hid (HBr18.out.ext (hx))
            have HBs19 := hid (HBs18.out.ext (hx))
            have HBa19 := hid (HBa18.out.ext (hx))
            have HBb19 := hid (HBb18.out.ext (hx))
            have HA19 := hid (HA18.out.ext (hx))
            have HB19 := hid (HB18.out.ext (hx))
            have HW19 := hid (HW18.out.ext (hx))
            have HV19 := hid (HV18.out.ext (hx))
            clear hx
            clear HC
            cases bx <;> cases bz
            ·obtain ⟨cr0, lr⟩ := HBr19.out.c1
             obtain ⟨cs0, ls⟩ := HBs19.out.c1
             obtain ⟨ca0, ca1, ca2, la⟩ := HBa19.out.c3
             obtain ⟨cb0, cb1, cb2, lb⟩ := HBb19.out.c3
             go_wp2_with fail
             refine (awake8_any (HT.out.ext HE19.out)).mono ?_
             rintro e w16 ⟨rfl, hx⟩
             clear cr0 lr cs0 ls ca0 ca1 ca2 la cb0 cb1 cb2 lb
             have HE20 : Hid (Ext w w16) := hid (HE19.out.trans ((hx).mono HE19.out.size))
             have HBr20 := hid (HBr19.out.ext (hx))
             have HBs20 := hid (HBs19.out.ext (hx))
             have HBa20 := hid (HBa19.out.ext (hx))
             have HBb20 := hid (HBb19.out.ext (hx))
             have HA20 := hid (HA19.out.ext (hx))
             have HB20 := hid (HB19.out.ext (hx))
             have HW20 := hid (HW19.out.ext (hx))
             have HV20 := hid (HV19.out.ext (hx))
             clear hx
             obtain ⟨cr0, lr⟩ := HBr20.out.c1
             obtain ⟨cs0, ls⟩ := HBs20.out.c1
             obtain ⟨ca0, ca1, ca2, la⟩ := HBa20.out.c3
             obtain ⟨cb0, cb1, cb2, lb⟩ := HBb20.out.c3
             go_wp2_with fail
             go_ret
             exact ⟨rfl, HE20.out⟩
            ·obtain ⟨cr0, lr⟩ := HBr19.out.c1
             obtain ⟨cs0, ls⟩ := HBs19.out.c1
             obtain ⟨ca0, ca1, ca2, la⟩ := HBa19.out.c3
             obtain ⟨cb0, cb1, cb2, lb⟩ := HBb19.out.c3
             go_wp2_with fail
             refine (awake8_any (HT.out.ext HE19.out)).mono ?_
             rintro e w16 ⟨rfl, hx⟩
             clear cr0 lr cs0 ls ca0 ca1 ca2 la cb0 cb1 cb2 lb
             have HE20 : Hid (Ext w w16) := hid (HE19.out.trans ((hx).mono HE19.out.size))
             have HBr20 := hid (HBr19.out.ext (hx))
             have HBs20 := hid (HBs19.out.ext (hx))
             have HBa20 := hid (HBa19.out.ext (hx))
             have HBb20 := hid (HBb19.out.ext (hx))
             have HA20 := hid (HA19.out.ext (hx))
             have HB20 := hid (HB19.out.ext (hx))
             have HW20 := hid (HW19.out.ext (hx))
             have HV20 := hid (HV19.out.ext (hx))
             clear hx
             obtain ⟨cr0, lr⟩ := HBr20.out.c1
             obtain ⟨cs0, ls⟩ := HBs20.out.c1
             obtain ⟨ca0, ca1, ca2, la⟩ := HBa20.out.c3
             obtain ⟨cb0, cb1, cb2, lb⟩ := HBb20.out.c3
             go_wp2_with fail
             go_ret
             exact ⟨rfl, HE20.out⟩
            ·have HLE := hid (HFAR.out.2.2.2 ws HIN.out HMA.out HMB.out)
             rw [← HNV.out, ← HLW.out] at HLE
             by_cases hlt : nv < lw
             ·have q1 : decide (nv < lw) = true := decide_eq_true hlt
              have q2 : decide ((nv : Int) < (lw : Int)) = true := decide_eq_true (by omega)
              obtain ⟨cr0, lr⟩ := HBr19.out.c1
              obtain ⟨cs0, ls⟩ := HBs19.out.c1
              obtain ⟨ca0, ca1, ca2, la⟩ := HBa19.out.c3
              obtain ⟨cb0, cb1, cb2, lb⟩ := HBb19.out.c3
              go_wp2_with fail
              refine (awake8_any (HT.out.ext HE19.out)).mono ?_
              rintro e w16 ⟨rfl, hx⟩
              clear cr0 lr cs0 ls ca0 ca1 ca2 la cb0 cb1 cb2 lb
              have HE20 : Hid (Ext w w16) := hid (HE19.out.trans ((hx).mono HE19.out.size))
              have HBr20 := hid (HBr19.out.ext (hx))
              have HBs20 := hid (HBs19.out.ext (hx))
              have HBa20 := hid (HBa19.out.ext (hx))
              have HBb20 := hid (HBb19.out.ext (hx))
              have HA20 := hid (HA19.out.ext (hx))
              have HB20 := hid (HB19.out.ext (hx))
              have HW20 := hid (HW19.out.ext (hx))
              have HV20 := hid (HV19.out.ext (hx))
              clear hx
              obtain ⟨cr0, lr⟩ := HBr20.out.c1
              obtain ⟨cs0, ls⟩ := HBs20.out.c1
              obtain ⟨ca0, ca1, ca2, la⟩ := HBa20.out.c3
              obtain ⟨cb0, cb1, cb2, lb⟩ := HBb20.out.c3
              go_wp2_with fail
              go_ret
              exact ⟨rfl, HE20.out⟩
             ·have q1 : decide (nv < lw) = false := decide_eq_false hlt
              have q2 : decide ((nv : Int) < (lw : Int)) = false := decide_eq_false (by omega)
              obtain ⟨heq, haw⟩ : nv = lw ∧ aheadW ws vs = false := by
               rcases HLE.out with h | h
               ·exact absurd h hlt
               ·exact h
              have q3 : (nv == lw) = true := by simp [heq]
              have q4 : ((nv : Int) == (lw : Int)) = true := by simp [heq]
              have HAW := hid haw
              clear haw heq hlt HLE
              obtain ⟨cr0, lr⟩ := HBr19.out.c1
              obtain ⟨cs0, ls⟩ := HBs19.out.c1
              obtain ⟨ca0, ca1, ca2, la⟩ := HBa19.out.c3
              obtain ⟨cb0, cb1, cb2, lb⟩ := HBb19.out.c3
              go_wp2_with fail
              have HC := hid (aheadW_any (v1 := .slice aw lw cw) (v2 := .slice av nv cv) HW19.out HV19.out HMW.out HMV.out)
              rw [HAW.out] at HC
              refine (HC.out).mono ?_
              rintro e w16 ⟨rfl, hx⟩
              clear cr0 lr cs0 ls ca0 ca1 ca2 la cb0 cb1 cb2 lb
              have HE20 : Hid (Ext w w16) := hid (HE19.out.trans ((hx).mono HE19.out.size))
              have HBr20 := hid (HBr19.out.ext (hx))
              have HBs20 := hid (HBs19.out.ext (hx))
              have HBa20 := hid (HBa19.out.ext (hx))
              have HBb20 := hid (HBb19.out.ext (hx))
              have HA20 := hid (HA19.out.ext (hx))
              have HB20 := hid (HB19.out.ext (hx))
              have HW20 := hid (HW19.out.ext (hx))
              have HV20 := hid (HV19.out.ext (hx))
              clear hx
              clear HC
              obtain ⟨cr0, lr⟩ := HBr20.out.c1
              obtain ⟨cs0, ls⟩ := HBs20.out.c1
              obtain ⟨ca0, ca1, ca2, la⟩ := HBa20.out.c3
              obtain ⟨cb0, cb1, cb2, lb⟩ := HBb20.out.c3
              go_wp2_with fail
              refine (awake8_any (HT.out.ext HE20.out)).mono ?_
              rintro e w17 ⟨rfl, hx⟩
              clear cr0 lr cs0 ls ca0 ca1 ca2 la cb0 cb1 cb2 lb
              have HE21 : Hid (Ext w w17) := hid (HE20.out.trans ((hx).mono HE20.out.size))
              have HBr21 := hid (HBr20.out.ext (hx))
              have HBs21 := hid (HBs20.out.ext (hx))
              have HBa21 := hid (HBa20.out.ext (hx))
              have HBb21 := hid (HBb20.out.ext (hx))
              have HA21 := hid (HA20.out.ext (hx))
              have HB21 := hid (HB20.out.ext (hx))
              have HW21 := hid (HW20.out.ext (hx))
              have HV21 := hid (HV20.out.ext (hx))
              clear hx
              obtain ⟨cr0, lr⟩ := HBr21.out.c1
              obtain ⟨cs0, ls⟩ := HBs21.out.c1
              obtain ⟨ca0, ca1, ca2, la⟩ := HBa21.out.c3
              obtain ⟨cb0, cb1, cb2, lb⟩ := HBb21.out.c3
              go_wp2_with fail
              go_ret
              exact ⟨rfl, HE21.out⟩
            ·obtain ⟨cr0, lr⟩ := HBr19.out.c1
             obtain ⟨cs0, ls⟩ := HBs19.out.c1
             obtain ⟨ca0, ca1, ca2, la⟩ := HBa19.out.c3
             obtain ⟨cb0, cb1, cb2, lb⟩ := HBb19.out.c3
             go_wp2_with fail
             refine (awake8_any (HT.out.ext HE19.out)).mono ?_
             rintro e w16 ⟨rfl, hx⟩
             clear cr0 lr cs0 ls ca0 ca1 ca2 la cb0 cb1 cb2 lb
             have HE20 : Hid (Ext w w16) := hid (HE19.out.trans ((hx).mono HE19.out.size))
             have HBr20 := hid (HBr19.out.ext (hx))
             have HBs20 := hid (HBs19.out.ext (hx))
             have HBa20 := hid (HBa19.out.ext (hx))
             have HBb20 := hid (HBb19.out.ext (hx))
             have HA20 := hid (HA19.out.ext (hx))
             have HB20 := hid (HB19.out.ext (hx))
             have HW20 := hid (HW19.out.ext (hx))
             have HV20 := hid (HV19.out.ext (hx))
             clear hx
             obtain ⟨cr0, lr⟩ := HBr20.out.c1
             obtain ⟨cs0, ls⟩ := HBs20.out.c1
             obtain ⟨ca0, ca1, ca2, la⟩ := HBa20.out.c3
             obtain ⟨cb0, cb1, cb2, lb⟩ := HBb20.out.c3
             go_wp2_with fail
             go_ret
             exact ⟨rfl, HE20.out⟩
      ·simp only [Array.mk.injEq, List.cons.injEq, Value.slice.injEq, and_true] at hnil
       obtain ⟨⟨rfl, rfl, rfl⟩, ⟨rfl, rfl, rfl⟩, rfl, rfl, rfl⟩ := hnil
       have tEb : (Eb != 0) = true := by simp [hE]
       have tFb : (Eb == 0) = false := by simp [hE]
       clear hE
       obtain ⟨cr0, lr⟩ := HBr6.out.c1
       obtain ⟨cs0, ls⟩ := HBs6.out.c1
       obtain ⟨ca0, ca1, ca2, la⟩ := HBa6.out.c3
       obtain ⟨cb0, cb1, cb2, lb⟩ := HBb0.out.c3
       go_wp2_with fail
       refine (none_nil _).mono ?_
       rintro e w5 ⟨rfl, hx⟩
       clear cr0 lr cs0 ls ca0 ca1 ca2 la cb0 cb1 cb2 lb
       have HE7 : Hid (Ext w w5) := hid (HE6.out.trans ((hx).mono HE6.out.size))
       have HBr7 := hid (HBr6.out.ext (hx))
       have HBs7 := hid (HBs6.out.ext (hx))
       have HBa7 := hid (HBa6.out.ext (hx))
       have HBb7 := hid (HBb0.out.ext (hx))
       clear hx
       obtain ⟨cr0, lr⟩ := HBr7.out.c1
       obtain ⟨cs0, ls⟩ := HBs7.out.c1
       obtain ⟨ca0, ca1, ca2, la⟩ := HBa7.out.c3
       obtain ⟨cb0, cb1, cb2, lb⟩ := HBb7.out.c3
       go_wp2_with fail
       refine (awake8_any (HT.out.ext HE7.out)).mono ?_
       rintro e w6 ⟨rfl, hx⟩
       clear cr0 lr cs0 ls ca0 ca1 ca2 la cb0 cb1 cb2 lb
       have HE8 : Hid (Ext w w6) := hid (HE7.out.trans ((hx).mono HE7.out.size))
       have HBr8 := hid (HBr7.out.ext (hx))
       have HBs8 := hid (HBs7.out.ext (hx))
       have HBa8 := hid (HBa7.out.ext (hx))
       have HBb8 := hid (HBb7.out.ext (hx))
       clear hx
       obtain ⟨cr0, lr⟩ := HBr8.out.c1
       obtain ⟨cs0, ls⟩ := HBs8.out.c1
       obtain ⟨ca0, ca1, ca2, la⟩ := HBa8.out.c3
       obtain ⟨cb0, cb1, cb2, lb⟩ := HBb8.out.c3
       go_wp2_with fail
       go_ret
       exact ⟨rfl, HE8.out⟩
     ·as_aux_lemma =>
      simp only [Array.mk.injEq, List.cons.injEq, Value.slice.injEq, and_true] at hnil
      obtain ⟨⟨rfl, rfl, rfl⟩, ⟨rfl, rfl, rfl⟩, rfl, rfl, rfl⟩ := hnil
      have tEa : (Ea != 0) = true := by simp [hE]
      have tFa : (Ea == 0) = false := by simp [hE]
      clear hE
      rcases HMb0.out with ⟨hE, -, -⟩ | ⟨hE, hnil⟩
      ·subst hE
       obtain ⟨cr0, lr⟩ := HBr6.out.c1
       obtain ⟨cs0, ls⟩ := HBs6.out.c1
       obtain ⟨ca0, ca1, ca2, la⟩ := HBa6.out.c3
       obtain ⟨cb0, cb1, cb2, lb⟩ := HBb0.out.c3
       go_wp2_with fail
       refine (none_nil _).mono ?_
       rintro e w5 ⟨rfl, hx⟩
       clear cr0 lr cs0 ls ca0 ca1 ca2 la cb0 cb1 cb2 lb
       have HE7 : Hid (Ext w w5) := hid (HE6.out.trans ((hx).mono HE6.out.size))
       have HBr7 := hid (HBr6.out.ext (hx))
       have HBs7 := hid (HBs6.out.ext (hx))
       have HBa7 := hid (HBa6.out.ext (hx))
       have HBb7 := hid (HBb0.out.ext (hx))
       clear hx
       obtain ⟨cr0, lr⟩ := HBr7.out.c1
       obtain ⟨cs0, ls⟩ := HBs7.out.c1
       obtain ⟨ca0, ca1, ca2, la⟩ := HBa7.out.c3
       obtain ⟨cb0, cb1, cb2, lb⟩ := HBb7.out.c3
       go_wp2_with fail
       refine (awake8_any (HT.out.ext HE7.out)).mono ?_
       rintro e w6 ⟨rfl, hx⟩
       clear cr0 lr cs0 ls ca0 ca1 ca2 la cb0 cb1 cb2 lb
       have HE8 : Hid (Ext w w6) := hid (HE7.out.trans ((hx).mono HE7.out.size))
       have HBr8 := hid (HBr7.out.ext (hx))
       have HBs8 := hid (HBs7.out.ext (hx))
       have HBa8 := hid (HBa7.out.ext (hx))
       have HBb8 := hid (HBb7.out.ext (hx))
       clear hx
       obtain ⟨cr0, lr⟩ := HBr8.out.c1
       obtain ⟨cs0, ls⟩ := HBs8.out.c1
       obtain ⟨ca0, ca1, ca2, la⟩ := HBa8.out.c3
       obtain ⟨cb0, cb1, cb2, lb⟩ := HBb8.out.c3
       go_wp2_with fail
       go_ret
       exact ⟨rfl, HE8.out⟩
      ·simp only [Array.mk.injEq, List.cons.injEq, Value.slice.injEq, and_true] at hnil
       obtain ⟨⟨rfl, rfl, rfl⟩, ⟨rfl, rfl, rfl⟩, rfl, rfl, rfl⟩ := hnil
       have tEb : (Eb != 0) = true := by simp [hE]
       have tFb : (Eb == 0) = false := by simp [hE]
       clear hE
       obtain ⟨cr0, lr⟩ := HBr6.out.c1
       obtain ⟨cs0, ls⟩ := HBs6.out.c1
       obtain ⟨ca0, ca1, ca2, la⟩ := HBa6.out.c3
       obtain ⟨cb0, cb1, cb2, lb⟩ := HBb0.out.c3
       go_wp2_with fail
       refine (none_nil _).mono ?_
       rintro e w5 ⟨rfl, hx⟩
       clear cr0 lr cs0 ls ca0 ca1 ca2 la cb0 cb1 cb2 lb
       have HE7 : Hid (Ext w w5) := hid (HE6.out.trans ((hx).mono HE6.out.size))
       have HBr7 := hid (HBr6.out.ext (hx))
       have HBs7 := hid (HBs6.out.ext (hx))
       have HBa7 := hid (HBa6.out.ext (hx))
       have HBb7 := hid (HBb0.out.ext (hx))
       clear hx
       obtain ⟨cr0, lr⟩ := HBr7.out.c1
       obtain ⟨cs0, ls⟩ := HBs7.out.c1
       obtain ⟨ca0, ca1, ca2, la⟩ := HBa7.out.c3
       obtain ⟨cb0, cb1, cb2, lb⟩ := HBb7.out.c3
       go_wp2_with fail
       refine (none_nil _).mono ?_
       rintro e w6 ⟨rfl, hx⟩
       clear cr0 lr cs0 ls ca0 ca1 ca2 la cb0 cb1 cb2 lb
       have HE8 : Hid (Ext w w6) := hid (HE7.out.trans ((hx).mono HE7.out.size))
       have HBr8 := hid (HBr7.out.ext (hx))
       have HBs8 := hid (HBs7.out.ext (hx))
       have HBa8 := hid (HBa7.out.ext (hx))
       have HBb8 := hid (HBb7.out.ext (hx))
       clear hx
       obtain ⟨cr0, lr⟩ := HBr8.out.c1
       obtain ⟨cs0, ls⟩ := HBs8.out.c1
       obtain ⟨ca0, ca1, ca2, la⟩ := HBa8.out.c3
       obtain ⟨cb0, cb1, cb2, lb⟩ := HBb8.out.c3
       go_wp2_with fail
       refine (awake8_any (HT.out.ext HE8.out)).mono ?_
       rintro e w7 ⟨rfl, hx⟩
       clear cr0 lr cs0 ls ca0 ca1 ca2 la cb0 cb1 cb2 lb
       have HE9 : Hid (Ext w w7) := hid (HE8.out.trans ((hx).mono HE8.out.size))
       have HBr9 := hid (HBr8.out.ext (hx))
       have HBs9 := hid (HBs8.out.ext (hx))
       have HBa9 := hid (HBa8.out.ext (hx))
       have HBb9 := hid (HBb8.out.ext (hx))
       clear hx
       obtain ⟨cr0, lr⟩ := HBr9.out.c1
       obtain ⟨cs0, ls⟩ := HBs9.out.c1
       obtain ⟨ca0, ca1, ca2, la⟩ := HBa9.out.c3
       obtain ⟨cb0, cb1, cb2, lb⟩ := HBb9.out.c3
       go_wp2_with fail
       go_ret
       exact ⟨rfl, HE9.out⟩
end Go.Proofs.YtngpjagpeblbjaaGreatDoor
