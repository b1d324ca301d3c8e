/-
  Walk of Both.
  Plain laws for the statements: Not and Within in words, rows ahead of rows.
  Walk of classes over truth values: the numbers of the things of a list, in the order in which they come.
  Walk of classes over pairs of numbers.
-/
import Derived.Test.YtngpjagpeblbjaaGreatDoorB06
import Derived.StillTailTactics
import Derived.Deep.QuietTactic
import Derived.BigQuiet
import Derived.BigRegion
import Derived.Outline
import Derived.WalkSpells
import Derived.Deep.Draws
import Derived.Laws.ResultCell
import Derived.Laws.CopyRow
import Derived.Laws.OwnMore
import Derived.Test.YtngpjagpeblbjaaGreatDoorB03
import Derived.Test.YtngpjagpeblbjaaGreatDoorB01
namespace Go.Proofs.YtngpjagpeblbjaaGreatDoor
open Go.RowKit Go.Spy Go.Heaped Go.Tour Go.Rx
def bothSyms (A B : DA) : List ByteArray := sortW (A.syms ++ B.syms)
def BothPost (A B : DA) (w : World) (e : Ending) (w' : World) : Prop := Ext w w' ∧
 ((∃ i v, Full (succP A B (bothSyms A B)) zeroP i ∧ i ≤ 256 ∧ e = .returned (.tuple #[v, .int .i64 0]) ∧ DfaV w' v (tourD (bothSyms A B) (tourN (succP A B (bothSyms A B)) zeroP i) (bothF A B)).raw) ∨
  (∃ i, 256 < (tourN (succP A B (bothSyms A B)) zeroP i).keys.length ∧ e = .returned (.tuple #[nilD, .int .i64 17])))
set_option maxRecDepth 100000 in
set_option maxHeartbeats 2000000 in
theorem dboth_any {w : World} {xA xB : Array Value} {A B : DA} (hA : DfaW w (.agg xA) A) (hB : DfaW w (.agg xB) B) (hbs : (bothSyms A B).length ≤ 1000) : Calls Tryz.prog 15 #[.agg xA, .agg xB] w (BothPost A B w) := by
 have HA := hid hA
 have HB := hid hB
 have HC : Hid (∀ W, Ext w W → Calls Tryz.prog 44 #[.agg xA, .agg xB] W (ErrP 0 W)) := hid fun W e => by
  have h := checked_any (hA.at_.ext e) hA.bnd (hB.at_.ext e) hB.bnd
  rwa [show check2E A.raw B.raw = 0 by unfold check2E; rw [well_check hA.well, if_pos rfl, well_check hB.well]] at h
 obtain ⟨aoS, n1, cS, aoN, n2, cN, aoF, n3, cF, rfl⟩ := hA.open_
 obtain ⟨aoS2, m1, cS2, aoN2, m2, cN2, aoF2, m3, cF2, rfl⟩ := hB.open_
 have hSY : ReadR w 1 strC (.slice aoS n1 cS) A.syms := by
  obtain ⟨⟨vS, vN, vF, us, e, hP⟩, _, _⟩ := hA
  simp only [Value.agg.injEq, Array.mk.injEq, List.cons.injEq, and_true] at e
  obtain ⟨rfl, rfl, rfl⟩ := e
  exact hP.syms
 have hSZ : ReadR w 1 strC (.slice aoS2 m1 cS2) B.syms := by
  obtain ⟨⟨vS, vN, vF, us, e, hP⟩, _, _⟩ := hB
  simp only [Value.agg.injEq, Array.mk.injEq, List.cons.injEq, and_true] at e
  obtain ⟨rfl, rfl, rfl⟩ := e
  exact hP.syms
 have HUN := hid (fun W (e : Ext w W) => union_any (hSY.ext e) (hSZ.ext e) hA.bnd.s hB.bnd.s)
 have HPA := hid (fun W (e : Ext w W) ao n c => pairs_any (hA.ext e) (hB.ext e) ao n c)
 clear hA hB hSY hSZ
 obtain ⟨syms, hsy⟩ : ∃ s, s = bothSyms A B := ⟨_, rfl⟩
 have HUN2 : Hid (∀ W, Ext w W → Calls Tryz.prog 45 #[.slice aoS n1 cS, .slice aoS2 m1 cS2] W (CatPost syms W)) := hid fun W e => by rw [hsy]; exact HUN.out W e
 rw [← hsy] at hbs
 have HSY := hid hsy
 clear hsy HUN
 obtain ⟨m, hm⟩ : ∃ m, m = syms.length := ⟨_, rfl⟩
 have HM := hid hm
 have hm1000 : m ≤ 1000 := by omega
 clear hm hbs
 obtain ⟨w1, hw1⟩ : ∃ u, u = ((w.alloc (.cells #[Value.slice aoS n1 cS, .slice aoN n2 cN, .slice aoF n3 cF] 26)).alloc (.cells #[.slice aoS2 m1 cS2, .slice aoN2 m2 cN2, .slice aoF2 m3 cF2] 26)).alloc (.cells #[.slice none 0 0, .slice none 0 0, .slice none 0 0] 26) := ⟨_, rfl⟩
 have HX1 : Hid (Ext w w1) := hid (hw1 ▸ (((Below.refl _ _).alloc (Nat.le_refl _) _).alloc (by simp) _).alloc (by simp; omega) _)
 have HBA : Hid (Blk w1 w.heap.size 26 #[Value.slice aoS n1 cS, .slice aoN n2 cN, .slice aoF n3 cF]) := hid (hw1 ▸ ((Blk.new _ _ _).alloc _).alloc _)
 have HBB : Hid (Blk w1 (w.heap.size + 1) 26 #[.slice aoS2 m1 cS2, .slice aoN2 m2 cN2, .slice aoF2 m3 cF2]) := hid (hw1 ▸ (Blk.new' _ _ _ (by simp)).alloc _)
 have HR : Hid (Blk w1 (w.heap.size + 2) 26 #[.slice none 0 0, .slice none 0 0, .slice none 0 0]) := hid (hw1 ▸ Blk.new' _ _ _ (by simp))
 have HW1 := hid hw1
 clear hw1
 go_enter Tryz.func15, Tryz.ntmps15
 go_wp2_with fail
 rw [← HW1.out]
 refine (HC.out w1 HX1.out).mono ?_
 rintro e w2 ⟨rfl, hx⟩
 have HX2 := hid (HX1.out.trans (hx.mono HX1.out.size))
 have hba := HBA.out.ext hx
 have hbb := HBB.out.ext hx
 have HBA2 := hid hba
 have HBB2 := hid hbb
 have HR2 := hid (HR.out.ext hx)
 have a0 : w2.cell? ⟨w.heap.size, 0, none⟩ = some (.slice aoS n1 cS) := hba.cell (i := 0) rfl
 have b0 : w2.cell? ⟨w.heap.size + 1, 0, none⟩ = some (.slice aoS2 m1 cS2) := hbb.cell (i := 0) rfl
 have la := hba.lt
 have lb := hbb.lt
 clear hx hba hbb
 go_wp2_with fail
 refine (HUN2.out w2 HX2.out).mono ?_
 rintro e w3 ⟨hx3, v, rfl, hO⟩
 obtain ⟨aoU, cU, rfl, -⟩ := (OwnR.read hO strC_size).form
 rw [← HM.out]
 have HX3 := hid (HX2.out.trans (hx3.mono HX2.out.size))
 have HRD3 : Hid (ReadR w3 1 strC (.slice aoU m cU) syms) := hid (by have := OwnR.read hO strC_size; rwa [← HM.out] at this)
 have hba := HBA2.out.ext hx3
 have hbb := HBB2.out.ext hx3
 have HBA3 := hid hba
 have HBB3 := hid hbb
 have HR3 := hid (HR2.out.ext hx3)
 have a0 : w3.cell? ⟨w.heap.size, 0, none⟩ = some (.slice aoS n1 cS) := hba.cell (i := 0) rfl
 have a1 : w3.cell? ⟨w.heap.size, 1, none⟩ = some (.slice aoN n2 cN) := hba.cell (i := 1) rfl
 have a2 : w3.cell? ⟨w.heap.size, 2, none⟩ = some (.slice aoF n3 cF) := hba.cell (i := 2) rfl
 have b0 : w3.cell? ⟨w.heap.size + 1, 0, none⟩ = some (.slice aoS2 m1 cS2) := hbb.cell (i := 0) rfl
 have b1 : w3.cell? ⟨w.heap.size + 1, 1, none⟩ = some (.slice aoN2 m2 cN2) := hbb.cell (i := 1) rfl
 have b2 : w3.cell? ⟨w.heap.size + 1, 2, none⟩ = some (.slice aoF2 m3 cF2) := hbb.cell (i := 2) rfl
 have la := hba.lt
 have lb := hbb.lt
 clear hx3 hba hbb hO
 go_wp2_with fail
 refine (HPA.out w3 HX3.out aoU m cU).mono ?_
 rintro e w4 ⟨rfl, hx4, hp1, hp2, hp3⟩
 have HX4 := hid (HX3.out.trans (hx4.mono HX3.out.size))
 have HBA4 := hid (HBA3.out.ext hx4)
 have HBB4 := hid (HBB3.out.ext hx4)
 have HR4 := hid (HR3.out.ext hx4)
 have HRD4 := hid (HRD3.out.ext hx4)
 have HT := hid (tour_pp (w := w4) HA.out.well HB.out.well (syms := syms) (by rw [← HM.out]; exact hm1000) 256 (by decide) (next_ok_pr hp3 HRD4.out (by rw [← HM.out]; exact hm1000) (HA.out.ext HX4.out) hp1 (HB.out.ext HX4.out) hp2))
 clear hx4 hp1 hp2 hp3 a0 a1 a2 b0 b1 b2
 go_wp2_with fail
 refine HT.out.mono ?_
 rintro e w5 ⟨hx5, h5⟩
 have HX5 := hid (HX4.out.trans (hx5.mono HX4.out.size))
 have HBA5 := hid (HBA4.out.ext hx5)
 have HBB5 := hid (HBB4.out.ext hx5)
 have HR5 := hid (HR4.out.ext hx5)
 have HRD5 := hid (HRD4.out.ext hx5)
 have HLT4 : Hid (w.heap.size + 2 < w4.heap.size) := hid HR4.out.lt
 clear hx5
 have hlt4 := HBA5.out.lt
 have hlt5 := HBB5.out.lt
 have hlt6 := HR5.out.lt
 rcases h5 with ⟨i, vK, vN, vF, hfull, hi, rfl, hT⟩ | ⟨i, hi, rfl⟩
 ·obtain ⟨hK, ⟨us3, hn3, hu3, hr3⟩, hFr⟩ := hT
  obtain ⟨aoK, cK, rfl, -⟩ := (OwnR.read hK okP.size).form
  obtain ⟨aoM, cM, rfl, -⟩ := (OwnR.read hn3 (fun _ => rfl)).form
  obtain ⟨aoG, cG, rfl, -⟩ := (OwnR.read hFr (fun _ => rfl)).form
  have HK := hid hK
  have HNX := hid hn3
  have HLEN := hid hu3
  have HROWS := hid hr3
  have HFR := hid hFr
  have HFULL := hid hfull
  have HI := hid hi
  obtain ⟨ks, hks⟩ : ∃ x, x = (tourN (succP A B syms) zeroP i).keys := ⟨_, rfl⟩
  obtain ⟨fr, hfr⟩ : ∃ x, x = (tourN (succP A B syms) zeroP i).from_ := ⟨_, rfl⟩
  obtain ⟨rows, hrw⟩ : ∃ x, x = (tourN (succP A B syms) zeroP i).next := ⟨_, rfl⟩
  have HKI : Hid (ks.length = i) := hid (hks ▸ hfull)
  have HU : Hid (∀ k ∈ ks, OkQ A B k) := hid (hks ▸ tourN_univ (U := OkQ A B) (zeroP_okQ HA.out.well HB.out.well) (succP_okQ HA.out.well HB.out.well syms) i)
  rw [← hks] at HK ⊢
  rw [← hfr] at HFR ⊢
  rw [← hrw] at HROWS HLEN
  have HKS := hid hks
  have HRW := hid hrw
  obtain ⟨kl, hkl⟩ : ∃ n, n = ks.length := ⟨_, rfl⟩
  obtain ⟨nl, hnl⟩ : ∃ n, n = us3.length := ⟨_, rfl⟩
  obtain ⟨fl, hfl⟩ : ∃ n, n = fr.length := ⟨_, rfl⟩
  rw [← hkl] at HK ⊢
  rw [← hnl] at HNX ⊢
  rw [← hfl] at HFR ⊢
  have HKL := hid hkl
  clear hK hn3 hu3 hr3 hFr hfull hi hks hfr hrw hkl hnl hfl
  obtain ⟨w6, hw6⟩ : ∃ u, u = w5.alloc (.cells #[.slice aoK kl cK, .slice aoM nl cM, .slice aoG fl cG] 80) := ⟨_, rfl⟩
  have e6 : Ext w5 w6 := hw6 ▸ (Below.refl _ _).alloc (Nat.le_refl _) _
  have HE6 := hid e6
  have hb6 : Blk w6 w5.heap.size 80 #[.slice aoK kl cK, .slice aoM nl cM, .slice aoG fl cG] := hw6 ▸ Blk.new _ _ _
  have HW6 := hid hw6
  have HX6 := hid (HX5.out.trans (e6.mono HX5.out.size))
  have HBA6 := hid (HBA5.out.ext e6)
  have HBB6 := hid (HBB5.out.ext e6)
  have HR6 := hid (HR5.out.ext e6)
  have hlt7 := hb6.lt
  clear hw6 e6 hb6
  have hAU := auto_pr (w := w6) (f := 49) (bs := #[]) (caps := #[.pointer (some ⟨w.heap.size, 0, none⟩), .pointer (some ⟨w.heap.size + 1, 0, none⟩)])
   (OwnR.read (HK.out.ext HE6.out) okP.size) (OwnR.read (HNX.out.ext HE6.out) (fun _ => rfl)) (OwnR.read (HFR.out.ext HE6.out) (fun _ => rfl)) (HRD5.out.ext HE6.out) (by have := HKI.out; have := HI.out; omega) (by rw [← HM.out]; exact hm1000) enters49 (bothF A B)
   (fun k w' hk hx => both1_any ((HA.out.ext HX6.out).ext hx) (HBA6.out.ext hx) ((HB.out.ext HX6.out).ext hx) (HBB6.out.ext hx) k (HU.out k hk).1.1 (HU.out k hk).1.2)
  have HAU := hid hAU
  clear hAU
  go_wp2_with fail
  rw [← HW6.out]
  refine HAU.out.mono ?_
  rintro e w7 ⟨hx7, vS7, vF7, rfl, hS7, hF7⟩
  obtain ⟨aoC, cC, rfl, -⟩ := (OwnR.read hS7 strC_size).form
  obtain ⟨aoE, cE, rfl, -⟩ := (OwnR.read hF7 (fun _ => rfl)).form
  have HS7 := hid hS7
  have HF7 := hid hF7
  have HX7 := hid (HX6.out.trans (hx7.mono HX6.out.size))
  have HX67 := hid hx7
  have HR7 := hid (HR6.out.ext hx7)
  obtain ⟨fnl, hfnl⟩ : ∃ n, n = (ks.map (bothF A B)).length := ⟨_, rfl⟩
  rw [← hfnl] at HF7 ⊢
  rw [← HM.out] at HS7 ⊢
  clear hS7 hF7 hx7 hfnl HAU
  have r0 : w7.cell? ⟨w.heap.size + 2, 0, none⟩ = some (.slice none 0 0) := HR7.out.cell (i := 0) rfl
  have r1 : w7.cell? ⟨w.heap.size + 2, 1, none⟩ = some (.slice none 0 0) := HR7.out.cell (i := 1) rfl
  have r2 : w7.cell? ⟨w.heap.size + 2, 2, none⟩ = some (.slice none 0 0) := HR7.out.cell (i := 2) rfl
  have rf := HR7.out.frozen
  have rl := HR7.out.lt
  go_wp2_with fail
  refine bodyPost_ret (v := .tuple #[.agg #[.slice aoC m cC, .slice aoM nl cM, .slice aoE fnl cE], .int .i64 0]) (results_cell_agg_tmp Tryz.results15 _ _ (w.heap.size + 2) 26 #[.slice aoC m cC, .slice aoM nl cM, .slice aoE fnl cE] _ _ rfl rfl (blk3 HR7.out _ _ _) Tryz.underlying26 rfl (by kernel_rfl)) rfl ?_
  refine ⟨ext3 HX7.out (by omega) _ _ _, .inl ⟨i, _, ?_, HI.out, rfl, _, _, _, us3, rfl, ?_⟩⟩
  ·rw [← HSY.out]; exact HFULL.out
  ·have hP := auto_dfa (rows := rows) HX67.out HS7.out HF7.out (HNX.out.ext HE6.out) HLEN.out (fun i u r hu hr => ⟨(HROWS.out i u r hu hr).1.ext HE6.out, (HROWS.out i u r hu hr).2⟩) HLT4.out (by omega) (chg3 w7 (w.heap.size + 2) (.slice aoC m cC) (.slice aoM nl cM) (.slice aoE fnl cE))
   rw [HRW.out, HKS.out] at hP
   rw [← HSY.out]
   exact hP
 ·have HI := hid hi
  clear hi
  have r0 : w5.cell? ⟨w.heap.size + 2, 0, none⟩ = some (.slice none 0 0) := HR5.out.cell (i := 0) rfl
  have r1 : w5.cell? ⟨w.heap.size + 2, 1, none⟩ = some (.slice none 0 0) := HR5.out.cell (i := 1) rfl
  have r2 : w5.cell? ⟨w.heap.size + 2, 2, none⟩ = some (.slice none 0 0) := HR5.out.cell (i := 2) rfl
  have rf := HR5.out.frozen
  have rl := HR5.out.lt
  go_wp2_with fail
  refine bodyPost_ret (v := .tuple #[nilD, .int .i64 17]) (results_cell_agg_tmp Tryz.results15 _ _ (w.heap.size + 2) 26 #[.slice none 0 0, .slice none 0 0, .slice none 0 0] _ _ rfl rfl ((blk3 HR5.out _ _ _).alloc _) Tryz.underlying26 rfl (by kernel_rfl)) rfl ?_
  exact ⟨(ext3 HX5.out (by omega) _ _ _).alloc (by have := (ext3 HX5.out (show w.heap.size ≤ w.heap.size + 2 by omega) (.slice none 0 0) (.slice none 0 0) (.slice none 0 0)).size; exact this) _, .inr ⟨i, by rw [← HSY.out]; exact HI.out, rfl⟩⟩
end Go.Proofs.YtngpjagpeblbjaaGreatDoor
namespace Go.Proofs.YtngpjagpeblbjaaGreatDoor
open Go.RowKit Go.Spy Go.Heaped Go.Tour Go.Rx
theorem idx_lt {σ : Type} [DecidableEq σ] {l : List σ} {a : σ} (h : a ∈ l) : l.idxOf a < l.length := List.idxOf_lt_length_of_mem h
theorem aheadW_idx {syms : List ByteArray} (hr : Rising syms) : ∀ {u v : List Nat}, (∀ c ∈ u, c < syms.length) → (∀ c ∈ v, c < syms.length) → aheadW (wordsOf syms u) (wordsOf syms v) = aheadL u v
 | [], v, _, _ => by cases v <;> simp [wordsOf, aheadW, aheadL]
 | c :: u, [], hu, _ => by rw [wordsOf_cons (hu c (by simp))]; simp [wordsOf, aheadW, aheadL]
 | c :: u, d :: v, hu, hv => by
   have hc := hu c (by simp)
   have hd := hv d (by simp)
   rw [wordsOf_cons hc, wordsOf_cons hd]
   simp only [aheadW, aheadL]
   have ih := aheadW_idx hr (u := u) (v := v) (fun x hx => hu x (by simp [hx])) (fun x hx => hv x (by simp [hx]))
   by_cases e : c = d
   ·subst e
    simp [ih]
   ·have hne : syms[c] ≠ syms[d] := fun h => e (by
     have h1 := idx_of_get hr.nodup (List.getElem?_eq_getElem hc)
     have h2 := idx_of_get hr.nodup (List.getElem?_eq_getElem hd)
     rw [← h1, ← h2, h])
    rw [if_neg hne, if_neg e]
    by_cases h : c < d
    ·rw [decide_eq_true h, (hr.lt_iff (List.getElem?_eq_getElem hc) (List.getElem?_eq_getElem hd)).2 h]
    ·rw [decide_eq_false h, ← Bool.not_eq_true]
     exact fun h' => h ((hr.lt_iff (List.getElem?_eq_getElem hc) (List.getElem?_eq_getElem hd)).1 h')
section
variable {D : DA}
theorem finD_not (W : WellD nameOk D) {s : Nat} (hs : s < D.next.length) : finD (notD D) s = !finD D s := by
 unfold finD notD
 have h : s < D.fin.length := by rw [W.ok.fin]; exact hs
 simp [h]
theorem langD_not (W : WellD nameOk D) {u : List Nat} (hu : ∀ c ∈ u, c < D.syms.length) : langD (notD D) u = !langD D u := by
 unfold langD
 rw [lang_of hu, lang_of (f := finD (notD D)) (m := (notD D).syms.length) hu]
 exact finD_not W (W.ok.run u W.ok.pos)
theorem match_not (W : WellD nameOk D) {u : List Nat} (hu : ∀ c ∈ u, c < D.syms.length) : matchD (notD D) (wordsOf D.syms u) = !langD D u := by
 rw [← langD_not W hu]
 exact match_words (d := notD D) W.rising.nodup hu
theorem words_mild (B : BndD D.raw) {u : List Nat} (hu : ∀ c ∈ u, c < D.syms.length) (h : u.length ≤ 100000) : MildS (wordsOf D.syms u) := mild_small (by rw [wordsOf_length hu]; exact h) fun s hs => B.b s (wordsOf_mem s hs)
end
end Go.Proofs.YtngpjagpeblbjaaGreatDoor
namespace Go.Proofs.YtngpjagpeblbjaaGreatDoor
open Go.RowKit Go.Spy Go.Heaped Go.Tour Go.Rx
theorem len_map_bool {w : World} {b : Nat} {es : Array MapEntry} {clock : Nat} (hb : w.heap[b]? = some (.map es clock)) : (Builtin.len_ #[172] 3 #[.map (some b)]).run Tryz.prog w = .ok (.int .i64 (es.size : Nat)) w := by
 have h := run_len_map (P := Tryz.prog) (w := w) 172 3 b es clock (by kernel_rfl) hb
 exact h
theorem key_bool : KeyOk (κ := Bool) Tryz.prog 4 Value.bool := keyOk_bool Tryz.underlying4
section
variable {κ : Type} [DecidableEq κ]
omit [DecidableEq κ] in
theorem take_snoc {l : List κ} {i : Nat} {x : κ} (h : l[i]? = some x) : l.take (i + 1) = l.take i ++ [x] := by
 obtain ⟨hi, rfl⟩ := List.getElem?_eq_some_iff.1 h
 rw [List.take_succ_eq_append_getElem hi]
theorem cls_take_old {l : List κ} {i : Nat} {x : κ} (h : l[i]? = some x) (hx : x ∈ clsU (l.take i)) : clsU (l.take (i + 1)) = clsU (l.take i) ∧ cls (l.take (i + 1)) = cls (l.take i) ++ [(clsU (l.take i)).idxOf x] := by
 rw [take_snoc h]
 refine ⟨(cls_old hx).1, ?_⟩
 rw [cls_snoc, (cls_old hx).2]
theorem cls_take_new {l : List κ} {i : Nat} {x : κ} (h : l[i]? = some x) (hx : x ∉ clsU (l.take i)) : clsU (l.take (i + 1)) = clsU (l.take i) ++ [x] ∧ cls (l.take (i + 1)) = cls (l.take i) ++ [(clsU (l.take i)).length] := by
 rw [take_snoc h]
 refine ⟨(cls_new hx).1, ?_⟩
 rw [cls_snoc, (cls_new hx).2]
theorem mapB_len {κ : Type} {w : World} {b : Nat} {enc : κ → Value} {l : List (κ × Value)} (h : MapB w b enc l) : ∃ es clock, w.heap[b]? = some (.map es clock) ∧ es.size = l.length := by
 obtain ⟨es, c, h1, h2⟩ := h
 refine ⟨es, c, h1, ?_⟩
 have := congrArg List.length h2
 simpa using this
omit [DecidableEq κ] in
theorem entries_len {V : Type} (f : Nat → V) : ∀ (l : List κ) (i : Nat), (entries f i l).length = l.length
 | [], _ => rfl
 | _ :: l, i => by simp [entries, entries_len f l]
end
structure ClsW {κ : Type} (w wr : World) (bM : Nat) (enc : κ → Value) (vO : Value) (us : List κ) (os : List Nat) : Prop where
 ext : Ext w wr
 map : MapB wr bM enc (entries numV 0 us)
 own : OwnR wr w.heap.size 3 1 natA vO os
 ge : w.heap.size ≤ bM
def ClsPost (os : List Nat) (w : World) (e : Ending) (w' : World) : Prop := Ext w w' ∧ ∃ v, e = .returned v ∧ OwnR w' w.heap.size 3 1 natA v os
set_option maxRecDepth 100000 in
set_option maxHeartbeats 4000000 in
theorem classes_bool {w : World} {v : Value} {l : List Bool} (hV : ReadR w 1 boolC v l) (hl : l.length ≤ 1000) : Calls Tryz.prog 59 #[v] w (ClsPost (cls l) w) := by
 obtain ⟨ao, c, rfl, hg⟩ := hV.form
 obtain ⟨n, hn⟩ : ∃ n, n = l.length := ⟨_, rfl⟩
 have HV := hid hV
 rw [← hn] at hg hl HV ⊢
 have HG := hid hg
 have HN := hid hn
 have HPO : Hid (∀ (w' : World) (v' : Value), Ext w w' → OwnR w' w.heap.size 3 1 natA v' (cls l) → ClsPost (cls l) w (.returned v') w') := hid fun w' v' h1 h2 => ⟨h1, v', rfl, h2⟩
 obtain ⟨Q, hQ⟩ : ∃ Q, Q = ClsPost (cls l) w := ⟨_, rfl⟩
 rw [← hQ] at HPO ⊢
 clear hV hg hn hQ
 go_enter Tryz.func59, Tryz.ntmps59
 have hmm := @run_makeMap Tryz.prog
 go_wp2_with fail
 clear hmm
 go_loopg [4, 12] n (fun g vO u wr => ∃ i, g = n - i ∧ i ≤ n ∧ u = .int .i64 i ∧ Hid (ClsW w wr w.heap.size Value.bool vO (clsU (l.take i)) (cls (l.take i))))
 case atStart => exact ⟨0, rfl, Nat.zero_le _, rfl, hid ⟨(Below.refl _ _).alloc (Nat.le_refl _) _, MapB.new _ _, OwnR.nil _ _ _ _ _, Nat.le_refl _⟩⟩
 case round =>
  obtain ⟨i, rfl, hi, rfl, HW⟩ := hrel
  obtain ⟨vO, hvO⟩ : ∃ v, v = u4 := ⟨_, rfl⟩
  subst hvO
  by_cases hlt : i < n
  ·obtain ⟨g, o, rfl⟩ := HG.out (by omega)
   obtain ⟨x, hx⟩ : ∃ x, l[i]? = some x := ⟨_, List.getElem?_eq_getElem (by rw [← HN.out]; exact hlt)⟩
   have c1 : wr.cell? ⟨g, o + i, none⟩ = some (.bool x) := by
    have h := HV.out.ext HW.out.ext
    rw [HN.out] at h
    exact h.cell1 hx
   have HX := hid hx
   have hsz : w.heap.size ≤ wr.heap.size := HW.out.ext.size
   have hbl : w.heap.size < wr.heap.size := HW.out.map.lt
   have hln : (cls (l.take i)).length + 1 ≤ 1000000000 := by rw [cls_length, List.length_take]; omega
   obtain ⟨es, clock, hb, hes⟩ := mapB_len HW.out.map
   rw [entries_len] at hes
   have HES := hid hes
   clear hx hes
   by_cases hmem : x ∈ clsU (l.take i)
   ·obtain ⟨q, hq⟩ : ∃ n, n = @List.idxOf _ instBEqOfDecidableEq x (clsU (l.take i)) := ⟨_, rfl⟩
    have hlook : alook (entries numV 0 (clsU (l.take i))) x = some (.int .i64 q) := by rw [entries_look, if_pos hmem, Nat.zero_add, ← hq]; rfl
    have HLK := hid hlook
    have HQ := hid hq
    have HME := hid hmem
    have HOW := hid HW.out.own
    clear hlook hq hmem
    go_wp2_with (first
     | (with_reducible show wpList _ _ _ ((⟨_, Op.lookup _ _ _ _, _, _, _, _⟩ : Oper) :: _) _ _
        go_loud (refine wpList_lookupB rfl (.tmp 17) (.tmp 18) 172 rfl 4 3 Value.bool key_bool Tryz.underlying172 w.heap.size (entries numV 0 (clsU (l.take i))) rfl HW.out.map (.int .i64 0) zero_int x rfl (some (.int .i64 q)) HLK.out ?_))
     | (at_builtin
        go_loud (refine wpList_append_R elem_int (fun _ => rfl) ones_int HOW hsz hln q _ rfl wr.heap.size rfl rfl _ _ rfl rfl rfl ?_)
        rintro g' c' v' w7 rfl G1 G2))
    go_roundg (n - (i + 1))
    case measure => omega
    case rel =>
     obtain ⟨e1, e2⟩ := cls_take_old HX.out HME.out
     refine ⟨i + 1, rfl, by omega, by go_num, hid ⟨ext_grown HW.out.ext G2.out.1 (fun k e => (HOW.out.lt k e).1), ?_, ?_, HW.out.ge⟩⟩
     ·rw [e1]
      exact HW.out.map.grown G2.out.1 (fun e => by
       obtain ⟨_, hc⟩ := own_block HOW.out e.symm
       exact blk_map_ne hc HW.out.map rfl)
     ·rw [e2, ← HQ.out]; exact G1.out
   ·have hlook : alook (entries numV 0 (clsU (l.take i))) x = none := by rw [entries_look, if_neg hmem]
    have HLK := hid hlook
    have HME := hid hmem
    have hlm := len_map_bool hb
    clear hlook hmem
    go_wp2_with (first
     | (with_reducible show wpList _ _ _ ((⟨_, Op.lookup _ _ _ _, _, _, _, _⟩ : Oper) :: _) _ _
        go_loud (refine wpList_lookupB rfl (.tmp 17) (.tmp 18) 172 rfl 4 3 Value.bool key_bool Tryz.underlying172 w.heap.size (entries numV 0 (clsU (l.take i))) rfl HW.out.map (.int .i64 0) zero_int x rfl none HLK.out ?_))
     | (with_reducible show wpList _ _ _ ((⟨_, Op.mapUpdate _ _ _ _, _, _, _, _⟩ : Oper) :: _) _ _
        go_loud (refine wpList_mapUpdateB _ rfl (.tmp 26) (.tmp 27) (.tmp 28) 172 (.inl rfl) 4 3 Value.bool key_bool Tryz.underlying172 w.heap.size (entries numV 0 (clsU (l.take i))) rfl HW.out.map x (numV es.size) rfl rfl ?_)
        intro w6 hM6 hG6
        have HM6 := hid hM6
        have HG6 := hid hG6
        have hO6 : OwnR w6 w.heap.size 3 1 natA vO (cls (l.take i)) := HW.out.own.chg ((Chg.refl (fun k => k = w.heap.size) wr).grown hG6 (fun k e => by simpa using e.symm)) (fun k e e' => by
         obtain ⟨_, hc⟩ := own_block HW.out.own e
         exact blk_map_ne hc HW.out.map e')
        have HOW := hid hO6
        have HX6 : Hid (Ext w w6) := hid (ext_grown HW.out.ext hG6 (fun k e => by simp at e; omega))
        have hsz6 : w.heap.size ≤ w6.heap.size := HX6.out.size
        clear hM6 hG6 hO6 hb hlm)
     | (at_builtin
        go_loud (refine wpList_append_R elem_int (fun _ => rfl) ones_int HOW hsz6 hln es.size _ rfl w6.heap.size rfl rfl _ _ rfl rfl rfl ?_)
        rintro g' c' v' w7 rfl G1 G2))
    go_roundg (n - (i + 1))
    case measure => omega
    case rel =>
     obtain ⟨e1, e2⟩ := cls_take_new HX.out HME.out
     refine ⟨i + 1, rfl, by omega, by go_num, hid ⟨ext_grown HX6.out G2.out.1 (fun k e => (HOW.out.lt k e).1), ?_, ?_, HW.out.ge⟩⟩
     ·have h := HM6.out
      rw [aput_push HLK.out] at h
      rw [e1, entries_snoc, Nat.zero_add, ← HES.out]
      exact h.grown G2.out.1 (fun e => by
       obtain ⟨_, hc⟩ := own_block HOW.out e.symm
       exact blk_map_ne hc HM6.out rfl)
     ·rw [e2, ← HES.out]; exact G1.out
  ·obtain rfl : n = i := by omega
   go_wp2_with fail
   have h := HW.out.own
   rw [List.take_of_length_le (by rw [← HN.out]; exact Nat.le_refl _)] at h
   exact HPO.out wr vO HW.out.ext h
end Go.Proofs.YtngpjagpeblbjaaGreatDoor
namespace Go.Proofs.YtngpjagpeblbjaaGreatDoor
open Go.RowKit Go.Spy Go.Heaped Go.Tour Go.Rx
theorem len_map_pr {w : World} {b : Nat} {es : Array MapEntry} {clock : Nat} (hb : w.heap[b]? = some (.map es clock)) : (Builtin.len_ #[158] 3 #[.map (some b)]).run Tryz.prog w = .ok (.int .i64 (es.size : Nat)) w := by
 have h := run_len_map (P := Tryz.prog) (w := w) 158 3 b es clock (by kernel_rfl) hb
 exact h
set_option maxRecDepth 100000 in
set_option maxHeartbeats 4000000 in
theorem classes_pr {w : World} {v : Value} {l : List Pr} (hV : ReadR w 2 prC v l) (hl : l.length ≤ 1000) : Calls Tryz.prog 60 #[v] w (ClsPost (cls l) w) := by
 obtain ⟨ao, c, rfl, hg⟩ := hV.form
 obtain ⟨n, hn⟩ : ∃ n, n = l.length := ⟨_, rfl⟩
 have HV := hid hV
 rw [← hn] at hg hl HV ⊢
 have HG := hid hg
 have HN := hid hn
 have HPO : Hid (∀ (w' : World) (v' : Value), Ext w w' → OwnR w' w.heap.size 3 1 natA v' (cls l) → ClsPost (cls l) w (.returned v') w') := hid fun w' v' h1 h2 => ⟨h1, v', rfl, h2⟩
 obtain ⟨Q, hQ⟩ : ∃ Q, Q = ClsPost (cls l) w := ⟨_, rfl⟩
 rw [← hQ] at HPO ⊢
 clear hV hg hn hQ
 go_enter Tryz.func60, Tryz.ntmps60
 have hmm := @run_makeMap Tryz.prog
 go_wp2_with fail
 clear hmm
 go_loopg [4, 12] n (fun g vO u wr => ∃ i, g = n - i ∧ i ≤ n ∧ u = .int .i64 i ∧ Hid (ClsW w wr w.heap.size (fun p : Pr => .agg (prC p)) vO (clsU (l.take i)) (cls (l.take i))))
 case atStart => exact ⟨0, rfl, Nat.zero_le _, rfl, hid ⟨(Below.refl _ _).alloc (Nat.le_refl _) _, MapB.new _ _, OwnR.nil _ _ _ _ _, Nat.le_refl _⟩⟩
 case round =>
  obtain ⟨i, rfl, hi, rfl, HW⟩ := hrel
  obtain ⟨vO, hvO⟩ : ∃ v, v = u4 := ⟨_, rfl⟩
  subst hvO
  by_cases hlt : i < n
  ·obtain ⟨g, o, rfl⟩ := HG.out (by omega)
   obtain ⟨x, hx⟩ : ∃ x, l[i]? = some x := ⟨_, List.getElem?_eq_getElem (by rw [← HN.out]; exact hlt)⟩
   have h2 : ∀ e, e < 2 → wr.cell? ⟨g, o + (i * 2 + e), none⟩ = (prC x)[e]? := fun e he => by
    have h := HV.out.ext HW.out.ext
    rw [HN.out] at h
    exact h.cell hx he
   have HX := hid hx
   obtain ⟨⟨y, z⟩, hyz⟩ := x
   have c1 : wr.cell? ⟨g, o + i * 2, none⟩ = some (.int .i64 y) := h2 0 (by decide)
   have c2 : wr.cell? ⟨g, o + i * 2 + 1, none⟩ = some (.int .i64 z) := by have := h2 1 (by decide); rwa [show o + (i * 2 + 1) = o + i * 2 + 1 by omega] at this
   clear h2
   have hbl0 : w.heap.size < wr.heap.size := HW.out.map.lt
   go_upto_region 6 with fail
   have e0 : Ext wr (wr.alloc (.cells #[.int .i64 y, .int .i64 z] 83)) := (Below.refl _ _).alloc (Nat.le_refl _) _
   have HWy : Hid (ClsW w (wr.alloc (.cells #[.int .i64 y, .int .i64 z] 83)) w.heap.size (fun p : Pr => .agg (prC p)) vO (clsU (l.take i)) (cls (l.take i))) := hid ⟨HW.out.ext.trans (e0.mono HW.out.ext.size), HW.out.map.alloc _, HW.out.own.alloc _, HW.out.ge⟩
   have hB0 := Blk.new wr 83 #[.int .i64 y, .int .i64 z]
   clear e0 HW c1 c2 hbl0
   obtain ⟨wy, hwy⟩ : ∃ u, u = wr.alloc (.cells #[.int .i64 y, .int .i64 z] 83) := ⟨_, rfl⟩
   rw [← hwy] at HWy hB0 ⊢
   obtain ⟨b6, hb6⟩ : ∃ n, n = wr.heap.size := ⟨_, rfl⟩
   rw [← hb6] at hB0 ⊢
   clear hwy hb6
   have HW := HWy
   have d0 : wy.cell? ⟨b6, 0, none⟩ = some (.int .i64 y) := hB0.cell (i := 0) rfl
   have d1 : wy.cell? ⟨b6, 1, none⟩ = some (.int .i64 z) := hB0.cell (i := 1) rfl
   have hl6 := hB0.lt
   have HB0 := hid hB0
   clear hB0
   obtain ⟨x, hxe⟩ : ∃ x : Pr, x = ⟨(y, z), hyz⟩ := ⟨_, rfl⟩
   rw [← hxe] at HX
   have HXE := hid hxe
   clear hxe
   have hsz : w.heap.size ≤ wy.heap.size := HW.out.ext.size
   have hbl : w.heap.size < wy.heap.size := HW.out.map.lt
   have hln : (cls (l.take i)).length + 1 ≤ 1000000000 := by rw [cls_length, List.length_take]; omega
   obtain ⟨es, clock, hb, hes⟩ := mapB_len HW.out.map
   rw [entries_len] at hes
   have HES := hid hes
   clear hx hes
   by_cases hmem : x ∈ clsU (l.take i)
   ·obtain ⟨q, hq⟩ : ∃ n, n = @List.idxOf _ instBEqOfDecidableEq x (clsU (l.take i)) := ⟨_, rfl⟩
    have hlook : alook (entries numV 0 (clsU (l.take i))) x = some (.int .i64 q) := by rw [entries_look, if_pos hmem, Nat.zero_add, ← hq]; rfl
    have HLK := hid hlook
    have HQ := hid hq
    have HME := hid hmem
    have HOW := hid HW.out.own
    clear hlook hq hmem
    go_wp2_with (first
     | (with_reducible show wpList _ _ _ ((⟨_, Op.lookup _ _ _ _, _, _, _, _⟩ : Oper) :: _) _ _
        go_loud (refine wpList_lookupB rfl (.tmp 17) (.tmp 18) 158 rfl 83 3 (fun p => .agg (prC p)) key_pr Tryz.underlying158 w.heap.size (entries numV 0 (clsU (l.take i))) rfl HW.out.map (.int .i64 0) zero_int x (by rw [HXE.out]; rfl) (some (.int .i64 q)) HLK.out ?_))
     | (at_builtin
        go_loud (refine wpList_append_R elem_int (fun _ => rfl) ones_int HOW hsz hln q _ rfl wy.heap.size rfl rfl _ _ rfl rfl rfl ?_)
        rintro g' c' v' w7 rfl G1 G2))
    go_roundg (n - (i + 1))
    case measure => omega
    case rel =>
     obtain ⟨e1, e2⟩ := cls_take_old HX.out HME.out
     refine ⟨i + 1, rfl, by omega, by go_num, hid ⟨ext_grown HW.out.ext G2.out.1 (fun k e => (HOW.out.lt k e).1), ?_, ?_, HW.out.ge⟩⟩
     ·rw [e1]
      exact HW.out.map.grown G2.out.1 (fun e => by
       obtain ⟨_, hc⟩ := own_block HOW.out e.symm
       exact blk_map_ne hc HW.out.map rfl)
     ·rw [e2, ← HQ.out]; exact G1.out
   ·have hlook : alook (entries numV 0 (clsU (l.take i))) x = none := by rw [entries_look, if_neg hmem]
    have HLK := hid hlook
    have HME := hid hmem
    have hlm := len_map_pr hb
    clear hlook hmem
    go_wp2_with (first
     | (with_reducible show wpList _ _ _ ((⟨_, Op.lookup _ _ _ _, _, _, _, _⟩ : Oper) :: _) _ _
        go_loud (refine wpList_lookupB rfl (.tmp 17) (.tmp 18) 158 rfl 83 3 (fun p => .agg (prC p)) key_pr Tryz.underlying158 w.heap.size (entries numV 0 (clsU (l.take i))) rfl HW.out.map (.int .i64 0) zero_int x (by rw [HXE.out]; rfl) none HLK.out ?_))
     | (with_reducible show wpList _ _ _ ((⟨_, Op.mapUpdate _ _ _ _, _, _, _, _⟩ : Oper) :: _) _ _
        go_loud (refine wpList_mapUpdateB _ rfl (.tmp 26) (.tmp 27) (.tmp 28) 158 (.inl rfl) 83 3 (fun p => .agg (prC p)) key_pr Tryz.underlying158 w.heap.size (entries numV 0 (clsU (l.take i))) rfl HW.out.map x (numV es.size) (by rw [HXE.out]; rfl) rfl ?_)
        intro w6 hM6 hG6
        have HM6 := hid hM6
        have HG6 := hid hG6
        have hO6 : OwnR w6 w.heap.size 3 1 natA vO (cls (l.take i)) := HW.out.own.chg ((Chg.refl (fun k => k = w.heap.size) wy).grown hG6 (fun k e => by simpa using e.symm)) (fun k e e' => by
         obtain ⟨_, hc⟩ := own_block HW.out.own e
         exact blk_map_ne hc HW.out.map e')
        have HOW := hid hO6
        have HX6 : Hid (Ext w w6) := hid (ext_grown HW.out.ext hG6 (fun k e => by simp at e; omega))
        have hsz6 : w.heap.size ≤ w6.heap.size := HX6.out.size
        clear hM6 hG6 hO6 hb hlm)
     | (at_builtin
        go_loud (refine wpList_append_R elem_int (fun _ => rfl) ones_int HOW hsz6 hln es.size _ rfl w6.heap.size rfl rfl _ _ rfl rfl rfl ?_)
        rintro g' c' v' w7 rfl G1 G2))
    go_roundg (n - (i + 1))
    case measure => omega
    case rel =>
     obtain ⟨e1, e2⟩ := cls_take_new HX.out HME.out
     refine ⟨i + 1, rfl, by omega, by go_num, hid ⟨ext_grown HX6.out G2.out.1 (fun k e => (HOW.out.lt k e).1), ?_, ?_, HW.out.ge⟩⟩
     ·have h := HM6.out
      rw [aput_push HLK.out] at h
      rw [e1, entries_snoc, Nat.zero_add, ← HES.out]
      exact h.grown G2.out.1 (fun e => by
       obtain ⟨_, hc⟩ := own_block HOW.out e.symm
       exact blk_map_ne hc HM6.out rfl)
     ·rw [e2, ← HES.out]; exact G1.out
  ·obtain rfl : n = i := by omega
   go_wp2_with fail
   have h := HW.out.own
   rw [List.take_of_length_le (by rw [← HN.out]; exact Nat.le_refl _)] at h
   exact HPO.out wr vO HW.out.ext h
end Go.Proofs.YtngpjagpeblbjaaGreatDoor
