/-
  Walk of the reference's Both: its automaton is the program's.
-/
import Derived.Test.YtngpjagpeblbjaaGreatDoorC06
import Derived.Test.YtngpjagpeblbjaaGreatDoorC07
namespace Go.Proofs.YtngpjagpeblbjaaGreatDoor
open Go.RowKit Go.Spy Go.Heaped Go.Tour Go.Rx
section
variable {A B : DA} {syms : List ByteArray}
def goB (A B : DA) (syms : List ByteArray) (p : PI) (c : Nat) : PI := (goS A p.1 (symAt syms c), goS B p.2 (symAt syms c))
abbrev sigB (A B : DA) (syms : List ByteArray) : PI → List PI := fan (goB A B syms) syms.length
def finB (A B : DA) (p : PI) : Bool := finS A p.1 && finS B p.2
theorem tour_B (WA : WellD nameOk A) (WB : WellD nameOk B) (i : Nat) : tourN (sigB A B syms) (0, 0) i = ⟨(tourN (succP A B syms) zeroP i).keys.map (·.1), (tourN (succP A B syms) zeroP i).next, (tourN (succP A B syms) zeroP i).from_⟩ :=
 tourN_map (U := fun _ => True) (φ := fun p : Pr => p.1) (first := zeroP) trivial (fun _ _ _ _ => trivial) (fun a b _ _ e => Subtype.ext e) (fun k _ => by
  simp only [fan, List.map_map]
  exact List.map_congr_left fun c _ => (goP_val WA WB syms k c).symm) i
theorem tourD_B (WA : WellD nameOk A) (WB : WellD nameOk B) (i : Nat) : tourD syms (tourN (sigB A B syms) (0, 0) i) (finB A B) = tourD syms (tourN (succP A B syms) zeroP i) (bothF A B) := by
 unfold tourD
 rw [tour_B WA WB, List.map_map]
 rfl
theorem sigB_univ (WA : WellD nameOk A) (WB : WellD nameOk B) (i : Nat) : ∀ k ∈ (tourN (sigB A B syms) (0, 0) i).keys, k.1 < A.next.length ∧ k.2 < B.next.length := by
 intro k hk
 rw [tour_B WA WB] at hk
 obtain ⟨p, hp, rfl⟩ := List.mem_map.1 hk
 have h := tourN_univ (U := OkQ A B) (succ := succP A B syms) (first := zeroP) (zeroP_okQ WA WB) (succP_okQ WA WB syms) i p hp
 exact h.1
theorem putB {a b : List ByteArray} {s : ByteArray} {i : Nat} (h : b[i]? = some s) : sortW (sortW (a ++ b.take i) ++ [s]) = sortW (a ++ b.take (i + 1)) :=
 rising_ext (sortW_rising _) (sortW_rising _) fun x => by
  rw [sortW_mem, List.mem_append, sortW_mem, sortW_mem, List.take_add_one, h]
  simp only [List.mem_append, Option.toList_some, or_assoc]
end
def RBothPost (A B : DA) (w : World) (e : Ending) (w' : World) : Prop := Ext w w' ∧ ∃ i aoS n1 cS aoN n2 cN aoF n3 cF, Full (succP A B (bothSyms A B)) zeroP i ∧ e = .returned (.tuple #[.agg #[.slice aoS n1 cS, .slice aoN n2 cN, .slice aoF n3 cF], .bool true]) ∧ DfaV w' (.agg #[.slice aoS n1 cS, .slice aoN n2 cN, .slice aoF n3 cF]) (bothD A B i).raw
set_option maxRecDepth 100000 in
set_option maxHeartbeats 16000000 in
theorem rboth_any {w : World} {A B : DA} {aoS aoN aoF aoS2 aoN2 aoF2 : Option Addr} {n1 n2 n3 cS cN cF m1 m2 m3 cS2 cN2 cF2 : Nat} (hA : DfaW w (.agg #[.slice aoS n1 cS, .slice aoN n2 cN, .slice aoF n3 cF]) A) (hB : DfaW w (.agg #[.slice aoS2 m1 cS2, .slice aoN2 m2 cN2, .slice aoF2 m3 cF2]) B) (hcS : n1 ≤ cS)
 (hle : ∀ i, (tourN (sigB A B (bothSyms A B)) (0, 0) i).keys.length ≤ 256) :
 Calls Tryz.prog 36 #[.agg #[.slice aoS n1 cS, .slice aoN n2 cN, .slice aoF n3 cF], .agg #[.slice aoS2 m1 cS2, .slice aoN2 m2 cN2, .slice aoF2 m3 cF2]] w (RBothPost A B w) := by
 have HA := hid hA
 have HB := hid hB
 have HL := hid hA.lens
 have HLB := hid hB.lens
 have hn1 : n1 ≤ 1000 := by rw [hA.lens.1]; exact hA.bnd.s
 have hm1 : m1 ≤ 1000 := by rw [hB.lens.1]; exact hB.bnd.s
 have hn3 : n3 ≤ 256 := by rw [hA.lens.2.2]; exact hA.well.most
 have hm3 : m3 ≤ 256 := by rw [hB.lens.2.2]; exact hB.well.most
 have HWA := hid hA.well
 have HWB := hid hB.well
 have HLE := hid hle
 obtain ⟨W3, hW3⟩ : ∃ u, u = (((w.alloc (.cells #[.slice aoS n1 cS, .slice aoN n2 cN, .slice aoF n3 cF] 40)).alloc (.cells #[.slice aoS2 m1 cS2, .slice aoN2 m2 cN2, .slice aoF2 m3 cF2] 40)).alloc (.cells #[.slice none 0 0, .slice none 0 0, .slice none 0 0] 40)) := ⟨_, rfl⟩
 have HE3 : Hid (Ext w W3) := hid (hW3 ▸ (((Below.refl _ _).alloc (Nat.le_refl _) _).alloc (by simp) _).alloc (by simp; omega) _)
 have HBA3 : Hid (Blk W3 w.heap.size 40 #[.slice aoS n1 cS, .slice aoN n2 cN, .slice aoF n3 cF]) := hid (hW3 ▸ ((Blk.new _ _ _).alloc _).alloc _)
 have HBB3 : Hid (Blk W3 (w.heap.size + 1) 40 #[.slice aoS2 m1 cS2, .slice aoN2 m2 cN2, .slice aoF2 m3 cF2]) := hid (hW3 ▸ (Blk.new' _ _ _ (by simp)).alloc _)
 have HR3 : Hid (Blk W3 (w.heap.size + 1 + 1) 40 #[.slice none 0 0, .slice none 0 0, .slice none 0 0]) := hid (hW3 ▸ Blk.new' _ _ _ (by simp))
 have HW3 := hid hW3
 clear hA hB hW3 hle
 go_enter Tryz.func36, Tryz.ntmps36
 go_wp2_with fail
 rw [← HW3.out]
 go_loopg [6, 7] m1 (fun g v u wr => ∃ (i : Nat) (ao : Option Addr) (n c : Nat), g = m1 - i ∧ i ≤ m1 ∧ u = .int .i64 i ∧ v = .slice ao n c ∧ n ≤ c ∧ Hid (Ext W3 wr ∧ ReadR wr 1 strC (.slice ao n c) (sortW (A.syms ++ B.syms.take i)) ∧ (0 < n → ∀ g, (Value.slice ao n c).ownBlock = some g → g ≠ w.heap.size + 1 + 1)))
 case atStart =>
  refine ⟨0, aoS, n1, cS, rfl, Nat.zero_le _, rfl, rfl, hcS, hid ⟨Below.refl _ _, ?_, fun h0 g hg => ?_⟩⟩
  rotate_left
  ·obtain ⟨us, hP⟩ := HA.out.partsR
   have h1 := hP.syms.own_lt (by show 0 < A.syms.length; rw [← HL.out.1]; exact h0) hg
   omega
  have e : sortW (A.syms ++ B.syms.take 0) = A.syms := rising_ext (sortW_rising _) HWA.out.rising fun x => by rw [sortW_mem]; simp
  rw [e]
  obtain ⟨us, hP⟩ := (HA.out.ext HE3.out).partsR
  exact hP.syms
 case round =>
  obtain ⟨i, ao, n, c, rfl, hi, rfl, rfl, hnc, HV⟩ := hrel
  have b0 : wr.cell? ⟨w.heap.size + 1, 0, none⟩ = some (.slice aoS2 m1 cS2) := (HBB3.out.ext HV.out.1).cell (i := 0) rfl
  have lb := (HBB3.out.ext HV.out.1).lt
  by_cases hlt : i < m1
  ·have q1 : decide (i < m1) = true := decide_eq_true hlt
   have q2 : decide ((i : Int) < (m1 : Int)) = true := decide_eq_true (by omega)
   obtain ⟨gS2, oS2, rfl, c5⟩ := (HB.out.ext (HE3.out.trans (HV.out.1.mono HE3.out.size))).symC hlt
   obtain ⟨s, hs⟩ : ∃ s, s = symAt B.syms i := ⟨_, rfl⟩
   rw [← hs] at c5
   have hsi : B.syms[i]? = some s := by
    have h1 : i < B.syms.length := by rw [← HLB.out.1]; exact hlt
    rw [hs, symAt_some h1]; exact List.getElem?_eq_getElem h1
   have HSI := hid hsi
   have i1 : (i : Int) < (m1 : Int) := by omega
   have i2 : (0 : Int) ≤ (i : Int) := by omega
   have hn : n ≤ 100000 := by
    obtain ⟨_, _, e, _⟩ := HV.out.2.1
    simp only [Value.slice.injEq] at e
    have h1 := sortW_len (A.syms ++ B.syms.take i)
    rw [List.length_append, List.length_take] at h1
    have h2 := HL.out.1
    omega
   have HC := hid (rput_any HV.out.2.1 (sortW_rising _) hnc hn s)
   clear hs hsi hn
   go_wp2_with fail
   refine HC.out.mono ?_
   rintro e w2 ⟨ao2, n2', c2, rfl, HP, HOL, hx⟩
   have HV2 := hid (HV.out.1.trans (hx.mono HV.out.1.size))
   have hnc2 := HP.out.2
   clear hx
   go_wp2_with fail
   go_roundg (m1 - (i + 1))
   case measure => omega
   case rel =>
    refine ⟨i + 1, ao2, n2', c2, rfl, by omega, by go_num, rfl, hnc2, hid ⟨HV2.out, ?_, fun h0 g hg => ?_⟩⟩
    ·rw [← putB HSI.out]
     exact HP.out.1
    ·rcases HOL.out with ⟨rfl, rfl⟩ | h
     ·exact HV.out.2.2 h0 g (by revert hg; cases ao <;> exact id)
     ·have h1 := h g hg
      have h2 := (HR3.out.ext HV.out.1).lt
      omega
  ·obtain rfl : m1 = i := by omega
   have q1 : decide (m1 < m1) = false := decide_eq_false (by omega)
   have q2 : decide ((m1 : Int) < (m1 : Int)) = false := decide_eq_false (by omega)
   have HY : Hid (ReadR wr 1 strC (.slice ao n c) (bothSyms A B)) := hid (by
    have h := HV.out.2.1
    rw [List.take_of_length_le (by rw [← HLB.out.1]; exact Nat.le_refl _)] at h
    exact h)
   have HYF := hid (show 0 < n → ∃ g off, ao = some ⟨g, off, none⟩ from by
    obtain ⟨_, _, e, h⟩ := HY.out.form
    simp only [Value.slice.injEq] at e
    obtain ⟨rfl, e2, -⟩ := e
    rw [e2]; exact h)
   have hyn : n = (bothSyms A B).length := by
    obtain ⟨_, _, e, _⟩ := HY.out
    simp only [Value.slice.injEq] at e
    exact e.2.1
   have hn2000 : n ≤ 2000 := by
    have h1 := bothSyms_len (A := A) (B := B)
    have h2 := HL.out.1
    have h3 := HLB.out.1
    omega
   have HYN := hid hyn
   have HYR := hid HV.out.2.2
   clear hyn
   obtain ⟨wB, hwB⟩ : ∃ x, x = wr := ⟨_, rfl⟩
   subst hwB
   have HEB := hid (HE3.out.trans (HV.out.1.mono HE3.out.size))
   have HBA := hid (HBA3.out.ext HV.out.1)
   have HBB := hid (HBB3.out.ext HV.out.1)
   have HRB := hid (HR3.out.ext HV.out.1)
   go_wp2_with fail
   go_loopg [9, 10] 257 (fun gm vS u wr => ∃ (i : Nat) (us rs : List Value) (ks : List PI) (nx : List (List Nat)) (fs : List Bool) (vN vF : Value), gm = 257 - i ∧ i ≤ 256 ∧ u = .int .i64 i ∧ Hid (ks = (tourN (sigB A B (bothSyms A B)) (0, 0) i).keys ∧ nx = (tourN (sigB A B (bothSyms A B)) (0, 0) i).next ∧ i ≤ ks.length ∧ fs = (ks.take i).map (finB A B)) ∧ Hid (RefW lstP wB wr wB.heap.size (.slice ao n c) vS vN vF (.slice none 0 0) us rs ks nx fs []))
   case atStart => exact ⟨0, _, _, [(0, 0)], [], [], _, _, rfl, Nat.zero_le _, rfl, hid ⟨rfl, rfl, Nat.zero_le _, rfl⟩, hid (RefW.start (φ := lstP) wB _ rfl rfl rfl (by decide))⟩
   case round =>
    obtain ⟨i, us, rs, ks, nx, fs, vN, vF, rfl, hi, rfl, HT, HF⟩ := hrel
    obtain ⟨aoU, cU, rfl, hfU⟩ := (OwnR.read HF.out.seen.own (fun _ => rfl)).form
    obtain ⟨aoN', cN', rfl, -⟩ := (OwnR.read HF.out.rows.own (fun _ => rfl)).form
    obtain ⟨aoF', cF', rfl, -⟩ := (OwnR.read HF.out.fins (fun _ => rfl)).form
    have hlu : us.length = ks.length := HF.out.seen.len
    have hkl : ks.length ≤ 256 := by rw [HT.out.1]; exact HLE.out i
    have hik := HT.out.2.2.1
    obtain ⟨nk, hnk⟩ : ∃ n, n = ks.length := ⟨_, rfl⟩
    rw [← hnk] at hlu hkl hik
    have hnr : rs.length = i := by
     have h1 := HF.out.rows.len
     rw [h1, HT.out.2.1]
     exact tourN_next_len (sigB A B (bothSyms A B)) (0, 0) i (by rw [← HT.out.1, ← hnk]; exact hik)
    have hnf : fs.length = i := by
     rw [HT.out.2.2.2, List.length_map, List.length_take, ← hnk]; omega
    rw [hlu, hnr, hnf] at HF
    rw [hlu] at hfU ⊢
    have HNK := hid hnk
    have HLU := hid hlu
    have HFU := hid hfU
    have HNR := hid hnr
    have HNF := hid hnf
    have HEw := hid (HEB.out.trans (HF.out.ext.mono HEB.out.size))
    have HRw := hid (HRB.out.ext HF.out.ext)
    have q5 : decide (nk ≤ 256) = true := decide_eq_true hkl
    have q6 : decide ((nk : Int) ≤ (256 : Int)) = true := decide_eq_true (by omega)
    clear hnk hlu hfU hnr hnf b0 lb
    by_cases hlt2 : i < nk
    ·have q1 : decide (i < nk) = true := decide_eq_true hlt2
     have q2 : decide ((i : Int) < (nk : Int)) = true := decide_eq_true (by omega)
     obtain ⟨gU, oU, rfl⟩ := HFU.out (by omega)
     obtain ⟨u, hu⟩ : ∃ r, us[i]? = some r := ⟨_, List.getElem?_eq_getElem (by rw [HLU.out]; exact hlt2)⟩
     obtain ⟨x, hx⟩ : ∃ r, ks[i]? = some r := ⟨_, List.getElem?_eq_getElem (by rw [← HNK.out]; exact hlt2)⟩
     obtain ⟨p, q⟩ := x
     obtain ⟨gu, ou, cu, rfl⟩ := HF.out.seen.pairV hu hx
     have c1 : wr.cell? ⟨gU, oU + i, none⟩ = some (.slice (some ⟨gu, ou, none⟩) 2 cu) := by
      have h := OwnR.read HF.out.seen.own (fun _ => rfl)
      rw [← HLU.out] at h
      exact h.cell1 hu
     have hxn := sigB_univ HWA.out HWB.out (syms := bothSyms A B) i (p, q) (by rw [← HT.out.1]; exact List.mem_of_getElem? hx)
     have hp3 : p < n3 := by rw [HL.out.2.2]; exact hxn.1
     have hq3 : q < m3 := by rw [HLB.out.2.2]; exact hxn.2
     have HX := hid hx
     have HU := hid hu
     have i1 : (i : Int) < (nk : Int) := by omega
     have i2 : (0 : Int) ≤ (i : Int) := by omega
     clear hu hx hxn
     obtain ⟨w0, hw0⟩ : ∃ y, y = wr := ⟨_, rfl⟩
     subst hw0
     go_wp2_with fail
     go_loopg [9, 12, 13] n (fun gm vS vX u wr => ∃ (j : Nat) (us' : List Value) (ls : List PI) (gs : List Nat), gm = n - j ∧ j ≤ n ∧ u = .int .i64 j ∧ Hid (ls = (visN i ⟨ks, (tourN (sigB A B (bothSyms A B)) (0, 0) i).from_, []⟩ (sigB A B (bothSyms A B) (p, q)) j).keys ∧ gs = (visN i ⟨ks, (tourN (sigB A B (bothSyms A B)) (0, 0) i).from_, []⟩ (sigB A B (bothSyms A B) (p, q)) j).goes ∧ ls[i]? = some (p, q) ∧ us'[i]? = some (.slice (some ⟨gu, ou, none⟩) 2 cu)) ∧ Hid (RefW lstP wB wr wB.heap.size (.slice ao n c) vS (.slice aoN' i cN') (.slice aoF' i cF') vX us' rs ls nx fs gs))
     case atStart => exact ⟨0, us, ks, [], rfl, Nat.zero_le _, rfl, hid ⟨rfl, rfl, HX.out, HU.out⟩, HF⟩
     case round =>
      obtain ⟨j, us', ls, gs, rfl, hj, rfl, HV2, HF2⟩ := hrel
      obtain ⟨aoU2, cU2, rfl, -⟩ := (OwnR.read HF2.out.seen.own (fun _ => rfl)).form
      obtain ⟨aoX, cX, rfl, -⟩ := (OwnR.read HF2.out.now (fun _ => rfl)).form
      have hlu2 : us'.length = ls.length := HF2.out.seen.len
      have hgl : gs.length = j := by
       rw [HV2.out.2.1, visN_goes_len _ _ _ _ (by rw [fan_length, ← HYN.out]; exact hj)]
       simp
      obtain ⟨nl, hnl⟩ : ∃ n, n = ls.length := ⟨_, rfl⟩
      rw [← hnl] at hlu2
      rw [hlu2, hgl] at HF2 ⊢
      have HNL := hid hnl
      have HLU2 := hid hlu2
      have HGL := hid hgl
      clear hnl hlu2 hgl c1
      by_cases hjl : j < n
      ·have q3 : decide (j < n) = true := decide_eq_true hjl
       have q4 : decide ((j : Int) < (n : Int)) = true := decide_eq_true (by omega)
       obtain ⟨gY, oY, rfl⟩ := HYF.out (by omega)
       obtain ⟨s, hs⟩ : ∃ s, s = symAt (bothSyms A B) j := ⟨_, rfl⟩
       have HSC : Hid (∀ w', Ext wB w' → w'.cell? ⟨gY, oY + j, none⟩ = some (.string s)) := hid fun w' e => by
        have hj2 : j < (bothSyms A B).length := by rw [← HYN.out]; exact hjl
        rw [hs, symAt_some hj2]
        exact (HY.out.ext e).cell1 (List.getElem?_eq_getElem hj2)
       obtain ⟨y1, hy1⟩ : ∃ y, y = goS A p s := ⟨_, rfl⟩
       obtain ⟨y2, hy2⟩ : ∃ y, y = goS B q s := ⟨_, rfl⟩
       have HSA : Hid (∀ W, Ext wB W → Calls Tryz.prog 94 #[.agg #[.slice aoS n1 cS, .slice aoN n2 cN, .slice aoF n3 cF], .int .i64 p, .string s] W fun e w' => e = .returned (.int .i64 y1) ∧ Ext W w') := hid fun W e => by
        rw [hy1]
        exact step_any (HA.out.ext (HEB.out.trans (e.mono HEB.out.size))) p (by rw [← HL.out.2.2]; exact hp3) s
       have HSB : Hid (∀ W, Ext wB W → Calls Tryz.prog 94 #[.agg #[.slice aoS2 m1 cS2, .slice aoN2 m2 cN2, .slice aoF2 m3 cF2], .int .i64 q, .string s] W fun e w' => e = .returned (.int .i64 y2) ∧ Ext W w') := hid fun W e => by
        rw [hy2]
        exact step_any (HB.out.ext (HEB.out.trans (e.mono HEB.out.size))) q (by rw [← HLB.out.2.2]; exact hq3) s
       have hvj : (sigB A B (bothSyms A B) (p, q))[j]? = some (y1, y2) := by
        rw [fan_get _ _ (by rw [← HYN.out]; exact hjl), hy1, hy2, hs]
        rfl
       have hvs := visN_succ (r := i) (s := ⟨ks, (tourN (sigB A B (bothSyms A B)) (0, 0) i).from_, []⟩) hvj
       have HVS := hid hvs
       have i5 : (j : Int) < (n : Int) := by omega
       have i6 : (0 : Int) ≤ (j : Int) := by omega
       have hnd : ls.Nodup := by
        rw [HV2.out.1]
        refine visN_nodup ?_ _ _ _
        show ks.Nodup
        rw [HT.out.1]; exact tourN_nodup _ _ _
       have hvl : us'.length ≤ 1000000 := by
        rw [HLU2.out, HNL.out, HV2.out.1]
        have h1 := visN_len i ⟨ks, (tourN (sigB A B (bothSyms A B)) (0, 0) i).from_, []⟩ (sigB A B (bothSyms A B) (p, q)) j
        have h3 : (visN i ⟨ks, (tourN (sigB A B (bothSyms A B)) (0, 0) i).from_, []⟩ (sigB A B (bothSyms A B) (p, q)) j).keys.length ≤ ks.length + j := h1
        have h2 := HNK.out
        omega
       have hnm : (ls.map lstP).Nodup := List.pairwise_map.2 (hnd.imp fun h e => h (lstP_inj e))
       have HNM := hid hnm
       have hln : gs.length + 1 ≤ 1000000000 := by rw [HGL.out]; omega
       clear hs hy1 hy2 hvj hvs hnd hnm
       obtain ⟨c3, c4⟩ := HF2.out.seen.pair HV2.out.2.2.2 HV2.out.2.2.1
       go_upto_region 17 with fail
       have hS0 : Ext wr wr.drew := ext_drew1 wr
       have hS1 : Ext wB wr.drew ∧ wr.drew.cell? ⟨gu, ou, none⟩ = some (.int .i64 p) ∧ wr.drew.cell? ⟨gu, ou + 1, none⟩ = some (.int .i64 q) := ⟨HF2.out.ext.drew, c3, c4⟩
       refine wp_region_heldL (fun w' => Ext wB w' ∧ w'.cell? ⟨gu, ou, none⟩ = some (.int .i64 p) ∧ w'.cell? ⟨gu, ou + 1, none⟩ = some (.int .i64 q)) (by kernel_rfl) ?_
       refine wpAnyH_takeN 0 25 (mk 26 1) rfl (by kernel_rfl) rfl (.slice aoU2 nl cU2) (fun _ _ _ h => h) (Or.inl ⟨rfl, fun w' hS => ?_⟩) hS1 (by simp only [Act.put, List.setIfInBounds_toArray, List.set_cons_succ, List.set_cons_zero]; rfl) ?_
       ·go_simp <;> with_reducible rfl
       refine wpAnyH_takeN 1 24 (mk 26 3) rfl (by kernel_rfl) rfl (.agg #[.slice aoS n1 cS, .slice aoN n2 cN, .slice aoF n3 cF]) (fun _ _ _ h => h) (Or.inl ⟨rfl, fun w' hS => ?_⟩) hS1 (by simp only [Act.put, List.setIfInBounds_toArray, List.set_cons_succ, List.set_cons_zero]; rfl) ?_
       ·have d0 : w'.cell? ⟨w.heap.size, 0, none⟩ = some (.slice aoS n1 cS) := (HBA.out.ext hS.1).cell (i := 0) rfl
        have d1 : w'.cell? ⟨w.heap.size, 1, none⟩ = some (.slice aoN n2 cN) := (HBA.out.ext hS.1).cell (i := 1) rfl
        have d2 : w'.cell? ⟨w.heap.size, 2, none⟩ = some (.slice aoF n3 cF) := (HBA.out.ext hS.1).cell (i := 2) rfl
        go_simp <;> with_reducible rfl
       refine wpAnyH_takeN 2 23 (mk 26 7) rfl (by kernel_rfl) rfl (.slice (some ⟨gu, ou, none⟩) 2 cu) (fun _ _ _ h => h) (Or.inl ⟨rfl, fun w' hS => ?_⟩) hS1 (by simp only [Act.put, List.setIfInBounds_toArray, List.set_cons_succ, List.set_cons_zero]; rfl) ?_
       ·go_simp <;> with_reducible rfl
       refine wpAnyH_takeN 3 22 (mk 26 15) rfl (by kernel_rfl) rfl (.pointer (some ⟨gu, ou, none⟩)) (fun _ _ _ h => h) (Or.inl ⟨rfl, fun w' hS => ?_⟩) hS1 (by simp only [Act.put, List.setIfInBounds_toArray, List.set_cons_succ, List.set_cons_zero]; rfl) ?_
       ·go_simp <;> with_reducible rfl
       refine wpAnyH_takeN 4 21 (mk 26 31) rfl (by kernel_rfl) rfl (.int .i64 p) (fun _ _ _ h => h) (Or.inl ⟨rfl, fun w' hS => ?_⟩) hS1 (by simp only [Act.put, List.setIfInBounds_toArray, List.set_cons_succ, List.set_cons_zero]; rfl) ?_
       ·have d0 := hS.2.1
        go_simp <;> with_reducible rfl
       refine wpAnyH_takeN 5 20 (mk 26 63) rfl (by kernel_rfl) rfl (.slice (some ⟨gY, oY, none⟩) n c) (fun _ _ _ h => h) (Or.inl ⟨rfl, fun w' hS => ?_⟩) hS1 (by simp only [Act.put, List.setIfInBounds_toArray, List.set_cons_succ, List.set_cons_zero]; rfl) ?_
       ·go_simp <;> with_reducible rfl
       refine wpAnyH_takeN 6 19 (mk 26 127) rfl (by kernel_rfl) rfl (.int .i64 j) (fun _ _ _ h => h) (Or.inl ⟨rfl, fun w' hS => ?_⟩) hS1 (by simp only [Act.put, List.setIfInBounds_toArray, List.set_cons_succ, List.set_cons_zero]; rfl) ?_
       ·go_simp <;> with_reducible rfl
       refine wpAnyH_takeN 7 18 (mk 26 255) rfl (by kernel_rfl) rfl (.pointer (some ⟨gY, oY + j, none⟩)) (fun _ _ _ h => h) (Or.inl ⟨rfl, fun w' hS => ?_⟩) hS1 (by simp only [Act.put, List.setIfInBounds_toArray, List.set_cons_succ, List.set_cons_zero]; rfl) ?_
       ·go_simp <;> with_reducible rfl
       refine wpAnyH_takeN 8 17 (mk 26 511) rfl (by kernel_rfl) rfl (.string s) (fun _ _ _ h => h) (Or.inl ⟨rfl, fun w' hS => ?_⟩) hS1 (by simp only [Act.put, List.setIfInBounds_toArray, List.set_cons_succ, List.set_cons_zero]; rfl) ?_
       ·have d0 := HSC.out w' hS.1
        go_simp <;> with_reducible rfl
       refine wpAnyH_takeN 10 16 (mk 26 1535) rfl (by kernel_rfl) rfl (.agg #[.slice aoS2 m1 cS2, .slice aoN2 m2 cN2, .slice aoF2 m3 cF2]) (fun _ _ _ h => h) (Or.inl ⟨rfl, fun w' hS => ?_⟩) hS1 (by simp only [Act.put, List.setIfInBounds_toArray, List.set_cons_succ, List.set_cons_zero]; rfl) ?_
       ·have d0 : w'.cell? ⟨(w.heap.size + 1), 0, none⟩ = some (.slice aoS2 m1 cS2) := (HBB.out.ext hS.1).cell (i := 0) rfl
        have d1 : w'.cell? ⟨(w.heap.size + 1), 1, none⟩ = some (.slice aoN2 m2 cN2) := (HBB.out.ext hS.1).cell (i := 1) rfl
        have d2 : w'.cell? ⟨(w.heap.size + 1), 2, none⟩ = some (.slice aoF2 m3 cF2) := (HBB.out.ext hS.1).cell (i := 2) rfl
        go_simp <;> with_reducible rfl
       refine wpAnyH_takeN 11 15 (mk 26 3583) rfl (by kernel_rfl) rfl (.slice (some ⟨gu, ou, none⟩) 2 cu) (fun _ _ _ h => h) (Or.inl ⟨rfl, fun w' hS => ?_⟩) hS1 (by simp only [Act.put, List.setIfInBounds_toArray, List.set_cons_succ, List.set_cons_zero]; rfl) ?_
       ·go_simp <;> with_reducible rfl
       refine wpAnyH_takeN 12 14 (mk 26 7679) rfl (by kernel_rfl) rfl (.pointer (some ⟨gu, ou + 1, none⟩)) (fun _ _ _ h => h) (Or.inl ⟨rfl, fun w' hS => ?_⟩) hS1 (by simp only [Act.put, List.setIfInBounds_toArray, List.set_cons_succ, List.set_cons_zero]; rfl) ?_
       ·go_simp <;> with_reducible rfl
       refine wpAnyH_takeN 13 13 (mk 26 15871) rfl (by kernel_rfl) rfl (.int .i64 q) (fun _ _ _ h => h) (Or.inl ⟨rfl, fun w' hS => ?_⟩) hS1 (by simp only [Act.put, List.setIfInBounds_toArray, List.set_cons_succ, List.set_cons_zero]; rfl) ?_
       ·have d0 := hS.2.2
        go_simp <;> with_reducible rfl
       refine wpAnyH_takeN 14 12 (mk 26 32255) rfl (by kernel_rfl) rfl (.slice (some ⟨gY, oY, none⟩) n c) (fun _ _ _ h => h) (Or.inl ⟨rfl, fun w' hS => ?_⟩) hS1 (by simp only [Act.put, List.setIfInBounds_toArray, List.set_cons_succ, List.set_cons_zero]; rfl) ?_
       ·go_simp <;> with_reducible rfl
       refine wpAnyH_takeN 15 11 (mk 26 65023) rfl (by kernel_rfl) rfl (.int .i64 j) (fun _ _ _ h => h) (Or.inl ⟨rfl, fun w' hS => ?_⟩) hS1 (by simp only [Act.put, List.setIfInBounds_toArray, List.set_cons_succ, List.set_cons_zero]; rfl) ?_
       ·go_simp <;> with_reducible rfl
       refine wpAnyH_takeN 16 10 (mk 26 130559) rfl (by kernel_rfl) rfl (.pointer (some ⟨gY, oY + j, none⟩)) (fun _ _ _ h => h) (Or.inl ⟨rfl, fun w' hS => ?_⟩) hS1 (by simp only [Act.put, List.setIfInBounds_toArray, List.set_cons_succ, List.set_cons_zero]; rfl) ?_
       ·go_simp <;> with_reducible rfl
       refine wpAnyH_takeN 17 9 (mk 26 261631) rfl (by kernel_rfl) rfl (.string s) (fun _ _ _ h => h) (Or.inl ⟨rfl, fun w' hS => ?_⟩) hS1 (by simp only [Act.put, List.setIfInBounds_toArray, List.set_cons_succ, List.set_cons_zero]; rfl) ?_
       ·have d0 := HSC.out w' hS.1
        go_simp <;> with_reducible rfl
       refine wpAnyH_one 9 8 (mk 26 262143) rfl (by kernel_rfl) rfl ?_
       go_wp2_with fail
       refine (HSA.out _ hS1.1).mono ?_
       rintro e wa ⟨rfl, hx⟩
       have HXwa := hid (hS0.trans (hx.mono hS0.size))
       clear hx
       have hSwa : Ext wB wa ∧ wa.cell? ⟨gu, ou, none⟩ = some (.int .i64 p) ∧ wa.cell? ⟨gu, ou + 1, none⟩ = some (.int .i64 q) := by
        have hF := HF2.out.ext' HXwa.out
        exact ⟨hF.ext, hF.seen.pair HV2.out.2.2.2 HV2.out.2.2.1⟩
       go_wp2_with fail
       refine ⟨hSwa, ?_⟩
       refine wpAnyH_one 18 7 (mk 26 524287) rfl (by kernel_rfl) rfl ?_
       go_wp2_with fail
       refine (HSB.out _ hSwa.1).mono ?_
       rintro e wb ⟨rfl, hx⟩
       have HXwb := hid (HXwa.out.trans (hx.mono HXwa.out.size))
       clear hx
       have hSwb : Ext wB wb ∧ wb.cell? ⟨gu, ou, none⟩ = some (.int .i64 p) ∧ wb.cell? ⟨gu, ou + 1, none⟩ = some (.int .i64 q) := by
        have hF := HF2.out.ext' HXwb.out
        exact ⟨hF.ext, hF.seen.pair HV2.out.2.2.2 HV2.out.2.2.1⟩
       go_wp2_with fail
       refine ⟨hSwb, ?_⟩
       refine wpAnyH_one 19 6 (mk 26 1048575) rfl (by kernel_rfl) rfl ?_
       obtain ⟨w2, hw2⟩ : ∃ u, u = wb.alloc (.cells #[.int .i64 y1, .int .i64 y2] 3) := ⟨_, rfl⟩
       have HX2 : Hid (Ext wr w2) := hid (HXwb.out.trans ((hw2 ▸ (Below.refl _ _).alloc (Nat.le_refl _) _ : Ext wb w2).mono HXwb.out.size))
       have HK2 : Hid (OwnR w2 wB.heap.size 3 1 intZ (.slice (some ⟨wb.heap.size, 0, none⟩) 2 2) (lstP (y1, y2))) := hid (hw2 ▸ own_lit (Blk.new _ _ _) hSwb.1.size rfl rfl rfl (by decide))
       have HF4 := hid (HF2.out.ext' HX2.out)
       have HNB := hid (number_any HF4.out.seen.own HF4.out.ext.size HF4.out.seen.keysR HNM.out (OwnR.read HK2.out (fun _ => rfl)) hvl (fun y hy => by
        obtain ⟨k, _, rfl⟩ := List.mem_map.1 hy
        exact (by decide : 2 ≤ 1000)))
       have HAP : Hid (Ap (.slice (some ⟨wb.heap.size, 0, none⟩) 2 2) (.slice aoX j cX)) := hid fun k h1 h2 => by
        cases h1
        have h3 := (HF2.out.now.lt _ h2).2
        have h4 := HXwb.out.size
        have h5 : wb.heap.size < wr.heap.size := h3
        omega
       have hS2 : Ext wB w2 ∧ w2.cell? ⟨gu, ou, none⟩ = some (.int .i64 p) ∧ w2.cell? ⟨gu, ou + 1, none⟩ = some (.int .i64 q) := ⟨HF4.out.ext, HF4.out.seen.pair HV2.out.2.2.2 HV2.out.2.2.1⟩
       go_wp2_with fail
       rw [← hw2]
       refine ⟨hS2, ?_⟩
       have HW2' := hid hw2
       clear hw2
       refine wpAnyH_one 20 5 (mk 26 2097151) rfl (by kernel_rfl) rfl ?_
       go_wp2_with fail
       refine HNB.out.mono ?_
       rintro e w3 (⟨hin, rfl, hx⟩ | ⟨hnin, v', rfl, hO, hc, hold⟩)
       ·have hmem : (y1, y2) ∈ ls := lstP_mem.1 hin
        have HF5 := hid (HF4.out.ext' hx)
        have HNO := hid HF5.out.now
        have hsz : wB.heap.size ≤ w3.heap.size := HF5.out.ext.size
        obtain ⟨r, hr⟩ : ∃ q, q = idxK (ls.map lstP) (lstP (y1, y2)) := ⟨_, rfl⟩
        rw [← hr]
        have HQ : Hid (r = idxK ls (y1, y2)) := hid (hr.trans (lstP_idx ls (y1, y2)))
        have HME := hid hmem
        have hS3 : Ext wB w3 ∧ w3.cell? ⟨gu, ou, none⟩ = some (.int .i64 p) ∧ w3.cell? ⟨gu, ou + 1, none⟩ = some (.int .i64 q) := ⟨HF5.out.ext, HF5.out.seen.pair HV2.out.2.2.2 HV2.out.2.2.1⟩
        clear hin hx hmem hr
        go_wp2_with fail
        refine ⟨hS3, ?_⟩
        refine wpAnyH_takeN 21 4 (mk 26 4194303) rfl (by kernel_rfl) rfl (.tuple #[.int .i64 r, .slice aoU2 nl cU2]) (fun _ _ _ h => h) (Or.inl ⟨rfl, fun w' hS => ?_⟩) hS3 (by simp only [Act.put, List.setIfInBounds_toArray, List.set_cons_succ, List.set_cons_zero]; rfl) ?_
        ·go_simp <;> with_reducible rfl
        refine wpAnyH_takeN 22 3 (mk 26 8388607) rfl (by kernel_rfl) rfl (.int .i64 r) (fun _ _ _ h => h) (Or.inl ⟨rfl, fun w' hS => ?_⟩) hS3 (by simp only [Act.put, List.setIfInBounds_toArray, List.set_cons_succ, List.set_cons_zero]; rfl) ?_
        ·go_simp <;> with_reducible rfl
        refine wpAnyH_takeN 23 2 (mk 26 16777215) rfl (by kernel_rfl) rfl (.slice aoU2 nl cU2) (fun _ _ _ h => h) (Or.inl ⟨rfl, fun w' hS => ?_⟩) hS3 (by simp only [Act.put, List.setIfInBounds_toArray, List.set_cons_succ, List.set_cons_zero]; rfl) ?_
        ·go_simp <;> with_reducible rfl
        refine wpAnyH_one 24 1 (mk 26 33554431) rfl (by kernel_rfl) rfl ?_
        go_wp2_with fail
        refine ⟨hS3, ?_⟩
        refine wpAnyH_one 25 0 (mk 26 67108863) rfl (by kernel_rfl) rfl ?_
        go_wp2_with fail
        refine ⟨hS3, ?_⟩
        refine wpAnyH_end (P := Tryz.prog) (by kernel_rfl) ?_
        go_wp2_with (with_reducible refine onOp 83 ?_
                     go_loud (refine wpList_append_R elem_int (fun _ => rfl) ones_int HNO hsz hln r _ rfl w3.heap.size rfl rfl _ _ rfl rfl rfl ?_)
                     rintro g6 c6 v6 w6 rfl G1 G2)
        go_roundg (n - (j + 1))
        case measure => omega
        case rel =>
         have c6 := (Chg.refl (fun k => (Value.slice aoX j cX).ownBlock = some k) w3).grown G2.out.1 (fun k e => e)
         refine ⟨j + 1, us', ls, gs ++ [r], rfl, by omega, by go_num, hid ?_, hid (HF5.out.put G1.out c6 (fun r hr => by
          cases hr
          exact G2.out.2))⟩
         rw [HVS.out]
         unfold vis1
         rw [← HV2.out.1, if_pos HME.out]
         exact ⟨rfl, by rw [HQ.out, HV2.out.2.1]; rfl, HV2.out.2.2.1, HV2.out.2.2.2⟩
       ·have hmem : (y1, y2) ∉ ls := fun h => hnin (lstP_mem.2 h)
        have hlv : (us' ++ [Value.slice (some ⟨wb.heap.size, 0, none⟩) 2 2]).length = nl + 1 := by rw [List.length_append, HLU2.out]; rfl
        have hkl2 : (ls.map lstP).length = nl := by rw [List.length_map, HNL.out]
        rw [hkl2]
        obtain ⟨aV, cV, rfl, -⟩ := (OwnR.read hO (fun _ => rfl)).form
        rw [hlv] at hO hold ⊢
        have HF5 := hid (HF4.out.new hO hc hold HK2.out HAP.out)
        have HNO := hid HF5.out.now
        have hsz : wB.heap.size ≤ w3.heap.size := HF5.out.ext.size
        have HME := hid hmem
        have hil : i < ls.length := (List.getElem?_eq_some_iff.1 HV2.out.2.2.1).1
        have HI1 : Hid ((ls ++ [(y1, y2)])[i]? = some (p, q)) := hid (by rw [List.getElem?_append_left hil]; exact HV2.out.2.2.1)
        have HI2 : Hid ((us' ++ [Value.slice (some ⟨wb.heap.size, 0, none⟩) 2 2])[i]? = some (.slice (some ⟨gu, ou, none⟩) 2 cu)) := hid (by rw [List.getElem?_append_left (by rw [HLU2.out, HNL.out]; exact hil)]; exact HV2.out.2.2.2)
        have hS3 : Ext wB w3 ∧ w3.cell? ⟨gu, ou, none⟩ = some (.int .i64 p) ∧ w3.cell? ⟨gu, ou + 1, none⟩ = some (.int .i64 q) := ⟨HF5.out.ext, HF5.out.seen.pair HI2.out HI1.out⟩
        clear hmem hO hc hold hnin hil
        go_wp2_with fail
        refine ⟨hS3, ?_⟩
        refine wpAnyH_takeN 21 4 (mk 26 4194303) rfl (by kernel_rfl) rfl (.tuple #[.int .i64 nl, .slice aV (nl + 1) cV]) (fun _ _ _ h => h) (Or.inl ⟨rfl, fun w' hS => ?_⟩) hS3 (by simp only [Act.put, List.setIfInBounds_toArray, List.set_cons_succ, List.set_cons_zero]; rfl) ?_
        ·go_simp <;> with_reducible rfl
        refine wpAnyH_takeN 22 3 (mk 26 8388607) rfl (by kernel_rfl) rfl (.int .i64 nl) (fun _ _ _ h => h) (Or.inl ⟨rfl, fun w' hS => ?_⟩) hS3 (by simp only [Act.put, List.setIfInBounds_toArray, List.set_cons_succ, List.set_cons_zero]; rfl) ?_
        ·go_simp <;> with_reducible rfl
        refine wpAnyH_takeN 23 2 (mk 26 16777215) rfl (by kernel_rfl) rfl (.slice aV (nl + 1) cV) (fun _ _ _ h => h) (Or.inl ⟨rfl, fun w' hS => ?_⟩) hS3 (by simp only [Act.put, List.setIfInBounds_toArray, List.set_cons_succ, List.set_cons_zero]; rfl) ?_
        ·go_simp <;> with_reducible rfl
        refine wpAnyH_one 24 1 (mk 26 33554431) rfl (by kernel_rfl) rfl ?_
        go_wp2_with fail
        refine ⟨hS3, ?_⟩
        refine wpAnyH_one 25 0 (mk 26 67108863) rfl (by kernel_rfl) rfl ?_
        go_wp2_with fail
        refine ⟨hS3, ?_⟩
        refine wpAnyH_end (P := Tryz.prog) (by kernel_rfl) ?_
        go_wp2_with (with_reducible refine onOp 83 ?_
                     go_loud (refine wpList_append_R elem_int (fun _ => rfl) ones_int HNO hsz hln nl _ rfl w3.heap.size rfl rfl _ _ rfl rfl rfl ?_)
                     rintro g6 c6 v6 w6 rfl G1 G2)
        go_roundg (n - (j + 1))
        case measure => omega
        case rel =>
         have c6 := (Chg.refl (fun k => (Value.slice aoX j cX).ownBlock = some k) w3).grown G2.out.1 (fun k e => e)
         refine ⟨j + 1, _, ls ++ [(y1, y2)], gs ++ [nl], rfl, by omega, by go_num, hid ?_, hid (HF5.out.put G1.out c6 (fun r hr => by
          cases hr
          exact G2.out.2))⟩
         rw [HVS.out]
         unfold vis1
         rw [← HV2.out.1, if_neg HME.out]
         exact ⟨rfl, by rw [HNL.out, HV2.out.2.1], HI1.out, HI2.out⟩
      ·obtain rfl : n = j := by omega
       have q3 : decide (n < n) = false := decide_eq_false (by omega)
       have b1 : wr.cell? ⟨wB.heap.size, 1, none⟩ = some (.slice aoN' i cN') := HF2.out.box.cell (i := 1) rfl
       have lb := HF2.out.box.lt
       have fb := HF2.out.box.frozen
       have HRO := hid HF2.out.rows.own
       have hszr : wB.heap.size ≤ wr.heap.size := HF2.out.ext.size
       have hlnr : rs.length + 1 ≤ 1000000000 := by rw [HNR.out]; omega
       go_upto_region 20 with (with_reducible refine onOp 88 ?_
                               go_loud (refine wpList_append_R elem_row (fun _ => rfl) ones_row HRO hszr hlnr (.slice aoX n cX) _ rfl wr.heap.size rfl rfl _ _ rfl rfl rfl ?_)
                               rintro g6 c6 v6 w6 rfl G1 G2
                               have hc6 := (Chg.refl (fun k => (Value.slice aoN' i cN').ownBlock = some k) wr).grown G2.out.1 (fun k e => e)
                               have HP6 := hid (HF2.out.row1 G1.out hc6 (fun r hr => by
                                cases hr
                                exact G2.out.2))
                               have b6 : w6.cell? ⟨wB.heap.size, 1, none⟩ = some (.slice aoN' i cN') := HP6.out.1.2.cell (i := 1) rfl
                               have lb6 := HP6.out.1.2.lt
                               have fb6 := HP6.out.1.2.frozen
                               clear hc6)
       obtain ⟨wy, hwy⟩ : ∃ y, y = w6.setCell ⟨wB.heap.size, 1, none⟩ (.slice (some ⟨g6, 0, none⟩) (rs.length + 1) c6) := ⟨_, rfl⟩
       have HF6 := hid HP6.out.2
       rw [← hwy] at HF6 ⊢
       clear hwy HP6 b6 lb6 fb6 G1 G2 HRO b1 lb fb
       have hlnf : fs.length + 1 ≤ 1000000000 := by rw [HNF.out]; omega
       obtain ⟨e1, e2⟩ := HF6.out.seen.pair HV2.out.2.2.2 HV2.out.2.2.1
       have hS0 : Ext wB wy.drew ∧ wy.drew.cell? ⟨gu, ou, none⟩ = some (.int .i64 p) ∧ wy.drew.cell? ⟨gu, ou + 1, none⟩ = some (.int .i64 q) := ⟨HF6.out.ext.drew, e1, e2⟩
       have HEND : Hid (∀ (b : Bool) (w7 : World) (v7 : Value), b = finB A B (p, q) → Hid (RefW lstP wB w7 wB.heap.size (.slice ao n c) (.slice aoU2 nl cU2) (.slice (some ⟨g6, 0, none⟩) (rs.length + 1) c6) v7 (.slice none 0 0) us' (rs ++ [.slice aoX n cX]) ls (nx ++ [gs]) (fs ++ [b]) []) →
        ∃ (i' : Nat) (us rs : List Value) (ks : List PI) (nx : List (List Nat)) (fs : List Bool) (vN vF : Value), 257 - (i + 1) = 257 - i' ∧ i' ≤ 256 ∧ Value.int .i64 ((i : Int) + 1) = .int .i64 i' ∧ Hid (ks = (tourN (sigB A B (bothSyms A B)) (0, 0) i').keys ∧ nx = (tourN (sigB A B (bothSyms A B)) (0, 0) i').next ∧ i' ≤ ks.length ∧ fs = (ks.take i').map (finB A B)) ∧ Hid (RefW lstP wB w7 wB.heap.size (.slice ao n c) (.slice aoU2 nl cU2) vN vF (.slice none 0 0) us rs ks nx fs [])) := hid fun b w7 v7 hb HP => by
        have hsu := tourN_succ (succ := sigB A B (bothSyms A B)) (first := ((0 : Int), (0 : Int))) (i := i) (k := (p, q)) (by rw [← HT.out.1]; exact HX.out)
        have hlen : (sigB A B (bothSyms A B) (p, q)).length = n := by rw [fan_length]; exact HYN.out.symm
        have hpre : ks <+: ls := by rw [HV2.out.1]; exact visN_pre i ⟨ks, _, []⟩ _ n
        have e1 : ls = (tourN (sigB A B (bothSyms A B)) (0, 0) (i + 1)).keys ∧ nx ++ [gs] = (tourN (sigB A B (bothSyms A B)) (0, 0) (i + 1)).next := by
         rw [hsu]
         unfold rowOf
         rw [hlen, ← HT.out.1, ← HT.out.2.1, ← HV2.out.1, ← HV2.out.2.1]
         exact ⟨rfl, rfl⟩
        have hil : i < ks.length := by rw [← HNK.out]; exact hlt2
        refine ⟨i + 1, us', _, ls, nx ++ [gs], fs ++ [b], _, _, rfl, by omega, rfl, hid ⟨e1.1, e1.2, by have := hpre.length_le; omega, ?_⟩, HP⟩
        obtain ⟨t, ht⟩ := hpre
        rw [← ht, List.take_append_of_le_length (by omega), takeMap_snoc (finB A B) HX.out, ← HT.out.2.2.2, hb]
       by_cases h0 : 0 ≤ p
       ·have t0 : decide ((0 : Int) ≤ p) = true := decide_eq_true h0
        by_cases h1 : 0 ≤ q
        ·have t1 : decide ((0 : Int) ≤ q) = true := decide_eq_true h1
         obtain ⟨gF, oF, hF1, -⟩ := HA.out.finC (s := p.toNat) (by rw [HL.out.2.1, ← HL.out.2.2]; omega)
         subst hF1
         obtain ⟨gF2, oF2, hF2, -⟩ := HB.out.finC (s := q.toNat) (by rw [HLB.out.2.1, ← HLB.out.2.2]; omega)
         subst hF2
         obtain ⟨fa, hfa⟩ : ∃ b, b = finS A p := ⟨_, rfl⟩
         obtain ⟨fb, hfb⟩ : ∃ b, b = finS B q := ⟨_, rfl⟩
         have HFA : Hid (∀ w', Ext wB w' → w'.cell? ⟨gF, oF + p.toNat, none⟩ = some (.bool fa)) := hid fun w' e => by
          obtain ⟨g', o', e1, h1⟩ := (HA.out.ext (HEB.out.trans (e.mono HEB.out.size))).finC (s := p.toNat) (by rw [HL.out.2.1, ← HL.out.2.2]; omega)
          simp only [Option.some.injEq, Addr.mk.injEq, and_true] at e1
          obtain ⟨rfl, rfl⟩ := e1
          rw [show ((p.toNat : Nat) : Int) = p by omega, ← hfa] at h1
          exact h1
         have HFB : Hid (∀ w', Ext wB w' → w'.cell? ⟨gF2, oF2 + q.toNat, none⟩ = some (.bool fb)) := hid fun w' e => by
          obtain ⟨g', o', e1, h1⟩ := (HB.out.ext (HEB.out.trans (e.mono HEB.out.size))).finC (s := q.toNat) (by rw [HLB.out.2.1, ← HLB.out.2.2]; omega)
          simp only [Option.some.injEq, Addr.mk.injEq, and_true] at e1
          obtain ⟨rfl, rfl⟩ := e1
          rw [show ((q.toNat : Nat) : Int) = q by omega, ← hfb] at h1
          exact h1
         have HFAV := hid hfa.symm
         have HFBV := hid hfb.symm
         clear hfa hfb
         cases fa
         ·refine wp_region_heldL (fun w' => Ext wB w' ∧ w'.cell? ⟨gu, ou, none⟩ = some (.int .i64 p) ∧ w'.cell? ⟨gu, ou + 1, none⟩ = some (.int .i64 q)) (by kernel_rfl) ?_
          refine wpAnyH_takeN 0 33 (mk 34 1) rfl (by kernel_rfl) rfl (.pointer (some ⟨wB.heap.size, 2, none⟩)) (fun _ _ _ h => h) (Or.inl ⟨rfl, fun w' hS => ?_⟩) hS0 (by simp only [Act.put, List.setIfInBounds_toArray, List.set_cons_succ, List.set_cons_zero]; rfl) ?_
          ·go_simp <;> with_reducible rfl
          refine wpAnyH_takeN 2 32 (mk 34 5) rfl (by kernel_rfl) rfl (.slice (some ⟨gu, ou, none⟩) 2 cu) (fun _ _ _ h => h) (Or.inl ⟨rfl, fun w' hS => ?_⟩) hS0 (by simp only [Act.put, List.setIfInBounds_toArray, List.set_cons_succ, List.set_cons_zero]; rfl) ?_
          ·go_simp <;> with_reducible rfl
          refine wpAnyH_takeN 3 31 (mk 34 13) rfl (by kernel_rfl) rfl (.pointer (some ⟨gu, ou, none⟩)) (fun _ _ _ h => h) (Or.inl ⟨rfl, fun w' hS => ?_⟩) hS0 (by simp only [Act.put, List.setIfInBounds_toArray, List.set_cons_succ, List.set_cons_zero]; rfl) ?_
          ·go_simp <;> with_reducible rfl
          refine wpAnyH_takeN 4 30 (mk 34 29) rfl (by kernel_rfl) rfl (.int .i64 p) (fun _ _ _ h => h) (Or.inl ⟨rfl, fun w' hS => ?_⟩) hS0 (by simp only [Act.put, List.setIfInBounds_toArray, List.set_cons_succ, List.set_cons_zero]; rfl) ?_
          ·have d0 := hS.2.1
           go_simp <;> with_reducible rfl
          refine wpAnyH_takeN 5 29 (mk 34 61) rfl (by kernel_rfl) rfl (.bool true) (fun _ _ _ h => h) (Or.inl ⟨rfl, fun w' hS => ?_⟩) hS0 (by simp only [Act.put, List.setIfInBounds_toArray, List.set_cons_succ, List.set_cons_zero]; rfl) ?_
          ·go_simp <;> with_reducible rfl
          refine wpAnyH_takeN 6 28 (mk 34 125) rfl (by kernel_rfl) rfl (.bool true) (fun _ _ _ h => h) (Or.inl ⟨rfl, fun w' hS => ?_⟩) hS0 (by simp only [Act.put, List.setIfInBounds_toArray, List.set_cons_succ, List.set_cons_zero]; rfl) ?_
          ·go_simp <;> with_reducible rfl
          refine wpAnyH_takeN 7 27 (mk 34 253) rfl (by kernel_rfl) rfl (.slice (some ⟨gu, ou, none⟩) 2 cu) (fun _ _ _ h => h) (Or.inl ⟨by go_simp, fun w' hS => ?_⟩) hS0 (by simp only [Act.put, List.setIfInBounds_toArray, List.set_cons_succ, List.set_cons_zero]; rfl) ?_
          ·go_simp <;> with_reducible rfl
          refine wpAnyH_takeN 8 26 (mk 34 509) rfl (by kernel_rfl) rfl (.pointer (some ⟨gu, ou + 1, none⟩)) (fun _ _ _ h => h) (Or.inl ⟨by go_simp, fun w' hS => ?_⟩) hS0 (by simp only [Act.put, List.setIfInBounds_toArray, List.set_cons_succ, List.set_cons_zero]; rfl) ?_
          ·go_simp <;> with_reducible rfl
          refine wpAnyH_takeN 9 25 (mk 34 1021) rfl (by kernel_rfl) rfl (.int .i64 q) (fun _ _ _ h => h) (Or.inl ⟨by go_simp, fun w' hS => ?_⟩) hS0 (by simp only [Act.put, List.setIfInBounds_toArray, List.set_cons_succ, List.set_cons_zero]; rfl) ?_
          ·have d0 := hS.2.2
           go_simp <;> with_reducible rfl
          refine wpAnyH_takeN 10 24 (mk 34 2045) rfl (by kernel_rfl) rfl (.bool true) (fun _ _ _ h => h) (Or.inl ⟨by go_simp, fun w' hS => ?_⟩) hS0 (by simp only [Act.put, List.setIfInBounds_toArray, List.set_cons_succ, List.set_cons_zero]; rfl) ?_
          ·go_simp <;> with_reducible rfl
          refine wpAnyH_takeN 11 23 (mk 34 4093) rfl (by kernel_rfl) rfl (.bool true) (fun _ _ _ h => h) (Or.inl ⟨rfl, fun w' hS => ?_⟩) hS0 (by simp only [Act.put, List.setIfInBounds_toArray, List.set_cons_succ, List.set_cons_zero]; rfl) ?_
          ·go_simp <;> with_reducible rfl
          refine wpAnyH_takeN 12 22 (mk 34 8189) rfl (by kernel_rfl) rfl (.bool true) (fun _ _ _ h => h) (Or.inl ⟨rfl, fun w' hS => ?_⟩) hS0 (by simp only [Act.put, List.setIfInBounds_toArray, List.set_cons_succ, List.set_cons_zero]; rfl) ?_
          ·go_simp <;> with_reducible rfl
          refine wpAnyH_takeN 13 21 (mk 34 16381) rfl (by kernel_rfl) rfl (.pointer (some ⟨w.heap.size, 2, none⟩)) (fun _ _ _ h => h) (Or.inl ⟨by go_simp, fun w' hS => ?_⟩) hS0 (by simp only [Act.put, List.setIfInBounds_toArray, List.set_cons_succ, List.set_cons_zero]; rfl) ?_
          ·go_simp <;> with_reducible rfl
          refine wpAnyH_takeN 14 20 (mk 34 32765) rfl (by kernel_rfl) rfl (.slice (some ⟨gF, oF, none⟩) n3 cF) (fun _ _ _ h => h) (Or.inl ⟨by go_simp, fun w' hS => ?_⟩) hS0 (by simp only [Act.put, List.setIfInBounds_toArray, List.set_cons_succ, List.set_cons_zero]; rfl) ?_
          ·have d0 : w'.cell? ⟨w.heap.size, 2, none⟩ = some (.slice (some ⟨gF, oF, none⟩) n3 cF) := (HBA.out.ext hS.1).cell (i := 2) rfl
           go_simp <;> with_reducible rfl
          refine wpAnyH_takeN 15 19 (mk 34 65533) rfl (by kernel_rfl) rfl (.slice (some ⟨gu, ou, none⟩) 2 cu) (fun _ _ _ h => h) (Or.inl ⟨by go_simp, fun w' hS => ?_⟩) hS0 (by simp only [Act.put, List.setIfInBounds_toArray, List.set_cons_succ, List.set_cons_zero]; rfl) ?_
          ·go_simp <;> with_reducible rfl
          refine wpAnyH_takeN 16 18 (mk 34 131069) rfl (by kernel_rfl) rfl (.pointer (some ⟨gu, ou, none⟩)) (fun _ _ _ h => h) (Or.inl ⟨by go_simp, fun w' hS => ?_⟩) hS0 (by simp only [Act.put, List.setIfInBounds_toArray, List.set_cons_succ, List.set_cons_zero]; rfl) ?_
          ·go_simp <;> with_reducible rfl
          refine wpAnyH_takeN 17 17 (mk 34 262141) rfl (by kernel_rfl) rfl (.int .i64 p) (fun _ _ _ h => h) (Or.inl ⟨by go_simp, fun w' hS => ?_⟩) hS0 (by simp only [Act.put, List.setIfInBounds_toArray, List.set_cons_succ, List.set_cons_zero]; rfl) ?_
          ·have d0 := hS.2.1
           go_simp <;> with_reducible rfl
          refine wpAnyH_takeN 18 16 (mk 34 524285) rfl (by kernel_rfl) rfl (.pointer (some ⟨gF, oF + p.toNat, none⟩)) (fun _ _ _ h => h) (Or.inl ⟨by go_simp, fun w' hS => ?_⟩) hS0 (by simp only [Act.put, List.setIfInBounds_toArray, List.set_cons_succ, List.set_cons_zero]; rfl) ?_
          ·go_simp <;> with_reducible rfl
          refine wpAnyH_takeN 19 15 (mk 34 1048573) rfl (by kernel_rfl) rfl (.bool false) (fun _ _ _ h => h) (Or.inl ⟨by go_simp, fun w' hS => ?_⟩) hS0 (by simp only [Act.put, List.setIfInBounds_toArray, List.set_cons_succ, List.set_cons_zero]; rfl) ?_
          ·have d0 := HFA.out w' hS.1
           go_simp <;> with_reducible rfl
          refine wpAnyH_takeN 20 14 (mk 34 2097149) rfl (by kernel_rfl) rfl (.bool false) (fun _ _ _ h => h) (Or.inl ⟨rfl, fun w' hS => ?_⟩) hS0 (by simp only [Act.put, List.setIfInBounds_toArray, List.set_cons_succ, List.set_cons_zero]; rfl) ?_
          ·go_simp <;> with_reducible rfl
          refine wpAnyH_takeN 21 13 (mk 34 4194301) rfl (by kernel_rfl) rfl (.bool false) (fun _ _ _ h => h) (Or.inl ⟨rfl, fun w' hS => ?_⟩) hS0 (by simp only [Act.put, List.setIfInBounds_toArray, List.set_cons_succ, List.set_cons_zero]; rfl) ?_
          ·go_simp <;> with_reducible rfl
          refine wpAnyH_takeN 22 12 (mk 34 8388605) rfl (by kernel_rfl) rfl undef (fun _ _ _ h => h) (Or.inr ⟨by go_simp, rfl⟩) hS0 (by simp only [Act.put, List.setIfInBounds_toArray, List.set_cons_succ, List.set_cons_zero]; rfl) ?_
          refine wpAnyH_takeN 23 11 (mk 34 16777213) rfl (by kernel_rfl) rfl undef (fun _ _ _ h => h) (Or.inr ⟨by go_simp, rfl⟩) hS0 (by simp only [Act.put, List.setIfInBounds_toArray, List.set_cons_succ, List.set_cons_zero]; rfl) ?_
          refine wpAnyH_takeN 24 10 (mk 34 33554429) rfl (by kernel_rfl) rfl undef (fun _ _ _ h => h) (Or.inr ⟨by go_simp, rfl⟩) hS0 (by simp only [Act.put, List.setIfInBounds_toArray, List.set_cons_succ, List.set_cons_zero]; rfl) ?_
          refine wpAnyH_takeN 25 9 (mk 34 67108861) rfl (by kernel_rfl) rfl undef (fun _ _ _ h => h) (Or.inr ⟨by go_simp, rfl⟩) hS0 (by simp only [Act.put, List.setIfInBounds_toArray, List.set_cons_succ, List.set_cons_zero]; rfl) ?_
          refine wpAnyH_takeN 26 8 (mk 34 134217725) rfl (by kernel_rfl) rfl undef (fun _ _ _ h => h) (Or.inr ⟨by go_simp, rfl⟩) hS0 (by simp only [Act.put, List.setIfInBounds_toArray, List.set_cons_succ, List.set_cons_zero]; rfl) ?_
          refine wpAnyH_takeN 27 7 (mk 34 268435453) rfl (by kernel_rfl) rfl undef (fun _ _ _ h => h) (Or.inr ⟨by go_simp, rfl⟩) hS0 (by simp only [Act.put, List.setIfInBounds_toArray, List.set_cons_succ, List.set_cons_zero]; rfl) ?_
          refine wpAnyH_takeN 28 6 (mk 34 536870909) rfl (by kernel_rfl) rfl undef (fun _ _ _ h => h) (Or.inr ⟨by go_simp, rfl⟩) hS0 (by simp only [Act.put, List.setIfInBounds_toArray, List.set_cons_succ, List.set_cons_zero]; rfl) ?_
          refine wpAnyH_takeN 29 5 (mk 34 1073741821) rfl (by kernel_rfl) rfl (.bool false) (fun _ _ _ h => h) (Or.inl ⟨rfl, fun w' hS => ?_⟩) hS0 (by simp only [Act.put, List.setIfInBounds_toArray, List.set_cons_succ, List.set_cons_zero]; rfl) ?_
          ·go_simp <;> with_reducible rfl
          refine wpAnyH_two 1 30 4 (mk 34 1073741823) (mk 34 2147483645) rfl rfl (by kernel_rfl) rfl ?_ ?_
          ·have e3 : wy.drew.cell? ⟨wB.heap.size, 2, none⟩ = some (.slice aoF' i cF') := HF6.out.box.cell (i := 2) rfl
           go_wp2_with fail
           refine ⟨hS0, ?_⟩
           refine wpAnyH_one 30 3 (mk 34 2147483647) rfl (by kernel_rfl) rfl ?_
           go_wp2_with fail
           have hS1 : Ext wB (wy.drew.alloc (.cells #[.bool false] 4)) ∧ (wy.drew.alloc (.cells #[.bool false] 4)).cell? ⟨gu, ou, none⟩ = some (.int .i64 p) ∧ (wy.drew.alloc (.cells #[.bool false] 4)).cell? ⟨gu, ou + 1, none⟩ = some (.int .i64 q) :=
            ⟨hS0.1.alloc hS0.1.size _, (HF6.out.ext' ((ext_drew1 wy).alloc (ext_drew1 wy).size (.cells #[.bool false] 4))).seen.pair HV2.out.2.2.2 HV2.out.2.2.1⟩
           refine ⟨hS1, ?_⟩
           refine wpAnyH_one 31 2 (mk 34 4294967295) rfl (by kernel_rfl) rfl ?_
           have HFO : Hid (OwnR wy.drew wB.heap.size 4 1 boolC (.slice aoF' i cF') fs) := hid (HF6.out.fins.ext (ext_drew1 wy))
           have hszf : wB.heap.size ≤ wy.drew.heap.size := HF6.out.ext.size
           go_wp2_with (with_reducible refine onOp 121 ?_
                        go_loud (refine wpList_append_R elem_bool (fun _ => rfl) ones_bool HFO hszf hlnf false _ rfl wy.heap.size rfl rfl _ _ rfl rfl rfl ?_)
                        rintro g7 c7 v7 w7 rfl G3 G4)
           have c7' := (Chg.refl (fun k => (Value.slice aoF' i cF').ownBlock = some k) wy.drew).grown G4.out.1 (fun k e => e)
           have HP7 := hid ((HF6.out.ext' (ext_drew1 wy)).row2 G3.out c7')
           have hS7 : Ext wB w7 ∧ w7.cell? ⟨gu, ou, none⟩ = some (.int .i64 p) ∧ w7.cell? ⟨gu, ou + 1, none⟩ = some (.int .i64 q) := ⟨HP7.out.1.1, ((HF6.out.ext' (ext_drew1 wy)).seenF c7').pair HV2.out.2.2.2 HV2.out.2.2.1⟩
           refine ⟨hS7, ?_⟩
           have e7 : w7.cell? ⟨wB.heap.size, 2, none⟩ = some (.slice aoF' i cF') := HP7.out.1.2.cell (i := 2) rfl
           have l7 := HP7.out.1.2.lt
           have f7 := HP7.out.1.2.frozen
           refine wpAnyH_one 32 1 (mk 34 8589934591) rfl (by kernel_rfl) rfl ?_
           go_wp2_with fail
           refine ⟨hS7, ?_⟩
           refine wpAnyH_one 33 0 (mk 34 17179869183) rfl (by kernel_rfl) rfl ?_
           go_wp2_with fail
           refine ⟨⟨HP7.out.2.ext, HP7.out.2.seen.pair HV2.out.2.2.2 HV2.out.2.2.1⟩, ?_⟩
           refine wpAnyH_end (P := Tryz.prog) (by kernel_rfl) ?_
           go_wp2_with fail
           go_roundg (257 - (i + 1))
           case measure => omega
           case rel => exact HEND.out false _ _ (by unfold finB; rw [show finS A p = false from HFAV.out]; rfl) (hid HP7.out.2)
          ·go_wp2_with fail
           have hS1 : Ext wB (wy.drew.alloc (.cells #[.bool false] 4)) ∧ (wy.drew.alloc (.cells #[.bool false] 4)).cell? ⟨gu, ou, none⟩ = some (.int .i64 p) ∧ (wy.drew.alloc (.cells #[.bool false] 4)).cell? ⟨gu, ou + 1, none⟩ = some (.int .i64 q) :=
            ⟨hS0.1.alloc hS0.1.size _, (HF6.out.ext' ((ext_drew1 wy).alloc (ext_drew1 wy).size (.cells #[.bool false] 4))).seen.pair HV2.out.2.2.2 HV2.out.2.2.1⟩
           refine ⟨hS1, ?_⟩
           refine wpAnyH_one 1 3 (mk 34 2147483647) rfl (by kernel_rfl) rfl ?_
           have e3 : (wy.alloc (.cells #[.bool false] 4)).drew.cell? ⟨wB.heap.size, 2, none⟩ = some (.slice aoF' i cF') := ((HF6.out.box.alloc _).drew).cell (i := 2) rfl
           go_wp2_with fail
           refine ⟨hS1, ?_⟩
           refine wpAnyH_one 31 2 (mk 34 4294967295) rfl (by kernel_rfl) rfl ?_
           have HFO : Hid (OwnR wy.drew wB.heap.size 4 1 boolC (.slice aoF' i cF') fs) := hid (HF6.out.fins.ext (ext_drew1 wy))
           have hszf : wB.heap.size ≤ wy.drew.heap.size := HF6.out.ext.size
           go_wp2_with (with_reducible refine onOp 121 ?_
                        go_loud (refine wpList_append_R elem_bool (fun _ => rfl) ones_bool HFO hszf hlnf false _ rfl wy.heap.size rfl rfl _ _ rfl rfl rfl ?_)
                        rintro g7 c7 v7 w7 rfl G3 G4)
           have c7' := (Chg.refl (fun k => (Value.slice aoF' i cF').ownBlock = some k) wy.drew).grown G4.out.1 (fun k e => e)
           have HP7 := hid ((HF6.out.ext' (ext_drew1 wy)).row2 G3.out c7')
           have hS7 : Ext wB w7 ∧ w7.cell? ⟨gu, ou, none⟩ = some (.int .i64 p) ∧ w7.cell? ⟨gu, ou + 1, none⟩ = some (.int .i64 q) := ⟨HP7.out.1.1, ((HF6.out.ext' (ext_drew1 wy)).seenF c7').pair HV2.out.2.2.2 HV2.out.2.2.1⟩
           refine ⟨hS7, ?_⟩
           have e7 : w7.cell? ⟨wB.heap.size, 2, none⟩ = some (.slice aoF' i cF') := HP7.out.1.2.cell (i := 2) rfl
           have l7 := HP7.out.1.2.lt
           have f7 := HP7.out.1.2.frozen
           refine wpAnyH_one 32 1 (mk 34 8589934591) rfl (by kernel_rfl) rfl ?_
           go_wp2_with fail
           refine ⟨hS7, ?_⟩
           refine wpAnyH_one 33 0 (mk 34 17179869183) rfl (by kernel_rfl) rfl ?_
           go_wp2_with fail
           refine ⟨⟨HP7.out.2.ext, HP7.out.2.seen.pair HV2.out.2.2.2 HV2.out.2.2.1⟩, ?_⟩
           refine wpAnyH_end (P := Tryz.prog) (by kernel_rfl) ?_
           go_wp2_with fail
           go_roundg (257 - (i + 1))
           case measure => omega
           case rel => exact HEND.out false _ _ (by unfold finB; rw [show finS A p = false from HFAV.out]; rfl) (hid HP7.out.2)
         ·refine wp_region_heldL (fun w' => Ext wB w' ∧ w'.cell? ⟨gu, ou, none⟩ = some (.int .i64 p) ∧ w'.cell? ⟨gu, ou + 1, none⟩ = some (.int .i64 q)) (by kernel_rfl) ?_
          refine wpAnyH_takeN 0 33 (mk 34 1) rfl (by kernel_rfl) rfl (.pointer (some ⟨wB.heap.size, 2, none⟩)) (fun _ _ _ h => h) (Or.inl ⟨rfl, fun w' hS => ?_⟩) hS0 (by simp only [Act.put, List.setIfInBounds_toArray, List.set_cons_succ, List.set_cons_zero]; rfl) ?_
          ·go_simp <;> with_reducible rfl
          refine wpAnyH_takeN 2 32 (mk 34 5) rfl (by kernel_rfl) rfl (.slice (some ⟨gu, ou, none⟩) 2 cu) (fun _ _ _ h => h) (Or.inl ⟨rfl, fun w' hS => ?_⟩) hS0 (by simp only [Act.put, List.setIfInBounds_toArray, List.set_cons_succ, List.set_cons_zero]; rfl) ?_
          ·go_simp <;> with_reducible rfl
          refine wpAnyH_takeN 3 31 (mk 34 13) rfl (by kernel_rfl) rfl (.pointer (some ⟨gu, ou, none⟩)) (fun _ _ _ h => h) (Or.inl ⟨rfl, fun w' hS => ?_⟩) hS0 (by simp only [Act.put, List.setIfInBounds_toArray, List.set_cons_succ, List.set_cons_zero]; rfl) ?_
          ·go_simp <;> with_reducible rfl
          refine wpAnyH_takeN 4 30 (mk 34 29) rfl (by kernel_rfl) rfl (.int .i64 p) (fun _ _ _ h => h) (Or.inl ⟨rfl, fun w' hS => ?_⟩) hS0 (by simp only [Act.put, List.setIfInBounds_toArray, List.set_cons_succ, List.set_cons_zero]; rfl) ?_
          ·have d0 := hS.2.1
           go_simp <;> with_reducible rfl
          refine wpAnyH_takeN 5 29 (mk 34 61) rfl (by kernel_rfl) rfl (.bool true) (fun _ _ _ h => h) (Or.inl ⟨rfl, fun w' hS => ?_⟩) hS0 (by simp only [Act.put, List.setIfInBounds_toArray, List.set_cons_succ, List.set_cons_zero]; rfl) ?_
          ·go_simp <;> with_reducible rfl
          refine wpAnyH_takeN 6 28 (mk 34 125) rfl (by kernel_rfl) rfl (.bool true) (fun _ _ _ h => h) (Or.inl ⟨rfl, fun w' hS => ?_⟩) hS0 (by simp only [Act.put, List.setIfInBounds_toArray, List.set_cons_succ, List.set_cons_zero]; rfl) ?_
          ·go_simp <;> with_reducible rfl
          refine wpAnyH_takeN 7 27 (mk 34 253) rfl (by kernel_rfl) rfl (.slice (some ⟨gu, ou, none⟩) 2 cu) (fun _ _ _ h => h) (Or.inl ⟨by go_simp, fun w' hS => ?_⟩) hS0 (by simp only [Act.put, List.setIfInBounds_toArray, List.set_cons_succ, List.set_cons_zero]; rfl) ?_
          ·go_simp <;> with_reducible rfl
          refine wpAnyH_takeN 8 26 (mk 34 509) rfl (by kernel_rfl) rfl (.pointer (some ⟨gu, ou + 1, none⟩)) (fun _ _ _ h => h) (Or.inl ⟨by go_simp, fun w' hS => ?_⟩) hS0 (by simp only [Act.put, List.setIfInBounds_toArray, List.set_cons_succ, List.set_cons_zero]; rfl) ?_
          ·go_simp <;> with_reducible rfl
          refine wpAnyH_takeN 9 25 (mk 34 1021) rfl (by kernel_rfl) rfl (.int .i64 q) (fun _ _ _ h => h) (Or.inl ⟨by go_simp, fun w' hS => ?_⟩) hS0 (by simp only [Act.put, List.setIfInBounds_toArray, List.set_cons_succ, List.set_cons_zero]; rfl) ?_
          ·have d0 := hS.2.2
           go_simp <;> with_reducible rfl
          refine wpAnyH_takeN 10 24 (mk 34 2045) rfl (by kernel_rfl) rfl (.bool true) (fun _ _ _ h => h) (Or.inl ⟨by go_simp, fun w' hS => ?_⟩) hS0 (by simp only [Act.put, List.setIfInBounds_toArray, List.set_cons_succ, List.set_cons_zero]; rfl) ?_
          ·go_simp <;> with_reducible rfl
          refine wpAnyH_takeN 11 23 (mk 34 4093) rfl (by kernel_rfl) rfl (.bool true) (fun _ _ _ h => h) (Or.inl ⟨rfl, fun w' hS => ?_⟩) hS0 (by simp only [Act.put, List.setIfInBounds_toArray, List.set_cons_succ, List.set_cons_zero]; rfl) ?_
          ·go_simp <;> with_reducible rfl
          refine wpAnyH_takeN 12 22 (mk 34 8189) rfl (by kernel_rfl) rfl (.bool true) (fun _ _ _ h => h) (Or.inl ⟨rfl, fun w' hS => ?_⟩) hS0 (by simp only [Act.put, List.setIfInBounds_toArray, List.set_cons_succ, List.set_cons_zero]; rfl) ?_
          ·go_simp <;> with_reducible rfl
          refine wpAnyH_takeN 13 21 (mk 34 16381) rfl (by kernel_rfl) rfl (.pointer (some ⟨w.heap.size, 2, none⟩)) (fun _ _ _ h => h) (Or.inl ⟨by go_simp, fun w' hS => ?_⟩) hS0 (by simp only [Act.put, List.setIfInBounds_toArray, List.set_cons_succ, List.set_cons_zero]; rfl) ?_
          ·go_simp <;> with_reducible rfl
          refine wpAnyH_takeN 14 20 (mk 34 32765) rfl (by kernel_rfl) rfl (.slice (some ⟨gF, oF, none⟩) n3 cF) (fun _ _ _ h => h) (Or.inl ⟨by go_simp, fun w' hS => ?_⟩) hS0 (by simp only [Act.put, List.setIfInBounds_toArray, List.set_cons_succ, List.set_cons_zero]; rfl) ?_
          ·have d0 : w'.cell? ⟨w.heap.size, 2, none⟩ = some (.slice (some ⟨gF, oF, none⟩) n3 cF) := (HBA.out.ext hS.1).cell (i := 2) rfl
           go_simp <;> with_reducible rfl
          refine wpAnyH_takeN 15 19 (mk 34 65533) rfl (by kernel_rfl) rfl (.slice (some ⟨gu, ou, none⟩) 2 cu) (fun _ _ _ h => h) (Or.inl ⟨by go_simp, fun w' hS => ?_⟩) hS0 (by simp only [Act.put, List.setIfInBounds_toArray, List.set_cons_succ, List.set_cons_zero]; rfl) ?_
          ·go_simp <;> with_reducible rfl
          refine wpAnyH_takeN 16 18 (mk 34 131069) rfl (by kernel_rfl) rfl (.pointer (some ⟨gu, ou, none⟩)) (fun _ _ _ h => h) (Or.inl ⟨by go_simp, fun w' hS => ?_⟩) hS0 (by simp only [Act.put, List.setIfInBounds_toArray, List.set_cons_succ, List.set_cons_zero]; rfl) ?_
          ·go_simp <;> with_reducible rfl
          refine wpAnyH_takeN 17 17 (mk 34 262141) rfl (by kernel_rfl) rfl (.int .i64 p) (fun _ _ _ h => h) (Or.inl ⟨by go_simp, fun w' hS => ?_⟩) hS0 (by simp only [Act.put, List.setIfInBounds_toArray, List.set_cons_succ, List.set_cons_zero]; rfl) ?_
          ·have d0 := hS.2.1
           go_simp <;> with_reducible rfl
          refine wpAnyH_takeN 18 16 (mk 34 524285) rfl (by kernel_rfl) rfl (.pointer (some ⟨gF, oF + p.toNat, none⟩)) (fun _ _ _ h => h) (Or.inl ⟨by go_simp, fun w' hS => ?_⟩) hS0 (by simp only [Act.put, List.setIfInBounds_toArray, List.set_cons_succ, List.set_cons_zero]; rfl) ?_
          ·go_simp <;> with_reducible rfl
          refine wpAnyH_takeN 19 15 (mk 34 1048573) rfl (by kernel_rfl) rfl (.bool true) (fun _ _ _ h => h) (Or.inl ⟨by go_simp, fun w' hS => ?_⟩) hS0 (by simp only [Act.put, List.setIfInBounds_toArray, List.set_cons_succ, List.set_cons_zero]; rfl) ?_
          ·have d0 := HFA.out w' hS.1
           go_simp <;> with_reducible rfl
          refine wpAnyH_takeN 20 14 (mk 34 2097149) rfl (by kernel_rfl) rfl (.bool true) (fun _ _ _ h => h) (Or.inl ⟨rfl, fun w' hS => ?_⟩) hS0 (by simp only [Act.put, List.setIfInBounds_toArray, List.set_cons_succ, List.set_cons_zero]; rfl) ?_
          ·go_simp <;> with_reducible rfl
          refine wpAnyH_takeN 21 13 (mk 34 4194301) rfl (by kernel_rfl) rfl (.bool true) (fun _ _ _ h => h) (Or.inl ⟨rfl, fun w' hS => ?_⟩) hS0 (by simp only [Act.put, List.setIfInBounds_toArray, List.set_cons_succ, List.set_cons_zero]; rfl) ?_
          ·go_simp <;> with_reducible rfl
          refine wpAnyH_takeN 22 12 (mk 34 8388605) rfl (by kernel_rfl) rfl (.pointer (some ⟨w.heap.size + 1, 2, none⟩)) (fun _ _ _ h => h) (Or.inl ⟨by go_simp, fun w' hS => ?_⟩) hS0 (by simp only [Act.put, List.setIfInBounds_toArray, List.set_cons_succ, List.set_cons_zero]; rfl) ?_
          ·go_simp <;> with_reducible rfl
          refine wpAnyH_takeN 23 11 (mk 34 16777213) rfl (by kernel_rfl) rfl (.slice (some ⟨gF2, oF2, none⟩) m3 cF2) (fun _ _ _ h => h) (Or.inl ⟨by go_simp, fun w' hS => ?_⟩) hS0 (by simp only [Act.put, List.setIfInBounds_toArray, List.set_cons_succ, List.set_cons_zero]; rfl) ?_
          ·have d0 : w'.cell? ⟨w.heap.size + 1, 2, none⟩ = some (.slice (some ⟨gF2, oF2, none⟩) m3 cF2) := (HBB.out.ext hS.1).cell (i := 2) rfl
           go_simp <;> with_reducible rfl
          refine wpAnyH_takeN 24 10 (mk 34 33554429) rfl (by kernel_rfl) rfl (.slice (some ⟨gu, ou, none⟩) 2 cu) (fun _ _ _ h => h) (Or.inl ⟨by go_simp, fun w' hS => ?_⟩) hS0 (by simp only [Act.put, List.setIfInBounds_toArray, List.set_cons_succ, List.set_cons_zero]; rfl) ?_
          ·go_simp <;> with_reducible rfl
          refine wpAnyH_takeN 25 9 (mk 34 67108861) rfl (by kernel_rfl) rfl (.pointer (some ⟨gu, ou + 1, none⟩)) (fun _ _ _ h => h) (Or.inl ⟨by go_simp, fun w' hS => ?_⟩) hS0 (by simp only [Act.put, List.setIfInBounds_toArray, List.set_cons_succ, List.set_cons_zero]; rfl) ?_
          ·go_simp <;> with_reducible rfl
          refine wpAnyH_takeN 26 8 (mk 34 134217725) rfl (by kernel_rfl) rfl (.int .i64 q) (fun _ _ _ h => h) (Or.inl ⟨by go_simp, fun w' hS => ?_⟩) hS0 (by simp only [Act.put, List.setIfInBounds_toArray, List.set_cons_succ, List.set_cons_zero]; rfl) ?_
          ·have d0 := hS.2.2
           go_simp <;> with_reducible rfl
          refine wpAnyH_takeN 27 7 (mk 34 268435453) rfl (by kernel_rfl) rfl (.pointer (some ⟨gF2, oF2 + q.toNat, none⟩)) (fun _ _ _ h => h) (Or.inl ⟨by go_simp, fun w' hS => ?_⟩) hS0 (by simp only [Act.put, List.setIfInBounds_toArray, List.set_cons_succ, List.set_cons_zero]; rfl) ?_
          ·go_simp <;> with_reducible rfl
          refine wpAnyH_takeN 28 6 (mk 34 536870909) rfl (by kernel_rfl) rfl (.bool fb) (fun _ _ _ h => h) (Or.inl ⟨by go_simp, fun w' hS => ?_⟩) hS0 (by simp only [Act.put, List.setIfInBounds_toArray, List.set_cons_succ, List.set_cons_zero]; rfl) ?_
          ·have d0 := HFB.out w' hS.1
           go_simp <;> with_reducible rfl
          refine wpAnyH_takeN 29 5 (mk 34 1073741821) rfl (by kernel_rfl) rfl (.bool fb) (fun _ _ _ h => h) (Or.inl ⟨rfl, fun w' hS => ?_⟩) hS0 (by simp only [Act.put, List.setIfInBounds_toArray, List.set_cons_succ, List.set_cons_zero]; rfl) ?_
          ·go_simp <;> with_reducible rfl
          refine wpAnyH_two 1 30 4 (mk 34 1073741823) (mk 34 2147483645) rfl rfl (by kernel_rfl) rfl ?_ ?_
          ·have e3 : wy.drew.cell? ⟨wB.heap.size, 2, none⟩ = some (.slice aoF' i cF') := HF6.out.box.cell (i := 2) rfl
           go_wp2_with fail
           refine ⟨hS0, ?_⟩
           refine wpAnyH_one 30 3 (mk 34 2147483647) rfl (by kernel_rfl) rfl ?_
           go_wp2_with fail
           have hS1 : Ext wB (wy.drew.alloc (.cells #[.bool fb] 4)) ∧ (wy.drew.alloc (.cells #[.bool fb] 4)).cell? ⟨gu, ou, none⟩ = some (.int .i64 p) ∧ (wy.drew.alloc (.cells #[.bool fb] 4)).cell? ⟨gu, ou + 1, none⟩ = some (.int .i64 q) :=
            ⟨hS0.1.alloc hS0.1.size _, (HF6.out.ext' ((ext_drew1 wy).alloc (ext_drew1 wy).size (.cells #[.bool fb] 4))).seen.pair HV2.out.2.2.2 HV2.out.2.2.1⟩
           refine ⟨hS1, ?_⟩
           refine wpAnyH_one 31 2 (mk 34 4294967295) rfl (by kernel_rfl) rfl ?_
           have HFO : Hid (OwnR wy.drew wB.heap.size 4 1 boolC (.slice aoF' i cF') fs) := hid (HF6.out.fins.ext (ext_drew1 wy))
           have hszf : wB.heap.size ≤ wy.drew.heap.size := HF6.out.ext.size
           go_wp2_with (with_reducible refine onOp 121 ?_
                        go_loud (refine wpList_append_R elem_bool (fun _ => rfl) ones_bool HFO hszf hlnf fb _ rfl wy.heap.size rfl rfl _ _ rfl rfl rfl ?_)
                        rintro g7 c7 v7 w7 rfl G3 G4)
           have c7' := (Chg.refl (fun k => (Value.slice aoF' i cF').ownBlock = some k) wy.drew).grown G4.out.1 (fun k e => e)
           have HP7 := hid ((HF6.out.ext' (ext_drew1 wy)).row2 G3.out c7')
           have hS7 : Ext wB w7 ∧ w7.cell? ⟨gu, ou, none⟩ = some (.int .i64 p) ∧ w7.cell? ⟨gu, ou + 1, none⟩ = some (.int .i64 q) := ⟨HP7.out.1.1, ((HF6.out.ext' (ext_drew1 wy)).seenF c7').pair HV2.out.2.2.2 HV2.out.2.2.1⟩
           refine ⟨hS7, ?_⟩
           have e7 : w7.cell? ⟨wB.heap.size, 2, none⟩ = some (.slice aoF' i cF') := HP7.out.1.2.cell (i := 2) rfl
           have l7 := HP7.out.1.2.lt
           have f7 := HP7.out.1.2.frozen
           refine wpAnyH_one 32 1 (mk 34 8589934591) rfl (by kernel_rfl) rfl ?_
           go_wp2_with fail
           refine ⟨hS7, ?_⟩
           refine wpAnyH_one 33 0 (mk 34 17179869183) rfl (by kernel_rfl) rfl ?_
           go_wp2_with fail
           refine ⟨⟨HP7.out.2.ext, HP7.out.2.seen.pair HV2.out.2.2.2 HV2.out.2.2.1⟩, ?_⟩
           refine wpAnyH_end (P := Tryz.prog) (by kernel_rfl) ?_
           go_wp2_with fail
           go_roundg (257 - (i + 1))
           case measure => omega
           case rel => exact HEND.out fb _ _ (by unfold finB; rw [show finS A p = true from HFAV.out, show finS B q = fb from HFBV.out]; rfl) (hid HP7.out.2)
          ·go_wp2_with fail
           have hS1 : Ext wB (wy.drew.alloc (.cells #[.bool fb] 4)) ∧ (wy.drew.alloc (.cells #[.bool fb] 4)).cell? ⟨gu, ou, none⟩ = some (.int .i64 p) ∧ (wy.drew.alloc (.cells #[.bool fb] 4)).cell? ⟨gu, ou + 1, none⟩ = some (.int .i64 q) :=
            ⟨hS0.1.alloc hS0.1.size _, (HF6.out.ext' ((ext_drew1 wy).alloc (ext_drew1 wy).size (.cells #[.bool fb] 4))).seen.pair HV2.out.2.2.2 HV2.out.2.2.1⟩
           refine ⟨hS1, ?_⟩
           refine wpAnyH_one 1 3 (mk 34 2147483647) rfl (by kernel_rfl) rfl ?_
           have e3 : (wy.alloc (.cells #[.bool fb] 4)).drew.cell? ⟨wB.heap.size, 2, none⟩ = some (.slice aoF' i cF') := ((HF6.out.box.alloc _).drew).cell (i := 2) rfl
           go_wp2_with fail
           refine ⟨hS1, ?_⟩
           refine wpAnyH_one 31 2 (mk 34 4294967295) rfl (by kernel_rfl) rfl ?_
           have HFO : Hid (OwnR wy.drew wB.heap.size 4 1 boolC (.slice aoF' i cF') fs) := hid (HF6.out.fins.ext (ext_drew1 wy))
           have hszf : wB.heap.size ≤ wy.drew.heap.size := HF6.out.ext.size
           go_wp2_with (with_reducible refine onOp 121 ?_
                        go_loud (refine wpList_append_R elem_bool (fun _ => rfl) ones_bool HFO hszf hlnf fb _ rfl wy.heap.size rfl rfl _ _ rfl rfl rfl ?_)
                        rintro g7 c7 v7 w7 rfl G3 G4)
           have c7' := (Chg.refl (fun k => (Value.slice aoF' i cF').ownBlock = some k) wy.drew).grown G4.out.1 (fun k e => e)
           have HP7 := hid ((HF6.out.ext' (ext_drew1 wy)).row2 G3.out c7')
           have hS7 : Ext wB w7 ∧ w7.cell? ⟨gu, ou, none⟩ = some (.int .i64 p) ∧ w7.cell? ⟨gu, ou + 1, none⟩ = some (.int .i64 q) := ⟨HP7.out.1.1, ((HF6.out.ext' (ext_drew1 wy)).seenF c7').pair HV2.out.2.2.2 HV2.out.2.2.1⟩
           refine ⟨hS7, ?_⟩
           have e7 : w7.cell? ⟨wB.heap.size, 2, none⟩ = some (.slice aoF' i cF') := HP7.out.1.2.cell (i := 2) rfl
           have l7 := HP7.out.1.2.lt
           have f7 := HP7.out.1.2.frozen
           refine wpAnyH_one 32 1 (mk 34 8589934591) rfl (by kernel_rfl) rfl ?_
           go_wp2_with fail
           refine ⟨hS7, ?_⟩
           refine wpAnyH_one 33 0 (mk 34 17179869183) rfl (by kernel_rfl) rfl ?_
           go_wp2_with fail
           refine ⟨⟨HP7.out.2.ext, HP7.out.2.seen.pair HV2.out.2.2.2 HV2.out.2.2.1⟩, ?_⟩
           refine wpAnyH_end (P := Tryz.prog) (by kernel_rfl) ?_
           go_wp2_with fail
           go_roundg (257 - (i + 1))
           case measure => omega
           case rel => exact HEND.out fb _ _ (by unfold finB; rw [show finS A p = true from HFAV.out, show finS B q = fb from HFBV.out]; rfl) (hid HP7.out.2)
        ·have t1 : decide ((0 : Int) ≤ q) = false := decide_eq_false h1
         refine wp_region_heldL (fun w' => Ext wB w' ∧ w'.cell? ⟨gu, ou, none⟩ = some (.int .i64 p) ∧ w'.cell? ⟨gu, ou + 1, none⟩ = some (.int .i64 q)) (by kernel_rfl) ?_
         refine wpAnyH_takeN 0 33 (mk 34 1) rfl (by kernel_rfl) rfl (.pointer (some ⟨wB.heap.size, 2, none⟩)) (fun _ _ _ h => h) (Or.inl ⟨rfl, fun w' hS => ?_⟩) hS0 (by simp only [Act.put, List.setIfInBounds_toArray, List.set_cons_succ, List.set_cons_zero]; rfl) ?_
         ·go_simp <;> with_reducible rfl
         refine wpAnyH_takeN 2 32 (mk 34 5) rfl (by kernel_rfl) rfl (.slice (some ⟨gu, ou, none⟩) 2 cu) (fun _ _ _ h => h) (Or.inl ⟨rfl, fun w' hS => ?_⟩) hS0 (by simp only [Act.put, List.setIfInBounds_toArray, List.set_cons_succ, List.set_cons_zero]; rfl) ?_
         ·go_simp <;> with_reducible rfl
         refine wpAnyH_takeN 3 31 (mk 34 13) rfl (by kernel_rfl) rfl (.pointer (some ⟨gu, ou, none⟩)) (fun _ _ _ h => h) (Or.inl ⟨rfl, fun w' hS => ?_⟩) hS0 (by simp only [Act.put, List.setIfInBounds_toArray, List.set_cons_succ, List.set_cons_zero]; rfl) ?_
         ·go_simp <;> with_reducible rfl
         refine wpAnyH_takeN 4 30 (mk 34 29) rfl (by kernel_rfl) rfl (.int .i64 p) (fun _ _ _ h => h) (Or.inl ⟨rfl, fun w' hS => ?_⟩) hS0 (by simp only [Act.put, List.setIfInBounds_toArray, List.set_cons_succ, List.set_cons_zero]; rfl) ?_
         ·have d0 := hS.2.1
          go_simp <;> with_reducible rfl
         refine wpAnyH_takeN 5 29 (mk 34 61) rfl (by kernel_rfl) rfl (.bool true) (fun _ _ _ h => h) (Or.inl ⟨rfl, fun w' hS => ?_⟩) hS0 (by simp only [Act.put, List.setIfInBounds_toArray, List.set_cons_succ, List.set_cons_zero]; rfl) ?_
         ·go_simp <;> with_reducible rfl
         refine wpAnyH_takeN 6 28 (mk 34 125) rfl (by kernel_rfl) rfl (.bool true) (fun _ _ _ h => h) (Or.inl ⟨rfl, fun w' hS => ?_⟩) hS0 (by simp only [Act.put, List.setIfInBounds_toArray, List.set_cons_succ, List.set_cons_zero]; rfl) ?_
         ·go_simp <;> with_reducible rfl
         refine wpAnyH_takeN 7 27 (mk 34 253) rfl (by kernel_rfl) rfl (.slice (some ⟨gu, ou, none⟩) 2 cu) (fun _ _ _ h => h) (Or.inl ⟨by go_simp, fun w' hS => ?_⟩) hS0 (by simp only [Act.put, List.setIfInBounds_toArray, List.set_cons_succ, List.set_cons_zero]; rfl) ?_
         ·go_simp <;> with_reducible rfl
         refine wpAnyH_takeN 8 26 (mk 34 509) rfl (by kernel_rfl) rfl (.pointer (some ⟨gu, ou + 1, none⟩)) (fun _ _ _ h => h) (Or.inl ⟨by go_simp, fun w' hS => ?_⟩) hS0 (by simp only [Act.put, List.setIfInBounds_toArray, List.set_cons_succ, List.set_cons_zero]; rfl) ?_
         ·go_simp <;> with_reducible rfl
         refine wpAnyH_takeN 9 25 (mk 34 1021) rfl (by kernel_rfl) rfl (.int .i64 q) (fun _ _ _ h => h) (Or.inl ⟨by go_simp, fun w' hS => ?_⟩) hS0 (by simp only [Act.put, List.setIfInBounds_toArray, List.set_cons_succ, List.set_cons_zero]; rfl) ?_
         ·have d0 := hS.2.2
          go_simp <;> with_reducible rfl
         refine wpAnyH_takeN 10 24 (mk 34 2045) rfl (by kernel_rfl) rfl (.bool false) (fun _ _ _ h => h) (Or.inl ⟨by go_simp, fun w' hS => ?_⟩) hS0 (by simp only [Act.put, List.setIfInBounds_toArray, List.set_cons_succ, List.set_cons_zero]; rfl) ?_
         ·go_simp <;> with_reducible rfl
         refine wpAnyH_takeN 11 23 (mk 34 4093) rfl (by kernel_rfl) rfl (.bool false) (fun _ _ _ h => h) (Or.inl ⟨rfl, fun w' hS => ?_⟩) hS0 (by simp only [Act.put, List.setIfInBounds_toArray, List.set_cons_succ, List.set_cons_zero]; rfl) ?_
         ·go_simp <;> with_reducible rfl
         refine wpAnyH_takeN 12 22 (mk 34 8189) rfl (by kernel_rfl) rfl (.bool false) (fun _ _ _ h => h) (Or.inl ⟨rfl, fun w' hS => ?_⟩) hS0 (by simp only [Act.put, List.setIfInBounds_toArray, List.set_cons_succ, List.set_cons_zero]; rfl) ?_
         ·go_simp <;> with_reducible rfl
         refine wpAnyH_takeN 13 21 (mk 34 16381) rfl (by kernel_rfl) rfl undef (fun _ _ _ h => h) (Or.inr ⟨by go_simp, rfl⟩) hS0 (by simp only [Act.put, List.setIfInBounds_toArray, List.set_cons_succ, List.set_cons_zero]; rfl) ?_
         refine wpAnyH_takeN 14 20 (mk 34 32765) rfl (by kernel_rfl) rfl undef (fun _ _ _ h => h) (Or.inr ⟨by go_simp, rfl⟩) hS0 (by simp only [Act.put, List.setIfInBounds_toArray, List.set_cons_succ, List.set_cons_zero]; rfl) ?_
         refine wpAnyH_takeN 15 19 (mk 34 65533) rfl (by kernel_rfl) rfl undef (fun _ _ _ h => h) (Or.inr ⟨by go_simp, rfl⟩) hS0 (by simp only [Act.put, List.setIfInBounds_toArray, List.set_cons_succ, List.set_cons_zero]; rfl) ?_
         refine wpAnyH_takeN 16 18 (mk 34 131069) rfl (by kernel_rfl) rfl undef (fun _ _ _ h => h) (Or.inr ⟨by go_simp, rfl⟩) hS0 (by simp only [Act.put, List.setIfInBounds_toArray, List.set_cons_succ, List.set_cons_zero]; rfl) ?_
         refine wpAnyH_takeN 17 17 (mk 34 262141) rfl (by kernel_rfl) rfl undef (fun _ _ _ h => h) (Or.inr ⟨by go_simp, rfl⟩) hS0 (by simp only [Act.put, List.setIfInBounds_toArray, List.set_cons_succ, List.set_cons_zero]; rfl) ?_
         refine wpAnyH_takeN 18 16 (mk 34 524285) rfl (by kernel_rfl) rfl undef (fun _ _ _ h => h) (Or.inr ⟨by go_simp, rfl⟩) hS0 (by simp only [Act.put, List.setIfInBounds_toArray, List.set_cons_succ, List.set_cons_zero]; rfl) ?_
         refine wpAnyH_takeN 19 15 (mk 34 1048573) rfl (by kernel_rfl) rfl undef (fun _ _ _ h => h) (Or.inr ⟨by go_simp, rfl⟩) hS0 (by simp only [Act.put, List.setIfInBounds_toArray, List.set_cons_succ, List.set_cons_zero]; rfl) ?_
         refine wpAnyH_takeN 20 14 (mk 34 2097149) rfl (by kernel_rfl) rfl (.bool false) (fun _ _ _ h => h) (Or.inl ⟨rfl, fun w' hS => ?_⟩) hS0 (by simp only [Act.put, List.setIfInBounds_toArray, List.set_cons_succ, List.set_cons_zero]; rfl) ?_
         ·go_simp <;> with_reducible rfl
         refine wpAnyH_takeN 21 13 (mk 34 4194301) rfl (by kernel_rfl) rfl (.bool false) (fun _ _ _ h => h) (Or.inl ⟨rfl, fun w' hS => ?_⟩) hS0 (by simp only [Act.put, List.setIfInBounds_toArray, List.set_cons_succ, List.set_cons_zero]; rfl) ?_
         ·go_simp <;> with_reducible rfl
         refine wpAnyH_takeN 22 12 (mk 34 8388605) rfl (by kernel_rfl) rfl undef (fun _ _ _ h => h) (Or.inr ⟨by go_simp, rfl⟩) hS0 (by simp only [Act.put, List.setIfInBounds_toArray, List.set_cons_succ, List.set_cons_zero]; rfl) ?_
         refine wpAnyH_takeN 23 11 (mk 34 16777213) rfl (by kernel_rfl) rfl undef (fun _ _ _ h => h) (Or.inr ⟨by go_simp, rfl⟩) hS0 (by simp only [Act.put, List.setIfInBounds_toArray, List.set_cons_succ, List.set_cons_zero]; rfl) ?_
         refine wpAnyH_takeN 24 10 (mk 34 33554429) rfl (by kernel_rfl) rfl undef (fun _ _ _ h => h) (Or.inr ⟨by go_simp, rfl⟩) hS0 (by simp only [Act.put, List.setIfInBounds_toArray, List.set_cons_succ, List.set_cons_zero]; rfl) ?_
         refine wpAnyH_takeN 25 9 (mk 34 67108861) rfl (by kernel_rfl) rfl undef (fun _ _ _ h => h) (Or.inr ⟨by go_simp, rfl⟩) hS0 (by simp only [Act.put, List.setIfInBounds_toArray, List.set_cons_succ, List.set_cons_zero]; rfl) ?_
         refine wpAnyH_takeN 26 8 (mk 34 134217725) rfl (by kernel_rfl) rfl undef (fun _ _ _ h => h) (Or.inr ⟨by go_simp, rfl⟩) hS0 (by simp only [Act.put, List.setIfInBounds_toArray, List.set_cons_succ, List.set_cons_zero]; rfl) ?_
         refine wpAnyH_takeN 27 7 (mk 34 268435453) rfl (by kernel_rfl) rfl undef (fun _ _ _ h => h) (Or.inr ⟨by go_simp, rfl⟩) hS0 (by simp only [Act.put, List.setIfInBounds_toArray, List.set_cons_succ, List.set_cons_zero]; rfl) ?_
         refine wpAnyH_takeN 28 6 (mk 34 536870909) rfl (by kernel_rfl) rfl undef (fun _ _ _ h => h) (Or.inr ⟨by go_simp, rfl⟩) hS0 (by simp only [Act.put, List.setIfInBounds_toArray, List.set_cons_succ, List.set_cons_zero]; rfl) ?_
         refine wpAnyH_takeN 29 5 (mk 34 1073741821) rfl (by kernel_rfl) rfl (.bool false) (fun _ _ _ h => h) (Or.inl ⟨rfl, fun w' hS => ?_⟩) hS0 (by simp only [Act.put, List.setIfInBounds_toArray, List.set_cons_succ, List.set_cons_zero]; rfl) ?_
         ·go_simp <;> with_reducible rfl
         refine wpAnyH_two 1 30 4 (mk 34 1073741823) (mk 34 2147483645) rfl rfl (by kernel_rfl) rfl ?_ ?_
         ·have e3 : wy.drew.cell? ⟨wB.heap.size, 2, none⟩ = some (.slice aoF' i cF') := HF6.out.box.cell (i := 2) rfl
          go_wp2_with fail
          refine ⟨hS0, ?_⟩
          refine wpAnyH_one 30 3 (mk 34 2147483647) rfl (by kernel_rfl) rfl ?_
          go_wp2_with fail
          have hS1 : Ext wB (wy.drew.alloc (.cells #[.bool false] 4)) ∧ (wy.drew.alloc (.cells #[.bool false] 4)).cell? ⟨gu, ou, none⟩ = some (.int .i64 p) ∧ (wy.drew.alloc (.cells #[.bool false] 4)).cell? ⟨gu, ou + 1, none⟩ = some (.int .i64 q) :=
           ⟨hS0.1.alloc hS0.1.size _, (HF6.out.ext' ((ext_drew1 wy).alloc (ext_drew1 wy).size (.cells #[.bool false] 4))).seen.pair HV2.out.2.2.2 HV2.out.2.2.1⟩
          refine ⟨hS1, ?_⟩
          refine wpAnyH_one 31 2 (mk 34 4294967295) rfl (by kernel_rfl) rfl ?_
          have HFO : Hid (OwnR wy.drew wB.heap.size 4 1 boolC (.slice aoF' i cF') fs) := hid (HF6.out.fins.ext (ext_drew1 wy))
          have hszf : wB.heap.size ≤ wy.drew.heap.size := HF6.out.ext.size
          go_wp2_with (with_reducible refine onOp 121 ?_
                       go_loud (refine wpList_append_R elem_bool (fun _ => rfl) ones_bool HFO hszf hlnf false _ rfl wy.heap.size rfl rfl _ _ rfl rfl rfl ?_)
                       rintro g7 c7 v7 w7 rfl G3 G4)
          have c7' := (Chg.refl (fun k => (Value.slice aoF' i cF').ownBlock = some k) wy.drew).grown G4.out.1 (fun k e => e)
          have HP7 := hid ((HF6.out.ext' (ext_drew1 wy)).row2 G3.out c7')
          have hS7 : Ext wB w7 ∧ w7.cell? ⟨gu, ou, none⟩ = some (.int .i64 p) ∧ w7.cell? ⟨gu, ou + 1, none⟩ = some (.int .i64 q) := ⟨HP7.out.1.1, ((HF6.out.ext' (ext_drew1 wy)).seenF c7').pair HV2.out.2.2.2 HV2.out.2.2.1⟩
          refine ⟨hS7, ?_⟩
          have e7 : w7.cell? ⟨wB.heap.size, 2, none⟩ = some (.slice aoF' i cF') := HP7.out.1.2.cell (i := 2) rfl
          have l7 := HP7.out.1.2.lt
          have f7 := HP7.out.1.2.frozen
          refine wpAnyH_one 32 1 (mk 34 8589934591) rfl (by kernel_rfl) rfl ?_
          go_wp2_with fail
          refine ⟨hS7, ?_⟩
          refine wpAnyH_one 33 0 (mk 34 17179869183) rfl (by kernel_rfl) rfl ?_
          go_wp2_with fail
          refine ⟨⟨HP7.out.2.ext, HP7.out.2.seen.pair HV2.out.2.2.2 HV2.out.2.2.1⟩, ?_⟩
          refine wpAnyH_end (P := Tryz.prog) (by kernel_rfl) ?_
          go_wp2_with fail
          go_roundg (257 - (i + 1))
          case measure => omega
          case rel => exact HEND.out false _ _ (by unfold finB; rw [show finS B q = false by unfold finS; rw [decide_eq_false (by omega)]; rfl, Bool.and_false]) (hid HP7.out.2)
         ·go_wp2_with fail
          have hS1 : Ext wB (wy.drew.alloc (.cells #[.bool false] 4)) ∧ (wy.drew.alloc (.cells #[.bool false] 4)).cell? ⟨gu, ou, none⟩ = some (.int .i64 p) ∧ (wy.drew.alloc (.cells #[.bool false] 4)).cell? ⟨gu, ou + 1, none⟩ = some (.int .i64 q) :=
           ⟨hS0.1.alloc hS0.1.size _, (HF6.out.ext' ((ext_drew1 wy).alloc (ext_drew1 wy).size (.cells #[.bool false] 4))).seen.pair HV2.out.2.2.2 HV2.out.2.2.1⟩
          refine ⟨hS1, ?_⟩
          refine wpAnyH_one 1 3 (mk 34 2147483647) rfl (by kernel_rfl) rfl ?_
          have e3 : (wy.alloc (.cells #[.bool false] 4)).drew.cell? ⟨wB.heap.size, 2, none⟩ = some (.slice aoF' i cF') := ((HF6.out.box.alloc _).drew).cell (i := 2) rfl
          go_wp2_with fail
          refine ⟨hS1, ?_⟩
          refine wpAnyH_one 31 2 (mk 34 4294967295) rfl (by kernel_rfl) rfl ?_
          have HFO : Hid (OwnR wy.drew wB.heap.size 4 1 boolC (.slice aoF' i cF') fs) := hid (HF6.out.fins.ext (ext_drew1 wy))
          have hszf : wB.heap.size ≤ wy.drew.heap.size := HF6.out.ext.size
          go_wp2_with (with_reducible refine onOp 121 ?_
                       go_loud (refine wpList_append_R elem_bool (fun _ => rfl) ones_bool HFO hszf hlnf false _ rfl wy.heap.size rfl rfl _ _ rfl rfl rfl ?_)
                       rintro g7 c7 v7 w7 rfl G3 G4)
          have c7' := (Chg.refl (fun k => (Value.slice aoF' i cF').ownBlock = some k) wy.drew).grown G4.out.1 (fun k e => e)
          have HP7 := hid ((HF6.out.ext' (ext_drew1 wy)).row2 G3.out c7')
          have hS7 : Ext wB w7 ∧ w7.cell? ⟨gu, ou, none⟩ = some (.int .i64 p) ∧ w7.cell? ⟨gu, ou + 1, none⟩ = some (.int .i64 q) := ⟨HP7.out.1.1, ((HF6.out.ext' (ext_drew1 wy)).seenF c7').pair HV2.out.2.2.2 HV2.out.2.2.1⟩
          refine ⟨hS7, ?_⟩
          have e7 : w7.cell? ⟨wB.heap.size, 2, none⟩ = some (.slice aoF' i cF') := HP7.out.1.2.cell (i := 2) rfl
          have l7 := HP7.out.1.2.lt
          have f7 := HP7.out.1.2.frozen
          refine wpAnyH_one 32 1 (mk 34 8589934591) rfl (by kernel_rfl) rfl ?_
          go_wp2_with fail
          refine ⟨hS7, ?_⟩
          refine wpAnyH_one 33 0 (mk 34 17179869183) rfl (by kernel_rfl) rfl ?_
          go_wp2_with fail
          refine ⟨⟨HP7.out.2.ext, HP7.out.2.seen.pair HV2.out.2.2.2 HV2.out.2.2.1⟩, ?_⟩
          refine wpAnyH_end (P := Tryz.prog) (by kernel_rfl) ?_
          go_wp2_with fail
          go_roundg (257 - (i + 1))
          case measure => omega
          case rel => exact HEND.out false _ _ (by unfold finB; rw [show finS B q = false by unfold finS; rw [decide_eq_false (by omega)]; rfl, Bool.and_false]) (hid HP7.out.2)
       ·have t0 : decide ((0 : Int) ≤ p) = false := decide_eq_false h0
        refine wp_region_heldL (fun w' => Ext wB w' ∧ w'.cell? ⟨gu, ou, none⟩ = some (.int .i64 p) ∧ w'.cell? ⟨gu, ou + 1, none⟩ = some (.int .i64 q)) (by kernel_rfl) ?_
        refine wpAnyH_takeN 0 33 (mk 34 1) rfl (by kernel_rfl) rfl (.pointer (some ⟨wB.heap.size, 2, none⟩)) (fun _ _ _ h => h) (Or.inl ⟨rfl, fun w' hS => ?_⟩) hS0 (by simp only [Act.put, List.setIfInBounds_toArray, List.set_cons_succ, List.set_cons_zero]; rfl) ?_
        ·go_simp <;> with_reducible rfl
        refine wpAnyH_takeN 2 32 (mk 34 5) rfl (by kernel_rfl) rfl (.slice (some ⟨gu, ou, none⟩) 2 cu) (fun _ _ _ h => h) (Or.inl ⟨rfl, fun w' hS => ?_⟩) hS0 (by simp only [Act.put, List.setIfInBounds_toArray, List.set_cons_succ, List.set_cons_zero]; rfl) ?_
        ·go_simp <;> with_reducible rfl
        refine wpAnyH_takeN 3 31 (mk 34 13) rfl (by kernel_rfl) rfl (.pointer (some ⟨gu, ou, none⟩)) (fun _ _ _ h => h) (Or.inl ⟨rfl, fun w' hS => ?_⟩) hS0 (by simp only [Act.put, List.setIfInBounds_toArray, List.set_cons_succ, List.set_cons_zero]; rfl) ?_
        ·go_simp <;> with_reducible rfl
        refine wpAnyH_takeN 4 30 (mk 34 29) rfl (by kernel_rfl) rfl (.int .i64 p) (fun _ _ _ h => h) (Or.inl ⟨rfl, fun w' hS => ?_⟩) hS0 (by simp only [Act.put, List.setIfInBounds_toArray, List.set_cons_succ, List.set_cons_zero]; rfl) ?_
        ·have d0 := hS.2.1
         go_simp <;> with_reducible rfl
        refine wpAnyH_takeN 5 29 (mk 34 61) rfl (by kernel_rfl) rfl (.bool false) (fun _ _ _ h => h) (Or.inl ⟨rfl, fun w' hS => ?_⟩) hS0 (by simp only [Act.put, List.setIfInBounds_toArray, List.set_cons_succ, List.set_cons_zero]; rfl) ?_
        ·go_simp <;> with_reducible rfl
        refine wpAnyH_takeN 6 28 (mk 34 125) rfl (by kernel_rfl) rfl (.bool false) (fun _ _ _ h => h) (Or.inl ⟨rfl, fun w' hS => ?_⟩) hS0 (by simp only [Act.put, List.setIfInBounds_toArray, List.set_cons_succ, List.set_cons_zero]; rfl) ?_
        ·go_simp <;> with_reducible rfl
        refine wpAnyH_takeN 7 27 (mk 34 253) rfl (by kernel_rfl) rfl undef (fun _ _ _ h => h) (Or.inr ⟨by go_simp, rfl⟩) hS0 (by simp only [Act.put, List.setIfInBounds_toArray, List.set_cons_succ, List.set_cons_zero]; rfl) ?_
        refine wpAnyH_takeN 8 26 (mk 34 509) rfl (by kernel_rfl) rfl undef (fun _ _ _ h => h) (Or.inr ⟨by go_simp, rfl⟩) hS0 (by simp only [Act.put, List.setIfInBounds_toArray, List.set_cons_succ, List.set_cons_zero]; rfl) ?_
        refine wpAnyH_takeN 9 25 (mk 34 1021) rfl (by kernel_rfl) rfl undef (fun _ _ _ h => h) (Or.inr ⟨by go_simp, rfl⟩) hS0 (by simp only [Act.put, List.setIfInBounds_toArray, List.set_cons_succ, List.set_cons_zero]; rfl) ?_
        refine wpAnyH_takeN 10 24 (mk 34 2045) rfl (by kernel_rfl) rfl undef (fun _ _ _ h => h) (Or.inr ⟨by go_simp, rfl⟩) hS0 (by simp only [Act.put, List.setIfInBounds_toArray, List.set_cons_succ, List.set_cons_zero]; rfl) ?_
        refine wpAnyH_takeN 11 23 (mk 34 4093) rfl (by kernel_rfl) rfl (.bool false) (fun _ _ _ h => h) (Or.inl ⟨rfl, fun w' hS => ?_⟩) hS0 (by simp only [Act.put, List.setIfInBounds_toArray, List.set_cons_succ, List.set_cons_zero]; rfl) ?_
        ·go_simp <;> with_reducible rfl
        refine wpAnyH_takeN 12 22 (mk 34 8189) rfl (by kernel_rfl) rfl (.bool false) (fun _ _ _ h => h) (Or.inl ⟨rfl, fun w' hS => ?_⟩) hS0 (by simp only [Act.put, List.setIfInBounds_toArray, List.set_cons_succ, List.set_cons_zero]; rfl) ?_
        ·go_simp <;> with_reducible rfl
        refine wpAnyH_takeN 13 21 (mk 34 16381) rfl (by kernel_rfl) rfl undef (fun _ _ _ h => h) (Or.inr ⟨by go_simp, rfl⟩) hS0 (by simp only [Act.put, List.setIfInBounds_toArray, List.set_cons_succ, List.set_cons_zero]; rfl) ?_
        refine wpAnyH_takeN 14 20 (mk 34 32765) rfl (by kernel_rfl) rfl undef (fun _ _ _ h => h) (Or.inr ⟨by go_simp, rfl⟩) hS0 (by simp only [Act.put, List.setIfInBounds_toArray, List.set_cons_succ, List.set_cons_zero]; rfl) ?_
        refine wpAnyH_takeN 15 19 (mk 34 65533) rfl (by kernel_rfl) rfl undef (fun _ _ _ h => h) (Or.inr ⟨by go_simp, rfl⟩) hS0 (by simp only [Act.put, List.setIfInBounds_toArray, List.set_cons_succ, List.set_cons_zero]; rfl) ?_
        refine wpAnyH_takeN 16 18 (mk 34 131069) rfl (by kernel_rfl) rfl undef (fun _ _ _ h => h) (Or.inr ⟨by go_simp, rfl⟩) hS0 (by simp only [Act.put, List.setIfInBounds_toArray, List.set_cons_succ, List.set_cons_zero]; rfl) ?_
        refine wpAnyH_takeN 17 17 (mk 34 262141) rfl (by kernel_rfl) rfl undef (fun _ _ _ h => h) (Or.inr ⟨by go_simp, rfl⟩) hS0 (by simp only [Act.put, List.setIfInBounds_toArray, List.set_cons_succ, List.set_cons_zero]; rfl) ?_
        refine wpAnyH_takeN 18 16 (mk 34 524285) rfl (by kernel_rfl) rfl undef (fun _ _ _ h => h) (Or.inr ⟨by go_simp, rfl⟩) hS0 (by simp only [Act.put, List.setIfInBounds_toArray, List.set_cons_succ, List.set_cons_zero]; rfl) ?_
        refine wpAnyH_takeN 19 15 (mk 34 1048573) rfl (by kernel_rfl) rfl undef (fun _ _ _ h => h) (Or.inr ⟨by go_simp, rfl⟩) hS0 (by simp only [Act.put, List.setIfInBounds_toArray, List.set_cons_succ, List.set_cons_zero]; rfl) ?_
        refine wpAnyH_takeN 20 14 (mk 34 2097149) rfl (by kernel_rfl) rfl (.bool false) (fun _ _ _ h => h) (Or.inl ⟨rfl, fun w' hS => ?_⟩) hS0 (by simp only [Act.put, List.setIfInBounds_toArray, List.set_cons_succ, List.set_cons_zero]; rfl) ?_
        ·go_simp <;> with_reducible rfl
        refine wpAnyH_takeN 21 13 (mk 34 4194301) rfl (by kernel_rfl) rfl (.bool false) (fun _ _ _ h => h) (Or.inl ⟨rfl, fun w' hS => ?_⟩) hS0 (by simp only [Act.put, List.setIfInBounds_toArray, List.set_cons_succ, List.set_cons_zero]; rfl) ?_
        ·go_simp <;> with_reducible rfl
        refine wpAnyH_takeN 22 12 (mk 34 8388605) rfl (by kernel_rfl) rfl undef (fun _ _ _ h => h) (Or.inr ⟨by go_simp, rfl⟩) hS0 (by simp only [Act.put, List.setIfInBounds_toArray, List.set_cons_succ, List.set_cons_zero]; rfl) ?_
        refine wpAnyH_takeN 23 11 (mk 34 16777213) rfl (by kernel_rfl) rfl undef (fun _ _ _ h => h) (Or.inr ⟨by go_simp, rfl⟩) hS0 (by simp only [Act.put, List.setIfInBounds_toArray, List.set_cons_succ, List.set_cons_zero]; rfl) ?_
        refine wpAnyH_takeN 24 10 (mk 34 33554429) rfl (by kernel_rfl) rfl undef (fun _ _ _ h => h) (Or.inr ⟨by go_simp, rfl⟩) hS0 (by simp only [Act.put, List.setIfInBounds_toArray, List.set_cons_succ, List.set_cons_zero]; rfl) ?_
        refine wpAnyH_takeN 25 9 (mk 34 67108861) rfl (by kernel_rfl) rfl undef (fun _ _ _ h => h) (Or.inr ⟨by go_simp, rfl⟩) hS0 (by simp only [Act.put, List.setIfInBounds_toArray, List.set_cons_succ, List.set_cons_zero]; rfl) ?_
        refine wpAnyH_takeN 26 8 (mk 34 134217725) rfl (by kernel_rfl) rfl undef (fun _ _ _ h => h) (Or.inr ⟨by go_simp, rfl⟩) hS0 (by simp only [Act.put, List.setIfInBounds_toArray, List.set_cons_succ, List.set_cons_zero]; rfl) ?_
        refine wpAnyH_takeN 27 7 (mk 34 268435453) rfl (by kernel_rfl) rfl undef (fun _ _ _ h => h) (Or.inr ⟨by go_simp, rfl⟩) hS0 (by simp only [Act.put, List.setIfInBounds_toArray, List.set_cons_succ, List.set_cons_zero]; rfl) ?_
        refine wpAnyH_takeN 28 6 (mk 34 536870909) rfl (by kernel_rfl) rfl undef (fun _ _ _ h => h) (Or.inr ⟨by go_simp, rfl⟩) hS0 (by simp only [Act.put, List.setIfInBounds_toArray, List.set_cons_succ, List.set_cons_zero]; rfl) ?_
        refine wpAnyH_takeN 29 5 (mk 34 1073741821) rfl (by kernel_rfl) rfl (.bool false) (fun _ _ _ h => h) (Or.inl ⟨rfl, fun w' hS => ?_⟩) hS0 (by simp only [Act.put, List.setIfInBounds_toArray, List.set_cons_succ, List.set_cons_zero]; rfl) ?_
        ·go_simp <;> with_reducible rfl
        refine wpAnyH_two 1 30 4 (mk 34 1073741823) (mk 34 2147483645) rfl rfl (by kernel_rfl) rfl ?_ ?_
        ·have e3 : wy.drew.cell? ⟨wB.heap.size, 2, none⟩ = some (.slice aoF' i cF') := HF6.out.box.cell (i := 2) rfl
         go_wp2_with fail
         refine ⟨hS0, ?_⟩
         refine wpAnyH_one 30 3 (mk 34 2147483647) rfl (by kernel_rfl) rfl ?_
         go_wp2_with fail
         have hS1 : Ext wB (wy.drew.alloc (.cells #[.bool false] 4)) ∧ (wy.drew.alloc (.cells #[.bool false] 4)).cell? ⟨gu, ou, none⟩ = some (.int .i64 p) ∧ (wy.drew.alloc (.cells #[.bool false] 4)).cell? ⟨gu, ou + 1, none⟩ = some (.int .i64 q) :=
          ⟨hS0.1.alloc hS0.1.size _, (HF6.out.ext' ((ext_drew1 wy).alloc (ext_drew1 wy).size (.cells #[.bool false] 4))).seen.pair HV2.out.2.2.2 HV2.out.2.2.1⟩
         refine ⟨hS1, ?_⟩
         refine wpAnyH_one 31 2 (mk 34 4294967295) rfl (by kernel_rfl) rfl ?_
         have HFO : Hid (OwnR wy.drew wB.heap.size 4 1 boolC (.slice aoF' i cF') fs) := hid (HF6.out.fins.ext (ext_drew1 wy))
         have hszf : wB.heap.size ≤ wy.drew.heap.size := HF6.out.ext.size
         go_wp2_with (with_reducible refine onOp 121 ?_
                      go_loud (refine wpList_append_R elem_bool (fun _ => rfl) ones_bool HFO hszf hlnf false _ rfl wy.heap.size rfl rfl _ _ rfl rfl rfl ?_)
                      rintro g7 c7 v7 w7 rfl G3 G4)
         have c7' := (Chg.refl (fun k => (Value.slice aoF' i cF').ownBlock = some k) wy.drew).grown G4.out.1 (fun k e => e)
         have HP7 := hid ((HF6.out.ext' (ext_drew1 wy)).row2 G3.out c7')
         have hS7 : Ext wB w7 ∧ w7.cell? ⟨gu, ou, none⟩ = some (.int .i64 p) ∧ w7.cell? ⟨gu, ou + 1, none⟩ = some (.int .i64 q) := ⟨HP7.out.1.1, ((HF6.out.ext' (ext_drew1 wy)).seenF c7').pair HV2.out.2.2.2 HV2.out.2.2.1⟩
         refine ⟨hS7, ?_⟩
         have e7 : w7.cell? ⟨wB.heap.size, 2, none⟩ = some (.slice aoF' i cF') := HP7.out.1.2.cell (i := 2) rfl
         have l7 := HP7.out.1.2.lt
         have f7 := HP7.out.1.2.frozen
         refine wpAnyH_one 32 1 (mk 34 8589934591) rfl (by kernel_rfl) rfl ?_
         go_wp2_with fail
         refine ⟨hS7, ?_⟩
         refine wpAnyH_one 33 0 (mk 34 17179869183) rfl (by kernel_rfl) rfl ?_
         go_wp2_with fail
         refine ⟨⟨HP7.out.2.ext, HP7.out.2.seen.pair HV2.out.2.2.2 HV2.out.2.2.1⟩, ?_⟩
         refine wpAnyH_end (P := Tryz.prog) (by kernel_rfl) ?_
         go_wp2_with fail
         go_roundg (257 - (i + 1))
         case measure => omega
         case rel => exact HEND.out false _ _ (by unfold finB finS; rw [decide_eq_false (by omega)]; rfl) (hid HP7.out.2)
        ·go_wp2_with fail
         have hS1 : Ext wB (wy.drew.alloc (.cells #[.bool false] 4)) ∧ (wy.drew.alloc (.cells #[.bool false] 4)).cell? ⟨gu, ou, none⟩ = some (.int .i64 p) ∧ (wy.drew.alloc (.cells #[.bool false] 4)).cell? ⟨gu, ou + 1, none⟩ = some (.int .i64 q) :=
          ⟨hS0.1.alloc hS0.1.size _, (HF6.out.ext' ((ext_drew1 wy).alloc (ext_drew1 wy).size (.cells #[.bool false] 4))).seen.pair HV2.out.2.2.2 HV2.out.2.2.1⟩
         refine ⟨hS1, ?_⟩
         refine wpAnyH_one 1 3 (mk 34 2147483647) rfl (by kernel_rfl) rfl ?_
         have e3 : (wy.alloc (.cells #[.bool false] 4)).drew.cell? ⟨wB.heap.size, 2, none⟩ = some (.slice aoF' i cF') := ((HF6.out.box.alloc _).drew).cell (i := 2) rfl
         go_wp2_with fail
         refine ⟨hS1, ?_⟩
         refine wpAnyH_one 31 2 (mk 34 4294967295) rfl (by kernel_rfl) rfl ?_
         have HFO : Hid (OwnR wy.drew wB.heap.size 4 1 boolC (.slice aoF' i cF') fs) := hid (HF6.out.fins.ext (ext_drew1 wy))
         have hszf : wB.heap.size ≤ wy.drew.heap.size := HF6.out.ext.size
         go_wp2_with (with_reducible refine onOp 121 ?_
                      go_loud (refine wpList_append_R elem_bool (fun _ => rfl) ones_bool HFO hszf hlnf false _ rfl wy.heap.size rfl rfl _ _ rfl rfl rfl ?_)
                      rintro g7 c7 v7 w7 rfl G3 G4)
         have c7' := (Chg.refl (fun k => (Value.slice aoF' i cF').ownBlock = some k) wy.drew).grown G4.out.1 (fun k e => e)
         have HP7 := hid ((HF6.out.ext' (ext_drew1 wy)).row2 G3.out c7')
         have hS7 : Ext wB w7 ∧ w7.cell? ⟨gu, ou, none⟩ = some (.int .i64 p) ∧ w7.cell? ⟨gu, ou + 1, none⟩ = some (.int .i64 q) := ⟨HP7.out.1.1, ((HF6.out.ext' (ext_drew1 wy)).seenF c7').pair HV2.out.2.2.2 HV2.out.2.2.1⟩
         refine ⟨hS7, ?_⟩
         have e7 : w7.cell? ⟨wB.heap.size, 2, none⟩ = some (.slice aoF' i cF') := HP7.out.1.2.cell (i := 2) rfl
         have l7 := HP7.out.1.2.lt
         have f7 := HP7.out.1.2.frozen
         refine wpAnyH_one 32 1 (mk 34 8589934591) rfl (by kernel_rfl) rfl ?_
         go_wp2_with fail
         refine ⟨hS7, ?_⟩
         refine wpAnyH_one 33 0 (mk 34 17179869183) rfl (by kernel_rfl) rfl ?_
         go_wp2_with fail
         refine ⟨⟨HP7.out.2.ext, HP7.out.2.seen.pair HV2.out.2.2.2 HV2.out.2.2.1⟩, ?_⟩
         refine wpAnyH_end (P := Tryz.prog) (by kernel_rfl) ?_
         go_wp2_with fail
         go_roundg (257 - (i + 1))
         case measure => omega
         case rel => exact HEND.out false _ _ (by unfold finB finS; rw [decide_eq_false (by omega)]; rfl) (hid HP7.out.2)
    ·obtain rfl : nk = i := by omega
     have q1 : decide (nk < nk) = false := decide_eq_false (by omega)
     have b0 : wr.cell? ⟨wB.heap.size, 0, none⟩ = some (.slice ao n c) := HF.out.box.cell (i := 0) rfl
     have b1 : wr.cell? ⟨wB.heap.size, 1, none⟩ = some (.slice aoN' nk cN') := HF.out.box.cell (i := 1) rfl
     have b2 : wr.cell? ⟨wB.heap.size, 2, none⟩ = some (.slice aoF' nk cF') := HF.out.box.cell (i := 2) rfl
     have lb := HF.out.box.lt
     have r0 : wr.cell? ⟨w.heap.size + 1 + 1, 0, none⟩ = some (.slice none 0 0) := HRw.out.cell (i := 0) rfl
     have r1 : wr.cell? ⟨w.heap.size + 1 + 1, 1, none⟩ = some (.slice none 0 0) := HRw.out.cell (i := 1) rfl
     have r2 : wr.cell? ⟨w.heap.size + 1 + 1, 2, none⟩ = some (.slice none 0 0) := HRw.out.cell (i := 2) rfl
     have lr := HRw.out.lt
     have fr := HRw.out.frozen
     go_wp2_with fail
     refine bodyPost_ret (v := .tuple #[.agg #[.slice ao n c, .slice aoN' nk cN', .slice aoF' nk cF'], .bool true]) (results_cell_agg_tmp Tryz.results36 _ _ (w.heap.size + 1 + 1) 40 #[.slice ao n c, .slice aoN' nk cN', .slice aoF' nk cF'] _ _ rfl rfl (blk3 HRw.out _ _ _) Tryz.underlying40 rfl (by kernel_rfl)) rfl ?_
     have hX : Ext w (set3 wr (w.heap.size + 1 + 1) (.slice ao n c) (.slice aoN' nk cN') (.slice aoF' nk cF')) := ext3 HEw.out (by omega) _ _ _
     have hfull : Full (succP A B (bothSyms A B)) zeroP nk := by
      show (tourN (succP A B (bothSyms A B)) zeroP nk).keys.length = nk
      have h1 := HNK.out
      rw [HT.out.1, tour_B HWA.out HWB.out, List.length_map] at h1
      exact h1.symm
     refine ⟨hX, nk, _, _, _, _, _, _, _, _, _, hfull, rfl, _, _, _, rs, rfl, ?_⟩
     have hY2 : ReadR (set3 wr (w.heap.size + 1 + 1) (.slice ao n c) (.slice aoN' nk cN') (.slice aoF' nk cF')) 1 strC (.slice ao n c) (bothSyms A B) := by
      by_cases hn0 : 0 < n
      rotate_left
      ·exact ⟨ao, c, by rw [← HYN.out], .inl (by rw [← HYN.out]; omega)⟩
      exact (HY.out.ext HF.out.ext).chg (chg3 wr (w.heap.size + 1 + 1) _ _ _) (fun g e e' => HYR.out hn0 g e e')
     have hd := HF.out.dfa (chg3 wr (w.heap.size + 1 + 1) (.slice ao n c) (.slice aoN' nk cN') (.slice aoF' nk cF')) (show w.heap.size + 1 + 1 < wB.heap.size from HRB.out.lt) (syms := bothSyms A B) hY2
     have e2 : fs = ks.map (finB A B) := by
      rw [HT.out.2.2.2, HNK.out, List.take_length]
     rw [e2, HT.out.2.1, HT.out.1] at hd
     have e3 := tourD_B (syms := bothSyms A B) HWA.out HWB.out nk
     have e4 : (bothD A B nk).raw = DF.raw ⟨bothSyms A B, (tourN (sigB A B (bothSyms A B)) (0, 0) nk).next, (tourN (sigB A B (bothSyms A B)) (0, 0) nk).keys.map (finB A B)⟩ := congrArg DF.raw e3.symm
     rw [e4]
     exact hd
end Go.Proofs.YtngpjagpeblbjaaGreatDoor
