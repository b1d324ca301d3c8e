/-
  Walk of the closures that tell which pairs of states are final.
  Where a pair of states goes.
  The tour through the pairs of states of two automata: what it tells, and that it ends.
  Walks of the laws' small helpers: none, Plain, ahead, same.
  Walk of the laws' same: are two automata one?
  The chapter's example: what its expression's automaton is.
  Walk of awake.
  Walk of Both.
  Plain laws for the statements: Not and Within in words, rows ahead of rows.
  What the automata of two expressions answer: the facts that the walk of DfaHolds takes.
  What the laid table gives, and how an argument that is a regular expression, or a row of words, is opened.
  How an argument that is an automaton is opened.
-/
import Derived.Test.YtngpjagpeblbjaaGreatDoorP21
import Derived.Test.YtngpjagpeblbjaaGreatDoorP22
import Derived.Deep.Cut
import Derived.Test.YtngpjagpeblbjaaGreatDoorP14
import Derived.Test.YtngpjagpeblbjaaGreatDoorP16
import Derived.Test.YtngpjagpeblbjaaGreatDoorP18
import Derived.Test.YtngpjagpeblbjaaGreatDoorP10
import Derived.Test.YtngpjagpeblbjaaGreatDoorP08
import Derived.Test.YtngpjagpeblbjaaGreatDoorRows
import Derived.ProofKit
import Derived.LaidMore
import Derived.OpenShut
import Derived.Stop.Joined
import Derived.Lib.SmallJoins
import Derived.Deep.SlicePairs
import Derived.Test.YtngpjagpeblbjaaGreatDoorP04
import Derived.Test.YtngpjagpeblbjaaGreatDoorP05
import Derived.Deep.Matrix
import Derived.Deep.Grids
import Derived.Deep.Strs
namespace Go.Proofs.YtngpjagpeblbjaaGreatDoor
open Go.RowKit Go.Spy Go.Heaped Go.Tour Go.Rx
theorem DfaW.open_ {w : World} {x : Array Value} {D : DA} (h : DfaW w (.agg x) D) : ∃ aoS n1 cS aoN n2 cN aoF n3 cF, x = #[.slice aoS n1 cS, .slice aoN n2 cN, .slice aoF n3 cF] := by
 obtain ⟨⟨vS, vN, vF, us, e, hP⟩, -, -⟩ := h
 obtain ⟨aoS, cS, rfl, -⟩ := hP.syms.form
 obtain ⟨aoN, cN, rfl, -⟩ := hP.next.form
 obtain ⟨aoF, cF, rfl, -⟩ := hP.fin.form
 simp only [Value.agg.injEq] at e
 exact ⟨_, _, _, _, _, _, _, _, _, e⟩
end Go.Proofs.YtngpjagpeblbjaaGreatDoor
namespace Go.Proofs.YtngpjagpeblbjaaGreatDoor
open Go.RowKit Go.Spy Go.Heaped Go.Tour Go.Rx
def symAt (syms : List ByteArray) (c : Nat) : ByteArray := (syms[c]?).getD ⟨#[]⟩
end Go.Proofs.YtngpjagpeblbjaaGreatDoor
namespace Go.Proofs.YtngpjagpeblbjaaGreatDoor
open Go.RowKit Go.Spy Go.Heaped Go.Tour Go.Rx
section
variable {A B : DA}
theorem symAt_some {syms : List ByteArray} {c : Nat} (h : c < syms.length) : symAt syms c = syms[c] := by
 unfold symAt
 rw [List.getElem?_eq_getElem h]; rfl
end
end Go.Proofs.YtngpjagpeblbjaaGreatDoor
namespace Go.Proofs.YtngpjagpeblbjaaGreatDoor
open Go.RowKit Go.Spy Go.Heaped Go.Tour Go.Rx
set_option maxRecDepth 100000 in
set_option maxHeartbeats 2000000 in
theorem plain8_any (w : World) (aoS aoN aoF : Option Addr) (n1 n2 n3 cS cN cF : Nat) : Calls Tryz.prog 20 #[.agg #[.slice aoS n1 cS, .slice aoN n2 cN, .slice aoF n3 cF]] w
 fun e w' => e = .returned (.agg #[.slice aoS n1 cS, .slice aoN n2 cN, .slice aoF n3 cF]) ∧ Ext w w' := by
 have HX : Hid (Ext w ((w.alloc (.cells #[.slice aoS n1 cS, .slice aoN n2 cN, .slice aoF n3 cF] 26)).alloc (.cells #[.slice aoS n1 cS, .slice aoN n2 cN, .slice aoF n3 cF] 40))) := hid (((Below.refl _ _).alloc (Nat.le_refl _) _).alloc (by simp) _)
 have HR : Hid (Blk ((w.alloc (.cells #[.slice aoS n1 cS, .slice aoN n2 cN, .slice aoF n3 cF] 26)).alloc (.cells #[.slice aoS n1 cS, .slice aoN n2 cN, .slice aoF n3 cF] 40)) (w.heap.size + 1) 40 #[.slice aoS n1 cS, .slice aoN n2 cN, .slice aoF n3 cF]) := hid (Blk.new' _ _ _ (by simp))
 go_enter Tryz.func20, Tryz.ntmps20
 go_wp2_with fail
 refine bodyPost_ret (v := .agg #[.slice aoS n1 cS, .slice aoN n2 cN, .slice aoF n3 cF]) (results_cell_agg Tryz.results20 _ _ (w.heap.size + 1) 40 #[.slice aoS n1 cS, .slice aoN n2 cN, .slice aoF n3 cF] _ rfl HR.out Tryz.underlying40 rfl (by kernel_rfl)) rfl ?_
 exact ⟨rfl, HX.out⟩
end Go.Proofs.YtngpjagpeblbjaaGreatDoor
namespace Go.Proofs.YtngpjagpeblbjaaGreatDoor
open Go.RowKit Go.Spy Go.Heaped Go.Tour Go.Rx
def sameD (x y : DR) : Bool := decide (x.syms = y.syms) && decide (x.next = y.next) && decide (x.fin = y.fin)
theorem sameD_iff {x y : DR} : sameD x y = true ↔ x = y := by
 obtain ⟨a, b, c⟩ := x
 obtain ⟨a2, b2, c2⟩ := y
 simp [sameD, and_assoc]
theorem list_ext_at {α : Type} {l m : List α} (hl : l.length = m.length) (h : ∀ (i : Nat) (a b : α), i < l.length → l[i]? = some a → m[i]? = some b → a = b) : l = m := by
 refine List.ext_getElem hl fun i h1 h2 => h i _ _ h1 (List.getElem?_eq_getElem h1) (List.getElem?_eq_getElem h2)
structure TwoB (w wr : World) (xX xY : Array Value) : Prop where
 ext : Ext w wr
 x : Blk wr w.heap.size 40 xX
 y : Blk wr (w.heap.size + 1) 40 xY
theorem TwoB.drewN {w wr : World} {xX xY : Array Value} (h : TwoB w wr xX xY) (n : Nat) : TwoB w (wr.drewN n) xX xY := ⟨ext_drewN h.ext n, h.x.drewN n, h.y.drewN n⟩
theorem TwoB.ext' {w wr wy : World} {xX xY : Array Value} (h : TwoB w wr xX xY) (e : Ext wr wy) : TwoB w wy xX xY := ⟨h.ext.trans (e.mono h.ext.size), h.x.ext e, h.y.ext e⟩
set_option maxRecDepth 100000 in
set_option maxHeartbeats 4000000 in
theorem same_any {w : World} {vx vy : Value} {X Y : DR} (hX : DfaV w vx X) (hY : DfaV w vy Y) (lX : LenD X) (lY : LenD Y) (fX : X.fin.length = X.next.length) (fY : Y.fin.length = Y.next.length) :
 Calls Tryz.prog 19 #[vx, vy] w fun e w' => e = .returned (.bool (sameD X Y)) ∧ Ext w w' := by
 obtain ⟨vS, vN, vF, us, rfl, hP⟩ := hX
 obtain ⟨vS2, vN2, vF2, us2, rfl, hP2⟩ := hY
 obtain ⟨aoS, cS, rfl, hS⟩ := hP.syms.form
 obtain ⟨aoN, cN, rfl, hN⟩ := hP.next.form
 obtain ⟨aoF, cF, rfl, hF⟩ := hP.fin.form
 obtain ⟨aoS2, cS2, rfl, hS2⟩ := hP2.syms.form
 obtain ⟨aoN2, cN2, rfl, hN2⟩ := hP2.next.form
 obtain ⟨aoF2, cF2, rfl, hF2⟩ := hP2.fin.form
 have hn3 : X.fin.length = us.length := by rw [fX, hP.len]
 have hm3 : Y.fin.length = us2.length := by rw [fY, hP2.len]
 obtain ⟨b, hb⟩ : ∃ b, b = decide (X.syms = Y.syms) := ⟨_, rfl⟩
 have HTX : Hid (∀ W, Ext w W → Calls Tryz.prog 12 #[.slice aoS X.syms.length cS, .slice aoS2 Y.syms.length cS2] W fun e w' => e = .returned (.bool b) ∧ Ext W w') := hid fun W e => by rw [hb]; exact texts_rd (hP.syms.ext e) (hP2.syms.ext e) lX.s lY.s
 obtain ⟨n1, hn1⟩ : ∃ n, n = X.syms.length := ⟨_, rfl⟩
 obtain ⟨n, hn⟩ : ∃ n, n = us.length := ⟨_, rfl⟩
 obtain ⟨m1, hm1⟩ : ∃ n, n = Y.syms.length := ⟨_, rfl⟩
 obtain ⟨m, hm⟩ : ∃ n, n = us2.length := ⟨_, rfl⟩
 have l2 : n ≤ 140737488351232 := by rw [hn, hP.len]; exact lX.n
 have k2 : m ≤ 140737488351232 := by rw [hm, hP2.len]; exact lY.n
 have HNX : Hid (n = X.next.length) := hid (by rw [hn, hP.len])
 have HNY : Hid (m = Y.next.length) := hid (by rw [hm, hP2.len])
 have HFX : Hid (n = X.fin.length) := hid (by rw [hn, hn3])
 have HFY : Hid (m = Y.fin.length) := hid (by rw [hm, hm3])
 have HUX : Hid (n = us.length) := hid hn
 have HUY : Hid (m = us2.length) := hid hm
 have HP := hid hP
 have HP2 := hid hP2
 have HLX := hid lX
 have HLY := hid lY
 have HB := hid hb
 rw [← hn1, ← hm1] at HTX
 rw [hn3, ← hn] at hF
 rw [hm3, ← hm] at hF2
 rw [← hn] at hN
 rw [← hm] at hN2
 rw [hn3, hm3, ← hn1, ← hn, ← hm1, ← hm]
 have HN := hid hN
 have HF := hid hF
 have HN2 := hid hN2
 have HF2 := hid hF2
 obtain ⟨w1, hw1⟩ : ∃ u, u = (w.alloc (.cells #[.slice aoS n1 cS, .slice aoN n cN, .slice aoF n cF] 40)).alloc (.cells #[.slice aoS2 m1 cS2, .slice aoN2 m cN2, .slice aoF2 m cF2] 40) := ⟨_, rfl⟩
 have hT : TwoB w w1 #[.slice aoS n1 cS, .slice aoN n cN, .slice aoF n cF] #[.slice aoS2 m1 cS2, .slice aoN2 m cN2, .slice aoF2 m cF2] :=
  ⟨hw1 ▸ ((Below.refl _ _).alloc (Nat.le_refl _) _).alloc (by simp) _, hw1 ▸ (Blk.new _ _ _).alloc _, hw1 ▸ Blk.new' _ _ _ (by simp)⟩
 have a0 : w1.cell? ⟨w.heap.size, 0, none⟩ = some (.slice aoS n1 cS) := hT.x.cell (i := 0) rfl
 have b0 : w1.cell? ⟨w.heap.size + 1, 0, none⟩ = some (.slice aoS2 m1 cS2) := hT.y.cell (i := 0) rfl
 have la := hT.x.lt
 have lb := hT.y.lt
 have HT := hid hT
 have HW1 := hid hw1
 clear hP hP2 lX lY hb hS hN hF hS2 hN2 hF2 hn3 hm3 hn1 hn hm1 hm hT hw1 fX fY
 go_enter Tryz.func19, Tryz.ntmps19
 go_wp2_with fail
 rw [← HW1.out]
 refine (HTX.out w1 HT.out.ext).mono ?_
 rintro e w2 ⟨rfl, hx⟩
 have hT2 := HT.out.ext' hx
 have HT2 := hid hT2
 clear a0 b0 la lb hx
 have a1 : w2.cell? ⟨w.heap.size, 1, none⟩ = some (.slice aoN n cN) := hT2.x.cell (i := 1) rfl
 have a2 : w2.cell? ⟨w.heap.size, 2, none⟩ = some (.slice aoF n cF) := hT2.x.cell (i := 2) rfl
 have b1 : w2.cell? ⟨w.heap.size + 1, 1, none⟩ = some (.slice aoN2 m cN2) := hT2.y.cell (i := 1) rfl
 have b2 : w2.cell? ⟨w.heap.size + 1, 2, none⟩ = some (.slice aoF2 m cF2) := hT2.y.cell (i := 2) rfl
 have la := hT2.x.lt
 have lb := hT2.y.lt
 clear hT2
 cases b with
 | false =>
   go_wp2_with fail
   go_ret
   refine ⟨ret_bool ?_, HT2.out.ext⟩
   simp [sameD, ← HB.out]
 | true =>
   by_cases hnm : n = m
   rotate_left
   ·have t : ((n : Int) != (m : Int)) = true := by simp; omega
    have HNM := hid hnm
    clear hnm
    go_wp2_with fail
    go_ret
    refine ⟨ret_bool ?_, HT2.out.ext⟩
    symm
    rw [← Bool.not_eq_true, sameD_iff]
    rintro rfl
    exact HNM.out (HNX.out.trans HNY.out.symm)
   ·have HNM := hid hnm
    have t : ((n : Int) != (m : Int)) = false := by simp [hnm]
    clear hnm
    go_wp2_with fail
    clear a1 a2 b1 b2 la lb t
    go_loopg [5] n (fun g u wr => ∃ k, g = n - k ∧ k ≤ n ∧ u = .int .i64 k ∧ Hid (TwoB w wr #[.slice aoS n1 cS, .slice aoN n cN, .slice aoF n cF] #[.slice aoS2 m1 cS2, .slice aoN2 m cN2, .slice aoF2 m cF2]) ∧ Hid (∀ (i : Nat) (r s : List Int), i < k → X.next[i]? = some r → Y.next[i]? = some s → r = s) ∧ Hid (∀ (i : Nat) (r s : Bool), i < k → X.fin[i]? = some r → Y.fin[i]? = some s → r = s))
    case atStart => exact ⟨0, rfl, Nat.zero_le _, rfl, HT2, hid (fun j r s h => absurd h (Nat.not_lt_zero j)), hid (fun j r s h => absurd h (Nat.not_lt_zero j))⟩
    case round =>
     obtain ⟨k, rfl, hk, rfl, HE, HA, HC⟩ := hrel
     have a1 : wr.cell? ⟨w.heap.size, 1, none⟩ = some (.slice aoN n cN) := HE.out.x.cell (i := 1) rfl
     have a2 : wr.cell? ⟨w.heap.size, 2, none⟩ = some (.slice aoF n cF) := HE.out.x.cell (i := 2) rfl
     have b1 : wr.cell? ⟨w.heap.size + 1, 1, none⟩ = some (.slice aoN2 m cN2) := HE.out.y.cell (i := 1) rfl
     have b2 : wr.cell? ⟨w.heap.size + 1, 2, none⟩ = some (.slice aoF2 m cF2) := HE.out.y.cell (i := 2) rfl
     have la := HE.out.x.lt
     have lb := HE.out.y.lt
     by_cases hlt : k < n
     ·have hlt2 : k < m := by rw [← HNM.out]; exact hlt
      obtain ⟨gN, oN, rfl⟩ := HN.out (by omega)
      obtain ⟨gF, oF, rfl⟩ := HF.out (by omega)
      obtain ⟨gM, oM, rfl⟩ := HN2.out (by omega)
      obtain ⟨gG, oG, rfl⟩ := HF2.out (by omega)
      obtain ⟨r, hr⟩ : ∃ r, X.next[k]? = some r := ⟨_, List.getElem?_eq_getElem (by rw [← HNX.out]; exact hlt)⟩
      obtain ⟨s, hs⟩ : ∃ r, Y.next[k]? = some r := ⟨_, List.getElem?_eq_getElem (by rw [← HNY.out]; exact hlt2)⟩
      obtain ⟨p, hp⟩ : ∃ r, X.fin[k]? = some r := ⟨_, List.getElem?_eq_getElem (by rw [← HFX.out]; exact hlt)⟩
      obtain ⟨q, hq⟩ : ∃ r, Y.fin[k]? = some r := ⟨_, List.getElem?_eq_getElem (by rw [← HFY.out]; exact hlt2)⟩
      obtain ⟨ao, c, hu, hRow⟩ := HP.out.row hr
      obtain ⟨ao2, c2, hu2, hRow2⟩ := HP2.out.row hs
      have hPx := (HP.out.ext HE.out.ext).next
      have hPy := (HP2.out.ext HE.out.ext).next
      have hPf := (HP.out.ext HE.out.ext).fin
      have hPg := (HP2.out.ext HE.out.ext).fin
      rw [← HUX.out] at hPx
      rw [← HUY.out] at hPy
      rw [← HFX.out] at hPf
      rw [← HFY.out] at hPg
      have c3 : wr.cell? ⟨gN, oN + k, none⟩ = some (.slice ao r.length c) := hPx.cell1 hu
      have c4 : wr.cell? ⟨gM, oM + k, none⟩ = some (.slice ao2 s.length c2) := hPy.cell1 hu2
      have c5 : wr.cell? ⟨gF, oF + k, none⟩ = some (.bool p) := hPf.cell1 hp
      have c6 : wr.cell? ⟨gG, oG + k, none⟩ = some (.bool q) := hPg.cell1 hq
      have hrl := HLX.out.r r (List.mem_of_getElem? hr)
      have hsl := HLY.out.r s (List.mem_of_getElem? hs)
      obtain ⟨rl, hrl2⟩ : ∃ n, n = r.length := ⟨_, rfl⟩
      obtain ⟨sl, hsl2⟩ : ∃ n, n = s.length := ⟨_, rfl⟩
      have HRow := hid hRow
      have HRow2 := hid hRow2
      rw [← hrl2] at c3 hrl HRow
      rw [← hsl2] at c4 hsl HRow2
      have HR := hid hr
      have HS := hid hs
      have HPP := hid hp
      have HQQ := hid hq
      have HRL := hid hrl2
      have HSL := hid hsl2
      have i0 : (0 : Int) ≤ (k : Int) := by omega
      have i1 : (k : Int) < (n : Int) := by omega
      have i2 : (k : Int) < (m : Int) := by omega
      clear hr hs hp hq hu hu2 hRow hRow2 hPx hPy hPf hPg hrl2 hsl2
      by_cases hrs : rl = sl
      rotate_left
      ·have t : ((rl : Int) != (sl : Int)) = true := by simp; omega
       have HRS := hid hrs
       clear hrs
       go_wp2_with fail
       go_quiet (fail)
       go_wp2_with fail
       go_ret
       refine ⟨ret_bool ?_, (HE.out.drewN _).ext⟩
       symm
       rw [← Bool.not_eq_true, sameD_iff]
       rintro rfl
       have := HR.out.symm.trans HS.out
       cases this
       exact HRS.out (HRL.out.trans HSL.out.symm)
      ·have t : ((rl : Int) != (sl : Int)) = false := by simp [hrs]
       have HRS := hid hrs
       clear hrs
       by_cases hpq : p = q
       rotate_left
       ·have HPQ := hid hpq
        have t2 : (p == q) = false := by simp [hpq]
        clear hpq
        go_wp2_with fail
        go_quiet (fail)
        go_wp2_with fail
        go_ret
        refine ⟨ret_bool ?_, (HE.out.drewN _).ext⟩
        symm
        rw [← Bool.not_eq_true, sameD_iff]
        rintro rfl
        have := HPP.out.symm.trans HQQ.out
        cases this
        exact HPQ.out rfl
       ·have HPQ := hid hpq
        have t3 : (p == q) = true := by simp [hpq]
        clear hpq
        go_wp2_with fail
        go_quiet (fail)
        go_wp2_with fail
        have HE2 := hid (HE.out.drewN 1)
        clear a1 a2 b1 b2 la lb c3 c4 c5 c6 t t3
        obtain ⟨wa, hwa⟩ : ∃ x, x = wr := ⟨_, rfl⟩
        subst hwa
        go_loopg [6] rl (fun g u wr => ∃ j, g = rl - j ∧ j ≤ rl ∧ u = .int .i64 j ∧ Hid (TwoB w wr #[.slice aoS n1 cS, .slice (some ⟨gN, oN, none⟩) n cN, .slice (some ⟨gF, oF, none⟩) n cF] #[.slice aoS2 m1 cS2, .slice (some ⟨gM, oM, none⟩) m cN2, .slice (some ⟨gG, oG, none⟩) m cF2] ∧ Ext wa wr) ∧ Hid (∀ (i : Nat) (y z : Int), i < j → r[i]? = some y → s[i]? = some z → y = z))
        case atStart => exact ⟨0, rfl, Nat.zero_le _, rfl, hid ⟨HE.out.drewN _, ext_drewN (Below.refl _ _) _⟩, hid (fun j r s h => absurd h (Nat.not_lt_zero j))⟩
        case round =>
         obtain ⟨j, rfl, hj, rfl, HG, HD⟩ := hrel
         have a1 : wr.cell? ⟨w.heap.size, 1, none⟩ = some (.slice (some ⟨gN, oN, none⟩) n cN) := HG.out.1.x.cell (i := 1) rfl
         have b1 : wr.cell? ⟨w.heap.size + 1, 1, none⟩ = some (.slice (some ⟨gM, oM, none⟩) m cN2) := HG.out.1.y.cell (i := 1) rfl
         have la := HG.out.1.x.lt
         have lb := HG.out.1.y.lt
         have hPx := (HP.out.ext HG.out.1.ext).next
         have hPy := (HP2.out.ext HG.out.1.ext).next
         obtain ⟨u1, hu⟩ : ∃ u, us[k]? = some u := ⟨_, List.getElem?_eq_getElem (by rw [← HUX.out]; exact hlt)⟩
         obtain ⟨u2, hu2⟩ : ∃ u, us2[k]? = some u := ⟨_, List.getElem?_eq_getElem (by rw [← HUY.out]; exact hlt2)⟩
         have hw1 := HP.out.rows k u1 r hu HR.out
         have hw2 := HP2.out.rows k u2 s hu2 HS.out
         obtain ⟨ao, c, rfl, hg1⟩ := hw1.form
         obtain ⟨ao2, c2, rfl, hg2⟩ := hw2.form
         rw [← HUX.out] at hPx
         rw [← HUY.out] at hPy
         have c3 : wr.cell? ⟨gN, oN + k, none⟩ = some (.slice ao r.length c) := hPx.cell1 hu
         have c4 : wr.cell? ⟨gM, oM + k, none⟩ = some (.slice ao2 s.length c2) := hPy.cell1 hu2
         rw [← HRL.out] at c3 hg1 hw1
         rw [← HSL.out] at c4 hg2 hw2
         have HW1 := hid (hw1.ext HG.out.1.ext)
         have HW2 := hid (hw2.ext HG.out.1.ext)
         clear hPx hPy hu hu2 hw1 hw2
         by_cases hjl : j < rl
         ·have hjl2 : j < sl := by rw [← HRS.out]; exact hjl
          obtain ⟨g1, o1, rfl⟩ := hg1 (by omega)
          obtain ⟨g2, o2, rfl⟩ := hg2 (by omega)
          obtain ⟨y, hy⟩ : ∃ y, r[j]? = some y := ⟨_, List.getElem?_eq_getElem (by rw [← HRL.out]; exact hjl)⟩
          obtain ⟨z, hz⟩ : ∃ y, s[j]? = some y := ⟨_, List.getElem?_eq_getElem (by rw [← HSL.out]; exact hjl2)⟩
          have c5 : wr.cell? ⟨g1, o1 + j, none⟩ = some (.int .i64 y) := by
           have h := HW1.out
           rw [HRL.out] at h
           exact h.cell1 hy
          have c6 : wr.cell? ⟨g2, o2 + j, none⟩ = some (.int .i64 z) := by
           have h := HW2.out
           rw [HSL.out] at h
           exact h.cell1 hz
          have HY := hid hy
          have HZ := hid hz
          have i3 : (0 : Int) ≤ (j : Int) := by omega
          have i4 : (j : Int) < (rl : Int) := by omega
          have i5 : (j : Int) < (sl : Int) := by omega
          clear hg1 hg2 hy hz
          by_cases hyz : y = z
          ·have t : (y != z) = false := by simp [hyz]
           have HYZ := hid hyz
           clear hyz
           go_wp2_with fail
           go_quiet (fail)
           go_wp2_with fail
           go_roundg (rl - (j + 1))
           case measure => omega
           case rel =>
            refine ⟨j + 1, rfl, by omega, by go_num, hid ⟨HG.out.1.drewN _, ext_drewN HG.out.2 _⟩, hid fun i y' z' hi hy' hz' => ?_⟩
            by_cases e : i = j
            ·subst e
             rw [HY.out] at hy'; rw [HZ.out] at hz'
             cases hy'; cases hz'; exact HYZ.out
            ·exact HD.out i y' z' (by omega) hy' hz'
          ·have t : (y != z) = true := by simp [hyz]
           have HYZ := hid hyz
           clear hyz
           go_wp2_with fail
           go_quiet (fail)
           go_wp2_with fail
           go_ret
           refine ⟨ret_bool ?_, (HG.out.1.drewN _).ext⟩
           symm
           rw [← Bool.not_eq_true, sameD_iff]
           rintro rfl
           have := HR.out.symm.trans HS.out
           cases this
           have := HY.out.symm.trans HZ.out
           cases this
           exact HYZ.out rfl
         ·obtain rfl : j = rl := by omega
          have HRSE : Hid (r = s) := hid (list_ext_at (by rw [← HRL.out, ← HSL.out]; exact HRS.out) fun i a b hi h1 h2 => HD.out i a b (by rw [HRL.out]; exact hi) h1 h2)
          clear hg1 hg2
          go_wp2_with fail
          go_roundg (n - (k + 1))
          case measure => omega
          case rel =>
           refine ⟨k + 1, rfl, by omega, by go_num, hid HG.out.1, hid fun i r' s' hi hr' hs' => ?_, hid fun i r' s' hi hr' hs' => ?_⟩
           ·by_cases e : i = k
            ·subst e
             rw [HR.out] at hr'; rw [HS.out] at hs'
             cases hr'; cases hs'; exact HRSE.out
            ·exact HA.out i r' s' (by omega) hr' hs'
           ·by_cases e : i = k
            ·subst e
             rw [HPP.out] at hr'; rw [HQQ.out] at hs'
             cases hr'; cases hs'; exact HPQ.out
            ·exact HC.out i r' s' (by omega) hr' hs'
     ·obtain rfl : k = n := by omega
      have hE1 : X.next = Y.next := list_ext_at (by rw [← HNX.out, ← HNY.out]; exact HNM.out) fun i a b hi h1 h2 => HA.out i a b (by rw [HNX.out]; exact hi) h1 h2
      have hE2 : X.fin = Y.fin := list_ext_at (by rw [← HFX.out, ← HFY.out]; exact HNM.out) fun i a b hi h1 h2 => HC.out i a b (by rw [HFX.out]; exact hi) h1 h2
      have HE1 := hid hE1
      have HE2 := hid hE2
      clear hE1 hE2
      go_wp2_with fail
      go_ret
      refine ⟨ret_bool ?_, HE.out.ext⟩
      simp [sameD, ← HB.out, HE1.out, HE2.out]
end Go.Proofs.YtngpjagpeblbjaaGreatDoor
namespace Go.Proofs.YtngpjagpeblbjaaGreatDoor
open Go.RowKit Go.Spy Go.Heaped Go.Tour Go.Rx
def ba (x : List UInt8) : ByteArray := ⟨x.toArray⟩
def wT : RT ByteArray := .cat (.sym 0 (ba [97])) (.star (.sym 0 (ba [98])))
def wL : List Nd := [⟨2, ba [97], 0, 0⟩, ⟨2, ba [98], 0, 0⟩, ⟨5, nil8, 1, 0⟩, ⟨3, nil8, 0, 2⟩]
theorem wL_post : post wT = wL := by rfl
theorem wL_tr : tr wL 3 = .cat (.sym 0 (ba [97])) (.star (.sym 1 (ba [98]))) := by
 rw [tr_cat (l := wL) (i := 3) (n := ⟨3, nil8, 0, 2⟩) rfl rfl (x := 0) (y := 2) rfl rfl (by decide) (by decide), tr_sym (l := wL) (i := 0) (n := ⟨2, ba [97], 0, 0⟩) rfl rfl, tr_star (l := wL) (i := 2) (n := ⟨5, nil8, 1, 0⟩) rfl rfl (x := 1) rfl (by decide), tr_sym (l := wL) (i := 1) (n := ⟨2, ba [98], 0, 0⟩) rfl rfl]
theorem wL_first : firstM wL = 1 := by
 unfold firstM
 rw [show wL.length - 1 = 3 from rfl, wL_tr]
 rfl
theorem wL_last : lastMk wL = 3 := by
 unfold lastMk
 rw [show wL.length - 1 = 3 from rfl, wL_tr]
 rfl
theorem wL_next0 : nextM wL 0 = 2 := by
 unfold nextM
 rw [show wL.length - 1 = 3 from rfl, wL_tr]
 rfl
theorem wL_next1 : nextM wL 1 = 2 := by
 unfold nextM
 rw [show wL.length - 1 = 3 from rfl, wL_tr]
 rfl
theorem wL_of0 : ofM wL (ba [97]) = 1 := by decide +kernel
theorem wL_of1 : ofM wL (ba [98]) = 2 := by decide +kernel
theorem wL_null : nullT (tr wL (wL.length - 1)) = false := by
 rw [show wL.length - 1 = 3 from rfl, wL_tr]; rfl
def wS : List ByteArray := [ba [97], ba [98]]
theorem wS_rising : Rising wS := by
 refine chain_rising fun i x y hx hy => ?_
 match i with
 | 0 => cases hx; cases hy; decide +kernel
 | i + 1 => simp [wS] at hy
theorem wS_syms : makeSyms wL [] = wS := rising_ext (makeSyms_rising _ _) wS_rising fun x => by
 rw [mem_makeSyms]
 simp [symsL, wL, symN, wS]
def wSt (b : Bool) (m : Nat) : Sta := (b, mkM m)
theorem wStep (s : Sta) (c m : Nat) (x : ByteArray) (hx : wS[c]? = some x) (h : comeS wL s &&& ofM wL x = m) : stepS wL wS s c = wSt false m := by
 unfold stepS wSt
 rw [hx]
 show (false, mkM (comeS wL s &&& ofM wL x)) = _
 rw [h]
theorem bits0 : bitsL 0 = [] := bitsL_zero
theorem bits1 : bitsL 1 = [0] := by
 rw [bitsL_next (by decide), show (1 : Nat) &&& (1 - 1) = 0 from rfl, bitsL_zero, tz_odd (by decide)]
theorem bits2 : bitsL 2 = [1] := by
 rw [bitsL_next (by decide), show (2 : Nat) &&& (2 - 1) = 0 from rfl, bitsL_zero, tz_even (by decide) (by decide), tz_odd (by decide)]
theorem wCome0 : comeS wL (wSt true 0) = 1 := by
 unfold comeS
 rw [show (wSt true 0).2.1 = 0 from rfl, bits0, show (wSt true 0).1 = true from rfl, wL_first]; rfl
theorem wCome1 : comeS wL (wSt false 1) = 2 := by
 unfold comeS
 rw [show (wSt false 1).2.1 = 1 from rfl, bits1, show (wSt false 1).1 = false from rfl]
 simp [wL_next0]
theorem wCome2 : comeS wL (wSt false 0) = 0 := by
 unfold comeS
 rw [show (wSt false 0).2.1 = 0 from rfl, bits0, show (wSt false 0).1 = false from rfl]; rfl
theorem wCome3 : comeS wL (wSt false 2) = 2 := by
 unfold comeS
 rw [show (wSt false 2).2.1 = 2 from rfl, bits2, show (wSt false 2).1 = false from rfl]
 simp [wL_next1]
theorem wSucc (s : Sta) (m a b : Nat) (h : comeS wL s = m) (ha : m &&& 1 = a) (hb : m &&& 2 = b) : succS wL wS s = [wSt false a, wSt false b] := by
 show (List.range 2).map (stepS wL wS s) = _
 simp only [List.range_succ, List.range_zero, List.nil_append, List.map_cons, List.map_nil, List.cons_append]
 rw [wStep s 0 a (ba [97]) rfl (by rw [h, wL_of0]; exact ha), wStep s 1 b (ba [98]) rfl (by rw [h, wL_of1]; exact hb)]
theorem wSucc0 : succS wL wS (wSt true 0) = [wSt false 1, wSt false 0] := wSucc _ 1 1 0 wCome0 rfl rfl
theorem wSucc1 : succS wL wS (wSt false 1) = [wSt false 0, wSt false 2] := wSucc _ 2 0 2 wCome1 rfl rfl
theorem wSucc2 : succS wL wS (wSt false 0) = [wSt false 0, wSt false 0] := wSucc _ 0 0 0 wCome2 rfl rfl
theorem wSucc3 : succS wL wS (wSt false 2) = [wSt false 0, wSt false 2] := wSucc _ 2 0 2 wCome3 rfl rfl
theorem wTour1 : tourN (succS wL wS) startS 1 = ⟨[wSt true 0, wSt false 1, wSt false 0], [[1, 2]], [(0, 0), (0, 0), (0, 1)]⟩ := by
 rw [tourN_succ (k := wSt true 0) rfl]
 unfold rowOf
 rw [wSucc0]
 rfl
theorem wTour2 : tourN (succS wL wS) startS 2 = ⟨[wSt true 0, wSt false 1, wSt false 0, wSt false 2], [[1, 2], [2, 3]], [(0, 0), (0, 0), (0, 1), (1, 1)]⟩ := by
 rw [tourN_succ (k := wSt false 1) (by rw [wTour1]; rfl), wTour1]
 unfold rowOf
 rw [wSucc1]
 rfl
theorem wTour3 : tourN (succS wL wS) startS 3 = ⟨[wSt true 0, wSt false 1, wSt false 0, wSt false 2], [[1, 2], [2, 3], [2, 2]], [(0, 0), (0, 0), (0, 1), (1, 1)]⟩ := by
 rw [tourN_succ (k := wSt false 0) (by rw [wTour2]; rfl), wTour2]
 unfold rowOf
 rw [wSucc2]
 rfl
theorem wTour4 : tourN (succS wL wS) startS 4 = ⟨[wSt true 0, wSt false 1, wSt false 0, wSt false 2], [[1, 2], [2, 3], [2, 2], [2, 3]], [(0, 0), (0, 0), (0, 1), (1, 1)]⟩ := by
 rw [tourN_succ (k := wSt false 2) (by rw [wTour3]; rfl), wTour3]
 unfold rowOf
 rw [wSucc3]
 rfl
theorem wFull : Full (succS wL wS) startS 4 := by
 unfold Full
 rw [wTour4]; rfl
theorem wLastK : lastK wL = 3 := by
 have h0 : lastP wL 0 = true := by
  show (decide ((2 : Int) = 2) && (lastMk wL).testBit 0) = true
  rw [wL_last]; rfl
 have h1 : lastP wL 1 = true := by
  show (decide ((2 : Int) = 2) && (lastMk wL).testBit 1) = true
  rw [wL_last]; rfl
 have h2 : lastP wL 2 = false := rfl
 have h3 : lastP wL 3 = false := rfl
 show maskOf 4 (lastP wL) = 3
 simp only [maskOf, h0, h1, h2, h3]
 rfl
theorem wFin (b : Bool) (m : Nat) (hm : m < 18446744073709551616) : finalK wL (wSt b m) = decide (m &&& 3 ≠ 0) := by
 unfold finalK
 rw [wL_null, wLastK, show (wSt b m).2.1 = m from mkM_val hm]
 simp
def wD : DA := ⟨wS, [[1, 2], [2, 3], [2, 2], [2, 3]], [false, true, false, true]⟩
theorem wTourD {i : Nat} (h : Full (succS wL wS) startS i) : tourD wS (tourN (succS wL wS) startS i) (finalK wL) = wD := by
 obtain rfl := full_unique h wFull
 unfold tourD
 rw [wTour4]
 simp only [List.map_cons, List.map_nil, wFin true 0 (by decide), wFin false 1 (by decide), wFin false 0 (by decide), wFin false 2 (by decide)]
 rfl
theorem wWell : WellD nameOk wD := by
 refine ⟨⟨by decide, by decide, by decide, by decide⟩, by decide, ?_, wS_rising⟩
 decide +kernel
theorem wBnd : BndD wD.raw := ⟨by decide, by decide, by decide, by decide, by decide⟩
theorem wLeast {u : List Nat} (h1 : ∀ c ∈ u, c < wD.syms.length) (h2 : langD wD u = true) (h3 : ∀ x, (∀ c ∈ x, c < wD.syms.length) → langD wD x = true → sle u x) : wordsOf wD.syms u = [ba [97]] := by
 have h := h3 [0] (by decide) (by decide)
 have h0 : u = [0] := by
  rcases h with h | h | ⟨h, h'⟩
  ·exact h
  ·match u, h with
   | [], _ => exact absurd h2 (by decide)
  ·match u, h with
   | [c], _ =>
     have : c = 0 := by
      simp [aheadL] at h'
     rw [this]
 rw [h0]; rfl
end Go.Proofs.YtngpjagpeblbjaaGreatDoor
namespace Go.Rx
theorem word_one {c : UInt8} {r q : List UInt8} (h : sk r = c :: q) (hc : nmB [c] = true) (hq : ∀ d p, q = d :: p → isIn d.toNat = false) (n : Nat) : AtomD (n + 1) r [nd2 ⟨#[c]⟩] q :=
 .inr (.inr (.inr ⟨[c], ⟨h, hc, hq⟩, rfl⟩))
theorem item_one {c : UInt8} {r q : List UInt8} (h : sk r = c :: q) (hc : nmB [c] = true) (hq : ∀ d p, q = d :: p → isIn d.toNat = false) (n : Nat) (h1 : (sk q).head? ≠ some 42) (h2 : (sk q).head? ≠ some 43) (h3 : (sk q).head? ≠ some 63) : ItemOf (AtomD (n + 1)) r [nd2 ⟨#[c]⟩] (sk q) :=
 ⟨_, _, word_one h hc hq n, .done h1 h2 h3⟩
end Go.Rx
namespace Go.Proofs.YtngpjagpeblbjaaGreatDoor
open Go.RowKit Go.Spy Go.Heaped Go.Tour Go.Rx
theorem wReads : ExprOf (AtomD 1) [97, 44, 98, 42] (post wT) [] := by
 have ha : ItemOf (AtomD 1) [97, 44, 98, 42] [nd2 (ba [97])] [44, 98, 42] :=
  item_one (c := 97) (q := [44, 98, 42]) rfl rfl (fun d p e => by cases e; rfl) 0 (by decide) (by decide) (by decide)
 have hstar : ItemOf (AtomD 1) [98, 42] (manyL [nd2 (ba [98])]) [] :=
  ⟨_, [42], word_one (c := 98) (q := [42]) rfl rfl (fun d p e => by cases e; rfl) 0, .star (q := []) rfl (by decide) (.done (r := []) (by decide) (by decide) (by decide))⟩
 have hseq : SeqOf (AtomD 1) [97, 44, 98, 42] (post wT) [] :=
  ⟨[[nd2 (ba [97])], manyL [nd2 (ba [98])]], .more ha (q' := [98, 42]) rfl (.last hstar (by decide)), rfl, by rw [wL_post]; decide⟩
 exact ⟨[post wT], .last hseq (by decide), rfl, by rw [wL_post]; decide⟩
theorem wOk : okT wT := ⟨rfl, rfl⟩
theorem names_of_post {t : RT ByteArray} (h : okT t) : NamesOk (post t) := fun i n hn ho => by
 rw [nm_eq]; exact names_post h n (List.mem_of_getElem? hn) ho
theorem wParse (w : World) : Calls Tryz.prog 41 #[.string ⟨#[97, 44, 98, 42]⟩] w fun e w' => ∃ ao c, e = .returned (.tuple #[.agg #[.slice ao 4 c], .int .i64 0]) ∧ NodesV w' ao wL ∧ Ext w w' := by
 refine (parse_any (s := ⟨#[97, 44, 98, 42]⟩) (by decide) wReads rfl w).mono ?_
 rintro e w' ⟨ao, c, rfl, _, hN, hX⟩
 rw [wL_post] at hN ⊢
 exact ⟨ao, c, rfl, hN, hX⟩
theorem wForm : Rx.Form wL := wL_post ▸ form_post wT
theorem wNames : NamesOk wL := wL_post ▸ names_of_post wOk
theorem wMake {w : World} {ao : Option Addr} {c : Nat} (hN : NodesV w ao wL) (hT : TabW w) : Calls Tryz.prog 22 #[.agg #[.slice ao 4 c], .slice none 0 0] w fun e w' => ∃ x, e = .returned (.tuple #[.agg x, .int .i64 0]) ∧ DfaW w' (.agg x) wD ∧ Ext w w' := by
 have h := make_good (cap := c) wForm hN wNames (by decide) hT (vM := .slice none 0 0) (more := []) ⟨none, 0, rfl, .inl rfl⟩ (by decide) (fun x hx => by cases hx)
 rw [wS_syms] at h
 refine Calls.mono h ?_
 rintro e w' ⟨hx, ⟨i, v, hf, _, rfl, hD⟩ | ⟨i, hi, _⟩⟩
 ·rw [wTourD hf] at hD
  have hD' := hD
  obtain ⟨vS, vN, vF, us, rfl, _⟩ := hD
  exact ⟨_, rfl, ⟨hD', wBnd, wWell⟩, hx⟩
 ·exfalso
  have h1 := (full_keys (n := i) wFull).length_le
  rw [show (tourN (succS wL wS) startS 4).keys.length = 4 from wFull] at h1
  omega
theorem wLen : LenD wD.raw := ⟨⟨by decide, by decide⟩, by decide, by decide, by decide⟩
theorem mild_small {l : List ByteArray} (h1 : l.length ≤ 100000) (h2 : ∀ s ∈ l, s.size ≤ 1000000) : MildS l := ⟨by omega, fun s hs => by have := h2 s hs; omega⟩
theorem read_lit {α : Type} {w : World} {g : Nat} {e : TypeId} {f : α → Array Value} {A : Array Value} {l : List α} {c : Nat} (hb : Blk w g e A) (h : ∀ (j : Nat) (x : α), l[j]? = some x → A[j]? = (f x)[0]?) (hs : ∀ x, ((f x)[0]?).isSome = true) : ReadR w 1 f (.slice (some ⟨g, 0, none⟩) l.length c) l := by
 refine ⟨_, _, rfl, .inr ⟨g, 0, rfl, hb.lt, fun j k x hx hk => ?_⟩⟩
 obtain rfl : k = 0 := by omega
 have h1 := h j x hx
 obtain ⟨v, hv⟩ := Option.isSome_iff_exists.1 (hs x)
 rw [hv] at h1 ⊢
 rw [Nat.zero_add, Nat.mul_one]
 exact hb.cell h1
abbrev wA1 (w : World) : World := w.alloc (.cells #[.string ⟨#[97]⟩, .string ⟨#[98]⟩] 9)
abbrev wA2 (w : World) : World := (wA1 w).alloc (.cells #[.int .i64 1, .int .i64 2] 3)
abbrev wA3 (w : World) : World := (wA2 w).alloc (.cells #[.int .i64 2, .int .i64 3] 3)
abbrev wA4 (w : World) : World := (wA3 w).alloc (.cells #[.int .i64 2, .int .i64 2] 3)
abbrev wA5 (w : World) : World := (wA4 w).alloc (.cells #[.int .i64 2, .int .i64 3] 3)
abbrev wA6 (w : World) : World := (wA5 w).alloc (.cells #[.slice (some ⟨w.heap.size + 1, 0, none⟩) 2 2, .slice (some ⟨w.heap.size + 1 + 1, 0, none⟩) 2 2, .slice (some ⟨w.heap.size + 1 + 1 + 1, 0, none⟩) 2 2, .slice (some ⟨w.heap.size + 1 + 1 + 1 + 1, 0, none⟩) 2 2] 46)
abbrev wA7 (w : World) : World := (wA6 w).alloc (.cells #[.bool false, .bool true, .bool false, .bool true] 4)
theorem wA_ext (w : World) : Ext w (wA7 w) :=
 ((((((((Below.refl w.heap.size w).alloc (Nat.le_refl _) _).alloc (by simp) _).alloc (by simp; omega) _).alloc (by simp; omega) _).alloc (by simp; omega) _).alloc (by simp; omega) _).alloc (by simp; omega) _)
theorem row_lit {w : World} {g : Nat} {a b : Int} (hb : Blk w g 3 #[.int .i64 a, .int .i64 b]) : ReadR w 1 intZ (.slice (some ⟨g, 0, none⟩) 2 2) [a, b] :=
 read_lit (l := [a, b]) hb (fun j x hx => by
  match j, hx with
  | 0, hx => cases hx; rfl
  | 1, hx => cases hx; rfl) (fun x => rfl)
set_option maxRecDepth 10000 in
theorem wLit (w : World) : DfaV (wA7 w) (.agg #[.slice (some ⟨w.heap.size, 0, none⟩) 2 2, .slice (some ⟨w.heap.size + 1 + 1 + 1 + 1 + 1, 0, none⟩) 4 4, .slice (some ⟨w.heap.size + 1 + 1 + 1 + 1 + 1 + 1, 0, none⟩) 4 4]) wD.raw := by
 have b1 : Blk (wA7 w) w.heap.size 9 #[.string ⟨#[97]⟩, .string ⟨#[98]⟩] := ((((((Blk.new _ _ _).alloc _).alloc _).alloc _).alloc _).alloc _).alloc _
 have b2 : Blk (wA7 w) (w.heap.size + 1) 3 #[.int .i64 1, .int .i64 2] := (((((Blk.new' _ _ _ (by simp)).alloc _).alloc _).alloc _).alloc _).alloc _
 have b3 : Blk (wA7 w) (w.heap.size + 1 + 1) 3 #[.int .i64 2, .int .i64 3] := ((((Blk.new' _ _ _ (by simp)).alloc _).alloc _).alloc _).alloc _
 have b4 : Blk (wA7 w) (w.heap.size + 1 + 1 + 1) 3 #[.int .i64 2, .int .i64 2] := (((Blk.new' _ _ _ (by simp)).alloc _).alloc _).alloc _
 have b5 : Blk (wA7 w) (w.heap.size + 1 + 1 + 1 + 1) 3 #[.int .i64 2, .int .i64 3] := ((Blk.new' _ _ _ (by simp)).alloc _).alloc _
 have b6 : Blk (wA7 w) (w.heap.size + 1 + 1 + 1 + 1 + 1) 46 #[.slice (some ⟨w.heap.size + 1, 0, none⟩) 2 2, .slice (some ⟨w.heap.size + 1 + 1, 0, none⟩) 2 2, .slice (some ⟨w.heap.size + 1 + 1 + 1, 0, none⟩) 2 2, .slice (some ⟨w.heap.size + 1 + 1 + 1 + 1, 0, none⟩) 2 2] := (Blk.new' _ _ _ (by simp)).alloc _
 have b7 : Blk (wA7 w) (w.heap.size + 1 + 1 + 1 + 1 + 1 + 1) 4 #[.bool false, .bool true, .bool false, .bool true] := Blk.new' _ _ _ (by simp)
 refine ⟨_, _, _, [.slice (some ⟨w.heap.size + 1, 0, none⟩) 2 2, .slice (some ⟨w.heap.size + 1 + 1, 0, none⟩) 2 2, .slice (some ⟨w.heap.size + 1 + 1 + 1, 0, none⟩) 2 2, .slice (some ⟨w.heap.size + 1 + 1 + 1 + 1, 0, none⟩) 2 2], rfl, ?_, ?_, rfl, ?_, ?_⟩
 ·refine read_lit (l := wS) b1 (fun j x hx => ?_) (fun x => rfl)
  match j, hx with
  | 0, hx => cases hx; rfl
  | 1, hx => cases hx; rfl
 ·refine read_lit (f := oneA) (l := [.slice (some ⟨w.heap.size + 1, 0, none⟩) 2 2, .slice (some ⟨w.heap.size + 1 + 1, 0, none⟩) 2 2, .slice (some ⟨w.heap.size + 1 + 1 + 1, 0, none⟩) 2 2, .slice (some ⟨w.heap.size + 1 + 1 + 1 + 1, 0, none⟩) 2 2]) b6 (fun j x hx => ?_) (fun x => rfl)
  match j, hx with
  | 0, hx => cases hx; rfl
  | 1, hx => cases hx; rfl
  | 2, hx => cases hx; rfl
  | 3, hx => cases hx; rfl
 ·intro i u r hu hr
  match i, hu, hr with
  | 0, hu, hr => cases hu; cases hr; exact row_lit b2
  | 1, hu, hr => cases hu; cases hr; exact row_lit b3
  | 2, hu, hr => cases hu; cases hr; exact row_lit b4
  | 3, hu, hr => cases hu; cases hr; exact row_lit b5
 ·refine read_lit (l := [false, true, false, true]) b7 (fun j x hx => ?_) (fun x => rfl)
  match j, hx with
  | 0, hx => cases hx; rfl
  | 1, hx => cases hx; rfl
  | 2, hx => cases hx; rfl
  | 3, hx => cases hx; rfl
theorem word_lit (w : World) : ReadR (w.alloc (.cells #[.string ⟨#[97]⟩] 9)) 1 strC (.slice (some ⟨w.heap.size, 0, none⟩) 1 1) [ba [97]] := by
 refine read_lit (l := [ba [97]]) (Blk.new _ _ _) (fun j x hx => ?_) (fun x => rfl)
 match j, hx with
 | 0, hx => cases hx; rfl
set_option maxRecDepth 100000 in
set_option maxHeartbeats 2000000 in
theorem awake8_any {w : World} (hT : TabW w) : Calls Tryz.prog 13 #[] w fun e w' => e = .returned (.bool true) ∧ Ext w w' := by
 have HT := hid hT
 clear hT
 go_enter Tryz.func13, Tryz.ntmps13
 go_wp2_with fail
 refine (wParse _).mono ?_
 rintro e w1 ⟨ao, c, rfl, hN, hx1⟩
 have HX1 := hid hx1
 obtain ⟨w2, hw2⟩ : ∃ u, u = w1.alloc (.cells #[.slice ao 4 c] 45) := ⟨_, rfl⟩
 have e2 : Ext w1 w2 := hw2 ▸ (Below.refl _ _).alloc (Nat.le_refl _) _
 have HN2 := hid (hN.ext e2)
 have HX2 := hid (hx1.trans (e2.mono hx1.size))
 have HW2 := hid hw2
 clear hN hx1 hw2 e2
 go_wp2_with fail
 rw [← HW2.out]
 refine (wMake (c := c) HN2.out (HT.out.ext HX2.out)).mono ?_
 rintro e w3 ⟨x, rfl, hD, hx3⟩
 obtain ⟨aoS, n1, cS, aoN, n2, cN, aoF, n3, cF, rfl⟩ := hD.open_
 have HX3 := hid (HX2.out.trans (hx3.mono HX2.out.size))
 obtain ⟨w4, hw4⟩ : ∃ u, u = w3.alloc (.cells #[.slice aoS n1 cS, .slice aoN n2 cN, .slice aoF n3 cF] 26) := ⟨_, rfl⟩
 have e4 : Ext w3 w4 := hw4 ▸ (Below.refl _ _).alloc (Nat.le_refl _) _
 have HD4 := hid (hD.ext e4)
 have HB4 : Hid (Blk w4 w3.heap.size 26 #[.slice aoS n1 cS, .slice aoN n2 cN, .slice aoF n3 cF]) := hid (hw4 ▸ Blk.new _ _ _)
 have HX4 := hid (HX3.out.trans (e4.mono HX3.out.size))
 have HW4 := hid hw4
 clear hD hx3 hw4 e4
 go_wp2_with fail
 rw [← HW4.out]
 refine (least_any HD4.out).mono ?_
 rintro e w5 ⟨hx5, ⟨v, u, rfl, hR, _, hu1, hu2, hu3⟩ | ⟨_, hno⟩⟩
 rotate_left
 ·exact absurd (hno [0]) (by decide)
 rw [wLeast hu1 hu2 hu3] at hR
 have hX5 := HX4.out.trans (hx5.mono HX4.out.size)
 have hB5 := HB4.out.ext hx5
 have HR := hid hR
 have HX5 := hid hX5
 have HD5 := hid (HD4.out.ext hx5)
 have HB5 := hid hB5
 obtain ⟨aoU, cU, rfl, _⟩ := hR.form
 obtain ⟨w6, hw6⟩ : ∃ u, u = w5.alloc (.cells #[.string ⟨#[97]⟩] 9) := ⟨_, rfl⟩
 have e6 : Ext w5 w6 := hw6 ▸ (Below.refl _ _).alloc (Nat.le_refl _) _
 have HTX := hid (texts_rd (HR.out.ext e6) (hw6 ▸ word_lit w5) (mild_small (by decide) (by decide)) (mild_small (by decide) (by decide)))
 have HE6 := hid e6
 have HW6 := hid hw6
 clear hR hu1 hu2 hu3 hx5 hX5 hB5 hw6 e6
 go_wp2_with fail
 rw [← HW6.out]
 refine HTX.out.mono ?_
 rintro e w7 ⟨rfl, hx7⟩
 simp only [decide_true]
 have hE7 := HE6.out.trans (hx7.mono HE6.out.size)
 have HX7 := hid (HX5.out.trans (hE7.mono HX5.out.size))
 have HD7 := hid (HD5.out.ext hE7)
 have hB7 := HB5.out.ext hE7
 have c0 : w7.cell? ⟨w3.heap.size, 0, none⟩ = some (.slice aoS n1 cS) := hB7.cell (i := 0) rfl
 have c1 : w7.cell? ⟨w3.heap.size, 1, none⟩ = some (.slice aoN n2 cN) := hB7.cell (i := 1) rfl
 have c2 : w7.cell? ⟨w3.heap.size, 2, none⟩ = some (.slice aoF n3 cF) := hB7.cell (i := 2) rfl
 have lb := hB7.lt
 clear hx7 hE7 hB7
 go_wp2_with fail
 refine (plain8_any w7 aoS aoN aoF n1 n2 n3 cS cN cF).mono ?_
 rintro e w8 ⟨rfl, hx8⟩
 have HX8 := hid (HX7.out.trans (hx8.mono HX7.out.size))
 have HD8 := hid (HD7.out.ext hx8)
 have HSM := hid (same_any (HD8.out.ext (wA_ext w8)).at_ (wLit w8) wLen wLen rfl rfl)
 have HXA := hid (HX8.out.trans ((wA_ext w8).mono HX8.out.size))
 clear hx8 c0 c1 c2 lb
 go_wp2_with fail
 refine HSM.out.mono ?_
 rintro e w9 ⟨rfl, hx9⟩
 rw [sameD_iff.2 rfl]
 have HX9 := hid (HXA.out.trans (hx9.mono HXA.out.size))
 clear hx9
 go_wp2_with fail
 go_ret
 exact ⟨rfl, HX9.out⟩
end Go.Proofs.YtngpjagpeblbjaaGreatDoor
namespace Go.Proofs.YtngpjagpeblbjaaGreatDoor
open Go.RowKit Go.Spy Go.Heaped Go.Tour Go.Rx
def bothF (A B : DA) (p : Pr) : Bool := finS A p.1.1 && finS B p.1.2
end Go.Proofs.YtngpjagpeblbjaaGreatDoor
namespace Go.Proofs.YtngpjagpeblbjaaGreatDoor
open Go.RowKit Go.Spy Go.Heaped Go.Tour Go.Rx
section
variable {D : DA}
end
def TruePost (w : World) (e : Ending) (w' : World) : Prop := e = .returned (.bool true) ∧ Ext w w'
end Go.Proofs.YtngpjagpeblbjaaGreatDoor
namespace Go.Spy
open Go.RowKit
theorem wpAnyH_takeN {P : Program} {md : Region.Mode} {w : World} {S : World → Prop} {Q : Exit → Act → World → Prop} {l : List Oper} (k g : Nat) {fuel : Nat} {listed : Array Bool} (goal : Array Bool) {a a' : Act} {o : Oper} (ho : l[k]? = some o)
 (hB : (Region.noSelect l.toArray && Region.free md l.toArray listed k && (Region.ready md l.toArray listed).contains k && sameB (listed.setIfInBounds k true) goal) = true) (hf : fuel = g + 1)
 (v : Value) (hQ : ∀ c a w, Q (.panic c) (a.put o.dst v) w → Q (.panic c) a w) (hy : YieldsIf P l.toArray S o v a) (hS : S w)
 (ha : a.put o.dst v = a') (h : wpAnyH P md l.toArray Q S g goal a' w) : wpAnyH P md l.toArray Q S fuel listed a w := by
 subst ha
 exact wpAnyH_takeK k g goal ho hB hf v hQ hy hS h
end Go.Spy
namespace Go.Proofs.YtngpjagpeblbjaaGreatDoor
open Go.RowKit Go.Spy Go.Heaped Go.Tour Go.Rx
section
variable {A B D : DA}
end
end Go.Proofs.YtngpjagpeblbjaaGreatDoor
namespace Go.Proofs.YtngpjagpeblbjaaGreatDoor
open Go.ChangeShapes Go.WideShapes Go.ChangeAt Go.WideMaps Go.WideElems Go.RowKit Go.Spy Go.Rx
def laidR {H : Type} : List (String × DataW H) := [("math/bits.deBruijn64tab", Rows.laid_math_bits_deBruijn64tab)]
theorem ownZ : ownKnob Tryz.prog.godebug = none := by kernel_rfl
theorem gTab : Tryz.prog.globalNamed "math/bits.deBruijn64tab" = some 0 := by kernel_rfl
theorem tTab : (Tryz.prog.globals[(0 : Nat)]?).map (·.type) = some 206 := by kernel_rfl
theorem door_met (os : Os) (args : Array Value) : laidMetH Tryz.prog laidR ((World.doorLaid Tryz.prog 400 os).forCall (fun _ _ => 0) ⟨#[], args, []⟩).memory :=
 laidMetH_of_parts3 (fuel := 8) (laidMet_of_run' 8 (by kernel_rfl) (by kernel_rfl)) (by kernel_rfl) (by kernel_rfl)
theorem block_of_cell {w : World} {b o : Nat} {v : Value} (h : w.cell? ⟨b, o, none⟩ = some v) : ∃ vs t ls, w.heap[b]? = some (.cells vs t ls) ∧ vs[o]? = some v := by
 simp only [World.cell?] at h
 split at h
 ·exact ⟨_, _, _, by assumption, by simpa using h⟩
 ·cases h
theorem cu8 : Tryz.prog.cellsOf 5 = 1 := by kernel_rfl
theorem laid_list {H : Type} : (Rows.laid_math_bits_deBruijn64tab : DataW H) = .agg (Lib.deBruijn64tab.map fun (k : Nat) => .lit (.int .u8 (k : Int))) := by kernel_rfl
theorem tab_of_laid {W : World} (h : laidMetH Tryz.prog laidR W) : TabW W := by
 rw [MakeChecks.laidMetH_plain _ _ _ (by kernel_rfl)] at h
 obtain ⟨ps, ⟨g0, t0, cs0, f0, p0, q0, hg0, ht0, hv0, hd0, _⟩, _⟩ := h
 obtain rfl := Option.some.inj (gTab.symm.trans hg0)
 obtain rfl := Option.some.inj (tTab.symm.trans ht0)
 obtain ⟨xs, m1, rfl, hx1, hlen, hn3, hel⟩ := DataW.trod_array Tryz.underlying206 hd0
 simp only [Prod.mk.injEq] at hx1
 have hmap : xs.map (·.1) = Lib.deBruijn64tab.map fun (k : Nat) => (.lit (.int .u8 (k : Int)) : DataW _) := by
  have := hx1.1
  rw [laid_list] at this
  simp only [DataW.agg.injEq] at this
  exact this.symm
 have key : ∀ i, i < 64 → W.cell? ⟨0, i, none⟩ = some (.int .u8 (Lib.deBruijn64tab.getD i 0)) := by
  intro i hi
  obtain ⟨x, hx⟩ : ∃ x, xs[i]? = some x := ⟨xs[i], List.getElem?_eq_getElem (by omega)⟩
  have h1 := hel i hi
  rw [hx, cu8, Nat.mul_one] at h1
  obtain ⟨z, e1, e2, _⟩ := DataW.trod_int Tryz.underlying5 h1
  have hc : cs0.toList[i]? = some (.int .u8 z) := by
   have := congrArg List.head? e1
   simpa [List.head?_take, List.head?_drop] using this
  have hd : (xs.map (·.1))[i]? = some (.lit (.int .u8 z)) := by rw [List.getElem?_map, hx, e2]; rfl
  rw [hmap, List.getElem?_map] at hd
  have hl64 : Lib.deBruijn64tab.length = 64 := rfl
  have hz : z = (Lib.deBruijn64tab.getD i 0 : Nat) := by
   rw [List.getElem?_eq_getElem (by omega)] at hd
   simp only [Option.map_some, Option.some.injEq, DataW.lit.injEq, Lit.int.injEq, true_and] at hd
   rw [← hd, List.getD_eq_getElem?_getD, List.getElem?_eq_getElem (by omega)]; rfl
  subst hz
  have := World.var?_cell hg0 hv0 i
  rw [this]
  simpa using hc
 obtain ⟨vs, t, ls, hb, _⟩ := block_of_cell (key 0 (by omega))
 refine ⟨vs, t, ls, hb, fun j hj => ?_⟩
 obtain ⟨vs', t', ls', hb', hv⟩ := block_of_cell (key j hj)
 rw [hb] at hb'
 cases hb'
 exact hv
theorem spot_none {W : World} {a : Addr} {v : Value} (h : W.cell? a = some v) : a = ⟨a.block, a.off, none⟩ := by
 obtain ⟨b, o, s⟩ := a
 cases s with
 | none => rfl
 | some s =>
   simp only [World.cell?] at h
   split at h
   ·simp at h
   ·cases h
theorem laidOut : laidOutB Tryz.prog = true := by kernel_rfl
end Go.Proofs.YtngpjagpeblbjaaGreatDoor
namespace Go.Proofs.YtngpjagpeblbjaaGreatDoor
open Go.ChangeShapes Go.WideShapes Go.ChangeAt Go.WideMaps Go.WideElems Go.RowKit Go.Spy Go.Heaped Go.Tour Go.Rx
theorem c3 : Tryz.prog.cellsOf 3 = 1 := by kernel_rfl
theorem c4 : Tryz.prog.cellsOf 4 = 1 := by kernel_rfl
theorem c9 : Tryz.prog.cellsOf 9 = 1 := by kernel_rfl
theorem b4 : Tryz.prog.bytesOf 4 = 1 := by kernel_rfl
theorem b9 : Tryz.prog.bytesOf 9 = 16 := by kernel_rfl
theorem read_of_add {α : Type} {W : World} {f : α → Array Value} {a : Addr} {l : List α} {c : Nat} (h : ∀ (i : Nat) (x : α), l[i]? = some x → ∃ v, (f x)[0]? = some v ∧ W.cell? (a.add i) = some v) : ReadR W 1 f (.slice (some a) l.length c) l := by
 refine ⟨_, _, rfl, ?_⟩
 rcases Nat.eq_zero_or_pos l.length with h0 | h0
 ·exact .inl h0
 obtain ⟨x0, hx0⟩ : ∃ x, l[0]? = some x := ⟨_, List.getElem?_eq_getElem h0⟩
 obtain ⟨v0, _, hc0⟩ := h 0 x0 hx0
 have ha : a.add 0 = a := by simp [Addr.add]
 rw [ha] at hc0
 have hsp := spot_none hc0
 refine .inr ⟨a.block, a.off, by rw [← hsp], World.block_lt_of_cell? W a hc0, fun j k x hx hk => ?_⟩
 obtain rfl : k = 0 := by omega
 obtain ⟨v, hv, hc⟩ := h j x hx
 rw [hv]
 rw [hsp, Addr.add_lit] at hc
 simpa using hc
theorem read_none {α : Type} {W : World} {f : α → Array Value} : ReadR W 1 f (.slice none 0 0) ([] : List α) := ⟨none, 0, rfl, .inl rfl⟩
end Go.Proofs.YtngpjagpeblbjaaGreatDoor
