/-
  Walk of the reference's Check.
  What the reference's First answers where there is no second automaton, and where there is one; its Check at a value.
  How an argument that is an automaton is opened.
  Memory of the reference's automata of tours: the states in lists of numbers, the rows, what is final; the row under way.
  Memory of the reference's alike: the table of rows of Bools, the list of least states; cells of an automaton.
  Walk of the reference's alike: of each state the least one that matches the same.
  Walk of the reference's Small: its automaton is the least one.
-/
import Derived.Test.YtngpjagpeblbjaaGreatDoorC04
import Derived.Test.YtngpjagpeblbjaaGreatDoorC05
import Derived.Test.YtngpjagpeblbjaaGreatDoorC01
import Derived.Deep.Matrix
import Derived.Deep.Grids
import Derived.Deep.Strs
import Derived.Test.YtngpjagpeblbjaaGreatDoorRows
import Derived.ProofKit
import Derived.LaidMore
import Derived.OpenShut
import Derived.Stop.Joined
import Derived.Lib.SmallJoins
import Derived.Deep.SlicePairs
import Derived.Lib.TrailingZeros
import Derived.Deep.AppendLies
import Derived.BigRegion
import Derived.OwnWalk
import Derived.Deep.Draws
import Derived.Laws.ResultCell
import Derived.Laws.CopyRow
import Derived.Laws.OwnMore
import Derived.WalkKit
import Derived.WalkSpells
import Derived.WalkLawsBesides
import Derived.Deep.LoopGhost
import Derived.Deep.DeepCutAuto
import Derived.StillTailTactics
import Derived.Deep.QuietTactic
import Derived.BigQuiet
import Derived.IntWalk
import Derived.Sort.OwnSorted
import Derived.Sort.Grow
import Derived.Lib.OwnBridge
import Derived.Outline
import Derived.Deep.CutBlock
import Derived.Deep.OwnRows
import Derived.Deep.RegionLaw
import Derived.StillTail
import Derived.StillTactics
import Derived.OrdersHeld
import Derived.Shelf.Sort.Plain
import Derived.Shelf.Slices.Turned
import Derived.Ground.Names2Prog
import Derived.Shelf.Slices.ReverseS
import Derived.Shelf.Slices.Clone
import Derived.Shelf.Slices.CompactS
import Derived.Shelf.Slices.SearchI
import Derived.Shelf.Slices.Cells
import Derived.Shelf.Slices.In.SortNone
import Derived.Test.YtngpjagpeblbjaaGreatDoorProg
import Derived.Deep.Cut
import Derived.Lib.SlicesCompact
import Derived.Lib.RowBridge
namespace Go.Proofs.YtngpjagpeblbjaaGreatDoor
open Go.RowKit Go.Spy Go.Heaped Go.Tour Go.Rx
set_option maxRecDepth 100000 in
set_option maxHeartbeats 4000000 in
theorem rcheck_any {w : World} {vS vN vF : Value} {us : List Value} {d : DR} (hP : DfaP w vS vN vF us d) (hB : BndD d) : Calls Tryz.prog 33 #[.agg #[vS, vN, vF]] w (ErrP (checkE nameOk d) w) := by
 obtain ⟨aoS, cS, rfl, hS⟩ := hP.syms.form
 obtain ⟨aoN, cN, rfl, hN⟩ := hP.next.form
 obtain ⟨aoF, cF, rfl, hF⟩ := hP.fin.form
 rw [hP.len] at hN
 obtain ⟨E, hE⟩ : ∃ E, E = checkE nameOk d := ⟨_, rfl⟩
 rw [← hE]
 obtain ⟨m, hm⟩ : ∃ m, m = d.syms.length := ⟨_, rfl⟩
 obtain ⟨n, hn⟩ : ∃ n, n = d.next.length := ⟨_, rfl⟩
 obtain ⟨k, hk⟩ : ∃ k, k = d.fin.length := ⟨_, rfl⟩
 have hbm : m ≤ 1000 := hm ▸ hB.s
 have hbn : n ≤ 1000 := hn ▸ hB.n
 have hbk : k ≤ 1000 := hk ▸ hB.f
 have HP := hid hP
 rw [hP.len, ← hn] at HP ⊢
 rw [← hm] at HP ⊢
 rw [← hk] at HP ⊢
 have HB := hid hB
 have HE := hid hE
 have HM := hid hm
 have HN := hid hn
 have HK := hid hk
 clear hP hB hE hm hn hk hF
 have HX0 : Hid (Ext w (w.alloc (.cells #[.slice aoS m cS, .slice aoN n cN, .slice aoF k cF] 40)) ∧ Blk (w.alloc (.cells #[.slice aoS m cS, .slice aoN n cN, .slice aoF k cF] 40)) w.heap.size 40 #[.slice aoS m cS, .slice aoN n cN, .slice aoF k cF]) := hid ⟨(Below.refl _ _).alloc (Nat.le_refl _) _, Blk.new _ _ _⟩
 by_cases h1 : 256 < n
 ·have d1 : decide (256 < n) = true := decide_eq_true h1
  have d1' : decide ((256 : Int) < (n : Int)) = true := decide_eq_true (by omega)
  go_enter Tryz.func33, Tryz.ntmps33
  go_wp2_with fail
  go_ret
  exact ⟨by rw [HE.out, checkE, if_pos (.inl (HN.out ▸ h1))]; rfl, HX0.out.1⟩
 ·have d1 : decide (256 < n) = false := decide_eq_false h1
  have d1' : decide ((256 : Int) < (n : Int)) = false := decide_eq_false (by omega)
  by_cases h2 : 256 < k
  ·have d2 : decide (256 < k) = true := decide_eq_true h2
   have d2' : decide ((256 : Int) < (k : Int)) = true := decide_eq_true (by omega)
   go_enter Tryz.func33, Tryz.ntmps33
   go_wp2_with fail
   go_ret
   exact ⟨by rw [HE.out, checkE, if_pos (.inr (HK.out ▸ h2))]; rfl, HX0.out.1⟩
  ·have d2 : decide (256 < k) = false := decide_eq_false h2
   have d2' : decide ((256 : Int) < (k : Int)) = false := decide_eq_false (by omega)
   have E1 : Hid (¬ (256 < d.next.length ∨ 256 < d.fin.length)) := hid (by rw [← HN.out, ← HK.out]; omega)
   by_cases h3 : n < 1
   ·have d3 : decide (n < 1) = true := decide_eq_true h3
    have d3' : decide ((n : Int) < 1) = true := decide_eq_true (by omega)
    go_enter Tryz.func33, Tryz.ntmps33
    go_wp2_with fail
    go_ret
    exact ⟨by rw [HE.out, checkE, if_neg E1.out, if_pos (.inl (by rw [← HN.out]; omega))]; rfl, HX0.out.1⟩
   ·have d3 : decide (n < 1) = false := decide_eq_false h3
    have d3' : decide ((n : Int) < 1) = false := decide_eq_false (by omega)
    by_cases h4 : k = n
    ·have d4 : ((k : Int) != (n : Int)) = false := by simp [h4]
     have H4 := hid h4
     clear h4
     have E2 : Hid (¬ (d.next.length = 0 ∨ d.fin.length ≠ d.next.length)) := hid (by rw [← HN.out, ← HK.out]; have := H4.out; omega)
     go_enter Tryz.func33, Tryz.ntmps33
     go_wp2_with fail
     go_loopg [4] n (fun g u wr => ∃ j, g = n - j ∧ j ≤ n ∧ u = .int .i64 j ∧ Hid (Ext w wr ∧ Blk wr w.heap.size 40 #[.slice aoS m cS, .slice aoN n cN, .slice aoF k cF]) ∧ Hid (∀ i r, i < j → d.next[i]? = some r → rowBad d.syms.length d.next.length r = false))
     case atStart => exact ⟨0, rfl, Nat.zero_le _, rfl, HX0, hid (fun i r h => by omega)⟩
     case round =>
      obtain ⟨j, rfl, hj, rfl, HX, HG⟩ := hrel
      have b0 : wr.cell? ⟨w.heap.size, 0, none⟩ = some (.slice aoS m cS) := HX.out.2.cell (i := 0) rfl
      have b1 : wr.cell? ⟨w.heap.size, 1, none⟩ = some (.slice aoN n cN) := HX.out.2.cell (i := 1) rfl
      have lb := HX.out.2.lt
      by_cases hlt : j < n
      ·obtain ⟨gN, off, rfl⟩ := hN (by rw [← HN.out]; omega)
       obtain ⟨r, hr⟩ : ∃ r, d.next[j]? = some r := ⟨_, List.getElem?_eq_getElem (by rw [← HN.out]; omega)⟩
       obtain ⟨ao, c, hu, hR⟩ := HP.out.row hr
       obtain ⟨rl, hrl⟩ : ∃ n, n = r.length := ⟨_, rfl⟩
       have hrb : rl ≤ 1000 := hrl ▸ HB.out.r r (List.mem_of_getElem? hr)
       obtain ⟨_, _, _, hgR⟩ := hR.form
       rw [← hrl] at hR hu
       have HC1 : Hid (∀ wr, Ext w wr → wr.cell? ⟨gN, off + j, none⟩ = some (.slice ao rl c)) := hid fun wr e => (HP.out.next.ext e).cell1 hu
       have c1 := HC1.out wr HX.out.1
       have HR := hid hR
       have HRL := hid hrl
       have HRR := hid hr
       have i0 : (0 : Int) ≤ (j : Int) := by omega
       have i1 : (j : Int) < (n : Int) := by omega
       clear hu hR hr hrl hgR
       by_cases hL : rl = m
       ·have d5 : ((rl : Int) != (m : Int)) = false := by simp [hL]
        have HL := hid hL
        clear hL
        go_wp2_with fail
        go_quiet (fail)
        go_wp2_with fail
        obtain ⟨wa, hwa⟩ : ∃ x, x = wr := ⟨_, rfl⟩
        subst hwa
        clear b0 b1 lb c1
        go_loopg [5] rl (fun g u wr => ∃ q, g = rl - q ∧ q ≤ rl ∧ u = .int .i64 q ∧ Hid (Ext w wr ∧ Blk wr w.heap.size 40 #[.slice aoS m cS, .slice (some ⟨gN, off, none⟩) n cN, .slice aoF k cF]) ∧ Hid (∀ i z, i < q → r[i]? = some z → ¬ z < 0 ∧ ¬ (n : Int) ≤ z))
        case atStart => exact ⟨0, rfl, Nat.zero_le _, rfl, hid ⟨ext_drewN HX.out.1 _, HX.out.2.drewN _⟩, hid (fun i r h => by omega)⟩
        case round =>
         obtain ⟨q, rfl, hq, rfl, HY, HH⟩ := hrel
         have b1 : wr.cell? ⟨w.heap.size, 1, none⟩ = some (.slice (some ⟨gN, off, none⟩) n cN) := HY.out.2.cell (i := 1) rfl
         have lb := HY.out.2.lt
         have c1 := HC1.out wr HY.out.1
         by_cases hql : q < rl
         ·obtain ⟨gR, oR, rfl⟩ : ∃ g off, ao = some ⟨g, off, none⟩ := by
           obtain ⟨ao', c', e, hg⟩ := HR.out.form
           simp only [Value.slice.injEq] at e
           rw [e.1]
           exact hg (by rw [← HRL.out]; omega)
          obtain ⟨z, hz⟩ : ∃ z, r[q]? = some z := ⟨_, List.getElem?_eq_getElem (by rw [← HRL.out]; exact hql)⟩
          have c2 : wr.cell? ⟨gR, oR + q, none⟩ = some (.int .i64 z) := by
           have h := HR.out.ext HY.out.1
           rw [HRL.out] at h
           exact h.cell1 hz
          have HZ := hid hz
          have HBAD : Hid (z < 0 ∨ (n : Int) ≤ z → E = 12) := hid fun hb => by
           rw [HE.out, checkE, if_neg E1.out, if_neg E2.out, if_pos (List.any_eq_true.2 ⟨r, List.mem_of_getElem? HRR.out, ?_⟩)]
           unfold rowBad
           rw [Bool.or_eq_true]
           refine .inr (List.any_eq_true.2 ⟨z, List.mem_of_getElem? HZ.out, ?_⟩)
           rw [← HN.out]
           simpa using hb
          clear hz
          by_cases z0 : z < 0
          ·have t0 : decide (z < 0) = true := decide_eq_true z0
           go_wp2_with fail
           go_ret
           exact ⟨by rw [HBAD.out (.inl z0)]; rfl, HY.out.1⟩
          ·have t0 : decide (z < 0) = false := decide_eq_false z0
           by_cases zn : (n : Int) ≤ z
           ·have t1 : decide ((n : Int) ≤ z) = true := decide_eq_true zn
            go_wp2_with fail
            go_ret
            exact ⟨by rw [HBAD.out (.inr zn)]; rfl, HY.out.1⟩
           ·have t1 : decide ((n : Int) ≤ z) = false := decide_eq_false zn
            go_wp2_with fail
            go_roundg (rl - (q + 1))
            case measure => omega
            case rel =>
             refine ⟨q + 1, rfl, by omega, by go_num, HY, hid fun i y hi hy => ?_⟩
             by_cases e : i = q
             ·subst e; rw [HZ.out] at hy; cases hy; exact ⟨z0, zn⟩
             ·exact HH.out i y (by omega) hy
         ·have HRB : Hid (rowBad d.syms.length d.next.length r = false) := hid (by
           unfold rowBad
           rw [Bool.or_eq_false_iff]
           refine ⟨decide_eq_false (by rw [← HRL.out, ← HM.out]; simpa using HL.out), ?_⟩
           rw [List.any_eq_false]
           intro z hz
           obtain ⟨i, hi⟩ := List.getElem?_of_mem hz
           obtain ⟨h1, h2⟩ := HH.out i z (by have := (List.getElem?_eq_some_iff.1 hi).1; rw [← HRL.out] at this; omega) hi
           rw [← HN.out]
           simp only [Bool.or_eq_true, decide_eq_true_eq, not_or]
           exact ⟨h1, h2⟩)
          go_wp2_with fail
          go_roundg (n - (j + 1))
          case measure => omega
          case rel =>
           refine ⟨j + 1, rfl, by omega, by go_num, HY, hid fun i q' hi hq' => ?_⟩
           by_cases e : i = j
           ·subst e; rw [HRR.out] at hq'; cases hq'; exact HRB.out
           ·exact HG.out i q' (by omega) hq'
       ·have d5 : ((rl : Int) != (m : Int)) = true := by simp; omega
        have HL := hid hL
        clear hL
        go_wp2_with fail
        go_quiet (fail)
        go_wp2_with fail
        go_ret
        refine ⟨?_, ext_drewN HX.out.1 _⟩
        rw [HE.out, checkE, if_neg E1.out, if_neg E2.out, if_pos (List.any_eq_true.2 ⟨r, List.mem_of_getElem? HRR.out, by unfold rowBad; rw [← HRL.out, ← HM.out, decide_eq_true HL.out]; rfl⟩)]; rfl
      ·have E3 : Hid (¬ d.next.any (rowBad d.syms.length d.next.length) = true) := hid (by
        rw [List.any_eq_true]
        rintro ⟨r, hr, hb⟩
        obtain ⟨i, hi, rfl⟩ := List.getElem_of_mem hr
        rw [HG.out i _ (by rw [← HN.out] at hi; omega) (List.getElem?_eq_getElem hi)] at hb; cases hb)
       clear HG
       go_wp2_with fail
       obtain ⟨wa, hwa⟩ : ∃ x, x = wr := ⟨_, rfl⟩
       subst hwa
       go_loopg [6] m (fun g u wr => ∃ j, g = m - j ∧ j ≤ m ∧ u = .int .i64 j ∧ Hid (Ext w wr ∧ Blk wr w.heap.size 40 #[.slice aoS m cS, .slice aoN n cN, .slice aoF k cF]) ∧ Hid (∀ i s, i < j → d.syms[i]? = some s → nameOk s = true))
       case atStart => exact ⟨0, rfl, Nat.zero_le _, rfl, HX, hid (fun i r h => by omega)⟩
       case round =>
        clear HX b0 b1 lb
        obtain ⟨j, rfl, hj2, rfl, HX, HG⟩ := hrel
        have b0 : wr.cell? ⟨w.heap.size, 0, none⟩ = some (.slice aoS m cS) := HX.out.2.cell rfl
        have lb := HX.out.2.lt
        by_cases hlt2 : j < m
        ·obtain ⟨g, off, rfl⟩ := hS (by rw [← HM.out]; omega)
         obtain ⟨s, hs⟩ : ∃ s, d.syms[j]? = some s := ⟨_, List.getElem?_eq_getElem (by rw [← HM.out]; omega)⟩
         have c1 : wr.cell? ⟨g, off + j, none⟩ = some (.string s) := by
          have h := HP.out.syms.ext HX.out.1
          rw [HM.out] at h
          exact h.cell1 hs
         have HS := hid hs
         clear hs
         go_wp2_with fail
         refine (name_any s _ (by have := HB.out.b s (List.mem_of_getElem? HS.out); unfold maxLen; omega)).mono ?_
         rintro e w2 ⟨rfl, rfl⟩
         have HX2 := hid HX.out.1
         have HB2 := hid HX.out.2
         cases ha : nameOk s with
         | true =>
           have HA := hid ha
           clear ha
           go_wp2_with fail
           go_roundg (m - (j + 1))
           case measure => omega
           case rel =>
            refine ⟨j + 1, rfl, by omega, by go_num, hid ⟨HX2.out, HB2.out⟩, hid fun i q hi hq => ?_⟩
            by_cases e : i = j
            ·subst e; rw [HS.out] at hq; cases hq; exact HA.out
            ·exact HG.out i q (by omega) hq
         | false =>
           have HA := hid ha
           clear ha
           go_wp2_with fail
           go_ret
           refine ⟨?_, HX2.out⟩
           rw [HE.out, checkE, if_neg E1.out, if_neg E2.out, if_neg E3.out, if_pos (List.any_eq_true.2 ⟨s, List.mem_of_getElem? HS.out, by rw [HA.out]; rfl⟩)]; rfl
        ·have E4 : Hid (¬ (d.syms.any (fun s => !nameOk s)) = true) := hid (by
          rw [List.any_eq_true]
          rintro ⟨r, hr, hb⟩
          obtain ⟨i, hi, rfl⟩ := List.getElem_of_mem hr
          rw [HG.out i _ (by rw [← HM.out] at hi; omega) (List.getElem?_eq_getElem hi)] at hb; cases hb)
         clear HG
         go_wp2_with fail
         obtain ⟨wa, hwa⟩ : ∃ x, x = wr := ⟨_, rfl⟩
         subst hwa
         go_loopg [7] m (fun g u wr => ∃ j, g = m - j ∧ (j + 1 ≤ m ∨ j = 0) ∧ u = .int .i64 ((j + 1 : Nat) : Int) ∧ Hid (Ext w wr ∧ Blk wr w.heap.size 40 #[.slice aoS m cS, .slice aoN n cN, .slice aoF k cF]) ∧ Hid (∀ i x y, i < j → d.syms[i]? = some x → d.syms[i + 1]? = some y → ltB x y = true))
         case atStart => exact ⟨0, rfl, .inr rfl, rfl, HX, hid (fun i r y h => by omega)⟩
         case round =>
          clear HX b0 lb
          obtain ⟨j, rfl, hj3, rfl, HX, HG⟩ := hrel
          have b0 : wr.cell? ⟨w.heap.size, 0, none⟩ = some (.slice aoS m cS) := HX.out.2.cell rfl
          have lb := HX.out.2.lt
          by_cases hlt3 : j + 1 < m
          ·obtain ⟨g, off, rfl⟩ := hS (by rw [← HM.out]; omega)
           obtain ⟨x, hx⟩ : ∃ s, d.syms[j]? = some s := ⟨_, List.getElem?_eq_getElem (by rw [← HM.out]; omega)⟩
           obtain ⟨y, hy⟩ : ∃ s, d.syms[j + 1]? = some s := ⟨_, List.getElem?_eq_getElem (by rw [← HM.out]; omega)⟩
           have hRS : ReadR wr 1 strC (.slice (some ⟨g, off, none⟩) d.syms.length cS) d.syms := by
            have h := HP.out.syms.ext HX.out.1
            rwa [HM.out] at h
           have c1 : wr.cell? ⟨g, off + j, none⟩ = some (.string x) := hRS.cell1 hx
           have c2 : wr.cell? ⟨g, off + (j + 1), none⟩ = some (.string y) := hRS.cell1 hy
           have HXX := hid hx
           have HYY := hid hy
           clear hx hy hRS
           have e1 : IntKind.i64.wrap (((j + 1 : Nat) : Int) - 1) = (j : Int) := by rw [show ((j + 1 : Nat) : Int) - 1 = (j : Int) by omega]; exact IntWalk.i64_in _ (by omega)
           have e2 : IntKind.i64.wrap (j : Int) = (j : Int) := IntWalk.i64_in _ (by omega)
           have g1 : (0 : Int) ≤ (j : Int) := by omega
           have g2 : (j : Int) < (m : Int) := by omega
           have g3 : (0 : Int) ≤ ((j + 1 : Nat) : Int) := by omega
           have g4 : ((j + 1 : Nat) : Int) < (m : Int) := by omega
           cases hb : ltB x y with
           | true =>
             have HBB := hid hb
             have hb2 : Op.bytesLess y.toList x.toList = false := ltB_asymm hb
             have hb3 : (y.toList == x.toList) = false := beqB_false fun e => by rw [e, ltB_irr] at hb; cases hb
             clear hb
             go_upto_region 24 with fail
             go_quiet (fail)
             go_wp2_with fail
             go_roundg (m - (j + 1))
             case measure => omega
             case rel =>
              refine ⟨j + 1, rfl, .inl (by omega), by go_num, hid ⟨ext_drewN HX.out.1 _, HX.out.2.drewN _⟩, hid fun i q r hi hq hr => ?_⟩
              by_cases e : i = j
              ·subst e; rw [HXX.out] at hq; cases hq; rw [HYY.out] at hr; cases hr; exact HBB.out
              ·exact HG.out i q r (by omega) hq hr
           | false =>
             have HBB := hid hb
             have E5 : Hid (chainB d.syms = false) := hid (by
              cases h : chainB d.syms with
              | false => rfl
              | true =>
                have := (chainB_iff.1 h).get (show j < j + 1 by omega) HXX.out HYY.out
                rw [hb] at this; cases this)
             by_cases hyx : y = x
             ·have hb2 : Op.bytesLess y.toList x.toList = false := by rw [hyx]; exact ltB_irr x
              have hb3 : (y.toList == x.toList) = true := beqB_true hyx
              clear hb hyx
              go_upto_region 24 with fail
              go_quiet (fail)
              go_wp2_with fail
              go_ret
              refine ⟨?_, ext_drewN HX.out.1 _⟩
              rw [HE.out, checkE, if_neg E1.out, if_neg E2.out, if_neg E3.out, if_neg E4.out, if_pos E5.out]; rfl
             ·have hb2 : Op.bytesLess y.toList x.toList = true := by
               rcases ltB_total hyx with h | h
               ·exact h
               ·rw [hb] at h; cases h
              clear hb hyx
              go_upto_region 24 with fail
              go_quiet (fail)
              go_wp2_with fail
              go_ret
              refine ⟨?_, ext_drewN HX.out.1 _⟩
              rw [HE.out, checkE, if_neg E1.out, if_neg E2.out, if_neg E3.out, if_neg E4.out, if_pos E5.out]; rfl
          ·go_wp2_with fail
           go_ret
           refine ⟨?_, HX.out.1⟩
           have E5 : ¬ chainB d.syms = false := by
            rw [chainB_iff.2 (chain_rising fun i x y hx hy => HG.out i x y (by have := (List.getElem?_eq_some_iff.1 hy).1; rw [← HM.out] at this; omega) hx hy)]; simp
           rw [HE.out, checkE, if_neg E1.out, if_neg E2.out, if_neg E3.out, if_neg E4.out, if_neg E5]; rfl
    ·have d4 : ((k : Int) != (n : Int)) = true := by simp; omega
     have H4 := hid h4
     clear h4
     go_enter Tryz.func33, Tryz.ntmps33
     go_wp2_with fail
     go_ret
     exact ⟨by rw [HE.out, checkE, if_neg E1.out, if_pos (.inr (by rw [← HN.out, ← HK.out]; exact H4.out))]; rfl, HX0.out.1⟩
end Go.Proofs.YtngpjagpeblbjaaGreatDoor
namespace Go.Proofs.YtngpjagpeblbjaaGreatDoor
open Go.RowKit Go.Spy Go.Heaped Go.Tour Go.Rx
theorem DfaV.partsV {w : World} {a b c : Value} {d : DR} (h : DfaV w (.agg #[a, b, c]) d) : ∃ us, DfaP w a b c us d := by
 obtain ⟨vS, vN, vF, us, e, hP⟩ := h
 simp only [Value.agg.injEq, Array.mk.injEq, List.cons.injEq, and_true] at e
 obtain ⟨rfl, rfl, rfl⟩ := e
 exact ⟨us, hP⟩
theorem rcheck8_any {w : World} {a b c : Value} {d : DR} (h : DfaV w (.agg #[a, b, c]) d) (hB : BndD d) : Calls Tryz.prog 33 #[.agg #[a, b, c]] w (ErrP (checkE nameOk d) w) := by
 obtain ⟨us, hP⟩ := h.partsV
 exact rcheck_any hP hB
theorem fin_two {A B : DA} (W : WellD nameOk A) {u : List Nat} (hu : ∀ c ∈ u, c < A.syms.length) : finF A (finS B) (runL (goF A (goS B)) (0, 0) u) = (langD A u && !matchD B (wordsOf A.syms u)) := by
 rw [runF u _ hu, ← match_words W.rising.nodup hu]
 rfl
theorem mild_nil : MildS [] := ⟨Nat.zero_le _, fun s h => (by cases h)⟩
end Go.Proofs.YtngpjagpeblbjaaGreatDoor
namespace Go.Proofs.YtngpjagpeblbjaaGreatDoor
open Go.ChangeShapes Go.WideShapes Go.ChangeAt Go.WideMaps Go.WideElems Go.RowKit Go.Spy Go.Heaped Go.Tour Go.Rx
theorem c46 : Tryz.prog.cellsOf 46 = 1 := by kernel_rfl
theorem c24 : Tryz.prog.cellsOf 24 = 1 := by kernel_rfl
theorem c23 : Tryz.prog.cellsOf 23 = 1 := by kernel_rfl
theorem c22 : Tryz.prog.cellsOf 22 = 1 := by kernel_rfl
theorem c26 : Tryz.prog.cellsOf 26 = 3 := by kernel_rfl
theorem b46 : Tryz.prog.bytesOf 46 = 24 := by kernel_rfl
open Go.Joins Go.Deep in
set_option maxRecDepth 100000 in
set_option maxHeartbeats 1000000 in
theorem dfa_arg {H : Type} {enc : TypeId × Value → H} {W : World} {base : Nat} {v : Value} {d : DataW H} {p : List MemPlace} (hv : Value.okWide Tryz.prog W .any base 26 v)
 (h : DataW.Trod enc Tryz.prog W 0 (fun _ => true) true 26 v d p) {ts : List TypeId} {ds : List (DataW H)} (hsz : (DataW.weightsEach Tryz.prog ts ds).all (· ≤ reachBytes) = true) {j : Nat} (ht : ts[j]? = some 26) (hd : ds[j]? = some d) :
 ∃ D : DR, DfaV W v D ∧ LenD D := by
 obtain ⟨cs, rfl, hcz⟩ := okWide_struct Tryz.underlying26 hv
 obtain ⟨v0, v1, v2, rfl⟩ : ∃ v0 v1 v2, cs = #[v0, v1, v2] := by
  obtain ⟨l⟩ := cs
  match l, (hcz.trans c26) with
  | [v0, v1, v2], _ => exact ⟨v0, v1, v2, rfl⟩
 obtain ⟨fuel, hf⟩ := h
 obtain ⟨y0, y1, y2, n, hx, _, h0, h1, h2⟩ := trod_struct3 Tryz.underlying26 hf
 simp only [Prod.mk.injEq] at hx
 obtain ⟨rfl, rfl⟩ := hx
 simp only [c22, c23, c24] at h0 h1 h2
 have h0 : DataW.trod enc Tryz.prog W 0 (fun _ => true) true n 22 [v0] = some y0 := by simpa [Value.cells] using h0
 have h1 : DataW.trod enc Tryz.prog W 0 (fun _ => true) true n 23 [v1] = some y1 := by simpa [Value.cells] using h1
 have h2 : DataW.trod enc Tryz.prog W 0 (fun _ => true) true n 24 [v2] = some y2 := by simpa [Value.cells] using h2
 have hsz2 : (DataW.weightsEach Tryz.prog [22, 23, 24] [y0.1, y1.1, y2.1]).all (· ≤ reachBytes) = true := List.all_eq_true.2 fun n hn =>
  List.all_eq_true.1 hsz n (DataW.weights_mem_each ht hd n (by simpa [DataW.weights, Tryz.underlying26] using hn))
 obtain ⟨d0, p0⟩ := y0
 obtain ⟨d1, p1⟩ := y1
 obtain ⟨d2, p2⟩ := y2
 simp only at hsz2
 have hS : ∃ ss : List ByteArray, ReadR W 1 strC v0 ss ∧ MildS ss := by
  rcases open_strings Tryz.underlying22 Tryz.underlying9 c9 h0 with ⟨hcs, _⟩ | ⟨a, len, cap, ss, hcs, _, hl, hm, hz, hx, hcell, hws⟩
  ·simp only [List.cons.injEq, and_true] at hcs
   subst hcs
   exact ⟨[], read_none, ⟨by simp, fun s hs => by cases hs⟩⟩
  ·simp only [List.cons.injEq, and_true] at hcs
   simp only [Prod.mk.injEq] at hx
   obtain ⟨rfl, rfl⟩ := hx
   subst hcs
   simp only [if_true] at hz
   have hreach := sized_slice hsz2 (j := 0) (t := 22) (e := 9) rfl rfl Tryz.underlying22
   rw [b9] at hreach
   simp only [strs, List.length_map, List.length_take, List.length_drop, reachBytes] at hreach
   have htl : (ss.take len).length = len := by simp; omega
   refine ⟨ss.take len, ?_, ⟨by rw [htl]; omega, fun s hs => ?_⟩⟩
   ·have h := read_of_add (W := W) (f := strC) (a := a) (l := ss.take len) (c := cap) (fun i x hx => by
     have hi : i < len := by rw [← htl]; exact (List.getElem?_eq_some_iff.1 hx).1
     refine ⟨.string x, rfl, ?_⟩
     rw [hcell i (by omega)]
     rw [List.getElem?_take_of_lt hi] at hx
     rw [List.getD_eq_getElem?_getD, hx]; rfl)
    rwa [htl] at h
   ·have := hws s (List.mem_of_mem_take hs)
    unfold maxLen at this
    omega
 have hF : ∃ bs : List Bool, ReadR W 1 boolC v2 bs ∧ bs.length ≤ 140737488351232 := by
  rcases open_bools Tryz.underlying24 Tryz.underlying4 c4 h2 with ⟨hcs, _⟩ | ⟨a, len, cap, B, hcs, _, hl, hm, hx, hcell⟩
  ·simp only [List.cons.injEq, and_true] at hcs
   subst hcs
   exact ⟨[], read_none, by simp⟩
  ·simp only [List.cons.injEq, and_true] at hcs
   subst hcs
   simp only [Prod.mk.injEq] at hx
   obtain ⟨rfl, rfl⟩ := hx
   have hreach : len * 1 ≤ reachBytes := by
    have h := List.all_eq_true.1 hsz2
    have h3 := h _ (DataW.weights_mem_each (j := 2) rfl rfl ((len + (cap - len)) * Tryz.prog.bytesOf 4) (by simp [boolRow, DataW.weights, Tryz.underlying24]))
    rw [b4] at h3
    simp only [decide_eq_true_eq] at h3
    omega
   simp only [reachBytes] at hreach
   have hlen : ((List.range len).map B).length = len := by simp
   refine ⟨(List.range len).map B, ?_, by rw [hlen]; omega⟩
   have h := read_of_add (W := W) (f := boolC) (a := a) (l := (List.range len).map B) (c := cap) (fun i x hx => by
    have hi : i < len := by rw [← hlen]; exact (List.getElem?_eq_some_iff.1 hx).1
    refine ⟨.bool x, rfl, ?_⟩
    rw [hcell i (by omega)]
    rw [List.getElem?_map, List.getElem?_range hi] at hx
    simp only [Option.map_some, Option.some.injEq] at hx
    rw [hx])
   rwa [hlen] at h
 have hN : ∃ (us : List Value) (rs : List (List Int)), ReadR W 1 oneA v1 us ∧ us.length = rs.length ∧ rs.length ≤ 140737488351232 ∧ (∀ r ∈ rs, r.length ≤ 9223372036854775807) ∧ ∀ (i : Nat) (u : Value) (r : List Int), us[i]? = some u → rs[i]? = some r → ReadR W 1 intZ u r := by
  rcases open_int_rows Tryz.underlying23 Tryz.underlying46 Tryz.underlying3 c46 c3 h1 with ⟨hcs, _⟩ | ⟨a, len, cap, A, L, C, Z, hcs, _, hl, hm, hx, hrow⟩
  ·simp only [List.cons.injEq, and_true] at hcs
   subst hcs
   exact ⟨[], [], read_none, rfl, by simp, by simp, by simp⟩
  ·simp only [List.cons.injEq, and_true] at hcs
   subst hcs
   simp only [Prod.mk.injEq] at hx
   obtain ⟨rfl, rfl⟩ := hx
   have hreach := sized_slice hsz2 (j := 1) (t := 23) (e := 46) rfl rfl Tryz.underlying23
   rw [b46] at hreach
   simp only [List.length_map, List.length_range, reachBytes] at hreach
   have hlen : ((List.range len).map fun r => Value.slice (A r) (L r) (C r)).length = len := by simp
   refine ⟨(List.range len).map fun r => .slice (A r) (L r) (C r), (List.range len).map fun r => (Z r).take (L r), ?_, by simp, by simp; omega, fun r hr => ?_, fun i u r hu hr => ?_⟩
   ·have h := read_of_add (W := W) (f := oneA) (a := a) (l := (List.range len).map fun r => Value.slice (A r) (L r) (C r)) (c := cap) (fun i x hx => by
     have hi : i < len := by rw [← hlen]; exact (List.getElem?_eq_some_iff.1 hx).1
     rw [List.getElem?_map, List.getElem?_range hi] at hx
     simp only [Option.map_some, Option.some.injEq] at hx
     subst hx
     exact ⟨_, rfl, (hrow i (by omega)).1⟩)
    rwa [hlen] at h
   ·simp only [List.mem_map, List.mem_range] at hr
    obtain ⟨i, hi, rfl⟩ := hr
    obtain ⟨_, h2, h3, h4, _, _, _⟩ := hrow i (by omega)
    unfold maxLen at h3
    simp; omega
   ·have hi : i < len := by rw [← hlen]; exact (List.getElem?_eq_some_iff.1 hu).1
    rw [List.getElem?_map, List.getElem?_range hi] at hu hr
    simp only [Option.map_some, Option.some.injEq] at hu hr
    subst hu hr
    obtain ⟨h1, h2, h3, h4, h5, h6, h7⟩ := hrow i (by omega)
    have htl : ((Z i).take (L i)).length = L i := by simp; omega
    cases hA : A i with
    | none =>
      have := h6 hA
      have h0 : L i = 0 := by omega
      refine ⟨none, C i, by rw [htl], .inl (by rw [htl]; exact h0)⟩
    | some a' =>
      obtain ⟨_, h8⟩ := h7 a' hA
      have h := read_of_add (W := W) (f := intZ) (a := a') (l := (Z i).take (L i)) (c := C i) (fun j x hx => by
       have hj : j < L i := by rw [← htl]; exact (List.getElem?_eq_some_iff.1 hx).1
       refine ⟨.int .i64 x, rfl, ?_⟩
       rw [h8 j (by omega)]
       rw [List.getElem?_take_of_lt hj] at hx
       rw [List.getD_eq_getElem?_getD, hx]; rfl)
      rwa [htl] at h
 obtain ⟨ss, hs1, hs2⟩ := hS
 obtain ⟨bs, hb1, hb2⟩ := hF
 obtain ⟨us, rs, hr1, hr2, hr3, hr4, hr5⟩ := hN
 exact ⟨⟨ss, rs, bs⟩, ⟨v0, v1, v2, us, rfl, hs1, hr1, hr2, hr5, hb1⟩, hs2, hr3, hb2, hr4⟩
end Go.Proofs.YtngpjagpeblbjaaGreatDoor
namespace Go.Proofs.YtngpjagpeblbjaaGreatDoor
open Go.RowKit Go.Spy Go.Heaped Go.Tour Go.Rx
def Ap (v v' : Value) : Prop := ∀ k, v.ownBlock = some k → v'.ownBlock = some k → False
theorem Ap.old {α : Type} {w : World} {base e s : Nat} {f : α → Array Value} {v v' u : Value} {l : List α} (h : Ap v u) (o : Old w v v') (hu : OwnR w base e s f u l) : Ap v' u := fun k h1 h2 => by
 rcases o k h1 with h3 | h3
 ·exact h k h3 h2
 ·have := (hu.lt k h2).2
  omega
theorem Ap.symm {v u : Value} (h : Ap v u) : Ap u v := fun k h1 h2 => h k h2 h1
theorem Ap.nil (v : Value) : Ap v (.slice none 0 0) := fun _ _ h => by cases h
section
variable {K : Type} {φ : K → List Int}
structure SeenK (φ : K → List Int) (w : World) (base : Nat) (vS : Value) (us : List Value) (keys : List K) : Prop where
 own : OwnR w base 46 1 oneA vS us
 len : us.length = keys.length
 key : ∀ (n : Nat) (u : Value) (p : K), us[n]? = some u → keys[n]? = some p → OwnR w base 3 1 intZ u (φ p)
structure RowsK (w : World) (base : Nat) (vN : Value) (rs : List Value) (nx : List (List Nat)) : Prop where
 own : OwnR w base 46 1 oneA vN rs
 len : rs.length = nx.length
 row : ∀ (n : Nat) (r : Value) (x : List Nat), rs[n]? = some r → nx[n]? = some x → OwnR w base 3 1 natA r x
theorem SeenK.ext {w w' : World} {base : Nat} {vS : Value} {us : List Value} {keys : List K} (h : SeenK φ w base vS us keys) (e : Ext w w') : SeenK φ w' base vS us keys := ⟨h.own.ext e, h.len, fun n u p h1 h2 => (h.key n u p h1 h2).ext e⟩
theorem RowsK.ext {w w' : World} {base : Nat} {vN : Value} {rs : List Value} {nx : List (List Nat)} (h : RowsK w base vN rs nx) (e : Ext w w') : RowsK w' base vN rs nx := ⟨h.own.ext e, h.len, fun n u p h1 h2 => (h.row n u p h1 h2).ext e⟩
theorem SeenK.keysR {w : World} {base : Nat} {vS : Value} {us : List Value} {keys : List K} (h : SeenK φ w base vS us keys) : KeysR w us (keys.map φ) := by
 refine ⟨by rw [List.length_map]; exact h.len, fun i u x h1 h2 => ?_⟩
 rw [List.getElem?_map, Option.map_eq_some_iff] at h2
 obtain ⟨p, hp, rfl⟩ := h2
 exact OwnR.read (h.key i u p h1 hp) (fun _ => rfl)
theorem SeenK.at_ {w : World} {base : Nat} {vS : Value} {us : List Value} {keys : List K} (h : SeenK φ w base vS us keys) {n : Nat} {u : Value} (hu : us[n]? = some u) : ∃ p, OwnR w base 3 1 intZ u (φ p) := by
 obtain ⟨p, hp⟩ : ∃ p, keys[n]? = some p := ⟨_, List.getElem?_eq_getElem (by rw [← h.len]; exact (List.getElem?_eq_some_iff.1 hu).1)⟩
 exact ⟨p, h.key n u p hu hp⟩
theorem RowsK.at_ {w : World} {base : Nat} {vN : Value} {rs : List Value} {nx : List (List Nat)} (h : RowsK w base vN rs nx) {n : Nat} {u : Value} (hu : rs[n]? = some u) : ∃ p, OwnR w base 3 1 natA u p := by
 obtain ⟨p, hp⟩ : ∃ p, nx[n]? = some p := ⟨_, List.getElem?_eq_getElem (by rw [← h.len]; exact (List.getElem?_eq_some_iff.1 hu).1)⟩
 exact ⟨p, h.row n u p hu hp⟩
structure RefW (φ : K → List Int) (w wr : World) (bD : Nat) (vY vS vN vF vX : Value) (us rs : List Value) (keys : List K) (nx : List (List Nat)) (fs : List Bool) (gs : List Nat) : Prop where
 ext : Ext w wr
 low : w.heap.size ≤ bD
 box : Blk wr bD 40 #[vY, vN, vF]
 seen : SeenK φ wr w.heap.size vS us keys
 rows : RowsK wr w.heap.size vN rs nx
 fins : OwnR wr w.heap.size 4 1 boolC vF fs
 now : OwnR wr w.heap.size 3 1 natA vX gs
 ap1 : Ap vS vN
 ap2 : ∀ u ∈ us, Ap u vX
 ap3 : ∀ r ∈ rs, Ap r vX
variable {w wr wy : World} {bD : Nat} {vY vS vN vF vX : Value} {us rs : List Value} {keys : List K} {nx : List (List Nat)} {fs : List Bool} {gs : List Nat}
theorem RefW.ext' (h : RefW φ w wr bD vY vS vN vF vX us rs keys nx fs gs) (e : Ext wr wy) : RefW φ w wy bD vY vS vN vF vX us rs keys nx fs gs :=
 ⟨h.ext.trans (e.mono h.ext.size), h.low, h.box.ext e, h.seen.ext e, h.rows.ext e, h.fins.ext e, h.now.ext e, h.ap1, h.ap2, h.ap3⟩
theorem RefW.new (h : RefW φ w wr bD vY vS vN vF vX us rs keys nx fs gs) {v' u' : Value} {p : K} (o : OwnR wy w.heap.size 46 1 oneA v' (us ++ [u'])) (c : Chg (fun k => vS.ownBlock = some k) wr wy) (ho : Old wr vS v') (k : OwnR wr w.heap.size 3 1 intZ u' (φ p)) (ha : Ap u' vX) :
 RefW φ w wy bD vY v' vN vF vX (us ++ [u']) rs (keys ++ [p]) nx fs gs := by
 refine ⟨ext_chg h.ext c (fun k e => (h.seen.own.lt k e).1), h.low, h.box.chg c (own_blk_ne h.seen.own h.box (by decide)), ⟨o, by simp [h.seen.len], fun n u q h1 h2 => ?_⟩, ⟨h.rows.own.chg c fun k e e' => h.ap1 k e' e, h.rows.len, fun n r x h1 h2 => ?_⟩, h.fins.chg c fun k e e' => own_apart h.fins h.seen.own (by decide) k e e', h.now.chg c fun k e e' => own_apart h.now h.seen.own (by decide) k e e', h.ap1.old ho h.rows.own, fun u hu => ?_, h.ap3⟩
 ·rcases snoc_at h.seen.len h1 h2 with ⟨h1, h2⟩ | ⟨rfl, rfl⟩
  ·exact (h.seen.key n u q h1 h2).chg c fun k e e' => own_apart (h.seen.key n u q h1 h2) h.seen.own (by decide) k e e'
  ·exact k.chg c fun g e e' => own_apart k h.seen.own (by decide) g e e'
 ·exact (h.rows.row n r x h1 h2).chg c fun k e e' => own_apart (h.rows.row n r x h1 h2) h.seen.own (by decide) k e e'
 ·rcases List.mem_append.1 hu with hu | hu
  ·exact h.ap2 u hu
  ·rw [List.mem_singleton.1 hu]; exact ha
theorem RefW.put (h : RefW φ w wr bD vY vS vN vF vX us rs keys nx fs gs) {v' : Value} {g : Nat} (o : OwnR wy w.heap.size 3 1 natA v' (gs ++ [g])) (c : Chg (fun k => vX.ownBlock = some k) wr wy) (ho : Old wr vX v') :
 RefW φ w wy bD vY vS vN vF v' us rs keys nx fs (gs ++ [g]) := by
 refine ⟨ext_chg h.ext c (fun k e => (h.now.lt k e).1), h.low, h.box.chg c (own_blk_ne h.now h.box (by decide)), ⟨h.seen.own.chg c fun k e e' => own_apart h.seen.own h.now (by decide) k e e', h.seen.len, fun n u q h1 h2 => ?_⟩, ⟨h.rows.own.chg c fun k e e' => own_apart h.rows.own h.now (by decide) k e e', h.rows.len, fun n r x h1 h2 => ?_⟩, h.fins.chg c fun k e e' => own_apart h.fins h.now (by decide) k e e', o, h.ap1, fun u hu => ?_, fun r hr => ?_⟩
 ·exact (h.seen.key n u q h1 h2).chg c fun k e e' => h.ap2 u (List.mem_of_getElem? h1) k e e'
 ·exact (h.rows.row n r x h1 h2).chg c fun k e e' => h.ap3 r (List.mem_of_getElem? h1) k e e'
 ·obtain ⟨n, hn⟩ := List.getElem?_of_mem hu
  obtain ⟨p, hp⟩ := h.seen.at_ hn
  exact (Ap.old (h.ap2 u hu).symm ho hp).symm
 ·obtain ⟨n, hn⟩ := List.getElem?_of_mem hr
  obtain ⟨p, hp⟩ := h.rows.at_ hn
  exact (Ap.old (h.ap3 r hr).symm ho hp).symm
theorem RefW.row1 (h : RefW φ w wr bD vY vS vN vF vX us rs keys nx fs gs) {v' : Value} (o : OwnR wy w.heap.size 46 1 oneA v' (rs ++ [vX])) (c : Chg (fun k => vN.ownBlock = some k) wr wy) (ho : Old wr vN v') :
 (Ext w wy ∧ Blk wy bD 40 #[vY, vN, vF]) ∧ RefW φ w (wy.setCell ⟨bD, 1, none⟩ v') bD vY vS v' vF (.slice none 0 0) us (rs ++ [vX]) keys (nx ++ [gs]) fs [] := by
 have e6 : Ext w wy := ext_chg h.ext c (fun k e => (h.rows.own.lt k e).1)
 have b6 : Blk wy bD 40 #[vY, vN, vF] := h.box.chg c (own_blk_ne h.rows.own h.box (by decide))
 have c7 : Chg (fun k => k = bD) wy (wy.setCell ⟨bD, 1, none⟩ v') := (Chg.refl (fun k => k = bD) wy).setCell (p := ⟨bD, 1, none⟩) rfl v'
 have nb : ∀ {α : Type} {base e s : Nat} {f : α → Array Value} {v : Value} {l : List α}, OwnR wy base e s f v l → e ≠ 40 → OwnR (wy.setCell ⟨bD, 1, none⟩ v') base e s f v l := fun h0 he => h0.chg c7 (fun k e e' => own_blk_ne h0 b6 he (e' ▸ e))
 refine ⟨⟨e6, b6⟩, ext_chg e6 c7 (fun k e => e ▸ h.low), h.low, b6.set 1 v', ⟨nb (h.seen.own.chg c fun k e e' => h.ap1 k e e') (by decide), h.seen.len, fun n u q h1 h2 => ?_⟩, ⟨nb o (by decide), by simp [h.rows.len], fun n r x h1 h2 => ?_⟩, nb (h.fins.chg c fun k e e' => own_apart h.fins h.rows.own (by decide) k e e') (by decide), OwnR.nil _ _ _ _ _, ?_, fun u _ => Ap.nil u, fun u _ => Ap.nil u⟩
 ·exact nb ((h.seen.key n u q h1 h2).chg c fun k e e' => own_apart (h.seen.key n u q h1 h2) h.rows.own (by decide) k e e') (by decide)
 ·rcases snoc_at h.rows.len h1 h2 with ⟨h1, h2⟩ | ⟨rfl, rfl⟩
  ·exact nb ((h.rows.row n r x h1 h2).chg c fun k e e' => own_apart (h.rows.row n r x h1 h2) h.rows.own (by decide) k e e') (by decide)
  ·exact nb (h.now.chg c fun g e e' => own_apart h.now h.rows.own (by decide) g e e') (by decide)
 ·exact (Ap.old h.ap1.symm ho h.seen.own).symm
theorem RefW.row2 (h : RefW φ w wr bD vY vS vN vF vX us rs keys nx fs gs) {v' : Value} {b : Bool} (o : OwnR wy w.heap.size 4 1 boolC v' (fs ++ [b])) (c : Chg (fun k => vF.ownBlock = some k) wr wy) :
 (Ext w wy ∧ Blk wy bD 40 #[vY, vN, vF]) ∧ RefW φ w (wy.setCell ⟨bD, 2, none⟩ v') bD vY vS vN v' vX us rs keys nx (fs ++ [b]) gs := by
 have e6 : Ext w wy := ext_chg h.ext c (fun k e => (h.fins.lt k e).1)
 have b6 : Blk wy bD 40 #[vY, vN, vF] := h.box.chg c (own_blk_ne h.fins h.box (by decide))
 have c7 : Chg (fun k => k = bD) wy (wy.setCell ⟨bD, 2, none⟩ v') := (Chg.refl (fun k => k = bD) wy).setCell (p := ⟨bD, 2, none⟩) rfl v'
 have nb : ∀ {α : Type} {base e s : Nat} {f : α → Array Value} {v : Value} {l : List α}, OwnR wy base e s f v l → e ≠ 40 → OwnR (wy.setCell ⟨bD, 2, none⟩ v') base e s f v l := fun h0 he => h0.chg c7 (fun k e e' => own_blk_ne h0 b6 he (e' ▸ e))
 have nf : ∀ {α : Type} {base e s : Nat} {f : α → Array Value} {v : Value} {l : List α}, OwnR wr base e s f v l → e ≠ 4 → OwnR wy base e s f v l := fun h0 he => h0.chg c fun k e e' => own_apart h0 h.fins he k e e'
 exact ⟨⟨e6, b6⟩, ext_chg e6 c7 (fun k e => e ▸ h.low), h.low, b6.set 2 v', ⟨nb (nf h.seen.own (by decide)) (by decide), h.seen.len, fun n u q h1 h2 => nb (nf (h.seen.key n u q h1 h2) (by decide)) (by decide)⟩, ⟨nb (nf h.rows.own (by decide)) (by decide), h.rows.len, fun n r x h1 h2 => nb (nf (h.rows.row n r x h1 h2) (by decide)) (by decide)⟩, nb o (by decide), nb (nf h.now (by decide)) (by decide), h.ap1, h.ap2, h.ap3⟩
theorem RefW.start (wB : World) (vY : Value) {p : K} {A : Array Value} {n : Nat} (hA : A.toList = (φ p).flatMap fun x => (intZ x).toList) (hn : n = (φ p).length) (hs : A.size = n * 1) (hm : n ≤ 1000) :
 RefW φ wB (((wB.alloc (.cells #[vY, .slice none 0 0, .slice none 0 0] 40)).alloc (.cells A 3)).alloc (.cells #[.slice (some ⟨wB.heap.size + 1, 0, none⟩) n n] 46)) wB.heap.size vY (.slice (some ⟨wB.heap.size + 1 + 1, 0, none⟩) 1 1) (.slice none 0 0) (.slice none 0 0) (.slice none 0 0) [.slice (some ⟨wB.heap.size + 1, 0, none⟩) n n] [] [p] [] [] [] := by
 have hS : OwnR (((wB.alloc (.cells #[vY, .slice none 0 0, .slice none 0 0] 40)).alloc (.cells A 3)).alloc (.cells #[.slice (some ⟨wB.heap.size + 1, 0, none⟩) n n] 46)) wB.heap.size 46 1 oneA (.slice (some ⟨wB.heap.size + 1 + 1, 0, none⟩) 1 1) [.slice (some ⟨wB.heap.size + 1, 0, none⟩) n n] :=
  own_lit (Blk.new' _ _ _ (by simp)) (by omega) rfl rfl rfl (by decide)
 have hK : OwnR (((wB.alloc (.cells #[vY, .slice none 0 0, .slice none 0 0] 40)).alloc (.cells A 3)).alloc (.cells #[.slice (some ⟨wB.heap.size + 1, 0, none⟩) n n] 46)) wB.heap.size 3 1 intZ (.slice (some ⟨wB.heap.size + 1, 0, none⟩) n n) (φ p) :=
  own_lit ((Blk.new' _ _ _ (by simp)).alloc _) (by omega) hA hn hs hm
 refine ⟨((((Below.refl _ _).alloc (Nat.le_refl _) _).alloc (by simp) _).alloc (by simp; omega) _), Nat.le_refl _, ((Blk.new _ _ _).alloc _).alloc _, ⟨hS, rfl, fun m u q hu hq => ?_⟩, ⟨OwnR.nil _ _ _ _ _, rfl, fun m r x h => (by cases h)⟩, OwnR.nil _ _ _ _ _, OwnR.nil _ _ _ _ _, Ap.nil _, fun u _ => Ap.nil u, fun r h => (by cases h)⟩
 have h0 : m = 0 := by have := (List.getElem?_eq_some_iff.1 hu).1; simp at this; exact this
 subst h0
 cases hu; cases hq
 exact hK
theorem RefW.dfa (h : RefW φ w wr bD vY vS vN vF vX us rs keys nx fs gs) {q : Nat} (c : Chg (fun k => k = q) wr wy) (hq : q < w.heap.size) {syms : List ByteArray} (hY : ReadR wy 1 strC vY syms) : DfaP wy vY vN vF rs (DF.raw ⟨syms, nx, fs⟩) := by
 refine ⟨hY, (OwnR.read h.rows.own (fun _ => rfl)).chg c fun g e e' => ?_, ?_, fun i u r hu hr => ?_, (OwnR.read h.fins (fun _ => rfl)).chg c fun g e e' => ?_⟩
 ·have := (h.rows.own.lt g e).1; omega
 ·show rs.length = (nx.map _).length
  rw [List.length_map]; exact h.rows.len
 ·have hr : (nx.map (·.map Int.ofNat))[i]? = some r := hr
  rw [List.getElem?_map, Option.map_eq_some_iff] at hr
  obtain ⟨r', hr', rfl⟩ := hr
  have h1 := h.rows.row i u r' hu hr'
  exact nat_int.1 ((OwnR.read h1 (fun _ => rfl)).chg c fun g e e' => by have := (h1.lt g e).1; omega)
 ·have := (h.fins.lt g e).1; omega
theorem RefW.seenF (h : RefW φ w wr bD vY vS vN vF vX us rs keys nx fs gs) (c : Chg (fun k => vF.ownBlock = some k) wr wy) : SeenK φ wy w.heap.size vS us keys :=
 ⟨h.seen.own.chg c fun k e e' => own_apart h.seen.own h.fins (by decide) k e e', h.seen.len, fun n u q h1 h2 => (h.seen.key n u q h1 h2).chg c fun k e e' => own_apart (h.seen.key n u q h1 h2) h.fins (by decide) k e e'⟩
end
theorem SeenK.pair {w : World} {base : Nat} {vS : Value} {us : List Value} {keys : List PI} (h : SeenK lstP w base vS us keys) {i : Nat} {gu ou cu : Nat} {p q : Int} (hu : us[i]? = some (.slice (some ⟨gu, ou, none⟩) 2 cu)) (hk : keys[i]? = some (p, q)) :
 w.cell? ⟨gu, ou, none⟩ = some (.int .i64 p) ∧ w.cell? ⟨gu, ou + 1, none⟩ = some (.int .i64 q) := by
 have hr : ReadR w 1 intZ (.slice (some ⟨gu, ou, none⟩) 2 cu) [p, q] := OwnR.read (h.key i _ _ hu hk) (fun _ => rfl)
 exact ⟨hr.cell1 (j := 0) rfl, hr.cell1 (j := 1) rfl⟩
theorem SeenK.pairV {w : World} {base : Nat} {vS : Value} {us : List Value} {keys : List PI} (h : SeenK lstP w base vS us keys) {i : Nat} {u : Value} {p : PI} (hu : us[i]? = some u) (hk : keys[i]? = some p) : ∃ gu ou cu, u = .slice (some ⟨gu, ou, none⟩) 2 cu := by
 have hr : ReadR w 1 intZ u [p.1, p.2] := OwnR.read (h.key i _ _ hu hk) (fun _ => rfl)
 obtain ⟨ao, c, e, hg⟩ := hr.form
 obtain ⟨g, o, rfl⟩ := hg (show 0 < 2 by decide)
 exact ⟨g, o, c, e⟩
end Go.Proofs.YtngpjagpeblbjaaGreatDoor
namespace Go.Proofs.YtngpjagpeblbjaaGreatDoor
open Go.RowKit Go.Spy Go.Heaped Go.Tour Go.Rx
def boolRow (r : List Bool) : Array Value := (r.map Value.bool).toArray
section
variable {w wr wy : World} {bT n : Nat} {gs : List Nat} {T : List (List Bool)}
end
section
variable {w : World} {aoS aoN aoF : Option Addr} {n1 n2 n3 cS cN cF : Nat} {A : DA}
end
end Go.Proofs.YtngpjagpeblbjaaGreatDoor
namespace Go.Proofs.YtngpjagpeblbjaaGreatDoor
open Go.RowKit Go.Spy Go.Heaped Go.Tour Go.Rx
theorem ext_drew1 (w : World) : Ext w w.drew := (Below.refl w.heap.size w).drew
end Go.Proofs.YtngpjagpeblbjaaGreatDoor
namespace Go.Proofs.YtngpjagpeblbjaaGreatDoor
open Go.RowKit Go.Spy Go.Heaped Go.Tour Go.Rx
theorem takeMap_snoc {α β : Type} {l : List α} {i : Nat} {x : α} (f : α → β) (h : l[i]? = some x) : (l.take (i + 1)).map f = (l.take i).map f ++ [f x] := by
 rw [List.take_add_one, h, List.map_append]; rfl
end Go.Proofs.YtngpjagpeblbjaaGreatDoor
