/-
  Walks of dfa.Check, its closure and slices.ContainsFunc.
  Walk of slices.BinarySearch over words in order.
  Walks of DFA.goes, DFA.final and DFA.Match.
  slices.Reverse over owned words; the words by which a state is come to first.
-/
import Derived.Test.YtngpjagpeblbjaaGreatDoorZ16
import Derived.Test.YtngpjagpeblbjaaGreatDoorZ10
namespace Go.Proofs.YtngpjagpeblbjaaGreatDoor
open Go.RowKit Go.Spy Go.Heaped Go.Tour Go.Rx

theorem enters38 : Enters Tryz.prog 38 := fun _ _ => by kernel_rfl

set_option maxRecDepth 100000 in
theorem strange_any {w : World} {b : Nat} {n : Nat} (z : Int) (hb : Blk w b 3 #[.int .i64 n]) :
    Calls Tryz.prog 38 #[.int .i64 z, .pointer (some ⟨b, 0, none⟩)] w fun e w' => e = .returned (.bool (decide (z < 0) || decide ((n : Int) ≤ z))) ∧ w = w' := by
  have c0 : w.cell? ⟨b, 0, none⟩ = some (.int .i64 n) := hb.cell rfl
  clear hb
  by_cases h : z < 0
  · have d0 : decide (z < 0) = true := decide_eq_true h
    go_enter Tryz.func38, Tryz.ntmps38
    go_wp2_with fail
    go_ret
    exact ⟨by simp [h], rfl⟩
  · have d0 : decide (z < 0) = false := decide_eq_false h
    go_enter Tryz.func38, Tryz.ntmps38
    go_wp2_with fail
    go_ret
    exact ⟨by simp, rfl⟩

set_option maxRecDepth 100000 in
theorem contfunc_any {w : World} {v : Value} {ns : List Int} (hV : ReadR w 1 intZ v ns) (hlen : ns.length ≤ 1000) {f : FuncId} {first caps : Array Value} (hE : Enters Tryz.prog f) (p : Int → Bool)
    (hf : ∀ k w', k ∈ ns → Ext w w' → Calls Tryz.prog f (first ++ #[.int .i64 k] ++ caps) w' fun e w'' => e = .returned (.bool (p k)) ∧ Ext w' w'') :
    Calls Tryz.prog 39 #[v, .func (.func f) first caps] w fun e w' => e = .returned (.bool (ns.any p)) ∧ Ext w w' := by
  have H := hid (indexfunc_any hV hlen hE p hf)
  clear hV hf
  go_enter Tryz.func39, Tryz.ntmps39
  go_wp2_with fail
  refine H.out.mono ?_
  rintro e w2 ⟨hx, ⟨n, x, rfl, h1, h2, _⟩ | ⟨rfl, h1⟩⟩
  · have hd : decide ((0 : Int) ≤ (n : Int)) = true := decide_eq_true (by omega)
    have HX := hid hx
    have HA : Hid (ns.any p = true) := hid (List.any_eq_true.2 ⟨x, List.mem_of_getElem? h1, h2⟩)
    clear hx h1 h2
    go_wp2_with fail
    go_ret
    exact ⟨(ret_bool HA.out).symm, HX.out⟩
  · have HX := hid hx
    have HA : Hid (ns.any p = false) := hid (by
      rw [List.any_eq_false]
      intro x hx
      rw [h1 x hx]; simp)
    clear hx h1
    go_wp2_with fail
    go_ret
    exact ⟨(ret_bool HA.out).symm, HX.out⟩

def ErrP (n : Nat) (w : World) (e : Ending) (w' : World) : Prop := e = .returned (.int .i64 (n : Int)) ∧ Ext w w'

set_option maxRecDepth 100000 in
set_option maxHeartbeats 1000000 in
theorem dcheck_any {w : World} {vS vN vF : Value} {us : List Value} {d : DR} (hP : DfaP w vS vN vF us d) (hB : BndD d) : Calls Tryz.prog 11 #[.agg #[vS, vN, vF]] w (ErrP (checkE nameOk d) w) := by
  obtain ⟨aoS, cS, rfl, hS⟩ := hP.syms.form
  obtain ⟨aoN, cN, rfl, hN⟩ := hP.next.form
  obtain ⟨aoF, cF, rfl, hF⟩ := hP.fin.form
  rw [hP.len] at hN
  obtain ⟨E, hE⟩ : ∃ E, E = checkE nameOk d := ⟨_, rfl⟩
  rw [← hE]
  obtain ⟨m, hm⟩ : ∃ m, m = d.syms.length := ⟨_, rfl⟩
  obtain ⟨n, hn⟩ : ∃ n, n = d.next.length := ⟨_, rfl⟩
  obtain ⟨k, hk⟩ : ∃ k, k = d.fin.length := ⟨_, rfl⟩
  have hbm : m ≤ 1000 := hm ▸ hB.s
  have hbn : n ≤ 1000 := hn ▸ hB.n
  have hbk : k ≤ 1000 := hk ▸ hB.f
  have HP := hid hP
  rw [hP.len, ← hn] at HP ⊢
  rw [← hm] at HP ⊢
  rw [← hk] at HP ⊢
  have HB := hid hB
  have HE := hid hE
  have HM := hid hm
  have HN := hid hn
  have HK := hid hk
  clear hP hB hE hm hn hk
  by_cases h1 : 256 < n
  · have d1 : decide ((256 : Int) < (n : Int)) = true := decide_eq_true (by omega)
    go_enter Tryz.func11, Tryz.ntmps11
    go_wp2_with fail
    go_ret
    exact ⟨by rw [HE.out, checkE, if_pos (.inl (HN.out ▸ h1))]; rfl, ((Below.refl _ _).alloc (Nat.le_refl _) _).alloc (by simp) _⟩
  · have d1 : decide ((256 : Int) < (n : Int)) = false := decide_eq_false (by omega)
    by_cases h2 : 256 < k
    · have d2 : decide ((256 : Int) < (k : Int)) = true := decide_eq_true (by omega)
      go_enter Tryz.func11, Tryz.ntmps11
      go_wp2_with fail
      go_ret
      exact ⟨by rw [HE.out, checkE, if_pos (.inr (HK.out ▸ h2))]; rfl, ((Below.refl _ _).alloc (Nat.le_refl _) _).alloc (by simp) _⟩
    · have d2 : decide ((256 : Int) < (k : Int)) = false := decide_eq_false (by omega)
      have E1 : Hid (¬ (256 < d.next.length ∨ 256 < d.fin.length)) := hid (by rw [← HN.out, ← HK.out]; omega)
      by_cases h3 : n = 0
      · have d3 : ((n : Int) == 0) = true := by simp [h3]
        have H3 := hid h3
        clear h3
        go_enter Tryz.func11, Tryz.ntmps11
        go_wp2_with fail
        go_ret
        exact ⟨by rw [HE.out, checkE, if_neg E1.out, if_pos (.inl (by rw [← HN.out, H3.out]))]; rfl, ((Below.refl _ _).alloc (Nat.le_refl _) _).alloc (by simp) _⟩
      · have d3 : ((n : Int) == 0) = false := by simp; omega
        by_cases h4 : k = n
        · have d4 : ((k : Int) != (n : Int)) = false := by simp [h4]
          have H4 := hid h4
          clear h4
          have E2 : Hid (¬ (d.next.length = 0 ∨ d.fin.length ≠ d.next.length)) := hid (by rw [← HN.out, ← HK.out]; have := H4.out; omega)
          go_enter Tryz.func11, Tryz.ntmps11
          go_wp2_with fail
          go_loopg [34] n (fun g u wr => ∃ j, g = n - j ∧ j ≤ n ∧ u = .int .i64 j ∧ Hid (Ext w wr ∧ Blk wr w.heap.size 26 #[.slice aoS m cS, .slice aoN n cN, .slice aoF k cF] ∧ Blk wr (w.heap.size + 1) 3 #[.int .i64 n]) ∧ Hid (∀ i r, i < j → d.next[i]? = some r → rowBad d.syms.length d.next.length r = false))
          case atStart => exact ⟨0, rfl, Nat.zero_le _, rfl, hid ⟨((Below.refl _ _).alloc (Nat.le_refl _) _).alloc (by simp) _, (Blk.new _ _ _).alloc _, Blk.new' _ _ _ (by simp)⟩, hid (fun i r h => by omega)⟩
          case round =>
            obtain ⟨j, rfl, hj, rfl, HX, HG⟩ := hrel
            have b0 : wr.cell? ⟨w.heap.size, 0, none⟩ = some (.slice aoS m cS) := HX.out.2.1.cell rfl
            by_cases hlt : j < n
            · obtain ⟨g, off, rfl⟩ := hN (by rw [← HN.out]; omega)
              obtain ⟨r, hr⟩ : ∃ r, d.next[j]? = some r := ⟨_, List.getElem?_eq_getElem (by rw [← HN.out]; omega)⟩
              obtain ⟨ao, c, hu, hR⟩ := (HP.out.ext HX.out.1).row hr
              have c1 : wr.cell? ⟨g, off + j, none⟩ = some (.slice ao r.length c) := (HP.out.next.ext HX.out.1).cell1 hu
              obtain ⟨rl, hrl⟩ : ∃ n, n = r.length := ⟨_, rfl⟩
              have hrb : rl ≤ 1000 := hrl ▸ HB.out.r r (List.mem_of_getElem? hr)
              rw [← hrl] at c1 hR
              have HR := hid hR
              have HRL := hid hrl
              have HRR := hid hr
              clear hu hR hr hrl
              by_cases hL : rl = m
              · have d5 : ((rl : Int) != (m : Int)) = false := by simp [hL]
                have HL := hid hL
                clear hL
                go_wp2_with fail
                refine (contfunc_any HR.out (by rw [← HRL.out]; exact hrb) enters38 (fun s => decide (s < 0) || decide ((n : Int) ≤ s)) (fun z w' _ e => ?_)).mono ?_
                · have h : Calls Tryz.prog 38 #[.int .i64 z, .pointer (some ⟨w.heap.size + 1, 0, none⟩)] w' fun e w'' => e = .returned (.bool (decide (z < 0) || decide ((n : Int) ≤ z))) ∧ Ext w' w'' := (strange_any z (HX.out.2.2.ext e)).mono fun e w'' h => ⟨h.1, h.2 ▸ Below.refl _ _⟩
                  simpa using h
                rintro e w2 ⟨rfl, hx⟩
                have HX2 := hid (HX.out.1.trans (hx.mono HX.out.1.size))
                have HB2 := hid (HX.out.2.1.ext hx)
                have HS2 := hid (HX.out.2.2.ext hx)
                have HRB : Hid (rowBad d.syms.length d.next.length r = r.any fun s => decide (s < 0) || decide ((n : Int) ≤ s)) := hid (by
                  unfold rowBad
                  rw [← HRL.out, ← HM.out, ← HN.out, HL.out]; simp)
                clear hx
                cases ha : r.any fun s => decide (s < 0) || decide ((n : Int) ≤ s) with
                | true =>
                  have HA := hid ha
                  clear ha
                  go_wp2_with fail
                  go_ret
                  refine ⟨?_, HX2.out⟩
                  rw [HE.out, checkE, if_neg E1.out, if_neg E2.out, if_pos (List.any_eq_true.2 ⟨r, List.mem_of_getElem? HRR.out, by rw [HRB.out, HA.out]⟩)]; rfl
                | false =>
                  have HA := hid ha
                  clear ha
                  go_wp2_with fail
                  go_roundg (n - (j + 1))
                  case measure => omega
                  case rel =>
                    refine ⟨j + 1, rfl, by omega, by go_num, hid ⟨HX2.out, HB2.out, HS2.out⟩, hid fun i q hi hq => ?_⟩
                    by_cases e : i = j
                    · subst e; rw [HRR.out] at hq; cases hq; rw [HRB.out, HA.out]
                    · exact HG.out i q (by omega) hq
              · have d5 : ((rl : Int) != (m : Int)) = true := by simp; omega
                have HL := hid hL
                clear hL
                go_wp2_with fail
                go_ret
                refine ⟨?_, HX.out.1⟩
                rw [HE.out, checkE, if_neg E1.out, if_neg E2.out, if_pos (List.any_eq_true.2 ⟨r, List.mem_of_getElem? HRR.out, by unfold rowBad; rw [← HRL.out, ← HM.out, decide_eq_true HL.out]; rfl⟩)]; rfl
            · have E3 : Hid (¬ d.next.any (rowBad d.syms.length d.next.length) = true) := hid (by
                rw [List.any_eq_true]
                rintro ⟨r, hr, hb⟩
                obtain ⟨i, hi, rfl⟩ := List.getElem_of_mem hr
                rw [HG.out i _ (by rw [← HN.out] at hi; omega) (List.getElem?_eq_getElem hi)] at hb; cases hb)
              clear HG
              go_wp2_with fail
              go_loopg [53] m (fun g u wr => ∃ j, g = m - j ∧ j ≤ m ∧ u = .int .i64 j ∧ Hid (Ext w wr ∧ Blk wr w.heap.size 26 #[.slice aoS m cS, .slice aoN n cN, .slice aoF k cF]) ∧ Hid (∀ i s, i < j → d.syms[i]? = some s → nameOk s = true))
              case atStart => exact ⟨0, rfl, Nat.zero_le _, rfl, hid ⟨HX.out.1, HX.out.2.1⟩, hid (fun i r h => by omega)⟩
              case round =>
                clear HX b0
                obtain ⟨j, rfl, hj2, rfl, HX, HG⟩ := hrel
                have b0 : wr.cell? ⟨w.heap.size, 0, none⟩ = some (.slice aoS m cS) := HX.out.2.cell rfl
                by_cases hlt2 : j < m
                · obtain ⟨g, off, rfl⟩ := hS (by rw [← HM.out]; omega)
                  obtain ⟨s, hs⟩ : ∃ s, d.syms[j]? = some s := ⟨_, List.getElem?_eq_getElem (by rw [← HM.out]; omega)⟩
                  have c1 : wr.cell? ⟨g, off + j, none⟩ = some (.string s) := (HP.out.syms.ext HX.out.1).cell1 hs
                  have HS := hid hs
                  clear hs
                  go_wp2_with fail
                  refine (is_any s _ (by have := HB.out.b s (List.mem_of_getElem? HS.out); unfold maxLen; omega)).mono ?_
                  rintro e w2 ⟨rfl, hx⟩
                  have HX2 := hid (HX.out.1.trans (hx.mono HX.out.1.size))
                  have HB2 := hid (HX.out.2.ext hx)
                  clear hx
                  cases ha : nameOk s with
                  | true =>
                    have HA := hid ha
                    clear ha
                    go_wp2_with fail
                    go_roundg (m - (j + 1))
                    case measure => omega
                    case rel =>
                      refine ⟨j + 1, rfl, by omega, by go_num, hid ⟨HX2.out, HB2.out⟩, hid fun i q hi hq => ?_⟩
                      by_cases e : i = j
                      · subst e; rw [HS.out] at hq; cases hq; exact HA.out
                      · exact HG.out i q (by omega) hq
                  | false =>
                    have HA := hid ha
                    clear ha
                    go_wp2_with fail
                    go_ret
                    refine ⟨?_, HX2.out⟩
                    rw [HE.out, checkE, if_neg E1.out, if_neg E2.out, if_neg E3.out, if_pos (List.any_eq_true.2 ⟨s, List.mem_of_getElem? HS.out, by rw [HA.out]; rfl⟩)]; rfl
                · have E4 : Hid (¬ (d.syms.any (fun s => !nameOk s)) = true) := hid (by
                    rw [List.any_eq_true]
                    rintro ⟨r, hr, hb⟩
                    obtain ⟨i, hi, rfl⟩ := List.getElem_of_mem hr
                    rw [HG.out i _ (by rw [← HM.out] at hi; omega) (List.getElem?_eq_getElem hi)] at hb; cases hb)
                  clear HG
                  go_wp2_with fail
                  go_loopg [9] m (fun g u wr => ∃ j, g = m - j ∧ (j + 1 ≤ m ∨ j = 0) ∧ u = .int .i64 ((j + 1 : Nat) : Int) ∧ Hid (Ext w wr ∧ Blk wr w.heap.size 26 #[.slice aoS m cS, .slice aoN n cN, .slice aoF k cF]) ∧ Hid (∀ i x y, i < j → d.syms[i]? = some x → d.syms[i + 1]? = some y → ltB x y = true))
                  case atStart => exact ⟨0, rfl, .inr rfl, rfl, hid ⟨HX.out.1, HX.out.2⟩, hid (fun i r y h => by omega)⟩
                  case round =>
                    clear HX b0
                    obtain ⟨j, rfl, hj3, rfl, HX, HG⟩ := hrel
                    have b0 : wr.cell? ⟨w.heap.size, 0, none⟩ = some (.slice aoS m cS) := HX.out.2.cell rfl
                    by_cases hlt3 : j + 1 < m
                    · obtain ⟨g, off, rfl⟩ := hS (by rw [← HM.out]; omega)
                      obtain ⟨x, hx⟩ : ∃ s, d.syms[j]? = some s := ⟨_, List.getElem?_eq_getElem (by rw [← HM.out]; omega)⟩
                      obtain ⟨y, hy⟩ : ∃ s, d.syms[j + 1]? = some s := ⟨_, List.getElem?_eq_getElem (by rw [← HM.out]; omega)⟩
                      have c1 : wr.cell? ⟨g, off + j, none⟩ = some (.string x) := (HP.out.syms.ext HX.out.1).cell1 hx
                      have c2 : wr.cell? ⟨g, off + (j + 1), none⟩ = some (.string y) := (HP.out.syms.ext HX.out.1).cell1 hy
                      have HXX := hid hx
                      have HYY := hid hy
                      clear hx hy
                      cases hb : ltB x y with
                      | true =>
                        have HBB := hid hb
                        have hb2 : Op.bytesLess x.toList y.toList = true := hb
                        clear hb
                        go_upto_region 22 with fail
                        have e1 : IntKind.i64.wrap (((j + 1 : Nat) : Int) - 1) = (j : Int) := by rw [show ((j + 1 : Nat) : Int) - 1 = (j : Int) by omega]; exact IntWalk.i64_in _ (by omega)
                        have g1 : (0 : Int) ≤ (j : Int) := by omega
                        have g2 : (j : Int) < (m : Int) := by omega
                        have g3 : (0 : Int) ≤ ((j + 1 : Nat) : Int) := by omega
                        have g4 : ((j + 1 : Nat) : Int) < (m : Int) := by omega
                        go_quiet (fail)
                        go_wp2_with fail
                        go_roundg (m - (j + 1))
                        case measure => omega
                        case rel =>
                          refine ⟨j + 1, rfl, .inl (by omega), by go_num, hid ⟨ext_drewN HX.out.1 _, HX.out.2.drewN _⟩, hid fun i q r hi hq hr => ?_⟩
                          by_cases e : i = j
                          · subst e; rw [HXX.out] at hq; cases hq; rw [HYY.out] at hr; cases hr; exact HBB.out
                          · exact HG.out i q r (by omega) hq hr
                      | false =>
                        have HBB := hid hb
                        have hb2 : Op.bytesLess x.toList y.toList = false := hb
                        clear hb
                        go_upto_region 22 with fail
                        have e1 : IntKind.i64.wrap (((j + 1 : Nat) : Int) - 1) = (j : Int) := by rw [show ((j + 1 : Nat) : Int) - 1 = (j : Int) by omega]; exact IntWalk.i64_in _ (by omega)
                        have g1 : (0 : Int) ≤ (j : Int) := by omega
                        have g2 : (j : Int) < (m : Int) := by omega
                        have g3 : (0 : Int) ≤ ((j + 1 : Nat) : Int) := by omega
                        have g4 : ((j + 1 : Nat) : Int) < (m : Int) := by omega
                        go_quiet (fail)
                        go_wp2_with fail
                        go_ret
                        refine ⟨?_, ext_drewN HX.out.1 _⟩
                        have E5 : chainB d.syms = false := by
                          cases h : chainB d.syms with
                          | false => rfl
                          | true =>
                            have := (chainB_iff.1 h).get (show j < j + 1 by omega) HXX.out HYY.out
                            rw [HBB.out] at this; cases this
                        rw [HE.out, checkE, if_neg E1.out, if_neg E2.out, if_neg E3.out, if_neg E4.out, if_pos E5]; rfl
                    · go_wp2_with fail
                      go_ret
                      refine ⟨?_, HX.out.1⟩
                      have E5 : ¬ chainB d.syms = false := by
                        rw [chainB_iff.2 (chain_rising fun i x y hx hy => HG.out i x y (by have := (List.getElem?_eq_some_iff.1 hy).1; rw [← HM.out] at this; omega) hx hy)]; simp
                      rw [HE.out, checkE, if_neg E1.out, if_neg E2.out, if_neg E3.out, if_neg E4.out, if_neg E5]; rfl
        · have d4 : ((k : Int) != (n : Int)) = true := by simp; omega
          have H4 := hid h4
          clear h4
          go_enter Tryz.func11, Tryz.ntmps11
          go_wp2_with fail
          go_ret
          exact ⟨by rw [HE.out, checkE, if_neg E1.out, if_pos (.inr (by rw [← HN.out, ← HK.out]; exact H4.out))]; rfl, ((Below.refl _ _).alloc (Nat.le_refl _) _).alloc (by simp) _⟩
end Go.Proofs.YtngpjagpeblbjaaGreatDoor
namespace Go.Proofs.YtngpjagpeblbjaaGreatDoor
open Go.RowKit Go.Spy Go.Heaped Go.Tour Go.Rx

theorem nan1 (x : ByteArray) (w : World) : Calls Tryz.prog 137 #[.string x] w fun e w' => e = .returned (.bool false) ∧ w = w' := by
  go_enter Tryz.func137, Tryz.ntmps137
  go_wp2
  go_ret
  exact ⟨by simp, rfl⟩
theorem nan2 (x : ByteArray) (w : World) : Calls Tryz.prog 110 #[.string x] w fun e w' => e = .returned (.bool false) ∧ w = w' := by
  go_enter Tryz.func110, Tryz.ntmps110
  go_wp2
  go_ret
  exact ⟨by simp, rfl⟩
theorem less_str (x y : ByteArray) (w : World) : Calls Tryz.prog 109 #[.string x, .string y] w fun e w' => e = .returned (.bool (ltB x y)) ∧ w = w' := by
  go_enter Tryz.func109, Tryz.ntmps109
  go_wp2_with (first | (go_at_call 137; refine (nan1 _ _).mono ?_; rintro e w' ⟨rfl, rfl⟩))
  go_ret
  exact ⟨rfl, rfl⟩

/-- Where a word is, and whether it is. -/
def BinPost (l : List ByteArray) (x : ByteArray) (w : World) (e : Ending) (w' : World) : Prop := ∃ (n : Nat) (b : Bool), e = .returned (.tuple #[.int .i64 n, .bool b]) ∧ (b = true ↔ x ∈ l) ∧ (x ∈ l → l[n]? = some x) ∧ w = w'
/-- All that are ahead of it have been passed over, all from there on are not. -/
structure Between (l : List ByteArray) (x : ByteArray) (i j : Nat) : Prop where
  le : i ≤ j
  le2 : j ≤ l.length
  lo : ∀ a y, a < i → l[a]? = some y → ltB y x = true
  hi : ∀ a y, j ≤ a → l[a]? = some y → ltB y x = false
theorem Between.found {l : List ByteArray} {x : ByteArray} {i : Nat} (h : Between l x i i) (hr : Rising l) : x ∈ l ↔ l[i]? = some x := by
  refine ⟨fun hx => ?_, fun e => List.mem_of_getElem? e⟩
  obtain ⟨a, ha, hax⟩ := List.getElem_of_mem hx
  have hs : l[a]? = some x := by rw [List.getElem?_eq_getElem ha, hax]
  rcases Nat.lt_trichotomy a i with e | e | e
  · have := h.lo a x e hs; rw [ltB_irr] at this; cases this
  · rw [← e]; exact hs
  · have hi : l[i]? = some (l[i]'(by omega)) := List.getElem?_eq_getElem (by omega)
    have := h.hi i _ (Nat.le_refl _) hi
    rw [hr.get e hi hs] at this; cases this

set_option maxRecDepth 100000 in
set_option maxHeartbeats 1000000 in
theorem binsearch_any {w : World} {v : Value} {l : List ByteArray} (hV : ReadR w 1 strC v l) (hlen : l.length ≤ 1000) (hr : Rising l) (x : ByteArray) : Calls Tryz.prog 66 #[v, .string x] w (BinPost l x w) := by
  obtain ⟨ao, cap, rfl, hc⟩ := hV.form
  obtain ⟨n, hn⟩ : ∃ n, n = l.length := ⟨_, rfl⟩
  have HV := hid hV
  rw [← hn] at HV ⊢ hlen
  have HN := hid hn
  have HR := hid hr
  have HC := hid hc
  clear hV hn hr hc
  go_enter Tryz.func66, Tryz.ntmps66
  go_wp2_with fail
  go_loopg [7, 8] n (fun g u v wr => ∃ i j, g = j - i ∧ i ≤ j ∧ j ≤ n ∧ wr = w ∧ u = .int .i64 i ∧ v = .int .i64 j ∧ Hid (Between l x i j))
  case atStart => exact ⟨0, n, rfl, Nat.zero_le _, Nat.le_refl _, rfl, rfl, rfl, hid ⟨Nat.zero_le _, by rw [HN.out]; exact Nat.le_refl _, fun a y h => by omega, fun a y h hy => by have := (List.getElem?_eq_some_iff.1 hy).1; rw [HN.out] at h; omega⟩⟩
  case round =>
    obtain ⟨i, j, rfl, hij, hjn, rfl, rfl, rfl, HB⟩ := hrel
    by_cases hlt : i < j
    · obtain ⟨b, off, rfl⟩ := HC.out (by rw [← HN.out]; omega)
      obtain ⟨h, hh⟩ : ∃ h, h = (i + j) / 2 := ⟨_, rfl⟩
      have hhI : ((i : Int) + (j : Int)) / 2 = (h : Int) := by rw [hh]; omega
      have hih : i ≤ h := by omega
      have hhj : h < j := by omega
      obtain ⟨y, hy⟩ : ∃ y, l[h]? = some y := ⟨_, List.getElem?_eq_getElem (by rw [← HN.out]; omega)⟩
      have c1 : wr.cell? ⟨b, off + h, none⟩ = some (.string y) := HV.out.cell1 hy
      have HY := hid hy
      have HH := hid hh
      clear hy hh
      cases hb : ltB y x with
      | true =>
        have HBB := hid hb
        go_wp2_with (first | (go_at_call 109; refine (less_str _ _ _).mono ?_; rintro e w' ⟨rfl, rfl⟩))
        go_roundg (j - (h + 1))
        case measure => omega
        case rel =>
          refine ⟨h + 1, j, rfl, by omega, by omega, rfl, by go_num, rfl, hid ⟨by omega, HB.out.le2, fun a z ha hz => ?_, HB.out.hi⟩⟩
          rcases Nat.lt_or_ge a h with e | e
          · exact ltB_trans (HR.out.get e hz HY.out) HBB.out
          · obtain rfl : a = h := by omega
            rw [HY.out] at hz; cases hz; exact HBB.out
      | false =>
        have HBB := hid hb
        go_wp2_with (first | (go_at_call 109; refine (less_str _ _ _).mono ?_; rintro e w' ⟨rfl, rfl⟩))
        go_roundg (h - i)
        case measure => omega
        case rel =>
          refine ⟨i, h, rfl, by omega, by omega, rfl, rfl, rfl, hid ⟨by omega, by rw [← HN.out]; omega, HB.out.lo, fun a z ha hz => ?_⟩⟩
          rcases Nat.lt_or_ge h a with e | e
          · cases hk : ltB z x with
            | false => rfl
            | true => have := ltB_trans (HR.out.get e HY.out hz) hk; rw [HBB.out] at this; cases this
          · obtain rfl : a = h := by omega
            rw [HY.out] at hz; cases hz; exact HBB.out
    · obtain rfl : i = j := by omega
      have hF := HB.out.found HR.out
      by_cases hin : i < n
      · obtain ⟨b, off, rfl⟩ := HC.out (by rw [← HN.out]; omega)
        obtain ⟨y, hy⟩ : ∃ y, l[i]? = some y := ⟨_, List.getElem?_eq_getElem (by rw [← HN.out]; omega)⟩
        have c1 : wr.cell? ⟨b, off + i, none⟩ = some (.string y) := HV.out.cell1 hy
        rw [hy] at hF
        have HF := hid hF
        have HY := hid hy
        clear hF hy
        by_cases hyx : y = x
        · have hd := beqB_true hyx
          have HX := hid hyx
          clear hyx
          go_wp2_with (first | (go_at_call 110; refine (nan2 _ _).mono ?_; rintro e w' ⟨rfl, rfl⟩))
          go_ret2
          exact ⟨i, true, rfl, ⟨fun _ => HX.out ▸ List.mem_of_getElem? HY.out, fun _ => rfl⟩, fun _ => by rw [HY.out, HX.out], rfl⟩
        · have hd := beqB_false hyx
          have HX := hid hyx
          clear hyx
          go_wp2_with (first | (go_at_call 110; refine (nan2 _ _).mono ?_; rintro e w' ⟨rfl, rfl⟩))
          go_ret2
          have hx : x ∉ l := fun h => HX.out (by simpa using HF.out.1 h)
          exact ⟨i, false, rfl, ⟨fun h => (by cases h), fun h => absurd h hx⟩, fun h => absurd h hx, rfl⟩
      · have HF : Hid (x ∉ l) := hid (by rw [hF, List.getElem?_eq_none (by rw [← HN.out]; omega)]; simp)
        clear hF
        go_wp2_with fail
        go_ret2
        exact ⟨i, false, rfl, ⟨fun h => (by cases h), fun h => absurd h HF.out⟩, fun h => absurd h HF.out, rfl⟩
end Go.Proofs.YtngpjagpeblbjaaGreatDoor
namespace Go.Tour
variable {σ : Type} [DecidableEq σ]
theorem goS_at {d : DF σ} (hn : d.syms.Nodup) {x : σ} {n : Nat} (h : d.syms[n]? = some x) (s : Nat) : goS d s x = (stepD d s n : Nat) := by
  rw [goS_in (List.mem_of_getElem? h), idx_of_get hn h]
end Go.Tour
namespace Go.Proofs.YtngpjagpeblbjaaGreatDoor
open Go.RowKit Go.Spy Go.Heaped Go.Tour Go.Rx

/-- An automaton that may be, in memory. -/
structure DfaW (w : World) (v : Value) (D : DA) : Prop where
  at_ : DfaV w v D.raw
  bnd : BndD D.raw
  well : WellD nameOk D
theorem DfaW.ext {w w' : World} {v : Value} {D : DA} (h : DfaW w v D) (e : Ext w w') : DfaW w' v D := ⟨h.at_.ext e, h.bnd, h.well⟩
theorem raw_row {D : DA} {i : Nat} {r : List Nat} (h : D.next[i]? = some r) : D.raw.next[i]? = some (r.map Int.ofNat) := by simp [DF.raw, h]
theorem DfaP.cellN {w : World} {vS vN vF : Value} {us : List Value} {D : DA} (h : DfaP w vS vN vF us D.raw) (W : WellD nameOk D) {s : Nat} (hs : s < D.next.length) :
    ∃ ao c, us[s]? = some (.slice ao D.syms.length c) ∧ (∀ i, i < D.syms.length → ∃ g off, ao = some ⟨g, off, none⟩ ∧ w.cell? ⟨g, off + i, none⟩ = some (.int .i64 (stepD D s i : Nat))) := by
  have hr : D.next[s]? = some D.next[s] := List.getElem?_eq_getElem hs
  have hl := W.ok.row _ (List.getElem_mem hs)
  obtain ⟨ao, c, hu, hR⟩ := h.row (raw_row hr)
  rw [List.length_map, hl] at hu hR
  refine ⟨ao, c, hu, fun i hi => ?_⟩
  obtain ⟨r, h1, h2, h3⟩ := W.ok.get hs hi
  rw [hr] at h1
  cases h1
  obtain ⟨ao', c', e, hf⟩ := hR.form
  simp only [Value.slice.injEq] at e
  obtain ⟨rfl, e2, _⟩ := e
  obtain ⟨g, off, rfl⟩ := hf (by omega)
  refine ⟨g, off, rfl, ?_⟩
  have := hR.cell1 (j := i) (x := Int.ofNat (stepD D s i)) (by rw [List.getElem?_map, h3]; rfl)
  exact this

set_option maxRecDepth 100000 in
set_option maxHeartbeats 1000000 in
theorem goes_any {w : World} {v : Value} {D : DA} (hD : DfaW w v D) (s : Int) (hs : s < D.next.length) (x : ByteArray) : Calls Tryz.prog 89 #[v, .int .i64 s, .string x] w fun e w' => e = .returned (.int .i64 (goS D s x)) ∧ Ext w w' := by
  obtain ⟨⟨vS, vN, vF, us, rfl, hP⟩, hB, W⟩ := hD
  obtain ⟨aoS, cS, rfl, hS⟩ := hP.syms.form
  obtain ⟨aoN, cN, rfl, hN⟩ := hP.next.form
  obtain ⟨aoF, cF, rfl, hF⟩ := hP.fin.form
  rw [hP.len] at hN
  obtain ⟨n, hn⟩ : ∃ n, n = D.raw.next.length := ⟨_, rfl⟩
  have hn2 : n = D.next.length := by rw [hn]; simp [DF.raw]
  have hbn : n ≤ 1000 := hn ▸ hB.n
  have hsn : s < (n : Int) := by rw [hn2]; exact hs
  have HP := hid hP
  rw [hP.len, ← hn] at HP ⊢
  rw [← hn] at hN
  have HB := hid hB
  have HW := hid W
  have HN := hid hn2
  clear hP hB hn hn2 hs
  have hbs := binsearch_any (HP.out.syms.ext ((((Below.refl _ w).alloc (Nat.le_refl _) (.cells #[.slice aoS D.raw.syms.length cS, .slice aoN n cN, .slice aoF D.raw.fin.length cF] 26)) : Ext w _))) HB.out.s HW.out.rising x
  by_cases h0 : s < 0
  · have d0 : decide (s < 0) = true := decide_eq_true h0
    go_enter Tryz.func89, Tryz.ntmps89
    go_wp2_with fail
    refine hbs.mono ?_
    rintro e w2 ⟨q, b, rfl, -, -, rfl⟩
    go_wp2_with fail
    go_ret
    exact ⟨ret_int (goS_none h0 x).symm, (Below.refl _ _).alloc (Nat.le_refl _) _⟩
  · have d0 : decide (s < 0) = false := decide_eq_false h0
    obtain ⟨k, rfl⟩ : ∃ k : Nat, s = (k : Int) := ⟨s.toNat, by omega⟩
    clear h0
    obtain ⟨ao, c, hu, hc⟩ := HP.out.cellN HW.out (s := k) (by rw [← HN.out]; omega)
    obtain ⟨m, hm⟩ : ∃ m, m = D.syms.length := ⟨_, rfl⟩
    have hbm : m ≤ 1000 := hm ▸ HB.out.s
    rw [← hm] at hu hc
    have HC := hid hc
    have HU := hid hu
    have HM := hid hm
    clear hc hu hm
    go_enter Tryz.func89, Tryz.ntmps89
    go_wp2_with fail
    refine hbs.mono ?_
    rintro e w2 ⟨q, b, rfl, hb, hq, rfl⟩
    cases b with
    | false =>
      have hx : x ∉ D.syms := fun h => by have := hb.2 h; cases this
      have HX := hid hx
      clear hb hq hx
      go_wp2_with fail
      go_ret
      exact ⟨ret_int (goS_out HX.out _).symm, (Below.refl _ _).alloc (Nat.le_refl _) _⟩
    | true =>
      have hx := hb.1 rfl
      have hq1 := hq hx
      have hqm : q < m := by rw [HM.out]; exact (List.getElem?_eq_some_iff.1 hq1).1
      obtain ⟨gN, oN, rfl⟩ := hN (by omega)
      obtain ⟨g, off, rfl, c2⟩ := HC.out q hqm
      have hgl := World.block_lt_of_cell? _ _ c2
      have c1 : w.cell? ⟨gN, oN + k, none⟩ = some (.slice (some ⟨g, off, none⟩) m c) := HP.out.next.cell1 HU.out
      have hgl1 := World.block_lt_of_cell? _ _ c1
      have HQ := hid hq1
      clear hb hq hx hq1
      go_wp2_with fail
      go_ret
      exact ⟨ret_int (goS_at HW.out.rising.nodup HQ.out k).symm, (Below.refl _ _).alloc (Nat.le_refl _) _⟩

set_option maxRecDepth 100000 in
theorem final_any {w : World} {v : Value} {D : DA} (hD : DfaW w v D) (s : Int) (hs : s < D.next.length) : Calls Tryz.prog 50 #[v, .int .i64 s] w fun e w' => e = .returned (.bool (finS D s)) ∧ Ext w w' := by
  obtain ⟨⟨vS, vN, vF, us, rfl, hP⟩, hB, W⟩ := hD
  obtain ⟨aoS, cS, rfl, hS⟩ := hP.syms.form
  obtain ⟨aoN, cN, rfl, hN⟩ := hP.next.form
  obtain ⟨aoF, cF, rfl, hF⟩ := hP.fin.form
  have hfl : D.raw.fin.length = D.next.length := W.ok.fin
  obtain ⟨n, hn⟩ : ∃ n, n = D.raw.fin.length := ⟨_, rfl⟩
  have hbn : n ≤ 1000 := hn ▸ hB.f
  have hsn : s < (n : Int) := by rw [hn, hfl]; exact hs
  have HP := hid hP
  rw [← hn] at HP ⊢ hF
  have HW := hid W
  have HN : Hid (n = D.next.length) := hid (by rw [hn, hfl])
  clear hP hB hn hfl hs
  by_cases h0 : s < 0
  · have d0 : decide ((0 : Int) ≤ s) = false := decide_eq_false (by omega)
    go_enter Tryz.func50, Tryz.ntmps50
    go_wp2_with fail
    go_ret
    exact ⟨ret_bool (by unfold finS; rw [d0]; rfl), (Below.refl _ _).alloc (Nat.le_refl _) _⟩
  · have d0 : decide ((0 : Int) ≤ s) = true := decide_eq_true (by omega)
    obtain ⟨k, rfl⟩ : ∃ k : Nat, s = (k : Int) := ⟨s.toNat, by omega⟩
    clear h0
    obtain ⟨g, off, rfl⟩ := hF (by omega)
    have c1 : w.cell? ⟨g, off + k, none⟩ = some (.bool (finD D k)) := HP.out.fin.cell1 (HW.out.ok.finAt (by rw [← HN.out]; omega))
    have hgl := World.block_lt_of_cell? _ _ c1
    go_enter Tryz.func50, Tryz.ntmps50
    go_wp2_with fail
    go_ret
    exact ⟨ret_bool (by unfold finS; rw [d0]; simp), (Below.refl _ _).alloc (Nat.le_refl _) _⟩

theorem DfaP.ext_box {w : World} {vS vN vF : Value} {us : List Value} {d : DR} (h : DfaP w vS vN vF us d) (o : Obj) : DfaP (w.alloc o) vS vN vF us d := h.ext ((Below.refl _ _).alloc (Nat.le_refl _) _)

set_option maxRecDepth 100000 in
set_option maxHeartbeats 1000000 in
theorem dmatch_any {w : World} {v : Value} {D : DA} (hD : DfaW w v D) {x : Value} {l : List ByteArray} (hl : ReadR w 1 strC x l) (hlen : l.length ≤ 1000) : Calls Tryz.prog 26 #[v, x] w fun e w' => e = .returned (.bool (matchD D l)) ∧ Ext w w' := by
  have HD := hid hD
  obtain ⟨⟨vS, vN, vF, us, rfl, hP⟩, hB, W⟩ := hD
  have hc := hid (dcheck_any (hP.ext_box (.cells #[vS, vN, vF] 26)) hB)
  obtain ⟨aoS, cS, rfl, hS⟩ := hP.syms.form
  obtain ⟨aoN, cN, rfl, hN⟩ := hP.next.form
  obtain ⟨aoF, cF, rfl, hF⟩ := hP.fin.form
  obtain ⟨aoL, cL, rfl, hL⟩ := hl.form
  have HE := well_check W
  rw [HE] at hc
  obtain ⟨n, hn⟩ : ∃ n, n = l.length := ⟨_, rfl⟩
  have HL := hid hl
  have HLF := hid hL
  rw [← hn] at HL HLF hlen ⊢
  obtain ⟨k, hk⟩ : ∃ k, k = D.raw.fin.length := ⟨_, rfl⟩
  have hbk : k ≤ 1000 := hk ▸ hB.f
  have hkn : k = D.next.length := by rw [hk]; exact W.ok.fin
  have HP := hid hP
  rw [← hk] at hc HD HP ⊢ hF
  have HFF := hid hF
  have HW := hid W
  have HNN := hid hn
  have HK := hid hkn
  have HX : Hid (Ext w (w.alloc (.cells #[.slice aoS D.raw.syms.length cS, .slice aoN us.length cN, .slice aoF k cF] 26))) := hid ((Below.refl _ _).alloc (Nat.le_refl _) _)
  clear hP hB W hl hn hk hkn HE hS hN hF hL
  go_enter Tryz.func26, Tryz.ntmps26
  go_wp2_with fail
  refine hc.out.mono ?_
  rintro e w2 ⟨rfl, hx⟩
  have HX2 := hid (HX.out.trans (hx.mono HX.out.size))
  have HB2 := hid ((Blk.new w 26 #[.slice aoS D.raw.syms.length cS, .slice aoN us.length cN, .slice aoF k cF]).ext hx)
  clear hx
  go_wp2_with fail
  go_loopg [5, 13] n (fun g u v wr => ∃ j s, g = n - j ∧ j ≤ n ∧ s < k ∧ u = .int .i64 (s : Nat) ∧ v = .int .i64 j ∧ Hid (Ext w wr ∧ Blk wr w.heap.size 26 #[.slice aoS D.raw.syms.length cS, .slice aoN us.length cN, .slice aoF k cF]) ∧ Hid (runS D 0 (l.take j) = (s : Nat)))
  case atStart => exact ⟨0, 0, rfl, Nat.zero_le _, by rw [HK.out]; exact HW.out.ok.pos, rfl, rfl, hid ⟨HX2.out, HB2.out⟩, hid rfl⟩
  case round =>
    obtain ⟨j, s, rfl, hj, hs, rfl, rfl, HY, HR⟩ := hrel
    have b0 : wr.cell? ⟨w.heap.size, 0, none⟩ = some (.slice aoS D.raw.syms.length cS) := HY.out.2.cell rfl
    have b1 : wr.cell? ⟨w.heap.size, 1, none⟩ = some (.slice aoN us.length cN) := HY.out.2.cell rfl
    have b2 : wr.cell? ⟨w.heap.size, 2, none⟩ = some (.slice aoF k cF) := HY.out.2.cell rfl
    by_cases hlt : j < n
    · obtain ⟨g, off, rfl⟩ := HLF.out (by omega)
      obtain ⟨y, hy⟩ : ∃ y, l[j]? = some y := ⟨_, List.getElem?_eq_getElem (by rw [← HNN.out]; omega)⟩
      have c1 : wr.cell? ⟨g, off + j, none⟩ = some (.string y) := (HL.out.ext HY.out.1).cell1 hy
      have HT : Hid (runS D 0 (l.take (j + 1)) = goS D (s : Nat) y) := hid (by
        have h1 := (List.getElem?_eq_some_iff.1 hy)
        obtain ⟨h2, h3⟩ := h1
        rw [List.take_succ_eq_append_getElem h2, h3]
        unfold runS at *
        rw [List.foldl_append, HR.out]; rfl)
      have HYY := hid hy
      clear hy
      go_wp2_with fail
      go_at_call 89
      refine (goes_any (HD.out.ext HY.out.1) (s : Nat) (by rw [← HK.out]; omega) y).mono ?_
      rintro e w3 ⟨rfl, hx⟩
      have HX3 := hid (HY.out.1.trans (hx.mono HY.out.1.size))
      have HB3 := hid (HY.out.2.ext hx)
      clear hx
      have hb1 := (goS_lt HW.out.ok (s : Nat) y).2
      rw [← HK.out] at hb1
      obtain ⟨q, hq⟩ : ∃ q, q = goS D (s : Nat) y := ⟨_, rfl⟩
      rw [← hq] at hb1 HT ⊢
      clear hq
      by_cases hq0 : q < 0
      · have d0 : decide (q < 0) = true := decide_eq_true hq0
        go_wp2_with fail
        go_ret
        refine ⟨ret_bool ?_, HX3.out⟩
        have h1 : runS D 0 l < 0 := by
          rw [← List.take_append_drop (j + 1) l]
          unfold runS
          rw [List.foldl_append]
          exact runS_none _ (by have := HT.out; unfold runS at this; rw [this]; exact hq0)
        unfold matchD finS
        rw [decide_eq_false (by omega)]; rfl
      · have d0 : decide (q < 0) = false := decide_eq_false hq0
        obtain ⟨t, rfl⟩ : ∃ t : Nat, q = (t : Int) := ⟨q.toNat, by omega⟩
        go_wp2_with fail
        go_roundg (n - (j + 1))
        case measure => omega
        case rel => exact ⟨j + 1, t, rfl, by omega, by omega, rfl, by go_num, hid ⟨HX3.out, HB3.out⟩, HT⟩
    · obtain ⟨g, off, rfl⟩ := HFF.out (by omega)
      have c1 : wr.cell? ⟨g, off + s, none⟩ = some (.bool (finD D s)) := (HP.out.ext HY.out.1).fin.cell1 (HW.out.ok.finAt (by rw [← HK.out]; omega))
      go_wp2_with fail
      go_ret
      refine ⟨ret_bool ?_, HY.out.1⟩
      have h1 := HR.out
      rw [List.take_of_length_le (by rw [← HNN.out]; omega)] at h1
      unfold matchD finS
      rw [h1]; simp
end Go.Proofs.YtngpjagpeblbjaaGreatDoor
namespace Go.Proofs.YtngpjagpeblbjaaGreatDoor
open Go.RowKit Go.Spy Go.Heaped Go.Tour Go.Rx Go.Sort

theorem strC_size (x : ByteArray) : (strC x).size = 1 := rfl
theorem ones_strC (x : ByteArray) : Ones (strC x) := by
  intro v hv
  simp only [strC, List.mem_toArray, List.mem_cons, List.not_mem_nil, or_false] at hv
  subst hv; rfl
def bl (s : ByteArray) : List UInt8 := s.data.toList
theorem strC_bl (s : ByteArray) : stC (bl s) = strC s := by unfold stC strC bl; rw [bs_self]
theorem own_bl {w : World} {base : Nat} {v : Value} {l : List ByteArray} : OwnR w base 9 1 strC v l ↔ OwnT w base v (l.map bl) := by
  have e : (fun x : ByteArray => (strC x).toList) = fun x => (stC (bl x)).toList := by funext x; rw [strC_bl]
  unfold OwnT OwnR
  rw [List.length_map, List.flatMap_map, e]

def RevPost (base : Nat) (v : Value) (l : List ByteArray) (w1 : World) (e : Ending) (w2 : World) : Prop := e = .returned (.tuple #[]) ∧ OwnR w2 base 9 1 strC v l.reverse ∧ Below base w1 w2
theorem reverse_own {w1 : World} {base : Nat} {v : Value} {l : List ByteArray} (h : OwnR w1 base 9 1 strC v l) (hl : l.length ≤ 1000000000) : Calls Tryz.prog 107 #[v] w1 (RevPost base v l w1) := by
  have h' := ownT_iff.1 (own_bl.1 h)
  by_cases hv : v = .slice none 0 0
  · subst hv
    have h0 : l = [] := by
      rcases h'.2 with ⟨_, h0⟩ | ⟨g, cap, cur, e, _⟩
      · simpa using h0
      · cases e
    subst h0
    refine (Tryz.slices_Reverse_string_empty none 0 w1).mono ?_
    rintro e w2 ⟨rfl, rfl⟩
    exact ⟨rfl, h, Below.refl _ _⟩
  · obtain ⟨g, cap, rfl, hbg, hgl, hncap, hcm, hlen, hH⟩ := Lib.holds_of_ownsRow h' hv
    refine (Tryz.slices_Reverse_string g 0 cap (l.map bl) w1 hH (by simp; omega)).mono ?_
    rintro e w2 ⟨rfl, q, rfl⟩
    refine ⟨rfl, ?_, Lib.below_putRow (Below.refl _ _) hbg⟩
    have h2 := Lib.ownsRow_putRow (q := q) (k := (l.map bl).length) (ys := (l.map bl).reverse) h' (by simp) (Nat.le_refl _)
    rw [List.take_of_length_le (by simp)] at h2
    refine own_bl.2 (ownT_iff.2 ?_)
    rw [List.map_reverse, List.length_reverse]
    exact h2

def WordsPost (syms : List ByteArray) (u : List Nat) (w : World) (e : Ending) (w' : World) : Prop := Ext w w' ∧ ∃ v, e = .returned v ∧ OwnR w' w.heap.size 9 1 strC v (wordsOf syms u)

set_option maxRecDepth 100000 in
set_option maxHeartbeats 1000000 in
theorem words_int {w : World} {vK vN vF vS : Value} {fr : List (Nat × Nat)} {syms : List ByteArray} (hF : ReadR w 2 stepA vF fr) (hS : ReadR w 1 strC vS syms) (hl : fr.length ≤ 100000) (hs : syms.length ≤ 1000)
    {K : Type} {δ : K → Nat → K} {first : K} {keys : List K} {b : Nat × Nat} (hB : Bfs δ syms.length first keys fr b) (n : Nat) (hn : n < fr.length) :
    Calls Tryz.prog 54 #[.agg #[vK, vN, vF], .int .i64 n, vS] w (WordsPost syms (word fr n) w) := by
  obtain ⟨aoF, cF, rfl, hF2⟩ := hF.form
  obtain ⟨aoS, cS, rfl, hS2⟩ := hS.form
  obtain ⟨gF, oF, rfl⟩ := hF2 (by omega)
  obtain ⟨k, hk⟩ : ∃ k, k = fr.length := ⟨_, rfl⟩
  obtain ⟨m, hm⟩ : ∃ m, m = syms.length := ⟨_, rfl⟩
  have HF := hid hF
  have HS := hid hS
  rw [← hk] at HF ⊢ hl hn
  rw [← hm] at HS ⊢ hs
  have HS2 := hid hS2
  have HK := hid hk
  have HM := hid hm
  have HB := hid hB
  clear hF hS hF2 hS2 hk hm hB
  go_enter Tryz.func54, Tryz.ntmps54
  go_wp2_with fail
  go_loopg [1, 7] (2 * n) (fun g u v wr => ∃ j us, g = 2 * j ∧ j ≤ n ∧ u = .int .i64 j ∧ Hid (OwnR wr w.heap.size 9 1 strC v (wordsOf syms us) ∧ Ext w wr ∧ Blk wr w.heap.size 89 #[vK, vN, .slice (some ⟨gF, oF, none⟩) k cF]) ∧ Hid (word fr n = word fr j ++ us.reverse ∧ us.length + j ≤ n ∧ ∀ c ∈ us, c < syms.length))
  case atStart => exact ⟨n, [], rfl, Nat.le_refl _, rfl, hid ⟨OwnR.nil _ _ _ _ _, (Below.refl _ _).alloc (Nat.le_refl _) _, Blk.new _ _ _⟩, hid ⟨by simp, by simp, by simp⟩⟩
  case round =>
    obtain ⟨j, us, rfl, hj, rfl, HO, HU⟩ := hrel
    have b2 : wr.cell? ⟨w.heap.size, 2, none⟩ = some (.slice (some ⟨gF, oF, none⟩) k cF) := HO.out.2.2.cell rfl
    by_cases h0 : 0 < j
    · obtain ⟨p, hp⟩ := HB.out.at (n := j) (by rw [← HB.out.len, ← HK.out]; omega)
      have hst := HB.out.step j p h0 hp
      have hw := HB.out.word_pos h0 hp
      have c0 : wr.cell? ⟨gF, oF + j * 2, none⟩ = some (.int .i64 p.1) := by
        have h := (HF.out.ext HO.out.2.1)
        rw [HK.out] at h
        exact h.cell hp (k := 0) (by decide)
      have c1 : wr.cell? ⟨gF, oF + j * 2 + 1, none⟩ = some (.int .i64 p.2) := by
        have h := (HF.out.ext HO.out.2.1)
        rw [HK.out] at h
        exact h.cell hp (k := 1) (by decide)
      obtain ⟨p1, p2⟩ := p
      obtain ⟨hp2, hp1, -, -⟩ := hst
      simp only at hp2 hp1 c0 c1 hw
      rw [← HM.out] at hp2
      obtain ⟨g, off, rfl⟩ := HS2.out (by rw [← HM.out]; omega)
      obtain ⟨y, hy⟩ : ∃ y, syms[p2]? = some y := ⟨_, List.getElem?_eq_getElem (by rw [← HM.out]; exact hp2)⟩
      have c2 : wr.cell? ⟨g, off + p2, none⟩ = some (.string y) := (HS.out.ext HO.out.2.1).cell1 hy
      have HWD := hid hw
      have HP := hid hp
      have HY := hid hy
      have HO1 := hid HO.out.1
      have hsz : w.heap.size ≤ wr.heap.size := HO.out.2.1.size
      have hgl : gF < wr.heap.size := World.block_lt_of_cell? _ _ c0
      have hww : w.heap.size < wr.heap.size := HO.out.2.2.lt
      have hul : us.length ≤ 100000 := by have := HU.out.2.1; omega
      have hlen : (wordsOf syms us).length + 1 ≤ 1000000000 := by rw [wordsOf_length HU.out.2.2]; omega
      clear hp hw hy
      go_wp2_with (first | (at_builtin; go_must (refine wpList_append_R elem_str strC_size ones_strC HO1 hsz hlen y _ rfl wr.heap.size rfl rfl _ _ rfl rfl rfl ?_)
                            rintro g' cap' v' w4 rfl H1 H2
                            have HX := hid (ext_grown HO.out.2.1 H2.out.1 (fun i hi => (HO1.out.lt i hi).1))
                            have hb4 := HO.out.2.2.grown H2.out.1 (fun e => by obtain ⟨_, hb⟩ := own_block HO1.out e.symm; exact ne_of_blk HO.out.2.2 hb (by decide) rfl)
                            have b4 : w4.cell? ⟨w.heap.size, 2, none⟩ = some (.slice (some ⟨gF, oF, none⟩) k cF) := hb4.cell rfl
                            have d0 : w4.cell? ⟨gF, oF + j * 2, none⟩ = some (.int .i64 p1) := by
                              have h := (HF.out.ext HX.out)
                              rw [HK.out] at h
                              exact h.cell HP.out (k := 0) (by decide)
                            have HB4 := hid hb4
                            clear hb4))
      go_roundg (2 * p1)
      case measure => omega
      case rel =>
        refine ⟨p1, us ++ [p2], rfl, by omega, rfl, hid ⟨?_, HX.out, HB4.out⟩, hid ⟨?_, ?_, ?_⟩⟩
        · have e : wordsOf syms (us ++ [p2]) = wordsOf syms us ++ [y] := by
            rw [wordsOf_snoc us (by rw [← HM.out]; exact hp2)]
            congr 2
            have := (List.getElem?_eq_some_iff.1 HY.out).2
            exact this
          rw [e]; exact H1.out
        · rw [HU.out.1, HWD.out]; simp
        · have := HU.out.2.1; simp; omega
        · intro c hc
          rw [List.mem_append, List.mem_singleton] at hc
          rcases hc with hc | rfl
          · exact HU.out.2.2 c hc
          · rw [← HM.out]; exact hp2
    · obtain rfl : j = 0 := by omega
      have hlen : (wordsOf syms us).length ≤ 1000000000 := by rw [wordsOf_length HU.out.2.2]; have := HU.out.2.1; omega
      have HR := hid (reverse_own HO.out.1 hlen)
      go_wp2_with fail
      refine HR.out.mono ?_
      rintro e w2 ⟨rfl, hO, hx⟩
      have HOO := hid hO
      have HXX := hid (HO.out.2.1.trans hx)
      clear hO hx
      go_wp2_with fail
      go_ret
      refine ⟨HXX.out, _, rfl, ?_⟩
      rw [HU.out.1, word_zero, List.nil_append]
      have e : (wordsOf syms us).reverse = wordsOf syms us.reverse := by unfold wordsOf; rw [List.filterMap_reverse]
      rw [← e]
      exact HOO.out
end Go.Proofs.YtngpjagpeblbjaaGreatDoor
