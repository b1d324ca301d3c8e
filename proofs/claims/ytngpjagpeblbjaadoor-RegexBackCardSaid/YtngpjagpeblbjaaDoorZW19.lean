/-
  Walk of the reference's Match.
-/
import Derived.Test.YtngpjagpeblbjaaDoorZW18
import Derived.Test.YtngpjagpeblbjaaDoorAA
namespace Go.Proofs.YtngpjagpeblbjaaDoor
open Go.RowKit Go.Spy Go.Rx

/-- A slice's tail. -/
theorem strs_drop {w : World} {ao : Option Addr} {cap : Nat} {ss : List ByteArray} (h : StrsV w ao cap ss) (n : Nat) {ao' : Option Addr} (c' : Nat) (ha : ∀ b off, ao = some ⟨b, off, none⟩ → n < ss.length → ao' = some ⟨b, off + n, none⟩) : StrsV w ao' c' (ss.drop n) where
  len := by have := h.len; simp; omega
  size i hi := by
    have : n + i < ss.length := by simp at hi; omega
    simpa using h.size (n + i) this
  cells h0 := by
    have hn : n < ss.length := by simp at h0; omega
    obtain ⟨b, off, rfl, hb, hc⟩ := h.cells (by omega)
    refine ⟨b, off + n, ha b off rfl hn, hb, fun i hi => ?_⟩
    have : n + i < ss.length := by simp at hi; omega
    rw [Nat.add_assoc]
    simpa using hc (n + i) this

def MatchI (l : List Nd) (cap : Nat) (i : Nat) : Prop := ∀ (ws : List ByteArray) (w : World) (ao aw : Option Addr) (m cw : Nat), m = ws.length → NodesV w ao l → StrsV w aw cw ws → ws.length ≤ cw → i < l.length →
    Calls Tryd.prog 13 #[.slice ao l.length cap, .int .i64 i, .slice aw m cw] w fun e w' => NullPost (matchT (tr l i) ws) w e w'

set_option maxRecDepth 100000 in
set_option maxHeartbeats 1000000 in
theorem match_cat {l : List Nd} {cap i x y : Nat} (hT : tr l i = .cat (tr l x) (tr l y)) {n : Nd} (hn : l[i]? = some n) (ho : n.op = 3) (ha : n.a = x) (hb' : n.b = y) (hx : x < i) (hy : y < i) (IX : MatchI l cap x) (IY : MatchI l cap y) : MatchI l cap i := by
  intro ws w ao aw m cw hm hV hS hcw hi
  subst hm
  obtain ⟨b, off, rfl, hb, hc⟩ := hV.cells (by omega)
  obtain ⟨q0, q1, q2, q3⟩ := hc i n hn
  have hlen := hV.len
  have hwl := hS.len
  rw [ho] at q0
  rw [ha] at q2
  rw [hb'] at q3
  have HV := hid hV
  have HS := hid hS
  have HX := hid IX
  have HY := hid IY
  have HT := hid hT
  clear hc hV hS IX IY hT hn ho ha hb'
  go_enter Tryd.func13, Tryd.ntmps13
  go_wp2_with fail
  have hB0 := Blk.new w 46 #[.int .i64 3, .string n.sym, .int .i64 x, .int .i64 y]
  have HB := hid hB0
  clear hB0
  go_loopg [8] (ws.length + 1) (fun g v wr => ∃ k, g = ws.length + 1 - k ∧ k ≤ ws.length + 1 ∧ v = .int .i64 k ∧ Hid (Ext (w.alloc (.cells #[.int .i64 3, .string n.sym, .int .i64 x, .int .i64 y] 46)) wr) ∧ Hid (∀ j, j < k → (matchT (tr l x) (ws.take j) && matchT (tr l y) (ws.drop j)) = false))
  case atStart => exact ⟨0, rfl, by omega, rfl, hid (Below.refl _ _), hid (fun j h => absurd h (Nat.not_lt_zero j))⟩
  case round =>
    obtain ⟨k, rfl, hk, rfl, HE, HA⟩ := hrel
    have c2 := (HB.out.ext HE.out).cell (i := 2) rfl
    have c3 := (HB.out.ext HE.out).cell (i := 3) rfl
    have hsz : w.heap.size < wr.heap.size := (HB.out.ext HE.out).lt
    by_cases hlt : k ≤ ws.length
    · have hkc : k ≤ cw := by omega
      have HVr := hid (HV.out.ext (((Below.refl _ w).alloc (Nat.le_refl _) _).trans (HE.out.mono (by simp))))
      have HSr := hid (HS.out.ext (((Below.refl _ w).alloc (Nat.le_refl _) _).trans (HE.out.mono (by simp))))
      have hW : Ext wr wr.drew := (Below.refl _ wr).drew
      go_wp2_with fail
      refine wp_region_pieces (by kernel_rfl) ?_
      refine wpAny_still 0 6 10 #[true, true, true, true, true, true, false, false, false, false, false, false, false, false, false, false] (by kernel_rfl) rfl ?_
      simp only [List.take_succ_cons, List.take_zero, List.drop_succ_cons, List.drop_zero]
      repeat still_step
      refine wpStill_nil ?_
      refine wpAny_forced 6 8 8 #[true, true, true, true, true, true, true, true, false, false, false, false, false, false, false, false] (by kernel_rfl) rfl (by decide) ?_
      simp only [List.take_succ_cons, List.take_zero, List.drop_succ_cons, List.drop_zero]
      go_wp2_with (first
        | (go_at_call 13; refine (HX.out (ws.take k) _ _ _ k cw (by simp; omega) (HVr.out.ext hW) ((HSr.out.ext hW).take k cw) (by simp; omega) (by omega)).mono ?_; rintro e w' ⟨rfl, hx⟩; replace hW := ext_trans hW hx; clear hx))
      have m3 := (hW.cell (p := ⟨w.heap.size, 3, none⟩) hsz).trans c3
      cases hA1 : matchT (tr l x) (ws.take k) with
      | false =>
        have HA1 := hid hA1
        clear hA1
        refine wpAny_still 8 14 2 #[true, true, true, true, true, true, true, true, true, true, true, true, true, true, false, false] (by kernel_rfl) rfl ?_
        simp only [List.take_succ_cons, List.take_zero, List.drop_succ_cons, List.drop_zero]
        repeat still_step
        refine wpStill_nil ?_
        refine wpAny_forced 14 16 0 #[true, true, true, true, true, true, true, true, true, true, true, true, true, true, true, true] (by kernel_rfl) rfl (by decide) ?_
        simp only [List.take_succ_cons, List.take_zero, List.drop_succ_cons, List.drop_zero]
        go_wp2_with fail
        refine wpAny_end (P := Tryd.prog) (by kernel_rfl) ?_
        go_wp2_with fail
        go_roundg (ws.length + 1 - (k + 1))
        case measure => omega
        case rel =>
          refine ⟨k + 1, rfl, by omega, by go_num, hid (HE.out.trans (hW.mono HE.out.size)), hid fun j hj => ?_⟩
          by_cases e : j = k
          · subst e; rw [HA1.out]; rfl
          · exact HA.out j (by omega)
      | true =>
        have HA1 := hid hA1
        clear hA1
        by_cases hkw : cw = k
        · have hlk : ws.length ≤ k := by omega
          subst hkw
          have hd : Hid (ws.drop cw = []) := hid (List.drop_of_length_le hlk)
          refine wpAny_still 8 14 2 #[true, true, true, true, true, true, true, true, true, true, true, true, true, true, false, false] (by kernel_rfl) rfl ?_
          simp only [List.take_succ_cons, List.take_zero, List.drop_succ_cons, List.drop_zero]
          repeat still_step
          refine wpStill_nil ?_
          refine wpAny_forced 14 16 0 #[true, true, true, true, true, true, true, true, true, true, true, true, true, true, true, true] (by kernel_rfl) rfl (by decide) ?_
          simp only [List.take_succ_cons, List.take_zero, List.drop_succ_cons, List.drop_zero]
          go_wp2_with (first
            | (go_at_call 13; refine (HY.out [] _ _ _ 0 0 rfl (HVr.out.ext hW) (by simpa using (HSr.out.ext hW).take 0 0) (by simp) (by omega)).mono ?_; rintro e w2 ⟨rfl, hx⟩; replace hW := ext_trans hW hx; clear hx))
          cases hA2 : matchT (tr l y) [] with
          | false =>
            have HA2 := hid hA2
            clear hA2
            refine wpAny_end (P := Tryd.prog) (by kernel_rfl) ?_
            go_wp2_with fail
            go_roundg (ws.length + 1 - (cw + 1))
            case measure => omega
            case rel =>
              refine ⟨cw + 1, rfl, by omega, by go_num, hid (HE.out.trans (hW.mono HE.out.size)), hid fun j hj => ?_⟩
              by_cases e : j = cw
              · subst e; rw [HA1.out, hd.out, HA2.out]; rfl
              · exact HA.out j (by omega)
          | true =>
            have HA2 := hid hA2
            clear hA2
            refine wpAny_end (P := Tryd.prog) (by kernel_rfl) ?_
            go_wp2_with fail
            go_ret
            refine ⟨?_, (((Below.refl _ w).alloc (Nat.le_refl _) _).trans (HE.out.mono (by simp))).trans (hW.mono (by have := HE.out.size; simp at this; omega))⟩
            rw [HT.out, matchT, List.any_eq_true.2 ⟨cw, by simp; omega, by rw [HA1.out, hd.out, HA2.out]; rfl⟩]; rfl
        · refine wpAny_still 8 14 2 #[true, true, true, true, true, true, true, true, true, true, true, true, true, true, false, false] (by kernel_rfl) rfl ?_
          simp only [List.take_succ_cons, List.take_zero, List.drop_succ_cons, List.drop_zero]
          repeat still_step
          refine wpStill_nil ?_
          refine wpAny_forced 14 16 0 #[true, true, true, true, true, true, true, true, true, true, true, true, true, true, true, true] (by kernel_rfl) rfl (by decide) ?_
          simp only [List.take_succ_cons, List.take_zero, List.drop_succ_cons, List.drop_zero]
          go_wp2_with (first
            | (go_at_call 13; refine (HY.out (ws.drop k) _ _ _ (ws.length - k) (cw - k) (by simp) (HVr.out.ext hW) (strs_drop (HSr.out.ext hW) k _ (fun b' off' e h => by first | omega | (subst e; simp [Addr.add_lit]))) (by simp; omega) (by omega)).mono ?_; rintro e w2 ⟨rfl, hx⟩; replace hW := ext_trans hW hx; clear hx))
          cases hA2 : matchT (tr l y) (ws.drop k) with
          | false =>
            have HA2 := hid hA2
            clear hA2
            refine wpAny_end (P := Tryd.prog) (by kernel_rfl) ?_
            go_wp2_with fail
            go_roundg (ws.length + 1 - (k + 1))
            case measure => omega
            case rel =>
              refine ⟨k + 1, rfl, by omega, by go_num, hid (HE.out.trans (hW.mono HE.out.size)), hid fun j hj => ?_⟩
              by_cases e : j = k
              · subst e; rw [HA1.out, HA2.out]; rfl
              · exact HA.out j (by omega)
          | true =>
            have HA2 := hid hA2
            clear hA2
            refine wpAny_end (P := Tryd.prog) (by kernel_rfl) ?_
            go_wp2_with fail
            go_ret
            refine ⟨?_, (((Below.refl _ w).alloc (Nat.le_refl _) _).trans (HE.out.mono (by simp))).trans (hW.mono (by have := HE.out.size; simp at this; omega))⟩
            rw [HT.out, matchT, List.any_eq_true.2 ⟨k, by simp; omega, by rw [HA1.out, HA2.out]; rfl⟩]; rfl
    · go_wp2_with fail
      go_ret
      refine ⟨?_, ((Below.refl _ w).alloc (Nat.le_refl _) _).trans (HE.out.mono (by simp))⟩
      have : matchT (tr l i) ws = false := by
        rw [HT.out, matchT, List.any_eq_false]
        intro j hj
        rw [HA.out j (by simp at hj; omega)]
        simp
      rw [this]; rfl

end Go.Proofs.YtngpjagpeblbjaaDoor
