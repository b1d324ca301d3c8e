/-
  Walk of the reference's Match, of a Star and of all.
-/
import Derived.Test.YtngpjagpeblbjaaDoorZW19
namespace Go.Proofs.YtngpjagpeblbjaaDoor
open Go.RowKit Go.Spy Go.Rx

theorem star_all {t : RT ByteArray} {ws : List ByteArray} (h : 0 < ws.length) : matchT (.star t) ws = (List.range ws.length).any fun j => matchT t (ws.take (j + 1)) && matchT (.star t) (ws.drop (j + 1)) := by
  cases ws with
  | nil => simp at h
  | cons x w =>
    simp only [matchT]
    rw [starB]
    simp only [List.length_cons, List.take_succ_cons, List.drop_succ_cons]
theorem star_parts {t : RT ByteArray} {ws : List ByteArray} (h : 0 < ws.length) (k : ((List.range ws.length).any fun j => matchT t (ws.take (j + 1)) && matchT (.star t) (ws.drop (j + 1))) = true) : matchT (.star t) ws = true := by
  rw [star_all h]; exact k

def MatchAt (l : List Nd) (cap : Nat) (i : Nat) (ws : List ByteArray) : Prop := ∀ (w : World) (ao aw : Option Addr) (m cw : Nat), m = ws.length → NodesV w ao l → StrsV w aw cw ws → ws.length ≤ cw → i < l.length →
    Calls Tryd.prog 13 #[.slice ao l.length cap, .int .i64 i, .slice aw m cw] w fun e w' => NullPost (matchT (tr l i) ws) w e w'

set_option maxRecDepth 100000 in
set_option maxHeartbeats 1000000 in
theorem match_star1 {l : List Nd} {cap i x : Nat} (hT : tr l i = .star (tr l x)) {n : Nd} (hn : l[i]? = some n) (ho : n.op = 5) (ha : n.a = x) (hx : x < i) (IX : MatchI l cap x) (ws : List ByteArray) (h0 : 0 < ws.length) (IY : ∀ vs, vs.length < ws.length → MatchAt l cap i vs) : MatchAt l cap i ws := by
  intro w ao aw m cw hm hV hS hcw hi
  subst hm
  obtain ⟨b, off, rfl, hb, hc⟩ := hV.cells (by omega)
  obtain ⟨q0, q1, q2, q3⟩ := hc i n hn
  have hlen := hV.len
  have hwl := hS.len
  rw [ho] at q0
  rw [ha] at q2
  have tl : ((ws.length : Int) == 0) = false := beq_eq_false_iff_ne.2 (by omega)
  have HV := hid hV
  have HS := hid hS
  have HX := hid IX
  have HY := hid IY
  have HT := hid hT
  clear hc hV hS IX IY hT hn ho ha
  go_enter Tryd.func13, Tryd.ntmps13
  go_wp2_with fail
  have hB0 := Blk.new w 46 #[.int .i64 5, .string n.sym, .int .i64 x, .int .i64 n.b]
  have HB := hid hB0
  clear hB0
  go_loopg [9] ws.length (fun g v wr => ∃ k, g = ws.length + 1 - k ∧ 1 ≤ k ∧ k ≤ ws.length + 1 ∧ v = .int .i64 k ∧ Hid (Ext (w.alloc (.cells #[.int .i64 5, .string n.sym, .int .i64 x, .int .i64 n.b] 46)) wr) ∧ Hid (∀ j, 1 ≤ j → j < k → (matchT (tr l x) (ws.take j) && matchT (tr l i) (ws.drop j)) = false))
  case atStart => exact ⟨1, rfl, by omega, by omega, rfl, hid (Below.refl _ _), hid (fun j h h' => by omega)⟩
  case round =>
    obtain ⟨k, rfl, hk1, hk, rfl, HE, HA⟩ := hrel
    have c2 := (HB.out.ext HE.out).cell (i := 2) rfl
    have c3 := (HB.out.ext HE.out).cell (i := 3) rfl
    have hsz : w.heap.size < wr.heap.size := (HB.out.ext HE.out).lt
    by_cases hlt : k ≤ ws.length
    · have hkc : k ≤ cw := by omega
      have HVr := hid (HV.out.ext (((Below.refl _ w).alloc (Nat.le_refl _) _).trans (HE.out.mono (by simp))))
      have HSr := hid (HS.out.ext (((Below.refl _ w).alloc (Nat.le_refl _) _).trans (HE.out.mono (by simp))))
      have hW : Ext wr wr.drew := (Below.refl _ wr).drew
      go_wp2_with fail
      refine wp_region_pieces (by kernel_rfl) ?_
      refine wpAny_still 0 6 9 #[true, true, true, true, true, true, false, false, false, false, false, false, false, false, false] (by kernel_rfl) rfl ?_
      simp only [List.take_succ_cons, List.take_zero, List.drop_succ_cons, List.drop_zero]
      repeat still_step
      refine wpStill_nil ?_
      refine wpAny_forced 6 8 7 #[true, true, true, true, true, true, true, true, false, false, false, false, false, false, false] (by kernel_rfl) rfl (by decide) ?_
      simp only [List.take_succ_cons, List.take_zero, List.drop_succ_cons, List.drop_zero]
      go_wp2_with (first
        | (go_at_call 13; refine (HX.out (ws.take k) _ _ _ k cw (by simp; omega) (HVr.out.ext hW) ((HSr.out.ext hW).take k cw) (by simp; omega) (by omega)).mono ?_; rintro e w' ⟨rfl, hx⟩; replace hW := ext_trans hW hx; clear hx))
      have m3 := (hW.cell (p := ⟨w.heap.size, 3, none⟩) hsz).trans c3
      cases hA1 : matchT (tr l x) (ws.take k) with
      | false =>
        have HA1 := hid hA1
        clear hA1
        refine wpAny_still 8 13 2 #[true, true, true, true, true, true, true, true, true, true, true, true, true, false, false] (by kernel_rfl) rfl ?_
        simp only [List.take_succ_cons, List.take_zero, List.drop_succ_cons, List.drop_zero]
        repeat still_step
        refine wpStill_nil ?_
        refine wpAny_forced 13 15 0 #[true, true, true, true, true, true, true, true, true, true, true, true, true, true, true] (by kernel_rfl) rfl (by decide) ?_
        simp only [List.take_succ_cons, List.take_zero, List.drop_succ_cons, List.drop_zero]
        go_wp2_with fail
        refine wpAny_end (P := Tryd.prog) (by kernel_rfl) ?_
        go_wp2_with fail
        go_roundg (ws.length + 1 - (k + 1))
        case measure => omega
        case rel =>
          refine ⟨k + 1, rfl, by omega, by omega, by go_num, hid (HE.out.trans (hW.mono HE.out.size)), hid fun j hj1 hj => ?_⟩
          by_cases e : j = k
          · subst e; rw [HA1.out]; rfl
          · exact HA.out j hj1 (by omega)
      | true =>
        have HA1 := hid hA1
        clear hA1
        by_cases hkw : cw = k
        · have hlk : ws.length ≤ k := by omega
          subst hkw
          have hd : Hid (ws.drop cw = []) := hid (List.drop_of_length_le hlk)
          refine wpAny_still 8 13 2 #[true, true, true, true, true, true, true, true, true, true, true, true, true, false, false] (by kernel_rfl) rfl ?_
          simp only [List.take_succ_cons, List.take_zero, List.drop_succ_cons, List.drop_zero]
          repeat still_step
          refine wpStill_nil ?_
          refine wpAny_forced 13 15 0 #[true, true, true, true, true, true, true, true, true, true, true, true, true, true, true] (by kernel_rfl) rfl (by decide) ?_
          simp only [List.take_succ_cons, List.take_zero, List.drop_succ_cons, List.drop_zero]
          go_wp2_with (first
            | (go_at_call 13; refine (HY.out [] (by simpa using h0) _ _ _ 0 0 rfl (HVr.out.ext hW) (by simpa using (HSr.out.ext hW).take 0 0) (by simp) (by omega)).mono ?_; rintro e w2 ⟨rfl, hx⟩; replace hW := ext_trans hW hx; clear hx))
          cases hA2 : matchT (tr l i) [] with
          | false =>
            have HA2 := hid hA2
            clear hA2
            refine wpAny_end (P := Tryd.prog) (by kernel_rfl) ?_
            go_wp2_with fail
            go_roundg (ws.length + 1 - (cw + 1))
            case measure => omega
            case rel =>
              refine ⟨cw + 1, rfl, by omega, by omega, by go_num, hid (HE.out.trans (hW.mono HE.out.size)), hid fun j hj1 hj => ?_⟩
              by_cases e : j = cw
              · subst e; rw [HA1.out, hd.out, HA2.out]; rfl
              · exact HA.out j hj1 (by omega)
          | true =>
            have HA2 := hid hA2
            clear hA2
            refine wpAny_end (P := Tryd.prog) (by kernel_rfl) ?_
            go_wp2_with fail
            go_ret
            refine ⟨?_, (((Below.refl _ w).alloc (Nat.le_refl _) _).trans (HE.out.mono (by simp))).trans (hW.mono (by have := HE.out.size; simp at this; omega))⟩
            rw [HT.out, star_parts h0 (by rw [← HT.out]; exact List.any_eq_true.2 ⟨cw - 1, by simp; omega, by rw [show cw - 1 + 1 = cw by omega, HA1.out, hd.out, HA2.out]; rfl⟩)]; rfl
        · refine wpAny_still 8 13 2 #[true, true, true, true, true, true, true, true, true, true, true, true, true, false, false] (by kernel_rfl) rfl ?_
          simp only [List.take_succ_cons, List.take_zero, List.drop_succ_cons, List.drop_zero]
          repeat still_step
          refine wpStill_nil ?_
          refine wpAny_forced 13 15 0 #[true, true, true, true, true, true, true, true, true, true, true, true, true, true, true] (by kernel_rfl) rfl (by decide) ?_
          simp only [List.take_succ_cons, List.take_zero, List.drop_succ_cons, List.drop_zero]
          go_wp2_with (first
            | (go_at_call 13; refine (HY.out (ws.drop k) (by simp; omega) _ _ _ (ws.length - k) (cw - k) (by simp) (HVr.out.ext hW) (strs_drop (HSr.out.ext hW) k _ (fun b' off' e h => by first | omega | (subst e; simp [Addr.add_lit]))) (by simp; omega) (by omega)).mono ?_; rintro e w2 ⟨rfl, hx⟩; replace hW := ext_trans hW hx; clear hx))
          cases hA2 : matchT (tr l i) (ws.drop k) with
          | false =>
            have HA2 := hid hA2
            clear hA2
            refine wpAny_end (P := Tryd.prog) (by kernel_rfl) ?_
            go_wp2_with fail
            go_roundg (ws.length + 1 - (k + 1))
            case measure => omega
            case rel =>
              refine ⟨k + 1, rfl, by omega, by omega, by go_num, hid (HE.out.trans (hW.mono HE.out.size)), hid fun j hj1 hj => ?_⟩
              by_cases e : j = k
              · subst e; rw [HA1.out, HA2.out]; rfl
              · exact HA.out j hj1 (by omega)
          | true =>
            have HA2 := hid hA2
            clear hA2
            refine wpAny_end (P := Tryd.prog) (by kernel_rfl) ?_
            go_wp2_with fail
            go_ret
            refine ⟨?_, (((Below.refl _ w).alloc (Nat.le_refl _) _).trans (HE.out.mono (by simp))).trans (hW.mono (by have := HE.out.size; simp at this; omega))⟩
            rw [HT.out, star_parts h0 (by rw [← HT.out]; exact List.any_eq_true.2 ⟨k - 1, by simp; omega, by rw [show k - 1 + 1 = k by omega, HA1.out, HA2.out]; rfl⟩)]; rfl
    · go_wp2_with fail
      go_ret
      refine ⟨?_, ((Below.refl _ w).alloc (Nat.le_refl _) _).trans (HE.out.mono (by simp))⟩
      have : matchT (tr l i) ws = false := by
        have h1 := star_all (t := tr l x) h0
        rw [← HT.out] at h1
        rw [h1, List.any_eq_false]
        intro j hj
        rw [HA.out (j + 1) (by omega) (by simp at hj; omega)]
        simp
      rw [this]; rfl

set_option maxRecDepth 100000 in
set_option maxHeartbeats 1000000 in
theorem match_star {l : List Nd} {cap i x : Nat} (hT : tr l i = .star (tr l x)) {n : Nd} (hn : l[i]? = some n) (ho : n.op = 5) (ha : n.a = x) (hx : x < i) (IX : MatchI l cap x) : MatchI l cap i := by
  intro ws
  induction hk : ws.length using Nat.strongRecOn generalizing ws with
  | _ k ih =>
  subst hk
  by_cases h0 : 0 < ws.length
  · intro w ao aw cw m hm
    exact match_star1 hT hn ho ha hx IX ws h0 (fun vs hv => fun w ao aw m cw => ih vs.length hv vs rfl w ao aw m cw) w ao aw cw m hm
  · obtain rfl : ws = [] := List.length_eq_zero_iff.1 (by omega)
    intro w ao aw m cw hm hV hS hcw hi
    obtain ⟨b, off, rfl, hb, hc⟩ := hV.cells (by omega)
    obtain ⟨q0, q1, q2, q3⟩ := hc i n hn
    have hlen := hV.len
    have hm0 : m = 0 := hm
    clear hm
    subst hm0
    rw [ho] at q0
    have HT := hid hT
    clear hc hV hS IX hT hn ho ha ih h0
    go_enter Tryd.func13, Tryd.ntmps13
    go_wp2_with fail
    go_ret
    exact ⟨by rw [HT.out, matchT, starB]; rfl, (Below.refl _ _).alloc (Nat.le_refl _) _⟩

set_option maxRecDepth 100000 in
set_option maxHeartbeats 1000000 in
theorem match_alt {l : List Nd} {cap i x y : Nat} (hT : tr l i = .alt (tr l x) (tr l y)) {n : Nd} (hn : l[i]? = some n) (ho : n.op = 4) (ha : n.a = x) (hb' : n.b = y) (hx : x < i) (hy : y < i) (IX : MatchI l cap x) (IY : MatchI l cap y) : MatchI l cap i := by
  intro ws w ao aw m cw hm hV hS hcw hi
  subst hm
  obtain ⟨b, off, rfl, hb, hc⟩ := hV.cells (by omega)
  obtain ⟨q0, q1, q2, q3⟩ := hc i n hn
  have hlen := hV.len
  rw [ho] at q0
  rw [ha] at q2
  rw [hb'] at q3
  have HV := hid hV
  have HS := hid hS
  have HX := hid IX
  have HY := hid IY
  have HT := hid hT
  clear hc hV hS IX IY hT hn ho ha hb'
  go_enter Tryd.func13, Tryd.ntmps13
  go_wp2_with fail
  have hE0 : Ext w (w.alloc (.cells #[.int .i64 4, .string n.sym, .int .i64 x, .int .i64 y] 46)) := (Below.refl _ w).alloc (Nat.le_refl _) _
  refine (HX.out ws _ _ _ _ cw rfl (HV.out.ext hE0) (HS.out.ext hE0) hcw (by omega)).mono ?_
  rintro e w1 ⟨rfl, h1⟩
  have c3 : w1.cell? ⟨w.heap.size, 3, none⟩ = some (.int .i64 y) := ((Blk.new w _ _).ext h1).cell (i := 3) rfl
  have HE1 : Hid (Ext w w1) := hid (hE0.trans (h1.mono (by simp)))
  clear h1 hE0
  cases hA : matchT (tr l x) ws with
  | true =>
    have HA := hid hA
    clear hA
    go_wp2_with fail
    go_ret
    exact ⟨by rw [HT.out, matchT, HA.out]; rfl, HE1.out⟩
  | false =>
    have HA := hid hA
    clear hA
    go_wp2_with fail
    refine (HY.out ws _ _ _ _ cw rfl (HV.out.ext HE1.out) (HS.out.ext HE1.out) hcw (by omega)).mono ?_
    rintro e w2 ⟨rfl, h2⟩
    have HX2 := hid h2
    clear h2
    go_wp2_with fail
    go_ret
    exact ⟨by rw [HT.out, matchT, HA.out, Bool.false_or]; rfl, HE1.out.trans (HX2.out.mono HE1.out.size)⟩

set_option maxRecDepth 100000 in
set_option maxHeartbeats 1000000 in
theorem match_sym {l : List Nd} {cap i : Nat} {n : Nd} (hT : tr l i = .sym i n.sym) (hn : l[i]? = some n) (ho : n.op = 2) : MatchI l cap i := by
  intro ws w ao aw m cw hm hV hS hcw hi
  subst hm
  obtain ⟨b, off, rfl, hb, hc⟩ := hV.cells (by omega)
  obtain ⟨q0, q1, q2, q3⟩ := hc i n hn
  have hlen := hV.len
  have hwl := hS.len
  rw [ho] at q0
  have HT := hid hT
  by_cases h1 : ws.length = 1
  · obtain ⟨s, rfl⟩ := List.length_eq_one_iff.1 h1
    obtain ⟨b2, off2, rfl, hb2, hc2⟩ := hS.cells (by simp)
    have d0 := hc2 0 (by simp)
    simp only [Nat.add_zero, List.getElem_cons_zero] at d0
    have hb2' : b2 < w.heap.size + 1 := by omega
    clear hc hV hS hT hn ho h1 hc2
    show Calls Tryd.prog 13 #[.slice (some ⟨b, off, none⟩) l.length cap, .int .i64 i, .slice (some ⟨b2, off2, none⟩) 1 cw] w _
    by_cases hs : s = n.sym
    · have t : (s.toList == n.sym.toList) = true := beqB_true hs
      have HS := hid hs
      clear hs
      go_enter Tryd.func13, Tryd.ntmps13
      go_wp2_with fail
      go_quiet (fail)
      go_wp2_with fail
      go_ret
      exact ⟨by rw [HT.out, matchT, HS.out]; simp, ext_drewN ((Below.refl _ w).alloc (Nat.le_refl _) _) _⟩
    · have t : (s.toList == n.sym.toList) = false := beqB_false hs
      have HS := hid hs
      clear hs
      go_enter Tryd.func13, Tryd.ntmps13
      go_wp2_with fail
      go_quiet (fail)
      go_wp2_with fail
      go_ret
      exact ⟨by rw [HT.out, matchT]; simp [HS.out], ext_drewN ((Below.refl _ w).alloc (Nat.le_refl _) _) _⟩
  · have t : ((ws.length : Int) == 1) = false := beq_eq_false_iff_ne.2 (by omega)
    have H1 := hid h1
    clear hc hV hS hT hn ho h1
    go_enter Tryd.func13, Tryd.ntmps13
    go_wp2_with fail
    go_quiet (fail)
    go_wp2_with fail
    go_ret
    refine ⟨?_, ext_drewN ((Below.refl _ w).alloc (Nat.le_refl _) _) _⟩
    rw [HT.out, matchT]
    have : ws ≠ [n.sym] := fun e => H1.out (by rw [e]; rfl)
    simp [this]

set_option maxRecDepth 100000 in
set_option maxHeartbeats 1000000 in
theorem match_leaf {l : List Nd} {cap i : Nat} {n : Nd} (hn : l[i]? = some n) (hT : (tr l i = .none ∧ n.op = 0) ∨ (tr l i = .empty ∧ n.op = 1)) : MatchI l cap i := by
  intro ws w ao aw m cw hm hV hS hcw hi
  subst hm
  obtain ⟨b, off, rfl, hb, hc⟩ := hV.cells (by omega)
  obtain ⟨q0, q1, q2, q3⟩ := hc i n hn
  have hlen := hV.len
  clear hc hV hS hn
  rcases hT with ⟨hT, ho⟩ | ⟨hT, ho⟩
  · rw [ho] at q0
    have HT := hid hT
    clear hT ho
    go_enter Tryd.func13, Tryd.ntmps13
    go_wp2_with fail
    go_ret
    exact ⟨by rw [HT.out, matchT]; rfl, (Below.refl _ _).alloc (Nat.le_refl _) _⟩
  · rw [ho] at q0
    have HT := hid hT
    clear hT ho
    by_cases h0 : ws.length = 0
    · have t : ((ws.length : Int) == 0) = true := by simp [h0]
      have H0 := hid h0
      clear h0
      go_enter Tryd.func13, Tryd.ntmps13
      go_wp2_with fail
      go_ret
      exact ⟨by rw [HT.out, matchT, List.length_eq_zero_iff.1 H0.out]; rfl, (Below.refl _ _).alloc (Nat.le_refl _) _⟩
    · have t : ((ws.length : Int) == 0) = false := beq_eq_false_iff_ne.2 (by omega)
      have H0 := hid h0
      clear h0
      go_enter Tryd.func13, Tryd.ntmps13
      go_wp2_with fail
      go_ret
      refine ⟨?_, (Below.refl _ _).alloc (Nat.le_refl _) _⟩
      rw [HT.out, matchT]
      have : ws ≠ [] := fun e => H0.out (by rw [e]; rfl)
      simp [this]

theorem refmatch_any {l : List Nd} (F : Rx.Form l) (cap i : Nat) : MatchI l cap i := by
  induction i using Nat.strongRecOn with
  | _ i ih =>
  cases hn : l[i]? with
  | none =>
    intro ws w ao aw m cw hm hV hS hcw hi
    have := List.getElem?_eq_none_iff.1 hn
    omega
  | some n =>
    cases F.kind hn with
    | none ho s a b => exact match_leaf hn (.inl ⟨tr_none hn ho, ho⟩)
    | empty ho s a b => exact match_leaf hn (.inr ⟨tr_empty hn ho, ho⟩)
    | sym ho a b => exact match_sym (tr_sym hn ho) hn ho
    | star ho s x a b hx => exact match_star (tr_star hn ho a hx) hn ho a hx (ih x hx)
    | cat ho s x y ha hb' hx hy => exact match_cat (tr_cat hn ho ha hb' hx hy) hn ho ha hb' hx hy (ih x hx) (ih y hy)
    | alt ho s x y ha hb' hx hy => exact match_alt (tr_alt hn ho ha hb' hx hy) hn ho ha hb' hx hy (ih x hx) (ih y hy)

end Go.Proofs.YtngpjagpeblbjaaDoor
