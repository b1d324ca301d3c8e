/-
  Walk of the reference's First.
  Walk of the reference's Check.
  What the reference's First answers where there is no second automaton, and where there is one; its Check at a value.
-/
import Derived.StillTailTactics
import Derived.Test.YtngpjagpeblbjaaGreatDoorU02
import Derived.Test.YtngpjagpeblbjaaGreatDoorU01
namespace Go.Proofs.YtngpjagpeblbjaaGreatDoor
open Go.RowKit Go.Spy Go.Heaped Go.Tour Go.Rx
structure FirstW (w wr : World) (xA xB : Array Value) (A : DA) (vR vS : Value) (rows : List (Value × PI)) (us : List Value) (ks : List PI) (fr : List (Nat × Nat)) : Prop where
 ext : Ext w wr
 a : Blk wr w.heap.size 40 xA
 b : Blk wr (w.heap.size + 1) 40 xB
 rows : RowsR wr w.heap.size vR rows A.syms ks fr
 seen : SeenR wr w.heap.size vS us ks
theorem FirstW.ext' {w wr wy : World} {xA xB : Array Value} {A : DA} {vR vS : Value} {rows : List (Value × PI)} {us : List Value} {ks : List PI} {fr : List (Nat × Nat)} (h : FirstW w wr xA xB A vR vS rows us ks fr) (e : Ext wr wy) : FirstW w wy xA xB A vR vS rows us ks fr :=
 ⟨h.ext.trans (e.mono h.ext.size), h.a.ext e, h.b.ext e, h.rows.ext e, h.seen.ext e⟩
theorem info146 : (Tryz.prog.info? 146).map (·.size) = some 3 := by kernel_rfl
theorem slot146 : (Tryz.prog.info? 146).map (fun i => (i.zero, i.size)) = some (some (.agg #[.slice none 0 0, .int .i64 0, .int .i64 0]), 3) := by kernel_rfl
theorem first_start (w : World) (xA xB : Array Value) (A : DA) {W : World} (hW : W = ((((w.alloc (.cells xA 40)).alloc (.cells xB 40)).alloc (.cells #[.slice none 0 0, .int .i64 0, .int .i64 0] 146)).alloc (.cells #[.int .i64 0, .int .i64 0] 3)).alloc (.cells #[.slice (some ⟨w.heap.size + 1 + 1 + 1, 0, none⟩) 2 2] 46)) :
 FirstW w W xA xB A (.slice (some ⟨w.heap.size + 1 + 1, 0, none⟩) 1 1) (.slice (some ⟨w.heap.size + 1 + 1 + 1 + 1, 0, none⟩) 1 1) [(.slice none 0 0, (0, 0))] [.slice (some ⟨w.heap.size + 1 + 1 + 1, 0, none⟩) 2 2] [(0, 0)] [(0, 0)] := by
 subst hW
 have hR : OwnR (((((w.alloc (.cells xA 40)).alloc (.cells xB 40)).alloc (.cells #[.slice none 0 0, .int .i64 0, .int .i64 0] 146)).alloc (.cells #[.int .i64 0, .int .i64 0] 3)).alloc (.cells #[.slice (some ⟨w.heap.size + 1 + 1 + 1, 0, none⟩) 2 2] 46)) w.heap.size 146 3 rowA (.slice (some ⟨w.heap.size + 1 + 1, 0, none⟩) 1 1) [(.slice none 0 0, ((0 : Int), (0 : Int)))] :=
  own_lit (((Blk.new' _ _ _ (by simp)).alloc _).alloc _) (by omega) rfl rfl rfl (by decide)
 have hS : OwnR (((((w.alloc (.cells xA 40)).alloc (.cells xB 40)).alloc (.cells #[.slice none 0 0, .int .i64 0, .int .i64 0] 146)).alloc (.cells #[.int .i64 0, .int .i64 0] 3)).alloc (.cells #[.slice (some ⟨w.heap.size + 1 + 1 + 1, 0, none⟩) 2 2] 46)) w.heap.size 46 1 oneA (.slice (some ⟨w.heap.size + 1 + 1 + 1 + 1, 0, none⟩) 1 1) [.slice (some ⟨w.heap.size + 1 + 1 + 1, 0, none⟩) 2 2] :=
  own_lit (Blk.new' _ _ _ (by simp)) (by omega) rfl rfl rfl (by decide)
 have hK : OwnR (((((w.alloc (.cells xA 40)).alloc (.cells xB 40)).alloc (.cells #[.slice none 0 0, .int .i64 0, .int .i64 0] 146)).alloc (.cells #[.int .i64 0, .int .i64 0] 3)).alloc (.cells #[.slice (some ⟨w.heap.size + 1 + 1 + 1, 0, none⟩) 2 2] 46)) w.heap.size 3 1 intZ (.slice (some ⟨w.heap.size + 1 + 1 + 1, 0, none⟩) 2 2) (lstP (0, 0)) :=
  own_lit ((Blk.new' _ _ _ (by simp)).alloc _) (by omega) rfl rfl rfl (by decide)
 refine ⟨((((((Below.refl _ _).alloc (Nat.le_refl _) _).alloc (by simp) _).alloc (by simp; omega) _).alloc (by simp; omega) _).alloc (by simp; omega) _), ((((Blk.new _ _ _).alloc _).alloc _).alloc _).alloc _, (((Blk.new' _ _ _ (by simp)).alloc _).alloc _).alloc _, ⟨hR, rfl, ?_⟩, ⟨hS, rfl, ?_⟩⟩
 ·intro n r hr
  have h0 : n = 0 := by have := (List.getElem?_eq_some_iff.1 hr).1; simp at this; exact this
  subst h0
  cases hr
  exact ⟨rfl, by rw [word_zero]; exact OwnR.nil _ _ _ _ _⟩
 ·intro n u p hu hp
  have h0 : n = 0 := by have := (List.getElem?_eq_some_iff.1 hu).1; simp at this; exact this
  subst h0
  cases hu; cases hp
  exact hK
set_option maxRecDepth 100000 in
set_option maxHeartbeats 4000000 in
theorem rfirst_any {w : World} {A : DA} {aoS aoN aoF aoS2 aoN2 aoF2 : Option Addr} {n1 n2 n3 cS cN cF m1 m2 m3 cS2 cN2 cF2 : Nat} {qs : Int → ByteArray → Int} {ot : Int → Bool} {m : Nat}
 (hA : DfaW w (.agg #[.slice aoS n1 cS, .slice aoN n2 cN, .slice aoF n3 cF]) A) (hB : SideW w #[.slice aoS2 m1 cS2, .slice aoN2 m2 cN2, .slice aoF2 m3 cF2] m2 m3 aoF2 qs ot m) :
 Calls Tryz.prog 34 #[.agg #[.slice aoS n1 cS, .slice aoN n2 cN, .slice aoF n3 cF], .agg #[.slice aoS2 m1 cS2, .slice aoN2 m2 cN2, .slice aoF2 m3 cF2]] w (FirstPost A qs ot w) := by
 have HA := hid hA
 have HB := hid hB
 have HL := hid hA.lens
 have hn1 : n1 ≤ 1000 := by rw [hA.lens.1]; exact hA.bnd.s
 have hn2 : n2 ≤ 256 := by rw [hA.lens.2.1]; exact hA.well.most
 have hm : m ≤ 256 := hB.ok.le
 have HW := hid hA.well
 have HST := hid (first_start w #[.slice aoS n1 cS, .slice aoN n2 cN, .slice aoF n3 cF] #[.slice aoS2 m1 cS2, .slice aoN2 m2 cN2, .slice aoF2 m3 cF2] A rfl)
 clear hA hB
 go_enter Tryz.func34, Tryz.ntmps34
 go_wp2_with fail
 go_loopg [6, 7, 8] 70000 (fun g vR vS u wr => ∃ (i : Nat) (rows : List (Value × PI)) (us : List Value) (ks : List PI) (fr : List (Nat × Nat)), g = 70000 - i ∧ i ≤ 66049 ∧ u = .int .i64 i ∧ Hid (ks = (tourN (succF A qs) (0, 0) i).keys ∧ fr = (tourN (succF A qs) (0, 0) i).from_ ∧ i ≤ ks.length) ∧ Hid (FirstW w wr #[.slice aoS n1 cS, .slice aoN n2 cN, .slice aoF n3 cF] #[.slice aoS2 m1 cS2, .slice aoN2 m2 cN2, .slice aoF2 m3 cF2] A vR vS rows us ks fr) ∧ Hid (∀ (n : Nat) (p : PI), n < i → ks[n]? = some p → finF A ot p = false))
 case atStart => exact ⟨0, _, _, _, _, rfl, Nat.zero_le _, rfl, hid ⟨rfl, rfl, Nat.zero_le _⟩, HST, hid (fun n p h => absurd h (Nat.not_lt_zero n))⟩
 case round =>
  obtain ⟨i, rows, us, ks, fr, rfl, hi, rfl, HT, HF, HN⟩ := hrel
  obtain ⟨aoR, cR, rfl, hfR⟩ := (OwnR.read HF.out.rows.own rowA_size).form
  obtain ⟨aoU, cU, rfl, -⟩ := (OwnR.read HF.out.seen.own (fun _ => rfl)).form
  have hlr : rows.length = ks.length := HF.out.rows.len
  have hlu : us.length = ks.length := HF.out.seen.len
  have hk9 : ks.length ≤ 66049 := by rw [HT.out.1]; exact tourF_le HW.out HB.out.ok i
  have hik := HT.out.2.2
  obtain ⟨nk, hnk⟩ : ∃ n, n = ks.length := ⟨_, rfl⟩
  rw [← hnk] at hlr hlu hk9 hik
  rw [hlr, hlu] at HF ⊢
  rw [hlr] at hfR
  have HNK := hid hnk
  have HLR := hid hlr
  have HLU := hid hlu
  have HFR := hid hfR
  clear hnk hlr hlu hfR
  by_cases hlt : i < nk
  ·have q1 : decide (i < nk) = true := decide_eq_true hlt
   have q2 : decide ((i : Int) < (nk : Int)) = true := decide_eq_true (by omega)
   obtain ⟨gR, oR, rfl⟩ := HFR.out (by omega)
   obtain ⟨r, hr⟩ : ∃ r, rows[i]? = some r := ⟨_, List.getElem?_eq_getElem (by rw [HLR.out]; exact hlt)⟩
   obtain ⟨vw, p, q⟩ := r
   obtain ⟨hk, hw⟩ := HF.out.rows.row i _ hr
   have hkey : okF A m (p, q) := tourN_univ (zero_okF HW.out HB.out.ok) (succF_ok HW.out HB.out.ok) i (p, q) (by rw [← HT.out.1]; exact List.mem_of_getElem? hk)
   obtain ⟨aw, cw, rfl, -⟩ := (OwnR.read hw strC_size).form
   obtain ⟨lw, hlw⟩ : ∃ n, n = (wordsOf A.syms (word fr i)).length := ⟨_, rfl⟩
   rw [← hlw] at hr hw
   have hl9 : lw ≤ 66049 := by
    have hb := bfs_tour (goF A qs) A.syms.length (0, 0) i (by have := HT.out.2.2; rw [HT.out.1] at this; exact this)
    rw [← HT.out.1, ← HT.out.2.1] at hb
    have h1 := hb.word_len i (by rw [hb.len, ← HNK.out]; exact hlt)
    have h2 := (hb.word_run i (by rw [← HNK.out]; exact hlt)).2
    rw [hlw, wordsOf_length h2]; omega
   obtain ⟨hp0, hp1, hq0, hq1⟩ := hkey
   simp only at hp0 hp1 hq0 hq1 hk
   obtain ⟨s, rfl⟩ : ∃ s : Nat, p = s := ⟨p.toNat, by omega⟩
   have hs : s < n2 := by rw [HL.out.2.1]; omega
   have HC1 : Hid (∀ e, e < 3 → wr.cell? ⟨gR, oR + i * 3 + e, none⟩ = (#[.slice aw lw cw, .int .i64 s, .int .i64 q] : Array Value)[e]?) := hid fun e he => by
    have h0 := OwnR.read HF.out.rows.own rowA_size
    rw [← HLR.out] at h0
    have h := h0.cell hr (k := e) he
    rwa [show oR + (i * 3 + e) = oR + i * 3 + e by omega] at h
   have HR := hid hr
   have HKK := hid hk
   have HWW := hid hw
   have HLW := hid hlw
   clear hr hk hw hlw
   go_upto_region 7 with (with_reducible refine onOp 29 ?_; go_loud (refine wpList_load_cells rfl 146 (.tmp 28) rfl gR (oR + i * 3) rfl #[.slice aw lw cw, .int .i64 s, .int .i64 q] _ 3 HC1.out rfl Tryz.underlying146 rfl info146 ?_))
   obtain ⟨w1, hw1⟩ : ∃ u, u = wr.alloc (.cells #[.slice aw lw cw, .int .i64 s, .int .i64 q] 146) := ⟨_, rfl⟩
   have HE1 : Hid (Ext wr w1) := hid (hw1 ▸ (Below.refl _ _).alloc (Nat.le_refl _) _)
   have HBX : Hid (Blk w1 wr.heap.size 146 #[.slice aw lw cw, .int .i64 s, .int .i64 q]) := hid (hw1 ▸ Blk.new _ _ _)
   have HF1 := hid (HF.out.ext' HE1.out)
   rw [← hw1]
   clear hw1 HC1
   go_cut [10] from 30 to 46 (fun u wx => u = .bool (ot q) ∧ w1 = wx)
   case first =>
    have b1 : w1.cell? ⟨w.heap.size + 1, 1, none⟩ = some (.slice aoN2 m2 cN2) := HF1.out.b.cell (i := 1) rfl
    have b2 : w1.cell? ⟨w.heap.size + 1, 2, none⟩ = some (.slice aoF2 m3 cF2) := HF1.out.b.cell (i := 2) rfl
    have x2 : w1.cell? ⟨wr.heap.size, 2, none⟩ = some (.int .i64 q) := HBX.out.cell (i := 2) rfl
    have lb := HF1.out.b.lt
    have lx := HBX.out.lt
    by_cases h0 : 0 < m2
    ·have t0 : decide (0 < m2) = true := decide_eq_true h0
     have t1 : decide ((0 : Int) < (m2 : Int)) = true := decide_eq_true (by omega)
     by_cases h1 : 0 ≤ q
     ·obtain ⟨t, rfl⟩ : ∃ t : Nat, q = t := ⟨q.toNat, by omega⟩
      obtain ⟨g, off, rfl, hc⟩ := HB.out.cell h0 t (by omega)
      have c3 := hc w1 HF1.out.ext
      have hl3 := HB.out.len h0
      have t2 : (t : Int) < (m3 : Int) := by omega
      have t3 : decide ((0 : Int) ≤ (t : Int)) = true := decide_eq_true h1
      clear hc hl3
      go_wp2_with fail
      go_meet
      exact ⟨rfl, rfl⟩
     ·have t3 : decide ((0 : Int) ≤ q) = false := decide_eq_false h1
      have ho := HB.out.neg q (by omega)
      go_wp2_with fail
      go_meet
      rw [ho]
      exact ⟨rfl, rfl⟩
    ·have t0 : decide (0 < m2) = false := decide_eq_false h0
     have t1 : decide ((0 : Int) < (m2 : Int)) = false := decide_eq_false (by omega)
     have ho := (HB.out.nil (by omega)).2 q
     go_wp2_with fail
     go_meet
     rw [ho]
     exact ⟨rfl, rfl⟩
   case rest =>
    obtain ⟨rfl, rfl⟩ := hcut
    obtain ⟨fo, hfo⟩ : ∃ b, b = ot q := ⟨_, rfl⟩
    rw [← hfo]
    have HFO := hid hfo
    clear hfo
    go_upto_region 8 with fail
    go_cut [56] from 47 to 56 (fun u wx => u = .bool (finF A ot (s, q)) ∧ w1 = wx)
    case first =>
     have a2 : w1.cell? ⟨w.heap.size, 2, none⟩ = some (.slice aoF n3 cF) := HF1.out.a.cell (i := 2) rfl
     have x1 : w1.cell? ⟨wr.heap.size, 1, none⟩ = some (.int .i64 s) := HBX.out.cell (i := 1) rfl
     have lb := HF1.out.a.lt
     have lx := HBX.out.lt
     obtain ⟨g, off, rfl, c3⟩ := (HA.out.ext HF1.out.ext).finC hs
     have t2 : (s : Int) < (n3 : Int) := by rw [HL.out.2.2]; exact hp1
     obtain ⟨fa, hfa⟩ : ∃ b, b = finS A s := ⟨_, rfl⟩
     have HE : Hid (finF A ot ((s : Int), q) = (fa && !fo)) := hid (by rw [hfa, HFO.out]; rfl)
     rw [← hfa] at c3
     clear hfa
     cases fa <;> cases fo
     all_goals
      go_wp2_with fail
      go_meet
      rw [HE.out]
      exact ⟨rfl, rfl⟩
    case rest =>
     obtain ⟨rfl, rfl⟩ := hcut
     obtain ⟨b, hb⟩ : ∃ b, b = finF A ot ((s : Int), q) := ⟨_, rfl⟩
     rw [← hb]
     have HFB := hid hb
     have x0 : w1.cell? ⟨wr.heap.size, 0, none⟩ = some (.slice aw lw cw) := HBX.out.cell (i := 0) rfl
     have lx := HBX.out.lt
     clear hb
     cases b with
     | true =>
       go_wp2_with fail
       go_ret2
       have hT1 := HT.out.1
       have hT2 := HT.out.2.1
       have hfd := first_found (A := A) (qs := qs) (ot := ot) HW.out HB.out.ok (i := i) (k := ((s : Int), q)) (by rw [← hT1]; exact HKK.out) HFB.out.symm (fun n p hn hp => HN.out n p hn (by rw [hT1]; exact hp))
       rw [← hT2] at hfd
       exact ⟨HF1.out.ext, .inl ⟨_, word fr i, rfl, HWW.out.ext HE1.out, hfd.1, hfd.2.1, hfd.2.2.1, hfd.2.2.2⟩⟩
     | false =>
       obtain ⟨w0, hw0⟩ : ∃ x, x = wr := ⟨_, rfl⟩
       subst hw0
       clear x0 lx
       have HW1 := hid (HWW.out.ext HE1.out)
       go_wp2_with fail
       go_loopg [6, 7, 11] n1 (fun g vR vS u wr => ∃ (j : Nat) (rs : List (Value × PI)) (vs : List Value) (ls : List PI) (gr : List (Nat × Nat)), g = n1 - j ∧ j ≤ n1 ∧ u = .int .i64 j ∧ Hid (ls = (visN i ⟨ks, fr, []⟩ (succF A qs ((s : Int), q)) j).keys ∧ gr = (visN i ⟨ks, fr, []⟩ (succF A qs ((s : Int), q)) j).from_) ∧ Hid (FirstW w wr #[.slice aoS n1 cS, .slice aoN n2 cN, .slice aoF n3 cF] #[.slice aoS2 m1 cS2, .slice aoN2 m2 cN2, .slice aoF2 m3 cF2] A vR vS rs vs ls gr) ∧ Hid (Blk wr w0.heap.size 146 #[.slice aw lw cw, .int .i64 s, .int .i64 q] ∧ OwnR wr w.heap.size 9 1 strC (.slice aw lw cw) (wordsOf A.syms (word fr i)) ∧ ∀ k, vR.ownBlock = some k → k ≠ w0.heap.size))
       case atStart => exact ⟨0, rows, us, ks, fr, rfl, Nat.zero_le _, rfl, hid ⟨rfl, rfl⟩, HF1, hid ⟨HBX.out, HW1.out, fun k e e' => Nat.lt_irrefl _ (e' ▸ (HF.out.rows.own.lt k e).2)⟩⟩
       case round =>
        obtain ⟨j, rs, vs, ls, gr, rfl, hj, rfl, HV, HF2, HX2⟩ := hrel
        obtain ⟨aoR2, cR2, rfl, -⟩ := (OwnR.read HF2.out.rows.own rowA_size).form
        obtain ⟨aoU2, cU2, rfl, -⟩ := (OwnR.read HF2.out.seen.own (fun _ => rfl)).form
        have hlr : rs.length = ls.length := HF2.out.rows.len
        have hlu : vs.length = ls.length := HF2.out.seen.len
        obtain ⟨nl, hnl⟩ : ∃ n, n = ls.length := ⟨_, rfl⟩
        rw [← hnl] at hlr hlu
        rw [hlr, hlu] at HF2 ⊢
        rw [hlr] at HX2
        have HNL := hid hnl
        have HLR2 := hid hlr
        have HLU2 := hid hlu
        clear hnl hlr hlu
        have a0 : wr.cell? ⟨w.heap.size, 0, none⟩ = some (.slice aoS n1 cS) := HF2.out.a.cell (i := 0) rfl
        have la := HF2.out.a.lt
        by_cases hjl : j < n1
        ·have q3 : decide (j < n1) = true := decide_eq_true hjl
         have q4 : decide ((j : Int) < (n1 : Int)) = true := decide_eq_true (by omega)
         obtain ⟨gN, oN, gr0, or0, cc, rfl, c3, c4⟩ := (HA.out.ext HF2.out.ext).nextC hs hjl
         obtain ⟨gS, oS, rfl, c5⟩ := (HA.out.ext HF2.out.ext).symC hjl
         obtain ⟨x, hxs⟩ : ∃ x, x = symAt A.syms j := ⟨_, rfl⟩
         obtain ⟨p', hp'⟩ : ∃ y, y = goS A s (symAt A.syms j) := ⟨_, rfl⟩
         rw [← hp'] at c4
         rw [← hxs] at c5
         have HXS := hid hxs
         have HPP := hid hp'
         have a1 : wr.cell? ⟨w.heap.size, 1, none⟩ = some (.slice (some ⟨gN, oN, none⟩) n2 cN) := HF2.out.a.cell (i := 1) rfl
         have x1 : wr.cell? ⟨w0.heap.size, 1, none⟩ = some (.int .i64 s) := HX2.out.1.cell (i := 1) rfl
         have x2 : wr.cell? ⟨w0.heap.size, 2, none⟩ = some (.int .i64 q) := HX2.out.1.cell (i := 2) rfl
         have b0 : wr.cell? ⟨w.heap.size + 1, 0, none⟩ = some (.slice aoS2 m1 cS2) := HF2.out.b.cell (i := 0) rfl
         have b1 : wr.cell? ⟨w.heap.size + 1, 1, none⟩ = some (.slice aoN2 m2 cN2) := HF2.out.b.cell (i := 1) rfl
         have b2 : wr.cell? ⟨w.heap.size + 1, 2, none⟩ = some (.slice aoF2 m3 cF2) := HF2.out.b.cell (i := 2) rfl
         have lb := HF2.out.b.lt
         have lx := HX2.out.1.lt
         have s2 : (s : Int) < (n2 : Int) := by omega
         have s3 : (j : Int) < (n1 : Int) := by omega
         have s4 : (0 : Int) ≤ (j : Int) := by omega
         clear hxs hp'
         obtain ⟨hs2, hhs⟩ : ∃ b, b = decide (0 < m2) := ⟨_, rfl⟩
         have t9 : decide (0 < m2) = hs2 := hhs.symm
         have t8 : decide ((0 : Int) < (m2 : Int)) = hs2 := by rw [hhs]; exact decide_eq_decide.2 (by omega)
         have HHS := hid hhs
         clear hhs
         go_upto_if 78 with fail
         go_cut [13] from 79 to 87 (fun u wx => u = .int .i64 (qs q x) ∧ Hid (Ext wr wx))
         case first =>
          clear t8 t9
          cases hs2 with
          | true =>
            have h0 : 0 < m2 := of_decide_eq_true HHS.out.symm
            have HC := hid (HB.out.step h0 wr.drew (HF2.out.ext.drew) q x hq1)
            go_wp2_with fail
            go_still_tail 8, (by kernel_rfl)
            change wpList _ _ _ _ _ wr.drew
            go_wp2_with (go_at_call 94; refine HC.out.mono ?_; rintro e w2 ⟨rfl, hx⟩)
            go_meet
            exact ⟨rfl, hid ((Below.refl wr.heap.size wr).drew.trans hx)⟩
          | false =>
            have h0 : ¬ 0 < m2 := of_decide_eq_false HHS.out.symm
            have ho := (HB.out.nil (by omega)).1 q x
            go_wp2_with fail
            go_meet
            rw [ho]
            exact ⟨rfl, hid (Below.refl _ _)⟩
         case rest =>
          obtain ⟨rfl, HXc⟩ := hcut
          obtain ⟨wa, hwa⟩ : ∃ x, x = wc := ⟨_, rfl⟩
          subst hwa
          obtain ⟨q', hq'⟩ : ∃ y, y = qs q x := ⟨_, rfl⟩
          rw [← hq']
          have HQQ := hid hq'
          have HF3 := hid (HF2.out.ext' HXc.out)
          have HX3 := hid (And.intro (HX2.out.1.ext HXc.out) (And.intro (HX2.out.2.1.ext HXc.out) HX2.out.2.2))
          obtain ⟨w2, hw2⟩ : ∃ u, u = wa.alloc (.cells #[.int .i64 p', .int .i64 q'] 3) := ⟨_, rfl⟩
          have HE2 : Hid (Ext wa w2) := hid (hw2 ▸ (Below.refl _ _).alloc (Nat.le_refl _) _)
          have HK2 : Hid (OwnR w2 w.heap.size 3 1 intZ (.slice (some ⟨wa.heap.size, 0, none⟩) 2 2) (lstP (p', q'))) := hid (hw2 ▸ own_lit (Blk.new _ _ _) HF3.out.ext.size rfl rfl rfl (by decide))
          have HF4 := hid (HF3.out.ext' HE2.out)
          have hnd : (ls.map lstP).Nodup := by
           have h1 : ls.Nodup := by
            rw [HV.out.1]
            refine visN_nodup ?_ _ _ _
            show ks.Nodup
            rw [HT.out.1]; exact tourN_nodup _ _ _
           exact List.pairwise_map.2 (h1.imp fun h e => h (lstP_inj e))
          have HND := hid hnd
          have hvl : vs.length ≤ 1000000 := by
           rw [HLU2.out, HNL.out, HV.out.1]
           have h1 := visN_len i ⟨ks, fr, []⟩ (succF A qs ((s : Int), q)) j
           have h2 : ks.length ≤ 66049 := by rw [← HNK.out]; exact hk9
           have h3 : (visN i ⟨ks, fr, []⟩ (succF A qs ((s : Int), q)) j).keys.length ≤ ks.length + j := h1
           omega
          have HNB := hid (number_any HF4.out.seen.own HF4.out.ext.size HF4.out.seen.keysR HND.out (OwnR.read HK2.out (fun _ => rfl)) hvl (fun y hy => by
           obtain ⟨k, _, rfl⟩ := List.mem_map.1 hy
           exact (by decide : 2 ≤ 1000)))
          have HW2 := hid hw2
          clear hq' hw2 hnd c3 c4 c5 a0 a1 x1 x2 b0 b1 b2 la lb lx t8 t9
          go_wp2_with fail
          rw [← HW2.out]
          refine HNB.out.mono ?_
          have hvj : (succF A qs ((s : Int), q))[j]? = some (p', q') := by
           rw [fan_get _ _ (by rw [← HL.out.1]; exact hjl)]
           show some (goS A s (symAt A.syms j), qs q (symAt A.syms j)) = _
           rw [← HPP.out, ← HXS.out, ← HQQ.out]
          have hvs := visN_succ (r := i) (s := ⟨ks, fr, []⟩) hvj
          have HVS := hid hvs
          clear hvj hvs
          rintro e w3 (⟨hin, rfl, hx⟩ | ⟨hnin, v', rfl, hO, hc, hold⟩)
          ·have hmem : ((p', q') : PI) ∈ ls := lstP_mem.1 hin
           have HME := hid hmem
           have HF5 := hid (HF4.out.ext' hx)
           have HX5 := hid (And.intro ((HX3.out.1.ext HE2.out).ext hx) (And.intro ((HX3.out.2.1.ext HE2.out).ext hx) HX3.out.2.2))
           have t5 : ((nl : Int) == (nl : Int)) = true := by simp
           clear hin hmem hx
           go_wp2_with fail
           go_roundg (n1 - (j + 1))
           case measure => omega
           case rel =>
            refine ⟨j + 1, rs, vs, ls, gr, rfl, by omega, by go_num, hid ?_, HF5, HX5⟩
            rw [HVS.out]
            unfold vis1
            rw [← HV.out.1, if_pos HME.out]
            exact ⟨rfl, HV.out.2⟩
          ·have hmem : ((p', q') : PI) ∉ ls := fun h => hnin (lstP_mem.2 h)
           have HME := hid hmem
           have hb0 := bfs_tour (goF A qs) A.syms.length (0, 0) i (by rw [← HT.out.1]; exact HT.out.2.2)
           rw [← HT.out.1, ← HT.out.2.1] at hb0
           have hdl : goF A qs ((s : Int), q) j = (p', q') := by
            show (goS A s (symAt A.syms j), qs q (symAt A.syms j)) = _
            rw [← HPP.out, ← HXS.out, ← HQQ.out]
           have hnw := bfs_new hb0 HKK.out (j := j) (by rw [← HL.out.1]; exact hjl) HV.out.1 HV.out.2 (by rw [hdl]; exact hmem)
           rw [hdl] at hnw
           have HNW := hid hnw
           have hws : wordsOf A.syms (word (gr ++ [(i, j)]) ls.length) = wordsOf A.syms (word fr i) ++ [x] := by
            rw [hnw.2.2.2, wordsOf_snoc _ (by rw [← HL.out.1]; exact hjl), HXS.out, symAt_some (by rw [← HL.out.1]; exact hjl)]
           have HWS := hid hws
           have hlv : (vs ++ [Value.slice (some ⟨wa.heap.size, 0, none⟩) 2 2]).length = nl + 1 := by rw [List.length_append, HLU2.out]; rfl
           obtain ⟨aV, cV, rfl, -⟩ := (OwnR.read hO (fun _ => rfl)).form
           rw [hlv] at hO hold ⊢
           have HS3 := hid (HF4.out.seen.app hO hc HK2.out)
           have HR3 := hid (HF4.out.rows.chgS HF4.out.seen.own hc)
           have HA3 := hid (HF4.out.a.chg hc (own_blk_ne HF4.out.seen.own HF4.out.a (by decide)))
           have HB3 := hid (HF4.out.b.chg hc (own_blk_ne HF4.out.seen.own HF4.out.b (by decide)))
           have HX4 := hid ((HX3.out.1.ext HE2.out).chg hc (own_blk_ne HF4.out.seen.own (HX3.out.1.ext HE2.out) (by decide)))
           have HW4 := hid ((HX3.out.2.1.ext HE2.out).chg hc (fun k e e' => own_apart (HX3.out.2.1.ext HE2.out) HF4.out.seen.own (by decide) k e e'))
           have HE3 := hid (ext_chg HF4.out.ext hc (fun k e => (HF4.out.seen.own.lt k e).1))
           have t5 : (((nl + 1 : Nat) : Int) == (nl : Int)) = false := by simp; omega
           have x0 : w3.cell? ⟨w0.heap.size, 0, none⟩ = some (.slice aw lw cw) := HX4.out.cell (i := 0) rfl
           have lx := HX4.out.lt
           have HNL3 : Hid (OwnR w3 w3.heap.size 9 1 strC (.slice none 0 0) []) := hid (OwnR.nil _ _ _ _ _)
           have HRW : Hid (ReadR w3 1 strC (.slice aw lw cw) (wordsOf A.syms (word fr i))) := hid (OwnR.read HW4.out strC_size)
           have hlen : ([] : List ByteArray).length + (wordsOf A.syms (word fr i)).length ≤ 1000000000 := by rw [← HLW.out]; simp; omega
           have hlen2 : (wordsOf A.syms (word fr i)).length + 1 ≤ 1000000000 := by rw [← HLW.out]; omega
           have hlen3 : rs.length + 1 ≤ 1000000000 := by rw [HLR2.out]; have := hvl; rw [HLU2.out] at this; omega
           have s3 : (j : Int) < (n1 : Int) := by omega
           have s4 : (0 : Int) ≤ (j : Int) := by omega
           have hsz3 : w.heap.size ≤ w3.heap.size := HE3.out.size
           clear hmem hb0 hdl hnw hws hO hc hnin
           go_wp2_with (first
            | (with_reducible refine onOp 105 ?_
               go_loud (refine wpList_append_read elem_str strC_size ones_strC HNL3 (Nat.le_refl _) HRW hlen rfl (.tmp 102) (.tmp 104) rfl rfl rfl ?_)
               intro v4 w4 H10 H2
               have H1 : Hid (OwnR w4 w3.heap.size 9 1 strC v4 (wordsOf A.syms (word fr i))) := hid (by have h := H10.out; rwa [List.nil_append] at h)
               clear H10
               have HE4 := hid (ext_grown (Below.refl w3.heap.size w3) H2.out (fun i hi => by cases hi))
               have HA4 := hid (HA3.out.ext HE4.out)
               obtain ⟨gS', oS', hS', c5⟩ := (HA.out.ext (HE3.out.trans (HE4.out.mono hsz3))).symC hjl
               obtain ⟨rfl, rfl⟩ : gS = gS' ∧ oS = oS' := by simpa using hS'
               rw [← HXS.out] at c5
               have a0 : w4.cell? ⟨w.heap.size, 0, none⟩ = some (.slice (some ⟨gS, oS, none⟩) n1 cS) := HA4.out.cell (i := 0) rfl
               have la := HA4.out.lt
               have hsz4 : w3.heap.size ≤ w4.heap.size := HE4.out.size
               clear hS')
            | (with_reducible refine onOp 113 ?_
               go_loud (refine wpList_append_R elem_str strC_size ones_strC H1 hsz4 hlen2 x _ rfl w4.heap.size rfl rfl _ _ rfl rfl rfl ?_)
               rintro g6 c6 v6 w6 rfl G1 G2
               have HE6 := hid (ext_grown HE4.out G2.out.1 (fun i hi => (H1.out.lt i hi).1))
               have HR6 := hid (HR3.out.ext HE6.out)
               have HRO6 := hid HR6.out.own
               have hsz6 : w.heap.size ≤ w6.heap.size := Nat.le_trans hsz3 HE6.out.size)
            | (with_reducible refine onOp 119 ?_
               go_loud (refine wpList_slice_one rfl 147 (.tmp 118) rfl (rowA (.slice (some ⟨g6, 0, none⟩) ((wordsOf A.syms (word fr i)).length + 1) c6, (p', q'))) rfl 146 3 _ Tryz.underlying147 slot146 (by decide) (by decide) (rowA_size _) ?_))
            | (with_reducible refine onOp 120 ?_
               go_loud (refine wpList_append_R elem_rows rowA_size ones_rowA HRO6 hsz6 hlen3 (.slice (some ⟨g6, 0, none⟩) ((wordsOf A.syms (word fr i)).length + 1) c6, (p', q')) _ rfl w6.heap.size rfl rfl _ _ rfl rfl rfl ?_)
               rintro g8 c8 v8 w8 rfl G3 G4))
           go_roundg (n1 - (j + 1))
           case measure => omega
           case rel =>
            have hc8 := (Chg.refl (fun k => (Value.slice aoR2 nl cR2).ownBlock = some k) w6).grown G4.out.1 (fun k e => e)
            have hw6 : OwnR w6 w.heap.size 9 1 strC (.slice (some ⟨g6, 0, none⟩) ((wordsOf A.syms (word fr i)).length + 1) c6) (wordsOf A.syms (word (gr ++ [(i, j)]) ls.length)) := by
             rw [HWS.out]
             exact OwnR.lower G1.out hsz3
            have hx6 := HX4.out.ext HE6.out
            have hl0 : w0.heap.size < w6.heap.size := hx6.lt
            refine ⟨j + 1, _, _, ls ++ [(p', q')], gr ++ [(i, j)], rfl, by omega, by go_num, hid ⟨HNW.out.1.symm, HNW.out.2.1.symm⟩, hid ⟨?_, ?_, ?_, HR6.out.app G3.out hc8 hw6 HNW.out.2.2.1, (HS3.out.ext HE6.out).chgR HR6.out.own hc8⟩, hid ⟨?_, ?_, ?_⟩⟩
            ·exact ext_chg (HE3.out.trans (HE6.out.mono hsz3)) hc8 (fun k e => (HRO6.out.lt k e).1)
            ·exact (HA3.out.ext HE6.out).chg hc8 (own_blk_ne HRO6.out (HA3.out.ext HE6.out) (by decide))
            ·exact (HB3.out.ext HE6.out).chg hc8 (own_blk_ne HRO6.out (HB3.out.ext HE6.out) (by decide))
            ·exact hx6.chg hc8 (fun e => HX3.out.2.2 _ e rfl)
            ·exact (HW4.out.ext HE6.out).chg hc8 (fun k e e' => own_apart (HW4.out.ext HE6.out) HRO6.out (by decide) k e e')
            ·intro k e
             cases e
             rcases G4.out.2 with h | h
             ·exact HX3.out.2.2 _ h
             ·show g8 ≠ w0.heap.size
              omega
        ·obtain rfl : j = n1 := by omega
         have q3 : decide (j < j) = false := decide_eq_false (by omega)
         go_wp2_with fail
         go_roundg (70000 - (i + 1))
         case measure => omega
         case rel =>
          have hsu := tourN_succ (succ := succF A qs) (first := ((0 : Int), (0 : Int))) (i := i) (k := ((s : Int), q)) (by rw [← HT.out.1]; exact HKK.out)
          have hlen : (succF A qs ((s : Int), q)).length = j := by rw [fan_length]; exact HL.out.1.symm
          have hpre : ks <+: ls := by rw [HV.out.1]; exact visN_pre i ⟨ks, fr, []⟩ _ j
          have e1 : ls = (tourN (succF A qs) (0, 0) (i + 1)).keys ∧ gr = (tourN (succF A qs) (0, 0) (i + 1)).from_ := by
           rw [hsu]
           unfold rowOf
           rw [hlen, ← HT.out.1, ← HT.out.2.1]
           exact HV.out
          have hkl := HNK.out
          refine ⟨i + 1, rs, vs, ls, gr, rfl, by omega, by go_num, hid ⟨e1.1, e1.2, by have := hpre.length_le; omega⟩, HF2, hid fun n p hn hp => ?_⟩
          obtain ⟨t, ht⟩ := hpre
          rw [← ht, List.getElem?_append_left (by omega)] at hp
          by_cases e : n = i
          ·subst e
           rw [HKK.out] at hp
           cases hp
           exact HFB.out.symm
          ·exact HN.out n p (by omega) hp
  ·obtain rfl : i = nk := by omega
   have q1 : decide (i < i) = false := decide_eq_false (by omega)
   go_wp2_with fail
   go_ret2
   refine ⟨HF.out.ext, .inr ⟨rfl, ?_⟩⟩
   have hFull : Full (succF A qs) (0, 0) i := by
    show (tourN (succF A qs) (0, 0) i).keys.length = i
    rw [← HT.out.1]; exact HNK.out.symm
   exact first_none hFull fun n p hn hp => HN.out n p hn (by rw [HT.out.1]; exact hp)
end Go.Proofs.YtngpjagpeblbjaaGreatDoor
namespace Go.Proofs.YtngpjagpeblbjaaGreatDoor
open Go.RowKit Go.Spy Go.Heaped Go.Tour Go.Rx
set_option maxRecDepth 100000 in
set_option maxHeartbeats 4000000 in
theorem rcheck_any {w : World} {vS vN vF : Value} {us : List Value} {d : DR} (hP : DfaP w vS vN vF us d) (hB : BndD d) : Calls Tryz.prog 33 #[.agg #[vS, vN, vF]] w (ErrP (checkE nameOk d) w) := by
 obtain ⟨aoS, cS, rfl, hS⟩ := hP.syms.form
 obtain ⟨aoN, cN, rfl, hN⟩ := hP.next.form
 obtain ⟨aoF, cF, rfl, hF⟩ := hP.fin.form
 rw [hP.len] at hN
 obtain ⟨E, hE⟩ : ∃ E, E = checkE nameOk d := ⟨_, rfl⟩
 rw [← hE]
 obtain ⟨m, hm⟩ : ∃ m, m = d.syms.length := ⟨_, rfl⟩
 obtain ⟨n, hn⟩ : ∃ n, n = d.next.length := ⟨_, rfl⟩
 obtain ⟨k, hk⟩ : ∃ k, k = d.fin.length := ⟨_, rfl⟩
 have hbm : m ≤ 1000 := hm ▸ hB.s
 have hbn : n ≤ 1000 := hn ▸ hB.n
 have hbk : k ≤ 1000 := hk ▸ hB.f
 have HP := hid hP
 rw [hP.len, ← hn] at HP ⊢
 rw [← hm] at HP ⊢
 rw [← hk] at HP ⊢
 have HB := hid hB
 have HE := hid hE
 have HM := hid hm
 have HN := hid hn
 have HK := hid hk
 clear hP hB hE hm hn hk hF
 have HX0 : Hid (Ext w (w.alloc (.cells #[.slice aoS m cS, .slice aoN n cN, .slice aoF k cF] 40)) ∧ Blk (w.alloc (.cells #[.slice aoS m cS, .slice aoN n cN, .slice aoF k cF] 40)) w.heap.size 40 #[.slice aoS m cS, .slice aoN n cN, .slice aoF k cF]) := hid ⟨(Below.refl _ _).alloc (Nat.le_refl _) _, Blk.new _ _ _⟩
 by_cases h1 : 256 < n
 ·have d1 : decide (256 < n) = true := decide_eq_true h1
  have d1' : decide ((256 : Int) < (n : Int)) = true := decide_eq_true (by omega)
  go_enter Tryz.func33, Tryz.ntmps33
  go_wp2_with fail
  go_ret
  exact ⟨by rw [HE.out, checkE, if_pos (.inl (HN.out ▸ h1))]; rfl, HX0.out.1⟩
 ·have d1 : decide (256 < n) = false := decide_eq_false h1
  have d1' : decide ((256 : Int) < (n : Int)) = false := decide_eq_false (by omega)
  by_cases h2 : 256 < k
  ·have d2 : decide (256 < k) = true := decide_eq_true h2
   have d2' : decide ((256 : Int) < (k : Int)) = true := decide_eq_true (by omega)
   go_enter Tryz.func33, Tryz.ntmps33
   go_wp2_with fail
   go_ret
   exact ⟨by rw [HE.out, checkE, if_pos (.inr (HK.out ▸ h2))]; rfl, HX0.out.1⟩
  ·have d2 : decide (256 < k) = false := decide_eq_false h2
   have d2' : decide ((256 : Int) < (k : Int)) = false := decide_eq_false (by omega)
   have E1 : Hid (¬ (256 < d.next.length ∨ 256 < d.fin.length)) := hid (by rw [← HN.out, ← HK.out]; omega)
   by_cases h3 : n < 1
   ·have d3 : decide (n < 1) = true := decide_eq_true h3
    have d3' : decide ((n : Int) < 1) = true := decide_eq_true (by omega)
    go_enter Tryz.func33, Tryz.ntmps33
    go_wp2_with fail
    go_ret
    exact ⟨by rw [HE.out, checkE, if_neg E1.out, if_pos (.inl (by rw [← HN.out]; omega))]; rfl, HX0.out.1⟩
   ·have d3 : decide (n < 1) = false := decide_eq_false h3
    have d3' : decide ((n : Int) < 1) = false := decide_eq_false (by omega)
    by_cases h4 : k = n
    ·have d4 : ((k : Int) != (n : Int)) = false := by simp [h4]
     have H4 := hid h4
     clear h4
     have E2 : Hid (¬ (d.next.length = 0 ∨ d.fin.length ≠ d.next.length)) := hid (by rw [← HN.out, ← HK.out]; have := H4.out; omega)
     go_enter Tryz.func33, Tryz.ntmps33
     go_wp2_with fail
     go_loopg [4] n (fun g u wr => ∃ j, g = n - j ∧ j ≤ n ∧ u = .int .i64 j ∧ Hid (Ext w wr ∧ Blk wr w.heap.size 40 #[.slice aoS m cS, .slice aoN n cN, .slice aoF k cF]) ∧ Hid (∀ i r, i < j → d.next[i]? = some r → rowBad d.syms.length d.next.length r = false))
     case atStart => exact ⟨0, rfl, Nat.zero_le _, rfl, HX0, hid (fun i r h => by omega)⟩
     case round =>
      obtain ⟨j, rfl, hj, rfl, HX, HG⟩ := hrel
      have b0 : wr.cell? ⟨w.heap.size, 0, none⟩ = some (.slice aoS m cS) := HX.out.2.cell (i := 0) rfl
      have b1 : wr.cell? ⟨w.heap.size, 1, none⟩ = some (.slice aoN n cN) := HX.out.2.cell (i := 1) rfl
      have lb := HX.out.2.lt
      by_cases hlt : j < n
      ·obtain ⟨gN, off, rfl⟩ := hN (by rw [← HN.out]; omega)
       obtain ⟨r, hr⟩ : ∃ r, d.next[j]? = some r := ⟨_, List.getElem?_eq_getElem (by rw [← HN.out]; omega)⟩
       obtain ⟨ao, c, hu, hR⟩ := HP.out.row hr
       obtain ⟨rl, hrl⟩ : ∃ n, n = r.length := ⟨_, rfl⟩
       have hrb : rl ≤ 1000 := hrl ▸ HB.out.r r (List.mem_of_getElem? hr)
       obtain ⟨_, _, _, hgR⟩ := hR.form
       rw [← hrl] at hR hu
       have HC1 : Hid (∀ wr, Ext w wr → wr.cell? ⟨gN, off + j, none⟩ = some (.slice ao rl c)) := hid fun wr e => (HP.out.next.ext e).cell1 hu
       have c1 := HC1.out wr HX.out.1
       have HR := hid hR
       have HRL := hid hrl
       have HRR := hid hr
       have i0 : (0 : Int) ≤ (j : Int) := by omega
       have i1 : (j : Int) < (n : Int) := by omega
       clear hu hR hr hrl hgR
       by_cases hL : rl = m
       ·have d5 : ((rl : Int) != (m : Int)) = false := by simp [hL]
        have HL := hid hL
        clear hL
        go_wp2_with fail
        go_quiet (fail)
        go_wp2_with fail
        obtain ⟨wa, hwa⟩ : ∃ x, x = wr := ⟨_, rfl⟩
        subst hwa
        clear b0 b1 lb c1
        go_loopg [5] rl (fun g u wr => ∃ q, g = rl - q ∧ q ≤ rl ∧ u = .int .i64 q ∧ Hid (Ext w wr ∧ Blk wr w.heap.size 40 #[.slice aoS m cS, .slice (some ⟨gN, off, none⟩) n cN, .slice aoF k cF]) ∧ Hid (∀ i z, i < q → r[i]? = some z → ¬ z < 0 ∧ ¬ (n : Int) ≤ z))
        case atStart => exact ⟨0, rfl, Nat.zero_le _, rfl, hid ⟨ext_drewN HX.out.1 _, HX.out.2.drewN _⟩, hid (fun i r h => by omega)⟩
        case round =>
         obtain ⟨q, rfl, hq, rfl, HY, HH⟩ := hrel
         have b1 : wr.cell? ⟨w.heap.size, 1, none⟩ = some (.slice (some ⟨gN, off, none⟩) n cN) := HY.out.2.cell (i := 1) rfl
         have lb := HY.out.2.lt
         have c1 := HC1.out wr HY.out.1
         by_cases hql : q < rl
         ·obtain ⟨gR, oR, rfl⟩ : ∃ g off, ao = some ⟨g, off, none⟩ := by
           obtain ⟨ao', c', e, hg⟩ := HR.out.form
           simp only [Value.slice.injEq] at e
           rw [e.1]
           exact hg (by rw [← HRL.out]; omega)
          obtain ⟨z, hz⟩ : ∃ z, r[q]? = some z := ⟨_, List.getElem?_eq_getElem (by rw [← HRL.out]; exact hql)⟩
          have c2 : wr.cell? ⟨gR, oR + q, none⟩ = some (.int .i64 z) := by
           have h := HR.out.ext HY.out.1
           rw [HRL.out] at h
           exact h.cell1 hz
          have HZ := hid hz
          have HBAD : Hid (z < 0 ∨ (n : Int) ≤ z → E = 12) := hid fun hb => by
           rw [HE.out, checkE, if_neg E1.out, if_neg E2.out, if_pos (List.any_eq_true.2 ⟨r, List.mem_of_getElem? HRR.out, ?_⟩)]
           unfold rowBad
           rw [Bool.or_eq_true]
           refine .inr (List.any_eq_true.2 ⟨z, List.mem_of_getElem? HZ.out, ?_⟩)
           rw [← HN.out]
           simpa using hb
          clear hz
          by_cases z0 : z < 0
          ·have t0 : decide (z < 0) = true := decide_eq_true z0
           go_wp2_with fail
           go_ret
           exact ⟨by rw [HBAD.out (.inl z0)]; rfl, HY.out.1⟩
          ·have t0 : decide (z < 0) = false := decide_eq_false z0
           by_cases zn : (n : Int) ≤ z
           ·have t1 : decide ((n : Int) ≤ z) = true := decide_eq_true zn
            go_wp2_with fail
            go_ret
            exact ⟨by rw [HBAD.out (.inr zn)]; rfl, HY.out.1⟩
           ·have t1 : decide ((n : Int) ≤ z) = false := decide_eq_false zn
            go_wp2_with fail
            go_roundg (rl - (q + 1))
            case measure => omega
            case rel =>
             refine ⟨q + 1, rfl, by omega, by go_num, HY, hid fun i y hi hy => ?_⟩
             by_cases e : i = q
             ·subst e; rw [HZ.out] at hy; cases hy; exact ⟨z0, zn⟩
             ·exact HH.out i y (by omega) hy
         ·have HRB : Hid (rowBad d.syms.length d.next.length r = false) := hid (by
           unfold rowBad
           rw [Bool.or_eq_false_iff]
           refine ⟨decide_eq_false (by rw [← HRL.out, ← HM.out]; simpa using HL.out), ?_⟩
           rw [List.any_eq_false]
           intro z hz
           obtain ⟨i, hi⟩ := List.getElem?_of_mem hz
           obtain ⟨h1, h2⟩ := HH.out i z (by have := (List.getElem?_eq_some_iff.1 hi).1; rw [← HRL.out] at this; omega) hi
           rw [← HN.out]
           simp only [Bool.or_eq_true, decide_eq_true_eq, not_or]
           exact ⟨h1, h2⟩)
          go_wp2_with fail
          go_roundg (n - (j + 1))
          case measure => omega
          case rel =>
           refine ⟨j + 1, rfl, by omega, by go_num, HY, hid fun i q' hi hq' => ?_⟩
           by_cases e : i = j
           ·subst e; rw [HRR.out] at hq'; cases hq'; exact HRB.out
           ·exact HG.out i q' (by omega) hq'
       ·have d5 : ((rl : Int) != (m : Int)) = true := by simp; omega
        have HL := hid hL
        clear hL
        go_wp2_with fail
        go_quiet (fail)
        go_wp2_with fail
        go_ret
        refine ⟨?_, ext_drewN HX.out.1 _⟩
        rw [HE.out, checkE, if_neg E1.out, if_neg E2.out, if_pos (List.any_eq_true.2 ⟨r, List.mem_of_getElem? HRR.out, by unfold rowBad; rw [← HRL.out, ← HM.out, decide_eq_true HL.out]; rfl⟩)]; rfl
      ·have E3 : Hid (¬ d.next.any (rowBad d.syms.length d.next.length) = true) := hid (by
        rw [List.any_eq_true]
        rintro ⟨r, hr, hb⟩
        obtain ⟨i, hi, rfl⟩ := List.getElem_of_mem hr
        rw [HG.out i _ (by rw [← HN.out] at hi; omega) (List.getElem?_eq_getElem hi)] at hb; cases hb)
       clear HG
       go_wp2_with fail
       obtain ⟨wa, hwa⟩ : ∃ x, x = wr := ⟨_, rfl⟩
       subst hwa
       go_loopg [6] m (fun g u wr => ∃ j, g = m - j ∧ j ≤ m ∧ u = .int .i64 j ∧ Hid (Ext w wr ∧ Blk wr w.heap.size 40 #[.slice aoS m cS, .slice aoN n cN, .slice aoF k cF]) ∧ Hid (∀ i s, i < j → d.syms[i]? = some s → nameOk s = true))
       case atStart => exact ⟨0, rfl, Nat.zero_le _, rfl, HX, hid (fun i r h => by omega)⟩
       case round =>
        clear HX b0 b1 lb
        obtain ⟨j, rfl, hj2, rfl, HX, HG⟩ := hrel
        have b0 : wr.cell? ⟨w.heap.size, 0, none⟩ = some (.slice aoS m cS) := HX.out.2.cell rfl
        have lb := HX.out.2.lt
        by_cases hlt2 : j < m
        ·obtain ⟨g, off, rfl⟩ := hS (by rw [← HM.out]; omega)
         obtain ⟨s, hs⟩ : ∃ s, d.syms[j]? = some s := ⟨_, List.getElem?_eq_getElem (by rw [← HM.out]; omega)⟩
         have c1 : wr.cell? ⟨g, off + j, none⟩ = some (.string s) := by
          have h := HP.out.syms.ext HX.out.1
          rw [HM.out] at h
          exact h.cell1 hs
         have HS := hid hs
         clear hs
         go_wp2_with fail
         refine (name_any s _ (by have := HB.out.b s (List.mem_of_getElem? HS.out); unfold maxLen; omega)).mono ?_
         rintro e w2 ⟨rfl, rfl⟩
         have HX2 := hid HX.out.1
         have HB2 := hid HX.out.2
         cases ha : nameOk s with
         | true =>
           have HA := hid ha
           clear ha
           go_wp2_with fail
           go_roundg (m - (j + 1))
           case measure => omega
           case rel =>
            refine ⟨j + 1, rfl, by omega, by go_num, hid ⟨HX2.out, HB2.out⟩, hid fun i q hi hq => ?_⟩
            by_cases e : i = j
            ·subst e; rw [HS.out] at hq; cases hq; exact HA.out
            ·exact HG.out i q (by omega) hq
         | false =>
           have HA := hid ha
           clear ha
           go_wp2_with fail
           go_ret
           refine ⟨?_, HX2.out⟩
           rw [HE.out, checkE, if_neg E1.out, if_neg E2.out, if_neg E3.out, if_pos (List.any_eq_true.2 ⟨s, List.mem_of_getElem? HS.out, by rw [HA.out]; rfl⟩)]; rfl
        ·have E4 : Hid (¬ (d.syms.any (fun s => !nameOk s)) = true) := hid (by
          rw [List.any_eq_true]
          rintro ⟨r, hr, hb⟩
          obtain ⟨i, hi, rfl⟩ := List.getElem_of_mem hr
          rw [HG.out i _ (by rw [← HM.out] at hi; omega) (List.getElem?_eq_getElem hi)] at hb; cases hb)
         clear HG
         go_wp2_with fail
         obtain ⟨wa, hwa⟩ : ∃ x, x = wr := ⟨_, rfl⟩
         subst hwa
         go_loopg [7] m (fun g u wr => ∃ j, g = m - j ∧ (j + 1 ≤ m ∨ j = 0) ∧ u = .int .i64 ((j + 1 : Nat) : Int) ∧ Hid (Ext w wr ∧ Blk wr w.heap.size 40 #[.slice aoS m cS, .slice aoN n cN, .slice aoF k cF]) ∧ Hid (∀ i x y, i < j → d.syms[i]? = some x → d.syms[i + 1]? = some y → ltB x y = true))
         case atStart => exact ⟨0, rfl, .inr rfl, rfl, HX, hid (fun i r y h => by omega)⟩
         case round =>
          clear HX b0 lb
          obtain ⟨j, rfl, hj3, rfl, HX, HG⟩ := hrel
          have b0 : wr.cell? ⟨w.heap.size, 0, none⟩ = some (.slice aoS m cS) := HX.out.2.cell rfl
          have lb := HX.out.2.lt
          by_cases hlt3 : j + 1 < m
          ·obtain ⟨g, off, rfl⟩ := hS (by rw [← HM.out]; omega)
           obtain ⟨x, hx⟩ : ∃ s, d.syms[j]? = some s := ⟨_, List.getElem?_eq_getElem (by rw [← HM.out]; omega)⟩
           obtain ⟨y, hy⟩ : ∃ s, d.syms[j + 1]? = some s := ⟨_, List.getElem?_eq_getElem (by rw [← HM.out]; omega)⟩
           have hRS : ReadR wr 1 strC (.slice (some ⟨g, off, none⟩) d.syms.length cS) d.syms := by
            have h := HP.out.syms.ext HX.out.1
            rwa [HM.out] at h
           have c1 : wr.cell? ⟨g, off + j, none⟩ = some (.string x) := hRS.cell1 hx
           have c2 : wr.cell? ⟨g, off + (j + 1), none⟩ = some (.string y) := hRS.cell1 hy
           have HXX := hid hx
           have HYY := hid hy
           clear hx hy hRS
           have e1 : IntKind.i64.wrap (((j + 1 : Nat) : Int) - 1) = (j : Int) := by rw [show ((j + 1 : Nat) : Int) - 1 = (j : Int) by omega]; exact IntWalk.i64_in _ (by omega)
           have e2 : IntKind.i64.wrap (j : Int) = (j : Int) := IntWalk.i64_in _ (by omega)
           have g1 : (0 : Int) ≤ (j : Int) := by omega
           have g2 : (j : Int) < (m : Int) := by omega
           have g3 : (0 : Int) ≤ ((j + 1 : Nat) : Int) := by omega
           have g4 : ((j + 1 : Nat) : Int) < (m : Int) := by omega
           cases hb : ltB x y with
           | true =>
             have HBB := hid hb
             have hb2 : Op.bytesLess y.toList x.toList = false := ltB_asymm hb
             have hb3 : (y.toList == x.toList) = false := beqB_false fun e => by rw [e, ltB_irr] at hb; cases hb
             clear hb
             go_upto_region 24 with fail
             go_quiet (fail)
             go_wp2_with fail
             go_roundg (m - (j + 1))
             case measure => omega
             case rel =>
              refine ⟨j + 1, rfl, .inl (by omega), by go_num, hid ⟨ext_drewN HX.out.1 _, HX.out.2.drewN _⟩, hid fun i q r hi hq hr => ?_⟩
              by_cases e : i = j
              ·subst e; rw [HXX.out] at hq; cases hq; rw [HYY.out] at hr; cases hr; exact HBB.out
              ·exact HG.out i q r (by omega) hq hr
           | false =>
             have HBB := hid hb
             have E5 : Hid (chainB d.syms = false) := hid (by
              cases h : chainB d.syms with
              | false => rfl
              | true =>
                have := (chainB_iff.1 h).get (show j < j + 1 by omega) HXX.out HYY.out
                rw [hb] at this; cases this)
             by_cases hyx : y = x
             ·have hb2 : Op.bytesLess y.toList x.toList = false := by rw [hyx]; exact ltB_irr x
              have hb3 : (y.toList == x.toList) = true := beqB_true hyx
              clear hb hyx
              go_upto_region 24 with fail
              go_quiet (fail)
              go_wp2_with fail
              go_ret
              refine ⟨?_, ext_drewN HX.out.1 _⟩
              rw [HE.out, checkE, if_neg E1.out, if_neg E2.out, if_neg E3.out, if_neg E4.out, if_pos E5.out]; rfl
             ·have hb2 : Op.bytesLess y.toList x.toList = true := by
               rcases ltB_total hyx with h | h
               ·exact h
               ·rw [hb] at h; cases h
              clear hb hyx
              go_upto_region 24 with fail
              go_quiet (fail)
              go_wp2_with fail
              go_ret
              refine ⟨?_, ext_drewN HX.out.1 _⟩
              rw [HE.out, checkE, if_neg E1.out, if_neg E2.out, if_neg E3.out, if_neg E4.out, if_pos E5.out]; rfl
          ·go_wp2_with fail
           go_ret
           refine ⟨?_, HX.out.1⟩
           have E5 : ¬ chainB d.syms = false := by
            rw [chainB_iff.2 (chain_rising fun i x y hx hy => HG.out i x y (by have := (List.getElem?_eq_some_iff.1 hy).1; rw [← HM.out] at this; omega) hx hy)]; simp
           rw [HE.out, checkE, if_neg E1.out, if_neg E2.out, if_neg E3.out, if_neg E4.out, if_neg E5]; rfl
    ·have d4 : ((k : Int) != (n : Int)) = true := by simp; omega
     have H4 := hid h4
     clear h4
     go_enter Tryz.func33, Tryz.ntmps33
     go_wp2_with fail
     go_ret
     exact ⟨by rw [HE.out, checkE, if_neg E1.out, if_pos (.inr (by rw [← HN.out, ← HK.out]; exact H4.out))]; rfl, HX0.out.1⟩
end Go.Proofs.YtngpjagpeblbjaaGreatDoor
namespace Go.Proofs.YtngpjagpeblbjaaGreatDoor
open Go.RowKit Go.Spy Go.Heaped Go.Tour Go.Rx
theorem DfaV.partsV {w : World} {a b c : Value} {d : DR} (h : DfaV w (.agg #[a, b, c]) d) : ∃ us, DfaP w a b c us d := by
 obtain ⟨vS, vN, vF, us, e, hP⟩ := h
 simp only [Value.agg.injEq, Array.mk.injEq, List.cons.injEq, and_true] at e
 obtain ⟨rfl, rfl, rfl⟩ := e
 exact ⟨us, hP⟩
theorem rcheck8_any {w : World} {a b c : Value} {d : DR} (h : DfaV w (.agg #[a, b, c]) d) (hB : BndD d) : Calls Tryz.prog 33 #[.agg #[a, b, c]] w (ErrP (checkE nameOk d) w) := by
 obtain ⟨us, hP⟩ := h.partsV
 exact rcheck_any hP hB
theorem fin_nil {A : DA} (W : WellD nameOk A) {u : List Nat} (hu : ∀ c ∈ u, c < A.syms.length) : finF A (fun _ => false) (runL (goF A fun _ _ => -1) (0, 0) u) = langD A u := by
 rw [runF u _ hu, ← match_words W.rising.nodup hu]
 show (finS A (runS A 0 (wordsOf A.syms u)) && !false) = matchD A (wordsOf A.syms u)
 rw [Bool.not_false, Bool.and_true]
 rfl
theorem first_some {A : DA} (W : WellD nameOk A) {u : List Nat} (hu : ∀ c ∈ u, c < A.syms.length) (h1 : langD A u = true) (h2 : ∀ x, (∀ c ∈ x, c < A.syms.length) → langD A x = true → sle u x) {w : World} {e : Ending} {w' : World} (h : FirstPost A (fun _ _ => -1) (fun _ => false) w e w') :
 ∃ v, e = .returned (.tuple #[v, .bool true]) ∧ ReadR w' 1 strC v (wordsOf A.syms u) ∧ Ext w w' := by
 obtain ⟨hx, ⟨v, x, rfl, hR, -, hx1, hx2, hx3⟩ | ⟨rfl, hno⟩⟩ := h
 ·have e : u = x := sle_antisymm (h2 x hx1 (by rw [← fin_nil W hx1]; exact hx2)) (hx3 u hu (by rw [fin_nil W hu]; exact h1))
  subst e
  exact ⟨v, rfl, OwnR.read hR strC_size, hx⟩
 ·have := hno u hu
  rw [fin_nil W hu, h1] at this
  cases this
theorem first_no {A : DA} (W : WellD nameOk A) (h2 : ∀ x, langD A x = false) {w : World} {e : Ending} {w' : World} (h : FirstPost A (fun _ _ => -1) (fun _ => false) w e w') :
 e = .returned (.tuple #[.slice none 0 0, .bool false]) ∧ Ext w w' := by
 obtain ⟨hx, ⟨v, x, rfl, hR, -, hx1, hx2, hx3⟩ | ⟨rfl, hno⟩⟩ := h
 ·rw [fin_nil W hx1, h2 x] at hx2
  cases hx2
 ·exact ⟨rfl, hx⟩
theorem mild_nil : MildS [] := ⟨Nat.zero_le _, fun s h => (by cases h)⟩
end Go.Proofs.YtngpjagpeblbjaaGreatDoor
