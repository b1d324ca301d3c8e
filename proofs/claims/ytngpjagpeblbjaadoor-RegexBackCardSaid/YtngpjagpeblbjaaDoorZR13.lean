/-
  Walk of Text: the text of a regular expression.
-/
import Derived.Test.YtngpjagpeblbjaaDoorZR12
import Derived.Test.YtngpjagpeblbjaaDoorZW24
import Derived.Laws.EntriesVeiled
namespace Go.Rx
theorem nodup_len : ∀ (n : Nat) (L : List Nat), L.Nodup → (∀ x, x ∈ L → x < n) → L.length ≤ n
  | 0, L, _, h => by
    cases L with
    | nil => exact Nat.le_refl _
    | cons x L => exact absurd (h x (by simp)) (by omega)
  | n + 1, L, hn, h => by
    by_cases hm : n ∈ L
    · have h1 := nodup_len n (L.erase n) (hn.erase n) fun x hx => by
        have h2 := (hn.mem_erase_iff).1 hx
        have h3 := h x h2.2
        have h4 := h2.1
        omega
      rw [List.length_erase_of_mem hm] at h1
      omega
    · have := nodup_len n L hn fun x hx => by
        have h3 := h x hx
        have : x ≠ n := fun e => hm (e ▸ hx)
        omega
      omega
theorem size_le {l : List Nd} (F : Form l) {i : Nat} (hi : i < l.length) : sizeT (tr l i) ≤ i + 1 := by
  rw [size_ix F (f := i + 1) (by omega) hi]
  exact nodup_len _ _ (ix_nodup F) fun x hx => by have := (ix_in F hx).le F; omega
end Go.Rx
namespace Go.Proofs.YtngpjagpeblbjaaDoor
open Go.RowKit Go.Spy Go.Rx

theorem okT_of {l : List Nd} (F : Rx.Form l) (hN : NamesOk l) (i : Nat) : okT (tr l i) := ok_of_names F (fun i n hn ho => by rw [← nm_eq]; exact hN i n hn ho) i
theorem info_str : (Tryd.prog.info? 9).map (fun i => (i.zero, i.size, i.bytes)) = some (some (.string ⟨#[]⟩), 1, 16) := by kernel_rfl

set_option maxRecDepth 100000 in
set_option maxHeartbeats 4000000 in
theorem text_any {l : List Nd} (F : Rx.Form l) {w : World} {ao : Option Addr} (hV : NodesV w ao l) (hN : NamesOk l) (cap : Nat) (hl : l.length ≤ 64) :
    Calls Tryd.prog 15 #[.agg #[.slice ao l.length cap]] w fun e w' => e = .returned (.tuple #[.string (bs (txt (tr l (l.length - 1)))), .int .i64 0]) ∧ Ext w w' := by
  have h0 : 0 < l.length := List.length_pos_iff.2 F.ne
  have HOK := hid (okT_of F hN)
  have HSZ := hid (fun i (hi : i < l.length) => show sizeT (tr l i) ≤ 1024 by have := size_le F hi; omega)
  have HV := hid hV
  have HN := hid hN
  have HF := hid F
  have hm : ∀ w', (Instr.makeSlice 25 (.int .i64 (l.length : Int)) (.int .i64 (l.length : Int))).run Tryd.prog w' = .ok (.slice (some ⟨w'.heap.size, 0, none⟩) l.length l.length) (w'.alloc (.cells (madeCells (Value.string ⟨#[]⟩).cells (l.length * 1)) 9)) := fun w' => run_make_R _ _ _ 1 16 Tryd.underlying25 info_str _ (by omega) (by omega) w'
  obtain ⟨MS, HMS⟩ : ∃ M, Hid (M = madeCells (Value.string ⟨#[]⟩).cells (l.length * 1)) := ⟨_, hid rfl⟩
  rw [← HMS.out] at hm
  clear hV hN F
  go_enter Tryd.func15, Tryd.ntmps15
  go_wp2_with fail
  have hE0 : Ext w (w.alloc (.cells #[.slice ao l.length cap] 24)) := (Below.refl _ w).alloc (Nat.le_refl _) _
  refine (check_any (HV.out.ext hE0) cap).mono ?_
  rintro e w1 ⟨c, rfl, hC, hx⟩
  have hc0 : c = 0 := (checkC_zero hC).2 ⟨by omega, HF.out, HN.out⟩
  subst hc0
  have hB1 := (Blk.new w 24 #[.slice ao l.length cap]).ext hx
  have x0 : w1.cell? ⟨w.heap.size, 0, none⟩ = some (.slice ao l.length cap) := hB1.cell (i := 0) rfl
  have HB1 := hid hB1
  have HE1 : Hid (Ext w w1) := hid (hE0.trans (hx.mono (by simp)))
  have hsz1 : w.heap.size < w1.heap.size := hB1.lt
  have z1 : w.heap.size < w1.heap.size + 1 := by omega
  have z2 : w.heap.size < w1.heap.size + 1 + 1 := by omega
  have z3 : w.heap.size < w1.heap.size + 1 + 1 + 1 := by omega
  clear hC hx hE0 hB1
  go_wp2_with fail
  have hT0 : TextW (((w1.alloc (.cells MS 9)).alloc (.cells #[.slice (some ⟨w1.heap.size, 0, none⟩) l.length l.length] 25)).alloc (.cells #[.func (.func 34) #[] #[.pointer (some ⟨w.heap.size, 0, none⟩), .pointer (some ⟨w1.heap.size + 1, 0, none⟩)]] 74)) l ao cap w.heap.size (w1.heap.size + 1) (w1.heap.size + 1 + 1) w1.heap.size 0 := by
    have hE : Ext w1 (((w1.alloc (.cells MS 9)).alloc (.cells #[.slice (some ⟨w1.heap.size, 0, none⟩) l.length l.length] 25)).alloc (.cells #[.func (.func 34) #[] #[.pointer (some ⟨w.heap.size, 0, none⟩), .pointer (some ⟨w1.heap.size + 1, 0, none⟩)]] 74)) := (((Below.refl _ w1).alloc (Nat.le_refl _) _).alloc (by simp) _).alloc (by simp; omega) _
    refine ⟨(HV.out.ext HE1.out).ext hE, HB1.out.ext hE, (Blk.new' (w1.alloc _) _ _ (by simp)).alloc _, (Blk.new' ((w1.alloc _).alloc _) _ _ (by simp)).cell (i := 0) rfl, by simp, fun j h => absurd h (Nat.not_lt_zero j)⟩
  have hS0 : Blk (((w1.alloc (.cells MS 9)).alloc (.cells #[.slice (some ⟨w1.heap.size, 0, none⟩) l.length l.length] 25)).alloc (.cells #[.func (.func 34) #[] #[.pointer (some ⟨w.heap.size, 0, none⟩), .pointer (some ⟨w1.heap.size + 1, 0, none⟩)]] 74)) w1.heap.size 9 MS := ((Blk.new w1 _ _).alloc _).alloc _
  have hE3 : Ext w (((w1.alloc (.cells MS 9)).alloc (.cells #[.slice (some ⟨w1.heap.size, 0, none⟩) l.length l.length] 25)).alloc (.cells #[.func (.func 34) #[] #[.pointer (some ⟨w.heap.size, 0, none⟩), .pointer (some ⟨w1.heap.size + 1, 0, none⟩)]] 74)) := ((HE1.out.alloc HE1.out.size _).alloc (by have := HE1.out.size; simp; omega) _).alloc (by have := HE1.out.size; simp; omega) _
  have HT0 := hid hT0
  have HS0 := hid hS0
  have HE3 := hid hE3
  have sMS : MS.size = l.length := by rw [HMS.out, size_madeCells]; omega
  clear hT0 hS0 hE3 hm z1 z2 z3 HB1
  go_loopg [23] l.length (fun g v wr => ∃ k vs, g = l.length - k ∧ k ≤ l.length ∧ v = .int .i64 k ∧ Hid (TextW wr l ao cap w.heap.size (w1.heap.size + 1) (w1.heap.size + 1 + 1) w1.heap.size k) ∧ Hid (Blk wr w1.heap.size 9 vs) ∧ vs.size = l.length ∧ Hid (Ext w wr))
  case atStart => exact ⟨0, MS, rfl, Nat.zero_le _, rfl, HT0, HS0, sMS, HE3⟩
  case round =>
    obtain ⟨k, vs, rfl, hk, rfl, HT, HS, hvs, HE⟩ := hrel
    by_cases hlt : k < l.length
    · obtain ⟨n, hn⟩ : ∃ n, l[k]? = some n := ⟨_, List.getElem?_eq_getElem hlt⟩
      obtain ⟨b, off, rfl, hbw, _⟩ := HV.out.cells h0
      obtain ⟨b', off', e, hb, hc⟩ := HT.out.nodes.cells (by omega)
      cases e
      obtain ⟨q0, q1, q2, q3⟩ := hc k n hn
      have t0 := HT.out.tbox.cell (i := 0) rfl
      have lT := HT.out.tbox.lt
      have r0 := HT.out.rbox.cell (i := 0) rfl
      have lR := HT.out.rbox.lt
      have nT : ¬ w1.heap.size + 1 = w1.heap.size := by omega
      have nR : ¬ w.heap.size = w1.heap.size := by omega
      have nN : ¬ b = w1.heap.size := by omega
      have NN := hid (And.intro nT (And.intro nR nN))
      have hS0 : Chg (· = w1.heap.size) wr wr.drew := (Chg.refl _ wr).drew
      obtain ⟨vk, hvk⟩ : ∃ v, vs[k]? = some v := ⟨_, Array.getElem?_eq_getElem (by omega)⟩
      have HVK := hid hvk
      have HNn := hid hn
      have HFF := HF.out
      have HF2 := hid HFF
      clear hc hvk hn HFF nT nR nN
      go_upto_region 10 with fail
      refine wp_region_heldL (Chg (· = w1.heap.size) wr) (by kernel_rfl) ?_
      refine wpAnyH_takeK 0 10 #[true, false, false, false, false, false, false, false, false, false, false] rfl (by kernel_rfl) rfl (.slice (some ⟨w1.heap.size, 0, none⟩) l.length l.length) (fun _ _ _ h => h) (Or.inl ⟨rfl, fun w' hS => ?_⟩) hS0 ?_
      · have c1 := (cell_of_chg (a := ⟨w1.heap.size + 1, 0, none⟩) hS lT NN.out.1).trans t0; go_simp <;> with_reducible rfl
      refine wpAnyH_takeK 1 9 #[true, true, false, false, false, false, false, false, false, false, false] rfl (by kernel_rfl) rfl (.int .i64 k) (fun _ _ _ h => h) (Or.inl ⟨rfl, fun w' hS => ?_⟩) hS0 ?_
      · go_simp <;> with_reducible rfl
      refine wpAnyH_takeK 2 8 #[true, true, true, false, false, false, false, false, false, false, false] rfl (by kernel_rfl) rfl (.func (.func 36) #[] #[.pointer (some ⟨w1.heap.size + 1 + 1, 0, none⟩)]) (fun _ _ _ h => h) (Or.inl ⟨rfl, fun w' hS => ?_⟩) hS0 ?_
      · go_simp <;> with_reducible rfl
      refine wpAnyH_takeK 3 7 #[true, true, true, true, false, false, false, false, false, false, false] rfl (by kernel_rfl) rfl (.pointer (some ⟨w.heap.size, 0, none⟩)) (fun _ _ _ h => h) (Or.inl ⟨rfl, fun w' hS => ?_⟩) hS0 ?_
      · go_simp <;> with_reducible rfl
      refine wpAnyH_takeK 4 6 #[true, true, true, true, true, false, false, false, false, false, false] rfl (by kernel_rfl) rfl (.slice (some ⟨b, off, none⟩) l.length cap) (fun _ _ _ h => h) (Or.inl ⟨rfl, fun w' hS => ?_⟩) hS0 ?_
      · have c1 := (cell_of_chg (a := ⟨w.heap.size, 0, none⟩) hS lR NN.out.2.1).trans r0; go_simp <;> with_reducible rfl
      refine wpAnyH_takeK 5 5 #[true, true, true, true, true, true, false, false, false, false, false] rfl (by kernel_rfl) rfl (.int .i64 k) (fun _ _ _ h => h) (Or.inl ⟨rfl, fun w' hS => ?_⟩) hS0 ?_
      · go_simp <;> with_reducible rfl
      refine wpAnyH_takeK 6 4 #[true, true, true, true, true, true, true, false, false, false, false] rfl (by kernel_rfl) rfl (.pointer (some ⟨b, off + k * 4, none⟩)) (fun _ _ _ h => h) (Or.inl ⟨rfl, fun w' hS => ?_⟩) hS0 ?_
      · go_simp <;> with_reducible rfl
      refine wpAnyH_takeK 7 3 #[true, true, true, true, true, true, true, true, false, false, false] rfl (by kernel_rfl) rfl (.agg #[.int .i64 n.op, .string n.sym, .int .i64 n.a, .int .i64 n.b]) (fun _ _ _ h => h) (Or.inl ⟨rfl, fun w' hS => ?_⟩) hS0 ?_
      · have c0 := (cell_of_chg (a := ⟨b, off + k * 4, none⟩) hS hb NN.out.2.2).trans q0; have c1 := (cell_of_chg (a := ⟨b, off + k * 4 + 1, none⟩) hS hb NN.out.2.2).trans q1; have c2 := (cell_of_chg (a := ⟨b, off + k * 4 + 2, none⟩) hS hb NN.out.2.2).trans q2; have c3 := (cell_of_chg (a := ⟨b, off + k * 4 + 3, none⟩) hS hb NN.out.2.2).trans q3; go_simp <;> with_reducible rfl
      refine wpAnyH_one 8 2 #[true, true, true, true, true, true, true, true, true, false, false] rfl (by kernel_rfl) rfl ?_
      go_wp2_with fail
      refine (tell2_any HF2.out (HT.out.ext (Below.refl _ wr).drew) HOK.out HSZ.out (by omega) HNn.out).mono ?_
      rintro e w2 ⟨rfl, hx⟩
      have hS2 : Chg (· = w1.heap.size) wr w2 := hS0.ext hx
      have b2 := (Blk.drew HS.out).ext hx
      have c2 := b2.cell HVK.out
      have f2 := b2.frozen k
      have HB2 := hid b2
      have HX2 := hid (HE.out.trans (((Below.refl _ wr).drew.trans (hx.mono (by simp))).mono HE.out.size))
      have HT2 := hid ((HT.out.ext (Below.refl _ wr).drew).ext hx)
      clear hx b2
      go_wp2_with fail
      refine ⟨hS2, ?_⟩
      refine wpAnyH_one 9 1 #[true, true, true, true, true, true, true, true, true, true, false] rfl (by kernel_rfl) rfl ?_
      go_wp2_with fail
      refine ⟨hS2, ?_⟩
      refine wpAnyH_one 10 0 #[true, true, true, true, true, true, true, true, true, true, true] rfl (by kernel_rfl) rfl ?_
      go_wp2_with fail
      refine ⟨hS2.setCell (by rfl) _, ?_⟩
      refine wpAnyH_end (P := Tryd.prog) (by kernel_rfl) ?_
      go_wp2_with fail
      go_roundg (l.length - (k + 1))
      case measure => omega
      case rel =>
        have hc3 : Chg (· = w1.heap.size) w2 (w2.setCell ⟨w1.heap.size, k, none⟩ (.string (bs (txt (tr l k))))) := (Chg.refl (· = w1.heap.size) w2).setCell (p := ⟨w1.heap.size, k, none⟩) rfl _
        refine ⟨k + 1, vs.setIfInBounds k (.string (bs (txt (tr l k)))), rfl, by omega, by go_num, hid ?_, hid (HB2.out.set k _), by simpa using hvs, hid (HX2.out.setCell (by simp; omega) _)⟩
        refine ⟨HT2.out.nodes.chg hc3 (fun b1 o1 e => by cases e; exact NN.out.2.2), HT2.out.rbox.chg hc3 NN.out.2.1, HT2.out.tbox.chg hc3 NN.out.1, (cell_of_chg (a := ⟨w1.heap.size + 1 + 1, 0, none⟩) hc3 HT2.out.fl (by show ¬ (w1.heap.size + 1 + 1 = w1.heap.size); omega)).trans HT2.out.fbox, Nat.lt_of_lt_of_le HT2.out.fl hc3.size, fun j hj hjl => ?_⟩
        by_cases e : j = k
        · subst e
          refine (HB2.out.set j _).cell ?_
          rw [Array.getElem?_setIfInBounds_self]
          simp [hvs, hjl]
        · have h1 := HT2.out.known j (by omega) hjl
          have h2 := HB2.out.set k (.string (bs (txt (tr l k))))
          have hj2 : vs[j]? = some (.string (bs (txt (tr l j)))) := by
            have hb2 := HB2.out
            unfold Blk at hb2
            simpa [World.cell?, hb2] using h1
          exact h2.cell (by rw [Array.getElem?_setIfInBounds_ne (Ne.symm e)]; exact hj2)
    · obtain rfl : k = l.length := by omega
      have t0 := HT.out.tbox.cell (i := 0) rfl
      have u0 := HT.out.known (l.length - 1) (by omega) (by omega)
      have hn1 : (0 : Int) ≤ (l.length : Int) - 1 := by omega
      go_wp2_with fail
      go_ret2
      exact ⟨rfl, HE.out⟩

end Go.Proofs.YtngpjagpeblbjaaDoor
