/-
  Walks of atom and Parse: a text that is read as nodes.
-/
import Derived.Test.YtngpjagpeblbjaaDoorZR7
namespace Go.Proofs.YtngpjagpeblbjaaDoor
open Go.RowKit Go.Spy Go.Rx

theorem own_one (w : World) {base : Nat} (hb : base ≤ w.heap.size) (n : Nd) : OwnN (w.alloc (.cells #[.int .i64 n.op, .string n.sym, .int .i64 n.a, .int .i64 n.b] 45)) base (.slice (some ⟨w.heap.size, 0, none⟩) 1 1) [n] := by
  refine ⟨by simp [ndV], .inr ⟨w.heap.size, 1, _, rfl, hb, heap_alloc_new w _, Nat.le_refl _, by unfold maxLen; omega, by simp, by simp [ndV]⟩⟩

theorem good_atom : ∀ n, PartG (AtomD n)
  | 0, _, _, _, h => h.elim
  | n + 1, r, l, r', h => by
    rcases h with ⟨_, rfl⟩ | ⟨q, _, _, rfl⟩ | ⟨q, q', _, _, h, _⟩ | ⟨w, h, rfl⟩
    · exact ⟨good_leaf rfl rfl (by simp [nd0, nil8, ByteArray.size]), by simp⟩
    · exact ⟨good_leaf rfl rfl (by simp [nd1, nil8, ByteArray.size]), by simp⟩
    · exact good_row (good_row (good_item (good_atom n))) _ _ _ h
    · refine ⟨good_leaf rfl rfl ?_, by simp⟩
      have := h.2.1
      simp only [nmB, Bool.and_eq_true, decide_eq_true_eq] at this
      simp [nd2, ByteArray.size]; omega

set_option maxRecDepth 100000 in
set_option maxHeartbeats 2000000 in
theorem atom_succ {b : Nat} {s : ByteArray} (hs : s.size ≤ 1000000) {n : Nat} (IH : PartC 37 b s (ExprOf (AtomD n))) : PartC 79 b s (AtomD (n + 1)) := by
  rintro r l r' w h hR hb
  have HR := hid hR
  have HI := hid IH
  clear hR IH
  rcases h with ⟨h1, rfl⟩ | ⟨q, h1, h2, rfl⟩ | ⟨q, q', h1, h2, h3, h4⟩ | ⟨wd, h1, rfl⟩
  · have H1 := hid h1
    clear h1
    go_enter Tryd.func79, Tryd.ntmps79
    go_wp2_with (go_at_call 67; refine (mark_yes HR.out hs 33 rfl H1.out).mono ?_; rintro e w1 ⟨rfl, hR, hX⟩; have HR1 := hid hR; have HX1 := hid hX; clear hR hX)
    go_ret2
    exact ⟨_, rfl, own_one w1 HX1.out.size nd0, HR1.out.ext ((Below.refl _ _).alloc (Nat.le_refl _) _), HX1.out.alloc _⟩
  · have H1 := hid h1
    have H2 := hid h2
    clear h1 h2
    go_enter Tryd.func79, Tryd.ntmps79
    go_wp2_with fail
    refine (mark_no HR.out hs 33 rfl (c := 33) (by rw [H1.out]; simp)).mono ?_
    rintro e w1 ⟨rfl, hR, hX⟩
    have HR1 := hid hR
    have HX1 := hid hX
    clear hR hX
    go_wp2_with fail
    refine (mark_yes HR1.out hs 40 rfl (c := 40) (q := q) (by rw [sk_sk]; exact H1.out)).mono ?_
    rintro e w2 ⟨rfl, hR, hX⟩
    have HR2 := hid hR
    have HX2 := hid (HX1.out.trans hX)
    clear hR hX
    go_wp2_with fail
    refine (mark_yes HR2.out hs 41 rfl H2.out).mono ?_
    rintro e w3 ⟨rfl, hR, hX⟩
    have HR3 := hid hR
    have HX3 := hid (HX2.out.trans hX)
    clear hR hX
    go_wp2_with fail
    go_ret2
    exact ⟨_, rfl, own_one w3 HX3.out.size nd1, HR3.out.ext ((Below.refl _ _).alloc (Nat.le_refl _) _), HX3.out.alloc _⟩
  · have H1 := hid h1
    have H2 := hid h2
    have H3 := hid h3
    have H4 := hid h4
    clear h1 h2 h3 h4
    go_enter Tryd.func79, Tryd.ntmps79
    go_wp2_with fail
    refine (mark_no HR.out hs 33 rfl (c := 33) (by rw [H1.out]; simp)).mono ?_
    rintro e w1 ⟨rfl, hR, hX⟩
    have HR1 := hid hR
    have HX1 := hid hX
    clear hR hX
    go_wp2_with fail
    refine (mark_yes HR1.out hs 40 rfl (c := 40) (q := q) (by rw [sk_sk]; exact H1.out)).mono ?_
    rintro e w2 ⟨rfl, hR, hX⟩
    have HR2 := hid hR
    have HX2 := hid (HX1.out.trans hX)
    clear hR hX
    go_wp2_with fail
    refine (mark_no HR2.out hs 41 rfl H2.out).mono ?_
    rintro e w3 ⟨rfl, hR, hX⟩
    have HR3 := hid hR
    have HX3 := hid (HX2.out.trans hX)
    have hsz := HX3.out.size
    clear hR hX
    go_wp2_with fail
    refine (HI.out _ _ _ _ H3.out HR3.out (by omega)).mono ?_
    rintro e w4 ⟨v, rfl, hO, hR, hX⟩
    have HR4 := hid hR
    have HX4 := hid (HX3.out.trans hX)
    have HO4 := hid (hO.lower hsz)
    clear hR hX hO
    go_wp2_with fail
    refine (mark_yes HR4.out hs 41 rfl H4.out).mono ?_
    rintro e w5 ⟨rfl, hR, hX⟩
    have HR5 := hid hR
    have HX5 := hid (HX4.out.trans hX)
    have HO5 := hid (HO4.out.chg hX (fun k hk => by have := (HO4.out.lt k hk).1; show ¬ k = b; omega))
    clear hR hX
    go_wp2_with fail
    go_ret2
    exact ⟨_, rfl, HO5.out, HR5.out, HX5.out⟩
  · obtain ⟨c, q, rfl, hc⟩ := nm_head h1.2.1
    have hno : ∀ d : UInt8, isLe d.toNat = false → (sk r).head? ≠ some d := fun d hd e => by
      rw [h1.1] at e
      rw [Option.some.inj e] at hc
      rw [hc] at hd
      cases hd
    have HNO := hid hno
    have H1 := hid h1
    have hn : nameOk ⟨(c :: q).toArray⟩ = true := by rw [nm_eq]; exact h1.2.1
    have HN := hid hn
    have hsz : (⟨(c :: q).toArray⟩ : ByteArray).size ≤ maxLen := by
      have := h1.2.1
      simp only [nmB, Bool.and_eq_true, decide_eq_true_eq] at this
      have h2 := this.1.1.2
      show (c :: q).toArray.size ≤ maxLen
      unfold maxLen
      simp at h2 ⊢; omega
    obtain ⟨wd, hwd⟩ : ∃ wd : ByteArray, wd = ⟨(c :: q).toArray⟩ := ⟨_, rfl⟩
    have hemp : wd.toList.isEmpty = false := by rw [hwd, ByteArray.toList_mk]; rfl
    have hemp2 : (wd.toList == []) = false := by rw [hwd, ByteArray.toList_mk]; rfl
    have HWD := hid hwd
    rw [← hwd] at hsz
    clear h1 hno hc hn hwd
    go_enter Tryd.func79, Tryd.ntmps79
    go_wp2_with fail
    refine (mark_no HR.out hs 33 rfl (HNO.out 33 rfl)).mono ?_
    rintro e w1 ⟨rfl, hR, hX⟩
    have HR1 := hid hR
    have HX1 := hid hX
    clear hR hX
    go_wp2_with fail
    refine (mark_no HR1.out hs 40 rfl (by rw [sk_sk]; exact HNO.out 40 rfl)).mono ?_
    rintro e w2 ⟨rfl, hR, hX⟩
    rw [sk_sk] at hR
    have HR2 := hid hR
    have HX2 := hid (HX1.out.trans hX)
    clear hR hX
    go_wp2_with fail
    refine (word_any HR2.out hs H1.out).mono ?_
    rintro e w3 ⟨rfl, hR, hX⟩
    rw [← HWD.out]
    have HR3 := hid hR
    have HX3 := hid (HX2.out.trans hX)
    clear hR hX
    go_wp2_with (go_at_call 22; refine (is_any _ _ hsz).mono ?_; rintro e w4 ⟨rfl, hX⟩; rw [show nameOk wd = true by rw [HWD.out]; exact HN.out]; have HR4 := hid (HR3.out.ext hX); have HX4 := hid (HX3.out.ext hX); clear hX)
    go_ret2
    exact ⟨_, rfl, by rw [← HWD.out]; exact own_one w4 HX4.out.size (nd2 wd), HR4.out.ext ((Below.refl _ _).alloc (Nat.le_refl _) _), HX4.out.alloc _⟩

theorem expr_all {b : Nat} {s : ByteArray} (hs : s.size ≤ 1000000) : ∀ n, PartC 37 b s (ExprOf (AtomD n))
  | 0 => expression_any (fun _ _ _ _ h => h.elim) (good_atom 0) hs
  | n + 1 => expression_any (atom_succ hs (expr_all hs n)) (good_atom (n + 1)) hs

end Go.Proofs.YtngpjagpeblbjaaDoor
