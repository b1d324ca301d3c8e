/-
  The queue seat: the last item is taken.
-/
import Derived.Test.YtlghkcamnfegdaaW7
namespace Go.Proofs.Ytlghkcamnfegdaa
open Go.RowKit Go.Spy

theorem owns_take {w : World} {base g n cap size : Nat} {e : TypeId} {xs : List Value} (h : w.ownsRow base e size (.slice (some ⟨g, 0, none⟩) n cap) n xs) (k : Nat) (hk : k ≤ n) :
    w.ownsRow base e size (.slice (some ⟨g, 0, none⟩) k cap) k (xs.take (k * size)) := by
  have hm := Nat.mul_le_mul_right size hk
  refine ⟨by rw [List.length_take, h.1]; omega, ?_⟩
  rcases h.2 with ⟨h0, _⟩ | ⟨g', cap', cur, hv, hb, hg, hnc, hcm, hcs, ht⟩
  · simp at h0
  · simp only [Value.slice.injEq, Option.some.injEq, Addr.mk.injEq, and_true, true_and] at hv
    obtain ⟨rfl, rfl⟩ := hv
    refine .inr ⟨g, cap, cur, rfl, hb, hg, by omega, hcm, hcs, ?_⟩
    rw [← ht, List.take_take, Nat.min_eq_left hm]

/-- The last item cleared, and the slice cut. -/
theorem Pile.popped {F : Nat} {w : World} {base q bo g cap : Nat} {vS : Value} {d : List It} {x : It} {sw : List (Int × Int)} {put : Int} (h : Pile w base q bo F (.slice (some ⟨g, 0, none⟩) (d ++ [x]).length cap) vS (d ++ [x]) sw put) :
    Pile ((((w.setCell ⟨g, d.length * 3, none⟩ (.int .i64 0)).setCell ⟨g, d.length * 3 + 1, none⟩ (.int .i64 0)).setCell ⟨g, d.length * 3 + 2, none⟩ (.int .u64 0)).setCell ⟨q, 0, none⟩ (.slice (some ⟨g, 0, none⟩) d.length cap)) base q bo F (.slice (some ⟨g, 0, none⟩) d.length cap) vS d sw put ∧
    Moved (own q (.slice (some ⟨g, 0, none⟩) (d ++ [x]).length cap) vS) (own q (.slice (some ⟨g, 0, none⟩) d.length cap) vS) w ((((w.setCell ⟨g, d.length * 3, none⟩ (.int .i64 0)).setCell ⟨g, d.length * 3 + 1, none⟩ (.int .i64 0)).setCell ⟨g, d.length * 3 + 2, none⟩ (.int .u64 0)).setCell ⟨q, 0, none⟩ (.slice (some ⟨g, 0, none⟩) d.length cap)) := by
  have c : Chg (fun k => k = g) w (((w.setCell ⟨g, d.length * 3, none⟩ (.int .i64 0)).setCell ⟨g, d.length * 3 + 1, none⟩ (.int .i64 0)).setCell ⟨g, d.length * 3 + 2, none⟩ (.int .u64 0)) :=
    (((Chg.refl _ w).setCell (by rfl) _).setCell (by rfl) _).setCell (by rfl) _
  have hg : (Value.slice (some ⟨g, 0, none⟩) (d ++ [x]).length cap).ownBlock = some g := rfl
  have hq : ¬ q = g := fun e => h.vI_q (by rw [hg, e])
  have c5 := (c.mono (S' := own q (.slice (some ⟨g, 0, none⟩) (d ++ [x]).length cap) vS) fun k _ e => .inr (.inl (by rw [hg, e]))).setCell (p := ⟨q, 0, none⟩) (.inl rfl) (.slice (some ⟨g, 0, none⟩) d.length cap)
  have h0 := owns_take (owns_put3 h.items (j := d.length) (by simp) (0, 0, 0)) d.length (by simp)
  have e0 : (((d ++ [x]).set d.length (0, 0, 0)).flatMap itemC).take (d.length * 3) = d.flatMap itemC := by
    rw [List.set_append_right _ _ (Nat.le_refl _), List.flatMap_append, List.take_append_of_le_length (by rw [flat_len itemC 3 itemC_len]; exact Nat.le_refl _), List.take_of_length_le (by rw [flat_len itemC 3 itemC_len]; exact Nat.le_refl _)]
  rw [e0] at h0
  refine ⟨⟨(h.blk.chg c hq).set 0 _, h.ord.chg c5 h.bo_free, ?_, ?_, h.hq⟩, c5, ?_⟩
  · exact owns_setOther h0 (p := ⟨q, 0, none⟩) (by simpa [Value.ownBlock] using fun e => hq e.symm) _
  · exact owns_setOther (owns_chg h.swaps c (fun k e e' => h.vI_vS hg (e' ▸ e))) (p := ⟨q, 0, none⟩) h.vS_q _
  · rintro k (e | e | e)
    · exact .inl (.inl e)
    · exact .inl (.inr (.inl e))
    · exact .inl (.inr (.inr e))

set_option maxRecDepth 100000 in
set_option maxHeartbeats 800000 in
theorem pop_any {F : Nat} {w : World} {base q bo : Nat} {d : List It} {x : It} {m : Nat} {put : Int} {S : Nat → Prop} (h : PileX w base q bo F (d ++ [x]) m put S) (hd : d.length + 1 ≤ 1000000000) :
    Calls Try.prog 65 #[.pointer (some ⟨q, 0, none⟩)] w fun e w' => e = .returned (.iface 62 (itemV x)) ∧ Goes S w w' base q bo F d m put := by
  obtain ⟨vI, vS, sw, h, hsw, rfl⟩ := h
  obtain ⟨r, k, n⟩ := x
  obtain ⟨ao, cap, rfl, hcap, hg⟩ := slice_form h.items
  obtain ⟨g, rfl⟩ := hg (by simp)
  obtain ⟨x0, x1, x2⟩ := item_cells h.items (j := d.length) (x := (r, k, n)) (by simp)
  have hL : (d ++ [(r, k, n)]).length = d.length + 1 := by simp
  have c0 : w.cell? ⟨q, 0, none⟩ = some (.slice (some ⟨g, 0, none⟩) (d.length + 1) cap) := by rw [← hL]; exact h.blk.cell rfl
  have fq := h.blk.frozen 0
  have hlt := h.blk.lt
  have hgl : g < w.heap.size := by obtain ⟨_, hb⟩ := own_type h.items (g := g) rfl; exact hb.lt
  have hqg : q ≠ g := fun e => h.vI_q (by rw [e]; rfl)
  have fz : ∀ o, w.frozen? ⟨g, o, none⟩ = false := by
    obtain ⟨_, hb⟩ := own_type h.items (g := g) rfl
    exact hb.frozen
  have hcap' : d.length + 1 ≤ cap := by rw [← hL]; exact hcap
  have HP := hid h
  clear h hL hcap hg
  go_enter Try.func65, Try.ntmps65
  go_wp2_with fail
  go_ret
  obtain ⟨hp, hm⟩ := HP.out.popped
  rw [List.length_append] at hm
  exact ⟨rfl, own q _ vS, ⟨_, _, _, (hp.ext ((Below.refl _ _).alloc (Nat.le_refl _) _)), hsw, rfl⟩, hm.ext ((Below.refl _ _).alloc (Nat.le_refl _) _)⟩
end Go.Proofs.Ytlghkcamnfegdaa
