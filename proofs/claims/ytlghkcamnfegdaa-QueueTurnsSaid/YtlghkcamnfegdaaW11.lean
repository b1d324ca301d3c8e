/-
  The queue seat: container/heap's Push and Pop.
-/
import Derived.Test.YtlghkcamnfegdaaW10
namespace Go.Proofs.Ytlghkcamnfegdaa
open Go.RowKit Go.Spy Go.Heaped

set_option maxRecDepth 100000 in
set_option maxHeartbeats 800000 in
theorem hpush_any {F : Nat} {f : Int → Int → Int} (O : OrdOk F f) (L : Ordered (aheadB f)) {w : World} {base q bo : Nat} {d : List It} {m : Nat} {put : Int} {S : Nat → Prop} (h : PileX w base q bo F d m put S)
    (x : It) (hu : Heap (aheadB f) d d.length) (hm : m + d.length + 1 ≤ 1000000000) :
    Calls Try.prog 31 #[.iface 72 (.pointer (some ⟨q, 0, none⟩)), .iface 62 (itemV x)] w fun e w' => e = .returned (.tuple #[]) ∧ Risen (aheadB f) S w base q bo F (d ++ [x]) (m + d.length) put w' := by
  have m1 := method_push
  have m2 := method_len
  have hL : Hid ((d ++ [x]).length = d.length + 1) := hid (by simp)
  have hlen : (((d ++ [x]).length : Nat) : Int) = (d.length : Int) + 1 := by rw [hL.out]; rfl
  have HU := hid (up_start x hu)
  go_enter Try.func31, Try.ntmps31
  go_wp2_with (first | (go_at_call 66; refine (push_any h x (by omega)).mono ?_; rintro e w1 ⟨rfl, S1, hP, hM⟩) | (go_at_call 63; refine (plen_at hP).mono ?_; rintro e w' ⟨rfl, rfl⟩) | (go_at_call 37; refine (up_any O L hP d.length (by rw [hL.out]; omega) HU.out (by rw [hL.out]; omega)).mono ?_; rintro e w2 ⟨rfl, hR⟩))
  go_end0
  obtain ⟨d', r1, r2, S2, hP2, hM2⟩ := hR
  exact ⟨rfl, d', r1, r2, S2, hP2, hM.trans hM2⟩

theorem last_form {d : List It} {n : Nat} (h : d.length = n + 1) : d = d.take n ++ [g d n] := by
  conv => lhs; rw [← List.take_append_drop n d]
  congr 1
  rw [List.drop_eq_getElem_cons (by omega), List.drop_of_length_le (by omega), g, List.getD_eq_getElem?_getD, List.getElem?_eq_getElem (by omega)]
  rfl
theorem heap_take {lt : It → It → Bool} {d : List It} {n : Nat} (h : Heap lt d n) (hn : n ≤ d.length) : Heap lt (d.take n) (d.take n).length := by
  have hl : (d.take n).length = n := by simp; omega
  have hg : ∀ k, k < n → g (d.take n) k = g d k := fun k hk => by simp [g, List.getD_eq_getElem?_getD, hk]
  rw [hl]
  intro k k0 hk
  rw [hg _ hk, hg _ (by unfold par; omega)]
  exact h k k0 hk

def HPopped (lt : It → It → Bool) (S : Nat → Prop) (w : World) (base q bo F : Nat) (d : List It) (m : Nat) (put : Int) (e : Ending) (w' : World) : Prop :=
  ∃ d', e = .returned (.iface 62 (itemV (g d 0))) ∧ (d' ++ [g d 0]).Perm d ∧ Heap lt d' d'.length ∧ Goes S w w' base q bo F d' m put

set_option maxRecDepth 100000 in
set_option maxHeartbeats 800000 in
theorem hpop_any {F : Nat} {f : Int → Int → Int} (O : OrdOk F f) (L : Ordered (aheadB f)) (irr : ∀ x, aheadB f x x = false) {w : World} {base q bo : Nat} {d : List It} {m n : Nat} {put : Int} {S : Nat → Prop} (h : PileX w base q bo F d m put S)
    (hd : Hid (d.length = n + 1)) (hu : Heap (aheadB f) d d.length) (hm : m + n + 1 ≤ 1000000000) :
    Calls Try.prog 33 #[.iface 72 (.pointer (some ⟨q, 0, none⟩))] w fun e w' => HPopped (aheadB f) S w base q bo F d (m + 1 + n) put e w' := by
  have m1 := method_pop
  have m2 := method_len
  have m3 := method_swap
  have hl1 : n < d.length := by rw [hd.out]; omega
  have hlen : ((d.length : Nat) : Int) = (n : Int) + 1 := by rw [hd.out]; rfl
  have hu2 : DownHeap (aheadB f) (swp d 0 n) n 0 := down_start hd.out hu
  have hl2 : (swp d 0 n).length = n + 1 := by rw [swp_len, hd.out]
  have HS := hid hl2
  have gn : g (swp d 0 n) n = g d 0 := by rw [g_swp _ _ _ _ (by omega) (by omega), if_pos rfl]
  have GN := hid gn
  clear hl2 gn
  obtain ⟨x0, hx0⟩ : ∃ x0, x0 = g d 0 := ⟨_, rfl⟩
  have HX := hid hx0
  clear hx0
  go_enter Try.func33, Try.ntmps33
  go_wp2_with (first | (go_at_call 63; refine (plen_at h).mono ?_; rintro e w' ⟨rfl, rfl⟩) | (go_at_call 67; refine (swap_at h _ _ 0 n rfl rfl (by omega) hl1 (by omega)).mono ?_; rintro e w1 ⟨rfl, S1, hP1, hM1⟩) | (go_at_call 38; refine (down_any O L irr hP1 HS.out hu2 (by omega)).mono ?_; rintro e w2 ⟨t, d2, rfl, p2, h2, g2, S2, hP2, hM2⟩; have G2 : Hid (d2 = d2.take n ++ [x0]) := hid ((last_form (p2.length_eq.trans HS.out)).trans (by rw [g2, GN.out, HX.out])); have hPl : PileX w2 base q bo F (d2.take n ++ [x0]) (m + 1 + n) put S2 := G2.out ▸ hP2; have hln : (d2.take n).length + 1 ≤ 1000000000 := (by rw [List.length_take]; omega); clear g2 hP2) | (go_at_call 65; refine (pop_any hPl hln).mono ?_; rintro e w3 ⟨rfl, S3, hP3, hM3⟩))
  go_ret
  refine ⟨d2.take n, (by rw [← HX.out]; rfl), ?_, heap_take h2 (by rw [p2.length_eq, HS.out]; omega), S3, hP3, (hM1.trans hM2).trans hM3⟩
  rw [← HX.out, ← G2.out]
  exact p2.trans (swp_perm d 0 n (by omega) hl1)
end Go.Proofs.Ytlghkcamnfegdaa
