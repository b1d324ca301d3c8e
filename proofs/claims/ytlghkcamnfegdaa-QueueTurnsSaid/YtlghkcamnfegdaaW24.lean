/-
  The queue seat: the chapter's examples.
-/
import Derived.Test.YtlghkcamnfegdaaW23
namespace Go.Proofs.Ytlghkcamnfegdaa
open Go.RowKit Go.Spy Go.Heaped

theorem first_of_split {a b : List (Int × Int)} {x : Int × Int} (h1 : ∀ y ∈ a, x.1 < y.1) (h2 : ∀ y ∈ b, x.1 ≤ y.1) : Picked.IsFirst cmpI (a ++ x :: b) a.length x where
  at_ := by simp
  before j y hj hy := by
    rw [List.getElem?_append_left hj] at hy
    exact Picked.cmpI_neg.2 (h1 y (List.mem_of_getElem? hy))
  behind j y hj hy := by
    rw [List.getElem?_append_right hj] at hy
    have := List.mem_of_getElem? hy
    simp only [List.mem_cons] at this
    rcases this with rfl | hm
    · exact Picked.cmpI_nonpos.2 (Int.le_refl _)
    · exact Picked.cmpI_nonpos.2 (h2 y hm)
theorem awake_first1 {i : Nat} {x : Int × Int} (h : Picked.IsFirst cmpI [(3, 0), (1, 0), (2, 0)] i x) : i = 1 ∧ x = (1, 0) := by
  have k : Picked.IsFirst cmpI ([(3, 0)] ++ (1, 0) :: [(2, 0)]) 1 (1, 0) := first_of_split (by simp) (by simp)
  exact h.unique Picked.cmpI_anti k
theorem awake_first2 {i : Nat} {x : Int × Int} (h : Picked.IsFirst cmpI [(3, 0), (2, 0)] i x) : i = 1 ∧ x = (2, 0) := by
  have k : Picked.IsFirst cmpI ([(3, 0)] ++ (2, 0) :: []) 1 (2, 0) := first_of_split (by simp) (by simp)
  exact h.unique Picked.cmpI_anti k
theorem awake_sel {out : List (Int × Int)} (h : Picked.Sel cmpI [(1, 0), (3, 1), (2, 2)] out) : out = [(1, 0), (2, 2), (3, 1)] := by
  have k1 : Picked.IsFirst cmpI ([] ++ (1, 0) :: [(3, 1), (2, 2)]) 0 (1, 0) := first_of_split (by simp) (by simp)
  have k2 : Picked.IsFirst cmpI ([(3, 1)] ++ (2, 2) :: []) 1 (2, 2) := first_of_split (by simp) (by simp)
  have k3 : Picked.IsFirst cmpI ([] ++ (3, 1) :: []) 0 (3, 1) := first_of_split (by simp) (by simp)
  exact h.unique Picked.cmpI_anti (.cons k1 (.cons k2 (.cons k3 .nil)))

theorem ints_lit (w : World) (xs : List Int) (hl : xs.length ≤ 1000) (H : Nat) (hH : w.heap.size = H) : IntsV (w.alloc (.cells (xs.map (Value.int .i64)).toArray 3)) (some ⟨H, 0, none⟩) xs := by
  subst hH
  refine ⟨by omega, fun _ => ⟨_, 0, rfl, by simp, fun i hi => ?_⟩⟩
  exact (Blk.new w 3 _).cell (by simp [hi])
theorem rr_lit (w : World) (vs : List Value) (tss : List (List (Int × Int))) (hl : tss.length ≤ 1000) (h2 : vs.length = tss.length) (h : ∀ (i : Nat) (u : Value) (ts : List (Int × Int)), vs[i]? = some u → tss[i]? = some ts → R w u ts) (H : Nat) (hH : w.heap.size = H) :
    RR (w.alloc (.cells vs.toArray 26)) (.slice (some ⟨H, 0, none⟩) tss.length tss.length) tss := by
  subst hH
  refine ⟨vs, ?_, h2, fun i u ts hu ht => (h i u ts hu ht).ext ((Below.refl _ _).alloc (Nat.le_refl _) _)⟩
  have := owns_literal w 0 26 vs (Nat.zero_le _) (by unfold maxLen; omega)
  rwa [h2] at this

set_option maxRecDepth 100000 in
set_option maxHeartbeats 1600000 in
theorem awake_any (w : World) : Calls Try.prog 9 #[] w fun e w' => e = .returned (.bool true) ∧ Ext w w' := by
  go_enter Try.func9, Try.ntmps9
  go_wp2_with (go_at_call 16; refine (newA w).mono ?_; rintro e w1 ⟨rfl, hQ⟩)
  go_at_call 18
  refine (putA (ts := []) hQ (3, 0) (by simp)).mono ?_
  rintro e w2 ⟨rfl, hQ2⟩
  clear hQ
  go_wp2_with fail
  go_at_call 18
  refine (putA hQ2 (1, 0) (by simp)).mono ?_
  rintro e w3 ⟨rfl, hQ3⟩
  clear hQ2
  go_wp2_with fail
  go_at_call 18
  refine (putA hQ3 (2, 0) (by simp)).mono ?_
  rintro e w4 ⟨rfl, hQ4⟩
  clear hQ3
  go_wp2_with fail
  go_at_call 19
  refine (takeA hQ4 (by simp) (by simp)).mono ?_
  rintro e w5 ⟨i, x1, x2, rfl, hF, hQ5, hC5⟩
  obtain ⟨rfl, hx⟩ := awake_first1 hF
  simp only [Prod.mk.injEq] at hx
  obtain ⟨rfl, rfl⟩ := hx
  clear hF hC5 hQ4
  go_wp2_with fail
  have hQ6 := hQ5.ext ((Below.refl _ w5).alloc (Nat.le_refl _) (.cells #[.int .i64 1, .int .i64 0] 33))
  go_at_call 19
  refine (takeA hQ6 (by simp) (by simp)).mono ?_
  rintro e w6 ⟨i, x1, x2, rfl, hF, hQ7, S, hC, hnS⟩
  obtain ⟨rfl, hx⟩ := awake_first2 hF
  simp only [Prod.mk.injEq] at hx
  obtain ⟨rfl, rfl⟩ := hx
  clear hF
  have D1 := (Blk.new w5 33 #[.int .i64 1, .int .i64 0]).chg hC (hnS _ _ (Blk.new w5 33 #[.int .i64 1, .int .i64 0]))
  have hE6 := hQ7.le
  clear hC hnS hQ7 hQ6 hQ5
  go_wp2_with fail
  have D2 := (Blk.new w6 33 #[.int .i64 2, .int .i64 0]).alloc (.cells #[.int .i64 1, .int .i64 3] 3)
  have D1 := (D1.alloc (.cells #[.int .i64 2, .int .i64 0] 33)).alloc (.cells #[.int .i64 1, .int .i64 3] 3)
  have hI := ints_lit (w6.alloc (.cells #[.int .i64 2, .int .i64 0] 33)) [1, 3] (by simp) (w6.heap.size + 1) (by simp)
  have hE7 := ext_trans hE6 (((Below.refl _ w6).alloc (Nat.le_refl _) (.cells #[.int .i64 2, .int .i64 0] 33)).alloc (by simp) (.cells #[.int .i64 1, .int .i64 3] 3))
  clear hE6
  go_at_call 10
  refine (made_any (cap := 2) hI 0 (by omega) (by omega) (by simp)).mono ?_
  rintro e w7 ⟨v1, rfl, hv1, hE8⟩
  have D1 := D1.ext hE8
  have D2 := D2.ext hE8
  have hE9 := ext_trans hE7 hE8
  have hv1 : R w7 v1 [(1, 0), (3, 1)] := owns_R hv1
  clear hI hE7 hE8
  go_wp2_with fail
  have hI := ints_lit w7 [2] (by simp) w7.heap.size rfl
  have D1 := D1.alloc (.cells #[.int .i64 2] 3)
  have D2 := D2.alloc (.cells #[.int .i64 2] 3)
  go_at_call 10
  refine (made_any (cap := 1) hI 2 (by omega) (by omega) (by simp)).mono ?_
  rintro e w8 ⟨v2, rfl, hv2, hE8⟩
  have D1 := D1.ext hE8
  have D2 := D2.ext hE8
  have hE8' := ext_trans ((Below.refl _ w7).alloc (Nat.le_refl _) (.cells #[.int .i64 2] 3)) hE8
  have hv1 := hv1.ext hE8'
  have hE10 := ext_trans hE9 hE8'
  have hv2 : R w8 v2 [(2, 2)] := owns_R hv2
  clear hI hE8 hE8' hE9
  obtain ⟨a1, p1, rfl, _, _⟩ := slice_form hv1
  obtain ⟨a2, p2, rfl, _, _⟩ := slice_form hv2
  go_wp2_with fail
  have hRR : RR (w8.alloc (.cells #[.slice a1 2 p1, .slice a2 1 p2] 26)) (.slice (some ⟨w8.heap.size, 0, none⟩) 2 2) [[(1, 0), (3, 1)], [(2, 2)]] :=
    rr_lit w8 [.slice a1 2 p1, .slice a2 1 p2] [[(1, 0), (3, 1)], [(2, 2)]] (by simp) rfl (fun i u ts hu ht => by
      match i, hu, ht with
      | 0, hu, ht => cases hu; cases ht; exact hv1
      | 1, hu, ht => cases hu; cases ht; exact hv2) _ rfl
  have D1 := D1.alloc (.cells #[.slice a1 2 p1, .slice a2 1 p2] 26)
  have D2 := D2.alloc (.cells #[.slice a1 2 p1, .slice a2 1 p2] 26)
  have hE11 := ext_trans hE10 ((Below.refl _ w8).alloc (Nat.le_refl _) (.cells #[.slice a1 2 p1, .slice a2 1 p2] 26))
  clear hE10
  go_at_call 12
  refine (merge_any hRR (by simp) (by simp)).mono ?_
  rintro e w9 (⟨_, v, out, rfl, hSel, hv, hE12⟩ | ⟨hno, _⟩)
  · have hout := awake_sel hSel
    subst hout
    have D1 := D1.ext hE12
    have D2 := D2.ext hE12
    have hE13 := ext_trans hE11 hE12
    have hv : R w9 v [(1, 0), (2, 2), (3, 1)] := owns_R hv
    have d1 : w9.cell? ⟨w5.heap.size, 0, none⟩ = some (.int .i64 1) := D1.cell rfl
    have d2 : w9.cell? ⟨w6.heap.size, 0, none⟩ = some (.int .i64 2) := D2.cell rfl
    clear hRR hSel hE11 hE12 hv1 hv2
    go_wp2_with fail
    have hw : R (w9.alloc (.cells #[.int .i64 1, .int .i64 0, .int .i64 2, .int .i64 2, .int .i64 3, .int .i64 1] 33)) (.slice (some ⟨w9.heap.size, 0, none⟩) 3 3) [(1, 0), (2, 2), (3, 1)] :=
      World.ownsRow_lit (base := 0) (e := 33) (size := 2) w9 #[.int .i64 1, .int .i64 0, .int .i64 2, .int .i64 2, .int .i64 3, .int .i64 1] 3 (Nat.zero_le _) (by decide) (by simp)
    have hv := hv.ext ((Below.refl _ w9).alloc (Nat.le_refl _) (.cells #[.int .i64 1, .int .i64 0, .int .i64 2, .int .i64 2, .int .i64 3, .int .i64 1] 33))
    go_at_call 14
    refine (things_any hv hw (by simp) (by simp)).mono ?_
    rintro e w10 ⟨rfl, hE14⟩
    have hd : decide (([(1, 0), (2, 2), (3, 1)] : List (Int × Int)) = [(1, 0), (2, 2), (3, 1)]) = true := by decide
    go_wp2_with fail
    go_ret
    exact ⟨by simp, ext_trans hE13 (ext_trans ((Below.refl _ w9).alloc (Nat.le_refl _) _) hE14)⟩
  · exfalso
    apply hno
    intro l hl
    simp only [List.mem_cons, List.not_mem_nil, or_false] at hl
    rcases hl with rfl | rfl
    · decide
    · decide
end Go.Proofs.Ytlghkcamnfegdaa
