/-
  The queue seat: to merge lists two by two is to merge them all.
-/
import Derived.Test.YtlghkcamnfegdaaN1
namespace Go.Proofs.Ytlghkcamnfegdaa
open Go.RowKit Go.Spy Go.Heaped

theorem rr2 (w : World) (a b : Value) (x y : List (Int × Int)) (hx : R w a x) (hy : R w b y) (H : Nat) (hH : w.heap.size = H) :
    RR (w.alloc (.cells #[a, b] 26)) (.slice (some ⟨H, 0, none⟩) 2 2) [x, y] :=
  rr_lit w [a, b] [x, y] (by simp) rfl (fun i u ts hu ht => by
      match i, hu, ht with
      | 0, hu, ht => cases hu; cases ht; exact hx
      | 1, hu, ht => cases hu; cases ht; exact hy) H hH
theorem rr3 (w : World) (a b c : Value) (x y z : List (Int × Int)) (hx : R w a x) (hy : R w b y) (hz : R w c z) (H : Nat) (hH : w.heap.size = H) :
    RR (w.alloc (.cells #[a, b, c] 26)) (.slice (some ⟨H, 0, none⟩) 3 3) [x, y, z] :=
  rr_lit w [a, b, c] [x, y, z] (by simp) rfl (fun i u ts hu ht => by
      match i, hu, ht with
      | 0, hu, ht => cases hu; cases ht; exact hx
      | 1, hu, ht => cases hu; cases ht; exact hy
      | 2, hu, ht => cases hu; cases ht; exact hz) H hH

theorem parts_long {w : World} {a1 a2 a3 : Option Addr} {c1 c2 c3 : Nat} {n1 n2 n3 : Nat} (h : 40 < n1 ∨ 40 < n2 ∨ 40 < n3) :
    Calls Try.prog 4 #[.slice a1 n1 c1, .slice a2 n2 c2, .slice a3 n3 c3] w fun e w' => e = .returned (.bool true) ∧ Ext w w' := by
  by_cases h1 : 40 < n1
  · have q1 : (40 : Int) < (n1 : Int) := by omega
    go_enter Try.func4, Try.ntmps4
    go_wp2_with (go_at_call 9; refine (awake_any _).mono ?_; rintro e w1 ⟨rfl, k1⟩)
    go_ret
    exact ⟨rfl, k1⟩
  · have q1 : ¬ (40 : Int) < (n1 : Int) := by omega
    by_cases h2 : 40 < n2
    · have q2 : (40 : Int) < (n2 : Int) := by omega
      go_enter Try.func4, Try.ntmps4
      go_wp2_with (go_at_call 9; refine (awake_any _).mono ?_; rintro e w1 ⟨rfl, k1⟩)
      go_ret
      exact ⟨rfl, k1⟩
    · have q2 : ¬ (40 : Int) < (n2 : Int) := by omega
      have q3 : (40 : Int) < (n3 : Int) := by omega
      go_enter Try.func4, Try.ntmps4
      go_wp2_with (go_at_call 9; refine (awake_any _).mono ?_; rintro e w1 ⟨rfl, k1⟩)
      go_ret
      exact ⟨rfl, k1⟩

set_option maxRecDepth 100000 in
set_option maxHeartbeats 3200000 in
theorem parts_any {w : World} {a1 a2 a3 : Option Addr} {c1 c2 c3 : Nat} {xs ys zs : List Int} (h1 : IntsV w a1 xs) (h2 : IntsV w a2 ys) (h3 : IntsV w a3 zs) (l1 : xs.length ≤ 40) (l2 : ys.length ≤ 40) (l3 : zs.length ≤ 40) :
    Calls Try.prog 4 #[.slice a1 xs.length c1, .slice a2 ys.length c2, .slice a3 zs.length c3] w fun e w' => e = .returned (.bool true) ∧ Ext w w' := by
  have q1 : ¬ (40 : Int) < (xs.length : Int) := by omega
  have q2 : ¬ (40 : Int) < (ys.length : Int) := by omega
  have q3 : ¬ (40 : Int) < (zs.length : Int) := by omega
  go_enter Try.func4, Try.ntmps4
  go_wp2_with fail
  go_at_call 10
  refine (made_any (cap := c1) h1 0 (by omega) (by omega) (by omega)).mono ?_
  rintro e w1 ⟨v1, rfl, hv1, e1⟩
  have hv1 : R w1 v1 (madeL xs 0) := owns_R hv1
  have m1 := madeL_len xs 0
  generalize madeL xs 0 = X at *
  go_wp2_with fail
  go_at_call 10
  refine (made_any (cap := c2) (h2.ext e1) 100 (by omega) (by omega) (by omega)).mono ?_
  rintro e w2 ⟨v2, rfl, hv2, e2⟩
  have hv2 : R w2 v2 (madeL ys 100) := owns_R hv2
  have m2 := madeL_len ys 100
  generalize madeL ys 100 = Y at *
  have hv1 := hv1.ext e2
  have e2 := ext_trans e1 e2
  clear e1
  go_wp2_with fail
  go_at_call 10
  refine (made_any (cap := c3) (h3.ext e2) 200 (by omega) (by omega) (by omega)).mono ?_
  rintro e w3 ⟨v3, rfl, hv3, e3⟩
  have hv3 : R w3 v3 (madeL zs 200) := owns_R hv3
  have m3 := madeL_len zs 200
  generalize madeL zs 200 = Z at *
  have hv1 := hv1.ext e3
  have hv2 := hv2.ext e3
  have e3 := ext_trans e2 e3
  clear e2 h1 h2 h3
  have M1 : X.length ≤ 40 := by omega
  have M2 : Y.length ≤ 40 := by omega
  have M3 : Z.length ≤ 40 := by omega
  clear m1 m2 m3
  obtain ⟨b1, d1, rfl, _, _⟩ := slice_form hv1
  obtain ⟨b2, d2, rfl, _, _⟩ := slice_form hv2
  obtain ⟨b3, d3, rfl, _, _⟩ := slice_form hv3
  go_wp2_with fail
  have hRR := rr3 w3 _ _ _ X Y Z hv1 hv2 hv3 _ rfl
  have x1 : Ext w3 (w3.alloc (.cells #[.slice b1 X.length d1, .slice b2 Y.length d2, .slice b3 Z.length d3] 26)) := (Below.refl _ _).alloc (Nat.le_refl _) _
  go_at_call 12
  refine (merge_any hRR (by simp) (by simp; omega)).mono ?_
  rintro e w4 (⟨hr, v4, outA, rfl, hS, hv4, e4⟩ | ⟨hr, rfl, e4⟩)
  · have hv4 : R w4 v4 outA := owns_R hv4
    have y4 := ext_trans x1 e4
    have hv1 := hv1.ext y4
    have hv2 := hv2.ext y4
    have hv3 := hv3.ext y4
    have y4 := ext_trans e3 y4
    have hrX : Picked.Rise X := hr X (by simp)
    have hrY : Picked.Rise Y := hr Y (by simp)
    have hrZ : Picked.Rise Z := hr Z (by simp)
    have hSA : Picked.Sel cmpI ((X ++ Y) ++ Z) outA := by simpa using hS
    clear hr hS x1 e3 e4 hRR
    obtain ⟨b4, d4, rfl, _, _⟩ := slice_form hv4
    go_wp2_with fail
    have hRR := rr2 w4 _ _ X Y hv1 hv2 _ rfl
    have x1 : Ext w4 (w4.alloc (.cells #[.slice b1 X.length d1, .slice b2 Y.length d2] 26)) := (Below.refl _ _).alloc (Nat.le_refl _) _
    go_at_call 12
    refine (merge_any hRR (by simp) (by simp; omega)).mono ?_
    rintro e w5 (⟨_, v5, outT, rfl, hS, hv5, e5⟩ | ⟨hr, _⟩)
    · have hv5 : R w5 v5 outT := owns_R hv5
      have y5 := ext_trans x1 e5
      have hv3 := hv3.ext y5
      have hv4 := hv4.ext y5
      have y5 := ext_trans y4 y5
      have hST : Picked.Sel cmpI (X ++ Y) outT := by simpa using hS
      have hlT : outT.length ≤ 80 := by have h := hST.length; rw [List.length_append] at h; omega
      have hlA : outA.length ≤ 120 := by have h := hSA.length; rw [List.length_append, List.length_append] at h; omega
      clear hS x1 e5 y4 hRR hv1 hv2
      obtain ⟨b5, d5, rfl, _, _⟩ := slice_form hv5
      go_wp2_with fail
      have hRR := rr2 w5 _ _ outT Z hv5 hv3 _ rfl
      have x1 : Ext w5 (w5.alloc (.cells #[.slice b5 outT.length d5, .slice b3 Z.length d3] 26)) := (Below.refl _ _).alloc (Nat.le_refl _) _
      go_at_call 12
      refine (merge_any hRR (by simp) (by simp; omega)).mono ?_
      rintro e w6 (⟨_, v6, outG, rfl, hS, hv6, e6⟩ | ⟨hr, _⟩)
      · have hv6 : R w6 v6 outG := owns_R hv6
        have y6 := ext_trans x1 e6
        have hv4 := hv4.ext y6
        have y6 := ext_trans y5 y6
        have hSG : Picked.Sel cmpI (outT ++ Z) outG := by simpa using hS
        have hlG : outG.length ≤ 120 := by have h := hSG.length; rw [List.length_append] at h; omega
        have hEq : decide (outA = outG) = true := decide_eq_true (Picked.Sel.parts hST hSA hSG)
        clear hS x1 e6 y5 hRR hSA hST hSG
        go_wp2_with fail
        go_at_call 14
        refine (things_any hv4 hv6 (by omega) (by omega)).mono ?_
        rintro e w7 ⟨rfl, y7⟩
        rw [hEq]
        have y7 := ext_trans y6 y7
        clear y6 hEq
        go_wp2_with fail
        go_at_call 9
        refine (awake_any _).mono ?_
        rintro e w9 ⟨rfl, y9⟩
        go_wp2_with fail
        go_ret
        exact ⟨rfl, ext_trans y7 y9⟩
      · exfalso
        apply hr
        intro l hl
        simp only [List.mem_cons, List.not_mem_nil, or_false] at hl
        rcases hl with rfl | rfl
        · exact hST.rise
        · exact hrZ
    · exfalso
      apply hr
      intro l hl
      simp only [List.mem_cons, List.not_mem_nil, or_false] at hl
      rcases hl with rfl | rfl
      · exact hrX
      · exact hrY
  · have y4 := ext_trans x1 e4
    have hv1 := hv1.ext y4
    have hv2 := hv2.ext y4
    have hv3 := hv3.ext y4
    have y4 := ext_trans e3 y4
    clear x1 e3 e4 hRR
    go_wp2_with fail
    have hRR := rr2 w4 _ _ X Y hv1 hv2 _ rfl
    have x1 : Ext w4 (w4.alloc (.cells #[.slice b1 X.length d1, .slice b2 Y.length d2] 26)) := (Below.refl _ _).alloc (Nat.le_refl _) _
    go_at_call 12
    refine (merge_any hRR (by simp) (by simp; omega)).mono ?_
    rintro e w5 (⟨hr2, v5, outT, rfl, hS, hv5, e5⟩ | ⟨hr2, rfl, e5⟩)
    · have hv5 : R w5 v5 outT := owns_R hv5
      have y5 := ext_trans x1 e5
      have hv3 := hv3.ext y5
      have y5 := ext_trans y4 y5
      have hST : Picked.Sel cmpI (X ++ Y) outT := by simpa using hS
      have hlT : outT.length ≤ 80 := by have h := hST.length; rw [List.length_append] at h; omega
      clear hS x1 e5 y4 hRR hv1 hv2
      obtain ⟨b5, d5, rfl, _, _⟩ := slice_form hv5
      go_wp2_with fail
      have hRR := rr2 w5 _ _ outT Z hv5 hv3 _ rfl
      have x1 : Ext w5 (w5.alloc (.cells #[.slice b5 outT.length d5, .slice b3 Z.length d3] 26)) := (Below.refl _ _).alloc (Nat.le_refl _) _
      go_at_call 12
      refine (merge_any hRR (by simp) (by simp; omega)).mono ?_
      rintro e w6 (⟨hr3, _⟩ | ⟨_, rfl, e6⟩)
      · exfalso
        apply hr
        intro l hl
        simp only [List.mem_cons, List.not_mem_nil, or_false] at hl
        rcases hl with rfl | rfl | rfl
        · exact hr2 _ (by simp)
        · exact hr2 _ (by simp)
        · exact hr3 _ (by simp)
      · have y6 := ext_trans y5 (ext_trans x1 e6)
        clear x1 e6 y5 hRR
        go_wp2_with fail
        go_at_call 14
        refine (things_any (R.nil w6) (R.nil w6) (by simp) (by simp)).mono ?_
        rintro e w7 ⟨rfl, y7⟩
        rw [show decide (([] : List (Int × Int)) = []) = true by decide]
        have y7 := ext_trans y6 y7
        clear y6
        go_wp2_with fail
        go_at_call 9
        refine (awake_any _).mono ?_
        rintro e w9 ⟨rfl, y9⟩
        go_wp2_with fail
        go_ret
        exact ⟨rfl, ext_trans y7 y9⟩
    · have y5 := ext_trans y4 (ext_trans x1 e5)
      clear x1 e5 y4 hRR
      go_wp2_with fail
      go_at_call 9
      refine (awake_any _).mono ?_
      rintro e w9 ⟨rfl, y9⟩
      go_wp2_with fail
      go_ret
      exact ⟨rfl, ext_trans y5 y9⟩
end Go.Proofs.Ytlghkcamnfegdaa
