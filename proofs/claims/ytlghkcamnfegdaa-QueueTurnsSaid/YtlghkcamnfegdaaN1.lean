/-
  The queue seat: a nil queue; no order.
-/
import Derived.Test.YtlghkcamnfegdaaW24
namespace Go.Proofs.Ytlghkcamnfegdaa
open Go.RowKit Go.Spy Go.Heaped

set_option maxHeartbeats 400000 in
theorem take_nil (w : World) : Calls Try.prog 19 #[.pointer none] w fun e w' => e = .returned (.tuple #[.agg #[.int .i64 0, .int .i64 0], .int .i64 2]) ∧ Ext w w' := by
  go_enter_defers Try.func19, Try.ntmps19
  go_wp2_with fail
  refine ⟨_, by simp [results, Try.results19, go_sem], rfl, ?_⟩
  exact ((((Below.refl _ _).alloc (Nat.le_refl _) _).alloc (by simp) _).alloc (by simp; omega) _).alloc (by simp; omega) _
set_option maxHeartbeats 400000 in
theorem peek_nil (w : World) : Calls Try.prog 22 #[.pointer none] w fun e w' => e = .returned (.tuple #[.agg #[.int .i64 0, .int .i64 0], .int .i64 2]) ∧ Ext w w' := by
  go_enter Try.func22, Try.ntmps22
  go_wp2_with fail
  exact bodyPost_ret (v := .tuple #[.agg #[.int .i64 0, .int .i64 0], .int .i64 2]) (by simp [results, Try.results22, go_sem]) rfl ⟨rfl, ((Below.refl _ _).alloc (Nat.le_refl _) _).alloc (by simp) _⟩
set_option maxHeartbeats 400000 in
theorem put_nil (a b : Int) (w : World) : Calls Try.prog 18 #[.pointer none, .agg #[.int .i64 a, .int .i64 b]] w fun e w' => e = .returned (.int .i64 2) ∧ Ext w w' := by
  go_enter_defers Try.func18, Try.ntmps18
  go_wp2_with fail
  refine ⟨_, by simp [results, Try.results18, go_sem], rfl, ?_⟩
  exact (((Below.refl _ _).alloc (Nat.le_refl _) _).alloc (by simp) _).alloc (by simp; omega) _
set_option maxHeartbeats 400000 in
theorem len_nil (w : World) : Calls Try.prog 20 #[.pointer none] w fun e w' => e = .returned (.int .i64 0) ∧ w' = w := by
  go_enter Try.func20, Try.ntmps20
  go_wp2_with fail
  go_ret
  exact ⟨rfl, rfl⟩
theorem nil_nil (w : World) : (binOp .eql 75 .nilFunc .nilFunc).run Try.prog w = .ok (.bool true) w := by kernel_rfl
set_option maxHeartbeats 400000 in
theorem new_nil (w : World) : Calls Try.prog 24 #[.nilFunc] w fun e w' => e = .returned (.tuple #[.pointer none, .int .i64 2]) ∧ Ext w w' := by
  have h := nil_nil
  go_enter Try.func24, Try.ntmps24
  go_wp2_with fail
  go_ret2
  exact ⟨rfl, (Below.refl _ _).alloc (Nat.le_refl _) _⟩
set_option maxHeartbeats 400000 in
theorem merge_nil (v : Value) (w : World) : Calls Try.prog 25 #[.nilFunc, v] w fun e w' => e = .returned (.tuple #[.slice none 0 0, .int .i64 2]) ∧ Ext w w' := by
  have h := nil_nil
  go_enter_defers Try.func25, Try.ntmps25
  go_wp2_with fail
  refine ⟨_, by simp [results, Try.results25, go_sem], rfl, ?_⟩
  exact ((Below.refl _ _).alloc (Nat.le_refl _) _).alloc (by simp) _

set_option maxRecDepth 100000 in
set_option maxHeartbeats 1600000 in
theorem nil_any (n : Int) (w : World) : Calls Try.prog 8 #[.int .i64 n] w fun e w' => e = .returned (.bool true) ∧ Ext w w' := by
  have hq : ∀ w : World, (binOp .eql 33 (.agg #[.int .i64 0, .int .i64 0]) (.agg #[.int .i64 0, .int .i64 0])).run Try.prog w = .ok (.bool true) w := fun w => by rw [eql33]; rfl
  go_enter Try.func8, Try.ntmps8
  go_wp2_with fail
  go_at_call 19
  refine (take_nil _).mono ?_
  rintro e w1 ⟨rfl, h1⟩
  go_wp2_with fail
  have B1 := Blk.new w1 33 #[.int .i64 0, .int .i64 0]
  have h1 := ext_trans h1 ((Below.refl _ w1).alloc (Nat.le_refl _) (.cells #[.int .i64 0, .int .i64 0] 33))
  go_at_call 22
  refine (peek_nil _).mono ?_
  rintro e w2 ⟨rfl, h2⟩
  have B1 := B1.ext h2
  have h2 := ext_trans h1 h2
  clear h1
  go_wp2_with fail
  have B2 := Blk.new w2 33 #[.int .i64 0, .int .i64 0]
  have B1 := B1.alloc (.cells #[.int .i64 0, .int .i64 0] 33)
  have h2 := ext_trans h2 ((Below.refl _ w2).alloc (Nat.le_refl _) (.cells #[.int .i64 0, .int .i64 0] 33))
  go_at_call 24
  refine (new_nil _).mono ?_
  rintro e w3 ⟨rfl, h3⟩
  have B1 := B1.ext h3
  have B2 := B2.ext h3
  have h3 := ext_trans h2 h3
  clear h2
  go_wp2_with fail
  have B1 := (B1.alloc (.cells #[.int .i64 n] 3)).alloc (.cells #[.slice (some ⟨w3.heap.size, 0, none⟩) 1 1] 25)
  have B2 := (B2.alloc (.cells #[.int .i64 n] 3)).alloc (.cells #[.slice (some ⟨w3.heap.size, 0, none⟩) 1 1] 25)
  have h3 := ext_trans h3 (((Below.refl _ w3).alloc (Nat.le_refl _) (.cells #[.int .i64 n] 3)).alloc (by simp) (.cells #[.slice (some ⟨w3.heap.size, 0, none⟩) 1 1] 25))
  go_at_call 25
  refine (merge_nil _ _).mono ?_
  rintro e w4 ⟨rfl, h4⟩
  have B1 := B1.ext h4
  have B2 := B2.ext h4
  have h4 := ext_trans h3 h4
  clear h3
  go_wp2_with fail
  go_at_call 18
  refine (put_nil _ _ _).mono ?_
  rintro e w5 ⟨rfl, h5⟩
  have B1 := B1.ext h5
  have B2 := B2.ext h5
  have h5 := ext_trans h4 h5
  clear h4
  have c0 : w5.cell? ⟨w1.heap.size, 0, none⟩ = some (.int .i64 0) := B1.cell rfl
  have c1 : w5.cell? ⟨w1.heap.size, 0 + 1, none⟩ = some (.int .i64 0) := B1.cell rfl
  have d0 : w5.cell? ⟨w2.heap.size, 0, none⟩ = some (.int .i64 0) := B2.cell rfl
  have d1 : w5.cell? ⟨w2.heap.size, 0 + 1, none⟩ = some (.int .i64 0) := B2.cell rfl
  go_wp2_with fail
  go_at_call 20
  refine (len_nil _).mono ?_
  rintro e w' ⟨rfl, rfl⟩
  go_wp2_with fail
  go_at_call 9
  refine (awake_any _).mono ?_
  rintro e w6 ⟨rfl, h6⟩
  go_wp2_with fail
  go_ret
  exact ⟨rfl, ext_trans h5 h6⟩
end Go.Proofs.Ytlghkcamnfegdaa
