/-
  The queue seat: contracts of the two orders.
-/
import Derived.Test.YtlghkcamnfegdaaL2
import Derived.Test.YtlghkcamnfegdaaRows
namespace Go.Proofs.Ytlghkcamnfegdaa
open Go.RowKit Go.Spy

def cmpI (a b : Int) : Int := if a < b then -1 else if b < a then 1 else 0
def thingV (t : Int × Int) : Value := .agg #[.int .i64 t.1, .int .i64 t.2]

set_option maxHeartbeats 400000 in
theorem order_any (a b : Int × Int) (w : World) :
    Calls Try.prog 13 #[thingV a, thingV b] w fun e w' => e = .returned (.int .i64 (cmpI a.1 b.1)) ∧ Ext w w' := by
  obtain ⟨r1, i1⟩ := a
  obtain ⟨r2, i2⟩ := b
  have h0 : Ext w ((w.alloc (.cells #[.int .i64 r1, .int .i64 i1] 33)).alloc (.cells #[.int .i64 r2, .int .i64 i2] 33)) :=
    ((Below.refl _ _).alloc (Nat.le_refl _) _).alloc (by simp) _
  show Calls Try.prog 13 #[.agg #[.int .i64 r1, .int .i64 i1], .agg #[.int .i64 r2, .int .i64 i2]] w _
  by_cases h1 : r1 < r2
  · have HR : Hid (cmpI r1 r2 = -1) := by simp [Hid, cmpI, h1]
    go_enter Try.func13, Try.ntmps13
    go_wp2_with fail
    go_ret
    exact ⟨ret_int HR.out.symm, h0⟩
  · by_cases h2 : r2 < r1
    · have HR : Hid (cmpI r1 r2 = 1) := by simp [Hid, cmpI, h1, h2]
      go_enter Try.func13, Try.ntmps13
      go_wp2_with fail
      go_ret
      exact ⟨ret_int HR.out.symm, h0⟩
    · have HR : Hid (cmpI r1 r2 = 0) := by simp [Hid, cmpI, h1, h2]
      go_enter Try.func13, Try.ntmps13
      go_wp2_with fail
      go_ret
      exact ⟨ret_int HR.out.symm, h0⟩

set_option maxHeartbeats 400000 in
theorem behind_any (a b : Int × Int) (w : World) :
    Calls Try.prog 17 #[thingV a, thingV b] w fun e w' => e = .returned (.int .i64 (cmpI b.1 a.1)) ∧ Ext w w' := by
  obtain ⟨r1, i1⟩ := a
  obtain ⟨r2, i2⟩ := b
  show Calls Try.prog 17 #[.agg #[.int .i64 r1, .int .i64 i1], .agg #[.int .i64 r2, .int .i64 i2]] w _
  have h0 : Ext w ((w.alloc (.cells #[.int .i64 r1, .int .i64 i1] 33)).alloc (.cells #[.int .i64 r2, .int .i64 i2] 33)) :=
    ((Below.refl _ _).alloc (Nat.le_refl _) _).alloc (by simp) _
  go_enter Try.func17, Try.ntmps17
  go_wp2_with (go_at_call 13; refine (order_any (r2, i2) (r1, i1) _).mono ?_; rintro e w1 ⟨rfl, h1⟩)
  go_ret
  exact ⟨rfl, ext_trans h0 h1⟩
end Go.Proofs.Ytlghkcamnfegdaa
