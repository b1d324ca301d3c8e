/-
  Walks of the three tests on a byte of a name.
-/
import Derived.Test.YtoknhfmgkgmlhaaDoorRows
import Derived.Test.YtoknhfmgkgmlhaaDoorL2
namespace Go.Proofs.YtoknhfmgkgmlhaaDoor
open Go.RowKit Go.Spy


def isLet (c : Nat) : Bool := (decide (97 ≤ c) && decide (c ≤ 122)) || (decide (65 ≤ c) && decide (c ≤ 90)) || decide (c = 95)
def isDig (c : Nat) : Bool := decide (48 ≤ c) && decide (c ≤ 57)
def isPart (c : Nat) : Bool := isLet c || isDig c || decide (c = 45) || decide (c = 46)


set_option maxHeartbeats 400000 in
theorem letter_any (c : Nat) (w : World) :
    Calls Tryd.prog 18 #[.int .u8 c] w fun e w' => e = .returned (.bool (isLet c)) ∧ w = w' := by
  go_enter Tryd.func18, Tryd.ntmps18
  go_wp2
  all_goals (go_ret; exact ⟨ret_bool (by rw [Bool.eq_iff_iff]; simp [isLet]; omega), rfl⟩)

set_option maxHeartbeats 400000 in
theorem decimal_any (c : Nat) (w : World) :
    Calls Tryd.prog 21 #[.int .u8 c] w fun e w' => e = .returned (.bool (isDig c)) ∧ w = w' := by
  go_enter Tryd.func21, Tryd.ntmps21
  go_wp2
  all_goals (go_ret; exact ⟨ret_bool (by rw [Bool.eq_iff_iff]; simp [isDig]; omega), rfl⟩)

set_option maxHeartbeats 400000 in
theorem part_any (c : Nat) (w : World) :
    Calls Tryd.prog 20 #[.int .u8 c] w fun e w' => e = .returned (.bool (isPart c)) ∧ w = w' := by
  cases h1 : isLet c <;> cases h2 : isDig c
  all_goals
    go_enter Tryd.func20, Tryd.ntmps20
    go_wp2_with (first | (go_at_call 18; refine (letter_any _ _).mono ?_; rintro e w' ⟨rfl, rfl⟩) | (go_at_call 21; refine (decimal_any _ _).mono ?_; rintro e w' ⟨rfl, rfl⟩))
  all_goals (go_ret; exact ⟨ret_bool (by rw [Bool.eq_iff_iff]; simp [isPart, *]; try omega), rfl⟩)
end Go.Proofs.YtoknhfmgkgmlhaaDoor
