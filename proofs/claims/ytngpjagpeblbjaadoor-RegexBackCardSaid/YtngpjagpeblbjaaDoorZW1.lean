/-
  Walks of the three tests on a byte of a name.
-/
import Derived.Test.YtngpjagpeblbjaaDoorRows
import Derived.Test.YtngpjagpeblbjaaDoorLL
import Derived.Test.YtngpjagpeblbjaaDoorTT
namespace Go.Proofs.YtngpjagpeblbjaaDoor
open Go.RowKit Go.Spy Go.Rx


def isLet (c : Nat) : Bool := (decide (97 ≤ c) && decide (c ≤ 122)) || (decide (65 ≤ c) && decide (c ≤ 90)) || decide (c = 95)
def isDig (c : Nat) : Bool := decide (48 ≤ c) && decide (c ≤ 57)
def isPart (c : Nat) : Bool := isLet c || isDig c || decide (c = 45) || decide (c = 46)


set_option maxHeartbeats 400000 in
theorem letter_any (c : Nat) (w : World) :
    Calls Tryd.prog 40 #[.int .u8 c] w fun e w' => e = .returned (.bool (isLet c)) ∧ w = w' := by
  go_enter Tryd.func40, Tryd.ntmps40
  go_wp2
  all_goals (go_ret; exact ⟨ret_bool (by rw [Bool.eq_iff_iff]; simp [isLet]; omega), rfl⟩)

set_option maxHeartbeats 400000 in
theorem decimal_any (c : Nat) (w : World) :
    Calls Tryd.prog 55 #[.int .u8 c] w fun e w' => e = .returned (.bool (isDig c)) ∧ w = w' := by
  go_enter Tryd.func55, Tryd.ntmps55
  go_wp2
  all_goals (go_ret; exact ⟨ret_bool (by rw [Bool.eq_iff_iff]; simp [isDig]; omega), rfl⟩)

set_option maxHeartbeats 400000 in
theorem part_any (c : Nat) (w : World) :
    Calls Tryd.prog 42 #[.int .u8 c] w fun e w' => e = .returned (.bool (isPart c)) ∧ w = w' := by
  cases h1 : isLet c <;> cases h2 : isDig c
  all_goals
    go_enter Tryd.func42, Tryd.ntmps42
    go_wp2_with (first | (go_at_call 40; refine (letter_any _ _).mono ?_; rintro e w' ⟨rfl, rfl⟩) | (go_at_call 55; refine (decimal_any _ _).mono ?_; rintro e w' ⟨rfl, rfl⟩))
  all_goals (go_ret; exact ⟨ret_bool (by rw [Bool.eq_iff_iff]; simp [isPart, *]; try omega), rfl⟩)
end Go.Proofs.YtngpjagpeblbjaaDoor
