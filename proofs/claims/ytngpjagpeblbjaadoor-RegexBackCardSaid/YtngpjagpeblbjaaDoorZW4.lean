/-
  Walks of the tests on blanks, and of inner, the test on the bytes of a word.
-/
import Derived.Test.YtngpjagpeblbjaaDoorZW3
namespace Go.Proofs.YtngpjagpeblbjaaDoor
open Go.RowKit Go.Spy

def isBlank (c : Nat) : Bool := decide (c = 9) || decide (c = 10) || decide (c = 13) || decide (c = 32)
def allBlank (s : ByteArray) : Bool := s.data.toList.all fun c => isBlank c.toNat

theorem isBlank_lt {c : Nat} (h : isBlank c = true) : c < 128 := by
  simp [isBlank] at h; omega

theorem allBlank_no {s : ByteArray} {k : Nat} (hlt : k < s.size) (h : isBlank (s[k]'hlt).toNat = false) : allBlank s = false := by
  unfold allBlank
  rw [← Bool.not_eq_true, List.all_eq_true]
  intro hall
  have := hall (s[k]'hlt) (by have : s[k]'hlt = s.data.toList[k]'(by simpa using hlt) := rfl
                              rw [this]; exact List.getElem_mem _)
  rw [this] at h; cases h
theorem allBlank_yes {s : ByteArray} (h : ∀ j (hj : j < s.size), isBlank (s[j]'hj).toNat = true) : allBlank s = true := by
  unfold allBlank
  rw [List.all_eq_true]
  intro c hc
  obtain ⟨j, hj, rfl⟩ := List.getElem_of_mem hc
  exact h j (by simpa using hj)

set_option maxHeartbeats 400000 in
theorem blank_any (c : Nat) (w : World) :
    Calls Tryd.prog 71 #[.int .u8 c] w fun e w' => e = .returned (.bool (isBlank c)) ∧ w = w' := by
  go_enter Tryd.func71, Tryd.ntmps71
  by_cases e1 : c = 9
  · subst e1; go_wp2; all_goals (go_ret; exact ⟨ret_bool (by decide), rfl⟩)
  · have f1 : ((c : Int) == 9) = false := by simp; omega
    by_cases e2 : c = 10
    · subst e2; go_wp2; all_goals (go_ret; exact ⟨ret_bool (by decide), rfl⟩)
    · have f2 : ((c : Int) == 10) = false := by simp; omega
      by_cases e3 : c = 13
      · subst e3; go_wp2; all_goals (go_ret; exact ⟨ret_bool (by decide), rfl⟩)
      · have f3 : ((c : Int) == 13) = false := by simp; omega
        go_wp2
        all_goals (go_ret; exact ⟨ret_bool (by rw [Bool.eq_iff_iff]; simp [isBlank]; omega), rfl⟩)

set_option maxHeartbeats 400000 in
theorem all_blank (s : ByteArray) (w : World) (hs : s.size ≤ maxLen) :
    Calls Tryd.prog 41 #[.string s, .func (.func 71) #[] #[]] w fun e w' => e = .returned (.bool (allBlank s)) ∧ Ext w w' := by
  unfold maxLen at hs
  go_enter Tryd.func41, Tryd.ntmps41
  go_wp2_with fail
  go_loopg [5] s.size (fun g _ wr => ∃ k : Nat, k ≤ s.size ∧ g = s.size - k ∧ wr = w.iter s k ∧ Hid (∀ j (hj : j < s.size), j < k → isBlank (s[j]'hj).toNat = true))
  case atStart => exact ⟨0, by omega, by omega, rfl, fun j _ hj => by omega⟩
  case round =>
    obtain ⟨k, hk, rfl, rfl, HA⟩ := hrel
    by_cases hlt : k < s.size
    · cases hp : isBlank (s[k]'hlt).toNat
      · have hn := run_next_any (P := Tryd.prog) w s k
        have hF := hid (allBlank_no hlt hp)
        go_wp2_with (first | (go_at_call 71; refine (blank_any _ _).mono ?_; rintro e w' ⟨rfl, rfl⟩))
        go_ret
        exact ⟨ret_bool hF.out.symm, (Below.refl _ _).alloc (Nat.le_refl _) _⟩
      · have hn := run_next_ascii (P := Tryd.prog) w s k
        have hx := isBlank_lt hp
        go_wp2_with (first | (go_at_call 71; refine (blank_any _ _).mono ?_; rintro e w' ⟨rfl, rfl⟩))
        go_roundg (s.size - (k+1))
        case measure => omega
        case rel => exact ⟨k+1, by omega, rfl, rfl, fun j hj hjk => by
          by_cases e : j = k
          · subst e; exact hp
          · exact HA.out j hj (by omega)⟩
    · have hF := hid (allBlank_yes fun j hj => HA.out j hj (by omega))
      have hn := run_next_end (P := Tryd.prog) w s k
      go_wp2_with fail
      go_ret
      exact ⟨ret_bool hF.out.symm, (Below.refl _ _).alloc (Nat.le_refl _) _⟩

set_option maxHeartbeats 400000 in
theorem Blank_any (s : ByteArray) (w : World) (hs : s.size ≤ maxLen) :
    Calls Tryd.prog 54 #[.string s] w fun e w' => e = .returned (.bool (allBlank s)) ∧ Ext w w' := by
  go_enter Tryd.func54, Tryd.ntmps54
  go_wp2_with (first | (go_at_call 41; refine (all_blank s _ hs).mono ?_; rintro e w' ⟨rfl, hx⟩))
  go_ret
  exact ⟨rfl, hx⟩

set_option maxHeartbeats 1000000 in
theorem inner_any (c : Nat) (w : World) :
    Calls Tryd.prog 84 #[.int .u8 c] w fun e w' => e = .returned (.bool (isPart c)) ∧ w = w' := by
  go_enter Tryd.func84, Tryd.ntmps84
  by_cases e1 : c = 95
  · subst e1; go_wp2; all_goals (go_ret; exact ⟨ret_bool (by decide), rfl⟩)
  · have f1 : ((c : Int) == 95) = false := by simp; omega
    by_cases e2 : c = 45
    · subst e2; go_wp2; all_goals (go_ret; exact ⟨ret_bool (by decide), rfl⟩)
    · have f2 : ((c : Int) == 45) = false := by simp; omega
      go_wp2
      all_goals (go_ret; exact ⟨ret_bool (by rw [Bool.eq_iff_iff]; simp [isPart, isLet, isDig]; omega), rfl⟩)

end Go.Proofs.YtngpjagpeblbjaaDoor
