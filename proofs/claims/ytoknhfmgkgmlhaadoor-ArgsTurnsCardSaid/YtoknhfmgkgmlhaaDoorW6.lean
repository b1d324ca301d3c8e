/-
  Walk of may, for every command.
-/
import Derived.Test.YtoknhfmgkgmlhaaDoorW5
namespace Go.Proofs.YtoknhfmgkgmlhaaDoor
open Go.RowKit Go.Spy

structure Cmd where
  mode : Int
  root : ByteArray
  view : Bool
  quiet : Bool

def Cmd.val (c : Cmd) : Value := .agg #[.int .i64 c.mode, .string c.root, .bool c.view, .bool c.quiet]
def mayB (c : Cmd) : Bool := decide (1 ≤ c.mode) && decide (c.mode ≤ 5) && (c.root.toList.isEmpty || nameOk c.root) && (!c.view || decide (c.mode = 5))

set_option maxHeartbeats 1000000 in
theorem may_any (m : Int) (r : ByteArray) (v q : Bool) (w : World) (hr : r.size ≤ maxLen) :
    Calls Tryd.prog 10 #[.agg #[.int .i64 m, .string r, .bool v, .bool q]] w fun e w' => e = .returned (.bool (mayB ⟨m, r, v, q⟩)) ∧ Ext w w' := by
  by_cases h1 : 1 ≤ m
  · by_cases h2 : m ≤ 5
    · cases h3 : r.toList.isEmpty
      · cases h4 : nameOk r
        · have HF : Hid (mayB ⟨m, r, v, q⟩ = false) := by simp [Hid, mayB, h3, h4]
          go_enter Tryd.func10, Tryd.ntmps10
          go_wp2_with (first | (go_at_call 17; refine (name_any r _ hr).mono ?_; rintro e w' ⟨rfl, rfl⟩))
          go_ret
          exact ⟨ret_bool HF.out.symm, (Below.refl _ _).alloc (Nat.le_refl _) _⟩
        · cases v
          · have HF : Hid (mayB ⟨m, r, false, q⟩ = true) := by simp [Hid, mayB, h4, h1, h2]
            go_enter Tryd.func10, Tryd.ntmps10
            go_wp2_with (first | (go_at_call 17; refine (name_any r _ hr).mono ?_; rintro e w' ⟨rfl, rfl⟩))
            go_ret
            exact ⟨ret_bool HF.out.symm, (Below.refl _ _).alloc (Nat.le_refl _) _⟩
          · have HF : Hid (mayB ⟨m, r, true, q⟩ = decide (m = 5)) := by simp [Hid, mayB, h4, h1, h2]
            go_enter Tryd.func10, Tryd.ntmps10
            go_wp2_with (first | (go_at_call 17; refine (name_any r _ hr).mono ?_; rintro e w' ⟨rfl, rfl⟩))
            go_ret
            exact ⟨ret_bool (by rw [HF.out, Bool.eq_iff_iff]; simp), (Below.refl _ _).alloc (Nat.le_refl _) _⟩
      · cases v
        · have HF : Hid (mayB ⟨m, r, false, q⟩ = true) := by simp [Hid, mayB, h3, h1, h2]
          go_enter Tryd.func10, Tryd.ntmps10
          go_wp2_with fail
          go_ret
          exact ⟨ret_bool HF.out.symm, (Below.refl _ _).alloc (Nat.le_refl _) _⟩
        · have HF : Hid (mayB ⟨m, r, true, q⟩ = decide (m = 5)) := by simp [Hid, mayB, h3, h1, h2]
          go_enter Tryd.func10, Tryd.ntmps10
          go_wp2_with fail
          go_ret
          exact ⟨ret_bool (by rw [HF.out, Bool.eq_iff_iff]; simp), (Below.refl _ _).alloc (Nat.le_refl _) _⟩
    · have HF : Hid (mayB ⟨m, r, v, q⟩ = false) := by simp [Hid, mayB, h2]
      go_enter Tryd.func10, Tryd.ntmps10
      go_wp2_with fail
      go_ret
      exact ⟨ret_bool HF.out.symm, (Below.refl _ _).alloc (Nat.le_refl _) _⟩
  · have HF : Hid (mayB ⟨m, r, v, q⟩ = false) := by simp [Hid, mayB, h1]
    go_enter Tryd.func10, Tryd.ntmps10
    go_wp2_with fail
    go_ret
    exact ⟨ret_bool HF.out.symm, (Below.refl _ _).alloc (Nat.le_refl _) _⟩
end Go.Proofs.YtoknhfmgkgmlhaaDoor
