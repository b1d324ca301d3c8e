/-
  Walk of part, the closure of formed.
-/
import Derived.Test.YtngpjagpeblbjaaDoorZW12
import Derived.Deep.OwnRows
namespace Go.Proofs.YtngpjagpeblbjaaDoor
open Go.RowKit Go.Spy Go.Rx

def BoolPost (w : World) (b : Bool) (e : Ending) (w' : World) : Prop := e = .returned (.bool b) ∧ w = w'

set_option maxHeartbeats 400000 in
theorem part_no (at_ : Int) (bi i : Nat) (pu : Value) (w : World) (hi : w.cell? ⟨bi, 0, none⟩ = some (.int .i64 i)) (h : inR i at_ = false) :
    Calls Tryd.prog 39 #[.int .i64 at_, .pointer (some ⟨bi, 0, none⟩), pu] w fun e w' => e = .returned (.bool false) ∧ w = w' := by
  have hh : at_ < 0 ∨ (0 ≤ at_ ∧ (i : Int) ≤ at_) := by
    rcases Int.lt_or_le at_ 0 with h1 | h1
    · exact .inl h1
    · refine .inr ⟨h1, ?_⟩
      simp [inR, h1] at h; exact h
  clear h
  rcases hh with h | ⟨h1, h2⟩
  · have t : decide (at_ < 0) = true := by simp [h]
    go_enter Tryd.func39, Tryd.ntmps39
    go_wp2
    go_ret
    exact ⟨rfl, rfl⟩
  · have t : decide (at_ < 0) = false := by simp; omega
    have t2 : decide ((i : Int) ≤ at_) = true := by simp [h2]
    go_enter Tryd.func39, Tryd.ntmps39
    go_wp2
    go_ret
    exact ⟨rfl, rfl⟩

set_option maxHeartbeats 400000 in
theorem part_yes (a bi i bu bU n c : Nat) (t : TypeId) (vs : Array Value) (w : World) (hi : w.cell? ⟨bi, 0, none⟩ = some (.int .i64 i)) (hu : w.cell? ⟨bu, 0, none⟩ = some (.slice (some ⟨bU, 0, none⟩) n n))
    (ha : a < i) (hn : i ≤ n) (hN : n ≤ 1024) (hB : Blk w bU t vs) (hc : vs[a]? = some (.int .i64 c)) (hC : c ≤ 1000000) :
    Calls Tryd.prog 39 #[.int .i64 a, .pointer (some ⟨bi, 0, none⟩), .pointer (some ⟨bu, 0, none⟩)] w fun e w' =>
      e = .returned (.bool true) ∧ Blk w' bU t (vs.setIfInBounds a (.int .i64 (c + 1 : Nat))) ∧ Chg (· = bU) w w' := by
  have t1 : decide ((a : Int) < 0) = false := by simp
  have t2 : decide (i ≤ a) = false := by simp; omega
  have han : a < n := by omega
  have k1 := hB.cell hc
  have k2 := hB.frozen a
  have HB := hid hB
  clear hB hc
  go_enter Tryd.func39, Tryd.ntmps39
  go_wp2
  go_ret
  exact ⟨rfl, HB.out.set a _, Chg.setCell (S := (· = bU)) (Chg.refl _ w) rfl _⟩

theorem part_yes' (at_ : Int) (a : Nat) (hat : at_ = a) (bi i bu bU n c : Nat) (t : TypeId) (vs : Array Value) (w : World) (hi : w.cell? ⟨bi, 0, none⟩ = some (.int .i64 i)) (hu : w.cell? ⟨bu, 0, none⟩ = some (.slice (some ⟨bU, 0, none⟩) n n))
    (ha : a < i) (hn : i ≤ n) (hN : n ≤ 1024) (hB : Blk w bU t vs) (hc : vs[a]? = some (.int .i64 c)) (hC : c ≤ 1000000) :
    Calls Tryd.prog 39 #[.int .i64 at_, .pointer (some ⟨bi, 0, none⟩), .pointer (some ⟨bu, 0, none⟩)] w fun e w' =>
      e = .returned (.bool true) ∧ Blk w' bU t (vs.setIfInBounds a (.int .i64 (c + 1 : Nat))) ∧ Chg (· = bU) w w' := by
  subst hat
  exact part_yes a bi i bu bU n c t vs w hi hu ha hn hN hB hc hC

end Go.Proofs.YtngpjagpeblbjaaDoor
