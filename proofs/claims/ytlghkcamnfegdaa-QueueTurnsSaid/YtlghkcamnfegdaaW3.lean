/-
  The queue seat: a queue in memory; how many there are.
-/
import Derived.Test.YtlghkcamnfegdaaW2
import Derived.Test.YtlghkcamnfegdaaL3
namespace Go.Proofs.Ytlghkcamnfegdaa
open Go.RowKit Go.Spy

def itemC (x : It) : List Value := [.int .i64 x.1, .int .i64 x.2.1, .int .u64 x.2.2]
def pairC (x : Int × Int) : List Value := [.int .i64 x.1, .int .i64 x.2]

/-- A queue as it lies in memory: its block, the box of its order, its items, what was swapped. -/
structure Pile (w : World) (base q bo : Nat) (F : Nat) (vI vS : Value) (d : List It) (sw : List (Int × Int)) (put : Int) : Prop where
  blk : Blk w q 69 #[vI, vS, .func (.func 28) #[] #[.pointer (some ⟨bo, 0, none⟩)], .int .u64 put]
  ord : Blk w bo 34 #[.func (.func F) #[] #[]]
  items : w.ownsRow base 62 3 vI d.length (d.flatMap itemC)
  swaps : w.ownsRow base 85 2 vS sw.length (sw.flatMap pairC)
  hq : base ≤ q

/-- The blocks that a queue holds. -/
def own (q : Nat) (vI vS : Value) (k : Nat) : Prop := k = q ∨ vI.ownBlock = some k ∨ vS.ownBlock = some k

theorem slice_form {w : World} {base n size : Nat} {e : TypeId} {v : Value} {xs : List Value} (h : w.ownsRow base e size v n xs) : ∃ ao cap, v = .slice ao n cap ∧ n ≤ cap ∧ (0 < n → ∃ g, ao = some ⟨g, 0, none⟩) := by
  rcases h.2 with ⟨rfl, rfl⟩ | ⟨g, cap, cur, rfl, _, _, hnc, _⟩
  · exact ⟨none, 0, rfl, Nat.le_refl _, fun h => by omega⟩
  · exact ⟨_, cap, rfl, hnc, fun _ => ⟨g, rfl⟩⟩

set_option maxHeartbeats 400000 in
theorem plen_any {w : World} {base q bo F : Nat} {vI vS : Value} {d : List It} {sw : List (Int × Int)} {put : Int} (h : Pile w base q bo F vI vS d sw put) :
    Calls Try.prog 63 #[.pointer (some ⟨q, 0, none⟩)] w fun e w' => e = .returned (.int .i64 d.length) ∧ w' = w := by
  obtain ⟨ao, cap, rfl, _, _⟩ := slice_form h.items
  have c0 : w.cell? ⟨q, 0, none⟩ = some (.slice ao d.length cap) := h.blk.cell rfl
  go_enter Try.func63, Try.ntmps63
  go_wp2_with fail
  go_ret
  exact ⟨rfl, rfl⟩

set_option maxHeartbeats 400000 in
theorem len_any {w : World} {base q bo F : Nat} {vI vS : Value} {d : List It} {sw : List (Int × Int)} {put : Int} (h : Pile w base q bo F vI vS d sw put) :
    Calls Try.prog 20 #[.pointer (some ⟨q, 0, none⟩)] w fun e w' => e = .returned (.int .i64 d.length) ∧ w' = w := by
  obtain ⟨ao, cap, rfl, _, _⟩ := slice_form h.items
  have c0 : w.cell? ⟨q, 0, none⟩ = some (.slice ao d.length cap) := h.blk.cell rfl
  go_enter Try.func20, Try.ntmps20
  go_wp2_with fail
  go_ret
  exact ⟨rfl, rfl⟩
end Go.Proofs.Ytlghkcamnfegdaa
