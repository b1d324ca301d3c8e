/-
  The queue seat: Take of nothing; New.
-/
import Derived.Test.YtlghkcamnfegdaaW14
namespace Go.Proofs.Ytlghkcamnfegdaa
open Go.RowKit Go.Spy Go.Heaped

set_option maxHeartbeats 800000 in
theorem take_none {F : Nat} {w : World} {base q bo : Nat} {d : List It} {m : Nat} {put : Int} {S : Nat → Prop} (h : PileX w base q bo F d m put S) (hd : d = []) :
    Calls Try.prog 19 #[.pointer (some ⟨q, 0, none⟩)] w fun e w' => e = .returned (.tuple #[.agg #[.int .i64 0, .int .i64 0], .int .i64 16]) ∧ Ext w w' := by
  obtain ⟨vI, vS, sw, h, hs, rfl⟩ := h
  subst hd
  obtain ⟨ao, cap, rfl, hcap, hg⟩ := slice_form h.items
  have c0 : w.cell? ⟨q, 0, none⟩ = some (.slice ao 0 cap) := h.blk.cell rfl
  have hlt := h.blk.lt
  have hlt1 : q < w.heap.size + 1 := by omega
  have hlt2 : q < w.heap.size + 1 + 1 := by omega
  have hlt3 : q < w.heap.size + 1 + 1 + 1 := by omega
  have hlt4 : q < w.heap.size + 1 + 1 + 1 + 1 := by omega
  clear h
  go_enter_defers Try.func19, Try.ntmps19
  go_wp2_with fail
  refine ⟨_, by simp [results, Try.results19, go_sem], rfl, ?_⟩
  exact (((((Below.refl _ _).alloc (Nat.le_refl _) _).alloc (by simp) _).alloc (by simp; omega) _).alloc (by simp; omega) _).alloc (by simp; omega) _

theorem func_nil (F : Nat) (w : World) : (binOp .eql 34 (.func (.func F) #[] #[]) .nilFunc).run Try.prog w = .ok (.bool false) w := by kernel_rfl

set_option maxRecDepth 100000 in
set_option maxHeartbeats 800000 in
theorem new_any (F : Nat) (w : World) :
    Calls Try.prog 16 #[.func (.func F) #[] #[]] w fun e w' => e = .returned (.tuple #[.pointer (some ⟨w.heap.size + 1, 0, none⟩), .int .i64 0]) ∧ Pile w' w.heap.size (w.heap.size + 1) w.heap.size F (.slice none 0 0) (.slice none 0 0) [] [] 0 ∧ Ext w w' := by
  have hmf : ∀ (fn : Fn) (first cap : Array Value) (w : World), (Instr.makeFunc fn first cap).run Try.prog w = .ok (.func fn first cap) w := fun _ _ _ _ => rfl
  have hfn := func_nil
  go_enter Try.func16, Try.ntmps16
  go_wp2_with fail
  go_ret2
  refine ⟨rfl, ⟨Blk.new' _ 69 _ (by simp), (Blk.new w 34 _).alloc _, World.ownsRow_nil _ _ 62 3, World.ownsRow_nil _ _ 85 2, by omega⟩, ((Below.refl _ _).alloc (Nat.le_refl _) _).alloc (by simp) _⟩
end Go.Proofs.Ytlghkcamnfegdaa
