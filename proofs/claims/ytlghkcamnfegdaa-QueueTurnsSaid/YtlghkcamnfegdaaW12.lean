/-
  The queue seat: the deferred closures where nobody panics; how many there are; the first one.
-/
import Derived.Test.YtlghkcamnfegdaaW11
import Derived.Recover
namespace Go.Proofs.Ytlghkcamnfegdaa
open Go.RowKit Go.Spy Go.Heaped

theorem put_idle (a b c : Addr) (w : World) :
    CallsD Try.prog 29 #[.pointer (some a), .pointer (some b), .pointer (some c)] .returning w fun e u' w' => e = .returned (.tuple #[]) ∧ u' = .returning ∧ w' = w := by
  refine callsD_of_wpS Try.func29 rfl fun c₀ cs hu => ?_
  apply wpS_seq
  apply wpS_region
  simp [wpOpsS, go_sem, recoverD, hu, Try.ntmps29, Exit.thenS]
  refine wpS_cond (t := false) (by simp [Act.eval, Array.replicate]) ?_
  simp only [Bool.false_eq_true, if_false]
  refine wpS_of_wp (wp_skip ?_)
  cases c₀
  simp_all [bodyPostS, results, Try.results29]
theorem take_idle (a b c d e : Addr) (w : World) :
    CallsD Try.prog 32 #[.pointer (some a), .pointer (some b), .pointer (some c), .pointer (some d), .pointer (some e)] .returning w fun e u' w' => e = .returned (.tuple #[]) ∧ u' = .returning ∧ w' = w := by
  refine callsD_of_wpS Try.func32 rfl fun c₀ cs hu => ?_
  apply wpS_seq
  apply wpS_region
  simp [wpOpsS, go_sem, recoverD, hu, Try.ntmps32, Exit.thenS]
  refine wpS_cond (t := false) (by simp [Act.eval, Array.replicate]) ?_
  simp only [Bool.false_eq_true, if_false]
  refine wpS_of_wp (wp_skip ?_)
  cases c₀
  simp_all [bodyPostS, results, Try.results32]
theorem merge_idle (a b : Addr) (w : World) :
    CallsD Try.prog 26 #[.pointer (some a), .pointer (some b)] .returning w fun e u' w' => e = .returned (.tuple #[]) ∧ u' = .returning ∧ w' = w := by
  refine callsD_of_wpS Try.func26 rfl fun c₀ cs hu => ?_
  apply wpS_seq
  apply wpS_region
  simp [wpOpsS, go_sem, recoverD, hu, Try.ntmps26, Exit.thenS]
  refine wpS_cond (t := false) (by simp [Act.eval, Array.replicate]) ?_
  simp only [Bool.false_eq_true, if_false]
  refine wpS_of_wp (wp_skip ?_)
  cases c₀
  simp_all [bodyPostS, results, Try.results26]

theorem len_at {F : Nat} {w : World} {base q bo : Nat} {d : List It} {m : Nat} {put : Int} {S : Nat → Prop} (h : PileX w base q bo F d m put S) :
    Calls Try.prog 20 #[.pointer (some ⟨q, 0, none⟩)] w fun e w' => e = .returned (.int .i64 d.length) ∧ w' = w := by
  obtain ⟨vI, vS, sw, hp, hs, hS⟩ := h
  exact len_any hp

set_option maxHeartbeats 400000 in
theorem peek_some {F : Nat} {w : World} {base q bo : Nat} {d : List It} {m : Nat} {put : Int} {S : Nat → Prop} (h : PileX w base q bo F d m put S) (hd : 0 < d.length) :
    Calls Try.prog 22 #[.pointer (some ⟨q, 0, none⟩)] w fun e w' => e = .returned (.tuple #[.agg #[.int .i64 (g d 0).1, .int .i64 (g d 0).2.1], .int .i64 0]) ∧ Ext w w' := by
  obtain ⟨vI, vS, sw, h, hs, hS⟩ := h
  obtain ⟨ao, cap, rfl, hcap, hg⟩ := slice_form h.items
  obtain ⟨gg, rfl⟩ := hg hd
  obtain ⟨x0, x1, x2⟩ := item_cells h.items (some_g hd)
  rw [Nat.zero_mul] at x0 x1
  have c0 : w.cell? ⟨q, 0, none⟩ = some (.slice (some ⟨gg, 0, none⟩) d.length cap) := h.blk.cell rfl
  have hlt := h.blk.lt
  have hgl : gg < w.heap.size := by obtain ⟨_, hb⟩ := own_type h.items (g := gg) rfl; exact hb.lt
  have hne : ((d.length : Int) == 0) = false := by rw [beq_eq_false_iff_ne]; omega
  clear h x2
  generalize g d 0 = x at *
  go_enter Try.func22, Try.ntmps22
  go_wp2_with fail
  exact bodyPost_ret (v := .tuple #[.agg #[.int .i64 x.1, .int .i64 x.2.1], .int .i64 0]) (by simp [results, Try.results22, go_sem]) rfl ⟨rfl, ((Below.refl _ _).alloc (Nat.le_refl _) _).alloc (by simp) _⟩

set_option maxHeartbeats 400000 in
theorem peek_none {F : Nat} {w : World} {base q bo : Nat} {d : List It} {m : Nat} {put : Int} {S : Nat → Prop} (h : PileX w base q bo F d m put S) (hd : d = []) :
    Calls Try.prog 22 #[.pointer (some ⟨q, 0, none⟩)] w fun e w' => e = .returned (.tuple #[.agg #[.int .i64 0, .int .i64 0], .int .i64 16]) ∧ Ext w w' := by
  obtain ⟨vI, vS, sw, h, hs, hS⟩ := h
  subst hd
  obtain ⟨ao, cap, rfl, hcap, hg⟩ := slice_form h.items
  have c0 : w.cell? ⟨q, 0, none⟩ = some (.slice ao 0 cap) := h.blk.cell rfl
  have hlt := h.blk.lt
  clear h
  go_enter Try.func22, Try.ntmps22
  go_wp2_with fail
  exact bodyPost_ret (v := .tuple #[.agg #[.int .i64 0, .int .i64 0], .int .i64 16]) (by simp [results, Try.results22, go_sem]) rfl ⟨rfl, ((Below.refl _ _).alloc (Nat.le_refl _) _).alloc (by simp) _⟩

/-- What was told is forgotten. -/
theorem Pile.reset {F : Nat} {w : World} {base q bo n cap : Nat} {vI : Value} {ao : Option Addr} {d : List It} {sw : List (Int × Int)} {put : Int} (h : Pile w base q bo F vI (.slice ao n cap) d sw put) :
    Pile (w.setCell ⟨q, 1, none⟩ (.slice ao 0 cap)) base q bo F vI (.slice ao 0 cap) d [] put ∧ Moved (own q vI (.slice ao n cap)) (own q vI (.slice ao 0 cap)) w (w.setCell ⟨q, 1, none⟩ (.slice ao 0 cap)) := by
  have c5 : Chg (own q vI (.slice ao n cap)) w (w.setCell ⟨q, 1, none⟩ (.slice ao 0 cap)) := (Chg.refl _ w).setCell (.inl rfl) _
  have e0 : (Value.slice ao 0 cap).ownBlock = (Value.slice ao n cap).ownBlock := by cases ao <;> rfl
  refine ⟨⟨h.blk.set 1 _, h.ord.chg c5 h.bo_free, owns_setOther h.items (p := ⟨q, 1, none⟩) h.vI_q _, ?_, h.hq⟩, c5, fun k hk => .inl (by unfold own at *; rw [e0] at hk; exact hk)⟩
  refine owns_setOther ?_ (p := ⟨q, 1, none⟩) (by rw [e0]; exact h.vS_q) _
  have hs := h.swaps
  obtain ⟨ao', cap', hv, _, hg⟩ := slice_form hs
  simp only [Value.slice.injEq] at hv
  obtain ⟨rfl, rfl, rfl⟩ := hv
  rcases hs.2 with ⟨h0, _⟩ | ⟨g', cap', cur, hv, _⟩
  · simp only [Value.slice.injEq] at h0
    obtain ⟨rfl, _, rfl⟩ := h0
    exact World.ownsRow_nil w base 85 2
  · simp only [Value.slice.injEq] at hv
    obtain ⟨rfl, _, rfl⟩ := hv
    exact owns_take hs 0 (Nat.zero_le _)
theorem Pile.counted {F : Nat} {w : World} {base q bo : Nat} {vI vS : Value} {d : List It} {sw : List (Int × Int)} {put : Int} (h : Pile w base q bo F vI vS d sw put) (put' : Int) :
    Pile (w.setCell ⟨q, 3, none⟩ (.int .u64 put')) base q bo F vI vS d sw put' ∧ Moved (own q vI vS) (own q vI vS) w (w.setCell ⟨q, 3, none⟩ (.int .u64 put')) := by
  have c5 : Chg (own q vI vS) w (w.setCell ⟨q, 3, none⟩ (.int .u64 put')) := (Chg.refl _ w).setCell (.inl rfl) _
  exact ⟨⟨h.blk.set 3 _, h.ord.chg c5 h.bo_free, owns_setOther h.items (p := ⟨q, 3, none⟩) h.vI_q _, owns_setOther h.swaps (p := ⟨q, 3, none⟩) h.vS_q _, h.hq⟩, c5, fun k hk => .inl hk⟩
end Go.Proofs.Ytlghkcamnfegdaa
