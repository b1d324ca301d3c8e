/-
  The queue seat: an item goes up.
-/
import Derived.Test.YtlghkcamnfegdaaW8
import Derived.Test.YtlghkcamnfegdaaH1
namespace Go.Proofs.Ytlghkcamnfegdaa
open Go.RowKit Go.Spy Go.Heaped

instance : Inhabited It := ⟨(0, 0, 0)⟩

section
variable {F : Nat} {w : World} {base q bo : Nat} {d : List It} {m : Nat} {put : Int} {S : Nat → Prop}
theorem PileX.ext (h : PileX w base q bo F d m put S) {w' : World} (e : Ext w w') : PileX w' base q bo F d m put S := by
  obtain ⟨vI, vS, sw, hp, hs, hS⟩ := h
  exact ⟨vI, vS, sw, hp.ext e, hs, hS⟩
theorem PileX.mono (h : PileX w base q bo F d m put S) {m' : Nat} (e : m ≤ m') : PileX w base q bo F d m' put S := by
  obtain ⟨vI, vS, sw, hp, hs, hS⟩ := h
  exact ⟨vI, vS, sw, hp, Nat.le_trans hs e, hS⟩
theorem Goes.refl (h : PileX w base q bo F d m put S) : Goes S w w base q bo F d m put := ⟨S, h, Moved.refl S w⟩

theorem less_at {f : Int → Int → Int} (O : OrdOk F f) (h : PileX w base q bo F d m put S) (a b : Int) (i j : Nat) (ha : a = i) (hb : b = j) (hi : i < d.length) (hj : j < d.length) (t : Bool) (ht : Hid (aheadB f (g d i) (g d j) = t)) :
    Calls Try.prog 64 #[.pointer (some ⟨q, 0, none⟩), .int .i64 a, .int .i64 b] w fun e w' => e = .returned (.bool t) ∧ Ext w w' := by
  obtain ⟨vI, vS, sw, hp, hs, hS⟩ := h
  subst ha hb
  rw [← ht.out]
  exact less_any O hp i j _ _ (some_g hi) (some_g hj)
theorem swap_at (h : PileX w base q bo F d m put S) (a b : Int) (i j : Nat) (ha : a = i) (hb : b = j) (hi : i < d.length) (hj : j < d.length) (hm : m + 1 ≤ 1000000000) :
    Calls Try.prog 67 #[.pointer (some ⟨q, 0, none⟩), .int .i64 a, .int .i64 b] w fun e w' => e = .returned (.tuple #[]) ∧ Goes S w w' base q bo F (swp d i j) (m + 1) put := by
  subst ha hb
  exact swap_any h i j _ _ (some_g hi) (some_g hj) hm
theorem plen_at (h : PileX w base q bo F d m put S) :
    Calls Try.prog 63 #[.pointer (some ⟨q, 0, none⟩)] w fun e w' => e = .returned (.int .i64 d.length) ∧ w' = w := by
  obtain ⟨vI, vS, sw, hp, hs, hS⟩ := h
  exact plen_any hp
end

theorem method_less (a : Addr) (w : World) : (method 215 72 (.pointer (some a)) "Less").run Try.prog w = .ok (64, .pointer (some a)) w := by kernel_rfl
theorem method_swap (a : Addr) (w : World) : (method 215 72 (.pointer (some a)) "Swap").run Try.prog w = .ok (67, .pointer (some a)) w := by kernel_rfl
theorem method_len (a : Addr) (w : World) : (method 215 72 (.pointer (some a)) "Len").run Try.prog w = .ok (63, .pointer (some a)) w := by kernel_rfl
theorem method_push (a : Addr) (w : World) : (method 215 72 (.pointer (some a)) "Push").run Try.prog w = .ok (66, .pointer (some a)) w := by kernel_rfl
theorem method_pop (a : Addr) (w : World) : (method 215 72 (.pointer (some a)) "Pop").run Try.prog w = .ok (65, .pointer (some a)) w := by kernel_rfl

def Risen (lt : It → It → Bool) (S : Nat → Prop) (w : World) (base q bo F : Nat) (d : List It) (m : Nat) (put : Int) (w' : World) : Prop :=
  ∃ d', d'.Perm d ∧ Heap lt d' d'.length ∧ Goes S w w' base q bo F d' m put
def UpAt (lt : It → It → Bool) (S : Nat → Prop) (w : World) (base q bo F : Nat) (d : List It) (m : Nat) (put : Int) (j : Nat) (v : Value) (w' : World) : Prop :=
  ∃ (k : Nat) (dk : List It), v = .int .i64 k ∧ k ≤ j ∧ dk.Perm d ∧ UpHeap lt dk dk.length k ∧ k < dk.length ∧ Goes S w w' base q bo F dk (m + (j - k)) put

set_option maxRecDepth 100000 in
set_option maxHeartbeats 800000 in
theorem up_any {F : Nat} {f : Int → Int → Int} (O : OrdOk F f) (L : Ordered (aheadB f)) {w : World} {base q bo : Nat} {d : List It} {m : Nat} {put : Int} {S : Nat → Prop} (h : PileX w base q bo F d m put S)
    (j : Nat) (hj : j < d.length) (hu : UpHeap (aheadB f) d d.length j) (hm : m + d.length ≤ 1000000000) :
    Calls Try.prog 37 #[.iface 72 (.pointer (some ⟨q, 0, none⟩)), .int .i64 j] w fun e w' => e = .returned (.tuple #[]) ∧ Risen (aheadB f) S w base q bo F d (m + j) put w' := by
  go_enter Try.func37, Try.ntmps37
  go_wp2_with fail
  go_loopw [1] (fun v wr => UpAt (aheadB f) S w base q bo F d m put j v wr) (fun v _ => (intOf v).toNat)
  case atStart => exact ⟨j, d, rfl, Nat.le_refl _, List.Perm.refl _, hu, hj, by simpa using Goes.refl h⟩
  case round =>
    obtain ⟨k, dk, rfl, hkj, hp, hu', hk, S1, hP, hM⟩ := hrel
    cases k with
    | zero =>
      go_wp2_with fail
      go_end0
      exact ⟨rfl, dk, hp, up_end hu' (.inl rfl), S1, by simpa using hP, hM⟩
    | succ k =>
      have q1 : ((k : Int) / 2 == (k : Int) + 1) = false := by rw [beq_eq_false_iff_ne]; omega
      have m1 := method_less
      have m2 := method_swap
      have hpar : par (k + 1) = k / 2 := by unfold par; simp
      have HE : Hid (par (k + 1) = k / 2) := hid hpar
      clear hpar
      cases hb : aheadB f (Heaped.g dk (k + 1)) (Heaped.g dk (k / 2))
      · have HB := hid hb
        clear hb
        go_wp2_with (go_at_call 64; refine (less_at O hP _ _ (k + 1) (k / 2) (by omega) (by omega) hk (by omega) _ HB).mono ?_; rintro e w1 ⟨rfl, h1⟩)
        go_end0
        exact ⟨rfl, dk, hp, up_end hu' (.inr (by rw [HE.out]; exact HB.out)), S1, (hP.mono (by omega)).ext h1, hM.ext h1⟩
      · have HB := hid hb
        clear hb
        go_wp2_with (first | (go_at_call 64; refine (less_at O hP _ _ (k + 1) (k / 2) (by omega) (by omega) hk (by omega) _ HB).mono ?_; rintro e w1 ⟨rfl, h1⟩; have hP1 := hP.ext h1) | (go_at_call 67; refine (swap_at hP1 _ _ (k / 2) (k + 1) (by omega) (by omega) (by omega) hk (by have := hp.length_eq; omega)).mono ?_; rintro e w2 ⟨rfl, hG⟩))
        go_roundw
        case rel =>
          obtain ⟨S2, hP2, hM2⟩ := hG
          refine ⟨k / 2, swp dk (k / 2) (k + 1), by go_num, by omega, (swp_perm dk _ _ (by omega) hk).trans hp, ?_, by rw [swp_len]; omega, S2, hP2.mono (by omega), (hM.ext h1).trans hM2⟩
          have := up_step L hu' (by omega) hk (by rw [HE.out]; exact HB.out)
          rwa [HE.out] at this
        case measure => simp [intOf]; omega
end Go.Proofs.Ytlghkcamnfegdaa
