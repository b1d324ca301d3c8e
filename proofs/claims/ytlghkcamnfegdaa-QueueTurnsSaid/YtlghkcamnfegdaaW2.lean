/-
  The queue seat: the order of items (rank, then number).
-/
import Derived.Test.YtlghkcamnfegdaaW1
namespace Go.Proofs.Ytlghkcamnfegdaa
open Go.RowKit Go.Spy

/-- rank, place, number -/
abbrev It := Int × Int × Int
def itemV (t : It) : Value := .agg #[.int .i64 t.1, .int .i64 t.2.1, .int .u64 t.2.2]
def aheadB (f : Int → Int → Int) (x y : It) : Bool := decide (f x.1 y.1 < 0) || (decide (f x.1 y.1 = 0) && decide (x.2.2 < y.2.2))

theorem order_is (r1 i1 r2 i2 c : Int) (HC : Hid (c = cmpI r1 r2)) (w : World) :
    Calls Try.prog 13 #[.agg #[.int .i64 r1, .int .i64 i1], .agg #[.int .i64 r2, .int .i64 i2]] w fun e w' => e = .returned (.int .i64 c) ∧ Ext w w' := by
  rw [HC.out]; exact order_any (r1, i1) (r2, i2) w

set_option maxHeartbeats 800000 in
theorem ahead13 (x y : It) (bo : Nat) (w : World) (hf : w.cell? ⟨bo, 0, none⟩ = some (.func (.func 13) #[] #[])) (hb : bo < w.heap.size) :
    Calls Try.prog 28 #[itemV x, itemV y, .pointer (some ⟨bo, 0, none⟩)] w fun e w' => e = .returned (.bool (aheadB cmpI x y)) ∧ Ext w w' := by
  obtain ⟨r1, i1, n1⟩ := x
  obtain ⟨r2, i2, n2⟩ := y
  obtain ⟨c, hc⟩ : ∃ c, c = cmpI r1 r2 := ⟨_, rfl⟩
  have HR : aheadB cmpI (r1, i1, n1) (r2, i2, n2) = (decide (c < 0) || (decide (c = 0) && decide (n1 < n2))) := by rw [hc]; rfl
  rw [HR]
  have HC := hid hc
  clear HR hc
  show Calls Try.prog 28 #[.agg #[.int .i64 r1, .int .i64 i1, .int .u64 n1], .agg #[.int .i64 r2, .int .i64 i2, .int .u64 n2], .pointer (some ⟨bo, 0, none⟩)] w _
  have h0 : Ext w ((w.alloc (.cells #[.int .i64 r1, .int .i64 i1, .int .u64 n1] 62)).alloc (.cells #[.int .i64 r2, .int .i64 i2, .int .u64 n2] 62)) :=
    ((Below.refl _ _).alloc (Nat.le_refl _) _).alloc (by simp) _
  have step : ∀ b : Bool, Hid (b = (decide (c < 0) || (decide (c = 0) && decide (n1 < n2)))) → Calls Try.prog 28 #[.agg #[.int .i64 r1, .int .i64 i1, .int .u64 n1], .agg #[.int .i64 r2, .int .i64 i2, .int .u64 n2], .pointer (some ⟨bo, 0, none⟩)] w fun e w' => e = .returned (.bool b) ∧ Ext w w' := by
    intro b HB
    rcases (show c < 0 ∨ c = 0 ∧ n1 < n2 ∨ c = 0 ∧ ¬ n1 < n2 ∨ 0 < c by omega) with k0 | ⟨rfl, k0⟩ | ⟨rfl, k0⟩ | k0
    all_goals
      first
        | (have k1 : (c == 0) = false := by rw [beq_eq_false_iff_ne]; omega)
        | skip
      go_enter Try.func28, Try.ntmps28
      go_wp2_with (go_at_call 13; refine (order_is r1 i1 r2 i2 _ HC _).mono ?_; rintro e w1 ⟨rfl, h1⟩; have c1 : w1.cell? ⟨w.heap.size, 2, none⟩ = some (.int .u64 n1) := (((Blk.new w 62 #[.int .i64 r1, .int .i64 i1, .int .u64 n1]).alloc _).ext h1).cell rfl; have c2 : w1.cell? ⟨w.heap.size + 1, 2, none⟩ = some (.int .u64 n2) := ((Blk.new' _ 62 #[.int .i64 r2, .int .i64 i2, .int .u64 n2] (by simp)).ext h1).cell rfl)
      go_ret
      exact ⟨ret_bool (by rw [HB.out]; simp <;> omega), ext_trans h0 h1⟩
  exact step _ rfl

theorem behind_is (r1 i1 r2 i2 c : Int) (HC : Hid (c = cmpI r2 r1)) (w : World) :
    Calls Try.prog 17 #[.agg #[.int .i64 r1, .int .i64 i1], .agg #[.int .i64 r2, .int .i64 i2]] w fun e w' => e = .returned (.int .i64 c) ∧ Ext w w' := by
  rw [HC.out]; exact behind_any (r1, i1) (r2, i2) w

set_option maxHeartbeats 800000 in
theorem ahead17 (x y : It) (bo : Nat) (w : World) (hf : w.cell? ⟨bo, 0, none⟩ = some (.func (.func 17) #[] #[])) (hb : bo < w.heap.size) :
    Calls Try.prog 28 #[itemV x, itemV y, .pointer (some ⟨bo, 0, none⟩)] w fun e w' => e = .returned (.bool (aheadB (fun a b => cmpI b a) x y)) ∧ Ext w w' := by
  obtain ⟨r1, i1, n1⟩ := x
  obtain ⟨r2, i2, n2⟩ := y
  obtain ⟨c, hc⟩ : ∃ c, c = cmpI r2 r1 := ⟨_, rfl⟩
  have HR : aheadB (fun a b => cmpI b a) (r1, i1, n1) (r2, i2, n2) = (decide (c < 0) || (decide (c = 0) && decide (n1 < n2))) := by rw [hc]; rfl
  rw [HR]
  have HC := hid hc
  clear HR hc
  show Calls Try.prog 28 #[.agg #[.int .i64 r1, .int .i64 i1, .int .u64 n1], .agg #[.int .i64 r2, .int .i64 i2, .int .u64 n2], .pointer (some ⟨bo, 0, none⟩)] w _
  have h0 : Ext w ((w.alloc (.cells #[.int .i64 r1, .int .i64 i1, .int .u64 n1] 62)).alloc (.cells #[.int .i64 r2, .int .i64 i2, .int .u64 n2] 62)) :=
    ((Below.refl _ _).alloc (Nat.le_refl _) _).alloc (by simp) _
  have step : ∀ b : Bool, Hid (b = (decide (c < 0) || (decide (c = 0) && decide (n1 < n2)))) → Calls Try.prog 28 #[.agg #[.int .i64 r1, .int .i64 i1, .int .u64 n1], .agg #[.int .i64 r2, .int .i64 i2, .int .u64 n2], .pointer (some ⟨bo, 0, none⟩)] w fun e w' => e = .returned (.bool b) ∧ Ext w w' := by
    intro b HB
    rcases (show c < 0 ∨ c = 0 ∧ n1 < n2 ∨ c = 0 ∧ ¬ n1 < n2 ∨ 0 < c by omega) with k0 | ⟨rfl, k0⟩ | ⟨rfl, k0⟩ | k0
    all_goals
      first
        | (have k1 : (c == 0) = false := by rw [beq_eq_false_iff_ne]; omega)
        | skip
      go_enter Try.func28, Try.ntmps28
      go_wp2_with (go_at_call 17; refine (behind_is r1 i1 r2 i2 _ HC _).mono ?_; rintro e w1 ⟨rfl, h1⟩; have c1 : w1.cell? ⟨w.heap.size, 2, none⟩ = some (.int .u64 n1) := (((Blk.new w 62 #[.int .i64 r1, .int .i64 i1, .int .u64 n1]).alloc _).ext h1).cell rfl; have c2 : w1.cell? ⟨w.heap.size + 1, 2, none⟩ = some (.int .u64 n2) := ((Blk.new' _ 62 #[.int .i64 r2, .int .i64 i2, .int .u64 n2] (by simp)).ext h1).cell rfl)
      go_ret
      exact ⟨ret_bool (by rw [HB.out]; simp <;> omega), ext_trans h0 h1⟩
  exact step _ rfl

/-- What function number F tells of two things, and what 'ahead' over it tells of two items. -/
structure OrdOk (F : Nat) (f : Int → Int → Int) : Prop where
  call : ∀ (a b : Int × Int) (w : World), Calls Try.prog F #[thingV a, thingV b] w fun e w' => e = .returned (.int .i64 (f a.1 b.1)) ∧ Ext w w'
  ahead : ∀ (x y : It) (bo : Nat) (w : World), w.cell? ⟨bo, 0, none⟩ = some (.func (.func F) #[] #[]) → bo < w.heap.size →
    Calls Try.prog 28 #[itemV x, itemV y, .pointer (some ⟨bo, 0, none⟩)] w fun e w' => e = .returned (.bool (aheadB f x y)) ∧ Ext w w'
theorem ord13 : OrdOk 13 cmpI := ⟨order_any, ahead13⟩
theorem ord17 : OrdOk 17 (fun a b => cmpI b a) := ⟨behind_any, ahead17⟩
end Go.Proofs.Ytlghkcamnfegdaa
