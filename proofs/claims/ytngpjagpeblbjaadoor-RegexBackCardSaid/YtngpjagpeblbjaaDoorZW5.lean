/-
  Walks of bits.TrailingZeros64 and of has, add, join of a set of places.
-/
import Derived.Test.YtngpjagpeblbjaaDoorZW4
import Derived.Lib.TrailingZeros
namespace Go.Proofs.YtngpjagpeblbjaaDoor
open Go.RowKit Go.Spy Go.Rx

/-- The table of de Bruijn, as it is laid. -/
def TabW (w : World) : Prop := ∃ vs t ls, w.heap[0]? = some (.cells vs t ls) ∧ ∀ j, j < 64 → vs[j]? = some (.int .u8 (Lib.deBruijn64tab.getD j 0))

theorem TabW.lt {w : World} (h : TabW w) : 0 < w.heap.size := by
  obtain ⟨vs, t, ls, h, -⟩ := h
  exact (Array.getElem?_eq_some_iff.1 h).1
theorem TabW.of_block {w w' : World} (h : TabW w) (e : w'.heap[0]? = w.heap[0]?) : TabW w' := by
  obtain ⟨vs, t, ls, h, k⟩ := h
  exact ⟨vs, t, ls, e.trans h, k⟩
theorem TabW.ext {w w' : World} (h : TabW w) (e : Ext w w') : TabW w' := h.of_block (e.block _ h.lt)
theorem TabW.chg {S : Nat → Prop} {w w' : World} (h : TabW w) (e : Chg S w w') (hS : ¬ S 0) : TabW w' := h.of_block (e.block _ h.lt hS)
theorem TabW.alloc {w : World} (h : TabW w) (o : Obj) : TabW (w.alloc o) := h.of_block (Below.heap_alloc _ _ _ h.lt)
theorem TabW.drew {w : World} (h : TabW w) : TabW w.drew := h
theorem TabW.cell {w : World} (h : TabW w) {j : Nat} (hj : j < 64) : w.cell? ⟨0, j, none⟩ = some (.int .u8 (Lib.deBruijn64tab.getD j 0)) := by
  obtain ⟨vs, t, ls, h, k⟩ := h
  rw [cell_of_row w _ j vs t ls h, k j hj]

theorem neg_u64 (x : Nat) (hx : x < 18446744073709551616) (hx0 : x ≠ 0) : IntKind.u64.wrap (-(x : Int)) = ((18446744073709551616 - x : Nat) : Int) := by
  rw [IntKind.wrap_u64]; omega
theorem tz_arith (a : Nat) : IntKind.u64.wrap ((a : Int) * 285870213051353865) / 288230376151711744 = ((a * 285870213051353865 % 18446744073709551616 / 288230376151711744 : Nat) : Int) := by
  rw [IntKind.wrap_u64, Int.natCast_ediv, Int.natCast_emod, Int.natCast_mul]
  rfl
theorem tz_key (x a : Nat) (hx : x < 18446744073709551616) (hx0 : x ≠ 0) (hlow : ∀ y, y = 18446744073709551616 - x → x &&& y = a) :
    IntKind.u64.wrap (bits BinOp.and IntKind.u64 (x : Int) (IntKind.u64.wrap (-(x : Int))) * 285870213051353865) / 288230376151711744 = ((a * 285870213051353865 % 18446744073709551616 / 288230376151711744 : Nat) : Int) := by
  obtain ⟨y, hy⟩ : ∃ y, y = 18446744073709551616 - x := ⟨_, rfl⟩
  have hn := neg_u64 x hx hx0
  rw [← hy] at hn
  have hyl : y < 18446744073709551616 := by omega
  have ha := hlow y hy
  clear hlow hy
  rw [hn, bits_and_u64_nat x y hx hyl, ha, tz_arith]

theorem bit_u64 (m k : Nat) (hm : m < 18446744073709551616) : (bits BinOp.and IntKind.u64 ((m : Int) / 2 ^ k) 1 == 1) = m.testBit k := by
  have e : ((m : Int) / 2 ^ k) = ((m / 2 ^ k : Nat) : Int) := by rw [Int.natCast_ediv, Int.natCast_pow]; rfl
  have hl : m / 2 ^ k < 18446744073709551616 := Nat.lt_of_le_of_lt (Nat.div_le_self _ _) hm
  have h1 := bits_and_u64_nat (m / 2 ^ k) 1 hl (by omega)
  rw [e, show (1 : Int) = ((1 : Nat) : Int) from rfl, h1, Nat.and_one_is_mod, Nat.testBit_eq_decide_div_mod_eq]
  rw [Bool.eq_iff_iff, beq_iff_eq, decide_eq_true_eq, Int.ofNat_inj]

set_option maxHeartbeats 1000000 in
theorem tz_core (x k idx : Nat) (w : World) (hx0 : ((x : Int) == 0) = false)
    (key : IntKind.u64.wrap (bits BinOp.and IntKind.u64 (x : Int) (IntKind.u64.wrap (-(x : Int))) * 285870213051353865) / 288230376151711744 = (idx : Int))
    (hi : idx < 64) (hk : k < 64) (hcell : w.cell? ⟨0, idx, none⟩ = some (.int .u8 k)) :
    Calls Tryd.prog 47 #[.int .u64 x] w fun e w' => e = .returned (.int .i64 k) ∧ w = w' := by
  go_enter Tryd.func47, Tryd.ntmps47
  go_wp2_with (simp only [key])
  go_ret
  exact ⟨rfl, rfl⟩

theorem low_alone' {x : Nat} (hx : x < 18446744073709551616) (hx0 : x ≠ 0) : (∀ y, y = 18446744073709551616 - x → x &&& y = 2 ^ tz x) ∧ tz x < 64 := by
  have h64 : 2 ^ 64 = 18446744073709551616 := by decide
  rw [← h64] at hx ⊢
  exact ⟨fun y hy => by rw [hy]; exact low_alone hx0 hx, tz_lt hx0 hx⟩

theorem tz_any (x : Nat) (hx : x < 18446744073709551616) (hx0 : x ≠ 0) (w : World) (hT : TabW w) :
    Calls Tryd.prog 47 #[.int .u64 x] w fun e w' => e = .returned (.int .i64 (tz x)) ∧ w = w' := by
  obtain ⟨hlow, hk⟩ := low_alone' hx hx0
  obtain ⟨hi, htab⟩ := Lib.deBruijn64_at _ hk
  have hcell := hT.cell hi
  rw [htab] at hcell
  exact tz_core x _ _ w (by simp; omega) (tz_key x _ hx hx0 hlow) hi hk hcell

set_option maxHeartbeats 1000000 in
theorem has_any (b off m at_ : Nat) (w : World) (hm : m < 18446744073709551616) (ha : at_ < 64) (hc : w.cell? ⟨b, off, none⟩ = some (.int .u64 m)) :
    Calls Tryd.prog 30 #[.pointer (some ⟨b, off, none⟩), .int .i64 at_] w fun e w' => e = .returned (.bool (m.testBit at_)) ∧ w = w' := by
  have h0 : at_ / 64 = 0 := by omega
  have hc' : w.cell? ⟨b, off + at_ / 64, none⟩ = some (.int .u64 m) := by rw [h0]; exact hc
  clear h0 hc
  go_enter Tryd.func30, Tryd.ntmps30
  go_wp2
  go_ret
  exact ⟨ret_bool (by rw [bit_u64 m _ hm, Nat.mod_eq_of_lt ha]), rfl⟩

end Go.Proofs.YtngpjagpeblbjaaDoor
