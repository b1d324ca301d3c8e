/-
  Walks of add and join of a set of places, of which only the first word is not 0.
-/
import Derived.Test.YtngpjagpeblbjaaDoorZW5
import Derived.BigRegion
namespace Go.Proofs.YtngpjagpeblbjaaDoor
open Go.RowKit Go.Spy Go.Rx

theorem shl_lt {k : Nat} (hk : k < 64) : (1 <<< k : Nat) < 18446744073709551616 := by
  have h64 : 2 ^ 64 = 18446744073709551616 := by decide
  rw [Nat.one_shiftLeft, ← h64]
  exact Nat.pow_lt_pow_right (by decide) hk
theorem or_one (m k : Nat) (hm : m < 18446744073709551616) (hk : k < 64) : bits BinOp.or IntKind.u64 (m : Int) (IntKind.u64.wrap (2 ^ (k % 64))) = ((m ||| 1 <<< k : Nat) : Int) := by
  have e : IntKind.u64.wrap (2 ^ (k % 64)) = ((1 <<< k : Nat) : Int) := by
    have h := shl_lt hk
    have h2 : (2 : Int) ^ (k % 64) = ((1 <<< k : Nat) : Int) := by rw [Nat.mod_eq_of_lt hk, Nat.one_shiftLeft, Int.natCast_pow]; rfl
    rw [h2, IntKind.wrap_u64]
    generalize (1 <<< k : Nat) = y at *
    omega
  rw [e, bits_or_u64_nat m _ hm (shl_lt hk)]

set_option maxHeartbeats 1000000 in
theorem add_any (b off m at_ : Nat) (t : TypeId) (vs : Array Value) (w : World) (hm : m < 18446744073709551616) (ha : at_ < 64) (hB : Blk w b t vs) (hv : vs[off]? = some (.int .u64 m)) :
    Calls Tryd.prog 44 #[.pointer (some ⟨b, off, none⟩), .int .i64 at_] w fun e w' => e = .returned (.tuple #[]) ∧ Blk w' b t (vs.setIfInBounds off (.int .u64 (m ||| 1 <<< at_ : Nat))) ∧ Chg (· = b) w w' := by
  have h0 : at_ / 64 = 0 := by omega
  have hc' : w.cell? ⟨b, off + at_ / 64, none⟩ = some (.int .u64 m) := by rw [h0]; exact hB.cell hv
  have hf := hB.frozen
  have HB := hid hB
  clear h0 hv hB
  go_enter Tryd.func44, Tryd.ntmps44
  go_wp2_with fail
  go_region
  go_end0
  have h0 : at_ / 64 = 0 := by omega
  rw [or_one m at_ hm ha, h0]
  exact ⟨rfl, (HB.out.set off _).drew, Chg.drew (Chg.setCell (S := (· = b)) (p := ⟨b, off + 0, none⟩) (Chg.refl _ w) rfl _)⟩

end Go.Proofs.YtngpjagpeblbjaaDoor
