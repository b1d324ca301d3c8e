/-
  Walk of join of a set of places, of which only the first word is not 0.
-/
import Derived.Test.YtngpjagpeblbjaaDoorZW6
namespace Go.Proofs.YtngpjagpeblbjaaDoor
open Go.RowKit Go.Spy Go.Rx

/-- A word of a set of places, of which only the first one is not 0. -/
def plG (m i : Nat) : Nat := if i = 0 then m else 0

theorem plG_or (m m2 i : Nat) : plG m i ||| plG m2 i = plG (m ||| m2) i := by
  unfold plG; split <;> simp
theorem plG_lt {m i : Nat} (hm : m < 18446744073709551616) : plG m i < 18446744073709551616 := by
  unfold plG; split
  · exact hm
  · decide

theorem cell_of_chg {S : Nat → Prop} {w w' : World} {a : Addr} (e : Chg S w w') (h : a.block < w.heap.size) (hS : ¬ S a.block) : w'.cell? a = w.cell? a := by
  unfold World.cell?; rw [e.block _ h hS]

/-- The first k words joined. -/
def joined (vs : Array Value) (off m : Nat) : Nat → Array Value
  | 0 => vs
  | k + 1 => (joined vs off m k).setIfInBounds (off + k) (.int .u64 (plG m k))

theorem joined_far (vs : Array Value) (off m k j : Nat) (h : k ≤ j) : (joined vs off m k)[off + j]? = vs[off + j]? := by
  induction k with
  | zero => rfl
  | succ k ih =>
    rw [joined, Array.getElem?_setIfInBounds_ne (by omega), ih (by omega)]

theorem joined_end (vs : Array Value) (off m m2 k : Nat) (hv : ∀ i, i < k + 1 → vs[off + i]? = some (.int .u64 (plG m i))) : joined vs off m2 (k + 1) = vs.setIfInBounds off (.int .u64 m2) := by
  induction k with
  | zero => rfl
  | succ k ih =>
    rw [joined, ih fun i hi => hv i (by omega)]
    have h1 := hv (k + 1) (by omega)
    have h2 : (vs.setIfInBounds off (.int .u64 m2))[off + (k + 1)]? = some (.int .u64 (plG m2 (k + 1))) := by
      rw [Array.getElem?_setIfInBounds_ne (by omega), h1]; rfl
    refine Array.ext_getElem? fun i => ?_
    by_cases e : off + (k + 1) = i
    · subst e
      rw [h2, Array.getElem?_setIfInBounds_self]
      rw [if_pos (by have := (Array.getElem?_eq_some_iff.1 h2).1; exact this)]
    · rw [Array.getElem?_setIfInBounds_ne e]

set_option maxHeartbeats 1000000 in
theorem join_any (b off m b2 off2 m2 : Nat) (t : TypeId) (vs : Array Value) (w : World) (hm : m < 18446744073709551616) (hm2 : m2 < 18446744073709551616) (hne : b2 ≠ b) (hB : Blk w b t vs)
    (hv : ∀ i, i < 16 → vs[off + i]? = some (.int .u64 (plG m i))) (hc : ∀ i, i < 16 → w.cell? ⟨b2, off2 + i, none⟩ = some (.int .u64 (plG m2 i))) :
    Calls Tryd.prog 28 #[.pointer (some ⟨b, off, none⟩), .pointer (some ⟨b2, off2, none⟩)] w fun e w' => e = .returned (.tuple #[]) ∧ Blk w' b t (vs.setIfInBounds off (.int .u64 (m ||| m2 : Nat))) ∧ Chg (· = b) w w' := by
  have HB := hid hB
  have HV := hid hv
  have HC := hid hc
  clear hB hv hc
  go_enter Tryd.func28, Tryd.ntmps28
  go_wp2_with fail
  go_loopg [7] 16 (fun g i wr => ∃ k : Nat, k ≤ 16 ∧ g = 16 - k ∧ i = .int .i64 k ∧ Hid (Blk wr b t (joined vs off (m ||| m2) k)) ∧ Hid (Chg (· = b) w wr))
  case atStart => exact ⟨0, by omega, rfl, rfl, HB, hid (Chg.refl _ w)⟩
  case round =>
    obtain ⟨k, hk, rfl, rfl, HK, HX⟩ := hrel
    by_cases hlt : k < 16
    · have c2 : wr.cell? ⟨b2, off2 + k, none⟩ = some (.int .u64 (plG m2 k)) := by
        have h2 := HC.out k hlt
        rw [← h2]
        exact cell_of_chg HX.out (block_lt_of_cell h2) hne
      have c1 : wr.cell? ⟨b, off + k, none⟩ = some (.int .u64 (plG m k)) := HK.out.cell (by rw [joined_far _ _ _ _ _ (Nat.le_refl k)]; exact HV.out k hlt)
      have hf := HK.out.frozen
      have ho := bits_or_u64_nat _ _ (plG_lt (i := k) hm) (plG_lt (i := k) hm2)
      rw [plG_or] at ho
      go_wp2_with fail
      go_region
      go_wp2_with fail
      go_region
      go_wp2_with fail
      go_roundg (16 - (k+1))
      case measure => omega
      case rel =>
        refine ⟨k+1, by omega, rfl, by go_num, hid ?_, hid ?_⟩
        · exact (HK.out.set (off + k) _).drew.drew
        · exact Chg.drew (Chg.drew (Chg.setCell (p := ⟨b, off + k, none⟩) HX.out rfl _))
    · obtain rfl : k = 16 := by omega
      go_wp2_with fail
      go_end0
      rw [← joined_end vs off m (m ||| m2) 15 (by simpa using HV.out)]
      exact ⟨rfl, HK.out, HX.out⟩

end Go.Proofs.YtngpjagpeblbjaaDoor
