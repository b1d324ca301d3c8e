/-
  Walk of mode, for every word, the table of modes as laid.
-/
import Derived.Test.YtoknhfmgkgmlhaaDoorW4
import Derived.Laws.Rows
namespace Go.Proofs.YtoknhfmgkgmlhaaDoor
open Go.RowKit Go.Spy

def mNone : ByteArray := ⟨#[]⟩
def mGet : ByteArray := ⟨#[103, 101, 116]⟩
def mPut : ByteArray := ⟨#[112, 117, 116]⟩
def mCreate : ByteArray := ⟨#[99, 114, 101, 97, 116, 101]⟩
def mCheck : ByteArray := ⟨#[99, 104, 101, 99, 107]⟩
def mValidate : ByteArray := ⟨#[118, 97, 108, 105, 100, 97, 116, 101]⟩

/-- What the table of modes reads as. -/
structure ModesW (w : World) : Prop where
  c0 : w.cell? ⟨0, 0, none⟩ = some (.string mNone)
  c1 : w.cell? ⟨0, 1, none⟩ = some (.string mGet)
  c2 : w.cell? ⟨0, 2, none⟩ = some (.string mPut)
  c3 : w.cell? ⟨0, 3, none⟩ = some (.string mCreate)
  c4 : w.cell? ⟨0, 4, none⟩ = some (.string mCheck)
  c5 : w.cell? ⟨0, 5, none⟩ = some (.string mValidate)

theorem ModesW.pos {w : World} (h : ModesW w) : 0 < w.heap.size := by
  rcases Nat.eq_zero_or_pos w.heap.size with h0 | h'
  · have := h.c0; simp [World.cell?, h0] at this
  · exact h'
theorem ModesW.ext {w w' : World} (h : ModesW w) (e : Ext w w') : ModesW w' :=
  ⟨(e.cell (p := ⟨0, 0, none⟩) h.pos).trans h.c0, (e.cell (p := ⟨0, 1, none⟩) h.pos).trans h.c1, (e.cell (p := ⟨0, 2, none⟩) h.pos).trans h.c2,
   (e.cell (p := ⟨0, 3, none⟩) h.pos).trans h.c3, (e.cell (p := ⟨0, 4, none⟩) h.pos).trans h.c4, (e.cell (p := ⟨0, 5, none⟩) h.pos).trans h.c5⟩

def modeWord (k : Nat) : ByteArray := [mNone, mGet, mPut, mCreate, mCheck, mValidate].getD k mNone
def modeOf (s : ByteArray) : Int := if s = mGet then 1 else if s = mPut then 2 else if s = mCreate then 3 else if s = mCheck then 4 else if s = mValidate then 5 else 0

def mAgg : Value := .agg #[.string mNone, .string mGet, .string mPut, .string mCreate, .string mCheck, .string mValidate]

theorem mode_idx0 (w : World) :
    (Instr.index 42 (.agg #[.string mNone, .string mGet, .string mPut, .string mCreate, .string mCheck, .string mValidate]) (.int .i64 ((0 : Nat) : Int))).run Tryd.prog w = .ok (.string (modeWord 0)) w := by kernel_rfl
theorem mode_idx1 (w : World) :
    (Instr.index 42 (.agg #[.string mNone, .string mGet, .string mPut, .string mCreate, .string mCheck, .string mValidate]) (.int .i64 ((1 : Nat) : Int))).run Tryd.prog w = .ok (.string (modeWord 1)) w := by kernel_rfl
theorem mode_idx2 (w : World) :
    (Instr.index 42 (.agg #[.string mNone, .string mGet, .string mPut, .string mCreate, .string mCheck, .string mValidate]) (.int .i64 ((2 : Nat) : Int))).run Tryd.prog w = .ok (.string (modeWord 2)) w := by kernel_rfl
theorem mode_idx3 (w : World) :
    (Instr.index 42 (.agg #[.string mNone, .string mGet, .string mPut, .string mCreate, .string mCheck, .string mValidate]) (.int .i64 ((3 : Nat) : Int))).run Tryd.prog w = .ok (.string (modeWord 3)) w := by kernel_rfl
theorem mode_idx4 (w : World) :
    (Instr.index 42 (.agg #[.string mNone, .string mGet, .string mPut, .string mCreate, .string mCheck, .string mValidate]) (.int .i64 ((4 : Nat) : Int))).run Tryd.prog w = .ok (.string (modeWord 4)) w := by kernel_rfl
theorem mode_idx5 (w : World) :
    (Instr.index 42 (.agg #[.string mNone, .string mGet, .string mPut, .string mCreate, .string mCheck, .string mValidate]) (.int .i64 ((5 : Nat) : Int))).run Tryd.prog w = .ok (.string (modeWord 5)) w := by kernel_rfl
theorem mode_idx (k : Nat) (hk : k < 6) (w : World) :
    (Instr.index 42 (.agg #[.string mNone, .string mGet, .string mPut, .string mCreate, .string mCheck, .string mValidate]) (.int .i64 (k : Int))).run Tryd.prog w = .ok (.string (modeWord k)) w := by
  match k, hk with
  | 0, _ => exact mode_idx0 w
  | 1, _ => exact mode_idx1 w
  | 2, _ => exact mode_idx2 w
  | 3, _ => exact mode_idx3 w
  | 4, _ => exact mode_idx4 w
  | 5, _ => exact mode_idx5 w

theorem mode_hit (s : ByteArray) (k : Nat) (hk : k < 6) (h0 : 0 < k) (h : modeWord k = s) : modeOf s = (k : Int) := by
  subst h
  match k, hk, h0 with
  | 1, _, _ => rfl
  | 2, _, _ => decide
  | 3, _, _ => decide
  | 4, _, _ => decide
  | 5, _, _ => decide
theorem mode_miss (s : ByteArray) (h : ∀ k, k < 6 → 0 < k → modeWord k ≠ s) : modeOf s = 0 := by
  have h1 := h 1 (by omega) (by omega)
  have h2 := h 2 (by omega) (by omega)
  have h3 := h 3 (by omega) (by omega)
  have h4 := h 4 (by omega) (by omega)
  have h5 := h 5 (by omega) (by omega)
  simp only [modeWord, List.getD_cons_succ, List.getD_cons_zero] at h1 h2 h3 h4 h5
  simp [modeOf, Ne.symm h1, Ne.symm h2, Ne.symm h3, Ne.symm h4, Ne.symm h5]

set_option maxHeartbeats 1000000 in
theorem mode_any (s : ByteArray) (w : World) (h : ModesW w) :
    Calls Tryd.prog 12 #[.string s] w fun e w' => e = .returned (.int .i64 (modeOf s)) ∧ w = w' := by
  obtain ⟨c0, c1, c2, c3, c4, c5⟩ := h
  go_enter Tryd.func12, Tryd.ntmps12
  go_wp2_with fail
  clear c0 c1 c2 c3 c4 c5
  go_loopg [6] 6 (fun g i wr => ∃ k : Nat, k ≤ 6 ∧ g = 6 - k ∧ wr = w ∧ i = .int .i64 k ∧ Hid (∀ j, j < k → 0 < j → modeWord j ≠ s))
  case atStart => exact ⟨0, by omega, by omega, rfl, rfl, fun j hj => by omega⟩
  case round =>
    obtain ⟨k, hk, rfl, rfl, rfl, HA⟩ := hrel
    by_cases hlt : k < 6
    · have hidx := mode_idx k hlt
      by_cases h0 : 0 < k
      · by_cases he : modeWord k = s
        · have HF := hid (mode_hit s k hlt h0 he)
          have heb : ((modeWord k).toList == s.toList) = true := by simp [he]
          clear he
          go_wp2_with fail
          go_ret
          exact ⟨ret_int HF.out.symm, rfl⟩
        · have heb : ((modeWord k).toList == s.toList) = false := beqB_false he
          have HE := hid he
          clear he
          go_wp2_with fail
          go_roundg (6 - (k+1))
          case measure => omega
          case rel => exact ⟨k+1, by omega, rfl, rfl, by go_num, fun j hj hj0 => by
            by_cases e : j = k
            · subst e; exact HE.out
            · exact HA.out j (by omega) hj0⟩
      · go_wp2_with fail
        go_roundg (6 - (k+1))
        case measure => omega
        case rel => exact ⟨k+1, by omega, rfl, rfl, by go_num, fun j hj hj0 => by omega⟩
    · have HF := hid (mode_miss s fun j hj h0 => HA.out j (by omega) h0)
      go_wp2_with fail
      go_ret
      exact ⟨ret_int HF.out.symm, rfl⟩
end Go.Proofs.YtoknhfmgkgmlhaaDoor
