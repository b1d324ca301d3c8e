/-
  Walk of few, for every list of words.
-/
import Derived.Test.YtoknhfmgkgmlhaaDoorW3
namespace Go.Proofs.YtoknhfmgkgmlhaaDoor
open Go.RowKit Go.Spy

def fewOk (ss : List ByteArray) : Bool := (ss.all fun s => decide (s.size ≤ 100)) && decide (ss.length ≤ 20)

set_option maxHeartbeats 400000 in
theorem few_any (ao : Option Addr) (cap : Nat) (ss : List ByteArray) (w : World) (h : StrsV w ao cap ss) :
    Calls Tryd.prog 7 #[.slice ao ss.length cap] w fun e w' => e = .returned (.bool (fewOk ss)) ∧ w = w' := by
  have hl := h.len
  go_enter Tryd.func7, Tryd.ntmps7
  go_wp2_with fail
  go_loopg [3] ss.length (fun g i wr => ∃ k : Nat, k ≤ ss.length ∧ g = ss.length - k ∧ wr = w ∧ i = .int .i64 k ∧ Hid (∀ j (hj : j < ss.length), j < k → ss[j].size ≤ 100))
  case atStart => exact ⟨0, by omega, by omega, rfl, rfl, fun j _ hj => by omega⟩
  case round =>
    obtain ⟨k, hk, rfl, rfl, rfl, HA⟩ := hrel
    by_cases hlt : k < ss.length
    · obtain ⟨b, off, rfl, hb, hc⟩ := h.cells (by omega)
      have hck := hc k hlt
      have hsk := h.size k hlt
      clear hc
      by_cases h100 : ss[k].size ≤ 100
      · go_wp2_with fail
        go_roundg (ss.length - (k+1))
        case measure => omega
        case rel => exact ⟨k+1, by omega, rfl, rfl, by go_num, fun j hj hjk => by
              by_cases e : j = k
              · subst e; exact h100
              · exact HA.out j hj (by omega)⟩
      · have HF : Hid (fewOk ss = false) := by
          simp only [Hid, fewOk, Bool.and_eq_false_iff, List.all_eq_false]
          exact .inl ⟨ss[k], List.getElem_mem _, by simpa using h100⟩
        go_wp2_with fail
        go_ret
        exact ⟨ret_bool HF.out.symm, rfl⟩
    · have HF : Hid (fewOk ss = decide (ss.length ≤ 20)) := by
        have : (ss.all fun s => decide (s.size ≤ 100)) = true := by
          rw [List.all_eq_true]
          intro s hs
          obtain ⟨j, hj, rfl⟩ := List.getElem_of_mem hs
          simpa using HA.out j hj (by omega)
        simp [Hid, fewOk, this]
      go_wp2_with fail
      go_ret
      exact ⟨ret_bool (by rw [HF.out, Bool.eq_iff_iff]; simp; omega), rfl⟩
end Go.Proofs.YtoknhfmgkgmlhaaDoor
