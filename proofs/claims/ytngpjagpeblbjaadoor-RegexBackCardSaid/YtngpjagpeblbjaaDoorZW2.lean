/-
  Walks of names.all and names.Is: what a name is, for every text.
-/
import Derived.Test.YtngpjagpeblbjaaDoorZW1
namespace Go.Proofs.YtngpjagpeblbjaaDoor
open Go.RowKit Go.Spy

def allPart (s : ByteArray) : Bool := s.data.toList.all fun c => isPart c.toNat
def nameOk (s : ByteArray) : Bool := decide (1 ≤ s.size) && decide (s.size ≤ 64) && (match s.data.toList with | c :: _ => isLet c.toNat | [] => false) && allPart s

theorem isPart_lt {c : Nat} (h : isPart c = true) : c < 128 := by
  simp [isPart, isLet, isDig] at h; omega

theorem allPart_no {s : ByteArray} {k : Nat} (hlt : k < s.size) (h : isPart (s[k]'hlt).toNat = false) : allPart s = false := by
  unfold allPart
  rw [← Bool.not_eq_true, List.all_eq_true]
  intro hall
  have := hall (s[k]'hlt) (by have : s[k]'hlt = s.data.toList[k]'(by simpa using hlt) := rfl
                              rw [this]; exact List.getElem_mem _)
  rw [this] at h; cases h
theorem allPart_yes {s : ByteArray} (h : ∀ j (hj : j < s.size), isPart (s[j]'hj).toNat = true) : allPart s = true := by
  unfold allPart
  rw [List.all_eq_true]
  intro c hc
  obtain ⟨j, hj, rfl⟩ := List.getElem_of_mem hc
  exact h j (by simpa using hj)

set_option maxHeartbeats 400000 in
theorem all_part (s : ByteArray) (w : World) (hs : s.size ≤ maxLen) :
    Calls Tryd.prog 41 #[.string s, .func (.func 42) #[] #[]] w fun e w' => e = .returned (.bool (allPart s)) ∧ Ext w w' := by
  unfold maxLen at hs
  go_enter Tryd.func41, Tryd.ntmps41
  go_wp2_with fail
  go_loopg [5] s.size (fun g _ wr => ∃ k : Nat, k ≤ s.size ∧ g = s.size - k ∧ wr = w.iter s k ∧ Hid (∀ j (hj : j < s.size), j < k → isPart (s[j]'hj).toNat = true))
  case atStart => exact ⟨0, by omega, by omega, rfl, fun j _ hj => by omega⟩
  case round =>
    obtain ⟨k, hk, rfl, rfl, HA⟩ := hrel
    by_cases hlt : k < s.size
    · cases hp : isPart (s[k]'hlt).toNat
      · have hn := run_next_any (P := Tryd.prog) w s k
        have hF := hid (allPart_no hlt hp)
        go_wp2_with (first | (go_at_call 42; refine (part_any _ _).mono ?_; rintro e w' ⟨rfl, rfl⟩))
        go_ret
        exact ⟨ret_bool hF.out.symm, (Below.refl _ _).alloc (Nat.le_refl _) _⟩
      · have hn := run_next_ascii (P := Tryd.prog) w s k
        have hx := isPart_lt hp
        go_wp2_with (first | (go_at_call 42; refine (part_any _ _).mono ?_; rintro e w' ⟨rfl, rfl⟩))
        go_roundg (s.size - (k+1))
        case measure => omega
        case rel => exact ⟨k+1, by omega, rfl, rfl, fun j hj hjk => by
          by_cases e : j = k
          · subst e; exact hp
          · exact HA.out j hj (by omega)⟩
    · have hF := hid (allPart_yes fun j hj => HA.out j hj (by omega))
      have hn := run_next_end (P := Tryd.prog) w s k
      go_wp2_with fail
      go_ret
      exact ⟨ret_bool hF.out.symm, (Below.refl _ _).alloc (Nat.le_refl _) _⟩

theorem nameOk_head {s : ByteArray} (h : 0 < s.size) : (match s.data.toList with | c :: _ => isLet c.toNat | [] => false) = isLet (s[0]'h).toNat := by
  obtain ⟨⟨l⟩⟩ := s
  cases l with
  | nil => simp [ByteArray.size] at h
  | cons c r => rfl

set_option maxHeartbeats 400000 in
theorem is_any (s : ByteArray) (w : World) (hs : s.size ≤ maxLen) :
    Calls Tryd.prog 22 #[.string s] w fun e w' => e = .returned (.bool (nameOk s)) ∧ Ext w w' := by
  have hA := all_part s
  by_cases h1 : 1 ≤ s.size
  · by_cases h2 : s.size ≤ 64
    · have hh := nameOk_head (s := s) (by omega)
      cases h3 : isLet (s[0]'(by omega)).toNat
      · have hF : Hid (nameOk s = false) := by rw [nameOk, hh, h3]; simp [Hid]
        clear hh
        go_enter Tryd.func22, Tryd.ntmps22
        go_wp2_with (first | (go_at_call 40; refine (letter_any _ _).mono ?_; rintro e w' ⟨rfl, rfl⟩) | (go_at_call 41; refine (all_part s _ hs).mono ?_; rintro e w' ⟨rfl, hx⟩))
        go_ret
        exact ⟨ret_bool hF.out.symm, Below.refl _ _⟩
      · have hF : Hid (nameOk s = allPart s) := by rw [nameOk, hh, h3]; simp [Hid, h1, h2]
        clear hh
        go_enter Tryd.func22, Tryd.ntmps22
        go_wp2_with (first | (go_at_call 40; refine (letter_any _ _).mono ?_; rintro e w' ⟨rfl, rfl⟩) | (go_at_call 41; refine (all_part s _ hs).mono ?_; rintro e w' ⟨rfl, hx⟩))
        go_ret
        exact ⟨ret_bool hF.out.symm, hx⟩
    · have hF : Hid (nameOk s = false) := by simp [Hid, nameOk, h2]
      go_enter Tryd.func22, Tryd.ntmps22
      go_wp2_with fail
      go_ret
      exact ⟨ret_bool hF.out.symm, Below.refl _ _⟩
  · have hF : Hid (nameOk s = false) := by simp [Hid, nameOk, h1]
    go_enter Tryd.func22, Tryd.ntmps22
    go_wp2_with fail
    go_ret
    exact ⟨ret_bool hF.out.symm, Below.refl _ _⟩
end Go.Proofs.YtngpjagpeblbjaaDoor
