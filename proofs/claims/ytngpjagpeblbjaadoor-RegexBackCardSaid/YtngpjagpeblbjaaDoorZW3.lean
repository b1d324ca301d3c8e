/-
  Walk of the reference's Name, for every text.
-/
import Derived.Test.YtngpjagpeblbjaaDoorZW2
import Derived.Deep.DeepCutAuto
namespace Go.Proofs.YtngpjagpeblbjaaDoor
open Go.RowKit Go.Spy

theorem nameOk_no {s : ByteArray} {k : Nat} (hlt : k < s.size) (h : isLet (s[k]'hlt).toNat = false) (h2 : k = 0 ∨ isPart (s[k]'hlt).toNat = false) : nameOk s = false := by
  rcases h2 with rfl | h2
  · rw [nameOk, nameOk_head hlt, h]; simp
  · rw [nameOk, allPart_no hlt h2]; simp
theorem nameOk_yes {s : ByteArray} (h : ∀ j (hj : j < s.size), isPart (s[j]'hj).toNat = true ∧ (j = 0 → isLet (s[j]'hj).toNat = true)) : nameOk s = (decide (1 ≤ s.size) && decide (s.size ≤ 64)) := by
  have h1 := allPart_yes fun j hj => (h j hj).1
  by_cases h0 : 0 < s.size
  · rw [nameOk, nameOk_head h0, h1, (h 0 h0).2 rfl]; simp
  · simp [nameOk, show s.size = 0 by omega]

set_option maxHeartbeats 1000000 in
theorem name_any (s : ByteArray) (w : World) (hs : s.size ≤ maxLen) :
    Calls Tryd.prog 20 #[.string s] w fun e w' => e = .returned (.bool (nameOk s)) ∧ w = w' := by
  unfold maxLen at hs
  go_enter Tryd.func20, Tryd.ntmps20
  go_wp2_with fail
  go_loopg [3] s.size (fun g i wr => ∃ k : Nat, k ≤ s.size ∧ g = s.size - k ∧ wr = w ∧ i = .int .i64 k ∧ Hid (∀ j (hj : j < s.size), j < k → isPart (s[j]'hj).toNat = true ∧ (j = 0 → isLet (s[j]'hj).toNat = true)))
  case atStart => exact ⟨0, by omega, by omega, rfl, rfl, fun j _ hj => by omega⟩
  case round =>
    obtain ⟨k, hk, rfl, rfl, rfl, HA⟩ := hrel
    by_cases hlt : k < s.size
    · have hb : (s[k]'hlt).toNat < 256 := (s[k]'hlt).toNat_lt
      have HN := hid (nameOk_no hlt)
      have HY : Hid (isPart (s[k]'hlt).toNat = true ∧ (k = 0 → isLet (s[k]'hlt).toNat = true) → (∀ j (hj : j < s.size), j < k + 1 → isPart (s[j]'hj).toNat = true ∧ (j = 0 → isLet (s[j]'hj).toNat = true))) := by
        intro h j hj hjk
        by_cases e : j = k
        · subst e; exact h
        · exact HA.out j hj (by omega)
      go_upto_region 5 with fail
      go_cut [5] (fun v wx => v = .bool (isLet (s[k]'hlt).toNat) ∧ wr = wx)
      case first =>
        go_wp2_with fail
        all_goals go_meet
        all_goals exact ⟨by congr 1; rw [Bool.eq_iff_iff]; simp [isLet]; omega, rfl⟩
      case rest =>
        obtain ⟨rfl, rfl⟩ := hcut
        cases hL : isLet (s[k]'hlt).toNat
        · by_cases h0 : k = 0
          · subst h0
            have HF := hid (HN.out hL (.inl rfl))
            go_wp2
            go_ret
            exact ⟨ret_bool HF.out.symm, rfl⟩
          · have hk0 : ((k : Int) == 0) = false := by simp; omega
            have HL := hid hL
            clear hL
            have HG := hid (HY.out)
            by_cases e45 : (((s[k]'hlt).toNat : Int) == 45) = true
            · have HP : Hid (isPart (s[k]'hlt).toNat = true) := by simp [Hid, isPart] at e45 ⊢; omega
              go_wp2
              all_goals (go_roundg (s.size - (k+1)); exact ⟨k+1, by omega, rfl, rfl, by go_num, HY.out ⟨HP.out, fun e => absurd e h0⟩⟩; omega)
            · have f45 : (((s[k]'hlt).toNat : Int) == 45) = false := by simpa using e45
              clear e45
              by_cases e46 : (((s[k]'hlt).toNat : Int) == 46) = true
              · have HP : Hid (isPart (s[k]'hlt).toNat = true) := by simp [Hid, isPart] at e46 ⊢; omega
                go_wp2
                all_goals (go_roundg (s.size - (k+1)); exact ⟨k+1, by omega, rfl, rfl, by go_num, HY.out ⟨HP.out, fun e => absurd e h0⟩⟩; omega)
              · have f46 : (((s[k]'hlt).toNat : Int) == 46) = false := by simpa using e46
                clear e46
                by_cases hD : 48 ≤ (s[k]'hlt).toNat ∧ (s[k]'hlt).toNat ≤ 57
                · have HP : Hid (isPart (s[k]'hlt).toNat = true) := by simp [Hid, isPart, isDig]; omega
                  obtain ⟨d1, d2⟩ := hD
                  go_wp2
                  all_goals (go_roundg (s.size - (k+1)); exact ⟨k+1, by omega, rfl, rfl, by go_num, HY.out ⟨HP.out, fun e => absurd e h0⟩⟩; omega)
                · have HP := hid (HN.out HL.out (.inr (by simp at f45 f46; simp [isPart, isDig, HL.out]; omega)))
                  have hD' : (s[k]'hlt).toNat < 48 ∨ 57 < (s[k]'hlt).toNat := by omega
                  clear hD
                  rcases hD' with hD | hD
                  all_goals
                    go_wp2
                  all_goals first
                    | (go_ret; exact ⟨ret_bool HP.out.symm, rfl⟩)
                    | (have hq : (!decide (((s[k]'hlt).toNat : Int) ≤ 57)) = false := by assumption
                       exfalso; simp at hq; omega)
        · have HF := hid (HY.out ⟨by simp [isPart, hL], fun _ => hL⟩)
          go_wp2
          all_goals (go_roundg (s.size - (k+1)); exact ⟨k+1, by omega, rfl, rfl, by go_num, HF⟩; omega)
    · have hF := hid (nameOk_yes fun j hj => HA.out j hj (by omega))
      by_cases h1 : 1 ≤ s.size
      all_goals
        go_wp2
        go_ret
        exact ⟨ret_bool (by rw [hF.out, Bool.eq_iff_iff]; simp; omega), rfl⟩
end Go.Proofs.YtngpjagpeblbjaaDoor
