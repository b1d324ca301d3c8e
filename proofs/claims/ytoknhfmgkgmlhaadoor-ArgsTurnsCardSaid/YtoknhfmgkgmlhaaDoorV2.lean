/-
  Walk of ArgsMany, for every list of words.
-/
import Derived.Test.YtoknhfmgkgmlhaaDoorV1
namespace Go.Proofs.YtoknhfmgkgmlhaaDoor
open Go.RowKit Go.Spy

theorem few_is {ao : Option Addr} {cap : Nat} {ss : List ByteArray} {w : World} (h : StrsV w ao cap ss) {b : Bool} (hb : fewOk ss = b) :
    Calls Tryd.prog 7 #[.slice ao ss.length cap] w fun e w' => e = .returned (.bool b) ∧ w = w' := by
  subst hb; exact few_any ao cap ss w h
theorem may_is {m : Int} {r : ByteArray} {v q : Bool} {b : Bool} (hb : mayB ⟨m, r, v, q⟩ = b) (hr : r.size ≤ maxLen) (w : World) :
    Calls Tryd.prog 10 #[.agg #[.int .i64 m, .string r, .bool v, .bool q]] w fun e w' => e = .returned (.bool b) ∧ Ext w w' := by
  subst hb; exact may_any m r v q w hr
theorem may_size {c : Cmd} (h : mayB c = true) : c.root.size ≤ 64 := by
  simp only [mayB, Bool.and_eq_true, Bool.or_eq_true] at h
  rcases h.1.2 with h | h
  · have : c.root.toList = [] := by simpa using h
    have h2 : c.root = ⟨#[]⟩ := bytes_ext (by rw [this]; exact (ByteArray.toList_mk []).symm)
    rw [h2]; decide
  · simp only [nameOk, Bool.and_eq_true, decide_eq_true_eq] at h
    exact h.1.1.2

set_option maxHeartbeats 2000000 in
theorem many_any (ao : Option Addr) (cap : Nat) (ss : List ByteArray) (w : World) (h : StrsV w ao cap ss) (hcap : ss.length ≤ cap) (hM : ModesW w) :
    Calls Tryd.prog 3 #[.slice ao ss.length cap] w fun e w' => e = .returned (.bool true) ∧ Ext w w' := by
  have hl := h.len
  cases hf : fewOk ss
  · have HF := hid hf
    clear hf
    go_enter Tryd.func3, Tryd.ntmps3
    go_wp2_with (first
      | (go_at_call 7; refine (few_is h HF.out).mono ?_; rintro e w1 ⟨rfl, rfl⟩)
      | (go_at_call 8; refine (awake_any _ hM).mono ?_; rintro e w1 ⟨rfl, hx⟩))
    go_ret
    exact ⟨rfl, hx⟩
  · have HF := hid hf
    clear hf
    rcases parse_told ss with ⟨⟨m, r, v, q⟩, hp, hm⟩ | hp | ⟨k, n, hp, hh⟩
    · have HP := hid hp
      have hs := may_size hm
      have HM := hid hm
      simp only at hs
      have hs' : r.size ≤ maxLen := by unfold maxLen; omega
      clear hp hm
      go_enter Tryd.func3, Tryd.ntmps3
      go_wp2_with (first
        | (go_at_call 7; refine (few_is h HF.out).mono ?_; rintro e w1 ⟨rfl, rfl⟩)
        | (go_at_call 9; refine (parse_is h hM HP.out rfl).mono ?_; rintro e w2 ⟨rfl, hx2⟩)
        | (go_at_call 10; refine (may_is HM.out hs' _).mono ?_; rintro e w3 ⟨rfl, hx3⟩; have hE : Below w.heap.size w w3 := below_ext (hx2.alloc hx2.size _) hx3 (by have := hx2.size; simp; omega); clear hx3)
        | (go_at_call 8; refine (awake_any _ (hM.ext hE)).mono ?_; rintro e w4 ⟨rfl, hx4⟩))
      go_ret
      exact ⟨rfl, below_ext hE hx4 hE.size⟩
    · have HP := hid hp
      clear hp
      go_enter Tryd.func3, Tryd.ntmps3
      go_wp2_with (first
        | (go_at_call 7; refine (few_is h HF.out).mono ?_; rintro e w1 ⟨rfl, rfl⟩)
        | (go_at_call 9; refine (parse_is h hM HP.out rfl).mono ?_; rintro e w2 ⟨rfl, hx2⟩; simp only [zeroC])
        | (go_at_call 8; refine (awake_any _ (hM.ext (hx2.alloc hx2.size _))).mono ?_; rintro e w4 ⟨rfl, hx4⟩))
      go_ret
      exact ⟨rfl, below_ext (hx2.alloc hx2.size _) hx4 (by have := hx2.size; simp; omega)⟩
    · rcases hh with ⟨hn, h0, hk, ⟨m, r, v, q⟩, hd, hm⟩ | ⟨rfl, h1, hk, hr, ⟨m, r, v, q⟩, hd, hm⟩
      · have hs := may_size hm
        simp only at hs
        have hs' : r.size ≤ maxLen := by unfold maxLen; omega
        have HM := hid hm
        have HD := hid hd
        have HP := hid hp
        have hk0 : ((k : Int) == 0) = false := by rw [beq_eq_false_iff_ne]; omega
        have hk1 : ¬ (k : Int) < 0 := by omega
        have hk2 : k ≤ cap := by omega
        clear hm hd hp
        rcases hn with rfl | rfl
        all_goals
          go_enter Tryd.func3, Tryd.ntmps3
          go_wp2_with (first
            | (go_at_call 7; refine (few_is h HF.out).mono ?_; rintro e w1 ⟨rfl, rfl⟩)
            | (go_at_call 9; (with_reducible refine (parse_is h hM HP.out rfl).mono ?_); rintro e w2 ⟨rfl, hx2⟩; simp only [zeroC])
            | (go_at_call 9
               have hE : Below w.heap.size w (w2.alloc (.cells #[.int .i64 0, .string ⟨#[]⟩, .bool false, .bool false] 26)) := hx2.alloc hx2.size _
               refine (parse_is ((h.ext hE).take k cap) (hM.ext hE) HD.out (by simp; omega)).mono ?_
               rintro e w3 ⟨rfl, hx3⟩
               have hE3 := below_ext hE hx3 hE.size
               clear hE hx2 hx3)
            | (go_at_call 10; refine (may_is HM.out hs' _).mono ?_; rintro e w4 ⟨rfl, hx4⟩; have hE4 : Below w.heap.size w w4 := below_ext (hE3.alloc hE3.size _) hx4 (by have := hE3.size; simp; omega); clear hx4)
            | (go_at_call 8; refine (awake_any _ (hM.ext hE4)).mono ?_; rintro e w5 ⟨rfl, hx5⟩))
          go_ret
          exact ⟨rfl, below_ext hE4 hx5 hE4.size⟩
      · have hs := may_size hm
        simp only at hs
        have hs' : r.size ≤ maxLen := by unfold maxLen; omega
        have HM := hid hm
        have HP := hid hp
        have hk2 : k - 1 ≤ cap := by omega
        obtain ⟨j, rfl⟩ : ∃ j, k = j + 1 := ⟨k - 1, by omega⟩
        simp only [Nat.add_sub_cancel] at hr hd hk2
        obtain ⟨b, off, rfl, hb, hcs⟩ := h.cells (by omega)
        have hjl : j < ss.length := by omega
        have HD := hid hd
        have hwr : (wRoot.toList == [45, 114, 111, 111, 116]) = true := by rw [show wRoot.toList = [45, 114, 111, 111, 116] from ByteArray.toList_mk _]; rfl
        have hj0 : ((j : Int) + 1 == 0) = false := by rw [beq_eq_false_iff_ne]; omega
        have hcj : w.cell? ⟨b, off + j, none⟩ = some (.string wRoot) := by
          rw [hcs j hjl]
          have := List.getElem?_eq_some_iff.1 hr
          obtain ⟨_, h2⟩ := this
          rw [h2]
        clear hm hd hp hcs hr
        go_enter Tryd.func3, Tryd.ntmps3
        go_wp2_with (first
          | (go_at_call 7; refine (few_is h HF.out).mono ?_; rintro e w1 ⟨rfl, rfl⟩)
          | (go_at_call 9; (with_reducible refine (parse_is h hM HP.out rfl).mono ?_); rintro e w2 ⟨rfl, hx2⟩; simp only [zeroC]; have hcj2 := (hx2.cell (p := ⟨b, off + j, none⟩) hb).trans hcj; have hb2 : b < w2.heap.size := Nat.lt_of_lt_of_le hb hx2.size)
          | (go_at_call 9
             have hE : Below w.heap.size w (w2.alloc (.cells #[.int .i64 0, .string ⟨#[]⟩, .bool false, .bool false] 26)) := hx2.alloc hx2.size _
             refine (parse_is ((h.ext hE).take j cap) (hM.ext hE) HD.out (by simp; omega)).mono ?_
             rintro e w3 ⟨rfl, hx3⟩
             have hE3 := below_ext hE hx3 hE.size
             clear hE hx2 hx3 hcj2 hb2)
          | (go_at_call 10; refine (may_is HM.out hs' _).mono ?_; rintro e w4 ⟨rfl, hx4⟩; have hE4 : Below w.heap.size w w4 := below_ext (hE3.alloc hE3.size _) hx4 (by have := hE3.size; simp; omega); clear hx4)
          | (go_at_call 8; refine (awake_any _ (hM.ext hE4)).mono ?_; rintro e w5 ⟨rfl, hx5⟩))
        go_ret
        exact ⟨rfl, below_ext hE4 hx5 hE4.size⟩
end Go.Proofs.YtoknhfmgkgmlhaaDoor
