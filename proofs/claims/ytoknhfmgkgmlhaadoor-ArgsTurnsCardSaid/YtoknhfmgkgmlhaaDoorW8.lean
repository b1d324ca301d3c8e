/-
  Words joined; walks of the three closures of Parse.
-/
import Derived.Test.YtoknhfmgkgmlhaaDoorW7
namespace Go.Proofs.YtoknhfmgkgmlhaaDoor
open Go.RowKit Go.Spy

theorem words_any (c : Cmd) (w : World) (hr : c.root.size ≤ 9223372036854775807) (hM : ModesW w) : Calls Tryd.prog 11 #[c.val] w (WordsPost w c) := by
  obtain ⟨m, r, v, q⟩ := c
  simp only [Cmd.val] at *
  cases hm : mayB ⟨m, r, v, q⟩
  · exact words_err m r v q w (by unfold maxLen; omega) hm
  · simp only [mayB, Bool.and_eq_true, Bool.or_eq_true, decide_eq_true_eq, Bool.not_eq_true'] at hm
    obtain ⟨⟨⟨h1, h2⟩, h3⟩, h4⟩ := hm
    obtain ⟨k, rfl⟩ : ∃ k : Nat, m = (k : Int) := ⟨m.toNat, by omega⟩
    have hk0 : 0 < k := by omega
    have hk : k < 6 := by omega
    cases he : r.toList.isEmpty
    · have hn : nameOk r = true := by rcases h3 with h3 | h3; · rw [he] at h3; cases h3
                                      · exact h3
      cases v
      · cases q
        · exact words_ok_100 k hk0 hk r w hr hM he hn
        · exact words_ok_101 k hk0 hk r w hr hM he hn
      · have hk5 : k = 5 := by rcases h4 with h4 | h4; · cases h4
                               · omega
        subst hk5
        cases q
        · exact words_ok_110 r w hr hM he hn
        · exact words_ok_111 r w hr hM he hn
    · cases v
      · cases q
        · exact words_ok_000 k hk0 hk r w hr hM he
        · exact words_ok_001 k hk0 hk r w hr hM he
      · have hk5 : k = 5 := by rcases h4 with h4 | h4; · cases h4
                               · omega
        subst hk5
        cases q
        · exact words_ok_010 r w hr hM he
        · exact words_ok_011 r w hr hM he

/-! ### the closures of Parse -/
def AC (bA bC k : Nat) : Prop := k = bA ∨ k = bC

def RootPost (w : World) (bA bC : Nat) (ss : List ByteArray) (at_ : Nat) (m : Int) (_r0 : ByteArray) (v q : Bool) (e : Ending) (w' : World) : Prop :=
  Blk w' bA 3 #[.int .i64 ((at_ + 1 : Nat) : Int)] ∧ Chg (AC bA bC) w w' ∧
  ((e = .returned (.int .i64 11) ∧ (∀ s, ss[at_ + 1]? = some s → nameOk s = false)) ∨
   (∃ s, ss[at_ + 1]? = some s ∧ nameOk s = true ∧ e = .returned (.int .i64 0) ∧ Blk w' bC 26 #[.int .i64 m, .string s, .bool v, .bool q]))

set_option maxHeartbeats 1000000 in
theorem root_any (bA bL bC : Nat) (ao : Option Addr) (cap : Nat) (ss : List ByteArray) (at_ : Nat) (m : Int) (r0 : ByteArray) (v q : Bool) (w : World)
    (hA : Blk w bA 3 #[.int .i64 (at_ : Int)]) (hL : Blk w bL 22 #[.slice ao ss.length cap]) (hC : Blk w bC 26 #[.int .i64 m, .string r0, .bool v, .bool q])
    (h : StrsV w ao cap ss) (hS : ∀ b off, ao = some ⟨b, off, none⟩ → ¬ AC bA bC b) (hAL : bA ≠ bL) (hAC : bA ≠ bC) (_hLC : bL ≠ bC) (hat : at_ < ss.length) :
    Calls Tryd.prog 13 #[.pointer (some ⟨bA, 0, none⟩), .pointer (some ⟨bL, 0, none⟩), .pointer (some ⟨bC, 0, none⟩)] w (RootPost w bA bC ss at_ m r0 v q) := by
  have hl := h.len
  have a0 : w.cell? ⟨bA, 0, none⟩ = some (.int .i64 (at_ : Int)) := hA.cell rfl
  have f0 := hA.frozen 0
  have HA := hid (hA.set 0 (.int .i64 ((at_ : Int) + 1)))
  have HL := hid (hL.setOther (a := ⟨bA, 0, none⟩) hAL (.int .i64 ((at_ : Int) + 1)))
  have HC := hid (hC.setOther (a := ⟨bA, 0, none⟩) hAC (.int .i64 ((at_ : Int) + 1)))
  have HT : Chg (AC bA bC) w (w.setCell ⟨bA, 0, none⟩ (.int .i64 ((at_ : Int) + 1))) := (Chg.refl _ _).setCell (.inl rfl) _
  have HS := hid (h.chg HT hS)
  have HTH := hid HT
  have l1 : (w.setCell ⟨bA, 0, none⟩ (.int .i64 ((at_ : Int) + 1))).cell? ⟨bL, 0, none⟩ = some (.slice ao ss.length cap) := HL.out.cell rfl
  have a1 : (w.setCell ⟨bA, 0, none⟩ (.int .i64 ((at_ : Int) + 1))).cell? ⟨bA, 0, none⟩ = some (.int .i64 ((at_ : Int) + 1)) := HA.out.cell rfl
  have c1 := HC.out.frozen 1
  clear HT
  by_cases hlt : at_ + 1 < ss.length
  · have he : (((at_ : Int) + 1) == (ss.length : Int)) = false := by rw [beq_eq_false_iff_ne]; omega
    obtain ⟨b, off, rfl, hb, hcs⟩ := HS.out.cells (by omega)
    have hck := hcs (at_ + 1) hlt
    have hsz := h.size (at_ + 1) hlt
    have hsz' : ss[at_ + 1].size ≤ maxLen := by unfold maxLen; omega
    have HE := hid (List.getElem?_eq_getElem hlt)
    obtain ⟨s, hs⟩ : ∃ s, s = ss[at_ + 1] := ⟨_, rfl⟩
    rw [← hs] at hck hsz hsz'
    have HSE : Hid (ss[at_ + 1]? = some s) := by rw [hs]; exact HE.out
    clear hcs hs HE
    cases hn : nameOk s
    · go_enter Tryd.func13, Tryd.ntmps13
      go_wp2_with (first | (go_at_call 14; refine (is_any s _ hsz').mono ?_; rintro e w2 ⟨rfl, hx⟩))
      go_ret
      exact ⟨HA.out.ext hx, HTH.out.ext hx, .inl ⟨rfl, fun s' hs' => by rw [HSE.out] at hs'; cases hs'; exact hn⟩⟩
    · go_enter Tryd.func13, Tryd.ntmps13
      go_wp2_with (first | (go_at_call 14; refine (is_any s _ hsz').mono ?_; rintro e w2 ⟨rfl, hx⟩; have HX := hid hx; have l2 : w2.cell? ⟨bL, 0, none⟩ = some (.slice (some ⟨b, off, none⟩) ss.length cap) := (HL.out.ext hx).cell rfl; have a2 : w2.cell? ⟨bA, 0, none⟩ = some (.int .i64 ((at_ : Int) + 1)) := (HA.out.ext hx).cell rfl; have c2 := (HC.out.ext hx).frozen 1; have s2 := (hx.cell (p := ⟨b, off + (at_ + 1), none⟩) hb).trans hck; have c2' : w2.cell? ⟨bC, 1, none⟩ = some (.string r0) := (HC.out.ext hx).cell rfl; clear hx))
      go_ret
      exact ⟨(HA.out.ext HX.out).setOther (fun e => hAC e.symm) _, (HTH.out.ext HX.out).setCell (.inr rfl) _, .inr ⟨s, HSE.out, hn, rfl, (HC.out.ext HX.out).set 1 _⟩⟩
  · have he : (((at_ : Int) + 1) == (ss.length : Int)) = true := by rw [beq_iff_eq]; omega
    go_enter Tryd.func13, Tryd.ntmps13
    go_wp2_with fail
    go_ret
    exact ⟨HA.out, HTH.out, .inl ⟨rfl, fun s hs => by rw [List.getElem?_eq_none (by omega)] at hs; cases hs⟩⟩

set_option maxHeartbeats 400000 in
theorem view_yes (bC : Nat) (r : ByteArray) (v q : Bool) (w : World) (hC : Blk w bC 26 #[.int .i64 5, .string r, .bool v, .bool q]) :
    Calls Tryd.prog 15 #[.pointer (some ⟨bC, 0, none⟩)] w fun e w' => e = .returned (.int .i64 0) ∧ w' = w.setCell ⟨bC, 2, none⟩ (.bool true) := by
  have c0 : w.cell? ⟨bC, 0, none⟩ = some (.int .i64 5) := hC.cell rfl
  have c2 : w.cell? ⟨bC, 2, none⟩ = some (.bool v) := hC.cell rfl
  have f2 := hC.frozen 2
  go_enter Tryd.func15, Tryd.ntmps15
  go_wp2_with fail
  go_ret
  exact ⟨rfl, rfl⟩

set_option maxHeartbeats 400000 in
theorem view_no (bC : Nat) (m : Int) (r : ByteArray) (v q : Bool) (w : World) (hC : Blk w bC 26 #[.int .i64 m, .string r, .bool v, .bool q]) (h5 : (m == 5) = false) :
    Calls Tryd.prog 15 #[.pointer (some ⟨bC, 0, none⟩)] w fun e w' => e = .returned (.int .i64 12) ∧ w = w' := by
  have c0 : w.cell? ⟨bC, 0, none⟩ = some (.int .i64 m) := hC.cell rfl
  go_enter Tryd.func15, Tryd.ntmps15
  go_wp2_with fail
  go_ret
  exact ⟨rfl, rfl⟩

set_option maxHeartbeats 400000 in
theorem quiet_any (bC : Nat) (m : Int) (r : ByteArray) (v q : Bool) (w : World) (hC : Blk w bC 26 #[.int .i64 m, .string r, .bool v, .bool q]) :
    Calls Tryd.prog 16 #[.pointer (some ⟨bC, 0, none⟩)] w fun e w' => e = .returned (.int .i64 0) ∧ w' = w.setCell ⟨bC, 3, none⟩ (.bool true) := by
  have c3 : w.cell? ⟨bC, 3, none⟩ = some (.bool q) := hC.cell rfl
  have f3 := hC.frozen 3
  go_enter Tryd.func16, Tryd.ntmps16
  go_wp2_with fail
  go_ret
  exact ⟨rfl, rfl⟩

def RootQ (w : World) (bA bC k : Nat) (m : Int) (r : ByteArray) (v q : Bool) (w' : World) : Prop :=
  Blk w' bA 3 #[.int .i64 ((k : Int) + 1)] ∧ Chg (AC bA bC) w w' ∧ Blk w' bC 26 #[.int .i64 m, .string r, .bool v, .bool q]

theorem root_err (bA bL bC : Nat) (ao : Option Addr) (cap : Nat) (ss : List ByteArray) (at_ : Nat) (m : Int) (r0 : ByteArray) (v q : Bool) (w : World)
    (hA : Blk w bA 3 #[.int .i64 (at_ : Int)]) (hL : Blk w bL 22 #[.slice ao ss.length cap]) (hC : Blk w bC 26 #[.int .i64 m, .string r0, .bool v, .bool q])
    (h : StrsV w ao cap ss) (hS : ∀ b off, ao = some ⟨b, off, none⟩ → ¬ AC bA bC b) (hAL : bA ≠ bL) (hAC : bA ≠ bC) (hLC : bL ≠ bC) (hat : at_ < ss.length) (hno : ∀ s, ss[at_ + 1]? = some s → nameOk s = false) :
    Calls Tryd.prog 13 #[.pointer (some ⟨bA, 0, none⟩), .pointer (some ⟨bL, 0, none⟩), .pointer (some ⟨bC, 0, none⟩)] w fun e w' =>
      e = .returned (.int .i64 11) ∧ Hid (Blk w' bA 3 #[.int .i64 ((at_ : Int) + 1)] ∧ Chg (AC bA bC) w w') := by
  refine (root_any bA bL bC ao cap ss at_ m r0 v q w hA hL hC h hS hAL hAC hLC hat).mono fun e w' hp => ?_
  obtain ⟨h1, h2, h3⟩ := hp
  rcases h3 with ⟨h3, _⟩ | ⟨s, h3, h4, _⟩
  · exact ⟨h3, h1, h2⟩
  · rw [hno s h3] at h4; cases h4
theorem root_ok (bA bL bC : Nat) (ao : Option Addr) (cap : Nat) (ss : List ByteArray) (at_ : Nat) (m : Int) (r0 : ByteArray) (v q : Bool) (w : World)
    (hA : Blk w bA 3 #[.int .i64 (at_ : Int)]) (hL : Blk w bL 22 #[.slice ao ss.length cap]) (hC : Blk w bC 26 #[.int .i64 m, .string r0, .bool v, .bool q])
    (h : StrsV w ao cap ss) (hS : ∀ b off, ao = some ⟨b, off, none⟩ → ¬ AC bA bC b) (hAL : bA ≠ bL) (hAC : bA ≠ bC) (hLC : bL ≠ bC) (hat : at_ < ss.length) (r : ByteArray) (hr : ss[at_ + 1]? = some r) (hok : nameOk r = true) :
    Calls Tryd.prog 13 #[.pointer (some ⟨bA, 0, none⟩), .pointer (some ⟨bL, 0, none⟩), .pointer (some ⟨bC, 0, none⟩)] w fun e w' =>
      e = .returned (.int .i64 0) ∧ Hid (RootQ w bA bC at_ m r v q w') := by
  refine (root_any bA bL bC ao cap ss at_ m r0 v q w hA hL hC h hS hAL hAC hLC hat).mono fun e w' hp => ?_
  obtain ⟨h1, h2, h3⟩ := hp
  rcases h3 with ⟨_, h3⟩ | ⟨s, h3, h4, h5, h6⟩
  · rw [h3 r hr] at hok; cases hok
  · rw [hr] at h3; cases h3; exact ⟨h5, h1, h2, h6⟩
end Go.Proofs.YtoknhfmgkgmlhaaDoor
