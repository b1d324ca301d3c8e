/-
  Walk of the reader's blanks: what is still to be read.
-/
import Derived.Test.YtngpjagpeblbjaaDoorZW5
import Derived.Test.YtngpjagpeblbjaaDoorAA
import Derived.Test.YtngpjagpeblbjaaDoorTT
import Derived.StillTailTactics
import Derived.Deep.QuietTactic
import Derived.BigQuiet
import Derived.BigRegion
import Derived.Outline
import Derived.WalkSpells
namespace Go.Proofs.YtngpjagpeblbjaaDoor
open Go.RowKit Go.Spy Go.Rx

theorem isBl_eq (c : UInt8) : isBlank c.toNat = isBl c := rfl
theorem isIn_eq (c : Nat) : isPart c = isIn c := rfl
theorem nm_eq (s : ByteArray) : nameOk s = nmB s.data.toList := by
  obtain ⟨⟨l⟩⟩ := s
  rfl

/-- The cells of a reader. -/
def rdV (s : ByteArray) (j : Nat) : Array Value := #[.string s, .int .i64 j, .bool false, .bool false]
/-- So much is still to be read. -/
def At (s : ByteArray) (j : Nat) (r : List UInt8) : Prop := s.data.toList.drop j = r ∧ j ≤ s.size
/-- A reader, and what it has still to read. -/
def RdW (w : World) (b : Nat) (s : ByteArray) (r : List UInt8) : Prop := ∃ j, Blk w b 77 (rdV s j) ∧ At s j r

section
variable {s : ByteArray} {j : Nat} {r : List UInt8} {c : UInt8}
theorem At.nil (h : At s j []) : j = s.size := by
  have h1 := List.drop_eq_nil_iff.1 h.1
  have h2 := h.2
  simp at h1
  omega
theorem At.lt (h : At s j (c :: r)) : j < s.size := by
  rcases Nat.lt_or_ge j s.size with k | k
  · exact k
  · have := List.drop_eq_nil_iff (l := s.data.toList) (i := j) |>.2 (by simpa using k)
    rw [h.1] at this; cases this
theorem At.get (h : At s j (c :: r)) : s[j]'h.lt = c := by
  have h1 : (s.data.toList.drop j)[0]? = some c := by rw [h.1]; rfl
  rw [List.getElem?_drop, Nat.add_zero] at h1
  have h2 := List.getElem?_eq_some_iff.1 h1
  exact h2.2
theorem At.next (h : At s j (c :: r)) : At s (j + 1) r := by
  refine ⟨?_, h.lt⟩
  rw [← List.tail_drop, h.1]; rfl
theorem At.len (h : At s j r) : j + r.length = s.size := by
  have h1 := h.2
  rw [← h.1, List.length_drop]
  simp; omega
/-- The byte that stands there. -/
theorem ext_list (s : ByteArray) (a b : Nat) : (s.extract a b).data.toList = (s.data.toList.drop a).take (b - a) := by
  simp [ByteArray.data_extract, List.extract_eq_take_drop]
theorem At.one (h : At s j (c :: r)) : (s.extract j (j + 1)).data.toList = [c] := by
  rw [ext_list, h.1, show j + 1 - j = 1 by omega]; rfl
theorem At.oneBlank (h : At s j (c :: r)) : allBlank (s.extract j (j + 1)) = isBl c := by
  unfold allBlank
  rw [h.one]; simp [isBl_eq]
end

set_option maxRecDepth 100000 in
set_option maxHeartbeats 1000000 in
theorem blanks_any {w : World} {b : Nat} {s : ByteArray} {r : List UInt8} (h : RdW w b s r) (hs : s.size ≤ 1000000) :
    Calls Tryd.prog 38 #[.pointer (some ⟨b, 0, none⟩)] w fun e w' => e = .returned (.tuple #[]) ∧ RdW w' b s (sk r) ∧ Chg (· = b) w w' := by
  have HR := hid h
  clear h
  go_enter Tryd.func38, Tryd.ntmps38
  go_wp2_with fail
  go_loopg [] r.length (fun g wr => ∃ q, g = q.length ∧ Hid (RdW wr b s q) ∧ Hid (sk q = sk r) ∧ Hid (Chg (· = b) w wr))
  case atStart => exact ⟨r, rfl, HR, hid rfl, hid (Chg.refl _ w)⟩
  case round =>
    obtain ⟨q, rfl, HQ, HS, HC⟩ := hrel
    obtain ⟨j, hB, hA⟩ := HQ.out
    have c0 : wr.cell? ⟨b, 0, none⟩ = some (.string s) := hB.cell (i := 0) rfl
    have c1 : wr.cell? ⟨b, 1, none⟩ = some (.int .i64 j) := hB.cell (i := 1) rfl
    have f1 := hB.frozen 1
    have HB := hid hB
    have HA := hid hA
    clear hB
    cases q with
    | nil =>
      have e := hA.nil
      have hd : decide (j < s.size) = false := decide_eq_false (by omega)
      have HE := hid e
      clear hA e
      go_wp2_with fail
      go_quiet (fail)
      go_wp2_with fail
      go_end0
      exact ⟨rfl, ⟨j, Blk.drewN HB.out _, by rw [← HS.out]; exact HA.out⟩, Chg.drewN HC.out _⟩
    | cons c q =>
      have hlt := hA.lt
      have hd : decide (j < s.size) = true := decide_eq_true hlt
      have hw : IntKind.i64.wrap ((j : Int) + 1) = ((j + 1 : Nat) : Int) := by rw [IntKind.wrap_i64]; omega
      have g1 : (0 : Int) ≤ (j : Int) := by omega
      have g2 : (j : Int) ≤ (j : Int) + 1 := by omega
      have g3 : (j : Int) + 1 ≤ (s.size : Int) := by omega
      have g4 : ((j : Int) + 1).toNat = j + 1 := by omega
      have ho := hA.oneBlank
      have hsz : (s.extract j (j + 1)).size ≤ maxLen := by
        have h1 : (s.extract j (j + 1)).size = 1 := by simp; omega
        rw [h1]; decide
      clear hA
      cases hb : isBl c with
      | true =>
        rw [hb] at ho
        have HO := hid ho
        have hsk := sk_bl (r := q) hb
        have HK := hid hsk
        clear ho hb hsk
        go_wp2_with fail
        go_still_tail 25, (by kernel_rfl)
        change wpList _ _ _ _ _ wr.drew
        go_wp2_with (go_at_call 54; refine (Blank_any _ _ hsz).mono ?_; rintro e w2 ⟨rfl, hx⟩; rw [HO.out]; have B2 := (Blk.drew HB.out).ext hx; have q0 : w2.cell? ⟨b, 0, none⟩ = some (.string s) := B2.cell (i := 0) rfl; have q1 : w2.cell? ⟨b, 1, none⟩ = some (.int .i64 j) := B2.cell (i := 1) rfl; have q2 := B2.frozen 1; have H2 := hid B2; have X2 := hid ((Chg.drew HC.out).ext hx); clear B2 hx)
        go_roundg q.length
        case measure => simp
        case rel => exact ⟨q, rfl, hid ⟨j + 1, H2.out.set 1 _, HA.out.next⟩, hid (by rw [← HK.out]; exact HS.out), hid (Chg.setCell (p := ⟨b, 1, none⟩) X2.out rfl _)⟩
      | false =>
        rw [hb] at ho
        have HO := hid ho
        have hsk := sk_cons (r := q) hb
        have HK := hid hsk
        clear ho hb hsk
        go_wp2_with fail
        go_still_tail 25, (by kernel_rfl)
        change wpList _ _ _ _ _ wr.drew
        go_wp2_with (go_at_call 54; refine (Blank_any _ _ hsz).mono ?_; rintro e w2 ⟨rfl, hx⟩; rw [HO.out]; have H2 := hid ((Blk.drew HB.out).ext hx); have X2 := hid ((Chg.drew HC.out).ext hx); clear hx)
        go_end0
        exact ⟨rfl, ⟨j, H2.out, by rw [← HS.out, HK.out]; exact HA.out⟩, X2.out⟩

end Go.Proofs.YtngpjagpeblbjaaDoor
