/-
  Walk of the reader's word.
-/
import Derived.Test.YtngpjagpeblbjaaDoorZR2
namespace Go.Proofs.YtngpjagpeblbjaaDoor
open Go.RowKit Go.Spy Go.Rx

def inL (c : UInt8) : Bool := isIn c.toNat
theorem word_rest {r w r' : List UInt8} (h : WordAt r w r') : r.dropWhile inL = r' := by
  obtain ⟨rfl, hn, hr⟩ := h
  simp only [nmB, Bool.and_eq_true] at hn
  have hall := hn.2
  clear hn
  induction w with
  | nil =>
    cases r' with
    | nil => rfl
    | cons c q => have := hr c q rfl; simp [inL, this]
  | cons c w ih =>
    simp only [List.all_cons, Bool.and_eq_true] at hall
    rw [List.cons_append, List.dropWhile_cons_of_pos (show inL c = true from hall.1)]
    exact ih hall.2

theorem word_first {s : ByteArray} {j : Nat} {c : UInt8} {r : List UInt8} (h : At s j (c :: r)) (hc : isLe c.toNat = true) : nameOk (s.extract j (j + 1)) = true := by
  rw [nm_eq, h.one]
  have : isIn c.toNat = true := by simp [isIn, hc]
  simp [nmB, hc, this]

theorem word_bytes {s : ByteArray} {j i : Nat} {r w r' : List UInt8} (h : At s j r) (hw : WordAt r w r') (k : At s i r') : s.extract j i = ⟨w.toArray⟩ := by
  apply bytes_ext
  have e1 := h.len
  have e2 := k.len
  obtain ⟨rfl, _, _⟩ := hw
  rw [List.length_append] at e1
  obtain ⟨⟨l⟩⟩ := s
  have hh : (ByteArray.extract ⟨⟨l⟩⟩ j i).data.toList = w := by
    rw [ext_list, h.1, show i - j = w.length by omega, List.take_left]
  have : ∀ x : ByteArray, x.toList = x.data.toList := fun x => by obtain ⟨⟨y⟩⟩ := x; exact ByteArray.toList_mk _
  rw [this, this, hh]

theorem inner_is {c : Nat} {v : Bool} (h : isPart c = v) (w : World) :
    Calls Tryd.prog 84 #[.int .u8 c] w fun e w' => e = .returned (.bool v) ∧ w' = w :=
  (inner_any c w).mono fun _ _ ⟨h1, h2⟩ => ⟨by rw [h1, h], h2.symm⟩

set_option maxRecDepth 100000 in
set_option maxHeartbeats 1600000 in
theorem word_any {w : World} {b : Nat} {s : ByteArray} {r wd r' : List UInt8} (h : RdW w b s r) (hs : s.size ≤ 1000000) (hw : WordAt r wd r') :
    Calls Tryd.prog 83 #[.pointer (some ⟨b, 0, none⟩)] w fun e w' => e = .returned (.string ⟨wd.toArray⟩) ∧ RdW w' b s r' ∧ Chg (· = b) w w' := by
  have HW := hid hw
  obtain ⟨c, q, rfl, hc⟩ := nm_head hw.2.1
  obtain ⟨j, hB, hA⟩ := h
  have e0 : r = c :: (q ++ r') := hw.1
  have hA0 := hA
  rw [e0] at hA
  have HD := hid (word_rest hw)
  have c0 : w.cell? ⟨b, 0, none⟩ = some (.string s) := hB.cell (i := 0) rfl
  have c1 : w.cell? ⟨b, 1, none⟩ = some (.int .i64 j) := hB.cell (i := 1) rfl
  have hlt := hA.lt
  have hne : ((j : Int) == (s.size : Int)) = false := beq_eq_false_iff_ne.2 (by omega)
  have g1 : (0 : Int) ≤ (j : Int) := by omega
  have g2 : (j : Int) ≤ (j : Int) + 1 := by omega
  have g3 : (j : Int) + 1 ≤ (s.size : Int) := by omega
  have g4 : ((j : Int) + 1).toNat = j + 1 := by omega
  have HN := hid (word_first hA hc)
  have hsz : (s.extract j (j + 1)).size ≤ maxLen := by
    have h1 : (s.extract j (j + 1)).size = 1 := by simp; omega
    rw [h1]; decide
  have HA := hid hA0
  have HB := hid hB
  clear hA hA0 hB hw e0 hc
  go_enter Tryd.func83, Tryd.ntmps83
  go_wp2_with (go_at_call 22; refine (is_any _ _ hsz).mono ?_; rintro e w1 ⟨rfl, hx⟩; rw [HN.out]; have HX := hid hx; clear hx)
  have HB1 := hid (Blk.ext HB.out HX.out)
  have HC1 := hid (Chg.of_ext (S := (· = b)) HX.out)
  clear HX c0 c1 hne g2 g3 g4 hsz hlt
  go_loopg [] r.length (fun g wr => ∃ p, g = p.length ∧ Hid (RdW wr b s p) ∧ Hid (p.dropWhile inL = r') ∧ Hid (Chg (· = b) w wr))
  case atStart => exact ⟨r, rfl, hid ⟨j, HB1.out, HA.out⟩, HD, HC1⟩
  case round =>
    obtain ⟨p, rfl, HQ, HS, HC⟩ := hrel
    obtain ⟨i, hB, hA⟩ := HQ.out
    have c0 : wr.cell? ⟨b, 0, none⟩ = some (.string s) := hB.cell (i := 0) rfl
    have c1 : wr.cell? ⟨b, 1, none⟩ = some (.int .i64 i) := hB.cell (i := 1) rfl
    have f1 := hB.frozen 1
    have HB := hid hB
    have HAi := hid hA
    clear hB
    cases p with
    | nil =>
      have hd : decide (i < s.size) = false := decide_eq_false (by have := hA.nil; omega)
      have HK : Hid (r' = []) := hid (by rw [← HS.out]; rfl)
      have HZ := hid (word_bytes HA.out HW.out (by rw [HK.out]; exact HAi.out))
      have g4 : (j : Int) ≤ (i : Int) := by have := hA.nil; have := HA.out.len; omega
      have g5 : (i : Int) ≤ (s.size : Int) := by have := hA.nil; omega
      clear hA
      go_wp2_with fail
      go_quiet (fail)
      go_wp2_with fail
      go_quiet (fail)
      go_wp2_with fail
      go_ret
      exact ⟨ret_str HZ.out, ⟨i, Blk.drewN (Blk.drewN HB.out _) _, by rw [HK.out]; exact HAi.out⟩, Chg.drewN (Chg.drewN HC.out _) _⟩
    | cons d p =>
      have hlt := hA.lt
      have hd : decide (i < s.size) = true := decide_eq_true hlt
      have hv : isPart (s[i]'hlt).toNat = isIn d.toNat := by rw [hA.get, isIn_eq]
      have g2 : (0 : Int) ≤ (i : Int) := by omega
      have g3 : (i : Int) < (s.size : Int) := by omega
      clear hA
      cases hb : isIn d.toNat with
      | true =>
        rw [hb] at hv
        have HI := hid hv
        have HK : Hid ((d :: p).dropWhile inL = p.dropWhile inL) := hid (List.dropWhile_cons_of_pos hb)
        clear hv hb
        go_wp2_with fail
        go_quiet ((go_at_call 84; exact Calls.quiet_of_same (inner_is HI.out _)))
        go_wp2_with fail
        go_roundg p.length
        case measure => simp
        case rel => exact ⟨p, rfl, hid ⟨i + 1, (Blk.drewN HB.out _).set 1 _, HAi.out.next⟩, hid (by rw [← HK.out]; exact HS.out), hid (Chg.setCell (p := ⟨b, 1, none⟩) (Chg.drewN HC.out _) rfl _)⟩
      | false =>
        rw [hb] at hv
        have HI := hid hv
        have HK : Hid (r' = d :: p) := hid (by rw [← HS.out]; exact List.dropWhile_cons_of_neg (by rw [show inL d = false from hb]; decide))
        clear hv hb
        have HZ := hid (word_bytes HA.out HW.out (by rw [HK.out]; exact HAi.out))
        have hlen := HA.out.len
        have hlen2 := HAi.out.len
        have hlen3 := congrArg List.length HW.out.1
        rw [HK.out] at hlen3
        simp only [List.length_append, List.length_cons] at hlen3 hlen2
        have g4 : (j : Int) ≤ (i : Int) := by omega
        have g5 : (i : Int) ≤ (s.size : Int) := by omega
        clear hlen hlen2 hlen3
        go_wp2_with fail
        go_quiet ((go_at_call 84; exact Calls.quiet_of_same (inner_is HI.out _)))
        go_wp2_with fail
        go_quiet (fail)
        go_wp2_with fail
        go_ret
        exact ⟨ret_str HZ.out, ⟨i, Blk.drewN (Blk.drewN HB.out _) _, by rw [HK.out]; exact HAi.out⟩, Chg.drewN (Chg.drewN HC.out _) _⟩

end Go.Proofs.YtngpjagpeblbjaaDoor
