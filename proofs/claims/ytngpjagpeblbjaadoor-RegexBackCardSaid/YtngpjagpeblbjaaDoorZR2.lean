/-
  Walk of the reader's mark.
-/
import Derived.Test.YtngpjagpeblbjaaDoorZR1
namespace Go.Proofs.YtngpjagpeblbjaaDoor
open Go.RowKit Go.Spy Go.Rx

set_option maxRecDepth 100000 in
set_option maxHeartbeats 1000000 in
theorem mark_yes {w : World} {b : Nat} {s : ByteArray} {r q : List UInt8} {c : UInt8} (h : RdW w b s r) (hs : s.size ≤ 1000000) (ci : Int) (hc : ci = (c.toNat : Int)) (hq : sk r = c :: q) :
    Calls Tryd.prog 67 #[.pointer (some ⟨b, 0, none⟩), .int .u8 ci] w fun e w' => e = .returned (.bool true) ∧ RdW w' b s q ∧ Chg (· = b) w w' := by
  have HR := hid h
  have HQ := hid hq
  have HC := hid hc
  clear h hq hc
  go_enter Tryd.func67, Tryd.ntmps67
  go_wp2_with fail
  refine (blanks_any HR.out hs).mono ?_
  rintro e w1 ⟨rfl, hR, hx⟩
  rw [HQ.out] at hR
  obtain ⟨j, hB, hA⟩ := hR
  have c0 : w1.cell? ⟨b, 0, none⟩ = some (.string s) := hB.cell (i := 0) rfl
  have c1 : w1.cell? ⟨b, 1, none⟩ = some (.int .i64 j) := hB.cell (i := 1) rfl
  have f1 := hB.frozen 1
  have hlt := hA.lt
  have hg := hA.get
  have hne : ((j : Int) == (s.size : Int)) = false := beq_eq_false_iff_ne.2 (by omega)
  have hne2 : (((s[j]'hlt).toNat : Int) != ci) = false := by rw [hg, HC.out]; simp
  have g1 : (0 : Int) ≤ (j : Int) := by omega
  have g2 : (j : Int) < (s.size : Int) := by omega
  have HA := hid hA
  have HB := hid hB
  have HX := hid hx
  clear hA hB hx hg
  go_wp2_with fail
  go_quiet (fail)
  go_wp2_with fail
  go_ret
  exact ⟨rfl, ⟨j + 1, (Blk.drewN HB.out _).set 1 _, HA.out.next⟩, Chg.setCell (p := ⟨b, 1, none⟩) (Chg.drewN HX.out _) rfl _⟩

set_option maxRecDepth 100000 in
set_option maxHeartbeats 1000000 in
theorem mark_no {w : World} {b : Nat} {s : ByteArray} {r : List UInt8} {c : UInt8} (h : RdW w b s r) (hs : s.size ≤ 1000000) (ci : Int) (hc : ci = (c.toNat : Int)) (hq : (sk r).head? ≠ some c) :
    Calls Tryd.prog 67 #[.pointer (some ⟨b, 0, none⟩), .int .u8 ci] w fun e w' => e = .returned (.bool false) ∧ RdW w' b s (sk r) ∧ Chg (· = b) w w' := by
  have HR := hid h
  have HC := hid hc
  obtain ⟨p, hp⟩ : ∃ p, sk r = p := ⟨_, rfl⟩
  rw [hp] at hq
  have HP := hid hp
  clear h hc hp
  cases p with
  | nil =>
    clear hq
    go_enter Tryd.func67, Tryd.ntmps67
    go_wp2_with fail
    refine (blanks_any HR.out hs).mono ?_
    rintro e w1 ⟨rfl, hR, hx⟩
    have HR2 := hid hR
    rw [HP.out] at hR
    obtain ⟨j, hB, hA⟩ := hR
    have c0 : w1.cell? ⟨b, 0, none⟩ = some (.string s) := hB.cell (i := 0) rfl
    have c1 : w1.cell? ⟨b, 1, none⟩ = some (.int .i64 j) := hB.cell (i := 1) rfl
    have he := hA.nil
    have hne : ((j : Int) == (s.size : Int)) = true := by simp [he]
    have HX := hid hx
    clear hA hB hx he
    go_wp2_with fail
    go_quiet (fail)
    go_wp2_with fail
    go_ret
    obtain ⟨j, hB, hA⟩ := HR2.out
    exact ⟨rfl, ⟨j, hB.drewN _, hA⟩, Chg.drewN HX.out _⟩
  | cons d p =>
    have hdc : d ≠ c := by simpa using hq
    clear hq
    go_enter Tryd.func67, Tryd.ntmps67
    go_wp2_with fail
    refine (blanks_any HR.out hs).mono ?_
    rintro e w1 ⟨rfl, hR, hx⟩
    have HR2 := hid hR
    rw [HP.out] at hR
    obtain ⟨j, hB, hA⟩ := hR
    have c0 : w1.cell? ⟨b, 0, none⟩ = some (.string s) := hB.cell (i := 0) rfl
    have c1 : w1.cell? ⟨b, 1, none⟩ = some (.int .i64 j) := hB.cell (i := 1) rfl
    have hlt := hA.lt
    have hg := hA.get
    have hne : ((j : Int) == (s.size : Int)) = false := beq_eq_false_iff_ne.2 (by omega)
    have hne2 : (((s[j]'hlt).toNat : Int) != ci) = true := by
      rw [hg, HC.out, bne_iff_ne]
      intro e
      exact hdc (UInt8.toNat_inj.1 (by omega))
    have g1 : (0 : Int) ≤ (j : Int) := by omega
    have g2 : (j : Int) < (s.size : Int) := by omega
    have HX := hid hx
    clear hA hB hx hg hdc
    go_wp2_with fail
    go_quiet (fail)
    go_wp2_with fail
    go_ret
    obtain ⟨j, hB, hA⟩ := HR2.out
    exact ⟨rfl, ⟨j, hB.drewN _, hA⟩, Chg.drewN HX.out _⟩

end Go.Proofs.YtngpjagpeblbjaaDoor
