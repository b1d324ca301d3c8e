/-
  The plain numbers of ArgsTurns: which part stands where, and what the row of words holds; no walk.
-/
import Derived.Test.YtoknhfmgkgmlhaaDoorV4
import Derived.Test.YtoknhfmgkgmlhaaDoorP4
namespace Go.Proofs.YtoknhfmgkgmlhaaDoor
open Go.RowKit Go.Spy
def turnIdx (n : Int) (k t : Nat) : Nat :=
  let a := ((n.tmod k + k).tmod k + t).tmod k
  (if n < 0 then (k : Int) - 1 - a else a).toNat
theorem turn_num (n : Int) (K t : Nat) (h0 : 0 < K) (hK : K ≤ 3) (ht : t < K) :
    ∃ a : Nat, a < K ∧ (wrap64 ((wrap64 (n.tmod ↑K + ↑K)).tmod ↑K + ↑t)).tmod ↑K = (a : Int) ∧ turnIdx n K t = (if n < 0 then K - 1 - a else a) := by
  have h1 := Int.tmod_lt_of_pos n (show (0 : Int) < K by omega)
  have h2 : -(K : Int) < n.tmod K := by have := Int.tmod_lt_of_pos (-n) (show (0 : Int) < K by omega); rw [Int.neg_tmod] at this; omega
  have e1 : wrap64 (n.tmod K + K) = n.tmod K + K := (by unfold wrap64; omega)
  have e2 := Int.tmod_nonneg (K : Int) (show 0 ≤ n.tmod K + K by omega)
  have e3 := Int.tmod_lt_of_pos (n.tmod K + K) (show (0 : Int) < K by omega)
  have e4 : wrap64 ((n.tmod K + K).tmod K + t) = (n.tmod K + K).tmod K + t := (by unfold wrap64; omega)
  have e5 := Int.tmod_nonneg (K : Int) (show 0 ≤ (n.tmod K + K).tmod K + t by omega)
  have e6 := Int.tmod_lt_of_pos ((n.tmod K + K).tmod K + t) (show (0 : Int) < K by omega)
  refine ⟨(((n.tmod K + K).tmod K + t).tmod K).toNat, by omega, by rw [e1, e4]; omega, ?_⟩
  unfold turnIdx
  generalize ((n.tmod K + K).tmod K + t).tmod K = a at *
  simp only
  split <;> omega
theorem turn_case (K : Nat) (n : Int) (h0 : 0 < K) : ∃ i : Nat, i < K ∧ (n.tmod K = (i : Int) ∨ n.tmod K = (i : Int) - K) := by
  have h1 := Int.tmod_lt_of_pos n (show (0 : Int) < K by omega)
  have h2 : -(K : Int) < n.tmod K := by have := Int.tmod_lt_of_pos (-n) (show (0 : Int) < K by omega); rw [Int.neg_tmod] at this; omega
  by_cases h : 0 ≤ n.tmod K
  · exact ⟨(n.tmod K).toNat, by omega, by omega⟩
  · exact ⟨(n.tmod K + K).toNat, by omega, by omega⟩
theorem turn_at {n : Int} {K i : Nat} (h0 : 0 < K) (hi : i < K) (h : n.tmod K = (i : Int) ∨ n.tmod K = (i : Int) - K) (t : Nat) : turnIdx n K t = (if n < 0 then (K : Int) - 1 - (((i + t) % K : Nat) : Int) else (((i + t) % K : Nat) : Int)).toNat := by
  have e : (n.tmod K + K).tmod K = (i : Int) := by
    rcases h with h | h
    · rw [h, show ((i : Int) + K) = ((i + K : Nat) : Int) by omega, ← Int.ofNat_tmod, Nat.add_mod_right, Nat.mod_eq_of_lt hi]
    · rw [h, show ((i : Int) - K + K) = (i : Int) by omega, ← Int.ofNat_tmod, Nat.mod_eq_of_lt hi]
  unfold turnIdx
  simp only [e]
  rw [show ((i : Int) + t) = ((i + t : Nat) : Int) by omega, ← Int.ofNat_tmod]
theorem turns_order (Ps : List (List ByteArray)) (n : Int) (h : Ps.length ≤ 3) : Order3 Ps ((List.range Ps.length).map fun t => Ps.getD (turnIdx n Ps.length t) []) := by
  by_cases h0 : 0 < Ps.length
  · obtain ⟨i, hi, hc⟩ := turn_case Ps.length n h0
    have ha := turn_at h0 hi hc
    simp only [ha]
    clear ha hc
    match Ps, h, hi with
    | [a], _, hi =>
      obtain rfl : i = 0 := by simpa using hi
      by_cases hn : n < 0 <;> simp [hn, List.range_succ] <;> constructor
    | [a, b], _, hi =>
      rcases (show i = 0 ∨ i = 1 by simp at hi; omega) with rfl | rfl <;> by_cases hn : n < 0 <;> simp [hn, List.range_succ] <;> constructor
    | [a, b, c], _, hi =>
      rcases (show i = 0 ∨ i = 1 ∨ i = 2 by simp at hi; omega) with rfl | rfl | rfl <;> by_cases hn : n < 0 <;> simp [hn, List.range_succ] <;> constructor
    | _ :: _ :: _ :: _ :: _, h, _ => simp at h
  · obtain rfl : Ps = [] := List.length_eq_zero_iff.1 (by omega)
    exact .nil
def turned (mw : ByteArray) (Ps : List (List ByteArray)) (n : Int) (t : Nat) : List ByteArray :=
  mw :: ((List.range t).map fun t => Ps.getD (turnIdx n Ps.length t) []).flatten
theorem turned_succ (mw : ByteArray) (Ps : List (List ByteArray)) (n : Int) {t p : Nat} (hp : p < Ps.length) (h : turnIdx n Ps.length t = p) : turned mw Ps n (t + 1) = turned mw Ps n t ++ Ps[p] := by
  subst h
  simp [turned, List.range_succ, hp]
theorem turned_len (mw : ByteArray) {Ps : List (List ByteArray)} (h : ∀ p (h : p < Ps.length), Ps[p].length ≤ 10) (n : Int) (t : Nat) : (turned mw Ps n t).length ≤ 1 + 10 * t := by
  induction t with
  | zero => simp [turned]
  | succ t ih =>
    by_cases hp : turnIdx n Ps.length t < Ps.length
    · rw [turned_succ mw Ps n hp rfl, List.length_append]
      have := h _ hp
      omega
    · have : turned mw Ps n (t + 1) = turned mw Ps n t := by simp [turned, List.range_succ, hp]
      rw [this]; omega
theorem turned_sizes {mw : ByteArray} {Ps : List (List ByteArray)} (hm : mw.size ≤ 9223372036854775807) (h : ∀ p (h : p < Ps.length), ∀ s ∈ Ps[p], s.size ≤ 9223372036854775807) (n : Int) (t : Nat) : ∀ s ∈ turned mw Ps n t, s.size ≤ 9223372036854775807 := by
  induction t with
  | zero => intro s hs; simp [turned] at hs; subst hs; exact hm
  | succ t ih =>
    by_cases hp : turnIdx n Ps.length t < Ps.length
    · rw [turned_succ mw Ps n hp rfl]
      intro s hs
      rcases List.mem_append.1 hs with hs | hs
      · exact ih s hs
      · exact h _ hp s hs
    · have : turned mw Ps n (t + 1) = turned mw Ps n t := by simp [turned, List.range_succ, hp]
      rw [this]; exact ih
theorem turned_parse {c : Cmd} (h : mayB c = true) {k : Nat} (h0 : 0 < k) (hk : k < 6) (hm : c.mode = (k : Int)) {Ps : List (List ByteArray)} (HPs : Hid (Ps = partsOf c)) {mw : ByteArray} (HMW : Hid (mw = modeWord k)) (hl : Ps.length ≤ 3) (n : Int) :
    Hid (parseL (turned mw Ps n Ps.length) = (c, 0, 0)) ∧ ∀ (hp : 0 < Ps.length), Hid (parseL (turned mw Ps n Ps.length ++ Ps[0]) = (zeroC, (turned mw Ps n Ps.length).length, 15)) := by
  have ho := turns_order Ps n hl
  have h1 := HPs.out
  have h2 := HMW.out
  subst h1 h2
  obtain ⟨h3, h4⟩ := turns_parse h h0 hk hm _ ho
  refine ⟨h3, fun hp => ?_⟩
  have := h4 (partsOf c)[0] (by rw [List.head?_eq_getElem?]; simp [hp])
  simp only [Hid, turned, List.cons_append, this, List.length_cons, Nat.add_comm]
theorem modeWord_size (k : Nat) (hk : k < 6) : (modeWord k).size ≤ 9223372036854775807 := by
  rcases (show k = 0 ∨ k = 1 ∨ k = 2 ∨ k = 3 ∨ k = 4 ∨ k = 5 by omega) with rfl | rfl | rfl | rfl | rfl | rfl <;> decide
end Go.Proofs.YtoknhfmgkgmlhaaDoor
