/-
  Slices of strings that read as lists. No program is named here.
-/
import Derived.Test.YtlghkcamnfegdaaL1
namespace Go.Spy
open Go.RowKit

/-- The slice value (address, length of ss, capacity) reads as the strings. -/
structure StrsV (w : World) (ao : Option Addr) (cap : Nat) (ss : List ByteArray) : Prop where
  len : ss.length ≤ 140737488351232
  size : ∀ i (h : i < ss.length), ss[i].size ≤ 9223372036854775807
  cells : 0 < ss.length → ∃ b off, ao = some ⟨b, off, none⟩ ∧ b < w.heap.size ∧ ∀ i (h : i < ss.length), w.cell? ⟨b, off + i, none⟩ = some (.string ss[i])

theorem StrsV.below {B : Nat} {w w' : World} {ao : Option Addr} {cap : Nat} {ss : List ByteArray} (h : StrsV w ao cap ss) (e : Below B w w') (hB : ∀ b off, ao = some ⟨b, off, none⟩ → b < B) : StrsV w' ao cap ss where
  len := h.len
  size := h.size
  cells h0 := by
    obtain ⟨b, off, ha, hb, hc⟩ := h.cells h0
    exact ⟨b, off, ha, Nat.lt_of_lt_of_le hb e.size, fun i hi => (e.cell (p := ⟨b, off + i, none⟩) (hB b off ha)).trans (hc i hi)⟩
theorem StrsV.ext {w w' : World} {ao : Option Addr} {cap : Nat} {ss : List ByteArray} (h : StrsV w ao cap ss) (e : Ext w w') : StrsV w' ao cap ss where
  len := h.len
  size := h.size
  cells h0 := by
    obtain ⟨b, off, ha, hb, hc⟩ := h.cells h0
    exact ⟨b, off, ha, Nat.lt_of_lt_of_le hb e.size, fun i hi => (e.cell (p := ⟨b, off + i, none⟩) hb).trans (hc i hi)⟩
theorem StrsV.chg {S : Nat → Prop} {w w' : World} {ao : Option Addr} {cap : Nat} {ss : List ByteArray} (h : StrsV w ao cap ss) (e : Chg S w w') (hS : ∀ b off, ao = some ⟨b, off, none⟩ → ¬ S b) : StrsV w' ao cap ss where
  len := h.len
  size := h.size
  cells h0 := by
    obtain ⟨b, off, ha, hb, hc⟩ := h.cells h0
    exact ⟨b, off, ha, Nat.lt_of_lt_of_le hb e.size, fun i hi => (World.cell?_of_block (a := ⟨b, off + i, none⟩) (e.block b hb (hS b off ha))).trans (hc i hi)⟩
/-- A slice's head. -/
theorem StrsV.take {w : World} {ao : Option Addr} {cap : Nat} {ss : List ByteArray} (h : StrsV w ao cap ss) (n c' : Nat) : StrsV w ao c' (ss.take n) where
  len := by have := h.len; simp; omega
  size i hi := by
    have : i < ss.length := by simp at hi; omega
    simpa using h.size i this
  cells h0 := by
    obtain ⟨b, off, ha, hb, hc⟩ := h.cells (by simp at h0; omega)
    refine ⟨b, off, ha, hb, fun i hi => ?_⟩
    have : i < ss.length := by simp at hi; omega
    simpa using hc i this

/-- What the call has built by append or a literal reads so. -/
theorem strs_of_owns {w : World} {base : Nat} {e : TypeId} {v : Value} {n : Nat} {ss : List ByteArray} (h : w.ownsRow base e 1 v n (ss.map Value.string))
    (hl : ss.length ≤ 140737488351232) (hs : ∀ s ∈ ss, s.size ≤ 9223372036854775807) : ∃ ao cap, v = .slice ao ss.length cap ∧ ss.length ≤ cap ∧ StrsV w ao cap ss := by
  have hn : n = ss.length := by have := h.1; simp at this; omega
  subst hn
  rcases h.2 with ⟨rfl, h0⟩ | ⟨g, cap, cur, rfl, hg, hh, hnc, hcm, hcs, ht⟩
  · refine ⟨none, 0, by rw [h0], by omega, ⟨hl, fun i hi => hs _ (List.getElem_mem _), fun h1 => by omega⟩⟩
  · refine ⟨_, cap, rfl, hnc, ⟨hl, fun i hi => hs _ (List.getElem_mem _), fun _ => ⟨g, 0, rfl, (Array.getElem?_eq_some_iff.1 hh).1, fun i hi => ?_⟩⟩⟩
    have h1 : (cur.toList.take (ss.length * 1))[i]? = (ss.map Value.string)[i]? := by rw [ht]
    have h2 : cur[i]? = some (.string ss[i]) := by
      rw [List.getElem?_take, if_pos (by omega)] at h1
      simpa [hi] using h1
    simp [World.cell?, hh, h2]
theorem owns_literal (w : World) (base : Nat) (e : TypeId) (vs : List Value) (hb : base ≤ w.heap.size) (hm : vs.length ≤ maxLen) :
    (w.alloc (.cells vs.toArray e)).ownsRow base e 1 (.slice (some ⟨w.heap.size, 0, none⟩) vs.length vs.length) vs.length vs :=
  ⟨by simp, .inr ⟨w.heap.size, vs.length, vs.toArray, rfl, hb, heap_alloc_new w _, Nat.le_refl _, hm, by simp, by simp⟩⟩
end Go.Spy
