/-
  The data of a plan in memory; walk of root.
-/
import Derived.Test.YtngpjagpeblbjaaDoorZW10
namespace Go.Proofs.YtngpjagpeblbjaaDoor
open Go.RowKit Go.Spy Go.Rx

/-- The nodes lie where a slice value says. -/
structure NodesV (w : World) (ao : Option Addr) (l : List Nd) : Prop where
  len : l.length ≤ 4398046511104
  size : ∀ (i : Nat) (n : Nd), l[i]? = some n → n.sym.size ≤ 9223372036854775807
  cells : 0 < l.length → ∃ b off, ao = some ⟨b, off, none⟩ ∧ b < w.heap.size ∧ ∀ (i : Nat) (n : Nd), l[i]? = some n →
    w.cell? ⟨b, off + i * 4, none⟩ = some (.int .i64 n.op) ∧ w.cell? ⟨b, off + i * 4 + 1, none⟩ = some (.string n.sym) ∧ w.cell? ⟨b, off + i * 4 + 2, none⟩ = some (.int .i64 n.a) ∧ w.cell? ⟨b, off + i * 4 + 3, none⟩ = some (.int .i64 n.b)

section
variable {w w' : World} {ao : Option Addr} {l : List Nd}
theorem NodesV.chg (h : NodesV w ao l) {S : Nat → Prop} (e : Chg S w w') (hS : ∀ b off, ao = some ⟨b, off, none⟩ → ¬ S b) : NodesV w' ao l where
  len := h.len
  size := h.size
  cells h0 := by
    obtain ⟨b, off, ha, hb, hc⟩ := h.cells h0
    refine ⟨b, off, ha, Nat.lt_of_lt_of_le hb e.size, fun i n hn => ?_⟩
    have k : ∀ o, w'.cell? ⟨b, o, none⟩ = w.cell? ⟨b, o, none⟩ := fun o => cell_of_chg (a := ⟨b, o, none⟩) e hb (hS b off ha)
    simp only [k]
    exact hc i n hn
theorem NodesV.ext (h : NodesV w ao l) (e : Ext w w') : NodesV w' ao l where
  len := h.len
  size := h.size
  cells h0 := by
    obtain ⟨b, off, ha, hb, hc⟩ := h.cells h0
    refine ⟨b, off, ha, Nat.lt_of_lt_of_le hb e.size, fun i n hn => ?_⟩
    have k : ∀ o, w'.cell? ⟨b, o, none⟩ = w.cell? ⟨b, o, none⟩ := fun o => e.cell (p := ⟨b, o, none⟩) hb
    simp only [k]
    exact hc i n hn
end

def factsOf (l : List Nd) : List Fact := (List.range l.length).map fun i => factT (tr l i)
def aboveV (l : List Nd) (k : Nat) : Array Value := ((List.range l.length).map fun j => Value.int .i64 (up l k j)).toArray
theorem factsOf_get {l : List Nd} {i : Nat} (h : i < l.length) : (factsOf l)[i]? = some (factT (tr l i)) := by simp [factsOf, h]
theorem factsOf_len (l : List Nd) : (factsOf l).length = l.length := by simp [factsOf]
theorem aboveV_get {l : List Nd} {k j : Nat} (h : j < l.length) : (aboveV l k)[j]? = some (.int .i64 (up l k j)) := by simp [aboveV, h]
theorem aboveV_size (l : List Nd) (k : Nat) : (aboveV l k).size = l.length := by simp [aboveV]

/-- A plan of nodes. -/
structure PlanW (w : World) (ao : Option Addr) (l : List Nd) (bF bA : Nat) : Prop where
  nodes : NodesV w ao l
  facts : Blk w bF 60 (rowV factV (factsOf l))
  above : Blk w bA 3 (aboveV l l.length)
def planC (ao : Option Addr) (n cap bF bA : Nat) : Array Value := #[.slice ao n cap, .slice (some ⟨bF, 0, none⟩) n n, .slice (some ⟨bA, 0, none⟩) n n]

theorem PlanW.ext {w w' : World} {ao : Option Addr} {l : List Nd} {bF bA : Nat} (h : PlanW w ao l bF bA) (e : Ext w w') : PlanW w' ao l bF bA := ⟨h.nodes.ext e, h.facts.ext e, h.above.ext e⟩
theorem PlanW.fact {w : World} {ao : Option Addr} {l : List Nd} {bF bA : Nat} (h : PlanW w ao l bF bA) {i j : Nat} (hi : i < l.length) (hj : j < 34) : w.cell? ⟨bF, i * 34 + j, none⟩ = (factV (factT (tr l i)))[j]? := by
  have h1 := rowV_get (f := factV) (s := 34) factV_size (factsOf_get hi) hj
  cases h2 : (factV (factT (tr l i)))[j]? with
  | none => have := Array.getElem?_eq_none_iff.1 h2; rw [factV_size] at this; omega
  | some v => rw [h2] at h1; exact h.facts.cell h1

theorem root_any (w : World) (ao : Option Addr) (n cap bF bA : Nat) (hn : 0 < n) (hN : n ≤ 1024) :
    Calls Tryd.prog 24 #[.agg (planC ao n cap bF bA)] w fun e w' => e = .returned (.pointer (some ⟨bF, (n - 1) * 34, none⟩)) ∧ Ext w w' := by
  unfold planC
  go_enter Tryd.func24, Tryd.ntmps24
  go_wp2
  go_ret
  exact ⟨by simp, (Below.refl _ _).alloc (Nat.le_refl _) _⟩

end Go.Proofs.YtngpjagpeblbjaaDoor
