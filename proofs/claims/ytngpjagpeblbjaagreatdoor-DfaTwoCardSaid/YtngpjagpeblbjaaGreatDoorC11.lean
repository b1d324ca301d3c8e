/-
  An automaton that came in has as much room for its words as there are.
-/
import Derived.Test.YtngpjagpeblbjaaGreatDoorC06
namespace Go.Proofs.YtngpjagpeblbjaaGreatDoor
open Go.ChangeShapes Go.WideShapes Go.ChangeAt Go.WideMaps Go.WideElems Go.RowKit Go.Spy Go.Heaped Go.Tour Go.Rx
def CapS (v : Value) : Prop := ∀ ao n c x y, v = .agg #[.slice ao n c, x, y] → n ≤ c
open Go.Joins Go.Deep in
set_option maxRecDepth 100000 in
set_option maxHeartbeats 1000000 in
theorem dfa_cap {H : Type} {enc : TypeId × Value → H} {W : World} {base : Nat} {v : Value} {d : DataW H} {p : List MemPlace} (hv : Value.okWide Tryz.prog W .any base 26 v)
 (h : DataW.Trod enc Tryz.prog W 0 (fun _ => true) true 26 v d p) : CapS v := by
 obtain ⟨cs, rfl, hcz⟩ := okWide_struct Tryz.underlying26 hv
 obtain ⟨v0, v1, v2, rfl⟩ : ∃ v0 v1 v2, cs = #[v0, v1, v2] := by
  obtain ⟨l⟩ := cs
  match l, (hcz.trans c26) with
  | [v0, v1, v2], _ => exact ⟨v0, v1, v2, rfl⟩
 obtain ⟨fuel, hf⟩ := h
 obtain ⟨y0, y1, y2, n, hx, _, h0, h1, h2⟩ := trod_struct3 Tryz.underlying26 hf
 simp only [c22, c23, c24] at h0 h1 h2
 have h0 : DataW.trod enc Tryz.prog W 0 (fun _ => true) true n 22 [v0] = some y0 := by simpa [Value.cells] using h0
 intro ao n' c x y e
 simp only [Value.agg.injEq, Array.mk.injEq, List.cons.injEq, and_true] at e
 obtain ⟨rfl, rfl, rfl⟩ := e
 rcases open_strings Tryz.underlying22 Tryz.underlying9 c9 h0 with ⟨hcs, _⟩ | ⟨a, len, cap, ss, hcs, _, hl, hm, hz, hx, hcell, hws⟩
 ·simp only [List.cons.injEq, and_true, Value.slice.injEq] at hcs
  omega
 ·simp only [List.cons.injEq, and_true, Value.slice.injEq] at hcs
  omega
end Go.Proofs.YtngpjagpeblbjaaGreatDoor
