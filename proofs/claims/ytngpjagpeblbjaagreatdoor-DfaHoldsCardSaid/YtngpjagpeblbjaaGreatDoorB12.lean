/-
  How an argument that is a list of numbers is opened.
-/
import Derived.Deep.Matrix
import Derived.Deep.Grids
import Derived.Deep.Strs
import Derived.Outline
import Derived.Test.YtngpjagpeblbjaaGreatDoorB10
import Derived.Test.YtngpjagpeblbjaaGreatDoorB03
import Derived.Test.YtngpjagpeblbjaaGreatDoorB01
namespace Go.Proofs.YtngpjagpeblbjaaGreatDoor
open Go.ChangeShapes Go.WideShapes Go.ChangeAt Go.WideMaps Go.WideElems Go.RowKit Go.Spy Go.Heaped Go.Tour Go.Rx
theorem getD_get {l : List Int} {i : Nat} (h : i < l.length) : l.getD i 0 = l[i] := by simp [List.getD_eq_getElem?_getD, h]
set_option maxRecDepth 100000 in
theorem ints_arg {H : Type} {enc : TypeId × Value → H} {W : World} {base : Nat} {v : Value} {d : DataW H} {p : List MemPlace} (hv : Value.okWide Tryz.prog W .any base 46 v)
 (h : DataW.Trod enc Tryz.prog W 0 (fun _ => true) true 46 v d p) : ∃ a n c xs, v = .slice a n c ∧ n ≤ 9223372036854775807 ∧ ReadR W 1 intZ (.slice a n c) xs := by
 obtain ⟨a0, len, cap, rfl⟩ := okWide_slice Tryz.underlying46 hv
 obtain ⟨fuel, hf⟩ := h
 rcases open_ints Tryz.underlying46 Tryz.underlying3 c3 hf with ⟨hcs, _⟩ | ⟨a, len', cap', zs, hcs, _, hl, hm, hz, hx, hcell, _⟩
 ·simp [Value.cells] at hcs
  obtain ⟨rfl, rfl, rfl⟩ := hcs
  exact ⟨none, 0, 0, [], rfl, Nat.zero_le _, read_none⟩
 ·simp [Value.cells] at hcs
  obtain ⟨rfl, rfl, rfl⟩ := hcs
  simp only [if_true] at hz
  have htl : (zs.take len).length = len := by simp; omega
  unfold maxLen at hm
  refine ⟨some a, len, cap, zs.take len, rfl, by omega, ?_⟩
  have hr := read_of_add (W := W) (f := intZ) (a := a) (l := zs.take len) (c := cap) fun i x hx => by
   have hi : i < len := by rw [← htl]; exact (List.getElem?_eq_some_iff.1 hx).1
   have hc := hcell i (by omega)
   refine ⟨.int .i64 x, rfl, ?_⟩
   rw [hc, getD_get (by omega)]
   have h1 := (List.getElem?_eq_some_iff.1 hx).2
   rw [List.getElem_take] at h1
   rw [h1]
  rw [htl] at hr
  exact hr
end Go.Proofs.YtngpjagpeblbjaaGreatDoor
