/-
  How an argument that is an automaton is opened.
-/
import Derived.Deep.Matrix
import Derived.Deep.Grids
import Derived.Deep.Strs
import Derived.Test.YtngpjagpeblbjaaGreatDoorRows
import Derived.ProofKit
import Derived.LaidMore
import Derived.OpenShut
import Derived.Stop.Joined
import Derived.Lib.SmallJoins
import Derived.Deep.SlicePairs
import Derived.Lib.TrailingZeros
import Derived.Deep.AppendLies
import Derived.BigRegion
import Derived.Deep.Draws
import Derived.Laws.ResultCell
import Derived.Laws.CopyRow
import Derived.Laws.OwnMore
import Derived.Test.YtngpjagpeblbjaaGreatDoorY01
namespace Go.Proofs.YtngpjagpeblbjaaGreatDoor
open Go.ChangeShapes Go.WideShapes Go.ChangeAt Go.WideMaps Go.WideElems Go.RowKit Go.Spy Go.Heaped Go.Tour Go.Rx
theorem c46 : Tryz.prog.cellsOf 46 = 1 := by kernel_rfl
theorem c24 : Tryz.prog.cellsOf 24 = 1 := by kernel_rfl
theorem c23 : Tryz.prog.cellsOf 23 = 1 := by kernel_rfl
theorem c22 : Tryz.prog.cellsOf 22 = 1 := by kernel_rfl
theorem c26 : Tryz.prog.cellsOf 26 = 3 := by kernel_rfl
theorem b46 : Tryz.prog.bytesOf 46 = 24 := by kernel_rfl
open Go.Joins Go.Deep in
set_option maxRecDepth 100000 in
set_option maxHeartbeats 1000000 in
theorem dfa_arg {H : Type} {enc : TypeId × Value → H} {W : World} {base : Nat} {v : Value} {d : DataW H} {p : List MemPlace} (hv : Value.okWide Tryz.prog W .any base 26 v)
 (h : DataW.Trod enc Tryz.prog W 0 (fun _ => true) true 26 v d p) {ts : List TypeId} {ds : List (DataW H)} (hsz : (DataW.weightsEach Tryz.prog ts ds).all (· ≤ reachBytes) = true) {j : Nat} (ht : ts[j]? = some 26) (hd : ds[j]? = some d) :
 ∃ D : DR, DfaV W v D ∧ LenD D := by
 obtain ⟨cs, rfl, hcz⟩ := okWide_struct Tryz.underlying26 hv
 obtain ⟨v0, v1, v2, rfl⟩ : ∃ v0 v1 v2, cs = #[v0, v1, v2] := by
  obtain ⟨l⟩ := cs
  match l, (hcz.trans c26) with
  | [v0, v1, v2], _ => exact ⟨v0, v1, v2, rfl⟩
 obtain ⟨fuel, hf⟩ := h
 obtain ⟨y0, y1, y2, n, hx, _, h0, h1, h2⟩ := trod_struct3 Tryz.underlying26 hf
 simp only [Prod.mk.injEq] at hx
 obtain ⟨rfl, rfl⟩ := hx
 simp only [c22, c23, c24] at h0 h1 h2
 have h0 : DataW.trod enc Tryz.prog W 0 (fun _ => true) true n 22 [v0] = some y0 := by simpa [Value.cells] using h0
 have h1 : DataW.trod enc Tryz.prog W 0 (fun _ => true) true n 23 [v1] = some y1 := by simpa [Value.cells] using h1
 have h2 : DataW.trod enc Tryz.prog W 0 (fun _ => true) true n 24 [v2] = some y2 := by simpa [Value.cells] using h2
 have hsz2 : (DataW.weightsEach Tryz.prog [22, 23, 24] [y0.1, y1.1, y2.1]).all (· ≤ reachBytes) = true := List.all_eq_true.2 fun n hn =>
  List.all_eq_true.1 hsz n (DataW.weights_mem_each ht hd n (by simpa [DataW.weights, Tryz.underlying26] using hn))
 obtain ⟨d0, p0⟩ := y0
 obtain ⟨d1, p1⟩ := y1
 obtain ⟨d2, p2⟩ := y2
 simp only at hsz2
 have hS : ∃ ss : List ByteArray, ReadR W 1 strC v0 ss ∧ MildS ss := by
  rcases open_strings Tryz.underlying22 Tryz.underlying9 c9 h0 with ⟨hcs, _⟩ | ⟨a, len, cap, ss, hcs, _, hl, hm, hz, hx, hcell, hws⟩
  ·simp only [List.cons.injEq, and_true] at hcs
   subst hcs
   exact ⟨[], read_none, ⟨by simp, fun s hs => by cases hs⟩⟩
  ·simp only [List.cons.injEq, and_true] at hcs
   simp only [Prod.mk.injEq] at hx
   obtain ⟨rfl, rfl⟩ := hx
   subst hcs
   simp only [if_true] at hz
   have hreach := sized_slice hsz2 (j := 0) (t := 22) (e := 9) rfl rfl Tryz.underlying22
   rw [b9] at hreach
   simp only [strs, List.length_map, List.length_take, List.length_drop, reachBytes] at hreach
   have htl : (ss.take len).length = len := by simp; omega
   refine ⟨ss.take len, ?_, ⟨by rw [htl]; omega, fun s hs => ?_⟩⟩
   ·have h := read_of_add (W := W) (f := strC) (a := a) (l := ss.take len) (c := cap) (fun i x hx => by
     have hi : i < len := by rw [← htl]; exact (List.getElem?_eq_some_iff.1 hx).1
     refine ⟨.string x, rfl, ?_⟩
     rw [hcell i (by omega)]
     rw [List.getElem?_take_of_lt hi] at hx
     rw [List.getD_eq_getElem?_getD, hx]; rfl)
    rwa [htl] at h
   ·have := hws s (List.mem_of_mem_take hs)
    unfold maxLen at this
    omega
 have hF : ∃ bs : List Bool, ReadR W 1 boolC v2 bs ∧ bs.length ≤ 140737488351232 := by
  rcases open_bools Tryz.underlying24 Tryz.underlying4 c4 h2 with ⟨hcs, _⟩ | ⟨a, len, cap, B, hcs, _, hl, hm, hx, hcell⟩
  ·simp only [List.cons.injEq, and_true] at hcs
   subst hcs
   exact ⟨[], read_none, by simp⟩
  ·simp only [List.cons.injEq, and_true] at hcs
   subst hcs
   simp only [Prod.mk.injEq] at hx
   obtain ⟨rfl, rfl⟩ := hx
   have hreach : len * 1 ≤ reachBytes := by
    have h := List.all_eq_true.1 hsz2
    have h3 := h _ (DataW.weights_mem_each (j := 2) rfl rfl ((len + (cap - len)) * Tryz.prog.bytesOf 4) (by simp [boolRow, DataW.weights, Tryz.underlying24]))
    rw [b4] at h3
    simp only [decide_eq_true_eq] at h3
    omega
   simp only [reachBytes] at hreach
   have hlen : ((List.range len).map B).length = len := by simp
   refine ⟨(List.range len).map B, ?_, by rw [hlen]; omega⟩
   have h := read_of_add (W := W) (f := boolC) (a := a) (l := (List.range len).map B) (c := cap) (fun i x hx => by
    have hi : i < len := by rw [← hlen]; exact (List.getElem?_eq_some_iff.1 hx).1
    refine ⟨.bool x, rfl, ?_⟩
    rw [hcell i (by omega)]
    rw [List.getElem?_map, List.getElem?_range hi] at hx
    simp only [Option.map_some, Option.some.injEq] at hx
    rw [hx])
   rwa [hlen] at h
 have hN : ∃ (us : List Value) (rs : List (List Int)), ReadR W 1 oneA v1 us ∧ us.length = rs.length ∧ rs.length ≤ 140737488351232 ∧ (∀ r ∈ rs, r.length ≤ 9223372036854775807) ∧ ∀ (i : Nat) (u : Value) (r : List Int), us[i]? = some u → rs[i]? = some r → ReadR W 1 intZ u r := by
  rcases open_int_rows Tryz.underlying23 Tryz.underlying46 Tryz.underlying3 c46 c3 h1 with ⟨hcs, _⟩ | ⟨a, len, cap, A, L, C, Z, hcs, _, hl, hm, hx, hrow⟩
  ·simp only [List.cons.injEq, and_true] at hcs
   subst hcs
   exact ⟨[], [], read_none, rfl, by simp, by simp, by simp⟩
  ·simp only [List.cons.injEq, and_true] at hcs
   subst hcs
   simp only [Prod.mk.injEq] at hx
   obtain ⟨rfl, rfl⟩ := hx
   have hreach := sized_slice hsz2 (j := 1) (t := 23) (e := 46) rfl rfl Tryz.underlying23
   rw [b46] at hreach
   simp only [List.length_map, List.length_range, reachBytes] at hreach
   have hlen : ((List.range len).map fun r => Value.slice (A r) (L r) (C r)).length = len := by simp
   refine ⟨(List.range len).map fun r => .slice (A r) (L r) (C r), (List.range len).map fun r => (Z r).take (L r), ?_, by simp, by simp; omega, fun r hr => ?_, fun i u r hu hr => ?_⟩
   ·have h := read_of_add (W := W) (f := oneA) (a := a) (l := (List.range len).map fun r => Value.slice (A r) (L r) (C r)) (c := cap) (fun i x hx => by
     have hi : i < len := by rw [← hlen]; exact (List.getElem?_eq_some_iff.1 hx).1
     rw [List.getElem?_map, List.getElem?_range hi] at hx
     simp only [Option.map_some, Option.some.injEq] at hx
     subst hx
     exact ⟨_, rfl, (hrow i (by omega)).1⟩)
    rwa [hlen] at h
   ·simp only [List.mem_map, List.mem_range] at hr
    obtain ⟨i, hi, rfl⟩ := hr
    obtain ⟨_, h2, h3, h4, _, _, _⟩ := hrow i (by omega)
    unfold maxLen at h3
    simp; omega
   ·have hi : i < len := by rw [← hlen]; exact (List.getElem?_eq_some_iff.1 hu).1
    rw [List.getElem?_map, List.getElem?_range hi] at hu hr
    simp only [Option.map_some, Option.some.injEq] at hu hr
    subst hu hr
    obtain ⟨h1, h2, h3, h4, h5, h6, h7⟩ := hrow i (by omega)
    have htl : ((Z i).take (L i)).length = L i := by simp; omega
    cases hA : A i with
    | none =>
      have := h6 hA
      have h0 : L i = 0 := by omega
      refine ⟨none, C i, by rw [htl], .inl (by rw [htl]; exact h0)⟩
    | some a' =>
      obtain ⟨_, h8⟩ := h7 a' hA
      have h := read_of_add (W := W) (f := intZ) (a := a') (l := (Z i).take (L i)) (c := C i) (fun j x hx => by
       have hj : j < L i := by rw [← htl]; exact (List.getElem?_eq_some_iff.1 hx).1
       refine ⟨.int .i64 x, rfl, ?_⟩
       rw [h8 j (by omega)]
       rw [List.getElem?_take_of_lt hj] at hx
       rw [List.getD_eq_getElem?_getD, hx]; rfl)
      rwa [htl] at h
 obtain ⟨ss, hs1, hs2⟩ := hS
 obtain ⟨bs, hb1, hb2⟩ := hF
 obtain ⟨us, rs, hr1, hr2, hr3, hr4, hr5⟩ := hN
 exact ⟨⟨ss, rs, bs⟩, ⟨v0, v1, v2, us, rfl, hs1, hr1, hr2, hr5, hb1⟩, hs2, hr3, hb2, hr4⟩
end Go.Proofs.YtngpjagpeblbjaaGreatDoor
