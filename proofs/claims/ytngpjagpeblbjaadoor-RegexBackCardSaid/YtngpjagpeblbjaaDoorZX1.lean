/-
  What the laid table gives, and how an argument that is a regular expression, or a row of words, is opened.
-/
import Derived.Test.YtngpjagpeblbjaaDoorZW5
import Derived.Test.YtngpjagpeblbjaaDoorZW11
import Derived.Test.YtngpjagpeblbjaaDoorRows
import Derived.ProofKit
import Derived.LaidMore
import Derived.OpenShut
import Derived.Stop.Joined
import Derived.Lib.SmallJoins
import Derived.Deep.SlicePairs
namespace Go.Proofs.YtngpjagpeblbjaaDoor
open Go.ChangeShapes Go.WideShapes Go.ChangeAt Go.WideMaps Go.WideElems Go.RowKit Go.Spy Go.Rx

def laidR {H : Type} : List (String × DataW H) := [("math/bits.deBruijn64tab", Rows.laid_math_bits_deBruijn64tab)]

theorem own : ownKnob Tryd.prog.godebug = none := by kernel_rfl
theorem gTab : Tryd.prog.globalNamed "math/bits.deBruijn64tab" = some 0 := by kernel_rfl
theorem tTab : (Tryd.prog.globals[(0 : Nat)]?).map (·.type) = some 94 := by kernel_rfl

theorem door_met (os : Os) (args : Array Value) : laidMetH Tryd.prog laidR ((World.doorLaid Tryd.prog 400 os).forCall (fun _ _ => 0) ⟨#[], args, []⟩).memory :=
  laidMetH_of_parts3 (fuel := 8) (laidMet_of_run' 8 (by kernel_rfl) (by kernel_rfl)) (by kernel_rfl) (by kernel_rfl)

theorem block_of_cell {w : World} {b o : Nat} {v : Value} (h : w.cell? ⟨b, o, none⟩ = some v) : ∃ vs t ls, w.heap[b]? = some (.cells vs t ls) ∧ vs[o]? = some v := by
  simp only [World.cell?] at h
  split at h
  · exact ⟨_, _, _, by assumption, by simpa using h⟩
  · cases h

theorem cu8 : Tryd.prog.cellsOf 5 = 1 := by kernel_rfl
theorem laid_list {H : Type} : (Rows.laid_math_bits_deBruijn64tab : DataW H) = .agg (Lib.deBruijn64tab.map fun (k : Nat) => .lit (.int .u8 (k : Int))) := by kernel_rfl

theorem tab_of_laid {W : World} (h : laidMetH Tryd.prog laidR W) : TabW W := by
  rw [MakeChecks.laidMetH_plain _ _ _ (by kernel_rfl)] at h
  obtain ⟨ps, ⟨g0, t0, cs0, f0, p0, q0, hg0, ht0, hv0, hd0, _⟩, _⟩ := h
  obtain rfl := Option.some.inj (gTab.symm.trans hg0)
  obtain rfl := Option.some.inj (tTab.symm.trans ht0)
  obtain ⟨xs, m1, rfl, hx1, hlen, hn3, hel⟩ := DataW.trod_array Tryd.underlying94 hd0
  simp only [Prod.mk.injEq] at hx1
  have hmap : xs.map (·.1) = Lib.deBruijn64tab.map fun (k : Nat) => (.lit (.int .u8 (k : Int)) : DataW _) := by
    have := hx1.1
    rw [laid_list] at this
    simp only [DataW.agg.injEq] at this
    exact this.symm
  have key : ∀ i, i < 64 → W.cell? ⟨0, i, none⟩ = some (.int .u8 (Lib.deBruijn64tab.getD i 0)) := by
    intro i hi
    obtain ⟨x, hx⟩ : ∃ x, xs[i]? = some x := ⟨xs[i], List.getElem?_eq_getElem (by omega)⟩
    have h1 := hel i hi
    rw [hx, cu8, Nat.mul_one] at h1
    obtain ⟨z, e1, e2, _⟩ := DataW.trod_int Tryd.underlying5 h1
    have hc : cs0.toList[i]? = some (.int .u8 z) := by
      have := congrArg List.head? e1
      simpa [List.head?_take, List.head?_drop] using this
    have hd : (xs.map (·.1))[i]? = some (.lit (.int .u8 z)) := by rw [List.getElem?_map, hx, e2]; rfl
    rw [hmap, List.getElem?_map] at hd
    have hl64 : Lib.deBruijn64tab.length = 64 := rfl
    have hz : z = (Lib.deBruijn64tab.getD i 0 : Nat) := by
      rw [List.getElem?_eq_getElem (by omega)] at hd
      simp only [Option.map_some, Option.some.injEq, DataW.lit.injEq, Lit.int.injEq, true_and] at hd
      rw [← hd, List.getD_eq_getElem?_getD, List.getElem?_eq_getElem (by omega)]; rfl
    subst hz
    have := World.var?_cell hg0 hv0 i
    rw [this]
    simpa using hc
  obtain ⟨vs, t, ls, hb, _⟩ := block_of_cell (key 0 (by omega))
  refine ⟨vs, t, ls, hb, fun j hj => ?_⟩
  obtain ⟨vs', t', ls', hb', hv⟩ := block_of_cell (key j hj)
  rw [hb] at hb'
  cases hb'
  exact hv

theorem spot_none {W : World} {a : Addr} {v : Value} (h : W.cell? a = some v) : a = ⟨a.block, a.off, none⟩ := by
  obtain ⟨b, o, s⟩ := a
  cases s with
  | none => rfl
  | some s =>
    simp only [World.cell?] at h
    split at h
    · simp at h
    · cases h

theorem laidOut : laidOutB Tryd.prog = true := by kernel_rfl
theorem cstr : Tryd.prog.cellsOf 9 = 1 := by kernel_rfl
theorem bytesStr : Tryd.prog.bytesOf 9 = 16 := by kernel_rfl

set_option maxRecDepth 100000 in
/-- A []string that came in. -/
theorem strs_arg {H : Type} {enc : TypeId × Value → H} {W : World} {base : Nat} {v : Value} {d : DataW H} {p : List MemPlace} (hv : Value.okWide Tryd.prog W .any base 25 v)
    (h : DataW.Trod enc Tryd.prog W 0 (fun _ => true) true 25 v d p) {ts : List TypeId} {ds : List (DataW H)} (hsz : (DataW.weightsEach Tryd.prog ts ds).all (· ≤ reachBytes) = true) {j : Nat} (ht : ts[j]? = some 25) (hd : ds[j]? = some d) :
    ∃ a len cap ss, v = .slice a (List.length ss) cap ∧ List.length ss = len ∧ ss.length ≤ cap ∧ StrsV W a cap ss := by
  obtain ⟨a0, len, cap, rfl⟩ := okWide_slice Tryd.underlying25 hv
  obtain ⟨fuel, hf⟩ := h
  rcases open_strings Tryd.underlying25 Tryd.underlying9 cstr hf with ⟨hcs, hx⟩ | ⟨a, len', cap', ss, hcs, _, hl, hm, hz, hx, hcell, hws⟩
  · simp [Value.cells] at hcs
    obtain ⟨rfl, rfl, rfl⟩ := hcs
    exact ⟨none, 0, 0, [], rfl, rfl, by simp, ⟨by simp, fun i hi => by simp at hi, fun h => by simp at h⟩⟩
  · simp [Value.cells] at hcs
    obtain ⟨rfl, rfl, rfl⟩ := hcs
    simp only [Prod.mk.injEq] at hx
    obtain ⟨rfl, rfl⟩ := hx
    simp only [if_true] at hz
    have hreach := sized_slice hsz (j := j) (t := 25) (e := 9) ht hd Tryd.underlying25
    rw [bytesStr] at hreach
    simp only [strs, List.length_map, List.length_take, List.length_drop, reachBytes] at hreach
    have htl : (ss.take len).length = len := by simp; omega
    refine ⟨some a, len, cap, ss.take len, by rw [htl], htl, by omega, ⟨by omega, fun i hi => ?_, fun h0 => ?_⟩⟩
    · have := hws _ (List.mem_of_mem_take (List.getElem_mem hi)); unfold maxLen at this; omega
    · have hc0 := hcell 0 (by omega)
      have ha : a.add 0 = a := by simp [Addr.add]
      rw [ha] at hc0
      have hsp := spot_none hc0
      refine ⟨a.block, a.off, by rw [← hsp], World.block_lt_of_cell? W a hc0, fun i hi => ?_⟩
      have hi' : i < len := by omega
      have hci := hcell i (by omega)
      rw [hsp, Addr.add_lit] at hci
      rw [hci]
      simp [List.getD, show i < ss.length by omega]

theorem cnode : Tryd.prog.cellsOf 45 = 4 := by kernel_rfl
theorem bnode : Tryd.prog.bytesOf 45 = 40 := by kernel_rfl
theorem creg : Tryd.prog.cellsOf 24 = 1 := by kernel_rfl
theorem cint : Tryd.prog.cellsOf 3 = 1 := by kernel_rfl
theorem cnodes : Tryd.prog.cellsOf 22 = 1 := by kernel_rfl

open Go.Joins Go.Deep in
set_option maxRecDepth 100000 in
/-- A regular expression that came in. -/
theorem regex_arg {H : Type} {enc : TypeId × Value → H} {W : World} {base : Nat} {v : Value} {d : DataW H} {p : List MemPlace} (hv : Value.okWide Tryd.prog W .any base 24 v)
    (h : DataW.Trod enc Tryd.prog W 0 (fun _ => true) true 24 v d p) {ts : List TypeId} {ds : List (DataW H)} (hsz : (DataW.weightsEach Tryd.prog ts ds).all (· ≤ reachBytes) = true) {j : Nat} (ht : ts[j]? = some 24) (hd : ds[j]? = some d) :
    ∃ a cap l, v = .agg #[.slice a (List.length l) cap] ∧ NodesV W a l := by
  obtain ⟨cs, rfl, hcz⟩ := okWide_struct Tryd.underlying24 hv
  obtain ⟨c0, rfl⟩ : ∃ c0, cs = #[c0] := by
    obtain ⟨l⟩ := cs
    match l, (hcz.trans creg) with
    | [c0], _ => exact ⟨c0, rfl⟩
  obtain ⟨fuel, hf⟩ := h
  obtain ⟨y0, n, hx, _, h0⟩ := trod_struct1 Tryd.underlying24 hf
  simp only [Prod.mk.injEq] at hx
  obtain ⟨rfl, rfl⟩ := hx
  simp only [cnodes] at h0
  have h0 : DataW.trod enc Tryd.prog W 0 (fun _ => true) true n 22 [c0] = some y0 := by simpa [Value.cells] using h0
  rcases open_slice Tryd.underlying22 h0 with ⟨hcs, _⟩ | ⟨a, len, cap, m, n2, D, Pl, hcs, _, hl, hm, hmm, rfl, hcell⟩
  · simp only [List.cons.injEq, and_true] at hcs
    subst hcs
    exact ⟨none, 0, [], rfl, ⟨by simp, fun i n hn => by simp at hn, fun h => by simp at h⟩⟩
  · simp only [List.cons.injEq, and_true] at hcs
    subst hcs
    simp only [if_true] at hmm
    subst hmm
    have hreach : ((List.range len).map D).length * 40 ≤ reachBytes := by
      have h1 : (((List.range len).map D).length + ((List.range (m - len)).map fun j => D (len + j)).length) * Tryd.prog.bytesOf 45 ≤ reachBytes := by
        have := List.all_eq_true.1 hsz _ (DataW.weights_mem_each ht hd ((((List.range len).map D).length + ((List.range (m - len)).map fun j => D (len + j)).length) * Tryd.prog.bytesOf 45) (by
          simp [DataW.weights, DataW.weightsEach, Tryd.underlying24, Tryd.underlying22]))
        simpa using this
      rw [bnode] at h1
      exact Nat.le_trans (Nat.mul_le_mul_right 40 (Nat.le_add_right _ _)) h1
    simp only [List.length_map, List.length_range, reachBytes] at hreach
    have each : ∀ i, i < m → ∃ z : Nd, W.cell? (a.add (i * 4)) = some (.int .i64 z.op) ∧ W.cell? (a.add (i * 4 + 1)) = some (.string z.sym) ∧ W.cell? (a.add (i * 4 + 2)) = some (.int .i64 z.a) ∧ W.cell? (a.add (i * 4 + 3)) = some (.int .i64 z.b) ∧ z.sym.size ≤ maxLen := by
      intro i hi
      obtain ⟨cs', h1, h2⟩ := hcell i hi
      rw [cnode] at h1
      obtain ⟨_, hlen, hcl⟩ := World.cells?_some h1
      obtain ⟨x0, x1, x2, x3, k, _, _, g0, g1, g2, g3⟩ := trod_struct4 Tryd.underlying45 h2
      match cs', hlen with
      | [v0, v1, v2, v3], _ =>
        simp only [cint, cstr] at g0 g1 g2 g3
        obtain ⟨o, e0, _⟩ := DataW.trod_int Tryd.underlying3 g0
        obtain ⟨s, e1, _, hs⟩ := DataW.trod_string Tryd.underlying9 g1
        obtain ⟨aa, e2, _⟩ := DataW.trod_int Tryd.underlying3 g2
        obtain ⟨bb, e3, _⟩ := DataW.trod_int Tryd.underlying3 g3
        simp at e0 e1 e2 e3
        subst e0 e1 e2 e3
        have f0 := hcl 0 (by omega)
        have f1 := hcl 1 (by omega)
        have f2 := hcl 2 (by omega)
        have f3 := hcl 3 (by omega)
        rw [add_add] at f0 f1 f2 f3
        exact ⟨⟨o, s, aa, bb⟩, by simpa using f0, by simpa using f1, by simpa using f2, by simpa using f3, hs⟩
    haveI : Inhabited Nd := ⟨⟨0, nil8, 0, 0⟩⟩
    obtain ⟨q, hq⟩ := choose_lt each
    refine ⟨some a, m, (List.range len).map q, by simp, ⟨by simp; omega, fun i n hn => ?_, fun h0 => ?_⟩⟩
    · have hi : i < len := by have := (List.getElem?_eq_some_iff.1 hn).1; simpa using this
      have : n = q i := by simpa [hi] using hn.symm
      subst this
      have := (hq i (by omega)).2.2.2.2
      unfold maxLen at this; omega
    · have hl0 : 0 < len := by simpa using h0
      have hc0 := (hq 0 (by omega)).1
      have ha : a.add (0 * 4) = a := by simp [Addr.add]
      rw [ha] at hc0
      have hsp := spot_none hc0
      refine ⟨a.block, a.off, by rw [← hsp], World.block_lt_of_cell? W a hc0, fun i n hn => ?_⟩
      have hi : i < len := by have := (List.getElem?_eq_some_iff.1 hn).1; simpa using this
      have : n = q i := by simpa [hi] using hn.symm
      subst this
      obtain ⟨g0, g1, g2, g3, _⟩ := hq i (by omega)
      rw [hsp, Addr.add_lit] at g0 g1 g2 g3
      exact ⟨g0, g1, g2, g3⟩

end Go.Proofs.YtngpjagpeblbjaaDoor
