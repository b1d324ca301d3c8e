/-
  Walk of the law DfaLeast.
  What the laid table gives, and how an argument that is a regular expression, or a row of words, is opened.
-/
import Derived.Test.YtngpjagpeblbjaaGreatDoorZ29
import Derived.Test.YtngpjagpeblbjaaGreatDoorZ25
import Derived.Test.YtngpjagpeblbjaaGreatDoorZ04
import Derived.Test.YtngpjagpeblbjaaGreatDoorZ05
import Derived.Test.YtngpjagpeblbjaaGreatDoorRows
import Derived.ProofKit
import Derived.LaidMore
import Derived.OpenShut
import Derived.Stop.Joined
import Derived.Lib.SmallJoins
import Derived.Deep.SlicePairs
namespace Go.Proofs.YtngpjagpeblbjaaGreatDoor
open Go.RowKit Go.Spy Go.Heaped Go.Tour Go.Rx

end Go.Proofs.YtngpjagpeblbjaaGreatDoor
namespace Go.Proofs.YtngpjagpeblbjaaGreatDoor
open Go.ChangeShapes Go.WideShapes Go.ChangeAt Go.WideMaps Go.WideElems Go.RowKit Go.Spy Go.Rx

def laidR {H : Type} : List (String × DataW H) := [("math/bits.deBruijn64tab", Rows.laid_math_bits_deBruijn64tab)]

theorem ownZ : ownKnob Tryz.prog.godebug = none := by kernel_rfl
theorem gTab : Tryz.prog.globalNamed "math/bits.deBruijn64tab" = some 0 := by kernel_rfl
theorem tTab : (Tryz.prog.globals[(0 : Nat)]?).map (·.type) = some 206 := by kernel_rfl

theorem door_met (os : Os) (args : Array Value) : laidMetH Tryz.prog laidR ((World.doorLaid Tryz.prog 400 os).forCall (fun _ _ => 0) ⟨#[], args, []⟩).memory :=
  laidMetH_of_parts3 (fuel := 8) (laidMet_of_run' 8 (by kernel_rfl) (by kernel_rfl)) (by kernel_rfl) (by kernel_rfl)

theorem block_of_cell {w : World} {b o : Nat} {v : Value} (h : w.cell? ⟨b, o, none⟩ = some v) : ∃ vs t ls, w.heap[b]? = some (.cells vs t ls) ∧ vs[o]? = some v := by
  simp only [World.cell?] at h
  split at h
  · exact ⟨_, _, _, by assumption, by simpa using h⟩
  · cases h

theorem cu8 : Tryz.prog.cellsOf 5 = 1 := by kernel_rfl
theorem laid_list {H : Type} : (Rows.laid_math_bits_deBruijn64tab : DataW H) = .agg (Lib.deBruijn64tab.map fun (k : Nat) => .lit (.int .u8 (k : Int))) := by kernel_rfl

theorem tab_of_laid {W : World} (h : laidMetH Tryz.prog laidR W) : TabW W := by
  rw [MakeChecks.laidMetH_plain _ _ _ (by kernel_rfl)] at h
  obtain ⟨ps, ⟨g0, t0, cs0, f0, p0, q0, hg0, ht0, hv0, hd0, _⟩, _⟩ := h
  obtain rfl := Option.some.inj (gTab.symm.trans hg0)
  obtain rfl := Option.some.inj (tTab.symm.trans ht0)
  obtain ⟨xs, m1, rfl, hx1, hlen, hn3, hel⟩ := DataW.trod_array Tryz.underlying206 hd0
  simp only [Prod.mk.injEq] at hx1
  have hmap : xs.map (·.1) = Lib.deBruijn64tab.map fun (k : Nat) => (.lit (.int .u8 (k : Int)) : DataW _) := by
    have := hx1.1
    rw [laid_list] at this
    simp only [DataW.agg.injEq] at this
    exact this.symm
  have key : ∀ i, i < 64 → W.cell? ⟨0, i, none⟩ = some (.int .u8 (Lib.deBruijn64tab.getD i 0)) := by
    intro i hi
    obtain ⟨x, hx⟩ : ∃ x, xs[i]? = some x := ⟨xs[i], List.getElem?_eq_getElem (by omega)⟩
    have h1 := hel i hi
    rw [hx, cu8, Nat.mul_one] at h1
    obtain ⟨z, e1, e2, _⟩ := DataW.trod_int Tryz.underlying5 h1
    have hc : cs0.toList[i]? = some (.int .u8 z) := by
      have := congrArg List.head? e1
      simpa [List.head?_take, List.head?_drop] using this
    have hd : (xs.map (·.1))[i]? = some (.lit (.int .u8 z)) := by rw [List.getElem?_map, hx, e2]; rfl
    rw [hmap, List.getElem?_map] at hd
    have hl64 : Lib.deBruijn64tab.length = 64 := rfl
    have hz : z = (Lib.deBruijn64tab.getD i 0 : Nat) := by
      rw [List.getElem?_eq_getElem (by omega)] at hd
      simp only [Option.map_some, Option.some.injEq, DataW.lit.injEq, Lit.int.injEq, true_and] at hd
      rw [← hd, List.getD_eq_getElem?_getD, List.getElem?_eq_getElem (by omega)]; rfl
    subst hz
    have := World.var?_cell hg0 hv0 i
    rw [this]
    simpa using hc
  obtain ⟨vs, t, ls, hb, _⟩ := block_of_cell (key 0 (by omega))
  refine ⟨vs, t, ls, hb, fun j hj => ?_⟩
  obtain ⟨vs', t', ls', hb', hv⟩ := block_of_cell (key j hj)
  rw [hb] at hb'
  cases hb'
  exact hv

theorem spot_none {W : World} {a : Addr} {v : Value} (h : W.cell? a = some v) : a = ⟨a.block, a.off, none⟩ := by
  obtain ⟨b, o, s⟩ := a
  cases s with
  | none => rfl
  | some s =>
    simp only [World.cell?] at h
    split at h
    · simp at h
    · cases h

theorem laidOut : laidOutB Tryz.prog = true := by kernel_rfl
theorem cstr : Tryz.prog.cellsOf 9 = 1 := by kernel_rfl
theorem bytesStr : Tryz.prog.bytesOf 9 = 16 := by kernel_rfl

set_option maxRecDepth 100000 in
/-- A []string that came in. -/
theorem strs_arg {H : Type} {enc : TypeId × Value → H} {W : World} {base : Nat} {v : Value} {d : DataW H} {p : List MemPlace} (hv : Value.okWide Tryz.prog W .any base 22 v)
    (h : DataW.Trod enc Tryz.prog W 0 (fun _ => true) true 22 v d p) {ts : List TypeId} {ds : List (DataW H)} (hsz : (DataW.weightsEach Tryz.prog ts ds).all (· ≤ reachBytes) = true) {j : Nat} (ht : ts[j]? = some 22) (hd : ds[j]? = some d) :
    ∃ a len cap ss, v = .slice a (List.length ss) cap ∧ List.length ss = len ∧ ss.length ≤ cap ∧ StrsV W a cap ss := by
  obtain ⟨a0, len, cap, rfl⟩ := okWide_slice Tryz.underlying22 hv
  obtain ⟨fuel, hf⟩ := h
  rcases open_strings Tryz.underlying22 Tryz.underlying9 cstr hf with ⟨hcs, hx⟩ | ⟨a, len', cap', ss, hcs, _, hl, hm, hz, hx, hcell, hws⟩
  · simp [Value.cells] at hcs
    obtain ⟨rfl, rfl, rfl⟩ := hcs
    exact ⟨none, 0, 0, [], rfl, rfl, by simp, ⟨by simp, fun i hi => by simp at hi, fun h => by simp at h⟩⟩
  · simp [Value.cells] at hcs
    obtain ⟨rfl, rfl, rfl⟩ := hcs
    simp only [Prod.mk.injEq] at hx
    obtain ⟨rfl, rfl⟩ := hx
    simp only [if_true] at hz
    have hreach := sized_slice hsz (j := j) (t := 22) (e := 9) ht hd Tryz.underlying22
    rw [bytesStr] at hreach
    simp only [strs, List.length_map, List.length_take, List.length_drop, reachBytes] at hreach
    have htl : (ss.take len).length = len := by simp; omega
    refine ⟨some a, len, cap, ss.take len, by rw [htl], htl, by omega, ⟨by omega, fun i hi => ?_, fun h0 => ?_⟩⟩
    · have := hws _ (List.mem_of_mem_take (List.getElem_mem hi)); unfold maxLen at this; omega
    · have hc0 := hcell 0 (by omega)
      have ha : a.add 0 = a := by simp [Addr.add]
      rw [ha] at hc0
      have hsp := spot_none hc0
      refine ⟨a.block, a.off, by rw [← hsp], World.block_lt_of_cell? W a hc0, fun i hi => ?_⟩
      have hi' : i < len := by omega
      have hci := hcell i (by omega)
      rw [hsp, Addr.add_lit] at hci
      rw [hci]
      simp [List.getD, show i < ss.length by omega]

end Go.Proofs.YtngpjagpeblbjaaGreatDoor
