/-
  What the laid table gives, and how an argument of words is opened.
-/
import Derived.Test.YtoknhfmgkgmlhaaDoorV2
import Derived.ProofKit
import Derived.LaidMore
import Derived.OpenShut
import Derived.Stop.Joined
namespace Go.Proofs.YtoknhfmgkgmlhaaDoor
open Go.ChangeShapes Go.WideShapes Go.ChangeAt Go.WideMaps Go.WideElems Go.RowKit Go.Spy

def laidR {H : Type} : List (String × DataW H) := [("spyglass/args.modes", Rows.laid_spyglass_args_modes)]

theorem own : ownKnob Tryd.prog.godebug = none := by kernel_rfl
theorem gModes : Tryd.prog.globalNamed "spyglass/args.modes" = some 0 := by kernel_rfl
theorem tModes : (Tryd.prog.globals[0]?).map (·.type) = some 42 := by kernel_rfl

theorem door_met (os : Os) (args : Array Value) : laidMetH Tryd.prog laidR ((World.doorLaid Tryd.prog 400 os).forCall (fun _ _ => 0) ⟨#[], args, []⟩).memory :=
  laidMetH_of_parts3 (fuel := 8) (laidMet_of_run' 8 (by kernel_rfl) (by kernel_rfl)) (by kernel_rfl) (by kernel_rfl)

theorem modes_of_laid {W : World} (h : laidMetH Tryd.prog laidR W) : ModesW W := by
  rw [MakeChecks.laidMetH_plain _ _ _ (by kernel_rfl)] at h
  obtain ⟨ps, ⟨g0, t0, cs0, f0, p0, q0, hg0, ht0, hv0, hd0, _⟩, _⟩ := h
  obtain rfl := Option.some.inj (gModes.symm.trans hg0)
  obtain rfl := Option.some.inj (tModes.symm.trans ht0)
  obtain ⟨xs, m1, rfl, hx1, hlen, hn3, hel⟩ := DataW.trod_array Tryd.underlying42 hd0
  have c9 : Tryd.prog.cellsOf 9 = 1 := by kernel_rfl
  simp only [Prod.mk.injEq] at hx1
  have hmap : xs.map (·.1) = ([.lit (.string []), .lit (.string [103, 101, 116]), .lit (.string [112, 117, 116]), .lit (.string [99, 114, 101, 97, 116, 101]), .lit (.string [99, 104, 101, 99, 107]), .lit (.string [118, 97, 108, 105, 100, 97, 116, 101])] : List (DataW _)) := by
    have := hx1.1
    simp only [Rows.laid_spyglass_args_modes, DataW.agg.injEq] at this
    exact this.symm
  have key : ∀ i, i < 6 → W.cell? ⟨0, i, none⟩ = some (.string (modeWord i)) := by
    intro i hi
    have hx : ∃ x, xs[i]? = some x := ⟨xs[i], List.getElem?_eq_getElem (by omega)⟩
    obtain ⟨x, hx⟩ := hx
    have h1 := hel i hi
    rw [hx, c9, Nat.mul_one] at h1
    obtain ⟨s, e1, e2, _⟩ := DataW.trod_string Tryd.underlying9 h1
    have hc : cs0.toList[i]? = some (.string s) := by
      have := congrArg List.head? e1
      simpa [List.head?_take, List.head?_drop] using this
    have hd : (xs.map (·.1))[i]? = some (.lit (.string s.data.toList)) := by rw [List.getElem?_map, hx, e2]; rfl
    rw [hmap] at hd
    have hs : s = modeWord i := by
      apply bytes_ext
      rw [ByteArray.toList_eq]
      match i, hi, hd with
      | 0, _, hd => simp only [List.getElem?_cons_zero, List.getElem?_cons_succ, Option.some.injEq, DataW.lit.injEq, Lit.string.injEq] at hd; rw [← hd]; exact (ByteArray.toList_mk _).symm
      | 1, _, hd => simp only [List.getElem?_cons_zero, List.getElem?_cons_succ, Option.some.injEq, DataW.lit.injEq, Lit.string.injEq] at hd; rw [← hd]; exact (ByteArray.toList_mk _).symm
      | 2, _, hd => simp only [List.getElem?_cons_zero, List.getElem?_cons_succ, Option.some.injEq, DataW.lit.injEq, Lit.string.injEq] at hd; rw [← hd]; exact (ByteArray.toList_mk _).symm
      | 3, _, hd => simp only [List.getElem?_cons_zero, List.getElem?_cons_succ, Option.some.injEq, DataW.lit.injEq, Lit.string.injEq] at hd; rw [← hd]; exact (ByteArray.toList_mk _).symm
      | 4, _, hd => simp only [List.getElem?_cons_zero, List.getElem?_cons_succ, Option.some.injEq, DataW.lit.injEq, Lit.string.injEq] at hd; rw [← hd]; exact (ByteArray.toList_mk _).symm
      | 5, _, hd => simp only [List.getElem?_cons_zero, List.getElem?_cons_succ, Option.some.injEq, DataW.lit.injEq, Lit.string.injEq] at hd; rw [← hd]; exact (ByteArray.toList_mk _).symm
    subst hs
    have := World.var?_cell hg0 hv0 i
    rw [this]
    simpa using hc
  exact ⟨key 0 (by omega), key 1 (by omega), key 2 (by omega), key 3 (by omega), key 4 (by omega), key 5 (by omega)⟩

theorem spot_none {W : World} {a : Addr} {v : Value} (h : W.cell? a = some v) : a = ⟨a.block, a.off, none⟩ := by
  obtain ⟨b, o, s⟩ := a
  cases s with
  | none => rfl
  | some s =>
    simp only [World.cell?] at h
    split at h
    · simp at h
    · cases h

theorem laidOut : laidOutB Tryd.prog = true := by kernel_rfl
theorem c9 : Tryd.prog.cellsOf 9 = 1 := by kernel_rfl
theorem bytes9 : Tryd.prog.bytesOf 9 = 16 := by kernel_rfl

/-- A []string that came in. -/
theorem strs_arg {H : Type} {enc : TypeId × Value → H} {W : World} {base : Nat} {v : Value} {d : DataW H} {p : List MemPlace} (hv : Value.okWide Tryd.prog W .any base 22 v)
    (h : DataW.Trod enc Tryd.prog W 0 (fun _ => true) true 22 v d p) {ts : List TypeId} {ds : List (DataW H)} (hsz : (DataW.weightsEach Tryd.prog ts ds).all (· ≤ reachBytes) = true) {j : Nat} (ht : ts[j]? = some 22) (hd : ds[j]? = some d) :
    ∃ a len cap ss, v = .slice a (List.length ss) cap ∧ List.length ss = len ∧ ss.length ≤ cap ∧ StrsV W a cap ss := by
  obtain ⟨a0, len, cap, rfl⟩ := okWide_slice Tryd.underlying22 hv
  obtain ⟨fuel, hf⟩ := h
  rcases open_strings Tryd.underlying22 Tryd.underlying9 c9 hf with ⟨hcs, hx⟩ | ⟨a, len', cap', ss, hcs, _, hl, hm, hz, hx, hcell, hws⟩
  · simp [Value.cells] at hcs
    obtain ⟨rfl, rfl, rfl⟩ := hcs
    exact ⟨none, 0, 0, [], rfl, rfl, by simp, ⟨by simp, fun i hi => by simp at hi, fun h => by simp at h⟩⟩
  · simp [Value.cells] at hcs
    obtain ⟨rfl, rfl, rfl⟩ := hcs
    simp only [Prod.mk.injEq] at hx
    obtain ⟨rfl, rfl⟩ := hx
    simp only [if_true] at hz
    have hreach := sized_slice hsz (j := j) (t := 22) (e := 9) ht hd Tryd.underlying22
    rw [bytes9] at hreach
    simp only [strs, List.length_map, List.length_take, List.length_drop, reachBytes] at hreach
    have htl : (ss.take len).length = len := by simp; omega
    refine ⟨some a, len, cap, ss.take len, by rw [htl], htl, by omega, ⟨by omega, fun i hi => ?_, fun h0 => ?_⟩⟩
    · have := hws _ (List.mem_of_mem_take (List.getElem_mem hi)); unfold maxLen at this; omega
    · have hc0 := hcell 0 (by omega)
      have ha : a.add 0 = a := by simp [Addr.add]
      rw [ha] at hc0
      have hsp := spot_none hc0
      refine ⟨a.block, a.off, by rw [← hsp], World.block_lt_of_cell? W a hc0, fun i hi => ?_⟩
      have hi' : i < len := by omega
      have hci := hcell i (by omega)
      rw [hsp, Addr.add_lit] at hci
      rw [hci]
      simp [List.getD, show i < ss.length by omega]
end Go.Proofs.YtoknhfmgkgmlhaaDoor
