/-
  ends, joined.
-/
import Derived.Test.YtngpjagpeblbjaaDoorZW27
namespace Go.Proofs.YtngpjagpeblbjaaDoor
open Go.RowKit Go.Spy Go.Rx

theorem ends_any {l : List Nd} (F : Rx.Form l) {w : World} {ao : Option Addr} {bF bA cap : Nat} (hP : PlanW w ao l bF bA) (hl : l.length ≤ 64) {bP at_ bL : Nat} (hB : Blk w bP 53 (planC ao l.length cap bF bA)) (hat : at_ < l.length)
    {wo : Option Addr} {wcap : Nat} {ws : List ByteArray} (hL : w.cell? ⟨bL, 0, none⟩ = some (.slice wo ws.length wcap)) (hS : StrsV w wo wcap ws) (hbL : bL < w.heap.size) (h0 : 0 < ws.length) :
    Calls Tryd.prog 29 #[.int .i64 at_, .pointer (some ⟨bP, 0, none⟩), .pointer (some ⟨bL, 0, none⟩)] w fun e w' => e = .returned (.bool (decide (symAt l at_ = ws[ws.length - 1]'(by omega)) && endsT (tr l (l.length - 1)) at_)) ∧ Ext w w' := by
  obtain ⟨b, off, rfl, hb, hc⟩ := hP.nodes.cells (by omega)
  obtain ⟨b2, o2, rfl, hb2, hc2⟩ := hS.cells h0
  have hn : l[at_]? = some l[at_] := List.getElem?_eq_getElem hat
  obtain ⟨q0, q1, q2, q3⟩ := hc at_ _ hn
  have hsym : symAt l at_ = l[at_].sym := by simp [symAt, hn]
  rw [hsym, ← fact_last]
  by_cases ht : l[at_].sym.toList = (ws[ws.length - 1]'(by omega)).toList
  · have := ends_yes F hP hl hB hat hb q1 hL hb2 h0 hS.len hbL _ (hc2 (ws.length - 1) (by omega)) ht
    rw [decide_eq_true (bytes_ext ht), Bool.true_and]
    exact this
  · have := ends_no F hP hl hB hat hb q1 hL hb2 h0 hS.len hbL _ (hc2 (ws.length - 1) (by omega)) ht
    rw [decide_eq_false (fun h => ht (by rw [h])), Bool.false_and]
    exact this

end Go.Proofs.YtngpjagpeblbjaaDoor
