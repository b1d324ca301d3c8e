/-
  Walk of Parse: a text that is read as nodes to its end.
-/
import Derived.Test.YtngpjagpeblbjaaDoorZR8
namespace Go.Proofs.YtngpjagpeblbjaaDoor
open Go.RowKit Go.Spy Go.Rx

def ParsePost (l : List Nd) (w : World) (e : Ending) (w' : World) : Prop :=
  ∃ ao c, e = .returned (.tuple #[.agg #[.slice ao l.length c], .int .i64 0]) ∧ l.length ≤ c ∧ NodesV w' ao l ∧ Ext w w'

set_option maxRecDepth 100000 in
set_option maxHeartbeats 2000000 in
theorem parse_any {s : ByteArray} (hs : s.size ≤ 65536) {n : Nat} {l : List Nd} {r' : List UInt8} (h : ExprOf (AtomD n) s.data.toList l r') (hr : sk r' = []) (w : World) :
    Calls Tryd.prog 16 #[.string s] w (ParsePost l w) := by
  have hd : decide ((65536 : Int) < (s.size : Int)) = false := decide_eq_false (by omega)
  have HG := hid (good_row (good_row (good_item (good_atom n))) _ _ _ h)
  have H := hid h
  have HS := hid hr
  clear h hr
  go_enter Tryd.func16, Tryd.ntmps16
  go_wp2_with fail
  have hR0 : RdW ((w.alloc (.cells #[.slice none 0 0] 24)).alloc (.cells #[.string s, .int .i64 0, .bool false, .bool false] 77)) (w.heap.size + 1) s s.data.toList := ⟨0, Blk.new' _ _ _ (by simp), rfl, Nat.zero_le _⟩
  have hB0 : Blk ((w.alloc (.cells #[.slice none 0 0] 24)).alloc (.cells #[.string s, .int .i64 0, .bool false, .bool false] 77)) w.heap.size 24 #[.slice none 0 0] := (Blk.new w _ _).alloc _
  have hE0 : Ext w ((w.alloc (.cells #[.slice none 0 0] 24)).alloc (.cells #[.string s, .int .i64 0, .bool false, .bool false] 77)) := ((Below.refl _ w).alloc (Nat.le_refl _) _).alloc (by simp) _
  have hbl : w.heap.size + 1 < ((w.alloc (.cells #[.slice none 0 0] 24)).alloc (.cells #[.string s, .int .i64 0, .bool false, .bool false] 77)).heap.size := by simp
  refine (expr_all (by omega) n _ _ _ _ H.out hR0 hbl).mono ?_
  rintro e w2 ⟨v, rfl, hO, hR, hX⟩
  obtain ⟨ao, c, rfl, hc, hN, hbk⟩ := nodes_of_own hO (by have := HG.out.2; omega) (fun j m hm => by have := (HG.out.1 m (List.mem_of_getElem? hm)).2.2.2.2; omega)
  have HB2 := hid (hB0.chg hX (by show ¬ _ = _; omega))
  have HE2 := hid (Chg.below ((Chg.of_ext (S := (· = w.heap.size + 1)) hE0).trans hX) (Nat.le_refl _) (fun k e => by omega))
  have HN2 := hid hN
  have HR2 := hid hR
  have hbk2 : ∀ b off, ao = some ⟨b, off, none⟩ → w.heap.size + 2 ≤ b ∨ l.length = 0 := fun b off e => by have := hbk b off e; simpa using this
  have HK := hid hbk2
  clear hR0 hB0 hE0 hbl hO hR hX hN hbk hbk2
  go_wp2_with fail
  refine (blanks_any HR2.out (by omega)).mono ?_
  rintro e w3 ⟨rfl, hR, hX⟩
  rw [HS.out] at hR
  obtain ⟨j, hB, hA⟩ := hR
  have hj := hA.nil
  have c1 : w3.cell? ⟨w.heap.size + 1, 1, none⟩ = some (.int .i64 j) := hB.cell (i := 1) rfl
  have c2 : w3.cell? ⟨w.heap.size + 1, 2, none⟩ = some (.bool false) := hB.cell (i := 2) rfl
  have c3 : w3.cell? ⟨w.heap.size + 1, 3, none⟩ = some (.bool false) := hB.cell (i := 3) rfl
  have hlt : decide (j < s.size) = false := decide_eq_false (by omega)
  have hlt2 : decide ((j : Int) < (s.size : Int)) = false := decide_eq_false (by omega)
  have b3 := HB2.out.chg hX (by show ¬ _ = _; omega)
  have d0 : w3.cell? ⟨w.heap.size, 0, none⟩ = some (.slice none 0 0) := b3.cell (i := 0) rfl
  have f0 := b3.frozen 0
  have HB3 := hid b3
  have HX := hid hX
  clear hA hB hX hj b3
  go_wp2_with fail
  have z0 : (w3.setCell ⟨w.heap.size, 0, none⟩ (.slice ao l.length c)).cell? ⟨w.heap.size, 0, none⟩ = some (.slice ao l.length c) := (HB3.out.set 0 (.slice ao l.length c)).cell rfl
  refine bodyPost_ret (v := .tuple #[.agg #[.slice ao l.length c], .int .i64 0]) (by simp [results, Tryd.results16, go_sem, z0]) rfl ⟨ao, c, rfl, hc, ?_, ?_⟩
  · by_cases hl : l.length = 0
    · exact ⟨HN2.out.len, HN2.out.size, fun h => by omega⟩
    · refine (HN2.out.chg HX.out (fun b off e => ?_)).chg (Chg.setCell (S := (· = w.heap.size)) (p := ⟨w.heap.size, 0, none⟩) (Chg.refl _ _) rfl _) (fun b off e => ?_)
      · have := HK.out b off e; show ¬ _ = _; omega
      · have := HK.out b off e; show ¬ _ = _; omega
  · exact (Chg.below ((Chg.of_ext (S := (· = w.heap.size + 1)) HE2.out).trans HX.out) (Nat.le_refl _) (fun k e => by omega)).setCell (by simp) _

end Go.Proofs.YtngpjagpeblbjaaDoor
