/-
  Walk of the closures of Match: ends.
  ends, joined.
  Walk of slices.IndexFunc and slices.ContainsFunc, handed the closure ends.
  Walk of slices.ContainsFunc; numbers that are owned lie where a value says.
  Walk of Match: no words.
  Walk of Match: one word or more.
  DERIVED: THE SHELF's CONTRACTS AT THIS DUMP, IN PLAIN WORDS (tools/lay-plain.mjs out of 'TryzShelf.lean', which tools/lay-shelf.mjs wrote): THE SAME DECLARATION
  Keys of maps: numbers, pairs of numbers, states of a regular expression's automaton.
  The start of travel; one step of it in each of its kinds.
  Loads of aggregates whose cells are held behind one name; what the two wide kinds of states have.
  Plain law of tours: other names for the states, where the rows lead, the words by which a state is come to first. No program is named here.
  Plain law: the words by which a tour comes to a state first are the least ones, shorter rows ahead of longer ones. No program is named here.
-/
import Derived.Test.YtngpjagpeblbjaaGreatDoorB01
import Derived.Shelf.Sort.Plain
import Derived.Shelf.Slices.Turned
import Derived.Ground.Names2Prog
import Derived.Shelf.Slices.ReverseS
import Derived.Shelf.Slices.Clone
import Derived.Shelf.Slices.CompactS
import Derived.Shelf.Slices.SearchI
import Derived.Shelf.Slices.Cells
import Derived.Shelf.Slices.In.SortNone
import Derived.Test.YtngpjagpeblbjaaGreatDoorProg
import Derived.DeepKeys5
import Derived.Deep.AppendLies
import Derived.BigRegion
import Derived.Deep.Draws
import Derived.Laws.ResultCell
import Derived.Laws.CopyRow
import Derived.Laws.OwnMore
import Derived.Recover
import Derived.Deep.RegionLaw
import Derived.BigQuiet
import Derived.Deep.QuietTactic
import Derived.Deep.RegionWith
import Derived.StillTailTactics
import Derived.Test.YtngpjagpeblbjaaGreatDoorRows
namespace Go.Proofs.YtngpjagpeblbjaaGreatDoor
open Go.RowKit Go.Spy Go.Rx
set_option maxRecDepth 100000 in
set_option maxHeartbeats 4000000 in
theorem ends_no {l : List Nd} (_F : Rx.Form l) {w : World} {b off : Nat} {bF bA cap : Nat} (hP : PlanW w (some ⟨b, off, none⟩) l bF bA) (_hl : l.length ≤ 64) {bP at_ bL : Nat} (hB : Blk w bP 126 (planC (some ⟨b, off, none⟩) l.length cap bF bA)) (hat : at_ < l.length) (hb : b < w.heap.size) {n : Nd} (q1 : w.cell? ⟨b, off + at_ * 4 + 1, none⟩ = some (.string n.sym))
 {b2 o2 : Nat} {wcap : Nat} {ws : List ByteArray} (hL : w.cell? ⟨bL, 0, none⟩ = some (.slice (some ⟨b2, o2, none⟩) ws.length wcap)) (hb2 : b2 < w.heap.size) (h0 : 0 < ws.length) (hlen : ws.length ≤ 140737488351232) (hbL : bL < w.heap.size) (last : ByteArray) (hl2 : w.cell? ⟨b2, o2 + (ws.length - 1), none⟩ = some (.string last)) (ht : ¬ n.sym.toList = last.toList) :
 Calls Tryz.prog 87 #[.int .i64 at_, .pointer (some ⟨bP, 0, none⟩), .pointer (some ⟨bL, 0, none⟩)] w fun e w' => e = .returned (.bool false) ∧ Ext w w' := by
 have p0 : w.cell? ⟨bP, 0, none⟩ = some (.slice (some ⟨b, off, none⟩) l.length cap) := hB.cell (i := 0) rfl
 have p1 : w.cell? ⟨bP, 1, none⟩ = some (.slice (some ⟨bF, 0, none⟩) l.length l.length) := hB.cell (i := 1) rfl
 have p2 : w.cell? ⟨bP, 2, none⟩ = some (.slice (some ⟨bA, 0, none⟩) l.length l.length) := hB.cell (i := 2) rfl
 have lB := hB.lt
 have HP := hid hP
 have hn1 : IntKind.i64.wrap ((ws.length : Int) - 1) = ((ws.length - 1 : Nat) : Int) := by rw [IntKind.wrap_i64]; omega
 have hlt1 : ws.length - 1 < ws.length := by omega
 clear hP hB
 go_enter Tryz.func87, Tryz.ntmps87
 go_upto_region 1 with fail
 have hS0 : Ext w w.drew := (Below.refl _ w).drew
 refine wp_region_heldL (Ext w) (by kernel_rfl) ?_
 refine wpAnyH_takeK 0 21 (mk 22 1) rfl (by kernel_rfl) rfl (.pointer (some ⟨bP, 0, none⟩)) (fun _ _ _ h => h) (Or.inl ⟨rfl, fun w' hS => ?_⟩) hS0 ?_
 ·go_simp <;> with_reducible rfl
 refine wpAnyH_takeK 1 20 (mk 22 3) rfl (by kernel_rfl) rfl (.slice (some ⟨b, off, none⟩) l.length cap) (fun _ _ _ h => h) (Or.inl ⟨rfl, fun w' hS => ?_⟩) hS0 ?_
 ·have c1 := (hS.cell (p := ⟨bP, 0, none⟩) lB).trans p0; go_simp <;> with_reducible rfl
 refine wpAnyH_takeK 2 19 (mk 22 7) rfl (by kernel_rfl) rfl (.int .i64 at_) (fun _ _ _ h => h) (Or.inl ⟨rfl, fun w' hS => ?_⟩) hS0 ?_
 ·go_simp <;> with_reducible rfl
 refine wpAnyH_takeK 3 18 (mk 22 15) rfl (by kernel_rfl) rfl (.pointer (some ⟨b, off + at_ * 4, none⟩)) (fun _ _ _ h => h) (Or.inl ⟨rfl, fun w' hS => ?_⟩) hS0 ?_
 ·go_simp <;> with_reducible rfl
 refine wpAnyH_takeK 4 17 (mk 22 31) rfl (by kernel_rfl) rfl (.pointer (some ⟨b, off + at_ * 4 + 1, none⟩)) (fun _ _ _ h => h) (Or.inl ⟨rfl, fun w' hS => ?_⟩) hS0 ?_
 ·go_simp <;> with_reducible rfl
 refine wpAnyH_takeK 5 16 (mk 22 63) rfl (by kernel_rfl) rfl (.string n.sym) (fun _ _ _ h => h) (Or.inl ⟨rfl, fun w' hS => ?_⟩) hS0 ?_
 ·have c1 := (hS.cell (p := ⟨b, off + at_ * 4 + 1, none⟩) hb).trans q1; go_simp <;> with_reducible rfl
 refine wpAnyH_takeK 6 15 (mk 22 127) rfl (by kernel_rfl) rfl (.slice (some ⟨b2, o2, none⟩) ws.length wcap) (fun _ _ _ h => h) (Or.inl ⟨rfl, fun w' hS => ?_⟩) hS0 ?_
 ·have c1 := (hS.cell (p := ⟨bL, 0, none⟩) hbL).trans hL; go_simp <;> with_reducible rfl
 refine wpAnyH_takeK 7 14 (mk 22 255) rfl (by kernel_rfl) rfl (.slice (some ⟨b2, o2, none⟩) ws.length wcap) (fun _ _ _ h => h) (Or.inl ⟨rfl, fun w' hS => ?_⟩) hS0 ?_
 ·have c1 := (hS.cell (p := ⟨bL, 0, none⟩) hbL).trans hL; go_simp <;> with_reducible rfl
 refine wpAnyH_takeK 8 13 (mk 22 511) rfl (by kernel_rfl) rfl (.int .i64 ws.length) (fun _ _ _ h => h) (Or.inl ⟨rfl, fun w' hS => ?_⟩) hS0 ?_
 ·go_simp <;> with_reducible rfl
 refine wpAnyH_takeK 9 12 (mk 22 1023) rfl (by kernel_rfl) rfl (.int .i64 ((ws.length - 1 : Nat) : Int)) (fun _ _ _ h => h) (Or.inl ⟨rfl, fun w' hS => ?_⟩) hS0 ?_
 ·go_simp <;> with_reducible rfl
 refine wpAnyH_takeK 10 11 (mk 22 2047) rfl (by kernel_rfl) rfl (.pointer (some ⟨b2, o2 + (ws.length - 1), none⟩)) (fun _ _ _ h => h) (Or.inl ⟨rfl, fun w' hS => ?_⟩) hS0 ?_
 ·go_simp <;> with_reducible rfl
 refine wpAnyH_takeK 11 10 (mk 22 4095) rfl (by kernel_rfl) rfl (.string last) (fun _ _ _ h => h) (Or.inl ⟨rfl, fun w' hS => ?_⟩) hS0 ?_
 ·have c1 := (hS.cell (p := ⟨b2, o2 + (ws.length - 1), none⟩) hb2).trans hl2; go_simp <;> with_reducible rfl
 refine wpAnyH_takeK 12 9 (mk 22 8191) rfl (by kernel_rfl) rfl (.bool false) (fun _ _ _ h => h) (Or.inl ⟨rfl, fun w' hS => ?_⟩) hS0 ?_
 ·go_simp <;> exact ht
 refine wpAnyH_takeK 13 8 (mk 22 16383) rfl (by kernel_rfl) rfl (.bool false) (fun _ _ _ h => h) (Or.inl ⟨rfl, fun w' hS => ?_⟩) hS0 ?_
 ·go_simp <;> with_reducible rfl
 refine wpAnyH_takeK 14 7 (mk 22 32767) rfl (by kernel_rfl) rfl undef (fun _ _ _ h => h) (Or.inr ⟨by go_simp, rfl⟩) hS0 ?_
 refine wpAnyH_takeK 18 6 (mk 22 294911) rfl (by kernel_rfl) rfl undef (fun _ _ _ h => h) (Or.inr ⟨by go_simp, rfl⟩) hS0 ?_
 refine wpAnyH_one 15 5 (mk 22 327679) rfl (by kernel_rfl) rfl ?_
 go_wp2_with fail
 refine ⟨hS0, ?_⟩
 refine wpAnyH_takeK 16 4 (mk 22 393215) rfl (by kernel_rfl) rfl undef (fun _ _ _ h => h) (Or.inr ⟨by go_simp, rfl⟩) hS0 ?_
 refine wpAnyH_takeK 17 3 (mk 22 524287) rfl (by kernel_rfl) rfl undef (fun _ _ _ h => h) (Or.inr ⟨by go_simp, rfl⟩) hS0 ?_
 refine wpAnyH_one 19 2 (mk 22 1048575) rfl (by kernel_rfl) rfl ?_
 go_wp2_with fail
 refine ⟨hS0, ?_⟩
 refine wpAnyH_one 20 1 (mk 22 2097151) rfl (by kernel_rfl) rfl ?_
 go_wp2_with fail
 refine ⟨hS0, ?_⟩
 refine wpAnyH_one 21 0 (mk 22 4194303) rfl (by kernel_rfl) rfl ?_
 go_wp2_with fail
 refine ⟨hS0, ?_⟩
 refine wpAnyH_end (P := Tryz.prog) (by kernel_rfl) ?_
 go_wp2_with fail
 go_ret
 exact ⟨by simp, hS0⟩
set_option maxRecDepth 100000 in
set_option maxHeartbeats 4000000 in
theorem ends_yes {l : List Nd} (F : Rx.Form l) {w : World} {b off : Nat} {bF bA cap : Nat} (hP : PlanW w (some ⟨b, off, none⟩) l bF bA) (hl : l.length ≤ 64) {bP at_ bL : Nat} (hB : Blk w bP 126 (planC (some ⟨b, off, none⟩) l.length cap bF bA)) (hat : at_ < l.length) (hb : b < w.heap.size) {n : Nd} (q1 : w.cell? ⟨b, off + at_ * 4 + 1, none⟩ = some (.string n.sym))
 {b2 o2 : Nat} {wcap : Nat} {ws : List ByteArray} (hL : w.cell? ⟨bL, 0, none⟩ = some (.slice (some ⟨b2, o2, none⟩) ws.length wcap)) (hb2 : b2 < w.heap.size) (h0 : 0 < ws.length) (hlen : ws.length ≤ 140737488351232) (hbL : bL < w.heap.size) (last : ByteArray) (hl2 : w.cell? ⟨b2, o2 + (ws.length - 1), none⟩ = some (.string last)) (ht : n.sym.toList = last.toList) :
 Calls Tryz.prog 87 #[.int .i64 at_, .pointer (some ⟨bP, 0, none⟩), .pointer (some ⟨bL, 0, none⟩)] w fun e w' => e = .returned (.bool ((factT (tr l (l.length - 1))).last.testBit at_)) ∧ Ext w w' := by
 have p0 : w.cell? ⟨bP, 0, none⟩ = some (.slice (some ⟨b, off, none⟩) l.length cap) := hB.cell (i := 0) rfl
 have p1 : w.cell? ⟨bP, 1, none⟩ = some (.slice (some ⟨bF, 0, none⟩) l.length l.length) := hB.cell (i := 1) rfl
 have p2 : w.cell? ⟨bP, 2, none⟩ = some (.slice (some ⟨bA, 0, none⟩) l.length l.length) := hB.cell (i := 2) rfl
 have lB := hB.lt
 have HP := hid hP
 have hn1 : IntKind.i64.wrap ((ws.length : Int) - 1) = ((ws.length - 1 : Nat) : Int) := by rw [IntKind.wrap_i64]; omega
 have hlt1 : ws.length - 1 < ws.length := by omega
 clear hP hB
 go_enter Tryz.func87, Tryz.ntmps87
 go_upto_region 1 with fail
 have hS0 : Ext w w.drew := (Below.refl _ w).drew
 refine wp_region_heldL (Ext w) (by kernel_rfl) ?_
 refine wpAnyH_takeK 0 21 (mk 22 1) rfl (by kernel_rfl) rfl (.pointer (some ⟨bP, 0, none⟩)) (fun _ _ _ h => h) (Or.inl ⟨rfl, fun w' hS => ?_⟩) hS0 ?_
 ·go_simp <;> with_reducible rfl
 refine wpAnyH_takeK 1 20 (mk 22 3) rfl (by kernel_rfl) rfl (.slice (some ⟨b, off, none⟩) l.length cap) (fun _ _ _ h => h) (Or.inl ⟨rfl, fun w' hS => ?_⟩) hS0 ?_
 ·have c1 := (hS.cell (p := ⟨bP, 0, none⟩) lB).trans p0; go_simp <;> with_reducible rfl
 refine wpAnyH_takeK 2 19 (mk 22 7) rfl (by kernel_rfl) rfl (.int .i64 at_) (fun _ _ _ h => h) (Or.inl ⟨rfl, fun w' hS => ?_⟩) hS0 ?_
 ·go_simp <;> with_reducible rfl
 refine wpAnyH_takeK 3 18 (mk 22 15) rfl (by kernel_rfl) rfl (.pointer (some ⟨b, off + at_ * 4, none⟩)) (fun _ _ _ h => h) (Or.inl ⟨rfl, fun w' hS => ?_⟩) hS0 ?_
 ·go_simp <;> with_reducible rfl
 refine wpAnyH_takeK 4 17 (mk 22 31) rfl (by kernel_rfl) rfl (.pointer (some ⟨b, off + at_ * 4 + 1, none⟩)) (fun _ _ _ h => h) (Or.inl ⟨rfl, fun w' hS => ?_⟩) hS0 ?_
 ·go_simp <;> with_reducible rfl
 refine wpAnyH_takeK 5 16 (mk 22 63) rfl (by kernel_rfl) rfl (.string n.sym) (fun _ _ _ h => h) (Or.inl ⟨rfl, fun w' hS => ?_⟩) hS0 ?_
 ·have c1 := (hS.cell (p := ⟨b, off + at_ * 4 + 1, none⟩) hb).trans q1; go_simp <;> with_reducible rfl
 refine wpAnyH_takeK 6 15 (mk 22 127) rfl (by kernel_rfl) rfl (.slice (some ⟨b2, o2, none⟩) ws.length wcap) (fun _ _ _ h => h) (Or.inl ⟨rfl, fun w' hS => ?_⟩) hS0 ?_
 ·have c1 := (hS.cell (p := ⟨bL, 0, none⟩) hbL).trans hL; go_simp <;> with_reducible rfl
 refine wpAnyH_takeK 7 14 (mk 22 255) rfl (by kernel_rfl) rfl (.slice (some ⟨b2, o2, none⟩) ws.length wcap) (fun _ _ _ h => h) (Or.inl ⟨rfl, fun w' hS => ?_⟩) hS0 ?_
 ·have c1 := (hS.cell (p := ⟨bL, 0, none⟩) hbL).trans hL; go_simp <;> with_reducible rfl
 refine wpAnyH_takeK 8 13 (mk 22 511) rfl (by kernel_rfl) rfl (.int .i64 ws.length) (fun _ _ _ h => h) (Or.inl ⟨rfl, fun w' hS => ?_⟩) hS0 ?_
 ·go_simp <;> with_reducible rfl
 refine wpAnyH_takeK 9 12 (mk 22 1023) rfl (by kernel_rfl) rfl (.int .i64 ((ws.length - 1 : Nat) : Int)) (fun _ _ _ h => h) (Or.inl ⟨rfl, fun w' hS => ?_⟩) hS0 ?_
 ·go_simp <;> with_reducible rfl
 refine wpAnyH_takeK 10 11 (mk 22 2047) rfl (by kernel_rfl) rfl (.pointer (some ⟨b2, o2 + (ws.length - 1), none⟩)) (fun _ _ _ h => h) (Or.inl ⟨rfl, fun w' hS => ?_⟩) hS0 ?_
 ·go_simp <;> with_reducible rfl
 refine wpAnyH_takeK 11 10 (mk 22 4095) rfl (by kernel_rfl) rfl (.string last) (fun _ _ _ h => h) (Or.inl ⟨rfl, fun w' hS => ?_⟩) hS0 ?_
 ·have c1 := (hS.cell (p := ⟨b2, o2 + (ws.length - 1), none⟩) hb2).trans hl2; go_simp <;> with_reducible rfl
 refine wpAnyH_takeK 12 9 (mk 22 8191) rfl (by kernel_rfl) rfl (.bool true) (fun _ _ _ h => h) (Or.inl ⟨rfl, fun w' hS => ?_⟩) hS0 ?_
 ·go_simp <;> exact ht
 refine wpAnyH_takeK 13 8 (mk 22 16383) rfl (by kernel_rfl) rfl (.bool true) (fun _ _ _ h => h) (Or.inl ⟨rfl, fun w' hS => ?_⟩) hS0 ?_
 ·go_simp <;> with_reducible rfl
 refine wpAnyH_takeK 14 7 (mk 22 32767) rfl (by kernel_rfl) rfl (.agg #[.slice (some ⟨b, off, none⟩) l.length cap, .slice (some ⟨bF, 0, none⟩) l.length l.length, .slice (some ⟨bA, 0, none⟩) l.length l.length]) (fun _ _ _ h => h) (Or.inl ⟨by go_simp, fun w' hS => ?_⟩) hS0 ?_
 ·have c1 := (hS.cell (p := ⟨bP, 0, none⟩) lB).trans p0; have c2 := (hS.cell (p := ⟨bP, 1, none⟩) lB).trans p1; have c3 := (hS.cell (p := ⟨bP, 2, none⟩) lB).trans p2; go_simp <;> with_reducible rfl
 refine wpAnyH_takeK 18 6 (mk 22 294911) rfl (by kernel_rfl) rfl (.int .i64 at_) (fun _ _ _ h => h) (Or.inl ⟨by go_simp, fun w' hS => ?_⟩) hS0 ?_
 ·go_simp <;> with_reducible rfl
 refine wpAnyH_one 15 5 (mk 22 327679) rfl (by kernel_rfl) rfl ?_
 go_wp2_with fail
 refine (root_any _ (some ⟨b, off, none⟩) l.length cap bF bA (by omega) (by omega)).mono ?_
 rintro e w2 ⟨rfl, hx2⟩
 have hS2 := hS0.trans (hx2.mono (by simp))
 have hlt : (factT (tr l (l.length - 1))).last < 18446744073709551616 := (fact64 F hl (by omega)).2
 have hcs : w2.cell? ⟨bF, (l.length - 1) * 34 + 18, none⟩ = some (.int .u64 ((factT (tr l (l.length - 1))).last : Nat)) := by
  have h := (HP.out.ext hS2).fact (i := l.length - 1) (j := 18) (by omega) (by omega)
  rw [factV_last _ (i := 0) (by omega)] at h
  exact h
 have HX2 := hid hS2
 clear hx2 hS0
 go_wp2_with fail
 refine ⟨hS2, ?_⟩
 refine wpAnyH_one 16 4 (mk 22 393215) rfl (by kernel_rfl) rfl ?_
 go_wp2_with fail
 refine ⟨hS2, ?_⟩
 refine wpAnyH_one 17 3 (mk 22 524287) rfl (by kernel_rfl) rfl ?_
 go_wp2_with fail
 refine ⟨hS2, ?_⟩
 refine wpAnyH_one 19 2 (mk 22 1048575) rfl (by kernel_rfl) rfl ?_
 go_wp2_with fail
 refine (has_any bF _ (factT (tr l (l.length - 1))).last at_ _ hlt (by omega) hcs).mono ?_
 rintro e w3 ⟨rfl, rfl⟩
 go_wp2_with fail
 refine ⟨hS2, ?_⟩
 refine wpAnyH_one 20 1 (mk 22 2097151) rfl (by kernel_rfl) rfl ?_
 go_wp2_with fail
 refine ⟨hS2, ?_⟩
 refine wpAnyH_one 21 0 (mk 22 4194303) rfl (by kernel_rfl) rfl ?_
 go_wp2_with fail
 refine ⟨hS2, ?_⟩
 refine wpAnyH_end (P := Tryz.prog) (by kernel_rfl) ?_
 go_wp2_with fail
 go_ret
 exact ⟨by simp, hS2⟩
end Go.Proofs.YtngpjagpeblbjaaGreatDoor
namespace Go.Proofs.YtngpjagpeblbjaaGreatDoor
open Go.RowKit Go.Spy Go.Rx
theorem ends_any {l : List Nd} (F : Rx.Form l) {w : World} {ao : Option Addr} {bF bA cap : Nat} (hP : PlanW w ao l bF bA) (hl : l.length ≤ 64) {bP at_ bL : Nat} (hB : Blk w bP 126 (planC ao l.length cap bF bA)) (hat : at_ < l.length)
 {wo : Option Addr} {wcap : Nat} {ws : List ByteArray} (hL : w.cell? ⟨bL, 0, none⟩ = some (.slice wo ws.length wcap)) (hS : StrsV w wo wcap ws) (hbL : bL < w.heap.size) (h0 : 0 < ws.length) :
 Calls Tryz.prog 87 #[.int .i64 at_, .pointer (some ⟨bP, 0, none⟩), .pointer (some ⟨bL, 0, none⟩)] w fun e w' => e = .returned (.bool (decide (Go.Rx.symAt l at_ = ws[ws.length - 1]'(by omega)) && endsT (tr l (l.length - 1)) at_)) ∧ Ext w w' := by
 obtain ⟨b, off, rfl, hb, hc⟩ := hP.nodes.cells (by omega)
 obtain ⟨b2, o2, rfl, hb2, hc2⟩ := hS.cells h0
 have hn : l[at_]? = some l[at_] := List.getElem?_eq_getElem hat
 obtain ⟨q0, q1, q2, q3⟩ := hc at_ _ hn
 have hsym : Go.Rx.symAt l at_ = l[at_].sym := by simp [Go.Rx.symAt, hn]
 rw [hsym, ← fact_last]
 by_cases ht : l[at_].sym.toList = (ws[ws.length - 1]'(by omega)).toList
 ·have := ends_yes F hP hl hB hat hb q1 hL hb2 h0 hS.len hbL _ (hc2 (ws.length - 1) (by omega)) ht
  rw [decide_eq_true (bytes_ext ht), Bool.true_and]
  exact this
 ·have := ends_no F hP hl hB hat hb q1 hL hb2 h0 hS.len hbL _ (hc2 (ws.length - 1) (by omega)) ht
  rw [decide_eq_false (fun h => ht (by rw [h])), Bool.false_and]
  exact this
end Go.Proofs.YtngpjagpeblbjaaGreatDoor
namespace Go.Proofs.YtngpjagpeblbjaaGreatDoor
open Go.RowKit Go.Spy Go.Rx
set_option maxRecDepth 100000 in
set_option maxHeartbeats 1000000 in
theorem indexf_any {w : World} {v : Value} {ns : List Nat} (hV : NatsV w v ns) (hlen : ns.length ≤ 64) (x y : Value) (p : Nat → Bool)
 (hf : ∀ k w', k ∈ ns → Ext w w' → Calls Tryz.prog 87 #[.int .i64 k, x, y] w' fun e w'' => e = .returned (.bool (p k)) ∧ Ext w' w'') :
 Calls Tryz.prog 53 #[v, .func (.func 87) #[] #[x, y]] w fun e w' => (∃ r : Int, e = .returned (.int .i64 r) ∧ (0 ≤ r ↔ ns.any p = true)) ∧ Ext w w' := by
 obtain ⟨ao, cap, rfl, hc⟩ := hV.out
 have HC := hid hc
 have HF := hid hf
 clear hc hV hf
 go_enter Tryz.func53, Tryz.ntmps53
 go_wp2_with fail
 go_loopg [8] ns.length (fun g u wr => ∃ k, g = ns.length - k ∧ k ≤ ns.length ∧ u = .int .i64 k ∧ Hid (∀ i, i < k → ∀ q, ns[i]? = some q → p q = false) ∧ Hid (Ext w wr))
 case atStart => exact ⟨0, rfl, Nat.zero_le _, rfl, hid (fun i h => by omega), hid (Below.refl _ w)⟩
 case round =>
  obtain ⟨k, rfl, hk, rfl, HN, HE⟩ := hrel
  by_cases hlt : k < ns.length
  ·obtain ⟨b, off, rfl, hb, hcc⟩ := HC.out (by omega)
   obtain ⟨q, hq⟩ : ∃ q, ns[k]? = some q := ⟨_, List.getElem?_eq_getElem hlt⟩
   have c1 := (HE.out.cell (p := ⟨b, off + k, none⟩) hb).trans (hcc k q hq)
   have HQ := hid hq
   have HCall := hid (HF.out q)
   clear hcc hq
   go_wp2_with fail
   refine (HF.out q _ (List.mem_of_getElem? HQ.out) HE.out).mono ?_
   rintro e w2 ⟨rfl, hx⟩
   have HX := hid (HE.out.trans (hx.mono HE.out.size))
   clear hx
   cases hp : p q with
   | true =>
     go_wp2_with fail
     go_ret
     exact ⟨⟨k, rfl, by simp [List.any_eq_true]; exact ⟨q, List.mem_of_getElem? HQ.out, hp⟩⟩, HX.out⟩
   | false =>
     go_wp2_with fail
     go_roundg (ns.length - (k + 1))
     case measure => omega
     case rel =>
      refine ⟨k + 1, rfl, by omega, by go_num, hid fun i hi r hr => ?_, HX⟩
      by_cases e : i = k
      ·subst e; rw [HQ.out] at hr; cases hr; exact hp
      ·exact HN.out i (by omega) r hr
  ·go_wp2_with fail
   go_ret
   refine ⟨⟨-1, rfl, ⟨fun h => by omega, fun h => ?_⟩⟩, HE.out⟩
   obtain ⟨q, hq, hp⟩ := List.any_eq_true.1 h
   obtain ⟨i, hi⟩ := List.getElem?_of_mem hq
   have := HN.out i (by have := (List.getElem?_eq_some_iff.1 hi).1; omega) q hi
   rw [this] at hp
   cases hp
end Go.Proofs.YtngpjagpeblbjaaGreatDoor
namespace Go.Proofs.YtngpjagpeblbjaaGreatDoor
open Go.RowKit Go.Spy Go.Rx
theorem containsf_any {w : World} {v : Value} {ns : List Nat} (hV : NatsV w v ns) (hlen : ns.length ≤ 64) (x y : Value) (p : Nat → Bool)
 (hf : ∀ k w', k ∈ ns → Ext w w' → Calls Tryz.prog 87 #[.int .i64 k, x, y] w' fun e w'' => e = .returned (.bool (p k)) ∧ Ext w' w'') :
 Calls Tryz.prog 39 #[v, .func (.func 87) #[] #[x, y]] w fun e w' => e = .returned (.bool (ns.any p)) ∧ Ext w w' := by
 have H := hid (indexf_any hV hlen x y p hf)
 clear hV hf
 go_enter Tryz.func39, Tryz.ntmps39
 go_wp2_with fail
 refine H.out.mono ?_
 rintro e w2 ⟨⟨r, rfl, hr⟩, hx⟩
 cases ha : ns.any p with
 | true =>
   have h0 : decide (0 ≤ r) = true := decide_eq_true (hr.2 ha)
   have HA := hid ha
   have HR := hid hr
   have HX := hid hx
   clear ha hr hx
   go_wp2_with fail
   go_ret
   exact ⟨by rw [HA.out] <;> simp_all, HX.out⟩
 | false =>
   have h0 : decide (0 ≤ r) = false := decide_eq_false (fun h => by rw [hr.1 h] at ha; cases ha)
   have HA := hid ha
   have HX := hid hx
   clear ha hr hx
   go_wp2_with fail
   go_ret
   exact ⟨by rw [HA.out] <;> simp_all, HX.out⟩
end Go.Proofs.YtngpjagpeblbjaaGreatDoor
namespace Go.Proofs.YtngpjagpeblbjaaGreatDoor
open Go.RowKit Go.Spy Go.Rx
set_option maxRecDepth 100000 in
theorem match_nil {l : List Nd} (F : Rx.Form l) {w : World} {ao : Option Addr} (hV : NodesV w ao l) (hN : NamesOk l) (cap : Nat) (hl : l.length ≤ 64) (wo : Option Addr) (wcap : Nat) :
 Calls Tryz.prog 25 #[.agg #[.slice ao l.length cap], .slice wo 0 wcap] w fun e w' => e = .returned (.bool (nullT (tr l (l.length - 1)))) ∧ Ext w w' := by
 have h0 : 0 < l.length := List.length_pos_iff.2 F.ne
 have HV := hid hV
 have HN := hid hN
 have HF := hid F
 clear hV hN F
 go_enter Tryz.func25, Tryz.ntmps25
 go_wp2_with fail
 have hE0 : Ext w ((w.alloc (.cells #[.slice ao l.length cap] 45)).alloc (.cells #[.slice wo 0 wcap] 22)) := ((Below.refl _ w).alloc (Nat.le_refl _) _).alloc (by simp) _
 refine (plan_any HF.out (HV.out.ext hE0) HN.out cap hl).mono ?_
 rintro e w1 ⟨bF, bA, rfl, hP, hx, lF, lA⟩
 unfold planC
 have c1 : w1.cell? ⟨w.heap.size + 1, 0, none⟩ = some (.slice wo 0 wcap) := ((Blk.new' (w.alloc _) 22 _ (by simp)).ext hx).cell (i := 0) rfl
 have HX := hid (hE0.trans (hx.mono (by simp; omega)))
 have HP := hid hP
 have sx : w.heap.size + 1 + 1 ≤ w1.heap.size := by have := hx.size; simpa using this
 have sx2 : w.heap.size + 1 < w1.heap.size := by omega
 have sx3 : w.heap.size < w1.heap.size := by omega
 clear hx hE0 hP lF lA
 go_wp2_with fail
 have hE1 : Ext w ((w1.alloc (.cells #[.slice ao l.length cap, .slice (some ⟨bF, 0, none⟩) l.length l.length, .slice (some ⟨bA, 0, none⟩) l.length l.length] 126))) := HX.out.alloc HX.out.size _
 refine (root_any _ ao l.length cap bF bA h0 (by omega)).mono ?_
 rintro e w2 ⟨rfl, hx2⟩
 have HP2 : Hid (PlanW w2 ao l bF bA) := hid (HP.out.ext (((Below.refl _ w1).alloc (Nat.le_refl _) _).trans (hx2.mono (by simp))))
 have f1 : w2.cell? ⟨bF, (l.length - 1) * 34 + 1, none⟩ = some (.bool (nullT (tr l (l.length - 1)))) := by rw [HP2.out.fact (i := l.length - 1) (j := 1) (by omega) (by decide), factV_empty, fact_empty]
 have HX2 := hid (hE1.trans (hx2.mono (by have := HX.out.size; simp; omega)))
 clear hx2 hE1
 go_wp2_with fail
 go_ret
 exact ⟨rfl, HX2.out⟩
end Go.Proofs.YtngpjagpeblbjaaGreatDoor
namespace Go.Rx
theorem comeM_snoc (l : List Nd) (ws : List ByteArray) (m : Nat) (w : ByteArray) : comeM l m (ws ++ [w]) = stepM l w 0 (bitsL (comeM l m ws)) := by
 induction ws generalizing m with
 | nil => rfl
 | cons v ws ih => rw [List.cons_append, comeM, comeM, ih]
theorem comeM_lt {l : List Nd} {n : Nat} (hn : l.length ≤ n) (ws : List ByteArray) {m : Nat} (h : m < 2 ^ n) : comeM l m ws < 2 ^ n := by
 induction ws generalizing m with
 | nil => exact h
 | cons v ws ih => rw [comeM]; exact ih (stepM_lt v _ hn (Nat.lt_of_le_of_lt (Nat.zero_le _) h))
theorem stepM_snoc (l : List Nd) (w : ByteArray) (ps : List Nat) (acc p : Nat) : stepM l w acc (ps ++ [p]) = if Go.Rx.symAt l p = w then stepM l w acc ps ||| nextM l p else stepM l w acc ps := by
 induction ps generalizing acc with
 | nil => rfl
 | cons q ps ih => rw [List.cons_append, stepM, stepM, ih]
theorem bits_below {m n p : Nat} (hm : m < 2 ^ n) (hp : p ∈ bitsL m) : p < n := by
 rcases Nat.lt_or_ge p n with h | h
 ·exact h
 ·have := Nat.testBit_lt_two_pow (Nat.lt_of_lt_of_le hm (Nat.pow_le_pow_right (by omega) h))
  rw [(mem_bitsL m p).1 hp] at this
  cases this
end Go.Rx
namespace Go.Spy
open Go.RowKit
theorem cell_map_ne {κ : Type} {w : World} {b b' o : Nat} {v : Value} {enc : κ → Value} {ls : List (κ × Value)} (h : w.cell? ⟨b, o, none⟩ = some v) (hM : MapB w b' enc ls) : b ≠ b' := by
 rintro rfl
 obtain ⟨es, clock, hb, _⟩ := hM
 simp [World.cell?, hb] at h
end Go.Spy
namespace Go.Proofs.YtngpjagpeblbjaaGreatDoor
open Go.RowKit Go.Spy Go.Rx
structure StatW (w : World) (l : List Nd) (ao : Option Addr) (cap bF bA bP bM bK bL : Nat) (wo : Option Addr) (wcap : Nat) (ws : List ByteArray) : Prop where
 plan : PlanW w ao l bF bA
 pbox : Blk w bP 126 (planC ao l.length cap bF bA)
 kbox : Blk w bK 134 #[.map (some bM)]
 lbox : Blk w bL 22 #[.slice wo ws.length wcap]
 words : StrsV w wo wcap ws
 tab : TabW w
theorem StatW.chg {w w' : World} {l : List Nd} {ao : Option Addr} {cap bF bA bP bM bK bL : Nat} {wo : Option Addr} {wcap : Nat} {ws : List ByteArray} (h : StatW w l ao cap bF bA bP bM bK bL wo wcap ws) {ls : List (Int × Value)} (hM : MapB w bM (Value.int .i64) ls) (h0 : 0 < l.length) (hw : 0 < ws.length) (c : Chg (· = bM) w w') : StatW w' l ao cap bF bA bP bM bK bL wo wcap ws := by
 obtain ⟨b, off, hao, hb, hc⟩ := h.plan.nodes.cells h0
 obtain ⟨b2, o2, hwo, hb2, hc2⟩ := h.words.cells hw
 refine ⟨⟨h.plan.nodes.chg c (fun b' off' e => ?_), h.plan.facts.chg c (blk_map_ne h.plan.facts hM), h.plan.above.chg c (blk_map_ne h.plan.above hM)⟩, h.pbox.chg c (blk_map_ne h.pbox hM), h.kbox.chg c (blk_map_ne h.kbox hM), h.lbox.chg c (blk_map_ne h.lbox hM), h.words.chg c (fun b' off' e => ?_), h.tab.chg c ?_⟩
 ·rw [hao] at e; cases e
  exact cell_map_ne (hc 0 _ (List.getElem?_eq_getElem h0)).1 hM
 ·rw [hwo] at e; cases e
  exact cell_map_ne (hc2 0 hw) hM
 ·exact cell_map_ne (h.tab.cell (j := 0) (by omega)) hM
set_option maxRecDepth 100000 in
set_option maxHeartbeats 1000000 in
theorem match_some {l : List Nd} (F : Rx.Form l) {w : World} {ao : Option Addr} (hV : NodesV w ao l) (hN : NamesOk l) (cap : Nat) (hl : l.length ≤ 64) {wo : Option Addr} {wcap : Nat} {ws : List ByteArray} (hS : StrsV w wo wcap ws) (hw : 0 < ws.length) (hcap : ws.length ≤ wcap) (hT : TabW w) :
 Calls Tryz.prog 25 #[.agg #[.slice ao l.length cap], .slice wo ws.length wcap] w fun e w' => e = .returned (.bool (matchT (tr l (l.length - 1)) ws)) ∧ Ext w w' := by
 have h0 : 0 < l.length := List.length_pos_iff.2 F.ne
 have HV := hid hV
 have HN := hid hN
 have HF := hid F
 have HS := hid hS
 have HT := hid hT
 have hwl := hS.len
 have t1 : (ws.length == 0) = false := beq_eq_false_iff_ne.2 (by omega)
 clear hV hN F hS hT
 go_enter Tryz.func25, Tryz.ntmps25
 go_wp2_with fail
 have hE0 : Ext w ((w.alloc (.cells #[.slice ao l.length cap] 45)).alloc (.cells #[.slice wo ws.length wcap] 22)) := ((Below.refl _ w).alloc (Nat.le_refl _) _).alloc (by simp) _
 refine (plan_any HF.out (HV.out.ext hE0) HN.out cap hl).mono ?_
 rintro e w1 ⟨bF, bA, rfl, hP, hx, lF, lA⟩
 unfold planC
 have c1 : w1.cell? ⟨w.heap.size + 1, 0, none⟩ = some (.slice wo ws.length wcap) := ((Blk.new' (w.alloc _) 22 _ (by simp)).ext hx).cell (i := 0) rfl
 have HL1 := hid ((Blk.new' (w.alloc (.cells #[.slice ao l.length cap] 45)) 22 #[.slice wo ws.length wcap] (b := w.heap.size + 1) (by simp)).ext hx)
 have HX := hid (hE0.trans (hx.mono (by simp; omega)))
 have HP := hid hP
 have sx : w.heap.size + 1 + 1 ≤ w1.heap.size := by have := hx.size; simpa using this
 have sx2 : w.heap.size + 1 < w1.heap.size := by omega
 have sx3 : w.heap.size + 1 < w1.heap.size + 1 := by omega
 have sx4 : w.heap.size + 1 < w1.heap.size + 1 + 1 := by omega
 have sx5 : w.heap.size + 1 < w1.heap.size + 1 + 1 + 1 := by omega
 have lbF := HP.out.facts.lt
 have hmm := @run_makeMap Tryz.prog
 clear hx hE0 hP lF lA
 go_wp2_with fail
 have hE1 : Ext w1 ((((w1.alloc (.cells #[.slice ao l.length cap, .slice (some ⟨bF, 0, none⟩) l.length l.length, .slice (some ⟨bA, 0, none⟩) l.length l.length] 126)).alloc (.map #[] 0)).alloc (.cells #[.map (some (w1.heap.size + 1))] 134))) := (((Below.refl _ w1).alloc (Nat.le_refl _) _).alloc (by simp) _).alloc (by simp; omega) _
 have hB1 : Blk ((((w1.alloc (.cells #[.slice ao l.length cap, .slice (some ⟨bF, 0, none⟩) l.length l.length, .slice (some ⟨bA, 0, none⟩) l.length l.length] 126)).alloc (.map #[] 0)).alloc (.cells #[.map (some (w1.heap.size + 1))] 134))) w1.heap.size 126 #[.slice ao l.length cap, .slice (some ⟨bF, 0, none⟩) l.length l.length, .slice (some ⟨bA, 0, none⟩) l.length l.length] := ((Blk.new w1 _ _).alloc _).alloc _
 have hM1 := (MapB.new' (w1.alloc (.cells #[.slice ao l.length cap, .slice (some ⟨bF, 0, none⟩) l.length l.length, .slice (some ⟨bA, 0, none⟩) l.length l.length] 126)) (Value.int .i64) (b := w1.heap.size + 1) (by simp)).alloc (.cells #[.map (some (w1.heap.size + 1))] 134)
 have hK1 : Blk ((((w1.alloc (.cells #[.slice ao l.length cap, .slice (some ⟨bF, 0, none⟩) l.length l.length, .slice (some ⟨bA, 0, none⟩) l.length l.length] 126)).alloc (.map #[] 0)).alloc (.cells #[.map (some (w1.heap.size + 1))] 134))) (w1.heap.size + 1 + 1) 134 #[.map (some (w1.heap.size + 1))] := Blk.new' _ _ _ (by simp)
 have HH := hid (And.intro hB1 (And.intro hM1 (And.intro hK1 hE1)))
 clear hB1 hM1 hK1 hE1
 go_wp2_with (first
  | (go_at_call 82
     refine (root_any _ ao l.length cap bF bA h0 (by omega)).mono ?_
     rintro e w2 ⟨rfl, hx2⟩
     have HE2 := hid (HH.out.2.2.2.trans (hx2.mono (by simp; omega)))
     have HH2 := hid (And.intro (HH.out.1.ext hx2) (And.intro (HH.out.2.1.ext hx2) (HH.out.2.2.1.ext hx2)))
     have szf : (l.length - 1) * 34 + 2 + 16 ≤ (rowV factV (factsOf l)).size := by rw [rowV_size factV_size, factsOf_len]; omega
     have s2 : w1.heap.size + 1 + 1 + 1 ≤ w2.heap.size := by have := hx2.size; simpa using this
     have c2 : w2.cell? ⟨w.heap.size + 1, 0, none⟩ = some (.slice wo ws.length wcap) := (HE2.out.cell (p := ⟨w.heap.size + 1, 0, none⟩) sx2).trans c1
     have sw2 : w.heap.size + 1 < w2.heap.size := by omega
     have sw3 : w.heap.size + 1 < w2.heap.size + 1 := by omega
     clear hx2)
  | (refine wpList_load_agg rfl 129 (.tmp 37) rfl bF ((l.length - 1) * 34 + 2) rfl 131 (rowV factV (factsOf l)) _ 16 (HP.out.ext HE2.out).facts Tryz.underlying129 rfl info_set szf ?_; intro C1 HC1
     have e1 : C1 = setV (factT (tr l (l.length - 1))).first := by rw [HC1.out, ← factV_ext_first (factT (tr l (l.length - 1))), ← rowV_extract factV_size (factsOf_get (l := l) (i := l.length - 1) (by omega))]; simp
     have E1 := hid e1
     have sC1 : C1.size = 16 := by rw [e1, setV_size]
     clear e1)
  | (with_reducible refine wpList_alloc_aggD rfl 129 rfl 9 rfl _ zero_set ?_; intro Z HZ; have sZ : Z.size = 16 := by rw [HZ.out, setV_size])
  | (refine wpList_store_last rfl 129 (.tmp 9) (.tmp 38) rfl _ C1 rfl rfl 129 Z rfl ?_ ?_ ?_ ?_
     ·rw [sC1]; exact info_set
     ·omega
     ·rw [E1.out]; exact ones_setV _
     skip))
 have hX2 : Ext w w2 := HX.out.trans (HE2.out.mono HX.out.size)
 have hst : StatW w2 l ao cap bF bA w1.heap.size (w1.heap.size + 1) (w1.heap.size + 1 + 1) (w.heap.size + 1) wo wcap ws :=
  ⟨HP.out.ext HE2.out, HH2.out.1, HH2.out.2.2, HL1.out.ext HE2.out, HS.out.ext hX2, HT.out.ext hX2⟩
 have HST := hid hst
 have HX2 := hid hX2
 have hf1 : (factT (tr l (l.length - 1))).first < 2 ^ l.length := (fact_lt (n := l.length) _ fun p hp => pos_lt HF.out (by omega) hp).1
 obtain ⟨m0, HM0⟩ : ∃ m, Hid (m = (factT (tr l (l.length - 1))).first) := ⟨_, hid rfl⟩
 rw [← HM0.out] at hf1 E1
 have HF1 := hid hf1
 have hC0 : Blk (w2.alloc (.cells C1 129)) w2.heap.size 129 (setV m0) := by rw [E1.out]; exact Blk.new w2 _ _
 have HC0 := hid hC0
 have h64 : ∀ m, m < 2 ^ l.length → m < 18446744073709551616 := fun m h => by
  have e64 : 2 ^ 64 = 18446744073709551616 := by decide
  rw [← e64]
  exact Nat.lt_of_lt_of_le h (Nat.pow_le_pow_right (by omega) hl)
 have H64 := hid h64
 clear hX2 hst hf1 hC0 h64 c1 c2 sx sx2 sx3 sx4 sx5 sw2 sw3 hmm lbF
 obtain ⟨bP, HbP⟩ : ∃ b, Hid (b = w1.heap.size) := ⟨_, hid rfl⟩
 go_loopg [45] (ws.length - 1) (fun g u wr => ∃ k m, g = ws.length - 1 - k ∧ k ≤ ws.length - 1 ∧ u = .int .i64 k ∧ Hid (m = comeM l m0 (ws.take k)) ∧ Hid (Blk wr w2.heap.size 129 (setV m)) ∧ Hid (∃ ls, MapB wr (w1.heap.size + 1) (Value.int .i64) ls ∧ KnownOk l ls) ∧ Hid (Chg (· = w1.heap.size + 1) w2 wr))
 case atStart => exact ⟨0, m0, rfl, Nat.zero_le _, rfl, hid rfl, HC0, hid ⟨[], (HH2.out.2.1).alloc _, fun k v h => by simp [alook] at h⟩, hid ((Chg.refl _ w2).alloc _)⟩
 case round =>
  obtain ⟨k, m, rfl, hk, rfl, HM, HB, HMap, HC⟩ := hrel
  obtain ⟨wq, rfl⟩ : ∃ wq : World, wq = wr := ⟨_, rfl⟩
  have HSq := hid (HST.out.chg HH2.out.2.1 h0 hw HC.out)
  have hm2 : m < 2 ^ l.length := by rw [HM.out]; exact comeM_lt (Nat.le_refl _) _ HF1.out
  have hsz2 := HC.out.size
  have hszB := HB.out.lt
  by_cases hlt : k < ws.length - 1
  ·obtain ⟨b2, o2, hwo, hb2, hc2⟩ := HSq.out.words.cells hw
   obtain ⟨word, HW⟩ : ∃ word, Hid (word = ws[k]'(by omega)) := ⟨_, hid rfl⟩
   have w0 : wq.cell? ⟨b2, o2 + k, none⟩ = some (.string word) := by rw [HW.out]; exact hc2 k (by omega)
   have HM2 := hid hm2
   have HWO := hid hwo
   subst hwo
   clear hm2 hc2
   go_wp2_with (first
    | (with_reducible refine wpList_alloc_aggD rfl 129 rfl 12 rfl _ zero_set ?_; intro N HN12; have sN : N.size = 16 := by rw [HN12.out, setV_size])
    | fail)
   have hE1 : Ext wq (wq.alloc (.cells N 129)) := (Below.refl _ wq).alloc (Nat.le_refl _) _
   refine (list_any w2.heap.size 0 m _ (H64.out m HM2.out) (fun i hi => by rw [Nat.zero_add]; exact (HB.out.ext hE1).cell (setV_get hi)) (HSq.out.tab.ext hE1)).mono ?_
   rintro e w3 ⟨v, rfl, hO, hx⟩
   have HN3 : Hid (Blk w3 wq.heap.size 129 (setV 0)) := hid (by rw [← HN12.out]; exact (Blk.new wq _ _).ext hx)
   have HO3 : Hid (OwnI w3 (wq.heap.size + 1) v (bitsL m)) := hid (by have := hO; simpa using this)
   have hX3 : Ext wq w3 := hE1.trans (hx.mono (by simp))
   have HB3 := hid (HB.out.ext hX3)
   have HMap3 := hid (let ⟨ls, h1, h2⟩ := HMap.out; (⟨ls, h1.ext hX3, h2⟩ : ∃ ls, MapB w3 (w1.heap.size + 1) (Value.int .i64) ls ∧ KnownOk l ls))
   have HC3 := hid (HC.out.ext hX3)
   have hszq : wq.heap.size < w3.heap.size := HN3.out.lt
   have hlenb : (bitsL m).length ≤ 64 := Nat.le_trans (bitsL_len HM2.out) hl
   obtain ⟨ao3, cap3, rfl, _⟩ := (nats_of_owns HO3.out).out
   clear hE1 hO hx hX3 HMap HB w0 hb2
   go_wp2_with fail
   go_loopg [51] (bitsL m).length (fun g u wr => ∃ j acc, g = (bitsL m).length - j ∧ j ≤ (bitsL m).length ∧ u = .int .i64 j ∧ Hid (acc = stepM l word 0 ((bitsL m).take j)) ∧ Hid (Blk wr w2.heap.size 129 (setV m)) ∧ Hid (Blk wr wq.heap.size 129 (setV acc)) ∧ Hid (OwnI wr (wq.heap.size + 1) (.slice ao3 (bitsL m).length cap3) (bitsL m)) ∧ Hid (∃ ls, MapB wr (w1.heap.size + 1) (Value.int .i64) ls ∧ KnownOk l ls) ∧ Hid (Chg (· = w1.heap.size + 1) w2 wr))
   case atStart => exact ⟨0, 0, rfl, Nat.zero_le _, rfl, hid rfl, HB3, HN3, HO3, HMap3, HC3⟩
   case round =>
    obtain ⟨j, acc, rfl, hj, rfl, HA, HBj, HNj, HOj, HMj, HCj⟩ := hrel
    obtain ⟨wj, rfl⟩ : ∃ wj : World, wj = wr := ⟨_, rfl⟩
    have HSj := hid (HST.out.chg HH2.out.2.1 h0 hw HCj.out)
    have hacc : acc < 2 ^ l.length := by rw [HA.out]; exact stepM_lt word _ (Nat.le_refl _) (Nat.two_pow_pos _)
    have HACC := hid hacc
    clear hacc
    by_cases hlj : j < (bitsL m).length
    ·obtain ⟨ao4, cap4, e4, hc4⟩ := (nats_of_owns HOj.out).out
     obtain ⟨b4, o4, ha4, hb4, hcc4⟩ := hc4 (by omega)
     simp only [Value.slice.injEq] at e4
     obtain ⟨rfl, _, rfl⟩ := e4
     subst ha4
     obtain ⟨p, hp⟩ : ∃ p, (bitsL m)[j]? = some p := ⟨_, List.getElem?_eq_getElem hlj⟩
     have cj := hcc4 j p hp
     have hpl : p < l.length := bits_below HM2.out (List.mem_of_getElem? hp)
     obtain ⟨n, hn⟩ : ∃ n, l[p]? = some n := ⟨_, List.getElem?_eq_getElem hpl⟩
     obtain ⟨bn, on, hao, hbn, hcn⟩ := HSj.out.plan.nodes.cells h0
     obtain ⟨-, q1, -, -⟩ := hcn p n hn
     have p0 := HSj.out.pbox.cell (i := 0) (v := .slice ao l.length cap) rfl
     have hsym : Go.Rx.symAt l p = n.sym := by simp [Go.Rx.symAt, hn]
     have hstep : stepM l word 0 ((bitsL m).take (j + 1)) = if Go.Rx.symAt l p = word then acc ||| nextM l p else acc := by
      obtain ⟨hlt', e'⟩ := List.getElem?_eq_some_iff.1 hp
      rw [List.take_succ_eq_append_getElem hlt', e', stepM_snoc, ← HA.out]
     have HP1 := hid hp
     have HAO := hid hao
     have HSTEP := hid hstep
     subst hao
     clear hcc4 hc4 hp hcn hstep
     by_cases hw1 : Go.Rx.symAt l p = word
     ·rw [hsym] at hw1
      have ht : (n.sym.toList == word.toList) = true := by simp [hw1]
      have HW1 := hid (hsym.trans hw1)
      obtain ⟨ls, hM, hK⟩ := HMj.out
      have hbM := HH2.out.2.1.lt
      have nB := blk_map_ne HBj.out hM
      have nN := blk_map_ne HNj.out hM
      have hcall := follow_any HF.out HSj.out.plan hl HSj.out.pbox hpl (HSj.out.kbox.cell (i := 0) rfl) hM hK HSj.out.kbox.lt
      have HCALL := hid hcall
      have HNB := hid nB
      have HNN := hid nN
      clear hw1 hsym hn hM hK nB nN hcall
      go_wp2_with fail
      refine HCALL.out.mono ?_
      rintro e w4 ⟨C, rfl, hC, hmap, hchg⟩
      have HC' := hid hC
      have sC : C.size = 16 := by rw [hC, setV_size]
      have HM4 := hid hmap
      have HB4 := hid (HBj.out.chg hchg HNB.out)
      have HN4 := hid (HNj.out.chg hchg HNN.out)
      have HO4 : Hid (OwnI w4 (wq.heap.size + 1) (.slice (some ⟨b4, o4, none⟩) (bitsL m).length cap3) (bitsL m)) := hid (owns_chg HOj.out hchg (fun i hi => by have := (World.ownsRow.lt HOj.out i hi).1; show ¬ i = _; omega))
      have HC4 := hid (HCj.out.trans hchg)
      have hsz4 := hchg.size
      clear hC hmap hchg
      go_wp2_with (first
       | (with_reducible refine wpList_alloc_aggD rfl 129 rfl 15 rfl _ zero_set ?_; intro Y HY; have sY : Y.size = 16 := by rw [HY.out, setV_size])
       | (refine wpList_store_last rfl 129 (.tmp 15) (.tmp 65) rfl _ C rfl rfl 129 Y rfl ?_ ?_ ?_ ?_
          ·rw [sC]; exact info_set
          ·omega
          ·rw [HC'.out]; exact ones_setV _
          skip))
      have hnx : nextM l p < 18446744073709551616 := H64.out _ (nextM_lt l p)
      have hE5 : Ext w4 (w4.alloc (.cells C 129)) := (Below.refl _ w4).alloc (Nat.le_refl _) _
      refine (join_any wq.heap.size 0 acc w4.heap.size 0 (nextM l p) 129 (setV acc) _ (H64.out _ HACC.out) hnx (by have := HN4.out.lt; omega) (HN4.out.ext hE5) (fun i hi => by rw [Nat.zero_add]; exact setV_get hi) (fun i hi => by rw [Nat.zero_add]; refine (Blk.new w4 _ _).cell ?_; rw [HC'.out]; exact setV_get hi)).mono ?_
      rintro e w5 ⟨rfl, hB5, hX5⟩
      rw [setV_put] at hB5
      have HN5 := hid hB5
      have HC5 := hid (chg_own2 (HC4.out.ext hE5) hX5 (fun i e => by rw [e]; exact hsz2))
      have HB5 := hid ((HB4.out.ext hE5).chg hX5 (by show ¬ w2.heap.size = wq.heap.size; omega))
      have HO5 : Hid (OwnI w5 (wq.heap.size + 1) (.slice (some ⟨b4, o4, none⟩) (bitsL m).length cap3) (bitsL m)) := hid (owns_chg (World.ownsRow.alloc HO4.out _) hX5 (fun i hi => by have := (World.ownsRow.lt HO4.out i hi).1; show ¬ i = _; omega))
      have HM5 : Hid (∃ ls, MapB w5 (w1.heap.size + 1) (Value.int .i64) ls ∧ KnownOk l ls) := hid (by obtain ⟨ls, h1, h2⟩ := HM4.out; exact ⟨ls, (h1.ext hE5).chg hX5 (by show ¬ w1.heap.size + 1 = wq.heap.size; have := HH2.out.2.1.lt; omega), h2⟩)
      clear hE5 hB5 hX5 hnx
      go_wp2_with fail
      go_roundg ((bitsL m).length - (j + 1))
      case measure => omega
      case rel => exact ⟨j + 1, acc ||| nextM l p, rfl, by omega, by go_num, hid (by rw [HSTEP.out, if_pos HW1.out]), HB5, HN5, HO5, HM5, HC5⟩
     ·rw [hsym] at hw1
      have ht : (n.sym.toList == word.toList) = false := beqB_false hw1
      have HW1 := hid (show ¬ Go.Rx.symAt l p = word by rw [hsym]; exact hw1)
      clear hw1 hsym hn
      go_wp2_with fail
      go_roundg ((bitsL m).length - (j + 1))
      case measure => omega
      case rel => exact ⟨j + 1, acc, rfl, by omega, by go_num, hid (by rw [HSTEP.out, if_neg HW1.out]), HBj, HNj, HOj, HMj, HCj⟩
    ·obtain rfl : j = (bitsL m).length := by omega
     have hA := HA.out
     rw [List.take_length] at hA
     have HA2 := hid hA
     clear hA HOj
     go_wp2_with (first
      | (refine wpList_load_agg rfl 129 (.tmp 12) rfl wq.heap.size 0 rfl 129 (setV acc) _ 16 HNj.out Tryz.underlying129 rfl info_set (by rw [setV_size]; omega) ?_; intro E HE; have e0 : E = setV acc := (by rw [HE.out]; exact ext_all _ 16 (setV_size acc)); have E0 := hid e0; have sE : E.size = 16 := (by rw [e0, setV_size]); clear e0)
      | (refine wpList_store_agg rfl 129 (.tmp 9) (.tmp 68) rfl w2.heap.size 0 E rfl rfl 129 (setV m) HBj.out (by rw [sE]; exact info_set) (by rw [sE, setV_size]; omega) (by rw [E0.out]; exact ones_setV _) ?_; intro w5 H5 hs5))
     have hz := H5.out.1
     rw [splice_all (by rw [sE, setV_size]), E0.out] at hz
     have HB5 := hid hz
     have HC5 := hid (chg_own2 HCj.out H5.out.2 (fun i e => by rw [e]; exact Nat.le_refl _))
     have HM5 : Hid (∃ ls, MapB w5 (w1.heap.size + 1) (Value.int .i64) ls ∧ KnownOk l ls) := hid (by obtain ⟨ls, h1, h2⟩ := HMj.out; exact ⟨ls, h1.chg H5.out.2 (by show ¬ w1.heap.size + 1 = w2.heap.size; have := HH2.out.2.1.lt; omega), h2⟩)
     have hk1 : k + 1 ≤ ws.length - 1 := hlt
     have hms : ws.length - 1 - (k + 1) < ws.length - 1 - k := Nat.sub_lt_sub_left hlt (Nat.lt_succ_self k)
     clear hz
     go_roundg (ws.length - 1 - (k + 1))
     case measure => exact hms
     case rel =>
      refine ⟨k + 1, acc, rfl, hk1, by go_num, hid ?_, HB5, HM5, HC5⟩
      rw [HA2.out, List.take_succ_eq_append_getElem (by omega), comeM_snoc, ← HM.out, ← HW.out]
  ·obtain rfl : k = ws.length - 1 := by omega
   go_wp2_with fail
   refine (list_any w2.heap.size 0 m _ (H64.out m hm2) (fun i hi => by rw [Nat.zero_add]; exact HB.out.cell (setV_get hi)) HSq.out.tab).mono ?_
   rintro e w3 ⟨v, rfl, hO, hx⟩
   have HN3 := hid (nats_of_owns hO)
   have HX3 := hid hx
   have hlenb : (bitsL m).length ≤ 64 := Nat.le_trans (bitsL_len hm2) hl
   have HM2 := hid hm2
   clear hO hx hm2
   go_wp2_with fail
   refine (containsf_any HN3.out hlenb _ _ (fun p => decide (Go.Rx.symAt l p = ws[ws.length - 1]'(by omega)) && endsT (tr l (l.length - 1)) p) (fun p w' hp hE => ?_)).mono ?_
   ·exact ends_any HF.out ((HSq.out.plan.ext HX3.out).ext hE) hl ((HSq.out.pbox.ext HX3.out).ext hE) (bits_below HM2.out hp) (((HSq.out.lbox.ext HX3.out).ext hE).cell rfl) ((HSq.out.words.ext HX3.out).ext hE) ((HSq.out.lbox.ext HX3.out).ext hE).lt hw
   rintro e w4 ⟨rfl, hx4⟩
   have HX4 := hid hx4
   clear hx4
   go_wp2_with fail
   go_ret
   refine ⟨ret_bool ?_, ?_⟩
   ·have h1 := match_of_masks HF.out (ws.take (ws.length - 1)) (ws[ws.length - 1]'(by omega))
    rw [← HM0.out, ← HM.out] at h1
    have h2 : ws.take (ws.length - 1) ++ [ws[ws.length - 1]'(by omega)] = ws := by
     rw [← List.take_succ_eq_append_getElem (by omega), show ws.length - 1 + 1 = ws.length by omega, List.take_length]
    rw [h2] at h1
    exact h1
   ·have hbM : w.heap.size ≤ w1.heap.size + 1 := by have := HX.out.size; omega
    have h1 : Ext w wq := (Chg.below ((Chg.of_ext (S := (· = w1.heap.size + 1)) HX2.out).trans HC.out) (Nat.le_refl _) (fun i e => by rw [e]; exact hbM))
    exact (h1.trans (HX3.out.mono h1.size)).trans (HX4.out.mono (h1.trans (HX3.out.mono h1.size)).size)
theorem match_any {l : List Nd} (F : Rx.Form l) {w : World} {ao : Option Addr} (hV : NodesV w ao l) (hN : NamesOk l) (cap : Nat) (hl : l.length ≤ 64) {wo : Option Addr} {wcap : Nat} {ws : List ByteArray} (hS : StrsV w wo wcap ws) (hcap : ws.length ≤ wcap) (hT : TabW w) :
 Calls Tryz.prog 25 #[.agg #[.slice ao l.length cap], .slice wo ws.length wcap] w fun e w' => e = .returned (.bool (matchT (tr l (l.length - 1)) ws)) ∧ Ext w w' := by
 cases ws with
 | nil =>
   rw [matchT_nil]
   exact match_nil F hV hN cap hl wo wcap
 | cons x ws => exact match_some F hV hN cap hl hS (by simp) hcap hT
end Go.Proofs.YtngpjagpeblbjaaGreatDoor
namespace Go.Proofs
open Go.Shelf
def Tryz.laysNm215_ren : Go.Shelf.Ren := ⟨fun | 15 => 43 | n => n, fun | 22 => 46 | 3 => 3 | 4 => 4 | n => n, fun | n => n⟩
theorem Tryz.laysNm215 : Go.Proofs.Lays2.n15 Tryz.prog Tryz.laysNm215_ren := {
 mixed := by kernel_rfl
 f15 := Tryz.func43.trans (congrArg some (by kernel_rfl))
 t3 := Tryz.underlying3
 a3 := Tryz.isAgg3
 z3 := Tryz.sizeOf3
 v3 := Tryz.zeroValue3
 t4 := Tryz.underlying4
 a4 := Tryz.isAgg4
 z4 := Tryz.sizeOf4
 v4 := Tryz.zeroValue4
 t22 := Tryz.underlying46
 a22 := Tryz.isAgg46
 z22 := Tryz.sizeOf46
 v22 := Tryz.zeroValue46
 i3 := by kernel_rfl }
open Go.RowKit Go.Lib in
theorem Tryz.slices_Clone_int (b off n c : Nat) (zs : List Int) (w : World) (hz : n ≤ zs.length) (hbig : n * 8 ≤ 140737488355328) (hc : ∀ j, j < zs.length → w.cell? ⟨b, off + j, none⟩ = some (.int .i64 (zs.getD j 0))) :
 Calls Tryz.prog 43 #[.slice (some ⟨b, off, none⟩) n c] w fun e w' => ∃ v', e = .returned v' ∧ w'.ownsRow w.heap.size 3 1 v' n ((zs.take n).map (Value.int .i64)) ∧ v' ≠ .slice none 0 0 ∧ Below w.heap.size w w' := Any.slices_Clone_int Tryz.laysNm215 b off n c zs w hz hbig hc
open Go.RowKit Go.Lib in
theorem Tryz.slices_Clone_int_nil (n c : Nat) (w : World) :
 Calls Tryz.prog 43 #[.slice none n c] w fun e w' => e = .returned (.slice none 0 0) ∧ w' = w := Any.slices_Clone_int_nil Tryz.laysNm215 n c w
open Go.RowKit Go.Lib in
theorem Tryz.slices_Clone_int_zero (a : Addr) (c : Nat) (w : World) :
 Calls Tryz.prog 43 #[.slice (some a) 0 c] w fun e w' => ∃ v', e = .returned v' ∧ w'.ownsRow w.heap.size 3 1 v' 0 [] ∧ v' ≠ .slice none 0 0 ∧ Below w.heap.size w w' := Any.slices_Clone_int_zero Tryz.laysNm215 a c w
end Go.Proofs
namespace Go.Proofs.YtngpjagpeblbjaaGreatDoor
open Go.RowKit Go.Spy Go.Rx
section
variable {P : Program} {t e : TypeId} {q : IntKind} {d n : Nat}
end
theorem cells3 : Tryz.prog.cellsOf 3 = 1 := by kernel_rfl
theorem cells83 : Tryz.prog.cellsOf 83 = 2 := by kernel_rfl
theorem keyOf_pr (p : Pr) : ∃ l, keyOf Tryz.prog 83 (.agg (prC p)) = some l := by
 refine keyOf_arr Tryz.underlying83 (by kernel_rfl) (by rw [cells83]; rfl) ?_
 rw [types_size]
 refine lits_array Tryz.underlying83 (by rw [cells83]; rfl) fun i hi => ?_
 rw [cells3]
 have : i = 0 ∨ i = 1 := by omega
 rcases this with rfl | rfl
 ·exact lits_int Tryz.underlying3 p.2.1
 ·exact lits_int Tryz.underlying3 p.2.2
theorem key_pr : KeyOk (κ := Pr) Tryz.prog 83 (fun p => .agg (prC p)) :=
 keyOk_law Tryz.underlying83 (deep_law_gate (by kernel_rfl) (by rw [types_size]; decide) (by rw [types_size]; decide) (by kernel_rfl) (by rw [Tryz.underlying83])) (fun _ _ => rfl) keyOf_pr
  (fun a b h => by
    obtain ⟨⟨a1, a2⟩, ha⟩ := a
    obtain ⟨⟨b1, b2⟩, hb⟩ := b
    simp [prC] at h
    simp [h])
  (fun k => by simp [Instr.sameBits, prC])
end Go.Proofs.YtngpjagpeblbjaaGreatDoor
namespace Go.Proofs.YtngpjagpeblbjaaGreatDoor
open Go.RowKit Go.Spy Go.Heaped Go.Tour
section
variable {K : Type} [DecidableEq K] {κ : Kind K}
end
theorem elem_pr : ElemOk Tryz.prog 77 83 2 16 where
 under := Tryz.underlying77
 info := by
  obtain ⟨i, h1, h2, h3, h4⟩ := info_parts (P := Tryz.prog) (e := 83) (z := .agg #[.int .i64 0, .int .i64 0]) (size := 2) (bytes := 16) (by kernel_rfl)
  exact ⟨i, _, h1, h2, h3, h4, rfl⟩
 pos := by decide
 small := by decide
end Go.Proofs.YtngpjagpeblbjaaGreatDoor
namespace Go.Spy
open Go.RowKit
section
variable {P : Program}
end
end Go.Spy
namespace Go.Proofs.YtngpjagpeblbjaaGreatDoor
open Go.RowKit Go.Spy Go.Heaped Go.Tour Go.Rx
def kindP : Kind Pr := ⟨fun p => .agg (prC p), prC, 80, 83, 2⟩
theorem okP : KindOk kindP := ⟨by decide, by decide, by decide, fun _ => rfl⟩
theorem prC_size (p : Pr) : (prC p).size = 2 := rfl
theorem info83 : (Tryz.prog.info? 83).map (·.size) = some 2 := by kernel_rfl
theorem zero83 : (Tryz.prog.info? 83).map (·.zero) = some (some (.agg (prC ⟨(0, 0), by decide⟩))) := by kernel_rfl
theorem slot83 : (Tryz.prog.info? 83).map (fun i => (i.zero, i.size)) = some (some (.agg (prC ⟨(0, 0), by decide⟩)), 2) := by kernel_rfl
end Go.Proofs.YtngpjagpeblbjaaGreatDoor
namespace Go.Tour
section
variable {K L : Type} [DecidableEq K] [DecidableEq L]
section
variable {succ : K → List K} {succ' : L → List L} {first : K} {φ : K → L} {U : K → Prop}
theorem idxOf_map_on {φ : K → L} : ∀ (ks : List K) (k : K), (∀ a ∈ ks, φ a = φ k → a = k) → (ks.map φ).idxOf (φ k) = ks.idxOf k
 | [], _, _ => rfl
 | a :: ks, k, h => by
   simp only [List.map_cons, List.idxOf_cons]
   by_cases e : a = k
   ·subst e; simp
   ·have e' : φ a ≠ φ k := fun x => e (h a (by simp) x)
    have e1 : (a == k) = false := by simpa using e
    have e2 : (φ a == φ k) = false := by simpa using e'
    rw [e1, e2]
    simp only [cond_false]
    rw [idxOf_map_on ks k (fun b hb => h b (by simp [hb]))]
end
section
variable {succ : K → List K} {first : K} {r i j : Nat} {s : St K} {l : List K} {k : K}
theorem tourN_first (succ : K → List K) (first : K) (i : Nat) : (tourN succ first i).keys[0]? = some first := by
 obtain ⟨t, ht⟩ := tourN_pre succ first (Nat.zero_le i)
 rw [← ht]; rfl
end
end
end Go.Tour
namespace Go.Tour
theorem aheadL_irr : ∀ u, aheadL u u = false
 | [] => rfl
 | a :: u => by simp [aheadL, aheadL_irr u]
theorem sle_iff {u v : List Nat} : sle u v ↔ u.length < v.length ∨ u.length = v.length ∧ aheadL v u = false := by
 constructor
 ·rintro (rfl | h | ⟨h1, h2⟩)
  ·exact .inr ⟨rfl, aheadL_irr u⟩
  ·exact .inl h
  ·refine .inr ⟨h1, ?_⟩
   cases h : aheadL v u with
   | false => rfl
   | true => have := aheadL_trans h2 h; rw [aheadL_irr] at this; cases this
 ·rintro (h | ⟨h1, h2⟩)
  ·exact .inr (.inl h)
  ·rcases aheadL_total h1 with x | x | x
   ·exact .inr (.inr ⟨h1, x⟩)
   ·exact .inl x
   ·rw [h2] at x; cases x
section
variable {K : Type} [DecidableEq K]
section
variable {δ : K → Nat → K} {m : Nat} {first : K} {keys : List K} {fr : List (Nat × Nat)} {i j : Nat}
end
section
variable {δ : K → Nat → K} {m : Nat} {first : K} {keys : List K} {fr : List (Nat × Nat)} {b : Nat × Nat}
end
section
variable {succ : K → List K} {first : K} {U : K → Prop}
end
end
end Go.Tour
