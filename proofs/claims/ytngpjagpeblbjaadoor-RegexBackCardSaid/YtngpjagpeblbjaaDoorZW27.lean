/-
  Walk of the closures of Match: ends.
-/
import Derived.Test.YtngpjagpeblbjaaDoorZW26
namespace Go.Proofs.YtngpjagpeblbjaaDoor
open Go.RowKit Go.Spy Go.Rx

set_option maxRecDepth 100000 in
set_option maxHeartbeats 4000000 in
theorem ends_no {l : List Nd} (F : Rx.Form l) {w : World} {b off : Nat} {bF bA cap : Nat} (hP : PlanW w (some ⟨b, off, none⟩) l bF bA) (hl : l.length ≤ 64) {bP at_ bL : Nat} (hB : Blk w bP 53 (planC (some ⟨b, off, none⟩) l.length cap bF bA)) (hat : at_ < l.length) (hb : b < w.heap.size) {n : Nd} (q1 : w.cell? ⟨b, off + at_ * 4 + 1, none⟩ = some (.string n.sym))
    {b2 o2 : Nat} {wcap : Nat} {ws : List ByteArray} (hL : w.cell? ⟨bL, 0, none⟩ = some (.slice (some ⟨b2, o2, none⟩) ws.length wcap)) (hb2 : b2 < w.heap.size) (h0 : 0 < ws.length) (hlen : ws.length ≤ 140737488351232) (hbL : bL < w.heap.size) (last : ByteArray) (hl2 : w.cell? ⟨b2, o2 + (ws.length - 1), none⟩ = some (.string last)) (ht : ¬ n.sym.toList = last.toList) :
    Calls Tryd.prog 29 #[.int .i64 at_, .pointer (some ⟨bP, 0, none⟩), .pointer (some ⟨bL, 0, none⟩)] w fun e w' => e = .returned (.bool false) ∧ Ext w w' := by
  have p0 : w.cell? ⟨bP, 0, none⟩ = some (.slice (some ⟨b, off, none⟩) l.length cap) := hB.cell (i := 0) rfl
  have p1 : w.cell? ⟨bP, 1, none⟩ = some (.slice (some ⟨bF, 0, none⟩) l.length l.length) := hB.cell (i := 1) rfl
  have p2 : w.cell? ⟨bP, 2, none⟩ = some (.slice (some ⟨bA, 0, none⟩) l.length l.length) := hB.cell (i := 2) rfl
  have lB := hB.lt
  have HP := hid hP
  have hn1 : IntKind.i64.wrap ((ws.length : Int) - 1) = ((ws.length - 1 : Nat) : Int) := by rw [IntKind.wrap_i64]; omega
  have hlt1 : ws.length - 1 < ws.length := by omega
  clear hP hB
  go_enter Tryd.func29, Tryd.ntmps29
  go_upto_region 1 with fail
  have hS0 : Ext w w.drew := (Below.refl _ w).drew
  refine wp_region_heldL (Ext w) (by kernel_rfl) ?_
  refine wpAnyH_takeK 0 21 #[true, false, false, false, false, false, false, false, false, false, false, false, false, false, false, false, false, false, false, false, false, false] rfl (by kernel_rfl) rfl (.pointer (some ⟨bP, 0, none⟩)) (fun _ _ _ h => h) (Or.inl ⟨rfl, fun w' hS => ?_⟩) hS0 ?_
  · go_simp <;> with_reducible rfl
  refine wpAnyH_takeK 1 20 #[true, true, false, false, false, false, false, false, false, false, false, false, false, false, false, false, false, false, false, false, false, false] rfl (by kernel_rfl) rfl (.slice (some ⟨b, off, none⟩) l.length cap) (fun _ _ _ h => h) (Or.inl ⟨rfl, fun w' hS => ?_⟩) hS0 ?_
  · have c1 := (hS.cell (p := ⟨bP, 0, none⟩) lB).trans p0; go_simp <;> with_reducible rfl
  refine wpAnyH_takeK 2 19 #[true, true, true, false, false, false, false, false, false, false, false, false, false, false, false, false, false, false, false, false, false, false] rfl (by kernel_rfl) rfl (.int .i64 at_) (fun _ _ _ h => h) (Or.inl ⟨rfl, fun w' hS => ?_⟩) hS0 ?_
  · go_simp <;> with_reducible rfl
  refine wpAnyH_takeK 3 18 #[true, true, true, true, false, false, false, false, false, false, false, false, false, false, false, false, false, false, false, false, false, false] rfl (by kernel_rfl) rfl (.pointer (some ⟨b, off + at_ * 4, none⟩)) (fun _ _ _ h => h) (Or.inl ⟨rfl, fun w' hS => ?_⟩) hS0 ?_
  · go_simp <;> with_reducible rfl
  refine wpAnyH_takeK 4 17 #[true, true, true, true, true, false, false, false, false, false, false, false, false, false, false, false, false, false, false, false, false, false] rfl (by kernel_rfl) rfl (.pointer (some ⟨b, off + at_ * 4 + 1, none⟩)) (fun _ _ _ h => h) (Or.inl ⟨rfl, fun w' hS => ?_⟩) hS0 ?_
  · go_simp <;> with_reducible rfl
  refine wpAnyH_takeK 5 16 #[true, true, true, true, true, true, false, false, false, false, false, false, false, false, false, false, false, false, false, false, false, false] rfl (by kernel_rfl) rfl (.string n.sym) (fun _ _ _ h => h) (Or.inl ⟨rfl, fun w' hS => ?_⟩) hS0 ?_
  · have c1 := (hS.cell (p := ⟨b, off + at_ * 4 + 1, none⟩) hb).trans q1; go_simp <;> with_reducible rfl
  refine wpAnyH_takeK 6 15 #[true, true, true, true, true, true, true, false, false, false, false, false, false, false, false, false, false, false, false, false, false, false] rfl (by kernel_rfl) rfl (.slice (some ⟨b2, o2, none⟩) ws.length wcap) (fun _ _ _ h => h) (Or.inl ⟨rfl, fun w' hS => ?_⟩) hS0 ?_
  · have c1 := (hS.cell (p := ⟨bL, 0, none⟩) hbL).trans hL; go_simp <;> with_reducible rfl
  refine wpAnyH_takeK 7 14 #[true, true, true, true, true, true, true, true, false, false, false, false, false, false, false, false, false, false, false, false, false, false] rfl (by kernel_rfl) rfl (.slice (some ⟨b2, o2, none⟩) ws.length wcap) (fun _ _ _ h => h) (Or.inl ⟨rfl, fun w' hS => ?_⟩) hS0 ?_
  · have c1 := (hS.cell (p := ⟨bL, 0, none⟩) hbL).trans hL; go_simp <;> with_reducible rfl
  refine wpAnyH_takeK 8 13 #[true, true, true, true, true, true, true, true, true, false, false, false, false, false, false, false, false, false, false, false, false, false] rfl (by kernel_rfl) rfl (.int .i64 ws.length) (fun _ _ _ h => h) (Or.inl ⟨rfl, fun w' hS => ?_⟩) hS0 ?_
  · go_simp <;> with_reducible rfl
  refine wpAnyH_takeK 9 12 #[true, true, true, true, true, true, true, true, true, true, false, false, false, false, false, false, false, false, false, false, false, false] rfl (by kernel_rfl) rfl (.int .i64 ((ws.length - 1 : Nat) : Int)) (fun _ _ _ h => h) (Or.inl ⟨rfl, fun w' hS => ?_⟩) hS0 ?_
  · go_simp <;> with_reducible rfl
  refine wpAnyH_takeK 10 11 #[true, true, true, true, true, true, true, true, true, true, true, false, false, false, false, false, false, false, false, false, false, false] rfl (by kernel_rfl) rfl (.pointer (some ⟨b2, o2 + (ws.length - 1), none⟩)) (fun _ _ _ h => h) (Or.inl ⟨rfl, fun w' hS => ?_⟩) hS0 ?_
  · go_simp <;> with_reducible rfl
  refine wpAnyH_takeK 11 10 #[true, true, true, true, true, true, true, true, true, true, true, true, false, false, false, false, false, false, false, false, false, false] rfl (by kernel_rfl) rfl (.string last) (fun _ _ _ h => h) (Or.inl ⟨rfl, fun w' hS => ?_⟩) hS0 ?_
  · have c1 := (hS.cell (p := ⟨b2, o2 + (ws.length - 1), none⟩) hb2).trans hl2; go_simp <;> with_reducible rfl
  refine wpAnyH_takeK 12 9 #[true, true, true, true, true, true, true, true, true, true, true, true, true, false, false, false, false, false, false, false, false, false] rfl (by kernel_rfl) rfl (.bool false) (fun _ _ _ h => h) (Or.inl ⟨rfl, fun w' hS => ?_⟩) hS0 ?_
  · go_simp <;> exact ht
  refine wpAnyH_takeK 13 8 #[true, true, true, true, true, true, true, true, true, true, true, true, true, true, false, false, false, false, false, false, false, false] rfl (by kernel_rfl) rfl (.bool false) (fun _ _ _ h => h) (Or.inl ⟨rfl, fun w' hS => ?_⟩) hS0 ?_
  · go_simp <;> with_reducible rfl
  refine wpAnyH_takeK 14 7 #[true, true, true, true, true, true, true, true, true, true, true, true, true, true, true, false, false, false, false, false, false, false] rfl (by kernel_rfl) rfl undef (fun _ _ _ h => h) (Or.inr ⟨by go_simp, rfl⟩) hS0 ?_
  refine wpAnyH_takeK 18 6 #[true, true, true, true, true, true, true, true, true, true, true, true, true, true, true, false, false, false, true, false, false, false] rfl (by kernel_rfl) rfl undef (fun _ _ _ h => h) (Or.inr ⟨by go_simp, rfl⟩) hS0 ?_
  refine wpAnyH_one 15 5 #[true, true, true, true, true, true, true, true, true, true, true, true, true, true, true, true, false, false, true, false, false, false] rfl (by kernel_rfl) rfl ?_
  go_wp2_with fail
  refine ⟨hS0, ?_⟩
  refine wpAnyH_takeK 16 4 #[true, true, true, true, true, true, true, true, true, true, true, true, true, true, true, true, true, false, true, false, false, false] rfl (by kernel_rfl) rfl undef (fun _ _ _ h => h) (Or.inr ⟨by go_simp, rfl⟩) hS0 ?_
  refine wpAnyH_takeK 17 3 #[true, true, true, true, true, true, true, true, true, true, true, true, true, true, true, true, true, true, true, false, false, false] rfl (by kernel_rfl) rfl undef (fun _ _ _ h => h) (Or.inr ⟨by go_simp, rfl⟩) hS0 ?_
  refine wpAnyH_one 19 2 #[true, true, true, true, true, true, true, true, true, true, true, true, true, true, true, true, true, true, true, true, false, false] rfl (by kernel_rfl) rfl ?_
  go_wp2_with fail
  refine ⟨hS0, ?_⟩
  refine wpAnyH_one 20 1 #[true, true, true, true, true, true, true, true, true, true, true, true, true, true, true, true, true, true, true, true, true, false] rfl (by kernel_rfl) rfl ?_
  go_wp2_with fail
  refine ⟨hS0, ?_⟩
  refine wpAnyH_one 21 0 #[true, true, true, true, true, true, true, true, true, true, true, true, true, true, true, true, true, true, true, true, true, true] rfl (by kernel_rfl) rfl ?_
  go_wp2_with fail
  refine ⟨hS0, ?_⟩
  refine wpAnyH_end (P := Tryd.prog) (by kernel_rfl) ?_
  go_wp2_with fail
  go_ret
  exact ⟨by simp, hS0⟩

set_option maxRecDepth 100000 in
set_option maxHeartbeats 4000000 in
theorem ends_yes {l : List Nd} (F : Rx.Form l) {w : World} {b off : Nat} {bF bA cap : Nat} (hP : PlanW w (some ⟨b, off, none⟩) l bF bA) (hl : l.length ≤ 64) {bP at_ bL : Nat} (hB : Blk w bP 53 (planC (some ⟨b, off, none⟩) l.length cap bF bA)) (hat : at_ < l.length) (hb : b < w.heap.size) {n : Nd} (q1 : w.cell? ⟨b, off + at_ * 4 + 1, none⟩ = some (.string n.sym))
    {b2 o2 : Nat} {wcap : Nat} {ws : List ByteArray} (hL : w.cell? ⟨bL, 0, none⟩ = some (.slice (some ⟨b2, o2, none⟩) ws.length wcap)) (hb2 : b2 < w.heap.size) (h0 : 0 < ws.length) (hlen : ws.length ≤ 140737488351232) (hbL : bL < w.heap.size) (last : ByteArray) (hl2 : w.cell? ⟨b2, o2 + (ws.length - 1), none⟩ = some (.string last)) (ht : n.sym.toList = last.toList) :
    Calls Tryd.prog 29 #[.int .i64 at_, .pointer (some ⟨bP, 0, none⟩), .pointer (some ⟨bL, 0, none⟩)] w fun e w' => e = .returned (.bool ((factT (tr l (l.length - 1))).last.testBit at_)) ∧ Ext w w' := by
  have p0 : w.cell? ⟨bP, 0, none⟩ = some (.slice (some ⟨b, off, none⟩) l.length cap) := hB.cell (i := 0) rfl
  have p1 : w.cell? ⟨bP, 1, none⟩ = some (.slice (some ⟨bF, 0, none⟩) l.length l.length) := hB.cell (i := 1) rfl
  have p2 : w.cell? ⟨bP, 2, none⟩ = some (.slice (some ⟨bA, 0, none⟩) l.length l.length) := hB.cell (i := 2) rfl
  have lB := hB.lt
  have HP := hid hP
  have hn1 : IntKind.i64.wrap ((ws.length : Int) - 1) = ((ws.length - 1 : Nat) : Int) := by rw [IntKind.wrap_i64]; omega
  have hlt1 : ws.length - 1 < ws.length := by omega
  clear hP hB
  go_enter Tryd.func29, Tryd.ntmps29
  go_upto_region 1 with fail
  have hS0 : Ext w w.drew := (Below.refl _ w).drew
  refine wp_region_heldL (Ext w) (by kernel_rfl) ?_
  refine wpAnyH_takeK 0 21 #[true, false, false, false, false, false, false, false, false, false, false, false, false, false, false, false, false, false, false, false, false, false] rfl (by kernel_rfl) rfl (.pointer (some ⟨bP, 0, none⟩)) (fun _ _ _ h => h) (Or.inl ⟨rfl, fun w' hS => ?_⟩) hS0 ?_
  · go_simp <;> with_reducible rfl
  refine wpAnyH_takeK 1 20 #[true, true, false, false, false, false, false, false, false, false, false, false, false, false, false, false, false, false, false, false, false, false] rfl (by kernel_rfl) rfl (.slice (some ⟨b, off, none⟩) l.length cap) (fun _ _ _ h => h) (Or.inl ⟨rfl, fun w' hS => ?_⟩) hS0 ?_
  · have c1 := (hS.cell (p := ⟨bP, 0, none⟩) lB).trans p0; go_simp <;> with_reducible rfl
  refine wpAnyH_takeK 2 19 #[true, true, true, false, false, false, false, false, false, false, false, false, false, false, false, false, false, false, false, false, false, false] rfl (by kernel_rfl) rfl (.int .i64 at_) (fun _ _ _ h => h) (Or.inl ⟨rfl, fun w' hS => ?_⟩) hS0 ?_
  · go_simp <;> with_reducible rfl
  refine wpAnyH_takeK 3 18 #[true, true, true, true, false, false, false, false, false, false, false, false, false, false, false, false, false, false, false, false, false, false] rfl (by kernel_rfl) rfl (.pointer (some ⟨b, off + at_ * 4, none⟩)) (fun _ _ _ h => h) (Or.inl ⟨rfl, fun w' hS => ?_⟩) hS0 ?_
  · go_simp <;> with_reducible rfl
  refine wpAnyH_takeK 4 17 #[true, true, true, true, true, false, false, false, false, false, false, false, false, false, false, false, false, false, false, false, false, false] rfl (by kernel_rfl) rfl (.pointer (some ⟨b, off + at_ * 4 + 1, none⟩)) (fun _ _ _ h => h) (Or.inl ⟨rfl, fun w' hS => ?_⟩) hS0 ?_
  · go_simp <;> with_reducible rfl
  refine wpAnyH_takeK 5 16 #[true, true, true, true, true, true, false, false, false, false, false, false, false, false, false, false, false, false, false, false, false, false] rfl (by kernel_rfl) rfl (.string n.sym) (fun _ _ _ h => h) (Or.inl ⟨rfl, fun w' hS => ?_⟩) hS0 ?_
  · have c1 := (hS.cell (p := ⟨b, off + at_ * 4 + 1, none⟩) hb).trans q1; go_simp <;> with_reducible rfl
  refine wpAnyH_takeK 6 15 #[true, true, true, true, true, true, true, false, false, false, false, false, false, false, false, false, false, false, false, false, false, false] rfl (by kernel_rfl) rfl (.slice (some ⟨b2, o2, none⟩) ws.length wcap) (fun _ _ _ h => h) (Or.inl ⟨rfl, fun w' hS => ?_⟩) hS0 ?_
  · have c1 := (hS.cell (p := ⟨bL, 0, none⟩) hbL).trans hL; go_simp <;> with_reducible rfl
  refine wpAnyH_takeK 7 14 #[true, true, true, true, true, true, true, true, false, false, false, false, false, false, false, false, false, false, false, false, false, false] rfl (by kernel_rfl) rfl (.slice (some ⟨b2, o2, none⟩) ws.length wcap) (fun _ _ _ h => h) (Or.inl ⟨rfl, fun w' hS => ?_⟩) hS0 ?_
  · have c1 := (hS.cell (p := ⟨bL, 0, none⟩) hbL).trans hL; go_simp <;> with_reducible rfl
  refine wpAnyH_takeK 8 13 #[true, true, true, true, true, true, true, true, true, false, false, false, false, false, false, false, false, false, false, false, false, false] rfl (by kernel_rfl) rfl (.int .i64 ws.length) (fun _ _ _ h => h) (Or.inl ⟨rfl, fun w' hS => ?_⟩) hS0 ?_
  · go_simp <;> with_reducible rfl
  refine wpAnyH_takeK 9 12 #[true, true, true, true, true, true, true, true, true, true, false, false, false, false, false, false, false, false, false, false, false, false] rfl (by kernel_rfl) rfl (.int .i64 ((ws.length - 1 : Nat) : Int)) (fun _ _ _ h => h) (Or.inl ⟨rfl, fun w' hS => ?_⟩) hS0 ?_
  · go_simp <;> with_reducible rfl
  refine wpAnyH_takeK 10 11 #[true, true, true, true, true, true, true, true, true, true, true, false, false, false, false, false, false, false, false, false, false, false] rfl (by kernel_rfl) rfl (.pointer (some ⟨b2, o2 + (ws.length - 1), none⟩)) (fun _ _ _ h => h) (Or.inl ⟨rfl, fun w' hS => ?_⟩) hS0 ?_
  · go_simp <;> with_reducible rfl
  refine wpAnyH_takeK 11 10 #[true, true, true, true, true, true, true, true, true, true, true, true, false, false, false, false, false, false, false, false, false, false] rfl (by kernel_rfl) rfl (.string last) (fun _ _ _ h => h) (Or.inl ⟨rfl, fun w' hS => ?_⟩) hS0 ?_
  · have c1 := (hS.cell (p := ⟨b2, o2 + (ws.length - 1), none⟩) hb2).trans hl2; go_simp <;> with_reducible rfl
  refine wpAnyH_takeK 12 9 #[true, true, true, true, true, true, true, true, true, true, true, true, true, false, false, false, false, false, false, false, false, false] rfl (by kernel_rfl) rfl (.bool true) (fun _ _ _ h => h) (Or.inl ⟨rfl, fun w' hS => ?_⟩) hS0 ?_
  · go_simp <;> exact ht
  refine wpAnyH_takeK 13 8 #[true, true, true, true, true, true, true, true, true, true, true, true, true, true, false, false, false, false, false, false, false, false] rfl (by kernel_rfl) rfl (.bool true) (fun _ _ _ h => h) (Or.inl ⟨rfl, fun w' hS => ?_⟩) hS0 ?_
  · go_simp <;> with_reducible rfl
  refine wpAnyH_takeK 14 7 #[true, true, true, true, true, true, true, true, true, true, true, true, true, true, true, false, false, false, false, false, false, false] rfl (by kernel_rfl) rfl (.agg #[.slice (some ⟨b, off, none⟩) l.length cap, .slice (some ⟨bF, 0, none⟩) l.length l.length, .slice (some ⟨bA, 0, none⟩) l.length l.length]) (fun _ _ _ h => h) (Or.inl ⟨by go_simp, fun w' hS => ?_⟩) hS0 ?_
  · have c1 := (hS.cell (p := ⟨bP, 0, none⟩) lB).trans p0; have c2 := (hS.cell (p := ⟨bP, 1, none⟩) lB).trans p1; have c3 := (hS.cell (p := ⟨bP, 2, none⟩) lB).trans p2; go_simp <;> with_reducible rfl
  refine wpAnyH_takeK 18 6 #[true, true, true, true, true, true, true, true, true, true, true, true, true, true, true, false, false, false, true, false, false, false] rfl (by kernel_rfl) rfl (.int .i64 at_) (fun _ _ _ h => h) (Or.inl ⟨by go_simp, fun w' hS => ?_⟩) hS0 ?_
  · go_simp <;> with_reducible rfl
  refine wpAnyH_one 15 5 #[true, true, true, true, true, true, true, true, true, true, true, true, true, true, true, true, false, false, true, false, false, false] rfl (by kernel_rfl) rfl ?_
  go_wp2_with fail
  refine (root_any _ (some ⟨b, off, none⟩) l.length cap bF bA (by omega) (by omega)).mono ?_
  rintro e w2 ⟨rfl, hx2⟩
  have hS2 := hS0.trans (hx2.mono (by simp))
  have hlt : (factT (tr l (l.length - 1))).last < 18446744073709551616 := (fact64 F hl (by omega)).2
  have hcs : w2.cell? ⟨bF, (l.length - 1) * 34 + 18, none⟩ = some (.int .u64 ((factT (tr l (l.length - 1))).last : Nat)) := by
    have h := (HP.out.ext hS2).fact (i := l.length - 1) (j := 18) (by omega) (by omega)
    rw [factV_last _ (i := 0) (by omega)] at h
    exact h
  have HX2 := hid hS2
  clear hx2 hS0
  go_wp2_with fail
  refine ⟨hS2, ?_⟩
  refine wpAnyH_one 16 4 #[true, true, true, true, true, true, true, true, true, true, true, true, true, true, true, true, true, false, true, false, false, false] rfl (by kernel_rfl) rfl ?_
  go_wp2_with fail
  refine ⟨hS2, ?_⟩
  refine wpAnyH_one 17 3 #[true, true, true, true, true, true, true, true, true, true, true, true, true, true, true, true, true, true, true, false, false, false] rfl (by kernel_rfl) rfl ?_
  go_wp2_with fail
  refine ⟨hS2, ?_⟩
  refine wpAnyH_one 19 2 #[true, true, true, true, true, true, true, true, true, true, true, true, true, true, true, true, true, true, true, true, false, false] rfl (by kernel_rfl) rfl ?_
  go_wp2_with fail
  refine (has_any bF _ (factT (tr l (l.length - 1))).last at_ _ hlt (by omega) hcs).mono ?_
  rintro e w3 ⟨rfl, rfl⟩
  go_wp2_with fail
  refine ⟨hS2, ?_⟩
  refine wpAnyH_one 20 1 #[true, true, true, true, true, true, true, true, true, true, true, true, true, true, true, true, true, true, true, true, true, false] rfl (by kernel_rfl) rfl ?_
  go_wp2_with fail
  refine ⟨hS2, ?_⟩
  refine wpAnyH_one 21 0 #[true, true, true, true, true, true, true, true, true, true, true, true, true, true, true, true, true, true, true, true, true, true] rfl (by kernel_rfl) rfl ?_
  go_wp2_with fail
  refine ⟨hS2, ?_⟩
  refine wpAnyH_end (P := Tryd.prog) (by kernel_rfl) ?_
  go_wp2_with fail
  go_ret
  exact ⟨by simp, hS2⟩

end Go.Proofs.YtngpjagpeblbjaaDoor
