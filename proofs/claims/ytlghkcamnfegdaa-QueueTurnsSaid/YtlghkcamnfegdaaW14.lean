/-
  The queue seat: Take.
-/
import Derived.Test.YtlghkcamnfegdaaW13
namespace Go.Proofs.Ytlghkcamnfegdaa
open Go.RowKit Go.Spy Go.Heaped

def Taken (lt : It → It → Bool) (S : Nat → Prop) (w : World) (base q bo F : Nat) (d : List It) (m : Nat) (put : Int) (w' : World) : Prop :=
  ∃ d', (d' ++ [g d 0]).Perm d ∧ Heap lt d' d'.length ∧ Goes S w w' base q bo F d' m put

set_option maxRecDepth 100000 in
set_option maxHeartbeats 1600000 in
theorem take_some {F : Nat} {f : Int → Int → Int} (O : OrdOk F f) (L : Ordered (aheadB f)) (irr : ∀ x, aheadB f x x = false) {w : World} {base q bo n : Nat} {d : List It} {m : Nat} {put : Int} {S : Nat → Prop} (h : PileX w base q bo F d m put S)
    (hd : Hid (d.length = n + 1)) (hu : Heap (aheadB f) d d.length) (hm : n + 1 ≤ 100000000) :
    Calls Try.prog 19 #[.pointer (some ⟨q, 0, none⟩)] w fun e w' => e = .returned (.tuple #[.agg #[.int .i64 (g d 0).1, .int .i64 (g d 0).2.1], .int .i64 0]) ∧ Taken (aheadB f) S w base q bo F d (n + 1) put w' := by
  obtain ⟨vI, vS, sw, h, hs, rfl⟩ := h
  obtain ⟨ao, cap, rfl, hcap, hg⟩ := slice_form h.items
  obtain ⟨aoS, capS, rfl, hcapS, hgS⟩ := slice_form h.swaps
  have c0 : w.cell? ⟨q, 0, none⟩ = some (.slice ao d.length cap) := h.blk.cell rfl
  have hne : ((d.length : Int) == 0) = false := by rw [beq_eq_false_iff_ne, hd.out]; omega
  have fq := h.blk.frozen
  have hlt := h.blk.lt
  have hnot := own_new h
  have hlt1 : q < w.heap.size + 1 := by omega
  have hlt2 : q < w.heap.size + 1 + 1 := by omega
  have hlt3 : q < w.heap.size + 1 + 1 + 1 := by omega
  have hlt4 : q < w.heap.size + 1 + 1 + 1 + 1 := by omega
  have hlt5 : q < w.heap.size + 1 + 1 + 1 + 1 + 1 := by omega
  have HP := hid h
  clear h
  obtain ⟨x, hx0⟩ : ∃ x, x = g d 0 := ⟨_, rfl⟩
  obtain ⟨x1, x2, x3⟩ := x
  rw [← hx0]
  dsimp only
  have HX := hid hx0
  clear hx0
  have hmf : ∀ (fn : Fn) (first cap : Array Value) (w : World), (Instr.makeFunc fn first cap).run Try.prog w = .ok (.func fn first cap) w := fun _ _ _ _ => rfl
  go_enter_defers Try.func19, Try.ntmps19
  go_wp2_with fail
  have E : Ext w (((((w.alloc (Obj.cells #[Value.pointer (some ⟨q, 0, none⟩)] 39)).alloc (Obj.cells #[Value.int IntKind.i64 0, Value.int IntKind.i64 0] 33)).alloc (Obj.cells #[Value.int IntKind.i64 0] 29)).alloc (Obj.cells #[Value.int IntKind.i64 0, Value.int IntKind.i64 0] 33)).alloc (Obj.cells #[Value.int IntKind.i64 ↑d.length] 3)) :=
    (((((Below.refl _ _).alloc (Nat.le_refl _) _).alloc (by simp) _).alloc (by simp; omega) _).alloc (by simp; omega) _).alloc (by simp; omega) _
  have B0 : Blk (((((w.alloc (Obj.cells #[Value.pointer (some ⟨q, 0, none⟩)] 39)).alloc (Obj.cells #[Value.int IntKind.i64 0, Value.int IntKind.i64 0] 33)).alloc (Obj.cells #[Value.int IntKind.i64 0] 29)).alloc (Obj.cells #[Value.int IntKind.i64 0, Value.int IntKind.i64 0] 33)).alloc (Obj.cells #[Value.int IntKind.i64 ↑d.length] 3)) w.heap.size 39 #[Value.pointer (some ⟨q, 0, none⟩)] := ((((Blk.new' w 39 _ rfl).alloc _).alloc _).alloc _).alloc _
  have B1 : Blk (((((w.alloc (Obj.cells #[Value.pointer (some ⟨q, 0, none⟩)] 39)).alloc (Obj.cells #[Value.int IntKind.i64 0, Value.int IntKind.i64 0] 33)).alloc (Obj.cells #[Value.int IntKind.i64 0] 29)).alloc (Obj.cells #[Value.int IntKind.i64 0, Value.int IntKind.i64 0] 33)).alloc (Obj.cells #[Value.int IntKind.i64 ↑d.length] 3)) (w.heap.size + 1) 33 #[Value.int IntKind.i64 0, Value.int IntKind.i64 0] := (((Blk.new' _ 33 _ (by simp)).alloc _).alloc _).alloc _
  have B2 : Blk (((((w.alloc (Obj.cells #[Value.pointer (some ⟨q, 0, none⟩)] 39)).alloc (Obj.cells #[Value.int IntKind.i64 0, Value.int IntKind.i64 0] 33)).alloc (Obj.cells #[Value.int IntKind.i64 0] 29)).alloc (Obj.cells #[Value.int IntKind.i64 0, Value.int IntKind.i64 0] 33)).alloc (Obj.cells #[Value.int IntKind.i64 ↑d.length] 3)) (w.heap.size + 1 + 1) 29 #[Value.int IntKind.i64 0] := ((Blk.new' _ 29 _ (by simp)).alloc _).alloc _
  generalize World.alloc _ _ = W at *
  clear c0 fq
  have HPW := hid (HP.out.ext E)
  have c1 : W.cell? ⟨q, 1, none⟩ = some (.slice aoS sw.length capS) := HPW.out.blk.cell rfl
  have fq := HPW.out.blk.frozen 1
  have k0 : W.cell? ⟨w.heap.size, 0, none⟩ = some (.pointer (some ⟨q, 0, none⟩)) := B0.cell rfl
  go_region
  have r1 := HPW.out.reset
  have hx : ∀ (w : World), Ext w w.drew := fun w => (Below.refl _ w).drew
  have HP2 : Hid (PileX (W.setCell ⟨q, 1, none⟩ (.slice aoS 0 capS)).drew base q bo F d 0 put (own q (.slice ao d.length cap) (.slice aoS 0 capS))) := hid ⟨_, _, [], r1.1.ext (hx _), Nat.le_refl _, rfl⟩
  have HM2 : Hid (Moved (own q (.slice ao d.length cap) (.slice aoS sw.length capS)) (own q (.slice ao d.length cap) (.slice aoS 0 capS)) w (W.setCell ⟨q, 1, none⟩ (.slice aoS 0 capS)).drew) :=
    hid ((((Moved.refl _ w).ext E).trans r1.2).ext (hx _))
  have D0 := ((B0.setOther (a := ⟨q, 1, none⟩) (by simp; omega) (.slice aoS 0 capS)).drew)
  have D1 := ((B1.setOther (a := ⟨q, 1, none⟩) (by simp; omega) (.slice aoS 0 capS)).drew)
  have D2 := ((B2.setOther (a := ⟨q, 1, none⟩) (by simp; omega) (.slice aoS 0 capS)).drew)
  clear r1 c1 fq k0 B0 B1 B2
  generalize World.drew _ = W2 at *
  have k0 : W2.cell? ⟨w.heap.size, 0, none⟩ = some (.pointer (some ⟨q, 0, none⟩)) := D0.cell rfl
  have hta := assert62
  go_wp2_with (go_at_call 33; refine (hpop_any O L irr HP2.out hd hu (by omega)).mono ?_; rintro e w4 ⟨d', rfl, p1, p2, S4, ⟨vI4, vS4, sw4, hp4, hs4, hS4⟩, hM4⟩; rw [← HX.out]; unfold itemV; dsimp only; have N1 := D1.chg hM4.chg (hnot _ (by omega)); have N2 := D2.chg hM4.chg (hnot _ (by omega)); have n1 : w4.cell? ⟨w.heap.size + 1, 0, none⟩ = some (.int .i64 0) := N1.cell rfl; have n2 : w4.cell? ⟨w.heap.size + 1, 1, none⟩ = some (.int .i64 0) := N1.cell rfl; have n3 : w4.cell? ⟨w.heap.size + 1 + 1, 0, none⟩ = some (.int .i64 0) := N2.cell rfl; have f1 := N1.frozen; have f2 := N2.frozen; have l1 := N1.lt; have l2 := N2.lt; have HP4 := hid hp4; have HS4 := hid hS4; clear hp4 hS4)
  refine leaves_cons (f := 32) (args := #[.pointer (some ⟨w.heap.size, 0, none⟩), .pointer (some ⟨w.heap.size + 1 + 1 + 1 + 1, 0, none⟩), .pointer (some ⟨w.heap.size + 1 + 1 + 1, 0, none⟩), .pointer (some ⟨w.heap.size + 1, 0, none⟩), .pointer (some ⟨w.heap.size + 1 + 1, 0, none⟩)]) (by simp) (by simp [go_sem]) ?_
  refine (take_idle _ _ _ _ _ _).mono ?_
  rintro e u' w'' ⟨rfl, rfl, rfl⟩
  have hS := HS4.out
  subst hS
  have hnS : ∀ k, w.heap.size ≤ k → k < W2.heap.size → ¬ own q vI4 vS4 k := fun k h1 h2 x => (hM4.sub _ x).elim (hnot _ h1) (fun y => by omega)
  have hbo : bo < w.heap.size := HP.out.ord.lt
  have K1 := ((((D1.chg hM4.chg (hnot _ (by omega))).set 0 (.int .i64 x1)).set 1 (.int .i64 x2)).setOther (a := ⟨w.heap.size + 1 + 1, 0, none⟩) (by simp) (.int .i64 0)).alloc (.cells #[.int .i64 x1, .int .i64 x2, .int .u64 x3] 62)
  have K2 := ((((D2.chg hM4.chg (hnot _ (by omega))).setOther (a := ⟨w.heap.size + 1, 0, none⟩) (by simp) (.int .i64 x1)).setOther (a := ⟨w.heap.size + 1, 1, none⟩) (by simp) (.int .i64 x2)).set 0 (.int .i64 0)).alloc (.cells #[.int .i64 x1, .int .i64 x2, .int .u64 x3] 62)
  have d1l := D1.lt
  have d2l := D2.lt
  have z1 := K1.cell (i := 0) rfl
  have z2 := K1.cell (i := 1) rfl
  have z3 := K2.cell (i := 0) rfl
  refine ⟨_, by simp [results, Try.results19, go_sem, z1, z2, z3], rfl, d', ?_, p2, own q vI4 vS4, ⟨vI4, vS4, sw4, ?_, by omega, rfl⟩, ?_⟩
  · exact p1
  · exact (HP4.out.kept (S := fun k => k = w.heap.size + 1 ∨ k = w.heap.size + 1 + 1) ((((Chg.refl _ _).setCell (.inl rfl) _).setCell (.inl rfl) _).setCell (.inr rfl) _)
      (fun k hk e => hnS k (by omega) (by omega) hk) (by omega)).ext ((Below.refl _ _).alloc (Nat.le_refl _) _)
  · exact ((((HM2.out.trans hM4).setNew (by dsimp only; omega) _).setNew (by dsimp only; omega) _).setNew (by dsimp only; omega) _).ext ((Below.refl _ _).alloc (Nat.le_refl _) _)
end Go.Proofs.Ytlghkcamnfegdaa
