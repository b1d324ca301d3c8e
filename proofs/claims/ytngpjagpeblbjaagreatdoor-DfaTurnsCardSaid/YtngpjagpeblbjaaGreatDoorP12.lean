/-
  The queue of rows: Put.
  The queue of rows: Take.
  The queue of rows: Take of nothing; New.
  The queue of rows: rows that are put in rising order come out in that order.
  Plain law: states gone through in the order in which they are come to. No program is named here.
  Maps whose keys are arrays or structs. No program is named here.
  Keys of maps: numbers, pairs of numbers, states of a regular expression's automaton.
-/
import Derived.Test.YtngpjagpeblbjaaGreatDoorP11
import Derived.DeepKeys5
import Derived.Test.YtngpjagpeblbjaaGreatDoorP01
import Derived.Test.YtngpjagpeblbjaaGreatDoorP04
namespace Go.Proofs.YtngpjagpeblbjaaGreatDoor
open Go.RowKit Go.Spy Go.Heaped
theorem Moved.setNew {S S' : Nat → Prop} {a b : World} (h : Moved S S' a b) {p : Addr} (hp : a.heap.size ≤ p.block) (v : Value) : Moved S S' a (b.setCell p v) :=
 ⟨⟨h.chg.os, h.chg.tape, h.chg.output, by simpa [World.setCell] using h.chg.size, fun k hk hs => (Below.heap_setCell _ _ _ _ (by omega)).trans (h.chg.block k hk hs)⟩, h.sub⟩
theorem own_new {F : Nat} {w : World} {base q bo n cap : Nat} {vI : Value} {ao : Option Addr} {d : List It} {sw : List (Int × Int)} {put : Int} (h : Pile w base q bo F vI (.slice ao n cap) d sw put) : ∀ k, w.heap.size ≤ k → ¬ own q vI (.slice ao 0 cap) k := by
 have e0 : (Value.slice ao 0 cap).ownBlock = (Value.slice ao n cap).ownBlock := by cases ao <;> rfl
 rintro k hk (e | e | e)
 ·have := h.blk.lt; omega
 ·obtain ⟨_, hb⟩ := own_type h.items e
  have := hb.lt; omega
 ·rw [e0] at e
  obtain ⟨_, hb⟩ := own_type h.swaps e
  have := hb.lt; omega
set_option maxRecDepth 100000 in
set_option maxHeartbeats 1600000 in
theorem put_any {F : Nat} {f : Int → Int → Int} (O : OrdOk F f) (L : Ordered (aheadB f)) {w : World} {base q bo : Nat} {d : List It} {m : Nat} {put : Int} {S : Nat → Prop} (h : PileX w base q bo F d m put S)
 (t : Int) (hu : Heap (aheadB f) d d.length) (hm : d.length + 1 ≤ 1000000000) (h0 : 0 ≤ put) (h1 : put ≤ 1000000000) :
 Calls Tryz.prog 104 #[.pointer (some ⟨q, 0, none⟩), thingV t] w fun e w' => e = .returned (.int .i64 0) ∧ Risen (aheadB f) S w base q bo F (d ++ [(t, put)]) d.length (put + 1) w' := by
 obtain ⟨vI, vS, sw, h, hs, rfl⟩ := h
 obtain ⟨ao, cap, rfl, hcap, hg⟩ := slice_form h.items
 obtain ⟨aoS, capS, rfl, hcapS, hgS⟩ := slice_form h.swaps
 have c0 : w.cell? ⟨q, 0, none⟩ = some (.slice ao d.length cap) := h.blk.cell rfl
 have c1 : w.cell? ⟨q, 1, none⟩ = some (.slice aoS sw.length capS) := h.blk.cell rfl
 have fq := h.blk.frozen
 have hlt := h.blk.lt
 have hnot := own_new h
 have hlt1 : q < w.heap.size + 1 := by omega
 have hlt2 : q < w.heap.size + 1 + 1 := by omega
 have hlt3 : q < w.heap.size + 1 + 1 + 1 := by omega
 have hlt4 : q < w.heap.size + 1 + 1 + 1 + 1 := by omega
 have HP := hid h
 clear h
 show Calls Tryz.prog 104 #[.pointer (some ⟨q, 0, none⟩), .agg #[.int .i64 t]] w _
 have hmf : ∀ (fn : Fn) (first cap : Array Value) (w : World), (Instr.makeFunc fn first cap).run Tryz.prog w = .ok (.func fn first cap) w := fun _ _ _ _ => rfl
 go_enter_defers Tryz.func104, Tryz.ntmps104
 go_wp2_with fail
 have E : Ext w ((((w.alloc (Obj.cells #[Value.pointer (some ⟨q, 0, none⟩)] 161)).alloc (Obj.cells #[Value.int IntKind.i64 t] 165)).alloc (Obj.cells #[Value.int IntKind.i64 0] 28)).alloc (Obj.cells #[Value.int IntKind.i64 ↑d.length] 3)) :=
  ((((Below.refl _ _).alloc (Nat.le_refl _) _).alloc (by simp) _).alloc (by simp; omega) _).alloc (by simp; omega) _
 have B0 : Blk ((((w.alloc (Obj.cells #[Value.pointer (some ⟨q, 0, none⟩)] 161)).alloc (Obj.cells #[Value.int IntKind.i64 t] 165)).alloc (Obj.cells #[Value.int IntKind.i64 0] 28)).alloc (Obj.cells #[Value.int IntKind.i64 ↑d.length] 3)) w.heap.size 161 #[Value.pointer (some ⟨q, 0, none⟩)] :=
  (((Blk.new' w 161 _ rfl).alloc _).alloc _).alloc _
 have B1 : Blk ((((w.alloc (Obj.cells #[Value.pointer (some ⟨q, 0, none⟩)] 161)).alloc (Obj.cells #[Value.int IntKind.i64 t] 165)).alloc (Obj.cells #[Value.int IntKind.i64 0] 28)).alloc (Obj.cells #[Value.int IntKind.i64 ↑d.length] 3)) (w.heap.size + 1) 165 #[Value.int IntKind.i64 t] :=
  ((Blk.new' _ 165 _ (by simp)).alloc _).alloc _
 have B2 : Blk ((((w.alloc (Obj.cells #[Value.pointer (some ⟨q, 0, none⟩)] 161)).alloc (Obj.cells #[Value.int IntKind.i64 t] 165)).alloc (Obj.cells #[Value.int IntKind.i64 0] 28)).alloc (Obj.cells #[Value.int IntKind.i64 ↑d.length] 3)) (w.heap.size + 1 + 1) 28 #[Value.int IntKind.i64 0] :=
  (Blk.new' _ 28 _ (by simp)).alloc _
 have B3 : Blk ((((w.alloc (Obj.cells #[Value.pointer (some ⟨q, 0, none⟩)] 161)).alloc (Obj.cells #[Value.int IntKind.i64 t] 165)).alloc (Obj.cells #[Value.int IntKind.i64 0] 28)).alloc (Obj.cells #[Value.int IntKind.i64 ↑d.length] 3)) (w.heap.size + 1 + 1 + 1) 3 #[Value.int IntKind.i64 d.length] :=
  Blk.new' _ 3 _ (by simp)
 generalize World.alloc _ _ = W at *
 clear c0 c1 fq
 have HPW := hid (HP.out.ext E)
 have c1 : W.cell? ⟨q, 1, none⟩ = some (.slice aoS sw.length capS) := HPW.out.blk.cell rfl
 have fq := HPW.out.blk.frozen 1
 have k0 : W.cell? ⟨w.heap.size, 0, none⟩ = some (.pointer (some ⟨q, 0, none⟩)) := B0.cell rfl
 go_region
 have r1 := HPW.out.reset
 have hx : ∀ (w : World), Ext w w.drew := fun w => (Below.refl _ w).drew
 have HP2 : Hid (PileX (W.setCell ⟨q, 1, none⟩ (.slice aoS 0 capS)).drew base q bo F d 0 put (own q (.slice ao d.length cap) (.slice aoS 0 capS))) := hid ⟨_, _, [], r1.1.ext (hx _), Nat.le_refl _, rfl⟩
 have HM2 : Hid (Moved (own q (.slice ao d.length cap) (.slice aoS sw.length capS)) (own q (.slice ao d.length cap) (.slice aoS 0 capS)) w (W.setCell ⟨q, 1, none⟩ (.slice aoS 0 capS)).drew) :=
  hid ((((Moved.refl _ w).ext E).trans r1.2).ext (hx _))
 have D0 := ((B0.setOther (a := ⟨q, 1, none⟩) (by simp; omega) (.slice aoS 0 capS)).drew)
 have D1 := ((B1.setOther (a := ⟨q, 1, none⟩) (by simp; omega) (.slice aoS 0 capS)).drew)
 have D2 := ((B2.setOther (a := ⟨q, 1, none⟩) (by simp; omega) (.slice aoS 0 capS)).drew)
 have k3 : (W.setCell ⟨q, 1, none⟩ (.slice aoS 0 capS)).drew.cell? ⟨q, 3, none⟩ = some (.int .u64 put) := (r1.1.ext (hx _)).blk.cell rfl
 clear r1 c1 fq k0 B0 B1 B2 B3
 generalize World.drew _ = W2 at *
 have k0 : W2.cell? ⟨w.heap.size, 0, none⟩ = some (.pointer (some ⟨q, 0, none⟩)) := D0.cell rfl
 have e0 : W2.cell? ⟨w.heap.size + 1, 0, none⟩ = some (.int .i64 t) := D1.cell rfl
 go_wp2_with fail
 go_still_tail 11, (by kernel_rfl)
 change wpList _ _ _ _ _ W2.drew
 have HP3 := hid (HP2.out.ext (hx _))
 have HM3 := hid (HM2.out.ext (hx _))
 have D0 := D0.drew
 have D2 := D2.drew
 clear k0 e0 k3 HP2 HM2
 generalize W2.drew = W3 at *
 go_wp2_with (go_at_call 133; refine (hpush_any O L HP3.out (t, put) hu (by omega)).mono ?_; rintro e w4 ⟨rfl, d', p1, p2, S4, ⟨vI4, vS4, sw4, hp4, hs4, hS4⟩, hM4⟩; have k0 : w4.cell? ⟨w.heap.size, 0, none⟩ = some (.pointer (some ⟨q, 0, none⟩)) := (D0.chg hM4.chg (hnot _ (by omega))).cell rfl; have k2 : w4.cell? ⟨w.heap.size + 1 + 1, 0, none⟩ = some (.int .i64 0) := (D2.chg hM4.chg (hnot _ (by omega))).cell rfl; have k3 : w4.cell? ⟨q, 3, none⟩ = some (.int .u64 put) := hp4.blk.cell rfl; have f3 : w4.frozen? ⟨q, 3, none⟩ = false := hp4.blk.frozen 3; have f2 : w4.frozen? ⟨w.heap.size + 1 + 1, 0, none⟩ = false := (D2.chg hM4.chg (hnot _ (by omega))).frozen 0; have HP4 := hid hp4; have HS4 := hid hS4; clear hp4 hS4)
 refine leaves_cons (f := 131) (args := #[.pointer (some ⟨w.heap.size, 0, none⟩), .pointer (some ⟨w.heap.size + 1 + 1 + 1, 0, none⟩), .pointer (some ⟨w.heap.size + 1 + 1, 0, none⟩)]) (by simp) (by simp [go_sem]) ?_
 refine (put_idle _ _ _ _).mono ?_
 rintro e u' w'' ⟨rfl, rfl, rfl⟩
 have hS := HS4.out
 subst hS
 have hnS : ¬ own q vI4 vS4 (w.heap.size + 1 + 1) := fun x => (hM4.sub _ x).elim (hnot _ (by omega)) (fun y => by have := D2.lt; omega)
 have hbo : bo < w.heap.size := HP.out.ord.lt
 obtain ⟨r1, r2⟩ := HP4.out.counted (put + 1)
 have hq2 : q ≠ w.heap.size + 1 + 1 := by omega
 have kf : ((w4.setCell ⟨q, 3, none⟩ (.int .u64 (put + 1))).setCell ⟨w.heap.size + 1 + 1, 0, none⟩ (.int .i64 0)).cell? ⟨w.heap.size + 1 + 1, 0, none⟩ = some (.int .i64 0) :=
  (((D2.chg hM4.chg (hnot _ (by omega))).setOther (a := ⟨q, 3, none⟩) (by simpa using hq2) _).set 0 _).cell rfl
 refine ⟨_, by simp [results, Tryz.results104, go_sem, kf], rfl, d', p1, p2, own q vI4 vS4, ⟨vI4, vS4, sw4, ?_, by omega, rfl⟩, ?_⟩
 ·exact r1.kept (S := fun k => k = w.heap.size + 1 + 1) ((Chg.refl _ _).setCell (by rfl) _) (fun k hk e => hnS (e ▸ hk)) (by omega)
 ·exact ((HM3.out.trans hM4).trans r2).setNew (by simp; omega) _
end Go.Proofs.YtngpjagpeblbjaaGreatDoor
namespace Go.Proofs.YtngpjagpeblbjaaGreatDoor
open Go.RowKit Go.Spy Go.Heaped
def Taken (lt : It → It → Bool) (S : Nat → Prop) (w : World) (base q bo F : Nat) (d : List It) (m : Nat) (put : Int) (w' : World) : Prop :=
 ∃ d', (d' ++ [g d 0]).Perm d ∧ Heap lt d' d'.length ∧ Goes S w w' base q bo F d' m put
set_option maxRecDepth 100000 in
set_option maxHeartbeats 1600000 in
theorem take_some {F : Nat} {f : Int → Int → Int} (O : OrdOk F f) (L : Ordered (aheadB f)) (irr : ∀ x, aheadB f x x = false) {w : World} {base q bo n : Nat} {d : List It} {m : Nat} {put : Int} {S : Nat → Prop} (h : PileX w base q bo F d m put S)
 (hd : Hid (d.length = n + 1)) (hu : Heap (aheadB f) d d.length) (hm : n + 1 ≤ 100000000) :
 Calls Tryz.prog 105 #[.pointer (some ⟨q, 0, none⟩)] w fun e w' => e = .returned (.tuple #[.agg #[.int .i64 (g d 0).1], .int .i64 0]) ∧ Taken (aheadB f) S w base q bo F d (n + 1) put w' := by
 obtain ⟨vI, vS, sw, h, hs, rfl⟩ := h
 obtain ⟨ao, cap, rfl, hcap, hg⟩ := slice_form h.items
 obtain ⟨aoS, capS, rfl, hcapS, hgS⟩ := slice_form h.swaps
 have c0 : w.cell? ⟨q, 0, none⟩ = some (.slice ao d.length cap) := h.blk.cell rfl
 have hne : ((d.length : Int) == 0) = false := by rw [beq_eq_false_iff_ne, hd.out]; omega
 have fq := h.blk.frozen
 have hlt := h.blk.lt
 have hnot := own_new h
 have hlt1 : q < w.heap.size + 1 := by omega
 have hlt2 : q < w.heap.size + 1 + 1 := by omega
 have hlt3 : q < w.heap.size + 1 + 1 + 1 := by omega
 have hlt4 : q < w.heap.size + 1 + 1 + 1 + 1 := by omega
 have hlt5 : q < w.heap.size + 1 + 1 + 1 + 1 + 1 := by omega
 have HP := hid h
 clear h
 obtain ⟨x, hx0⟩ : ∃ x, x = g d 0 := ⟨_, rfl⟩
 obtain ⟨x1, x3⟩ := x
 rw [← hx0]
 dsimp only
 have HX := hid hx0
 clear hx0
 have hmf : ∀ (fn : Fn) (first cap : Array Value) (w : World), (Instr.makeFunc fn first cap).run Tryz.prog w = .ok (.func fn first cap) w := fun _ _ _ _ => rfl
 go_enter_defers Tryz.func105, Tryz.ntmps105
 go_wp2_with fail
 have E : Ext w (((((w.alloc (Obj.cells #[Value.pointer (some ⟨q, 0, none⟩)] 161)).alloc (Obj.cells #[Value.int IntKind.i64 0] 165)).alloc (Obj.cells #[Value.int IntKind.i64 0] 28)).alloc (Obj.cells #[Value.int IntKind.i64 0] 165)).alloc (Obj.cells #[Value.int IntKind.i64 ↑d.length] 3)) :=
  (((((Below.refl _ _).alloc (Nat.le_refl _) _).alloc (by simp) _).alloc (by simp; omega) _).alloc (by simp; omega) _).alloc (by simp; omega) _
 have B0 : Blk (((((w.alloc (Obj.cells #[Value.pointer (some ⟨q, 0, none⟩)] 161)).alloc (Obj.cells #[Value.int IntKind.i64 0] 165)).alloc (Obj.cells #[Value.int IntKind.i64 0] 28)).alloc (Obj.cells #[Value.int IntKind.i64 0] 165)).alloc (Obj.cells #[Value.int IntKind.i64 ↑d.length] 3)) w.heap.size 161 #[Value.pointer (some ⟨q, 0, none⟩)] := ((((Blk.new' w 161 _ rfl).alloc _).alloc _).alloc _).alloc _
 have B1 : Blk (((((w.alloc (Obj.cells #[Value.pointer (some ⟨q, 0, none⟩)] 161)).alloc (Obj.cells #[Value.int IntKind.i64 0] 165)).alloc (Obj.cells #[Value.int IntKind.i64 0] 28)).alloc (Obj.cells #[Value.int IntKind.i64 0] 165)).alloc (Obj.cells #[Value.int IntKind.i64 ↑d.length] 3)) (w.heap.size + 1) 165 #[Value.int IntKind.i64 0] := (((Blk.new' _ 165 _ (by simp)).alloc _).alloc _).alloc _
 have B2 : Blk (((((w.alloc (Obj.cells #[Value.pointer (some ⟨q, 0, none⟩)] 161)).alloc (Obj.cells #[Value.int IntKind.i64 0] 165)).alloc (Obj.cells #[Value.int IntKind.i64 0] 28)).alloc (Obj.cells #[Value.int IntKind.i64 0] 165)).alloc (Obj.cells #[Value.int IntKind.i64 ↑d.length] 3)) (w.heap.size + 1 + 1) 28 #[Value.int IntKind.i64 0] := ((Blk.new' _ 28 _ (by simp)).alloc _).alloc _
 generalize World.alloc _ _ = W at *
 clear c0 fq
 have HPW := hid (HP.out.ext E)
 have c1 : W.cell? ⟨q, 1, none⟩ = some (.slice aoS sw.length capS) := HPW.out.blk.cell rfl
 have fq := HPW.out.blk.frozen 1
 have k0 : W.cell? ⟨w.heap.size, 0, none⟩ = some (.pointer (some ⟨q, 0, none⟩)) := B0.cell rfl
 go_region
 have r1 := HPW.out.reset
 have hx : ∀ (w : World), Ext w w.drew := fun w => (Below.refl _ w).drew
 have HP2 : Hid (PileX (W.setCell ⟨q, 1, none⟩ (.slice aoS 0 capS)).drew base q bo F d 0 put (own q (.slice ao d.length cap) (.slice aoS 0 capS))) := hid ⟨_, _, [], r1.1.ext (hx _), Nat.le_refl _, rfl⟩
 have HM2 : Hid (Moved (own q (.slice ao d.length cap) (.slice aoS sw.length capS)) (own q (.slice ao d.length cap) (.slice aoS 0 capS)) w (W.setCell ⟨q, 1, none⟩ (.slice aoS 0 capS)).drew) :=
  hid ((((Moved.refl _ w).ext E).trans r1.2).ext (hx _))
 have D0 := ((B0.setOther (a := ⟨q, 1, none⟩) (by simp; omega) (.slice aoS 0 capS)).drew)
 have D1 := ((B1.setOther (a := ⟨q, 1, none⟩) (by simp; omega) (.slice aoS 0 capS)).drew)
 have D2 := ((B2.setOther (a := ⟨q, 1, none⟩) (by simp; omega) (.slice aoS 0 capS)).drew)
 clear r1 c1 fq k0 B0 B1 B2
 generalize World.drew _ = W2 at *
 have k0 : W2.cell? ⟨w.heap.size, 0, none⟩ = some (.pointer (some ⟨q, 0, none⟩)) := D0.cell rfl
 have hta := assert62
 go_wp2_with (go_at_call 135; refine (hpop_any O L irr HP2.out hd hu (by omega)).mono ?_; rintro e w4 ⟨d', rfl, p1, p2, S4, ⟨vI4, vS4, sw4, hp4, hs4, hS4⟩, hM4⟩; rw [← HX.out]; unfold itemV; dsimp only; have N1 := D1.chg hM4.chg (hnot _ (by omega)); have N2 := D2.chg hM4.chg (hnot _ (by omega)); have n1 : w4.cell? ⟨w.heap.size + 1, 0, none⟩ = some (.int .i64 0) := N1.cell rfl; have n3 : w4.cell? ⟨w.heap.size + 1 + 1, 0, none⟩ = some (.int .i64 0) := N2.cell rfl; have f1 := N1.frozen; have f2 := N2.frozen; have l1 := N1.lt; have l2 := N2.lt; have HP4 := hid hp4; have HS4 := hid hS4; clear hp4 hS4)
 refine leaves_cons (f := 134) (args := #[.pointer (some ⟨w.heap.size, 0, none⟩), .pointer (some ⟨w.heap.size + 1 + 1 + 1 + 1, 0, none⟩), .pointer (some ⟨w.heap.size + 1 + 1 + 1, 0, none⟩), .pointer (some ⟨w.heap.size + 1, 0, none⟩), .pointer (some ⟨w.heap.size + 1 + 1, 0, none⟩)]) (by simp) (by simp [go_sem]) ?_
 refine (take_idle _ _ _ _ _ _).mono ?_
 rintro e u' w'' ⟨rfl, rfl, rfl⟩
 have hS := HS4.out
 subst hS
 have hnS : ∀ k, w.heap.size ≤ k → k < W2.heap.size → ¬ own q vI4 vS4 k := fun k h1 h2 x => (hM4.sub _ x).elim (hnot _ h1) (fun y => by omega)
 have hbo : bo < w.heap.size := HP.out.ord.lt
 have K1 := (((D1.chg hM4.chg (hnot _ (by omega))).set 0 (.int .i64 x1)).setOther (a := ⟨w.heap.size + 1 + 1, 0, none⟩) (by simp) (.int .i64 0)).alloc (.cells #[.int .i64 x1, .int .u64 x3] 194)
 have K2 := (((D2.chg hM4.chg (hnot _ (by omega))).setOther (a := ⟨w.heap.size + 1, 0, none⟩) (by simp) (.int .i64 x1)).set 0 (.int .i64 0)).alloc (.cells #[.int .i64 x1, .int .u64 x3] 194)
 have d1l := D1.lt
 have d2l := D2.lt
 have z1 := K1.cell (i := 0) rfl
 have z3 := K2.cell (i := 0) rfl
 refine ⟨_, by simp [results, Tryz.results105, go_sem, z1, z3], rfl, d', ?_, p2, own q vI4 vS4, ⟨vI4, vS4, sw4, ?_, by omega, rfl⟩, ?_⟩
 ·exact p1
 ·exact (HP4.out.kept (S := fun k => k = w.heap.size + 1 ∨ k = w.heap.size + 1 + 1) (((Chg.refl _ _).setCell (.inl rfl) _).setCell (.inr rfl) _)
   (fun k hk e => hnS k (by omega) (by omega) hk) (by omega)).ext ((Below.refl _ _).alloc (Nat.le_refl _) _)
 ·exact (((HM2.out.trans hM4).setNew (by dsimp only; omega) _).setNew (by dsimp only; omega) _).ext ((Below.refl _ _).alloc (Nat.le_refl _) _)
end Go.Proofs.YtngpjagpeblbjaaGreatDoor
namespace Go.Proofs.YtngpjagpeblbjaaGreatDoor
open Go.RowKit Go.Spy Go.Heaped
set_option maxHeartbeats 800000 in
theorem take_none {F : Nat} {w : World} {base q bo : Nat} {d : List It} {m : Nat} {put : Int} {S : Nat → Prop} (h : PileX w base q bo F d m put S) (hd : d = []) :
 Calls Tryz.prog 105 #[.pointer (some ⟨q, 0, none⟩)] w fun e w' => e = .returned (.tuple #[.agg #[.int .i64 0], .int .i64 16]) ∧ Ext w w' := by
 obtain ⟨vI, vS, sw, h, hs, rfl⟩ := h
 subst hd
 obtain ⟨ao, cap, rfl, hcap, hg⟩ := slice_form h.items
 have c0 : w.cell? ⟨q, 0, none⟩ = some (.slice ao 0 cap) := h.blk.cell rfl
 have hlt := h.blk.lt
 have hlt1 : q < w.heap.size + 1 := by omega
 have hlt2 : q < w.heap.size + 1 + 1 := by omega
 have hlt3 : q < w.heap.size + 1 + 1 + 1 := by omega
 have hlt4 : q < w.heap.size + 1 + 1 + 1 + 1 := by omega
 clear h
 go_enter_defers Tryz.func105, Tryz.ntmps105
 go_wp2_with fail
 refine ⟨_, by simp [results, Tryz.results105, go_sem], rfl, ?_⟩
 exact (((((Below.refl _ _).alloc (Nat.le_refl _) _).alloc (by simp) _).alloc (by simp; omega) _).alloc (by simp; omega) _).alloc (by simp; omega) _
theorem func_nil (F : Nat) (w : World) : (binOp .eql 166 (.func (.func F) #[] #[]) .nilFunc).run Tryz.prog w = .ok (.bool false) w := by kernel_rfl
set_option maxRecDepth 100000 in
set_option maxHeartbeats 800000 in
theorem new_any (F : Nat) (w : World) :
 Calls Tryz.prog 102 #[.func (.func F) #[] #[]] w fun e w' => e = .returned (.tuple #[.pointer (some ⟨w.heap.size + 1, 0, none⟩), .int .i64 0]) ∧ Pile w' w.heap.size (w.heap.size + 1) w.heap.size F (.slice none 0 0) (.slice none 0 0) [] [] 0 ∧ Ext w w' := by
 have hmf : ∀ (fn : Fn) (first cap : Array Value) (w : World), (Instr.makeFunc fn first cap).run Tryz.prog w = .ok (.func fn first cap) w := fun _ _ _ _ => rfl
 have hfn := func_nil
 go_enter Tryz.func102, Tryz.ntmps102
 go_wp2_with fail
 go_ret2
 refine ⟨rfl, ⟨Blk.new' _ 200 _ (by simp), (Blk.new w 166 _).alloc _, World.ownsRow_nil _ _ 194 2, World.ownsRow_nil _ _ 83 2, by omega⟩, ((Below.refl _ _).alloc (Nat.le_refl _) _).alloc (by simp) _⟩
end Go.Proofs.YtngpjagpeblbjaaGreatDoor
namespace Go.Proofs.YtngpjagpeblbjaaGreatDoor
open Go.RowKit Go.Spy Go.Heaped
theorem cmpI_neg {a b : Int} : cmpI a b < 0 ↔ a < b := by
 unfold cmpI
 split
 ·simp [*]
 ·split <;> simp [*]
theorem cmpI_zero {a b : Int} : cmpI a b = 0 ↔ a = b := by
 unfold cmpI
 split
 ·constructor <;> intro <;> omega
 ·split
  ·constructor <;> intro <;> omega
  ·constructor <;> intro <;> omega
theorem ahead_iff {x y : It} : aheadB cmpI x y = true ↔ x.1 < y.1 ∨ x.1 = y.1 ∧ x.2 < y.2 := by
 unfold aheadB
 simp only [Bool.or_eq_true, decide_eq_true_eq, Bool.and_eq_true, cmpI_neg, cmpI_zero]
theorem ahead_false {x y : It} : aheadB cmpI x y = false ↔ ¬ (x.1 < y.1 ∨ x.1 = y.1 ∧ x.2 < y.2) := by
 rw [← ahead_iff]; simp
theorem ordered : Ordered (aheadB cmpI) where
 asym x y h := by
  rw [ahead_iff] at h
  rw [ahead_false]
  omega
 ntrans x y z h k := by
  rw [ahead_false] at *
  omega
theorem irref (x : It) : aheadB cmpI x x = false := by
 rw [ahead_false]
 omega
def rowsFrom (a : Nat) : Nat → List It
 | 0 => []
 | n + 1 => ((a : Int), (a : Int)) :: rowsFrom (a + 1) n
theorem rowsFrom_len (a n : Nat) : (rowsFrom a n).length = n := by
 induction n generalizing a with
 | zero => rfl
 | succ n ih => simp [rowsFrom, ih]
theorem rowsFrom_snoc (a n : Nat) : rowsFrom a (n + 1) = rowsFrom a n ++ [(((a + n : Nat) : Int), ((a + n : Nat) : Int))] := by
 induction n generalizing a with
 | zero => simp [rowsFrom]
 | succ n ih =>
   rw [rowsFrom, ih (a + 1), rowsFrom]
   simp
   omega
theorem rowsFrom_mem {a n : Nat} {x : It} (h : x ∈ rowsFrom a n) : (a : Int) ≤ x.1 := by
 induction n generalizing a with
 | zero => simp [rowsFrom] at h
 | succ n ih =>
   rcases List.mem_cons.1 h with rfl | h
   ·exact Int.le_refl _
   ·have := ih h; omega
def QR (w : World) (base q bo : Nat) (a n : Nat) (S : Nat → Prop) : Prop :=
 ∃ d m, PileX w base q bo 103 d m ((a + n : Nat) : Int) S ∧ Heap (aheadB cmpI) d d.length ∧ d.Perm (rowsFrom a n)
def QRGoes (S : Nat → Prop) (w w' : World) (base q bo : Nat) (a n : Nat) : Prop := ∃ S', QR w' base q bo a n S' ∧ Moved S S' w w'
section
variable {w w' : World} {base q bo : Nat} {a n : Nat} {S : Nat → Prop}
theorem QR.lt (h : QR w base q bo a n S) : ∀ k, S k → k < w.heap.size := by
 obtain ⟨d, m, ⟨vI, vS, sw, hp, _, rfl⟩, _⟩ := h
 rintro k (rfl | e | e)
 ·exact hp.blk.lt
 ·obtain ⟨_, hb⟩ := own_type hp.items e; exact hb.lt
 ·obtain ⟨_, hb⟩ := own_type hp.swaps e; exact hb.lt
theorem QR.not_type (h : QR w base q bo a n S) {k : Nat} {t : TypeId} {cur : Array Value} (hb : Blk w k t cur) (h1 : t ≠ 200) (h2 : t ≠ 194) (h3 : t ≠ 83) : ¬ S k := by
 obtain ⟨d, m, ⟨vI, vS, sw, hp, _, rfl⟩, _⟩ := h
 rintro (rfl | e | e)
 ·exact blk_ne hb hp.blk h1 rfl
 ·obtain ⟨_, hc⟩ := own_type hp.items e; exact blk_ne hb hc h2 rfl
 ·obtain ⟨_, hc⟩ := own_type hp.swaps e; exact blk_ne hb hc h3 rfl
theorem QR.kept (h : QR w base q bo a n S) {S2 : Nat → Prop} (c : Chg S2 w w') (hS : ∀ k, S k → ¬ S2 k) (hb : ¬ S2 bo) : QR w' base q bo a n S := by
 obtain ⟨d, m, ⟨vI, vS, sw, hp, hs, rfl⟩, h2⟩ := h
 exact ⟨d, m, ⟨vI, vS, sw, hp.kept c hS hb, hs, rfl⟩, h2⟩
theorem QR.new (h : Pile w base q bo 103 (.slice none 0 0) (.slice none 0 0) [] [] 0) : QR w base q bo 0 0 (fun k => k = q) := by
 refine ⟨[], 0, ⟨_, _, [], h, Nat.le_refl _, ?_⟩, fun k _ hk => by simp at hk, List.Perm.refl _⟩
 funext k
 simp [own, Value.ownBlock]
theorem newR (w : World) :
 Calls Tryz.prog 102 #[.func (.func 103) #[] #[]] w fun e w' => e = .returned (.tuple #[.pointer (some ⟨w.heap.size + 1, 0, none⟩), .int .i64 0]) ∧ QR w' w.heap.size (w.heap.size + 1) w.heap.size 0 0 (fun k => k = w.heap.size + 1) ∧ Ext w w' :=
 (new_any 103 w).mono fun _ _ ⟨h1, h2, h3⟩ => ⟨h1, QR.new h2, h3⟩
theorem putR (h : QR w base q bo a n S) (hm : a + n ≤ 100000000) :
 Calls Tryz.prog 104 #[.pointer (some ⟨q, 0, none⟩), .agg #[.int .i64 ((a + n : Nat) : Int)]] w fun e w' => e = .returned (.int .i64 0) ∧ QRGoes S w w' base q bo a (n + 1) := by
 obtain ⟨d, m, h1, h2, h3⟩ := h
 have hl : d.length = n := by rw [h3.length_eq, rowsFrom_len]
 refine (put_any ord103 ordered h1 ((a + n : Nat) : Int) h2 (by omega) (by omega) (by omega)).mono ?_
 rintro e w' ⟨rfl, d', p1, p2, S', p3, p4⟩
 refine ⟨rfl, S', ⟨d', d.length, ?_, p2, ?_⟩, p4⟩
 ·have e : ((a + (n + 1) : Nat) : Int) = ((a + n : Nat) : Int) + 1 := by omega
  rw [e]; exact p3
 ·rw [rowsFrom_snoc]
  exact p1.trans (h3.append_right _)
theorem takeR (h : QR w base q bo a (n + 1) S) (hm : a + (n + 1) ≤ 100000000) :
 Calls Tryz.prog 105 #[.pointer (some ⟨q, 0, none⟩)] w fun e w' => e = .returned (.tuple #[.agg #[.int .i64 (a : Int)], .int .i64 0]) ∧ QRGoes S w w' base q bo (a + 1) n := by
 obtain ⟨d, m, h1, h2, h3⟩ := h
 have hl : d.length = n + 1 := by rw [h3.length_eq, rowsFrom_len]
 have hg : g d 0 = ((a : Int), (a : Int)) := by
  have hm0 : g d 0 ∈ rowsFrom a (n + 1) := h3.mem_iff.1 (List.mem_of_getElem? (some_g (d := d) (by omega)))
  rcases List.mem_cons.1 hm0 with e | e
  ·exact e
  ·have h5 := rowsFrom_mem e
   have h6 : ((a : Int), (a : Int)) ∈ d := h3.mem_iff.2 (by simp [rowsFrom])
   obtain ⟨k, hk, hx⟩ := List.getElem_of_mem h6
   have h7 := heap_min ordered h2 irref k hk
   rw [g_some (List.getElem?_eq_getElem hk), hx, ahead_false] at h7
   simp only at h7
   omega
 refine (take_some ord103 ordered irref h1 (hid hl) h2 (by omega)).mono ?_
 rintro e w' ⟨rfl, d', p1, p2, S', p3, p4⟩
 rw [hg] at *
 refine ⟨rfl, S', ⟨d', n + 1, ?_, p2, ?_⟩, p4⟩
 ·have e : ((a + 1 + n : Nat) : Int) = ((a + (n + 1) : Nat) : Int) := by omega
  rw [e]; exact p3
 ·have h4 := p1.trans h3
  rw [rowsFrom] at h4
  exact List.Perm.cons_inv ((List.perm_append_singleton _ _).symm.trans h4)
theorem takeR_none (h : QR w base q bo a 0 S) :
 Calls Tryz.prog 105 #[.pointer (some ⟨q, 0, none⟩)] w fun e w' => e = .returned (.tuple #[.agg #[.int .i64 0], .int .i64 16]) ∧ Ext w w' := by
 obtain ⟨d, m, h1, h2, h3⟩ := h
 exact take_none h1 h3.eq_nil
end
end Go.Proofs.YtngpjagpeblbjaaGreatDoor
namespace Go.Tour
variable {K : Type} [DecidableEq K]
structure St (K : Type) where
 keys : List K
 from_ : List (Nat × Nat)
 goes : List Nat
def vis1 (r : Nat) (s : St K) (k : K) (j : Nat) : St K :=
 if k ∈ s.keys then { s with goes := s.goes ++ [s.keys.idxOf k] }
 else ⟨s.keys ++ [k], s.from_ ++ [(r, j)], s.goes ++ [s.keys.length]⟩
def visN (r : Nat) (s : St K) (l : List K) : Nat → St K
 | 0 => s
 | j + 1 => match l[j]? with
   | some k => vis1 r (visN r s l j) k j
   | none => visN r s l j
structure Tr (K : Type) where
 keys : List K
 next : List (List Nat)
 from_ : List (Nat × Nat)
def rowOf (succ : K → List K) (i : Nat) (t : Tr K) (k : K) : St K := visN i ⟨t.keys, t.from_, []⟩ (succ k) (succ k).length
def tourN (succ : K → List K) (first : K) : Nat → Tr K
 | 0 => ⟨[first], [], [(0, 0)]⟩
 | i + 1 => match (tourN succ first i).keys[i]? with
   | some k => ⟨(rowOf succ i (tourN succ first i) k).keys, (tourN succ first i).next ++ [(rowOf succ i (tourN succ first i) k).goes], (rowOf succ i (tourN succ first i) k).from_⟩
   | none => tourN succ first i
section
variable {succ : K → List K} {first : K} {r i j : Nat} {s : St K} {l : List K} {k : K}
theorem visN_succ (h : l[j]? = some k) : visN r s l (j + 1) = vis1 r (visN r s l j) k j := by simp [visN, h]
theorem vis1_pre (r : Nat) (s : St K) (k : K) (j : Nat) : s.keys <+: (vis1 r s k j).keys := by
 unfold vis1
 split
 ·exact List.prefix_refl _
 ·exact List.prefix_append _ _
theorem visN_pre (r : Nat) (s : St K) (l : List K) : ∀ j, s.keys <+: (visN r s l j).keys
 | 0 => List.prefix_refl _
 | j + 1 => by
   unfold visN
   split
   ·exact (visN_pre r s l j).trans (vis1_pre _ _ _ _)
   ·exact visN_pre r s l j
theorem visN_mono (r : Nat) (s : St K) (l : List K) {j j' : Nat} (h : j ≤ j') : (visN r s l j).keys <+: (visN r s l j').keys := by
 induction j' with
 | zero => obtain rfl : j = 0 := by omega
           exact List.prefix_refl _
 | succ n ih =>
   by_cases e : j = n + 1
   ·subst e; exact List.prefix_refl _
   ·refine (ih (by omega)).trans ?_
    conv => rhs; unfold visN
    split
    ·exact vis1_pre _ _ _ _
    ·exact List.prefix_refl _
theorem tourN_succ (h : (tourN succ first i).keys[i]? = some k) :
 tourN succ first (i + 1) = ⟨(rowOf succ i (tourN succ first i) k).keys, (tourN succ first i).next ++ [(rowOf succ i (tourN succ first i) k).goes], (rowOf succ i (tourN succ first i) k).from_⟩ := by
 simp [tourN, h]
theorem tourN_stop (h : (tourN succ first i).keys.length ≤ i) : tourN succ first (i + 1) = tourN succ first i := by
 simp [tourN, List.getElem?_eq_none h]
theorem tourN_pre1 (succ : K → List K) (first : K) (i : Nat) : (tourN succ first i).keys <+: (tourN succ first (i + 1)).keys := by
 cases h : (tourN succ first i).keys[i]? with
 | none => rw [tourN_stop (List.getElem?_eq_none_iff.1 h)]; exact List.prefix_refl _
 | some k => rw [tourN_succ h]; exact visN_pre i ⟨(tourN succ first i).keys, (tourN succ first i).from_, []⟩ (succ k) _
theorem tourN_pre (succ : K → List K) (first : K) {i j : Nat} (h : i ≤ j) : (tourN succ first i).keys <+: (tourN succ first j).keys := by
 induction j with
 | zero => obtain rfl : i = 0 := by omega
           exact List.prefix_refl _
 | succ n ih =>
   by_cases e : i = n + 1
   ·subst e; exact List.prefix_refl _
   ·exact (ih (by omega)).trans (tourN_pre1 succ first n)
theorem tourN_stay {succ : K → List K} {first : K} {i : Nat} (h : (tourN succ first i).keys.length ≤ i) {j : Nat} (hj : i ≤ j) : tourN succ first j = tourN succ first i := by
 induction j with
 | zero => obtain rfl : i = 0 := by omega
           rfl
 | succ n ih =>
   by_cases e : i = n + 1
   ·subst e; rfl
   ·have h1 := ih (by omega)
    rw [tourN_stop (by rw [h1]; omega), h1]
theorem vis1_nodup (h : s.keys.Nodup) (r : Nat) (k : K) (j : Nat) : (vis1 r s k j).keys.Nodup := by
 unfold vis1
 split
 ·exact h
 ·rename_i hk
  rw [List.nodup_append]
  exact ⟨h, by simp, fun a ha b hb => by simp at hb; subst hb; exact fun e => hk (e ▸ ha)⟩
theorem visN_nodup (h : s.keys.Nodup) (r : Nat) (l : List K) : ∀ j, (visN r s l j).keys.Nodup
 | 0 => h
 | j + 1 => by
   unfold visN
   split
   ·exact vis1_nodup (visN_nodup h r l j) _ _ _
   ·exact visN_nodup h r l j
theorem tourN_nodup (succ : K → List K) (first : K) : ∀ i, (tourN succ first i).keys.Nodup
 | 0 => by simp [tourN]
 | i + 1 => by
   cases h : (tourN succ first i).keys[i]? with
   | none => rw [tourN_stop (List.getElem?_eq_none_iff.1 h)]; exact tourN_nodup succ first i
   | some k => rw [tourN_succ h]; exact visN_nodup (tourN_nodup succ first i) _ _ _
theorem vis1_from_len (h : s.from_.length = s.keys.length) (r : Nat) (k : K) (j : Nat) : (vis1 r s k j).from_.length = (vis1 r s k j).keys.length := by
 unfold vis1; split
 ·exact h
 ·simp [h]
theorem visN_from_len (h : s.from_.length = s.keys.length) (r : Nat) (l : List K) : ∀ j, (visN r s l j).from_.length = (visN r s l j).keys.length
 | 0 => h
 | j + 1 => by
   unfold visN
   split
   ·exact vis1_from_len (visN_from_len h r l j) _ _ _
   ·exact visN_from_len h r l j
theorem tourN_from_len (succ : K → List K) (first : K) : ∀ i, (tourN succ first i).from_.length = (tourN succ first i).keys.length
 | 0 => rfl
 | i + 1 => by
   cases h : (tourN succ first i).keys[i]? with
   | none => rw [tourN_stop (List.getElem?_eq_none_iff.1 h)]; exact tourN_from_len succ first i
   | some k => rw [tourN_succ h]; exact visN_from_len (tourN_from_len succ first i) _ _ _
theorem tourN_next_len (succ : K → List K) (first : K) : ∀ i, i ≤ (tourN succ first i).keys.length → (tourN succ first i).next.length = i
 | 0, _ => rfl
 | i + 1, h => by
   cases hk : (tourN succ first i).keys[i]? with
   | none =>
     have h0 := List.getElem?_eq_none_iff.1 hk
     rw [tourN_stop h0] at h
     omega
   | some k =>
     rw [tourN_succ hk]
     simp only [List.length_append, List.length_singleton]
     rw [tourN_next_len succ first i (by have := (List.getElem?_eq_some_iff.1 hk).1; omega)]
theorem tourN_pos (succ : K → List K) (first : K) (i : Nat) : 0 < (tourN succ first i).keys.length := by
 have := (tourN_pre succ first (Nat.zero_le i)).length_le
 have h1 : (tourN succ first 0).keys.length = 1 := rfl
 omega
def entries {V : Type} (f : Nat → V) : (i : Nat) → List K → List (K × V)
 | _, [] => []
 | i, k :: ks => (k, f i) :: entries f (i + 1) ks
omit [DecidableEq K] in
theorem entries_snoc {V : Type} (f : Nat → V) (ks : List K) (k : K) (i : Nat) : entries f i (ks ++ [k]) = entries f i ks ++ [(k, f (i + ks.length))] := by
 induction ks generalizing i with
 | nil => simp [entries]
 | cons a ks ih =>
   simp [entries, ih]
   congr 1
   omega
end
end Go.Tour
namespace Go.Spy
open Go.RowKit
section
variable {κ : Type} [DecidableEq κ]
theorem findKey_two {P : Program} {kt : TypeId} {d : TypeDesc} (hd : P.underlying kt = some d) {x y : Value} (hs : Instr.sameNow d x y = none) (v : Value) (c : Nat) (w : World) :
 (Instr.findKey kt x [{ key := y, val := v, born := c }]).run P w = ((Op.equal kt x y).run P w).andThen fun b w' => .ok (if b then some (0, v) else none) w' := by
 simp only [Instr.findKey, Sem.run_bind, run_underlying hd, Result.andThen_ok, Instr.findNow, hs, Instr.findAsking]
 congr 1
 funext b w'
 cases b <;> simp
theorem equal_of_law {P : Program} {kt : TypeId} {d : TypeDesc} (hd : P.underlying kt = some d) (L : WideMaps.KeyLaw P kt) {x y : Value} {lx ly : Lit} (hx : keyOf P kt x = some lx) (hy : keyOf P kt y = some ly) (hs : Instr.sameNow d x y = none) (w : World) :
 ∃ b, (Op.equal kt x y).run P w = .ok b w ∧ (b = true ↔ y = x) := by
 have h1 := findKey_two hd hs (.bool true) 0 w
 have h2 := L.find w hx [{ key := y, val := .bool true, born := 0 }] (fun e he => by simp at he; subst he; exact ⟨ly, hy⟩)
 rw [h1] at h2
 cases hr : (Op.equal kt x y).run P w with
 | ok b w' =>
   rw [hr] at h2
   simp only [Result.andThen_ok] at h2
   rcases h2 with ⟨e1, e2⟩ | ⟨j, e, e1, e2, e3⟩
   ·cases b
    ·simp at e1
     exact ⟨false, by rw [e1], by simpa using e2⟩
    ·simp at e1
   ·cases b
    ·simp at e1
    ·simp at e1
     obtain ⟨⟨rfl, _⟩, rfl⟩ := e1
     simp at e2
     subst e2
     exact ⟨true, rfl, by simpa using e3⟩
 | _ => rw [hr] at h2; simp [Result.andThen] at h2
theorem keyOk_law {P : Program} {kt : TypeId} {d : TypeDesc} {enc : κ → Value} (hd : P.underlying kt = some d) (L : WideMaps.KeyLaw P kt) (hs : ∀ a b, Instr.sameNow d (enc a) (enc b) = none) (hk : ∀ a, ∃ l, keyOf P kt (enc a) = some l)
 (inj : ∀ a b, enc a = enc b → a = b) (hb : ∀ k, Instr.sameBits 10000 (enc k) (enc k) = true) : KeyOk P kt enc where
 check := fun w e k => by obtain ⟨l, hl⟩ := hk k; exact L.check w e hl
 bits := hb
 find := by
  intro w k es l h
  have ask : ∀ (es : List MapEntry) (l : List (κ × Value)) (i : Nat), es.map (fun e => (e.key, e.val)) = l.map (fun p => (enc p.1, p.2)) → (Instr.findAsking kt (enc k) es i).run P w = .ok (alookI l k i) w := by
   intro es
   induction es with
   | nil => intro l i h; cases l <;> simp_all [Instr.findAsking, alookI]
   | cons e es ih =>
     intro l i h
     cases l with
     | nil => simp at h
     | cons p l =>
       simp only [List.map_cons, List.cons.injEq, Prod.mk.injEq] at h
       obtain ⟨⟨h1, h2⟩, h3⟩ := h
       obtain ⟨lx, hx⟩ := hk k
       obtain ⟨ly, hy⟩ := hk p.1
       obtain ⟨b, e1, e2⟩ := equal_of_law hd L hx hy (hs _ _) w
       simp only [Instr.findAsking, Sem.run_bind, h1, e1, Result.andThen_ok, alookI]
       by_cases hp : k = p.1
       ·have : b = true := e2.2 (by rw [hp])
        subst this
        simp [hp, h2]
       ·have : b = false := by
         cases b
         ·rfl
         ·exact absurd (inj _ _ (e2.1 rfl)).symm hp
        subst this
        simp [hp, ih l (i + 1) h3]
  cases es with
  | nil => cases l <;> simp_all [Instr.findKey, Instr.findNow, alookI, run_underlying hd]
  | cons e es =>
    cases l with
    | nil => simp at h
    | cons p l =>
      have h' := h
      simp only [List.map_cons, List.cons.injEq, Prod.mk.injEq] at h
      have hn : Instr.findNow d (enc k) (e :: es) 0 = none := by simp [Instr.findNow, h.1.1, hs]
      simp only [Instr.findKey, Sem.run_bind, run_underlying hd, Result.andThen_ok, hn]
      exact ask (e :: es) (p :: l) 0 h'
end
end Go.Spy
namespace Go.Proofs.YtngpjagpeblbjaaGreatDoor
open Go.RowKit Go.Spy Go.Rx
section
variable {P : Program} {t e : TypeId} {q : IntKind} {d n : Nat}
theorem lits_int (h : P.underlying t = some (.int q)) {z : Int} (hw : (Lit.int q z).wf = true) : ∃ l, P.keyLits (d + 1) t [.int q z] = some l := ⟨[.int q z], by simp [Program.keyLits, h, hw]⟩
theorem lits_bool (h : P.underlying t = some .bool) (b : Bool) : ∃ l, P.keyLits (d + 1) t [.bool b] = some l := ⟨[.bool b], by simp [Program.keyLits, h]⟩
theorem mapM_ex {α β : Type} {f : α → Option β} : ∀ {L : List α}, (∀ x ∈ L, ∃ y, f x = some y) → ∃ ys, L.mapM f = some ys
 | [], _ => ⟨[], by simp⟩
 | x :: L, h => by
   obtain ⟨y, hy⟩ := h x (by simp)
   obtain ⟨ys, hys⟩ := mapM_ex (L := L) (fun x hx => h x (by simp [hx]))
   exact ⟨y :: ys, by simp [List.mapM_cons, hy, hys]⟩
theorem lits_array (h : P.underlying t = some (.array n e)) {cs : List Value} (hl : cs.length = P.cellsOf t) (hi : ∀ i, i < n → ∃ l, P.keyLits d e ((cs.drop (i * P.cellsOf e)).take (P.cellsOf e)) = some l) : ∃ l, P.keyLits (d + 1) t cs = some l := by
 obtain ⟨ys, hys⟩ := mapM_ex (L := List.range n) (f := fun i => P.keyLits d e ((cs.drop (i * P.cellsOf e)).take (P.cellsOf e))) (fun i h => hi i (by simpa using h))
 exact ⟨ys.flatten, by simp [Program.keyLits, h, hl, hys]⟩
theorem lits_struct {fs : Array Field} (h : P.underlying t = some (.struct fs)) {cs : List Value} (hl : cs.length = P.cellsOf t) (hn : fs.all (·.name != "_") = true) (hi : ∀ f ∈ fs.toList, ∃ l, P.keyLits d f.type ((cs.drop f.offset).take (P.cellsOf f.type)) = some l) : ∃ l, P.keyLits (d + 1) t cs = some l := by
 obtain ⟨ys, hys⟩ := mapM_ex (L := fs.toList) (f := fun f => P.keyLits d f.type ((cs.drop f.offset).take (P.cellsOf f.type))) hi
 refine ⟨ys.flatten, ?_⟩
 unfold Program.keyLits
 simp only [h]
 rw [if_pos ⟨hl, hn⟩, hys]
 rfl
theorem keyOf_arr (h : P.underlying t = some (.array n e)) (hk : P.keyType t = true) {A : Array Value} (hs : A.size = P.cellsOf t) (hl : ∃ l, P.keyLits (P.types.size + 1) t A.toList = some l) : ∃ l, keyOf P t (.agg A) = some l := by
 obtain ⟨l, hl⟩ := hl
 refine ⟨.string (keyBytes l), ?_⟩
 simp [keyOf, h, hk, Value.formed, hs, Value.cells, hl]
theorem keyOf_str {fs : Array Field} (h : P.underlying t = some (.struct fs)) (hk : P.keyType t = true) {A : Array Value} (hs : A.size = P.cellsOf t) (hl : ∃ l, P.keyLits (P.types.size + 1) t A.toList = some l) : ∃ l, keyOf P t (.agg A) = some l := by
 obtain ⟨l, hl⟩ := hl
 refine ⟨.string (keyBytes l), ?_⟩
 simp [keyOf, h, hk, Value.formed, hs, Value.cells, hl]
end
theorem types_size : Tryz.prog.types.size = 255 := by kernel_rfl
theorem cells4 : Tryz.prog.cellsOf 4 = 1 := by kernel_rfl
theorem cells103 : Tryz.prog.cellsOf 103 = 1 := by kernel_rfl
theorem cells105 : Tryz.prog.cellsOf 105 = 16 := by kernel_rfl
theorem cells112 : Tryz.prog.cellsOf 112 = 17 := by kernel_rfl
abbrev Pr := { p : Int × Int // (Lit.int .i64 p.1).wf = true ∧ (Lit.int .i64 p.2).wf = true }
def prC (p : Pr) : Array Value := #[.int .i64 p.1.1, .int .i64 p.1.2]
abbrev Sta := Bool × { m : Nat // m < 18446744073709551616 }
def staC (s : Sta) : Array Value := #[.bool s.1] ++ setV s.2.1
theorem staC_size (s : Sta) : (staC s).size = 17 := by simp [staC, setV_size]; 
theorem keyOf_sta (s : Sta) : ∃ l, keyOf Tryz.prog 112 (.agg (staC s)) = some l := by
 have hl : (staC s).toList.length = 17 := by rw [Array.length_toList, staC_size]
 refine keyOf_str Tryz.underlying112 (by kernel_rfl) (by rw [cells112, staC_size]) ?_
 rw [types_size]
 refine lits_struct Tryz.underlying112 (by rw [cells112, hl]) (by kernel_rfl) fun f hf => ?_
 simp at hf
 rcases hf with rfl | rfl
 ·rw [cells4]
  exact lits_bool Tryz.underlying4 s.1
 ·rw [cells105]
  refine lits_array Tryz.underlying105 (by rw [cells105]; simp [staC, setV_size]) fun i hi => ?_
  rw [cells103]
  have h1 : (List.take 1 (List.drop (i * 1) (List.take 16 (List.drop 1 (staC s).toList)))) = [.int .u64 (plG s.2.1 i)] := by
   apply List.ext_getElem?
   intro j
   have hg := setV_get (m := s.2.1) hi
   cases j with
   | zero =>
     rw [List.getElem?_take, if_pos (by decide), List.getElem?_drop, List.getElem?_take, if_pos (by omega), List.getElem?_drop]
     simp only [staC, Nat.mul_one, Nat.add_zero]
     rw [Array.getElem?_toList, Array.getElem?_append_right (by simp)]
     simpa using hg
   | succ j => rw [List.getElem?_take, if_neg (by omega)]; simp
  rw [h1]
  refine lits_int Tryz.underlying103 ?_
  have h2 := s.2.2
  cases i with
  | zero =>
    have e1 : IntKind.u64.min = 0 := rfl
    have e2 : IntKind.u64.max = 18446744073709551615 := by decide
    simp [plG, Lit.wf, e1, e2]; omega
  | succ i =>
    have e1 : IntKind.u64.min = 0 := rfl
    have e2 : IntKind.u64.max = 18446744073709551615 := by decide
    simp [plG, Lit.wf, e1, e2]
theorem key_sta : KeyOk (κ := Sta) Tryz.prog 112 (fun s => .agg (staC s)) :=
 keyOk_law Tryz.underlying112 (deep_law_gate (by kernel_rfl) (by rw [types_size]; decide) (by rw [types_size]; decide) (by kernel_rfl) (by rw [Tryz.underlying112])) (fun _ _ => rfl) keyOf_sta
  (fun a b h => by
    obtain ⟨a1, a2, ha⟩ := a
    obtain ⟨b1, b2, hb⟩ := b
    have h' : staC (a1, ⟨a2, ha⟩) = staC (b1, ⟨b2, hb⟩) := by simpa using h
    have h0 : (staC (a1, ⟨a2, ha⟩))[0]? = (staC (b1, ⟨b2, hb⟩))[0]? := by rw [h']
    have h1 : (staC (a1, ⟨a2, ha⟩))[1]? = (staC (b1, ⟨b2, hb⟩))[1]? := by rw [h']
    simp only [staC] at h0 h1
    rw [Array.getElem?_append_right (by simp), Array.getElem?_append_right (by simp)] at h1
    simp [setV_get, plG] at h1
    have h2 : a2 = b2 := by exact_mod_cast h1
    subst h2
    rw [Array.getElem?_append_left (by simp), Array.getElem?_append_left (by simp)] at h0
    simp at h0
    simp [h0])
  (fun k => by
    have : ∀ (l : List Value), (∀ v ∈ l, Instr.sameBits 9999 v v = true) → ((l.zip l).all fun (x, y) => Instr.sameBits 9999 x y) = true := by
     intro l h
     rw [List.all_eq_true]
     intro p hp
     obtain ⟨i, hi, rfl⟩ := List.getElem_of_mem hp
     simp only [List.getElem_zip]
     exact h _ (List.getElem_mem _)
    simp only [Instr.sameBits, beq_self_eq_true, Bool.true_and]
    refine this _ fun v hv => ?_
    simp [staC, setV] at hv
    rcases hv with rfl | ⟨i, _, rfl⟩ <;> simp [Instr.sameBits])
end Go.Proofs.YtngpjagpeblbjaaGreatDoor
