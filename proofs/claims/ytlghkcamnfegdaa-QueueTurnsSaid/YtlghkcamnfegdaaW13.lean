/-
  The queue seat: Put.
-/
import Derived.Test.YtlghkcamnfegdaaW12
namespace Go.Proofs.Ytlghkcamnfegdaa
open Go.RowKit Go.Spy Go.Heaped

theorem Moved.setNew {S S' : Nat → Prop} {a b : World} (h : Moved S S' a b) {p : Addr} (hp : a.heap.size ≤ p.block) (v : Value) : Moved S S' a (b.setCell p v) :=
  ⟨⟨h.chg.os, h.chg.tape, h.chg.output, by simpa [World.setCell] using h.chg.size, fun k hk hs => (Below.heap_setCell _ _ _ _ (by omega)).trans (h.chg.block k hk hs)⟩, h.sub⟩
theorem own_new {F : Nat} {w : World} {base q bo n cap : Nat} {vI : Value} {ao : Option Addr} {d : List It} {sw : List (Int × Int)} {put : Int} (h : Pile w base q bo F vI (.slice ao n cap) d sw put) : ∀ k, w.heap.size ≤ k → ¬ own q vI (.slice ao 0 cap) k := by
  have e0 : (Value.slice ao 0 cap).ownBlock = (Value.slice ao n cap).ownBlock := by cases ao <;> rfl
  rintro k hk (e | e | e)
  · have := h.blk.lt; omega
  · obtain ⟨_, hb⟩ := own_type h.items e
    have := hb.lt; omega
  · rw [e0] at e
    obtain ⟨_, hb⟩ := own_type h.swaps e
    have := hb.lt; omega

set_option maxRecDepth 100000 in
set_option maxHeartbeats 1600000 in
theorem put_any {F : Nat} {f : Int → Int → Int} (O : OrdOk F f) (L : Ordered (aheadB f)) {w : World} {base q bo : Nat} {d : List It} {m : Nat} {put : Int} {S : Nat → Prop} (h : PileX w base q bo F d m put S)
    (t : Int × Int) (hu : Heap (aheadB f) d d.length) (hm : d.length + 1 ≤ 1000000000) (h0 : 0 ≤ put) (h1 : put ≤ 1000000000) :
    Calls Try.prog 18 #[.pointer (some ⟨q, 0, none⟩), thingV t] w fun e w' => e = .returned (.int .i64 0) ∧ Risen (aheadB f) S w base q bo F (d ++ [(t.1, t.2, put)]) d.length (put + 1) w' := by
  obtain ⟨vI, vS, sw, h, hs, rfl⟩ := h
  obtain ⟨t1, t2⟩ := t
  obtain ⟨ao, cap, rfl, hcap, hg⟩ := slice_form h.items
  obtain ⟨aoS, capS, rfl, hcapS, hgS⟩ := slice_form h.swaps
  have c0 : w.cell? ⟨q, 0, none⟩ = some (.slice ao d.length cap) := h.blk.cell rfl
  have c1 : w.cell? ⟨q, 1, none⟩ = some (.slice aoS sw.length capS) := h.blk.cell rfl
  have fq := h.blk.frozen
  have hlt := h.blk.lt
  have hnot := own_new h
  have hlt1 : q < w.heap.size + 1 := by omega
  have hlt2 : q < w.heap.size + 1 + 1 := by omega
  have hlt3 : q < w.heap.size + 1 + 1 + 1 := by omega
  have hlt4 : q < w.heap.size + 1 + 1 + 1 + 1 := by omega
  have HP := hid h
  clear h
  show Calls Try.prog 18 #[.pointer (some ⟨q, 0, none⟩), .agg #[.int .i64 t1, .int .i64 t2]] w _
  have hmf : ∀ (fn : Fn) (first cap : Array Value) (w : World), (Instr.makeFunc fn first cap).run Try.prog w = .ok (.func fn first cap) w := fun _ _ _ _ => rfl
  go_enter_defers Try.func18, Try.ntmps18
  go_wp2_with fail
  have E : Ext w ((((w.alloc (Obj.cells #[Value.pointer (some ⟨q, 0, none⟩)] 39)).alloc (Obj.cells #[Value.int IntKind.i64 t1, Value.int IntKind.i64 t2] 33)).alloc (Obj.cells #[Value.int IntKind.i64 0] 29)).alloc (Obj.cells #[Value.int IntKind.i64 ↑d.length] 3)) :=
    ((((Below.refl _ _).alloc (Nat.le_refl _) _).alloc (by simp) _).alloc (by simp; omega) _).alloc (by simp; omega) _
  have B0 : Blk ((((w.alloc (Obj.cells #[Value.pointer (some ⟨q, 0, none⟩)] 39)).alloc (Obj.cells #[Value.int IntKind.i64 t1, Value.int IntKind.i64 t2] 33)).alloc (Obj.cells #[Value.int IntKind.i64 0] 29)).alloc (Obj.cells #[Value.int IntKind.i64 ↑d.length] 3)) w.heap.size 39 #[Value.pointer (some ⟨q, 0, none⟩)] :=
    (((Blk.new' w 39 _ rfl).alloc _).alloc _).alloc _
  have B1 : Blk ((((w.alloc (Obj.cells #[Value.pointer (some ⟨q, 0, none⟩)] 39)).alloc (Obj.cells #[Value.int IntKind.i64 t1, Value.int IntKind.i64 t2] 33)).alloc (Obj.cells #[Value.int IntKind.i64 0] 29)).alloc (Obj.cells #[Value.int IntKind.i64 ↑d.length] 3)) (w.heap.size + 1) 33 #[Value.int IntKind.i64 t1, Value.int IntKind.i64 t2] :=
    ((Blk.new' _ 33 _ (by simp)).alloc _).alloc _
  have B2 : Blk ((((w.alloc (Obj.cells #[Value.pointer (some ⟨q, 0, none⟩)] 39)).alloc (Obj.cells #[Value.int IntKind.i64 t1, Value.int IntKind.i64 t2] 33)).alloc (Obj.cells #[Value.int IntKind.i64 0] 29)).alloc (Obj.cells #[Value.int IntKind.i64 ↑d.length] 3)) (w.heap.size + 1 + 1) 29 #[Value.int IntKind.i64 0] :=
    (Blk.new' _ 29 _ (by simp)).alloc _
  have B3 : Blk ((((w.alloc (Obj.cells #[Value.pointer (some ⟨q, 0, none⟩)] 39)).alloc (Obj.cells #[Value.int IntKind.i64 t1, Value.int IntKind.i64 t2] 33)).alloc (Obj.cells #[Value.int IntKind.i64 0] 29)).alloc (Obj.cells #[Value.int IntKind.i64 ↑d.length] 3)) (w.heap.size + 1 + 1 + 1) 3 #[Value.int IntKind.i64 d.length] :=
    Blk.new' _ 3 _ (by simp)
  generalize World.alloc _ _ = W at *
  clear c0 c1 fq
  have HPW := hid (HP.out.ext E)
  have c1 : W.cell? ⟨q, 1, none⟩ = some (.slice aoS sw.length capS) := HPW.out.blk.cell rfl
  have fq := HPW.out.blk.frozen 1
  have k0 : W.cell? ⟨w.heap.size, 0, none⟩ = some (.pointer (some ⟨q, 0, none⟩)) := B0.cell rfl
  go_region
  have r1 := HPW.out.reset
  have hx : ∀ (w : World), Ext w w.drew := fun w => (Below.refl _ w).drew
  have HP2 : Hid (PileX (W.setCell ⟨q, 1, none⟩ (.slice aoS 0 capS)).drew base q bo F d 0 put (own q (.slice ao d.length cap) (.slice aoS 0 capS))) := hid ⟨_, _, [], r1.1.ext (hx _), Nat.le_refl _, rfl⟩
  have HM2 : Hid (Moved (own q (.slice ao d.length cap) (.slice aoS sw.length capS)) (own q (.slice ao d.length cap) (.slice aoS 0 capS)) w (W.setCell ⟨q, 1, none⟩ (.slice aoS 0 capS)).drew) :=
    hid ((((Moved.refl _ w).ext E).trans r1.2).ext (hx _))
  have D0 := ((B0.setOther (a := ⟨q, 1, none⟩) (by simp; omega) (.slice aoS 0 capS)).drew)
  have D1 := ((B1.setOther (a := ⟨q, 1, none⟩) (by simp; omega) (.slice aoS 0 capS)).drew)
  have D2 := ((B2.setOther (a := ⟨q, 1, none⟩) (by simp; omega) (.slice aoS 0 capS)).drew)
  have k3 : (W.setCell ⟨q, 1, none⟩ (.slice aoS 0 capS)).drew.cell? ⟨q, 3, none⟩ = some (.int .u64 put) := (r1.1.ext (hx _)).blk.cell rfl
  clear r1 c1 fq k0 B0 B1 B2 B3
  generalize World.drew _ = W2 at *
  have k0 : W2.cell? ⟨w.heap.size, 0, none⟩ = some (.pointer (some ⟨q, 0, none⟩)) := D0.cell rfl
  have e0 : W2.cell? ⟨w.heap.size + 1, 0, none⟩ = some (.int .i64 t1) := D1.cell rfl
  have e1 : W2.cell? ⟨w.heap.size + 1, 0 + 1, none⟩ = some (.int .i64 t2) := D1.cell rfl
  go_wp2_with fail
  go_still_tail 11, (by kernel_rfl)
  change wpList _ _ _ _ _ W2.drew
  have HP3 := hid (HP2.out.ext (hx _))
  have HM3 := hid (HM2.out.ext (hx _))
  have D0 := D0.drew
  have D2 := D2.drew
  clear k0 e0 e1 k3 HP2 HM2
  generalize W2.drew = W3 at *
  go_wp2_with (go_at_call 31; refine (hpush_any O L HP3.out (t1, t2, put) hu (by omega)).mono ?_; rintro e w4 ⟨rfl, d', p1, p2, S4, ⟨vI4, vS4, sw4, hp4, hs4, hS4⟩, hM4⟩; have k0 : w4.cell? ⟨w.heap.size, 0, none⟩ = some (.pointer (some ⟨q, 0, none⟩)) := (D0.chg hM4.chg (hnot _ (by omega))).cell rfl; have k2 : w4.cell? ⟨w.heap.size + 1 + 1, 0, none⟩ = some (.int .i64 0) := (D2.chg hM4.chg (hnot _ (by omega))).cell rfl; have k3 : w4.cell? ⟨q, 3, none⟩ = some (.int .u64 put) := hp4.blk.cell rfl; have f3 : w4.frozen? ⟨q, 3, none⟩ = false := hp4.blk.frozen 3; have f2 : w4.frozen? ⟨w.heap.size + 1 + 1, 0, none⟩ = false := (D2.chg hM4.chg (hnot _ (by omega))).frozen 0; have HP4 := hid hp4; have HS4 := hid hS4; clear hp4 hS4)
  refine leaves_cons (f := 29) (args := #[.pointer (some ⟨w.heap.size, 0, none⟩), .pointer (some ⟨w.heap.size + 1 + 1 + 1, 0, none⟩), .pointer (some ⟨w.heap.size + 1 + 1, 0, none⟩)]) (by simp) (by simp [go_sem]) ?_
  refine (put_idle _ _ _ _).mono ?_
  rintro e u' w'' ⟨rfl, rfl, rfl⟩
  have hS := HS4.out
  subst hS
  have hnS : ¬ own q vI4 vS4 (w.heap.size + 1 + 1) := fun x => (hM4.sub _ x).elim (hnot _ (by omega)) (fun y => by have := D2.lt; omega)
  have hbo : bo < w.heap.size := HP.out.ord.lt
  obtain ⟨r1, r2⟩ := HP4.out.counted (put + 1)
  have hq2 : q ≠ w.heap.size + 1 + 1 := by omega
  have kf : ((w4.setCell ⟨q, 3, none⟩ (.int .u64 (put + 1))).setCell ⟨w.heap.size + 1 + 1, 0, none⟩ (.int .i64 0)).cell? ⟨w.heap.size + 1 + 1, 0, none⟩ = some (.int .i64 0) :=
    (((D2.chg hM4.chg (hnot _ (by omega))).setOther (a := ⟨q, 3, none⟩) (by simpa using hq2) _).set 0 _).cell rfl
  refine ⟨_, by simp [results, Try.results18, go_sem, kf], rfl, d', p1, p2, own q vI4 vS4, ⟨vI4, vS4, sw4, ?_, by omega, rfl⟩, ?_⟩
  · exact r1.kept (S := fun k => k = w.heap.size + 1 + 1) ((Chg.refl _ _).setCell (by rfl) _) (fun k hk e => hnS (e ▸ hk)) (by omega)
  · exact ((HM3.out.trans hM4).trans r2).setNew (by simp; omega) _
end Go.Proofs.Ytlghkcamnfegdaa
