/-
  The queue seat: an item comes behind the others.
-/
import Derived.Test.YtlghkcamnfegdaaW6
import Derived.Deep.RegionLaw
namespace Go.Proofs.Ytlghkcamnfegdaa
open Go.RowKit Go.Spy

/-- What the store behind the append makes of a queue. -/
theorem Pile.pushed {F : Nat} {w w3 w4 : World} {base q bo : Nat} {vI vS : Value} {d : List It} {sw : List (Int × Int)} {put : Int} (h : Pile w base q bo F vI vS d sw put) (x : It)
    (c3 : Ext w w3) {g cap H : Nat} (hown : w4.ownsRow base 62 3 (.slice (some ⟨g, 0, none⟩) (d.length + 1) cap) (d.length + 1) (d.flatMap itemC ++ itemC x)) (hgr : w3.grownBy w4 vI.ownBlock) (hat : vI.ownBlock = some g ∨ g = H) (hH : w.heap.size ≤ H) :
    w4.cell? ⟨q, 0, none⟩ = some vI ∧ w4.frozen? ⟨q, 0, none⟩ = false ∧ Hid (Pile (w4.setCell ⟨q, 0, none⟩ (.slice (some ⟨g, 0, none⟩) (d.length + 1) cap)) base q bo F (.slice (some ⟨g, 0, none⟩) (d.length + 1) cap) vS (d ++ [x]) sw put ∧
    Moved (own q vI vS) (own q (.slice (some ⟨g, 0, none⟩) (d.length + 1) cap) vS) w (w4.setCell ⟨q, 0, none⟩ (.slice (some ⟨g, 0, none⟩) (d.length + 1) cap))) := by
  have hlt := h.blk.lt
  have c4 : Chg (fun k => vI.ownBlock = some k) w w4 := (Chg.of_ext c3).grown hgr (fun k e => e)
  have hp4 : Blk w4 q 69 #[vI, vS, .func (.func 28) #[] #[.pointer (some ⟨bo, 0, none⟩)], .int .u64 put] := h.blk.chg c4 h.vI_q
  have c5 : Chg (own q vI vS) w (w4.setCell ⟨q, 0, none⟩ (.slice (some ⟨g, 0, none⟩) (d.length + 1) cap)) := (c4.mono fun _ _ x => .inr (.inl x)).setCell (.inl rfl) _
  have hgq : g ≠ q := by
    rcases hat with e | e
    · rintro rfl; exact h.vI_q e
    · omega
  refine ⟨hp4.cell rfl, hp4.frozen 0, hid ⟨⟨hp4.set 0 _, h.ord.chg c5 h.bo_free, ?_, ?_, h.hq⟩, ⟨c5, ?_⟩⟩⟩
  · have e1 : (d ++ [x]).flatMap itemC = d.flatMap itemC ++ itemC x := by simp
    rw [e1, List.length_append]
    exact owns_setOther hown (p := ⟨q, 0, none⟩) (by simpa [Value.ownBlock] using hgq) _
  · exact owns_setOther (owns_chg h.swaps c4 (fun k e e' => h.vI_vS e' e)) (p := ⟨q, 0, none⟩) h.vS_q _
  · rintro k (e | e | e)
    · exact .inl (.inl e)
    · simp only [Value.ownBlock, Option.some.injEq] at e
      subst e
      rcases hat with e' | e'
      · exact .inl (.inr (.inl e'))
      · right; omega
    · exact .inl (.inr (.inr e))

theorem assert62 (v : Value) (w : World) : (Instr.typeAssert (.iface 62 v) 20 62 true).run Try.prog w = .ok (.tuple #[v, .bool true]) w := by kernel_rfl

theorem news62 {w : World} {o : Obj} (r k n : Int) : ∀ (j : Nat) (u : Value), (itemC (r, k, n))[j]? = some u → ((w.alloc o).alloc (.cells #[.int .i64 r, .int .i64 k, .int .u64 n] 62)).cell? ((⟨w.heap.size + 1, 0, none⟩ : Addr).add j) = some u := by
  intro j u hu
  have hb := Blk.new' (w.alloc o) 62 #[.int .i64 r, .int .i64 k, .int .u64 n] (b := w.heap.size + 1) (by simp)
  match j, hu with
  | 0, hu => exact hb.cell hu
  | 1, hu => exact hb.cell hu
  | 2, hu => exact hb.cell hu
theorem one62 (r k n : Int) : ∀ u ∈ itemC (r, k, n), u.oneCell' = true := by
  intro u hu
  simp [itemC] at hu
  rcases hu with rfl | rfl | rfl <;> rfl
set_option maxRecDepth 100000 in
set_option maxHeartbeats 800000 in
theorem push_any {F : Nat} {w : World} {base q bo : Nat} {d : List It} {m : Nat} {put : Int} {S : Nat → Prop} (h : PileX w base q bo F d m put S) (x : It) (hd : d.length + 1 ≤ 1000000000) :
    Calls Try.prog 66 #[.pointer (some ⟨q, 0, none⟩), .iface 62 (itemV x)] w fun e w' => e = .returned (.tuple #[]) ∧ Goes S w w' base q bo F (d ++ [x]) m put := by
  obtain ⟨vI, vS, sw, h, hsw, rfl⟩ := h
  obtain ⟨r, k, n⟩ := x
  have c0 : w.cell? ⟨q, 0, none⟩ = some vI := h.blk.cell rfl
  have hlt := h.blk.lt
  obtain ⟨i0, hti, hz0, hz1, hz2⟩ := info_parts Try.info62
  show Calls Try.prog 66 #[.pointer (some ⟨q, 0, none⟩), .iface 62 (.agg #[.int .i64 r, .int .i64 k, .int .u64 n])] w _
  have HP := hid h
  clear h
  have hta := assert62
  go_enter Try.func66, Try.ntmps66
  go_wp2_with fail
  have hrow := HP.out.items
  have hbase : base ≤ w.heap.size := by have := HP.out.hq; omega
  go_region_law ((refine step_append_lies _ ?_ (.tmp 16) (.tmp 18) 64 ?_ base 62 i0 _ 3 24 Try.underlying64 hti hz0 hz1 hz2 ?_ ?_ vI d.length (d.flatMap itemC) ?_ ?_ ⟨w.heap.size + 1, 0, none⟩ 1 1 (itemC (r, k, n)) ?_ ?_ ?_ ?_ ?_ ?_ ?_ ?_ (w.heap.size + 2) ?_ ?_; rfl; rfl; decide; decide; rfl; exact (hrow.alloc _).alloc _; rfl; rfl; exact news62 r k n; exact one62 r k n; decide; (unfold maxLen; omega); omega; (simp; omega); simp; intro g cap w4 hown hgr hat hlt4; obtain ⟨k1, k2, HG⟩ := HP.out.pushed (r, k, n) (((Below.refl _ _).alloc (Nat.le_refl _) _).alloc (by simp) _).drew hown hgr hat (by omega); clear hown hgr hat))
  all_goals
    go_end0
    exact ⟨rfl, own q _ vS, ⟨_, _, _, HG.out.1, hsw, rfl⟩, HG.out.2⟩
end Go.Proofs.Ytlghkcamnfegdaa
