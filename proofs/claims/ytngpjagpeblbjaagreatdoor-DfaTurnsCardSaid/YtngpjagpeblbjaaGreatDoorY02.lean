/-
  Walk of DFA.Not.
  Walk of Make where the expression or a word may not be.
  Where a pair of states goes.
  The tour through the pairs of states of two automata: what it tells, and that it ends.
  Walks of the laws' small helpers: none, Plain, ahead, same.
  Walk of classes over truth values: the numbers of the things of a list, in the order in which they come.
-/
import Derived.StillTailTactics
import Derived.Deep.QuietTactic
import Derived.BigQuiet
import Derived.BigRegion
import Derived.IntWalk
import Derived.Sort.OwnSorted
import Derived.Sort.Grow
import Derived.Lib.OwnBridge
import Derived.Outline
import Derived.WalkSpells
import Derived.Lib.TrailingZeros
import Derived.Deep.Draws
import Derived.Laws.ResultCell
import Derived.Laws.CopyRow
import Derived.Laws.OwnMore
import Derived.Deep.CutBlock
import Derived.Deep.OwnRows
import Derived.Deep.AppendLies
import Derived.Deep.RegionLaw
import Derived.StillTail
import Derived.StillTactics
import Derived.OrdersHeld
import Derived.Deep.Cut
import Derived.Test.YtngpjagpeblbjaaGreatDoorY01
import Derived.Lib.SlicesCompact
import Derived.Lib.RowBridge
namespace Go.Proofs.YtngpjagpeblbjaaGreatDoor
open Go.RowKit Go.Spy Go.Heaped Go.Tour Go.Rx
def notD (D : DA) : DA := ⟨D.syms, D.next, D.fin.map (!·)⟩
theorem notD_well {D : DA} (W : WellD nameOk D) : WellD nameOk (notD D) := ⟨⟨W.ok.pos, by simp [notD, W.ok.fin], W.ok.row, W.ok.goes⟩, W.most, W.names, W.rising⟩
theorem notD_bnd {D : DA} (B : BndD D.raw) : BndD (notD D).raw := ⟨B.s, B.n, by have := B.f; simpa [notD, DF.raw] using this, B.r, B.b⟩
structure NotW (w wr : World) (b5 : Nat) (vO : Array Value) (vS vN vF : Value) (us : List Value) (syms : List ByteArray) (rows : List (List Int)) (fin : List Bool) : Prop where
 ext : Ext w wr
 box : Blk wr w.heap.size 26 vO
 res : Blk wr (w.heap.size + 1) 26 #[.slice none 0 0, .slice none 0 0, .slice none 0 0]
 dfa : Blk wr b5 26 #[vS, vN, vF]
 syms : OwnR wr w.heap.size 9 1 strC vS syms
 next : OwnR wr w.heap.size 46 1 oneA vN us
 len : us.length = rows.length
 rows : ∀ (i : Nat) (u : Value) (r : List Int), us[i]? = some u → rows[i]? = some r → OwnR wr w.heap.size 3 1 intZ u r
 fin : OwnR wr w.heap.size 4 1 boolC vF fin
 lt : w.heap.size + 1 < b5
section
variable {w wr : World} {b5 : Nat} {vO : Array Value} {vS vN vF : Value} {us : List Value} {syms : List ByteArray} {rows : List (List Int)} {fin : List Bool}
theorem NotW.ext' {wy : World} (h : NotW w wr b5 vO vS vN vF us syms rows fin) (e : Ext wr wy) : NotW w wy b5 vO vS vN vF us syms rows fin :=
 ⟨h.ext.trans (e.mono h.ext.size), h.box.ext e, h.res.ext e, h.dfa.ext e, h.syms.ext e, h.next.ext e, h.len, fun i u r hu hr => (h.rows i u r hu hr).ext e, h.fin.ext e, h.lt⟩
theorem own_ne {α β : Type} {W : World} {N M e e' s s' : Nat} {f : α → Array Value} {g : β → Array Value} {v u : Value} {l : List α} {m : List β} (h : OwnR W N e s f v l) (k : OwnR W M e' s' g u m) (hne : e ≠ e') : ∀ q, v.ownBlock = some q → ¬ u.ownBlock = some q := fun q h1 h2 => by
 obtain ⟨_, hb⟩ := own_block h h1
 obtain ⟨_, hc⟩ := own_block k h2
 exact ne_of_blk hb hc hne rfl
theorem NotW.appN {w6 : World} (h : NotW w wr b5 vO vS vN vF us syms rows fin) {g c : Nat} {u v' : Value} {r : List Int} (hu : OwnR wr w.heap.size 3 1 intZ u r) (hv : v' = .slice (some ⟨g, 0, none⟩) (us.length + 1) c)
 (hO : OwnR w6 w.heap.size 46 1 oneA v' (us ++ [u])) (hg : wr.grownBy w6 vN.ownBlock) (hl : vN.ownBlock = some g ∨ wr.heap.size ≤ g) :
 Blk w6 b5 26 #[vS, vN, vF] ∧ NotW w (w6.setCell ⟨b5, 1, none⟩ v') b5 vO vS v' vF (us ++ [u]) syms (rows ++ [r]) fin := by
 have hvo : v'.ownBlock = some g := by rw [hv]; rfl
 have c6 : Chg (fun k => vN.ownBlock = some k) wr w6 := (Chg.refl _ wr).grown hg (fun k e => e)
 have h7 := h.dfa.chg c6 (own_blk_ne h.next h.dfa (by decide))
 have hlt := h.lt
 have c7 : Chg (fun k => k = b5) w6 (w6.setCell ⟨b5, 1, none⟩ v') := Chg.setCell (S := fun k => k = b5) (p := ⟨b5, 1, none⟩) (Chg.refl _ w6) rfl v'
 have d6 : Chg (fun k => w.heap.size ≤ k) wr w6 := c6.mono fun k _ e => (h.next.lt k e).1
 have d7 : Chg (fun k => w.heap.size ≤ k) w6 (w6.setCell ⟨b5, 1, none⟩ v') := c7.mono fun k _ e => by omega
 have n3 : ∀ {u r}, OwnR wr w.heap.size 3 1 intZ u r → OwnR (w6.setCell ⟨b5, 1, none⟩ v') w.heap.size 3 1 intZ u r := fun k =>
  (k.chg c6 (own_ne k h.next (by decide))).chg c7 fun q e e' => by subst e'; exact own_blk_ne (k.chg c6 (own_ne k h.next (by decide))) h7 (by decide) e
 refine ⟨h7, ⟨h.ext.trans ((d6.trans d7).below h.ext.size (fun k e => e)), (h.box.chg c6 (own_blk_ne h.next h.box (by decide))).chg c7 (by omega), (h.res.chg c6 (own_blk_ne h.next h.res (by decide))).chg c7 (by omega), h7.set 1 _, ?_, ?_, by simp [h.len], ?_, ?_, hlt⟩⟩
 ·refine (h.syms.chg c6 (own_ne h.syms h.next (by decide))).chg c7 fun q e e' => ?_
  subst e'; exact own_blk_ne h.syms h.dfa (by decide) e
 ·refine hO.chg c7 fun q e e' => ?_
  rw [hvo] at e
  have hgk : g = q := by simpa using e
  subst hgk
  rcases hl with e2 | e2
  ·exact own_blk_ne h.next h.dfa (by decide) (e2.trans (by rw [e']))
  ·have := h.dfa.lt; omega
 ·intro i u' r' hu' hr'
  rcases Nat.lt_or_ge i us.length with e | e
  ·rw [List.getElem?_append_left e] at hu'
   rw [List.getElem?_append_left (by rw [← h.len]; exact e)] at hr'
   exact n3 (h.rows i u' r' hu' hr')
  ·have hi : i = us.length := by
    have := (List.getElem?_eq_some_iff.1 hu').1
    simp at this; omega
   subst hi
   rw [List.getElem?_append_right (Nat.le_refl _), Nat.sub_self] at hu'
   rw [h.len, List.getElem?_append_right (Nat.le_refl _), Nat.sub_self] at hr'
   simp only [List.getElem?_cons_zero, Option.some.injEq] at hu' hr'
   subst hu'; subst hr'
   exact n3 hu
 ·refine (h.fin.chg c6 (own_ne h.fin h.next (by decide))).chg c7 fun q e e' => ?_
  subst e'; exact own_blk_ne h.fin h.dfa (by decide) e
theorem NotW.appF {w6 : World} (h : NotW w wr b5 vO vS vN vF us syms rows fin) {g c : Nat} {b : Bool} {v' : Value} (hv : v' = .slice (some ⟨g, 0, none⟩) (fin.length + 1) c)
 (hO : OwnR w6 w.heap.size 4 1 boolC v' (fin ++ [b])) (hg : wr.grownBy w6 vF.ownBlock) (hl : vF.ownBlock = some g ∨ wr.heap.size ≤ g) :
 Blk w6 b5 26 #[vS, vN, vF] ∧ NotW w (w6.setCell ⟨b5, 2, none⟩ v') b5 vO vS vN v' us syms rows (fin ++ [b]) := by
 have hvo : v'.ownBlock = some g := by rw [hv]; rfl
 have c6 : Chg (fun k => vF.ownBlock = some k) wr w6 := (Chg.refl _ wr).grown hg (fun k e => e)
 have h7 := h.dfa.chg c6 (own_blk_ne h.fin h.dfa (by decide))
 have hlt := h.lt
 have c7 : Chg (fun k => k = b5) w6 (w6.setCell ⟨b5, 2, none⟩ v') := Chg.setCell (S := fun k => k = b5) (p := ⟨b5, 2, none⟩) (Chg.refl _ w6) rfl v'
 have d6 : Chg (fun k => w.heap.size ≤ k) wr w6 := c6.mono fun k _ e => (h.fin.lt k e).1
 have d7 : Chg (fun k => w.heap.size ≤ k) w6 (w6.setCell ⟨b5, 2, none⟩ v') := c7.mono fun k _ e => by omega
 refine ⟨h7, ⟨h.ext.trans ((d6.trans d7).below h.ext.size (fun k e => e)), (h.box.chg c6 (own_blk_ne h.fin h.box (by decide))).chg c7 (by omega), (h.res.chg c6 (own_blk_ne h.fin h.res (by decide))).chg c7 (by omega), h7.set 2 _, ?_, ?_, h.len, ?_, ?_, hlt⟩⟩
 ·refine (h.syms.chg c6 (own_ne h.syms h.fin (by decide))).chg c7 fun q e e' => ?_
  subst e'; exact own_blk_ne h.syms h.dfa (by decide) e
 ·refine (h.next.chg c6 (own_ne h.next h.fin (by decide))).chg c7 fun q e e' => ?_
  subst e'; exact own_blk_ne h.next h.dfa (by decide) e
 ·intro i u r hu hr
  have k := h.rows i u r hu hr
  refine (k.chg c6 (own_ne k h.fin (by decide))).chg c7 fun q e e' => ?_
  subst e'; exact own_blk_ne k h.dfa (by decide) e
 ·refine hO.chg c7 fun q e e' => ?_
  rw [hvo] at e
  have hgk : g = q := by simpa using e
  subst hgk
  rcases hl with e2 | e2
  ·exact own_blk_ne h.fin h.dfa (by decide) (e2.trans (by rw [e']))
  ·have := h.dfa.lt; omega
end
end Go.Proofs.YtngpjagpeblbjaaGreatDoor
namespace Go.Proofs.YtngpjagpeblbjaaGreatDoor
open Go.RowKit Go.Spy Go.Heaped Go.Tour Go.Rx
abbrev nilD : Value := .agg #[.slice none 0 0, .slice none 0 0, .slice none 0 0]
def MakeBad (c : Int) (w : World) (e : Ending) (w' : World) : Prop := e = .returned (.tuple #[nilD, .int .i64 c]) ∧ Ext w w'
end Go.Proofs.YtngpjagpeblbjaaGreatDoor
namespace Go.Proofs.YtngpjagpeblbjaaGreatDoor
open Go.RowKit Go.Spy Go.Heaped Go.Tour Go.Rx
set_option maxRecDepth 100000 in
set_option maxHeartbeats 1000000 in
theorem not_bad {w : World} {v : Value} {d : DR} (hD : DfaV w v d) (hB : BndD d) (h : checkE nameOk d ≠ 0) : Calls Tryz.prog 14 #[v] w (MakeBad (checkE nameOk d : Nat) w) := by
 obtain ⟨vS, vN, vF, us, rfl, hP⟩ := hD
 have HC1 : Hid (∀ W, Ext w W → Calls Tryz.prog 11 #[.agg #[vS, vN, vF]] W (ErrP (checkE nameOk d) W)) := hid fun W e => dcheck_any (hP.ext e) hB
 obtain ⟨aoS, cS, rfl, -⟩ := hP.syms.form
 obtain ⟨aoN, cN, rfl, -⟩ := hP.next.form
 obtain ⟨aoF, cF, rfl, -⟩ := hP.fin.form
 obtain ⟨n1, hn1⟩ : ∃ n, n = d.syms.length := ⟨_, rfl⟩
 obtain ⟨n2, hn2⟩ : ∃ n, n = us.length := ⟨_, rfl⟩
 obtain ⟨n3, hn3⟩ : ∃ n, n = d.fin.length := ⟨_, rfl⟩
 obtain ⟨E, hE⟩ : ∃ E, E = checkE nameOk d := ⟨_, rfl⟩
 rw [← hn1, ← hn2, ← hn3] at HC1 ⊢
 rw [← hE] at HC1 h ⊢
 have d0 : (((E : Nat) : Int) != 0) = true := by simp; omega
 have hE0 : Ext w ((w.alloc (.cells #[.slice aoS n1 cS, .slice aoN n2 cN, .slice aoF n3 cF] 26)).alloc (.cells #[.slice none 0 0, .slice none 0 0, .slice none 0 0] 26)) := ((Below.refl _ _).alloc (Nat.le_refl _) _).alloc (by simp) _
 have HE0 := hid hE0
 clear hP hB hn1 hn2 hn3 hE h hE0
 go_enter Tryz.func14, Tryz.ntmps14
 go_wp2_with fail
 refine (HC1.out _ HE0.out).mono ?_
 rintro e w2 ⟨rfl, hx⟩
 have HX2 := hid (HE0.out.trans (hx.mono HE0.out.size))
 have hS2 : Blk w2 (w.heap.size + 1) 26 #[.slice none 0 0, .slice none 0 0, .slice none 0 0] := (Blk.new' (w.alloc (.cells #[.slice aoS n1 cS, .slice aoN n2 cN, .slice aoF n3 cF] 26)) 26 _ (by simp)).ext hx
 have r0 : w2.cell? ⟨w.heap.size + 1, 0, none⟩ = some (.slice none 0 0) := hS2.cell (i := 0) rfl
 have r1 : w2.cell? ⟨w.heap.size + 1, 1, none⟩ = some (.slice none 0 0) := hS2.cell (i := 1) rfl
 have r2 : w2.cell? ⟨w.heap.size + 1, 2, none⟩ = some (.slice none 0 0) := hS2.cell (i := 2) rfl
 have rf := hS2.frozen
 have rl := hS2.lt
 have HS2 := hid hS2
 clear hx hS2
 go_wp2_with fail
 have h3 : Blk (((w2.setCell ⟨w.heap.size + 1, 0, none⟩ (.slice none 0 0)).setCell ⟨w.heap.size + 1, 1, none⟩ (.slice none 0 0)).setCell ⟨w.heap.size + 1, 2, none⟩ (.slice none 0 0)) (w.heap.size + 1) 26 #[.slice none 0 0, .slice none 0 0, .slice none 0 0] := ((HS2.out.set 0 _).set 1 _).set 2 _
 refine bodyPost_ret (v := .tuple #[nilD, .int .i64 E]) (results_cell_agg_tmp Tryz.results14 _ _ (w.heap.size + 1) 26 #[.slice none 0 0, .slice none 0 0, .slice none 0 0] _ _ rfl rfl h3 Tryz.underlying26 rfl (by kernel_rfl)) rfl ?_
 have cc : Chg (fun k => w.heap.size ≤ k) w2 (((w2.setCell ⟨w.heap.size + 1, 0, none⟩ (.slice none 0 0)).setCell ⟨w.heap.size + 1, 1, none⟩ (.slice none 0 0)).setCell ⟨w.heap.size + 1, 2, none⟩ (.slice none 0 0)) :=
  Chg.mono (S := fun k => k = w.heap.size + 1) (Chg.setCell (p := ⟨w.heap.size + 1, 2, none⟩) (S := fun k => k = w.heap.size + 1) (Chg.setCell (p := ⟨w.heap.size + 1, 1, none⟩) (S := fun k => k = w.heap.size + 1) (Chg.setCell (p := ⟨w.heap.size + 1, 0, none⟩) (S := fun k => k = w.heap.size + 1) (Chg.refl _ w2) rfl (.slice none 0 0)) rfl (.slice none 0 0)) rfl (.slice none 0 0)) fun k _ e => by omega
 exact ⟨rfl, HX2.out.trans (cc.below HX2.out.size (fun k e => e))⟩
def NotPost (D : DA) (w : World) (e : Ending) (w' : World) : Prop := ∃ v, e = .returned (.tuple #[v, .int .i64 0]) ∧ DfaW w' v (notD D) ∧ Ext w w'
set_option maxRecDepth 100000 in
set_option maxHeartbeats 4000000 in
theorem not_any {w : World} {v : Value} {D : DA} (hD : DfaW w v D) : Calls Tryz.prog 14 #[v] w (NotPost D w) := by
 obtain ⟨⟨vS, vN, vF, us, rfl, hP⟩, hB, W⟩ := hD
 have HC1 : Hid (∀ W', Ext w W' → Calls Tryz.prog 11 #[.agg #[vS, vN, vF]] W' (ErrP 0 W')) := hid fun W' e => well_check W ▸ dcheck_any (hP.ext e) hB
 obtain ⟨aoS, cS, rfl, -⟩ := hP.syms.form
 obtain ⟨aoN, cN, rfl, hN⟩ := hP.next.form
 obtain ⟨aoF, cF, rfl, hF⟩ := hP.fin.form
 have HCL := hid fun W' (e : Ext w W') => clone_str (hP.syms.ext e) (by have := hB.s; omega)
 obtain ⟨n1, hn1⟩ : ∃ n, n = D.raw.syms.length := ⟨_, rfl⟩
 obtain ⟨n2, hn2⟩ : ∃ n, n = us.length := ⟨_, rfl⟩
 obtain ⟨n3, hn3⟩ : ∃ n, n = D.raw.fin.length := ⟨_, rfl⟩
 have hl2 : n2 = D.next.length := by rw [hn2, hP.len]; simp [DF.raw]
 have hl3 : n3 = D.next.length := by rw [hn3]; exact W.ok.fin
 have hl4 : n2 ≤ 256 := by rw [hl2]; exact W.most
 have HP := hid hP
 have HB := hid hB
 have HW' := hid W
 have hpos : 0 < D.next.length := W.ok.pos
 rw [← hn2] at hN
 obtain ⟨gN, oN, rfl⟩ := hN (by omega)
 rw [← hn3] at hF
 obtain ⟨gF, oF, rfl⟩ := hF (by omega)
 rw [← hn1] at HC1 HCL ⊢
 rw [← hn2, ← hn3] at HC1 ⊢
 rw [← hn1, ← hn2, ← hn3] at HP
 have HL2 := hid hl2
 have HL3 := hid hl3
 have HN1 := hid hn1
 have HN2 := hid hn2
 have HN3 := hid hn3
 have hE0 : Ext w ((w.alloc (.cells #[.slice aoS n1 cS, .slice (some ⟨gN, oN, none⟩) n2 cN, .slice (some ⟨gF, oF, none⟩) n3 cF] 26)).alloc (.cells #[.slice none 0 0, .slice none 0 0, .slice none 0 0] 26)) := ((Below.refl _ _).alloc (Nat.le_refl _) _).alloc (by simp) _
 have HE0 := hid hE0
 clear hP hB W hn1 hn2 hn3 hE0 hl2 hl3 hpos hN hF
 go_enter Tryz.func14, Tryz.ntmps14
 go_wp2_with fail
 refine (HC1.out _ HE0.out).mono ?_
 rintro e w2 ⟨rfl, hx⟩
 have HX2 := hid (HE0.out.trans (hx.mono HE0.out.size))
 have hS2 : Blk w2 (w.heap.size + 1) 26 #[.slice none 0 0, .slice none 0 0, .slice none 0 0] := (Blk.new' (w.alloc (.cells #[.slice aoS n1 cS, .slice (some ⟨gN, oN, none⟩) n2 cN, .slice (some ⟨gF, oF, none⟩) n3 cF] 26)) 26 _ (by simp)).ext hx
 have hO2 : Blk w2 w.heap.size 26 #[.slice aoS n1 cS, .slice (some ⟨gN, oN, none⟩) n2 cN, .slice (some ⟨gF, oF, none⟩) n3 cF] := ((Blk.new w _ _).alloc _).ext hx
 have c0 : w2.cell? ⟨w.heap.size, 0, none⟩ = some (.slice aoS n1 cS) := hO2.cell (i := 0) rfl
 have rl := hO2.lt
 have HS2 := hid hS2
 have HO2 := hid hO2
 clear hx hS2 hO2
 go_wp2_with fail
 refine (HCL.out _ HX2.out).mono ?_
 rintro e w3 ⟨hx, vS', rfl, hO⟩
 obtain ⟨aoC, cC, rfl, -⟩ := (OwnR.read hO strC_size).form
 rw [← HN1.out] at hO ⊢
 have HO := hid (hO.lower HX2.out.size)
 have HX3 := hid (HX2.out.trans (hx.mono HX2.out.size))
 have HS3 := hid (HS2.out.ext hx)
 have HO3 := hid (HO2.out.ext hx)
 clear hx hO c0 rl HS2 HO2
 have c1 : w3.cell? ⟨w.heap.size, 1, none⟩ = some (.slice (some ⟨gN, oN, none⟩) n2 cN) := HO3.out.cell (i := 1) rfl
 have rl := HO3.out.lt
 go_upto_region 5 with fail
 obtain ⟨b5, hb5⟩ : ∃ b, b = w3.heap.size := ⟨_, rfl⟩
 have hs3 : w.heap.size + 1 < b5 := by rw [hb5]; exact HS3.out.lt
 obtain ⟨wA, hwA⟩ : ∃ u, u = w3.alloc (.cells #[.slice aoC n1 cC, .slice none 0 0, .slice none 0 0] 26) := ⟨_, rfl⟩
 have eA : Ext w3 wA := hwA ▸ (Below.refl _ _).alloc (Nat.le_refl _) _
 have hNW : NotW w wA b5 #[.slice aoS n1 cS, .slice (some ⟨gN, oN, none⟩) n2 cN, .slice (some ⟨gF, oF, none⟩) n3 cF] (.slice aoC n1 cC) (.slice none 0 0) (.slice none 0 0) [] D.syms [] [] :=
  ⟨HX3.out.trans (eA.mono HX3.out.size), HO3.out.ext eA, HS3.out.ext eA, by rw [hb5, hwA]; exact Blk.new _ _ _, HO.out.ext eA, OwnR.nil _ _ _ _ _, rfl, fun i u r hu => by simp at hu, OwnR.nil _ _ _ _ _, hs3⟩
 have HNW := hid hNW
 rw [← hb5, ← hwA]
 have c2 : wA.cell? ⟨w.heap.size, 1, none⟩ = some (.slice (some ⟨gN, oN, none⟩) n2 cN) := hNW.box.cell (i := 1) rfl
 have rl2 := hNW.box.lt
 clear c1 rl hb5 hwA eA hNW HO3 HS3 HX3 HO
 go_wp2_with fail
 go_loopg [21] n2 (fun g u wr => ∃ j vN vF us', g = n2 - j ∧ j ≤ n2 ∧ u = .int .i64 j ∧ Hid (NotW w wr b5 #[.slice aoS n1 cS, .slice (some ⟨gN, oN, none⟩) n2 cN, .slice (some ⟨gF, oF, none⟩) n3 cF] (.slice aoC n1 cC) vN vF us' D.syms (D.raw.next.take j) ((D.fin.take j).map (!·))))
 case atStart => exact ⟨0, _, _, _, rfl, Nat.zero_le _, rfl, HNW⟩
 case round =>
  clear HNW c2 rl2
  obtain ⟨j, vN, vF, us', rfl, hj, rfl, HW⟩ := hrel
  by_cases hlt : j < n2
  ·obtain ⟨fs, hfs⟩ : ∃ fs, fs = (D.fin.take j).map (!·) := ⟨_, rfl⟩
   obtain ⟨rw, hrw⟩ : ∃ rw, rw = D.raw.next.take j := ⟨_, rfl⟩
   have hrwl : rw.length = j := by
    have := HP.out.len
    rw [hrw, List.length_take]
    have := HN2.out
    omega
   rw [← hfs, ← hrw] at HW
   have HFS := hid hfs
   have HRW := hid hrwl
   have HRS := hid hrw
   obtain ⟨u, hu⟩ : ∃ u, us[j]? = some u := ⟨_, List.getElem?_eq_getElem (by rw [← HN2.out]; exact hlt)⟩
   obtain ⟨r, hr⟩ : ∃ r, D.raw.next[j]? = some r := ⟨_, List.getElem?_eq_getElem (by rw [← HP.out.len, ← HN2.out]; exact hlt)⟩
   have hRR := HP.out.rows j u r hu hr
   have hrl : r.length ≤ 1000 := HB.out.r r (List.mem_of_getElem? hr)
   have HR := hid hr
   have HCR := hid fun W' (e : Ext w W') => clone_int (hRR.ext e) (by omega)
   obtain ⟨aoR, cR, rfl, -⟩ := hRR.form
   have c1 : wr.cell? ⟨gN, oN + j, none⟩ = some (.slice aoR r.length cR) := (HP.out.next.ext HW.out.ext).cell1 hu
   obtain ⟨rl, hrl2⟩ : ∃ n, n = r.length := ⟨_, rfl⟩
   rw [← hrl2] at HCR c1
   have HRL := hid hrl2
   clear hfs hrw hrwl hu hr hRR hrl hrl2
   have z1 : wr.cell? ⟨b5, 1, none⟩ = some vN := HW.out.dfa.cell (i := 1) rfl
   have zl := HW.out.dfa.lt
   go_upto_region 8 with fail
   have hS0 : wr.heap.size ≤ wr.drew.heap.size := Nat.le_refl _
   go_cut [] from 26 to 44 (fun wx => ∃ vN2 us2, Hid (NotW w wx b5 #[.slice aoS n1 cS, .slice (some ⟨gN, oN, none⟩) n2 cN, .slice (some ⟨gF, oF, none⟩) n3 cF] (.slice aoC n1 cC) vN2 vF us2 D.syms (rw ++ [r]) fs))
   case first =>
    refine wp_region_heldL (fun w' => wr.heap.size ≤ w'.heap.size) (by kernel_rfl) ?_
    refine wpAnyH_takeK 0 7 (mk 8 1) rfl (by kernel_rfl) rfl (.pointer (some ⟨b5, 1, none⟩)) (fun _ _ _ h => h) (Or.inl ⟨rfl, fun w' hS => ?_⟩) hS0 ?_
    ·go_simp <;> with_reducible rfl
    refine wpAnyH_takeK 2 6 (mk 8 5) rfl (by kernel_rfl) rfl (.slice aoR rl cR) (fun _ _ _ h => h) (Or.inl ⟨rfl, fun w' hS => ?_⟩) hS0 ?_
    ·go_simp <;> with_reducible rfl
    refine wpAnyH_two 1 3 5 (mk 8 7) (mk 8 13) rfl rfl (by kernel_rfl) rfl ?_ ?_
    ·go_wp2_with fail
     refine ⟨hS0, ?_⟩
     refine wpAnyH_one 3 4 (mk 8 15) rfl (by kernel_rfl) rfl ?_
     go_wp2_with fail
     refine (HCR.out wr.drew HW.out.ext.drew).mono ?_
     rintro e w4 ⟨hx, vR, rfl, hOR⟩
     obtain ⟨aoQ, cQ, rfl, -⟩ := (OwnR.read hOR (fun _ => rfl)).form
     rw [← HRL.out] at hOR ⊢
     have hE4 : Ext wr w4 := (Below.refl wr.heap.size wr).drew.trans (hx.mono (by simp))
     have HE4 := hid hE4
     have HOR := hid (hOR.lower (HW.out.ext.size))
     have z4 : w4.cell? ⟨b5, 1, none⟩ = some vN := (HW.out.dfa.ext hE4).cell (i := 1) rfl
     have zl4 := (HW.out.dfa.ext hE4).lt
     clear hx hOR hE4
     go_wp2_with fail
     refine ⟨HE4.out.size, ?_⟩
     refine wpAnyH_one 4 3 (mk 8 31) rfl (by kernel_rfl) rfl ?_
     go_wp2_with fail
     refine ⟨by have := HE4.out.size; simp; omega, ?_⟩
     have HW4 := hid (HW.out.ext' HE4.out)
     have HOW4 := hid HW4.out.next
     have hsz4 := HW4.out.ext.size
     have hln : us'.length + 1 ≤ 1000000000 := by have := HW4.out.len; have := HRW.out; omega
     refine wpAnyH_one 5 2 (mk 8 63) rfl (by kernel_rfl) rfl ?_
     go_wp2_with (with_reducible refine onOp 31 ?_
                  go_loud (refine wpList_append_R elem_row (fun _ => rfl) ones_row HOW4 hsz4 hln (.slice aoQ rl cQ) _ rfl w4.heap.size rfl rfl _ _ rfl rfl rfl ?_)
                  rintro g' c' v' w6 rfl G1 G2)
     have P6 := HW4.out.appN HOR.out rfl G1.out G2.out.1 G2.out.2
     have y2 : w6.cell? ⟨b5, 1, none⟩ = some vN := P6.1.cell (i := 1) rfl
     have yf := P6.1.frozen
     have yl := P6.1.lt
     have HP6 := hid P6.2
     have hz6 : wr.heap.size ≤ w6.heap.size := Nat.le_trans HE4.out.size G2.out.1.size
     clear P6
     refine ⟨hz6, ?_⟩
     refine wpAnyH_one 6 1 (mk 8 127) rfl (by kernel_rfl) rfl ?_
     go_wp2_with fail
     refine ⟨hz6, ?_⟩
     refine wpAnyH_one 7 0 (mk 8 255) rfl (by kernel_rfl) rfl ?_
     go_wp2_with fail
     refine ⟨by simpa [World.setCell] using hz6, ?_⟩
     refine wpAnyH_end (P := Tryz.prog) (by kernel_rfl) ?_
     go_wp2_with fail
     go_meet
     exact ⟨_, _, HP6⟩
    ·go_wp2_with fail
     refine (HCR.out wr.drew HW.out.ext.drew).mono ?_
     rintro e w4 ⟨hx, vR, rfl, hOR⟩
     obtain ⟨aoQ, cQ, rfl, -⟩ := (OwnR.read hOR (fun _ => rfl)).form
     rw [← HRL.out] at hOR ⊢
     have hE4 : Ext wr w4 := (Below.refl wr.heap.size wr).drew.trans (hx.mono (by simp))
     have HE4 := hid hE4
     have HOR := hid (hOR.lower (HW.out.ext.size))
     have z4 : w4.cell? ⟨b5, 1, none⟩ = some vN := (HW.out.dfa.ext hE4).cell (i := 1) rfl
     have zl4 := (HW.out.dfa.ext hE4).lt
     clear hx hOR hE4
     go_wp2_with fail
     refine ⟨HE4.out.size, ?_⟩
     refine wpAnyH_two 1 4 4 (mk 8 15) (mk 8 29) rfl rfl (by kernel_rfl) rfl ?_ ?_
     ·go_wp2_with fail
      refine ⟨HE4.out.size, ?_⟩
      refine wpAnyH_one 4 3 (mk 8 31) rfl (by kernel_rfl) rfl ?_
      go_wp2_with fail
      refine ⟨by have := HE4.out.size; simp; omega, ?_⟩
      have HW4 := hid (HW.out.ext' HE4.out)
      have HOW4 := hid HW4.out.next
      have hsz4 := HW4.out.ext.size
      have hln : us'.length + 1 ≤ 1000000000 := by have := HW4.out.len; have := HRW.out; omega
      refine wpAnyH_one 5 2 (mk 8 63) rfl (by kernel_rfl) rfl ?_
      go_wp2_with (with_reducible refine onOp 31 ?_
                   go_loud (refine wpList_append_R elem_row (fun _ => rfl) ones_row HOW4 hsz4 hln (.slice aoQ rl cQ) _ rfl w4.heap.size rfl rfl _ _ rfl rfl rfl ?_)
                   rintro g' c' v' w6 rfl G1 G2)
      have P6 := HW4.out.appN HOR.out rfl G1.out G2.out.1 G2.out.2
      have y2 : w6.cell? ⟨b5, 1, none⟩ = some vN := P6.1.cell (i := 1) rfl
      have yf := P6.1.frozen
      have yl := P6.1.lt
      have HP6 := hid P6.2
      have hz6 : wr.heap.size ≤ w6.heap.size := Nat.le_trans HE4.out.size G2.out.1.size
      clear P6
      refine ⟨hz6, ?_⟩
      refine wpAnyH_one 6 1 (mk 8 127) rfl (by kernel_rfl) rfl ?_
      go_wp2_with fail
      refine ⟨hz6, ?_⟩
      refine wpAnyH_one 7 0 (mk 8 255) rfl (by kernel_rfl) rfl ?_
      go_wp2_with fail
      refine ⟨by simpa [World.setCell] using hz6, ?_⟩
      refine wpAnyH_end (P := Tryz.prog) (by kernel_rfl) ?_
      go_wp2_with fail
      go_meet
      exact ⟨_, _, HP6⟩
     ·go_wp2_with fail
      refine ⟨by have := HE4.out.size; simp; omega, ?_⟩
      refine wpAnyH_one 1 3 (mk 8 31) rfl (by kernel_rfl) rfl ?_
      go_wp2_with fail
      refine ⟨by have := HE4.out.size; simp; omega, ?_⟩
      have HW4 := hid (HW.out.ext' HE4.out)
      have HOW4 := hid HW4.out.next
      have hsz4 := HW4.out.ext.size
      have hln : us'.length + 1 ≤ 1000000000 := by have := HW4.out.len; have := HRW.out; omega
      refine wpAnyH_one 5 2 (mk 8 63) rfl (by kernel_rfl) rfl ?_
      go_wp2_with (with_reducible refine onOp 31 ?_
                   go_loud (refine wpList_append_R elem_row (fun _ => rfl) ones_row HOW4 hsz4 hln (.slice aoQ rl cQ) _ rfl w4.heap.size rfl rfl _ _ rfl rfl rfl ?_)
                   rintro g' c' v' w6 rfl G1 G2)
      have P6 := HW4.out.appN HOR.out rfl G1.out G2.out.1 G2.out.2
      have y2 : w6.cell? ⟨b5, 1, none⟩ = some vN := P6.1.cell (i := 1) rfl
      have yf := P6.1.frozen
      have yl := P6.1.lt
      have HP6 := hid P6.2
      have hz6 : wr.heap.size ≤ w6.heap.size := Nat.le_trans HE4.out.size G2.out.1.size
      clear P6
      refine ⟨hz6, ?_⟩
      refine wpAnyH_one 6 1 (mk 8 127) rfl (by kernel_rfl) rfl ?_
      go_wp2_with fail
      refine ⟨hz6, ?_⟩
      refine wpAnyH_one 7 0 (mk 8 255) rfl (by kernel_rfl) rfl ?_
      go_wp2_with fail
      refine ⟨by simpa [World.setCell] using hz6, ?_⟩
      refine wpAnyH_end (P := Tryz.prog) (by kernel_rfl) ?_
      go_wp2_with fail
      go_meet
      exact ⟨_, _, HP6⟩
   case rest =>
    obtain ⟨vN2, us2, HW2⟩ := hcut
    obtain ⟨b, hb⟩ : ∃ b, D.raw.fin[j]? = some b := ⟨_, List.getElem?_eq_getElem (by rw [← HN3.out, HL3.out, ← HL2.out]; exact hlt)⟩
    have HBB := hid hb
    have hjn : j < n3 := by rw [HL3.out, ← HL2.out]; exact hlt
    have hln : fs.length + 1 ≤ 1000000000 := by rw [HFS.out]; simp; omega
    have g1 : (0 : Int) ≤ (j : Int) := by omega
    have g2 : (j : Int) < (n3 : Int) := by omega
    clear hb c1 z1 zl hS0
    have z1 : wc.cell? ⟨b5, 2, none⟩ = some vF := HW2.out.dfa.cell (i := 2) rfl
    have zl := HW2.out.dfa.lt
    have hS0 : Ext w wc.drew ∧ Blk wc.drew w.heap.size 26 #[.slice aoS n1 cS, .slice (some ⟨gN, oN, none⟩) n2 cN, .slice (some ⟨gF, oF, none⟩) n3 cF] := ⟨HW2.out.ext.drew, HW2.out.box.drew⟩
    go_upto_region 9 with fail
    refine wp_region_heldL (fun w' => Ext w w' ∧ Blk w' w.heap.size 26 #[.slice aoS n1 cS, .slice (some ⟨gN, oN, none⟩) n2 cN, .slice (some ⟨gF, oF, none⟩) n3 cF]) (by kernel_rfl) ?_
    refine wpAnyH_takeK 0 11 (mk 12 1) rfl (by kernel_rfl) rfl (.pointer (some ⟨b5, 2, none⟩)) (fun _ _ _ h => h) (Or.inl ⟨rfl, fun w' hS => ?_⟩) hS0 ?_
    ·go_simp <;> with_reducible rfl
    refine wpAnyH_takeK 2 10 (mk 12 5) rfl (by kernel_rfl) rfl (.pointer (some ⟨w.heap.size, 2, none⟩)) (fun _ _ _ h => h) (Or.inl ⟨rfl, fun w' hS => ?_⟩) hS0 ?_
    ·go_simp <;> with_reducible rfl
    refine wpAnyH_takeK 4 9 (mk 12 21) rfl (by kernel_rfl) rfl (.int .i64 j) (fun _ _ _ h => h) (Or.inl ⟨rfl, fun w' hS => ?_⟩) hS0 ?_
    ·go_simp <;> with_reducible rfl
    refine wpAnyH_takeK 3 8 (mk 12 29) rfl (by kernel_rfl) rfl (.slice (some ⟨gF, oF, none⟩) n3 cF) (fun _ _ _ h => h) (Or.inl ⟨rfl, fun w' hS => ?_⟩) hS0 ?_
    ·have c1 : w'.cell? ⟨w.heap.size, 2, none⟩ = some (.slice (some ⟨gF, oF, none⟩) n3 cF) := hS.2.cell (i := 2) rfl; go_simp <;> with_reducible rfl
    refine wpAnyH_takeK 5 7 (mk 12 61) rfl (by kernel_rfl) rfl (.pointer (some ⟨gF, oF + j, none⟩)) (fun _ _ _ h => h) (Or.inl ⟨rfl, fun w' hS => ?_⟩) hS0 ?_
    ·go_simp <;> with_reducible rfl
    refine wpAnyH_takeK 6 6 (mk 12 125) rfl (by kernel_rfl) rfl (.bool b) (fun _ _ _ h => h) (Or.inl ⟨rfl, fun w' hS => ?_⟩) hS0 ?_
    ·have c1 : w'.cell? ⟨gF, oF + j, none⟩ = some (.bool b) := (HP.out.fin.ext hS.1).cell1 HBB.out; go_simp <;> with_reducible rfl
    refine wpAnyH_takeK 7 5 (mk 12 253) rfl (by kernel_rfl) rfl (.bool (!b)) (fun _ _ _ h => h) (Or.inl ⟨rfl, fun w' hS => ?_⟩) hS0 ?_
    ·go_simp <;> with_reducible rfl
    refine wpAnyH_two 1 8 4 (mk 12 255) (mk 12 509) rfl rfl (by kernel_rfl) rfl ?_ ?_
    ·go_wp2_with fail
     refine ⟨hS0, ?_⟩
     refine wpAnyH_one 8 3 (mk 12 511) rfl (by kernel_rfl) rfl ?_
     go_wp2_with fail
     refine ⟨⟨HW2.out.ext.drew.alloc (by have := HW2.out.ext.size; simp; omega) _, HW2.out.box.drew.alloc _⟩, ?_⟩
     have HW4 := hid (HW2.out.ext' (Below.refl wc.heap.size wc).drew)
     have HOW4 := hid HW4.out.fin
     have hsz4 := HW4.out.ext.size
     refine wpAnyH_one 9 2 (mk 12 1023) rfl (by kernel_rfl) rfl ?_
     go_wp2_with (with_reducible refine onOp 42 ?_
                  go_loud (refine wpList_append_R elem_bool (fun _ => rfl) ones_bool HOW4 hsz4 hln (!b) _ rfl wc.heap.size rfl rfl _ _ rfl rfl rfl ?_)
                  rintro g' c' v' w6 rfl G1 G2)
     have P6 := HW4.out.appF rfl G1.out G2.out.1 G2.out.2
     have y2 : w6.cell? ⟨b5, 2, none⟩ = some vF := P6.1.cell (i := 2) rfl
     have yf := P6.1.frozen
     have yl := P6.1.lt
     have HP6 := hid P6.2
     have h6 : Ext w w6 ∧ Blk w6 w.heap.size 26 #[.slice aoS n1 cS, .slice (some ⟨gN, oN, none⟩) n2 cN, .slice (some ⟨gF, oF, none⟩) n3 cF] := by
      have c6 : Chg (fun k => vF.ownBlock = some k) _ w6 := (Chg.refl _ _).grown G2.out.1 (fun k e => e)
      exact ⟨HW4.out.ext.trans ((c6.mono (S' := fun k => w.heap.size ≤ k) fun k _ e => (HOW4.out.lt k e).1).below HW4.out.ext.size (fun k e => e)), HW4.out.box.chg c6 (own_blk_ne HOW4.out HW4.out.box (by decide))⟩
     have H6 := hid h6
     clear P6 h6
     refine ⟨H6.out, ?_⟩
     refine wpAnyH_one 10 1 (mk 12 2047) rfl (by kernel_rfl) rfl ?_
     go_wp2_with fail
     refine ⟨H6.out, ?_⟩
     refine wpAnyH_one 11 0 (mk 12 4095) rfl (by kernel_rfl) rfl ?_
     go_wp2_with fail
     refine ⟨⟨HP6.out.ext, HP6.out.box⟩, ?_⟩
     refine wpAnyH_end (P := Tryz.prog) (by kernel_rfl) ?_
     go_wp2_with fail
     go_roundg (n2 - (j + 1))
     case measure => omega
     case rel =>
      refine ⟨j + 1, vN2, .slice (some ⟨g', 0, none⟩) (fs.length + 1) c', us2, rfl, by omega, by go_num, hid ?_⟩
      have e1 : (D.fin.take (j + 1)).map (!·) = fs ++ [!b] := by
       obtain ⟨h2, h3⟩ := List.getElem?_eq_some_iff.1 HBB.out
       have h2' : j < D.fin.length := h2
       rw [HFS.out, List.take_succ_eq_append_getElem h2', List.map_append]
       congr 1
       simp only [List.map_cons, List.map_nil, List.cons.injEq, and_true]
       exact congrArg (!·) h3
      have e2 : D.raw.next.take (j + 1) = rw ++ [r] := by
       obtain ⟨h2, h3⟩ := List.getElem?_eq_some_iff.1 HR.out
       rw [HRS.out, List.take_succ_eq_append_getElem h2, h3]
      rw [e1, e2]
      exact HP6.out
    ·go_wp2_with fail
     refine ⟨⟨HW2.out.ext.drew.alloc (by have := HW2.out.ext.size; simp; omega) _, HW2.out.box.drew.alloc _⟩, ?_⟩
     refine wpAnyH_one 1 3 (mk 12 511) rfl (by kernel_rfl) rfl ?_
     go_wp2_with fail
     refine ⟨⟨HW2.out.ext.drew.alloc (by have := HW2.out.ext.size; simp; omega) _, HW2.out.box.drew.alloc _⟩, ?_⟩
     have HW4 := hid (HW2.out.ext' (Below.refl wc.heap.size wc).drew)
     have HOW4 := hid HW4.out.fin
     have hsz4 := HW4.out.ext.size
     refine wpAnyH_one 9 2 (mk 12 1023) rfl (by kernel_rfl) rfl ?_
     go_wp2_with (with_reducible refine onOp 42 ?_
                  go_loud (refine wpList_append_R elem_bool (fun _ => rfl) ones_bool HOW4 hsz4 hln (!b) _ rfl wc.heap.size rfl rfl _ _ rfl rfl rfl ?_)
                  rintro g' c' v' w6 rfl G1 G2)
     have P6 := HW4.out.appF rfl G1.out G2.out.1 G2.out.2
     have y2 : w6.cell? ⟨b5, 2, none⟩ = some vF := P6.1.cell (i := 2) rfl
     have yf := P6.1.frozen
     have yl := P6.1.lt
     have HP6 := hid P6.2
     have h6 : Ext w w6 ∧ Blk w6 w.heap.size 26 #[.slice aoS n1 cS, .slice (some ⟨gN, oN, none⟩) n2 cN, .slice (some ⟨gF, oF, none⟩) n3 cF] := by
      have c6 : Chg (fun k => vF.ownBlock = some k) _ w6 := (Chg.refl _ _).grown G2.out.1 (fun k e => e)
      exact ⟨HW4.out.ext.trans ((c6.mono (S' := fun k => w.heap.size ≤ k) fun k _ e => (HOW4.out.lt k e).1).below HW4.out.ext.size (fun k e => e)), HW4.out.box.chg c6 (own_blk_ne HOW4.out HW4.out.box (by decide))⟩
     have H6 := hid h6
     clear P6 h6
     refine ⟨H6.out, ?_⟩
     refine wpAnyH_one 10 1 (mk 12 2047) rfl (by kernel_rfl) rfl ?_
     go_wp2_with fail
     refine ⟨H6.out, ?_⟩
     refine wpAnyH_one 11 0 (mk 12 4095) rfl (by kernel_rfl) rfl ?_
     go_wp2_with fail
     refine ⟨⟨HP6.out.ext, HP6.out.box⟩, ?_⟩
     refine wpAnyH_end (P := Tryz.prog) (by kernel_rfl) ?_
     go_wp2_with fail
     go_roundg (n2 - (j + 1))
     case measure => omega
     case rel =>
      refine ⟨j + 1, vN2, .slice (some ⟨g', 0, none⟩) (fs.length + 1) c', us2, rfl, by omega, by go_num, hid ?_⟩
      have e1 : (D.fin.take (j + 1)).map (!·) = fs ++ [!b] := by
       obtain ⟨h2, h3⟩ := List.getElem?_eq_some_iff.1 HBB.out
       have h2' : j < D.fin.length := h2
       rw [HFS.out, List.take_succ_eq_append_getElem h2', List.map_append]
       congr 1
       simp only [List.map_cons, List.map_nil, List.cons.injEq, and_true]
       exact congrArg (!·) h3
      have e2 : D.raw.next.take (j + 1) = rw ++ [r] := by
       obtain ⟨h2, h3⟩ := List.getElem?_eq_some_iff.1 HR.out
       rw [HRS.out, List.take_succ_eq_append_getElem h2, h3]
      rw [e1, e2]
      exact HP6.out
  ·have hj2 : j = n2 := by omega
   subst hj2
   have e1 : (D.fin.take j).map (!·) = (notD D).raw.fin := by
    rw [List.take_of_length_le (by have := HL3.out; have := HL2.out; have := HW'.out.ok.fin; omega)]; rfl
   have e2 : D.raw.next.take j = (notD D).raw.next := by
    rw [List.take_of_length_le (by have := HL2.out; simp [DF.raw]; omega)]; rfl
   rw [e1, e2] at HW
   obtain ⟨aoM, cM, rfl, -⟩ := (OwnR.read HW.out.next (fun _ => rfl)).form
   obtain ⟨aoG, cG, rfl, -⟩ := (OwnR.read HW.out.fin (fun _ => rfl)).form
   obtain ⟨m2, hm2⟩ : ∃ n, n = us'.length := ⟨_, rfl⟩
   obtain ⟨m3, hm3⟩ : ∃ n, n = (notD D).raw.fin.length := ⟨_, rfl⟩
   rw [← hm2, ← hm3] at HW
   clear hm2 hm3 e1 e2
   have z0 : wr.cell? ⟨b5, 0, none⟩ = some (.slice aoC n1 cC) := HW.out.dfa.cell (i := 0) rfl
   have z1 : wr.cell? ⟨b5, 1, none⟩ = some (.slice aoM m2 cM) := HW.out.dfa.cell (i := 1) rfl
   have z2 : wr.cell? ⟨b5, 2, none⟩ = some (.slice aoG m3 cG) := HW.out.dfa.cell (i := 2) rfl
   have zl := HW.out.dfa.lt
   have r0 : wr.cell? ⟨w.heap.size + 1, 0, none⟩ = some (.slice none 0 0) := HW.out.res.cell (i := 0) rfl
   have r1 : wr.cell? ⟨w.heap.size + 1, 1, none⟩ = some (.slice none 0 0) := HW.out.res.cell (i := 1) rfl
   have r2 : wr.cell? ⟨w.heap.size + 1, 2, none⟩ = some (.slice none 0 0) := HW.out.res.cell (i := 2) rfl
   have rf := HW.out.res.frozen
   have rl := HW.out.res.lt
   go_wp2_with fail
   have h3 : Blk (((wr.setCell ⟨w.heap.size + 1, 0, none⟩ (.slice aoC n1 cC)).setCell ⟨w.heap.size + 1, 1, none⟩ (.slice aoM m2 cM)).setCell ⟨w.heap.size + 1, 2, none⟩ (.slice aoG m3 cG)) (w.heap.size + 1) 26 #[.slice aoC n1 cC, .slice aoM m2 cM, .slice aoG m3 cG] := ((HW.out.res.set 0 _).set 1 _).set 2 _
   have cq : Chg (fun k => k = w.heap.size + 1) wr (((wr.setCell ⟨w.heap.size + 1, 0, none⟩ (.slice aoC n1 cC)).setCell ⟨w.heap.size + 1, 1, none⟩ (.slice aoM m2 cM)).setCell ⟨w.heap.size + 1, 2, none⟩ (.slice aoG m3 cG)) :=
    Chg.setCell (p := ⟨w.heap.size + 1, 2, none⟩) (S := fun k => k = w.heap.size + 1) (Chg.setCell (p := ⟨w.heap.size + 1, 1, none⟩) (S := fun k => k = w.heap.size + 1) (Chg.setCell (p := ⟨w.heap.size + 1, 0, none⟩) (S := fun k => k = w.heap.size + 1) (Chg.refl _ wr) rfl (.slice aoC n1 cC)) rfl (.slice aoM m2 cM)) rfl (.slice aoG m3 cG)
   refine bodyPost_ret (v := .tuple #[.agg #[.slice aoC n1 cC, .slice aoM m2 cM, .slice aoG m3 cG], .int .i64 0]) (results_cell_agg_tmp Tryz.results14 _ _ (w.heap.size + 1) 26 #[.slice aoC n1 cC, .slice aoM m2 cM, .slice aoG m3 cG] _ _ rfl rfl h3 Tryz.underlying26 rfl (by kernel_rfl)) rfl ?_
   have cc := cq.mono (S' := fun k => w.heap.size ≤ k) fun k _ e => by omega
   refine ⟨_, rfl, ⟨⟨_, _, _, us', rfl, ?_, ?_, HW.out.len, fun i u r hu hr => ?_, ?_⟩, notD_bnd HB.out, notD_well HW'.out⟩, HW.out.ext.trans (cc.below HW.out.ext.size (fun k e => e))⟩
   ·exact (OwnR.read HW.out.syms strC_size).chg cq fun g e e' => by subst e'; exact own_blk_ne HW.out.syms HW.out.res (by decide) e
   ·exact (OwnR.read HW.out.next (fun _ => rfl)).chg cq fun g e e' => by subst e'; exact own_blk_ne HW.out.next HW.out.res (by decide) e
   ·have k := HW.out.rows i u r hu hr
    exact (OwnR.read k (fun _ => rfl)).chg cq fun g e e' => by subst e'; exact own_blk_ne k HW.out.res (by decide) e
   ·exact (OwnR.read HW.out.fin (fun _ => rfl)).chg cq fun g e e' => by subst e'; exact own_blk_ne HW.out.fin HW.out.res (by decide) e
end Go.Proofs.YtngpjagpeblbjaaGreatDoor
namespace Go.Proofs.YtngpjagpeblbjaaGreatDoor
open Go.RowKit Go.Spy Go.Heaped Go.Tour Go.Rx
theorem fits_small {x : Int} (h1 : -1 ≤ x) (h2 : x < 1000000) : (Lit.int .i64 x).wf = true := by
 have e1 : IntKind.i64.min = -9223372036854775808 := by decide
 have e2 : IntKind.i64.max = 9223372036854775807 := by decide
 simp [Lit.wf, e1, e2]; omega
def zeroP : Pr := ⟨(0, 0), by decide⟩
def mkP (x y : Int) : Pr := if h : (Lit.int .i64 x).wf = true ∧ (Lit.int .i64 y).wf = true then ⟨(x, y), h⟩ else zeroP
theorem mkP_val {x y : Int} (hx : (Lit.int .i64 x).wf = true) (hy : (Lit.int .i64 y).wf = true) : (mkP x y).1 = (x, y) := by
 unfold mkP
 rw [dif_pos ⟨hx, hy⟩]
end Go.Proofs.YtngpjagpeblbjaaGreatDoor
namespace Go.Proofs.YtngpjagpeblbjaaGreatDoor
open Go.RowKit Go.Spy Go.Heaped Go.Tour Go.Rx
abbrev set3 (w : World) (b : Nat) (v0 v1 v2 : Value) : World := ((w.setCell ⟨b, 0, none⟩ v0).setCell ⟨b, 1, none⟩ v1).setCell ⟨b, 2, none⟩ v2
theorem chg3 (w : World) (b : Nat) (v0 v1 v2 : Value) : Chg (fun k => k = b) w (set3 w b v0 v1 v2) :=
 Chg.setCell (p := ⟨b, 2, none⟩) (S := fun k => k = b) (Chg.setCell (p := ⟨b, 1, none⟩) (S := fun k => k = b) (Chg.setCell (p := ⟨b, 0, none⟩) (S := fun k => k = b) (Chg.refl _ w) rfl v0) rfl v1) rfl v2
theorem blk3 {w : World} {b : Nat} {t : TypeId} {u0 u1 u2 : Value} (h : Blk w b t #[u0, u1, u2]) (v0 v1 v2 : Value) : Blk (set3 w b v0 v1 v2) b t #[v0, v1, v2] := ((h.set 0 v0).set 1 v1).set 2 v2
theorem ext3 {w0 w : World} {b : Nat} (h : Ext w0 w) (hb : w0.heap.size ≤ b) (v0 v1 v2 : Value) : Ext w0 (set3 w b v0 v1 v2) :=
 h.trans ((chg3 w b v0 v1 v2).below h.size (fun k e => by omega))
section
variable {A B : DA}
end
end Go.Proofs.YtngpjagpeblbjaaGreatDoor
namespace Go.Proofs.YtngpjagpeblbjaaGreatDoor
open Go.RowKit Go.Spy Go.Heaped Go.Tour Go.Rx
set_option maxRecDepth 100000 in
theorem none_nil (w : World) : Calls Tryz.prog 24 #[nilD] w fun e w' => e = .returned (.bool true) ∧ Ext w w' := by
 have HX : Hid (Ext w (w.alloc (.cells #[.slice none 0 0, .slice none 0 0, .slice none 0 0] 26))) := hid ((Below.refl _ _).alloc (Nat.le_refl _) _)
 go_enter Tryz.func24, Tryz.ntmps24
 go_wp2_with fail
 go_ret
 exact ⟨rfl, HX.out⟩
end Go.Proofs.YtngpjagpeblbjaaGreatDoor
namespace Go.Proofs.YtngpjagpeblbjaaGreatDoor
open Go.RowKit Go.Spy Go.Heaped Go.Tour Go.Rx
theorem len_map_bool {w : World} {b : Nat} {es : Array MapEntry} {clock : Nat} (hb : w.heap[b]? = some (.map es clock)) : (Builtin.len_ #[172] 3 #[.map (some b)]).run Tryz.prog w = .ok (.int .i64 (es.size : Nat)) w := by
 have h := run_len_map (P := Tryz.prog) (w := w) 172 3 b es clock (by kernel_rfl) hb
 exact h
theorem key_bool : KeyOk (κ := Bool) Tryz.prog 4 Value.bool := keyOk_bool Tryz.underlying4
section
variable {κ : Type} [DecidableEq κ]
omit [DecidableEq κ] in
theorem take_snoc {l : List κ} {i : Nat} {x : κ} (h : l[i]? = some x) : l.take (i + 1) = l.take i ++ [x] := by
 obtain ⟨hi, rfl⟩ := List.getElem?_eq_some_iff.1 h
 rw [List.take_succ_eq_append_getElem hi]
theorem cls_take_old {l : List κ} {i : Nat} {x : κ} (h : l[i]? = some x) (hx : x ∈ clsU (l.take i)) : clsU (l.take (i + 1)) = clsU (l.take i) ∧ cls (l.take (i + 1)) = cls (l.take i) ++ [(clsU (l.take i)).idxOf x] := by
 rw [take_snoc h]
 refine ⟨(cls_old hx).1, ?_⟩
 rw [cls_snoc, (cls_old hx).2]
theorem cls_take_new {l : List κ} {i : Nat} {x : κ} (h : l[i]? = some x) (hx : x ∉ clsU (l.take i)) : clsU (l.take (i + 1)) = clsU (l.take i) ++ [x] ∧ cls (l.take (i + 1)) = cls (l.take i) ++ [(clsU (l.take i)).length] := by
 rw [take_snoc h]
 refine ⟨(cls_new hx).1, ?_⟩
 rw [cls_snoc, (cls_new hx).2]
theorem mapB_len {κ : Type} {w : World} {b : Nat} {enc : κ → Value} {l : List (κ × Value)} (h : MapB w b enc l) : ∃ es clock, w.heap[b]? = some (.map es clock) ∧ es.size = l.length := by
 obtain ⟨es, c, h1, h2⟩ := h
 refine ⟨es, c, h1, ?_⟩
 have := congrArg List.length h2
 simpa using this
omit [DecidableEq κ] in
theorem entries_len {V : Type} (f : Nat → V) : ∀ (l : List κ) (i : Nat), (entries f i l).length = l.length
 | [], _ => rfl
 | _ :: l, i => by simp [entries, entries_len f l]
end
structure ClsW {κ : Type} (w wr : World) (bM : Nat) (enc : κ → Value) (vO : Value) (us : List κ) (os : List Nat) : Prop where
 ext : Ext w wr
 map : MapB wr bM enc (entries numV 0 us)
 own : OwnR wr w.heap.size 3 1 natA vO os
 ge : w.heap.size ≤ bM
def ClsPost (os : List Nat) (w : World) (e : Ending) (w' : World) : Prop := Ext w w' ∧ ∃ v, e = .returned v ∧ OwnR w' w.heap.size 3 1 natA v os
set_option maxRecDepth 100000 in
set_option maxHeartbeats 4000000 in
theorem classes_bool {w : World} {v : Value} {l : List Bool} (hV : ReadR w 1 boolC v l) (hl : l.length ≤ 1000) : Calls Tryz.prog 59 #[v] w (ClsPost (cls l) w) := by
 obtain ⟨ao, c, rfl, hg⟩ := hV.form
 obtain ⟨n, hn⟩ : ∃ n, n = l.length := ⟨_, rfl⟩
 have HV := hid hV
 rw [← hn] at hg hl HV ⊢
 have HG := hid hg
 have HN := hid hn
 have HPO : Hid (∀ (w' : World) (v' : Value), Ext w w' → OwnR w' w.heap.size 3 1 natA v' (cls l) → ClsPost (cls l) w (.returned v') w') := hid fun w' v' h1 h2 => ⟨h1, v', rfl, h2⟩
 obtain ⟨Q, hQ⟩ : ∃ Q, Q = ClsPost (cls l) w := ⟨_, rfl⟩
 rw [← hQ] at HPO ⊢
 clear hV hg hn hQ
 go_enter Tryz.func59, Tryz.ntmps59
 have hmm := @run_makeMap Tryz.prog
 go_wp2_with fail
 clear hmm
 go_loopg [4, 12] n (fun g vO u wr => ∃ i, g = n - i ∧ i ≤ n ∧ u = .int .i64 i ∧ Hid (ClsW w wr w.heap.size Value.bool vO (clsU (l.take i)) (cls (l.take i))))
 case atStart => exact ⟨0, rfl, Nat.zero_le _, rfl, hid ⟨(Below.refl _ _).alloc (Nat.le_refl _) _, MapB.new _ _, OwnR.nil _ _ _ _ _, Nat.le_refl _⟩⟩
 case round =>
  obtain ⟨i, rfl, hi, rfl, HW⟩ := hrel
  obtain ⟨vO, hvO⟩ : ∃ v, v = u4 := ⟨_, rfl⟩
  subst hvO
  by_cases hlt : i < n
  ·obtain ⟨g, o, rfl⟩ := HG.out (by omega)
   obtain ⟨x, hx⟩ : ∃ x, l[i]? = some x := ⟨_, List.getElem?_eq_getElem (by rw [← HN.out]; exact hlt)⟩
   have c1 : wr.cell? ⟨g, o + i, none⟩ = some (.bool x) := by
    have h := HV.out.ext HW.out.ext
    rw [HN.out] at h
    exact h.cell1 hx
   have HX := hid hx
   have hsz : w.heap.size ≤ wr.heap.size := HW.out.ext.size
   have hbl : w.heap.size < wr.heap.size := HW.out.map.lt
   have hln : (cls (l.take i)).length + 1 ≤ 1000000000 := by rw [cls_length, List.length_take]; omega
   obtain ⟨es, clock, hb, hes⟩ := mapB_len HW.out.map
   rw [entries_len] at hes
   have HES := hid hes
   clear hx hes
   by_cases hmem : x ∈ clsU (l.take i)
   ·obtain ⟨q, hq⟩ : ∃ n, n = @List.idxOf _ instBEqOfDecidableEq x (clsU (l.take i)) := ⟨_, rfl⟩
    have hlook : alook (entries numV 0 (clsU (l.take i))) x = some (.int .i64 q) := by rw [entries_look, if_pos hmem, Nat.zero_add, ← hq]; rfl
    have HLK := hid hlook
    have HQ := hid hq
    have HME := hid hmem
    have HOW := hid HW.out.own
    clear hlook hq hmem
    go_wp2_with (first
     | (with_reducible show wpList _ _ _ ((⟨_, Op.lookup _ _ _ _, _, _, _, _⟩ : Oper) :: _) _ _
        go_loud (refine wpList_lookupB rfl (.tmp 17) (.tmp 18) 172 rfl 4 3 Value.bool key_bool Tryz.underlying172 w.heap.size (entries numV 0 (clsU (l.take i))) rfl HW.out.map (.int .i64 0) zero_int x rfl (some (.int .i64 q)) HLK.out ?_))
     | (at_builtin
        go_loud (refine wpList_append_R elem_int (fun _ => rfl) ones_int HOW hsz hln q _ rfl wr.heap.size rfl rfl _ _ rfl rfl rfl ?_)
        rintro g' c' v' w7 rfl G1 G2))
    go_roundg (n - (i + 1))
    case measure => omega
    case rel =>
     obtain ⟨e1, e2⟩ := cls_take_old HX.out HME.out
     refine ⟨i + 1, rfl, by omega, by go_num, hid ⟨ext_grown HW.out.ext G2.out.1 (fun k e => (HOW.out.lt k e).1), ?_, ?_, HW.out.ge⟩⟩
     ·rw [e1]
      exact HW.out.map.grown G2.out.1 (fun e => by
       obtain ⟨_, hc⟩ := own_block HOW.out e.symm
       exact blk_map_ne hc HW.out.map rfl)
     ·rw [e2, ← HQ.out]; exact G1.out
   ·have hlook : alook (entries numV 0 (clsU (l.take i))) x = none := by rw [entries_look, if_neg hmem]
    have HLK := hid hlook
    have HME := hid hmem
    have hlm := len_map_bool hb
    clear hlook hmem
    go_wp2_with (first
     | (with_reducible show wpList _ _ _ ((⟨_, Op.lookup _ _ _ _, _, _, _, _⟩ : Oper) :: _) _ _
        go_loud (refine wpList_lookupB rfl (.tmp 17) (.tmp 18) 172 rfl 4 3 Value.bool key_bool Tryz.underlying172 w.heap.size (entries numV 0 (clsU (l.take i))) rfl HW.out.map (.int .i64 0) zero_int x rfl none HLK.out ?_))
     | (with_reducible show wpList _ _ _ ((⟨_, Op.mapUpdate _ _ _ _, _, _, _, _⟩ : Oper) :: _) _ _
        go_loud (refine wpList_mapUpdateB _ rfl (.tmp 26) (.tmp 27) (.tmp 28) 172 (.inl rfl) 4 3 Value.bool key_bool Tryz.underlying172 w.heap.size (entries numV 0 (clsU (l.take i))) rfl HW.out.map x (numV es.size) rfl rfl ?_)
        intro w6 hM6 hG6
        have HM6 := hid hM6
        have HG6 := hid hG6
        have hO6 : OwnR w6 w.heap.size 3 1 natA vO (cls (l.take i)) := HW.out.own.chg ((Chg.refl (fun k => k = w.heap.size) wr).grown hG6 (fun k e => by simpa using e.symm)) (fun k e e' => by
         obtain ⟨_, hc⟩ := own_block HW.out.own e
         exact blk_map_ne hc HW.out.map e')
        have HOW := hid hO6
        have HX6 : Hid (Ext w w6) := hid (ext_grown HW.out.ext hG6 (fun k e => by simp at e; omega))
        have hsz6 : w.heap.size ≤ w6.heap.size := HX6.out.size
        clear hM6 hG6 hO6 hb hlm)
     | (at_builtin
        go_loud (refine wpList_append_R elem_int (fun _ => rfl) ones_int HOW hsz6 hln es.size _ rfl w6.heap.size rfl rfl _ _ rfl rfl rfl ?_)
        rintro g' c' v' w7 rfl G1 G2))
    go_roundg (n - (i + 1))
    case measure => omega
    case rel =>
     obtain ⟨e1, e2⟩ := cls_take_new HX.out HME.out
     refine ⟨i + 1, rfl, by omega, by go_num, hid ⟨ext_grown HX6.out G2.out.1 (fun k e => (HOW.out.lt k e).1), ?_, ?_, HW.out.ge⟩⟩
     ·have h := HM6.out
      rw [aput_push HLK.out] at h
      rw [e1, entries_snoc, Nat.zero_add, ← HES.out]
      exact h.grown G2.out.1 (fun e => by
       obtain ⟨_, hc⟩ := own_block HOW.out e.symm
       exact blk_map_ne hc HM6.out rfl)
     ·rw [e2, ← HES.out]; exact G1.out
  ·obtain rfl : n = i := by omega
   go_wp2_with fail
   have h := HW.out.own
   rw [List.take_of_length_le (by rw [← HN.out]; exact Nat.le_refl _)] at h
   exact HPO.out wr vO HW.out.ext h
end Go.Proofs.YtngpjagpeblbjaaGreatDoor
