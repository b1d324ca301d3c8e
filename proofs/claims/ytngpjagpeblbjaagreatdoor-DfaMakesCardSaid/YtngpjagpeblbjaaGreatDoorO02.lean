/-
  Walk of Make where the expression or a word may not be.
  The tour through the pairs of states of two automata: what it tells, and that it ends.
  Walks of the laws' small helpers: none, Plain, ahead, same.
  Plain laws for the statements: Not and Within in words, rows ahead of rows.
  Plain law of Both: what it matches, and that it is an automaton that may be.
  What calls answer, in the form in which the laws' walks take it.
  Walks of the reference's same (of lists) and number.
  Plain law of the reference's First: pairs of states as lists of two numbers, gone through in order.
  Memory of the reference's First: the rows, and the pairs that have been seen.
  Plain law: a key that is new in a row of a tour: its words.
  Memory of the reference's automata of tours: the states in lists of numbers, the rows, what is final; the row under way.
  Walk of the reference's alike: of each state the least one that matches the same.
  Plain law of Make: its automaton matches what the expression matches.
  What Make, Symbols and Match answer, in the form in which the walk of DfaHolds takes it.
  Walk of the reference's Small: its automaton is the least one.
  What the laid table gives, and how an argument that is a regular expression, or a row of words, is opened.
-/
import Derived.StillTailTactics
import Derived.Deep.QuietTactic
import Derived.BigQuiet
import Derived.BigRegion
import Derived.IntWalk
import Derived.Sort.OwnSorted
import Derived.Sort.Grow
import Derived.Lib.OwnBridge
import Derived.Outline
import Derived.WalkSpells
import Derived.Lib.TrailingZeros
import Derived.Deep.Draws
import Derived.Laws.ResultCell
import Derived.Laws.CopyRow
import Derived.Laws.OwnMore
import Derived.WalkKit
import Derived.WalkLawsBesides
import Derived.Deep.LoopGhost
import Derived.Deep.DeepCutAuto
import Derived.Deep.RegionLaw
import Derived.Deep.CutBlock
import Derived.StillTail
import Derived.StillTactics
import Derived.OrdersHeld
import Derived.Deep.OwnRows
import Derived.Deep.AppendLies
import Derived.OwnWalk
import Derived.Shelf.Sort.Plain
import Derived.Shelf.Slices.Turned
import Derived.Ground.Names2Prog
import Derived.Shelf.Slices.ReverseS
import Derived.Shelf.Slices.Clone
import Derived.Shelf.Slices.CompactS
import Derived.Shelf.Slices.SearchI
import Derived.Shelf.Slices.Cells
import Derived.Shelf.Slices.In.SortNone
import Derived.Test.YtngpjagpeblbjaaGreatDoorProg
import Derived.Deep.Cut
import Derived.Recover
import Derived.Deep.RegionWith
import Derived.Test.YtngpjagpeblbjaaGreatDoorRows
import Derived.DeepKeys5
import Derived.Lib.SlicesCompact
import Derived.Lib.RowBridge
import Derived.Test.YtngpjagpeblbjaaGreatDoorO01
import Derived.ProofKit
import Derived.LaidMore
import Derived.OpenShut
import Derived.Stop.Joined
import Derived.Lib.SmallJoins
import Derived.Deep.SlicePairs
namespace Go.Proofs.YtngpjagpeblbjaaGreatDoor
open Go.RowKit Go.Spy Go.Heaped Go.Tour Go.Rx
abbrev nilD : Value := .agg #[.slice none 0 0, .slice none 0 0, .slice none 0 0]
def MakeBad (c : Int) (w : World) (e : Ending) (w' : World) : Prop := e = .returned (.tuple #[nilD, .int .i64 c]) ∧ Ext w w'
set_option maxRecDepth 100000 in
set_option maxHeartbeats 2000000 in
theorem make_ill {w : World} {l : List Nd} {ao : Option Addr} {cap : Nat} (hV : NodesV w ao l) {c : Int} (hC : CheckC l c) (h0 : c ≠ 0) {vM : Value} {more : List ByteArray} (hM : ReadR w 1 strC vM more) :
 Calls Tryz.prog 22 #[.agg #[.slice ao l.length cap], vM] w (MakeBad c w) := by
 obtain ⟨aoM, cM, rfl, -⟩ := hM.form
 have HCK : Hid (∀ W, Ext w W → Calls Tryz.prog 65 #[.agg #[.slice ao l.length cap]] W fun e w' => e = .returned (.int .i64 c) ∧ Ext W w') := hid fun W e => (check_any (hV.ext e) cap).mono fun e w' ⟨c', h1, h2, h3⟩ => by
  rw [checkC_one h2 hC] at h1
  exact ⟨h1, h3⟩
 have d0 : (c != 0) = true := by simp [h0]
 obtain ⟨ln, hln⟩ : ∃ n, n = l.length := ⟨_, rfl⟩
 rw [← hln] at HCK ⊢
 obtain ⟨mn, hmn⟩ : ∃ n, n = more.length := ⟨_, rfl⟩
 rw [← hmn]
 clear hV hC hM hln hmn
 go_enter Tryz.func22, Tryz.ntmps22
 go_wp2_with fail
 refine (HCK.out _ (((Below.refl _ _).alloc (Nat.le_refl _) _).alloc (by simp) _)).mono ?_
 rintro e w2 ⟨rfl, hx⟩
 have hE0 : Ext w ((w.alloc (.cells #[.slice ao ln cap] 45)).alloc (.cells #[.slice none 0 0, .slice none 0 0, .slice none 0 0] 26)) := ((Below.refl _ _).alloc (Nat.le_refl _) _).alloc (by simp) _
 have HX2 := hid (hE0.trans (hx.mono hE0.size))
 have hS2 : Blk w2 (w.heap.size + 1) 26 #[.slice none 0 0, .slice none 0 0, .slice none 0 0] := (Blk.new' (w.alloc (.cells #[.slice ao ln cap] 45)) 26 _ (by simp)).ext hx
 have r0 : w2.cell? ⟨w.heap.size + 1, 0, none⟩ = some (.slice none 0 0) := hS2.cell (i := 0) rfl
 have r1 : w2.cell? ⟨w.heap.size + 1, 1, none⟩ = some (.slice none 0 0) := hS2.cell (i := 1) rfl
 have r2 : w2.cell? ⟨w.heap.size + 1, 2, none⟩ = some (.slice none 0 0) := hS2.cell (i := 2) rfl
 have rf := hS2.frozen
 have rl := hS2.lt
 have HS2 := hid hS2
 clear hx hE0 hS2
 go_wp2_with fail
 have h3 : Blk (((w2.setCell ⟨w.heap.size + 1, 0, none⟩ (.slice none 0 0)).setCell ⟨w.heap.size + 1, 1, none⟩ (.slice none 0 0)).setCell ⟨w.heap.size + 1, 2, none⟩ (.slice none 0 0)) (w.heap.size + 1) 26 #[.slice none 0 0, .slice none 0 0, .slice none 0 0] := ((HS2.out.set 0 _).set 1 _).set 2 _
 refine bodyPost_ret (v := .tuple #[nilD, .int .i64 c]) (results_cell_agg_tmp Tryz.results22 _ _ (w.heap.size + 1) 26 #[.slice none 0 0, .slice none 0 0, .slice none 0 0] _ _ rfl rfl h3 Tryz.underlying26 rfl (by kernel_rfl)) rfl ?_
 have cc : Chg (fun k => w.heap.size ≤ k) w2 (((w2.setCell ⟨w.heap.size + 1, 0, none⟩ (.slice none 0 0)).setCell ⟨w.heap.size + 1, 1, none⟩ (.slice none 0 0)).setCell ⟨w.heap.size + 1, 2, none⟩ (.slice none 0 0)) :=
  Chg.mono (S := fun k => k = w.heap.size + 1) (Chg.setCell (p := ⟨w.heap.size + 1, 2, none⟩) (S := fun k => k = w.heap.size + 1) (Chg.setCell (p := ⟨w.heap.size + 1, 1, none⟩) (S := fun k => k = w.heap.size + 1) (Chg.setCell (p := ⟨w.heap.size + 1, 0, none⟩) (S := fun k => k = w.heap.size + 1) (Chg.refl _ w2) rfl (.slice none 0 0)) rfl (.slice none 0 0)) rfl (.slice none 0 0)) fun k _ e => by omega
 exact ⟨rfl, HX2.out.trans (cc.below HX2.out.size (fun k e => e))⟩
end Go.Proofs.YtngpjagpeblbjaaGreatDoor
namespace Go.Proofs.YtngpjagpeblbjaaGreatDoor
open Go.RowKit Go.Spy Go.Heaped Go.Tour Go.Rx
abbrev set3 (w : World) (b : Nat) (v0 v1 v2 : Value) : World := ((w.setCell ⟨b, 0, none⟩ v0).setCell ⟨b, 1, none⟩ v1).setCell ⟨b, 2, none⟩ v2
theorem chg3 (w : World) (b : Nat) (v0 v1 v2 : Value) : Chg (fun k => k = b) w (set3 w b v0 v1 v2) :=
 Chg.setCell (p := ⟨b, 2, none⟩) (S := fun k => k = b) (Chg.setCell (p := ⟨b, 1, none⟩) (S := fun k => k = b) (Chg.setCell (p := ⟨b, 0, none⟩) (S := fun k => k = b) (Chg.refl _ w) rfl v0) rfl v1) rfl v2
theorem blk3 {w : World} {b : Nat} {t : TypeId} {u0 u1 u2 : Value} (h : Blk w b t #[u0, u1, u2]) (v0 v1 v2 : Value) : Blk (set3 w b v0 v1 v2) b t #[v0, v1, v2] := ((h.set 0 v0).set 1 v1).set 2 v2
theorem ext3 {w0 w : World} {b : Nat} (h : Ext w0 w) (hb : w0.heap.size ≤ b) (v0 v1 v2 : Value) : Ext w0 (set3 w b v0 v1 v2) :=
 h.trans ((chg3 w b v0 v1 v2).below h.size (fun k e => by omega))
section
variable {A B : DA}
end
end Go.Proofs.YtngpjagpeblbjaaGreatDoor
namespace Go.Proofs.YtngpjagpeblbjaaGreatDoor
open Go.RowKit Go.Spy Go.Heaped Go.Tour Go.Rx
set_option maxRecDepth 100000 in
theorem none_nil (w : World) : Calls Tryz.prog 24 #[nilD] w fun e w' => e = .returned (.bool true) ∧ Ext w w' := by
 have HX : Hid (Ext w (w.alloc (.cells #[.slice none 0 0, .slice none 0 0, .slice none 0 0] 26))) := hid ((Below.refl _ _).alloc (Nat.le_refl _) _)
 go_enter Tryz.func24, Tryz.ntmps24
 go_wp2_with fail
 go_ret
 exact ⟨rfl, HX.out⟩
end Go.Proofs.YtngpjagpeblbjaaGreatDoor
namespace Go.Proofs.YtngpjagpeblbjaaGreatDoor
open Go.RowKit Go.Spy Go.Heaped Go.Tour Go.Rx
section
variable {D : DA}
end
theorem check8_any {w : World} {v : Value} {d : DR} (hD : DfaV w v d) (hB : BndD d) : Calls Tryz.prog 11 #[v] w (ErrP (checkE nameOk d) w) := by
 obtain ⟨vS, vN, vF, us, rfl, hP⟩ := hD
 exact dcheck_any hP hB
end Go.Proofs.YtngpjagpeblbjaaGreatDoor
namespace Go.Proofs.YtngpjagpeblbjaaGreatDoor
open Go.RowKit Go.Spy Go.Heaped Go.Tour Go.Rx
section
variable {A B : DA}
theorem raw_bnd {D : DA} (W : WellD nameOk D) (hs : D.syms.length ≤ 1000) (hb : ∀ s ∈ D.syms, s.size ≤ 1000000) : BndD D.raw := by
 have := W.most
 have := W.ok.fin
 refine ⟨hs, by simp [DF.raw]; omega, by show D.fin.length ≤ 1000; omega, fun r hr => ?_, hb⟩
 simp only [DF.raw, List.mem_map] at hr
 obtain ⟨r', h1, rfl⟩ := hr
 rw [List.length_map, W.ok.row r' h1]
 exact hs
end
end Go.Proofs.YtngpjagpeblbjaaGreatDoor
namespace Go.Proofs.YtngpjagpeblbjaaGreatDoor
open Go.RowKit Go.Spy Go.Heaped Go.Tour Go.Rx
section
variable {A B D : DA}
theorem lenD_of (W : OkD D) (hn : D.next.length ≤ 100000) (hs : D.syms.length ≤ 100000) (hb : ∀ s ∈ D.syms, s.size ≤ 1000000) : LenD D.raw := by
 have hf := W.fin
 refine ⟨mild_small hs hb, ?_, ?_, fun r hr => ?_⟩
 ·show (D.next.map _).length ≤ _
  rw [List.length_map]; omega
 ·show D.fin.length ≤ _
  omega
 ·simp only [DF.raw, List.mem_map] at hr
  obtain ⟨r', h1, rfl⟩ := hr
  rw [List.length_map, W.row r' h1]
  omega
theorem okD_raw (W : OkD D) : D.raw.fin.length = D.raw.next.length := by
 show D.fin.length = (D.next.map _).length
 rw [List.length_map, W.fin]
theorem DfaV.open_ {w : World} {v : Value} {d : DR} (h : DfaV w v d) : ∃ aoS n1 cS aoN n2 cN aoF n3 cF, v = .agg #[.slice aoS n1 cS, .slice aoN n2 cN, .slice aoF n3 cF] := by
 obtain ⟨vS, vN, vF, us, rfl, hP⟩ := h
 obtain ⟨aoS, cS, rfl, -⟩ := hP.syms.form
 obtain ⟨aoN, cN, rfl, -⟩ := hP.next.form
 obtain ⟨aoF, cF, rfl, -⟩ := hP.fin.form
 exact ⟨_, _, _, _, _, _, _, _, _, rfl⟩
end
end Go.Proofs.YtngpjagpeblbjaaGreatDoor
namespace Go.Proofs.YtngpjagpeblbjaaGreatDoor
open Go.RowKit Go.Spy Go.Heaped Go.Tour Go.Rx
set_option maxRecDepth 100000 in
set_option maxHeartbeats 1000000 in
theorem isame_any {w : World} {v1 v2 : Value} {us vs : List Int} (h1 : ReadR w 1 intZ v1 us) (h2 : ReadR w 1 intZ v2 vs) (hl : us.length ≤ 1000000000) : Calls Tryz.prog 118 #[v1, v2] w fun e w' => e = .returned (.bool (decide (us = vs))) ∧ Ext w w' := by
 obtain ⟨a1, c1, rfl, s1⟩ := h1.form
 obtain ⟨a2, c2, rfl, s2⟩ := h2.form
 obtain ⟨n, hn⟩ : ∃ n, n = us.length := ⟨_, rfl⟩
 obtain ⟨m, hm⟩ : ∃ n, n = vs.length := ⟨_, rfl⟩
 have H1 := hid h1
 have H2 := hid h2
 rw [← hn] at H1 s1 hl ⊢
 rw [← hm] at H2 s2 ⊢
 have HS1 := hid s1
 have HS2 := hid s2
 have HN := hid hn
 have HM := hid hm
 clear h1 h2 s1 s2 hn hm
 by_cases hnm : n = m
 rotate_left
 ·have t : ((n : Int) != (m : Int)) = true := by simp; omega
  have HNM := hid hnm
  clear hnm
  go_enter Tryz.func118, Tryz.ntmps118
  go_wp2_with fail
  go_ret
  refine ⟨ret_bool ?_, Below.refl _ _⟩
  symm
  refine decide_eq_false ?_
  rintro rfl
  exact HNM.out (HN.out.trans HM.out.symm)
 ·have HNM := hid hnm
  have t : ((n : Int) != (m : Int)) = false := by simp [hnm]
  clear hnm
  go_enter Tryz.func118, Tryz.ntmps118
  go_wp2_with fail
  go_loopg [5] n (fun g u wr => ∃ k, g = n - k ∧ k ≤ n ∧ u = .int .i64 k ∧ Hid (Ext w wr) ∧ Hid (∀ (i : Nat) (y z : Int), i < k → us[i]? = some y → vs[i]? = some z → y = z))
  case atStart => exact ⟨0, rfl, Nat.zero_le _, rfl, hid (Below.refl _ _), hid (fun j r s h => absurd h (Nat.not_lt_zero j))⟩
  case round =>
   obtain ⟨k, rfl, hk, rfl, HE, HA⟩ := hrel
   by_cases hlt : k < n
   ·have hlt2 : k < m := by rw [← HNM.out]; exact hlt
    obtain ⟨g1, o1, rfl⟩ := HS1.out (by omega)
    obtain ⟨g2, o2, rfl⟩ := HS2.out (by omega)
    obtain ⟨y, hy⟩ : ∃ y, us[k]? = some y := ⟨_, List.getElem?_eq_getElem (by rw [← HN.out]; exact hlt)⟩
    obtain ⟨z, hz⟩ : ∃ y, vs[k]? = some y := ⟨_, List.getElem?_eq_getElem (by rw [← HM.out]; exact hlt2)⟩
    have c5 : wr.cell? ⟨g1, o1 + k, none⟩ = some (.int .i64 y) := by
     have h := H1.out.ext HE.out
     rw [HN.out] at h
     exact h.cell1 hy
    have c6 : wr.cell? ⟨g2, o2 + k, none⟩ = some (.int .i64 z) := by
     have h := H2.out.ext HE.out
     rw [HM.out] at h
     exact h.cell1 hz
    have HY := hid hy
    have HZ := hid hz
    have i3 : (0 : Int) ≤ (k : Int) := by omega
    have i4 : (k : Int) < (n : Int) := by omega
    have i5 : (k : Int) < (m : Int) := by omega
    clear hy hz
    by_cases hyz : y = z
    ·have t : (y != z) = false := by simp [hyz]
     have HYZ := hid hyz
     clear hyz
     go_wp2_with fail
     go_quiet (fail)
     go_wp2_with fail
     go_roundg (n - (k + 1))
     case measure => omega
     case rel =>
      refine ⟨k + 1, rfl, by omega, by go_num, hid (ext_drewN HE.out _), hid fun i y' z' hi hy' hz' => ?_⟩
      by_cases e : i = k
      ·subst e
       rw [HY.out] at hy'; rw [HZ.out] at hz'
       cases hy'; cases hz'; exact HYZ.out
      ·exact HA.out i y' z' (by omega) hy' hz'
    ·have t : (y != z) = true := by simp [hyz]
     have HYZ := hid hyz
     clear hyz
     go_wp2_with fail
     go_quiet (fail)
     go_wp2_with fail
     go_ret
     refine ⟨ret_bool ?_, ext_drewN HE.out _⟩
     symm
     refine decide_eq_false ?_
     rintro rfl
     have := HY.out.symm.trans HZ.out
     cases this
     exact HYZ.out rfl
   ·obtain rfl : k = n := by omega
    have HRSE : Hid (us = vs) := hid (list_ext_at (by rw [← HN.out, ← HM.out]; exact HNM.out) fun i a b hi h1 h2 => HA.out i a b (by rw [HN.out]; exact hi) h1 h2)
    go_wp2_with fail
    go_ret
    refine ⟨ret_bool ?_, HE.out⟩
    exact (decide_eq_true HRSE.out).symm
def idxK {K : Type} [DecidableEq K] (l : List K) (x : K) : Nat := l.idxOf x
def KeysR (w : World) (us : List Value) (keys : List (List Int)) : Prop := us.length = keys.length ∧ ∀ (i : Nat) (u : Value) (x : List Int), us[i]? = some u → keys[i]? = some x → ReadR w 1 intZ u x
def Old (w : World) (v v' : Value) : Prop := ∀ g, v'.ownBlock = some g → v.ownBlock = some g ∨ w.heap.size ≤ g
def NumberPost (base : Nat) (v vx : Value) (us : List Value) (keys : List (List Int)) (x : List Int) (w : World) (e : Ending) (w' : World) : Prop :=
 (x ∈ keys ∧ e = .returned (.tuple #[.int .i64 (idxK keys x : Nat), v]) ∧ Ext w w') ∨
 (x ∉ keys ∧ ∃ v', e = .returned (.tuple #[.int .i64 (keys.length : Nat), v']) ∧ OwnR w' base 46 1 oneA v' (us ++ [vx]) ∧ Chg (fun k => v.ownBlock = some k) w w' ∧ Old w v v')
set_option maxRecDepth 100000 in
set_option maxHeartbeats 1000000 in
theorem number_any {w : World} {base : Nat} {v vx : Value} {us : List Value} {keys : List (List Int)} {x : List Int} (hO : OwnR w base 46 1 oneA v us) (hb : base ≤ w.heap.size) (hK : KeysR w us keys) (hN : keys.Nodup) (hx : ReadR w 1 intZ vx x) (hl : us.length ≤ 1000000) (hks : ∀ y ∈ keys, y.length ≤ 1000) :
 Calls Tryz.prog 91 #[v, vx] w (NumberPost base v vx us keys x w) := by
 obtain ⟨ao, c, rfl, hc⟩ := (OwnR.read hO (fun _ => rfl)).form
 obtain ⟨ax, cx, rfl, -⟩ := hx.form
 obtain ⟨m, hm⟩ : ∃ n, n = x.length := ⟨_, rfl⟩
 rw [← hm] at hx ⊢
 clear hm
 obtain ⟨n, hn⟩ : ∃ n, n = us.length := ⟨_, rfl⟩
 have HO := hid hO
 rw [← hn] at HO hl hc ⊢
 have HC := hid hc
 have HN := hid hn
 have HK := hid hK
 have HND := hid hN
 have HX := hid hx
 have HKS := hid hks
 clear hO hK hN hx hn hc hks
 go_enter Tryz.func91, Tryz.ntmps91
 go_wp2_with fail
 go_loopg [6] n (fun g u wr => ∃ k, g = n - k ∧ k ≤ n ∧ u = .int .i64 k ∧ Hid (Ext w wr) ∧ Hid (∀ (i : Nat) (y : List Int), i < k → keys[i]? = some y → y ≠ x))
 case atStart => exact ⟨0, rfl, Nat.zero_le _, rfl, hid (Below.refl _ _), hid (fun j s h => absurd h (Nat.not_lt_zero j))⟩
 case round =>
  obtain ⟨k, rfl, hk, rfl, HE, HA⟩ := hrel
  by_cases hlt : k < n
  ·obtain ⟨g, o, rfl⟩ := HC.out (by omega)
   obtain ⟨u, hu⟩ : ∃ s, us[k]? = some s := ⟨_, List.getElem?_eq_getElem (by rw [← HN.out]; exact hlt)⟩
   obtain ⟨y, hy⟩ : ∃ s, keys[k]? = some s := ⟨_, List.getElem?_eq_getElem (by rw [← HK.out.1, ← HN.out]; exact hlt)⟩
   have hru := (HK.out.2 k u y hu hy).ext HE.out
   obtain ⟨ao2, c2, rfl, -⟩ := hru.form
   obtain ⟨m2, hm2⟩ : ∃ n, n = y.length := ⟨_, rfl⟩
   rw [← hm2] at hu hru
   have c1 : wr.cell? ⟨g, o + k, none⟩ = some (.slice ao2 m2 c2) := by
    have h := (OwnR.read HO.out (fun _ => rfl)).ext HE.out
    rw [HN.out] at h
    exact h.cell1 hu
   have hyl := HKS.out y (List.mem_of_getElem? hy)
   have HC1 := hid (isame_any hru (HX.out.ext HE.out) (by omega))
   have HY := hid hy
   clear hu hru hyl hy hm2
   obtain ⟨b, hb⟩ : ∃ b, b = decide (y = x) := ⟨_, rfl⟩
   rw [← hb] at HC1
   have HBB := hid hb
   clear hb
   go_wp2_with fail
   refine HC1.out.mono ?_
   rintro e w2 ⟨rfl, hx2⟩
   have HX2 := hid (HE.out.trans (hx2.mono HE.out.size))
   clear hx2 c1 HC1
   cases b with
   | true =>
     have HYX : Hid (y = x) := hid (of_decide_eq_true HBB.out.symm)
     go_wp2_with fail
     go_ret2
     refine .inl ⟨?_, ?_, HX2.out⟩
     ·have h := HY.out
      rw [HYX.out] at h
      exact List.mem_of_getElem? h
     ·have h := HY.out
      rw [HYX.out] at h
      have e : idxK keys x = k := idx_of_get HND.out h
      rw [e]
      rfl
   | false =>
     go_wp2_with fail
     go_roundg (n - (k + 1))
     case measure => omega
     case rel =>
      refine ⟨k + 1, rfl, by omega, by go_num, HX2, hid fun i y' hi hy' => ?_⟩
      by_cases e : i = k
      ·subst e
       rw [HY.out] at hy'
       cases hy'
       exact of_decide_eq_false HBB.out.symm
      ·exact HA.out i y' (by omega) hy'
  ·obtain rfl : k = n := by omega
   have HNO : Hid (x ∉ keys) := hid fun h => by
    obtain ⟨i, hi⟩ := List.getElem?_of_mem h
    exact HA.out i x (by have := (List.getElem?_eq_some_iff.1 hi).1; rw [HN.out, HK.out.1]; exact this) hi rfl
   have HO1 := hid (HO.out.ext HE.out)
   have hsz : base ≤ wr.heap.size := Nat.le_trans hb HE.out.size
   have hln : us.length + 1 ≤ 1000000000 := by rw [← HN.out]; omega
   go_wp2_with (with_reducible refine onOp 26 ?_
                go_loud (refine wpList_append_R elem_row (fun _ => rfl) ones_row HO1 hsz hln (.slice ax m cx) _ rfl wr.heap.size rfl rfl _ _ rfl rfl rfl ?_)
                rintro g' cap' v' w4 rfl G1 G2)
   go_ret2
   refine .inr ⟨HNO.out, _, ?_, G1.out, ?_, fun q hq => ?_⟩
   ·rw [← HK.out.1, ← HN.out]
    rfl
   ·have h0 : Chg (fun q => Value.ownBlock (.slice ao k c) = some q) w wr := (Chg.of_ext HE.out).mono (S := fun _ => False) (fun _ _ h => False.elim h)
    exact h0.grown G2.out.1 (fun k e => e)
   ·obtain rfl : g' = q := by cases hq; rfl
    rcases G2.out.2 with h | h
    ·exact .inl h
    ·exact .inr (Nat.le_trans HE.out.size h)
end Go.Proofs.YtngpjagpeblbjaaGreatDoor
namespace Go.Tour
variable {K : Type} [DecidableEq K] {δ : K → Nat → K} {m : Nat} {first : K} {keys keys' : List K} {fr fr' : List (Nat × Nat)} {b b' : Nat × Nat}
end Go.Tour
namespace Go.Proofs.YtngpjagpeblbjaaGreatDoor
open Go.RowKit Go.Spy Go.Heaped Go.Tour Go.Rx
abbrev PI := Int × Int
section
variable {A B : DA} {qs : Int → ByteArray → Int} {ot : Int → Bool} {m : Nat}
end
end Go.Proofs.YtngpjagpeblbjaaGreatDoor
namespace Go.Proofs.YtngpjagpeblbjaaGreatDoor
open Go.RowKit Go.Spy Go.Heaped Go.Tour Go.Rx
theorem own_lit {α : Type} {w : World} {g base n : Nat} {e : TypeId} {s : Nat} {f : α → Array Value} {A : Array Value} {l : List α} (hb : Blk w g e A) (hg : base ≤ g) (hA : A.toList = l.flatMap fun x => (f x).toList) (hn : n = l.length) (hs : A.size = n * s) (hm : n ≤ 1000) : OwnR w base e s f (.slice (some ⟨g, 0, none⟩) n n) l := by
 subst hn
 have hl : (l.flatMap fun x => (f x).toList).length = l.length * s := by rw [← hA, Array.length_toList, hs]
 refine ⟨hl, .inr ⟨g, l.length, A, rfl, hg, hb, Nat.le_refl _, by unfold maxLen; omega, hs, ?_⟩⟩
 rw [← hs, ← hA]
 exact List.take_of_length_le (by simp)
section
variable {w w' : World} {base : Nat} {vR vS : Value} {rows : List (Value × PI)} {us : List Value} {syms : List ByteArray} {keys : List PI} {fr : List (Nat × Nat)}
end
end Go.Proofs.YtngpjagpeblbjaaGreatDoor
namespace Go.Tour
section
variable {K : Type} [DecidableEq K]
theorem vis1_len (r : Nat) (s : St K) (k : K) (j : Nat) : (vis1 r s k j).keys.length ≤ s.keys.length + 1 := by
 unfold vis1
 split
 ·exact Nat.le_succ _
 ·simp
theorem visN_len (r : Nat) (s : St K) (l : List K) : ∀ j, (visN r s l j).keys.length ≤ s.keys.length + j
 | 0 => Nat.le_refl _
 | j + 1 => by
   have ih := visN_len r s l j
   unfold visN
   split
   ·have := vis1_len r (visN r s l j) ‹K› j
    omega
   ·omega
variable {δ : K → Nat → K} {m : Nat} {first : K} {keys : List K} {fr : List (Nat × Nat)} {i j : Nat}
end
end Go.Tour
namespace Go.Proofs.YtngpjagpeblbjaaGreatDoor
open Go.RowKit Go.Spy Go.Heaped Go.Tour Go.Rx
theorem ext_chg {w0 w w' : World} {S : Nat → Prop} (e : Ext w0 w) (c : Chg S w w') (hS : ∀ k, S k → w0.heap.size ≤ k) : Ext w0 w' :=
 e.trans ((c.mono (S' := fun k => w0.heap.size ≤ k) fun k _ h => hS k h).below e.size (fun _ h => h))
theorem snoc_at {α β : Type} {l : List α} {m : List β} (hl : l.length = m.length) {a : α} {b : β} {n : Nat} {x : α} {y : β} (h1 : (l ++ [a])[n]? = some x) (h2 : (m ++ [b])[n]? = some y) : (l[n]? = some x ∧ m[n]? = some y) ∨ (x = a ∧ y = b) := by
 rcases Nat.lt_trichotomy n l.length with hn | hn | hn
 ·rw [List.getElem?_append_left hn] at h1
  rw [List.getElem?_append_left (by omega)] at h2
  exact .inl ⟨h1, h2⟩
 ·subst hn
  rw [List.getElem?_append_right (Nat.le_refl _), Nat.sub_self] at h1
  rw [hl, List.getElem?_append_right (Nat.le_refl _), Nat.sub_self] at h2
  cases h1; cases h2
  exact .inr ⟨rfl, rfl⟩
 ·have := (List.getElem?_eq_some_iff.1 h1).1
  simp at this
  omega
end Go.Proofs.YtngpjagpeblbjaaGreatDoor
namespace Go.Proofs.YtngpjagpeblbjaaGreatDoor
open Go.RowKit Go.Spy Go.Heaped Go.Tour Go.Rx
def Ap (v v' : Value) : Prop := ∀ k, v.ownBlock = some k → v'.ownBlock = some k → False
theorem Ap.old {α : Type} {w : World} {base e s : Nat} {f : α → Array Value} {v v' u : Value} {l : List α} (h : Ap v u) (o : Old w v v') (hu : OwnR w base e s f u l) : Ap v' u := fun k h1 h2 => by
 rcases o k h1 with h3 | h3
 ·exact h k h3 h2
 ·have := (hu.lt k h2).2
  omega
theorem Ap.symm {v u : Value} (h : Ap v u) : Ap u v := fun k h1 h2 => h k h2 h1
theorem Ap.nil (v : Value) : Ap v (.slice none 0 0) := fun _ _ h => by cases h
section
variable {K : Type} {φ : K → List Int}
structure SeenK (φ : K → List Int) (w : World) (base : Nat) (vS : Value) (us : List Value) (keys : List K) : Prop where
 own : OwnR w base 46 1 oneA vS us
 len : us.length = keys.length
 key : ∀ (n : Nat) (u : Value) (p : K), us[n]? = some u → keys[n]? = some p → OwnR w base 3 1 intZ u (φ p)
structure RowsK (w : World) (base : Nat) (vN : Value) (rs : List Value) (nx : List (List Nat)) : Prop where
 own : OwnR w base 46 1 oneA vN rs
 len : rs.length = nx.length
 row : ∀ (n : Nat) (r : Value) (x : List Nat), rs[n]? = some r → nx[n]? = some x → OwnR w base 3 1 natA r x
theorem SeenK.ext {w w' : World} {base : Nat} {vS : Value} {us : List Value} {keys : List K} (h : SeenK φ w base vS us keys) (e : Ext w w') : SeenK φ w' base vS us keys := ⟨h.own.ext e, h.len, fun n u p h1 h2 => (h.key n u p h1 h2).ext e⟩
theorem RowsK.ext {w w' : World} {base : Nat} {vN : Value} {rs : List Value} {nx : List (List Nat)} (h : RowsK w base vN rs nx) (e : Ext w w') : RowsK w' base vN rs nx := ⟨h.own.ext e, h.len, fun n u p h1 h2 => (h.row n u p h1 h2).ext e⟩
theorem SeenK.keysR {w : World} {base : Nat} {vS : Value} {us : List Value} {keys : List K} (h : SeenK φ w base vS us keys) : KeysR w us (keys.map φ) := by
 refine ⟨by rw [List.length_map]; exact h.len, fun i u x h1 h2 => ?_⟩
 rw [List.getElem?_map, Option.map_eq_some_iff] at h2
 obtain ⟨p, hp, rfl⟩ := h2
 exact OwnR.read (h.key i u p h1 hp) (fun _ => rfl)
theorem SeenK.at_ {w : World} {base : Nat} {vS : Value} {us : List Value} {keys : List K} (h : SeenK φ w base vS us keys) {n : Nat} {u : Value} (hu : us[n]? = some u) : ∃ p, OwnR w base 3 1 intZ u (φ p) := by
 obtain ⟨p, hp⟩ : ∃ p, keys[n]? = some p := ⟨_, List.getElem?_eq_getElem (by rw [← h.len]; exact (List.getElem?_eq_some_iff.1 hu).1)⟩
 exact ⟨p, h.key n u p hu hp⟩
theorem RowsK.at_ {w : World} {base : Nat} {vN : Value} {rs : List Value} {nx : List (List Nat)} (h : RowsK w base vN rs nx) {n : Nat} {u : Value} (hu : rs[n]? = some u) : ∃ p, OwnR w base 3 1 natA u p := by
 obtain ⟨p, hp⟩ : ∃ p, nx[n]? = some p := ⟨_, List.getElem?_eq_getElem (by rw [← h.len]; exact (List.getElem?_eq_some_iff.1 hu).1)⟩
 exact ⟨p, h.row n u p hu hp⟩
structure RefW (φ : K → List Int) (w wr : World) (bD : Nat) (vY vS vN vF vX : Value) (us rs : List Value) (keys : List K) (nx : List (List Nat)) (fs : List Bool) (gs : List Nat) : Prop where
 ext : Ext w wr
 low : w.heap.size ≤ bD
 box : Blk wr bD 40 #[vY, vN, vF]
 seen : SeenK φ wr w.heap.size vS us keys
 rows : RowsK wr w.heap.size vN rs nx
 fins : OwnR wr w.heap.size 4 1 boolC vF fs
 now : OwnR wr w.heap.size 3 1 natA vX gs
 ap1 : Ap vS vN
 ap2 : ∀ u ∈ us, Ap u vX
 ap3 : ∀ r ∈ rs, Ap r vX
variable {w wr wy : World} {bD : Nat} {vY vS vN vF vX : Value} {us rs : List Value} {keys : List K} {nx : List (List Nat)} {fs : List Bool} {gs : List Nat}
theorem RefW.ext' (h : RefW φ w wr bD vY vS vN vF vX us rs keys nx fs gs) (e : Ext wr wy) : RefW φ w wy bD vY vS vN vF vX us rs keys nx fs gs :=
 ⟨h.ext.trans (e.mono h.ext.size), h.low, h.box.ext e, h.seen.ext e, h.rows.ext e, h.fins.ext e, h.now.ext e, h.ap1, h.ap2, h.ap3⟩
theorem RefW.new (h : RefW φ w wr bD vY vS vN vF vX us rs keys nx fs gs) {v' u' : Value} {p : K} (o : OwnR wy w.heap.size 46 1 oneA v' (us ++ [u'])) (c : Chg (fun k => vS.ownBlock = some k) wr wy) (ho : Old wr vS v') (k : OwnR wr w.heap.size 3 1 intZ u' (φ p)) (ha : Ap u' vX) :
 RefW φ w wy bD vY v' vN vF vX (us ++ [u']) rs (keys ++ [p]) nx fs gs := by
 refine ⟨ext_chg h.ext c (fun k e => (h.seen.own.lt k e).1), h.low, h.box.chg c (own_blk_ne h.seen.own h.box (by decide)), ⟨o, by simp [h.seen.len], fun n u q h1 h2 => ?_⟩, ⟨h.rows.own.chg c fun k e e' => h.ap1 k e' e, h.rows.len, fun n r x h1 h2 => ?_⟩, h.fins.chg c fun k e e' => own_apart h.fins h.seen.own (by decide) k e e', h.now.chg c fun k e e' => own_apart h.now h.seen.own (by decide) k e e', h.ap1.old ho h.rows.own, fun u hu => ?_, h.ap3⟩
 ·rcases snoc_at h.seen.len h1 h2 with ⟨h1, h2⟩ | ⟨rfl, rfl⟩
  ·exact (h.seen.key n u q h1 h2).chg c fun k e e' => own_apart (h.seen.key n u q h1 h2) h.seen.own (by decide) k e e'
  ·exact k.chg c fun g e e' => own_apart k h.seen.own (by decide) g e e'
 ·exact (h.rows.row n r x h1 h2).chg c fun k e e' => own_apart (h.rows.row n r x h1 h2) h.seen.own (by decide) k e e'
 ·rcases List.mem_append.1 hu with hu | hu
  ·exact h.ap2 u hu
  ·rw [List.mem_singleton.1 hu]; exact ha
theorem RefW.put (h : RefW φ w wr bD vY vS vN vF vX us rs keys nx fs gs) {v' : Value} {g : Nat} (o : OwnR wy w.heap.size 3 1 natA v' (gs ++ [g])) (c : Chg (fun k => vX.ownBlock = some k) wr wy) (ho : Old wr vX v') :
 RefW φ w wy bD vY vS vN vF v' us rs keys nx fs (gs ++ [g]) := by
 refine ⟨ext_chg h.ext c (fun k e => (h.now.lt k e).1), h.low, h.box.chg c (own_blk_ne h.now h.box (by decide)), ⟨h.seen.own.chg c fun k e e' => own_apart h.seen.own h.now (by decide) k e e', h.seen.len, fun n u q h1 h2 => ?_⟩, ⟨h.rows.own.chg c fun k e e' => own_apart h.rows.own h.now (by decide) k e e', h.rows.len, fun n r x h1 h2 => ?_⟩, h.fins.chg c fun k e e' => own_apart h.fins h.now (by decide) k e e', o, h.ap1, fun u hu => ?_, fun r hr => ?_⟩
 ·exact (h.seen.key n u q h1 h2).chg c fun k e e' => h.ap2 u (List.mem_of_getElem? h1) k e e'
 ·exact (h.rows.row n r x h1 h2).chg c fun k e e' => h.ap3 r (List.mem_of_getElem? h1) k e e'
 ·obtain ⟨n, hn⟩ := List.getElem?_of_mem hu
  obtain ⟨p, hp⟩ := h.seen.at_ hn
  exact (Ap.old (h.ap2 u hu).symm ho hp).symm
 ·obtain ⟨n, hn⟩ := List.getElem?_of_mem hr
  obtain ⟨p, hp⟩ := h.rows.at_ hn
  exact (Ap.old (h.ap3 r hr).symm ho hp).symm
theorem RefW.row1 (h : RefW φ w wr bD vY vS vN vF vX us rs keys nx fs gs) {v' : Value} (o : OwnR wy w.heap.size 46 1 oneA v' (rs ++ [vX])) (c : Chg (fun k => vN.ownBlock = some k) wr wy) (ho : Old wr vN v') :
 (Ext w wy ∧ Blk wy bD 40 #[vY, vN, vF]) ∧ RefW φ w (wy.setCell ⟨bD, 1, none⟩ v') bD vY vS v' vF (.slice none 0 0) us (rs ++ [vX]) keys (nx ++ [gs]) fs [] := by
 have e6 : Ext w wy := ext_chg h.ext c (fun k e => (h.rows.own.lt k e).1)
 have b6 : Blk wy bD 40 #[vY, vN, vF] := h.box.chg c (own_blk_ne h.rows.own h.box (by decide))
 have c7 : Chg (fun k => k = bD) wy (wy.setCell ⟨bD, 1, none⟩ v') := (Chg.refl (fun k => k = bD) wy).setCell (p := ⟨bD, 1, none⟩) rfl v'
 have nb : ∀ {α : Type} {base e s : Nat} {f : α → Array Value} {v : Value} {l : List α}, OwnR wy base e s f v l → e ≠ 40 → OwnR (wy.setCell ⟨bD, 1, none⟩ v') base e s f v l := fun h0 he => h0.chg c7 (fun k e e' => own_blk_ne h0 b6 he (e' ▸ e))
 refine ⟨⟨e6, b6⟩, ext_chg e6 c7 (fun k e => e ▸ h.low), h.low, b6.set 1 v', ⟨nb (h.seen.own.chg c fun k e e' => h.ap1 k e e') (by decide), h.seen.len, fun n u q h1 h2 => ?_⟩, ⟨nb o (by decide), by simp [h.rows.len], fun n r x h1 h2 => ?_⟩, nb (h.fins.chg c fun k e e' => own_apart h.fins h.rows.own (by decide) k e e') (by decide), OwnR.nil _ _ _ _ _, ?_, fun u _ => Ap.nil u, fun u _ => Ap.nil u⟩
 ·exact nb ((h.seen.key n u q h1 h2).chg c fun k e e' => own_apart (h.seen.key n u q h1 h2) h.rows.own (by decide) k e e') (by decide)
 ·rcases snoc_at h.rows.len h1 h2 with ⟨h1, h2⟩ | ⟨rfl, rfl⟩
  ·exact nb ((h.rows.row n r x h1 h2).chg c fun k e e' => own_apart (h.rows.row n r x h1 h2) h.rows.own (by decide) k e e') (by decide)
  ·exact nb (h.now.chg c fun g e e' => own_apart h.now h.rows.own (by decide) g e e') (by decide)
 ·exact (Ap.old h.ap1.symm ho h.seen.own).symm
theorem RefW.row2 (h : RefW φ w wr bD vY vS vN vF vX us rs keys nx fs gs) {v' : Value} {b : Bool} (o : OwnR wy w.heap.size 4 1 boolC v' (fs ++ [b])) (c : Chg (fun k => vF.ownBlock = some k) wr wy) :
 (Ext w wy ∧ Blk wy bD 40 #[vY, vN, vF]) ∧ RefW φ w (wy.setCell ⟨bD, 2, none⟩ v') bD vY vS vN v' vX us rs keys nx (fs ++ [b]) gs := by
 have e6 : Ext w wy := ext_chg h.ext c (fun k e => (h.fins.lt k e).1)
 have b6 : Blk wy bD 40 #[vY, vN, vF] := h.box.chg c (own_blk_ne h.fins h.box (by decide))
 have c7 : Chg (fun k => k = bD) wy (wy.setCell ⟨bD, 2, none⟩ v') := (Chg.refl (fun k => k = bD) wy).setCell (p := ⟨bD, 2, none⟩) rfl v'
 have nb : ∀ {α : Type} {base e s : Nat} {f : α → Array Value} {v : Value} {l : List α}, OwnR wy base e s f v l → e ≠ 40 → OwnR (wy.setCell ⟨bD, 2, none⟩ v') base e s f v l := fun h0 he => h0.chg c7 (fun k e e' => own_blk_ne h0 b6 he (e' ▸ e))
 have nf : ∀ {α : Type} {base e s : Nat} {f : α → Array Value} {v : Value} {l : List α}, OwnR wr base e s f v l → e ≠ 4 → OwnR wy base e s f v l := fun h0 he => h0.chg c fun k e e' => own_apart h0 h.fins he k e e'
 exact ⟨⟨e6, b6⟩, ext_chg e6 c7 (fun k e => e ▸ h.low), h.low, b6.set 2 v', ⟨nb (nf h.seen.own (by decide)) (by decide), h.seen.len, fun n u q h1 h2 => nb (nf (h.seen.key n u q h1 h2) (by decide)) (by decide)⟩, ⟨nb (nf h.rows.own (by decide)) (by decide), h.rows.len, fun n r x h1 h2 => nb (nf (h.rows.row n r x h1 h2) (by decide)) (by decide)⟩, nb o (by decide), nb (nf h.now (by decide)) (by decide), h.ap1, h.ap2, h.ap3⟩
theorem RefW.start (wB : World) (vY : Value) {p : K} {A : Array Value} {n : Nat} (hA : A.toList = (φ p).flatMap fun x => (intZ x).toList) (hn : n = (φ p).length) (hs : A.size = n * 1) (hm : n ≤ 1000) :
 RefW φ wB (((wB.alloc (.cells #[vY, .slice none 0 0, .slice none 0 0] 40)).alloc (.cells A 3)).alloc (.cells #[.slice (some ⟨wB.heap.size + 1, 0, none⟩) n n] 46)) wB.heap.size vY (.slice (some ⟨wB.heap.size + 1 + 1, 0, none⟩) 1 1) (.slice none 0 0) (.slice none 0 0) (.slice none 0 0) [.slice (some ⟨wB.heap.size + 1, 0, none⟩) n n] [] [p] [] [] [] := by
 have hS : OwnR (((wB.alloc (.cells #[vY, .slice none 0 0, .slice none 0 0] 40)).alloc (.cells A 3)).alloc (.cells #[.slice (some ⟨wB.heap.size + 1, 0, none⟩) n n] 46)) wB.heap.size 46 1 oneA (.slice (some ⟨wB.heap.size + 1 + 1, 0, none⟩) 1 1) [.slice (some ⟨wB.heap.size + 1, 0, none⟩) n n] :=
  own_lit (Blk.new' _ _ _ (by simp)) (by omega) rfl rfl rfl (by decide)
 have hK : OwnR (((wB.alloc (.cells #[vY, .slice none 0 0, .slice none 0 0] 40)).alloc (.cells A 3)).alloc (.cells #[.slice (some ⟨wB.heap.size + 1, 0, none⟩) n n] 46)) wB.heap.size 3 1 intZ (.slice (some ⟨wB.heap.size + 1, 0, none⟩) n n) (φ p) :=
  own_lit ((Blk.new' _ _ _ (by simp)).alloc _) (by omega) hA hn hs hm
 refine ⟨((((Below.refl _ _).alloc (Nat.le_refl _) _).alloc (by simp) _).alloc (by simp; omega) _), Nat.le_refl _, ((Blk.new _ _ _).alloc _).alloc _, ⟨hS, rfl, fun m u q hu hq => ?_⟩, ⟨OwnR.nil _ _ _ _ _, rfl, fun m r x h => (by cases h)⟩, OwnR.nil _ _ _ _ _, OwnR.nil _ _ _ _ _, Ap.nil _, fun u _ => Ap.nil u, fun r h => (by cases h)⟩
 have h0 : m = 0 := by have := (List.getElem?_eq_some_iff.1 hu).1; simp at this; exact this
 subst h0
 cases hu; cases hq
 exact hK
theorem RefW.dfa (h : RefW φ w wr bD vY vS vN vF vX us rs keys nx fs gs) {q : Nat} (c : Chg (fun k => k = q) wr wy) (hq : q < w.heap.size) {syms : List ByteArray} (hY : ReadR wy 1 strC vY syms) : DfaP wy vY vN vF rs (DF.raw ⟨syms, nx, fs⟩) := by
 refine ⟨hY, (OwnR.read h.rows.own (fun _ => rfl)).chg c fun g e e' => ?_, ?_, fun i u r hu hr => ?_, (OwnR.read h.fins (fun _ => rfl)).chg c fun g e e' => ?_⟩
 ·have := (h.rows.own.lt g e).1; omega
 ·show rs.length = (nx.map _).length
  rw [List.length_map]; exact h.rows.len
 ·have hr : (nx.map (·.map Int.ofNat))[i]? = some r := hr
  rw [List.getElem?_map, Option.map_eq_some_iff] at hr
  obtain ⟨r', hr', rfl⟩ := hr
  have h1 := h.rows.row i u r' hu hr'
  exact nat_int.1 ((OwnR.read h1 (fun _ => rfl)).chg c fun g e e' => by have := (h1.lt g e).1; omega)
 ·have := (h.fins.lt g e).1; omega
theorem RefW.seenF (h : RefW φ w wr bD vY vS vN vF vX us rs keys nx fs gs) (c : Chg (fun k => vF.ownBlock = some k) wr wy) : SeenK φ wy w.heap.size vS us keys :=
 ⟨h.seen.own.chg c fun k e e' => own_apart h.seen.own h.fins (by decide) k e e', h.seen.len, fun n u q h1 h2 => (h.seen.key n u q h1 h2).chg c fun k e e' => own_apart (h.seen.key n u q h1 h2) h.fins (by decide) k e e'⟩
end
end Go.Proofs.YtngpjagpeblbjaaGreatDoor
namespace Go.Proofs.YtngpjagpeblbjaaGreatDoor
open Go.RowKit Go.Spy Go.Heaped Go.Tour Go.Rx
theorem ext_drew1 (w : World) : Ext w w.drew := (Below.refl w.heap.size w).drew
end Go.Proofs.YtngpjagpeblbjaaGreatDoor
namespace Go.Proofs.YtngpjagpeblbjaaGreatDoor
open Go.RowKit Go.Spy Go.Heaped Go.Tour Go.Rx
section
variable {l : List Nd}
theorem pos_sym (F : Rx.Form l) {i p : Nat} (h : p ∈ posT (tr l i)) : ∃ n, l[p]? = some n ∧ n.op = 2 := by
 induction i using Nat.strongRecOn with
 | _ i ih =>
 cases hn : l[i]? with
 | none => rw [tr, hn] at h; cases h
 | some n =>
   cases F.kind hn with
   | none ho => rw [tr_none hn ho] at h; cases h
   | empty ho => rw [tr_empty hn ho] at h; cases h
   | sym ho =>
     rw [tr_sym hn ho] at h
     simp only [posT, List.mem_cons, List.not_mem_nil, or_false] at h
     subst h; exact ⟨n, hn, ho⟩
   | cat ho s x y a b hx hy =>
     rw [tr_cat hn ho a b hx hy] at h
     simp only [posT, List.mem_append] at h
     rcases h with h | h
     ·exact ih x hx h
     ·exact ih y hy h
   | alt ho s x y a b hx hy =>
     rw [tr_alt hn ho a b hx hy] at h
     simp only [posT, List.mem_append] at h
     rcases h with h | h
     ·exact ih x hx h
     ·exact ih y hy h
   | star ho s x a b hx =>
     rw [tr_star hn ho a hx] at h
     exact ih x hx h
def rootT (l : List Nd) : RT ByteArray := tr l (l.length - 1)
theorem bit_fold (ps : List Nat) (f : Nat → Nat) (m j : Nat) : (ps.foldl (fun m p => m ||| f p) m).testBit j = true ↔ m.testBit j = true ∨ ∃ p, p ∈ ps ∧ (f p).testBit j = true := by
 induction ps generalizing m with
 | nil => simp
 | cons p ps ih =>
   rw [List.foldl_cons, ih, Nat.testBit_or, Bool.or_eq_true]
   constructor
   ·rintro ((h | h) | ⟨q, h1, h2⟩)
    ·exact .inl h
    ·exact .inr ⟨p, by simp, h⟩
    ·exact .inr ⟨q, by simp [h1], h2⟩
   ·rintro (h | ⟨q, h1, h2⟩)
    ·exact .inl (.inl h)
    ·rcases List.mem_cons.1 h1 with rfl | h1
     ·exact .inl (.inr h2)
     ·exact .inr ⟨q, h1, h2⟩
theorem bit_ofM (x : ByteArray) (q : Nat) : (ofM l x).testBit q = true ↔ ∃ n, l[q]? = some n ∧ n.op = 2 ∧ n.sym = x := by
 unfold ofM
 rw [bit_maskOf, Bool.and_eq_true]
 constructor
 ·rintro ⟨h1, h2⟩
  cases hn : l[q]? with
  | none => rw [hn] at h2; cases h2
  | some n =>
    rw [hn] at h2
    simp only [Bool.and_eq_true, decide_eq_true_eq] at h2
    exact ⟨n, rfl, h2.1, bytes_ext h2.2⟩
 ·rintro ⟨n, h1, h2, rfl⟩
  refine ⟨decide_eq_true (List.getElem?_eq_some_iff.1 h1).1, ?_⟩
  rw [h1]
  simp [h2]
theorem bit_lastK (F : Rx.Form l) (q : Nat) : (lastK l).testBit q = true ↔ endsT (rootT l) q = true := by
 unfold lastK lastJ
 rw [bit_maskOf, Bool.and_eq_true]
 have hm : (lastMk l).testBit q = endsT (rootT l) q := by unfold lastMk rootT; rw [fact_last]
 constructor
 ·rintro ⟨h1, h2⟩
  unfold lastP at h2
  cases hn : l[q]? with
  | none => rw [hn] at h2; cases h2
  | some n =>
    rw [hn] at h2
    simp only [Bool.and_eq_true] at h2
    rw [← hm]; exact h2.2
 ·intro h
  obtain ⟨n, hn, ho⟩ := pos_sym F (pos_of_ends h)
  refine ⟨decide_eq_true (List.getElem?_eq_some_iff.1 hn).1, ?_⟩
  unfold lastP
  rw [hn]
  simp only [Bool.and_eq_true]
  exact ⟨decide_eq_true ho, by rw [hm]; exact h⟩
def makeD (l : List Nd) (more : List ByteArray) (i : Nat) : DA := tourD (makeSyms l more) (tourN (succS l (makeSyms l more)) startS i) (finalK l)
theorem makeD_well {more : List ByteArray} (hn : ∀ x ∈ makeSyms l more, nameOk x = true) {i : Nat} (h : Full (succS l (makeSyms l more)) startS i) (hi : i ≤ 256) : WellD nameOk (makeD l more i) := by
 refine ⟨tourD_ok h, ?_, hn, makeSyms_rising l more⟩
 have := tourN_next_len (succS l (makeSyms l more)) startS i (Nat.le_of_eq h.symm)
 show (tourN (succS l (makeSyms l more)) startS i).next.length ≤ 256
 omega
end
end Go.Proofs.YtngpjagpeblbjaaGreatDoor
namespace Go.Proofs.YtngpjagpeblbjaaGreatDoor
open Go.RowKit Go.Spy Go.Heaped Go.Tour Go.Rx
def OkL (l : List Nd) : Prop := l.length ≤ 1024 ∧ Rx.Form l ∧ NamesOk l
theorem checkC_bad {l : List Nd} (h : ¬ OkL l) : ∃ c, CheckC l c ∧ c ≠ 0 := by
 unfold OkL at h
 by_cases h1 : l.length ≤ 1024
 ·by_cases h2 : Rx.Form l
  ·by_cases h3 : NamesOk l
   ·exact absurd ⟨h1, h2, h3⟩ h
   ·exact ⟨11, .inr (.inr (.inl ⟨h1, h2, h3, rfl⟩)), by decide⟩
  ·exact ⟨12, .inr (.inl ⟨h1, h2, rfl⟩), by decide⟩
 ·exact ⟨17, .inl ⟨by omega, rfl⟩, by decide⟩
def MoreOk (more : List ByteArray) : Prop := more.length ≤ 24 ∧ ∀ x ∈ more, nameOk x = true ∧ x.size ≤ 80
theorem symsL_ok {l : List Nd} (hS : SmallL l) (hN : NamesOk l) : MoreOk (symsL l) := by
 refine ⟨Nat.le_trans (symsL_len l) hS.1, fun x hx => ?_⟩
 unfold symsL at hx
 obtain ⟨n, hn, he⟩ := List.mem_filterMap.1 hx
 unfold symN at he
 split at he
 ·cases he
  rename_i ho
  obtain ⟨i, hi⟩ := List.getElem?_of_mem hn
  exact ⟨hN i n hi ho, hS.2 n hn⟩
 ·cases he
theorem makeSyms_ok {l : List Nd} (hS : SmallL l) (hN : NamesOk l) {more : List ByteArray} (hm : MoreOk more) : (makeSyms l more).length ≤ 48 ∧ ∀ x ∈ makeSyms l more, nameOk x = true ∧ x.size ≤ 80 := by
 refine ⟨?_, fun x hx => ?_⟩
 ·have := makeSyms_len l more
  have := hS.1
  have := hm.1
  omega
 ·rcases mem_makeSyms.1 hx with h | h
  ·exact (symsL_ok hS hN).2 x h
  ·exact hm.2 x h
end Go.Proofs.YtngpjagpeblbjaaGreatDoor
namespace Go.Proofs.YtngpjagpeblbjaaGreatDoor
open Go.RowKit Go.Spy Go.Heaped Go.Tour Go.Rx
theorem takeMap_snoc {α β : Type} {l : List α} {i : Nat} {x : α} (f : α → β) (h : l[i]? = some x) : (l.take (i + 1)).map f = (l.take i).map f ++ [f x] := by
 rw [List.take_add_one, h, List.map_append]; rfl
end Go.Proofs.YtngpjagpeblbjaaGreatDoor
namespace Go.Proofs.YtngpjagpeblbjaaGreatDoor
open Go.ChangeShapes Go.WideShapes Go.ChangeAt Go.WideMaps Go.WideElems Go.RowKit Go.Spy Go.Rx
theorem cstr : Tryz.prog.cellsOf 9 = 1 := by kernel_rfl
theorem bytesStr : Tryz.prog.bytesOf 9 = 16 := by kernel_rfl
set_option maxRecDepth 100000 in
theorem strs_arg {H : Type} {enc : TypeId × Value → H} {W : World} {base : Nat} {v : Value} {d : DataW H} {p : List MemPlace} (hv : Value.okWide Tryz.prog W .any base 22 v)
 (h : DataW.Trod enc Tryz.prog W 0 (fun _ => true) true 22 v d p) {ts : List TypeId} {ds : List (DataW H)} (hsz : (DataW.weightsEach Tryz.prog ts ds).all (· ≤ reachBytes) = true) {j : Nat} (ht : ts[j]? = some 22) (hd : ds[j]? = some d) :
 ∃ a len cap ss, v = .slice a (List.length ss) cap ∧ List.length ss = len ∧ ss.length ≤ cap ∧ StrsV W a cap ss := by
 obtain ⟨a0, len, cap, rfl⟩ := okWide_slice Tryz.underlying22 hv
 obtain ⟨fuel, hf⟩ := h
 rcases open_strings Tryz.underlying22 Tryz.underlying9 cstr hf with ⟨hcs, hx⟩ | ⟨a, len', cap', ss, hcs, _, hl, hm, hz, hx, hcell, hws⟩
 ·simp [Value.cells] at hcs
  obtain ⟨rfl, rfl, rfl⟩ := hcs
  exact ⟨none, 0, 0, [], rfl, rfl, by simp, ⟨by simp, fun i hi => by simp at hi, fun h => by simp at h⟩⟩
 ·simp [Value.cells] at hcs
  obtain ⟨rfl, rfl, rfl⟩ := hcs
  simp only [Prod.mk.injEq] at hx
  obtain ⟨rfl, rfl⟩ := hx
  simp only [if_true] at hz
  have hreach := sized_slice hsz (j := j) (t := 22) (e := 9) ht hd Tryz.underlying22
  rw [bytesStr] at hreach
  simp only [strs, List.length_map, List.length_take, List.length_drop, reachBytes] at hreach
  have htl : (ss.take len).length = len := by simp; omega
  refine ⟨some a, len, cap, ss.take len, by rw [htl], htl, by omega, ⟨by omega, fun i hi => ?_, fun h0 => ?_⟩⟩
  ·have := hws _ (List.mem_of_mem_take (List.getElem_mem hi)); unfold maxLen at this; omega
  ·have hc0 := hcell 0 (by omega)
   have ha : a.add 0 = a := by simp [Addr.add]
   rw [ha] at hc0
   have hsp := spot_none hc0
   refine ⟨a.block, a.off, by rw [← hsp], World.block_lt_of_cell? W a hc0, fun i hi => ?_⟩
   have hi' : i < len := by omega
   have hci := hcell i (by omega)
   rw [hsp, Addr.add_lit] at hci
   rw [hci]
   simp [List.getD, show i < ss.length by omega]
theorem cnode : Tryz.prog.cellsOf 100 = 4 := by kernel_rfl
theorem bnode : Tryz.prog.bytesOf 100 = 40 := by kernel_rfl
theorem creg : Tryz.prog.cellsOf 45 = 1 := by kernel_rfl
theorem cint : Tryz.prog.cellsOf 3 = 1 := by kernel_rfl
theorem cnodes : Tryz.prog.cellsOf 43 = 1 := by kernel_rfl
open Go.Joins Go.Deep in
set_option maxRecDepth 100000 in
theorem regex_arg {H : Type} {enc : TypeId × Value → H} {W : World} {base : Nat} {v : Value} {d : DataW H} {p : List MemPlace} (hv : Value.okWide Tryz.prog W .any base 45 v)
 (h : DataW.Trod enc Tryz.prog W 0 (fun _ => true) true 45 v d p) {ts : List TypeId} {ds : List (DataW H)} (hsz : (DataW.weightsEach Tryz.prog ts ds).all (· ≤ reachBytes) = true) {j : Nat} (ht : ts[j]? = some 45) (hd : ds[j]? = some d) :
 ∃ a cap l, v = .agg #[.slice a (List.length l) cap] ∧ NodesV W a l := by
 obtain ⟨cs, rfl, hcz⟩ := okWide_struct Tryz.underlying45 hv
 obtain ⟨c0, rfl⟩ : ∃ c0, cs = #[c0] := by
  obtain ⟨l⟩ := cs
  match l, (hcz.trans creg) with
  | [c0], _ => exact ⟨c0, rfl⟩
 obtain ⟨fuel, hf⟩ := h
 obtain ⟨y0, n, hx, _, h0⟩ := trod_struct1 Tryz.underlying45 hf
 simp only [Prod.mk.injEq] at hx
 obtain ⟨rfl, rfl⟩ := hx
 simp only [cnodes] at h0
 have h0 : DataW.trod enc Tryz.prog W 0 (fun _ => true) true n 43 [c0] = some y0 := by simpa [Value.cells] using h0
 rcases open_slice Tryz.underlying43 h0 with ⟨hcs, _⟩ | ⟨a, len, cap, m, n2, D, Pl, hcs, _, hl, hm, hmm, rfl, hcell⟩
 ·simp only [List.cons.injEq, and_true] at hcs
  subst hcs
  exact ⟨none, 0, [], rfl, ⟨by simp, fun i n hn => by simp at hn, fun h => by simp at h⟩⟩
 ·simp only [List.cons.injEq, and_true] at hcs
  subst hcs
  simp only [if_true] at hmm
  subst hmm
  have hreach : ((List.range len).map D).length * 40 ≤ reachBytes := by
   have h1 : (((List.range len).map D).length + ((List.range (m - len)).map fun j => D (len + j)).length) * Tryz.prog.bytesOf 100 ≤ reachBytes := by
    have := List.all_eq_true.1 hsz _ (DataW.weights_mem_each ht hd ((((List.range len).map D).length + ((List.range (m - len)).map fun j => D (len + j)).length) * Tryz.prog.bytesOf 100) (by
     simp [DataW.weights, DataW.weightsEach, Tryz.underlying45, Tryz.underlying43]))
    simpa using this
   rw [bnode] at h1
   exact Nat.le_trans (Nat.mul_le_mul_right 40 (Nat.le_add_right _ _)) h1
  simp only [List.length_map, List.length_range, reachBytes] at hreach
  have each : ∀ i, i < m → ∃ z : Nd, W.cell? (a.add (i * 4)) = some (.int .i64 z.op) ∧ W.cell? (a.add (i * 4 + 1)) = some (.string z.sym) ∧ W.cell? (a.add (i * 4 + 2)) = some (.int .i64 z.a) ∧ W.cell? (a.add (i * 4 + 3)) = some (.int .i64 z.b) ∧ z.sym.size ≤ maxLen := by
   intro i hi
   obtain ⟨cs', h1, h2⟩ := hcell i hi
   rw [cnode] at h1
   obtain ⟨_, hlen, hcl⟩ := World.cells?_some h1
   obtain ⟨x0, x1, x2, x3, k, _, _, g0, g1, g2, g3⟩ := trod_struct4 Tryz.underlying100 h2
   match cs', hlen with
   | [v0, v1, v2, v3], _ =>
     simp only [cint, cstr] at g0 g1 g2 g3
     obtain ⟨o, e0, _⟩ := DataW.trod_int Tryz.underlying3 g0
     obtain ⟨s, e1, _, hs⟩ := DataW.trod_string Tryz.underlying9 g1
     obtain ⟨aa, e2, _⟩ := DataW.trod_int Tryz.underlying3 g2
     obtain ⟨bb, e3, _⟩ := DataW.trod_int Tryz.underlying3 g3
     simp at e0 e1 e2 e3
     subst e0 e1 e2 e3
     have f0 := hcl 0 (by omega)
     have f1 := hcl 1 (by omega)
     have f2 := hcl 2 (by omega)
     have f3 := hcl 3 (by omega)
     rw [add_add] at f0 f1 f2 f3
     exact ⟨⟨o, s, aa, bb⟩, by simpa using f0, by simpa using f1, by simpa using f2, by simpa using f3, hs⟩
  haveI : Inhabited Nd := ⟨⟨0, nil8, 0, 0⟩⟩
  obtain ⟨q, hq⟩ := choose_lt each
  refine ⟨some a, m, (List.range len).map q, by simp, ⟨by simp; omega, fun i n hn => ?_, fun h0 => ?_⟩⟩
  ·have hi : i < len := by have := (List.getElem?_eq_some_iff.1 hn).1; simpa using this
   have : n = q i := by simpa [hi] using hn.symm
   subst this
   have := (hq i (by omega)).2.2.2.2
   unfold maxLen at this; omega
  ·have hl0 : 0 < len := by simpa using h0
   have hc0 := (hq 0 (by omega)).1
   have ha : a.add (0 * 4) = a := by simp [Addr.add]
   rw [ha] at hc0
   have hsp := spot_none hc0
   refine ⟨a.block, a.off, by rw [← hsp], World.block_lt_of_cell? W a hc0, fun i n hn => ?_⟩
   have hi : i < len := by have := (List.getElem?_eq_some_iff.1 hn).1; simpa using this
   have : n = q i := by simpa [hi] using hn.symm
   subst this
   obtain ⟨g0, g1, g2, g3, _⟩ := hq i (by omega)
   rw [hsp, Addr.add_lit] at g0 g1 g2 g3
   exact ⟨g0, g1, g2, g3⟩
end Go.Proofs.YtngpjagpeblbjaaGreatDoor
