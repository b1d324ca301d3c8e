/-
  Walk of the reference's Name, for every text.
  Walk of Check: what is wrong with a regular expression.
  Walks of the reference's parts and Check.
  Walks of the law's Plain, Small, Texts and Nodes, and of the reference's Null.
  Walks of the law's Texts and Nodes, and of the reference's Null.
  Plain law: states gone through in the order in which they are come to. No program is named here.
  Plain law of tours: other names for the states, where the rows lead, the words by which a state is come to first. No program is named here.
  Plain law: words in order; automata as a program holds them, and what is wrong with one.
  Walks of the laws' small helpers: Small, none, Plain, ahead, Texts.
-/
import Derived.Test.YtngpjagpeblbjaaGreatDoorP01
import Derived.Test.YtngpjagpeblbjaaGreatDoorP02
import Derived.Test.YtngpjagpeblbjaaGreatDoorP03
import Derived.Test.YtngpjagpeblbjaaGreatDoorP04
import Derived.Test.YtngpjagpeblbjaaGreatDoorP05
import Derived.Test.YtngpjagpeblbjaaGreatDoorP06
import Derived.Test.YtngpjagpeblbjaaGreatDoorP07
import Derived.Test.YtngpjagpeblbjaaGreatDoorP08
import Derived.Test.YtngpjagpeblbjaaGreatDoorP09
import Derived.Test.YtngpjagpeblbjaaGreatDoorP10
import Derived.Test.YtngpjagpeblbjaaGreatDoorP11
import Derived.Test.YtngpjagpeblbjaaGreatDoorP12
import Derived.Test.YtngpjagpeblbjaaGreatDoorP13
import Derived.Test.YtngpjagpeblbjaaGreatDoorP14
import Derived.Test.YtngpjagpeblbjaaGreatDoorP15
import Derived.Test.YtngpjagpeblbjaaGreatDoorP16
import Derived.Test.YtngpjagpeblbjaaGreatDoorP17
import Derived.Test.YtngpjagpeblbjaaGreatDoorP18
import Derived.Test.YtngpjagpeblbjaaGreatDoorP19
import Derived.Test.YtngpjagpeblbjaaGreatDoorP20
import Derived.Test.YtngpjagpeblbjaaGreatDoorP21
import Derived.Test.YtngpjagpeblbjaaGreatDoorP22
import Derived.Test.YtngpjagpeblbjaaGreatDoorP23
import Derived.Deep.DeepCutAuto
import Derived.Test.YtngpjagpeblbjaaGreatDoorRows
import Derived.Laws.OwnMore
import Derived.WalkKit
import Derived.WalkSpells
import Derived.WalkLawsBesides
import Derived.Deep.LoopGhost
import Derived.Deep.CutBlock
import Derived.Deep.OwnRows
import Derived.BigQuiet
import Derived.Deep.QuietTactic
import Derived.Deep.AppendLies
import Derived.BigRegion
import Derived.Lib.TrailingZeros
import Derived.OwnWalk
import Derived.Deep.Draws
import Derived.Laws.ResultCell
import Derived.Laws.CopyRow
import Derived.Outline
import Derived.Sort.Walk0
import Derived.Recover
import Derived.Deep.RegionLaw
import Derived.Deep.RegionWith
import Derived.StillTailTactics
import Derived.DeepKeys5
import Derived.StillTail
import Derived.StillTactics
import Derived.OrdersHeld
import Derived.IntWalk
import Derived.Sort.OwnSorted
import Derived.Sort.Grow
import Derived.Lib.OwnBridge
import Derived.Shelf.Sort.Plain
import Derived.Shelf.Slices.Turned
import Derived.Ground.Names2Prog
import Derived.Shelf.Slices.ReverseS
import Derived.Shelf.Slices.Clone
import Derived.Shelf.Slices.CompactS
import Derived.Shelf.Slices.SearchI
import Derived.Shelf.Slices.Cells
import Derived.Shelf.Slices.In.SortNone
import Derived.Test.YtngpjagpeblbjaaGreatDoorProg
import Derived.Deep.Cut
import Derived.Lib.SlicesCompact
import Derived.Lib.RowBridge
namespace Go.Proofs.YtngpjagpeblbjaaGreatDoor
open Go.RowKit Go.Spy
theorem nameOk_no {s : ByteArray} {k : Nat} (hlt : k < s.size) (h : isLet (s[k]'hlt).toNat = false) (h2 : k = 0 ∨ isPart (s[k]'hlt).toNat = false) : nameOk s = false := by
 rcases h2 with rfl | h2
 ·rw [nameOk, nameOk_head hlt, h]; simp
 ·rw [nameOk, allPart_no hlt h2]; simp
theorem nameOk_yes {s : ByteArray} (h : ∀ j (hj : j < s.size), isPart (s[j]'hj).toNat = true ∧ (j = 0 → isLet (s[j]'hj).toNat = true)) : nameOk s = (decide (1 ≤ s.size) && decide (s.size ≤ 64)) := by
 have h1 := allPart_yes fun j hj => (h j hj).1
 by_cases h0 : 0 < s.size
 ·rw [nameOk, nameOk_head h0, h1, (h 0 h0).2 rfl]; simp
 ·simp [nameOk, show s.size = 0 by omega]
set_option maxHeartbeats 1000000 in
theorem name_any (s : ByteArray) (w : World) (hs : s.size ≤ maxLen) :
 Calls Tryz.prog 30 #[.string s] w fun e w' => e = .returned (.bool (nameOk s)) ∧ w = w' := by
 unfold maxLen at hs
 go_enter Tryz.func30, Tryz.ntmps30
 go_wp2_with fail
 go_loopg [3] s.size (fun g i wr => ∃ k : Nat, k ≤ s.size ∧ g = s.size - k ∧ wr = w ∧ i = .int .i64 k ∧ Hid (∀ j (hj : j < s.size), j < k → isPart (s[j]'hj).toNat = true ∧ (j = 0 → isLet (s[j]'hj).toNat = true)))
 case atStart => exact ⟨0, by omega, by omega, rfl, rfl, fun j _ hj => by omega⟩
 case round =>
  obtain ⟨k, hk, rfl, rfl, rfl, HA⟩ := hrel
  by_cases hlt : k < s.size
  ·have hb : (s[k]'hlt).toNat < 256 := (s[k]'hlt).toNat_lt
   have HN := hid (nameOk_no hlt)
   have HY : Hid (isPart (s[k]'hlt).toNat = true ∧ (k = 0 → isLet (s[k]'hlt).toNat = true) → (∀ j (hj : j < s.size), j < k + 1 → isPart (s[j]'hj).toNat = true ∧ (j = 0 → isLet (s[j]'hj).toNat = true))) := by
    intro h j hj hjk
    by_cases e : j = k
    ·subst e; exact h
    ·exact HA.out j hj (by omega)
   go_upto_region 5 with fail
   go_cut [5] (fun v wx => v = .bool (isLet (s[k]'hlt).toNat) ∧ wr = wx)
   case first =>
    go_wp2_with fail
    all_goals go_meet
    all_goals exact ⟨by congr 1; rw [Bool.eq_iff_iff]; simp [isLet]; omega, rfl⟩
   case rest =>
    obtain ⟨rfl, rfl⟩ := hcut
    cases hL : isLet (s[k]'hlt).toNat
    ·by_cases h0 : k = 0
     ·subst h0
      have HF := hid (HN.out hL (.inl rfl))
      go_wp2
      go_ret
      exact ⟨ret_bool HF.out.symm, rfl⟩
     ·have hk0 : ((k : Int) == 0) = false := by simp; omega
      have HL := hid hL
      clear hL
      have HG := hid (HY.out)
      by_cases e45 : (((s[k]'hlt).toNat : Int) == 45) = true
      ·have HP : Hid (isPart (s[k]'hlt).toNat = true) := by simp [Hid, isPart] at e45 ⊢; omega
       go_wp2
       all_goals (go_roundg (s.size - (k+1)); exact ⟨k+1, by omega, rfl, rfl, by go_num, HY.out ⟨HP.out, fun e => absurd e h0⟩⟩; omega)
      ·have f45 : (((s[k]'hlt).toNat : Int) == 45) = false := by simpa using e45
       clear e45
       by_cases e46 : (((s[k]'hlt).toNat : Int) == 46) = true
       ·have HP : Hid (isPart (s[k]'hlt).toNat = true) := by simp [Hid, isPart] at e46 ⊢; omega
        go_wp2
        all_goals (go_roundg (s.size - (k+1)); exact ⟨k+1, by omega, rfl, rfl, by go_num, HY.out ⟨HP.out, fun e => absurd e h0⟩⟩; omega)
       ·have f46 : (((s[k]'hlt).toNat : Int) == 46) = false := by simpa using e46
        clear e46
        by_cases hD : 48 ≤ (s[k]'hlt).toNat ∧ (s[k]'hlt).toNat ≤ 57
        ·have HP : Hid (isPart (s[k]'hlt).toNat = true) := by simp [Hid, isPart, isDig]; omega
         obtain ⟨d1, d2⟩ := hD
         go_wp2
         all_goals (go_roundg (s.size - (k+1)); exact ⟨k+1, by omega, rfl, rfl, by go_num, HY.out ⟨HP.out, fun e => absurd e h0⟩⟩; omega)
        ·have HP := hid (HN.out HL.out (.inr (by simp at f45 f46; simp [isPart, isDig, HL.out]; omega)))
         have hD' : (s[k]'hlt).toNat < 48 ∨ 57 < (s[k]'hlt).toNat := by omega
         clear hD
         rcases hD' with hD | hD
         all_goals
          go_wp2
         all_goals first
          | (go_ret; exact ⟨ret_bool HP.out.symm, rfl⟩)
          | (have hq : (!decide (((s[k]'hlt).toNat : Int) ≤ 57)) = false := by assumption
             exfalso; simp at hq; omega)
    ·have HF := hid (HY.out ⟨by simp [isPart, hL], fun _ => hL⟩)
     go_wp2
     all_goals (go_roundg (s.size - (k+1)); exact ⟨k+1, by omega, rfl, rfl, by go_num, HF⟩; omega)
  ·have hF := hid (nameOk_yes fun j hj => HA.out j hj (by omega))
   by_cases h1 : 1 ≤ s.size
   all_goals
    go_wp2
    go_ret
    exact ⟨ret_bool (by rw [hF.out, Bool.eq_iff_iff]; simp; omega), rfl⟩
end Go.Proofs.YtngpjagpeblbjaaGreatDoor
namespace Go.Proofs.YtngpjagpeblbjaaGreatDoor
open Go.RowKit Go.Spy Go.Rx
theorem checkC_one {l : List Nd} {c d : Int} (h : CheckC l c) (k : CheckC l d) : c = d := by
 rcases h with ⟨h1, rfl⟩ | ⟨h1, h2, rfl⟩ | ⟨h1, h2, h3, rfl⟩ | ⟨h1, h2, h3, rfl⟩ <;> rcases k with ⟨k1, rfl⟩ | ⟨k1, k2, rfl⟩ | ⟨k1, k2, k3, rfl⟩ | ⟨k1, k2, k3, rfl⟩ <;> first | rfl | omega | exact (h2 k2).elim | exact (k2 h2).elim | exact (h3 k3).elim | exact (k3 h3).elim
end Go.Proofs.YtngpjagpeblbjaaGreatDoor
namespace Go.Proofs.YtngpjagpeblbjaaGreatDoor
open Go.RowKit Go.Spy Go.Rx
def kidsI (n : Nd) : List Int := if n.op = 3 ∨ n.op = 4 then [n.a, n.b] else if n.op = 5 then [n.a] else []
theorem kids_of_I (n : Nd) : Go.Rx.kids n = (kidsI n).map Int.toNat := by
 unfold Go.Rx.kids kidsI
 split
 ·rfl
 ·split <;> rfl
theorem kidsI_le (n : Nd) : (kidsI n).length ≤ 2 := by
 unfold kidsI
 split
 ·simp
 ·split <;> simp
def okHead (n : Nd) : Bool := decide (0 ≤ n.op) && decide (n.op ≤ 5) && (decide (n.op = 2) || decide (n.sym = nil8)) && (decide (3 ≤ n.op) || decide (n.a = 0) && decide (n.b = 0)) && (decide (n.op ≠ 5) || decide (n.b = 0))
theorem ok_parts (k : Nat) (n : Nd) : okNode k n = (okHead n && (kidsI n).all (inR k)) := by
 by_cases o0 : n.op = 0
 ·simp [ok01 (.inl o0), okHead, kidsI, o0, Bool.and_assoc]
 by_cases o1 : n.op = 1
 ·simp [ok01 (.inr o1), okHead, kidsI, o1, Bool.and_assoc]
 by_cases o2 : n.op = 2
 ·simp [ok2 o2, okHead, kidsI, o2]
 by_cases o3 : n.op = 3
 ·simp [ok34 (.inl o3), okHead, kidsI, o3, Bool.and_assoc]
 by_cases o4 : n.op = 4
 ·simp [ok34 (.inr o4), okHead, kidsI, o4, Bool.and_assoc]
 by_cases o5 : n.op = 5
 ·simp [ok5 o5, okHead, kidsI, o5]
  cases decide (n.sym = nil8) <;> cases inR k n.a <;> simp
 ·have : okHead n = false := by
   have h : n.op < 0 ∨ 5 < n.op := by omega
   unfold okHead
   rcases h with h | h
   ·rw [show decide (0 ≤ n.op) = false by simp; omega]; simp
   ·rw [show decide (n.op ≤ 5) = false by simp; omega]; simp
  rw [this]
  simp [okNode, o0, o1, o2, o3, o4, o5]
def IntsAt (w : World) (base : Nat) (v : Value) (xs : List Int) : Prop :=
 ∃ ao c, v = .slice ao xs.length c ∧ ∀ (j : Nat) (x : Int), xs[j]? = some x → ∃ g, ao = some ⟨g, 0, none⟩ ∧ base ≤ g ∧ g < w.heap.size ∧ w.cell? ⟨g, j, none⟩ = some (.int .i64 x)
def PartsPost (n : Nd) (w : World) (e : Ending) (w' : World) : Prop := ∃ v, e = .returned v ∧ IntsAt w' w.heap.size v (kidsI n) ∧ Ext w w'
set_option maxHeartbeats 400000 in
theorem parts_any (n : Nd) (w : World) : Calls Tryz.prog 90 #[.agg #[.int .i64 n.op, .string n.sym, .int .i64 n.a, .int .i64 n.b]] w (PartsPost n w) := by
 by_cases h : n.op = 3 ∨ n.op = 4
 ·have HK := hid (show kidsI n = [n.a, n.b] by unfold kidsI; rw [if_pos h])
  have tt : (n.op == 3) = true ∨ ((n.op == 3) = false ∧ (n.op == 4) = true) := by
   rcases h with h | h <;> simp [h]
  clear h
  rcases tt with tt | ⟨tt, t2⟩
  all_goals
   go_enter Tryz.func90, Tryz.ntmps90
   go_wp2_with fail
   go_ret
   refine ⟨_, rfl, ⟨some ⟨w.heap.size + 1, 0, none⟩, 2, by rw [HK.out]; rfl, fun j x hj => ⟨_, rfl, by omega, by simp, ?_⟩⟩, ((Below.refl _ _).alloc (Nat.le_refl _) _).alloc (by simp) _⟩
   rw [HK.out] at hj
   exact (Blk.new' _ 3 #[.int .i64 n.a, .int .i64 n.b] (by simp)).cell (by match j, hj with | 0, hj => cases hj; rfl | 1, hj => cases hj; rfl)
 ·have t3 : (n.op == 3) = false := by simp; omega
  have t4 : (n.op == 4) = false := by simp; omega
  by_cases h5 : n.op = 5
  ·have t5 : (n.op == 5) = true := by simp [h5]
   have HK := hid (show kidsI n = [n.a] by unfold kidsI; rw [if_neg h, if_pos h5])
   clear h h5
   go_enter Tryz.func90, Tryz.ntmps90
   go_wp2_with fail
   go_ret
   refine ⟨_, rfl, ⟨some ⟨w.heap.size + 1, 0, none⟩, 1, by rw [HK.out]; rfl, fun j x hj => ⟨_, rfl, by omega, by simp, ?_⟩⟩, ((Below.refl _ _).alloc (Nat.le_refl _) _).alloc (by simp) _⟩
   rw [HK.out] at hj
   exact (Blk.new' _ 3 #[.int .i64 n.a] (by simp)).cell (by match j, hj with | 0, hj => cases hj; rfl)
  ·have t5 : (n.op == 5) = false := by simp [h5]
   have HK := hid (show kidsI n = [] by unfold kidsI; rw [if_neg h, if_neg h5])
   clear h h5
   go_enter Tryz.func90, Tryz.ntmps90
   go_wp2_with fail
   go_ret
   exact ⟨_, rfl, ⟨none, 0, by rw [HK.out]; rfl, fun j x hj => by rw [HK.out] at hj; simp at hj⟩, (Below.refl _ _).alloc (Nat.le_refl _) _⟩
def natTo (n : Nd) (j : Nat) : List Nat := ((kidsI n).take j).map Int.toNat
def RefRel (l : List Nd) (w : World) (bU : Nat) (k : Nat) (v : Value) (wr : World) : Prop :=
 k ≤ l.length ∧ v = .int .i64 k ∧ (∀ i n, i < k → l[i]? = some n → okNode i n = true) ∧ Blk wr bU 3 (usesC (kidsTo l k) l.length) ∧ Ext w wr
def RefIn (l : List Nd) (k : Nat) (n : Nd) (_w wo : World) (bU : Nat) (j : Nat) (v : Value) (wi : World) : Prop :=
 j ≤ (kidsI n).length ∧ v = .int .i64 j ∧ (∀ i x, i < j → (kidsI n)[i]? = some x → inR k x = true) ∧ Blk wi bU 3 (usesC (kidsTo l k ++ natTo n j) l.length) ∧ Chg (· = bU) wo wi
set_option maxRecDepth 100000 in
set_option maxHeartbeats 2000000 in
theorem refcheck_walk {l : List Nd} {w : World} {b off : Nat} (hV : NodesV w (some ⟨b, off, none⟩) l) (cap : Nat) (hl : l.length ≤ 1024) (h0 : 0 < l.length) (hb : b < w.heap.size)
 (hc : ∀ (i : Nat) (n : Nd), l[i]? = some n → w.cell? ⟨b, off + i * 4, none⟩ = some (.int .i64 n.op) ∧ w.cell? ⟨b, off + i * 4 + 1, none⟩ = some (.string n.sym) ∧ w.cell? ⟨b, off + i * 4 + 2, none⟩ = some (.int .i64 n.a) ∧ w.cell? ⟨b, off + i * 4 + 3, none⟩ = some (.int .i64 n.b)) :
 Calls Tryz.prog 29 #[.slice (some ⟨b, off, none⟩) l.length cap] w (CheckPost l w) := by
 have HC := hid hc
 have HV := hid hV
 have hl0 : ((l.length : Int) == 0) = false := beq_eq_false_iff_ne.2 (by omega)
 clear hc hV
 go_enter Tryz.func29, Tryz.ntmps29
 obtain ⟨i0, hti, hz0, hz1, hz2⟩ := info_parts Tryz.infoInt
 go_wp2_with (at_make; refine wpList_make_row _ rfl _ _ 46 rfl 3 i0 (.int .i64 0) Tryz.underlying46 hti hz0 hz1 rfl .i64 .i64 l.length rfl rfl (by rw [hz2]; omega) (by omega) ?_)
 have hmc : madeCells #[Value.int .i64 0] l.length = usesC [] l.length := by
  apply Array.ext_getElem?
  intro i
  by_cases hi : i < l.length
  ·rw [usesC_get hi]; simp [madeCells, hi, Nat.mod_one]
  ·simp [madeCells, usesC, hi]
 have HMC := hid hmc
 clear hmc
 go_loopg [4] l.length (fun g v wr => ∃ k, g = l.length - k ∧ RefRel l w w.heap.size k v wr)
 case atStart =>
  refine ⟨0, rfl, Nat.zero_le _, rfl, fun i n h => absurd h (Nat.not_lt_zero i), ?_, (Below.refl _ w).alloc (Nat.le_refl _) _⟩
  rw [show kidsTo l 0 = [] from rfl, ← HMC.out]
  exact Blk.new w _ _
 case round =>
  obtain ⟨k, rfl, hk, rfl, hok, hBU, hE⟩ := hrel
  have s2 := hBU.lt
  have HU := hid hBU
  have HE := hid hE
  have HOK := hid hok
  by_cases hlt : k < l.length
  ·obtain ⟨n, hn⟩ : ∃ n, l[k]? = some n := ⟨_, List.getElem?_eq_getElem hlt⟩
   obtain ⟨q0, q1, q2, q3⟩ := HC.out k n hn
   have e0 : wr.cell? ⟨b, off + k * 4, none⟩ = some (.int .i64 n.op) := (hE.cell (p := ⟨b, off + k * 4, none⟩) hb).trans q0
   have e1 : wr.cell? ⟨b, off + k * 4 + 1, none⟩ = some (.string n.sym) := (hE.cell (p := ⟨b, off + k * 4 + 1, none⟩) hb).trans q1
   have e2 : wr.cell? ⟨b, off + k * 4 + 2, none⟩ = some (.int .i64 n.a) := (hE.cell (p := ⟨b, off + k * 4 + 2, none⟩) hb).trans q2
   have e3 : wr.cell? ⟨b, off + k * 4 + 3, none⟩ = some (.int .i64 n.b) := (hE.cell (p := ⟨b, off + k * 4 + 3, none⟩) hb).trans q3
   have HN := hid hn
   clear hn q0 q1 q2 q3 hE hBU hok
   go_upto_region 10 with fail
   go_cut [71] (fun v wx => v = .bool (!okHead n) ∧ wr.alloc (.cells #[.int .i64 n.op, .string n.sym, .int .i64 n.a, .int .i64 n.b] 58) = wx)
   case first =>
    by_cases ho : n.op = 0
    ·have t0 : decide (n.op < 0) = false := by simp [ho]
     have t1 : decide (5 < n.op) = false := by simp [ho]
     have t2 : (n.op != 2) = true := by simp [ho]
     have t3 : decide (n.op < 3) = true := by simp [ho]
     have t4 : (n.op == 5) = false := by simp [ho]
     by_cases hs : n.sym.toList = []
     ·have hse : n.sym.toList.isEmpty = true := by simp [hs]
      by_cases ha : n.a = 0
      ·have ta : (n.a != 0) = false := by simp [ha]
       by_cases hb' : n.b = 0
       ·have tb : (n.b != 0) = false := by simp [hb']
        have HO : Hid (okHead n = true) := hid (by simp [okHead, ho, ← sym_iff, hs, ha, hb'])
        clear ho ha hb'
        go_wp2_with fail
        go_meet
        exact ⟨by simp [HO.out], rfl⟩
       ·have tb : (n.b != 0) = true := by simp [hb']
        have HO : Hid (okHead n = false) := hid (by simp [okHead, ho, ← sym_iff, hs, ha, hb'])
        clear ho ha hb'
        go_wp2_with fail
        go_meet
        exact ⟨by simp [HO.out], rfl⟩
      ·have ta : (n.a != 0) = true := by simp [ha]
       have HO : Hid (okHead n = false) := hid (by simp [okHead, ho, ← sym_iff, hs, ha])
       clear ho ha
       go_wp2_with fail
       go_meet
       exact ⟨by simp [HO.out], rfl⟩
     ·have hse : n.sym.toList.isEmpty = false := by simp [hs]
      have HO : Hid (okHead n = false) := hid (by simp [okHead, ho, ← sym_iff, hs])
      clear ho
      go_wp2_with fail
      go_meet
      exact ⟨by simp [HO.out], rfl⟩
    ·have o0 := ho
     clear ho
     by_cases ho : n.op = 1
     ·have t0 : decide (n.op < 0) = false := by simp [ho]
      have t1 : decide (5 < n.op) = false := by simp [ho]
      have t2 : (n.op != 2) = true := by simp [ho]
      have t3 : decide (n.op < 3) = true := by simp [ho]
      have t4 : (n.op == 5) = false := by simp [ho]
      by_cases hs : n.sym.toList = []
      ·have hse : n.sym.toList.isEmpty = true := by simp [hs]
       by_cases ha : n.a = 0
       ·have ta : (n.a != 0) = false := by simp [ha]
        by_cases hb' : n.b = 0
        ·have tb : (n.b != 0) = false := by simp [hb']
         have HO : Hid (okHead n = true) := hid (by simp [okHead, ho, ← sym_iff, hs, ha, hb'])
         clear ho ha hb'
         go_wp2_with fail
         go_meet
         exact ⟨by simp [HO.out], rfl⟩
        ·have tb : (n.b != 0) = true := by simp [hb']
         have HO : Hid (okHead n = false) := hid (by simp [okHead, ho, ← sym_iff, hs, ha, hb'])
         clear ho ha hb'
         go_wp2_with fail
         go_meet
         exact ⟨by simp [HO.out], rfl⟩
       ·have ta : (n.a != 0) = true := by simp [ha]
        have HO : Hid (okHead n = false) := hid (by simp [okHead, ho, ← sym_iff, hs, ha])
        clear ho ha
        go_wp2_with fail
        go_meet
        exact ⟨by simp [HO.out], rfl⟩
      ·have hse : n.sym.toList.isEmpty = false := by simp [hs]
       have HO : Hid (okHead n = false) := hid (by simp [okHead, ho, ← sym_iff, hs])
       clear ho
       go_wp2_with fail
       go_meet
       exact ⟨by simp [HO.out], rfl⟩
     ·have o1 := ho
      clear ho
      by_cases ho : n.op = 2
      ·have t0 : decide (n.op < 0) = false := by simp [ho]
       have t1 : decide (5 < n.op) = false := by simp [ho]
       have t2 : (n.op != 2) = false := by simp [ho]
       have t3 : decide (n.op < 3) = true := by simp [ho]
       have t4 : (n.op == 5) = false := by simp [ho]
       by_cases ha : n.a = 0
       ·have ta : (n.a != 0) = false := by simp [ha]
        by_cases hb' : n.b = 0
        ·have tb : (n.b != 0) = false := by simp [hb']
         have HO : Hid (okHead n = true) := hid (by simp [okHead, ho, ha, hb'])
         clear ho ha hb'
         go_wp2_with fail
         go_meet
         exact ⟨by simp [HO.out], rfl⟩
        ·have tb : (n.b != 0) = true := by simp [hb']
         have HO : Hid (okHead n = false) := hid (by simp [okHead, ho, ha, hb'])
         clear ho ha hb'
         go_wp2_with fail
         go_meet
         exact ⟨by simp [HO.out], rfl⟩
       ·have ta : (n.a != 0) = true := by simp [ha]
        have HO : Hid (okHead n = false) := hid (by simp [okHead, ho, ha])
        clear ho ha
        go_wp2_with fail
        go_meet
        exact ⟨by simp [HO.out], rfl⟩
      ·have o2 := ho
       clear ho
       by_cases ho : n.op = 3
       ·have t0 : decide (n.op < 0) = false := by simp [ho]
        have t1 : decide (5 < n.op) = false := by simp [ho]
        have t2 : (n.op != 2) = true := by simp [ho]
        have t3 : decide (n.op < 3) = false := by simp [ho]
        have t4 : (n.op == 5) = false := by simp [ho]
        by_cases hs : n.sym.toList = []
        ·have hse : n.sym.toList.isEmpty = true := by simp [hs]
         have HO : Hid (okHead n = true) := hid (by simp [okHead, ho, ← sym_iff, hs])
         clear ho
         go_wp2_with fail
         go_meet
         exact ⟨by simp [HO.out], rfl⟩
        ·have hse : n.sym.toList.isEmpty = false := by simp [hs]
         have HO : Hid (okHead n = false) := hid (by simp [okHead, ho, ← sym_iff, hs])
         clear ho
         go_wp2_with fail
         go_meet
         exact ⟨by simp [HO.out], rfl⟩
       ·have o3 := ho
        clear ho
        by_cases ho : n.op = 4
        ·have t0 : decide (n.op < 0) = false := by simp [ho]
         have t1 : decide (5 < n.op) = false := by simp [ho]
         have t2 : (n.op != 2) = true := by simp [ho]
         have t3 : decide (n.op < 3) = false := by simp [ho]
         have t4 : (n.op == 5) = false := by simp [ho]
         by_cases hs : n.sym.toList = []
         ·have hse : n.sym.toList.isEmpty = true := by simp [hs]
          have HO : Hid (okHead n = true) := hid (by simp [okHead, ho, ← sym_iff, hs])
          clear ho
          go_wp2_with fail
          go_meet
          exact ⟨by simp [HO.out], rfl⟩
         ·have hse : n.sym.toList.isEmpty = false := by simp [hs]
          have HO : Hid (okHead n = false) := hid (by simp [okHead, ho, ← sym_iff, hs])
          clear ho
          go_wp2_with fail
          go_meet
          exact ⟨by simp [HO.out], rfl⟩
        ·have o4 := ho
         clear ho
         by_cases ho : n.op = 5
         ·have t0 : decide (n.op < 0) = false := by simp [ho]
          have t1 : decide (5 < n.op) = false := by simp [ho]
          have t2 : (n.op != 2) = true := by simp [ho]
          have t3 : decide (n.op < 3) = false := by simp [ho]
          have t4 : (n.op == 5) = true := by simp [ho]
          by_cases hs : n.sym.toList = []
          ·have hse : n.sym.toList.isEmpty = true := by simp [hs]
           by_cases hb' : n.b = 0
           ·have tb : (n.b != 0) = false := by simp [hb']
            have HO : Hid (okHead n = true) := hid (by simp [okHead, ho, ← sym_iff, hs, hb'])
            clear ho hb'
            go_wp2_with fail
            go_meet
            exact ⟨by simp [HO.out], rfl⟩
           ·have tb : (n.b != 0) = true := by simp [hb']
            have HO : Hid (okHead n = false) := hid (by simp [okHead, ho, ← sym_iff, hs, hb'])
            clear ho hb'
            go_wp2_with fail
            go_meet
            exact ⟨by simp [HO.out], rfl⟩
          ·have hse : n.sym.toList.isEmpty = false := by simp [hs]
           have HO : Hid (okHead n = false) := hid (by simp [okHead, ho, ← sym_iff, hs])
           clear ho
           go_wp2_with fail
           go_meet
           exact ⟨by simp [HO.out], rfl⟩
         ·have o5 := ho
          clear ho
          have HO : Hid (okHead n = false) := hid (by
           have h : n.op < 0 ∨ 5 < n.op := by omega
           unfold okHead
           rcases h with h | h
           ·rw [show decide (0 ≤ n.op) = false by simp; omega]; simp
           ·rw [show decide (n.op ≤ 5) = false by simp; omega]; simp)
          have hh : n.op < 0 ∨ (0 ≤ n.op ∧ 5 < n.op) := by omega
          clear o0 o1 o2 o3 o4 o5
          rcases hh with h | ⟨h, h'⟩
          ·have t0 : decide (n.op < 0) = true := by simp [h]
           go_wp2_with fail
           go_meet
           exact ⟨by simp [HO.out], rfl⟩
          ·have t0 : decide (n.op < 0) = false := by simp; omega
           have t1 : decide (5 < n.op) = true := by simp [h']
           go_wp2_with fail
           go_meet
           exact ⟨by simp [HO.out], rfl⟩
   case rest =>
    obtain ⟨rfl, rfl⟩ := hcut
    cases hh : okHead n with
    | false =>
      have HH := hid hh
      clear hh
      go_wp2_with fail
      go_ret
      exact ⟨_, rfl, .inr (.inl ⟨hl, (fun F => by have := F.ok k n HN.out; rw [ok_parts, HH.out] at this; cases this), rfl⟩), HE.out.alloc HE.out.size _⟩
    | true =>
      have HH := hid hh
      clear hh e0 e1 e2 e3
      obtain ⟨wo, rfl⟩ : ∃ wo : World, wo = wr := ⟨_, rfl⟩
      go_wp2_with (first | (go_at_call 90; refine (parts_any n _).mono ?_; rintro e w1 ⟨v, rfl, ⟨ao, c, rfl, hcell⟩, hx⟩; have HCELL := hid hcell; have HX := hid hx; clear hcell hx))
      have hki := kidsI_le n
      have hsz1 := HX.out.size
      simp at hsz1
      have HEw : Hid (Ext w w1) := hid ((HE.out.alloc HE.out.size _).trans (HX.out.mono (by have := HE.out.size; simp; omega)))
      go_loopg [7] (kidsI n).length (fun g v wi => ∃ j, g = (kidsI n).length - j ∧ RefIn l k n w w1 w.heap.size j v wi)
      case atStart =>
       refine ⟨0, rfl, Nat.zero_le _, rfl, fun i x h => absurd h (Nat.not_lt_zero i), ?_, Chg.refl _ _⟩
       rw [show natTo n 0 = [] from rfl, List.append_nil]
       exact (HU.out.alloc _).ext HX.out
      case round =>
       obtain ⟨j, rfl, hj, rfl, hin, hBi, hCi⟩ := hrel
       have HIN := hid hin
       have HBi := hid hBi
       have HCi := hid hCi
       have HEi : Hid (Ext w wr) := hid (((Chg.of_ext (S := (· = w.heap.size)) HEw.out).trans hCi).below (Nat.le_refl _) (fun j hj => by omega))
       clear hin hBi hCi
       by_cases hjl : j < (kidsI n).length
       ·obtain ⟨x, hxj⟩ : ∃ x, (kidsI n)[j]? = some x := ⟨_, List.getElem?_eq_getElem hjl⟩
        obtain ⟨g, rfl, hgb, hgl, hcx⟩ := HCELL.out j x hxj
        simp at hgb
        have HXJ := hid hxj
        have cx : wr.cell? ⟨g, j, none⟩ = some (.int .i64 x) := (cell_of_chg (a := ⟨g, j, none⟩) HCi.out hgl (by show ¬ _ = _; simp; omega)).trans hcx
        clear hxj hcx
        cases hR : inR k x with
        | false =>
          have HR := hid hR
          have hh : x < 0 ∨ (0 ≤ x ∧ (k : Int) ≤ x) := by
           rcases Int.lt_or_le x 0 with h1 | h1
           ·exact .inl h1
           ·refine .inr ⟨h1, ?_⟩
            simp [inR, h1] at hR; exact hR
          clear hR
          have HNF : Hid (¬ Rx.Form l) := hid (fun F => by
           have h1 := F.ok k n HN.out
           rw [ok_parts, HH.out, Bool.true_and, List.all_eq_true] at h1
           have := h1 x (List.mem_of_getElem? HXJ.out)
           rw [HR.out] at this; cases this)
          rcases hh with h | ⟨h, h'⟩
          ·have t0 : decide (x < 0) = true := by simp [h]
           go_wp2_with fail
           go_ret
           exact ⟨_, rfl, .inr (.inl ⟨hl, HNF.out, rfl⟩), HEi.out⟩
          ·have t0 : decide (x < 0) = false := by simp; omega
           have t1 : decide ((k : Int) ≤ x) = true := by simp [h']
           go_wp2_with fail
           go_ret
           exact ⟨_, rfl, .inr (.inl ⟨hl, HNF.out, rfl⟩), HEi.out⟩
        | true =>
          obtain ⟨y, hy, hyk⟩ := inR_nat hR
          have HR := hid hR
          have HY := hid hy
          rw [hy] at cx
          clear hR hy
          have hyl : y < l.length := by omega
          have t0 : decide ((y : Int) < 0) = false := by simp
          have t1 : decide (k ≤ y) = false := by simp; omega
          have cu := HBi.out.cell (usesC_get (ks := kidsTo l k ++ natTo n j) hyl)
          have fu := HBi.out.frozen y
          have hcnt : (kidsTo l k ++ natTo n j).count y ≤ 1000000 := by
           have h1 := List.count_le_length (a := y) (l := kidsTo l k ++ natTo n j)
           have h2 := kidsTo_len l k
           have h3 : (natTo n j).length ≤ j := by simp [natTo]; omega
           rw [List.length_append] at h1
           omega
          obtain ⟨cc, HCC⟩ : ∃ cc, Hid (cc = (kidsTo l k ++ natTo n j).count y) := ⟨_, rfl⟩
          rw [← HCC.out] at cu hcnt
          go_wp2_with fail
          go_roundg ((kidsI n).length - (j + 1))
          case measure => omega
          case rel =>
           refine ⟨j + 1, rfl, by omega, by go_num, fun i z hi hz => ?_, ?_, HCi.out.setCell (p := ⟨_, _, _⟩) rfl _⟩
           ·by_cases e : i = j
            ·subst e; rw [HXJ.out] at hz; cases hz; exact HR.out
            ·exact HIN.out i z (by omega) hz
           ·have h1 := HBi.out.set y (.int .i64 ((kidsTo l k ++ natTo n j).count y + 1 : Nat))
            rw [usesC_next _ _ _ hyl, List.append_assoc] at h1
            have h2 : natTo n j ++ [y] = natTo n (j + 1) := by
             have h3 := List.getElem?_eq_some_iff.1 HXJ.out
             rw [natTo, natTo, List.take_succ_eq_append_getElem h3.1, List.map_append, h3.2, HY.out]; rfl
            rw [h2, ← HCC.out] at h1
            exact h1
       ·obtain rfl : j = (kidsI n).length := by omega
        go_wp2_with fail
        go_roundg (l.length - (k + 1))
        case measure => omega
        case rel =>
         refine ⟨k + 1, rfl, by omega, by go_num, fun i m hi hm => ?_, ?_, HEi.out⟩
         ·by_cases e : i = k
          ·subst e; rw [HN.out] at hm; cases hm
           rw [ok_parts, HH.out, Bool.true_and, List.all_eq_true]
           intro x hx
           obtain ⟨q, hq⟩ := List.getElem?_of_mem hx
           exact HIN.out q x (List.getElem?_eq_some_iff.1 hq).1 hq
          ·exact HOK.out i m (by omega) hm
         ·have := HBi.out
          rw [natTo, List.take_length, ← kids_of_I, ← kidsTo_next HN.out] at this
          exact this
  ·obtain rfl : k = l.length := by omega
   clear hE hBU hok hlt
   obtain ⟨wo, rfl⟩ : ∃ wo : World, wo = wr := ⟨_, rfl⟩
   go_wp2_with fail
   go_loopg [8] (l.length - 1) (fun g v wi => ∃ j, g = l.length - 1 - j ∧ j ≤ l.length - 1 ∧ v = .int .i64 j ∧ wo = wi ∧ Hid (∀ i, i < j → (kidsTo l l.length).count i = 1))
   case atStart => exact ⟨0, rfl, Nat.zero_le _, rfl, rfl, hid (fun i h => by omega)⟩
   case round =>
    obtain ⟨j, rfl, hj, rfl, rfl, HJ⟩ := hrel
    by_cases hjl : j < l.length - 1
    ·have hjl2 : j < l.length := by omega
     have hji : (j : Int) < (l.length : Int) - 1 := by omega
     have c1 : wo.cell? ⟨w.heap.size, j, none⟩ = some (.int .i64 ((kidsTo l l.length).count j : Nat)) := HU.out.cell (usesC_get hjl2)
     obtain ⟨c, HCc⟩ : ∃ c, Hid (c = (kidsTo l l.length).count j) := ⟨_, rfl⟩
     rw [← HCc.out] at c1
     by_cases h1 : c = 1
     ·have tc : ((c : Int) != 1) = false := by simp [h1]
      have H1 := hid h1
      clear h1
      go_wp2_with fail
      go_roundg (l.length - 1 - (j + 1))
      case measure => omega
      case rel =>
       refine ⟨j + 1, rfl, by omega, by go_num, rfl, hid fun i hi => ?_⟩
       by_cases e : i = j
       ·subst e; rw [← HCc.out]; exact H1.out
       ·exact HJ.out i (by omega)
     ·have tc : ((c : Int) != 1) = true := by simp; omega
      have H1 := hid h1
      clear h1
      go_wp2_with fail
      go_ret
      refine ⟨_, rfl, .inr (.inl ⟨hl, fun F => H1.out ?_, rfl⟩), HE.out⟩
      have := F.one j (by omega)
      rw [HCc.out, ← this, kidsTo, List.take_length]; rfl
    ·obtain rfl : j = l.length - 1 := by omega
     have hji : ¬ ((l.length - 1 : Nat) : Int) < (l.length : Int) - 1 := by omega
     have HF : Hid (Rx.Form l) := hid ⟨fun e => by simp [e] at h0, fun i n hn => HOK.out i n (lt_of_some hn) hn, fun i hi => by
      have := HJ.out i (by omega)
      rwa [kidsTo, List.take_length] at this⟩
     clear hjl
     go_wp2_with fail
     go_loopg [9] l.length (fun g v wi => ∃ j, g = l.length - j ∧ j ≤ l.length ∧ v = .int .i64 j ∧ wo = wi ∧ Hid (∀ (i : Nat) (n : Nd), i < j → l[i]? = some n → n.op = 2 → nameOk n.sym = true))
     case atStart => exact ⟨0, rfl, Nat.zero_le _, rfl, rfl, hid (fun i n h => absurd h (Nat.not_lt_zero i))⟩
     case round =>
      obtain ⟨k, rfl, hk, rfl, rfl, HNM⟩ := hrel
      by_cases hlt : k < l.length
      ·obtain ⟨n, hn⟩ : ∃ n, l[k]? = some n := ⟨_, List.getElem?_eq_getElem hlt⟩
       obtain ⟨q0, q1, q2, q3⟩ := HC.out k n hn
       have e0 : wo.cell? ⟨b, off + k * 4, none⟩ = some (.int .i64 n.op) := (HE.out.cell (p := ⟨b, off + k * 4, none⟩) hb).trans q0
       have e1 : wo.cell? ⟨b, off + k * 4 + 1, none⟩ = some (.string n.sym) := (HE.out.cell (p := ⟨b, off + k * 4 + 1, none⟩) hb).trans q1
       have hsz := HV.out.size k n hn
       have HNN := hid hn
       clear hn q0 q1 q2 q3
       by_cases ho : n.op = 2
       ·have t2 : (n.op == 2) = true := by simp [ho]
        have HO := hid ho
        clear ho
        cases hok : nameOk n.sym with
        | false =>
          have HK := hid hok
          clear hok
          go_wp2_with (first | (go_at_call 30; refine (name_any n.sym _ (by unfold maxLen; omega)).mono ?_; rintro e w' ⟨rfl, rfl⟩; rw [HK.out]))
          go_ret
          exact ⟨_, rfl, .inr (.inr (.inl ⟨hl, HF.out, (fun h => by have := h k n HNN.out HO.out; rw [HK.out] at this; cases this), rfl⟩)), HE.out⟩
        | true =>
          have HK := hid hok
          clear hok
          go_wp2_with (first | (go_at_call 30; refine (name_any n.sym _ (by unfold maxLen; omega)).mono ?_; rintro e w' ⟨rfl, rfl⟩; rw [HK.out]))
          go_roundg (l.length - (k + 1))
          case measure => omega
          case rel =>
           refine ⟨k + 1, rfl, by omega, by go_num, rfl, hid fun i m hi hm hm2 => ?_⟩
           by_cases e : i = k
           ·subst e; rw [HNN.out] at hm; cases hm; exact HK.out
           ·exact HNM.out i m (by omega) hm hm2
       ·have t2 : (n.op == 2) = false := by simp [ho]
        have HO := hid ho
        clear ho
        go_wp2_with fail
        go_roundg (l.length - (k + 1))
        case measure => omega
        case rel =>
         refine ⟨k + 1, rfl, by omega, by go_num, rfl, hid fun i m hi hm hm2 => ?_⟩
         by_cases e : i = k
         ·subst e; rw [HNN.out] at hm; cases hm; exact (HO.out hm2).elim
         ·exact HNM.out i m (by omega) hm hm2
      ·obtain rfl : k = l.length := by omega
       go_wp2_with fail
       go_ret
       exact ⟨_, rfl, .inr (.inr (.inr ⟨hl, HF.out, fun i n hn => HNM.out i n (lt_of_some hn) hn, rfl⟩)), HE.out⟩
theorem refcheck_any {l : List Nd} {w : World} {ao : Option Addr} (hV : NodesV w ao l) (cap : Nat) :
 Calls Tryz.prog 29 #[.slice ao l.length cap] w (CheckPost l w) := by
 have hlen := hV.len
 by_cases hl : l.length ≤ 1024
 ·by_cases h0 : 0 < l.length
  ·obtain ⟨b, off, rfl, hb, hc⟩ := hV.cells h0
   exact refcheck_walk hV cap hl h0 hb hc
  ·obtain rfl : l = [] := List.length_eq_zero_iff.1 (by omega)
   show Calls Tryz.prog 29 #[.slice ao 0 cap] w _
   go_enter Tryz.func29, Tryz.ntmps29
   go_wp2_with fail
   go_ret
   exact ⟨_, rfl, .inr (.inl ⟨Nat.zero_le _, (fun F => F.ne rfl), rfl⟩), Below.refl _ _⟩
 ·have hl2 : 1024 < l.length := by omega
  go_enter Tryz.func29, Tryz.ntmps29
  go_wp2_with fail
  go_ret
  exact ⟨_, rfl, .inl ⟨hl2, rfl⟩, Below.refl _ _⟩
end Go.Proofs.YtngpjagpeblbjaaGreatDoor
namespace Go.Proofs.YtngpjagpeblbjaaGreatDoor
open Go.RowKit Go.Spy Go.Rx
theorem elem_ref : ElemOk Tryz.prog 52 58 4 40 where
 under := Tryz.underlying52
 info := by
  obtain ⟨i, h1, h2, h3, h4⟩ := info_parts (P := Tryz.prog) (e := 58) (z := .agg #[.int .i64 0, .string ⟨#[]⟩, .int .i64 0, .int .i64 0]) (size := 4) (bytes := 40) (by kernel_rfl)
  exact ⟨i, _, h1, h2, h3, h4, rfl⟩
 pos := by decide
 small := by decide
def PlainPost (l : List Nd) (w : World) (e : Ending) (w' : World) : Prop := ∃ ao c, e = .returned (.slice ao l.length c) ∧ l.length ≤ c ∧ NodesV w' ao l ∧ Ext w w' ∧ ∀ b off, ao = some ⟨b, off, none⟩ → w.heap.size ≤ b ∨ l.length = 0
set_option maxRecDepth 100000 in
set_option maxHeartbeats 1000000 in
theorem plain_any {l : List Nd} {w : World} {ao : Option Addr} (hV : NodesV w ao l) (cap : Nat) (hl : l.length ≤ 1024) :
 Calls Tryz.prog 28 #[.agg #[.slice ao l.length cap]] w (PlainPost l w) := by
 have HV := hid hV
 clear hV
 go_enter Tryz.func28, Tryz.ntmps28
 go_wp2_with fail
 go_loopg [3, 4] l.length (fun g v i wr => ∃ k, g = l.length - k ∧ k ≤ l.length ∧ i = .int .i64 k ∧ Hid (OwnR wr w.heap.size 58 4 ndV v (l.take k)) ∧ Hid (Ext w wr) ∧ Hid (wr.cell? ⟨w.heap.size, 0, none⟩ = some (.slice ao l.length cap)) ∧ w.heap.size < wr.heap.size ∧ v.ownBlock ≠ some w.heap.size)
 case atStart => exact ⟨0, rfl, Nat.zero_le _, rfl, hid (OwnR.nil _ _ _ _ _), hid ((Below.refl _ _).alloc (Nat.le_refl _) _), hid ((Blk.new w _ _).cell (i := 0) rfl), by simp, by simp [Value.ownBlock]⟩
 case round =>
  obtain ⟨k, rfl, hk, rfl, HO, HE, HX, hsz, hne⟩ := hrel
  have x0 := HX.out
  by_cases hlt : k < l.length
  ·obtain ⟨b, off, rfl, hb, hc⟩ := (HV.out.ext HE.out).cells (by omega)
   obtain ⟨n, hn⟩ : ∃ n, l[k]? = some n := ⟨_, List.getElem?_eq_getElem hlt⟩
   obtain ⟨q0, q1, q2, q3⟩ := hc k n hn
   have hlen : (l.take k).length = k := by simp; omega
   have HL := hid hlen
   have HN := hid hn
   have HNE := hid hne
   clear hc hn hlen hne
   have HO2 : Hid (OwnR (wr.alloc (.cells #[.int .i64 n.op, .string n.sym, .int .i64 n.a, .int .i64 n.b] 100)) w.heap.size 58 4 ndV u3 (l.take k)) := hid (HO.out.alloc _)
   go_wp2_with (first | (at_builtin; go_must (refine wpList_append_R elem_ref ndV_size ones_ndV HO2 (by simp; omega) (by rw [HL.out]; omega) n _ rfl (wr.heap.size + 1) (by simp) rfl _ _ rfl rfl rfl ?_); rintro g' cap' v' w4 rfl H1 H2))
   go_roundg (l.length - (k + 1))
   case measure => omega
   case rel =>
    have hg := (HO.out.lt)
    refine ⟨k + 1, rfl, by omega, by go_num, hid ?_, hid (ext_grown (HE.out.alloc HE.out.size _) H2.out.1 (fun i hi => (hg i hi).1)), hid ?_, ?_, ?_⟩
    ·have h1 := H1.out
     obtain ⟨hk', e⟩ := List.getElem?_eq_some_iff.1 HN.out
     rw [List.take_succ_eq_append_getElem hk', e]
     have h2 : (l.take k).length + 1 = (k + 1) := by rw [HL.out]
     rw [h2] at h1
     exact h1
    ·refine (H2.out.1.cell_far ⟨w.heap.size, 0, none⟩ (by simp; omega) (fun e => HNE.out e.symm)).trans ?_
     exact (((Below.refl _ _).alloc (Nat.le_refl _) _).cell (p := ⟨w.heap.size, 0, none⟩) hsz).trans HX.out
    ·have := H2.out.1.size; simp at this; omega
    ·intro e
     simp only [Value.ownBlock, Option.some.injEq] at e
     rcases H2.out.2 with h | h
     ·rw [e] at h; exact HNE.out h
     ·simp at h; omega
  ·obtain rfl : k = l.length := by omega
   have hO := HO.out
   rw [List.take_length] at hO
   obtain ⟨ao', c, rfl, hc, hN, hB⟩ := nodes_of_own hO HV.out.len HV.out.size
   clear hO
   have HN := hid hN
   have HB := hid hB
   clear hN hB
   go_wp2_with fail
   go_ret
   exact ⟨_, _, rfl, hc, HN.out, HE.out, HB.out⟩
def SmallL (l : List Nd) : Prop := l.length ≤ 24 ∧ ∀ n ∈ l, n.sym.size ≤ 80
def SmallPost (l : List Nd) (w : World) (e : Ending) (w' : World) : Prop := ∃ b, e = .returned (.bool b) ∧ (b = true ↔ SmallL l) ∧ Ext w w'
set_option maxRecDepth 100000 in
set_option maxHeartbeats 1000000 in
theorem small_any {l : List Nd} {w : World} {ao : Option Addr} (hV : NodesV w ao l) (cap : Nat) :
 Calls Tryz.prog 21 #[.agg #[.slice ao l.length cap]] w (SmallPost l w) := by
 have HV := hid hV
 have hlen := hV.len
 clear hV
 go_enter Tryz.func21, Tryz.ntmps21
 go_wp2_with fail
 go_loopg [3] l.length (fun g i wr => ∃ k, g = l.length - k ∧ k ≤ l.length ∧ i = .int .i64 k ∧ wr = w.alloc (.cells #[.slice ao l.length cap] 45) ∧ Hid (∀ (j : Nat) (n : Nd), j < k → l[j]? = some n → n.sym.size ≤ 80))
 case atStart => exact ⟨0, rfl, Nat.zero_le _, rfl, rfl, hid (fun j n h => absurd h (Nat.not_lt_zero j))⟩
 case round =>
  obtain ⟨k, rfl, hk, rfl, rfl, HA⟩ := hrel
  by_cases hlt : k < l.length
  ·obtain ⟨b, off, rfl, hb, hc⟩ := HV.out.cells (by omega)
   obtain ⟨n, hn⟩ : ∃ n, l[k]? = some n := ⟨_, List.getElem?_eq_getElem hlt⟩
   obtain ⟨q0, q1, q2, q3⟩ := hc k n hn
   have hsz := HV.out.size k n hn
   have HN := hid hn
   clear hc hn
   by_cases h80 : n.sym.size ≤ 80
   ·have h80' : ¬ 80 < n.sym.size := by omega
    go_wp2_with fail
    go_roundg (l.length - (k + 1))
    case measure => omega
    case rel =>
     refine ⟨k + 1, rfl, by omega, by go_num, rfl, hid fun j m hj hm => ?_⟩
     by_cases e : j = k
     ·subst e; rw [HN.out] at hm; cases hm; exact h80
     ·exact HA.out j m (by omega) hm
   ·have h80' : 80 < n.sym.size := by omega
    go_wp2_with fail
    go_ret
    exact ⟨_, rfl, ⟨fun h => (by cases h), fun h => (h80 (h.2 n (List.mem_of_getElem? HN.out))).elim⟩, (Below.refl _ _).alloc (Nat.le_refl _) _⟩
  ·obtain rfl : k = l.length := by omega
   by_cases h24 : l.length ≤ 24
   all_goals
    go_wp2_with fail
    go_ret
    refine ⟨_, rfl, ?_, (Below.refl _ _).alloc (Nat.le_refl _) _⟩
    have hall : ∀ n ∈ l, n.sym.size ≤ 80 := fun n hn => by
     obtain ⟨j, hj⟩ := List.getElem?_of_mem hn
     exact HA.out j n (lt_of_some hj) hj
    exact ⟨fun h => ⟨by have h' : (l.length : Int) ≤ 24 := by simpa using h
                        omega, hall⟩, fun h => by have := h.1; simp; omega⟩
end Go.Proofs.YtngpjagpeblbjaaGreatDoor
namespace Go.Proofs.YtngpjagpeblbjaaGreatDoor
open Go.RowKit Go.Spy Go.Rx
def NullPost (b : Bool) (w : World) (e : Ending) (w' : World) : Prop := e = .returned (.bool b) ∧ Ext w w'
set_option maxRecDepth 100000 in
set_option maxHeartbeats 1000000 in
theorem null_any {l : List Nd} (F : Rx.Form l) (i : Nat) : ∀ (w : World) (ao : Option Addr) (cap : Nat), NodesV w ao l → i < l.length →
 Calls Tryz.prog 121 #[.slice ao l.length cap, .int .i64 i] w fun e w' => NullPost (nullT (tr l i)) w e w' := by
 induction i using Nat.strongRecOn with
 | _ i ih =>
 intro w ao cap hV hi
 obtain ⟨b, off, rfl, hb, hc⟩ := hV.cells (by omega)
 obtain ⟨n, hn⟩ : ∃ n, l[i]? = some n := ⟨_, List.getElem?_eq_getElem hi⟩
 obtain ⟨q0, q1, q2, q3⟩ := hc i n hn
 have hlen := hV.len
 have IH := hid ih
 have HV := hid hV
 clear ih hc hV
 cases F.kind hn with
 | none ho s a b =>
   have HT := hid (tr_none hn ho)
   rw [ho] at q0
   clear ho s a b hn
   go_enter Tryz.func121, Tryz.ntmps121
   go_wp2_with fail
   go_ret
   exact ⟨by rw [HT.out]; rfl, (Below.refl _ _).alloc (Nat.le_refl _) _⟩
 | empty ho s a b =>
   have HT := hid (tr_empty hn ho)
   rw [ho] at q0
   clear ho s a b hn
   go_enter Tryz.func121, Tryz.ntmps121
   go_wp2_with fail
   go_ret
   exact ⟨by rw [HT.out]; rfl, (Below.refl _ _).alloc (Nat.le_refl _) _⟩
 | sym ho a b =>
   have HT := hid (tr_sym hn ho)
   rw [ho] at q0
   clear ho a b hn
   go_enter Tryz.func121, Tryz.ntmps121
   go_wp2_with fail
   go_ret
   exact ⟨by rw [HT.out]; rfl, (Below.refl _ _).alloc (Nat.le_refl _) _⟩
 | star ho s x a b hx =>
   have HT := hid (tr_star hn ho a hx)
   rw [ho] at q0
   clear ho s a b hn
   go_enter Tryz.func121, Tryz.ntmps121
   go_wp2_with fail
   go_ret
   exact ⟨by rw [HT.out]; rfl, (Below.refl _ _).alloc (Nat.le_refl _) _⟩
 | cat ho s x y ha hb' hx hy =>
   have HT := hid (tr_cat hn ho ha hb' hx hy)
   rw [ho] at q0
   rw [ha] at q2
   rw [hb'] at q3
   clear ho s ha hb' hn
   go_enter Tryz.func121, Tryz.ntmps121
   go_wp2_with fail
   refine (IH.out x hx _ _ cap (HV.out.ext ((Below.refl _ w).alloc (Nat.le_refl _) _)) (by omega)).mono ?_
   rintro e w1 ⟨rfl, h1⟩
   have HX1 := hid h1
   have c3 : w1.cell? ⟨w.heap.size, 3, none⟩ = some (.int .i64 y) := ((Blk.new w _ _).ext h1).cell (i := 3) rfl
   have HE1 : Hid (Ext w w1) := hid (((Below.refl _ w).alloc (Nat.le_refl _) _).trans (h1.mono (by simp)))
   clear h1
   cases hA : nullT (tr l x) with
   | false =>
     have HA := hid hA
     clear hA
     go_wp2_with fail
     go_ret
     exact ⟨by rw [HT.out, nullT, HA.out]; rfl, HE1.out⟩
   | true =>
     have HA := hid hA
     clear hA
     go_wp2_with fail
     refine (IH.out y hy _ _ cap (HV.out.ext HE1.out) (by omega)).mono ?_
     rintro e w2 ⟨rfl, h2⟩
     have HX2 := hid h2
     clear h2
     go_wp2_with fail
     go_ret
     exact ⟨by rw [HT.out, nullT, HA.out, Bool.true_and]; rfl, HE1.out.trans (HX2.out.mono HE1.out.size)⟩
 | alt ho s x y ha hb' hx hy =>
   have HT := hid (tr_alt hn ho ha hb' hx hy)
   rw [ho] at q0
   rw [ha] at q2
   rw [hb'] at q3
   clear ho s ha hb' hn
   go_enter Tryz.func121, Tryz.ntmps121
   go_wp2_with fail
   refine (IH.out x hx _ _ cap (HV.out.ext ((Below.refl _ w).alloc (Nat.le_refl _) _)) (by omega)).mono ?_
   rintro e w1 ⟨rfl, h1⟩
   have HX1 := hid h1
   have c3 : w1.cell? ⟨w.heap.size, 3, none⟩ = some (.int .i64 y) := ((Blk.new w _ _).ext h1).cell (i := 3) rfl
   have HE1 : Hid (Ext w w1) := hid (((Below.refl _ w).alloc (Nat.le_refl _) _).trans (h1.mono (by simp)))
   clear h1
   cases hA : nullT (tr l x) with
   | true =>
     have HA := hid hA
     clear hA
     go_wp2_with fail
     go_ret
     exact ⟨by rw [HT.out, nullT, HA.out]; rfl, HE1.out⟩
   | false =>
     have HA := hid hA
     clear hA
     go_wp2_with fail
     refine (IH.out y hy _ _ cap (HV.out.ext HE1.out) (by omega)).mono ?_
     rintro e w2 ⟨rfl, h2⟩
     have HX2 := hid h2
     clear h2
     go_wp2_with fail
     go_ret
     exact ⟨by rw [HT.out, nullT, HA.out, Bool.false_or]; rfl, HE1.out.trans (HX2.out.mono HE1.out.size)⟩
end Go.Proofs.YtngpjagpeblbjaaGreatDoor
namespace Go.Tour
variable {K : Type} [DecidableEq K]
section
variable {succ : K → List K} {first : K} {r i j : Nat} {s : St K} {l : List K} {k : K}
theorem vis1_goes_len (r : Nat) (s : St K) (k : K) (j : Nat) : (vis1 r s k j).goes.length = s.goes.length + 1 := by
 unfold vis1; split <;> simp
theorem visN_goes_len (r : Nat) (s : St K) (l : List K) : ∀ j, j ≤ l.length → (visN r s l j).goes.length = s.goes.length + j
 | 0, _ => rfl
 | j + 1, h => by
   rw [visN_succ (List.getElem?_eq_getElem (by omega)), vis1_goes_len, visN_goes_len r s l j (by omega)]
   omega
end
end Go.Tour
namespace Go.Tour
section
variable {K L : Type} [DecidableEq K] [DecidableEq L]
section
variable {succ : K → List K} {succ' : L → List L} {first : K} {φ : K → L} {U : K → Prop}
theorem idxOf_map_on {φ : K → L} : ∀ (ks : List K) (k : K), (∀ a ∈ ks, φ a = φ k → a = k) → (ks.map φ).idxOf (φ k) = ks.idxOf k
 | [], _, _ => rfl
 | a :: ks, k, h => by
   simp only [List.map_cons, List.idxOf_cons]
   by_cases e : a = k
   ·subst e; simp
   ·have e' : φ a ≠ φ k := fun x => e (h a (by simp) x)
    have e1 : (a == k) = false := by simpa using e
    have e2 : (φ a == φ k) = false := by simpa using e'
    rw [e1, e2]
    simp only [cond_false]
    rw [idxOf_map_on ks k (fun b hb => h b (by simp [hb]))]
end
section
variable {succ : K → List K} {first : K} {r i j : Nat} {s : St K} {l : List K} {k : K}
end
end
end Go.Tour
namespace Go.Tour
open Go.Spy
theorem ltB_total {a b : ByteArray} (h : a ≠ b) : ltB a b = true ∨ ltB b a = true := by
 rw [ltB_iff, ltB_iff]
 rcases Decidable.em (a.toList < b.toList) with h1 | h1
 ·exact .inl h1
 ·refine .inr ?_
  have h2 : b.toList ≤ a.toList := List.not_lt.1 h1
  rcases Decidable.em (b.toList < a.toList) with h3 | h3
  ·exact h3
  ·exact absurd (bytes_ext (List.le_antisymm (List.not_lt.1 h3) h2)) h
end Go.Tour
namespace Go.Proofs.YtngpjagpeblbjaaGreatDoor
open Go.RowKit Go.Spy Go.Heaped Go.Tour Go.Rx
theorem read_of_strs {w : World} {ao : Option Addr} {c : Nat} {l : List ByteArray} (h : StrsV w ao c l) : ReadR w 1 strC (.slice ao l.length c) l := by
 refine ⟨ao, c, rfl, ?_⟩
 rcases Nat.eq_zero_or_pos l.length with h0 | h0
 ·exact .inl h0
 ·obtain ⟨b, off, rfl, hb, hc⟩ := h.cells h0
  refine .inr ⟨b, off, rfl, hb, fun j k x hx hk => ?_⟩
  obtain rfl : k = 0 := by omega
  obtain ⟨hj, rfl⟩ := List.getElem?_eq_some_iff.1 hx
  rw [Nat.mul_one, Nat.add_zero]
  exact hc j hj
theorem strs_mild {w : World} {ao : Option Addr} {c : Nat} {l : List ByteArray} (h : StrsV w ao c l) : MildS l := ⟨h.len, fun s hs => by
 obtain ⟨i, hi, rfl⟩ := List.getElem_of_mem hs
 exact h.size i hi⟩
end Go.Proofs.YtngpjagpeblbjaaGreatDoor
