/-
  Small general lemmas on the model: blocks of cells, maps with known keys, slices that read as lists. No program is named here.
  Slices of things that take some cells each, which a call builds by append. No program is named here.
  Walk of the reference's Name, for every text.
  DERIVED: THE SHELF's CONTRACTS AT THIS DUMP, IN PLAIN WORDS (tools/lay-plain.mjs out of 'TryzShelf.lean', which tools/lay-shelf.mjs wrote): THE SAME DECLARATION
  Plain law: states gone through in the order in which they are come to. No program is named here.
  Keys of maps: numbers, pairs of numbers, states of a regular expression's automaton.
  The start of travel; one step of it in each of its kinds.
  Loads of aggregates whose cells are held behind one name; what the two wide kinds of states have.
  Plain law of tours: other names for the states, where the rows lead, the words by which a state is come to first. No program is named here.
  Plain law: what a state matches; a tour whose states match unlike rows depends on what its first one matches alone. No program is named here.
  Plain law: numbers for the things of a list; classes of states made finer until they stay. No program is named here.
  Plain law: words in order; automata as a program holds them, and what is wrong with one.
  Regions in which one of two operations may come up; slices.Clone.
  Walks of the laws' small helpers: Small, none, Plain, ahead, Texts.
-/
import Derived.Test.YtngpjagpeblbjaaGreatDoorP01
import Derived.Test.YtngpjagpeblbjaaGreatDoorP02
import Derived.Test.YtngpjagpeblbjaaGreatDoorP03
import Derived.Test.YtngpjagpeblbjaaGreatDoorP04
import Derived.Test.YtngpjagpeblbjaaGreatDoorP05
import Derived.Test.YtngpjagpeblbjaaGreatDoorP06
import Derived.Test.YtngpjagpeblbjaaGreatDoorP07
import Derived.Test.YtngpjagpeblbjaaGreatDoorP08
import Derived.Test.YtngpjagpeblbjaaGreatDoorP09
import Derived.Test.YtngpjagpeblbjaaGreatDoorP10
import Derived.Test.YtngpjagpeblbjaaGreatDoorP11
import Derived.Test.YtngpjagpeblbjaaGreatDoorP12
import Derived.Test.YtngpjagpeblbjaaGreatDoorP13
import Derived.Test.YtngpjagpeblbjaaGreatDoorP14
import Derived.Test.YtngpjagpeblbjaaGreatDoorP15
import Derived.Test.YtngpjagpeblbjaaGreatDoorP16
import Derived.Test.YtngpjagpeblbjaaGreatDoorP17
import Derived.Test.YtngpjagpeblbjaaGreatDoorP18
import Derived.Test.YtngpjagpeblbjaaGreatDoorP19
import Derived.Test.YtngpjagpeblbjaaGreatDoorP20
import Derived.Test.YtngpjagpeblbjaaGreatDoorP21
import Derived.Test.YtngpjagpeblbjaaGreatDoorP22
import Derived.Test.YtngpjagpeblbjaaGreatDoorP23
import Derived.WalkKit
import Derived.WalkSpells
import Derived.WalkLawsBesides
import Derived.Deep.LoopGhost
import Derived.Deep.DeepCutAuto
import Derived.Deep.AppendLies
import Derived.OwnWalk
import Derived.Deep.Draws
import Derived.Laws.ResultCell
import Derived.Laws.CopyRow
import Derived.Laws.OwnMore
import Derived.Test.YtngpjagpeblbjaaGreatDoorRows
import Derived.Shelf.Sort.Plain
import Derived.Shelf.Slices.Turned
import Derived.Ground.Names2Prog
import Derived.Shelf.Slices.ReverseS
import Derived.Shelf.Slices.Clone
import Derived.Shelf.Slices.CompactS
import Derived.Shelf.Slices.SearchI
import Derived.Shelf.Slices.Cells
import Derived.Shelf.Slices.In.SortNone
import Derived.Test.YtngpjagpeblbjaaGreatDoorProg
import Derived.DeepKeys5
import Derived.BigRegion
import Derived.Lib.TrailingZeros
import Derived.Recover
import Derived.Deep.RegionLaw
import Derived.BigQuiet
import Derived.Deep.QuietTactic
import Derived.Deep.RegionWith
import Derived.StillTailTactics
import Derived.Outline
import Derived.Deep.CutBlock
import Derived.Deep.OwnRows
import Derived.StillTail
import Derived.StillTactics
import Derived.OrdersHeld
import Derived.Sort.Walk0
import Derived.IntWalk
import Derived.Sort.OwnSorted
import Derived.Sort.Grow
import Derived.Lib.OwnBridge
import Derived.Deep.Cut
import Derived.Lib.SlicesCompact
import Derived.Lib.RowBridge
namespace Go.Spy
open Go.RowKit
section
variable {w w' : World} {b : Nat} {t : TypeId} {vs : Array Value}
end
section
variable {S : Nat → Prop} {a w w' : World} {b : Nat} {t : TypeId} {vs : Array Value}
end
section
variable {κ : Type} [DecidableEq κ]
theorem checkKey_bool {P : Program} {kt : TypeId} (hd : P.underlying kt = some .bool) (w : World) (e : Bool) (n : Nat) (k : Bool) : (Instr.checkKey e (n + 1) kt (.bool k)).run P w = .ok () w := by
 simp [Instr.checkKey, run_underlying hd]
theorem keyOk_bool {P : Program} {kt : TypeId} (hd : P.underlying kt = some .bool) : KeyOk (κ := Bool) P kt Value.bool :=
 keyOk_now hd (fun w e k => checkKey_bool hd w e 9999 k) (fun a b => by
  simp only [Instr.sameNow, Option.some.injEq]
  cases a <;> cases b <;> rfl) (fun k => by simp [Instr.sameBits])
end
section
variable {κ : Type}
variable {w w' : World} {b : Nat} {enc : κ → Value} {l : List (κ × Value)}
theorem MapB.grown (h : MapB w b enc l) {row : Option Nat} (e : w.grownBy w' row) (hr : some b ≠ row) : MapB w' b enc l := h.of_block (e.block b h.lt hr)
end
section
variable {κ : Type} [DecidableEq κ] {w : World} {b : Nat} {enc : κ → Value} {l : List (κ × Value)}
end
end Go.Spy
namespace Go.Spy
open Go.RowKit
section
variable {α : Type}
variable {w w' : World} {base : Nat} {e : TypeId} {s : Nat} {f : α → Array Value} {v : Value} {l : List α}
theorem OwnR.drew (h : OwnR w base e s f v l) : OwnR w.drew base e s f v l := h
end
end Go.Spy
namespace Go.Proofs.YtngpjagpeblbjaaGreatDoor
open Go.RowKit Go.Spy
theorem nameOk_no {s : ByteArray} {k : Nat} (hlt : k < s.size) (h : isLet (s[k]'hlt).toNat = false) (h2 : k = 0 ∨ isPart (s[k]'hlt).toNat = false) : nameOk s = false := by
 rcases h2 with rfl | h2
 ·rw [nameOk, nameOk_head hlt, h]; simp
 ·rw [nameOk, allPart_no hlt h2]; simp
theorem nameOk_yes {s : ByteArray} (h : ∀ j (hj : j < s.size), isPart (s[j]'hj).toNat = true ∧ (j = 0 → isLet (s[j]'hj).toNat = true)) : nameOk s = (decide (1 ≤ s.size) && decide (s.size ≤ 64)) := by
 have h1 := allPart_yes fun j hj => (h j hj).1
 by_cases h0 : 0 < s.size
 ·rw [nameOk, nameOk_head h0, h1, (h 0 h0).2 rfl]; simp
 ·simp [nameOk, show s.size = 0 by omega]
set_option maxHeartbeats 1000000 in
theorem name_any (s : ByteArray) (w : World) (hs : s.size ≤ maxLen) :
 Calls Tryz.prog 30 #[.string s] w fun e w' => e = .returned (.bool (nameOk s)) ∧ w = w' := by
 unfold maxLen at hs
 go_enter Tryz.func30, Tryz.ntmps30
 go_wp2_with fail
 go_loopg [3] s.size (fun g i wr => ∃ k : Nat, k ≤ s.size ∧ g = s.size - k ∧ wr = w ∧ i = .int .i64 k ∧ Hid (∀ j (hj : j < s.size), j < k → isPart (s[j]'hj).toNat = true ∧ (j = 0 → isLet (s[j]'hj).toNat = true)))
 case atStart => exact ⟨0, by omega, by omega, rfl, rfl, fun j _ hj => by omega⟩
 case round =>
  obtain ⟨k, hk, rfl, rfl, rfl, HA⟩ := hrel
  by_cases hlt : k < s.size
  ·have hb : (s[k]'hlt).toNat < 256 := (s[k]'hlt).toNat_lt
   have HN := hid (nameOk_no hlt)
   have HY : Hid (isPart (s[k]'hlt).toNat = true ∧ (k = 0 → isLet (s[k]'hlt).toNat = true) → (∀ j (hj : j < s.size), j < k + 1 → isPart (s[j]'hj).toNat = true ∧ (j = 0 → isLet (s[j]'hj).toNat = true))) := by
    intro h j hj hjk
    by_cases e : j = k
    ·subst e; exact h
    ·exact HA.out j hj (by omega)
   go_upto_region 5 with fail
   go_cut [5] (fun v wx => v = .bool (isLet (s[k]'hlt).toNat) ∧ wr = wx)
   case first =>
    go_wp2_with fail
    all_goals go_meet
    all_goals exact ⟨by congr 1; rw [Bool.eq_iff_iff]; simp [isLet]; omega, rfl⟩
   case rest =>
    obtain ⟨rfl, rfl⟩ := hcut
    cases hL : isLet (s[k]'hlt).toNat
    ·by_cases h0 : k = 0
     ·subst h0
      have HF := hid (HN.out hL (.inl rfl))
      go_wp2
      go_ret
      exact ⟨ret_bool HF.out.symm, rfl⟩
     ·have hk0 : ((k : Int) == 0) = false := by simp; omega
      have HL := hid hL
      clear hL
      have HG := hid (HY.out)
      by_cases e45 : (((s[k]'hlt).toNat : Int) == 45) = true
      ·have HP : Hid (isPart (s[k]'hlt).toNat = true) := by simp [Hid, isPart] at e45 ⊢; omega
       go_wp2
       all_goals (go_roundg (s.size - (k+1)); exact ⟨k+1, by omega, rfl, rfl, by go_num, HY.out ⟨HP.out, fun e => absurd e h0⟩⟩; omega)
      ·have f45 : (((s[k]'hlt).toNat : Int) == 45) = false := by simpa using e45
       clear e45
       by_cases e46 : (((s[k]'hlt).toNat : Int) == 46) = true
       ·have HP : Hid (isPart (s[k]'hlt).toNat = true) := by simp [Hid, isPart] at e46 ⊢; omega
        go_wp2
        all_goals (go_roundg (s.size - (k+1)); exact ⟨k+1, by omega, rfl, rfl, by go_num, HY.out ⟨HP.out, fun e => absurd e h0⟩⟩; omega)
       ·have f46 : (((s[k]'hlt).toNat : Int) == 46) = false := by simpa using e46
        clear e46
        by_cases hD : 48 ≤ (s[k]'hlt).toNat ∧ (s[k]'hlt).toNat ≤ 57
        ·have HP : Hid (isPart (s[k]'hlt).toNat = true) := by simp [Hid, isPart, isDig]; omega
         obtain ⟨d1, d2⟩ := hD
         go_wp2
         all_goals (go_roundg (s.size - (k+1)); exact ⟨k+1, by omega, rfl, rfl, by go_num, HY.out ⟨HP.out, fun e => absurd e h0⟩⟩; omega)
        ·have HP := hid (HN.out HL.out (.inr (by simp at f45 f46; simp [isPart, isDig, HL.out]; omega)))
         have hD' : (s[k]'hlt).toNat < 48 ∨ 57 < (s[k]'hlt).toNat := by omega
         clear hD
         rcases hD' with hD | hD
         all_goals
          go_wp2
         all_goals first
          | (go_ret; exact ⟨ret_bool HP.out.symm, rfl⟩)
          | (have hq : (!decide (((s[k]'hlt).toNat : Int) ≤ 57)) = false := by assumption
             exfalso; simp at hq; omega)
    ·have HF := hid (HY.out ⟨by simp [isPart, hL], fun _ => hL⟩)
     go_wp2
     all_goals (go_roundg (s.size - (k+1)); exact ⟨k+1, by omega, rfl, rfl, by go_num, HF⟩; omega)
  ·have hF := hid (nameOk_yes fun j hj => HA.out j hj (by omega))
   by_cases h1 : 1 ≤ s.size
   all_goals
    go_wp2
    go_ret
    exact ⟨ret_bool (by rw [hF.out, Bool.eq_iff_iff]; simp; omega), rfl⟩
end Go.Proofs.YtngpjagpeblbjaaGreatDoor
namespace Go.Proofs
open Go.Shelf
def Tryz.laysNm215_ren : Go.Shelf.Ren := ⟨fun | 15 => 43 | n => n, fun | 22 => 46 | 3 => 3 | 4 => 4 | n => n, fun | n => n⟩
theorem Tryz.laysNm215 : Go.Proofs.Lays2.n15 Tryz.prog Tryz.laysNm215_ren := {
 mixed := by kernel_rfl
 f15 := Tryz.func43.trans (congrArg some (by kernel_rfl))
 t3 := Tryz.underlying3
 a3 := Tryz.isAgg3
 z3 := Tryz.sizeOf3
 v3 := Tryz.zeroValue3
 t4 := Tryz.underlying4
 a4 := Tryz.isAgg4
 z4 := Tryz.sizeOf4
 v4 := Tryz.zeroValue4
 t22 := Tryz.underlying46
 a22 := Tryz.isAgg46
 z22 := Tryz.sizeOf46
 v22 := Tryz.zeroValue46
 i3 := by kernel_rfl }
open Go.RowKit Go.Lib in
theorem Tryz.slices_Clone_int (b off n c : Nat) (zs : List Int) (w : World) (hz : n ≤ zs.length) (hbig : n * 8 ≤ 140737488355328) (hc : ∀ j, j < zs.length → w.cell? ⟨b, off + j, none⟩ = some (.int .i64 (zs.getD j 0))) :
 Calls Tryz.prog 43 #[.slice (some ⟨b, off, none⟩) n c] w fun e w' => ∃ v', e = .returned v' ∧ w'.ownsRow w.heap.size 3 1 v' n ((zs.take n).map (Value.int .i64)) ∧ v' ≠ .slice none 0 0 ∧ Below w.heap.size w w' := Any.slices_Clone_int Tryz.laysNm215 b off n c zs w hz hbig hc
open Go.RowKit Go.Lib in
theorem Tryz.slices_Clone_int_nil (n c : Nat) (w : World) :
 Calls Tryz.prog 43 #[.slice none n c] w fun e w' => e = .returned (.slice none 0 0) ∧ w' = w := Any.slices_Clone_int_nil Tryz.laysNm215 n c w
open Go.RowKit Go.Lib in
theorem Tryz.slices_Clone_int_zero (a : Addr) (c : Nat) (w : World) :
 Calls Tryz.prog 43 #[.slice (some a) 0 c] w fun e w' => ∃ v', e = .returned v' ∧ w'.ownsRow w.heap.size 3 1 v' 0 [] ∧ v' ≠ .slice none 0 0 ∧ Below w.heap.size w w' := Any.slices_Clone_int_zero Tryz.laysNm215 a c w
end Go.Proofs
namespace Go.Tour
variable {K : Type} [DecidableEq K]
section
variable {succ : K → List K} {first : K} {r i j : Nat} {s : St K} {l : List K} {k : K}
theorem vis1_goes_len (r : Nat) (s : St K) (k : K) (j : Nat) : (vis1 r s k j).goes.length = s.goes.length + 1 := by
 unfold vis1; split <;> simp
theorem visN_goes_len (r : Nat) (s : St K) (l : List K) : ∀ j, j ≤ l.length → (visN r s l j).goes.length = s.goes.length + j
 | 0, _ => rfl
 | j + 1, h => by
   rw [visN_succ (List.getElem?_eq_getElem (by omega)), vis1_goes_len, visN_goes_len r s l j (by omega)]
   omega
end
end Go.Tour
namespace Go.Proofs.YtngpjagpeblbjaaGreatDoor
open Go.RowKit Go.Spy Go.Rx
section
variable {P : Program} {t e : TypeId} {q : IntKind} {d n : Nat}
end
theorem cells3 : Tryz.prog.cellsOf 3 = 1 := by kernel_rfl
theorem cells83 : Tryz.prog.cellsOf 83 = 2 := by kernel_rfl
theorem keyOf_pr (p : Pr) : ∃ l, keyOf Tryz.prog 83 (.agg (prC p)) = some l := by
 refine keyOf_arr Tryz.underlying83 (by kernel_rfl) (by rw [cells83]; rfl) ?_
 rw [types_size]
 refine lits_array Tryz.underlying83 (by rw [cells83]; rfl) fun i hi => ?_
 rw [cells3]
 have : i = 0 ∨ i = 1 := by omega
 rcases this with rfl | rfl
 ·exact lits_int Tryz.underlying3 p.2.1
 ·exact lits_int Tryz.underlying3 p.2.2
theorem key_pr : KeyOk (κ := Pr) Tryz.prog 83 (fun p => .agg (prC p)) :=
 keyOk_law Tryz.underlying83 (deep_law_gate (by kernel_rfl) (by rw [types_size]; decide) (by rw [types_size]; decide) (by kernel_rfl) (by rw [Tryz.underlying83])) (fun _ _ => rfl) keyOf_pr
  (fun a b h => by
    obtain ⟨⟨a1, a2⟩, ha⟩ := a
    obtain ⟨⟨b1, b2⟩, hb⟩ := b
    simp [prC] at h
    simp [h])
  (fun k => by simp [Instr.sameBits, prC])
end Go.Proofs.YtngpjagpeblbjaaGreatDoor
namespace Go.Proofs.YtngpjagpeblbjaaGreatDoor
open Go.RowKit Go.Spy Go.Heaped Go.Tour
section
variable {K : Type} [DecidableEq K] {κ : Kind K}
end
theorem elem_pr : ElemOk Tryz.prog 77 83 2 16 where
 under := Tryz.underlying77
 info := by
  obtain ⟨i, h1, h2, h3, h4⟩ := info_parts (P := Tryz.prog) (e := 83) (z := .agg #[.int .i64 0, .int .i64 0]) (size := 2) (bytes := 16) (by kernel_rfl)
  exact ⟨i, _, h1, h2, h3, h4, rfl⟩
 pos := by decide
 small := by decide
end Go.Proofs.YtngpjagpeblbjaaGreatDoor
namespace Go.Spy
open Go.RowKit
section
variable {P : Program}
end
end Go.Spy
namespace Go.Proofs.YtngpjagpeblbjaaGreatDoor
open Go.RowKit Go.Spy Go.Heaped Go.Tour Go.Rx
theorem prC_size (p : Pr) : (prC p).size = 2 := rfl
end Go.Proofs.YtngpjagpeblbjaaGreatDoor
namespace Go.Tour
section
variable {K L : Type} [DecidableEq K] [DecidableEq L]
section
variable {succ : K → List K} {succ' : L → List L} {first : K} {φ : K → L} {U : K → Prop}
theorem idxOf_map_on {φ : K → L} : ∀ (ks : List K) (k : K), (∀ a ∈ ks, φ a = φ k → a = k) → (ks.map φ).idxOf (φ k) = ks.idxOf k
 | [], _, _ => rfl
 | a :: ks, k, h => by
   simp only [List.map_cons, List.idxOf_cons]
   by_cases e : a = k
   ·subst e; simp
   ·have e' : φ a ≠ φ k := fun x => e (h a (by simp) x)
    have e1 : (a == k) = false := by simpa using e
    have e2 : (φ a == φ k) = false := by simpa using e'
    rw [e1, e2]
    simp only [cond_false]
    rw [idxOf_map_on ks k (fun b hb => h b (by simp [hb]))]
theorem vis1_map (hi : ∀ a b, U a → U b → φ a = φ b → a = b) (r : Nat) {s : St K} (hs : ∀ k ∈ s.keys, U k) {k : K} (hk : U k) (j : Nat) :
 vis1 r ⟨s.keys.map φ, s.from_, s.goes⟩ (φ k) j = ⟨(vis1 r s k j).keys.map φ, (vis1 r s k j).from_, (vis1 r s k j).goes⟩ := by
 have hm : φ k ∈ s.keys.map φ ↔ k ∈ s.keys := by
  simp only [List.mem_map]
  exact ⟨fun ⟨a, ha, e⟩ => hi a k (hs a ha) hk e ▸ ha, fun h => ⟨k, h, rfl⟩⟩
 unfold vis1
 by_cases h : k ∈ s.keys
 ·rw [if_pos h, if_pos (hm.2 h)]
  simp only
  rw [idxOf_map_on s.keys k (fun a ha e => hi a k (hs a ha) hk e)]
 ·rw [if_neg h, if_neg (fun e => h (hm.1 e))]
  simp
theorem visN_map (hi : ∀ a b, U a → U b → φ a = φ b → a = b) (r : Nat) {s : St K} (hs : ∀ k ∈ s.keys, U k) {l : List K} (hl : ∀ k ∈ l, U k) : ∀ j,
 visN r ⟨s.keys.map φ, s.from_, s.goes⟩ (l.map φ) j = ⟨(visN r s l j).keys.map φ, (visN r s l j).from_, (visN r s l j).goes⟩
 | 0 => rfl
 | j + 1 => by
   have ih := visN_map hi r hs hl j
   cases h : l[j]? with
   | none => simp only [visN, List.getElem?_map, h, Option.map_none, ih]
   | some k =>
     simp only [visN, List.getElem?_map, h, Option.map_some, ih]
     exact vis1_map hi r (visN_univ r hs hl j) (hl k (List.mem_of_getElem? h)) j
theorem tourN_map (hf : U first) (hc : ∀ k, U k → ∀ x ∈ succ k, U x) (hi : ∀ a b, U a → U b → φ a = φ b → a = b) (hs : ∀ k, U k → succ' (φ k) = (succ k).map φ) : ∀ i,
 tourN succ' (φ first) i = ⟨(tourN succ first i).keys.map φ, (tourN succ first i).next, (tourN succ first i).from_⟩
 | 0 => rfl
 | i + 1 => by
   have ih := tourN_map hf hc hi hs i
   have hu := tourN_univ hf hc i
   cases h : (tourN succ first i).keys[i]? with
   | none => simp only [tourN, ih, List.getElem?_map, h, Option.map_none]
   | some k =>
     have hk := hu k (List.mem_of_getElem? h)
     have hv := visN_map hi i (s := ⟨(tourN succ first i).keys, (tourN succ first i).from_, []⟩) hu (hc k hk) (succ k).length
     simp only [tourN, ih, List.getElem?_map, h, Option.map_some, rowOf, hs k hk, List.length_map, hv]
end
section
variable {succ : K → List K} {first : K} {r i j : Nat} {s : St K} {l : List K} {k : K}
theorem tourN_first (succ : K → List K) (first : K) (i : Nat) : (tourN succ first i).keys[0]? = some first := by
 obtain ⟨t, ht⟩ := tourN_pre succ first (Nat.zero_le i)
 rw [← ht]; rfl
end
end
end Go.Tour
namespace Go.Tour
section
variable {K : Type}
theorem lang_nil (δ : K → Nat → K) (m : Nat) (f : K → Bool) (k : K) : lang δ m f k [] = f k := by simp [lang, runL]
theorem lang_cons (δ : K → Nat → K) (m : Nat) (f : K → Bool) (k : K) {c : Nat} (hc : c < m) (u : List Nat) : lang δ m f k (c :: u) = lang δ m f (δ k c) u := by
 simp [lang, runL, hc]
end
section
variable {K : Type} [DecidableEq K]
def turnL (l : List Nat → Bool) (c : Nat) (u : List Nat) : Bool := l (c :: u)
open Classical in
theorem canon_tour {δ : K → Nat → K} {m : Nat} {f : K → Bool} {first : K} {i : Nat} (h : Full (fan δ m) first i)
 (hd : ∀ a b, a ∈ (tourN (fan δ m) first i).keys → b ∈ (tourN (fan δ m) first i).keys → lang δ m f a = lang δ m f b → a = b) (n : Nat) :
 tourN (fan turnL m) (lang δ m f first) n = ⟨(tourN (fan δ m) first n).keys.map (lang δ m f), (tourN (fan δ m) first n).next, (tourN (fan δ m) first n).from_⟩ := by
 refine tourN_map (U := fun k => k ∈ (tourN (fan δ m) first i).keys) ?_ (fun k hk => full_closed h hk) (fun a b ha hb e => hd a b ha hb e) ?_ n
 ·exact List.mem_of_getElem? (tourN_first _ _ i)
 ·intro k _
  simp only [fan, List.map_map]
  refine List.map_congr_left fun c hc => ?_
  have hc : c < m := by simpa using hc
  funext u
  simp only [turnL, Function.comp, lang_cons _ _ _ _ hc]
end
theorem canon_eq {K L : Type} [DecidableEq K] [DecidableEq L] {δ : K → Nat → K} {ε : L → Nat → L} {m : Nat} {f : K → Bool} {g : L → Bool} {first : K} {second : L} {i j : Nat}
 (h : Full (fan δ m) first i) (k : Full (fan ε m) second j)
 (hd : ∀ a b, a ∈ (tourN (fan δ m) first i).keys → b ∈ (tourN (fan δ m) first i).keys → lang δ m f a = lang δ m f b → a = b)
 (kd : ∀ a b, a ∈ (tourN (fan ε m) second j).keys → b ∈ (tourN (fan ε m) second j).keys → lang ε m g a = lang ε m g b → a = b)
 (he : lang δ m f first = lang ε m g second) :
 i = j ∧ (tourN (fan δ m) first i).next = (tourN (fan ε m) second j).next ∧ (tourN (fan δ m) first i).keys.map f = (tourN (fan ε m) second j).keys.map g := by
 have h1 := canon_tour h hd
 have h2 := canon_tour k kd
 rw [he] at h1
 have hij : i = j := by
  have l1 : ∀ n, (tourN (fan δ m) first n).keys.length = (tourN (fan ε m) second n).keys.length := fun n => by
   have := (h1 n).symm.trans (h2 n)
   simp only [Tr.mk.injEq] at this
   have := congrArg List.length this.1
   simpa using this
  refine full_unique h ?_
  unfold Full
  rw [l1]; exact k
 subst hij
 have e := (h1 i).symm.trans (h2 i)
 simp only [Tr.mk.injEq] at e
 refine ⟨rfl, e.2.1, ?_⟩
 have e1 := congrArg (List.map fun l : List Nat → Bool => l []) e.1
 rw [List.map_map, List.map_map] at e1
 have c1 : ((fun l : List Nat → Bool => l []) ∘ lang δ m f) = f := by funext k; simp [lang_nil]
 have c2 : ((fun l : List Nat → Bool => l []) ∘ lang ε m g) = g := by funext k; simp [lang_nil]
 rw [c1, c2] at e1
 exact e1
variable {σ : Type}
section
variable {K : Type} [DecidableEq K] {δ : K → Nat → K} {syms : List σ} {f : K → Bool} {first : K} {i : Nat}
theorem tourD_step (h : Full (fan δ syms.length) first i) {s c : Nat} {k : K} (hk : (tourN (fan δ syms.length) first i).keys[s]? = some k) (hc : c < syms.length) :
 (tourN (fan δ syms.length) first i).keys[stepD (tourD syms (tourN (fan δ syms.length) first i) f) s c]? = some (δ k c) := by
 have hm : δ k c ∈ (tourN (fan δ syms.length) first i).keys := full_closed h (List.mem_of_getElem? hk) _ (by simp only [fan, List.mem_map, List.mem_range]; exact ⟨c, hc, rfl⟩)
 have e : stepD (tourD syms (tourN (fan δ syms.length) first i) f) s c = (tourN (fan δ syms.length) first i).keys.idxOf (δ k c) := by
  unfold stepD
  show (((tourN (fan δ syms.length) first i).next[s]?).getD [])[c]?.getD 0 = _
  rw [full_next h, List.getElem?_map, hk]
  simp [fan, hc]
 rw [e, List.getElem?_eq_getElem (List.idxOf_lt_length_of_mem hm), List.getElem_idxOf]
theorem tourD_run (h : Full (fan δ syms.length) first i) : ∀ (u : List Nat), (∀ c ∈ u, c < syms.length) → ∀ {s : Nat} {k : K}, (tourN (fan δ syms.length) first i).keys[s]? = some k →
 (tourN (fan δ syms.length) first i).keys[runL (stepD (tourD syms (tourN (fan δ syms.length) first i) f)) s u]? = some (runL δ k u)
 | [], _, _, _, hk => hk
 | c :: u, hu, _, _, hk => tourD_run h u (fun x hx => hu x (by simp [hx])) (tourD_step h hk (hu c (by simp)))
theorem tourD_lang (h : Full (fan δ syms.length) first i) : langD (tourD syms (tourN (fan δ syms.length) first i) f) = lang δ syms.length f first := by
 funext u
 show lang _ syms.length _ _ _ = _
 by_cases hu : ∀ c ∈ u, c < syms.length
 ·rw [lang_of hu, lang_of hu]
  have := tourD_run (f := f) h u hu (tourN_first _ _ i)
  unfold finD
  simp only [tourD, List.getElem?_map] at this ⊢
  rw [this]; rfl
 ·unfold lang
  rw [decide_eq_false hu]; rfl
end
section
variable [DecidableEq σ]
end
end Go.Tour
namespace Go.Tour
section
variable {κ : Type} [DecidableEq κ]
def addU (u : List κ) (k : κ) : List κ := if k ∈ u then u else u ++ [k]
def clsU (l : List κ) : List κ := l.foldl addU []
def cls (l : List κ) : List Nat := l.map (clsU l).idxOf
theorem clsU_snoc (l : List κ) (x : κ) : clsU (l ++ [x]) = addU (clsU l) x := by simp [clsU]
theorem addU_pre (u : List κ) (k : κ) : u <+: addU u k := by
 unfold addU; split
 ·exact List.prefix_refl _
 ·exact List.prefix_append _ _
theorem clsU_mem (l : List κ) : ∀ x, x ∈ clsU l ↔ x ∈ l := by
 have key : ∀ n (l : List κ), l.length = n → ∀ x, x ∈ clsU l ↔ x ∈ l := by
  intro n
  induction n with
  | zero => intro l hl x; obtain rfl := List.eq_nil_of_length_eq_zero hl; simp [clsU]
  | succ n ih =>
    intro l hl x
    have hne : l ≠ [] := by rintro rfl; simp at hl
    obtain ⟨l', y, rfl⟩ : ∃ l' y, l = l' ++ [y] := ⟨_, _, (List.dropLast_concat_getLast hne).symm⟩
    rw [clsU_snoc, addU]
    have := ih l' (by simp at hl; omega)
    split
    ·rename_i hy
     rw [this] at hy
     rw [this]
     simp only [List.mem_append, List.mem_singleton]
     exact ⟨.inl, fun h => h.elim id (fun e => e ▸ hy)⟩
    ·simp only [List.mem_append, List.mem_singleton, this]
 exact key _ l rfl
theorem clsU_nodup (l : List κ) : (clsU l).Nodup := by
 have key : ∀ n (l : List κ), l.length = n → (clsU l).Nodup := by
  intro n
  induction n with
  | zero => intro l hl; obtain rfl := List.eq_nil_of_length_eq_zero hl; simp [clsU]
  | succ n ih =>
    intro l hl
    have hne : l ≠ [] := by rintro rfl; simp at hl
    obtain ⟨l', y, rfl⟩ : ∃ l' y, l = l' ++ [y] := ⟨_, _, (List.dropLast_concat_getLast hne).symm⟩
    rw [clsU_snoc, addU]
    have := ih l' (by simp at hl; omega)
    split
    ·exact this
    ·rename_i hy
     rw [List.nodup_append]
     exact ⟨this, by simp, fun a ha b hb => by simp at hb; subst hb; exact fun e => hy (e ▸ ha)⟩
 exact key _ l rfl
theorem cls_length (l : List κ) : (cls l).length = l.length := by simp [cls]
theorem cls_snoc (l : List κ) (x : κ) : cls (l ++ [x]) = cls l ++ [(clsU (l ++ [x])).idxOf x] := by
 unfold cls
 rw [List.map_append]
 congr 1
 refine List.map_congr_left fun y hy => ?_
 exact idxOf_prefix (by rw [clsU_snoc]; exact addU_pre _ _) ((clsU_mem l y).2 hy)
theorem cls_old {l : List κ} {x : κ} (h : x ∈ clsU l) : clsU (l ++ [x]) = clsU l ∧ (clsU (l ++ [x])).idxOf x = (clsU l).idxOf x := by
 rw [clsU_snoc, addU, if_pos h]; exact ⟨rfl, rfl⟩
theorem cls_new {l : List κ} {x : κ} (h : x ∉ clsU l) : clsU (l ++ [x]) = clsU l ++ [x] ∧ (clsU (l ++ [x])).idxOf x = (clsU l).length := by
 rw [clsU_snoc, addU, if_neg h]
 refine ⟨rfl, ?_⟩
 rw [List.idxOf_append, if_neg h]; simp
structure Num (a : List Nat) (c : Nat) : Prop where
 lt : ∀ x ∈ a, x < c
 all : ∀ x, x < c → x ∈ a
theorem cls_num (l : List κ) : Num (cls l) (clsU l).length := by
 refine ⟨fun x hx => ?_, fun x hx => ?_⟩
 ·simp only [cls, List.mem_map] at hx
  obtain ⟨k, hk, rfl⟩ := hx
  exact List.idxOf_lt_length_of_mem ((clsU_mem l k).2 hk)
 ·simp only [cls, List.mem_map]
  exact ⟨(clsU l)[x], (clsU_mem l _).1 (List.getElem_mem _), (clsU_nodup l).idxOf_getElem x hx⟩
theorem cls_same {l : List κ} {i j : Nat} (hi : i < l.length) (hj : j < l.length) : (cls l)[i]? = (cls l)[j]? ↔ l[i]? = l[j]? := by
 simp only [cls, List.getElem?_map, List.getElem?_eq_getElem hi, List.getElem?_eq_getElem hj, Option.map_some, Option.some.injEq]
 constructor
 ·intro h
  have h1 := List.getElem_idxOf (List.idxOf_lt_length_of_mem ((clsU_mem l l[i]).2 (List.getElem_mem hi)))
  have h2 := List.getElem_idxOf (List.idxOf_lt_length_of_mem ((clsU_mem l l[j]).2 (List.getElem_mem hj)))
  rw [← h1, ← h2]
  simp only [h]
 ·intro h; rw [h]
end
theorem Num.max {a : List Nat} {c m : Nat} (h : Num a c) (hm : m ∈ a) (hx : ∀ x ∈ a, x ≤ m) : c = m + 1 := by
 have h1 := h.lt m hm
 have h2 : c - 1 ≤ m := hx _ (h.all (c - 1) (by omega))
 omega
theorem Num.le {a : List Nat} {c : Nat} (h : Num a c) : c ≤ a.length := by
 have := mem_length_le (l := List.range c) (u := a) List.nodup_range (fun k hk => h.all k (by simpa using hk))
 simpa using this
def Finer (b a : List Nat) : Prop := ∀ s t, s < a.length → t < a.length → b[s]? = b[t]? → a[s]? = a[t]?
section
variable {a b : List Nat} {c d : Nat}
theorem num_rep (h : Num b d) (x : Nat) : ∃ s, x < d → s < b.length ∧ b[s]? = some x := by
 by_cases e : x < d
 ·obtain ⟨s, hs, he⟩ := List.getElem_of_mem (h.all x e)
  exact ⟨s, fun _ => ⟨hs, by rw [List.getElem?_eq_getElem hs, he]⟩⟩
 ·exact ⟨0, fun e' => absurd e' e⟩
theorem finer_rep (hl : a.length = b.length) (ha : Num a c) (hb : Num b d) (hf : Finer b a) : ∃ r : Nat → Nat, (∀ x, x < d → r x < b.length ∧ b[r x]? = some x) ∧ ∀ y, y < c → ∃ x, x < d ∧ a[r x]? = some y := by
 have hr := fun x => num_rep hb x
 obtain ⟨r, hr⟩ : ∃ r : Nat → Nat, ∀ x, x < d → r x < b.length ∧ b[r x]? = some x := ⟨fun x => (hr x).choose, fun x hx => (hr x).choose_spec hx⟩
 refine ⟨r, hr, fun y hy => ?_⟩
 obtain ⟨s, hs, he⟩ := List.getElem_of_mem (ha.all y hy)
 have hsb : s < b.length := by omega
 have hx := hb.lt _ (List.getElem_mem hsb)
 obtain ⟨h1, h2⟩ := hr b[s] hx
 refine ⟨b[s], hx, ?_⟩
 rw [hf (r b[s]) s (by omega) hs (by rw [h2, List.getElem?_eq_getElem hsb]), List.getElem?_eq_getElem hs, he]
theorem finer_le (hl : a.length = b.length) (ha : Num a c) (hb : Num b d) (hf : Finer b a) : c ≤ d := by
 obtain ⟨r, h1, h2⟩ := finer_rep hl ha hb hf
 have := mem_length_le (l := List.range c) (u := (List.range d).map fun x => (a[r x]?).getD 0) List.nodup_range (fun y hy => by
  obtain ⟨x, hx, he⟩ := h2 y (by simpa using hy)
  simp only [List.mem_map, List.mem_range]
  exact ⟨x, hx, by rw [he]; rfl⟩)
 simpa using this
theorem finer_same (hl : a.length = b.length) (ha : Num a c) (hb : Num b c) (hf : Finer b a) : Finer a b := by
 obtain ⟨r, h1, h2⟩ := finer_rep hl ha hb hf
 intro s t hs ht he
 have hsa : s < a.length := by omega
 have hta : t < a.length := by omega
 have es : b[s]? = some b[s] := List.getElem?_eq_getElem hs
 have et : b[t]? = some b[t] := List.getElem?_eq_getElem ht
 rcases Nat.decEq b[s] b[t] with hne | heq
 ·exfalso
  have hxs := hb.lt _ (List.getElem_mem hs)
  have hxt := hb.lt _ (List.getElem_mem ht)
  have hu := mem_length_le (l := List.range c) (u := ((List.range c).erase b[t]).map fun x => (a[r x]?).getD 0) List.nodup_range (fun y hy => by
   obtain ⟨x, hx, hxe⟩ := h2 y (by simpa using hy)
   simp only [List.mem_map]
   by_cases e : x = b[t]
   ·refine ⟨b[s], (List.mem_erase_of_ne hne).2 (by simpa using hxs), ?_⟩
    obtain ⟨r1, r2⟩ := h1 _ hxs
    obtain ⟨r3, r4⟩ := h1 _ hxt
    have q1 := hf (r b[s]) s (by omega) (by omega) (by rw [r2, es])
    have q2 := hf (r b[t]) t (by omega) (by omega) (by rw [r4, et])
    rw [e, q2] at hxe
    rw [q1, he, hxe]; rfl
   ·exact ⟨x, (List.mem_erase_of_ne e).2 (by simpa using hx), by rw [hxe]; rfl⟩)
  rw [List.length_map, List.length_erase_of_mem (by simpa using hxt)] at hu
  simp at hu
  omega
 ·rw [es, et, heq]
end
variable {σ : Type}
theorem at0_some {a : List Nat} {s : Nat} (h : s < a.length) : a[s]? = some (at0 a s) := by unfold at0; rw [List.getElem?_eq_getElem h]; rfl
theorem at0_eq {a : List Nat} {s t : Nat} (hs : s < a.length) (ht : t < a.length) : a[s]? = a[t]? ↔ at0 a s = at0 a t := by rw [at0_some hs, at0_some ht, Option.some.injEq]
def prsAt (d : DF σ) (a finer : List Nat) (c : Nat) : List (Nat × Nat) := (List.range d.next.length).map fun s => (at0 finer s, at0 a (stepD d s c))
def passN (d : DF σ) (a : List Nat) : Nat → List Nat
 | 0 => a
 | c + 1 => cls (prsAt d a (passN d a c) c)
theorem passN_length {d : DF σ} {a : List Nat} (hl : a.length = d.next.length) : ∀ c, (passN d a c).length = d.next.length
 | 0 => hl
 | c + 1 => by simp [passN, cls_length, prsAt]
theorem prs_get (d : DF σ) (a finer : List Nat) (c : Nat) {s : Nat} (h : s < d.next.length) : (prsAt d a finer c)[s]? = some (at0 finer s, at0 a (stepD d s c)) := by simp [prsAt, h]
theorem passN_same {d : DF σ} {a : List Nat} (hl : a.length = d.next.length) {s t : Nat} (hs : s < d.next.length) (ht : t < d.next.length) : ∀ c, at0 (passN d a c) s = at0 (passN d a c) t ↔ at0 a s = at0 a t ∧ ∀ e, e < c → at0 a (stepD d s e) = at0 a (stepD d t e)
 | 0 => by simp [passN]
 | c + 1 => by
   have ih := passN_same hl hs ht c
   rw [← at0_eq (by rw [passN_length hl]; exact hs) (by rw [passN_length hl]; exact ht)]
   simp only [passN]
   rw [cls_same (by simpa [prsAt] using hs) (by simpa [prsAt] using ht), prs_get _ _ _ _ hs, prs_get _ _ _ _ ht]
   simp only [Option.some.injEq, Prod.mk.injEq, ih]
   constructor
   ·rintro ⟨⟨h1, h2⟩, h3⟩
    refine ⟨h1, fun e he => ?_⟩
    rcases Nat.lt_or_ge e c with h | h
    ·exact h2 e h
    ·obtain rfl : e = c := by omega
     exact h3
   ·rintro ⟨h1, h2⟩
    exact ⟨⟨h1, fun e he => h2 e (by omega)⟩, h2 c (by omega)⟩
def langAt (d : DF σ) (s : Nat) : List Nat → Bool := lang (stepD d) d.syms.length (finD d) s
structure AlikeI (d : DF σ) (a : List Nat) : Prop where
 len : a.length = d.next.length
 num : ∃ c, Num a c
 fin : ∀ s t, s < d.next.length → t < d.next.length → at0 a s = at0 a t → finD d s = finD d t
 lang : ∀ s t, s < d.next.length → t < d.next.length → langAt d s = langAt d t → at0 a s = at0 a t
theorem alike_start {d : DF σ} (h : OkD d) : AlikeI d (cls d.fin) := by
 refine ⟨by rw [cls_length, h.fin], ⟨_, cls_num _⟩, fun s t hs ht e => ?_, fun s t hs ht e => ?_⟩
 ·rw [← at0_eq (by rw [cls_length, h.fin]; exact hs) (by rw [cls_length, h.fin]; exact ht), cls_same (by rw [h.fin]; exact hs) (by rw [h.fin]; exact ht)] at e
  unfold finD; rw [e]
 ·rw [← at0_eq (by rw [cls_length, h.fin]; exact hs) (by rw [cls_length, h.fin]; exact ht), cls_same (by rw [h.fin]; exact hs) (by rw [h.fin]; exact ht), h.finAt hs, h.finAt ht]
  have := congrFun e []
  unfold langAt at this
  rw [lang_nil, lang_nil] at this
  rw [this]
theorem lang_step {d : DF σ} {s t : Nat} (e : langAt d s = langAt d t) {c : Nat} (hc : c < d.syms.length) : langAt d (stepD d s c) = langAt d (stepD d t c) := by
 funext u
 have := congrFun e (c :: u)
 unfold langAt at this
 rw [lang_cons _ _ _ _ hc, lang_cons _ _ _ _ hc] at this
 exact this
theorem alike_pass {d : DF σ} (h : OkD d) {a : List Nat} (A : AlikeI d a) (c : Nat) (hc : c ≤ d.syms.length) : AlikeI d (passN d a c) := by
 refine ⟨passN_length A.len c, ?_, fun s t hs ht e => ?_, fun s t hs ht e => ?_⟩
 ·cases c with
  | zero => exact A.num
  | succ c => exact ⟨_, cls_num _⟩
 ·exact A.fin s t hs ht ((passN_same A.len hs ht c).1 e).1
 ·refine (passN_same A.len hs ht c).2 ⟨A.lang s t hs ht e, fun x hx => ?_⟩
  exact A.lang _ _ (h.step s x) (h.step t x) (lang_step e (by omega))
theorem pass_finer {d : DF σ} {a : List Nat} (hl : a.length = d.next.length) (c : Nat) : Finer (passN d a c) a := by
 intro s t hs ht e
 rw [hl] at hs ht
 rw [at0_eq (by rw [passN_length hl]; exact hs) (by rw [passN_length hl]; exact ht), passN_same hl hs ht] at e
 rw [at0_eq (by omega) (by omega)]
 exact e.1
theorem alike_end {d : DF σ} (h : OkD d) {a : List Nat} (A : AlikeI d a) {c : Nat} (h1 : Num a c) (h2 : Num (passN d a d.syms.length) c) {s t : Nat} (hs : s < d.next.length) (ht : t < d.next.length) : at0 a s = at0 a t ↔ langAt d s = langAt d t := by
 refine ⟨fun e => ?_, A.lang s t hs ht⟩
 have hf := finer_same (by rw [A.len, passN_length A.len]) h1 h2 (pass_finer A.len _)
 have cong : ∀ s t, s < d.next.length → t < d.next.length → at0 a s = at0 a t → ∀ x, x < d.syms.length → at0 a (stepD d s x) = at0 a (stepD d t x) := by
  intro s t hs ht e x hx
  have h3 := hf s t (by rw [passN_length A.len]; exact hs) (by rw [passN_length A.len]; exact ht) ((at0_eq (by rw [A.len]; exact hs) (by rw [A.len]; exact ht)).2 e)
  rw [at0_eq (by rw [passN_length A.len]; exact hs) (by rw [passN_length A.len]; exact ht), passN_same A.len hs ht] at h3
  exact h3.2 x hx
 have run : ∀ (u : List Nat) s t, s < d.next.length → t < d.next.length → at0 a s = at0 a t → (∀ x ∈ u, x < d.syms.length) → finD d (runL (stepD d) s u) = finD d (runL (stepD d) t u) := by
  intro u
  induction u with
  | nil => intro s t hs ht e _; exact A.fin s t hs ht e
  | cons x u ih => intro s t hs ht e hu; exact ih _ _ (h.step s x) (h.step t x) (cong s t hs ht e x (hu x (by simp))) (fun y hy => hu y (by simp [hy]))
 funext u
 unfold langAt
 by_cases hu : ∀ x ∈ u, x < d.syms.length
 ·rw [lang_of hu, lang_of hu]; exact run u s t hs ht e hu
 ·unfold lang; rw [decide_eq_false hu]; rfl
theorem lang_map {K L : Type} {δ : K → Nat → K} {ε : L → Nat → L} {m : Nat} {f : K → Bool} {g : L → Bool} {φ : K → L} {U : K → Prop} (hc : ∀ k, U k → ∀ c, c < m → U (δ k c)) (hs : ∀ k, U k → ∀ c, c < m → φ (δ k c) = ε (φ k) c) (hf : ∀ k, U k → f k = g (φ k)) {k : K} (hk : U k) :
 lang δ m f k = lang ε m g (φ k) := by
 funext u
 by_cases hu : ∀ x ∈ u, x < m
 ·rw [lang_of hu, lang_of hu]
  have key : ∀ (u : List Nat) k, U k → (∀ x ∈ u, x < m) → U (runL δ k u) ∧ φ (runL δ k u) = runL ε (φ k) u := by
   intro u
   induction u with
   | nil => intro k hk _; exact ⟨hk, rfl⟩
   | cons x u ih =>
     intro k hk hu
     have hx := hu x (by simp)
     obtain ⟨i1, i2⟩ := ih (δ k x) (hc k hk x hx) (fun y hy => hu y (by simp [hy]))
     exact ⟨i1, by rw [show runL δ k (x :: u) = runL δ (δ k x) u from rfl, i2, hs k hk x hx]; rfl⟩
  obtain ⟨k1, k2⟩ := key u k hk hu
  rw [← k2]; exact hf _ k1
 ·unfold lang; rw [decide_eq_false hu]; rfl
structure OneI (d : DF σ) (a one : List Nat) : Prop where
 len : a.length = d.next.length
 alike : ∀ s t, s < d.next.length → t < d.next.length → (at0 a s = at0 a t ↔ langAt d s = langAt d t)
 one : ∀ s, s < d.next.length → at0 one (at0 a s) < d.next.length ∧ at0 a (at0 one (at0 a s)) = at0 a s
def stepC (d : DF σ) (a one : List Nat) (c x : Nat) : Nat := at0 a (stepD d (at0 one c) x)
section
variable {d : DF σ} {a one : List Nat}
theorem OneI.step (I : OneI d a one) (h : OkD d) {s : Nat} (hs : s < d.next.length) {x : Nat} (hx : x < d.syms.length) : at0 a (stepD d s x) = stepC d a one (at0 a s) x := by
 obtain ⟨o1, o2⟩ := I.one s hs
 have e := (I.alike _ _ o1 hs).1 o2
 exact ((I.alike _ _ (h.step _ x) (h.step _ x)).2 (lang_step e hx)).symm
theorem OneI.fin (I : OneI d a one) {s : Nat} (hs : s < d.next.length) : finD d s = finC d one (at0 a s) := by
 obtain ⟨o1, o2⟩ := I.one s hs
 have e := congrFun ((I.alike _ _ o1 hs).1 o2) []
 unfold langAt at e
 rw [lang_nil, lang_nil] at e
 exact e.symm
theorem OneI.lang (I : OneI d a one) (h : OkD d) {s : Nat} (hs : s < d.next.length) : langAt d s = lang (stepC d a one) d.syms.length (finC d one) (at0 a s) :=
 lang_map (U := fun s => s < d.next.length) (φ := at0 a) (fun s _ c _ => h.step s c) (fun _ hs _ hc => I.step h hs hc) (fun _ hs => I.fin hs) hs
theorem OneI.univ (I : OneI d a one) (h : OkD d) : ∀ c, (∃ s, s < d.next.length ∧ c = at0 a s) → ∀ x ∈ fan (stepC d a one) d.syms.length c, ∃ s, s < d.next.length ∧ x = at0 a s := by
 rintro c ⟨s, hs, rfl⟩ x hx
 simp only [fan, List.mem_map, List.mem_range] at hx
 obtain ⟨y, hy, rfl⟩ := hx
 exact ⟨stepD d s y, h.step s y, (I.step h hs hy).symm⟩
theorem OneI.dist (I : OneI d a one) (h : OkD d) {i : Nat} : ∀ x y, x ∈ (tourN (fan (stepC d a one) d.syms.length) (at0 a 0) i).keys → y ∈ (tourN (fan (stepC d a one) d.syms.length) (at0 a 0) i).keys →
 Tour.lang (stepC d a one) d.syms.length (finC d one) x = Tour.lang (stepC d a one) d.syms.length (finC d one) y → x = y := by
 intro x y hx hy e
 have hu := tourN_univ (U := fun c => ∃ s, s < d.next.length ∧ c = at0 a s) (succ := fan (stepC d a one) d.syms.length) (first := at0 a 0) ⟨0, h.pos, rfl⟩ (I.univ h) i
 obtain ⟨s, hs, rfl⟩ := hu x hx
 obtain ⟨t, ht, rfl⟩ := hu y hy
 rw [← I.lang h hs, ← I.lang h ht] at e
 exact (I.alike s t hs ht).2 e
theorem OneI.full (I : OneI d a one) (h : OkD d) : ∃ i, i ≤ d.next.length ∧ Full (fan (stepC d a one) d.syms.length) (at0 a 0) i := by
 obtain ⟨i, h1, h2⟩ := full_ex (U := fun c => ∃ s, s < d.next.length ∧ c = at0 a s) (succ := fan (stepC d a one) d.syms.length) (first := at0 a 0) ⟨0, h.pos, rfl⟩ (I.univ h) (u := a) (by
  rintro _ ⟨s, hs, rfl⟩
  exact List.mem_of_getElem? (at0_some (by rw [I.len]; exact hs)))
 rw [I.len] at h1
 exact ⟨i, h1, h2⟩
end
end Go.Tour
namespace Go.Tour
open Go.Spy
theorem ltB_total {a b : ByteArray} (h : a ≠ b) : ltB a b = true ∨ ltB b a = true := by
 rw [ltB_iff, ltB_iff]
 rcases Decidable.em (a.toList < b.toList) with h1 | h1
 ·exact .inl h1
 ·refine .inr ?_
  have h2 : b.toList ≤ a.toList := List.not_lt.1 h1
  rcases Decidable.em (b.toList < a.toList) with h3 | h3
  ·exact h3
  ·exact absurd (bytes_ext (List.le_antisymm (List.not_lt.1 h3) h2)) h
end Go.Tour
namespace Go.Spy
open Go.RowKit
section
variable {P : Program} {md : Region.Mode} {w : World} {S : World → Prop} {Q : Exit → Act → World → Prop}
end
end Go.Spy
namespace Go.Proofs.YtngpjagpeblbjaaGreatDoor
open Go.RowKit Go.Spy Go.Heaped Go.Tour Go.Rx
theorem clone_int {w : World} {v : Value} {l : List Int} (h : ReadR w 1 intZ v l) (hl : l.length ≤ 100000) : Calls Tryz.prog 43 #[v] w (ClonePost 3 intZ l w) := by
 obtain ⟨ao, c, rfl, hao⟩ := h.form
 cases ao with
 | none =>
   have h0 : l = [] := by
    rcases Nat.eq_zero_or_pos l.length with e | e
    ·exact List.eq_nil_of_length_eq_zero e
    ·obtain ⟨_, _, e2⟩ := hao e; cases e2
   subst h0
   refine (Tryz.slices_Clone_int_nil 0 c w).mono ?_
   rintro e w' ⟨rfl, rfl⟩
   exact ⟨Below.refl _ _, _, rfl, OwnR.nil _ _ _ _ _⟩
 | some a =>
   rcases Nat.eq_zero_or_pos l.length with e0 | e0
   ·obtain rfl := List.eq_nil_of_length_eq_zero e0
    refine (Tryz.slices_Clone_int_zero a c w).mono ?_
    rintro e w' ⟨v', rfl, h1, _, h3⟩
    exact ⟨h3, v', rfl, h1⟩
   ·obtain ⟨g, off, e2⟩ := hao e0
    cases e2
    refine (Tryz.slices_Clone_int g off l.length c l w (Nat.le_refl _) (by omega) (fun j hj => by
     have := h.cell1 (j := j) (x := l[j]) (List.getElem?_eq_getElem hj)
     rw [this]
     simp [intZ, List.getD, hj])).mono ?_
    rintro e w' ⟨v', rfl, h1, _, h3⟩
    refine ⟨h3, v', rfl, ?_⟩
    unfold OwnR
    rw [flat_single (Value.int .i64) intZ (fun _ => rfl)]
    rw [List.take_length] at h1
    exact h1
end Go.Proofs.YtngpjagpeblbjaaGreatDoor
namespace Go.Proofs.YtngpjagpeblbjaaGreatDoor
open Go.RowKit Go.Spy Go.Heaped Go.Tour Go.Rx
def SmallD (d : DR) : Prop := (∀ r ∈ d.next, r.length ≤ 8) ∧ (∀ s ∈ d.syms, s.size ≤ 80) ∧ d.next.length ≤ 12 ∧ d.fin.length ≤ 12 ∧ d.syms.length ≤ 6
theorem SmallD.bnd {d : DR} (h : SmallD d) : BndD d := ⟨by have := h.2.2.2.2; omega, by have := h.2.2.1; omega, by have := h.2.2.2.1; omega, fun r hr => by have := h.1 r hr; omega, fun s hs => by have := h.2.1 s hs; omega⟩
def Small8Post (d : DR) (w : World) (e : Ending) (w' : World) : Prop := ∃ b, e = .returned (.bool b) ∧ (b = true ↔ SmallD d) ∧ Ext w w'
set_option maxRecDepth 100000 in
set_option maxHeartbeats 1000000 in
theorem small8_any {w : World} {v : Value} {d : DR} (hD : DfaV w v d) (hL : LenD d) : Calls Tryz.prog 10 #[v] w (Small8Post d w) := by
 obtain ⟨vS, vN, vF, us, rfl, hP⟩ := hD
 obtain ⟨aoS, cS, rfl, hS⟩ := hP.syms.form
 obtain ⟨aoN, cN, rfl, hN⟩ := hP.next.form
 obtain ⟨aoF, cF, rfl, hF⟩ := hP.fin.form
 obtain ⟨n1, hn1⟩ : ∃ n, n = d.syms.length := ⟨_, rfl⟩
 obtain ⟨n2, hn2⟩ : ∃ n, n = us.length := ⟨_, rfl⟩
 obtain ⟨n3, hn3⟩ : ∃ n, n = d.fin.length := ⟨_, rfl⟩
 have l1 : n1 ≤ 140737488351232 := hn1 ▸ hL.s.len
 have l2 : n2 ≤ 140737488351232 := by rw [hn2, hP.len]; exact hL.n
 have l3 : n3 ≤ 140737488351232 := hn3 ▸ hL.f
 have HP := hid hP
 have HL := hid hL
 have HN2 : Hid (n2 = d.next.length) := hid (by rw [hn2, hP.len])
 rw [← hn1] at hS HP ⊢
 rw [← hn2] at hN HP ⊢
 rw [← hn3] at HP ⊢
 have HN1 := hid hn1
 have HN3 := hid hn3
 have HS := hid hS
 have HN := hid hN
 obtain ⟨w1, hw1⟩ : ∃ u, u = w.alloc (.cells #[.slice aoS n1 cS, .slice aoN n2 cN, .slice aoF n3 cF] 26) := ⟨_, rfl⟩
 have HX : Hid (Ext w w1 ∧ Blk w1 w.heap.size 26 #[.slice aoS n1 cS, .slice aoN n2 cN, .slice aoF n3 cF]) := hid ⟨hw1 ▸ (Below.refl _ _).alloc (Nat.le_refl _) _, hw1 ▸ Blk.new _ _ _⟩
 have HW1 := hid hw1
 clear hP hL hS hN hF hn1 hn2 hn3 hw1
 go_enter Tryz.func10, Tryz.ntmps10
 go_wp2_with fail
 rw [← HW1.out]
 go_loopg [3] n2 (fun g i wr => ∃ k, g = n2 - k ∧ k ≤ n2 ∧ i = .int .i64 k ∧ Hid (Ext w wr ∧ Blk wr w.heap.size 26 #[.slice aoS n1 cS, .slice aoN n2 cN, .slice aoF n3 cF]) ∧ Hid (∀ (j : Nat) (r : List Int), j < k → d.next[j]? = some r → r.length ≤ 8))
 case atStart => exact ⟨0, rfl, Nat.zero_le _, rfl, HX, hid (fun j n h => absurd h (Nat.not_lt_zero j))⟩
 case round =>
  obtain ⟨k, rfl, hk, rfl, HE, HA⟩ := hrel
  have c0 : wr.cell? ⟨w.heap.size, 0, none⟩ = some (.slice aoS n1 cS) := HE.out.2.cell (i := 0) rfl
  have c1 : wr.cell? ⟨w.heap.size, 1, none⟩ = some (.slice aoN n2 cN) := HE.out.2.cell (i := 1) rfl
  have c2 : wr.cell? ⟨w.heap.size, 2, none⟩ = some (.slice aoF n3 cF) := HE.out.2.cell (i := 2) rfl
  have lb := HE.out.2.lt
  by_cases hlt : k < n2
  ·obtain ⟨gN, oN, rfl⟩ := HN.out (by omega)
   obtain ⟨r, hr⟩ : ∃ r, d.next[k]? = some r := ⟨_, List.getElem?_eq_getElem (by rw [← HN2.out]; exact hlt)⟩
   obtain ⟨ao, c, hu, _⟩ := HP.out.row hr
   have hP' := HP.out.ext HE.out.1
   rw [HN2.out, ← HP.out.len] at hP'
   have c3 : wr.cell? ⟨gN, oN + k, none⟩ = some (.slice ao r.length c) := hP'.next.cell1 hu
   have hrl := HL.out.r r (List.mem_of_getElem? hr)
   have HR := hid hr
   obtain ⟨rl, hrl2⟩ : ∃ n, n = r.length := ⟨_, rfl⟩
   rw [← hrl2] at c3 hrl
   have HRL := hid hrl2
   clear hr hu hP' hrl2
   by_cases h8 : rl ≤ 8
   ·have h8' : ¬ 8 < rl := by omega
    go_wp2_with fail
    go_roundg (n2 - (k + 1))
    case measure => omega
    case rel =>
     refine ⟨k + 1, rfl, by omega, by go_num, HE, hid fun j m hj hm => ?_⟩
     by_cases e : j = k
     ·subst e; rw [HR.out] at hm; cases hm; rw [← HRL.out]; exact h8
     ·exact HA.out j m (by omega) hm
   ·have h8' : 8 < rl := by omega
    go_wp2_with fail
    go_ret
    exact ⟨_, rfl, ⟨fun h => (by cases h), fun h => (h8 (by rw [HRL.out]; exact h.1 r (List.mem_of_getElem? HR.out))).elim⟩, HE.out.1⟩
  ·obtain rfl : n2 = k := by omega
   have HA1 : Hid (∀ r ∈ d.next, r.length ≤ 8) := hid fun r hr => by
    obtain ⟨j, hj⟩ := List.getElem?_of_mem hr
    exact HA.out j r (by rw [HN2.out]; exact (List.getElem?_eq_some_iff.1 hj).1) hj
   go_wp2_with fail
   obtain ⟨wa, hwa⟩ : ∃ x, x = wr := ⟨_, rfl⟩
   subst hwa
   go_loopg [4] n1 (fun g i wr => ∃ k, g = n1 - k ∧ k ≤ n1 ∧ i = .int .i64 k ∧ Hid (Ext w wr ∧ Blk wr w.heap.size 26 #[.slice aoS n1 cS, .slice aoN n2 cN, .slice aoF n3 cF]) ∧ Hid (∀ (j : Nat) (s : ByteArray), j < k → d.syms[j]? = some s → s.size ≤ 80))
   case atStart => exact ⟨0, rfl, Nat.zero_le _, rfl, HE, hid (fun j n h => absurd h (Nat.not_lt_zero j))⟩
   case round =>
    obtain ⟨k, rfl, hk, rfl, HE, HA⟩ := hrel
    clear c0 c1 c2 lb
    have c0 : wr.cell? ⟨w.heap.size, 0, none⟩ = some (.slice aoS n1 cS) := HE.out.2.cell (i := 0) rfl
    have c1 : wr.cell? ⟨w.heap.size, 1, none⟩ = some (.slice aoN n2 cN) := HE.out.2.cell (i := 1) rfl
    have c2 : wr.cell? ⟨w.heap.size, 2, none⟩ = some (.slice aoF n3 cF) := HE.out.2.cell (i := 2) rfl
    have lb := HE.out.2.lt
    by_cases hlt : k < n1
    ·obtain ⟨gS, oS, rfl⟩ := HS.out (by omega)
     obtain ⟨s, hs⟩ : ∃ s, d.syms[k]? = some s := ⟨_, List.getElem?_eq_getElem (by rw [← HN1.out]; exact hlt)⟩
     have hP' := (HP.out.ext HE.out.1).syms
     rw [HN1.out] at hP'
     have c3 : wr.cell? ⟨gS, oS + k, none⟩ = some (.string s) := hP'.cell1 hs
     have hsz := HL.out.s.size s (List.mem_of_getElem? hs)
     have HSS := hid hs
     clear hs hP'
     by_cases h80 : s.size ≤ 80
     ·have h80' : ¬ 80 < s.size := by omega
      go_wp2_with fail
      go_roundg (n1 - (k + 1))
      case measure => omega
      case rel =>
       refine ⟨k + 1, rfl, by omega, by go_num, HE, hid fun j m hj hm => ?_⟩
       by_cases e : j = k
       ·subst e; rw [HSS.out] at hm; cases hm; exact h80
       ·exact HA.out j m (by omega) hm
     ·have h80' : 80 < s.size := by omega
      go_wp2_with fail
      go_ret
      exact ⟨_, rfl, ⟨fun h => (by cases h), fun h => (h80 (h.2.1 s (List.mem_of_getElem? HSS.out))).elim⟩, HE.out.1⟩
    ·obtain rfl : n1 = k := by omega
     have HA2 : Hid (∀ s ∈ d.syms, s.size ≤ 80) := hid fun s hs => by
      obtain ⟨j, hj⟩ := List.getElem?_of_mem hs
      exact HA.out j s (by rw [HN1.out]; exact (List.getElem?_eq_some_iff.1 hj).1) hj
     by_cases q2 : n2 ≤ 12
     ·have t2 : decide ((n2 : Int) ≤ 12) = true := decide_eq_true (by omega)
      by_cases q3 : n3 ≤ 12
      ·have t3 : decide ((n3 : Int) ≤ 12) = true := decide_eq_true (by omega)
       by_cases q1 : n1 ≤ 6
       ·have t1 : decide ((n1 : Int) ≤ 6) = true := decide_eq_true (by omega)
        go_wp2_with fail
        go_ret
        exact ⟨true, rfl, ⟨fun _ => ⟨HA1.out, HA2.out, by rw [← HN2.out]; exact q2, by rw [← HN3.out]; exact q3, by rw [← HN1.out]; exact q1⟩, fun _ => rfl⟩, HE.out.1⟩
       ·have t1 : decide ((n1 : Int) ≤ 6) = false := decide_eq_false (by omega)
        go_wp2_with fail
        go_ret
        exact ⟨false, rfl, ⟨fun h => (by cases h), fun h => (q1 (by rw [HN1.out]; exact h.2.2.2.2)).elim⟩, HE.out.1⟩
      ·have t3 : decide ((n3 : Int) ≤ 12) = false := decide_eq_false (by omega)
       go_wp2_with fail
       go_ret
       exact ⟨false, rfl, ⟨fun h => (by cases h), fun h => (q3 (by rw [HN3.out]; exact h.2.2.2.1)).elim⟩, HE.out.1⟩
     ·have t2 : decide ((n2 : Int) ≤ 12) = false := decide_eq_false (by omega)
      go_wp2_with fail
      go_ret
      exact ⟨false, rfl, ⟨fun h => (by cases h), fun h => (q2 (by rw [HN2.out]; exact h.2.2.1)).elim⟩, HE.out.1⟩
end Go.Proofs.YtngpjagpeblbjaaGreatDoor
