/-
  Walk of the reference's Name, for every text.
  Plain law: states gone through in the order in which they are come to. No program is named here.
  Keys of maps: numbers, pairs of numbers, states of a regular expression's automaton.
  The start of travel; one step of it in each of its kinds.
  Loads of aggregates whose cells are held behind one name; what the two wide kinds of states have.
  Plain law of tours: other names for the states, where the rows lead, the words by which a state is come to first. No program is named here.
  Plain law: the words by which a tour comes to a state first are the least ones, shorter rows ahead of longer ones. No program is named here.
  Plain law: what a state matches; a tour whose states match unlike rows depends on what its first one matches alone. No program is named here.
  Plain law: words in order; automata as a program holds them, and what is wrong with one.
  Walks of the laws' small helpers: Small, none, Plain, ahead, Texts.
  Walk of checked: what is wrong with the first of two automata, or else with the second.
  Walk of Make where the expression or a word may not be.
  Walk of the closures that tell which pairs of states are final.
  Walk of slices.IndexFunc over pairs, and of the closure that tells where a pair of states goes.
  Where a pair of states goes.
  Walk of the closure that tells where a pair of states goes.
  Walk of pairs, and of the tour through pairs of states.
-/
import Derived.Test.YtngpjagpeblbjaaGreatDoorP01
import Derived.Test.YtngpjagpeblbjaaGreatDoorP02
import Derived.Test.YtngpjagpeblbjaaGreatDoorP03
import Derived.Test.YtngpjagpeblbjaaGreatDoorP04
import Derived.Test.YtngpjagpeblbjaaGreatDoorP05
import Derived.Test.YtngpjagpeblbjaaGreatDoorP06
import Derived.Test.YtngpjagpeblbjaaGreatDoorP07
import Derived.Test.YtngpjagpeblbjaaGreatDoorP08
import Derived.Test.YtngpjagpeblbjaaGreatDoorP09
import Derived.Test.YtngpjagpeblbjaaGreatDoorP10
import Derived.Test.YtngpjagpeblbjaaGreatDoorP11
import Derived.Test.YtngpjagpeblbjaaGreatDoorP12
import Derived.Test.YtngpjagpeblbjaaGreatDoorP13
import Derived.Test.YtngpjagpeblbjaaGreatDoorP14
import Derived.Test.YtngpjagpeblbjaaGreatDoorP15
import Derived.Test.YtngpjagpeblbjaaGreatDoorP16
import Derived.Test.YtngpjagpeblbjaaGreatDoorP17
import Derived.Test.YtngpjagpeblbjaaGreatDoorP18
import Derived.Test.YtngpjagpeblbjaaGreatDoorP19
import Derived.Test.YtngpjagpeblbjaaGreatDoorP20
import Derived.Test.YtngpjagpeblbjaaGreatDoorP21
import Derived.Test.YtngpjagpeblbjaaGreatDoorP22
import Derived.Test.YtngpjagpeblbjaaGreatDoorP23
import Derived.Deep.DeepCutAuto
import Derived.Test.YtngpjagpeblbjaaGreatDoorRows
import Derived.Laws.OwnMore
import Derived.WalkKit
import Derived.WalkSpells
import Derived.WalkLawsBesides
import Derived.Deep.LoopGhost
import Derived.DeepKeys5
import Derived.Deep.AppendLies
import Derived.OwnWalk
import Derived.Deep.Draws
import Derived.Laws.ResultCell
import Derived.Laws.CopyRow
import Derived.BigRegion
import Derived.Lib.TrailingZeros
import Derived.Recover
import Derived.Deep.RegionLaw
import Derived.BigQuiet
import Derived.Deep.QuietTactic
import Derived.Deep.RegionWith
import Derived.StillTailTactics
import Derived.Outline
import Derived.Deep.CutBlock
import Derived.Deep.OwnRows
import Derived.StillTail
import Derived.StillTactics
import Derived.OrdersHeld
import Derived.Sort.Walk0
import Derived.IntWalk
import Derived.Sort.OwnSorted
import Derived.Sort.Grow
import Derived.Lib.OwnBridge
import Derived.Shelf.Sort.Plain
import Derived.Shelf.Slices.Turned
import Derived.Ground.Names2Prog
import Derived.Shelf.Slices.ReverseS
import Derived.Shelf.Slices.Clone
import Derived.Shelf.Slices.CompactS
import Derived.Shelf.Slices.SearchI
import Derived.Shelf.Slices.Cells
import Derived.Shelf.Slices.In.SortNone
import Derived.Test.YtngpjagpeblbjaaGreatDoorProg
import Derived.Deep.Cut
import Derived.Lib.SlicesCompact
import Derived.Lib.RowBridge
namespace Go.Proofs.YtngpjagpeblbjaaGreatDoor
open Go.RowKit Go.Spy
theorem nameOk_no {s : ByteArray} {k : Nat} (hlt : k < s.size) (h : isLet (s[k]'hlt).toNat = false) (h2 : k = 0 ∨ isPart (s[k]'hlt).toNat = false) : nameOk s = false := by
 rcases h2 with rfl | h2
 ·rw [nameOk, nameOk_head hlt, h]; simp
 ·rw [nameOk, allPart_no hlt h2]; simp
theorem nameOk_yes {s : ByteArray} (h : ∀ j (hj : j < s.size), isPart (s[j]'hj).toNat = true ∧ (j = 0 → isLet (s[j]'hj).toNat = true)) : nameOk s = (decide (1 ≤ s.size) && decide (s.size ≤ 64)) := by
 have h1 := allPart_yes fun j hj => (h j hj).1
 by_cases h0 : 0 < s.size
 ·rw [nameOk, nameOk_head h0, h1, (h 0 h0).2 rfl]; simp
 ·simp [nameOk, show s.size = 0 by omega]
set_option maxHeartbeats 1000000 in
theorem name_any (s : ByteArray) (w : World) (hs : s.size ≤ maxLen) :
 Calls Tryz.prog 30 #[.string s] w fun e w' => e = .returned (.bool (nameOk s)) ∧ w = w' := by
 unfold maxLen at hs
 go_enter Tryz.func30, Tryz.ntmps30
 go_wp2_with fail
 go_loopg [3] s.size (fun g i wr => ∃ k : Nat, k ≤ s.size ∧ g = s.size - k ∧ wr = w ∧ i = .int .i64 k ∧ Hid (∀ j (hj : j < s.size), j < k → isPart (s[j]'hj).toNat = true ∧ (j = 0 → isLet (s[j]'hj).toNat = true)))
 case atStart => exact ⟨0, by omega, by omega, rfl, rfl, fun j _ hj => by omega⟩
 case round =>
  obtain ⟨k, hk, rfl, rfl, rfl, HA⟩ := hrel
  by_cases hlt : k < s.size
  ·have hb : (s[k]'hlt).toNat < 256 := (s[k]'hlt).toNat_lt
   have HN := hid (nameOk_no hlt)
   have HY : Hid (isPart (s[k]'hlt).toNat = true ∧ (k = 0 → isLet (s[k]'hlt).toNat = true) → (∀ j (hj : j < s.size), j < k + 1 → isPart (s[j]'hj).toNat = true ∧ (j = 0 → isLet (s[j]'hj).toNat = true))) := by
    intro h j hj hjk
    by_cases e : j = k
    ·subst e; exact h
    ·exact HA.out j hj (by omega)
   go_upto_region 5 with fail
   go_cut [5] (fun v wx => v = .bool (isLet (s[k]'hlt).toNat) ∧ wr = wx)
   case first =>
    go_wp2_with fail
    all_goals go_meet
    all_goals exact ⟨by congr 1; rw [Bool.eq_iff_iff]; simp [isLet]; omega, rfl⟩
   case rest =>
    obtain ⟨rfl, rfl⟩ := hcut
    cases hL : isLet (s[k]'hlt).toNat
    ·by_cases h0 : k = 0
     ·subst h0
      have HF := hid (HN.out hL (.inl rfl))
      go_wp2
      go_ret
      exact ⟨ret_bool HF.out.symm, rfl⟩
     ·have hk0 : ((k : Int) == 0) = false := by simp; omega
      have HL := hid hL
      clear hL
      have HG := hid (HY.out)
      by_cases e45 : (((s[k]'hlt).toNat : Int) == 45) = true
      ·have HP : Hid (isPart (s[k]'hlt).toNat = true) := by simp [Hid, isPart] at e45 ⊢; omega
       go_wp2
       all_goals (go_roundg (s.size - (k+1)); exact ⟨k+1, by omega, rfl, rfl, by go_num, HY.out ⟨HP.out, fun e => absurd e h0⟩⟩; omega)
      ·have f45 : (((s[k]'hlt).toNat : Int) == 45) = false := by simpa using e45
       clear e45
       by_cases e46 : (((s[k]'hlt).toNat : Int) == 46) = true
       ·have HP : Hid (isPart (s[k]'hlt).toNat = true) := by simp [Hid, isPart] at e46 ⊢; omega
        go_wp2
        all_goals (go_roundg (s.size - (k+1)); exact ⟨k+1, by omega, rfl, rfl, by go_num, HY.out ⟨HP.out, fun e => absurd e h0⟩⟩; omega)
       ·have f46 : (((s[k]'hlt).toNat : Int) == 46) = false := by simpa using e46
        clear e46
        by_cases hD : 48 ≤ (s[k]'hlt).toNat ∧ (s[k]'hlt).toNat ≤ 57
        ·have HP : Hid (isPart (s[k]'hlt).toNat = true) := by simp [Hid, isPart, isDig]; omega
         obtain ⟨d1, d2⟩ := hD
         go_wp2
         all_goals (go_roundg (s.size - (k+1)); exact ⟨k+1, by omega, rfl, rfl, by go_num, HY.out ⟨HP.out, fun e => absurd e h0⟩⟩; omega)
        ·have HP := hid (HN.out HL.out (.inr (by simp at f45 f46; simp [isPart, isDig, HL.out]; omega)))
         have hD' : (s[k]'hlt).toNat < 48 ∨ 57 < (s[k]'hlt).toNat := by omega
         clear hD
         rcases hD' with hD | hD
         all_goals
          go_wp2
         all_goals first
          | (go_ret; exact ⟨ret_bool HP.out.symm, rfl⟩)
          | (have hq : (!decide (((s[k]'hlt).toNat : Int) ≤ 57)) = false := by assumption
             exfalso; simp at hq; omega)
    ·have HF := hid (HY.out ⟨by simp [isPart, hL], fun _ => hL⟩)
     go_wp2
     all_goals (go_roundg (s.size - (k+1)); exact ⟨k+1, by omega, rfl, rfl, by go_num, HF⟩; omega)
  ·have hF := hid (nameOk_yes fun j hj => HA.out j hj (by omega))
   by_cases h1 : 1 ≤ s.size
   all_goals
    go_wp2
    go_ret
    exact ⟨ret_bool (by rw [hF.out, Bool.eq_iff_iff]; simp; omega), rfl⟩
end Go.Proofs.YtngpjagpeblbjaaGreatDoor
namespace Go.Tour
variable {K : Type} [DecidableEq K]
section
variable {succ : K → List K} {first : K} {r i j : Nat} {s : St K} {l : List K} {k : K}
theorem vis1_goes_len (r : Nat) (s : St K) (k : K) (j : Nat) : (vis1 r s k j).goes.length = s.goes.length + 1 := by
 unfold vis1; split <;> simp
theorem visN_goes_len (r : Nat) (s : St K) (l : List K) : ∀ j, j ≤ l.length → (visN r s l j).goes.length = s.goes.length + j
 | 0, _ => rfl
 | j + 1, h => by
   rw [visN_succ (List.getElem?_eq_getElem (by omega)), vis1_goes_len, visN_goes_len r s l j (by omega)]
   omega
end
end Go.Tour
namespace Go.Proofs.YtngpjagpeblbjaaGreatDoor
open Go.RowKit Go.Spy Go.Rx
section
variable {P : Program} {t e : TypeId} {q : IntKind} {d n : Nat}
end
theorem cells3 : Tryz.prog.cellsOf 3 = 1 := by kernel_rfl
theorem cells83 : Tryz.prog.cellsOf 83 = 2 := by kernel_rfl
theorem keyOf_pr (p : Pr) : ∃ l, keyOf Tryz.prog 83 (.agg (prC p)) = some l := by
 refine keyOf_arr Tryz.underlying83 (by kernel_rfl) (by rw [cells83]; rfl) ?_
 rw [types_size]
 refine lits_array Tryz.underlying83 (by rw [cells83]; rfl) fun i hi => ?_
 rw [cells3]
 have : i = 0 ∨ i = 1 := by omega
 rcases this with rfl | rfl
 ·exact lits_int Tryz.underlying3 p.2.1
 ·exact lits_int Tryz.underlying3 p.2.2
theorem key_pr : KeyOk (κ := Pr) Tryz.prog 83 (fun p => .agg (prC p)) :=
 keyOk_law Tryz.underlying83 (deep_law_gate (by kernel_rfl) (by rw [types_size]; decide) (by rw [types_size]; decide) (by kernel_rfl) (by rw [Tryz.underlying83])) (fun _ _ => rfl) keyOf_pr
  (fun a b h => by
    obtain ⟨⟨a1, a2⟩, ha⟩ := a
    obtain ⟨⟨b1, b2⟩, hb⟩ := b
    simp [prC] at h
    simp [h])
  (fun k => by simp [Instr.sameBits, prC])
end Go.Proofs.YtngpjagpeblbjaaGreatDoor
namespace Go.Proofs.YtngpjagpeblbjaaGreatDoor
open Go.RowKit Go.Spy Go.Heaped Go.Tour
section
variable {K : Type} [DecidableEq K] {κ : Kind K}
end
theorem elem_pr : ElemOk Tryz.prog 77 83 2 16 where
 under := Tryz.underlying77
 info := by
  obtain ⟨i, h1, h2, h3, h4⟩ := info_parts (P := Tryz.prog) (e := 83) (z := .agg #[.int .i64 0, .int .i64 0]) (size := 2) (bytes := 16) (by kernel_rfl)
  exact ⟨i, _, h1, h2, h3, h4, rfl⟩
 pos := by decide
 small := by decide
end Go.Proofs.YtngpjagpeblbjaaGreatDoor
namespace Go.Spy
open Go.RowKit
section
variable {P : Program}
end
end Go.Spy
namespace Go.Proofs.YtngpjagpeblbjaaGreatDoor
open Go.RowKit Go.Spy Go.Heaped Go.Tour Go.Rx
def kindP : Kind Pr := ⟨fun p => .agg (prC p), prC, 80, 83, 2⟩
theorem okP : KindOk kindP := ⟨by decide, by decide, by decide, fun _ => rfl⟩
theorem prC_size (p : Pr) : (prC p).size = 2 := rfl
theorem info83 : (Tryz.prog.info? 83).map (·.size) = some 2 := by kernel_rfl
theorem zero83 : (Tryz.prog.info? 83).map (·.zero) = some (some (.agg (prC ⟨(0, 0), by decide⟩))) := by kernel_rfl
theorem slot83 : (Tryz.prog.info? 83).map (fun i => (i.zero, i.size)) = some (some (.agg (prC ⟨(0, 0), by decide⟩)), 2) := by kernel_rfl
end Go.Proofs.YtngpjagpeblbjaaGreatDoor
namespace Go.Tour
section
variable {K L : Type} [DecidableEq K] [DecidableEq L]
section
variable {succ : K → List K} {succ' : L → List L} {first : K} {φ : K → L} {U : K → Prop}
theorem idxOf_map_on {φ : K → L} : ∀ (ks : List K) (k : K), (∀ a ∈ ks, φ a = φ k → a = k) → (ks.map φ).idxOf (φ k) = ks.idxOf k
 | [], _, _ => rfl
 | a :: ks, k, h => by
   simp only [List.map_cons, List.idxOf_cons]
   by_cases e : a = k
   ·subst e; simp
   ·have e' : φ a ≠ φ k := fun x => e (h a (by simp) x)
    have e1 : (a == k) = false := by simpa using e
    have e2 : (φ a == φ k) = false := by simpa using e'
    rw [e1, e2]
    simp only [cond_false]
    rw [idxOf_map_on ks k (fun b hb => h b (by simp [hb]))]
theorem vis1_map (hi : ∀ a b, U a → U b → φ a = φ b → a = b) (r : Nat) {s : St K} (hs : ∀ k ∈ s.keys, U k) {k : K} (hk : U k) (j : Nat) :
 vis1 r ⟨s.keys.map φ, s.from_, s.goes⟩ (φ k) j = ⟨(vis1 r s k j).keys.map φ, (vis1 r s k j).from_, (vis1 r s k j).goes⟩ := by
 have hm : φ k ∈ s.keys.map φ ↔ k ∈ s.keys := by
  simp only [List.mem_map]
  exact ⟨fun ⟨a, ha, e⟩ => hi a k (hs a ha) hk e ▸ ha, fun h => ⟨k, h, rfl⟩⟩
 unfold vis1
 by_cases h : k ∈ s.keys
 ·rw [if_pos h, if_pos (hm.2 h)]
  simp only
  rw [idxOf_map_on s.keys k (fun a ha e => hi a k (hs a ha) hk e)]
 ·rw [if_neg h, if_neg (fun e => h (hm.1 e))]
  simp
theorem visN_map (hi : ∀ a b, U a → U b → φ a = φ b → a = b) (r : Nat) {s : St K} (hs : ∀ k ∈ s.keys, U k) {l : List K} (hl : ∀ k ∈ l, U k) : ∀ j,
 visN r ⟨s.keys.map φ, s.from_, s.goes⟩ (l.map φ) j = ⟨(visN r s l j).keys.map φ, (visN r s l j).from_, (visN r s l j).goes⟩
 | 0 => rfl
 | j + 1 => by
   have ih := visN_map hi r hs hl j
   cases h : l[j]? with
   | none => simp only [visN, List.getElem?_map, h, Option.map_none, ih]
   | some k =>
     simp only [visN, List.getElem?_map, h, Option.map_some, ih]
     exact vis1_map hi r (visN_univ r hs hl j) (hl k (List.mem_of_getElem? h)) j
theorem tourN_map (hf : U first) (hc : ∀ k, U k → ∀ x ∈ succ k, U x) (hi : ∀ a b, U a → U b → φ a = φ b → a = b) (hs : ∀ k, U k → succ' (φ k) = (succ k).map φ) : ∀ i,
 tourN succ' (φ first) i = ⟨(tourN succ first i).keys.map φ, (tourN succ first i).next, (tourN succ first i).from_⟩
 | 0 => rfl
 | i + 1 => by
   have ih := tourN_map hf hc hi hs i
   have hu := tourN_univ hf hc i
   cases h : (tourN succ first i).keys[i]? with
   | none => simp only [tourN, ih, List.getElem?_map, h, Option.map_none]
   | some k =>
     have hk := hu k (List.mem_of_getElem? h)
     have hv := visN_map hi i (s := ⟨(tourN succ first i).keys, (tourN succ first i).from_, []⟩) hu (hc k hk) (succ k).length
     simp only [tourN, ih, List.getElem?_map, h, Option.map_some, rowOf, hs k hk, List.length_map, hv]
end
section
variable {succ : K → List K} {first : K} {r i j : Nat} {s : St K} {l : List K} {k : K}
end
end
end Go.Tour
namespace Go.Tour
theorem aheadL_irr : ∀ u, aheadL u u = false
 | [] => rfl
 | a :: u => by simp [aheadL, aheadL_irr u]
theorem slt_irr (u : List Nat) : ¬ slt u u := by
 rintro (h | ⟨_, h⟩)
 ·omega
 ·rw [aheadL_irr] at h; cases h
theorem sle_antisymm {u v : List Nat} (h : sle u v) (k : sle v u) : u = v := by
 rcases h with h | h
 ·exact h
 ·rcases k with k | k
  ·exact k.symm
  ·exact absurd (slt_trans h k) (slt_irr u)
section
variable {K : Type} [DecidableEq K]
section
variable {δ : K → Nat → K} {m : Nat} {first : K} {keys : List K} {fr : List (Nat × Nat)} {i j : Nat}
end
section
variable {δ : K → Nat → K} {m : Nat} {first : K} {keys : List K} {fr : List (Nat × Nat)} {b : Nat × Nat}
end
section
variable {succ : K → List K} {first : K} {U : K → Prop}
end
end
end Go.Tour
namespace Go.Tour
section
variable {K : Type}
end
section
variable {K : Type} [DecidableEq K]
end
variable {σ : Type}
section
variable {K : Type} [DecidableEq K] {δ : K → Nat → K} {syms : List σ} {f : K → Bool} {first : K} {i : Nat}
end
section
variable [DecidableEq σ]
def runS (d : DF σ) (s : Int) (l : List σ) : Int := l.foldl (goS d) s
def matchD (d : DF σ) (l : List σ) : Bool := finS d (runS d 0 l)
theorem runS_in {d : DF σ} : ∀ {l : List σ} (s : Nat), (∀ x ∈ l, x ∈ d.syms) → runS d s l = (runL (stepD d) s (l.map d.syms.idxOf) : Nat)
 | [], _, _ => rfl
 | y :: l, s, h => by
   show runS d (goS d s y) l = _
   rw [goS_in (h y (by simp))]
   exact runS_in _ (fun x hx => h x (by simp [hx]))
theorem matchD_in {d : DF σ} {l : List σ} (h : ∀ x ∈ l, x ∈ d.syms) : matchD d l = langD d (l.map d.syms.idxOf) := by
 unfold matchD langD
 rw [lang_of (fun c hc => by
  simp only [List.mem_map] at hc
  obtain ⟨x, hx, rfl⟩ := hc
  exact List.idxOf_lt_length_of_mem (h x hx))]
 rw [show (0 : Int) = ((0 : Nat) : Int) by rfl, runS_in 0 h]
 simp [finS]
theorem wordsOf_idx {syms : List σ} (hn : syms.Nodup) : ∀ {u : List Nat}, (∀ c ∈ u, c < syms.length) → (wordsOf syms u).map syms.idxOf = u
 | [], _ => rfl
 | c :: u, hu => by
   have hc := hu c (by simp)
   rw [wordsOf_cons hc, List.map_cons, hn.idxOf_getElem c hc, wordsOf_idx hn (fun x hx => hu x (by simp [hx]))]
omit [DecidableEq σ] in
theorem wordsOf_mem {syms : List σ} {u : List Nat} : ∀ x ∈ wordsOf syms u, x ∈ syms := by
 intro x hx
 simp only [wordsOf, List.mem_filterMap] at hx
 obtain ⟨c, _, hc⟩ := hx
 exact List.mem_of_getElem? hc
theorem match_words {d : DF σ} (hn : d.syms.Nodup) {u : List Nat} (hu : ∀ c ∈ u, c < d.syms.length) : matchD d (wordsOf d.syms u) = langD d u := by
 rw [matchD_in wordsOf_mem, wordsOf_idx hn hu]
end
end Go.Tour
namespace Go.Tour
open Go.Spy
theorem ltB_total {a b : ByteArray} (h : a ≠ b) : ltB a b = true ∨ ltB b a = true := by
 rw [ltB_iff, ltB_iff]
 rcases Decidable.em (a.toList < b.toList) with h1 | h1
 ·exact .inl h1
 ·refine .inr ?_
  have h2 : b.toList ≤ a.toList := List.not_lt.1 h1
  rcases Decidable.em (b.toList < a.toList) with h3 | h3
  ·exact h3
  ·exact absurd (bytes_ext (List.le_antisymm (List.not_lt.1 h3) h2)) h
end Go.Tour
namespace Go.Proofs.YtngpjagpeblbjaaGreatDoor
open Go.RowKit Go.Spy Go.Heaped Go.Tour Go.Rx
def SmallD (d : DR) : Prop := (∀ r ∈ d.next, r.length ≤ 8) ∧ (∀ s ∈ d.syms, s.size ≤ 80) ∧ d.next.length ≤ 12 ∧ d.fin.length ≤ 12 ∧ d.syms.length ≤ 6
theorem SmallD.bnd {d : DR} (h : SmallD d) : BndD d := ⟨by have := h.2.2.2.2; omega, by have := h.2.2.1; omega, by have := h.2.2.2.1; omega, fun r hr => by have := h.1 r hr; omega, fun s hs => by have := h.2.1 s hs; omega⟩
def Small8Post (d : DR) (w : World) (e : Ending) (w' : World) : Prop := ∃ b, e = .returned (.bool b) ∧ (b = true ↔ SmallD d) ∧ Ext w w'
set_option maxRecDepth 100000 in
set_option maxHeartbeats 1000000 in
theorem small8_any {w : World} {v : Value} {d : DR} (hD : DfaV w v d) (hL : LenD d) : Calls Tryz.prog 10 #[v] w (Small8Post d w) := by
 obtain ⟨vS, vN, vF, us, rfl, hP⟩ := hD
 obtain ⟨aoS, cS, rfl, hS⟩ := hP.syms.form
 obtain ⟨aoN, cN, rfl, hN⟩ := hP.next.form
 obtain ⟨aoF, cF, rfl, hF⟩ := hP.fin.form
 obtain ⟨n1, hn1⟩ : ∃ n, n = d.syms.length := ⟨_, rfl⟩
 obtain ⟨n2, hn2⟩ : ∃ n, n = us.length := ⟨_, rfl⟩
 obtain ⟨n3, hn3⟩ : ∃ n, n = d.fin.length := ⟨_, rfl⟩
 have l1 : n1 ≤ 140737488351232 := hn1 ▸ hL.s.len
 have l2 : n2 ≤ 140737488351232 := by rw [hn2, hP.len]; exact hL.n
 have l3 : n3 ≤ 140737488351232 := hn3 ▸ hL.f
 have HP := hid hP
 have HL := hid hL
 have HN2 : Hid (n2 = d.next.length) := hid (by rw [hn2, hP.len])
 rw [← hn1] at hS HP ⊢
 rw [← hn2] at hN HP ⊢
 rw [← hn3] at HP ⊢
 have HN1 := hid hn1
 have HN3 := hid hn3
 have HS := hid hS
 have HN := hid hN
 obtain ⟨w1, hw1⟩ : ∃ u, u = w.alloc (.cells #[.slice aoS n1 cS, .slice aoN n2 cN, .slice aoF n3 cF] 26) := ⟨_, rfl⟩
 have HX : Hid (Ext w w1 ∧ Blk w1 w.heap.size 26 #[.slice aoS n1 cS, .slice aoN n2 cN, .slice aoF n3 cF]) := hid ⟨hw1 ▸ (Below.refl _ _).alloc (Nat.le_refl _) _, hw1 ▸ Blk.new _ _ _⟩
 have HW1 := hid hw1
 clear hP hL hS hN hF hn1 hn2 hn3 hw1
 go_enter Tryz.func10, Tryz.ntmps10
 go_wp2_with fail
 rw [← HW1.out]
 go_loopg [3] n2 (fun g i wr => ∃ k, g = n2 - k ∧ k ≤ n2 ∧ i = .int .i64 k ∧ Hid (Ext w wr ∧ Blk wr w.heap.size 26 #[.slice aoS n1 cS, .slice aoN n2 cN, .slice aoF n3 cF]) ∧ Hid (∀ (j : Nat) (r : List Int), j < k → d.next[j]? = some r → r.length ≤ 8))
 case atStart => exact ⟨0, rfl, Nat.zero_le _, rfl, HX, hid (fun j n h => absurd h (Nat.not_lt_zero j))⟩
 case round =>
  obtain ⟨k, rfl, hk, rfl, HE, HA⟩ := hrel
  have c0 : wr.cell? ⟨w.heap.size, 0, none⟩ = some (.slice aoS n1 cS) := HE.out.2.cell (i := 0) rfl
  have c1 : wr.cell? ⟨w.heap.size, 1, none⟩ = some (.slice aoN n2 cN) := HE.out.2.cell (i := 1) rfl
  have c2 : wr.cell? ⟨w.heap.size, 2, none⟩ = some (.slice aoF n3 cF) := HE.out.2.cell (i := 2) rfl
  have lb := HE.out.2.lt
  by_cases hlt : k < n2
  ·obtain ⟨gN, oN, rfl⟩ := HN.out (by omega)
   obtain ⟨r, hr⟩ : ∃ r, d.next[k]? = some r := ⟨_, List.getElem?_eq_getElem (by rw [← HN2.out]; exact hlt)⟩
   obtain ⟨ao, c, hu, _⟩ := HP.out.row hr
   have hP' := HP.out.ext HE.out.1
   rw [HN2.out, ← HP.out.len] at hP'
   have c3 : wr.cell? ⟨gN, oN + k, none⟩ = some (.slice ao r.length c) := hP'.next.cell1 hu
   have hrl := HL.out.r r (List.mem_of_getElem? hr)
   have HR := hid hr
   obtain ⟨rl, hrl2⟩ : ∃ n, n = r.length := ⟨_, rfl⟩
   rw [← hrl2] at c3 hrl
   have HRL := hid hrl2
   clear hr hu hP' hrl2
   by_cases h8 : rl ≤ 8
   ·have h8' : ¬ 8 < rl := by omega
    go_wp2_with fail
    go_roundg (n2 - (k + 1))
    case measure => omega
    case rel =>
     refine ⟨k + 1, rfl, by omega, by go_num, HE, hid fun j m hj hm => ?_⟩
     by_cases e : j = k
     ·subst e; rw [HR.out] at hm; cases hm; rw [← HRL.out]; exact h8
     ·exact HA.out j m (by omega) hm
   ·have h8' : 8 < rl := by omega
    go_wp2_with fail
    go_ret
    exact ⟨_, rfl, ⟨fun h => (by cases h), fun h => (h8 (by rw [HRL.out]; exact h.1 r (List.mem_of_getElem? HR.out))).elim⟩, HE.out.1⟩
  ·obtain rfl : n2 = k := by omega
   have HA1 : Hid (∀ r ∈ d.next, r.length ≤ 8) := hid fun r hr => by
    obtain ⟨j, hj⟩ := List.getElem?_of_mem hr
    exact HA.out j r (by rw [HN2.out]; exact (List.getElem?_eq_some_iff.1 hj).1) hj
   go_wp2_with fail
   obtain ⟨wa, hwa⟩ : ∃ x, x = wr := ⟨_, rfl⟩
   subst hwa
   go_loopg [4] n1 (fun g i wr => ∃ k, g = n1 - k ∧ k ≤ n1 ∧ i = .int .i64 k ∧ Hid (Ext w wr ∧ Blk wr w.heap.size 26 #[.slice aoS n1 cS, .slice aoN n2 cN, .slice aoF n3 cF]) ∧ Hid (∀ (j : Nat) (s : ByteArray), j < k → d.syms[j]? = some s → s.size ≤ 80))
   case atStart => exact ⟨0, rfl, Nat.zero_le _, rfl, HE, hid (fun j n h => absurd h (Nat.not_lt_zero j))⟩
   case round =>
    obtain ⟨k, rfl, hk, rfl, HE, HA⟩ := hrel
    clear c0 c1 c2 lb
    have c0 : wr.cell? ⟨w.heap.size, 0, none⟩ = some (.slice aoS n1 cS) := HE.out.2.cell (i := 0) rfl
    have c1 : wr.cell? ⟨w.heap.size, 1, none⟩ = some (.slice aoN n2 cN) := HE.out.2.cell (i := 1) rfl
    have c2 : wr.cell? ⟨w.heap.size, 2, none⟩ = some (.slice aoF n3 cF) := HE.out.2.cell (i := 2) rfl
    have lb := HE.out.2.lt
    by_cases hlt : k < n1
    ·obtain ⟨gS, oS, rfl⟩ := HS.out (by omega)
     obtain ⟨s, hs⟩ : ∃ s, d.syms[k]? = some s := ⟨_, List.getElem?_eq_getElem (by rw [← HN1.out]; exact hlt)⟩
     have hP' := (HP.out.ext HE.out.1).syms
     rw [HN1.out] at hP'
     have c3 : wr.cell? ⟨gS, oS + k, none⟩ = some (.string s) := hP'.cell1 hs
     have hsz := HL.out.s.size s (List.mem_of_getElem? hs)
     have HSS := hid hs
     clear hs hP'
     by_cases h80 : s.size ≤ 80
     ·have h80' : ¬ 80 < s.size := by omega
      go_wp2_with fail
      go_roundg (n1 - (k + 1))
      case measure => omega
      case rel =>
       refine ⟨k + 1, rfl, by omega, by go_num, HE, hid fun j m hj hm => ?_⟩
       by_cases e : j = k
       ·subst e; rw [HSS.out] at hm; cases hm; exact h80
       ·exact HA.out j m (by omega) hm
     ·have h80' : 80 < s.size := by omega
      go_wp2_with fail
      go_ret
      exact ⟨_, rfl, ⟨fun h => (by cases h), fun h => (h80 (h.2.1 s (List.mem_of_getElem? HSS.out))).elim⟩, HE.out.1⟩
    ·obtain rfl : n1 = k := by omega
     have HA2 : Hid (∀ s ∈ d.syms, s.size ≤ 80) := hid fun s hs => by
      obtain ⟨j, hj⟩ := List.getElem?_of_mem hs
      exact HA.out j s (by rw [HN1.out]; exact (List.getElem?_eq_some_iff.1 hj).1) hj
     by_cases q2 : n2 ≤ 12
     ·have t2 : decide ((n2 : Int) ≤ 12) = true := decide_eq_true (by omega)
      by_cases q3 : n3 ≤ 12
      ·have t3 : decide ((n3 : Int) ≤ 12) = true := decide_eq_true (by omega)
       by_cases q1 : n1 ≤ 6
       ·have t1 : decide ((n1 : Int) ≤ 6) = true := decide_eq_true (by omega)
        go_wp2_with fail
        go_ret
        exact ⟨true, rfl, ⟨fun _ => ⟨HA1.out, HA2.out, by rw [← HN2.out]; exact q2, by rw [← HN3.out]; exact q3, by rw [← HN1.out]; exact q1⟩, fun _ => rfl⟩, HE.out.1⟩
       ·have t1 : decide ((n1 : Int) ≤ 6) = false := decide_eq_false (by omega)
        go_wp2_with fail
        go_ret
        exact ⟨false, rfl, ⟨fun h => (by cases h), fun h => (q1 (by rw [HN1.out]; exact h.2.2.2.2)).elim⟩, HE.out.1⟩
      ·have t3 : decide ((n3 : Int) ≤ 12) = false := decide_eq_false (by omega)
       go_wp2_with fail
       go_ret
       exact ⟨false, rfl, ⟨fun h => (by cases h), fun h => (q3 (by rw [HN3.out]; exact h.2.2.2.1)).elim⟩, HE.out.1⟩
     ·have t2 : decide ((n2 : Int) ≤ 12) = false := decide_eq_false (by omega)
      go_wp2_with fail
      go_ret
      exact ⟨false, rfl, ⟨fun h => (by cases h), fun h => (q2 (by rw [HN2.out]; exact h.2.2.1)).elim⟩, HE.out.1⟩
end Go.Proofs.YtngpjagpeblbjaaGreatDoor
namespace Go.Proofs.YtngpjagpeblbjaaGreatDoor
open Go.RowKit Go.Spy Go.Heaped Go.Tour Go.Rx
def check2E (d e : DR) : Nat := if checkE nameOk d = 0 then checkE nameOk e else checkE nameOk d
set_option maxRecDepth 100000 in
set_option maxHeartbeats 1000000 in
theorem checked_any {w : World} {va vb : Value} {da db : DR} (hA : DfaV w va da) (hBA : BndD da) (hB : DfaV w vb db) (hBB : BndD db) : Calls Tryz.prog 44 #[va, vb] w (ErrP (check2E da db) w) := by
 obtain ⟨vS, vN, vF, us, rfl, hP⟩ := hA
 obtain ⟨vS2, vN2, vF2, us2, rfl, hP2⟩ := hB
 have HC1 : Hid (∀ W, Ext w W → Calls Tryz.prog 11 #[.agg #[vS, vN, vF]] W (ErrP (checkE nameOk da) W)) := hid fun W e => dcheck_any (hP.ext e) hBA
 have HC2 : Hid (∀ W, Ext w W → Calls Tryz.prog 11 #[.agg #[vS2, vN2, vF2]] W (ErrP (checkE nameOk db) W)) := hid fun W e => dcheck_any (hP2.ext e) hBB
 obtain ⟨aoS, cS, rfl, hS⟩ := hP.syms.form
 obtain ⟨aoN, cN, rfl, hN⟩ := hP.next.form
 obtain ⟨aoF, cF, rfl, hF⟩ := hP.fin.form
 obtain ⟨aoS2, cS2, rfl, hS2⟩ := hP2.syms.form
 obtain ⟨aoN2, cN2, rfl, hN2⟩ := hP2.next.form
 obtain ⟨aoF2, cF2, rfl, hF2⟩ := hP2.fin.form
 obtain ⟨n1, hn1⟩ : ∃ n, n = da.syms.length := ⟨_, rfl⟩
 obtain ⟨n2, hn2⟩ : ∃ n, n = us.length := ⟨_, rfl⟩
 obtain ⟨n3, hn3⟩ : ∃ n, n = da.fin.length := ⟨_, rfl⟩
 obtain ⟨m1, hm1⟩ : ∃ n, n = db.syms.length := ⟨_, rfl⟩
 obtain ⟨m2, hm2⟩ : ∃ n, n = us2.length := ⟨_, rfl⟩
 obtain ⟨m3, hm3⟩ : ∃ n, n = db.fin.length := ⟨_, rfl⟩
 rw [← hn1, ← hn2, ← hn3] at HC1 ⊢
 rw [← hm1, ← hm2, ← hm3] at HC2 ⊢
 have HA0 : Hid (Ext w ((w.alloc (.cells #[.slice aoS n1 cS, .slice aoN n2 cN, .slice aoF n3 cF] 26)).alloc (.cells #[.slice aoS2 m1 cS2, .slice aoN2 m2 cN2, .slice aoF2 m3 cF2] 26))) := hid (((Below.refl _ _).alloc (Nat.le_refl _) _).alloc (by simp) _)
 have HB0 : Hid (Blk ((w.alloc (.cells #[.slice aoS n1 cS, .slice aoN n2 cN, .slice aoF n3 cF] 26)).alloc (.cells #[.slice aoS2 m1 cS2, .slice aoN2 m2 cN2, .slice aoF2 m3 cF2] 26)) (w.heap.size + 1) 26 #[.slice aoS2 m1 cS2, .slice aoN2 m2 cN2, .slice aoF2 m3 cF2]) := hid (Blk.new' _ _ _ (by simp))
 obtain ⟨V, hV⟩ : ∃ V, V = check2E da db := ⟨_, rfl⟩
 rw [← hV]
 unfold check2E at hV
 obtain ⟨E, hE⟩ : ∃ E, E = checkE nameOk da := ⟨_, rfl⟩
 obtain ⟨E2, hE2⟩ : ∃ E, E = checkE nameOk db := ⟨_, rfl⟩
 rw [← hE] at HC1
 rw [← hE2] at HC2
 rw [← hE, ← hE2] at hV
 have HV := hid hV
 clear hV hP hP2 hBA hBB hS hN hF hS2 hN2 hF2 hn1 hn2 hn3 hm1 hm2 hm3 hE hE2
 go_enter Tryz.func44, Tryz.ntmps44
 go_wp2_with fail
 refine (HC1.out _ HA0.out).mono ?_
 rintro e w2 ⟨rfl, hx⟩
 have HX2 := hid (HA0.out.trans (hx.mono HA0.out.size))
 have hb := HB0.out.ext hx
 have c0 : w2.cell? ⟨w.heap.size + 1, 0, none⟩ = some (.slice aoS2 m1 cS2) := hb.cell (i := 0) rfl
 have c1 : w2.cell? ⟨w.heap.size + 1, 1, none⟩ = some (.slice aoN2 m2 cN2) := hb.cell (i := 1) rfl
 have c2 : w2.cell? ⟨w.heap.size + 1, 2, none⟩ = some (.slice aoF2 m3 cF2) := hb.cell (i := 2) rfl
 have lb := hb.lt
 clear hx hb
 by_cases h0 : E = 0
 ·have d0 : (((E : Nat) : Int) != 0) = false := by simp [h0]
  have HE := hid h0
  clear h0
  go_wp2_with fail
  refine (HC2.out _ HX2.out).mono ?_
  rintro e w3 ⟨rfl, hx⟩
  have HX3 := hid (HX2.out.trans (hx.mono HX2.out.size))
  clear hx
  go_wp2_with fail
  go_ret
  rw [show V = E2 from HV.out.trans (if_pos HE.out)]
  exact ⟨rfl, HX3.out⟩
 ·have d0 : (((E : Nat) : Int) != 0) = true := by simp [h0]
  have HE := hid h0
  clear h0
  go_wp2_with fail
  go_ret
  rw [show V = E from HV.out.trans (if_neg HE.out)]
  exact ⟨rfl, HX2.out⟩
end Go.Proofs.YtngpjagpeblbjaaGreatDoor
namespace Go.Proofs.YtngpjagpeblbjaaGreatDoor
open Go.RowKit Go.Spy Go.Heaped Go.Tour Go.Rx
abbrev nilD : Value := .agg #[.slice none 0 0, .slice none 0 0, .slice none 0 0]
def MakeBad (c : Int) (w : World) (e : Ending) (w' : World) : Prop := e = .returned (.tuple #[nilD, .int .i64 c]) ∧ Ext w w'
end Go.Proofs.YtngpjagpeblbjaaGreatDoor
namespace Go.Proofs.YtngpjagpeblbjaaGreatDoor
open Go.RowKit Go.Spy Go.Heaped Go.Tour Go.Rx
theorem enters49 : Enters Tryz.prog 49 := fun _ _ => by kernel_rfl
theorem enters56 : Enters Tryz.prog 56 := fun _ _ => by kernel_rfl
set_option maxRecDepth 100000 in
set_option maxHeartbeats 1000000 in
theorem both1_any {w : World} {bA bB : Nat} {xA xB : Array Value} {A B : DA} (hA : DfaW w (.agg xA) A) (hBA : Blk w bA 26 xA) (hB : DfaW w (.agg xB) B) (hBB : Blk w bB 26 xB) (p : Pr) (h1 : p.1.1 < A.next.length) (h2 : p.1.2 < B.next.length) :
 Calls Tryz.prog 49 #[.agg (prC p), .pointer (some ⟨bA, 0, none⟩), .pointer (some ⟨bB, 0, none⟩)] w fun e w' => e = .returned (.bool (finS A p.1.1 && finS B p.1.2)) ∧ Ext w w' := by
 obtain ⟨aoS, n1, cS, aoN, n2, cN, aoF, n3, cF, rfl⟩ := hA.open_
 obtain ⟨aoS2, m1, cS2, aoN2, m2, cN2, aoF2, m3, cF2, rfl⟩ := hB.open_
 obtain ⟨⟨x, y⟩, hp⟩ := p
 show Calls Tryz.prog 49 #[.agg #[.int .i64 x, .int .i64 y], .pointer (some ⟨bA, 0, none⟩), .pointer (some ⟨bB, 0, none⟩)] w fun e w' => e = .returned (.bool (finS A x && finS B y)) ∧ Ext w w'
 obtain ⟨w1, hw1⟩ : ∃ u, u = w.alloc (.cells #[.int .i64 x, .int .i64 y] 83) := ⟨_, rfl⟩
 have e1 : Ext w w1 := hw1 ▸ (Below.refl _ _).alloc (Nat.le_refl _) _
 have hb1 : Blk w1 w.heap.size 83 #[.int .i64 x, .int .i64 y] := hw1 ▸ Blk.new _ _ _
 have HF1 := hid (final_any (hA.ext e1) x h1)
 have HF2 : Hid (∀ W, Ext w W → Calls Tryz.prog 50 #[.agg #[.slice aoS2 m1 cS2, .slice aoN2 m2 cN2, .slice aoF2 m3 cF2], .int .i64 y] W fun e w' => e = .returned (.bool (finS B y)) ∧ Ext W w') := hid fun W e => final_any (hB.ext e) y h2
 obtain ⟨f1, hf1⟩ : ∃ b, b = finS A x := ⟨_, rfl⟩
 obtain ⟨f2, hf2⟩ : ∃ b, b = finS B y := ⟨_, rfl⟩
 rw [← hf1] at HF1 ⊢
 rw [← hf2] at HF2 ⊢
 have HB1 := hid hb1
 have HBA := hid (hBA.ext e1)
 have HBB := hid (hBB.ext e1)
 have HE1 := hid e1
 have HW1 := hid hw1
 have a0 : w.cell? ⟨bA, 0, none⟩ = some (.slice aoS n1 cS) := hBA.cell (i := 0) rfl
 have a1 : w.cell? ⟨bA, 1, none⟩ = some (.slice aoN n2 cN) := hBA.cell (i := 1) rfl
 have a2 : w.cell? ⟨bA, 2, none⟩ = some (.slice aoF n3 cF) := hBA.cell (i := 2) rfl
 have la := hBA.lt
 clear hA hBA hB hBB hf1 hf2 hb1 e1 hw1 hp h1 h2
 go_enter Tryz.func49, Tryz.ntmps49
 go_wp2_with fail
 rw [← HW1.out]
 refine HF1.out.mono ?_
 rintro e w2 ⟨rfl, hx⟩
 have hbb := HBB.out.ext hx
 have hb2 := HB1.out.ext hx
 have c0 : w2.cell? ⟨bB, 0, none⟩ = some (.slice aoS2 m1 cS2) := hbb.cell (i := 0) rfl
 have c1 : w2.cell? ⟨bB, 1, none⟩ = some (.slice aoN2 m2 cN2) := hbb.cell (i := 1) rfl
 have c2 : w2.cell? ⟨bB, 2, none⟩ = some (.slice aoF2 m3 cF2) := hbb.cell (i := 2) rfl
 have p1 : w2.cell? ⟨w.heap.size, 1, none⟩ = some (.int .i64 y) := hb2.cell (i := 1) rfl
 have HX2 := hid (HE1.out.trans (hx.mono HE1.out.size))
 clear hx hbb hb2
 cases f1 with
 | false =>
   go_wp2_with fail
   go_ret
   exact ⟨rfl, HX2.out⟩
 | true =>
   go_wp2_with fail
   refine (HF2.out _ HX2.out).mono ?_
   rintro e w3 ⟨rfl, hx⟩
   have HX3 := hid (HX2.out.trans (hx.mono HX2.out.size))
   clear hx
   go_wp2_with fail
   go_ret
   exact ⟨rfl, HX3.out⟩
set_option maxRecDepth 100000 in
set_option maxHeartbeats 1000000 in
theorem within1_any {w : World} {bA bB : Nat} {xA xB : Array Value} {A B : DA} (hA : DfaW w (.agg xA) A) (hBA : Blk w bA 26 xA) (hB : DfaW w (.agg xB) B) (hBB : Blk w bB 26 xB) (p : Pr) (h1 : p.1.1 < A.next.length) (h2 : p.1.2 < B.next.length) :
 Calls Tryz.prog 56 #[.agg (prC p), .pointer (some ⟨bA, 0, none⟩), .pointer (some ⟨bB, 0, none⟩)] w fun e w' => e = .returned (.bool (finS A p.1.1 && !finS B p.1.2)) ∧ Ext w w' := by
 obtain ⟨aoS, n1, cS, aoN, n2, cN, aoF, n3, cF, rfl⟩ := hA.open_
 obtain ⟨aoS2, m1, cS2, aoN2, m2, cN2, aoF2, m3, cF2, rfl⟩ := hB.open_
 obtain ⟨⟨x, y⟩, hp⟩ := p
 show Calls Tryz.prog 56 #[.agg #[.int .i64 x, .int .i64 y], .pointer (some ⟨bA, 0, none⟩), .pointer (some ⟨bB, 0, none⟩)] w fun e w' => e = .returned (.bool (finS A x && !finS B y)) ∧ Ext w w'
 obtain ⟨w1, hw1⟩ : ∃ u, u = w.alloc (.cells #[.int .i64 x, .int .i64 y] 83) := ⟨_, rfl⟩
 have e1 : Ext w w1 := hw1 ▸ (Below.refl _ _).alloc (Nat.le_refl _) _
 have hb1 : Blk w1 w.heap.size 83 #[.int .i64 x, .int .i64 y] := hw1 ▸ Blk.new _ _ _
 have HF1 := hid (final_any (hA.ext e1) x h1)
 have HF2 : Hid (∀ W, Ext w W → Calls Tryz.prog 50 #[.agg #[.slice aoS2 m1 cS2, .slice aoN2 m2 cN2, .slice aoF2 m3 cF2], .int .i64 y] W fun e w' => e = .returned (.bool (finS B y)) ∧ Ext W w') := hid fun W e => final_any (hB.ext e) y h2
 obtain ⟨f1, hf1⟩ : ∃ b, b = finS A x := ⟨_, rfl⟩
 obtain ⟨f2, hf2⟩ : ∃ b, b = finS B y := ⟨_, rfl⟩
 rw [← hf1] at HF1 ⊢
 rw [← hf2] at HF2 ⊢
 have HB1 := hid hb1
 have HBA := hid (hBA.ext e1)
 have HBB := hid (hBB.ext e1)
 have HE1 := hid e1
 have HW1 := hid hw1
 have a0 : w.cell? ⟨bA, 0, none⟩ = some (.slice aoS n1 cS) := hBA.cell (i := 0) rfl
 have a1 : w.cell? ⟨bA, 1, none⟩ = some (.slice aoN n2 cN) := hBA.cell (i := 1) rfl
 have a2 : w.cell? ⟨bA, 2, none⟩ = some (.slice aoF n3 cF) := hBA.cell (i := 2) rfl
 have la := hBA.lt
 clear hA hBA hB hBB hf1 hf2 hb1 e1 hw1 hp h1 h2
 go_enter Tryz.func56, Tryz.ntmps56
 go_wp2_with fail
 rw [← HW1.out]
 refine HF1.out.mono ?_
 rintro e w2 ⟨rfl, hx⟩
 have hbb := HBB.out.ext hx
 have hb2 := HB1.out.ext hx
 have c0 : w2.cell? ⟨bB, 0, none⟩ = some (.slice aoS2 m1 cS2) := hbb.cell (i := 0) rfl
 have c1 : w2.cell? ⟨bB, 1, none⟩ = some (.slice aoN2 m2 cN2) := hbb.cell (i := 1) rfl
 have c2 : w2.cell? ⟨bB, 2, none⟩ = some (.slice aoF2 m3 cF2) := hbb.cell (i := 2) rfl
 have p1 : w2.cell? ⟨w.heap.size, 1, none⟩ = some (.int .i64 y) := hb2.cell (i := 1) rfl
 have HX2 := hid (HE1.out.trans (hx.mono HE1.out.size))
 clear hx hbb hb2
 cases f1 with
 | false =>
   go_wp2_with fail
   go_ret
   exact ⟨rfl, HX2.out⟩
 | true =>
   go_wp2_with fail
   refine (HF2.out _ HX2.out).mono ?_
   rintro e w3 ⟨rfl, hx⟩
   have HX3 := hid (HX2.out.trans (hx.mono HX2.out.size))
   clear hx
   go_wp2_with fail
   go_ret
   exact ⟨rfl, HX3.out⟩
end Go.Proofs.YtngpjagpeblbjaaGreatDoor
namespace Go.Proofs.YtngpjagpeblbjaaGreatDoor
open Go.RowKit Go.Spy Go.Heaped Go.Tour Go.Rx
set_option maxRecDepth 100000 in
set_option maxHeartbeats 1000000 in
theorem indexfunc_pr {w : World} {v : Value} {ns : List Pr} (hV : ReadR w 2 prC v ns) (hlen : ns.length ≤ 100000) {f : FuncId} {first caps : Array Value} (hE : Enters Tryz.prog f) (p : Pr → Bool)
 (hf : ∀ k w', k ∈ ns → Ext w w' → Calls Tryz.prog f (first ++ #[.agg (prC k)] ++ caps) w' fun e w'' => e = .returned (.bool (p k)) ∧ Ext w' w'') :
 Calls Tryz.prog 55 #[v, .func (.func f) first caps] w (IdxPost p ns w) := by
 obtain ⟨ao, cap, rfl, hc⟩ := hV.form
 have HV := hid hV
 have HC := hid hc
 have HF := hid hf
 have HEN := hid hE
 clear hc hV hf hE
 go_enter Tryz.func55, Tryz.ntmps55
 go_wp2_with fail
 go_loopg [8] ns.length (fun g u wr => ∃ k, g = ns.length - k ∧ k ≤ ns.length ∧ u = .int .i64 k ∧ Hid (∀ i y, i < k → ns[i]? = some y → p y = false) ∧ Hid (Ext w wr))
 case atStart => exact ⟨0, rfl, Nat.zero_le _, rfl, hid (fun i y h => by omega), hid (Below.refl _ w)⟩
 case round =>
  obtain ⟨k, rfl, hk, rfl, HN, HE⟩ := hrel
  by_cases hlt : k < ns.length
  ·obtain ⟨b, off, rfl⟩ := HC.out (by omega)
   obtain ⟨q, hq⟩ : ∃ q, ns[k]? = some q := ⟨_, List.getElem?_eq_getElem hlt⟩
   have HC1 : Hid (∀ e, e < 2 → wr.cell? ⟨b, off + k * 2 + e, none⟩ = (prC q)[e]?) := hid fun e he => by
    have h := (HV.out.ext HE.out).cell hq (k := e) he
    rwa [show off + (k * 2 + e) = off + k * 2 + e by omega] at h
   have hgK : b < wr.heap.size := (HV.out.ext HE.out).blk_lt (by omega)
   have HQ := hid hq
   clear hq
   go_wp2_with (first
    | (with_reducible refine onOp 15 ?_
       go_loud (refine wpList_load_cells rfl 83 (.tmp 14) rfl b (off + k * 2) rfl (prC q) _ 2 HC1.out rfl Tryz.underlying83 rfl info83 ?_))
    | (with_reducible refine onOp 16 ?_
       go_loud (refine wpList_callb (args := #[.agg (prC q)]) rfl (.tmp 11) #[.tmp 15] #[83] rfl HEN.out rfl rfl (HF.out q _ (List.mem_of_getElem? HQ.out) HE.out) ?_)
       rintro e w2 ⟨rfl, hx⟩
       refine ⟨_, rfl, ?_⟩
       have HX := hid (HE.out.trans (hx.mono HE.out.size))
       clear hx
       cases hp : p q))
   ·go_roundg (ns.length - (k + 1))
    case measure => omega
    case rel =>
     refine ⟨k + 1, rfl, by omega, by go_num, hid fun i y hi hr => ?_, HX⟩
     by_cases e : i = k
     ·subst e; rw [HQ.out] at hr; cases hr; exact hp
     ·exact HN.out i y (by omega) hr
   ·go_ret
    exact ⟨HX.out, .inl ⟨k, q, rfl, HQ.out, hp, HN.out⟩⟩
  ·go_wp2_with fail
   go_ret
   refine ⟨HE.out, .inr ⟨rfl, fun x hx => ?_⟩⟩
   obtain ⟨i, hi, rfl⟩ := List.getElem_of_mem hx
   exact HN.out i _ (by omega) (List.getElem?_eq_getElem hi)
end Go.Proofs.YtngpjagpeblbjaaGreatDoor
namespace Go.Proofs.YtngpjagpeblbjaaGreatDoor
open Go.RowKit Go.Spy Go.Heaped Go.Tour Go.Rx
theorem fits_small {x : Int} (h1 : -1 ≤ x) (h2 : x < 1000000) : (Lit.int .i64 x).wf = true := by
 have e1 : IntKind.i64.min = -9223372036854775808 := by decide
 have e2 : IntKind.i64.max = 9223372036854775807 := by decide
 simp [Lit.wf, e1, e2]; omega
def zeroP : Pr := ⟨(0, 0), by decide⟩
def mkP (x y : Int) : Pr := if h : (Lit.int .i64 x).wf = true ∧ (Lit.int .i64 y).wf = true then ⟨(x, y), h⟩ else zeroP
theorem mkP_val {x y : Int} (hx : (Lit.int .i64 x).wf = true) (hy : (Lit.int .i64 y).wf = true) : (mkP x y).1 = (x, y) := by
 unfold mkP
 rw [dif_pos ⟨hx, hy⟩]
def goP (A B : DA) (syms : List ByteArray) (p : Pr) (c : Nat) : Pr := mkP (goS A p.1.1 (symAt syms c)) (goS B p.1.2 (symAt syms c))
def OkP (A B : DA) (p : Pr) : Prop := p.1.1 < A.next.length ∧ p.1.2 < B.next.length
theorem goS_bnd {A : DA} (W : WellD nameOk A) (s : Int) (x : ByteArray) : -1 ≤ goS A s x ∧ goS A s x < A.next.length := by
 unfold goS
 have hp := W.ok.pos
 split
 ·exact ⟨by omega, by exact_mod_cast W.ok.step _ _⟩
 ·omega
theorem goS_fits {A : DA} (W : WellD nameOk A) (s : Int) (x : ByteArray) : (Lit.int .i64 (goS A s x)).wf = true := by
 have h := goS_bnd W s x
 have := W.most
 exact fits_small h.1 (by omega)
theorem goP_val {A B : DA} (WA : WellD nameOk A) (WB : WellD nameOk B) (syms : List ByteArray) (p : Pr) (c : Nat) : (goP A B syms p c).1 = (goS A p.1.1 (symAt syms c), goS B p.1.2 (symAt syms c)) := mkP_val (goS_fits WA _ _) (goS_fits WB _ _)
theorem goP_ok {A B : DA} (WA : WellD nameOk A) (WB : WellD nameOk B) (syms : List ByteArray) (p : Pr) (c : Nat) : OkP A B (goP A B syms p c) := by
 unfold OkP
 rw [goP_val WA WB]
 exact ⟨(goS_bnd WA _ _).2, (goS_bnd WB _ _).2⟩
theorem zeroP_ok {A B : DA} (WA : WellD nameOk A) (WB : WellD nameOk B) : OkP A B zeroP := ⟨by have := WA.ok.pos; show (0 : Int) < _; omega, by have := WB.ok.pos; show (0 : Int) < _; omega⟩
abbrev succP (A B : DA) (syms : List ByteArray) : Pr → List Pr := fan (goP A B syms) syms.length
theorem enters106 : Enters Tryz.prog 106 := fun _ _ => by kernel_rfl
end Go.Proofs.YtngpjagpeblbjaaGreatDoor
namespace Go.Proofs.YtngpjagpeblbjaaGreatDoor
open Go.RowKit Go.Spy Go.Heaped Go.Tour Go.Rx
theorem built_pr (x y : Int) : Tryz.prog.built 83 [(0, .int .i64 x), (1, .int .i64 y)] = some #[.int .i64 x, .int .i64 y] := by kernel_rfl
def PairsP (A B : DA) (syms : List ByteArray) (p : Pr) (w : World) (e : Ending) (w' : World) : Prop := ∃ v, e = .returned v ∧ OwnR w' w.heap.size 83 2 prC v (succP A B syms p) ∧ Ext w w'
set_option maxRecDepth 100000 in
set_option maxHeartbeats 2000000 in
theorem pairs1_any {w : World} {bS bA bB : Nat} {vS : Value} {xA xB : Array Value} {A B : DA} {syms : List ByteArray} (hSB : Blk w bS 22 #[vS]) (hS : ReadR w 1 strC vS syms) (hsl : syms.length ≤ 1000)
 (hA : DfaW w (.agg xA) A) (hBA : Blk w bA 26 xA) (hB : DfaW w (.agg xB) B) (hBB : Blk w bB 26 xB) (p : Pr) (hp : OkP A B p) :
 Calls Tryz.prog 106 #[.agg (prC p), .pointer (some ⟨bS, 0, none⟩), .pointer (some ⟨bA, 0, none⟩), .pointer (some ⟨bB, 0, none⟩)] w (PairsP A B syms p w) := by
 have HG : Hid (∀ c, goP A B syms p c = mkP (goS A p.1.1 (symAt syms c)) (goS B p.1.2 (symAt syms c)) ∧ (goP A B syms p c).1 = (goS A p.1.1 (symAt syms c), goS B p.1.2 (symAt syms c))) := hid fun c => ⟨rfl, goP_val hA.well hB.well syms p c⟩
 obtain ⟨aoS, n1, cS, aoN, n2, cN, aoF, n3, cF, rfl⟩ := hA.open_
 obtain ⟨aoS2, m1, cS2, aoN2, m2, cN2, aoF2, m3, cF2, rfl⟩ := hB.open_
 obtain ⟨aoW, cW, rfl, hW⟩ := hS.form
 obtain ⟨⟨x, y⟩, hxy⟩ := p
 obtain ⟨f, hf⟩ : ∃ f, f = goP A B syms ⟨(x, y), hxy⟩ := ⟨_, rfl⟩
 have HPO : Hid (∀ (w' : World) (v : Value), OwnR w' w.heap.size 83 2 prC v ((List.range syms.length).map f) → Ext w w' → PairsP A B syms ⟨(x, y), hxy⟩ w (.returned v) w') := hid fun w' v h e => ⟨v, rfl, by rw [hf] at h; exact h, e⟩
 obtain ⟨Q, hQ⟩ : ∃ Q, Q = PairsP A B syms ⟨(x, y), hxy⟩ w := ⟨_, rfl⟩
 rw [← hQ] at HPO ⊢
 show Calls Tryz.prog 106 #[.agg #[.int .i64 x, .int .i64 y], .pointer (some ⟨bS, 0, none⟩), .pointer (some ⟨bA, 0, none⟩), .pointer (some ⟨bB, 0, none⟩)] w Q
 obtain ⟨n, hn⟩ : ∃ n, n = syms.length := ⟨_, rfl⟩
 have HS := hid hS
 have HSB := hid hSB
 rw [← hn] at hW hSB hsl HPO HS HSB
 have HNN := hid hn
 obtain ⟨w1, hw1⟩ : ∃ u, u = w.alloc (.cells #[.int .i64 x, .int .i64 y] 83) := ⟨_, rfl⟩
 have e1 : Ext w w1 := hw1 ▸ (Below.refl _ _).alloc (Nat.le_refl _) _
 have hz1 : w1.heap.size = w.heap.size + 1 := by rw [hw1]; simp
 have HB4 : Hid (Blk w1 w.heap.size 83 #[.int .i64 x, .int .i64 y]) := hid (hw1 ▸ Blk.new _ _ _)
 have HBA := hid (hBA.ext e1)
 have HBB := hid (hBB.ext e1)
 have HA := hid (hA.ext e1)
 have HB := hid (hB.ext e1)
 have HE1 := hid e1
 have HW1 := hid hw1
 have HZ1 := hid hz1
 have HF : Hid (∀ c s, syms[c]? = some s → (f c).1 = (goS A x s, goS B y s)) := hid fun c s hs => by
  rw [hf, (HG.out c).2]
  unfold symAt
  rw [hs]; rfl
 have HP1 : Hid (x < A.next.length ∧ y < B.next.length) := hid hp
 have c0 : w.cell? ⟨bS, 0, none⟩ = some (.slice aoW n cW) := hSB.cell (i := 0) rfl
 have l0 := hSB.lt
 clear hA hBA hB hBB hS hSB hn e1 hw1 hz1 HG hf hQ hp
 go_enter Tryz.func106, Tryz.ntmps106
 go_wp2_with fail
 rw [← HW1.out]
 go_loopg [6, 11] n (fun g v u wr => ∃ j, g = n - j ∧ j ≤ n ∧ u = .int .i64 j ∧ Hid (Ext w1 wr ∧ OwnR wr w1.heap.size 83 2 prC v ((List.range j).map f)))
 case atStart => exact ⟨0, rfl, Nat.zero_le _, rfl, hid ⟨Below.refl _ _, OwnR.nil _ _ _ _ _⟩⟩
 case round =>
  obtain ⟨j, rfl, hj, rfl, HW⟩ := hrel
  obtain ⟨v, hv⟩ : ∃ v, v = u6 := ⟨_, rfl⟩
  subst hv
  by_cases hlt : j < n
  ·obtain ⟨gW, oW, rfl⟩ := hW (by omega)
   obtain ⟨s, hs⟩ : ∃ s, syms[j]? = some s := ⟨_, List.getElem?_eq_getElem (by rw [← HNN.out]; exact hlt)⟩
   have HSJ := hid hs
   have c1 : wr.cell? ⟨gW, oW + j, none⟩ = some (.string s) := by
    exact (HS.out.ext (HE1.out.trans (HW.out.1.mono HE1.out.size))).cell1 hs
   have hS0 : Ext w1 wr.drew := HW.out.1.drew
   clear hs
   go_upto_region 5 with fail
   refine wp_region_heldL (fun w' => Ext w1 w') (by kernel_rfl) ?_
   refine wpAnyH_takeK 0 14 (mk 15 1) rfl (by kernel_rfl) rfl v (fun _ _ _ h => h) (Or.inl ⟨rfl, fun w' hS => ?_⟩) hS0 ?_
   ·go_simp <;> with_reducible rfl
   refine wpAnyH_takeK 1 13 (mk 15 3) rfl (by kernel_rfl) rfl (.agg #[.slice aoS n1 cS, .slice aoN n2 cN, .slice aoF n3 cF]) (fun _ _ _ h => h) (Or.inl ⟨rfl, fun w' hS => ?_⟩) hS0 ?_
   ·exact exec_load_cells 26 (.tmp 2) rfl bA 0 rfl _ _ 3 (blk_cells (HBA.out.ext hS) rfl) rfl Tryz.underlying26 rfl (by kernel_rfl)
   refine wpAnyH_takeK 2 12 (mk 15 7) rfl (by kernel_rfl) rfl (.pointer (some ⟨w.heap.size, 0, none⟩)) (fun _ _ _ h => h) (Or.inl ⟨rfl, fun w' hS => ?_⟩) hS0 ?_
   ·go_simp <;> with_reducible rfl
   refine wpAnyH_takeK 3 11 (mk 15 15) rfl (by kernel_rfl) rfl (.int .i64 x) (fun _ _ _ h => h) (Or.inl ⟨rfl, fun w' hS => ?_⟩) hS0 ?_
   ·have c1 : w'.cell? ⟨w.heap.size, 0, none⟩ = some (.int .i64 x) := (HB4.out.ext hS).cell (i := 0) rfl; go_simp <;> with_reducible rfl
   refine wpAnyH_takeK 4 10 (mk 15 31) rfl (by kernel_rfl) rfl (.string s) (fun _ _ _ h => h) (Or.inl ⟨rfl, fun w' hS => ?_⟩) hS0 ?_
   ·go_simp <;> with_reducible rfl
   refine wpAnyH_takeK 6 9 (mk 15 95) rfl (by kernel_rfl) rfl (.agg #[.slice aoS2 m1 cS2, .slice aoN2 m2 cN2, .slice aoF2 m3 cF2]) (fun _ _ _ h => h) (Or.inl ⟨rfl, fun w' hS => ?_⟩) hS0 ?_
   ·exact exec_load_cells 26 (.tmp 3) rfl bB 0 rfl _ _ 3 (blk_cells (HBB.out.ext hS) rfl) rfl Tryz.underlying26 rfl (by kernel_rfl)
   refine wpAnyH_takeK 7 8 (mk 15 223) rfl (by kernel_rfl) rfl (.pointer (some ⟨w.heap.size, 1, none⟩)) (fun _ _ _ h => h) (Or.inl ⟨rfl, fun w' hS => ?_⟩) hS0 ?_
   ·go_simp <;> with_reducible rfl
   refine wpAnyH_takeK 8 7 (mk 15 479) rfl (by kernel_rfl) rfl (.int .i64 y) (fun _ _ _ h => h) (Or.inl ⟨rfl, fun w' hS => ?_⟩) hS0 ?_
   ·have c1 : w'.cell? ⟨w.heap.size, 1, none⟩ = some (.int .i64 y) := (HB4.out.ext hS).cell (i := 1) rfl; go_simp <;> with_reducible rfl
   refine wpAnyH_takeK 9 6 (mk 15 991) rfl (by kernel_rfl) rfl (.string s) (fun _ _ _ h => h) (Or.inl ⟨rfl, fun w' hS => ?_⟩) hS0 ?_
   ·go_simp <;> with_reducible rfl
   refine wpAnyH_one 5 5 (mk 15 1023) rfl (by kernel_rfl) rfl ?_
   go_wp2_with fail
   refine (goes_any (HA.out.ext hS0) x HP1.out.1 s).mono ?_
   rintro e w3 ⟨rfl, hx3⟩
   have hS3 : Ext w1 w3 := hS0.trans (hx3.mono hS0.size)
   have hR3 : Ext wr w3 := (Below.refl wr.heap.size wr).drew.trans (hx3.mono (by simp))
   have HR3 := hid hR3
   clear hx3 hR3
   go_wp2_with fail
   refine ⟨hS3, ?_⟩
   refine wpAnyH_one 10 4 (mk 15 2047) rfl (by kernel_rfl) rfl ?_
   go_wp2_with fail
   refine (goes_any (HB.out.ext hS3) y HP1.out.2 s).mono ?_
   rintro e w4 ⟨rfl, hx4⟩
   have hS4 : Ext w1 w4 := hS3.trans (hx4.mono hS3.size)
   have HR4 := hid (HR3.out.trans (hx4.mono HR3.out.size))
   clear hx4
   go_wp2_with fail
   refine ⟨hS4, ?_⟩
   refine wpAnyH_one 11 3 (mk 15 4095) rfl (by kernel_rfl) rfl ?_
   go_wp2_with (with_reducible refine onOp 26 ?_
                go_loud (refine wpList_build_agg rfl 83 _ rfl [(0, .int .i64 (goS A x s)), (1, .int .i64 (goS B y s))] rfl _ (built_pr _ _) ?_)
                intro C HC)
   refine ⟨hS4, ?_⟩
   have hC : C = prC (f j) := by
    rw [HC.out]
    unfold prC
    rw [HF.out j s HSJ.out]
   subst hC
   refine wpAnyH_one 12 2 (mk 15 8191) rfl (by kernel_rfl) rfl ?_
   go_wp2_with (with_reducible refine onOp 27 ?_
                go_loud (refine wpList_slice_one rfl 77 (.tmp 26) rfl (prC (f j)) rfl 83 2 _ Tryz.underlying77 slot83 (by decide) (by decide) rfl ?_))
   refine ⟨hS4.alloc (by have := hS4.size; omega) _, ?_⟩
   have HOW4 := hid (HW.out.2.ext HR4.out)
   have hsz4 := hS4.size
   have hln : ((List.range j).map f).length + 1 ≤ 1000000000 := by simp; omega
   refine wpAnyH_one 13 1 (mk 15 16383) rfl (by kernel_rfl) rfl ?_
   go_wp2_with (with_reducible refine onOp 28 ?_
                go_loud (refine wpList_append_R elem_pr prC_size ones_pr HOW4 hsz4 hln (f j) _ rfl w4.heap.size rfl rfl _ _ rfl rfl rfl ?_)
                rintro g' c' v' w6 rfl G1 G2)
   have c6 : Chg (fun k => v.ownBlock = some k) w4 w6 := (Chg.refl _ w4).grown G2.out.1 (fun k e => e)
   have hS6 : Ext w1 w6 := hS4.trans ((c6.mono (S' := fun k => w1.heap.size ≤ k) fun k _ e => (HOW4.out.lt k e).1).below hS4.size (fun k e => e))
   refine ⟨hS6, ?_⟩
   refine wpAnyH_one 14 0 (mk 15 32767) rfl (by kernel_rfl) rfl ?_
   go_wp2_with fail
   refine ⟨hS6, ?_⟩
   refine wpAnyH_end (P := Tryz.prog) (by kernel_rfl) ?_
   go_wp2_with fail
   go_roundg (n - (j + 1))
   case measure => omega
   case rel =>
    refine ⟨j + 1, rfl, by omega, by go_num, hid ⟨hS6, ?_⟩⟩
    rw [List.range_succ, List.map_append]
    have := G1.out
    simpa using this
  ·go_wp2_with fail
   have hjn : j = syms.length := by rw [← HNN.out]; omega
   have h1 := HW.out.2.lower (b := w.heap.size) (by rw [HZ1.out]; omega)
   rw [hjn] at h1
   rw [← HNN.out] at h1
   exact HPO.out wr v h1 (HE1.out.trans (HW.out.1.mono HE1.out.size))
end Go.Proofs.YtngpjagpeblbjaaGreatDoor
namespace Go.Proofs.YtngpjagpeblbjaaGreatDoor
open Go.RowKit Go.Spy Go.Heaped Go.Tour Go.Rx
def PairsV (xA xB : Array Value) (vS : Value) (w : World) (e : Ending) (w' : World) : Prop :=
 e = .returned (.func (.func 106) #[] #[.pointer (some ⟨w.heap.size + 2, 0, none⟩), .pointer (some ⟨w.heap.size, 0, none⟩), .pointer (some ⟨w.heap.size + 1, 0, none⟩)]) ∧
   Ext w w' ∧ Blk w' w.heap.size 26 xA ∧ Blk w' (w.heap.size + 1) 26 xB ∧ Blk w' (w.heap.size + 2) 22 #[vS]
set_option maxRecDepth 100000 in
set_option maxHeartbeats 1000000 in
theorem pairs_any {w : World} {xA xB : Array Value} {A B : DA} (hA : DfaW w (.agg xA) A) (hB : DfaW w (.agg xB) B) (aoS : Option Addr) (n c : Nat) :
 Calls Tryz.prog 47 #[.agg xA, .agg xB, .slice aoS n c] w (PairsV xA xB (.slice aoS n c) w) := by
 obtain ⟨aoS, n1, cS, aoN, n2, cN, aoF, n3, cF, rfl⟩ := hA.open_
 obtain ⟨aoS2, m1, cS2, aoN2, m2, cN2, aoF2, m3, cF2, rfl⟩ := hB.open_
 clear hA hB
 go_enter Tryz.func47, Tryz.ntmps47
 go_wp2_with fail
 go_ret
 refine ⟨rfl, (((Below.refl _ _).alloc (Nat.le_refl _) _).alloc (by simp) _).alloc (by simp; omega) _, ((Blk.new _ _ _).alloc _).alloc _, (Blk.new' _ _ _ (by simp)).alloc _, Blk.new' _ _ _ (by simp)⟩
end Go.Proofs.YtngpjagpeblbjaaGreatDoor
