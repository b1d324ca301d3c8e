/-
  Walk of the reference's Name, for every text.
  Plain law: the words by which a tour comes to a state first are the least ones, shorter rows ahead of longer ones. No program is named here.
  Plain law: what a state matches; a tour whose states match unlike rows depends on what its first one matches alone. No program is named here.
  Plain law: words in order; automata as a program holds them, and what is wrong with one.
  Walks of DFA.goes, DFA.final and DFA.Match.
  Walk of DFA.Least.
  Walks of the laws' small helpers: Small, none, Plain, ahead, Texts.
  Where a pair of states goes.
  Plain laws for the statements: Not and Within in words, rows ahead of rows.
  Walk of classes over truth values: the numbers of the things of a list, in the order in which they come.
  What calls answer, in the form in which the laws' walks take it.
  Walks of the reference's find, Step and Match.
  Walks of the reference's same (of lists) and number.
-/
import Derived.Test.YtngpjagpeblbjaaGreatDoorP01
import Derived.Test.YtngpjagpeblbjaaGreatDoorP02
import Derived.Test.YtngpjagpeblbjaaGreatDoorP03
import Derived.Test.YtngpjagpeblbjaaGreatDoorP04
import Derived.Test.YtngpjagpeblbjaaGreatDoorP05
import Derived.Test.YtngpjagpeblbjaaGreatDoorP06
import Derived.Test.YtngpjagpeblbjaaGreatDoorP07
import Derived.Test.YtngpjagpeblbjaaGreatDoorP08
import Derived.Test.YtngpjagpeblbjaaGreatDoorP09
import Derived.Test.YtngpjagpeblbjaaGreatDoorP10
import Derived.Test.YtngpjagpeblbjaaGreatDoorP11
import Derived.Test.YtngpjagpeblbjaaGreatDoorP12
import Derived.Test.YtngpjagpeblbjaaGreatDoorP13
import Derived.Test.YtngpjagpeblbjaaGreatDoorP14
import Derived.Test.YtngpjagpeblbjaaGreatDoorP15
import Derived.Test.YtngpjagpeblbjaaGreatDoorP16
import Derived.Test.YtngpjagpeblbjaaGreatDoorP17
import Derived.Test.YtngpjagpeblbjaaGreatDoorP18
import Derived.Test.YtngpjagpeblbjaaGreatDoorP19
import Derived.Test.YtngpjagpeblbjaaGreatDoorP20
import Derived.Test.YtngpjagpeblbjaaGreatDoorP21
import Derived.Test.YtngpjagpeblbjaaGreatDoorP22
import Derived.Test.YtngpjagpeblbjaaGreatDoorP23
import Derived.Deep.DeepCutAuto
import Derived.Test.YtngpjagpeblbjaaGreatDoorRows
import Derived.Laws.OwnMore
import Derived.WalkKit
import Derived.WalkSpells
import Derived.WalkLawsBesides
import Derived.Deep.LoopGhost
import Derived.Sort.Walk0
import Derived.Recover
import Derived.Deep.RegionLaw
import Derived.Deep.AppendLies
import Derived.BigRegion
import Derived.BigQuiet
import Derived.Deep.QuietTactic
import Derived.Deep.RegionWith
import Derived.StillTailTactics
import Derived.DeepKeys5
import Derived.OwnWalk
import Derived.Deep.Draws
import Derived.Laws.ResultCell
import Derived.Laws.CopyRow
import Derived.Lib.TrailingZeros
import Derived.Outline
import Derived.Deep.CutBlock
import Derived.Deep.OwnRows
import Derived.StillTail
import Derived.StillTactics
import Derived.OrdersHeld
import Derived.IntWalk
import Derived.Sort.OwnSorted
import Derived.Sort.Grow
import Derived.Lib.OwnBridge
import Derived.Shelf.Sort.Plain
import Derived.Shelf.Slices.Turned
import Derived.Ground.Names2Prog
import Derived.Shelf.Slices.ReverseS
import Derived.Shelf.Slices.Clone
import Derived.Shelf.Slices.CompactS
import Derived.Shelf.Slices.SearchI
import Derived.Shelf.Slices.Cells
import Derived.Shelf.Slices.In.SortNone
import Derived.Test.YtngpjagpeblbjaaGreatDoorProg
import Derived.Deep.Cut
import Derived.Lib.SlicesCompact
import Derived.Lib.RowBridge
namespace Go.Proofs.YtngpjagpeblbjaaGreatDoor
open Go.RowKit Go.Spy
theorem nameOk_no {s : ByteArray} {k : Nat} (hlt : k < s.size) (h : isLet (s[k]'hlt).toNat = false) (h2 : k = 0 ∨ isPart (s[k]'hlt).toNat = false) : nameOk s = false := by
 rcases h2 with rfl | h2
 ·rw [nameOk, nameOk_head hlt, h]; simp
 ·rw [nameOk, allPart_no hlt h2]; simp
theorem nameOk_yes {s : ByteArray} (h : ∀ j (hj : j < s.size), isPart (s[j]'hj).toNat = true ∧ (j = 0 → isLet (s[j]'hj).toNat = true)) : nameOk s = (decide (1 ≤ s.size) && decide (s.size ≤ 64)) := by
 have h1 := allPart_yes fun j hj => (h j hj).1
 by_cases h0 : 0 < s.size
 ·rw [nameOk, nameOk_head h0, h1, (h 0 h0).2 rfl]; simp
 ·simp [nameOk, show s.size = 0 by omega]
set_option maxHeartbeats 1000000 in
theorem name_any (s : ByteArray) (w : World) (hs : s.size ≤ maxLen) :
 Calls Tryz.prog 30 #[.string s] w fun e w' => e = .returned (.bool (nameOk s)) ∧ w = w' := by
 unfold maxLen at hs
 go_enter Tryz.func30, Tryz.ntmps30
 go_wp2_with fail
 go_loopg [3] s.size (fun g i wr => ∃ k : Nat, k ≤ s.size ∧ g = s.size - k ∧ wr = w ∧ i = .int .i64 k ∧ Hid (∀ j (hj : j < s.size), j < k → isPart (s[j]'hj).toNat = true ∧ (j = 0 → isLet (s[j]'hj).toNat = true)))
 case atStart => exact ⟨0, by omega, by omega, rfl, rfl, fun j _ hj => by omega⟩
 case round =>
  obtain ⟨k, hk, rfl, rfl, rfl, HA⟩ := hrel
  by_cases hlt : k < s.size
  ·have hb : (s[k]'hlt).toNat < 256 := (s[k]'hlt).toNat_lt
   have HN := hid (nameOk_no hlt)
   have HY : Hid (isPart (s[k]'hlt).toNat = true ∧ (k = 0 → isLet (s[k]'hlt).toNat = true) → (∀ j (hj : j < s.size), j < k + 1 → isPart (s[j]'hj).toNat = true ∧ (j = 0 → isLet (s[j]'hj).toNat = true))) := by
    intro h j hj hjk
    by_cases e : j = k
    ·subst e; exact h
    ·exact HA.out j hj (by omega)
   go_upto_region 5 with fail
   go_cut [5] (fun v wx => v = .bool (isLet (s[k]'hlt).toNat) ∧ wr = wx)
   case first =>
    go_wp2_with fail
    all_goals go_meet
    all_goals exact ⟨by congr 1; rw [Bool.eq_iff_iff]; simp [isLet]; omega, rfl⟩
   case rest =>
    obtain ⟨rfl, rfl⟩ := hcut
    cases hL : isLet (s[k]'hlt).toNat
    ·by_cases h0 : k = 0
     ·subst h0
      have HF := hid (HN.out hL (.inl rfl))
      go_wp2
      go_ret
      exact ⟨ret_bool HF.out.symm, rfl⟩
     ·have hk0 : ((k : Int) == 0) = false := by simp; omega
      have HL := hid hL
      clear hL
      have HG := hid (HY.out)
      by_cases e45 : (((s[k]'hlt).toNat : Int) == 45) = true
      ·have HP : Hid (isPart (s[k]'hlt).toNat = true) := by simp [Hid, isPart] at e45 ⊢; omega
       go_wp2
       all_goals (go_roundg (s.size - (k+1)); exact ⟨k+1, by omega, rfl, rfl, by go_num, HY.out ⟨HP.out, fun e => absurd e h0⟩⟩; omega)
      ·have f45 : (((s[k]'hlt).toNat : Int) == 45) = false := by simpa using e45
       clear e45
       by_cases e46 : (((s[k]'hlt).toNat : Int) == 46) = true
       ·have HP : Hid (isPart (s[k]'hlt).toNat = true) := by simp [Hid, isPart] at e46 ⊢; omega
        go_wp2
        all_goals (go_roundg (s.size - (k+1)); exact ⟨k+1, by omega, rfl, rfl, by go_num, HY.out ⟨HP.out, fun e => absurd e h0⟩⟩; omega)
       ·have f46 : (((s[k]'hlt).toNat : Int) == 46) = false := by simpa using e46
        clear e46
        by_cases hD : 48 ≤ (s[k]'hlt).toNat ∧ (s[k]'hlt).toNat ≤ 57
        ·have HP : Hid (isPart (s[k]'hlt).toNat = true) := by simp [Hid, isPart, isDig]; omega
         obtain ⟨d1, d2⟩ := hD
         go_wp2
         all_goals (go_roundg (s.size - (k+1)); exact ⟨k+1, by omega, rfl, rfl, by go_num, HY.out ⟨HP.out, fun e => absurd e h0⟩⟩; omega)
        ·have HP := hid (HN.out HL.out (.inr (by simp at f45 f46; simp [isPart, isDig, HL.out]; omega)))
         have hD' : (s[k]'hlt).toNat < 48 ∨ 57 < (s[k]'hlt).toNat := by omega
         clear hD
         rcases hD' with hD | hD
         all_goals
          go_wp2
         all_goals first
          | (go_ret; exact ⟨ret_bool HP.out.symm, rfl⟩)
          | (have hq : (!decide (((s[k]'hlt).toNat : Int) ≤ 57)) = false := by assumption
             exfalso; simp at hq; omega)
    ·have HF := hid (HY.out ⟨by simp [isPart, hL], fun _ => hL⟩)
     go_wp2
     all_goals (go_roundg (s.size - (k+1)); exact ⟨k+1, by omega, rfl, rfl, by go_num, HF⟩; omega)
  ·have hF := hid (nameOk_yes fun j hj => HA.out j hj (by omega))
   by_cases h1 : 1 ≤ s.size
   all_goals
    go_wp2
    go_ret
    exact ⟨ret_bool (by rw [hF.out, Bool.eq_iff_iff]; simp; omega), rfl⟩
end Go.Proofs.YtngpjagpeblbjaaGreatDoor
namespace Go.Tour
theorem aheadL_irr : ∀ u, aheadL u u = false
 | [] => rfl
 | a :: u => by simp [aheadL, aheadL_irr u]
theorem slt_irr (u : List Nat) : ¬ slt u u := by
 rintro (h | ⟨_, h⟩)
 ·omega
 ·rw [aheadL_irr] at h; cases h
theorem sle_antisymm {u v : List Nat} (h : sle u v) (k : sle v u) : u = v := by
 rcases h with h | h
 ·exact h
 ·rcases k with k | k
  ·exact k.symm
  ·exact absurd (slt_trans h k) (slt_irr u)
section
variable {K : Type} [DecidableEq K]
section
variable {δ : K → Nat → K} {m : Nat} {first : K} {keys : List K} {fr : List (Nat × Nat)} {i j : Nat}
end
section
variable {δ : K → Nat → K} {m : Nat} {first : K} {keys : List K} {fr : List (Nat × Nat)} {b : Nat × Nat}
end
section
variable {succ : K → List K} {first : K} {U : K → Prop}
end
end
end Go.Tour
namespace Go.Tour
section
variable {K : Type}
end
section
variable {K : Type} [DecidableEq K]
end
variable {σ : Type}
section
variable {K : Type} [DecidableEq K] {δ : K → Nat → K} {syms : List σ} {f : K → Bool} {first : K} {i : Nat}
end
section
variable [DecidableEq σ]
def runS (d : DF σ) (s : Int) (l : List σ) : Int := l.foldl (goS d) s
def matchD (d : DF σ) (l : List σ) : Bool := finS d (runS d 0 l)
theorem goS_lt {d : DF σ} (h : OkD d) (s : Int) (x : σ) : -1 ≤ goS d s x ∧ goS d s x < d.next.length := by
 unfold goS
 split
 ·have := h.step s.toNat (d.syms.idxOf x); omega
 ·omega
theorem runS_none {d : DF σ} : ∀ (l : List σ) {s : Int}, s < 0 → runS d s l < 0
 | [], _, h => h
 | x :: l, s, h => by
   show runS d (goS d s x) l < 0
   rw [goS_none h]
   exact runS_none l (by omega)
theorem runS_in {d : DF σ} : ∀ {l : List σ} (s : Nat), (∀ x ∈ l, x ∈ d.syms) → runS d s l = (runL (stepD d) s (l.map d.syms.idxOf) : Nat)
 | [], _, _ => rfl
 | y :: l, s, h => by
   show runS d (goS d s y) l = _
   rw [goS_in (h y (by simp))]
   exact runS_in _ (fun x hx => h x (by simp [hx]))
theorem matchD_in {d : DF σ} {l : List σ} (h : ∀ x ∈ l, x ∈ d.syms) : matchD d l = langD d (l.map d.syms.idxOf) := by
 unfold matchD langD
 rw [lang_of (fun c hc => by
  simp only [List.mem_map] at hc
  obtain ⟨x, hx, rfl⟩ := hc
  exact List.idxOf_lt_length_of_mem (h x hx))]
 rw [show (0 : Int) = ((0 : Nat) : Int) by rfl, runS_in 0 h]
 simp [finS]
theorem wordsOf_idx {syms : List σ} (hn : syms.Nodup) : ∀ {u : List Nat}, (∀ c ∈ u, c < syms.length) → (wordsOf syms u).map syms.idxOf = u
 | [], _ => rfl
 | c :: u, hu => by
   have hc := hu c (by simp)
   rw [wordsOf_cons hc, List.map_cons, hn.idxOf_getElem c hc, wordsOf_idx hn (fun x hx => hu x (by simp [hx]))]
omit [DecidableEq σ] in
theorem wordsOf_mem {syms : List σ} {u : List Nat} : ∀ x ∈ wordsOf syms u, x ∈ syms := by
 intro x hx
 simp only [wordsOf, List.mem_filterMap] at hx
 obtain ⟨c, _, hc⟩ := hx
 exact List.mem_of_getElem? hc
theorem match_words {d : DF σ} (hn : d.syms.Nodup) {u : List Nat} (hu : ∀ c ∈ u, c < d.syms.length) : matchD d (wordsOf d.syms u) = langD d u := by
 rw [matchD_in wordsOf_mem, wordsOf_idx hn hu]
end
end Go.Tour
namespace Go.Tour
open Go.Spy
theorem ltB_total {a b : ByteArray} (h : a ≠ b) : ltB a b = true ∨ ltB b a = true := by
 rw [ltB_iff, ltB_iff]
 rcases Decidable.em (a.toList < b.toList) with h1 | h1
 ·exact .inl h1
 ·refine .inr ?_
  have h2 : b.toList ≤ a.toList := List.not_lt.1 h1
  rcases Decidable.em (b.toList < a.toList) with h3 | h3
  ·exact h3
  ·exact absurd (bytes_ext (List.le_antisymm (List.not_lt.1 h3) h2)) h
end Go.Tour
namespace Go.Tour
variable {σ : Type} [DecidableEq σ]
end Go.Tour
namespace Go.Proofs.YtngpjagpeblbjaaGreatDoor
open Go.RowKit Go.Spy Go.Heaped Go.Tour Go.Rx
set_option maxRecDepth 100000 in
theorem match_bad {w : World} {v : Value} {d : DR} (hD : DfaV w v d) (hB : BndD d) (h : checkE nameOk d ≠ 0) (x : Value) : Calls Tryz.prog 26 #[v, x] w fun e w' => e = .returned (.bool false) ∧ Ext w w' := by
 obtain ⟨vS, vN, vF, us, rfl, hP⟩ := hD
 have hc := hid (dcheck_any (hP.ext_box (.cells #[vS, vN, vF] 26)) hB)
 obtain ⟨aoS, cS, rfl, hS⟩ := hP.syms.form
 obtain ⟨aoN, cN, rfl, hN⟩ := hP.next.form
 obtain ⟨aoF, cF, rfl, hF⟩ := hP.fin.form
 obtain ⟨E, hE⟩ : ∃ E, E = checkE nameOk d := ⟨_, rfl⟩
 rw [← hE] at hc h
 have d0 : (((E : Nat) : Int) != 0) = true := by simp; omega
 have HX : Hid (Ext w (w.alloc (.cells #[.slice aoS d.syms.length cS, .slice aoN us.length cN, .slice aoF d.fin.length cF] 26))) := hid ((Below.refl _ _).alloc (Nat.le_refl _) _)
 clear hP hE hS hN hF
 go_enter Tryz.func26, Tryz.ntmps26
 go_wp2_with fail
 refine hc.out.mono ?_
 rintro e w2 ⟨rfl, hx⟩
 have HX2 := hid (HX.out.trans (hx.mono HX.out.size))
 clear hx
 go_wp2_with fail
 go_ret
 exact ⟨rfl, HX2.out⟩
set_option maxRecDepth 100000 in
set_option maxHeartbeats 1000000 in
theorem dmatch_any {w : World} {v : Value} {D : DA} (hD : DfaW w v D) {x : Value} {l : List ByteArray} (hl : ReadR w 1 strC x l) (hlen : l.length ≤ 1000) : Calls Tryz.prog 26 #[v, x] w fun e w' => e = .returned (.bool (matchD D l)) ∧ Ext w w' := by
 have HD := hid hD
 obtain ⟨⟨vS, vN, vF, us, rfl, hP⟩, hB, W⟩ := hD
 have hc := hid (dcheck_any (hP.ext_box (.cells #[vS, vN, vF] 26)) hB)
 obtain ⟨aoS, cS, rfl, hS⟩ := hP.syms.form
 obtain ⟨aoN, cN, rfl, hN⟩ := hP.next.form
 obtain ⟨aoF, cF, rfl, hF⟩ := hP.fin.form
 obtain ⟨aoL, cL, rfl, hL⟩ := hl.form
 have HE := well_check W
 rw [HE] at hc
 obtain ⟨n, hn⟩ : ∃ n, n = l.length := ⟨_, rfl⟩
 have HL := hid hl
 have HLF := hid hL
 rw [← hn] at HL HLF hlen ⊢
 obtain ⟨k, hk⟩ : ∃ k, k = D.raw.fin.length := ⟨_, rfl⟩
 have hbk : k ≤ 1000 := hk ▸ hB.f
 have hkn : k = D.next.length := by rw [hk]; exact W.ok.fin
 have HP := hid hP
 rw [← hk] at hc HD HP ⊢ hF
 have HFF := hid hF
 have HW := hid W
 have HNN := hid hn
 have HK := hid hkn
 have HX : Hid (Ext w (w.alloc (.cells #[.slice aoS D.raw.syms.length cS, .slice aoN us.length cN, .slice aoF k cF] 26))) := hid ((Below.refl _ _).alloc (Nat.le_refl _) _)
 clear hP hB W hl hn hk hkn HE hS hN hF hL
 go_enter Tryz.func26, Tryz.ntmps26
 go_wp2_with fail
 refine hc.out.mono ?_
 rintro e w2 ⟨rfl, hx⟩
 have HX2 := hid (HX.out.trans (hx.mono HX.out.size))
 have HB2 := hid ((Blk.new w 26 #[.slice aoS D.raw.syms.length cS, .slice aoN us.length cN, .slice aoF k cF]).ext hx)
 clear hx
 go_wp2_with fail
 go_loopg [5, 13] n (fun g u v wr => ∃ j s, g = n - j ∧ j ≤ n ∧ s < k ∧ u = .int .i64 (s : Nat) ∧ v = .int .i64 j ∧ Hid (Ext w wr ∧ Blk wr w.heap.size 26 #[.slice aoS D.raw.syms.length cS, .slice aoN us.length cN, .slice aoF k cF]) ∧ Hid (runS D 0 (l.take j) = (s : Nat)))
 case atStart => exact ⟨0, 0, rfl, Nat.zero_le _, by rw [HK.out]; exact HW.out.ok.pos, rfl, rfl, hid ⟨HX2.out, HB2.out⟩, hid rfl⟩
 case round =>
  obtain ⟨j, s, rfl, hj, hs, rfl, rfl, HY, HR⟩ := hrel
  have b0 : wr.cell? ⟨w.heap.size, 0, none⟩ = some (.slice aoS D.raw.syms.length cS) := HY.out.2.cell rfl
  have b1 : wr.cell? ⟨w.heap.size, 1, none⟩ = some (.slice aoN us.length cN) := HY.out.2.cell rfl
  have b2 : wr.cell? ⟨w.heap.size, 2, none⟩ = some (.slice aoF k cF) := HY.out.2.cell rfl
  by_cases hlt : j < n
  ·obtain ⟨g, off, rfl⟩ := HLF.out (by omega)
   obtain ⟨y, hy⟩ : ∃ y, l[j]? = some y := ⟨_, List.getElem?_eq_getElem (by rw [← HNN.out]; omega)⟩
   have c1 : wr.cell? ⟨g, off + j, none⟩ = some (.string y) := (HL.out.ext HY.out.1).cell1 hy
   have HT : Hid (runS D 0 (l.take (j + 1)) = goS D (s : Nat) y) := hid (by
    have h1 := (List.getElem?_eq_some_iff.1 hy)
    obtain ⟨h2, h3⟩ := h1
    rw [List.take_succ_eq_append_getElem h2, h3]
    unfold runS at *
    rw [List.foldl_append, HR.out]; rfl)
   have HYY := hid hy
   clear hy
   go_wp2_with fail
   go_at_call 89
   refine (goes_any (HD.out.ext HY.out.1) (s : Nat) (by rw [← HK.out]; omega) y).mono ?_
   rintro e w3 ⟨rfl, hx⟩
   have HX3 := hid (HY.out.1.trans (hx.mono HY.out.1.size))
   have HB3 := hid (HY.out.2.ext hx)
   clear hx
   have hb1 := (goS_lt HW.out.ok (s : Nat) y).2
   rw [← HK.out] at hb1
   obtain ⟨q, hq⟩ : ∃ q, q = goS D (s : Nat) y := ⟨_, rfl⟩
   rw [← hq] at hb1 HT ⊢
   clear hq
   by_cases hq0 : q < 0
   ·have d0 : decide (q < 0) = true := decide_eq_true hq0
    go_wp2_with fail
    go_ret
    refine ⟨ret_bool ?_, HX3.out⟩
    have h1 : runS D 0 l < 0 := by
     rw [← List.take_append_drop (j + 1) l]
     unfold runS
     rw [List.foldl_append]
     exact runS_none _ (by have := HT.out; unfold runS at this; rw [this]; exact hq0)
    unfold matchD finS
    rw [decide_eq_false (by omega)]; rfl
   ·have d0 : decide (q < 0) = false := decide_eq_false hq0
    obtain ⟨t, rfl⟩ : ∃ t : Nat, q = (t : Int) := ⟨q.toNat, by omega⟩
    go_wp2_with fail
    go_roundg (n - (j + 1))
    case measure => omega
    case rel => exact ⟨j + 1, t, rfl, by omega, by omega, rfl, by go_num, hid ⟨HX3.out, HB3.out⟩, HT⟩
  ·obtain ⟨g, off, rfl⟩ := HFF.out (by omega)
   have c1 : wr.cell? ⟨g, off + s, none⟩ = some (.bool (finD D s)) := (HP.out.ext HY.out.1).fin.cell1 (HW.out.ok.finAt (by rw [← HK.out]; omega))
   go_wp2_with fail
   go_ret
   refine ⟨ret_bool ?_, HY.out.1⟩
   have h1 := HR.out
   rw [List.take_of_length_le (by rw [← HNN.out]; omega)] at h1
   unfold matchD finS
   rw [h1]; simp
end Go.Proofs.YtngpjagpeblbjaaGreatDoor
namespace Go.Proofs.YtngpjagpeblbjaaGreatDoor
open Go.RowKit Go.Spy Go.Heaped Go.Tour Go.Rx
set_option maxRecDepth 100000 in
theorem least_bad {w : World} {v : Value} {d : DR} (hD : DfaV w v d) (hB : BndD d) (h : checkE nameOk d ≠ 0) : Calls Tryz.prog 16 #[v] w fun e w' => e = .returned (.tuple #[.slice none 0 0, .int .i64 (checkE nameOk d : Nat)]) ∧ Ext w w' := by
 obtain ⟨vS, vN, vF, us, rfl, hP⟩ := hD
 have hc := hid (dcheck_any (hP.ext_box (.cells #[vS, vN, vF] 26)) hB)
 obtain ⟨aoS, cS, rfl, hS⟩ := hP.syms.form
 obtain ⟨aoN, cN, rfl, hN⟩ := hP.next.form
 obtain ⟨aoF, cF, rfl, hF⟩ := hP.fin.form
 obtain ⟨E, hE⟩ : ∃ E, E = checkE nameOk d := ⟨_, rfl⟩
 rw [← hE] at hc h ⊢
 have d0 : (((E : Nat) : Int) != 0) = true := by simp; omega
 have HX : Hid (Ext w (w.alloc (.cells #[.slice aoS d.syms.length cS, .slice aoN us.length cN, .slice aoF d.fin.length cF] 26))) := hid ((Below.refl _ _).alloc (Nat.le_refl _) _)
 clear hP hE hS hN hF
 go_enter Tryz.func16, Tryz.ntmps16
 go_wp2_with fail
 refine hc.out.mono ?_
 rintro e w2 ⟨rfl, hx⟩
 have HX2 := hid (HX.out.trans (hx.mono HX.out.size))
 clear hx
 go_wp2_with fail
 go_ret2
 exact ⟨rfl, HX2.out⟩
end Go.Proofs.YtngpjagpeblbjaaGreatDoor
namespace Go.Proofs.YtngpjagpeblbjaaGreatDoor
open Go.RowKit Go.Spy Go.Heaped Go.Tour Go.Rx
theorem read_of_strs {w : World} {ao : Option Addr} {c : Nat} {l : List ByteArray} (h : StrsV w ao c l) : ReadR w 1 strC (.slice ao l.length c) l := by
 refine ⟨ao, c, rfl, ?_⟩
 rcases Nat.eq_zero_or_pos l.length with h0 | h0
 ·exact .inl h0
 ·obtain ⟨b, off, rfl, hb, hc⟩ := h.cells h0
  refine .inr ⟨b, off, rfl, hb, fun j k x hx hk => ?_⟩
  obtain rfl : k = 0 := by omega
  obtain ⟨hj, rfl⟩ := List.getElem?_eq_some_iff.1 hx
  rw [Nat.mul_one, Nat.add_zero]
  exact hc j hj
def SmallD (d : DR) : Prop := (∀ r ∈ d.next, r.length ≤ 8) ∧ (∀ s ∈ d.syms, s.size ≤ 80) ∧ d.next.length ≤ 12 ∧ d.fin.length ≤ 12 ∧ d.syms.length ≤ 6
theorem SmallD.bnd {d : DR} (h : SmallD d) : BndD d := ⟨by have := h.2.2.2.2; omega, by have := h.2.2.1; omega, by have := h.2.2.2.1; omega, fun r hr => by have := h.1 r hr; omega, fun s hs => by have := h.2.1 s hs; omega⟩
def Small8Post (d : DR) (w : World) (e : Ending) (w' : World) : Prop := ∃ b, e = .returned (.bool b) ∧ (b = true ↔ SmallD d) ∧ Ext w w'
set_option maxRecDepth 100000 in
set_option maxHeartbeats 1000000 in
theorem small8_any {w : World} {v : Value} {d : DR} (hD : DfaV w v d) (hL : LenD d) : Calls Tryz.prog 10 #[v] w (Small8Post d w) := by
 obtain ⟨vS, vN, vF, us, rfl, hP⟩ := hD
 obtain ⟨aoS, cS, rfl, hS⟩ := hP.syms.form
 obtain ⟨aoN, cN, rfl, hN⟩ := hP.next.form
 obtain ⟨aoF, cF, rfl, hF⟩ := hP.fin.form
 obtain ⟨n1, hn1⟩ : ∃ n, n = d.syms.length := ⟨_, rfl⟩
 obtain ⟨n2, hn2⟩ : ∃ n, n = us.length := ⟨_, rfl⟩
 obtain ⟨n3, hn3⟩ : ∃ n, n = d.fin.length := ⟨_, rfl⟩
 have l1 : n1 ≤ 140737488351232 := hn1 ▸ hL.s.len
 have l2 : n2 ≤ 140737488351232 := by rw [hn2, hP.len]; exact hL.n
 have l3 : n3 ≤ 140737488351232 := hn3 ▸ hL.f
 have HP := hid hP
 have HL := hid hL
 have HN2 : Hid (n2 = d.next.length) := hid (by rw [hn2, hP.len])
 rw [← hn1] at hS HP ⊢
 rw [← hn2] at hN HP ⊢
 rw [← hn3] at HP ⊢
 have HN1 := hid hn1
 have HN3 := hid hn3
 have HS := hid hS
 have HN := hid hN
 obtain ⟨w1, hw1⟩ : ∃ u, u = w.alloc (.cells #[.slice aoS n1 cS, .slice aoN n2 cN, .slice aoF n3 cF] 26) := ⟨_, rfl⟩
 have HX : Hid (Ext w w1 ∧ Blk w1 w.heap.size 26 #[.slice aoS n1 cS, .slice aoN n2 cN, .slice aoF n3 cF]) := hid ⟨hw1 ▸ (Below.refl _ _).alloc (Nat.le_refl _) _, hw1 ▸ Blk.new _ _ _⟩
 have HW1 := hid hw1
 clear hP hL hS hN hF hn1 hn2 hn3 hw1
 go_enter Tryz.func10, Tryz.ntmps10
 go_wp2_with fail
 rw [← HW1.out]
 go_loopg [3] n2 (fun g i wr => ∃ k, g = n2 - k ∧ k ≤ n2 ∧ i = .int .i64 k ∧ Hid (Ext w wr ∧ Blk wr w.heap.size 26 #[.slice aoS n1 cS, .slice aoN n2 cN, .slice aoF n3 cF]) ∧ Hid (∀ (j : Nat) (r : List Int), j < k → d.next[j]? = some r → r.length ≤ 8))
 case atStart => exact ⟨0, rfl, Nat.zero_le _, rfl, HX, hid (fun j n h => absurd h (Nat.not_lt_zero j))⟩
 case round =>
  obtain ⟨k, rfl, hk, rfl, HE, HA⟩ := hrel
  have c0 : wr.cell? ⟨w.heap.size, 0, none⟩ = some (.slice aoS n1 cS) := HE.out.2.cell (i := 0) rfl
  have c1 : wr.cell? ⟨w.heap.size, 1, none⟩ = some (.slice aoN n2 cN) := HE.out.2.cell (i := 1) rfl
  have c2 : wr.cell? ⟨w.heap.size, 2, none⟩ = some (.slice aoF n3 cF) := HE.out.2.cell (i := 2) rfl
  have lb := HE.out.2.lt
  by_cases hlt : k < n2
  ·obtain ⟨gN, oN, rfl⟩ := HN.out (by omega)
   obtain ⟨r, hr⟩ : ∃ r, d.next[k]? = some r := ⟨_, List.getElem?_eq_getElem (by rw [← HN2.out]; exact hlt)⟩
   obtain ⟨ao, c, hu, _⟩ := HP.out.row hr
   have hP' := HP.out.ext HE.out.1
   rw [HN2.out, ← HP.out.len] at hP'
   have c3 : wr.cell? ⟨gN, oN + k, none⟩ = some (.slice ao r.length c) := hP'.next.cell1 hu
   have hrl := HL.out.r r (List.mem_of_getElem? hr)
   have HR := hid hr
   obtain ⟨rl, hrl2⟩ : ∃ n, n = r.length := ⟨_, rfl⟩
   rw [← hrl2] at c3 hrl
   have HRL := hid hrl2
   clear hr hu hP' hrl2
   by_cases h8 : rl ≤ 8
   ·have h8' : ¬ 8 < rl := by omega
    go_wp2_with fail
    go_roundg (n2 - (k + 1))
    case measure => omega
    case rel =>
     refine ⟨k + 1, rfl, by omega, by go_num, HE, hid fun j m hj hm => ?_⟩
     by_cases e : j = k
     ·subst e; rw [HR.out] at hm; cases hm; rw [← HRL.out]; exact h8
     ·exact HA.out j m (by omega) hm
   ·have h8' : 8 < rl := by omega
    go_wp2_with fail
    go_ret
    exact ⟨_, rfl, ⟨fun h => (by cases h), fun h => (h8 (by rw [HRL.out]; exact h.1 r (List.mem_of_getElem? HR.out))).elim⟩, HE.out.1⟩
  ·obtain rfl : n2 = k := by omega
   have HA1 : Hid (∀ r ∈ d.next, r.length ≤ 8) := hid fun r hr => by
    obtain ⟨j, hj⟩ := List.getElem?_of_mem hr
    exact HA.out j r (by rw [HN2.out]; exact (List.getElem?_eq_some_iff.1 hj).1) hj
   go_wp2_with fail
   obtain ⟨wa, hwa⟩ : ∃ x, x = wr := ⟨_, rfl⟩
   subst hwa
   go_loopg [4] n1 (fun g i wr => ∃ k, g = n1 - k ∧ k ≤ n1 ∧ i = .int .i64 k ∧ Hid (Ext w wr ∧ Blk wr w.heap.size 26 #[.slice aoS n1 cS, .slice aoN n2 cN, .slice aoF n3 cF]) ∧ Hid (∀ (j : Nat) (s : ByteArray), j < k → d.syms[j]? = some s → s.size ≤ 80))
   case atStart => exact ⟨0, rfl, Nat.zero_le _, rfl, HE, hid (fun j n h => absurd h (Nat.not_lt_zero j))⟩
   case round =>
    obtain ⟨k, rfl, hk, rfl, HE, HA⟩ := hrel
    clear c0 c1 c2 lb
    have c0 : wr.cell? ⟨w.heap.size, 0, none⟩ = some (.slice aoS n1 cS) := HE.out.2.cell (i := 0) rfl
    have c1 : wr.cell? ⟨w.heap.size, 1, none⟩ = some (.slice aoN n2 cN) := HE.out.2.cell (i := 1) rfl
    have c2 : wr.cell? ⟨w.heap.size, 2, none⟩ = some (.slice aoF n3 cF) := HE.out.2.cell (i := 2) rfl
    have lb := HE.out.2.lt
    by_cases hlt : k < n1
    ·obtain ⟨gS, oS, rfl⟩ := HS.out (by omega)
     obtain ⟨s, hs⟩ : ∃ s, d.syms[k]? = some s := ⟨_, List.getElem?_eq_getElem (by rw [← HN1.out]; exact hlt)⟩
     have hP' := (HP.out.ext HE.out.1).syms
     rw [HN1.out] at hP'
     have c3 : wr.cell? ⟨gS, oS + k, none⟩ = some (.string s) := hP'.cell1 hs
     have hsz := HL.out.s.size s (List.mem_of_getElem? hs)
     have HSS := hid hs
     clear hs hP'
     by_cases h80 : s.size ≤ 80
     ·have h80' : ¬ 80 < s.size := by omega
      go_wp2_with fail
      go_roundg (n1 - (k + 1))
      case measure => omega
      case rel =>
       refine ⟨k + 1, rfl, by omega, by go_num, HE, hid fun j m hj hm => ?_⟩
       by_cases e : j = k
       ·subst e; rw [HSS.out] at hm; cases hm; exact h80
       ·exact HA.out j m (by omega) hm
     ·have h80' : 80 < s.size := by omega
      go_wp2_with fail
      go_ret
      exact ⟨_, rfl, ⟨fun h => (by cases h), fun h => (h80 (h.2.1 s (List.mem_of_getElem? HSS.out))).elim⟩, HE.out.1⟩
    ·obtain rfl : n1 = k := by omega
     have HA2 : Hid (∀ s ∈ d.syms, s.size ≤ 80) := hid fun s hs => by
      obtain ⟨j, hj⟩ := List.getElem?_of_mem hs
      exact HA.out j s (by rw [HN1.out]; exact (List.getElem?_eq_some_iff.1 hj).1) hj
     by_cases q2 : n2 ≤ 12
     ·have t2 : decide ((n2 : Int) ≤ 12) = true := decide_eq_true (by omega)
      by_cases q3 : n3 ≤ 12
      ·have t3 : decide ((n3 : Int) ≤ 12) = true := decide_eq_true (by omega)
       by_cases q1 : n1 ≤ 6
       ·have t1 : decide ((n1 : Int) ≤ 6) = true := decide_eq_true (by omega)
        go_wp2_with fail
        go_ret
        exact ⟨true, rfl, ⟨fun _ => ⟨HA1.out, HA2.out, by rw [← HN2.out]; exact q2, by rw [← HN3.out]; exact q3, by rw [← HN1.out]; exact q1⟩, fun _ => rfl⟩, HE.out.1⟩
       ·have t1 : decide ((n1 : Int) ≤ 6) = false := decide_eq_false (by omega)
        go_wp2_with fail
        go_ret
        exact ⟨false, rfl, ⟨fun h => (by cases h), fun h => (q1 (by rw [HN1.out]; exact h.2.2.2.2)).elim⟩, HE.out.1⟩
      ·have t3 : decide ((n3 : Int) ≤ 12) = false := decide_eq_false (by omega)
       go_wp2_with fail
       go_ret
       exact ⟨false, rfl, ⟨fun h => (by cases h), fun h => (q3 (by rw [HN3.out]; exact h.2.2.2.1)).elim⟩, HE.out.1⟩
     ·have t2 : decide ((n2 : Int) ≤ 12) = false := decide_eq_false (by omega)
      go_wp2_with fail
      go_ret
      exact ⟨false, rfl, ⟨fun h => (by cases h), fun h => (q2 (by rw [HN2.out]; exact h.2.2.1)).elim⟩, HE.out.1⟩
end Go.Proofs.YtngpjagpeblbjaaGreatDoor
namespace Go.Proofs.YtngpjagpeblbjaaGreatDoor
open Go.RowKit Go.Spy Go.Heaped Go.Tour Go.Rx
theorem goS_bnd {A : DA} (W : WellD nameOk A) (s : Int) (x : ByteArray) : -1 ≤ goS A s x ∧ goS A s x < A.next.length := by
 unfold goS
 have hp := W.ok.pos
 split
 ·exact ⟨by omega, by exact_mod_cast W.ok.step _ _⟩
 ·omega
end Go.Proofs.YtngpjagpeblbjaaGreatDoor
namespace Go.Proofs.YtngpjagpeblbjaaGreatDoor
open Go.RowKit Go.Spy Go.Heaped Go.Tour Go.Rx
theorem idx_lt {σ : Type} [DecidableEq σ] {l : List σ} {a : σ} (h : a ∈ l) : l.idxOf a < l.length := List.idxOf_lt_length_of_mem h
section
variable {D : DA}
theorem words_mild (B : BndD D.raw) {u : List Nat} (hu : ∀ c ∈ u, c < D.syms.length) (h : u.length ≤ 100000) : MildS (wordsOf D.syms u) := mild_small (by rw [wordsOf_length hu]; exact h) fun s hs => B.b s (wordsOf_mem s hs)
end
theorem check8_any {w : World} {v : Value} {d : DR} (hD : DfaV w v d) (hB : BndD d) : Calls Tryz.prog 11 #[v] w (ErrP (checkE nameOk d) w) := by
 obtain ⟨vS, vN, vF, us, rfl, hP⟩ := hD
 exact dcheck_any hP hB
end Go.Proofs.YtngpjagpeblbjaaGreatDoor
namespace Go.Proofs.YtngpjagpeblbjaaGreatDoor
open Go.RowKit Go.Spy Go.Heaped Go.Tour Go.Rx
section
variable {κ : Type} [DecidableEq κ]
omit [DecidableEq κ] in
theorem take_snoc {l : List κ} {i : Nat} {x : κ} (h : l[i]? = some x) : l.take (i + 1) = l.take i ++ [x] := by
 obtain ⟨hi, rfl⟩ := List.getElem?_eq_some_iff.1 h
 rw [List.take_succ_eq_append_getElem hi]
end
end Go.Proofs.YtngpjagpeblbjaaGreatDoor
namespace Go.Proofs.YtngpjagpeblbjaaGreatDoor
open Go.RowKit Go.Spy Go.Heaped Go.Tour Go.Rx
section
variable {A B D : DA}
theorem SmallD.len {d : DR} (h : SmallD d) : LenD d := ⟨mild_small (by have := h.2.2.2.2; omega) (fun s hs => by have := h.2.1 s hs; omega), by have := h.2.2.1; omega, by have := h.2.2.2.1; omega, fun r hr => by have := h.1 r hr; omega⟩
end
end Go.Proofs.YtngpjagpeblbjaaGreatDoor
namespace Go.Proofs.YtngpjagpeblbjaaGreatDoor
open Go.RowKit Go.Spy Go.Heaped Go.Tour Go.Rx
def findI {σ : Type} [DecidableEq σ] (l : List σ) (x : σ) : Int := if x ∈ l then (l.idxOf x : Nat) else -1
theorem findI_get {σ : Type} [DecidableEq σ] {l : List σ} (hn : l.Nodup) {x : σ} {k : Nat} (h : l[k]? = some x) : (k : Int) = findI l x := by
 unfold findI
 rw [if_pos (List.mem_of_getElem? h), idx_of_get hn h]
theorem findI_in {σ : Type} [DecidableEq σ] {l : List σ} {x : σ} (h : x ∈ l) : findI l x = (l.idxOf x : Nat) := if_pos h
theorem findI_out {σ : Type} [DecidableEq σ] {l : List σ} {x : σ} (h : x ∉ l) : findI l x = -1 := if_neg h
set_option maxRecDepth 100000 in
set_option maxHeartbeats 1000000 in
theorem find_any {w : World} {v : Value} {l : List ByteArray} (hV : ReadR w 1 strC v l) (hlen : l.length ≤ 1000) (hn : l.Nodup) (x : ByteArray) : Calls Tryz.prog 123 #[v, .string x] w fun e w' => e = .returned (.int .i64 (findI l x)) ∧ w = w' := by
 obtain ⟨ao, cap, rfl, hc⟩ := hV.form
 obtain ⟨n, hnl⟩ : ∃ n, n = l.length := ⟨_, rfl⟩
 have HV := hid hV
 rw [← hnl] at hc hlen HV ⊢
 have HC := hid hc
 have HN := hid hnl
 have HND := hid hn
 clear hV hc hnl hn
 go_enter Tryz.func123, Tryz.ntmps123
 go_wp2_with fail
 go_loopg [5] n (fun g u wr => ∃ k, g = n - k ∧ k ≤ n ∧ u = .int .i64 k ∧ wr = w ∧ Hid (∀ (j : Nat) (s : ByteArray), j < k → l[j]? = some s → s ≠ x))
 case atStart => exact ⟨0, rfl, Nat.zero_le _, rfl, rfl, hid (fun j s h => absurd h (Nat.not_lt_zero j))⟩
 case round =>
  obtain ⟨k, rfl, hk, rfl, rfl, HA⟩ := hrel
  by_cases hlt : k < n
  ·obtain ⟨g, o, rfl⟩ := HC.out (by omega)
   obtain ⟨s, hs⟩ : ∃ s, l[k]? = some s := ⟨_, List.getElem?_eq_getElem (by rw [← HN.out]; exact hlt)⟩
   have c1 : wr.cell? ⟨g, o + k, none⟩ = some (.string s) := by
    have h := HV.out
    rw [HN.out] at h
    exact h.cell1 hs
   have HS := hid hs
   clear hs
   by_cases e : s = x
   ·have t : (s.toList == x.toList) = true := beqB_true e
    have HE := hid e
    clear e
    go_wp2_with fail
    go_ret
    refine ⟨ret_int ?_, rfl⟩
    have h := HS.out
    rw [HE.out] at h
    exact findI_get HND.out h
   ·have t : (s.toList == x.toList) = false := beqB_false e
    have HE := hid e
    clear e
    go_wp2_with fail
    go_roundg (n - (k + 1))
    case measure => omega
    case rel =>
     refine ⟨k + 1, rfl, by omega, by go_num, rfl, hid fun j s' hj hs' => ?_⟩
     by_cases e : j = k
     ·subst e
      rw [HS.out] at hs'
      cases hs'; exact HE.out
     ·exact HA.out j s' (by omega) hs'
  ·go_wp2_with fail
   go_ret
   refine ⟨ret_int ?_, rfl⟩
   refine (findI_out fun h => ?_).symm
   obtain ⟨j, hj⟩ := List.getElem?_of_mem h
   exact HA.out j x (by have := (List.getElem?_eq_some_iff.1 hj).1; rw [← HN.out] at this; omega) hj rfl
set_option maxRecDepth 100000 in
set_option maxHeartbeats 1000000 in
theorem step_any {w : World} {x : Array Value} {D : DA} (hD : DfaW w (.agg x) D) (s : Int) (hs : s < D.next.length) (a : ByteArray) : Calls Tryz.prog 94 #[.agg x, .int .i64 s, .string a] w fun e w' => e = .returned (.int .i64 (goS D s a)) ∧ Ext w w' := by
 have W := hD.well
 have hB := hD.bnd
 obtain ⟨⟨vS, vN, vF, us, hxe, hP⟩, _, _⟩ := hD
 simp only [Value.agg.injEq] at hxe
 subst hxe
 obtain ⟨aoS, cS, rfl, -⟩ := hP.syms.form
 obtain ⟨aoN, cN, rfl, hgN⟩ := hP.next.form
 obtain ⟨aoF, cF, rfl, -⟩ := hP.fin.form
 obtain ⟨w1, hw1⟩ : ∃ u, u = w.alloc (.cells #[.slice aoS D.raw.syms.length cS, .slice aoN us.length cN, .slice aoF D.raw.fin.length cF] 40) := ⟨_, rfl⟩
 have e1 : Ext w w1 := hw1 ▸ (Below.refl _ _).alloc (Nat.le_refl _) _
 have hb1 : Blk w1 w.heap.size 40 #[.slice aoS D.raw.syms.length cS, .slice aoN us.length cN, .slice aoF D.raw.fin.length cF] := hw1 ▸ Blk.new _ _ _
 have HF := hid (find_any (hP.syms.ext e1) hB.s W.rising.nodup a)
 have hlen : us.length = D.next.length := by rw [hP.len]; simp [DF.raw]
 have hbn := W.most
 have HCN := hid (fun (h0 : 0 ≤ s) => (hP.ext e1).cellN W (s := s.toNat) (by omega))
 have HNX := hid fun (i : Nat) (u : Value) (h : us[i]? = some u) => (hP.next.ext e1)
 have HPN := hid (hP.next.ext e1)
 obtain ⟨n1, hn1⟩ : ∃ n, n = D.raw.syms.length := ⟨_, rfl⟩
 obtain ⟨n2, hn2⟩ : ∃ n, n = us.length := ⟨_, rfl⟩
 obtain ⟨n3, hn3⟩ : ∃ n, n = D.raw.fin.length := ⟨_, rfl⟩
 have HN1 : Hid (n1 = D.syms.length) := hid hn1
 have HN2 := hid hn2
 have c0 : w1.cell? ⟨w.heap.size, 0, none⟩ = some (.slice aoS n1 cS) := by rw [hn1]; exact hb1.cell (i := 0) rfl
 have c1 : w1.cell? ⟨w.heap.size, 1, none⟩ = some (.slice aoN n2 cN) := by rw [hn2]; exact hb1.cell (i := 1) rfl
 rw [← hn1] at HF
 have hn2s : s < n2 := by rw [hn2, hlen]; exact hs
 have hn2b : n2 ≤ 1000 := by rw [hn2, hlen]; omega
 have hn1b : n1 ≤ 1000 := by rw [hn1]; exact hB.s
 rw [← hn1, ← hn2, ← hn3] at hw1 ⊢
 have lb := hb1.lt
 have HX := hid e1
 have HW1 := hid hw1
 have HNL := hid hgN
 clear hP hB W e1 hb1 hw1 hgN hn1 hn2 hn3 hs hlen hbn
 go_enter Tryz.func94, Tryz.ntmps94
 go_wp2_with fail
 rw [← HW1.out]
 refine HF.out.mono ?_
 rintro e w2 ⟨rfl, rfl⟩
 by_cases h0 : s < 0
 ·have t0 : decide (s < 0) = true := decide_eq_true h0
  go_wp2_with fail
  go_ret
  exact ⟨ret_int (goS_none h0 a).symm, HX.out⟩
 ·have t0 : decide (s < 0) = false := decide_eq_false h0
  by_cases hm : a ∈ D.syms
  ·obtain ⟨ao, c, hu, hcell⟩ := HCN.out (by omega)
   obtain ⟨k, hk⟩ : ∃ k, k = @List.idxOf _ instBEqOfDecidableEq a D.syms := ⟨_, rfl⟩
   have hkn : k < n1 := by rw [HN1.out, hk]; exact idx_lt hm
   obtain ⟨g, off, rfl, hc⟩ := hcell k (by rw [← HN1.out]; exact hkn)
   obtain ⟨gN, oN, rfl⟩ := HNL.out (by rw [← HN2.out]; omega)
   have hf : findI D.raw.syms a = (k : Int) := by
    rw [hk]; exact findI_in hm
   obtain ⟨q, hq⟩ : ∃ q : Nat, s = q := ⟨s.toNat, by omega⟩
   subst hq
   have c3 : w1.cell? ⟨gN, oN + q, none⟩ = some (.slice (some ⟨g, off, none⟩) n1 c) := by
    have h := HPN.out
    have h2 := h.cell1 hu
    rw [← HN1.out] at h2
    simpa [oneA, slV] using h2
   have c4 : w1.cell? ⟨g, off + k, none⟩ = some (.int .i64 (stepD D q k : Nat)) := by simpa using hc
   have t1 : decide ((k : Int) < 0) = false := decide_eq_false (by omega)
   have HR : Hid (goS D (q : Int) a = (stepD D q k : Nat)) := hid (by rw [goS_in hm, hk])
   rw [hf]
   clear hf hc hu hk
   go_wp2_with fail
   go_ret
   exact ⟨ret_int HR.out.symm, HX.out⟩
  ·have hf : findI D.raw.syms a = -1 := by
    exact findI_out hm
   rw [hf]
   clear hf
   go_wp2_with fail
   go_ret
   exact ⟨ret_int (goS_out hm s).symm, HX.out⟩
set_option maxRecDepth 100000 in
set_option maxHeartbeats 1000000 in
theorem rmatch_any {w : World} {x : Array Value} {D : DA} (hD : DfaW w (.agg x) D) {vl : Value} {l : List ByteArray} (hl : ReadR w 1 strC vl l) (hlen : l.length ≤ 1000) : Calls Tryz.prog 35 #[.agg x, vl] w fun e w' => e = .returned (.bool (matchD D l)) ∧ Ext w w' := by
 have HD := hid hD
 obtain ⟨aoS, n1, cS, aoN, n2, cN, aoF, n3, cF, rfl⟩ := hD.open_
 obtain ⟨ao, cap, rfl, hc⟩ := hl.form
 obtain ⟨n, hnl⟩ : ∃ n, n = l.length := ⟨_, rfl⟩
 have HV := hid hl
 rw [← hnl] at hc hlen HV ⊢
 have HC := hid hc
 have HN := hid hnl
 have HFN : Hid (n3 = D.fin.length ∧ ReadR w 1 boolC (.slice aoF n3 cF) D.fin) := hid (by
  obtain ⟨⟨vS, vN, vF, us, e, hP⟩, _, _⟩ := hD
  simp only [Value.agg.injEq, Array.mk.injEq, List.cons.injEq, and_true] at e
  obtain ⟨rfl, rfl, rfl⟩ := e
  have h := hP.fin
  obtain ⟨a, c, e, _⟩ := hP.fin.form
  simp only [Value.slice.injEq] at e
  exact ⟨e.2.1, h⟩)
 obtain ⟨w1, hw1⟩ : ∃ u, u = w.alloc (.cells #[.slice aoS n1 cS, .slice aoN n2 cN, .slice aoF n3 cF] 40) := ⟨_, rfl⟩
 have HX1 : Hid (Ext w w1 ∧ Blk w1 w.heap.size 40 #[.slice aoS n1 cS, .slice aoN n2 cN, .slice aoF n3 cF]) := hid ⟨hw1 ▸ (Below.refl _ _).alloc (Nat.le_refl _) _, hw1 ▸ Blk.new _ _ _⟩
 have HW1 := hid hw1
 clear hl hc hnl hw1 hD
 go_enter Tryz.func35, Tryz.ntmps35
 go_wp2_with fail
 rw [← HW1.out]
 go_loopg [5, 6] n (fun g u v wr => ∃ k, g = n - k ∧ k ≤ n ∧ u = .int .i64 (runS D 0 (l.take k)) ∧ v = .int .i64 k ∧ Hid (Ext w wr ∧ Blk wr w.heap.size 40 #[.slice aoS n1 cS, .slice aoN n2 cN, .slice aoF n3 cF] ∧ runS D 0 (l.take k) < D.next.length))
 case atStart => exact ⟨0, rfl, Nat.zero_le _, rfl, rfl, hid ⟨HX1.out.1, HX1.out.2, by have := HD.out.well.ok.pos; show (0 : Int) < _; omega⟩⟩
 case round =>
  obtain ⟨k, rfl, hk, rfl, rfl, HE⟩ := hrel
  obtain ⟨at_, hat⟩ : ∃ z, z = runS D 0 (l.take k) := ⟨_, rfl⟩
  rw [← hat] at HE ⊢
  have HAT := hid hat
  have c2 : wr.cell? ⟨w.heap.size, 2, none⟩ = some (.slice aoF n3 cF) := HE.out.2.1.cell (i := 2) rfl
  have lb := HE.out.2.1.lt
  clear hat
  by_cases hlt : k < n
  ·obtain ⟨g, o, rfl⟩ := HC.out (by omega)
   obtain ⟨s, hs⟩ : ∃ s, l[k]? = some s := ⟨_, List.getElem?_eq_getElem (by rw [← HN.out]; exact hlt)⟩
   have c0 : wr.cell? ⟨w.heap.size, 0, none⟩ = some (.slice aoS n1 cS) := HE.out.2.1.cell (i := 0) rfl
   have c1 : wr.cell? ⟨w.heap.size, 1, none⟩ = some (.slice aoN n2 cN) := HE.out.2.1.cell (i := 1) rfl
   have c3 : wr.cell? ⟨g, o + k, none⟩ = some (.string s) := by
    have h := HV.out.ext HE.out.1
    rw [HN.out] at h
    exact h.cell1 hs
   have HS := hid hs
   have i0 : (0 : Int) ≤ (k : Int) := by omega
   have i1 : (k : Int) < (n : Int) := by omega
   have HST := hid (step_any (HD.out.ext (HE.out.1.drew)) at_ HE.out.2.2 s)
   clear hs
   go_wp2_with fail
   go_still_tail 6, (by kernel_rfl)
   change wpList _ _ _ _ _ wr.drew
   go_wp2_with fail
   refine HST.out.mono ?_
   rintro e w2 ⟨rfl, hx⟩
   have hx2 : Ext wr w2 := (Below.refl wr.heap.size wr).drew.trans (hx.mono (by simp))
   have HX2 := hid hx2
   clear hx hx2
   go_wp2_with fail
   go_roundg (n - (k + 1))
   case measure => omega
   case rel =>
    have e1 : runS D 0 (l.take (k + 1)) = goS D at_ s := by
     rw [take_snoc HS.out, HAT.out]
     simp [runS]
    refine ⟨k + 1, rfl, by omega, by rw [e1], by go_num, hid ⟨HE.out.1.trans (HX2.out.mono HE.out.1.size), HE.out.2.1.ext HX2.out, ?_⟩⟩
    rw [e1]
    exact (goS_lt HD.out.well.ok at_ s).2
  ·obtain rfl : n = k := by omega
   have HR : Hid (at_ = runS D 0 l) := hid (by
    have h := HAT.out
    rwa [List.take_of_length_le (by rw [← HN.out]; exact Nat.le_refl _)] at h)
   by_cases h0 : 0 ≤ at_
   ·have t0 : decide (0 ≤ at_) = true := decide_eq_true h0
    obtain ⟨q, hq⟩ : ∃ q : Nat, at_ = q := ⟨at_.toNat, by omega⟩
    subst hq
    have hq2 : q < D.next.length := by have := HE.out.2.2; omega
    have hf := HD.out.well.ok.finAt hq2
    have hqn : q < n3 := by rw [HFN.out.1, HD.out.well.ok.fin]; exact hq2
    have hn3 : n3 ≤ 1000 := by rw [HFN.out.1, HD.out.well.ok.fin]; have := HD.out.well.most; omega
    obtain ⟨gF, oF, rfl⟩ : ∃ g off, aoF = some ⟨g, off, none⟩ := by
     obtain ⟨ao, c, e, hg⟩ := HFN.out.2.form
     simp only [Value.slice.injEq] at e
     rw [e.1]
     exact hg (by rw [← HFN.out.1]; omega)
    have c4 : wr.cell? ⟨gF, oF + q, none⟩ = some (.bool (finD D q)) := by
     have h := HFN.out.2.ext HE.out.1
     rw [HFN.out.1] at h
     exact h.cell1 hf
    obtain ⟨b, hb⟩ : ∃ b, b = finD D q := ⟨_, rfl⟩
    rw [← hb] at c4
    have HB := hid hb
    clear hf hb
    go_wp2_with fail
    go_ret
    refine ⟨ret_bool ?_, HE.out.1⟩
    unfold matchD finS
    rw [← HR.out, HB.out]
    simp
   ·have t0 : decide (0 ≤ at_) = false := decide_eq_false h0
    go_wp2_with fail
    go_ret
    refine ⟨ret_bool ?_, HE.out.1⟩
    unfold matchD finS
    rw [← HR.out, t0]; rfl
end Go.Proofs.YtngpjagpeblbjaaGreatDoor
namespace Go.Proofs.YtngpjagpeblbjaaGreatDoor
open Go.RowKit Go.Spy Go.Heaped Go.Tour Go.Rx
set_option maxRecDepth 100000 in
set_option maxHeartbeats 1000000 in
theorem isame_any {w : World} {v1 v2 : Value} {us vs : List Int} (h1 : ReadR w 1 intZ v1 us) (h2 : ReadR w 1 intZ v2 vs) (hl : us.length ≤ 1000000000) : Calls Tryz.prog 118 #[v1, v2] w fun e w' => e = .returned (.bool (decide (us = vs))) ∧ Ext w w' := by
 obtain ⟨a1, c1, rfl, s1⟩ := h1.form
 obtain ⟨a2, c2, rfl, s2⟩ := h2.form
 obtain ⟨n, hn⟩ : ∃ n, n = us.length := ⟨_, rfl⟩
 obtain ⟨m, hm⟩ : ∃ n, n = vs.length := ⟨_, rfl⟩
 have H1 := hid h1
 have H2 := hid h2
 rw [← hn] at H1 s1 hl ⊢
 rw [← hm] at H2 s2 ⊢
 have HS1 := hid s1
 have HS2 := hid s2
 have HN := hid hn
 have HM := hid hm
 clear h1 h2 s1 s2 hn hm
 by_cases hnm : n = m
 rotate_left
 ·have t : ((n : Int) != (m : Int)) = true := by simp; omega
  have HNM := hid hnm
  clear hnm
  go_enter Tryz.func118, Tryz.ntmps118
  go_wp2_with fail
  go_ret
  refine ⟨ret_bool ?_, Below.refl _ _⟩
  symm
  refine decide_eq_false ?_
  rintro rfl
  exact HNM.out (HN.out.trans HM.out.symm)
 ·have HNM := hid hnm
  have t : ((n : Int) != (m : Int)) = false := by simp [hnm]
  clear hnm
  go_enter Tryz.func118, Tryz.ntmps118
  go_wp2_with fail
  go_loopg [5] n (fun g u wr => ∃ k, g = n - k ∧ k ≤ n ∧ u = .int .i64 k ∧ Hid (Ext w wr) ∧ Hid (∀ (i : Nat) (y z : Int), i < k → us[i]? = some y → vs[i]? = some z → y = z))
  case atStart => exact ⟨0, rfl, Nat.zero_le _, rfl, hid (Below.refl _ _), hid (fun j r s h => absurd h (Nat.not_lt_zero j))⟩
  case round =>
   obtain ⟨k, rfl, hk, rfl, HE, HA⟩ := hrel
   by_cases hlt : k < n
   ·have hlt2 : k < m := by rw [← HNM.out]; exact hlt
    obtain ⟨g1, o1, rfl⟩ := HS1.out (by omega)
    obtain ⟨g2, o2, rfl⟩ := HS2.out (by omega)
    obtain ⟨y, hy⟩ : ∃ y, us[k]? = some y := ⟨_, List.getElem?_eq_getElem (by rw [← HN.out]; exact hlt)⟩
    obtain ⟨z, hz⟩ : ∃ y, vs[k]? = some y := ⟨_, List.getElem?_eq_getElem (by rw [← HM.out]; exact hlt2)⟩
    have c5 : wr.cell? ⟨g1, o1 + k, none⟩ = some (.int .i64 y) := by
     have h := H1.out.ext HE.out
     rw [HN.out] at h
     exact h.cell1 hy
    have c6 : wr.cell? ⟨g2, o2 + k, none⟩ = some (.int .i64 z) := by
     have h := H2.out.ext HE.out
     rw [HM.out] at h
     exact h.cell1 hz
    have HY := hid hy
    have HZ := hid hz
    have i3 : (0 : Int) ≤ (k : Int) := by omega
    have i4 : (k : Int) < (n : Int) := by omega
    have i5 : (k : Int) < (m : Int) := by omega
    clear hy hz
    by_cases hyz : y = z
    ·have t : (y != z) = false := by simp [hyz]
     have HYZ := hid hyz
     clear hyz
     go_wp2_with fail
     go_quiet (fail)
     go_wp2_with fail
     go_roundg (n - (k + 1))
     case measure => omega
     case rel =>
      refine ⟨k + 1, rfl, by omega, by go_num, hid (ext_drewN HE.out _), hid fun i y' z' hi hy' hz' => ?_⟩
      by_cases e : i = k
      ·subst e
       rw [HY.out] at hy'; rw [HZ.out] at hz'
       cases hy'; cases hz'; exact HYZ.out
      ·exact HA.out i y' z' (by omega) hy' hz'
    ·have t : (y != z) = true := by simp [hyz]
     have HYZ := hid hyz
     clear hyz
     go_wp2_with fail
     go_quiet (fail)
     go_wp2_with fail
     go_ret
     refine ⟨ret_bool ?_, ext_drewN HE.out _⟩
     symm
     refine decide_eq_false ?_
     rintro rfl
     have := HY.out.symm.trans HZ.out
     cases this
     exact HYZ.out rfl
   ·obtain rfl : k = n := by omega
    have HRSE : Hid (us = vs) := hid (list_ext_at (by rw [← HN.out, ← HM.out]; exact HNM.out) fun i a b hi h1 h2 => HA.out i a b (by rw [HN.out]; exact hi) h1 h2)
    go_wp2_with fail
    go_ret
    refine ⟨ret_bool ?_, HE.out⟩
    exact (decide_eq_true HRSE.out).symm
def idxK {K : Type} [DecidableEq K] (l : List K) (x : K) : Nat := l.idxOf x
def KeysR (w : World) (us : List Value) (keys : List (List Int)) : Prop := us.length = keys.length ∧ ∀ (i : Nat) (u : Value) (x : List Int), us[i]? = some u → keys[i]? = some x → ReadR w 1 intZ u x
def Old (w : World) (v v' : Value) : Prop := ∀ g, v'.ownBlock = some g → v.ownBlock = some g ∨ w.heap.size ≤ g
def NumberPost (base : Nat) (v vx : Value) (us : List Value) (keys : List (List Int)) (x : List Int) (w : World) (e : Ending) (w' : World) : Prop :=
 (x ∈ keys ∧ e = .returned (.tuple #[.int .i64 (idxK keys x : Nat), v]) ∧ Ext w w') ∨
 (x ∉ keys ∧ ∃ v', e = .returned (.tuple #[.int .i64 (keys.length : Nat), v']) ∧ OwnR w' base 46 1 oneA v' (us ++ [vx]) ∧ Chg (fun k => v.ownBlock = some k) w w' ∧ Old w v v')
set_option maxRecDepth 100000 in
set_option maxHeartbeats 1000000 in
theorem number_any {w : World} {base : Nat} {v vx : Value} {us : List Value} {keys : List (List Int)} {x : List Int} (hO : OwnR w base 46 1 oneA v us) (hb : base ≤ w.heap.size) (hK : KeysR w us keys) (hN : keys.Nodup) (hx : ReadR w 1 intZ vx x) (hl : us.length ≤ 1000000) (hks : ∀ y ∈ keys, y.length ≤ 1000) :
 Calls Tryz.prog 91 #[v, vx] w (NumberPost base v vx us keys x w) := by
 obtain ⟨ao, c, rfl, hc⟩ := (OwnR.read hO (fun _ => rfl)).form
 obtain ⟨ax, cx, rfl, -⟩ := hx.form
 obtain ⟨m, hm⟩ : ∃ n, n = x.length := ⟨_, rfl⟩
 rw [← hm] at hx ⊢
 clear hm
 obtain ⟨n, hn⟩ : ∃ n, n = us.length := ⟨_, rfl⟩
 have HO := hid hO
 rw [← hn] at HO hl hc ⊢
 have HC := hid hc
 have HN := hid hn
 have HK := hid hK
 have HND := hid hN
 have HX := hid hx
 have HKS := hid hks
 clear hO hK hN hx hn hc hks
 go_enter Tryz.func91, Tryz.ntmps91
 go_wp2_with fail
 go_loopg [6] n (fun g u wr => ∃ k, g = n - k ∧ k ≤ n ∧ u = .int .i64 k ∧ Hid (Ext w wr) ∧ Hid (∀ (i : Nat) (y : List Int), i < k → keys[i]? = some y → y ≠ x))
 case atStart => exact ⟨0, rfl, Nat.zero_le _, rfl, hid (Below.refl _ _), hid (fun j s h => absurd h (Nat.not_lt_zero j))⟩
 case round =>
  obtain ⟨k, rfl, hk, rfl, HE, HA⟩ := hrel
  by_cases hlt : k < n
  ·obtain ⟨g, o, rfl⟩ := HC.out (by omega)
   obtain ⟨u, hu⟩ : ∃ s, us[k]? = some s := ⟨_, List.getElem?_eq_getElem (by rw [← HN.out]; exact hlt)⟩
   obtain ⟨y, hy⟩ : ∃ s, keys[k]? = some s := ⟨_, List.getElem?_eq_getElem (by rw [← HK.out.1, ← HN.out]; exact hlt)⟩
   have hru := (HK.out.2 k u y hu hy).ext HE.out
   obtain ⟨ao2, c2, rfl, -⟩ := hru.form
   obtain ⟨m2, hm2⟩ : ∃ n, n = y.length := ⟨_, rfl⟩
   rw [← hm2] at hu hru
   have c1 : wr.cell? ⟨g, o + k, none⟩ = some (.slice ao2 m2 c2) := by
    have h := (OwnR.read HO.out (fun _ => rfl)).ext HE.out
    rw [HN.out] at h
    exact h.cell1 hu
   have hyl := HKS.out y (List.mem_of_getElem? hy)
   have HC1 := hid (isame_any hru (HX.out.ext HE.out) (by omega))
   have HY := hid hy
   clear hu hru hyl hy hm2
   obtain ⟨b, hb⟩ : ∃ b, b = decide (y = x) := ⟨_, rfl⟩
   rw [← hb] at HC1
   have HBB := hid hb
   clear hb
   go_wp2_with fail
   refine HC1.out.mono ?_
   rintro e w2 ⟨rfl, hx2⟩
   have HX2 := hid (HE.out.trans (hx2.mono HE.out.size))
   clear hx2 c1 HC1
   cases b with
   | true =>
     have HYX : Hid (y = x) := hid (of_decide_eq_true HBB.out.symm)
     go_wp2_with fail
     go_ret2
     refine .inl ⟨?_, ?_, HX2.out⟩
     ·have h := HY.out
      rw [HYX.out] at h
      exact List.mem_of_getElem? h
     ·have h := HY.out
      rw [HYX.out] at h
      have e : idxK keys x = k := idx_of_get HND.out h
      rw [e]
      rfl
   | false =>
     go_wp2_with fail
     go_roundg (n - (k + 1))
     case measure => omega
     case rel =>
      refine ⟨k + 1, rfl, by omega, by go_num, HX2, hid fun i y' hi hy' => ?_⟩
      by_cases e : i = k
      ·subst e
       rw [HY.out] at hy'
       cases hy'
       exact of_decide_eq_false HBB.out.symm
      ·exact HA.out i y' (by omega) hy'
  ·obtain rfl : k = n := by omega
   have HNO : Hid (x ∉ keys) := hid fun h => by
    obtain ⟨i, hi⟩ := List.getElem?_of_mem h
    exact HA.out i x (by have := (List.getElem?_eq_some_iff.1 hi).1; rw [HN.out, HK.out.1]; exact this) hi rfl
   have HO1 := hid (HO.out.ext HE.out)
   have hsz : base ≤ wr.heap.size := Nat.le_trans hb HE.out.size
   have hln : us.length + 1 ≤ 1000000000 := by rw [← HN.out]; omega
   go_wp2_with (with_reducible refine onOp 26 ?_
                go_loud (refine wpList_append_R elem_row (fun _ => rfl) ones_row HO1 hsz hln (.slice ax m cx) _ rfl wr.heap.size rfl rfl _ _ rfl rfl rfl ?_)
                rintro g' cap' v' w4 rfl G1 G2)
   go_ret2
   refine .inr ⟨HNO.out, _, ?_, G1.out, ?_, fun q hq => ?_⟩
   ·rw [← HK.out.1, ← HN.out]
    rfl
   ·have h0 : Chg (fun q => Value.ownBlock (.slice ao k c) = some q) w wr := (Chg.of_ext HE.out).mono (S := fun _ => False) (fun _ _ h => False.elim h)
    exact h0.grown G2.out.1 (fun k e => e)
   ·obtain rfl : g' = q := by cases hq; rfl
    rcases G2.out.2 with h | h
    ·exact .inl h
    ·exact .inr (Nat.le_trans HE.out.size h)
end Go.Proofs.YtngpjagpeblbjaaGreatDoor
