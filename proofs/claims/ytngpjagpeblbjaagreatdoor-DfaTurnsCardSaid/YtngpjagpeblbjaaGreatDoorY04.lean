/-
  Plain law: what Small's loops come to.
  Plain law of Both: what it matches, and that it is an automaton that may be.
-/
import Derived.StillTailTactics
import Derived.Deep.QuietTactic
import Derived.BigQuiet
import Derived.BigRegion
import Derived.Outline
import Derived.WalkSpells
import Derived.Lib.TrailingZeros
import Derived.Deep.Draws
import Derived.Laws.ResultCell
import Derived.Laws.CopyRow
import Derived.Laws.OwnMore
import Derived.Deep.CutBlock
import Derived.Deep.OwnRows
import Derived.Deep.AppendLies
import Derived.Test.YtngpjagpeblbjaaGreatDoorY03
import Derived.Test.YtngpjagpeblbjaaGreatDoorY02
import Derived.Test.YtngpjagpeblbjaaGreatDoorY01
namespace Go.Tour
section
variable {κ ι : Type} [DecidableEq κ] [DecidableEq ι]
theorem clsU_map (φ : κ → ι) : ∀ (n : Nat) (l : List κ), l.length = n → (∀ a ∈ l, ∀ b ∈ l, φ a = φ b → a = b) → clsU (l.map φ) = (clsU l).map φ
 | 0, l, hl, _ => by
   obtain rfl := List.length_eq_zero_iff.1 hl
   rfl
 | n + 1, l, hl, h => by
   obtain ⟨l', x, rfl⟩ : ∃ l' x, l = l' ++ [x] := ⟨l.dropLast, l.getLast (by intro e; subst e; cases hl), (List.dropLast_concat_getLast _).symm⟩
   have ih := clsU_map φ n l' (by simpa using hl) (fun a ha b hb => h a (by simp [ha]) b (by simp [hb]))
   rw [List.map_append, List.map_cons, List.map_nil, clsU_snoc, clsU_snoc, ih]
   unfold addU
   have hm : φ x ∈ (clsU l').map φ ↔ x ∈ clsU l' := by
    constructor
    ·intro hx
     obtain ⟨a, ha, e⟩ := List.mem_map.1 hx
     have := h a (by simp [(clsU_mem l' a).1 ha]) x (by simp) e
     exact this ▸ ha
    ·exact fun hx => List.mem_map.2 ⟨x, hx, rfl⟩
   by_cases hx : x ∈ clsU l'
   ·rw [if_pos hx, if_pos (hm.2 hx)]
   ·rw [if_neg hx, if_neg (fun h' => hx (hm.1 h'))]; simp
theorem cls_map (φ : κ → ι) (l : List κ) (h : ∀ a ∈ l, ∀ b ∈ l, φ a = φ b → a = b) : cls (l.map φ) = cls l := by
 unfold cls
 rw [clsU_map φ _ l rfl h, List.map_map]
 refine List.map_congr_left fun x hx => ?_
 exact idxOf_map_on (clsU l) x (fun a ha e => h a ((clsU_mem l a).1 ha) x hx e)
end
section
variable {σ : Type}
def reachD (D : DF σ) (i : Nat) : DF σ := tourD D.syms (tourN (fan (stepD D) D.syms.length) 0 i) (finD D)
theorem reachD_ok {D : DF σ} {i : Nat} (h : Full (fan (stepD D) D.syms.length) 0 i) : OkD (reachD D i) := tourD_ok h
theorem reachD_lang {D : DF σ} {i : Nat} (h : Full (fan (stepD D) D.syms.length) 0 i) : langD (reachD D i) = langD D := tourD_lang h
theorem reachD_len {D : DF σ} {i : Nat} (h : Full (fan (stepD D) D.syms.length) 0 i) : (reachD D i).next.length = i := by
 have := tourN_next_len (fan (stepD D) D.syms.length) 0 i (Nat.le_of_eq h.symm)
 exact this
def MinD (D S : DF σ) : Prop := ∃ (δ : Nat → Nat → Nat) (f : Nat → Bool) (first i : Nat), Full (fan δ D.syms.length) first i ∧
 (∀ x y, x ∈ (tourN (fan δ D.syms.length) first i).keys → y ∈ (tourN (fan δ D.syms.length) first i).keys → lang δ D.syms.length f x = lang δ D.syms.length f y → x = y) ∧
 lang δ D.syms.length f first = langD D ∧ i ≤ D.next.length ∧ S = tourD D.syms (tourN (fan δ D.syms.length) first i) f
theorem MinD.unique {D D' S S' : DF σ} (h : MinD D S) (h' : MinD D' S') (hs : D.syms = D'.syms) (hl : langD D = langD D') : S = S' := by
 obtain ⟨δ, f, x, i, h1, h2, h3, -, rfl⟩ := h
 obtain ⟨ε, g, y, j, k1, k2, k3, -, rfl⟩ := h'
 rw [← hs] at k1 k2 k3 ⊢
 obtain ⟨_, e1, e2⟩ := canon_eq h1 k1 h2 k2 (by rw [h3, k3, hl])
 unfold tourD
 rw [e1, e2]
theorem MinD.ok {D S : DF σ} (h : MinD D S) : OkD S := by
 obtain ⟨δ, f, x, i, h1, h2, h3, -, rfl⟩ := h
 exact tourD_ok h1
theorem MinD.syms {D S : DF σ} (h : MinD D S) : S.syms = D.syms := by
 obtain ⟨δ, f, x, i, h1, h2, h3, -, rfl⟩ := h
 rfl
theorem MinD.len {D S : DF σ} (h : MinD D S) : S.next.length ≤ D.next.length := by
 obtain ⟨δ, f, x, i, h1, h2, h3, h4, rfl⟩ := h
 have := tourN_next_len (fan δ D.syms.length) x i (Nat.le_of_eq h1.symm)
 show (tourN (fan δ D.syms.length) x i).next.length ≤ _
 omega
theorem OneI.min {D : DF σ} {i : Nat} (hf : Full (fan (stepD D) D.syms.length) 0 i) (hi : i ≤ D.next.length) {a one : List Nat} (I : OneI (reachD D i) a one) {j : Nat} (hj : Full (fan (stepC (reachD D i) a one) D.syms.length) (at0 a 0) j) :
 MinD D (tourD D.syms (tourN (fan (stepC (reachD D i) a one) D.syms.length) (at0 a 0) j) (finC (reachD D i) one)) := by
 have hok := reachD_ok hf
 refine ⟨stepC (reachD D i) a one, finC (reachD D i) one, at0 a 0, j, hj, ?_, ?_, ?_, rfl⟩
 ·exact fun x y hx hy e => I.dist hok (i := j) x y hx hy e
 ·have h0 : 0 < (reachD D i).next.length := hok.pos
  have h := I.lang hok h0
  rw [← reachD_lang hf]
  exact h.symm
 ·obtain ⟨k, hk1, hk2⟩ := I.full hok
  have := full_unique hj hk2
  rw [reachD_len hf] at hk1
  omega
def LastI (a O : List Nat) (n k : Nat) : Prop := O.length = n ∧ ∀ t, t < k → ∃ t', t' < k ∧ O[at0 a t]? = some t' ∧ at0 a t' = at0 a t
theorem LastI.start (a : List Nat) (n : Nat) : LastI a (List.replicate n 0) n 0 := ⟨by simp, fun t ht => absurd ht (Nat.not_lt_zero t)⟩
theorem LastI.step {a O : List Nat} {n k : Nat} (h : LastI a O n k) (hk : at0 a k < n) : LastI a (O.set (at0 a k) k) n (k + 1) := by
 refine ⟨by rw [List.length_set]; exact h.1, fun t ht => ?_⟩
 by_cases e : at0 a k = at0 a t
 ·exact ⟨k, by omega, by rw [e, List.getElem?_set_self (by rw [h.1, ← e]; exact hk)], e⟩
 ·have htk : t < k := by
   rcases Nat.lt_or_ge t k with h1 | h1
   ·exact h1
   ·exact absurd (by rw [show t = k by omega]) e
  obtain ⟨t', h1, h2, h3⟩ := h.2 t htk
  exact ⟨t', by omega, by rw [List.getElem?_set_ne e]; exact h2, h3⟩
theorem LastI.one {D : DF σ} {a O : List Nat} (A : AlikeI D a) (hal : ∀ s t, s < D.next.length → t < D.next.length → (at0 a s = at0 a t ↔ langAt D s = langAt D t)) (h : LastI a O D.next.length D.next.length) : OneI D a O := by
 refine ⟨A.len, hal, fun s hs => ?_⟩
 obtain ⟨t', h1, h2, h3⟩ := h.2 s hs
 have e : at0 O (at0 a s) = t' := by unfold at0 at *; rw [h2]; rfl
 rw [e]
 exact ⟨h1, h3⟩
theorem AlikeI.lt {D : DF σ} {a : List Nat} (A : AlikeI D a) (s : Nat) (hs : s < D.next.length) : at0 a s < D.next.length := by
 obtain ⟨c, hc⟩ := A.num
 have h1 : a[s]? = some (at0 a s) := at0_some (by rw [A.len]; exact hs)
 have h2 := hc.lt _ (List.mem_of_getElem? h1)
 have h3 := hc.le
 rw [A.len] at h3
 omega
end
end Go.Tour
namespace Go.Proofs.YtngpjagpeblbjaaGreatDoor
open Go.RowKit Go.Spy Go.Heaped Go.Tour Go.Rx
def pairN (p : Nat × Nat) : Pr := mkP (p.1 : Int) (p.2 : Int)
theorem pairN_val {p : Nat × Nat} (h1 : p.1 < 1000000) (h2 : p.2 < 1000000) : (pairN p).1 = ((p.1 : Int), (p.2 : Int)) := mkP_val (fits_small (by omega) (by omega)) (fits_small (by omega) (by omega))
theorem cls_pairN {l : List (Nat × Nat)} (h : ∀ p ∈ l, p.1 < 1000000 ∧ p.2 < 1000000) : cls (l.map pairN) = cls l := cls_map pairN l fun a ha b hb e => by
 have h1 := pairN_val (h a ha).1 (h a ha).2
 have h2 := pairN_val (h b hb).1 (h b hb).2
 rw [e, h2] at h1
 obtain ⟨a1, a2⟩ := a
 obtain ⟨b1, b2⟩ := b
 simp only [Prod.mk.injEq] at h1 ⊢
 omega
def natRow (O : List Nat) : Array Value := (O.map fun n => Value.int .i64 (n : Nat)).toArray
theorem natRow_set (O : List Nat) (k x : Nat) : (natRow O).setIfInBounds k (.int .i64 (x : Nat)) = natRow (O.set k x) := by
 unfold natRow
 rw [List.map_set]
 simp
theorem natRow_get {O : List Nat} {k x : Nat} (h : O[k]? = some x) : (natRow O)[k]? = some (.int .i64 (x : Nat)) := by
 simp [natRow, h]
theorem natRow_read {w : World} {g : Nat} {O : List Nat} {c : Nat} (h : Blk w g 3 (natRow O)) : ReadR w 1 natA (.slice (some ⟨g, 0, none⟩) O.length c) O :=
 read_lit h (fun _ _ hx => natRow_get hx) (fun _ => rfl)
end Go.Proofs.YtngpjagpeblbjaaGreatDoor
namespace Go.Proofs.YtngpjagpeblbjaaGreatDoor
open Go.RowKit Go.Spy Go.Heaped Go.Tour Go.Rx
section
variable {A B : DA}
theorem raw_bnd {D : DA} (W : WellD nameOk D) (hs : D.syms.length ≤ 1000) (hb : ∀ s ∈ D.syms, s.size ≤ 1000000) : BndD D.raw := by
 have := W.most
 have := W.ok.fin
 refine ⟨hs, by simp [DF.raw]; omega, by show D.fin.length ≤ 1000; omega, fun r hr => ?_, hb⟩
 simp only [DF.raw, List.mem_map] at hr
 obtain ⟨r', h1, rfl⟩ := hr
 rw [List.length_map, W.ok.row r' h1]
 exact hs
end
end Go.Proofs.YtngpjagpeblbjaaGreatDoor
