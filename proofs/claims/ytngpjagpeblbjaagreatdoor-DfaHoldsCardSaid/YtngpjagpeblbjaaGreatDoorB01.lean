/-
  Small general lemmas on the model: blocks of cells, maps with known keys, slices that read as lists. No program is named here.
  Slices of strings that read as lists. No program is named here.
  Slices of things that take some cells each, which a call builds by append. No program is named here.
  Plain law: regular expressions as trees, the rows that they match, and the places of their words. No program is named here.
  Plain law: what a tree matches, by trying all ways to part the words, is what its places run. No program is named here.
  Plain law: nodes in a row, whose parts stand ahead of them, as trees. No program is named here.
  Plain law: the bits of a word, lowest first; matching by masks of places. No program is named here.
  Walks of bits.TrailingZeros64 and of has, add, join of a set of places.
  Walk of Check: what is wrong with a regular expression.
  Walks of the law's Plain, Small, Texts and Nodes, and of the reference's Null.
  Walk of plan where there is none, of Nullable, and of what Match and Symbols answer where there is no plan.
  Walk of the closures of Match: follow, which keeps what it has found in a map.
-/
import Derived.Test.YtngpjagpeblbjaaGreatDoorP01
import Derived.Test.YtngpjagpeblbjaaGreatDoorP02
import Derived.Test.YtngpjagpeblbjaaGreatDoorP03
import Derived.Test.YtngpjagpeblbjaaGreatDoorP04
import Derived.Test.YtngpjagpeblbjaaGreatDoorP05
import Derived.Test.YtngpjagpeblbjaaGreatDoorP06
import Derived.Test.YtngpjagpeblbjaaGreatDoorP07
import Derived.Test.YtngpjagpeblbjaaGreatDoorP08
import Derived.Test.YtngpjagpeblbjaaGreatDoorP09
import Derived.Test.YtngpjagpeblbjaaGreatDoorP10
import Derived.Test.YtngpjagpeblbjaaGreatDoorP11
import Derived.Test.YtngpjagpeblbjaaGreatDoorP12
import Derived.Test.YtngpjagpeblbjaaGreatDoorP13
import Derived.Test.YtngpjagpeblbjaaGreatDoorP14
import Derived.Test.YtngpjagpeblbjaaGreatDoorP15
import Derived.Test.YtngpjagpeblbjaaGreatDoorP16
import Derived.Test.YtngpjagpeblbjaaGreatDoorP17
import Derived.Test.YtngpjagpeblbjaaGreatDoorP18
import Derived.Test.YtngpjagpeblbjaaGreatDoorP19
import Derived.Test.YtngpjagpeblbjaaGreatDoorP20
import Derived.Test.YtngpjagpeblbjaaGreatDoorP21
import Derived.Test.YtngpjagpeblbjaaGreatDoorP22
import Derived.Test.YtngpjagpeblbjaaGreatDoorP23
import Derived.WalkKit
import Derived.WalkSpells
import Derived.WalkLawsBesides
import Derived.Deep.LoopGhost
import Derived.Deep.DeepCutAuto
import Derived.Deep.AppendLies
import Derived.OwnWalk
import Derived.Deep.Draws
import Derived.Laws.ResultCell
import Derived.Laws.CopyRow
import Derived.Laws.OwnMore
import Derived.Lib.TrailingZeros
import Derived.Test.YtngpjagpeblbjaaGreatDoorRows
import Derived.Deep.CutBlock
import Derived.Deep.OwnRows
import Derived.BigQuiet
import Derived.Deep.QuietTactic
import Derived.BigRegion
import Derived.Outline
import Derived.Deep.RegionLaw
import Derived.StillTail
import Derived.StillTactics
import Derived.OrdersHeld
namespace Go.Spy
open Go.RowKit
section
variable {w w' : World} {b : Nat} {t : TypeId} {vs : Array Value}
end
section
variable {S : Nat → Prop} {a w w' : World} {b : Nat} {t : TypeId} {vs : Array Value}
end
section
variable {κ : Type} [DecidableEq κ]
theorem checkKey_bool {P : Program} {kt : TypeId} (hd : P.underlying kt = some .bool) (w : World) (e : Bool) (n : Nat) (k : Bool) : (Instr.checkKey e (n + 1) kt (.bool k)).run P w = .ok () w := by
 simp [Instr.checkKey, run_underlying hd]
theorem keyOk_bool {P : Program} {kt : TypeId} (hd : P.underlying kt = some .bool) : KeyOk (κ := Bool) P kt Value.bool :=
 keyOk_now hd (fun w e k => checkKey_bool hd w e 9999 k) (fun a b => by
  simp only [Instr.sameNow, Option.some.injEq]
  cases a <;> cases b <;> rfl) (fun k => by simp [Instr.sameBits])
end
section
variable {κ : Type}
variable {w w' : World} {b : Nat} {enc : κ → Value} {l : List (κ × Value)}
theorem MapB.grown (h : MapB w b enc l) {row : Option Nat} (e : w.grownBy w' row) (hr : some b ≠ row) : MapB w' b enc l := h.of_block (e.block b h.lt hr)
end
section
variable {κ : Type} [DecidableEq κ] {w : World} {b : Nat} {enc : κ → Value} {l : List (κ × Value)}
end
end Go.Spy
namespace Go.Spy
open Go.RowKit
theorem StrsV.chg {S : Nat → Prop} {w w' : World} {ao : Option Addr} {cap : Nat} {ss : List ByteArray} (h : StrsV w ao cap ss) (e : Chg S w w') (hS : ∀ b off, ao = some ⟨b, off, none⟩ → ¬ S b) : StrsV w' ao cap ss where
 len := h.len
 size := h.size
 cells h0 := by
  obtain ⟨b, off, ha, hb, hc⟩ := h.cells h0
  exact ⟨b, off, ha, Nat.lt_of_lt_of_le hb e.size, fun i hi => (World.cell?_of_block (a := ⟨b, off + i, none⟩) (e.block b hb (hS b off ha))).trans (hc i hi)⟩
end Go.Spy
namespace Go.Spy
open Go.RowKit
section
variable {α : Type}
variable {w w' : World} {base : Nat} {e : TypeId} {s : Nat} {f : α → Array Value} {v : Value} {l : List α}
theorem OwnR.drew (h : OwnR w base e s f v l) : OwnR w.drew base e s f v l := h
end
end Go.Spy
namespace Go.Rx
section
variable {σ : Type}
inductive StarL {α : Type} (S : List α → Prop) : List α → Prop where
 | nil : StarL S []
 | app {x y : List α} : x ≠ [] → S x → StarL S y → StarL S (x ++ y)
def PL : RT σ → List Nat → Prop
 | .none, _ => False
 | .empty, l => l = []
 | .sym p _, l => l = [p]
 | .cat a b, l => ∃ x y, l = x ++ y ∧ PL a x ∧ PL b y
 | .alt a b, l => PL a l ∨ PL b l
 | .star a, l => StarL (PL a) l
def Run (R : Nat → Nat → Bool) (e : Nat → Bool) : Nat → List Nat → Prop
 | p, [] => e p = true
 | p, q :: l => R p q = true ∧ Run R e q l
def AccT (t : RT σ) : List Nat → Prop
 | [] => nullT t = true
 | p :: l => startsT t p = true ∧ Run (pairsT t) (endsT t) p l
def Lin : RT σ → Prop
 | .cat a b => Lin a ∧ Lin b ∧ ∀ p, p ∈ posT a → p ∈ posT b → False
 | .alt a b => Lin a ∧ Lin b ∧ ∀ p, p ∈ posT a → p ∈ posT b → False
 | .star a => Lin a
 | _ => True
theorem acc_alive {t : RT σ} {l : List Nat} (h : AccT t l) : aliveT t = true := by
 cases l with
 | nil => exact alive_of_null h
 | cons p l => exact alive_of_starts h.1
theorem run_alt_left {a b : RT σ} (hd : ∀ p, p ∈ posT a → p ∈ posT b → False) {p : Nat} {l : List Nat} (hp : p ∈ posT a) :
 Run (pairsT (.alt a b)) (endsT (.alt a b)) p l ↔ Run (pairsT a) (endsT a) p l := by
 induction l generalizing p with
 | nil =>
   simp only [Run, endsT, Bool.or_eq_true]
   exact ⟨fun h => h.elim id fun h => (hd p hp (pos_of_ends h)).elim, .inl⟩
 | cons q l ih =>
   simp only [Run, pairsT, Bool.or_eq_true]
   refine ⟨fun h => ?_, fun h => ⟨.inl h.1, (ih (pos_of_pairs h.1).2).2 h.2⟩⟩
   have h1 : pairsT a p q = true := h.1.elim id fun h => (hd p hp (pos_of_pairs h).1).elim
   exact ⟨h1, (ih (pos_of_pairs h1).2).1 h.2⟩
theorem run_alt_right {a b : RT σ} (hd : ∀ p, p ∈ posT a → p ∈ posT b → False) {p : Nat} {l : List Nat} (hp : p ∈ posT b) :
 Run (pairsT (.alt a b)) (endsT (.alt a b)) p l ↔ Run (pairsT b) (endsT b) p l := by
 induction l generalizing p with
 | nil =>
   simp only [Run, endsT, Bool.or_eq_true]
   exact ⟨fun h => h.elim (fun h => (hd p (pos_of_ends h) hp).elim) id, .inr⟩
 | cons q l ih =>
   simp only [Run, pairsT, Bool.or_eq_true]
   refine ⟨fun h => ?_, fun h => ⟨.inr h.1, (ih (pos_of_pairs h.1).2).2 h.2⟩⟩
   have h1 : pairsT b p q = true := h.1.elim (fun h => (hd p (pos_of_pairs h).1 hp).elim) id
   exact ⟨h1, (ih (pos_of_pairs h1).2).1 h.2⟩
theorem acc_alt {a b : RT σ} (hd : ∀ p, p ∈ posT a → p ∈ posT b → False) (l : List Nat) : AccT (.alt a b) l ↔ AccT a l ∨ AccT b l := by
 cases l with
 | nil => simp only [AccT, nullT, Bool.or_eq_true]
 | cons p l =>
   simp only [AccT]
   refine ⟨fun h => ?_, fun h => ?_⟩
   ·rcases (Bool.or_eq_true _ _).mp (show (startsT a p || startsT b p) = true from h.1) with h1 | h1
    ·exact .inl ⟨h1, (run_alt_left hd (pos_of_starts h1)).1 h.2⟩
    ·exact .inr ⟨h1, (run_alt_right hd (pos_of_starts h1)).1 h.2⟩
   ·rcases h with h | h
    ·exact ⟨by simp [startsT, h.1], (run_alt_left hd (pos_of_starts h.1)).2 h.2⟩
    ·exact ⟨by simp [startsT, h.1], (run_alt_right hd (pos_of_starts h.1)).2 h.2⟩
theorem run_cat_right {a b : RT σ} (ha : aliveT a = true) (hd : ∀ p, p ∈ posT a → p ∈ posT b → False) {p : Nat} {l : List Nat} (hp : p ∈ posT b) :
 Run (pairsT (.cat a b)) (endsT (.cat a b)) p l ↔ Run (pairsT b) (endsT b) p l := by
 induction l generalizing p with
 | nil =>
   simp only [Run, endsT, Bool.or_eq_true, Bool.and_eq_true]
   exact ⟨fun h => h.elim (fun h => h.2) fun h => (hd p (pos_of_ends h.1) hp).elim, fun h => .inl ⟨ha, h⟩⟩
 | cons q l ih =>
   simp only [Run, pairsT, Bool.or_eq_true, Bool.and_eq_true]
   refine ⟨fun h => ?_, fun h => ⟨.inl (.inr ⟨ha, h.1⟩), (ih (pos_of_pairs h.1).2).2 h.2⟩⟩
   have h1 : pairsT b p q = true := by
    rcases h.1 with (h | h) | h
    ·exact (hd p (pos_of_pairs h.1).1 hp).elim
    ·exact h.2
    ·exact (hd p (pos_of_ends h.1) hp).elim
   exact ⟨h1, (ih (pos_of_pairs h1).2).1 h.2⟩
theorem run_cat_left {a b : RT σ} (ha : aliveT a = true) (hb : aliveT b = true) (hd : ∀ p, p ∈ posT a → p ∈ posT b → False) {p : Nat} {l : List Nat} (hp : p ∈ posT a) :
 Run (pairsT (.cat a b)) (endsT (.cat a b)) p l ↔ ∃ x y, l = x ++ y ∧ Run (pairsT a) (endsT a) p x ∧ AccT b y := by
 induction l generalizing p with
 | nil =>
   simp only [Run, endsT, Bool.or_eq_true, Bool.and_eq_true]
   refine ⟨fun h => ?_, fun h => ?_⟩
   ·rcases h with h | h
    ·exact (hd p hp (pos_of_ends h.2)).elim
    ·exact ⟨[], [], rfl, h.1, h.2⟩
   ·obtain ⟨x, y, hl, h1, h2⟩ := h
    obtain ⟨rfl, rfl⟩ := List.append_eq_nil_iff.mp hl.symm
    exact .inr ⟨h1, h2⟩
 | cons q l ih =>
   simp only [Run, pairsT, Bool.or_eq_true, Bool.and_eq_true]
   refine ⟨fun h => ?_, fun h => ?_⟩
   ·rcases h.1 with (h1 | h1) | h1
    ·obtain ⟨x, y, rfl, hx, hy⟩ := (ih (pos_of_pairs h1.1).2).1 h.2
     exact ⟨q :: x, y, rfl, ⟨h1.1, hx⟩, hy⟩
    ·exact (hd p hp (pos_of_pairs h1.2).1).elim
    ·exact ⟨[], q :: l, rfl, h1.1, h1.2, (run_cat_right ha hd (pos_of_starts h1.2)).1 h.2⟩
   ·obtain ⟨x, y, hl, hx, hy⟩ := h
    cases x with
    | nil =>
      have hl' : q :: l = y := hl
      subst hl'
      exact ⟨.inr ⟨hx, hy.1⟩, (run_cat_right ha hd (pos_of_starts hy.1)).2 hy.2⟩
    | cons r x =>
      obtain ⟨rfl, rfl⟩ := List.cons.inj (show q :: l = r :: (x ++ y) from hl)
      exact ⟨.inl (.inl ⟨hx.1, hb⟩), (ih (pos_of_pairs hx.1).2).2 ⟨x, y, rfl, hx.2, hy⟩⟩
theorem acc_cat {a b : RT σ} (hd : ∀ p, p ∈ posT a → p ∈ posT b → False) (l : List Nat) : AccT (.cat a b) l ↔ ∃ x y, l = x ++ y ∧ AccT a x ∧ AccT b y := by
 by_cases ha : aliveT a = true
 ·by_cases hb : aliveT b = true
  ·cases l with
   | nil =>
     simp only [AccT, nullT, Bool.and_eq_true]
     refine ⟨fun h => ⟨[], [], rfl, h.1, h.2⟩, ?_⟩
     rintro ⟨x, y, hl, hx, hy⟩
     obtain ⟨rfl, rfl⟩ := List.append_eq_nil_iff.mp hl.symm
     exact ⟨hx, hy⟩
   | cons p l =>
     refine ⟨fun h => ?_, ?_⟩
     ·have h1 := h.1
      simp only [startsT, Bool.or_eq_true, Bool.and_eq_true] at h1
      rcases h1 with h1 | h1
      ·obtain ⟨x, y, rfl, hx, hy⟩ := (run_cat_left ha hb hd (pos_of_starts h1.1)).1 h.2
       exact ⟨p :: x, y, rfl, ⟨h1.1, hx⟩, hy⟩
      ·exact ⟨[], p :: l, rfl, h1.1, h1.2, (run_cat_right ha hd (pos_of_starts h1.2)).1 h.2⟩
     ·rintro ⟨x, y, hl, hx, hy⟩
      cases x with
      | nil =>
        have hl' : p :: l = y := hl
        subst hl'
        refine ⟨?_, (run_cat_right ha hd (pos_of_starts hy.1)).2 hy.2⟩
        simp only [startsT, Bool.or_eq_true, Bool.and_eq_true]
        exact .inr ⟨hx, hy.1⟩
      | cons r x =>
        obtain ⟨rfl, rfl⟩ := List.cons.inj (show p :: l = r :: (x ++ y) from hl)
        refine ⟨?_, (run_cat_left ha hb hd (pos_of_starts hx.1)).2 ⟨x, y, rfl, hx.2, hy⟩⟩
        simp only [startsT, Bool.or_eq_true, Bool.and_eq_true]
        exact .inl ⟨hx.1, hb⟩
  ·refine ⟨fun h => ?_, ?_⟩
   ·have := acc_alive h
    simp only [aliveT, Bool.and_eq_true] at this
    exact (hb this.2).elim
   ·rintro ⟨x, y, -, -, hy⟩
    exact (hb (acc_alive hy)).elim
 ·refine ⟨fun h => ?_, ?_⟩
  ·have := acc_alive h
   simp only [aliveT, Bool.and_eq_true] at this
   exact (ha this.1).elim
  ·rintro ⟨x, y, -, hx, -⟩
   exact (ha (acc_alive hx)).elim
theorem run_star {a : RT σ} {p : Nat} {l : List Nat} : Run (pairsT (.star a)) (endsT (.star a)) p l ↔ ∃ x y, l = x ++ y ∧ Run (pairsT a) (endsT a) p x ∧ StarL (AccT a) y := by
 refine ⟨fun h => ?_, ?_⟩
 ·induction l generalizing p with
  | nil => exact ⟨[], [], rfl, h, .nil⟩
  | cons q l ih =>
    obtain ⟨x, y, rfl, hx, hy⟩ := ih h.2
    have h1 := h.1
    simp only [pairsT, Bool.or_eq_true, Bool.and_eq_true] at h1
    rcases h1 with h1 | h1
    ·exact ⟨q :: x, y, rfl, ⟨h1, hx⟩, hy⟩
    ·exact ⟨[], (q :: x) ++ y, rfl, h1.1, .app (by simp) ⟨h1.2, hx⟩ hy⟩
 ·rintro ⟨x, y, rfl, hx, hy⟩
  induction hy generalizing p x with
  | nil =>
    rw [List.append_nil]
    induction x generalizing p with
    | nil => exact hx
    | cons q x ih => exact ⟨by simp [pairsT, hx.1], ih hx.2⟩
  | @app u v hu hS hv ih =>
    induction x generalizing p with
    | nil =>
      cases u with
      | nil => exact (hu rfl).elim
      | cons q u =>
        refine ⟨?_, ih _ hS.2⟩
        simp only [pairsT, Bool.or_eq_true, Bool.and_eq_true]
        exact .inr ⟨hx, hS.1⟩
    | cons q x ihx => exact ⟨by simp [pairsT, hx.1], ihx hx.2⟩
theorem acc_star {a : RT σ} (l : List Nat) : AccT (.star a) l ↔ StarL (AccT a) l := by
 cases l with
 | nil => exact ⟨fun _ => .nil, fun _ => rfl⟩
 | cons p l =>
   refine ⟨fun h => ?_, fun h => ?_⟩
   ·obtain ⟨x, y, rfl, hx, hy⟩ := run_star.1 h.2
    exact .app (x := p :: x) (by simp) ⟨h.1, hx⟩ hy
   ·generalize hm : p :: l = m at h
    cases h with
    | nil => cases hm
    | @app x y hx hS hy =>
      cases x with
      | nil => exact (hx rfl).elim
      | cons q x =>
        obtain ⟨rfl, rfl⟩ := List.cons.inj hm
        exact ⟨hS.1, run_star.2 ⟨x, y, rfl, hS.2, hy⟩⟩
theorem starL_congr {α : Type} {S S' : List α → Prop} (h : ∀ l, S l ↔ S' l) (l : List α) : StarL S l ↔ StarL S' l := by
 refine ⟨fun k => ?_, fun k => ?_⟩
 ·induction k with
  | nil => exact .nil
  | app hx hS _ ih => exact .app hx ((h _).1 hS) ih
 ·induction k with
  | nil => exact .nil
  | app hx hS _ ih => exact .app hx ((h _).2 hS) ih
theorem pl_iff_acc {t : RT σ} (hl : Lin t) (l : List Nat) : PL t l ↔ AccT t l := by
 induction t generalizing l with
 | none => cases l <;> simp [PL, AccT, nullT, startsT]
 | empty => cases l <;> simp [PL, AccT, nullT, startsT]
 | sym p s =>
   cases l with
   | nil => simp [PL, AccT, nullT]
   | cons q l =>
     cases l with
     | nil => simp only [PL, AccT, startsT, Run, endsT, beq_iff_eq, List.cons.injEq, and_true, and_self]; exact eq_comm
     | cons r l => simp [PL, AccT, Run, pairsT]
 | cat a b iha ihb =>
   rw [acc_cat hl.2.2]
   simp only [PL, iha hl.1, ihb hl.2.1]
 | alt a b iha ihb =>
   rw [acc_alt hl.2.2]
   simp only [PL, iha hl.1, ihb hl.2.1]
 | star a ih =>
   rw [acc_star]
   exact starL_congr (ih hl) l
end
end Go.Rx
namespace Go.Rx
section
variable {σ : Type} [DecidableEq σ]
def starB {α : Type} (f : List α → Bool) : List α → Bool
 | [] => true
 | x :: w => (List.range (w.length + 1)).any fun k => f (x :: w.take k) && starB f (w.drop k)
termination_by w => w.length
decreasing_by simp only [List.length_drop, List.length_cons]; omega
def matchT : RT σ → List σ → Bool
 | .none, _ => false
 | .empty, w => w.isEmpty
 | .sym _ s, w => decide (w = [s])
 | .cat a b, w => (List.range (w.length + 1)).any fun k => matchT a (w.take k) && matchT b (w.drop k)
 | .alt a b, w => matchT a w || matchT b w
 | .star a, w => starB (matchT a) w
def Told (sy : Nat → σ) : RT σ → Prop
 | .none => True
 | .empty => True
 | .sym p s => sy p = s
 | .cat a b => Told sy a ∧ Told sy b
 | .alt a b => Told sy a ∧ Told sy b
 | .star a => Told sy a
theorem starB_iff {α : Type} (f : List α → Bool) (w : List α) : starB f w = true ↔ StarL (fun l => f l = true) w := by
 induction hn : w.length using Nat.strongRecOn generalizing w with
 | _ n ih =>
 subst hn
 cases w with
 | nil => simp only [starB, true_iff]; exact .nil
 | cons x w =>
   rw [starB]
   simp only [List.any_eq_true, List.mem_range, Bool.and_eq_true]
   refine ⟨?_, fun h => ?_⟩
   ·rintro ⟨k, -, h1, h2⟩
    have hd := (ih (w.drop k).length (by simp only [List.length_drop, List.length_cons]; omega) _ rfl).1 h2
    have := StarL.app (x := x :: w.take k) (by simp) h1 hd
    rwa [List.cons_append, List.take_append_drop] at this
   ·generalize hm : x :: w = m at h
    cases h with
    | nil => cases hm
    | @app u v hu hS hv =>
      cases u with
      | nil => exact (hu rfl).elim
      | cons y u =>
        obtain ⟨rfl, rfl⟩ := List.cons.inj (show x :: w = y :: (u ++ v) from hm)
        refine ⟨u.length, by simp only [List.length_append]; omega, by rw [List.take_left]; exact hS, ?_⟩
        rw [List.drop_left]
        exact (ih v.length (by simp only [List.length_cons, List.length_append]; omega) _ rfl).2 hv
theorem starL_map {α β : Type} (g : α → β) (S : List α → Prop) (S' : List β → Prop) (h : ∀ w, S' w ↔ ∃ l, S l ∧ l.map g = w) (w : List β) :
 StarL S' w ↔ ∃ l, StarL S l ∧ l.map g = w := by
 refine ⟨fun k => ?_, ?_⟩
 ·induction k with
  | nil => exact ⟨[], .nil, rfl⟩
  | @app x y hx hS _ ih =>
    obtain ⟨l, hl, rfl⟩ := (h x).1 hS
    obtain ⟨m, hm, rfl⟩ := ih
    exact ⟨l ++ m, .app (fun e => hx (by rw [e]; rfl)) hl hm, List.map_append⟩
 ·rintro ⟨l, hl, rfl⟩
  induction hl with
  | nil => exact .nil
  | @app x y hx hS _ ih =>
    rw [List.map_append]
    exact .app (fun e => hx (List.map_eq_nil_iff.mp e)) ((h _).2 ⟨x, hS, rfl⟩) ih
theorem matchT_iff_pl {sy : Nat → σ} {t : RT σ} (ht : Told sy t) (w : List σ) : matchT t w = true ↔ ∃ l, PL t l ∧ l.map sy = w := by
 induction t generalizing w with
 | none => simp [matchT, PL]
 | empty => simp only [matchT, PL, List.isEmpty_iff]; exact ⟨fun h => ⟨[], rfl, h.symm⟩, fun ⟨l, h, e⟩ => by subst h; exact e.symm⟩
 | sym p s =>
   simp only [matchT, PL, decide_eq_true_eq]
   exact ⟨fun h => ⟨[p], rfl, by rw [h]; simp only [List.map_cons, List.map_nil]; rw [show sy p = s from ht]⟩, fun ⟨l, h, e⟩ => by subst h; rw [← e]; simp only [List.map_cons, List.map_nil]; rw [show sy p = s from ht]⟩
 | cat a b iha ihb =>
   simp only [matchT, PL, List.any_eq_true, List.mem_range, Bool.and_eq_true]
   refine ⟨?_, ?_⟩
   ·rintro ⟨k, hk, h1, h2⟩
    obtain ⟨x, hx, ex⟩ := (iha ht.1 _).1 h1
    obtain ⟨y, hy, ey⟩ := (ihb ht.2 _).1 h2
    exact ⟨x ++ y, ⟨x, y, rfl, hx, hy⟩, by rw [List.map_append, ex, ey, List.take_append_drop]⟩
   ·rintro ⟨l, ⟨x, y, rfl, hx, hy⟩, rfl⟩
    refine ⟨x.length, by simp only [List.length_map, List.length_append]; omega, ?_, ?_⟩
    ·rw [List.map_append, show x.length = (x.map sy).length from (List.length_map ..).symm, List.take_left]
     exact (iha ht.1 _).2 ⟨x, hx, rfl⟩
    ·rw [List.map_append, show x.length = (x.map sy).length from (List.length_map ..).symm, List.drop_left]
     exact (ihb ht.2 _).2 ⟨y, hy, rfl⟩
 | alt a b iha ihb =>
   simp only [matchT, PL, Bool.or_eq_true, iha ht.1, ihb ht.2]
   refine ⟨?_, ?_⟩
   ·rintro (⟨l, h, e⟩ | ⟨l, h, e⟩)
    ·exact ⟨l, .inl h, e⟩
    ·exact ⟨l, .inr h, e⟩
   ·rintro ⟨l, h | h, e⟩
    ·exact .inl ⟨l, h, e⟩
    ·exact .inr ⟨l, h, e⟩
 | star a ih =>
   simp only [matchT, PL]
   rw [starB_iff]
   exact starL_map sy (PL a) _ (ih ht) w
theorem matchT_iff_acc {sy : Nat → σ} {t : RT σ} (ht : Told sy t) (hl : Lin t) (w : List σ) : matchT t w = true ↔ ∃ l, AccT t l ∧ l.map sy = w := by
 rw [matchT_iff_pl ht]
 simp only [pl_iff_acc hl]
theorem matchT_nil (t : RT σ) : matchT t [] = nullT t := by
 induction t with
 | none => rfl
 | empty => rfl
 | sym _ s => simp [matchT, nullT]
 | cat a b iha ihb => simp [matchT, nullT, iha, ihb, List.range_succ]
 | alt a b iha ihb => simp [matchT, nullT, iha, ihb]
 | star a _ => simp [matchT, nullT, starB]
def comeT (t : RT σ) (sy : Nat → σ) (come : Nat → Prop) : List σ → Nat → Prop
 | [], q => come q
 | s :: w, q => comeT t sy (fun q => ∃ p, come p ∧ sy p = s ∧ pairsT t p q = true) w q
omit [DecidableEq σ] in
theorem comeT_iff (t : RT σ) (sy : Nat → σ) (w : List σ) (come : Nat → Prop) (last : σ) :
 (∃ q, comeT t sy come w q ∧ sy q = last ∧ endsT t q = true) ↔ ∃ p l, come p ∧ Run (pairsT t) (endsT t) p l ∧ (p :: l).map sy = w ++ [last] := by
 induction w generalizing come with
 | nil =>
   refine ⟨fun ⟨q, h, e, he⟩ => ⟨q, [], h, he, by simp [e]⟩, ?_⟩
   rintro ⟨p, l, h, hr, e⟩
   simp only [List.map_cons, List.nil_append, List.cons.injEq, List.map_eq_nil_iff] at e
   obtain ⟨e, rfl⟩ := e
   exact ⟨p, h, e, hr⟩
 | cons s w ih =>
   show (∃ q, comeT t sy (fun q => ∃ p, come p ∧ sy p = s ∧ pairsT t p q = true) w q ∧ sy q = last ∧ endsT t q = true) ↔ _
   rw [ih]
   refine ⟨?_, ?_⟩
   ·rintro ⟨q, l, ⟨p, hp, e, hpq⟩, hr, he⟩
    exact ⟨p, q :: l, hp, ⟨hpq, hr⟩, by rw [List.map_cons, e, he]; rfl⟩
   ·rintro ⟨p, l, hp, hr, he⟩
    cases l with
    | nil => simp at he
    | cons q l =>
      simp only [List.map_cons, List.cons_append, List.cons.injEq] at he
      exact ⟨q, l, ⟨p, hp, he.1, hr.1⟩, hr.2, by simpa using he.2⟩
theorem matchT_iff_come {sy : Nat → σ} {t : RT σ} (ht : Told sy t) (hl : Lin t) (w : List σ) (last : σ) :
 matchT t (w ++ [last]) = true ↔ ∃ q, comeT t sy (fun p => startsT t p = true) w q ∧ sy q = last ∧ endsT t q = true := by
 rw [matchT_iff_acc ht hl, comeT_iff]
 refine ⟨?_, ?_⟩
 ·rintro ⟨l, ha, e⟩
  cases l with
  | nil => simp at e
  | cons p l => exact ⟨p, l, ha.1, ha.2, e⟩
 ·rintro ⟨p, l, hp, hr, e⟩
  exact ⟨p :: l, ⟨hp, hr⟩, e⟩
end
end Go.Rx
namespace Go.Rx
section
variable {l : List Nd}
theorem pos_apart (F : Form l) {i : Nat} {n : Nd} (hn : l[i]? = some n) {x y : Nat} (hk : Go.Rx.kids n = [x, y]) (p : Nat) (h : p ∈ posT (tr l x)) (g : p ∈ posT (tr l y)) : False :=
 In.apart F hn (x := x) (y := y) (by rw [hk]; simp) (by rw [hk]; simp) (kids_apart F hn hk) (in_of_pos F h) (in_of_pos F g)
theorem tr_lin (F : Form l) (i : Nat) : Lin (tr l i) := by
 induction i using Nat.strongRecOn with
 | _ i ih =>
 cases hn : l[i]? with
 | none => rw [tr, hn]; trivial
 | some n =>
   cases F.kind hn with
   | none ho => rw [tr_none hn ho]; trivial
   | empty ho => rw [tr_empty hn ho]; trivial
   | sym ho => rw [tr_sym hn ho]; trivial
   | cat ho s x y a b hx hy =>
     rw [tr_cat hn ho a b hx hy]
     exact ⟨ih x hx, ih y hy, pos_apart F hn (kids_cat (.inl ho) a b)⟩
   | alt ho s x y a b hx hy =>
     rw [tr_alt hn ho a b hx hy]
     exact ⟨ih x hx, ih y hy, pos_apart F hn (kids_cat (.inr ho) a b)⟩
   | star ho s x a b hx => rw [tr_star hn ho a hx]; exact ih x hx
theorem tr_told (F : Form l) (i : Nat) : Told (Go.Rx.symAt l) (tr l i) := by
 induction i using Nat.strongRecOn with
 | _ i ih =>
 cases hn : l[i]? with
 | none => rw [tr, hn]; trivial
 | some n =>
   cases F.kind hn with
   | none ho => rw [tr_none hn ho]; trivial
   | empty ho => rw [tr_empty hn ho]; trivial
   | sym ho => rw [tr_sym hn ho]; simp [Told, Go.Rx.symAt, hn]
   | cat ho s x y a b hx hy => rw [tr_cat hn ho a b hx hy]; exact ⟨ih x hx, ih y hy⟩
   | alt ho s x y a b hx hy => rw [tr_alt hn ho a b hx hy]; exact ⟨ih x hx, ih y hy⟩
   | star ho s x a b hx => rw [tr_star hn ho a hx]; exact ih x hx
end
end Go.Rx
namespace Go.Rx
def stepM (l : List Nd) (w : ByteArray) (acc : Nat) : List Nat → Nat
 | [] => acc
 | p :: ps => stepM l w (if Go.Rx.symAt l p = w then acc ||| nextM l p else acc) ps
theorem bit_stepM {l : List Nd} (F : Form l) (w : ByteArray) (ps : List Nat) (acc q : Nat) :
 (stepM l w acc ps).testBit q = true ↔ acc.testBit q = true ∨ ∃ p, p ∈ ps ∧ Go.Rx.symAt l p = w ∧ pairsT (tr l (l.length - 1)) p q = true := by
 induction ps generalizing acc with
 | nil => simp [stepM]
 | cons p ps ih =>
   rw [stepM, ih]
   by_cases h : Go.Rx.symAt l p = w
   ·rw [if_pos h, Nat.testBit_or, bit_nextM F, Bool.or_eq_true]
    constructor
    ·rintro ((h1 | h1) | ⟨r, hr, h2⟩)
     ·exact .inl h1
     ·exact .inr ⟨p, by simp, h, h1⟩
     ·exact .inr ⟨r, by simp [hr], h2⟩
    ·rintro (h1 | ⟨r, hr, h2⟩)
     ·exact .inl (.inl h1)
     ·rcases List.mem_cons.1 hr with rfl | hr
      ·exact .inl (.inr h2.2)
      ·exact .inr ⟨r, hr, h2⟩
   ·rw [if_neg h]
    constructor
    ·rintro (h1 | ⟨r, hr, h2⟩)
     ·exact .inl h1
     ·exact .inr ⟨r, by simp [hr], h2⟩
    ·rintro (h1 | ⟨r, hr, h2⟩)
     ·exact .inl h1
     ·rcases List.mem_cons.1 hr with rfl | hr
      ·exact (h h2.1).elim
      ·exact .inr ⟨r, hr, h2⟩
def comeM (l : List Nd) : Nat → List ByteArray → Nat
 | m, [] => m
 | m, w :: ws => comeM l (stepM l w 0 (bitsL m)) ws
theorem bit_comeM {l : List Nd} (F : Form l) (ws : List ByteArray) (m : Nat) (c : Nat → Prop) (hc : ∀ p, m.testBit p = true ↔ c p) (q : Nat) :
 (comeM l m ws).testBit q = true ↔ comeT (tr l (l.length - 1)) (Go.Rx.symAt l) c ws q := by
 induction ws generalizing m c with
 | nil => exact hc q
 | cons w ws ih =>
   rw [comeM]
   refine (ih _ _ fun p => ?_)
   rw [bit_stepM F]
   simp only [Nat.zero_testBit, Bool.false_eq_true, false_or, mem_bitsL, hc]
def lastM (l : List Nd) (m : Nat) (w : ByteArray) : Bool :=
 (bitsL m).any fun p => decide (Go.Rx.symAt l p = w) && endsT (tr l (l.length - 1)) p
theorem match_of_masks {l : List Nd} (F : Form l) (ws : List ByteArray) (w : ByteArray) :
 lastM l (comeM l (factT (tr l (l.length - 1))).first ws) w = matchT (tr l (l.length - 1)) (ws ++ [w]) := by
 rw [Bool.eq_iff_iff, matchT_iff_come (tr_told F _) (tr_lin F _)]
 simp only [lastM, List.any_eq_true, mem_bitsL, Bool.and_eq_true, decide_eq_true_eq]
 simp only [bit_comeM F ws _ (fun p => startsT (tr l (l.length - 1)) p = true) (fun p => by rw [fact_first])]
theorem stepM_lt {l : List Nd} (w : ByteArray) (ps : List Nat) {acc n : Nat} (hn : l.length ≤ n) (h : acc < 2 ^ n) : stepM l w acc ps < 2 ^ n := by
 induction ps generalizing acc with
 | nil => exact h
 | cons p ps ih =>
   rw [stepM]
   refine ih ?_
   split
   ·exact or_lt h (Nat.lt_of_lt_of_le (nextM_lt l p) (Nat.pow_le_pow_right (by omega) hn))
   ·exact h
end Go.Rx
namespace Go.Proofs.YtngpjagpeblbjaaGreatDoor
open Go.RowKit Go.Spy Go.Rx
theorem TabW.chg {S : Nat → Prop} {w w' : World} (h : TabW w) (e : Chg S w w') (hS : ¬ S 0) : TabW w' := h.of_block (e.block _ h.lt hS)
end Go.Proofs.YtngpjagpeblbjaaGreatDoor
namespace Go.Proofs.YtngpjagpeblbjaaGreatDoor
open Go.RowKit Go.Spy Go.Rx
theorem checkC_one {l : List Nd} {c d : Int} (h : CheckC l c) (k : CheckC l d) : c = d := by
 rcases h with ⟨h1, rfl⟩ | ⟨h1, h2, rfl⟩ | ⟨h1, h2, h3, rfl⟩ | ⟨h1, h2, h3, rfl⟩ <;> rcases k with ⟨k1, rfl⟩ | ⟨k1, k2, rfl⟩ | ⟨k1, k2, k3, rfl⟩ | ⟨k1, k2, k3, rfl⟩ <;> first | rfl | omega | exact (h2 k2).elim | exact (k2 h2).elim | exact (h3 k3).elim | exact (k3 h3).elim
end Go.Proofs.YtngpjagpeblbjaaGreatDoor
namespace Go.Proofs.YtngpjagpeblbjaaGreatDoor
open Go.RowKit Go.Spy Go.Rx
def SmallL (l : List Nd) : Prop := l.length ≤ 24 ∧ ∀ n ∈ l, n.sym.size ≤ 80
def SmallPost (l : List Nd) (w : World) (e : Ending) (w' : World) : Prop := ∃ b, e = .returned (.bool b) ∧ (b = true ↔ SmallL l) ∧ Ext w w'
set_option maxRecDepth 100000 in
set_option maxHeartbeats 1000000 in
theorem small_any {l : List Nd} {w : World} {ao : Option Addr} (hV : NodesV w ao l) (cap : Nat) :
 Calls Tryz.prog 21 #[.agg #[.slice ao l.length cap]] w (SmallPost l w) := by
 have HV := hid hV
 have hlen := hV.len
 clear hV
 go_enter Tryz.func21, Tryz.ntmps21
 go_wp2_with fail
 go_loopg [3] l.length (fun g i wr => ∃ k, g = l.length - k ∧ k ≤ l.length ∧ i = .int .i64 k ∧ wr = w.alloc (.cells #[.slice ao l.length cap] 45) ∧ Hid (∀ (j : Nat) (n : Nd), j < k → l[j]? = some n → n.sym.size ≤ 80))
 case atStart => exact ⟨0, rfl, Nat.zero_le _, rfl, rfl, hid (fun j n h => absurd h (Nat.not_lt_zero j))⟩
 case round =>
  obtain ⟨k, rfl, hk, rfl, rfl, HA⟩ := hrel
  by_cases hlt : k < l.length
  ·obtain ⟨b, off, rfl, hb, hc⟩ := HV.out.cells (by omega)
   obtain ⟨n, hn⟩ : ∃ n, l[k]? = some n := ⟨_, List.getElem?_eq_getElem hlt⟩
   obtain ⟨q0, q1, q2, q3⟩ := hc k n hn
   have hsz := HV.out.size k n hn
   have HN := hid hn
   clear hc hn
   by_cases h80 : n.sym.size ≤ 80
   ·have h80' : ¬ 80 < n.sym.size := by omega
    go_wp2_with fail
    go_roundg (l.length - (k + 1))
    case measure => omega
    case rel =>
     refine ⟨k + 1, rfl, by omega, by go_num, rfl, hid fun j m hj hm => ?_⟩
     by_cases e : j = k
     ·subst e; rw [HN.out] at hm; cases hm; exact h80
     ·exact HA.out j m (by omega) hm
   ·have h80' : 80 < n.sym.size := by omega
    go_wp2_with fail
    go_ret
    exact ⟨_, rfl, ⟨fun h => (by cases h), fun h => (h80 (h.2 n (List.mem_of_getElem? HN.out))).elim⟩, (Below.refl _ _).alloc (Nat.le_refl _) _⟩
  ·obtain rfl : k = l.length := by omega
   by_cases h24 : l.length ≤ 24
   all_goals
    go_wp2_with fail
    go_ret
    refine ⟨_, rfl, ?_, (Below.refl _ _).alloc (Nat.le_refl _) _⟩
    have hall : ∀ n ∈ l, n.sym.size ≤ 80 := fun n hn => by
     obtain ⟨j, hj⟩ := List.getElem?_of_mem hn
     exact HA.out j n (lt_of_some hj) hj
    exact ⟨fun h => ⟨by have h' : (l.length : Int) ≤ 24 := by simpa using h
                        omega, hall⟩, fun h => by have := h.1; simp; omega⟩
end Go.Proofs.YtngpjagpeblbjaaGreatDoor
namespace Go.Proofs.YtngpjagpeblbjaaGreatDoor
open Go.RowKit Go.Spy Go.Rx
set_option maxRecDepth 100000 in
theorem symbols_none {l : List Nd} {w : World} {ao : Option Addr} (hV : NodesV w ao l) (cap : Nat) (hno : ¬ (l.length ≤ 1024 ∧ Rx.Form l ∧ NamesOk l)) :
 Calls Tryz.prog 23 #[.agg #[.slice ao l.length cap]] w fun e w' => e = .returned (.slice none 0 0) ∧ Ext w w' := by
 have HV := hid hV
 have HNO := hid hno
 clear hV hno
 go_enter Tryz.func23, Tryz.ntmps23
 go_wp2_with fail
 have hE0 : Ext w (w.alloc (.cells #[.slice ao l.length cap] 45)) := (Below.refl _ w).alloc (Nat.le_refl _) _
 refine (check_any (HV.out.ext hE0) cap).mono ?_
 rintro e w1 ⟨c, rfl, hC, hx⟩
 have hc0 : c ≠ 0 := fun h => HNO.out ((checkC_zero hC).1 h)
 have t1 : (c == 0) = false := by simpa using hc0
 have HX := hid (hE0.trans (hx.mono (by simp)))
 have sx := hx.size
 clear hx hE0 hC hc0
 go_wp2_with fail
 go_ret
 exact ⟨rfl, HX.out⟩
end Go.Proofs.YtngpjagpeblbjaaGreatDoor
namespace Go.Spy
open Go.RowKit
end Go.Spy
namespace Go.Proofs.YtngpjagpeblbjaaGreatDoor
open Go.RowKit Go.Spy Go.Rx
theorem szA (w : World) (o : Obj) : (w.alloc o).heap.size = w.heap.size + 1 := by simp
theorem zero_setV (w : World) : (zeroValue 129).run Tryz.prog w = .ok (.agg (setV 0)) w := by
 have h : (Tryz.prog.info? 129).map (·.zero) = some (some (.agg (setV 0))) := zero_set
 unfold zeroValue
 simp only [Sem.run_bind]
 cases hi : Tryz.prog.info? 129 with
 | none => rw [hi] at h; cases h
 | some i =>
   rw [hi] at h
   simp only [Option.map_some, Option.some.injEq] at h
   have : (typeInfo 129).run Tryz.prog w = .ok i w := by simp [typeInfo, hi]
   rw [this]
   simp only [Result.andThen_ok, h, Sem.run_pure]
theorem keyI : KeyOk (κ := Int) Tryz.prog 3 (Value.int .i64) := keyOk_int Tryz.underlying3
def KnownOk (l : List Nd) (ls : List (Int × Value)) : Prop := ∀ (k : Nat) (v : Value), alook ls (k : Int) = some v → v = .agg (setV (nextM l k))
def FollowPost (l : List Nd) (bM at_ : Nat) (w : World) (e : Ending) (w' : World) : Prop :=
 ∃ C, e = .returned (.agg C) ∧ C = setV (nextM l at_) ∧ (∃ ls, MapB w' bM (Value.int .i64) ls ∧ KnownOk l ls) ∧ Chg (· = bM) w w'
set_option maxRecDepth 100000 in
set_option maxHeartbeats 1000000 in
theorem follow_old {l : List Nd} {w : World} {bK bM bP at_ : Nat} {ls : List (Int × Value)} (hK : w.cell? ⟨bK, 0, none⟩ = some (.map (some bM))) (hM : MapB w bM (Value.int .i64) ls) (hk : KnownOk l ls) {v : Value} (ha : alook ls (at_ : Int) = some v) (hb : bK < w.heap.size) :
 Calls Tryz.prog 83 #[.int .i64 at_, .pointer (some ⟨bK, 0, none⟩), .pointer (some ⟨bP, 0, none⟩)] w (FollowPost l bM at_ w) := by
 obtain ⟨C0, HC0⟩ : ∃ C, Hid (C = setV (nextM l at_)) := ⟨_, hid rfl⟩
 have hv := hk at_ v ha
 rw [← HC0.out] at hv
 subst hv
 have HM := hid hM
 have Hk := hid hk
 have HA := hid ha
 have sC0 : C0.size = 16 := by rw [HC0.out, setV_size]
 have hb1 : bK < w.heap.size + 1 := by omega
 clear hM hk ha
 go_enter Tryz.func83, Tryz.ntmps83
 go_wp2_with (first
  | (with_reducible refine wpList_alloc_aggD rfl 129 rfl 4 rfl _ zero_set ?_; intro Y HY; have sY : Y.size = 16 := by rw [HY.out, setV_size])
  | (with_reducible refine wpList_alloc_aggD rfl 129 rfl 5 rfl _ zero_set ?_; intro Z HZ; have sZ : Z.size = 16 := by rw [HZ.out, setV_size])
  | (refine wpList_lookupB rfl (.tmp 8) (.tmp 9) 134 rfl 3 129 (Value.int .i64) keyI Tryz.underlying134 bM ls rfl (HM.out.alloc _) (.agg (setV 0)) zero_setV (at_ : Int) rfl _ HA.out ?_)
  | ((refine wpList_store_agg rfl 129 (.tmp 5) (.tmp 11) rfl _ 0 C0 rfl rfl 129 Z (Blk.new (w.alloc _) _ Z) (by rw [sC0]; exact info_set) (by omega) (by rw [HC0.out]; exact ones_setV _) ?_; intro w3 H3 hs3; rw [szA] at H3; have hz := H3.out.1; rw [splice_all (by omega)] at hz; have H5 := hid hz; clear hz))
  | ((refine wpList_load_agg rfl 129 (.tmp 5) rfl (w.heap.size + 1) 0 rfl 129 C0 _ 16 H5.out Tryz.underlying129 rfl info_set (by omega) ?_; intro E HE; have e0 : E = C0 := (by rw [HE.out]; exact ext_all C0 16 sC0); have E0 := hid e0; have sE : E.size = 16 := (by rw [e0]; exact sC0); clear e0))
  | (refine wpList_store_agg rfl 129 (.tmp 4) (.tmp 21) rfl w.heap.size 0 E rfl rfl 129 Y (((Blk.new w _ Y).alloc _).chg H3.out.2 (by show ¬ _ = _; omega)) (by rw [sE]; exact info_set) (by omega) (by rw [E0.out, HC0.out]; exact ones_setV _) ?_; intro w4 H4 hs4; have hz := H4.out.1; rw [splice_all (by omega)] at hz; have H6 := hid hz; clear hz))
 have C6 : Chg (fun k => k = w.heap.size ∨ k = w.heap.size + 1) w w4 := ((((Chg.refl (· = w.heap.size + 1) w).alloc _).alloc _).trans H3.out.2).mono (S' := fun k => k = w.heap.size ∨ k = w.heap.size + 1) (fun _ _ e => .inr e) |>.trans (H4.out.2.mono fun _ _ e => .inl e)
 have lM := HM.out.lt
 exact bodyPost_ret (v := .agg E) (results_cell_agg Tryz.results83 _ w4 w.heap.size _ E _ rfl H6.out Tryz.underlying129 rfl (by rw [sE]; exact info_set)) rfl ⟨E, rfl, by rw [E0.out, HC0.out], ⟨ls, HM.out.chg C6 (by show ¬ (_ ∨ _); omega), Hk.out⟩, C6.mono (fun k hk e => by omega)⟩
set_option maxRecDepth 100000 in
set_option maxHeartbeats 1000000 in
theorem follow_new {l : List Nd} (F : Rx.Form l) {w : World} {ao : Option Addr} {bF bA cap : Nat} (hP : PlanW w ao l bF bA) (hl : l.length ≤ 64) {bK bM bP at_ : Nat} (hB : Blk w bP 126 (planC ao l.length cap bF bA)) (hat : at_ < l.length) {ls : List (Int × Value)} (hK : w.cell? ⟨bK, 0, none⟩ = some (.map (some bM))) (hM : MapB w bM (Value.int .i64) ls) (hk : KnownOk l ls) (ha : alook ls (at_ : Int) = none) (hb : bK < w.heap.size) :
 Calls Tryz.prog 83 #[.int .i64 at_, .pointer (some ⟨bK, 0, none⟩), .pointer (some ⟨bP, 0, none⟩)] w (FollowPost l bM at_ w) := by
 have HM := hid hM
 have Hk := hid hk
 have HA := hid ha
 have HP := hid hP
 have HB := hid hB
 have lM := hM.lt
 have lB := hB.lt
 have hb1 : bK < w.heap.size + 1 := by omega
 have lB1 : bP < w.heap.size + 1 := by omega
 have sI : (setV 0).size = 16 := setV_size 0
 obtain ⟨C0, HC0⟩ : ∃ C, Hid (C = setV 0) := ⟨_, hid rfl⟩
 have sC0 : C0.size = 16 := by rw [HC0.out, setV_size]
 clear hM hk ha hP hB sI
 go_enter Tryz.func83, Tryz.ntmps83
 go_wp2_with (first
  | (with_reducible refine wpList_alloc_aggD rfl 129 rfl 4 rfl _ zero_set ?_; intro Y HY; have sY : Y.size = 16 := by rw [HY.out, setV_size])
  | (with_reducible refine wpList_alloc_aggD rfl 129 rfl 5 rfl _ zero_set ?_; intro Z HZ; have sZ : Z.size = 16 := by rw [HZ.out, setV_size])
  | (refine wpList_lookupB rfl (.tmp 8) (.tmp 9) 134 rfl 3 129 (Value.int .i64) keyI Tryz.underlying134 bM ls rfl (HM.out.alloc _) (.agg C0) (by rw [HC0.out]; exact zero_setV) (at_ : Int) rfl _ HA.out ?_)
  | (refine wpList_store_agg rfl 129 (.tmp 5) (.tmp 11) rfl _ 0 C0 rfl rfl 129 Z (Blk.new (w.alloc _) _ Z) (by rw [sC0]; exact info_set) (by omega) (by rw [HC0.out]; exact ones_setV _) ?_; intro w3 H3 hs3; rw [szA] at H3; have hz := H3.out.1; rw [splice_all (by omega)] at hz; have H5 := hid hz; clear hz
     have C3 : Hid (Chg (fun k => k = w.heap.size + 1) w w3) := hid ((((Chg.refl (· = w.heap.size + 1) w).alloc _).alloc _).trans H3.out.2)
     have HB3 := HB.out.chg C3.out (by show ¬ _ = _; omega)
     have m0 : w3.cell? ⟨bP, 0, none⟩ = some (.slice ao l.length cap) := HB3.cell (i := 0) rfl
     have m1 : w3.cell? ⟨bP, 1, none⟩ = some (.slice (some ⟨bF, 0, none⟩) l.length l.length) := HB3.cell (i := 1) rfl
     have m2 : w3.cell? ⟨bP, 2, none⟩ = some (.slice (some ⟨bA, 0, none⟩) l.length l.length) := HB3.cell (i := 2) rfl
     clear HB3)
  | (go_at_call 84
     refine (next_any F (HP.out.ext (C3.out.below (Nat.le_refl _) (fun k e => by omega))) cap at_ hat hl).mono ?_
     rintro e w4 ⟨D, rfl, hD, hx⟩
     have HD := hid hD
     have sD : D.size = 16 := by rw [hD, setV_size]
     have C4 : Hid (Chg (fun k => k = w.heap.size + 1) w w4) := hid (C3.out.ext hx)
     have s4 := hx.size
     have B4 := hid (H5.out.ext hx)
     have Y4 := hid ((((Blk.new w 129 Y).alloc _).chg H3.out.2 (by show ¬ _ = _; omega)).ext hx)
     have s3' : w.heap.size + 1 + 1 ≤ w4.heap.size := by simp at hs3; omega
     clear hD hx m0 m1 m2)
  | (refine wpList_store_agg rfl 129 (.tmp 5) (.tmp 17) rfl (w.heap.size + 1) 0 D rfl rfl 129 C0 B4.out (by rw [sD]; exact info_set) (by omega) (by rw [HD.out]; exact ones_setV _) ?_
     intro w5 G3 gs3
     have hz := G3.out.1
     rw [splice_all (by omega)] at hz
     have B5 := hid hz; clear hz
     have C5 : Hid (Chg (fun k => k = w.heap.size + 1) w w5) := hid (C4.out.trans G3.out.2)
     have k5 : w5.cell? ⟨bK, 0, none⟩ = some (.map (some bM)) := by rw [cell_of_chg (a := ⟨bK, 0, none⟩) C5.out hb (by show ¬ bK = w.heap.size + 1; omega)]; exact hK
     have M5 := hid (HM.out.chg C5.out (by show ¬ _ = _; omega)))
  | (refine wpList_load_agg rfl 129 (.tmp 5) rfl (w.heap.size + 1) 0 rfl 129 D _ 16 B5.out Tryz.underlying129 rfl info_set (by omega) ?_; intro E HE; have e0 : E = D := (by rw [HE.out]; exact ext_all D 16 sD); have E0 := hid e0; have sE : E.size = 16 := (by rw [e0]; exact sD); clear e0)
  | (refine wpList_mapUpdateB _ rfl (.tmp 18) _ (.tmp 20) 134 (.inl rfl) 3 129 (Value.int .i64) keyI Tryz.underlying134 bM ls rfl M5.out (at_ : Int) _ rfl rfl ?_; intro w6 hM6 hg6; have M6 := hid hM6; have G6 := hid hg6; have B6 := hid (B5.out.grown hg6 (by simp; omega)); have Y5 := hid (((Y4.out.chg G3.out.2 (by show ¬ _ = _; omega))).grown hg6 (by simp; omega)); clear hM6 hg6)
  | (refine wpList_load_agg rfl 129 (.tmp 5) rfl (w.heap.size + 1) 0 rfl 129 D _ 16 B6.out Tryz.underlying129 rfl info_set (by omega) ?_; intro E2 HE2; have e0 : E2 = D := (by rw [HE2.out]; exact ext_all D 16 sD); have E3 := hid e0; have sE2 : E2.size = 16 := (by rw [e0]; exact sD); clear e0)
  | (refine wpList_store_agg rfl 129 (.tmp 4) (.tmp 21) rfl w.heap.size 0 E2 rfl rfl 129 Y Y5.out (by rw [sE2]; exact info_set) (by omega) (by rw [E3.out, HD.out]; exact ones_setV _) ?_; intro w7 H7 hs7; have hz := H7.out.1; rw [splice_all (by omega)] at hz; have H8 := hid hz; clear hz))
 have C7 : Chg (fun k => k = w.heap.size ∨ k = w.heap.size + 1 ∨ k = bM) w w7 := ((C5.out.mono (S' := fun k => k = w.heap.size ∨ k = w.heap.size + 1 ∨ k = bM) (fun _ _ e => .inr (.inl e))).grown G6.out (fun k e => .inr (.inr (by simpa using e.symm)))).trans (H7.out.2.mono fun _ _ e => .inl e)
 refine bodyPost_ret (v := .agg E2) (results_cell_agg Tryz.results83 _ w7 w.heap.size _ E2 _ rfl H8.out Tryz.underlying129 rfl (by rw [sE2]; exact info_set)) rfl ⟨E2, rfl, by rw [E3.out, HD.out], ⟨aput ls (at_ : Int) (.agg E), M6.out.chg H7.out.2 (by show ¬ _ = _; omega), fun k v hv => ?_⟩, C7.mono (fun k hk e => by omega)⟩
 rw [alook_aput] at hv
 by_cases e : (k : Int) = (at_ : Int)
 ·rw [if_pos e] at hv
  cases hv
  rw [E0.out, HD.out, show k = at_ by omega]
 ·rw [if_neg e] at hv
  exact Hk.out k v hv
theorem follow_any {l : List Nd} (F : Rx.Form l) {w : World} {ao : Option Addr} {bF bA cap : Nat} (hP : PlanW w ao l bF bA) (hl : l.length ≤ 64) {bK bM bP at_ : Nat} (hB : Blk w bP 126 (planC ao l.length cap bF bA)) (hat : at_ < l.length) {ls : List (Int × Value)} (hK : w.cell? ⟨bK, 0, none⟩ = some (.map (some bM))) (hM : MapB w bM (Value.int .i64) ls) (hk : KnownOk l ls) (hb : bK < w.heap.size) :
 Calls Tryz.prog 83 #[.int .i64 at_, .pointer (some ⟨bK, 0, none⟩), .pointer (some ⟨bP, 0, none⟩)] w (FollowPost l bM at_ w) := by
 cases ha : alook ls (at_ : Int) with
 | none => exact follow_new F hP hl hB hat hK hM hk ha hb
 | some v => exact follow_old hK hM hk ha hb
end Go.Proofs.YtngpjagpeblbjaaGreatDoor
