/-
  Plain law: what a state matches; a tour whose states match unlike rows depends on what its first one matches alone. No program is named here.
  Plain law: numbers for the things of a list; classes of states made finer until they stay. No program is named here.
  Plain law: words in order; automata as a program holds them, and what is wrong with one.
  Walks of DFA.goes, DFA.final and DFA.Match.
  Regions in which one of two operations may come up; slices.Clone.
  Walk of checked: what is wrong with the first of two automata, or else with the second.
  Walk of DFA.Not.
  Walk of Make where the expression or a word may not be.
-/
import Derived.Test.YtngpjagpeblbjaaGreatDoorB02
import Derived.Sort.Walk0
import Derived.StillTailTactics
import Derived.Deep.QuietTactic
import Derived.BigQuiet
import Derived.BigRegion
import Derived.IntWalk
import Derived.Sort.OwnSorted
import Derived.Sort.Grow
import Derived.Lib.OwnBridge
import Derived.Outline
import Derived.WalkSpells
import Derived.Deep.Draws
import Derived.Laws.ResultCell
import Derived.Laws.CopyRow
import Derived.Laws.OwnMore
import Derived.Deep.Cut
import Derived.Lib.SlicesCompact
import Derived.Lib.RowBridge
import Derived.Test.YtngpjagpeblbjaaGreatDoorB01
namespace Go.Tour
section
variable {K : Type}
theorem lang_nil (δ : K → Nat → K) (m : Nat) (f : K → Bool) (k : K) : lang δ m f k [] = f k := by simp [lang, runL]
theorem lang_cons (δ : K → Nat → K) (m : Nat) (f : K → Bool) (k : K) {c : Nat} (hc : c < m) (u : List Nat) : lang δ m f k (c :: u) = lang δ m f (δ k c) u := by
 simp [lang, runL, hc]
end
section
variable {K : Type} [DecidableEq K]
end
variable {σ : Type}
theorem OkD.run {d : DF σ} (h : OkD d) : ∀ (u : List Nat) {s : Nat}, s < d.next.length → runL (stepD d) s u < d.next.length
 | [], _, hs => hs
 | c :: u, s, _ => h.run u (h.step s c)
section
variable {K : Type} [DecidableEq K] {δ : K → Nat → K} {syms : List σ} {f : K → Bool} {first : K} {i : Nat}
theorem tourD_step (h : Full (fan δ syms.length) first i) {s c : Nat} {k : K} (hk : (tourN (fan δ syms.length) first i).keys[s]? = some k) (hc : c < syms.length) :
 (tourN (fan δ syms.length) first i).keys[stepD (tourD syms (tourN (fan δ syms.length) first i) f) s c]? = some (δ k c) := by
 have hm : δ k c ∈ (tourN (fan δ syms.length) first i).keys := full_closed h (List.mem_of_getElem? hk) _ (by simp only [fan, List.mem_map, List.mem_range]; exact ⟨c, hc, rfl⟩)
 have e : stepD (tourD syms (tourN (fan δ syms.length) first i) f) s c = (tourN (fan δ syms.length) first i).keys.idxOf (δ k c) := by
  unfold stepD
  show (((tourN (fan δ syms.length) first i).next[s]?).getD [])[c]?.getD 0 = _
  rw [full_next h, List.getElem?_map, hk]
  simp [fan, hc]
 rw [e, List.getElem?_eq_getElem (List.idxOf_lt_length_of_mem hm), List.getElem_idxOf]
theorem tourD_run (h : Full (fan δ syms.length) first i) : ∀ (u : List Nat), (∀ c ∈ u, c < syms.length) → ∀ {s : Nat} {k : K}, (tourN (fan δ syms.length) first i).keys[s]? = some k →
 (tourN (fan δ syms.length) first i).keys[runL (stepD (tourD syms (tourN (fan δ syms.length) first i) f)) s u]? = some (runL δ k u)
 | [], _, _, _, hk => hk
 | c :: u, hu, _, _, hk => tourD_run h u (fun x hx => hu x (by simp [hx])) (tourD_step h hk (hu c (by simp)))
theorem tourD_lang (h : Full (fan δ syms.length) first i) : langD (tourD syms (tourN (fan δ syms.length) first i) f) = lang δ syms.length f first := by
 funext u
 show lang _ syms.length _ _ _ = _
 by_cases hu : ∀ c ∈ u, c < syms.length
 ·rw [lang_of hu, lang_of hu]
  have := tourD_run (f := f) h u hu (tourN_first _ _ i)
  unfold finD
  simp only [tourD, List.getElem?_map] at this ⊢
  rw [this]; rfl
 ·unfold lang
  rw [decide_eq_false hu]; rfl
end
section
variable [DecidableEq σ]
def runS (d : DF σ) (s : Int) (l : List σ) : Int := l.foldl (goS d) s
def matchD (d : DF σ) (l : List σ) : Bool := finS d (runS d 0 l)
theorem goS_lt {d : DF σ} (h : OkD d) (s : Int) (x : σ) : -1 ≤ goS d s x ∧ goS d s x < d.next.length := by
 unfold goS
 split
 ·have := h.step s.toNat (d.syms.idxOf x); omega
 ·omega
theorem runS_none {d : DF σ} : ∀ (l : List σ) {s : Int}, s < 0 → runS d s l < 0
 | [], _, h => h
 | x :: l, s, h => by
   show runS d (goS d s x) l < 0
   rw [goS_none h]
   exact runS_none l (by omega)
theorem runS_out {d : DF σ} : ∀ {l : List σ} {s : Int}, (∃ x ∈ l, x ∉ d.syms) → runS d s l < 0
 | [], _, h => by simp at h
 | y :: l, s, ⟨x, hx, hn⟩ => by
   show runS d (goS d s y) l < 0
   by_cases e : y ∈ d.syms
   ·refine runS_out ⟨x, ?_, hn⟩
    rcases List.mem_cons.1 hx with rfl | h
    ·exact absurd e hn
    ·exact h
   ·rw [goS_out e]; exact runS_none l (by omega)
theorem runS_in {d : DF σ} : ∀ {l : List σ} (s : Nat), (∀ x ∈ l, x ∈ d.syms) → runS d s l = (runL (stepD d) s (l.map d.syms.idxOf) : Nat)
 | [], _, _ => rfl
 | y :: l, s, h => by
   show runS d (goS d s y) l = _
   rw [goS_in (h y (by simp))]
   exact runS_in _ (fun x hx => h x (by simp [hx]))
theorem matchD_in {d : DF σ} {l : List σ} (h : ∀ x ∈ l, x ∈ d.syms) : matchD d l = langD d (l.map d.syms.idxOf) := by
 unfold matchD langD
 rw [lang_of (fun c hc => by
  simp only [List.mem_map] at hc
  obtain ⟨x, hx, rfl⟩ := hc
  exact List.idxOf_lt_length_of_mem (h x hx))]
 rw [show (0 : Int) = ((0 : Nat) : Int) by rfl, runS_in 0 h]
 simp [finS]
theorem matchD_out {d : DF σ} {l : List σ} (h : ∃ x ∈ l, x ∉ d.syms) : matchD d l = false := by
 have := runS_out (s := 0) h
 unfold matchD finS
 rw [decide_eq_false (by omega)]; rfl
theorem wordsOf_idx {syms : List σ} (hn : syms.Nodup) : ∀ {u : List Nat}, (∀ c ∈ u, c < syms.length) → (wordsOf syms u).map syms.idxOf = u
 | [], _ => rfl
 | c :: u, hu => by
   have hc := hu c (by simp)
   rw [wordsOf_cons hc, List.map_cons, hn.idxOf_getElem c hc, wordsOf_idx hn (fun x hx => hu x (by simp [hx]))]
omit [DecidableEq σ] in
theorem wordsOf_mem {syms : List σ} {u : List Nat} : ∀ x ∈ wordsOf syms u, x ∈ syms := by
 intro x hx
 simp only [wordsOf, List.mem_filterMap] at hx
 obtain ⟨c, _, hc⟩ := hx
 exact List.mem_of_getElem? hc
theorem wordsOf_of {syms : List σ} : ∀ {l : List σ}, (∀ x ∈ l, x ∈ syms) → wordsOf syms (l.map syms.idxOf) = l
 | [], _ => rfl
 | x :: l, h => by
   have hx := List.idxOf_lt_length_of_mem (h x (by simp))
   rw [List.map_cons, wordsOf_cons hx, List.getElem_idxOf, wordsOf_of (fun y hy => h y (by simp [hy]))]
theorem match_words {d : DF σ} (hn : d.syms.Nodup) {u : List Nat} (hu : ∀ c ∈ u, c < d.syms.length) : matchD d (wordsOf d.syms u) = langD d u := by
 rw [matchD_in wordsOf_mem, wordsOf_idx hn hu]
end
end Go.Tour
namespace Go.Tour
section
variable {κ : Type} [DecidableEq κ]
def addU (u : List κ) (k : κ) : List κ := if k ∈ u then u else u ++ [k]
def clsU (l : List κ) : List κ := l.foldl addU []
def cls (l : List κ) : List Nat := l.map (clsU l).idxOf
theorem clsU_snoc (l : List κ) (x : κ) : clsU (l ++ [x]) = addU (clsU l) x := by simp [clsU]
theorem addU_pre (u : List κ) (k : κ) : u <+: addU u k := by
 unfold addU; split
 ·exact List.prefix_refl _
 ·exact List.prefix_append _ _
theorem clsU_mem (l : List κ) : ∀ x, x ∈ clsU l ↔ x ∈ l := by
 have key : ∀ n (l : List κ), l.length = n → ∀ x, x ∈ clsU l ↔ x ∈ l := by
  intro n
  induction n with
  | zero => intro l hl x; obtain rfl := List.eq_nil_of_length_eq_zero hl; simp [clsU]
  | succ n ih =>
    intro l hl x
    have hne : l ≠ [] := by rintro rfl; simp at hl
    obtain ⟨l', y, rfl⟩ : ∃ l' y, l = l' ++ [y] := ⟨_, _, (List.dropLast_concat_getLast hne).symm⟩
    rw [clsU_snoc, addU]
    have := ih l' (by simp at hl; omega)
    split
    ·rename_i hy
     rw [this] at hy
     rw [this]
     simp only [List.mem_append, List.mem_singleton]
     exact ⟨.inl, fun h => h.elim id (fun e => e ▸ hy)⟩
    ·simp only [List.mem_append, List.mem_singleton, this]
 exact key _ l rfl
theorem clsU_nodup (l : List κ) : (clsU l).Nodup := by
 have key : ∀ n (l : List κ), l.length = n → (clsU l).Nodup := by
  intro n
  induction n with
  | zero => intro l hl; obtain rfl := List.eq_nil_of_length_eq_zero hl; simp [clsU]
  | succ n ih =>
    intro l hl
    have hne : l ≠ [] := by rintro rfl; simp at hl
    obtain ⟨l', y, rfl⟩ : ∃ l' y, l = l' ++ [y] := ⟨_, _, (List.dropLast_concat_getLast hne).symm⟩
    rw [clsU_snoc, addU]
    have := ih l' (by simp at hl; omega)
    split
    ·exact this
    ·rename_i hy
     rw [List.nodup_append]
     exact ⟨this, by simp, fun a ha b hb => by simp at hb; subst hb; exact fun e => hy (e ▸ ha)⟩
 exact key _ l rfl
theorem cls_length (l : List κ) : (cls l).length = l.length := by simp [cls]
theorem cls_snoc (l : List κ) (x : κ) : cls (l ++ [x]) = cls l ++ [(clsU (l ++ [x])).idxOf x] := by
 unfold cls
 rw [List.map_append]
 congr 1
 refine List.map_congr_left fun y hy => ?_
 exact idxOf_prefix (by rw [clsU_snoc]; exact addU_pre _ _) ((clsU_mem l y).2 hy)
theorem cls_old {l : List κ} {x : κ} (h : x ∈ clsU l) : clsU (l ++ [x]) = clsU l ∧ (clsU (l ++ [x])).idxOf x = (clsU l).idxOf x := by
 rw [clsU_snoc, addU, if_pos h]; exact ⟨rfl, rfl⟩
theorem cls_new {l : List κ} {x : κ} (h : x ∉ clsU l) : clsU (l ++ [x]) = clsU l ++ [x] ∧ (clsU (l ++ [x])).idxOf x = (clsU l).length := by
 rw [clsU_snoc, addU, if_neg h]
 refine ⟨rfl, ?_⟩
 rw [List.idxOf_append, if_neg h]; simp
structure Num (a : List Nat) (c : Nat) : Prop where
 lt : ∀ x ∈ a, x < c
 all : ∀ x, x < c → x ∈ a
theorem cls_num (l : List κ) : Num (cls l) (clsU l).length := by
 refine ⟨fun x hx => ?_, fun x hx => ?_⟩
 ·simp only [cls, List.mem_map] at hx
  obtain ⟨k, hk, rfl⟩ := hx
  exact List.idxOf_lt_length_of_mem ((clsU_mem l k).2 hk)
 ·simp only [cls, List.mem_map]
  exact ⟨(clsU l)[x], (clsU_mem l _).1 (List.getElem_mem _), (clsU_nodup l).idxOf_getElem x hx⟩
theorem cls_same {l : List κ} {i j : Nat} (hi : i < l.length) (hj : j < l.length) : (cls l)[i]? = (cls l)[j]? ↔ l[i]? = l[j]? := by
 simp only [cls, List.getElem?_map, List.getElem?_eq_getElem hi, List.getElem?_eq_getElem hj, Option.map_some, Option.some.injEq]
 constructor
 ·intro h
  have h1 := List.getElem_idxOf (List.idxOf_lt_length_of_mem ((clsU_mem l l[i]).2 (List.getElem_mem hi)))
  have h2 := List.getElem_idxOf (List.idxOf_lt_length_of_mem ((clsU_mem l l[j]).2 (List.getElem_mem hj)))
  rw [← h1, ← h2]
  simp only [h]
 ·intro h; rw [h]
end
theorem Num.max {a : List Nat} {c m : Nat} (h : Num a c) (hm : m ∈ a) (hx : ∀ x ∈ a, x ≤ m) : c = m + 1 := by
 have h1 := h.lt m hm
 have h2 : c - 1 ≤ m := hx _ (h.all (c - 1) (by omega))
 omega
theorem Num.le {a : List Nat} {c : Nat} (h : Num a c) : c ≤ a.length := by
 have := mem_length_le (l := List.range c) (u := a) List.nodup_range (fun k hk => h.all k (by simpa using hk))
 simpa using this
def Finer (b a : List Nat) : Prop := ∀ s t, s < a.length → t < a.length → b[s]? = b[t]? → a[s]? = a[t]?
section
variable {a b : List Nat} {c d : Nat}
theorem num_rep (h : Num b d) (x : Nat) : ∃ s, x < d → s < b.length ∧ b[s]? = some x := by
 by_cases e : x < d
 ·obtain ⟨s, hs, he⟩ := List.getElem_of_mem (h.all x e)
  exact ⟨s, fun _ => ⟨hs, by rw [List.getElem?_eq_getElem hs, he]⟩⟩
 ·exact ⟨0, fun e' => absurd e' e⟩
theorem finer_rep (hl : a.length = b.length) (ha : Num a c) (hb : Num b d) (hf : Finer b a) : ∃ r : Nat → Nat, (∀ x, x < d → r x < b.length ∧ b[r x]? = some x) ∧ ∀ y, y < c → ∃ x, x < d ∧ a[r x]? = some y := by
 have hr := fun x => num_rep hb x
 obtain ⟨r, hr⟩ : ∃ r : Nat → Nat, ∀ x, x < d → r x < b.length ∧ b[r x]? = some x := ⟨fun x => (hr x).choose, fun x hx => (hr x).choose_spec hx⟩
 refine ⟨r, hr, fun y hy => ?_⟩
 obtain ⟨s, hs, he⟩ := List.getElem_of_mem (ha.all y hy)
 have hsb : s < b.length := by omega
 have hx := hb.lt _ (List.getElem_mem hsb)
 obtain ⟨h1, h2⟩ := hr b[s] hx
 refine ⟨b[s], hx, ?_⟩
 rw [hf (r b[s]) s (by omega) hs (by rw [h2, List.getElem?_eq_getElem hsb]), List.getElem?_eq_getElem hs, he]
theorem finer_le (hl : a.length = b.length) (ha : Num a c) (hb : Num b d) (hf : Finer b a) : c ≤ d := by
 obtain ⟨r, h1, h2⟩ := finer_rep hl ha hb hf
 have := mem_length_le (l := List.range c) (u := (List.range d).map fun x => (a[r x]?).getD 0) List.nodup_range (fun y hy => by
  obtain ⟨x, hx, he⟩ := h2 y (by simpa using hy)
  simp only [List.mem_map, List.mem_range]
  exact ⟨x, hx, by rw [he]; rfl⟩)
 simpa using this
theorem finer_same (hl : a.length = b.length) (ha : Num a c) (hb : Num b c) (hf : Finer b a) : Finer a b := by
 obtain ⟨r, h1, h2⟩ := finer_rep hl ha hb hf
 intro s t hs ht he
 have hsa : s < a.length := by omega
 have hta : t < a.length := by omega
 have es : b[s]? = some b[s] := List.getElem?_eq_getElem hs
 have et : b[t]? = some b[t] := List.getElem?_eq_getElem ht
 rcases Nat.decEq b[s] b[t] with hne | heq
 ·exfalso
  have hxs := hb.lt _ (List.getElem_mem hs)
  have hxt := hb.lt _ (List.getElem_mem ht)
  have hu := mem_length_le (l := List.range c) (u := ((List.range c).erase b[t]).map fun x => (a[r x]?).getD 0) List.nodup_range (fun y hy => by
   obtain ⟨x, hx, hxe⟩ := h2 y (by simpa using hy)
   simp only [List.mem_map]
   by_cases e : x = b[t]
   ·refine ⟨b[s], (List.mem_erase_of_ne hne).2 (by simpa using hxs), ?_⟩
    obtain ⟨r1, r2⟩ := h1 _ hxs
    obtain ⟨r3, r4⟩ := h1 _ hxt
    have q1 := hf (r b[s]) s (by omega) (by omega) (by rw [r2, es])
    have q2 := hf (r b[t]) t (by omega) (by omega) (by rw [r4, et])
    rw [e, q2] at hxe
    rw [q1, he, hxe]; rfl
   ·exact ⟨x, (List.mem_erase_of_ne e).2 (by simpa using hx), by rw [hxe]; rfl⟩)
  rw [List.length_map, List.length_erase_of_mem (by simpa using hxt)] at hu
  simp at hu
  omega
 ·rw [es, et, heq]
end
variable {σ : Type}
theorem at0_some {a : List Nat} {s : Nat} (h : s < a.length) : a[s]? = some (at0 a s) := by unfold at0; rw [List.getElem?_eq_getElem h]; rfl
theorem at0_eq {a : List Nat} {s t : Nat} (hs : s < a.length) (ht : t < a.length) : a[s]? = a[t]? ↔ at0 a s = at0 a t := by rw [at0_some hs, at0_some ht, Option.some.injEq]
def prsAt (d : DF σ) (a finer : List Nat) (c : Nat) : List (Nat × Nat) := (List.range d.next.length).map fun s => (at0 finer s, at0 a (stepD d s c))
def passN (d : DF σ) (a : List Nat) : Nat → List Nat
 | 0 => a
 | c + 1 => cls (prsAt d a (passN d a c) c)
theorem passN_length {d : DF σ} {a : List Nat} (hl : a.length = d.next.length) : ∀ c, (passN d a c).length = d.next.length
 | 0 => hl
 | c + 1 => by simp [passN, cls_length, prsAt]
theorem prs_get (d : DF σ) (a finer : List Nat) (c : Nat) {s : Nat} (h : s < d.next.length) : (prsAt d a finer c)[s]? = some (at0 finer s, at0 a (stepD d s c)) := by simp [prsAt, h]
theorem passN_same {d : DF σ} {a : List Nat} (hl : a.length = d.next.length) {s t : Nat} (hs : s < d.next.length) (ht : t < d.next.length) : ∀ c, at0 (passN d a c) s = at0 (passN d a c) t ↔ at0 a s = at0 a t ∧ ∀ e, e < c → at0 a (stepD d s e) = at0 a (stepD d t e)
 | 0 => by simp [passN]
 | c + 1 => by
   have ih := passN_same hl hs ht c
   rw [← at0_eq (by rw [passN_length hl]; exact hs) (by rw [passN_length hl]; exact ht)]
   simp only [passN]
   rw [cls_same (by simpa [prsAt] using hs) (by simpa [prsAt] using ht), prs_get _ _ _ _ hs, prs_get _ _ _ _ ht]
   simp only [Option.some.injEq, Prod.mk.injEq, ih]
   constructor
   ·rintro ⟨⟨h1, h2⟩, h3⟩
    refine ⟨h1, fun e he => ?_⟩
    rcases Nat.lt_or_ge e c with h | h
    ·exact h2 e h
    ·obtain rfl : e = c := by omega
     exact h3
   ·rintro ⟨h1, h2⟩
    exact ⟨⟨h1, fun e he => h2 e (by omega)⟩, h2 c (by omega)⟩
def langAt (d : DF σ) (s : Nat) : List Nat → Bool := lang (stepD d) d.syms.length (finD d) s
structure AlikeI (d : DF σ) (a : List Nat) : Prop where
 len : a.length = d.next.length
 num : ∃ c, Num a c
 fin : ∀ s t, s < d.next.length → t < d.next.length → at0 a s = at0 a t → finD d s = finD d t
 lang : ∀ s t, s < d.next.length → t < d.next.length → langAt d s = langAt d t → at0 a s = at0 a t
theorem alike_start {d : DF σ} (h : OkD d) : AlikeI d (cls d.fin) := by
 refine ⟨by rw [cls_length, h.fin], ⟨_, cls_num _⟩, fun s t hs ht e => ?_, fun s t hs ht e => ?_⟩
 ·rw [← at0_eq (by rw [cls_length, h.fin]; exact hs) (by rw [cls_length, h.fin]; exact ht), cls_same (by rw [h.fin]; exact hs) (by rw [h.fin]; exact ht)] at e
  unfold finD; rw [e]
 ·rw [← at0_eq (by rw [cls_length, h.fin]; exact hs) (by rw [cls_length, h.fin]; exact ht), cls_same (by rw [h.fin]; exact hs) (by rw [h.fin]; exact ht), h.finAt hs, h.finAt ht]
  have := congrFun e []
  unfold langAt at this
  rw [lang_nil, lang_nil] at this
  rw [this]
theorem lang_step {d : DF σ} {s t : Nat} (e : langAt d s = langAt d t) {c : Nat} (hc : c < d.syms.length) : langAt d (stepD d s c) = langAt d (stepD d t c) := by
 funext u
 have := congrFun e (c :: u)
 unfold langAt at this
 rw [lang_cons _ _ _ _ hc, lang_cons _ _ _ _ hc] at this
 exact this
theorem alike_pass {d : DF σ} (h : OkD d) {a : List Nat} (A : AlikeI d a) (c : Nat) (hc : c ≤ d.syms.length) : AlikeI d (passN d a c) := by
 refine ⟨passN_length A.len c, ?_, fun s t hs ht e => ?_, fun s t hs ht e => ?_⟩
 ·cases c with
  | zero => exact A.num
  | succ c => exact ⟨_, cls_num _⟩
 ·exact A.fin s t hs ht ((passN_same A.len hs ht c).1 e).1
 ·refine (passN_same A.len hs ht c).2 ⟨A.lang s t hs ht e, fun x hx => ?_⟩
  exact A.lang _ _ (h.step s x) (h.step t x) (lang_step e (by omega))
theorem pass_finer {d : DF σ} {a : List Nat} (hl : a.length = d.next.length) (c : Nat) : Finer (passN d a c) a := by
 intro s t hs ht e
 rw [hl] at hs ht
 rw [at0_eq (by rw [passN_length hl]; exact hs) (by rw [passN_length hl]; exact ht), passN_same hl hs ht] at e
 rw [at0_eq (by omega) (by omega)]
 exact e.1
theorem alike_end {d : DF σ} (h : OkD d) {a : List Nat} (A : AlikeI d a) {c : Nat} (h1 : Num a c) (h2 : Num (passN d a d.syms.length) c) {s t : Nat} (hs : s < d.next.length) (ht : t < d.next.length) : at0 a s = at0 a t ↔ langAt d s = langAt d t := by
 refine ⟨fun e => ?_, A.lang s t hs ht⟩
 have hf := finer_same (by rw [A.len, passN_length A.len]) h1 h2 (pass_finer A.len _)
 have cong : ∀ s t, s < d.next.length → t < d.next.length → at0 a s = at0 a t → ∀ x, x < d.syms.length → at0 a (stepD d s x) = at0 a (stepD d t x) := by
  intro s t hs ht e x hx
  have h3 := hf s t (by rw [passN_length A.len]; exact hs) (by rw [passN_length A.len]; exact ht) ((at0_eq (by rw [A.len]; exact hs) (by rw [A.len]; exact ht)).2 e)
  rw [at0_eq (by rw [passN_length A.len]; exact hs) (by rw [passN_length A.len]; exact ht), passN_same A.len hs ht] at h3
  exact h3.2 x hx
 have run : ∀ (u : List Nat) s t, s < d.next.length → t < d.next.length → at0 a s = at0 a t → (∀ x ∈ u, x < d.syms.length) → finD d (runL (stepD d) s u) = finD d (runL (stepD d) t u) := by
  intro u
  induction u with
  | nil => intro s t hs ht e _; exact A.fin s t hs ht e
  | cons x u ih => intro s t hs ht e hu; exact ih _ _ (h.step s x) (h.step t x) (cong s t hs ht e x (hu x (by simp))) (fun y hy => hu y (by simp [hy]))
 funext u
 unfold langAt
 by_cases hu : ∀ x ∈ u, x < d.syms.length
 ·rw [lang_of hu, lang_of hu]; exact run u s t hs ht e hu
 ·unfold lang; rw [decide_eq_false hu]; rfl
theorem lang_map {K L : Type} {δ : K → Nat → K} {ε : L → Nat → L} {m : Nat} {f : K → Bool} {g : L → Bool} {φ : K → L} {U : K → Prop} (hc : ∀ k, U k → ∀ c, c < m → U (δ k c)) (hs : ∀ k, U k → ∀ c, c < m → φ (δ k c) = ε (φ k) c) (hf : ∀ k, U k → f k = g (φ k)) {k : K} (hk : U k) :
 lang δ m f k = lang ε m g (φ k) := by
 funext u
 by_cases hu : ∀ x ∈ u, x < m
 ·rw [lang_of hu, lang_of hu]
  have key : ∀ (u : List Nat) k, U k → (∀ x ∈ u, x < m) → U (runL δ k u) ∧ φ (runL δ k u) = runL ε (φ k) u := by
   intro u
   induction u with
   | nil => intro k hk _; exact ⟨hk, rfl⟩
   | cons x u ih =>
     intro k hk hu
     have hx := hu x (by simp)
     obtain ⟨i1, i2⟩ := ih (δ k x) (hc k hk x hx) (fun y hy => hu y (by simp [hy]))
     exact ⟨i1, by rw [show runL δ k (x :: u) = runL δ (δ k x) u from rfl, i2, hs k hk x hx]; rfl⟩
  obtain ⟨k1, k2⟩ := key u k hk hu
  rw [← k2]; exact hf _ k1
 ·unfold lang; rw [decide_eq_false hu]; rfl
structure OneI (d : DF σ) (a one : List Nat) : Prop where
 len : a.length = d.next.length
 alike : ∀ s t, s < d.next.length → t < d.next.length → (at0 a s = at0 a t ↔ langAt d s = langAt d t)
 one : ∀ s, s < d.next.length → at0 one (at0 a s) < d.next.length ∧ at0 a (at0 one (at0 a s)) = at0 a s
def stepC (d : DF σ) (a one : List Nat) (c x : Nat) : Nat := at0 a (stepD d (at0 one c) x)
section
variable {d : DF σ} {a one : List Nat}
theorem OneI.step (I : OneI d a one) (h : OkD d) {s : Nat} (hs : s < d.next.length) {x : Nat} (hx : x < d.syms.length) : at0 a (stepD d s x) = stepC d a one (at0 a s) x := by
 obtain ⟨o1, o2⟩ := I.one s hs
 have e := (I.alike _ _ o1 hs).1 o2
 exact ((I.alike _ _ (h.step _ x) (h.step _ x)).2 (lang_step e hx)).symm
theorem OneI.fin (I : OneI d a one) {s : Nat} (hs : s < d.next.length) : finD d s = finC d one (at0 a s) := by
 obtain ⟨o1, o2⟩ := I.one s hs
 have e := congrFun ((I.alike _ _ o1 hs).1 o2) []
 unfold langAt at e
 rw [lang_nil, lang_nil] at e
 exact e.symm
theorem OneI.lang (I : OneI d a one) (h : OkD d) {s : Nat} (hs : s < d.next.length) : langAt d s = lang (stepC d a one) d.syms.length (finC d one) (at0 a s) :=
 lang_map (U := fun s => s < d.next.length) (φ := at0 a) (fun s _ c _ => h.step s c) (fun _ hs _ hc => I.step h hs hc) (fun _ hs => I.fin hs) hs
theorem OneI.univ (I : OneI d a one) (h : OkD d) : ∀ c, (∃ s, s < d.next.length ∧ c = at0 a s) → ∀ x ∈ fan (stepC d a one) d.syms.length c, ∃ s, s < d.next.length ∧ x = at0 a s := by
 rintro c ⟨s, hs, rfl⟩ x hx
 simp only [fan, List.mem_map, List.mem_range] at hx
 obtain ⟨y, hy, rfl⟩ := hx
 exact ⟨stepD d s y, h.step s y, (I.step h hs hy).symm⟩
theorem OneI.dist (I : OneI d a one) (h : OkD d) {i : Nat} : ∀ x y, x ∈ (tourN (fan (stepC d a one) d.syms.length) (at0 a 0) i).keys → y ∈ (tourN (fan (stepC d a one) d.syms.length) (at0 a 0) i).keys →
 Tour.lang (stepC d a one) d.syms.length (finC d one) x = Tour.lang (stepC d a one) d.syms.length (finC d one) y → x = y := by
 intro x y hx hy e
 have hu := tourN_univ (U := fun c => ∃ s, s < d.next.length ∧ c = at0 a s) (succ := fan (stepC d a one) d.syms.length) (first := at0 a 0) ⟨0, h.pos, rfl⟩ (I.univ h) i
 obtain ⟨s, hs, rfl⟩ := hu x hx
 obtain ⟨t, ht, rfl⟩ := hu y hy
 rw [← I.lang h hs, ← I.lang h ht] at e
 exact (I.alike s t hs ht).2 e
theorem OneI.full (I : OneI d a one) (h : OkD d) : ∃ i, i ≤ d.next.length ∧ Full (fan (stepC d a one) d.syms.length) (at0 a 0) i := by
 obtain ⟨i, h1, h2⟩ := full_ex (U := fun c => ∃ s, s < d.next.length ∧ c = at0 a s) (succ := fan (stepC d a one) d.syms.length) (first := at0 a 0) ⟨0, h.pos, rfl⟩ (I.univ h) (u := a) (by
  rintro _ ⟨s, hs, rfl⟩
  exact List.mem_of_getElem? (at0_some (by rw [I.len]; exact hs)))
 rw [I.len] at h1
 exact ⟨i, h1, h2⟩
end
end Go.Tour
namespace Go.Tour
open Go.Spy
theorem Rising.lt_iff {l : List ByteArray} (h : Rising l) {i j : Nat} {x y : ByteArray} (hx : l[i]? = some x) (hy : l[j]? = some y) : ltB x y = true ↔ i < j := by
 constructor
 ·intro hl
  rcases Nat.lt_trichotomy i j with e | e | e
  ·exact e
  ·subst e; rw [hx] at hy; cases hy; rw [ltB_irr] at hl; cases hl
  ·have := ltB_asymm (h.get e hy hx); rw [this] at hl; cases hl
 ·intro e; exact h.get e hx hy
end Go.Tour
namespace Go.Tour
variable {σ : Type} [DecidableEq σ]
end Go.Tour
namespace Go.Proofs.YtngpjagpeblbjaaGreatDoor
open Go.RowKit Go.Spy Go.Heaped Go.Tour Go.Rx
set_option maxRecDepth 100000 in
set_option maxHeartbeats 1000000 in
theorem dmatch_any {w : World} {v : Value} {D : DA} (hD : DfaW w v D) {x : Value} {l : List ByteArray} (hl : ReadR w 1 strC x l) (hlen : l.length ≤ 1000) : Calls Tryz.prog 26 #[v, x] w fun e w' => e = .returned (.bool (matchD D l)) ∧ Ext w w' := by
 have HD := hid hD
 obtain ⟨⟨vS, vN, vF, us, rfl, hP⟩, hB, W⟩ := hD
 have hc := hid (dcheck_any (hP.ext_box (.cells #[vS, vN, vF] 26)) hB)
 obtain ⟨aoS, cS, rfl, hS⟩ := hP.syms.form
 obtain ⟨aoN, cN, rfl, hN⟩ := hP.next.form
 obtain ⟨aoF, cF, rfl, hF⟩ := hP.fin.form
 obtain ⟨aoL, cL, rfl, hL⟩ := hl.form
 have HE := well_check W
 rw [HE] at hc
 obtain ⟨n, hn⟩ : ∃ n, n = l.length := ⟨_, rfl⟩
 have HL := hid hl
 have HLF := hid hL
 rw [← hn] at HL HLF hlen ⊢
 obtain ⟨k, hk⟩ : ∃ k, k = D.raw.fin.length := ⟨_, rfl⟩
 have hbk : k ≤ 1000 := hk ▸ hB.f
 have hkn : k = D.next.length := by rw [hk]; exact W.ok.fin
 have HP := hid hP
 rw [← hk] at hc HD HP ⊢ hF
 have HFF := hid hF
 have HW := hid W
 have HNN := hid hn
 have HK := hid hkn
 have HX : Hid (Ext w (w.alloc (.cells #[.slice aoS D.raw.syms.length cS, .slice aoN us.length cN, .slice aoF k cF] 26))) := hid ((Below.refl _ _).alloc (Nat.le_refl _) _)
 clear hP hB W hl hn hk hkn HE hS hN hF hL
 go_enter Tryz.func26, Tryz.ntmps26
 go_wp2_with fail
 refine hc.out.mono ?_
 rintro e w2 ⟨rfl, hx⟩
 have HX2 := hid (HX.out.trans (hx.mono HX.out.size))
 have HB2 := hid ((Blk.new w 26 #[.slice aoS D.raw.syms.length cS, .slice aoN us.length cN, .slice aoF k cF]).ext hx)
 clear hx
 go_wp2_with fail
 go_loopg [5, 13] n (fun g u v wr => ∃ j s, g = n - j ∧ j ≤ n ∧ s < k ∧ u = .int .i64 (s : Nat) ∧ v = .int .i64 j ∧ Hid (Ext w wr ∧ Blk wr w.heap.size 26 #[.slice aoS D.raw.syms.length cS, .slice aoN us.length cN, .slice aoF k cF]) ∧ Hid (runS D 0 (l.take j) = (s : Nat)))
 case atStart => exact ⟨0, 0, rfl, Nat.zero_le _, by rw [HK.out]; exact HW.out.ok.pos, rfl, rfl, hid ⟨HX2.out, HB2.out⟩, hid rfl⟩
 case round =>
  obtain ⟨j, s, rfl, hj, hs, rfl, rfl, HY, HR⟩ := hrel
  have b0 : wr.cell? ⟨w.heap.size, 0, none⟩ = some (.slice aoS D.raw.syms.length cS) := HY.out.2.cell rfl
  have b1 : wr.cell? ⟨w.heap.size, 1, none⟩ = some (.slice aoN us.length cN) := HY.out.2.cell rfl
  have b2 : wr.cell? ⟨w.heap.size, 2, none⟩ = some (.slice aoF k cF) := HY.out.2.cell rfl
  by_cases hlt : j < n
  ·obtain ⟨g, off, rfl⟩ := HLF.out (by omega)
   obtain ⟨y, hy⟩ : ∃ y, l[j]? = some y := ⟨_, List.getElem?_eq_getElem (by rw [← HNN.out]; omega)⟩
   have c1 : wr.cell? ⟨g, off + j, none⟩ = some (.string y) := (HL.out.ext HY.out.1).cell1 hy
   have HT : Hid (runS D 0 (l.take (j + 1)) = goS D (s : Nat) y) := hid (by
    have h1 := (List.getElem?_eq_some_iff.1 hy)
    obtain ⟨h2, h3⟩ := h1
    rw [List.take_succ_eq_append_getElem h2, h3]
    unfold runS at *
    rw [List.foldl_append, HR.out]; rfl)
   have HYY := hid hy
   clear hy
   go_wp2_with fail
   go_at_call 89
   refine (goes_any (HD.out.ext HY.out.1) (s : Nat) (by rw [← HK.out]; omega) y).mono ?_
   rintro e w3 ⟨rfl, hx⟩
   have HX3 := hid (HY.out.1.trans (hx.mono HY.out.1.size))
   have HB3 := hid (HY.out.2.ext hx)
   clear hx
   have hb1 := (goS_lt HW.out.ok (s : Nat) y).2
   rw [← HK.out] at hb1
   obtain ⟨q, hq⟩ : ∃ q, q = goS D (s : Nat) y := ⟨_, rfl⟩
   rw [← hq] at hb1 HT ⊢
   clear hq
   by_cases hq0 : q < 0
   ·have d0 : decide (q < 0) = true := decide_eq_true hq0
    go_wp2_with fail
    go_ret
    refine ⟨ret_bool ?_, HX3.out⟩
    have h1 : runS D 0 l < 0 := by
     rw [← List.take_append_drop (j + 1) l]
     unfold runS
     rw [List.foldl_append]
     exact runS_none _ (by have := HT.out; unfold runS at this; rw [this]; exact hq0)
    unfold matchD finS
    rw [decide_eq_false (by omega)]; rfl
   ·have d0 : decide (q < 0) = false := decide_eq_false hq0
    obtain ⟨t, rfl⟩ : ∃ t : Nat, q = (t : Int) := ⟨q.toNat, by omega⟩
    go_wp2_with fail
    go_roundg (n - (j + 1))
    case measure => omega
    case rel => exact ⟨j + 1, t, rfl, by omega, by omega, rfl, by go_num, hid ⟨HX3.out, HB3.out⟩, HT⟩
  ·obtain ⟨g, off, rfl⟩ := HFF.out (by omega)
   have c1 : wr.cell? ⟨g, off + s, none⟩ = some (.bool (finD D s)) := (HP.out.ext HY.out.1).fin.cell1 (HW.out.ok.finAt (by rw [← HK.out]; omega))
   go_wp2_with fail
   go_ret
   refine ⟨ret_bool ?_, HY.out.1⟩
   have h1 := HR.out
   rw [List.take_of_length_le (by rw [← HNN.out]; omega)] at h1
   unfold matchD finS
   rw [h1]; simp
end Go.Proofs.YtngpjagpeblbjaaGreatDoor
namespace Go.Spy
open Go.RowKit
section
variable {P : Program} {md : Region.Mode} {w : World} {S : World → Prop} {Q : Exit → Act → World → Prop}
end
end Go.Spy
namespace Go.Proofs.YtngpjagpeblbjaaGreatDoor
open Go.RowKit Go.Spy Go.Heaped Go.Tour Go.Rx
theorem clone_int {w : World} {v : Value} {l : List Int} (h : ReadR w 1 intZ v l) (hl : l.length ≤ 100000) : Calls Tryz.prog 43 #[v] w (ClonePost 3 intZ l w) := by
 obtain ⟨ao, c, rfl, hao⟩ := h.form
 cases ao with
 | none =>
   have h0 : l = [] := by
    rcases Nat.eq_zero_or_pos l.length with e | e
    ·exact List.eq_nil_of_length_eq_zero e
    ·obtain ⟨_, _, e2⟩ := hao e; cases e2
   subst h0
   refine (Tryz.slices_Clone_int_nil 0 c w).mono ?_
   rintro e w' ⟨rfl, rfl⟩
   exact ⟨Below.refl _ _, _, rfl, OwnR.nil _ _ _ _ _⟩
 | some a =>
   rcases Nat.eq_zero_or_pos l.length with e0 | e0
   ·obtain rfl := List.eq_nil_of_length_eq_zero e0
    refine (Tryz.slices_Clone_int_zero a c w).mono ?_
    rintro e w' ⟨v', rfl, h1, _, h3⟩
    exact ⟨h3, v', rfl, h1⟩
   ·obtain ⟨g, off, e2⟩ := hao e0
    cases e2
    refine (Tryz.slices_Clone_int g off l.length c l w (Nat.le_refl _) (by omega) (fun j hj => by
     have := h.cell1 (j := j) (x := l[j]) (List.getElem?_eq_getElem hj)
     rw [this]
     simp [intZ, List.getD, hj])).mono ?_
    rintro e w' ⟨v', rfl, h1, _, h3⟩
    refine ⟨h3, v', rfl, ?_⟩
    unfold OwnR
    rw [flat_single (Value.int .i64) intZ (fun _ => rfl)]
    rw [List.take_length] at h1
    exact h1
end Go.Proofs.YtngpjagpeblbjaaGreatDoor
namespace Go.Proofs.YtngpjagpeblbjaaGreatDoor
open Go.RowKit Go.Spy Go.Heaped Go.Tour Go.Rx
def check2E (d e : DR) : Nat := if checkE nameOk d = 0 then checkE nameOk e else checkE nameOk d
set_option maxRecDepth 100000 in
set_option maxHeartbeats 1000000 in
theorem checked_any {w : World} {va vb : Value} {da db : DR} (hA : DfaV w va da) (hBA : BndD da) (hB : DfaV w vb db) (hBB : BndD db) : Calls Tryz.prog 44 #[va, vb] w (ErrP (check2E da db) w) := by
 obtain ⟨vS, vN, vF, us, rfl, hP⟩ := hA
 obtain ⟨vS2, vN2, vF2, us2, rfl, hP2⟩ := hB
 have HC1 : Hid (∀ W, Ext w W → Calls Tryz.prog 11 #[.agg #[vS, vN, vF]] W (ErrP (checkE nameOk da) W)) := hid fun W e => dcheck_any (hP.ext e) hBA
 have HC2 : Hid (∀ W, Ext w W → Calls Tryz.prog 11 #[.agg #[vS2, vN2, vF2]] W (ErrP (checkE nameOk db) W)) := hid fun W e => dcheck_any (hP2.ext e) hBB
 obtain ⟨aoS, cS, rfl, hS⟩ := hP.syms.form
 obtain ⟨aoN, cN, rfl, hN⟩ := hP.next.form
 obtain ⟨aoF, cF, rfl, hF⟩ := hP.fin.form
 obtain ⟨aoS2, cS2, rfl, hS2⟩ := hP2.syms.form
 obtain ⟨aoN2, cN2, rfl, hN2⟩ := hP2.next.form
 obtain ⟨aoF2, cF2, rfl, hF2⟩ := hP2.fin.form
 obtain ⟨n1, hn1⟩ : ∃ n, n = da.syms.length := ⟨_, rfl⟩
 obtain ⟨n2, hn2⟩ : ∃ n, n = us.length := ⟨_, rfl⟩
 obtain ⟨n3, hn3⟩ : ∃ n, n = da.fin.length := ⟨_, rfl⟩
 obtain ⟨m1, hm1⟩ : ∃ n, n = db.syms.length := ⟨_, rfl⟩
 obtain ⟨m2, hm2⟩ : ∃ n, n = us2.length := ⟨_, rfl⟩
 obtain ⟨m3, hm3⟩ : ∃ n, n = db.fin.length := ⟨_, rfl⟩
 rw [← hn1, ← hn2, ← hn3] at HC1 ⊢
 rw [← hm1, ← hm2, ← hm3] at HC2 ⊢
 have HA0 : Hid (Ext w ((w.alloc (.cells #[.slice aoS n1 cS, .slice aoN n2 cN, .slice aoF n3 cF] 26)).alloc (.cells #[.slice aoS2 m1 cS2, .slice aoN2 m2 cN2, .slice aoF2 m3 cF2] 26))) := hid (((Below.refl _ _).alloc (Nat.le_refl _) _).alloc (by simp) _)
 have HB0 : Hid (Blk ((w.alloc (.cells #[.slice aoS n1 cS, .slice aoN n2 cN, .slice aoF n3 cF] 26)).alloc (.cells #[.slice aoS2 m1 cS2, .slice aoN2 m2 cN2, .slice aoF2 m3 cF2] 26)) (w.heap.size + 1) 26 #[.slice aoS2 m1 cS2, .slice aoN2 m2 cN2, .slice aoF2 m3 cF2]) := hid (Blk.new' _ _ _ (by simp))
 obtain ⟨V, hV⟩ : ∃ V, V = check2E da db := ⟨_, rfl⟩
 rw [← hV]
 unfold check2E at hV
 obtain ⟨E, hE⟩ : ∃ E, E = checkE nameOk da := ⟨_, rfl⟩
 obtain ⟨E2, hE2⟩ : ∃ E, E = checkE nameOk db := ⟨_, rfl⟩
 rw [← hE] at HC1
 rw [← hE2] at HC2
 rw [← hE, ← hE2] at hV
 have HV := hid hV
 clear hV hP hP2 hBA hBB hS hN hF hS2 hN2 hF2 hn1 hn2 hn3 hm1 hm2 hm3 hE hE2
 go_enter Tryz.func44, Tryz.ntmps44
 go_wp2_with fail
 refine (HC1.out _ HA0.out).mono ?_
 rintro e w2 ⟨rfl, hx⟩
 have HX2 := hid (HA0.out.trans (hx.mono HA0.out.size))
 have hb := HB0.out.ext hx
 have c0 : w2.cell? ⟨w.heap.size + 1, 0, none⟩ = some (.slice aoS2 m1 cS2) := hb.cell (i := 0) rfl
 have c1 : w2.cell? ⟨w.heap.size + 1, 1, none⟩ = some (.slice aoN2 m2 cN2) := hb.cell (i := 1) rfl
 have c2 : w2.cell? ⟨w.heap.size + 1, 2, none⟩ = some (.slice aoF2 m3 cF2) := hb.cell (i := 2) rfl
 have lb := hb.lt
 clear hx hb
 by_cases h0 : E = 0
 ·have d0 : (((E : Nat) : Int) != 0) = false := by simp [h0]
  have HE := hid h0
  clear h0
  go_wp2_with fail
  refine (HC2.out _ HX2.out).mono ?_
  rintro e w3 ⟨rfl, hx⟩
  have HX3 := hid (HX2.out.trans (hx.mono HX2.out.size))
  clear hx
  go_wp2_with fail
  go_ret
  rw [show V = E2 from HV.out.trans (if_pos HE.out)]
  exact ⟨rfl, HX3.out⟩
 ·have d0 : (((E : Nat) : Int) != 0) = true := by simp [h0]
  have HE := hid h0
  clear h0
  go_wp2_with fail
  go_ret
  rw [show V = E from HV.out.trans (if_neg HE.out)]
  exact ⟨rfl, HX2.out⟩
end Go.Proofs.YtngpjagpeblbjaaGreatDoor
namespace Go.Proofs.YtngpjagpeblbjaaGreatDoor
open Go.RowKit Go.Spy Go.Heaped Go.Tour Go.Rx
def notD (D : DA) : DA := ⟨D.syms, D.next, D.fin.map (!·)⟩
theorem notD_well {D : DA} (W : WellD nameOk D) : WellD nameOk (notD D) := ⟨⟨W.ok.pos, by simp [notD, W.ok.fin], W.ok.row, W.ok.goes⟩, W.most, W.names, W.rising⟩
theorem notD_bnd {D : DA} (B : BndD D.raw) : BndD (notD D).raw := ⟨B.s, B.n, by have := B.f; simpa [notD, DF.raw] using this, B.r, B.b⟩
structure NotW (w wr : World) (b5 : Nat) (vO : Array Value) (vS vN vF : Value) (us : List Value) (syms : List ByteArray) (rows : List (List Int)) (fin : List Bool) : Prop where
 ext : Ext w wr
 box : Blk wr w.heap.size 26 vO
 res : Blk wr (w.heap.size + 1) 26 #[.slice none 0 0, .slice none 0 0, .slice none 0 0]
 dfa : Blk wr b5 26 #[vS, vN, vF]
 syms : OwnR wr w.heap.size 9 1 strC vS syms
 next : OwnR wr w.heap.size 46 1 oneA vN us
 len : us.length = rows.length
 rows : ∀ (i : Nat) (u : Value) (r : List Int), us[i]? = some u → rows[i]? = some r → OwnR wr w.heap.size 3 1 intZ u r
 fin : OwnR wr w.heap.size 4 1 boolC vF fin
 lt : w.heap.size + 1 < b5
section
variable {w wr : World} {b5 : Nat} {vO : Array Value} {vS vN vF : Value} {us : List Value} {syms : List ByteArray} {rows : List (List Int)} {fin : List Bool}
theorem NotW.ext' {wy : World} (h : NotW w wr b5 vO vS vN vF us syms rows fin) (e : Ext wr wy) : NotW w wy b5 vO vS vN vF us syms rows fin :=
 ⟨h.ext.trans (e.mono h.ext.size), h.box.ext e, h.res.ext e, h.dfa.ext e, h.syms.ext e, h.next.ext e, h.len, fun i u r hu hr => (h.rows i u r hu hr).ext e, h.fin.ext e, h.lt⟩
theorem own_ne {α β : Type} {W : World} {N M e e' s s' : Nat} {f : α → Array Value} {g : β → Array Value} {v u : Value} {l : List α} {m : List β} (h : OwnR W N e s f v l) (k : OwnR W M e' s' g u m) (hne : e ≠ e') : ∀ q, v.ownBlock = some q → ¬ u.ownBlock = some q := fun q h1 h2 => by
 obtain ⟨_, hb⟩ := own_block h h1
 obtain ⟨_, hc⟩ := own_block k h2
 exact ne_of_blk hb hc hne rfl
theorem NotW.appN {w6 : World} (h : NotW w wr b5 vO vS vN vF us syms rows fin) {g c : Nat} {u v' : Value} {r : List Int} (hu : OwnR wr w.heap.size 3 1 intZ u r) (hv : v' = .slice (some ⟨g, 0, none⟩) (us.length + 1) c)
 (hO : OwnR w6 w.heap.size 46 1 oneA v' (us ++ [u])) (hg : wr.grownBy w6 vN.ownBlock) (hl : vN.ownBlock = some g ∨ wr.heap.size ≤ g) :
 Blk w6 b5 26 #[vS, vN, vF] ∧ NotW w (w6.setCell ⟨b5, 1, none⟩ v') b5 vO vS v' vF (us ++ [u]) syms (rows ++ [r]) fin := by
 have hvo : v'.ownBlock = some g := by rw [hv]; rfl
 have c6 : Chg (fun k => vN.ownBlock = some k) wr w6 := (Chg.refl _ wr).grown hg (fun k e => e)
 have h7 := h.dfa.chg c6 (own_blk_ne h.next h.dfa (by decide))
 have hlt := h.lt
 have c7 : Chg (fun k => k = b5) w6 (w6.setCell ⟨b5, 1, none⟩ v') := Chg.setCell (S := fun k => k = b5) (p := ⟨b5, 1, none⟩) (Chg.refl _ w6) rfl v'
 have d6 : Chg (fun k => w.heap.size ≤ k) wr w6 := c6.mono fun k _ e => (h.next.lt k e).1
 have d7 : Chg (fun k => w.heap.size ≤ k) w6 (w6.setCell ⟨b5, 1, none⟩ v') := c7.mono fun k _ e => by omega
 have n3 : ∀ {u r}, OwnR wr w.heap.size 3 1 intZ u r → OwnR (w6.setCell ⟨b5, 1, none⟩ v') w.heap.size 3 1 intZ u r := fun k =>
  (k.chg c6 (own_ne k h.next (by decide))).chg c7 fun q e e' => by subst e'; exact own_blk_ne (k.chg c6 (own_ne k h.next (by decide))) h7 (by decide) e
 refine ⟨h7, ⟨h.ext.trans ((d6.trans d7).below h.ext.size (fun k e => e)), (h.box.chg c6 (own_blk_ne h.next h.box (by decide))).chg c7 (by omega), (h.res.chg c6 (own_blk_ne h.next h.res (by decide))).chg c7 (by omega), h7.set 1 _, ?_, ?_, by simp [h.len], ?_, ?_, hlt⟩⟩
 ·refine (h.syms.chg c6 (own_ne h.syms h.next (by decide))).chg c7 fun q e e' => ?_
  subst e'; exact own_blk_ne h.syms h.dfa (by decide) e
 ·refine hO.chg c7 fun q e e' => ?_
  rw [hvo] at e
  have hgk : g = q := by simpa using e
  subst hgk
  rcases hl with e2 | e2
  ·exact own_blk_ne h.next h.dfa (by decide) (e2.trans (by rw [e']))
  ·have := h.dfa.lt; omega
 ·intro i u' r' hu' hr'
  rcases Nat.lt_or_ge i us.length with e | e
  ·rw [List.getElem?_append_left e] at hu'
   rw [List.getElem?_append_left (by rw [← h.len]; exact e)] at hr'
   exact n3 (h.rows i u' r' hu' hr')
  ·have hi : i = us.length := by
    have := (List.getElem?_eq_some_iff.1 hu').1
    simp at this; omega
   subst hi
   rw [List.getElem?_append_right (Nat.le_refl _), Nat.sub_self] at hu'
   rw [h.len, List.getElem?_append_right (Nat.le_refl _), Nat.sub_self] at hr'
   simp only [List.getElem?_cons_zero, Option.some.injEq] at hu' hr'
   subst hu'; subst hr'
   exact n3 hu
 ·refine (h.fin.chg c6 (own_ne h.fin h.next (by decide))).chg c7 fun q e e' => ?_
  subst e'; exact own_blk_ne h.fin h.dfa (by decide) e
theorem NotW.appF {w6 : World} (h : NotW w wr b5 vO vS vN vF us syms rows fin) {g c : Nat} {b : Bool} {v' : Value} (hv : v' = .slice (some ⟨g, 0, none⟩) (fin.length + 1) c)
 (hO : OwnR w6 w.heap.size 4 1 boolC v' (fin ++ [b])) (hg : wr.grownBy w6 vF.ownBlock) (hl : vF.ownBlock = some g ∨ wr.heap.size ≤ g) :
 Blk w6 b5 26 #[vS, vN, vF] ∧ NotW w (w6.setCell ⟨b5, 2, none⟩ v') b5 vO vS vN v' us syms rows (fin ++ [b]) := by
 have hvo : v'.ownBlock = some g := by rw [hv]; rfl
 have c6 : Chg (fun k => vF.ownBlock = some k) wr w6 := (Chg.refl _ wr).grown hg (fun k e => e)
 have h7 := h.dfa.chg c6 (own_blk_ne h.fin h.dfa (by decide))
 have hlt := h.lt
 have c7 : Chg (fun k => k = b5) w6 (w6.setCell ⟨b5, 2, none⟩ v') := Chg.setCell (S := fun k => k = b5) (p := ⟨b5, 2, none⟩) (Chg.refl _ w6) rfl v'
 have d6 : Chg (fun k => w.heap.size ≤ k) wr w6 := c6.mono fun k _ e => (h.fin.lt k e).1
 have d7 : Chg (fun k => w.heap.size ≤ k) w6 (w6.setCell ⟨b5, 2, none⟩ v') := c7.mono fun k _ e => by omega
 refine ⟨h7, ⟨h.ext.trans ((d6.trans d7).below h.ext.size (fun k e => e)), (h.box.chg c6 (own_blk_ne h.fin h.box (by decide))).chg c7 (by omega), (h.res.chg c6 (own_blk_ne h.fin h.res (by decide))).chg c7 (by omega), h7.set 2 _, ?_, ?_, h.len, ?_, ?_, hlt⟩⟩
 ·refine (h.syms.chg c6 (own_ne h.syms h.fin (by decide))).chg c7 fun q e e' => ?_
  subst e'; exact own_blk_ne h.syms h.dfa (by decide) e
 ·refine (h.next.chg c6 (own_ne h.next h.fin (by decide))).chg c7 fun q e e' => ?_
  subst e'; exact own_blk_ne h.next h.dfa (by decide) e
 ·intro i u r hu hr
  have k := h.rows i u r hu hr
  refine (k.chg c6 (own_ne k h.fin (by decide))).chg c7 fun q e e' => ?_
  subst e'; exact own_blk_ne k h.dfa (by decide) e
 ·refine hO.chg c7 fun q e e' => ?_
  rw [hvo] at e
  have hgk : g = q := by simpa using e
  subst hgk
  rcases hl with e2 | e2
  ·exact own_blk_ne h.fin h.dfa (by decide) (e2.trans (by rw [e']))
  ·have := h.dfa.lt; omega
end
end Go.Proofs.YtngpjagpeblbjaaGreatDoor
namespace Go.Proofs.YtngpjagpeblbjaaGreatDoor
open Go.RowKit Go.Spy Go.Heaped Go.Tour Go.Rx
abbrev nilD : Value := .agg #[.slice none 0 0, .slice none 0 0, .slice none 0 0]
def MakeBad (c : Int) (w : World) (e : Ending) (w' : World) : Prop := e = .returned (.tuple #[nilD, .int .i64 c]) ∧ Ext w w'
set_option maxRecDepth 100000 in
set_option maxHeartbeats 2000000 in
theorem make_ill {w : World} {l : List Nd} {ao : Option Addr} {cap : Nat} (hV : NodesV w ao l) {c : Int} (hC : CheckC l c) (h0 : c ≠ 0) {vM : Value} {more : List ByteArray} (hM : ReadR w 1 strC vM more) :
 Calls Tryz.prog 22 #[.agg #[.slice ao l.length cap], vM] w (MakeBad c w) := by
 obtain ⟨aoM, cM, rfl, -⟩ := hM.form
 have HCK : Hid (∀ W, Ext w W → Calls Tryz.prog 65 #[.agg #[.slice ao l.length cap]] W fun e w' => e = .returned (.int .i64 c) ∧ Ext W w') := hid fun W e => (check_any (hV.ext e) cap).mono fun e w' ⟨c', h1, h2, h3⟩ => by
  rw [checkC_one h2 hC] at h1
  exact ⟨h1, h3⟩
 have d0 : (c != 0) = true := by simp [h0]
 obtain ⟨ln, hln⟩ : ∃ n, n = l.length := ⟨_, rfl⟩
 rw [← hln] at HCK ⊢
 obtain ⟨mn, hmn⟩ : ∃ n, n = more.length := ⟨_, rfl⟩
 rw [← hmn]
 clear hV hC hM hln hmn
 go_enter Tryz.func22, Tryz.ntmps22
 go_wp2_with fail
 refine (HCK.out _ (((Below.refl _ _).alloc (Nat.le_refl _) _).alloc (by simp) _)).mono ?_
 rintro e w2 ⟨rfl, hx⟩
 have hE0 : Ext w ((w.alloc (.cells #[.slice ao ln cap] 45)).alloc (.cells #[.slice none 0 0, .slice none 0 0, .slice none 0 0] 26)) := ((Below.refl _ _).alloc (Nat.le_refl _) _).alloc (by simp) _
 have HX2 := hid (hE0.trans (hx.mono hE0.size))
 have hS2 : Blk w2 (w.heap.size + 1) 26 #[.slice none 0 0, .slice none 0 0, .slice none 0 0] := (Blk.new' (w.alloc (.cells #[.slice ao ln cap] 45)) 26 _ (by simp)).ext hx
 have r0 : w2.cell? ⟨w.heap.size + 1, 0, none⟩ = some (.slice none 0 0) := hS2.cell (i := 0) rfl
 have r1 : w2.cell? ⟨w.heap.size + 1, 1, none⟩ = some (.slice none 0 0) := hS2.cell (i := 1) rfl
 have r2 : w2.cell? ⟨w.heap.size + 1, 2, none⟩ = some (.slice none 0 0) := hS2.cell (i := 2) rfl
 have rf := hS2.frozen
 have rl := hS2.lt
 have HS2 := hid hS2
 clear hx hE0 hS2
 go_wp2_with fail
 have h3 : Blk (((w2.setCell ⟨w.heap.size + 1, 0, none⟩ (.slice none 0 0)).setCell ⟨w.heap.size + 1, 1, none⟩ (.slice none 0 0)).setCell ⟨w.heap.size + 1, 2, none⟩ (.slice none 0 0)) (w.heap.size + 1) 26 #[.slice none 0 0, .slice none 0 0, .slice none 0 0] := ((HS2.out.set 0 _).set 1 _).set 2 _
 refine bodyPost_ret (v := .tuple #[nilD, .int .i64 c]) (results_cell_agg_tmp Tryz.results22 _ _ (w.heap.size + 1) 26 #[.slice none 0 0, .slice none 0 0, .slice none 0 0] _ _ rfl rfl h3 Tryz.underlying26 rfl (by kernel_rfl)) rfl ?_
 have cc : Chg (fun k => w.heap.size ≤ k) w2 (((w2.setCell ⟨w.heap.size + 1, 0, none⟩ (.slice none 0 0)).setCell ⟨w.heap.size + 1, 1, none⟩ (.slice none 0 0)).setCell ⟨w.heap.size + 1, 2, none⟩ (.slice none 0 0)) :=
  Chg.mono (S := fun k => k = w.heap.size + 1) (Chg.setCell (p := ⟨w.heap.size + 1, 2, none⟩) (S := fun k => k = w.heap.size + 1) (Chg.setCell (p := ⟨w.heap.size + 1, 1, none⟩) (S := fun k => k = w.heap.size + 1) (Chg.setCell (p := ⟨w.heap.size + 1, 0, none⟩) (S := fun k => k = w.heap.size + 1) (Chg.refl _ w2) rfl (.slice none 0 0)) rfl (.slice none 0 0)) rfl (.slice none 0 0)) fun k _ e => by omega
 exact ⟨rfl, HX2.out.trans (cc.below HX2.out.size (fun k e => e))⟩
end Go.Proofs.YtngpjagpeblbjaaGreatDoor
