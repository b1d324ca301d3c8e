/-
  What calls answer, in the form in which the laws' walks take it.
  Plain law of Make: its automaton matches what the expression matches.
  What Make, Symbols and Match answer, in the form in which the walk of DfaHolds takes it.
  What the automata of two expressions answer: the facts that the walk of DfaHolds takes.
  What the laid table gives, and how an argument that is a regular expression, or a row of words, is opened.
  The cells of a block of three, and of one.
-/
import Derived.Test.YtngpjagpeblbjaaGreatDoorB08
import Derived.Test.YtngpjagpeblbjaaGreatDoorB09
import Derived.Test.YtngpjagpeblbjaaGreatDoorB03
import Derived.Test.YtngpjagpeblbjaaGreatDoorB02
import Derived.Test.YtngpjagpeblbjaaGreatDoorRows
import Derived.ProofKit
import Derived.LaidMore
import Derived.OpenShut
import Derived.Stop.Joined
import Derived.Lib.SmallJoins
import Derived.Deep.SlicePairs
import Derived.Deep.AppendLies
import Derived.BigRegion
import Derived.Deep.Draws
import Derived.Laws.ResultCell
import Derived.Laws.CopyRow
import Derived.Laws.OwnMore
import Derived.Test.YtngpjagpeblbjaaGreatDoorB01
namespace Go.Proofs.YtngpjagpeblbjaaGreatDoor
open Go.RowKit Go.Spy Go.Heaped Go.Tour Go.Rx
theorem DfaV.symsR {w : World} {aoS aoN aoF : Option Addr} {n1 n2 n3 cS cN cF : Nat} {d : DR} (h : DfaV w (.agg #[.slice aoS n1 cS, .slice aoN n2 cN, .slice aoF n3 cF]) d) : ReadR w 1 strC (.slice aoS n1 cS) d.syms := by
 obtain ⟨vS, vN, vF, us, e, hP⟩ := h
 simp only [Value.agg.injEq, Array.mk.injEq, List.cons.injEq, and_true] at e
 obtain ⟨rfl, rfl, rfl⟩ := e
 exact hP.syms
section
variable {A B D : DA}
theorem not_in {w : World} {x : Array Value} (hA : DfaW w (.agg x) A) : Calls Tryz.prog 14 #[.agg x] w fun e w' => ∃ aoS n1 cS aoN n2 cN aoF n3 cF, e = .returned (.tuple #[.agg #[.slice aoS n1 cS, .slice aoN n2 cN, .slice aoF n3 cF], .int .i64 0]) ∧ DfaW w' (.agg #[.slice aoS n1 cS, .slice aoN n2 cN, .slice aoF n3 cF]) (notD A) ∧ Ext w w' := by
 refine (not_any hA).mono ?_
 rintro e w' ⟨v, rfl, hN, hx⟩
 have hv := hN.at_
 obtain ⟨vS, vN, vF, us, rfl, _⟩ := hv
 obtain ⟨aoS, n1, cS, aoN, n2, cN, aoF, n3, cF, h⟩ := hN.open_
 exact ⟨aoS, n1, cS, aoN, n2, cN, aoF, n3, cF, by rw [h], by rw [← h]; exact hN, hx⟩
theorem DfaV.open_ {w : World} {v : Value} {d : DR} (h : DfaV w v d) : ∃ aoS n1 cS aoN n2 cN aoF n3 cF, v = .agg #[.slice aoS n1 cS, .slice aoN n2 cN, .slice aoF n3 cF] := by
 obtain ⟨vS, vN, vF, us, rfl, hP⟩ := h
 obtain ⟨aoS, cS, rfl, -⟩ := hP.syms.form
 obtain ⟨aoN, cN, rfl, -⟩ := hP.next.form
 obtain ⟨aoF, cF, rfl, -⟩ := hP.fin.form
 exact ⟨_, _, _, _, _, _, _, _, _, rfl⟩
theorem small_in {w : World} {x : Array Value} (hA : DfaW w (.agg x) A) : Calls Tryz.prog 18 #[.agg x] w fun e w' => ∃ aoS n1 cS aoN n2 cN aoF n3 cF S, e = .returned (.tuple #[.agg #[.slice aoS n1 cS, .slice aoN n2 cN, .slice aoF n3 cF], .int .i64 0]) ∧ MinD A S ∧ DfaV w' (.agg #[.slice aoS n1 cS, .slice aoN n2 cN, .slice aoF n3 cF]) S.raw ∧ Ext w w' := by
 refine (dsmall_any hA).mono ?_
 rintro e w' ⟨hx, v, S, rfl, hm, hv⟩
 obtain ⟨aoS, n1, cS, aoN, n2, cN, aoF, n3, cF, rfl⟩ := hv.open_
 exact ⟨aoS, n1, cS, aoN, n2, cN, aoF, n3, cF, S, rfl, hm, hv, hx⟩
end
end Go.Proofs.YtngpjagpeblbjaaGreatDoor
namespace Go.Proofs.YtngpjagpeblbjaaGreatDoor
open Go.RowKit Go.Spy Go.Heaped Go.Tour Go.Rx
section
variable {l : List Nd}
theorem pos_sym (F : Rx.Form l) {i p : Nat} (h : p ∈ posT (tr l i)) : ∃ n, l[p]? = some n ∧ n.op = 2 := by
 induction i using Nat.strongRecOn with
 | _ i ih =>
 cases hn : l[i]? with
 | none => rw [tr, hn] at h; cases h
 | some n =>
   cases F.kind hn with
   | none ho => rw [tr_none hn ho] at h; cases h
   | empty ho => rw [tr_empty hn ho] at h; cases h
   | sym ho =>
     rw [tr_sym hn ho] at h
     simp only [posT, List.mem_cons, List.not_mem_nil, or_false] at h
     subst h; exact ⟨n, hn, ho⟩
   | cat ho s x y a b hx hy =>
     rw [tr_cat hn ho a b hx hy] at h
     simp only [posT, List.mem_append] at h
     rcases h with h | h
     ·exact ih x hx h
     ·exact ih y hy h
   | alt ho s x y a b hx hy =>
     rw [tr_alt hn ho a b hx hy] at h
     simp only [posT, List.mem_append] at h
     rcases h with h | h
     ·exact ih x hx h
     ·exact ih y hy h
   | star ho s x a b hx =>
     rw [tr_star hn ho a hx] at h
     exact ih x hx h
theorem comeT_snoc {σ : Type} (t : RT σ) (sy : Nat → σ) (x : σ) : ∀ (ws : List σ) (come : Nat → Prop) (q : Nat), comeT t sy come (ws ++ [x]) q ↔ ∃ p, comeT t sy come ws p ∧ sy p = x ∧ pairsT t p q = true
 | [], _, _ => Iff.rfl
 | _ :: ws, _, q => comeT_snoc t sy x ws _ q
def rootT (l : List Nd) : RT ByteArray := tr l (l.length - 1)
theorem bit_fold (ps : List Nat) (f : Nat → Nat) (m j : Nat) : (ps.foldl (fun m p => m ||| f p) m).testBit j = true ↔ m.testBit j = true ∨ ∃ p, p ∈ ps ∧ (f p).testBit j = true := by
 induction ps generalizing m with
 | nil => simp
 | cons p ps ih =>
   rw [List.foldl_cons, ih, Nat.testBit_or, Bool.or_eq_true]
   constructor
   ·rintro ((h | h) | ⟨q, h1, h2⟩)
    ·exact .inl h
    ·exact .inr ⟨p, by simp, h⟩
    ·exact .inr ⟨q, by simp [h1], h2⟩
   ·rintro (h | ⟨q, h1, h2⟩)
    ·exact .inl (.inl h)
    ·rcases List.mem_cons.1 h1 with rfl | h1
     ·exact .inl (.inr h2)
     ·exact .inr ⟨q, h1, h2⟩
theorem bit_ofM (x : ByteArray) (q : Nat) : (ofM l x).testBit q = true ↔ ∃ n, l[q]? = some n ∧ n.op = 2 ∧ n.sym = x := by
 unfold ofM
 rw [bit_maskOf, Bool.and_eq_true]
 constructor
 ·rintro ⟨h1, h2⟩
  cases hn : l[q]? with
  | none => rw [hn] at h2; cases h2
  | some n =>
    rw [hn] at h2
    simp only [Bool.and_eq_true, decide_eq_true_eq] at h2
    exact ⟨n, rfl, h2.1, bytes_ext h2.2⟩
 ·rintro ⟨n, h1, h2, rfl⟩
  refine ⟨decide_eq_true (List.getElem?_eq_some_iff.1 h1).1, ?_⟩
  rw [h1]
  simp [h2]
theorem symAt_nd {q : Nat} {n : Nd} (h : l[q]? = some n) : Rx.symAt l q = n.sym := by
 unfold Rx.symAt
 rw [h]; rfl
theorem comeS_bit (F : Rx.Form l) (hl : l.length ≤ 64) {syms : List ByteArray} : ∀ (n : Nat) (u : List Nat), u.length = n → (∀ c ∈ u, c < syms.length) → ∀ q, (comeS l (runL (stepS l syms) startS u)).testBit q = true ↔ comeT (rootT l) (Rx.symAt l) (fun p => startsT (rootT l) p = true) (wordsOf syms u) q
 | 0, u, hu, _, q => by
   obtain rfl := List.length_eq_zero_iff.1 hu
   show (comeS l startS).testBit q = true ↔ startsT (rootT l) q = true
   unfold comeS
   rw [show startS.2.1 = 0 from rfl, bitsL_zero, List.foldl_nil]
   show (firstM l).testBit q = true ↔ _
   unfold firstM rootT
   rw [fact_first]
 | n + 1, u, hu, hc, q => by
   obtain ⟨v, c, rfl⟩ : ∃ v c, u = v ++ [c] := ⟨u.dropLast, u.getLast (by intro e; subst e; cases hu), (List.dropLast_concat_getLast _).symm⟩
   have hv : ∀ d ∈ v, d < syms.length := fun d hd => hc d (by simp [hd])
   have hcs : c < syms.length := hc c (by simp)
   have ih := comeS_bit F hl n v (by simpa using hu) hv
   rw [wordsOf_snoc v hcs, comeT_snoc, runL_snoc]
   have hst := stepS_ok F hl syms (runL (stepS l syms) startS v) c
   rw [List.getElem?_eq_getElem hcs] at hst
   simp only [Option.getD_some] at hst
   unfold comeS
   rw [show (stepS l syms (runL (stepS l syms) startS v) c).1 = false from rfl, bit_fold, hst.2]
   simp only [mem_bitsL, Nat.testBit_and, Bool.and_eq_true]
   constructor
   ·rintro (h | ⟨p, ⟨h1, h2⟩, h3⟩)
    ·simp at h
    ·obtain ⟨n, hn, _, hs⟩ := (bit_ofM _ _).1 h2
     exact ⟨p, (ih p).1 h1, by rw [symAt_nd hn, hs], by rw [bit_nextM F] at h3; exact h3⟩
   ·rintro ⟨p, h1, h2, h3⟩
    obtain ⟨n, hn, ho⟩ := pos_sym F (pos_of_pairs h3).1
    refine .inr ⟨p, ⟨(ih p).2 h1, (bit_ofM _ _).2 ⟨n, hn, ho, by rw [← symAt_nd hn, h2]⟩⟩, by rw [bit_nextM F]; exact h3⟩
theorem bit_lastK (F : Rx.Form l) (q : Nat) : (lastK l).testBit q = true ↔ endsT (rootT l) q = true := by
 unfold lastK lastJ
 rw [bit_maskOf, Bool.and_eq_true]
 have hm : (lastMk l).testBit q = endsT (rootT l) q := by unfold lastMk rootT; rw [fact_last]
 constructor
 ·rintro ⟨h1, h2⟩
  unfold lastP at h2
  cases hn : l[q]? with
  | none => rw [hn] at h2; cases h2
  | some n =>
    rw [hn] at h2
    simp only [Bool.and_eq_true] at h2
    rw [← hm]; exact h2.2
 ·intro h
  obtain ⟨n, hn, ho⟩ := pos_sym F (pos_of_ends h)
  refine ⟨decide_eq_true (List.getElem?_eq_some_iff.1 hn).1, ?_⟩
  unfold lastP
  rw [hn]
  simp only [Bool.and_eq_true]
  exact ⟨decide_eq_true ho, by rw [hm]; exact h⟩
theorem make_lang (F : Rx.Form l) (hl : l.length ≤ 64) {syms : List ByteArray} {u : List Nat} (hu : ∀ c ∈ u, c < syms.length) : finalK l (runL (stepS l syms) startS u) = matchT (rootT l) (wordsOf syms u) := by
 by_cases h0 : u = []
 ·subst h0
  show finalK l startS = matchT (rootT l) []
  rw [matchT_nil]
  unfold finalK
  rw [show startS.1 = true from rfl, show startS.2.1 = 0 from rfl]
  simp [rootT]
 ·obtain ⟨v, c, rfl⟩ : ∃ v c, u = v ++ [c] := ⟨u.dropLast, u.getLast h0, (List.dropLast_concat_getLast _).symm⟩
  have hv : ∀ d ∈ v, d < syms.length := fun d hd => hu d (by simp [hd])
  have hcs : c < syms.length := hu c (by simp)
  rw [wordsOf_snoc v hcs, runL_snoc]
  have hst := stepS_ok F hl syms (runL (stepS l syms) startS v) c
  rw [List.getElem?_eq_getElem hcs] at hst
  simp only [Option.getD_some] at hst
  unfold finalK
  rw [show (stepS l syms (runL (stepS l syms) startS v) c).1 = false from rfl, hst.2, Bool.false_and, Bool.false_or, Bool.eq_iff_iff, decide_eq_true_eq]
  have hm := matchT_iff_come (tr_told F (l.length - 1)) (tr_lin F (l.length - 1)) (wordsOf syms v) syms[c]
  show _ ↔ matchT (tr l (l.length - 1)) (wordsOf syms v ++ [syms[c]]) = true
  rw [hm]
  have key : ∀ q, (((comeS l (runL (stepS l syms) startS v) &&& ofM l syms[c]) &&& lastK l).testBit q = true) ↔ (comeT (rootT l) (Rx.symAt l) (fun p => startsT (rootT l) p = true) (wordsOf syms v) q ∧ Rx.symAt l q = syms[c] ∧ endsT (rootT l) q = true) := fun q => by
   simp only [Nat.testBit_and, Bool.and_eq_true]
   rw [comeS_bit F hl v.length v rfl hv q, bit_lastK F]
   constructor
   ·rintro ⟨⟨h1, h2⟩, h3⟩
    obtain ⟨n, hn, _, hs⟩ := (bit_ofM _ _).1 h2
    exact ⟨h1, by rw [symAt_nd hn, hs], h3⟩
   ·rintro ⟨h1, h2, h3⟩
    obtain ⟨n, hn, ho⟩ := pos_sym F (pos_of_ends h3)
    exact ⟨⟨h1, (bit_ofM _ _).2 ⟨n, hn, ho, by rw [← symAt_nd hn, h2]⟩⟩, h3⟩
  constructor
  ·intro hne
   obtain ⟨q, hq⟩ := Nat.exists_testBit_of_ne_zero hne
   exact ⟨q, (key q).1 hq⟩
  ·rintro ⟨q, hq⟩ h
   have := (key q).2 hq
   rw [h] at this
   simp at this
def makeD (l : List Nd) (more : List ByteArray) (i : Nat) : DA := tourD (makeSyms l more) (tourN (succS l (makeSyms l more)) startS i) (finalK l)
theorem makeD_lang (F : Rx.Form l) (hl : l.length ≤ 64) {more : List ByteArray} {i : Nat} (h : Full (succS l (makeSyms l more)) startS i) {u : List Nat} (hu : ∀ c ∈ u, c < (makeSyms l more).length) : langD (makeD l more i) u = matchT (rootT l) (wordsOf (makeSyms l more) u) := by
 unfold makeD
 rw [tourD_lang h, lang_of hu, make_lang F hl hu]
theorem makeD_match (F : Rx.Form l) (hl : l.length ≤ 64) {more : List ByteArray} {i : Nat} (h : Full (succS l (makeSyms l more)) startS i) {ws : List ByteArray} (hw : ∀ x ∈ ws, x ∈ makeSyms l more) : matchD (makeD l more i) ws = matchT (rootT l) ws := by
 obtain ⟨u, hu, rfl⟩ := words_all hw
 rw [← makeD_lang F hl h hu]
 exact match_words (d := makeD l more i) (makeSyms_rising l more).nodup hu
theorem makeD_well {more : List ByteArray} (hn : ∀ x ∈ makeSyms l more, nameOk x = true) {i : Nat} (h : Full (succS l (makeSyms l more)) startS i) (hi : i ≤ 256) : WellD nameOk (makeD l more i) := by
 refine ⟨tourD_ok h, ?_, hn, makeSyms_rising l more⟩
 have := tourN_next_len (succS l (makeSyms l more)) startS i (Nat.le_of_eq h.symm)
 show (tourN (succS l (makeSyms l more)) startS i).next.length ≤ 256
 omega
end
end Go.Proofs.YtngpjagpeblbjaaGreatDoor
namespace Go.Proofs.YtngpjagpeblbjaaGreatDoor
open Go.RowKit Go.Spy Go.Heaped Go.Tour Go.Rx
def OkL (l : List Nd) : Prop := l.length ≤ 1024 ∧ Rx.Form l ∧ NamesOk l
theorem checkC_bad {l : List Nd} (h : ¬ OkL l) : ∃ c, CheckC l c ∧ c ≠ 0 := by
 unfold OkL at h
 by_cases h1 : l.length ≤ 1024
 ·by_cases h2 : Rx.Form l
  ·by_cases h3 : NamesOk l
   ·exact absurd ⟨h1, h2, h3⟩ h
   ·exact ⟨11, .inr (.inr (.inl ⟨h1, h2, h3, rfl⟩)), by decide⟩
  ·exact ⟨12, .inr (.inl ⟨h1, h2, rfl⟩), by decide⟩
 ·exact ⟨17, .inl ⟨by omega, rfl⟩, by decide⟩
def MoreOk (more : List ByteArray) : Prop := more.length ≤ 24 ∧ ∀ x ∈ more, nameOk x = true ∧ x.size ≤ 80
def MadeW (l : List Nd) (more : List ByteArray) (x : Array Value) (E : Int) (w : World) : Prop :=
 (E = 0 ∧ OkL l ∧ ∃ i, Full (succS l (makeSyms l more)) startS i ∧ i ≤ 256 ∧ DfaW w (.agg x) (makeD l more i)) ∨ (E ≠ 0 ∧ x = #[.slice none 0 0, .slice none 0 0, .slice none 0 0])
theorem symsL_ok {l : List Nd} (hS : SmallL l) (hN : NamesOk l) : MoreOk (symsL l) := by
 refine ⟨Nat.le_trans (symsL_len l) hS.1, fun x hx => ?_⟩
 unfold symsL at hx
 obtain ⟨n, hn, he⟩ := List.mem_filterMap.1 hx
 unfold symN at he
 split at he
 ·cases he
  rename_i ho
  obtain ⟨i, hi⟩ := List.getElem?_of_mem hn
  exact ⟨hN i n hi ho, hS.2 n hn⟩
 ·cases he
theorem makeSyms_ok {l : List Nd} (hS : SmallL l) (hN : NamesOk l) {more : List ByteArray} (hm : MoreOk more) : (makeSyms l more).length ≤ 48 ∧ ∀ x ∈ makeSyms l more, nameOk x = true ∧ x.size ≤ 80 := by
 refine ⟨?_, fun x hx => ?_⟩
 ·have := makeSyms_len l more
  have := hS.1
  have := hm.1
  omega
 ·rcases mem_makeSyms.1 hx with h | h
  ·exact (symsL_ok hS hN).2 x h
  ·exact hm.2 x h
theorem make_in {w : World} {l : List Nd} {ao : Option Addr} {cap : Nat} (hV : NodesV w ao l) (hS : SmallL l) (hT : TabW w) {vM : Value} {more : List ByteArray} (hM : ReadR w 1 strC vM more) (hm : MoreOk more) :
 Calls Tryz.prog 22 #[.agg #[.slice ao l.length cap], vM] w fun e w' => ∃ aoS n1 cS aoN n2 cN aoF n3 cF E, e = .returned (.tuple #[.agg #[.slice aoS n1 cS, .slice aoN n2 cN, .slice aoF n3 cF], .int .i64 E]) ∧ MadeW l more #[.slice aoS n1 cS, .slice aoN n2 cN, .slice aoF n3 cF] E w' ∧ Ext w w' ∧ ∀ q w'', q < w.heap.size → Chg (· = q) w' w'' → MadeW l more #[.slice aoS n1 cS, .slice aoN n2 cN, .slice aoF n3 cF] E w'' := by
 by_cases hok : OkL l
 ·refine (make_goodF (cap := cap) hok.2.1 hV hok.2.2 (by have := hS.1; omega) hT hM (by have := hm.1; omega) (fun x hx => ⟨(hm.2 x hx).1, by have := (hm.2 x hx).2; omega⟩)).mono ?_
  rintro e w' ⟨hx, ⟨i, v, hf, hi, rfl, hv, hq⟩ | ⟨i, hi, rfl⟩⟩
  ·have hk := makeSyms_ok hS hok.2.2 hm
   have W := makeD_well (fun x hx => (hk.2 x hx).1) hf hi
   have B : BndD (makeD l more i).raw := raw_bnd W (by have := hk.1; show (makeSyms l more).length ≤ 1000; omega) (fun s hs => by have := (hk.2 s hs).2; omega)
   obtain ⟨aoS, n1, cS, aoN, n2, cN, aoF, n3, cF, rfl⟩ := hv.open_
   exact ⟨aoS, n1, cS, aoN, n2, cN, aoF, n3, cF, 0, rfl, .inl ⟨rfl, hok, i, hf, hi, ⟨hv, B, W⟩⟩, hx, fun q w'' h1 h2 => .inl ⟨rfl, hok, i, hf, hi, ⟨hq q w'' h1 h2, B, W⟩⟩⟩
  ·exact ⟨none, 0, 0, none, 0, 0, none, 0, 0, 17, rfl, .inr ⟨by decide, rfl⟩, hx, fun _ _ _ _ => .inr ⟨by decide, rfl⟩⟩
 ·obtain ⟨c, hc, h0⟩ := checkC_bad hok
  refine (make_ill (cap := cap) hV hc h0 hM).mono ?_
  rintro e w' ⟨rfl, hx⟩
  exact ⟨none, 0, 0, none, 0, 0, none, 0, 0, c, rfl, .inr ⟨h0, rfl⟩, hx, fun _ _ _ _ => .inr ⟨h0, rfl⟩⟩
theorem symbols_in {w : World} {l : List Nd} {ao : Option Addr} {cap : Nat} (hV : NodesV w ao l) (hS : SmallL l) :
 Calls Tryz.prog 23 #[.agg #[.slice ao l.length cap]] w fun e w' => ∃ a n c more, e = .returned (.slice a n c) ∧ ReadR w' 1 strC (.slice a n c) more ∧ MoreOk more ∧ (OkL l → ∀ x, x ∈ more ↔ x ∈ symsL l) ∧ Ext w w' := by
 by_cases hok : OkL l
 ·refine (symbols_any hok.2.1 hV hok.2.2 cap (by have := hS.1; omega)).mono ?_
  rintro e w' ⟨v, rfl, hO, hx⟩
  have h : OwnT w' w.heap.size v ((sortW (symsL l)).map bl) := by
   rw [sortW_bl]
   exact hO
  have hR := OwnR.read (own_bl.2 h) strC_size
  have hmem : ∀ x, x ∈ sortW (symsL l) ↔ x ∈ symsL l := sortW_mem (symsL l)
  have hso := symsL_ok hS hok.2.2
  obtain ⟨a, c, rfl, _⟩ := hR.form
  exact ⟨a, _, c, sortW (symsL l), rfl, hR, ⟨Nat.le_trans (sortW_len _) hso.1, fun x hx => hso.2 x ((hmem x).1 hx)⟩, fun _ => hmem, hx⟩
 ·refine (symbols_none hV cap hok).mono ?_
  rintro e w' ⟨rfl, hx⟩
  exact ⟨none, 0, 0, [], rfl, ⟨none, 0, rfl, .inl rfl⟩, ⟨by simp, by simp⟩, fun h => absurd h hok, hx⟩
theorem makeSyms_swap {l m : List Nd} {moreL moreM : List ByteArray} (h1 : ∀ x, x ∈ moreL ↔ x ∈ symsL m) (h2 : ∀ x, x ∈ moreM ↔ x ∈ symsL l) : makeSyms l moreL = makeSyms m moreM := rising_ext (makeSyms_rising _ _) (makeSyms_rising _ _) fun x => by
 rw [mem_makeSyms, mem_makeSyms, h1, h2]
 exact Or.comm
theorem rmatch_in {w : World} {l : List Nd} {ao : Option Addr} {cap : Nat} (hV : NodesV w ao l) (hS : SmallL l) (hok : OkL l) (hT : TabW w) {a : Option Addr} {n c : Nat} {ws : List ByteArray} (hR : ReadR w 1 strC (.slice a n c) ws) (hM : MildS ws) (hc : ws.length ≤ c) :
 Calls Tryz.prog 25 #[.agg #[.slice ao l.length cap], .slice a n c] w fun e w' => e = .returned (.bool (matchT (rootT l) ws)) ∧ Ext w w' := by
 obtain ⟨a', c', he, hs⟩ := strs_of_read hR hM
 simp only [Value.slice.injEq] at he
 obtain ⟨rfl, rfl, rfl⟩ := he
 exact match_any hok.2.1 hV hok.2.2 cap (by have := hS.1; omega) hs hc hT
end Go.Proofs.YtngpjagpeblbjaaGreatDoor
namespace Go.Spy
open Go.RowKit
end Go.Spy
namespace Go.Proofs.YtngpjagpeblbjaaGreatDoor
open Go.RowKit Go.Spy Go.Heaped Go.Tour Go.Rx
def HoldD (l : List Nd) (D : DA) : Prop := ∀ ws, (∀ x ∈ ws, x ∈ D.syms) → matchD D ws = matchT (rootT l) ws
def MadeX (l : List Nd) (S : List ByteArray) (x : Array Value) (E : Int) (w : World) : Prop :=
 (E = 0 ∧ OkL l ∧ ∃ D : DA, D.syms = S ∧ HoldD l D ∧ DfaW w (.agg x) D) ∨ (E ≠ 0 ∧ x = #[.slice none 0 0, .slice none 0 0, .slice none 0 0])
theorem MadeX.ext {l : List Nd} {S : List ByteArray} {x : Array Value} {E : Int} {w w' : World} (h : MadeX l S x E w) (e : Ext w w') : MadeX l S x E w' :=
 h.imp (fun ⟨h1, h2, D, h3, h4, h5⟩ => ⟨h1, h2, D, h3, h4, h5.ext e⟩) id
theorem MadeW.x {l : List Nd} {more : List ByteArray} {x : Array Value} {E : Int} {w : World} (hS : SmallL l) (h : MadeW l more x E w) : MadeX l (makeSyms l more) x E w :=
 h.imp (fun ⟨h1, h2, i, h3, h4, h5⟩ => ⟨h1, h2, _, rfl, fun ws hw => makeD_match h2.2.1 (by have := hS.1; omega) h3 hw, h5⟩) id
theorem make_x {w : World} {l : List Nd} {ao : Option Addr} {cap : Nat} (hV : NodesV w ao l) (hS : SmallL l) (hT : TabW w) {vM : Value} {more : List ByteArray} (hM : ReadR w 1 strC vM more) (hm : MoreOk more) :
 Calls Tryz.prog 22 #[.agg #[.slice ao l.length cap], vM] w fun e w' => ∃ aoS n1 cS aoN n2 cN aoF n3 cF E, e = .returned (.tuple #[.agg #[.slice aoS n1 cS, .slice aoN n2 cN, .slice aoF n3 cF], .int .i64 E]) ∧ MadeX l (makeSyms l more) #[.slice aoS n1 cS, .slice aoN n2 cN, .slice aoF n3 cF] E w' ∧ Ext w w' ∧ ∀ q w'', q < w.heap.size → Chg (· = q) w' w'' → MadeX l (makeSyms l more) #[.slice aoS n1 cS, .slice aoN n2 cN, .slice aoF n3 cF] E w'' := by
 refine (make_in (cap := cap) hV hS hT hM hm).mono ?_
 rintro e w' ⟨aoS, n1, cS, aoN, n2, cN, aoF, n3, cF, E, rfl, h, hx, hq⟩
 exact ⟨aoS, n1, cS, aoN, n2, cN, aoF, n3, cF, E, rfl, h.x hS, hx, fun q w'' h1 h2 => (hq q w'' h1 h2).x hS⟩
theorem ext_store {w0 w w' : World} {g : Nat} (e : Ext w0 w) (c : Chg (· = g) w w') (hg : w0.heap.size ≤ g) : Ext w0 w' :=
 e.trans ((c.mono (S' := fun k => w0.heap.size ≤ k) fun _ _ h => h ▸ hg).below e.size (fun _ h => h))
theorem ones_dfa {a b c : Option Addr} {n1 n2 n3 c1 c2 c3 : Nat} : Ones #[.slice a n1 c1, .slice b n2 c2, .slice c n3 c3] := by
 intro v hv
 simp only [List.mem_toArray, List.mem_cons, List.not_mem_nil, or_false] at hv
 rcases hv with rfl | rfl | rfl <;> rfl
def MadeB (l m : List Nd) (W wx : World) (u v : Value) : Prop := ∃ bA aoS n1 cS aoN n2 cN aoF n3 cF E more, u = .pointer (some ⟨bA, 0, none⟩) ∧ v = .int .i64 E ∧ Hid (Ext W wx) ∧ Hid (Blk wx bA 26 #[.slice aoS n1 cS, .slice aoN n2 cN, .slice aoF n3 cF]) ∧ Hid (MadeX l (makeSyms l more) #[.slice aoS n1 cS, .slice aoN n2 cN, .slice aoF n3 cF] E wx) ∧ Hid (OkL m → ∀ x, x ∈ more ↔ x ∈ symsL m)
theorem idx_in (x : Int) {n : Nat} (h : 0 < n) (hn : n ≤ 1000) : ∃ q : Nat, q < n ∧ (x.tmod (n : Int) + (n : Int)).tmod (n : Int) = (q : Int) ∧ IntKind.i64.wrap (x.tmod (n : Int) + (n : Int)) = x.tmod (n : Int) + (n : Int) := by
 have hb : (n : Int) ≠ 0 := by omega
 have h1 : (x.tmod (n : Int)).natAbs < (n : Int).natAbs := by
  rw [Int.natAbs_tmod]
  exact Nat.mod_lt _ (by omega)
 have h2 : 0 ≤ x.tmod (n : Int) + (n : Int) := by omega
 refine ⟨((x.tmod (n : Int) + (n : Int)).tmod (n : Int)).toNat, ?_, ?_, ?_⟩
 ·have h3 := Int.tmod_lt_of_pos (x.tmod (n : Int) + (n : Int)) (b := (n : Int)) (by omega)
  have h4 := Int.tmod_nonneg (n : Int) h2
  omega
 ·have h4 := Int.tmod_nonneg (n : Int) h2
  omega
 ·rw [IntKind.wrap_i64]
  omega
section
variable {A B D : DA}
theorem match_notW (W : WellD nameOk D) {ws : List ByteArray} (h : ∀ x ∈ ws, x ∈ D.syms) : matchD (notD D) ws = !matchD D ws := by
 obtain ⟨u, hu, rfl⟩ := words_all h
 rw [match_not W hu, match_words W.rising.nodup hu]
theorem match_minW {S : DA} (h : MinD D S) (W : WellD nameOk D) {ws : List ByteArray} (hw : ∀ x ∈ ws, x ∈ D.syms) : matchD S ws = matchD D ws := by
 obtain ⟨u, hu, rfl⟩ := words_all hw
 rw [match_words W.rising.nodup hu, ← h.lang, ← h.syms, match_words (by rw [h.syms]; exact W.rising.nodup) (by rw [h.syms]; exact hu)]
theorem min_well {S : DA} (h : MinD D S) (W : WellD nameOk D) : WellD nameOk S := ⟨h.ok, Nat.le_trans h.len W.most, by rw [h.syms]; exact W.names, by rw [h.syms]; exact W.rising⟩
theorem min_bnd {S : DA} (h : MinD D S) (W : WellD nameOk D) (B : BndD D.raw) : BndD S.raw :=
 raw_bnd (min_well h W) (by rw [h.syms]; exact B.s) (by rw [h.syms]; exact B.b)
theorem min_dfaW {w : World} {v : Value} {S : DA} (h : MinD D S) (W : WellD nameOk D) (B : BndD D.raw) (hv : DfaV w v S.raw) : DfaW w v S := ⟨hv, min_bnd h W B, min_well h W⟩
theorem both_gen {w : World} {xA xB : Array Value} (hA : DfaW w (.agg xA) A) (hB : DfaW w (.agg xB) B) (hs : A.syms = B.syms) :
 Calls Tryz.prog 15 #[.agg xA, .agg xB] w fun e w' => ∃ aoS n1 cS aoN n2 cN aoF n3 cF E, e = .returned (.tuple #[.agg #[.slice aoS n1 cS, .slice aoN n2 cN, .slice aoF n3 cF], .int .i64 E]) ∧ (E = 0 → ∃ D : DA, DfaW w' (.agg #[.slice aoS n1 cS, .slice aoN n2 cN, .slice aoF n3 cF]) D ∧ ∀ ws, matchD D ws = (matchD A ws && matchD B ws)) ∧ Ext w w' := by
 have hl : (bothSyms A B).length ≤ 1000 := by rw [bothSyms_same hA.well hs]; exact hA.bnd.s
 refine (dboth_any hA hB hl).mono ?_
 rintro e w' ⟨hx, ⟨i, v, hf, hi, rfl, hv⟩ | ⟨i, hi, rfl⟩⟩
 ·obtain ⟨aoS, n1, cS, aoN, n2, cN, aoF, n3, cF, rfl⟩ := hv.open_
  have W := both_well hA.well hB.well hf hi
  exact ⟨aoS, n1, cS, aoN, n2, cN, aoF, n3, cF, 0, rfl, fun _ => ⟨bothD A B i, ⟨hv, raw_bnd W hl (fun s hs => by
   rcases bothSyms_mem.1 hs with h | h
   ·exact hA.bnd.b s h
   ·exact hB.bnd.b s h), W⟩, both_match hA.well hB.well hf⟩, hx⟩
 ·exact ⟨none, 0, 0, none, 0, 0, none, 0, 0, 17, rfl, fun h => (by cases h), hx⟩
def FarW (A B : DA) (vs : List ByteArray) : Prop := (∀ x ∈ vs, x ∈ A.syms) ∧ matchD A vs = true ∧ matchD B vs = false ∧
 ∀ ws, (∀ x ∈ ws, x ∈ A.syms) → matchD A ws = true → matchD B ws = false → vs.length < ws.length ∨ vs.length = ws.length ∧ aheadW ws vs = false
theorem within_gen {w : World} {xA xB : Array Value} (hA : DfaW w (.agg xA) A) (hB : DfaW w (.agg xB) B) :
 Calls Tryz.prog 17 #[.agg xA, .agg xB] w fun e w' => ∃ ao n c b, e = .returned (.tuple #[.slice ao n c, .bool b, .int .i64 0]) ∧ ((b = true ∧ n = 0 ∧ ∀ ws, (∀ x ∈ ws, x ∈ A.syms) → matchD A ws = true → matchD B ws = true) ∨
  (b = false ∧ ∃ vs, n = vs.length ∧ ReadR w' 1 strC (.slice ao n c) vs ∧ MildS vs ∧ vs.length ≤ c ∧ FarW A B vs)) ∧ Ext w w' := by
 refine (within_any hA hB).mono ?_
 rintro e w' ⟨hx, ⟨v, u, rfl, hR, hul, hu, h1, h2, h3⟩ | ⟨rfl, h1⟩⟩
 ·obtain ⟨ao, c, rfl, hc, _⟩ := hR.cells strC_size
  refine ⟨ao, _, c, false, rfl, .inr ⟨rfl, _, rfl, OwnR.read hR strC_size, words_mild hA.bnd hu hul, hc, fun x hx => wordsOf_mem x hx, by rw [match_words hA.well.rising.nodup hu]; exact h1, h2, fun ws hw k1 k2 => ?_⟩, hx⟩
  obtain ⟨x, hxs, rfl⟩ := words_all hw
  rw [match_words hA.well.rising.nodup hxs] at k1
  have h4 := h3 x hxs k1 k2
  rw [aheadW_idx hA.well.rising hxs hu, wordsOf_length hu, wordsOf_length hxs]
  exact sle_iff.1 h4
 ·refine ⟨none, 0, 0, true, rfl, .inl ⟨rfl, rfl, fun ws hw k1 => ?_⟩, hx⟩
  obtain ⟨x, hxs, rfl⟩ := words_all hw
  rw [match_words hA.well.rising.nodup hxs] at k1
  exact h1 x hxs k1
theorem not_in8 {w : World} {x : Array Value} (hA : DfaW w (.agg x) A) : Calls Tryz.prog 14 #[.agg x] w fun e w' => ∃ aoS n1 cS aoN n2 cN aoF n3 cF, e = .returned (.tuple #[.agg #[.slice aoS n1 cS, .slice aoN n2 cN, .slice aoF n3 cF], .int .i64 0]) ∧ DfaW w' (.agg #[.slice aoS n1 cS, .slice aoN n2 cN, .slice aoF n3 cF]) (notD A) ∧ Ext w w' := not_in hA
theorem dfaV_rows {w : World} {aoS aoN aoF : Option Addr} {n1 n2 n3 cS cN cF : Nat} {D : DA} (h : DfaV w (.agg #[.slice aoS n1 cS, .slice aoN n2 cN, .slice aoF n3 cF]) D.raw) : n2 = D.next.length ∧ n1 = D.syms.length := by
 obtain ⟨vS, vN, vF, us, e, hP⟩ := h
 simp only [Value.agg.injEq, Array.mk.injEq, List.cons.injEq, and_true] at e
 obtain ⟨rfl, rfl, rfl⟩ := e
 have hl := hP.len
 obtain ⟨a1, c1, e1, -⟩ := hP.next.form
 obtain ⟨a2, c2, e2, -⟩ := hP.syms.form
 simp only [Value.slice.injEq] at e1 e2
 refine ⟨?_, e2.2.1⟩
 rw [e1.2.1, hl]
 show (D.next.map _).length = _
 rw [List.length_map]
theorem small_gen {w : World} {aoS aoN aoF : Option Addr} {n1 n2 n3 cS cN cF : Nat} (hA : DfaW w (.agg #[.slice aoS n1 cS, .slice aoN n2 cN, .slice aoF n3 cF]) A) :
 Calls Tryz.prog 18 #[.agg #[.slice aoS n1 cS, .slice aoN n2 cN, .slice aoF n3 cF]] w fun e w' => ∃ aoS' m1 cS' aoN' m2 cN' aoF' m3 cF' S, e = .returned (.tuple #[.agg #[.slice aoS' m1 cS', .slice aoN' m2 cN', .slice aoF' m3 cF'], .int .i64 0]) ∧ m2 ≤ n2 ∧ MinD A S ∧ DfaW w' (.agg #[.slice aoS' m1 cS', .slice aoN' m2 cN', .slice aoF' m3 cF']) S ∧ Ext w w' := by
 refine (small_in hA).mono ?_
 rintro e w' ⟨aoS', m1, cS', aoN', m2, cN', aoF', m3, cF', S, rfl, hm, hv, hx⟩
 refine ⟨aoS', m1, cS', aoN', m2, cN', aoF', m3, cF', S, rfl, ?_, hm, min_dfaW hm hA.well hA.bnd hv, hx⟩
 have k1 := dfaV_rows hA.at_
 have k2 := dfaV_rows hv
 rw [k1.1, k2.1]
 exact hm.len
end
end Go.Proofs.YtngpjagpeblbjaaGreatDoor
namespace Go.Proofs.YtngpjagpeblbjaaGreatDoor
open Go.ChangeShapes Go.WideShapes Go.ChangeAt Go.WideMaps Go.WideElems Go.RowKit Go.Spy Go.Rx
theorem cstr : Tryz.prog.cellsOf 9 = 1 := by kernel_rfl
theorem cnode : Tryz.prog.cellsOf 100 = 4 := by kernel_rfl
theorem bnode : Tryz.prog.bytesOf 100 = 40 := by kernel_rfl
theorem creg : Tryz.prog.cellsOf 45 = 1 := by kernel_rfl
theorem cint : Tryz.prog.cellsOf 3 = 1 := by kernel_rfl
theorem cnodes : Tryz.prog.cellsOf 43 = 1 := by kernel_rfl
open Go.Joins Go.Deep in
set_option maxRecDepth 100000 in
theorem regex_arg {H : Type} {enc : TypeId × Value → H} {W : World} {base : Nat} {v : Value} {d : DataW H} {p : List MemPlace} (hv : Value.okWide Tryz.prog W .any base 45 v)
 (h : DataW.Trod enc Tryz.prog W 0 (fun _ => true) true 45 v d p) {ts : List TypeId} {ds : List (DataW H)} (hsz : (DataW.weightsEach Tryz.prog ts ds).all (· ≤ reachBytes) = true) {j : Nat} (ht : ts[j]? = some 45) (hd : ds[j]? = some d) :
 ∃ a cap l, v = .agg #[.slice a (List.length l) cap] ∧ NodesV W a l := by
 obtain ⟨cs, rfl, hcz⟩ := okWide_struct Tryz.underlying45 hv
 obtain ⟨c0, rfl⟩ : ∃ c0, cs = #[c0] := by
  obtain ⟨l⟩ := cs
  match l, (hcz.trans creg) with
  | [c0], _ => exact ⟨c0, rfl⟩
 obtain ⟨fuel, hf⟩ := h
 obtain ⟨y0, n, hx, _, h0⟩ := trod_struct1 Tryz.underlying45 hf
 simp only [Prod.mk.injEq] at hx
 obtain ⟨rfl, rfl⟩ := hx
 simp only [cnodes] at h0
 have h0 : DataW.trod enc Tryz.prog W 0 (fun _ => true) true n 43 [c0] = some y0 := by simpa [Value.cells] using h0
 rcases open_slice Tryz.underlying43 h0 with ⟨hcs, _⟩ | ⟨a, len, cap, m, n2, D, Pl, hcs, _, hl, hm, hmm, rfl, hcell⟩
 ·simp only [List.cons.injEq, and_true] at hcs
  subst hcs
  exact ⟨none, 0, [], rfl, ⟨by simp, fun i n hn => by simp at hn, fun h => by simp at h⟩⟩
 ·simp only [List.cons.injEq, and_true] at hcs
  subst hcs
  simp only [if_true] at hmm
  subst hmm
  have hreach : ((List.range len).map D).length * 40 ≤ reachBytes := by
   have h1 : (((List.range len).map D).length + ((List.range (m - len)).map fun j => D (len + j)).length) * Tryz.prog.bytesOf 100 ≤ reachBytes := by
    have := List.all_eq_true.1 hsz _ (DataW.weights_mem_each ht hd ((((List.range len).map D).length + ((List.range (m - len)).map fun j => D (len + j)).length) * Tryz.prog.bytesOf 100) (by
     simp [DataW.weights, DataW.weightsEach, Tryz.underlying45, Tryz.underlying43]))
    simpa using this
   rw [bnode] at h1
   exact Nat.le_trans (Nat.mul_le_mul_right 40 (Nat.le_add_right _ _)) h1
  simp only [List.length_map, List.length_range, reachBytes] at hreach
  have each : ∀ i, i < m → ∃ z : Nd, W.cell? (a.add (i * 4)) = some (.int .i64 z.op) ∧ W.cell? (a.add (i * 4 + 1)) = some (.string z.sym) ∧ W.cell? (a.add (i * 4 + 2)) = some (.int .i64 z.a) ∧ W.cell? (a.add (i * 4 + 3)) = some (.int .i64 z.b) ∧ z.sym.size ≤ maxLen := by
   intro i hi
   obtain ⟨cs', h1, h2⟩ := hcell i hi
   rw [cnode] at h1
   obtain ⟨_, hlen, hcl⟩ := World.cells?_some h1
   obtain ⟨x0, x1, x2, x3, k, _, _, g0, g1, g2, g3⟩ := trod_struct4 Tryz.underlying100 h2
   match cs', hlen with
   | [v0, v1, v2, v3], _ =>
     simp only [cint, cstr] at g0 g1 g2 g3
     obtain ⟨o, e0, _⟩ := DataW.trod_int Tryz.underlying3 g0
     obtain ⟨s, e1, _, hs⟩ := DataW.trod_string Tryz.underlying9 g1
     obtain ⟨aa, e2, _⟩ := DataW.trod_int Tryz.underlying3 g2
     obtain ⟨bb, e3, _⟩ := DataW.trod_int Tryz.underlying3 g3
     simp at e0 e1 e2 e3
     subst e0 e1 e2 e3
     have f0 := hcl 0 (by omega)
     have f1 := hcl 1 (by omega)
     have f2 := hcl 2 (by omega)
     have f3 := hcl 3 (by omega)
     rw [add_add] at f0 f1 f2 f3
     exact ⟨⟨o, s, aa, bb⟩, by simpa using f0, by simpa using f1, by simpa using f2, by simpa using f3, hs⟩
  haveI : Inhabited Nd := ⟨⟨0, nil8, 0, 0⟩⟩
  obtain ⟨q, hq⟩ := choose_lt each
  refine ⟨some a, m, (List.range len).map q, by simp, ⟨by simp; omega, fun i n hn => ?_, fun h0 => ?_⟩⟩
  ·have hi : i < len := by have := (List.getElem?_eq_some_iff.1 hn).1; simpa using this
   have : n = q i := by simpa [hi] using hn.symm
   subst this
   have := (hq i (by omega)).2.2.2.2
   unfold maxLen at this; omega
  ·have hl0 : 0 < len := by simpa using h0
   have hc0 := (hq 0 (by omega)).1
   have ha : a.add (0 * 4) = a := by simp [Addr.add]
   rw [ha] at hc0
   have hsp := spot_none hc0
   refine ⟨a.block, a.off, by rw [← hsp], World.block_lt_of_cell? W a hc0, fun i n hn => ?_⟩
   have hi : i < len := by have := (List.getElem?_eq_some_iff.1 hn).1; simpa using this
   have : n = q i := by simpa [hi] using hn.symm
   subst this
   obtain ⟨g0, g1, g2, g3, _⟩ := hq i (by omega)
   rw [hsp, Addr.add_lit] at g0 g1 g2 g3
   exact ⟨g0, g1, g2, g3⟩
end Go.Proofs.YtngpjagpeblbjaaGreatDoor
namespace Go.Spy
open Go.RowKit
theorem Blk.c3 {w : World} {b : Nat} {t : TypeId} {x y z : Value} (h : Blk w b t #[x, y, z]) : w.cell? ⟨b, 0, none⟩ = some x ∧ w.cell? ⟨b, 1, none⟩ = some y ∧ w.cell? ⟨b, 2, none⟩ = some z ∧ b < w.heap.size := ⟨h.cell (i := 0) rfl, h.cell (i := 1) rfl, h.cell (i := 2) rfl, h.lt⟩
theorem Blk.c1 {w : World} {b : Nat} {t : TypeId} {x : Value} (h : Blk w b t #[x]) : w.cell? ⟨b, 0, none⟩ = some x ∧ b < w.heap.size := ⟨h.cell (i := 0) rfl, h.lt⟩
end Go.Spy
