/-
  Walks of atom and Parse: a text that is read as nodes.
  Walk of Parse: a text that is read as nodes to its end.
  Walk of Symbols, up to the sort.
  DERIVED: THE SHELF's CONTRACTS AT THIS DUMP, IN PLAIN WORDS (tools/lay-plain.mjs out of 'TryzShelf.lean', which tools/lay-shelf.mjs wrote): THE SAME DECLARATION
  The sort and slices.Compact by the library's contracts; Symbols whole.
  The queue of rows: the order of rows and of items; a queue in memory; how many there are.
  The queue of rows: which of two items is ahead.
  The queue of rows: what becomes of a queue in memory where two items change places.
-/
import Derived.Test.YtngpjagpeblbjaaGreatDoorP09
import Derived.Test.YtngpjagpeblbjaaGreatDoorP08
import Derived.Shelf.Sort.Plain
import Derived.Shelf.Slices.Turned
import Derived.Ground.Names2Prog
import Derived.Shelf.Slices.ReverseS
import Derived.Shelf.Slices.Clone
import Derived.Shelf.Slices.CompactS
import Derived.Shelf.Slices.SearchI
import Derived.Shelf.Slices.Cells
import Derived.Shelf.Slices.In.SortNone
import Derived.Test.YtngpjagpeblbjaaGreatDoorProg
import Derived.Sort.OwnSorted
import Derived.Sort.Grow
import Derived.Lib.OwnBridge
import Derived.Test.YtngpjagpeblbjaaGreatDoorRows
import Derived.Test.YtngpjagpeblbjaaGreatDoorP01
import Derived.BigRegion
import Derived.BigQuiet
import Derived.Deep.QuietTactic
import Derived.Deep.RegionWith
import Derived.StillTailTactics
import Derived.Deep.AppendLies
namespace Go.Proofs.YtngpjagpeblbjaaGreatDoor
open Go.RowKit Go.Spy Go.Rx
theorem own_one (w : World) {base : Nat} (hb : base ≤ w.heap.size) (n : Nd) : OwnN (w.alloc (.cells #[.int .i64 n.op, .string n.sym, .int .i64 n.a, .int .i64 n.b] 100)) base (.slice (some ⟨w.heap.size, 0, none⟩) 1 1) [n] := by
 refine ⟨by simp [ndV], .inr ⟨w.heap.size, 1, _, rfl, hb, heap_alloc_new w _, Nat.le_refl _, by unfold maxLen; omega, by simp, by simp [ndV]⟩⟩
theorem good_atom : ∀ n, PartG (AtomD n)
 | 0, _, _, _, h => h.elim
 | n + 1, r, l, r', h => by
   rcases h with ⟨_, rfl⟩ | ⟨q, _, _, rfl⟩ | ⟨q, q', _, _, h, _⟩ | ⟨w, h, rfl⟩
   ·exact ⟨good_leaf rfl rfl (by simp [nd0, nil8, ByteArray.size]), by simp⟩
   ·exact ⟨good_leaf rfl rfl (by simp [nd1, nil8, ByteArray.size]), by simp⟩
   ·exact good_row (good_row (good_item (good_atom n))) _ _ _ h
   ·refine ⟨good_leaf rfl rfl ?_, by simp⟩
    have := h.2.1
    simp only [nmB, Bool.and_eq_true, decide_eq_true_eq] at this
    simp [nd2, ByteArray.size]; omega
set_option maxRecDepth 100000 in
set_option maxHeartbeats 2000000 in
theorem atom_succ {b : Nat} {s : ByteArray} (hs : s.size ≤ 1000000) {n : Nat} (IH : PartC 99 b s (ExprOf (AtomD n))) : PartC 163 b s (AtomD (n + 1)) := by
 rintro r l r' w h hR hb
 have HR := hid hR
 have HI := hid IH
 clear hR IH
 rcases h with ⟨h1, rfl⟩ | ⟨q, h1, h2, rfl⟩ | ⟨q, q', h1, h2, h3, h4⟩ | ⟨wd, h1, rfl⟩
 ·have H1 := hid h1
  clear h1
  go_enter Tryz.func163, Tryz.ntmps163
  go_wp2_with (go_at_call 149; refine (mark_yes HR.out hs 33 rfl H1.out).mono ?_; rintro e w1 ⟨rfl, hR, hX⟩; have HR1 := hid hR; have HX1 := hid hX; clear hR hX)
  go_ret2
  exact ⟨_, rfl, own_one w1 HX1.out.size nd0, HR1.out.ext ((Below.refl _ _).alloc (Nat.le_refl _) _), HX1.out.alloc _⟩
 ·have H1 := hid h1
  have H2 := hid h2
  clear h1 h2
  go_enter Tryz.func163, Tryz.ntmps163
  go_wp2_with fail
  refine (mark_no HR.out hs 33 rfl (c := 33) (by rw [H1.out]; simp)).mono ?_
  rintro e w1 ⟨rfl, hR, hX⟩
  have HR1 := hid hR
  have HX1 := hid hX
  clear hR hX
  go_wp2_with fail
  refine (mark_yes HR1.out hs 40 rfl (c := 40) (q := q) (by rw [sk_sk]; exact H1.out)).mono ?_
  rintro e w2 ⟨rfl, hR, hX⟩
  have HR2 := hid hR
  have HX2 := hid (HX1.out.trans hX)
  clear hR hX
  go_wp2_with fail
  refine (mark_yes HR2.out hs 41 rfl H2.out).mono ?_
  rintro e w3 ⟨rfl, hR, hX⟩
  have HR3 := hid hR
  have HX3 := hid (HX2.out.trans hX)
  clear hR hX
  go_wp2_with fail
  go_ret2
  exact ⟨_, rfl, own_one w3 HX3.out.size nd1, HR3.out.ext ((Below.refl _ _).alloc (Nat.le_refl _) _), HX3.out.alloc _⟩
 ·have H1 := hid h1
  have H2 := hid h2
  have H3 := hid h3
  have H4 := hid h4
  clear h1 h2 h3 h4
  go_enter Tryz.func163, Tryz.ntmps163
  go_wp2_with fail
  refine (mark_no HR.out hs 33 rfl (c := 33) (by rw [H1.out]; simp)).mono ?_
  rintro e w1 ⟨rfl, hR, hX⟩
  have HR1 := hid hR
  have HX1 := hid hX
  clear hR hX
  go_wp2_with fail
  refine (mark_yes HR1.out hs 40 rfl (c := 40) (q := q) (by rw [sk_sk]; exact H1.out)).mono ?_
  rintro e w2 ⟨rfl, hR, hX⟩
  have HR2 := hid hR
  have HX2 := hid (HX1.out.trans hX)
  clear hR hX
  go_wp2_with fail
  refine (mark_no HR2.out hs 41 rfl H2.out).mono ?_
  rintro e w3 ⟨rfl, hR, hX⟩
  have HR3 := hid hR
  have HX3 := hid (HX2.out.trans hX)
  have hsz := HX3.out.size
  clear hR hX
  go_wp2_with fail
  refine (HI.out _ _ _ _ H3.out HR3.out (by omega)).mono ?_
  rintro e w4 ⟨v, rfl, hO, hR, hX⟩
  have HR4 := hid hR
  have HX4 := hid (HX3.out.trans hX)
  have HO4 := hid (hO.lower hsz)
  clear hR hX hO
  go_wp2_with fail
  refine (mark_yes HR4.out hs 41 rfl H4.out).mono ?_
  rintro e w5 ⟨rfl, hR, hX⟩
  have HR5 := hid hR
  have HX5 := hid (HX4.out.trans hX)
  have HO5 := hid (HO4.out.chg hX (fun k hk => by have := (HO4.out.lt k hk).1; show ¬ k = b; omega))
  clear hR hX
  go_wp2_with fail
  go_ret2
  exact ⟨_, rfl, HO5.out, HR5.out, HX5.out⟩
 ·obtain ⟨c, q, rfl, hc⟩ := nm_head h1.2.1
  have hno : ∀ d : UInt8, isLe d.toNat = false → (sk r).head? ≠ some d := fun d hd e => by
   rw [h1.1] at e
   rw [Option.some.inj e] at hc
   rw [hc] at hd
   cases hd
  have HNO := hid hno
  have H1 := hid h1
  have hn : nameOk ⟨(c :: q).toArray⟩ = true := by rw [nm_eq]; exact h1.2.1
  have HN := hid hn
  have hsz : (⟨(c :: q).toArray⟩ : ByteArray).size ≤ maxLen := by
   have := h1.2.1
   simp only [nmB, Bool.and_eq_true, decide_eq_true_eq] at this
   have h2 := this.1.1.2
   show (c :: q).toArray.size ≤ maxLen
   unfold maxLen
   simp at h2 ⊢; omega
  obtain ⟨wd, hwd⟩ : ∃ wd : ByteArray, wd = ⟨(c :: q).toArray⟩ := ⟨_, rfl⟩
  have hemp : wd.toList.isEmpty = false := by rw [hwd, ByteArray.toList_mk]; rfl
  have hemp2 : (wd.toList == []) = false := by rw [hwd, ByteArray.toList_mk]; rfl
  have HWD := hid hwd
  rw [← hwd] at hsz
  clear h1 hno hc hn hwd
  go_enter Tryz.func163, Tryz.ntmps163
  go_wp2_with fail
  refine (mark_no HR.out hs 33 rfl (HNO.out 33 rfl)).mono ?_
  rintro e w1 ⟨rfl, hR, hX⟩
  have HR1 := hid hR
  have HX1 := hid hX
  clear hR hX
  go_wp2_with fail
  refine (mark_no HR1.out hs 40 rfl (by rw [sk_sk]; exact HNO.out 40 rfl)).mono ?_
  rintro e w2 ⟨rfl, hR, hX⟩
  rw [sk_sk] at hR
  have HR2 := hid hR
  have HX2 := hid (HX1.out.trans hX)
  clear hR hX
  go_wp2_with fail
  refine (word_any HR2.out hs H1.out).mono ?_
  rintro e w3 ⟨rfl, hR, hX⟩
  rw [← HWD.out]
  have HR3 := hid hR
  have HX3 := hid (HX2.out.trans hX)
  clear hR hX
  go_wp2_with (go_at_call 40; refine (is_any _ _ hsz).mono ?_; rintro e w4 ⟨rfl, hX⟩; rw [show nameOk wd = true by rw [HWD.out]; exact HN.out]; have HR4 := hid (HR3.out.ext hX); have HX4 := hid (HX3.out.ext hX); clear hX)
  go_ret2
  exact ⟨_, rfl, by rw [← HWD.out]; exact own_one w4 HX4.out.size (nd2 wd), HR4.out.ext ((Below.refl _ _).alloc (Nat.le_refl _) _), HX4.out.alloc _⟩
theorem expr_all {b : Nat} {s : ByteArray} (hs : s.size ≤ 1000000) : ∀ n, PartC 99 b s (ExprOf (AtomD n))
 | 0 => expression_any (fun _ _ _ _ h => h.elim) (good_atom 0) hs
 | n + 1 => expression_any (atom_succ hs (expr_all hs n)) (good_atom (n + 1)) hs
end Go.Proofs.YtngpjagpeblbjaaGreatDoor
namespace Go.Proofs.YtngpjagpeblbjaaGreatDoor
open Go.RowKit Go.Spy Go.Rx
def ParsePost (l : List Nd) (w : World) (e : Ending) (w' : World) : Prop :=
 ∃ ao c, e = .returned (.tuple #[.agg #[.slice ao l.length c], .int .i64 0]) ∧ l.length ≤ c ∧ NodesV w' ao l ∧ Ext w w'
set_option maxRecDepth 100000 in
set_option maxHeartbeats 2000000 in
theorem parse_any {s : ByteArray} (hs : s.size ≤ 65536) {n : Nat} {l : List Nd} {r' : List UInt8} (h : ExprOf (AtomD n) s.data.toList l r') (hr : sk r' = []) (w : World) :
 Calls Tryz.prog 41 #[.string s] w (ParsePost l w) := by
 have hd : decide ((65536 : Int) < (s.size : Int)) = false := decide_eq_false (by omega)
 have HG := hid (good_row (good_row (good_item (good_atom n))) _ _ _ h)
 have H := hid h
 have HS := hid hr
 clear h hr
 go_enter Tryz.func41, Tryz.ntmps41
 go_wp2_with fail
 have hR0 : RdW ((w.alloc (.cells #[.slice none 0 0] 45)).alloc (.cells #[.string s, .int .i64 0, .bool false, .bool false] 154)) (w.heap.size + 1) s s.data.toList := ⟨0, Blk.new' _ _ _ (by simp), rfl, Nat.zero_le _⟩
 have hB0 : Blk ((w.alloc (.cells #[.slice none 0 0] 45)).alloc (.cells #[.string s, .int .i64 0, .bool false, .bool false] 154)) w.heap.size 45 #[.slice none 0 0] := (Blk.new w _ _).alloc _
 have hE0 : Ext w ((w.alloc (.cells #[.slice none 0 0] 45)).alloc (.cells #[.string s, .int .i64 0, .bool false, .bool false] 154)) := ((Below.refl _ w).alloc (Nat.le_refl _) _).alloc (by simp) _
 have hbl : w.heap.size + 1 < ((w.alloc (.cells #[.slice none 0 0] 45)).alloc (.cells #[.string s, .int .i64 0, .bool false, .bool false] 154)).heap.size := by simp
 refine (expr_all (by omega) n _ _ _ _ H.out hR0 hbl).mono ?_
 rintro e w2 ⟨v, rfl, hO, hR, hX⟩
 obtain ⟨ao, c, rfl, hc, hN, hbk⟩ := nodes_of_own hO (by have := HG.out.2; omega) (fun j m hm => by have := (HG.out.1 m (List.mem_of_getElem? hm)).2.2.2.2; omega)
 have HB2 := hid (hB0.chg hX (by show ¬ _ = _; omega))
 have HE2 := hid (Chg.below ((Chg.of_ext (S := (· = w.heap.size + 1)) hE0).trans hX) (Nat.le_refl _) (fun k e => by omega))
 have HN2 := hid hN
 have HR2 := hid hR
 have hbk2 : ∀ b off, ao = some ⟨b, off, none⟩ → w.heap.size + 2 ≤ b ∨ l.length = 0 := fun b off e => by have := hbk b off e; simpa using this
 have HK := hid hbk2
 clear hR0 hB0 hE0 hbl hO hR hX hN hbk hbk2
 go_wp2_with fail
 refine (blanks_any HR2.out (by omega)).mono ?_
 rintro e w3 ⟨rfl, hR, hX⟩
 rw [HS.out] at hR
 obtain ⟨j, hB, hA⟩ := hR
 have hj := hA.nil
 have c1 : w3.cell? ⟨w.heap.size + 1, 1, none⟩ = some (.int .i64 j) := hB.cell (i := 1) rfl
 have c2 : w3.cell? ⟨w.heap.size + 1, 2, none⟩ = some (.bool false) := hB.cell (i := 2) rfl
 have c3 : w3.cell? ⟨w.heap.size + 1, 3, none⟩ = some (.bool false) := hB.cell (i := 3) rfl
 have hlt : decide (j < s.size) = false := decide_eq_false (by omega)
 have hlt2 : decide ((j : Int) < (s.size : Int)) = false := decide_eq_false (by omega)
 have b3 := HB2.out.chg hX (by show ¬ _ = _; omega)
 have d0 : w3.cell? ⟨w.heap.size, 0, none⟩ = some (.slice none 0 0) := b3.cell (i := 0) rfl
 have f0 := b3.frozen 0
 have HB3 := hid b3
 have HX := hid hX
 clear hA hB hX hj b3
 go_wp2_with fail
 have z0 : (w3.setCell ⟨w.heap.size, 0, none⟩ (.slice ao l.length c)).cell? ⟨w.heap.size, 0, none⟩ = some (.slice ao l.length c) := (HB3.out.set 0 (.slice ao l.length c)).cell rfl
 refine bodyPost_ret (v := .tuple #[.agg #[.slice ao l.length c], .int .i64 0]) (by simp [results, Tryz.results41, go_sem, z0]) rfl ⟨ao, c, rfl, hc, ?_, ?_⟩
 ·by_cases hl : l.length = 0
  ·exact ⟨HN2.out.len, HN2.out.size, fun h => by omega⟩
  ·refine (HN2.out.chg HX.out (fun b off e => ?_)).chg (Chg.setCell (S := (· = w.heap.size)) (p := ⟨w.heap.size, 0, none⟩) (Chg.refl _ _) rfl _) (fun b off e => ?_)
   ·have := HK.out b off e; show ¬ _ = _; omega
   ·have := HK.out b off e; show ¬ _ = _; omega
 ·exact (Chg.below ((Chg.of_ext (S := (· = w.heap.size + 1)) HE2.out).trans HX.out) (Nat.le_refl _) (fun k e => by omega)).setCell (by simp) _
end Go.Proofs.YtngpjagpeblbjaaGreatDoor
namespace Go.Proofs.YtngpjagpeblbjaaGreatDoor
open Go.RowKit Go.Spy Go.Rx
def stC (x : List UInt8) : Array Value := #[.string ⟨x.toArray⟩]
theorem stC_size (x : List UInt8) : (stC x).size = 1 := rfl
theorem ones_stC (x : List UInt8) : Ones (stC x) := by
 intro v hv
 simp only [stC, List.mem_toArray, List.mem_cons, List.not_mem_nil, or_false] at hv
 subst hv; rfl
theorem elem_str : ElemOk Tryz.prog 22 9 1 16 where
 under := Tryz.underlying22
 info := by
  obtain ⟨i, h1, h2, h3, h4⟩ := info_parts (P := Tryz.prog) (e := 9) (z := .string ⟨#[]⟩) (size := 1) (bytes := 16) (by kernel_rfl)
  exact ⟨i, _, h1, h2, h3, h4, rfl⟩
 pos := by decide
 small := by decide
abbrev OwnT (w : World) (base : Nat) (v : Value) (l : List (List UInt8)) : Prop := OwnR w base 9 1 stC v l
def symsB (l : List Nd) : List (List UInt8) := (symsL l).map fun s => s.data.toList
theorem symsB_snoc {l : List Nd} {k : Nat} {n : Nd} (hn : l[k]? = some n) : symsB (l.take (k + 1)) = symsB (l.take k) ++ (if n.op = 2 then [n.sym.data.toList] else []) := by
 obtain ⟨hk, rfl⟩ := List.getElem?_eq_some_iff.1 hn
 unfold symsB symsL
 rw [List.take_succ_eq_append_getElem hk, List.filterMap_append, List.map_append]
 congr 1
 by_cases h : l[k].op = 2 <;> simp [symN, h]
theorem symsB_len (l : List Nd) (k : Nat) : (symsB (l.take k)).length ≤ k := by
 unfold symsB symsL
 rw [List.length_map]
 exact Nat.le_trans (List.length_filterMap_le _ _) (List.length_take_le _ _)
theorem bs_self (s : ByteArray) : (⟨s.data.toList.toArray⟩ : ByteArray) = s := by obtain ⟨⟨l⟩⟩ := s; rfl
set_option maxRecDepth 100000 in
set_option maxHeartbeats 2000000 in
theorem symbols_walk {l : List Nd} (F : Rx.Form l) {w : World} {ao : Option Addr} (hV : NodesV w ao l) (hN : NamesOk l) (cap : Nat) (hl : l.length ≤ 64) {Post : Ending → World → Prop}
 (hsort : ∀ w1 v, OwnT w1 w.heap.size v (symsB l) → Ext w w1 → Calls Tryz.prog 79 #[v] w1 fun e w2 => e = .returned (.tuple #[]) ∧ Calls Tryz.prog 80 #[v] w2 fun e w3 => ∃ v, e = .returned v ∧ Post (.returned v) w3) :
 Calls Tryz.prog 23 #[.agg #[.slice ao l.length cap]] w Post := by
 have h0 : 0 < l.length := List.length_pos_iff.2 F.ne
 have HV := hid hV
 have HN := hid hN
 have HF := hid F
 have HSORT := hid hsort
 clear hV hN F hsort
 go_enter Tryz.func23, Tryz.ntmps23
 go_wp2_with fail
 have hE0 : Ext w (w.alloc (.cells #[.slice ao l.length cap] 45)) := (Below.refl _ w).alloc (Nat.le_refl _) _
 refine (check_any (HV.out.ext hE0) cap).mono ?_
 rintro e w1 ⟨c, rfl, hC, hx⟩
 have hc0 : c = 0 := (checkC_zero hC).2 ⟨by omega, HF.out, HN.out⟩
 subst hc0
 have hB1 := (Blk.new w 45 #[.slice ao l.length cap]).ext hx
 have x0 : w1.cell? ⟨w.heap.size, 0, none⟩ = some (.slice ao l.length cap) := hB1.cell (i := 0) rfl
 have HE1 : Hid (Ext w w1) := hid (hE0.trans (hx.mono (by simp)))
 have hsz1 : w.heap.size ≤ w1.heap.size := Nat.le_of_lt hB1.lt
 clear hC hx hE0 hB1
 go_wp2_with fail
 go_loopg [3, 12] l.length (fun g v i wr => ∃ k, g = l.length - k ∧ k ≤ l.length ∧ i = .int .i64 k ∧ Hid (OwnT wr w.heap.size v (symsB (l.take k))) ∧ Hid (Ext w wr))
 case atStart => exact ⟨0, rfl, Nat.zero_le _, rfl, hid (OwnR.nil _ _ _ _ _), HE1⟩
 case round =>
  obtain ⟨k, rfl, hk, rfl, HO, HE⟩ := hrel
  by_cases hlt : k < l.length
  ·obtain ⟨n, hn⟩ : ∃ n, l[k]? = some n := ⟨_, List.getElem?_eq_getElem hlt⟩
   obtain ⟨b, off, rfl, hb, hc⟩ := (HV.out.ext HE.out).cells h0
   obtain ⟨q0, q1, q2, q3⟩ := hc k n hn
   have HSN := hid (symsB_snoc hn)
   have hlen := symsB_len l k
   have hsz := HE.out.size
   clear hc hn
   by_cases ho : n.op = 2
   ·have ht : (n.op == 2) = true := by simp [ho]
    have HOp := hid ho
    have HO2 := hid (HO.out.alloc (.cells #[.int .i64 n.op, .string n.sym, .int .i64 n.a, .int .i64 n.b] 100))
    clear ho
    go_wp2_with (first | (at_builtin; go_must (refine wpList_append_R elem_str stC_size ones_stC HO2 (by simp; omega) (by omega) n.sym.data.toList _ (by rw [stC, bs_self]) (wr.heap.size + 1) (by simp) rfl _ _ rfl rfl rfl ?_); rintro g' cap' v' w4 rfl H1 H2))
    go_roundg (l.length - (k + 1))
    case measure => omega
    case rel =>
     refine ⟨k + 1, rfl, by omega, by go_num, hid ?_, hid (ext_grown (HE.out.alloc HE.out.size _) H2.out.1 (fun i hi => (HO.out.lt i hi).1))⟩
     rw [HSN.out, if_pos HOp.out]
     exact H1.out
   ·have ht : (n.op == 2) = false := beq_eq_false_iff_ne.2 ho
    have HOp := hid ho
    clear ho
    go_wp2_with fail
    go_roundg (l.length - (k + 1))
    case measure => omega
    case rel => exact ⟨k + 1, rfl, by omega, by go_num, hid (by rw [HSN.out, if_neg HOp.out, List.append_nil]; exact HO.out.alloc _), hid (HE.out.alloc HE.out.size _)⟩
  ·obtain rfl : k = l.length := by omega
   have hO := HO.out
   rw [List.take_length] at hO
   have HCS := hid (HSORT.out _ _ hO HE.out)
   clear hO
   go_wp2_with fail
   refine HCS.out.mono ?_
   rintro e w2 ⟨rfl, hcomp⟩
   have HC2 := hid hcomp
   clear hcomp
   go_wp2_with fail
   refine HC2.out.mono ?_
   rintro e w3 ⟨v, rfl, hP⟩
   have HP := hid hP
   clear hP
   go_wp2_with fail
   exact HP.out
end Go.Proofs.YtngpjagpeblbjaaGreatDoor
namespace Go.Proofs
open Go.Shelf
def Tryz.lays190_ren : Go.Shelf.Ren := ⟨fun | 190 => 79 | 125 => 113 | 258 => 112 | 128 => 146 | 129 => 147 | 302 => 138 | 303 => 139 | 304 => 140 | 305 => 141 | 306 => 142 | 307 => 143 | 308 => 109 | 309 => 144 | 310 => 145 | 333 => 157 | 329 => 158 | 330 => 159 | 334 => 160 | 335 => 161 | 336 => 137 | 344 => 166 | n => n, fun | 31 => 22 | 9 => 9 | 3 => 3 | 46 => 174 | 0 => 0 | 51 => 215 | 53 => 103 | 4 => 4 | 183 => 209 | 182 => 208 | 131 => 106 | 5 => 5 | 218 => 228 | 222 => 232 | 228 => 237 | 229 => 238 | n => n, fun | n => n⟩
theorem Tryz.lays190 : Go.Proofs.Lays.n190 Tryz.prog Tryz.lays190_ren := {
 mixed := by kernel_rfl
 f125 := Tryz.func113.trans (congrArg some (by kernel_rfl))
 f128 := Tryz.func146.trans (congrArg some (by kernel_rfl))
 f129 := Tryz.func147.trans (congrArg some (by kernel_rfl))
 f190 := Tryz.func79.trans (congrArg some (by kernel_rfl))
 f258 := Tryz.func112.trans (congrArg some (by kernel_rfl))
 f302 := Tryz.func138.trans (congrArg some (by kernel_rfl))
 f303 := Tryz.func139.trans (congrArg some (by kernel_rfl))
 f304 := Tryz.func140.trans (congrArg some (by kernel_rfl))
 f305 := Tryz.func141.trans (congrArg some (by kernel_rfl))
 f306 := Tryz.func142.trans (congrArg some (by kernel_rfl))
 f307 := Tryz.func143.trans (congrArg some (by kernel_rfl))
 f308 := Tryz.func109.trans (congrArg some (by kernel_rfl))
 f309 := Tryz.func144.trans (congrArg some (by kernel_rfl))
 f310 := Tryz.func145.trans (congrArg some (by kernel_rfl))
 f329 := Tryz.func158.trans (congrArg some (by kernel_rfl))
 f330 := Tryz.func159.trans (congrArg some (by kernel_rfl))
 f333 := Tryz.func157.trans (congrArg some (by kernel_rfl))
 f334 := Tryz.func160.trans (congrArg some (by kernel_rfl))
 f335 := Tryz.func161.trans (congrArg some (by kernel_rfl))
 f336 := Tryz.func137.trans (congrArg some (by kernel_rfl))
 f344 := Tryz.func166.trans (congrArg some (by kernel_rfl))
 t0 := Tryz.underlying0
 a0 := Tryz.isAgg0
 z0 := Tryz.sizeOf0
 v0 := Tryz.zeroValue0
 t3 := Tryz.underlying3
 a3 := Tryz.isAgg3
 z3 := Tryz.sizeOf3
 v3 := Tryz.zeroValue3
 t4 := Tryz.underlying4
 a4 := Tryz.isAgg4
 z4 := Tryz.sizeOf4
 v4 := Tryz.zeroValue4
 t5 := Tryz.underlying5
 a5 := Tryz.isAgg5
 z5 := Tryz.sizeOf5
 v5 := Tryz.zeroValue5
 t9 := Tryz.underlying9
 a9 := Tryz.isAgg9
 z9 := Tryz.sizeOf9
 v9 := Tryz.zeroValue9
 t31 := Tryz.underlying22
 a31 := Tryz.isAgg22
 z31 := Tryz.sizeOf22
 v31 := Tryz.zeroValue22
 t46 := Tryz.underlying174
 a46 := Tryz.isAgg174
 z46 := Tryz.sizeOf174
 v46 := Tryz.zeroValue174
 t51 := Tryz.underlying215
 a51 := Tryz.isAgg215
 z51 := Tryz.sizeOf215
 v51 := Tryz.zeroValue215
 t53 := Tryz.underlying103
 a53 := Tryz.isAgg103
 z53 := Tryz.sizeOf103
 v53 := Tryz.zeroValue103
 t131 := Tryz.underlying106
 a131 := Tryz.isAgg106
 z131 := Tryz.sizeOf106
 v131 := Tryz.zeroValue106
 t182 := Tryz.underlying208
 a182 := Tryz.isAgg208
 z182 := Tryz.sizeOf208
 v182 := Tryz.zeroValue208
 t183 := Tryz.underlying209
 a183 := Tryz.isAgg209
 z183 := Tryz.sizeOf209
 v183 := Tryz.zeroValue209
 t218 := Tryz.underlying228
 a218 := Tryz.isAgg228
 z218 := Tryz.sizeOf228
 v218 := Tryz.zeroValue228
 t222 := Tryz.underlying232
 a222 := Tryz.isAgg232
 z222 := Tryz.sizeOf232
 v222 := Tryz.zeroValue232
 t228 := Tryz.underlying237
 a228 := Tryz.isAgg237
 z228 := Tryz.sizeOf237
 v228 := Tryz.zeroValue237
 t229 := Tryz.underlying238
 a229 := Tryz.isAgg238
 z229 := Tryz.sizeOf238
 v229 := Tryz.zeroValue238 }
open Go.Sort Go.RowKit in
theorem Tryz.slices_Sort_string (blk off cap : Nat) (ss : List (List UInt8)) (w : World) (hH : Holds encStr w blk off ss.toArray) (hblk : blk < w.heap.size) (hsz : ss.length < 4611686018427387904) :
 Calls Tryz.prog 79 #[.slice (some ⟨blk, off, none⟩) ss.length cap] w fun e w' =>
  e = .returned (.tuple #[]) ∧ ∃ n os, w' = grow (putRow encStr (Sort.ahead w n) blk off (ss.mergeSort fun x y => decide (x ≤ y)).toArray) os := Any.slices_Sort_string Tryz.lays190 blk off cap ss w hH hblk hsz
def Tryz.laysNm217_ren : Go.Shelf.Ren := ⟨fun | 17 => 107 | n => n, fun | 24 => 22 | 9 => 9 | 3 => 3 | 4 => 4 | 0 => 0 | n => n, fun | n => n⟩
theorem Tryz.laysNm217 : Go.Proofs.Lays2.n17 Tryz.prog Tryz.laysNm217_ren := {
 mixed := by kernel_rfl
 f17 := Tryz.func107.trans (congrArg some (by kernel_rfl))
 t0 := Tryz.underlying0
 a0 := Tryz.isAgg0
 z0 := Tryz.sizeOf0
 v0 := Tryz.zeroValue0
 t3 := Tryz.underlying3
 a3 := Tryz.isAgg3
 z3 := Tryz.sizeOf3
 v3 := Tryz.zeroValue3
 t4 := Tryz.underlying4
 a4 := Tryz.isAgg4
 z4 := Tryz.sizeOf4
 v4 := Tryz.zeroValue4
 t9 := Tryz.underlying9
 a9 := Tryz.isAgg9
 z9 := Tryz.sizeOf9
 v9 := Tryz.zeroValue9
 t24 := Tryz.underlying22
 a24 := Tryz.isAgg22
 z24 := Tryz.sizeOf22
 v24 := Tryz.zeroValue22 }
open Go.RowKit Go.Lib Go.Sort in
theorem Tryz.slices_Reverse_string (blk off cap : Nat) (zs : List (List UInt8)) (w : World) (hH : Holds encStr w blk off zs.toArray) (hsz : zs.length ≤ 9223372036854775807) :
 Calls Tryz.prog 107 #[.slice (some ⟨blk, off, none⟩) zs.length cap] w fun e w' => e = .returned (.tuple #[]) ∧ ∃ n, w' = putRow encStr (Sort.ahead w n) blk off zs.reverse.toArray := Any.slices_Reverse_string Tryz.laysNm217 blk off cap zs w hH hsz
open Go.RowKit Go.Lib Go.Sort in
theorem Tryz.slices_Reverse_string_empty (a : Option Addr) (cap : Nat) (w : World) :
 Calls Tryz.prog 107 #[.slice a 0 cap] w fun e w' => e = .returned (.tuple #[]) ∧ w' = w := Any.slices_Reverse_string_empty Tryz.laysNm217 a cap w
def Tryz.laysNm216_ren : Go.Shelf.Ren := ⟨fun | 16 => 42 | n => n, fun | 24 => 22 | 9 => 9 | 4 => 4 | n => n, fun | n => n⟩
theorem Tryz.laysNm216 : Go.Proofs.Lays2.n16 Tryz.prog Tryz.laysNm216_ren := {
 mixed := by kernel_rfl
 f16 := Tryz.func42.trans (congrArg some (by kernel_rfl))
 t4 := Tryz.underlying4
 a4 := Tryz.isAgg4
 z4 := Tryz.sizeOf4
 v4 := Tryz.zeroValue4
 t9 := Tryz.underlying9
 a9 := Tryz.isAgg9
 z9 := Tryz.sizeOf9
 v9 := Tryz.zeroValue9
 t24 := Tryz.underlying22
 a24 := Tryz.isAgg22
 z24 := Tryz.sizeOf22
 v24 := Tryz.zeroValue22
 i9 := by kernel_rfl }
open Go.RowKit Go.Lib in
theorem Tryz.slices_Clone_string (b off n c : Nat) (zs : List ByteArray) (w : World) (hz : n ≤ zs.length) (hbig : n * 16 ≤ 140737488355328) (hc : ∀ j, j < zs.length → w.cell? ⟨b, off + j, none⟩ = some (.string (zs.getD j ByteArray.empty))) :
 Calls Tryz.prog 42 #[.slice (some ⟨b, off, none⟩) n c] w fun e w' => ∃ v', e = .returned v' ∧ w'.ownsRow w.heap.size 9 1 v' n ((zs.take n).map (Value.string)) ∧ v' ≠ .slice none 0 0 ∧ Below w.heap.size w w' := Any.slices_Clone_string Tryz.laysNm216 b off n c zs w hz hbig hc
open Go.RowKit Go.Lib in
theorem Tryz.slices_Clone_string_nil (n c : Nat) (w : World) :
 Calls Tryz.prog 42 #[.slice none n c] w fun e w' => e = .returned (.slice none 0 0) ∧ w' = w := Any.slices_Clone_string_nil Tryz.laysNm216 n c w
open Go.RowKit Go.Lib in
theorem Tryz.slices_Clone_string_zero (a : Addr) (c : Nat) (w : World) :
 Calls Tryz.prog 42 #[.slice (some a) 0 c] w fun e w' => ∃ v', e = .returned v' ∧ w'.ownsRow w.heap.size 9 1 v' 0 [] ∧ v' ≠ .slice none 0 0 ∧ Below w.heap.size w w' := Any.slices_Clone_string_zero Tryz.laysNm216 a c w
def Tryz.lays194_ren : Go.Shelf.Ren := ⟨fun | 194 => 80 | n => n, fun | 31 => 22 | 9 => 9 | 3 => 3 | 4 => 4 | 0 => 0 | n => n, fun | n => n⟩
theorem Tryz.lays194 : Go.Proofs.Lays.n194 Tryz.prog Tryz.lays194_ren := {
 mixed := by kernel_rfl
 f194 := Tryz.func80.trans (congrArg some (by kernel_rfl))
 t0 := Tryz.underlying0
 a0 := Tryz.isAgg0
 z0 := Tryz.sizeOf0
 v0 := Tryz.zeroValue0
 t3 := Tryz.underlying3
 a3 := Tryz.isAgg3
 z3 := Tryz.sizeOf3
 v3 := Tryz.zeroValue3
 t4 := Tryz.underlying4
 a4 := Tryz.isAgg4
 z4 := Tryz.sizeOf4
 v4 := Tryz.zeroValue4
 t9 := Tryz.underlying9
 a9 := Tryz.isAgg9
 z9 := Tryz.sizeOf9
 v9 := Tryz.zeroValue9
 t31 := Tryz.underlying22
 a31 := Tryz.isAgg22
 z31 := Tryz.sizeOf22
 v31 := Tryz.zeroValue22 }
open Go.RowKit Go.Lib Go.Sort in
theorem Tryz.slices_Compact_string (blk off cap : Nat) (zs : List (List UInt8)) (w : World) (hH : Holds encStr w blk off zs.toArray) (hsz : zs.length ≤ 9223372036854775807) (hcap : zs.length ≤ cap) :
 Calls Tryz.prog 80 #[.slice (some ⟨blk, off, none⟩) zs.length cap] w fun e w' => e = .returned (.slice (some ⟨blk, off, none⟩) (Lib.compact zs).length cap) ∧ ∃ q, w' = putRow encStr (Sort.ahead w q) blk off (Lib.compact zs ++ List.replicate (zs.length - (Lib.compact zs).length) []).toArray := Any.slices_Compact_string Tryz.lays194 blk off cap zs w hH hsz hcap
open Go.RowKit Go.Lib Go.Sort in
theorem Tryz.slices_Compact_string_empty (a : Option Addr) (cap : Nat) (w : World) :
 Calls Tryz.prog 80 #[.slice a 0 cap] w fun e w' => e = .returned (.slice a 0 cap) ∧ w' = w := Any.slices_Compact_string_empty Tryz.lays194 a cap w
open Go.RowKit Go.Sort in
theorem Tryz.slices_Sort_string_none (p : Option Addr) (cap : Nat) (w : World) :
 Calls Tryz.prog 79 #[.slice p 0 cap] w fun e w' => e = .returned (.tuple #[]) ∧ w' = w := Any.slices_Sort_string_none Tryz.lays190 p cap w
end Go.Proofs
namespace Go.Spy
open Go.RowKit Go.Sort
theorem flat_one {α β : Type} (f : α → β) (l : List α) : (l.flatMap fun x => (#[f x] : Array β).toList) = l.map f := by
 induction l with
 | nil => rfl
 | cons x l ih => rw [List.flatMap_cons, ih]; rfl
def srt (ss : List (List UInt8)) : List (List UInt8) := Lib.compact (ss.mergeSort fun x y => decide (x ≤ y))
theorem srt_len (ss : List (List UInt8)) : (srt ss).length ≤ ss.length := by
 have h1 := Lib.compact_length_le (ss.mergeSort fun x y => decide (x ≤ y))
 rwa [List.length_mergeSort] at h1
theorem srt_nil : srt [] = [] := List.length_eq_zero_iff.1 (Nat.le_zero.1 (srt_len []))
end Go.Spy
namespace Go.Proofs.YtngpjagpeblbjaaGreatDoor
open Go.RowKit Go.Spy Go.Rx Go.Sort
theorem ownT_iff {w : World} {base : Nat} {v : Value} {ss : List (List UInt8)} : OwnT w base v ss ↔ w.ownsRow base 9 1 v ss.length (ss.map encStr) := by
 unfold OwnT OwnR stC
 rw [flat_one encStr ss]
def SrtPost (base : Nat) (ss : List (List UInt8)) (w1 : World) (e : Ending) (w3 : World) : Prop := ∃ v, e = .returned v ∧ OwnT w3 base v (srt ss) ∧ Below base w1 w3
theorem sort_compact {w1 : World} {base : Nat} {v : Value} {ss : List (List UInt8)} (h : OwnT w1 base v ss) (hl : ss.length ≤ 1000000000) (hb : base ≤ w1.heap.size) :
 Calls Tryz.prog 79 #[v] w1 fun e w2 => e = .returned (.tuple #[]) ∧ Calls Tryz.prog 80 #[v] w2 (SrtPost base ss w1) := by
 have h' := ownT_iff.1 h
 by_cases hv : v = .slice none 0 0
 ·subst hv
  have h0 : ss = [] := by
   rcases h'.2 with ⟨_, h0⟩ | ⟨g, cap, cur, e, _⟩
   ·exact List.length_eq_zero_iff.1 h0
   ·cases e
  subst h0
  refine (Tryz.slices_Sort_string_none none 0 w1).mono ?_
  rintro e w2 ⟨rfl, rfl⟩
  refine ⟨rfl, (Tryz.slices_Compact_string_empty none 0 w2).mono ?_⟩
  rintro e w3 ⟨rfl, rfl⟩
  exact ⟨_, rfl, by rw [srt_nil]; exact h, Below.refl _ _⟩
 ·obtain ⟨g, cap, rfl, hbg, hgl, hncap, hcm, hlen, hH⟩ := Lib.holds_of_ownsRow h' hv
  refine (Tryz.slices_Sort_string g 0 cap ss w1 hH hgl (by omega)).mono ?_
  rintro e w2 ⟨rfl, nn, os, rfl⟩
  have hl2 : (ss.mergeSort fun x y => decide (x ≤ y)).length = ss.length := List.length_mergeSort ss
  have hH2 : Holds encStr (grow (putRow encStr (Sort.ahead w1 nn) g 0 (ss.mergeSort fun x y => decide (x ≤ y)).toArray) os) g 0 (ss.mergeSort fun x y => decide (x ≤ y)).toArray :=
   holds_grow encStr _ os g 0 _ (by simpa [putRow, mapBlock, Sort.ahead] using hgl) (holds_putRow encStr _ g 0 _ _ (holds_ahead encStr w1 nn g 0 _ hH) (by simp))
  have hcomp := Tryz.slices_Compact_string g 0 cap (ss.mergeSort fun x y => decide (x ≤ y)) _ hH2 (by omega) (by omega)
  rw [hl2] at hcomp
  refine ⟨rfl, hcomp.mono ?_⟩
  rintro e w3 ⟨rfl, q, rfl⟩
  have hle := Lib.compact_length_le (ss.mergeSort fun x y => decide (x ≤ y))
  rcases h'.2 with ⟨h0, _⟩ | ⟨g', cap', cur, hv', hbase, hbk, h1, h2, h3, h4⟩
  ·cases h0
  cases hv'
  have hs := ownsRow_sorted (n := nn) (os := os) (ts := ss.mergeSort fun x y => decide (x ≤ y)) hl2 hbase hbk h1 h2 h3
  have hc := Lib.ownsRow_putRow (q := q) (k := (Lib.compact (ss.mergeSort fun x y => decide (x ≤ y))).length) (ys := Lib.compact (ss.mergeSort fun x y => decide (x ≤ y)) ++ List.replicate (ss.length - (Lib.compact (ss.mergeSort fun x y => decide (x ≤ y))).length) []) hs (by simp; omega) (by omega)
  rw [List.take_left] at hc
  exact ⟨_, rfl, ownT_iff.2 hc, Lib.below_putRow ((Below.refl base w1).grown (grownBy_sorted _) hb (fun j hj => by cases hj; exact hbase)) hbg⟩
def SymPost (l : List Nd) (w : World) (e : Ending) (w' : World) : Prop := ∃ v, e = .returned v ∧ OwnT w' w.heap.size v (srt (symsB l)) ∧ Ext w w'
theorem symbols_any {l : List Nd} (F : Rx.Form l) {w : World} {ao : Option Addr} (hV : NodesV w ao l) (hN : NamesOk l) (cap : Nat) (hl : l.length ≤ 64) :
 Calls Tryz.prog 23 #[.agg #[.slice ao l.length cap]] w (SymPost l w) := by
 refine symbols_walk F hV hN cap hl fun w1 v hO hX => ?_
 have hlen : (symsB l).length ≤ l.length := by have := symsB_len l l.length; rwa [List.take_length] at this
 refine (sort_compact hO (by omega) hX.size).mono ?_
 rintro e w2 ⟨he, h2⟩
 refine ⟨he, h2.mono ?_⟩
 rintro e w3 ⟨v3, rfl, hO3, hB⟩
 exact ⟨v3, rfl, v3, rfl, hO3, hX.trans hB⟩
end Go.Proofs.YtngpjagpeblbjaaGreatDoor
namespace Go.Proofs.YtngpjagpeblbjaaGreatDoor
open Go.RowKit Go.Spy
def cmpI (a b : Int) : Int := if a < b then -1 else if b < a then 1 else 0
def thingV (t : Int) : Value := .agg #[.int .i64 t]
abbrev It := Int × Int
def itemV (t : It) : Value := .agg #[.int .i64 t.1, .int .u64 t.2]
def aheadB (f : Int → Int → Int) (x y : It) : Bool := decide (f x.1 y.1 < 0) || (decide (f x.1 y.1 = 0) && decide (x.2 < y.2))
set_option maxHeartbeats 400000 in
theorem nan_int (a : Int) (w : World) : Calls Tryz.prog 154 #[.int .i64 a] w fun e w' => e = .returned (.bool false) ∧ w = w' := by
 go_enter Tryz.func154, Tryz.ntmps154
 go_wp2_with fail
 go_ret
 exact ⟨rfl, rfl⟩
set_option maxHeartbeats 400000 in
theorem compare_any (a b : Int) (w : World) : Calls Tryz.prog 130 #[.int .i64 a, .int .i64 b] w fun e w' => e = .returned (.int .i64 (cmpI a b)) ∧ w = w' := by
 by_cases h1 : a < b
 ·have HR : Hid (cmpI a b = -1) := by simp [Hid, cmpI, h1]
  go_enter Tryz.func130, Tryz.ntmps130
  go_wp2_with (go_at_call 154; refine (nan_int _ _).mono ?_; rintro e w' ⟨rfl, rfl⟩)
  go_ret
  exact ⟨ret_int HR.out.symm, rfl⟩
 ·by_cases h2 : b < a
  ·have HR : Hid (cmpI a b = 1) := by simp [Hid, cmpI, h1, h2]
   go_enter Tryz.func130, Tryz.ntmps130
   go_wp2_with (go_at_call 154; refine (nan_int _ _).mono ?_; rintro e w' ⟨rfl, rfl⟩)
   go_ret
   exact ⟨ret_int HR.out.symm, rfl⟩
  ·have HR : Hid (cmpI a b = 0) := by simp [Hid, cmpI, h1, h2]
   go_enter Tryz.func130, Tryz.ntmps130
   go_wp2_with (go_at_call 154; refine (nan_int _ _).mono ?_; rintro e w' ⟨rfl, rfl⟩)
   go_ret
   exact ⟨ret_int HR.out.symm, rfl⟩
theorem compare_is (a b c : Int) (HC : Hid (c = cmpI a b)) (w : World) : Calls Tryz.prog 130 #[.int .i64 a, .int .i64 b] w fun e w' => e = .returned (.int .i64 c) ∧ w = w' := by
 rw [HC.out]; exact compare_any a b w
set_option maxHeartbeats 400000 in
theorem order_is (a b c : Int) (HC : Hid (c = cmpI a b)) (w : World) :
 Calls Tryz.prog 103 #[.agg #[.int .i64 a], .agg #[.int .i64 b]] w fun e w' => e = .returned (.int .i64 c) ∧ Ext w w' := by
 have h0 : Ext w ((w.alloc (.cells #[.int .i64 a] 165)).alloc (.cells #[.int .i64 b] 165)) :=
  ((Below.refl _ _).alloc (Nat.le_refl _) _).alloc (by simp) _
 go_enter Tryz.func103, Tryz.ntmps103
 go_wp2_with (go_at_call 130; refine (compare_is _ _ _ HC _).mono ?_; rintro e w' ⟨rfl, rfl⟩)
 go_ret
 exact ⟨rfl, h0⟩
set_option maxHeartbeats 800000 in
theorem ahead_any (x y : It) (bo : Nat) (w : World) (hf : w.cell? ⟨bo, 0, none⟩ = some (.func (.func 103) #[] #[])) (hb : bo < w.heap.size) :
 Calls Tryz.prog 129 #[itemV x, itemV y, .pointer (some ⟨bo, 0, none⟩)] w fun e w' => e = .returned (.bool (aheadB cmpI x y)) ∧ Ext w w' := by
 obtain ⟨r1, n1⟩ := x
 obtain ⟨r2, n2⟩ := y
 obtain ⟨c, hc⟩ : ∃ c, c = cmpI r1 r2 := ⟨_, rfl⟩
 have HR : aheadB cmpI (r1, n1) (r2, n2) = (decide (c < 0) || (decide (c = 0) && decide (n1 < n2))) := by rw [hc]; rfl
 rw [HR]
 have HC := hid hc
 clear HR hc
 show Calls Tryz.prog 129 #[.agg #[.int .i64 r1, .int .u64 n1], .agg #[.int .i64 r2, .int .u64 n2], .pointer (some ⟨bo, 0, none⟩)] w _
 have h0 : Ext w ((w.alloc (.cells #[.int .i64 r1, .int .u64 n1] 194)).alloc (.cells #[.int .i64 r2, .int .u64 n2] 194)) :=
  ((Below.refl _ _).alloc (Nat.le_refl _) _).alloc (by simp) _
 have step : ∀ b : Bool, Hid (b = (decide (c < 0) || (decide (c = 0) && decide (n1 < n2)))) → Calls Tryz.prog 129 #[.agg #[.int .i64 r1, .int .u64 n1], .agg #[.int .i64 r2, .int .u64 n2], .pointer (some ⟨bo, 0, none⟩)] w fun e w' => e = .returned (.bool b) ∧ Ext w w' := by
  intro b HB
  rcases (show c < 0 ∨ c = 0 ∧ n1 < n2 ∨ c = 0 ∧ ¬ n1 < n2 ∨ 0 < c by omega) with k0 | ⟨rfl, k0⟩ | ⟨rfl, k0⟩ | k0
  all_goals
   first
    | (have k1 : (c == 0) = false := by rw [beq_eq_false_iff_ne]; omega)
    | skip
   go_enter Tryz.func129, Tryz.ntmps129
   go_wp2_with (go_at_call 103; refine (order_is r1 r2 _ HC _).mono ?_; rintro e w1 ⟨rfl, h1⟩; have c1 : w1.cell? ⟨w.heap.size, 1, none⟩ = some (.int .u64 n1) := (((Blk.new w 194 #[.int .i64 r1, .int .u64 n1]).alloc _).ext h1).cell rfl; have c2 : w1.cell? ⟨w.heap.size + 1, 1, none⟩ = some (.int .u64 n2) := ((Blk.new' _ 194 #[.int .i64 r2, .int .u64 n2] (by simp)).ext h1).cell rfl)
   go_ret
   exact ⟨ret_bool (by rw [HB.out]; simp <;> omega), ext_trans h0 h1⟩
 exact step _ rfl
structure OrdOk (F : Nat) (f : Int → Int → Int) : Prop where
 ahead : ∀ (x y : It) (bo : Nat) (w : World), w.cell? ⟨bo, 0, none⟩ = some (.func (.func F) #[] #[]) → bo < w.heap.size →
  Calls Tryz.prog 129 #[itemV x, itemV y, .pointer (some ⟨bo, 0, none⟩)] w fun e w' => e = .returned (.bool (aheadB f x y)) ∧ Ext w w'
theorem ord103 : OrdOk 103 cmpI := ⟨ahead_any⟩
def itemC (x : It) : List Value := [.int .i64 x.1, .int .u64 x.2]
def pairC (x : Int × Int) : List Value := [.int .i64 x.1, .int .i64 x.2]
structure Pile (w : World) (base q bo : Nat) (F : Nat) (vI vS : Value) (d : List It) (sw : List (Int × Int)) (put : Int) : Prop where
 blk : Blk w q 200 #[vI, vS, .func (.func 129) #[] #[.pointer (some ⟨bo, 0, none⟩)], .int .u64 put]
 ord : Blk w bo 166 #[.func (.func F) #[] #[]]
 items : w.ownsRow base 194 2 vI d.length (d.flatMap itemC)
 swaps : w.ownsRow base 83 2 vS sw.length (sw.flatMap pairC)
 hq : base ≤ q
def own (q : Nat) (vI vS : Value) (k : Nat) : Prop := k = q ∨ vI.ownBlock = some k ∨ vS.ownBlock = some k
theorem slice_form {w : World} {base n size : Nat} {e : TypeId} {v : Value} {xs : List Value} (h : w.ownsRow base e size v n xs) : ∃ ao cap, v = .slice ao n cap ∧ n ≤ cap ∧ (0 < n → ∃ g, ao = some ⟨g, 0, none⟩) := by
 rcases h.2 with ⟨rfl, rfl⟩ | ⟨g, cap, cur, rfl, _, _, hnc, _⟩
 ·exact ⟨none, 0, rfl, Nat.le_refl _, fun h => by omega⟩
 ·exact ⟨_, cap, rfl, hnc, fun _ => ⟨g, rfl⟩⟩
set_option maxHeartbeats 400000 in
theorem plen_any {w : World} {base q bo F : Nat} {vI vS : Value} {d : List It} {sw : List (Int × Int)} {put : Int} (h : Pile w base q bo F vI vS d sw put) :
 Calls Tryz.prog 188 #[.pointer (some ⟨q, 0, none⟩)] w fun e w' => e = .returned (.int .i64 d.length) ∧ w' = w := by
 obtain ⟨ao, cap, rfl, _, _⟩ := slice_form h.items
 have c0 : w.cell? ⟨q, 0, none⟩ = some (.slice ao d.length cap) := h.blk.cell rfl
 go_enter Tryz.func188, Tryz.ntmps188
 go_wp2_with fail
 go_ret
 exact ⟨rfl, rfl⟩
end Go.Proofs.YtngpjagpeblbjaaGreatDoor
namespace Go.Proofs.YtngpjagpeblbjaaGreatDoor
open Go.RowKit Go.Spy
theorem flat_get {α β : Type} (f : α → List β) (s : Nat) (hf : ∀ x, (f x).length = s) : ∀ (d : List α) (j k : Nat), k < s → (d.flatMap f)[j * s + k]? = (d[j]?).bind (fun x => (f x)[k]?)
 | [], j, k, hk => by simp
 | x :: d, 0, k, hk => by
   simp only [List.flatMap_cons, Nat.zero_mul, Nat.zero_add, List.getElem?_cons_zero, Option.bind_some]
   rw [List.getElem?_append_left (by rw [hf]; exact hk)]
 | x :: d, j + 1, k, hk => by
   simp only [List.flatMap_cons, List.getElem?_cons_succ]
   rw [List.getElem?_append_right (by rw [hf, Nat.succ_mul]; omega), ← flat_get f s hf d j k hk, hf]
   congr 1
   rw [Nat.succ_mul]; omega
theorem flat_len {α β : Type} (f : α → List β) (s : Nat) (hf : ∀ x, (f x).length = s) (d : List α) : (d.flatMap f).length = d.length * s := by
 induction d with
 | nil => simp
 | cons x d ih => simp [ih, hf, Nat.succ_mul, Nat.add_comm]
theorem itemC_len (x : It) : (itemC x).length = 2 := rfl
theorem item_cells {w : World} {base g cap n : Nat} {d : List It} (h : w.ownsRow base 194 2 (.slice (some ⟨g, 0, none⟩) n cap) n (d.flatMap itemC)) {j : Nat} {x : It} (hx : d[j]? = some x) :
 w.cell? ⟨g, j * 2, none⟩ = some (.int .i64 x.1) ∧ w.cell? ⟨g, j * 2 + 1, none⟩ = some (.int .u64 x.2) := by
 rcases h.2 with ⟨h0, _⟩ | ⟨g', cap', cur, hv, hb, hg, hnc, hcm, hcs, ht⟩
 ·simp at h0
 ·simp only [Value.slice.injEq, Option.some.injEq, Addr.mk.injEq, and_true, true_and] at hv
  obtain ⟨rfl, rfl⟩ := hv
  have hn : n = d.length := by
   have := h.1
   rw [flat_len itemC 2 itemC_len] at this
   omega
  have key : ∀ k, k < 2 → w.cell? ⟨g, j * 2 + k, none⟩ = (itemC x)[k]? := by
   intro k hk
   have h1 := flat_get itemC 2 itemC_len d j k hk
   rw [hx, Option.bind_some, ← ht] at h1
   have hj : j < d.length := (List.getElem?_eq_some_iff.1 hx).1
   rw [List.getElem?_take, if_pos (by omega)] at h1
   simp [World.cell?, hg, ← h1]
  exact ⟨key 0 (by omega), key 1 (by omega)⟩
set_option maxHeartbeats 800000 in
set_option maxRecDepth 100000 in
theorem less_any {F : Nat} {f : Int → Int → Int} (O : OrdOk F f) {w : World} {base q bo : Nat} {vI vS : Value} {d : List It} {sw : List (Int × Int)} {put : Int} (h : Pile w base q bo F vI vS d sw put)
 (i j : Nat) (x y : It) (hi : d[i]? = some x) (hj : d[j]? = some y) :
 Calls Tryz.prog 189 #[.pointer (some ⟨q, 0, none⟩), .int .i64 i, .int .i64 j] w fun e w' => e = .returned (.bool (aheadB f x y)) ∧ Ext w w' := by
 have hil : i < d.length := (List.getElem?_eq_some_iff.1 hi).1
 have hjl : j < d.length := (List.getElem?_eq_some_iff.1 hj).1
 obtain ⟨ao, cap, rfl, hcap, hg⟩ := slice_form h.items
 obtain ⟨g, rfl⟩ := hg (by omega)
 obtain ⟨x0, x1⟩ := item_cells h.items hi
 obtain ⟨y0, y1⟩ := item_cells h.items hj
 have c0 : w.cell? ⟨q, 0, none⟩ = some (.slice (some ⟨g, 0, none⟩) d.length cap) := h.blk.cell rfl
 have c2 : w.cell? ⟨q, 2, none⟩ = some (.func (.func 129) #[] #[.pointer (some ⟨bo, 0, none⟩)]) := h.blk.cell rfl
 have ob : w.cell? ⟨bo, 0, none⟩ = some (.func (.func F) #[] #[]) := h.ord.cell rfl
 have ol := h.ord.lt
 clear h
 go_enter Tryz.func189, Tryz.ntmps189
 go_wp2_with fail
 go_still_tail 18, (by kernel_rfl)
 change wpList _ _ _ _ _ w.drew
 generalize hw2 : w.drew = w2
 have hA := O.ahead x y bo w2 (by rw [← hw2]; exact ob) (by rw [← hw2]; exact ol)
 have hE : Ext w w2 := by rw [← hw2]; exact (Below.refl _ _).drew
 clear hw2
 go_wp2_with (go_at_call 129; refine hA.mono ?_; rintro e w1 ⟨rfl, h1⟩)
 go_ret
 exact ⟨rfl, ext_trans hE h1⟩
end Go.Proofs.YtngpjagpeblbjaaGreatDoor
namespace Go.Proofs.YtngpjagpeblbjaaGreatDoor
open Go.RowKit Go.Spy
theorem flat_set {α β : Type} (f : α → List β) (s : Nat) (hf : ∀ x, (f x).length = s) (d : List α) (j : Nat) (x : α) (l : List β) (hl : l.length = (d.flatMap f).length)
 (h1 : ∀ k, k < s → j < d.length → l[j * s + k]? = (f x)[k]?) (h2 : ∀ i k, k < s → i ≠ j → l[i * s + k]? = (d.flatMap f)[i * s + k]?) : l = (d.set j x).flatMap f := by
 rcases Nat.eq_zero_or_pos s with h0 | h0
 ·have e1 : l.length = 0 := by rw [hl, flat_len f s hf, h0, Nat.mul_zero]
  have e2 : ((d.set j x).flatMap f).length = 0 := by rw [flat_len f s hf, h0, Nat.mul_zero]
  rw [List.eq_nil_of_length_eq_zero e1, List.eq_nil_of_length_eq_zero e2]
 ·apply List.ext_getElem?
  intro n
  have hn : n = (n / s) * s + n % s := by rw [Nat.mul_comm]; exact (Nat.div_add_mod n s).symm
  have hk : n % s < s := Nat.mod_lt _ h0
  rw [hn]
  generalize n / s = i at *
  generalize n % s = k at *
  rw [flat_get f s hf _ _ _ hk]
  by_cases hi : i = j
  ·subst hi
   by_cases hd : i < d.length
   ·rw [h1 k hk hd]; simp [hd]
   ·rw [List.getElem?_eq_none (by
     rw [hl, flat_len f s hf]
     have := Nat.mul_le_mul_right s (Nat.le_of_not_lt hd)
     omega)]
    simp [Nat.le_of_not_lt hd]
  ·rw [h2 i k hk hi, flat_get f s hf _ _ _ hk, List.getElem?_set_ne (fun e => hi e.symm)]
theorem owns_put2 {w : World} {base g cap n : Nat} {d : List It} (h : w.ownsRow base 194 2 (.slice (some ⟨g, 0, none⟩) n cap) n (d.flatMap itemC)) {j : Nat} (hj : j < d.length) (x : It) :
 ((w.setCell ⟨g, j * 2, none⟩ (.int .i64 x.1)).setCell ⟨g, j * 2 + 1, none⟩ (.int .u64 x.2)).ownsRow base 194 2 (.slice (some ⟨g, 0, none⟩) n cap) n ((d.set j x).flatMap itemC) := by
 have hn : n = d.length := by
  have := h.1
  rw [flat_len itemC 2 itemC_len] at this
  omega
 have h3 := owns_set (owns_set h (j := j * 2) (by omega) (.int .i64 x.1)) (j := j * 2 + 1) (by omega) (.int .u64 x.2)
 have hl := flat_len itemC 2 itemC_len d
 rw [← flat_set itemC 2 itemC_len d j x (((d.flatMap itemC).set (j * 2) (.int .i64 x.1)).set (j * 2 + 1) (.int .u64 x.2)) (by simp only [List.length_set]) (fun k hk _ => ?_) (fun i k hk hi => ?_)]
 ·exact h3
 ·have : k = 0 ∨ k = 1 := by omega
  rcases this with rfl | rfl
  ·rw [List.getElem?_set_ne (by omega), Nat.add_zero, List.getElem?_set_self (by omega)]; rfl
  ·rw [List.getElem?_set_self (by simp only [List.length_set]; omega)]; rfl
 ·rw [List.getElem?_set_ne (by omega), List.getElem?_set_ne (by omega)]
structure Moved (S S' : Nat → Prop) (w w' : World) : Prop where
 chg : Chg S w w'
 sub : ∀ k, S' k → S k ∨ w.heap.size ≤ k
theorem Moved.refl (S : Nat → Prop) (w : World) : Moved S S w w := ⟨Chg.refl S w, fun _ h => .inl h⟩
theorem Moved.trans {S S' S'' : Nat → Prop} {a b c : World} (h : Moved S S' a b) (k : Moved S' S'' b c) : Moved S S'' a c where
 chg := ⟨k.chg.os.trans h.chg.os, k.chg.tape.trans h.chg.tape, k.chg.output.trans h.chg.output, Nat.le_trans h.chg.size k.chg.size, fun i hi hs =>
  (k.chg.block i (Nat.lt_of_lt_of_le hi h.chg.size) (fun x => (h.sub i x).elim hs (fun y => by omega))).trans (h.chg.block i hi hs)⟩
 sub i hi := (k.sub i hi).elim (fun x => h.sub i x) (fun x => .inr (Nat.le_trans h.chg.size x))
theorem Moved.ext {S S' : Nat → Prop} {a b c : World} (h : Moved S S' a b) (k : Ext b c) : Moved S S' a c := ⟨h.chg.ext k, h.sub⟩
theorem own_type {w : World} {base size n : Nat} {e : TypeId} {v : Value} {xs : List Value} (h : w.ownsRow base e size v n xs) {g : Nat} (hg : v.ownBlock = some g) : ∃ cur, Blk w g e cur := by
 rcases h.2 with ⟨rfl, _⟩ | ⟨g', cap, cur, rfl, _, hb, _⟩
 ·simp [Value.ownBlock] at hg
 ·simp [Value.ownBlock] at hg
  subst hg
  exact ⟨cur, hb⟩
theorem blk_ne {w : World} {a b : Nat} {s t : TypeId} {xs ys : Array Value} (h : Blk w a s xs) (k : Blk w b t ys) (hst : s ≠ t) : a ≠ b := by
 rintro rfl
 have h' : w.heap[a]? = some (.cells xs s (0, 0)) := h
 have k' : w.heap[a]? = some (.cells ys t (0, 0)) := k
 rw [h'] at k'
 simp at k'
 exact hst k'.2
section
variable {F : Nat} {w : World} {base q bo : Nat} {vI vS : Value} {d : List It} {sw : List (Int × Int)} {put : Int}
theorem Pile.bo_free (h : Pile w base q bo F vI vS d sw put) : ¬ own q vI vS bo := by
 rintro (e | e | e)
 ·exact blk_ne h.ord h.blk (by decide) e
 ·obtain ⟨cur, hb⟩ := own_type h.items e
  exact blk_ne h.ord hb (by decide) rfl
 ·obtain ⟨cur, hb⟩ := own_type h.swaps e
  exact blk_ne h.ord hb (by decide) rfl
theorem Pile.vI_q (h : Pile w base q bo F vI vS d sw put) : vI.ownBlock ≠ some q := fun e => by
 obtain ⟨cur, hb⟩ := own_type h.items e
 exact blk_ne h.blk hb (by decide) rfl
theorem Pile.vS_q (h : Pile w base q bo F vI vS d sw put) : vS.ownBlock ≠ some q := fun e => by
 obtain ⟨cur, hb⟩ := own_type h.swaps e
 exact blk_ne h.blk hb (by decide) rfl
theorem Pile.vI_vS (h : Pile w base q bo F vI vS d sw put) {g : Nat} (e : vI.ownBlock = some g) : vS.ownBlock ≠ some g := fun e' => by
 obtain ⟨_, hb⟩ := own_type h.items e
 obtain ⟨_, hc⟩ := own_type h.swaps e'
 exact blk_ne hb hc (by decide) rfl
theorem Pile.kept (h : Pile w base q bo F vI vS d sw put) {S : Nat → Prop} {w' : World} (c : Chg S w w') (hS : ∀ k, own q vI vS k → ¬ S k) (hb : ¬ S bo) : Pile w' base q bo F vI vS d sw put where
 blk := h.blk.chg c (hS q (.inl rfl))
 ord := h.ord.chg c hb
 items := owns_chg h.items c (fun k e => hS k (.inr (.inl e)))
 swaps := owns_chg h.swaps c (fun k e => hS k (.inr (.inr e)))
 hq := h.hq
theorem Pile.ext (h : Pile w base q bo F vI vS d sw put) {w' : World} (c : Ext w w') : Pile w' base q bo F vI vS d sw put :=
 h.kept (S := fun _ => False) (Chg.of_ext c) (fun _ _ x => x) (fun x => x)
theorem Pile.swp {g cap : Nat} (h : Pile w base q bo F (.slice (some ⟨g, 0, none⟩) d.length cap) vS d sw put) {i j : Nat} (hi : i < d.length) (hj : j < d.length) (x y : It)
 {w2 : World} (hw : w2 = ((((w.setCell ⟨g, i * 2, none⟩ (.int .i64 y.1)).setCell ⟨g, i * 2 + 1, none⟩ (.int .u64 y.2)).setCell ⟨g, j * 2, none⟩ (.int .i64 x.1)).setCell ⟨g, j * 2 + 1, none⟩ (.int .u64 x.2)).drew) :
 Pile w2 base q bo F (.slice (some ⟨g, 0, none⟩) d.length cap) vS ((d.set i y).set j x) sw put ∧ Chg (own q (.slice (some ⟨g, 0, none⟩) d.length cap) vS) w w2 := by
 have c : Chg (fun k => k = g) w w2 := by
  rw [hw]
  exact ((((Chg.refl _ w).setCell (by rfl) _).setCell (by rfl) _).setCell (by rfl) _).setCell (by rfl) _ |>.drew
 have hi2 := owns_put2 h.items hi y
 have hj2 := owns_put2 hi2 (j := j) (by simpa using hj) x
 have hg : (Value.slice (some ⟨g, 0, none⟩) d.length cap).ownBlock = some g := rfl
 have hq : ¬ q = g := fun e => h.vI_q (by rw [hg, e])
 have hb : ¬ bo = g := fun e => h.bo_free (.inr (.inl (by rw [hg, e])))
 refine ⟨⟨h.blk.chg c hq, h.ord.chg c hb, ?_, owns_chg h.swaps c (fun k e x => h.vI_vS hg (x ▸ e)), h.hq⟩, c.mono fun k _ e => .inr (.inl (by rw [hg, e]))⟩
 rw [hw]
 simpa using owns_drew hj2
end
end Go.Proofs.YtngpjagpeblbjaaGreatDoor
