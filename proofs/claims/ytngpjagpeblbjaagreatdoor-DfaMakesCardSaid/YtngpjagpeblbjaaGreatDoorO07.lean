/-
  What the walk of the law DfaMakes takes: Make of a bad word of any length; the words in order; the reference's Make against the program's.
  The cells of a block of three, and of one.
-/
import Derived.Test.YtngpjagpeblbjaaGreatDoorO06
import Derived.Test.YtngpjagpeblbjaaGreatDoorO02
namespace Go.Proofs.YtngpjagpeblbjaaGreatDoor
open Go.RowKit Go.Spy Go.Heaped Go.Tour Go.Rx
set_option maxRecDepth 100000 in
set_option maxHeartbeats 2000000 in
theorem make_badM {w : World} {l : List Nd} {ao : Option Addr} {cap : Nat} (F : Rx.Form l) (hV : NodesV w ao l) (hN : NamesOk l) (hl : l.length ≤ 64) {vM : Value} {more : List ByteArray} (hM : ReadR w 1 strC vM more) (hm : more.length ≤ 100) (hsz : ∀ x ∈ more, x.size ≤ 9223372036854775807) (hbad : ∃ x ∈ more, nameOk x = false) :
 Calls Tryz.prog 22 #[.agg #[.slice ao l.length cap], vM] w (MakeBad 11 w) := by
 obtain ⟨aoM, cM, rfl, hM2⟩ := hM.form
 obtain ⟨mm, hmm⟩ : ∃ n, n = more.length := ⟨_, rfl⟩
 have HM := hid hM
 rw [← hmm] at HM ⊢ hm hM2
 have HMM := hid hmm
 have HSZ := hid hsz
 have HBAD := hid hbad
 have HF := hid F
 have HV := hid hV
 have HN := hid hN
 have hln := hV.len
 clear hM hmm hsz hbad F hV hN
 have hCK : ∀ W, Ext w W → Calls Tryz.prog 65 #[.agg #[.slice ao l.length cap]] W fun e w' => e = .returned (.int .i64 0) ∧ Ext W w' := fun W e => (check_any (HV.out.ext e) cap).mono fun e w' ⟨c, h1, h2, h3⟩ => by
  refine ⟨?_, h3⟩
  rcases h2 with ⟨q, -⟩ | ⟨-, q, -⟩ | ⟨-, -, q, -⟩ | ⟨-, -, -, q⟩
  ·exact absurd hl (by omega)
  ·exact absurd HF.out q
  ·exact absurd HN.out q
  ·rw [h1, q]
 have HCK := hid hCK
 clear hCK
 go_enter Tryz.func22, Tryz.ntmps22
 go_wp2_with fail
 refine (HCK.out _ (((Below.refl _ _).alloc (Nat.le_refl _) _).alloc (by simp) _)).mono ?_
 rintro e w2 ⟨rfl, hx⟩
 have hE0 : Ext w ((w.alloc (.cells #[.slice ao l.length cap] 45)).alloc (.cells #[.slice none 0 0, .slice none 0 0, .slice none 0 0] 26)) := ((Below.refl _ _).alloc (Nat.le_refl _) _).alloc (by simp) _
 have HX2 := hid (hE0.trans (hx.mono hE0.size))
 have HR2 := hid (((Blk.new w 45 #[.slice ao l.length cap]).alloc (.cells #[.slice none 0 0, .slice none 0 0, .slice none 0 0] 26)).ext hx)
 have HS2 : Hid (Blk w2 (w.heap.size + 1) 26 #[.slice none 0 0, .slice none 0 0, .slice none 0 0]) := hid ((Blk.new' (w.alloc (.cells #[.slice ao l.length cap] 45)) 26 _ (by simp)).ext hx)
 clear hx hE0
 go_wp2_with fail
 go_loopg [29] mm (fun g u wr => ∃ j, g = mm - j ∧ j ≤ mm ∧ u = .int .i64 j ∧ Hid (Ext w wr ∧ Blk wr w.heap.size 45 #[.slice ao l.length cap] ∧ Blk wr (w.heap.size + 1) 26 #[.slice none 0 0, .slice none 0 0, .slice none 0 0] ∧ ∀ i x, i < j → more[i]? = some x → nameOk x = true))
 case atStart => exact ⟨0, rfl, Nat.zero_le _, rfl, hid ⟨HX2.out, HR2.out, HS2.out, fun i x h => absurd h (Nat.not_lt_zero _)⟩⟩
 case round =>
  clear HX2 HR2 HS2
  obtain ⟨j, rfl, hj, rfl, HW⟩ := hrel
  have b0 : wr.cell? ⟨w.heap.size, 0, none⟩ = some (.slice ao l.length cap) := HW.out.2.1.cell rfl
  have lb0 := HW.out.2.1.lt
  by_cases hlt : j < mm
  ·obtain ⟨g, off, rfl⟩ := hM2 (by omega)
   obtain ⟨s, hs⟩ : ∃ s, more[j]? = some s := ⟨_, List.getElem?_eq_getElem (by rw [← HMM.out]; omega)⟩
   have c1 : wr.cell? ⟨g, off + j, none⟩ = some (.string s) := (HM.out.ext HW.out.1).cell1 hs
   have hsz : s.size ≤ maxLen := HSZ.out s (List.mem_of_getElem? hs)
   have HSS := hid hs
   clear hs
   go_wp2_with fail
   refine (is_any s _ hsz).mono ?_
   rintro e w3 ⟨rfl, hx⟩
   have hS3 := HW.out.2.2.1.ext hx
   have HX3 := hid hx
   have HR3 := hid (HW.out.2.1.ext hx)
   have HS3 := hid hS3
   obtain ⟨ok, hok⟩ : ∃ b, b = nameOk s := ⟨_, rfl⟩
   rw [← hok]
   have HOK := hid hok
   clear hx hok
   cases ok with
   | true =>
     clear hS3
     go_wp2_with fail
     go_roundg (mm - (j + 1))
     case measure => omega
     case rel => exact ⟨j + 1, rfl, by omega, by go_num, hid ⟨HW.out.1.trans (HX3.out.mono HW.out.1.size), HR3.out, HS3.out, fun i x h e => by
      rcases Nat.lt_or_ge i j with h2 | h2
      ·exact HW.out.2.2.2 i x h2 e
      ·have : i = j := by omega
       subst this
       rw [HSS.out] at e
       cases e
       exact HOK.out.symm⟩⟩
   | false =>
     have r0 : w3.cell? ⟨w.heap.size + 1, 0, none⟩ = some (.slice none 0 0) := hS3.cell (i := 0) rfl
     have r1 : w3.cell? ⟨w.heap.size + 1, 1, none⟩ = some (.slice none 0 0) := hS3.cell (i := 1) rfl
     have r2 : w3.cell? ⟨w.heap.size + 1, 2, none⟩ = some (.slice none 0 0) := hS3.cell (i := 2) rfl
     have rf := hS3.frozen
     have rl := hS3.lt
     have HX4 := hid (HW.out.1.trans (HX3.out.mono HW.out.1.size))
     clear hS3
     go_wp2_with fail
     have h3 : Blk (((w3.setCell ⟨w.heap.size + 1, 0, none⟩ (.slice none 0 0)).setCell ⟨w.heap.size + 1, 1, none⟩ (.slice none 0 0)).setCell ⟨w.heap.size + 1, 2, none⟩ (.slice none 0 0)) (w.heap.size + 1) 26 #[.slice none 0 0, .slice none 0 0, .slice none 0 0] := ((HS3.out.set 0 _).set 1 _).set 2 _
     refine bodyPost_ret (v := .tuple #[nilD, .int .i64 11]) (results_cell_agg_tmp Tryz.results22 _ _ (w.heap.size + 1) 26 #[.slice none 0 0, .slice none 0 0, .slice none 0 0] _ _ rfl rfl h3 Tryz.underlying26 rfl (by kernel_rfl)) rfl ?_
     have cc : Chg (fun k => w.heap.size ≤ k) w3 (((w3.setCell ⟨w.heap.size + 1, 0, none⟩ (.slice none 0 0)).setCell ⟨w.heap.size + 1, 1, none⟩ (.slice none 0 0)).setCell ⟨w.heap.size + 1, 2, none⟩ (.slice none 0 0)) :=
      Chg.mono (S := fun k => k = w.heap.size + 1) (Chg.setCell (p := ⟨w.heap.size + 1, 2, none⟩) (S := fun k => k = w.heap.size + 1) (Chg.setCell (p := ⟨w.heap.size + 1, 1, none⟩) (S := fun k => k = w.heap.size + 1) (Chg.setCell (p := ⟨w.heap.size + 1, 0, none⟩) (S := fun k => k = w.heap.size + 1) (Chg.refl _ w3) rfl (.slice none 0 0)) rfl (.slice none 0 0)) rfl (.slice none 0 0)) fun k _ e => by omega
     exact ⟨rfl, HX4.out.trans (cc.below HX4.out.size (fun k e => e))⟩
  ·exfalso
   obtain ⟨x, hx, hb⟩ := HBAD.out
   obtain ⟨i, hi⟩ := List.mem_iff_getElem?.1 hx
   have h1 := (List.getElem?_eq_some_iff.1 hi).1
   have h2 := HW.out.2.2.2 i x (by rw [← HMM.out] at h1; omega) hi
   rw [hb] at h2; cases h2
theorem nameOk_size {x : ByteArray} (h : nameOk x = true) : x.size ≤ 64 := by
 unfold nameOk at h
 simp only [Bool.and_eq_true, decide_eq_true_eq] at h
 exact h.1.1.2
theorem sortW_nil : sortW [] = [] := List.length_eq_zero_iff.1 (Nat.le_zero.1 (sortW_len []))
theorem put1 {a : List ByteArray} {s : ByteArray} {i : Nat} (h : a[i]? = some s) : sortW (sortW (a.take i) ++ [s]) = sortW (a.take (i + 1)) :=
 rising_ext (sortW_rising _) (sortW_rising _) fun x => by
  rw [sortW_mem, List.mem_append, sortW_mem, sortW_mem, List.take_add_one, h]
  simp only [List.mem_append, Option.toList_some]
theorem symsL_sym {l : List Nd} {i : Nat} {n : Nd} (h : l[i]? = some n) (ho : n.op = 2) (a : List ByteArray) : sortW (sortW (a ++ symsL (l.take i)) ++ [n.sym]) = sortW (a ++ symsL (l.take (i + 1))) :=
 rising_ext (sortW_rising _) (sortW_rising _) fun x => by
  have e : symsL (l.take (i + 1)) = symsL (l.take i) ++ [n.sym] := by
   unfold symsL
   rw [List.take_add_one, h, List.filterMap_append]
   congr 1
   show [n].filterMap symN = [n.sym]
   simp [symN, ho]
  rw [sortW_mem, List.mem_append, sortW_mem, sortW_mem, e]
  simp only [List.mem_append, or_assoc]
theorem symsL_skip {l : List Nd} {i : Nat} {n : Nd} (h : l[i]? = some n) (ho : n.op ≠ 2) : symsL (l.take (i + 1)) = symsL (l.take i) := by
 unfold symsL
 rw [List.take_add_one, h, List.filterMap_append]
 have e : (some n).toList.filterMap symN = [] := by
  show [n].filterMap symN = []
  simp [symN, ho]
 rw [e, List.append_nil]
theorem syms_all (l : List Nd) (more : List ByteArray) : sortW (more ++ symsL l) = makeSyms l more :=
 rising_ext (sortW_rising _) (makeSyms_rising _ _) fun x => by
  rw [sortW_mem, mem_makeSyms, List.mem_append, or_comm]
theorem rmake_full {l : List Nd} {syms : List ByteArray} {i : Nat} (hf : Full (succS l syms) startS i) (hi : i ≤ 256) {w : World} {e : Ending} {w' : World} (h : RMakePost l syms w e w') : ∃ aoS n1 cS aoN n2 cN aoF n3 cF, e = .returned (.tuple #[.agg #[.slice aoS n1 cS, .slice aoN n2 cN, .slice aoF n3 cF], .bool true]) ∧ DfaV w' (.agg #[.slice aoS n1 cS, .slice aoN n2 cN, .slice aoF n3 cF]) (tourD syms (tourN (succS l syms) startS i) (finalK l)).raw ∧ Ext w w' := by
 obtain ⟨hx, aoS, n1, cS, aoN, n2, cN, aoF, n3, cF, ok, rfl, ⟨rfl, j, hj, -, hv⟩ | ⟨rfl, j, hj⟩⟩ := h
 ·obtain rfl := full_unique hf hj
  exact ⟨_, _, _, _, _, _, _, _, _, rfl, hv, hx⟩
 ·exfalso
  have h1 : (tourN (succS l syms) startS j).keys.length ≤ (tourN (succS l syms) startS i).keys.length := (full_keys hf).length_le
  have h2 : (tourN (succS l syms) startS i).keys.length = i := hf
  omega
theorem rmake_big {l : List Nd} {syms : List ByteArray} {i : Nat} (hi : 256 < (tourN (succS l syms) startS i).keys.length) {w : World} {e : Ending} {w' : World} (h : RMakePost l syms w e w') : ∃ aoS n1 cS aoN n2 cN aoF n3 cF, e = .returned (.tuple #[.agg #[.slice aoS n1 cS, .slice aoN n2 cN, .slice aoF n3 cF], .bool false]) ∧ Ext w w' := by
 obtain ⟨hx, aoS, n1, cS, aoN, n2, cN, aoF, n3, cF, ok, rfl, ⟨rfl, j, hj, hj2, -⟩ | ⟨rfl, -⟩⟩ := h
 ·exfalso
  have h1 : (tourN (succS l syms) startS i).keys.length ≤ (tourN (succS l syms) startS j).keys.length := (full_keys hj).length_le
  have h2 : (tourN (succS l syms) startS j).keys.length = j := hj
  omega
 ·exact ⟨_, _, _, _, _, _, _, _, _, rfl, hx⟩
theorem plain_n {l : List Nd} {n : Nat} (hn : n = l.length) {w : World} {ao : Option Addr} (hV : NodesV w ao l) (cap : Nat) (hl : l.length ≤ 1024) : Calls Tryz.prog 28 #[.agg #[.slice ao n cap]] w fun e w' => ∃ ao' c, e = .returned (.slice ao' n c) ∧ NodesV w' ao' l ∧ Ext w w' := by
 subst hn
 exact (plain_any hV cap hl).mono fun e w' ⟨ao', c, h1, _, h3, h4, _⟩ => ⟨ao', c, h1, h3, h4⟩
theorem refcheck_n {l : List Nd} {n : Nat} (hn : n = l.length) {w : World} {ao : Option Addr} (hV : NodesV w ao l) (cap : Nat) {c : Int} (hC : CheckC l c) : Calls Tryz.prog 29 #[.slice ao n cap] w fun e w' => e = .returned (.int .i64 c) ∧ Ext w w' := by
 subst hn
 exact (refcheck_any hV cap).mono fun e w' ⟨c', h1, h2, h3⟩ => ⟨by rw [checkC_one hC h2]; exact h1, h3⟩
def MakeG (l : List Nd) (more : List ByteArray) (x : Array Value) (E : Int) (w : World) : Prop :=
 (E = 0 ∧ ∃ i, Full (succS l (makeSyms l more)) startS i ∧ i ≤ 256 ∧ DfaV w (.agg x) (makeD l more i).raw) ∨ (E = 17 ∧ x = #[.slice none 0 0, .slice none 0 0, .slice none 0 0] ∧ ∃ i, 256 < (tourN (succS l (makeSyms l more)) startS i).keys.length)
theorem MakeG.ext {l : List Nd} {more : List ByteArray} {x : Array Value} {E : Int} {w w' : World} (h : MakeG l more x E w) (e : Ext w w') : MakeG l more x E w' :=
 h.imp (fun ⟨h1, i, h2, h3, h4⟩ => ⟨h1, i, h2, h3, h4.ext e⟩) id
theorem makeg_any {w : World} {l : List Nd} {n : Nat} (hn : n = l.length) {ao : Option Addr} {cap : Nat} (hok : OkL l) (hV : NodesV w ao l) (hl : l.length ≤ 64) (hT : TabW w) {vM : Value} {more : List ByteArray} (hM : ReadR w 1 strC vM more) (hm : more.length ≤ 100) (hnm : ∀ x ∈ more, nameOk x = true) :
 Calls Tryz.prog 22 #[.agg #[.slice ao n cap], vM] w fun e w' => ∃ aoS n1 cS aoN n2 cN aoF n3 cF E, e = .returned (.tuple #[.agg #[.slice aoS n1 cS, .slice aoN n2 cN, .slice aoF n3 cF], .int .i64 E]) ∧ MakeG l more #[.slice aoS n1 cS, .slice aoN n2 cN, .slice aoF n3 cF] E w' ∧ Ext w w' := by
 subst hn
 refine (make_good (cap := cap) hok.2.1 hV hok.2.2 hl hT hM hm fun x hx => ⟨hnm x hx, by have := nameOk_size (hnm x hx); omega⟩).mono ?_
 rintro e w' ⟨hx, ⟨i, v, hf, hi, rfl, hv⟩ | ⟨i, hi, rfl⟩⟩
 ·obtain ⟨aoS, n1, cS, aoN, n2, cN, aoF, n3, cF, rfl⟩ := hv.open_
  exact ⟨aoS, n1, cS, aoN, n2, cN, aoF, n3, cF, 0, rfl, .inl ⟨rfl, i, hf, hi, hv⟩, hx⟩
 ·exact ⟨none, 0, 0, none, 0, 0, none, 0, 0, 17, rfl, .inr ⟨rfl, rfl, i, hi⟩, hx⟩
theorem rmake_n {l : List Nd} {m : Nat} (hm : m = l.length) {w : World} (F : Rx.Form l) (hl : l.length ≤ 64) {ao : Option Addr} {cap : Nat} (hV : NodesV w ao l) {aoS : Option Addr} {n cS : Nat} {syms : List ByteArray} (hY : ReadR w 1 strC (.slice aoS n cS) syms) (hn : n ≤ 1000) :
 Calls Tryz.prog 32 #[.slice ao m cap, .slice aoS n cS] w (RMakePost l syms w) := by
 subst hm
 exact rmake_any F hl hV hY hn
theorem badM_n {l : List Nd} {n : Nat} (hn : n = l.length) {w : World} {ao : Option Addr} {cap : Nat} (hok : OkL l) (hV : NodesV w ao l) (hl : l.length ≤ 64) {vM : Value} {more : List ByteArray} (hM : ReadR w 1 strC vM more) (hm : more.length ≤ 100) (hsz : ∀ x ∈ more, x.size ≤ 9223372036854775807) (hbad : ∃ x ∈ more, nameOk x = false) :
 Calls Tryz.prog 22 #[.agg #[.slice ao n cap], vM] w (MakeBad 11 w) := by
 subst hn
 exact make_badM hok.2.1 hV hok.2.2 hl hM hm hsz hbad
theorem ill_n {l : List Nd} {n : Nat} (hn : n = l.length) {w : World} {ao : Option Addr} {cap : Nat} (hV : NodesV w ao l) {c : Int} (hC : CheckC l c) (h0 : c ≠ 0) {vM : Value} {more : List ByteArray} (hM : ReadR w 1 strC vM more) :
 Calls Tryz.prog 22 #[.agg #[.slice ao n cap], vM] w (MakeBad c w) := by
 subst hn
 exact make_ill hV hC h0 hM
theorem small_n {l : List Nd} {n : Nat} (hn : n = l.length) {w : World} {ao : Option Addr} (hV : NodesV w ao l) (cap : Nat) : Calls Tryz.prog 21 #[.agg #[.slice ao n cap]] w (SmallPost l w) := by
 subst hn
 exact small_any hV cap
theorem makeD_lens {l : List Nd} (hS : SmallL l) (hok : OkL l) {more : List ByteArray} (hm : more.length ≤ 4) (hnm : ∀ x ∈ more, nameOk x = true) {i : Nat} (hf : Full (succS l (makeSyms l more)) startS i) (hi : i ≤ 256) : WellD nameOk (makeD l more i) ∧ BndD (makeD l more i).raw ∧ LenD (makeD l more i).raw := by
 have hM : MoreOk more := ⟨by omega, fun x hx => ⟨hnm x hx, by have := nameOk_size (hnm x hx); omega⟩⟩
 have hk := makeSyms_ok hS hok.2.2 hM
 have W := makeD_well (fun x hx => (hk.2 x hx).1) hf hi
 have hs : (makeD l more i).syms.length ≤ 1000 := by have := hk.1; show (makeSyms l more).length ≤ 1000; omega
 have B : BndD (makeD l more i).raw := raw_bnd W hs (fun s hs => by have := (hk.2 s hs).2; omega)
 exact ⟨W, B, lenD_of W.ok (by have := W.most; omega) (by omega) B.b⟩
theorem checkC_ok {l : List Nd} (h : OkL l) : CheckC l 0 := .inr (.inr (.inr ⟨h.1, h.2.1, h.2.2, rfl⟩))
end Go.Proofs.YtngpjagpeblbjaaGreatDoor
namespace Go.Spy
open Go.RowKit
theorem Blk.c3 {w : World} {b : Nat} {t : TypeId} {x y z : Value} (h : Blk w b t #[x, y, z]) : w.cell? ⟨b, 0, none⟩ = some x ∧ w.cell? ⟨b, 1, none⟩ = some y ∧ w.cell? ⟨b, 2, none⟩ = some z ∧ b < w.heap.size := ⟨h.cell (i := 0) rfl, h.cell (i := 1) rfl, h.cell (i := 2) rfl, h.lt⟩
theorem Blk.c1 {w : World} {b : Nat} {t : TypeId} {x : Value} (h : Blk w b t #[x]) : w.cell? ⟨b, 0, none⟩ = some x ∧ b < w.heap.size := ⟨h.cell (i := 0) rfl, h.lt⟩
end Go.Spy
