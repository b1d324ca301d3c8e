/-
  Walk of Make where the expression and the words may be.
-/
import Derived.Test.YtngpjagpeblbjaaGreatDoorP21
namespace Go.Spy
open Go.RowKit
theorem wpList_makeR {P : Program} {ops : Array Oper} {rest : List Oper} {o : Oper} {a : Act} {w : World} {Q : Exit → Act → World → Prop} (hgd : o.guard = none) (t : TypeId) (l c : Operand) (ho : o.op = .makeSlice t l c) (e : TypeId) (z : Value) (size bytes : Nat)
 (ht : P.underlying t = some (.slice e)) (hinfo : (P.info? e).map (fun i => (i.zero, i.size, i.bytes)) = some (some z, size, bytes)) (n : Nat) (hl : a.eval l = .int .i64 n) (hc : a.eval c = .int .i64 n)
 (hbytes : bytes * n ≤ 281474976710656) (h63 : n ≤ 9223372036854775807) (M : Array Value) (hM : madeCells z.cells (n * size) = M)
 (h : wpList P ops Q rest (a.put o.dst (.slice (some ⟨w.heap.size, 0, none⟩) n n)) (w.alloc (.cells M e))) : wpList P ops Q (o :: rest) a w :=
 wpList_plain hgd fun _ hK => by
  subst hM
  unfold Oper.wp execOp
  simp only [ho, hl, hc, Sem.run_bind, run_make_R t e z size bytes ht hinfo n hbytes h63 w, Result.andThen_ok, Sem.run_pure]
  exact hK _ _ h
end Go.Spy
namespace Go.Proofs.YtngpjagpeblbjaaGreatDoor
open Go.RowKit Go.Spy Go.Heaped Go.Tour Go.Rx
theorem infoM105 : (Tryz.prog.info? 105).map (fun i => (i.zero, i.size, i.bytes)) = some (some (.agg (setV 0)), 16, 128) := by kernel_rfl
theorem madeO (n : Nat) : madeCells (Value.agg (setV 0)).cells (n * 16) = rowV setV (List.replicate n 0) := by
 apply Array.ext_getElem?
 intro i
 have hsz : (Value.agg (setV 0)).cells.size = 16 := setV_size _
 by_cases hi : i < n * 16
 ·have hq : i / 16 < n := Nat.div_lt_of_lt_mul (by omega)
  have hr : i % 16 < 16 := Nat.mod_lt _ (by omega)
  have he : i = (i / 16) * 16 + i % 16 := by omega
  have h1 := rowV_get (f := setV) (s := 16) setV_size (xs := List.replicate n 0) (k := i / 16) (j := i % 16) (x := 0) (by simp [hq]) hr
  rw [← he] at h1
  rw [h1]
  simp only [madeCells, Array.getElem?_map, Array.getElem?_range, hi, if_true, Option.map_some, hsz]
  show some ((setV 0)[i % 16]!) = _
  rw [getElem!_pos _ _ (by rw [setV_size]; exact hr)]
  exact (Array.getElem?_eq_getElem _).symm
 ·rw [Array.getElem?_eq_none (by rw [size_madeCells]; omega), Array.getElem?_eq_none (by rw [rowV_size setV_size]; simp; omega)]
theorem built_start : Tryz.prog.built 112 [(0, .bool true)] = some (staC startS) := by kernel_rfl
theorem auto_dfaS {w w' w'' : World} {vS vN vF : Value} {us : List Value} {rows : List (List Nat)} {syms : List ByteArray} {fin : List Bool} {N : Nat} {S : Nat → Prop} (x : Ext w w') (hS : OwnR w' w.heap.size 9 1 strC vS syms) (hF : OwnR w' w.heap.size 4 1 boolC vF fin)
 (hN : OwnR w N 46 1 oneA vN us) (hlen : us.length = rows.length) (hrows : ∀ (i : Nat) (u : Value) (r : List Nat), us[i]? = some u → rows[i]? = some r → ReadR w 1 natA u r ∧ ∀ g, u.ownBlock = some g → N ≤ g) (hq : ∀ q, S q → q < N ∧ q < w.heap.size) (c : Chg S w' w'') : DfaP w'' vS vN vF us ⟨syms, rows.map (·.map Int.ofNat), fin⟩ := by
 refine ⟨(OwnR.read hS strC_size).chg c fun g e e' => ?_, ((OwnR.read hN (fun _ => rfl)).ext x).chg c fun g e e' => ?_, by simpa using hlen, fun i u r hu hr => ?_, (OwnR.read hF (fun _ => rfl)).chg c fun g e e' => ?_⟩
 ·have := (hS.lt g e).1; have := hq g e'; omega
 ·have := (hN.lt g e).1; have := hq g e'; omega
 ·rw [List.getElem?_map, Option.map_eq_some_iff] at hr
  obtain ⟨r', hr', rfl⟩ := hr
  have h1 := hrows i u r' hu hr'
  exact nat_int.1 ((h1.1.ext x).chg c fun g e e' => by have := h1.2 g e; have := hq g e'; omega)
 ·have := (hF.lt g e).1; have := hq g e'; omega
def MakePostF (l : List Nd) (syms : List ByteArray) (w : World) (e : Ending) (w' : World) : Prop :=
 Ext w w' ∧ ((∃ i v, Full (succS l syms) startS i ∧ i ≤ 256 ∧ e = .returned (.tuple #[v, .int .i64 0]) ∧ DfaV w' v (tourD syms (tourN (succS l syms) startS i) (finalK l)).raw ∧ ∀ q w'', q < w.heap.size → Chg (· = q) w' w'' → DfaV w'' v (tourD syms (tourN (succS l syms) startS i) (finalK l)).raw) ∨
  (∃ i, 256 < (tourN (succS l syms) startS i).keys.length ∧ e = .returned (.tuple #[.agg #[.slice none 0 0, .slice none 0 0, .slice none 0 0], .int .i64 17])))
set_option maxRecDepth 100000 in
set_option maxHeartbeats 8000000 in
theorem make_goodF {w : World} {l : List Nd} {ao : Option Addr} {cap : Nat} (F : Rx.Form l) (hV : NodesV w ao l) (hN : NamesOk l) (hl : l.length ≤ 64) (hT : TabW w) {vM : Value} {more : List ByteArray} (hM : ReadR w 1 strC vM more) (hm : more.length ≤ 100) (hnm : ∀ x ∈ more, nameOk x = true ∧ x.size ≤ 1000000) :
 Calls Tryz.prog 22 #[.agg #[.slice ao l.length cap], vM] w (MakePostF l (makeSyms l more) w) := by
 obtain ⟨aoM, cM, rfl, hM2⟩ := hM.form
 obtain ⟨mm, hmm⟩ : ∃ n, n = more.length := ⟨_, rfl⟩
 have HM := hid hM
 rw [← hmm] at HM ⊢ hm hM2
 have HMM := hid hmm
 have HNM := hid hnm
 have HF := hid F
 have HV := hid hV
 have HN := hid hN
 have HT := hid hT
 obtain ⟨ll, hll⟩ : ∃ n, n = l.length := ⟨_, rfl⟩
 clear hM hmm hnm F hV hN hT
 have hCK : ∀ W, Ext w W → Calls Tryz.prog 65 #[.agg #[.slice ao l.length cap]] W fun e w' => e = .returned (.int .i64 0) ∧ Ext W w' := fun W e => (check_any (HV.out.ext e) cap).mono fun e w' ⟨c, h1, h2, h3⟩ => by
  refine ⟨?_, h3⟩
  rcases h2 with ⟨q, -⟩ | ⟨-, q, -⟩ | ⟨-, -, q, -⟩ | ⟨-, -, -, q⟩
  ·omega
  ·exact absurd HF.out q
  ·exact absurd HN.out q
  ·rw [h1, q]
 have HCK := hid hCK
 clear hCK
 go_enter Tryz.func22, Tryz.ntmps22
 go_wp2_with fail
 refine (HCK.out _ (((Below.refl _ _).alloc (Nat.le_refl _) _).alloc (by simp) _)).mono ?_
 rintro e w2 ⟨rfl, hx⟩
 have hE0 : Ext w ((w.alloc (.cells #[.slice ao l.length cap] 45)).alloc (.cells #[.slice none 0 0, .slice none 0 0, .slice none 0 0] 26)) := ((Below.refl _ _).alloc (Nat.le_refl _) _).alloc (by simp) _
 have HX2 := hid (hE0.trans (hx.mono hE0.size))
 have HR2 := hid (((Blk.new w 45 #[.slice ao l.length cap]).alloc (.cells #[.slice none 0 0, .slice none 0 0, .slice none 0 0] 26)).ext hx)
 have HS2 : Hid (Blk w2 (w.heap.size + 1) 26 #[.slice none 0 0, .slice none 0 0, .slice none 0 0]) := hid ((Blk.new' (w.alloc (.cells #[.slice ao l.length cap] 45)) 26 _ (by simp)).ext hx)
 clear hx hE0
 go_wp2_with fail
 go_loopg [29] mm (fun g u wr => ∃ j, g = mm - j ∧ j ≤ mm ∧ u = .int .i64 j ∧ Hid (Ext w wr ∧ Blk wr w.heap.size 45 #[.slice ao l.length cap] ∧ Blk wr (w.heap.size + 1) 26 #[.slice none 0 0, .slice none 0 0, .slice none 0 0]))
 case atStart => exact ⟨0, rfl, Nat.zero_le _, rfl, hid ⟨HX2.out, HR2.out, HS2.out⟩⟩
 case round =>
  clear HX2 HR2 HS2
  obtain ⟨j, rfl, hj, rfl, HW⟩ := hrel
  have b0 : wr.cell? ⟨w.heap.size, 0, none⟩ = some (.slice ao l.length cap) := HW.out.2.1.cell rfl
  have lb0 := HW.out.2.1.lt
  by_cases hlt : j < mm
  ·obtain ⟨g, off, rfl⟩ := hM2 (by omega)
   obtain ⟨s, hs⟩ : ∃ s, more[j]? = some s := ⟨_, List.getElem?_eq_getElem (by rw [← HMM.out]; omega)⟩
   have c1 : wr.cell? ⟨g, off + j, none⟩ = some (.string s) := (HM.out.ext HW.out.1).cell1 hs
   have hok := HNM.out s (List.mem_of_getElem? hs)
   have HOK := hid hok.1
   have hsz : s.size ≤ maxLen := by have := hok.2; unfold maxLen; omega
   clear hs hok
   go_wp2_with fail
   refine (is_any s _ hsz).mono ?_
   rintro e w3 ⟨rfl, hx⟩
   rw [HOK.out]
   have HX3 := hid hx
   clear hx
   go_wp2_with fail
   go_roundg (mm - (j + 1))
   case measure => omega
   case rel => exact ⟨j + 1, rfl, by omega, by go_num, hid ⟨HW.out.1.trans (HX3.out.mono HW.out.1.size), HW.out.2.1.ext HX3.out, HW.out.2.2.ext HX3.out⟩⟩
  ·clear hM2
   obtain ⟨wo, hwo⟩ : ∃ u, u = wr := ⟨_, rfl⟩
   subst hwo
   have HSY := hid (symbols_any HF.out (HV.out.ext HW.out.1) HN.out cap hl)
   go_wp2_with fail
   refine HSY.out.mono ?_
   rintro e w3 ⟨v, rfl, hO, hx⟩
   have hO3 : OwnR w3 wo.heap.size 9 1 strC v (sortW (symsL l)) := own_bl.2 (by rw [sortW_bl]; exact hO)
   have HX3 := hid (HW.out.1.trans (hx.mono HW.out.1.size))
   have HE3 := hid hx
   have hlen1 := sortW_len (symsL l)
   have hlen2 := symsL_len l
   have HUN := hid (union_any (OwnR.read hO3 strC_size) (HM.out.ext HX3.out) (by omega) (by rw [← HMM.out]; omega))
   clear hO hO3 hx hlen1 hlen2
   go_wp2_with fail
   refine HUN.out.mono ?_
   rintro e w4 ⟨hx, v4, rfl, hO⟩
   have hO4 : OwnR w4 w3.heap.size 9 1 strC v4 (makeSyms l more) := hO
   obtain ⟨aoS, cS, rfl, -⟩ := (OwnR.read hO4 strC_size).form
   obtain ⟨syms, hsy⟩ : ∃ s, s = makeSyms l more := ⟨_, rfl⟩
   rw [← hsy] at hO4 ⊢
   obtain ⟨m, hmn⟩ : ∃ m, m = syms.length := ⟨_, rfl⟩
   have hm2 : m ≤ 164 := by rw [hmn, hsy]; have := makeSyms_len l more; have := HMM.out; omega
   rw [← hmn] at hO4 ⊢
   have HO4 := hid (hO4.lower HX3.out.size)
   have HX4 := hid (HX3.out.trans (hx.mono HX3.out.size))
   have HR4 := hid ((HW.out.2.1.ext HE3.out).ext hx)
   have HS4 := hid ((HW.out.2.2.ext HE3.out).ext hx)
   have HSS := hid hsy
   have HMN := hid hmn
   clear hO hO4 hx hsy hmn b0 lb0 HW HE3
   have z0 : w4.cell? ⟨w.heap.size, 0, none⟩ = some (.slice ao l.length cap) := HR4.out.cell rfl
   have zl := HR4.out.lt
   have zl2 := HS4.out.lt
   go_upto_region 13 with (first
    | (with_reducible refine onOp 44 ?_
       go_loud (refine wpList_makeR rfl 102 (.tmp 43) (.tmp 43) rfl 105 _ 16 128 Tryz.underlying102 infoM105 m rfl rfl (by omega) (by omega) _ (madeO m) ?_))
    | (with_reducible refine onOp 11 ?_
       go_loud (refine wpList_alloc_agg rfl 105 rfl _ zero105 ?_)
       intro w8 hB8 hz8
       have HB8 := hid hB8.out
       have HZ8 := hid hz8
       clear hB8 hz8))
   have hE8 : Ext w4 w8 := ((((Below.refl _ w4).alloc (Nat.le_refl _) _).alloc (by simp) _).alloc (by simp; omega) _).trans (HB8.out.2.mono (by simp; omega))
   have hG : GatW w w8 l ao cap syms aoS cS w4.heap.size (w4.heap.size + 1 + 1) (w4.heap.size + 1) (w4.heap.size + 1 + 1 + 1) 0 0 := by
    have e1 : syms.map (ofJ l 0) = List.replicate m 0 := by
     rw [HMN.out]
     apply List.ext_getElem
     ·simp
     ·intro i h1 h2; simp [ofJ, maskOf]
    refine ⟨HX4.out.trans (hE8.mono HX4.out.size), HR4.out.ext hE8, HS4.out.ext hE8, ?_, ?_, ?_, ?_, ?_, by omega, by omega⟩
    ·rw [← HMN.out]; exact (((Blk.new w4 _ _).alloc _).alloc _).ext HB8.out.2
    ·rw [← HMN.out]; exact HO4.out.ext hE8
    ·rw [← HMN.out]; exact (Blk.new' _ _ _ (by simp)).ext HB8.out.2
    ·rw [e1]; exact ((Blk.new' _ _ _ (by simp)).alloc _).ext HB8.out.2
    ·have := HB8.out.1
     simpa [lastJ, maskOf] using this
   have HG := hid hG
   have hz4 : w.heap.size + 1 < w4.heap.size := zl2
   obtain ⟨bS, hbS⟩ : ∃ b, b = w4.heap.size := ⟨_, rfl⟩
   obtain ⟨bO, hbO⟩ : ∃ b, b = w4.heap.size + 1 := ⟨_, rfl⟩
   obtain ⟨bF, hbF⟩ : ∃ b, b = w4.heap.size + 1 + 1 := ⟨_, rfl⟩
   obtain ⟨bL, hbL⟩ : ∃ b, b = w4.heap.size + 1 + 1 + 1 := ⟨_, rfl⟩
   rw [← hbL, ← hbF, ← hbO, ← hbS] at HG
   have hz11 : (((w4.alloc (.cells #[.slice aoS m cS] 22)).alloc (.cells (rowV setV (List.replicate m 0)) 105)).alloc (.cells #[.slice (some ⟨w4.heap.size + 1, 0, none⟩) m m] 102)).heap.size = bL := by rw [hbL]; simp
   rw [hz11, ← hbF, ← hbO, ← hbS]
   clear hG hE8 hz11 hbL hbF hbO hbS HB8 HZ8 hz4 zl2 zl z0 HR4 HS4 HX4 HO4 HUN HX3 HSY
   have z0 : w8.cell? ⟨w.heap.size, 0, none⟩ = some (.slice ao l.length cap) := HG.out.r.cell rfl
   have zl := HG.out.r.lt
   go_wp2_with fail
   go_loopg [48] l.length (fun g u wr => ∃ j, g = l.length - j ∧ j ≤ l.length ∧ u = .int .i64 j ∧ Hid (GatW w wr l ao cap syms aoS cS bS bF bO bL j j))
   case atStart => exact ⟨0, rfl, Nat.zero_le _, rfl, HG⟩
   case round =>
    clear HG z0 zl
    obtain ⟨j, rfl, hj, rfl, HG⟩ := hrel
    by_cases hlt : j < l.length
    ·obtain ⟨n, hn⟩ : ∃ n, l[j]? = some n := ⟨_, List.getElem?_eq_getElem hlt⟩
     obtain ⟨b, off, rfl, hb, hc⟩ := (HV.out.ext HG.out.ext).cells (by omega)
     obtain ⟨q0, q1, q2, q3⟩ := hc j n hn
     have HNN := hid hn
     clear hc hn
     by_cases ho : n.op = 2
     ·have ht : (n.op != 2) = false := by simp [ho]
      have HO := hid ho
      clear ho
      have hsyv : wr.cell? ⟨bS, 0, none⟩ = some (.slice aoS m cS) := by rw [HMN.out]; exact HG.out.sy.cell rfl
      have hsyl := HG.out.sy.lt
      obtain ⟨wz, hwz⟩ : ∃ u, u = wr.alloc (.cells #[.int .i64 n.op, .string n.sym, .int .i64 n.a, .int .i64 n.b] 100) := ⟨_, rfl⟩
      have ez : Ext wr wz := hwz ▸ (Below.refl _ _).alloc (Nat.le_refl _) _
      have HGZ := hid (HG.out.ext' ez)
      have HBS := hid (binsearch_any (OwnR.read HGZ.out.own strC_size) (by rw [← HMN.out]; omega) (by rw [HSS.out]; exact makeSyms_rising l more) n.sym)
      rw [← HMN.out] at HBS
      have HWZ := hid hwz
      clear ez hwz
      go_upto_region 18 with (first
       | (go_at_call 66
          rw [← HWZ.out]
          go_loud (refine HBS.out.mono ?_)
          rintro e w9 ⟨c, fd, rfl, -, hc2, rfl⟩
          have HCC := hid (hc2 (by rw [HSS.out, mem_makeSyms]; exact .inl (mem_symsL HNN.out HO.out)))
          clear hc2))
      obtain ⟨y, hy⟩ : ∃ y, y = ofJ l j n.sym := ⟨_, rfl⟩
      have hcm : c < m := by rw [HMN.out]; exact (List.getElem?_eq_some_iff.1 HCC.out).1
      have hy64 : y < 18446744073709551616 := by rw [hy]; exact maskOf_lt64 _ (by omega)
      have hj64 : (1 <<< j : Nat) < 18446744073709551616 := shl_lt (by omega)
      have HY := hid hy
      have hcel : ∀ W, Ext wz W → ∀ i, i < 16 → W.cell? ⟨bO, c * 16 + i, none⟩ = (setV y)[i]? := fun W e i hi => by
       have h1 := rowV_get (f := setV) (s := 16) setV_size (xs := syms.map (ofJ l j)) (k := c) (x := y) (by rw [List.getElem?_map, HCC.out, HY.out]; rfl) hi
       have h2 := HGZ.out.o.ext e
       rw [← h1, Array.getElem?_eq_getElem (by rw [rowV_size setV_size, List.length_map, ← HMN.out]; have := Nat.mul_le_mul_right 16 (show c + 1 ≤ m from hcm); omega)]
       exact h2.cell (Array.getElem?_eq_getElem _)
      have HCEL := hid hcel
      have hS0 : Blk wz.drew bF 102 #[.slice (some ⟨bO, 0, none⟩) m m] := by rw [HMN.out]; exact HGZ.out.of_.drew
      have g1 : (0 : Int) ≤ (c : Int) := by omega
      have g2 : (c : Int) < (m : Int) := by omega
      have e0 : Ext wz wz.drew := (Below.refl _ _).drew
      have HE0 := hid e0
      clear hy hcel hsyv e0
      go_cut [] from 49 to 82 (fun wx => Hid (GatW w wx l (some ⟨b, off, none⟩) cap syms aoS cS bS bF bO bL (j + 1) j))
      case first =>
       refine wp_region_heldL (fun w' => Blk w' bF 102 #[.slice (some ⟨bO, 0, none⟩) m m]) (by kernel_rfl) ?_
       refine wpAnyH_takeK 0 11 (mk 12 1) rfl (by kernel_rfl) rfl (.slice (some ⟨bO, 0, none⟩) m m) (fun _ _ _ h => h) (Or.inl ⟨rfl, fun w' hS => ?_⟩) hS0 ?_
       ·have c1 : w'.cell? ⟨bF, 0, none⟩ = some (.slice (some ⟨bO, 0, none⟩) m m) := hS.cell rfl; go_simp <;> with_reducible rfl
       refine wpAnyH_takeK 1 10 (mk 12 3) rfl (by kernel_rfl) rfl (.int .i64 c) (fun _ _ _ h => h) (Or.inl ⟨rfl, fun w' hS => ?_⟩) hS0 ?_
       ·go_simp <;> with_reducible rfl
       refine wpAnyH_takeK 2 9 (mk 12 7) rfl (by kernel_rfl) rfl (.slice (some ⟨bO, 0, none⟩) m m) (fun _ _ _ h => h) (Or.inl ⟨rfl, fun w' hS => ?_⟩) hS0 ?_
       ·have c1 : w'.cell? ⟨bF, 0, none⟩ = some (.slice (some ⟨bO, 0, none⟩) m m) := hS.cell rfl; go_simp <;> with_reducible rfl
       refine wpAnyH_takeK 3 8 (mk 12 15) rfl (by kernel_rfl) rfl (.int .i64 c) (fun _ _ _ h => h) (Or.inl ⟨rfl, fun w' hS => ?_⟩) hS0 ?_
       ·go_simp <;> with_reducible rfl
       refine wpAnyH_takeK 4 7 (mk 12 31) rfl (by kernel_rfl) rfl (.pointer (some ⟨bO, c * 16, none⟩)) (fun _ _ _ h => h) (Or.inl ⟨rfl, fun w' hS => ?_⟩) hS0 ?_
       ·go_simp <;> with_reducible rfl
       refine wpAnyH_takeK 6 6 (mk 12 95) rfl (by kernel_rfl) rfl (.int .i64 j) (fun _ _ _ h => h) (Or.inl ⟨rfl, fun w' hS => ?_⟩) hS0 ?_
       ·go_simp <;> with_reducible rfl
       refine wpAnyH_two 5 7 5 (mk 12 127) (mk 12 223) rfl rfl (by kernel_rfl) rfl ?_ ?_
       ·go_wp2_with (with_reducible refine onOp 68 ?_
                     go_loud (refine wpList_load_cells rfl 105 (.tmp 67) rfl bO (c * 16) rfl (setV y) _ 16 (HCEL.out _ HE0.out) (setV_size _) Tryz.underlying105 rfl info105 ?_))
        refine ⟨hS0, ?_⟩
        refine wpAnyH_one 7 4 (mk 12 255) rfl (by kernel_rfl) rfl ?_
        go_wp2_with fail
        refine ⟨hS0.alloc _, ?_⟩
        refine wpAnyH_one 8 3 (mk 12 511) rfl (by kernel_rfl) rfl ?_
        have hnat : NatsV (wz.drew.alloc (.cells #[.int .i64 j] 3)) (.slice (some ⟨wz.heap.size, 0, none⟩) 1 1) [j] := ⟨_, _, rfl, fun _ => ⟨wz.heap.size, 0, rfl, by simp, fun i k hk => by
         match i, hk with
         | 0, hk => cases hk; exact (Blk.new' wz.drew 3 #[.int .i64 j] rfl).cell rfl
         | i + 1, hk => simp at hk⟩⟩
        have HSET := hid (set_any hnat (by simp) (fun p hp => by simp at hp; omega))
        clear hnat
        go_wp2_with fail
        refine HSET.out.mono ?_
        rintro e w6 ⟨C, rfl, hC, hx6⟩
        rw [orL_one] at hC
        subst hC
        have hX6 : Ext wz w6 := (HE0.out.alloc (by simp) _).trans (hx6.mono (by simp))
        have HX6 := hid hX6
        have HS6 : Hid (Blk w6 bF 102 #[.slice (some ⟨bO, 0, none⟩) m m]) := hid ((hS0.alloc _).ext hx6)
        clear hx6 hX6
        go_wp2_with fail
        refine ⟨HS6.out, ?_⟩
        refine wpAnyH_one 9 2 (mk 12 1023) rfl (by kernel_rfl) rfl ?_
        go_wp2_with fail
        refine (either2_any _ _ hy64 hj64 _).mono ?_
        rintro e w7 ⟨C, rfl, hC, hx7⟩
        subst hC
        have HG7 := hid (HGZ.out.ext' (HX6.out.trans (hx7.mono HX6.out.size)))
        have HS7 := hid (HS6.out.ext hx7)
        clear hx7
        go_wp2_with fail
        refine ⟨HS7.out, ?_⟩
        refine wpAnyH_one 10 1 (mk 12 2047) rfl (by kernel_rfl) rfl ?_
        go_wp2_with fail
        refine ⟨HS7.out, ?_⟩
        refine wpAnyH_one 11 0 (mk 12 4095) rfl (by kernel_rfl) rfl ?_
        go_wp2_with (with_reducible show wpList _ _ _ ((⟨_, Op.store _ (.tmp 73) _, _, _, _, _⟩ : Oper) :: _) _ _
                     go_loud (refine wpList_store_agg rfl 105 (.tmp 73) (.tmp 72) rfl bO (c * 16) (setV (y ||| 1 <<< j)) rfl rfl 105 (rowV setV (syms.map (ofJ l j))) HG7.out.o (by rw [setV_size]; exact info105) (by rw [rowV_size setV_size, List.length_map, ← HMN.out, setV_size]; have := Nat.mul_le_mul_right 16 (show c + 1 ≤ m from hcm); omega) (ones_setV _) ?_)
                     intro w8' hB9 hz9
                     have HB9 := hid hB9.out
                     clear hB9 hz9)
        have c9 := HB9.out.2
        have hbo : ¬ bF = bO := fun e => by have h := HS7.out; rw [e] at h; exact ne_of_blk h HG7.out.o (by decide) rfl
        refine ⟨HS7.out.chg c9 hbo, ?_⟩
        refine wpAnyH_end (P := Tryz.prog) (by kernel_rfl) ?_
        go_wp2_with fail
        go_meet
        have h9 := HB9.out.1
        rw [rowV_splice setV_size (by rw [List.length_map, ← HMN.out]; exact hcm), HY.out, ofs_set (by rw [HSS.out]; exact makeSyms_rising l more) HNN.out HO.out HCC.out] at h9
        have hlt4 := HG7.out.lt
        have d9 : Chg (fun k => w.heap.size ≤ k) w7 w8' := c9.mono fun k _ e => by omega
        exact hid ⟨HG7.out.ext.trans (d9.below HG7.out.ext.size (fun k e => e)), HG7.out.r.chg c9 (by omega), HG7.out.res.chg c9 (by omega), HG7.out.sy.chg c9 (fun e => ne_of_blk HG7.out.sy HG7.out.o (by decide) e), HG7.out.own.chg c9 (fun k e e' => by obtain ⟨_, hb⟩ := own_block HG7.out.own e; exact ne_of_blk HG7.out.o hb (by decide) e'.symm), HG7.out.of_.chg c9 hbo, h9, HG7.out.la.chg c9 (fun e => HG7.out.ne e.symm), HG7.out.ne, hlt4⟩
       ·go_wp2_with fail
        refine ⟨hS0.alloc _, ?_⟩
        refine wpAnyH_two 5 8 4 (mk 12 255) (mk 12 479) rfl rfl (by kernel_rfl) rfl ?_ ?_
        ·go_wp2_with (with_reducible refine onOp 68 ?_
                      go_loud (refine wpList_load_cells rfl 105 (.tmp 67) rfl bO (c * 16) rfl (setV y) _ 16 (HCEL.out _ (HE0.out.alloc (by simp) _)) (setV_size _) Tryz.underlying105 rfl info105 ?_))
         refine ⟨hS0.alloc _, ?_⟩
         refine wpAnyH_one 8 3 (mk 12 511) rfl (by kernel_rfl) rfl ?_
         have hnat : NatsV (wz.drew.alloc (.cells #[.int .i64 j] 3)) (.slice (some ⟨wz.heap.size, 0, none⟩) 1 1) [j] := ⟨_, _, rfl, fun _ => ⟨wz.heap.size, 0, rfl, by simp, fun i k hk => by
          match i, hk with
          | 0, hk => cases hk; exact (Blk.new' wz.drew 3 #[.int .i64 j] rfl).cell rfl
          | i + 1, hk => simp at hk⟩⟩
         have HSET := hid (set_any hnat (by simp) (fun p hp => by simp at hp; omega))
         clear hnat
         go_wp2_with fail
         refine HSET.out.mono ?_
         rintro e w6 ⟨C, rfl, hC, hx6⟩
         rw [orL_one] at hC
         subst hC
         have hX6 : Ext wz w6 := (HE0.out.alloc (by simp) _).trans (hx6.mono (by simp))
         have HX6 := hid hX6
         have HS6 : Hid (Blk w6 bF 102 #[.slice (some ⟨bO, 0, none⟩) m m]) := hid ((hS0.alloc _).ext hx6)
         clear hx6 hX6
         go_wp2_with fail
         refine ⟨HS6.out, ?_⟩
         refine wpAnyH_one 9 2 (mk 12 1023) rfl (by kernel_rfl) rfl ?_
         go_wp2_with fail
         refine (either2_any _ _ hy64 hj64 _).mono ?_
         rintro e w7 ⟨C, rfl, hC, hx7⟩
         subst hC
         have HG7 := hid (HGZ.out.ext' (HX6.out.trans (hx7.mono HX6.out.size)))
         have HS7 := hid (HS6.out.ext hx7)
         clear hx7
         go_wp2_with fail
         refine ⟨HS7.out, ?_⟩
         refine wpAnyH_one 10 1 (mk 12 2047) rfl (by kernel_rfl) rfl ?_
         go_wp2_with fail
         refine ⟨HS7.out, ?_⟩
         refine wpAnyH_one 11 0 (mk 12 4095) rfl (by kernel_rfl) rfl ?_
         go_wp2_with (with_reducible show wpList _ _ _ ((⟨_, Op.store _ (.tmp 73) _, _, _, _, _⟩ : Oper) :: _) _ _
                      go_loud (refine wpList_store_agg rfl 105 (.tmp 73) (.tmp 72) rfl bO (c * 16) (setV (y ||| 1 <<< j)) rfl rfl 105 (rowV setV (syms.map (ofJ l j))) HG7.out.o (by rw [setV_size]; exact info105) (by rw [rowV_size setV_size, List.length_map, ← HMN.out, setV_size]; have := Nat.mul_le_mul_right 16 (show c + 1 ≤ m from hcm); omega) (ones_setV _) ?_)
                      intro w8' hB9 hz9
                      have HB9 := hid hB9.out
                      clear hB9 hz9)
         have c9 := HB9.out.2
         have hbo : ¬ bF = bO := fun e => by have h := HS7.out; rw [e] at h; exact ne_of_blk h HG7.out.o (by decide) rfl
         refine ⟨HS7.out.chg c9 hbo, ?_⟩
         refine wpAnyH_end (P := Tryz.prog) (by kernel_rfl) ?_
         go_wp2_with fail
         go_meet
         have h9 := HB9.out.1
         rw [rowV_splice setV_size (by rw [List.length_map, ← HMN.out]; exact hcm), HY.out, ofs_set (by rw [HSS.out]; exact makeSyms_rising l more) HNN.out HO.out HCC.out] at h9
         have hlt4 := HG7.out.lt
         have d9 : Chg (fun k => w.heap.size ≤ k) w7 w8' := c9.mono fun k _ e => by omega
         exact hid ⟨HG7.out.ext.trans (d9.below HG7.out.ext.size (fun k e => e)), HG7.out.r.chg c9 (by omega), HG7.out.res.chg c9 (by omega), HG7.out.sy.chg c9 (fun e => ne_of_blk HG7.out.sy HG7.out.o (by decide) e), HG7.out.own.chg c9 (fun k e e' => by obtain ⟨_, hb⟩ := own_block HG7.out.own e; exact ne_of_blk HG7.out.o hb (by decide) e'.symm), HG7.out.of_.chg c9 hbo, h9, HG7.out.la.chg c9 (fun e => HG7.out.ne e.symm), HG7.out.ne, hlt4⟩
        ·have hnat : NatsV (wz.drew.alloc (.cells #[.int .i64 j] 3)) (.slice (some ⟨wz.heap.size, 0, none⟩) 1 1) [j] := ⟨_, _, rfl, fun _ => ⟨wz.heap.size, 0, rfl, by simp, fun i k hk => by
          match i, hk with
          | 0, hk => cases hk; exact (Blk.new' wz.drew 3 #[.int .i64 j] rfl).cell rfl
          | i + 1, hk => simp at hk⟩⟩
         have HSET := hid (set_any hnat (by simp) (fun p hp => by simp at hp; omega))
         clear hnat
         go_wp2_with fail
         refine HSET.out.mono ?_
         rintro e w6 ⟨C, rfl, hC, hx6⟩
         rw [orL_one] at hC
         subst hC
         have hX6 : Ext wz w6 := (HE0.out.alloc (by simp) _).trans (hx6.mono (by simp))
         have HX6 := hid hX6
         have HS6 : Hid (Blk w6 bF 102 #[.slice (some ⟨bO, 0, none⟩) m m]) := hid ((hS0.alloc _).ext hx6)
         clear hx6 hX6
         go_wp2_with fail
         refine ⟨HS6.out, ?_⟩
         refine wpAnyH_one 5 3 (mk 12 511) rfl (by kernel_rfl) rfl ?_
         go_wp2_with (with_reducible refine onOp 68 ?_
                      go_loud (refine wpList_load_cells rfl 105 (.tmp 67) rfl bO (c * 16) rfl (setV y) _ 16 (HCEL.out _ HX6.out) (setV_size _) Tryz.underlying105 rfl info105 ?_))
         refine ⟨HS6.out, ?_⟩
         refine wpAnyH_one 9 2 (mk 12 1023) rfl (by kernel_rfl) rfl ?_
         go_wp2_with fail
         refine (either2_any _ _ hy64 hj64 _).mono ?_
         rintro e w7 ⟨C, rfl, hC, hx7⟩
         subst hC
         have HG7 := hid (HGZ.out.ext' (HX6.out.trans (hx7.mono HX6.out.size)))
         have HS7 := hid (HS6.out.ext hx7)
         clear hx7
         go_wp2_with fail
         refine ⟨HS7.out, ?_⟩
         refine wpAnyH_one 10 1 (mk 12 2047) rfl (by kernel_rfl) rfl ?_
         go_wp2_with fail
         refine ⟨HS7.out, ?_⟩
         refine wpAnyH_one 11 0 (mk 12 4095) rfl (by kernel_rfl) rfl ?_
         go_wp2_with (with_reducible show wpList _ _ _ ((⟨_, Op.store _ (.tmp 73) _, _, _, _, _⟩ : Oper) :: _) _ _
                      go_loud (refine wpList_store_agg rfl 105 (.tmp 73) (.tmp 72) rfl bO (c * 16) (setV (y ||| 1 <<< j)) rfl rfl 105 (rowV setV (syms.map (ofJ l j))) HG7.out.o (by rw [setV_size]; exact info105) (by rw [rowV_size setV_size, List.length_map, ← HMN.out, setV_size]; have := Nat.mul_le_mul_right 16 (show c + 1 ≤ m from hcm); omega) (ones_setV _) ?_)
                      intro w8' hB9 hz9
                      have HB9 := hid hB9.out
                      clear hB9 hz9)
         have c9 := HB9.out.2
         have hbo : ¬ bF = bO := fun e => by have h := HS7.out; rw [e] at h; exact ne_of_blk h HG7.out.o (by decide) rfl
         refine ⟨HS7.out.chg c9 hbo, ?_⟩
         refine wpAnyH_end (P := Tryz.prog) (by kernel_rfl) ?_
         go_wp2_with fail
         go_meet
         have h9 := HB9.out.1
         rw [rowV_splice setV_size (by rw [List.length_map, ← HMN.out]; exact hcm), HY.out, ofs_set (by rw [HSS.out]; exact makeSyms_rising l more) HNN.out HO.out HCC.out] at h9
         have hlt4 := HG7.out.lt
         have d9 : Chg (fun k => w.heap.size ≤ k) w7 w8' := c9.mono fun k _ e => by omega
         exact hid ⟨HG7.out.ext.trans (d9.below HG7.out.ext.size (fun k e => e)), HG7.out.r.chg c9 (by omega), HG7.out.res.chg c9 (by omega), HG7.out.sy.chg c9 (fun e => ne_of_blk HG7.out.sy HG7.out.o (by decide) e), HG7.out.own.chg c9 (fun k e e' => by obtain ⟨_, hb⟩ := own_block HG7.out.own e; exact ne_of_blk HG7.out.o hb (by decide) e'.symm), HG7.out.of_.chg c9 hbo, h9, HG7.out.la.chg c9 (fun e => HG7.out.ne e.symm), HG7.out.ne, hlt4⟩
      case rest =>
       have HLA := hid (last_any HF.out (HV.out.ext hcut.out.ext) HN.out cap hl j hlt)
       have z0 : wc.cell? ⟨w.heap.size, 0, none⟩ = some (.slice (some ⟨b, off, none⟩) l.length cap) := hcut.out.r.cell rfl
       have zl := hcut.out.r.lt
       clear hS0 HCEL HE0 HY hy64
       go_wp2_with fail
       refine HLA.out.mono ?_
       rintro e w3 ⟨rfl, hx⟩
       have HGC := hid (hcut.out.ext' hx)
       obtain ⟨bt, hbt⟩ : ∃ bt, bt = (factT (tr l (l.length - 1))).last.testBit j := ⟨_, rfl⟩
       rw [← hbt]
       have HBT : Hid ((lastMk l).testBit j = bt) := hid hbt.symm
       clear hbt hx hcut z0 zl
       cases bt with
       | false =>
         go_wp2_with fail
         go_roundg (l.length - (j + 1))
         case measure => omega
         case rel =>
          have h1 := HGC.out
          have h3 := h1.la
          rw [← (show lastJ l (j + 1) = lastJ l j by rw [lastJ_sym HNN.out HO.out, HBT.out]; rfl)] at h3
          exact ⟨j + 1, rfl, by omega, by go_num, hid ⟨h1.ext, h1.r, h1.res, h1.sy, h1.own, h1.of_, h1.o, h3, h1.ne, h1.lt⟩⟩
       | true =>
         obtain ⟨y, hy⟩ : ∃ y, y = lastJ l j := ⟨_, rfl⟩
         have hy64 : y < 18446744073709551616 := by rw [hy]; exact maskOf_lt64 _ (by omega)
         have HY := hid hy
         have hS0 : Blk w3.drew bF 102 #[.slice (some ⟨bO, 0, none⟩) m m] := by rw [HMN.out]; exact HGC.out.of_.drew
         have e0 : Ext w3 w3.drew := (Below.refl _ _).drew
         have HE0 := hid e0
         have HLL : Hid (∀ W, Ext w3 W → Blk W bL 105 (setV y)) := hid fun W e => by rw [HY.out]; exact HGC.out.la.ext e
         clear hy e0
         go_upto_region 20 with fail
         refine wp_region_heldL (fun w' => Blk w' bF 102 #[.slice (some ⟨bO, 0, none⟩) m m]) (by kernel_rfl) ?_
         refine wpAnyH_takeK 1 5 #[false, true, false, false, false, false] rfl (by kernel_rfl) rfl (.int .i64 j) (fun _ _ _ h => h) (Or.inl ⟨rfl, fun w' hS => ?_⟩) hS0 ?_
         ·go_simp <;> with_reducible rfl
         refine wpAnyH_two 0 2 4 #[true, true, false, false, false, false] #[false, true, true, false, false, false] rfl rfl (by kernel_rfl) rfl ?_ ?_
         ·go_wp2_with (with_reducible refine onOp 77 ?_
                       go_loud (refine wpList_load_blk rfl 105 (.tmp 11) rfl bL rfl 105 (setV y) _ 16 (HLL.out _ HE0.out) (setV_size _) Tryz.underlying105 rfl info105 ?_))
          refine ⟨hS0, ?_⟩
          refine wpAnyH_one 2 3 #[true, true, true, false, false, false] rfl (by kernel_rfl) rfl ?_
          go_wp2_with fail
          refine ⟨hS0.alloc _, ?_⟩
          refine wpAnyH_one 3 2 #[true, true, true, true, false, false] rfl (by kernel_rfl) rfl ?_
          have hnat : NatsV (w3.drew.alloc (.cells #[.int .i64 j] 3)) (.slice (some ⟨w3.heap.size, 0, none⟩) 1 1) [j] := ⟨_, _, rfl, fun _ => ⟨w3.heap.size, 0, rfl, by simp, fun i k hk => by
           match i, hk with
           | 0, hk => cases hk; exact (Blk.new' w3.drew 3 #[.int .i64 j] rfl).cell rfl
           | i + 1, hk => simp at hk⟩⟩
          have HSET := hid (set_any hnat (by simp) (fun p hp => by simp at hp; omega))
          clear hnat
          go_wp2_with fail
          refine HSET.out.mono ?_
          rintro e w6 ⟨C, rfl, hC, hx6⟩
          rw [orL_one] at hC
          subst hC
          have hX6 : Ext w3 w6 := (HE0.out.alloc (by simp) _).trans (hx6.mono (by simp))
          have HX6 := hid hX6
          have HS6 : Hid (Blk w6 bF 102 #[.slice (some ⟨bO, 0, none⟩) m m]) := hid ((hS0.alloc _).ext hx6)
          clear hx6 hX6
          go_wp2_with fail
          refine ⟨HS6.out, ?_⟩
          refine wpAnyH_one 4 1 #[true, true, true, true, true, false] rfl (by kernel_rfl) rfl ?_
          go_wp2_with fail
          refine (either2_any _ _ hy64 hj64 _).mono ?_
          rintro e w7 ⟨C, rfl, hC, hx7⟩
          subst hC
          have HG7 := hid (HGC.out.ext' (HX6.out.trans (hx7.mono HX6.out.size)))
          have HS7 := hid (HS6.out.ext hx7)
          have HL7 := hid (HLL.out _ (HX6.out.trans (hx7.mono HX6.out.size)))
          clear hx7
          go_wp2_with fail
          refine ⟨HS7.out, ?_⟩
          refine wpAnyH_one 5 0 #[true, true, true, true, true, true] rfl (by kernel_rfl) rfl ?_
          go_wp2_with (with_reducible show wpList _ _ _ ((⟨_, Op.store _ (.tmp 11) _, _, _, _, _⟩ : Oper) :: _) _ _
                       go_loud (refine wpList_store_agg rfl 105 (.tmp 11) (.tmp 81) rfl bL 0 (setV (y ||| 1 <<< j)) rfl rfl 105 (setV y) HL7.out (by rw [setV_size]; exact info105) (by rw [setV_size, setV_size]; omega) (ones_setV _) ?_)
                       intro w8' hB9 hz9
                       have HB9 := hid hB9.out
                       clear hB9 hz9)
          have c9 := HB9.out.2
          have hbo : ¬ bF = bL := fun e => by have h := HS7.out; rw [e] at h; exact ne_of_blk h HL7.out (by decide) rfl
          refine ⟨HS7.out.chg c9 hbo, ?_⟩
          refine wpAnyH_end (P := Tryz.prog) (by kernel_rfl) ?_
          go_wp2_with fail
          go_roundg (l.length - (j + 1))
          case measure => omega
          case rel =>
           have h9 := HB9.out.1
           rw [splice_all (by rw [setV_size, setV_size]), HY.out, ← (show lastJ l (j + 1) = lastJ l j ||| 1 <<< j by rw [lastJ_sym HNN.out HO.out, HBT.out]; rfl)] at h9
           have hlt4 := HG7.out.lt
           have d9 : Chg (fun k => w.heap.size ≤ k) w7 w8' := c9.mono fun k _ e => by omega
           exact ⟨j + 1, rfl, by omega, by go_num, hid ⟨HG7.out.ext.trans (d9.below HG7.out.ext.size (fun k e => e)), HG7.out.r.chg c9 (by omega), HG7.out.res.chg c9 (by omega), HG7.out.sy.chg c9 (fun e => ne_of_blk HG7.out.sy HL7.out (by decide) e), HG7.out.own.chg c9 (fun k e e' => by obtain ⟨_, hb⟩ := own_block HG7.out.own e; exact ne_of_blk HL7.out hb (by decide) e'.symm), HG7.out.of_.chg c9 hbo, HG7.out.o.chg c9 (fun e => HG7.out.ne e), h9, HG7.out.ne, hlt4⟩⟩
         ·go_wp2_with fail
          refine ⟨hS0.alloc _, ?_⟩
          refine wpAnyH_two 0 3 3 #[true, true, true, false, false, false] #[false, true, true, true, false, false] rfl rfl (by kernel_rfl) rfl ?_ ?_
          ·go_wp2_with (with_reducible refine onOp 77 ?_
                        go_loud (refine wpList_load_blk rfl 105 (.tmp 11) rfl bL rfl 105 (setV y) _ 16 (HLL.out _ (HE0.out.alloc (by simp) _)) (setV_size _) Tryz.underlying105 rfl info105 ?_))
           refine ⟨hS0.alloc _, ?_⟩
           refine wpAnyH_one 3 2 #[true, true, true, true, false, false] rfl (by kernel_rfl) rfl ?_
           have hnat : NatsV (w3.drew.alloc (.cells #[.int .i64 j] 3)) (.slice (some ⟨w3.heap.size, 0, none⟩) 1 1) [j] := ⟨_, _, rfl, fun _ => ⟨w3.heap.size, 0, rfl, by simp, fun i k hk => by
            match i, hk with
            | 0, hk => cases hk; exact (Blk.new' w3.drew 3 #[.int .i64 j] rfl).cell rfl
            | i + 1, hk => simp at hk⟩⟩
           have HSET := hid (set_any hnat (by simp) (fun p hp => by simp at hp; omega))
           clear hnat
           go_wp2_with fail
           refine HSET.out.mono ?_
           rintro e w6 ⟨C, rfl, hC, hx6⟩
           rw [orL_one] at hC
           subst hC
           have hX6 : Ext w3 w6 := (HE0.out.alloc (by simp) _).trans (hx6.mono (by simp))
           have HX6 := hid hX6
           have HS6 : Hid (Blk w6 bF 102 #[.slice (some ⟨bO, 0, none⟩) m m]) := hid ((hS0.alloc _).ext hx6)
           clear hx6 hX6
           go_wp2_with fail
           refine ⟨HS6.out, ?_⟩
           refine wpAnyH_one 4 1 #[true, true, true, true, true, false] rfl (by kernel_rfl) rfl ?_
           go_wp2_with fail
           refine (either2_any _ _ hy64 hj64 _).mono ?_
           rintro e w7 ⟨C, rfl, hC, hx7⟩
           subst hC
           have HG7 := hid (HGC.out.ext' (HX6.out.trans (hx7.mono HX6.out.size)))
           have HS7 := hid (HS6.out.ext hx7)
           have HL7 := hid (HLL.out _ (HX6.out.trans (hx7.mono HX6.out.size)))
           clear hx7
           go_wp2_with fail
           refine ⟨HS7.out, ?_⟩
           refine wpAnyH_one 5 0 #[true, true, true, true, true, true] rfl (by kernel_rfl) rfl ?_
           go_wp2_with (with_reducible show wpList _ _ _ ((⟨_, Op.store _ (.tmp 11) _, _, _, _, _⟩ : Oper) :: _) _ _
                        go_loud (refine wpList_store_agg rfl 105 (.tmp 11) (.tmp 81) rfl bL 0 (setV (y ||| 1 <<< j)) rfl rfl 105 (setV y) HL7.out (by rw [setV_size]; exact info105) (by rw [setV_size, setV_size]; omega) (ones_setV _) ?_)
                        intro w8' hB9 hz9
                        have HB9 := hid hB9.out
                        clear hB9 hz9)
           have c9 := HB9.out.2
           have hbo : ¬ bF = bL := fun e => by have h := HS7.out; rw [e] at h; exact ne_of_blk h HL7.out (by decide) rfl
           refine ⟨HS7.out.chg c9 hbo, ?_⟩
           refine wpAnyH_end (P := Tryz.prog) (by kernel_rfl) ?_
           go_wp2_with fail
           go_roundg (l.length - (j + 1))
           case measure => omega
           case rel =>
            have h9 := HB9.out.1
            rw [splice_all (by rw [setV_size, setV_size]), HY.out, ← (show lastJ l (j + 1) = lastJ l j ||| 1 <<< j by rw [lastJ_sym HNN.out HO.out, HBT.out]; rfl)] at h9
            have hlt4 := HG7.out.lt
            have d9 : Chg (fun k => w.heap.size ≤ k) w7 w8' := c9.mono fun k _ e => by omega
            exact ⟨j + 1, rfl, by omega, by go_num, hid ⟨HG7.out.ext.trans (d9.below HG7.out.ext.size (fun k e => e)), HG7.out.r.chg c9 (by omega), HG7.out.res.chg c9 (by omega), HG7.out.sy.chg c9 (fun e => ne_of_blk HG7.out.sy HL7.out (by decide) e), HG7.out.own.chg c9 (fun k e e' => by obtain ⟨_, hb⟩ := own_block HG7.out.own e; exact ne_of_blk HL7.out hb (by decide) e'.symm), HG7.out.of_.chg c9 hbo, HG7.out.o.chg c9 (fun e => HG7.out.ne e), h9, HG7.out.ne, hlt4⟩⟩
          ·have hnat : NatsV (w3.drew.alloc (.cells #[.int .i64 j] 3)) (.slice (some ⟨w3.heap.size, 0, none⟩) 1 1) [j] := ⟨_, _, rfl, fun _ => ⟨w3.heap.size, 0, rfl, by simp, fun i k hk => by
            match i, hk with
            | 0, hk => cases hk; exact (Blk.new' w3.drew 3 #[.int .i64 j] rfl).cell rfl
            | i + 1, hk => simp at hk⟩⟩
           have HSET := hid (set_any hnat (by simp) (fun p hp => by simp at hp; omega))
           clear hnat
           go_wp2_with fail
           refine HSET.out.mono ?_
           rintro e w6 ⟨C, rfl, hC, hx6⟩
           rw [orL_one] at hC
           subst hC
           have hX6 : Ext w3 w6 := (HE0.out.alloc (by simp) _).trans (hx6.mono (by simp))
           have HX6 := hid hX6
           have HS6 : Hid (Blk w6 bF 102 #[.slice (some ⟨bO, 0, none⟩) m m]) := hid ((hS0.alloc _).ext hx6)
           clear hx6 hX6
           go_wp2_with fail
           refine ⟨HS6.out, ?_⟩
           refine wpAnyH_one 0 2 #[true, true, true, true, false, false] rfl (by kernel_rfl) rfl ?_
           go_wp2_with (with_reducible refine onOp 77 ?_
                        go_loud (refine wpList_load_blk rfl 105 (.tmp 11) rfl bL rfl 105 (setV y) _ 16 (HLL.out _ HX6.out) (setV_size _) Tryz.underlying105 rfl info105 ?_))
           refine ⟨HS6.out, ?_⟩
           refine wpAnyH_one 4 1 #[true, true, true, true, true, false] rfl (by kernel_rfl) rfl ?_
           go_wp2_with fail
           refine (either2_any _ _ hy64 hj64 _).mono ?_
           rintro e w7 ⟨C, rfl, hC, hx7⟩
           subst hC
           have HG7 := hid (HGC.out.ext' (HX6.out.trans (hx7.mono HX6.out.size)))
           have HS7 := hid (HS6.out.ext hx7)
           have HL7 := hid (HLL.out _ (HX6.out.trans (hx7.mono HX6.out.size)))
           clear hx7
           go_wp2_with fail
           refine ⟨HS7.out, ?_⟩
           refine wpAnyH_one 5 0 #[true, true, true, true, true, true] rfl (by kernel_rfl) rfl ?_
           go_wp2_with (with_reducible show wpList _ _ _ ((⟨_, Op.store _ (.tmp 11) _, _, _, _, _⟩ : Oper) :: _) _ _
                        go_loud (refine wpList_store_agg rfl 105 (.tmp 11) (.tmp 81) rfl bL 0 (setV (y ||| 1 <<< j)) rfl rfl 105 (setV y) HL7.out (by rw [setV_size]; exact info105) (by rw [setV_size, setV_size]; omega) (ones_setV _) ?_)
                        intro w8' hB9 hz9
                        have HB9 := hid hB9.out
                        clear hB9 hz9)
           have c9 := HB9.out.2
           have hbo : ¬ bF = bL := fun e => by have h := HS7.out; rw [e] at h; exact ne_of_blk h HL7.out (by decide) rfl
           refine ⟨HS7.out.chg c9 hbo, ?_⟩
           refine wpAnyH_end (P := Tryz.prog) (by kernel_rfl) ?_
           go_wp2_with fail
           go_roundg (l.length - (j + 1))
           case measure => omega
           case rel =>
            have h9 := HB9.out.1
            rw [splice_all (by rw [setV_size, setV_size]), HY.out, ← (show lastJ l (j + 1) = lastJ l j ||| 1 <<< j by rw [lastJ_sym HNN.out HO.out, HBT.out]; rfl)] at h9
            have hlt4 := HG7.out.lt
            have d9 : Chg (fun k => w.heap.size ≤ k) w7 w8' := c9.mono fun k _ e => by omega
            exact ⟨j + 1, rfl, by omega, by go_num, hid ⟨HG7.out.ext.trans (d9.below HG7.out.ext.size (fun k e => e)), HG7.out.r.chg c9 (by omega), HG7.out.res.chg c9 (by omega), HG7.out.sy.chg c9 (fun e => ne_of_blk HG7.out.sy HL7.out (by decide) e), HG7.out.own.chg c9 (fun k e e' => by obtain ⟨_, hb⟩ := own_block HG7.out.own e; exact ne_of_blk HL7.out hb (by decide) e'.symm), HG7.out.of_.chg c9 hbo, HG7.out.o.chg c9 (fun e => HG7.out.ne e), h9, HG7.out.ne, hlt4⟩⟩
     ·have ht : (n.op != 2) = true := by simp [ho]
      have HO := hid ho
      clear ho
      go_wp2_with fail
      go_roundg (l.length - (j + 1))
      case measure => omega
      case rel =>
       have h1 := HG.out.ext' ((Below.refl wr.heap.size wr).alloc (Nat.le_refl _) (.cells #[.int .i64 n.op, .string n.sym, .int .i64 n.a, .int .i64 n.b] 100))
       have e1 : syms.map (ofJ l (j + 1)) = syms.map (ofJ l j) := List.map_congr_left fun x _ => ofJ_skip HNN.out HO.out x
       have h2 := h1.o
       have h3 := h1.la
       rw [← e1] at h2
       rw [← lastJ_skip HNN.out HO.out] at h3
       exact ⟨j + 1, rfl, by omega, by go_num, hid ⟨h1.ext, h1.r, h1.res, h1.sy, h1.own, h1.of_, h2, h3, h1.ne, h1.lt⟩⟩
    ·obtain rfl : j = l.length := by omega
     have hmm := @run_makeMap Tryz.prog
     clear hlt hj
     go_upto_region 24 with fail
     obtain ⟨wB, hwB⟩ : ∃ u, u = (wr.alloc (.map #[] 0)).alloc (.cells #[.map (some wr.heap.size)] 110) := ⟨_, rfl⟩
     have eB : Ext wr wB := hwB ▸ ((Below.refl _ _).alloc (Nat.le_refl _) _).alloc (by simp) _
     have HGB := hid (HG.out.ext' eB)
     have hME : MakeEnv w wB l ao cap syms aoS cS w.heap.size (wr.heap.size + 1) wr.heap.size bS bF bO :=
      { form := HF.out, names := HN.out, len := hl, nodes := HV.out, tab := HT.out, ext := HGB.out.ext, low := HG.out.ext.size, slen := by have := HMN.out; omega,
        r := HGB.out.r, mp := by rw [hwB]; exact Blk.new' _ _ _ (by simp), sy := HGB.out.sy, own := HGB.out.own, of_ := HGB.out.of_, o := HGB.out.o, map := by rw [hwB]; exact (MapB.new _ _).alloc _ }
     have hNX : NextOk kindS 70 #[.pointer (some ⟨w.heap.size, 0, none⟩), .pointer (some ⟨wr.heap.size + 1, 0, none⟩), .pointer (some ⟨bS, 0, none⟩), .pointer (some ⟨bF, 0, none⟩)] wB.heap.size (fun k => k = wr.heap.size) (MakeInv wB l wr.heap.size) (OkS l) (succS l syms) :=
      { enters := enters70
        keep := fun a b i c => i.keep hME c
        below := fun k e => by rw [e]; exact hME.map.lt
        call := fun s W hs hi hW => (make1_any hME hi s hs).mono fun e w' h => by
         obtain ⟨v, rfl, h1, h2, h3⟩ := h
         exact ⟨v, rfl, OwnR.read h1 staC_size, fun _ g hg => .inr (h1.lt g hg).1, h2, h3⟩
        univ := fun s hs s' hs' => by
         unfold succS fan at hs'
         simp only [List.mem_map] at hs'
         obtain ⟨c, _, rfl⟩ := hs'
         exact (stepS_ok HF.out hl syms s c).1 }
     have hU : ∀ i, ∀ k ∈ (tourN (succS l syms) startS i).keys, OkS l k := tourN_univ (show OkS l startS from Nat.two_pow_pos _) hNX.univ
     have HTR := hid (travel_sta (first := startS) (most := 256) wB hNX hME.start hU (by decide) (.inl (by decide)) (fun k _ => by rw [fan_length, ← HMN.out]; omega))
     have HLOW : Hid (w.heap.size ≤ wr.heap.size) := hid HG.out.ext.size
     have HWB : Hid (w.heap.size + 1 < wB.heap.size ∧ wr.heap.size < wB.heap.size) := hid ⟨HGB.out.res.lt, hME.map.lt⟩
     have HMP : Hid (MapB wB wr.heap.size numV []) := hid hME.map
     obtain ⟨bM, hbM⟩ : ∃ b, b = wr.heap.size := ⟨_, rfl⟩
     rw [← hwB]
     rw [← hbM] at HTR HWB HMP HLOW ⊢
     clear hNX hU hME eB hwB hbM HG
     go_wp2_with (with_reducible refine onOp 86 ?_
                  go_loud (refine wpList_build_agg rfl 112 _ rfl [(0, .bool true)] rfl (staC startS) built_start ?_)
                  intro C HC
                  have hC := HC.out
                  subst hC)
     go_at_call 75
     refine HTR.out.mono ?_
     rintro e w5 ⟨hI5, hC5, h5⟩
     have hG5 : GatW w w5 l ao cap syms aoS cS bS bF bO bL l.length l.length := by
      have nb : ∀ {g t A}, Blk wB g t A → ¬ g = bM := fun hb e => blk_map_ne hb HMP.out e
      have h := HGB.out
      have hlow := HLOW.out
      exact ⟨h.ext.trans (hC5.below h.ext.size (fun k e => by omega)), h.r.chg hC5 (nb h.r), h.res.chg hC5 (nb h.res), h.sy.chg hC5 (nb h.sy), h.own.chg hC5 (fun k e => by obtain ⟨_, hb⟩ := own_block h.own e; exact nb hb), h.of_.chg hC5 (nb h.of_), h.o.chg hC5 (nb h.o), h.la.chg hC5 (nb h.la), h.ne, h.lt⟩
     have HG5 := hid hG5
     have HWL : Hid (w.heap.size + 1 < w5.heap.size) := hid hG5.res.lt
     clear hI5 hC5 hG5 HGB HTR HMP
     have z0 : w5.cell? ⟨w.heap.size, 0, none⟩ = some (.slice ao l.length cap) := HG5.out.r.cell rfl
     have zl := HG5.out.r.lt
     have r0 : w5.cell? ⟨w.heap.size + 1, 0, none⟩ = some (.slice none 0 0) := HG5.out.res.cell (i := 0) rfl
     have r1 : w5.cell? ⟨w.heap.size + 1, 1, none⟩ = some (.slice none 0 0) := HG5.out.res.cell (i := 1) rfl
     have r2 : w5.cell? ⟨w.heap.size + 1, 2, none⟩ = some (.slice none 0 0) := HG5.out.res.cell (i := 2) rfl
     have rf := HG5.out.res.frozen
     have rl := HG5.out.res.lt
     rcases h5 with ⟨i, vK, vN, vF, hi1, hi2, rfl, hT⟩ | ⟨i, hi, rfl⟩
     ·obtain ⟨hK, ⟨us, hNx, hlen, hrows⟩, hFr⟩ := hT
      obtain ⟨aoK, cK, rfl, -⟩ := (OwnR.read hK okS.size).form
      obtain ⟨aoN, cN, rfl, -⟩ := (OwnR.read hNx (fun _ => rfl)).form
      obtain ⟨aoF, cF, rfl, -⟩ := (OwnR.read hFr (fun _ => rfl)).form
      have HK := hid hK
      have HNX := hid hNx
      have HLEN := hid hlen
      have HROWS := hid hrows
      have HFR := hid hFr
      have HI1 := hid hi1
      have HI2 := hid hi2
      obtain ⟨ks, hks⟩ : ∃ x, x = (tourN (succS l syms) startS i).keys := ⟨_, rfl⟩
      obtain ⟨fr, hfr⟩ : ∃ x, x = (tourN (succS l syms) startS i).from_ := ⟨_, rfl⟩
      obtain ⟨rows, hrw⟩ : ∃ x, x = (tourN (succS l syms) startS i).next := ⟨_, rfl⟩
      rw [← hks] at HK HI1 ⊢
      rw [← hfr] at HFR ⊢
      rw [← hrw] at HROWS HLEN
      have HKS := hid hks
      have HRW := hid hrw
      obtain ⟨kl, hkl⟩ : ∃ n, n = ks.length := ⟨_, rfl⟩
      obtain ⟨nl, hnl⟩ : ∃ n, n = us.length := ⟨_, rfl⟩
      obtain ⟨fl, hfl⟩ : ∃ n, n = fr.length := ⟨_, rfl⟩
      rw [← hkl] at HK ⊢
      rw [← hnl] at HNX ⊢
      rw [← hfl] at HFR ⊢
      have HKL := hid hkl
      have HNL := hid hnl
      have HFL := hid hfl
      clear hK hNx hlen hrows hFr hi1 hi2 hks hfr hrw hkl hnl hfl
      have HNU : Hid (∀ W, Ext w W → Calls Tryz.prog 76 #[.agg #[.slice ao l.length cap]] W fun e w' => e = .returned (.bool (nullT (tr l (l.length - 1)))) ∧ Ext W w') := hid fun W e => nullable_any HF.out (HV.out.ext e) HN.out cap hl
      obtain ⟨w6, hw6⟩ : ∃ u, u = w5.alloc (.cells #[.slice aoK kl cK, .slice aoN nl cN, .slice aoF fl cF] 118) := ⟨_, rfl⟩
      have e6 : Ext w5 w6 := hw6 ▸ (Below.refl _ _).alloc (Nat.le_refl _) _
      have HE6 := hid e6
      have HB6 : Hid (Blk w6 w5.heap.size 118 #[.slice aoK kl cK, .slice aoN nl cN, .slice aoF fl cF]) := hid (hw6 ▸ Blk.new _ _ _)
      have HW6 := hid hw6
      clear hw6 e6
      go_wp2_with fail
      rw [← HW6.out]
      refine (HNU.out w6 (HG5.out.ext.trans (HE6.out.mono HG5.out.ext.size))).mono ?_
      rintro e w7 ⟨rfl, hx7⟩
      have hE7 : Ext w5 w7 := HE6.out.trans (hx7.mono HE6.out.size)
      have HB7 := hid (HB6.out.ext hx7)
      have HG7 := hid (HG5.out.ext' hE7)
      have HE7 := hid hE7
      clear hx7 hE7 z0 zl r0 r1 r2 rf rl HNU HG5 HE6 HB6 HW6
      have c0 : w7.cell? ⟨w5.heap.size, 0, none⟩ = some (.slice aoK kl cK) := HB7.out.cell (i := 0) rfl
      have c1 : w7.cell? ⟨w5.heap.size, 1, none⟩ = some (.slice aoN nl cN) := HB7.out.cell (i := 1) rfl
      have c2 : w7.cell? ⟨w5.heap.size, 2, none⟩ = some (.slice aoF fl cF) := HB7.out.cell (i := 2) rfl
      have lb := HB7.out.lt
      have s0 : w7.cell? ⟨bS, 0, none⟩ = some (.slice aoS m cS) := by rw [HMN.out]; exact HG7.out.sy.cell rfl
      have sl := HG7.out.sy.lt
      have h8 : Ext w5 (w7.alloc (.cells #[.bool (nullT (tr l (l.length - 1)))] 4)) := HE7.out.alloc HE7.out.size _
      have HE8 := hid h8
      have HG8 := hid (HG7.out.ext' ((Below.refl w7.heap.size w7).alloc (Nat.le_refl _) (.cells #[.bool (nullT (tr l (l.length - 1)))] 4)))
      have hAU := auto_sta (w := w7.alloc (.cells #[.bool (nullT (tr l (l.length - 1)))] 4)) (f := 78) (bs := #[]) (caps := #[.pointer (some ⟨w7.heap.size, 0, none⟩), .pointer (some ⟨bL, 0, none⟩)])
       (OwnR.read (HK.out.ext h8) okS.size) (OwnR.read (HNX.out.ext h8) (fun _ => rfl)) (OwnR.read (HFR.out.ext h8) (fun _ => rfl)) (OwnR.read (by have := HG8.out.own; rwa [← HMN.out] at this) strC_size) (by have := HI1.out; have := HI2.out; omega) (by rw [← HMN.out]; omega) enters78 (finalK l)
       (fun k w' _ hx => make2_any (bE := w7.heap.size) (bL := bL) (emp := nullT (tr l (l.length - 1))) (last := lastK l) (maskOf_lt64 _ hl) ((Blk.new w7 4 _).ext hx) (HG8.out.la.ext hx) k)
      have HAU := hid hAU
      clear h8 hAU
      go_wp2_with fail
      refine HAU.out.mono ?_
      rintro e w9 ⟨hx9, vS9, vF9, rfl, hS9, hF9⟩
      obtain ⟨aoC, cC, rfl, -⟩ := (OwnR.read hS9 strC_size).form
      obtain ⟨aoG, cG, rfl, -⟩ := (OwnR.read hF9 (fun _ => rfl)).form
      have HS9 := hid hS9
      have HF9 := hid hF9
      have HX9 := hid hx9
      have HG9 := hid (HG8.out.ext' hx9)
      obtain ⟨fnl, hfnl⟩ : ∃ n, n = (ks.map (finalK l)).length := ⟨_, rfl⟩
      rw [← hfnl] at HF9 ⊢
      rw [← HMN.out] at HS9 ⊢
      clear hS9 hF9 hx9 hfnl c0 c1 c2 lb s0 sl HAU
      have r0 : w9.cell? ⟨w.heap.size + 1, 0, none⟩ = some (.slice none 0 0) := HG9.out.res.cell (i := 0) rfl
      have r1 : w9.cell? ⟨w.heap.size + 1, 1, none⟩ = some (.slice none 0 0) := HG9.out.res.cell (i := 1) rfl
      have r2 : w9.cell? ⟨w.heap.size + 1, 2, none⟩ = some (.slice none 0 0) := HG9.out.res.cell (i := 2) rfl
      have rf := HG9.out.res.frozen
      have rl := HG9.out.res.lt
      go_wp2_with fail
      have h3 : Blk (((w9.setCell ⟨w.heap.size + 1, 0, none⟩ (.slice aoC m cC)).setCell ⟨w.heap.size + 1, 1, none⟩ (.slice aoN nl cN)).setCell ⟨w.heap.size + 1, 2, none⟩ (.slice aoG fnl cG)) (w.heap.size + 1) 26 #[.slice aoC m cC, .slice aoN nl cN, .slice aoG fnl cG] := ((HG9.out.res.set 0 _).set 1 _).set 2 _
      have cq : Chg (fun k => k = w.heap.size + 1) w9 (((w9.setCell ⟨w.heap.size + 1, 0, none⟩ (.slice aoC m cC)).setCell ⟨w.heap.size + 1, 1, none⟩ (.slice aoN nl cN)).setCell ⟨w.heap.size + 1, 2, none⟩ (.slice aoG fnl cG)) :=
       Chg.setCell (p := ⟨w.heap.size + 1, 2, none⟩) (S := fun k => k = w.heap.size + 1) (Chg.setCell (p := ⟨w.heap.size + 1, 1, none⟩) (S := fun k => k = w.heap.size + 1) (Chg.setCell (p := ⟨w.heap.size + 1, 0, none⟩) (S := fun k => k = w.heap.size + 1) (Chg.refl _ w9) rfl (.slice aoC m cC)) rfl (.slice aoN nl cN)) rfl (.slice aoG fnl cG)
      refine bodyPost_ret (v := .tuple #[.agg #[.slice aoC m cC, .slice aoN nl cN, .slice aoG fnl cG], .int .i64 0]) (results_cell_agg_tmp Tryz.results22 _ _ (w.heap.size + 1) 26 #[.slice aoC m cC, .slice aoN nl cN, .slice aoG fnl cG] _ _ rfl rfl h3 Tryz.underlying26 rfl (by kernel_rfl)) rfl ?_
      have cc := cq.mono (S' := fun k => w.heap.size ≤ k) fun k _ e => by omega
      rw [← HSS.out]
      refine ⟨HG9.out.ext.trans (cc.below HG9.out.ext.size (fun k e => e)), .inl ⟨i, _, ?_, HI2.out, rfl, ⟨_, _, _, us, rfl, ?_⟩, fun q w'' hqw c' => ⟨_, _, _, us, rfl, ?_⟩⟩⟩
      ·show (tourN (succS l syms) startS i).keys.length = i
       rw [← HKS.out]; exact HI1.out.symm
      ·have hsz := HE8.out.size
       have hP := auto_dfa (rows := rows) HX9.out HS9.out HF9.out (HNX.out.ext HE8.out) HLEN.out (fun i u r hu hr => ⟨(HROWS.out i u r hu hr).1.ext HE8.out, (HROWS.out i u r hu hr).2⟩) HWB.out.1 (by have := HWL.out; omega) cq
       rw [HRW.out, HKS.out] at hP
       exact hP
      ·have hsz := HE8.out.size
       have hP := auto_dfaS (S := fun k => k = w.heap.size + 1 ∨ k = q) (rows := rows) HX9.out HS9.out HF9.out (HNX.out.ext HE8.out) HLEN.out (fun i u r hu hr => ⟨(HROWS.out i u r hu hr).1.ext HE8.out, (HROWS.out i u r hu hr).2⟩) (fun k hk => by have := HWB.out.1; have := HWL.out; omega) ((cq.mono fun k _ e => .inl e).trans (c'.mono fun k _ e => .inr e))
       rw [HRW.out, HKS.out] at hP
       exact hP
     ·have HI := hid hi
      clear hi
      go_wp2_with fail
      have h3 : Blk ((((w5.setCell ⟨w.heap.size + 1, 0, none⟩ (.slice none 0 0)).setCell ⟨w.heap.size + 1, 1, none⟩ (.slice none 0 0)).setCell ⟨w.heap.size + 1, 2, none⟩ (.slice none 0 0)).alloc (.cells #[.slice none 0 0, .slice none 0 0, .slice none 0 0] 118)) (w.heap.size + 1) 26 #[.slice none 0 0, .slice none 0 0, .slice none 0 0] := (((HG5.out.res.set 0 _).set 1 _).set 2 _).alloc _
      refine bodyPost_ret (v := .tuple #[.agg #[.slice none 0 0, .slice none 0 0, .slice none 0 0], .int .i64 17]) (results_cell_agg_tmp Tryz.results22 _ _ (w.heap.size + 1) 26 #[.slice none 0 0, .slice none 0 0, .slice none 0 0] _ _ rfl rfl h3 Tryz.underlying26 rfl (by kernel_rfl)) rfl ?_
      have cc : Chg (fun k => w.heap.size ≤ k) w5 ((((w5.setCell ⟨w.heap.size + 1, 0, none⟩ (.slice none 0 0)).setCell ⟨w.heap.size + 1, 1, none⟩ (.slice none 0 0)).setCell ⟨w.heap.size + 1, 2, none⟩ (.slice none 0 0)).alloc (.cells #[.slice none 0 0, .slice none 0 0, .slice none 0 0] 118)) :=
       Chg.mono (S := fun k => k = w.heap.size + 1) (Chg.alloc (Chg.setCell (p := ⟨w.heap.size + 1, 2, none⟩) (S := fun k => k = w.heap.size + 1) (Chg.setCell (p := ⟨w.heap.size + 1, 1, none⟩) (S := fun k => k = w.heap.size + 1) (Chg.setCell (p := ⟨w.heap.size + 1, 0, none⟩) (S := fun k => k = w.heap.size + 1) (Chg.refl _ w5) rfl (.slice none 0 0)) rfl (.slice none 0 0)) rfl (.slice none 0 0)) _) fun k _ e => by omega
      rw [← HSS.out]
      exact ⟨HG5.out.ext.trans (cc.below HG5.out.ext.size (fun k e => e)), .inr ⟨i, HI.out, rfl⟩⟩
theorem make_good {w : World} {l : List Nd} {ao : Option Addr} {cap : Nat} (F : Rx.Form l) (hV : NodesV w ao l) (hN : NamesOk l) (hl : l.length ≤ 64) (hT : TabW w) {vM : Value} {more : List ByteArray} (hM : ReadR w 1 strC vM more) (hm : more.length ≤ 100) (hnm : ∀ x ∈ more, nameOk x = true ∧ x.size ≤ 1000000) :
 Calls Tryz.prog 22 #[.agg #[.slice ao l.length cap], vM] w (MakePost l (makeSyms l more) w) :=
 (make_goodF (cap := cap) F hV hN hl hT hM hm hnm).mono fun _ _ h => ⟨h.1, h.2.imp (fun ⟨i, v, a, b, c, d, _⟩ => ⟨i, v, a, b, c, d⟩) id⟩
end Go.Proofs.YtngpjagpeblbjaaGreatDoor
