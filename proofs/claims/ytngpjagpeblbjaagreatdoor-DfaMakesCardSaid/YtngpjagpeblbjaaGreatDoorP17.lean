/-
  Walk of DFA.Least.
  Walks of First, Next and Last where there is a plan.
  Sets of places by value: the union of two.
  Sets of places by value: what is in both of two.
  Sets of places by value: the places of one, the set of some places.
-/
import Derived.Test.YtngpjagpeblbjaaGreatDoorP16
import Derived.Test.YtngpjagpeblbjaaGreatDoorP08
namespace Go.Proofs.YtngpjagpeblbjaaGreatDoor
open Go.RowKit Go.Spy Go.Heaped Go.Tour Go.Rx
abbrev stepF (D : DA) : Nat → List Nat := fan (stepD D) D.syms.length
theorem well_univ {D : DA} (W : WellD nameOk D) : ∀ k, k < D.next.length → ∀ x ∈ stepF D k, x < D.next.length := fun k _ x hx => by
 simp only [fan, List.mem_map, List.mem_range] at hx
 obtain ⟨c, _, rfl⟩ := hx
 exact W.ok.step k c
theorem well_le {D : DA} (W : WellD nameOk D) (i : Nat) : (tourN (stepF D) 0 i).keys.length ≤ D.next.length := by
 have := tourN_le (U := fun k => k < D.next.length) (succ := stepF D) (first := 0) W.ok.pos (well_univ W) (u := List.range D.next.length) (fun k hk => by simpa using hk) i
 simpa using this
def TourPost (D : DA) (w : World) (e : Ending) (w' : World) : Prop := Ext w w' ∧ ∃ i vK vN vF, Full (stepF D) 0 i ∧ i ≤ 256 ∧ e = .returned (.tuple #[.agg #[vK, vN, vF], .bool true]) ∧ TourW kindI w' w.heap.size vK vN vF (tourN (stepF D) 0 i).keys (tourN (stepF D) 0 i).next (tourN (stepF D) 0 i).from_
theorem tour_d {w : World} {f : FuncId} {caps : Array Value} {D : DA} (W : WellD nameOk D) (hs : D.syms.length ≤ 1000) (hN : NextOk kindI f caps w.heap.size (fun _ => False) (fun w' => Ext w w') (fun s => s < D.next.length) (stepF D)) :
 Calls Tryz.prog 51 #[.int .i64 0, .int .i64 9223372036854775807, .func (.func f) #[] caps] w (TourPost D w) := by
 have h := travel_int (first := 0) (most := 9223372036854775807) w hN (Below.refl _ _) (fun i k hk => tourN_univ (U := fun k => k < D.next.length) W.ok.pos (well_univ W) i k hk) (by decide) (.inr fun i => by have := well_le W i; have := W.most; omega) (fun k _ => by rw [fan_length]; exact hs)
 refine Calls.mono h ?_
 rintro e w' ⟨hi, hc, ⟨i, vK, vN, vF, h1, h2, rfl, h3⟩ | ⟨i, h1, -⟩⟩
 ·refine ⟨hi, i, vK, vN, vF, h1.symm, ?_, rfl, h3⟩
  have := well_le W i
  have := W.most
  omega
 ·exfalso
  have := well_le W i
  have := W.most
  have h4 : (9223372036854775807 : Nat) < 257 := by omega
  exact absurd h4 (by decide)
theorem wordF_len (fr : List (Nat × Nat)) : ∀ f n, (wordF fr f n).length ≤ f
 | 0, _ => by simp [wordF]
 | f + 1, n => by
   unfold wordF
   split
   ·simp
   ·split
    ·rw [List.length_append]
     have := wordF_len fr f
     simp only [List.length_cons, List.length_nil]
     exact Nat.add_le_add_right (this _) 1
    ·simp
def LeastPost (D : DA) (w : World) (e : Ending) (w' : World) : Prop := Ext w w' ∧
 ((∃ v u, e = .returned (.tuple #[v, .int .i64 0]) ∧ ReadR w' 1 strC v (wordsOf D.syms u) ∧ u.length ≤ 1000 ∧ (∀ c ∈ u, c < D.syms.length) ∧ langD D u = true ∧ ∀ x, (∀ c ∈ x, c < D.syms.length) → langD D x = true → sle u x) ∨
  (e = .returned (.tuple #[.slice none 0 0, .int .i64 18]) ∧ ∀ x, langD D x = false))
set_option maxRecDepth 100000 in
set_option maxHeartbeats 1000000 in
theorem least_any {w : World} {v : Value} {D : DA} (hD : DfaW w v D) : Calls Tryz.prog 16 #[v] w (LeastPost D w) := by
 have HD := hid hD
 obtain ⟨⟨vS, vN, vF, us, rfl, hP⟩, hB, W⟩ := hD
 have hc := hid (dcheck_any (hP.ext_box (.cells #[vS, vN, vF] 26)) hB)
 obtain ⟨aoS, cS, rfl, hS⟩ := hP.syms.form
 obtain ⟨aoN, cN, rfl, hN⟩ := hP.next.form
 obtain ⟨aoF, cF, rfl, hF⟩ := hP.fin.form
 rw [well_check W] at hc
 have HP := hid hP
 have HB := hid hB
 have HW := hid W
 have HX : Hid (Ext w (w.alloc (.cells #[.slice aoS D.raw.syms.length cS, .slice aoN us.length cN, .slice aoF D.raw.fin.length cF] 26))) := hid ((Below.refl _ _).alloc (Nat.le_refl _) _)
 clear hP hB W hS hN hF
 go_enter Tryz.func16, Tryz.ntmps16
 go_wp2_with fail
 refine hc.out.mono ?_
 rintro e w2 ⟨rfl, hx⟩
 have HX2 := hid (HX.out.trans (hx.mono HX.out.size))
 have hB2 := (Blk.new w 26 #[.slice aoS D.raw.syms.length cS, .slice aoN us.length cN, .slice aoF D.raw.fin.length cF]).ext hx
 have HP2 := hid (HP.out.ext HX2.out)
 have HT := hid (tour_d (w := w2) (f := 52) (caps := #[.pointer (some ⟨w.heap.size, 0, none⟩)]) HW.out HB.out.s (next_ok_int enters52 hB2 HP2.out HW.out (fun s w' hs e => least1_any (hB2.ext e) (HP2.out.ext e) HW.out hs |>.mono fun _ _ ⟨h1, h2⟩ => ⟨h1, h2⟩)))
 have HB2 := hid hB2
 clear hx hB2
 go_wp2_with fail
 refine HT.out.mono ?_
 rintro e w3 ⟨hx3, i, vK, vN, vF, hfull, hi, rfl, hT⟩
 obtain ⟨aoK, cK, rfl, hK⟩ := (OwnR.read hT.keys okI.size).form
 obtain ⟨us3, hn3, hu3, hr3⟩ := hT.next
 obtain ⟨aoM, cM, rfl, -⟩ := (OwnR.read hn3 (fun _ => rfl)).form
 obtain ⟨aoG, cG, rfl, -⟩ := (OwnR.read hT.from_ (fun _ => rfl)).form
 have HTK := hid (OwnR.read hT.keys okI.size)
 have HTF := hid (OwnR.read hT.from_ (fun _ => rfl))
 have HFULL := hid hfull
 have HX3 := hid (HX2.out.trans (hx3.mono HX2.out.size))
 have HB3 := hid (HB2.out.ext hx3)
 clear hx3 hK hn3 hu3 hr3 hT hfull
 have hkl0 : (tourN (stepF D) 0 i).keys.length = i := HFULL.out
 have hfl0 := tourN_from_len (stepF D) 0 i
 obtain ⟨kl, hkl⟩ : ∃ n, n = (tourN (stepF D) 0 i).keys.length := ⟨_, rfl⟩
 obtain ⟨fl, hfl⟩ : ∃ n, n = (tourN (stepF D) 0 i).from_.length := ⟨_, rfl⟩
 rw [← hkl] at HTK ⊢
 rw [← hfl] at HTF ⊢
 have hkl1 : kl ≤ 256 := by omega
 have HKL := hid hkl
 have HFL := hid hfl
 have HKF : Hid (fl = kl) := hid (by omega)
 clear hkl hfl hkl0 hfl0
 have c0 : w3.cell? ⟨w.heap.size, 0, none⟩ = some (.slice aoS D.raw.syms.length cS) := HB3.out.cell rfl
 have c1 : w3.cell? ⟨w.heap.size, 1, none⟩ = some (.slice aoN us.length cN) := HB3.out.cell rfl
 have c2 : w3.cell? ⟨w.heap.size, 2, none⟩ = some (.slice aoF D.raw.fin.length cF) := HB3.out.cell rfl
 have hlt3 := HB3.out.lt
 have HTI := hid (nat_int.1 HTK.out)
 have HU : Hid (∀ k ∈ (tourN (stepF D) 0 i).keys, k < D.next.length) := hid (tourN_univ (U := fun k => k < D.next.length) HW.out.ok.pos (well_univ HW.out) i)
 go_wp2_with fail
 obtain ⟨w4, hw4⟩ : ∃ u, u = w3.alloc (.cells #[.slice aoK kl cK, .slice aoM us3.length cM, .slice aoG fl cG] 89) := ⟨_, rfl⟩
 rw [← hw4]
 have e4 : Ext w3 w4 := hw4 ▸ (Below.refl _ _).alloc (Nat.le_refl _) _
 have HB5 : Hid (Blk w4 w3.heap.size 89 #[.slice aoK kl cK, .slice aoM us3.length cM, .slice aoG fl cG]) := hid (hw4 ▸ Blk.new _ _ _)
 have HE4 := hid e4
 have HX4 := hid (HX3.out.trans (e4.mono HX3.out.size))
 clear e4 hw4
 refine (indexfunc_any (HTI.out.ext HE4.out) (by rw [List.length_map, ← HKL.out]; omega) enters50 (finS D) (fun z w' hz e => ?_)).mono ?_
 ·obtain ⟨k, hk, rfl⟩ := List.mem_map.1 hz
  have h := final_any (HD.out.ext (HX4.out.trans (e.mono HX4.out.size))) (Int.ofNat k) (by have := HU.out k hk; show ((k : Nat) : Int) < _; omega)
  simpa using h
 rintro e w5 ⟨hx5, hidx⟩
 have HX5 := hid (HX4.out.trans (hx5.mono HX4.out.size))
 have HE5 := hid (HE4.out.trans (hx5.mono HE4.out.size))
 have HB6 := hid (HB5.out.ext hx5)
 have HB7 := hid ((HB3.out.ext HE4.out).ext hx5)
 rcases hidx with ⟨n, x, rfl, h1, h2, h3⟩ | ⟨rfl, h1⟩
 ·have hd : decide ((n : Int) < 0) = false := decide_eq_false (by omega)
  rw [List.getElem?_map, Option.map_eq_some_iff] at h1
  obtain ⟨q, hq, rfl⟩ := h1
  have HQ := hid hq
  have H2 := hid h2
  have H3 := hid h3
  have d0 : w5.cell? ⟨w3.heap.size, 0, none⟩ = some (.slice aoK kl cK) := HB6.out.cell rfl
  have d1 : w5.cell? ⟨w3.heap.size, 1, none⟩ = some (.slice aoM us3.length cM) := HB6.out.cell rfl
  have d2 : w5.cell? ⟨w3.heap.size, 2, none⟩ = some (.slice aoG fl cG) := HB6.out.cell rfl
  have d3 : w5.cell? ⟨w.heap.size, 0, none⟩ = some (.slice aoS D.raw.syms.length cS) := HB7.out.cell rfl
  have hnf : n < fl := by rw [HKF.out, HKL.out]; exact (List.getElem?_eq_some_iff.1 hq).1
  have HWD := hid (words_int (vK := .slice aoK kl cK) (vN := .slice aoM us3.length cM) (HTF.out.ext HE5.out) (HP.out.ext HX5.out).syms (by rw [← HFL.out]; have := HKF.out; omega) HB.out.s HFULL.out.bfs n (by rw [← HFL.out]; exact hnf))
  clear hx5 hq h2 h3
  go_wp2_with fail
  refine HWD.out.mono ?_
  rintro e w6 ⟨hx6, v, rfl, hO⟩
  have HX6 := hid (HX5.out.trans (hx6.mono HX5.out.size))
  have HO := hid hO
  clear hx6 hO
  go_wp2_with fail
  go_ret2
  obtain ⟨r1, r2, r3⟩ := full_least (δ := stepD D) (m := D.syms.length) HFULL.out (finD D) HQ.out (fun j y hj hy => by
   have := H3.out j (Int.ofNat y) hj (by rw [List.getElem?_map, hy]; rfl)
   simpa [finS] using this)
  refine ⟨HX6.out, .inl ⟨v, _, rfl, OwnR.read HO.out strC_size, ?_, r2, ?_, fun x hx hl => r3 x hx ?_⟩⟩
  ·have h1 := wordF_len (tourN (stepF D) 0 i).from_ n n
   have h2 := HKF.out
   unfold word
   omega
  ·unfold langD
   rw [lang_of r2, r1]
   have := H2.out
   simpa [finS] using this
  ·unfold langD at hl
   rwa [lang_of hx] at hl
 ·have HN := hid h1
  clear hx5 h1
  go_wp2_with fail
  go_ret2
  refine ⟨HX5.out, .inr ⟨rfl, fun x => ?_⟩⟩
  unfold langD
  by_cases hx : ∀ c ∈ x, c < D.syms.length
  ·rw [lang_of hx]
   refine full_none (δ := stepD D) (m := D.syms.length) HFULL.out (finD D) (fun y hy => ?_) x hx
   have := HN.out (Int.ofNat y) (List.mem_map.2 ⟨y, hy, rfl⟩)
   simpa [finS] using this
  ·unfold lang; rw [decide_eq_false hx]; rfl
end Go.Proofs.YtngpjagpeblbjaaGreatDoor
namespace Go.Proofs.YtngpjagpeblbjaaGreatDoor
open Go.RowKit Go.Spy Go.Heaped Go.Tour Go.Rx
def NumsPost (l : List Nat) (w : World) (e : Ending) (w' : World) : Prop := ∃ v, e = .returned v ∧ OwnI w' w.heap.size v l ∧ Ext w w'
theorem ownI_lower {w : World} {base b : Nat} {v : Value} {l : List Nat} (h : OwnI w base v l) (hb : b ≤ base) : OwnI w b v l := by
 refine ⟨h.1, ?_⟩
 rcases h.2 with h0 | ⟨g, cap, cur, rfl, hb', rest⟩
 ·exact .inl h0
 ·exact .inr ⟨g, cap, cur, rfl, Nat.le_trans hb hb', rest⟩
theorem info129 : (Tryz.prog.info? 129).map (·.size) = some 16 := by kernel_rfl
set_option maxRecDepth 100000 in
theorem first_any {l : List Nd} (F : Rx.Form l) {w : World} {ao : Option Addr} (hV : NodesV w ao l) (hN : NamesOk l) (cap : Nat) (hl : l.length ≤ 64) (hT : TabW w) :
 Calls Tryz.prog 71 #[.agg #[.slice ao l.length cap]] w (NumsPost (bitsL (factT (tr l (l.length - 1))).first) w) := by
 have h0 : 0 < l.length := List.length_pos_iff.2 F.ne
 have HV := hid hV
 have HN := hid hN
 have HF := hid F
 have HT := hid hT
 clear hV hN F hT
 go_enter Tryz.func71, Tryz.ntmps71
 go_wp2_with fail
 have hE0 : Ext w (w.alloc (.cells #[.slice ao l.length cap] 45)) := (Below.refl _ w).alloc (Nat.le_refl _) _
 refine (plan_any HF.out (HV.out.ext hE0) HN.out cap hl).mono ?_
 rintro e w1 ⟨bF, bA, rfl, hP, hx, lF, lA⟩
 unfold planC
 have HX := hid (hE0.trans (hx.mono (by simp)))
 have HP := hid hP
 have sx := hx.size
 clear hx hE0 hP
 go_wp2_with fail
 have hE1 : Ext w ((w1.alloc (.cells #[.slice ao l.length cap, .slice (some ⟨bF, 0, none⟩) l.length l.length, .slice (some ⟨bA, 0, none⟩) l.length l.length] 126))) := HX.out.alloc HX.out.size _
 refine (root_any _ ao l.length cap bF bA h0 (by omega)).mono ?_
 rintro e w2 ⟨rfl, hx2⟩
 have HP2 : Hid (PlanW w2 ao l bF bA ) := hid (HP.out.ext (((Below.refl _ w1).alloc (Nat.le_refl _) _).trans (hx2.mono (by simp))))
 have f1 : w2.cell? ⟨bF, (l.length - 1) * 34 + 1, none⟩ = some (.bool (nullT (tr l (l.length - 1)))) := by rw [HP2.out.fact (i := l.length - 1) (j := 1) (by omega) (by decide), factV_empty, fact_empty]
 have HX2 := hid (hE1.trans (hx2.mono (by have := HX.out.size; simp; omega)))
 have hm := (fact64 HF.out hl (i := l.length - 1) (by omega)).1
 have hb2 := HP2.out.facts.lt
 have HLA := hid (list_any bF ((l.length - 1) * 34 + 2) (factT (tr l (l.length - 1))).first w2 hm (fun i hi => by
  rw [Nat.add_assoc, HP2.out.fact (i := l.length - 1) (j := 2 + i) (by omega) (by omega), factV_first _ hi]) (HT.out.ext HX2.out))
 clear hx2 hE1 hm
 go_wp2_with fail
 refine HLA.out.mono ?_
 rintro e w3 ⟨v, rfl, hO, hx3⟩
 have HO : Hid (OwnI w3 w.heap.size v (bitsL (factT (tr l (l.length - 1))).first)) := hid (ownI_lower hO HX2.out.size)
 have HX3 := hid (HX2.out.trans (hx3.mono HX2.out.size))
 clear hO hx3
 go_wp2_with fail
 go_ret
 exact ⟨v, rfl, HO.out, HX3.out⟩
set_option maxRecDepth 100000 in
theorem next2_any {l : List Nd} (F : Rx.Form l) {w : World} {ao : Option Addr} (hV : NodesV w ao l) (hN : NamesOk l) (cap : Nat) (hl : l.length ≤ 64) (hT : TabW w) (at_ : Nat) (hat : at_ < l.length) :
 Calls Tryz.prog 73 #[.agg #[.slice ao l.length cap], .int .i64 at_] w (NumsPost (bitsL (nextM l at_)) w) := by
 have HV := hid hV
 have HN := hid hN
 have HF := hid F
 have HT := hid hT
 clear hV hN F hT
 go_enter Tryz.func73, Tryz.ntmps73
 go_wp2_with fail
 have hE0 : Ext w (w.alloc (.cells #[.slice ao l.length cap] 45)) := (Below.refl _ w).alloc (Nat.le_refl _) _
 refine (plan_any HF.out (HV.out.ext hE0) HN.out cap hl).mono ?_
 rintro e w1 ⟨bF, bA, rfl, hP, hx, lF, lA⟩
 unfold planC
 have HX := hid (hE0.trans (hx.mono (by simp)))
 have HP := hid hP
 have sx := hx.size
 clear hx hE0 hP
 go_wp2_with fail
 have hE1 : Ext w1 ((w1.alloc (.cells #[.slice ao l.length cap, .slice (some ⟨bF, 0, none⟩) l.length l.length, .slice (some ⟨bA, 0, none⟩) l.length l.length] 126))) := (Below.refl _ w1).alloc (Nat.le_refl _) _
 refine (next_any HF.out (HP.out.ext hE1) cap at_ hat hl).mono ?_
 rintro e w2 ⟨C, rfl, hC, hx2⟩
 have HC := hid hC
 have hx2' := (hE1.trans (hx2.mono hE1.size))
 have HX2 := hid (HX.out.trans (hx2'.mono HX.out.size))
 have sC : C.size = 16 := by rw [HC.out, setV_size]
 have oC := ones_setV (nextM l at_)
 rw [← HC.out] at oC
 have HOC := hid oC
 have hm : nextM l at_ < 18446744073709551616 := by
  have h64 : 2 ^ 64 = 18446744073709551616 := by decide
  rw [← h64]
  exact Nat.lt_of_lt_of_le (nextM_lt l at_) (Nat.pow_le_pow_right (by omega) hl)
 have HM := hid hm
 clear hC hx2 hx2' hE1 oC hm
 go_upto_region 5 with (first
  | (with_reducible refine onOp 7 ?_
     go_loud (refine wpList_alloc_aggN rfl 129 rfl _ zero_set ?_)
     intro Z HZ1
     have HZs : Hid (Z.size = 16) := hid (by rw [HZ1.out]; exact setV_size _)
     clear HZ1)
  | (with_reducible show wpList _ _ _ ((⟨_, Op.store _ (.tmp 7) _, _, _, _, _⟩ : Oper) :: _) _ _
     go_loud (refine wpList_store_last rfl 129 (.tmp 7) (.tmp 17) rfl w2.heap.size C rfl rfl 129 Z rfl (by rw [sC]; exact info129) (by rw [HZs.out, sC]) HOC.out ?_)))
 obtain ⟨w3, hw3⟩ : ∃ u, u = w2.alloc (.cells C 129) := ⟨_, rfl⟩
 rw [← hw3]
 have HB3 : Hid (Blk w3 w2.heap.size 129 C) := hid (hw3 ▸ Blk.new _ _ _)
 have HX3 : Hid (Ext w w3) := hid (hw3 ▸ HX2.out.alloc HX2.out.size _)
 clear hw3
 have HLA := hid (list_any w2.heap.size 0 (nextM l at_) w3 HM.out (fun i hi => by
  rw [Nat.zero_add]
  have := HB3.out
  rw [HC.out] at this
  exact this.cell (setV_get hi)) (HT.out.ext HX3.out))
 go_wp2_with fail
 refine HLA.out.mono ?_
 rintro e w4 ⟨v, rfl, hO, hx4⟩
 have HO : Hid (OwnI w4 w.heap.size v (bitsL (nextM l at_))) := hid (ownI_lower hO HX3.out.size)
 have HX4 := hid (HX3.out.trans (hx4.mono HX3.out.size))
 clear hO hx4
 go_wp2_with fail
 go_ret
 exact ⟨v, rfl, HO.out, HX4.out⟩
set_option maxRecDepth 100000 in
theorem last_any {l : List Nd} (F : Rx.Form l) {w : World} {ao : Option Addr} (hV : NodesV w ao l) (hN : NamesOk l) (cap : Nat) (hl : l.length ≤ 64) (at_ : Nat) (hat : at_ < l.length) :
 Calls Tryz.prog 69 #[.agg #[.slice ao l.length cap], .int .i64 at_] w fun e w' => e = .returned (.bool ((factT (tr l (l.length - 1))).last.testBit at_)) ∧ Ext w w' := by
 have h0 : 0 < l.length := by omega
 have HV := hid hV
 have HN := hid hN
 have HF := hid F
 clear hV hN F
 go_enter Tryz.func69, Tryz.ntmps69
 go_wp2_with fail
 have hE0 : Ext w (w.alloc (.cells #[.slice ao l.length cap] 45)) := (Below.refl _ w).alloc (Nat.le_refl _) _
 refine (plan_any HF.out (HV.out.ext hE0) HN.out cap hl).mono ?_
 rintro e w1 ⟨bF, bA, rfl, hP, hx, lF, lA⟩
 unfold planC
 have HX := hid (hE0.trans (hx.mono (by simp)))
 have HP := hid hP
 have sx := hx.size
 clear hx hE0 hP
 have d0 : decide ((at_ : Int) < 0) = false := decide_eq_false (by omega)
 have d1 : decide ((0 : Int) ≤ (at_ : Int)) = true := decide_eq_true (by omega)
 have d2 : decide (at_ < l.length) = true := decide_eq_true hat
 go_wp2_with fail
 have hE1 : Ext w ((w1.alloc (.cells #[.slice ao l.length cap, .slice (some ⟨bF, 0, none⟩) l.length l.length, .slice (some ⟨bA, 0, none⟩) l.length l.length] 126))) := HX.out.alloc HX.out.size _
 refine (root_any _ ao l.length cap bF bA h0 (by omega)).mono ?_
 rintro e w2 ⟨rfl, hx2⟩
 have HP2 : Hid (PlanW w2 ao l bF bA ) := hid (HP.out.ext (((Below.refl _ w1).alloc (Nat.le_refl _) _).trans (hx2.mono (by simp))))
 have f1 : w2.cell? ⟨bF, (l.length - 1) * 34 + 1, none⟩ = some (.bool (nullT (tr l (l.length - 1)))) := by rw [HP2.out.fact (i := l.length - 1) (j := 1) (by omega) (by decide), factV_empty, fact_empty]
 have HX2 := hid (hE1.trans (hx2.mono (by have := HX.out.size; simp; omega)))
 have hm := (fact64 HF.out hl (i := l.length - 1) (by omega)).2
 have HHA := hid (has_any bF ((l.length - 1) * 34 + 18) (factT (tr l (l.length - 1))).last at_ w2 hm (by omega) (by
  have := HP2.out.fact (i := l.length - 1) (j := 18) (by omega) (by omega)
  rw [this, show (18 : Nat) = 18 + 0 by rfl, factV_last _ (by decide)]; rfl))
 clear hx2 hE1 hm
 go_wp2_with fail
 refine HHA.out.mono ?_
 rintro e w3 ⟨rfl, rfl⟩
 go_wp2_with fail
 go_ret
 exact ⟨rfl, HX2.out⟩
end Go.Proofs.YtngpjagpeblbjaaGreatDoor
namespace Go.Spy
open Go.RowKit
section
variable {P : Program}
theorem wpList_index_agg {ops : Array Oper} {rest : List Oper} {o : Oper} {a : Act} {w : World} {Q : Exit → Act → World → Prop} (hgd : o.guard = none) (t : TypeId) (x i : Operand) (ho : o.op = .index t x i)
 (A : Array Value) (hx : a.eval x = .agg A) (q : IntKind) (k : Nat) (hk : a.eval i = .int q (k : Int)) (n : Nat) (e : TypeId) (hu : P.underlying t = some (.array n e)) (hkn : k < n)
 (d : TypeDesc) (hd0 : P.underlying e = some d) (hd : (match d with | .struct _ | .array _ _ => true | _ => false) = false) (hi : (P.info? e).map (·.size) = some 1) (v : Value) (hv : A[k]? = some v)
 (h : wpList P ops Q rest (a.put o.dst v) w) : wpList P ops Q (o :: rest) a w :=
 wpList_plain hgd fun _ hK => by
  cases hq : P.info? e with
  | none => simp [hq] at hi
  | some z =>
    have hs : z.size = 1 := by simpa [hq] using hi
    have hagg : (isAgg e).run P w = .ok false w := by
     unfold isAgg
     rw [Sem.run_bind, run_underlying hd0 w]
     cases d <;> simp_all
    have hc : (0 : Int) ≤ (k : Int) ∧ (k : Int) < (n : Int) := by omega
    unfold Oper.wp execOp
    simp only [ho, hx, hk, Instr.index, asIntOf, run_underlying hu, Sem.run_bind, Sem.run_pure, Result.andThen_ok, if_pos hc, part, hagg, sizeOf, typeInfo, hq, hs, run_program, Int.toNat_natCast, Nat.mul_one, hv]
    first
     | exact hK _ _ h
     | (simp; exact hK _ _ h)
end
end Go.Spy
namespace Go.Proofs.YtngpjagpeblbjaaGreatDoor
open Go.RowKit Go.Spy Go.Heaped Go.Tour Go.Rx
theorem zero105 : (Tryz.prog.info? 105).map (·.zero) = some (some (.agg (setV 0))) := by kernel_rfl
theorem info105 : (Tryz.prog.info? 105).map (·.size) = some 16 := by kernel_rfl
theorem info103 : (Tryz.prog.info? 103).map (·.size) = some 1 := by kernel_rfl
def mixV (m m2 k : Nat) : Array Value := joined (setV m) 0 m2 k
theorem mixV_far {m m2 k i : Nat} (h : k ≤ i) (hi : i < 16) : (mixV m m2 k)[i]? = some (.int .u64 (plG m i)) := by
 have := joined_far (setV m) 0 m2 k i h
 rw [Nat.zero_add] at this
 unfold mixV
 rw [this]; exact setV_get hi
theorem mixV_end (m m2 : Nat) : mixV m m2 16 = setV m2 := by
 unfold mixV
 rw [joined_end (setV m) 0 m m2 15 (fun i hi => by rw [Nat.zero_add]; exact setV_get (by omega))]
 exact setV_put m m2
set_option maxRecDepth 100000 in
set_option maxHeartbeats 1000000 in
theorem either2_any (m m2 : Nat) (hm : m < 18446744073709551616) (hm2 : m2 < 18446744073709551616) (w : World) : Calls Tryz.prog 67 #[.agg (setV m), .agg (setV m2)] w (SetPost w (m ||| m2)) := by
 go_enter Tryz.func67, Tryz.ntmps67
 go_wp2_with (first
  | (with_reducible refine onOp 2 ?_
     go_loud (refine wpList_box_agg rfl 105 (.tmp 0) rfl (setV m) rfl ?_)
     intro w1 hB1 hz1
     have HB1 := hid hB1.out
     have HZ1 := hid hz1
     clear hB1 hz1)
  | (with_reducible refine onOp 3 ?_
     go_loud (refine wpList_box_agg rfl 105 (.tmp 1) rfl (setV m2) rfl ?_)
     intro w2 hB2 hz2
     have HB2 := hid hB2.out
     have HZ2 := hid hz2
     clear hB2 hz2)
  | (with_reducible refine onOp 4 ?_
     go_loud (refine wpList_alloc_agg rfl 105 rfl _ zero105 ?_)
     intro w3 hB3 hz3
     have HB3 := hid hB3.out
     have HZ3 := hid hz3
     clear hB3 hz3)
  | (with_reducible refine onOp 7 ?_
     go_loud (refine wpList_load_blk rfl 105 (.tmp 3) rfl w1.heap.size rfl 105 (setV m2) _ 16 (HB2.out.1.ext HB3.out.2) (setV_size _) Tryz.underlying105 rfl info105 ?_)))
 have s1 : w.heap.size < w1.heap.size := by have := HZ1.out; omega
 have s2 : w1.heap.size < w2.heap.size := by have := HZ2.out; omega
 have s3 : w2.heap.size < w3.heap.size := by have := HZ3.out; omega
 go_loopg [8] 16 (fun g i wr => ∃ k : Nat, k ≤ 16 ∧ g = 16 - k ∧ i = .int .i64 k ∧ Hid (Blk wr w.heap.size 105 (mixV m (m ||| m2) k)) ∧ Hid (Chg (· = w.heap.size) w3 wr))
 case atStart => exact ⟨0, by omega, rfl, rfl, hid ((HB1.out.1.ext HB2.out.2).ext HB3.out.2), hid (Chg.refl _ _)⟩
 case round =>
  obtain ⟨k, hk, rfl, rfl, HK, HX⟩ := hrel
  by_cases hlt : k < 16
  ·have c1 : wr.cell? ⟨w.heap.size, k, none⟩ = some (.int .u64 (plG m k)) := HK.out.cell (mixV_far (Nat.le_refl _) hlt)
   have hf := HK.out.frozen
   have hl := HK.out.lt
   have ho := bits_or_u64_nat _ _ (plG_lt (i := k) hm) (plG_lt (i := k) hm2)
   rw [plG_or] at ho
   go_wp2_with (first
    | (with_reducible refine onOp 11 ?_
       go_loud (refine wpList_index_agg rfl 105 (.tmp 7) (.tmp 8) rfl (setV m2) rfl .i64 k rfl 16 103 Tryz.underlying105 hlt _ Tryz.underlying103 rfl info103 _ (setV_get hlt) ?_)))
   go_roundg (16 - (k+1))
   case measure => omega
   case rel =>
    refine ⟨k+1, by omega, rfl, by go_num, hid ?_, hid ?_⟩
    ·have := HK.out.set k (.int .u64 (plG (m ||| m2) k : Nat))
     unfold mixV
     rw [joined, Nat.zero_add]
     exact this
    ·exact Chg.setCell (p := ⟨w.heap.size, k, none⟩) HX.out rfl _
  ·obtain rfl : k = 16 := by omega
   have HK2 : Hid (Blk wr w.heap.size 105 (setV (m ||| m2))) := hid (by have := HK.out; rwa [mixV_end] at this)
   have HR : Hid (Blk wr w2.heap.size 105 (setV 0)) := hid (HB3.out.1.chg HX.out (by show ¬ _ = _; omega))
   go_wp2_with (first
    | (with_reducible refine onOp 19 ?_
       go_loud (refine wpList_load_blk rfl 105 (.tmp 2) rfl w.heap.size rfl 105 (setV (m ||| m2)) _ 16 HK2.out (setV_size _) Tryz.underlying105 rfl info105 ?_))
    | (with_reducible show wpList _ _ _ ((⟨_, Op.store _ (.tmp 4) _, _, _, _, _⟩ : Oper) :: _) _ _
       go_loud (refine wpList_store_agg rfl 105 (.tmp 4) (.tmp 19) rfl w2.heap.size 0 (setV (m ||| m2)) rfl rfl 105 (setV 0) HR.out (by rw [setV_size]; exact info105) (by simp [setV_size]) (ones_setV _) ?_)
       intro w5 hB5 hz5
       have HB5 := hid hB5.out
       clear hB5))
   have h5 := HB5.out.1
   rw [splice_all (by simp [setV_size])] at h5
   refine bodyPost_ret (v := .agg (setV (m ||| m2))) (results_cell_agg Tryz.results67 _ _ w2.heap.size 105 (setV (m ||| m2)) _ rfl h5 Tryz.underlying105 rfl (by rw [setV_size]; exact info105)) rfl ?_
   refine ⟨_, rfl, rfl, ?_⟩
   have x3 : Ext w w3 := (HB1.out.2.trans (HB2.out.2.mono HB1.out.2.size)).trans (HB3.out.2.mono (by omega))
   have d1 : Chg (fun k => w.heap.size ≤ k) w3 wr := HX.out.mono fun k _ e => by omega
   have d2 : Chg (fun k => w.heap.size ≤ k) wr w5 := HB5.out.2.mono fun k _ e => by omega
   exact x3.trans ((d1.trans d2).below (by omega) (fun k e => e))
end Go.Proofs.YtngpjagpeblbjaaGreatDoor
namespace Go.Proofs.YtngpjagpeblbjaaGreatDoor
open Go.RowKit Go.Spy Go.Heaped Go.Tour Go.Rx
theorem plG_and (m m2 i : Nat) : plG m i &&& plG m2 i = plG (m &&& m2) i := by
 unfold plG; split <;> simp
set_option maxRecDepth 100000 in
set_option maxHeartbeats 1000000 in
theorem both2_any (m m2 : Nat) (hm : m < 18446744073709551616) (hm2 : m2 < 18446744073709551616) (w : World) : Calls Tryz.prog 74 #[.agg (setV m), .agg (setV m2)] w (SetPost w (m &&& m2)) := by
 go_enter Tryz.func74, Tryz.ntmps74
 go_wp2_with (first
  | (with_reducible refine onOp 2 ?_
     go_loud (refine wpList_box_agg rfl 105 (.tmp 0) rfl (setV m) rfl ?_)
     intro w1 hB1 hz1
     have HB1 := hid hB1.out
     have HZ1 := hid hz1
     clear hB1 hz1)
  | (with_reducible refine onOp 3 ?_
     go_loud (refine wpList_box_agg rfl 105 (.tmp 1) rfl (setV m2) rfl ?_)
     intro w2 hB2 hz2
     have HB2 := hid hB2.out
     have HZ2 := hid hz2
     clear hB2 hz2)
  | (with_reducible refine onOp 4 ?_
     go_loud (refine wpList_alloc_agg rfl 105 rfl _ zero105 ?_)
     intro w3 hB3 hz3
     have HB3 := hid hB3.out
     have HZ3 := hid hz3
     clear hB3 hz3)
  | (with_reducible refine onOp 7 ?_
     go_loud (refine wpList_load_blk rfl 105 (.tmp 3) rfl w1.heap.size rfl 105 (setV m2) _ 16 (HB2.out.1.ext HB3.out.2) (setV_size _) Tryz.underlying105 rfl info105 ?_)))
 have s1 : w.heap.size < w1.heap.size := by have := HZ1.out; omega
 have s2 : w1.heap.size < w2.heap.size := by have := HZ2.out; omega
 have s3 : w2.heap.size < w3.heap.size := by have := HZ3.out; omega
 go_loopg [8] 16 (fun g i wr => ∃ k : Nat, k ≤ 16 ∧ g = 16 - k ∧ i = .int .i64 k ∧ Hid (Blk wr w.heap.size 105 (mixV m (m &&& m2) k)) ∧ Hid (Chg (· = w.heap.size) w3 wr))
 case atStart => exact ⟨0, by omega, rfl, rfl, hid ((HB1.out.1.ext HB2.out.2).ext HB3.out.2), hid (Chg.refl _ _)⟩
 case round =>
  obtain ⟨k, hk, rfl, rfl, HK, HX⟩ := hrel
  by_cases hlt : k < 16
  ·have c1 : wr.cell? ⟨w.heap.size, k, none⟩ = some (.int .u64 (plG m k)) := HK.out.cell (mixV_far (Nat.le_refl _) hlt)
   have hf := HK.out.frozen
   have hl := HK.out.lt
   have ho := bits_and_u64_nat _ _ (plG_lt (i := k) hm) (plG_lt (i := k) hm2)
   rw [plG_and] at ho
   go_wp2_with (first
    | (with_reducible refine onOp 11 ?_
       go_loud (refine wpList_index_agg rfl 105 (.tmp 7) (.tmp 8) rfl (setV m2) rfl .i64 k rfl 16 103 Tryz.underlying105 hlt _ Tryz.underlying103 rfl info103 _ (setV_get hlt) ?_)))
   go_roundg (16 - (k+1))
   case measure => omega
   case rel =>
    refine ⟨k+1, by omega, rfl, by go_num, hid ?_, hid ?_⟩
    ·have := HK.out.set k (.int .u64 (plG (m &&& m2) k : Nat))
     unfold mixV
     rw [joined, Nat.zero_add]
     exact this
    ·exact Chg.setCell (p := ⟨w.heap.size, k, none⟩) HX.out rfl _
  ·obtain rfl : k = 16 := by omega
   have HK2 : Hid (Blk wr w.heap.size 105 (setV (m &&& m2))) := hid (by have := HK.out; rwa [mixV_end] at this)
   have HR : Hid (Blk wr w2.heap.size 105 (setV 0)) := hid (HB3.out.1.chg HX.out (by show ¬ _ = _; omega))
   go_wp2_with (first
    | (with_reducible refine onOp 19 ?_
       go_loud (refine wpList_load_blk rfl 105 (.tmp 2) rfl w.heap.size rfl 105 (setV (m &&& m2)) _ 16 HK2.out (setV_size _) Tryz.underlying105 rfl info105 ?_))
    | (with_reducible show wpList _ _ _ ((⟨_, Op.store _ (.tmp 4) _, _, _, _, _⟩ : Oper) :: _) _ _
       go_loud (refine wpList_store_agg rfl 105 (.tmp 4) (.tmp 19) rfl w2.heap.size 0 (setV (m &&& m2)) rfl rfl 105 (setV 0) HR.out (by rw [setV_size]; exact info105) (by simp [setV_size]) (ones_setV _) ?_)
       intro w5 hB5 hz5
       have HB5 := hid hB5.out
       clear hB5))
   have h5 := HB5.out.1
   rw [splice_all (by simp [setV_size])] at h5
   refine bodyPost_ret (v := .agg (setV (m &&& m2))) (results_cell_agg Tryz.results74 _ _ w2.heap.size 105 (setV (m &&& m2)) _ rfl h5 Tryz.underlying105 rfl (by rw [setV_size]; exact info105)) rfl ?_
   refine ⟨_, rfl, rfl, ?_⟩
   have x3 : Ext w w3 := (HB1.out.2.trans (HB2.out.2.mono HB1.out.2.size)).trans (HB3.out.2.mono (by omega))
   have d1 : Chg (fun k => w.heap.size ≤ k) w3 wr := HX.out.mono fun k _ e => by omega
   have d2 : Chg (fun k => w.heap.size ≤ k) wr w5 := HB5.out.2.mono fun k _ e => by omega
   exact x3.trans ((d1.trans d2).below (by omega) (fun k e => e))
end Go.Proofs.YtngpjagpeblbjaaGreatDoor
namespace Go.Proofs.YtngpjagpeblbjaaGreatDoor
open Go.RowKit Go.Spy Go.Heaped Go.Tour Go.Rx
set_option maxRecDepth 100000 in
set_option maxHeartbeats 1600000 in
theorem list2_any (m : Nat) (w : World) (hm : m < 18446744073709551616) (hT : TabW w) : Calls Tryz.prog 72 #[.agg (setV m)] w fun e w' => ListPost w m e w' := by
 have HT := hid hT
 clear hT
 go_enter Tryz.func72, Tryz.ntmps72
 go_wp2_with (first
  | (with_reducible refine onOp 1 ?_
     go_loud (refine wpList_box_agg rfl 105 (.tmp 0) rfl (setV m) rfl ?_)
     intro w1 hB1 hz1
     have HB1 := hid hB1.out
     clear hB1 hz1)
  | (with_reducible refine onOp 6 ?_
     go_loud (refine wpList_load_blk rfl 105 (.tmp 1) rfl w.heap.size rfl 105 (setV m) _ 16 HB1.out.1 (setV_size _) Tryz.underlying105 rfl info105 ?_)))
 go_loopg [3, 7] 16 (fun g v i wr => ∃ k : Nat, k ≤ 16 ∧ g = 16 - k ∧ i = .int .i64 k ∧ Hid (OwnI wr w.heap.size v (accB m k)) ∧ Hid (Ext w wr))
 case atStart => exact ⟨0, by omega, rfl, rfl, hid (World.ownsRow_nil _ _ _ _), hid HB1.out.2⟩
 case round =>
  obtain ⟨k, hk, rfl, rfl, HO, HE⟩ := hrel
  by_cases hlt : k < 16
  ·go_wp2_with (first
    | (with_reducible refine onOp 10 ?_
       go_loud (refine wpList_index_agg rfl 105 (.tmp 6) (.tmp 7) rfl (setV m) rfl .i64 k rfl 16 103 Tryz.underlying105 hlt _ Tryz.underlying103 rfl info103 _ (setV_get hlt) ?_)))
   have hpl := plG_lt (i := k) hm
   have hk0 : k = 0 ∨ plG m k = 0 := by
    by_cases h : k = 0
    ·exact .inl h
    ·right; unfold plG; rw [if_neg h]
   go_loopg [3, 5] (plG m k) (fun g v x wi => ∃ (y : Nat) (l : List Nat), y < 18446744073709551616 ∧ g = y ∧ x = .int .u64 y ∧ (k = 0 ∨ y = 0) ∧ Hid (l ++ bitsL y = accB m (k + 1)) ∧ Hid (OwnI wi w.heap.size v l) ∧ Hid (Ext w wi))
   case atStart => exact ⟨_, _, hpl, rfl, rfl, hk0, hid (accB_succ m k).symm, HO, HE⟩
   case round =>
    clear HO HE
    obtain ⟨y, l, hy, hg, rfl, hky, HL, HO, HE⟩ := hrel
    have HG := hid hg
    clear hg
    by_cases hy0 : y = 0
    ·subst hy0
     have HL2 : Hid (l = accB m (k + 1)) := hid (by have := HL.out; rwa [bitsL_zero, List.append_nil] at this)
     go_wp2_with fail
     go_roundg (16 - (k+1))
     case measure => omega
     case rel => exact ⟨k+1, by omega, rfl, by go_num, hid (by rw [← HL2.out]; exact HO.out), HE⟩
    ·obtain rfl : k = 0 := hky.resolve_right hy0
     have hq : ((y : Int) != 0) = true := by simp; omega
     have hand := and_pred_u64 hy hy0
     have hlen : l.length ≤ 64 := by
      have h1 := accB_len hm (0 + 1)
      rw [← HL.out, List.length_append] at h1
      omega
     have HT1 := hid (HT.out.ext HE.out)
     have hbs := HE.out.size
     have htz := tz_lt (n := 64) hy0 (by have h64 : 2 ^ 64 = 18446744073709551616 := by decide
                                         rw [h64]; exact hy)
     go_wp2_with (first | (go_at_call 111; refine (tz_any y hy hy0 _ HT1.out).mono ?_; rintro e w' ⟨rfl, rfl⟩) | (at_builtin; refine wpList_int HO hbs (by omega) (tz y) _ rfl rfl _ _ rfl rfl rfl ?_; rintro g' cap' v' w4 rfl H1 H2))
     have hlt2 := and_pred_lt hy0
     go_roundg (y &&& (y - 1))
     case measure => rw [HG.out]; exact hlt2
     case rel =>
      refine ⟨y &&& (y - 1), l ++ [tz y], by omega, rfl, rfl, .inl trivial, hid ?_, H1, hid (ext_grown HE.out H2.out.1 (fun i hi => (HO.out.lt i hi).1))⟩
      have := HL.out
      rw [bitsL_next hy0] at this
      rw [← this, List.append_assoc]; rfl
  ·obtain rfl : k = 16 := by omega
   go_wp2_with fail
   go_ret
   exact ⟨_, rfl, HO.out, HE.out⟩
def orL (l : List Nat) : Nat := l.foldl (fun m p => m ||| 1 <<< p) 0
theorem orL_bit (l : List Nat) (m j : Nat) : (l.foldl (fun m p => m ||| 1 <<< p) m).testBit j = (m.testBit j || decide (j ∈ l)) := by
 induction l generalizing m with
 | nil => simp
 | cons p l ih =>
   rw [List.foldl_cons, ih, Nat.testBit_or, Nat.one_shiftLeft, Nat.testBit_two_pow]
   by_cases h : p = j
   ·subst h; simp
   ·have h2 : ¬ j = p := fun e => h e.symm
    simp [h, h2]
theorem orL_bits (m : Nat) : orL (bitsL m) = m := by
 apply Nat.eq_of_testBit_eq
 intro j
 unfold orL
 rw [orL_bit, Nat.zero_testBit, Bool.false_or]
 cases h : m.testBit j with
 | true => simp [(mem_bitsL m j).2 h]
 | false => simp; intro e; rw [(mem_bitsL m j).1 e] at h; cases h
theorem orL_one (p : Nat) : orL [p] = 1 <<< p := by simp [orL]
theorem orL_lt {l : List Nat} (h : ∀ p ∈ l, p < 64) : ∀ {m : Nat}, m < 18446744073709551616 → l.foldl (fun m p => m ||| 1 <<< p) m < 18446744073709551616 := by
 induction l with
 | nil => intro m hm; exact hm
 | cons p l ih =>
   intro m hm
   exact ih (fun q hq => h q (by simp [hq])) (or64 hm (shl_lt (h p (by simp))))
set_option maxRecDepth 100000 in
set_option maxHeartbeats 1000000 in
theorem set_any {w : World} {v : Value} {l : List Nat} (hV : NatsV w v l) (hl : l.length ≤ 1000) (h64 : ∀ p ∈ l, p < 64) : Calls Tryz.prog 68 #[v] w (SetPost w (orL l)) := by
 obtain ⟨ao, cap, rfl, hc⟩ := hV.out
 have HC := hid hc
 have H64 := hid h64
 clear hV hc h64
 go_enter Tryz.func68, Tryz.ntmps68
 go_wp2_with (first
  | (with_reducible refine onOp 2 ?_
     go_loud (refine wpList_alloc_agg rfl 105 rfl _ zero105 ?_)
     intro w1 hB1 hz1
     have HB1 := hid hB1.out
     have HZ1 := hid hz1
     clear hB1 hz1)
  | (with_reducible refine onOp 3 ?_
     go_loud (refine wpList_alloc_agg rfl 105 rfl _ zero105 ?_)
     intro w2 hB2 hz2
     have HB2 := hid hB2.out
     have HZ2 := hid hz2
     clear hB2 hz2))
 have s1 : w.heap.size < w1.heap.size := by have := HZ1.out; omega
 have s2 : w1.heap.size < w2.heap.size := by have := HZ2.out; omega
 have HX2 : Hid (Ext w w2) := hid (HB1.out.2.trans (HB2.out.2.mono (by omega)))
 go_loopg [8] l.length (fun g i wr => ∃ k : Nat, k ≤ l.length ∧ g = l.length - k ∧ i = .int .i64 k ∧ Hid (Blk wr w1.heap.size 105 (setV (orL (l.take k)))) ∧ Hid (Chg (· = w1.heap.size) w2 wr))
 case atStart => exact ⟨0, by omega, rfl, rfl, hid HB2.out.1, hid (Chg.refl _ _)⟩
 case round =>
  obtain ⟨k, hk, rfl, rfl, HK, HX⟩ := hrel
  by_cases hlt : k < l.length
  ·obtain ⟨b, off, rfl, hb, hcc⟩ := HC.out (by omega)
   obtain ⟨p, hp⟩ : ∃ p, l[k]? = some p := ⟨_, List.getElem?_eq_getElem hlt⟩
   have hp64 := H64.out p (List.mem_of_getElem? hp)
   have c1 : wr.cell? ⟨b, off + k, none⟩ = some (.int .i64 p) := by
    have h1 := (HX2.out.cell (p := ⟨b, off + k, none⟩) hb).trans (hcc k p hp)
    rw [← h1]
    exact cell_of_chg HX.out (by have := HX2.out.size; show b < _; omega) (by show ¬ b = _; omega)
   obtain ⟨m, hm⟩ : ∃ m, m = orL (l.take k) := ⟨_, rfl⟩
   have hm64 : m < 18446744073709551616 := by rw [hm]; exact orL_lt (fun q hq => H64.out q (List.mem_of_mem_take hq)) (by decide)
   rw [← hm] at HK
   have h0 : p / 64 = 0 := by omega
   have c2 : wr.cell? ⟨w1.heap.size, p / 64, none⟩ = some (.int .u64 m) := by
    rw [h0]
    exact HK.out.cell (setV_get (m := m) (i := 0) (by decide))
   have hf := HK.out.frozen
   have hlk := HK.out.lt
   have HP := hid hp
   have HM := hid hm
   clear hcc hp hm h0
   go_upto_region 5 with fail
   go_region
   go_wp2_with fail
   go_roundg (l.length - (k+1))
   case measure => omega
   case rel =>
    have h0 : p / 64 = 0 := by omega
    have he : setV (orL (l.take (k + 1))) = (setV m).setIfInBounds 0 (.int .u64 (m ||| 1 <<< p : Nat)) := by
     rw [setV_put, List.take_succ_eq_append_getElem hlt]
     have := (List.getElem?_eq_some_iff.1 HP.out).2
     rw [this]
     unfold orL
     rw [List.foldl_append, HM.out]; rfl
    refine ⟨k+1, by omega, rfl, by go_num, hid ?_, hid ?_⟩
    ·rw [he]
     have := (HK.out.set 0 (.int .u64 (m ||| 1 <<< p : Nat))).drew
     rw [or_one m p hm64 hp64]
     simp only [h0]
     exact this
    ·exact Chg.drew (Chg.setCell (p := ⟨w1.heap.size, _, none⟩) HX.out rfl _)
  ·obtain rfl : k = l.length := by omega
   have HK2 : Hid (Blk wr w1.heap.size 105 (setV (orL l))) := hid (by have := HK.out; rwa [List.take_length] at this)
   have HR : Hid (Blk wr w.heap.size 105 (setV 0)) := hid ((HB1.out.1.ext HB2.out.2).chg HX.out (by show ¬ _ = _; omega))
   go_wp2_with (first
    | (with_reducible refine onOp 22 ?_
       go_loud (refine wpList_load_blk rfl 105 (.tmp 3) rfl w1.heap.size rfl 105 (setV (orL l)) _ 16 HK2.out (setV_size _) Tryz.underlying105 rfl info105 ?_))
    | (with_reducible show wpList _ _ _ ((⟨_, Op.store _ (.tmp 2) _, _, _, _, _⟩ : Oper) :: _) _ _
       go_loud (refine wpList_store_agg rfl 105 (.tmp 2) (.tmp 22) rfl w.heap.size 0 (setV (orL l)) rfl rfl 105 (setV 0) HR.out (by rw [setV_size]; exact info105) (by simp [setV_size]) (ones_setV _) ?_)
       intro w5 hB5 hz5
       have HB5 := hid hB5.out
       clear hB5))
   have h5 := HB5.out.1
   rw [splice_all (by simp [setV_size])] at h5
   refine bodyPost_ret (v := .agg (setV (orL l))) (results_cell_agg Tryz.results68 _ _ w.heap.size 105 (setV (orL l)) _ rfl h5 Tryz.underlying105 rfl (by rw [setV_size]; exact info105)) rfl ?_
   refine ⟨_, rfl, rfl, ?_⟩
   have d1 : Chg (fun k => w.heap.size ≤ k) w2 wr := HX.out.mono fun k _ e => by omega
   have d2 : Chg (fun k => w.heap.size ≤ k) wr w5 := HB5.out.2.mono fun k _ e => by omega
   exact HX2.out.trans ((d1.trans d2).below (by omega) (fun k e => e))
end Go.Proofs.YtngpjagpeblbjaaGreatDoor
