/-
  Walks of First, Next and Last where there is a plan.
  Sets of places by value: the union of two.
  Sets of places by value: what is in both of two.
  Sets of places by value: the places of one, the set of some places.
  A slice appended to an owned one; walks of slices.Grow at nil and slices.Concat.
  Plain law: words sorted, each once.
-/
import Derived.Test.YtngpjagpeblbjaaGreatDoorZ18
import Derived.Test.YtngpjagpeblbjaaGreatDoorZ08
import Derived.Test.YtngpjagpeblbjaaGreatDoorZ17
import Derived.Test.YtngpjagpeblbjaaGreatDoorZ03
namespace Go.Proofs.YtngpjagpeblbjaaGreatDoor
open Go.RowKit Go.Spy Go.Heaped Go.Tour Go.Rx

def NumsPost (l : List Nat) (w : World) (e : Ending) (w' : World) : Prop := ∃ v, e = .returned v ∧ OwnI w' w.heap.size v l ∧ Ext w w'

theorem ownI_lower {w : World} {base b : Nat} {v : Value} {l : List Nat} (h : OwnI w base v l) (hb : b ≤ base) : OwnI w b v l := by
  refine ⟨h.1, ?_⟩
  rcases h.2 with h0 | ⟨g, cap, cur, rfl, hb', rest⟩
  · exact .inl h0
  · exact .inr ⟨g, cap, cur, rfl, Nat.le_trans hb hb', rest⟩
theorem info129 : (Tryz.prog.info? 129).map (·.size) = some 16 := by kernel_rfl

set_option maxRecDepth 100000 in
theorem first_any {l : List Nd} (F : Rx.Form l) {w : World} {ao : Option Addr} (hV : NodesV w ao l) (hN : NamesOk l) (cap : Nat) (hl : l.length ≤ 64) (hT : TabW w) :
    Calls Tryz.prog 71 #[.agg #[.slice ao l.length cap]] w (NumsPost (bitsL (factT (tr l (l.length - 1))).first) w) := by
  have h0 : 0 < l.length := List.length_pos_iff.2 F.ne
  have HV := hid hV
  have HN := hid hN
  have HF := hid F
  have HT := hid hT
  clear hV hN F hT
  go_enter Tryz.func71, Tryz.ntmps71
  go_wp2_with fail
  have hE0 : Ext w (w.alloc (.cells #[.slice ao l.length cap] 45)) := (Below.refl _ w).alloc (Nat.le_refl _) _
  refine (plan_any HF.out (HV.out.ext hE0) HN.out cap hl).mono ?_
  rintro e w1 ⟨bF, bA, rfl, hP, hx, lF, lA⟩
  unfold planC
  have HX := hid (hE0.trans (hx.mono (by simp)))
  have HP := hid hP
  have sx := hx.size
  clear hx hE0 hP
  go_wp2_with fail
  have hE1 : Ext w ((w1.alloc (.cells #[.slice ao l.length cap, .slice (some ⟨bF, 0, none⟩) l.length l.length, .slice (some ⟨bA, 0, none⟩) l.length l.length] 126))) := HX.out.alloc HX.out.size _
  refine (root_any _ ao l.length cap bF bA h0 (by omega)).mono ?_
  rintro e w2 ⟨rfl, hx2⟩
  have HP2 : Hid (PlanW w2 ao l bF bA ) := hid (HP.out.ext (((Below.refl _ w1).alloc (Nat.le_refl _) _).trans (hx2.mono (by simp))))
  have f1 : w2.cell? ⟨bF, (l.length - 1) * 34 + 1, none⟩ = some (.bool (nullT (tr l (l.length - 1)))) := by rw [HP2.out.fact (i := l.length - 1) (j := 1) (by omega) (by decide), factV_empty, fact_empty]
  have HX2 := hid (hE1.trans (hx2.mono (by have := HX.out.size; simp; omega)))
  have hm := (fact64 HF.out hl (i := l.length - 1) (by omega)).1
  have hb2 := HP2.out.facts.lt
  have HLA := hid (list_any bF ((l.length - 1) * 34 + 2) (factT (tr l (l.length - 1))).first w2 hm (fun i hi => by
    rw [Nat.add_assoc, HP2.out.fact (i := l.length - 1) (j := 2 + i) (by omega) (by omega), factV_first _ hi]) (HT.out.ext HX2.out))
  clear hx2 hE1 hm
  go_wp2_with fail
  refine HLA.out.mono ?_
  rintro e w3 ⟨v, rfl, hO, hx3⟩
  have HO : Hid (OwnI w3 w.heap.size v (bitsL (factT (tr l (l.length - 1))).first)) := hid (ownI_lower hO HX2.out.size)
  have HX3 := hid (HX2.out.trans (hx3.mono HX2.out.size))
  clear hO hx3
  go_wp2_with fail
  go_ret
  exact ⟨v, rfl, HO.out, HX3.out⟩

set_option maxRecDepth 100000 in
theorem next2_any {l : List Nd} (F : Rx.Form l) {w : World} {ao : Option Addr} (hV : NodesV w ao l) (hN : NamesOk l) (cap : Nat) (hl : l.length ≤ 64) (hT : TabW w) (at_ : Nat) (hat : at_ < l.length) :
    Calls Tryz.prog 73 #[.agg #[.slice ao l.length cap], .int .i64 at_] w (NumsPost (bitsL (nextM l at_)) w) := by
  have HV := hid hV
  have HN := hid hN
  have HF := hid F
  have HT := hid hT
  clear hV hN F hT
  go_enter Tryz.func73, Tryz.ntmps73
  go_wp2_with fail
  have hE0 : Ext w (w.alloc (.cells #[.slice ao l.length cap] 45)) := (Below.refl _ w).alloc (Nat.le_refl _) _
  refine (plan_any HF.out (HV.out.ext hE0) HN.out cap hl).mono ?_
  rintro e w1 ⟨bF, bA, rfl, hP, hx, lF, lA⟩
  unfold planC
  have HX := hid (hE0.trans (hx.mono (by simp)))
  have HP := hid hP
  have sx := hx.size
  clear hx hE0 hP
  go_wp2_with fail
  have hE1 : Ext w1 ((w1.alloc (.cells #[.slice ao l.length cap, .slice (some ⟨bF, 0, none⟩) l.length l.length, .slice (some ⟨bA, 0, none⟩) l.length l.length] 126))) := (Below.refl _ w1).alloc (Nat.le_refl _) _
  refine (next_any HF.out (HP.out.ext hE1) cap at_ hat hl).mono ?_
  rintro e w2 ⟨C, rfl, hC, hx2⟩
  have HC := hid hC
  have hx2' := (hE1.trans (hx2.mono hE1.size))
  have HX2 := hid (HX.out.trans (hx2'.mono HX.out.size))
  have sC : C.size = 16 := by rw [HC.out, setV_size]
  have oC := ones_setV (nextM l at_)
  rw [← HC.out] at oC
  have HOC := hid oC
  have hm : nextM l at_ < 18446744073709551616 := by
    have h64 : 2 ^ 64 = 18446744073709551616 := by decide
    rw [← h64]
    exact Nat.lt_of_lt_of_le (nextM_lt l at_) (Nat.pow_le_pow_right (by omega) hl)
  have HM := hid hm
  clear hC hx2 hx2' hE1 oC hm
  go_upto_region 5 with (first
    | (with_reducible show wpList _ _ _ ((⟨some 7, _, _, _, _, _⟩ : Oper) :: _) _ _
       go_loud (refine wpList_alloc_aggN rfl 129 rfl _ zero_set ?_)
       intro Z HZ1
       have HZs : Hid (Z.size = 16) := hid (by rw [HZ1.out]; exact setV_size _)
       clear HZ1)
    | (with_reducible show wpList _ _ _ ((⟨_, Op.store _ (.tmp 7) _, _, _, _, _⟩ : Oper) :: _) _ _
       go_loud (refine wpList_store_last rfl 129 (.tmp 7) (.tmp 17) rfl w2.heap.size C rfl rfl 129 Z rfl (by rw [sC]; exact info129) (by rw [HZs.out, sC]) HOC.out ?_)))
  obtain ⟨w3, hw3⟩ : ∃ u, u = w2.alloc (.cells C 129) := ⟨_, rfl⟩
  rw [← hw3]
  have HB3 : Hid (Blk w3 w2.heap.size 129 C) := hid (hw3 ▸ Blk.new _ _ _)
  have HX3 : Hid (Ext w w3) := hid (hw3 ▸ HX2.out.alloc HX2.out.size _)
  clear hw3
  have HLA := hid (list_any w2.heap.size 0 (nextM l at_) w3 HM.out (fun i hi => by
    rw [Nat.zero_add]
    have := HB3.out
    rw [HC.out] at this
    exact this.cell (setV_get hi)) (HT.out.ext HX3.out))
  go_wp2_with fail
  refine HLA.out.mono ?_
  rintro e w4 ⟨v, rfl, hO, hx4⟩
  have HO : Hid (OwnI w4 w.heap.size v (bitsL (nextM l at_))) := hid (ownI_lower hO HX3.out.size)
  have HX4 := hid (HX3.out.trans (hx4.mono HX3.out.size))
  clear hO hx4
  go_wp2_with fail
  go_ret
  exact ⟨v, rfl, HO.out, HX4.out⟩

set_option maxRecDepth 100000 in
theorem last_any {l : List Nd} (F : Rx.Form l) {w : World} {ao : Option Addr} (hV : NodesV w ao l) (hN : NamesOk l) (cap : Nat) (hl : l.length ≤ 64) (at_ : Nat) (hat : at_ < l.length) :
    Calls Tryz.prog 69 #[.agg #[.slice ao l.length cap], .int .i64 at_] w fun e w' => e = .returned (.bool ((factT (tr l (l.length - 1))).last.testBit at_)) ∧ Ext w w' := by
  have h0 : 0 < l.length := by omega
  have HV := hid hV
  have HN := hid hN
  have HF := hid F
  clear hV hN F
  go_enter Tryz.func69, Tryz.ntmps69
  go_wp2_with fail
  have hE0 : Ext w (w.alloc (.cells #[.slice ao l.length cap] 45)) := (Below.refl _ w).alloc (Nat.le_refl _) _
  refine (plan_any HF.out (HV.out.ext hE0) HN.out cap hl).mono ?_
  rintro e w1 ⟨bF, bA, rfl, hP, hx, lF, lA⟩
  unfold planC
  have HX := hid (hE0.trans (hx.mono (by simp)))
  have HP := hid hP
  have sx := hx.size
  clear hx hE0 hP
  have d0 : decide ((at_ : Int) < 0) = false := decide_eq_false (by omega)
  have d1 : decide ((0 : Int) ≤ (at_ : Int)) = true := decide_eq_true (by omega)
  have d2 : decide (at_ < l.length) = true := decide_eq_true hat
  go_wp2_with fail
  have hE1 : Ext w ((w1.alloc (.cells #[.slice ao l.length cap, .slice (some ⟨bF, 0, none⟩) l.length l.length, .slice (some ⟨bA, 0, none⟩) l.length l.length] 126))) := HX.out.alloc HX.out.size _
  refine (root_any _ ao l.length cap bF bA h0 (by omega)).mono ?_
  rintro e w2 ⟨rfl, hx2⟩
  have HP2 : Hid (PlanW w2 ao l bF bA ) := hid (HP.out.ext (((Below.refl _ w1).alloc (Nat.le_refl _) _).trans (hx2.mono (by simp))))
  have f1 : w2.cell? ⟨bF, (l.length - 1) * 34 + 1, none⟩ = some (.bool (nullT (tr l (l.length - 1)))) := by rw [HP2.out.fact (i := l.length - 1) (j := 1) (by omega) (by decide), factV_empty, fact_empty]
  have HX2 := hid (hE1.trans (hx2.mono (by have := HX.out.size; simp; omega)))
  have hm := (fact64 HF.out hl (i := l.length - 1) (by omega)).2
  have HHA := hid (has_any bF ((l.length - 1) * 34 + 18) (factT (tr l (l.length - 1))).last at_ w2 hm (by omega) (by
    have := HP2.out.fact (i := l.length - 1) (j := 18) (by omega) (by omega)
    rw [this, show (18 : Nat) = 18 + 0 by rfl, factV_last _ (by decide)]; rfl))
  clear hx2 hE1 hm
  go_wp2_with fail
  refine HHA.out.mono ?_
  rintro e w3 ⟨rfl, rfl⟩
  go_wp2_with fail
  go_ret
  exact ⟨rfl, HX2.out⟩
end Go.Proofs.YtngpjagpeblbjaaGreatDoor
namespace Go.Spy
open Go.RowKit
section
variable {P : Program}
/-- One cell of an array by value. -/
theorem wpList_index_agg {ops : Array Oper} {rest : List Oper} {o : Oper} {a : Act} {w : World} {Q : Exit → Act → World → Prop} (hgd : o.guard = none) (t : TypeId) (x i : Operand) (ho : o.op = .index t x i)
    (A : Array Value) (hx : a.eval x = .agg A) (q : IntKind) (k : Nat) (hk : a.eval i = .int q (k : Int)) (n : Nat) (e : TypeId) (hu : P.underlying t = some (.array n e)) (hkn : k < n)
    (d : TypeDesc) (hd0 : P.underlying e = some d) (hd : (match d with | .struct _ | .array _ _ => true | _ => false) = false) (hi : (P.info? e).map (·.size) = some 1) (v : Value) (hv : A[k]? = some v)
    (h : wpList P ops Q rest (a.put o.dst v) w) : wpList P ops Q (o :: rest) a w :=
  wpList_plain hgd fun _ hK => by
    cases hq : P.info? e with
    | none => simp [hq] at hi
    | some z =>
      have hs : z.size = 1 := by simpa [hq] using hi
      have hagg : (isAgg e).run P w = .ok false w := by
        unfold isAgg
        rw [Sem.run_bind, run_underlying hd0 w]
        cases d <;> simp_all
      have hc : (0 : Int) ≤ (k : Int) ∧ (k : Int) < (n : Int) := by omega
      unfold Oper.wp execOp
      simp only [ho, hx, hk, Instr.index, asIntOf, run_underlying hu, Sem.run_bind, Sem.run_pure, Result.andThen_ok, if_pos hc, part, hagg, sizeOf, typeInfo, hq, hs, run_program, Int.toNat_natCast, Nat.mul_one, hv]
      first
        | exact hK _ _ h
        | (simp; exact hK _ _ h)
end
end Go.Spy
namespace Go.Proofs.YtngpjagpeblbjaaGreatDoor
open Go.RowKit Go.Spy Go.Heaped Go.Tour Go.Rx

theorem zero105 : (Tryz.prog.info? 105).map (·.zero) = some (some (.agg (setV 0))) := by kernel_rfl
theorem info105 : (Tryz.prog.info? 105).map (·.size) = some 16 := by kernel_rfl
theorem info103 : (Tryz.prog.info? 103).map (·.size) = some 1 := by kernel_rfl
/-- The first k words are those of the one set, all others those of the other one. -/
def mixV (m m2 k : Nat) : Array Value := joined (setV m) 0 m2 k
theorem mixV_far {m m2 k i : Nat} (h : k ≤ i) (hi : i < 16) : (mixV m m2 k)[i]? = some (.int .u64 (plG m i)) := by
  have := joined_far (setV m) 0 m2 k i h
  rw [Nat.zero_add] at this
  unfold mixV
  rw [this]; exact setV_get hi
theorem mixV_end (m m2 : Nat) : mixV m m2 16 = setV m2 := by
  unfold mixV
  rw [joined_end (setV m) 0 m m2 15 (fun i hi => by rw [Nat.zero_add]; exact setV_get (by omega))]
  exact setV_put m m2

set_option maxRecDepth 100000 in
set_option maxHeartbeats 1000000 in
theorem either2_any (m m2 : Nat) (hm : m < 18446744073709551616) (hm2 : m2 < 18446744073709551616) (w : World) : Calls Tryz.prog 67 #[.agg (setV m), .agg (setV m2)] w (SetPost w (m ||| m2)) := by
  go_enter Tryz.func67, Tryz.ntmps67
  go_wp2_with (first
    | (with_reducible show wpList _ _ _ ((⟨some 2, _, _, _, _, _⟩ : Oper) :: _) _ _
       go_loud (refine wpList_box_agg rfl 105 (.tmp 0) rfl (setV m) rfl ?_)
       intro w1 hB1 hz1
       have HB1 := hid hB1.out
       have HZ1 := hid hz1
       clear hB1 hz1)
    | (with_reducible show wpList _ _ _ ((⟨some 3, _, _, _, _, _⟩ : Oper) :: _) _ _
       go_loud (refine wpList_box_agg rfl 105 (.tmp 1) rfl (setV m2) rfl ?_)
       intro w2 hB2 hz2
       have HB2 := hid hB2.out
       have HZ2 := hid hz2
       clear hB2 hz2)
    | (with_reducible show wpList _ _ _ ((⟨some 4, _, _, _, _, _⟩ : Oper) :: _) _ _
       go_loud (refine wpList_alloc_agg rfl 105 rfl _ zero105 ?_)
       intro w3 hB3 hz3
       have HB3 := hid hB3.out
       have HZ3 := hid hz3
       clear hB3 hz3)
    | (with_reducible show wpList _ _ _ ((⟨some 7, _, _, _, _, _⟩ : Oper) :: _) _ _
       go_loud (refine wpList_load_blk rfl 105 (.tmp 3) rfl w1.heap.size rfl 105 (setV m2) _ 16 (HB2.out.1.ext HB3.out.2) (setV_size _) Tryz.underlying105 rfl info105 ?_)))
  have s1 : w.heap.size < w1.heap.size := by have := HZ1.out; omega
  have s2 : w1.heap.size < w2.heap.size := by have := HZ2.out; omega
  have s3 : w2.heap.size < w3.heap.size := by have := HZ3.out; omega
  go_loopg [8] 16 (fun g i wr => ∃ k : Nat, k ≤ 16 ∧ g = 16 - k ∧ i = .int .i64 k ∧ Hid (Blk wr w.heap.size 105 (mixV m (m ||| m2) k)) ∧ Hid (Chg (· = w.heap.size) w3 wr))
  case atStart => exact ⟨0, by omega, rfl, rfl, hid ((HB1.out.1.ext HB2.out.2).ext HB3.out.2), hid (Chg.refl _ _)⟩
  case round =>
    obtain ⟨k, hk, rfl, rfl, HK, HX⟩ := hrel
    by_cases hlt : k < 16
    · have c1 : wr.cell? ⟨w.heap.size, k, none⟩ = some (.int .u64 (plG m k)) := HK.out.cell (mixV_far (Nat.le_refl _) hlt)
      have hf := HK.out.frozen
      have hl := HK.out.lt
      have ho := bits_or_u64_nat _ _ (plG_lt (i := k) hm) (plG_lt (i := k) hm2)
      rw [plG_or] at ho
      go_wp2_with (first
        | (with_reducible show wpList _ _ _ ((⟨some 11, _, _, _, _, _⟩ : Oper) :: _) _ _
           go_loud (refine wpList_index_agg rfl 105 (.tmp 7) (.tmp 8) rfl (setV m2) rfl .i64 k rfl 16 103 Tryz.underlying105 hlt _ Tryz.underlying103 rfl info103 _ (setV_get hlt) ?_)))
      go_roundg (16 - (k+1))
      case measure => omega
      case rel =>
        refine ⟨k+1, by omega, rfl, by go_num, hid ?_, hid ?_⟩
        · have := HK.out.set k (.int .u64 (plG (m ||| m2) k : Nat))
          unfold mixV
          rw [joined, Nat.zero_add]
          exact this
        · exact Chg.setCell (p := ⟨w.heap.size, k, none⟩) HX.out rfl _
    · obtain rfl : k = 16 := by omega
      have HK2 : Hid (Blk wr w.heap.size 105 (setV (m ||| m2))) := hid (by have := HK.out; rwa [mixV_end] at this)
      have HR : Hid (Blk wr w2.heap.size 105 (setV 0)) := hid (HB3.out.1.chg HX.out (by show ¬ _ = _; omega))
      go_wp2_with (first
        | (with_reducible show wpList _ _ _ ((⟨some 19, _, _, _, _, _⟩ : Oper) :: _) _ _
           go_loud (refine wpList_load_blk rfl 105 (.tmp 2) rfl w.heap.size rfl 105 (setV (m ||| m2)) _ 16 HK2.out (setV_size _) Tryz.underlying105 rfl info105 ?_))
        | (with_reducible show wpList _ _ _ ((⟨_, Op.store _ (.tmp 4) _, _, _, _, _⟩ : Oper) :: _) _ _
           go_loud (refine wpList_store_agg rfl 105 (.tmp 4) (.tmp 19) rfl w2.heap.size 0 (setV (m ||| m2)) rfl rfl 105 (setV 0) HR.out (by rw [setV_size]; exact info105) (by simp [setV_size]) (ones_setV _) ?_)
           intro w5 hB5 hz5
           have HB5 := hid hB5.out
           clear hB5))
      have h5 := HB5.out.1
      rw [splice_all (by simp [setV_size])] at h5
      refine bodyPost_ret (v := .agg (setV (m ||| m2))) (results_cell_agg Tryz.results67 _ _ w2.heap.size 105 (setV (m ||| m2)) _ rfl h5 Tryz.underlying105 rfl (by rw [setV_size]; exact info105)) rfl ?_
      refine ⟨_, rfl, rfl, ?_⟩
      have x3 : Ext w w3 := (HB1.out.2.trans (HB2.out.2.mono HB1.out.2.size)).trans (HB3.out.2.mono (by omega))
      have d1 : Chg (fun k => w.heap.size ≤ k) w3 wr := HX.out.mono fun k _ e => by omega
      have d2 : Chg (fun k => w.heap.size ≤ k) wr w5 := HB5.out.2.mono fun k _ e => by omega
      exact x3.trans ((d1.trans d2).below (by omega) (fun k e => e))
end Go.Proofs.YtngpjagpeblbjaaGreatDoor
namespace Go.Proofs.YtngpjagpeblbjaaGreatDoor
open Go.RowKit Go.Spy Go.Heaped Go.Tour Go.Rx
theorem plG_and (m m2 i : Nat) : plG m i &&& plG m2 i = plG (m &&& m2) i := by
  unfold plG; split <;> simp

set_option maxRecDepth 100000 in
set_option maxHeartbeats 1000000 in
theorem both2_any (m m2 : Nat) (hm : m < 18446744073709551616) (hm2 : m2 < 18446744073709551616) (w : World) : Calls Tryz.prog 74 #[.agg (setV m), .agg (setV m2)] w (SetPost w (m &&& m2)) := by
  go_enter Tryz.func74, Tryz.ntmps74
  go_wp2_with (first
    | (with_reducible show wpList _ _ _ ((⟨some 2, _, _, _, _, _⟩ : Oper) :: _) _ _
       go_loud (refine wpList_box_agg rfl 105 (.tmp 0) rfl (setV m) rfl ?_)
       intro w1 hB1 hz1
       have HB1 := hid hB1.out
       have HZ1 := hid hz1
       clear hB1 hz1)
    | (with_reducible show wpList _ _ _ ((⟨some 3, _, _, _, _, _⟩ : Oper) :: _) _ _
       go_loud (refine wpList_box_agg rfl 105 (.tmp 1) rfl (setV m2) rfl ?_)
       intro w2 hB2 hz2
       have HB2 := hid hB2.out
       have HZ2 := hid hz2
       clear hB2 hz2)
    | (with_reducible show wpList _ _ _ ((⟨some 4, _, _, _, _, _⟩ : Oper) :: _) _ _
       go_loud (refine wpList_alloc_agg rfl 105 rfl _ zero105 ?_)
       intro w3 hB3 hz3
       have HB3 := hid hB3.out
       have HZ3 := hid hz3
       clear hB3 hz3)
    | (with_reducible show wpList _ _ _ ((⟨some 7, _, _, _, _, _⟩ : Oper) :: _) _ _
       go_loud (refine wpList_load_blk rfl 105 (.tmp 3) rfl w1.heap.size rfl 105 (setV m2) _ 16 (HB2.out.1.ext HB3.out.2) (setV_size _) Tryz.underlying105 rfl info105 ?_)))
  have s1 : w.heap.size < w1.heap.size := by have := HZ1.out; omega
  have s2 : w1.heap.size < w2.heap.size := by have := HZ2.out; omega
  have s3 : w2.heap.size < w3.heap.size := by have := HZ3.out; omega
  go_loopg [8] 16 (fun g i wr => ∃ k : Nat, k ≤ 16 ∧ g = 16 - k ∧ i = .int .i64 k ∧ Hid (Blk wr w.heap.size 105 (mixV m (m &&& m2) k)) ∧ Hid (Chg (· = w.heap.size) w3 wr))
  case atStart => exact ⟨0, by omega, rfl, rfl, hid ((HB1.out.1.ext HB2.out.2).ext HB3.out.2), hid (Chg.refl _ _)⟩
  case round =>
    obtain ⟨k, hk, rfl, rfl, HK, HX⟩ := hrel
    by_cases hlt : k < 16
    · have c1 : wr.cell? ⟨w.heap.size, k, none⟩ = some (.int .u64 (plG m k)) := HK.out.cell (mixV_far (Nat.le_refl _) hlt)
      have hf := HK.out.frozen
      have hl := HK.out.lt
      have ho := bits_and_u64_nat _ _ (plG_lt (i := k) hm) (plG_lt (i := k) hm2)
      rw [plG_and] at ho
      go_wp2_with (first
        | (with_reducible show wpList _ _ _ ((⟨some 11, _, _, _, _, _⟩ : Oper) :: _) _ _
           go_loud (refine wpList_index_agg rfl 105 (.tmp 7) (.tmp 8) rfl (setV m2) rfl .i64 k rfl 16 103 Tryz.underlying105 hlt _ Tryz.underlying103 rfl info103 _ (setV_get hlt) ?_)))
      go_roundg (16 - (k+1))
      case measure => omega
      case rel =>
        refine ⟨k+1, by omega, rfl, by go_num, hid ?_, hid ?_⟩
        · have := HK.out.set k (.int .u64 (plG (m &&& m2) k : Nat))
          unfold mixV
          rw [joined, Nat.zero_add]
          exact this
        · exact Chg.setCell (p := ⟨w.heap.size, k, none⟩) HX.out rfl _
    · obtain rfl : k = 16 := by omega
      have HK2 : Hid (Blk wr w.heap.size 105 (setV (m &&& m2))) := hid (by have := HK.out; rwa [mixV_end] at this)
      have HR : Hid (Blk wr w2.heap.size 105 (setV 0)) := hid (HB3.out.1.chg HX.out (by show ¬ _ = _; omega))
      go_wp2_with (first
        | (with_reducible show wpList _ _ _ ((⟨some 19, _, _, _, _, _⟩ : Oper) :: _) _ _
           go_loud (refine wpList_load_blk rfl 105 (.tmp 2) rfl w.heap.size rfl 105 (setV (m &&& m2)) _ 16 HK2.out (setV_size _) Tryz.underlying105 rfl info105 ?_))
        | (with_reducible show wpList _ _ _ ((⟨_, Op.store _ (.tmp 4) _, _, _, _, _⟩ : Oper) :: _) _ _
           go_loud (refine wpList_store_agg rfl 105 (.tmp 4) (.tmp 19) rfl w2.heap.size 0 (setV (m &&& m2)) rfl rfl 105 (setV 0) HR.out (by rw [setV_size]; exact info105) (by simp [setV_size]) (ones_setV _) ?_)
           intro w5 hB5 hz5
           have HB5 := hid hB5.out
           clear hB5))
      have h5 := HB5.out.1
      rw [splice_all (by simp [setV_size])] at h5
      refine bodyPost_ret (v := .agg (setV (m &&& m2))) (results_cell_agg Tryz.results74 _ _ w2.heap.size 105 (setV (m &&& m2)) _ rfl h5 Tryz.underlying105 rfl (by rw [setV_size]; exact info105)) rfl ?_
      refine ⟨_, rfl, rfl, ?_⟩
      have x3 : Ext w w3 := (HB1.out.2.trans (HB2.out.2.mono HB1.out.2.size)).trans (HB3.out.2.mono (by omega))
      have d1 : Chg (fun k => w.heap.size ≤ k) w3 wr := HX.out.mono fun k _ e => by omega
      have d2 : Chg (fun k => w.heap.size ≤ k) wr w5 := HB5.out.2.mono fun k _ e => by omega
      exact x3.trans ((d1.trans d2).below (by omega) (fun k e => e))
end Go.Proofs.YtngpjagpeblbjaaGreatDoor
namespace Go.Proofs.YtngpjagpeblbjaaGreatDoor
open Go.RowKit Go.Spy Go.Heaped Go.Tour Go.Rx

set_option maxRecDepth 100000 in
set_option maxHeartbeats 1600000 in
theorem list2_any (m : Nat) (w : World) (hm : m < 18446744073709551616) (hT : TabW w) : Calls Tryz.prog 72 #[.agg (setV m)] w fun e w' => ListPost w m e w' := by
  have HT := hid hT
  clear hT
  go_enter Tryz.func72, Tryz.ntmps72
  go_wp2_with (first
    | (with_reducible show wpList _ _ _ ((⟨some 1, _, _, _, _, _⟩ : Oper) :: _) _ _
       go_loud (refine wpList_box_agg rfl 105 (.tmp 0) rfl (setV m) rfl ?_)
       intro w1 hB1 hz1
       have HB1 := hid hB1.out
       clear hB1 hz1)
    | (with_reducible show wpList _ _ _ ((⟨some 6, _, _, _, _, _⟩ : Oper) :: _) _ _
       go_loud (refine wpList_load_blk rfl 105 (.tmp 1) rfl w.heap.size rfl 105 (setV m) _ 16 HB1.out.1 (setV_size _) Tryz.underlying105 rfl info105 ?_)))
  go_loopg [3, 7] 16 (fun g v i wr => ∃ k : Nat, k ≤ 16 ∧ g = 16 - k ∧ i = .int .i64 k ∧ Hid (OwnI wr w.heap.size v (accB m k)) ∧ Hid (Ext w wr))
  case atStart => exact ⟨0, by omega, rfl, rfl, hid (World.ownsRow_nil _ _ _ _), hid HB1.out.2⟩
  case round =>
    obtain ⟨k, hk, rfl, rfl, HO, HE⟩ := hrel
    by_cases hlt : k < 16
    · go_wp2_with (first
        | (with_reducible show wpList _ _ _ ((⟨some 10, _, _, _, _, _⟩ : Oper) :: _) _ _
           go_loud (refine wpList_index_agg rfl 105 (.tmp 6) (.tmp 7) rfl (setV m) rfl .i64 k rfl 16 103 Tryz.underlying105 hlt _ Tryz.underlying103 rfl info103 _ (setV_get hlt) ?_)))
      have hpl := plG_lt (i := k) hm
      have hk0 : k = 0 ∨ plG m k = 0 := by
        by_cases h : k = 0
        · exact .inl h
        · right; unfold plG; rw [if_neg h]
      go_loopg [3, 5] (plG m k) (fun g v x wi => ∃ (y : Nat) (l : List Nat), y < 18446744073709551616 ∧ g = y ∧ x = .int .u64 y ∧ (k = 0 ∨ y = 0) ∧ Hid (l ++ bitsL y = accB m (k + 1)) ∧ Hid (OwnI wi w.heap.size v l) ∧ Hid (Ext w wi))
      case atStart => exact ⟨_, _, hpl, rfl, rfl, hk0, hid (accB_succ m k).symm, HO, HE⟩
      case round =>
        clear HO HE
        obtain ⟨y, l, hy, hg, rfl, hky, HL, HO, HE⟩ := hrel
        have HG := hid hg
        clear hg
        by_cases hy0 : y = 0
        · subst hy0
          have HL2 : Hid (l = accB m (k + 1)) := hid (by have := HL.out; rwa [bitsL_zero, List.append_nil] at this)
          go_wp2_with fail
          go_roundg (16 - (k+1))
          case measure => omega
          case rel => exact ⟨k+1, by omega, rfl, by go_num, hid (by rw [← HL2.out]; exact HO.out), HE⟩
        · obtain rfl : k = 0 := hky.resolve_right hy0
          have hq : ((y : Int) != 0) = true := by simp; omega
          have hand := and_pred_u64 hy hy0
          have hlen : l.length ≤ 64 := by
            have h1 := accB_len hm (0 + 1)
            rw [← HL.out, List.length_append] at h1
            omega
          have HT1 := hid (HT.out.ext HE.out)
          have hbs := HE.out.size
          have htz := tz_lt (n := 64) hy0 (by have h64 : 2 ^ 64 = 18446744073709551616 := by decide
                                              rw [h64]; exact hy)
          go_wp2_with (first | (go_at_call 111; refine (tz_any y hy hy0 _ HT1.out).mono ?_; rintro e w' ⟨rfl, rfl⟩) | (at_builtin; refine wpList_int HO hbs (by omega) (tz y) _ rfl rfl _ _ rfl rfl rfl ?_; rintro g' cap' v' w4 rfl H1 H2))
          have hlt2 := and_pred_lt hy0
          go_roundg (y &&& (y - 1))
          case measure => rw [HG.out]; exact hlt2
          case rel =>
            refine ⟨y &&& (y - 1), l ++ [tz y], by omega, rfl, rfl, .inl trivial, hid ?_, H1, hid (ext_grown HE.out H2.out.1 (fun i hi => (HO.out.lt i hi).1))⟩
            have := HL.out
            rw [bitsL_next hy0] at this
            rw [← this, List.append_assoc]; rfl
    · obtain rfl : k = 16 := by omega
      go_wp2_with fail
      go_ret
      exact ⟨_, rfl, HO.out, HE.out⟩

/-- The set of some places. -/
def orL (l : List Nat) : Nat := l.foldl (fun m p => m ||| 1 <<< p) 0
theorem orL_bit (l : List Nat) (m j : Nat) : (l.foldl (fun m p => m ||| 1 <<< p) m).testBit j = (m.testBit j || decide (j ∈ l)) := by
  induction l generalizing m with
  | nil => simp
  | cons p l ih =>
    rw [List.foldl_cons, ih, Nat.testBit_or, Nat.one_shiftLeft, Nat.testBit_two_pow]
    by_cases h : p = j
    · subst h; simp
    · have h2 : ¬ j = p := fun e => h e.symm
      simp [h, h2]
theorem orL_bits (m : Nat) : orL (bitsL m) = m := by
  apply Nat.eq_of_testBit_eq
  intro j
  unfold orL
  rw [orL_bit, Nat.zero_testBit, Bool.false_or]
  cases h : m.testBit j with
  | true => simp [(mem_bitsL m j).2 h]
  | false => simp; intro e; rw [(mem_bitsL m j).1 e] at h; cases h
theorem orL_one (p : Nat) : orL [p] = 1 <<< p := by simp [orL]
theorem orL_lt {l : List Nat} (h : ∀ p ∈ l, p < 64) : ∀ {m : Nat}, m < 18446744073709551616 → l.foldl (fun m p => m ||| 1 <<< p) m < 18446744073709551616 := by
  induction l with
  | nil => intro m hm; exact hm
  | cons p l ih =>
    intro m hm
    exact ih (fun q hq => h q (by simp [hq])) (or64 hm (shl_lt (h p (by simp))))

set_option maxRecDepth 100000 in
set_option maxHeartbeats 1000000 in
theorem set_any {w : World} {v : Value} {l : List Nat} (hV : NatsV w v l) (hl : l.length ≤ 1000) (h64 : ∀ p ∈ l, p < 64) : Calls Tryz.prog 68 #[v] w (SetPost w (orL l)) := by
  obtain ⟨ao, cap, rfl, hc⟩ := hV.out
  have HC := hid hc
  have H64 := hid h64
  clear hV hc h64
  go_enter Tryz.func68, Tryz.ntmps68
  go_wp2_with (first
    | (with_reducible show wpList _ _ _ ((⟨some 2, _, _, _, _, _⟩ : Oper) :: _) _ _
       go_loud (refine wpList_alloc_agg rfl 105 rfl _ zero105 ?_)
       intro w1 hB1 hz1
       have HB1 := hid hB1.out
       have HZ1 := hid hz1
       clear hB1 hz1)
    | (with_reducible show wpList _ _ _ ((⟨some 3, _, _, _, _, _⟩ : Oper) :: _) _ _
       go_loud (refine wpList_alloc_agg rfl 105 rfl _ zero105 ?_)
       intro w2 hB2 hz2
       have HB2 := hid hB2.out
       have HZ2 := hid hz2
       clear hB2 hz2))
  have s1 : w.heap.size < w1.heap.size := by have := HZ1.out; omega
  have s2 : w1.heap.size < w2.heap.size := by have := HZ2.out; omega
  have HX2 : Hid (Ext w w2) := hid (HB1.out.2.trans (HB2.out.2.mono (by omega)))
  go_loopg [8] l.length (fun g i wr => ∃ k : Nat, k ≤ l.length ∧ g = l.length - k ∧ i = .int .i64 k ∧ Hid (Blk wr w1.heap.size 105 (setV (orL (l.take k)))) ∧ Hid (Chg (· = w1.heap.size) w2 wr))
  case atStart => exact ⟨0, by omega, rfl, rfl, hid HB2.out.1, hid (Chg.refl _ _)⟩
  case round =>
    obtain ⟨k, hk, rfl, rfl, HK, HX⟩ := hrel
    by_cases hlt : k < l.length
    · obtain ⟨b, off, rfl, hb, hcc⟩ := HC.out (by omega)
      obtain ⟨p, hp⟩ : ∃ p, l[k]? = some p := ⟨_, List.getElem?_eq_getElem hlt⟩
      have hp64 := H64.out p (List.mem_of_getElem? hp)
      have c1 : wr.cell? ⟨b, off + k, none⟩ = some (.int .i64 p) := by
        have h1 := (HX2.out.cell (p := ⟨b, off + k, none⟩) hb).trans (hcc k p hp)
        rw [← h1]
        exact cell_of_chg HX.out (by have := HX2.out.size; show b < _; omega) (by show ¬ b = _; omega)
      obtain ⟨m, hm⟩ : ∃ m, m = orL (l.take k) := ⟨_, rfl⟩
      have hm64 : m < 18446744073709551616 := by rw [hm]; exact orL_lt (fun q hq => H64.out q (List.mem_of_mem_take hq)) (by decide)
      rw [← hm] at HK
      have h0 : p / 64 = 0 := by omega
      have c2 : wr.cell? ⟨w1.heap.size, p / 64, none⟩ = some (.int .u64 m) := by
        rw [h0]
        exact HK.out.cell (setV_get (m := m) (i := 0) (by decide))
      have hf := HK.out.frozen
      have hlk := HK.out.lt
      have HP := hid hp
      have HM := hid hm
      clear hcc hp hm h0
      go_upto_region 5 with fail
      go_region
      go_wp2_with fail
      go_roundg (l.length - (k+1))
      case measure => omega
      case rel =>
        have h0 : p / 64 = 0 := by omega
        have he : setV (orL (l.take (k + 1))) = (setV m).setIfInBounds 0 (.int .u64 (m ||| 1 <<< p : Nat)) := by
          rw [setV_put, List.take_succ_eq_append_getElem hlt]
          have := (List.getElem?_eq_some_iff.1 HP.out).2
          rw [this]
          unfold orL
          rw [List.foldl_append, HM.out]; rfl
        refine ⟨k+1, by omega, rfl, by go_num, hid ?_, hid ?_⟩
        · rw [he]
          have := (HK.out.set 0 (.int .u64 (m ||| 1 <<< p : Nat))).drew
          rw [or_one m p hm64 hp64]
          simp only [h0]
          exact this
        · exact Chg.drew (Chg.setCell (p := ⟨w1.heap.size, _, none⟩) HX.out rfl _)
    · obtain rfl : k = l.length := by omega
      have HK2 : Hid (Blk wr w1.heap.size 105 (setV (orL l))) := hid (by have := HK.out; rwa [List.take_length] at this)
      have HR : Hid (Blk wr w.heap.size 105 (setV 0)) := hid ((HB1.out.1.ext HB2.out.2).chg HX.out (by show ¬ _ = _; omega))
      go_wp2_with (first
        | (with_reducible show wpList _ _ _ ((⟨some 22, _, _, _, _, _⟩ : Oper) :: _) _ _
           go_loud (refine wpList_load_blk rfl 105 (.tmp 3) rfl w1.heap.size rfl 105 (setV (orL l)) _ 16 HK2.out (setV_size _) Tryz.underlying105 rfl info105 ?_))
        | (with_reducible show wpList _ _ _ ((⟨_, Op.store _ (.tmp 2) _, _, _, _, _⟩ : Oper) :: _) _ _
           go_loud (refine wpList_store_agg rfl 105 (.tmp 2) (.tmp 22) rfl w.heap.size 0 (setV (orL l)) rfl rfl 105 (setV 0) HR.out (by rw [setV_size]; exact info105) (by simp [setV_size]) (ones_setV _) ?_)
           intro w5 hB5 hz5
           have HB5 := hid hB5.out
           clear hB5))
      have h5 := HB5.out.1
      rw [splice_all (by simp [setV_size])] at h5
      refine bodyPost_ret (v := .agg (setV (orL l))) (results_cell_agg Tryz.results68 _ _ w.heap.size 105 (setV (orL l)) _ rfl h5 Tryz.underlying105 rfl (by rw [setV_size]; exact info105)) rfl ?_
      refine ⟨_, rfl, rfl, ?_⟩
      have d1 : Chg (fun k => w.heap.size ≤ k) w2 wr := HX.out.mono fun k _ e => by omega
      have d2 : Chg (fun k => w.heap.size ≤ k) wr w5 := HB5.out.2.mono fun k _ e => by omega
      exact HX2.out.trans ((d1.trans d2).below (by omega) (fun k e => e))
end Go.Proofs.YtngpjagpeblbjaaGreatDoor
namespace Go.Spy
open Go.RowKit Go.Proofs.YtngpjagpeblbjaaGreatDoor
section
variable {P : Program}
theorem addr_add (g k j : Nat) : (⟨g, k, none⟩ : Addr).add j = ⟨g, k + j, none⟩ := by unfold Addr.add; split <;> simp_all
theorem flat_news {α : Type} {w : World} {s : Nat} {f : α → Array Value} (hf : ∀ x, (f x).size = s) (hs : 0 < s) {g off c : Nat} {l : List α} (h : ReadR w s f (.slice (some ⟨g, off, none⟩) l.length c) l) :
    ∀ j u, (l.flatMap fun x => (f x).toList)[j]? = some u → w.cell? ((⟨g, off, none⟩ : Addr).add j) = some u := by
  intro j u hj
  have hjlt := (List.getElem?_eq_some_iff.1 hj).1
  rw [flat_len (fun x => (f x).toList) s (fun x => by simpa using hf x)] at hjlt
  have hq : j / s < l.length := Nat.div_lt_of_lt_mul (by rw [Nat.mul_comm]; exact hjlt)
  have hr : j % s < s := Nat.mod_lt _ hs
  have he : j = (j / s) * s + j % s := by rw [Nat.mul_comm]; exact (Nat.div_add_mod j s).symm
  have hx : l[j / s]? = some l[j / s] := List.getElem?_eq_getElem hq
  have h1 := flat_get (fun x => (f x).toList) s (fun x => by simpa using hf x) l (j / s) (j % s) hr
  rw [← he, hj, hx, Option.bind_some, Array.getElem?_toList] at h1
  have h2 := h.cell hx (k := j % s) hr
  rw [← he, ← h1] at h2
  rw [addr_add]; exact h2
theorem wpList_append_read {α : Type} {t e : TypeId} {s bytes : Nat} (E : ElemOk P t e s bytes) {f : α → Array Value} (hf : ∀ x, (f x).size = s) (h1 : ∀ x, Ones (f x)) {w0 : World} {base : Nat} {v : Value} {l : List α} (hown : Hid (OwnR w0 base e s f v l)) (hb : base ≤ w0.heap.size)
    {x2 : Value} {l2 : List α} (hr : Hid (ReadR w0 s f x2 l2)) (hn : l.length + l2.length ≤ 1000000000) {ops : Array Oper} {rest : List Oper} {o : Oper} {a : Act} {Q : Exit → Act → World → Prop} (hgd : o.guard = none) (so xo : Operand)
    (ho : o.op = .call { callee := .builtin .append, args := #[so, xo], argTypes := #[t, t] }) (hs : a.eval so = v) (hx : a.eval xo = x2)
    (hK : ∀ (v' : Value) (w4 : World), Hid (OwnR w4 base e s f v' (l ++ l2)) → Hid (w0.grownBy w4 v.ownBlock) → wpList P ops Q rest (a.put o.dst v') w4) :
    wpList P ops Q (o :: rest) a w0 := by
  obtain ⟨i, z, hi, hz, hz1, hz2, hz3⟩ := E.info
  obtain ⟨ao, c, rfl, hao⟩ := hr.out.form
  have key : ∃ v' w', (Builtin.append_ #[t, t] o.type #[v, .slice ao l2.length c]).run P w0 = .ok v' w' ∧ OwnR w' base e s f v' (l ++ l2) ∧ w0.grownBy w' v.ownBlock := by
    have hbytes : (l.length + l2.length) * bytes ≤ 140737488355328 := by
      have := E.small
      have : (l.length + l2.length) * bytes ≤ 1000000000 * 4096 := Nat.mul_le_mul hn this
      omega
    rcases Nat.eq_zero_or_pos l2.length with h0 | h0
    · obtain rfl := List.eq_nil_of_length_eq_zero h0
      refine ⟨v, w0, ?_, by rw [List.append_nil]; exact hown.out, World.grownBy.refl _ _⟩
      rcases hown.out.2 with ⟨rfl, h2⟩ | ⟨g, cap, cur, rfl, hbg, hg, hnc, hcm, hcs, ht⟩
      · cases ao with
        | none => simp [Builtin.append_, run_underlying E.under, sizeOf, typeInfo, hi, Builtin.lenOf, Builtin.firstCells]
        | some p =>
          have hload : (loadCells p 0).run P w0 = .ok #[] w0 := run_loadCells_list (P := P) w0 p [] (by simp)
          simp [Builtin.append_, run_underlying E.under, sizeOf, typeInfo, hi, Builtin.lenOf, Builtin.firstCells, hload]
      · cases ao with
        | none => simp [Builtin.append_, run_underlying E.under, sizeOf, typeInfo, hi, Builtin.lenOf, Builtin.firstCells, hnc, storeCells]
        | some p =>
          have hload : (loadCells p 0).run P w0 = .ok #[] w0 := run_loadCells_list (P := P) w0 p [] (by simp)
          simp [Builtin.append_, run_underlying E.under, sizeOf, typeInfo, hi, Builtin.lenOf, Builtin.firstCells, hnc, hload, storeCells]
    · obtain ⟨g, off, rfl⟩ := hao h0
      obtain ⟨v', w', hrun, h2, h3, _, _⟩ := run_append_own_at (P := P) w0 base t o.type e i z s bytes E.under hi hz hz1 hz2 hz3 E.pos v l.length _ hown.out ⟨g, off, none⟩ l2.length c (l2.flatMap fun x => (f x).toList) (flat_len _ s (fun x => by simpa using hf x) l2) (flat_news hf E.pos hr.out)
        (fun u hu => by
          rw [List.mem_flatMap] at hu
          obtain ⟨x, _, hux⟩ := hu
          exact h1 x u (by simpa using hux)) (by unfold maxLen; omega) hbytes hb
      refine ⟨v', w', hrun, ?_, h3⟩
      unfold OwnR
      rw [List.flatMap_append, List.length_append]
      exact h2
  obtain ⟨v', w', hrun, h2, h3⟩ := key
  refine wpList_plain hgd fun K hK' => ?_
  unfold Oper.wp execOp
  simp only [ho, resolve, invoke, builtin, Sem.run_bind, Sem.run_pure, Result.andThen_ok, List.map_toArray, List.map_cons, List.map_nil, hs, hx, hrun]
  exact hK' _ _ (hK v' w' (hid h2) (hid h3))
end
end Go.Spy
namespace Go.Proofs.YtngpjagpeblbjaaGreatDoor
open Go.RowKit Go.Spy Go.Heaped Go.Tour Go.Rx

def GrowPost (w : World) (e : Ending) (w' : World) : Prop := Ext w w' ∧ ∃ v, e = .returned v ∧ OwnR w' w.heap.size 9 1 strC v []
theorem bytes9 : Tryz.t9.bytes = 16 := by kernel_rfl

set_option maxRecDepth 100000 in
set_option maxHeartbeats 1000000 in
theorem grow_any (n : Nat) (hn : n ≤ 100000) (w : World) : Calls Tryz.prog 128 #[.slice none 0 0, .int .i64 n] w (GrowPost w) := by
  by_cases h0 : n = 0
  · subst h0
    go_enter Tryz.func128, Tryz.ntmps128
    go_wp2_with fail
    go_ret
    exact ⟨Below.refl _ _, _, rfl, OwnR.nil _ _ _ _ _⟩
  · have hpos : 0 < n := by omega
    have hb1 : ¬ 281474976710656 < (n : Int) * (Tryz.t9.bytes : Int) := by rw [bytes9]; omega
    have hb2 : ¬ 281474976710656 < Builtin.nextslicecap n 0 * Tryz.t9.bytes := by rw [bytes9, nextslicecap_zero hpos]; omega
    go_enter Tryz.func128, Tryz.ntmps128
    go_wp2_with fail
    go_ret
    have hg := grownCap_ge w n 0 9
    have hm := grownCap_le_maxLen w n 0 9 (by unfold maxLen; omega)
    unfold grownCap at hg hm
    refine ⟨Below.drew ((Below.refl _ _).alloc (Nat.le_refl _) _), _, rfl, ?_⟩
    refine ⟨by simp, .inr ⟨w.heap.size, _, _, rfl, Nat.le_refl _, heap_alloc_new w _, by simp, hm, ?_, by simp⟩⟩
    simp [Builtin.zeroCells]
    omega

def CatPost (l : List ByteArray) (w : World) (e : Ending) (w' : World) : Prop := Ext w w' ∧ ∃ v, e = .returned v ∧ OwnR w' w.heap.size 9 1 strC v l

set_option maxRecDepth 100000 in
set_option maxHeartbeats 1000000 in
theorem concat_any {w : World} {x : Value} {us : List Value} {ls : List (List ByteArray)} (hX : ReadR w 1 oneA x us) (hl : us.length = ls.length) (hs : ls.length ≤ 10) (hR : ∀ (i : Nat) (u : Value) (l : List ByteArray), us[i]? = some u → ls[i]? = some l → ReadR w 1 strC u l) (hn : ∀ l ∈ ls, l.length ≤ 1000) :
    Calls Tryz.prog 101 #[x] w (CatPost ls.flatten w) := by
  obtain ⟨ao, cx, rfl, hao⟩ := hX.form
  obtain ⟨n, hnn⟩ : ∃ n, n = us.length := ⟨_, rfl⟩
  have HX := hid hX
  rw [← hnn] at HX ⊢ hao
  have HN := hid hnn
  have HL := hid hl
  have HS : Hid (n = ls.length) := hid (hnn.trans hl)
  have HR := hid hR
  have HB := hid hn
  have hn10 : n ≤ 10 := by rw [hnn, hl]; exact hs
  clear hX hnn hl hR hn hs
  have tot : Hid (∀ k, k ≤ 10 → (ls.take k).flatten.length ≤ 1000 * k) := hid (fun k hk => by
    clear hk
    induction k with
    | zero => simp
    | succ k ih =>
      rcases Nat.lt_or_ge k ls.length with h | h
      · rw [List.take_succ_eq_append_getElem h, List.flatten_append, List.length_append]
        have := HB.out _ (List.getElem_mem h)
        rw [show ([ls[k]] : List (List ByteArray)).flatten = ls[k] by simp]
        omega
      · rw [List.take_of_length_le (by omega)]
        rw [List.take_of_length_le h] at ih
        omega)
  go_enter Tryz.func101, Tryz.ntmps101
  go_wp2_with fail
  go_loopg [3, 11] n (fun g s u wr => ∃ k, g = n - k ∧ k ≤ n ∧ wr = w ∧ s = .int .i64 ((ls.take k).flatten.length : Nat) ∧ u = .int .i64 k)
  case atStart => exact ⟨0, rfl, Nat.zero_le _, rfl, by simp, rfl⟩
  case round =>
    obtain ⟨k, rfl, hk, rfl, rfl, rfl⟩ := hrel
    obtain ⟨wo, hwo⟩ : ∃ u, u = wr := ⟨_, rfl⟩
    subst hwo
    obtain ⟨T, hT⟩ : ∃ T, T = (ls.take k).flatten.length := ⟨_, rfl⟩
    have htk := tot.out k (by omega)
    rw [← hT] at htk ⊢
    have HT := hid hT
    clear hT
    by_cases hlt : k < n
    · obtain ⟨b, off, rfl⟩ := hao (by omega)
      obtain ⟨l, hl⟩ : ∃ l, ls[k]? = some l := ⟨_, List.getElem?_eq_getElem (by rw [← HS.out]; exact hlt)⟩
      obtain ⟨u, hu⟩ : ∃ u, us[k]? = some u := ⟨_, List.getElem?_eq_getElem (by rw [← HN.out]; exact hlt)⟩
      obtain ⟨ao2, c2, rfl, -⟩ := (HR.out k u l hu hl).form
      obtain ⟨m, hm⟩ : ∃ m, m = l.length := ⟨_, rfl⟩
      have hm1 : m ≤ 1000 := hm ▸ HB.out l (List.mem_of_getElem? hl)
      have c1 : wo.cell? ⟨b, off + k, none⟩ = some (.slice ao2 m c2) := by rw [hm]; exact HX.out.cell1 hu
      have hT2 : (ls.take (k + 1)).flatten.length = T + m := by
        have h1 := (List.getElem?_eq_some_iff.1 hl)
        obtain ⟨h2, h3⟩ := h1
        rw [List.take_succ_eq_append_getElem h2, List.flatten_append, List.length_append, h3, HT.out, hm]; simp
      have HT2 := hid hT2
      have d0 : decide (((T : Int) + (m : Int)) < 0) = false := decide_eq_false (by omega)
      clear hl hu hm hT2
      go_wp2_with fail
      go_roundg (n - (k + 1))
      case measure => omega
      case rel => exact ⟨k + 1, rfl, by omega, rfl, by rw [HT2.out]; go_num, by go_num⟩
    · have hTn : T ≤ 100000 := by omega
      go_wp2_with fail
      go_at_call 128
      refine (grow_any T hTn _).mono ?_
      rintro e w2 ⟨hx, v, rfl, hO⟩
      have HX2 := hid hx
      have HO := hid hO
      clear hx hO
      go_wp2_with fail
      go_loopg [6, 27] n (fun g v u wr => ∃ k, g = n - k ∧ k ≤ n ∧ u = .int .i64 k ∧ Hid (OwnR wr wo.heap.size 9 1 strC v (ls.take k).flatten) ∧ Hid (Ext wo wr))
      case atStart => exact ⟨0, rfl, Nat.zero_le _, rfl, HO, HX2⟩
      case round =>
        clear HO HX2 htk HT hTn
        obtain ⟨k, rfl, hk2, rfl, HO, HE⟩ := hrel
        by_cases hlt2 : k < n
        · obtain ⟨b, off, rfl⟩ := hao (by omega)
          obtain ⟨l, hl⟩ : ∃ l, ls[k]? = some l := ⟨_, List.getElem?_eq_getElem (by rw [← HS.out]; exact hlt2)⟩
          obtain ⟨u, hu⟩ : ∃ u, us[k]? = some u := ⟨_, List.getElem?_eq_getElem (by rw [← HN.out]; exact hlt2)⟩
          obtain ⟨ao2, c2, rfl, -⟩ := (HR.out k u l hu hl).form
          have c1 : wr.cell? ⟨b, off + k, none⟩ = some (.slice ao2 l.length c2) := (HX.out.ext HE.out).cell1 hu
          have HRL := hid ((HR.out k _ l hu hl).ext HE.out)
          have hsz := HE.out.size
          have hlen : (ls.take k).flatten.length + l.length ≤ 1000000000 := by
            have := tot.out k (by omega)
            have := HB.out l (List.mem_of_getElem? hl)
            omega
          have HT2 : Hid ((ls.take (k + 1)).flatten = (ls.take k).flatten ++ l) := hid (by
            have h1 := (List.getElem?_eq_some_iff.1 hl)
            obtain ⟨h2, h3⟩ := h1
            rw [List.take_succ_eq_append_getElem h2, List.flatten_append, h3]; simp)
          clear hl hu
          go_wp2_with (first
            | (at_builtin
               go_loud (refine wpList_append_read elem_str strC_size ones_strC HO hsz HRL hlen rfl (.tmp 31) (.tmp 32) rfl rfl rfl ?_)
               intro v' w4 H1 H2))
          go_roundg (n - (k + 1))
          case measure => omega
          case rel => exact ⟨k + 1, rfl, by omega, by go_num, hid (by rw [HT2.out]; exact H1.out), hid (ext_grown HE.out H2.out (fun i hi => (HO.out.lt i hi).1))⟩
        · go_wp2_with fail
          go_ret
          refine ⟨HE.out, _, rfl, ?_⟩
          have := HO.out
          rw [List.take_of_length_le (by rw [← HS.out]; omega)] at this
          exact this
end Go.Proofs.YtngpjagpeblbjaaGreatDoor
namespace Go.Spy
open Go.Lib
theorem lt_of_le_ne {a b : List UInt8} (h : a ≤ b) (hn : a ≠ b) : a < b := by
  rcases Decidable.em (a < b) with h1 | h1
  · exact h1
  · exact absurd (List.le_antisymm h (List.not_lt.1 h1)) hn
theorem compactUpTo_sorted {d : Array (List UInt8)} (hs : ∀ i j, i ≤ j → j < d.size → d[i]! ≤ d[j]!) : ∀ m, m ≤ d.size → (compactUpTo d m).Pairwise (· < ·) ∧ ∀ x, x ∈ compactUpTo d m ↔ ∃ j, j < m ∧ d[j]! = x
  | 0, _ => ⟨by simp [compactUpTo], fun x => by simp [compactUpTo]⟩
  | m + 1, hm => by
    obtain ⟨h1, h2⟩ := compactUpTo_sorted hs m (by omega)
    rw [compactUpTo_succ]
    by_cases hk : keeps d m = true
    · rw [if_pos hk]
      refine ⟨?_, fun x => ?_⟩
      · rw [List.pairwise_append]
        refine ⟨h1, by simp, fun x hx y hy => ?_⟩
        rw [List.mem_singleton] at hy
        subst hy
        obtain ⟨j, hj, rfl⟩ := (h2 x).1 hx
        have hm0 : 0 < m := by omega
        have hne : d[m - 1]! ≠ d[m]! := by
          intro e
          have := keeps_neg hm0 e.symm
          rw [hk] at this; cases this
        have h3 := lt_of_le_ne (hs (m - 1) m (by omega) (by omega)) hne
        have h4 := hs j (m - 1) (by omega) (by omega)
        rcases Decidable.em (d[j]! = d[m - 1]!) with e | e
        · rw [e]; exact h3
        · exact List.lt_trans (lt_of_le_ne h4 e) h3
      · simp only [List.mem_append, List.mem_singleton, h2]
        constructor
        · rintro (⟨j, hj, rfl⟩ | rfl)
          · exact ⟨j, by omega, rfl⟩
          · exact ⟨m, by omega, rfl⟩
        · rintro ⟨j, hj, rfl⟩
          rcases Nat.lt_or_ge j m with e | e
          · exact .inl ⟨j, e, rfl⟩
          · obtain rfl : j = m := by omega
            exact .inr rfl
    · rw [if_neg hk, List.append_nil]
      refine ⟨h1, fun x => ?_⟩
      rw [h2]
      have hm0 : 0 < m := by
        rcases Nat.eq_zero_or_pos m with e | e
        · subst e; exact absurd (keeps_lt_one d 0 (by decide)) hk
        · exact e
      have heq : d[m]! = d[m - 1]! := by
        rcases Decidable.em (d[m]! = d[m - 1]!) with e | e
        · exact e
        · exact absurd (keeps_pos e) hk
      constructor
      · rintro ⟨j, hj, rfl⟩; exact ⟨j, by omega, rfl⟩
      · rintro ⟨j, hj, rfl⟩
        rcases Nat.lt_or_ge j m with e | e
        · exact ⟨j, e, rfl⟩
        · obtain rfl : j = m := by omega
          exact ⟨j - 1, by omega, heq.symm⟩
theorem srt_sorted (ss : List (List UInt8)) : (srt ss).Pairwise (· < ·) ∧ ∀ x, x ∈ srt ss ↔ x ∈ ss := by
  have tr : ∀ a b c : List UInt8, decide (a ≤ b) = true → decide (b ≤ c) = true → decide (a ≤ c) = true := fun a b c h k => by
    simp only [decide_eq_true_eq] at *
    exact List.le_trans h k
  have tot : ∀ a b : List UInt8, (decide (a ≤ b) || decide (b ≤ a)) = true := fun a b => by
    simp only [Bool.or_eq_true, decide_eq_true_eq]
    exact List.le_total a b
  have s1 := List.pairwise_mergeSort tr tot ss
  obtain ⟨l, hl⟩ : ∃ l, l = ss.mergeSort fun x y => decide (x ≤ y) := ⟨_, rfl⟩
  have hm : ∀ x, x ∈ l ↔ x ∈ ss := fun x => by rw [hl]; exact (List.mergeSort_perm ss _).mem_iff
  rw [← hl] at s1
  unfold srt
  rw [← hl]
  have hg : ∀ j, (h : j < l.length) → l.toArray[j]! = l[j] := fun j h => by simp [h]
  obtain ⟨h1, h2⟩ := compactUpTo_sorted (d := l.toArray) (fun i j hij hj => by
    have hj' : j < l.length := by simpa using hj
    rw [hg i (by omega), hg j hj']
    rcases Nat.lt_or_ge i j with e | e
    · have := List.pairwise_iff_getElem.1 s1 i j (by omega) hj' e
      simpa using this
    · obtain rfl : i = j := by omega
      exact List.le_refl _) l.length (by simp)
  refine ⟨h1, fun x => ?_⟩
  rw [← hm x]
  refine (h2 x).trans ?_
  constructor
  · rintro ⟨j, hj, rfl⟩
    rw [hg j hj]; exact List.getElem_mem _
  · intro hx
    obtain ⟨j, hj, rfl⟩ := List.getElem_of_mem hx
    exact ⟨j, hj, hg j hj⟩
end Go.Spy
namespace Go.Proofs.YtngpjagpeblbjaaGreatDoor
open Go.RowKit Go.Spy Go.Heaped Go.Tour Go.Rx
/-- Words in order, each once. -/
def sortW (l : List ByteArray) : List ByteArray := (srt (l.map bl)).map fun x => ⟨x.toArray⟩
theorem bl_mk (x : List UInt8) : bl ⟨x.toArray⟩ = x := rfl
theorem mk_bl (s : ByteArray) : (⟨(bl s).toArray⟩ : ByteArray) = s := bs_self s
theorem toList_bl (s : ByteArray) : s.toList = bl s := by
  obtain ⟨⟨x⟩⟩ := s
  rw [ByteArray.toList_mk]; rfl
theorem sortW_bl (l : List ByteArray) : (sortW l).map bl = srt (l.map bl) := by
  unfold sortW
  rw [List.map_map]
  conv => rhs; rw [← List.map_id (srt (l.map bl))]
  exact List.map_congr_left fun x _ => bl_mk x
theorem sortW_mem (l : List ByteArray) (x : ByteArray) : x ∈ sortW l ↔ x ∈ l := by
  unfold sortW
  rw [List.mem_map]
  constructor
  · rintro ⟨y, hy, rfl⟩
    obtain ⟨z, hz, rfl⟩ := List.mem_map.1 (((srt_sorted _).2 y).1 hy)
    rw [mk_bl]; exact hz
  · intro hx
    exact ⟨bl x, ((srt_sorted _).2 _).2 (List.mem_map.2 ⟨x, hx, rfl⟩), mk_bl x⟩
theorem sortW_rising (l : List ByteArray) : Rising (sortW l) := by
  have h := (srt_sorted (l.map bl)).1
  unfold Rising sortW
  rw [List.pairwise_map]
  refine h.imp fun {a b} hab => ?_
  rw [ltB_iff, toList_bl, toList_bl, bl_mk, bl_mk]
  exact hab
theorem sortW_len (l : List ByteArray) : (sortW l).length ≤ l.length := by
  have := srt_len (l.map bl)
  unfold sortW
  simpa using this
end Go.Proofs.YtngpjagpeblbjaaGreatDoor
