/-
  The queue seat: Merge.
-/
import Derived.Test.YtlghkcamnfegdaaW22
namespace Go.Proofs.Ytlghkcamnfegdaa
open Go.RowKit Go.Spy Go.Heaped

def MergeAllPost (w : World) (tss : List (List (Int × Int))) (e : Ending) (w' : World) : Prop :=
  ((∀ l ∈ tss, Picked.Rise l) ∧ MergePost w tss.flatten e w') ∨ ((¬ ∀ l ∈ tss, Picked.Rise l) ∧ e = .returned (.tuple #[.slice none 0 0, .int .i64 14]) ∧ Ext w w')
def lookAt (W : World) (tss : List (List (Int × Int))) (i : Value) (wr : World) : Prop := ∃ k : Nat, i = .int .i64 k ∧ k ≤ tss.length ∧ (∀ l ∈ tss.take k, Picked.Rise l) ∧ Ext W wr

set_option maxRecDepth 100000 in
set_option maxHeartbeats 1600000 in
theorem merge_any {w : World} {u : Value} {tss : List (List (Int × Int))} (h1 : RR w u tss) (hl : tss.length ≤ 1000000) (hf : tss.flatten.length ≤ 1000000) :
    Calls Try.prog 12 #[.func (.func 13) #[] #[], u] w fun e w' => MergeAllPost w tss e w' := by
  obtain ⟨ao, ca, rfl, ha⟩ := h1.form
  have hmf : ∀ (fn : Fn) (first cap : Array Value) (w : World), (Instr.makeFunc fn first cap).run Try.prog w = .ok (.func fn first cap) w := fun _ _ _ _ => rfl
  have hfn := func_nil
  go_enter_defers Try.func12, Try.ntmps12
  go_wp2_with fail
  have E0 : Ext w ((w.alloc (.cells #[.slice none 0 0] 26)).alloc (.cells #[.int .i64 0] 29)) := ((Below.refl _ _).alloc (Nat.le_refl _) _).alloc (by simp) _
  have B0 : Blk ((w.alloc (.cells #[.slice none 0 0] 26)).alloc (.cells #[.int .i64 0] 29)) w.heap.size 26 #[.slice none 0 0] := (Blk.new' w 26 _ rfl).alloc _
  have B1 : Blk ((w.alloc (.cells #[.slice none 0 0] 26)).alloc (.cells #[.int .i64 0] 29)) (w.heap.size + 1) 29 #[.int .i64 0] := Blk.new' _ 29 _ (by simp)
  generalize World.alloc _ _ = W at *
  go_loopw [14] (fun i wr => lookAt W tss i wr) (fun i _ => tss.length - (intOf i).toNat)
  case atStart => exact ⟨0, rfl, Nat.zero_le _, by simp, Below.refl _ _⟩
  case round =>
    obtain ⟨k, rfl, hk, hR, hE⟩ := hrel
    have HR := hid hR
    clear hR
    rcases Nat.lt_or_ge k tss.length with hlt | hge
    · have hI : (k : Int) < (tss.length : Int) := by omega
      obtain ⟨g1, rfl⟩ := ha (by omega)
      obtain ⟨ut, hcw, hRl, hgw⟩ := h1.at_ hlt
      have hc : wr.cell? ⟨g1, k, none⟩ = some ut := ((ext_trans E0 hE).cell (p := ⟨g1, k, none⟩) hgw).trans hcw
      clear hcw
      obtain ⟨l, hll⟩ : ∃ l, l = tss[k] := ⟨_, rfl⟩
      rw [← hll] at hRl
      have HL := hid hll
      clear hll
      obtain ⟨al, cl, rfl, hcl, hgl⟩ := slice_form hRl
      have hlen : l.length ≤ 1000000 := by
        have h2 := flatten_len tss (k + 1)
        rw [flatten_take tss k hlt, List.length_append, ← HL.out] at h2
        omega
      obtain ⟨wo, rfl⟩ : ∃ wo : World, wo = wr := ⟨_, rfl⟩
      go_wp2_with fail
      go_loopw [8] (fun i wr => RisesAt W l i wr) (fun i _ => l.length + 1 - (intOf i).toNat)
      case atStart =>
        refine ⟨0, rfl, Nat.zero_le _, ?_, hE⟩
        cases l with
        | nil => exact List.Pairwise.nil
        | cons t ts => exact List.pairwise_singleton _ _
      case round =>
        clear hc hE
        obtain ⟨j, rfl, hj, hT, hE⟩ := hrel
        have HT := hid hT
        clear hT
        rcases Nat.lt_or_ge (j + 1) l.length with hjl | hjg
        · have hI : (j : Int) + 1 < (l.length : Int) := by omega
          have hI0 : (j : Int) < (l.length : Int) := by omega
          have hI1 : (0 : Int) ≤ (j : Int) + 1 := by omega
          have hI2 : ((j : Int) + 1).toNat = j + 1 := by omega
          obtain ⟨gl, rfl⟩ := hgl (by omega)
          obtain ⟨x, hx⟩ : ∃ x, x = l[j] := ⟨_, rfl⟩
          obtain ⟨y, hy⟩ : ∃ y, y = l[j + 1] := ⟨_, rfl⟩
          have hRr := hRl.ext (ext_trans E0 hE)
          obtain ⟨c0, c1⟩ := pair_cells hRr (j := j) (x := x) (by rw [hx]; exact List.getElem?_eq_getElem (by omega))
          obtain ⟨e0, e1⟩ := pair_cells hRr (j := j + 1) (x := y) (by rw [hy]; exact List.getElem?_eq_getElem hjl)
          obtain ⟨x1, x2⟩ := x
          obtain ⟨y1, y2⟩ := y
          dsimp only at c0 c1 e0 e1
          have HX : Hid (l[j].1 = x1) := hid (by rw [← hx])
          have HY : Hid (l[j + 1].1 = y1) := hid (by rw [← hy])
          clear hx hy hRr
          have hw : IntKind.i64.wrap ((j : Int) + 1 - 1) = j := by rw [IntWalk.i64_in _ (by omega)]; omega
          have hw2 : IntKind.i64.wrap (j : Int) = j := IntWalk.i64_in _ (by omega)
          obtain ⟨c, hcc⟩ : ∃ c, c = cmpI x1 y1 := ⟨_, rfl⟩
          have HC := hid hcc
          by_cases hle : x1 ≤ y1
          · have hd : decide (0 < c) = false := by have := Picked.cmpI_nonpos.2 hle; exact decide_eq_false (by rw [hcc]; exact Int.not_lt.2 this)
            clear hcc
            go_wp2_with fail
            go_still_tail 10, (by kernel_rfl)
            change wpList _ _ _ _ _ wr.drew
            go_wp2_with (go_at_call 13; refine (order_is x1 x2 y1 y2 c HC wr.drew).mono ?_; rintro e w2 ⟨rfl, hE2⟩)
            refine ⟨⟨j + 1, by go_num, by omega, ?_, ext_trans hE (ext_trans (Below.refl _ wr).drew hE2)⟩, by simp [intOf]; omega⟩
            rw [rise_step hjl HT.out, HX.out, HY.out]
            exact hle
          · have hd : decide (0 < c) = true := by
              have := Picked.cmpI_neg.2 (show y1 < x1 by omega)
              have h2 := Picked.cmpI_anti x1 y1
              exact decide_eq_true (by rw [hcc]; show 0 < Picked.cmpI x1 y1; omega)
            clear hcc
            go_wp2_with fail
            go_still_tail 10, (by kernel_rfl)
            change wpList _ _ _ _ _ wr.drew
            go_wp2_with (go_at_call 13; refine (order_is x1 x2 y1 y2 c HC wr.drew).mono ?_; rintro e w2 ⟨rfl, hE2⟩; have hE3 : Ext W w2 := ext_trans hE (ext_trans (Below.refl _ wr).drew hE2); have k0 : w2.cell? ⟨w.heap.size, 0, none⟩ = some (.slice none 0 0) := (B0.ext hE3).cell rfl; have k1 : w2.cell? ⟨w.heap.size + 1, 0, none⟩ = some (.int .i64 0) := (B1.ext hE3).cell rfl; have f0 := (B0.ext hE3).frozen 0; have f1 := (B1.ext hE3).frozen 0)
            refine leaves_cons (f := 26) (args := #[.pointer (some ⟨w.heap.size, 0, none⟩), .pointer (some ⟨w.heap.size + 1, 0, none⟩)]) (by simp) (by simp [go_sem]) ?_
            refine (merge_idle _ _ _).mono ?_
            rintro e u' w'' ⟨rfl, rfl, rfl⟩
            have z0 : ((w2.setCell ⟨w.heap.size, 0, none⟩ (.slice none 0 0)).setCell ⟨w.heap.size + 1, 0, none⟩ (.int .i64 14)).cell? ⟨w.heap.size, 0, none⟩ = some (.slice none 0 0) :=
              (((B0.ext hE3).set 0 (.slice none 0 0)).setOther (a := ⟨w.heap.size + 1, 0, none⟩) (by simp) _).cell rfl
            have z1 : ((w2.setCell ⟨w.heap.size, 0, none⟩ (.slice none 0 0)).setCell ⟨w.heap.size + 1, 0, none⟩ (.int .i64 14)).cell? ⟨w.heap.size + 1, 0, none⟩ = some (.int .i64 14) :=
              (((B1.ext hE3).setOther (a := ⟨w.heap.size, 0, none⟩) (by simp) (.slice none 0 0)).set 0 (.int .i64 14)).cell rfl
            refine ⟨_, by simp [results, Try.results12, go_sem, z0, z1], .inr ⟨fun hall => ?_, rfl, ((ext_trans E0 hE3).setCell (by simp) _).setCell (by simp) _⟩⟩
            have hr := hall l (by rw [HL.out]; exact List.getElem_mem _)
            have := (rise_step hjl HT.out).1 (rise_take hr)
            rw [HX.out, HY.out] at this
            omega
        · have hJ : decide ((j : Int) + 1 < (l.length : Int)) = false := decide_eq_false (by omega)
          have hT2 : ∀ m ∈ tss.take (k + 1), Picked.Rise m := by
            have h2 := HT.out
            rw [List.take_of_length_le hjg] at h2
            rw [List.take_succ_eq_append_getElem hlt]
            intro m hm
            simp only [List.mem_append, List.mem_singleton] at hm
            rcases hm with hm | rfl
            · exact HR.out m hm
            · rw [← HL.out]; exact h2
          have HT2 := hid hT2
          clear hT2
          go_wp2_with fail
          exact ⟨⟨k + 1, by go_num, by omega, HT2.out, hE⟩, by simp [intOf]; omega⟩
    · have hI : decide (k < tss.length) = false := decide_eq_false (by omega)
      have hall : ∀ l ∈ tss, Picked.Rise l := by
        have h2 := HR.out
        rwa [List.take_of_length_le hge] at h2
      have HA := hid hall
      clear hall
      have hRR := h1.ext (ext_trans E0 hE)
      have hzE := hE.size
      have hb1 := B1.lt
      go_wp2_with (go_at_call 27; refine (merged_any hRR hl hf).mono ?_; rintro e w2 ⟨v, out, rfl, hSel, hO, hE2⟩; obtain ⟨av, cv, rfl, _, _⟩ := slice_form hO; have hE3 : Ext W w2 := ext_trans hE hE2; have k0 : w2.cell? ⟨w.heap.size, 0, none⟩ = some (.slice none 0 0) := (B0.ext hE3).cell rfl; have k1 : w2.cell? ⟨w.heap.size + 1, 0, none⟩ = some (.int .i64 0) := (B1.ext hE3).cell rfl; have f0 := (B0.ext hE3).frozen 0; have f1 := (B1.ext hE3).frozen 0; have HO := hid hO; clear hO)
      refine leaves_cons (f := 26) (args := #[.pointer (some ⟨w.heap.size, 0, none⟩), .pointer (some ⟨w.heap.size + 1, 0, none⟩)]) (by simp) (by simp [go_sem]) ?_
      refine (merge_idle _ _ _).mono ?_
      rintro e u' w'' ⟨rfl, rfl, rfl⟩
      have z0 : ((w2.setCell ⟨w.heap.size, 0, none⟩ (.slice av out.length cv)).setCell ⟨w.heap.size + 1, 0, none⟩ (.int .i64 0)).cell? ⟨w.heap.size, 0, none⟩ = some (.slice av out.length cv) :=
        (((B0.ext hE3).set 0 (.slice av out.length cv)).setOther (a := ⟨w.heap.size + 1, 0, none⟩) (by simp) _).cell rfl
      have z1 : ((w2.setCell ⟨w.heap.size, 0, none⟩ (.slice av out.length cv)).setCell ⟨w.heap.size + 1, 0, none⟩ (.int .i64 0)).cell? ⟨w.heap.size + 1, 0, none⟩ = some (.int .i64 0) :=
        (((B1.ext hE3).setOther (a := ⟨w.heap.size, 0, none⟩) (by simp) (.slice av out.length cv)).set 0 (.int .i64 0)).cell rfl
      refine ⟨.tuple #[.slice av out.length cv, .int .i64 0], by simp [results, Try.results12, go_sem, z0, z1], .inl ⟨HA.out, _, out, rfl, hSel, ?_, ((ext_trans E0 hE3).setCell (by simp) _).setCell (by simp) _⟩⟩
      have hlt' := HO.out.lt
      refine owns_setOther (owns_setOther (owns_base HO.out (by omega)) (p := ⟨w.heap.size, 0, none⟩) (fun e => ?_) _) (p := ⟨w.heap.size + 1, 0, none⟩) (fun e => ?_) _
      · have := (hlt' _ e).1; dsimp only at this; omega
      · have := (hlt' _ e).1; dsimp only at this; omega
end Go.Proofs.Ytlghkcamnfegdaa
