/-
  The queue seat: what lists come to, or that one does not rise.
-/
import Derived.Test.YtlghkcamnfegdaaN1
namespace Go.Proofs.Ytlghkcamnfegdaa
open Go.RowKit Go.Spy Go.Heaped

/-- The slice value reads as rows of numbers. -/
structure IntRowsV (w : World) (ao : Option Addr) (xss : List (List Int)) : Prop where
  len : xss.length ≤ 9223372036854775807
  cells : 0 < xss.length → ∃ b off, ao = some ⟨b, off, none⟩ ∧ b < w.heap.size ∧ ∀ i (h : i < xss.length), ∃ a c, w.cell? ⟨b, off + i, none⟩ = some (.slice a xss[i].length c) ∧ IntsV w a xss[i]
theorem IntRowsV.ext {w w' : World} {ao : Option Addr} {xss : List (List Int)} (h : IntRowsV w ao xss) (e : Ext w w') : IntRowsV w' ao xss where
  len := h.len
  cells h0 := by
    obtain ⟨b, off, ha, hb, hc⟩ := h.cells h0
    refine ⟨b, off, ha, Nat.lt_of_lt_of_le hb e.size, fun i hi => ?_⟩
    obtain ⟨a, c, h1, h2⟩ := hc i hi
    exact ⟨a, c, (e.cell (p := ⟨b, off + i, none⟩) hb).trans h1, h2.ext e⟩

def rows (xss : List (List Int)) : List (List (Int × Int)) := xss.mapIdx fun i xs => madeL xs (100 * i)
theorem rows_len (xss : List (List Int)) : (rows xss).length = xss.length := by simp [rows]
theorem rows_take (xss : List (List Int)) (k : Nat) (h : k < xss.length) : (rows xss).take (k + 1) = (rows xss).take k ++ [madeL xss[k] (100 * k)] := by
  rw [List.take_succ_eq_append_getElem (by rw [rows_len]; exact h)]
  simp [rows]
theorem rows_small {xss : List (List Int)} (h : xss.length ≤ 10) (hs : ∀ j (hj : j < xss.length), xss[j].length ≤ 40) : (rows xss).flatten.length ≤ 400 := by
  have : ∀ (l : List (List (Int × Int))), (∀ x ∈ l, x.length ≤ 40) → l.flatten.length ≤ 40 * l.length := by
    intro l hl
    induction l with
    | nil => simp
    | cons a l ih =>
      have h1 := hl a (by simp)
      have h2 := ih (fun x hx => hl x (by simp [hx]))
      simp only [List.flatten_cons, List.length_append, List.length_cons]
      omega
  have h1 := this (rows xss) (fun x hx => by
    obtain ⟨j, hj, rfl⟩ := List.getElem_of_mem hx
    rw [rows_len] at hj
    simp only [rows, List.getElem_mapIdx, madeL_len]
    exact hs j hj)
  rw [rows_len] at h1
  omega

/-- Lists that the call has made. -/
def RO (w wr : World) (v : Value) (tss : List (List (Int × Int))) : Prop :=
  ∃ vs : List Value, wr.ownsRow w.heap.size 26 1 v tss.length vs ∧ vs.length = tss.length ∧ ∀ (i : Nat) (u : Value) (ts : List (Int × Int)), vs[i]? = some u → tss[i]? = some ts → R wr u ts
theorem RO.rr {w wr : World} {v : Value} {tss : List (List (Int × Int))} (h : RO w wr v tss) : RR wr v tss := by
  obtain ⟨vs, h1, h2, h3⟩ := h
  exact ⟨vs, owns_base h1 (Nat.zero_le _), h2, h3⟩
theorem RO.nil (w wr : World) : RO w wr (.slice none 0 0) [] := ⟨[], World.ownsRow_nil _ _ 26 1, rfl, fun i u ts hu _ => by simp at hu⟩
theorem RO.ext {w wr w' : World} {v : Value} {tss : List (List (Int × Int))} (h : RO w wr v tss) (e : Ext wr w') : RO w w' v tss := by
  obtain ⟨vs, h1, h2, h3⟩ := h
  exact ⟨vs, owns_chg (S := fun _ => False) h1 (Chg.of_ext e) (fun _ _ x => x), h2, fun i u ts hu ht => (h3 i u ts hu ht).ext e⟩

theorem Try.info26 : (Try.prog.info? 26).map (fun i => (i.zero, i.size, i.bytes)) = some (some (.slice none 0 0), 1, 24) := by kernel_rfl
/-- A list comes behind lists, as the walk takes it. -/
theorem wpList_list {w w0 : World} {v : Value} {tss : List (List (Int × Int))} (hown : Hid (RO w w0 v tss)) (hE : Ext w w0) (hn : tss.length + 1 ≤ 1000000000) (t : List (Int × Int)) (a0 : Option Addr) (n0 c0 : Nat) (hR : Hid (R w0 (.slice a0 n0 c0) t)) (H : Nat) (hH : w0.heap.size = H)
    {ops : Array Oper} {rest : List Oper} {o : Oper} {a : Act} {Q : Exit → Act → World → Prop} (hgd : o.guard = none) (s x : Operand)
    (ho : o.op = .call { callee := .builtin .append, args := #[s, x], argTypes := #[24, 24] }) (hs : a.eval s = v) (hx : a.eval x = .slice (some ⟨H, 0, none⟩) 1 1)
    (hK : ∀ (g cap : Nat) (v' : Value) (w4 : World), v' = .slice (some ⟨g, 0, none⟩) (tss.length + 1) cap → Hid (RO w w4 v' (tss ++ [t]) ∧ Ext w w4 ∧ R w4 (.slice a0 n0 c0) t) →
      wpList Try.prog ops Q rest (a.put o.dst v') w4) :
    wpList Try.prog ops Q (o :: rest) a (w0.alloc (.cells #[.slice a0 n0 c0] 26)) := by
  subst hH
  obtain ⟨i0, hti, hz0, hz1, hz2⟩ := info_parts Try.info26
  obtain ⟨vs, h1, h2, h3⟩ := hown.out
  have hsz := hE.size
  refine wpList_append_lies _ hgd s x 24 ho w.heap.size 26 i0 _ 1 24 Try.underlying24 hti hz0 hz1 hz2 rfl (by decide) v tss.length vs hs (h1.alloc _) ⟨w0.heap.size, 0, none⟩ 1 1 [.slice a0 n0 c0] hx rfl ?_ ?_ (by decide) (by unfold maxLen; omega) (by omega) (by simp; omega) _ rfl ?_
  · intro k u hu
    have hb := Blk.new w0 26 #[.slice a0 n0 c0]
    match k, hu with
    | 0, hu => exact hb.cell hu
  · intro u hu
    simp at hu
    subst hu; rfl
  · intro g cap w4 k1 k2 k3 k4
    have hg : w0.grownBy w4 v.ownBlock := ⟨k2.os, k2.tape, k2.output, Nat.le_trans (by simp) k2.size, fun k hk hr => (k2.block k (by simp; omega) hr).trans (Below.heap_alloc _ _ _ hk)⟩
    have hc : Chg (fun k => v.ownBlock = some k) w0 w4 := (Chg.refl _ _).grown hg (fun k e => e)
    have hnS : ∀ k cur, Blk w0 k 33 cur → ¬ v.ownBlock = some k := fun k cur hb e => by
      obtain ⟨cur2, hb2⟩ := own_type h1 e
      exact blk_ne hb hb2 (by decide) rfl
    refine hK g cap _ w4 rfl (hid ⟨⟨vs ++ [.slice a0 n0 c0], ?_, by simp [h2], fun i u ts hu ht => ?_⟩, ext_grown hE hg (fun k hk => (h1.lt k hk).1), hR.out.chg hc hnS⟩)
    · rw [List.length_append]; exact k1
    · rcases Nat.lt_or_ge i tss.length with hi | hi
      · rw [List.getElem?_append_left (by omega)] at hu
        rw [List.getElem?_append_left hi] at ht
        exact (h3 i u ts hu ht).chg hc hnS
      · have : i = tss.length := by
          have := (List.getElem?_eq_some_iff.1 ht).1
          simp at this; omega
        subst this
        rw [← h2] at hu
        simp at hu ht
        subst hu ht
        exact hR.out.chg hc hnS

def mergesAt (w : World) (xss : List (List Int)) (v r i : Value) (wr : World) : Prop :=
  ∃ (k : Nat) (b : Bool), i = .int .i64 k ∧ k ≤ xss.length ∧ r = .bool b ∧ (b = true ↔ ∀ l ∈ (rows xss).take k, Picked.Rise l) ∧ (∀ j (h : j < xss.length), j < k → xss[j].length ≤ 40) ∧ RO w wr v ((rows xss).take k) ∧ Ext w wr

set_option maxRecDepth 100000 in
set_option maxHeartbeats 3200000 in
theorem merges_any {w : World} {ao : Option Addr} {ca : Nat} {xss : List (List Int)} (h1 : IntRowsV w ao xss) :
    Calls Try.prog 3 #[.slice ao xss.length ca] w fun e w' => e = .returned (.bool true) ∧ Ext w w' := by
  by_cases hl : 10 < xss.length
  · have q1 : (10 : Int) < (xss.length : Int) := by omega
    go_enter Try.func3, Try.ntmps3
    go_wp2_with (go_at_call 9; refine (awake_any _).mono ?_; rintro e w1 ⟨rfl, k1⟩)
    go_ret
    exact ⟨rfl, k1⟩
  · have q1 : decide ((10 : Int) < (xss.length : Int)) = false := decide_eq_false (by omega)
    go_enter Try.func3, Try.ntmps3
    go_wp2_with fail
    go_loopw [3, 4, 5] (fun v r i wr => mergesAt w xss v r i wr) (fun _ _ i _ => xss.length - (intOf i).toNat)
    case atStart => exact ⟨0, true, rfl, Nat.zero_le _, rfl, by simp, fun j _ h => by omega, RO.nil _ _, Below.refl _ _⟩
    case round =>
      obtain ⟨k, b, rfl, hk, rfl, hb, hs, hO, hE⟩ := hrel
      have HB := hid hb
      have HS := hid hs
      have HO := hid hO
      clear hb hs hO
      rcases Nat.lt_or_ge k xss.length with hlt | hge
      · have hI : decide (k < xss.length) = true := decide_eq_true hlt
        obtain ⟨bb, off, rfl, hbb, hc⟩ := (h1.ext hE).cells (by omega)
        obtain ⟨ax, cx, hcx, hX⟩ := hc k hlt
        clear hc
        obtain ⟨xs, hxs⟩ : ∃ xs, xs = xss[k] := ⟨_, rfl⟩
        rw [← hxs] at hcx hX
        have HX := hid hxs
        clear hxs
        by_cases hlong : 40 < xs.length
        · have q2 : (40 : Int) < (xs.length : Int) := by omega
          go_wp2_with (go_at_call 9; refine (awake_any _).mono ?_; rintro e w1 ⟨rfl, k1⟩)
          go_ret
          exact ⟨rfl, ext_trans hE k1⟩
        · have q2 : ¬ (40 : Int) < (xs.length : Int) := by omega
          cases b
          · go_wp2_with (first | (go_at_call 10; refine (made_any (cap := cx) hX (100 * (k : Int)) (by omega) (by omega) (by omega)).mono ?_; rintro e w2 ⟨v2, rfl, hv2, e2⟩; have hv2 := owns_R hv2; obtain ⟨a2, c2, rfl, _, _⟩ := slice_form hv2; have HO2 := hid (HO.out.ext e2); have hE2 := ext_trans hE e2; rw [madeL_len] at hv2 ⊢; have HV := hid hv2; clear hv2; have hkl : ((rows xss).take k).length + 1 ≤ 1000000000 := (by rw [List.length_take]; omega)) | (at_builtin; refine wpList_list HO2 hE2 hkl (madeL xs (100 * (k : Int))) a2 xs.length c2 HV _ rfl rfl _ _ rfl rfl rfl ?_; rintro g' cap' v' w4 rfl HG; have hRx := HG.out.2.2))
            refine ⟨⟨k + 1, false, by go_num, by omega, rfl, ?_, ?_, ?_, HG.out.2.1⟩, by simp [intOf]; omega⟩
            · rw [rows_take xss k hlt, ← HX.out]
              simp only [Bool.false_eq_true, false_iff]
              intro hall
              exact absurd (HB.out.2 (fun l hl => hall l (by simp [hl]))) (by simp)
            · intro j hj hjk
              rcases Nat.lt_or_ge j k with c | c
              · exact HS.out j hj c
              · have : j = k := by omega
                subst this
                rw [← HX.out]; omega
            · have hG := HG.out.1; rw [List.length_take] at hG; rw [rows_take xss k hlt, ← HX.out]; exact hG
          · by_cases hr : Picked.Rise (madeL xs (100 * (k : Int)))
            · have hrs : risesB (madeL xs (100 * (k : Int))) = true := decide_eq_true hr
              have HRS := hid hr
              clear hr
              go_wp2_with (first | (go_at_call 10; refine (made_any (cap := cx) hX (100 * (k : Int)) (by omega) (by omega) (by omega)).mono ?_; rintro e w2 ⟨v2, rfl, hv2, e2⟩; have hv2 := owns_R hv2; obtain ⟨a2, c2, rfl, _, _⟩ := slice_form hv2; have HO2 := hid (HO.out.ext e2); have hE2 := ext_trans hE e2; rw [madeL_len] at hv2 ⊢; have HV := hid hv2; clear hv2; have hkl : ((rows xss).take k).length + 1 ≤ 1000000000 := (by rw [List.length_take]; omega)) | (at_builtin; refine wpList_list HO2 hE2 hkl (madeL xs (100 * (k : Int))) a2 xs.length c2 HV _ rfl rfl _ _ rfl rfl rfl ?_; rintro g' cap' v' w4 rfl HG; have hRx := HG.out.2.2) | (go_at_call 11; refine (rises_any hRx (by rw [madeL_len]; omega)).mono ?_; rintro e w5 ⟨rfl, e5⟩; rw [hrs]))
              refine ⟨⟨k + 1, true, by go_num, by omega, rfl, ?_, ?_, ?_, ext_trans HG.out.2.1 e5⟩, by simp [intOf]; omega⟩
              · rw [rows_take xss k hlt, ← HX.out]
                simp only [true_iff]
                intro l hl
                simp only [List.mem_append, List.mem_singleton] at hl
                rcases hl with hl | rfl
                · exact HB.out.1 (by simp) l hl
                · exact HRS.out
              · intro j hj hjk
                rcases Nat.lt_or_ge j k with c | c
                · exact HS.out j hj c
                · have : j = k := by omega
                  subst this
                  rw [← HX.out]; omega
              · have hG := HG.out.1.ext e5; rw [List.length_take] at hG; rw [rows_take xss k hlt, ← HX.out]; exact hG
            · have hrs : risesB (madeL xs (100 * (k : Int))) = false := decide_eq_false hr
              have HRS := hid hr
              clear hr
              go_wp2_with (first | (go_at_call 10; refine (made_any (cap := cx) hX (100 * (k : Int)) (by omega) (by omega) (by omega)).mono ?_; rintro e w2 ⟨v2, rfl, hv2, e2⟩; have hv2 := owns_R hv2; obtain ⟨a2, c2, rfl, _, _⟩ := slice_form hv2; have HO2 := hid (HO.out.ext e2); have hE2 := ext_trans hE e2; rw [madeL_len] at hv2 ⊢; have HV := hid hv2; clear hv2; have hkl : ((rows xss).take k).length + 1 ≤ 1000000000 := (by rw [List.length_take]; omega)) | (at_builtin; refine wpList_list HO2 hE2 hkl (madeL xs (100 * (k : Int))) a2 xs.length c2 HV _ rfl rfl _ _ rfl rfl rfl ?_; rintro g' cap' v' w4 rfl HG; have hRx := HG.out.2.2) | (go_at_call 11; refine (rises_any hRx (by rw [madeL_len]; omega)).mono ?_; rintro e w5 ⟨rfl, e5⟩; rw [hrs]))
              refine ⟨⟨k + 1, false, by go_num, by omega, rfl, ?_, ?_, ?_, ext_trans HG.out.2.1 e5⟩, by simp [intOf]; omega⟩
              · rw [rows_take xss k hlt, ← HX.out]
                simp only [Bool.false_eq_true, false_iff]
                intro hall
                exact HRS.out (hall _ (by simp))
              · intro j hj hjk
                rcases Nat.lt_or_ge j k with c | c
                · exact HS.out j hj c
                · have : j = k := by omega
                  subst this
                  rw [← HX.out]; omega
              · have hG := HG.out.1.ext e5; rw [List.length_take] at hG; rw [rows_take xss k hlt, ← HX.out]; exact hG
      · have hI : decide (k < xss.length) = false := decide_eq_false (by omega)
        have hO2 := HO.out.rr
        have hb2 := HB.out
        rw [List.take_of_length_le (by rw [rows_len]; exact hge)] at hO2 hb2
        have HB2 := hid hb2
        have hfl := rows_small (xss := xss) (by omega) (fun j hj => HS.out j hj (by omega))
        have hrl := rows_len xss
        have hrl2 : (rows xss).length ≤ 1000000 := by omega
        clear hb2 HB HO hrl
        generalize rows xss = tss at *
        obtain ⟨aL, cL, rfl, _⟩ := hO2.form
        cases b
        · go_wp2_with fail
          go_at_call 12
          refine (merge_any hO2 hrl2 (by omega)).mono ?_
          rintro e w2 (⟨hr, _⟩ | ⟨_, rfl, e2⟩)
          · exact absurd (HB2.out.2 hr) (by simp)
          · go_wp2_with (go_at_call 9; refine (awake_any _).mono ?_; rintro e w3 ⟨rfl, e3⟩)
            go_ret
            exact ⟨rfl, ext_trans hE (ext_trans e2 e3)⟩
        · go_wp2_with fail
          go_at_call 12
          refine (merge_any hO2 hrl2 (by omega)).mono ?_
          rintro e w2 (⟨_, v, out, rfl, hS, hv, e2⟩ | ⟨hr, _⟩)
          · have hv := owns_R hv
            have hlo := hS.length
            have hlo2 : out.length ≤ 400 := by omega
            obtain ⟨a2, c2, rfl, _, _⟩ := slice_form hv
            have hO3 := hO2.ext e2
            have HS2 := hid hS
            clear hS hlo
            go_wp2_with fail
            go_at_call 15
            refine (refMerge_any hO3 hrl2 (by omega)).mono ?_
            rintro e w3 ⟨v3, out3, rfl, hS3, hv3, e3⟩
            have hv3 : R w3 v3 out3 := owns_R hv3
            obtain rfl : out = out3 := HS2.out.unique Picked.cmpI_anti hS3
            have hv2 := hv.ext e3
            obtain ⟨a3, c3, rfl, _, _⟩ := slice_form hv3
            clear hS3
            go_wp2_with fail
            go_at_call 14
            refine (things_any hv2 hv3 (by omega) (by omega)).mono ?_
            rintro e w4 ⟨rfl, e4⟩
            rw [show decide (out = out) = true by simp]
            go_wp2_with (go_at_call 9; refine (awake_any _).mono ?_; rintro e w5 ⟨rfl, e5⟩)
            go_ret
            exact ⟨rfl, ext_trans hE (ext_trans e2 (ext_trans e3 (ext_trans e4 e5)))⟩
          · exact absurd (HB2.out.1 (by simp)) hr
end Go.Proofs.Ytlghkcamnfegdaa
