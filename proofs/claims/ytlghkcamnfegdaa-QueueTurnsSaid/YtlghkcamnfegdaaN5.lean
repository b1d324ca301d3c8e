/-
  The queue seat: what each call answers, and how many things there are.
-/
import Derived.Test.YtlghkcamnfegdaaN4
namespace Go.Proofs.Ytlghkcamnfegdaa
open Go.RowKit Go.Spy Go.Heaped

/-- The slice value reads as calls: what is asked, and the rank. -/
structure OpsV (w : World) (ao : Option Addr) (xs : List (Int × Int)) : Prop where
  len : xs.length ≤ 9223372036854775807
  cells : 0 < xs.length → ∃ b off, ao = some ⟨b, off, none⟩ ∧ b < w.heap.size ∧ ∀ i (h : i < xs.length), w.cell? ⟨b, off + i * 2, none⟩ = some (.int .i64 xs[i].1) ∧ w.cell? ⟨b, off + i * 2 + 1, none⟩ = some (.int .i64 xs[i].2)
theorem OpsV.ext {w w' : World} {ao : Option Addr} {xs : List (Int × Int)} (h : OpsV w ao xs) (e : Ext w w') : OpsV w' ao xs where
  len := h.len
  cells h0 := by
    obtain ⟨b, off, ha, hb, hc⟩ := h.cells h0
    exact ⟨b, off, ha, Nat.lt_of_lt_of_le hb e.size, fun i hi => ⟨(e.cell (p := ⟨b, off + i * 2, none⟩) hb).trans (hc i hi).1, (e.cell (p := ⟨b, off + i * 2 + 1, none⟩) hb).trans (hc i hi).2⟩⟩

theorem putB {w wr : World} {ts : List (Int × Int)} {n : Nat} (h : QA w wr ts n) (t : Int × Int) (hl : ts.length + 1 ≤ 1000000) (hn : n ≤ 1000000) :
    Calls Try.prog 18 #[.pointer (some ⟨w.heap.size + 1, 0, none⟩), thingV t] wr fun e w' => e = .returned (.int .i64 0) ∧ QA w w' (ts ++ [t]) (n + 1) ∧ Stands wr w' := by
  obtain ⟨S, h1, h2, h3⟩ := h
  refine (putQ ord13 fn13 h1 t (by omega) (by omega)).mono ?_
  rintro e w' ⟨rfl, hg⟩
  exact ⟨rfl, QA.goes h2 h3 hg, fun k t cur hb t1 t2 t3 => hb.chg hg.choose_spec.2.chg (h1.not_type hb t1 t2 t3)⟩
theorem owns_stands {w w' : World} {base n size : Nat} {e : TypeId} {v : Value} {xs : List Value} (h : w.ownsRow base e size v n xs) (s : Stands w w') (h1 : e ≠ 69) (h2 : e ≠ 62) (h3 : e ≠ 85) : w'.ownsRow base e size v n xs := by
  refine ⟨h.1, ?_⟩
  rcases h.2 with h0 | ⟨g, cap, cur, rfl, hb, hg, rest⟩
  · exact .inl h0
  · exact .inr ⟨g, cap, cur, rfl, hb, s g e cur hg h1 h2 h3, rest⟩

theorem first_none {w : World} {u : Value} (h1 : R w u []) : Calls Try.prog 21 #[u] w fun e w' => e = .returned (.int .i64 (-1)) ∧ Ext w w' := by
  refine (first_any h1 (by simp)).mono ?_
  rintro e w' ⟨⟨_, rfl⟩ | ⟨i, x, hF, _⟩, hE⟩
  · exact ⟨rfl, hE⟩
  · have := hF.at_; simp at this
theorem peekB_none {w wr : World} {n : Nat} (h : QA w wr [] n) :
    Calls Try.prog 22 #[.pointer (some ⟨w.heap.size + 1, 0, none⟩)] wr fun e w' => e = .returned (.tuple #[.agg #[.int .i64 0, .int .i64 0], .int .i64 16]) ∧ Ext wr w' := by
  obtain ⟨S, h1, _, _⟩ := h
  exact peekQ_none h1

def playAt (w : World) (n : Nat) (v i : Value) (wr : World) : Prop :=
  ∃ (k c : Nat) (ts : List (Int × Int)), i = .int .i64 k ∧ k ≤ n ∧ ts.length ≤ k ∧ c ≤ k ∧ QA w wr ts c ∧ wr.ownsRow w.heap.size 33 2 v ts.length (ts.flatMap pairC)

set_option maxRecDepth 100000 in
theorem plays_long {w : World} {ao : Option Addr} {ca n : Nat} (hl : 100 < n) :
    Calls Try.prog 6 #[.slice ao n ca] w fun e w' => e = .returned (.bool true) ∧ Ext w w' := by
  have q1 : (100 : Int) < (n : Int) := by omega
  go_enter Try.func6, Try.ntmps6
  go_wp2_with (first | (go_at_call 16; refine (newA w).mono ?_; rintro e w1 ⟨rfl, hQ0⟩) | (go_at_call 9; refine (awake_any _).mono ?_; rintro e w4 ⟨rfl, k1⟩))
  go_ret
  exact ⟨rfl, ext_trans hQ0.le k1⟩

set_option maxRecDepth 100000 in
set_option maxHeartbeats 12800000 in
theorem plays_any {w : World} {ao : Option Addr} {ca : Nat} {xs : List (Int × Int)} (h1 : OpsV w ao xs) (hl : xs.length ≤ 100) :
    Calls Try.prog 6 #[.slice ao xs.length ca] w fun e w' => e = .returned (.bool true) ∧ Ext w w' := by
  have q1 : decide ((100 : Int) < (xs.length : Int)) = false := decide_eq_false (by omega)
  go_enter Try.func6, Try.ntmps6
  go_wp2_with (go_at_call 16; refine (newA w).mono ?_; rintro e w1 ⟨rfl, hQ0⟩)
  go_loopw [5, 6] (fun v i wr => playAt w xs.length v i wr) (fun _ i _ => xs.length - (intOf i).toNat)
  case atStart => exact ⟨0, 0, [], rfl, Nat.zero_le _, Nat.le_refl _, Nat.le_refl _, hQ0, World.ownsRow_nil _ _ 33 2⟩
  case round =>
    clear hQ0
    obtain ⟨k, c, ts, rfl, hk, htk, hck, hQ, hO⟩ := hrel
    have HO := hid hO
    clear hO
    have hwz := hQ.le.size
    rcases Nat.lt_or_ge k xs.length with hlt | hge
    · have hI : decide (k < xs.length) = true := decide_eq_true hlt
      obtain ⟨bb, off, rfl, hbb, hc⟩ := h1.cells (by omega)
      obtain ⟨hw0, hw1⟩ := hc k hlt
      clear hc
      obtain ⟨x, hx⟩ : ∃ x, x = xs[k] := ⟨_, rfl⟩
      rw [← hx] at hw0 hw1
      clear hx
      obtain ⟨ask, rank⟩ := x
      dsimp only at hw0 hw1
      have HW0 := hid hw0
      have hc0 : wr.cell? ⟨bb, off + k * 2, none⟩ = some (.int .i64 ask) := (hQ.le.cell (p := ⟨bb, off + k * 2, none⟩) hbb).trans hw0
      have hc1 : wr.cell? ⟨bb, off + k * 2 + 1, none⟩ = some (.int .i64 rank) := (hQ.le.cell (p := ⟨bb, off + k * 2 + 1, none⟩) hbb).trans hw1
      have hbw := Nat.lt_of_lt_of_le hbb hwz
      clear hw0 hw1
      by_cases ha0 : ask = 0
      · subst ha0
        have HOa := hid (HO.out.alloc (.cells #[.int .i64 rank, .int .i64 k] 33))
        have hQa := hQ.ext ((Below.refl _ wr).alloc (Nat.le_refl _) (.cells #[.int .i64 rank, .int .i64 k] 33))
        have hsz3 : w.heap.size ≤ (wr.alloc (.cells #[.int .i64 rank, .int .i64 k] 33)).heap.size := by simp; omega
        have D0 := Blk.new wr 33 #[.int .i64 rank, .int .i64 k]
        go_wp2_with (first | (at_builtin; refine wpList_thing HOa hsz3 (by omega) (rank, (k : Int)) (wr.heap.size + 1) (by simp) rfl _ _ rfl rfl rfl ?_; rintro g' cap' v' w4 rfl H1 H2; have D4 := D0.grown H2.out.1 (fun e => by have := (HO.out.lt _ e.symm).2; omega); have hd0 : w4.cell? ⟨wr.heap.size, 0, none⟩ = some (.int .i64 rank) := D4.cell rfl; have hd1 : w4.cell? ⟨wr.heap.size, 0 + 1, none⟩ = some (.int .i64 k) := D4.cell rfl; have hd2 : w4.cell? ⟨wr.heap.size, 1, none⟩ = some (.int .i64 k) := D4.cell rfl; have hQ4 := hQa.grown H2.out.1 (fun i hi => ⟨(HO.out.lt i hi).1, own_type HOa.out hi⟩)) | (go_at_call 18; refine (putB hQ4 (rank, (k : Int)) (by omega) (by omega)).mono ?_; rintro e w5 ⟨rfl, hQ5, hSt⟩) | (go_at_call 20; refine (lenB hQ5).mono ?_; rintro e w' ⟨rfl, rfl⟩; simp only [List.length_append, List.length_singleton]))
        exact ⟨⟨k + 1, c + 1, ts ++ [(rank, (k : Int))], by go_num, by omega, by rw [List.length_append, List.length_singleton]; omega, by omega, hQ5, owns_len (owns_stands H1.out hSt (by decide) (by decide) (by decide))⟩, by simp [intOf]; omega⟩
      · have hA0 : (ask == 0) = false := by simpa using ha0
        clear ha0
        by_cases ha1 : ask = 1
        · subst ha1
          rcases Nat.eq_zero_or_pos ts.length with ht0 | ht0
          · have hts : ts = [] := List.eq_nil_of_length_eq_zero ht0
            subst hts
            clear ht0
            go_wp2_with fail
            go_at_call 21
            refine (first_none (owns_R HO.out)).mono ?_
            rintro e w2 ⟨rfl, hE2⟩
            go_wp2_with fail
            have hQ2 := hQ.ext hE2
            have HO2 := hid (owns_chg (S := fun _ => False) HO.out (Chg.of_ext hE2) (fun _ _ x => x))
            clear hQ hE2 HO
            go_at_call 22
            refine (peekB_none hQ2).mono ?_
            rintro e w3 ⟨rfl, hE3⟩
            have hE3a : Ext w2 (w3.alloc (.cells #[.int .i64 0, .int .i64 0] 33)) := ext_trans hE3 ((Below.refl _ w3).alloc (Nat.le_refl _) _)
            have hQ3 := hQ2.ext hE3a
            have HO3 := hid (owns_chg (S := fun _ => False) HO2.out (Chg.of_ext hE3a) (fun _ _ x => x))
            have hc0 : (w3.alloc (.cells #[.int .i64 0, .int .i64 0] 33)).cell? ⟨bb, off + k * 2, none⟩ = some (.int .i64 1) := (hQ3.le.cell (p := ⟨bb, off + k * 2, none⟩) hbb).trans HW0.out
            have hbw := Nat.lt_of_lt_of_le hbb hQ3.le.size
            have D3 := Blk.new w3 33 #[.int .i64 0, .int .i64 0]
            have HWZ : w.heap.size ≤ w3.heap.size := Nat.le_trans hQ2.le.size hE3.size
            have hlo := (owns_chg (S := fun _ => False) HO2.out (Chg.of_ext hE3) (fun _ _ x => x)).lt
            clear hE3 hE3a hQ2 HO2
            have hnq : ∀ w : World, (binOp .neq 33 (.agg #[.int .i64 0, .int .i64 0]) (.agg #[.int .i64 0, .int .i64 0])).run Try.prog w = .ok (.bool false) w := fun w => by rw [neq33]; rfl
            go_wp2_with fail
            go_at_call 19
            refine (takeA_none hQ3).mono ?_
            rintro e w4 ⟨rfl, hE4⟩
            have D4 := D3.ext hE4
            have hQ4 := hQ3.ext hE4
            have HO4 := hid (owns_chg (S := fun _ => False) HO3.out (Chg.of_ext hE4) (fun _ _ x => x))
            have hd0 : w4.cell? ⟨w3.heap.size, 0, none⟩ = some (.int .i64 0) := D4.cell rfl
            have hd1 : w4.cell? ⟨w3.heap.size, 1, none⟩ = some (.int .i64 0) := D4.cell rfl
            have fd := D4.frozen
            have HLO := hid hlo
            clear hQ3 HO3 D3 hlo
            go_wp2_with fail
            have hQ5 := (hQ4.set (p := ⟨w3.heap.size, 0, none⟩) D4 (by decide) (by decide) (by decide) (by decide) HWZ (.int .i64 0)).set (p := ⟨w3.heap.size, 1, none⟩) (D4.set 0 (.int .i64 0)) (by decide) (by decide) (by decide) (by decide) HWZ (.int .i64 0)
            have hO5 := owns_setOther (owns_setOther HO4.out (p := ⟨w3.heap.size, 0, none⟩) (fun e => by have := (HLO.out _ e).2; dsimp only at this; omega) (.int .i64 0)) (p := ⟨w3.heap.size, 1, none⟩) (fun e => by have := (HLO.out _ e).2; dsimp only at this; omega) (.int .i64 0)
            exact ⟨⟨k + 1, c, [], by go_num, by omega, by simp, by omega, hQ5, hO5⟩, by simp [intOf]; omega⟩
          · obtain ⟨ar, cr, rfl, hcr, hgr⟩ := slice_form HO.out
            obtain ⟨gr, rfl⟩ := hgr ht0
            clear hgr
            go_wp2_with fail
            go_at_call 21
            refine (first_some (owns_R HO.out) (by omega) ht0).mono ?_
            rintro e w2 ⟨i, x, rfl, hF, hil, hE2⟩
            obtain ⟨x1, x2⟩ := x
            have HF := hid hF
            clear hF
            go_wp2_with fail
            have hQ2 := hQ.ext hE2
            have HO2 := hid (owns_chg (S := fun _ => False) HO.out (Chg.of_ext hE2) (fun _ _ x => x))
            have hc0 : w2.cell? ⟨bb, off + k * 2, none⟩ = some (.int .i64 1) := (hQ2.le.cell (p := ⟨bb, off + k * 2, none⟩) hbb).trans HW0.out
            have hbw := Nat.lt_of_lt_of_le hbb hQ2.le.size
            clear hQ hE2 HO
            go_at_call 22
            refine (peekB hQ2 ht0).mono ?_
            rintro e w3 ⟨i2, y1, y2, rfl, hF2, hE3⟩
            obtain ⟨rfl, hxy⟩ := HF.out.unique Picked.cmpI_anti hF2
            simp only [Prod.mk.injEq] at hxy
            obtain ⟨rfl, rfl⟩ := hxy
            clear hF2
            have hE3a : Ext w2 (w3.alloc (.cells #[.int .i64 x1, .int .i64 x2] 33)) := ext_trans hE3 ((Below.refl _ w3).alloc (Nat.le_refl _) _)
            have hQ3 := hQ2.ext hE3a
            have HO3 := hid (owns_chg (S := fun _ => False) HO2.out (Chg.of_ext hE3a) (fun _ _ x => x))
            have hc0 : (w3.alloc (.cells #[.int .i64 x1, .int .i64 x2] 33)).cell? ⟨bb, off + k * 2, none⟩ = some (.int .i64 1) := (hQ3.le.cell (p := ⟨bb, off + k * 2, none⟩) hbb).trans HW0.out
            have hbw := Nat.lt_of_lt_of_le hbb hQ3.le.size
            have D3 := Blk.new w3 33 #[.int .i64 x1, .int .i64 x2]
            have HWZ : w.heap.size ≤ w3.heap.size := Nat.le_trans hQ2.le.size hE3.size
            have hOlt : gr < w3.heap.size := ((owns_chg (S := fun _ => False) HO2.out (Chg.of_ext hE3) (fun _ _ x => x)).lt gr rfl).2
            clear hE3 hE3a hQ2 HO2
            go_wp2_with fail
            go_at_call 19
            refine (takeB hQ3 ht0 (by omega)).mono ?_
            rintro e w4 ⟨i2, y1, y2, rfl, hF2, hQ4, hSt⟩
            obtain ⟨rfl, hxy⟩ := HF.out.unique Picked.cmpI_anti hF2
            simp only [Prod.mk.injEq] at hxy
            obtain ⟨rfl, rfl⟩ := hxy
            clear hF2
            have D4 := hSt _ _ _ D3 (by decide) (by decide) (by decide)
            have HO4 := hid (owns_stands HO3.out hSt (by decide) (by decide) (by decide))
            have hc0 : w4.cell? ⟨bb, off + k * 2, none⟩ = some (.int .i64 1) := (hQ4.le.cell (p := ⟨bb, off + k * 2, none⟩) hbb).trans HW0.out
            have hd0 : w4.cell? ⟨w3.heap.size, 0, none⟩ = some (.int .i64 x1) := D4.cell rfl
            have hd1 : w4.cell? ⟨w3.heap.size, 1, none⟩ = some (.int .i64 x2) := D4.cell rfl
            have fd := D4.frozen
            clear HO3 hQ3 hSt D3
            go_wp2_with fail
            have D5 := (D4.set 0 (.int .i64 x1)).set 1 (.int .i64 x2)
            have hQ5 : QA w ((w4.setCell ⟨w3.heap.size, 0, none⟩ (.int .i64 x1)).setCell ⟨w3.heap.size, 1, none⟩ (.int .i64 x2)) (ts.eraseIdx i) c :=
              (hQ4.set (p := ⟨w3.heap.size, 0, none⟩) D4 (by decide) (by decide) (by decide) (by decide) HWZ _).set (p := ⟨w3.heap.size, 1, none⟩) (D4.set 0 (.int .i64 x1)) (by decide) (by decide) (by decide) (by decide) HWZ _
            have HO5 := hid (owns_setOther (owns_setOther HO4.out (p := ⟨w3.heap.size, 0, none⟩) (fun e => by simp [Value.ownBlock] at e; omega) (.int .i64 x1)) (p := ⟨w3.heap.size, 1, none⟩) (fun e => by simp [Value.ownBlock] at e; omega) (.int .i64 x2))
            clear hd0 hd1 fd D4 HO4 hc0 hQ4
            generalize hw5 : ((w4.setCell ⟨w3.heap.size, 0, none⟩ (.int .i64 x1)).setCell ⟨w3.heap.size, 1, none⟩ (.int .i64 x2)) = w5 at *
            clear hw5
            have hd0 : w5.cell? ⟨w3.heap.size, 0, none⟩ = some (.int .i64 x1) := D5.cell rfl
            have hd1 : w5.cell? ⟨w3.heap.size, 0 + 1, none⟩ = some (.int .i64 x2) := D5.cell rfl
            obtain ⟨hr0, hr1⟩ := pair_cells HO5.out HF.out.at_
            dsimp only at hr0 hr1
            have hnq : ∀ w : World, (binOp .neq 33 (.agg #[.int .i64 x1, .int .i64 x2]) (.agg #[.int .i64 x1, .int .i64 x2])).run Try.prog w = .ok (.bool false) w := fun w => by rw [neq33]; simp
            have hiI : (i : Int) < (ts.length : Int) := by omega
            go_quiet (fail)
            have hdr := ext_drewN w5 nq
            have hQ6 := hQ5.ext hdr
            have HO6 := hid (owns_chg (S := fun _ => False) HO5.out (Chg.of_ext hdr) (fun _ _ x => x))
            clear hd0 hd1 hr0 hr1 hdr hQ5 HO5 D5
            generalize w5.drewN nq = w6 at *
            have hc0 : w6.cell? ⟨bb, off + k * 2, none⟩ = some (.int .i64 1) := (hQ6.le.cell (p := ⟨bb, off + k * 2, none⟩) hbb).trans HW0.out
            go_wp2_with fail
            go_at_call 23
            refine (out_any (owns_R HO6.out) (by omega) i hil).mono ?_
            rintro e w7 ⟨v7, rfl, hO7, hE7⟩
            have hQ7 := hQ6.ext hE7
            have hb7 := hQ6.le.size
            obtain ⟨a7, c7, rfl, _, _⟩ := slice_form hO7
            have HO7 := hid hO7
            have hle7 : (ts.eraseIdx i).length ≤ k := by rw [List.length_eraseIdx]; split <;> omega
            clear hO7 hQ6 hE7 HO6
            go_wp2_with (go_at_call 20; refine (lenB hQ7).mono ?_; rintro e w' ⟨rfl, rfl⟩)
            exact ⟨⟨k + 1, c, ts.eraseIdx i, by go_num, by omega, by omega, by omega, hQ7, owns_base HO7.out hb7⟩, by simp [intOf]; omega⟩
        · have hA1 : (ask == 1) = false := by simpa using ha1
          clear ha1
          rcases Nat.eq_zero_or_pos ts.length with ht0 | ht0
          · have hts : ts = [] := List.eq_nil_of_length_eq_zero ht0
            subst hts
            clear ht0
            go_wp2_with fail
            go_at_call 21
            refine (first_none (owns_R HO.out)).mono ?_
            rintro e w2 ⟨rfl, hE2⟩
            go_wp2_with fail
            have hQ2 := hQ.ext hE2
            have HO2 := hid (owns_chg (S := fun _ => False) HO.out (Chg.of_ext hE2) (fun _ _ x => x))
            clear hQ hE2 HO
            go_at_call 22
            refine (peekB_none hQ2).mono ?_
            rintro e w3 ⟨rfl, hE3⟩
            have hE3a : Ext w2 (w3.alloc (.cells #[.int .i64 0, .int .i64 0] 33)) := ext_trans hE3 ((Below.refl _ w3).alloc (Nat.le_refl _) _)
            have hQ3 := hQ2.ext hE3a
            have HO3 := hid (owns_chg (S := fun _ => False) HO2.out (Chg.of_ext hE3a) (fun _ _ x => x))
            have hc0 : (w3.alloc (.cells #[.int .i64 0, .int .i64 0] 33)).cell? ⟨bb, off + k * 2, none⟩ = some (.int .i64 ask) := (hQ3.le.cell (p := ⟨bb, off + k * 2, none⟩) hbb).trans HW0.out
            have hbw := Nat.lt_of_lt_of_le hbb hQ3.le.size
            have D3 := Blk.new w3 33 #[.int .i64 0, .int .i64 0]
            have HWZ : w.heap.size ≤ w3.heap.size := Nat.le_trans hQ2.le.size hE3.size
            have hlo := (owns_chg (S := fun _ => False) HO2.out (Chg.of_ext hE3) (fun _ _ x => x)).lt
            clear hE3 hE3a hQ2 HO2
            have hnq : ∀ w : World, (binOp .neq 33 (.agg #[.int .i64 0, .int .i64 0]) (.agg #[.int .i64 0, .int .i64 0])).run Try.prog w = .ok (.bool false) w := fun w => by rw [neq33]; rfl
            go_wp2_with fail
            exact ⟨⟨k + 1, c, [], by go_num, by omega, by simp, by omega, hQ3, HO3.out⟩, by simp [intOf]; omega⟩
          · obtain ⟨ar, cr, rfl, hcr, hgr⟩ := slice_form HO.out
            obtain ⟨gr, rfl⟩ := hgr ht0
            clear hgr
            go_wp2_with fail
            go_at_call 21
            refine (first_some (owns_R HO.out) (by omega) ht0).mono ?_
            rintro e w2 ⟨i, x, rfl, hF, hil, hE2⟩
            obtain ⟨x1, x2⟩ := x
            have HF := hid hF
            clear hF
            go_wp2_with fail
            have hQ2 := hQ.ext hE2
            have HO2 := hid (owns_chg (S := fun _ => False) HO.out (Chg.of_ext hE2) (fun _ _ x => x))
            have hc0 : w2.cell? ⟨bb, off + k * 2, none⟩ = some (.int .i64 ask) := (hQ2.le.cell (p := ⟨bb, off + k * 2, none⟩) hbb).trans HW0.out
            have hbw := Nat.lt_of_lt_of_le hbb hQ2.le.size
            clear hQ hE2 HO
            go_at_call 22
            refine (peekB hQ2 ht0).mono ?_
            rintro e w3 ⟨i2, y1, y2, rfl, hF2, hE3⟩
            obtain ⟨rfl, hxy⟩ := HF.out.unique Picked.cmpI_anti hF2
            simp only [Prod.mk.injEq] at hxy
            obtain ⟨rfl, rfl⟩ := hxy
            clear hF2
            have hE3a : Ext w2 (w3.alloc (.cells #[.int .i64 x1, .int .i64 x2] 33)) := ext_trans hE3 ((Below.refl _ w3).alloc (Nat.le_refl _) _)
            have hQ3 := hQ2.ext hE3a
            have HO3 := hid (owns_chg (S := fun _ => False) HO2.out (Chg.of_ext hE3a) (fun _ _ x => x))
            have hc0 : (w3.alloc (.cells #[.int .i64 x1, .int .i64 x2] 33)).cell? ⟨bb, off + k * 2, none⟩ = some (.int .i64 ask) := (hQ3.le.cell (p := ⟨bb, off + k * 2, none⟩) hbb).trans HW0.out
            have hbw := Nat.lt_of_lt_of_le hbb hQ3.le.size
            have D3 := Blk.new w3 33 #[.int .i64 x1, .int .i64 x2]
            have HWZ : w.heap.size ≤ w3.heap.size := Nat.le_trans hQ2.le.size hE3.size
            have hOlt : gr < w3.heap.size := ((owns_chg (S := fun _ => False) HO2.out (Chg.of_ext hE3) (fun _ _ x => x)).lt gr rfl).2
            clear hE3 hE3a hQ2 HO2
            go_wp2_with fail
            generalize hw5 : w3.alloc (.cells #[.int .i64 x1, .int .i64 x2] 33) = w5 at *
            clear hw5
            have hd0 : w5.cell? ⟨w3.heap.size, 0, none⟩ = some (.int .i64 x1) := D3.cell rfl
            have hd1 : w5.cell? ⟨w3.heap.size, 0 + 1, none⟩ = some (.int .i64 x2) := D3.cell rfl
            obtain ⟨hr0, hr1⟩ := pair_cells HO3.out HF.out.at_
            dsimp only at hr0 hr1
            have hnq : ∀ w : World, (binOp .neq 33 (.agg #[.int .i64 x1, .int .i64 x2]) (.agg #[.int .i64 x1, .int .i64 x2])).run Try.prog w = .ok (.bool false) w := fun w => by rw [neq33]; simp
            have hiI : (i : Int) < (ts.length : Int) := by omega
            clear hc0
            go_quiet (fail)
            have hdr := ext_drewN w5 nq
            have hQ6 := hQ3.ext hdr
            have HO6 := hid (owns_chg (S := fun _ => False) HO3.out (Chg.of_ext hdr) (fun _ _ x => x))
            clear hd0 hd1 hr0 hr1 hdr hQ3 HO3 D3
            generalize w5.drewN nq = w6 at *
            have hc0 : w6.cell? ⟨bb, off + k * 2, none⟩ = some (.int .i64 ask) := (hQ6.le.cell (p := ⟨bb, off + k * 2, none⟩) hbb).trans HW0.out
            go_wp2_with (go_at_call 20; refine (lenB hQ6).mono ?_; rintro e w' ⟨rfl, rfl⟩)
            exact ⟨⟨k + 1, c, ts, by go_num, by omega, by omega, by omega, hQ6, HO6.out⟩, by simp [intOf]; omega⟩
    · have hI : decide (k < xs.length) = false := decide_eq_false (by omega)
      go_wp2_with (go_at_call 9; refine (awake_any _).mono ?_; rintro e w4 ⟨rfl, k1⟩)
      go_ret
      exact ⟨rfl, ext_trans hQ.le k1⟩
end Go.Proofs.Ytlghkcamnfegdaa
