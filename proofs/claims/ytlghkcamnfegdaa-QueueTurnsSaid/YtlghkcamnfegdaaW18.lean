/-
  The queue seat: are two lists of things the same; does a list rise.
-/
import Derived.Test.YtlghkcamnfegdaaW17
import Derived.Laws.StructEq
namespace Go.Proofs.Ytlghkcamnfegdaa
open Go.RowKit Go.Spy Go.Heaped

theorem hp33 : Try.prog.stoodInHeld 33 = false := by kernel_rfl
theorem int_eq (d : Nat) (a b : Int) (w : World) : (Op.equalIn (d+1) 3 (.int .i64 a) (.int .i64 b)).run Try.prog w = .ok (decide (a = b)) w := by
  have e : (a == b) = decide (a = b) := by by_cases h : a = b <;> simp [h]
  simp [Op.equalIn, go_sem, run_underlying Try.underlying3, e]
theorem part33_0 (a b : Int) (w : World) : (part 3 #[.int .i64 a, .int .i64 b] 0).run Try.prog w = .ok (.int .i64 a) w := by kernel_rfl
theorem part33_1 (a b : Int) (w : World) : (part 3 #[.int .i64 a, .int .i64 b] 1).run Try.prog w = .ok (.int .i64 b) w := by kernel_rfl
set_option maxRecDepth 100000 in
theorem equal33 (a b c d : Int) (w : World) : (Op.equalIn 10000 33 (.agg #[.int .i64 a, .int .i64 b]) (.agg #[.int .i64 c, .int .i64 d])).run Try.prog w = .ok (decide (a = c) && decide (b = d)) w := by
  rw [run_equalIn_struct _ 9999 33 _ _ (by simp [Program.fieldsOf, Try.underlying33]) hp33]
  simp only [Program.fieldsOf, Try.underlying33, Op.eqFields]
  by_cases h1 : a = c <;> by_cases h2 : b = d <;> simp [h1, h2, Sem.run_bind, part33_0, part33_1, int_eq 9998]
theorem neq33 (a b c d : Int) (w : World) : (binOp .neq 33 (.agg #[.int .i64 a, .int .i64 b]) (.agg #[.int .i64 c, .int .i64 d])).run Try.prog w = .ok (.bool (!(decide (a = c) && decide (b = d)))) w := by
  rw [run_neq_struct, equal33]; rfl
theorem eql33 (a b c d : Int) (w : World) : (binOp .eql 33 (.agg #[.int .i64 a, .int .i64 b]) (.agg #[.int .i64 c, .int .i64 d])).run Try.prog w = .ok (.bool (decide (a = c) && decide (b = d))) w := by
  rw [run_eql_struct, equal33]; rfl

theorem take_eq_succ {α : Type} {xs ys : List α} {k : Nat} (h : k < xs.length) (h' : k < ys.length) : xs.take (k + 1) = ys.take (k + 1) ↔ xs.take k = ys.take k ∧ xs[k] = ys[k] := by
  rw [List.take_succ_eq_append_getElem h, List.take_succ_eq_append_getElem h']
  constructor
  · intro e
    have := List.append_inj e (by simp; omega)
    exact ⟨this.1, by simpa using this.2⟩
  · rintro ⟨e1, e2⟩
    rw [e1, e2]

theorem ext_drewN (w : World) (n : Nat) : Ext w (w.drewN n) := ⟨rfl, rfl, rfl, Nat.le_refl _, fun _ _ => rfl⟩

def ThingsAt (w : World) (xs ys : List (Int × Int)) (i : Value) (wr : World) : Prop := ∃ k : Nat, i = .int .i64 k ∧ k ≤ xs.length ∧ xs.take k = ys.take k ∧ Ext w wr

set_option maxRecDepth 100000 in
set_option maxHeartbeats 800000 in
theorem things_any {w : World} {u v : Value} {xs ys : List (Int × Int)} (h1 : R w u xs) (h2 : R w v ys) (hl : xs.length ≤ 1000000) (hl2 : ys.length ≤ 1000000) :
    Calls Try.prog 14 #[u, v] w fun e w' => e = .returned (.bool (decide (xs = ys))) ∧ Ext w w' := by
  obtain ⟨ao, ca, rfl, hca, ha⟩ := slice_form h1
  obtain ⟨bo, cb, rfl, hcb, hb⟩ := slice_form h2
  by_cases hlen : xs.length = ys.length
  · have hL := hid hlen
    have hq : ((xs.length : Int) != (ys.length : Int)) = false := by rw [hlen]; simp
    clear hlen
    have hn := neq33
    go_enter Try.func14, Try.ntmps14
    go_wp2_with fail
    go_loopw [5] (fun i wr => ThingsAt w xs ys i wr) (fun i _ => xs.length - (intOf i).toNat)
    case atStart => exact ⟨0, rfl, Nat.zero_le _, rfl, Below.refl _ _⟩
    case round =>
      obtain ⟨k, rfl, hk, hT, hE⟩ := hrel
      have HT := hid hT
      clear hT
      rcases Nat.lt_or_ge k xs.length with hlt | hge
      · have hlt2 : k < ys.length := by rw [← hL.out]; exact hlt
        have hI : (k : Int) < (xs.length : Int) := by omega
        have hI2 : (k : Int) < (ys.length : Int) := by omega
        obtain ⟨g1, rfl⟩ := ha (by omega)
        obtain ⟨g2, rfl⟩ := hb (by omega)
        obtain ⟨x, hx⟩ : ∃ x, x = xs[k] := ⟨_, rfl⟩
        obtain ⟨y, hy⟩ : ∃ y, y = ys[k] := ⟨_, rfl⟩
        obtain ⟨c0, c1⟩ := pair_cells (h1.ext hE) (j := k) (x := x) (by rw [hx]; exact List.getElem?_eq_getElem hlt)
        obtain ⟨e0, e1⟩ := pair_cells (h2.ext hE) (j := k) (x := y) (by rw [hy]; exact List.getElem?_eq_getElem hlt2)
        obtain ⟨x1, x2⟩ := x
        obtain ⟨y1, y2⟩ := y
        dsimp only at c0 c1 e0 e1
        have HX := hid hx
        have HY := hid hy
        clear hx hy
        by_cases heq : x1 = y1 ∧ x2 = y2
        · have hd : (!(decide (x1 = y1) && decide (x2 = y2))) = false := by simp [heq]
          have HD := hid heq
          clear heq
          go_wp2_with fail
          go_quiet (fail)
          go_wp2_with fail
          refine ⟨⟨k + 1, by go_num, by omega, ?_, ext_trans hE (ext_drewN _ _)⟩, by simp [intOf]; omega⟩
          rw [take_eq_succ hlt hlt2]
          exact ⟨HT.out, by rw [← HX.out, ← HY.out, HD.out.1, HD.out.2]⟩
        · have hd : (!(decide (x1 = y1) && decide (x2 = y2))) = true := by simp only [Bool.not_eq_true', Bool.and_eq_false_iff, decide_eq_false_iff_not]; omega
          have HD := hid heq
          clear heq
          go_wp2_with fail
          go_quiet (fail)
          go_wp2_with fail
          go_ret
          refine ⟨ret_bool (decide_eq_false fun e => ?_).symm, ext_trans hE (ext_drewN _ _)⟩
          have e2 : xs[k] = ys[k] := by simp only [e]
          rw [← HX.out, ← HY.out] at e2
          exact HD.out (by simpa using e2)
      · have hI : decide ((k : Int) < (xs.length : Int)) = false := decide_eq_false (by omega)
        go_wp2_with fail
        go_ret
        refine ⟨ret_bool (decide_eq_true ?_).symm, hE⟩
        have := HT.out
        rwa [List.take_of_length_le hge, List.take_of_length_le (by rw [← hL.out]; exact hge)] at this
  · have hne : decide (xs = ys) = false := decide_eq_false (fun e => hlen (by rw [e]))
    rw [hne]
    have hq : ((xs.length : Int) != (ys.length : Int)) = true := by simp; omega
    go_enter Try.func14, Try.ntmps14
    go_wp2_with fail
    go_ret
    exact ⟨rfl, Below.refl _ _⟩
end Go.Proofs.Ytlghkcamnfegdaa
