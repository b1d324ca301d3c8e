/-
  The queue seat: does a list rise; which one is the first; a list without one.
-/
import Derived.Test.YtlghkcamnfegdaaW18
namespace Go.Proofs.Ytlghkcamnfegdaa
open Go.RowKit Go.Spy Go.Heaped

instance : DecidablePred Picked.Rise := fun l => inferInstanceAs (Decidable (List.Pairwise _ l))
def risesB (l : List (Int × Int)) : Bool := decide (Picked.Rise l)
def RisesAt (w : World) (ts : List (Int × Int)) (i : Value) (wr : World) : Prop := ∃ k : Nat, i = .int .i64 ((k : Int) + 1) ∧ k ≤ ts.length ∧ Picked.Rise (ts.take (k + 1)) ∧ Ext w wr

theorem rise_step {ts : List (Int × Int)} {k : Nat} (h : k + 1 < ts.length) (hr : Picked.Rise (ts.take (k + 1))) : Picked.Rise (ts.take (k + 1 + 1)) ↔ (ts[k]'(by omega)).1 ≤ (ts[k + 1]).1 := by
  rw [List.take_succ_eq_append_getElem h]
  unfold Picked.Rise
  rw [List.pairwise_append]
  constructor
  · rintro ⟨_, _, h3⟩
    exact h3 _ (List.mem_take_iff_getElem.2 ⟨k, by omega, rfl⟩) _ (by simp)
  · intro hle
    refine ⟨hr, List.pairwise_singleton _ _, fun a ha b hb => ?_⟩
    simp only [List.mem_singleton] at hb
    subst hb
    obtain ⟨j, hj, rfl⟩ := List.mem_take_iff_getElem.1 ha
    rcases Nat.lt_or_ge j k with c | c
    · have := List.pairwise_iff_getElem.1 hr j k (by simp; omega) (by simp; omega) c
      simp only [List.getElem_take] at this
      omega
    · have : j = k := by omega
      subst this; exact hle
theorem rise_take {ts : List (Int × Int)} {k : Nat} (h : Picked.Rise ts) : Picked.Rise (ts.take k) := List.Pairwise.sublist (List.take_sublist _ _) h

set_option maxRecDepth 100000 in
set_option maxHeartbeats 800000 in
theorem rises_any {w : World} {u : Value} {ts : List (Int × Int)} (h1 : R w u ts) (hl : ts.length ≤ 1000000) :
    Calls Try.prog 11 #[u] w fun e w' => e = .returned (.bool (risesB ts)) ∧ Ext w w' := by
  obtain ⟨ao, ca, rfl, hca, ha⟩ := slice_form h1
  go_enter Try.func11, Try.ntmps11
  go_wp2_with fail
  go_loopw [3] (fun i wr => RisesAt w ts i wr) (fun i _ => ts.length + 1 - (intOf i).toNat)
  case atStart =>
    refine ⟨0, rfl, Nat.zero_le _, ?_, Below.refl _ _⟩
    cases ts with
    | nil => exact List.Pairwise.nil
    | cons t ts => exact List.pairwise_singleton _ _
  case round =>
    obtain ⟨k, rfl, hk, hT, hE⟩ := hrel
    have HT := hid hT
    clear hT
    rcases Nat.lt_or_ge (k + 1) ts.length with hlt | hge
    · have hI : (k : Int) + 1 < (ts.length : Int) := by omega
      have hI0 : (k : Int) < (ts.length : Int) := by omega
      have hI1 : (0 : Int) ≤ (k : Int) + 1 := by omega
      have hI2 : ((k : Int) + 1).toNat = k + 1 := by omega
      obtain ⟨g1, rfl⟩ := ha (by omega)
      obtain ⟨x, hx⟩ : ∃ x, x = ts[k] := ⟨_, rfl⟩
      obtain ⟨y, hy⟩ : ∃ y, y = ts[k + 1] := ⟨_, rfl⟩
      obtain ⟨c0, c1⟩ := pair_cells (h1.ext hE) (j := k) (x := x) (by rw [hx]; exact List.getElem?_eq_getElem (by omega))
      obtain ⟨e0, e1⟩ := pair_cells (h1.ext hE) (j := k + 1) (x := y) (by rw [hy]; exact List.getElem?_eq_getElem hlt)
      obtain ⟨x1, x2⟩ := x
      obtain ⟨y1, y2⟩ := y
      dsimp only at c0 c1 e0 e1
      have HX : Hid (ts[k].1 = x1) := hid (by rw [← hx])
      have HY : Hid (ts[k + 1].1 = y1) := hid (by rw [← hy])
      clear hx hy
      have hw : IntKind.i64.wrap ((k : Int) + 1 - 1) = k := by rw [IntWalk.i64_in _ (by omega)]; omega
      by_cases hle : x1 ≤ y1
      · have hd : decide (y1 < x1) = false := decide_eq_false (by omega)
        go_wp2_with fail
        go_quiet (fail)
        go_wp2_with fail
        refine ⟨⟨k + 1, by go_num, by omega, ?_, ext_trans hE (ext_drewN _ _)⟩, by simp [intOf]; omega⟩
        rw [rise_step hlt HT.out, HX.out, HY.out]
        exact hle
      · have hd : decide (y1 < x1) = true := decide_eq_true (by omega)
        go_wp2_with fail
        go_quiet (fail)
        go_wp2_with fail
        go_ret
        refine ⟨ret_bool (decide_eq_false fun e => ?_).symm, ext_trans hE (ext_drewN _ _)⟩
        have := (rise_step hlt HT.out).1 (rise_take e)
        rw [HX.out, HY.out] at this
        omega
    · have hI : decide ((k : Int) + 1 < (ts.length : Int)) = false := decide_eq_false (by omega)
      go_wp2_with fail
      go_ret
      refine ⟨ret_bool (decide_eq_true ?_).symm, hE⟩
      have := HT.out
      rwa [List.take_of_length_le hge] at this

theorem first_keep {ts : List (Int × Int)} {k i : Nat} {x : Int × Int} (h : Picked.IsFirst cmpI (ts.take k) i x) (hk : k < ts.length) (hle : x.1 ≤ (ts[k]).1) : Picked.IsFirst cmpI (ts.take (k + 1)) i x := by
  have hi : i < k := by have := (List.getElem?_eq_some_iff.1 h.at_).1; simp at this; omega
  have e : ∀ j, j < k → (ts.take (k + 1))[j]? = (ts.take k)[j]? := fun j hj => by rw [List.getElem?_take, List.getElem?_take, if_pos hj, if_pos (by omega)]
  refine ⟨by rw [e i hi]; exact h.at_, fun j y hj hy => h.before j y hj (by rw [← e j (by omega)]; exact hy), fun j y hj hy => ?_⟩
  have hjl : j < k + 1 := by have := (List.getElem?_eq_some_iff.1 hy).1; simp at this; omega
  rcases Nat.lt_or_ge j k with c | c
  · exact h.behind j y hj (by rw [← e j c]; exact hy)
  · have : j = k := by omega
    subst this
    rw [List.getElem?_take, if_pos (by omega), List.getElem?_eq_getElem hk] at hy
    simp only [Option.some.injEq] at hy
    subst hy
    exact Picked.cmpI_nonpos.2 hle
theorem first_turn {ts : List (Int × Int)} {k i : Nat} {x : Int × Int} (h : Picked.IsFirst cmpI (ts.take k) i x) (hk : k < ts.length) (hlt : (ts[k]).1 < x.1) : Picked.IsFirst cmpI (ts.take (k + 1)) k ts[k] := by
  obtain ⟨_, _, _, h4⟩ := Picked.IsFirst.split h
  refine ⟨by rw [List.getElem?_take, if_pos (by omega), List.getElem?_eq_getElem hk], fun j y hj hy => ?_, fun j y hj hy => ?_⟩
  · rw [List.getElem?_take, if_pos (by omega)] at hy
    have hm : y ∈ ts.take k := List.mem_of_getElem? (i := j) (by rw [List.getElem?_take, if_pos hj]; exact hy)
    have := h4 y hm
    exact Picked.cmpI_neg.2 (by omega)
  · have hjl : j < k + 1 := by have := (List.getElem?_eq_some_iff.1 hy).1; simp at this; omega
    have : j = k := by omega
    subst this
    rw [List.getElem?_take, if_pos (by omega), List.getElem?_eq_getElem hk] at hy
    simp only [Option.some.injEq] at hy
    subst hy
    exact Picked.cmpI_nonpos.2 (Int.le_refl _)
theorem first_one {ts : List (Int × Int)} (h : 0 < ts.length) : Picked.IsFirst cmpI (ts.take 1) 0 ts[0] := by
  refine ⟨by simp [h], fun j y hj hy => by omega, fun j y hj hy => ?_⟩
  have hjl : j < 1 := by have := (List.getElem?_eq_some_iff.1 hy).1; simp at this; omega
  have : j = 0 := by omega
  subst this
  simp [h] at hy
  subst hy
  exact Picked.cmpI_nonpos.2 (Int.le_refl _)

def FirstPost (ts : List (Int × Int)) (e : Ending) : Prop := ts = [] ∧ e = .returned (.int .i64 (-1)) ∨ ∃ (i : Nat) (x : Int × Int), Picked.IsFirst cmpI ts i x ∧ e = .returned (.int .i64 i)
def FirstAt (w : World) (ts : List (Int × Int)) (b i : Value) (wr : World) : Prop := ∃ k : Nat, i = .int .i64 k ∧ k ≤ ts.length ∧ (k = 0 ∧ b = .int .i64 (-1) ∨ ∃ (j : Nat) (x : Int × Int), Picked.IsFirst cmpI (ts.take k) j x ∧ b = .int .i64 j) ∧ Ext w wr

set_option maxRecDepth 100000 in
set_option maxHeartbeats 800000 in
theorem first_any {w : World} {u : Value} {ts : List (Int × Int)} (h1 : R w u ts) (hl : ts.length ≤ 1000000) :
    Calls Try.prog 21 #[u] w fun e w' => FirstPost ts e ∧ Ext w w' := by
  obtain ⟨ao, ca, rfl, hca, ha⟩ := slice_form h1
  go_enter Try.func21, Try.ntmps21
  go_wp2_with fail
  go_loopw [3, 4] (fun b i wr => FirstAt w ts b i wr) (fun _ i _ => ts.length - (intOf i).toNat)
  case atStart => exact ⟨0, rfl, Nat.zero_le _, .inl ⟨rfl, rfl⟩, Below.refl _ _⟩
  case round =>
    obtain ⟨k, rfl, hk, hT, hE⟩ := hrel
    rcases Nat.lt_or_ge k ts.length with hlt | hge
    · have hI : (k : Int) < (ts.length : Int) := by omega
      obtain ⟨g1, rfl⟩ := ha (by omega)
      rcases hT with ⟨rfl, rfl⟩ | ⟨j, x, hF, rfl⟩
      · go_wp2_with fail
        go_quiet (fail)
        go_wp2_with fail
        exact ⟨⟨1, by go_num, by omega, .inr ⟨0, ts[0], first_one hlt, by go_num⟩, ext_trans hE (ext_drewN _ _)⟩, by simp [intOf]; omega⟩
      · have hj : j < k := by have := (List.getElem?_eq_some_iff.1 hF.at_).1; simp at this; omega
        have hx : ts[j]? = some x := by have := hF.at_; rw [List.getElem?_take, if_pos hj] at this; exact this
        have hJ : (j : Int) < (ts.length : Int) := by omega
        have hj0 : decide ((j : Int) < 0) = false := decide_eq_false (by omega)
        obtain ⟨y, hy⟩ : ∃ y, y = ts[k] := ⟨_, rfl⟩
        obtain ⟨c0, c1⟩ := pair_cells (h1.ext hE) hx
        obtain ⟨e0, e1⟩ := pair_cells (h1.ext hE) (j := k) (x := y) (by rw [hy]; exact List.getElem?_eq_getElem hlt)
        obtain ⟨x1, x2⟩ := x
        obtain ⟨y1, y2⟩ := y
        dsimp only at c0 c1 e0 e1
        have HF := hid hF
        have HY := hid hy
        clear hx hy hF
        by_cases hle : x1 ≤ y1
        · have hd : decide (y1 < x1) = false := decide_eq_false (by omega)
          go_wp2_with fail
          go_quiet (fail)
          go_wp2_with fail
          exact ⟨⟨k + 1, by go_num, by omega, .inr ⟨j, (x1, x2), first_keep HF.out hlt (by rw [← HY.out]; exact hle), rfl⟩, ext_trans hE (ext_drewN _ _)⟩, by simp [intOf]; omega⟩
        · have hd : decide (y1 < x1) = true := decide_eq_true (by omega)
          go_wp2_with fail
          go_quiet (fail)
          go_wp2_with fail
          exact ⟨⟨k + 1, by go_num, by omega, .inr ⟨k, ts[k], first_turn HF.out hlt (by rw [← HY.out]; simp; omega), rfl⟩, ext_trans hE (ext_drewN _ _)⟩, by simp [intOf]; omega⟩
    · have hI : decide ((k : Int) < (ts.length : Int)) = false := decide_eq_false (by omega)
      have hT2 : ts = [] ∧ u3 = .int .i64 (-1) ∨ ∃ (j : Nat) (x : Int × Int), Picked.IsFirst cmpI ts j x ∧ u3 = .int .i64 j := by
        rw [List.take_of_length_le hge] at hT
        rcases hT with ⟨h0, h⟩ | h
        · exact .inl ⟨List.eq_nil_of_length_eq_zero (by omega), h⟩
        · exact .inr h
      clear hT
      have HT := hid hT2
      clear hT2
      go_wp2_with fail
      go_ret
      refine ⟨?_, hE⟩
      rcases HT.out with ⟨h0, h⟩ | ⟨j, x, hF, h⟩
      · exact .inl ⟨h0, by rw [← h]; rfl⟩
      · exact .inr ⟨j, x, hF, by rw [← h]; rfl⟩
end Go.Proofs.Ytlghkcamnfegdaa
