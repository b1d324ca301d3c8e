/-
  The queue seat: what is put is taken, each once, in order.
-/
import Derived.Test.YtlghkcamnfegdaaN1
import Derived.Deep.OwnRows
namespace Go.Proofs.Ytlghkcamnfegdaa
open Go.RowKit Go.Spy Go.Heaped

/-- What is of another type stands. -/
def Stands (w w' : World) : Prop := ∀ k t cur, Blk w k t cur → t ≠ 69 → t ≠ 62 → t ≠ 85 → Blk w' k t cur
theorem takeB {w wr : World} {ts : List (Int × Int)} {n : Nat} (h : QA w wr ts n) (h0 : 0 < ts.length) (hl : ts.length ≤ 1000000) :
    Calls Try.prog 19 #[.pointer (some ⟨w.heap.size + 1, 0, none⟩)] wr fun e w' => ∃ (i : Nat) (x1 x2 : Int), e = .returned (.tuple #[.agg #[.int .i64 x1, .int .i64 x2], .int .i64 0]) ∧ Picked.IsFirst cmpI ts i (x1, x2) ∧ QA w w' (ts.eraseIdx i) n ∧ Stands wr w' := by
  obtain ⟨S, h1, h2, h3⟩ := h
  refine (takeQ ord13 fn13 h1 h0 (by omega)).mono ?_
  rintro e w' ⟨i, ⟨x1, x2⟩, hF, rfl, hg⟩
  exact ⟨i, x1, x2, rfl, hF, QA.goes h2 h3 hg, fun k t cur hb t1 t2 t3 => hb.chg hg.choose_spec.2.chg (h1.not_type hb t1 t2 t3)⟩
theorem peekB {w wr : World} {ts : List (Int × Int)} {n : Nat} (h : QA w wr ts n) (h0 : 0 < ts.length) :
    Calls Try.prog 22 #[.pointer (some ⟨w.heap.size + 1, 0, none⟩)] wr fun e w' => ∃ (i : Nat) (x1 x2 : Int), e = .returned (.tuple #[.agg #[.int .i64 x1, .int .i64 x2], .int .i64 0]) ∧ Picked.IsFirst cmpI ts i (x1, x2) ∧ Ext wr w' := by
  obtain ⟨S, h1, h2, h3⟩ := h
  refine (peekQ fn13 h1 h0).mono ?_
  rintro e w' ⟨i, ⟨x1, x2⟩, hF, rfl, hg⟩
  exact ⟨i, x1, x2, rfl, hF, hg⟩
theorem lenB {w wr : World} {ts : List (Int × Int)} {n : Nat} (h : QA w wr ts n) :
    Calls Try.prog 20 #[.pointer (some ⟨w.heap.size + 1, 0, none⟩)] wr fun e w' => e = .returned (.int .i64 ts.length) ∧ w' = wr := by
  obtain ⟨S, h1, _, _⟩ := h
  exact lenQ h1
theorem QA.set {w wr : World} {ts : List (Int × Int)} {n : Nat} (h : QA w wr ts n) {p : Addr} {t : TypeId} {cur : Array Value} (hb : Blk wr p.block t cur) (t1 : t ≠ 69) (t2 : t ≠ 62) (t3 : t ≠ 85) (t4 : t ≠ 34) (hp : w.heap.size ≤ p.block) (v : Value) : QA w (wr.setCell p v) ts n := by
  obtain ⟨S, h1, h2, h3⟩ := h
  obtain ⟨cur2, hb2⟩ := h1.bo_type
  refine ⟨S, h1.kept (S2 := fun k => k = p.block) ((Chg.refl _ _).setCell (by rfl) v) (fun k hk (e : k = p.block) => h1.not_type (e ▸ hb) t1 t2 t3 hk) (fun e => blk_ne hb hb2 t4 e.symm), h2, ?_⟩
  exact Below.setCell h3 hp v

theorem mem_made {xs : List Int} {x : Int × Int} (h : x ∈ madeL xs 0) : ∃ (j : Nat) (hj : j < xs.length), x = (xs[j], (j : Int)) := by
  obtain ⟨j, hj, rfl⟩ := List.getElem_of_mem h
  rw [madeL_len] at hj
  exact ⟨j, hj, by simp [madeL]⟩
theorem made_rising (xs : List Int) : (madeL xs 0).Pairwise (fun a b => a.2 < b.2) := by
  rw [List.pairwise_iff_getElem]
  intro i j hi hj hij
  simp [madeL]
  omega
def seenA (n : Nat) (sf : Nat → Int) : Array Value := ((List.range n).map (fun j => Value.int .i64 (sf j))).toArray
theorem seenA_get {n : Nat} {sf : Nat → Int} {j : Nat} (h : j < n) : (seenA n sf)[j]? = some (.int .i64 (sf j)) := by simp [seenA, h]
theorem seenA_set (n : Nat) (sf : Nat → Int) (j : Nat) (_h : j < n) (v : Int) : (seenA n sf).setIfInBounds j (.int .i64 v) = seenA n (fun i => if i = j then v else sf i) := by
  apply Array.ext_getElem?
  intro i
  simp only [seenA, List.setIfInBounds_toArray, List.getElem?_toArray, List.getElem?_set, List.getElem?_map, List.length_map, List.length_range]
  by_cases hij : j = i
  · subst hij
    by_cases hj : j < n <;> simp [hj]
  · rw [if_neg hij]
    by_cases hi : i < n
    · have : ¬ i = j := fun e => hij e.symm
      simp [hi, this]
    · simp [hi]

/-- What is left is behind what is taken. -/
theorem left_behind {rest : List (Int × Int)} {i : Nat} {x : Int × Int} (hr : rest.Pairwise (fun a b => a.2 < b.2)) (h : Picked.IsFirst cmpI rest i x) : ∀ y ∈ rest.eraseIdx i, x.1 ≤ y.1 ∧ (x.1 = y.1 → x.2 ≤ y.2) ∧ y.2 ≠ x.2 := by
  obtain ⟨e1, e2, e3, e4⟩ := h.split
  intro y hy
  have hle := e4 y (Picked.mem_erase hy)
  rw [e1, List.pairwise_append, List.pairwise_cons] at hr
  obtain ⟨_, ⟨h2, _⟩, h3⟩ := hr
  rw [e2, List.mem_append] at hy
  rcases hy with hy | hy
  · have h4 := e3 y hy
    have h5 := h3 y hy x (by simp)
    exact ⟨hle, fun e => by omega, fun e => by omega⟩
  · have h5 := h2 y hy
    exact ⟨hle, fun _ => by omega, fun e => by omega⟩

theorem Try.info3 : (Try.prog.info? 3).map (fun i => (i.zero, i.size, i.bytes)) = some (some (.int .i64 0), 1, 8) := by kernel_rfl

def fillAt (w : World) (xs : List Int) (i : Value) (wr : World) : Prop :=
  ∃ k : Nat, i = .int .i64 k ∧ k ≤ xs.length ∧ QA w wr (madeL (xs.take k) 0) (madeL (xs.take k) 0).length
def sortAt (w : World) (xs : List Int) (gs bl : Nat) (i : Value) (wr : World) : Prop :=
  ∃ (k : Nat) (rest : List (Int × Int)) (r1 r2 : Int) (sf : Nat → Int), i = .int .i64 k ∧ rest.length + k = xs.length ∧ rest.Sublist (madeL xs 0) ∧ QA w wr rest xs.length ∧ Blk wr gs 3 (seenA xs.length sf) ∧ Blk wr bl 33 #[.int .i64 r1, .int .i64 r2] ∧
    (∀ y ∈ rest, sf y.2.toNat = 0) ∧ (0 < k → ∀ y ∈ rest, r1 ≤ y.1 ∧ (r1 = y.1 → r2 ≤ y.2))

theorem sort_step {w w5 : World} {xs : List Int} {gs bl k i1 j : Nat} {rest : List (Int × Int)} {p1 r1 r2 : Int} {sf : Nat → Int} (hsub : rest.Sublist (madeL xs 0)) (hF : Picked.IsFirst cmpI rest i1 (p1, (j : Int))) (hlen : rest.length + k = xs.length) (hj : j < xs.length)
    (hS : Blk w5 gs 3 (seenA xs.length sf)) (hB : Blk w5 bl 33 #[.int .i64 r1, .int .i64 r2]) (hQ : QA w w5 (rest.eraseIdx i1) xs.length) (hsf : ∀ y ∈ rest, sf y.2.toNat = 0) (hgs : w.heap.size ≤ gs) (hbl : w.heap.size ≤ bl) (hne : gs ≠ bl) {v : Value} (hv : v = .int .i64 ((k : Int) + 1)) :
    sortAt w xs gs bl v (((w5.setCell ⟨gs, j, none⟩ (.int .i64 1)).setCell ⟨bl, 0, none⟩ (.int .i64 p1)).setCell ⟨bl, 1, none⟩ (.int .i64 j)) := by
  have hil : i1 < rest.length := (List.getElem?_eq_some_iff.1 hF.at_).1
  have hpw : rest.Pairwise (fun a b => a.2 < b.2) := (made_rising xs).sublist hsub
  have hlb := left_behind hpw hF
  have hS1 := hS.set j (.int .i64 1)
  rw [seenA_set _ _ _ hj] at hS1
  have hS3 := (hS1.setOther (a := ⟨bl, 0, none⟩) (by simpa using hne.symm) (.int .i64 p1)).setOther (a := ⟨bl, 1, none⟩) (by simpa using hne.symm) (.int .i64 j)
  have hB1 := hB.setOther (a := ⟨gs, j, none⟩) (by simpa using hne) (.int .i64 1)
  have hB2 := hB1.set 0 (.int .i64 p1)
  have hB3 := hB2.set 1 (.int .i64 j)
  refine ⟨k + 1, rest.eraseIdx i1, p1, j, _, by rw [hv]; rfl, by rw [List.length_eraseIdx, if_pos hil]; omega, (List.eraseIdx_sublist _ _).trans hsub, ?_, hS3, hB3, fun y hy => ?_, fun _ y hy => ?_⟩
  · exact ((hQ.set (p := ⟨gs, j, none⟩) hS (by decide) (by decide) (by decide) (by decide) hgs _).set (p := ⟨bl, 0, none⟩) hB1 (by decide) (by decide) (by decide) (by decide) hbl _).set (p := ⟨bl, 1, none⟩) hB2 (by decide) (by decide) (by decide) (by decide) hbl _
  · have h1 := (hlb y hy).2.2
    have hm := Picked.mem_erase hy
    obtain ⟨i, hi, rfl⟩ := mem_made (hsub.mem hm)
    dsimp only at h1 ⊢
    rw [if_neg (by omega)]
    exact hsf _ hm
  · exact ⟨(hlb y hy).1, (hlb y hy).2.1⟩

set_option maxRecDepth 100000 in
set_option maxHeartbeats 12800000 in
theorem sorts_any {w : World} {ao : Option Addr} {ca : Nat} {xs : List Int} (h1 : IntsV w ao xs) (hl : xs.length ≤ 100) :
    Calls Try.prog 7 #[.slice ao xs.length ca] w fun e w' => e = .returned (.bool true) ∧ Ext w w' := by
  have q1 : decide ((100 : Int) < (xs.length : Int)) = false := decide_eq_false (by omega)
  go_enter Try.func7, Try.ntmps7
  go_wp2_with (go_at_call 16; refine (newA w).mono ?_; rintro e w1 ⟨rfl, hQ0⟩)
  go_loopw [5] (fun i wr => fillAt w xs i wr) (fun i _ => xs.length - (intOf i).toNat)
  case atStart => exact ⟨0, rfl, Nat.zero_le _, hQ0⟩
  case round =>
    clear hQ0
    obtain ⟨k, rfl, hk, hQ⟩ := hrel
    rcases Nat.lt_or_ge k xs.length with hlt | hge
    · have hI : decide (k < xs.length) = true := decide_eq_true hlt
      obtain ⟨bb, off, rfl, hbb, hc⟩ := (h1.ext hQ.le).cells (by omega)
      have hck := hc k hlt
      clear hc
      obtain ⟨x, hx⟩ : ∃ x, x = xs[k] := ⟨_, rfl⟩
      rw [← hx] at hck
      have HX := hid hx
      clear hx
      have hle : (madeL (xs.take k) 0).length + 1 ≤ 1000000 := by rw [madeL_len, List.length_take]; omega
      go_wp2_with (go_at_call 18; refine (putA hQ (x, (k : Int)) hle).mono ?_; rintro e w2 ⟨rfl, hQ2⟩)
      refine ⟨⟨k + 1, by go_num, by omega, ?_⟩, by simp [intOf]; omega⟩
      rw [madeL_take _ _ _ hlt, ← HX.out, Int.zero_add]
      exact hQ2
    · have hI : decide (k < xs.length) = false := decide_eq_false (by omega)
      rw [List.take_of_length_le hge, madeL_len] at hQ
      obtain ⟨i0, hti, hz0, hz1, hz2⟩ := info_parts Try.info3
      go_wp2_with (at_make; refine wpList_make_row _ rfl _ _ 25 rfl 3 i0 (.int .i64 0) Try.underlying25 hti hz0 hz1 rfl .i64 .i64 xs.length rfl rfl (by rw [hz2]; omega) (by omega) ?_)
      have hz := hQ.le.size
      obtain ⟨wo, rfl⟩ : ∃ wo : World, wo = wr := ⟨_, rfl⟩
      have hmc : madeCells #[Value.int .i64 0] xs.length = seenA xs.length (fun _ => 0) := by
        apply Array.ext_getElem?
        intro i
        by_cases hi : i < xs.length
        · rw [seenA_get hi]; simp [madeCells, hi, Nat.mod_one]
        · simp [madeCells, seenA, hi]
      have HMC := hid hmc
      clear hmc
      go_loopw [8] (fun i wr => sortAt w xs wo.heap.size (wo.heap.size + 1) i wr) (fun i _ => xs.length - (intOf i).toNat)
      case atStart =>
        refine ⟨0, madeL xs 0, 0, 0, fun _ => 0, rfl, by rw [madeL_len]; rfl, List.Sublist.refl _, (hQ.ext (((Below.refl _ wo).alloc (Nat.le_refl _) _).alloc (by simp) _)), ?_, Blk.new' _ 33 _ (by simp), fun _ _ => rfl, fun h => by omega⟩
        have := (Blk.new wo 3 (madeCells #[Value.int .i64 0] xs.length)).alloc (.cells #[.int .i64 0, .int .i64 0] 33)
        rw [← HMC.out]
        exact this
      case round =>
        clear hQ
        obtain ⟨k, rest, r1, r2, sf, rfl, hlen, hsub, hQ, hS, hB, hsf, hord⟩ := hrel
        have HSF := hid hsf
        have HORD := hid hord
        have HLEN := hid hlen
        clear hsf hord
        rcases Nat.lt_or_ge k xs.length with hlt | hge
        · have hI : decide (k < xs.length) = true := decide_eq_true hlt
          have hr0 : 0 < rest.length := by omega
          have hr1 : rest.length ≤ 1000000 := by omega
          clear hlen
          go_wp2_with fail
          go_at_call 22
          refine (peekB hQ hr0).mono ?_
          rintro e w2 ⟨i1, p1, p2, rfl, hF1, hE2⟩
          have hF1 := hid hF1
          go_wp2_with fail
          have hE2a : Ext wr (w2.alloc (.cells #[.int .i64 p1, .int .i64 p2] 33)) := ext_trans hE2 ((Below.refl _ w2).alloc (Nat.le_refl _) _)
          have P1 := Blk.new w2 33 #[.int .i64 p1, .int .i64 p2]
          go_at_call 19
          refine (takeB (hQ.ext hE2a) hr0 hr1).mono ?_
          rintro e w3 ⟨i2, x1, x2, rfl, hF2, hQ3, hSt⟩
          obtain ⟨rfl, hpx⟩ := hF1.out.unique Picked.cmpI_anti hF2
          simp only [Prod.mk.injEq] at hpx
          obtain ⟨rfl, rfl⟩ := hpx
          clear hF1
          have P1 := hSt _ _ _ P1 (by decide) (by decide) (by decide)
          have hS := hSt _ _ _ (hS.ext hE2a) (by decide) (by decide) (by decide)
          have hB := hSt _ _ _ (hB.ext hE2a) (by decide) (by decide) (by decide)
          have HF := hid hF2
          clear hF2 hE2 hE2a hSt hQ
          obtain ⟨j, hj, hpj⟩ := mem_made (hsub.mem (List.mem_of_getElem? HF.out.at_))
          simp only [Prod.mk.injEq] at hpj
          obtain ⟨hp1, rfl⟩ := hpj
          have hj0 : decide ((j : Int) < 0) = false := decide_eq_false (by omega)
          have hjn : decide (xs.length ≤ j) = false := decide_eq_false (by omega)
          obtain ⟨bb, off, rfl, hbb, hc⟩ := (h1.ext hQ3.le).cells (by omega)
          have hcj := hc j hj
          clear hc
          rw [← hp1] at hcj
          have HP1 := hid hp1
          clear hp1
          have hsj : w3.cell? ⟨wo.heap.size, j, none⟩ = some (.int .i64 0) := by
            rw [hS.cell (seenA_get hj)]
            have := HSF.out _ (List.mem_of_getElem? HF.out.at_)
            simp at this
            rw [this]
          have l3 := hB.lt
          go_wp2_with fail
          have P1 := P1.alloc (.cells #[.int .i64 p1, .int .i64 j] 33)
          have X1 := Blk.new w3 33 #[.int .i64 p1, .int .i64 j]
          have hS := hS.alloc (.cells #[.int .i64 p1, .int .i64 j] 33)
          have hB := hB.alloc (.cells #[.int .i64 p1, .int .i64 j] 33)
          have hcj : (w3.alloc (.cells #[.int .i64 p1, .int .i64 j] 33)).cell? ⟨bb, off + j, none⟩ = some (.int .i64 p1) := (((Below.refl _ w3).alloc (Nat.le_refl _) _).cell (p := ⟨bb, off + j, none⟩) hbb).trans hcj
          have hQ3 := hQ3.ext ((Below.refl _ w3).alloc (Nat.le_refl _) (.cells #[.int .i64 p1, .int .i64 j] 33))
          have hsj : (w3.alloc (.cells #[.int .i64 p1, .int .i64 j] 33)).cell? ⟨wo.heap.size, j, none⟩ = some (.int .i64 0) := by
            rw [hS.cell (seenA_get hj)]
            have := HSF.out _ (List.mem_of_getElem? HF.out.at_)
            simp at this
            rw [this]
          generalize hw4 : w3.alloc (.cells #[.int .i64 p1, .int .i64 j] 33) = w4 at *
          clear hbb hw4
          have hp0 : w4.cell? ⟨w2.heap.size, 0, none⟩ = some (.int .i64 p1) := P1.cell rfl
          have hp1 : w4.cell? ⟨w2.heap.size, 0 + 1, none⟩ = some (.int .i64 j) := P1.cell rfl
          have hx0 : w4.cell? ⟨w3.heap.size, 0, none⟩ = some (.int .i64 p1) := X1.cell rfl
          have hx1 : w4.cell? ⟨w3.heap.size, 0 + 1, none⟩ = some (.int .i64 j) := X1.cell rfl
          have hx2 : w4.cell? ⟨w3.heap.size, 1, none⟩ = some (.int .i64 j) := X1.cell rfl
          have hr0' : w4.cell? ⟨wo.heap.size + 1, 0, none⟩ = some (.int .i64 r1) := hB.cell rfl
          have hr1' : w4.cell? ⟨wo.heap.size + 1, 1, none⟩ = some (.int .i64 r2) := hB.cell rfl
          have hnq : ∀ w : World, (binOp .neq 33 (.agg #[.int .i64 p1, .int .i64 j]) (.agg #[.int .i64 p1, .int .i64 j])).run Try.prog w = .ok (.bool false) w := fun w => by rw [neq33]; simp
          have hjI : (j : Int) < (xs.length : Int) := by omega
          have hpp : (p1 != p1) = false := by simp
          rcases Nat.eq_zero_or_pos k with hk0 | hk0
          · subst hk0
            simp only [List.append]
            go_quiet (fail)
            have hdr := ext_drewN w4 nq
            have hS5 := hS.ext hdr
            have hB5 := hB.ext hdr
            have hQ5 := hQ3.ext hdr
            have X5 := X1.ext hdr
            have hsj5 : (w4.drewN nq).cell? ⟨wo.heap.size, j, none⟩ = some (.int .i64 0) := hsj
            clear hQ3 hsj hp0 hp1 hx0 hx1 hx2 hr0' hr1' hcj P1 X1 hdr
            generalize w4.drewN nq = w5 at *
            have hx0 : w5.cell? ⟨w3.heap.size, 0, none⟩ = some (.int .i64 p1) := X5.cell rfl
            have hx1 : w5.cell? ⟨w3.heap.size, 0 + 1, none⟩ = some (.int .i64 j) := X5.cell rfl
            have hx2 : w5.cell? ⟨w3.heap.size, 1, none⟩ = some (.int .i64 j) := X5.cell rfl
            have hr0' : w5.cell? ⟨wo.heap.size + 1, 0, none⟩ = some (.int .i64 r1) := hB5.cell rfl
            have hr1' : w5.cell? ⟨wo.heap.size + 1, 1, none⟩ = some (.int .i64 r2) := hB5.cell rfl
            have fS := hS5.frozen
            have fB := hB5.frozen
            have HS5 := hid hS5
            have ne1 : ¬ w3.heap.size = wo.heap.size := by omega
            have ne2 : ¬ wo.heap.size = w3.heap.size := by omega
            have ne3 : ¬ w3.heap.size = wo.heap.size + 1 := by omega
            have ne4 : ¬ wo.heap.size + 1 = w3.heap.size := by omega
            clear hS5 hS
            go_wp2_with fail
            exact ⟨sort_step hsub HF.out HLEN.out hj HS5.out hB5 hQ5 HSF.out hz (by omega) (by omega) rfl, by simp [intOf] <;> omega⟩
          · have hk1 : (0 : Int) < (k : Int) := by omega
            have hord := HORD.out hk0 _ (List.mem_of_getElem? HF.out.at_)
            dsimp only at hord
            have hq1 : decide (p1 < r1) = false := decide_eq_false (by omega)
            by_cases heq : p1 = r1
            · have hq2 : (p1 == r1) = true := by simp [heq]
              have hq3 : decide ((j : Int) < r2) = false := decide_eq_false (by have := hord.2 heq.symm; omega)
              clear hord heq
              simp only [List.append]
              go_quiet (fail)
              have hdr := ext_drewN w4 nq
              have hS5 := hS.ext hdr
              have hB5 := hB.ext hdr
              have hQ5 := hQ3.ext hdr
              have X5 := X1.ext hdr
              have hsj5 : (w4.drewN nq).cell? ⟨wo.heap.size, j, none⟩ = some (.int .i64 0) := hsj
              clear hQ3 hsj hp0 hp1 hx0 hx1 hx2 hr0' hr1' hcj P1 X1 hdr
              generalize w4.drewN nq = w5 at *
              have hx0 : w5.cell? ⟨w3.heap.size, 0, none⟩ = some (.int .i64 p1) := X5.cell rfl
              have hx1 : w5.cell? ⟨w3.heap.size, 0 + 1, none⟩ = some (.int .i64 j) := X5.cell rfl
              have hx2 : w5.cell? ⟨w3.heap.size, 1, none⟩ = some (.int .i64 j) := X5.cell rfl
              have hr0' : w5.cell? ⟨wo.heap.size + 1, 0, none⟩ = some (.int .i64 r1) := hB5.cell rfl
              have hr1' : w5.cell? ⟨wo.heap.size + 1, 1, none⟩ = some (.int .i64 r2) := hB5.cell rfl
              have fS := hS5.frozen
              have fB := hB5.frozen
              have HS5 := hid hS5
              have ne1 : ¬ w3.heap.size = wo.heap.size := by omega
              have ne2 : ¬ wo.heap.size = w3.heap.size := by omega
              have ne3 : ¬ w3.heap.size = wo.heap.size + 1 := by omega
              have ne4 : ¬ wo.heap.size + 1 = w3.heap.size := by omega
              clear hS5 hS
              go_wp2_with fail
              exact ⟨sort_step hsub HF.out HLEN.out hj HS5.out hB5 hQ5 HSF.out hz (by omega) (by omega) rfl, by simp [intOf] <;> omega⟩
            · have hq2 : (p1 == r1) = false := by simp [heq]
              clear hord heq
              simp only [List.append]
              go_quiet (fail)
              have hdr := ext_drewN w4 nq
              have hS5 := hS.ext hdr
              have hB5 := hB.ext hdr
              have hQ5 := hQ3.ext hdr
              have X5 := X1.ext hdr
              have hsj5 : (w4.drewN nq).cell? ⟨wo.heap.size, j, none⟩ = some (.int .i64 0) := hsj
              clear hQ3 hsj hp0 hp1 hx0 hx1 hx2 hr0' hr1' hcj P1 X1 hdr
              generalize w4.drewN nq = w5 at *
              have hx0 : w5.cell? ⟨w3.heap.size, 0, none⟩ = some (.int .i64 p1) := X5.cell rfl
              have hx1 : w5.cell? ⟨w3.heap.size, 0 + 1, none⟩ = some (.int .i64 j) := X5.cell rfl
              have hx2 : w5.cell? ⟨w3.heap.size, 1, none⟩ = some (.int .i64 j) := X5.cell rfl
              have hr0' : w5.cell? ⟨wo.heap.size + 1, 0, none⟩ = some (.int .i64 r1) := hB5.cell rfl
              have hr1' : w5.cell? ⟨wo.heap.size + 1, 1, none⟩ = some (.int .i64 r2) := hB5.cell rfl
              have fS := hS5.frozen
              have fB := hB5.frozen
              have HS5 := hid hS5
              have ne1 : ¬ w3.heap.size = wo.heap.size := by omega
              have ne2 : ¬ wo.heap.size = w3.heap.size := by omega
              have ne3 : ¬ w3.heap.size = wo.heap.size + 1 := by omega
              have ne4 : ¬ wo.heap.size + 1 = w3.heap.size := by omega
              clear hS5 hS
              go_wp2_with fail
              exact ⟨sort_step hsub HF.out HLEN.out hj HS5.out hB5 hQ5 HSF.out hz (by omega) (by omega) rfl, by simp [intOf] <;> omega⟩
        · have hI : decide (k < xs.length) = false := decide_eq_false (by omega)
          have hr0 : rest = [] := List.eq_nil_of_length_eq_zero (by omega)
          subst hr0
          clear hlen hS hB
          go_wp2_with fail
          go_at_call 19
          refine (takeA_none hQ).mono ?_
          rintro e w2 ⟨rfl, hE2⟩
          have hQ2 := (hQ.ext hE2).ext ((Below.refl _ w2).alloc (Nat.le_refl _) (.cells #[.int .i64 0, .int .i64 0] 33))
          clear hQ hE2
          go_wp2_with fail
          go_at_call 20
          refine (lenB hQ2).mono ?_
          rintro e w' ⟨rfl, rfl⟩
          go_wp2_with (go_at_call 9; refine (awake_any _).mono ?_; rintro e w4 ⟨rfl, k1⟩)
          go_ret
          exact ⟨rfl, ext_trans hQ2.le k1⟩
end Go.Proofs.Ytlghkcamnfegdaa
