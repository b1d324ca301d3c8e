/-
  The queue seat: by the other order things of unlike ranks are taken the other way round.
-/
import Derived.Test.YtlghkcamnfegdaaN5
namespace Go.Proofs.Ytlghkcamnfegdaa
open Go.RowKit Go.Spy Go.Heaped

abbrev bhd (a b : Int) : Int := cmpI b a
def turn (t : Int × Int) : Int × Int := (-t.1, t.2)
theorem bhd_neg (a b : Int) : bhd a b = cmpI (-a) (-b) := by
  show Picked.cmpI b a = Picked.cmpI (-a) (-b)
  unfold Picked.cmpI
  rcases Int.lt_trichotomy a b with h | h | h
  · rw [if_neg (by omega), if_pos h, if_neg (by omega), if_pos (by omega)]
  · rw [if_neg (by omega), if_neg (by omega), if_neg (by omega), if_neg (by omega)]
  · rw [if_pos h, if_pos (by omega)]
theorem first_turned {l : List (Int × Int)} {i : Nat} {x : Int × Int} (h : Picked.IsFirst bhd l i x) : Picked.IsFirst cmpI (l.map turn) i (turn x) where
  at_ := by rw [List.getElem?_map, h.at_]; rfl
  before j y hj hy := by
    rw [List.getElem?_map] at hy
    obtain ⟨z, hz, rfl⟩ := Option.map_eq_some_iff.1 hy
    have := h.before j z hj hz
    rwa [bhd_neg] at this
  behind j y hj hy := by
    rw [List.getElem?_map] at hy
    obtain ⟨z, hz, rfl⟩ := Option.map_eq_some_iff.1 hy
    have := h.behind j z hj hz
    rwa [bhd_neg] at this
theorem sel_turned {l out : List (Int × Int)} (h : Picked.Sel bhd l out) : Picked.Sel cmpI (l.map turn) (out.map turn) := by
  induction h with
  | nil => exact .nil
  | cons h t ih => exact .cons (first_turned h) (by rw [← map_erase]; exact ih)
theorem turn_turn (l : List (Int × Int)) : (l.map turn).map turn = l := by
  rw [List.map_map]
  have : turn ∘ turn = id := by funext t; simp [turn]
  rw [this, List.map_id]
theorem perm_short {l m : List (Int × Int)} (h : l.Perm m) (hl : m.length ≤ 1) : l = m := by
  match m, hl with
  | [], _ => exact h.eq_nil
  | [x], _ => exact List.perm_singleton.1 h
/-- By the other order the other way round. -/
theorem turned {m a b : List (Int × Int)} (hd : m.Pairwise (fun x y => x.1 ≠ y.1)) (h : Picked.Sel cmpI m a) (k : Picked.Sel bhd m b) : a = b.reverse := by
  have k' := sel_turned k
  have hbp : b.Perm m := by
    have := k'.perm.map turn
    rwa [turn_turn, turn_turn] at this
  have hbr : Picked.Rise b.reverse := by
    have := k'.rise
    unfold Picked.Rise at this ⊢
    rw [List.pairwise_map] at this
    rw [List.pairwise_reverse]
    exact this.imp (fun h => by simp only [turn] at h; omega)
  refine Picked.eq_of_ranks h.rise hbr (fun r => ?_)
  have h1 : (Picked.ofRank r a).Perm (Picked.ofRank r m) := h.perm.filter _
  have h2 : (Picked.ofRank r b.reverse).Perm (Picked.ofRank r m) := ((List.reverse_perm b).trans hbp).filter _
  have h3 : (Picked.ofRank r m).length ≤ 1 := by
    have hp : (Picked.ofRank r m).Pairwise (fun x y => x.1 ≠ y.1) := hd.sublist List.filter_sublist
    match hm : Picked.ofRank r m, hp with
    | [], _ => simp
    | [_], _ => simp
    | x :: y :: l, hp =>
      have hx : x ∈ Picked.ofRank r m := by rw [hm]; simp
      have hy : y ∈ Picked.ofRank r m := by rw [hm]; simp
      simp only [Picked.ofRank, List.mem_filter, beq_iff_eq] at hx hy
      rw [List.pairwise_cons] at hp
      exact absurd (hx.2.trans hy.2.symm) (hp.1 y (by simp))
  rw [perm_short h1 h3, perm_short h2 h3]
theorem made_unlike {xs : List Int} (h : xs.Nodup) : (madeL xs 0).Pairwise (fun x y => x.1 ≠ y.1) := by
  rw [List.pairwise_iff_getElem]
  intro i j hi hj hij
  simp only [madeL, List.getElem_mapIdx]
  rw [madeL_len] at hi hj
  exact List.pairwise_iff_getElem.1 h i j hi hj hij

/-- Two queues of one call, the one by the order, the other one by the other order. -/
def Q2 (w : World) (Z : Nat) (wr : World) (ts us : List (Int × Int)) (n m : Nat) : Prop :=
  ∃ S1 S2, QM cmpI wr w.heap.size (w.heap.size + 1) w.heap.size 13 ts n S1 ∧ QM bhd wr Z (Z + 1) Z 17 us m S2 ∧ (∀ k, S1 k → ¬ S2 k) ∧ (∀ k, S1 k → w.heap.size ≤ k) ∧ (∀ k, S2 k → w.heap.size ≤ k) ∧ Ext w wr
section
variable {w wr w' : World} {Z n m : Nat} {ts us : List (Int × Int)}
theorem Q2.le (h : Q2 w Z wr ts us n m) : Ext w wr := by
  obtain ⟨S1, S2, _, _, _, _, _, h⟩ := h
  exact h
theorem Q2.ext (h : Q2 w Z wr ts us n m) (e : Ext wr w') : Q2 w Z w' ts us n m := by
  obtain ⟨S1, S2, h1, h2, h3, h4, h5, h6⟩ := h
  exact ⟨S1, S2, h1.ext e, h2.ext e, h3, h4, h5, ext_trans h6 e⟩
theorem ext_moved {S : Nat → Prop} (hE : Ext w wr) (hC : Chg S wr w') (hS : ∀ k, S k → w.heap.size ≤ k) : Ext w w' :=
  Chg.below (S := S) ⟨hC.os.trans hE.os, hC.tape.trans hE.tape, hC.output.trans hE.output, Nat.le_trans hE.size hC.size, fun k hk hs => (hC.block k (Nat.lt_of_lt_of_le hk hE.size) hs).trans (hE.block k hk)⟩ (Nat.le_refl _) hS
theorem Q2.grown (h : Q2 w Z wr ts us n m) {row : Option Nat} (g : wr.grownBy w' row) (hr : ∀ k, row = some k → w.heap.size ≤ k ∧ ∃ cur, Blk wr k 33 cur) : Q2 w Z w' ts us n m := by
  obtain ⟨S1, S2, h1, h2, h3, h4, h5, h6⟩ := h
  have hc : Chg (fun k => row = some k) wr w' := (Chg.refl _ _).grown g (fun k e => e)
  refine ⟨S1, S2, h1.kept hc (fun k hk e => ?_) (fun e => ?_), h2.kept hc (fun k hk e => ?_) (fun e => ?_), h3, h4, h5, ext_grown h6 g (fun k hk => (hr k hk).1)⟩
  · obtain ⟨_, cur, hb⟩ := hr k e
    exact h1.not_type hb (by decide) (by decide) (by decide) hk
  · obtain ⟨_, cur, hb⟩ := hr _ e
    obtain ⟨cur2, hb2⟩ := h1.bo_type
    exact blk_ne hb hb2 (by decide) rfl
  · obtain ⟨_, cur, hb⟩ := hr k e
    exact h2.not_type hb (by decide) (by decide) (by decide) hk
  · obtain ⟨_, cur, hb⟩ := hr _ e
    obtain ⟨cur2, hb2⟩ := h2.bo_type
    exact blk_ne hb hb2 (by decide) rfl

theorem put1 (h : Q2 w Z wr ts us n m) (t : Int × Int) (hl : ts.length + 1 ≤ 1000000) (hn : n ≤ 1000000) :
    Calls Try.prog 18 #[.pointer (some ⟨w.heap.size + 1, 0, none⟩), thingV t] wr fun e w' => e = .returned (.int .i64 0) ∧ Q2 w Z w' (ts ++ [t]) us (n + 1) m := by
  obtain ⟨S1, S2, h1, h2, h3, h4, h5, h6⟩ := h
  refine (putQ ord13 fn13 h1 t (by omega) (by omega)).mono ?_
  rintro e w' ⟨rfl, S1', hq, hM⟩
  obtain ⟨cur, hb⟩ := h2.bo_type
  refine ⟨rfl, S1', S2, hq, h2.kept hM.chg (fun k hk x => h3 k x hk) (h1.not_type hb (by decide) (by decide) (by decide)), fun k hk x => ?_, fun k hk => ?_, h5, ext_moved h6 hM.chg h4⟩
  · rcases hM.sub k hk with c | c
    · exact h3 k c x
    · have := h2.lt k x; omega
  · exact (hM.sub k hk).elim (h4 k) (fun c => Nat.le_trans h6.size c)
theorem put2 (h : Q2 w Z wr ts us n m) (t : Int × Int) (hl : us.length + 1 ≤ 1000000) (hn : m ≤ 1000000) :
    Calls Try.prog 18 #[.pointer (some ⟨Z + 1, 0, none⟩), thingV t] wr fun e w' => e = .returned (.int .i64 0) ∧ Q2 w Z w' ts (us ++ [t]) n (m + 1) := by
  obtain ⟨S1, S2, h1, h2, h3, h4, h5, h6⟩ := h
  refine (putQ ord17 fn17 h2 t (by omega) (by omega)).mono ?_
  rintro e w' ⟨rfl, S2', hq, hM⟩
  obtain ⟨cur, hb⟩ := h1.bo_type
  refine ⟨rfl, S1, S2', h1.kept hM.chg h3 (h2.not_type hb (by decide) (by decide) (by decide)), hq, fun k hk x => ?_, h4, fun k hk => ?_, ext_moved h6 hM.chg h5⟩
  · rcases hM.sub k x with c | c
    · exact h3 k hk c
    · have := h1.lt k hk; omega
  · exact (hM.sub k hk).elim (h5 k) (fun c => Nat.le_trans h6.size c)
theorem take1 (h : Q2 w Z wr ts us n m) (h0 : 0 < ts.length) (hl : ts.length ≤ 1000000) :
    Calls Try.prog 19 #[.pointer (some ⟨w.heap.size + 1, 0, none⟩)] wr fun e w' => ∃ (i : Nat) (x1 x2 : Int), e = .returned (.tuple #[.agg #[.int .i64 x1, .int .i64 x2], .int .i64 0]) ∧ Picked.IsFirst cmpI ts i (x1, x2) ∧ Q2 w Z w' (ts.eraseIdx i) us n m ∧ Stands wr w' := by
  obtain ⟨S1, S2, h1, h2, h3, h4, h5, h6⟩ := h
  refine (takeQ ord13 fn13 h1 h0 (by omega)).mono ?_
  rintro e w' ⟨i, ⟨x1, x2⟩, hF, rfl, S1', hq, hM⟩
  obtain ⟨cur, hb⟩ := h2.bo_type
  refine ⟨i, x1, x2, rfl, hF, ⟨S1', S2, hq, h2.kept hM.chg (fun k hk x => h3 k x hk) (h1.not_type hb (by decide) (by decide) (by decide)), fun k hk x => ?_, fun k hk => ?_, h5, ext_moved h6 hM.chg h4⟩, fun k t cur hb t1 t2 t3 => hb.chg hM.chg (h1.not_type hb t1 t2 t3)⟩
  · rcases hM.sub k hk with c | c
    · exact h3 k c x
    · have := h2.lt k x; omega
  · exact (hM.sub k hk).elim (h4 k) (fun c => Nat.le_trans h6.size c)
theorem take2 (h : Q2 w Z wr ts us n m) (h0 : 0 < us.length) (hl : us.length ≤ 1000000) :
    Calls Try.prog 19 #[.pointer (some ⟨Z + 1, 0, none⟩)] wr fun e w' => ∃ (i : Nat) (x1 x2 : Int), e = .returned (.tuple #[.agg #[.int .i64 x1, .int .i64 x2], .int .i64 0]) ∧ Picked.IsFirst bhd us i (x1, x2) ∧ Q2 w Z w' ts (us.eraseIdx i) n m ∧ Stands wr w' := by
  obtain ⟨S1, S2, h1, h2, h3, h4, h5, h6⟩ := h
  refine (takeQ ord17 fn17 h2 h0 (by omega)).mono ?_
  rintro e w' ⟨i, ⟨x1, x2⟩, hF, rfl, S2', hq, hM⟩
  obtain ⟨cur, hb⟩ := h1.bo_type
  refine ⟨i, x1, x2, rfl, hF, ⟨S1, S2', h1.kept hM.chg h3 (h2.not_type hb (by decide) (by decide) (by decide)), hq, fun k hk x => ?_, h4, fun k hk => ?_, ext_moved h6 hM.chg h5⟩, fun k t cur hb t1 t2 t3 => hb.chg hM.chg (h2.not_type hb t1 t2 t3)⟩
  · rcases hM.sub k x with c | c
    · exact h3 k hk c
    · have := h1.lt k hk; omega
  · exact (hM.sub k hk).elim (h5 k) (fun c => Nat.le_trans h6.size c)
theorem len1 (h : Q2 w Z wr ts us n m) : Calls Try.prog 20 #[.pointer (some ⟨w.heap.size + 1, 0, none⟩)] wr fun e w' => e = .returned (.int .i64 ts.length) ∧ w' = wr := by
  obtain ⟨S1, S2, h1, _⟩ := h
  exact lenQ h1
theorem len2 (h : Q2 w Z wr ts us n m) : Calls Try.prog 20 #[.pointer (some ⟨Z + 1, 0, none⟩)] wr fun e w' => e = .returned (.int .i64 us.length) ∧ w' = wr := by
  obtain ⟨S1, S2, _, h2, _⟩ := h
  exact lenQ h2
theorem new2 (h : QA w wr [] 0) :
    Calls Try.prog 16 #[.func (.func 17) #[] #[]] wr fun e w' => e = .returned (.tuple #[.pointer (some ⟨wr.heap.size + 1, 0, none⟩), .int .i64 0]) ∧ Q2 w wr.heap.size w' [] [] 0 0 := by
  obtain ⟨S, h1, h2, h3⟩ := h
  refine (newQ 17 bhd wr).mono ?_
  rintro e w' ⟨rfl, hq, hE⟩
  refine ⟨rfl, S, _, h1.ext hE, hq, fun k hk x => ?_, h2, fun k hk => ?_, ext_trans h3 hE⟩
  · have := h1.lt k hk; omega
  · have := h3.size; omega
end

def unlikeAt (w : World) (Z : Nat) (xs : List Int) (i : Value) (wr : World) : Prop :=
  ∃ k : Nat, i = .int .i64 k ∧ k ≤ xs.length ∧ (xs.take k).Nodup ∧ Q2 w Z wr [] [] 0 0
def unlikeIn (w : World) (Z : Nat) (xs : List Int) (k : Nat) (x : Int) (i : Value) (wr : World) : Prop :=
  ∃ j : Nat, i = .int .i64 j ∧ j ≤ k ∧ (∀ y ∈ xs.take j, y ≠ x) ∧ Q2 w Z wr [] [] 0 0
def fill2At (w : World) (Z : Nat) (xs : List Int) (i : Value) (wr : World) : Prop :=
  ∃ k : Nat, i = .int .i64 k ∧ k ≤ xs.length ∧ Q2 w Z wr (madeL (xs.take k) 0) (madeL (xs.take k) 0) k k
def drain2At (w : World) (Z : Nat) (all : List (Int × Int)) (vA vB i : Value) (wr : World) : Prop :=
  ∃ (k : Nat) (r1 r2 A B : List (Int × Int)), i = .int .i64 k ∧ r1.length + k = all.length ∧ r2.length + k = all.length ∧ A.length = k ∧ B.length = k ∧ Q2 w Z wr r1 r2 all.length all.length ∧
    wr.ownsRow w.heap.size 33 2 vA A.length (A.flatMap pairC) ∧ wr.ownsRow w.heap.size 33 2 vB B.length (B.flatMap pairC) ∧ (∀ k, vA.ownBlock = some k → vB.ownBlock ≠ some k) ∧
    (∀ out, Picked.Sel cmpI r1 out → Picked.Sel cmpI all (A ++ out)) ∧ (∀ out, Picked.Sel bhd r2 out → Picked.Sel bhd all (B ++ out))
def sameAt (w : World) (Z : Nat) (all A B : List (Int × Int)) (n : Nat) (vA vB i : Value) (wr : World) : Prop :=
  ∃ k : Nat, i = .int .i64 k ∧ k ≤ n ∧ Q2 w Z wr [] [] all.length all.length ∧ wr.ownsRow w.heap.size 33 2 vA n (A.flatMap pairC) ∧ wr.ownsRow w.heap.size 33 2 vB n (B.flatMap pairC)

theorem row_ne {a b : Option Nat} (h : ∀ k, a = some k → b ≠ some k) : b = none ∨ b ≠ a := by
  cases b with
  | none => exact .inl rfl
  | some k => exact .inr (fun e => h k e.symm rfl)
set_option maxRecDepth 100000 in
theorem turns_long {w : World} {ao : Option Addr} {ca n : Nat} (hl : 60 < n) :
    Calls Try.prog 5 #[.slice ao n ca] w fun e w' => e = .returned (.bool true) ∧ Ext w w' := by
  have q1 : (60 : Int) < (n : Int) := by omega
  go_enter Try.func5, Try.ntmps5
  go_wp2_with fail
  go_at_call 16
  refine (newA w).mono ?_
  rintro e w1 ⟨rfl, hQ0⟩
  go_wp2_with fail
  go_at_call 16
  refine (new2 hQ0).mono ?_
  rintro e w2 ⟨rfl, hQ⟩
  go_wp2_with (go_at_call 9; refine (awake_any _).mono ?_; rintro e w4 ⟨rfl, k1⟩)
  go_ret
  exact ⟨rfl, ext_trans hQ.le k1⟩

theorem nodup_take {xs : List Int} {k : Nat} (h : k < xs.length) (h1 : (xs.take k).Nodup) (h2 : ∀ y ∈ xs.take k, y ≠ xs[k]) : (xs.take (k + 1)).Nodup := by
  rw [List.take_succ_eq_append_getElem h]
  unfold List.Nodup
  rw [List.pairwise_append]
  exact ⟨h1, List.pairwise_singleton _ _, fun a ha b hb => by simp only [List.mem_singleton] at hb; subst hb; exact h2 a ha⟩

set_option maxRecDepth 100000 in
set_option maxHeartbeats 12800000 in
theorem turns_any {w : World} {ao : Option Addr} {ca : Nat} {xs : List Int} (h1 : IntsV w ao xs) (hl : xs.length ≤ 60) :
    Calls Try.prog 5 #[.slice ao xs.length ca] w fun e w' => e = .returned (.bool true) ∧ Ext w w' := by
  have q1 : decide ((60 : Int) < (xs.length : Int)) = false := decide_eq_false (by omega)
  go_enter Try.func5, Try.ntmps5
  go_wp2_with fail
  go_at_call 16
  refine (newA w).mono ?_
  rintro e w1 ⟨rfl, hQ0⟩
  go_wp2_with fail
  go_at_call 16
  refine (new2 hQ0).mono ?_
  rintro e w2 ⟨rfl, hQ⟩
  clear hQ0
  generalize w1.heap.size = Z at *
  go_wp2_with fail
  go_loopw [7] (fun i wr => unlikeAt w Z xs i wr) (fun i _ => xs.length - (intOf i).toNat)
  case atStart => exact ⟨0, rfl, Nat.zero_le _, by simp, hQ⟩
  case round =>
    clear hQ
    obtain ⟨k, rfl, hk, hND, hQ⟩ := hrel
    have HND := hid hND
    clear hND
    rcases Nat.lt_or_ge k xs.length with hlt | hge
    · have hI : decide (k < xs.length) = true := decide_eq_true hlt
      obtain ⟨bb, off, rfl, hbb, hc⟩ := h1.cells (by omega)
      have hck := hc k hlt
      have HC := hid hc
      clear hc
      obtain ⟨x, hx⟩ : ∃ x, x = xs[k] := ⟨_, rfl⟩
      rw [← hx] at hck
      have HX := hid hx
      have HCK := hid hck
      clear hx hck
      obtain ⟨wo, rfl⟩ : ∃ wo : World, wo = wr := ⟨_, rfl⟩
      go_wp2_with fail
      go_loopw [8] (fun i wr => unlikeIn w Z xs k x i wr) (fun i _ => k - (intOf i).toNat)
      case atStart => exact ⟨0, rfl, Nat.zero_le _, by simp, hQ⟩
      case round =>
        clear hQ
        obtain ⟨j, rfl, hj, hU, hQ⟩ := hrel
        have HU := hid hU
        clear hU
        rcases Nat.lt_or_ge j k with hjl | hjg
        · have hJ : decide (j < k) = true := decide_eq_true hjl
          have hjx : j < xs.length := by omega
          obtain ⟨y, hy⟩ : ∃ y, y = xs[j] := ⟨_, rfl⟩
          have hcy := HC.out j hjx
          rw [← hy] at hcy
          have HY := hid hy
          clear hy
          have c0 : wr.cell? ⟨bb, off + k, none⟩ = some (.int .i64 x) := (hQ.le.cell (p := ⟨bb, off + k, none⟩) hbb).trans HCK.out
          have c1 : wr.cell? ⟨bb, off + j, none⟩ = some (.int .i64 y) := (hQ.le.cell (p := ⟨bb, off + j, none⟩) hbb).trans hcy
          have i0 : (k : Int) < (xs.length : Int) := by omega
          have i1 : (j : Int) < (xs.length : Int) := by omega
          clear hcy
          by_cases heq : x = y
          · have hb : (x == y) = true := by simp [heq]
            clear heq
            go_wp2_with fail
            go_quiet (fail)
            go_wp2_with (go_at_call 9; refine (awake_any _).mono ?_; rintro e w4 ⟨rfl, k1⟩)
            go_ret
            exact ⟨rfl, ext_trans hQ.le (ext_trans (ext_drewN _ _) k1)⟩
          · have hb : (x == y) = false := by simp [heq]
            have HNE := hid heq
            clear heq
            go_wp2_with fail
            go_quiet (fail)
            go_wp2_with fail
            refine ⟨⟨j + 1, by go_num, by omega, ?_, hQ.ext (ext_drewN _ _)⟩, by simp [intOf]; omega⟩
            intro z hz
            rw [List.take_succ_eq_append_getElem hjx] at hz
            simp only [List.mem_append, List.mem_singleton] at hz
            rcases hz with hz | rfl
            · exact HU.out z hz
            · rw [← HY.out]; exact fun e => HNE.out e.symm
        · have hJ : decide (j < k) = false := decide_eq_false (by omega)
          have hUk : ∀ y ∈ xs.take k, y ≠ xs[k] := by
            have : j = k := by omega
            subst this
            rw [← HX.out]; exact HU.out
          have HUK := hid hUk
          clear hUk
          go_wp2_with fail
          exact ⟨⟨k + 1, by go_num, by omega, nodup_take hlt HND.out HUK.out, hQ⟩, by simp [intOf]; omega⟩
    · have hI : decide (k < xs.length) = false := decide_eq_false (by omega)
      have hnd : xs.Nodup := by
        have := HND.out
        rwa [List.take_of_length_le hge] at this
      have HD := hid hnd
      clear hnd HND
      go_wp2_with fail
      go_loopw [9] (fun i wr => fill2At w Z xs i wr) (fun i _ => xs.length - (intOf i).toNat)
      case atStart => exact ⟨0, rfl, Nat.zero_le _, hQ⟩
      case round =>
        clear hQ
        obtain ⟨k3, rfl, hk3, hQ⟩ := hrel
        rcases Nat.lt_or_ge k3 xs.length with hlt3 | hge3
        · have hI3 : decide (k3 < xs.length) = true := decide_eq_true hlt3
          obtain ⟨bb, off, rfl, hbb, hc⟩ := h1.cells (by omega)
          have hck := hc k3 hlt3
          clear hc
          obtain ⟨x, hx⟩ : ∃ x, x = xs[k3] := ⟨_, rfl⟩
          rw [← hx] at hck
          have HX := hid hx
          have HCK := hid hck
          clear hx hck
          have c0 : wr.cell? ⟨bb, off + k3, none⟩ = some (.int .i64 x) := (hQ.le.cell (p := ⟨bb, off + k3, none⟩) hbb).trans HCK.out
          have hle : (madeL (xs.take k3) 0).length + 1 ≤ 1000000 := by rw [madeL_len, List.length_take]; omega
          go_wp2_with fail
          go_at_call 18
          refine (put1 hQ (x, (k3 : Int)) hle (by omega)).mono ?_
          rintro e w3 ⟨rfl, hQ3⟩
          have c3 : w3.cell? ⟨bb, off + k3, none⟩ = some (.int .i64 x) := (hQ3.le.cell (p := ⟨bb, off + k3, none⟩) hbb).trans HCK.out
          clear hQ c0
          go_wp2_with fail
          go_at_call 18
          refine (put2 hQ3 (x, (k3 : Int)) hle (by omega)).mono ?_
          rintro e w4 ⟨rfl, hQ4⟩
          clear hQ3 c3
          go_wp2_with fail
          refine ⟨⟨k3 + 1, by go_num, by omega, ?_⟩, by simp [intOf]; omega⟩
          rw [madeL_take _ _ _ hlt3, ← HX.out, Int.zero_add]
          exact hQ4
        · have hI3 : decide (k3 < xs.length) = false := decide_eq_false (by omega)
          have hk3e : k3 = xs.length := by omega
          have hQ' : Q2 w Z wr (madeL xs 0) (madeL xs 0) (madeL xs 0).length (madeL xs 0).length := by
            rw [madeL_len]
            rw [hk3e, List.take_of_length_le (Nat.le_refl _)] at hQ
            exact hQ
          have HM := hid (madeL_len xs 0)
          have HT := hid (made_unlike HD.out)
          clear hQ hk3e HD
          generalize madeL xs 0 = M at *
          go_wp2_with fail
          go_loopw [10, 11, 12] (fun vA vB i wr => drain2At w Z M vA vB i wr) (fun _ _ i _ => xs.length - (intOf i).toNat)
          case atStart => exact ⟨0, M, M, [], [], rfl, rfl, rfl, rfl, rfl, hQ', World.ownsRow_nil _ _ 33 2, World.ownsRow_nil _ _ 33 2, fun k h => by simp [Value.ownBlock] at h, fun out h => h, fun out h => h⟩
          case round =>
            clear hQ'
            obtain ⟨k4, r1, r2, A, B, rfl, hl1, hl2, hlA, hlB, hQ, hA, hB, hne, hS1, hS2⟩ := hrel
            have HA := hid hA
            have HB := hid hB
            have HNE := hid hne
            have HS1 := hid hS1
            have HS2 := hid hS2
            have HL1 := hid hl1
            have HL2 := hid hl2
            have HLA := hid hlA
            have HLB := hid hlB
            have hMx : M.length = xs.length := HM.out
            rcases Nat.lt_or_ge k4 xs.length with hlt4 | hge4
            · have hI4 : decide (k4 < xs.length) = true := decide_eq_true hlt4
              have hr1 : 0 < r1.length := by omega
              have hr2 : 0 < r2.length := by omega
              have hr1' : r1.length ≤ 1000000 := by omega
              have hr2' : r2.length ≤ 1000000 := by omega
              have hA6 : A.length + 1 ≤ 1000000000 := by omega
              have hB6 : B.length + 1 ≤ 1000000000 := by omega
              clear hA hB hne hS1 hS2 hl1 hl2 hlA hlB hMx
              go_wp2_with fail
              go_at_call 19
              refine (take1 hQ hr1 hr1').mono ?_
              rintro e w3 ⟨i1, x1, x2, rfl, hF1, hQ3, hSt3⟩
              have HF1 := hid hF1
              have HA3 := hid (owns_stands HA.out hSt3 (by decide) (by decide) (by decide))
              have HB3 := hid (owns_stands HB.out hSt3 (by decide) (by decide) (by decide))
              clear hF1 hSt3 hQ HA HB
              go_wp2_with fail
              have D1 := Blk.new w3 33 #[.int .i64 x1, .int .i64 x2]
              have hQ3 := hQ3.ext ((Below.refl _ w3).alloc (Nat.le_refl _) (.cells #[.int .i64 x1, .int .i64 x2] 33))
              go_at_call 19
              refine (take2 hQ3 hr2 hr2').mono ?_
              rintro e w4 ⟨i2, y1, y2, rfl, hF2, hQ4, hSt4⟩
              have HF2 := hid hF2
              have HA4 := hid (owns_stands (HA3.out.alloc (.cells #[.int .i64 x1, .int .i64 x2] 33)) hSt4 (by decide) (by decide) (by decide))
              have HB4 := hid (owns_stands (HB3.out.alloc (.cells #[.int .i64 x1, .int .i64 x2] 33)) hSt4 (by decide) (by decide) (by decide))
              have D1 := hSt4 _ _ _ D1 (by decide) (by decide) (by decide)
              have hltA := HA3.out.lt
              have hltB := HB3.out.lt
              have HLTA := hid hltA
              have HLTB := hid hltB
              clear hF2 hSt4 hQ3 HA3 HB3 hltA hltB
              have hz4 := D1.lt
              have d10 : w4.cell? ⟨w3.heap.size, 0, none⟩ = some (.int .i64 x1) := D1.cell rfl
              have d11 : w4.cell? ⟨w3.heap.size, 1, none⟩ = some (.int .i64 x2) := D1.cell rfl
              have D2 := Blk.new w4 33 #[.int .i64 y1, .int .i64 y2]
              have hQ5 := hQ4.ext ((Below.refl _ w4).alloc (Nat.le_refl _) (.cells #[.int .i64 y1, .int .i64 y2] 33))
              have HA5 := hid (HA4.out.alloc (.cells #[.int .i64 y1, .int .i64 y2] 33))
              have HB5 := hid (HB4.out.alloc (.cells #[.int .i64 y1, .int .i64 y2] 33))
              have hz5 := hQ5.le.size
              clear hQ4 HA4 HB4
              go_wp2_with (first | (at_builtin; refine wpList_thing HA5 hz5 hA6 (x1, x2) (w4.heap.size + 1) (by simp) rfl (.tmp 127) (.tmp 129) rfl rfl rfl ?_; rintro g1 cap1 v1 w6 rfl HA6 HG6; have D2 := D2.grown HG6.out.1 (fun e => by have := (HLTA.out _ e.symm).2; omega); have d20 : w6.cell? ⟨w4.heap.size, 0, none⟩ = some (.int .i64 y1) := D2.cell rfl; have d21 : w6.cell? ⟨w4.heap.size, 0 + 1, none⟩ = some (.int .i64 y2) := D2.cell rfl; have d22 : w6.cell? ⟨w4.heap.size, 1, none⟩ = some (.int .i64 y2) := D2.cell rfl; have hQ6 := hQ5.grown HG6.out.1 (fun i hi => ⟨(HA5.out.lt i hi).1, own_type HA5.out hi⟩); have hz6 := hQ6.le.size; have HB6 := hid (HB5.out.kept HG6.out.1 (row_ne HNE.out))) | (at_builtin; refine wpList_thing HB6 hz6 hB6 (y1, y2) _ rfl rfl (.tmp 131) (.tmp 133) rfl rfl rfl ?_; rintro g2 cap2 v2 w7 rfl HB7 HG7))
              have hn1 : u11.ownBlock ≠ some g1 := by
                rcases HG6.out.2 with e | e
                · exact HNE.out g1 e
                · intro e2
                  have := (HLTB.out _ e2).2
                  simp at e
                  omega
              have hi1 : i1 < r1.length := (List.getElem?_eq_some_iff.1 HF1.out.at_).1
              have hi2 : i2 < r2.length := (List.getElem?_eq_some_iff.1 HF2.out.at_).1
              have e1 : (r1.eraseIdx i1).length = r1.length - 1 := by rw [List.length_eraseIdx, if_pos hi1]
              have e2 : (r2.eraseIdx i2).length = r2.length - 1 := by rw [List.length_eraseIdx, if_pos hi2]
              have l1 := HL1.out
              have l2 := HL2.out
              refine ⟨⟨k4 + 1, r1.eraseIdx i1, r2.eraseIdx i2, A ++ [(x1, x2)], B ++ [(y1, y2)], by go_num, by omega, by omega, by rw [List.length_append, HLA.out]; rfl, by rw [List.length_append, HLB.out]; rfl,
                hQ6.grown HG7.out.1 (fun i hi => ⟨(HB6.out.lt i hi).1, own_type HB6.out hi⟩), owns_len (HA6.out.kept HG7.out.1 (.inr (fun e => hn1 e.symm))), owns_len HB7.out, fun i hi e => ?_, fun out ho => ?_, fun out ho => ?_⟩, by simp [intOf]; omega⟩
              · simp only [Value.ownBlock, Option.some.injEq] at hi e
                subst hi
                rcases HG7.out.2 with c | c
                · rw [e] at c; exact hn1 c
                · have := (HA6.out.lt g1 rfl).2
                  omega
              · have := HS1.out _ (.cons HF1.out ho)
                rwa [List.append_assoc]
              · have := HS2.out _ (.cons HF2.out ho)
                rwa [List.append_assoc]
            · have hI4 : decide (k4 < xs.length) = false := decide_eq_false (by omega)
              have hr1 : r1 = [] := List.eq_nil_of_length_eq_zero (by omega)
              have hr2 : r2 = [] := List.eq_nil_of_length_eq_zero (by omega)
              subst hr1 hr2
              have hAB : A = B.reverse := turned HT.out (by simpa using hS1 [] .nil) (by simpa using hS2 [] .nil)
              have hAn : A.length = xs.length := by simp at hl1; omega
              have hBn : B.length = xs.length := by simp at hl1; omega
              have HAB := hid hAB
              have HAN := hid hAn
              have HBN := hid hBn
              rw [hAn] at hA
              rw [hBn] at hB
              obtain ⟨aA, cA, rfl, _, hgA⟩ := slice_form hA
              obtain ⟨aB, cB, rfl, _, hgB⟩ := slice_form hB
              have HA := hid hA
              have HB := hid hB
              clear hAB hAn hBn hA hB hne hS1 hS2 HS1 HS2 HNE hl1 hl2 hlA hlB HL1 HL2 HLA HLB hMx HT
              go_wp2_with fail
              go_loopw [17] (fun i wr => sameAt w Z M A B xs.length (.slice aA xs.length cA) (.slice aB xs.length cB) i wr) (fun i _ => xs.length - (intOf i).toNat)
              case atStart => exact ⟨0, rfl, Nat.zero_le _, hQ, HA.out, HB.out⟩
              case round =>
                clear hQ HA HB
                obtain ⟨k5, rfl, hk5, hQ, hA, hB⟩ := hrel
                rcases Nat.lt_or_ge k5 xs.length with hlt5 | hge5
                · have hI5 : decide (k5 < xs.length) = true := decide_eq_true hlt5
                  obtain ⟨gA, rfl⟩ := hgA (by omega)
                  obtain ⟨gB, rfl⟩ := hgB (by omega)
                  obtain ⟨d, hd⟩ : ∃ d, d + k5 + 1 = xs.length := ⟨xs.length - 1 - k5, by omega⟩
                  have hkA : k5 < A.length := by rw [HAN.out]; exact hlt5
                  have hdB : d < B.length := by rw [HBN.out]; omega
                  obtain ⟨x, hx⟩ : ∃ x, x = A[k5] := ⟨_, rfl⟩
                  have hy : B[d] = x := by
                    rw [hx]
                    simp only [HAB.out, List.getElem_reverse]
                    congr 1
                    rw [HBN.out]; omega
                  obtain ⟨c0, c1⟩ := pair_cells hA (j := k5) (x := x) (by rw [hx]; exact List.getElem?_eq_getElem hkA)
                  obtain ⟨e0, e1⟩ := pair_cells hB (j := d) (x := x) (by rw [← hy]; exact List.getElem?_eq_getElem hdB)
                  obtain ⟨x1, x2⟩ := x
                  dsimp only at c0 c1 e0 e1
                  have hnq : ∀ w : World, (binOp .neq 33 (.agg #[.int .i64 x1, .int .i64 x2]) (.agg #[.int .i64 x1, .int .i64 x2])).run Try.prog w = .ok (.bool false) w := fun w => by rw [neq33]; simp
                  have hA' := hid hA
                  have hB' := hid hB
                  have w1' : IntKind.i64.wrap ((xs.length : Int) - 1) = (xs.length : Int) - 1 := IntWalk.i64_in _ (by omega)
                  have w2' : IntKind.i64.wrap ((xs.length : Int) - 1 - (k5 : Int)) = (d : Int) := by rw [IntWalk.i64_in _ (by omega)]; omega
                  have i0 : (k5 : Int) < (xs.length : Int) := by omega
                  have i1 : (d : Int) < (xs.length : Int) := by omega
                  clear hx hy hd hA hB
                  go_wp2_with fail
                  go_quiet (fail)
                  go_wp2_with fail
                  exact ⟨⟨k5 + 1, by go_num, by omega, hQ.ext (ext_drewN _ _), owns_chg (S := fun _ => False) hA'.out (Chg.of_ext (ext_drewN _ _)) (fun _ _ x => x), owns_chg (S := fun _ => False) hB'.out (Chg.of_ext (ext_drewN _ _)) (fun _ _ x => x)⟩, by simp [intOf]; omega⟩
                · have hI5 : decide (k5 < xs.length) = false := decide_eq_false (by omega)
                  go_wp2_with fail
                  go_at_call 20
                  refine (len1 hQ).mono ?_
                  rintro e w' ⟨rfl, rfl⟩
                  go_wp2_with fail
                  go_at_call 20
                  refine (len2 hQ).mono ?_
                  rintro e w' ⟨rfl, rfl⟩
                  go_wp2_with (go_at_call 9; refine (awake_any _).mono ?_; rintro e w4 ⟨rfl, k1⟩)
                  go_ret
                  exact ⟨rfl, ext_trans hQ.le k1⟩
end Go.Proofs.Ytlghkcamnfegdaa
