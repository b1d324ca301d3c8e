/-
  Walks of the reference's parts and Check.
-/
import Derived.Test.YtngpjagpeblbjaaDoorZW15

namespace Go.Proofs.YtngpjagpeblbjaaDoor
open Go.RowKit Go.Spy Go.Rx

def kidsI (n : Nd) : List Int := if n.op = 3 ∨ n.op = 4 then [n.a, n.b] else if n.op = 5 then [n.a] else []
theorem kids_of_I (n : Nd) : kids n = (kidsI n).map Int.toNat := by
  unfold kids kidsI
  split
  · rfl
  · split <;> rfl
theorem kidsI_le (n : Nd) : (kidsI n).length ≤ 2 := by
  unfold kidsI
  split
  · simp
  · split <;> simp
def okHead (n : Nd) : Bool := decide (0 ≤ n.op) && decide (n.op ≤ 5) && (decide (n.op = 2) || decide (n.sym = nil8)) && (decide (3 ≤ n.op) || decide (n.a = 0) && decide (n.b = 0)) && (decide (n.op ≠ 5) || decide (n.b = 0))
theorem ok_parts (k : Nat) (n : Nd) : okNode k n = (okHead n && (kidsI n).all (inR k)) := by
  by_cases o0 : n.op = 0
  · simp [ok01 (.inl o0), okHead, kidsI, o0, Bool.and_assoc]
  by_cases o1 : n.op = 1
  · simp [ok01 (.inr o1), okHead, kidsI, o1, Bool.and_assoc]
  by_cases o2 : n.op = 2
  · simp [ok2 o2, okHead, kidsI, o2]
  by_cases o3 : n.op = 3
  · simp [ok34 (.inl o3), okHead, kidsI, o3, Bool.and_assoc]
  by_cases o4 : n.op = 4
  · simp [ok34 (.inr o4), okHead, kidsI, o4, Bool.and_assoc]
  by_cases o5 : n.op = 5
  · simp [ok5 o5, okHead, kidsI, o5]
    cases decide (n.sym = nil8) <;> cases inR k n.a <;> simp
  · have : okHead n = false := by
      have h : n.op < 0 ∨ 5 < n.op := by omega
      unfold okHead
      rcases h with h | h
      · rw [show decide (0 ≤ n.op) = false by simp; omega]; simp
      · rw [show decide (n.op ≤ 5) = false by simp; omega]; simp
    rw [this]
    simp [okNode, o0, o1, o2, o3, o4, o5]

/-- The slice value reads as numbers, in new memory. -/
def IntsAt (w : World) (base : Nat) (v : Value) (xs : List Int) : Prop :=
  ∃ ao c, v = .slice ao xs.length c ∧ ∀ (j : Nat) (x : Int), xs[j]? = some x → ∃ g, ao = some ⟨g, 0, none⟩ ∧ base ≤ g ∧ g < w.heap.size ∧ w.cell? ⟨g, j, none⟩ = some (.int .i64 x)
def PartsPost (n : Nd) (w : World) (e : Ending) (w' : World) : Prop := ∃ v, e = .returned v ∧ IntsAt w' w.heap.size v (kidsI n) ∧ Ext w w'

set_option maxHeartbeats 400000 in
theorem parts_any (n : Nd) (w : World) : Calls Tryd.prog 19 #[.agg #[.int .i64 n.op, .string n.sym, .int .i64 n.a, .int .i64 n.b]] w (PartsPost n w) := by
  by_cases h : n.op = 3 ∨ n.op = 4
  · have HK := hid (show kidsI n = [n.a, n.b] by unfold kidsI; rw [if_pos h])
    have tt : (n.op == 3) = true ∨ ((n.op == 3) = false ∧ (n.op == 4) = true) := by
      rcases h with h | h <;> simp [h]
    clear h
    rcases tt with tt | ⟨tt, t2⟩
    all_goals
      go_enter Tryd.func19, Tryd.ntmps19
      go_wp2_with fail
      go_ret
      refine ⟨_, rfl, ⟨some ⟨w.heap.size + 1, 0, none⟩, 2, by rw [HK.out]; rfl, fun j x hj => ⟨_, rfl, by omega, by simp, ?_⟩⟩, ((Below.refl _ _).alloc (Nat.le_refl _) _).alloc (by simp) _⟩
      rw [HK.out] at hj
      exact (Blk.new' _ 3 #[.int .i64 n.a, .int .i64 n.b] (by simp)).cell (by match j, hj with | 0, hj => cases hj; rfl | 1, hj => cases hj; rfl)
  · have t3 : (n.op == 3) = false := by simp; omega
    have t4 : (n.op == 4) = false := by simp; omega
    by_cases h5 : n.op = 5
    · have t5 : (n.op == 5) = true := by simp [h5]
      have HK := hid (show kidsI n = [n.a] by unfold kidsI; rw [if_neg h, if_pos h5])
      clear h h5
      go_enter Tryd.func19, Tryd.ntmps19
      go_wp2_with fail
      go_ret
      refine ⟨_, rfl, ⟨some ⟨w.heap.size + 1, 0, none⟩, 1, by rw [HK.out]; rfl, fun j x hj => ⟨_, rfl, by omega, by simp, ?_⟩⟩, ((Below.refl _ _).alloc (Nat.le_refl _) _).alloc (by simp) _⟩
      rw [HK.out] at hj
      exact (Blk.new' _ 3 #[.int .i64 n.a] (by simp)).cell (by match j, hj with | 0, hj => cases hj; rfl)
    · have t5 : (n.op == 5) = false := by simp [h5]
      have HK := hid (show kidsI n = [] by unfold kidsI; rw [if_neg h, if_neg h5])
      clear h h5
      go_enter Tryd.func19, Tryd.ntmps19
      go_wp2_with fail
      go_ret
      exact ⟨_, rfl, ⟨none, 0, by rw [HK.out]; rfl, fun j x hj => by rw [HK.out] at hj; simp at hj⟩, (Below.refl _ _).alloc (Nat.le_refl _) _⟩

def natTo (n : Nd) (j : Nat) : List Nat := ((kidsI n).take j).map Int.toNat
def RefRel (l : List Nd) (w : World) (bU : Nat) (k : Nat) (v : Value) (wr : World) : Prop :=
  k ≤ l.length ∧ v = .int .i64 k ∧ (∀ i n, i < k → l[i]? = some n → okNode i n = true) ∧ Blk wr bU 3 (usesC (kidsTo l k) l.length) ∧ Ext w wr
def RefIn (l : List Nd) (k : Nat) (n : Nd) (w wo : World) (bU : Nat) (j : Nat) (v : Value) (wi : World) : Prop :=
  j ≤ (kidsI n).length ∧ v = .int .i64 j ∧ (∀ i x, i < j → (kidsI n)[i]? = some x → inR k x = true) ∧ Blk wi bU 3 (usesC (kidsTo l k ++ natTo n j) l.length) ∧ Chg (· = bU) wo wi

set_option maxRecDepth 100000 in
set_option maxHeartbeats 2000000 in
theorem refcheck_walk {l : List Nd} {w : World} {b off : Nat} (hV : NodesV w (some ⟨b, off, none⟩) l) (cap : Nat) (hl : l.length ≤ 1024) (h0 : 0 < l.length) (hb : b < w.heap.size)
    (hc : ∀ (i : Nat) (n : Nd), l[i]? = some n → w.cell? ⟨b, off + i * 4, none⟩ = some (.int .i64 n.op) ∧ w.cell? ⟨b, off + i * 4 + 1, none⟩ = some (.string n.sym) ∧ w.cell? ⟨b, off + i * 4 + 2, none⟩ = some (.int .i64 n.a) ∧ w.cell? ⟨b, off + i * 4 + 3, none⟩ = some (.int .i64 n.b)) :
    Calls Tryd.prog 8 #[.slice (some ⟨b, off, none⟩) l.length cap] w (CheckPost l w) := by
  have HC := hid hc
  have HV := hid hV
  have hl0 : ((l.length : Int) == 0) = false := beq_eq_false_iff_ne.2 (by omega)
  clear hc hV
  go_enter Tryd.func8, Tryd.ntmps8
  obtain ⟨i0, hti, hz0, hz1, hz2⟩ := info_parts Tryd.infoInt
  go_wp2_with (at_make; refine wpList_make_row _ rfl _ _ 47 rfl 3 i0 (.int .i64 0) Tryd.underlying47 hti hz0 hz1 rfl .i64 .i64 l.length rfl rfl (by rw [hz2]; omega) (by omega) ?_)
  have hmc : madeCells #[Value.int .i64 0] l.length = usesC [] l.length := by
    apply Array.ext_getElem?
    intro i
    by_cases hi : i < l.length
    · rw [usesC_get hi]; simp [madeCells, hi, Nat.mod_one]
    · simp [madeCells, usesC, hi]
  have HMC := hid hmc
  clear hmc
  go_loopg [4] l.length (fun g v wr => ∃ k, g = l.length - k ∧ RefRel l w w.heap.size k v wr)
  case atStart =>
    refine ⟨0, rfl, Nat.zero_le _, rfl, fun i n h => absurd h (Nat.not_lt_zero i), ?_, (Below.refl _ w).alloc (Nat.le_refl _) _⟩
    rw [show kidsTo l 0 = [] from rfl, ← HMC.out]
    exact Blk.new w _ _
  case round =>
    obtain ⟨k, rfl, hk, rfl, hok, hBU, hE⟩ := hrel
    have s2 := hBU.lt
    have HU := hid hBU
    have HE := hid hE
    have HOK := hid hok
    by_cases hlt : k < l.length
    · obtain ⟨n, hn⟩ : ∃ n, l[k]? = some n := ⟨_, List.getElem?_eq_getElem hlt⟩
      obtain ⟨q0, q1, q2, q3⟩ := HC.out k n hn
      have e0 : wr.cell? ⟨b, off + k * 4, none⟩ = some (.int .i64 n.op) := (hE.cell (p := ⟨b, off + k * 4, none⟩) hb).trans q0
      have e1 : wr.cell? ⟨b, off + k * 4 + 1, none⟩ = some (.string n.sym) := (hE.cell (p := ⟨b, off + k * 4 + 1, none⟩) hb).trans q1
      have e2 : wr.cell? ⟨b, off + k * 4 + 2, none⟩ = some (.int .i64 n.a) := (hE.cell (p := ⟨b, off + k * 4 + 2, none⟩) hb).trans q2
      have e3 : wr.cell? ⟨b, off + k * 4 + 3, none⟩ = some (.int .i64 n.b) := (hE.cell (p := ⟨b, off + k * 4 + 3, none⟩) hb).trans q3
      have HN := hid hn
      clear hn q0 q1 q2 q3 hE hBU hok
      go_upto_region 10 with fail
      go_cut [71] (fun v wx => v = .bool (!okHead n) ∧ wr.alloc (.cells #[.int .i64 n.op, .string n.sym, .int .i64 n.a, .int .i64 n.b] 46) = wx)
      case first =>
        by_cases ho : n.op = 0
        · have t0 : decide (n.op < 0) = false := by simp [ho]
          have t1 : decide (5 < n.op) = false := by simp [ho]
          have t2 : (n.op != 2) = true := by simp [ho]
          have t3 : decide (n.op < 3) = true := by simp [ho]
          have t4 : (n.op == 5) = false := by simp [ho]
          by_cases hs : n.sym.toList = []
          · have hse : n.sym.toList.isEmpty = true := by simp [hs]
            by_cases ha : n.a = 0
            · have ta : (n.a != 0) = false := by simp [ha]
              by_cases hb' : n.b = 0
              · have tb : (n.b != 0) = false := by simp [hb']
                have HO : Hid (okHead n = true) := hid (by simp [okHead, ho, ← sym_iff, hs, ha, hb'])
                clear ho ha hb'
                go_wp2_with fail
                go_meet
                exact ⟨by simp [HO.out], rfl⟩
              · have tb : (n.b != 0) = true := by simp [hb']
                have HO : Hid (okHead n = false) := hid (by simp [okHead, ho, ← sym_iff, hs, ha, hb'])
                clear ho ha hb'
                go_wp2_with fail
                go_meet
                exact ⟨by simp [HO.out], rfl⟩
            · have ta : (n.a != 0) = true := by simp [ha]
              have HO : Hid (okHead n = false) := hid (by simp [okHead, ho, ← sym_iff, hs, ha])
              clear ho ha
              go_wp2_with fail
              go_meet
              exact ⟨by simp [HO.out], rfl⟩
          · have hse : n.sym.toList.isEmpty = false := by simp [hs]
            have HO : Hid (okHead n = false) := hid (by simp [okHead, ho, ← sym_iff, hs])
            clear ho
            go_wp2_with fail
            go_meet
            exact ⟨by simp [HO.out], rfl⟩
        · have o0 := ho
          clear ho
          by_cases ho : n.op = 1
          · have t0 : decide (n.op < 0) = false := by simp [ho]
            have t1 : decide (5 < n.op) = false := by simp [ho]
            have t2 : (n.op != 2) = true := by simp [ho]
            have t3 : decide (n.op < 3) = true := by simp [ho]
            have t4 : (n.op == 5) = false := by simp [ho]
            by_cases hs : n.sym.toList = []
            · have hse : n.sym.toList.isEmpty = true := by simp [hs]
              by_cases ha : n.a = 0
              · have ta : (n.a != 0) = false := by simp [ha]
                by_cases hb' : n.b = 0
                · have tb : (n.b != 0) = false := by simp [hb']
                  have HO : Hid (okHead n = true) := hid (by simp [okHead, ho, ← sym_iff, hs, ha, hb'])
                  clear ho ha hb'
                  go_wp2_with fail
                  go_meet
                  exact ⟨by simp [HO.out], rfl⟩
                · have tb : (n.b != 0) = true := by simp [hb']
                  have HO : Hid (okHead n = false) := hid (by simp [okHead, ho, ← sym_iff, hs, ha, hb'])
                  clear ho ha hb'
                  go_wp2_with fail
                  go_meet
                  exact ⟨by simp [HO.out], rfl⟩
              · have ta : (n.a != 0) = true := by simp [ha]
                have HO : Hid (okHead n = false) := hid (by simp [okHead, ho, ← sym_iff, hs, ha])
                clear ho ha
                go_wp2_with fail
                go_meet
                exact ⟨by simp [HO.out], rfl⟩
            · have hse : n.sym.toList.isEmpty = false := by simp [hs]
              have HO : Hid (okHead n = false) := hid (by simp [okHead, ho, ← sym_iff, hs])
              clear ho
              go_wp2_with fail
              go_meet
              exact ⟨by simp [HO.out], rfl⟩
          · have o1 := ho
            clear ho
            by_cases ho : n.op = 2
            · have t0 : decide (n.op < 0) = false := by simp [ho]
              have t1 : decide (5 < n.op) = false := by simp [ho]
              have t2 : (n.op != 2) = false := by simp [ho]
              have t3 : decide (n.op < 3) = true := by simp [ho]
              have t4 : (n.op == 5) = false := by simp [ho]
              by_cases ha : n.a = 0
              · have ta : (n.a != 0) = false := by simp [ha]
                by_cases hb' : n.b = 0
                · have tb : (n.b != 0) = false := by simp [hb']
                  have HO : Hid (okHead n = true) := hid (by simp [okHead, ho, ha, hb'])
                  clear ho ha hb'
                  go_wp2_with fail
                  go_meet
                  exact ⟨by simp [HO.out], rfl⟩
                · have tb : (n.b != 0) = true := by simp [hb']
                  have HO : Hid (okHead n = false) := hid (by simp [okHead, ho, ha, hb'])
                  clear ho ha hb'
                  go_wp2_with fail
                  go_meet
                  exact ⟨by simp [HO.out], rfl⟩
              · have ta : (n.a != 0) = true := by simp [ha]
                have HO : Hid (okHead n = false) := hid (by simp [okHead, ho, ha])
                clear ho ha
                go_wp2_with fail
                go_meet
                exact ⟨by simp [HO.out], rfl⟩
            · have o2 := ho
              clear ho
              by_cases ho : n.op = 3
              · have t0 : decide (n.op < 0) = false := by simp [ho]
                have t1 : decide (5 < n.op) = false := by simp [ho]
                have t2 : (n.op != 2) = true := by simp [ho]
                have t3 : decide (n.op < 3) = false := by simp [ho]
                have t4 : (n.op == 5) = false := by simp [ho]
                by_cases hs : n.sym.toList = []
                · have hse : n.sym.toList.isEmpty = true := by simp [hs]
                  have HO : Hid (okHead n = true) := hid (by simp [okHead, ho, ← sym_iff, hs])
                  clear ho
                  go_wp2_with fail
                  go_meet
                  exact ⟨by simp [HO.out], rfl⟩
                · have hse : n.sym.toList.isEmpty = false := by simp [hs]
                  have HO : Hid (okHead n = false) := hid (by simp [okHead, ho, ← sym_iff, hs])
                  clear ho
                  go_wp2_with fail
                  go_meet
                  exact ⟨by simp [HO.out], rfl⟩
              · have o3 := ho
                clear ho
                by_cases ho : n.op = 4
                · have t0 : decide (n.op < 0) = false := by simp [ho]
                  have t1 : decide (5 < n.op) = false := by simp [ho]
                  have t2 : (n.op != 2) = true := by simp [ho]
                  have t3 : decide (n.op < 3) = false := by simp [ho]
                  have t4 : (n.op == 5) = false := by simp [ho]
                  by_cases hs : n.sym.toList = []
                  · have hse : n.sym.toList.isEmpty = true := by simp [hs]
                    have HO : Hid (okHead n = true) := hid (by simp [okHead, ho, ← sym_iff, hs])
                    clear ho
                    go_wp2_with fail
                    go_meet
                    exact ⟨by simp [HO.out], rfl⟩
                  · have hse : n.sym.toList.isEmpty = false := by simp [hs]
                    have HO : Hid (okHead n = false) := hid (by simp [okHead, ho, ← sym_iff, hs])
                    clear ho
                    go_wp2_with fail
                    go_meet
                    exact ⟨by simp [HO.out], rfl⟩
                · have o4 := ho
                  clear ho
                  by_cases ho : n.op = 5
                  · have t0 : decide (n.op < 0) = false := by simp [ho]
                    have t1 : decide (5 < n.op) = false := by simp [ho]
                    have t2 : (n.op != 2) = true := by simp [ho]
                    have t3 : decide (n.op < 3) = false := by simp [ho]
                    have t4 : (n.op == 5) = true := by simp [ho]
                    by_cases hs : n.sym.toList = []
                    · have hse : n.sym.toList.isEmpty = true := by simp [hs]
                      by_cases hb' : n.b = 0
                      · have tb : (n.b != 0) = false := by simp [hb']
                        have HO : Hid (okHead n = true) := hid (by simp [okHead, ho, ← sym_iff, hs, hb'])
                        clear ho hb'
                        go_wp2_with fail
                        go_meet
                        exact ⟨by simp [HO.out], rfl⟩
                      · have tb : (n.b != 0) = true := by simp [hb']
                        have HO : Hid (okHead n = false) := hid (by simp [okHead, ho, ← sym_iff, hs, hb'])
                        clear ho hb'
                        go_wp2_with fail
                        go_meet
                        exact ⟨by simp [HO.out], rfl⟩
                    · have hse : n.sym.toList.isEmpty = false := by simp [hs]
                      have HO : Hid (okHead n = false) := hid (by simp [okHead, ho, ← sym_iff, hs])
                      clear ho
                      go_wp2_with fail
                      go_meet
                      exact ⟨by simp [HO.out], rfl⟩
                  · have o5 := ho
                    clear ho
                    have HO : Hid (okHead n = false) := hid (by
                      have h : n.op < 0 ∨ 5 < n.op := by omega
                      unfold okHead
                      rcases h with h | h
                      · rw [show decide (0 ≤ n.op) = false by simp; omega]; simp
                      · rw [show decide (n.op ≤ 5) = false by simp; omega]; simp)
                    have hh : n.op < 0 ∨ (0 ≤ n.op ∧ 5 < n.op) := by omega
                    clear o0 o1 o2 o3 o4 o5
                    rcases hh with h | ⟨h, h'⟩
                    · have t0 : decide (n.op < 0) = true := by simp [h]
                      go_wp2_with fail
                      go_meet
                      exact ⟨by simp [HO.out], rfl⟩
                    · have t0 : decide (n.op < 0) = false := by simp; omega
                      have t1 : decide (5 < n.op) = true := by simp [h']
                      go_wp2_with fail
                      go_meet
                      exact ⟨by simp [HO.out], rfl⟩
      case rest =>
        obtain ⟨rfl, rfl⟩ := hcut
        cases hh : okHead n with
        | false =>
          have HH := hid hh
          clear hh
          go_wp2_with fail
          go_ret
          exact ⟨_, rfl, .inr (.inl ⟨hl, (fun F => by have := F.ok k n HN.out; rw [ok_parts, HH.out] at this; cases this), rfl⟩), HE.out.alloc HE.out.size _⟩
        | true =>
          have HH := hid hh
          clear hh e0 e1 e2 e3
          obtain ⟨wo, rfl⟩ : ∃ wo : World, wo = wr := ⟨_, rfl⟩
          go_wp2_with (first | (go_at_call 19; refine (parts_any n _).mono ?_; rintro e w1 ⟨v, rfl, ⟨ao, c, rfl, hcell⟩, hx⟩; have HCELL := hid hcell; have HX := hid hx; clear hcell hx))
          have hki := kidsI_le n
          have hsz1 := HX.out.size
          simp at hsz1
          have HEw : Hid (Ext w w1) := hid ((HE.out.alloc HE.out.size _).trans (HX.out.mono (by have := HE.out.size; simp; omega)))
          go_loopg [7] (kidsI n).length (fun g v wi => ∃ j, g = (kidsI n).length - j ∧ RefIn l k n w w1 w.heap.size j v wi)
          case atStart =>
            refine ⟨0, rfl, Nat.zero_le _, rfl, fun i x h => absurd h (Nat.not_lt_zero i), ?_, Chg.refl _ _⟩
            rw [show natTo n 0 = [] from rfl, List.append_nil]
            exact (HU.out.alloc _).ext HX.out
          case round =>
            obtain ⟨j, rfl, hj, rfl, hin, hBi, hCi⟩ := hrel
            have HIN := hid hin
            have HBi := hid hBi
            have HCi := hid hCi
            have HEi : Hid (Ext w wr) := hid (((Chg.of_ext (S := (· = w.heap.size)) HEw.out).trans hCi).below (Nat.le_refl _) (fun j hj => by omega))
            clear hin hBi hCi
            by_cases hjl : j < (kidsI n).length
            · obtain ⟨x, hxj⟩ : ∃ x, (kidsI n)[j]? = some x := ⟨_, List.getElem?_eq_getElem hjl⟩
              obtain ⟨g, rfl, hgb, hgl, hcx⟩ := HCELL.out j x hxj
              simp at hgb
              have HXJ := hid hxj
              have cx : wr.cell? ⟨g, j, none⟩ = some (.int .i64 x) := (cell_of_chg (a := ⟨g, j, none⟩) HCi.out hgl (by show ¬ _ = _; simp; omega)).trans hcx
              clear hxj hcx
              cases hR : inR k x with
              | false =>
                have HR := hid hR
                have hh : x < 0 ∨ (0 ≤ x ∧ (k : Int) ≤ x) := by
                  rcases Int.lt_or_le x 0 with h1 | h1
                  · exact .inl h1
                  · refine .inr ⟨h1, ?_⟩
                    simp [inR, h1] at hR; exact hR
                clear hR
                have HNF : Hid (¬ Rx.Form l) := hid (fun F => by
                  have h1 := F.ok k n HN.out
                  rw [ok_parts, HH.out, Bool.true_and, List.all_eq_true] at h1
                  have := h1 x (List.mem_of_getElem? HXJ.out)
                  rw [HR.out] at this; cases this)
                rcases hh with h | ⟨h, h'⟩
                · have t0 : decide (x < 0) = true := by simp [h]
                  go_wp2_with fail
                  go_ret
                  exact ⟨_, rfl, .inr (.inl ⟨hl, HNF.out, rfl⟩), HEi.out⟩
                · have t0 : decide (x < 0) = false := by simp; omega
                  have t1 : decide ((k : Int) ≤ x) = true := by simp [h']
                  go_wp2_with fail
                  go_ret
                  exact ⟨_, rfl, .inr (.inl ⟨hl, HNF.out, rfl⟩), HEi.out⟩
              | true =>
                obtain ⟨y, hy, hyk⟩ := inR_nat hR
                have HR := hid hR
                have HY := hid hy
                rw [hy] at cx
                clear hR hy
                have hyl : y < l.length := by omega
                have t0 : decide ((y : Int) < 0) = false := by simp
                have t1 : decide (k ≤ y) = false := by simp; omega
                have cu := HBi.out.cell (usesC_get (ks := kidsTo l k ++ natTo n j) hyl)
                have fu := HBi.out.frozen y
                have hcnt : (kidsTo l k ++ natTo n j).count y ≤ 1000000 := by
                  have h1 := List.count_le_length (a := y) (l := kidsTo l k ++ natTo n j)
                  have h2 := kidsTo_len l k
                  have h3 : (natTo n j).length ≤ j := by simp [natTo]; omega
                  rw [List.length_append] at h1
                  omega
                obtain ⟨cc, HCC⟩ : ∃ cc, Hid (cc = (kidsTo l k ++ natTo n j).count y) := ⟨_, rfl⟩
                rw [← HCC.out] at cu hcnt
                go_wp2_with fail
                go_roundg ((kidsI n).length - (j + 1))
                case measure => omega
                case rel =>
                  refine ⟨j + 1, rfl, by omega, by go_num, fun i z hi hz => ?_, ?_, HCi.out.setCell (p := ⟨_, _, _⟩) rfl _⟩
                  · by_cases e : i = j
                    · subst e; rw [HXJ.out] at hz; cases hz; exact HR.out
                    · exact HIN.out i z (by omega) hz
                  · have h1 := HBi.out.set y (.int .i64 ((kidsTo l k ++ natTo n j).count y + 1 : Nat))
                    rw [usesC_next _ _ _ hyl, List.append_assoc] at h1
                    have h2 : natTo n j ++ [y] = natTo n (j + 1) := by
                      have h3 := List.getElem?_eq_some_iff.1 HXJ.out
                      rw [natTo, natTo, List.take_succ_eq_append_getElem h3.1, List.map_append, h3.2, HY.out]; rfl
                    rw [h2, ← HCC.out] at h1
                    exact h1
            · obtain rfl : j = (kidsI n).length := by omega
              go_wp2_with fail
              go_roundg (l.length - (k + 1))
              case measure => omega
              case rel =>
                refine ⟨k + 1, rfl, by omega, by go_num, fun i m hi hm => ?_, ?_, HEi.out⟩
                · by_cases e : i = k
                  · subst e; rw [HN.out] at hm; cases hm
                    rw [ok_parts, HH.out, Bool.true_and, List.all_eq_true]
                    intro x hx
                    obtain ⟨q, hq⟩ := List.getElem?_of_mem hx
                    exact HIN.out q x (List.getElem?_eq_some_iff.1 hq).1 hq
                  · exact HOK.out i m (by omega) hm
                · have := HBi.out
                  rw [natTo, List.take_length, ← kids_of_I, ← kidsTo_next HN.out] at this
                  exact this
    · obtain rfl : k = l.length := by omega
      clear hE hBU hok hlt
      obtain ⟨wo, rfl⟩ : ∃ wo : World, wo = wr := ⟨_, rfl⟩
      go_wp2_with fail
      go_loopg [8] (l.length - 1) (fun g v wi => ∃ j, g = l.length - 1 - j ∧ j ≤ l.length - 1 ∧ v = .int .i64 j ∧ wo = wi ∧ Hid (∀ i, i < j → (kidsTo l l.length).count i = 1))
      case atStart => exact ⟨0, rfl, Nat.zero_le _, rfl, rfl, hid (fun i h => by omega)⟩
      case round =>
        obtain ⟨j, rfl, hj, rfl, rfl, HJ⟩ := hrel
        by_cases hjl : j < l.length - 1
        · have hjl2 : j < l.length := by omega
          have hji : (j : Int) < (l.length : Int) - 1 := by omega
          have c1 : wo.cell? ⟨w.heap.size, j, none⟩ = some (.int .i64 ((kidsTo l l.length).count j : Nat)) := HU.out.cell (usesC_get hjl2)
          obtain ⟨c, HCc⟩ : ∃ c, Hid (c = (kidsTo l l.length).count j) := ⟨_, rfl⟩
          rw [← HCc.out] at c1
          by_cases h1 : c = 1
          · have tc : ((c : Int) != 1) = false := by simp [h1]
            have H1 := hid h1
            clear h1
            go_wp2_with fail
            go_roundg (l.length - 1 - (j + 1))
            case measure => omega
            case rel =>
              refine ⟨j + 1, rfl, by omega, by go_num, rfl, hid fun i hi => ?_⟩
              by_cases e : i = j
              · subst e; rw [← HCc.out]; exact H1.out
              · exact HJ.out i (by omega)
          · have tc : ((c : Int) != 1) = true := by simp; omega
            have H1 := hid h1
            clear h1
            go_wp2_with fail
            go_ret
            refine ⟨_, rfl, .inr (.inl ⟨hl, fun F => H1.out ?_, rfl⟩), HE.out⟩
            have := F.one j (by omega)
            rw [HCc.out, ← this, kidsTo, List.take_length]; rfl
        · obtain rfl : j = l.length - 1 := by omega
          have hji : ¬ ((l.length - 1 : Nat) : Int) < (l.length : Int) - 1 := by omega
          have HF : Hid (Rx.Form l) := hid ⟨fun e => by simp [e] at h0, fun i n hn => HOK.out i n (lt_of_some hn) hn, fun i hi => by
            have := HJ.out i (by omega)
            rwa [kidsTo, List.take_length] at this⟩
          clear hjl
          go_wp2_with fail
          go_loopg [9] l.length (fun g v wi => ∃ j, g = l.length - j ∧ j ≤ l.length ∧ v = .int .i64 j ∧ wo = wi ∧ Hid (∀ (i : Nat) (n : Nd), i < j → l[i]? = some n → n.op = 2 → nameOk n.sym = true))
          case atStart => exact ⟨0, rfl, Nat.zero_le _, rfl, rfl, hid (fun i n h => absurd h (Nat.not_lt_zero i))⟩
          case round =>
            obtain ⟨k, rfl, hk, rfl, rfl, HNM⟩ := hrel
            by_cases hlt : k < l.length
            · obtain ⟨n, hn⟩ : ∃ n, l[k]? = some n := ⟨_, List.getElem?_eq_getElem hlt⟩
              obtain ⟨q0, q1, q2, q3⟩ := HC.out k n hn
              have e0 : wo.cell? ⟨b, off + k * 4, none⟩ = some (.int .i64 n.op) := (HE.out.cell (p := ⟨b, off + k * 4, none⟩) hb).trans q0
              have e1 : wo.cell? ⟨b, off + k * 4 + 1, none⟩ = some (.string n.sym) := (HE.out.cell (p := ⟨b, off + k * 4 + 1, none⟩) hb).trans q1
              have hsz := HV.out.size k n hn
              have HNN := hid hn
              clear hn q0 q1 q2 q3
              by_cases ho : n.op = 2
              · have t2 : (n.op == 2) = true := by simp [ho]
                have HO := hid ho
                clear ho
                cases hok : nameOk n.sym with
                | false =>
                  have HK := hid hok
                  clear hok
                  go_wp2_with (first | (go_at_call 20; refine (name_any n.sym _ (by unfold maxLen; omega)).mono ?_; rintro e w' ⟨rfl, rfl⟩; rw [HK.out]))
                  go_ret
                  exact ⟨_, rfl, .inr (.inr (.inl ⟨hl, HF.out, (fun h => by have := h k n HNN.out HO.out; rw [HK.out] at this; cases this), rfl⟩)), HE.out⟩
                | true =>
                  have HK := hid hok
                  clear hok
                  go_wp2_with (first | (go_at_call 20; refine (name_any n.sym _ (by unfold maxLen; omega)).mono ?_; rintro e w' ⟨rfl, rfl⟩; rw [HK.out]))
                  go_roundg (l.length - (k + 1))
                  case measure => omega
                  case rel =>
                    refine ⟨k + 1, rfl, by omega, by go_num, rfl, hid fun i m hi hm hm2 => ?_⟩
                    by_cases e : i = k
                    · subst e; rw [HNN.out] at hm; cases hm; exact HK.out
                    · exact HNM.out i m (by omega) hm hm2
              · have t2 : (n.op == 2) = false := by simp [ho]
                have HO := hid ho
                clear ho
                go_wp2_with fail
                go_roundg (l.length - (k + 1))
                case measure => omega
                case rel =>
                  refine ⟨k + 1, rfl, by omega, by go_num, rfl, hid fun i m hi hm hm2 => ?_⟩
                  by_cases e : i = k
                  · subst e; rw [HNN.out] at hm; cases hm; exact (HO.out hm2).elim
                  · exact HNM.out i m (by omega) hm hm2
            · obtain rfl : k = l.length := by omega
              go_wp2_with fail
              go_ret
              exact ⟨_, rfl, .inr (.inr (.inr ⟨hl, HF.out, fun i n hn => HNM.out i n (lt_of_some hn) hn, rfl⟩)), HE.out⟩

theorem refcheck_any {l : List Nd} {w : World} {ao : Option Addr} (hV : NodesV w ao l) (cap : Nat) :
    Calls Tryd.prog 8 #[.slice ao l.length cap] w (CheckPost l w) := by
  have hlen := hV.len
  by_cases hl : l.length ≤ 1024
  · by_cases h0 : 0 < l.length
    · obtain ⟨b, off, rfl, hb, hc⟩ := hV.cells h0
      exact refcheck_walk hV cap hl h0 hb hc
    · obtain rfl : l = [] := List.length_eq_zero_iff.1 (by omega)
      show Calls Tryd.prog 8 #[.slice ao 0 cap] w _
      go_enter Tryd.func8, Tryd.ntmps8
      go_wp2_with fail
      go_ret
      exact ⟨_, rfl, .inr (.inl ⟨Nat.zero_le _, (fun F => F.ne rfl), rfl⟩), Below.refl _ _⟩
  · have hl2 : 1024 < l.length := by omega
    go_enter Tryd.func8, Tryd.ntmps8
    go_wp2_with fail
    go_ret
    exact ⟨_, rfl, .inl ⟨hl2, rfl⟩, Below.refl _ _⟩

end Go.Proofs.YtngpjagpeblbjaaDoor
