/-
  Walk of next: the places that may stand right behind a place.
-/
import Derived.Test.YtngpjagpeblbjaaDoorZW11
import Derived.BigQuiet
import Derived.Deep.QuietTactic
namespace Go.Proofs.YtngpjagpeblbjaaDoor
open Go.RowKit Go.Spy Go.Rx

theorem fact64 {l : List Nd} (F : Rx.Form l) (h : l.length ≤ 64) {i : Nat} (hi : i < l.length) : (factT (tr l i)).first < 18446744073709551616 ∧ (factT (tr l i)).last < 18446744073709551616 := by
  have h64 : 2 ^ 64 = 18446744073709551616 := by decide
  rw [← h64]
  exact fact_lt (n := 64) _ fun p hp => Nat.lt_of_lt_of_le (pos_lt F hi hp) h
theorem or64 {a b : Nat} (ha : a < 18446744073709551616) (hb : b < 18446744073709551616) : a ||| b < 18446744073709551616 := by
  have h64 : 2 ^ 64 = 18446744073709551616 := by decide
  rw [← h64] at *
  exact or_lt ha hb

def SetPost (w : World) (m : Nat) (e : Ending) (w' : World) : Prop := ∃ C, e = .returned (.agg C) ∧ C = setV m ∧ Ext w w'

theorem built_set : Tryd.prog.built 58 [] = some (setV 0) := by kernel_rfl

set_option maxRecDepth 100000 in
set_option maxHeartbeats 1000000 in
theorem next_none {l : List Nd} {w : World} {b off bF bA : Nat} (hP : PlanW w (some ⟨b, off, none⟩) l bF bA) (cap : Nat) (at_ : Nat) (n : Nd) (hn : l[at_]? = some n) (ho : n.op ≠ 2) (hl : l.length ≤ 64) (hb : b < w.heap.size)
    (hc : w.cell? ⟨b, off + at_ * 4, none⟩ = some (.int .i64 n.op)) :
    Calls Tryd.prog 26 #[.agg (planC (some ⟨b, off, none⟩) l.length cap bF bA), .int .i64 at_] w (SetPost w 0) := by
  have hat : at_ < l.length := lt_of_some hn
  have ho' : (n.op != 2) = true := by simp [ho]
  have hb1 : b < w.heap.size + 1 := by omega
  have hb2 : b < w.heap.size + 1 + 1 := by omega
  have h0 : decide ((at_ : Int) < 0) = false := by simp
  have h1 : decide (l.length ≤ at_) = false := by simp; omega
  clear hP hn ho
  unfold planC
  go_enter Tryd.func26, Tryd.ntmps26
  go_wp2_with (first
    | (with_reducible refine wpList_alloc_aggN rfl 58 rfl _ zero_set ?_; intro Z HZ; have sZ : Z.size = 16 := by rw [HZ.out, setV_size])
    | (with_reducible refine wpList_load_agg rfl 58 (.tmp 5) rfl _ 0 rfl 58 Z _ 16 (Blk.new' _ _ Z (by simp)) Tryd.underlying58 rfl info_set (by omega) ?_; intro E HE; have sE : E.size = 16 := by (rw [HE.out, ext_all Z 16 sZ]; exact sZ))
    | (with_reducible refine wpList_store_agg rfl 58 (.tmp 4) (.tmp 27) rfl _ 0 E rfl rfl 58 _ ((Blk.new' (w.alloc _) 58 _ (by simp)).alloc _) (by rw [sE]; exact info_set) (by omega) (by rw [HE.out, ext_all Z 16 sZ, HZ.out]; exact ones_setV _) ?_; intro w3 H3 hs3))
  obtain ⟨h3, c3⟩ := H3.out
  rw [splice_all (by omega)] at h3
  have KE : ∀ (Y : Array Value), Ext w (((w.alloc (.cells #[.slice (some ⟨b, off, none⟩) l.length cap, .slice (some ⟨bF, 0, none⟩) l.length l.length, .slice (some ⟨bA, 0, none⟩) l.length l.length] 53)).alloc (.cells Y 58)).alloc (.cells Z 58)) := fun Y => (((Below.refl w.heap.size w).alloc (Nat.le_refl _) _).alloc (by simp) _).alloc (by simp; omega) _
  exact bodyPost_ret (v := .agg E) (results_cell_agg Tryd.results26 _ w3 _ _ E _ rfl h3 Tryd.underlying58 rfl (by rw [sE]; exact info_set)) rfl ⟨E, rfl, by rw [HE.out, ext_all Z 16 sZ, HZ.out],
    ((Chg.of_ext (S := (· = w.heap.size + 1)) (KE _)).trans c3).below (Nat.le_refl _) (fun k hk => by omega)⟩

def NextRel (l : List Nd) (w : World) (n0 at_ : Nat) (pc : Array Value) (g : Nat) (v6 v7 : Value) (wr : World) : Prop :=
  ∃ part out : Nat, part < l.length ∧ g = l.length - part ∧ v6 = .int .i64 part ∧ v7 = .int .i64 (up l l.length part) ∧ Climb l at_ part out ∧ out < 18446744073709551616 ∧
    Blk wr (n0 + 1 + 1) 58 (setV out) ∧ Blk wr (n0 + 1) 58 (setV 0) ∧ Blk wr n0 53 pc ∧ Ext w wr

set_option maxRecDepth 100000 in
set_option maxHeartbeats 1000000 in
theorem next_sym {l : List Nd} (F : Rx.Form l) {w : World} {b off bF bA : Nat} (hP : PlanW w (some ⟨b, off, none⟩) l bF bA) (cap : Nat) (at_ : Nat) (n : Nd) (hn : l[at_]? = some n) (ho : n.op = 2) (hl : l.length ≤ 64) (hb : b < w.heap.size)
    (hc : ∀ (i : Nat) (n : Nd), l[i]? = some n → w.cell? ⟨b, off + i * 4, none⟩ = some (.int .i64 n.op) ∧ w.cell? ⟨b, off + i * 4 + 1, none⟩ = some (.string n.sym) ∧ w.cell? ⟨b, off + i * 4 + 2, none⟩ = some (.int .i64 n.a) ∧ w.cell? ⟨b, off + i * 4 + 3, none⟩ = some (.int .i64 n.b)) :
    Calls Tryd.prog 26 #[.agg (planC (some ⟨b, off, none⟩) l.length cap bF bA), .int .i64 at_] w (SetPost w (nextM l at_)) := by
  have hat : at_ < l.length := lt_of_some hn
  have ho' : (n.op != 2) = false := by simp [ho]
  have hc0 := (hc at_ n hn).1
  have hb1 : b < w.heap.size + 1 := by omega
  have hb2 : b < w.heap.size + 1 + 1 := by omega
  have h0 : decide ((at_ : Int) < 0) = false := by simp
  have h1 : decide (l.length ≤ at_) = false := by simp; omega
  have hA0 := hP.above.lt
  have hA1 : bA < w.heap.size + 1 := by omega
  have hA2 : bA < w.heap.size + 1 + 1 := by omega
  have hA : w.cell? ⟨bA, at_, none⟩ = some (.int .i64 (up l l.length at_)) := hP.above.cell (aboveV_get hat)
  have HC := hid hc
  have HP := hid hP
  have C0 := hid (Climb.start hn ho)
  clear hP hn ho hc
  unfold planC
  go_enter Tryd.func26, Tryd.ntmps26
  go_wp2_with (first
    | (with_reducible refine wpList_alloc_aggD rfl 58 rfl 4 rfl _ zero_set ?_; intro Y HY)
    | (with_reducible refine wpList_alloc_aggD rfl 58 rfl 5 rfl _ zero_set ?_; intro Z HZ; have sZ : Z.size = 16 := by rw [HZ.out, setV_size]))
  go_quiet (fail)
  go_wp2_with fail
  have B0 : ∀ (Y : Array Value), Blk (((w.alloc (.cells #[.slice (some ⟨b, off, none⟩) l.length cap, .slice (some ⟨bF, 0, none⟩) l.length l.length, .slice (some ⟨bA, 0, none⟩) l.length l.length] 53)).alloc (.cells Y 58)).alloc (.cells Z 58)) w.heap.size 53 #[.slice (some ⟨b, off, none⟩) l.length cap, .slice (some ⟨bF, 0, none⟩) l.length l.length, .slice (some ⟨bA, 0, none⟩) l.length l.length] := fun Y => ((Blk.new w _ _).alloc _).alloc _
  go_loopg [6, 7] (l.length - at_) (fun g v6 v7 wr => NextRel l w w.heap.size at_ #[.slice (some ⟨b, off, none⟩) l.length cap, .slice (some ⟨bF, 0, none⟩) l.length l.length, .slice (some ⟨bA, 0, none⟩) l.length l.length] g v6 v7 wr)
  case atStart =>
    have KE : ∀ (Y : Array Value), Ext w (((w.alloc (.cells #[.slice (some ⟨b, off, none⟩) l.length cap, .slice (some ⟨bF, 0, none⟩) l.length l.length, .slice (some ⟨bA, 0, none⟩) l.length l.length] 53)).alloc (.cells Y 58)).alloc (.cells Z 58)) := fun Y => (((Below.refl w.heap.size w).alloc (Nat.le_refl _) _).alloc (by simp) _).alloc (by simp; omega) _
    exact ⟨at_, 0, hat, rfl, rfl, rfl, C0.out, by omega, by rw [← HZ.out]; exact (Blk.new' ((w.alloc _).alloc (.cells Y 58)) _ Z (by simp)).drewN _, by rw [← HY.out]; exact ((Blk.new' (w.alloc _) _ Y (by simp)).alloc _).drewN _, (B0 Y).drewN _, ext_drewN (KE Y) _⟩
  case round =>
    obtain ⟨part, out, hpart, rfl, rfl, h7, hCl, hout, hB2, hB1, hB0, hE⟩ := hrel
    have p0 := hB0.cell (i := 0) rfl
    have p1 := hB0.cell (i := 1) rfl
    have p2 := hB0.cell (i := 2) rfl
    have hs2 := hB2.lt
    obtain ⟨D, HD, hBD⟩ : ∃ D, Hid (D = setV out) ∧ Blk wr (w.heap.size + 1 + 1) 58 D := ⟨_, rfl, hB2⟩
    obtain ⟨D0, HD0, hBD0⟩ : ∃ D, Hid (D = setV 0) ∧ Blk wr (w.heap.size + 1) 58 D := ⟨_, rfl, hB1⟩
    have sD : D.size = 16 := by rw [HD.out, setV_size]
    have sD0 : D0.size = 16 := by rw [HD0.out, setV_size]
    have BD := hid hBD
    have BD0 := hid hBD0
    have CL := hid hCl
    have HE := hid hE
    have PW := hid (HP.out.ext hE)
    rcases up_cases F hpart with ⟨hp, hup⟩ | ⟨i, nd, hnd, hk, hlt, hup⟩
    · rw [hup] at h7
      subst h7
      have HF : Hid (out = nextM l at_) := hid (next_of_climb F (hp ▸ hCl))
      clear hp hup hBD hBD0 hCl hE hB2 hB1 hB0
      go_wp2_with (first
        | (with_reducible refine wpList_load_agg rfl 58 (.tmp 5) rfl _ 0 rfl 58 D _ 16 BD.out Tryd.underlying58 rfl info_set (by omega) ?_; intro E HE1; have sE : E.size = 16 := by (rw [HE1.out, ext_all D 16 sD]; exact sD))
        | (with_reducible refine wpList_store_agg rfl 58 (.tmp 4) (.tmp 91) rfl _ 0 E rfl rfl 58 D0 BD0.out (by rw [sE]; exact info_set) (by omega) (by rw [HE1.out, ext_all D 16 sD, HD.out]; exact ones_setV _) ?_; intro w3 H3 hs3))
      obtain ⟨h3, c3⟩ := H3.out
      rw [splice_all (by omega)] at h3
      exact bodyPost_ret (v := .agg E) (results_cell_agg Tryd.results26 _ w3 _ _ E _ rfl h3 Tryd.underlying58 rfl (by rw [sE]; exact info_set)) rfl ⟨E, rfl, by rw [HE1.out, ext_all D 16 sD, HD.out, HF.out],
        ((Chg.of_ext (S := (· = w.heap.size + 1)) HE.out).trans c3).below (Nat.le_refl _) (fun k hk => by omega)⟩
    · rw [hup] at h7
      subst h7
      obtain ⟨q0, q1, q2, q3⟩ := HC.out i nd hnd
      have hi : i < l.length := lt_of_some hnd
      have e0 : wr.cell? ⟨b, off + i * 4, none⟩ = some (.int .i64 nd.op) := (hE.cell (p := ⟨b, off + i * 4, none⟩) hb).trans q0
      have e1 : wr.cell? ⟨b, off + i * 4 + 1, none⟩ = some (.string nd.sym) := (hE.cell (p := ⟨b, off + i * 4 + 1, none⟩) hb).trans q1
      have e2 : wr.cell? ⟨b, off + i * 4 + 2, none⟩ = some (.int .i64 nd.a) := (hE.cell (p := ⟨b, off + i * 4 + 2, none⟩) hb).trans q2
      have e3 : wr.cell? ⟨b, off + i * 4 + 3, none⟩ = some (.int .i64 nd.b) := (hE.cell (p := ⟨b, off + i * 4 + 3, none⟩) hb).trans q3
      have hbr : b < wr.heap.size := Nat.lt_of_lt_of_le hb hE.size
      have hbF : bF < wr.heap.size := PW.out.facts.lt
      have hbF2 : bF < w.heap.size := HP.out.facts.lt
      have hbA : bA < wr.heap.size := PW.out.above.lt
      have hs1 : w.heap.size + 1 < wr.heap.size := by omega
      have hs0 : w.heap.size < wr.heap.size := by omega
      have a0 : wr.cell? ⟨bA, i, none⟩ = some (.int .i64 (up l l.length i)) := PW.out.above.cell (aboveV_get hi)
      have v0 : wr.cell? ⟨bF, i * 34, none⟩ = some (.bool (!aliveT (tr l i))) := by
        have := PW.out.fact (i := i) (j := 0) hi (by omega)
        rwa [factV_void, fact_void] at this
      have HND := hid hnd
      have HB0 := hid hB0
      clear q0 q1 q2 q3 hup hBD hBD0 hE hB2 hB1 hB0 hnd HC
      cases hv : aliveT (tr l i) with
      | false =>
        rw [hv] at v0
        have HF : Hid (0 = nextM l at_) := hid (dead_next F hCl.inn HND.out hk hv)
        clear hv hk hCl
        go_wp2_with (first
          | (refine wpList_build_agg rfl 58 #[] rfl [] ?_ (setV 0) ?_ ?_
             · rfl
             · exact built_set
             intro C HC)
          | (with_reducible refine wpList_store_agg rfl 58 (.tmp 4) (.tmp 54) rfl _ 0 C rfl rfl 58 D0 (Blk.alloc BD0.out _) (by rw [HC.out, setV_size]; exact info_set) (by rw [HC.out, setV_size]; omega) (by rw [HC.out]; exact ones_setV _) ?_; intro w3 H3 hs3))
        obtain ⟨h3, c3⟩ := H3.out
        rw [splice_all (by rw [HC.out, setV_size]; omega)] at h3
        refine bodyPost_ret (v := .agg C) (results_cell_agg Tryd.results26 _ w3 _ _ C _ rfl h3 Tryd.underlying58 rfl (by rw [HC.out, setV_size]; exact info_set)) rfl ⟨C, rfl, by rw [HC.out, HF.out], ?_⟩
        exact (((Chg.of_ext (S := (· = w.heap.size + 1)) HE.out).alloc _).trans c3).below (Nat.le_refl _) (fun k hk => by omega)
      | true =>
        rw [hv] at v0
        obtain ⟨f1, f2⟩ := fact64 F hl hpart
        have hlast := PW.out.fact (i := part) (j := 18) hpart (by omega)
        rw [factV_last _ (i := 0) (by omega)] at hlast
        have hbit := fact_last (tr l part) at_
        have HU := hid (climb_up F CL.out HND.out hk hv)
        have HB1 : ∀ v, endsT (tr l part) at_ = v → Hid (∀ w' : World, Ext wr w' → Calls Tryd.prog 30 #[.pointer (some ⟨bF, part * 34 + 18, none⟩), .int .i64 at_] w' fun e w'' => e = .returned (.bool v) ∧ w' = w'') := fun v hv' => hid fun w' ex => by
          rw [← hv', ← hbit]
          exact has_any bF (part * 34 + 18) _ at_ w' f2 (by omega) ((ex.cell (p := ⟨bF, part * 34 + 18, none⟩) hbF).trans hlast)
        clear hbit hlast hv hCl
        cases he : endsT (tr l part) at_ with
        | false =>
          have HB := HB1 _ he
          have HE1 := hid he
          clear HB1 he hk
          go_wp2_with (first | (go_at_call 30; refine (HB.out _ ((Below.refl _ _).alloc (Nat.le_refl _) _)).mono ?_; rintro e w' ⟨rfl, rfl⟩))
          go_quiet (fail)
          go_wp2_with fail
          go_roundg (l.length - i)
          case measure => omega
          case rel => exact ⟨i, out, hi, rfl, rfl, rfl, HU.out.1 HE1.out, hout, by rw [← HD.out]; exact (BD.out.alloc _).drewN _, by rw [← HD0.out]; exact (BD0.out.alloc _).drewN _, (HB0.out.alloc _).drewN _, ext_drewN (HE.out.alloc HE.out.size _) _⟩
        | true =>
          have HB := HB1 _ he
          have HV := hid (HU.out.2 he)
          clear HB1 he hk HU
          by_cases ho3 : nd.op = 3
          · have t3 : (nd.op == 3) = true := by simp [ho3]
            have t5 : (nd.op == 5) = false := by simp [ho3]
            by_cases hap : nd.a = part
            · obtain ⟨y, hy, hyi, hCy⟩ := HV.out.1 ho3 hap
              have ta : (nd.a == (part : Int)) = true := by simp [hap]
              rw [hy] at e3
              have hyl : y < l.length := by omega
              obtain ⟨g1, g2⟩ := fact64 F hl hyl
              have HCy := hid hCy
              clear ho3 hap hy hCy HV
              go_wp2_with (first | (go_at_call 30; refine (HB.out _ ((Below.refl _ _).alloc (Nat.le_refl _) _)).mono ?_; rintro e w' ⟨rfl, rfl⟩))
              refine (join_any (w.heap.size + 1 + 1) 0 out bF (y * 34 + 2) (factT (tr l y)).first 58 D _ hout g1 (by omega) (BD.out.alloc _) (fun j hj => by rw [HD.out, Nat.zero_add]; exact setV_get hj) (fun j hj => by
                have h2 := PW.out.fact (i := y) (j := 2 + j) hyl (by omega)
                rw [factV_first _ hj, ← Nat.add_assoc] at h2
                exact (((Below.refl _ _).alloc (Nat.le_refl _) _).cell (p := ⟨bF, y * 34 + 2 + j, none⟩) hbF).trans h2)).mono ?_
              rintro e w2 ⟨rfl, k1, kc⟩
              rw [HD.out, setV_put] at k1
              have k2 : ∀ (b' o : Nat), b' < wr.heap.size → b' ≠ w.heap.size + 1 + 1 → w2.cell? ⟨b', o, none⟩ = wr.cell? ⟨b', o, none⟩ := fun b' o g1 g2 =>
                (cell_of_chg (a := ⟨b', o, none⟩) kc (by simp; omega) g2).trans (((Below.refl _ _).alloc (Nat.le_refl _) _).cell (p := ⟨b', o, none⟩) g1)
              have m0 := (k2 w.heap.size 0 hs0 (by omega)).trans p0
              have m1 := (k2 w.heap.size 1 hs0 (by omega)).trans p1
              have m2 := (k2 w.heap.size 2 hs0 (by omega)).trans p2
              have ma := (k2 bA i hbA (by omega)).trans a0
              have K1 := hid k1
              have KC := hid kc
              clear k1 kc k2
              go_wp2_with fail
              go_quiet (fail)
              go_wp2_with fail
              go_roundg (l.length - i)
              case measure => omega
              case rel => exact ⟨i, _, hi, rfl, rfl, rfl, HCy.out, or64 hout g1, K1.out.drewN _, by rw [← HD0.out]; exact ((BD0.out.alloc _).chg KC.out (by show ¬ _ = _; omega)).drewN _, ((HB0.out.alloc _).chg KC.out (by show ¬ _ = _; omega)).drewN _,
                ext_drewN ((((Chg.of_ext (S := (· = w.heap.size + 1 + 1)) HE.out).alloc _).trans KC.out).below (Nat.le_refl _) (fun k hk => by omega)) _⟩
            · have ta : (nd.a == (part : Int)) = false := by simp [hap]
              have HCy := hid (HV.out.2.1 ho3 hap)
              clear ho3 hap HV
              go_wp2_with (first | (go_at_call 30; refine (HB.out _ ((Below.refl _ _).alloc (Nat.le_refl _) _)).mono ?_; rintro e w' ⟨rfl, rfl⟩))
              go_quiet (fail)
              go_wp2_with fail
              go_roundg (l.length - i)
              case measure => omega
              case rel => exact ⟨i, out, hi, rfl, rfl, rfl, HCy.out, hout, by rw [← HD.out]; exact (BD.out.alloc _).drewN _, by rw [← HD0.out]; exact (BD0.out.alloc _).drewN _, (HB0.out.alloc _).drewN _, ext_drewN (HE.out.alloc HE.out.size _) _⟩
          · have t3 : (nd.op == 3) = false := by simp [ho3]
            by_cases ho5 : nd.op = 5
            · have t5 : (nd.op == 5) = true := by simp [ho5]
              have HCy := hid (HV.out.2.2.1 ho5)
              clear ho3 ho5 HV
              go_wp2_with (first | (go_at_call 30; refine (HB.out _ ((Below.refl _ _).alloc (Nat.le_refl _) _)).mono ?_; rintro e w' ⟨rfl, rfl⟩))
              refine (join_any (w.heap.size + 1 + 1) 0 out bF (part * 34 + 2) (factT (tr l part)).first 58 D _ hout f1 (by omega) (BD.out.alloc _) (fun j hj => by rw [HD.out, Nat.zero_add]; exact setV_get hj) (fun j hj => by
                have h2 := PW.out.fact (i := part) (j := 2 + j) hpart (by omega)
                rw [factV_first _ hj, ← Nat.add_assoc] at h2
                exact (((Below.refl _ _).alloc (Nat.le_refl _) _).cell (p := ⟨bF, part * 34 + 2 + j, none⟩) hbF).trans h2)).mono ?_
              rintro e w2 ⟨rfl, k1, kc⟩
              rw [HD.out, setV_put] at k1
              have k2 : ∀ (b' o : Nat), b' < wr.heap.size → b' ≠ w.heap.size + 1 + 1 → w2.cell? ⟨b', o, none⟩ = wr.cell? ⟨b', o, none⟩ := fun b' o g1 g2 =>
                (cell_of_chg (a := ⟨b', o, none⟩) kc (by simp; omega) g2).trans (((Below.refl _ _).alloc (Nat.le_refl _) _).cell (p := ⟨b', o, none⟩) g1)
              have m0 := (k2 w.heap.size 0 hs0 (by omega)).trans p0
              have m1 := (k2 w.heap.size 1 hs0 (by omega)).trans p1
              have m2 := (k2 w.heap.size 2 hs0 (by omega)).trans p2
              have ma := (k2 bA i hbA (by omega)).trans a0
              have K1 := hid k1
              have KC := hid kc
              clear k1 kc k2
              go_wp2_with fail
              go_quiet (fail)
              go_wp2_with fail
              go_roundg (l.length - i)
              case measure => omega
              case rel => exact ⟨i, _, hi, rfl, rfl, rfl, HCy.out, or64 hout f1, K1.out.drewN _, by rw [← HD0.out]; exact ((BD0.out.alloc _).chg KC.out (by show ¬ _ = _; omega)).drewN _, ((HB0.out.alloc _).chg KC.out (by show ¬ _ = _; omega)).drewN _,
                ext_drewN ((((Chg.of_ext (S := (· = w.heap.size + 1 + 1)) HE.out).alloc _).trans KC.out).below (Nat.le_refl _) (fun k hk => by omega)) _⟩
            · have t5 : (nd.op == 5) = false := by simp [ho5]
              have HCy := hid (HV.out.2.2.2 ho3 ho5)
              clear ho3 ho5 HV
              go_wp2_with (first | (go_at_call 30; refine (HB.out _ ((Below.refl _ _).alloc (Nat.le_refl _) _)).mono ?_; rintro e w' ⟨rfl, rfl⟩))
              go_quiet (fail)
              go_wp2_with fail
              go_roundg (l.length - i)
              case measure => omega
              case rel => exact ⟨i, out, hi, rfl, rfl, rfl, HCy.out, hout, by rw [← HD.out]; exact (BD.out.alloc _).drewN _, by rw [← HD0.out]; exact (BD0.out.alloc _).drewN _, (HB0.out.alloc _).drewN _, ext_drewN (HE.out.alloc HE.out.size _) _⟩

theorem next_any {l : List Nd} (F : Rx.Form l) {w : World} {ao : Option Addr} {bF bA : Nat} (hP : PlanW w ao l bF bA) (cap : Nat) (at_ : Nat) (hat : at_ < l.length) (hl : l.length ≤ 64) :
    Calls Tryd.prog 26 #[.agg (planC ao l.length cap bF bA), .int .i64 at_] w (SetPost w (nextM l at_)) := by
  obtain ⟨b, off, rfl, hb, hc⟩ := hP.nodes.cells (by omega)
  have hn : l[at_]? = some l[at_] := List.getElem?_eq_getElem hat
  by_cases ho : l[at_].op = 2
  · exact next_sym F hP cap at_ _ hn ho hl hb hc
  · have := next_none hP cap at_ _ hn ho hl hb (hc _ _ hn).1
    rwa [next_of_none F (p := at_) (fun n h => by rw [hn] at h; cases h; exact ho)] at this

end Go.Proofs.YtngpjagpeblbjaaDoor
