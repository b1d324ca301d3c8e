/-
  The queue seat: lists of lists of things; the reference's Merge.
-/
import Derived.Test.YtlghkcamnfegdaaW20
import Derived.Laws.AppendOwnNone
namespace Go.Proofs.Ytlghkcamnfegdaa
open Go.RowKit Go.Spy Go.Heaped

/-- The value reads as these lists. -/
def RR (w : World) (v : Value) (tss : List (List (Int × Int))) : Prop :=
  ∃ vs : List Value, w.ownsRow 0 26 1 v tss.length vs ∧ vs.length = tss.length ∧ ∀ (i : Nat) (u : Value) (ts : List (Int × Int)), vs[i]? = some u → tss[i]? = some ts → R w u ts
theorem RR.ext {w w' : World} {v : Value} {tss : List (List (Int × Int))} (h : RR w v tss) (e : Ext w w') : RR w' v tss := by
  obtain ⟨vs, h1, h2, h3⟩ := h
  exact ⟨vs, owns_chg (S := fun _ => False) h1 (Chg.of_ext e) (fun _ _ x => x), h2, fun i u ts hu ht => (h3 i u ts hu ht).ext e⟩
theorem RR.form {w : World} {v : Value} {tss : List (List (Int × Int))} (h : RR w v tss) : ∃ ao cap, v = .slice ao tss.length cap ∧ (0 < tss.length → ∃ g, ao = some ⟨g, 0, none⟩) := by
  obtain ⟨vs, h1, _⟩ := h
  obtain ⟨ao, cap, h2, _, h3⟩ := slice_form h1
  exact ⟨ao, cap, h2, h3⟩
theorem RR.at_ {w : World} {g cap : Nat} {tss : List (List (Int × Int))} (h : RR w (.slice (some ⟨g, 0, none⟩) tss.length cap) tss) {k : Nat} (hk : k < tss.length) :
    ∃ u, w.cell? ⟨g, k, none⟩ = some u ∧ R w u tss[k] ∧ g < w.heap.size := by
  obtain ⟨vs, h1, h2, h3⟩ := h
  have hv : vs[k]? = some (vs[k]'(by omega)) := List.getElem?_eq_getElem (by omega)
  have hc := h1.cells (g := g) rfl k _ hv
  rw [add_lit0, Nat.zero_add] at hc
  exact ⟨_, hc, h3 k _ _ hv (List.getElem?_eq_getElem hk), (h1.lt g rfl).2⟩

/-- Things that a value reads as come behind things, as the walk takes it. -/
theorem wpList_thingsR {w0 : World} {base n : Nat} {v : Value} {ts : List (Int × Int)} (hown : Hid (w0.ownsRow base 33 2 v n (ts.flatMap pairC))) (hb : base ≤ w0.heap.size) (u : Value) (ts2 : List (Int × Int)) (hR : Hid (R w0 u ts2)) (hn : n + ts2.length ≤ 1000000000)
    {ops : Array Oper} {rest : List Oper} {o : Oper} {a : Act} {Q : Exit → Act → World → Prop} (hgd : o.guard = none) (s x : Operand)
    (ho : o.op = .call { callee := .builtin .append, args := #[s, x], argTypes := #[26, 26] }) (hs : a.eval s = v) (hx : a.eval x = u)
    (hK : ∀ (v' : Value) (w4 : World), Hid (w4.ownsRow base 33 2 v' (n + ts2.length) ((ts ++ ts2).flatMap pairC)) → Hid (w0.grownBy w4 v.ownBlock) →
      wpList Try.prog ops Q rest (a.put o.dst v') w4) :
    wpList Try.prog ops Q (o :: rest) a w0 := by
  obtain ⟨i0, hti, hz0, hz1, hz2⟩ := info_parts Try.info33
  have h := hR.out
  rcases h.2 with ⟨rfl, h0⟩ | ⟨g, cap, cur, rfl, rest'⟩
  · have h00 : ts2 = [] := List.eq_nil_of_length_eq_zero h0
    subst h00
    refine wpList_append_own_none hgd s x 26 ho base 33 i0 2 Try.underlying26 hti v n (ts.flatMap pairC) hs hown.out hx ?_
    exact hK v w0 (hid (by simpa using hown.out)) (hid ⟨rfl, rfl, rfl, Nat.le_refl _, fun _ _ _ => rfl⟩)
  · refine wpList_things hown hb ts2.length hn ⟨g, 0, none⟩ cap ts2 (hid rfl) (hid ?_) hgd s x ho hs hx hK
    exact h.cells rfl

def allAt (w : World) (tss : List (List (Int × Int))) (v i : Value) (wr : World) : Prop :=
  ∃ k : Nat, i = .int .i64 k ∧ k ≤ tss.length ∧ wr.ownsRow w.heap.size 33 2 v (tss.take k).flatten.length ((tss.take k).flatten.flatMap pairC) ∧ Ext w wr
def pickAt (w : World) (all : List (Int × Int)) (n : Nat) (vA vO : Value) (wr : World) : Prop :=
  ∃ rest done : List (Int × Int), n = rest.length ∧ rest.length + done.length = all.length ∧ wr.ownsRow w.heap.size 33 2 vA rest.length (rest.flatMap pairC) ∧ wr.ownsRow w.heap.size 33 2 vO done.length (done.flatMap pairC) ∧
    (∀ k, vA.ownBlock = some k → vO.ownBlock ≠ some k) ∧ (∀ out, Picked.Sel cmpI rest out → Picked.Sel cmpI all (done ++ out)) ∧ Ext w wr

theorem flatten_take {α : Type} (tss : List (List α)) (k : Nat) (h : k < tss.length) : (tss.take (k + 1)).flatten = (tss.take k).flatten ++ tss[k] := by
  rw [List.take_succ_eq_append_getElem h, List.flatten_append]
  simp
theorem flatten_len {α : Type} (tss : List (List α)) (k : Nat) : (tss.take k).flatten.length ≤ tss.flatten.length := by
  conv => rhs; rw [← List.take_append_drop k tss, List.flatten_append, List.length_append]
  omega

def MergedPost (w : World) (all : List (Int × Int)) (e : Ending) (w' : World) : Prop :=
  ∃ v out, e = .returned v ∧ Picked.Sel cmpI all out ∧ w'.ownsRow w.heap.size 33 2 v out.length (out.flatMap pairC) ∧ Ext w w'

theorem owns_base {w : World} {base base' n size : Nat} {e : TypeId} {v : Value} {xs : List Value} (h : w.ownsRow base e size v n xs) (hb : base' ≤ base) : w.ownsRow base' e size v n xs := by
  refine ⟨h.1, ?_⟩
  rcases h.2 with h0 | ⟨g, cap, cur, rfl, hg, rest⟩
  · exact .inl h0
  · exact .inr ⟨g, cap, cur, rfl, Nat.le_trans hb hg, rest⟩
theorem first_some {w : World} {u : Value} {ts : List (Int × Int)} (h1 : R w u ts) (hl : ts.length ≤ 1000000) (h0 : 0 < ts.length) :
    Calls Try.prog 21 #[u] w fun e w' => ∃ (i : Nat) (x : Int × Int), e = .returned (.int .i64 i) ∧ Picked.IsFirst cmpI ts i x ∧ i < ts.length ∧ Ext w w' := by
  refine (first_any h1 hl).mono ?_
  rintro e w' ⟨⟨rfl, _⟩ | ⟨i, x, hF, rfl⟩, hE⟩
  · simp at h0
  · exact ⟨i, x, rfl, hF, (List.getElem?_eq_some_iff.1 hF.at_).1, hE⟩
theorem pick_keep {w w1 w4 : World} {base n g cap : Nat} {v : Value} {xs : List Value} (h : w.ownsRow base 33 2 (.slice (some ⟨g, 0, none⟩) n cap) n xs) (e : Ext w w1) (k : w1.grownBy w4 v.ownBlock) (hv : v.ownBlock ≠ some g) :
    w4.ownsRow base 33 2 (.slice (some ⟨g, 0, none⟩) n cap) n xs :=
  World.ownsRow.kept (owns_chg (S := fun _ => False) h (Chg.of_ext e) (fun _ _ x => x)) k (.inr (fun e => hv e.symm))

set_option maxRecDepth 100000 in
set_option maxHeartbeats 1600000 in
theorem refMerge_any {w : World} {u : Value} {tss : List (List (Int × Int))} (h1 : RR w u tss) (hl : tss.length ≤ 1000000) (hf : tss.flatten.length ≤ 1000000) :
    Calls Try.prog 15 #[u] w fun e w' => MergedPost w tss.flatten e w' := by
  obtain ⟨ao, ca, rfl, ha⟩ := h1.form
  obtain ⟨all, hall⟩ : ∃ all, all = tss.flatten := ⟨_, rfl⟩
  rw [← hall]
  have HALL := hid hall
  rw [← hall] at hf
  clear hall
  go_enter Try.func15, Try.ntmps15
  go_wp2_with fail
  go_loopw [3, 4] (fun v i wr => allAt w tss v i wr) (fun _ i _ => tss.length - (intOf i).toNat)
  case atStart => exact ⟨0, rfl, Nat.zero_le _, World.ownsRow_nil _ _ 33 2, Below.refl _ _⟩
  case round =>
    obtain ⟨k, rfl, hk, hO, hE⟩ := hrel
    have HO := hid hO
    clear hO
    have hsz := hE.size
    rcases Nat.lt_or_ge k tss.length with hlt | hge
    · have hI : (k : Int) < (tss.length : Int) := by omega
      obtain ⟨g1, rfl⟩ := ha (by omega)
      obtain ⟨ut, hc, hR, _⟩ := (h1.ext hE).at_ hlt
      have HR := hid hR
      clear hR
      have hfl := flatten_len tss (k + 1)
      rw [flatten_take tss k hlt, List.length_append, ← HALL.out] at hfl
      go_wp2_with (at_builtin; refine wpList_thingsR HO hsz ut tss[k] HR (by omega) rfl _ _ rfl rfl rfl ?_; intro v' w4 H1 H2)
      refine ⟨⟨k + 1, by go_num, by omega, ?_, ext_grown hE H2.out (fun i hi => (HO.out.lt i hi).1)⟩, by simp [intOf]; omega⟩
      rw [flatten_take tss k hlt]
      exact owns_len H1.out
    · have hI : decide (k < tss.length) = false := decide_eq_false (by omega)
      have hO2 := HO.out
      rw [List.take_of_length_le hge, ← HALL.out] at hO2
      have HO2 := hid hO2
      clear hO2 HO
      go_wp2_with fail
      go_loopg [3, 5] all.length (fun n vA vO wx => pickAt w all n vA vO wx)
      case atStart => exact ⟨all, [], rfl, by simp, HO2.out, World.ownsRow_nil _ _ 33 2, fun k _ => by simp [Value.ownBlock], fun out h => h, hE⟩
      case round =>
        obtain ⟨rest, done, rfl, hlen, hA, hO, hne, hS, hE2⟩ := hrel
        have hRA : R _ _ rest := owns_R hA
        obtain ⟨aA, cA, rfl, hcA, hgA⟩ := slice_form hRA
        have HA := hid hA
        have HO := hid hO
        have HS := hid hS
        have HNE := hid hne
        clear hA hO hS hne HO2
        have hsz2 := hE2.size
        rcases Nat.eq_zero_or_pos rest.length with h0 | h0
        · have hr0 : rest = [] := List.eq_nil_of_length_eq_zero h0
          subst hr0
          go_wp2_with fail
          go_ret
          refine ⟨_, done, rfl, by simpa using HS.out [] .nil, HO.out, hE2⟩
        · have hI : decide ((0 : Int) < (rest.length : Int)) = true := decide_eq_true (by omega)
          obtain ⟨gA, rfl⟩ := hgA h0
          have hgB : u5.ownBlock ≠ some gA := HNE.out gA rfl
          have HB := hid hgB
          clear hgB
          go_wp2_with (first | (go_at_call 21; refine (first_some hRA (by omega) h0).mono ?_; rintro e w1 ⟨i, x, rfl, hF, hil, hE3⟩; have hI2 : (i : Int) < (rest.length : Int) := (by omega); have hsz3 := hE3.size; have hszt := Nat.le_trans hsz2 hsz3; obtain ⟨x1, x2⟩ := x; obtain ⟨c0, c1⟩ := pair_cells (hRA.ext hE3) hF.at_; dsimp only at c0 c1; have HF := hid hF; clear hF; have HO1 := hid (owns_chg (S := fun _ => False) HO.out (Chg.of_ext hE3) (fun _ _ x => x))) | (at_builtin; refine wpList_thing HO1 hszt (by omega) (x1, x2) _ rfl rfl _ _ rfl rfl rfl ?_; rintro g' cap' v' w4 rfl H1 H2; have hRA2 := pick_keep HA.out hE3 H2.out.1 HB.out) | (go_at_call 23; refine (out_any (owns_R hRA2) (by omega) i hil).mono ?_; rintro e w5 ⟨v5, rfl, hO5, hE5⟩))
          go_roundg (rest.length - 1)
          case measure => omega
          case rel =>
            have hle : (rest.eraseIdx i).length = rest.length - 1 := by rw [List.length_eraseIdx, if_pos hil]
            have h4 := ext_grown (ext_trans hE2 hE3) H2.out.1 (fun k hk => (HO.out.lt k hk).1)
            refine ⟨rest.eraseIdx i, done ++ [(x1, x2)], hle.symm, by simp [hle]; omega, owns_base hO5 h4.size, owns_len (owns_chg (S := fun _ => False) H1.out (Chg.of_ext hE5) (fun _ _ x => x)), fun k hk e => ?_, fun out ho => ?_, ext_trans h4 hE5⟩
            · have l1 := (hO5.lt k hk).1
              have l2 := (H1.out.lt k e).2
              omega
            · have := HS.out _ (.cons HF.out ho)
              rwa [List.append_assoc]
end Go.Proofs.Ytlghkcamnfegdaa
