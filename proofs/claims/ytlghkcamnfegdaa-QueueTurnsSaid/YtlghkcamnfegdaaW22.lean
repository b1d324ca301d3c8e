/-
  The queue seat: lists merged.
-/
import Derived.Test.YtlghkcamnfegdaaW21
import Derived.Outline
namespace Go.Proofs.Ytlghkcamnfegdaa
open Go.RowKit Go.Spy Go.Heaped

/-- A queue that a call has made in w, and nothing else has turned. -/
def QA (w wr : World) (ts : List (Int × Int)) (n : Nat) : Prop :=
  ∃ S, QM cmpI wr w.heap.size (w.heap.size + 1) w.heap.size 13 ts n S ∧ (∀ k, S k → w.heap.size ≤ k) ∧ Ext w wr
theorem QA.goes {w wr w' : World} {ts' : List (Int × Int)} {n' : Nat} {S : Nat → Prop} (hS : ∀ k, S k → w.heap.size ≤ k) (hE : Ext w wr) (h : QGoes cmpI S wr w' w.heap.size (w.heap.size + 1) w.heap.size 13 ts' n') : QA w w' ts' n' := by
  obtain ⟨S', hQ, hM⟩ := h
  refine ⟨S', hQ, fun k hk => (hM.sub k hk).elim (hS k) (fun h => Nat.le_trans hE.size h), ?_⟩
  exact Chg.below (S := S) ⟨hM.chg.os.trans hE.os, hM.chg.tape.trans hE.tape, hM.chg.output.trans hE.output, Nat.le_trans hE.size hM.chg.size, fun k hk hs => (hM.chg.block k (Nat.lt_of_lt_of_le hk hE.size) hs).trans (hE.block k hk)⟩ (Nat.le_refl _) hS
theorem QA.ext {w wr w' : World} {ts : List (Int × Int)} {n : Nat} (h : QA w wr ts n) (e : Ext wr w') : QA w w' ts n := by
  obtain ⟨S, h1, h2, h3⟩ := h
  exact ⟨S, h1.ext e, h2, ext_trans h3 e⟩
theorem QA.le {w wr : World} {ts : List (Int × Int)} {n : Nat} (h : QA w wr ts n) : Ext w wr := h.choose_spec.2.2
theorem QM.bo_type {f : Int → Int → Int} {w : World} {base q bo F put : Nat} {ts : List (Int × Int)} {S : Nat → Prop} (h : QM f w base q bo F ts put S) : ∃ cur, Blk w bo 34 cur := by
  obtain ⟨d, m, its, ⟨vI, vS, sw, hp, _, rfl⟩, _⟩ := h
  exact ⟨_, hp.ord⟩
theorem QA.grown {w wr w' : World} {ts : List (Int × Int)} {n : Nat} (h : QA w wr ts n) {row : Option Nat} (g : wr.grownBy w' row) (hr : ∀ k, row = some k → w.heap.size ≤ k ∧ ∃ cur, Blk wr k 33 cur) : QA w w' ts n := by
  obtain ⟨S, h1, h2, h3⟩ := h
  refine ⟨S, h1.kept (S2 := fun k => row = some k) ((Chg.refl _ _).grown g (fun k e => e)) (fun k hk e => ?_) (fun e => ?_), h2, ext_grown h3 g (fun k hk => (hr k hk).1)⟩
  · obtain ⟨_, cur, hb⟩ := hr k e
    exact h1.not_type hb (by decide) (by decide) (by decide) hk
  · obtain ⟨_, cur, hb⟩ := hr _ e
    obtain ⟨cur2, hb2⟩ := h1.bo_type
    exact blk_ne hb hb2 (by decide) rfl
theorem putA {w wr : World} {ts : List (Int × Int)} (h : QA w wr ts ts.length) (t : Int × Int) (hl : ts.length + 1 ≤ 1000000) :
    Calls Try.prog 18 #[.pointer (some ⟨w.heap.size + 1, 0, none⟩), thingV t] wr fun e w' => e = .returned (.int .i64 0) ∧ QA w w' (ts ++ [t]) (ts ++ [t]).length := by
  obtain ⟨S, h1, h2, h3⟩ := h
  refine (putQ ord13 fn13 h1 t (by omega) (by omega)).mono ?_
  rintro e w' ⟨rfl, hg⟩
  rw [List.length_append]
  exact ⟨rfl, QA.goes h2 h3 hg⟩
theorem takeA {w wr : World} {ts : List (Int × Int)} {n : Nat} (h : QA w wr ts n) (h0 : 0 < ts.length) (hl : ts.length ≤ 1000000) :
    Calls Try.prog 19 #[.pointer (some ⟨w.heap.size + 1, 0, none⟩)] wr fun e w' => ∃ (i : Nat) (x1 x2 : Int), e = .returned (.tuple #[.agg #[.int .i64 x1, .int .i64 x2], .int .i64 0]) ∧ Picked.IsFirst cmpI ts i (x1, x2) ∧ QA w w' (ts.eraseIdx i) n ∧ (∃ S, Chg S wr w' ∧ ∀ k cur, Blk wr k 33 cur → ¬ S k) := by
  obtain ⟨S, h1, h2, h3⟩ := h
  refine (takeQ ord13 fn13 h1 h0 (by omega)).mono ?_
  rintro e w' ⟨i, ⟨x1, x2⟩, hF, rfl, hg⟩
  exact ⟨i, x1, x2, rfl, hF, QA.goes h2 h3 hg, S, hg.choose_spec.2.chg, fun k cur hb => h1.not_type hb (by decide) (by decide) (by decide)⟩
theorem takeA_none {w wr : World} {n : Nat} (h : QA w wr [] n) :
    Calls Try.prog 19 #[.pointer (some ⟨w.heap.size + 1, 0, none⟩)] wr fun e w' => e = .returned (.tuple #[.agg #[.int .i64 0, .int .i64 0], .int .i64 16]) ∧ Ext wr w' := by
  obtain ⟨S, h1, h2, h3⟩ := h
  exact takeQ_none h1
theorem newA (w : World) :
    Calls Try.prog 16 #[.func (.func 13) #[] #[]] w fun e w' => e = .returned (.tuple #[.pointer (some ⟨w.heap.size + 1, 0, none⟩), .int .i64 0]) ∧ QA w w' [] 0 := by
  refine (newQ 13 cmpI w).mono ?_
  rintro e w' ⟨rfl, h1, h2⟩
  exact ⟨rfl, _, h1, fun k hk => by omega, h2⟩

def feedAt (w : World) (tss : List (List (Int × Int))) (i : Value) (wr : World) : Prop :=
  ∃ k : Nat, i = .int .i64 k ∧ k ≤ tss.length ∧ QA w wr (tss.take k).flatten (tss.take k).flatten.length
def feedIn (w : World) (ts l : List (Int × Int)) (i : Value) (wr : World) : Prop :=
  ∃ k : Nat, i = .int .i64 k ∧ k ≤ l.length ∧ QA w wr (ts ++ l.take k) (ts ++ l.take k).length
def drainAt (w : World) (all : List (Int × Int)) (n : Nat) (vO : Value) (wr : World) : Prop :=
  ∃ rest done : List (Int × Int), n = rest.length ∧ rest.length + done.length = all.length ∧ QA w wr rest all.length ∧ wr.ownsRow w.heap.size 33 2 vO done.length (done.flatMap pairC) ∧
    (∀ out, Picked.Sel cmpI rest out → Picked.Sel cmpI all (done ++ out))
def MergePost (w : World) (all : List (Int × Int)) (e : Ending) (w' : World) : Prop :=
  ∃ v out, e = .returned (.tuple #[v, .int .i64 0]) ∧ Picked.Sel cmpI all out ∧ w'.ownsRow w.heap.size 33 2 v out.length (out.flatMap pairC) ∧ Ext w w'

set_option maxRecDepth 100000 in
set_option maxHeartbeats 1600000 in
theorem merged_any {w : World} {u : Value} {tss : List (List (Int × Int))} (h1 : RR w u tss) (hl : tss.length ≤ 1000000) (hf : tss.flatten.length ≤ 1000000) :
    Calls Try.prog 27 #[.func (.func 13) #[] #[], u] w fun e w' => MergePost w tss.flatten e w' := by
  obtain ⟨ao, ca, rfl, ha⟩ := h1.form
  obtain ⟨all, hall⟩ : ∃ all, all = tss.flatten := ⟨_, rfl⟩
  rw [← hall]
  have HALL := hid hall
  rw [← hall] at hf
  clear hall
  go_enter Try.func27, Try.ntmps27
  go_wp2_with fail
  go_step3
  go_wp2_with (go_at_call 16; refine (newA w).mono ?_; rintro e w1 ⟨rfl, hQ0⟩)
  go_loopw [26] (fun i wr => feedAt w tss i wr) (fun i _ => tss.length - (intOf i).toNat)
  case atStart => exact ⟨0, rfl, Nat.zero_le _, hQ0⟩
  case round =>
    clear hQ0
    obtain ⟨k, rfl, hk, hQ⟩ := hrel
    rcases Nat.lt_or_ge k tss.length with hlt | hge
    · have hI : (k : Int) < (tss.length : Int) := by omega
      obtain ⟨g1, rfl⟩ := ha (by omega)
      obtain ⟨ut, hcw, hR, hgw⟩ := h1.at_ hlt
      have hc : wr.cell? ⟨g1, k, none⟩ = some ut := (hQ.le.cell (p := ⟨g1, k, none⟩) hgw).trans hcw
      clear hcw
      have hfl := flatten_len tss (k + 1)
      rw [flatten_take tss k hlt, List.length_append, ← HALL.out] at hfl
      have HFT := hid (flatten_take tss k hlt)
      obtain ⟨l, hll⟩ : ∃ l, l = tss[k] := ⟨_, rfl⟩
      obtain ⟨ts0, hts⟩ : ∃ t, t = (tss.take k).flatten := ⟨_, rfl⟩
      rw [← hll, ← hts] at HFT
      rw [← hll] at hR hfl
      rw [← hts] at hQ hfl
      clear hll hts
      obtain ⟨al, cl, rfl, hcl, hgl⟩ := slice_form hR
      obtain ⟨wo, rfl⟩ : ∃ wo : World, wo = wr := ⟨_, rfl⟩
      go_wp2_with fail
      go_loopw [32] (fun i wr => feedIn w ts0 l i wr) (fun i _ => l.length - (intOf i).toNat)
      case atStart => exact ⟨0, rfl, Nat.zero_le _, by simpa using hQ⟩
      case round =>
        clear hQ hc
        obtain ⟨j, rfl, hj, hQ⟩ := hrel
        rcases Nat.lt_or_ge j l.length with hjl | hjg
        · have hJ : (j : Int) < (l.length : Int) := by omega
          obtain ⟨gl, rfl⟩ := hgl (by omega)
          obtain ⟨x, hx⟩ : ∃ x, x = l[j] := ⟨_, rfl⟩
          obtain ⟨c0, c1⟩ := pair_cells (hR.ext hQ.le) (j := j) (x := x) (by rw [hx]; exact List.getElem?_eq_getElem hjl)
          obtain ⟨x1, x2⟩ := x
          dsimp only at c0 c1
          have HX := hid hx
          clear hx
          have hQ1 := hQ.ext ((Below.refl _ _).alloc (Nat.le_refl _) (.cells #[.int .i64 x1, .int .i64 x2] 33))
          have hle : (ts0 ++ l.take j).length + 1 ≤ 1000000 := by simp; omega
          go_wp2_with (go_at_call 18; refine (putA hQ1 (x1, x2) hle).mono ?_; rintro e w2 ⟨rfl, hQ2⟩)
          refine ⟨⟨j + 1, by go_num, by omega, ?_⟩, by simp [intOf]; omega⟩
          rw [List.append_assoc, HX.out, ← List.take_succ_eq_append_getElem hjl] at hQ2
          exact hQ2
        · have hJ : decide (j < l.length) = false := decide_eq_false (by omega)
          have hQ2 : QA w wr (tss.take (k + 1)).flatten (tss.take (k + 1)).flatten.length := by
            rw [HFT.out]
            rw [List.take_of_length_le hjg] at hQ
            exact hQ
          clear hQ
          go_wp2_with fail
          exact ⟨⟨k + 1, by go_num, by omega, hQ2⟩, by simp [intOf]; omega⟩
    · have hI : decide (k < tss.length) = false := decide_eq_false (by omega)
      rw [List.take_of_length_le hge, ← HALL.out] at hQ
      go_wp2_with fail
      go_step3
      go_wp2_with fail
      go_loopg [13] all.length (fun n vO wx => drainAt w all n vO wx)
      case atStart => exact ⟨all, [], rfl, by simp, hQ, World.ownsRow_nil _ _ 33 2, fun out h => h⟩
      case round =>
        clear hQ
        obtain ⟨rest, done, rfl, hlen, hQ, hO, hS⟩ := hrel
        have HO := hid hO
        have HS := hid hS
        clear hO hS
        rcases Nat.eq_zero_or_pos rest.length with h0 | h0
        · have hr0 : rest = [] := List.eq_nil_of_length_eq_zero h0
          subst hr0
          go_wp2_with (go_at_call 19; refine (takeA_none hQ).mono ?_; rintro e w2 ⟨rfl, hE2⟩)
          try rw [Exit.noGoto_ret]
          go_ret2
          refine ⟨_, done, rfl, by simpa using HS.out [] .nil, ?_, ext_trans hQ.le (ext_trans hE2 ((Below.refl _ _).alloc (Nat.le_refl _) _))⟩
          exact owns_chg (S := fun _ => False) HO.out (Chg.of_ext (ext_trans hE2 ((Below.refl _ _).alloc (Nat.le_refl _) _))) (fun _ _ x => x)
        · go_wp2_with (first | (go_at_call 19; refine (takeA hQ h0 (by omega)).mono ?_; rintro e w2 ⟨i, x1, x2, rfl, hF, hQ2, S, hC, hnS⟩; have HF := hid hF; have HO2 := hid (owns_chg HO.out hC (fun k hk => by obtain ⟨cur, hb⟩ := own_type HO.out hk; exact hnS k cur hb)); clear hF hC hnS; have HO3 := hid (HO2.out.alloc (.cells #[.int .i64 x1, .int .i64 x2] 33)); have hsz := hQ2.le.size; have hsz3 : w.heap.size ≤ (w2.alloc (.cells #[.int .i64 x1, .int .i64 x2] 33)).heap.size := (by simp; omega)) | (at_builtin; refine wpList_thing HO3 hsz3 (by omega) (x1, x2) (w2.heap.size + 1) (by simp) rfl _ _ rfl rfl rfl ?_; rintro g' cap' v' w4 rfl H1 H2))
          go_roundg (rest.length - 1)
          case measure => omega
          case rel =>
            have hil : i < rest.length := (List.getElem?_eq_some_iff.1 HF.out.at_).1
            have hle : (rest.eraseIdx i).length = rest.length - 1 := by rw [List.length_eraseIdx, if_pos hil]
            refine ⟨rest.eraseIdx i, done ++ [(x1, x2)], hle.symm, by simp [hle]; omega, ?_, owns_len H1.out, fun out ho => ?_⟩
            · exact (hQ2.ext ((Below.refl _ _).alloc (Nat.le_refl _) (.cells #[.int .i64 x1, .int .i64 x2] 33))).grown H2.out.1 (fun k hk => ⟨(HO3.out.lt k hk).1, own_type HO3.out hk⟩)
            · have := HS.out _ (.cons HF.out ho)
              rwa [List.append_assoc]
end Go.Proofs.Ytlghkcamnfegdaa
