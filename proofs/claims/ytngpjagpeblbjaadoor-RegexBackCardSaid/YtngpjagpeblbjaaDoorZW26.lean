/-
  Walk of the closures of Match: follow, which keeps what it has found in a map.
-/
import Derived.Test.YtngpjagpeblbjaaDoorZW25
namespace Go.Spy
open Go.RowKit
/-- A look into a map, as the walk takes it. -/
theorem wpList_lookupB {κ : Type} [DecidableEq κ] {P : Program} {w : World} {ops : Array Oper} {rest : List Oper} {o : Oper} {a : Act} {Q : Exit → Act → World → Prop}
    (hg : o.guard = none) (m x : Operand) (t : TypeId) (hop : o.op = Op.lookup t m x true)
    (kt et : TypeId) (enc : κ → Value) (K : KeyOk P kt enc) (ht : P.underlying t = some (.map kt et)) (b : Nat) (l : List (κ × Value)) (hm : a.eval m = .map (some b)) (h : MapB w b enc l)
    (z : Value) (hz : ∀ w : World, (zeroValue et).run P w = .ok z w) (k : κ) (hx : a.eval x = enc k) (r : Option Value) (hr : alook l k = r)
    (hK : wpList P ops Q rest (a.put o.dst (.tuple #[r.getD z, .bool r.isSome])) w) : wpList P ops Q (o :: rest) a w := by
  subst hr
  refine wpList_plain hg fun K' hK' => ?_
  have hrun := h.lookup_ok K ht (hz w) k
  unfold Oper.wp
  simp only [execOp, hop, hm, hx, Sem.run_bind, hrun, Result.andThen_ok, Sem.run_pure]
  exact hK' _ _ hK
end Go.Spy
namespace Go.Proofs.YtngpjagpeblbjaaDoor
open Go.RowKit Go.Spy Go.Rx

theorem szA (w : World) (o : Obj) : (w.alloc o).heap.size = w.heap.size + 1 := by simp
theorem zero_setV (w : World) : (zeroValue 58).run Tryd.prog w = .ok (.agg (setV 0)) w := by
  have h : (Tryd.prog.info? 58).map (·.zero) = some (some (.agg (setV 0))) := zero_set
  unfold zeroValue
  simp only [Sem.run_bind]
  cases hi : Tryd.prog.info? 58 with
  | none => rw [hi] at h; cases h
  | some i =>
    rw [hi] at h
    simp only [Option.map_some, Option.some.injEq] at h
    have : (typeInfo 58).run Tryd.prog w = .ok i w := by simp [typeInfo, Sem.run, hi]
    rw [this]
    simp only [Result.andThen_ok, h, Sem.run_pure]
theorem keyI : KeyOk (κ := Int) Tryd.prog 3 (Value.int .i64) := keyOk_int Tryd.underlying3

/-- What follow has found so far. -/
def KnownOk (l : List Nd) (ls : List (Int × Value)) : Prop := ∀ (k : Nat) (v : Value), alook ls (k : Int) = some v → v = .agg (setV (nextM l k))

def FollowPost (l : List Nd) (bM at_ : Nat) (w : World) (e : Ending) (w' : World) : Prop :=
  ∃ C, e = .returned (.agg C) ∧ C = setV (nextM l at_) ∧ (∃ ls, MapB w' bM (Value.int .i64) ls ∧ KnownOk l ls) ∧ Chg (· = bM) w w'

set_option maxRecDepth 100000 in
set_option maxHeartbeats 1000000 in
theorem follow_old {l : List Nd} {w : World} {bK bM bP at_ : Nat} {ls : List (Int × Value)} (hK : w.cell? ⟨bK, 0, none⟩ = some (.map (some bM))) (hM : MapB w bM (Value.int .i64) ls) (hk : KnownOk l ls) {v : Value} (ha : alook ls (at_ : Int) = some v) (hb : bK < w.heap.size) :
    Calls Tryd.prog 25 #[.int .i64 at_, .pointer (some ⟨bK, 0, none⟩), .pointer (some ⟨bP, 0, none⟩)] w (FollowPost l bM at_ w) := by
  obtain ⟨C0, HC0⟩ : ∃ C, Hid (C = setV (nextM l at_)) := ⟨_, hid rfl⟩
  have hv := hk at_ v ha
  rw [← HC0.out] at hv
  subst hv
  have HM := hid hM
  have Hk := hid hk
  have HA := hid ha
  have sC0 : C0.size = 16 := by rw [HC0.out, setV_size]
  have hb1 : bK < w.heap.size + 1 := by omega
  clear hM hk ha
  go_enter Tryd.func25, Tryd.ntmps25
  go_wp2_with (first
    | (with_reducible refine wpList_alloc_aggD rfl 58 rfl 4 rfl _ zero_set ?_; intro Y HY; have sY : Y.size = 16 := by rw [HY.out, setV_size])
    | (with_reducible refine wpList_alloc_aggD rfl 58 rfl 5 rfl _ zero_set ?_; intro Z HZ; have sZ : Z.size = 16 := by rw [HZ.out, setV_size])
    | (refine wpList_lookupB rfl (.tmp 8) (.tmp 9) 63 rfl 3 58 (Value.int .i64) keyI Tryd.underlying63 bM ls rfl (HM.out.alloc _) (.agg (setV 0)) zero_setV (at_ : Int) rfl _ HA.out ?_)
    | ((refine wpList_store_agg rfl 58 (.tmp 5) (.tmp 11) rfl _ 0 C0 rfl rfl 58 Z (Blk.new (w.alloc _) _ Z) (by rw [sC0]; exact info_set) (by omega) (by rw [HC0.out]; exact ones_setV _) ?_; intro w3 H3 hs3; rw [szA] at H3; have hz := H3.out.1; rw [splice_all (by omega)] at hz; have H5 := hid hz; clear hz))
    | ((refine wpList_load_agg rfl 58 (.tmp 5) rfl (w.heap.size + 1) 0 rfl 58 C0 _ 16 H5.out Tryd.underlying58 rfl info_set (by omega) ?_; intro E HE; have e0 : E = C0 := (by rw [HE.out]; exact ext_all C0 16 sC0); have E0 := hid e0; have sE : E.size = 16 := (by rw [e0]; exact sC0); clear e0))
    | (refine wpList_store_agg rfl 58 (.tmp 4) (.tmp 21) rfl w.heap.size 0 E rfl rfl 58 Y (((Blk.new w _ Y).alloc _).chg H3.out.2 (by show ¬ _ = _; omega)) (by rw [sE]; exact info_set) (by omega) (by rw [E0.out, HC0.out]; exact ones_setV _) ?_; intro w4 H4 hs4; have hz := H4.out.1; rw [splice_all (by omega)] at hz; have H6 := hid hz; clear hz))
  have C6 : Chg (fun k => k = w.heap.size ∨ k = w.heap.size + 1) w w4 := ((((Chg.refl (· = w.heap.size + 1) w).alloc _).alloc _).trans H3.out.2).mono (S' := fun k => k = w.heap.size ∨ k = w.heap.size + 1) (fun _ _ e => .inr e) |>.trans (H4.out.2.mono fun _ _ e => .inl e)
  have lM := HM.out.lt
  exact bodyPost_ret (v := .agg E) (results_cell_agg Tryd.results25 _ w4 w.heap.size _ E _ rfl H6.out Tryd.underlying58 rfl (by rw [sE]; exact info_set)) rfl ⟨E, rfl, by rw [E0.out, HC0.out], ⟨ls, HM.out.chg C6 (by show ¬ (_ ∨ _); omega), Hk.out⟩, C6.mono (fun k hk e => by omega)⟩

set_option maxRecDepth 100000 in
set_option maxHeartbeats 1000000 in
theorem follow_new {l : List Nd} (F : Rx.Form l) {w : World} {ao : Option Addr} {bF bA cap : Nat} (hP : PlanW w ao l bF bA) (hl : l.length ≤ 64) {bK bM bP at_ : Nat} (hB : Blk w bP 53 (planC ao l.length cap bF bA)) (hat : at_ < l.length) {ls : List (Int × Value)} (hK : w.cell? ⟨bK, 0, none⟩ = some (.map (some bM))) (hM : MapB w bM (Value.int .i64) ls) (hk : KnownOk l ls) (ha : alook ls (at_ : Int) = none) (hb : bK < w.heap.size) :
    Calls Tryd.prog 25 #[.int .i64 at_, .pointer (some ⟨bK, 0, none⟩), .pointer (some ⟨bP, 0, none⟩)] w (FollowPost l bM at_ w) := by
  have HM := hid hM
  have Hk := hid hk
  have HA := hid ha
  have HP := hid hP
  have HB := hid hB
  have lM := hM.lt
  have lB := hB.lt
  have hb1 : bK < w.heap.size + 1 := by omega
  have lB1 : bP < w.heap.size + 1 := by omega
  have sI : (setV 0).size = 16 := setV_size 0
  obtain ⟨C0, HC0⟩ : ∃ C, Hid (C = setV 0) := ⟨_, hid rfl⟩
  have sC0 : C0.size = 16 := by rw [HC0.out, setV_size]
  clear hM hk ha hP hB sI
  go_enter Tryd.func25, Tryd.ntmps25
  go_wp2_with (first
    | (with_reducible refine wpList_alloc_aggD rfl 58 rfl 4 rfl _ zero_set ?_; intro Y HY; have sY : Y.size = 16 := by rw [HY.out, setV_size])
    | (with_reducible refine wpList_alloc_aggD rfl 58 rfl 5 rfl _ zero_set ?_; intro Z HZ; have sZ : Z.size = 16 := by rw [HZ.out, setV_size])
    | (refine wpList_lookupB rfl (.tmp 8) (.tmp 9) 63 rfl 3 58 (Value.int .i64) keyI Tryd.underlying63 bM ls rfl (HM.out.alloc _) (.agg C0) (by rw [HC0.out]; exact zero_setV) (at_ : Int) rfl _ HA.out ?_)
    | (refine wpList_store_agg rfl 58 (.tmp 5) (.tmp 11) rfl _ 0 C0 rfl rfl 58 Z (Blk.new (w.alloc _) _ Z) (by rw [sC0]; exact info_set) (by omega) (by rw [HC0.out]; exact ones_setV _) ?_; intro w3 H3 hs3; rw [szA] at H3; have hz := H3.out.1; rw [splice_all (by omega)] at hz; have H5 := hid hz; clear hz
       have C3 : Hid (Chg (fun k => k = w.heap.size + 1) w w3) := hid ((((Chg.refl (· = w.heap.size + 1) w).alloc _).alloc _).trans H3.out.2)
       have HB3 := HB.out.chg C3.out (by show ¬ _ = _; omega)
       have m0 : w3.cell? ⟨bP, 0, none⟩ = some (.slice ao l.length cap) := HB3.cell (i := 0) rfl
       have m1 : w3.cell? ⟨bP, 1, none⟩ = some (.slice (some ⟨bF, 0, none⟩) l.length l.length) := HB3.cell (i := 1) rfl
       have m2 : w3.cell? ⟨bP, 2, none⟩ = some (.slice (some ⟨bA, 0, none⟩) l.length l.length) := HB3.cell (i := 2) rfl
       clear HB3)
    | (go_at_call 26
       refine (next_any F (HP.out.ext (C3.out.below (Nat.le_refl _) (fun k e => by omega))) cap at_ hat hl).mono ?_
       rintro e w4 ⟨D, rfl, hD, hx⟩
       have HD := hid hD
       have sD : D.size = 16 := by rw [hD, setV_size]
       have C4 : Hid (Chg (fun k => k = w.heap.size + 1) w w4) := hid (C3.out.ext hx)
       have s4 := hx.size
       have B4 := hid (H5.out.ext hx)
       have Y4 := hid ((((Blk.new w 58 Y).alloc _).chg H3.out.2 (by show ¬ _ = _; omega)).ext hx)
       have s3' : w.heap.size + 1 + 1 ≤ w4.heap.size := by simp at hs3; omega
       clear hD hx m0 m1 m2)
    | (refine wpList_store_agg rfl 58 (.tmp 5) (.tmp 17) rfl (w.heap.size + 1) 0 D rfl rfl 58 C0 B4.out (by rw [sD]; exact info_set) (by omega) (by rw [HD.out]; exact ones_setV _) ?_
       intro w5 G3 gs3
       have hz := G3.out.1
       rw [splice_all (by omega)] at hz
       have B5 := hid hz; clear hz
       have C5 : Hid (Chg (fun k => k = w.heap.size + 1) w w5) := hid (C4.out.trans G3.out.2)
       have k5 : w5.cell? ⟨bK, 0, none⟩ = some (.map (some bM)) := by rw [cell_of_chg (a := ⟨bK, 0, none⟩) C5.out hb (by show ¬ bK = w.heap.size + 1; omega)]; exact hK
       have M5 := hid (HM.out.chg C5.out (by show ¬ _ = _; omega)))
    | (refine wpList_load_agg rfl 58 (.tmp 5) rfl (w.heap.size + 1) 0 rfl 58 D _ 16 B5.out Tryd.underlying58 rfl info_set (by omega) ?_; intro E HE; have e0 : E = D := (by rw [HE.out]; exact ext_all D 16 sD); have E0 := hid e0; have sE : E.size = 16 := (by rw [e0]; exact sD); clear e0)
    | (refine wpList_mapUpdateB _ rfl (.tmp 18) _ (.tmp 20) 63 (.inl rfl) 3 58 (Value.int .i64) keyI Tryd.underlying63 bM ls rfl M5.out (at_ : Int) _ rfl rfl ?_; intro w6 hM6 hg6; have M6 := hid hM6; have G6 := hid hg6; have B6 := hid (B5.out.grown hg6 (by simp; omega)); have Y5 := hid (((Y4.out.chg G3.out.2 (by show ¬ _ = _; omega))).grown hg6 (by simp; omega)); clear hM6 hg6)
    | (refine wpList_load_agg rfl 58 (.tmp 5) rfl (w.heap.size + 1) 0 rfl 58 D _ 16 B6.out Tryd.underlying58 rfl info_set (by omega) ?_; intro E2 HE2; have e0 : E2 = D := (by rw [HE2.out]; exact ext_all D 16 sD); have E3 := hid e0; have sE2 : E2.size = 16 := (by rw [e0]; exact sD); clear e0)
    | (refine wpList_store_agg rfl 58 (.tmp 4) (.tmp 21) rfl w.heap.size 0 E2 rfl rfl 58 Y Y5.out (by rw [sE2]; exact info_set) (by omega) (by rw [E3.out, HD.out]; exact ones_setV _) ?_; intro w7 H7 hs7; have hz := H7.out.1; rw [splice_all (by omega)] at hz; have H8 := hid hz; clear hz))
  have C7 : Chg (fun k => k = w.heap.size ∨ k = w.heap.size + 1 ∨ k = bM) w w7 := ((C5.out.mono (S' := fun k => k = w.heap.size ∨ k = w.heap.size + 1 ∨ k = bM) (fun _ _ e => .inr (.inl e))).grown G6.out (fun k e => .inr (.inr (by simpa using e.symm)))).trans (H7.out.2.mono fun _ _ e => .inl e)
  refine bodyPost_ret (v := .agg E2) (results_cell_agg Tryd.results25 _ w7 w.heap.size _ E2 _ rfl H8.out Tryd.underlying58 rfl (by rw [sE2]; exact info_set)) rfl ⟨E2, rfl, by rw [E3.out, HD.out], ⟨aput ls (at_ : Int) (.agg E), M6.out.chg H7.out.2 (by show ¬ _ = _; omega), fun k v hv => ?_⟩, C7.mono (fun k hk e => by omega)⟩
  rw [alook_aput] at hv
  by_cases e : (k : Int) = (at_ : Int)
  · rw [if_pos e] at hv
    cases hv
    rw [E0.out, HD.out, show k = at_ by omega]
  · rw [if_neg e] at hv
    exact Hk.out k v hv

theorem follow_any {l : List Nd} (F : Rx.Form l) {w : World} {ao : Option Addr} {bF bA cap : Nat} (hP : PlanW w ao l bF bA) (hl : l.length ≤ 64) {bK bM bP at_ : Nat} (hB : Blk w bP 53 (planC ao l.length cap bF bA)) (hat : at_ < l.length) {ls : List (Int × Value)} (hK : w.cell? ⟨bK, 0, none⟩ = some (.map (some bM))) (hM : MapB w bM (Value.int .i64) ls) (hk : KnownOk l ls) (hb : bK < w.heap.size) :
    Calls Tryd.prog 25 #[.int .i64 at_, .pointer (some ⟨bK, 0, none⟩), .pointer (some ⟨bP, 0, none⟩)] w (FollowPost l bM at_ w) := by
  cases ha : alook ls (at_ : Int) with
  | none => exact follow_new F hP hl hB hat hK hM hk ha hb
  | some v => exact follow_old hK hM hk ha hb

end Go.Proofs.YtngpjagpeblbjaaDoor
