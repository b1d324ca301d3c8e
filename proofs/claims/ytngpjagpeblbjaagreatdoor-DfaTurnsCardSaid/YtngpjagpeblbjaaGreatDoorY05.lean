/-
  Walk of Small.
-/
import Derived.Test.YtngpjagpeblbjaaGreatDoorY04
namespace Go.Proofs.YtngpjagpeblbjaaGreatDoor
open Go.RowKit Go.Spy Go.Heaped Go.Tour Go.Rx
def DSmallPost (D : DA) (w : World) (e : Ending) (w' : World) : Prop := Ext w w' ∧ ∃ v S, e = .returned (.tuple #[v, .int .i64 0]) ∧ MinD D S ∧ DfaV w' v S.raw
set_option maxRecDepth 100000 in
set_option maxHeartbeats 1000000 in
theorem dsmall_bad {w : World} {v : Value} {d : DR} (hD : DfaV w v d) (hB : BndD d) (h : checkE nameOk d ≠ 0) : Calls Tryz.prog 18 #[v] w (MakeBad (checkE nameOk d : Nat) w) := by
 obtain ⟨vS, vN, vF, us, rfl, hP⟩ := hD
 have HC1 : Hid (∀ W, Ext w W → Calls Tryz.prog 11 #[.agg #[vS, vN, vF]] W (ErrP (checkE nameOk d) W)) := hid fun W e => dcheck_any (hP.ext e) hB
 obtain ⟨aoS, cS, rfl, -⟩ := hP.syms.form
 obtain ⟨aoN, cN, rfl, -⟩ := hP.next.form
 obtain ⟨aoF, cF, rfl, -⟩ := hP.fin.form
 obtain ⟨n1, hn1⟩ : ∃ n, n = d.syms.length := ⟨_, rfl⟩
 obtain ⟨n2, hn2⟩ : ∃ n, n = us.length := ⟨_, rfl⟩
 obtain ⟨n3, hn3⟩ : ∃ n, n = d.fin.length := ⟨_, rfl⟩
 obtain ⟨E, hE⟩ : ∃ E, E = checkE nameOk d := ⟨_, rfl⟩
 rw [← hn1, ← hn2, ← hn3] at HC1 ⊢
 rw [← hE] at HC1 h ⊢
 have d0 : (((E : Nat) : Int) != 0) = true := by simp; omega
 have hE0 : Ext w ((w.alloc (.cells #[.slice aoS n1 cS, .slice aoN n2 cN, .slice aoF n3 cF] 26)).alloc (.cells #[.slice none 0 0, .slice none 0 0, .slice none 0 0] 26)) := ((Below.refl _ _).alloc (Nat.le_refl _) _).alloc (by simp) _
 have HE0 := hid hE0
 clear hP hB hn1 hn2 hn3 hE h hE0
 go_enter Tryz.func18, Tryz.ntmps18
 go_wp2_with fail
 refine (HC1.out _ HE0.out).mono ?_
 rintro e w2 ⟨rfl, hx⟩
 have HX2 := hid (HE0.out.trans (hx.mono HE0.out.size))
 have hS2 : Blk w2 (w.heap.size + 1) 26 #[.slice none 0 0, .slice none 0 0, .slice none 0 0] := (Blk.new' (w.alloc (.cells #[.slice aoS n1 cS, .slice aoN n2 cN, .slice aoF n3 cF] 26)) 26 _ (by simp)).ext hx
 have r0 : w2.cell? ⟨w.heap.size + 1, 0, none⟩ = some (.slice none 0 0) := hS2.cell (i := 0) rfl
 have r1 : w2.cell? ⟨w.heap.size + 1, 1, none⟩ = some (.slice none 0 0) := hS2.cell (i := 1) rfl
 have r2 : w2.cell? ⟨w.heap.size + 1, 2, none⟩ = some (.slice none 0 0) := hS2.cell (i := 2) rfl
 have rf := hS2.frozen
 have rl := hS2.lt
 have HS2 := hid hS2
 clear hx hS2
 go_wp2_with fail
 refine bodyPost_ret (v := .tuple #[nilD, .int .i64 E]) (results_cell_agg_tmp Tryz.results18 _ _ (w.heap.size + 1) 26 #[.slice none 0 0, .slice none 0 0, .slice none 0 0] _ _ rfl rfl (blk3 HS2.out _ _ _) Tryz.underlying26 rfl (by kernel_rfl)) rfl ?_
 exact ⟨rfl, ext3 HX2.out (by omega) _ _ _⟩
theorem infoM3 : (Tryz.prog.info? 3).map (fun i => (i.zero, i.size, i.bytes)) = some (some (.int .i64 0), 1, 8) := by kernel_rfl
theorem madeI (n : Nat) : madeCells (Value.int .i64 0).cells (n * 1) = natRow (List.replicate n 0) := by
 apply Array.ext_getElem?
 intro i
 simp only [madeCells, natRow, Nat.mul_one]
 by_cases hi : i < n
 ·simp [hi, Value.cells, Nat.mod_one]
 ·simp [hi, Value.cells]
structure TouW (w w5 : World) (D : DA) (i : Nat) (x : Array Value) (bT : Nat) (vK vN vG : Value) (us : List Value) : Prop where
 ext : Ext w w5
 box : Blk w5 w.heap.size 26 x
 res : Blk w5 (w.heap.size + 1) 26 #[.slice none 0 0, .slice none 0 0, .slice none 0 0]
 tour : Blk w5 bT 89 #[vK, vN, vG]
 keys : ReadR w5 1 natA vK (tourN (stepF D) 0 i).keys
 next : ReadR w5 1 oneA vN us
 len : us.length = (reachD D i).next.length
 rows : ∀ (j : Nat) (u : Value) (r : List Nat), us[j]? = some u → (reachD D i).next[j]? = some r → ReadR w5 1 natA u r
theorem TouW.ext' {w w5 w6 : World} {D : DA} {i : Nat} {x : Array Value} {bT : Nat} {vK vN vG : Value} {us : List Value} (h : TouW w w5 D i x bT vK vN vG us) (e : Ext w5 w6) : TouW w w6 D i x bT vK vN vG us :=
 ⟨h.ext.trans (e.mono h.ext.size), h.box.ext e, h.res.ext e, h.tour.ext e, h.keys.ext e, h.next.ext e, h.len, fun j u r hu hr => (h.rows j u r hu hr).ext e⟩
structure FinW (w5 wr : World) (b : Nat) (vF : Value) (fs : List Bool) : Prop where
 ext : Ext w5 wr
 blk : Blk wr b 24 #[vF]
 own : OwnR wr w5.heap.size 4 1 boolC vF fs
 ge : w5.heap.size ≤ b
theorem FinW.drew {w5 wr : World} {b : Nat} {vF : Value} {fs : List Bool} (h : FinW w5 wr b vF fs) : FinW w5 wr.drew b vF fs := ⟨h.ext.drew, h.blk.drew, h.own.drew, h.ge⟩
theorem FinW.ext' {w5 wr wy : World} {b : Nat} {vF : Value} {fs : List Bool} (h : FinW w5 wr b vF fs) (e : Ext wr wy) : FinW w5 wy b vF fs := ⟨h.ext.trans (e.mono h.ext.size), h.blk.ext e, h.own.ext e, h.ge⟩
theorem FinW.step {w5 wr w6 : World} {b : Nat} {vF v' : Value} {fs fs' : List Bool} (h : FinW w5 wr b vF fs) (hg : wr.grownBy w6 vF.ownBlock) (hO : OwnR w6 w5.heap.size 4 1 boolC v' fs') : (Ext w5 w6 ∧ Blk w6 b 24 #[vF]) ∧ FinW w5 (w6.setCell ⟨b, 0, none⟩ v') b v' fs' := by
 have c6 : Chg (fun k => vF.ownBlock = some k) wr w6 := (Chg.refl _ wr).grown hg (fun k e => e)
 have e6 : Ext w5 w6 := h.ext.trans ((c6.mono (S' := fun k => w5.heap.size ≤ k) fun k _ e => (h.own.lt k e).1).below h.ext.size (fun k e => e))
 have b6 : Blk w6 b 24 #[vF] := h.blk.chg c6 (own_blk_ne h.own h.blk (by decide))
 have c7 : Chg (fun k => k = b) w6 (w6.setCell ⟨b, 0, none⟩ v') := (Chg.refl (fun k => k = b) w6).setCell (p := ⟨b, 0, none⟩) rfl v'
 refine ⟨⟨e6, b6⟩, e6.trans ((c7.mono (S' := fun k => w5.heap.size ≤ k) fun k _ e => by rw [e]; exact h.ge).below e6.size (fun k e => e)), b6.set 0 v', hO.chg c7 (fun k e e' => own_blk_ne hO b6 (by decide) (e' ▸ e)), h.ge⟩
structure AlkW (w5 w7 wr : World) (b : Nat) (vA : Value) (a : List Nat) : Prop where
 ext : Ext w7 wr
 blk : Blk wr b 46 #[vA]
 own : OwnR wr w5.heap.size 3 1 natA vA a
 low : Ext w5 w7
 ge : w7.heap.size ≤ b
theorem AlkW.ext' {w5 w7 wr wy : World} {b : Nat} {vA : Value} {a : List Nat} (h : AlkW w5 w7 wr b vA a) (e : Ext wr wy) : AlkW w5 w7 wy b vA a := ⟨h.ext.trans (e.mono h.ext.size), h.blk.ext e, h.own.ext e, h.low, h.ge⟩
theorem AlkW.base {w5 w7 wr : World} {b : Nat} {vA : Value} {a : List Nat} (h : AlkW w5 w7 wr b vA a) : Ext w5 wr := h.low.trans (h.ext.mono h.low.size)
theorem next_ok_small {w : World} {E : DA} {a one : List Nat} {bT bO bL : Nat} {vK vN vF vO vA : Value} {us : List Value} (hW : SmallW w E a one bT bO bL vK vN vF vO vA us) (hE : OkD E) (A : AlikeI E a) (I : OneI E a one) (hm : E.syms.length ≤ 1000) (hn : E.next.length ≤ 1000) (hO : one.length = E.next.length) :
 NextOk kindI 62 #[.pointer (some ⟨bT, 0, none⟩), .pointer (some ⟨bO, 0, none⟩), .pointer (some ⟨bL, 0, none⟩)] w.heap.size (fun _ => False) (fun w' => Ext w w') (fun c => ∃ s, s < E.next.length ∧ c = at0 a s) (stepK E a one) where
 enters := enters62
 keep := fun a b i c => i.trans (c.below i.size (fun k e => e))
 below := fun k e => e.elim
 call := fun k w' u i s => by
  obtain ⟨s0, hs0, rfl⟩ := u
  have h1 := I.one s0 hs0
  have h := small2_any (hW.ext i) hE A.len hm hn h1.1 (at0_some (by rw [hO]; exact A.lt s0 hs0)) (by rw [hO]; exact hn)
  refine Calls.mono (by simpa [kindI, numV] using h) ?_
  rintro e w'' ⟨hx, v, rfl, hR⟩
  exact ⟨v, rfl, OwnR.read hR okI.size, fun h0 g hg => .inr (hR.lt g hg).1, i.trans (hx.mono i.size), Chg.of_ext hx⟩
 univ := fun k u => I.univ hE k u
def TourS (E : DA) (a one : List Nat) (w : World) (e : Ending) (w' : World) : Prop := Ext w w' ∧ ∃ i vK vN vF, Full (stepK E a one) (at0 a 0) i ∧ i ≤ 1000 ∧ e = .returned (.tuple #[.agg #[vK, vN, vF], .bool true]) ∧ TourW kindI w' w.heap.size vK vN vF (tourN (stepK E a one) (at0 a 0) i).keys (tourN (stepK E a one) (at0 a 0) i).next (tourN (stepK E a one) (at0 a 0) i).from_
theorem tour_small {w : World} {E : DA} {a one : List Nat} {bT bO bL : Nat} {vK vN vF vO vA : Value} {us : List Value} (hW : SmallW w E a one bT bO bL vK vN vF vO vA us) (hE : OkD E) (A : AlikeI E a) (I : OneI E a one) (hm : E.syms.length ≤ 1000) (hn : E.next.length ≤ 1000) (hO : one.length = E.next.length) :
 Calls Tryz.prog 51 #[.int .i64 (at0 a 0 : Nat), .int .i64 9223372036854775807, .func (.func 62) #[] #[.pointer (some ⟨bT, 0, none⟩), .pointer (some ⟨bO, 0, none⟩), .pointer (some ⟨bL, 0, none⟩)]] w (TourS E a one w) := by
 have hU : ∃ s, s < E.next.length ∧ at0 a 0 = at0 a s := ⟨0, hE.pos, rfl⟩
 have hle : ∀ i, (tourN (stepK E a one) (at0 a 0) i).keys.length ≤ E.next.length := fun i => by
  have := tourN_le (U := fun c => ∃ s, s < E.next.length ∧ c = at0 a s) (succ := stepK E a one) (first := at0 a 0) hU (fun k u => I.univ hE k u) (u := List.range E.next.length) (fun k hk => by
   obtain ⟨s, hs, rfl⟩ := hk
   exact List.mem_range.2 (A.lt s hs)) i
  simpa using this
 have h := travel_int (first := at0 a 0) (most := 9223372036854775807) w (next_ok_small hW hE A I hm hn hO) (Below.refl _ _) (fun i k hk => tourN_univ (U := fun c => ∃ s, s < E.next.length ∧ c = at0 a s) hU (fun k u => I.univ hE k u) i k hk) (by decide) (.inr fun i => by have := hle i; omega) (fun k _ => by rw [fan_length]; exact hm)
 refine Calls.mono h ?_
 rintro e w' ⟨hi, hc, ⟨i, vK, vN, vF, h1, h2, rfl, h3⟩ | ⟨i, h1, -⟩⟩
 ·refine ⟨hi, i, vK, vN, vF, h1.symm, ?_, rfl, h3⟩
  have := hle i
  omega
 ·exfalso
  have := hle i
  have h4 : (9223372036854775807 : Nat) < 1001 := by omega
  exact absurd h4 (by decide)
structure OneW (wc wr : World) (i : Nat) (O : List Nat) : Prop where
 ext : Ext wc wr
 cells : Blk wr wc.heap.size 3 (natRow O)
 box : Blk wr (wc.heap.size + 1) 46 #[.slice (some ⟨wc.heap.size, 0, none⟩) i i]
theorem OneW.set {wc wr : World} {i : Nat} {O : List Nat} (h : OneW wc wr i O) (x s : Nat) : OneW wc (wr.setCell ⟨wc.heap.size, x, none⟩ (.int .i64 (s : Nat))) i (O.set x s) := by
 have c : Chg (fun k => k = wc.heap.size) wr (wr.setCell ⟨wc.heap.size, x, none⟩ (.int .i64 (s : Nat))) := (Chg.refl (fun k => k = wc.heap.size) wr).setCell (p := ⟨wc.heap.size, x, none⟩) rfl _
 refine ⟨h.ext.trans ((c.mono (S' := fun k => wc.heap.size ≤ k) fun k _ e => by rw [e]; exact Nat.le_refl _).below h.ext.size (fun k e => e)), ?_, h.box.chg c (by omega)⟩
 rw [← natRow_set]
 exact h.cells.set x _
set_option maxRecDepth 100000 in
set_option maxHeartbeats 8000000 in
theorem dsmall_any {w : World} {x : Array Value} {D : DA} (hD : DfaW w (.agg x) D) : Calls Tryz.prog 18 #[.agg x] w (DSmallPost D w) := by
 have HD := hid hD
 obtain ⟨⟨vS, vN, vF, us, hxe, hP⟩, hB, W⟩ := hD
 simp only [Value.agg.injEq] at hxe
 subst hxe
 have HC : Hid (∀ W', Ext w W' → Calls Tryz.prog 11 #[.agg #[vS, vN, vF]] W' (ErrP 0 W')) := hid fun W' e => well_check W ▸ dcheck_any (hP.ext e) hB
 obtain ⟨aoS, cS, rfl, hS⟩ := hP.syms.form
 obtain ⟨aoN, cN, rfl, hN⟩ := hP.next.form
 obtain ⟨aoF, cF, rfl, hF⟩ := hP.fin.form
 obtain ⟨m, hm⟩ : ∃ n, n = D.raw.syms.length := ⟨_, rfl⟩
 obtain ⟨n2, hn2⟩ : ∃ n, n = us.length := ⟨_, rfl⟩
 obtain ⟨n3, hn3⟩ : ∃ n, n = D.raw.fin.length := ⟨_, rfl⟩
 rw [← hm, ← hn2, ← hn3] at HC HD hP ⊢
 rw [← hm] at hS
 rw [← hn3] at hF
 have hm1000 : m ≤ 1000 := by rw [hm]; exact hB.s
 have HP := hid hP
 have HB := hid hB
 have HW := hid W
 have HM : Hid (m = D.syms.length) := hid hm
 have HN3 : Hid (n3 = D.fin.length) := hid hn3
 have HFG := hid hF
 obtain ⟨w1, hw1⟩ : ∃ u, u = (w.alloc (.cells #[.slice aoS m cS, .slice aoN n2 cN, .slice aoF n3 cF] 26)).alloc (.cells #[.slice none 0 0, .slice none 0 0, .slice none 0 0] 26) := ⟨_, rfl⟩
 have HX1 : Hid (Ext w w1) := hid (hw1 ▸ ((Below.refl _ _).alloc (Nat.le_refl _) _).alloc (by simp) _)
 have HBA : Hid (Blk w1 w.heap.size 26 #[.slice aoS m cS, .slice aoN n2 cN, .slice aoF n3 cF]) := hid (hw1 ▸ (Blk.new _ _ _).alloc _)
 have HR : Hid (Blk w1 (w.heap.size + 1) 26 #[.slice none 0 0, .slice none 0 0, .slice none 0 0]) := hid (hw1 ▸ Blk.new' _ _ _ (by simp))
 have HW1 := hid hw1
 clear hP hB W hS hN hF hm hn2 hn3 hw1
 go_enter Tryz.func18, Tryz.ntmps18
 go_wp2_with fail
 rw [← HW1.out]
 refine (HC.out w1 HX1.out).mono ?_
 rintro e w2 ⟨rfl, hx⟩
 have HX2 := hid (HX1.out.trans (hx.mono HX1.out.size))
 have hB2 := HBA.out.ext hx
 have HB2 := hid hB2
 have HR2 := hid (HR.out.ext hx)
 have HP2 := hid (HP.out.ext HX2.out)
 have HT := hid (tour_d (w := w2) (f := 58) (caps := #[.pointer (some ⟨w.heap.size, 0, none⟩)]) HW.out HB.out.s (next_ok_int enters58 hB2 HP2.out HW.out (fun s w' hs e => small1_any (hB2.ext e) (HP2.out.ext e) HW.out hs |>.mono fun _ _ ⟨h1, h2⟩ => ⟨h1, h2⟩)))
 clear hx hB2
 go_wp2_with fail
 refine HT.out.mono ?_
 rintro e w3 ⟨hx3, i, vK, vN', vG, hfull, hi, rfl, hT⟩
 obtain ⟨hK, ⟨us3, hn3, hu3, hr3⟩, hFr⟩ := hT
 obtain ⟨aoK, cK, rfl, -⟩ := (OwnR.read hK okI.size).form
 obtain ⟨aoM, cM, rfl, -⟩ := (OwnR.read hn3 (fun _ => rfl)).form
 obtain ⟨aoG, cG, rfl, -⟩ := (OwnR.read hFr (fun _ => rfl)).form
 obtain ⟨kl, hkl⟩ : ∃ n, n = (tourN (stepF D) 0 i).keys.length := ⟨_, rfl⟩
 obtain ⟨nl, hnl⟩ : ∃ n, n = us3.length := ⟨_, rfl⟩
 obtain ⟨fl, hfl⟩ : ∃ n, n = (tourN (stepF D) 0 i).from_.length := ⟨_, rfl⟩
 have hRK := OwnR.read hK okI.size
 have hRN := OwnR.read hn3 (fun _ => rfl)
 rw [← hkl] at hRK ⊢
 rw [← hnl] at hRN ⊢
 rw [← hfl] at ⊢
 obtain ⟨w5, hw5⟩ : ∃ u, u = w3.alloc (.cells #[.slice aoK kl cK, .slice aoM nl cM, .slice aoG fl cG] 89) := ⟨_, rfl⟩
 have e5 : Ext w3 w5 := hw5 ▸ (Below.refl _ _).alloc (Nat.le_refl _) _
 have HTW : Hid (TouW w w5 D i #[.slice aoS m cS, .slice aoN n2 cN, .slice aoF n3 cF] w3.heap.size (.slice aoK kl cK) (.slice aoM nl cM) (.slice aoG fl cG) us3) :=
  hid ⟨(HX2.out.trans (hx3.mono HX2.out.size)).trans (e5.mono (HX2.out.trans (hx3.mono HX2.out.size)).size), (HB2.out.ext hx3).ext e5, (HR2.out.ext hx3).ext e5, hw5 ▸ Blk.new _ _ _, hRK.ext e5, hRN.ext e5, hu3, fun j u r hu hr => (hr3 j u r hu hr).1.ext e5⟩
 have HW5 := hid hw5
 have HFULL := hid hfull
 have HKL := hid hkl
 have HNL := hid hnl
 have hki : i = kl := (hkl.trans hfull).symm
 have hni : i = nl := (by rw [hnl, hu3]; exact (reachD_len hfull).symm)
 subst hki
 subst hni
 obtain ⟨bT, hbT⟩ : ∃ b, b = w3.heap.size := ⟨_, rfl⟩
 rw [← hbT] at HTW
 have HBT := hid hbT
 have HBF : Hid (w5.heap.size = bT + 1) := hid (by rw [hw5, hbT]; simp)
 have HI := hid hi
 obtain ⟨ks, hks⟩ : ∃ x, x = (tourN (stepF D) 0 i).keys := ⟨_, rfl⟩
 have HKS := hid hks
 have HKL : Hid (i = ks.length) := hid (by rw [hks]; exact hkl)
 have HU : Hid (∀ k ∈ ks, k < D.next.length) := hid (hks ▸ tourN_univ (U := fun k => k < D.next.length) HW.out.ok.pos (well_univ HW.out) i)
 have HRK : Hid (ReadR w5 1 natA (.slice aoK i cK) ks) := hid (hks ▸ HTW.out.keys)
 clear hx3 hfull hK hn3 hu3 hr3 hFr hkl hnl hfl hRK hRN hw5 e5 hbT HT HC HX1 HX2 HBA HR HW1 HB2 HR2 HP2 hks
 go_wp2_with fail
 rw [← HW5.out, ← HBT.out]
 go_loopg [35] i (fun g u wr => ∃ j vF', g = i - j ∧ j ≤ i ∧ u = .int .i64 j ∧ Hid (FinW w5 wr (bT + 1) vF' ((ks.take j).map (finD D))))
 case atStart => exact ⟨0, .slice none 0 0, rfl, Nat.zero_le _, rfl, hid ⟨(Below.refl _ _).alloc (Nat.le_refl _) _, Blk.new' _ _ _ HBF.out.symm, OwnR.nil _ _ _ _ _, by have := HBF.out; omega⟩⟩
 case round =>
  obtain ⟨j, vF', rfl, hj, rfl, HF⟩ := hrel
  have zl := HF.out.blk.lt
  by_cases hlt : j < i
  ·obtain ⟨s, hs⟩ : ∃ s, ks[j]? = some s := ⟨_, List.getElem?_eq_getElem (by rw [← HKL.out]; exact hlt)⟩
   have hsn := HU.out s (List.mem_of_getElem? hs)
   obtain ⟨b, hb⟩ : ∃ b, D.raw.fin[s]? = some b := ⟨_, List.getElem?_eq_getElem (by show s < D.fin.length; rw [HW.out.ok.fin]; exact hsn)⟩
   have hbf : finD D s = b := by unfold finD; show (D.raw.fin[s]?).getD false = b; rw [hb]; rfl
   obtain ⟨gK, oK, rfl⟩ : ∃ g off, aoK = some ⟨g, off, none⟩ := by
    obtain ⟨ao, c, e, hg⟩ := HRK.out.form
    simp only [Value.slice.injEq] at e
    rw [e.1]
    exact hg (by rw [← HKL.out]; omega)
   have hsn3 : s < n3 := by rw [HN3.out]; exact (List.getElem?_eq_some_iff.1 hb).1
   obtain ⟨gF, oF, rfl⟩ := HFG.out (by omega)
   have c1 : wr.cell? ⟨gK, oK + j, none⟩ = some (.int .i64 s) := by
    have h := HRK.out.ext HF.out.ext
    rw [HKL.out] at h
    exact h.cell1 hs
   have z1 : wr.cell? ⟨bT + 1, 0, none⟩ = some vF' := HF.out.blk.cell rfl
   have HS := hid hs
   have HBB := hid hb
   have HBF2 := hid hbf
   have HCF : Hid (∀ w', Ext w5 w' → w'.cell? ⟨w.heap.size, 2, none⟩ = some (.slice (some ⟨gF, oF, none⟩) n3 cF) ∧ w'.cell? ⟨gF, oF + s, none⟩ = some (.bool b)) := hid fun w' hS => ⟨(HTW.out.box.ext hS).cell (i := 2) rfl, by
    have h := (HP.out.ext (HTW.out.ext.trans (hS.mono HTW.out.ext.size))).fin
    rw [show n3 = D.raw.fin.length from HN3.out] at h
    exact h.cell1 hb⟩
   have g1 : (0 : Int) ≤ (s : Int) := by omega
   have g2 : (s : Int) < (n3 : Int) := by omega
   clear hs hb hbf hsn
   go_upto_region 9 with fail
   have hS0 : Ext w5 wr.drew := HF.out.ext.drew
   refine wp_region_heldL (fun w' => Ext w5 w') (by kernel_rfl) ?_
   refine wpAnyH_takeK 1 8 (mk 9 2) rfl (by kernel_rfl) rfl (.pointer (some ⟨w.heap.size, 2, none⟩)) (fun _ _ _ h => h) (Or.inl ⟨rfl, fun w' hS => ?_⟩) hS0 ?_
   ·go_simp <;> with_reducible rfl
   refine wpAnyH_takeK 2 7 (mk 9 6) rfl (by kernel_rfl) rfl (.slice (some ⟨gF, oF, none⟩) n3 cF) (fun _ _ _ h => h) (Or.inl ⟨rfl, fun w' hS => ?_⟩) hS0 ?_
   ·have d1 := (HCF.out w' hS).1; go_simp <;> with_reducible rfl
   refine wpAnyH_takeK 3 6 (mk 9 14) rfl (by kernel_rfl) rfl (.int .i64 s) (fun _ _ _ h => h) (Or.inl ⟨rfl, fun w' hS => ?_⟩) hS0 ?_
   ·go_simp <;> with_reducible rfl
   refine wpAnyH_takeK 4 5 (mk 9 30) rfl (by kernel_rfl) rfl (.pointer (some ⟨gF, oF + s, none⟩)) (fun _ _ _ h => h) (Or.inl ⟨rfl, fun w' hS => ?_⟩) hS0 ?_
   ·go_simp <;> with_reducible rfl
   refine wpAnyH_takeK 5 4 (mk 9 62) rfl (by kernel_rfl) rfl (.bool b) (fun _ _ _ h => h) (Or.inl ⟨rfl, fun w' hS => ?_⟩) hS0 ?_
   ·have d1 := (HCF.out w' hS).2; go_simp <;> with_reducible rfl
   have HFD : Hid (FinW w5 wr.drew (bT + 1) vF' ((ks.take j).map (finD D))) := hid HF.out.drew
   have hsz : w5.heap.size ≤ wr.drew.heap.size := hS0.size
   have hln : ((ks.take j).map (finD D)).length + 1 ≤ 1000000000 := by have := HI.out; simp; omega
   have HOW := hid HFD.out.own
   refine wpAnyH_two 0 6 3 (mk 9 63) (mk 9 126) rfl rfl (by kernel_rfl) rfl ?_ ?_
   ·go_wp2_with fail
    refine ⟨hS0, ?_⟩
    refine wpAnyH_one 6 2 (mk 9 127) rfl (by kernel_rfl) rfl ?_
    go_wp2_with fail
    refine ⟨hS0.alloc hsz _, ?_⟩
    refine wpAnyH_one 7 1 (mk 9 255) rfl (by kernel_rfl) rfl ?_
    go_wp2_with (with_reducible refine onOp 46 ?_
                 go_loud (refine wpList_append_R elem_bool (fun _ => rfl) ones_bool HOW hsz hln b _ rfl wr.heap.size rfl rfl _ _ rfl rfl rfl ?_)
                 rintro g' c' v' w6 rfl G1 G2)
    obtain ⟨P1, P2⟩ := HFD.out.step G2.out.1 G1.out
    have y1 : w6.cell? ⟨bT + 1, 0, none⟩ = some vF' := P1.2.cell rfl
    have yf := P1.2.frozen
    have yl := P1.2.lt
    refine ⟨P1.1, ?_⟩
    rw [List.length_map, List.length_take] at P2
    have HP2 := hid P2
    clear P1 P2
    refine wpAnyH_one 8 0 (mk 9 511) rfl (by kernel_rfl) rfl ?_
    go_wp2_with fail
    refine ⟨HP2.out.ext, ?_⟩
    refine wpAnyH_end (P := Tryz.prog) (by kernel_rfl) ?_
    go_wp2_with fail
    go_roundg (i - (j + 1))
    case measure => omega
    case rel =>
     refine ⟨j + 1, .slice (some ⟨g', 0, none⟩) (min j ks.length + 1) c', rfl, by omega, by go_num, ?_⟩
     rw [take_snoc HS.out, List.map_append, List.map_cons, List.map_nil, HBF2.out]
     exact HP2
   ·go_wp2_with fail
    refine ⟨hS0.alloc hsz _, ?_⟩
    refine wpAnyH_one 0 2 (mk 9 127) rfl (by kernel_rfl) rfl ?_
    go_wp2_with fail
    refine ⟨hS0.alloc hsz _, ?_⟩
    refine wpAnyH_one 7 1 (mk 9 255) rfl (by kernel_rfl) rfl ?_
    go_wp2_with (with_reducible refine onOp 46 ?_
                 go_loud (refine wpList_append_R elem_bool (fun _ => rfl) ones_bool HOW hsz hln b _ rfl wr.heap.size rfl rfl _ _ rfl rfl rfl ?_)
                 rintro g' c' v' w6 rfl G1 G2)
    obtain ⟨P1, P2⟩ := HFD.out.step G2.out.1 G1.out
    have y1 : w6.cell? ⟨bT + 1, 0, none⟩ = some vF' := P1.2.cell rfl
    have yf := P1.2.frozen
    have yl := P1.2.lt
    refine ⟨P1.1, ?_⟩
    rw [List.length_map, List.length_take] at P2
    have HP2 := hid P2
    clear P1 P2
    refine wpAnyH_one 8 0 (mk 9 511) rfl (by kernel_rfl) rfl ?_
    go_wp2_with fail
    refine ⟨HP2.out.ext, ?_⟩
    refine wpAnyH_end (P := Tryz.prog) (by kernel_rfl) ?_
    go_wp2_with fail
    go_roundg (i - (j + 1))
    case measure => omega
    case rel =>
     refine ⟨j + 1, .slice (some ⟨g', 0, none⟩) (min j ks.length + 1) c', rfl, by omega, by go_num, ?_⟩
     rw [take_snoc HS.out, List.map_append, List.map_cons, List.map_nil, HBF2.out]
     exact HP2
  ·obtain rfl : i = j := by omega
   have hFE : FinW w5 wr (bT + 1) vF' (reachD D i).fin := by
    have h := HF.out
    rw [List.take_of_length_le (by rw [← HKL.out]; exact Nat.le_refl _), HKS.out] at h
    exact h
   have hE : OkD (reachD D i) := reachD_ok HFULL.out
   have hEn : (reachD D i).next.length = i := reachD_len HFULL.out
   have hEf : (reachD D i).fin.length = i := by rw [hE.fin, hEn]
   obtain ⟨aoE, cE, rfl, -⟩ := (OwnR.read hFE.own (fun _ => rfl)).form
   rw [hEf] at hFE
   have HFE := hid hFE
   have HE := hid hE
   have HEN := hid hEn
   have HEF := hid hEf
   have HCL := hid (classes_bool (OwnR.read hFE.own (fun _ => rfl)) (by rw [hEf]; have := HI.out; omega))
   have z1 : wr.cell? ⟨bT + 1, 0, none⟩ = some (.slice aoE i cE) := hFE.blk.cell rfl
   clear hFE hE hEn hEf HF
   go_wp2_with fail
   refine HCL.out.mono ?_
   rintro e w7 ⟨hx7, vA0, rfl, hO7⟩
   have HF7 := hid (HFE.out.ext' hx7)
   have HO7 := hid (hO7.lower HFE.out.ext.size)
   obtain ⟨b7, hb7⟩ : ∃ b, b = w7.heap.size := ⟨_, rfl⟩
   have HB7 := hid hb7
   obtain ⟨c0, hc0⟩ := (alike_start HE.out).num
   have HC0 := hid hc0
   obtain ⟨aoA0, cA0, rfl, -⟩ := (OwnR.read hO7 (fun _ => rfl)).form
   rw [cls_length, HEF.out] at HO7 ⊢
   clear hx7 hO7 hb7 hc0 z1 zl hlt HFE HCL
   have hlow : bT + 1 < w7.heap.size := HF7.out.blk.lt
   go_wp2_with fail
   rw [← HB7.out]
   go_loopg [] (i - c0) (fun g wr => ∃ a vA c, g = i - c ∧ Hid (Num a c ∧ AlikeI (reachD D i) a) ∧ Hid (AlkW w5 w7 wr b7 vA a))
   case atStart =>
    refine ⟨cls (reachD D i).fin, .slice aoA0 i cA0, c0, rfl, hid ⟨HC0.out, alike_start HE.out⟩, hid ⟨(Below.refl _ _).alloc (Nat.le_refl _) _, Blk.new' _ _ _ HB7.out, HO7.out.alloc _, HF7.out.ext, by rw [HB7.out]; exact Nat.le_refl _⟩⟩
   case round =>
    obtain ⟨a, vA, c, rfl, HA, HW2⟩ := hrel
    have hal : a.length = i := by rw [HA.out.2.len, HEN.out]
    have HAL := hid hal
    obtain ⟨aoA, cA, rfl, hgA⟩ := (OwnR.read HW2.out.own (fun _ => rfl)).form
    rw [hal] at HW2 hgA
    have z1 : wr.cell? ⟨b7, 0, none⟩ = some (.slice aoA i cA) := HW2.out.blk.cell rfl
    have zb := HTW.out.box.ext HW2.out.base
    have z2 : wr.cell? ⟨w.heap.size, 0, none⟩ = some (.slice aoS m cS) := zb.cell (i := 0) rfl
    have zl := HW2.out.blk.lt
    have zl2 := zb.lt
    clear hal zb
    go_wp2_with fail
    obtain ⟨wa, hwa⟩ : ∃ x, x = wr := ⟨_, rfl⟩
    subst hwa
    clear z1 z2 zl zl2
    go_loopg [11, 54] m (fun g vFi u wr => ∃ q, g = m - q ∧ q ≤ m ∧ u = .int .i64 q ∧ Hid (AlkW w5 w7 wr b7 (.slice aoA i cA) a ∧ OwnR wr w5.heap.size 3 1 natA vFi (passN (reachD D i) a q)))
    case atStart => exact ⟨0, rfl, Nat.zero_le _, rfl, hid ⟨HW2.out, HW2.out.own⟩⟩
    case round =>
     obtain ⟨q, rfl, hq, rfl, HW3⟩ := hrel
     obtain ⟨vFi, hvFi⟩ : ∃ v, v = u11 := ⟨_, rfl⟩
     subst hvFi
     have hpl : (passN (reachD D i) a q).length = i := by rw [passN_length HA.out.2.len, HEN.out]
     have HPL := hid hpl
     obtain ⟨aoI, cI, hvI, hgI⟩ := (OwnR.read HW3.out.2 (fun _ => rfl)).form
     subst hvI
     rw [hpl] at HW3 hgI ⊢
     have zb := HTW.out.tour.ext HW3.out.1.base
     have z2 : wr.cell? ⟨bT, 1, none⟩ = some (.slice aoM i cM) := zb.cell (i := 1) rfl
     have zl2 := zb.lt
     have z1 : wr.cell? ⟨b7, 0, none⟩ = some (.slice aoA i cA) := HW3.out.1.blk.cell rfl
     have zl := HW3.out.1.blk.lt
     clear hpl zb
     by_cases hlt : q < m
     ·have HAO : Hid (AlikeI (reachD D i) (passN (reachD D i) a q)) := hid (alike_pass HE.out HA.out.2 q (by show q ≤ D.syms.length; rw [← HM.out]; exact hq))
      go_wp2_with fail
      obtain ⟨wb, hwb⟩ : ∃ x, x = wr := ⟨_, rfl⟩
      subst hwb
      clear z1 z2 zl zl2
      obtain ⟨ps, hps⟩ : ∃ ps, ps = (prsAt (reachD D i) a (passN (reachD D i) a q) q).map pairN := ⟨_, rfl⟩
      have hpsl : ps.length = i := by rw [hps]; simp [prsAt, HEN.out]
      have HPSL := hid hpsl
      have HPSC : Hid (cls ps = passN (reachD D i) a (q + 1)) := hid (by
       rw [hps, cls_pairN (fun p hp => ?_)]
       ·rfl
       simp only [prsAt, List.mem_map, List.mem_range] at hp
       obtain ⟨s, hs, rfl⟩ := hp
       have h1 := HAO.out.lt s hs
       have h2 := HA.out.2.lt (stepD (reachD D i) s q) (HE.out.step s q)
       rw [HEN.out] at h1 h2
       have := HI.out
       exact ⟨by show at0 (passN (reachD D i) a q) s < 1000000; omega, by show at0 a (stepD (reachD D i) s q) < 1000000; omega⟩)
      have HPS : Hid (∀ s, s < i → ∃ p, ps[s]? = some p ∧ p.1 = (((at0 (passN (reachD D i) a q) s : Nat) : Int), ((at0 a (stepD (reachD D i) s q) : Nat) : Int))) := hid fun s hs => by
       have hs' : s < (reachD D i).next.length := by rw [HEN.out]; exact hs
       refine ⟨pairN (at0 (passN (reachD D i) a q) s, at0 a (stepD (reachD D i) s q)), by rw [hps, List.getElem?_map, prs_get _ _ _ _ hs']; rfl, ?_⟩
       have h1 := HAO.out.lt s hs'
       have h2 := HA.out.2.lt (stepD (reachD D i) s q) (HE.out.step s q)
       rw [HEN.out] at h1 h2
       have := HI.out
       exact pairN_val (by show at0 (passN (reachD D i) a q) s < 1000000; omega) (by show at0 a (stepD (reachD D i) s q) < 1000000; omega)
      clear hps hpsl
      go_loopg [13, 60] i (fun g vL u wr => ∃ j, g = i - j ∧ j ≤ i ∧ u = .int .i64 j ∧ Hid (Ext wb wr ∧ OwnR wr wb.heap.size 83 2 prC vL (ps.take j)))
      case atStart => exact ⟨0, rfl, Nat.zero_le _, rfl, hid ⟨Below.refl _ _, OwnR.nil _ _ _ _ _⟩⟩
      case round =>
       obtain ⟨j, rfl, hj, rfl, HW4⟩ := hrel
       obtain ⟨vL, hvL⟩ : ∃ v, v = u13 := ⟨_, rfl⟩
       subst hvL
       by_cases hjl : j < i
       ·have hjn : j < (reachD D i).next.length := by rw [HEN.out]; exact hjl
        obtain ⟨r, hr⟩ : ∃ r, (reachD D i).next[j]? = some r := ⟨_, List.getElem?_eq_getElem hjn⟩
        obtain ⟨u, hu⟩ : ∃ u, us3[j]? = some u := ⟨_, List.getElem?_eq_getElem (by rw [← HNL.out]; exact hjl)⟩
        have hRow := HTW.out.rows j u r hu hr
        obtain ⟨aoR, cR, rfl, hgR⟩ := hRow.form
        have hrl : r.length = m := by rw [HE.out.row r (List.mem_of_getElem? hr), HM.out]; rfl
        obtain ⟨z, hz⟩ : ∃ z, z = stepD (reachD D i) j q := ⟨_, rfl⟩
        have hrq : r[q]? = some z := by
         obtain ⟨r', h1, h2, h3⟩ := HE.out.get (c := q) hjn (by show q < D.syms.length; rw [← HM.out]; exact hlt)
         rw [hr] at h1
         cases h1
         rw [hz]; exact h3
        have hzi : z < i := by
         have h := HE.out.step j q
         rw [HEN.out] at h
         rw [hz]; exact h
        obtain ⟨⟨⟨y1, y2⟩, hyy⟩, hp, hpv⟩ := HPS.out j hjl
        simp only [Prod.mk.injEq] at hpv
        obtain ⟨rfl, rfl⟩ := hpv
        obtain ⟨gR, oR, rfl⟩ := hgR (by omega)
        obtain ⟨gA, oA, rfl⟩ := hgA (by omega)
        obtain ⟨gI, oI, rfl⟩ := hgI (by omega)
        obtain ⟨gM, oM, rfl⟩ : ∃ g off, aoM = some ⟨g, off, none⟩ := by
         obtain ⟨ao, c, e, hg⟩ := HTW.out.next.form
         simp only [Value.slice.injEq] at e
         rw [e.1]
         exact hg (by rw [← HNL.out]; omega)
        have c1 : wr.cell? ⟨gM, oM + j, none⟩ = some (.slice (some ⟨gR, oR, none⟩) m cR) := by
         have h := (HTW.out.next.ext HW3.out.1.base).ext HW4.out.1
         rw [HNL.out] at h
         have h2 := h.cell1 hu
         rw [hrl] at h2
         exact h2
        obtain ⟨e1, he1⟩ : ∃ x, x = at0 (passN (reachD D i) a q) j := ⟨_, rfl⟩
        obtain ⟨e2, he2⟩ : ∃ x, x = at0 a z := ⟨_, rfl⟩
        have HCC : Hid (∀ w', Ext wb w' → w'.cell? ⟨gI, oI + j, none⟩ = some (.int .i64 (e1 : Nat)) ∧ w'.cell? ⟨b7, 0, none⟩ = some (.slice (some ⟨gA, oA, none⟩) i cA) ∧ w'.cell? ⟨gR, oR + q, none⟩ = some (.int .i64 (z : Nat)) ∧ w'.cell? ⟨gA, oA + z, none⟩ = some (.int .i64 (e2 : Nat))) := hid fun w' hS => by
         refine ⟨?_, (HW3.out.1.blk.ext hS).cell rfl, ?_, ?_⟩
         ·have h : ReadR w' 1 natA (.slice (some ⟨gI, oI, none⟩) (passN (reachD D i) a q).length cI) (passN (reachD D i) a q) := by
           rw [HPL.out]; exact (OwnR.read HW3.out.2 (fun _ => rfl)).ext hS
          rw [he1]
          exact h.cell1 (at0_some (by rw [HPL.out]; exact hjl))
         ·have h := (hRow.ext HW3.out.1.base).ext hS
          exact h.cell1 hrq
         ·have h : ReadR w' 1 natA (.slice (some ⟨gA, oA, none⟩) a.length cA) a := by
           rw [HAL.out]; exact (OwnR.read HW3.out.1.own (fun _ => rfl)).ext hS
          rw [he2]
          exact h.cell1 (at0_some (by rw [HAL.out]; exact hzi))
        rw [← he1, ← hz, ← he2] at hyy
        have HYY := hid hyy
        have HPP : Hid (ps[j]? = some ⟨((e1 : Int), (e2 : Int)), hyy⟩) := hid (by
         rw [hp]
         congr 2
         simp only [Prod.mk.injEq]
         exact ⟨by rw [he1], by rw [he2, hz]⟩)
        have g0 : (0 : Int) ≤ (j : Int) := by omega
        have g1 : (j : Int) < (i : Int) := by omega
        have g2 : (0 : Int) ≤ (q : Int) := by omega
        have g3 : (q : Int) < (m : Int) := by omega
        have g4 : (0 : Int) ≤ (z : Int) := by omega
        have g5 : (z : Int) < (i : Int) := by omega
        have HHP := hid hp
        clear hr hu hRow hz hrq hp hrl hjn he1 he2
        go_upto_region 20 with fail
        have hS0 : Ext wb wr.drew := HW4.out.1.drew
        refine wp_region_heldL (fun w' => Ext wb w') (by kernel_rfl) ?_
        refine wpAnyH_takeK 0 15 (mk 16 1) rfl (by kernel_rfl) rfl (vL) (fun _ _ _ h => h) (Or.inl ⟨rfl, fun w' hS => ?_⟩) hS0 ?_
        ·go_simp <;> with_reducible rfl
        refine wpAnyH_takeK 1 14 (mk 16 3) rfl (by kernel_rfl) rfl (.slice (some ⟨gI, oI, none⟩) i cI) (fun _ _ _ h => h) (Or.inl ⟨rfl, fun w' hS => ?_⟩) hS0 ?_
        ·go_simp <;> with_reducible rfl
        refine wpAnyH_takeK 2 13 (mk 16 7) rfl (by kernel_rfl) rfl (.int .i64 j) (fun _ _ _ h => h) (Or.inl ⟨rfl, fun w' hS => ?_⟩) hS0 ?_
        ·go_simp <;> with_reducible rfl
        refine wpAnyH_takeK 3 12 (mk 16 15) rfl (by kernel_rfl) rfl (.pointer (some ⟨gI, oI + j, none⟩)) (fun _ _ _ h => h) (Or.inl ⟨rfl, fun w' hS => ?_⟩) hS0 ?_
        ·go_simp <;> with_reducible rfl
        refine wpAnyH_takeK 4 11 (mk 16 31) rfl (by kernel_rfl) rfl (.int .i64 e1) (fun _ _ _ h => h) (Or.inl ⟨rfl, fun w' hS => ?_⟩) hS0 ?_
        ·have d1 := (HCC.out w' hS).1; go_simp <;> with_reducible rfl
        refine wpAnyH_takeK 5 10 (mk 16 63) rfl (by kernel_rfl) rfl (.slice (some ⟨gA, oA, none⟩) i cA) (fun _ _ _ h => h) (Or.inl ⟨rfl, fun w' hS => ?_⟩) hS0 ?_
        ·have d1 := (HCC.out w' hS).2.1; go_simp <;> with_reducible rfl
        refine wpAnyH_takeK 6 9 (mk 16 127) rfl (by kernel_rfl) rfl (.slice (some ⟨gR, oR, none⟩) m cR) (fun _ _ _ h => h) (Or.inl ⟨rfl, fun w' hS => ?_⟩) hS0 ?_
        ·go_simp <;> with_reducible rfl
        refine wpAnyH_takeK 7 8 (mk 16 255) rfl (by kernel_rfl) rfl (.int .i64 q) (fun _ _ _ h => h) (Or.inl ⟨rfl, fun w' hS => ?_⟩) hS0 ?_
        ·go_simp <;> with_reducible rfl
        refine wpAnyH_takeK 8 7 (mk 16 511) rfl (by kernel_rfl) rfl (.pointer (some ⟨gR, oR + q, none⟩)) (fun _ _ _ h => h) (Or.inl ⟨rfl, fun w' hS => ?_⟩) hS0 ?_
        ·go_simp <;> with_reducible rfl
        refine wpAnyH_takeK 9 6 (mk 16 1023) rfl (by kernel_rfl) rfl (.int .i64 z) (fun _ _ _ h => h) (Or.inl ⟨rfl, fun w' hS => ?_⟩) hS0 ?_
        ·have d1 := (HCC.out w' hS).2.2.1; go_simp <;> with_reducible rfl
        refine wpAnyH_takeK 10 5 (mk 16 2047) rfl (by kernel_rfl) rfl (.pointer (some ⟨gA, oA + z, none⟩)) (fun _ _ _ h => h) (Or.inl ⟨rfl, fun w' hS => ?_⟩) hS0 ?_
        ·go_simp <;> with_reducible rfl
        refine wpAnyH_takeK 11 4 (mk 16 4095) rfl (by kernel_rfl) rfl (.int .i64 e2) (fun _ _ _ h => h) (Or.inl ⟨rfl, fun w' hS => ?_⟩) hS0 ?_
        ·have d1 := (HCC.out w' hS).2.2.2; go_simp <;> with_reducible rfl
        refine wpAnyH_takeK 12 3 (mk 16 8191) rfl (by kernel_rfl) rfl (.agg #[.int .i64 e1, .int .i64 e2]) (fun _ _ _ h => h) (Or.inl ⟨rfl, fun w' hS => ?_⟩) hS0 ?_
        ·go_simp <;> with_reducible rfl
        refine wpAnyH_one 13 2 (mk 16 16383) rfl (by kernel_rfl) rfl ?_
        go_wp2_with fail
        refine ⟨hS0.alloc hS0.size _, ?_⟩
        have HOW4 : Hid (OwnR wr.drew wb.heap.size 83 2 prC vL (ps.take j)) := hid HW4.out.2.drew
        have hsz4 := hS0.size
        have hln : (ps.take j).length + 1 ≤ 1000000000 := by have := HI.out; rw [List.length_take]; omega
        refine wpAnyH_one 14 1 (mk 16 32767) rfl (by kernel_rfl) rfl ?_
        go_wp2_with (with_reducible refine onOp 79 ?_
                     go_loud (refine wpList_append_R elem_pr prC_size ones_pr HOW4 hsz4 hln ⟨((e1 : Int), (e2 : Int)), HYY.out⟩ _ rfl wr.heap.size rfl rfl _ _ rfl rfl rfl ?_)
                     rintro g' c' v' w6 rfl G1 G2)
        have c6 : Chg (fun k => vL.ownBlock = some k) wr.drew w6 := (Chg.refl _ wr.drew).grown G2.out.1 (fun k e => e)
        have hS6 : Ext wb w6 := hS0.trans ((c6.mono (S' := fun k => wb.heap.size ≤ k) fun k _ e => (HOW4.out.lt k e).1).below hS0.size (fun k e => e))
        have HS6 := hid hS6
        refine ⟨hS6, ?_⟩
        refine wpAnyH_one 15 0 (mk 16 65535) rfl (by kernel_rfl) rfl ?_
        go_wp2_with fail
        refine ⟨hS6, ?_⟩
        refine wpAnyH_end (P := Tryz.prog) (by kernel_rfl) ?_
        clear hS6 hS0 c6
        go_wp2_with fail
        go_roundg (i - (j + 1))
        case measure => omega
        case rel =>
         refine ⟨j + 1, rfl, by omega, by go_num, hid ⟨HS6.out, ?_⟩⟩
         rw [take_snoc HPP.out]
         have h := G1.out
         rw [List.length_take] at h
         exact h
       ·obtain rfl : i = j := by omega
        have hO4 := HW4.out.2
        rw [List.take_of_length_le (by rw [HPSL.out]; exact Nat.le_refl _)] at hO4
        have HCP := hid (classes_pr (OwnR.read hO4 prC_size) (by rw [HPSL.out]; have := HI.out; omega))
        rw [HPSC.out] at HCP
        clear hO4
        go_wp2_with fail
        refine HCP.out.mono ?_
        rintro e w8 ⟨hx8, v8, rfl, hO8⟩
        have hx9 : Ext wb w8 := HW4.out.1.trans (hx8.mono HW4.out.1.size)
        have HW8 := hid (HW3.out.1.ext' hx9)
        have HO8 := hid (hO8.lower (Nat.le_trans HW3.out.1.base.size HW4.out.1.size))
        clear hx8 hx9 hO8
        go_wp2_with fail
        go_roundg (m - (q + 1))
        case measure => omega
        case rel => exact ⟨q + 1, rfl, by omega, by go_num, hid ⟨HW8.out, HO8.out⟩⟩
     ·obtain rfl : m = q := by omega
      have hi0 : 0 < i := by have h := HE.out.pos; rw [HEN.out] at h; exact h
      obtain ⟨gA, oA, rfl⟩ := hgA hi0
      obtain ⟨gI, oI, rfl⟩ := hgI hi0
      have HMF := hid (max_any (l := passN (reachD D i) a m) (v := .slice (some ⟨gI, oI, none⟩) i cI) (w := wr.drew) (OwnR.read HW3.out.2.drew (fun _ => rfl)) (by rw [HPL.out]; exact hi0) (by rw [HPL.out]; have := HI.out; omega))
      have HMA := hid (max_any (l := a) (v := .slice (some ⟨gA, oA, none⟩) i cA) (w := wr.drew) (OwnR.read HW3.out.1.own.drew (fun _ => rfl)) (by rw [HAL.out]; exact hi0) (by rw [HAL.out]; have := HI.out; omega))
      have HAO : Hid (AlikeI (reachD D i) (passN (reachD D i) a m)) := hid (alike_pass HE.out HA.out.2 m (Nat.le_of_eq HM.out))
      go_upto_region 24 with fail
      go_cut [88] from 50 to 89 (fun v wx => ∃ d, v = .bool (decide (d = c)) ∧ Hid (Num (passN (reachD D i) a m) d) ∧ Hid (AlkW w5 w7 wx b7 (.slice (some ⟨gA, oA, none⟩) i cA) a ∧ OwnR wx w5.heap.size 3 1 natA (.slice (some ⟨gI, oI, none⟩) i cI) (passN (reachD D i) a m)))
      case first =>
       have hS0 : Ext wr wr.drew := (Below.refl _ _).drew
       refine wp_region_heldL (fun w' => Ext wr w') (by kernel_rfl) ?_
       refine wpAnyH_takeK 0 4 #[true, false, false, false, false] rfl (by kernel_rfl) rfl (.slice (some ⟨gI, oI, none⟩) i cI) (fun _ _ _ h => h) (Or.inl ⟨rfl, fun w' hS => ?_⟩) hS0 ?_
       ·go_simp <;> with_reducible rfl
       refine wpAnyH_takeK 2 3 #[true, false, true, false, false] rfl (by kernel_rfl) rfl (.slice (some ⟨gA, oA, none⟩) i cA) (fun _ _ _ h => h) (Or.inl ⟨rfl, fun w' hS => ?_⟩) hS0 ?_
       ·have d1 : w'.cell? ⟨b7, 0, none⟩ = some (.slice (some ⟨gA, oA, none⟩) i cA) := (HW3.out.1.blk.ext hS).cell rfl; go_simp <;> with_reducible rfl
       have hend : ∀ (mf ma : Nat), mf ∈ passN (reachD D i) a m → (∀ x ∈ passN (reachD D i) a m, x ≤ mf) → ma ∈ a → (∀ x ∈ a, x ≤ ma) → ∃ d, Value.bool ((mf : Int) == (ma : Int)) = .bool (decide (d = c)) ∧ Hid (Num (passN (reachD D i) a m) d) := fun mf ma h1 h2 h3 h4 => by
        obtain ⟨d, hd⟩ := HAO.out.num
        have e1 := hd.max h1 h2
        have e2 := HA.out.1.max h3 h4
        refine ⟨d, ?_, hid hd⟩
        congr 1
        rw [Bool.eq_iff_iff]
        simp only [beq_iff_eq, decide_eq_true_eq]
        omega
       have HEND := hid hend
       clear hend
       refine wpAnyH_one 1 2 #[true, true, true, false, false] rfl (by kernel_rfl) rfl ?_
       go_wp2_with fail
       refine HMF.out.mono ?_
       rintro e wz ⟨⟨mf, h1, h2, rfl⟩, rfl⟩
       have H12 := hid (And.intro h1 h2)
       clear h1 h2
       go_wp2_with fail
       refine ⟨hS0, ?_⟩
       refine wpAnyH_one 3 1 #[true, true, true, true, false] rfl (by kernel_rfl) rfl ?_
       go_wp2_with fail
       refine HMA.out.mono ?_
       rintro e wz ⟨⟨ma, h3, h4, rfl⟩, rfl⟩
       have H34 := hid (And.intro h3 h4)
       clear h3 h4
       go_wp2_with fail
       refine ⟨hS0, ?_⟩
       refine wpAnyH_one 4 0 #[true, true, true, true, true] rfl (by kernel_rfl) rfl ?_
       go_wp2_with fail
       refine ⟨hS0, ?_⟩
       refine wpAnyH_end (P := Tryz.prog) (by kernel_rfl) ?_
       go_wp2_with fail
       go_meet
       obtain ⟨d, hd1, hd2⟩ := HEND.out mf ma H12.out.1 H12.out.2 H34.out.1 H34.out.2
       exact ⟨d, hd1, hd2, hid ⟨HW3.out.1.ext' hS0, HW3.out.2.ext hS0⟩⟩
      case rest =>
       obtain ⟨d, rfl, HD2, HQ⟩ := hcut
       clear HMF HMA z1 z2 zl zl2
       have z1 : wc.cell? ⟨b7, 0, none⟩ = some (.slice (some ⟨gA, oA, none⟩) i cA) := HQ.out.1.blk.cell rfl
       have zl := HQ.out.1.blk.lt
       have zf := HQ.out.1.blk.frozen
       by_cases hdc : d = c
       ·have t0 : decide (d = c) = true := decide_eq_true hdc
        have HDC := hid hdc
        clear hdc
        have HAK : Hid (∀ s t, s < (reachD D i).next.length → t < (reachD D i).next.length → (at0 a s = at0 a t ↔ langAt (reachD D i) s = langAt (reachD D i) t)) := hid fun s t hs ht =>
         alike_end HE.out HA.out.2 HA.out.1 (by have h := HD2.out; rw [HDC.out] at h; rw [show (reachD D i).syms.length = m from HM.out.symm]; exact h) hs ht
        have y0 : wc.cell? ⟨bT, 0, none⟩ = some (.slice aoK i cK) := (HTW.out.tour.ext HQ.out.1.base).cell (i := 0) rfl
        have yl := (HTW.out.tour.ext HQ.out.1.base).lt
        go_wp2_with (with_reducible show wpList _ _ _ ((⟨_, Op.makeSlice _ _ _, _, _, _, _⟩ : Oper) :: _) _ _
                     go_loud (refine wpList_makeR rfl 46 (.tmp 92) (.tmp 92) rfl 3 _ 1 8 Tryz.underlying46 infoM3 i rfl rfl (by omega) (by omega) _ (madeI i) ?_))
        go_loopg [96] i (fun g u wr => ∃ s O, g = i - s ∧ s ≤ i ∧ u = .int .i64 s ∧ Hid (OneW wc wr i O ∧ LastI a O i s))
        case atStart => exact ⟨0, List.replicate i 0, rfl, Nat.zero_le _, rfl, hid ⟨⟨((Below.refl _ _).alloc (Nat.le_refl _) _).alloc (by simp) _, (Blk.new _ _ _).alloc _, Blk.new' _ _ _ (by simp)⟩, LastI.start a i⟩⟩
        case round =>
         obtain ⟨s, O, rfl, hs, rfl, HW6⟩ := hrel
         clear y0 yl z1 zl zf
         have c2 : wr.cell? ⟨wc.heap.size + 1, 0, none⟩ = some (.slice (some ⟨wc.heap.size, 0, none⟩) i i) := HW6.out.1.box.cell rfl
         have cl := HW6.out.1.cells.lt
         have cl2 := HW6.out.1.box.lt
         by_cases hsl : s < i
         ·obtain ⟨x, hx⟩ : ∃ x, x = at0 a s := ⟨_, rfl⟩
          have hxi : x < i := by
           have h := HA.out.2.lt s (by rw [HEN.out]; exact hsl)
           rw [HEN.out] at h
           rw [hx]; exact h
          have hRA : ReadR wr 1 natA (.slice (some ⟨gA, oA, none⟩) a.length cA) a := by
           rw [HAL.out]; exact (OwnR.read HQ.out.1.own (fun _ => rfl)).ext HW6.out.1.ext
          have c1 : wr.cell? ⟨gA, oA + s, none⟩ = some (.int .i64 x) := by
           rw [hx]; exact hRA.cell1 (at0_some (by rw [HAL.out]; exact hsl))
          obtain ⟨ox, hox⟩ : ∃ o, O[x]? = some o := ⟨_, List.getElem?_eq_getElem (by rw [HW6.out.2.1]; exact hxi)⟩
          have c3 : wr.cell? ⟨wc.heap.size, x, none⟩ = some (.int .i64 ox) := HW6.out.1.cells.cell (natRow_get hox)
          have cf := HW6.out.1.cells.frozen
          have HX := hid hx
          have HXI := hid hxi
          clear hx hox hRA
          go_wp2_with fail
          go_roundg (i - (s + 1))
          case measure => omega
          case rel =>
           refine ⟨s + 1, O.set x s, rfl, by omega, by go_num, hid ⟨HW6.out.1.set x s, ?_⟩⟩
           rw [HX.out]
           exact HW6.out.2.step (by rw [← HX.out]; exact HXI.out)
         ·obtain rfl : i = s := by omega
          have hbase : Ext w5 wr := HQ.out.1.base.trans (HW6.out.1.ext.mono HQ.out.1.base.size)
          have HBASE := hid hbase
          have HONE : Hid (OneI (reachD D i) a O) := hid (LastI.one HA.out.2 HAK.out (by rw [HEN.out]; exact HW6.out.2))
          have HOL : Hid (O.length = (reachD D i).next.length) := hid (by rw [HEN.out]; exact HW6.out.2.1)
          have hOR : ReadR wr 1 natA (.slice (some ⟨wc.heap.size, 0, none⟩) i i) O := by
           have h := natRow_read (c := i) HW6.out.1.cells
           rwa [HW6.out.2.1] at h
          have hSM : SmallW wr (reachD D i) a O bT (wc.heap.size + 1) b7 (.slice aoK i cK) (.slice aoM i cM) (.slice aoG fl cG) (.slice (some ⟨wc.heap.size, 0, none⟩) i i) (.slice (some ⟨gA, oA, none⟩) i cA) us3 :=
           ⟨HTW.out.tour.ext hbase, HTW.out.next.ext hbase, HTW.out.len, fun j u r hu hr => (HTW.out.rows j u r hu hr).ext hbase, HW6.out.1.box, hOR, HQ.out.1.blk.ext HW6.out.1.ext, (OwnR.read HQ.out.1.own (fun _ => rfl)).ext HW6.out.1.ext⟩
          have HT2 := hid (tour_small hSM HE.out HA.out.2 HONE.out (by show D.syms.length ≤ 1000; rw [← HM.out]; exact hm1000) (by rw [HEN.out]; have := HI.out; omega) HOL.out)
          have hRA : ReadR wr 1 natA (.slice (some ⟨gA, oA, none⟩) a.length cA) a := by
           rw [HAL.out]; exact (OwnR.read HQ.out.1.own (fun _ => rfl)).ext HW6.out.1.ext
          obtain ⟨x0, hx0⟩ : ∃ x, x = at0 a 0 := ⟨_, rfl⟩
          have c1 : wr.cell? ⟨gA, oA, none⟩ = some (.int .i64 x0) := by
           have h := hRA.cell1 (at0_some (by rw [HAL.out]; exact hi0) : a[0]? = some (at0 a 0))
           rw [← hx0] at h
           exact h
          have c3 : wr.cell? ⟨b7, 0, none⟩ = some (.slice (some ⟨gA, oA, none⟩) i cA) := hSM.alike.cell rfl
          have cl3 := hSM.alike.lt
          rw [← hx0] at HT2
          have HX0 := hid hx0
          have HOR := hid hOR
          clear hbase hOR hSM hRA hx0
          go_wp2_with fail
          refine HT2.out.mono ?_
          rintro e wx ⟨hx, i2, vK2, vN2, vG2, hf2, hi2, rfl, hT2⟩
          obtain ⟨hK2, ⟨us4, hn4, hu4, hr4⟩, hFr2⟩ := hT2
          obtain ⟨aoK2, cK2, rfl, -⟩ := (OwnR.read hK2 okI.size).form
          obtain ⟨aoM2, cM2, rfl, -⟩ := (OwnR.read hn4 (fun _ => rfl)).form
          obtain ⟨aoG2, cG2, rfl, -⟩ := (OwnR.read hFr2 (fun _ => rfl)).form
          have HK2 := hid hK2
          have HN4 := hid hn4
          have HU4 := hid hu4
          have HR4 := hid hr4
          have HFR2 := hid hFr2
          have HF2 := hid hf2
          have HI2 := hid hi2
          obtain ⟨ks2, hks2⟩ : ∃ x, x = (tourN (stepK (reachD D i) a O) (at0 a 0) i2).keys := ⟨_, rfl⟩
          obtain ⟨fr2, hfr2⟩ : ∃ x, x = (tourN (stepK (reachD D i) a O) (at0 a 0) i2).from_ := ⟨_, rfl⟩
          obtain ⟨rows2, hrw2⟩ : ∃ x, x = (tourN (stepK (reachD D i) a O) (at0 a 0) i2).next := ⟨_, rfl⟩
          have HKI2 : Hid (ks2.length = i2) := hid (hks2 ▸ hf2)
          have HU2 : Hid (∀ k ∈ ks2, ∃ s, s < (reachD D i).next.length ∧ k = at0 a s) := hid (hks2 ▸ tourN_univ (U := fun k => ∃ s, s < (reachD D i).next.length ∧ k = at0 a s) ⟨0, HE.out.pos, rfl⟩ (HONE.out.univ HE.out) i2)
          rw [← hks2] at HK2 ⊢
          rw [← hfr2] at HFR2 ⊢
          rw [← hrw2] at HR4 HU4
          have HKS2 := hid hks2
          have HRW2 := hid hrw2
          obtain ⟨kl2, hkl2⟩ : ∃ n, n = ks2.length := ⟨_, rfl⟩
          obtain ⟨nl2, hnl2⟩ : ∃ n, n = us4.length := ⟨_, rfl⟩
          obtain ⟨fl2, hfl2⟩ : ∃ n, n = fr2.length := ⟨_, rfl⟩
          rw [← hkl2] at HK2 ⊢
          rw [← hnl2] at HN4 ⊢
          rw [← hfl2] at HFR2 ⊢
          obtain ⟨wy, hwy⟩ : ∃ u, u = wx.alloc (.cells #[.slice aoK2 kl2 cK2, .slice aoM2 nl2 cM2, .slice aoG2 fl2 cG2] 89) := ⟨_, rfl⟩
          have ey : Ext wx wy := hwy ▸ (Below.refl _ _).alloc (Nat.le_refl _) _
          have eyr : Ext wr wy := hx.trans (ey.mono hx.size)
          have HEY := hid ey
          have HEYR := hid eyr
          have HBY : Hid (Ext w5 wy) := hid (HBASE.out.trans (eyr.mono HBASE.out.size))
          have HWY := hid hwy
          have hTY := HTW.out.ext' HBY.out
          have b0 : wx.cell? ⟨w.heap.size, 0, none⟩ = some (.slice aoS m cS) := (HTW.out.box.ext (HBASE.out.trans (hx.mono HBASE.out.size))).cell (i := 0) rfl
          have bl := (HTW.out.box.ext (HBASE.out.trans (hx.mono HBASE.out.size))).lt
          have HTY := hid hTY
          have hfin : FinW w5 wy (bT + 1) (.slice aoE i cE) (reachD D i).fin := HF7.out.ext' (HQ.out.1.ext.trans ((HW6.out.1.ext.trans (eyr.mono HW6.out.1.ext.size)).mono HQ.out.1.ext.size))
          have HFIN := hid hfin
          have HAU := hid (auto_int (w := wy) (f := 64) (bs := #[]) (caps := #[.pointer (some ⟨bT + 1, 0, none⟩), .pointer (some ⟨wc.heap.size + 1, 0, none⟩)]) (vS := .slice aoS m cS)
           (OwnR.read (HK2.out.ext ey) okI.size) (OwnR.read (HN4.out.ext ey) (fun _ => rfl)) (OwnR.read (HFR2.out.ext ey) (fun _ => rfl)) (HP.out.ext hTY.ext).syms (by have := HKI2.out; have := HI2.out; omega) HB.out.s enters64 (finC (reachD D i) O)
           (fun k w' hk hx' => by
             obtain ⟨s0, hs0, rfl⟩ := HU2.out k hk
             have h1 := HONE.out.one s0 hs0
             have h2 : at0 a s0 < O.length := by rw [HOL.out]; exact HA.out.2.lt s0 hs0
             exact small3_any (hfin.blk.ext hx') ((OwnR.read hfin.own (fun _ => rfl)).ext hx') ((HW6.out.1.box.ext eyr).ext hx') ((HOR.out.ext eyr).ext hx') (at0_some h2) (HE.out.finAt h1.1) (by rw [HOL.out, HEN.out]; have := HI.out; omega) (by rw [HEF.out]; have := HI.out; omega)))
          clear hx hf2 hi2 hK2 hn4 hu4 hr4 hFr2 hks2 hfr2 hrw2 hkl2 hnl2 hfl2 hwy ey eyr hTY hfin c1 c2 c3 cl cl2 cl3
          go_wp2_with fail
          rw [← HWY.out]
          refine HAU.out.mono ?_
          rintro e wz ⟨hz, vS7, vF7, rfl, hS7, hF7⟩
          obtain ⟨aoC, cC, rfl, -⟩ := (OwnR.read hS7 strC_size).form
          obtain ⟨aoZ, cZ, rfl, -⟩ := (OwnR.read hF7 (fun _ => rfl)).form
          have HS7 := hid hS7
          have HF8 := hid hF7
          have HZ := hid hz
          have HTZ := hid (HTY.out.ext' hz)
          obtain ⟨fnl, hfnl⟩ : ∃ n, n = (ks2.map (finC (reachD D i) O)).length := ⟨_, rfl⟩
          obtain ⟨snl, hsnl⟩ : ∃ n, n = D.raw.syms.length := ⟨_, rfl⟩
          rw [← hfnl] at HF8 ⊢
          rw [← hsnl] at HS7 ⊢
          clear hz hS7 hF7 hfnl hsnl b0 bl HAU
          have r0 : wz.cell? ⟨w.heap.size + 1, 0, none⟩ = some (.slice none 0 0) := HTZ.out.res.cell (i := 0) rfl
          have r1 : wz.cell? ⟨w.heap.size + 1, 1, none⟩ = some (.slice none 0 0) := HTZ.out.res.cell (i := 1) rfl
          have r2 : wz.cell? ⟨w.heap.size + 1, 2, none⟩ = some (.slice none 0 0) := HTZ.out.res.cell (i := 2) rfl
          have rf := HTZ.out.res.frozen
          have rl := HTZ.out.res.lt
          go_wp2_with fail
          refine bodyPost_ret (v := .tuple #[.agg #[.slice aoC snl cC, .slice aoM2 nl2 cM2, .slice aoZ fnl cZ], .int .i64 0]) (results_cell_agg_tmp Tryz.results18 _ _ (w.heap.size + 1) 26 #[.slice aoC snl cC, .slice aoM2 nl2 cM2, .slice aoZ fnl cZ] _ _ rfl rfl (blk3 HTZ.out.res _ _ _) Tryz.underlying26 rfl (by kernel_rfl)) rfl ?_
          have hlow : w.heap.size + 1 < wr.heap.size := (HTW.out.res.ext HBASE.out).lt
          have hlow2 := HEYR.out.size
          refine ⟨ext3 HTZ.out.ext (by omega) _ _ _, _, tourD D.syms (tourN (stepK (reachD D i) a O) (at0 a 0) i2) (finC (reachD D i) O), rfl, ?_, _, _, _, us4, rfl, ?_⟩
          ·exact OneI.min HFULL.out (by have h := well_le HW.out i; rw [show (tourN (stepF D) 0 i).keys.length = i from HFULL.out] at h; exact h) HONE.out HF2.out
          ·have hP := auto_dfa (rows := rows2) HZ.out HS7.out HF8.out (HN4.out.ext HEY.out) HU4.out (fun j u r hu hr => ⟨(HR4.out j u r hu hr).1.ext HEY.out, (HR4.out j u r hu hr).2⟩) hlow (by omega) (chg3 wz (w.heap.size + 1) (.slice aoC snl cC) (.slice aoM2 nl2 cM2) (.slice aoZ fnl cZ))
           rw [HRW2.out, HKS2.out] at hP
           exact hP
       ·have t0 : decide (d = c) = false := decide_eq_false hdc
        have HDC := hid hdc
        clear hdc
        go_wp2_with fail
        have hcd : c ≤ d := finer_le (by rw [HAL.out, HPL.out]) HA.out.1 HD2.out (pass_finer HA.out.2.len m)
        have hdi : d ≤ i := by have h := HD2.out.le; rw [HPL.out] at h; exact h
        go_roundg (i - d)
        case measure => have := HDC.out; omega
        case rel =>
         have cq : Chg (fun k => k = b7) wc (wc.setCell ⟨b7, 0, none⟩ (.slice (some ⟨gI, oI, none⟩) i cI)) := (Chg.refl (fun k => k = b7) wc).setCell (p := ⟨b7, 0, none⟩) rfl _
         refine ⟨passN (reachD D i) a m, .slice (some ⟨gI, oI, none⟩) i cI, d, rfl, hid ⟨HD2.out, HAO.out⟩, hid ⟨?_, HQ.out.1.blk.set 0 _, ?_, HQ.out.1.low, HQ.out.1.ge⟩⟩
         ·exact HQ.out.1.ext.trans ((cq.mono (S' := fun k => w7.heap.size ≤ k) fun k _ e => by rw [e]; exact HQ.out.1.ge).below HQ.out.1.ext.size (fun k e => e))
         ·exact HQ.out.2.chg cq (fun k e e' => own_blk_ne HQ.out.2 HQ.out.1.blk (by decide) (e' ▸ e))
end Go.Proofs.YtngpjagpeblbjaaGreatDoor
