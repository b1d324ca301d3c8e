/-
  Walk of the reference's Small: its automaton is the least one.
  Walk of the reference's Check.
  What the reference's First answers where there is no second automaton, and where there is one; its Check at a value.
-/
import Derived.Test.YtngpjagpeblbjaaGreatDoorY06
import Derived.Test.YtngpjagpeblbjaaGreatDoorY07
import Derived.StillTailTactics
import Derived.Test.YtngpjagpeblbjaaGreatDoorY01
namespace Go.Proofs.YtngpjagpeblbjaaGreatDoor
open Go.RowKit Go.Spy Go.Heaped Go.Tour Go.Rx
def oneN (x : Nat) : List Int := [(x : Int)]
theorem oneN_inj {x y : Nat} (h : oneN x = oneN y) : x = y := by
 simp only [oneN, List.cons.injEq, and_true] at h
 omega
abbrev sigR (A : DA) (O : List Nat) : Nat → List Nat := fan (stepC A O (List.range A.next.length)) A.syms.length
def finR (A : DA) (x : Nat) : Bool := finC A (List.range A.next.length) x
def RSmallPost (A : DA) (w : World) (e : Ending) (w' : World) : Prop := Ext w w' ∧ ∃ v S, e = .returned v ∧ MinD A S ∧ DfaV w' v S.raw
theorem sig_univ {A : DA} (W : WellD nameOk A) {O : List Nat} (L : LeastI A O) (i : Nat) : ∀ k ∈ (tourN (sigR A O) (at0 O 0) i).keys, k < A.next.length := by
 intro k hk
 have h := tourN_univ (U := fun c => ∃ s, s < A.next.length ∧ c = at0 O s) (succ := sigR A O) (first := at0 O 0) ⟨0, W.ok.pos, rfl⟩ (L.one.univ W.ok) i k hk
 obtain ⟨s, hs, rfl⟩ := h
 exact (L.lt s hs).1
theorem sig_le {A : DA} (W : WellD nameOk A) {O : List Nat} (L : LeastI A O) (i : Nat) : (tourN (sigR A O) (at0 O 0) i).keys.length ≤ A.next.length := by
 obtain ⟨j, h1, h2⟩ := L.one.full W.ok
 have h4 : (tourN (sigR A O) (at0 O 0) i).keys.length ≤ (tourN (sigR A O) (at0 O 0) j).keys.length := (full_keys h2).length_le
 have h3 : (tourN (sigR A O) (at0 O 0) j).keys.length = j := h2
 omega
theorem sig_step {A : DA} {O : List Nat} {k j : Nat} (hk : k < A.next.length) : stepC A O (List.range A.next.length) k j = at0 O (stepD A k j) := by
 unfold stepC
 rw [at0_range hk]
theorem finR_at {A : DA} {k : Nat} (hk : k < A.next.length) : finR A k = finD A k := by
 unfold finR finC
 rw [at0_range hk]
theorem takeMap_snoc {α β : Type} {l : List α} {i : Nat} {x : α} (f : α → β) (h : l[i]? = some x) : (l.take (i + 1)).map f = (l.take i).map f ++ [f x] := by
 rw [List.take_add_one, h, List.map_append]; rfl
set_option maxRecDepth 100000 in
set_option maxHeartbeats 8000000 in
theorem rsmall_any {w : World} {A : DA} {aoS aoN aoF : Option Addr} {n1 n2 n3 cS cN cF : Nat} (hA : DfaW w (.agg #[.slice aoS n1 cS, .slice aoN n2 cN, .slice aoF n3 cF]) A) :
 Calls Tryz.prog 37 #[.agg #[.slice aoS n1 cS, .slice aoN n2 cN, .slice aoF n3 cF]] w (RSmallPost A w) := by
 have HA := hid hA
 have HL := hid hA.lens
 have hn1 : n1 ≤ 1000 := by rw [hA.lens.1]; exact hA.bnd.s
 have hn2 : n2 ≤ 256 := by rw [hA.lens.2.1]; exact hA.well.most
 have h32 : n3 = n2 := by rw [hA.lens.2.2, hA.lens.2.1]
 subst h32
 have hpos : 0 < n3 := by rw [hA.lens.2.1]; exact hA.well.ok.pos
 have HW := hid hA.well
 obtain ⟨W2, hW2⟩ : ∃ u, u = (w.alloc (.cells #[.slice aoS n1 cS, .slice aoN n3 cN, .slice aoF n3 cF] 40)).alloc (.cells #[.slice none 0 0, .slice none 0 0, .slice none 0 0] 40) := ⟨_, rfl⟩
 have HE2 : Hid (Ext w W2) := hid (hW2 ▸ ((Below.refl _ _).alloc (Nat.le_refl _) _).alloc (by simp) _)
 have HB2 : Hid (Blk W2 w.heap.size 40 #[.slice aoS n1 cS, .slice aoN n3 cN, .slice aoF n3 cF]) := hid (hW2 ▸ (Blk.new _ _ _).alloc _)
 have HR2 : Hid (Blk W2 (w.heap.size + 1) 40 #[.slice none 0 0, .slice none 0 0, .slice none 0 0]) := hid (hW2 ▸ Blk.new' _ _ _ (by simp))
 have HW2 := hid hW2
 have HAL := hid (alike_any (hA.ext HE2.out))
 clear hA hW2
 go_enter Tryz.func37, Tryz.ntmps37
 go_wp2_with fail
 rw [← HW2.out]
 refine HAL.out.mono ?_
 rintro e wB ⟨g, O, rfl, HO, -, hx⟩
 have HE3 := hid (HE2.out.trans (hx.mono HE2.out.size))
 have HB3 := hid (HB2.out.ext hx)
 have HR3 := hid (HR2.out.ext hx)
 clear hx HAL
 have c0 : wB.cell? ⟨w.heap.size, 0, none⟩ = some (.slice aoS n1 cS) := HB3.out.cell (i := 0) rfl
 have lB := HB3.out.lt
 obtain ⟨f0, hf0⟩ : ∃ x, x = at0 O 0 := ⟨_, rfl⟩
 have c1 : wB.cell? ⟨g, 0, none⟩ = some (.int .i64 f0) := by
  rw [hf0]
  exact HO.out.1.cell (natRow_get (at0_some (by rw [HO.out.2.len, ← HL.out.2.1]; exact hpos)))
 have lg := HO.out.1.lt
 have HF0 := hid hf0
 clear hf0
 go_wp2_with fail
 go_loopg [5, 6] (n3 + 1) (fun gm vS u wr => ∃ (i : Nat) (us rs : List Value) (ks : List Nat) (nx : List (List Nat)) (fs : List Bool) (vN vF : Value), gm = n3 + 1 - i ∧ i ≤ n3 ∧ u = .int .i64 i ∧ Hid (ks = (tourN (sigR A O) (at0 O 0) i).keys ∧ nx = (tourN (sigR A O) (at0 O 0) i).next ∧ i ≤ ks.length ∧ fs = (ks.take i).map (finR A)) ∧ Hid (RefW oneN wB wr wB.heap.size (.slice aoS n1 cS) vS vN vF (.slice none 0 0) us rs ks nx fs []))
 case atStart => exact ⟨0, _, _, [f0], [], [], _, _, rfl, Nat.zero_le _, rfl, hid ⟨by rw [HF0.out]; rfl, rfl, Nat.zero_le _, rfl⟩, hid (RefW.start (φ := oneN) wB _ rfl rfl rfl (by decide))⟩
 case round =>
  obtain ⟨i, us, rs, ks, nx, fs, vN, vF, rfl, hi, rfl, HT, HF⟩ := hrel
  obtain ⟨aoU, cU, rfl, hfU⟩ := (OwnR.read HF.out.seen.own (fun _ => rfl)).form
  obtain ⟨aoN', cN', rfl, -⟩ := (OwnR.read HF.out.rows.own (fun _ => rfl)).form
  obtain ⟨aoF', cF', rfl, -⟩ := (OwnR.read HF.out.fins (fun _ => rfl)).form
  have hlu : us.length = ks.length := HF.out.seen.len
  have hkl : ks.length ≤ n3 := by rw [HT.out.1, HL.out.2.1]; exact sig_le HW.out HO.out.2 i
  have hik := HT.out.2.2.1
  obtain ⟨nk, hnk⟩ : ∃ n, n = ks.length := ⟨_, rfl⟩
  rw [← hnk] at hlu hkl hik
  have hnr : rs.length = i := by
   have h1 := HF.out.rows.len
   rw [h1, HT.out.2.1]
   exact tourN_next_len (sigR A O) (at0 O 0) i (by rw [← HT.out.1, ← hnk]; exact hik)
  have hnf : fs.length = i := by
   rw [HT.out.2.2.2, List.length_map, List.length_take, ← hnk]; omega
  rw [hlu, hnr, hnf] at HF
  rw [hlu] at hfU ⊢
  have HNK := hid hnk
  have HLU := hid hlu
  have HFU := hid hfU
  have HNR := hid hnr
  have HNF := hid hnf
  have HEw := hid (HE3.out.trans (HF.out.ext.mono HE3.out.size))
  have HBw := hid (HB3.out.ext HF.out.ext)
  have HRw := hid (HR3.out.ext HF.out.ext)
  clear hnk hlu hfU hnr hnf c0 lB c1 lg
  by_cases hlt : i < nk
  ·have q1 : decide (i < nk) = true := decide_eq_true hlt
   have q2 : decide ((i : Int) < (nk : Int)) = true := decide_eq_true (by omega)
   obtain ⟨gU, oU, rfl⟩ := HFU.out (by omega)
   obtain ⟨u, hu⟩ : ∃ r, us[i]? = some r := ⟨_, List.getElem?_eq_getElem (by rw [HLU.out]; exact hlt)⟩
   obtain ⟨x, hx⟩ : ∃ r, ks[i]? = some r := ⟨_, List.getElem?_eq_getElem (by rw [← HNK.out]; exact hlt)⟩
   have hkey := HF.out.seen.key i u x hu hx
   have hrd := OwnR.read hkey (fun _ => rfl)
   obtain ⟨aou, cu, hue, hgu⟩ := hrd.form
   have hue : u = .slice aou 1 cu := hue
   subst hue
   obtain ⟨gu, ou, rfl⟩ := hgu Nat.one_pos
   have c2 : wr.cell? ⟨gu, ou, none⟩ = some (.int .i64 x) := hrd.cell1 (j := 0) rfl
   have c1 : wr.cell? ⟨gU, oU + i, none⟩ = some (.slice (some ⟨gu, ou, none⟩) 1 cu) := by
    have h := OwnR.read HF.out.seen.own (fun _ => rfl)
    rw [← HLU.out] at h
    exact h.cell1 hu
   have hxn : x < n3 := by rw [HL.out.2.1]; exact sig_univ HW.out HO.out.2 i x (by rw [← HT.out.1]; exact List.mem_of_getElem? hx)
   have HX := hid hx
   have i1 : (i : Int) < (nk : Int) := by omega
   have i2 : (0 : Int) ≤ (i : Int) := by omega
   clear hu hx hkey hrd
   obtain ⟨w0, hw0⟩ : ∃ y, y = wr := ⟨_, rfl⟩
   subst hw0
   go_wp2_with fail
   go_loopg [5, 8, 9] n1 (fun gm vS vX u wr => ∃ (j : Nat) (us' : List Value) (ls gs : List Nat), gm = n1 - j ∧ j ≤ n1 ∧ u = .int .i64 j ∧ Hid (ls = (visN i ⟨ks, (tourN (sigR A O) (at0 O 0) i).from_, []⟩ (sigR A O x) j).keys ∧ gs = (visN i ⟨ks, (tourN (sigR A O) (at0 O 0) i).from_, []⟩ (sigR A O x) j).goes) ∧ Hid (RefW oneN wB wr wB.heap.size (.slice aoS n1 cS) vS (.slice aoN' i cN') (.slice aoF' i cF') vX us' rs ls nx fs gs))
   case atStart => exact ⟨0, us, ks, [], rfl, Nat.zero_le _, rfl, hid ⟨rfl, rfl⟩, HF⟩
   case round =>
    obtain ⟨j, us', ls, gs, rfl, hj, rfl, HV, HF2⟩ := hrel
    obtain ⟨aoU2, cU2, rfl, -⟩ := (OwnR.read HF2.out.seen.own (fun _ => rfl)).form
    obtain ⟨aoX, cX, rfl, -⟩ := (OwnR.read HF2.out.now (fun _ => rfl)).form
    have hlu2 : us'.length = ls.length := HF2.out.seen.len
    have hgl : gs.length = j := by
     rw [HV.out.2, visN_goes_len _ _ _ _ (by rw [fan_length, ← HL.out.1]; exact hj)]
     simp
    obtain ⟨nl, hnl⟩ : ∃ n, n = ls.length := ⟨_, rfl⟩
    rw [← hnl] at hlu2
    rw [hlu2, hgl] at HF2 ⊢
    have HNL := hid hnl
    have HLU2 := hid hlu2
    have HGL := hid hgl
    clear hnl hlu2 hgl c1 c2
    have HEr := hid (HE3.out.trans (HF2.out.ext.mono HE3.out.size))
    have HBr := hid (HB3.out.ext HF2.out.ext)
    have a0 : wr.cell? ⟨w.heap.size, 0, none⟩ = some (.slice aoS n1 cS) := HBr.out.cell (i := 0) rfl
    have la := HBr.out.lt
    by_cases hjl : j < n1
    ·have q3 : decide (j < n1) = true := decide_eq_true hjl
     have q4 : decide ((j : Int) < (n1 : Int)) = true := decide_eq_true (by omega)
     have a1 : wr.cell? ⟨w.heap.size, 1, none⟩ = some (.slice aoN n3 cN) := HBr.out.cell (i := 1) rfl
     obtain ⟨gN, oN, g1, o1, cc1, rfl, d1, d2⟩ := (HA.out.ext HEr.out).nextN hxn hjl
     obtain ⟨z, hz⟩ : ∃ p, p = stepD A x j := ⟨_, rfl⟩
     have hz3 : z < n3 := by rw [hz, HL.out.2.1]; exact HW.out.ok.step x j
     rw [← hz] at d2
     obtain ⟨y, hy⟩ : ∃ p, p = at0 O z := ⟨_, rfl⟩
     have d3 : wr.cell? ⟨g, z, none⟩ = some (.int .i64 y) := by
      rw [hy]
      exact (HO.out.1.ext HF2.out.ext).cell (natRow_get (at0_some (by rw [HO.out.2.len, ← HL.out.2.1]; exact hz3)))
     have hvj : (sigR A O x)[j]? = some y := by
      rw [fan_get _ _ (by rw [← HL.out.1]; exact hjl), sig_step (by rw [← HL.out.2.1]; exact hxn), hy, hz]
     have hvs := visN_succ (r := i) (s := ⟨ks, (tourN (sigR A O) (at0 O 0) i).from_, []⟩) hvj
     have HVS := hid hvs
     have i3 : (x : Int) < (n3 : Int) := by omega
     have i4 : (0 : Int) ≤ (x : Int) := by omega
     have i5 : (j : Int) < (n1 : Int) := by omega
     have i6 : (0 : Int) ≤ (j : Int) := by omega
     have i7 : (z : Int) < (n3 : Int) := by omega
     have i8 : (0 : Int) ≤ (z : Int) := by omega
     have hnd : ls.Nodup := by
      rw [HV.out.1]
      refine visN_nodup ?_ _ _ _
      show ks.Nodup
      rw [HT.out.1]; exact tourN_nodup _ _ _
     have hvl : us'.length ≤ 1000000 := by
      rw [HLU2.out, HNL.out, HV.out.1]
      have h1 := visN_len i ⟨ks, (tourN (sigR A O) (at0 O 0) i).from_, []⟩ (sigR A O x) j
      have h3 : (visN i ⟨ks, (tourN (sigR A O) (at0 O 0) i).from_, []⟩ (sigR A O x) j).keys.length ≤ ks.length + j := h1
      have h2 := HNK.out
      omega
     obtain ⟨w2, hw2⟩ : ∃ u, u = wr.alloc (.cells #[.int .i64 y] 3) := ⟨_, rfl⟩
     have HX2 : Hid (Ext wr w2) := hid (hw2 ▸ (Below.refl _ _).alloc (Nat.le_refl _) _)
     have HK2 : Hid (OwnR w2 wB.heap.size 3 1 intZ (.slice (some ⟨wr.heap.size, 0, none⟩) 1 1) (oneN y)) := hid (hw2 ▸ own_lit (Blk.new _ _ _) HF2.out.ext.size rfl rfl rfl (by decide))
     have HF4 := hid (HF2.out.ext' HX2.out)
     have hnm : (ls.map oneN).Nodup := List.pairwise_map.2 (hnd.imp fun h e => h (oneN_inj e))
     have HNB := hid (number_any HF4.out.seen.own HF4.out.ext.size HF4.out.seen.keysR hnm (OwnR.read HK2.out (fun _ => rfl)) hvl (fun y hy => by
      obtain ⟨k, _, rfl⟩ := List.mem_map.1 hy
      exact (by decide : 1 ≤ 1000)))
     have HW2' := hid hw2
     have HAP : Hid (Ap (.slice (some ⟨wr.heap.size, 0, none⟩) 1 1) (.slice aoX j cX)) := hid fun k h1 h2 => by
      cases h1
      have := (HF2.out.now.lt _ h2).2
      exact Nat.lt_irrefl _ this
     have hln : gs.length + 1 ≤ 1000000000 := by rw [HGL.out]; omega
     clear hz hy hvj hvs hnd hnm hw2
     go_wp2_with fail
     rw [← HW2'.out]
     refine HNB.out.mono ?_
     rintro e w3 (⟨hin, rfl, hx⟩ | ⟨hnin, v', rfl, hO, hc, hold⟩)
     ·have hmem : y ∈ ls := by
       obtain ⟨k, hk, e⟩ := List.mem_map.1 hin
       rw [← oneN_inj e]; exact hk
      have HF5 := hid (HF4.out.ext' hx)
      have HNO := hid HF5.out.now
      have hsz : wB.heap.size ≤ w3.heap.size := HF5.out.ext.size
      obtain ⟨q, hq⟩ : ∃ q, q = idxK (ls.map oneN) (oneN y) := ⟨_, rfl⟩
      rw [← hq]
      have HQ : Hid (q = ls.idxOf y) := hid (hq.trans (idxOf_map_on (φ := oneN) ls y fun _ _ e => oneN_inj e))
      have HME := hid hmem
      clear hin hx hmem hq
      go_wp2_with (with_reducible refine onOp 60 ?_
                   go_loud (refine wpList_append_R elem_int (fun _ => rfl) ones_int HNO hsz hln q _ rfl w3.heap.size rfl rfl _ _ rfl rfl rfl ?_)
                   rintro g6 c6 v6 w6 rfl G1 G2)
      go_roundg (n1 - (j + 1))
      case measure => omega
      case rel =>
       have c6 := (Chg.refl (fun k => (Value.slice aoX j cX).ownBlock = some k) w3).grown G2.out.1 (fun k e => e)
       refine ⟨j + 1, us', ls, gs ++ [q], rfl, by omega, by go_num, hid ?_, hid (HF5.out.put G1.out c6 (fun r hr => by
        cases hr
        exact G2.out.2))⟩
       rw [HVS.out]
       unfold vis1
       rw [← HV.out.1, if_pos HME.out]
       exact ⟨rfl, by rw [HQ.out, HV.out.2]⟩
     ·have hmem : y ∉ ls := fun h => hnin (List.mem_map.2 ⟨y, h, rfl⟩)
      have hlv : (us' ++ [Value.slice (some ⟨wr.heap.size, 0, none⟩) 1 1]).length = nl + 1 := by rw [List.length_append, HLU2.out]; rfl
      have hkl2 : (ls.map oneN).length = nl := by rw [List.length_map, HNL.out]
      rw [hkl2]
      obtain ⟨aV, cV, rfl, -⟩ := (OwnR.read hO (fun _ => rfl)).form
      rw [hlv] at hO hold ⊢
      have HF5 := hid (HF4.out.new hO hc hold HK2.out HAP.out)
      have HNO := hid HF5.out.now
      have hsz : wB.heap.size ≤ w3.heap.size := HF5.out.ext.size
      have HME := hid hmem
      clear hmem hO hc hold hnin
      go_wp2_with (with_reducible refine onOp 60 ?_
                   go_loud (refine wpList_append_R elem_int (fun _ => rfl) ones_int HNO hsz hln nl _ rfl w3.heap.size rfl rfl _ _ rfl rfl rfl ?_)
                   rintro g6 c6 v6 w6 rfl G1 G2)
      go_roundg (n1 - (j + 1))
      case measure => omega
      case rel =>
       have c6 := (Chg.refl (fun k => (Value.slice aoX j cX).ownBlock = some k) w3).grown G2.out.1 (fun k e => e)
       refine ⟨j + 1, _, ls ++ [y], gs ++ [nl], rfl, by omega, by go_num, hid ?_, hid (HF5.out.put G1.out c6 (fun r hr => by
        cases hr
        exact G2.out.2))⟩
       rw [HVS.out]
       unfold vis1
       rw [← HV.out.1, if_neg HME.out]
       exact ⟨rfl, by rw [HNL.out, HV.out.2]⟩
    ·obtain rfl : n1 = j := by omega
     have q3 : decide (n1 < n1) = false := decide_eq_false (by omega)
     have b1 : wr.cell? ⟨wB.heap.size, 1, none⟩ = some (.slice aoN' i cN') := HF2.out.box.cell (i := 1) rfl
     have lb := HF2.out.box.lt
     have fb := HF2.out.box.frozen
     have HRO := hid HF2.out.rows.own
     have hszr : wB.heap.size ≤ wr.heap.size := HF2.out.ext.size
     have hlnr : rs.length + 1 ≤ 1000000000 := by rw [HNR.out]; omega
     go_upto_region 16 with (with_reducible refine onOp 65 ?_
                             go_loud (refine wpList_append_R elem_row (fun _ => rfl) ones_row HRO hszr hlnr (.slice aoX n1 cX) _ rfl wr.heap.size rfl rfl _ _ rfl rfl rfl ?_)
                             rintro g6 c6 v6 w6 rfl G1 G2
                             have hc6 := (Chg.refl (fun k => (Value.slice aoN' i cN').ownBlock = some k) wr).grown G2.out.1 (fun k e => e)
                             have HP6 := hid (HF2.out.row1 G1.out hc6 (fun r hr => by
                              cases hr
                              exact G2.out.2))
                             have b6 : w6.cell? ⟨wB.heap.size, 1, none⟩ = some (.slice aoN' i cN') := HP6.out.1.2.cell (i := 1) rfl
                             have lb6 := HP6.out.1.2.lt
                             have fb6 := HP6.out.1.2.frozen
                             clear hc6)
     obtain ⟨wy, hwy⟩ : ∃ y, y = w6.setCell ⟨wB.heap.size, 1, none⟩ (.slice (some ⟨g6, 0, none⟩) (rs.length + 1) c6) := ⟨_, rfl⟩
     have HF6 := hid HP6.out.2
     rw [← hwy] at HF6 ⊢
     clear hwy HP6 b6 lb6 fb6 G1 G2 HRO a0 la b1 lb fb
     have HE6 := hid (HE3.out.trans (HF6.out.ext.mono HE3.out.size))
     have HB6 := hid (HB3.out.ext HF6.out.ext)
     obtain ⟨gF, oF, rfl, -⟩ := HA.out.finN hxn
     obtain ⟨bF, hbF⟩ : ∃ b, b = finD A x := ⟨_, rfl⟩
     have HBF := hid hbF
     have HFC : Hid (∀ w', Ext wB w' → w'.cell? ⟨gF, oF + x, none⟩ = some (.bool bF)) := hid fun w' e => by
      obtain ⟨g', o', e1, h1⟩ := (HA.out.ext (HE3.out.trans (e.mono HE3.out.size))).finN hxn
      simp only [Option.some.injEq, Addr.mk.injEq, and_true] at e1
      obtain ⟨rfl, rfl⟩ := e1
      rw [hbF]; exact h1
     have i3 : (x : Int) < (n3 : Int) := by omega
     have i4 : (0 : Int) ≤ (x : Int) := by omega
     have hlnf : fs.length + 1 ≤ 1000000000 := by rw [HNF.out]; omega
     clear hbF
     have hS0 : Ext wB wy.drew := HF6.out.ext.drew
     refine wp_region_heldL (fun w' => Ext wB w') (by kernel_rfl) ?_
     refine wpAnyH_takeN 0 10 (mk 11 1) rfl (by kernel_rfl) rfl (.pointer (some ⟨wB.heap.size, 2, none⟩)) (fun _ _ _ h => h) (Or.inl ⟨rfl, fun w' hS => ?_⟩) hS0 (by simp only [Act.put, List.setIfInBounds_toArray, List.set_cons_succ, List.set_cons_zero]; rfl) ?_
     ·go_simp <;> with_reducible rfl
     refine wpAnyH_takeN 2 9 (mk 11 5) rfl (by kernel_rfl) rfl (.pointer (some ⟨w.heap.size, 2, none⟩)) (fun _ _ _ h => h) (Or.inl ⟨rfl, fun w' hS => ?_⟩) hS0 (by simp only [Act.put, List.setIfInBounds_toArray, List.set_cons_succ, List.set_cons_zero]; rfl) ?_
     ·go_simp <;> with_reducible rfl
     refine wpAnyH_takeN 3 8 (mk 11 13) rfl (by kernel_rfl) rfl (.slice (some ⟨gF, oF, none⟩) n3 cF) (fun _ _ _ h => h) (Or.inl ⟨rfl, fun w' hS => ?_⟩) hS0 (by simp only [Act.put, List.setIfInBounds_toArray, List.set_cons_succ, List.set_cons_zero]; rfl) ?_
     ·have d0 : w'.cell? ⟨w.heap.size, 2, none⟩ = some (.slice (some ⟨gF, oF, none⟩) n3 cF) := (HB3.out.ext hS).cell (i := 2) rfl
      go_simp <;> with_reducible rfl
     refine wpAnyH_takeN 4 7 (mk 11 29) rfl (by kernel_rfl) rfl (.int .i64 x) (fun _ _ _ h => h) (Or.inl ⟨rfl, fun w' hS => ?_⟩) hS0 (by simp only [Act.put, List.setIfInBounds_toArray, List.set_cons_succ, List.set_cons_zero]; rfl) ?_
     ·go_simp <;> with_reducible rfl
     refine wpAnyH_takeN 5 6 (mk 11 61) rfl (by kernel_rfl) rfl (.pointer (some ⟨gF, oF + x, none⟩)) (fun _ _ _ h => h) (Or.inl ⟨rfl, fun w' hS => ?_⟩) hS0 (by simp only [Act.put, List.setIfInBounds_toArray, List.set_cons_succ, List.set_cons_zero]; rfl) ?_
     ·go_simp <;> with_reducible rfl
     refine wpAnyH_takeN 6 5 (mk 11 125) rfl (by kernel_rfl) rfl (.bool bF) (fun _ _ _ h => h) (Or.inl ⟨rfl, fun w' hS => ?_⟩) hS0 (by simp only [Act.put, List.setIfInBounds_toArray, List.set_cons_succ, List.set_cons_zero]; rfl) ?_
     ·have d0 := HFC.out w' hS
      go_simp <;> with_reducible rfl
     refine wpAnyH_two 1 7 4 (mk 11 127) (mk 11 253) rfl rfl (by kernel_rfl) rfl ?_ ?_
     ·have e2 : wy.drew.cell? ⟨wB.heap.size, 2, none⟩ = some (.slice aoF' i cF') := HF6.out.box.cell (i := 2) rfl
      go_wp2_with fail
      refine ⟨hS0, ?_⟩
      refine wpAnyH_one 7 3 (mk 11 255) rfl (by kernel_rfl) rfl ?_
      go_wp2_with fail
      have hS1 := hS0.alloc hS0.size (.cells #[.bool bF] 4)
      refine ⟨hS1, ?_⟩
      refine wpAnyH_one 8 2 (mk 11 511) rfl (by kernel_rfl) rfl ?_
      have HFO : Hid (OwnR wy.drew wB.heap.size 4 1 boolC (.slice aoF' i cF') fs) := hid (HF6.out.fins.ext (Below.refl wy.heap.size wy).drew)
      have hszf : wB.heap.size ≤ wy.drew.heap.size := HF6.out.ext.size
      go_wp2_with (with_reducible refine onOp 75 ?_
                   go_loud (refine wpList_append_R elem_bool (fun _ => rfl) ones_bool HFO hszf hlnf bF _ rfl wy.heap.size rfl rfl _ _ rfl rfl rfl ?_)
                   rintro g7 c7 v7 w7 rfl G3 G4)
      have c7' := (Chg.refl (fun k => (Value.slice aoF' i cF').ownBlock = some k) wy.drew).grown G4.out.1 (fun k e => e)
      have HP7 := hid ((HF6.out.ext' (ext_drew1 wy)).row2 G3.out c7')
      refine ⟨HP7.out.1.1, ?_⟩
      have e7 : w7.cell? ⟨wB.heap.size, 2, none⟩ = some (.slice aoF' i cF') := HP7.out.1.2.cell (i := 2) rfl
      have l7 := HP7.out.1.2.lt
      have f7 := HP7.out.1.2.frozen
      refine wpAnyH_one 9 1 (mk 11 1023) rfl (by kernel_rfl) rfl ?_
      go_wp2_with fail
      refine ⟨HP7.out.1.1, ?_⟩
      refine wpAnyH_one 10 0 (mk 11 2047) rfl (by kernel_rfl) rfl ?_
      go_wp2_with fail
      refine ⟨HP7.out.2.ext, ?_⟩
      refine wpAnyH_end (P := Tryz.prog) (by kernel_rfl) ?_
      go_wp2_with fail
      go_roundg (n3 + 1 - (i + 1))
      case measure => omega
      case rel =>
       have hsu := tourN_succ (succ := sigR A O) (first := at0 O 0) (i := i) (k := x) (by rw [← HT.out.1]; exact HX.out)
       have hlen : (sigR A O x).length = n1 := by rw [fan_length]; exact HL.out.1.symm
       have hpre : ks <+: ls := by rw [HV.out.1]; exact visN_pre i ⟨ks, _, []⟩ _ n1
       have e1 : ls = (tourN (sigR A O) (at0 O 0) (i + 1)).keys ∧ nx ++ [gs] = (tourN (sigR A O) (at0 O 0) (i + 1)).next := by
        rw [hsu]
        unfold rowOf
        rw [hlen, ← HT.out.1, ← HT.out.2.1, ← HV.out.1, ← HV.out.2]
        exact ⟨rfl, rfl⟩
       have hil : i < ks.length := by rw [← HNK.out]; exact hlt
       refine ⟨i + 1, us', _, ls, nx ++ [gs], fs ++ [bF], _, _, rfl, by omega, by go_num, hid ⟨e1.1, e1.2, by have := hpre.length_le; omega, ?_⟩, hid HP7.out.2⟩
       obtain ⟨t, ht⟩ := hpre
       rw [← ht, List.take_append_of_le_length (by omega), takeMap_snoc (finR A) HX.out, ← HT.out.2.2.2, finR_at (by rw [← HL.out.2.1]; exact hxn), HBF.out]
     ·go_wp2_with fail
      have hS1 := hS0.alloc hS0.size (.cells #[.bool bF] 4)
      refine ⟨hS1, ?_⟩
      refine wpAnyH_one 1 3 (mk 11 255) rfl (by kernel_rfl) rfl ?_
      have e2 : (wy.alloc (.cells #[.bool bF] 4)).drew.cell? ⟨wB.heap.size, 2, none⟩ = some (.slice aoF' i cF') := ((HF6.out.box.alloc _).drew).cell (i := 2) rfl
      go_wp2_with fail
      refine ⟨hS1, ?_⟩
      refine wpAnyH_one 8 2 (mk 11 511) rfl (by kernel_rfl) rfl ?_
      have HFO : Hid (OwnR wy.drew wB.heap.size 4 1 boolC (.slice aoF' i cF') fs) := hid (HF6.out.fins.ext (Below.refl wy.heap.size wy).drew)
      have hszf : wB.heap.size ≤ wy.drew.heap.size := HF6.out.ext.size
      go_wp2_with (with_reducible refine onOp 75 ?_
                   go_loud (refine wpList_append_R elem_bool (fun _ => rfl) ones_bool HFO hszf hlnf bF _ rfl wy.heap.size rfl rfl _ _ rfl rfl rfl ?_)
                   rintro g7 c7 v7 w7 rfl G3 G4)
      have c7' := (Chg.refl (fun k => (Value.slice aoF' i cF').ownBlock = some k) wy.drew).grown G4.out.1 (fun k e => e)
      have HP7 := hid ((HF6.out.ext' (ext_drew1 wy)).row2 G3.out c7')
      refine ⟨HP7.out.1.1, ?_⟩
      have e7 : w7.cell? ⟨wB.heap.size, 2, none⟩ = some (.slice aoF' i cF') := HP7.out.1.2.cell (i := 2) rfl
      have l7 := HP7.out.1.2.lt
      have f7 := HP7.out.1.2.frozen
      refine wpAnyH_one 9 1 (mk 11 1023) rfl (by kernel_rfl) rfl ?_
      go_wp2_with fail
      refine ⟨HP7.out.1.1, ?_⟩
      refine wpAnyH_one 10 0 (mk 11 2047) rfl (by kernel_rfl) rfl ?_
      go_wp2_with fail
      refine ⟨HP7.out.2.ext, ?_⟩
      refine wpAnyH_end (P := Tryz.prog) (by kernel_rfl) ?_
      go_wp2_with fail
      go_roundg (n3 + 1 - (i + 1))
      case measure => omega
      case rel =>
       have hsu := tourN_succ (succ := sigR A O) (first := at0 O 0) (i := i) (k := x) (by rw [← HT.out.1]; exact HX.out)
       have hlen : (sigR A O x).length = n1 := by rw [fan_length]; exact HL.out.1.symm
       have hpre : ks <+: ls := by rw [HV.out.1]; exact visN_pre i ⟨ks, _, []⟩ _ n1
       have e1 : ls = (tourN (sigR A O) (at0 O 0) (i + 1)).keys ∧ nx ++ [gs] = (tourN (sigR A O) (at0 O 0) (i + 1)).next := by
        rw [hsu]
        unfold rowOf
        rw [hlen, ← HT.out.1, ← HT.out.2.1, ← HV.out.1, ← HV.out.2]
        exact ⟨rfl, rfl⟩
       have hil : i < ks.length := by rw [← HNK.out]; exact hlt
       refine ⟨i + 1, us', _, ls, nx ++ [gs], fs ++ [bF], _, _, rfl, by omega, by go_num, hid ⟨e1.1, e1.2, by have := hpre.length_le; omega, ?_⟩, hid HP7.out.2⟩
       obtain ⟨t, ht⟩ := hpre
       rw [← ht, List.take_append_of_le_length (by omega), takeMap_snoc (finR A) HX.out, ← HT.out.2.2.2, finR_at (by rw [← HL.out.2.1]; exact hxn), HBF.out]
  ·obtain rfl : nk = i := by omega
   have q1 : decide (nk < nk) = false := decide_eq_false (by omega)
   have b0 : wr.cell? ⟨wB.heap.size, 0, none⟩ = some (.slice aoS n1 cS) := HF.out.box.cell (i := 0) rfl
   have b1 : wr.cell? ⟨wB.heap.size, 1, none⟩ = some (.slice aoN' nk cN') := HF.out.box.cell (i := 1) rfl
   have b2 : wr.cell? ⟨wB.heap.size, 2, none⟩ = some (.slice aoF' nk cF') := HF.out.box.cell (i := 2) rfl
   have lb := HF.out.box.lt
   have r0 : wr.cell? ⟨w.heap.size + 1, 0, none⟩ = some (.slice none 0 0) := HRw.out.cell (i := 0) rfl
   have r1 : wr.cell? ⟨w.heap.size + 1, 1, none⟩ = some (.slice none 0 0) := HRw.out.cell (i := 1) rfl
   have r2 : wr.cell? ⟨w.heap.size + 1, 2, none⟩ = some (.slice none 0 0) := HRw.out.cell (i := 2) rfl
   have lr := HRw.out.lt
   have fr := HRw.out.frozen
   go_wp2_with fail
   refine bodyPost_ret (v := .agg #[.slice aoS n1 cS, .slice aoN' nk cN', .slice aoF' nk cF']) (results_cell_agg Tryz.results37 _ _ (w.heap.size + 1) 40 #[.slice aoS n1 cS, .slice aoN' nk cN', .slice aoF' nk cF'] _ rfl (blk3 HRw.out _ _ _) Tryz.underlying40 rfl (by kernel_rfl)) rfl ?_
   have hX : Ext w (set3 wr (w.heap.size + 1) (.slice aoS n1 cS) (.slice aoN' nk cN') (.slice aoF' nk cF')) := ext3 HEw.out (by omega) _ _ _
   have hfull : Full (sigR A O) (at0 O 0) nk := by
    show (tourN (sigR A O) (at0 O 0) nk).keys.length = nk
    rw [← HT.out.1]; exact HNK.out.symm
   refine ⟨hX, _, _, rfl, HO.out.2.one.minD HW.out.ok hfull, _, _, _, rs, rfl, ?_⟩
   obtain ⟨us0, hP⟩ := (HA.out.ext hX).partsR
   have hd := HF.out.dfa (chg3 wr (w.heap.size + 1) (.slice aoS n1 cS) (.slice aoN' nk cN') (.slice aoF' nk cF')) (show w.heap.size + 1 < wB.heap.size from HR3.out.lt) (syms := A.syms) hP.syms
   have e2 : fs = ks.map (finR A) := by
    rw [HT.out.2.2.2, HNK.out, List.take_length]
   rw [e2, HT.out.2.1, HT.out.1] at hd
   exact hd
end Go.Proofs.YtngpjagpeblbjaaGreatDoor
namespace Go.Proofs.YtngpjagpeblbjaaGreatDoor
open Go.RowKit Go.Spy Go.Heaped Go.Tour Go.Rx
set_option maxRecDepth 100000 in
set_option maxHeartbeats 4000000 in
theorem rcheck_any {w : World} {vS vN vF : Value} {us : List Value} {d : DR} (hP : DfaP w vS vN vF us d) (hB : BndD d) : Calls Tryz.prog 33 #[.agg #[vS, vN, vF]] w (ErrP (checkE nameOk d) w) := by
 obtain ⟨aoS, cS, rfl, hS⟩ := hP.syms.form
 obtain ⟨aoN, cN, rfl, hN⟩ := hP.next.form
 obtain ⟨aoF, cF, rfl, hF⟩ := hP.fin.form
 rw [hP.len] at hN
 obtain ⟨E, hE⟩ : ∃ E, E = checkE nameOk d := ⟨_, rfl⟩
 rw [← hE]
 obtain ⟨m, hm⟩ : ∃ m, m = d.syms.length := ⟨_, rfl⟩
 obtain ⟨n, hn⟩ : ∃ n, n = d.next.length := ⟨_, rfl⟩
 obtain ⟨k, hk⟩ : ∃ k, k = d.fin.length := ⟨_, rfl⟩
 have hbm : m ≤ 1000 := hm ▸ hB.s
 have hbn : n ≤ 1000 := hn ▸ hB.n
 have hbk : k ≤ 1000 := hk ▸ hB.f
 have HP := hid hP
 rw [hP.len, ← hn] at HP ⊢
 rw [← hm] at HP ⊢
 rw [← hk] at HP ⊢
 have HB := hid hB
 have HE := hid hE
 have HM := hid hm
 have HN := hid hn
 have HK := hid hk
 clear hP hB hE hm hn hk hF
 have HX0 : Hid (Ext w (w.alloc (.cells #[.slice aoS m cS, .slice aoN n cN, .slice aoF k cF] 40)) ∧ Blk (w.alloc (.cells #[.slice aoS m cS, .slice aoN n cN, .slice aoF k cF] 40)) w.heap.size 40 #[.slice aoS m cS, .slice aoN n cN, .slice aoF k cF]) := hid ⟨(Below.refl _ _).alloc (Nat.le_refl _) _, Blk.new _ _ _⟩
 by_cases h1 : 256 < n
 ·have d1 : decide (256 < n) = true := decide_eq_true h1
  have d1' : decide ((256 : Int) < (n : Int)) = true := decide_eq_true (by omega)
  go_enter Tryz.func33, Tryz.ntmps33
  go_wp2_with fail
  go_ret
  exact ⟨by rw [HE.out, checkE, if_pos (.inl (HN.out ▸ h1))]; rfl, HX0.out.1⟩
 ·have d1 : decide (256 < n) = false := decide_eq_false h1
  have d1' : decide ((256 : Int) < (n : Int)) = false := decide_eq_false (by omega)
  by_cases h2 : 256 < k
  ·have d2 : decide (256 < k) = true := decide_eq_true h2
   have d2' : decide ((256 : Int) < (k : Int)) = true := decide_eq_true (by omega)
   go_enter Tryz.func33, Tryz.ntmps33
   go_wp2_with fail
   go_ret
   exact ⟨by rw [HE.out, checkE, if_pos (.inr (HK.out ▸ h2))]; rfl, HX0.out.1⟩
  ·have d2 : decide (256 < k) = false := decide_eq_false h2
   have d2' : decide ((256 : Int) < (k : Int)) = false := decide_eq_false (by omega)
   have E1 : Hid (¬ (256 < d.next.length ∨ 256 < d.fin.length)) := hid (by rw [← HN.out, ← HK.out]; omega)
   by_cases h3 : n < 1
   ·have d3 : decide (n < 1) = true := decide_eq_true h3
    have d3' : decide ((n : Int) < 1) = true := decide_eq_true (by omega)
    go_enter Tryz.func33, Tryz.ntmps33
    go_wp2_with fail
    go_ret
    exact ⟨by rw [HE.out, checkE, if_neg E1.out, if_pos (.inl (by rw [← HN.out]; omega))]; rfl, HX0.out.1⟩
   ·have d3 : decide (n < 1) = false := decide_eq_false h3
    have d3' : decide ((n : Int) < 1) = false := decide_eq_false (by omega)
    by_cases h4 : k = n
    ·have d4 : ((k : Int) != (n : Int)) = false := by simp [h4]
     have H4 := hid h4
     clear h4
     have E2 : Hid (¬ (d.next.length = 0 ∨ d.fin.length ≠ d.next.length)) := hid (by rw [← HN.out, ← HK.out]; have := H4.out; omega)
     go_enter Tryz.func33, Tryz.ntmps33
     go_wp2_with fail
     go_loopg [4] n (fun g u wr => ∃ j, g = n - j ∧ j ≤ n ∧ u = .int .i64 j ∧ Hid (Ext w wr ∧ Blk wr w.heap.size 40 #[.slice aoS m cS, .slice aoN n cN, .slice aoF k cF]) ∧ Hid (∀ i r, i < j → d.next[i]? = some r → rowBad d.syms.length d.next.length r = false))
     case atStart => exact ⟨0, rfl, Nat.zero_le _, rfl, HX0, hid (fun i r h => by omega)⟩
     case round =>
      obtain ⟨j, rfl, hj, rfl, HX, HG⟩ := hrel
      have b0 : wr.cell? ⟨w.heap.size, 0, none⟩ = some (.slice aoS m cS) := HX.out.2.cell (i := 0) rfl
      have b1 : wr.cell? ⟨w.heap.size, 1, none⟩ = some (.slice aoN n cN) := HX.out.2.cell (i := 1) rfl
      have lb := HX.out.2.lt
      by_cases hlt : j < n
      ·obtain ⟨gN, off, rfl⟩ := hN (by rw [← HN.out]; omega)
       obtain ⟨r, hr⟩ : ∃ r, d.next[j]? = some r := ⟨_, List.getElem?_eq_getElem (by rw [← HN.out]; omega)⟩
       obtain ⟨ao, c, hu, hR⟩ := HP.out.row hr
       obtain ⟨rl, hrl⟩ : ∃ n, n = r.length := ⟨_, rfl⟩
       have hrb : rl ≤ 1000 := hrl ▸ HB.out.r r (List.mem_of_getElem? hr)
       obtain ⟨_, _, _, hgR⟩ := hR.form
       rw [← hrl] at hR hu
       have HC1 : Hid (∀ wr, Ext w wr → wr.cell? ⟨gN, off + j, none⟩ = some (.slice ao rl c)) := hid fun wr e => (HP.out.next.ext e).cell1 hu
       have c1 := HC1.out wr HX.out.1
       have HR := hid hR
       have HRL := hid hrl
       have HRR := hid hr
       have i0 : (0 : Int) ≤ (j : Int) := by omega
       have i1 : (j : Int) < (n : Int) := by omega
       clear hu hR hr hrl hgR
       by_cases hL : rl = m
       ·have d5 : ((rl : Int) != (m : Int)) = false := by simp [hL]
        have HL := hid hL
        clear hL
        go_wp2_with fail
        go_quiet (fail)
        go_wp2_with fail
        obtain ⟨wa, hwa⟩ : ∃ x, x = wr := ⟨_, rfl⟩
        subst hwa
        clear b0 b1 lb c1
        go_loopg [5] rl (fun g u wr => ∃ q, g = rl - q ∧ q ≤ rl ∧ u = .int .i64 q ∧ Hid (Ext w wr ∧ Blk wr w.heap.size 40 #[.slice aoS m cS, .slice (some ⟨gN, off, none⟩) n cN, .slice aoF k cF]) ∧ Hid (∀ i z, i < q → r[i]? = some z → ¬ z < 0 ∧ ¬ (n : Int) ≤ z))
        case atStart => exact ⟨0, rfl, Nat.zero_le _, rfl, hid ⟨ext_drewN HX.out.1 _, HX.out.2.drewN _⟩, hid (fun i r h => by omega)⟩
        case round =>
         obtain ⟨q, rfl, hq, rfl, HY, HH⟩ := hrel
         have b1 : wr.cell? ⟨w.heap.size, 1, none⟩ = some (.slice (some ⟨gN, off, none⟩) n cN) := HY.out.2.cell (i := 1) rfl
         have lb := HY.out.2.lt
         have c1 := HC1.out wr HY.out.1
         by_cases hql : q < rl
         ·obtain ⟨gR, oR, rfl⟩ : ∃ g off, ao = some ⟨g, off, none⟩ := by
           obtain ⟨ao', c', e, hg⟩ := HR.out.form
           simp only [Value.slice.injEq] at e
           rw [e.1]
           exact hg (by rw [← HRL.out]; omega)
          obtain ⟨z, hz⟩ : ∃ z, r[q]? = some z := ⟨_, List.getElem?_eq_getElem (by rw [← HRL.out]; exact hql)⟩
          have c2 : wr.cell? ⟨gR, oR + q, none⟩ = some (.int .i64 z) := by
           have h := HR.out.ext HY.out.1
           rw [HRL.out] at h
           exact h.cell1 hz
          have HZ := hid hz
          have HBAD : Hid (z < 0 ∨ (n : Int) ≤ z → E = 12) := hid fun hb => by
           rw [HE.out, checkE, if_neg E1.out, if_neg E2.out, if_pos (List.any_eq_true.2 ⟨r, List.mem_of_getElem? HRR.out, ?_⟩)]
           unfold rowBad
           rw [Bool.or_eq_true]
           refine .inr (List.any_eq_true.2 ⟨z, List.mem_of_getElem? HZ.out, ?_⟩)
           rw [← HN.out]
           simpa using hb
          clear hz
          by_cases z0 : z < 0
          ·have t0 : decide (z < 0) = true := decide_eq_true z0
           go_wp2_with fail
           go_ret
           exact ⟨by rw [HBAD.out (.inl z0)]; rfl, HY.out.1⟩
          ·have t0 : decide (z < 0) = false := decide_eq_false z0
           by_cases zn : (n : Int) ≤ z
           ·have t1 : decide ((n : Int) ≤ z) = true := decide_eq_true zn
            go_wp2_with fail
            go_ret
            exact ⟨by rw [HBAD.out (.inr zn)]; rfl, HY.out.1⟩
           ·have t1 : decide ((n : Int) ≤ z) = false := decide_eq_false zn
            go_wp2_with fail
            go_roundg (rl - (q + 1))
            case measure => omega
            case rel =>
             refine ⟨q + 1, rfl, by omega, by go_num, HY, hid fun i y hi hy => ?_⟩
             by_cases e : i = q
             ·subst e; rw [HZ.out] at hy; cases hy; exact ⟨z0, zn⟩
             ·exact HH.out i y (by omega) hy
         ·have HRB : Hid (rowBad d.syms.length d.next.length r = false) := hid (by
           unfold rowBad
           rw [Bool.or_eq_false_iff]
           refine ⟨decide_eq_false (by rw [← HRL.out, ← HM.out]; simpa using HL.out), ?_⟩
           rw [List.any_eq_false]
           intro z hz
           obtain ⟨i, hi⟩ := List.getElem?_of_mem hz
           obtain ⟨h1, h2⟩ := HH.out i z (by have := (List.getElem?_eq_some_iff.1 hi).1; rw [← HRL.out] at this; omega) hi
           rw [← HN.out]
           simp only [Bool.or_eq_true, decide_eq_true_eq, not_or]
           exact ⟨h1, h2⟩)
          go_wp2_with fail
          go_roundg (n - (j + 1))
          case measure => omega
          case rel =>
           refine ⟨j + 1, rfl, by omega, by go_num, HY, hid fun i q' hi hq' => ?_⟩
           by_cases e : i = j
           ·subst e; rw [HRR.out] at hq'; cases hq'; exact HRB.out
           ·exact HG.out i q' (by omega) hq'
       ·have d5 : ((rl : Int) != (m : Int)) = true := by simp; omega
        have HL := hid hL
        clear hL
        go_wp2_with fail
        go_quiet (fail)
        go_wp2_with fail
        go_ret
        refine ⟨?_, ext_drewN HX.out.1 _⟩
        rw [HE.out, checkE, if_neg E1.out, if_neg E2.out, if_pos (List.any_eq_true.2 ⟨r, List.mem_of_getElem? HRR.out, by unfold rowBad; rw [← HRL.out, ← HM.out, decide_eq_true HL.out]; rfl⟩)]; rfl
      ·have E3 : Hid (¬ d.next.any (rowBad d.syms.length d.next.length) = true) := hid (by
        rw [List.any_eq_true]
        rintro ⟨r, hr, hb⟩
        obtain ⟨i, hi, rfl⟩ := List.getElem_of_mem hr
        rw [HG.out i _ (by rw [← HN.out] at hi; omega) (List.getElem?_eq_getElem hi)] at hb; cases hb)
       clear HG
       go_wp2_with fail
       obtain ⟨wa, hwa⟩ : ∃ x, x = wr := ⟨_, rfl⟩
       subst hwa
       go_loopg [6] m (fun g u wr => ∃ j, g = m - j ∧ j ≤ m ∧ u = .int .i64 j ∧ Hid (Ext w wr ∧ Blk wr w.heap.size 40 #[.slice aoS m cS, .slice aoN n cN, .slice aoF k cF]) ∧ Hid (∀ i s, i < j → d.syms[i]? = some s → nameOk s = true))
       case atStart => exact ⟨0, rfl, Nat.zero_le _, rfl, HX, hid (fun i r h => by omega)⟩
       case round =>
        clear HX b0 b1 lb
        obtain ⟨j, rfl, hj2, rfl, HX, HG⟩ := hrel
        have b0 : wr.cell? ⟨w.heap.size, 0, none⟩ = some (.slice aoS m cS) := HX.out.2.cell rfl
        have lb := HX.out.2.lt
        by_cases hlt2 : j < m
        ·obtain ⟨g, off, rfl⟩ := hS (by rw [← HM.out]; omega)
         obtain ⟨s, hs⟩ : ∃ s, d.syms[j]? = some s := ⟨_, List.getElem?_eq_getElem (by rw [← HM.out]; omega)⟩
         have c1 : wr.cell? ⟨g, off + j, none⟩ = some (.string s) := by
          have h := HP.out.syms.ext HX.out.1
          rw [HM.out] at h
          exact h.cell1 hs
         have HS := hid hs
         clear hs
         go_wp2_with fail
         refine (name_any s _ (by have := HB.out.b s (List.mem_of_getElem? HS.out); unfold maxLen; omega)).mono ?_
         rintro e w2 ⟨rfl, rfl⟩
         have HX2 := hid HX.out.1
         have HB2 := hid HX.out.2
         cases ha : nameOk s with
         | true =>
           have HA := hid ha
           clear ha
           go_wp2_with fail
           go_roundg (m - (j + 1))
           case measure => omega
           case rel =>
            refine ⟨j + 1, rfl, by omega, by go_num, hid ⟨HX2.out, HB2.out⟩, hid fun i q hi hq => ?_⟩
            by_cases e : i = j
            ·subst e; rw [HS.out] at hq; cases hq; exact HA.out
            ·exact HG.out i q (by omega) hq
         | false =>
           have HA := hid ha
           clear ha
           go_wp2_with fail
           go_ret
           refine ⟨?_, HX2.out⟩
           rw [HE.out, checkE, if_neg E1.out, if_neg E2.out, if_neg E3.out, if_pos (List.any_eq_true.2 ⟨s, List.mem_of_getElem? HS.out, by rw [HA.out]; rfl⟩)]; rfl
        ·have E4 : Hid (¬ (d.syms.any (fun s => !nameOk s)) = true) := hid (by
          rw [List.any_eq_true]
          rintro ⟨r, hr, hb⟩
          obtain ⟨i, hi, rfl⟩ := List.getElem_of_mem hr
          rw [HG.out i _ (by rw [← HM.out] at hi; omega) (List.getElem?_eq_getElem hi)] at hb; cases hb)
         clear HG
         go_wp2_with fail
         obtain ⟨wa, hwa⟩ : ∃ x, x = wr := ⟨_, rfl⟩
         subst hwa
         go_loopg [7] m (fun g u wr => ∃ j, g = m - j ∧ (j + 1 ≤ m ∨ j = 0) ∧ u = .int .i64 ((j + 1 : Nat) : Int) ∧ Hid (Ext w wr ∧ Blk wr w.heap.size 40 #[.slice aoS m cS, .slice aoN n cN, .slice aoF k cF]) ∧ Hid (∀ i x y, i < j → d.syms[i]? = some x → d.syms[i + 1]? = some y → ltB x y = true))
         case atStart => exact ⟨0, rfl, .inr rfl, rfl, HX, hid (fun i r y h => by omega)⟩
         case round =>
          clear HX b0 lb
          obtain ⟨j, rfl, hj3, rfl, HX, HG⟩ := hrel
          have b0 : wr.cell? ⟨w.heap.size, 0, none⟩ = some (.slice aoS m cS) := HX.out.2.cell rfl
          have lb := HX.out.2.lt
          by_cases hlt3 : j + 1 < m
          ·obtain ⟨g, off, rfl⟩ := hS (by rw [← HM.out]; omega)
           obtain ⟨x, hx⟩ : ∃ s, d.syms[j]? = some s := ⟨_, List.getElem?_eq_getElem (by rw [← HM.out]; omega)⟩
           obtain ⟨y, hy⟩ : ∃ s, d.syms[j + 1]? = some s := ⟨_, List.getElem?_eq_getElem (by rw [← HM.out]; omega)⟩
           have hRS : ReadR wr 1 strC (.slice (some ⟨g, off, none⟩) d.syms.length cS) d.syms := by
            have h := HP.out.syms.ext HX.out.1
            rwa [HM.out] at h
           have c1 : wr.cell? ⟨g, off + j, none⟩ = some (.string x) := hRS.cell1 hx
           have c2 : wr.cell? ⟨g, off + (j + 1), none⟩ = some (.string y) := hRS.cell1 hy
           have HXX := hid hx
           have HYY := hid hy
           clear hx hy hRS
           have e1 : IntKind.i64.wrap (((j + 1 : Nat) : Int) - 1) = (j : Int) := by rw [show ((j + 1 : Nat) : Int) - 1 = (j : Int) by omega]; exact IntWalk.i64_in _ (by omega)
           have e2 : IntKind.i64.wrap (j : Int) = (j : Int) := IntWalk.i64_in _ (by omega)
           have g1 : (0 : Int) ≤ (j : Int) := by omega
           have g2 : (j : Int) < (m : Int) := by omega
           have g3 : (0 : Int) ≤ ((j + 1 : Nat) : Int) := by omega
           have g4 : ((j + 1 : Nat) : Int) < (m : Int) := by omega
           cases hb : ltB x y with
           | true =>
             have HBB := hid hb
             have hb2 : Op.bytesLess y.toList x.toList = false := ltB_asymm hb
             have hb3 : (y.toList == x.toList) = false := beqB_false fun e => by rw [e, ltB_irr] at hb; cases hb
             clear hb
             go_upto_region 24 with fail
             go_quiet (fail)
             go_wp2_with fail
             go_roundg (m - (j + 1))
             case measure => omega
             case rel =>
              refine ⟨j + 1, rfl, .inl (by omega), by go_num, hid ⟨ext_drewN HX.out.1 _, HX.out.2.drewN _⟩, hid fun i q r hi hq hr => ?_⟩
              by_cases e : i = j
              ·subst e; rw [HXX.out] at hq; cases hq; rw [HYY.out] at hr; cases hr; exact HBB.out
              ·exact HG.out i q r (by omega) hq hr
           | false =>
             have HBB := hid hb
             have E5 : Hid (chainB d.syms = false) := hid (by
              cases h : chainB d.syms with
              | false => rfl
              | true =>
                have := (chainB_iff.1 h).get (show j < j + 1 by omega) HXX.out HYY.out
                rw [hb] at this; cases this)
             by_cases hyx : y = x
             ·have hb2 : Op.bytesLess y.toList x.toList = false := by rw [hyx]; exact ltB_irr x
              have hb3 : (y.toList == x.toList) = true := beqB_true hyx
              clear hb hyx
              go_upto_region 24 with fail
              go_quiet (fail)
              go_wp2_with fail
              go_ret
              refine ⟨?_, ext_drewN HX.out.1 _⟩
              rw [HE.out, checkE, if_neg E1.out, if_neg E2.out, if_neg E3.out, if_neg E4.out, if_pos E5.out]; rfl
             ·have hb2 : Op.bytesLess y.toList x.toList = true := by
               rcases ltB_total hyx with h | h
               ·exact h
               ·rw [hb] at h; cases h
              clear hb hyx
              go_upto_region 24 with fail
              go_quiet (fail)
              go_wp2_with fail
              go_ret
              refine ⟨?_, ext_drewN HX.out.1 _⟩
              rw [HE.out, checkE, if_neg E1.out, if_neg E2.out, if_neg E3.out, if_neg E4.out, if_pos E5.out]; rfl
          ·go_wp2_with fail
           go_ret
           refine ⟨?_, HX.out.1⟩
           have E5 : ¬ chainB d.syms = false := by
            rw [chainB_iff.2 (chain_rising fun i x y hx hy => HG.out i x y (by have := (List.getElem?_eq_some_iff.1 hy).1; rw [← HM.out] at this; omega) hx hy)]; simp
           rw [HE.out, checkE, if_neg E1.out, if_neg E2.out, if_neg E3.out, if_neg E4.out, if_neg E5]; rfl
    ·have d4 : ((k : Int) != (n : Int)) = true := by simp; omega
     have H4 := hid h4
     clear h4
     go_enter Tryz.func33, Tryz.ntmps33
     go_wp2_with fail
     go_ret
     exact ⟨by rw [HE.out, checkE, if_neg E1.out, if_pos (.inr (by rw [← HN.out, ← HK.out]; exact H4.out))]; rfl, HX0.out.1⟩
end Go.Proofs.YtngpjagpeblbjaaGreatDoor
namespace Go.Proofs.YtngpjagpeblbjaaGreatDoor
open Go.RowKit Go.Spy Go.Heaped Go.Tour Go.Rx
theorem DfaV.partsV {w : World} {a b c : Value} {d : DR} (h : DfaV w (.agg #[a, b, c]) d) : ∃ us, DfaP w a b c us d := by
 obtain ⟨vS, vN, vF, us, e, hP⟩ := h
 simp only [Value.agg.injEq, Array.mk.injEq, List.cons.injEq, and_true] at e
 obtain ⟨rfl, rfl, rfl⟩ := e
 exact ⟨us, hP⟩
theorem rcheck8_any {w : World} {a b c : Value} {d : DR} (h : DfaV w (.agg #[a, b, c]) d) (hB : BndD d) : Calls Tryz.prog 33 #[.agg #[a, b, c]] w (ErrP (checkE nameOk d) w) := by
 obtain ⟨us, hP⟩ := h.partsV
 exact rcheck_any hP hB
end Go.Proofs.YtngpjagpeblbjaaGreatDoor
