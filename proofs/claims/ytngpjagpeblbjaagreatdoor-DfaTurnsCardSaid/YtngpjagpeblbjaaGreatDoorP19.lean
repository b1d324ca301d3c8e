/-
  Walk of travel over states of an expression.
  What the closure of Make has in memory, and where a state goes.
-/
import Derived.Deep.Cut
import Derived.Test.YtngpjagpeblbjaaGreatDoorP14
import Derived.Test.YtngpjagpeblbjaaGreatDoorP18
namespace Go.Proofs.YtngpjagpeblbjaaGreatDoor
open Go.RowKit Go.Spy Go.Heaped Go.Tour Go.Rx
set_option maxRecDepth 100000 in
set_option maxHeartbeats 4000000 in
theorem travel_sta {f : FuncId} {caps : Array Value} {X : Nat → Prop} {Inv : World → Prop} {U : Sta → Prop} {succ : Sta → List Sta} {first : Sta} {most : Nat} (w00 : World) (hN : NextOk kindS f caps w00.heap.size X Inv U succ) (hI : Inv w00) (hU : ∀ i, ∀ k ∈ (tourN succ first i).keys, U k)
 (hm1 : 1 ≤ most) (hB : most ≤ 100000 ∨ ∀ i, (tourN succ first i).keys.length ≤ 100000) (hL : ∀ k, U k → (succ k).length ≤ 1000) :
 Calls Tryz.prog 75 #[.agg (staC first), .int .i64 most, .func (.func f) #[] caps] w00 fun e w' => TravelPost kindS w00.heap.size X Inv succ first most w00 e w' := by
 have HN := hid hN
 have HN00 := hid hN
 have HI := hid hI
 have HU := hid hU
 have HB := hid hB
 have HL := hid hL
 clear hN hI hU hB hL
 have hmm := @run_makeMap Tryz.prog
 go_enter Tryz.func75, Tryz.ntmps75
 go_wp2_with (with_reducible show wpList _ _ _ ((⟨_, Op.box _ (.tmp 0), _, _, _, _⟩ : Oper) :: _) _ _
              go_loud (refine wpList_box_agg rfl 112 (.tmp 0) rfl (staC first) rfl ?_)
              intro w hW hz0
              have HW := hid hW.out
              have HZ := hid hz0
              clear hW hz0)
 have hsz0 : w00.heap.size < w.heap.size := by have := HZ.out; omega
 have HN : Hid (NextOk kindS f caps w.heap.size X Inv U succ) := hid (HN.out.mono (by omega))
 have HI : Hid (Inv w) := hid (HN00.out.keep _ _ HI.out (Chg.of_ext HW.out.2))
 have HX0 : Hid (Chg X w00 w) := hid (Chg.of_ext HW.out.2)
 have sF : (staC first).size = 17 := staC_size _
 go_step3
 go_wp2_with (first
  | (with_reducible refine onOp 20 ?_
     go_loud (refine wpList_load_blk rfl 112 (.tmp 3) rfl w00.heap.size rfl 112 (staC first) _ 17 ((HW.out.1.alloc _).alloc _) (staC_size _) Tryz.underlying112 rfl info112 ?_))
  | (with_reducible refine onOp 22 ?_
     go_loud (refine wpList_load_blk rfl 112 (.tmp 3) rfl w00.heap.size rfl 112 (staC first) _ 17 (((HW.out.1.alloc _).alloc _).grown HG1.out (by simp; omega)) (staC_size _) Tryz.underlying112 rfl info112 ?_))
  | (with_reducible refine onOp 23 ?_
     go_loud (refine wpList_slice_one rfl 113 (.tmp 22) rfl (staC first) rfl 112 17 _ Tryz.underlying113 slot112 (by decide) (by decide) (staC_size _) ?_))
  | (with_reducible show wpList _ _ _ ((⟨_, Op.insert _ (.tmp 19) _ _, _, _, _, _⟩ : Oper) :: _) _ _
     go_loud (refine wpList_mapUpdateB _ rfl (.tmp 19) (.tmp 20) _ 177 (.inr rfl) 112 3 (fun p => .agg (staC p)) key_sta Tryz.underlying177 (w.heap.size + 1) [] rfl (MapB.new' _ _ (by simp)) first (numV 0) rfl rfl ?_)
     intro w1 hM1 hg1
     have HM1 := hid hM1; have HG1 := hid hg1; clear hM1 hg1)
  | (go_at_call 102; refine (newR _).mono ?_; rintro e w2 ⟨rfl, hQ, hE⟩; have HQ := hid hQ; have HE := hid hE; clear hQ hE))
 go_at_call 104
 obtain ⟨b, hb⟩ : ∃ b, b = (startW w1 (staC first) 112 118).heap.size := ⟨_, rfl⟩
 have hb2 : b = w1.heap.size + 1 + 1 + 1 := by rw [hb]; simp
 have hl1 := start_l1 (κ := kindS) okS (C := staC first) rfl HN.out.below HI.out HN.out.keep HM1.out HG1.out hb (by rw [hb]; exact HQ.out) HE.out
 have hq := hl1.1.que
 rw [← hb2]
 refine (putR0 hq 0 rfl).mono ?_
 rintro e w3 ⟨rfl, Sq, hq3, hm3⟩
 have hsz2 := hl1.2.size rfl
 have ht3 := TrW.turn okS hl1.1 hsz2 hq3 hm3
 have hl3 : L1W kindS w X Inv succ first most w.heap.size (w1.heap.size + 1 + 1) (w.heap.size + 1) (b + 1) b 0 (.slice (some ⟨w1.heap.size, 0, none⟩) 1 1) (.slice none 0 0) (.slice (some ⟨w1.heap.size + 1, 0, none⟩) 1 1) Sq [] w3 :=
  ⟨ht3.1, Nat.zero_le _, hm1, hl1.2.own hl1.1 rfl HN.out.keep ht3.2⟩
 have HL3 := hid hl3
 have HBs := hid hb
 have HB2 := hid hb2
 clear hl3 hl1 hq hq3 hm3 ht3 hsz2 HQ HE hb hb2 HM1
 go_wp2_with fail
 go_step3
 go_wp2_with fail
 go_loopg [12] 100001 (fun g v wr => ∃ i vK vN vF Sq us, g = 100001 - i ∧ v = v ∧ Hid (L1W kindS w X Inv succ first most w.heap.size (w1.heap.size + 1 + 1) (w.heap.size + 1) (b + 1) b i vK vN vF Sq us wr))
 case atStart => exact ⟨0, _, _, _, _, _, rfl, rfl, HL3⟩
 case round =>
  obtain ⟨i, vK, vN, vF, Sq1, us, rfl, -, H1⟩ := hrel
  clear HL3
  have hsz := H1.out.env.size rfl
  have hle : (tourN succ first i).keys.length ≤ 100000 := by
   rcases HB.out with h | h
   ·exact Nat.le_trans H1.out.most h
   ·exact h i
  have hlei := H1.out.le
  rcases Nat.lt_or_ge i (tourN succ first i).keys.length with hlt | hge
  ·obtain ⟨k, hk⟩ : ∃ k, (tourN succ first i).keys[i]? = some k := ⟨_, List.getElem?_eq_getElem hlt⟩
   obtain ⟨ks, hks⟩ : ∃ ks, ks = (tourN succ first i).keys := ⟨_, rfl⟩
   obtain ⟨m, hm⟩ : ∃ m, ks.length - i = m + 1 := ⟨ks.length - i - 1, by rw [hks]; omega⟩
   have hq := H1.out.tr.que
   rw [← hks, hm] at hq
   have hUk := HU.out i k (List.mem_of_getElem? hk)
   obtain ⟨aoK, cK, rfl, hgK⟩ := (OwnR.read H1.out.tr.keys okS.size).form
   obtain ⟨gK, oK, rfl⟩ := hgK (by omega)
   have hltI : (i : Int) < (ks.length : Int) := by rw [hks]; omega
   rw [← hks] at hle hlt
   have HK := hid hk
   have HUK := hid hUk
   have HKS := hid hks
   have HM := hid hm
   have hmb : i + (m + 1) ≤ 100000000 := by omega
   clear hgK hk hUk hm hks
   go_wp2_with fail
   go_at_call 105
   refine (takeR hq hmb).mono ?_
   rintro e w4 ⟨rfl, Sq2, hq2, hm2⟩
   have ht4 := TrW.turn okS H1.out.tr hsz hq2 hm2
   have he4 := H1.out.env.own H1.out.tr rfl HN.out.keep ht4.2
   have c0 : w4.cell? ⟨w1.heap.size + 1 + 1, 0, none⟩ = some (.slice (some ⟨gK, oK, none⟩) (tourN succ first i).keys.length cK) := ht4.1.blk.cell (i := 0) rfl
   rw [← HKS.out] at c0
   have hbT := ht4.1.blk.lt
   have hbK := (ht4.1.keys.lt gK rfl).2
   have hx4 : Ext w4 (w4.alloc (.cells #[.int .i64 i] 165)) := (Below.refl _ w4).alloc (Nat.le_refl _) _
   have he5 := he4.own ht4.1 rfl HN.out.keep (Moved.of_ext _ hx4)
   have hI5 := he5.inv
   have hs5 := he5.size rfl
   have HT5 := hid (ht4.1.ext hx4)
   have HT4 := hid ht4.1
   have hs4 := he4.size rfl
   have HE5 := hid he5
   have HX5 := hid (Blk.new w4 165 #[.int .i64 i])
   clear hq2 hm2 ht4 he4 he5 hx4
   have HC1 : Hid (∀ j, j < 17 → (w4.alloc (.cells #[.int .i64 i] 165)).cell? ⟨gK, oK + i * 17 + j, none⟩ = (staC k)[j]?) := hid fun j hj => by
    have h := (OwnR.read HT5.out.keys okS.size).cell (x := k) HK.out (k := j) hj
    rw [show oK + (i * kindS.s + j) = oK + i * 17 + j by show oK + (i * 17 + j) = _; omega] at h
    exact h
   go_upto_region 9 with (first
    | (with_reducible refine onOp 47 ?_
       go_loud (refine wpList_load_cells rfl 112 (.tmp 46) rfl gK (oK + i * 17) rfl (staC k) _ 17 HC1.out (staC_size _) Tryz.underlying112 rfl info112 ?_))
    | (with_reducible show wpList _ _ _ ((⟨_, Op.call { callee := .value (.tmp 41), args := _, argTypes := _ }, _, _, _, _⟩ : Oper) :: _) _ _
       go_loud (refine wpList_callv (args := #[kindS.enc k]) rfl (.tmp 41) #[.tmp 47] #[112] rfl HN.out.enters rfl rfl (HN.out.call k _ HUK.out hI5 hs5) ?_)
       rintro e w6 ⟨v, rfl, hR, hgv, hI6, hC6⟩
       refine ⟨v, rfl, ?_⟩
       have hT6 := HT5.out.kept hC6 HN.out.below
       have hgT : 0 < (succ k).length → ∀ g, v.ownBlock = some g → ¬ Or2 X (TO (w1.heap.size + 1 + 1) (w.heap.size + 1) (.slice (some ⟨gK, oK, none⟩) (tourN succ first i).keys.length cK) vN vF (.slice none 0 0) Sq2) g := by
        intro h0 g e1 e2
        rcases hgv h0 g e1 with ⟨e3, e4⟩ | e3
        ·rcases e2 with e2 | e2
         ·exact e4 e2
         ·have := HT5.out.ge g e2; omega
        ·rcases e2 with e2 | e2
         ·have := HN.out.below g e2; omega
         ·have := HT5.out.lt hs5 g e2; omega
       have hBT : ¬ Or2 X (TO (w1.heap.size + 1 + 1) (w.heap.size + 1) (.slice (some ⟨gK, oK, none⟩) (tourN succ first i).keys.length cK) vN vF (.slice none 0 0) Sq2) w4.heap.size := by
        rintro (e2 | e2)
        ·have := HN.out.below _ e2; simp at hs5; omega
        ·have := HT4.out.lt hs4 _ e2; omega
       have HM6 : Hid (MidW kindS w X Inv w.heap.size (w1.heap.size + 1 + 1) (w.heap.size + 1) (b + 1) b w4.heap.size v (tourN succ first i).next i (succ k) (.slice (some ⟨gK, oK, none⟩) (tourN succ first i).keys.length cK) vN vF (.slice none 0 0) Sq2 (tourN succ first i).keys (tourN succ first i).keys us (tourN succ first i).from_ [] (i + 1) m w6) :=
        hid ⟨hT6, HE5.out.next hI6 hC6, hR.rest0 hgT, Blk.rest (HX5.out.chg hC6 (fun e2 => hBT (.inl e2))) hBT⟩
       obtain ⟨aoR, cR, rfl, hgR⟩ := hR.form
       have HGR := hid hgR
       clear hT6 hgT hBT hR hgv hI6 hC6 hgR))
   have HM7 : Hid (L2W kindS w X Inv succ first most w.heap.size (w1.heap.size + 1 + 1) (w.heap.size + 1) (b + 1) b w4.heap.size (.slice aoR (succ k).length cR) i (succ k) 0 (visN i ⟨(tourN succ first i).keys, (tourN succ first i).from_, []⟩ (succ k) 0) (.slice (some ⟨gK, oK, none⟩) (tourN succ first i).keys.length cK) vN vF (.slice none 0 0) Sq2 us w6) := by
    have e : (tourN succ first i).keys.length - (i + 1) = m := by have := HM.out; rw [HKS.out] at this; omega
    refine hid ⟨?_, by show i + 1 ≤ (tourN succ first i).keys.length; rw [← HKS.out]; omega, H1.out.most, rfl, tourN_from_len succ first i⟩
    show MidW _ _ _ _ _ _ _ _ _ _ _ _ _ _ _ _ _ _ _ _ _ _ _ _ _ ((tourN succ first i).keys.length - (i + 1)) _
    rw [e]
    exact HM6.out
   clear HM6
   go_loopg [14, 50] (succ k).length (fun g vG v wx => ∃ j vK vF Sq, g = (succ k).length - j ∧ j ≤ (succ k).length ∧ v = .int .i64 j ∧ Hid (L2W kindS w X Inv succ first most w.heap.size (w1.heap.size + 1 + 1) (w.heap.size + 1) (b + 1) b w4.heap.size (.slice aoR (succ k).length cR) i (succ k) j (visN i ⟨(tourN succ first i).keys, (tourN succ first i).from_, []⟩ (succ k) j) vK vN vF vG Sq us wx))
   case atStart => exact ⟨0, _, _, _, rfl, Nat.zero_le _, rfl, HM7⟩
   case round =>
    obtain ⟨j, vK, vF', Sq3, rfl, hj, rfl, H2⟩ := hrel
    clear HM7
    obtain ⟨s, hs⟩ : ∃ s, s = visN i ⟨(tourN succ first i).keys, (tourN succ first i).from_, []⟩ (succ k) j := ⟨_, rfl⟩
    rw [← hs] at H2
    have HS := hid hs
    clear hs
    have hszx := H2.out.mid.env.size rfl
    have hle2 := H2.out.le
    have hmost2 := H2.out.most
    have hgl := H2.out.goes
    have hsl := HL.out k HUK.out
    have hsk : s.keys.length ≤ 100001 := by
     rcases HB.out with h | h
     ·omega
     ·have h2 := h (i + 1)
      rw [tourN_succ HK.out] at h2
      have h3 : (visN i ⟨(tourN succ first i).keys, (tourN succ first i).from_, []⟩ (succ k) (succ k).length).keys.length ≤ 100000 := h2
      have h4 := (visN_mono i ⟨(tourN succ first i).keys, (tourN succ first i).from_, []⟩ (succ k) hj).length_le
      rw [← HS.out] at h4
      omega
    rcases Nat.lt_or_ge j (succ k).length with hlt2 | hge2
    ·obtain ⟨x, hx⟩ : ∃ x, (succ k)[j]? = some x := ⟨_, List.getElem?_eq_getElem hlt2⟩
     obtain ⟨gR, oR, rfl⟩ := HGR.out (by omega)
     have HC2 : Hid (∀ e, e < 17 → wr.cell? ⟨gR, oR + j * 17 + e, none⟩ = (staC x)[e]?) := hid fun e he => by
      have h := (H2.out.mid.row.out).cell hx (k := e) he
      rw [show oR + (j * kindS.s + e) = oR + j * 17 + e by show oR + (j * 17 + e) = _; omega] at h
      exact h
     have hbR : gR < wr.heap.size := H2.out.mid.row.out.blk_lt (by omega)
     have hjI : (j : Int) < ((succ k).length : Int) := by omega
     have HXX := hid hx
     clear hx
     go_upto_region 11 with (first
      | (with_reducible refine onOp 54 ?_
         go_loud (refine wpList_load_cells rfl 112 (.tmp 53) rfl gR (oR + j * 17) rfl (staC x) _ 17 HC2.out (staC_size _) Tryz.underlying112 rfl info112 ?_))
      | (with_reducible refine onOp 16 ?_
         go_loud (refine wpList_alloc_aggN rfl 112 rfl _ zero112 ?_)
         intro Z HZ1
         have HZs : Hid (Z.size = 17) := hid (by rw [HZ1.out]; exact staC_size _)
         clear HZ1)
      | (with_reducible show wpList _ _ _ ((⟨_, Op.store _ (.tmp 16) _, _, _, _, _⟩ : Oper) :: _) _ _
         go_loud (refine wpList_store_last rfl 112 (.tmp 16) (.tmp 54) rfl wr.heap.size (staC x) rfl rfl 112 Z rfl (by rw [staC_size]; exact info112) (by rw [HZs.out, staC_size]) (ones_sta x) ?_)))
     have NM := H2.out.mid.ext HN.out.keep ((Below.refl _ wr).alloc (Nat.le_refl _) (.cells (staC x) 112))
     have HB16 := hid (Blk.new wr 112 (staC x))
     have h16 : w.heap.size + 1 < wr.heap.size := by have := H2.out.mid.tr.map.lt; exact this
     obtain ⟨wy, hwy⟩ : ∃ u, u = wr.alloc (.cells (staC x) 112) := ⟨_, rfl⟩
     rw [← hwy] at NM HB16 ⊢
     have hszy : w.heap.size ≤ wy.heap.size := NM.env.size rfl
     have HMM := hid NM
     have hr16 : wr.heap.size < wy.heap.size := HB16.out.lt
     obtain ⟨b16, hb16⟩ : ∃ n, n = wr.heap.size := ⟨_, rfl⟩
     rw [← hb16] at HB16 h16 hr16 ⊢
     clear NM hwy hb16
     have sX : (staC x).size = 17 := staC_size _
     by_cases hmem : x ∈ s.keys
     ·obtain ⟨n, hn⟩ : ∃ n, n = @List.idxOf _ instBEqOfDecidableEq x s.keys := ⟨_, rfl⟩
      have hlook : alook (entries numV 0 s.keys) x = some (.int .i64 n) := by rw [entries_look, if_pos hmem, Nat.zero_add, ← hn]; rfl
      have HLK := hid hlook
      have HG2 := hid HMM.out.tr.goes
      have HNI := hid hn
      have HME := hid hmem
      have hgl1 : s.goes.length + 1 ≤ 1000000000 := by omega
      have HGL := hid hgl
      clear hlook hn hmem hgl
      go_wp2_with (first
       | (with_reducible refine onOp 57 ?_
          go_loud (refine wpList_load_blk rfl 112 (.tmp 16) rfl b16 rfl 112 (staC x) _ 17 HB16.out (staC_size _) Tryz.underlying112 rfl info112 ?_))
       | (with_reducible show wpList _ _ _ ((⟨_, Op.lookup _ _ _ _, _, _, _, _⟩ : Oper) :: _) _ _
          go_loud (refine wpList_lookupB rfl (.tmp 56) (.tmp 57) 177 rfl 112 3 (fun p => .agg (staC p)) key_sta Tryz.underlying177 (w.heap.size + 1) (entries numV 0 s.keys) rfl HMM.out.tr.map (.int .i64 0) zero_int x rfl (some (.int .i64 n)) HLK.out ?_))
       | (at_builtin
          go_loud (refine wpList_append_R elem_int (fun _ => rfl) ones_int HG2 hszy hgl1 n _ rfl wy.heap.size rfl rfl _ _ rfl rfl rfl ?_)
          rintro g' c' v' w7 rfl G1 G2))
      go_roundg ((succ k).length - (j + 1))
      case measure => omega
      case rel =>
       have hP := TrW.num okS HMM.out.tr rfl G1.out G2.out.1 G2.out.2
       have hv : visN i ⟨(tourN succ first i).keys, (tourN succ first i).from_, []⟩ (succ k) (j + 1) = ⟨s.keys, s.from_, s.goes ++ [n]⟩ := by
        rw [visN_succ HXX.out, ← HS.out, vis1, if_pos HME.out, HNI.out]
       refine ⟨j + 1, vK, vF', Sq3, rfl, by omega, by go_num, hid ?_⟩
       rw [hv]
       exact ⟨HMM.out.go HN.out.keep hP.1 hP.2, hle2, hmost2, by simp [HGL.out], H2.out.from_⟩
     ·have hlook : alook (entries numV 0 s.keys) x = none := by rw [entries_look, if_neg hmem]
      obtain ⟨aoS, cS, rfl, hgS⟩ := (OwnR.read HMM.out.tr.keys okS.size).form
      obtain ⟨sk, hsk2⟩ : ∃ sk, sk = s.keys.length := ⟨_, rfl⟩
      have c3 : wy.cell? ⟨w1.heap.size + 1 + 1, 0, none⟩ = some (.slice aoS s.keys.length cS) := HMM.out.tr.blk.cell (i := 0) rfl
      rw [← hsk2] at c3 hsk hle2 hmost2
      have HSK := hid hsk2
      have HLK := hid hlook
      have HME := hid hmem
      have HGL := hid hgl
      clear hlook hmem hgl hgS hsk2
      by_cases hM : most ≤ sk
      ·have hR := HMM.out.env.res.out
       have r0 : wy.cell? ⟨w.heap.size, 0, none⟩ = some (.slice none 0 0) := hR.cell (i := 0) rfl
       have r1 : wy.cell? ⟨w.heap.size, 1, none⟩ = some (.slice none 0 0) := hR.cell (i := 1) rfl
       have r2 : wy.cell? ⟨w.heap.size, 2, none⟩ = some (.slice none 0 0) := hR.cell (i := 2) rfl
       have rf := hR.frozen
       have rl := hR.lt
       have HR := hid hR
       clear hR
       go_wp2_with (first
        | (with_reducible refine onOp 57 ?_
           go_loud (refine wpList_load_blk rfl 112 (.tmp 16) rfl b16 rfl 112 (staC x) _ 17 HB16.out (staC_size _) Tryz.underlying112 rfl info112 ?_))
        | (with_reducible show wpList _ _ _ ((⟨_, Op.lookup _ _ _ _, _, _, _, _⟩ : Oper) :: _) _ _
           go_loud (refine wpList_lookupB rfl (.tmp 56) (.tmp 57) 177 rfl 112 3 (fun p => .agg (staC p)) key_sta Tryz.underlying177 (w.heap.size + 1) (entries numV 0 s.keys) rfl HMM.out.tr.map (.int .i64 0) zero_int x rfl none HLK.out ?_)))
       try rw [Exit.noGoto_ret]
       have h3 : Blk (((wy.setCell ⟨w.heap.size, 0, none⟩ (.slice none 0 0)).setCell ⟨w.heap.size, 1, none⟩ (.slice none 0 0)).setCell ⟨w.heap.size, 2, none⟩ (.slice none 0 0)) w.heap.size 118 #[.slice none 0 0, .slice none 0 0, .slice none 0 0] := ((HR.out.set 0 _).set 1 _).set 2 _
       have cc : Chg (fun k => w.heap.size ≤ k) wy (((wy.setCell ⟨w.heap.size, 0, none⟩ (.slice none 0 0)).setCell ⟨w.heap.size, 1, none⟩ (.slice none 0 0)).setCell ⟨w.heap.size, 2, none⟩ (.slice none 0 0)) :=
        Chg.setCell (p := ⟨w.heap.size, 2, none⟩) (Chg.setCell (p := ⟨w.heap.size, 1, none⟩) (Chg.setCell (p := ⟨w.heap.size, 0, none⟩) (Chg.refl _ wy) (Nat.le_refl w.heap.size) _) (Nat.le_refl w.heap.size) _) (Nat.le_refl w.heap.size) _
       show bodyPost Tryz.prog Tryz.f75 (fun e w' => TravelPost kindS w00.heap.size X Inv succ first most w00 e w') Exit.ret _ _
       refine bodyPost_ret (v := .tuple #[.agg #[.slice none 0 0, .slice none 0 0, .slice none 0 0], .bool false]) (results_cell_agg_tmp Tryz.results75 _ _ w.heap.size 118 #[.slice none 0 0, .slice none 0 0, .slice none 0 0] _ _ rfl rfl h3 Tryz.underlying118 rfl (by kernel_rfl)) rfl ?_
       refine TravelPost.lower (M := w.heap.size) (w := w) ⟨HN.out.keep _ _ HMM.out.env.inv cc, chg_x HMM.out.env.chg rfl cc, .inr ⟨i + 1, ?_, rfl⟩⟩ (by omega) HX0.out
       have e1 : visN i ⟨(tourN succ first i).keys, (tourN succ first i).from_, []⟩ (succ k) (j + 1) = ⟨s.keys ++ [x], s.from_ ++ [(i, j)], s.goes ++ [s.keys.length]⟩ := by
        rw [visN_succ HXX.out, ← HS.out, vis1, if_neg HME.out]
       have e2 := (visN_mono i ⟨(tourN succ first i).keys, (tourN succ first i).from_, []⟩ (succ k) (show j + 1 ≤ (succ k).length by omega)).length_le
       rw [e1, List.length_append, ← HSK.out] at e2
       rw [tourN_succ HK.out]
       show most < (visN i ⟨(tourN succ first i).keys, (tourN succ first i).from_, []⟩ (succ k) (succ k).length).keys.length
       simp only [List.length_singleton] at e2
       omega
      ·have hlt3 : sk < most := by omega
       go_upto_region 17 with (first
        | (with_reducible refine onOp 57 ?_
           go_loud (refine wpList_load_blk rfl 112 (.tmp 16) rfl b16 rfl 112 (staC x) _ 17 HB16.out (staC_size _) Tryz.underlying112 rfl info112 ?_))
        | (with_reducible refine onOp 71 ?_
           go_loud (refine wpList_load_blk rfl 112 (.tmp 16) rfl b16 rfl 112 (staC x) _ 17 HB16.out (staC_size _) Tryz.underlying112 rfl info112 ?_))
        | (with_reducible show wpList _ _ _ ((⟨_, Op.lookup _ _ _ _, _, _, _, _⟩ : Oper) :: _) _ _
           go_loud (refine wpList_lookupB rfl (.tmp 56) (.tmp 57) 177 rfl 112 3 (fun p => .agg (staC p)) key_sta Tryz.underlying177 (w.heap.size + 1) (entries numV 0 s.keys) rfl HMM.out.tr.map (.int .i64 0) zero_int x rfl none HLK.out ?_))
        | (with_reducible show wpList _ _ _ ((⟨_, Op.mapUpdate _ _ _ _, _, _, _, _⟩ : Oper) :: _) _ _
           go_loud (refine wpList_mapUpdateB _ rfl (.tmp 70) (.tmp 71) (.tmp 72) 177 (.inl rfl) 112 3 (fun p => .agg (staC p)) key_sta Tryz.underlying177 (w.heap.size + 1) (entries numV 0 s.keys) rfl HMM.out.tr.map x (numV sk) rfl rfl ?_)
           intro w7 hM7 hg7
           have HM7 := hid hM7
           have HG7 := hid hg7
           have HB7 := hid (HB16.out.grown hg7 (by simp; omega))
           clear hM7 hg7))
       have hM7' : MapB w7 (w.heap.size + 1) kindS.enc (aput (entries numV 0 s.keys) x (numV s.keys.length)) := by rw [← HSK.out]; exact HM7.out
       have P1 := TrW.put HMM.out.tr HME.out hM7' HG7.out
       have N1 := HMM.out.go HN.out.keep P1.1 P1.2
       have hs7 := N1.env.size rfl
       have c4 : w7.cell? ⟨w1.heap.size + 1 + 1, 0, none⟩ = some (.slice aoS s.keys.length cS) := N1.tr.blk.cell (i := 0) rfl
       have f4 := N1.tr.blk.frozen
       have l4 := N1.tr.blk.lt
       have HK1 := hid N1.tr.keys
       have HN1 := hid N1
       obtain ⟨vK1, hv1⟩ : ∃ v, v = Value.slice aoS s.keys.length cS := ⟨_, rfl⟩
       rw [← hv1] at c4 HK1 HN1
       have hgk1 : s.keys.length + 1 ≤ 1000000000 := by rw [← HSK.out]; omega
       clear P1 hM7' N1 HM7 HG7 hv1
       go_upto_region 18 with (first
        | (with_reducible refine onOp 75 ?_
           go_loud (refine wpList_load_blk rfl 112 (.tmp 16) rfl b16 rfl 112 (staC x) _ 17 HB7.out (staC_size _) Tryz.underlying112 rfl info112 ?_))
        | (with_reducible refine onOp 76 ?_
           go_loud (refine wpList_slice_one rfl 113 (.tmp 75) rfl (staC x) rfl 112 17 _ Tryz.underlying113 slot112 (by decide) (by decide) (staC_size _) ?_))
        | (at_builtin
           go_loud (refine wpList_append_R elem_sta okS.size ones_sta HK1 hs7 hgk1 x _ rfl w7.heap.size rfl rfl _ _ rfl rfl rfl ?_)
           rintro g' c' v' w8 rfl G1 G2
           have b8 := (TrW.app okS HN1.out.tr hs7 rfl G1.out G2.out.1 G2.out.2).1
           have c5 : w8.cell? ⟨w1.heap.size + 1 + 1, 0, none⟩ = some vK1 := b8.cell (i := 0) rfl
           have f5 := b8.frozen
           have l5 := b8.lt
           clear b8))
       have P2 := TrW.app okS HN1.out.tr hs7 rfl G1.out G2.out.1 G2.out.2
       have N2 := HN1.out.go HN.out.keep P2.2.1 P2.2.2
       obtain ⟨vK2, hv2⟩ : ∃ v, v = Value.slice (some ⟨g', 0, none⟩) (s.keys.length + 1) c' := ⟨_, rfl⟩
       rw [← hv2] at N2 ⊢
       obtain ⟨w9, hw9⟩ : ∃ u, u = w8.setCell ⟨w1.heap.size + 1 + 1, 0, none⟩ vK2 := ⟨_, rfl⟩
       rw [← hw9] at N2 ⊢
       have hs9 := N2.env.size rfl
       have c6 : w9.cell? ⟨w1.heap.size + 1 + 1, 2, none⟩ = some vF' := N2.tr.blk.cell (i := 2) rfl
       have f6 := N2.tr.blk.frozen
       have l6 := N2.tr.blk.lt
       have d6 : w9.cell? ⟨w4.heap.size, 0, none⟩ = some (.int .i64 i) := N2.box.out.cell (i := 0) rfl
       have m6 := N2.box.out.lt
       have HF2 := hid N2.tr.from_
       have HN2 := hid N2
       have hgf1 : s.from_.length + 1 ≤ 1000000000 := by rw [H2.out.from_, ← HSK.out]; omega
       clear P2 N2 hv2 hw9 HN1 HK1 G1 G2 c4
       go_upto_region 19 with (first
        | (at_builtin
           go_loud (refine wpList_append_R elem_step (fun _ => rfl) ones_step HF2 hs9 hgf1 (i, j) _ rfl w9.heap.size rfl rfl _ _ rfl rfl rfl ?_)
           rintro g2 c2' v2 w10 rfl G1 G2
           have b8 := (TrW.step okS HN2.out.tr rfl G1.out G2.out.1 G2.out.2).1
           have c7 : w10.cell? ⟨w1.heap.size + 1 + 1, 2, none⟩ = some vF' := b8.cell (i := 2) rfl
           have f7 := b8.frozen
           have l7 := b8.lt
           clear b8))
       have P3 := TrW.step okS HN2.out.tr rfl G1.out G2.out.1 G2.out.2
       have N3 := HN2.out.go HN.out.keep P3.2.1 P3.2.2
       obtain ⟨vF2, hv3⟩ : ∃ v, v = Value.slice (some ⟨g2, 0, none⟩) (s.from_.length + 1) c2' := ⟨_, rfl⟩
       rw [← hv3] at N3 ⊢
       obtain ⟨w11, hw11⟩ : ∃ u, u = w10.setCell ⟨w1.heap.size + 1 + 1, 2, none⟩ vF2 := ⟨_, rfl⟩
       rw [← hw11] at N3 ⊢
       have hs11 := N3.env.size rfl
       have hzn : (sk : Int) = ((i + 1 + (s.keys.length - (i + 1)) : Nat) : Int) := by rw [HSK.out]; have := H2.out.le; omega
       have hbn : i + 1 + (s.keys.length - (i + 1)) ≤ 100000000 := by rw [← HSK.out]; omega
       have hput := putRz N3.tr.que hbn sk hzn
       have HPT := hid hput
       have HN3 := hid N3
       clear P3 N3 hv3 hw11 HN2 HF2 G1 G2 hzn hbn hput c6 c7 f6 f7 l6 l7 d6 m6
       go_wp2_with fail
       go_at_call 104
       refine HPT.out.mono ?_
       rintro e w12 ⟨rfl, Sq4, hq4, hm4⟩
       have P4 := TrW.turn okS HN3.out.tr hs11 hq4 hm4
       have N4 := HN3.out.go HN.out.keep P4.1 P4.2
       have hs12 := N4.env.size rfl
       have HG4 := hid N4.tr.goes
       have HN4 := hid N4
       have hgl1 : s.goes.length + 1 ≤ 1000000000 := by have := H2.out.goes; omega
       clear P4 N4 hq4 hm4 HN3 HPT
       go_wp2_with (first
        | (at_builtin
           go_loud (refine wpList_append_R elem_int (fun _ => rfl) ones_int HG4 hs12 hgl1 sk _ rfl w12.heap.size rfl rfl _ _ rfl rfl rfl ?_)
           rintro g4 c4' v4 w13 rfl G1 G2))
       go_roundg ((succ k).length - (j + 1))
       case measure => omega
       case rel =>
        have P5 := TrW.num okS HN4.out.tr rfl G1.out G2.out.1 G2.out.2
        have hv : visN i ⟨(tourN succ first i).keys, (tourN succ first i).from_, []⟩ (succ k) (j + 1) = ⟨s.keys ++ [x], s.from_ ++ [(i, j)], s.goes ++ [sk]⟩ := by
         rw [visN_succ HXX.out, ← HS.out, vis1, if_neg HME.out, HSK.out]
        refine ⟨j + 1, vK2, vF2, Sq4, rfl, by omega, by go_num, hid ?_⟩
        rw [hv]
        have hle3 : i + 1 ≤ s.keys.length := H2.out.le
        have e1 : (s.keys ++ [x]).length - (i + 1) = s.keys.length - (i + 1) + 1 := by simp; omega
        refine ⟨?_, by simp; omega, by simp [← HSK.out]; omega, by simp [HGL.out], by simp [H2.out.from_]⟩
        show MidW _ _ _ _ _ _ _ _ _ _ _ _ _ _ _ _ _ _ _ (s.keys ++ [x]) (s.keys ++ [x]) _ (s.from_ ++ [(i, j)]) (s.goes ++ [sk]) _ ((s.keys ++ [x]).length - (i + 1)) _
        rw [e1]
        exact HN4.out.go HN.out.keep P5.1 P5.2
    ·obtain rfl : j = (succ k).length := by omega
     obtain ⟨aoG, cG, rfl, -⟩ := (OwnR.read H2.out.mid.tr.goes (fun _ => rfl)).form
     have c3 : wr.cell? ⟨w1.heap.size + 1 + 1, 1, none⟩ = some vN := H2.out.mid.tr.blk.cell (i := 1) rfl
     have f3 := H2.out.mid.tr.blk.frozen
     have l3 := H2.out.mid.tr.blk.lt
     have HN2 := hid H2.out.mid.tr.next
     have hgu : us.length + 1 ≤ 1000000000 := by
      rw [H2.out.mid.env.len, tourN_next_len succ first i (by rw [← HKS.out]; omega)]; omega
     have HGL := hid hgl
     clear hgl
     go_wp2_with (first
      | (at_builtin
         go_loud (refine wpList_append_R elem_row (fun _ => rfl) ones_row HN2 hszx hgu (.slice aoG s.goes.length cG) _ rfl wr.heap.size rfl rfl _ _ rfl rfl rfl ?_)
         rintro g' c' v' w7 rfl G1 G2
         have b8 := (TrW.row okS H2.out.mid.tr rfl G1.out G2.out.1 G2.out.2).1
         have c7 : w7.cell? ⟨w1.heap.size + 1 + 1, 1, none⟩ = some vN := b8.cell (i := 1) rfl
         have f7 := b8.frozen
         have l7 := b8.lt
         clear b8))
     go_roundg (100001 - (i + 1))
     case measure => omega
     case rel =>
      have P2 := TrW.row okS H2.out.mid.tr rfl G1.out G2.out.1 G2.out.2
      have P3 := H2.out.mid.end_ okS HN.out.below HN.out.keep P2.2.1 P2.2.2
      refine ⟨i + 1, vK, .slice (some ⟨g', 0, none⟩) (us.length + 1) c', vF', Sq3, us ++ [.slice aoG s.goes.length cG], rfl, trivial, hid ?_⟩
      have hv : tourN succ first (i + 1) = ⟨s.keys, (tourN succ first i).next ++ [s.goes], s.from_⟩ := by
       rw [tourN_succ HK.out, rowOf, ← HS.out]
      refine ⟨?_, by rw [hv]; exact H2.out.le, by rw [hv]; exact H2.out.most, by rw [hv]; exact P3.2⟩
      rw [hv]
      exact P3.1
  ·have hie : i = (tourN succ first i).keys.length := by omega
   have hq := H1.out.tr.que
   have hz : (tourN succ first i).keys.length - i = 0 := by omega
   rw [hz] at hq
   have HIE := hid hie
   obtain ⟨aoK, cK, rfl, -⟩ := (OwnR.read H1.out.tr.keys okS.size).form
   obtain ⟨aoN, cN, rfl, -⟩ := (OwnR.read H1.out.tr.next (fun _ => rfl)).form
   obtain ⟨aoF, cF, rfl, -⟩ := (OwnR.read H1.out.tr.from_ (fun _ => rfl)).form
   have HQ1 := hid hq
   obtain ⟨kl, hkl⟩ : ∃ n, n = (tourN succ first i).keys.length := ⟨_, rfl⟩
   obtain ⟨fl, hfl⟩ : ∃ n, n = (tourN succ first i).from_.length := ⟨_, rfl⟩
   rw [← hkl, ← hfl] at H1
   have HKL := hid hkl
   have HFL := hid hfl
   clear hie hz hq hkl hfl
   go_wp2_with fail
   go_at_call 105
   refine (takeR_none HQ1.out).mono ?_
   rintro e w4 ⟨rfl, hE⟩
   have hb4 : Blk w4 (w1.heap.size + 1 + 1) 118 #[.slice aoK kl cK, .slice aoN us.length cN, .slice aoF fl cF] := H1.out.tr.blk.ext hE
   have c0 : w4.cell? ⟨w1.heap.size + 1 + 1, 0, none⟩ = some (.slice aoK kl cK) := hb4.cell (i := 0) rfl
   have c1 : w4.cell? ⟨w1.heap.size + 1 + 1, 1, none⟩ = some (.slice aoN us.length cN) := hb4.cell (i := 1) rfl
   have c2 : w4.cell? ⟨w1.heap.size + 1 + 1, 2, none⟩ = some (.slice aoF fl cF) := hb4.cell (i := 2) rfl
   have l4 := hb4.lt
   have hR := H1.out.env.res.out.ext hE
   have r0 : w4.cell? ⟨w.heap.size, 0, none⟩ = some (.slice none 0 0) := hR.cell (i := 0) rfl
   have r1 : w4.cell? ⟨w.heap.size, 1, none⟩ = some (.slice none 0 0) := hR.cell (i := 1) rfl
   have r2 : w4.cell? ⟨w.heap.size, 2, none⟩ = some (.slice none 0 0) := hR.cell (i := 2) rfl
   have rf := hR.frozen
   have rl := hR.lt
   have HR := hid hR
   have HX := hid hE
   clear hR hb4 hE
   go_wp2_with fail
   try rw [Exit.noGoto_ret]
   have h3 : Blk ((((w4.setCell ⟨w.heap.size, 0, none⟩ (.slice aoK kl cK)).setCell ⟨w.heap.size, 1, none⟩ (.slice aoN us.length cN)).setCell ⟨w.heap.size, 2, none⟩ (.slice aoF fl cF)).alloc (.cells #[.int .i64 0] 165)) w.heap.size 118 #[.slice aoK kl cK, .slice aoN us.length cN, .slice aoF fl cF] := (((HR.out.set 0 _).set 1 _).set 2 _).alloc _
   have cc : Chg (fun k => k = w.heap.size) wr ((((w4.setCell ⟨w.heap.size, 0, none⟩ (.slice aoK kl cK)).setCell ⟨w.heap.size, 1, none⟩ (.slice aoN us.length cN)).setCell ⟨w.heap.size, 2, none⟩ (.slice aoF fl cF)).alloc (.cells #[.int .i64 0] 165)) :=
    Chg.alloc (Chg.setCell (p := ⟨w.heap.size, 2, none⟩) (S := fun k => k = w.heap.size) (Chg.setCell (p := ⟨w.heap.size, 1, none⟩) (S := fun k => k = w.heap.size) (Chg.setCell (p := ⟨w.heap.size, 0, none⟩) (S := fun k => k = w.heap.size) (Chg.of_ext HX.out) rfl (.slice aoK kl cK)) rfl (.slice aoN us.length cN)) rfl (.slice aoF fl cF)) (.cells #[.int .i64 0] 165)
   show bodyPost Tryz.prog Tryz.f75 (fun e w' => TravelPost kindS w00.heap.size X Inv succ first most w00 e w') Exit.ret _ _
   refine bodyPost_ret (v := .tuple #[.agg #[.slice aoK kl cK, .slice aoN us.length cN, .slice aoF fl cF], .bool true]) (results_cell_agg_tmp Tryz.results75 _ _ w.heap.size 118 #[.slice aoK kl cK, .slice aoN us.length cN, .slice aoF fl cF] _ _ rfl rfl h3 Tryz.underlying118 rfl (by kernel_rfl)) rfl ?_
   have P := H1.out.tour okS HN.out.keep cc
   exact TravelPost.lower (M := w.heap.size) (w := w) ⟨P.1, P.2.1, .inl ⟨i, _, _, _, HIE.out, by have := H1.out.most; have := HIE.out; omega, rfl, P.2.2⟩⟩ (by omega) HX0.out
end Go.Proofs.YtngpjagpeblbjaaGreatDoor
namespace Go.Spy
open Go.RowKit
theorem wpList_lookupN {κ : Type} [DecidableEq κ] {P : Program} {w : World} {ops : Array Oper} {rest : List Oper} {o : Oper} {a : Act} {Q : Exit → Act → World → Prop}
 (hg : o.guard = none) (m x : Operand) (t : TypeId) (hop : o.op = Op.lookup t m x false)
 (kt et : TypeId) (enc : κ → Value) (K : KeyOk P kt enc) (ht : P.underlying t = some (.map kt et)) (b : Nat) (l : List (κ × Value)) (hm : a.eval m = .map (some b)) (h : MapB w b enc l)
 (z : Value) (hz : ∀ w : World, (zeroValue et).run P w = .ok z w) (k : κ) (hx : a.eval x = enc k) (r : Value) (hr : alook l k = some r)
 (hK : wpList P ops Q rest (a.put o.dst r) w) : wpList P ops Q (o :: rest) a w := by
 refine wpList_plain hg fun K' hK' => ?_
 have hrun := h.lookup_bare K ht (hz w) k
 rw [hr] at hrun
 unfold Oper.wp
 simp only [execOp, hop, hm, hx, Sem.run_bind, hrun, Result.andThen_ok, Sem.run_pure]
 exact hK' _ _ hK
end Go.Spy
namespace Go.Proofs.YtngpjagpeblbjaaGreatDoor
open Go.RowKit Go.Spy Go.Heaped Go.Tour Go.Rx
def mkM (m : Nat) : { m : Nat // m < 18446744073709551616 } := ⟨m % 18446744073709551616, Nat.mod_lt _ (by decide)⟩
theorem mkM_val {m : Nat} (h : m < 18446744073709551616) : (mkM m).1 = m := Nat.mod_eq_of_lt h
def ofM (l : List Nd) (x : ByteArray) : Nat := maskOf l.length fun p => match l[p]? with | some n => decide (n.op = 2) && decide (n.sym.toList = x.toList) | none => false
def firstM (l : List Nd) : Nat := (factT (tr l (l.length - 1))).first
def lastMk (l : List Nd) : Nat := (factT (tr l (l.length - 1))).last
def comeS (l : List Nd) (s : Sta) : Nat := (bitsL s.2.1).foldl (fun m p => m ||| nextM l p) (if s.1 then firstM l else 0)
def stepS (l : List Nd) (syms : List ByteArray) (s : Sta) (c : Nat) : Sta := (false, mkM (comeS l s &&& ofM l ((syms[c]?).getD ⟨#[]⟩)))
def startS : Sta := (true, ⟨0, by decide⟩)
def OkS (l : List Nd) (s : Sta) : Prop := s.2.1 < 2 ^ l.length
theorem pow_le64 {n : Nat} (h : n ≤ 64) : 2 ^ n ≤ 18446744073709551616 := by
 have h64 : 2 ^ 64 = 18446744073709551616 := by decide
 rw [← h64]
 exact Nat.pow_le_pow_right (by omega) h
theorem or_lt2 {a b n : Nat} (ha : a < 2 ^ n) (hb : b < 2 ^ n) : a ||| b < 2 ^ n := Nat.or_lt_two_pow ha hb
theorem firstM_lt {l : List Nd} (F : Rx.Form l) : firstM l < 2 ^ l.length ∧ lastMk l < 2 ^ l.length := by
 have h0 : 0 < l.length := List.length_pos_iff.2 F.ne
 exact fact_lt (n := l.length) _ fun p hp => pos_lt F (by omega) hp
theorem comeS_fold_lt {l : List Nd} : ∀ (ps : List Nat) {m : Nat}, m < 2 ^ l.length → ps.foldl (fun m p => m ||| nextM l p) m < 2 ^ l.length
 | [], _, h => h
 | p :: ps, _m, h => comeS_fold_lt ps (or_lt2 h (nextM_lt l p))
theorem comeS_lt {l : List Nd} (F : Rx.Form l) (s : Sta) : comeS l s < 2 ^ l.length := by
 refine comeS_fold_lt _ ?_
 split
 ·exact (firstM_lt F).1
 ·exact Nat.two_pow_pos _
theorem ofM_lt (l : List Nd) (x : ByteArray) : ofM l x < 2 ^ l.length := by
 apply Nat.lt_pow_two_of_testBit
 intro i hi
 unfold ofM
 rw [bit_maskOf, decide_eq_false (by omega)]; rfl
theorem stepS_ok {l : List Nd} (_F : Rx.Form l) (hl : l.length ≤ 64) (syms : List ByteArray) (s : Sta) (c : Nat) : OkS l (stepS l syms s c) ∧ (stepS l syms s c).2.1 = comeS l s &&& ofM l ((syms[c]?).getD ⟨#[]⟩) := by
 have h1 : comeS l s &&& ofM l ((syms[c]?).getD ⟨#[]⟩) < 2 ^ l.length := Nat.and_lt_two_pow _ (ofM_lt l _)
 have h2 := Nat.lt_of_lt_of_le h1 (pow_le64 hl)
 refine ⟨?_, mkM_val h2⟩
 unfold OkS stepS
 rw [mkM_val h2]
 exact h1
theorem mem_bits_lt {l : List Nd} {s : Sta} (h : OkS l s) {p : Nat} (hp : p ∈ bitsL s.2.1) : p < l.length := by
 rw [mem_bitsL] at hp
 rcases Nat.lt_or_ge p l.length with e | e
 ·exact e
 ·have h2 : s.2.1 < 2 ^ p := Nat.lt_of_lt_of_le h (Nat.pow_le_pow_right (by omega) e)
  rw [Nat.testBit_lt_two_pow h2] at hp; cases hp
structure MakeEnv (w0 wB : World) (l : List Nd) (ao : Option Addr) (cap : Nat) (syms : List ByteArray) (aoS : Option Addr) (cS bR bMp bM bSy bOf bO : Nat) : Prop where
 form : Rx.Form l
 names : NamesOk l
 len : l.length ≤ 64
 nodes : NodesV w0 ao l
 tab : TabW w0
 ext : Ext w0 wB
 low : w0.heap.size ≤ bM
 slen : syms.length ≤ 1000
 r : Blk wB bR 45 #[.slice ao l.length cap]
 mp : Blk wB bMp 110 #[.map (some bM)]
 sy : Blk wB bSy 22 #[.slice aoS syms.length cS]
 own : OwnR wB w0.heap.size 9 1 strC (.slice aoS syms.length cS) syms
 of_ : Blk wB bOf 102 #[.slice (some ⟨bO, 0, none⟩) syms.length syms.length]
 o : Blk wB bO 105 (rowV setV (syms.map (ofM l)))
 map : MapB wB bM numV []
def MakeInv (wB : World) (l : List Nd) (bM : Nat) (wr : World) : Prop := Chg (· = bM) wB wr ∧ ∃ fl : List (Nat × Value), MapB wr bM numV fl ∧ ∀ p v, alook fl p = some v → v = .agg (setV (nextM l p))
section
variable {w0 wB wr : World} {l : List Nd} {ao : Option Addr} {cap : Nat} {syms : List ByteArray} {aoS : Option Addr} {cS bR bMp bM bSy bOf bO : Nat}
theorem MakeEnv.start (h : MakeEnv w0 wB l ao cap syms aoS cS bR bMp bM bSy bOf bO) : MakeInv wB l bM wB := ⟨Chg.refl _ _, [], h.map, fun p v e => by cases e⟩
theorem MakeInv.ext (h : MakeEnv w0 wB l ao cap syms aoS cS bR bMp bM bSy bOf bO) (i : MakeInv wB l bM wr) : Ext w0 wr :=
 h.ext.trans (i.1.below h.ext.size (fun k e => by have := h.low; omega))
theorem MakeEnv.at_ (h : MakeEnv w0 wB l ao cap syms aoS cS bR bMp bM bSy bOf bO) (i : MakeInv wB l bM wr) :
 Blk wr bR 45 #[.slice ao l.length cap] ∧ Blk wr bMp 110 #[.map (some bM)] ∧ Blk wr bSy 22 #[.slice aoS syms.length cS] ∧ Blk wr bOf 102 #[.slice (some ⟨bO, 0, none⟩) syms.length syms.length] ∧ Blk wr bO 105 (rowV setV (syms.map (ofM l))) ∧ OwnR wr w0.heap.size 9 1 strC (.slice aoS syms.length cS) syms :=
 ⟨h.r.chg i.1 (fun e => blk_map_ne h.r h.map e), h.mp.chg i.1 (fun e => blk_map_ne h.mp h.map e), h.sy.chg i.1 (fun e => blk_map_ne h.sy h.map e), h.of_.chg i.1 (fun e => blk_map_ne h.of_ h.map e), h.o.chg i.1 (fun e => blk_map_ne h.o h.map e),
  h.own.chg i.1 (fun k e e' => by obtain ⟨_, hb⟩ := own_block h.own e; exact blk_map_ne hb h.map e')⟩
theorem MakeInv.keep {a b : World} (h : MakeEnv w0 wB l ao cap syms aoS cS bR bMp bM bSy bOf bO) (i : MakeInv wB l bM a) (c : Chg (fun k => wB.heap.size ≤ k) a b) : MakeInv wB l bM b := by
 obtain ⟨h1, fl, h2, h3⟩ := i
 exact ⟨chg_x h1 rfl c, fl, h2.chg c (fun e => by have := h.map.lt; omega), h3⟩
theorem MakeInv.of_ext {a b : World} (h : MakeEnv w0 wB l ao cap syms aoS cS bR bMp bM bSy bOf bO) (i : MakeInv wB l bM a) (e : Ext a b) : MakeInv wB l bM b := by
 refine i.keep h ((Chg.of_ext (S := fun _ => False) e).mono fun k _ e => e.elim)
end
theorem enters70 : Enters Tryz.prog 70 := fun _ _ => by kernel_rfl
theorem zero_places (w : World) : (zeroValue 105).run Tryz.prog w = .ok (.agg (setV 0)) w := by
 obtain ⟨i, h1, h2⟩ := Option.map_eq_some_iff.1 zero105
 simp [zeroValue, typeInfo, h1, h2]
theorem built_sta (m : Nat) : Tryz.prog.built 112 [(1, .agg (setV m))] = some (#[.bool false] ++ setV m) := by kernel_rfl
end Go.Proofs.YtngpjagpeblbjaaGreatDoor
