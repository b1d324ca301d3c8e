/-
  Walk of the reference's Make: its automaton is the program's, or both have too many states.
-/
import Derived.Test.YtngpjagpeblbjaaGreatDoorO02
import Derived.Test.YtngpjagpeblbjaaGreatDoorO05
namespace Go.Proofs.YtngpjagpeblbjaaGreatDoor
open Go.RowKit Go.Spy Go.Heaped Go.Tour Go.Rx
theorem lstS_len (s : Sta) : (lstS s).length ≤ 64 := by
 unfold lstS
 split
 ·exact (by decide : 1 ≤ 64)
 ·rw [List.length_map]
  have h64 : (2 : Nat) ^ 64 = 18446744073709551616 := by decide
  exact bitsL_len (by rw [h64]; exact s.2.2)
theorem nodup_on {α β : Type} {f : α → β} : ∀ {l : List α}, l.Nodup → (∀ a ∈ l, ∀ b ∈ l, f a = f b → a = b) → (l.map f).Nodup
 | [], _, _ => List.nodup_nil
 | x :: l, h, hf => by
   rw [List.nodup_cons] at h
   rw [List.map_cons, List.nodup_cons]
   refine ⟨fun hm => ?_, nodup_on h.2 fun a ha b hb => hf a (by simp [ha]) b (by simp [hb])⟩
   obtain ⟨y, hy, e⟩ := List.mem_map.1 hm
   exact h.1 (hf y (by simp [hy]) x (by simp) e ▸ hy)
theorem succS_okZ (l : List Nd) (syms : List ByteArray) (s : Sta) : ∀ x ∈ succS l syms s, OkZ x := fun x hx => by
 simp only [fan, List.mem_map, List.mem_range] at hx
 obtain ⟨c, _, rfl⟩ := hx
 exact .inr rfl
def RMakePost (l : List Nd) (syms : List ByteArray) (w : World) (e : Ending) (w' : World) : Prop := Ext w w' ∧ ∃ aoS n1 cS aoN n2 cN aoF n3 cF ok, e = .returned (.tuple #[.agg #[.slice aoS n1 cS, .slice aoN n2 cN, .slice aoF n3 cF], .bool ok]) ∧
 ((ok = true ∧ ∃ i, Full (succS l syms) startS i ∧ i ≤ 256 ∧ DfaV w' (.agg #[.slice aoS n1 cS, .slice aoN n2 cN, .slice aoF n3 cF]) (tourD syms (tourN (succS l syms) startS i) (finalK l)).raw) ∨ (ok = false ∧ ∃ i, 256 < (tourN (succS l syms) startS i).keys.length))
set_option maxRecDepth 100000 in
set_option maxHeartbeats 8000000 in
theorem rmake_any {w : World} {l : List Nd} (F : Rx.Form l) (hl : l.length ≤ 64) {ao : Option Addr} {cap : Nat} (hV : NodesV w ao l) {aoS : Option Addr} {n cS : Nat} {syms : List ByteArray} (hY : ReadR w 1 strC (.slice aoS n cS) syms) (hn : n ≤ 1000) :
 Calls Tryz.prog 32 #[.slice ao l.length cap, .slice aoS n cS] w (RMakePost l syms w) := by
 have HV := hid hV
 have HY := hid hY
 have HFO := hid F
 have HLL := hid hl
 have HYF := hid (show 0 < n → ∃ g off, aoS = some ⟨g, off, none⟩ from by
  obtain ⟨_, _, e, h⟩ := hY.form
  simp only [Value.slice.injEq] at e
  obtain ⟨rfl, e2, -⟩ := e
  rw [e2]; exact h)
 have hyn : n = syms.length := by
  obtain ⟨_, _, e, _⟩ := hY
  simp only [Value.slice.injEq] at e
  exact e.2.1
 have HYN := hid hyn
 obtain ⟨nl0, hnl0⟩ : ∃ m, m = l.length := ⟨_, rfl⟩
 have HNL0 := hid hnl0
 have hl64 : nl0 ≤ 64 := by rw [hnl0]; exact hl
 have HGO : Hid (∀ W, Ext w W → ∀ (vs : Value) (s : Sta) (j : Nat) (x : ByteArray), ReadR W 1 intZ vs (lstS s) → OkZ s → syms[j]? = some x → Calls Tryz.prog 92 #[.slice ao nl0 cap, vs, .string x] W fun e w' => ∃ ao' n' c', e = .returned (.slice ao' n' c') ∧ OwnR w' W.heap.size 3 1 intZ (.slice ao' n' c') (lstS (stepS l syms s j)) ∧ Ext W w') := hid fun W e vs s j x h1 h2 h3 => by
  have h := rgoes_any F (cap := cap) (hV.ext e) hl h1 (by have := lstS_len s; omega) x
  rw [hnl0]
  refine h.mono ?_
  rintro e w' ⟨v, rfl, hO, hx⟩
  rw [goesL_step F hl h2 h3] at hO
  obtain ⟨ao', c', rfl, -⟩ := (OwnR.read hO (fun _ => rfl)).form
  exact ⟨_, _, _, rfl, hO, hx⟩
 have HFI : Hid (∀ W, Ext w W → ∀ (vs : Value) (s : Sta), ReadR W 1 intZ vs (lstS s) → OkZ s → Calls Tryz.prog 93 #[.slice ao nl0 cap, vs] W fun e w' => e = .returned (.bool (finalK l s)) ∧ Ext W w') := hid fun W e vs s h1 h2 => by
  have h := rfinal_any F (cap := cap) (hV.ext e) hl h1 (by have := lstS_len s; omega)
  rw [hnl0]
  rw [finL_at F h2] at h
  exact h
 rw [← hnl0]
 obtain ⟨wB, hwB⟩ : ∃ u, u = w.alloc (.cells #[.slice none 0 0, .slice none 0 0, .slice none 0 0] 40) := ⟨_, rfl⟩
 have HEB : Hid (Ext w wB) := hid (hwB ▸ (Below.refl _ _).alloc (Nat.le_refl _) _)
 have HRB : Hid (Blk wB w.heap.size 40 #[.slice none 0 0, .slice none 0 0, .slice none 0 0]) := hid (hwB ▸ Blk.new _ _ _)
 have HWB := hid hwB
 clear hV hY hl hyn hnl0 hwB
 go_enter Tryz.func32, Tryz.ntmps32
 go_upto_region 1 with fail
 rw [← HWB.out]
 go_wp2_with fail
 go_loopg [7, 8] 257 (fun gm vS u wr => ∃ (i : Nat) (us rs : List Value) (ks : List Sta) (nx : List (List Nat)) (fs : List Bool) (vN vF : Value), gm = 257 - i ∧ i ≤ 256 ∧ u = .int .i64 i ∧ Hid (ks = (tourN (succS l syms) startS i).keys ∧ nx = (tourN (succS l syms) startS i).next ∧ i ≤ ks.length ∧ fs = (ks.take i).map (finalK l) ∧ ks.length ≤ 1256) ∧ Hid (RefW lstS wB wr wB.heap.size (.slice aoS n cS) vS vN vF (.slice none 0 0) us rs ks nx fs []))
 case atStart => exact ⟨0, _, _, [startS], [], [], _, _, rfl, Nat.zero_le _, rfl, hid ⟨rfl, rfl, Nat.zero_le _, rfl, by decide⟩, hid (RefW.start (φ := lstS) (p := startS) (A := #[.int .i64 (-1)]) (n := 1) wB _ rfl rfl rfl (by decide))⟩
 case round =>
  obtain ⟨i, us, rs, ks, nx, fs, vN, vF, rfl, hi, rfl, HT, HF⟩ := hrel
  obtain ⟨aoU, cU, rfl, hfU⟩ := (OwnR.read HF.out.seen.own (fun _ => rfl)).form
  obtain ⟨aoN', cN', rfl, -⟩ := (OwnR.read HF.out.rows.own (fun _ => rfl)).form
  obtain ⟨aoF', cF', rfl, -⟩ := (OwnR.read HF.out.fins (fun _ => rfl)).form
  have hlu : us.length = ks.length := HF.out.seen.len
  have hkl := HT.out.2.2.2.2
  have hik := HT.out.2.2.1
  obtain ⟨nk, hnk⟩ : ∃ n, n = ks.length := ⟨_, rfl⟩
  rw [← hnk] at hlu hkl hik
  have hnr : rs.length = i := by
   have h1 := HF.out.rows.len
   rw [h1, HT.out.2.1]
   exact tourN_next_len (succS l syms) startS i (by rw [← HT.out.1, ← hnk]; exact hik)
  have hnf : fs.length = i := by
   rw [HT.out.2.2.2.1, List.length_map, List.length_take, ← hnk]; omega
  rw [hlu, hnr, hnf] at HF
  rw [hlu] at hfU ⊢
  have HNK := hid hnk
  have HLU := hid hlu
  have HFU := hid hfU
  have HNR := hid hnr
  have HNF := hid hnf
  have HEw := hid (HEB.out.trans (HF.out.ext.mono HEB.out.size))
  have HRw := hid (HRB.out.ext HF.out.ext)
  clear hnk hlu hfU hnr hnf
  by_cases hlt : i < nk
  ·by_cases hle : nk ≤ 256
   ·have q1 : decide (i < nk) = true := decide_eq_true hlt
    have q2 : decide ((i : Int) < (nk : Int)) = true := decide_eq_true (by omega)
    have q5 : decide (nk ≤ 256) = true := decide_eq_true hle
    have q6 : decide ((nk : Int) ≤ (256 : Int)) = true := decide_eq_true (by omega)
    obtain ⟨u, hu⟩ : ∃ r, us[i]? = some r := ⟨_, List.getElem?_eq_getElem (by rw [HLU.out]; exact hlt)⟩
    obtain ⟨x, hx⟩ : ∃ r, ks[i]? = some r := ⟨_, List.getElem?_eq_getElem (by rw [← HNK.out]; exact hlt)⟩
    obtain ⟨aou, cu, rfl, -⟩ := (OwnR.read (HF.out.seen.key i u x hu hx) (fun _ => rfl)).form
    obtain ⟨nu, hnu⟩ : ∃ m, m = (lstS x).length := ⟨_, rfl⟩
    rw [← hnu] at hu
    have HXZ := hid (tour_okZ l syms i x (by rw [← HT.out.1]; exact List.mem_of_getElem? hx))
    have HX := hid hx
    have HU := hid hu
    have HNU := hid hnu
    have i2 : (0 : Int) ≤ (i : Int) := by omega
    clear hu hx hnu
    obtain ⟨w0, hw0⟩ : ∃ y, y = wr := ⟨_, rfl⟩
    subst hw0
    go_wp2_with fail
    go_loopg [7, 9, 10] n (fun gm vS vX u wr => ∃ (j : Nat) (us' : List Value) (ls : List Sta) (gs : List Nat), gm = n - j ∧ j ≤ n ∧ u = .int .i64 j ∧ Hid (ls = (visN i ⟨ks, (tourN (succS l syms) startS i).from_, []⟩ (succS l syms x) j).keys ∧ gs = (visN i ⟨ks, (tourN (succS l syms) startS i).from_, []⟩ (succS l syms x) j).goes ∧ ls[i]? = some x ∧ us'[i]? = some (.slice aou nu cu)) ∧ Hid (RefW lstS wB wr wB.heap.size (.slice aoS n cS) vS (.slice aoN' i cN') (.slice aoF' i cF') vX us' rs ls nx fs gs))
    case atStart => exact ⟨0, us, ks, [], rfl, Nat.zero_le _, rfl, hid ⟨rfl, rfl, HX.out, HU.out⟩, HF⟩
    case round =>
     obtain ⟨j, us', ls, gs, rfl, hj, rfl, HV2, HF2⟩ := hrel
     obtain ⟨aoU2, cU2, rfl, hfU2⟩ := (OwnR.read HF2.out.seen.own (fun _ => rfl)).form
     obtain ⟨aoX, cX, rfl, -⟩ := (OwnR.read HF2.out.now (fun _ => rfl)).form
     have hlu2 : us'.length = ls.length := HF2.out.seen.len
     have hgl : gs.length = j := by
      rw [HV2.out.2.1, visN_goes_len _ _ _ _ (by rw [fan_length, ← HYN.out]; exact hj)]
      simp
     obtain ⟨nl, hnl⟩ : ∃ n, n = ls.length := ⟨_, rfl⟩
     rw [← hnl] at hlu2
     rw [hlu2] at hfU2
     have hinl : i < nl := by rw [hnl]; exact (List.getElem?_eq_some_iff.1 HV2.out.2.2.1).1
     have hnl9 : nl ≤ 1256 + 1000 := by
      rw [hnl, HV2.out.1]
      have h1 := visN_len i ⟨ks, (tourN (succS l syms) startS i).from_, []⟩ (succS l syms x) j
      have h3 : (visN i ⟨ks, (tourN (succS l syms) startS i).from_, []⟩ (succS l syms x) j).keys.length ≤ ks.length + j := h1
      have h2 := HNK.out
      omega
     obtain ⟨gU2, oU2, rfl⟩ := hfU2 (by omega)
     have c1 : wr.cell? ⟨gU2, oU2 + i, none⟩ = some (.slice aou nu cu) := by
      have h := OwnR.read HF2.out.seen.own (fun _ => rfl)
      exact h.cell1 HV2.out.2.2.2
     rw [hlu2, hgl] at HF2 ⊢
     have HNL := hid hnl
     have HLU2 := hid hlu2
     have HGL := hid hgl
     have i1 : (i : Int) < (nl : Int) := by omega
     clear hnl hlu2 hgl
     by_cases hjl : j < n
     ·have q3 : decide (j < n) = true := decide_eq_true hjl
      have q4 : decide ((j : Int) < (n : Int)) = true := decide_eq_true (by omega)
      obtain ⟨gY, oY, rfl⟩ := HYF.out (by omega)
      obtain ⟨s, hs⟩ : ∃ s, syms[j]? = some s := ⟨_, List.getElem?_eq_getElem (by rw [← HYN.out]; exact hjl)⟩
      have HSC : Hid (∀ w', Ext wB w' → w'.cell? ⟨gY, oY + j, none⟩ = some (.string s)) := hid fun w' e => (HY.out.ext (HEB.out.trans (e.mono HEB.out.size))).cell1 hs
      obtain ⟨y, hy⟩ : ∃ y, y = stepS l syms x j := ⟨_, rfl⟩
      have hvj : (succS l syms x)[j]? = some y := by
       rw [fan_get _ _ (by rw [← HYN.out]; exact hjl), hy]
      have hvs := visN_succ (r := i) (s := ⟨ks, (tourN (succS l syms) startS i).from_, []⟩) hvj
      have HVS := hid hvs
      have HS := hid hs
      have HYY := hid hy
      have hyz : OkZ y := by rw [hy]; exact .inr rfl
      have HYZ := hid hyz
      have i5 : (j : Int) < (n : Int) := by omega
      have i6 : (0 : Int) ≤ (j : Int) := by omega
      have hzl : ∀ k ∈ ls, OkZ k := by
       rw [HV2.out.1]
       exact visN_univ i (s := ⟨ks, (tourN (succS l syms) startS i).from_, []⟩) (fun k hk => tour_okZ l syms i k (by rw [← HT.out.1]; exact hk)) (succS_okZ l syms x) j
      have hnd : ls.Nodup := by
       rw [HV2.out.1]
       refine visN_nodup ?_ _ _ _
       show ks.Nodup
       rw [HT.out.1]; exact tourN_nodup _ _ _
      have hvl : us'.length ≤ 1000000 := by rw [HLU2.out]; omega
      have HNM := hid (nodup_on (f := lstS) hnd fun a ha b hb e => lstS_inj (hzl a ha) (hzl b hb) e)
      have HIN := hid (fun (a : Sta) (ha : a ∈ ls) (e : lstS a = lstS y) => lstS_inj (hzl a ha) hyz e)
      have hln : gs.length + 1 ≤ 1000000000 := by rw [HGL.out]; omega
      clear hs hy hvj hvs hnd hzl hyz
      go_upto_region 11 with fail
      have hS0 : Ext wr wr.drew := ext_drew1 wr
      have hS1 : Ext wB wr.drew := HF2.out.ext.drew
      refine wp_region_heldL (fun w' => Ext wB w') (by kernel_rfl) ?_
      refine wpAnyH_takeN 0 16 (mk 17 1) rfl (by kernel_rfl) rfl (.slice (some ⟨gU2, oU2, none⟩) nl cU2) (fun _ _ _ h => h) (Or.inl ⟨rfl, fun w' hS => ?_⟩) hS1 (by simp only [Act.put, List.setIfInBounds_toArray, List.set_cons_succ, List.set_cons_zero]; rfl) ?_
      ·go_simp <;> with_reducible rfl
      refine wpAnyH_takeN 1 15 (mk 17 3) rfl (by kernel_rfl) rfl (.slice ao nl0 cap) (fun _ _ _ h => h) (Or.inl ⟨rfl, fun w' hS => ?_⟩) hS1 (by simp only [Act.put, List.setIfInBounds_toArray, List.set_cons_succ, List.set_cons_zero]; rfl) ?_
      ·go_simp <;> with_reducible rfl
      refine wpAnyH_takeN 2 14 (mk 17 7) rfl (by kernel_rfl) rfl (.slice (some ⟨gU2, oU2, none⟩) nl cU2) (fun _ _ _ h => h) (Or.inl ⟨rfl, fun w' hS => ?_⟩) hS1 (by simp only [Act.put, List.setIfInBounds_toArray, List.set_cons_succ, List.set_cons_zero]; rfl) ?_
      ·go_simp <;> with_reducible rfl
      refine wpAnyH_takeN 3 13 (mk 17 15) rfl (by kernel_rfl) rfl (.int .i64 i) (fun _ _ _ h => h) (Or.inl ⟨rfl, fun w' hS => ?_⟩) hS1 (by simp only [Act.put, List.setIfInBounds_toArray, List.set_cons_succ, List.set_cons_zero]; rfl) ?_
      ·go_simp <;> with_reducible rfl
      refine wpAnyH_takeN 4 12 (mk 17 31) rfl (by kernel_rfl) rfl (.pointer (some ⟨gU2, oU2 + i, none⟩)) (fun _ _ _ h => h) (Or.inl ⟨rfl, fun w' hS => ?_⟩) hS1 (by simp only [Act.put, List.setIfInBounds_toArray, List.set_cons_succ, List.set_cons_zero]; rfl) ?_
      ·go_simp <;> with_reducible rfl
      refine wpAnyH_takeN 6 11 (mk 17 95) rfl (by kernel_rfl) rfl (.slice (some ⟨gY, oY, none⟩) n cS) (fun _ _ _ h => h) (Or.inl ⟨rfl, fun w' hS => ?_⟩) hS1 (by simp only [Act.put, List.setIfInBounds_toArray, List.set_cons_succ, List.set_cons_zero]; rfl) ?_
      ·go_simp <;> with_reducible rfl
      refine wpAnyH_takeN 7 10 (mk 17 223) rfl (by kernel_rfl) rfl (.int .i64 j) (fun _ _ _ h => h) (Or.inl ⟨rfl, fun w' hS => ?_⟩) hS1 (by simp only [Act.put, List.setIfInBounds_toArray, List.set_cons_succ, List.set_cons_zero]; rfl) ?_
      ·go_simp <;> with_reducible rfl
      refine wpAnyH_takeN 8 9 (mk 17 479) rfl (by kernel_rfl) rfl (.pointer (some ⟨gY, oY + j, none⟩)) (fun _ _ _ h => h) (Or.inl ⟨rfl, fun w' hS => ?_⟩) hS1 (by simp only [Act.put, List.setIfInBounds_toArray, List.set_cons_succ, List.set_cons_zero]; rfl) ?_
      ·go_simp <;> with_reducible rfl
      refine wpAnyH_takeN 9 8 (mk 17 991) rfl (by kernel_rfl) rfl (.string s) (fun _ _ _ h => h) (Or.inl ⟨rfl, fun w' hS => ?_⟩) hS1 (by simp only [Act.put, List.setIfInBounds_toArray, List.set_cons_succ, List.set_cons_zero]; rfl) ?_
      ·have d0 := HSC.out w' hS
       go_simp <;> with_reducible rfl
      refine wpAnyH_one 5 7 (mk 17 1023) rfl (by kernel_rfl) rfl ?_
      have c2 : wr.drew.cell? ⟨gU2, oU2 + i, none⟩ = some (.slice aou nu cu) := c1
      go_wp2_with fail
      refine ⟨hS1, ?_⟩
      refine wpAnyH_one 10 6 (mk 17 2047) rfl (by kernel_rfl) rfl ?_
      have HRD : Hid (ReadR wr.drew 1 intZ (.slice aou nu cu) (lstS x)) := hid (by
       have h := OwnR.read (HF2.out.seen.key i _ x HV2.out.2.2.2 HV2.out.2.2.1) (fun _ => rfl)
       exact h)
      go_wp2_with fail
      refine (HGO.out _ (HEB.out.trans (hS1.mono HEB.out.size)) _ x j s HRD.out HXZ.out HS.out).mono ?_
      rintro e w2 ⟨aoy, ny, cy, rfl, hOy, hx⟩
      rw [← HYY.out] at hOy
      have HX2 := hid (hS0.trans (hx.mono hS0.size))
      have HF4 := hid (HF2.out.ext' HX2.out)
      have hS2 : Ext wB w2 := HF4.out.ext
      have HK2 : Hid (OwnR w2 wB.heap.size 3 1 intZ (.slice aoy ny cy) (lstS y)) := hid (OwnR.lower hOy hS1.size)
      have HNB := hid (number_any HF4.out.seen.own HF4.out.ext.size HF4.out.seen.keysR HNM.out (OwnR.read HK2.out (fun _ => rfl)) hvl (fun z hz => by
       obtain ⟨k, _, rfl⟩ := List.mem_map.1 hz
       have := lstS_len k
       omega))
      have HAP : Hid (Ap (.slice aoy ny cy) (.slice aoX j cX)) := hid fun k h1 h2 => by
       have h3 := (hOy.lt k h1).1
       have h4 := (HF2.out.now.lt k h2).2
       have h5 : wr.heap.size ≤ k := h3
       omega
      clear hOy hx
      go_wp2_with fail
      refine ⟨hS2, ?_⟩
      refine wpAnyH_one 11 5 (mk 17 4095) rfl (by kernel_rfl) rfl ?_
      go_wp2_with fail
      refine HNB.out.mono ?_
      rintro e w3 (⟨hin, rfl, hx⟩ | ⟨hnin, v', rfl, hO, hc, hold⟩)
      ·have hmem : y ∈ ls := by
        obtain ⟨k, hk, e⟩ := List.mem_map.1 hin
        rw [← HIN.out k hk e]; exact hk
       have HF5 := hid (HF4.out.ext' hx)
       have HNO := hid HF5.out.now
       have hsz : wB.heap.size ≤ w3.heap.size := HF5.out.ext.size
       obtain ⟨r, hr⟩ : ∃ q, q = idxK (ls.map lstS) (lstS y) := ⟨_, rfl⟩
       rw [← hr]
       have HQ : Hid (r = idxK ls y) := hid (hr.trans (idxOf_map_on (φ := lstS) ls y HIN.out))
       have HME := hid hmem
       have hS3 : Ext wB w3 := HF5.out.ext
       clear hin hx hmem hr
       go_wp2_with fail
       refine ⟨hS3, ?_⟩
       refine wpAnyH_takeN 12 4 (mk 17 8191) rfl (by kernel_rfl) rfl (.tuple #[.int .i64 r, .slice (some ⟨gU2, oU2, none⟩) nl cU2]) (fun _ _ _ h => h) (Or.inl ⟨rfl, fun w' hS => ?_⟩) hS3 (by simp only [Act.put, List.setIfInBounds_toArray, List.set_cons_succ, List.set_cons_zero]; rfl) ?_
       ·go_simp <;> with_reducible rfl
       refine wpAnyH_takeN 13 3 (mk 17 16383) rfl (by kernel_rfl) rfl (.int .i64 r) (fun _ _ _ h => h) (Or.inl ⟨rfl, fun w' hS => ?_⟩) hS3 (by simp only [Act.put, List.setIfInBounds_toArray, List.set_cons_succ, List.set_cons_zero]; rfl) ?_
       ·go_simp <;> with_reducible rfl
       refine wpAnyH_takeN 14 2 (mk 17 32767) rfl (by kernel_rfl) rfl (.slice (some ⟨gU2, oU2, none⟩) nl cU2) (fun _ _ _ h => h) (Or.inl ⟨rfl, fun w' hS => ?_⟩) hS3 (by simp only [Act.put, List.setIfInBounds_toArray, List.set_cons_succ, List.set_cons_zero]; rfl) ?_
       ·go_simp <;> with_reducible rfl
       refine wpAnyH_one 15 1 (mk 17 65535) rfl (by kernel_rfl) rfl ?_
       go_wp2_with fail
       refine ⟨hS3, ?_⟩
       refine wpAnyH_one 16 0 (mk 17 131071) rfl (by kernel_rfl) rfl ?_
       go_wp2_with fail
       refine ⟨hS3, ?_⟩
       refine wpAnyH_end (P := Tryz.prog) (by kernel_rfl) ?_
       go_wp2_with (with_reducible refine onOp 51 ?_
                    go_loud (refine wpList_append_R elem_int (fun _ => rfl) ones_int HNO hsz hln r _ rfl w3.heap.size rfl rfl _ _ rfl rfl rfl ?_)
                    rintro g6 c6 v6 w6 rfl G1 G2)
       go_roundg (n - (j + 1))
       case measure => omega
       case rel =>
        have c6 := (Chg.refl (fun k => (Value.slice aoX j cX).ownBlock = some k) w3).grown G2.out.1 (fun k e => e)
        refine ⟨j + 1, us', ls, gs ++ [r], rfl, by omega, by go_num, hid ?_, hid (HF5.out.put G1.out c6 (fun r hr => by
         cases hr
         exact G2.out.2))⟩
        rw [HVS.out]
        unfold vis1
        rw [← HV2.out.1, if_pos HME.out]
        exact ⟨rfl, by rw [HQ.out, HV2.out.2.1]; rfl, HV2.out.2.2.1, HV2.out.2.2.2⟩
      ·have hmem : y ∉ ls := fun h => hnin (List.mem_map.2 ⟨y, h, rfl⟩)
       have hlv : (us' ++ [Value.slice aoy ny cy]).length = nl + 1 := by rw [List.length_append, HLU2.out]; rfl
       have hkl2 : (ls.map lstS).length = nl := by rw [List.length_map, HNL.out]
       rw [hkl2]
       obtain ⟨aV, cV, rfl, -⟩ := (OwnR.read hO (fun _ => rfl)).form
       rw [hlv] at hO hold ⊢
       have HF5 := hid (HF4.out.new hO hc hold HK2.out HAP.out)
       have HNO := hid HF5.out.now
       have hsz : wB.heap.size ≤ w3.heap.size := HF5.out.ext.size
       have HME := hid hmem
       have hil : i < ls.length := (List.getElem?_eq_some_iff.1 HV2.out.2.2.1).1
       have HI1 : Hid ((ls ++ [y])[i]? = some x) := hid (by rw [List.getElem?_append_left hil]; exact HV2.out.2.2.1)
       have HI2 : Hid ((us' ++ [Value.slice aoy ny cy])[i]? = some (.slice aou nu cu)) := hid (by rw [List.getElem?_append_left (by rw [HLU2.out, HNL.out]; exact hil)]; exact HV2.out.2.2.2)
       have hS3 : Ext wB w3 := HF5.out.ext
       clear hmem hO hc hold hnin hil
       go_wp2_with fail
       refine ⟨hS3, ?_⟩
       refine wpAnyH_takeN 12 4 (mk 17 8191) rfl (by kernel_rfl) rfl (.tuple #[.int .i64 nl, .slice aV (nl + 1) cV]) (fun _ _ _ h => h) (Or.inl ⟨rfl, fun w' hS => ?_⟩) hS3 (by simp only [Act.put, List.setIfInBounds_toArray, List.set_cons_succ, List.set_cons_zero]; rfl) ?_
       ·go_simp <;> with_reducible rfl
       refine wpAnyH_takeN 13 3 (mk 17 16383) rfl (by kernel_rfl) rfl (.int .i64 nl) (fun _ _ _ h => h) (Or.inl ⟨rfl, fun w' hS => ?_⟩) hS3 (by simp only [Act.put, List.setIfInBounds_toArray, List.set_cons_succ, List.set_cons_zero]; rfl) ?_
       ·go_simp <;> with_reducible rfl
       refine wpAnyH_takeN 14 2 (mk 17 32767) rfl (by kernel_rfl) rfl (.slice aV (nl + 1) cV) (fun _ _ _ h => h) (Or.inl ⟨rfl, fun w' hS => ?_⟩) hS3 (by simp only [Act.put, List.setIfInBounds_toArray, List.set_cons_succ, List.set_cons_zero]; rfl) ?_
       ·go_simp <;> with_reducible rfl
       refine wpAnyH_one 15 1 (mk 17 65535) rfl (by kernel_rfl) rfl ?_
       go_wp2_with fail
       refine ⟨hS3, ?_⟩
       refine wpAnyH_one 16 0 (mk 17 131071) rfl (by kernel_rfl) rfl ?_
       go_wp2_with fail
       refine ⟨hS3, ?_⟩
       refine wpAnyH_end (P := Tryz.prog) (by kernel_rfl) ?_
       go_wp2_with (with_reducible refine onOp 51 ?_
                    go_loud (refine wpList_append_R elem_int (fun _ => rfl) ones_int HNO hsz hln nl _ rfl w3.heap.size rfl rfl _ _ rfl rfl rfl ?_)
                    rintro g6 c6 v6 w6 rfl G1 G2)
       go_roundg (n - (j + 1))
       case measure => omega
       case rel =>
        have c6 := (Chg.refl (fun k => (Value.slice aoX j cX).ownBlock = some k) w3).grown G2.out.1 (fun k e => e)
        refine ⟨j + 1, _, ls ++ [y], gs ++ [nl], rfl, by omega, by go_num, hid ?_, hid (HF5.out.put G1.out c6 (fun r hr => by
         cases hr
         exact G2.out.2))⟩
        rw [HVS.out]
        unfold vis1
        rw [← HV2.out.1, if_neg HME.out]
        exact ⟨rfl, by rw [HNL.out, HV2.out.2.1], HI1.out, HI2.out⟩
     ·obtain rfl : n = j := by omega
      have q3 : decide (n < n) = false := decide_eq_false (by omega)
      have b1 : wr.cell? ⟨wB.heap.size, 1, none⟩ = some (.slice aoN' i cN') := HF2.out.box.cell (i := 1) rfl
      have lb := HF2.out.box.lt
      have fb := HF2.out.box.frozen
      have HRO := hid HF2.out.rows.own
      have hszr : wB.heap.size ≤ wr.heap.size := HF2.out.ext.size
      have hlnr : rs.length + 1 ≤ 1000000000 := by rw [HNR.out]; omega
      go_upto_region 14 with (with_reducible refine onOp 56 ?_
                              go_loud (refine wpList_append_R elem_row (fun _ => rfl) ones_row HRO hszr hlnr (.slice aoX n cX) _ rfl wr.heap.size rfl rfl _ _ rfl rfl rfl ?_)
                              rintro g6 c6 v6 w6 rfl G1 G2
                              have hc6 := (Chg.refl (fun k => (Value.slice aoN' i cN').ownBlock = some k) wr).grown G2.out.1 (fun k e => e)
                              have HP6 := hid (HF2.out.row1 G1.out hc6 (fun r hr => by
                               cases hr
                               exact G2.out.2))
                              have b6 : w6.cell? ⟨wB.heap.size, 1, none⟩ = some (.slice aoN' i cN') := HP6.out.1.2.cell (i := 1) rfl
                              have lb6 := HP6.out.1.2.lt
                              have fb6 := HP6.out.1.2.frozen
                              clear hc6)
      obtain ⟨wy, hwy⟩ : ∃ y, y = w6.setCell ⟨wB.heap.size, 1, none⟩ (.slice (some ⟨g6, 0, none⟩) (rs.length + 1) c6) := ⟨_, rfl⟩
      have HF6 := hid HP6.out.2
      rw [← hwy] at HF6 ⊢
      clear hwy HP6 b6 lb6 fb6 G1 G2 HRO b1 lb fb c1
      have hlnf : fs.length + 1 ≤ 1000000000 := by rw [HNF.out]; omega
      have HSU : Hid (∀ (W : World) (v7 : Value), SeenK lstS W wB.heap.size (.slice (some ⟨gU2, oU2, none⟩) nl cU2) us' ls → W.cell? ⟨gU2, oU2 + i, none⟩ = some (.slice aou nu cu)) := hid fun W _ h => by
       have hr := OwnR.read h.own (fun _ => rfl)
       rw [← HLU2.out] at hr
       exact hr.cell1 HV2.out.2.2.2
      have hS0 : Ext wB wy.drew ∧ wy.drew.cell? ⟨gU2, oU2 + i, none⟩ = some (.slice aou nu cu) := ⟨HF6.out.ext.drew, HSU.out wy (.bool true) HF6.out.seen⟩
      obtain ⟨bF, hbF⟩ : ∃ b, b = finalK l x := ⟨_, rfl⟩
      have HBF := hid hbF
      clear hbF
      refine wp_region_heldL (fun w' => Ext wB w' ∧ w'.cell? ⟨gU2, oU2 + i, none⟩ = some (.slice aou nu cu)) (by kernel_rfl) ?_
      refine wpAnyH_takeN 0 11 (mk 12 1) rfl (by kernel_rfl) rfl (.pointer (some ⟨wB.heap.size, 2, none⟩)) (fun _ _ _ h => h) (Or.inl ⟨rfl, fun w' hS => ?_⟩) hS0 (by simp only [Act.put, List.setIfInBounds_toArray, List.set_cons_succ, List.set_cons_zero]; rfl) ?_
      ·go_simp <;> with_reducible rfl
      refine wpAnyH_takeN 2 10 (mk 12 5) rfl (by kernel_rfl) rfl (.slice ao nl0 cap) (fun _ _ _ h => h) (Or.inl ⟨rfl, fun w' hS => ?_⟩) hS0 (by simp only [Act.put, List.setIfInBounds_toArray, List.set_cons_succ, List.set_cons_zero]; rfl) ?_
      ·go_simp <;> with_reducible rfl
      refine wpAnyH_takeN 3 9 (mk 12 13) rfl (by kernel_rfl) rfl (.slice (some ⟨gU2, oU2, none⟩) nl cU2) (fun _ _ _ h => h) (Or.inl ⟨rfl, fun w' hS => ?_⟩) hS0 (by simp only [Act.put, List.setIfInBounds_toArray, List.set_cons_succ, List.set_cons_zero]; rfl) ?_
      ·go_simp <;> with_reducible rfl
      refine wpAnyH_takeN 4 8 (mk 12 29) rfl (by kernel_rfl) rfl (.int .i64 i) (fun _ _ _ h => h) (Or.inl ⟨rfl, fun w' hS => ?_⟩) hS0 (by simp only [Act.put, List.setIfInBounds_toArray, List.set_cons_succ, List.set_cons_zero]; rfl) ?_
      ·go_simp <;> with_reducible rfl
      refine wpAnyH_takeN 5 7 (mk 12 61) rfl (by kernel_rfl) rfl (.pointer (some ⟨gU2, oU2 + i, none⟩)) (fun _ _ _ h => h) (Or.inl ⟨rfl, fun w' hS => ?_⟩) hS0 (by simp only [Act.put, List.setIfInBounds_toArray, List.set_cons_succ, List.set_cons_zero]; rfl) ?_
      ·go_simp <;> with_reducible rfl
      refine wpAnyH_takeN 6 6 (mk 12 125) rfl (by kernel_rfl) rfl (.slice aou nu cu) (fun _ _ _ h => h) (Or.inl ⟨rfl, fun w' hS => ?_⟩) hS0 (by simp only [Act.put, List.setIfInBounds_toArray, List.set_cons_succ, List.set_cons_zero]; rfl) ?_
      ·have d0 := hS.2
       go_simp <;> with_reducible rfl
      have HFD := hid (HF6.out.ext' (ext_drew1 wy))
      refine wpAnyH_two 1 7 5 (mk 12 127) (mk 12 253) rfl rfl (by kernel_rfl) rfl ?_ ?_
      ·have e2 : wy.drew.cell? ⟨wB.heap.size, 2, none⟩ = some (.slice aoF' i cF') := HFD.out.box.cell (i := 2) rfl
       go_wp2_with fail
       refine ⟨hS0, ?_⟩
       refine wpAnyH_one 7 4 (mk 12 255) rfl (by kernel_rfl) rfl ?_
       have HRD : Hid (ReadR wy.drew 1 intZ (.slice aou nu cu) (lstS x)) := hid (OwnR.read (HFD.out.seen.key i _ x HV2.out.2.2.2 HV2.out.2.2.1) (fun _ => rfl))
       go_wp2_with fail
       refine (HFI.out _ (HEB.out.trans (hS0.1.mono HEB.out.size)) _ x HRD.out HXZ.out).mono ?_
       rw [← HBF.out]
       rintro e w2 ⟨rfl, hx⟩
       have HF7 := hid (HFD.out.ext' hx)
       have hSc : Ext wB w2 ∧ w2.cell? ⟨gU2, oU2 + i, none⟩ = some (.slice aou nu cu) := ⟨HF7.out.ext, HSU.out w2 (.bool true) HF7.out.seen⟩
       clear hx
       go_wp2_with fail
       refine ⟨hSc, ?_⟩
       refine wpAnyH_one 8 3 (mk 12 511) rfl (by kernel_rfl) rfl ?_
       go_wp2_with fail
       have HF8 := hid (HF7.out.ext' ((Below.refl w2.heap.size w2).alloc (Nat.le_refl _) (.cells #[.bool bF] 4)))
       have hSb : Ext wB (w2.alloc (.cells #[.bool bF] 4)) ∧ (w2.alloc (.cells #[.bool bF] 4)).cell? ⟨gU2, oU2 + i, none⟩ = some (.slice aou nu cu) := ⟨HF8.out.ext, HSU.out _ (.bool true) HF8.out.seen⟩
       refine ⟨hSb, ?_⟩
       refine wpAnyH_one 9 2 (mk 12 1023) rfl (by kernel_rfl) rfl ?_
       have HFOW : Hid (OwnR w2 wB.heap.size 4 1 boolC (.slice aoF' i cF') fs) := hid HF7.out.fins
       have hszf : wB.heap.size ≤ w2.heap.size := HF7.out.ext.size
       go_wp2_with (with_reducible refine onOp 67 ?_
                    go_loud (refine wpList_append_R elem_bool (fun _ => rfl) ones_bool HFOW hszf hlnf bF _ rfl w2.heap.size rfl rfl _ _ rfl rfl rfl ?_)
                    rintro g7 c7 v7 w7 rfl G3 G4)
       have c7' := (Chg.refl (fun k => (Value.slice aoF' i cF').ownBlock = some k) w2).grown G4.out.1 (fun k e => e)
       have HP7 := hid (HF7.out.row2 G3.out c7')
       have hS7 : Ext wB w7 ∧ w7.cell? ⟨gU2, oU2 + i, none⟩ = some (.slice aou nu cu) := ⟨HP7.out.1.1, HSU.out w7 (.bool true) (HF7.out.seenF c7')⟩
       refine ⟨hS7, ?_⟩
       have e7 : w7.cell? ⟨wB.heap.size, 2, none⟩ = some (.slice aoF' i cF') := HP7.out.1.2.cell (i := 2) rfl
       have l7 := HP7.out.1.2.lt
       have f7 := HP7.out.1.2.frozen
       refine wpAnyH_one 10 1 (mk 12 2047) rfl (by kernel_rfl) rfl ?_
       go_wp2_with fail
       refine ⟨hS7, ?_⟩
       refine wpAnyH_one 11 0 (mk 12 4095) rfl (by kernel_rfl) rfl ?_
       go_wp2_with fail
       refine ⟨⟨HP7.out.2.ext, HSU.out _ (.bool true) HP7.out.2.seen⟩, ?_⟩
       refine wpAnyH_end (P := Tryz.prog) (by kernel_rfl) ?_
       go_wp2_with fail
       go_roundg (257 - (i + 1))
       case measure => omega
       case rel =>
        have hsu := tourN_succ (succ := succS l syms) (first := startS) (i := i) (k := x) (by rw [← HT.out.1]; exact HX.out)
        have hlen : (succS l syms x).length = n := by rw [fan_length]; exact HYN.out.symm
        have hpre : ks <+: ls := by rw [HV2.out.1]; exact visN_pre i ⟨ks, _, []⟩ _ n
        have e1 : ls = (tourN (succS l syms) startS (i + 1)).keys ∧ nx ++ [gs] = (tourN (succS l syms) startS (i + 1)).next := by
         rw [hsu]
         unfold rowOf
         rw [hlen, ← HT.out.1, ← HT.out.2.1, ← HV2.out.1, ← HV2.out.2.1]
         exact ⟨rfl, rfl⟩
        have hil : i < ks.length := by rw [← HNK.out]; exact hlt
        have hls : ls.length ≤ 1256 := by
         rw [HV2.out.1]
         have h1 := visN_len i ⟨ks, (tourN (succS l syms) startS i).from_, []⟩ (succS l syms x) n
         have h3 : (visN i ⟨ks, (tourN (succS l syms) startS i).from_, []⟩ (succS l syms x) n).keys.length ≤ ks.length + n := h1
         have h2 := HNK.out
         omega
        refine ⟨i + 1, us', _, ls, nx ++ [gs], fs ++ [bF], _, _, rfl, by omega, by go_num, hid ⟨e1.1, e1.2, by have := hpre.length_le; omega, ?_, hls⟩, hid HP7.out.2⟩
        obtain ⟨t, ht⟩ := hpre
        rw [← ht, List.take_append_of_le_length (by omega), takeMap_snoc (finalK l) HX.out, ← HT.out.2.2.2.1, HBF.out]
      ·have HRD : Hid (ReadR wy.drew 1 intZ (.slice aou nu cu) (lstS x)) := hid (OwnR.read (HFD.out.seen.key i _ x HV2.out.2.2.2 HV2.out.2.2.1) (fun _ => rfl))
       go_wp2_with fail
       refine (HFI.out _ (HEB.out.trans (hS0.1.mono HEB.out.size)) _ x HRD.out HXZ.out).mono ?_
       rw [← HBF.out]
       rintro e w2 ⟨rfl, hx⟩
       have HF7 := hid (HFD.out.ext' hx)
       have hSc : Ext wB w2 ∧ w2.cell? ⟨gU2, oU2 + i, none⟩ = some (.slice aou nu cu) := ⟨HF7.out.ext, HSU.out w2 (.bool true) HF7.out.seen⟩
       clear hx
       go_wp2_with fail
       refine ⟨hSc, ?_⟩
       refine wpAnyH_two 1 8 4 (mk 12 255) (mk 12 509) rfl rfl (by kernel_rfl) rfl ?_ ?_
       ·have e2 : w2.cell? ⟨wB.heap.size, 2, none⟩ = some (.slice aoF' i cF') := HF7.out.box.cell (i := 2) rfl
        go_wp2_with fail
        refine ⟨hSc, ?_⟩
        refine wpAnyH_one 8 3 (mk 12 511) rfl (by kernel_rfl) rfl ?_
        go_wp2_with fail
        have HF8 := hid (HF7.out.ext' ((Below.refl w2.heap.size w2).alloc (Nat.le_refl _) (.cells #[.bool bF] 4)))
        have hSb : Ext wB (w2.alloc (.cells #[.bool bF] 4)) ∧ (w2.alloc (.cells #[.bool bF] 4)).cell? ⟨gU2, oU2 + i, none⟩ = some (.slice aou nu cu) := ⟨HF8.out.ext, HSU.out _ (.bool true) HF8.out.seen⟩
        refine ⟨hSb, ?_⟩
        refine wpAnyH_one 9 2 (mk 12 1023) rfl (by kernel_rfl) rfl ?_
        have HFOW : Hid (OwnR w2 wB.heap.size 4 1 boolC (.slice aoF' i cF') fs) := hid HF7.out.fins
        have hszf : wB.heap.size ≤ w2.heap.size := HF7.out.ext.size
        go_wp2_with (with_reducible refine onOp 67 ?_
                     go_loud (refine wpList_append_R elem_bool (fun _ => rfl) ones_bool HFOW hszf hlnf bF _ rfl w2.heap.size rfl rfl _ _ rfl rfl rfl ?_)
                     rintro g7 c7 v7 w7 rfl G3 G4)
        have c7' := (Chg.refl (fun k => (Value.slice aoF' i cF').ownBlock = some k) w2).grown G4.out.1 (fun k e => e)
        have HP7 := hid (HF7.out.row2 G3.out c7')
        have hS7 : Ext wB w7 ∧ w7.cell? ⟨gU2, oU2 + i, none⟩ = some (.slice aou nu cu) := ⟨HP7.out.1.1, HSU.out w7 (.bool true) (HF7.out.seenF c7')⟩
        refine ⟨hS7, ?_⟩
        have e7 : w7.cell? ⟨wB.heap.size, 2, none⟩ = some (.slice aoF' i cF') := HP7.out.1.2.cell (i := 2) rfl
        have l7 := HP7.out.1.2.lt
        have f7 := HP7.out.1.2.frozen
        refine wpAnyH_one 10 1 (mk 12 2047) rfl (by kernel_rfl) rfl ?_
        go_wp2_with fail
        refine ⟨hS7, ?_⟩
        refine wpAnyH_one 11 0 (mk 12 4095) rfl (by kernel_rfl) rfl ?_
        go_wp2_with fail
        refine ⟨⟨HP7.out.2.ext, HSU.out _ (.bool true) HP7.out.2.seen⟩, ?_⟩
        refine wpAnyH_end (P := Tryz.prog) (by kernel_rfl) ?_
        go_wp2_with fail
        go_roundg (257 - (i + 1))
        case measure => omega
        case rel =>
         have hsu := tourN_succ (succ := succS l syms) (first := startS) (i := i) (k := x) (by rw [← HT.out.1]; exact HX.out)
         have hlen : (succS l syms x).length = n := by rw [fan_length]; exact HYN.out.symm
         have hpre : ks <+: ls := by rw [HV2.out.1]; exact visN_pre i ⟨ks, _, []⟩ _ n
         have e1 : ls = (tourN (succS l syms) startS (i + 1)).keys ∧ nx ++ [gs] = (tourN (succS l syms) startS (i + 1)).next := by
          rw [hsu]
          unfold rowOf
          rw [hlen, ← HT.out.1, ← HT.out.2.1, ← HV2.out.1, ← HV2.out.2.1]
          exact ⟨rfl, rfl⟩
         have hil : i < ks.length := by rw [← HNK.out]; exact hlt
         have hls : ls.length ≤ 1256 := by
          rw [HV2.out.1]
          have h1 := visN_len i ⟨ks, (tourN (succS l syms) startS i).from_, []⟩ (succS l syms x) n
          have h3 : (visN i ⟨ks, (tourN (succS l syms) startS i).from_, []⟩ (succS l syms x) n).keys.length ≤ ks.length + n := h1
          have h2 := HNK.out
          omega
         refine ⟨i + 1, us', _, ls, nx ++ [gs], fs ++ [bF], _, _, rfl, by omega, by go_num, hid ⟨e1.1, e1.2, by have := hpre.length_le; omega, ?_, hls⟩, hid HP7.out.2⟩
         obtain ⟨t, ht⟩ := hpre
         rw [← ht, List.take_append_of_le_length (by omega), takeMap_snoc (finalK l) HX.out, ← HT.out.2.2.2.1, HBF.out]
       ·go_wp2_with fail
        have HF8 := hid (HF7.out.ext' ((Below.refl w2.heap.size w2).alloc (Nat.le_refl _) (.cells #[.bool bF] 4)))
        have hSb : Ext wB (w2.alloc (.cells #[.bool bF] 4)) ∧ (w2.alloc (.cells #[.bool bF] 4)).cell? ⟨gU2, oU2 + i, none⟩ = some (.slice aou nu cu) := ⟨HF8.out.ext, HSU.out _ (.bool true) HF8.out.seen⟩
        refine ⟨hSb, ?_⟩
        refine wpAnyH_one 1 3 (mk 12 511) rfl (by kernel_rfl) rfl ?_
        have e2 : (w2.alloc (.cells #[.bool bF] 4)).cell? ⟨wB.heap.size, 2, none⟩ = some (.slice aoF' i cF') := HF8.out.box.cell (i := 2) rfl
        go_wp2_with fail
        refine ⟨hSb, ?_⟩
        refine wpAnyH_one 9 2 (mk 12 1023) rfl (by kernel_rfl) rfl ?_
        have HFOW : Hid (OwnR w2 wB.heap.size 4 1 boolC (.slice aoF' i cF') fs) := hid HF7.out.fins
        have hszf : wB.heap.size ≤ w2.heap.size := HF7.out.ext.size
        go_wp2_with (with_reducible refine onOp 67 ?_
                     go_loud (refine wpList_append_R elem_bool (fun _ => rfl) ones_bool HFOW hszf hlnf bF _ rfl w2.heap.size rfl rfl _ _ rfl rfl rfl ?_)
                     rintro g7 c7 v7 w7 rfl G3 G4)
        have c7' := (Chg.refl (fun k => (Value.slice aoF' i cF').ownBlock = some k) w2).grown G4.out.1 (fun k e => e)
        have HP7 := hid (HF7.out.row2 G3.out c7')
        have hS7 : Ext wB w7 ∧ w7.cell? ⟨gU2, oU2 + i, none⟩ = some (.slice aou nu cu) := ⟨HP7.out.1.1, HSU.out w7 (.bool true) (HF7.out.seenF c7')⟩
        refine ⟨hS7, ?_⟩
        have e7 : w7.cell? ⟨wB.heap.size, 2, none⟩ = some (.slice aoF' i cF') := HP7.out.1.2.cell (i := 2) rfl
        have l7 := HP7.out.1.2.lt
        have f7 := HP7.out.1.2.frozen
        refine wpAnyH_one 10 1 (mk 12 2047) rfl (by kernel_rfl) rfl ?_
        go_wp2_with fail
        refine ⟨hS7, ?_⟩
        refine wpAnyH_one 11 0 (mk 12 4095) rfl (by kernel_rfl) rfl ?_
        go_wp2_with fail
        refine ⟨⟨HP7.out.2.ext, HSU.out _ (.bool true) HP7.out.2.seen⟩, ?_⟩
        refine wpAnyH_end (P := Tryz.prog) (by kernel_rfl) ?_
        go_wp2_with fail
        go_roundg (257 - (i + 1))
        case measure => omega
        case rel =>
         have hsu := tourN_succ (succ := succS l syms) (first := startS) (i := i) (k := x) (by rw [← HT.out.1]; exact HX.out)
         have hlen : (succS l syms x).length = n := by rw [fan_length]; exact HYN.out.symm
         have hpre : ks <+: ls := by rw [HV2.out.1]; exact visN_pre i ⟨ks, _, []⟩ _ n
         have e1 : ls = (tourN (succS l syms) startS (i + 1)).keys ∧ nx ++ [gs] = (tourN (succS l syms) startS (i + 1)).next := by
          rw [hsu]
          unfold rowOf
          rw [hlen, ← HT.out.1, ← HT.out.2.1, ← HV2.out.1, ← HV2.out.2.1]
          exact ⟨rfl, rfl⟩
         have hil : i < ks.length := by rw [← HNK.out]; exact hlt
         have hls : ls.length ≤ 1256 := by
          rw [HV2.out.1]
          have h1 := visN_len i ⟨ks, (tourN (succS l syms) startS i).from_, []⟩ (succS l syms x) n
          have h3 : (visN i ⟨ks, (tourN (succS l syms) startS i).from_, []⟩ (succS l syms x) n).keys.length ≤ ks.length + n := h1
          have h2 := HNK.out
          omega
         refine ⟨i + 1, us', _, ls, nx ++ [gs], fs ++ [bF], _, _, rfl, by omega, by go_num, hid ⟨e1.1, e1.2, by have := hpre.length_le; omega, ?_, hls⟩, hid HP7.out.2⟩
         obtain ⟨t, ht⟩ := hpre
         rw [← ht, List.take_append_of_le_length (by omega), takeMap_snoc (finalK l) HX.out, ← HT.out.2.2.2.1, HBF.out]
   ·have q1 : decide (i < nk) = true := decide_eq_true hlt
    have q2 : decide ((i : Int) < (nk : Int)) = true := decide_eq_true (by omega)
    have q5 : decide (nk ≤ 256) = false := decide_eq_false hle
    have q6 : decide ((nk : Int) ≤ (256 : Int)) = false := decide_eq_false (by omega)
    have b0 : wr.cell? ⟨wB.heap.size, 0, none⟩ = some (.slice aoS n cS) := HF.out.box.cell (i := 0) rfl
    have b1 : wr.cell? ⟨wB.heap.size, 1, none⟩ = some (.slice aoN' i cN') := HF.out.box.cell (i := 1) rfl
    have b2 : wr.cell? ⟨wB.heap.size, 2, none⟩ = some (.slice aoF' i cF') := HF.out.box.cell (i := 2) rfl
    have lb := HF.out.box.lt
    have r0 : wr.cell? ⟨w.heap.size, 0, none⟩ = some (.slice none 0 0) := HRw.out.cell (i := 0) rfl
    have r1 : wr.cell? ⟨w.heap.size, 1, none⟩ = some (.slice none 0 0) := HRw.out.cell (i := 1) rfl
    have r2 : wr.cell? ⟨w.heap.size, 2, none⟩ = some (.slice none 0 0) := HRw.out.cell (i := 2) rfl
    have lr := HRw.out.lt
    have fr := HRw.out.frozen
    go_wp2_with fail
    refine bodyPost_ret (v := .tuple #[.agg #[.slice aoS n cS, .slice aoN' i cN', .slice aoF' i cF'], .bool false]) (results_cell_agg_tmp Tryz.results32 _ _ w.heap.size 40 #[.slice aoS n cS, .slice aoN' i cN', .slice aoF' i cF'] _ _ rfl rfl (blk3 HRw.out _ _ _) Tryz.underlying40 rfl (by kernel_rfl)) rfl ?_
    have hX : Ext w (set3 wr w.heap.size (.slice aoS n cS) (.slice aoN' i cN') (.slice aoF' i cF')) := ext3 HEw.out (Nat.le_refl _) _ _ _
    exact ⟨hX, _, _, _, _, _, _, _, _, _, _, rfl, .inr ⟨rfl, i, by rw [← HT.out.1, ← HNK.out]; omega⟩⟩
  ·obtain rfl : nk = i := by omega
   have q1 : decide (nk < nk) = false := decide_eq_false (by omega)
   have q5 : decide (nk ≤ 256) = true := decide_eq_true hi
   have q6 : decide ((nk : Int) ≤ (256 : Int)) = true := decide_eq_true (by omega)
   have b0 : wr.cell? ⟨wB.heap.size, 0, none⟩ = some (.slice aoS n cS) := HF.out.box.cell (i := 0) rfl
   have b1 : wr.cell? ⟨wB.heap.size, 1, none⟩ = some (.slice aoN' nk cN') := HF.out.box.cell (i := 1) rfl
   have b2 : wr.cell? ⟨wB.heap.size, 2, none⟩ = some (.slice aoF' nk cF') := HF.out.box.cell (i := 2) rfl
   have lb := HF.out.box.lt
   have r0 : wr.cell? ⟨w.heap.size, 0, none⟩ = some (.slice none 0 0) := HRw.out.cell (i := 0) rfl
   have r1 : wr.cell? ⟨w.heap.size, 1, none⟩ = some (.slice none 0 0) := HRw.out.cell (i := 1) rfl
   have r2 : wr.cell? ⟨w.heap.size, 2, none⟩ = some (.slice none 0 0) := HRw.out.cell (i := 2) rfl
   have lr := HRw.out.lt
   have fr := HRw.out.frozen
   go_wp2_with fail
   refine bodyPost_ret (v := .tuple #[.agg #[.slice aoS n cS, .slice aoN' nk cN', .slice aoF' nk cF'], .bool true]) (results_cell_agg_tmp Tryz.results32 _ _ w.heap.size 40 #[.slice aoS n cS, .slice aoN' nk cN', .slice aoF' nk cF'] _ _ rfl rfl (blk3 HRw.out _ _ _) Tryz.underlying40 rfl (by kernel_rfl)) rfl ?_
   have hX : Ext w (set3 wr w.heap.size (.slice aoS n cS) (.slice aoN' nk cN') (.slice aoF' nk cF')) := ext3 HEw.out (Nat.le_refl _) _ _ _
   have hfull : Full (succS l syms) startS nk := by
    show (tourN (succS l syms) startS nk).keys.length = nk
    rw [← HT.out.1]; exact HNK.out.symm
   have hd := HF.out.dfa (chg3 wr w.heap.size (.slice aoS n cS) (.slice aoN' nk cN') (.slice aoF' nk cF')) (show w.heap.size < wB.heap.size from HRB.out.lt) (syms := syms) (HY.out.ext hX)
   have e2 : fs = ks.map (finalK l) := by
    rw [HT.out.2.2.2.1, HNK.out, List.take_length]
   rw [e2, HT.out.2.1, HT.out.1] at hd
   exact ⟨hX, _, _, _, _, _, _, _, _, _, _, rfl, .inl ⟨rfl, nk, hfull, hi, _, _, _, rs, rfl, hd⟩⟩
end Go.Proofs.YtngpjagpeblbjaaGreatDoor
