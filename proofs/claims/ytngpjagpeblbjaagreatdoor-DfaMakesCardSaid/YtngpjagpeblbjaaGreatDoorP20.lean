/-
  Walk of the closure of Make that tells where a state goes.
  Regions in which one of two operations may come up; slices.Clone.
-/
import Derived.Test.YtngpjagpeblbjaaGreatDoorP19
namespace Go.Spy
open Go.RowKit
section
variable {P : Program}
theorem exec_load_cells {o : Oper} {a : Act} {w : World} (ty : TypeId) (x : Operand) (ho : o.op = .load ty x) (g off : Nat) (hx : a.eval x = .pointer (some ⟨g, off, none⟩)) (A : Array Value) (d : TypeDesc) (n : Nat) (hc : ∀ j, j < n → w.cell? ⟨g, off + j, none⟩ = A[j]?) (hA : A.size = n)
 (hu : P.underlying ty = some d) (hd : (match d with | .struct _ | .array _ _ => true | _ => false) = true) (hi : (P.info? ty).map (·.size) = some n) :
 (execOp a.eval o).run P w = .ok (.value (.agg A)) w := by
 unfold execOp
 simp only [ho, hx, Instr.loadAt, Instr.sureAddr, Sem.run_bind, Sem.run_pure, Result.andThen_ok, run_loadVar_cells w g off ty A d n hc hA hu hd hi]
theorem blk_cells {w : World} {g : Nat} {t : TypeId} {A : Array Value} {n : Nat} (h : Blk w g t A) (hA : A.size = n) : ∀ j, j < n → w.cell? ⟨g, 0 + j, none⟩ = A[j]? := fun j hj => by
 rw [Nat.zero_add, Array.getElem?_eq_getElem (by omega)]
 exact h.cell (Array.getElem?_eq_getElem (by omega))
end
end Go.Spy
namespace Go.Proofs.YtngpjagpeblbjaaGreatDoor
open Go.RowKit Go.Spy Go.Heaped Go.Tour Go.Rx
theorem staC_get0 (s : Sta) : (staC s)[0]? = some (.bool s.1) := by
 unfold staC
 rw [Array.getElem?_append_left (by simp)]; rfl
theorem staC_get (s : Sta) (j : Nat) : (staC s)[1 + j]? = (setV s.2.1)[j]? := by
 unfold staC
 rw [Array.getElem?_append_right (by simp)]
 simp
def GoesPost (_w0 wB : World) (l : List Nd) (bM : Nat) (syms : List ByteArray) (s : Sta) (w : World) (e : Ending) (w' : World) : Prop :=
 ∃ v, e = .returned v ∧ OwnR w' w.heap.size 112 17 staC v ((List.range syms.length).map (stepS l syms s)) ∧ MakeInv wB l bM w' ∧ Chg (· = bM) w w'
theorem ownI_R {w : World} {base : Nat} {v : Value} {l : List Nat} : OwnI w base v l ↔ OwnR w base 3 1 natA v l := by
 have e : (l.flatMap fun x => (natA x).toList) = l.map intC := by
  induction l with
  | nil => rfl
  | cons x l ih => rw [List.flatMap_cons, ih]; rfl
 unfold OwnI OwnR
 rw [e]
def partC (l : List Nd) (s : Sta) (j : Nat) : Nat := ((bitsL s.2.1).take j).foldl (fun m p => m ||| nextM l p) (if s.1 then firstM l else 0)
theorem partC_succ {l : List Nd} {s : Sta} {j p : Nat} (h : (bitsL s.2.1)[j]? = some p) : partC l s (j + 1) = partC l s j ||| nextM l p := by
 obtain ⟨h1, h2⟩ := List.getElem?_eq_some_iff.1 h
 unfold partC
 rw [List.take_succ_eq_append_getElem h1, List.foldl_append, h2]; rfl
theorem partC_all {l : List Nd} {s : Sta} {j : Nat} (h : (bitsL s.2.1).length ≤ j) : partC l s j = comeS l s := by
 unfold partC comeS
 rw [List.take_of_length_le h]
theorem partC_lt {l : List Nd} (F : Rx.Form l) (s : Sta) (j : Nat) : partC l s j < 2 ^ l.length := by
 refine comeS_fold_lt _ ?_
 split
 ·exact (firstM_lt F).1
 ·exact Nat.two_pow_pos _
structure RndW (wB w wx : World) (l : List Nd) (bM b7 : Nat) (vL : Value) (ps : List Nat) (part : Nat) : Prop where
 inv : MakeInv wB l bM wx
 chg : Chg (· = bM) w wx
 list : OwnR wx w.heap.size 3 1 natA vL ps
 come : Blk wx b7 105 (setV part)
theorem RndW.ext {w0 wB w wx wy : World} {l : List Nd} {ao : Option Addr} {cap : Nat} {syms : List ByteArray} {aoS : Option Addr} {cS bR bMp bM bSy bOf bO b7 : Nat} {vL : Value} {ps : List Nat} {part : Nat} (E : MakeEnv w0 wB l ao cap syms aoS cS bR bMp bM bSy bOf bO)
 (h : RndW wB w wx l bM b7 vL ps part) (e : Ext wx wy) : RndW wB w wy l bM b7 vL ps part := ⟨h.inv.of_ext E e, h.chg.ext e, h.list.ext e, h.come.ext e⟩
set_option maxRecDepth 100000 in
set_option maxHeartbeats 4000000 in
theorem make1_any {w0 wB w : World} {l : List Nd} {ao : Option Addr} {cap : Nat} {syms : List ByteArray} {aoS : Option Addr} {cS bR bMp bM bSy bOf bO : Nat} (E : MakeEnv w0 wB l ao cap syms aoS cS bR bMp bM bSy bOf bO) (I : MakeInv wB l bM w) (s : Sta) (hs : OkS l s) :
 Calls Tryz.prog 70 #[.agg (staC s), .pointer (some ⟨bR, 0, none⟩), .pointer (some ⟨bMp, 0, none⟩), .pointer (some ⟨bSy, 0, none⟩), .pointer (some ⟨bOf, 0, none⟩)] w (GoesPost w0 wB l bM syms s w) := by
 have HE := hid E
 have HI := hid I
 have HS := hid hs
 have hbM : bM < w.heap.size := Nat.lt_of_lt_of_le E.map.lt I.1.size
 have hl64 := E.len
 clear E I hs
 go_enter Tryz.func70, Tryz.ntmps70
 go_upto_region 2 with (first
  | (with_reducible refine onOp 5 ?_
     go_loud (refine wpList_box_agg rfl 112 (.tmp 0) rfl (staC s) rfl ?_)
     intro w1 hB1 hz1
     have HB1 := hid hB1.out
     have HZ1 := hid hz1
     clear hB1 hz1)
  | (with_reducible refine onOp 7 ?_
     go_loud (refine wpList_alloc_agg rfl 105 rfl _ zero105 ?_)
     intro w2 hB2 hz2
     have HB2 := hid hB2.out
     have HZ2 := hid hz2
     clear hB2 hz2))
 have s1 : w.heap.size < w1.heap.size := by have := HZ1.out; omega
 have s2 : w1.heap.size < w2.heap.size := by have := HZ2.out; omega
 have hX2 : Ext w w2 := HB1.out.2.trans (HB2.out.2.mono (by omega))
 have HX2 := hid hX2
 have HI2 := hid (HI.out.of_ext HE.out hX2)
 have HBS := hid (HB1.out.1.ext HB2.out.2)
 clear hX2
 have c5 : w2.cell? ⟨w.heap.size, 0, none⟩ = some (.bool s.1) := HBS.out.cell (staC_get0 s)
 obtain ⟨b, hb⟩ : ∃ b, b = s.1 := ⟨_, rfl⟩
 rw [← hb] at c5
 have HBB := hid hb
 have cR : w2.cell? ⟨bR, 0, none⟩ = some (.slice ao l.length cap) := (HE.out.at_ HI2.out).1.cell rfl
 have hbR := (HE.out.at_ HI2.out).1.lt
 clear hb
 go_upto_if 15 with fail
 go_cut [] from 8 (fun wx => Hid (MakeInv wB l bM wx ∧ Ext w wx ∧ Blk wx w.heap.size 112 (staC s) ∧ Blk wx w1.heap.size 105 (setV (if s.1 then firstM l else 0))))
 case first =>
  cases b with
  | false =>
    go_wp2_with fail
    go_meet
    exact hid ⟨HI2.out, HX2.out, HBS.out, by rw [← HBB.out]; exact HB2.out.1⟩
  | true =>
    have HFI := hid (first_any HE.out.form (HE.out.nodes.ext (MakeInv.ext HE.out HI2.out)) HE.out.names cap hl64 (HE.out.tab.ext (MakeInv.ext HE.out HI2.out)))
    go_wp2_with fail
    refine HFI.out.mono ?_
    rintro e w3 ⟨v, rfl, hO, hx⟩
    have HO := hid hO
    have HX3 := hid hx
    have HSE := hid (set_any (nats_of_owns hO) (by
     have := bitsL_len (firstM_lt HE.out.form).1
     unfold firstM at this
     omega) (fun p hp => by
     rw [mem_bitsL] at hp
     rcases Nat.lt_or_ge p 64 with e | e
     ·exact e
     ·exfalso
      have h2 : firstM l < 2 ^ p := Nat.lt_of_lt_of_le (firstM_lt HE.out.form).1 (Nat.pow_le_pow_right (by omega) (by omega))
      unfold firstM at h2
      rw [Nat.testBit_lt_two_pow h2] at hp; cases hp))
    clear hO hx
    go_wp2_with fail
    refine HSE.out.mono ?_
    rintro e w4 ⟨C, rfl, hC, hx4⟩
    rw [orL_bits] at hC
    have hX4 : Ext w2 w4 := HX3.out.trans (hx4.mono HX3.out.size)
    have HX4 := hid hX4
    have HB4 := hid (HB2.out.1.ext hX4)
    have HC := hid hC
    have sC : C.size = 16 := by rw [HC.out]; exact setV_size _
    have HOC : Hid (Ones C) := hid (by rw [HC.out]; exact ones_setV _)
    clear hx4 hX4 hC
    go_wp2_with (first
     | (with_reducible show wpList _ _ _ ((⟨_, Op.store _ (.tmp 7) _, _, _, _, _⟩ : Oper) :: _) _ _
        go_loud (refine wpList_store_agg rfl 105 (.tmp 7) (.tmp 18) rfl w1.heap.size 0 C rfl rfl 105 (setV 0) HB4.out (by rw [sC]; exact info105) (by rw [sC]; simp [setV_size]) HOC.out ?_)
        intro w5 hB5 hz5
        have HB5 := hid hB5.out
        have HZ5 := hid hz5
        clear hB5 hz5))
    go_meet
    have h5 := HB5.out.1
    rw [splice_all (by rw [sC]; simp [setV_size])] at h5
    have c1 : Chg (fun k => w.heap.size ≤ k) w4 w5 := HB5.out.2.mono fun k _ e => by omega
    have hX5 : Ext w w5 := (HX2.out.trans (HX4.out.mono HX2.out.size)).trans (c1.below (by have := HX4.out.size; omega) (fun k e => e))
    refine hid ⟨HI.out.of_ext HE.out hX5, hX5, (HBS.out.ext HX4.out).chg HB5.out.2 (by show ¬ _ = _; omega), ?_⟩
    rw [← HBB.out, if_pos rfl]
    rw [HC.out] at h5
    exact h5
 case rest =>
  obtain ⟨vL', hvL⟩ : ∃ v : Nat, v = 0 := ⟨_, rfl⟩
  clear hvL vL' c5 cR hbR
  have hm64 : s.2.1 < 18446744073709551616 := s.2.2
  have HL2 := hid (list2_any s.2.1 wc hm64 (HE.out.tab.ext (MakeInv.ext HE.out hcut.out.1)))
  go_upto_region 5 with (first
   | (with_reducible refine onOp 20 ?_
      go_loud (refine wpList_load_cells rfl 105 (.tmp 19) rfl w.heap.size 1 rfl (setV s.2.1) _ 16 (fun j hj => by
       rw [← staC_get]
       have h1 := hcut.out.2.2.1
       have hsz := staC_size s
       rw [Array.getElem?_eq_getElem (by omega)]
       exact h1.cell (Array.getElem?_eq_getElem (by omega))) (setV_size _) Tryz.underlying105 rfl info105 ?_))
   | (go_at_call 72
      go_loud (refine HL2.out.mono ?_)
      rintro e w3 ⟨vL, rfl, hO, hx⟩
      obtain ⟨aoL, cL, rfl, -⟩ := (OwnR.read (ownI_R.1 hO) (fun _ => rfl)).form
      have HO := hid ((ownI_R.1 hO).lower hcut.out.2.1.size)
      have HX3 := hid hx
      clear hO hx))
  obtain ⟨n, hn⟩ : ∃ n, n = (bitsL s.2.1).length := ⟨_, rfl⟩
  have hn64 : n ≤ 64 := by
   rw [hn]
   exact bitsL_len (Nat.lt_of_lt_of_le HS.out (Nat.pow_le_pow_right (by omega) hl64))
  rw [← hn] at HO ⊢
  have HN := hid hn
  clear hn
  have HR0 : Hid (RndW wB w w3 l bM w1.heap.size (.slice aoL n cL) (bitsL s.2.1) (partC l s 0)) :=
   hid ⟨hcut.out.1.of_ext HE.out HX3.out, (Chg.of_ext hcut.out.2.1).ext HX3.out, HO.out, hcut.out.2.2.2.ext HX3.out⟩
  clear hcut HO HX3
  go_loopg [23] n (fun g u wr => ∃ j, g = n - j ∧ j ≤ n ∧ u = .int .i64 j ∧ Hid (RndW wB w wr l bM w1.heap.size (.slice aoL n cL) (bitsL s.2.1) (partC l s j)))
  case atStart => exact ⟨0, rfl, Nat.zero_le _, rfl, HR0⟩
  case round =>
   clear HR0
   obtain ⟨j, rfl, hj, rfl, HR⟩ := hrel
   by_cases hlt : j < n
   ·obtain ⟨p, hp⟩ : ∃ p, (bitsL s.2.1)[j]? = some p := ⟨_, List.getElem?_eq_getElem (by rw [← HN.out]; exact hlt)⟩
    have hpl : p < l.length := mem_bits_lt HS.out (List.mem_of_getElem? hp)
    obtain ⟨ao3, c3, e3, hg3⟩ := (OwnR.read HR.out.list (fun _ => rfl)).form
    simp only [Value.slice.injEq] at e3
    obtain ⟨rfl, -, rfl⟩ := e3
    obtain ⟨g, off, rfl⟩ := hg3 (by rw [← HN.out]; omega)
    have c1 : wr.cell? ⟨g, off + j, none⟩ = some (.int .i64 p) := (OwnR.read HR.out.list (fun _ => rfl)).cell1 hp
    have c2 : wr.cell? ⟨bMp, 0, none⟩ = some (.map (some bM)) := (HE.out.at_ HR.out.inv).2.1.cell rfl
    have hbMp := (HE.out.at_ HR.out.inv).2.1.lt
    obtain ⟨fl, hM, hfl⟩ := HR.out.inv.2
    have HM := hid hM
    have HFL := hid hfl
    have HP := hid hp
    clear hg3 hp hM hfl
    obtain ⟨r, hr⟩ : ∃ r, alook fl p = r := ⟨_, rfl⟩
    obtain ⟨q, hq⟩ : ∃ q, q = (match r with | some _ => nextM l p | none => 0) := ⟨_, rfl⟩
    obtain ⟨tb, htb⟩ : ∃ tb, tb = r.isSome := ⟨_, rfl⟩
    have hrd : r.getD (.agg (setV 0)) = .agg (setV q) := by
     rw [hq]
     cases r with
     | none => rfl
     | some v => exact HFL.out p v hr
    have HRR := hid hr
    have HTB := hid htb
    have HRD := hid hrd
    clear hr hq hrd htb
    go_upto_region 8 with (first
     | (with_reducible refine onOp 30 ?_
        go_loud (refine wpList_lookupB rfl (.tmp 28) (.tmp 29) 110 rfl 3 105 numV key_nat Tryz.underlying110 bM fl rfl HM.out (.agg (setV 0)) zero_places p rfl r HRR.out ?_)
        rw [HRD.out, ← HTB.out])
     | (with_reducible refine onOp 10 ?_
        go_loud (refine wpList_alloc_aggN rfl 105 rfl _ zero105 ?_)
        intro Z HZ3
        have HZs : Hid (Z.size = 16) := hid (by rw [HZ3.out]; exact setV_size _)
        clear HZ3)
     | (with_reducible show wpList _ _ _ ((⟨_, Op.store _ (.tmp 10) _, _, _, _, _⟩ : Oper) :: _) _ _
        go_loud (refine wpList_store_last rfl 105 (.tmp 10) (.tmp 31) rfl wr.heap.size (setV q) rfl rfl 105 Z rfl (by rw [setV_size]; exact info105) (by rw [HZs.out, setV_size]) (ones_setV _) ?_)))
    obtain ⟨wz, hwz⟩ : ∃ u, u = wr.alloc (.cells (setV q) 105) := ⟨_, rfl⟩
    rw [← hwz]
    have ez : Ext wr wz := hwz ▸ (Below.refl _ _).alloc (Nat.le_refl _) _
    have HRZ := hid (RndW.ext HE.out HR.out ez)
    have HMZ := hid (HM.out.ext ez)
    clear ez hwz HM HR c1 c2 HRD
    go_upto_if 34 with fail
    go_cut [] from 35 to 46 (fun wx => Hid (RndW wB w wx l bM w1.heap.size (.slice (some ⟨g, off, none⟩) n cL) (bitsL s.2.1) (partC l s j) ∧ ∃ fl, MapB wx bM numV fl ∧ (∀ p v, alook fl p = some v → v = .agg (setV (nextM l p))) ∧ alook fl p = some (.agg (setV (nextM l p)))))
    case first =>
     cases tb with
     | true =>
       have hsome : alook fl p = some (.agg (setV (nextM l p))) := by
        have h1 := HTB.out
        cases r with
        | none => cases h1
        | some v => rw [HRR.out, HFL.out p v HRR.out]
       have HSM := hid hsome
       clear hsome
       go_wp2_with fail
       go_meet
       exact hid ⟨HRZ.out, fl, HMZ.out, HFL.out, HSM.out⟩
     | false =>
       have hnone : alook fl p = none := by
        have h1 := HTB.out
        cases r with
        | none => exact HRR.out
        | some v => cases h1
       have HNN := hid hnone
       clear hnone
       have hI := HE.out.at_ HRZ.out.inv
       have cM : wz.cell? ⟨bMp, 0, none⟩ = some (.map (some bM)) := hI.2.1.cell rfl
       have cR : wz.cell? ⟨bR, 0, none⟩ = some (.slice ao l.length cap) := hI.1.cell rfl
       have lM := hI.2.1.lt
       have lR := hI.1.lt
       have NN := hid (show ¬ bMp = bM ∧ ¬ bR = bM from ⟨fun e => blk_map_ne HE.out.mp HE.out.map e, fun e => blk_map_ne HE.out.r HE.out.map e⟩)
       have hS0 : Chg (· = bM) wz wz.drew := (Chg.refl _ _).drew
       have HNX := hid (next2_any HE.out.form (HE.out.nodes.ext ((MakeInv.ext HE.out HRZ.out.inv).drew)) HE.out.names cap hl64 (HE.out.tab.ext ((MakeInv.ext HE.out HRZ.out.inv).drew)) p hpl)
       clear hI
       go_upto_region 9 with fail
       refine wp_region_heldL (Chg (· = bM) wz) (by kernel_rfl) ?_
       refine wpAnyH_takeK 0 6 #[true, false, false, false, false, false, false] rfl (by kernel_rfl) rfl (.map (some bM)) (fun _ _ _ h => h) (Or.inl ⟨rfl, fun w' hS => ?_⟩) hS0 ?_
       ·have c1 := (cell_of_chg (a := ⟨bMp, 0, none⟩) hS lM NN.out.1).trans cM; go_simp <;> with_reducible rfl
       refine wpAnyH_takeK 1 5 #[true, true, false, false, false, false, false] rfl (by kernel_rfl) rfl (.int .i64 p) (fun _ _ _ h => h) (Or.inl ⟨rfl, fun w' hS => ?_⟩) hS0 ?_
       ·go_simp <;> with_reducible rfl
       refine wpAnyH_takeK 2 4 #[true, true, true, false, false, false, false] rfl (by kernel_rfl) rfl (.agg #[.slice ao l.length cap]) (fun _ _ _ h => h) (Or.inl ⟨rfl, fun w' hS => ?_⟩) hS0 ?_
       ·have c1 := (cell_of_chg (a := ⟨bR, 0, none⟩) hS lR NN.out.2).trans cR; go_simp <;> with_reducible rfl
       refine wpAnyH_takeK 3 3 #[true, true, true, true, false, false, false] rfl (by kernel_rfl) rfl (.int .i64 p) (fun _ _ _ h => h) (Or.inl ⟨rfl, fun w' hS => ?_⟩) hS0 ?_
       ·go_simp <;> with_reducible rfl
       refine wpAnyH_one 4 2 #[true, true, true, true, true, false, false] rfl (by kernel_rfl) rfl ?_
       go_wp2_with fail
       refine HNX.out.mono ?_
       rintro e w4 ⟨v, rfl, hO, hx⟩
       have hS4 : Chg (· = bM) wz w4 := hS0.ext hx
       have HX4 := hid ((Below.refl wz.heap.size wz).drew.trans (hx.mono (by simp)))
       have HSE := hid (set_any (nats_of_owns hO) (by
        have := bitsL_len (nextM_lt l p)
        omega) (fun a ha => by
        rw [mem_bitsL] at ha
        rcases Nat.lt_or_ge a 64 with e | e
        ·exact e
        ·exfalso
         have h2 : nextM l p < 2 ^ a := Nat.lt_of_lt_of_le (nextM_lt l p) (Nat.pow_le_pow_right (by omega) (by omega))
         rw [Nat.testBit_lt_two_pow h2] at ha; cases ha))
       clear hO hx
       go_wp2_with fail
       refine ⟨hS4, ?_⟩
       refine wpAnyH_one 5 1 #[true, true, true, true, true, true, false] rfl (by kernel_rfl) rfl ?_
       go_wp2_with fail
       refine HSE.out.mono ?_
       rintro e w5 ⟨C, rfl, hC, hx5⟩
       rw [orL_bits] at hC
       subst hC
       have hS5 : Chg (· = bM) wz w5 := hS4.ext hx5
       have HX5 := hid (HX4.out.trans (hx5.mono HX4.out.size))
       clear hx5
       have HM5 := hid (HMZ.out.ext HX5.out)
       go_wp2_with fail
       refine ⟨hS5, ?_⟩
       refine wpAnyH_one 6 0 #[true, true, true, true, true, true, true] rfl (by kernel_rfl) rfl ?_
       go_wp2_with (with_reducible show wpList _ _ _ ((⟨_, Op.mapUpdate _ _ _ _, _, _, _, _⟩ : Oper) :: _) _ _
                    go_loud (refine wpList_mapUpdateB _ rfl (.tmp 35) (.tmp 36) (.tmp 40) 110 (.inl rfl) 3 105 numV key_nat Tryz.underlying110 bM fl rfl HM5.out p (.agg (setV (nextM l p))) rfl rfl ?_)
                    intro w6 hM6 hg6)
       have c6 : Chg (· = bM) w5 w6 := (Chg.refl _ w5).grown hg6 (fun k e => by simpa using e.symm)
       refine ⟨hS5.trans c6, ?_⟩
       refine wpAnyH_end (P := Tryz.prog) (by kernel_rfl) ?_
       go_wp2_with fail
       go_meet
       have h5 := RndW.ext HE.out HRZ.out HX5.out
       have hfl6 : ∀ p' v, alook (aput fl p (.agg (setV (nextM l p)))) p' = some v → v = .agg (setV (nextM l p')) := by
        intro p' v hv
        rw [alook_aput] at hv
        split at hv
        ·rename_i e; subst e; cases hv; rfl
        ·exact HFL.out p' v hv
       refine hid ⟨⟨⟨h5.inv.1.trans c6, _, hM6, hfl6⟩, h5.chg.trans c6, h5.list.chg c6 (fun k e e' => by obtain ⟨_, hb⟩ := own_block h5.list e; exact blk_map_ne hb HM5.out e'), h5.come.chg c6 (fun e => blk_map_ne h5.come HM5.out e)⟩, _, hM6, hfl6, by rw [alook_aput, if_pos rfl]⟩
    case rest =>
     have hI := HE.out.at_ hcut.out.1.inv
     have cM : wc.cell? ⟨bMp, 0, none⟩ = some (.map (some bM)) := hI.2.1.cell rfl
     have lM := hI.2.1.lt
     obtain ⟨fl2, hM2, hfl2, hl2⟩ := hcut.out.2
     have HM2 := hid hM2
     have HF2 := hid hfl2
     have HL2 := hid hl2
     have HR2 := hid hcut.out.1
     have hp64 : partC l s j < 18446744073709551616 := Nat.lt_of_lt_of_le (partC_lt HE.out.form s j) (pow_le64 hl64)
     have hn64b : nextM l p < 18446744073709551616 := Nat.lt_of_lt_of_le (nextM_lt l p) (pow_le64 hl64)
     clear hI hM2 hfl2 hl2 hcut HRZ HMZ HFL HRR
     go_wp2_with (first
      | (with_reducible refine onOp 41 ?_
         go_loud (refine wpList_load_blk rfl 105 (.tmp 7) rfl w1.heap.size rfl 105 (setV (partC l s j)) _ 16 HR2.out.come (setV_size _) Tryz.underlying105 rfl info105 ?_))
      | (with_reducible refine onOp 44 ?_
         go_loud (refine wpList_lookupN rfl (.tmp 42) (.tmp 43) 110 rfl 3 105 numV key_nat Tryz.underlying110 bM fl2 rfl HM2.out (.agg (setV 0)) zero_places p rfl _ HL2.out ?_))
      | (go_at_call 67
         go_loud (refine (either2_any _ _ hp64 hn64b _).mono ?_)
         rintro e w5 ⟨C, rfl, hC, hx5⟩
         subst hC
         have HR5 := hid (RndW.ext HE.out HR2.out hx5)
         have HX5 := hid hx5
         clear hx5)
      | (with_reducible show wpList _ _ _ ((⟨_, Op.store _ (.tmp 7) _, _, _, _, _⟩ : Oper) :: _) _ _
         go_loud (refine wpList_store_agg rfl 105 (.tmp 7) (.tmp 45) rfl w1.heap.size 0 (setV (partC l s j ||| nextM l p)) rfl rfl 105 (setV (partC l s j)) HR5.out.come (by rw [setV_size]; exact info105) (by simp [setV_size]) (ones_setV _) ?_)
         intro w6 hB6 hz6
         have HB6 := hid hB6.out
         clear hB6 hz6))
     go_roundg (n - (j + 1))
     case measure => omega
     case rel =>
      have h6 := HB6.out.1
      rw [splice_all (by simp [setV_size])] at h6
      have c6 := HB6.out.2
      have d6 : Chg (fun k => w.heap.size ≤ k) w5 w6 := c6.mono fun k _ e => by omega
      have hI6 : MakeInv wB l bM w6 := by
       obtain ⟨q1, fl3, q2, q3⟩ := HR5.out.inv
       refine ⟨?_, fl3, q2.chg c6 (fun e => blk_map_ne HR5.out.come q2 e.symm), q3⟩
       exact chg_x q1 rfl (d6.mono fun k _ e => Nat.le_trans HI.out.1.size e)
      have hC6 : Chg (· = bM) w w6 := chg_x HR5.out.chg rfl d6
      refine ⟨j + 1, rfl, by omega, by go_num, hid ⟨hI6, hC6, HR5.out.list.chg c6 (fun k e e' => ?_), ?_⟩⟩
      ·obtain ⟨_, hb⟩ := own_block HR5.out.list e
       exact ne_of_blk HR5.out.come hb (by decide) e'.symm
      ·rw [partC_succ HP.out]; exact h6
   ·have HC : Hid (Blk wr w1.heap.size 105 (setV (comeS l s))) := hid (by have := HR.out.come; rwa [partC_all (by rw [← HN.out]; omega)] at this)
    have HI3 := hid HR.out.inv
    have HC3 := hid HR.out.chg
    have hI := HE.out.at_ HI3.out
    have cS0 : wr.cell? ⟨bSy, 0, none⟩ = some (.slice aoS syms.length cS) := hI.2.2.1.cell rfl
    have lS := hI.2.2.1.lt
    obtain ⟨m, hm⟩ : ∃ m, m = syms.length := ⟨_, rfl⟩
    have hm1 : m ≤ 1000 := hm ▸ HE.out.slen
    rw [← hm] at cS0
    have HMM := hid hm
    clear HR hI hm
    go_wp2_with fail
    go_loopg [12, 49] m (fun g v u wr => ∃ j, g = m - j ∧ j ≤ m ∧ u = .int .i64 j ∧ Hid (MakeInv wB l bM wr ∧ Chg (· = bM) w wr ∧ Blk wr w1.heap.size 105 (setV (comeS l s)) ∧ OwnR wr w.heap.size 112 17 staC v ((List.range j).map (stepS l syms s))))
    case atStart => exact ⟨0, rfl, Nat.zero_le _, rfl, hid ⟨HI3.out, HC3.out, HC.out, OwnR.nil _ _ _ _ _⟩⟩
    case round =>
     clear HI3 HC3 HC cS0 lS
     obtain ⟨j, rfl, hj2, rfl, HW⟩ := hrel
     by_cases hlt2 : j < m
     ·obtain ⟨x, hx⟩ : ∃ x, syms[j]? = some x := ⟨_, List.getElem?_eq_getElem (by rw [← HMM.out]; exact hlt2)⟩
      have hI := HE.out.at_ HW.out.1
      have cO : wr.cell? ⟨bOf, 0, none⟩ = some (.slice (some ⟨bO, 0, none⟩) m m) := by rw [HMM.out]; exact hI.2.2.2.1.cell rfl
      have lO := hI.2.2.2.1.lt
      have lBO := hI.2.2.2.2.1.lt
      obtain ⟨v12, hv12⟩ : ∃ v, v = u12 := ⟨_, rfl⟩
      subst hv12
      have HOW := hid HW.out.2.2.2
      have NN := hid (show (∀ k, v12.ownBlock = some k → ¬ k = w1.heap.size ∧ ¬ k = bOf ∧ ¬ k = bO) from fun k e => by
       obtain ⟨_, hb⟩ := own_block HOW.out e
       exact ⟨fun e2 => ne_of_blk HW.out.2.2.1 hb (by decide) e2.symm, fun e2 => ne_of_blk hI.2.2.2.1 hb (by decide) e2.symm, fun e2 => ne_of_blk hI.2.2.2.2.1 hb (by decide) e2.symm⟩)
      have HBO := hid hI.2.2.2.2.1
      have HB7 := hid HW.out.2.2.1
      have h7 : ¬ v12.ownBlock = some w1.heap.size := fun e => (NN.out _ e).1 rfl
      have hO7 : ¬ v12.ownBlock = some bOf := fun e => (NN.out _ e).2.1 rfl
      have hB7 : ¬ v12.ownBlock = some bO := fun e => (NN.out _ e).2.2 rfl
      have hcells : ∀ w', Chg (fun k => v12.ownBlock = some k) wr w' → ∀ i, i < 16 → w'.cell? ⟨bO, j * 16 + i, none⟩ = (setV (ofM l x))[i]? := fun w' hS i hi => by
       have h1 := rowV_get (f := setV) (s := 16) setV_size (xs := syms.map (ofM l)) (k := j) (x := ofM l x) (by rw [List.getElem?_map, hx]; rfl) hi
       have h2 := HBO.out.chg hS hB7
       rw [← h1, Array.getElem?_eq_getElem (by rw [rowV_size setV_size, List.length_map, ← HMM.out]; have := Nat.mul_le_mul_right 16 (show j + 1 ≤ m from hlt2); omega)]
       exact h2.cell (Array.getElem?_eq_getElem _)
      have HCL := hid hcells
      have HXX := hid hx
      have hc64 : comeS l s < 18446744073709551616 := Nat.lt_of_lt_of_le (comeS_lt HE.out.form s) (pow_le64 hl64)
      have ho64 : ofM l x < 18446744073709551616 := Nat.lt_of_lt_of_le (ofM_lt l x) (pow_le64 hl64)
      have hS0 : Chg (fun k => v12.ownBlock = some k) wr wr.drew := (Chg.refl _ _).drew
      have g1 : (0 : Int) ≤ (j : Int) := by omega
      have g2 : (j : Int) < (m : Int) := by omega
      have hbw : w.heap.size ≤ wr.heap.size := HW.out.2.1.size
      clear hI hcells hx
      go_upto_region 16 with fail
      refine wp_region_heldL (Chg (fun k => v12.ownBlock = some k) wr) (by kernel_rfl) ?_
      refine wpAnyH_takeK 0 10 (mk 11 1) rfl (by kernel_rfl) rfl v12 (fun _ _ _ h => h) (Or.inl ⟨rfl, fun w' hS => ?_⟩) hS0 ?_
      ·go_simp <;> with_reducible rfl
      refine wpAnyH_takeK 1 9 (mk 11 3) rfl (by kernel_rfl) rfl (.agg (setV (comeS l s))) (fun _ _ _ h => h) (Or.inl ⟨rfl, fun w' hS => ?_⟩) hS0 ?_
      ·exact exec_load_cells 105 (.tmp 7) rfl w1.heap.size 0 rfl _ _ 16 (blk_cells (HB7.out.chg hS h7) (setV_size _)) (setV_size _) Tryz.underlying105 rfl info105
      refine wpAnyH_takeK 2 8 (mk 11 7) rfl (by kernel_rfl) rfl (.slice (some ⟨bO, 0, none⟩) m m) (fun _ _ _ h => h) (Or.inl ⟨rfl, fun w' hS => ?_⟩) hS0 ?_
      ·have c1 := (cell_of_chg (a := ⟨bOf, 0, none⟩) hS lO hO7).trans cO; go_simp <;> with_reducible rfl
      refine wpAnyH_takeK 3 7 (mk 11 15) rfl (by kernel_rfl) rfl (.int .i64 j) (fun _ _ _ h => h) (Or.inl ⟨rfl, fun w' hS => ?_⟩) hS0 ?_
      ·go_simp <;> with_reducible rfl
      refine wpAnyH_takeK 4 6 (mk 11 31) rfl (by kernel_rfl) rfl (.pointer (some ⟨bO, j * 16, none⟩)) (fun _ _ _ h => h) (Or.inl ⟨rfl, fun w' hS => ?_⟩) hS0 ?_
      ·go_simp <;> with_reducible rfl
      refine wpAnyH_takeK 5 5 (mk 11 63) rfl (by kernel_rfl) rfl (.agg (setV (ofM l x))) (fun _ _ _ h => h) (Or.inl ⟨rfl, fun w' hS => ?_⟩) hS0 ?_
      ·exact exec_load_cells 105 (.tmp 56) rfl bO (j * 16) rfl _ _ 16 (HCL.out w' hS) (setV_size _) Tryz.underlying105 rfl info105
      refine wpAnyH_one 6 4 (mk 11 127) rfl (by kernel_rfl) rfl ?_
      go_wp2_with fail
      refine (both2_any _ _ hc64 ho64 _).mono ?_
      rintro e w4 ⟨C, rfl, hC, hx4⟩
      subst hC
      have hS4 : Chg (fun k => v12.ownBlock = some k) wr w4 := hS0.ext hx4
      have e4 : Ext wr w4 := (Below.refl wr.heap.size wr).drew.trans (hx4.mono (by simp))
      have HX4 := hid e4
      have hsz4 := e4.size
      clear hx4 e4
      go_wp2_with fail
      refine ⟨hS4, ?_⟩
      refine wpAnyH_one 7 3 (mk 11 255) rfl (by kernel_rfl) rfl ?_
      go_wp2_with (with_reducible refine onOp 59 ?_
                   go_loud (refine wpList_build_agg rfl 112 _ rfl [(1, .agg (setV (comeS l s &&& ofM l x)))] rfl _ (built_sta _) ?_)
                   intro D HD)
      refine ⟨hS4, ?_⟩
      refine wpAnyH_one 8 2 (mk 11 511) rfl (by kernel_rfl) rfl ?_
      have hD : D = staC (stepS l syms s j) := by
       rw [HD.out]
       unfold staC
       rw [(stepS_ok HE.out.form hl64 syms s j).2, HXX.out]; rfl
      subst hD
      go_wp2_with (with_reducible refine onOp 60 ?_
                   go_loud (refine wpList_slice_one rfl 113 (.tmp 59) rfl (staC (stepS l syms s j)) rfl 112 17 _ Tryz.underlying113 slot112 (by decide) (by decide) (staC_size _) ?_))
      refine ⟨hS4.alloc _, ?_⟩
      refine wpAnyH_one 9 1 (mk 11 1023) rfl (by kernel_rfl) rfl ?_
      have HOW4 := hid (HOW.out.ext HX4.out)
      have hln : ((List.range j).map (stepS l syms s)).length + 1 ≤ 1000000000 := by simp; omega
      go_wp2_with (with_reducible refine onOp 61 ?_
                   go_loud (refine wpList_append_R elem_sta staC_size ones_sta HOW4 (by omega) hln (stepS l syms s j) _ rfl w4.heap.size rfl rfl _ _ rfl rfl rfl ?_)
                   rintro g' c' v' w6 rfl G1 G2)
      have c6 : Chg (fun k => v12.ownBlock = some k) w4 w6 := (Chg.refl _ _).grown G2.out.1 (fun k e => e)
      refine ⟨hS4.trans c6, ?_⟩
      refine wpAnyH_one 10 0 (mk 11 2047) rfl (by kernel_rfl) rfl ?_
      go_wp2_with fail
      refine ⟨hS4.trans c6, ?_⟩
      refine wpAnyH_end (P := Tryz.prog) (by kernel_rfl) ?_
      go_wp2_with fail
      go_roundg (m - (j + 1))
      case measure => omega
      case rel =>
       have cA : Chg (fun k => v12.ownBlock = some k) wr w6 := hS4.trans c6
       have d6 : Chg (fun k => w.heap.size ≤ k) wr w6 := cA.mono fun k _ e => (HOW.out.lt k e).1
       refine ⟨j + 1, rfl, by omega, by go_num, hid ⟨HW.out.1.keep HE.out (d6.mono fun k _ e => Nat.le_trans HI.out.1.size e), chg_x HW.out.2.1 rfl d6, HW.out.2.2.1.chg cA h7, ?_⟩⟩
       rw [List.range_succ, List.map_append]
       have := G1.out
       simpa using this
     ·go_wp2_with fail
      go_ret
      refine ⟨_, rfl, ?_, HW.out.1, HW.out.2.1⟩
      have := HW.out.2.2.2
      rw [show j = syms.length by rw [← HMM.out]; omega] at this
      exact this
end Go.Proofs.YtngpjagpeblbjaaGreatDoor
namespace Go.Spy
open Go.RowKit
section
variable {P : Program} {md : Region.Mode} {w : World} {S : World → Prop} {Q : Exit → Act → World → Prop}
theorem wpOp_of_list {l : List Oper} {i : Nat} {o : Oper} (ho : l[i]? = some o) {K : Act → World → Prop} {a : Act} (h : wpList P l.toArray (behind Q K) [o] a w) : wpOp P l.toArray Q i K a w := by
 have h0 : l.toArray[i]? = some o := by simpa using ho
 unfold wpOp
 simp only [h0]
 unfold wpList at h
 split
 ·rename_i hwt
  rw [if_pos hwt] at h
  rcases h with h | ⟨h1, h2⟩
  ·exact .inl (wp_behind h)
  ·exact .inr ⟨h1, h2⟩
 ·rename_i hwt
  rw [if_neg hwt] at h
  exact h
theorem wpAnyH_two {l : List Oper} (i j g : Nat) {fuel : Nat} {listed : Array Bool} (gi gj : Array Bool) {a : Act} {oi oj : Oper} (hoi : l[i]? = some oi) (hoj : l[j]? = some oj)
 (hB : (decide (Region.ready md l.toArray listed = [i, j]) && sameB (listed.setIfInBounds i true) gi && sameB (listed.setIfInBounds j true) gj) = true) (hf : fuel = g + 1)
 (h1 : wpList P l.toArray (behind Q (fun a' w' => S w' ∧ wpAnyH P md l.toArray Q S g gi a' w')) [oi] a w)
 (h2 : wpList P l.toArray (behind Q (fun a' w' => S w' ∧ wpAnyH P md l.toArray Q S g gj a' w')) [oj] a w) : wpAnyH P md l.toArray Q S fuel listed a w := by
 simp only [Bool.and_eq_true, decide_eq_true_eq] at hB
 obtain ⟨⟨hr, hgi⟩, hgj⟩ := hB
 subst hf
 refine wpAnyH_all hr (by simp) fun k hk => ?_
 simp only [List.mem_cons, List.not_mem_nil, or_false] at hk
 rcases hk with rfl | rfl
 ·rw [sameB_eq hgi]; exact wpOp_of_list hoi h1
 ·rw [sameB_eq hgj]; exact wpOp_of_list hoj h2
end
end Go.Spy
namespace Go.Proofs.YtngpjagpeblbjaaGreatDoor
open Go.RowKit Go.Spy Go.Heaped Go.Tour Go.Rx
def ClonePost {α : Type} (e9 : TypeId) (f : α → Array Value) (l : List α) (w : World) (e : Ending) (w' : World) : Prop := Ext w w' ∧ ∃ v, e = .returned v ∧ OwnR w' w.heap.size e9 1 f v l
theorem flat_single {α : Type} (f : α → Value) (g : α → Array Value) (h : ∀ x, g x = #[f x]) (l : List α) : (l.flatMap fun x => (g x).toList) = l.map f := by
 induction l with
 | nil => rfl
 | cons x l ih => rw [List.flatMap_cons, ih, h]; rfl
theorem clone_str {w : World} {v : Value} {l : List ByteArray} (h : ReadR w 1 strC v l) (hl : l.length ≤ 100000) : Calls Tryz.prog 42 #[v] w (ClonePost 9 strC l w) := by
 obtain ⟨ao, c, rfl, hao⟩ := h.form
 cases ao with
 | none =>
   have h0 : l = [] := by
    rcases Nat.eq_zero_or_pos l.length with e | e
    ·exact List.eq_nil_of_length_eq_zero e
    ·obtain ⟨_, _, e2⟩ := hao e; cases e2
   subst h0
   refine (Tryz.slices_Clone_string_nil 0 c w).mono ?_
   rintro e w' ⟨rfl, rfl⟩
   exact ⟨Below.refl _ _, _, rfl, OwnR.nil _ _ _ _ _⟩
 | some a =>
   rcases Nat.eq_zero_or_pos l.length with e0 | e0
   ·obtain rfl := List.eq_nil_of_length_eq_zero e0
    refine (Tryz.slices_Clone_string_zero a c w).mono ?_
    rintro e w' ⟨v', rfl, h1, _, h3⟩
    exact ⟨h3, v', rfl, h1⟩
   ·obtain ⟨g, off, e2⟩ := hao e0
    cases e2
    refine (Tryz.slices_Clone_string g off l.length c l w (Nat.le_refl _) (by omega) (fun j hj => by
     have := h.cell1 (j := j) (x := l[j]) (List.getElem?_eq_getElem hj)
     rw [this]
     simp [strC, List.getD, hj])).mono ?_
    rintro e w' ⟨v', rfl, h1, _, h3⟩
    refine ⟨h3, v', rfl, ?_⟩
    unfold OwnR
    rw [flat_single Value.string strC (fun _ => rfl)]
    rw [List.take_length] at h1
    exact h1
end Go.Proofs.YtngpjagpeblbjaaGreatDoor
