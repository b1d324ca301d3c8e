/-
  slices.Reverse over owned words; the words by which a state is come to first.
  Walk of travel over numbers.
  Walk of DFA.Least.
-/
import Derived.Test.YtngpjagpeblbjaaGreatDoorP15
import Derived.Test.YtngpjagpeblbjaaGreatDoorP10
import Derived.Deep.Cut
import Derived.Test.YtngpjagpeblbjaaGreatDoorP14
namespace Go.Proofs.YtngpjagpeblbjaaGreatDoor
open Go.RowKit Go.Spy Go.Heaped Go.Tour Go.Rx Go.Sort
theorem strC_size (x : ByteArray) : (strC x).size = 1 := rfl
theorem ones_strC (x : ByteArray) : Ones (strC x) := by
 intro v hv
 simp only [strC, List.mem_toArray, List.mem_cons, List.not_mem_nil, or_false] at hv
 subst hv; rfl
def bl (s : ByteArray) : List UInt8 := s.data.toList
theorem strC_bl (s : ByteArray) : stC (bl s) = strC s := by unfold stC strC bl; rw [bs_self]
theorem own_bl {w : World} {base : Nat} {v : Value} {l : List ByteArray} : OwnR w base 9 1 strC v l ↔ OwnT w base v (l.map bl) := by
 have e : (fun x : ByteArray => (strC x).toList) = fun x => (stC (bl x)).toList := by funext x; rw [strC_bl]
 unfold OwnT OwnR
 rw [List.length_map, List.flatMap_map, e]
def RevPost (base : Nat) (v : Value) (l : List ByteArray) (w1 : World) (e : Ending) (w2 : World) : Prop := e = .returned (.tuple #[]) ∧ OwnR w2 base 9 1 strC v l.reverse ∧ Below base w1 w2
theorem reverse_own {w1 : World} {base : Nat} {v : Value} {l : List ByteArray} (h : OwnR w1 base 9 1 strC v l) (hl : l.length ≤ 1000000000) : Calls Tryz.prog 107 #[v] w1 (RevPost base v l w1) := by
 have h' := ownT_iff.1 (own_bl.1 h)
 by_cases hv : v = .slice none 0 0
 ·subst hv
  have h0 : l = [] := by
   rcases h'.2 with ⟨_, h0⟩ | ⟨g, cap, cur, e, _⟩
   ·simpa using h0
   ·cases e
  subst h0
  refine (Tryz.slices_Reverse_string_empty none 0 w1).mono ?_
  rintro e w2 ⟨rfl, rfl⟩
  exact ⟨rfl, h, Below.refl _ _⟩
 ·obtain ⟨g, cap, rfl, hbg, hgl, hncap, hcm, hlen, hH⟩ := Lib.holds_of_ownsRow h' hv
  refine (Tryz.slices_Reverse_string g 0 cap (l.map bl) w1 hH (by simp; omega)).mono ?_
  rintro e w2 ⟨rfl, q, rfl⟩
  refine ⟨rfl, ?_, Lib.below_putRow (Below.refl _ _) hbg⟩
  have h2 := Lib.ownsRow_putRow (q := q) (k := (l.map bl).length) (ys := (l.map bl).reverse) h' (by simp) (Nat.le_refl _)
  rw [List.take_of_length_le (by simp)] at h2
  refine own_bl.2 (ownT_iff.2 ?_)
  rw [List.map_reverse, List.length_reverse]
  exact h2
def WordsPost (syms : List ByteArray) (u : List Nat) (w : World) (e : Ending) (w' : World) : Prop := Ext w w' ∧ ∃ v, e = .returned v ∧ OwnR w' w.heap.size 9 1 strC v (wordsOf syms u)
set_option maxRecDepth 100000 in
set_option maxHeartbeats 1000000 in
theorem words_int {w : World} {vK vN vF vS : Value} {fr : List (Nat × Nat)} {syms : List ByteArray} (hF : ReadR w 2 stepA vF fr) (hS : ReadR w 1 strC vS syms) (hl : fr.length ≤ 100000) (hs : syms.length ≤ 1000)
 {K : Type} {δ : K → Nat → K} {first : K} {keys : List K} {b : Nat × Nat} (hB : Bfs δ syms.length first keys fr b) (n : Nat) (hn : n < fr.length) :
 Calls Tryz.prog 54 #[.agg #[vK, vN, vF], .int .i64 n, vS] w (WordsPost syms (word fr n) w) := by
 obtain ⟨aoF, cF, rfl, hF2⟩ := hF.form
 obtain ⟨aoS, cS, rfl, hS2⟩ := hS.form
 obtain ⟨gF, oF, rfl⟩ := hF2 (by omega)
 obtain ⟨k, hk⟩ : ∃ k, k = fr.length := ⟨_, rfl⟩
 obtain ⟨m, hm⟩ : ∃ m, m = syms.length := ⟨_, rfl⟩
 have HF := hid hF
 have HS := hid hS
 rw [← hk] at HF ⊢ hl hn
 rw [← hm] at HS ⊢ hs
 have HS2 := hid hS2
 have HK := hid hk
 have HM := hid hm
 have HB := hid hB
 clear hF hS hF2 hS2 hk hm hB
 go_enter Tryz.func54, Tryz.ntmps54
 go_wp2_with fail
 go_loopg [1, 7] (2 * n) (fun g u v wr => ∃ j us, g = 2 * j ∧ j ≤ n ∧ u = .int .i64 j ∧ Hid (OwnR wr w.heap.size 9 1 strC v (wordsOf syms us) ∧ Ext w wr ∧ Blk wr w.heap.size 89 #[vK, vN, .slice (some ⟨gF, oF, none⟩) k cF]) ∧ Hid (word fr n = word fr j ++ us.reverse ∧ us.length + j ≤ n ∧ ∀ c ∈ us, c < syms.length))
 case atStart => exact ⟨n, [], rfl, Nat.le_refl _, rfl, hid ⟨OwnR.nil _ _ _ _ _, (Below.refl _ _).alloc (Nat.le_refl _) _, Blk.new _ _ _⟩, hid ⟨by simp, by simp, by simp⟩⟩
 case round =>
  obtain ⟨j, us, rfl, hj, rfl, HO, HU⟩ := hrel
  have b2 : wr.cell? ⟨w.heap.size, 2, none⟩ = some (.slice (some ⟨gF, oF, none⟩) k cF) := HO.out.2.2.cell rfl
  by_cases h0 : 0 < j
  ·obtain ⟨p, hp⟩ := HB.out.at (n := j) (by rw [← HB.out.len, ← HK.out]; omega)
   have hst := HB.out.step j p h0 hp
   have hw := HB.out.word_pos h0 hp
   have c0 : wr.cell? ⟨gF, oF + j * 2, none⟩ = some (.int .i64 p.1) := by
    have h := (HF.out.ext HO.out.2.1)
    rw [HK.out] at h
    exact h.cell hp (k := 0) (by decide)
   have c1 : wr.cell? ⟨gF, oF + j * 2 + 1, none⟩ = some (.int .i64 p.2) := by
    have h := (HF.out.ext HO.out.2.1)
    rw [HK.out] at h
    exact h.cell hp (k := 1) (by decide)
   obtain ⟨p1, p2⟩ := p
   obtain ⟨hp2, hp1, -, -⟩ := hst
   simp only at hp2 hp1 c0 c1 hw
   rw [← HM.out] at hp2
   obtain ⟨g, off, rfl⟩ := HS2.out (by rw [← HM.out]; omega)
   obtain ⟨y, hy⟩ : ∃ y, syms[p2]? = some y := ⟨_, List.getElem?_eq_getElem (by rw [← HM.out]; exact hp2)⟩
   have c2 : wr.cell? ⟨g, off + p2, none⟩ = some (.string y) := (HS.out.ext HO.out.2.1).cell1 hy
   have HWD := hid hw
   have HP := hid hp
   have HY := hid hy
   have HO1 := hid HO.out.1
   have hsz : w.heap.size ≤ wr.heap.size := HO.out.2.1.size
   have hgl : gF < wr.heap.size := World.block_lt_of_cell? _ _ c0
   have hww : w.heap.size < wr.heap.size := HO.out.2.2.lt
   have hul : us.length ≤ 100000 := by have := HU.out.2.1; omega
   have hlen : (wordsOf syms us).length + 1 ≤ 1000000000 := by rw [wordsOf_length HU.out.2.2]; omega
   clear hp hw hy
   go_wp2_with (first | (at_builtin; go_must (refine wpList_append_R elem_str strC_size ones_strC HO1 hsz hlen y _ rfl wr.heap.size rfl rfl _ _ rfl rfl rfl ?_)
                         rintro g' cap' v' w4 rfl H1 H2
                         have HX := hid (ext_grown HO.out.2.1 H2.out.1 (fun i hi => (HO1.out.lt i hi).1))
                         have hb4 := HO.out.2.2.grown H2.out.1 (fun e => by obtain ⟨_, hb⟩ := own_block HO1.out e.symm; exact ne_of_blk HO.out.2.2 hb (by decide) rfl)
                         have b4 : w4.cell? ⟨w.heap.size, 2, none⟩ = some (.slice (some ⟨gF, oF, none⟩) k cF) := hb4.cell rfl
                         have d0 : w4.cell? ⟨gF, oF + j * 2, none⟩ = some (.int .i64 p1) := by
                          have h := (HF.out.ext HX.out)
                          rw [HK.out] at h
                          exact h.cell HP.out (k := 0) (by decide)
                         have HB4 := hid hb4
                         clear hb4))
   go_roundg (2 * p1)
   case measure => omega
   case rel =>
    refine ⟨p1, us ++ [p2], rfl, by omega, rfl, hid ⟨?_, HX.out, HB4.out⟩, hid ⟨?_, ?_, ?_⟩⟩
    ·have e : wordsOf syms (us ++ [p2]) = wordsOf syms us ++ [y] := by
      rw [wordsOf_snoc us (by rw [← HM.out]; exact hp2)]
      congr 2
      have := (List.getElem?_eq_some_iff.1 HY.out).2
      exact this
     rw [e]; exact H1.out
    ·rw [HU.out.1, HWD.out]; simp
    ·have := HU.out.2.1; simp; omega
    ·intro c hc
     rw [List.mem_append, List.mem_singleton] at hc
     rcases hc with hc | rfl
     ·exact HU.out.2.2 c hc
     ·rw [← HM.out]; exact hp2
  ·obtain rfl : j = 0 := by omega
   have hlen : (wordsOf syms us).length ≤ 1000000000 := by rw [wordsOf_length HU.out.2.2]; have := HU.out.2.1; omega
   have HR := hid (reverse_own HO.out.1 hlen)
   go_wp2_with fail
   refine HR.out.mono ?_
   rintro e w2 ⟨rfl, hO, hx⟩
   have HOO := hid hO
   have HXX := hid (HO.out.2.1.trans hx)
   clear hO hx
   go_wp2_with fail
   go_ret
   refine ⟨HXX.out, _, rfl, ?_⟩
   rw [HU.out.1, word_zero, List.nil_append]
   have e : (wordsOf syms us).reverse = wordsOf syms us.reverse := by unfold wordsOf; rw [List.filterMap_reverse]
   rw [← e]
   exact HOO.out
end Go.Proofs.YtngpjagpeblbjaaGreatDoor
namespace Go.Proofs.YtngpjagpeblbjaaGreatDoor
open Go.RowKit Go.Spy Go.Heaped Go.Tour
def kindI : Kind Nat := ⟨numV, natA, 89, 3, 1⟩
theorem okI : KindOk kindI := ⟨by decide, by decide, by decide, fun _ => rfl⟩
theorem key_nat : KeyOk (κ := Nat) Tryz.prog 3 numV :=
 { check := fun w e k => (keyOk_int Tryz.underlying3).check w e (k : Int)
   bits := fun k => (keyOk_int (P := Tryz.prog) Tryz.underlying3).bits (k : Int)
   find := fun w k es l h => by
    have h1 := (keyOk_int Tryz.underlying3).find w (k : Int) es (l.map fun p => ((p.1 : Int), p.2)) (by rw [h, List.map_map]; rfl)
    have h2 : ∀ (l : List (Nat × Value)) (i : Nat), alookI (l.map fun p => ((p.1 : Int), p.2)) (k : Int) i = alookI l k i := by
     intro l
     induction l with
     | nil => intro i; rfl
     | cons p l ih =>
       intro i
       simp only [List.map_cons, alookI, ih, Int.ofNat_inj]
    rw [h2] at h1
    exact h1 }
set_option maxRecDepth 100000 in
set_option maxHeartbeats 4000000 in
theorem travel_int {f : FuncId} {caps : Array Value} {X : Nat → Prop} {Inv : World → Prop} {U : Nat → Prop} {succ : Nat → List Nat} {first most : Nat} (w : World) (hN : NextOk kindI f caps w.heap.size X Inv U succ) (hI : Inv w) (hU : ∀ i, ∀ k ∈ (tourN succ first i).keys, U k)
 (hm1 : 1 ≤ most) (hB : most ≤ 100000 ∨ ∀ i, (tourN succ first i).keys.length ≤ 100000) (hL : ∀ k, U k → (succ k).length ≤ 1000) :
 Calls Tryz.prog 51 #[.int .i64 first, .int .i64 most, .func (.func f) #[] caps] w fun e w' => TravelPost kindI w.heap.size X Inv succ first most w e w' := by
 have HN := hid hN
 have HI := hid hI
 have HU := hid hU
 have HB := hid hB
 have HL := hid hL
 clear hN hI hU hB hL
 have hmm := @run_makeMap Tryz.prog
 go_enter Tryz.func51, Tryz.ntmps51
 go_wp2_with fail
 go_step3
 go_wp2_with (first
  | (with_reducible show wpList _ _ _ ((⟨_, Op.insert _ (.tmp 19) _ _, _, _, _, _⟩ : Oper) :: _) _ _
     go_loud (refine wpList_mapUpdateB _ rfl (.tmp 19) (.tmp 20) _ 171 (.inr rfl) 3 3 numV key_nat Tryz.underlying171 (w.heap.size + 1) [] rfl (MapB.new' _ _ (by simp)) first (numV 0) rfl rfl ?_)
     intro w1 hM1 hg1
     have HM1 := hid hM1; have HG1 := hid hg1; clear hM1 hg1)
  | (go_at_call 102; refine (newR _).mono ?_; rintro e w2 ⟨rfl, hQ, hE⟩; have HQ := hid hQ; have HE := hid hE; clear hQ hE))
 go_at_call 104
 obtain ⟨b, hb⟩ : ∃ b, b = (startW w1 (natA first) 3 89).heap.size := ⟨_, rfl⟩
 have hb2 : b = w1.heap.size + 1 + 1 + 1 := by rw [hb]; simp
 have hl1 := start_l1 (κ := kindI) okI (C := natA first) rfl HN.out.below HI.out HN.out.keep HM1.out HG1.out hb (by rw [hb]; exact HQ.out) HE.out
 have hq := hl1.1.que
 rw [← hb2]
 refine (putR0 hq 0 rfl).mono ?_
 rintro e w3 ⟨rfl, Sq, hq3, hm3⟩
 have hsz2 := hl1.2.size rfl
 have ht3 := TrW.turn okI hl1.1 hsz2 hq3 hm3
 have hl3 : L1W kindI w X Inv succ first most w.heap.size (w1.heap.size + 1 + 1) (w.heap.size + 1) (b + 1) b 0 (.slice (some ⟨w1.heap.size, 0, none⟩) 1 1) (.slice none 0 0) (.slice (some ⟨w1.heap.size + 1, 0, none⟩) 1 1) Sq [] w3 :=
  ⟨ht3.1, Nat.zero_le _, hm1, hl1.2.own hl1.1 rfl HN.out.keep ht3.2⟩
 have HL3 := hid hl3
 have HBs := hid hb
 have HB2 := hid hb2
 clear hl3 hl1 hq hq3 hm3 ht3 hsz2 HQ HE hb hb2 HM1
 go_wp2_with fail
 go_step3
 go_wp2_with fail
 go_loopg [12] 100001 (fun g v wr => ∃ i vK vN vF Sq us, g = 100001 - i ∧ v = v ∧ Hid (L1W kindI w X Inv succ first most w.heap.size (w1.heap.size + 1 + 1) (w.heap.size + 1) (b + 1) b i vK vN vF Sq us wr))
 case atStart => exact ⟨0, _, _, _, _, _, rfl, rfl, HL3⟩
 case round =>
  obtain ⟨i, vK, vN, vF, Sq1, us, rfl, -, H1⟩ := hrel
  clear HL3
  have hsz := H1.out.env.size rfl
  have hle : (tourN succ first i).keys.length ≤ 100000 := by
   rcases HB.out with h | h
   ·exact Nat.le_trans H1.out.most h
   ·exact h i
  have hlei := H1.out.le
  rcases Nat.lt_or_ge i (tourN succ first i).keys.length with hlt | hge
  ·obtain ⟨k, hk⟩ : ∃ k, (tourN succ first i).keys[i]? = some k := ⟨_, List.getElem?_eq_getElem hlt⟩
   obtain ⟨ks, hks⟩ : ∃ ks, ks = (tourN succ first i).keys := ⟨_, rfl⟩
   obtain ⟨m, hm⟩ : ∃ m, ks.length - i = m + 1 := ⟨ks.length - i - 1, by rw [hks]; omega⟩
   have hq := H1.out.tr.que
   rw [← hks, hm] at hq
   have hUk := HU.out i k (List.mem_of_getElem? hk)
   obtain ⟨aoK, cK, rfl, hgK⟩ := (OwnR.read H1.out.tr.keys okI.size).form
   obtain ⟨gK, oK, rfl⟩ := hgK (by omega)
   have hltI : (i : Int) < (ks.length : Int) := by rw [hks]; omega
   rw [← hks] at hle hlt
   have HK := hid hk
   have HUK := hid hUk
   have HKS := hid hks
   have HM := hid hm
   have hmb : i + (m + 1) ≤ 100000000 := by omega
   clear hgK hk hUk hm hks
   go_wp2_with fail
   go_at_call 105
   refine (takeR hq hmb).mono ?_
   rintro e w4 ⟨rfl, Sq2, hq2, hm2⟩
   have ht4 := TrW.turn okI H1.out.tr hsz hq2 hm2
   have he4 := H1.out.env.own H1.out.tr rfl HN.out.keep ht4.2
   have c0 : w4.cell? ⟨w1.heap.size + 1 + 1, 0, none⟩ = some (.slice (some ⟨gK, oK, none⟩) (tourN succ first i).keys.length cK) := ht4.1.blk.cell (i := 0) rfl
   rw [← HKS.out] at c0
   have c1 : w4.cell? ⟨gK, oK + i, none⟩ = some (.int .i64 k) := by
    have h := (OwnR.read ht4.1.keys okI.size).cell (x := k) HK.out (k := 0) (by decide)
    rw [show oK + (i * kindI.s + 0) = oK + i by show oK + (i * 1 + 0) = _; omega] at h
    exact h
   have hbT := ht4.1.blk.lt
   have hbK := (ht4.1.keys.lt gK rfl).2
   have hx4 : Ext w4 (w4.alloc (.cells #[.int .i64 i] 165)) := (Below.refl _ w4).alloc (Nat.le_refl _) _
   have he5 := he4.own ht4.1 rfl HN.out.keep (Moved.of_ext _ hx4)
   have hI5 := he5.inv
   have hs5 := he5.size rfl
   have HT5 := hid (ht4.1.ext hx4)
   have HT4 := hid ht4.1
   have hs4 := he4.size rfl
   have HE5 := hid he5
   have HX5 := hid (Blk.new w4 165 #[.int .i64 i])
   clear hq2 hm2 ht4 he4 he5 hx4
   go_wp2_with (with_reducible show wpList _ _ _ ((⟨_, Op.call { callee := .value (.tmp 41), args := _, argTypes := _ }, _, _, _, _⟩ : Oper) :: _) _ _
                go_loud (refine wpList_callv (args := #[kindI.enc k]) rfl (.tmp 41) #[.tmp 47] #[3] rfl HN.out.enters rfl rfl (HN.out.call k _ HUK.out hI5 hs5) ?_)
                rintro e w6 ⟨v, rfl, hR, hgv, hI6, hC6⟩
                refine ⟨v, rfl, ?_⟩
                have hT6 := HT5.out.kept hC6 HN.out.below
                have hgT : 0 < (succ k).length → ∀ g, v.ownBlock = some g → ¬ Or2 X (TO (w1.heap.size + 1 + 1) (w.heap.size + 1) (.slice (some ⟨gK, oK, none⟩) (tourN succ first i).keys.length cK) vN vF (.slice none 0 0) Sq2) g := by
                 intro h0 g e1 e2
                 rcases hgv h0 g e1 with ⟨e3, e4⟩ | e3
                 ·rcases e2 with e2 | e2
                  ·exact e4 e2
                  ·have := HT5.out.ge g e2; omega
                 ·rcases e2 with e2 | e2
                  ·have := HN.out.below g e2; omega
                  ·have := HT5.out.lt hs5 g e2; omega
                have hBT : ¬ Or2 X (TO (w1.heap.size + 1 + 1) (w.heap.size + 1) (.slice (some ⟨gK, oK, none⟩) (tourN succ first i).keys.length cK) vN vF (.slice none 0 0) Sq2) w4.heap.size := by
                 rintro (e2 | e2)
                 ·have := HN.out.below _ e2; simp at hs5; omega
                 ·have := HT4.out.lt hs4 _ e2; omega
                have HM6 : Hid (MidW kindI w X Inv w.heap.size (w1.heap.size + 1 + 1) (w.heap.size + 1) (b + 1) b w4.heap.size v (tourN succ first i).next i (succ k) (.slice (some ⟨gK, oK, none⟩) (tourN succ first i).keys.length cK) vN vF (.slice none 0 0) Sq2 (tourN succ first i).keys (tourN succ first i).keys us (tourN succ first i).from_ [] (i + 1) m w6) :=
                 hid ⟨hT6, HE5.out.next hI6 hC6, hR.rest0 hgT, Blk.rest (HX5.out.chg hC6 (fun e2 => hBT (.inl e2))) hBT⟩
                obtain ⟨aoR, cR, rfl, hgR⟩ := hR.form
                have HGR := hid hgR
                clear hT6 hgT hBT hR hgv hI6 hC6 hgR)
   have HM7 : Hid (L2W kindI w X Inv succ first most w.heap.size (w1.heap.size + 1 + 1) (w.heap.size + 1) (b + 1) b w4.heap.size (.slice aoR (succ k).length cR) i (succ k) 0 (visN i ⟨(tourN succ first i).keys, (tourN succ first i).from_, []⟩ (succ k) 0) (.slice (some ⟨gK, oK, none⟩) (tourN succ first i).keys.length cK) vN vF (.slice none 0 0) Sq2 us w6) := by
    have e : (tourN succ first i).keys.length - (i + 1) = m := by have := HM.out; rw [HKS.out] at this; omega
    refine hid ⟨?_, by show i + 1 ≤ (tourN succ first i).keys.length; rw [← HKS.out]; omega, H1.out.most, rfl, tourN_from_len succ first i⟩
    show MidW _ _ _ _ _ _ _ _ _ _ _ _ _ _ _ _ _ _ _ _ _ _ _ _ _ ((tourN succ first i).keys.length - (i + 1)) _
    rw [e]
    exact HM6.out
   clear HM6
   go_loopg [14, 50] (succ k).length (fun g vG v wx => ∃ j vK vF Sq, g = (succ k).length - j ∧ j ≤ (succ k).length ∧ v = .int .i64 j ∧ Hid (L2W kindI w X Inv succ first most w.heap.size (w1.heap.size + 1 + 1) (w.heap.size + 1) (b + 1) b w4.heap.size (.slice aoR (succ k).length cR) i (succ k) j (visN i ⟨(tourN succ first i).keys, (tourN succ first i).from_, []⟩ (succ k) j) vK vN vF vG Sq us wx))
   case atStart => exact ⟨0, _, _, _, rfl, Nat.zero_le _, rfl, HM7⟩
   case round =>
    obtain ⟨j, vK, vF', Sq3, rfl, hj, rfl, H2⟩ := hrel
    clear HM7
    obtain ⟨s, hs⟩ : ∃ s, s = visN i ⟨(tourN succ first i).keys, (tourN succ first i).from_, []⟩ (succ k) j := ⟨_, rfl⟩
    rw [← hs] at H2
    have HS := hid hs
    clear hs
    have hszx := H2.out.mid.env.size rfl
    have hle2 := H2.out.le
    have hmost2 := H2.out.most
    have hgl := H2.out.goes
    have hsl := HL.out k HUK.out
    have hsk : s.keys.length ≤ 100001 := by
     rcases HB.out with h | h
     ·omega
     ·have h2 := h (i + 1)
      rw [tourN_succ HK.out] at h2
      have h3 : (visN i ⟨(tourN succ first i).keys, (tourN succ first i).from_, []⟩ (succ k) (succ k).length).keys.length ≤ 100000 := h2
      have h4 := (visN_mono i ⟨(tourN succ first i).keys, (tourN succ first i).from_, []⟩ (succ k) hj).length_le
      rw [← HS.out] at h4
      omega
    rcases Nat.lt_or_ge j (succ k).length with hlt2 | hge2
    ·obtain ⟨x, hx⟩ : ∃ x, (succ k)[j]? = some x := ⟨_, List.getElem?_eq_getElem hlt2⟩
     obtain ⟨gR, oR, rfl⟩ := HGR.out (by omega)
     have c2 : wr.cell? ⟨gR, oR + j, none⟩ = some (.int .i64 x) := by
      have h := (H2.out.mid.row.out).cell hx (k := 0) (by decide)
      rw [show oR + (j * kindI.s + 0) = oR + j by show oR + (j * 1 + 0) = _; omega] at h
      exact h
     have hjI : (j : Int) < ((succ k).length : Int) := by omega
     have HXX := hid hx
     clear hx
     by_cases hmem : x ∈ s.keys
     ·obtain ⟨n, hn⟩ : ∃ n, n = s.keys.idxOf x := ⟨_, rfl⟩
      have hlook : alook (entries numV 0 s.keys) x = some (.int .i64 n) := by rw [entries_look, if_pos hmem, Nat.zero_add, ← hn]; rfl
      have HLK := hid hlook
      have HG2 := hid H2.out.mid.tr.goes
      have HNI := hid hn
      have HME := hid hmem
      have hgl1 : s.goes.length + 1 ≤ 1000000000 := by omega
      have HGL := hid hgl
      clear hlook hn hmem hgl
      go_wp2_with (first
       | (with_reducible show wpList _ _ _ ((⟨_, Op.lookup _ _ _ _, _, _, _, _⟩ : Oper) :: _) _ _
          go_loud (refine wpList_lookupB rfl (.tmp 56) (.tmp 57) 171 rfl 3 3 numV key_nat Tryz.underlying171 (w.heap.size + 1) (entries numV 0 s.keys) rfl H2.out.mid.tr.map (.int .i64 0) zero_int x rfl (some (.int .i64 n)) HLK.out ?_))
       | (at_builtin
          go_loud (refine wpList_append_R elem_int (fun _ => rfl) ones_int HG2 hszx hgl1 n _ rfl wr.heap.size rfl rfl _ _ rfl rfl rfl ?_)
          rintro g' c' v' w7 rfl G1 G2))
      go_roundg ((succ k).length - (j + 1))
      case measure => omega
      case rel =>
       have hP := TrW.num okI H2.out.mid.tr rfl G1.out G2.out.1 G2.out.2
       have hv : visN i ⟨(tourN succ first i).keys, (tourN succ first i).from_, []⟩ (succ k) (j + 1) = ⟨s.keys, s.from_, s.goes ++ [n]⟩ := by
        rw [visN_succ HXX.out, ← HS.out, vis1, if_pos HME.out, HNI.out]
       refine ⟨j + 1, vK, vF', Sq3, rfl, by omega, by go_num, hid ?_⟩
       rw [hv]
       exact ⟨H2.out.mid.go HN.out.keep hP.1 hP.2, hle2, hmost2, by simp [HGL.out], H2.out.from_⟩
     ·have hlook : alook (entries numV 0 s.keys) x = none := by rw [entries_look, if_neg hmem]
      obtain ⟨aoS, cS, rfl, hgS⟩ := (OwnR.read H2.out.mid.tr.keys okI.size).form
      obtain ⟨sk, hsk2⟩ : ∃ sk, sk = s.keys.length := ⟨_, rfl⟩
      have c3 : wr.cell? ⟨w1.heap.size + 1 + 1, 0, none⟩ = some (.slice aoS s.keys.length cS) := H2.out.mid.tr.blk.cell (i := 0) rfl
      rw [← hsk2] at c3 hsk hle2 hmost2
      have HSK := hid hsk2
      have HLK := hid hlook
      have HME := hid hmem
      have HGL := hid hgl
      clear hlook hmem hgl hgS hsk2
      by_cases hM : most ≤ sk
      ·have hR := H2.out.mid.env.res.out
       have r0 : wr.cell? ⟨w.heap.size, 0, none⟩ = some (.slice none 0 0) := hR.cell (i := 0) rfl
       have r1 : wr.cell? ⟨w.heap.size, 1, none⟩ = some (.slice none 0 0) := hR.cell (i := 1) rfl
       have r2 : wr.cell? ⟨w.heap.size, 2, none⟩ = some (.slice none 0 0) := hR.cell (i := 2) rfl
       have rf := hR.frozen
       have rl := hR.lt
       have HR := hid hR
       clear hR
       go_wp2_with (first
        | (with_reducible show wpList _ _ _ ((⟨_, Op.lookup _ _ _ _, _, _, _, _⟩ : Oper) :: _) _ _
           go_loud (refine wpList_lookupB rfl (.tmp 56) (.tmp 57) 171 rfl 3 3 numV key_nat Tryz.underlying171 (w.heap.size + 1) (entries numV 0 s.keys) rfl H2.out.mid.tr.map (.int .i64 0) zero_int x rfl none HLK.out ?_)))
       try rw [Exit.noGoto_ret]
       have h3 : Blk (((wr.setCell ⟨w.heap.size, 0, none⟩ (.slice none 0 0)).setCell ⟨w.heap.size, 1, none⟩ (.slice none 0 0)).setCell ⟨w.heap.size, 2, none⟩ (.slice none 0 0)) w.heap.size 89 #[.slice none 0 0, .slice none 0 0, .slice none 0 0] := ((HR.out.set 0 _).set 1 _).set 2 _
       have cc : Chg (fun k => w.heap.size ≤ k) wr (((wr.setCell ⟨w.heap.size, 0, none⟩ (.slice none 0 0)).setCell ⟨w.heap.size, 1, none⟩ (.slice none 0 0)).setCell ⟨w.heap.size, 2, none⟩ (.slice none 0 0)) :=
        Chg.setCell (p := ⟨w.heap.size, 2, none⟩) (Chg.setCell (p := ⟨w.heap.size, 1, none⟩) (Chg.setCell (p := ⟨w.heap.size, 0, none⟩) (Chg.refl _ wr) (Nat.le_refl w.heap.size) _) (Nat.le_refl w.heap.size) _) (Nat.le_refl w.heap.size) _
       show bodyPost Tryz.prog Tryz.f51 (fun e w' => TravelPost kindI w.heap.size X Inv succ first most w e w') Exit.ret _ _
       refine bodyPost_ret (v := .tuple #[.agg #[.slice none 0 0, .slice none 0 0, .slice none 0 0], .bool false]) (results_cell_agg_tmp Tryz.results51 _ _ w.heap.size 89 #[.slice none 0 0, .slice none 0 0, .slice none 0 0] _ _ rfl rfl h3 Tryz.underlying89 rfl (by kernel_rfl)) rfl ?_
       refine ⟨HN.out.keep _ _ H2.out.mid.env.inv cc, chg_x H2.out.mid.env.chg rfl cc, .inr ⟨i + 1, ?_, rfl⟩⟩
       have e1 : visN i ⟨(tourN succ first i).keys, (tourN succ first i).from_, []⟩ (succ k) (j + 1) = ⟨s.keys ++ [x], s.from_ ++ [(i, j)], s.goes ++ [s.keys.length]⟩ := by
        rw [visN_succ HXX.out, ← HS.out, vis1, if_neg HME.out]
       have e2 := (visN_mono i ⟨(tourN succ first i).keys, (tourN succ first i).from_, []⟩ (succ k) (show j + 1 ≤ (succ k).length by omega)).length_le
       rw [e1, List.length_append, ← HSK.out] at e2
       rw [tourN_succ HK.out]
       show most < (visN i ⟨(tourN succ first i).keys, (tourN succ first i).from_, []⟩ (succ k) (succ k).length).keys.length
       simp only [List.length_singleton] at e2
       omega
      ·have hlt3 : sk < most := by omega
       go_upto_region 17 with (first
        | (with_reducible show wpList _ _ _ ((⟨_, Op.lookup _ _ _ _, _, _, _, _⟩ : Oper) :: _) _ _
           go_loud (refine wpList_lookupB rfl (.tmp 56) (.tmp 57) 171 rfl 3 3 numV key_nat Tryz.underlying171 (w.heap.size + 1) (entries numV 0 s.keys) rfl H2.out.mid.tr.map (.int .i64 0) zero_int x rfl none HLK.out ?_))
        | (with_reducible show wpList _ _ _ ((⟨_, Op.mapUpdate _ _ _ _, _, _, _, _⟩ : Oper) :: _) _ _
           go_loud (refine wpList_mapUpdateB _ rfl (.tmp 70) (.tmp 71) (.tmp 72) 171 (.inl rfl) 3 3 numV key_nat Tryz.underlying171 (w.heap.size + 1) (entries numV 0 s.keys) rfl H2.out.mid.tr.map x (numV sk) rfl rfl ?_)
           intro w7 hM7 hg7
           have HM7 := hid hM7
           have HG7 := hid hg7
           clear hM7 hg7))
       have hM7' : MapB w7 (w.heap.size + 1) numV (aput (entries numV 0 s.keys) x (numV s.keys.length)) := by rw [← HSK.out]; exact HM7.out
       have P1 := TrW.put H2.out.mid.tr HME.out hM7' HG7.out
       have N1 := H2.out.mid.go HN.out.keep P1.1 P1.2
       have hs7 := N1.env.size rfl
       have c4 : w7.cell? ⟨w1.heap.size + 1 + 1, 0, none⟩ = some (.slice aoS s.keys.length cS) := N1.tr.blk.cell (i := 0) rfl
       have f4 := N1.tr.blk.frozen
       have l4 := N1.tr.blk.lt
       have HK1 := hid N1.tr.keys
       have HN1 := hid N1
       obtain ⟨vK1, hv1⟩ : ∃ v, v = Value.slice aoS s.keys.length cS := ⟨_, rfl⟩
       rw [← hv1] at c4 HK1 HN1
       have hgk1 : s.keys.length + 1 ≤ 1000000000 := by rw [← HSK.out]; omega
       clear P1 hM7' N1 HM7 HG7 hv1
       go_upto_region 18 with (first
        | (at_builtin
           go_loud (refine wpList_append_R elem_int (fun _ => rfl) ones_int HK1 hs7 hgk1 x _ rfl w7.heap.size rfl rfl _ _ rfl rfl rfl ?_)
           rintro g' c' v' w8 rfl G1 G2
           have b8 := (TrW.app okI HN1.out.tr hs7 rfl G1.out G2.out.1 G2.out.2).1
           have c5 : w8.cell? ⟨w1.heap.size + 1 + 1, 0, none⟩ = some vK1 := b8.cell (i := 0) rfl
           have f5 := b8.frozen
           have l5 := b8.lt
           clear b8))
       have P2 := TrW.app okI HN1.out.tr hs7 rfl G1.out G2.out.1 G2.out.2
       have N2 := HN1.out.go HN.out.keep P2.2.1 P2.2.2
       obtain ⟨vK2, hv2⟩ : ∃ v, v = Value.slice (some ⟨g', 0, none⟩) (s.keys.length + 1) c' := ⟨_, rfl⟩
       rw [← hv2] at N2 ⊢
       obtain ⟨w9, hw9⟩ : ∃ u, u = w8.setCell ⟨w1.heap.size + 1 + 1, 0, none⟩ vK2 := ⟨_, rfl⟩
       rw [← hw9] at N2 ⊢
       have hs9 := N2.env.size rfl
       have c6 : w9.cell? ⟨w1.heap.size + 1 + 1, 2, none⟩ = some vF' := N2.tr.blk.cell (i := 2) rfl
       have f6 := N2.tr.blk.frozen
       have l6 := N2.tr.blk.lt
       have d6 : w9.cell? ⟨w4.heap.size, 0, none⟩ = some (.int .i64 i) := N2.box.out.cell (i := 0) rfl
       have m6 := N2.box.out.lt
       have HF2 := hid N2.tr.from_
       have HN2 := hid N2
       have hgf1 : s.from_.length + 1 ≤ 1000000000 := by rw [H2.out.from_, ← HSK.out]; omega
       clear P2 N2 hv2 hw9 HN1 HK1 G1 G2 c4
       go_upto_region 19 with (first
        | (at_builtin
           go_loud (refine wpList_append_R elem_step (fun _ => rfl) ones_step HF2 hs9 hgf1 (i, j) _ rfl w9.heap.size rfl rfl _ _ rfl rfl rfl ?_)
           rintro g2 c2' v2 w10 rfl G1 G2
           have b8 := (TrW.step okI HN2.out.tr rfl G1.out G2.out.1 G2.out.2).1
           have c7 : w10.cell? ⟨w1.heap.size + 1 + 1, 2, none⟩ = some vF' := b8.cell (i := 2) rfl
           have f7 := b8.frozen
           have l7 := b8.lt
           clear b8))
       have P3 := TrW.step okI HN2.out.tr rfl G1.out G2.out.1 G2.out.2
       have N3 := HN2.out.go HN.out.keep P3.2.1 P3.2.2
       obtain ⟨vF2, hv3⟩ : ∃ v, v = Value.slice (some ⟨g2, 0, none⟩) (s.from_.length + 1) c2' := ⟨_, rfl⟩
       rw [← hv3] at N3 ⊢
       obtain ⟨w11, hw11⟩ : ∃ u, u = w10.setCell ⟨w1.heap.size + 1 + 1, 2, none⟩ vF2 := ⟨_, rfl⟩
       rw [← hw11] at N3 ⊢
       have hs11 := N3.env.size rfl
       have hzn : (sk : Int) = ((i + 1 + (s.keys.length - (i + 1)) : Nat) : Int) := by rw [HSK.out]; have := H2.out.le; omega
       have hbn : i + 1 + (s.keys.length - (i + 1)) ≤ 100000000 := by rw [← HSK.out]; omega
       have hput := putRz N3.tr.que hbn sk hzn
       have HPT := hid hput
       have HN3 := hid N3
       clear P3 N3 hv3 hw11 HN2 HF2 G1 G2 hzn hbn hput c6 c7 f6 f7 l6 l7 d6 m6
       go_wp2_with fail
       go_at_call 104
       refine HPT.out.mono ?_
       rintro e w12 ⟨rfl, Sq4, hq4, hm4⟩
       have P4 := TrW.turn okI HN3.out.tr hs11 hq4 hm4
       have N4 := HN3.out.go HN.out.keep P4.1 P4.2
       have hs12 := N4.env.size rfl
       have HG4 := hid N4.tr.goes
       have HN4 := hid N4
       have hgl1 : s.goes.length + 1 ≤ 1000000000 := by have := H2.out.goes; omega
       clear P4 N4 hq4 hm4 HN3 HPT
       go_wp2_with (first
        | (at_builtin
           go_loud (refine wpList_append_R elem_int (fun _ => rfl) ones_int HG4 hs12 hgl1 sk _ rfl w12.heap.size rfl rfl _ _ rfl rfl rfl ?_)
           rintro g4 c4' v4 w13 rfl G1 G2))
       go_roundg ((succ k).length - (j + 1))
       case measure => omega
       case rel =>
        have P5 := TrW.num okI HN4.out.tr rfl G1.out G2.out.1 G2.out.2
        have hv : visN i ⟨(tourN succ first i).keys, (tourN succ first i).from_, []⟩ (succ k) (j + 1) = ⟨s.keys ++ [x], s.from_ ++ [(i, j)], s.goes ++ [sk]⟩ := by
         rw [visN_succ HXX.out, ← HS.out, vis1, if_neg HME.out, HSK.out]
        refine ⟨j + 1, vK2, vF2, Sq4, rfl, by omega, by go_num, hid ?_⟩
        rw [hv]
        have hle3 : i + 1 ≤ s.keys.length := H2.out.le
        have e1 : (s.keys ++ [x]).length - (i + 1) = s.keys.length - (i + 1) + 1 := by simp; omega
        refine ⟨?_, by simp; omega, by simp [← HSK.out]; omega, by simp [HGL.out], by simp [H2.out.from_]⟩
        show MidW _ _ _ _ _ _ _ _ _ _ _ _ _ _ _ _ _ _ _ (s.keys ++ [x]) (s.keys ++ [x]) _ (s.from_ ++ [(i, j)]) (s.goes ++ [sk]) _ ((s.keys ++ [x]).length - (i + 1)) _
        rw [e1]
        exact HN4.out.go HN.out.keep P5.1 P5.2
    ·obtain rfl : j = (succ k).length := by omega
     obtain ⟨aoG, cG, rfl, -⟩ := (OwnR.read H2.out.mid.tr.goes (fun _ => rfl)).form
     have c3 : wr.cell? ⟨w1.heap.size + 1 + 1, 1, none⟩ = some vN := H2.out.mid.tr.blk.cell (i := 1) rfl
     have f3 := H2.out.mid.tr.blk.frozen
     have l3 := H2.out.mid.tr.blk.lt
     have HN2 := hid H2.out.mid.tr.next
     have hgu : us.length + 1 ≤ 1000000000 := by
      rw [H2.out.mid.env.len, tourN_next_len succ first i (by rw [← HKS.out]; omega)]; omega
     have HGL := hid hgl
     clear hgl
     go_wp2_with (first
      | (at_builtin
         go_loud (refine wpList_append_R elem_row (fun _ => rfl) ones_row HN2 hszx hgu (.slice aoG s.goes.length cG) _ rfl wr.heap.size rfl rfl _ _ rfl rfl rfl ?_)
         rintro g' c' v' w7 rfl G1 G2
         have b8 := (TrW.row okI H2.out.mid.tr rfl G1.out G2.out.1 G2.out.2).1
         have c7 : w7.cell? ⟨w1.heap.size + 1 + 1, 1, none⟩ = some vN := b8.cell (i := 1) rfl
         have f7 := b8.frozen
         have l7 := b8.lt
         clear b8))
     go_roundg (100001 - (i + 1))
     case measure => omega
     case rel =>
      have P2 := TrW.row okI H2.out.mid.tr rfl G1.out G2.out.1 G2.out.2
      have P3 := H2.out.mid.end_ okI HN.out.below HN.out.keep P2.2.1 P2.2.2
      refine ⟨i + 1, vK, .slice (some ⟨g', 0, none⟩) (us.length + 1) c', vF', Sq3, us ++ [.slice aoG s.goes.length cG], rfl, trivial, hid ?_⟩
      have hv : tourN succ first (i + 1) = ⟨s.keys, (tourN succ first i).next ++ [s.goes], s.from_⟩ := by
       rw [tourN_succ HK.out, rowOf, ← HS.out]
      refine ⟨?_, by rw [hv]; exact H2.out.le, by rw [hv]; exact H2.out.most, by rw [hv]; exact P3.2⟩
      rw [hv]
      exact P3.1
  ·have hie : i = (tourN succ first i).keys.length := by omega
   have hq := H1.out.tr.que
   have hz : (tourN succ first i).keys.length - i = 0 := by omega
   rw [hz] at hq
   have HIE := hid hie
   obtain ⟨aoK, cK, rfl, -⟩ := (OwnR.read H1.out.tr.keys okI.size).form
   obtain ⟨aoN, cN, rfl, -⟩ := (OwnR.read H1.out.tr.next (fun _ => rfl)).form
   obtain ⟨aoF, cF, rfl, -⟩ := (OwnR.read H1.out.tr.from_ (fun _ => rfl)).form
   have HQ1 := hid hq
   obtain ⟨kl, hkl⟩ : ∃ n, n = (tourN succ first i).keys.length := ⟨_, rfl⟩
   obtain ⟨fl, hfl⟩ : ∃ n, n = (tourN succ first i).from_.length := ⟨_, rfl⟩
   rw [← hkl, ← hfl] at H1
   have HKL := hid hkl
   have HFL := hid hfl
   clear hie hz hq hkl hfl
   go_wp2_with fail
   go_at_call 105
   refine (takeR_none HQ1.out).mono ?_
   rintro e w4 ⟨rfl, hE⟩
   have hb4 : Blk w4 (w1.heap.size + 1 + 1) 89 #[.slice aoK kl cK, .slice aoN us.length cN, .slice aoF fl cF] := H1.out.tr.blk.ext hE
   have c0 : w4.cell? ⟨w1.heap.size + 1 + 1, 0, none⟩ = some (.slice aoK kl cK) := hb4.cell (i := 0) rfl
   have c1 : w4.cell? ⟨w1.heap.size + 1 + 1, 1, none⟩ = some (.slice aoN us.length cN) := hb4.cell (i := 1) rfl
   have c2 : w4.cell? ⟨w1.heap.size + 1 + 1, 2, none⟩ = some (.slice aoF fl cF) := hb4.cell (i := 2) rfl
   have l4 := hb4.lt
   have hR := H1.out.env.res.out.ext hE
   have r0 : w4.cell? ⟨w.heap.size, 0, none⟩ = some (.slice none 0 0) := hR.cell (i := 0) rfl
   have r1 : w4.cell? ⟨w.heap.size, 1, none⟩ = some (.slice none 0 0) := hR.cell (i := 1) rfl
   have r2 : w4.cell? ⟨w.heap.size, 2, none⟩ = some (.slice none 0 0) := hR.cell (i := 2) rfl
   have rf := hR.frozen
   have rl := hR.lt
   have HR := hid hR
   have HX := hid hE
   clear hR hb4 hE
   go_wp2_with fail
   try rw [Exit.noGoto_ret]
   have h3 : Blk ((((w4.setCell ⟨w.heap.size, 0, none⟩ (.slice aoK kl cK)).setCell ⟨w.heap.size, 1, none⟩ (.slice aoN us.length cN)).setCell ⟨w.heap.size, 2, none⟩ (.slice aoF fl cF)).alloc (.cells #[.int .i64 0] 165)) w.heap.size 89 #[.slice aoK kl cK, .slice aoN us.length cN, .slice aoF fl cF] := (((HR.out.set 0 _).set 1 _).set 2 _).alloc _
   have cc : Chg (fun k => k = w.heap.size) wr ((((w4.setCell ⟨w.heap.size, 0, none⟩ (.slice aoK kl cK)).setCell ⟨w.heap.size, 1, none⟩ (.slice aoN us.length cN)).setCell ⟨w.heap.size, 2, none⟩ (.slice aoF fl cF)).alloc (.cells #[.int .i64 0] 165)) :=
    Chg.alloc (Chg.setCell (p := ⟨w.heap.size, 2, none⟩) (S := fun k => k = w.heap.size) (Chg.setCell (p := ⟨w.heap.size, 1, none⟩) (S := fun k => k = w.heap.size) (Chg.setCell (p := ⟨w.heap.size, 0, none⟩) (S := fun k => k = w.heap.size) (Chg.of_ext HX.out) rfl (.slice aoK kl cK)) rfl (.slice aoN us.length cN)) rfl (.slice aoF fl cF)) (.cells #[.int .i64 0] 165)
   show bodyPost Tryz.prog Tryz.f51 (fun e w' => TravelPost kindI w.heap.size X Inv succ first most w e w') Exit.ret _ _
   refine bodyPost_ret (v := .tuple #[.agg #[.slice aoK kl cK, .slice aoN us.length cN, .slice aoF fl cF], .bool true]) (results_cell_agg_tmp Tryz.results51 _ _ w.heap.size 89 #[.slice aoK kl cK, .slice aoN us.length cN, .slice aoF fl cF] _ _ rfl rfl h3 Tryz.underlying89 rfl (by kernel_rfl)) rfl ?_
   have P := H1.out.tour okI HN.out.keep cc
   exact ⟨P.1, P.2.1, .inl ⟨i, _, _, _, HIE.out, by have := H1.out.most; have := HIE.out; omega, rfl, P.2.2⟩⟩
end Go.Proofs.YtngpjagpeblbjaaGreatDoor
namespace Go.Proofs.YtngpjagpeblbjaaGreatDoor
open Go.RowKit Go.Spy Go.Heaped Go.Tour Go.Rx
theorem ReadR.map_in {α β : Type} {w : World} {s : Nat} {f : β → Array Value} {v : Value} {h : α → β} {l : List α} (H : ReadR w s f v (l.map h)) : ReadR w s (fun x => f (h x)) v l := by
 obtain ⟨ao, c, e, hh⟩ := H
 rw [List.length_map] at e hh
 refine ⟨ao, c, e, hh.imp id ?_⟩
 rintro ⟨g, off, e1, e2, e3⟩
 exact ⟨g, off, e1, e2, fun j k x hx hk => e3 j k (h x) (by rw [List.getElem?_map, hx]; rfl) hk⟩
theorem ReadR.map_out {α β : Type} {w : World} {s : Nat} {f : β → Array Value} {v : Value} {h : α → β} {l : List α} (H : ReadR w s (fun x => f (h x)) v l) : ReadR w s f v (l.map h) := by
 obtain ⟨ao, c, e, hh⟩ := H
 refine ⟨ao, c, by rw [List.length_map]; exact e, ?_⟩
 rw [List.length_map]
 refine hh.imp id ?_
 rintro ⟨g, off, e1, e2, e3⟩
 refine ⟨g, off, e1, e2, fun j k x hx hk => ?_⟩
 rw [List.getElem?_map, Option.map_eq_some_iff] at hx
 obtain ⟨y, hy, rfl⟩ := hx
 exact e3 j k y hy hk
theorem nat_int {w : World} {v : Value} {l : List Nat} : ReadR w 1 natA v l ↔ ReadR w 1 intZ v (l.map Int.ofNat) := ⟨fun h => ReadR.map_out (h := Int.ofNat) (f := intZ) h, fun h => ReadR.map_in (f := intZ) h⟩
theorem ReadR.own_lt {α : Type} {w : World} {s : Nat} {f : α → Array Value} {v : Value} {l : List α} (h : ReadR w s f v l) (h0 : 0 < l.length) {g : Nat} (hg : v.ownBlock = some g) : g < w.heap.size := by
 obtain ⟨ao, c, rfl, hh⟩ := h
 rcases hh with hh | ⟨g', off, rfl, hl, _⟩
 ·omega
 ·simp [Value.ownBlock] at hg
  omega
theorem DfaP.rowN {w : World} {vS vN vF : Value} {us : List Value} {D : DA} (h : DfaP w vS vN vF us D.raw) (W : WellD nameOk D) {s : Nat} (hs : s < D.next.length) :
 ∃ ao c, us[s]? = some (.slice ao D.syms.length c) ∧ ReadR w 1 natA (.slice ao D.syms.length c) (fan (stepD D) D.syms.length s) := by
 obtain ⟨ao, c, hu, hR⟩ := h.row (raw_row (W.ok.fan hs))
 rw [List.length_map, fan_length] at hu hR
 exact ⟨ao, c, hu, nat_int.2 hR⟩
theorem enters52 : Enters Tryz.prog 52 := fun _ _ => by kernel_rfl
theorem enters50 : Enters Tryz.prog 50 := fun _ _ => by kernel_rfl
set_option maxRecDepth 100000 in
theorem least1_any {w : World} {b : Nat} {vS vN vF : Value} {us : List Value} {D : DA} (hb : Blk w b 26 #[vS, vN, vF]) (hP : DfaP w vS vN vF us D.raw) (W : WellD nameOk D) {s : Nat} (hs : s < D.next.length) :
 Calls Tryz.prog 52 #[.int .i64 s, .pointer (some ⟨b, 0, none⟩)] w fun e w' => (∃ v, e = .returned v ∧ us[s]? = some v ∧ ReadR w 1 natA v (fan (stepD D) D.syms.length s)) ∧ w = w' := by
 obtain ⟨ao, c, hu, hR⟩ := hP.rowN W hs
 obtain ⟨aoN, cN, rfl, hN⟩ := hP.next.form
 rw [hP.len] at hN
 have hlen : us.length = D.next.length := by rw [hP.len]; simp [DF.raw]
 have hbn := W.most
 obtain ⟨gN, oN, rfl⟩ := hN (by simp [DF.raw]; omega)
 have c0 : w.cell? ⟨b, 1, none⟩ = some (.slice (some ⟨gN, oN, none⟩) us.length cN) := hb.cell rfl
 have c1 : w.cell? ⟨gN, oN + s, none⟩ = some (.slice ao D.syms.length c) := hP.next.cell1 hu
 obtain ⟨n, hn⟩ : ∃ n, n = us.length := ⟨_, rfl⟩
 obtain ⟨m, hm⟩ : ∃ m, m = D.syms.length := ⟨_, rfl⟩
 rw [← hn] at c0
 rw [← hm] at c1 hR hu
 have hsn : s < n := by omega
 have hbn2 : n ≤ 256 := by omega
 have HR := hid hR
 have HU := hid hu
 have HM := hid hm
 clear hR hu hN hn hm hP hb hlen
 go_enter Tryz.func52, Tryz.ntmps52
 go_wp2_with fail
 go_ret
 refine ⟨⟨_, rfl, HU.out, ?_⟩, rfl⟩
 rw [← HM.out]
 exact HR.out
theorem next_ok_int {w : World} {f : FuncId} {b : Nat} {vS vN vF : Value} {us : List Value} {D : DA} (hE : Enters Tryz.prog f) (_hb : Blk w b 26 #[vS, vN, vF]) (hP : DfaP w vS vN vF us D.raw) (W : WellD nameOk D)
 (hc : ∀ (s : Nat) w', s < D.next.length → Ext w w' → Calls Tryz.prog f #[.int .i64 s, .pointer (some ⟨b, 0, none⟩)] w' fun e w'' => (∃ v, e = .returned v ∧ us[s]? = some v ∧ ReadR w' 1 natA v (fan (stepD D) D.syms.length s)) ∧ w' = w'') :
 NextOk kindI f #[.pointer (some ⟨b, 0, none⟩)] w.heap.size (fun _ => False) (fun w' => Ext w w') (fun s => s < D.next.length) (fan (stepD D) D.syms.length) where
 enters := hE
 keep := fun a b' i c => i.trans (c.below i.size (fun k e => e))
 below := fun k e => e.elim
 call := fun k w' u i s => by
  have h := hc k w' u i
  refine Calls.mono (by simpa [kindI, numV] using h) ?_
  rintro e w'' ⟨⟨v, rfl, hu, hR⟩, rfl⟩
  refine ⟨v, rfl, hR, fun h0 g hg => ?_, i, Chg.refl _ _⟩
  obtain ⟨ao, c, hu2, hR2⟩ := hP.rowN W u
  rw [hu] at hu2
  cases hu2
  exact .inl ⟨hR2.own_lt h0 hg, fun x => x⟩
 univ := fun k _ k' hk => by
  simp only [fan, List.mem_map, List.mem_range] at hk
  obtain ⟨c, _, rfl⟩ := hk
  exact W.ok.step k c
end Go.Proofs.YtngpjagpeblbjaaGreatDoor
