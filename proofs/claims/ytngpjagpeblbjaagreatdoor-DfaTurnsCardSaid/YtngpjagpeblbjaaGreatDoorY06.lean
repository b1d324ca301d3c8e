/-
  What calls answer, in the form in which the laws' walks take it.
  Walks of the reference's same (of lists) and number.
  Plain law of the reference's First: pairs of states as lists of two numbers, gone through in order.
  Memory of the reference's First: the rows, and the pairs that have been seen.
  Cells of an automaton as the reference's First reads them; the second one, which may be none.
  Plain law: a key that is new in a row of a tour: its words.
  Memory of the reference's automata of tours: the states in lists of numbers, the rows, what is final; the row under way.
  Plain law: the table of states that match unlike rows, filled until nothing turns; the least state of each class; the automaton of those.
-/
import Derived.Test.YtngpjagpeblbjaaGreatDoorY04
import Derived.Test.YtngpjagpeblbjaaGreatDoorY05
namespace Go.Proofs.YtngpjagpeblbjaaGreatDoor
open Go.RowKit Go.Spy Go.Heaped Go.Tour Go.Rx
section
variable {A B D : DA}
theorem lenD_of (W : OkD D) (hn : D.next.length ≤ 100000) (hs : D.syms.length ≤ 100000) (hb : ∀ s ∈ D.syms, s.size ≤ 1000000) : LenD D.raw := by
 have hf := W.fin
 refine ⟨mild_small hs hb, ?_, ?_, fun r hr => ?_⟩
 ·show (D.next.map _).length ≤ _
  rw [List.length_map]; omega
 ·show D.fin.length ≤ _
  omega
 ·simp only [DF.raw, List.mem_map] at hr
  obtain ⟨r', h1, rfl⟩ := hr
  rw [List.length_map, W.row r' h1]
  omega
theorem okD_raw (W : OkD D) : D.raw.fin.length = D.raw.next.length := by
 show D.fin.length = (D.next.map _).length
 rw [List.length_map, W.fin]
theorem min_lenD {S : DA} (h : MinD D S) (W : WellD nameOk D) (B : BndD D.raw) : LenD S.raw :=
 lenD_of h.ok (by have := h.len; have := W.most; omega) (by rw [h.syms]; have : D.syms.length ≤ 1000 := B.s; omega) (by rw [h.syms]; exact B.b)
theorem SmallD.len {d : DR} (h : SmallD d) : LenD d := ⟨mild_small (by have := h.2.2.2.2; omega) (fun s hs => by have := h.2.1 s hs; omega), by have := h.2.2.1; omega, by have := h.2.2.2.1; omega, fun r hr => by have := h.1 r hr; omega⟩
theorem not_in {w : World} {x : Array Value} (hA : DfaW w (.agg x) A) : Calls Tryz.prog 14 #[.agg x] w fun e w' => ∃ aoS n1 cS aoN n2 cN aoF n3 cF, e = .returned (.tuple #[.agg #[.slice aoS n1 cS, .slice aoN n2 cN, .slice aoF n3 cF], .int .i64 0]) ∧ DfaW w' (.agg #[.slice aoS n1 cS, .slice aoN n2 cN, .slice aoF n3 cF]) (notD A) ∧ Ext w w' := by
 refine (not_any hA).mono ?_
 rintro e w' ⟨v, rfl, hN, hx⟩
 have hv := hN.at_
 obtain ⟨vS, vN, vF, us, rfl, _⟩ := hv
 obtain ⟨aoS, n1, cS, aoN, n2, cN, aoF, n3, cF, h⟩ := hN.open_
 exact ⟨aoS, n1, cS, aoN, n2, cN, aoF, n3, cF, by rw [h], by rw [← h]; exact hN, hx⟩
theorem DfaV.open_ {w : World} {v : Value} {d : DR} (h : DfaV w v d) : ∃ aoS n1 cS aoN n2 cN aoF n3 cF, v = .agg #[.slice aoS n1 cS, .slice aoN n2 cN, .slice aoF n3 cF] := by
 obtain ⟨vS, vN, vF, us, rfl, hP⟩ := h
 obtain ⟨aoS, cS, rfl, -⟩ := hP.syms.form
 obtain ⟨aoN, cN, rfl, -⟩ := hP.next.form
 obtain ⟨aoF, cF, rfl, -⟩ := hP.fin.form
 exact ⟨_, _, _, _, _, _, _, _, _, rfl⟩
theorem small_in {w : World} {x : Array Value} (hA : DfaW w (.agg x) A) : Calls Tryz.prog 18 #[.agg x] w fun e w' => ∃ aoS n1 cS aoN n2 cN aoF n3 cF S, e = .returned (.tuple #[.agg #[.slice aoS n1 cS, .slice aoN n2 cN, .slice aoF n3 cF], .int .i64 0]) ∧ MinD A S ∧ DfaV w' (.agg #[.slice aoS n1 cS, .slice aoN n2 cN, .slice aoF n3 cF]) S.raw ∧ Ext w w' := by
 refine (dsmall_any hA).mono ?_
 rintro e w' ⟨hx, v, S, rfl, hm, hv⟩
 obtain ⟨aoS, n1, cS, aoN, n2, cN, aoF, n3, cF, rfl⟩ := hv.open_
 exact ⟨aoS, n1, cS, aoN, n2, cN, aoF, n3, cF, S, rfl, hm, hv, hx⟩
end
end Go.Proofs.YtngpjagpeblbjaaGreatDoor
namespace Go.Proofs.YtngpjagpeblbjaaGreatDoor
open Go.RowKit Go.Spy Go.Heaped Go.Tour Go.Rx
set_option maxRecDepth 100000 in
set_option maxHeartbeats 1000000 in
theorem isame_any {w : World} {v1 v2 : Value} {us vs : List Int} (h1 : ReadR w 1 intZ v1 us) (h2 : ReadR w 1 intZ v2 vs) (hl : us.length ≤ 1000000000) : Calls Tryz.prog 118 #[v1, v2] w fun e w' => e = .returned (.bool (decide (us = vs))) ∧ Ext w w' := by
 obtain ⟨a1, c1, rfl, s1⟩ := h1.form
 obtain ⟨a2, c2, rfl, s2⟩ := h2.form
 obtain ⟨n, hn⟩ : ∃ n, n = us.length := ⟨_, rfl⟩
 obtain ⟨m, hm⟩ : ∃ n, n = vs.length := ⟨_, rfl⟩
 have H1 := hid h1
 have H2 := hid h2
 rw [← hn] at H1 s1 hl ⊢
 rw [← hm] at H2 s2 ⊢
 have HS1 := hid s1
 have HS2 := hid s2
 have HN := hid hn
 have HM := hid hm
 clear h1 h2 s1 s2 hn hm
 by_cases hnm : n = m
 rotate_left
 ·have t : ((n : Int) != (m : Int)) = true := by simp; omega
  have HNM := hid hnm
  clear hnm
  go_enter Tryz.func118, Tryz.ntmps118
  go_wp2_with fail
  go_ret
  refine ⟨ret_bool ?_, Below.refl _ _⟩
  symm
  refine decide_eq_false ?_
  rintro rfl
  exact HNM.out (HN.out.trans HM.out.symm)
 ·have HNM := hid hnm
  have t : ((n : Int) != (m : Int)) = false := by simp [hnm]
  clear hnm
  go_enter Tryz.func118, Tryz.ntmps118
  go_wp2_with fail
  go_loopg [5] n (fun g u wr => ∃ k, g = n - k ∧ k ≤ n ∧ u = .int .i64 k ∧ Hid (Ext w wr) ∧ Hid (∀ (i : Nat) (y z : Int), i < k → us[i]? = some y → vs[i]? = some z → y = z))
  case atStart => exact ⟨0, rfl, Nat.zero_le _, rfl, hid (Below.refl _ _), hid (fun j r s h => absurd h (Nat.not_lt_zero j))⟩
  case round =>
   obtain ⟨k, rfl, hk, rfl, HE, HA⟩ := hrel
   by_cases hlt : k < n
   ·have hlt2 : k < m := by rw [← HNM.out]; exact hlt
    obtain ⟨g1, o1, rfl⟩ := HS1.out (by omega)
    obtain ⟨g2, o2, rfl⟩ := HS2.out (by omega)
    obtain ⟨y, hy⟩ : ∃ y, us[k]? = some y := ⟨_, List.getElem?_eq_getElem (by rw [← HN.out]; exact hlt)⟩
    obtain ⟨z, hz⟩ : ∃ y, vs[k]? = some y := ⟨_, List.getElem?_eq_getElem (by rw [← HM.out]; exact hlt2)⟩
    have c5 : wr.cell? ⟨g1, o1 + k, none⟩ = some (.int .i64 y) := by
     have h := H1.out.ext HE.out
     rw [HN.out] at h
     exact h.cell1 hy
    have c6 : wr.cell? ⟨g2, o2 + k, none⟩ = some (.int .i64 z) := by
     have h := H2.out.ext HE.out
     rw [HM.out] at h
     exact h.cell1 hz
    have HY := hid hy
    have HZ := hid hz
    have i3 : (0 : Int) ≤ (k : Int) := by omega
    have i4 : (k : Int) < (n : Int) := by omega
    have i5 : (k : Int) < (m : Int) := by omega
    clear hy hz
    by_cases hyz : y = z
    ·have t : (y != z) = false := by simp [hyz]
     have HYZ := hid hyz
     clear hyz
     go_wp2_with fail
     go_quiet (fail)
     go_wp2_with fail
     go_roundg (n - (k + 1))
     case measure => omega
     case rel =>
      refine ⟨k + 1, rfl, by omega, by go_num, hid (ext_drewN HE.out _), hid fun i y' z' hi hy' hz' => ?_⟩
      by_cases e : i = k
      ·subst e
       rw [HY.out] at hy'; rw [HZ.out] at hz'
       cases hy'; cases hz'; exact HYZ.out
      ·exact HA.out i y' z' (by omega) hy' hz'
    ·have t : (y != z) = true := by simp [hyz]
     have HYZ := hid hyz
     clear hyz
     go_wp2_with fail
     go_quiet (fail)
     go_wp2_with fail
     go_ret
     refine ⟨ret_bool ?_, ext_drewN HE.out _⟩
     symm
     refine decide_eq_false ?_
     rintro rfl
     have := HY.out.symm.trans HZ.out
     cases this
     exact HYZ.out rfl
   ·obtain rfl : k = n := by omega
    have HRSE : Hid (us = vs) := hid (list_ext_at (by rw [← HN.out, ← HM.out]; exact HNM.out) fun i a b hi h1 h2 => HA.out i a b (by rw [HN.out]; exact hi) h1 h2)
    go_wp2_with fail
    go_ret
    refine ⟨ret_bool ?_, HE.out⟩
    exact (decide_eq_true HRSE.out).symm
def idxK {K : Type} [DecidableEq K] (l : List K) (x : K) : Nat := l.idxOf x
def KeysR (w : World) (us : List Value) (keys : List (List Int)) : Prop := us.length = keys.length ∧ ∀ (i : Nat) (u : Value) (x : List Int), us[i]? = some u → keys[i]? = some x → ReadR w 1 intZ u x
def Old (w : World) (v v' : Value) : Prop := ∀ g, v'.ownBlock = some g → v.ownBlock = some g ∨ w.heap.size ≤ g
def NumberPost (base : Nat) (v vx : Value) (us : List Value) (keys : List (List Int)) (x : List Int) (w : World) (e : Ending) (w' : World) : Prop :=
 (x ∈ keys ∧ e = .returned (.tuple #[.int .i64 (idxK keys x : Nat), v]) ∧ Ext w w') ∨
 (x ∉ keys ∧ ∃ v', e = .returned (.tuple #[.int .i64 (keys.length : Nat), v']) ∧ OwnR w' base 46 1 oneA v' (us ++ [vx]) ∧ Chg (fun k => v.ownBlock = some k) w w' ∧ Old w v v')
set_option maxRecDepth 100000 in
set_option maxHeartbeats 1000000 in
theorem number_any {w : World} {base : Nat} {v vx : Value} {us : List Value} {keys : List (List Int)} {x : List Int} (hO : OwnR w base 46 1 oneA v us) (hb : base ≤ w.heap.size) (hK : KeysR w us keys) (hN : keys.Nodup) (hx : ReadR w 1 intZ vx x) (hl : us.length ≤ 1000000) (hks : ∀ y ∈ keys, y.length ≤ 1000) :
 Calls Tryz.prog 91 #[v, vx] w (NumberPost base v vx us keys x w) := by
 obtain ⟨ao, c, rfl, hc⟩ := (OwnR.read hO (fun _ => rfl)).form
 obtain ⟨ax, cx, rfl, -⟩ := hx.form
 obtain ⟨m, hm⟩ : ∃ n, n = x.length := ⟨_, rfl⟩
 rw [← hm] at hx ⊢
 clear hm
 obtain ⟨n, hn⟩ : ∃ n, n = us.length := ⟨_, rfl⟩
 have HO := hid hO
 rw [← hn] at HO hl hc ⊢
 have HC := hid hc
 have HN := hid hn
 have HK := hid hK
 have HND := hid hN
 have HX := hid hx
 have HKS := hid hks
 clear hO hK hN hx hn hc hks
 go_enter Tryz.func91, Tryz.ntmps91
 go_wp2_with fail
 go_loopg [6] n (fun g u wr => ∃ k, g = n - k ∧ k ≤ n ∧ u = .int .i64 k ∧ Hid (Ext w wr) ∧ Hid (∀ (i : Nat) (y : List Int), i < k → keys[i]? = some y → y ≠ x))
 case atStart => exact ⟨0, rfl, Nat.zero_le _, rfl, hid (Below.refl _ _), hid (fun j s h => absurd h (Nat.not_lt_zero j))⟩
 case round =>
  obtain ⟨k, rfl, hk, rfl, HE, HA⟩ := hrel
  by_cases hlt : k < n
  ·obtain ⟨g, o, rfl⟩ := HC.out (by omega)
   obtain ⟨u, hu⟩ : ∃ s, us[k]? = some s := ⟨_, List.getElem?_eq_getElem (by rw [← HN.out]; exact hlt)⟩
   obtain ⟨y, hy⟩ : ∃ s, keys[k]? = some s := ⟨_, List.getElem?_eq_getElem (by rw [← HK.out.1, ← HN.out]; exact hlt)⟩
   have hru := (HK.out.2 k u y hu hy).ext HE.out
   obtain ⟨ao2, c2, rfl, -⟩ := hru.form
   obtain ⟨m2, hm2⟩ : ∃ n, n = y.length := ⟨_, rfl⟩
   rw [← hm2] at hu hru
   have c1 : wr.cell? ⟨g, o + k, none⟩ = some (.slice ao2 m2 c2) := by
    have h := (OwnR.read HO.out (fun _ => rfl)).ext HE.out
    rw [HN.out] at h
    exact h.cell1 hu
   have hyl := HKS.out y (List.mem_of_getElem? hy)
   have HC1 := hid (isame_any hru (HX.out.ext HE.out) (by omega))
   have HY := hid hy
   clear hu hru hyl hy hm2
   obtain ⟨b, hb⟩ : ∃ b, b = decide (y = x) := ⟨_, rfl⟩
   rw [← hb] at HC1
   have HBB := hid hb
   clear hb
   go_wp2_with fail
   refine HC1.out.mono ?_
   rintro e w2 ⟨rfl, hx2⟩
   have HX2 := hid (HE.out.trans (hx2.mono HE.out.size))
   clear hx2 c1 HC1
   cases b with
   | true =>
     have HYX : Hid (y = x) := hid (of_decide_eq_true HBB.out.symm)
     go_wp2_with fail
     go_ret2
     refine .inl ⟨?_, ?_, HX2.out⟩
     ·have h := HY.out
      rw [HYX.out] at h
      exact List.mem_of_getElem? h
     ·have h := HY.out
      rw [HYX.out] at h
      have e : idxK keys x = k := idx_of_get HND.out h
      rw [e]
      rfl
   | false =>
     go_wp2_with fail
     go_roundg (n - (k + 1))
     case measure => omega
     case rel =>
      refine ⟨k + 1, rfl, by omega, by go_num, HX2, hid fun i y' hi hy' => ?_⟩
      by_cases e : i = k
      ·subst e
       rw [HY.out] at hy'
       cases hy'
       exact of_decide_eq_false HBB.out.symm
      ·exact HA.out i y' (by omega) hy'
  ·obtain rfl : k = n := by omega
   have HNO : Hid (x ∉ keys) := hid fun h => by
    obtain ⟨i, hi⟩ := List.getElem?_of_mem h
    exact HA.out i x (by have := (List.getElem?_eq_some_iff.1 hi).1; rw [HN.out, HK.out.1]; exact this) hi rfl
   have HO1 := hid (HO.out.ext HE.out)
   have hsz : base ≤ wr.heap.size := Nat.le_trans hb HE.out.size
   have hln : us.length + 1 ≤ 1000000000 := by rw [← HN.out]; omega
   go_wp2_with (with_reducible refine onOp 26 ?_
                go_loud (refine wpList_append_R elem_row (fun _ => rfl) ones_row HO1 hsz hln (.slice ax m cx) _ rfl wr.heap.size rfl rfl _ _ rfl rfl rfl ?_)
                rintro g' cap' v' w4 rfl G1 G2)
   go_ret2
   refine .inr ⟨HNO.out, _, ?_, G1.out, ?_, fun q hq => ?_⟩
   ·rw [← HK.out.1, ← HN.out]
    rfl
   ·have h0 : Chg (fun q => Value.ownBlock (.slice ao k c) = some q) w wr := (Chg.of_ext HE.out).mono (S := fun _ => False) (fun _ _ h => False.elim h)
    exact h0.grown G2.out.1 (fun k e => e)
   ·obtain rfl : g' = q := by cases hq; rfl
    rcases G2.out.2 with h | h
    ·exact .inl h
    ·exact .inr (Nat.le_trans HE.out.size h)
end Go.Proofs.YtngpjagpeblbjaaGreatDoor
namespace Go.Tour
variable {K : Type} [DecidableEq K] {δ : K → Nat → K} {m : Nat} {first : K} {keys keys' : List K} {fr fr' : List (Nat × Nat)} {b b' : Nat × Nat}
end Go.Tour
namespace Go.Proofs.YtngpjagpeblbjaaGreatDoor
open Go.RowKit Go.Spy Go.Heaped Go.Tour Go.Rx
abbrev PI := Int × Int
section
variable {A B : DA} {qs : Int → ByteArray → Int} {ot : Int → Bool} {m : Nat}
end
end Go.Proofs.YtngpjagpeblbjaaGreatDoor
namespace Go.Proofs.YtngpjagpeblbjaaGreatDoor
open Go.RowKit Go.Spy Go.Heaped Go.Tour Go.Rx
theorem own_lit {α : Type} {w : World} {g base n : Nat} {e : TypeId} {s : Nat} {f : α → Array Value} {A : Array Value} {l : List α} (hb : Blk w g e A) (hg : base ≤ g) (hA : A.toList = l.flatMap fun x => (f x).toList) (hn : n = l.length) (hs : A.size = n * s) (hm : n ≤ 1000) : OwnR w base e s f (.slice (some ⟨g, 0, none⟩) n n) l := by
 subst hn
 have hl : (l.flatMap fun x => (f x).toList).length = l.length * s := by rw [← hA, Array.length_toList, hs]
 refine ⟨hl, .inr ⟨g, l.length, A, rfl, hg, hb, Nat.le_refl _, by unfold maxLen; omega, hs, ?_⟩⟩
 rw [← hs, ← hA]
 exact List.take_of_length_le (by simp)
section
variable {w w' : World} {base : Nat} {vR vS : Value} {rows : List (Value × PI)} {us : List Value} {syms : List ByteArray} {keys : List PI} {fr : List (Nat × Nat)}
end
end Go.Proofs.YtngpjagpeblbjaaGreatDoor
namespace Go.Proofs.YtngpjagpeblbjaaGreatDoor
open Go.RowKit Go.Spy Go.Heaped Go.Tour Go.Rx
section
variable {w : World} {aoS aoN aoF : Option Addr} {n1 n2 n3 cS cN cF : Nat} {A B : DA}
theorem DfaW.partsR (h : DfaW w (.agg #[.slice aoS n1 cS, .slice aoN n2 cN, .slice aoF n3 cF]) A) : ∃ us, DfaP w (.slice aoS n1 cS) (.slice aoN n2 cN) (.slice aoF n3 cF) us A.raw := by
 obtain ⟨⟨vS, vN, vF, us, e, hP⟩, _, _⟩ := h
 simp only [Value.agg.injEq, Array.mk.injEq, List.cons.injEq, and_true] at e
 obtain ⟨rfl, rfl, rfl⟩ := e
 exact ⟨us, hP⟩
theorem DfaW.lens (h : DfaW w (.agg #[.slice aoS n1 cS, .slice aoN n2 cN, .slice aoF n3 cF]) A) : n1 = A.syms.length ∧ n2 = A.next.length ∧ n3 = A.next.length := by
 obtain ⟨us, hP⟩ := h.partsR
 have W := h.well
 obtain ⟨a1, c1, e1, -⟩ := hP.syms.form
 obtain ⟨a2, c2, e2, -⟩ := hP.next.form
 obtain ⟨a3, c3, e3, -⟩ := hP.fin.form
 simp only [Value.slice.injEq] at e1 e2 e3
 have hl := hP.len
 refine ⟨e1.2.1, ?_, ?_⟩
 ·rw [e2.2.1, hl]; simp [DF.raw]
 ·rw [e3.2.1]; exact W.ok.fin
theorem DfaW.finC (h : DfaW w (.agg #[.slice aoS n1 cS, .slice aoN n2 cN, .slice aoF n3 cF]) A) {s : Nat} (hs : s < n2) : ∃ g off, aoF = some ⟨g, off, none⟩ ∧ w.cell? ⟨g, off + s, none⟩ = some (.bool (finS A s)) := by
 obtain ⟨us, hP⟩ := h.partsR
 have hl := h.lens
 obtain ⟨a1, c1, e1, hf⟩ := hP.fin.form
 simp only [Value.slice.injEq] at e1
 obtain ⟨rfl, e2, rfl⟩ := e1
 have hs2 : s < A.fin.length := by rw [h.well.ok.fin, ← hl.2.1]; exact hs
 obtain ⟨g, off, rfl⟩ := hf (show 0 < A.fin.length by omega)
 refine ⟨g, off, rfl, ?_⟩
 have e : finS A (s : Int) = A.fin[s] := by
  unfold finS finD
  simp [List.getElem?_eq_getElem hs2]
 rw [e]
 exact hP.fin.cell1 (List.getElem?_eq_getElem hs2)
theorem DfaW.nextC (h : DfaW w (.agg #[.slice aoS n1 cS, .slice aoN n2 cN, .slice aoF n3 cF]) A) {s c : Nat} (hs : s < n2) (hc : c < n1) : ∃ gN oN g off cc, aoN = some ⟨gN, oN, none⟩ ∧ w.cell? ⟨gN, oN + s, none⟩ = some (.slice (some ⟨g, off, none⟩) n1 cc) ∧ w.cell? ⟨g, off + c, none⟩ = some (.int .i64 (goS A s (symAt A.syms c))) := by
 obtain ⟨us, hP⟩ := h.partsR
 have hl := h.lens
 have hc2 : c < A.syms.length := by rw [← hl.1]; exact hc
 obtain ⟨ao, cc, hu, hcell⟩ := hP.cellN h.well (s := s) (by rw [← hl.2.1]; exact hs)
 obtain ⟨g, off, rfl, hv⟩ := hcell c hc2
 obtain ⟨a1, c1, e1, hf⟩ := hP.next.form
 simp only [Value.slice.injEq] at e1
 obtain ⟨rfl, e2, rfl⟩ := e1
 obtain ⟨gN, oN, rfl⟩ := hf (by omega)
 refine ⟨gN, oN, g, off, cc, rfl, ?_, ?_⟩
 ·have h2 := hP.next.cell1 hu
  rw [← hl.1] at h2
  simpa [oneA, slV] using h2
 ·have hm : symAt A.syms c ∈ A.syms := by rw [symAt_some hc2]; exact List.getElem_mem hc2
  have e : goS A (s : Int) (symAt A.syms c) = (stepD A s c : Nat) := by
   rw [goS_in hm]
   congr 2
   refine idx_of_get h.well.rising.nodup ?_
   rw [symAt_some hc2]; exact List.getElem?_eq_getElem hc2
  rw [e]; exact hv
end
end Go.Proofs.YtngpjagpeblbjaaGreatDoor
namespace Go.Tour
section
variable {K : Type} [DecidableEq K]
theorem vis1_len (r : Nat) (s : St K) (k : K) (j : Nat) : (vis1 r s k j).keys.length ≤ s.keys.length + 1 := by
 unfold vis1
 split
 ·exact Nat.le_succ _
 ·simp
theorem visN_len (r : Nat) (s : St K) (l : List K) : ∀ j, (visN r s l j).keys.length ≤ s.keys.length + j
 | 0 => Nat.le_refl _
 | j + 1 => by
   have ih := visN_len r s l j
   unfold visN
   split
   ·have := vis1_len r (visN r s l j) ‹K› j
    omega
   ·omega
variable {δ : K → Nat → K} {m : Nat} {first : K} {keys : List K} {fr : List (Nat × Nat)} {i j : Nat}
end
end Go.Tour
namespace Go.Proofs.YtngpjagpeblbjaaGreatDoor
open Go.RowKit Go.Spy Go.Heaped Go.Tour Go.Rx
theorem ext_chg {w0 w w' : World} {S : Nat → Prop} (e : Ext w0 w) (c : Chg S w w') (hS : ∀ k, S k → w0.heap.size ≤ k) : Ext w0 w' :=
 e.trans ((c.mono (S' := fun k => w0.heap.size ≤ k) fun k _ h => hS k h).below e.size (fun _ h => h))
theorem snoc_at {α β : Type} {l : List α} {m : List β} (hl : l.length = m.length) {a : α} {b : β} {n : Nat} {x : α} {y : β} (h1 : (l ++ [a])[n]? = some x) (h2 : (m ++ [b])[n]? = some y) : (l[n]? = some x ∧ m[n]? = some y) ∨ (x = a ∧ y = b) := by
 rcases Nat.lt_trichotomy n l.length with hn | hn | hn
 ·rw [List.getElem?_append_left hn] at h1
  rw [List.getElem?_append_left (by omega)] at h2
  exact .inl ⟨h1, h2⟩
 ·subst hn
  rw [List.getElem?_append_right (Nat.le_refl _), Nat.sub_self] at h1
  rw [hl, List.getElem?_append_right (Nat.le_refl _), Nat.sub_self] at h2
  cases h1; cases h2
  exact .inr ⟨rfl, rfl⟩
 ·have := (List.getElem?_eq_some_iff.1 h1).1
  simp at this
  omega
theorem snoc_one {α : Type} {l : List α} {a x : α} {n : Nat} (h : (l ++ [a])[n]? = some x) : (n < l.length ∧ l[n]? = some x) ∨ (n = l.length ∧ x = a) := by
 rcases Nat.lt_trichotomy n l.length with hn | hn | hn
 ·rw [List.getElem?_append_left hn] at h
  exact .inl ⟨hn, h⟩
 ·subst hn
  rw [List.getElem?_append_right (Nat.le_refl _), Nat.sub_self] at h
  cases h
  exact .inr ⟨rfl, rfl⟩
 ·have := (List.getElem?_eq_some_iff.1 h).1
  simp at this
  omega
end Go.Proofs.YtngpjagpeblbjaaGreatDoor
namespace Go.Proofs.YtngpjagpeblbjaaGreatDoor
open Go.RowKit Go.Spy Go.Heaped Go.Tour Go.Rx
def Ap (v v' : Value) : Prop := ∀ k, v.ownBlock = some k → v'.ownBlock = some k → False
theorem Ap.old {α : Type} {w : World} {base e s : Nat} {f : α → Array Value} {v v' u : Value} {l : List α} (h : Ap v u) (o : Old w v v') (hu : OwnR w base e s f u l) : Ap v' u := fun k h1 h2 => by
 rcases o k h1 with h3 | h3
 ·exact h k h3 h2
 ·have := (hu.lt k h2).2
  omega
theorem Ap.symm {v u : Value} (h : Ap v u) : Ap u v := fun k h1 h2 => h k h2 h1
theorem Ap.nil (v : Value) : Ap v (.slice none 0 0) := fun _ _ h => by cases h
section
variable {K : Type} {φ : K → List Int}
structure SeenK (φ : K → List Int) (w : World) (base : Nat) (vS : Value) (us : List Value) (keys : List K) : Prop where
 own : OwnR w base 46 1 oneA vS us
 len : us.length = keys.length
 key : ∀ (n : Nat) (u : Value) (p : K), us[n]? = some u → keys[n]? = some p → OwnR w base 3 1 intZ u (φ p)
structure RowsK (w : World) (base : Nat) (vN : Value) (rs : List Value) (nx : List (List Nat)) : Prop where
 own : OwnR w base 46 1 oneA vN rs
 len : rs.length = nx.length
 row : ∀ (n : Nat) (r : Value) (x : List Nat), rs[n]? = some r → nx[n]? = some x → OwnR w base 3 1 natA r x
theorem SeenK.ext {w w' : World} {base : Nat} {vS : Value} {us : List Value} {keys : List K} (h : SeenK φ w base vS us keys) (e : Ext w w') : SeenK φ w' base vS us keys := ⟨h.own.ext e, h.len, fun n u p h1 h2 => (h.key n u p h1 h2).ext e⟩
theorem RowsK.ext {w w' : World} {base : Nat} {vN : Value} {rs : List Value} {nx : List (List Nat)} (h : RowsK w base vN rs nx) (e : Ext w w') : RowsK w' base vN rs nx := ⟨h.own.ext e, h.len, fun n u p h1 h2 => (h.row n u p h1 h2).ext e⟩
theorem SeenK.keysR {w : World} {base : Nat} {vS : Value} {us : List Value} {keys : List K} (h : SeenK φ w base vS us keys) : KeysR w us (keys.map φ) := by
 refine ⟨by rw [List.length_map]; exact h.len, fun i u x h1 h2 => ?_⟩
 rw [List.getElem?_map, Option.map_eq_some_iff] at h2
 obtain ⟨p, hp, rfl⟩ := h2
 exact OwnR.read (h.key i u p h1 hp) (fun _ => rfl)
theorem SeenK.at_ {w : World} {base : Nat} {vS : Value} {us : List Value} {keys : List K} (h : SeenK φ w base vS us keys) {n : Nat} {u : Value} (hu : us[n]? = some u) : ∃ p, OwnR w base 3 1 intZ u (φ p) := by
 obtain ⟨p, hp⟩ : ∃ p, keys[n]? = some p := ⟨_, List.getElem?_eq_getElem (by rw [← h.len]; exact (List.getElem?_eq_some_iff.1 hu).1)⟩
 exact ⟨p, h.key n u p hu hp⟩
theorem RowsK.at_ {w : World} {base : Nat} {vN : Value} {rs : List Value} {nx : List (List Nat)} (h : RowsK w base vN rs nx) {n : Nat} {u : Value} (hu : rs[n]? = some u) : ∃ p, OwnR w base 3 1 natA u p := by
 obtain ⟨p, hp⟩ : ∃ p, nx[n]? = some p := ⟨_, List.getElem?_eq_getElem (by rw [← h.len]; exact (List.getElem?_eq_some_iff.1 hu).1)⟩
 exact ⟨p, h.row n u p hu hp⟩
structure RefW (φ : K → List Int) (w wr : World) (bD : Nat) (vY vS vN vF vX : Value) (us rs : List Value) (keys : List K) (nx : List (List Nat)) (fs : List Bool) (gs : List Nat) : Prop where
 ext : Ext w wr
 low : w.heap.size ≤ bD
 box : Blk wr bD 40 #[vY, vN, vF]
 seen : SeenK φ wr w.heap.size vS us keys
 rows : RowsK wr w.heap.size vN rs nx
 fins : OwnR wr w.heap.size 4 1 boolC vF fs
 now : OwnR wr w.heap.size 3 1 natA vX gs
 ap1 : Ap vS vN
 ap2 : ∀ u ∈ us, Ap u vX
 ap3 : ∀ r ∈ rs, Ap r vX
variable {w wr wy : World} {bD : Nat} {vY vS vN vF vX : Value} {us rs : List Value} {keys : List K} {nx : List (List Nat)} {fs : List Bool} {gs : List Nat}
theorem RefW.ext' (h : RefW φ w wr bD vY vS vN vF vX us rs keys nx fs gs) (e : Ext wr wy) : RefW φ w wy bD vY vS vN vF vX us rs keys nx fs gs :=
 ⟨h.ext.trans (e.mono h.ext.size), h.low, h.box.ext e, h.seen.ext e, h.rows.ext e, h.fins.ext e, h.now.ext e, h.ap1, h.ap2, h.ap3⟩
theorem RefW.new (h : RefW φ w wr bD vY vS vN vF vX us rs keys nx fs gs) {v' u' : Value} {p : K} (o : OwnR wy w.heap.size 46 1 oneA v' (us ++ [u'])) (c : Chg (fun k => vS.ownBlock = some k) wr wy) (ho : Old wr vS v') (k : OwnR wr w.heap.size 3 1 intZ u' (φ p)) (ha : Ap u' vX) :
 RefW φ w wy bD vY v' vN vF vX (us ++ [u']) rs (keys ++ [p]) nx fs gs := by
 refine ⟨ext_chg h.ext c (fun k e => (h.seen.own.lt k e).1), h.low, h.box.chg c (own_blk_ne h.seen.own h.box (by decide)), ⟨o, by simp [h.seen.len], fun n u q h1 h2 => ?_⟩, ⟨h.rows.own.chg c fun k e e' => h.ap1 k e' e, h.rows.len, fun n r x h1 h2 => ?_⟩, h.fins.chg c fun k e e' => own_apart h.fins h.seen.own (by decide) k e e', h.now.chg c fun k e e' => own_apart h.now h.seen.own (by decide) k e e', h.ap1.old ho h.rows.own, fun u hu => ?_, h.ap3⟩
 ·rcases snoc_at h.seen.len h1 h2 with ⟨h1, h2⟩ | ⟨rfl, rfl⟩
  ·exact (h.seen.key n u q h1 h2).chg c fun k e e' => own_apart (h.seen.key n u q h1 h2) h.seen.own (by decide) k e e'
  ·exact k.chg c fun g e e' => own_apart k h.seen.own (by decide) g e e'
 ·exact (h.rows.row n r x h1 h2).chg c fun k e e' => own_apart (h.rows.row n r x h1 h2) h.seen.own (by decide) k e e'
 ·rcases List.mem_append.1 hu with hu | hu
  ·exact h.ap2 u hu
  ·rw [List.mem_singleton.1 hu]; exact ha
theorem RefW.put (h : RefW φ w wr bD vY vS vN vF vX us rs keys nx fs gs) {v' : Value} {g : Nat} (o : OwnR wy w.heap.size 3 1 natA v' (gs ++ [g])) (c : Chg (fun k => vX.ownBlock = some k) wr wy) (ho : Old wr vX v') :
 RefW φ w wy bD vY vS vN vF v' us rs keys nx fs (gs ++ [g]) := by
 refine ⟨ext_chg h.ext c (fun k e => (h.now.lt k e).1), h.low, h.box.chg c (own_blk_ne h.now h.box (by decide)), ⟨h.seen.own.chg c fun k e e' => own_apart h.seen.own h.now (by decide) k e e', h.seen.len, fun n u q h1 h2 => ?_⟩, ⟨h.rows.own.chg c fun k e e' => own_apart h.rows.own h.now (by decide) k e e', h.rows.len, fun n r x h1 h2 => ?_⟩, h.fins.chg c fun k e e' => own_apart h.fins h.now (by decide) k e e', o, h.ap1, fun u hu => ?_, fun r hr => ?_⟩
 ·exact (h.seen.key n u q h1 h2).chg c fun k e e' => h.ap2 u (List.mem_of_getElem? h1) k e e'
 ·exact (h.rows.row n r x h1 h2).chg c fun k e e' => h.ap3 r (List.mem_of_getElem? h1) k e e'
 ·obtain ⟨n, hn⟩ := List.getElem?_of_mem hu
  obtain ⟨p, hp⟩ := h.seen.at_ hn
  exact (Ap.old (h.ap2 u hu).symm ho hp).symm
 ·obtain ⟨n, hn⟩ := List.getElem?_of_mem hr
  obtain ⟨p, hp⟩ := h.rows.at_ hn
  exact (Ap.old (h.ap3 r hr).symm ho hp).symm
theorem RefW.row1 (h : RefW φ w wr bD vY vS vN vF vX us rs keys nx fs gs) {v' : Value} (o : OwnR wy w.heap.size 46 1 oneA v' (rs ++ [vX])) (c : Chg (fun k => vN.ownBlock = some k) wr wy) (ho : Old wr vN v') :
 (Ext w wy ∧ Blk wy bD 40 #[vY, vN, vF]) ∧ RefW φ w (wy.setCell ⟨bD, 1, none⟩ v') bD vY vS v' vF (.slice none 0 0) us (rs ++ [vX]) keys (nx ++ [gs]) fs [] := by
 have e6 : Ext w wy := ext_chg h.ext c (fun k e => (h.rows.own.lt k e).1)
 have b6 : Blk wy bD 40 #[vY, vN, vF] := h.box.chg c (own_blk_ne h.rows.own h.box (by decide))
 have c7 : Chg (fun k => k = bD) wy (wy.setCell ⟨bD, 1, none⟩ v') := (Chg.refl (fun k => k = bD) wy).setCell (p := ⟨bD, 1, none⟩) rfl v'
 have nb : ∀ {α : Type} {base e s : Nat} {f : α → Array Value} {v : Value} {l : List α}, OwnR wy base e s f v l → e ≠ 40 → OwnR (wy.setCell ⟨bD, 1, none⟩ v') base e s f v l := fun h0 he => h0.chg c7 (fun k e e' => own_blk_ne h0 b6 he (e' ▸ e))
 refine ⟨⟨e6, b6⟩, ext_chg e6 c7 (fun k e => e ▸ h.low), h.low, b6.set 1 v', ⟨nb (h.seen.own.chg c fun k e e' => h.ap1 k e e') (by decide), h.seen.len, fun n u q h1 h2 => ?_⟩, ⟨nb o (by decide), by simp [h.rows.len], fun n r x h1 h2 => ?_⟩, nb (h.fins.chg c fun k e e' => own_apart h.fins h.rows.own (by decide) k e e') (by decide), OwnR.nil _ _ _ _ _, ?_, fun u _ => Ap.nil u, fun u _ => Ap.nil u⟩
 ·exact nb ((h.seen.key n u q h1 h2).chg c fun k e e' => own_apart (h.seen.key n u q h1 h2) h.rows.own (by decide) k e e') (by decide)
 ·rcases snoc_at h.rows.len h1 h2 with ⟨h1, h2⟩ | ⟨rfl, rfl⟩
  ·exact nb ((h.rows.row n r x h1 h2).chg c fun k e e' => own_apart (h.rows.row n r x h1 h2) h.rows.own (by decide) k e e') (by decide)
  ·exact nb (h.now.chg c fun g e e' => own_apart h.now h.rows.own (by decide) g e e') (by decide)
 ·exact (Ap.old h.ap1.symm ho h.seen.own).symm
theorem RefW.row2 (h : RefW φ w wr bD vY vS vN vF vX us rs keys nx fs gs) {v' : Value} {b : Bool} (o : OwnR wy w.heap.size 4 1 boolC v' (fs ++ [b])) (c : Chg (fun k => vF.ownBlock = some k) wr wy) :
 (Ext w wy ∧ Blk wy bD 40 #[vY, vN, vF]) ∧ RefW φ w (wy.setCell ⟨bD, 2, none⟩ v') bD vY vS vN v' vX us rs keys nx (fs ++ [b]) gs := by
 have e6 : Ext w wy := ext_chg h.ext c (fun k e => (h.fins.lt k e).1)
 have b6 : Blk wy bD 40 #[vY, vN, vF] := h.box.chg c (own_blk_ne h.fins h.box (by decide))
 have c7 : Chg (fun k => k = bD) wy (wy.setCell ⟨bD, 2, none⟩ v') := (Chg.refl (fun k => k = bD) wy).setCell (p := ⟨bD, 2, none⟩) rfl v'
 have nb : ∀ {α : Type} {base e s : Nat} {f : α → Array Value} {v : Value} {l : List α}, OwnR wy base e s f v l → e ≠ 40 → OwnR (wy.setCell ⟨bD, 2, none⟩ v') base e s f v l := fun h0 he => h0.chg c7 (fun k e e' => own_blk_ne h0 b6 he (e' ▸ e))
 have nf : ∀ {α : Type} {base e s : Nat} {f : α → Array Value} {v : Value} {l : List α}, OwnR wr base e s f v l → e ≠ 4 → OwnR wy base e s f v l := fun h0 he => h0.chg c fun k e e' => own_apart h0 h.fins he k e e'
 exact ⟨⟨e6, b6⟩, ext_chg e6 c7 (fun k e => e ▸ h.low), h.low, b6.set 2 v', ⟨nb (nf h.seen.own (by decide)) (by decide), h.seen.len, fun n u q h1 h2 => nb (nf (h.seen.key n u q h1 h2) (by decide)) (by decide)⟩, ⟨nb (nf h.rows.own (by decide)) (by decide), h.rows.len, fun n r x h1 h2 => nb (nf (h.rows.row n r x h1 h2) (by decide)) (by decide)⟩, nb o (by decide), nb (nf h.now (by decide)) (by decide), h.ap1, h.ap2, h.ap3⟩
theorem RefW.start (wB : World) (vY : Value) {p : K} {A : Array Value} {n : Nat} (hA : A.toList = (φ p).flatMap fun x => (intZ x).toList) (hn : n = (φ p).length) (hs : A.size = n * 1) (hm : n ≤ 1000) :
 RefW φ wB (((wB.alloc (.cells #[vY, .slice none 0 0, .slice none 0 0] 40)).alloc (.cells A 3)).alloc (.cells #[.slice (some ⟨wB.heap.size + 1, 0, none⟩) n n] 46)) wB.heap.size vY (.slice (some ⟨wB.heap.size + 1 + 1, 0, none⟩) 1 1) (.slice none 0 0) (.slice none 0 0) (.slice none 0 0) [.slice (some ⟨wB.heap.size + 1, 0, none⟩) n n] [] [p] [] [] [] := by
 have hS : OwnR (((wB.alloc (.cells #[vY, .slice none 0 0, .slice none 0 0] 40)).alloc (.cells A 3)).alloc (.cells #[.slice (some ⟨wB.heap.size + 1, 0, none⟩) n n] 46)) wB.heap.size 46 1 oneA (.slice (some ⟨wB.heap.size + 1 + 1, 0, none⟩) 1 1) [.slice (some ⟨wB.heap.size + 1, 0, none⟩) n n] :=
  own_lit (Blk.new' _ _ _ (by simp)) (by omega) rfl rfl rfl (by decide)
 have hK : OwnR (((wB.alloc (.cells #[vY, .slice none 0 0, .slice none 0 0] 40)).alloc (.cells A 3)).alloc (.cells #[.slice (some ⟨wB.heap.size + 1, 0, none⟩) n n] 46)) wB.heap.size 3 1 intZ (.slice (some ⟨wB.heap.size + 1, 0, none⟩) n n) (φ p) :=
  own_lit ((Blk.new' _ _ _ (by simp)).alloc _) (by omega) hA hn hs hm
 refine ⟨((((Below.refl _ _).alloc (Nat.le_refl _) _).alloc (by simp) _).alloc (by simp; omega) _), Nat.le_refl _, ((Blk.new _ _ _).alloc _).alloc _, ⟨hS, rfl, fun m u q hu hq => ?_⟩, ⟨OwnR.nil _ _ _ _ _, rfl, fun m r x h => (by cases h)⟩, OwnR.nil _ _ _ _ _, OwnR.nil _ _ _ _ _, Ap.nil _, fun u _ => Ap.nil u, fun r h => (by cases h)⟩
 have h0 : m = 0 := by have := (List.getElem?_eq_some_iff.1 hu).1; simp at this; exact this
 subst h0
 cases hu; cases hq
 exact hK
theorem RefW.dfa (h : RefW φ w wr bD vY vS vN vF vX us rs keys nx fs gs) {q : Nat} (c : Chg (fun k => k = q) wr wy) (hq : q < w.heap.size) {syms : List ByteArray} (hY : ReadR wy 1 strC vY syms) : DfaP wy vY vN vF rs (DF.raw ⟨syms, nx, fs⟩) := by
 refine ⟨hY, (OwnR.read h.rows.own (fun _ => rfl)).chg c fun g e e' => ?_, ?_, fun i u r hu hr => ?_, (OwnR.read h.fins (fun _ => rfl)).chg c fun g e e' => ?_⟩
 ·have := (h.rows.own.lt g e).1; omega
 ·show rs.length = (nx.map _).length
  rw [List.length_map]; exact h.rows.len
 ·have hr : (nx.map (·.map Int.ofNat))[i]? = some r := hr
  rw [List.getElem?_map, Option.map_eq_some_iff] at hr
  obtain ⟨r', hr', rfl⟩ := hr
  have h1 := h.rows.row i u r' hu hr'
  exact nat_int.1 ((OwnR.read h1 (fun _ => rfl)).chg c fun g e e' => by have := (h1.lt g e).1; omega)
 ·have := (h.fins.lt g e).1; omega
end
end Go.Proofs.YtngpjagpeblbjaaGreatDoor
namespace Go.Tour
section
variable {σ : Type}
def tAt (T : List (List Bool)) (i k : Nat) : Bool := (((T[i]?).getD [])[k]?).getD false
def tPut (T : List (List Bool)) (i k : Nat) (b : Bool) : List (List Bool) := T.set i (((T[i]?).getD []).set k b)
abbrev tSet (T : List (List Bool)) (i k : Nat) : List (List Bool) := tPut T i k true
theorem tAt_row {T : List (List Bool)} {m n i k : Nat} (hl : T.length = m) (hr : ∀ r ∈ T, r.length = n) (hi : i < m) (hk : k < n) : ∃ r, T[i]? = some r ∧ r.length = n ∧ r[k]? = some (tAt T i k) := by
 have e : T[i]? = some T[i] := List.getElem?_eq_getElem (by omega)
 have h := hr _ (List.getElem_mem (by omega : i < T.length))
 refine ⟨_, e, h, ?_⟩
 unfold tAt
 rw [e, Option.getD_some, List.getElem?_eq_getElem (by omega)]
 rfl
theorem tPut_at {T : List (List Bool)} {m n i k : Nat} (hl : T.length = m) (hr : ∀ r ∈ T, r.length = n) (hi : i < m) (hk : k < n) (b : Bool) (i' k' : Nat) : tAt (tPut T i k b) i' k' = if i' = i ∧ k' = k then b else tAt T i' k' := by
 obtain ⟨r, h1, h2, -⟩ := tAt_row hl hr hi hk
 unfold tPut tAt
 rw [h1, Option.getD_some]
 by_cases e : i' = i
 ·subst e
  rw [List.getElem?_set_self (by omega), Option.getD_some, h1, Option.getD_some]
  by_cases e' : k' = k
  ·subst e'
   rw [List.getElem?_set_self (by omega), if_pos ⟨rfl, rfl⟩]; rfl
  ·rw [List.getElem?_set_ne (fun h => e' h.symm), if_neg (fun h => e' h.2)]
 ·rw [List.getElem?_set_ne (fun h => e h.symm), if_neg (fun h => e h.1)]
theorem tSet_at {T : List (List Bool)} {n i k : Nat} (hl : T.length = n) (hr : ∀ r ∈ T, r.length = n) (hi : i < n) (hk : k < n) (i' k' : Nat) : tAt (tSet T i k) i' k' = if i' = i ∧ k' = k then true else tAt T i' k' := tPut_at hl hr hi hk true i' k'
theorem tPut_len (T : List (List Bool)) (i k : Nat) (b : Bool) : (tPut T i k b).length = T.length := by unfold tPut; rw [List.length_set]
theorem tPut_rows {T : List (List Bool)} {m n i k : Nat} (hl : T.length = m) (hr : ∀ r ∈ T, r.length = n) (hi : i < m) (hk : k < n) (b : Bool) : ∀ r ∈ tPut T i k b, r.length = n := by
 intro r h
 unfold tPut at h
 obtain ⟨r0, h1, h2, -⟩ := tAt_row hl hr hi hk
 rw [h1, Option.getD_some] at h
 rcases List.mem_or_eq_of_mem_set h with h | rfl
 ·exact hr r h
 ·rw [List.length_set]; exact h2
structure FillI (D : DF σ) (T : List (List Bool)) (i k : Nat) : Prop where
 len : T.length = i
 row : ∀ r ∈ T, r.length = D.next.length
 at_ : ∀ a b, a < i → b < D.next.length → (a + 1 = i → b < k) → tAt T a b = (finD D a != finD D b)
theorem FillI.start (D : DF σ) (k : Nat) : FillI D [] 0 k := ⟨rfl, fun r h => (by cases h), fun a b h => absurd h (Nat.not_lt_zero a)⟩
theorem FillI.push {D : DF σ} {T : List (List Bool)} {i : Nat} (h : FillI D T i D.next.length) : FillI D (T ++ [List.replicate D.next.length false]) (i + 1) 0 := by
 refine ⟨by simp [h.len], fun r hr => ?_, fun a b ha hb hk => ?_⟩
 ·rcases List.mem_append.1 hr with hr | hr
  ·exact h.row r hr
  ·rw [List.mem_singleton.1 hr]; simp
 ·have ha' : a < i := by
   rcases Nat.lt_or_ge a i with e | e
   ·exact e
   ·exact absurd (hk (by omega)) (Nat.not_lt_zero b)
  have h1 := h.at_ a b ha' hb (fun _ => hb)
  unfold tAt at h1 ⊢
  rw [List.getElem?_append_left (by rw [h.len]; exact ha')]
  exact h1
theorem FillI.put {D : DF σ} {T : List (List Bool)} {i k : Nat} (h : FillI D T (i + 1) k) (hk : k < D.next.length) : FillI D (tPut T i k (finD D i != finD D k)) (i + 1) (k + 1) := by
 refine ⟨by rw [tPut_len]; exact h.len, tPut_rows h.len h.row (Nat.lt_succ_self i) hk _, fun a b ha hb hc => ?_⟩
 rw [tPut_at h.len h.row (Nat.lt_succ_self i) hk]
 by_cases e : a = i ∧ b = k
 ·rw [if_pos e, e.1, e.2]
 ·rw [if_neg e]
  refine h.at_ a b ha hb fun e1 => ?_
  have := hc e1
  rcases Nat.lt_or_ge b k with h1 | h1
  ·exact h1
  ·exact absurd ⟨by omega, by omega⟩ e
structure ApartI (D : DF σ) (T : List (List Bool)) : Prop where
 len : T.length = D.next.length
 row : ∀ r ∈ T, r.length = D.next.length
 fin : ∀ i k, i < D.next.length → k < D.next.length → finD D i ≠ finD D k → tAt T i k = true
 sound : ∀ i k, i < D.next.length → k < D.next.length → tAt T i k = true → langAt D i ≠ langAt D k
def cntT (n : Nat) (T : List (List Bool)) : Nat := (List.range (n * n)).countP fun x => !tAt T (x / n) (x % n)
theorem countP_lt {α : Type} {p q : α → Bool} : ∀ {l : List α}, (∀ x ∈ l, q x = true → p x = true) → (∃ x ∈ l, p x = true ∧ q x = false) → l.countP q < l.countP p
 | [], _, ⟨x, hx, _⟩ => by cases hx
 | a :: l, h, ⟨x, hx, h1, h2⟩ => by
   have hm : l.countP q ≤ l.countP p := List.countP_mono_left fun y hy hq => h y (by simp [hy]) hq
   rw [List.countP_cons, List.countP_cons]
   rcases List.mem_cons.1 hx with e | hx'
   ·subst e
    rw [h1, h2]
    simp
    omega
   ·have ih := countP_lt (p := p) (q := q) (l := l) (fun y hy => h y (by simp [hy])) ⟨x, hx', h1, h2⟩
    have ha : (if q a = true then 1 else 0) ≤ (if p a = true then 1 else 0) := by
     by_cases e : q a = true
     ·rw [if_pos e, if_pos (h a (by simp) e)]; exact Nat.le_refl _
     ·rw [if_neg e]; exact Nat.zero_le _
    omega
theorem cntT_lt {T : List (List Bool)} {n i k : Nat} (hl : T.length = n) (hr : ∀ r ∈ T, r.length = n) (hi : i < n) (hk : k < n) (h : tAt T i k = false) : cntT n (tSet T i k) < cntT n T := by
 refine countP_lt (fun x _ hq => ?_) ⟨i * n + k, ?_, ?_, ?_⟩
 ·rw [tSet_at hl hr hi hk] at hq
  by_cases e : x / n = i ∧ x % n = k
  ·rw [if_pos e] at hq; cases hq
  ·rw [if_neg e] at hq; exact hq
 ·rw [List.mem_range]
  have : i * n + n ≤ n * n := by
   have := Nat.mul_le_mul_right n (show i + 1 ≤ n by omega)
   rw [Nat.add_mul, Nat.one_mul] at this
   exact this
  omega
 ·have h1 : (i * n + k) / n = i := by
   rw [Nat.mul_comm, Nat.mul_add_div (by omega), Nat.div_eq_of_lt hk]; omega
  have h2 : (i * n + k) % n = k := by
   rw [Nat.mul_comm, Nat.mul_add_mod, Nat.mod_eq_of_lt hk]
  rw [h1, h2, h]; rfl
 ·have h1 : (i * n + k) / n = i := by
   rw [Nat.mul_comm, Nat.mul_add_div (by omega), Nat.div_eq_of_lt hk]; omega
  have h2 : (i * n + k) % n = k := by
   rw [Nat.mul_comm, Nat.mul_add_mod, Nat.mod_eq_of_lt hk]
  rw [h1, h2, tSet_at hl hr hi hk, if_pos ⟨rfl, rfl⟩]; rfl
theorem ApartI.set {D : DF σ} {T : List (List Bool)} (A : ApartI D T) (h : OkD D) {i k c : Nat} (hi : i < D.next.length) (hk : k < D.next.length) (hc : c < D.syms.length) (ht : tAt T (stepD D i c) (stepD D k c) = true) : ApartI D (tSet T i k) := by
 have key : langAt D i ≠ langAt D k := fun e => A.sound _ _ (h.step i c) (h.step k c) ht (lang_step e hc)
 refine ⟨by rw [tPut_len]; exact A.len, tPut_rows A.len A.row hi hk true, fun i' k' hi' hk' hf => ?_, fun i' k' hi' hk' hq => ?_⟩
 ·rw [tSet_at A.len A.row hi hk]
  by_cases e : i' = i ∧ k' = k
  ·rw [if_pos e]
  ·rw [if_neg e]; exact A.fin i' k' hi' hk' hf
 ·rw [tSet_at A.len A.row hi hk] at hq
  by_cases e : i' = i ∧ k' = k
  ·obtain ⟨rfl, rfl⟩ := e; exact key
  ·rw [if_neg e] at hq; exact A.sound i' k' hi' hk' hq
theorem FillI.apart {D : DF σ} {T : List (List Bool)} (h : FillI D T D.next.length D.next.length) : ApartI D T := by
 refine ⟨h.len, h.row, fun i k hi hk hf => ?_, fun i k hi hk ht e => ?_⟩
 ·rw [h.at_ i k hi hk (fun _ => hk)]
  cases h1 : finD D i <;> cases h2 : finD D k <;> first | rfl | exact absurd (h1.trans h2.symm) hf
 ·rw [h.at_ i k hi hk (fun _ => hk)] at ht
  have h0 := congrFun e []
  unfold langAt at h0
  rw [lang_nil, lang_nil] at h0
  rw [h0] at ht
  simp at ht
def CloT (D : DF σ) (T : List (List Bool)) (i k : Nat) : Prop := ∀ c, c < D.syms.length → tAt T (stepD D i c) (stepD D k c) = true → tAt T i k = true
structure RoundI (D : DF σ) (T0 T : List (List Bool)) (turned : Bool) (S : Nat → Nat → Prop) : Prop where
 apart : ApartI D T
 less : turned = true → cntT D.next.length T < cntT D.next.length T0
 same : turned = false → T = T0 ∧ ∀ i k, S i k → CloT D T0 i k
theorem RoundI.turn {D : DF σ} {T0 T : List (List Bool)} {turned : Bool} {S : Nat → Nat → Prop} (R : RoundI D T0 T turned S) (h : OkD D) {i k c : Nat} (hi : i < D.next.length) (hk : k < D.next.length) (hc : c < D.syms.length) (ht : tAt T (stepD D i c) (stepD D k c) = true) (hf : tAt T i k = false) (S' : Nat → Nat → Prop) :
 RoundI D T0 (tSet T i k) true S' := by
 have h1 := cntT_lt R.apart.len R.apart.row hi hk hf
 refine ⟨R.apart.set h hi hk hc ht, fun _ => ?_, fun e => by cases e⟩
 cases turned with
 | true => exact Nat.lt_trans h1 (R.less rfl)
 | false => rw [(R.same rfl).1] at h1 ⊢; exact h1
theorem RoundI.see {D : DF σ} {T0 T : List (List Bool)} {turned : Bool} {S S' : Nat → Nat → Prop} (R : RoundI D T0 T turned S) (h : turned = false → ∀ i k, S' i k → S i k ∨ CloT D T i k) : RoundI D T0 T turned S' :=
 ⟨R.apart, R.less, fun e => ⟨(R.same e).1, fun i k hs => by
  rcases h e i k hs with h1 | h1
  ·exact (R.same e).2 i k h1
  ·rw [(R.same e).1] at h1; exact h1⟩⟩
theorem apart_end {D : DF σ} {T : List (List Bool)} (A : ApartI D T) (h : OkD D) (hc : ∀ i k, i < D.next.length → k < D.next.length → CloT D T i k) {i k : Nat} (hi : i < D.next.length) (hk : k < D.next.length) : tAt T i k = false ↔ langAt D i = langAt D k := by
 constructor
 ·intro h0
  have run : ∀ (u : List Nat) s t, s < D.next.length → t < D.next.length → tAt T s t = false → (∀ x ∈ u, x < D.syms.length) → finD D (runL (stepD D) s u) = finD D (runL (stepD D) t u) := by
   intro u
   induction u with
   | nil =>
     intro s t hs ht e _
     by_cases e2 : finD D s = finD D t
     ·exact e2
     ·rw [A.fin s t hs ht e2] at e; cases e
   | cons x u ih =>
     intro s t hs ht e hu
     refine ih _ _ (h.step s x) (h.step t x) ?_ (fun y hy => hu y (by simp [hy]))
     cases e2 : tAt T (stepD D s x) (stepD D t x) with
     | false => rfl
     | true => rw [hc s t hs ht x (hu x (by simp)) e2] at e; cases e
  funext u
  unfold langAt
  by_cases hu : ∀ x ∈ u, x < D.syms.length
  ·rw [lang_of hu, lang_of hu]; exact run u i k hi hk h0 hu
  ·unfold lang; rw [decide_eq_false hu]; rfl
 ·intro e
  cases h0 : tAt T i k with
  | false => rfl
  | true => exact absurd e (A.sound i k hi hk h0)
structure LeastI (D : DF σ) (a : List Nat) : Prop where
 len : a.length = D.next.length
 lt : ∀ s, s < D.next.length → at0 a s < D.next.length ∧ langAt D (at0 a s) = langAt D s ∧ ∀ k, k < at0 a s → langAt D k ≠ langAt D s
theorem LeastI.iff {D : DF σ} {a : List Nat} (L : LeastI D a) {s t : Nat} (hs : s < D.next.length) (ht : t < D.next.length) : at0 a s = at0 a t ↔ langAt D s = langAt D t := by
 obtain ⟨s1, s2, s3⟩ := L.lt s hs
 obtain ⟨t1, t2, t3⟩ := L.lt t ht
 constructor
 ·intro e; rw [← s2, ← t2, e]
 ·intro e
  rcases Nat.lt_trichotomy (at0 a s) (at0 a t) with h | h | h
  ·exact absurd (s2.trans e) (t3 _ h)
  ·exact h
  ·exact absurd (t2.trans e.symm) (s3 _ h)
theorem at0_range {n s : Nat} (h : s < n) : at0 (List.range n) s = s := by
 unfold at0
 rw [List.getElem?_range h]; rfl
theorem LeastI.one {D : DF σ} {a : List Nat} (L : LeastI D a) : OneI D a (List.range D.next.length) := by
 refine ⟨L.len, fun s t hs ht => L.iff hs ht, fun s hs => ?_⟩
 obtain ⟨s1, s2, s3⟩ := L.lt s hs
 rw [at0_range s1]
 exact ⟨s1, (L.iff s1 hs).2 s2⟩
structure LeastK (T : List (List Bool)) (n : Nat) (O : List Nat) (i : Nat) : Prop where
 len : O.length = n
 done : ∀ s, s < i → s < n → at0 O s ≤ s ∧ tAt T s (at0 O s) = false ∧ ∀ k, k < at0 O s → tAt T s k = true
 now : at0 O i ≤ i ∧ ∀ k, k < at0 O i → tAt T i k = true
 rest : ∀ s, i < s → at0 O s = 0
theorem at0_rep (n s : Nat) : at0 (List.replicate n 0) s = 0 := by
 unfold at0
 rw [List.getElem?_replicate]
 split <;> rfl
theorem at0_set {O : List Nat} {i x : Nat} (hi : i < O.length) (s : Nat) : at0 (O.set i x) s = if s = i then x else at0 O s := by
 unfold at0
 by_cases e : s = i
 ·subst e; rw [List.getElem?_set_self hi, if_pos rfl]; rfl
 ·rw [List.getElem?_set_ne (fun h => e h.symm), if_neg e]
theorem LeastK.start (T : List (List Bool)) (n : Nat) : LeastK T n (List.replicate n 0) 0 :=
 ⟨by simp, fun s h => absurd h (Nat.not_lt_zero s), by rw [at0_rep]; exact ⟨Nat.le_refl _, fun k h => absurd h (Nat.not_lt_zero k)⟩, fun s _ => at0_rep n s⟩
theorem LeastK.more {T : List (List Bool)} {n : Nat} {O : List Nat} {i : Nat} (h : LeastK T n O i) (hi : i < n) (h0 : tAt T i i = false) (ht : tAt T i (at0 O i) = true) : LeastK T n (O.set i (at0 O i + 1)) i ∧ at0 O i < i := by
 have hlt : at0 O i < i := by
  rcases Nat.lt_or_ge (at0 O i) i with e | e
  ·exact e
  ·have := h.now.1
   rw [show at0 O i = i by omega, h0] at ht; cases ht
 have hl : i < O.length := by rw [h.len]; exact hi
 refine ⟨⟨by rw [List.length_set]; exact h.len, fun s hs hn => ?_, ?_, fun s hs => ?_⟩, hlt⟩
 ·rw [at0_set hl, if_neg (by omega)]; exact h.done s hs hn
 ·rw [at0_set hl, if_pos rfl]
  refine ⟨hlt, fun k hk => ?_⟩
  by_cases e : k = at0 O i
  ·rw [e]; exact ht
  ·exact h.now.2 k (by omega)
 ·rw [at0_set hl, if_neg (by omega)]; exact h.rest s hs
theorem LeastK.next {T : List (List Bool)} {n : Nat} {O : List Nat} {i : Nat} (h : LeastK T n O i) (ht : tAt T i (at0 O i) = false) : LeastK T n O (i + 1) := by
 refine ⟨h.len, fun s hs hn => ?_, ?_, fun s hs => h.rest s (by omega)⟩
 ·by_cases e : s = i
  ·subst e; exact ⟨h.now.1, ht, h.now.2⟩
  ·exact h.done s (by omega) hn
 ·rw [h.rest (i + 1) (by omega)]
  exact ⟨Nat.zero_le _, fun k hk => absurd hk (Nat.not_lt_zero k)⟩
theorem LeastK.end_ {D : DF σ} {T : List (List Bool)} {O : List Nat} (h : LeastK T D.next.length O D.next.length) (hT : ∀ i k, i < D.next.length → k < D.next.length → (tAt T i k = false ↔ langAt D i = langAt D k)) : LeastI D O := by
 refine ⟨h.len, fun s hs => ?_⟩
 obtain ⟨h1, h2, h3⟩ := h.done s hs hs
 have h4 : at0 O s < D.next.length := by omega
 refine ⟨h4, ((hT s _ hs h4).1 h2).symm, fun k hk e => ?_⟩
 have h5 := h3 k hk
 rw [(hT s k hs (by omega)).2 e.symm] at h5
 cases h5
theorem OneI.minD {D : DF σ} {a one : List Nat} (I : OneI D a one) (h : OkD D) {j : Nat} (hj : Full (fan (stepC D a one) D.syms.length) (at0 a 0) j) :
 MinD D (tourD D.syms (tourN (fan (stepC D a one) D.syms.length) (at0 a 0) j) (finC D one)) := by
 obtain ⟨k, hk1, hk2⟩ := I.full h
 have e := full_unique hj hk2
 exact ⟨stepC D a one, finC D one, at0 a 0, j, hj, I.dist h, (I.lang h h.pos).symm, by omega, rfl⟩
end
end Go.Tour
