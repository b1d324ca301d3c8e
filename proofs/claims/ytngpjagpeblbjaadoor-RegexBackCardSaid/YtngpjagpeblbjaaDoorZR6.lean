/-
  Walk of row: parts with a mark between each two.
-/
import Derived.Test.YtngpjagpeblbjaaDoorZR5
namespace Go.Spy
open Go.RowKit
theorem OwnR.grown {α : Type} {w w' : World} {base : Nat} {e : TypeId} {s : Nat} {f : α → Array Value} {v : Value} {l : List α} (h : OwnR w base e s f v l) {row : Option Nat} (g : w.grownBy w' row) (hr : ∀ k, v.ownBlock = some k → row ≠ some k) : OwnR w' base e s f v l :=
  h.chg ((Chg.refl (fun k => row = some k) w).grown g (fun _ e => e)) hr
theorem chg_grown {S : Nat → Prop} {w wr w4 : World} {row : Option Nat} (h : Chg S w wr) (k : wr.grownBy w4 row) (hr : ∀ i, row = some i → w.heap.size ≤ i) : Chg S w w4 :=
  ⟨k.os.trans h.os, k.tape.trans h.tape, k.output.trans h.output, Nat.le_trans h.size k.size, fun i hi hs => (k.block i (Nat.lt_of_lt_of_le hi h.size) (fun e => by have := hr i e.symm; omega)).trans (h.block i hi hs)⟩
theorem own_apart {α β : Type} {w : World} {B B' : Nat} {e e' : TypeId} {s s' : Nat} {f : α → Array Value} {f' : β → Array Value} {v v' : Value} {l : List α} {l' : List β} (h : OwnR w B e s f v l) (h' : OwnR w B' e' s' f' v' l') (he : e ≠ e') : ∀ k, v.ownBlock = some k → v'.ownBlock ≠ some k := by
  intro k hk hk'
  rcases h.2 with ⟨rfl, _⟩ | ⟨g, cap, cur, rfl, _, hg, _⟩
  · cases hk
  · rcases h'.2 with ⟨rfl, _⟩ | ⟨g', cap', cur', rfl, _, hg', _⟩
    · cases hk'
    · simp only [Value.ownBlock, Option.some.injEq] at hk hk'
      subst hk hk'
      have := Option.some.inj (hg.symm.trans hg')
      simp only [Obj.cells.injEq] at this
      exact he this.2.1
end Go.Spy
namespace Go.Proofs.YtngpjagpeblbjaaDoor
open Go.RowKit Go.Spy Go.Rx

/-- The cell of a slice value. -/
def slC (x : Option Addr × Nat × Nat) : Array Value := #[.slice x.1 x.2.1 x.2.2]
theorem slC_size (x : Option Addr × Nat × Nat) : (slC x).size = 1 := rfl
theorem ones_slC (x : Option Addr × Nat × Nat) : Ones (slC x) := by
  intro v hv
  simp only [slC, List.mem_toArray, List.mem_cons, List.not_mem_nil, or_false] at hv
  subst hv; rfl
theorem elem_nds : ElemOk Tryd.prog 106 22 1 24 where
  under := Tryd.underlying106
  info := by
    obtain ⟨i, h1, h2, h3, h4⟩ := info_parts (P := Tryd.prog) (e := 22) (z := .slice none 0 0) (size := 1) (bytes := 24) (by kernel_rfl)
    exact ⟨i, _, h1, h2, h3, h4, rfl⟩
  pos := by decide
  small := by decide
abbrev OwnS (w : World) (base : Nat) (v : Value) (vs : List (Option Addr × Nat × Nat)) : Prop := OwnR w base 22 1 slC v vs

/-- Each slice value owns its part. -/
def EachN (w : World) (base : Nat) (vs : List (Option Addr × Nat × Nat)) (ls : List (List Nd)) : Prop :=
  vs.length = ls.length ∧ ∀ (i : Nat) (x : Option Addr × Nat × Nat) (l : List Nd), vs[i]? = some x → ls[i]? = some l → x.2.1 = l.length ∧ x.2.1 ≤ x.2.2 ∧ OwnN w base (.slice x.1 x.2.1 x.2.2) l
theorem EachN.nil (w : World) (base : Nat) : EachN w base [] [] := ⟨rfl, fun i x l h => by simp at h⟩
theorem EachN.chg {w w' : World} {base : Nat} {vs : List (Option Addr × Nat × Nat)} {ls : List (List Nd)} (h : EachN w base vs ls) {S : Nat → Prop} (c : Chg S w w') (hS : ∀ k, base ≤ k → ¬ S k) : EachN w' base vs ls :=
  ⟨h.1, fun i x l hx hl => by
    obtain ⟨h1, h2, h3⟩ := h.2 i x l hx hl
    exact ⟨h1, h2, h3.chg c fun k hk => hS k (h3.lt k hk).1⟩⟩
theorem EachN.grown {w w' : World} {base B : Nat} {vs us : List (Option Addr × Nat × Nat)} {ls : List (List Nd)} {v : Value} (h : EachN w base vs ls) (hv : OwnS w B v us) (g : w.grownBy w' v.ownBlock) : EachN w' base vs ls :=
  ⟨h.1, fun i x l hx hl => by
    obtain ⟨h1, h2, h3⟩ := h.2 i x l hx hl
    exact ⟨h1, h2, h3.grown g fun k hk e => own_apart h3 hv (by decide) k hk e⟩⟩
theorem EachN.snoc {w : World} {base : Nat} {vs : List (Option Addr × Nat × Nat)} {ls : List (List Nd)} (h : EachN w base vs ls) {x : Option Addr × Nat × Nat} {l : List Nd} (h1 : x.2.1 = l.length) (h2 : x.2.1 ≤ x.2.2) (h3 : OwnN w base (.slice x.1 x.2.1 x.2.2) l) : EachN w base (vs ++ [x]) (ls ++ [l]) := by
  refine ⟨by simp [h.1], fun i y m hy hm => ?_⟩
  rcases Nat.lt_or_ge i vs.length with k | k
  · rw [List.getElem?_append_left k] at hy
    rw [List.getElem?_append_left (by rw [← h.1]; exact k)] at hm
    exact h.2 i y m hy hm
  · rw [List.getElem?_append_right k] at hy
    rw [List.getElem?_append_right (by rw [← h.1]; exact k)] at hm
    have hi : i - vs.length = 0 := by
      have := (List.getElem?_eq_some_iff.1 hy).1
      simp at this; omega
    rw [hi] at hy
    rw [← h.1, hi] at hm
    cases hy; cases hm
    exact ⟨h1, h2, h3⟩
theorem parts_of_each {w : World} {base base' : Nat} {v : Value} {vs : List (Option Addr × Nat × Nat)} {ls : List (List Nd)} (hv : OwnS w base' v vs) (h : EachN w base vs ls) (hg : ∀ l, l ∈ ls → GoodN l ∧ l.length ≤ 1024) : ∃ ao cap, v = .slice ao ls.length cap ∧ PartsV w ao ls := by
  obtain ⟨ao, c, rfl, hc, hcells⟩ := hv.cells slC_size
  rw [h.1] at hcells ⊢
  refine ⟨ao, c, rfl, ⟨fun h0 => ?_⟩⟩
  rcases hcells with e | ⟨g, rfl, _, hlt, cur, hB, _, hk⟩
  · omega
  · refine ⟨g, 0, rfl, hlt, fun i l hl => ?_⟩
    have hi : i < ls.length := (List.getElem?_eq_some_iff.1 hl).1
    obtain ⟨x, hx⟩ : ∃ x, vs[i]? = some x := ⟨_, List.getElem?_eq_getElem (by rw [h.1]; exact hi)⟩
    obtain ⟨h1, h2, h3⟩ := h.2 i x l hx hl
    have hm := hg l (List.mem_of_getElem? hl)
    obtain ⟨ao', c', e, hlc, hN, _⟩ := nodes_of_own h3 (by omega) (fun j n hn => by have := (hm.1 n (List.mem_of_getElem? hn)).2.2.2.2; omega)
    simp only [Value.slice.injEq] at e
    obtain ⟨rfl, _, rfl⟩ := e
    refine ⟨x.1, x.2.2, hB.cell ?_, hlc, hN⟩
    have := hk i 0 x hx (by omega)
    rw [Nat.mul_one, Nat.add_zero] at this
    rw [Nat.zero_add, this, ← h1]; rfl

theorem RdW.grown {w w' : World} {b : Nat} {s : ByteArray} {r : List UInt8} (h : RdW w b s r) {row : Option Nat} (g : w.grownBy w' row) (hr : ∀ i, row = some i → b < i) : RdW w' b s r := by
  obtain ⟨j, hB, hA⟩ := h
  exact ⟨j, hB.grown g (fun e => by have := hr b e.symm; omega), hA⟩
theorem RdW.ext {w w' : World} {b : Nat} {s : ByteArray} {r : List UInt8} (h : RdW w b s r) (e : Ext w w') : RdW w' b s r := by
  obtain ⟨j, hB, hA⟩ := h
  exact ⟨j, hB.ext e, hA⟩
theorem fold_call {w : World} {base base' : Nat} {pv : Value} {vs : List (Option Addr × Nat × Nat)} {ls : List (List Nd)} (hv : OwnS w base' pv vs) (h : EachN w base vs ls) (hg : ∀ l, l ∈ ls → GoodN l ∧ l.length ≤ 1024) (h0 : 0 < ls.length) (op nn : Int) (hl : (foldN op ls).length ≤ 1024) :
    Calls Tryd.prog 69 #[.int .i64 op, .int .i64 nn, pv] w (FoldPost op ls w) := by
  obtain ⟨ao, cap, rfl, hP⟩ := parts_of_each hv h hg
  exact fold_any hP h0 (fun l h => (hg l h).1) op nn hl
theorem keep_call {w : World} {b : Nat} {s : ByteArray} {r : List UInt8} {base : Nat} {v : Value} {l : List Nd} (h : RdW w b s r) (hv : OwnN w base v l) (hl : l.length ≤ 1024) :
    Calls Tryd.prog 68 #[.pointer (some ⟨b, 0, none⟩), v, .bool true] w fun e w' => e = .returned v ∧ w = w' := by
  obtain ⟨ao, c, rfl, _, _⟩ := OwnR.cells hv ndV_size
  exact keep_any h hl

/-- What reading a part leaves. -/
def ReadPost (b : Nat) (s : ByteArray) (l : List Nd) (r' : List UInt8) (w : World) (e : Ending) (w' : World) : Prop :=
  ∃ v, e = .returned (.tuple #[v, .bool true]) ∧ OwnN w' w.heap.size v l ∧ RdW w' b s r' ∧ Chg (· = b) w w'
/-- A function of the reader reads such parts. -/
def PartC (f : FuncId) (b : Nat) (s : ByteArray) (P : Part) : Prop := ∀ r l r' w, P r l r' → RdW w b s r → b < w.heap.size → Calls Tryd.prog f #[.pointer (some ⟨b, 0, none⟩)] w (ReadPost b s l r' w)
/-- Such parts are good. -/
def PartG (P : Part) : Prop := ∀ r l r', P r l r' → GoodN l ∧ l.length ≤ 1024

def RowRel (c : UInt8) (P : Part) (b : Nat) (s : ByteArray) (ls : List (List Nd)) (r' : List UInt8) (w : World) (g : Nat) (v : Value) (wr : World) : Prop :=
  ∃ ls1 ls2 q vs, ls = ls1 ++ ls2 ∧ g = ls2.length ∧ Parts c P q ls2 r' ∧ RdW wr b s q ∧ OwnS wr w.heap.size v vs ∧ EachN wr w.heap.size vs ls1 ∧ (∀ l, l ∈ ls1 → GoodN l ∧ l.length ≤ 1024) ∧ Chg (· = b) w wr

set_option maxRecDepth 100000 in
set_option maxHeartbeats 2000000 in
theorem row_any {f : FuncId} (hfn : f = 70 ∨ f = 53) {b : Nat} {s : ByteArray} {P : Part} (hf : PartC f b s P) (hG : PartG P) {c : UInt8} (ci : Int) (hc : ci = (c.toNat : Int)) (op nn : Int) {r : List UInt8} {l : List Nd} {r' : List UInt8} (hr : RowOf c op P r l r') {w : World} (hR : RdW w b s r) (hb : b < w.heap.size) (hs : s.size ≤ 1000000) :
    Calls Tryd.prog 52 #[.pointer (some ⟨b, 0, none⟩), .int .u8 ci, .int .i64 op, .int .i64 nn, .func (.func f) #[.pointer (some ⟨b, 0, none⟩)] #[]] w (ReadPost b s l r' w) := by
  obtain ⟨ls, hP, rfl, hl⟩ := hr
  have HF := hid hf
  have HG := hid hG
  have HC := hid hc
  have HR := hid hR
  have HP := hid hP
  have HL := hid hl
  clear hf hG hc hR hP hl
  rcases hfn with rfl | rfl
  all_goals
    go_enter Tryd.func52, Tryd.ntmps52
    go_wp2_with fail
    go_loopg [12] ls.length (fun g v wr => RowRel c P b s ls r' w g v wr)
    case atStart => exact ⟨[], ls, r, [], rfl, rfl, HP.out, HR.out, OwnR.nil _ _ _ _ _, EachN.nil _ _, fun l h => by simp at h, Chg.refl _ _⟩
    case round =>
      obtain ⟨ls1, ls2, q, vs, hls, hg, hP, hR, hO, hE, hgd, hX⟩ := hrel
      have HE := hid hE
      have HO := hid hO
      have HX := hid hX
      have HGD := hid hgd
      have HLS := hid hls
      have HGG := hid hg
      have hsz := hX.size
      have hb2 : b < wr.heap.size := by omega
      clear hE hO hX hgd hls hg
      have hvs : vs.length ≤ 1025 := by
        have h1 := HE.out.1
        have h2 := congrArg List.length HLS.out
        have h3 := HL.out
        rw [List.length_append] at h2
        by_cases h0 : 0 < ls.length
        · rw [foldN_len op ls h0] at h3; omega
        · omega
      cases hP with
      | @last _ l q2 hp hm =>
        have hgl := HG.out _ _ _ hp
        have HGL := hid hgl
        have HM := hid hm
        have hcall := HF.out _ _ _ _ hp hR hb2
        have HCALL := hid hcall
        have hgall : ∀ x, x ∈ ls1 ++ [l] → GoodN x ∧ x.length ≤ 1024 := fun x hx => by
          rcases List.mem_append.1 hx with h | h
          · exact HGD.out x h
          · simp only [List.mem_cons, List.not_mem_nil, or_false] at h; subst h; exact hgl
        have HGA := hid hgall
        clear hgall
        clear hgl hm hcall hp hR
        go_wp2_with fail
        refine HCALL.out.mono ?_
        rintro e w2 ⟨v, rfl, hO2, hR2, hX2⟩
        obtain ⟨ao, cv, rfl, hcv, _⟩ := OwnR.cells hO2 ndV_size
        have HO2 : Hid (OwnS w2 w.heap.size u12 vs) := hid (HO.out.chg hX2 (fun k hk => by have := (HO.out.lt k hk).1; show ¬ k = b; omega))
        have HE2 : Hid (EachN w2 w.heap.size vs ls1) := hid (HE.out.chg hX2 (fun k hk => by show ¬ k = b; omega))
        have HN2 : Hid (OwnN w2 w.heap.size (.slice ao l.length cv) l) := hid (hO2.lower hsz)
        have HX2 := hid (HX.out.trans hX2)
        have HR2 := hid hR2
        have hsz2 := HX2.out.size
        clear hO2 hR2 hX2
        by_cases hv0 : vs.length = 0
        · have hq : (((vs.length : Int) + 1) == 1) = true := by simp [hv0]
          have HV := hid hv0
          clear hv0
          go_wp2_with (first
          | (at_builtin; (go_must (refine wpList_append_R elem_nds slC_size ones_slC HO2 hsz2 (by omega) (ao, l.length, cv) _ rfl _ rfl rfl _ _ rfl rfl rfl ?_)); rintro g' cap' v' w4 rfl H1 H2
             have HES : Hid (EachN w4 w.heap.size (vs ++ [(ao, l.length, cv)]) (ls1 ++ [l])) := hid ((HE2.out.grown HO2.out H2.out.1).snoc rfl hcv (HN2.out.grown H2.out.1 (fun k hk e => own_apart HN2.out HO2.out (by decide) k hk e)))
             have HN4 := hid (HN2.out.grown H2.out.1 (fun k hk e => own_apart HN2.out HO2.out (by decide) k hk e))
             have HR4 := hid (HR2.out.grown H2.out.1 (fun i hi => by have := (HO2.out.lt i hi).1; omega))
             have HX4 := hid (chg_grown HX2.out H2.out.1 (fun i hi => (HO2.out.lt i hi).1)))
          | (go_at_call 67
             refine (mark_no HR4.out hs ci HC.out HM.out).mono ?_
             rintro e w5 ⟨rfl, hR5, hX5⟩
             have HR5 := hid hR5
             have HE5 := hid (HES.out.chg hX5 (fun k hk => by show ¬ k = b; omega))
             have HO5 := hid (H1.out.chg hX5 (fun k hk => by have := (H1.out.lt k hk).1; show ¬ k = b; omega))
             have HN5 := hid (HN4.out.chg hX5 (fun k hk => by have := (HN4.out.lt k hk).1; show ¬ k = b; omega))
             have HX5 := hid (HX4.out.trans hX5)
             clear hR5 hX5))
          go_ret2
          have h1 : ls1 = [] := List.length_eq_zero_iff.1 (by rw [← HE.out.1]; exact HV.out)
          refine ⟨_, rfl, ?_, HR5.out, HX5.out⟩
          rw [HLS.out, h1]
          exact HN5.out
        · have hq : (((vs.length : Int) + 1) == 1) = false := beq_eq_false_iff_ne.2 (by omega)
          clear hv0
          go_wp2_with (first
          | (at_builtin; (go_must (refine wpList_append_R elem_nds slC_size ones_slC HO2 hsz2 (by omega) (ao, l.length, cv) _ rfl _ rfl rfl _ _ rfl rfl rfl ?_)); rintro g' cap' v' w4 rfl H1 H2
             have HES : Hid (EachN w4 w.heap.size (vs ++ [(ao, l.length, cv)]) (ls1 ++ [l])) := hid ((HE2.out.grown HO2.out H2.out.1).snoc rfl hcv (HN2.out.grown H2.out.1 (fun k hk e => own_apart HN2.out HO2.out (by decide) k hk e)))
             have HN4 := hid (HN2.out.grown H2.out.1 (fun k hk e => own_apart HN2.out HO2.out (by decide) k hk e))
             have HR4 := hid (HR2.out.grown H2.out.1 (fun i hi => by have := (HO2.out.lt i hi).1; omega))
             have HX4 := hid (chg_grown HX2.out H2.out.1 (fun i hi => (HO2.out.lt i hi).1)))
          | (go_at_call 67
             refine (mark_no HR4.out hs ci HC.out HM.out).mono ?_
             rintro e w5 ⟨rfl, hR5, hX5⟩
             have HR5 := hid hR5
             have HE5 := hid (HES.out.chg hX5 (fun k hk => by show ¬ k = b; omega))
             have HO5 := hid (H1.out.chg hX5 (fun k hk => by have := (H1.out.lt k hk).1; show ¬ k = b; omega))
             have HN5 := hid (HN4.out.chg hX5 (fun k hk => by have := (HN4.out.lt k hk).1; show ¬ k = b; omega))
             have HX5 := hid (HX4.out.trans hX5)
             clear hR5 hX5)
          | (go_at_call 69
             refine (fold_call HO5.out HE5.out HGA.out (by simp) op nn (by rw [← HLS.out]; exact HL.out)).mono ?_
             rintro e w6 ⟨v6, rfl, hO6, hX6⟩
             have HO6 := hid hO6
             have HR6 := hid (HR5.out.ext hX6)
             have HX6 := hid (HX5.out.ext hX6)
             clear hO6 hX6)
          | (go_at_call 68
             refine (keep_call HR6.out HO6.out (by rw [← HLS.out]; exact HL.out)).mono ?_
             rintro e w7 ⟨rfl, rfl⟩))
          go_ret2
          refine ⟨_, rfl, ?_, HR6.out, HX6.out⟩
          rw [HLS.out]
          exact HO6.out.lower HX5.out.size
      | @more _ l q2 q' ls2' _ hp hm hrest =>
        have hgl := HG.out _ _ _ hp
        have HGL := hid hgl
        have HM := hid hm
        have hcall := HF.out _ _ _ _ hp hR hb2
        have HCALL := hid hcall
        have HREST := hid hrest
        clear hrest
        clear hgl hm hcall hp hR
        go_wp2_with fail
        refine HCALL.out.mono ?_
        rintro e w2 ⟨v, rfl, hO2, hR2, hX2⟩
        obtain ⟨ao, cv, rfl, hcv, _⟩ := OwnR.cells hO2 ndV_size
        have HO2 : Hid (OwnS w2 w.heap.size u12 vs) := hid (HO.out.chg hX2 (fun k hk => by have := (HO.out.lt k hk).1; show ¬ k = b; omega))
        have HE2 : Hid (EachN w2 w.heap.size vs ls1) := hid (HE.out.chg hX2 (fun k hk => by show ¬ k = b; omega))
        have HN2 : Hid (OwnN w2 w.heap.size (.slice ao l.length cv) l) := hid (hO2.lower hsz)
        have HX2 := hid (HX.out.trans hX2)
        have HR2 := hid hR2
        have hsz2 := HX2.out.size
        clear hO2 hR2 hX2
        go_wp2_with (first
          | (at_builtin; (go_must (refine wpList_append_R elem_nds slC_size ones_slC HO2 hsz2 (by omega) (ao, l.length, cv) _ rfl _ rfl rfl _ _ rfl rfl rfl ?_)); rintro g' cap' v' w4 rfl H1 H2
             have HES : Hid (EachN w4 w.heap.size (vs ++ [(ao, l.length, cv)]) (ls1 ++ [l])) := hid ((HE2.out.grown HO2.out H2.out.1).snoc rfl hcv (HN2.out.grown H2.out.1 (fun k hk e => own_apart HN2.out HO2.out (by decide) k hk e)))
             have HN4 := hid (HN2.out.grown H2.out.1 (fun k hk e => own_apart HN2.out HO2.out (by decide) k hk e))
             have HR4 := hid (HR2.out.grown H2.out.1 (fun i hi => by have := (HO2.out.lt i hi).1; omega))
             have HX4 := hid (chg_grown HX2.out H2.out.1 (fun i hi => (HO2.out.lt i hi).1)))
          | (go_at_call 67
             refine (mark_yes HR4.out hs ci HC.out HM.out).mono ?_
             rintro e w5 ⟨rfl, hR5, hX5⟩
             have HR5 := hid hR5
             have HE5 := hid (HES.out.chg hX5 (fun k hk => by show ¬ k = b; omega))
             have HO5 := hid (H1.out.chg hX5 (fun k hk => by have := (H1.out.lt k hk).1; show ¬ k = b; omega))
             have HN5 := hid (HN4.out.chg hX5 (fun k hk => by have := (HN4.out.lt k hk).1; show ¬ k = b; omega))
             have HX5 := hid (HX4.out.trans hX5)
             clear hR5 hX5))
        go_roundg ls2'.length
        case measure => rw [HGG.out]; simp
        case rel =>
          refine ⟨ls1 ++ [l], ls2', q', _, by rw [HLS.out]; simp, rfl, HREST.out, HR5.out, ?_, HE5.out, fun x hx => ?_, HX5.out⟩
          · exact HO5.out
          · rcases List.mem_append.1 hx with h | h
            · exact HGD.out x h
            · simp only [List.mem_cons, List.not_mem_nil, or_false] at h; subst h; exact HGL.out

end Go.Proofs.YtngpjagpeblbjaaDoor
