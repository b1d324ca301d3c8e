/-
  Walks of item, sequence and expression.
-/
import Derived.Test.YtngpjagpeblbjaaDoorZR6
namespace Go.Proofs.YtngpjagpeblbjaaDoor
open Go.RowKit Go.Spy Go.Rx

theorem good_leaf {n : Nd} (ha : n.a = 0) (hb : n.b = 0) (hs : n.sym.size ≤ 64) : GoodN [n] := by
  intro m hm
  simp only [List.mem_cons, List.not_mem_nil, or_false] at hm
  subst hm
  rw [ha, hb]
  exact ⟨by decide, by simp, by decide, by simp, hs⟩
theorem good_marks {l : List Nd} {r : List UInt8} {l' : List Nd} {r' : List UInt8} (h : Marks l r l' r') (hg : GoodN l ∧ l.length ≤ 1024) : GoodN l' ∧ l'.length ≤ 1024 := by
  induction h with
  | done _ _ _ => exact hg
  | star _ hl _ ih => exact ih ⟨good_many hg.1, by rw [manyL_len]; exact hl⟩
  | opt _ hl _ ih => exact ih ⟨good_two hg.1 (good_leaf rfl rfl (by simp [nd1, nil8, ByteArray.size])), by rw [two_len]; simp; omega⟩
theorem good_item {P : Part} (h : PartG P) : PartG (ItemOf P) := fun r l r' ⟨l0, q, h1, h2⟩ => good_marks h2 (h _ _ _ h1)
theorem good_parts {c : UInt8} {P : Part} (hP : PartG P) {r : List UInt8} {ls : List (List Nd)} {r' : List UInt8} (h : Parts c P r ls r') : ∀ l, l ∈ ls → GoodN l := by
  induction h with
  | last hp _ => intro l hl; simp only [List.mem_cons, List.not_mem_nil, or_false] at hl; subst hl; exact (hP _ _ _ hp).1
  | more hp _ _ ih => intro l hl; rcases List.mem_cons.1 hl with rfl | hl; exact (hP _ _ _ hp).1; exact ih l hl
theorem good_row {c : UInt8} {op : Int} {P : Part} (h : PartG P) : PartG (RowOf c op P) := fun r l r' ⟨ls, h1, h2, h3⟩ => ⟨by rw [h2]; exact good_fold (good_parts h h1), h3⟩

theorem parts_two {w : World} {base : Nat} {ao : Option Addr} {c : Nat} {l : List Nd} (h : OwnN w base (.slice ao l.length c) l) (hc : l.length ≤ c) (hg : GoodN l ∧ l.length ≤ 1024) :
    PartsV ((w.alloc (.cells #[.int .i64 1, .string ⟨#[]⟩, .int .i64 0, .int .i64 0] 45)).alloc (.cells #[.slice ao l.length c, .slice (some ⟨w.heap.size, 0, none⟩) 1 1] 22)) (some ⟨w.heap.size + 1, 0, none⟩) [l, [nd1]] where
  cells _ := by
    obtain ⟨ao', c', e, hlc, hN, _⟩ := nodes_of_own h (by omega) (fun j n hn => by have := (hg.1 n (List.mem_of_getElem? hn)).2.2.2.2; omega)
    simp only [Value.slice.injEq] at e
    obtain ⟨rfl, _, rfl⟩ := e
    have e1 : Ext w ((w.alloc (.cells #[.int .i64 1, .string ⟨#[]⟩, .int .i64 0, .int .i64 0] 45)).alloc (.cells #[.slice ao l.length c, .slice (some ⟨w.heap.size, 0, none⟩) 1 1] 22)) := ((Below.refl _ w).alloc (Nat.le_refl _) _).alloc (by simp) _
    have B2 : Blk ((w.alloc (.cells #[.int .i64 1, .string ⟨#[]⟩, .int .i64 0, .int .i64 0] 45)).alloc (.cells #[.slice ao l.length c, .slice (some ⟨w.heap.size, 0, none⟩) 1 1] 22)) (w.heap.size + 1) 22 #[.slice ao l.length c, .slice (some ⟨w.heap.size, 0, none⟩) 1 1] := Blk.new' _ _ _ (by simp)
    have B1 : Blk ((w.alloc (.cells #[.int .i64 1, .string ⟨#[]⟩, .int .i64 0, .int .i64 0] 45)).alloc (.cells #[.slice ao l.length c, .slice (some ⟨w.heap.size, 0, none⟩) 1 1] 22)) w.heap.size 45 #[.int .i64 1, .string ⟨#[]⟩, .int .i64 0, .int .i64 0] := (Blk.new w _ _).alloc _
    refine ⟨w.heap.size + 1, 0, rfl, B2.lt, fun i m hm => ?_⟩
    match i, hm with
    | 0, hm =>
      cases hm
      exact ⟨ao, c, B2.cell rfl, hc, hN.ext e1⟩
    | 1, hm =>
      cases hm
      refine ⟨some ⟨w.heap.size, 0, none⟩, 1, B2.cell rfl, Nat.le_refl _, ⟨by decide, fun j n hn => ?_, fun _ => ⟨w.heap.size, 0, rfl, B1.lt, fun j n hn => ?_⟩⟩⟩
      · match j, hn with
        | 0, hn => cases hn; simp [nd1, nil8, ByteArray.size]
      · match j, hn with
        | 0, hn => cases hn; exact ⟨B1.cell rfl, B1.cell rfl, B1.cell rfl, B1.cell rfl⟩

theorem opt_call {w : World} {base : Nat} {ao : Option Addr} {c : Nat} {l : List Nd} (h : OwnN w base (.slice ao l.length c) l) (hc : l.length ≤ c) (hg : GoodN l ∧ l.length ≤ 1024) (hl : l.length + 2 ≤ 1024) :
    Calls Tryd.prog 69 #[.int .i64 4, .int .i64 0, .slice (some ⟨w.heap.size + 1, 0, none⟩) 2 2] ((w.alloc (.cells #[.int .i64 1, .string ⟨#[]⟩, .int .i64 0, .int .i64 0] 45)).alloc (.cells #[.slice ao l.length c, .slice (some ⟨w.heap.size, 0, none⟩) 1 1] 22)) fun e w' =>
      ∃ v, e = .returned (.tuple #[v, .bool true]) ∧ OwnN w' w.heap.size v (two 4 l [nd1]) ∧ Ext w w' := by
  have hgl : ∀ x, x ∈ [l, [nd1]] → GoodN x := fun x hx => by
    simp only [List.mem_cons, List.not_mem_nil, or_false] at hx
    rcases hx with rfl | rfl
    · exact hg.1
    · exact good_leaf rfl rfl (by simp [nd1, nil8, ByteArray.size])
  refine (fold_any (cap := 2) (parts_two h hc hg) (by simp) hgl 4 0 (by show (two 4 l [nd1]).length ≤ 1024; rw [two_len]; simp; omega)).mono ?_
  rintro e w' ⟨v, rfl, hO, hX⟩
  refine ⟨v, rfl, hO.lower (by simp; omega), ?_⟩
  exact (((Below.refl _ w).alloc (Nat.le_refl _) _).alloc (by simp) _).trans (hX.mono (by simp; omega))

def ItemRel (b : Nat) (s : ByteArray) (l' : List Nd) (r' : List UInt8) (w : World) (g : Nat) (v : Value) (wr : World) : Prop :=
  ∃ l q, g = q.length ∧ Marks l q l' r' ∧ (GoodN l ∧ l.length ≤ 1024) ∧ RdW wr b s q ∧ OwnN wr w.heap.size v l ∧ Chg (· = b) w wr

theorem chg_own {S S' : Nat → Prop} {w a c : World} (h : Chg S w a) (k : Chg S' a c) (hS : ∀ i, S' i → w.heap.size ≤ i) : Chg S w c :=
  ⟨k.os.trans h.os, k.tape.trans h.tape, k.output.trans h.output, Nat.le_trans h.size k.size, fun i hi hs => (k.block i (Nat.lt_of_lt_of_le hi h.size) (fun e => by have := hS i e; omega)).trans (h.block i hi hs)⟩
theorem sk_lt {r q : List UInt8} {c : UInt8} (h : sk r = c :: q) : q.length < r.length := by
  have h1 := (sk_suffix r).length_le
  rw [h] at h1
  simp only [List.length_cons] at h1
  omega
set_option maxRecDepth 100000 in
set_option maxHeartbeats 2000000 in
theorem item_any {b : Nat} {s : ByteArray} {P : Part} (hf : PartC 79 b s P) (hG : PartG P) (hs : s.size ≤ 1000000) : PartC 70 b s (ItemOf P) := by
  rintro r l r' w ⟨l0, q0, hp, hm⟩ hR hb
  have hcall := hf _ _ _ _ hp hR hb
  have hg0 := hG _ _ _ hp
  have HM := hid hm
  have HG0 := hid hg0
  have HCALL := hid hcall
  clear hcall hf hG hp hm hR hg0
  go_enter Tryd.func70, Tryd.ntmps70
  go_wp2_with fail
  go_step3
  go_wp2_with (go_at_call 79; refine HCALL.out.mono ?_; rintro e w1 ⟨v, rfl, hO, hR, hX⟩; have HO := hid hO; have HR := hid hR; have HX := hid hX; clear hO hR hX)
  go_step3
  go_wp2_with fail
  go_loopg [4] q0.length (fun g v wr => ItemRel b s l r' w g v wr)
  case atStart => exact ⟨l0, q0, rfl, HM.out, HG0.out, HR.out, HO.out, HX.out⟩
  case round =>
    obtain ⟨lx, q, hg, hm, hgd, hR, hO, hX⟩ := hrel
    obtain ⟨ao, cv, rfl, hcv, _⟩ := OwnR.cells hO ndV_size
    have HO := hid hO
    have HX := hid hX
    have HR := hid hR
    have HGG := hid hg
    have hsz := hX.size
    have hlx := hgd.2
    have HGD := hid hgd
    clear hO hX hR hg hgd
    cases hm with
    | done m1 m2 m3 =>
      have M1 := hid m1
      have M2 := hid m2
      have M3 := hid m3
      clear m1 m2 m3
      go_wp2_with fail
      refine (mark_no HR.out hs 42 rfl M1.out).mono ?_
      rintro e w2 ⟨rfl, hR, hX⟩
      have HR2 := hid hR
      have HX2 := hid (HX.out.trans hX)
      have HO2 := hid (HO.out.chg hX (fun k hk => by have := (HO.out.lt k hk).1; show ¬ k = b; omega))
      clear hR hX
      go_wp2_with fail
      refine (mark_no HR2.out hs 43 rfl (by rw [sk_sk]; exact M2.out)).mono ?_
      rintro e w3 ⟨rfl, hR, hX⟩
      rw [sk_sk] at hR
      have HR3 := hid hR
      have HX3 := hid (HX2.out.trans hX)
      have HO3 := hid (HO2.out.chg hX (fun k hk => by have := (HO2.out.lt k hk).1; show ¬ k = b; omega))
      clear hR hX
      go_wp2_with fail
      refine (mark_no HR3.out hs 63 rfl (by rw [sk_sk]; exact M3.out)).mono ?_
      rintro e w4 ⟨rfl, hR, hX⟩
      rw [sk_sk] at hR
      have HR4 := hid hR
      have HX4 := hid (HX3.out.trans hX)
      have HO4 := hid (HO3.out.chg hX (fun k hk => by have := (HO3.out.lt k hk).1; show ¬ k = b; omega))
      clear hR hX
      go_wp2_with fail
      try rw [Exit.noGoto_ret]
      go_ret2
      exact ⟨_, rfl, HO4.out, HR4.out, HX4.out⟩
    | @star _ _ q' _ _ m1 hl hrest =>
      have M1 := hid m1
      have HREST := hid hrest
      clear m1 hrest
      go_wp2_with (first
        | (go_at_call 67
           refine (mark_yes HR.out hs 42 rfl M1.out).mono ?_
           rintro e w2 ⟨rfl, hR, hX⟩
           have HR2 := hid hR
           have HX2 := hid (HX.out.trans hX)
           have HO2 := hid (HO.out.chg hX (fun k hk => by have := (HO.out.lt k hk).1; show ¬ k = b; omega))
           clear hR hX)
        | (go_at_call 80
           refine (many_any HO2.out HX2.out.size (by omega)).mono ?_
           rintro e w3 ⟨v3, rfl, hO, hX⟩
           have HO3 := hid hO
           have HR3 := hid (show RdW w3 b s q' by obtain ⟨j, hB, hA⟩ := HR2.out; exact ⟨j, hB.chg hX (fun e => by have := (HO2.out.lt b e).1; omega), hA⟩)
           have HX3 := hid (chg_own HX2.out hX (fun k e => (HO2.out.lt k e).1))
           clear hO hX)
        | (go_at_call 68
           refine (keep_call HR3.out HO3.out (by rw [manyL_len]; exact hl)).mono ?_
           rintro e w4 ⟨rfl, rfl⟩))
      have hq := sk_lt M1.out
      go_roundg q'.length
      case measure => rw [HGG.out]; exact hq
      case rel => exact ⟨manyL lx, q', rfl, HREST.out, ⟨good_many HGD.out.1, by rw [manyL_len]; exact hl⟩, HR3.out, HO3.out, HX3.out⟩
    | @opt _ _ q' _ _ m1 hl hrest =>
      have M1 := hid m1
      have hno : ∀ c : UInt8, c ≠ 63 → (sk q).head? ≠ some c := fun c hc e => by
        rw [M1.out] at e
        exact hc (Option.some.inj e).symm
      have HNO := hid hno
      have HREST := hid hrest
      clear m1 hrest hno
      go_wp2_with fail
      refine (mark_no HR.out hs 42 rfl (HNO.out 42 (by decide))).mono ?_
      rintro e w2 ⟨rfl, hR, hX⟩
      have HR2 := hid hR
      have HX2 := hid (HX.out.trans hX)
      have HO2 := hid (HO.out.chg hX (fun k hk => by have := (HO.out.lt k hk).1; show ¬ k = b; omega))
      clear hR hX
      go_wp2_with fail
      refine (mark_no HR2.out hs 43 rfl (by rw [sk_sk]; exact HNO.out 43 (by decide))).mono ?_
      rintro e w3 ⟨rfl, hR, hX⟩
      have HR3 := hid hR
      have HX3 := hid (HX2.out.trans hX)
      have HO3 := hid (HO2.out.chg hX (fun k hk => by have := (HO2.out.lt k hk).1; show ¬ k = b; omega))
      clear hR hX
      go_wp2_with fail
      refine (mark_yes HR3.out hs 63 rfl (q := q') (c := 63) (by rw [sk_sk, sk_sk]; exact M1.out)).mono ?_
      rintro e w4 ⟨rfl, hR, hX⟩
      have HR4 := hid hR
      have HX4 := hid (HX3.out.trans hX)
      have HO4 := hid (HO3.out.chg hX (fun k hk => by have := (HO3.out.lt k hk).1; show ¬ k = b; omega))
      have hs4 := HX4.out.size
      clear hR hX
      go_wp2_with (first
        | (go_at_call 69
           refine (opt_call HO4.out hcv HGD.out hl).mono ?_
           rintro e w5 ⟨v5, rfl, hO, hX⟩
           have HO5 := hid (hO.lower hs4)
           have HR5 := hid (HR4.out.ext hX)
           have HX5 := hid (HX4.out.ext hX)
           clear hO hX)
        | (go_at_call 68
           refine (keep_call HR5.out HO5.out (by rw [two_len]; simp; omega)).mono ?_
           rintro e w6 ⟨rfl, rfl⟩))
      have hq := sk_lt M1.out
      go_roundg q'.length
      case measure => rw [HGG.out]; exact hq
      case rel => exact ⟨two 4 lx [nd1], q', rfl, HREST.out, ⟨good_two HGD.out.1 (good_leaf rfl rfl (by simp [nd1, nil8, ByteArray.size])), by rw [two_len]; simp; omega⟩, HR5.out, HO5.out, HX5.out⟩

theorem sequence_any {b : Nat} {s : ByteArray} {P : Part} (hf : PartC 79 b s P) (hG : PartG P) (hs : s.size ≤ 1000000) : PartC 53 b s (SeqOf P) := by
  intro r l r' w hp hR hb
  have H := hid (row_any (.inl rfl) (item_any hf hG hs) (good_item hG) (c := 44) 44 rfl 3 1 hp hR hb hs)
  clear hf hp hR
  go_enter Tryd.func53, Tryd.ntmps53
  go_wp2_with (go_at_call 52; refine H.out.mono ?_; rintro e w1 ⟨v, rfl, hO, hR, hX⟩; have HO := hid hO; have HR := hid hR; have HX := hid hX; clear hO hR hX)
  go_ret2
  exact ⟨_, rfl, HO.out, HR.out, HX.out⟩

theorem expression_any {b : Nat} {s : ByteArray} {P : Part} (hf : PartC 79 b s P) (hG : PartG P) (hs : s.size ≤ 1000000) : PartC 37 b s (ExprOf P) := by
  intro r l r' w hp hR hb
  have H := hid (row_any (.inr rfl) (sequence_any hf hG hs) (good_row (good_item hG)) (c := 124) 124 rfl 4 0 hp hR hb hs)
  clear hf hp hR
  go_enter Tryd.func37, Tryd.ntmps37
  go_wp2_with (go_at_call 52; refine H.out.mono ?_; rintro e w1 ⟨v, rfl, hO, hR, hX⟩; have HO := hid hO; have HR := hid hR; have HX := hid hX; clear hO hR hX)
  go_ret2
  exact ⟨_, rfl, HO.out, HR.out, HX.out⟩

end Go.Proofs.YtngpjagpeblbjaaDoor
