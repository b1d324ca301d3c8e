/-
  Walk of fold: parts made one.
  Walk of row: parts with a mark between each two.
  Walks of item, sequence and expression.
-/
import Derived.Test.YtngpjagpeblbjaaGreatDoorP08
namespace Go.Rx
def GoodN (l : List Nd) : Prop := ∀ n, n ∈ l → -1 ≤ n.a ∧ n.a ≤ l.length ∧ -1 ≤ n.b ∧ n.b ≤ l.length ∧ n.sym.size ≤ 64
theorem mv_zero (n : Nd) : mv 0 n = n := by unfold mv; split <;> (try split) <;> simp
theorem foldN_next (op : Int) (ls : List (List Nd)) (k : Nat) (h : k < ls.length) (h0 : 0 < k) : foldN op (ls.take (k + 1)) = two op (foldN op (ls.take k)) ls[k] := by
 rw [List.take_succ_eq_append_getElem h]
 exact foldN_snoc op _ (fun e => by have := congrArg List.length e; rw [List.length_take, List.length_nil] at this; omega) _
theorem foldN_len (op : Int) (ls : List (List Nd)) (h : 0 < ls.length) : (foldN op ls).length = (ls.map List.length).sum + (ls.length - 1) := by
 cases ls with
 | nil => cases h
 | cons l ls =>
   have key : ∀ (ls : List (List Nd)) (l : List Nd), (ls.foldl (two op) l).length = l.length + (ls.map List.length).sum + ls.length := by
    intro ls
    induction ls with
    | nil => intro l; simp
    | cons x ls ih => intro l; rw [List.foldl_cons, ih, two_len]; simp; omega
   rw [foldN, key]; simp
theorem sum_take (ls : List (List Nd)) (k : Nat) (h : k < ls.length) : ((ls.take (k + 1)).map List.length).sum = ((ls.take k).map List.length).sum + ls[k].length := by
 rw [List.take_succ_eq_append_getElem h, List.map_append, List.sum_append]; rfl
theorem sum_le (ls : List (List Nd)) (k : Nat) : ((ls.take k).map List.length).sum ≤ (ls.map List.length).sum := by
 conv => rhs; rw [← List.take_append_drop k ls]
 rw [List.map_append, List.sum_append]; omega
def sumTo (ls : List (List Nd)) (k : Nat) : Nat := ((ls.take k).map List.length).sum + (ls.length - 1)
theorem sumTo_next {ls : List (List Nd)} {k : Nat} (h : k < ls.length) : sumTo ls (k + 1) = sumTo ls k + ls[k].length := by
 unfold sumTo; rw [sum_take ls k h]; omega
theorem sumTo_le (op : Int) {ls : List (List Nd)} (h : 0 < ls.length) (k : Nat) : sumTo ls k ≤ (foldN op ls).length := by
 unfold sumTo; rw [foldN_len op ls h]; have := sum_le ls k; omega
theorem foldN_take_le (op : Int) (ls : List (List Nd)) (k : Nat) : (foldN op (ls.take k)).length ≤ (foldN op ls).length := by
 by_cases h : 0 < (ls.take k).length
 ·have h' : 0 < ls.length := by rw [List.length_take] at h; omega
  rw [foldN_len op _ h, foldN_len op ls h']
  have := sum_le ls k
  have := List.length_take_le k ls
  have := List.length_take_le' k ls
  omega
 ·rw [List.length_eq_zero_iff.1 (show (ls.take k).length = 0 by omega)]
  exact Nat.zero_le _
theorem good_two {op : Int} {a b : List Nd} (ha : GoodN a) (hb : GoodN b) : GoodN (two op a b) := by
 intro n hn
 rw [two_len]
 simp only [two, List.mem_append, List.mem_map, List.mem_cons, List.not_mem_nil, or_false] at hn
 rcases hn with (hn | ⟨m, hm, rfl⟩) | rfl
 ·obtain ⟨h1, h2, h3, h4, h5⟩ := ha n hn
  exact ⟨h1, by omega, h3, by omega, h5⟩
 ·obtain ⟨h1, h2, h3, h4, h5⟩ := hb m hm
  have e1 : mv a.length m = if m.op = 3 ∨ m.op = 4 then { m with a := m.a + a.length, b := m.b + a.length } else if m.op = 5 then { m with a := m.a + a.length } else m := rfl
  rw [e1]
  split
  ·exact ⟨by simp only; omega, by simp only; omega, by simp only; omega, by simp only; omega, h5⟩
  ·split
   ·exact ⟨by simp only; omega, by simp only; omega, h3, by simp only; omega, h5⟩
   ·exact ⟨h1, by omega, h3, by omega, h5⟩
 ·exact ⟨by simp only; omega, by simp only; omega, by simp only; omega, by simp only; omega, by simp [nil8, ByteArray.size]⟩
theorem good_many {a : List Nd} (ha : GoodN a) : GoodN (manyL a) := by
 intro n hn
 rw [manyL_len]
 simp only [manyL, List.mem_append, List.mem_cons, List.not_mem_nil, or_false] at hn
 rcases hn with hn | rfl
 ·obtain ⟨h1, h2, h3, h4, h5⟩ := ha n hn
  exact ⟨h1, by omega, h3, by omega, h5⟩
 ·exact ⟨by simp only; omega, by simp only; omega, by simp only; omega, by simp only; omega, by simp [nil8, ByteArray.size]⟩
theorem good_fold {op : Int} {ls : List (List Nd)} (h : ∀ l, l ∈ ls → GoodN l) : GoodN (foldN op ls) := by
 cases ls with
 | nil => intro n hn; cases hn
 | cons l ls =>
   have key : ∀ (ls : List (List Nd)) (l : List Nd), GoodN l → (∀ x, x ∈ ls → GoodN x) → GoodN (ls.foldl (two op) l) := by
    intro ls
    induction ls with
    | nil => intro l hl _; exact hl
    | cons x ls ih => intro l hl hx; exact ih _ (good_two hl (hx x (by simp))) fun y hy => hx y (by simp [hy])
   exact key ls l (h l (by simp)) fun x hx => h x (by simp [hx])
end Go.Rx
namespace Go.Proofs.YtngpjagpeblbjaaGreatDoor
open Go.RowKit Go.Spy Go.Rx
structure PartsV (w : World) (ao : Option Addr) (ls : List (List Nd)) : Prop where
 cells : 0 < ls.length → ∃ b off, ao = some ⟨b, off, none⟩ ∧ b < w.heap.size ∧ ∀ i l, ls[i]? = some l → ∃ a c, w.cell? ⟨b, off + i, none⟩ = some (.slice a l.length c) ∧ l.length ≤ c ∧ NodesV w a l
def FoldPost (op : Int) (ls : List (List Nd)) (w : World) (e : Ending) (w' : World) : Prop := ∃ v, e = .returned (.tuple #[v, .bool true]) ∧ OwnN w' w.heap.size v (foldN op ls) ∧ Ext w w'
set_option maxRecDepth 100000 in
set_option maxHeartbeats 2000000 in
theorem fold_any {w : World} {ao : Option Addr} {cap : Nat} {ls : List (List Nd)} (hP : PartsV w ao ls) (h0 : 0 < ls.length) (hg : ∀ l, l ∈ ls → GoodN l) (op nn : Int) (hl : (foldN op ls).length ≤ 1024) :
 Calls Tryz.prog 151 #[.int .i64 op, .int .i64 nn, .slice ao ls.length cap] w (FoldPost op ls w) := by
 obtain ⟨b, off, rfl, hb, hc⟩ := hP.cells h0
 have HC := hid hc
 have HP := hid hP
 have HG := hid hg
 have hz : ((ls.length : Int) == 0) = false := beq_eq_false_iff_ne.2 (by omega)
 have hle : ∀ k, sumTo ls k ≤ 1024 := fun k => Nat.le_trans (sumTo_le op h0 k) hl
 have hl2 : ls.length ≤ 1025 := by have := foldN_len op ls h0; omega
 have HLE := hid hle
 have HL := hid hl
 clear hP hc hg hl hle
 go_enter Tryz.func151, Tryz.ntmps151
 go_wp2_with fail
 go_loopg [8, 28] ls.length (fun g u i wr => ∃ k, g = ls.length - k ∧ k ≤ ls.length ∧ wr = w ∧ i = .int .i64 k ∧ u = .int .i64 (sumTo ls k))
 case atStart => exact ⟨0, rfl, Nat.zero_le _, rfl, rfl, by have : sumTo ls 0 = ls.length - 1 := by simp [sumTo]
                                                            rw [this]; go_num⟩
 case round =>
  obtain ⟨k, rfl, hk, rfl, rfl, rfl⟩ := hrel
  by_cases hlt : k < ls.length
  ·obtain ⟨l, hl⟩ : ∃ l, ls[k]? = some l := ⟨_, List.getElem?_eq_getElem hlt⟩
   obtain ⟨a, c, q1, q2, q3⟩ := HC.out k l hl
   have hs := sumTo_next hlt
   have hs2 := HLE.out (k + 1)
   have hll : ls[k] = l := by rw [List.getElem?_eq_getElem hlt] at hl; exact Option.some.inj hl
   rw [hll] at hs
   have hs3 : sumTo ls k + l.length ≤ 1024 := by omega
   have HS := hid hs
   clear hs hs2 hll hl q3
   go_wp2_with fail
   go_roundg (ls.length - (k + 1))
   case measure => omega
   case rel => exact ⟨k + 1, rfl, by omega, rfl, by go_num, by rw [HS.out]; go_num⟩
  ·obtain rfl : k = ls.length := by omega
   have hd : decide ((1024 : Int) < (sumTo ls ls.length : Int)) = false := decide_eq_false (by have := HLE.out ls.length; omega)
   go_wp2_with fail
   clear hd
   obtain ⟨w0, rfl⟩ : ∃ w0 : World, w0 = wr := ⟨_, rfl⟩
   go_loopg [11, 41] ls.length (fun g v i wi => ∃ k, g = ls.length - k ∧ k ≤ ls.length ∧ i = .int .i64 k ∧ Hid (OwnN wi w0.heap.size v (foldN op (ls.take k))) ∧ Hid (Ext w0 wi))
   case atStart => exact ⟨0, rfl, Nat.zero_le _, rfl, hid (OwnR.nil _ _ _ _ _), hid (Below.refl _ _)⟩
   case round =>
    obtain ⟨k, rfl, hk, rfl, HO, HE⟩ := hrel
    obtain ⟨wi, rfl⟩ : ∃ wi : World, wi = wr := ⟨_, rfl⟩
    by_cases hlt : k < ls.length
    ·obtain ⟨l, hl⟩ : ∃ l, ls[k]? = some l := ⟨_, List.getElem?_eq_getElem hlt⟩
     obtain ⟨a, c, q1, q2, q3⟩ := HC.out k l hl
     have hll : ls[k] = l := by rw [List.getElem?_eq_getElem hlt] at hl; exact Option.some.inj hl
     have hgl := HG.out l (List.mem_of_getElem? hl)
     have hle1 := Nat.le_trans (foldN_take_le op ls (k + 1)) HL.out
     have hnext : (k = 0 → foldN op (ls.take (k + 1)) = l) ∧ (0 < k → foldN op (ls.take (k + 1)) = two op (foldN op (ls.take k)) l) := by
      refine ⟨fun e => ?_, fun e => ?_⟩
      ·subst e
       rw [List.take_succ_eq_append_getElem hlt, List.take_zero, hll]; rfl
      ·rw [foldN_next op ls k hlt e, hll]
     have hacc0 : k = 0 → foldN op (ls.take k) = [] := fun e => by subst e; rfl
     have hsz : (foldN op (ls.take k)).length + l.length ≤ 1024 := by
      by_cases e : k = 0
      ·rw [hacc0 e]; rw [hnext.1 e] at hle1; simpa using hle1
      ·rw [hnext.2 (by omega), two_len] at hle1; omega
     obtain ⟨acc, HACC⟩ : ∃ acc, Hid (foldN op (ls.take k) = acc) := ⟨_, hid rfl⟩
     rw [HACC.out] at hacc0 hsz hnext
     have HO1 : Hid (OwnN wi w0.heap.size u11 acc) := hid (by rw [← HACC.out]; exact HO.out)
     obtain ⟨ao', c', rfl, hca, _⟩ := OwnR.cells HO1.out ndV_size
     have c1 : wi.cell? ⟨b, off + k, none⟩ = some (.slice a l.length c) := (HE.out.cell (p := ⟨b, off + k, none⟩) hb).trans q1
     have HN := hid q3
     have HX := hid hnext
     have HZ := hid hacc0
     have HGL := hid hgl
     clear hl q1 q3 hll hgl hle1 hnext hacc0 HO
     go_wp2_with fail
     go_loopg [11, 50] l.length (fun g v i wj => ∃ m, g = l.length - m ∧ m ≤ l.length ∧ i = .int .i64 m ∧ Hid (OwnN wj w0.heap.size v (acc ++ (l.take m).map (mv acc.length))) ∧ Hid (Ext w0 wj))
     case atStart => exact ⟨0, rfl, Nat.zero_le _, rfl, hid (by have := HO1.out; simpa using this), HE⟩
     case round =>
      obtain ⟨m, rfl, hm, rfl, HOj, HEj⟩ := hrel
      by_cases hlm : m < l.length
      ·obtain ⟨n, hn⟩ : ∃ n, l[m]? = some n := ⟨_, List.getElem?_eq_getElem hlm⟩
       obtain ⟨bn, on, rfl, hbn, hcn⟩ := (HN.out.ext HEj.out).cells (by omega)
       obtain ⟨p0, p1, p2, p3⟩ := hcn m n hn
       have hnear : NearN n := by
        obtain ⟨h1, h2, h3, h4, _⟩ := HGL.out n (List.mem_of_getElem? hn)
        exact ⟨by omega, by omega, by omega, by omega⟩
       have HNr := hid hnear
       have HNn := hid hn
       clear hcn hn hnear
       go_wp2_with (first
        | (go_at_call 162
           refine (moved_any n acc.length (by omega) HNr.out _).mono ?_
           rintro e w3 ⟨rfl, hx3⟩
           have HX3 := hid ((HEj.out.alloc HEj.out.size _).trans (hx3.mono (by have := HEj.out.size; simp; omega)))
           have HO3 := hid ((HOj.out.alloc _).ext hx3)
           clear hx3)
        | (at_builtin; go_must (refine wpList_append_R elem_nd ndV_size ones_ndV HO3 HX3.out.size (by simp; omega) (mv acc.length n) _ rfl _ rfl rfl _ _ rfl rfl rfl ?_); rintro g' cap' v' w4 rfl H1 H2))
       go_roundg (l.length - (m + 1))
       case measure => omega
       case rel =>
        refine ⟨m + 1, rfl, by omega, by go_num, hid ?_, hid (ext_grown HX3.out H2.out.1 (fun i hi => (HO3.out.lt i hi).1))⟩
        have h1 := H1.out
        obtain ⟨hk', e⟩ := List.getElem?_eq_some_iff.1 HNn.out
        rw [List.take_succ_eq_append_getElem hk', e, List.map_append, ← List.append_assoc]
        have e2 : (acc ++ List.map (mv acc.length) (List.take m l)).length + 1 = acc.length + m + 1 := by simp; omega
        rw [e2] at h1
        exact h1
      ·obtain rfl : m = l.length := by omega
       have HO2 : Hid (OwnN wr w0.heap.size u11 (acc ++ l.map (mv acc.length))) := hid (by have := HOj.out; rwa [List.take_length] at this)
       clear HOj
       obtain ⟨ao2, c2, hv2, hc2, _⟩ := OwnR.cells HO2.out ndV_size
       have elen : (acc ++ l.map (mv acc.length)).length = acc.length + l.length := by simp
       rw [elen] at hc2 hv2
       subst hv2
       have HEL := hid elen
       clear elen
       by_cases hk0 : k = 0
       ·have hk1 : decide (0 < k) = false := decide_eq_false (by omega)
        have hk2 : decide ((0 : Int) < (k : Int)) = false := decide_eq_false (by omega)
        have HK := hid hk0
        clear hk0
        go_wp2_with fail
        go_roundg (ls.length - (k + 1))
        case measure => omega
        case rel =>
         refine ⟨k + 1, rfl, by omega, by go_num, hid ?_, HEj⟩
         rw [HX.out.1 HK.out]
         have h1 := HO2.out
         have h2 := HZ.out HK.out
         subst h2
         rw [show l.map (mv ([] : List Nd).length) = l from (List.map_congr_left fun n _ => mv_zero n).trans (List.map_id' l), List.nil_append] at h1
         exact h1
       ·have hk1 : decide (0 < k) = true := decide_eq_true (by omega)
        have hk2 : decide ((0 : Int) < (k : Int)) = true := decide_eq_true (by omega)
        have HK := hid hk0
        clear hk0
        have hsl := HEj.out.size
        go_wp2_with (at_builtin; go_must (refine wpList_append_R elem_nd ndV_size ones_ndV HO2 hsl (by rw [HEL.out]; omega) ⟨op, nil8, (acc.length : Int) - 1, ((acc.length + l.length : Nat) : Int) - 1⟩ _ (by simp [ndV, nil8]) _ rfl rfl _ _ rfl rfl rfl ?_); rintro g' cap' v' w4 rfl H1 H2)
        go_roundg (ls.length - (k + 1))
        case measure => omega
        case rel =>
         refine ⟨k + 1, rfl, by omega, by go_num, hid ?_, hid (ext_grown HEj.out H2.out.1 (fun i hi => (HO2.out.lt i hi).1))⟩
         rw [HX.out.2 (by have := HK.out; omega)]
         have h1 := H1.out
         rw [HEL.out] at h1
         exact h1
    ·obtain rfl : k = ls.length := by omega
     go_wp2_with fail
     go_ret2
     exact ⟨_, rfl, by have := HO.out; rwa [List.take_length] at this, HE.out⟩
end Go.Proofs.YtngpjagpeblbjaaGreatDoor
namespace Go.Spy
open Go.RowKit
theorem OwnR.grown {α : Type} {w w' : World} {base : Nat} {e : TypeId} {s : Nat} {f : α → Array Value} {v : Value} {l : List α} (h : OwnR w base e s f v l) {row : Option Nat} (g : w.grownBy w' row) (hr : ∀ k, v.ownBlock = some k → row ≠ some k) : OwnR w' base e s f v l :=
 h.chg ((Chg.refl (fun k => row = some k) w).grown g (fun _ e => e)) hr
theorem chg_grown {S : Nat → Prop} {w wr w4 : World} {row : Option Nat} (h : Chg S w wr) (k : wr.grownBy w4 row) (hr : ∀ i, row = some i → w.heap.size ≤ i) : Chg S w w4 :=
 ⟨k.os.trans h.os, k.tape.trans h.tape, k.output.trans h.output, Nat.le_trans h.size k.size, fun i hi hs => (k.block i (Nat.lt_of_lt_of_le hi h.size) (fun e => by have := hr i e.symm; omega)).trans (h.block i hi hs)⟩
theorem own_apart {α β : Type} {w : World} {B B' : Nat} {e e' : TypeId} {s s' : Nat} {f : α → Array Value} {f' : β → Array Value} {v v' : Value} {l : List α} {l' : List β} (h : OwnR w B e s f v l) (h' : OwnR w B' e' s' f' v' l') (he : e ≠ e') : ∀ k, v.ownBlock = some k → v'.ownBlock ≠ some k := by
 intro k hk hk'
 rcases h.2 with ⟨rfl, _⟩ | ⟨g, cap, cur, rfl, _, hg, _⟩
 ·cases hk
 ·rcases h'.2 with ⟨rfl, _⟩ | ⟨g', cap', cur', rfl, _, hg', _⟩
  ·cases hk'
  ·simp only [Value.ownBlock, Option.some.injEq] at hk hk'
   subst hk hk'
   have := Option.some.inj (hg.symm.trans hg')
   simp only [Obj.cells.injEq] at this
   exact he this.2.1
end Go.Spy
namespace Go.Proofs.YtngpjagpeblbjaaGreatDoor
open Go.RowKit Go.Spy Go.Rx
def slC (x : Option Addr × Nat × Nat) : Array Value := #[.slice x.1 x.2.1 x.2.2]
theorem slC_size (x : Option Addr × Nat × Nat) : (slC x).size = 1 := rfl
theorem ones_slC (x : Option Addr × Nat × Nat) : Ones (slC x) := by
 intro v hv
 simp only [slC, List.mem_toArray, List.mem_cons, List.not_mem_nil, or_false] at hv
 subst hv; rfl
theorem elem_nds : ElemOk Tryz.prog 216 43 1 24 where
 under := Tryz.underlying216
 info := by
  obtain ⟨i, h1, h2, h3, h4⟩ := info_parts (P := Tryz.prog) (e := 43) (z := .slice none 0 0) (size := 1) (bytes := 24) (by kernel_rfl)
  exact ⟨i, _, h1, h2, h3, h4, rfl⟩
 pos := by decide
 small := by decide
abbrev OwnS (w : World) (base : Nat) (v : Value) (vs : List (Option Addr × Nat × Nat)) : Prop := OwnR w base 43 1 slC v vs
def EachN (w : World) (base : Nat) (vs : List (Option Addr × Nat × Nat)) (ls : List (List Nd)) : Prop :=
 vs.length = ls.length ∧ ∀ (i : Nat) (x : Option Addr × Nat × Nat) (l : List Nd), vs[i]? = some x → ls[i]? = some l → x.2.1 = l.length ∧ x.2.1 ≤ x.2.2 ∧ OwnN w base (.slice x.1 x.2.1 x.2.2) l
theorem EachN.nil (w : World) (base : Nat) : EachN w base [] [] := ⟨rfl, fun i x l h => by simp at h⟩
theorem EachN.chg {w w' : World} {base : Nat} {vs : List (Option Addr × Nat × Nat)} {ls : List (List Nd)} (h : EachN w base vs ls) {S : Nat → Prop} (c : Chg S w w') (hS : ∀ k, base ≤ k → ¬ S k) : EachN w' base vs ls :=
 ⟨h.1, fun i x l hx hl => by
  obtain ⟨h1, h2, h3⟩ := h.2 i x l hx hl
  exact ⟨h1, h2, h3.chg c fun k hk => hS k (h3.lt k hk).1⟩⟩
theorem EachN.grown {w w' : World} {base B : Nat} {vs us : List (Option Addr × Nat × Nat)} {ls : List (List Nd)} {v : Value} (h : EachN w base vs ls) (hv : OwnS w B v us) (g : w.grownBy w' v.ownBlock) : EachN w' base vs ls :=
 ⟨h.1, fun i x l hx hl => by
  obtain ⟨h1, h2, h3⟩ := h.2 i x l hx hl
  exact ⟨h1, h2, h3.grown g fun k hk e => own_apart h3 hv (by decide) k hk e⟩⟩
theorem EachN.snoc {w : World} {base : Nat} {vs : List (Option Addr × Nat × Nat)} {ls : List (List Nd)} (h : EachN w base vs ls) {x : Option Addr × Nat × Nat} {l : List Nd} (h1 : x.2.1 = l.length) (h2 : x.2.1 ≤ x.2.2) (h3 : OwnN w base (.slice x.1 x.2.1 x.2.2) l) : EachN w base (vs ++ [x]) (ls ++ [l]) := by
 refine ⟨by simp [h.1], fun i y m hy hm => ?_⟩
 rcases Nat.lt_or_ge i vs.length with k | k
 ·rw [List.getElem?_append_left k] at hy
  rw [List.getElem?_append_left (by rw [← h.1]; exact k)] at hm
  exact h.2 i y m hy hm
 ·rw [List.getElem?_append_right k] at hy
  rw [List.getElem?_append_right (by rw [← h.1]; exact k)] at hm
  have hi : i - vs.length = 0 := by
   have := (List.getElem?_eq_some_iff.1 hy).1
   simp at this; omega
  rw [hi] at hy
  rw [← h.1, hi] at hm
  cases hy; cases hm
  exact ⟨h1, h2, h3⟩
theorem parts_of_each {w : World} {base base' : Nat} {v : Value} {vs : List (Option Addr × Nat × Nat)} {ls : List (List Nd)} (hv : OwnS w base' v vs) (h : EachN w base vs ls) (hg : ∀ l, l ∈ ls → GoodN l ∧ l.length ≤ 1024) : ∃ ao cap, v = .slice ao ls.length cap ∧ PartsV w ao ls := by
 obtain ⟨ao, c, rfl, hc, hcells⟩ := hv.cells slC_size
 rw [h.1] at hcells ⊢
 refine ⟨ao, c, rfl, ⟨fun h0 => ?_⟩⟩
 rcases hcells with e | ⟨g, rfl, _, hlt, cur, hB, _, hk⟩
 ·omega
 ·refine ⟨g, 0, rfl, hlt, fun i l hl => ?_⟩
  have hi : i < ls.length := (List.getElem?_eq_some_iff.1 hl).1
  obtain ⟨x, hx⟩ : ∃ x, vs[i]? = some x := ⟨_, List.getElem?_eq_getElem (by rw [h.1]; exact hi)⟩
  obtain ⟨h1, h2, h3⟩ := h.2 i x l hx hl
  have hm := hg l (List.mem_of_getElem? hl)
  obtain ⟨ao', c', e, hlc, hN, _⟩ := nodes_of_own h3 (by omega) (fun j n hn => by have := (hm.1 n (List.mem_of_getElem? hn)).2.2.2.2; omega)
  simp only [Value.slice.injEq] at e
  obtain ⟨rfl, _, rfl⟩ := e
  refine ⟨x.1, x.2.2, hB.cell ?_, hlc, hN⟩
  have := hk i 0 x hx (by omega)
  rw [Nat.mul_one, Nat.add_zero] at this
  rw [Nat.zero_add, this, ← h1]; rfl
theorem RdW.grown {w w' : World} {b : Nat} {s : ByteArray} {r : List UInt8} (h : RdW w b s r) {row : Option Nat} (g : w.grownBy w' row) (hr : ∀ i, row = some i → b < i) : RdW w' b s r := by
 obtain ⟨j, hB, hA⟩ := h
 exact ⟨j, hB.grown g (fun e => by have := hr b e.symm; omega), hA⟩
theorem RdW.ext {w w' : World} {b : Nat} {s : ByteArray} {r : List UInt8} (h : RdW w b s r) (e : Ext w w') : RdW w' b s r := by
 obtain ⟨j, hB, hA⟩ := h
 exact ⟨j, hB.ext e, hA⟩
theorem fold_call {w : World} {base base' : Nat} {pv : Value} {vs : List (Option Addr × Nat × Nat)} {ls : List (List Nd)} (hv : OwnS w base' pv vs) (h : EachN w base vs ls) (hg : ∀ l, l ∈ ls → GoodN l ∧ l.length ≤ 1024) (h0 : 0 < ls.length) (op nn : Int) (hl : (foldN op ls).length ≤ 1024) :
 Calls Tryz.prog 151 #[.int .i64 op, .int .i64 nn, pv] w (FoldPost op ls w) := by
 obtain ⟨ao, cap, rfl, hP⟩ := parts_of_each hv h hg
 exact fold_any hP h0 (fun l h => (hg l h).1) op nn hl
theorem keep_call {w : World} {b : Nat} {s : ByteArray} {r : List UInt8} {base : Nat} {v : Value} {l : List Nd} (h : RdW w b s r) (hv : OwnN w base v l) (hl : l.length ≤ 1024) :
 Calls Tryz.prog 150 #[.pointer (some ⟨b, 0, none⟩), v, .bool true] w fun e w' => e = .returned v ∧ w = w' := by
 obtain ⟨ao, c, rfl, _, _⟩ := OwnR.cells hv ndV_size
 exact keep_any h hl
def ReadPost (b : Nat) (s : ByteArray) (l : List Nd) (r' : List UInt8) (w : World) (e : Ending) (w' : World) : Prop :=
 ∃ v, e = .returned (.tuple #[v, .bool true]) ∧ OwnN w' w.heap.size v l ∧ RdW w' b s r' ∧ Chg (· = b) w w'
def PartC (f : FuncId) (b : Nat) (s : ByteArray) (P : Part) : Prop := ∀ r l r' w, P r l r' → RdW w b s r → b < w.heap.size → Calls Tryz.prog f #[.pointer (some ⟨b, 0, none⟩)] w (ReadPost b s l r' w)
def PartG (P : Part) : Prop := ∀ r l r', P r l r' → GoodN l ∧ l.length ≤ 1024
def RowRel (c : UInt8) (P : Part) (b : Nat) (s : ByteArray) (ls : List (List Nd)) (r' : List UInt8) (w : World) (g : Nat) (v : Value) (wr : World) : Prop :=
 ∃ ls1 ls2 q vs, ls = ls1 ++ ls2 ∧ g = ls2.length ∧ Parts c P q ls2 r' ∧ RdW wr b s q ∧ OwnS wr w.heap.size v vs ∧ EachN wr w.heap.size vs ls1 ∧ (∀ l, l ∈ ls1 → GoodN l ∧ l.length ≤ 1024) ∧ Chg (· = b) w wr
set_option maxRecDepth 100000 in
set_option maxHeartbeats 2000000 in
theorem row_any {f : FuncId} (hfn : f = 152 ∨ f = 126) {b : Nat} {s : ByteArray} {P : Part} (hf : PartC f b s P) (hG : PartG P) {c : UInt8} (ci : Int) (hc : ci = (c.toNat : Int)) (op nn : Int) {r : List UInt8} {l : List Nd} {r' : List UInt8} (hr : RowOf c op P r l r') {w : World} (hR : RdW w b s r) (hb : b < w.heap.size) (hs : s.size ≤ 1000000) :
 Calls Tryz.prog 125 #[.pointer (some ⟨b, 0, none⟩), .int .u8 ci, .int .i64 op, .int .i64 nn, .func (.func f) #[.pointer (some ⟨b, 0, none⟩)] #[]] w (ReadPost b s l r' w) := by
 obtain ⟨ls, hP, rfl, hl⟩ := hr
 have HF := hid hf
 have HG := hid hG
 have HC := hid hc
 have HR := hid hR
 have HP := hid hP
 have HL := hid hl
 clear hf hG hc hR hP hl
 rcases hfn with rfl | rfl
 all_goals
  go_enter Tryz.func125, Tryz.ntmps125
  go_wp2_with fail
  go_loopg [12] ls.length (fun g v wr => RowRel c P b s ls r' w g v wr)
  case atStart => exact ⟨[], ls, r, [], rfl, rfl, HP.out, HR.out, OwnR.nil _ _ _ _ _, EachN.nil _ _, fun l h => by simp at h, Chg.refl _ _⟩
  case round =>
   obtain ⟨ls1, ls2, q, vs, hls, hg, hP, hR, hO, hE, hgd, hX⟩ := hrel
   have HE := hid hE
   have HO := hid hO
   have HX := hid hX
   have HGD := hid hgd
   have HLS := hid hls
   have HGG := hid hg
   have hsz := hX.size
   have hb2 : b < wr.heap.size := by omega
   clear hE hO hX hgd hls hg
   have hvs : vs.length ≤ 1025 := by
    have h1 := HE.out.1
    have h2 := congrArg List.length HLS.out
    have h3 := HL.out
    rw [List.length_append] at h2
    by_cases h0 : 0 < ls.length
    ·rw [foldN_len op ls h0] at h3; omega
    ·omega
   cases hP with
   | @last _ l q2 hp hm =>
     have hgl := HG.out _ _ _ hp
     have HGL := hid hgl
     have HM := hid hm
     have hcall := HF.out _ _ _ _ hp hR hb2
     have HCALL := hid hcall
     have hgall : ∀ x, x ∈ ls1 ++ [l] → GoodN x ∧ x.length ≤ 1024 := fun x hx => by
      rcases List.mem_append.1 hx with h | h
      ·exact HGD.out x h
      ·simp only [List.mem_cons, List.not_mem_nil, or_false] at h; subst h; exact hgl
     have HGA := hid hgall
     clear hgall
     clear hgl hm hcall hp hR
     go_wp2_with fail
     refine HCALL.out.mono ?_
     rintro e w2 ⟨v, rfl, hO2, hR2, hX2⟩
     obtain ⟨ao, cv, rfl, hcv, _⟩ := OwnR.cells hO2 ndV_size
     have HO2 : Hid (OwnS w2 w.heap.size u12 vs) := hid (HO.out.chg hX2 (fun k hk => by have := (HO.out.lt k hk).1; show ¬ k = b; omega))
     have HE2 : Hid (EachN w2 w.heap.size vs ls1) := hid (HE.out.chg hX2 (fun k hk => by show ¬ k = b; omega))
     have HN2 : Hid (OwnN w2 w.heap.size (.slice ao l.length cv) l) := hid (hO2.lower hsz)
     have HX2 := hid (HX.out.trans hX2)
     have HR2 := hid hR2
     have hsz2 := HX2.out.size
     clear hO2 hR2 hX2
     by_cases hv0 : vs.length = 0
     ·have hq : (((vs.length : Int) + 1) == 1) = true := by simp [hv0]
      have HV := hid hv0
      clear hv0
      go_wp2_with (first
      | (at_builtin; (go_must (refine wpList_append_R elem_nds slC_size ones_slC HO2 hsz2 (by omega) (ao, l.length, cv) _ rfl _ rfl rfl _ _ rfl rfl rfl ?_)); rintro g' cap' v' w4 rfl H1 H2
         have HES : Hid (EachN w4 w.heap.size (vs ++ [(ao, l.length, cv)]) (ls1 ++ [l])) := hid ((HE2.out.grown HO2.out H2.out.1).snoc rfl hcv (HN2.out.grown H2.out.1 (fun k hk e => own_apart HN2.out HO2.out (by decide) k hk e)))
         have HN4 := hid (HN2.out.grown H2.out.1 (fun k hk e => own_apart HN2.out HO2.out (by decide) k hk e))
         have HR4 := hid (HR2.out.grown H2.out.1 (fun i hi => by have := (HO2.out.lt i hi).1; omega))
         have HX4 := hid (chg_grown HX2.out H2.out.1 (fun i hi => (HO2.out.lt i hi).1)))
      | (go_at_call 149
         refine (mark_no HR4.out hs ci HC.out HM.out).mono ?_
         rintro e w5 ⟨rfl, hR5, hX5⟩
         have HR5 := hid hR5
         have HE5 := hid (HES.out.chg hX5 (fun k hk => by show ¬ k = b; omega))
         have HO5 := hid (H1.out.chg hX5 (fun k hk => by have := (H1.out.lt k hk).1; show ¬ k = b; omega))
         have HN5 := hid (HN4.out.chg hX5 (fun k hk => by have := (HN4.out.lt k hk).1; show ¬ k = b; omega))
         have HX5 := hid (HX4.out.trans hX5)
         clear hR5 hX5))
      go_ret2
      have h1 : ls1 = [] := List.length_eq_zero_iff.1 (by rw [← HE.out.1]; exact HV.out)
      refine ⟨_, rfl, ?_, HR5.out, HX5.out⟩
      rw [HLS.out, h1]
      exact HN5.out
     ·have hq : (((vs.length : Int) + 1) == 1) = false := beq_eq_false_iff_ne.2 (by omega)
      clear hv0
      go_wp2_with (first
      | (at_builtin; (go_must (refine wpList_append_R elem_nds slC_size ones_slC HO2 hsz2 (by omega) (ao, l.length, cv) _ rfl _ rfl rfl _ _ rfl rfl rfl ?_)); rintro g' cap' v' w4 rfl H1 H2
         have HES : Hid (EachN w4 w.heap.size (vs ++ [(ao, l.length, cv)]) (ls1 ++ [l])) := hid ((HE2.out.grown HO2.out H2.out.1).snoc rfl hcv (HN2.out.grown H2.out.1 (fun k hk e => own_apart HN2.out HO2.out (by decide) k hk e)))
         have HN4 := hid (HN2.out.grown H2.out.1 (fun k hk e => own_apart HN2.out HO2.out (by decide) k hk e))
         have HR4 := hid (HR2.out.grown H2.out.1 (fun i hi => by have := (HO2.out.lt i hi).1; omega))
         have HX4 := hid (chg_grown HX2.out H2.out.1 (fun i hi => (HO2.out.lt i hi).1)))
      | (go_at_call 149
         refine (mark_no HR4.out hs ci HC.out HM.out).mono ?_
         rintro e w5 ⟨rfl, hR5, hX5⟩
         have HR5 := hid hR5
         have HE5 := hid (HES.out.chg hX5 (fun k hk => by show ¬ k = b; omega))
         have HO5 := hid (H1.out.chg hX5 (fun k hk => by have := (H1.out.lt k hk).1; show ¬ k = b; omega))
         have HN5 := hid (HN4.out.chg hX5 (fun k hk => by have := (HN4.out.lt k hk).1; show ¬ k = b; omega))
         have HX5 := hid (HX4.out.trans hX5)
         clear hR5 hX5)
      | (go_at_call 151
         refine (fold_call HO5.out HE5.out HGA.out (by simp) op nn (by rw [← HLS.out]; exact HL.out)).mono ?_
         rintro e w6 ⟨v6, rfl, hO6, hX6⟩
         have HO6 := hid hO6
         have HR6 := hid (HR5.out.ext hX6)
         have HX6 := hid (HX5.out.ext hX6)
         clear hO6 hX6)
      | (go_at_call 150
         refine (keep_call HR6.out HO6.out (by rw [← HLS.out]; exact HL.out)).mono ?_
         rintro e w7 ⟨rfl, rfl⟩))
      go_ret2
      refine ⟨_, rfl, ?_, HR6.out, HX6.out⟩
      rw [HLS.out]
      exact HO6.out.lower HX5.out.size
   | @more _ l q2 q' ls2' _ hp hm hrest =>
     have hgl := HG.out _ _ _ hp
     have HGL := hid hgl
     have HM := hid hm
     have hcall := HF.out _ _ _ _ hp hR hb2
     have HCALL := hid hcall
     have HREST := hid hrest
     clear hrest
     clear hgl hm hcall hp hR
     go_wp2_with fail
     refine HCALL.out.mono ?_
     rintro e w2 ⟨v, rfl, hO2, hR2, hX2⟩
     obtain ⟨ao, cv, rfl, hcv, _⟩ := OwnR.cells hO2 ndV_size
     have HO2 : Hid (OwnS w2 w.heap.size u12 vs) := hid (HO.out.chg hX2 (fun k hk => by have := (HO.out.lt k hk).1; show ¬ k = b; omega))
     have HE2 : Hid (EachN w2 w.heap.size vs ls1) := hid (HE.out.chg hX2 (fun k hk => by show ¬ k = b; omega))
     have HN2 : Hid (OwnN w2 w.heap.size (.slice ao l.length cv) l) := hid (hO2.lower hsz)
     have HX2 := hid (HX.out.trans hX2)
     have HR2 := hid hR2
     have hsz2 := HX2.out.size
     clear hO2 hR2 hX2
     go_wp2_with (first
      | (at_builtin; (go_must (refine wpList_append_R elem_nds slC_size ones_slC HO2 hsz2 (by omega) (ao, l.length, cv) _ rfl _ rfl rfl _ _ rfl rfl rfl ?_)); rintro g' cap' v' w4 rfl H1 H2
         have HES : Hid (EachN w4 w.heap.size (vs ++ [(ao, l.length, cv)]) (ls1 ++ [l])) := hid ((HE2.out.grown HO2.out H2.out.1).snoc rfl hcv (HN2.out.grown H2.out.1 (fun k hk e => own_apart HN2.out HO2.out (by decide) k hk e)))
         have HN4 := hid (HN2.out.grown H2.out.1 (fun k hk e => own_apart HN2.out HO2.out (by decide) k hk e))
         have HR4 := hid (HR2.out.grown H2.out.1 (fun i hi => by have := (HO2.out.lt i hi).1; omega))
         have HX4 := hid (chg_grown HX2.out H2.out.1 (fun i hi => (HO2.out.lt i hi).1)))
      | (go_at_call 149
         refine (mark_yes HR4.out hs ci HC.out HM.out).mono ?_
         rintro e w5 ⟨rfl, hR5, hX5⟩
         have HR5 := hid hR5
         have HE5 := hid (HES.out.chg hX5 (fun k hk => by show ¬ k = b; omega))
         have HO5 := hid (H1.out.chg hX5 (fun k hk => by have := (H1.out.lt k hk).1; show ¬ k = b; omega))
         have HN5 := hid (HN4.out.chg hX5 (fun k hk => by have := (HN4.out.lt k hk).1; show ¬ k = b; omega))
         have HX5 := hid (HX4.out.trans hX5)
         clear hR5 hX5))
     go_roundg ls2'.length
     case measure => rw [HGG.out]; simp
     case rel =>
      refine ⟨ls1 ++ [l], ls2', q', _, by rw [HLS.out]; simp, rfl, HREST.out, HR5.out, ?_, HE5.out, fun x hx => ?_, HX5.out⟩
      ·exact HO5.out
      ·rcases List.mem_append.1 hx with h | h
       ·exact HGD.out x h
       ·simp only [List.mem_cons, List.not_mem_nil, or_false] at h; subst h; exact HGL.out
end Go.Proofs.YtngpjagpeblbjaaGreatDoor
namespace Go.Proofs.YtngpjagpeblbjaaGreatDoor
open Go.RowKit Go.Spy Go.Rx
theorem good_leaf {n : Nd} (ha : n.a = 0) (hb : n.b = 0) (hs : n.sym.size ≤ 64) : GoodN [n] := by
 intro m hm
 simp only [List.mem_cons, List.not_mem_nil, or_false] at hm
 subst hm
 rw [ha, hb]
 exact ⟨by decide, by simp, by decide, by simp, hs⟩
theorem good_marks {l : List Nd} {r : List UInt8} {l' : List Nd} {r' : List UInt8} (h : Marks l r l' r') (hg : GoodN l ∧ l.length ≤ 1024) : GoodN l' ∧ l'.length ≤ 1024 := by
 induction h with
 | done _ _ _ => exact hg
 | star _ hl _ ih => exact ih ⟨good_many hg.1, by rw [manyL_len]; exact hl⟩
 | opt _ hl _ ih => exact ih ⟨good_two hg.1 (good_leaf rfl rfl (by simp [nd1, nil8, ByteArray.size])), by rw [two_len]; simp; omega⟩
theorem good_item {P : Part} (h : PartG P) : PartG (ItemOf P) := fun _r _l _r' ⟨_l0, _q, h1, h2⟩ => good_marks h2 (h _ _ _ h1)
theorem good_parts {c : UInt8} {P : Part} (hP : PartG P) {r : List UInt8} {ls : List (List Nd)} {r' : List UInt8} (h : Parts c P r ls r') : ∀ l, l ∈ ls → GoodN l := by
 induction h with
 | last hp _ => intro l hl; simp only [List.mem_cons, List.not_mem_nil, or_false] at hl; subst hl; exact (hP _ _ _ hp).1
 | more hp _ _ ih => intro l hl; rcases List.mem_cons.1 hl with rfl | hl; exact (hP _ _ _ hp).1; exact ih l hl
theorem good_row {c : UInt8} {op : Int} {P : Part} (h : PartG P) : PartG (RowOf c op P) := fun r l r' ⟨ls, h1, h2, h3⟩ => ⟨by rw [h2]; exact good_fold (good_parts h h1), h3⟩
theorem parts_two {w : World} {base : Nat} {ao : Option Addr} {c : Nat} {l : List Nd} (h : OwnN w base (.slice ao l.length c) l) (hc : l.length ≤ c) (hg : GoodN l ∧ l.length ≤ 1024) :
 PartsV ((w.alloc (.cells #[.int .i64 1, .string ⟨#[]⟩, .int .i64 0, .int .i64 0] 100)).alloc (.cells #[.slice ao l.length c, .slice (some ⟨w.heap.size, 0, none⟩) 1 1] 43)) (some ⟨w.heap.size + 1, 0, none⟩) [l, [nd1]] where
 cells _ := by
  obtain ⟨ao', c', e, hlc, hN, _⟩ := nodes_of_own h (by omega) (fun j n hn => by have := (hg.1 n (List.mem_of_getElem? hn)).2.2.2.2; omega)
  simp only [Value.slice.injEq] at e
  obtain ⟨rfl, _, rfl⟩ := e
  have e1 : Ext w ((w.alloc (.cells #[.int .i64 1, .string ⟨#[]⟩, .int .i64 0, .int .i64 0] 100)).alloc (.cells #[.slice ao l.length c, .slice (some ⟨w.heap.size, 0, none⟩) 1 1] 43)) := ((Below.refl _ w).alloc (Nat.le_refl _) _).alloc (by simp) _
  have B2 : Blk ((w.alloc (.cells #[.int .i64 1, .string ⟨#[]⟩, .int .i64 0, .int .i64 0] 100)).alloc (.cells #[.slice ao l.length c, .slice (some ⟨w.heap.size, 0, none⟩) 1 1] 43)) (w.heap.size + 1) 43 #[.slice ao l.length c, .slice (some ⟨w.heap.size, 0, none⟩) 1 1] := Blk.new' _ _ _ (by simp)
  have B1 : Blk ((w.alloc (.cells #[.int .i64 1, .string ⟨#[]⟩, .int .i64 0, .int .i64 0] 100)).alloc (.cells #[.slice ao l.length c, .slice (some ⟨w.heap.size, 0, none⟩) 1 1] 43)) w.heap.size 100 #[.int .i64 1, .string ⟨#[]⟩, .int .i64 0, .int .i64 0] := (Blk.new w _ _).alloc _
  refine ⟨w.heap.size + 1, 0, rfl, B2.lt, fun i m hm => ?_⟩
  match i, hm with
  | 0, hm =>
    cases hm
    exact ⟨ao, c, B2.cell rfl, hc, hN.ext e1⟩
  | 1, hm =>
    cases hm
    refine ⟨some ⟨w.heap.size, 0, none⟩, 1, B2.cell rfl, Nat.le_refl _, ⟨by decide, fun j n hn => ?_, fun _ => ⟨w.heap.size, 0, rfl, B1.lt, fun j n hn => ?_⟩⟩⟩
    ·match j, hn with
     | 0, hn => cases hn; simp [nd1, nil8, ByteArray.size]
    ·match j, hn with
     | 0, hn => cases hn; exact ⟨B1.cell rfl, B1.cell rfl, B1.cell rfl, B1.cell rfl⟩
theorem opt_call {w : World} {base : Nat} {ao : Option Addr} {c : Nat} {l : List Nd} (h : OwnN w base (.slice ao l.length c) l) (hc : l.length ≤ c) (hg : GoodN l ∧ l.length ≤ 1024) (hl : l.length + 2 ≤ 1024) :
 Calls Tryz.prog 151 #[.int .i64 4, .int .i64 0, .slice (some ⟨w.heap.size + 1, 0, none⟩) 2 2] ((w.alloc (.cells #[.int .i64 1, .string ⟨#[]⟩, .int .i64 0, .int .i64 0] 100)).alloc (.cells #[.slice ao l.length c, .slice (some ⟨w.heap.size, 0, none⟩) 1 1] 43)) fun e w' =>
  ∃ v, e = .returned (.tuple #[v, .bool true]) ∧ OwnN w' w.heap.size v (two 4 l [nd1]) ∧ Ext w w' := by
 have hgl : ∀ x, x ∈ [l, [nd1]] → GoodN x := fun x hx => by
  simp only [List.mem_cons, List.not_mem_nil, or_false] at hx
  rcases hx with rfl | rfl
  ·exact hg.1
  ·exact good_leaf rfl rfl (by simp [nd1, nil8, ByteArray.size])
 refine (fold_any (cap := 2) (parts_two h hc hg) (by simp) hgl 4 0 (by show (two 4 l [nd1]).length ≤ 1024; rw [two_len]; simp; omega)).mono ?_
 rintro e w' ⟨v, rfl, hO, hX⟩
 refine ⟨v, rfl, hO.lower (by simp; omega), ?_⟩
 exact (((Below.refl _ w).alloc (Nat.le_refl _) _).alloc (by simp) _).trans (hX.mono (by simp; omega))
def ItemRel (b : Nat) (s : ByteArray) (l' : List Nd) (r' : List UInt8) (w : World) (g : Nat) (v : Value) (wr : World) : Prop :=
 ∃ l q, g = q.length ∧ Marks l q l' r' ∧ (GoodN l ∧ l.length ≤ 1024) ∧ RdW wr b s q ∧ OwnN wr w.heap.size v l ∧ Chg (· = b) w wr
theorem chg_own {S S' : Nat → Prop} {w a c : World} (h : Chg S w a) (k : Chg S' a c) (hS : ∀ i, S' i → w.heap.size ≤ i) : Chg S w c :=
 ⟨k.os.trans h.os, k.tape.trans h.tape, k.output.trans h.output, Nat.le_trans h.size k.size, fun i hi hs => (k.block i (Nat.lt_of_lt_of_le hi h.size) (fun e => by have := hS i e; omega)).trans (h.block i hi hs)⟩
theorem sk_lt {r q : List UInt8} {c : UInt8} (h : sk r = c :: q) : q.length < r.length := by
 have h1 := (sk_suffix r).length_le
 rw [h] at h1
 simp only [List.length_cons] at h1
 omega
set_option maxRecDepth 100000 in
set_option maxHeartbeats 2000000 in
theorem item_any {b : Nat} {s : ByteArray} {P : Part} (hf : PartC 163 b s P) (hG : PartG P) (hs : s.size ≤ 1000000) : PartC 152 b s (ItemOf P) := by
 rintro r l r' w ⟨l0, q0, hp, hm⟩ hR hb
 have hcall := hf _ _ _ _ hp hR hb
 have hg0 := hG _ _ _ hp
 have HM := hid hm
 have HG0 := hid hg0
 have HCALL := hid hcall
 clear hcall hf hG hp hm hR hg0
 go_enter Tryz.func152, Tryz.ntmps152
 go_wp2_with fail
 go_step3
 go_wp2_with (go_at_call 163; refine HCALL.out.mono ?_; rintro e w1 ⟨v, rfl, hO, hR, hX⟩; have HO := hid hO; have HR := hid hR; have HX := hid hX; clear hO hR hX)
 go_step3
 go_wp2_with fail
 go_loopg [4] q0.length (fun g v wr => ItemRel b s l r' w g v wr)
 case atStart => exact ⟨l0, q0, rfl, HM.out, HG0.out, HR.out, HO.out, HX.out⟩
 case round =>
  obtain ⟨lx, q, hg, hm, hgd, hR, hO, hX⟩ := hrel
  obtain ⟨ao, cv, rfl, hcv, _⟩ := OwnR.cells hO ndV_size
  have HO := hid hO
  have HX := hid hX
  have HR := hid hR
  have HGG := hid hg
  have hsz := hX.size
  have hlx := hgd.2
  have HGD := hid hgd
  clear hO hX hR hg hgd
  cases hm with
  | done m1 m2 m3 =>
    have M1 := hid m1
    have M2 := hid m2
    have M3 := hid m3
    clear m1 m2 m3
    go_wp2_with fail
    refine (mark_no HR.out hs 42 rfl M1.out).mono ?_
    rintro e w2 ⟨rfl, hR, hX⟩
    have HR2 := hid hR
    have HX2 := hid (HX.out.trans hX)
    have HO2 := hid (HO.out.chg hX (fun k hk => by have := (HO.out.lt k hk).1; show ¬ k = b; omega))
    clear hR hX
    go_wp2_with fail
    refine (mark_no HR2.out hs 43 rfl (by rw [sk_sk]; exact M2.out)).mono ?_
    rintro e w3 ⟨rfl, hR, hX⟩
    rw [sk_sk] at hR
    have HR3 := hid hR
    have HX3 := hid (HX2.out.trans hX)
    have HO3 := hid (HO2.out.chg hX (fun k hk => by have := (HO2.out.lt k hk).1; show ¬ k = b; omega))
    clear hR hX
    go_wp2_with fail
    refine (mark_no HR3.out hs 63 rfl (by rw [sk_sk]; exact M3.out)).mono ?_
    rintro e w4 ⟨rfl, hR, hX⟩
    rw [sk_sk] at hR
    have HR4 := hid hR
    have HX4 := hid (HX3.out.trans hX)
    have HO4 := hid (HO3.out.chg hX (fun k hk => by have := (HO3.out.lt k hk).1; show ¬ k = b; omega))
    clear hR hX
    go_wp2_with fail
    try rw [Exit.noGoto_ret]
    go_ret2
    exact ⟨_, rfl, HO4.out, HR4.out, HX4.out⟩
  | @star _ _ q' _ _ m1 hl hrest =>
    have M1 := hid m1
    have HREST := hid hrest
    clear m1 hrest
    go_wp2_with (first
     | (go_at_call 149
        refine (mark_yes HR.out hs 42 rfl M1.out).mono ?_
        rintro e w2 ⟨rfl, hR, hX⟩
        have HR2 := hid hR
        have HX2 := hid (HX.out.trans hX)
        have HO2 := hid (HO.out.chg hX (fun k hk => by have := (HO.out.lt k hk).1; show ¬ k = b; omega))
        clear hR hX)
     | (go_at_call 164
        refine (many_any HO2.out HX2.out.size (by omega)).mono ?_
        rintro e w3 ⟨v3, rfl, hO, hX⟩
        have HO3 := hid hO
        have HR3 := hid (show RdW w3 b s q' by obtain ⟨j, hB, hA⟩ := HR2.out; exact ⟨j, hB.chg hX (fun e => by have := (HO2.out.lt b e).1; omega), hA⟩)
        have HX3 := hid (chg_own HX2.out hX (fun k e => (HO2.out.lt k e).1))
        clear hO hX)
     | (go_at_call 150
        refine (keep_call HR3.out HO3.out (by rw [manyL_len]; exact hl)).mono ?_
        rintro e w4 ⟨rfl, rfl⟩))
    have hq := sk_lt M1.out
    go_roundg q'.length
    case measure => rw [HGG.out]; exact hq
    case rel => exact ⟨manyL lx, q', rfl, HREST.out, ⟨good_many HGD.out.1, by rw [manyL_len]; exact hl⟩, HR3.out, HO3.out, HX3.out⟩
  | @opt _ _ q' _ _ m1 hl hrest =>
    have M1 := hid m1
    have hno : ∀ c : UInt8, c ≠ 63 → (sk q).head? ≠ some c := fun c hc e => by
     rw [M1.out] at e
     exact hc (Option.some.inj e).symm
    have HNO := hid hno
    have HREST := hid hrest
    clear m1 hrest hno
    go_wp2_with fail
    refine (mark_no HR.out hs 42 rfl (HNO.out 42 (by decide))).mono ?_
    rintro e w2 ⟨rfl, hR, hX⟩
    have HR2 := hid hR
    have HX2 := hid (HX.out.trans hX)
    have HO2 := hid (HO.out.chg hX (fun k hk => by have := (HO.out.lt k hk).1; show ¬ k = b; omega))
    clear hR hX
    go_wp2_with fail
    refine (mark_no HR2.out hs 43 rfl (by rw [sk_sk]; exact HNO.out 43 (by decide))).mono ?_
    rintro e w3 ⟨rfl, hR, hX⟩
    have HR3 := hid hR
    have HX3 := hid (HX2.out.trans hX)
    have HO3 := hid (HO2.out.chg hX (fun k hk => by have := (HO2.out.lt k hk).1; show ¬ k = b; omega))
    clear hR hX
    go_wp2_with fail
    refine (mark_yes HR3.out hs 63 rfl (q := q') (c := 63) (by rw [sk_sk, sk_sk]; exact M1.out)).mono ?_
    rintro e w4 ⟨rfl, hR, hX⟩
    have HR4 := hid hR
    have HX4 := hid (HX3.out.trans hX)
    have HO4 := hid (HO3.out.chg hX (fun k hk => by have := (HO3.out.lt k hk).1; show ¬ k = b; omega))
    have hs4 := HX4.out.size
    clear hR hX
    go_wp2_with (first
     | (go_at_call 151
        refine (opt_call HO4.out hcv HGD.out hl).mono ?_
        rintro e w5 ⟨v5, rfl, hO, hX⟩
        have HO5 := hid (hO.lower hs4)
        have HR5 := hid (HR4.out.ext hX)
        have HX5 := hid (HX4.out.ext hX)
        clear hO hX)
     | (go_at_call 150
        refine (keep_call HR5.out HO5.out (by rw [two_len]; simp; omega)).mono ?_
        rintro e w6 ⟨rfl, rfl⟩))
    have hq := sk_lt M1.out
    go_roundg q'.length
    case measure => rw [HGG.out]; exact hq
    case rel => exact ⟨two 4 lx [nd1], q', rfl, HREST.out, ⟨good_two HGD.out.1 (good_leaf rfl rfl (by simp [nd1, nil8, ByteArray.size])), by rw [two_len]; simp; omega⟩, HR5.out, HO5.out, HX5.out⟩
theorem sequence_any {b : Nat} {s : ByteArray} {P : Part} (hf : PartC 163 b s P) (hG : PartG P) (hs : s.size ≤ 1000000) : PartC 126 b s (SeqOf P) := by
 intro r l r' w hp hR hb
 have H := hid (row_any (.inl rfl) (item_any hf hG hs) (good_item hG) (c := 44) 44 rfl 3 1 hp hR hb hs)
 clear hf hp hR
 go_enter Tryz.func126, Tryz.ntmps126
 go_wp2_with (go_at_call 125; refine H.out.mono ?_; rintro e w1 ⟨v, rfl, hO, hR, hX⟩; have HO := hid hO; have HR := hid hR; have HX := hid hX; clear hO hR hX)
 go_ret2
 exact ⟨_, rfl, HO.out, HR.out, HX.out⟩
theorem expression_any {b : Nat} {s : ByteArray} {P : Part} (hf : PartC 163 b s P) (hG : PartG P) (hs : s.size ≤ 1000000) : PartC 99 b s (ExprOf P) := by
 intro r l r' w hp hR hb
 have H := hid (row_any (.inr rfl) (sequence_any hf hG hs) (good_row (good_item hG)) (c := 124) 124 rfl 4 0 hp hR hb hs)
 clear hf hp hR
 go_enter Tryz.func99, Tryz.ntmps99
 go_wp2_with (go_at_call 125; refine H.out.mono ?_; rintro e w1 ⟨v, rfl, hO, hR, hX⟩; have HO := hid hO; have HR := hid hR; have HX := hid hX; clear hO hR hX)
 go_ret2
 exact ⟨_, rfl, HO.out, HR.out, HX.out⟩
end Go.Proofs.YtngpjagpeblbjaaGreatDoor
