/-
  Walks of the law's Texts and Nodes, and of the reference's Null.
-/
import Derived.Test.YtngpjagpeblbjaaDoorZW17
import Derived.Outline
namespace Go.Proofs.YtngpjagpeblbjaaDoor
open Go.RowKit Go.Spy Go.Rx

theorem str_ne {a b : ByteArray} : (a.toList != b.toList) = !(a.toList == b.toList) := rfl

def SameT (us vs : List ByteArray) : Bool := decide (us = vs)
set_option maxHeartbeats 1000000 in
theorem texts_any {us vs : List ByteArray} {w : World} {a1 a2 : Option Addr} {c1 c2 : Nat} (h1 : StrsV w a1 c1 us) (h2 : StrsV w a2 c2 vs) :
    Calls Tryd.prog 18 #[.slice a1 us.length c1, .slice a2 vs.length c2] w fun e w' => e = .returned (.bool (SameT us vs)) ∧ Ext w w' := by
  have l1 := h1.len
  have l2 := h2.len
  have H1 := hid h1
  have H2 := hid h2
  clear h1 h2
  by_cases hl : us.length = vs.length
  · have tl : ((us.length : Int) != (vs.length : Int)) = false := by simp [hl]
    have HL := hid hl
    clear hl
    go_enter Tryd.func18, Tryd.ntmps18
    go_wp2_with fail
    go_loopg [5] us.length (fun g i wr => ∃ k, g = us.length - k ∧ k ≤ us.length ∧ i = .int .i64 k ∧ Hid (Ext w wr) ∧ Hid (us.take k = vs.take k))
    case atStart => exact ⟨0, rfl, Nat.zero_le _, rfl, hid (Below.refl _ _), hid (by simp)⟩
    case round =>
      obtain ⟨k, rfl, hk, rfl, HE, HA⟩ := hrel
      by_cases hlt : k < us.length
      · have hlt2 : k < vs.length := by have := HL.out; omega
        obtain ⟨b1, o1, rfl, hb1, d1⟩ := (H1.out.ext HE.out).cells (by omega)
        obtain ⟨b2, o2, rfl, hb2, d2⟩ := (H2.out.ext HE.out).cells (by omega)
        have e1 := d1 k hlt
        have e2 := d2 k hlt2
        clear d1 d2
        obtain ⟨x, HXe⟩ : ∃ x, Hid (x = us[k]) := ⟨us[k], hid rfl⟩
        obtain ⟨y, HYe⟩ : ∃ y, Hid (y = vs[k]) := ⟨vs[k], hid rfl⟩
        rw [← HXe.out] at e1
        rw [← HYe.out] at e2
        have hk1 : (k : Int) < (us.length : Int) := by omega
        have hk2 : (k : Int) < (vs.length : Int) := by omega
        by_cases hxy : x = y
        · have t : (x.toList == y.toList) = true := beqB_true hxy
          have HXY := hid hxy
          clear hxy
          go_wp2_with fail
          go_quiet (fail)
          go_wp2_with fail
          go_roundg (us.length - (k + 1))
          case measure => omega
          case rel =>
            refine ⟨k + 1, rfl, by omega, by go_num, hid (ext_drewN HE.out _), hid ?_⟩
            rw [List.take_succ_eq_append_getElem hlt, List.take_succ_eq_append_getElem hlt2, HA.out, ← HXe.out, ← HYe.out, HXY.out]
        · have t : (x.toList == y.toList) = false := beqB_false hxy
          have HXY := hid hxy
          clear hxy
          go_wp2_with fail
          go_quiet (fail)
          go_wp2_with fail
          go_ret
          refine ⟨ret_bool ?_, ext_drewN HE.out _⟩
          symm
          simp only [SameT, decide_eq_false_iff_not]
          intro e
          refine HXY.out ?_
          rw [HXe.out, HYe.out]
          simp [e]
      · obtain rfl : k = us.length := by omega
        go_wp2_with fail
        go_ret
        refine ⟨ret_bool ?_, HE.out⟩
        have := HA.out
        rw [List.take_length, HL.out, List.take_length] at this
        simp [SameT, this]
  · have tl : ((us.length : Int) != (vs.length : Int)) = true := by simp; omega
    have HL := hid hl
    clear hl
    go_enter Tryd.func18, Tryd.ntmps18
    go_wp2_with fail
    go_ret
    refine ⟨ret_bool ?_, Below.refl _ _⟩
    symm
    simp only [SameT, decide_eq_false_iff_not]
    exact fun e => HL.out (by rw [e])

/-- Two slices that read as the same nodes. -/
theorem nodes_same {l : List Nd} {w : World} {a1 a2 : Option Addr} {c1 c2 : Nat} (h1 : NodesV w a1 l) (h2 : NodesV w a2 l) :
    Calls Tryd.prog 17 #[.slice a1 l.length c1, .slice a2 l.length c2] w fun e w' => e = .returned (.bool true) ∧ Ext w w' := by
  have l1 := h1.len
  have H1 := hid h1
  have H2 := hid h2
  clear h1 h2
  go_enter Tryd.func17, Tryd.ntmps17
  go_wp2_with fail
  go_loopg [5] l.length (fun g i wr => ∃ k, g = l.length - k ∧ k ≤ l.length ∧ i = .int .i64 k ∧ Hid (Ext w wr))
  case atStart => exact ⟨0, rfl, Nat.zero_le _, rfl, hid (Below.refl _ _)⟩
  case round =>
    obtain ⟨k, rfl, hk, rfl, HE⟩ := hrel
    by_cases hlt : k < l.length
    · obtain ⟨n, hn⟩ : ∃ n, l[k]? = some n := ⟨_, List.getElem?_eq_getElem hlt⟩
      obtain ⟨b1, o1, rfl, hb1, d1⟩ := (H1.out.ext HE.out).cells (by omega)
      obtain ⟨b2, o2, rfl, hb2, d2⟩ := (H2.out.ext HE.out).cells (by omega)
      obtain ⟨p0, p1, p2, p3⟩ := d1 k n hn
      obtain ⟨q0, q1, q2, q3⟩ := d2 k n hn
      have hk1 : (k : Int) < (l.length : Int) := by omega
      have t0 : (n.op == n.op) = true := by simp
      have t1 : (n.sym.toList == n.sym.toList) = true := by simp
      clear d1 d2 hn
      go_wp2_with fail
      go_quiet (fail)
      go_wp2_with fail
      go_roundg (l.length - (k + 1))
      case measure => omega
      case rel => exact ⟨k + 1, rfl, by omega, by go_num, hid (ext_drewN HE.out _)⟩
    · obtain rfl : k = l.length := by omega
      go_wp2_with fail
      go_ret
      exact ⟨rfl, HE.out⟩

def NullPost (b : Bool) (w : World) (e : Ending) (w' : World) : Prop := e = .returned (.bool b) ∧ Ext w w'

set_option maxRecDepth 100000 in
set_option maxHeartbeats 1000000 in
theorem null_any {l : List Nd} (F : Rx.Form l) (i : Nat) : ∀ (w : World) (ao : Option Addr) (cap : Nat), NodesV w ao l → i < l.length →
    Calls Tryd.prog 14 #[.slice ao l.length cap, .int .i64 i] w fun e w' => NullPost (nullT (tr l i)) w e w' := by
  induction i using Nat.strongRecOn with
  | _ i ih =>
  intro w ao cap hV hi
  obtain ⟨b, off, rfl, hb, hc⟩ := hV.cells (by omega)
  obtain ⟨n, hn⟩ : ∃ n, l[i]? = some n := ⟨_, List.getElem?_eq_getElem hi⟩
  obtain ⟨q0, q1, q2, q3⟩ := hc i n hn
  have hlen := hV.len
  have IH := hid ih
  have HV := hid hV
  clear ih hc hV
  cases F.kind hn with
  | none ho s a b =>
    have HT := hid (tr_none hn ho)
    rw [ho] at q0
    clear ho s a b hn
    go_enter Tryd.func14, Tryd.ntmps14
    go_wp2_with fail
    go_ret
    exact ⟨by rw [HT.out]; rfl, (Below.refl _ _).alloc (Nat.le_refl _) _⟩
  | empty ho s a b =>
    have HT := hid (tr_empty hn ho)
    rw [ho] at q0
    clear ho s a b hn
    go_enter Tryd.func14, Tryd.ntmps14
    go_wp2_with fail
    go_ret
    exact ⟨by rw [HT.out]; rfl, (Below.refl _ _).alloc (Nat.le_refl _) _⟩
  | sym ho a b =>
    have HT := hid (tr_sym hn ho)
    rw [ho] at q0
    clear ho a b hn
    go_enter Tryd.func14, Tryd.ntmps14
    go_wp2_with fail
    go_ret
    exact ⟨by rw [HT.out]; rfl, (Below.refl _ _).alloc (Nat.le_refl _) _⟩
  | star ho s x a b hx =>
    have HT := hid (tr_star hn ho a hx)
    rw [ho] at q0
    clear ho s a b hn
    go_enter Tryd.func14, Tryd.ntmps14
    go_wp2_with fail
    go_ret
    exact ⟨by rw [HT.out]; rfl, (Below.refl _ _).alloc (Nat.le_refl _) _⟩
  | cat ho s x y ha hb' hx hy =>
    have HT := hid (tr_cat hn ho ha hb' hx hy)
    rw [ho] at q0
    rw [ha] at q2
    rw [hb'] at q3
    clear ho s ha hb' hn
    go_enter Tryd.func14, Tryd.ntmps14
    go_wp2_with fail
    refine (IH.out x hx _ _ cap (HV.out.ext ((Below.refl _ w).alloc (Nat.le_refl _) _)) (by omega)).mono ?_
    rintro e w1 ⟨rfl, h1⟩
    have HX1 := hid h1
    have c3 : w1.cell? ⟨w.heap.size, 3, none⟩ = some (.int .i64 y) := ((Blk.new w _ _).ext h1).cell (i := 3) rfl
    have HE1 : Hid (Ext w w1) := hid (((Below.refl _ w).alloc (Nat.le_refl _) _).trans (h1.mono (by simp)))
    clear h1
    cases hA : nullT (tr l x) with
    | false =>
      have HA := hid hA
      clear hA
      go_wp2_with fail
      go_ret
      exact ⟨by rw [HT.out, nullT, HA.out]; rfl, HE1.out⟩
    | true =>
      have HA := hid hA
      clear hA
      go_wp2_with fail
      refine (IH.out y hy _ _ cap (HV.out.ext HE1.out) (by omega)).mono ?_
      rintro e w2 ⟨rfl, h2⟩
      have HX2 := hid h2
      clear h2
      go_wp2_with fail
      go_ret
      exact ⟨by rw [HT.out, nullT, HA.out, Bool.true_and]; rfl, HE1.out.trans (HX2.out.mono HE1.out.size)⟩
  | alt ho s x y ha hb' hx hy =>
    have HT := hid (tr_alt hn ho ha hb' hx hy)
    rw [ho] at q0
    rw [ha] at q2
    rw [hb'] at q3
    clear ho s ha hb' hn
    go_enter Tryd.func14, Tryd.ntmps14
    go_wp2_with fail
    refine (IH.out x hx _ _ cap (HV.out.ext ((Below.refl _ w).alloc (Nat.le_refl _) _)) (by omega)).mono ?_
    rintro e w1 ⟨rfl, h1⟩
    have HX1 := hid h1
    have c3 : w1.cell? ⟨w.heap.size, 3, none⟩ = some (.int .i64 y) := ((Blk.new w _ _).ext h1).cell (i := 3) rfl
    have HE1 : Hid (Ext w w1) := hid (((Below.refl _ w).alloc (Nat.le_refl _) _).trans (h1.mono (by simp)))
    clear h1
    cases hA : nullT (tr l x) with
    | true =>
      have HA := hid hA
      clear hA
      go_wp2_with fail
      go_ret
      exact ⟨by rw [HT.out, nullT, HA.out]; rfl, HE1.out⟩
    | false =>
      have HA := hid hA
      clear hA
      go_wp2_with fail
      refine (IH.out y hy _ _ cap (HV.out.ext HE1.out) (by omega)).mono ?_
      rintro e w2 ⟨rfl, h2⟩
      have HX2 := hid h2
      clear h2
      go_wp2_with fail
      go_ret
      exact ⟨by rw [HT.out, nullT, HA.out, Bool.false_or]; rfl, HE1.out.trans (HX2.out.mono HE1.out.size)⟩

end Go.Proofs.YtngpjagpeblbjaaDoor
