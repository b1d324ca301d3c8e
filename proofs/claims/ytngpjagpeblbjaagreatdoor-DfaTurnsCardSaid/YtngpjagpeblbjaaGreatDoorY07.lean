/-
  Memory of the reference's alike: the table of rows of Bools, the list of least states; cells of an automaton.
  Walk of the reference's alike: of each state the least one that matches the same.
  What the automata of two expressions answer: the facts that the walk of DfaHolds takes.
-/
import Derived.Test.YtngpjagpeblbjaaGreatDoorY06
import Derived.StillTailTactics
import Derived.Test.YtngpjagpeblbjaaGreatDoorY01
import Derived.Deep.RegionLaw
import Derived.Outline
import Derived.Deep.CutBlock
import Derived.Deep.OwnRows
import Derived.BigQuiet
import Derived.Deep.QuietTactic
import Derived.Deep.AppendLies
import Derived.BigRegion
import Derived.Lib.TrailingZeros
import Derived.Deep.Draws
import Derived.Laws.ResultCell
import Derived.Laws.CopyRow
import Derived.Laws.OwnMore
import Derived.StillTail
import Derived.StillTactics
import Derived.OrdersHeld
import Derived.Test.YtngpjagpeblbjaaGreatDoorY02
namespace Go.Proofs.YtngpjagpeblbjaaGreatDoor
open Go.RowKit Go.Spy Go.Heaped Go.Tour Go.Rx
def boolRow (r : List Bool) : Array Value := (r.map Value.bool).toArray
theorem boolRow_set (r : List Bool) (k : Nat) (b : Bool) : (boolRow r).setIfInBounds k (.bool b) = boolRow (r.set k b) := by
 unfold boolRow
 rw [List.map_set]
 simp
theorem boolRow_get {r : List Bool} {k : Nat} {b : Bool} (h : r[k]? = some b) : (boolRow r)[k]? = some (.bool b) := by
 simp [boolRow, h]
theorem madeB (n : Nat) : madeCells (Value.bool false).cells (n * 1) = boolRow (List.replicate n false) := by
 apply Array.ext_getElem?
 intro i
 simp only [madeCells, boolRow, Nat.mul_one]
 by_cases hi : i < n
 ·simp [hi, Value.cells, Nat.mod_one]
 ·simp [hi, Value.cells]
theorem infoM24 : (Tryz.prog.info? 24).map (fun i => (i.zero, i.size, i.bytes)) = some (some (.slice none 0 0), 1, 24) := by kernel_rfl
theorem infoM4 : (Tryz.prog.info? 4).map (fun i => (i.zero, i.size, i.bytes)) = some (some (.bool false), 1, 1) := by kernel_rfl
structure TabT (w wr : World) (bT n : Nat) (gs : List Nat) (T : List (List Bool)) : Prop where
 ext : Ext w wr
 low : w.heap.size ≤ bT
 outer : ∃ cur : Array Value, Blk wr bT 24 cur ∧ cur.size = n ∧ ∀ (i g : Nat), gs[i]? = some g → cur[i]? = some (.slice (some ⟨g, 0, none⟩) n n)
 len : gs.length = T.length
 nd : gs.Nodup
 ge : ∀ g ∈ gs, w.heap.size ≤ g
 rows : ∀ (i g : Nat) (r : List Bool), gs[i]? = some g → T[i]? = some r → Blk wr g 4 (boolRow r)
section
variable {w wr wy : World} {bT n : Nat} {gs : List Nat} {T : List (List Bool)}
theorem TabT.ext' (h : TabT w wr bT n gs T) (e : Ext wr wy) : TabT w wy bT n gs T := by
 obtain ⟨cur, h1, h2, h3⟩ := h.outer
 exact ⟨h.ext.trans (e.mono h.ext.size), h.low, ⟨cur, h1.ext e, h2, h3⟩, h.len, h.nd, h.ge, fun i g r hg hr => (h.rows i g r hg hr).ext e⟩
theorem blk_type_ne {W : World} {g g' t t' : Nat} {A A' : Array Value} (h : Blk W g t A) (h' : Blk W g' t' A') (hne : t ≠ t') : g ≠ g' := by
 rintro rfl
 have := h.symm.trans h'
 simp only [Option.some.injEq, Obj.cells.injEq] at this
 exact hne this.2.1
theorem TabT.at_ {m : Nat} (h : TabT w wr bT n gs T) (hl : T.length = m) (hr : ∀ r ∈ T, r.length = n) {i k : Nat} (hi : i < m) (hk : k < n) :
 ∃ g, gs[i]? = some g ∧ wr.cell? ⟨bT, i, none⟩ = some (.slice (some ⟨g, 0, none⟩) n n) ∧ wr.cell? ⟨g, k, none⟩ = some (.bool (tAt T i k)) ∧ g < wr.heap.size ∧ wr.frozen? ⟨g, k, none⟩ = false := by
 obtain ⟨cur, h1, h2, h3⟩ := h.outer
 obtain ⟨r, r1, r2, r3⟩ := tAt_row hl hr hi hk
 obtain ⟨g, hg⟩ : ∃ g, gs[i]? = some g := ⟨_, List.getElem?_eq_getElem (by rw [h.len, hl]; exact hi)⟩
 have hb := h.rows i g r hg r1
 exact ⟨g, hg, h1.cell (h3 i g hg), hb.cell (boolRow_get r3), hb.lt, hb.frozen k⟩
theorem TabT.blk (h : TabT w wr bT n gs T) {i : Nat} (hi : i < n) : bT < wr.heap.size ∧ wr.frozen? ⟨bT, i, none⟩ = false ∧ ∃ v, wr.cell? ⟨bT, i, none⟩ = some v := by
 obtain ⟨cur, h1, h2, h3⟩ := h.outer
 exact ⟨h1.lt, h1.frozen i, cur[i]'(by omega), h1.cell (Array.getElem?_eq_getElem (by omega))⟩
theorem TabT.put (h : TabT w wr bT n gs T) {i k g : Nat} (hg : gs[i]? = some g) (b : Bool) : TabT w (wr.setCell ⟨g, k, none⟩ (.bool b)) bT n gs (tPut T i k b) := by
 have hi : i < gs.length := (List.getElem?_eq_some_iff.1 hg).1
 obtain ⟨r0, hT⟩ : ∃ r, T[i]? = some r := ⟨_, List.getElem?_eq_getElem (by rw [← h.len]; exact hi)⟩
 have hb := h.rows i g _ hg hT
 have c : Chg (fun k => k = g) wr (wr.setCell ⟨g, k, none⟩ (.bool b)) := (Chg.refl (fun k => k = g) wr).setCell (p := ⟨g, k, none⟩) rfl _
 obtain ⟨cur, h1, h2, h3⟩ := h.outer
 have hgm := h.ge g (List.mem_of_getElem? hg)
 refine ⟨ext_chg h.ext c (fun k e => e ▸ hgm), h.low, ⟨cur, h1.chg c (blk_type_ne h1 hb (by decide)), h2, h3⟩, by rw [tPut_len]; exact h.len, h.nd, h.ge, fun i' g' r' hg' hr' => ?_⟩
 unfold tPut at hr'
 by_cases e : i' = i
 ·subst e
  rw [hg] at hg'
  cases hg'
  rw [List.getElem?_set_self (by rw [← h.len]; exact hi), hT, Option.getD_some] at hr'
  cases hr'
  rw [← boolRow_set]
  exact hb.set k _
 ·rw [List.getElem?_set_ne (fun e' => e e'.symm)] at hr'
  refine (h.rows i' g' r' hg' hr').chg c fun e' => ?_
  subst e'
  exact e ((List.getElem?_inj (List.getElem?_eq_some_iff.1 hg').1 h.nd).1 (hg'.trans hg.symm))
theorem TabT.push (h : TabT w wr bT n gs T) (hT : T.length < n) :
 TabT w ((wr.setCell ⟨bT, T.length, none⟩ (.slice (some ⟨wr.heap.size, 0, none⟩) n n)).alloc (.cells (boolRow (List.replicate n false)) 4)) bT n (gs ++ [wr.heap.size]) (T ++ [List.replicate n false]) := by
 obtain ⟨cur, h1, h2, h3⟩ := h.outer
 have c : Chg (fun k => k = bT) wr (wr.setCell ⟨bT, T.length, none⟩ (.slice (some ⟨wr.heap.size, 0, none⟩) n n)) := (Chg.refl (fun k => k = bT) wr).setCell (p := ⟨bT, T.length, none⟩) rfl _
 have e1 : Ext (wr.setCell ⟨bT, T.length, none⟩ (.slice (some ⟨wr.heap.size, 0, none⟩) n n)) ((wr.setCell ⟨bT, T.length, none⟩ (.slice (some ⟨wr.heap.size, 0, none⟩) n n)).alloc (.cells (boolRow (List.replicate n false)) 4)) := (Below.refl _ _).alloc (Nat.le_refl _) _
 have hN : Blk ((wr.setCell ⟨bT, T.length, none⟩ (.slice (some ⟨wr.heap.size, 0, none⟩) n n)).alloc (.cells (boolRow (List.replicate n false)) 4)) wr.heap.size 4 (boolRow (List.replicate n false)) := Blk.new' _ _ _ (by simp)
 have e2 : Ext w (wr.setCell ⟨bT, T.length, none⟩ (.slice (some ⟨wr.heap.size, 0, none⟩) n n)) := ext_chg h.ext c (fun k e => e ▸ h.low)
 refine ⟨e2.trans (e1.mono e2.size), h.low, ⟨_, (h1.set T.length (.slice (some ⟨wr.heap.size, 0, none⟩) n n)).ext e1, by rw [Array.size_setIfInBounds]; exact h2, fun i g hg => ?_⟩, by simp [h.len], ?_, fun g hg => ?_, fun i g r hg hr => ?_⟩
 ·rcases snoc_one hg with ⟨hi, hg⟩ | ⟨rfl, rfl⟩
  ·rw [Array.getElem?_setIfInBounds_ne (by rw [← h.len]; omega)]
   exact h3 i g hg
  ·rw [h.len, Array.getElem?_setIfInBounds_self_of_lt (by omega)]
 ·refine List.nodup_append.2 ⟨h.nd, by simp, fun a ha b hb => ?_⟩
  rw [List.mem_singleton.1 hb]
  obtain ⟨i, hi⟩ := List.getElem?_of_mem ha
  have hlt := (h.rows i a _ hi (List.getElem?_eq_getElem (by rw [← h.len]; exact (List.getElem?_eq_some_iff.1 hi).1))).lt
  omega
 ·rcases List.mem_append.1 hg with hg | hg
  ·exact h.ge g hg
  ·rw [List.mem_singleton.1 hg]; exact h.ext.size
 ·rcases snoc_at h.len hg hr with ⟨hg, hr⟩ | ⟨rfl, rfl⟩
  ·exact ((h.rows i g r hg hr).chg c (blk_type_ne (h.rows i g r hg hr) h1 (by decide))).ext e1
  ·exact hN
theorem TabT.start {M : Array Value} (hM : M.size = n) : TabT w (w.alloc (.cells M 24)) w.heap.size n [] [] :=
 ⟨(Below.refl _ _).alloc (Nat.le_refl _) _, Nat.le_refl _, ⟨M, Blk.new _ _ _, hM, fun i g h => (by cases h)⟩, rfl, List.nodup_nil, fun g h => (by cases h), fun i g r h => (by cases h)⟩
end
section
variable {w : World} {aoS aoN aoF : Option Addr} {n1 n2 n3 cS cN cF : Nat} {A : DA}
theorem DfaW.nextN (h : DfaW w (.agg #[.slice aoS n1 cS, .slice aoN n2 cN, .slice aoF n3 cF]) A) {s c : Nat} (hs : s < n2) (hc : c < n1) : ∃ gN oN g off cc, aoN = some ⟨gN, oN, none⟩ ∧ w.cell? ⟨gN, oN + s, none⟩ = some (.slice (some ⟨g, off, none⟩) n1 cc) ∧ w.cell? ⟨g, off + c, none⟩ = some (.int .i64 (stepD A s c : Nat)) := by
 obtain ⟨gN, oN, g, off, cc, h1, h2, h3⟩ := h.nextC hs hc
 have hc2 : c < A.syms.length := by rw [← h.lens.1]; exact hc
 have e : goS A (s : Int) (symAt A.syms c) = (stepD A s c : Nat) := goS_at h.well.rising.nodup (by rw [symAt_some hc2]; exact List.getElem?_eq_getElem hc2) s
 rw [e] at h3
 exact ⟨gN, oN, g, off, cc, h1, h2, h3⟩
theorem DfaW.finN (h : DfaW w (.agg #[.slice aoS n1 cS, .slice aoN n2 cN, .slice aoF n3 cF]) A) {s : Nat} (hs : s < n2) : ∃ g off, aoF = some ⟨g, off, none⟩ ∧ w.cell? ⟨g, off + s, none⟩ = some (.bool (finD A s)) := by
 obtain ⟨g, off, h1, h2⟩ := h.finC hs
 have e : finS A (s : Int) = finD A s := by unfold finS; simp
 rw [e] at h2
 exact ⟨g, off, h1, h2⟩
end
end Go.Proofs.YtngpjagpeblbjaaGreatDoor
namespace Go.Proofs.YtngpjagpeblbjaaGreatDoor
open Go.RowKit Go.Spy Go.Heaped Go.Tour Go.Rx
def AlikePost (A : DA) (n : Nat) (w : World) (e : Ending) (w' : World) : Prop := ∃ g O, e = .returned (.slice (some ⟨g, 0, none⟩) n n) ∧ Hid (Blk w' g 3 (natRow O) ∧ LeastI A O) ∧ w.heap.size ≤ g ∧ Ext w w'
structure OutW (wo wz : World) (bO : Nat) (O : List Nat) : Prop where
 ext : Ext wo wz
 low : wo.heap.size ≤ bO
 blk : Blk wz bO 3 (natRow O)
theorem OutW.set {wo wz : World} {bO : Nat} {O : List Nat} (h : OutW wo wz bO O) (s x : Nat) : OutW wo (wz.setCell ⟨bO, s, none⟩ (.int .i64 (x : Nat))) bO (O.set s x) := by
 have c : Chg (fun k => k = bO) wz (wz.setCell ⟨bO, s, none⟩ (.int .i64 (x : Nat))) := (Chg.refl (fun k => k = bO) wz).setCell (p := ⟨bO, s, none⟩) rfl _
 refine ⟨ext_chg h.ext c (fun k e => e ▸ h.low), h.low, ?_⟩
 rw [← natRow_set]
 exact h.blk.set s _
theorem OutW.ext' {wo wz wy : World} {bO : Nat} {O : List Nat} (h : OutW wo wz bO O) (e : Ext wz wy) : OutW wo wy bO O := ⟨h.ext.trans (e.mono h.ext.size), h.low, h.blk.ext e⟩
theorem ext_drew1 (w : World) : Ext w w.drew := (Below.refl w.heap.size w).drew
set_option maxRecDepth 100000 in
set_option maxHeartbeats 8000000 in
theorem alike_any {w : World} {A : DA} {aoS aoN aoF : Option Addr} {n1 n2 n3 cS cN cF : Nat} (hA : DfaW w (.agg #[.slice aoS n1 cS, .slice aoN n2 cN, .slice aoF n3 cF]) A) :
 Calls Tryz.prog 95 #[.agg #[.slice aoS n1 cS, .slice aoN n2 cN, .slice aoF n3 cF]] w (AlikePost A n2 w) := by
 have HA := hid hA
 have HL := hid hA.lens
 have hn1 : n1 ≤ 1000 := by rw [hA.lens.1]; exact hA.bnd.s
 have hn2 : n2 ≤ 256 := by rw [hA.lens.2.1]; exact hA.well.most
 have h32 : n3 = n2 := by rw [hA.lens.2.2, hA.lens.2.1]
 subst h32
 have HW := hid hA.well
 obtain ⟨W1, hW1⟩ : ∃ u, u = w.alloc (.cells #[.slice aoS n1 cS, .slice aoN n3 cN, .slice aoF n3 cF] 40) := ⟨_, rfl⟩
 have HE1 : Hid (Ext w W1) := hid (hW1 ▸ (Below.refl _ _).alloc (Nat.le_refl _) _)
 have HB1 : Hid (Blk W1 w.heap.size 40 #[.slice aoS n1 cS, .slice aoN n3 cN, .slice aoF n3 cF]) := hid (hW1 ▸ Blk.new _ _ _)
 have HW1 := hid hW1
 have c0 : W1.cell? ⟨w.heap.size, 1, none⟩ = some (.slice aoN n3 cN) := HB1.out.cell (i := 1) rfl
 have l0 := HB1.out.lt
 clear hA hW1
 go_enter Tryz.func95, Tryz.ntmps95
 go_wp2_with (first
  | (with_reducible show wpList _ _ _ ((⟨_, Op.makeSlice _ _ _, _, _, _, _⟩ : Oper) :: _) _ _
     rw [← HW1.out]
     go_loud (refine wpList_makeR rfl 188 (.tmp 16) (.tmp 16) rfl 24 _ 1 24 Tryz.underlying188 infoM24 n3 rfl rfl (by omega) (by omega) _ rfl ?_)))
 go_loopg [5] n3 (fun g u wr => ∃ (i : Nat) (gs : List Nat) (T : List (List Bool)), g = n3 - i ∧ i ≤ n3 ∧ u = .int .i64 i ∧ Hid (TabT W1 wr W1.heap.size n3 gs T ∧ FillI A T i A.next.length))
 case atStart => exact ⟨0, [], [], rfl, Nat.zero_le _, rfl, hid ⟨TabT.start (by simp [madeCells]), FillI.start _ _⟩⟩
 case round =>
  obtain ⟨i, gs, T, rfl, hi, rfl, HT⟩ := hrel
  obtain ⟨wo, hwo⟩ : ∃ x, x = wr := ⟨_, rfl⟩
  subst hwo
  clear c0 l0
  by_cases hlt : i < n3
  ·obtain ⟨lT, fT, v0, cT⟩ := HT.out.1.blk hlt
   have i1 : (i : Int) < (n3 : Int) := by omega
   go_wp2_with (first
    | (with_reducible show wpList _ _ _ ((⟨_, Op.makeSlice _ _ _, _, _, _, _⟩ : Oper) :: _) _ _
       go_loud (refine wpList_makeR rfl 24 (.tmp 25) (.tmp 25) rfl 4 _ 1 1 Tryz.underlying24 infoM4 n3 rfl rfl (by omega) (by omega) _ (madeB n3) ?_)))
   go_loopg [6] n3 (fun g u wy => ∃ (k : Nat) (gs' : List Nat) (T' : List (List Bool)), g = n3 - k ∧ k ≤ n3 ∧ u = .int .i64 k ∧ Hid (TabT W1 wy W1.heap.size n3 gs' T' ∧ FillI A T' (i + 1) k))
   case atStart =>
    have hp := HT.out.1.push (by rw [HT.out.2.len]; exact hlt)
    have hf := HT.out.2.push
    rw [HT.out.2.len] at hp
    rw [← HL.out.2.1] at hf
    exact ⟨0, _, _, rfl, Nat.zero_le _, rfl, hid ⟨hp, hf⟩⟩
   case round =>
    obtain ⟨k, gs', T', rfl, hk, rfl, HT2⟩ := hrel
    clear lT fT cT
    by_cases hkl : k < n3
    ·obtain ⟨g, hg, c1, c2, lg, fg⟩ := HT2.out.1.at_ HT2.out.2.len (by rw [HL.out.2.1]; exact HT2.out.2.row) (Nat.lt_succ_self i) hkl
     have HX := hid (HE1.out.trans (HT2.out.1.ext.mono HE1.out.size))
     have a2 : wr.cell? ⟨w.heap.size, 2, none⟩ = some (.slice aoF n3 cF) := (HB1.out.ext HT2.out.1.ext).cell (i := 2) rfl
     have la := (HB1.out.ext HT2.out.1.ext).lt
     obtain ⟨gF, oF, rfl, c3⟩ := (HA.out.ext HX.out).finN hlt
     obtain ⟨gF', oF', e, c4⟩ := (HA.out.ext HX.out).finN hkl
     simp only [Option.some.injEq, Addr.mk.injEq, and_true] at e
     obtain ⟨rfl, rfl⟩ := e
     have lT := (HT2.out.1.blk hlt).1
     obtain ⟨fi, hfi⟩ : ∃ b, b = finD A i := ⟨_, rfl⟩
     obtain ⟨fk, hfk⟩ : ∃ b, b = finD A k := ⟨_, rfl⟩
     rw [← hfi] at c3
     rw [← hfk] at c4
     have HFI := hid hfi
     have HFK := hid hfk
     have HG := hid hg
     have i2 : (k : Int) < (n3 : Int) := by omega
     have i3 : (0 : Int) ≤ (i : Int) := by omega
     have i4 : (0 : Int) ≤ (k : Int) := by omega
     clear hfi hfk hg
     go_wp2_with fail
     go_still_tail 17, (by kernel_rfl)
     change wpList _ _ _ _ _ wr.drew
     go_wp2_with fail
     go_roundg (n3 - (k + 1))
     case measure => omega
     case rel =>
      refine ⟨k + 1, gs', tPut T' i k (fi != fk), rfl, by omega, by go_num, hid ⟨(HT2.out.1.ext' (ext_drew1 wr)).put HG.out _, ?_⟩⟩
      rw [HFI.out, HFK.out]
      exact HT2.out.2.put (by rw [← HL.out.2.1]; exact hkl)
    ·obtain rfl : n3 = k := by omega
     go_wp2_with fail
     go_roundg (n3 - (i + 1))
     case measure => omega
     case rel =>
      exact ⟨i + 1, gs', T', rfl, by omega, by go_num, hid ⟨HT2.out.1, by rw [← HL.out.2.1]; exact HT2.out.2⟩⟩
  ·obtain rfl : n3 = i := by omega
   have HAP : Hid (ApartI A T) := hid (by
    have h := HT.out.2
    rw [HL.out.2.1] at h
    exact h.apart)
   have HTB := hid HT.out.1
   go_wp2_with fail
   go_loopg [7] (cntT n3 T + 1) (fun g u wy => ∃ (T' : List (List Bool)) (tu : Bool), g = (if tu = true then cntT n3 T' + 1 else 0) ∧ u = .bool tu ∧ Hid (TabT W1 wy W1.heap.size n3 gs T' ∧ ApartI A T' ∧ (tu = false → ∀ a b, a < A.next.length → b < A.next.length → CloT A T' a b)))
   case atStart => exact ⟨T, true, rfl, rfl, hid ⟨HTB.out, HAP.out, fun e => by cases e⟩⟩
   case round =>
    obtain ⟨T1, tu, rfl, rfl, HT3⟩ := hrel
    obtain ⟨w3, hw3⟩ : ∃ x, x = wr := ⟨_, rfl⟩
    subst hw3
    cases tu with
    | false =>
      have HEQ : Hid (∀ a b, a < A.next.length → b < A.next.length → (tAt T1 a b = false ↔ langAt A a = langAt A b)) := hid fun a b ha hb => apart_end HT3.out.2.1 HW.out.ok (HT3.out.2.2 rfl) ha hb
      go_wp2_with (first
       | (with_reducible show wpList _ _ _ ((⟨_, Op.makeSlice _ _ _, _, _, _, _⟩ : Oper) :: _) _ _
          go_loud (refine wpList_makeR rfl 46 (.tmp 105) (.tmp 105) rfl 3 _ 1 8 Tryz.underlying46 infoM3 n3 rfl rfl (by omega) (by omega) _ (madeI n3) ?_)))
      go_loopg [12] n3 (fun g u wz => ∃ (s : Nat) (O : List Nat), g = n3 - s ∧ s ≤ n3 ∧ u = .int .i64 s ∧ Hid (OutW w3 wz w3.heap.size O ∧ LeastK T1 n3 O s))
      case atStart => exact ⟨0, List.replicate n3 0, rfl, Nat.zero_le _, rfl, hid ⟨⟨(Below.refl _ _).alloc (Nat.le_refl _) _, Nat.le_refl _, Blk.new _ _ _⟩, LeastK.start T1 n3⟩⟩
      case round =>
       obtain ⟨s, O, rfl, hs, rfl, HO⟩ := hrel
       by_cases hsl : s < n3
       ·go_wp2_with fail
        go_loopg [] (n3 - at0 O s) (fun g wz => ∃ (O : List Nat), g = n3 - at0 O s ∧ Hid (OutW w3 wz w3.heap.size O ∧ LeastK T1 n3 O s))
        case atStart => exact ⟨O, rfl, HO⟩
        case round =>
         obtain ⟨O2, rfl, HO2⟩ := hrel
         obtain ⟨v, hv⟩ : ∃ v, v = at0 O2 s := ⟨_, rfl⟩
         have hvs : v ≤ s := by rw [hv]; exact HO2.out.2.now.1
         have hsO : s < O2.length := by rw [HO2.out.2.len]; exact hsl
         have o1 : wr.cell? ⟨w3.heap.size, s, none⟩ = some (.int .i64 v) := by rw [hv]; exact HO2.out.1.blk.cell (natRow_get (at0_some hsO))
         have lo := HO2.out.1.blk.lt
         have fo := HO2.out.1.blk.frozen
         have HTW := hid (HT3.out.1.ext' HO2.out.1.ext)
         have HR : Hid (∀ r ∈ T1, r.length = n3) := hid (by rw [HL.out.2.1]; exact HT3.out.2.1.row)
         have HTL : Hid (T1.length = n3) := hid (by rw [HL.out.2.1]; exact HT3.out.2.1.len)
         obtain ⟨g, hg, c1, c2, lg, fg⟩ := HTW.out.at_ HTL.out HR.out hsl (show v < n3 by omega)
         have lT := (HTW.out.blk hsl).1
         obtain ⟨t, ht⟩ : ∃ b, b = tAt T1 s v := ⟨_, rfl⟩
         rw [← ht] at c2
         have HV := hid hv
         have HTT := hid ht
         have i1 : (s : Int) < (n3 : Int) := by omega
         have i2 : (0 : Int) ≤ (s : Int) := by omega
         have i3 : (v : Int) < (n3 : Int) := by omega
         have i4 : (0 : Int) ≤ (v : Int) := by omega
         clear hv ht hg
         cases t with
         | true =>
           have hm := HO2.out.2.more hsl (by
            have hss : s < A.next.length := by rw [← HL.out.2.1]; exact hsl
            exact (HEQ.out s s hss hss).2 rfl) (by rw [← HV.out]; exact HTT.out.symm)
           rw [← HV.out] at hm
           have HM := hid hm
           clear hm
           go_wp2_with fail
           go_quiet (fail)
           go_wp2_with fail
           go_roundg (n3 - (v + 1))
           case measure =>
            have := HV.out
            omega
           case rel =>
            refine ⟨O2.set s (v + 1), ?_, hid ⟨(HO2.out.1.ext' (ext_drewN (Below.refl _ _) _)).set s (v + 1), HM.out.1⟩⟩
            rw [at0_set hsO, if_pos rfl]
         | false =>
           go_wp2_with fail
           go_quiet (fail)
           go_wp2_with fail
           go_roundg (n3 - (s + 1))
           case measure => omega
           case rel =>
            exact ⟨s + 1, O2, rfl, by omega, by go_num, hid ⟨HO2.out.1.ext' (ext_drewN (Below.refl _ _) _), HO2.out.2.next (by rw [← HV.out]; exact HTT.out.symm)⟩⟩
       ·obtain rfl : n3 = s := by omega
        go_wp2_with fail
        go_ret
        refine ⟨_, O, rfl, hid ⟨HO.out.1.blk, LeastK.end_ ?_ HEQ.out⟩, Nat.le_trans HE1.out.size HT3.out.1.ext.size, HE1.out.trans ((HT3.out.1.ext.trans (HO.out.1.ext.mono HT3.out.1.ext.size)).mono HE1.out.size)⟩
        rw [← HL.out.2.1]
        exact HO.out.2
    | true =>
      go_wp2_with fail
      go_loopg [7, 8] n3 (fun g u7 u8 wy => ∃ (i : Nat) (T' : List (List Bool)) (tu : Bool), g = n3 - i ∧ i ≤ n3 ∧ u7 = .bool tu ∧ u8 = .int .i64 i ∧ Hid (TabT W1 wy W1.heap.size n3 gs T' ∧ RoundI A T1 T' tu (fun a b => a < i ∧ b < A.next.length)))
      case atStart => exact ⟨0, T1, false, rfl, Nat.zero_le _, rfl, rfl, hid ⟨HT3.out.1, ⟨HT3.out.2.1, fun e => (by cases e), fun _ => ⟨rfl, fun i k h => absurd h.1 (Nat.not_lt_zero i)⟩⟩⟩⟩
      case round =>
       obtain ⟨i, T2, tu2, rfl, hi2, rfl, rfl, HT4⟩ := hrel
       by_cases hlt2 : i < n3
       ·go_wp2_with fail
        go_loopg [7, 9] n3 (fun g u7 u9 wy => ∃ (k : Nat) (T' : List (List Bool)) (tu : Bool), g = n3 - k ∧ k ≤ n3 ∧ u7 = .bool tu ∧ u9 = .int .i64 k ∧ Hid (TabT W1 wy W1.heap.size n3 gs T' ∧ RoundI A T1 T' tu (fun a b => (a < i ∧ b < A.next.length) ∨ (a = i ∧ b < k))))
        case atStart => exact ⟨0, T2, tu2, rfl, Nat.zero_le _, rfl, rfl, hid ⟨HT4.out.1, HT4.out.2.see fun _ a b h => by
         rcases h with h | h
         ·exact .inl h
         ·exact absurd h.2 (Nat.not_lt_zero b)⟩⟩
        case round =>
         obtain ⟨k, T3, tu3, rfl, hk3, rfl, rfl, HT5⟩ := hrel
         by_cases hlt3 : k < n3
         ·go_wp2_with fail
          go_loopg [7, 10] n1 (fun g u7 u10 wy => ∃ (s : Nat) (T' : List (List Bool)) (tu : Bool), g = n1 - s ∧ s ≤ n1 ∧ u7 = .bool tu ∧ u10 = .int .i64 s ∧ Hid (TabT W1 wy W1.heap.size n3 gs T' ∧ RoundI A T1 T' tu (fun a b => (a < i ∧ b < A.next.length) ∨ (a = i ∧ b < k)) ∧ (tAt T' i k = true ∨ ∀ c, c < s → tAt T' (stepD A i c) (stepD A k c) = false)))
          case atStart => exact ⟨0, T3, tu3, rfl, Nat.zero_le _, rfl, rfl, hid ⟨HT5.out.1, HT5.out.2, .inr fun c h => absurd h (Nat.not_lt_zero c)⟩⟩
          case round =>
           obtain ⟨s, T4, tu4, rfl, hs4, rfl, rfl, HT6⟩ := hrel
           have HR : Hid (∀ r ∈ T4, r.length = n3) := hid (by rw [HL.out.2.1]; exact HT6.out.2.1.apart.row)
           have HTL : Hid (T4.length = n3) := hid (by rw [HL.out.2.1]; exact HT6.out.2.1.apart.len)
           have HX := hid (HE1.out.trans (HT6.out.1.ext.mono HE1.out.size))
           have a0 : wr.cell? ⟨w.heap.size, 0, none⟩ = some (.slice aoS n1 cS) := (HB1.out.ext HT6.out.1.ext).cell (i := 0) rfl
           have la := (HB1.out.ext HT6.out.1.ext).lt
           obtain ⟨g, hg, c1, c2, lg, fg⟩ := HT6.out.1.at_ HTL.out HR.out hlt2 hlt3
           have lT := (HT6.out.1.blk hlt2).1
           obtain ⟨t, ht⟩ : ∃ b, b = tAt T4 i k := ⟨_, rfl⟩
           rw [← ht] at c2
           have HTT := hid ht
           have HG := hid hg
           clear ht hg
           by_cases hsl : s < n1
           ·have q1 : decide (s < n1) = true := decide_eq_true hsl
            have q2 : decide ((s : Int) < (n1 : Int)) = true := decide_eq_true (by omega)
            cases t with
            | true =>
              go_wp2_with fail
              go_roundg (n3 - (k + 1))
              case measure => omega
              case rel => exact ⟨k + 1, T4, tu4, rfl, by omega, rfl, by go_num, hid ⟨HT6.out.1, HT6.out.2.1.see fun _ a b h => by
               rcases h with h | ⟨rfl, h⟩
               ·exact .inl (.inl h)
               ·by_cases e : b = k
                ·subst e; exact .inr fun c _ _ => HTT.out.symm
                ·exact .inl (.inr ⟨rfl, by omega⟩)⟩⟩
            | false =>
              have a1 : wr.cell? ⟨w.heap.size, 1, none⟩ = some (.slice aoN n3 cN) := (HB1.out.ext HT6.out.1.ext).cell (i := 1) rfl
              obtain ⟨gN, oN, g1, o1, cc1, rfl, d1, d2⟩ := (HA.out.ext HX.out).nextN hlt2 hsl
              obtain ⟨gN', oN', g2, o2, cc2, e, d3, d4⟩ := (HA.out.ext HX.out).nextN hlt3 hsl
              simp only [Option.some.injEq, Addr.mk.injEq, and_true] at e
              obtain ⟨rfl, rfl⟩ := e
              obtain ⟨p, hp⟩ : ∃ p, p = stepD A i s := ⟨_, rfl⟩
              obtain ⟨q, hq⟩ : ∃ p, p = stepD A k s := ⟨_, rfl⟩
              have hp3 : p < n3 := by rw [hp, HL.out.2.1]; exact HW.out.ok.step i s
              have hq3 : q < n3 := by rw [hq, HL.out.2.1]; exact HW.out.ok.step k s
              rw [← hp] at d2
              rw [← hq] at d4
              obtain ⟨g', hg', c3, c4, lg', -⟩ := HT6.out.1.at_ HTL.out HR.out hp3 hq3
              obtain ⟨b, hb⟩ : ∃ b, b = tAt T4 p q := ⟨_, rfl⟩
              rw [← hb] at c4
              have HP := hid hp
              have HQ := hid hq
              have HB := hid hb
              have i1 : (i : Int) < (n3 : Int) := by omega
              have i2 : (k : Int) < (n3 : Int) := by omega
              have i3 : (0 : Int) ≤ (i : Int) := by omega
              have i4 : (0 : Int) ≤ (k : Int) := by omega
              have i5 : (s : Int) < (n1 : Int) := by omega
              have i6 : (0 : Int) ≤ (s : Int) := by omega
              have i7 : (p : Int) < (n3 : Int) := by omega
              have i8 : (0 : Int) ≤ (p : Int) := by omega
              have i9 : (q : Int) < (n3 : Int) := by omega
              have i10 : (0 : Int) ≤ (q : Int) := by omega
              clear hp hq hb hg'
              cases b with
              | true =>
                go_wp2_with fail
                go_quiet (fail)
                go_wp2_with fail
                go_roundg (n1 - (s + 1))
                case measure => omega
                case rel =>
                 have hR := HT6.out.2.1.turn HW.out.ok (i := i) (k := k) (c := s) (by rw [← HL.out.2.1]; exact hlt2) (by rw [← HL.out.2.1]; exact hlt3) (by rw [← HL.out.1]; exact hsl) (by rw [← HP.out, ← HQ.out]; exact HB.out.symm) HTT.out.symm (fun a b => (a < i ∧ b < A.next.length) ∨ (a = i ∧ b < k))
                 refine ⟨s + 1, tSet T4 i k, true, rfl, by omega, rfl, by go_num, hid ⟨(HT6.out.1.ext' (ext_drewN (Below.refl _ _) _)).put HG.out _, hR, .inl ?_⟩⟩
                 rw [tSet_at HTL.out HR.out hlt2 hlt3, if_pos ⟨rfl, rfl⟩]
              | false =>
                go_wp2_with fail
                go_quiet (fail)
                go_wp2_with fail
                go_roundg (n1 - (s + 1))
                case measure => omega
                case rel =>
                 refine ⟨s + 1, T4, tu4, rfl, by omega, rfl, by go_num, hid ⟨HT6.out.1.ext' (ext_drewN (Below.refl _ _) _), HT6.out.2.1, ?_⟩⟩
                 rcases HT6.out.2.2 with h | h
                 ·exact .inl h
                 ·refine .inr fun c hc => ?_
                  by_cases e : c = s
                  ·subst e; rw [← HP.out, ← HQ.out]; exact HB.out.symm
                  ·exact h c (by omega)
           ·obtain rfl : n1 = s := by omega
            have q1 : decide (n1 < n1) = false := decide_eq_false (by omega)
            have q2 : decide ((n1 : Int) < (n1 : Int)) = false := decide_eq_false (by omega)
            go_wp2_with fail
            go_roundg (n3 - (k + 1))
            case measure => omega
            case rel => exact ⟨k + 1, T4, tu4, rfl, by omega, rfl, by go_num, hid ⟨HT6.out.1, HT6.out.2.1.see fun _ a b h => by
             rcases h with h | ⟨rfl, h⟩
             ·exact .inl (.inl h)
             ·by_cases e : b = k
              ·subst e
               refine .inr fun c hc h2 => ?_
               rcases HT6.out.2.2 with h3 | h3
               ·exact h3
               ·rw [h3 c (by rw [HL.out.1]; exact hc)] at h2; cases h2
              ·exact .inl (.inr ⟨rfl, by omega⟩)⟩⟩
         ·obtain rfl : n3 = k := by omega
          go_wp2_with fail
          go_roundg (n3 - (i + 1))
          case measure => omega
          case rel => exact ⟨i + 1, T3, tu3, rfl, by omega, rfl, by go_num, hid ⟨HT5.out.1, HT5.out.2.see fun _ a b h => .inl (by
           have := HL.out.2.1
           by_cases e : a = i
           ·exact .inr ⟨e, by omega⟩
           ·exact .inl ⟨by omega, h.2⟩)⟩⟩
       ·obtain rfl : n3 = i := by omega
        go_wp2_with fail
        have hlen := HL.out.2.1
        go_roundg (if tu2 = true then cntT n3 T2 + 1 else 0)
        case measure =>
         cases tu2 with
         | false => simp
         | true =>
           have h := HT4.out.2.less rfl
           rw [← hlen] at h
           simp only [if_true]
           omega
        case rel => exact ⟨T2, tu2, rfl, rfl, hid ⟨HT4.out.1, HT4.out.2.apart, fun e a b ha hb => by
         have h := HT4.out.2.same e
         rw [h.1]
         exact h.2 a b ⟨by omega, hb⟩⟩⟩
end Go.Proofs.YtngpjagpeblbjaaGreatDoor
namespace Go.Spy
open Go.RowKit
end Go.Spy
namespace Go.Proofs.YtngpjagpeblbjaaGreatDoor
open Go.RowKit Go.Spy Go.Heaped Go.Tour Go.Rx
section
variable {A B D : DA}
theorem min_well {S : DA} (h : MinD D S) (W : WellD nameOk D) : WellD nameOk S := ⟨h.ok, Nat.le_trans h.len W.most, by rw [h.syms]; exact W.names, by rw [h.syms]; exact W.rising⟩
theorem min_bnd {S : DA} (h : MinD D S) (W : WellD nameOk D) (B : BndD D.raw) : BndD S.raw :=
 raw_bnd (min_well h W) (by rw [h.syms]; exact B.s) (by rw [h.syms]; exact B.b)
theorem min_dfaW {w : World} {v : Value} {S : DA} (h : MinD D S) (W : WellD nameOk D) (B : BndD D.raw) (hv : DfaV w v S.raw) : DfaW w v S := ⟨hv, min_bnd h W B, min_well h W⟩
theorem not_in8 {w : World} {x : Array Value} (hA : DfaW w (.agg x) A) : Calls Tryz.prog 14 #[.agg x] w fun e w' => ∃ aoS n1 cS aoN n2 cN aoF n3 cF, e = .returned (.tuple #[.agg #[.slice aoS n1 cS, .slice aoN n2 cN, .slice aoF n3 cF], .int .i64 0]) ∧ DfaW w' (.agg #[.slice aoS n1 cS, .slice aoN n2 cN, .slice aoF n3 cF]) (notD A) ∧ Ext w w' := not_in hA
theorem dfaV_rows {w : World} {aoS aoN aoF : Option Addr} {n1 n2 n3 cS cN cF : Nat} {D : DA} (h : DfaV w (.agg #[.slice aoS n1 cS, .slice aoN n2 cN, .slice aoF n3 cF]) D.raw) : n2 = D.next.length ∧ n1 = D.syms.length := by
 obtain ⟨vS, vN, vF, us, e, hP⟩ := h
 simp only [Value.agg.injEq, Array.mk.injEq, List.cons.injEq, and_true] at e
 obtain ⟨rfl, rfl, rfl⟩ := e
 have hl := hP.len
 obtain ⟨a1, c1, e1, -⟩ := hP.next.form
 obtain ⟨a2, c2, e2, -⟩ := hP.syms.form
 simp only [Value.slice.injEq] at e1 e2
 refine ⟨?_, e2.2.1⟩
 rw [e1.2.1, hl]
 show (D.next.map _).length = _
 rw [List.length_map]
theorem small_gen {w : World} {aoS aoN aoF : Option Addr} {n1 n2 n3 cS cN cF : Nat} (hA : DfaW w (.agg #[.slice aoS n1 cS, .slice aoN n2 cN, .slice aoF n3 cF]) A) :
 Calls Tryz.prog 18 #[.agg #[.slice aoS n1 cS, .slice aoN n2 cN, .slice aoF n3 cF]] w fun e w' => ∃ aoS' m1 cS' aoN' m2 cN' aoF' m3 cF' S, e = .returned (.tuple #[.agg #[.slice aoS' m1 cS', .slice aoN' m2 cN', .slice aoF' m3 cF'], .int .i64 0]) ∧ m2 ≤ n2 ∧ MinD A S ∧ DfaW w' (.agg #[.slice aoS' m1 cS', .slice aoN' m2 cN', .slice aoF' m3 cF']) S ∧ Ext w w' := by
 refine (small_in hA).mono ?_
 rintro e w' ⟨aoS', m1, cS', aoN', m2, cN', aoF', m3, cF', S, rfl, hm, hv, hx⟩
 refine ⟨aoS', m1, cS', aoN', m2, cN', aoF', m3, cF', S, rfl, ?_, hm, min_dfaW hm hA.well hA.bnd hv, hx⟩
 have k1 := dfaV_rows hA.at_
 have k2 := dfaV_rows hv
 rw [k1.1, k2.1]
 exact hm.len
end
end Go.Proofs.YtngpjagpeblbjaaGreatDoor
