/-
  Walk of fold: parts made one.
-/
import Derived.Test.YtngpjagpeblbjaaDoorZR4
namespace Go.Rx
/-- Nodes whose parts stand among them, and are not too many. -/
def GoodN (l : List Nd) : Prop := ∀ n, n ∈ l → -1 ≤ n.a ∧ n.a ≤ l.length ∧ -1 ≤ n.b ∧ n.b ≤ l.length ∧ n.sym.size ≤ 64

theorem mv_zero (n : Nd) : mv 0 n = n := by unfold mv; split <;> (try split) <;> simp
theorem foldN_one (op : Int) (l : List Nd) : foldN op [l] = l := rfl
theorem foldN_next (op : Int) (ls : List (List Nd)) (k : Nat) (h : k < ls.length) (h0 : 0 < k) : foldN op (ls.take (k + 1)) = two op (foldN op (ls.take k)) ls[k] := by
  rw [List.take_succ_eq_append_getElem h]
  exact foldN_snoc op _ (fun e => by have := congrArg List.length e; rw [List.length_take, List.length_nil] at this; omega) _
theorem foldN_len (op : Int) (ls : List (List Nd)) (h : 0 < ls.length) : (foldN op ls).length = (ls.map List.length).sum + (ls.length - 1) := by
  cases ls with
  | nil => cases h
  | cons l ls =>
    have key : ∀ (ls : List (List Nd)) (l : List Nd), (ls.foldl (two op) l).length = l.length + (ls.map List.length).sum + ls.length := by
      intro ls
      induction ls with
      | nil => intro l; simp
      | cons x ls ih => intro l; rw [List.foldl_cons, ih, two_len]; simp; omega
    rw [foldN, key]; simp
theorem sum_take (ls : List (List Nd)) (k : Nat) (h : k < ls.length) : ((ls.take (k + 1)).map List.length).sum = ((ls.take k).map List.length).sum + ls[k].length := by
  rw [List.take_succ_eq_append_getElem h, List.map_append, List.sum_append]; rfl
theorem sum_le (ls : List (List Nd)) (k : Nat) : ((ls.take k).map List.length).sum ≤ (ls.map List.length).sum := by
  conv => rhs; rw [← List.take_append_drop k ls]
  rw [List.map_append, List.sum_append]; omega
def sumTo (ls : List (List Nd)) (k : Nat) : Nat := ((ls.take k).map List.length).sum + (ls.length - 1)
theorem sumTo_next {ls : List (List Nd)} {k : Nat} (h : k < ls.length) : sumTo ls (k + 1) = sumTo ls k + ls[k].length := by
  unfold sumTo; rw [sum_take ls k h]; omega
theorem sumTo_le (op : Int) {ls : List (List Nd)} (h : 0 < ls.length) (k : Nat) : sumTo ls k ≤ (foldN op ls).length := by
  unfold sumTo; rw [foldN_len op ls h]; have := sum_le ls k; omega
theorem foldN_take_le (op : Int) (ls : List (List Nd)) (k : Nat) : (foldN op (ls.take k)).length ≤ (foldN op ls).length := by
  by_cases h : 0 < (ls.take k).length
  · have h' : 0 < ls.length := by rw [List.length_take] at h; omega
    rw [foldN_len op _ h, foldN_len op ls h']
    have := sum_le ls k
    have := List.length_take_le k ls
    have := List.length_take_le' k ls
    omega
  · rw [List.length_eq_zero_iff.1 (show (ls.take k).length = 0 by omega)]
    exact Nat.zero_le _
theorem good_two {op : Int} {a b : List Nd} (ha : GoodN a) (hb : GoodN b) : GoodN (two op a b) := by
  intro n hn
  rw [two_len]
  simp only [two, List.mem_append, List.mem_map, List.mem_cons, List.not_mem_nil, or_false] at hn
  rcases hn with (hn | ⟨m, hm, rfl⟩) | rfl
  · obtain ⟨h1, h2, h3, h4, h5⟩ := ha n hn
    exact ⟨h1, by omega, h3, by omega, h5⟩
  · obtain ⟨h1, h2, h3, h4, h5⟩ := hb m hm
    have e1 : mv a.length m = if m.op = 3 ∨ m.op = 4 then { m with a := m.a + a.length, b := m.b + a.length } else if m.op = 5 then { m with a := m.a + a.length } else m := rfl
    rw [e1]
    split
    · exact ⟨by simp only; omega, by simp only; omega, by simp only; omega, by simp only; omega, h5⟩
    · split
      · exact ⟨by simp only; omega, by simp only; omega, h3, by simp only; omega, h5⟩
      · exact ⟨h1, by omega, h3, by omega, h5⟩
  · exact ⟨by simp only; omega, by simp only; omega, by simp only; omega, by simp only; omega, by simp [nil8, ByteArray.size]⟩
theorem good_many {a : List Nd} (ha : GoodN a) : GoodN (manyL a) := by
  intro n hn
  rw [manyL_len]
  simp only [manyL, List.mem_append, List.mem_cons, List.not_mem_nil, or_false] at hn
  rcases hn with hn | rfl
  · obtain ⟨h1, h2, h3, h4, h5⟩ := ha n hn
    exact ⟨h1, by omega, h3, by omega, h5⟩
  · exact ⟨by simp only; omega, by simp only; omega, by simp only; omega, by simp only; omega, by simp [nil8, ByteArray.size]⟩
theorem good_fold {op : Int} {ls : List (List Nd)} (h : ∀ l, l ∈ ls → GoodN l) : GoodN (foldN op ls) := by
  cases ls with
  | nil => intro n hn; cases hn
  | cons l ls =>
    have key : ∀ (ls : List (List Nd)) (l : List Nd), GoodN l → (∀ x, x ∈ ls → GoodN x) → GoodN (ls.foldl (two op) l) := by
      intro ls
      induction ls with
      | nil => intro l hl _; exact hl
      | cons x ls ih => intro l hl hx; exact ih _ (good_two hl (hx x (by simp))) fun y hy => hx y (by simp [hy])
    exact key ls l (h l (by simp)) fun x hx => h x (by simp [hx])
end Go.Rx
namespace Go.Proofs.YtngpjagpeblbjaaDoor
open Go.RowKit Go.Spy Go.Rx

/-- Parts lie where a slice value says. -/
structure PartsV (w : World) (ao : Option Addr) (ls : List (List Nd)) : Prop where
  cells : 0 < ls.length → ∃ b off, ao = some ⟨b, off, none⟩ ∧ b < w.heap.size ∧ ∀ i l, ls[i]? = some l → ∃ a c, w.cell? ⟨b, off + i, none⟩ = some (.slice a l.length c) ∧ l.length ≤ c ∧ NodesV w a l
theorem PartsV.ext {w w' : World} {ao : Option Addr} {ls : List (List Nd)} (h : PartsV w ao ls) (e : Ext w w') : PartsV w' ao ls where
  cells h0 := by
    obtain ⟨b, off, ha, hb, hc⟩ := h.cells h0
    refine ⟨b, off, ha, Nat.lt_of_lt_of_le hb e.size, fun i l hl => ?_⟩
    obtain ⟨a, c, h1, h2, h3⟩ := hc i l hl
    exact ⟨a, c, (e.cell (p := ⟨b, off + i, none⟩) hb).trans h1, h2, h3.ext e⟩

def FoldPost (op : Int) (ls : List (List Nd)) (w : World) (e : Ending) (w' : World) : Prop := ∃ v, e = .returned (.tuple #[v, .bool true]) ∧ OwnN w' w.heap.size v (foldN op ls) ∧ Ext w w'

set_option maxRecDepth 100000 in
set_option maxHeartbeats 2000000 in
theorem fold_any {w : World} {ao : Option Addr} {cap : Nat} {ls : List (List Nd)} (hP : PartsV w ao ls) (h0 : 0 < ls.length) (hg : ∀ l, l ∈ ls → GoodN l) (op nn : Int) (hl : (foldN op ls).length ≤ 1024) :
    Calls Tryd.prog 69 #[.int .i64 op, .int .i64 nn, .slice ao ls.length cap] w (FoldPost op ls w) := by
  obtain ⟨b, off, rfl, hb, hc⟩ := hP.cells h0
  have HC := hid hc
  have HP := hid hP
  have HG := hid hg
  have hz : ((ls.length : Int) == 0) = false := beq_eq_false_iff_ne.2 (by omega)
  have hle : ∀ k, sumTo ls k ≤ 1024 := fun k => Nat.le_trans (sumTo_le op h0 k) hl
  have hl2 : ls.length ≤ 1025 := by have := foldN_len op ls h0; omega
  have HLE := hid hle
  have HL := hid hl
  clear hP hc hg hl hle
  go_enter Tryd.func69, Tryd.ntmps69
  go_wp2_with fail
  go_loopg [8, 28] ls.length (fun g u i wr => ∃ k, g = ls.length - k ∧ k ≤ ls.length ∧ wr = w ∧ i = .int .i64 k ∧ u = .int .i64 (sumTo ls k))
  case atStart => exact ⟨0, rfl, Nat.zero_le _, rfl, rfl, by have : sumTo ls 0 = ls.length - 1 := by simp [sumTo]
                                                             rw [this]; go_num⟩
  case round =>
    obtain ⟨k, rfl, hk, rfl, rfl, rfl⟩ := hrel
    by_cases hlt : k < ls.length
    · obtain ⟨l, hl⟩ : ∃ l, ls[k]? = some l := ⟨_, List.getElem?_eq_getElem hlt⟩
      obtain ⟨a, c, q1, q2, q3⟩ := HC.out k l hl
      have hs := sumTo_next hlt
      have hs2 := HLE.out (k + 1)
      have hll : ls[k] = l := by rw [List.getElem?_eq_getElem hlt] at hl; exact Option.some.inj hl
      rw [hll] at hs
      have hs3 : sumTo ls k + l.length ≤ 1024 := by omega
      have HS := hid hs
      clear hs hs2 hll hl q3
      go_wp2_with fail
      go_roundg (ls.length - (k + 1))
      case measure => omega
      case rel => exact ⟨k + 1, rfl, by omega, rfl, by go_num, by rw [HS.out]; go_num⟩
    · obtain rfl : k = ls.length := by omega
      have hd : decide ((1024 : Int) < (sumTo ls ls.length : Int)) = false := decide_eq_false (by have := HLE.out ls.length; omega)
      go_wp2_with fail
      clear hd
      obtain ⟨w0, rfl⟩ : ∃ w0 : World, w0 = wr := ⟨_, rfl⟩
      go_loopg [11, 41] ls.length (fun g v i wi => ∃ k, g = ls.length - k ∧ k ≤ ls.length ∧ i = .int .i64 k ∧ Hid (OwnN wi w0.heap.size v (foldN op (ls.take k))) ∧ Hid (Ext w0 wi))
      case atStart => exact ⟨0, rfl, Nat.zero_le _, rfl, hid (OwnR.nil _ _ _ _ _), hid (Below.refl _ _)⟩
      case round =>
        obtain ⟨k, rfl, hk, rfl, HO, HE⟩ := hrel
        obtain ⟨wi, rfl⟩ : ∃ wi : World, wi = wr := ⟨_, rfl⟩
        by_cases hlt : k < ls.length
        · obtain ⟨l, hl⟩ : ∃ l, ls[k]? = some l := ⟨_, List.getElem?_eq_getElem hlt⟩
          obtain ⟨a, c, q1, q2, q3⟩ := HC.out k l hl
          have hll : ls[k] = l := by rw [List.getElem?_eq_getElem hlt] at hl; exact Option.some.inj hl
          have hgl := HG.out l (List.mem_of_getElem? hl)
          have hle1 := Nat.le_trans (foldN_take_le op ls (k + 1)) HL.out
          have hnext : (k = 0 → foldN op (ls.take (k + 1)) = l) ∧ (0 < k → foldN op (ls.take (k + 1)) = two op (foldN op (ls.take k)) l) := by
            refine ⟨fun e => ?_, fun e => ?_⟩
            · subst e
              rw [List.take_succ_eq_append_getElem hlt, List.take_zero, hll]; rfl
            · rw [foldN_next op ls k hlt e, hll]
          have hacc0 : k = 0 → foldN op (ls.take k) = [] := fun e => by subst e; rfl
          have hsz : (foldN op (ls.take k)).length + l.length ≤ 1024 := by
            by_cases e : k = 0
            · rw [hacc0 e]; rw [hnext.1 e] at hle1; simpa using hle1
            · rw [hnext.2 (by omega), two_len] at hle1; omega
          obtain ⟨acc, HACC⟩ : ∃ acc, Hid (foldN op (ls.take k) = acc) := ⟨_, hid rfl⟩
          rw [HACC.out] at hacc0 hsz hnext
          have HO1 : Hid (OwnN wi w0.heap.size u11 acc) := hid (by rw [← HACC.out]; exact HO.out)
          obtain ⟨ao', c', rfl, hca, _⟩ := OwnR.cells HO1.out ndV_size
          have c1 : wi.cell? ⟨b, off + k, none⟩ = some (.slice a l.length c) := (HE.out.cell (p := ⟨b, off + k, none⟩) hb).trans q1
          have HN := hid q3
          have HX := hid hnext
          have HZ := hid hacc0
          have HGL := hid hgl
          clear hl q1 q3 hll hgl hle1 hnext hacc0 HO
          go_wp2_with fail
          go_loopg [11, 50] l.length (fun g v i wj => ∃ m, g = l.length - m ∧ m ≤ l.length ∧ i = .int .i64 m ∧ Hid (OwnN wj w0.heap.size v (acc ++ (l.take m).map (mv acc.length))) ∧ Hid (Ext w0 wj))
          case atStart => exact ⟨0, rfl, Nat.zero_le _, rfl, hid (by have := HO1.out; simpa using this), HE⟩
          case round =>
            obtain ⟨m, rfl, hm, rfl, HOj, HEj⟩ := hrel
            by_cases hlm : m < l.length
            · obtain ⟨n, hn⟩ : ∃ n, l[m]? = some n := ⟨_, List.getElem?_eq_getElem hlm⟩
              obtain ⟨bn, on, rfl, hbn, hcn⟩ := (HN.out.ext HEj.out).cells (by omega)
              obtain ⟨p0, p1, p2, p3⟩ := hcn m n hn
              have hnear : NearN n := by
                obtain ⟨h1, h2, h3, h4, _⟩ := HGL.out n (List.mem_of_getElem? hn)
                exact ⟨by omega, by omega, by omega, by omega⟩
              have HNr := hid hnear
              have HNn := hid hn
              clear hcn hn hnear
              go_wp2_with (first
                | (go_at_call 78
                   refine (moved_any n acc.length (by omega) HNr.out _).mono ?_
                   rintro e w3 ⟨rfl, hx3⟩
                   have HX3 := hid ((HEj.out.alloc HEj.out.size _).trans (hx3.mono (by have := HEj.out.size; simp; omega)))
                   have HO3 := hid ((HOj.out.alloc _).ext hx3)
                   clear hx3)
                | (at_builtin; go_must (refine wpList_append_R elem_nd ndV_size ones_ndV HO3 HX3.out.size (by simp; omega) (mv acc.length n) _ rfl _ rfl rfl _ _ rfl rfl rfl ?_); rintro g' cap' v' w4 rfl H1 H2))
              go_roundg (l.length - (m + 1))
              case measure => omega
              case rel =>
                refine ⟨m + 1, rfl, by omega, by go_num, hid ?_, hid (ext_grown HX3.out H2.out.1 (fun i hi => (HO3.out.lt i hi).1))⟩
                have h1 := H1.out
                obtain ⟨hk', e⟩ := List.getElem?_eq_some_iff.1 HNn.out
                rw [List.take_succ_eq_append_getElem hk', e, List.map_append, ← List.append_assoc]
                have e2 : (acc ++ List.map (mv acc.length) (List.take m l)).length + 1 = acc.length + m + 1 := by simp; omega
                rw [e2] at h1
                exact h1
            · obtain rfl : m = l.length := by omega
              have HO2 : Hid (OwnN wr w0.heap.size u11 (acc ++ l.map (mv acc.length))) := hid (by have := HOj.out; rwa [List.take_length] at this)
              clear HOj
              obtain ⟨ao2, c2, hv2, hc2, _⟩ := OwnR.cells HO2.out ndV_size
              have elen : (acc ++ l.map (mv acc.length)).length = acc.length + l.length := by simp
              rw [elen] at hc2 hv2
              subst hv2
              have HEL := hid elen
              clear elen
              by_cases hk0 : k = 0
              · have hk1 : decide (0 < k) = false := decide_eq_false (by omega)
                have hk2 : decide ((0 : Int) < (k : Int)) = false := decide_eq_false (by omega)
                have HK := hid hk0
                clear hk0
                go_wp2_with fail
                go_roundg (ls.length - (k + 1))
                case measure => omega
                case rel =>
                  refine ⟨k + 1, rfl, by omega, by go_num, hid ?_, HEj⟩
                  rw [HX.out.1 HK.out]
                  have h1 := HO2.out
                  have h2 := HZ.out HK.out
                  subst h2
                  rw [show l.map (mv ([] : List Nd).length) = l from (List.map_congr_left fun n _ => mv_zero n).trans (List.map_id' l), List.nil_append] at h1
                  exact h1
              · have hk1 : decide (0 < k) = true := decide_eq_true (by omega)
                have hk2 : decide ((0 : Int) < (k : Int)) = true := decide_eq_true (by omega)
                have HK := hid hk0
                clear hk0
                have hsl := HEj.out.size
                go_wp2_with (at_builtin; go_must (refine wpList_append_R elem_nd ndV_size ones_ndV HO2 hsl (by rw [HEL.out]; omega) ⟨op, nil8, (acc.length : Int) - 1, ((acc.length + l.length : Nat) : Int) - 1⟩ _ (by simp [ndV, nil8]) _ rfl rfl _ _ rfl rfl rfl ?_); rintro g' cap' v' w4 rfl H1 H2)
                go_roundg (ls.length - (k + 1))
                case measure => omega
                case rel =>
                  refine ⟨k + 1, rfl, by omega, by go_num, hid ?_, hid (ext_grown HEj.out H2.out.1 (fun i hi => (HO2.out.lt i hi).1))⟩
                  rw [HX.out.2 (by have := HK.out; omega)]
                  have h1 := H1.out
                  rw [HEL.out] at h1
                  exact h1

        · obtain rfl : k = ls.length := by omega
          go_wp2_with fail
          go_ret2
          exact ⟨_, rfl, by have := HO.out; rwa [List.take_length] at this, HE.out⟩

end Go.Proofs.YtngpjagpeblbjaaDoor
