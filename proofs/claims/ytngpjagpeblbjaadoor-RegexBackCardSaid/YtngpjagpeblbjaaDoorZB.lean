/-
  Plain law: strings in order, each once, whatever their order was; the words of a tree and of its nodes. No program is named here.
  Walk of Symbols, up to the sort.
  The sort and slices.Compact by the library's contracts; Symbols whole.
  Walk of the law RegexBack.
-/
import Derived.Test.YtngpjagpeblbjaaDoorTT
import Derived.Lib.SlicesCompact
import Derived.Lib.RowBridge
import Derived.Test.YtngpjagpeblbjaaDoorZR9
import Derived.Test.YtngpjagpeblbjaaDoorZW24
import Derived.Test.YtngpjagpeblbjaaDoorSH
import Derived.Sort.OwnSorted
import Derived.Sort.Grow
import Derived.Lib.OwnBridge
import Derived.Test.YtngpjagpeblbjaaDoorZV2
import Derived.Test.YtngpjagpeblbjaaDoorZW18
namespace Go.Spy
theorem ms_perm {l l' : List (List UInt8)} (h : l.Perm l') : (l.mergeSort fun x y => decide (x ≤ y)) = l'.mergeSort fun x y => decide (x ≤ y) := by
  have tr : ∀ a b c : List UInt8, decide (a ≤ b) = true → decide (b ≤ c) = true → decide (a ≤ c) = true := fun a b c h k => by
    simp only [decide_eq_true_eq] at *
    exact List.le_trans h k
  have tot : ∀ a b : List UInt8, (decide (a ≤ b) || decide (b ≤ a)) = true := fun a b => by
    simp only [Bool.or_eq_true, decide_eq_true_eq]
    exact List.le_total a b
  have s1 := List.pairwise_mergeSort tr tot l
  have s2 := List.pairwise_mergeSort tr tot l'
  refine List.Perm.eq_of_pairwise (le := fun a b => decide (a ≤ b) = true) ?_ s1 s2 ((List.mergeSort_perm l _).trans (h.trans (List.mergeSort_perm l' _).symm))
  intro a b _ _ h k
  simp only [decide_eq_true_eq] at h k
  exact List.le_antisymm h k
end Go.Spy
namespace Go.Proofs.YtngpjagpeblbjaaDoor
open Go.RowKit Go.Spy Go.Rx

/-- The cell of a string, told by its bytes. -/
def stC (x : List UInt8) : Array Value := #[.string ⟨x.toArray⟩]
theorem stC_size (x : List UInt8) : (stC x).size = 1 := rfl
theorem ones_stC (x : List UInt8) : Ones (stC x) := by
  intro v hv
  simp only [stC, List.mem_toArray, List.mem_cons, List.not_mem_nil, or_false] at hv
  subst hv; rfl
theorem elem_str : ElemOk Tryd.prog 25 9 1 16 where
  under := Tryd.underlying25
  info := by
    obtain ⟨i, h1, h2, h3, h4⟩ := info_parts (P := Tryd.prog) (e := 9) (z := .string ⟨#[]⟩) (size := 1) (bytes := 16) (by kernel_rfl)
    exact ⟨i, _, h1, h2, h3, h4, rfl⟩
  pos := by decide
  small := by decide
abbrev OwnT (w : World) (base : Nat) (v : Value) (l : List (List UInt8)) : Prop := OwnR w base 9 1 stC v l
def symsB (l : List Nd) : List (List UInt8) := (symsL l).map fun s => s.data.toList
theorem symsB_snoc {l : List Nd} {k : Nat} {n : Nd} (hn : l[k]? = some n) : symsB (l.take (k + 1)) = symsB (l.take k) ++ (if n.op = 2 then [n.sym.data.toList] else []) := by
  obtain ⟨hk, rfl⟩ := List.getElem?_eq_some_iff.1 hn
  unfold symsB symsL
  rw [List.take_succ_eq_append_getElem hk, List.filterMap_append, List.map_append]
  congr 1
  by_cases h : l[k].op = 2 <;> simp [symN, h]
theorem symsB_len (l : List Nd) (k : Nat) : (symsB (l.take k)).length ≤ k := by
  unfold symsB symsL
  rw [List.length_map]
  exact Nat.le_trans (List.length_filterMap_le _ _) (List.length_take_le _ _)
theorem bs_self (s : ByteArray) : (⟨s.data.toList.toArray⟩ : ByteArray) = s := by obtain ⟨⟨l⟩⟩ := s; rfl

set_option maxRecDepth 100000 in
set_option maxHeartbeats 2000000 in
theorem symbols_walk {l : List Nd} (F : Rx.Form l) {w : World} {ao : Option Addr} (hV : NodesV w ao l) (hN : NamesOk l) (cap : Nat) (hl : l.length ≤ 64) {Post : Ending → World → Prop}
    (hsort : ∀ w1 v, OwnT w1 w.heap.size v (symsB l) → Ext w w1 → Calls Tryd.prog 32 #[v] w1 fun e w2 => e = .returned (.tuple #[]) ∧ Calls Tryd.prog 33 #[v] w2 fun e w3 => ∃ v, e = .returned v ∧ Post (.returned v) w3) :
    Calls Tryd.prog 12 #[.agg #[.slice ao l.length cap]] w Post := by
  have h0 : 0 < l.length := List.length_pos_iff.2 F.ne
  have HV := hid hV
  have HN := hid hN
  have HF := hid F
  have HSORT := hid hsort
  clear hV hN F hsort
  go_enter Tryd.func12, Tryd.ntmps12
  go_wp2_with fail
  have hE0 : Ext w (w.alloc (.cells #[.slice ao l.length cap] 24)) := (Below.refl _ w).alloc (Nat.le_refl _) _
  refine (check_any (HV.out.ext hE0) cap).mono ?_
  rintro e w1 ⟨c, rfl, hC, hx⟩
  have hc0 : c = 0 := (checkC_zero hC).2 ⟨by omega, HF.out, HN.out⟩
  subst hc0
  have hB1 := (Blk.new w 24 #[.slice ao l.length cap]).ext hx
  have x0 : w1.cell? ⟨w.heap.size, 0, none⟩ = some (.slice ao l.length cap) := hB1.cell (i := 0) rfl
  have HE1 : Hid (Ext w w1) := hid (hE0.trans (hx.mono (by simp)))
  have hsz1 : w.heap.size ≤ w1.heap.size := Nat.le_of_lt hB1.lt
  clear hC hx hE0 hB1
  go_wp2_with fail
  go_loopg [3, 12] l.length (fun g v i wr => ∃ k, g = l.length - k ∧ k ≤ l.length ∧ i = .int .i64 k ∧ Hid (OwnT wr w.heap.size v (symsB (l.take k))) ∧ Hid (Ext w wr))
  case atStart => exact ⟨0, rfl, Nat.zero_le _, rfl, hid (OwnR.nil _ _ _ _ _), HE1⟩
  case round =>
    obtain ⟨k, rfl, hk, rfl, HO, HE⟩ := hrel
    by_cases hlt : k < l.length
    · obtain ⟨n, hn⟩ : ∃ n, l[k]? = some n := ⟨_, List.getElem?_eq_getElem hlt⟩
      obtain ⟨b, off, rfl, hb, hc⟩ := (HV.out.ext HE.out).cells h0
      obtain ⟨q0, q1, q2, q3⟩ := hc k n hn
      have HSN := hid (symsB_snoc hn)
      have hlen := symsB_len l k
      have hsz := HE.out.size
      clear hc hn
      by_cases ho : n.op = 2
      · have ht : (n.op == 2) = true := by simp [ho]
        have HOp := hid ho
        have HO2 := hid (HO.out.alloc (.cells #[.int .i64 n.op, .string n.sym, .int .i64 n.a, .int .i64 n.b] 45))
        clear ho
        go_wp2_with (first | (at_builtin; go_must (refine wpList_append_R elem_str stC_size ones_stC HO2 (by simp; omega) (by omega) n.sym.data.toList _ (by rw [stC, bs_self]) (wr.heap.size + 1) (by simp) rfl _ _ rfl rfl rfl ?_); rintro g' cap' v' w4 rfl H1 H2))
        go_roundg (l.length - (k + 1))
        case measure => omega
        case rel =>
          refine ⟨k + 1, rfl, by omega, by go_num, hid ?_, hid (ext_grown (HE.out.alloc HE.out.size _) H2.out.1 (fun i hi => (HO.out.lt i hi).1))⟩
          rw [HSN.out, if_pos HOp.out]
          exact H1.out
      · have ht : (n.op == 2) = false := beq_eq_false_iff_ne.2 ho
        have HOp := hid ho
        clear ho
        go_wp2_with fail
        go_roundg (l.length - (k + 1))
        case measure => omega
        case rel => exact ⟨k + 1, rfl, by omega, by go_num, hid (by rw [HSN.out, if_neg HOp.out, List.append_nil]; exact HO.out.alloc _), hid (HE.out.alloc HE.out.size _)⟩
    · obtain rfl : k = l.length := by omega
      have hO := HO.out
      rw [List.take_length] at hO
      have HCS := hid (HSORT.out _ _ hO HE.out)
      clear hO
      go_wp2_with fail
      refine HCS.out.mono ?_
      rintro e w2 ⟨rfl, hcomp⟩
      have HC2 := hid hcomp
      clear hcomp
      go_wp2_with fail
      refine HC2.out.mono ?_
      rintro e w3 ⟨v, rfl, hP⟩
      have HP := hid hP
      clear hP
      go_wp2_with fail
      exact HP.out

end Go.Proofs.YtngpjagpeblbjaaDoor
namespace Go.Spy
open Go.RowKit Go.Sort

theorem flat_one {α β : Type} (f : α → β) (l : List α) : (l.flatMap fun x => (#[f x] : Array β).toList) = l.map f := by
  induction l with
  | nil => rfl
  | cons x l ih => rw [List.flatMap_cons, ih]; rfl

/-- Strings in order, each once. -/
def srt (ss : List (List UInt8)) : List (List UInt8) := Lib.compact (ss.mergeSort fun x y => decide (x ≤ y))
theorem srt_len (ss : List (List UInt8)) : (srt ss).length ≤ ss.length := by
  have h1 := Lib.compact_length_le (ss.mergeSort fun x y => decide (x ≤ y))
  rwa [List.length_mergeSort] at h1
theorem srt_nil : srt [] = [] := List.length_eq_zero_iff.1 (Nat.le_zero.1 (srt_len []))
end Go.Spy
namespace Go.Proofs.YtngpjagpeblbjaaDoor
open Go.RowKit Go.Spy Go.Rx Go.Sort

theorem ownT_iff {w : World} {base : Nat} {v : Value} {ss : List (List UInt8)} : OwnT w base v ss ↔ w.ownsRow base 9 1 v ss.length (ss.map encStr) := by
  unfold OwnT OwnR stC
  rw [flat_one encStr ss]

def SrtPost (base : Nat) (ss : List (List UInt8)) (w1 : World) (e : Ending) (w3 : World) : Prop := ∃ v, e = .returned v ∧ OwnT w3 base v (srt ss) ∧ Below base w1 w3

theorem sort_compact {w1 : World} {base : Nat} {v : Value} {ss : List (List UInt8)} (h : OwnT w1 base v ss) (hl : ss.length ≤ 1000000000) (hb : base ≤ w1.heap.size) :
    Calls Tryd.prog 32 #[v] w1 fun e w2 => e = .returned (.tuple #[]) ∧ Calls Tryd.prog 33 #[v] w2 (SrtPost base ss w1) := by
  have h' := ownT_iff.1 h
  by_cases hv : v = .slice none 0 0
  · subst hv
    have h0 : ss = [] := by
      rcases h'.2 with ⟨_, h0⟩ | ⟨g, cap, cur, e, _⟩
      · exact List.length_eq_zero_iff.1 h0
      · cases e
    subst h0
    refine (Tryd.slices_Sort_string_none none 0 w1).mono ?_
    rintro e w2 ⟨rfl, rfl⟩
    refine ⟨rfl, (Tryd.slices_Compact_string_empty none 0 w2).mono ?_⟩
    rintro e w3 ⟨rfl, rfl⟩
    exact ⟨_, rfl, by rw [srt_nil]; exact h, Below.refl _ _⟩
  · obtain ⟨g, cap, rfl, hbg, hgl, hncap, hcm, hlen, hH⟩ := Lib.holds_of_ownsRow h' hv
    refine (Tryd.slices_Sort_string g 0 cap ss w1 hH hgl (by omega)).mono ?_
    rintro e w2 ⟨rfl, nn, os, rfl⟩
    have hl2 : (ss.mergeSort fun x y => decide (x ≤ y)).length = ss.length := List.length_mergeSort ss
    have hH2 : Holds encStr (grow (putRow encStr (Sort.ahead w1 nn) g 0 (ss.mergeSort fun x y => decide (x ≤ y)).toArray) os) g 0 (ss.mergeSort fun x y => decide (x ≤ y)).toArray :=
      holds_grow encStr _ os g 0 _ (by simpa [putRow, mapBlock, Sort.ahead] using hgl) (holds_putRow encStr _ g 0 _ _ (holds_ahead encStr w1 nn g 0 _ hH) (by simp))
    have hcomp := Tryd.slices_Compact_string g 0 cap (ss.mergeSort fun x y => decide (x ≤ y)) _ hH2 (by omega) (by omega)
    rw [hl2] at hcomp
    refine ⟨rfl, hcomp.mono ?_⟩
    rintro e w3 ⟨rfl, q, rfl⟩
    have hle := Lib.compact_length_le (ss.mergeSort fun x y => decide (x ≤ y))
    rcases h'.2 with ⟨h0, _⟩ | ⟨g', cap', cur, hv', hbase, hbk, h1, h2, h3, h4⟩
    · cases h0
    cases hv'
    have hs := ownsRow_sorted (n := nn) (os := os) (ts := ss.mergeSort fun x y => decide (x ≤ y)) hl2 hbase hbk h1 h2 h3
    have hc := Lib.ownsRow_putRow (q := q) (k := (Lib.compact (ss.mergeSort fun x y => decide (x ≤ y))).length) (ys := Lib.compact (ss.mergeSort fun x y => decide (x ≤ y)) ++ List.replicate (ss.length - (Lib.compact (ss.mergeSort fun x y => decide (x ≤ y))).length) []) hs (by simp; omega) (by omega)
    rw [List.take_left] at hc
    exact ⟨_, rfl, ownT_iff.2 hc, Lib.below_putRow ((Below.refl base w1).grown (grownBy_sorted _) hb (fun j hj => by cases hj; exact hbase)) hbg⟩

def SymPost (l : List Nd) (w : World) (e : Ending) (w' : World) : Prop := ∃ v, e = .returned v ∧ OwnT w' w.heap.size v (srt (symsB l)) ∧ Ext w w'

theorem symbols_any {l : List Nd} (F : Rx.Form l) {w : World} {ao : Option Addr} (hV : NodesV w ao l) (hN : NamesOk l) (cap : Nat) (hl : l.length ≤ 64) :
    Calls Tryd.prog 12 #[.agg #[.slice ao l.length cap]] w (SymPost l w) := by
  refine symbols_walk F hV hN cap hl fun w1 v hO hX => ?_
  have hlen : (symsB l).length ≤ l.length := by have := symsB_len l l.length; rwa [List.take_length] at this
  refine (sort_compact hO (by omega) hX.size).mono ?_
  rintro e w2 ⟨he, h2⟩
  refine ⟨he, h2.mono ?_⟩
  rintro e w3 ⟨v3, rfl, hO3, hB⟩
  exact ⟨v3, rfl, v3, rfl, hO3, hX.trans hB⟩

end Go.Proofs.YtngpjagpeblbjaaDoor
namespace Go.Proofs.YtngpjagpeblbjaaDoor
open Go.RowKit Go.Spy Go.Rx

theorem parse_txt {t : RT ByteArray} (hok : okT t) (hs : sizeT t ≤ 64) (w : World) : Calls Tryd.prog 16 #[.string (bs (txt t))] w fun e w' =>
    ∃ ao c, e = .returned (.tuple #[.agg #[.slice ao (sizeT t) c], .int .i64 0]) ∧ IsT w' ao t ∧ Ext w w' := by
  refine (parse_any (s := bs (txt t)) ?_ (n := 1024) (l := post t) (r' := []) ?_ rfl w).mono ?_
  · rw [bs_size]; have := txt_len hok; omega
  · exact reads_txt hok (by omega)
  rintro e w' ⟨ao, c, rfl, _, hN, hX⟩
  exact ⟨ao, c, by rw [post_len], ⟨hN, hok, hs⟩, hX⟩

section
variable {w : World} {ao : Option Addr} {t : RT ByteArray} (h : IsT w ao t) (cap : Nat)
include h
theorem IsT.nullable : Calls Tryd.prog 11 #[.agg #[.slice ao (sizeT t) cap]] w fun e w' => e = .returned (.bool (nullT t)) ∧ Ext w w' := by
  have h1 := nullable_any (form_post t) h.nodes (names_of_post h.ok) cap (by rw [post_len]; exact h.small)
  rw [post_len, (tr_post t).null] at h1
  exact h1
theorem IsT.plain : Calls Tryd.prog 7 #[.agg #[.slice ao (sizeT t) cap]] w fun e w' => ∃ a c, e = .returned (.slice a (sizeT t) c) ∧ NodesV w' a (post t) ∧ Ext w w' := by
  have h1 := plain_any h.nodes cap (by rw [post_len]; have := h.small; omega)
  rw [post_len] at h1
  refine h1.mono ?_
  rintro e w' ⟨a, c, rfl, _, hN, hX, _⟩
  exact ⟨a, c, by rw [post_len], hN, hX⟩
theorem IsT.symbols : Calls Tryd.prog 12 #[.agg #[.slice ao (sizeT t) cap]] w (SymPost (post t) w) := by
  have h1 := symbols_any (form_post t) h.nodes (names_of_post h.ok) cap (by rw [post_len]; exact h.small)
  rw [post_len] at h1
  exact h1
end

theorem nodes_call {w : World} {a b : Option Addr} {c d : Nat} {t : RT ByteArray} (h1 : NodesV w a (post t)) (h2 : NodesV w b (post t)) : Calls Tryd.prog 17 #[.slice a (sizeT t) c, .slice b (sizeT t) d] w fun e w' => e = .returned (.bool true) ∧ Ext w w' := by
  have h := nodes_same (c1 := c) (c2 := d) h1 h2
  rw [post_len] at h
  exact h

theorem strsV_of {w : World} {base : Nat} {v : Value} {ss : List (List UInt8)} (h : OwnT w base v ss) (hl : ss.length ≤ 1000000) (hs : ∀ s, s ∈ ss → s.length ≤ 1000000) : ∃ us ao cap, us = ss.map bs ∧ v = .slice ao us.length cap ∧ StrsV w ao cap us := by
  have h' := ownT_iff.1 h
  have e : ss.map encStr = (ss.map bs).map Value.string := by rw [List.map_map]; rfl
  rw [e] at h'
  obtain ⟨ao, cap, h1, _, h3⟩ := strs_of_owns h' (by simp; omega) (fun s hx => by
    obtain ⟨x, hm, rfl⟩ := List.mem_map.1 hx
    rw [bs_size]; have := hs x hm; omega)
  exact ⟨_, ao, cap, rfl, h1, h3⟩
theorem mem_srt {ss : List (List UInt8)} {s : List UInt8} (h : s ∈ srt ss) : s ∈ ss := by
  have key : ∀ (d : Array (List UInt8)) (m : Nat), m ≤ d.size → ∀ x, x ∈ Lib.compactUpTo d m → x ∈ d := by
    intro d m
    induction m with
    | zero => intro _ x hx; simp [Lib.compactUpTo] at hx
    | succ m ih =>
      intro hm x hx
      rw [Lib.compactUpTo_succ, List.mem_append] at hx
      rcases hx with hx | hx
      · exact ih (by omega) x hx
      · split at hx
        · simp only [List.mem_cons, List.not_mem_nil, or_false] at hx
          subst hx
          rw [getElem!_pos d m (by omega)]
          exact Array.getElem_mem _
        · cases hx
  have h1 := key _ _ (by simp) s h
  have h2 : s ∈ (ss.mergeSort fun x y => decide (x ≤ y)) := by simpa using h1
  exact (List.mergeSort_perm ss _).mem_iff.1 h2
theorem symsB_small {l : List Nd} (h : ∀ n, n ∈ l → n.sym.size ≤ 1000) : ∀ s, s ∈ srt (symsB l) → s.length ≤ 1000000 := fun s hs => by
  have h1 := mem_srt hs
  unfold symsB symsL at h1
  obtain ⟨x, hx, rfl⟩ := List.mem_map.1 h1
  obtain ⟨n, hn, hx⟩ := List.mem_filterMap.1 hx
  unfold symN at hx
  split at hx
  · cases hx
    have := h n hn
    have e : n.sym.data.toList.length = n.sym.size := by simp
    rw [e]; omega
  · cases hx
theorem symsB_perm {l : List Nd} (F : Rx.Form l) : (symsB (post (tr l (l.length - 1)))).Perm (symsB l) := by
  have h1 := syms_root F
  have h2 := syms_root (form_post (tr l (l.length - 1)))
  rw [post_len, (tr_post (tr l (l.length - 1))).syms] at h2
  exact (h2.symm.trans h1).map _
theorem srt_same {l : List Nd} (F : Rx.Form l) : srt (symsB (post (tr l (l.length - 1)))) = srt (symsB l) := by
  unfold srt; rw [ms_perm (symsB_perm F)]

set_option maxRecDepth 100000 in
set_option maxHeartbeats 1000000 in
theorem text_none {l : List Nd} {w : World} {ao : Option Addr} (hV : NodesV w ao l) (cap : Nat) (hno : ¬ (l.length ≤ 1024 ∧ Rx.Form l ∧ NamesOk l)) :
    Calls Tryd.prog 15 #[.agg #[.slice ao l.length cap]] w fun e w' => (∃ c : Int, e = .returned (.tuple #[.string ⟨#[]⟩, .int .i64 c]) ∧ c ≠ 0) ∧ Ext w w' := by
  have HV := hid hV
  have HNO := hid hno
  clear hV hno
  go_enter Tryd.func15, Tryd.ntmps15
  go_wp2_with fail
  have hE0 := box_ext w ao l.length cap
  refine (check_any (HV.out.ext hE0) cap).mono ?_
  rintro e w1 ⟨c, rfl, hC, hx⟩
  have hc0 : c ≠ 0 := fun h => HNO.out ((checkC_zero hC).1 h)
  have hq : (c == 0) = false := beq_eq_false_iff_ne.2 hc0
  have hq2 : (c != 0) = true := by simp [bne, hq]
  have HC := hid hc0
  have HX := hid (hE0.trans (hx.mono (by simp)))
  clear hC hx hE0 hc0
  go_wp2_with fail
  go_ret2
  exact ⟨⟨c, rfl, HC.out⟩, HX.out⟩

set_option maxRecDepth 100000 in
set_option maxHeartbeats 8000000 in
theorem back_big1 {l : List Nd} {w : World} {ao : Option Addr} (hV : NodesV w ao l) (cap : Nat) {aw : Option Addr} {cw : Nat} {ws : List ByteArray} (hS : StrsV w aw cw ws) (hcw : ws.length ≤ cw) (hT : TabW w) (hns : ¬ SmallL l) :
    Calls Tryd.prog 4 #[.agg #[.slice ao l.length cap], .slice aw ws.length cw] w (TruePost w) := by
  have HV := hid hV
  have HS := hid hS
  have HT := hid hT
  have hwl := hS.len
  have hnl := hV.len
  have HNS := hid hns
  clear hV hS hT hns
  go_enter Tryd.func4, Tryd.ntmps4
  go_wp2_with fail
  have HE0 := hid (box_ext w ao l.length cap)
  have HB0 := hid (Blk.new w 24 #[.slice ao l.length cap])
  have b0 := HB0.out.cell (i := 0) rfl
  refine (small_any (HV.out.ext HE0.out) cap).mono ?_
  rintro e w1 ⟨sb, rfl, hsb, hx⟩
  have hsb' : sb = false := by rw [← Bool.not_eq_true, hsb]; exact HNS.out
  subst hsb'
  clear hsb
  have HE1 := hid (HE0.out.trans (hx.mono HE0.out.size))
  have HB1 := hid (HB0.out.ext hx)
  have b1 : w1.cell? ⟨w.heap.size, 0, none⟩ = some (.slice ao l.length cap) := HB1.out.cell rfl
  clear hx b0
  go_wp2_with fail
  refine (awake_any (HT.out.ext HE1.out)).mono ?_
  rintro e w2 ⟨rfl, hx⟩
  have HE2 := hid (HE1.out.trans (hx.mono HE1.out.size))
  have HB2 := hid (HB1.out.ext hx)
  have b2 : w2.cell? ⟨w.heap.size, 0, none⟩ = some (.slice ao l.length cap) := HB2.out.cell rfl
  clear hx b1
  go_wp2_with fail
  go_ret
  exact ⟨rfl, HE2.out⟩

set_option maxRecDepth 100000 in
set_option maxHeartbeats 8000000 in
theorem back_big2 {l : List Nd} {w : World} {ao : Option Addr} (hV : NodesV w ao l) (cap : Nat) {aw : Option Addr} {cw : Nat} {ws : List ByteArray} (hS : StrsV w aw cw ws) (hcw : ws.length ≤ cw) (hT : TabW w) (hns : SmallL l) (h5 : 5 < ws.length) :
    Calls Tryd.prog 4 #[.agg #[.slice ao l.length cap], .slice aw ws.length cw] w (TruePost w) := by
  have HV := hid hV
  have HS := hid hS
  have HT := hid hT
  have hwl := hS.len
  have hnl := hV.len
  have HNS := hid hns
  have hd : decide ((5 : Int) < (ws.length : Int)) = true := decide_eq_true (by omega)
  have hd2 : decide (5 < ws.length) = true := decide_eq_true h5
  clear hV hS hT hns
  go_enter Tryd.func4, Tryd.ntmps4
  go_wp2_with fail
  have HE0 := hid (box_ext w ao l.length cap)
  have HB0 := hid (Blk.new w 24 #[.slice ao l.length cap])
  have b0 := HB0.out.cell (i := 0) rfl
  refine (small_any (HV.out.ext HE0.out) cap).mono ?_
  rintro e w1 ⟨sb, rfl, hsb, hx⟩
  have hsb' : sb = true := hsb.2 HNS.out
  subst hsb'
  clear hsb
  have HE1 := hid (HE0.out.trans (hx.mono HE0.out.size))
  have HB1 := hid (HB0.out.ext hx)
  have b1 : w1.cell? ⟨w.heap.size, 0, none⟩ = some (.slice ao l.length cap) := HB1.out.cell rfl
  clear hx b0
  go_wp2_with fail
  refine (awake_any (HT.out.ext HE1.out)).mono ?_
  rintro e w2 ⟨rfl, hx⟩
  have HE2 := hid (HE1.out.trans (hx.mono HE1.out.size))
  have HB2 := hid (HB1.out.ext hx)
  have b2 : w2.cell? ⟨w.heap.size, 0, none⟩ = some (.slice ao l.length cap) := HB2.out.cell rfl
  clear hx b1
  go_wp2_with fail
  go_ret
  exact ⟨rfl, HE2.out⟩

set_option maxRecDepth 100000 in
set_option maxHeartbeats 8000000 in
theorem back_none {l : List Nd} {w : World} {ao : Option Addr} (hV : NodesV w ao l) (cap : Nat) {aw : Option Addr} {cw : Nat} {ws : List ByteArray} (hS : StrsV w aw cw ws) (hcw : ws.length ≤ cw) (hT : TabW w) (hns : SmallL l) (h5 : ws.length ≤ 5) (hno : ¬ (l.length ≤ 1024 ∧ Rx.Form l ∧ NamesOk l)) :
    Calls Tryd.prog 4 #[.agg #[.slice ao l.length cap], .slice aw ws.length cw] w (TruePost w) := by
  have HV := hid hV
  have HS := hid hS
  have HT := hid hT
  have hwl := hS.len
  have hnl := hV.len
  have HNS := hid hns
  have hns1 := hns.1
  have hd : decide ((5 : Int) < (ws.length : Int)) = false := decide_eq_false (by omega)
  have hd2 : decide (5 < ws.length) = false := decide_eq_false (by omega)
  have HNO := hid hno
  clear hV hS hT hns hno
  go_enter Tryd.func4, Tryd.ntmps4
  go_wp2_with fail
  have HE0 := hid (box_ext w ao l.length cap)
  have HB0 := hid (Blk.new w 24 #[.slice ao l.length cap])
  have b0 := HB0.out.cell (i := 0) rfl
  refine (small_any (HV.out.ext HE0.out) cap).mono ?_
  rintro e w1 ⟨sb, rfl, hsb, hx⟩
  have hsb' : sb = true := hsb.2 HNS.out
  subst hsb'
  clear hsb
  have HE1 := hid (HE0.out.trans (hx.mono HE0.out.size))
  have HB1 := hid (HB0.out.ext hx)
  have b1 : w1.cell? ⟨w.heap.size, 0, none⟩ = some (.slice ao l.length cap) := HB1.out.cell rfl
  clear hx b0
  go_wp2_with fail
  refine (text_none (HV.out.ext HE1.out) cap HNO.out).mono ?_
  rintro e w2 ⟨⟨c, rfl, hc⟩, hx⟩
  have hq : (c == 0) = false := beq_eq_false_iff_ne.2 hc
  have hq2 : (c != 0) = true := by simp [bne, hq]
  clear hc
  have HE2 := hid (HE1.out.trans (hx.mono HE1.out.size))
  have HB2 := hid (HB1.out.ext hx)
  have b2 : w2.cell? ⟨w.heap.size, 0, none⟩ = some (.slice ao l.length cap) := HB2.out.cell rfl
  clear hx b1
  go_wp2_with fail
  refine (awake_any (HT.out.ext HE2.out)).mono ?_
  rintro e w3 ⟨rfl, hx⟩
  have HE3 := hid (HE2.out.trans (hx.mono HE2.out.size))
  have HB3 := hid (HB2.out.ext hx)
  have b3 : w3.cell? ⟨w.heap.size, 0, none⟩ = some (.slice ao l.length cap) := HB3.out.cell rfl
  clear hx b2
  go_wp2_with fail
  go_ret
  exact ⟨rfl, HE3.out⟩

theorem good_post {t : RT ByteArray} (h : okT t) : ∀ n, n ∈ post t → n.sym.size ≤ 64 := fun n hn => by
  by_cases h2 : n.op = 2
  · have := names_post h n hn h2
    simp only [nmB, Bool.and_eq_true, decide_eq_true_eq] at this
    have h3 := this.1.1.2
    simpa using h3
  · obtain ⟨i, hi⟩ := List.getElem?_of_mem hn
    have key : n.sym = nil8 := by
      cases (post_ok t).kind hi with
      | none _ s _ _ => exact s
      | empty _ s _ _ => exact s
      | sym ho _ _ => exact absurd ho h2
      | cat _ s => exact s
      | alt _ s => exact s
      | star _ s => exact s
    rw [key]; simp [nil8, ByteArray.size]

set_option maxRecDepth 100000 in
set_option maxHeartbeats 8000000 in
theorem back_ok {l : List Nd} {w : World} {ao : Option Addr} (hV : NodesV w ao l) (cap : Nat) {aw : Option Addr} {cw : Nat} {ws : List ByteArray} (hS : StrsV w aw cw ws) (hcw : ws.length ≤ cw) (hT : TabW w) (hns : SmallL l) (h5 : ws.length ≤ 5) (hok : l.length ≤ 1024 ∧ Rx.Form l ∧ NamesOk l) :
    Calls Tryd.prog 4 #[.agg #[.slice ao l.length cap], .slice aw ws.length cw] w (TruePost w) := by
  have HV := hid hV
  have HS := hid hS
  have HT := hid hT
  have hwl := hS.len
  have hnl := hV.len
  have HNS := hid hns
  have hns1 := hns.1
  have hd : decide ((5 : Int) < (ws.length : Int)) = false := decide_eq_false (by omega)
  have hd2 : decide (5 < ws.length) = false := decide_eq_false (by omega)
  have h0 : 0 < l.length := List.length_pos_iff.2 hok.2.1.ne
  obtain ⟨t, HTT⟩ : ∃ t, Hid (tr l (l.length - 1) = t) := ⟨_, hid rfl⟩
  have hokt : okT t := by rw [← HTT.out]; exact okT_of hok.2.1 hok.2.2 _
  have hst : sizeT t = l.length := by rw [← HTT.out]; exact size_root hok.2.1
  have hst64 : sizeT t ≤ 64 := by omega
  obtain ⟨S, HSS⟩ : ∃ S, Hid (bs (txt t) = S) := ⟨_, hid rfl⟩
  obtain ⟨M, HMM⟩ : ∃ M, Hid (matchT t ws = M) := ⟨_, hid rfl⟩
  obtain ⟨U, HUU⟩ : ∃ U, Hid (nullT t = U) := ⟨_, hid rfl⟩
  have hss : (S.toList == S.toList) = true := BEq.rfl
  have HOKT := hid hokt
  have HST := hid hst
  have HOK := hid hok
  clear hV hS hT hns hok hokt hst
  go_enter Tryd.func4, Tryd.ntmps4
  go_wp2_with fail
  have HE0 := hid (box_ext w ao l.length cap)
  have HB0 := hid (Blk.new w 24 #[.slice ao l.length cap])
  have b0 := HB0.out.cell (i := 0) rfl
  refine (small_any (HV.out.ext HE0.out) cap).mono ?_
  rintro e w1 ⟨sb, rfl, hsb, hx⟩
  have hsb' : sb = true := hsb.2 HNS.out
  subst hsb'
  clear hsb
  have HE1 := hid (HE0.out.trans (hx.mono HE0.out.size))
  have HB1 := hid (HB0.out.ext hx)
  have b1 : w1.cell? ⟨w.heap.size, 0, none⟩ = some (.slice ao l.length cap) := HB1.out.cell rfl
  clear hx b0
  go_wp2_with fail
  refine (text_any HOK.out.2.1 (HV.out.ext HE1.out) HOK.out.2.2 cap (by omega)).mono ?_
  rintro e w2 ⟨rfl, hx⟩
  rw [HTT.out, HSS.out]
  have HE2 := hid (HE1.out.trans (hx.mono HE1.out.size))
  have HB2 := hid (HB1.out.ext hx)
  have b2 : w2.cell? ⟨w.heap.size, 0, none⟩ = some (.slice ao l.length cap) := HB2.out.cell rfl
  clear hx b1
  go_wp2_with fail
  refine (by rw [← HSS.out]; exact parse_txt HOKT.out hst64 w2 : Calls Tryd.prog 16 #[.string S] w2 fun e w' => ∃ ao c, e = .returned (.tuple #[.agg #[.slice ao (sizeT t) c], .int .i64 0]) ∧ IsT w' ao t ∧ Ext w2 w').mono ?_
  rintro e w3 ⟨ap, cp, rfl, hI, hx⟩
  have HI3 := hid hI
  have HE3 := hid (HE2.out.trans (hx.mono HE2.out.size))
  have HB3 := hid (HB2.out.ext hx)
  clear hI hx b2
  go_wp2_with fail
  have hx4 := box_ext w3 ap (sizeT t) cp
  have HP4 := hid (Blk.new w3 24 #[.slice ap (sizeT t) cp])
  refine ((HI3.out.ext hx4).text cp).mono ?_
  rintro e w4 ⟨rfl, hx⟩
  rw [HSS.out]
  have HP5 := hid (HP4.out.ext hx)
  have HI5 := hid ((HI3.out.ext hx4).ext hx)
  have HE5 := hid (HE3.out.trans ((hx4.trans (hx.mono (by simp))).mono HE3.out.size))
  have HB5 := hid ((HB3.out.ext hx4).ext hx)
  have p5 := HP5.out.cell (i := 0) rfl
  clear hx4 hx
  go_wp2_with fail
  refine (by rw [← HSS.out]; exact parse_txt HOKT.out hst64 w4 : Calls Tryd.prog 16 #[.string S] w4 fun e w' => ∃ ao c, e = .returned (.tuple #[.agg #[.slice ao (sizeT t) c], .int .i64 0]) ∧ IsT w' ao t ∧ Ext w4 w').mono ?_
  rintro e w5 ⟨aq, cq, rfl, hI, hx⟩
  have HQ6 := hid hI
  have HP6 := hid (HP5.out.ext hx)
  have HI6 := hid (HI5.out.ext hx)
  have HE6 := hid (HE5.out.trans (hx.mono HE5.out.size))
  have HB6 := hid (HB5.out.ext hx)
  clear hI hx p5
  have hx7 := box_ext w5 aq (sizeT t) cq
  go_upto_region 9 with fail
  obtain ⟨wA, HWA⟩ : ∃ wA, wA = w5.alloc (.cells #[.slice aq (sizeT t) cq] 24) := ⟨_, rfl⟩
  have HPA : Hid (Blk wA w3.heap.size 24 #[.slice ap (sizeT t) cp]) := hid (by rw [HWA]; exact HP6.out.ext hx7)
  have HRA : Hid (Blk wA w.heap.size 24 #[.slice ao l.length cap]) := hid (by rw [HWA]; exact HB6.out.ext hx7)
  have HQA : Hid (Blk wA w5.heap.size 24 #[.slice aq (sizeT t) cq]) := hid (by rw [HWA]; exact Blk.new w5 _ _)
  have HIP : Hid (IsT wA ap t) := hid (by rw [HWA]; exact HI6.out.ext hx7)
  have HIQ : Hid (IsT wA aq t) := hid (by rw [HWA]; exact HQ6.out.ext hx7)
  have HEA : Hid (Ext w wA) := hid (by rw [HWA]; exact HE6.out.trans (hx7.mono HE6.out.size))
  have lP := HPA.out.lt
  have lR := HRA.out.lt
  have lQ := HQA.out.lt
  have fP := HPA.out.cell (i := 0) rfl
  have fR := HRA.out.cell (i := 0) rfl
  have fQ := HQA.out.cell (i := 0) rfl
  have hLT : ((sizeT t : Int) == (l.length : Int)) = true := by simp [HST.out]
  rw [← HWA]
  clear hx7 HWA
  refine wp_region_heldL (Ext wA) (by kernel_rfl) ?_
  have hS0 : Ext wA wA.drew := (Below.refl _ wA).drew
  refine wpAnyH_takeK 0 57 #[true, false, false, false, false, false, false, false, false, false, false, false, false, false, false, false, false, false, false, false, false, false, false, false, false, false, false, false, false, false, false, false, false, false, false, false, false, false, false, false, false, false, false, false, false, false, false, false, false, false, false, false, false, false, false, false, false, false] rfl (by kernel_rfl) rfl (.int .i64 0) (fun _ _ _ h => h) (Or.inl ⟨rfl, fun w' hS => ?_⟩) hS0 ?_
  · go_simp <;> with_reducible rfl
  refine wpAnyH_takeK 1 56 #[true, true, false, false, false, false, false, false, false, false, false, false, false, false, false, false, false, false, false, false, false, false, false, false, false, false, false, false, false, false, false, false, false, false, false, false, false, false, false, false, false, false, false, false, false, false, false, false, false, false, false, false, false, false, false, false, false, false] rfl (by kernel_rfl) rfl (.bool true) (fun _ _ _ h => h) (Or.inl ⟨rfl, fun w' hS => ?_⟩) hS0 ?_
  · go_simp <;> with_reducible rfl
  refine wpAnyH_takeK 2 55 #[true, true, true, false, false, false, false, false, false, false, false, false, false, false, false, false, false, false, false, false, false, false, false, false, false, false, false, false, false, false, false, false, false, false, false, false, false, false, false, false, false, false, false, false, false, false, false, false, false, false, false, false, false, false, false, false, false, false] rfl (by kernel_rfl) rfl (.bool true) (fun _ _ _ h => h) (Or.inl ⟨rfl, fun w' hS => ?_⟩) hS0 ?_
  · go_simp <;> with_reducible rfl
  refine wpAnyH_takeK 3 54 #[true, true, true, true, false, false, false, false, false, false, false, false, false, false, false, false, false, false, false, false, false, false, false, false, false, false, false, false, false, false, false, false, false, false, false, false, false, false, false, false, false, false, false, false, false, false, false, false, false, false, false, false, false, false, false, false, false, false] rfl (by kernel_rfl) rfl (.int .i64 0) (fun _ _ _ h => h) (Or.inl ⟨by go_simp, fun w' hS => ?_⟩) hS0 ?_
  · go_simp <;> with_reducible rfl
  refine wpAnyH_takeK 4 53 #[true, true, true, true, true, false, false, false, false, false, false, false, false, false, false, false, false, false, false, false, false, false, false, false, false, false, false, false, false, false, false, false, false, false, false, false, false, false, false, false, false, false, false, false, false, false, false, false, false, false, false, false, false, false, false, false, false, false] rfl (by kernel_rfl) rfl (.bool true) (fun _ _ _ h => h) (Or.inl ⟨by go_simp, fun w' hS => ?_⟩) hS0 ?_
  · go_simp <;> with_reducible rfl
  refine wpAnyH_takeK 5 52 #[true, true, true, true, true, true, false, false, false, false, false, false, false, false, false, false, false, false, false, false, false, false, false, false, false, false, false, false, false, false, false, false, false, false, false, false, false, false, false, false, false, false, false, false, false, false, false, false, false, false, false, false, false, false, false, false, false, false] rfl (by kernel_rfl) rfl (.bool true) (fun _ _ _ h => h) (Or.inl ⟨rfl, fun w' hS => ?_⟩) hS0 ?_
  · go_simp <;> with_reducible rfl
  refine wpAnyH_takeK 6 51 #[true, true, true, true, true, true, true, false, false, false, false, false, false, false, false, false, false, false, false, false, false, false, false, false, false, false, false, false, false, false, false, false, false, false, false, false, false, false, false, false, false, false, false, false, false, false, false, false, false, false, false, false, false, false, false, false, false, false] rfl (by kernel_rfl) rfl (.bool true) (fun _ _ _ h => h) (Or.inl ⟨rfl, fun w' hS => ?_⟩) hS0 ?_
  · go_simp <;> with_reducible rfl
  refine wpAnyH_takeK 7 50 #[true, true, true, true, true, true, true, true, false, false, false, false, false, false, false, false, false, false, false, false, false, false, false, false, false, false, false, false, false, false, false, false, false, false, false, false, false, false, false, false, false, false, false, false, false, false, false, false, false, false, false, false, false, false, false, false, false, false] rfl (by kernel_rfl) rfl (.int .i64 0) (fun _ _ _ h => h) (Or.inl ⟨by go_simp, fun w' hS => ?_⟩) hS0 ?_
  · go_simp <;> with_reducible rfl
  refine wpAnyH_takeK 8 49 #[true, true, true, true, true, true, true, true, true, false, false, false, false, false, false, false, false, false, false, false, false, false, false, false, false, false, false, false, false, false, false, false, false, false, false, false, false, false, false, false, false, false, false, false, false, false, false, false, false, false, false, false, false, false, false, false, false, false] rfl (by kernel_rfl) rfl (.bool true) (fun _ _ _ h => h) (Or.inl ⟨by go_simp, fun w' hS => ?_⟩) hS0 ?_
  · go_simp <;> with_reducible rfl
  refine wpAnyH_takeK 9 48 #[true, true, true, true, true, true, true, true, true, true, false, false, false, false, false, false, false, false, false, false, false, false, false, false, false, false, false, false, false, false, false, false, false, false, false, false, false, false, false, false, false, false, false, false, false, false, false, false, false, false, false, false, false, false, false, false, false, false] rfl (by kernel_rfl) rfl (.bool true) (fun _ _ _ h => h) (Or.inl ⟨rfl, fun w' hS => ?_⟩) hS0 ?_
  · go_simp <;> with_reducible rfl
  refine wpAnyH_takeK 10 47 #[true, true, true, true, true, true, true, true, true, true, true, false, false, false, false, false, false, false, false, false, false, false, false, false, false, false, false, false, false, false, false, false, false, false, false, false, false, false, false, false, false, false, false, false, false, false, false, false, false, false, false, false, false, false, false, false, false, false] rfl (by kernel_rfl) rfl (.bool true) (fun _ _ _ h => h) (Or.inl ⟨rfl, fun w' hS => ?_⟩) hS0 ?_
  · go_simp <;> with_reducible rfl
  refine wpAnyH_takeK 11 46 #[true, true, true, true, true, true, true, true, true, true, true, true, false, false, false, false, false, false, false, false, false, false, false, false, false, false, false, false, false, false, false, false, false, false, false, false, false, false, false, false, false, false, false, false, false, false, false, false, false, false, false, false, false, false, false, false, false, false] rfl (by kernel_rfl) rfl (.string S) (fun _ _ _ h => h) (Or.inl ⟨by go_simp, fun w' hS => ?_⟩) hS0 ?_
  · go_simp <;> with_reducible rfl
  refine wpAnyH_takeK 12 45 #[true, true, true, true, true, true, true, true, true, true, true, true, true, false, false, false, false, false, false, false, false, false, false, false, false, false, false, false, false, false, false, false, false, false, false, false, false, false, false, false, false, false, false, false, false, false, false, false, false, false, false, false, false, false, false, false, false, false] rfl (by kernel_rfl) rfl (.string S) (fun _ _ _ h => h) (Or.inl ⟨by go_simp, fun w' hS => ?_⟩) hS0 ?_
  · go_simp <;> with_reducible rfl
  refine wpAnyH_takeK 13 44 #[true, true, true, true, true, true, true, true, true, true, true, true, true, true, false, false, false, false, false, false, false, false, false, false, false, false, false, false, false, false, false, false, false, false, false, false, false, false, false, false, false, false, false, false, false, false, false, false, false, false, false, false, false, false, false, false, false, false] rfl (by kernel_rfl) rfl (.bool true) (fun _ _ _ h => h) (Or.inl ⟨by go_simp, fun w' hS => ?_⟩) hS0 ?_
  · go_simp <;> with_reducible rfl
  refine wpAnyH_takeK 14 43 #[true, true, true, true, true, true, true, true, true, true, true, true, true, true, true, false, false, false, false, false, false, false, false, false, false, false, false, false, false, false, false, false, false, false, false, false, false, false, false, false, false, false, false, false, false, false, false, false, false, false, false, false, false, false, false, false, false, false] rfl (by kernel_rfl) rfl (.bool true) (fun _ _ _ h => h) (Or.inl ⟨rfl, fun w' hS => ?_⟩) hS0 ?_
  · go_simp <;> with_reducible rfl
  refine wpAnyH_takeK 15 42 #[true, true, true, true, true, true, true, true, true, true, true, true, true, true, true, true, false, false, false, false, false, false, false, false, false, false, false, false, false, false, false, false, false, false, false, false, false, false, false, false, false, false, false, false, false, false, false, false, false, false, false, false, false, false, false, false, false, false] rfl (by kernel_rfl) rfl (.bool true) (fun _ _ _ h => h) (Or.inl ⟨rfl, fun w' hS => ?_⟩) hS0 ?_
  · go_simp <;> with_reducible rfl
  refine wpAnyH_takeK 16 41 #[true, true, true, true, true, true, true, true, true, true, true, true, true, true, true, true, true, false, false, false, false, false, false, false, false, false, false, false, false, false, false, false, false, false, false, false, false, false, false, false, false, false, false, false, false, false, false, false, false, false, false, false, false, false, false, false, false, false] rfl (by kernel_rfl) rfl (.agg #[.slice ap (sizeT t) cp]) (fun _ _ _ h => h) (Or.inl ⟨by go_simp, fun w' hS => ?_⟩) hS0 ?_
  · have c1 := (hS.cell (p := ⟨w3.heap.size, 0, none⟩) lP).trans fP; go_simp <;> with_reducible rfl
  refine wpAnyH_takeK 18 40 #[true, true, true, true, true, true, true, true, true, true, true, true, true, true, true, true, true, false, true, false, false, false, false, false, false, false, false, false, false, false, false, false, false, false, false, false, false, false, false, false, false, false, false, false, false, false, false, false, false, false, false, false, false, false, false, false, false, false] rfl (by kernel_rfl) rfl (.agg #[.slice aq (sizeT t) cq]) (fun _ _ _ h => h) (Or.inl ⟨by go_simp, fun w' hS => ?_⟩) hS0 ?_
  · have c1 := (hS.cell (p := ⟨w5.heap.size, 0, none⟩) lQ).trans fQ; go_simp <;> with_reducible rfl
  refine wpAnyH_one 17 39 #[true, true, true, true, true, true, true, true, true, true, true, true, true, true, true, true, true, true, true, false, false, false, false, false, false, false, false, false, false, false, false, false, false, false, false, false, false, false, false, false, false, false, false, false, false, false, false, false, false, false, false, false, false, false, false, false, false, false] rfl (by kernel_rfl) rfl ?_
  go_wp2_with fail
  refine ((HIP.out.ext hS0).plain cp).mono ?_
  rintro e v1 ⟨a1, d1, rfl, hN1, hx⟩
  have HN1 := hid hN1
  clear hN1
  have hS1 : Ext wA v1 := hS0.trans (hx.mono hS0.size)
  clear hx
  go_wp2_with fail
  refine ⟨hS1, ?_⟩
  refine wpAnyH_one 19 38 #[true, true, true, true, true, true, true, true, true, true, true, true, true, true, true, true, true, true, true, true, false, false, false, false, false, false, false, false, false, false, false, false, false, false, false, false, false, false, false, false, false, false, false, false, false, false, false, false, false, false, false, false, false, false, false, false, false, false] rfl (by kernel_rfl) rfl ?_
  go_wp2_with fail
  refine ((HIQ.out.ext hS1).plain cq).mono ?_
  rintro e v2 ⟨a2, d2, rfl, hN2, hx⟩
  have HN2 := hid hN2
  have HN1' := hid (HN1.out.ext hx)
  clear hN2
  have hS2 : Ext wA v2 := hS1.trans (hx.mono hS1.size)
  clear hx
  go_wp2_with fail
  refine ⟨hS2, ?_⟩
  refine wpAnyH_one 20 37 #[true, true, true, true, true, true, true, true, true, true, true, true, true, true, true, true, true, true, true, true, true, false, false, false, false, false, false, false, false, false, false, false, false, false, false, false, false, false, false, false, false, false, false, false, false, false, false, false, false, false, false, false, false, false, false, false, false, false] rfl (by kernel_rfl) rfl ?_
  go_wp2_with fail
  refine (nodes_call HN1'.out HN2.out).mono ?_
  rintro e v3 ⟨rfl, hx⟩
  have hS3 : Ext wA v3 := hS2.trans (hx.mono hS2.size)
  clear hx
  go_wp2_with fail
  refine ⟨hS3, ?_⟩
  refine wpAnyH_takeK 21 36 #[true, true, true, true, true, true, true, true, true, true, true, true, true, true, true, true, true, true, true, true, true, true, false, false, false, false, false, false, false, false, false, false, false, false, false, false, false, false, false, false, false, false, false, false, false, false, false, false, false, false, false, false, false, false, false, false, false, false] rfl (by kernel_rfl) rfl (.bool true) (fun _ _ _ h => h) (Or.inl ⟨rfl, fun w' hS => ?_⟩) hS3 ?_
  · go_simp <;> with_reducible rfl
  refine wpAnyH_takeK 22 35 #[true, true, true, true, true, true, true, true, true, true, true, true, true, true, true, true, true, true, true, true, true, true, true, false, false, false, false, false, false, false, false, false, false, false, false, false, false, false, false, false, false, false, false, false, false, false, false, false, false, false, false, false, false, false, false, false, false, false] rfl (by kernel_rfl) rfl (.bool true) (fun _ _ _ h => h) (Or.inl ⟨rfl, fun w' hS => ?_⟩) hS3 ?_
  · go_simp <;> with_reducible rfl
  refine wpAnyH_takeK 23 34 #[true, true, true, true, true, true, true, true, true, true, true, true, true, true, true, true, true, true, true, true, true, true, true, true, false, false, false, false, false, false, false, false, false, false, false, false, false, false, false, false, false, false, false, false, false, false, false, false, false, false, false, false, false, false, false, false, false, false] rfl (by kernel_rfl) rfl (.pointer (some ⟨w3.heap.size, 0, none⟩)) (fun _ _ _ h => h) (Or.inl ⟨by go_simp, fun w' hS => ?_⟩) hS3 ?_
  · go_simp <;> with_reducible rfl
  refine wpAnyH_takeK 24 33 #[true, true, true, true, true, true, true, true, true, true, true, true, true, true, true, true, true, true, true, true, true, true, true, true, true, false, false, false, false, false, false, false, false, false, false, false, false, false, false, false, false, false, false, false, false, false, false, false, false, false, false, false, false, false, false, false, false, false] rfl (by kernel_rfl) rfl (.slice ap (sizeT t) cp) (fun _ _ _ h => h) (Or.inl ⟨by go_simp, fun w' hS => ?_⟩) hS3 ?_
  · have c1 := (hS.cell (p := ⟨w3.heap.size, 0, none⟩) lP).trans fP; go_simp <;> with_reducible rfl
  refine wpAnyH_takeK 25 32 #[true, true, true, true, true, true, true, true, true, true, true, true, true, true, true, true, true, true, true, true, true, true, true, true, true, true, false, false, false, false, false, false, false, false, false, false, false, false, false, false, false, false, false, false, false, false, false, false, false, false, false, false, false, false, false, false, false, false] rfl (by kernel_rfl) rfl (.int .i64 (sizeT t)) (fun _ _ _ h => h) (Or.inl ⟨by go_simp, fun w' hS => ?_⟩) hS3 ?_
  · go_simp <;> with_reducible rfl
  refine wpAnyH_takeK 26 31 #[true, true, true, true, true, true, true, true, true, true, true, true, true, true, true, true, true, true, true, true, true, true, true, true, true, true, true, false, false, false, false, false, false, false, false, false, false, false, false, false, false, false, false, false, false, false, false, false, false, false, false, false, false, false, false, false, false, false] rfl (by kernel_rfl) rfl (.pointer (some ⟨w.heap.size, 0, none⟩)) (fun _ _ _ h => h) (Or.inl ⟨by go_simp, fun w' hS => ?_⟩) hS3 ?_
  · go_simp <;> with_reducible rfl
  refine wpAnyH_takeK 27 30 #[true, true, true, true, true, true, true, true, true, true, true, true, true, true, true, true, true, true, true, true, true, true, true, true, true, true, true, true, false, false, false, false, false, false, false, false, false, false, false, false, false, false, false, false, false, false, false, false, false, false, false, false, false, false, false, false, false, false] rfl (by kernel_rfl) rfl (.slice ao l.length cap) (fun _ _ _ h => h) (Or.inl ⟨by go_simp, fun w' hS => ?_⟩) hS3 ?_
  · have c1 := (hS.cell (p := ⟨w.heap.size, 0, none⟩) lR).trans fR; go_simp <;> with_reducible rfl
  refine wpAnyH_takeK 28 29 #[true, true, true, true, true, true, true, true, true, true, true, true, true, true, true, true, true, true, true, true, true, true, true, true, true, true, true, true, true, false, false, false, false, false, false, false, false, false, false, false, false, false, false, false, false, false, false, false, false, false, false, false, false, false, false, false, false, false] rfl (by kernel_rfl) rfl (.int .i64 l.length) (fun _ _ _ h => h) (Or.inl ⟨by go_simp, fun w' hS => ?_⟩) hS3 ?_
  · go_simp <;> with_reducible rfl
  refine wpAnyH_takeK 29 28 #[true, true, true, true, true, true, true, true, true, true, true, true, true, true, true, true, true, true, true, true, true, true, true, true, true, true, true, true, true, true, false, false, false, false, false, false, false, false, false, false, false, false, false, false, false, false, false, false, false, false, false, false, false, false, false, false, false, false] rfl (by kernel_rfl) rfl (.bool true) (fun _ _ _ h => h) (Or.inl ⟨by go_simp, fun w' hS => ?_⟩) hS3 ?_
  · go_simp <;> with_reducible rfl
  refine wpAnyH_takeK 30 27 #[true, true, true, true, true, true, true, true, true, true, true, true, true, true, true, true, true, true, true, true, true, true, true, true, true, true, true, true, true, true, true, false, false, false, false, false, false, false, false, false, false, false, false, false, false, false, false, false, false, false, false, false, false, false, false, false, false, false] rfl (by kernel_rfl) rfl (.bool true) (fun _ _ _ h => h) (Or.inl ⟨rfl, fun w' hS => ?_⟩) hS3 ?_
  · go_simp <;> with_reducible rfl
  refine wpAnyH_takeK 31 26 #[true, true, true, true, true, true, true, true, true, true, true, true, true, true, true, true, true, true, true, true, true, true, true, true, true, true, true, true, true, true, true, true, false, false, false, false, false, false, false, false, false, false, false, false, false, false, false, false, false, false, false, false, false, false, false, false, false, false] rfl (by kernel_rfl) rfl (.bool true) (fun _ _ _ h => h) (Or.inl ⟨rfl, fun w' hS => ?_⟩) hS3 ?_
  · go_simp <;> with_reducible rfl
  refine wpAnyH_takeK 32 25 #[true, true, true, true, true, true, true, true, true, true, true, true, true, true, true, true, true, true, true, true, true, true, true, true, true, true, true, true, true, true, true, true, true, false, false, false, false, false, false, false, false, false, false, false, false, false, false, false, false, false, false, false, false, false, false, false, false, false] rfl (by kernel_rfl) rfl (.agg #[.slice ap (sizeT t) cp]) (fun _ _ _ h => h) (Or.inl ⟨by go_simp, fun w' hS => ?_⟩) hS3 ?_
  · have c1 := (hS.cell (p := ⟨w3.heap.size, 0, none⟩) lP).trans fP; go_simp <;> with_reducible rfl
  refine wpAnyH_takeK 33 24 #[true, true, true, true, true, true, true, true, true, true, true, true, true, true, true, true, true, true, true, true, true, true, true, true, true, true, true, true, true, true, true, true, true, true, false, false, false, false, false, false, false, false, false, false, false, false, false, false, false, false, false, false, false, false, false, false, false, false] rfl (by kernel_rfl) rfl (.slice aw ws.length cw) (fun _ _ _ h => h) (Or.inl ⟨by go_simp, fun w' hS => ?_⟩) hS3 ?_
  · go_simp <;> with_reducible rfl
  refine wpAnyH_takeK 35 23 #[true, true, true, true, true, true, true, true, true, true, true, true, true, true, true, true, true, true, true, true, true, true, true, true, true, true, true, true, true, true, true, true, true, true, false, true, false, false, false, false, false, false, false, false, false, false, false, false, false, false, false, false, false, false, false, false, false, false] rfl (by kernel_rfl) rfl (.agg #[.slice ao l.length cap]) (fun _ _ _ h => h) (Or.inl ⟨by go_simp, fun w' hS => ?_⟩) hS3 ?_
  · have c1 := (hS.cell (p := ⟨w.heap.size, 0, none⟩) lR).trans fR; go_simp <;> with_reducible rfl
  refine wpAnyH_takeK 36 22 #[true, true, true, true, true, true, true, true, true, true, true, true, true, true, true, true, true, true, true, true, true, true, true, true, true, true, true, true, true, true, true, true, true, true, false, true, true, false, false, false, false, false, false, false, false, false, false, false, false, false, false, false, false, false, false, false, false, false] rfl (by kernel_rfl) rfl (.slice aw ws.length cw) (fun _ _ _ h => h) (Or.inl ⟨by go_simp, fun w' hS => ?_⟩) hS3 ?_
  · go_simp <;> with_reducible rfl
  refine wpAnyH_one 34 21 #[true, true, true, true, true, true, true, true, true, true, true, true, true, true, true, true, true, true, true, true, true, true, true, true, true, true, true, true, true, true, true, true, true, true, true, true, true, false, false, false, false, false, false, false, false, false, false, false, false, false, false, false, false, false, false, false, false, false] rfl (by kernel_rfl) rfl ?_
  go_wp2_with fail
  refine ((HIP.out.ext hS3).match_ cp (HS.out.ext (HEA.out.trans (hS3.mono HEA.out.size))) hcw (HT.out.ext (HEA.out.trans (hS3.mono HEA.out.size)))).mono ?_
  rintro e v4 ⟨rfl, hx⟩
  rw [HMM.out]
  have hS4 : Ext wA v4 := hS3.trans (hx.mono hS3.size)
  clear hx
  go_wp2_with fail
  refine ⟨hS4, ?_⟩
  refine wpAnyH_one 37 20 #[true, true, true, true, true, true, true, true, true, true, true, true, true, true, true, true, true, true, true, true, true, true, true, true, true, true, true, true, true, true, true, true, true, true, true, true, true, true, false, false, false, false, false, false, false, false, false, false, false, false, false, false, false, false, false, false, false, false] rfl (by kernel_rfl) rfl ?_
  go_wp2_with fail
  refine (match_any HOK.out.2.1 (HV.out.ext (HEA.out.trans (hS4.mono HEA.out.size))) HOK.out.2.2 cap (by omega) (HS.out.ext (HEA.out.trans (hS4.mono HEA.out.size))) hcw (HT.out.ext (HEA.out.trans (hS4.mono HEA.out.size)))).mono ?_
  rintro e v5 ⟨rfl, hx⟩
  rw [HTT.out, HMM.out]
  have hS5 : Ext wA v5 := hS4.trans (hx.mono hS4.size)
  clear hx
  go_wp2_with fail
  refine ⟨hS5, ?_⟩
  refine wpAnyH_takeK 38 19 #[true, true, true, true, true, true, true, true, true, true, true, true, true, true, true, true, true, true, true, true, true, true, true, true, true, true, true, true, true, true, true, true, true, true, true, true, true, true, true, false, false, false, false, false, false, false, false, false, false, false, false, false, false, false, false, false, false, false] rfl (by kernel_rfl) rfl (.bool true) (fun _ _ _ h => h) (Or.inl ⟨by go_simp, fun w' hS => ?_⟩) hS5 ?_
  · go_simp <;> with_reducible rfl
  refine wpAnyH_takeK 39 18 #[true, true, true, true, true, true, true, true, true, true, true, true, true, true, true, true, true, true, true, true, true, true, true, true, true, true, true, true, true, true, true, true, true, true, true, true, true, true, true, true, false, false, false, false, false, false, false, false, false, false, false, false, false, false, false, false, false, false] rfl (by kernel_rfl) rfl (.bool true) (fun _ _ _ h => h) (Or.inl ⟨rfl, fun w' hS => ?_⟩) hS5 ?_
  · go_simp <;> with_reducible rfl
  refine wpAnyH_takeK 40 17 #[true, true, true, true, true, true, true, true, true, true, true, true, true, true, true, true, true, true, true, true, true, true, true, true, true, true, true, true, true, true, true, true, true, true, true, true, true, true, true, true, true, false, false, false, false, false, false, false, false, false, false, false, false, false, false, false, false, false] rfl (by kernel_rfl) rfl (.bool true) (fun _ _ _ h => h) (Or.inl ⟨rfl, fun w' hS => ?_⟩) hS5 ?_
  · go_simp <;> with_reducible rfl
  refine wpAnyH_takeK 41 16 #[true, true, true, true, true, true, true, true, true, true, true, true, true, true, true, true, true, true, true, true, true, true, true, true, true, true, true, true, true, true, true, true, true, true, true, true, true, true, true, true, true, true, false, false, false, false, false, false, false, false, false, false, false, false, false, false, false, false] rfl (by kernel_rfl) rfl (.agg #[.slice ap (sizeT t) cp]) (fun _ _ _ h => h) (Or.inl ⟨by go_simp, fun w' hS => ?_⟩) hS5 ?_
  · have c1 := (hS.cell (p := ⟨w3.heap.size, 0, none⟩) lP).trans fP; go_simp <;> with_reducible rfl
  refine wpAnyH_takeK 43 15 #[true, true, true, true, true, true, true, true, true, true, true, true, true, true, true, true, true, true, true, true, true, true, true, true, true, true, true, true, true, true, true, true, true, true, true, true, true, true, true, true, true, true, false, true, false, false, false, false, false, false, false, false, false, false, false, false, false, false] rfl (by kernel_rfl) rfl (.agg #[.slice ao l.length cap]) (fun _ _ _ h => h) (Or.inl ⟨by go_simp, fun w' hS => ?_⟩) hS5 ?_
  · have c1 := (hS.cell (p := ⟨w.heap.size, 0, none⟩) lR).trans fR; go_simp <;> with_reducible rfl
  refine wpAnyH_one 42 14 #[true, true, true, true, true, true, true, true, true, true, true, true, true, true, true, true, true, true, true, true, true, true, true, true, true, true, true, true, true, true, true, true, true, true, true, true, true, true, true, true, true, true, true, true, false, false, false, false, false, false, false, false, false, false, false, false, false, false] rfl (by kernel_rfl) rfl ?_
  go_wp2_with fail
  refine ((HIP.out.ext hS5).nullable cp).mono ?_
  rintro e v6 ⟨rfl, hx⟩
  rw [HUU.out]
  have hS6 : Ext wA v6 := hS5.trans (hx.mono hS5.size)
  clear hx
  go_wp2_with fail
  refine ⟨hS6, ?_⟩
  refine wpAnyH_one 44 13 #[true, true, true, true, true, true, true, true, true, true, true, true, true, true, true, true, true, true, true, true, true, true, true, true, true, true, true, true, true, true, true, true, true, true, true, true, true, true, true, true, true, true, true, true, true, false, false, false, false, false, false, false, false, false, false, false, false, false] rfl (by kernel_rfl) rfl ?_
  go_wp2_with fail
  refine (nullable_any HOK.out.2.1 (HV.out.ext (HEA.out.trans (hS6.mono HEA.out.size))) HOK.out.2.2 cap (by omega)).mono ?_
  rintro e v7 ⟨rfl, hx⟩
  rw [HTT.out, HUU.out]
  have hS7 : Ext wA v7 := hS6.trans (hx.mono hS6.size)
  clear hx
  go_wp2_with fail
  refine ⟨hS7, ?_⟩
  refine wpAnyH_takeK 45 12 #[true, true, true, true, true, true, true, true, true, true, true, true, true, true, true, true, true, true, true, true, true, true, true, true, true, true, true, true, true, true, true, true, true, true, true, true, true, true, true, true, true, true, true, true, true, true, false, false, false, false, false, false, false, false, false, false, false, false] rfl (by kernel_rfl) rfl (.bool true) (fun _ _ _ h => h) (Or.inl ⟨by go_simp, fun w' hS => ?_⟩) hS7 ?_
  · go_simp <;> with_reducible rfl
  refine wpAnyH_takeK 46 11 #[true, true, true, true, true, true, true, true, true, true, true, true, true, true, true, true, true, true, true, true, true, true, true, true, true, true, true, true, true, true, true, true, true, true, true, true, true, true, true, true, true, true, true, true, true, true, true, false, false, false, false, false, false, false, false, false, false, false] rfl (by kernel_rfl) rfl (.bool true) (fun _ _ _ h => h) (Or.inl ⟨rfl, fun w' hS => ?_⟩) hS7 ?_
  · go_simp <;> with_reducible rfl
  refine wpAnyH_takeK 47 10 #[true, true, true, true, true, true, true, true, true, true, true, true, true, true, true, true, true, true, true, true, true, true, true, true, true, true, true, true, true, true, true, true, true, true, true, true, true, true, true, true, true, true, true, true, true, true, true, true, false, false, false, false, false, false, false, false, false, false] rfl (by kernel_rfl) rfl (.bool true) (fun _ _ _ h => h) (Or.inl ⟨rfl, fun w' hS => ?_⟩) hS7 ?_
  · go_simp <;> with_reducible rfl
  refine wpAnyH_takeK 48 9 #[true, true, true, true, true, true, true, true, true, true, true, true, true, true, true, true, true, true, true, true, true, true, true, true, true, true, true, true, true, true, true, true, true, true, true, true, true, true, true, true, true, true, true, true, true, true, true, true, true, false, false, false, false, false, false, false, false, false] rfl (by kernel_rfl) rfl (.agg #[.slice ap (sizeT t) cp]) (fun _ _ _ h => h) (Or.inl ⟨by go_simp, fun w' hS => ?_⟩) hS7 ?_
  · have c1 := (hS.cell (p := ⟨w3.heap.size, 0, none⟩) lP).trans fP; go_simp <;> with_reducible rfl
  refine wpAnyH_takeK 50 8 #[true, true, true, true, true, true, true, true, true, true, true, true, true, true, true, true, true, true, true, true, true, true, true, true, true, true, true, true, true, true, true, true, true, true, true, true, true, true, true, true, true, true, true, true, true, true, true, true, true, false, true, false, false, false, false, false, false, false] rfl (by kernel_rfl) rfl (.agg #[.slice ao l.length cap]) (fun _ _ _ h => h) (Or.inl ⟨by go_simp, fun w' hS => ?_⟩) hS7 ?_
  · have c1 := (hS.cell (p := ⟨w.heap.size, 0, none⟩) lR).trans fR; go_simp <;> with_reducible rfl
  refine wpAnyH_one 49 7 #[true, true, true, true, true, true, true, true, true, true, true, true, true, true, true, true, true, true, true, true, true, true, true, true, true, true, true, true, true, true, true, true, true, true, true, true, true, true, true, true, true, true, true, true, true, true, true, true, true, true, true, false, false, false, false, false, false, false] rfl (by kernel_rfl) rfl ?_
  go_wp2_with fail
  refine ((HIP.out.ext hS7).symbols cp).mono ?_
  rintro e v8 ⟨y1, rfl, hO1, hx⟩
  have HO1 := hid hO1
  clear hO1
  have hS8 : Ext wA v8 := hS7.trans (hx.mono hS7.size)
  clear hx
  go_wp2_with fail
  refine ⟨hS8, ?_⟩
  refine wpAnyH_one 51 6 #[true, true, true, true, true, true, true, true, true, true, true, true, true, true, true, true, true, true, true, true, true, true, true, true, true, true, true, true, true, true, true, true, true, true, true, true, true, true, true, true, true, true, true, true, true, true, true, true, true, true, true, true, false, false, false, false, false, false] rfl (by kernel_rfl) rfl ?_
  go_wp2_with fail
  refine (symbols_any HOK.out.2.1 (HV.out.ext (HEA.out.trans (hS8.mono HEA.out.size))) HOK.out.2.2 cap (by omega)).mono ?_
  rintro e v9 ⟨y2, rfl, hO2, hx⟩
  have hO1' := HO1.out.ext hx
  have hsm1 : ∀ n, n ∈ post t → n.sym.size ≤ 1000 := fun n hn => by have := (good_post HOKT.out n hn); omega
  have hsm2 : ∀ n, n ∈ l → n.sym.size ≤ 1000 := fun n hn => by have := HNS.out.2 n hn; omega
  have hln1 : (srt (symsB (post t))).length ≤ 1000000 := Nat.le_trans (srt_len _) (by have := symsB_len (post t) (post t).length; rw [List.take_length, post_len] at this; omega)
  have hln2 : (srt (symsB l)).length ≤ 1000000 := Nat.le_trans (srt_len _) (by have := symsB_len l l.length; rw [List.take_length] at this; omega)
  obtain ⟨us1, z1, e1, hu1, rfl, hZ1⟩ := strsV_of hO1' hln1 (symsB_small hsm1)
  obtain ⟨us2, z2, e2, hu2, rfl, hZ2⟩ := strsV_of hO2 hln2 (symsB_small hsm2)
  have hsame : us1 = us2 := by rw [hu1, hu2, ← HTT.out, srt_same HOK.out.2.1]
  have HZ1 := hid hZ1
  have HZ2 := hid hZ2
  have HSM := hid hsame
  clear hO1' hO2 hZ1 hZ2 hsame hsm1 hsm2 hln1 hln2 hu1 hu2
  have hS9 : Ext wA v9 := hS8.trans (hx.mono hS8.size)
  clear hx
  go_wp2_with fail
  refine ⟨hS9, ?_⟩
  refine wpAnyH_one 52 5 #[true, true, true, true, true, true, true, true, true, true, true, true, true, true, true, true, true, true, true, true, true, true, true, true, true, true, true, true, true, true, true, true, true, true, true, true, true, true, true, true, true, true, true, true, true, true, true, true, true, true, true, true, true, false, false, false, false, false] rfl (by kernel_rfl) rfl ?_
  go_wp2_with fail
  refine (texts_any HZ1.out HZ2.out).mono ?_
  rintro e v10 ⟨rfl, hx⟩
  rw [show SameT us1 us2 = true from decide_eq_true HSM.out]
  have hS10 : Ext wA v10 := hS9.trans (hx.mono hS9.size)
  clear hx
  go_wp2_with fail
  refine ⟨hS10, ?_⟩
  refine wpAnyH_takeK 53 4 #[true, true, true, true, true, true, true, true, true, true, true, true, true, true, true, true, true, true, true, true, true, true, true, true, true, true, true, true, true, true, true, true, true, true, true, true, true, true, true, true, true, true, true, true, true, true, true, true, true, true, true, true, true, true, false, false, false, false] rfl (by kernel_rfl) rfl (.bool true) (fun _ _ _ h => h) (Or.inl ⟨rfl, fun w' hS => ?_⟩) hS10 ?_
  · go_simp <;> with_reducible rfl
  refine wpAnyH_takeK 54 3 #[true, true, true, true, true, true, true, true, true, true, true, true, true, true, true, true, true, true, true, true, true, true, true, true, true, true, true, true, true, true, true, true, true, true, true, true, true, true, true, true, true, true, true, true, true, true, true, true, true, true, true, true, true, true, true, false, false, false] rfl (by kernel_rfl) rfl (.bool true) (fun _ _ _ h => h) (Or.inl ⟨rfl, fun w' hS => ?_⟩) hS10 ?_
  · go_simp <;> with_reducible rfl
  refine wpAnyH_one 55 2 #[true, true, true, true, true, true, true, true, true, true, true, true, true, true, true, true, true, true, true, true, true, true, true, true, true, true, true, true, true, true, true, true, true, true, true, true, true, true, true, true, true, true, true, true, true, true, true, true, true, true, true, true, true, true, true, true, false, false] rfl (by kernel_rfl) rfl ?_
  go_wp2_with fail
  refine (awake_any (HT.out.ext (HEA.out.trans (hS10.mono HEA.out.size)))).mono ?_
  rintro e v11 ⟨rfl, hx⟩
  have hS11 : Ext wA v11 := hS10.trans (hx.mono hS10.size)
  clear hx
  go_wp2_with fail
  refine ⟨hS11, ?_⟩
  refine wpAnyH_takeK 56 1 #[true, true, true, true, true, true, true, true, true, true, true, true, true, true, true, true, true, true, true, true, true, true, true, true, true, true, true, true, true, true, true, true, true, true, true, true, true, true, true, true, true, true, true, true, true, true, true, true, true, true, true, true, true, true, true, true, true, false] rfl (by kernel_rfl) rfl (.bool true) (fun _ _ _ h => h) (Or.inl ⟨rfl, fun w' hS => ?_⟩) hS11 ?_
  · go_simp <;> with_reducible rfl
  refine wpAnyH_one 57 0 #[true, true, true, true, true, true, true, true, true, true, true, true, true, true, true, true, true, true, true, true, true, true, true, true, true, true, true, true, true, true, true, true, true, true, true, true, true, true, true, true, true, true, true, true, true, true, true, true, true, true, true, true, true, true, true, true, true, true] rfl (by kernel_rfl) rfl ?_
  go_wp2_with fail
  refine ⟨hS11, ?_⟩
  refine wpAnyH_end (P := Tryd.prog) (by kernel_rfl) ?_
  go_wp2_with fail
  go_ret
  exact ⟨rfl, HEA.out.trans (hS11.mono HEA.out.size)⟩


theorem back_any {l : List Nd} {w : World} {ao : Option Addr} (hV : NodesV w ao l) (cap : Nat) {aw : Option Addr} {cw : Nat} {ws : List ByteArray} (hS : StrsV w aw cw ws) (hcw : ws.length ≤ cw) (hT : TabW w) :
    Calls Tryd.prog 4 #[.agg #[.slice ao l.length cap], .slice aw ws.length cw] w (TruePost w) := by
  by_cases h1 : SmallL l
  · by_cases h2 : ws.length ≤ 5
    · by_cases h3 : l.length ≤ 1024 ∧ Rx.Form l ∧ NamesOk l
      · exact back_ok hV cap hS hcw hT h1 h2 h3
      · exact back_none hV cap hS hcw hT h1 h2 h3
    · exact back_big2 hV cap hS hcw hT h1 (by omega)
  · exact back_big1 hV cap hS hcw hT h1

end Go.Proofs.YtngpjagpeblbjaaDoor
