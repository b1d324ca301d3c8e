/-
  The chapter's example: its text is read as its nodes; what it matches. Walk of awake.
-/
import Derived.Test.YtngpjagpeblbjaaDoorZR13
import Derived.Test.YtngpjagpeblbjaaDoorZW32
namespace Go.Rx

def ba (x : List UInt8) : ByteArray := ⟨x.toArray⟩
def t0 : RT ByteArray := .cat (.cat (.sym 0 (ba [97])) (.star (.alt (.sym 0 (ba [98])) (.sym 0 (ba [99]))))) (.alt (.sym 0 (ba [100])) .empty)
def s0 : List UInt8 := [97, 44, 32, 40, 98, 32, 124, 32, 99, 41, 42, 44, 32, 100, 63]

theorem word_one {c : UInt8} {r q : List UInt8} (h : sk r = c :: q) (hc : nmB [c] = true) (hq : ∀ d p, q = d :: p → isIn d.toNat = false) (n : Nat) : AtomD (n + 1) r [nd2 (ba [c])] q :=
  .inr (.inr (.inr ⟨[c], ⟨h, hc, hq⟩, rfl⟩))
theorem item_one {c : UInt8} {r q : List UInt8} (h : sk r = c :: q) (hc : nmB [c] = true) (hq : ∀ d p, q = d :: p → isIn d.toNat = false) (n : Nat) (h1 : (sk q).head? ≠ some 42) (h2 : (sk q).head? ≠ some 43) (h3 : (sk q).head? ≠ some 63) : ItemOf (AtomD (n + 1)) r [nd2 (ba [c])] (sk q) :=
  ⟨_, _, word_one h hc hq n, .done h1 h2 h3⟩
theorem seq_one {P : Part} {r q : List UInt8} {l : List Nd} (h : ItemOf P r l q) (hq : (sk q).head? ≠ some 44) (hl : l.length ≤ 1024) : SeqOf P r l (sk q) := ⟨[l], .last h hq, rfl, hl⟩

theorem reads_t0 : ExprOf (AtomD 2) s0 (post t0) [] := by
  have hb : SeqOf (AtomD 1) [98, 32, 124, 32, 99, 41, 42, 44, 32, 100, 63] [nd2 (ba [98])] [124, 32, 99, 41, 42, 44, 32, 100, 63] :=
    seq_one (item_one (c := 98) (q := [32, 124, 32, 99, 41, 42, 44, 32, 100, 63]) rfl rfl (fun d p e => by cases e; rfl) 0 (by decide) (by decide) (by decide)) (by decide) (by decide)
  have hc : SeqOf (AtomD 1) [32, 99, 41, 42, 44, 32, 100, 63] [nd2 (ba [99])] [41, 42, 44, 32, 100, 63] :=
    seq_one (item_one (c := 99) (q := [41, 42, 44, 32, 100, 63]) rfl rfl (fun d p e => by cases e; rfl) 0 (by decide) (by decide) (by decide)) (by decide) (by decide)
  have halt : ExprOf (AtomD 1) [98, 32, 124, 32, 99, 41, 42, 44, 32, 100, 63] (two 4 [nd2 (ba [98])] [nd2 (ba [99])]) [41, 42, 44, 32, 100, 63] :=
    ⟨[[nd2 (ba [98])], [nd2 (ba [99])]], .more hb (q' := [32, 99, 41, 42, 44, 32, 100, 63]) rfl (.last hc (by decide)), rfl, by decide⟩
  have hstar : ItemOf (AtomD 2) [32, 40, 98, 32, 124, 32, 99, 41, 42, 44, 32, 100, 63] (manyL (two 4 [nd2 (ba [98])] [nd2 (ba [99])])) [44, 32, 100, 63] :=
    ⟨_, [42, 44, 32, 100, 63], .inr (.inr (.inl ⟨[98, 32, 124, 32, 99, 41, 42, 44, 32, 100, 63], [41, 42, 44, 32, 100, 63], rfl, by decide, halt, rfl⟩)), .star (q := [44, 32, 100, 63]) rfl (by decide) (.done (r := [44, 32, 100, 63]) (by decide) (by decide) (by decide))⟩
  have ha : ItemOf (AtomD 2) s0 [nd2 (ba [97])] [44, 32, 40, 98, 32, 124, 32, 99, 41, 42, 44, 32, 100, 63] :=
    item_one (c := 97) (q := [44, 32, 40, 98, 32, 124, 32, 99, 41, 42, 44, 32, 100, 63]) rfl rfl (fun d p e => by cases e; rfl) 1 (by decide) (by decide) (by decide)
  have hd : ItemOf (AtomD 2) [32, 100, 63] (two 4 [nd2 (ba [100])] [nd1]) [] :=
    ⟨_, [63], word_one (c := 100) (q := [63]) rfl rfl (fun d p e => by cases e; rfl) 1, .opt (q := []) rfl (by decide) (.done (r := []) (by decide) (by decide) (by decide))⟩
  have hseq : SeqOf (AtomD 2) s0 (post t0) [] :=
    ⟨[[nd2 (ba [97])], manyL (two 4 [nd2 (ba [98])] [nd2 (ba [99])]), two 4 [nd2 (ba [100])] [nd1]], .more ha (q' := [32, 40, 98, 32, 124, 32, 99, 41, 42, 44, 32, 100, 63]) rfl (.more hstar (q' := [32, 100, 63]) rfl (.last hd (by decide))), rfl, by rw [post_len]; decide⟩
  exact ⟨[post t0], .last hseq (by decide), rfl, by rw [post_len]; decide⟩

theorem ok_t0 : okT t0 := ⟨⟨rfl, rfl, rfl⟩, rfl, trivial⟩
theorem txt_t0 : txt t0 = [97, 44, 40, 98, 124, 99, 41, 42, 44, 40, 100, 124, 40, 41, 41] := by rfl
theorem match_t0_a : matchT t0 [ba [97]] = true := by simp [t0, matchT, starB, List.range_succ]
theorem match_t0_abcd : matchT t0 [ba [97], ba [98], ba [99], ba [100]] = true := by simp [t0, matchT, starB, List.range_succ]
theorem match_t0_b : matchT t0 [ba [98]] = false := by
  have h : ¬ ba [98] = ba [97] := by decide
  simp [t0, matchT, starB, List.range_succ, h]

end Go.Rx
namespace Go.Proofs.YtngpjagpeblbjaaDoor
open Go.RowKit Go.Spy Go.Rx

theorem names_of_post {t : RT ByteArray} (h : okT t) : NamesOk (post t) := fun i n hn ho => by
  rw [nm_eq]; exact names_post h n (List.mem_of_getElem? hn) ho

def strA (ss : List ByteArray) : Array Value := (ss.map Value.string).toArray
theorem strs_lit (w : World) (ss : List ByteArray) (hs : ∀ s, s ∈ ss → s.size ≤ 1000) (hl : ss.length ≤ 1000) {H : Nat} (hH : w.heap.size = H) : StrsV (w.alloc (.cells (strA ss) 9)) (some ⟨H, 0, none⟩) ss.length ss := by
  subst hH
  refine ⟨by omega, fun i hi => by have := hs _ (List.getElem_mem hi); omega, fun _ => ⟨w.heap.size, 0, rfl, by simp, fun i hi => ?_⟩⟩
  rw [Nat.zero_add]
  refine (Blk.new w _ _).cell ?_
  simp [strA, hi]

/-- What is known of a regular expression that was read from the text of a tree. -/
structure IsT (w : World) (ao : Option Addr) (t : RT ByteArray) : Prop where
  nodes : NodesV w ao (post t)
  ok : okT t
  small : sizeT t ≤ 64
theorem IsT.ext {w w' : World} {ao : Option Addr} {t : RT ByteArray} (h : IsT w ao t) (e : Ext w w') : IsT w' ao t := ⟨h.nodes.ext e, h.ok, h.small⟩
section
variable {w : World} {ao : Option Addr} {t : RT ByteArray} (h : IsT w ao t) (cap : Nat)
include h
theorem IsT.text : Calls Tryd.prog 15 #[.agg #[.slice ao (sizeT t) cap]] w fun e w' => e = .returned (.tuple #[.string (bs (txt t)), .int .i64 0]) ∧ Ext w w' := by
  have h1 := text_any (form_post t) h.nodes (names_of_post h.ok) cap (by rw [post_len]; exact h.small)
  rw [post_len, (tr_post t).txt] at h1
  exact h1
theorem IsT.match_ {wo : Option Addr} {wcap : Nat} {ws : List ByteArray} (hS : StrsV w wo wcap ws) (hcap : ws.length ≤ wcap) (hT : TabW w) : Calls Tryd.prog 10 #[.agg #[.slice ao (sizeT t) cap], .slice wo ws.length wcap] w fun e w' => e = .returned (.bool (matchT t ws)) ∧ Ext w w' := by
  have h1 := match_any (form_post t) h.nodes (names_of_post h.ok) cap (by rw [post_len]; exact h.small) hS hcap hT
  rw [post_len, (tr_post t).matches] at h1
  exact h1
end

theorem parse_t0 (w : World) : Calls Tryd.prog 16 #[.string ⟨#[97, 44, 32, 40, 98, 32, 124, 32, 99, 41, 42, 44, 32, 100, 63]⟩] w fun e w' =>
    ∃ ao c, e = .returned (.tuple #[.agg #[.slice ao 10 c], .int .i64 0]) ∧ IsT w' ao t0 ∧ Ext w w' := by
  refine (parse_any (s := ⟨#[97, 44, 32, 40, 98, 32, 124, 32, 99, 41, 42, 44, 32, 100, 63]⟩) (by decide) reads_t0 rfl w).mono ?_
  rintro e w' ⟨ao, c, rfl, _, hN, hX⟩
  exact ⟨ao, c, by rw [post_len]; rfl, ⟨hN, ok_t0, by decide⟩, hX⟩

set_option maxRecDepth 100000 in
set_option maxHeartbeats 2000000 in
theorem awake_any {w : World} (hT : TabW w) : Calls Tryd.prog 6 #[] w fun e w' => e = .returned (.bool true) ∧ Ext w w' := by
  have HT := hid hT
  have e1 : (bs (txt t0)).toList = [97, 44, 40, 98, 124, 99, 41, 42, 44, 40, 100, 124, 40, 41, 41] := by rw [toL, txt_t0]; rfl
  have E1 := hid e1
  clear hT e1
  go_enter Tryd.func6, Tryd.ntmps6
  go_wp2_with fail
  refine (parse_t0 _).mono ?_
  rintro e w1 ⟨ao, c, rfl, hI, hX⟩
  have HI := hid hI
  have HX := hid hX
  have hs1 := hX.size
  clear hI hX
  go_wp2_with fail
  have hE2 : Ext w1 (w1.alloc (.cells #[.slice ao 10 c] 24)) := (Below.refl _ w1).alloc (Nat.le_refl _) _
  refine ((HI.out.ext hE2).text c).mono ?_
  rintro e w2 ⟨rfl, hx⟩
  have c2 : w2.cell? ⟨w1.heap.size, 0, none⟩ = some (.slice ao 10 c) := ((Blk.new w1 24 #[.slice ao 10 c]).ext hx).cell rfl
  have HX2 := hid (HX.out.trans ((hE2.trans (hx.mono (by simp))).mono hs1))
  have HI2 := hid ((HI.out.ext hE2).ext hx)
  have hl2 : w1.heap.size < w2.heap.size := by have := hx.size; simp at this; omega
  obtain ⟨T, HTx⟩ : ∃ T, Hid (bs (txt t0) = T) := ⟨_, hid rfl⟩
  rw [HTx.out] at E1 ⊢
  have E2 : (T.toList == [97, 44, 40, 98, 124, 99, 41, 42, 44, 40, 100, 124, 40, 41, 41]) = true := by rw [E1.out]; rfl
  clear hE2 hx
  go_wp2_with fail
  have hE3 : Ext w2 (w2.alloc (.cells (strA [ba [97]]) 9)) := (Below.refl _ w2).alloc (Nat.le_refl _) _
  refine ((HI2.out.ext hE3).match_ c (wcap := [ba [97]].length) (strs_lit w2 [ba [97]] (by decide) (by decide) rfl) (Nat.le_refl _) ((HT.out.ext HX2.out).ext hE3)).mono ?_
  rintro e w3 ⟨rfl, hx⟩
  rw [match_t0_a]
  have c3 : w3.cell? ⟨w1.heap.size, 0, none⟩ = some (.slice ao 10 c) := ((hE3.trans (hx.mono (by simp))).cell (p := ⟨w1.heap.size, 0, none⟩) hl2).trans c2
  have HX3 := hid (HX2.out.trans ((hE3.trans (hx.mono (by simp))).mono HX2.out.size))
  have HI3 := hid ((HI2.out.ext hE3).ext hx)
  have hl3 : w1.heap.size < w3.heap.size := by have := hx.size; simp at this; omega
  clear hE3 hx c2
  go_wp2_with fail
  have hE4 : Ext w3 (w3.alloc (.cells (strA [ba [97], ba [98], ba [99], ba [100]]) 9)) := (Below.refl _ w3).alloc (Nat.le_refl _) _
  refine ((HI3.out.ext hE4).match_ c (wcap := [ba [97], ba [98], ba [99], ba [100]].length) (strs_lit w3 [ba [97], ba [98], ba [99], ba [100]] (by decide) (by decide) rfl) (Nat.le_refl _) ((HT.out.ext HX3.out).ext hE4)).mono ?_
  rintro e w4 ⟨rfl, hx⟩
  rw [match_t0_abcd]
  have c4 : w4.cell? ⟨w1.heap.size, 0, none⟩ = some (.slice ao 10 c) := ((hE4.trans (hx.mono (by simp))).cell (p := ⟨w1.heap.size, 0, none⟩) hl3).trans c3
  have HX4 := hid (HX3.out.trans ((hE4.trans (hx.mono (by simp))).mono HX3.out.size))
  have HI4 := hid ((HI3.out.ext hE4).ext hx)
  have hl4 : w1.heap.size < w4.heap.size := by have := hx.size; simp at this; omega
  clear hE4 hx c3
  go_wp2_with fail
  have hE5 : Ext w4 (w4.alloc (.cells (strA [ba [98]]) 9)) := (Below.refl _ w4).alloc (Nat.le_refl _) _
  refine ((HI4.out.ext hE5).match_ c (wcap := [ba [98]].length) (strs_lit w4 [ba [98]] (by decide) (by decide) rfl) (Nat.le_refl _) ((HT.out.ext HX4.out).ext hE5)).mono ?_
  rintro e w5 ⟨rfl, hx⟩
  rw [match_t0_b]
  have c5 : w5.cell? ⟨w1.heap.size, 0, none⟩ = some (.slice ao 10 c) := ((hE5.trans (hx.mono (by simp))).cell (p := ⟨w1.heap.size, 0, none⟩) hl4).trans c4
  have HX5 := hid (HX4.out.trans ((hE5.trans (hx.mono (by simp))).mono HX4.out.size))
  have HI5 := hid ((HI4.out.ext hE5).ext hx)
  have hl5 : w1.heap.size < w5.heap.size := by have := hx.size; simp at this; omega
  clear hE5 hx c4
  go_wp2_with fail
  go_ret
  exact ⟨rfl, HX5.out⟩

end Go.Proofs.YtngpjagpeblbjaaDoor
