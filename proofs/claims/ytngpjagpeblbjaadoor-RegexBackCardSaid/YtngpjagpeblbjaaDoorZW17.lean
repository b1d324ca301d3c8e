/-
  Walks of the law's Plain, Small, Texts and Nodes, and of the reference's Null.
-/
import Derived.Test.YtngpjagpeblbjaaDoorZW16
import Derived.Outline
namespace Go.Proofs.YtngpjagpeblbjaaDoor
open Go.RowKit Go.Spy Go.Rx

/-- The cells of a node. -/
def ndV (n : Nd) : Array Value := #[.int .i64 n.op, .string n.sym, .int .i64 n.a, .int .i64 n.b]
theorem ndV_size (n : Nd) : (ndV n).size = 4 := rfl
theorem ones_ndV (n : Nd) : Ones (ndV n) := by
  intro v hv
  simp only [ndV, List.mem_toArray, List.mem_cons, List.not_mem_nil, or_false] at hv
  rcases hv with rfl | rfl | rfl | rfl <;> rfl
theorem elem_ref : ElemOk Tryd.prog 28 46 4 40 where
  under := Tryd.underlying28
  info := by
    obtain ⟨i, h1, h2, h3, h4⟩ := info_parts (P := Tryd.prog) (e := 46) (z := .agg #[.int .i64 0, .string ⟨#[]⟩, .int .i64 0, .int .i64 0]) (size := 4) (bytes := 40) (by kernel_rfl)
    exact ⟨i, _, h1, h2, h3, h4, rfl⟩
  pos := by decide
  small := by decide

theorem nodes_of_own {w : World} {base : Nat} {e : TypeId} {v : Value} {l : List Nd} (h : OwnR w base e 4 ndV v l) (hl : l.length ≤ 4398046511104) (hs : ∀ (i : Nat) (n : Nd), l[i]? = some n → n.sym.size ≤ 9223372036854775807) :
    ∃ ao c, v = .slice ao l.length c ∧ l.length ≤ c ∧ NodesV w ao l ∧ ∀ b off, ao = some ⟨b, off, none⟩ → base ≤ b ∨ l.length = 0 := by
  obtain ⟨ao, c, rfl, hc, h⟩ := h.cells ndV_size
  refine ⟨ao, c, rfl, hc, ⟨hl, hs, fun h0 => ?_⟩, fun b off hb => ?_⟩
  · rcases h with h | ⟨g, rfl, hb, hg, cur, hB, _, hk⟩
    · omega
    · refine ⟨g, 0, rfl, hg, fun i n hn => ?_⟩
      rw [Nat.zero_add]
      exact ⟨hB.cell (by have := hk i 0 n hn (by omega); simpa [ndV] using this), hB.cell (by have := hk i 1 n hn (by omega); simpa [ndV] using this), hB.cell (by have := hk i 2 n hn (by omega); simpa [ndV] using this), hB.cell (by have := hk i 3 n hn (by omega); simpa [ndV] using this)⟩
  · rcases h with h | ⟨g, rfl, hb', _⟩
    · exact .inr h
    · left; cases hb; exact hb'

def PlainPost (l : List Nd) (w : World) (e : Ending) (w' : World) : Prop := ∃ ao c, e = .returned (.slice ao l.length c) ∧ l.length ≤ c ∧ NodesV w' ao l ∧ Ext w w' ∧ ∀ b off, ao = some ⟨b, off, none⟩ → w.heap.size ≤ b ∨ l.length = 0

set_option maxRecDepth 100000 in
set_option maxHeartbeats 1000000 in
theorem plain_any {l : List Nd} {w : World} {ao : Option Addr} (hV : NodesV w ao l) (cap : Nat) (hl : l.length ≤ 1024) :
    Calls Tryd.prog 7 #[.agg #[.slice ao l.length cap]] w (PlainPost l w) := by
  have HV := hid hV
  clear hV
  go_enter Tryd.func7, Tryd.ntmps7
  go_wp2_with fail
  go_loopg [3, 4] l.length (fun g v i wr => ∃ k, g = l.length - k ∧ k ≤ l.length ∧ i = .int .i64 k ∧ Hid (OwnR wr w.heap.size 46 4 ndV v (l.take k)) ∧ Hid (Ext w wr) ∧ Hid (wr.cell? ⟨w.heap.size, 0, none⟩ = some (.slice ao l.length cap)) ∧ w.heap.size < wr.heap.size ∧ v.ownBlock ≠ some w.heap.size)
  case atStart => exact ⟨0, rfl, Nat.zero_le _, rfl, hid (OwnR.nil _ _ _ _ _), hid ((Below.refl _ _).alloc (Nat.le_refl _) _), hid ((Blk.new w _ _).cell (i := 0) rfl), by simp, by simp [Value.ownBlock]⟩
  case round =>
    obtain ⟨k, rfl, hk, rfl, HO, HE, HX, hsz, hne⟩ := hrel
    have x0 := HX.out
    by_cases hlt : k < l.length
    · obtain ⟨b, off, rfl, hb, hc⟩ := (HV.out.ext HE.out).cells (by omega)
      obtain ⟨n, hn⟩ : ∃ n, l[k]? = some n := ⟨_, List.getElem?_eq_getElem hlt⟩
      obtain ⟨q0, q1, q2, q3⟩ := hc k n hn
      have hlen : (l.take k).length = k := by simp; omega
      have HL := hid hlen
      have HN := hid hn
      have HNE := hid hne
      clear hc hn hlen hne
      have HO2 : Hid (OwnR (wr.alloc (.cells #[.int .i64 n.op, .string n.sym, .int .i64 n.a, .int .i64 n.b] 45)) w.heap.size 46 4 ndV u3 (l.take k)) := hid (HO.out.alloc _)
      go_wp2_with (first | (at_builtin; go_must (refine wpList_append_R elem_ref ndV_size ones_ndV HO2 (by simp; omega) (by rw [HL.out]; omega) n _ rfl (wr.heap.size + 1) (by simp) rfl _ _ rfl rfl rfl ?_); rintro g' cap' v' w4 rfl H1 H2))
      go_roundg (l.length - (k + 1))
      case measure => omega
      case rel =>
        have hg := (HO.out.lt)
        refine ⟨k + 1, rfl, by omega, by go_num, hid ?_, hid (ext_grown (HE.out.alloc HE.out.size _) H2.out.1 (fun i hi => (hg i hi).1)), hid ?_, ?_, ?_⟩
        · have h1 := H1.out
          obtain ⟨hk', e⟩ := List.getElem?_eq_some_iff.1 HN.out
          rw [List.take_succ_eq_append_getElem hk', e]
          have h2 : (l.take k).length + 1 = (k + 1) := by rw [HL.out]
          rw [h2] at h1
          exact h1
        · refine (H2.out.1.cell_far ⟨w.heap.size, 0, none⟩ (by simp; omega) (fun e => HNE.out e.symm)).trans ?_
          exact (((Below.refl _ _).alloc (Nat.le_refl _) _).cell (p := ⟨w.heap.size, 0, none⟩) hsz).trans HX.out
        · have := H2.out.1.size; simp at this; omega
        · intro e
          simp only [Value.ownBlock, Option.some.injEq] at e
          rcases H2.out.2 with h | h
          · rw [e] at h; exact HNE.out h
          · simp at h; omega
    · obtain rfl : k = l.length := by omega
      have hO := HO.out
      rw [List.take_length] at hO
      obtain ⟨ao', c, rfl, hc, hN, hB⟩ := nodes_of_own hO HV.out.len HV.out.size
      clear hO
      have HN := hid hN
      have HB := hid hB
      clear hN hB
      go_wp2_with fail
      go_ret
      exact ⟨_, _, rfl, hc, HN.out, HE.out, HB.out⟩

def sym80 (n : Nd) : Bool := decide (n.sym.size ≤ 80)
/-- No more than 24 nodes, and words of no more than 80 bytes. -/
def SmallL (l : List Nd) : Prop := l.length ≤ 24 ∧ ∀ n ∈ l, n.sym.size ≤ 80
def SmallPost (l : List Nd) (w : World) (e : Ending) (w' : World) : Prop := ∃ b, e = .returned (.bool b) ∧ (b = true ↔ SmallL l) ∧ Ext w w'

set_option maxRecDepth 100000 in
set_option maxHeartbeats 1000000 in
theorem small_any {l : List Nd} {w : World} {ao : Option Addr} (hV : NodesV w ao l) (cap : Nat) :
    Calls Tryd.prog 5 #[.agg #[.slice ao l.length cap]] w (SmallPost l w) := by
  have HV := hid hV
  have hlen := hV.len
  clear hV
  go_enter Tryd.func5, Tryd.ntmps5
  go_wp2_with fail
  go_loopg [3] l.length (fun g i wr => ∃ k, g = l.length - k ∧ k ≤ l.length ∧ i = .int .i64 k ∧ wr = w.alloc (.cells #[.slice ao l.length cap] 24) ∧ Hid (∀ (j : Nat) (n : Nd), j < k → l[j]? = some n → n.sym.size ≤ 80))
  case atStart => exact ⟨0, rfl, Nat.zero_le _, rfl, rfl, hid (fun j n h => absurd h (Nat.not_lt_zero j))⟩
  case round =>
    obtain ⟨k, rfl, hk, rfl, rfl, HA⟩ := hrel
    by_cases hlt : k < l.length
    · obtain ⟨b, off, rfl, hb, hc⟩ := HV.out.cells (by omega)
      obtain ⟨n, hn⟩ : ∃ n, l[k]? = some n := ⟨_, List.getElem?_eq_getElem hlt⟩
      obtain ⟨q0, q1, q2, q3⟩ := hc k n hn
      have hsz := HV.out.size k n hn
      have HN := hid hn
      clear hc hn
      by_cases h80 : n.sym.size ≤ 80
      · have h80' : ¬ 80 < n.sym.size := by omega
        go_wp2_with fail
        go_roundg (l.length - (k + 1))
        case measure => omega
        case rel =>
          refine ⟨k + 1, rfl, by omega, by go_num, rfl, hid fun j m hj hm => ?_⟩
          by_cases e : j = k
          · subst e; rw [HN.out] at hm; cases hm; exact h80
          · exact HA.out j m (by omega) hm
      · have h80' : 80 < n.sym.size := by omega
        go_wp2_with fail
        go_ret
        exact ⟨_, rfl, ⟨fun h => (by cases h), fun h => (h80 (h.2 n (List.mem_of_getElem? HN.out))).elim⟩, (Below.refl _ _).alloc (Nat.le_refl _) _⟩
    · obtain rfl : k = l.length := by omega
      by_cases h24 : l.length ≤ 24
      all_goals
        go_wp2_with fail
        go_ret
        refine ⟨_, rfl, ?_, (Below.refl _ _).alloc (Nat.le_refl _) _⟩
        have hall : ∀ n ∈ l, n.sym.size ≤ 80 := fun n hn => by
          obtain ⟨j, hj⟩ := List.getElem?_of_mem hn
          exact HA.out j n (lt_of_some hj) hj
        exact ⟨fun h => ⟨by have h' : (l.length : Int) ≤ 24 := by simpa using h
                            omega, hall⟩, fun h => by have := h.1; simp; omega⟩

end Go.Proofs.YtngpjagpeblbjaaDoor
