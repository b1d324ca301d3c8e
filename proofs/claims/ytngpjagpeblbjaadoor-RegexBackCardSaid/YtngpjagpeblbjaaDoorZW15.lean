/-
  Walk of Check: what is wrong with a regular expression.
-/
import Derived.Test.YtngpjagpeblbjaaDoorZW14
namespace Go.Proofs.YtngpjagpeblbjaaDoor
open Go.RowKit Go.Spy Go.Rx

/-- The words are names. -/
def NamesOk (l : List Nd) : Prop := ∀ (i : Nat) (n : Nd), l[i]? = some n → n.op = 2 → nameOk n.sym = true
/-- What is wrong with nodes, as a number. -/
def CheckC (l : List Nd) (c : Int) : Prop :=
  (1024 < l.length ∧ c = 17) ∨ (l.length ≤ 1024 ∧ ¬ Rx.Form l ∧ c = 12) ∨ (l.length ≤ 1024 ∧ Rx.Form l ∧ ¬ NamesOk l ∧ c = 11) ∨ (l.length ≤ 1024 ∧ Rx.Form l ∧ NamesOk l ∧ c = 0)
theorem checkC_one {l : List Nd} {c d : Int} (h : CheckC l c) (k : CheckC l d) : c = d := by
  rcases h with ⟨h1, rfl⟩ | ⟨h1, h2, rfl⟩ | ⟨h1, h2, h3, rfl⟩ | ⟨h1, h2, h3, rfl⟩ <;> rcases k with ⟨k1, rfl⟩ | ⟨k1, k2, rfl⟩ | ⟨k1, k2, k3, rfl⟩ | ⟨k1, k2, k3, rfl⟩ <;> first | rfl | omega | exact (h2 k2).elim | exact (k2 h2).elim | exact (h3 k3).elim | exact (k3 h3).elim
theorem checkC_zero {l : List Nd} {c : Int} (h : CheckC l c) : c = 0 ↔ l.length ≤ 1024 ∧ Rx.Form l ∧ NamesOk l := by
  rcases h with ⟨h1, rfl⟩ | ⟨h1, h2, rfl⟩ | ⟨h1, h2, h3, rfl⟩ | ⟨h1, h2, h3, rfl⟩
  · exact ⟨fun e => by omega, fun k => by omega⟩
  · exact ⟨fun e => by omega, fun k => (h2 k.2.1).elim⟩
  · exact ⟨fun e => by omega, fun k => (h3 k.2.2).elim⟩
  · exact ⟨fun _ => ⟨h1, h2, h3⟩, fun _ => rfl⟩

def CheckPost (l : List Nd) (w : World) (e : Ending) (w' : World) : Prop := ∃ c : Int, e = .returned (.int .i64 c) ∧ CheckC l c ∧ Ext w w'

set_option maxRecDepth 100000 in
set_option maxHeartbeats 1000000 in
theorem check_any {l : List Nd} {w : World} {ao : Option Addr} (hV : NodesV w ao l) (cap : Nat) :
    Calls Tryd.prog 9 #[.agg #[.slice ao l.length cap]] w (CheckPost l w) := by
  have hlen := hV.len
  by_cases hl : 1024 < l.length
  · go_enter Tryd.func9, Tryd.ntmps9
    go_wp2_with fail
    go_ret
    exact ⟨_, rfl, .inl ⟨hl, rfl⟩, (Below.refl _ _).alloc (Nat.le_refl _) _⟩
  · have hl2 : l.length ≤ 1024 := by omega
    have HV := hid hV
    clear hV hl
    go_enter Tryd.func9, Tryd.ntmps9
    go_wp2_with fail
    refine (formed_any (HV.out.ext ((Below.refl _ w).alloc (Nat.le_refl _) _)) cap hl2).mono ?_
    rintro e w1 ⟨fb, rfl, hF, hx⟩
    have HX := hid hx
    have HE : Hid (Ext w w1) := hid (((Below.refl _ w).alloc (Nat.le_refl _) _).trans (hx.mono (by simp)))
    have x0 : w1.cell? ⟨w.heap.size, 0, none⟩ = some (.slice ao l.length cap) := ((Blk.new w _ #[.slice ao l.length cap]).ext hx).cell (i := 0) rfl
    have HF := hid hF
    clear hx hF
    cases hb : fb with
    | false =>
      have HB := hid hb
      clear hb
      go_wp2_with fail
      go_ret
      exact ⟨_, rfl, .inr (.inl ⟨hl2, (fun F => by have := HF.out.2 F; rw [HB.out] at this; cases this), rfl⟩), HE.out⟩
    | true =>
      have HFm : Hid (Rx.Form l) := hid (HF.out.1 hb)
      clear HF hb
      go_wp2_with fail
      go_loopg [16] l.length (fun g v wr => ∃ k, g = l.length - k ∧ k ≤ l.length ∧ v = .int .i64 k ∧ Hid (∀ (i : Nat) (n : Nd), i < k → l[i]? = some n → n.op = 2 → nameOk n.sym = true) ∧ Hid (Ext w wr))
      case atStart => exact ⟨0, rfl, Nat.zero_le _, rfl, hid (fun i n h => by omega), HE⟩
      case round =>
        obtain ⟨k, rfl, hk, rfl, HN, HE2⟩ := hrel
        by_cases hlt : k < l.length
        · obtain ⟨b, off, rfl, hb, hc⟩ := (HV.out.ext HE2.out).cells (by omega)
          obtain ⟨n, hn⟩ : ∃ n, l[k]? = some n := ⟨_, List.getElem?_eq_getElem hlt⟩
          obtain ⟨q0, q1, q2, q3⟩ := hc k n hn
          have hsz := HV.out.size k n hn
          have HNN := hid hn
          clear hc hn
          by_cases ho : n.op = 2
          · have t2 : (n.op == 2) = true := by simp [ho]
            have HO := hid ho
            clear ho
            cases hok : nameOk n.sym with
            | false =>
              have HK := hid hok
              clear hok
              go_wp2_with (first | (go_at_call 22; refine (is_any n.sym _ (by unfold maxLen; omega)).mono ?_; rintro e w' ⟨rfl, hx⟩; rw [HK.out]; have HX2 := hid hx; clear hx))
              go_ret
              exact ⟨_, rfl, .inr (.inr (.inl ⟨hl2, HFm.out, (fun h => by have := h k n HNN.out HO.out; rw [HK.out] at this; cases this), rfl⟩)), (HE2.out.alloc HE2.out.size _).trans (HX2.out.mono (by have := HE2.out.size; simp; omega))⟩
            | true =>
              have HK := hid hok
              clear hok
              go_wp2_with (first | (go_at_call 22; refine (is_any n.sym _ (by unfold maxLen; omega)).mono ?_; rintro e w' ⟨rfl, hx⟩; rw [HK.out]; have HX2 := hid hx; clear hx))
              go_roundg (l.length - (k + 1))
              case measure => omega
              case rel =>
                refine ⟨k + 1, rfl, by omega, by go_num, hid fun i m hi hm hm2 => ?_, hid ((HE2.out.alloc HE2.out.size _).trans (HX2.out.mono (by have := HE2.out.size; simp; omega)))⟩
                by_cases e : i = k
                · subst e; rw [HNN.out] at hm; cases hm; exact HK.out
                · exact HN.out i m (by omega) hm hm2
          · have t2 : (n.op == 2) = false := by simp [ho]
            have HO := hid ho
            clear ho
            go_wp2_with fail
            go_roundg (l.length - (k + 1))
            case measure => omega
            case rel =>
              refine ⟨k + 1, rfl, by omega, by go_num, hid fun i m hi hm hm2 => ?_, hid (HE2.out.alloc HE2.out.size _)⟩
              by_cases e : i = k
              · subst e; rw [HNN.out] at hm; cases hm; exact (HO.out hm2).elim
              · exact HN.out i m (by omega) hm hm2
        · obtain rfl : k = l.length := by omega
          go_wp2_with fail
          go_ret
          exact ⟨_, rfl, .inr (.inr (.inr ⟨hl2, HFm.out, fun i n hn => HN.out i n (lt_of_some hn) hn, rfl⟩)), HE2.out⟩

end Go.Proofs.YtngpjagpeblbjaaDoor
