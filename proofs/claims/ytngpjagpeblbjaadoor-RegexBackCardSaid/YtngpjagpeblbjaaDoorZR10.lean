/-
  Walks of slices.Index and slices.Contains over numbers.
-/
import Derived.Test.YtngpjagpeblbjaaDoorZR9
import Derived.Test.YtngpjagpeblbjaaDoorZW30
namespace Go.Proofs.YtngpjagpeblbjaaDoor
open Go.RowKit Go.Spy Go.Rx

def hasI (ns : List Nat) (x : Int) : Bool := ns.any fun k => decide (x = (k : Int))

set_option maxRecDepth 100000 in
set_option maxHeartbeats 1000000 in
theorem index_any {w : World} {v : Value} {ns : List Nat} (hV : NatsV w v ns) (hlen : ns.length ≤ 64) (x : Int) :
    Calls Tryd.prog 51 #[v, .int .i64 x] w fun e w' => (∃ r : Int, e = .returned (.int .i64 r) ∧ (0 ≤ r ↔ hasI ns x = true)) ∧ w = w' := by
  obtain ⟨ao, cap, rfl, hc⟩ := hV.out
  have HC := hid hc
  clear hc hV
  go_enter Tryd.func51, Tryd.ntmps51
  go_wp2_with fail
  go_loopg [8] ns.length (fun g u wr => ∃ k, g = ns.length - k ∧ k ≤ ns.length ∧ wr = w ∧ u = .int .i64 k ∧ Hid (∀ i, i < k → ∀ q : Nat, ns[i]? = some q → ¬ x = (q : Int)))
  case atStart => exact ⟨0, rfl, Nat.zero_le _, rfl, rfl, hid (fun i h => by omega)⟩
  case round =>
    obtain ⟨k, rfl, hk, rfl, rfl, HN⟩ := hrel
    by_cases hlt : k < ns.length
    · obtain ⟨b, off, rfl, hb, hcc⟩ := HC.out (by omega)
      obtain ⟨q, hq⟩ : ∃ q, ns[k]? = some q := ⟨_, List.getElem?_eq_getElem hlt⟩
      have c1 := hcc k q hq
      have HQ := hid hq
      clear hcc hq
      by_cases hx : x = (q : Int)
      · have hd : (x == (q : Int)) = true := by simp [hx]
        have HX := hid hx
        clear hx
        go_wp2_with fail
        go_ret
        exact ⟨⟨k, rfl, by simp only [hasI, List.any_eq_true, decide_eq_true_eq]; exact ⟨fun _ => ⟨q, List.mem_of_getElem? HQ.out, HX.out⟩, fun _ => by omega⟩⟩, rfl⟩
      · have hd : (x == (q : Int)) = false := beq_eq_false_iff_ne.2 hx
        have HX := hid hx
        clear hx
        go_wp2_with fail
        go_roundg (ns.length - (k + 1))
        case measure => omega
        case rel =>
          refine ⟨k + 1, rfl, by omega, rfl, by go_num, hid fun i hi r hr => ?_⟩
          by_cases e : i = k
          · subst e; rw [HQ.out] at hr; cases hr; exact HX.out
          · exact HN.out i (by omega) r hr
    · go_wp2_with fail
      go_ret
      refine ⟨⟨-1, rfl, ⟨fun h => by omega, fun h => ?_⟩⟩, rfl⟩
      simp only [hasI, List.any_eq_true, decide_eq_true_eq] at h
      obtain ⟨q, hq, hp⟩ := h
      obtain ⟨i, hi⟩ := List.getElem?_of_mem hq
      exact absurd hp (HN.out i (by have := (List.getElem?_eq_some_iff.1 hi).1; omega) q hi)

theorem contains_any {w : World} {v : Value} {ns : List Nat} (hV : NatsV w v ns) (hlen : ns.length ≤ 64) (x : Int) :
    Calls Tryd.prog 35 #[v, .int .i64 x] w fun e w' => e = .returned (.bool (hasI ns x)) ∧ w = w' := by
  have H := hid (index_any hV hlen x)
  clear hV
  go_enter Tryd.func35, Tryd.ntmps35
  go_wp2_with fail
  refine H.out.mono ?_
  rintro e w2 ⟨⟨r, rfl, hr⟩, rfl⟩
  have h0 : decide (0 ≤ r) = hasI ns x := by rw [Bool.eq_iff_iff, decide_eq_true_eq]; exact hr
  have HR := hid h0
  clear hr h0
  go_wp2_with fail
  go_ret
  exact ⟨by rw [← HR.out]; rfl, rfl⟩

end Go.Proofs.YtngpjagpeblbjaaDoor
