/-
  Walk of slices.ContainsFunc; numbers that are owned lie where a value says.
-/
import Derived.Test.YtngpjagpeblbjaaDoorZW29
namespace Go.Proofs.YtngpjagpeblbjaaDoor
open Go.RowKit Go.Spy Go.Rx

theorem containsf_any {w : World} {v : Value} {ns : List Nat} (hV : NatsV w v ns) (hlen : ns.length ≤ 64) (x y : Value) (p : Nat → Bool)
    (hf : ∀ k w', k ∈ ns → Ext w w' → Calls Tryd.prog 29 #[.int .i64 k, x, y] w' fun e w'' => e = .returned (.bool (p k)) ∧ Ext w' w'') :
    Calls Tryd.prog 31 #[v, .func (.func 29) #[] #[x, y]] w fun e w' => e = .returned (.bool (ns.any p)) ∧ Ext w w' := by
  have H := hid (indexf_any hV hlen x y p hf)
  clear hV hf
  go_enter Tryd.func31, Tryd.ntmps31
  go_wp2_with fail
  refine H.out.mono ?_
  rintro e w2 ⟨⟨r, rfl, hr⟩, hx⟩
  cases ha : ns.any p with
  | true =>
    have h0 : decide (0 ≤ r) = true := decide_eq_true (hr.2 ha)
    have HA := hid ha
    have HR := hid hr
    have HX := hid hx
    clear ha hr hx
    go_wp2_with fail
    go_ret
    exact ⟨by rw [HA.out] <;> simp_all, HX.out⟩
  | false =>
    have h0 : decide (0 ≤ r) = false := decide_eq_false (fun h => by rw [hr.1 h] at ha; cases ha)
    have HA := hid ha
    have HX := hid hx
    clear ha hr hx
    go_wp2_with fail
    go_ret
    exact ⟨by rw [HA.out] <;> simp_all, HX.out⟩

theorem nats_of_owns {w : World} {base : Nat} {v : Value} {l : List Nat} (h : OwnI w base v l) : NatsV w v l := by
  have h : w.ownsRow base 3 1 v l.length (l.map intC) := h
  rcases h.2 with ⟨rfl, h0⟩ | ⟨g, cap, cur, rfl, hg, hh, hnc, hcm, hcs, ht⟩
  · exact ⟨none, 0, by rw [h0], fun h1 => by omega⟩
  · refine ⟨_, cap, rfl, fun _ => ⟨g, 0, rfl, (Array.getElem?_eq_some_iff.1 hh).1, fun i k hi => ?_⟩⟩
    have hil : i < l.length := (List.getElem?_eq_some_iff.1 hi).1
    have h1 : (cur.toList.take (l.length * 1))[i]? = (l.map intC)[i]? := by rw [ht]
    have h2 : cur[i]? = some (.int .i64 k) := by
      rw [List.getElem?_take, if_pos (by omega), List.getElem?_map, hi] at h1
      simpa [intC] using h1
    simp [World.cell?, hh, h2]

end Go.Proofs.YtngpjagpeblbjaaDoor
