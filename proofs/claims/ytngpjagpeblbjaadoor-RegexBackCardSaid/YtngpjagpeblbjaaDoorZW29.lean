/-
  Walk of slices.IndexFunc and slices.ContainsFunc, handed the closure ends.
-/
import Derived.Test.YtngpjagpeblbjaaDoorZW28
namespace Go.Proofs.YtngpjagpeblbjaaDoor
open Go.RowKit Go.Spy Go.Rx

/-- Numbers lie where a slice value says. -/
structure NatsV (w : World) (v : Value) (l : List Nat) : Prop where
  out : ∃ ao cap, v = .slice ao l.length cap ∧ (0 < l.length → ∃ b off, ao = some ⟨b, off, none⟩ ∧ b < w.heap.size ∧ ∀ (i k : Nat), l[i]? = some k → w.cell? ⟨b, off + i, none⟩ = some (.int .i64 k))
theorem NatsV.ext {w w' : World} {v : Value} {l : List Nat} (h : NatsV w v l) (e : Ext w w') : NatsV w' v l := by
  obtain ⟨ao, cap, rfl, hc⟩ := h.out
  refine ⟨ao, cap, rfl, fun h0 => ?_⟩
  obtain ⟨b, off, rfl, hb, hk⟩ := hc h0
  exact ⟨b, off, rfl, Nat.lt_of_lt_of_le hb e.size, fun i k hi => (e.cell (p := ⟨b, off + i, none⟩) hb).trans (hk i k hi)⟩

set_option maxRecDepth 100000 in
set_option maxHeartbeats 1000000 in
theorem indexf_any {w : World} {v : Value} {ns : List Nat} (hV : NatsV w v ns) (hlen : ns.length ≤ 64) (x y : Value) (p : Nat → Bool)
    (hf : ∀ k w', k ∈ ns → Ext w w' → Calls Tryd.prog 29 #[.int .i64 k, x, y] w' fun e w'' => e = .returned (.bool (p k)) ∧ Ext w' w'') :
    Calls Tryd.prog 48 #[v, .func (.func 29) #[] #[x, y]] w fun e w' => (∃ r : Int, e = .returned (.int .i64 r) ∧ (0 ≤ r ↔ ns.any p = true)) ∧ Ext w w' := by
  obtain ⟨ao, cap, rfl, hc⟩ := hV.out
  have HC := hid hc
  have HF := hid hf
  clear hc hV hf
  go_enter Tryd.func48, Tryd.ntmps48
  go_wp2_with fail
  go_loopg [8] ns.length (fun g u wr => ∃ k, g = ns.length - k ∧ k ≤ ns.length ∧ u = .int .i64 k ∧ Hid (∀ i, i < k → ∀ q, ns[i]? = some q → p q = false) ∧ Hid (Ext w wr))
  case atStart => exact ⟨0, rfl, Nat.zero_le _, rfl, hid (fun i h => by omega), hid (Below.refl _ w)⟩
  case round =>
    obtain ⟨k, rfl, hk, rfl, HN, HE⟩ := hrel
    by_cases hlt : k < ns.length
    · obtain ⟨b, off, rfl, hb, hcc⟩ := HC.out (by omega)
      obtain ⟨q, hq⟩ : ∃ q, ns[k]? = some q := ⟨_, List.getElem?_eq_getElem hlt⟩
      have c1 := (HE.out.cell (p := ⟨b, off + k, none⟩) hb).trans (hcc k q hq)
      have HQ := hid hq
      have HCall := hid (HF.out q)
      clear hcc hq
      go_wp2_with fail
      refine (HF.out q _ (List.mem_of_getElem? HQ.out) HE.out).mono ?_
      rintro e w2 ⟨rfl, hx⟩
      have HX := hid (HE.out.trans (hx.mono HE.out.size))
      clear hx
      cases hp : p q with
      | true =>
        go_wp2_with fail
        go_ret
        exact ⟨⟨k, rfl, by simp [List.any_eq_true]; exact ⟨q, List.mem_of_getElem? HQ.out, hp⟩⟩, HX.out⟩
      | false =>
        go_wp2_with fail
        go_roundg (ns.length - (k + 1))
        case measure => omega
        case rel =>
          refine ⟨k + 1, rfl, by omega, by go_num, hid fun i hi r hr => ?_, HX⟩
          by_cases e : i = k
          · subst e; rw [HQ.out] at hr; cases hr; exact hp
          · exact HN.out i (by omega) r hr
    · go_wp2_with fail
      go_ret
      refine ⟨⟨-1, rfl, ⟨fun h => by omega, fun h => ?_⟩⟩, HE.out⟩
      obtain ⟨q, hq, hp⟩ := List.any_eq_true.1 h
      obtain ⟨i, hi⟩ := List.getElem?_of_mem hq
      have := HN.out i (by have := (List.getElem?_eq_some_iff.1 hi).1; omega) q hi
      rw [this] at hp
      cases hp

end Go.Proofs.YtngpjagpeblbjaaDoor
