/-
  The queue seat: an item goes down.
-/
import Derived.Test.YtlghkcamnfegdaaW9
namespace Go.Proofs.Ytlghkcamnfegdaa
open Go.RowKit Go.Spy Go.Heaped

def Sunk (lt : It → It → Bool) (S : Nat → Prop) (w : World) (base q bo F : Nat) (d : List It) (n m : Nat) (put : Int) (e : Ending) (w' : World) : Prop :=
  ∃ (t : Bool) (d' : List It), e = .returned (.bool t) ∧ d'.Perm d ∧ Heap lt d' n ∧ g d' n = g d n ∧ Goes S w w' base q bo F d' m put
def DownAt (lt : It → It → Bool) (S : Nat → Prop) (w : World) (base q bo F : Nat) (d : List It) (n m : Nat) (put : Int) (v : Value) (w' : World) : Prop :=
  ∃ (k : Nat) (dk : List It), v = .int .i64 k ∧ k ≤ n ∧ dk.Perm d ∧ DownHeap lt dk n k ∧ g dk n = g d n ∧ Goes S w w' base q bo F dk (m + k) put

theorem kids {lt : It → It → Bool} {d : List It} {n k j : Nat} (_irr : ∀ x, lt x x = false) (h1 : 2 * k + 1 < n → lt (g d (2 * k + 1)) (g d j) = false) (h2 : 2 * k + 2 < n → lt (g d (2 * k + 2)) (g d j) = false) :
    ∀ i, 0 < i → i < n → par i = k → lt (g d i) (g d j) = false := by
  intro i h0 hi hp
  have : i = 2 * k + 1 ∨ i = 2 * k + 2 := by unfold par at hp; omega
  rcases this with rfl | rfl
  · exact h1 hi
  · exact h2 hi
theorem sunk_swap {lt : It → It → Bool} {S : Nat → Prop} {w wr w1 w2 : World} {base q bo F n m k j : Nat} {d dk : List It} {put : Int} {S1 : Nat → Prop} (L : Ordered lt) (hlen : d.length = n + 1) (hp : dk.Perm d) (hd : DownHeap lt dk n k) (hn : g dk n = g d n)
    (hM : Moved S S1 w wr) (h1 : Ext wr w1) (hG : Goes S1 w1 w2 base q bo F (swp dk k j) (m + k + 1) put) (hjn : j < n) (hpj : par j = k) (h0 : 0 < j) (hj : ∀ i, 0 < i → i < n → par i = k → lt (g dk i) (g dk j) = false) (hlt : lt (g dk j) (g dk k) = true) :
    DownAt lt S w base q bo F d n m put (.int .i64 j) w2 := by
  obtain ⟨S2, hP2, hM2⟩ := hG
  have hl := hp.length_eq
  have hkj : k < j := by unfold par at hpj; omega
  refine ⟨j, swp dk k j, rfl, by omega, (swp_perm dk _ _ (by omega) (by omega)).trans hp, down_step L hd (by omega) hjn hpj h0 hj hlt, ?_, S2, hP2.mono (by omega), (hM.ext h1).trans hM2⟩
  rw [g_swp _ _ _ _ (by omega) (by omega), if_neg (by omega), if_neg (by omega)]
  exact hn

set_option maxRecDepth 100000 in
set_option maxHeartbeats 2400000 in
theorem down_any {F : Nat} {f : Int → Int → Int} (O : OrdOk F f) (L : Ordered (aheadB f)) (irr : ∀ x, aheadB f x x = false) {w : World} {base q bo : Nat} {d : List It} {m n : Nat} {put : Int} {S : Nat → Prop} (h : PileX w base q bo F d m put S)
    (hlen : d.length = n + 1) (hu : DownHeap (aheadB f) d n 0) (hm : m + n ≤ 1000000000) :
    Calls Try.prog 38 #[.iface 72 (.pointer (some ⟨q, 0, none⟩)), .int .i64 0, .int .i64 n] w fun e w' => Sunk (aheadB f) S w base q bo F d n (m + n) put e w' := by
  have HL := hid hlen
  have hl1 : n < d.length := by omega
  clear hlen
  go_enter Try.func38, Try.ntmps38
  go_wp2_with fail
  go_loopw [7] (fun v wr => DownAt (aheadB f) S w base q bo F d n m put v wr) (fun v _ => n - (intOf v).toNat)
  case atStart => exact ⟨0, d, rfl, by omega, List.Perm.refl _, hu, rfl, by simpa using Goes.refl h⟩
  case round =>
    obtain ⟨k, dk, rfl, hkn, hp, hd, hn, S1, hP, hM⟩ := hrel
    have m1 := method_less
    have m2 := method_swap
    have HN := hid hn
    clear hn
    have hdl : n < dk.length := by rw [hp.length_eq]; exact hl1
    rcases Nat.lt_or_ge (2 * k + 1) n with hA | hA
    · have qA : decide ((n : Int) ≤ 2 * (k : Int) + 1) = false := decide_eq_false (by omega)
      rcases Nat.lt_or_ge (2 * k + 2) n with hB | hB
      · have qB : decide (2 * (k : Int) + 1 + 1 < (n : Int)) = true := decide_eq_true (by omega)
        cases hb : aheadB f (Heaped.g dk (2 * k + 2)) (Heaped.g dk (2 * k + 1))
        · have HB := hid hb
          clear hb
          cases hc : aheadB f (Heaped.g dk (2 * k + 1)) (Heaped.g dk k)
          · have HC := hid hc
            clear hc
            go_wp2_with (first | (go_at_call 64; refine (less_at O hP _ _ (2 * k + 2) (2 * k + 1) (by omega) (by omega) (by omega) (by omega) _ HB).mono ?_; rintro e w1 ⟨rfl, h1⟩; have hP1 := hP.ext h1) | (go_at_call 64; refine (less_at O hP1 _ _ (2 * k + 1) (k) (by omega) (by omega) (by omega) (by omega) _ HC).mono ?_; rintro e w2 ⟨rfl, h2⟩; have hP2 := hP1.ext h2))
            go_ret
            exact ⟨_, dk, rfl, hp, down_end L hd (kids irr (fun _ => irr _) (fun _ => HB.out)) (.inr HC.out), HN.out, S1, (hP.mono (by omega)).ext (ext_trans h1 h2), hM.ext (ext_trans h1 h2)⟩
          · have HC := hid hc
            clear hc
            go_wp2_with (first | (go_at_call 64; refine (less_at O hP _ _ (2 * k + 2) (2 * k + 1) (by omega) (by omega) (by omega) (by omega) _ HB).mono ?_; rintro e w1 ⟨rfl, h1⟩; have hP1 := hP.ext h1) | (go_at_call 64; refine (less_at O hP1 _ _ (2 * k + 1) (k) (by omega) (by omega) (by omega) (by omega) _ HC).mono ?_; rintro e w2 ⟨rfl, h2⟩; have hP2 := hP1.ext h2) | (go_at_call 67; refine (swap_at hP2 _ _ k (2 * k + 1) (by omega) (by omega) (by omega) (by omega) (by omega)).mono ?_; rintro e w3 ⟨rfl, hG⟩))
            go_roundw
            case rel =>
              have hR := sunk_swap L HL.out hp hd HN.out hM (ext_trans h1 h2) hG (by omega) (by unfold par; omega) (by omega) (kids irr (fun _ => irr _) (fun _ => HB.out)) HC.out
              first | exact hR | simpa using hR
            case measure => simp [intOf]; omega
        · have HB := hid hb
          clear hb
          cases hc : aheadB f (Heaped.g dk (2 * k + 2)) (Heaped.g dk k)
          · have HC := hid hc
            clear hc
            go_wp2_with (first | (go_at_call 64; refine (less_at O hP _ _ (2 * k + 2) (2 * k + 1) (by omega) (by omega) (by omega) (by omega) _ HB).mono ?_; rintro e w1 ⟨rfl, h1⟩; have hP1 := hP.ext h1) | (go_at_call 64; refine (less_at O hP1 _ _ (2 * k + 2) (k) (by omega) (by omega) (by omega) (by omega) _ HC).mono ?_; rintro e w2 ⟨rfl, h2⟩; have hP2 := hP1.ext h2))
            go_ret
            exact ⟨_, dk, rfl, hp, down_end L hd (kids irr (fun _ => L.asym _ _ HB.out) (fun _ => irr _)) (.inr HC.out), HN.out, S1, (hP.mono (by omega)).ext (ext_trans h1 h2), hM.ext (ext_trans h1 h2)⟩
          · have HC := hid hc
            clear hc
            go_wp2_with (first | (go_at_call 64; refine (less_at O hP _ _ (2 * k + 2) (2 * k + 1) (by omega) (by omega) (by omega) (by omega) _ HB).mono ?_; rintro e w1 ⟨rfl, h1⟩; have hP1 := hP.ext h1) | (go_at_call 64; refine (less_at O hP1 _ _ (2 * k + 2) (k) (by omega) (by omega) (by omega) (by omega) _ HC).mono ?_; rintro e w2 ⟨rfl, h2⟩; have hP2 := hP1.ext h2) | (go_at_call 67; refine (swap_at hP2 _ _ k (2 * k + 2) (by omega) (by omega) (by omega) (by omega) (by omega)).mono ?_; rintro e w3 ⟨rfl, hG⟩))
            go_roundw
            case rel =>
              have hR := sunk_swap L HL.out hp hd HN.out hM (ext_trans h1 h2) hG (by omega) (by unfold par; omega) (by omega) (kids irr (fun _ => L.asym _ _ HB.out) (fun _ => irr _)) HC.out
              first | exact hR | simpa using hR
            case measure => simp [intOf]; omega
      · have qB : decide (2 * (k : Int) + 1 + 1 < (n : Int)) = false := decide_eq_false (by omega)
        cases hc : aheadB f (Heaped.g dk (2 * k + 1)) (Heaped.g dk k)
        · have HC := hid hc
          clear hc
          go_wp2_with ((go_at_call 64; refine (less_at O hP _ _ (2 * k + 1) (k) (by omega) (by omega) (by omega) (by omega) _ HC).mono ?_; rintro e w2 ⟨rfl, h2⟩; have hP2 := hP.ext h2))
          go_ret
          exact ⟨_, dk, rfl, hp, down_end L hd (kids irr (fun _ => irr _) (fun h => by omega)) (.inr HC.out), HN.out, S1, (hP.mono (by omega)).ext h2, hM.ext h2⟩
        · have HC := hid hc
          clear hc
          go_wp2_with (first | (go_at_call 64; refine (less_at O hP _ _ (2 * k + 1) (k) (by omega) (by omega) (by omega) (by omega) _ HC).mono ?_; rintro e w2 ⟨rfl, h2⟩; have hP2 := hP.ext h2) | (go_at_call 67; refine (swap_at hP2 _ _ k (2 * k + 1) (by omega) (by omega) (by omega) (by omega) (by omega)).mono ?_; rintro e w3 ⟨rfl, hG⟩))
          go_roundw
          case rel =>
            have hR := sunk_swap L HL.out hp hd HN.out hM h2 hG (by omega) (by unfold par; omega) (by omega) (kids irr (fun _ => irr _) (fun h => by omega)) HC.out
            first | exact hR | simpa using hR
          case measure => simp [intOf]; omega
    · have qA : decide ((n : Int) ≤ 2 * (k : Int) + 1) = true := decide_eq_true (by omega)
      go_wp2_with fail
      go_ret
      exact ⟨_, dk, rfl, hp, down_end (j := k) L hd (kids irr (fun h => by omega) (fun h => by omega)) (.inl hA), HN.out, S1, hP.mono (by omega), hM⟩
end Go.Proofs.Ytlghkcamnfegdaa
