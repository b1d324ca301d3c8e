/-
  Walk of awake.
-/
import Derived.Test.YtoknhfmgkgmlhaaDoorP1
namespace Go.Proofs.YtoknhfmgkgmlhaaDoor
open Go.RowKit Go.Spy

theorem parse_is {ao : Option Addr} {cap : Nat} {ss : List ByteArray} {w : World} (h : StrsV w ao cap ss) (hM : ModesW w) {c : Cmd} {k : Nat} {n : Int} (hp : parseL ss = (c, k, n)) {m : Nat} (hm : m = ss.length) :
    Calls Tryd.prog 9 #[.slice ao m cap] w fun e w' => e = .returned (.tuple #[.agg #[.int .i64 c.mode, .string c.root, .bool c.view, .bool c.quiet], .int .i64 (k : Int), .int .i64 n]) ∧ Ext w w' := by
  subst hm
  refine (parse_any ao cap ss w h hM).mono fun e w' hq => ?_
  obtain ⟨h1, h2⟩ := hq
  rw [hp] at h1
  exact ⟨h1, h2⟩

theorem lit_strs (w : World) (vs : Array Value) (ss : List ByteArray) (hv : vs = (ss.map Value.string).toArray) (hl : ss.length ≤ 1000) (hs : ∀ s ∈ ss, s.size ≤ 1000) (c : Nat) {B : Nat} (hB : B = w.heap.size) :
    StrsV (w.alloc (.cells vs 9)) (some ⟨B, 0, none⟩) c ss where
  len := by omega
  size i hi := by have := hs _ (List.getElem_mem hi); omega
  cells _ := ⟨B, 0, rfl, by simp [hB], fun i hi => by
    subst hv hB
    rw [World.cell?_alloc_at _ _ _ _ rfl]
    simp [hi]⟩

def ex1 : List ByteArray := [⟨#[112, 117, 116]⟩, ⟨#[45, 113, 117, 105, 101, 116]⟩, ⟨#[45, 114, 111, 111, 116]⟩, ⟨#[66, 111, 111, 107]⟩]
def ex2 : List ByteArray := [⟨#[103, 101, 116]⟩, ⟨#[45, 114, 111, 111, 116]⟩]
theorem ex1_is : parseL ex1 = (⟨2, ⟨#[66, 111, 111, 107]⟩, false, true⟩, 0, 0) := by kernel_rfl
theorem ex2_is : parseL ex2 = (zeroC, 2, 11) := by kernel_rfl

set_option maxHeartbeats 1000000 in
theorem awake_any (w : World) (hM : ModesW w) : Calls Tryd.prog 8 #[] w fun e w' => e = .returned (.bool true) ∧ Ext w w' := by
  go_enter Tryd.func8, Tryd.ntmps8
  go_wp2_with fail
  refine (parse_is (ss := ex1) (lit_strs _ _ ex1 rfl (by decide) (by decide) _ rfl) (hM.ext ((Below.refl _ _).alloc (Nat.le_refl _) _)) ex1_is rfl).mono ?_
  rintro e w1 ⟨rfl, hx⟩
  have hB : Below w.heap.size w w1 := below_ext ((Below.refl _ _).alloc (Nat.le_refl _) _) hx (by simp)
  clear hx
  go_wp2_with fail
  have hM1 := hM.ext hB
  refine (parse_is (ss := ex2) (lit_strs _ _ ex2 rfl (by decide) (by decide) _ (by simp)) (hM1.ext (((Below.refl _ _).alloc (Nat.le_refl _) _).alloc (by simp) _)) ex2_is rfl).mono ?_
  rintro e w2 ⟨rfl, hx⟩
  have hB2 : Below w.heap.size w w2 := below_ext ((hB.alloc hB.size _).alloc (by have := hB.size; simp; omega) _) hx (by have := hB.size; simp; omega)
  have hblk := ((Blk.new w1 26 #[.int .i64 2, .string ⟨#[66, 111, 111, 107]⟩, .bool false, .bool true]).alloc _).ext hx
  have q0 : w2.cell? ⟨w1.heap.size, 0, none⟩ = some (.int .i64 2) := hblk.cell rfl
  have q1 : w2.cell? ⟨w1.heap.size, 1, none⟩ = some (.string ⟨#[66, 111, 111, 107]⟩) := hblk.cell rfl
  have q2 : w2.cell? ⟨w1.heap.size, 2, none⟩ = some (.bool false) := hblk.cell rfl
  have q3 : w2.cell? ⟨w1.heap.size, 3, none⟩ = some (.bool true) := hblk.cell rfl
  have qlt := hblk.lt
  clear hx hblk hM1
  go_wp2_with fail
  go_ret
  exact ⟨rfl, hB2.alloc hB2.size _⟩
end Go.Proofs.YtoknhfmgkgmlhaaDoor
