/-
  Walks of moved, many and keep.
-/
import Derived.Test.YtngpjagpeblbjaaDoorZR3
import Derived.Test.YtngpjagpeblbjaaDoorZW17
namespace Go.Proofs.YtngpjagpeblbjaaDoor
open Go.RowKit Go.Spy Go.Rx

theorem elem_nd : ElemOk Tryd.prog 22 45 4 40 where
  under := Tryd.underlying22
  info := by
    obtain ⟨i, h1, h2, h3, h4⟩ := info_parts (P := Tryd.prog) (e := 45) (z := .agg #[.int .i64 0, .string ⟨#[]⟩, .int .i64 0, .int .i64 0]) (size := 4) (bytes := 40) (by kernel_rfl)
    exact ⟨i, _, h1, h2, h3, h4, rfl⟩
  pos := by decide
  small := by decide

/-- A call owns these nodes. -/
abbrev OwnN (w : World) (base : Nat) (v : Value) (l : List Nd) : Prop := OwnR w base 45 4 ndV v l

/-- No number of a node is far from 0. -/
def NearN (n : Nd) : Prop := -1000000 ≤ n.a ∧ n.a ≤ 1000000 ∧ -1000000 ≤ n.b ∧ n.b ≤ 1000000

def MovedPost (n : Nd) (k : Nat) (w : World) (e : Ending) (w' : World) : Prop := e = .returned (.agg #[.int .i64 (mv k n).op, .string (mv k n).sym, .int .i64 (mv k n).a, .int .i64 (mv k n).b]) ∧ Ext w w'

set_option maxRecDepth 100000 in
set_option maxHeartbeats 1000000 in
theorem moved_any (n : Nd) (k : Nat) (hk : k ≤ 1000000) (hn : NearN n) (w : World) :
    Calls Tryd.prog 78 #[.agg #[.int .i64 n.op, .string n.sym, .int .i64 n.a, .int .i64 n.b], .int .i64 k] w (MovedPost n k w) := by
  obtain ⟨op, sym, a, b⟩ := n
  obtain ⟨h1, h2, h3, h4⟩ := hn
  dsimp only at h1 h2 h3 h4 ⊢
  have e1 : mv k ⟨op, sym, a, b⟩ = if op = 3 ∨ op = 4 then ⟨op, sym, a + k, b + k⟩ else if op = 5 then ⟨op, sym, a + k, b⟩ else ⟨op, sym, a, b⟩ := rfl
  have s0 : w.heap.size < w.heap.size + 1 := by omega
  have fin : ∀ (e : Ending) (w' : World), e = .returned (.agg (ndV (mv k ⟨op, sym, a, b⟩))) → Ext w w' → MovedPost ⟨op, sym, a, b⟩ k w e w' := fun _ _ h h' => ⟨h, h'⟩
  have FIN := hid fin
  clear fin
  by_cases c3 : op = 3
  · subst c3
    rw [if_pos (.inl rfl)] at e1
    have E1 := hid e1
    clear e1
    go_enter Tryd.func78, Tryd.ntmps78
    go_wp2
    refine bodyPost_ret (v := .agg #[.int .i64 3, .string sym, .int .i64 (a + k), .int .i64 (b + k)]) (by simp [results, Tryd.results78, go_sem]) rfl (FIN.out _ _ (by rw [E1.out]; rfl) ?_)
    exact ((Below.refl _ w).alloc (Nat.le_refl _) _).alloc (by simp) _
  · by_cases c4 : op = 4
    · subst c4
      rw [if_pos (.inr rfl)] at e1
      have E1 := hid e1
      clear e1 c3
      go_enter Tryd.func78, Tryd.ntmps78
      go_wp2
      refine bodyPost_ret (v := .agg #[.int .i64 4, .string sym, .int .i64 (a + k), .int .i64 (b + k)]) (by simp [results, Tryd.results78, go_sem]) rfl (FIN.out _ _ (by rw [E1.out]; rfl) ?_)
      exact ((Below.refl _ w).alloc (Nat.le_refl _) _).alloc (by simp) _
    · rw [if_neg (by omega)] at e1
      have d3 : (op == 3) = false := beq_eq_false_iff_ne.2 c3
      have d4 : (op == 4) = false := beq_eq_false_iff_ne.2 c4
      by_cases c5 : op = 5
      · subst c5
        rw [if_pos rfl] at e1
        have E1 := hid e1
        clear e1 c3 c4 d3 d4
        go_enter Tryd.func78, Tryd.ntmps78
        go_wp2
        refine bodyPost_ret (v := .agg #[.int .i64 5, .string sym, .int .i64 (a + k), .int .i64 b]) (by simp [results, Tryd.results78, go_sem]) rfl (FIN.out _ _ (by rw [E1.out]; rfl) ?_)
        exact ((Below.refl _ w).alloc (Nat.le_refl _) _).alloc (by simp) _
      · rw [if_neg c5] at e1
        have d5 : (op == 5) = false := beq_eq_false_iff_ne.2 c5
        have E1 := hid e1
        clear e1 c3 c4 c5
        go_enter Tryd.func78, Tryd.ntmps78
        go_wp2
        refine bodyPost_ret (v := .agg #[.int .i64 op, .string sym, .int .i64 a, .int .i64 b]) (by simp [results, Tryd.results78, go_sem]) rfl (FIN.out _ _ (by rw [E1.out]; rfl) ?_)
        exact ((Below.refl _ w).alloc (Nat.le_refl _) _).alloc (by simp) _

/-- Nodes that are given, and owned, in a new slice. -/
def OwnPost (base : Nat) (l : List Nd) (S : Nat → Prop) (w : World) (e : Ending) (w' : World) : Prop := ∃ v, e = .returned v ∧ OwnN w' base v l ∧ Chg S w w'

set_option maxRecDepth 100000 in
set_option maxHeartbeats 1000000 in
theorem many_any {w : World} {base : Nat} {v : Value} {l : List Nd} (h : OwnN w base v l) (hb : base ≤ w.heap.size) (hl : l.length ≤ 1000000) :
    Calls Tryd.prog 80 #[v] w (OwnPost base (manyL l) (fun k => v.ownBlock = some k) w) := by
  obtain ⟨ao, c, rfl, hlc, _⟩ := OwnR.cells h ndV_size
  have HO := hid h
  have hw : IntKind.i64.wrap ((l.length : Int) - 1) = (l.length : Int) - 1 := by rw [IntKind.wrap_i64]; omega
  clear h
  go_enter Tryd.func80, Tryd.ntmps80
  go_wp2_with (first | (at_builtin; go_must (refine wpList_append_R elem_nd ndV_size ones_ndV HO hb (by omega) ⟨5, nil8, (l.length : Int) - 1, 0⟩ _ rfl w.heap.size rfl rfl _ _ rfl rfl rfl ?_); rintro g' cap' v' w4 rfl H1 H2))
  go_ret
  exact ⟨_, rfl, H1.out, (Chg.refl _ w).grown H2.out.1 (fun k e => e)⟩

set_option maxRecDepth 100000 in
theorem keep_any {w : World} {b : Nat} {s : ByteArray} {r : List UInt8} {ao : Option Addr} {n c : Nat} (h : RdW w b s r) (hn : n ≤ 1024) :
    Calls Tryd.prog 68 #[.pointer (some ⟨b, 0, none⟩), .slice ao n c, .bool true] w fun e w' => e = .returned (.slice ao n c) ∧ w = w' := by
  obtain ⟨j, hB, hA⟩ := h
  have c3 : w.cell? ⟨b, 3, none⟩ = some (.bool false) := hB.cell (i := 3) rfl
  have hd : decide ((1024 : Int) < (n : Int)) = false := decide_eq_false (by omega)
  clear hB hA
  go_enter Tryd.func68, Tryd.ntmps68
  go_wp2
  go_ret
  exact ⟨rfl, rfl⟩

end Go.Proofs.YtngpjagpeblbjaaDoor
