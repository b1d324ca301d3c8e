/-
  How an argument that is a command is opened.
-/
import Derived.Test.YtoknhfmgkgmlhaaDoorR1
import Derived.Lib.SmallJoins
namespace Go.Proofs.YtoknhfmgkgmlhaaDoor
open Go.ChangeShapes Go.WideShapes Go.ChangeAt Go.WideMaps Go.WideElems Go.RowKit Go.Spy Go.Joins

theorem c26 : Tryd.prog.cellsOf 26 = 4 := by kernel_rfl

theorem cmd_arg {H : Type} {enc : TypeId × Value → H} {W : World} {base : Nat} {v : Value} {d : DataW H} {p : List MemPlace} (hv : Value.okWide Tryd.prog W .any base 26 v)
    (h : DataW.Trod enc Tryd.prog W 0 (fun _ => true) true 26 v d p) : ∃ m r vw q, v = .agg #[.int .i64 m, .string r, .bool vw, .bool q] ∧ r.size ≤ 9223372036854775807 ∧ (Lit.int .i64 m).wf = true := by
  obtain ⟨v0, v1, v2, v3, y0, y1, y2, y3, n, rfl, _, _, h0, h1, h2, h3⟩ := open_agg4 Tryd.underlying26 (by kernel_rfl) c26 hv h
  obtain ⟨m, e0, _, hw⟩ := DataW.trod_int Tryd.underlying3 h0
  obtain ⟨r, e1, _, hs⟩ := DataW.trod_string Tryd.underlying9 h1
  obtain ⟨b, e2, _⟩ := DataW.trod_bool Tryd.underlying4 h2
  obtain ⟨q, e3, _⟩ := DataW.trod_bool Tryd.underlying4 h3
  simp only [List.cons.injEq, and_true] at e0 e1 e2 e3
  subst e0 e1 e2 e3
  exact ⟨m, r, b, q, rfl, by unfold maxLen at hs; omega, hw⟩
end Go.Proofs.YtoknhfmgkgmlhaaDoor
