/-
  Aggregates whose cells are held behind one name: laws for the operations that lay, read and store them. No program is named here.
  Rows of things that take the same number of cells each. No program is named here.
  Slices of things that take some cells each, which a call builds by append. No program is named here.
  Regions that draw their order, taken piece by piece: a piece whose operations leave the world alone is walked in the text's order, a piece whose order is forced is walked as a plain list. No program is named here.
-/
import Derived.Laws.ResultCell
import Derived.Test.YtngpjagpeblbjaaDoorLL
import Derived.Laws.CopyRow
import Derived.Deep.Draws
import Derived.Deep.AppendLies
import Derived.OwnWalk
import Derived.StillTail
import Derived.StillTactics
import Derived.OrdersHeld
import Derived.Deep.OwnRows
namespace Go.Spy
open Go.RowKit

/-- The cells of A laid over those of vs, from off on. -/
def splice (vs : Array Value) (off : Nat) (A : Array Value) : Array Value := (vs.toList.take off ++ A.toList ++ vs.toList.drop (off + A.size)).toArray

section
variable {vs A : Array Value} {off i j : Nat}
theorem splice_size (h : off + A.size ≤ vs.size) : (splice vs off A).size = vs.size := by
  simp [splice]; omega
theorem splice_get (h : off + A.size ≤ vs.size) (i : Nat) : (splice vs off A)[i]? = if off ≤ i ∧ i < off + A.size then A[i - off]? else vs[i]? := by
  simp only [splice, List.getElem?_toArray, List.getElem?_append, List.length_append, List.length_take, Array.length_toList, List.getElem?_take, List.getElem?_drop, Array.getElem?_toList]
  have h1 : min off vs.size = off := by omega
  rw [h1]
  by_cases a : i < off
  · rw [if_pos (by omega), if_pos a, if_pos a, if_neg (by omega)]
  · by_cases b : i < off + A.size
    · rw [if_pos b, if_neg a, if_pos ⟨by omega, b⟩]
    · rw [if_neg b, if_neg (by omega)]
      congr 1; omega
theorem splice_in (h : off + A.size ≤ vs.size) (hj : j < A.size) : (splice vs off A)[off + j]? = A[j]? := by
  rw [splice_get h, if_pos ⟨by omega, by omega⟩]; congr 1; omega
theorem splice_out (h : off + A.size ≤ vs.size) (hi : i < off ∨ off + A.size ≤ i) : (splice vs off A)[i]? = vs[i]? := by
  rw [splice_get h, if_neg (by omega)]
theorem splice_all (h : vs.size = A.size) : splice vs 0 A = A := by
  apply Array.ext_getElem?
  intro i
  rw [splice_get (by omega)]
  split
  · rfl
  · rw [Array.getElem?_eq_none (by omega), Array.getElem?_eq_none (by omega)]
end

/-- Each value is that of one cell. -/
def Ones (A : Array Value) : Prop := ∀ v ∈ A, v.oneCell' = true
theorem Ones.get {A : Array Value} (h : Ones A) {i : Nat} {v : Value} (hv : A[i]? = some v) : v.oneCell' = true := h v (Array.mem_of_getElem? hv)
theorem ones_mk {A : Array Value} (h : ∀ (i : Nat) (v : Value), A[i]? = some v → v.oneCell' = true) : Ones A := by
  intro v hv
  obtain ⟨i, hi⟩ := Array.getElem?_of_mem hv
  exact h i v hi
theorem ones_splice {vs A : Array Value} {off : Nat} (h : off + A.size ≤ vs.size) (hv : Ones vs) (hA : Ones A) : Ones (splice vs off A) := by
  refine ones_mk fun i v hi => ?_
  rw [splice_get h] at hi
  split at hi
  · exact hA.get hi
  · exact hv.get hi

section
variable {w w' : World} {b : Nat} {t : TypeId} {vs : Array Value}
theorem Blk.setRow (h : Blk w b t vs) (cs : Array Value) : Blk (w.setRow b cs) b t cs := setRow_heap w b vs cs t _ h
theorem Blk.setRowOther (h : Blk w b t vs) {g : Nat} (hg : b ≠ g) (cs : Array Value) : Blk (w.setRow g cs) b t vs := (setRow_other w g b cs hg).trans h
theorem Chg.setRow {S : Nat → Prop} {a : World} (h : Chg S a w) {g : Nat} (hg : S g) (cs : Array Value) : Chg S a (w.setRow g cs) :=
  h.trans ⟨rfl, rfl, rfl, by simp, fun k _ hs => setRow_other w g k cs (fun e => hs (e ▸ hg))⟩
end

section
variable {P : Program}

theorem run_storeVar_at (w : World) (g off : Nat) (t ty : TypeId) (vs A : Array Value) (hg : Blk w g t vs) (hi : (P.info? ty).map (·.size) = some A.size)
    (hf : off + A.size ≤ vs.size) (h1 : Ones A) :
    (storeVar ty ⟨g, off, none⟩ (.agg A)).run P w = .ok () (w.setRow g (splice vs off A)) := by
  have := run_storeCells_at P g off t A.toList 0 vs w hg (by simpa using hf) (fun v hv => h1 v (by simpa using hv))
  cases hq : P.info? ty with
  | none => simp [hq] at hi
  | some i =>
    have hs : A.size = i.size := by simp [hq] at hi; omega
    simp only [storeVar, sizeOf, typeInfo, Value.cells, Sem.run_bind, run_program, Result.andThen_ok, hq, Sem.run_pure, hs, ne_eq, not_true_eq_false, if_false, this]
    simp only [splice, Array.length_toList, Nat.add_zero, hs]

theorem run_loadVar_at (w : World) (g off : Nat) (t ty : TypeId) (vs : Array Value) (d : TypeDesc) (n : Nat) (hg : Blk w g t vs)
    (hu : P.underlying ty = some d) (hd : (match d with | .struct _ | .array _ _ => true | _ => false) = true) (hi : (P.info? ty).map (·.size) = some n) (hf : off + n ≤ vs.size) :
    (loadVar ty ⟨g, off, none⟩).run P w = .ok (.agg (vs.extract off (off + n))) w := by
  have hlen : (vs.extract off (off + n)).toList.length = n := by simp; omega
  have hl := run_loadCells_list (P := P) w ⟨g, off, none⟩ (vs.extract off (off + n)).toList (fun j v hv => by
      have hadd : (⟨g, off, none⟩ : Addr).add j = ⟨g, off + j, none⟩ := by unfold Addr.add; split <;> simp_all
      have hj : j < n := by
        have := (List.getElem?_eq_some_iff.1 hv).1
        omega
      rw [hadd, cell_of_row w g (off + j) vs t (0, 0) hg]
      rw [Array.getElem?_toList, Array.getElem?_extract_of_lt (by omega)] at hv
      rw [← hv]; exact Array.getElem?_eq_getElem _)
  cases hq : P.info? ty with
  | none => simp [hq] at hi
  | some i =>
    have hs : i.size = n := by simpa [hq] using hi
    have hagg : (isAgg ty).run P w = .ok true w := by
      unfold isAgg
      rw [Sem.run_bind, run_underlying hu w]
      cases d <;> simp_all
    rw [hlen] at hl
    simp only [Array.toArray_toList] at hl
    simp [loadVar, Sem.run_bind, hagg, sizeOf, typeInfo, hq, hs, hl]

/-- A load of an aggregate, out of a block whose cells are behind a name. -/
theorem wpList_load_agg {ops : Array Oper} {rest : List Oper} {o : Oper} {a : Act} {w : World} {Q : Exit → Act → World → Prop} (hgd : o.guard = none) (ty : TypeId) (x : Operand) (ho : o.op = .load ty x)
    (g off : Nat) (hx : a.eval x = .pointer (some ⟨g, off, none⟩)) (t : TypeId) (vs : Array Value) (d : TypeDesc) (n : Nat) (hg : Blk w g t vs)
    (hu : P.underlying ty = some d) (hd : (match d with | .struct _ | .array _ _ => true | _ => false) = true) (hi : (P.info? ty).map (·.size) = some n) (hf : off + n ≤ vs.size)
    (h : ∀ C, Hid (C = vs.extract off (off + n)) → wpList P ops Q rest (a.put o.dst (.agg C)) w) : wpList P ops Q (o :: rest) a w :=
  wpList_plain hgd fun _ hK => by
    unfold Oper.wp execOp
    simp only [ho, hx, Instr.loadAt, Instr.sureAddr, Sem.run_bind, Sem.run_pure, Result.andThen_ok, run_loadVar_at w g off t ty vs d n hg hu hd hi hf]
    exact hK _ _ (h _ rfl)

/-- A store of an aggregate into a block whose cells are behind a name. -/
theorem wpList_store_agg {ops : Array Oper} {rest : List Oper} {o : Oper} {a : Act} {w : World} {Q : Exit → Act → World → Prop} (hgd : o.guard = none) (ty : TypeId) (x y : Operand) (ho : o.op = .store ty x y)
    (g off : Nat) (A : Array Value) (hx : a.eval x = .pointer (some ⟨g, off, none⟩)) (hy : a.eval y = .agg A)
    (t : TypeId) (vs : Array Value) (hg : Blk w g t vs) (hi : (P.info? ty).map (·.size) = some A.size) (hf : off + A.size ≤ vs.size) (h1 : Ones A)
    (h : ∀ w', Hid (Blk w' g t (splice vs off A) ∧ Chg (· = g) w w') → w'.heap.size = w.heap.size → wpList P ops Q rest (a.put o.dst undef) w') : wpList P ops Q (o :: rest) a w :=
  wpList_plain hgd fun _ hK => by
    unfold Oper.wp execOp
    simp only [ho, hx, hy, Instr.storeAt, Instr.sureAddr, Sem.run_bind, Sem.run_pure, Result.andThen_ok, run_storeVar_at w g off t ty vs A hg hi hf h1]
    exact hK _ _ (h _ ⟨hg.setRow _, (Chg.refl (· = g) _).setRow (g := g) rfl _⟩ (by simp))

/-- A new variable of an aggregate's type, its zero behind a name. -/
theorem wpList_alloc_agg {ops : Array Oper} {rest : List Oper} {o : Oper} {a : Act} {w : World} {Q : Exit → Act → World → Prop} (hgd : o.guard = none) (ty : TypeId) (ho : o.op = .alloc ty)
    (Z : Array Value) (hz : (P.info? ty).map (·.zero) = some (some (.agg Z)))
    (h : ∀ w', Hid (Blk w' w.heap.size ty Z ∧ Ext w w') → w'.heap.size = w.heap.size + 1 → wpList P ops Q rest (a.put o.dst (.pointer (some ⟨w.heap.size, 0, none⟩))) w') : wpList P ops Q (o :: rest) a w :=
  wpList_plain hgd fun _ hK => by
    cases hq : P.info? ty with
    | none => simp [hq] at hz
    | some i =>
      have hs : i.zero = some (.agg Z) := by simpa [hq] using hz
      unfold Oper.wp execOp
      simp only [ho, Instr.alloc, zeroValue, typeInfo, hq, hs, newVar, newRow, run_newObj_alloc, run_program, Value.cells, Sem.run_bind, Sem.run_pure, Result.andThen_ok]
      exact hK _ _ (h _ ⟨Blk.new w ty Z, (Below.refl _ _).alloc (Nat.le_refl _) _⟩ (by simp))

/-- The same, the world as the walk spells it. -/
theorem wpList_alloc_aggN {ops : Array Oper} {rest : List Oper} {o : Oper} {a : Act} {w : World} {Q : Exit → Act → World → Prop} (hgd : o.guard = none) (ty : TypeId) (ho : o.op = .alloc ty)
    (Z : Array Value) (hz : (P.info? ty).map (·.zero) = some (some (.agg Z)))
    (h : ∀ Z', Hid (Z' = Z) → wpList P ops Q rest (a.put o.dst (.pointer (some ⟨w.heap.size, 0, none⟩))) (w.alloc (.cells Z' ty))) : wpList P ops Q (o :: rest) a w :=
  wpList_plain hgd fun _ hK => by
    cases hq : P.info? ty with
    | none => simp [hq] at hz
    | some i =>
      have hs : i.zero = some (.agg Z) := by simpa [hq] using hz
      unfold Oper.wp execOp
      simp only [ho, Instr.alloc, zeroValue, typeInfo, hq, hs, newVar, newRow, run_newObj_alloc, run_program, Value.cells, Sem.run_bind, Sem.run_pure, Result.andThen_ok]
      exact hK _ _ (h _ rfl)

/-- The same for one slot. -/
theorem wpList_alloc_aggD {ops : Array Oper} {rest : List Oper} {o : Oper} {a : Act} {w : World} {Q : Exit → Act → World → Prop} (hgd : o.guard = none) (ty : TypeId) (ho : o.op = .alloc ty) (d : Tmp) (_ : o.dst = some d)
    (Z : Array Value) (hz : (P.info? ty).map (·.zero) = some (some (.agg Z)))
    (h : ∀ Z', Hid (Z' = Z) → wpList P ops Q rest (a.put o.dst (.pointer (some ⟨w.heap.size, 0, none⟩))) (w.alloc (.cells Z' ty))) : wpList P ops Q (o :: rest) a w :=
  wpList_alloc_aggN hgd ty ho Z hz h

theorem setRow_last (w : World) (t : TypeId) (Z A : Array Value) {g : Nat} (hg : g = w.heap.size) : (w.alloc (.cells Z t)).setRow g A = w.alloc (.cells A t) := by
  subst hg
  unfold World.setRow World.alloc
  congr 1
  apply Array.ext_getElem?
  intro i
  rw [Array.getElem?_modify, Array.getElem?_push, Array.getElem?_push]
  by_cases h : i = w.heap.size
  · subst h; simp
  · simp [h, Ne.symm h]
/-- A store into the whole of the block that was laid last. -/
theorem wpList_store_last {ops : Array Oper} {rest : List Oper} {o : Oper} {a : Act} {w : World} {Q : Exit → Act → World → Prop} (hgd : o.guard = none) (ty : TypeId) (x y : Operand) (ho : o.op = .store ty x y)
    (g : Nat) (A : Array Value) (hx : a.eval x = .pointer (some ⟨g, 0, none⟩)) (hy : a.eval y = .agg A)
    (t : TypeId) (Z : Array Value) (hg : g = w.heap.size) (hi : (P.info? ty).map (·.size) = some A.size) (hf : Z.size = A.size) (h1 : Ones A)
    (h : wpList P ops Q rest (a.put o.dst undef) (w.alloc (.cells A t))) : wpList P ops Q (o :: rest) a (w.alloc (.cells Z t)) :=
  wpList_plain hgd fun _ hK => by
    unfold Oper.wp execOp
    simp only [ho, hx, hy, Instr.storeAt, Instr.sureAddr, Sem.run_bind, Sem.run_pure, Result.andThen_ok, run_storeVar_at (P := P) (w.alloc (.cells Z t)) g 0 t ty Z A (Blk.new' w t Z hg) hi (by omega) h1, splice_all hf, setRow_last w t Z A hg]
    exact hK _ _ h

/-- A value of an aggregate's type is boxed. -/
theorem wpList_box_agg {ops : Array Oper} {rest : List Oper} {o : Oper} {a : Act} {w : World} {Q : Exit → Act → World → Prop} (hgd : o.guard = none) (ty : TypeId) (x : Operand) (ho : o.op = .box ty x)
    (A : Array Value) (hx : a.eval x = .agg A)
    (h : ∀ w', Hid (Blk w' w.heap.size ty A ∧ Ext w w') → w'.heap.size = w.heap.size + 1 → wpList P ops Q rest (a.put o.dst (.pointer (some ⟨w.heap.size, 0, none⟩))) w') : wpList P ops Q (o :: rest) a w :=
  wpList_plain hgd fun _ hK => by
    unfold Oper.wp execOp
    simp only [ho, hx, Instr.box, newVar, newRow, run_newObj_alloc, Value.cells, Sem.run_bind, Sem.run_pure, Result.andThen_ok]
    exact hK _ _ (h _ ⟨Blk.new w ty A, (Below.refl _ _).alloc (Nat.le_refl _) _⟩ (by simp))

/-- A result that lies in a block of its own. -/
theorem results_cell_agg {fn : Func} {p : Tmp} {ty : TypeId} (h : fn.results = #[.cell p ty]) (tmps : Array Value) (w : World) (g : Nat) (t : TypeId) (vs : Array Value) (d : TypeDesc)
    (hp : tmps.getD p undef = .pointer (some ⟨g, 0, none⟩)) (hg : Blk w g t vs)
    (hu : P.underlying ty = some d) (hd : (match d with | .struct _ | .array _ _ => true | _ => false) = true) (hi : (P.info? ty).map (·.size) = some vs.size) :
    (results fn tmps).run P w = .ok (.agg vs) w :=
  results_cell_row h tmps w g t vs (0, 0) d hp hg hu hd hi

/-- A result that lies in a block of its own, and one in a slot. -/
theorem results_cell_agg_tmp {fn : Func} {p u : Tmp} {ty : TypeId} (h : fn.results = #[.cell p ty, .tmp u]) (tmps : Array Value) (w : World) (g : Nat) (t : TypeId) (vs : Array Value) (d : TypeDesc) (v : Value)
    (hp : tmps.getD p undef = .pointer (some ⟨g, 0, none⟩)) (hv : tmps.getD u undef = v) (hg : Blk w g t vs)
    (hu : P.underlying ty = some d) (hd : (match d with | .struct _ | .array _ _ => true | _ => false) = true) (hi : (P.info? ty).map (·.size) = some vs.size) :
    (results fn tmps).run P w = .ok (.tuple #[.agg vs, v]) w := by
  rw [results_cell_tmp h]
  simp only [hp, asAddr, Sem.run_pure, Result.andThen_ok, run_loadVar_row w g t ty vs (0, 0) d hg hu hd hi, hv]

/-- A composite value, its cells behind a name: the program's own fill, out of the walk. -/
theorem wpList_build_agg {ops : Array Oper} {rest : List Oper} {o : Oper} {a : Act} {w : World} {Q : Exit → Act → World → Prop} (hgd : o.guard = none) (t : TypeId) (parts : Array (Nat × Operand)) (ho : o.op = .build t parts)
    (ps : List (Nat × Value)) (hps : (parts.toList.map fun p => (p.1, a.eval p.2)) = ps) (C : Array Value) (hb : P.built t ps = some C)
    (h : ∀ C', Hid (C' = C) → wpList P ops Q rest (a.put o.dst (.agg C')) w) : wpList P ops Q (o :: rest) a w :=
  wpList_plain hgd fun _ hK => by
    have hp : (parts.map fun (i, x) => (i, a.eval x)).toList = ps := by rw [Array.toList_map]; exact hps
    unfold Oper.wp execOp
    simp only [ho, Sem.run_bind, run_build w t _ C (by rw [hp]; exact hb), Result.andThen_ok]
    exact hK _ _ (h _ rfl)

/-- A field of an aggregate that is itself one. -/
theorem wpList_field_agg {ops : Array Oper} {rest : List Oper} {o : Oper} {a : Act} {w : World} {Q : Exit → Act → World → Prop} (hgd : o.guard = none) (t : TypeId) (x : Operand) (k : Nat) (ho : o.op = .field t x k)
    (A : Array Value) (hx : a.eval x = .agg A) (fs : Array Field) (hu : P.underlying t = some (.struct fs)) (f : Field) (hf : fs[k]? = some f)
    (d : TypeDesc) (hd0 : P.underlying f.type = some d) (hd : (match d with | .struct _ | .array _ _ => true | _ => false) = true) (n : Nat) (hi : (P.info? f.type).map (·.size) = some n)
    (h : ∀ C, Hid (C = A.extract f.offset (f.offset + n)) → wpList P ops Q rest (a.put o.dst (.agg C)) w) : wpList P ops Q (o :: rest) a w :=
  wpList_plain hgd fun _ hK => by
    cases hq : P.info? f.type with
    | none => simp [hq] at hi
    | some i =>
      have hs : i.size = n := by simpa [hq] using hi
      have hagg : (isAgg f.type).run P w = .ok true w := by
        unfold isAgg
        rw [Sem.run_bind, run_underlying hd0 w]
        cases d <;> simp_all
      unfold Oper.wp execOp
      simp only [ho, hx, Instr.field, run_underlying hu, hf, asAgg, part, hagg, sizeOf, typeInfo, hq, hs, run_program, if_true, Sem.run_bind, Sem.run_pure, Result.andThen_ok]
      exact hK _ _ (h _ rfl)

/-! ### the cells that fill lays -/
theorem foldl_splice (l : List Value) (off i : Nat) (cs : Array Value) (h : off + i + l.length ≤ cs.size) :
    (l.zipIdx i).foldl (fun cs (x : Value × Nat) => cs.setIfInBounds (off + x.2) x.1) cs = splice cs (off + i) l.toArray := by
  induction l generalizing i cs with
  | nil =>
    apply Array.ext_getElem?
    intro j
    rw [splice_get (by simpa using h)]
    simp only [List.zipIdx_nil, List.foldl_nil, List.size_toArray, List.length_nil]
    rw [if_neg (by omega)]
  | cons v l ih =>
    simp only [List.zipIdx_cons, List.foldl_cons]
    simp only [List.length_cons] at h
    rw [ih (i + 1) _ (by simp; omega)]
    apply Array.ext_getElem?
    intro j
    rw [splice_get (by simp; omega), splice_get (by simp; omega)]
    simp only [List.size_toArray, List.length_cons, List.getElem?_toArray]
    by_cases hj : off + i = j
    · subst hj
      rw [if_neg (by omega), if_pos (by omega), Array.getElem?_setIfInBounds_self]
      rw [if_pos (by omega), Nat.sub_self]; rfl
    · by_cases h1 : off + (i + 1) ≤ j ∧ j < off + (i + 1) + l.length
      · rw [if_pos h1, if_pos (by omega), show j - (off + i) = (j - (off + (i + 1))) + 1 by omega]; rfl
      · rw [if_neg h1, if_neg (by omega), Array.getElem?_setIfInBounds_ne hj]

theorem fill_one {place : Nat → Option (Nat × Nat)} {cells : Array Value} {i off size : Nat} {v : Value} {rest : List (Nat × Value)} (hp : place i = some (off, size)) (hs : v.cells.size = size) (hf : off + size ≤ cells.size) :
    Instr.fill place cells ((i, v) :: rest) = Instr.fill place (splice cells off v.cells) rest := by
  rw [Instr.fill, hp]
  have hc : ¬ (v.cells.size ≠ size || decide (off + v.cells.size > cells.size)) = true := by
    simp [hs]; omega
  simp only [hc, if_false]
  have := foldl_splice v.cells.toList off 0 cells (by simp; omega)
  rw [← Array.foldl_toList, Array.toList_zipIdx]
  simpa using congrArg (fun c => Instr.fill place c rest) this
end
end Go.Spy
namespace Go.Spy
open Go.RowKit

theorem get_of {A : Array Value} {i : Nat} {v : Value} {h : i < A.size} (e : A[i]? = some v) : A[i]'h = v := by
  rw [Array.getElem?_eq_getElem h] at e; exact Option.some.inj e

theorem ext_drewN {w w' : World} (h : Ext w w') (n : Nat) : Ext w (w'.drewN n) := ⟨h.os, h.tape, h.output, h.size, h.block⟩
theorem Blk.drewN {w : World} {b : Nat} {t : TypeId} {vs : Array Value} (h : Blk w b t vs) (n : Nat) : Blk (w.drewN n) b t vs := h
theorem Chg.drewN {S : Nat → Prop} {a w : World} (h : Chg S a w) (n : Nat) : Chg S a (w.drewN n) := ⟨h.os, h.tape, h.output, h.size, h.block⟩

theorem blk_ne {w : World} {b b' : Nat} {t t' : TypeId} {vs vs' : Array Value} (h : Blk w b t vs) (h' : Blk w b' t' vs') (ht : t ≠ t') : b ≠ b' := by
  rintro rfl
  have := Option.some.inj ((show w.heap[b]? = some (.cells vs t (0, 0)) from h).symm.trans h')
  simp only [Obj.cells.injEq] at this
  exact ht this.2.1

theorem flat_get {α β : Type} (f : α → List β) (s : Nat) (hf : ∀ x, (f x).length = s) : ∀ (d : List α) (j k : Nat), k < s → (d.flatMap f)[j * s + k]? = (d[j]?).bind (fun x => (f x)[k]?)
  | [], j, k, hk => by simp
  | x :: d, 0, k, hk => by
    simp only [List.flatMap_cons, Nat.zero_mul, Nat.zero_add, List.getElem?_cons_zero, Option.bind_some]
    rw [List.getElem?_append_left (by rw [hf]; exact hk)]
  | x :: d, j + 1, k, hk => by
    simp only [List.flatMap_cons, List.getElem?_cons_succ]
    rw [List.getElem?_append_right (by rw [hf, Nat.succ_mul]; omega), ← flat_get f s hf d j k hk, hf]
    congr 1
    rw [Nat.succ_mul]; omega
theorem flat_len {α β : Type} (f : α → List β) (s : Nat) (hf : ∀ x, (f x).length = s) (d : List α) : (d.flatMap f).length = d.length * s := by
  induction d with
  | nil => simp
  | cons x d ih => simp [ih, hf, Nat.succ_mul, Nat.add_comm]

theorem seg_lt {k n s j : Nat} (hk : k < n) (hj : j < s) : k * s + j < n * s := by
  have := Nat.mul_le_mul_right s hk
  rw [Nat.succ_mul] at this; omega

/-- The cells of things of s cells each. -/
def rowV {α : Type} (f : α → Array Value) (xs : List α) : Array Value := (xs.flatMap fun x => (f x).toList).toArray
section
variable {α : Type} {f : α → Array Value} {s : Nat} {xs : List α} {k j : Nat} {x : α}
theorem rowV_size (hf : ∀ x, (f x).size = s) (xs : List α) : (rowV f xs).size = xs.length * s := by
  rw [rowV, List.size_toArray, flat_len _ s (fun x => by simpa using hf x)]
theorem rowV_get (hf : ∀ x, (f x).size = s) (hx : xs[k]? = some x) (hj : j < s) : (rowV f xs)[k * s + j]? = (f x)[j]? := by
  rw [rowV, List.getElem?_toArray, flat_get _ s (fun x => by simpa using hf x) _ _ _ hj, hx]; simp
theorem rowV_extract (hf : ∀ x, (f x).size = s) (hx : xs[k]? = some x) : (rowV f xs).extract (k * s) (k * s + s) = f x := by
  have hk : k < xs.length := (List.getElem?_eq_some_iff.1 hx).1
  have hsz := rowV_size hf xs
  have h1 : k * s + s ≤ xs.length * s := by have := Nat.mul_le_mul_right s hk; rw [Nat.succ_mul] at this; exact this
  apply Array.ext_getElem?
  intro i
  by_cases hi : i < s
  · rw [Array.getElem?_extract_of_lt (by rw [hsz]; omega), ← rowV_get hf hx hi]; exact (Array.getElem?_eq_getElem _).symm
  · rw [Array.getElem?_eq_none (by simp; omega), Array.getElem?_eq_none (by rw [hf]; omega)]
theorem rowV_splice (hf : ∀ x, (f x).size = s) (hk : k < xs.length) (y : α) : splice (rowV f xs) (k * s) (f y) = rowV f (xs.set k y) := by
  have hsz := rowV_size hf xs
  have h1 : k * s + s ≤ xs.length * s := by have := Nat.mul_le_mul_right s hk; rw [Nat.succ_mul] at this; exact this
  apply Array.ext_getElem?
  intro i
  rw [splice_get (by rw [hf, hsz]; exact h1), hf]
  by_cases h0 : s = 0
  · subst h0
    have e1 : (rowV f xs).size = 0 := by rw [hsz, Nat.mul_zero]
    have e2 : (rowV f (xs.set k y)).size = 0 := by rw [rowV_size hf, Nat.mul_zero]
    rw [if_neg (by omega), Array.getElem?_eq_none (by omega), Array.getElem?_eq_none (by omega)]
  · have hs : 0 < s := by omega
    have hi : i = (i / s) * s + i % s := by rw [Nat.mul_comm]; exact (Nat.div_add_mod i s).symm
    have hr : i % s < s := Nat.mod_lt _ hs
    generalize i / s = q at *
    generalize i % s = r at *
    subst hi
    by_cases hq : q = k
    · subst hq
      rw [if_pos (by omega), rowV_get hf (x := y) (by simp [hk]) hr]; congr 1; omega
    · have hne : ¬ (k * s ≤ q * s + r ∧ q * s + r < k * s + s) := by
        rintro ⟨a, b⟩
        rcases Nat.lt_or_gt_of_ne hq with h | h
        · have := Nat.mul_le_mul_right s (show q + 1 ≤ k from h); rw [Nat.succ_mul] at this; omega
        · have := Nat.mul_le_mul_right s (show k + 1 ≤ q from h); rw [Nat.succ_mul] at this; omega
      rw [if_neg hne]
      cases hx : xs[q]? with
      | some x => rw [rowV_get hf hx hr, rowV_get hf (x := x) (by rw [List.getElem?_set_ne (Ne.symm hq)]; exact hx) hr]
      | none =>
        have hl : xs.length ≤ q := by simpa using hx
        have := Nat.mul_le_mul_right s hl
        rw [Array.getElem?_eq_none (by rw [hsz]; omega), Array.getElem?_eq_none (by rw [rowV_size hf, List.length_set]; omega)]
theorem rowV_append (xs ys : List α) : rowV f (xs ++ ys) = rowV f xs ++ rowV f ys := by simp [rowV]
theorem ones_rowV (h1 : ∀ x ∈ xs, Ones (f x)) : Ones (rowV f xs) := by
  intro v hv
  simp only [rowV, List.mem_toArray, List.mem_flatMap, Array.mem_toList_iff] at hv
  obtain ⟨x, hx, hv⟩ := hv
  exact h1 x hx v hv
end
end Go.Spy
namespace Go.Spy
open Go.RowKit

section
variable {α : Type}
/-- The slice value owns these things. -/
def OwnR (w : World) (base : Nat) (e : TypeId) (s : Nat) (f : α → Array Value) (v : Value) (l : List α) : Prop := w.ownsRow base e s v l.length (l.flatMap fun x => (f x).toList)

/-- What is known of the type of the things. -/
structure ElemOk (P : Program) (t e : TypeId) (s bytes : Nat) : Prop where
  under : P.underlying t = some (.slice e)
  info : ∃ i z, P.info? e = some i ∧ i.zero = some z ∧ i.size = s ∧ i.bytes = bytes ∧ z.cells.size = s
  pos : 0 < s
  small : bytes ≤ 4096

variable {w w' : World} {base : Nat} {e : TypeId} {s : Nat} {f : α → Array Value} {v : Value} {l : List α}
theorem OwnR.nil (w : World) (base : Nat) (e : TypeId) (s : Nat) (f : α → Array Value) : OwnR w base e s f (.slice none 0 0) [] := World.ownsRow_nil _ _ _ _
theorem OwnR.alloc (h : OwnR w base e s f v l) (o : Obj) : OwnR (w.alloc o) base e s f v l := World.ownsRow.alloc h o
theorem OwnR.drew (h : OwnR w base e s f v l) : OwnR w.drew base e s f v l := h
theorem OwnR.drewN (h : OwnR w base e s f v l) (n : Nat) : OwnR (w.drewN n) base e s f v l := h
theorem OwnR.chg (h : OwnR w base e s f v l) {S : Nat → Prop} (c : Chg S w w') (hS : ∀ k, v.ownBlock = some k → ¬ S k) : OwnR w' base e s f v l := owns_chg h c hS
theorem OwnR.ext (h : OwnR w base e s f v l) (c : Ext w w') : OwnR w' base e s f v l := by
  refine ⟨h.1, ?_⟩
  rcases h.2 with h0 | ⟨g, cap, cur, rfl, hb, hg, rest⟩
  · exact .inl h0
  · exact .inr ⟨g, cap, cur, rfl, hb, (c.block g (Array.getElem?_eq_some_iff.1 hg).1).trans hg, rest⟩
theorem OwnR.lower (h : OwnR w base e s f v l) {b : Nat} (hb : b ≤ base) : OwnR w b e s f v l := by
  refine ⟨h.1, ?_⟩
  rcases h.2 with h0 | ⟨g, cap, cur, rfl, hb', rest⟩
  · exact .inl h0
  · exact .inr ⟨g, cap, cur, rfl, Nat.le_trans hb hb', rest⟩
theorem OwnR.lt (h : OwnR w base e s f v l) : ∀ k, v.ownBlock = some k → base ≤ k ∧ k < w.heap.size := World.ownsRow.lt h

/-- Where the things lie. -/
theorem OwnR.cells (h : OwnR w base e s f v l) (hf : ∀ x, (f x).size = s) : ∃ ao c, v = .slice ao l.length c ∧ l.length ≤ c ∧ (l.length = 0 ∨ ∃ g, ao = some ⟨g, 0, none⟩ ∧ base ≤ g ∧ g < w.heap.size ∧ ∃ cur, Blk w g e cur ∧ cur.size = c * s ∧
    ∀ (j k : Nat) (x : α), l[j]? = some x → k < s → cur[j * s + k]? = (f x)[k]?) := by
  rcases h.2 with ⟨rfl, h0⟩ | ⟨g, cap, cur, rfl, hb, hg, hnc, hcm, hcs, ht⟩
  · exact ⟨none, 0, by rw [h0], by omega, .inl h0⟩
  · refine ⟨_, cap, rfl, hnc, .inr ⟨g, rfl, hb, (Array.getElem?_eq_some_iff.1 hg).1, cur, hg, hcs, fun j k x hx hk => ?_⟩⟩
    have h1 := flat_get (fun x => (f x).toList) s (fun x => by simpa using hf x) l j k hk
    rw [hx, Option.bind_some, ← ht] at h1
    have hj : j < l.length := (List.getElem?_eq_some_iff.1 hx).1
    have := seg_lt hj hk
    rw [List.getElem?_take, if_pos (by omega)] at h1
    simpa using h1

/-- One thing more, as the walk takes it: it was laid into a block of its own. -/
theorem wpList_append_R {P : Program} {t : TypeId} {bytes : Nat} (E : ElemOk P t e s bytes) (hf : ∀ x, (f x).size = s) (h1 : ∀ x, Ones (f x)) {w0 : World} (hown : Hid (OwnR w0 base e s f v l)) (hb : base ≤ w0.heap.size) (hn : l.length + 1 ≤ 1000000000) (x : α) (C : Array Value) (hC : C = f x)
    (H : Nat) (hH : w0.heap.size = H) {ops : Array Oper} {rest : List Oper} {o : Oper} {a : Act} {Q : Exit → Act → World → Prop} (hgd : o.guard = none) (so xo : Operand)
    (ho : o.op = .call { callee := .builtin .append, args := #[so, xo], argTypes := #[t, t] }) (hs : a.eval so = v) (hx : a.eval xo = .slice (some ⟨H, 0, none⟩) 1 1)
    (hK : ∀ (g cap : Nat) (v' : Value) (w4 : World), v' = .slice (some ⟨g, 0, none⟩) (l.length + 1) cap → Hid (OwnR w4 base e s f v' (l ++ [x])) → Hid (w0.grownBy w4 v.ownBlock ∧ (v.ownBlock = some g ∨ w0.heap.size ≤ g)) →
      wpList P ops Q rest (a.put o.dst v') w4) :
    wpList P ops Q (o :: rest) a (w0.alloc (.cells C e)) := by
  subst hH hC
  obtain ⟨i, z, hi, hz, hz1, hz2, hz3⟩ := E.info
  refine wpList_append_lies _ hgd so xo t ho base e i z s bytes E.under hi hz hz1 hz2 hz3 E.pos v l.length _ hs (World.ownsRow.alloc hown.out _) ⟨w0.heap.size, 0, none⟩ 1 1 (f x).toList hx (by simp [hf]) ?_ ?_ (by decide) (by unfold maxLen; omega) ?_ (by simp; omega) _ rfl ?_
  · exact World.news_of_block (Blk.new w0 e (f x))
  · intro u hu; exact h1 x u (by simpa using hu)
  · have := E.small
    have : (l.length + 1) * bytes ≤ 1000000000 * 4096 := Nat.mul_le_mul hn this
    omega
  · intro g cap w4 g1 g2 g3 _
    refine hK g cap _ w4 rfl (hid ?_) (hid ⟨?_, ?_⟩)
    · unfold OwnR; rw [List.flatMap_append, List.length_append]; simpa using g1
    · exact ⟨g2.os, g2.tape, g2.output, Nat.le_trans (by simp) g2.size, fun k hk hr => (g2.block k (by simp; omega) hr).trans (Below.heap_alloc _ _ _ hk)⟩
    · rcases g3 with e | e
      · exact .inl e
      · right; simp at e; omega

theorem ext_grown {w wr w4 : World} {row : Option Nat} (h : Ext w wr) (k : wr.grownBy w4 row) (hr : ∀ i, row = some i → w.heap.size ≤ i) : Ext w w4 :=
  ⟨k.os.trans h.os, k.tape.trans h.tape, k.output.trans h.output, Nat.le_trans h.size k.size, fun i hi => (k.block i (Nat.lt_of_lt_of_le hi h.size) (fun e => by have := hr i e.symm; omega)).trans (h.block i hi)⟩
end
end Go.Spy
namespace Go.Spy
open Go.RowKit

section
variable {P : Program} {ops : Array Oper} {md : Region.Mode} {w : World}

/-- Each operation behind n waits for one of those from n on that stand ahead of it. -/
def laterB (md : Region.Mode) (ops : Array Oper) (n : Nat) : Bool :=
  (List.range ops.size).all fun t => decide (t ≤ n) || (List.range t).any fun u => decide (n ≤ u) && Region.waitsFor md ops t u

theorem tail_waits2 {n : Nat} {listed : Array Bool} (hs : Region.sinkB md ops n = true) (hc : laterB md ops n = true) (hn : n < ops.size) (inv : HeadInv md ops n listed) :
    ∀ (d i : Nat), n - i = d → i < n → listed.getD i true = false → ∀ t, n ≤ t → t ∉ Region.ready md ops listed := by
  intro d
  induction d using Nat.strongRecOn with
  | _ d ih =>
    intro i hd hi hun t ht hr
    obtain ⟨_, ot, hot, hall⟩ := mem_ready.1 hr
    have htlt : t < ops.size := (Array.getElem?_eq_some_iff.1 hot).1
    by_cases htn : t = n
    · subst htn
      have h1 := List.all_eq_true.1 hs i (List.mem_range.2 hi)
      obtain ⟨j, hj, hj2⟩ := List.any_eq_true.1 h1
      simp only [Bool.and_eq_true, decide_eq_true_eq] at hj2
      obtain ⟨oj, hoj, e, he, hb, hon⟩ := Region.waitsFor_spec hj2.2
      have hjle : j ≤ t := by have := List.mem_range.1 hj; omega
      by_cases hjt : j = t
      · subst hjt
        have : oj = ot := Option.some.inj (hoj.symm.trans hot)
        subst this
        have h2 := hall e he hb
        rw [hon, getD_both hun] at h2
        cases h2
      · cases hl : listed.getD j false with
        | true =>
          have h2 := inv.closed j oj hoj hl e he hb
          rw [hon, getD_both hun] at h2
          cases h2
        | false =>
          have hjs : j < listed.size := by rw [inv.size]; omega
          exact ih (t - j) (by omega) j rfl (by omega) (getD_in hjs hl) t (Nat.le_refl _) hr
    · have h1 := List.all_eq_true.1 hc t (List.mem_range.2 htlt)
      simp only [Bool.or_eq_true, decide_eq_true_eq] at h1
      rcases h1 with h1 | h1
      · omega
      · obtain ⟨u, hu, hu2⟩ := List.any_eq_true.1 h1
        simp only [Bool.and_eq_true, decide_eq_true_eq] at hu2
        obtain ⟨o', ho', e, he, hb, hon⟩ := Region.waitsFor_spec hu2.2
        have : o' = ot := Option.some.inj (ho'.symm.trans hot)
        subst this
        have h2 := hall e he hb
        have := List.mem_range.1 hu
        rw [hon, getD_both (inv.tail u hu2.1 (by omega))] at h2
        cases h2

theorem wpAnyL_first2 {n i : Nat} {oi : Oper} {v : Value} {L : Array Bool → Act → Prop} (hi : ops[i]? = some oi) (hsel : ∀ (j : Nat) (o : Oper) cs b, ops[j]? = some o → o.op ≠ .select cs b)
    (hs : Region.sinkB md ops n = true) (hc : laterB md ops n = true) (hn : n < ops.size) (hin : i < n)
    (hdone : ∀ listed a, L listed a → ∀ j ∈ Region.ready md ops listed, n ≤ j) :
    ∀ (f : Nat) (listed : Array Bool) (a : Act), HeadInv md ops n listed →
      (∀ j oj, ops[j]? = some oj → j ≠ i → listed.getD j true = false → (∀ e ∈ oj.after, Region.binds md e = true → e.on ≠ i) → oi.apart ops oj = true) →
      i ∈ Region.ready md ops listed → YieldsAt P ops w oi v a →
      wpAnyL P md ops w n L f (listed.setIfInBounds i true) (a.put oi.dst v) → wpAnyL P md ops w n L (f + 1) listed a := by
  intro f
  induction f with
  | zero =>
    intro listed a inv _ hr hy H
    have hun := (mem_ready.1 hr).1
    refine ⟨fun h => (by rw [h] at hr; cases hr), fun j hj => ?_⟩
    have hjn : j < n := by
      rcases Nat.lt_or_ge j n with h | h
      · exact h
      · exact absurd hj (tail_waits2 hs hc hn inv _ i rfl hin hun j h)
    refine ⟨hjn, ?_⟩
    by_cases hji : j = i
    · subst hji; exact hy.stOp hi H
    · have := hdone _ _ H j (ready_mono hj hji)
      omega
  | succ f ih =>
    intro listed a inv hfree hr hy H
    have hun := (mem_ready.1 hr).1
    refine ⟨fun h => (by rw [h] at hr; cases hr), fun j hj => ?_⟩
    have hjn : j < n := by
      rcases Nat.lt_or_ge j n with h | h
      · exact h
      · exact absurd hj (tail_waits2 hs hc hn inv _ i rfl hin hun j h)
    refine ⟨hjn, ?_⟩
    by_cases hji : j = i
    · subst hji; exact hy.stOp hi H
    · have h1 := (H.2 j (ready_mono hj hji)).2
      obtain ⟨hjun, oj, hoj, hall⟩ := mem_ready.1 hj
      have hnot : ∀ e ∈ oj.after, Region.binds md e = true → e.on ≠ i := fun e he hb heq => by
        have h1 := hall e he hb
        rw [heq, getD_both hun] at h1
        cases h1
      have h2 := stOp_put hoj (hfree j oj hoj hji hjun hnot) (fun cs b => hsel i oi cs b hi) (fun cs b => hsel j oj cs b hoj) hy h1
      have hfree' : ∀ k ok, ops[k]? = some ok → k ≠ i → (listed.setIfInBounds j true).getD k true = false →
          (∀ e ∈ ok.after, Region.binds md e = true → e.on ≠ i) → oi.apart ops ok = true := fun k ok hk hki hun hno => by
        refine hfree k ok hk hki ?_ hno
        by_cases hjk : j = k
        · subst hjk; exact hjun
        · rw [getD_set_ne true hjk] at hun; exact hun
      refine stOp_mono (fun a' h3 => ih (listed.setIfInBounds j true) a' (inv.set hj hjn) hfree' (ready_mono hr (Ne.symm hji)) h3.1 ?_) h2
      rw [Array.setIfInBounds_comm _ _ hji]
      exact h3.2

/-- The same state, operation for operation. -/
def sameB (a b : Array Bool) : Bool := a.toList == b.toList
theorem sameB_eq {a b : Array Bool} (h : sameB a b = true) : a = b := by
  unfold sameB at h
  rw [beq_iff_eq] at h
  exact Array.toList_inj.1 h

/-- From a state on, the operations from k on may be taken in the text's order, and the state then is the other one. -/
def lexTo (md : Region.Mode) (ops : Array Oper) (goal : Array Bool) : Nat → Nat → Array Bool → Bool
  | 0, _, listed => sameB listed goal
  | f + 1, k, listed => (Region.ready md ops listed).contains k && Region.free md ops listed k && lexTo md ops goal f (k + 1) (listed.setIfInBounds k true)

/-- What HeadInv asks, to be reckoned. -/
def headB (md : Region.Mode) (ops : Array Oper) (n : Nat) (listed : Array Bool) : Bool :=
  decide (listed.size = ops.size) &&
  ((List.range ops.size).all fun j => !listed.getD j false || match ops[j]? with | some oj => oj.after.all (fun e => !Region.binds md e || listed.getD e.on false) | none => true) &&
  ((List.range ops.size).all fun t => decide (t < n) || !listed.getD t true)
theorem headB_inv {n : Nat} {listed : Array Bool} (h : headB md ops n listed = true) : HeadInv md ops n listed := by
  simp only [headB, Bool.and_eq_true, decide_eq_true_eq] at h
  obtain ⟨⟨h1, h2⟩, h3⟩ := h
  refine ⟨h1, fun j oj hj hl e he hb => ?_, fun t ht htl => ?_⟩
  · have h4 := List.all_eq_true.1 h2 j (List.mem_range.2 (Array.getElem?_eq_some_iff.1 hj).1)
    simp only [hj, hl, Bool.not_true, Bool.false_or] at h4
    have h5 := Array.all_eq_true_iff_forall_mem.1 h4 e he
    rw [hb] at h5
    simpa using h5
  · have h4 := List.all_eq_true.1 h3 t (List.mem_range.2 htl)
    simp only [Bool.or_eq_true, decide_eq_true_eq, Bool.not_eq_true'] at h4
    rcases h4 with h4 | h4
    · omega
    · exact h4

theorem wpAnyL_lex2 {n : Nat} {goal : Array Bool} {Lq : Act → Prop} (hsel : Region.noSelect ops = true) (hs : Region.sinkB md ops n = true) (hc : laterB md ops n = true) (hn : n < ops.size)
    (hg : ∀ j ∈ Region.ready md ops goal, n ≤ j) :
    ∀ (l : List Oper) (k : Nat) (listed : Array Bool) (a : Act), (∀ j, j < l.length → l[j]? = ops[k + j]?) → k + l.length = n → HeadInv md ops n listed →
    lexTo md ops goal l.length k listed = true → wpStill P ops w Lq l a →
    wpAnyL P md ops w n (fun listed' a' => listed' = goal ∧ Lq a') l.length listed a
  | [], k, listed, a, _, hk, _, hB, h => ⟨sameB_eq (by simpa [lexTo] using hB), h⟩
  | o :: l, k, listed, a, hl, hk, inv, hB, h => by
    have h0 : ops[k]? = some o := by simpa using (hl 0 (by simp)).symm
    simp only [List.length_cons, lexTo, Bool.and_eq_true] at hB
    obtain ⟨⟨hr, hf⟩, hB'⟩ := hB
    have hkn : k < n := by simp only [List.length_cons] at hk; omega
    have hr' : k ∈ Region.ready md ops listed := by simpa using hr
    have hst : stOp P ops w k (wpStill P ops w Lq l) a := by unfold stOp; simp only [h0]; exact h
    obtain ⟨v, hy, hK⟩ := yieldsAt_of_stOp h0 hst
    exact wpAnyL_first2 h0 (Region.noSelect_spec hsel) hs hc hn hkn (fun listed' a' hL => by rw [hL.1]; exact hg) l.length listed a inv (Region.free_spec h0 hf) hr' hy
      (wpAnyL_lex2 hsel hs hc hn hg l (k + 1) _ _ (fun j hj => by have := hl (j + 1) (by simp; omega); simpa [Nat.add_assoc, Nat.add_comm 1 j] using this) (by simp only [List.length_cons] at hk; omega) (inv.set hr' hkn) hB' hK)

/-- All that a still piece asks of the region's text. -/
def stillB (md : Region.Mode) (ops : Array Oper) (k n : Nat) (listed goal : Array Bool) : Bool :=
  Region.noSelect ops && decide (n < ops.size) && decide (k ≤ n) && Region.sinkB md ops n && laterB md ops n && headB md ops n listed && lexTo md ops goal (n - k) k listed && (Region.ready md ops goal).all fun j => decide (n ≤ j)

/-- A still piece: the operations from k to n, in the text's order; then what is behind it. -/
theorem wpAny_still {Q : Exit → Act → World → Prop} {l : List Oper} (k n g : Nat) {fuel : Nat} {listed : Array Bool} (goal : Array Bool) {a : Act} (hB : stillB md l.toArray k n listed goal = true) (hf : fuel = (n - k) + g)
    (h : wpStill P l.toArray w (fun a' => wpAny P md l.toArray Q g goal a' w) ((l.drop k).take (n - k)) a) : wpAny P md l.toArray Q fuel listed a w := by
  simp only [stillB, Bool.and_eq_true, decide_eq_true_eq] at hB
  obtain ⟨⟨⟨⟨⟨⟨⟨h1, h2⟩, h3⟩, h4⟩, h5⟩, h6⟩, h7⟩, h8⟩ := hB
  subst hf
  have hl : ((l.drop k).take (n - k)).length = n - k := by simp at h2 ⊢; omega
  have H := wpAnyL_lex2 (P := P) (md := md) (w := w) (goal := goal) h1 h4 h5 h2 (fun j hj => by simpa using List.all_eq_true.1 h8 j hj) ((l.drop k).take (n - k)) k listed a (fun j hj => by
      rw [hl] at hj
      simp [List.getElem?_take, List.getElem?_drop, hj]) (by rw [hl]; omega) (headB_inv h6) (by rw [hl]; exact h7) h
  have := wpAny_of_head (Q' := Q) (g := g) (fun listed a' hL => by obtain ⟨rfl, hL2⟩ := hL; exact hL2) _ _ _ H
  rwa [hl] at this

/-- The exits behind a piece. -/
def behind (Q : Exit → Act → World → Prop) (K : Act → World → Prop) : Exit → Act → World → Prop
  | .normal, a, w => K a w
  | e, a, w => Q e a w

theorem wp_behind {Q : Exit → Act → World → Prop} {K K' : Act → World → Prop} {o : Oper} {a : Act} {w : World} (h : o.wp P a w K' (behind Q K)) : o.wp P a w K' Q := by
  unfold Oper.wp at *
  generalize (execOp a.eval o).run P w = r at *
  cases r with
  | ok n w' =>
    cases n <;> simp only [Oper.upon] at h ⊢ <;>
      first
        | exact h
        | exact Calls.mono h (fun e w'' he => by cases e <;> exact he)
  | halt x w' => cases x <;> simp only [Oper.upon] at h ⊢ <;> exact h

/-- From a state on the order is forced, for so many operations. -/
def seqTo (md : Region.Mode) (ops : Array Oper) (goal : Array Bool) : Nat → Nat → Array Bool → Bool
  | 0, _, listed => sameB listed goal
  | g + 1, k, listed => decide (Region.ready md ops listed = [k]) && seqTo md ops goal g (k + 1) (listed.setIfInBounds k true)

theorem wpAny_seq {Q : Exit → Act → World → Prop} {goal : Array Bool} {g : Nat} : ∀ (l : List Oper) (k : Nat) (listed : Array Bool) (a : Act) (w : World), (∀ j, j < l.length → l[j]? = ops[k + j]?) →
    seqTo md ops goal l.length k listed = true → wpList P ops (behind Q (wpAny P md ops Q g goal)) l a w → wpAny P md ops Q (l.length + g) listed a w
  | [], _, listed, a, w, _, hB, h => by
    have := sameB_eq (by simpa [seqTo] using hB)
    subst this
    rw [List.length_nil, Nat.zero_add]
    exact h
  | o :: l, k, listed, a, w, hl, hB, h => by
    have h0 : ops[k]? = some o := by simpa using (hl 0 (by simp)).symm
    simp only [List.length_cons, seqTo, Bool.and_eq_true, decide_eq_true_eq] at hB
    rw [show (o :: l).length + g = (l.length + g) + 1 by simp; omega]
    refine ⟨fun h1 => (by rw [hB.1] at h1; cases h1), fun i hi => ?_⟩
    rw [hB.1] at hi
    have hik : i = k := by simpa using hi
    subst hik
    have hw : wpOp P ops Q i (wpList P ops (behind Q (wpAny P md ops Q g goal)) l) a w := by
      unfold wpOp
      simp only [h0]
      have h1 := h
      unfold wpList at h1
      split
      · rename_i hwt
        rw [if_pos hwt] at h1
        rcases h1 with h1 | ⟨h1, h2⟩
        · exact .inl (wp_behind h1)
        · exact .inr ⟨h1, h2⟩
      · rename_i hwt
        rw [if_neg hwt] at h1
        exact h1
    exact wpOp_mono (fun a' w' h' => wpAny_seq l (i + 1) _ a' w' (fun j hj => by have := hl (j + 1) (by simp; omega); simpa [Nat.add_assoc, Nat.add_comm 1 j] using this) hB.2 h') hw

/-- A piece whose order is forced: the operations from k to n as a list. -/
theorem wpAny_forced {Q : Exit → Act → World → Prop} {l : List Oper} (k n g : Nat) {fuel : Nat} {listed : Array Bool} (goal : Array Bool) {a : Act} (hB : (decide (n ≤ l.toArray.size) && seqTo md l.toArray goal (n - k) k listed) = true) (hf : fuel = (n - k) + g) (hkn : k ≤ n)
    (h : wpList P l.toArray (behind Q (wpAny P md l.toArray Q g goal)) ((l.drop k).take (n - k)) a w) : wpAny P md l.toArray Q fuel listed a w := by
  simp only [Bool.and_eq_true, decide_eq_true_eq] at hB
  subst hf
  have hl : ((l.drop k).take (n - k)).length = n - k := by have := hB.1; simp at this ⊢; omega
  have := wpAny_seq (md := md) (goal := goal) ((l.drop k).take (n - k)) k listed a w (fun j hj => by
      rw [hl] at hj
      simp [List.getElem?_take, List.getElem?_drop, hj]) (by rw [hl]; exact hB.2) h
  rwa [hl] at this

/-- In a still piece: a load of an aggregate. -/
theorem wpStill_load_agg {Q : Act → Prop} {rest : List Oper} {o : Oper} {a : Act} (hgd : o.guard = none) (ty : TypeId) (x : Operand) (ho : o.op = .load ty x)
    (g off : Nat) (hx : a.eval x = .pointer (some ⟨g, off, none⟩)) (t : TypeId) (vs : Array Value) (d : TypeDesc) (n : Nat) (hg : Blk w g t vs)
    (hu : P.underlying ty = some d) (hd : (match d with | .struct _ | .array _ _ => true | _ => false) = true) (hi : (P.info? ty).map (·.size) = some n) (hf : off + n ≤ vs.size)
    (h : ∀ C, Hid (C = vs.extract off (off + n)) → wpStill P ops w Q rest (a.put o.dst (.agg C))) : wpStill P ops w Q (o :: rest) a := by
  unfold wpStill
  rw [if_pos (by simp [Region.wanted, hgd])]
  unfold Oper.still execOp
  simp only [ho, hx, Instr.loadAt, Instr.sureAddr, Sem.run_bind, Sem.run_pure, Result.andThen_ok, run_loadVar_at w g off t ty vs d n hg hu hd hi hf]
  exact ⟨rfl, h _ rfl⟩

theorem run_make_R (t e : TypeId) (z : Value) (size bytes : Nat) (ht : P.underlying t = some (.slice e)) (hinfo : (P.info? e).map (fun i => (i.zero, i.size, i.bytes)) = some (some z, size, bytes))
    (n : Nat) (hbytes : bytes * n ≤ 281474976710656) (h63 : n ≤ 9223372036854775807) (w : World) :
    (Instr.makeSlice t (.int .i64 (n : Int)) (.int .i64 (n : Int))).run P w = .ok (.slice (some ⟨w.heap.size, 0, none⟩) n n) (w.alloc (.cells (madeCells z.cells (n * size)) e)) := by
  obtain ⟨i, hi, hzz⟩ := Option.map_eq_some_iff.1 hinfo
  simp only [Prod.mk.injEq] at hzz
  obtain ⟨hz, hs, hb⟩ := hzz
  subst hs hb
  have hb' : (i.bytes : Int) * (n : Int) ≤ 281474976710656 := by
    have h : ((i.bytes * n : Nat) : Int) ≤ 281474976710656 := by omega
    rwa [Int.natCast_mul] at h
  have hr := run_make (P := P) w t e i z ht hi hz .i64 .i64 n n (by omega) (Int.le_refl _) hb' (by omega)
  simp only [Int.toNat_natCast] at hr
  exact hr

/-- At a step of a region that draws: a new row of zero values, behind a name. -/
theorem step_make_R {Q : Exit → Act → World → Prop} {K : Act → World → Prop} {E : Prop} {o : Oper} {a : Act} (hgd : o.guard = none) (t : TypeId) (l c : Operand) (ho : o.op = .makeSlice t l c) (e : TypeId) (z : Value) (size bytes : Nat)
    (ht : P.underlying t = some (.slice e)) (hinfo : (P.info? e).map (fun i => (i.zero, i.size, i.bytes)) = some (some z, size, bytes)) (n : Nat) (hl : a.eval l = .int .i64 n) (hc : a.eval c = .int .i64 n)
    (hbytes : bytes * n ≤ 281474976710656) (h63 : n ≤ 9223372036854775807)
    (h : ∀ M, Hid (M = madeCells z.cells (n * size)) → K (a.put o.dst (.slice (some ⟨w.heap.size, 0, none⟩) n n)) (w.alloc (.cells M e))) :
    if Region.wanted o (yielded ops a.tmps) = true then Oper.wp P o a w K Q else E := by
  rw [if_pos (by simp [Region.wanted, hgd])]
  unfold Oper.wp execOp
  simp only [ho, hl, hc, Sem.run_bind, run_make_R t e z size bytes ht hinfo n hbytes h63 w, Result.andThen_ok, Sem.run_pure]
  exact h _ rfl

theorem wp_region_pieces {id : Nat} {Q : Exit → Act → World → Prop} {a : Act} {l : List Oper} (hm : P.follows .mixedOrders = true)
    (h : wpAny P .any l.toArray Q l.length (Array.replicate l.length false) a w.drew) : (Code.region id l.toArray true).wp P Q a w := by
  refine wp_region_any hm ?_
  simpa using h
theorem wpAny_end {Q : Exit → Act → World → Prop} {listed : Array Bool} {a : Act} (hr : (Region.ready md ops listed).isEmpty = true) (h : Q .normal a w) : wpAny P md ops Q 0 listed a w :=
  wpAny_done (by simpa using hr) h 0

/-! ### loads that may come behind a call which leaves what they read -/
section
variable {S : World → Prop} {Q : Exit → Act → World → Prop}
theorem wp_region_heldL {id : Nat} {a : Act} {l : List Oper} (S : World → Prop) (hm : P.follows .mixedOrders = true)
    (h : wpAnyH P .any l.toArray Q S l.length (Array.replicate l.length false) a w.drew) : (Code.region id l.toArray true).wp P Q a w :=
  wp_region_held (S := S) hm (by simpa using h)

/-- The operation is taken first. -/
theorem wpAnyH_takeK {l : List Oper} (k g : Nat) {fuel : Nat} {listed : Array Bool} (goal : Array Bool) {a : Act} {o : Oper} (ho : l[k]? = some o)
    (hB : (Region.noSelect l.toArray && Region.free md l.toArray listed k && (Region.ready md l.toArray listed).contains k && sameB (listed.setIfInBounds k true) goal) = true) (hf : fuel = g + 1)
    (v : Value) (hQ : ∀ c a w, Q (.panic c) (a.put o.dst v) w → Q (.panic c) a w) (hy : YieldsIf P l.toArray S o v a) (hS : S w)
    (h : wpAnyH P md l.toArray Q S g goal (a.put o.dst v) w) : wpAnyH P md l.toArray Q S fuel listed a w := by
  simp only [Bool.and_eq_true] at hB
  obtain ⟨⟨⟨h1, h2⟩, h3⟩, h4⟩ := hB
  subst hf
  refine wpAnyH_take (i := k) (by simpa using ho) h1 h2 h3 hQ hy hS ?_
  rw [sameB_eq h4]
  exact h

/-- The only one that may come up. -/
theorem wpAnyH_one {l : List Oper} (k g : Nat) {fuel : Nat} {listed : Array Bool} (goal : Array Bool) {a : Act} {o : Oper} (ho : l[k]? = some o)
    (hB : (decide (Region.ready md l.toArray listed = [k]) && sameB (listed.setIfInBounds k true) goal) = true) (hf : fuel = g + 1)
    (h : wpList P l.toArray (behind Q (fun a' w' => S w' ∧ wpAnyH P md l.toArray Q S g goal a' w')) [o] a w) : wpAnyH P md l.toArray Q S fuel listed a w := by
  simp only [Bool.and_eq_true, decide_eq_true_eq] at hB
  subst hf
  refine wpAnyH_all hB.1 (by simp) fun i hi => ?_
  have hik : i = k := by simpa using hi
  subst hik
  have h0 : l.toArray[i]? = some o := by simpa using ho
  unfold wpOp
  simp only [h0]
  unfold wpList at h
  rw [sameB_eq hB.2]
  split
  · rename_i hwt
    rw [if_pos hwt] at h
    rcases h with h | ⟨h1, h2⟩
    · exact .inl (wp_behind h)
    · exact .inr ⟨h1, h2⟩
  · rename_i hwt
    rw [if_neg hwt] at h
    exact h
theorem wpAnyH_end {listed : Array Bool} {a : Act} (hr : (Region.ready md ops listed).isEmpty = true) (h : Q .normal a w) : wpAnyH P md ops Q S 0 listed a w :=
  wpAnyH_done (by simpa using hr) h 0
end
end
end Go.Spy
