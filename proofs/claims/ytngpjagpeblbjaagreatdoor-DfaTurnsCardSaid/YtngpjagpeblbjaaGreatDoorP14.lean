/-
  The start of travel; one step of it in each of its kinds.
  Loads of aggregates whose cells are held behind one name; what the two wide kinds of states have.
  Plain law of tours: other names for the states, where the rows lead, the words by which a state is come to first. No program is named here.
  Plain law: the words by which a tour comes to a state first are the least ones, shorter rows ahead of longer ones. No program is named here.
  Plain law: what a state matches; a tour whose states match unlike rows depends on what its first one matches alone. No program is named here.
  Plain law: numbers for the things of a list; classes of states made finer until they stay. No program is named here.
-/
import Derived.Test.YtngpjagpeblbjaaGreatDoorP13
import Derived.Test.YtngpjagpeblbjaaGreatDoorP08
import Derived.Test.YtngpjagpeblbjaaGreatDoorP12
namespace Go.Proofs.YtngpjagpeblbjaaGreatDoor
open Go.RowKit Go.Spy Go.Heaped Go.Tour
section
variable {K : Type} [DecidableEq K] {κ : Kind K}
abbrev startW (w1 : World) (C : Array Value) (eT tT : TypeId) : World :=
 ((w1.alloc (.cells C eT)).alloc (.cells #[.int .i64 0, .int .i64 0] 160)).alloc (.cells #[.slice (some ⟨w1.heap.size, 0, none⟩) 1 1, .slice none 0 0, .slice (some ⟨w1.heap.size + 1, 0, none⟩) 1 1] tT)
theorem start_l1 (O : KindOk κ) {w0 w1 w2 : World} {X : Nat → Prop} {Inv : World → Prop} {first : K} {C : Array Value} (hC : C = κ.cel first) (hX : ∀ k, X k → k < w0.heap.size) (hI : Inv w0) (keep : ∀ a b, Inv a → Chg (fun k => w0.heap.size ≤ k) a b → Inv b)
 (hM : MapB w1 (w0.heap.size + 1) κ.enc (aput [] first (numV 0))) (hg : ((w0.alloc (.cells #[.slice none 0 0, .slice none 0 0, .slice none 0 0] κ.tT)).alloc (.map #[] 0)).grownBy w1 (some (w0.heap.size + 1)))
 {b : Nat} (hb : b = (startW w1 C κ.eT κ.tT).heap.size) (hQ : QR w2 b (b + 1) b 0 0 (fun k => k = b + 1)) (hE : Ext (startW w1 C κ.eT κ.tT) w2) :
 TrO κ w2 w0.heap.size (w1.heap.size + 1 + 1) (w0.heap.size + 1) (b + 1) b (.slice (some ⟨w1.heap.size, 0, none⟩) 1 1) (.slice none 0 0) (.slice (some ⟨w1.heap.size + 1, 0, none⟩) 1 1) (.slice none 0 0) (fun k => k = b + 1) [first] [first] [] [(0, 0)] [] 0 0 ∧
 EnvW w0 w0.heap.size X Inv w0.heap.size κ.tT [] [] (TO (w1.heap.size + 1 + 1) (w0.heap.size + 1) (.slice (some ⟨w1.heap.size, 0, none⟩) 1 1) (.slice none 0 0) (.slice (some ⟨w1.heap.size + 1, 0, none⟩) 1 1) (.slice none 0 0) (fun k => k = b + 1)) w2 := by
 subst hC
 have hs := hg.size
 have hs : w0.heap.size + 1 + 1 ≤ w1.heap.size := by simpa using hs
 have hb' : b = w1.heap.size + 3 := by rw [hb]; simp
 have e1 : Chg (fun k => w0.heap.size ≤ k) w0 w1 := (((Chg.refl _ w0).alloc _).alloc _).grown hg (fun k e => by simp at e; omega)
 have e2 : Chg (fun k => w0.heap.size ≤ k) w0 w2 := (((e1.alloc _).alloc _).alloc _).ext hE
 have m1 : Ext w1 w2 := ((((Below.refl _ w1).alloc (Nat.le_refl _) _).alloc (by simp) _).alloc (by simp; omega) _ : Ext w1 (startW w1 (κ.cel first) κ.eT κ.tT)).trans (hE.mono (by simp; omega))
 refine ⟨⟨?_, ?_, OwnR.nil _ _ _ _ _, ?_, OwnR.nil _ _ _ _ _, hM.ext m1, hQ, by omega, by omega, by omega, fun k e => by omega, fun _ e => e.elim, fun _ _ => by simp [Value.ownBlock], ?_⟩, ⟨keep _ _ hI e2, chg_x (Chg.refl _ _) rfl e2, rfl, fun j u r hu => by simp at hu, ?_⟩⟩
 ·exact (Blk.new' _ κ.tT _ (by simp)).ext hE
 ·have h0 : OwnR (w1.alloc (.cells (κ.cel first) κ.eT)) w0.heap.size κ.eT κ.s κ.cel (.slice (some ⟨w1.heap.size, 0, none⟩) 1 1) [first] := by
   have := World.ownsRow_lit (base := w0.heap.size) (e := κ.eT) (size := κ.s) w1 (κ.cel first) 1 (by omega) (by decide) (by rw [O.size]; omega)
   unfold OwnR
   simpa using this
  exact ((h0.alloc _).alloc _).ext hE
 ·have h0 : OwnR ((w1.alloc (.cells (κ.cel first) κ.eT)).alloc (.cells #[.int .i64 0, .int .i64 0] 160)) w0.heap.size 160 2 stepA (.slice (some ⟨w1.heap.size + 1, 0, none⟩) 1 1) [(0, 0)] := by
   have := World.ownsRow_lit (base := w0.heap.size) (e := 160) (size := 2) (w1.alloc (.cells (κ.cel first) κ.eT)) #[.int .i64 0, .int .i64 0] 1 (by simp; omega) (by decide) (by rfl)
   rw [show (w1.alloc (.cells (κ.cel first) κ.eT)).heap.size = w1.heap.size + 1 by simp] at this
   exact this
  exact (h0.alloc _).ext hE
 ·intro g e
  simp [Value.ownBlock] at e
  omega
 ·have h0 : Blk w2 w0.heap.size κ.tT #[.slice none 0 0, .slice none 0 0, .slice none 0 0] := ((((Blk.new w0 κ.tT _).alloc _).grown hg (by simp)).ext m1)
  refine Blk.rest h0 ?_
  rintro (e | e | e | e | e | e | e | e | e)
  ·have := hX _ e; omega
  ·exact e
  ·omega
  ·omega
  all_goals first | omega | (simp [Value.ownBlock] at e; done) | (simp [Value.ownBlock] at e; omega)
end
theorem putR0 {w : World} {base q bo : Nat} {S : Nat → Prop} (h : QR w base q bo 0 0 S) (z : Int) (hz : z = 0) :
 Calls Tryz.prog 104 #[.pointer (some ⟨q, 0, none⟩), .agg #[.int .i64 z]] w fun e w' => e = .returned (.int .i64 0) ∧ QRGoes S w w' base q bo 0 1 := by
 have h1 := putR h (by omega)
 have e : ((0 + 0 : Nat) : Int) = z := by omega
 rw [e] at h1
 exact h1
theorem putRz {w : World} {base q bo a n : Nat} {S : Nat → Prop} (h : QR w base q bo a n S) (hm : a + n ≤ 100000000) (z : Int) (hz : z = ((a + n : Nat) : Int)) :
 Calls Tryz.prog 104 #[.pointer (some ⟨q, 0, none⟩), .agg #[.int .i64 z]] w fun e w' => e = .returned (.int .i64 0) ∧ QRGoes S w w' base q bo a (n + 1) := by
 rw [hz]
 exact putR h hm
theorem elem_int : ElemOk Tryz.prog 46 3 1 8 where
 under := Tryz.underlying46
 info := by
  obtain ⟨i, h1, h2, h3, h4⟩ := info_parts (P := Tryz.prog) (e := 3) (z := .int .i64 0) (size := 1) (bytes := 8) (by kernel_rfl)
  exact ⟨i, _, h1, h2, h3, h4, rfl⟩
 pos := by decide
 small := by decide
theorem elem_row : ElemOk Tryz.prog 23 46 1 24 where
 under := Tryz.underlying23
 info := by
  obtain ⟨i, h1, h2, h3, h4⟩ := info_parts (P := Tryz.prog) (e := 46) (z := .slice none 0 0) (size := 1) (bytes := 24) (by kernel_rfl)
  exact ⟨i, _, h1, h2, h3, h4, rfl⟩
 pos := by decide
 small := by decide
theorem elem_step : ElemOk Tryz.prog 78 160 2 16 where
 under := Tryz.underlying78
 info := by
  obtain ⟨i, h1, h2, h3, h4⟩ := info_parts (P := Tryz.prog) (e := 160) (z := .agg #[.int .i64 0, .int .i64 0]) (size := 2) (bytes := 16) (by kernel_rfl)
  exact ⟨i, _, h1, h2, h3, h4, rfl⟩
 pos := by decide
 small := by decide
theorem zero_int (w : World) : (zeroValue 3).run Tryz.prog w = .ok (.int .i64 0) w := by kernel_rfl
theorem ones_int (n : Nat) : Ones (natA n) := by
 intro v hv
 simp only [natA, List.mem_toArray, List.mem_cons, List.not_mem_nil, or_false] at hv
 subst hv; rfl
theorem ones_step (p : Nat × Nat) : Ones (stepA p) := by
 intro v hv
 simp only [stepA, List.mem_toArray, List.mem_cons, List.not_mem_nil, or_false] at hv
 rcases hv with rfl | rfl <;> rfl
theorem ones_row (u : Value) : Ones (oneA u) := by
 intro v hv
 simp only [oneA, List.mem_toArray, List.mem_cons, List.not_mem_nil, or_false] at hv
 subst hv
 cases u <;> rfl
end Go.Proofs.YtngpjagpeblbjaaGreatDoor
namespace Go.Spy
open Go.RowKit
section
variable {P : Program}
theorem run_loadVar_cells (w : World) (g off : Nat) (ty : TypeId) (A : Array Value) (d : TypeDesc) (n : Nat) (hc : ∀ j, j < n → w.cell? ⟨g, off + j, none⟩ = A[j]?) (hA : A.size = n)
 (hu : P.underlying ty = some d) (hd : (match d with | .struct _ | .array _ _ => true | _ => false) = true) (hi : (P.info? ty).map (·.size) = some n) :
 (loadVar ty ⟨g, off, none⟩).run P w = .ok (.agg A) w := by
 subst hA
 have hl := run_loadCells_list (P := P) w ⟨g, off, none⟩ A.toList (fun j v hv => by
  have hadd : (⟨g, off, none⟩ : Addr).add j = ⟨g, off + j, none⟩ := by unfold Addr.add; split <;> simp_all
  have hj : j < A.size := by
   have := (List.getElem?_eq_some_iff.1 hv).1
   simpa using this
  rw [hadd, hc j hj]
  simpa using hv)
 cases hq : P.info? ty with
 | none => simp [hq] at hi
 | some i =>
   have hs : i.size = A.size := by simpa [hq] using hi
   have hagg : (isAgg ty).run P w = .ok true w := by
    unfold isAgg
    rw [Sem.run_bind, run_underlying hu w]
    cases d <;> simp_all
   simp only [Array.length_toList] at hl
   simp [loadVar, Sem.run_bind, hagg, sizeOf, typeInfo, hq, hs, hl]
theorem wpList_load_cells {ops : Array Oper} {rest : List Oper} {o : Oper} {a : Act} {w : World} {Q : Exit → Act → World → Prop} (hgd : o.guard = none) (ty : TypeId) (x : Operand) (ho : o.op = .load ty x)
 (g off : Nat) (hx : a.eval x = .pointer (some ⟨g, off, none⟩)) (A : Array Value) (d : TypeDesc) (n : Nat) (hc : ∀ j, j < n → w.cell? ⟨g, off + j, none⟩ = A[j]?) (hA : A.size = n)
 (hu : P.underlying ty = some d) (hd : (match d with | .struct _ | .array _ _ => true | _ => false) = true) (hi : (P.info? ty).map (·.size) = some n)
 (h : wpList P ops Q rest (a.put o.dst (.agg A)) w) : wpList P ops Q (o :: rest) a w :=
 wpList_plain hgd fun _ hK => by
  unfold Oper.wp execOp
  simp only [ho, hx, Instr.loadAt, Instr.sureAddr, Sem.run_bind, Sem.run_pure, Result.andThen_ok, run_loadVar_cells w g off ty A d n hc hA hu hd hi]
  exact hK _ _ h
theorem wpList_load_blk {ops : Array Oper} {rest : List Oper} {o : Oper} {a : Act} {w : World} {Q : Exit → Act → World → Prop} (hgd : o.guard = none) (ty : TypeId) (x : Operand) (ho : o.op = .load ty x)
 (g : Nat) (hx : a.eval x = .pointer (some ⟨g, 0, none⟩)) (t : TypeId) (A : Array Value) (d : TypeDesc) (n : Nat) (hb : Blk w g t A) (hA : A.size = n)
 (hu : P.underlying ty = some d) (hd : (match d with | .struct _ | .array _ _ => true | _ => false) = true) (hi : (P.info? ty).map (·.size) = some n)
 (h : wpList P ops Q rest (a.put o.dst (.agg A)) w) : wpList P ops Q (o :: rest) a w := by
 refine wpList_load_cells hgd ty x ho g 0 hx A d n (fun j hj => ?_) hA hu hd hi h
 rw [Nat.zero_add, Array.getElem?_eq_getElem (by omega)]
 exact hb.cell (Array.getElem?_eq_getElem (by omega))
theorem wpList_slice_one {ops : Array Oper} {rest : List Oper} {o : Oper} {a : Act} {w : World} {Q : Exit → Act → World → Prop} (hgd : o.guard = none) (t : TypeId) (x : Operand) (ho : o.op = .buildSlice t 1 #[(0, x)])
 (A : Array Value) (hx : a.eval x = .agg A) (e : TypeId) (n : Nat) (z : Value) (hu : P.underlying t = some (.slice e)) (hi : (P.info? e).map (fun i => (i.zero, i.size)) = some (some z, n)) (h0 : 0 < n) (hn : n ≤ 1000) (hA : A.size = n)
 (h : wpList P ops Q rest (a.put o.dst (.slice (some ⟨w.heap.size, 0, none⟩) 1 1)) (w.alloc (.cells A e))) : wpList P ops Q (o :: rest) a w :=
 wpList_plain hgd fun _ hK => by
  obtain ⟨i, hq, hzz⟩ := Option.map_eq_some_iff.1 hi
  simp only [Prod.mk.injEq] at hzz
  obtain ⟨hz, hs⟩ := hzz
  have h1 : ¬ 1 * i.size > 2 ^ 24 := by omega
  have h2 : ¬ 1 * i.size = 0 := by omega
  have hf : Instr.fill (fun j => some (j * i.size, i.size)) ((Array.range (1 * i.size)).map (z.cells[· % z.cells.size]!)) [(0, Value.agg A)] = some A := by
   rw [fill_one (off := 0) (size := i.size) (by simp) (by simp [Value.cells]; omega) (by simp)]
   simp only [Instr.fill, Value.cells]
   rw [splice_all (by simp; omega)]
  unfold Oper.wp execOp
  simp only [ho, hx, Instr.buildSlice, run_underlying hu, sizeOf, typeInfo, hq, zeroValue, hz, Sem.run_bind, Sem.run_pure, run_program, Result.andThen_ok, h1, h2, if_false, List.map_toArray, List.map_cons, List.map_nil, hf, newRow, run_newObj_alloc]
  exact hK _ _ h
end
end Go.Spy
namespace Go.Proofs.YtngpjagpeblbjaaGreatDoor
open Go.RowKit Go.Spy Go.Heaped Go.Tour Go.Rx
def kindS : Kind Sta := ⟨fun s => .agg (staC s), staC, 118, 112, 17⟩
theorem okS : KindOk kindS := ⟨by decide, by decide, by decide, staC_size⟩
theorem ones_pr (p : Pr) : Ones (prC p) := by
 intro v hv
 simp only [prC, List.mem_toArray, List.mem_cons, List.not_mem_nil, or_false] at hv
 rcases hv with rfl | rfl <;> rfl
theorem ones_sta (s : Sta) : Ones (staC s) := by
 intro v hv
 simp only [staC, setV, Array.mem_append, List.mem_toArray, List.mem_cons, List.not_mem_nil, or_false] at hv
 rcases hv with rfl | hv
 ·rfl
 ·simp only [List.mem_map] at hv
  first
   | (obtain ⟨i, rfl⟩ := hv; rfl)
   | (obtain ⟨i, _, rfl⟩ := hv; rfl)
theorem info112 : (Tryz.prog.info? 112).map (·.size) = some 17 := by kernel_rfl
theorem zero112 : (Tryz.prog.info? 112).map (·.zero) = some (some (.agg (staC (false, ⟨0, by decide⟩)))) := by kernel_rfl
theorem slot112 : (Tryz.prog.info? 112).map (fun i => (i.zero, i.size)) = some (some (.agg (staC (false, ⟨0, by decide⟩))), 17) := by kernel_rfl
theorem elem_sta : ElemOk Tryz.prog 113 112 17 136 where
 under := Tryz.underlying113
 info := by
  obtain ⟨i, h1, h2, h3, h4⟩ := info_parts (P := Tryz.prog) (e := 112) (z := .agg (staC (false, ⟨0, by decide⟩))) (size := 17) (bytes := 136) (by kernel_rfl)
  exact ⟨i, _, h1, h2, h3, h4, by rw [Value.cells]; exact staC_size _⟩
 pos := by decide
 small := by decide
theorem NextOk.mono {K : Type} {κ : Kind K} {f : FuncId} {caps : Array Value} {N M : Nat} {X : Nat → Prop} {Inv : World → Prop} {U : K → Prop} {succ : K → List K} (h : NextOk κ f caps N X Inv U succ) (hM : N ≤ M) : NextOk κ f caps M X Inv U succ where
 enters := h.enters
 keep := fun a b i c => h.keep a b i (c.mono fun _ _ e => Nat.le_trans hM e)
 below := fun k e => Nat.lt_of_lt_of_le (h.below k e) hM
 call := fun k w u i s => (h.call k w u i (Nat.le_trans hM s)).mono fun _e _w' ⟨v, h1, h2, h3, h4⟩ => ⟨v, h1, h2, fun h0 g hg => (h3 h0 g hg).imp (fun x => ⟨Nat.lt_of_lt_of_le x.1 hM, x.2⟩) id, h4⟩
 univ := h.univ
theorem TourW.lower {K : Type} {κ : Kind K} {w : World} {N M : Nat} {vK vN vF : Value} {ks : List K} {rows : List (List Nat)} {fr : List (Nat × Nat)} (h : TourW κ w M vK vN vF ks rows fr) (hM : N ≤ M) : TourW κ w N vK vN vF ks rows fr := by
 obtain ⟨h1, ⟨us, h2, h3, h4⟩, h5⟩ := h
 exact ⟨h1.lower hM, ⟨us, h2.lower hM, h3, fun i u r hu hr => ⟨(h4 i u r hu hr).1, fun g hg => Nat.le_trans hM ((h4 i u r hu hr).2 g hg)⟩⟩, h5.lower hM⟩
theorem TravelPost.lower {K : Type} [DecidableEq K] {κ : Kind K} {N M : Nat} {X : Nat → Prop} {Inv : World → Prop} {succ : K → List K} {first : K} {most : Nat} {w0 w : World} {e : Ending} {w' : World} (h : TravelPost κ M X Inv succ first most w e w') (hM : N ≤ M) (c : Chg X w0 w) : TravelPost κ N X Inv succ first most w0 e w' := by
 obtain ⟨h1, h2, h3⟩ := h
 refine ⟨h1, c.trans h2, h3.imp ?_ id⟩
 rintro ⟨i, vK, vN, vF, a1, a2, a3, a4⟩
 exact ⟨i, vK, vN, vF, a1, a2, a3, a4.lower hM⟩
end Go.Proofs.YtngpjagpeblbjaaGreatDoor
namespace Go.Tour
section
variable {K L : Type} [DecidableEq K] [DecidableEq L]
section
variable {succ : K → List K} {succ' : L → List L} {first : K} {φ : K → L} {U : K → Prop}
theorem vis1_univ (r : Nat) {s : St K} (hs : ∀ k ∈ s.keys, U k) {k : K} (hk : U k) (j : Nat) : ∀ a ∈ (vis1 r s k j).keys, U a := by
 unfold vis1
 split
 ·exact hs
 ·intro a ha
  simp only [List.mem_append, List.mem_singleton] at ha
  rcases ha with ha | rfl
  ·exact hs a ha
  ·exact hk
theorem visN_univ (r : Nat) {s : St K} (hs : ∀ k ∈ s.keys, U k) {l : List K} (hl : ∀ k ∈ l, U k) : ∀ j, ∀ a ∈ (visN r s l j).keys, U a
 | 0 => hs
 | j + 1 => by
   unfold visN
   split
   ·rename_i k hk
    exact vis1_univ r (visN_univ r hs hl j) (hl k (List.mem_of_getElem? hk)) j
   ·exact visN_univ r hs hl j
theorem tourN_univ (hf : U first) (hc : ∀ k, U k → ∀ x ∈ succ k, U x) : ∀ i, ∀ k ∈ (tourN succ first i).keys, U k
 | 0 => by simp [tourN, hf]
 | i + 1 => by
   cases h : (tourN succ first i).keys[i]? with
   | none => rw [tourN_stop (List.getElem?_eq_none_iff.1 h)]; exact tourN_univ hf hc i
   | some k =>
     rw [tourN_succ h]
     exact visN_univ i (s := ⟨(tourN succ first i).keys, (tourN succ first i).from_, []⟩) (tourN_univ hf hc i) (hc k (tourN_univ hf hc i k (List.mem_of_getElem? h))) _
end
section
variable {succ : K → List K} {first : K} {r i j : Nat} {s : St K} {l : List K} {k : K}
theorem idxOf_prefix {a b : List K} (h : a <+: b) {k : K} (hk : k ∈ a) : b.idxOf k = a.idxOf k := by
 obtain ⟨t, rfl⟩ := h
 rw [List.idxOf_append, if_pos hk]
theorem vis1_mem (r : Nat) (s : St K) (k : K) (j : Nat) : k ∈ (vis1 r s k j).keys := by
 unfold vis1
 split
 ·assumption
 ·simp
theorem vis1_goes (r : Nat) (s : St K) (k : K) (j : Nat) : (vis1 r s k j).goes = s.goes ++ [(vis1 r s k j).keys.idxOf k] := by
 unfold vis1
 split
 ·rfl
 ·rename_i h
  simp only [List.idxOf_append, if_neg h]
  simp
theorem visN_goes (r : Nat) (s : St K) (l : List K) : ∀ j, j ≤ l.length → (∀ x ∈ l.take j, x ∈ (visN r s l j).keys) ∧ (visN r s l j).goes = s.goes ++ (l.take j).map (visN r s l j).keys.idxOf
 | 0, _ => by simp [visN]
 | j + 1, h => by
   obtain ⟨h1, h2⟩ := visN_goes r s l j (by omega)
   have hk : l[j]? = some l[j] := List.getElem?_eq_getElem (by omega)
   have ht : l.take (j + 1) = l.take j ++ [l[j]] := by rw [List.take_succ_eq_append_getElem (by omega)]
   rw [visN_succ hk, ht]
   have hp := vis1_pre r (visN r s l j) l[j] j
   refine ⟨fun x hx => ?_, ?_⟩
   ·rw [List.mem_append] at hx
    rcases hx with hx | hx
    ·exact hp.subset (h1 x hx)
    ·rw [List.mem_singleton] at hx; subst hx; exact vis1_mem _ _ _ _
   ·rw [vis1_goes, h2, List.map_append, List.append_assoc]
    congr 2
    refine List.map_congr_left fun x hx => ?_
    exact (idxOf_prefix hp (h1 x hx)).symm
theorem tourN_next_at {succ : K → List K} {first : K} : ∀ {i : Nat}, i ≤ (tourN succ first i).keys.length → ∀ {n : Nat} {k : K}, n < i → (tourN succ first i).keys[n]? = some k →
 (∀ x ∈ succ k, x ∈ (tourN succ first i).keys) ∧ (tourN succ first i).next[n]? = some ((succ k).map (tourN succ first i).keys.idxOf)
 | 0, _, n, _, h, _ => by omega
 | i + 1, hi, n, k, h, hk => by
   have hpre := tourN_pre1 succ first i
   cases hq : (tourN succ first i).keys[i]? with
   | none =>
     have h0 := List.getElem?_eq_none_iff.1 hq
     rw [tourN_stop h0] at hi; omega
   | some q =>
     have hlt := (List.getElem?_eq_some_iff.1 hq).1
     have hnl := tourN_next_len succ first i (by omega)
     by_cases e : n = i
     ·subst e
      have hq' : (tourN succ first (n + 1)).keys[n]? = some q := by
       obtain ⟨t, ht⟩ := hpre
       rw [← ht, List.getElem?_append_left hlt]; exact hq
      obtain rfl : q = k := by rw [hq'] at hk; simpa using hk
      have hv := visN_goes n ⟨(tourN succ first n).keys, (tourN succ first n).from_, []⟩ (succ q) (succ q).length (Nat.le_refl _)
      rw [List.take_length] at hv
      rw [tourN_succ hq]
      refine ⟨hv.1, ?_⟩
      rw [List.getElem?_append_right (by omega), hnl, Nat.sub_self]
      simp only [List.getElem?_cons_zero, rowOf]
      rw [hv.2]
      rfl
     ·have hk' : (tourN succ first i).keys[n]? = some k := by
       obtain ⟨t, ht⟩ := hpre
       rw [← ht, List.getElem?_append_left (by omega)] at hk; exact hk
      obtain ⟨h1, h2⟩ := tourN_next_at (i := i) (by omega) (n := n) (by omega) hk'
      refine ⟨fun x hx => hpre.subset (h1 x hx), ?_⟩
      have : (tourN succ first (i + 1)).next[n]? = (tourN succ first i).next[n]? := by
       rw [tourN_succ hq]
       simp only
       rw [List.getElem?_append_left (by omega)]
      rw [this, h2]
      congr 1
      refine List.map_congr_left fun x hx => ?_
      exact (idxOf_prefix hpre (h1 x hx)).symm
end
end
end Go.Tour
namespace Go.Tour
def aheadL : List Nat → List Nat → Bool
 | a :: u, b :: v => if a = b then aheadL u v else decide (a < b)
 | _, _ => false
def slt (u v : List Nat) : Prop := u.length < v.length ∨ u.length = v.length ∧ aheadL u v = true
def sle (u v : List Nat) : Prop := u = v ∨ slt u v
theorem aheadL_trans : ∀ {u v w : List Nat}, aheadL u v = true → aheadL v w = true → aheadL u w = true
 | [], _, _, h, _ => by simp [aheadL] at h
 | _ :: _, [], _, h, _ => by simp [aheadL] at h
 | _ :: _, _ :: _, [], _, h => by simp [aheadL] at h
 | a :: u, b :: v, c :: w, h, k => by
   simp only [aheadL] at h k ⊢
   by_cases e1 : a = b <;> by_cases e2 : b = c
   ·subst e1; subst e2; simp at h k ⊢; exact aheadL_trans h k
   ·subst e1; simp [e2] at k ⊢; exact k
   ·subst e2; simp [e1] at h ⊢; exact h
   ·simp [e1] at h; simp [e2] at k
    have : a ≠ c := by omega
    simp [this]; omega
theorem aheadL_total : ∀ {u v : List Nat}, u.length = v.length → aheadL u v = true ∨ u = v ∨ aheadL v u = true
 | [], [], _ => .inr (.inl rfl)
 | [], _ :: _, h => by simp at h
 | _ :: _, [], h => by simp at h
 | a :: u, b :: v, h => by
   simp only [List.length_cons, Nat.add_right_cancel_iff] at h
   by_cases e : a = b
   ·subst e
    rcases aheadL_total h with x | x | x
    ·exact .inl (by simp [aheadL, x])
    ·exact .inr (.inl (by rw [x]))
    ·exact .inr (.inr (by simp [aheadL, x]))
   ·rcases Nat.lt_or_gt_of_ne e with x | x
    ·exact .inl (by simp [aheadL, e, x])
    ·exact .inr (.inr (by simp [aheadL, Ne.symm e, x]))
theorem aheadL_snoc : ∀ {u v : List Nat} (c d : Nat), u.length = v.length → aheadL u v = true → aheadL (u ++ [c]) (v ++ [d]) = true
 | [], _, _, _, _, h => by simp [aheadL] at h
 | _ :: _, [], _, _, _, h => by simp [aheadL] at h
 | a :: u, b :: v, c, d, hl, h => by
   simp only [List.length_cons, Nat.add_right_cancel_iff] at hl
   simp only [aheadL, List.cons_append] at h ⊢
   by_cases e : a = b
   ·simp [e] at h ⊢; exact aheadL_snoc c d hl h
   ·simp [e] at h ⊢; exact h
theorem aheadL_last : ∀ (u : List Nat) {c d : Nat}, c < d → aheadL (u ++ [c]) (u ++ [d]) = true
 | [], c, d, h => by simp [aheadL, Nat.ne_of_lt h, h]
 | a :: u, c, d, h => by simp [aheadL, aheadL_last u h]
theorem slt_trans {u v w : List Nat} (h : slt u v) (k : slt v w) : slt u w := by
 rcases h with h | ⟨h1, h2⟩ <;> rcases k with k | ⟨k1, k2⟩
 ·exact .inl (by omega)
 ·exact .inl (by omega)
 ·exact .inl (by omega)
 ·exact .inr ⟨by omega, aheadL_trans h2 k2⟩
theorem slt_snoc {u v : List Nat} (c d : Nat) (h : slt u v) : slt (u ++ [c]) (v ++ [d]) := by
 rcases h with h | ⟨h1, h2⟩
 ·exact .inl (by simp; omega)
 ·exact .inr ⟨by simp [h1], aheadL_snoc c d h1 h2⟩
theorem slt_last (u : List Nat) {c d : Nat} (h : c < d) : slt (u ++ [c]) (u ++ [d]) := .inr ⟨by simp, aheadL_last u h⟩
theorem sle_trans {u v w : List Nat} (h : sle u v) (k : sle v w) : sle u w := by
 rcases h with rfl | h
 ·exact k
 ·rcases k with rfl | k
  ·exact .inr h
  ·exact .inr (slt_trans h k)
def ltp (p q : Nat × Nat) : Prop := p.1 < q.1 ∨ p.1 = q.1 ∧ p.2 < q.2
section
variable {K : Type} [DecidableEq K]
def fan (δ : K → Nat → K) (m : Nat) (k : K) : List K := (List.range m).map (δ k)
omit [DecidableEq K] in
theorem fan_length (δ : K → Nat → K) (m : Nat) (k : K) : (fan δ m k).length = m := by simp [fan]
omit [DecidableEq K] in
theorem fan_get (δ : K → Nat → K) {m : Nat} (k : K) {j : Nat} (h : j < m) : (fan δ m k)[j]? = some (δ k j) := by simp [fan, h]
def runL (δ : K → Nat → K) (k : K) (u : List Nat) : K := u.foldl δ k
omit [DecidableEq K] in
theorem runL_snoc (δ : K → Nat → K) (k : K) (u : List Nat) (c : Nat) : runL δ k (u ++ [c]) = δ (runL δ k u) c := by simp [runL]
structure Bfs (δ : K → Nat → K) (m : Nat) (first : K) (keys : List K) (fr : List (Nat × Nat)) (b : Nat × Nat) : Prop where
 len : fr.length = keys.length
 zero : keys[0]? = some first
 step : ∀ n p, 0 < n → fr[n]? = some p → p.2 < m ∧ p.1 < n ∧ ltp p b ∧ ∃ k, keys[p.1]? = some k ∧ keys[n]? = some (δ k p.2)
 incr : ∀ n n' p p', 0 < n → n < n' → fr[n]? = some p → fr[n']? = some p' → ltp p p'
 come : ∀ r c k, c < m → ltp (r, c) b → keys[r]? = some k → ∃ t, keys[t]? = some (δ k c) ∧ (t = 0 ∨ ∃ p, fr[t]? = some p ∧ (p = (r, c) ∨ ltp p (r, c)))
section
variable {δ : K → Nat → K} {m : Nat} {first : K} {keys : List K} {fr : List (Nat × Nat)} {i j : Nat}
omit [DecidableEq K] in
theorem Bfs.at {b : Nat × Nat} (h : Bfs δ m first keys fr b) {n : Nat} (hn : n < keys.length) : ∃ p, fr[n]? = some p := ⟨_, List.getElem?_eq_getElem (by rw [h.len]; exact hn)⟩
theorem ltp_succ {p : Nat × Nat} {i j : Nat} : ltp p (i, j + 1) ↔ ltp p (i, j) ∨ p = (i, j) := by
 obtain ⟨a, b⟩ := p
 simp only [ltp, Prod.mk.injEq]
 omega
theorem Bfs.vis (h : Bfs δ m first keys fr (i, j)) {k : K} (hk : keys[i]? = some k) (hj : j < m) {g : List Nat} :
 Bfs δ m first (vis1 i ⟨keys, fr, g⟩ (δ k j) j).keys (vis1 i ⟨keys, fr, g⟩ (δ k j) j).from_ (i, j + 1) := by
 have hil := (List.getElem?_eq_some_iff.1 hk).1
 unfold vis1
 by_cases hm : δ k j ∈ keys
 ·rw [if_pos hm]
  refine ⟨h.len, h.zero, fun n p h0 hp => ?_, h.incr, fun r c k' hc hl hk' => ?_⟩
  ·obtain ⟨a, b, c, d⟩ := h.step n p h0 hp
   exact ⟨a, b, ltp_succ.2 (.inl c), d⟩
  ·rcases ltp_succ.1 hl with hl | hl
   ·exact h.come r c k' hc hl hk'
   ·simp only [Prod.mk.injEq] at hl
    obtain ⟨rfl, rfl⟩ := hl
    obtain rfl : k' = k := by rw [hk] at hk'; simpa using hk'.symm
    obtain ⟨t, ht, hte⟩ := List.getElem_of_mem hm
    refine ⟨t, by rw [List.getElem?_eq_getElem ht, hte], ?_⟩
    rcases Nat.eq_zero_or_pos t with e | e
    ·exact .inl e
    ·obtain ⟨p, hp⟩ := h.at ht
     exact .inr ⟨_, hp, .inr (h.step t _ e hp).2.2.1⟩
 ·rw [if_neg hm]
  simp only
  have hkl : ∀ {n : Nat} {x : K}, keys[n]? = some x → (keys ++ [δ k j])[n]? = some x := fun {n x} hx => by
   rw [List.getElem?_append_left (List.getElem?_eq_some_iff.1 hx).1]; exact hx
  have hfl : ∀ {n : Nat} {x : Nat × Nat}, (fr ++ [(i, j)])[n]? = some x → fr[n]? = some x ∨ n = keys.length ∧ x = (i, j) := fun {n x} hx => by
   rcases Nat.lt_or_ge n fr.length with e | e
   ·rw [List.getElem?_append_left e] at hx; exact .inl hx
   ·rw [List.getElem?_append_right e] at hx
    have h1 := (List.getElem?_eq_some_iff.1 hx).1
    simp only [List.length_singleton] at h1
    have h2 : n - fr.length = 0 := by omega
    rw [h2] at hx
    have := h.len
    exact .inr ⟨by omega, by simpa using hx.symm⟩
  refine ⟨by simp [h.len], hkl h.zero, fun n p h0 hp => ?_, fun n n' p p' h0 hn hp hp' => ?_, fun r c k' hc hl hk' => ?_⟩
  ·rcases hfl hp with hp | ⟨rfl, rfl⟩
   ·obtain ⟨a, b, c, k', d, e⟩ := h.step n p h0 hp
    exact ⟨a, b, ltp_succ.2 (.inl c), k', hkl d, hkl e⟩
   ·exact ⟨hj, hil, ltp_succ.2 (.inr rfl), k, hkl hk, by rw [List.getElem?_append_right (Nat.le_refl _)]; simp⟩
  ·have hl := h.len
   rcases hfl hp with hp | ⟨rfl, rfl⟩
   ·rcases hfl hp' with hp' | ⟨rfl, rfl⟩
    ·exact h.incr n n' p p' h0 hn hp hp'
    ·exact (h.step n p h0 hp).2.2.1
   ·rcases hfl hp' with hp' | ⟨rfl, rfl⟩
    ·have := (List.getElem?_eq_some_iff.1 hp').1; omega
    ·omega
  ·have hr : r ≤ i := by simp only [ltp] at hl; omega
   have hk2 : keys[r]? = some k' := by rw [List.getElem?_append_left (by omega)] at hk'; exact hk'
   rcases ltp_succ.1 hl with hl | hl
   ·obtain ⟨t, ht, hte⟩ := h.come r c k' hc hl hk2
    refine ⟨t, hkl ht, hte.imp id ?_⟩
    rintro ⟨p, hp, hpe⟩
    exact ⟨p, by rw [List.getElem?_append_left (List.getElem?_eq_some_iff.1 hp).1]; exact hp, hpe⟩
   ·simp only [Prod.mk.injEq] at hl
    obtain ⟨rfl, rfl⟩ := hl
    obtain rfl : k' = k := by rw [hk] at hk2; simpa using hk2.symm
    refine ⟨keys.length, by rw [List.getElem?_append_right (Nat.le_refl _)]; simp, .inr ⟨(r, c), ?_, .inl rfl⟩⟩
    rw [List.getElem?_append_right (by rw [h.len]; exact Nat.le_refl _), h.len]; simp
theorem Bfs.visN (h : Bfs δ m first keys fr (i, 0)) {k : K} (hk : keys[i]? = some k) : ∀ j, j ≤ m → Bfs δ m first (visN i ⟨keys, fr, []⟩ (fan δ m k) j).keys (visN i ⟨keys, fr, []⟩ (fan δ m k) j).from_ (i, j)
 | 0, _ => h
 | j + 1, hj => by
   have ih := Bfs.visN h hk j (by omega)
   rw [visN_succ (fan_get δ k (show j < m by omega))]
   refine ih.vis ?_ (by omega)
   obtain ⟨t, ht⟩ := visN_pre i ⟨keys, fr, []⟩ (fan δ m k) j
   have ht : keys ++ t = (Tour.visN i ⟨keys, fr, []⟩ (fan δ m k) j).keys := ht
   rw [← ht, List.getElem?_append_left (List.getElem?_eq_some_iff.1 hk).1]; exact hk
omit [DecidableEq K] in
theorem Bfs.row (h : Bfs δ m first keys fr (i, m)) : Bfs δ m first keys fr (i + 1, 0) := by
 refine ⟨h.len, h.zero, fun n p h0 hp => ?_, h.incr, fun r c k' hc hl hk' => h.come r c k' hc (by simp only [ltp] at hl ⊢; omega) hk'⟩
 obtain ⟨a, b, c, d⟩ := h.step n p h0 hp
 exact ⟨a, b, by simp only [ltp] at c ⊢; omega, d⟩
theorem bfs_tour (δ : K → Nat → K) (m : Nat) (first : K) : ∀ i, i ≤ (tourN (fan δ m) first i).keys.length → Bfs δ m first (tourN (fan δ m) first i).keys (tourN (fan δ m) first i).from_ (i, 0)
 | 0, _ => ⟨rfl, rfl, fun n p h0 hp => by
     have := (List.getElem?_eq_some_iff.1 hp).1
     simp [tourN] at this; omega, fun n n' p p' h0 hn hp hp' => by
     have := (List.getElem?_eq_some_iff.1 hp').1
     simp [tourN] at this; omega, fun r c k hc hl => by simp [ltp] at hl⟩
 | i + 1, hi => by
   cases h : (tourN (fan δ m) first i).keys[i]? with
   | none =>
     have h0 := List.getElem?_eq_none_iff.1 h
     rw [tourN_stop h0] at hi; omega
   | some k =>
     have hl := (List.getElem?_eq_some_iff.1 h).1
     have ih := bfs_tour δ m first i (by omega)
     rw [tourN_succ h]
     have := (ih.visN h m (Nat.le_refl _)).row
     simp only [rowOf, fan_length]
     exact this
end
def wordF (fr : List (Nat × Nat)) : Nat → Nat → List Nat
 | 0, _ => []
 | f + 1, n => if n = 0 then [] else match fr[n]? with
   | some p => wordF fr f p.1 ++ [p.2]
   | none => []
def word (fr : List (Nat × Nat)) (n : Nat) : List Nat := wordF fr n n
section
variable {δ : K → Nat → K} {m : Nat} {first : K} {keys : List K} {fr : List (Nat × Nat)} {b : Nat × Nat}
omit [DecidableEq K] in
theorem Bfs.wordF (h : Bfs δ m first keys fr b) : ∀ f n, n ≤ f → wordF fr f n = word fr n := by
 have key : ∀ n f g, n ≤ f → n ≤ g → Tour.wordF fr f n = Tour.wordF fr g n := by
  intro n
  induction n using Nat.strongRecOn with
  | _ n ih =>
    intro f g hf hg
    rcases Nat.eq_zero_or_pos n with rfl | h0
    ·cases f <;> cases g <;> simp [Tour.wordF]
    ·obtain ⟨f, rfl⟩ : ∃ f', f = f' + 1 := ⟨f - 1, by omega⟩
     obtain ⟨g, rfl⟩ : ∃ g', g = g' + 1 := ⟨g - 1, by omega⟩
     simp only [Tour.wordF, if_neg (show n ≠ 0 by omega)]
     cases hp : fr[n]? with
     | none => rfl
     | some p =>
       have := (h.step n p h0 hp).2.1
       simp only
       rw [ih p.1 this f g (by omega) (by omega)]
 intro f n hn
 exact key n f n hn (Nat.le_refl _)
theorem word_zero (fr : List (Nat × Nat)) : word fr 0 = [] := rfl
omit [DecidableEq K] in
theorem Bfs.word_pos (h : Bfs δ m first keys fr b) {n : Nat} {p : Nat × Nat} (h0 : 0 < n) (hp : fr[n]? = some p) : word fr n = word fr p.1 ++ [p.2] := by
 obtain ⟨n, rfl⟩ : ∃ n', n = n' + 1 := ⟨n - 1, by omega⟩
 have := (h.step _ p h0 hp).2.1
 show Tour.wordF fr (n + 1) (n + 1) = _
 simp only [Tour.wordF, hp]
 rw [h.wordF n p.1 (by omega)]
 simp
omit [DecidableEq K] in
theorem Bfs.word_run (h : Bfs δ m first keys fr b) : ∀ n, n < keys.length → keys[n]? = some (runL δ first (word fr n)) ∧ ∀ c ∈ word fr n, c < m := by
 intro n
 induction n using Nat.strongRecOn with
 | _ n ih =>
   intro hn
   rcases Nat.eq_zero_or_pos n with rfl | h0
   ·exact ⟨h.zero, by simp [word_zero]⟩
   ·obtain ⟨p, hp⟩ := h.at hn
    obtain ⟨a, c, _, k, d, e⟩ := h.step n _ h0 hp
    obtain ⟨i1, i2⟩ := ih _ c (by omega)
    rw [h.word_pos h0 hp, runL_snoc]
    rw [i1] at d
    simp only [Option.some.injEq] at d
    refine ⟨by rw [d]; exact e, fun x hx => ?_⟩
    rw [List.mem_append, List.mem_singleton] at hx
    rcases hx with hx | rfl
    ·exact i2 x hx
    ·exact a
omit [DecidableEq K] in
theorem Bfs.word_lt (h : Bfs δ m first keys fr b) : ∀ n n', n < n' → n' < keys.length → slt (word fr n) (word fr n') := by
 intro n n'
 induction n' using Nat.strongRecOn generalizing n with
 | _ n' ih =>
   intro hn hl
   obtain ⟨p', hp'⟩ := h.at hl
   have s' := h.step n' _ (by omega) hp'
   rw [h.word_pos (by omega) hp']
   rcases Nat.eq_zero_or_pos n with rfl | h0
   ·exact .inl (by simp [word_zero])
   ·obtain ⟨p, hp⟩ := h.at (n := n) (by omega)
    rw [h.word_pos h0 hp]
    rcases h.incr n n' _ _ h0 hn hp hp' with e | ⟨e1, e2⟩
    ·exact slt_snoc _ _ (ih _ s'.2.1 _ e (by omega))
    ·rw [e1]; exact slt_last _ e2
omit [DecidableEq K] in
theorem Bfs.word_le (h : Bfs δ m first keys fr b) {n n' : Nat} (hn : n ≤ n') (hl : n' < keys.length) : sle (word fr n) (word fr n') := by
 rcases Nat.lt_or_ge n n' with e | e
 ·exact .inr (h.word_lt n n' e hl)
 ·obtain rfl : n = n' := by omega
  exact .inl rfl
omit [DecidableEq K] in
theorem Bfs.least (h : Bfs δ m first keys fr (keys.length, 0)) (u : List Nat) (hu : ∀ c ∈ u, c < m) : ∃ t, keys[t]? = some (runL δ first u) ∧ sle (word fr t) u := by
 have key : ∀ (f : Nat) (u : List Nat), u.length = f → (∀ c ∈ u, c < m) → ∃ t, keys[t]? = some (runL δ first u) ∧ sle (word fr t) u := by
  intro f
  induction f with
  | zero =>
    intro u hl _
    obtain rfl : u = [] := List.eq_nil_of_length_eq_zero hl
    exact ⟨0, h.zero, .inl rfl⟩
  | succ f ih =>
    intro u hl hu
    have hne : u ≠ [] := by rintro rfl; simp at hl
    obtain ⟨u', c, rfl⟩ : ∃ u' c, u = u' ++ [c] := ⟨u.dropLast, u.getLast hne, (List.dropLast_concat_getLast hne).symm⟩
    obtain ⟨i, hi, hle⟩ := ih u' (by simp at hl; omega) (fun x hx => hu x (by simp [hx]))
    have hil := (List.getElem?_eq_some_iff.1 hi).1
    obtain ⟨t, ht, hte⟩ := h.come i c _ (hu c (by simp)) (.inl hil) hi
    refine ⟨t, by rw [runL_snoc]; exact ht, ?_⟩
    rcases hte with rfl | ⟨p, hp, hpe⟩
    ·exact .inr (.inl (by simp [word_zero]))
    ·rcases Nat.eq_zero_or_pos t with rfl | h0
     ·exact .inr (.inl (by simp [word_zero]))
     ·have hs := h.step t p h0 hp
      have h2 : sle (word fr p.1 ++ [p.2]) (word fr i ++ [c]) := by
       rcases hpe with rfl | e | ⟨e1, e2⟩
       ·exact .inl rfl
       ·exact .inr (slt_snoc _ _ (h.word_lt _ _ e hil))
       ·simp only at e1 e2; rw [e1]; exact .inr (slt_last _ e2)
      rw [h.word_pos h0 hp]
      refine sle_trans h2 ?_
      rcases hle with e | e
      ·rw [e]; exact .inl rfl
      ·exact .inr (slt_snoc _ _ e)
 exact key u.length u rfl hu
end
theorem mem_length_le : ∀ {l u : List K}, l.Nodup → (∀ k ∈ l, k ∈ u) → l.length ≤ u.length
 | [], _, _, _ => by simp
 | a :: l, u, h, hm => by
   have ha : a ∈ u := hm a (by simp)
   have h1 := mem_length_le (l := l) (u := u.erase a) (List.nodup_cons.1 h).2 (fun k hk => by
    have hne : k ≠ a := fun e => (List.nodup_cons.1 h).1 (e ▸ hk)
    exact (List.mem_erase_of_ne hne).2 (hm k (by simp [hk])))
   rw [List.length_erase_of_mem ha] at h1
   have := List.length_pos_of_mem ha
   simp only [List.length_cons]
   omega
def Full (succ : K → List K) (first : K) (i : Nat) : Prop := (tourN succ first i).keys.length = i
section
variable {succ : K → List K} {first : K} {U : K → Prop}
theorem full_of_le {n : Nat} (h : (tourN succ first n).keys.length ≤ n) : Full succ first (tourN succ first n).keys.length ∧ tourN succ first (tourN succ first n).keys.length = tourN succ first n := by
 have h1 : (tourN succ first (tourN succ first n).keys.length).keys.length ≤ (tourN succ first n).keys.length := (tourN_pre succ first h).length_le
 have h2 := tourN_stay h1 h
 exact ⟨by unfold Full; rw [← h2], h2.symm⟩
theorem full_unique {i j : Nat} (hi : Full succ first i) (hj : Full succ first j) : i = j := by
 have key : ∀ i j, Full succ first i → Full succ first j → i ≤ j → i = j := by
  intro i j hi hj h
  have := tourN_stay (show (tourN succ first i).keys.length ≤ i by rw [hi]; exact Nat.le_refl _) h
  unfold Full at hj
  rw [this, hi] at hj
  exact hj
 rcases Nat.le_total i j with h | h
 ·exact key i j hi hj h
 ·exact (key j i hj hi h).symm
theorem tourN_le (hf : U first) (hc : ∀ k, U k → ∀ x ∈ succ k, U x) {u : List K} (hu : ∀ k, U k → k ∈ u) (i : Nat) : (tourN succ first i).keys.length ≤ u.length :=
 mem_length_le (tourN_nodup succ first i) fun k hk => hu k (tourN_univ hf hc i k hk)
theorem full_ex (hf : U first) (hc : ∀ k, U k → ∀ x ∈ succ k, U x) {u : List K} (hu : ∀ k, U k → k ∈ u) : ∃ i, i ≤ u.length ∧ Full succ first i :=
 ⟨_, tourN_le hf hc hu u.length, (full_of_le (tourN_le hf hc hu u.length)).1⟩
theorem full_keys {i n : Nat} (h : Full succ first i) : (tourN succ first n).keys <+: (tourN succ first i).keys := by
 rcases Nat.le_total n i with e | e
 ·exact tourN_pre succ first e
 ·rw [tourN_stay (by rw [h]; exact Nat.le_refl _) e]; exact List.prefix_refl _
theorem Full.bfs {δ : K → Nat → K} {m : Nat} {i : Nat} (h : Full (fan δ m) first i) : Bfs δ m first (tourN (fan δ m) first i).keys (tourN (fan δ m) first i).from_ ((tourN (fan δ m) first i).keys.length, 0) := by
 have := bfs_tour δ m first i (by rw [h]; exact Nat.le_refl _)
 unfold Full at h
 rw [h]
 exact this
end
theorem full_least {δ : K → Nat → K} {m : Nat} {first : K} {i : Nat} (h : Full (fan δ m) first i) (P : K → Bool) {n : Nat} {k : K} (hk : (tourN (fan δ m) first i).keys[n]? = some k)
 (hn : ∀ j x, j < n → (tourN (fan δ m) first i).keys[j]? = some x → P x = false) :
 runL δ first (word (tourN (fan δ m) first i).from_ n) = k ∧ (∀ c ∈ word (tourN (fan δ m) first i).from_ n, c < m) ∧ ∀ u, (∀ c ∈ u, c < m) → P (runL δ first u) = true → sle (word (tourN (fan δ m) first i).from_ n) u := by
 have hb := h.bfs
 have hl := (List.getElem?_eq_some_iff.1 hk).1
 obtain ⟨r1, r2⟩ := hb.word_run n hl
 refine ⟨by rw [hk] at r1; simpa using r1.symm, r2, fun u hu hp => ?_⟩
 obtain ⟨t, ht, hle⟩ := hb.least u hu
 have htn : n ≤ t := by
  rcases Nat.lt_or_ge t n with e | e
  ·have := hn t _ e ht; rw [hp] at this; cases this
  ·exact e
 exact sle_trans (hb.word_le htn (List.getElem?_eq_some_iff.1 ht).1) hle
theorem full_none {δ : K → Nat → K} {m : Nat} {first : K} {i : Nat} (h : Full (fan δ m) first i) (P : K → Bool) (hn : ∀ x ∈ (tourN (fan δ m) first i).keys, P x = false) (u : List Nat) (hu : ∀ c ∈ u, c < m) : P (runL δ first u) = false := by
 obtain ⟨t, ht, _⟩ := h.bfs.least u hu
 exact hn _ (List.mem_of_getElem? ht)
end
end Go.Tour
namespace Go.Tour
section
variable {K : Type}
def lang (δ : K → Nat → K) (m : Nat) (f : K → Bool) (k : K) (u : List Nat) : Bool := decide (∀ c ∈ u, c < m) && f (runL δ k u)
theorem lang_of {δ : K → Nat → K} {m : Nat} {f : K → Bool} {k : K} {u : List Nat} (h : ∀ c ∈ u, c < m) : lang δ m f k u = f (runL δ k u) := by
 unfold lang
 rw [decide_eq_true h]; rfl
end
section
variable {K : Type} [DecidableEq K]
theorem full_closed {succ : K → List K} {first : K} {i : Nat} (h : Full succ first i) {k : K} (hk : k ∈ (tourN succ first i).keys) : ∀ x ∈ succ k, x ∈ (tourN succ first i).keys := by
 obtain ⟨n, hn, rfl⟩ := List.getElem_of_mem hk
 have hle : i ≤ (tourN succ first i).keys.length := by rw [h]; exact Nat.le_refl _
 exact (tourN_next_at hle (by rw [h] at hn; exact hn) (List.getElem?_eq_getElem hn)).1
theorem full_next {succ : K → List K} {first : K} {i : Nat} (h : Full succ first i) : (tourN succ first i).next = (tourN succ first i).keys.map fun k => (succ k).map (tourN succ first i).keys.idxOf := by
 have hle : i ≤ (tourN succ first i).keys.length := by rw [h]; exact Nat.le_refl _
 have hl := tourN_next_len succ first i hle
 have hk : (tourN succ first i).keys.length = i := h
 apply List.ext_getElem?
 intro n
 rw [List.getElem?_map]
 rcases Nat.lt_or_ge n i with e | e
 ·have h1 : (tourN succ first i).keys[n]? = some _ := List.getElem?_eq_getElem (by omega)
  rw [h1, (tourN_next_at hle e h1).2]; rfl
 ·rw [List.getElem?_eq_none (by omega), List.getElem?_eq_none (by omega)]; rfl
end
variable {σ : Type}
structure DF (σ : Type) where
 syms : List σ
 next : List (List Nat)
 fin : List Bool
def stepD (d : DF σ) (s c : Nat) : Nat := ((d.next[s]?).getD [])[c]?.getD 0
def finD (d : DF σ) (s : Nat) : Bool := (d.fin[s]?).getD false
structure OkD (d : DF σ) : Prop where
 pos : 0 < d.next.length
 fin : d.fin.length = d.next.length
 row : ∀ r ∈ d.next, r.length = d.syms.length
 goes : ∀ r ∈ d.next, ∀ s ∈ r, s < d.next.length
theorem OkD.step {d : DF σ} (h : OkD d) (s c : Nat) : stepD d s c < d.next.length := by
 unfold stepD
 cases e : d.next[s]? with
 | none => simpa using h.pos
 | some r =>
   simp only [Option.getD_some]
   cases e2 : r[c]? with
   | none => simpa using h.pos
   | some x => exact h.goes r (List.mem_of_getElem? e) x (List.mem_of_getElem? e2)
theorem OkD.get {d : DF σ} (h : OkD d) {s c : Nat} (hs : s < d.next.length) (hc : c < d.syms.length) : ∃ r, d.next[s]? = some r ∧ r.length = d.syms.length ∧ r[c]? = some (stepD d s c) := by
 have e : d.next[s]? = some d.next[s] := List.getElem?_eq_getElem hs
 have hl := h.row _ (List.getElem_mem hs)
 refine ⟨_, e, hl, ?_⟩
 unfold stepD
 rw [e, Option.getD_some, List.getElem?_eq_getElem (by omega)]
 rfl
theorem OkD.fan {d : DF σ} (h : OkD d) {s : Nat} (hs : s < d.next.length) : d.next[s]? = some (fan (stepD d) d.syms.length s) := by
 have e : d.next[s]? = some d.next[s] := List.getElem?_eq_getElem hs
 rw [e]
 congr 1
 have hl := h.row _ (List.getElem_mem hs)
 apply List.ext_getElem?
 intro c
 rcases Nat.lt_or_ge c d.syms.length with hc | hc
 ·obtain ⟨r, h1, h2, h3⟩ := h.get hs hc
  rw [e] at h1
  simp only [Option.some.injEq] at h1
  rw [h1, h3, fan_get _ _ hc]
 ·rw [List.getElem?_eq_none (by omega), List.getElem?_eq_none (by rw [fan_length]; omega)]
theorem OkD.finAt {d : DF σ} (h : OkD d) {s : Nat} (hs : s < d.next.length) : d.fin[s]? = some (finD d s) := by
 unfold finD
 rw [List.getElem?_eq_getElem (by rw [h.fin]; exact hs)]; rfl
def langD (d : DF σ) : List Nat → Bool := lang (stepD d) d.syms.length (finD d) 0
def tourD {K : Type} (syms : List σ) (t : Tr K) (f : K → Bool) : DF σ := ⟨syms, t.next, t.keys.map f⟩
section
variable {K : Type} [DecidableEq K] {δ : K → Nat → K} {syms : List σ} {f : K → Bool} {first : K} {i : Nat}
theorem tourD_ok (h : Full (fan δ syms.length) first i) : OkD (tourD syms (tourN (fan δ syms.length) first i) f) := by
 have hn := full_next h
 have hk : (tourN (fan δ syms.length) first i).keys.length = i := h
 have hl : (tourN (fan δ syms.length) first i).next.length = i := by rw [hn]; simpa using hk
 have hp := tourN_pos (fan δ syms.length) first i
 refine ⟨by show 0 < (tourN (fan δ syms.length) first i).next.length; omega, by simp [tourD, hk, hl], ?_, ?_⟩
 ·intro r hr
  have hr : r ∈ (tourN (fan δ syms.length) first i).next := hr
  rw [hn] at hr
  simp only [List.mem_map] at hr
  obtain ⟨k, _, rfl⟩ := hr
  simp [fan, tourD]
 ·intro r hr s hs
  have hr : r ∈ (tourN (fan δ syms.length) first i).next := hr
  rw [hn] at hr
  simp only [List.mem_map] at hr
  obtain ⟨k, hk', rfl⟩ := hr
  simp only [List.mem_map] at hs
  obtain ⟨x, hx, rfl⟩ := hs
  have := List.idxOf_lt_length_of_mem (full_closed h hk' x hx)
  show _ < (tourN (fan δ syms.length) first i).next.length
  omega
end
section
variable [DecidableEq σ]
def goS (d : DF σ) (s : Int) (x : σ) : Int := if 0 ≤ s ∧ x ∈ d.syms then (stepD d s.toNat (d.syms.idxOf x) : Nat) else -1
def finS (d : DF σ) (s : Int) : Bool := decide (0 ≤ s) && finD d s.toNat
theorem goS_none {d : DF σ} {s : Int} (h : s < 0) (x : σ) : goS d s x = -1 := by unfold goS; rw [if_neg (by omega)]
theorem goS_out {d : DF σ} {x : σ} (h : x ∉ d.syms) (s : Int) : goS d s x = -1 := by unfold goS; rw [if_neg (by simp [h])]
theorem goS_in {d : DF σ} {x : σ} (h : x ∈ d.syms) (s : Nat) : goS d s x = (stepD d s (d.syms.idxOf x) : Nat) := by unfold goS; rw [if_pos ⟨by omega, h⟩]; simp
def wordsOf (syms : List σ) (u : List Nat) : List σ := u.filterMap fun c => syms[c]?
theorem idx_of_get {l : List σ} (hn : l.Nodup) {n : Nat} {x : σ} (h : l[n]? = some x) : l.idxOf x = n := by
 obtain ⟨h1, rfl⟩ := List.getElem?_eq_some_iff.1 h
 exact hn.idxOf_getElem n h1
omit [DecidableEq σ] in
theorem wordsOf_cons {syms : List σ} {c : Nat} (hc : c < syms.length) (u : List Nat) : wordsOf syms (c :: u) = syms[c] :: wordsOf syms u := by
 simp [wordsOf, hc]
omit [DecidableEq σ] in
theorem wordsOf_length {syms : List σ} : ∀ {u : List Nat}, (∀ c ∈ u, c < syms.length) → (wordsOf syms u).length = u.length
 | [], _ => rfl
 | c :: u, hu => by rw [wordsOf_cons (hu c (by simp))]; simp [wordsOf_length (u := u) (fun x hx => hu x (by simp [hx]))]
omit [DecidableEq σ] in
theorem wordsOf_snoc {syms : List σ} (u : List Nat) {c : Nat} (hc : c < syms.length) : wordsOf syms (u ++ [c]) = wordsOf syms u ++ [syms[c]] := by
 simp [wordsOf, List.filterMap_append, hc]
end
end Go.Tour
namespace Go.Tour
section
variable {κ : Type} [DecidableEq κ]
end
section
variable {a b : List Nat} {c d : Nat}
end
variable {σ : Type}
def at0 (a : List Nat) (s : Nat) : Nat := (a[s]?).getD 0
def finC (d : DF σ) (one : List Nat) (c : Nat) : Bool := finD d (at0 one c)
section
variable {d : DF σ} {a one : List Nat}
end
end Go.Tour
