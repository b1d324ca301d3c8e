/-
  Memory of the reference's First: the rows, and the pairs that have been seen.
  Cells of an automaton as the reference's First reads them; the second one, which may be none.
  Plain law: a key that is new in a row of a tour: its words.
  Walk of the reference's First.
-/
import Derived.Test.YtngpjagpeblbjaaGreatDoorC04
import Derived.StillTailTactics
namespace Go.Proofs.YtngpjagpeblbjaaGreatDoor
open Go.RowKit Go.Spy Go.Heaped Go.Tour Go.Rx
def rowA (r : Value × PI) : Array Value := #[slV r.1, .int .i64 r.2.1, .int .i64 r.2.2]
theorem rowA_size (r : Value × PI) : (rowA r).size = 3 := rfl
theorem ones_rowA (r : Value × PI) : Ones (rowA r) := by
 intro v hv
 simp only [rowA, List.mem_toArray, List.mem_cons, List.not_mem_nil, or_false] at hv
 rcases hv with rfl | rfl | rfl
 ·cases r.1 <;> rfl
 ·rfl
 ·rfl
theorem elem_rows : ElemOk Tryz.prog 147 146 3 40 where
 under := Tryz.underlying147
 info := by
  obtain ⟨i, h1, h2, h3, h4⟩ := info_parts (P := Tryz.prog) (e := 146) (z := .agg #[.slice none 0 0, .int .i64 0, .int .i64 0]) (size := 3) (bytes := 40) (by kernel_rfl)
  exact ⟨i, _, h1, h2, h3, h4, rfl⟩
 pos := by decide
 small := by decide
theorem own_lit {α : Type} {w : World} {g base n : Nat} {e : TypeId} {s : Nat} {f : α → Array Value} {A : Array Value} {l : List α} (hb : Blk w g e A) (hg : base ≤ g) (hA : A.toList = l.flatMap fun x => (f x).toList) (hn : n = l.length) (hs : A.size = n * s) (hm : n ≤ 1000) : OwnR w base e s f (.slice (some ⟨g, 0, none⟩) n n) l := by
 subst hn
 have hl : (l.flatMap fun x => (f x).toList).length = l.length * s := by rw [← hA, Array.length_toList, hs]
 refine ⟨hl, .inr ⟨g, l.length, A, rfl, hg, hb, Nat.le_refl _, by unfold maxLen; omega, hs, ?_⟩⟩
 rw [← hs, ← hA]
 exact List.take_of_length_le (by simp)
section
variable {w w' : World} {base : Nat} {vR vS : Value} {rows : List (Value × PI)} {us : List Value} {syms : List ByteArray} {keys : List PI} {fr : List (Nat × Nat)}
structure RowsR (w : World) (base : Nat) (vR : Value) (rows : List (Value × PI)) (syms : List ByteArray) (keys : List PI) (fr : List (Nat × Nat)) : Prop where
 own : OwnR w base 146 3 rowA vR rows
 len : rows.length = keys.length
 row : ∀ (n : Nat) (r : Value × PI), rows[n]? = some r → keys[n]? = some r.2 ∧ OwnR w base 9 1 strC r.1 (wordsOf syms (word fr n))
structure SeenR (w : World) (base : Nat) (vS : Value) (us : List Value) (keys : List PI) : Prop where
 own : OwnR w base 46 1 oneA vS us
 len : us.length = keys.length
 key : ∀ (n : Nat) (u : Value) (p : PI), us[n]? = some u → keys[n]? = some p → OwnR w base 3 1 intZ u (lstP p)
theorem RowsR.ext (h : RowsR w base vR rows syms keys fr) (e : Ext w w') : RowsR w' base vR rows syms keys fr := ⟨h.own.ext e, h.len, fun n r hr => ⟨(h.row n r hr).1, (h.row n r hr).2.ext e⟩⟩
theorem SeenR.ext (h : SeenR w base vS us keys) (e : Ext w w') : SeenR w' base vS us keys := ⟨h.own.ext e, h.len, fun n u p h1 h2 => (h.key n u p h1 h2).ext e⟩
theorem RowsR.chgS (h : RowsR w base vR rows syms keys fr) (s : OwnR w base 46 1 oneA vS us) (c : Chg (fun k => vS.ownBlock = some k) w w') : RowsR w' base vR rows syms keys fr :=
 ⟨h.own.chg c fun k e e' => own_apart h.own s (by decide) k e e', h.len, fun n r hr => ⟨(h.row n r hr).1, (h.row n r hr).2.chg c fun k e e' => own_apart (h.row n r hr).2 s (by decide) k e e'⟩⟩
theorem SeenR.chgR (h : SeenR w base vS us keys) (s : OwnR w base 146 3 rowA vR rows) (c : Chg (fun k => vR.ownBlock = some k) w w') : SeenR w' base vS us keys :=
 ⟨h.own.chg c fun k e e' => own_apart h.own s (by decide) k e e', h.len, fun n u p h1 h2 => (h.key n u p h1 h2).chg c fun k e e' => own_apart (h.key n u p h1 h2) s (by decide) k e e'⟩
theorem SeenR.app (h : SeenR w base vS us keys) {v' u' : Value} {p : PI} (o : OwnR w' base 46 1 oneA v' (us ++ [u'])) (c : Chg (fun k => vS.ownBlock = some k) w w') (k : OwnR w base 3 1 intZ u' (lstP p)) : SeenR w' base v' (us ++ [u']) (keys ++ [p]) := by
 refine ⟨o, by simp [h.len], fun n u q h1 h2 => ?_⟩
 rcases Nat.lt_trichotomy n keys.length with hn | hn | hn
 ·rw [List.getElem?_append_left (by rw [h.len]; exact hn)] at h1
  rw [List.getElem?_append_left hn] at h2
  exact (h.key n u q h1 h2).chg c fun g e e' => own_apart (h.key n u q h1 h2) h.own (by decide) g e e'
 ·subst hn
  rw [← h.len, List.getElem?_append_right (Nat.le_refl _), Nat.sub_self] at h1
  rw [List.getElem?_append_right (Nat.le_refl _), Nat.sub_self] at h2
  cases h1; cases h2
  exact k.chg c fun g e e' => own_apart k h.own (by decide) g e e'
 ·have := (List.getElem?_eq_some_iff.1 h2).1
  simp at this
  omega
theorem RowsR.app (h : RowsR w base vR rows syms keys fr) {v' vw : Value} {p : PI} {fr' : List (Nat × Nat)} (o : OwnR w' base 146 3 rowA v' (rows ++ [(vw, p)])) (c : Chg (fun k => vR.ownBlock = some k) w w') (hw : OwnR w base 9 1 strC vw (wordsOf syms (word fr' keys.length))) (hfr : ∀ n, n < keys.length → word fr' n = word fr n) : RowsR w' base v' (rows ++ [(vw, p)]) syms (keys ++ [p]) fr' := by
 refine ⟨o, by simp [h.len], fun n r h1 => ?_⟩
 rcases Nat.lt_trichotomy n keys.length with hn | hn | hn
 ·rw [List.getElem?_append_left (by rw [h.len]; exact hn)] at h1
  rw [List.getElem?_append_left hn, hfr n hn]
  exact ⟨(h.row n r h1).1, (h.row n r h1).2.chg c fun g e e' => own_apart (h.row n r h1).2 h.own (by decide) g e e'⟩
 ·subst hn
  rw [← h.len, List.getElem?_append_right (Nat.le_refl _), Nat.sub_self] at h1
  rw [List.getElem?_append_right (Nat.le_refl _), Nat.sub_self]
  cases h1
  exact ⟨rfl, hw.chg c fun g e e' => own_apart hw h.own (by decide) g e e'⟩
 ·have := (List.getElem?_eq_some_iff.1 h1).1
  simp [h.len] at this
  omega
theorem SeenR.keysR (h : SeenR w base vS us keys) : KeysR w us (keys.map lstP) := by
 refine ⟨by rw [List.length_map]; exact h.len, fun i u x h1 h2 => ?_⟩
 rw [List.getElem?_map, Option.map_eq_some_iff] at h2
 obtain ⟨p, hp, rfl⟩ := h2
 exact OwnR.read (h.key i u p h1 hp) (fun _ => rfl)
end
end Go.Proofs.YtngpjagpeblbjaaGreatDoor
namespace Go.Proofs.YtngpjagpeblbjaaGreatDoor
open Go.RowKit Go.Spy Go.Heaped Go.Tour Go.Rx
section
variable {w : World} {aoS aoN aoF : Option Addr} {n1 n2 n3 cS cN cF : Nat} {A B : DA}
theorem DfaW.partsR (h : DfaW w (.agg #[.slice aoS n1 cS, .slice aoN n2 cN, .slice aoF n3 cF]) A) : ∃ us, DfaP w (.slice aoS n1 cS) (.slice aoN n2 cN) (.slice aoF n3 cF) us A.raw := by
 obtain ⟨⟨vS, vN, vF, us, e, hP⟩, _, _⟩ := h
 simp only [Value.agg.injEq, Array.mk.injEq, List.cons.injEq, and_true] at e
 obtain ⟨rfl, rfl, rfl⟩ := e
 exact ⟨us, hP⟩
theorem DfaW.lens (h : DfaW w (.agg #[.slice aoS n1 cS, .slice aoN n2 cN, .slice aoF n3 cF]) A) : n1 = A.syms.length ∧ n2 = A.next.length ∧ n3 = A.next.length := by
 obtain ⟨us, hP⟩ := h.partsR
 have W := h.well
 obtain ⟨a1, c1, e1, -⟩ := hP.syms.form
 obtain ⟨a2, c2, e2, -⟩ := hP.next.form
 obtain ⟨a3, c3, e3, -⟩ := hP.fin.form
 simp only [Value.slice.injEq] at e1 e2 e3
 have hl := hP.len
 refine ⟨e1.2.1, ?_, ?_⟩
 ·rw [e2.2.1, hl]; simp [DF.raw]
 ·rw [e3.2.1]; exact W.ok.fin
theorem DfaW.symC (h : DfaW w (.agg #[.slice aoS n1 cS, .slice aoN n2 cN, .slice aoF n3 cF]) A) {c : Nat} (hc : c < n1) : ∃ g off, aoS = some ⟨g, off, none⟩ ∧ w.cell? ⟨g, off + c, none⟩ = some (.string (symAt A.syms c)) := by
 obtain ⟨us, hP⟩ := h.partsR
 have hl := h.lens
 obtain ⟨a1, c1, e1, hf⟩ := hP.syms.form
 simp only [Value.slice.injEq] at e1
 obtain ⟨rfl, e2, rfl⟩ := e1
 have hc2 : c < A.syms.length := by rw [← hl.1]; exact hc
 obtain ⟨g, off, rfl⟩ := hf (show 0 < A.syms.length by omega)
 refine ⟨g, off, rfl, ?_⟩
 rw [symAt_some hc2]
 exact hP.syms.cell1 (List.getElem?_eq_getElem hc2)
theorem DfaW.finC (h : DfaW w (.agg #[.slice aoS n1 cS, .slice aoN n2 cN, .slice aoF n3 cF]) A) {s : Nat} (hs : s < n2) : ∃ g off, aoF = some ⟨g, off, none⟩ ∧ w.cell? ⟨g, off + s, none⟩ = some (.bool (finS A s)) := by
 obtain ⟨us, hP⟩ := h.partsR
 have hl := h.lens
 obtain ⟨a1, c1, e1, hf⟩ := hP.fin.form
 simp only [Value.slice.injEq] at e1
 obtain ⟨rfl, e2, rfl⟩ := e1
 have hs2 : s < A.fin.length := by rw [h.well.ok.fin, ← hl.2.1]; exact hs
 obtain ⟨g, off, rfl⟩ := hf (show 0 < A.fin.length by omega)
 refine ⟨g, off, rfl, ?_⟩
 have e : finS A (s : Int) = A.fin[s] := by
  unfold finS finD
  simp [List.getElem?_eq_getElem hs2]
 rw [e]
 exact hP.fin.cell1 (List.getElem?_eq_getElem hs2)
theorem DfaW.nextC (h : DfaW w (.agg #[.slice aoS n1 cS, .slice aoN n2 cN, .slice aoF n3 cF]) A) {s c : Nat} (hs : s < n2) (hc : c < n1) : ∃ gN oN g off cc, aoN = some ⟨gN, oN, none⟩ ∧ w.cell? ⟨gN, oN + s, none⟩ = some (.slice (some ⟨g, off, none⟩) n1 cc) ∧ w.cell? ⟨g, off + c, none⟩ = some (.int .i64 (goS A s (symAt A.syms c))) := by
 obtain ⟨us, hP⟩ := h.partsR
 have hl := h.lens
 have hc2 : c < A.syms.length := by rw [← hl.1]; exact hc
 obtain ⟨ao, cc, hu, hcell⟩ := hP.cellN h.well (s := s) (by rw [← hl.2.1]; exact hs)
 obtain ⟨g, off, rfl, hv⟩ := hcell c hc2
 obtain ⟨a1, c1, e1, hf⟩ := hP.next.form
 simp only [Value.slice.injEq] at e1
 obtain ⟨rfl, e2, rfl⟩ := e1
 obtain ⟨gN, oN, rfl⟩ := hf (by omega)
 refine ⟨gN, oN, g, off, cc, rfl, ?_, ?_⟩
 ·have h2 := hP.next.cell1 hu
  rw [← hl.1] at h2
  simpa [oneA, slV] using h2
 ·have hm : symAt A.syms c ∈ A.syms := by rw [symAt_some hc2]; exact List.getElem_mem hc2
  have e : goS A (s : Int) (symAt A.syms c) = (stepD A s c : Nat) := by
   rw [goS_in hm]
   congr 2
   refine idx_of_get h.well.rising.nodup ?_
   rw [symAt_some hc2]; exact List.getElem?_eq_getElem hc2
  rw [e]; exact hv
structure SideW (w : World) (xB : Array Value) (m2 m3 : Nat) (aoF : Option Addr) (qs : Int → ByteArray → Int) (ot : Int → Bool) (m : Nat) : Prop where
 ok : SideOk qs m
 nil : m2 = 0 → (∀ q x, qs q x = -1) ∧ ∀ q, ot q = false
 neg : ∀ q : Int, q < 0 → ot q = false
 step : 0 < m2 → ∀ W, Ext w W → ∀ (q : Int) (x : ByteArray), q < m → Calls Tryz.prog 94 #[.agg xB, .int .i64 q, .string x] W fun e w' => e = .returned (.int .i64 (qs q x)) ∧ Ext W w'
 len : 0 < m2 → m3 = m
 cell : 0 < m2 → ∀ q : Nat, q < m → ∃ g off, aoF = some ⟨g, off, none⟩ ∧ ∀ W, Ext w W → W.cell? ⟨g, off + q, none⟩ = some (.bool (ot q))
theorem side_dfa (h : DfaW w (.agg #[.slice aoS n1 cS, .slice aoN n2 cN, .slice aoF n3 cF]) B) : SideW w #[.slice aoS n1 cS, .slice aoN n2 cN, .slice aoF n3 cF] n2 n3 aoF (goS B) (finS B) B.next.length where
 ok := ⟨h.well.ok.pos, h.well.most, fun q x _ _ => goS_bnd h.well q x⟩
 nil h0 := by
  have h1 := h.well.ok.pos
  have h2 := h.lens.2.1
  omega
 neg q hq := by unfold finS; rw [decide_eq_false (by omega)]; rfl
 step _ W e q x hq := step_any (h.ext e) q hq x
 len _ := h.lens.2.2
 cell _ q hq := by
  obtain ⟨g, off, e1, hc⟩ := h.finC (s := q) (by rw [h.lens.2.1]; exact hq)
  refine ⟨g, off, e1, fun W e => ?_⟩
  obtain ⟨g', off', e2, hc'⟩ := (h.ext e).finC (s := q) (by rw [h.lens.2.1]; exact hq)
  rw [e1] at e2
  cases e2
  exact hc'
end
end Go.Proofs.YtngpjagpeblbjaaGreatDoor
namespace Go.Tour
section
variable {K : Type} [DecidableEq K]
theorem vis1_len (r : Nat) (s : St K) (k : K) (j : Nat) : (vis1 r s k j).keys.length ≤ s.keys.length + 1 := by
 unfold vis1
 split
 ·exact Nat.le_succ _
 ·simp
theorem visN_len (r : Nat) (s : St K) (l : List K) : ∀ j, (visN r s l j).keys.length ≤ s.keys.length + j
 | 0 => Nat.le_refl _
 | j + 1 => by
   have ih := visN_len r s l j
   unfold visN
   split
   ·have := vis1_len r (visN r s l j) ‹K› j
    omega
   ·omega
variable {δ : K → Nat → K} {m : Nat} {first : K} {keys : List K} {fr : List (Nat × Nat)} {i j : Nat}
theorem bfs_new (h : Bfs δ m first keys fr (i, 0)) {k : K} (hk : keys[i]? = some k) (hj : j < m) {ls : List K} {gr : List (Nat × Nat)} (hls : ls = (visN i ⟨keys, fr, []⟩ (fan δ m k) j).keys) (hgr : gr = (visN i ⟨keys, fr, []⟩ (fan δ m k) j).from_) (hn : δ k j ∉ ls) :
 (visN i ⟨keys, fr, []⟩ (fan δ m k) (j + 1)).keys = ls ++ [δ k j] ∧ (visN i ⟨keys, fr, []⟩ (fan δ m k) (j + 1)).from_ = gr ++ [(i, j)] ∧ (∀ n, n < ls.length → word (gr ++ [(i, j)]) n = word gr n) ∧ word (gr ++ [(i, j)]) ls.length = word fr i ++ [j] := by
 have hs := visN_succ (r := i) (s := ⟨keys, fr, []⟩) (fan_get δ k hj)
 have e1 : (visN i ⟨keys, fr, []⟩ (fan δ m k) (j + 1)).keys = ls ++ [δ k j] := by
  rw [hs]; unfold vis1; rw [← hls, if_neg hn]
 have e2 : (visN i ⟨keys, fr, []⟩ (fan δ m k) (j + 1)).from_ = gr ++ [(i, j)] := by
  rw [hs]; unfold vis1; rw [← hls, if_neg hn, ← hgr]
 have b1 := h.visN hk j (Nat.le_of_lt hj)
 have b2 := h.visN hk (j + 1) hj
 rw [← hls, ← hgr] at b1
 rw [e1, e2] at b2
 have hi : i < keys.length := (List.getElem?_eq_some_iff.1 hk).1
 have hil : i < ls.length := by
  have := (visN_pre i ⟨keys, fr, []⟩ (fan δ m k) j).length_le
  rw [← hls] at this
  exact Nat.lt_of_lt_of_le hi this
 have w1 : ∀ n, n < ls.length → word (gr ++ [(i, j)]) n = word gr n := fun n hn' => b1.word_app b2 (List.prefix_append _ _) n (by rw [b1.len]; exact hn')
 refine ⟨e1, e2, w1, ?_⟩
 have hg : (gr ++ [(i, j)])[ls.length]? = some (i, j) := by
  rw [List.getElem?_append_right (by rw [b1.len]; exact Nat.le_refl _), b1.len]; simp
 rw [b2.word_pos (by omega) hg, w1 i hil]
 have hp : fr <+: gr := by rw [hgr]; exact visN_from i ⟨keys, fr, []⟩ (fan δ m k) j
 rw [h.word_app b1 hp i (by rw [h.len]; exact hi)]
end
end Go.Tour
namespace Go.Proofs.YtngpjagpeblbjaaGreatDoor
open Go.RowKit Go.Spy Go.Heaped Go.Tour Go.Rx
theorem ext_chg {w0 w w' : World} {S : Nat → Prop} (e : Ext w0 w) (c : Chg S w w') (hS : ∀ k, S k → w0.heap.size ≤ k) : Ext w0 w' :=
 e.trans ((c.mono (S' := fun k => w0.heap.size ≤ k) fun k _ h => hS k h).below e.size (fun _ h => h))
theorem snoc_at {α β : Type} {l : List α} {m : List β} (hl : l.length = m.length) {a : α} {b : β} {n : Nat} {x : α} {y : β} (h1 : (l ++ [a])[n]? = some x) (h2 : (m ++ [b])[n]? = some y) : (l[n]? = some x ∧ m[n]? = some y) ∨ (x = a ∧ y = b) := by
 rcases Nat.lt_trichotomy n l.length with hn | hn | hn
 ·rw [List.getElem?_append_left hn] at h1
  rw [List.getElem?_append_left (by omega)] at h2
  exact .inl ⟨h1, h2⟩
 ·subst hn
  rw [List.getElem?_append_right (Nat.le_refl _), Nat.sub_self] at h1
  rw [hl, List.getElem?_append_right (Nat.le_refl _), Nat.sub_self] at h2
  cases h1; cases h2
  exact .inr ⟨rfl, rfl⟩
 ·have := (List.getElem?_eq_some_iff.1 h1).1
  simp at this
  omega
end Go.Proofs.YtngpjagpeblbjaaGreatDoor
namespace Go.Proofs.YtngpjagpeblbjaaGreatDoor
open Go.RowKit Go.Spy Go.Heaped Go.Tour Go.Rx
structure FirstW (w wr : World) (xA xB : Array Value) (A : DA) (vR vS : Value) (rows : List (Value × PI)) (us : List Value) (ks : List PI) (fr : List (Nat × Nat)) : Prop where
 ext : Ext w wr
 a : Blk wr w.heap.size 40 xA
 b : Blk wr (w.heap.size + 1) 40 xB
 rows : RowsR wr w.heap.size vR rows A.syms ks fr
 seen : SeenR wr w.heap.size vS us ks
theorem FirstW.ext' {w wr wy : World} {xA xB : Array Value} {A : DA} {vR vS : Value} {rows : List (Value × PI)} {us : List Value} {ks : List PI} {fr : List (Nat × Nat)} (h : FirstW w wr xA xB A vR vS rows us ks fr) (e : Ext wr wy) : FirstW w wy xA xB A vR vS rows us ks fr :=
 ⟨h.ext.trans (e.mono h.ext.size), h.a.ext e, h.b.ext e, h.rows.ext e, h.seen.ext e⟩
theorem info146 : (Tryz.prog.info? 146).map (·.size) = some 3 := by kernel_rfl
theorem slot146 : (Tryz.prog.info? 146).map (fun i => (i.zero, i.size)) = some (some (.agg #[.slice none 0 0, .int .i64 0, .int .i64 0]), 3) := by kernel_rfl
theorem first_start (w : World) (xA xB : Array Value) (A : DA) {W : World} (hW : W = ((((w.alloc (.cells xA 40)).alloc (.cells xB 40)).alloc (.cells #[.slice none 0 0, .int .i64 0, .int .i64 0] 146)).alloc (.cells #[.int .i64 0, .int .i64 0] 3)).alloc (.cells #[.slice (some ⟨w.heap.size + 1 + 1 + 1, 0, none⟩) 2 2] 46)) :
 FirstW w W xA xB A (.slice (some ⟨w.heap.size + 1 + 1, 0, none⟩) 1 1) (.slice (some ⟨w.heap.size + 1 + 1 + 1 + 1, 0, none⟩) 1 1) [(.slice none 0 0, (0, 0))] [.slice (some ⟨w.heap.size + 1 + 1 + 1, 0, none⟩) 2 2] [(0, 0)] [(0, 0)] := by
 subst hW
 have hR : OwnR (((((w.alloc (.cells xA 40)).alloc (.cells xB 40)).alloc (.cells #[.slice none 0 0, .int .i64 0, .int .i64 0] 146)).alloc (.cells #[.int .i64 0, .int .i64 0] 3)).alloc (.cells #[.slice (some ⟨w.heap.size + 1 + 1 + 1, 0, none⟩) 2 2] 46)) w.heap.size 146 3 rowA (.slice (some ⟨w.heap.size + 1 + 1, 0, none⟩) 1 1) [(.slice none 0 0, ((0 : Int), (0 : Int)))] :=
  own_lit (((Blk.new' _ _ _ (by simp)).alloc _).alloc _) (by omega) rfl rfl rfl (by decide)
 have hS : OwnR (((((w.alloc (.cells xA 40)).alloc (.cells xB 40)).alloc (.cells #[.slice none 0 0, .int .i64 0, .int .i64 0] 146)).alloc (.cells #[.int .i64 0, .int .i64 0] 3)).alloc (.cells #[.slice (some ⟨w.heap.size + 1 + 1 + 1, 0, none⟩) 2 2] 46)) w.heap.size 46 1 oneA (.slice (some ⟨w.heap.size + 1 + 1 + 1 + 1, 0, none⟩) 1 1) [.slice (some ⟨w.heap.size + 1 + 1 + 1, 0, none⟩) 2 2] :=
  own_lit (Blk.new' _ _ _ (by simp)) (by omega) rfl rfl rfl (by decide)
 have hK : OwnR (((((w.alloc (.cells xA 40)).alloc (.cells xB 40)).alloc (.cells #[.slice none 0 0, .int .i64 0, .int .i64 0] 146)).alloc (.cells #[.int .i64 0, .int .i64 0] 3)).alloc (.cells #[.slice (some ⟨w.heap.size + 1 + 1 + 1, 0, none⟩) 2 2] 46)) w.heap.size 3 1 intZ (.slice (some ⟨w.heap.size + 1 + 1 + 1, 0, none⟩) 2 2) (lstP (0, 0)) :=
  own_lit ((Blk.new' _ _ _ (by simp)).alloc _) (by omega) rfl rfl rfl (by decide)
 refine ⟨((((((Below.refl _ _).alloc (Nat.le_refl _) _).alloc (by simp) _).alloc (by simp; omega) _).alloc (by simp; omega) _).alloc (by simp; omega) _), ((((Blk.new _ _ _).alloc _).alloc _).alloc _).alloc _, (((Blk.new' _ _ _ (by simp)).alloc _).alloc _).alloc _, ⟨hR, rfl, ?_⟩, ⟨hS, rfl, ?_⟩⟩
 ·intro n r hr
  have h0 : n = 0 := by have := (List.getElem?_eq_some_iff.1 hr).1; simp at this; exact this
  subst h0
  cases hr
  exact ⟨rfl, by rw [word_zero]; exact OwnR.nil _ _ _ _ _⟩
 ·intro n u p hu hp
  have h0 : n = 0 := by have := (List.getElem?_eq_some_iff.1 hu).1; simp at this; exact this
  subst h0
  cases hu; cases hp
  exact hK
set_option maxRecDepth 100000 in
set_option maxHeartbeats 4000000 in
theorem rfirst_any {w : World} {A : DA} {aoS aoN aoF aoS2 aoN2 aoF2 : Option Addr} {n1 n2 n3 cS cN cF m1 m2 m3 cS2 cN2 cF2 : Nat} {qs : Int → ByteArray → Int} {ot : Int → Bool} {m : Nat}
 (hA : DfaW w (.agg #[.slice aoS n1 cS, .slice aoN n2 cN, .slice aoF n3 cF]) A) (hB : SideW w #[.slice aoS2 m1 cS2, .slice aoN2 m2 cN2, .slice aoF2 m3 cF2] m2 m3 aoF2 qs ot m) :
 Calls Tryz.prog 34 #[.agg #[.slice aoS n1 cS, .slice aoN n2 cN, .slice aoF n3 cF], .agg #[.slice aoS2 m1 cS2, .slice aoN2 m2 cN2, .slice aoF2 m3 cF2]] w (FirstPost A qs ot w) := by
 have HA := hid hA
 have HB := hid hB
 have HL := hid hA.lens
 have hn1 : n1 ≤ 1000 := by rw [hA.lens.1]; exact hA.bnd.s
 have hn2 : n2 ≤ 256 := by rw [hA.lens.2.1]; exact hA.well.most
 have hm : m ≤ 256 := hB.ok.le
 have HW := hid hA.well
 have HST := hid (first_start w #[.slice aoS n1 cS, .slice aoN n2 cN, .slice aoF n3 cF] #[.slice aoS2 m1 cS2, .slice aoN2 m2 cN2, .slice aoF2 m3 cF2] A rfl)
 clear hA hB
 go_enter Tryz.func34, Tryz.ntmps34
 go_wp2_with fail
 go_loopg [6, 7, 8] 70000 (fun g vR vS u wr => ∃ (i : Nat) (rows : List (Value × PI)) (us : List Value) (ks : List PI) (fr : List (Nat × Nat)), g = 70000 - i ∧ i ≤ 66049 ∧ u = .int .i64 i ∧ Hid (ks = (tourN (succF A qs) (0, 0) i).keys ∧ fr = (tourN (succF A qs) (0, 0) i).from_ ∧ i ≤ ks.length) ∧ Hid (FirstW w wr #[.slice aoS n1 cS, .slice aoN n2 cN, .slice aoF n3 cF] #[.slice aoS2 m1 cS2, .slice aoN2 m2 cN2, .slice aoF2 m3 cF2] A vR vS rows us ks fr) ∧ Hid (∀ (n : Nat) (p : PI), n < i → ks[n]? = some p → finF A ot p = false))
 case atStart => exact ⟨0, _, _, _, _, rfl, Nat.zero_le _, rfl, hid ⟨rfl, rfl, Nat.zero_le _⟩, HST, hid (fun n p h => absurd h (Nat.not_lt_zero n))⟩
 case round =>
  obtain ⟨i, rows, us, ks, fr, rfl, hi, rfl, HT, HF, HN⟩ := hrel
  obtain ⟨aoR, cR, rfl, hfR⟩ := (OwnR.read HF.out.rows.own rowA_size).form
  obtain ⟨aoU, cU, rfl, -⟩ := (OwnR.read HF.out.seen.own (fun _ => rfl)).form
  have hlr : rows.length = ks.length := HF.out.rows.len
  have hlu : us.length = ks.length := HF.out.seen.len
  have hk9 : ks.length ≤ 66049 := by rw [HT.out.1]; exact tourF_le HW.out HB.out.ok i
  have hik := HT.out.2.2
  obtain ⟨nk, hnk⟩ : ∃ n, n = ks.length := ⟨_, rfl⟩
  rw [← hnk] at hlr hlu hk9 hik
  rw [hlr, hlu] at HF ⊢
  rw [hlr] at hfR
  have HNK := hid hnk
  have HLR := hid hlr
  have HLU := hid hlu
  have HFR := hid hfR
  clear hnk hlr hlu hfR
  by_cases hlt : i < nk
  ·have q1 : decide (i < nk) = true := decide_eq_true hlt
   have q2 : decide ((i : Int) < (nk : Int)) = true := decide_eq_true (by omega)
   obtain ⟨gR, oR, rfl⟩ := HFR.out (by omega)
   obtain ⟨r, hr⟩ : ∃ r, rows[i]? = some r := ⟨_, List.getElem?_eq_getElem (by rw [HLR.out]; exact hlt)⟩
   obtain ⟨vw, p, q⟩ := r
   obtain ⟨hk, hw⟩ := HF.out.rows.row i _ hr
   have hkey : okF A m (p, q) := tourN_univ (zero_okF HW.out HB.out.ok) (succF_ok HW.out HB.out.ok) i (p, q) (by rw [← HT.out.1]; exact List.mem_of_getElem? hk)
   obtain ⟨aw, cw, rfl, -⟩ := (OwnR.read hw strC_size).form
   obtain ⟨lw, hlw⟩ : ∃ n, n = (wordsOf A.syms (word fr i)).length := ⟨_, rfl⟩
   rw [← hlw] at hr hw
   have hl9 : lw ≤ 66049 := by
    have hb := bfs_tour (goF A qs) A.syms.length (0, 0) i (by have := HT.out.2.2; rw [HT.out.1] at this; exact this)
    rw [← HT.out.1, ← HT.out.2.1] at hb
    have h1 := hb.word_len i (by rw [hb.len, ← HNK.out]; exact hlt)
    have h2 := (hb.word_run i (by rw [← HNK.out]; exact hlt)).2
    rw [hlw, wordsOf_length h2]; omega
   obtain ⟨hp0, hp1, hq0, hq1⟩ := hkey
   simp only at hp0 hp1 hq0 hq1 hk
   obtain ⟨s, rfl⟩ : ∃ s : Nat, p = s := ⟨p.toNat, by omega⟩
   have hs : s < n2 := by rw [HL.out.2.1]; omega
   have HC1 : Hid (∀ e, e < 3 → wr.cell? ⟨gR, oR + i * 3 + e, none⟩ = (#[.slice aw lw cw, .int .i64 s, .int .i64 q] : Array Value)[e]?) := hid fun e he => by
    have h0 := OwnR.read HF.out.rows.own rowA_size
    rw [← HLR.out] at h0
    have h := h0.cell hr (k := e) he
    rwa [show oR + (i * 3 + e) = oR + i * 3 + e by omega] at h
   have HR := hid hr
   have HKK := hid hk
   have HWW := hid hw
   have HLW := hid hlw
   clear hr hk hw hlw
   go_upto_region 7 with (with_reducible refine onOp 29 ?_; go_loud (refine wpList_load_cells rfl 146 (.tmp 28) rfl gR (oR + i * 3) rfl #[.slice aw lw cw, .int .i64 s, .int .i64 q] _ 3 HC1.out rfl Tryz.underlying146 rfl info146 ?_))
   obtain ⟨w1, hw1⟩ : ∃ u, u = wr.alloc (.cells #[.slice aw lw cw, .int .i64 s, .int .i64 q] 146) := ⟨_, rfl⟩
   have HE1 : Hid (Ext wr w1) := hid (hw1 ▸ (Below.refl _ _).alloc (Nat.le_refl _) _)
   have HBX : Hid (Blk w1 wr.heap.size 146 #[.slice aw lw cw, .int .i64 s, .int .i64 q]) := hid (hw1 ▸ Blk.new _ _ _)
   have HF1 := hid (HF.out.ext' HE1.out)
   rw [← hw1]
   clear hw1 HC1
   go_cut [10] from 30 to 46 (fun u wx => u = .bool (ot q) ∧ w1 = wx)
   case first =>
    have b1 : w1.cell? ⟨w.heap.size + 1, 1, none⟩ = some (.slice aoN2 m2 cN2) := HF1.out.b.cell (i := 1) rfl
    have b2 : w1.cell? ⟨w.heap.size + 1, 2, none⟩ = some (.slice aoF2 m3 cF2) := HF1.out.b.cell (i := 2) rfl
    have x2 : w1.cell? ⟨wr.heap.size, 2, none⟩ = some (.int .i64 q) := HBX.out.cell (i := 2) rfl
    have lb := HF1.out.b.lt
    have lx := HBX.out.lt
    by_cases h0 : 0 < m2
    ·have t0 : decide (0 < m2) = true := decide_eq_true h0
     have t1 : decide ((0 : Int) < (m2 : Int)) = true := decide_eq_true (by omega)
     by_cases h1 : 0 ≤ q
     ·obtain ⟨t, rfl⟩ : ∃ t : Nat, q = t := ⟨q.toNat, by omega⟩
      obtain ⟨g, off, rfl, hc⟩ := HB.out.cell h0 t (by omega)
      have c3 := hc w1 HF1.out.ext
      have hl3 := HB.out.len h0
      have t2 : (t : Int) < (m3 : Int) := by omega
      have t3 : decide ((0 : Int) ≤ (t : Int)) = true := decide_eq_true h1
      clear hc hl3
      go_wp2_with fail
      go_meet
      exact ⟨rfl, rfl⟩
     ·have t3 : decide ((0 : Int) ≤ q) = false := decide_eq_false h1
      have ho := HB.out.neg q (by omega)
      go_wp2_with fail
      go_meet
      rw [ho]
      exact ⟨rfl, rfl⟩
    ·have t0 : decide (0 < m2) = false := decide_eq_false h0
     have t1 : decide ((0 : Int) < (m2 : Int)) = false := decide_eq_false (by omega)
     have ho := (HB.out.nil (by omega)).2 q
     go_wp2_with fail
     go_meet
     rw [ho]
     exact ⟨rfl, rfl⟩
   case rest =>
    obtain ⟨rfl, rfl⟩ := hcut
    obtain ⟨fo, hfo⟩ : ∃ b, b = ot q := ⟨_, rfl⟩
    rw [← hfo]
    have HFO := hid hfo
    clear hfo
    go_upto_region 8 with fail
    go_cut [56] from 47 to 56 (fun u wx => u = .bool (finF A ot (s, q)) ∧ w1 = wx)
    case first =>
     have a2 : w1.cell? ⟨w.heap.size, 2, none⟩ = some (.slice aoF n3 cF) := HF1.out.a.cell (i := 2) rfl
     have x1 : w1.cell? ⟨wr.heap.size, 1, none⟩ = some (.int .i64 s) := HBX.out.cell (i := 1) rfl
     have lb := HF1.out.a.lt
     have lx := HBX.out.lt
     obtain ⟨g, off, rfl, c3⟩ := (HA.out.ext HF1.out.ext).finC hs
     have t2 : (s : Int) < (n3 : Int) := by rw [HL.out.2.2]; exact hp1
     obtain ⟨fa, hfa⟩ : ∃ b, b = finS A s := ⟨_, rfl⟩
     have HE : Hid (finF A ot ((s : Int), q) = (fa && !fo)) := hid (by rw [hfa, HFO.out]; rfl)
     rw [← hfa] at c3
     clear hfa
     cases fa <;> cases fo
     all_goals
      go_wp2_with fail
      go_meet
      rw [HE.out]
      exact ⟨rfl, rfl⟩
    case rest =>
     obtain ⟨rfl, rfl⟩ := hcut
     obtain ⟨b, hb⟩ : ∃ b, b = finF A ot ((s : Int), q) := ⟨_, rfl⟩
     rw [← hb]
     have HFB := hid hb
     have x0 : w1.cell? ⟨wr.heap.size, 0, none⟩ = some (.slice aw lw cw) := HBX.out.cell (i := 0) rfl
     have lx := HBX.out.lt
     clear hb
     cases b with
     | true =>
       go_wp2_with fail
       go_ret2
       have hT1 := HT.out.1
       have hT2 := HT.out.2.1
       have hfd := first_found (A := A) (qs := qs) (ot := ot) HW.out HB.out.ok (i := i) (k := ((s : Int), q)) (by rw [← hT1]; exact HKK.out) HFB.out.symm (fun n p hn hp => HN.out n p hn (by rw [hT1]; exact hp))
       rw [← hT2] at hfd
       exact ⟨HF1.out.ext, .inl ⟨_, word fr i, rfl, HWW.out.ext HE1.out, hfd.1, hfd.2.1, hfd.2.2.1, hfd.2.2.2⟩⟩
     | false =>
       obtain ⟨w0, hw0⟩ : ∃ x, x = wr := ⟨_, rfl⟩
       subst hw0
       clear x0 lx
       have HW1 := hid (HWW.out.ext HE1.out)
       go_wp2_with fail
       go_loopg [6, 7, 11] n1 (fun g vR vS u wr => ∃ (j : Nat) (rs : List (Value × PI)) (vs : List Value) (ls : List PI) (gr : List (Nat × Nat)), g = n1 - j ∧ j ≤ n1 ∧ u = .int .i64 j ∧ Hid (ls = (visN i ⟨ks, fr, []⟩ (succF A qs ((s : Int), q)) j).keys ∧ gr = (visN i ⟨ks, fr, []⟩ (succF A qs ((s : Int), q)) j).from_) ∧ Hid (FirstW w wr #[.slice aoS n1 cS, .slice aoN n2 cN, .slice aoF n3 cF] #[.slice aoS2 m1 cS2, .slice aoN2 m2 cN2, .slice aoF2 m3 cF2] A vR vS rs vs ls gr) ∧ Hid (Blk wr w0.heap.size 146 #[.slice aw lw cw, .int .i64 s, .int .i64 q] ∧ OwnR wr w.heap.size 9 1 strC (.slice aw lw cw) (wordsOf A.syms (word fr i)) ∧ ∀ k, vR.ownBlock = some k → k ≠ w0.heap.size))
       case atStart => exact ⟨0, rows, us, ks, fr, rfl, Nat.zero_le _, rfl, hid ⟨rfl, rfl⟩, HF1, hid ⟨HBX.out, HW1.out, fun k e e' => Nat.lt_irrefl _ (e' ▸ (HF.out.rows.own.lt k e).2)⟩⟩
       case round =>
        obtain ⟨j, rs, vs, ls, gr, rfl, hj, rfl, HV, HF2, HX2⟩ := hrel
        obtain ⟨aoR2, cR2, rfl, -⟩ := (OwnR.read HF2.out.rows.own rowA_size).form
        obtain ⟨aoU2, cU2, rfl, -⟩ := (OwnR.read HF2.out.seen.own (fun _ => rfl)).form
        have hlr : rs.length = ls.length := HF2.out.rows.len
        have hlu : vs.length = ls.length := HF2.out.seen.len
        obtain ⟨nl, hnl⟩ : ∃ n, n = ls.length := ⟨_, rfl⟩
        rw [← hnl] at hlr hlu
        rw [hlr, hlu] at HF2 ⊢
        rw [hlr] at HX2
        have HNL := hid hnl
        have HLR2 := hid hlr
        have HLU2 := hid hlu
        clear hnl hlr hlu
        have a0 : wr.cell? ⟨w.heap.size, 0, none⟩ = some (.slice aoS n1 cS) := HF2.out.a.cell (i := 0) rfl
        have la := HF2.out.a.lt
        by_cases hjl : j < n1
        ·have q3 : decide (j < n1) = true := decide_eq_true hjl
         have q4 : decide ((j : Int) < (n1 : Int)) = true := decide_eq_true (by omega)
         obtain ⟨gN, oN, gr0, or0, cc, rfl, c3, c4⟩ := (HA.out.ext HF2.out.ext).nextC hs hjl
         obtain ⟨gS, oS, rfl, c5⟩ := (HA.out.ext HF2.out.ext).symC hjl
         obtain ⟨x, hxs⟩ : ∃ x, x = symAt A.syms j := ⟨_, rfl⟩
         obtain ⟨p', hp'⟩ : ∃ y, y = goS A s (symAt A.syms j) := ⟨_, rfl⟩
         rw [← hp'] at c4
         rw [← hxs] at c5
         have HXS := hid hxs
         have HPP := hid hp'
         have a1 : wr.cell? ⟨w.heap.size, 1, none⟩ = some (.slice (some ⟨gN, oN, none⟩) n2 cN) := HF2.out.a.cell (i := 1) rfl
         have x1 : wr.cell? ⟨w0.heap.size, 1, none⟩ = some (.int .i64 s) := HX2.out.1.cell (i := 1) rfl
         have x2 : wr.cell? ⟨w0.heap.size, 2, none⟩ = some (.int .i64 q) := HX2.out.1.cell (i := 2) rfl
         have b0 : wr.cell? ⟨w.heap.size + 1, 0, none⟩ = some (.slice aoS2 m1 cS2) := HF2.out.b.cell (i := 0) rfl
         have b1 : wr.cell? ⟨w.heap.size + 1, 1, none⟩ = some (.slice aoN2 m2 cN2) := HF2.out.b.cell (i := 1) rfl
         have b2 : wr.cell? ⟨w.heap.size + 1, 2, none⟩ = some (.slice aoF2 m3 cF2) := HF2.out.b.cell (i := 2) rfl
         have lb := HF2.out.b.lt
         have lx := HX2.out.1.lt
         have s2 : (s : Int) < (n2 : Int) := by omega
         have s3 : (j : Int) < (n1 : Int) := by omega
         have s4 : (0 : Int) ≤ (j : Int) := by omega
         clear hxs hp'
         obtain ⟨hs2, hhs⟩ : ∃ b, b = decide (0 < m2) := ⟨_, rfl⟩
         have t9 : decide (0 < m2) = hs2 := hhs.symm
         have t8 : decide ((0 : Int) < (m2 : Int)) = hs2 := by rw [hhs]; exact decide_eq_decide.2 (by omega)
         have HHS := hid hhs
         clear hhs
         go_upto_if 78 with fail
         go_cut [13] from 79 to 87 (fun u wx => u = .int .i64 (qs q x) ∧ Hid (Ext wr wx))
         case first =>
          clear t8 t9
          cases hs2 with
          | true =>
            have h0 : 0 < m2 := of_decide_eq_true HHS.out.symm
            have HC := hid (HB.out.step h0 wr.drew (HF2.out.ext.drew) q x hq1)
            go_wp2_with fail
            go_still_tail 8, (by kernel_rfl)
            change wpList _ _ _ _ _ wr.drew
            go_wp2_with (go_at_call 94; refine HC.out.mono ?_; rintro e w2 ⟨rfl, hx⟩)
            go_meet
            exact ⟨rfl, hid ((Below.refl wr.heap.size wr).drew.trans hx)⟩
          | false =>
            have h0 : ¬ 0 < m2 := of_decide_eq_false HHS.out.symm
            have ho := (HB.out.nil (by omega)).1 q x
            go_wp2_with fail
            go_meet
            rw [ho]
            exact ⟨rfl, hid (Below.refl _ _)⟩
         case rest =>
          obtain ⟨rfl, HXc⟩ := hcut
          obtain ⟨wa, hwa⟩ : ∃ x, x = wc := ⟨_, rfl⟩
          subst hwa
          obtain ⟨q', hq'⟩ : ∃ y, y = qs q x := ⟨_, rfl⟩
          rw [← hq']
          have HQQ := hid hq'
          have HF3 := hid (HF2.out.ext' HXc.out)
          have HX3 := hid (And.intro (HX2.out.1.ext HXc.out) (And.intro (HX2.out.2.1.ext HXc.out) HX2.out.2.2))
          obtain ⟨w2, hw2⟩ : ∃ u, u = wa.alloc (.cells #[.int .i64 p', .int .i64 q'] 3) := ⟨_, rfl⟩
          have HE2 : Hid (Ext wa w2) := hid (hw2 ▸ (Below.refl _ _).alloc (Nat.le_refl _) _)
          have HK2 : Hid (OwnR w2 w.heap.size 3 1 intZ (.slice (some ⟨wa.heap.size, 0, none⟩) 2 2) (lstP (p', q'))) := hid (hw2 ▸ own_lit (Blk.new _ _ _) HF3.out.ext.size rfl rfl rfl (by decide))
          have HF4 := hid (HF3.out.ext' HE2.out)
          have hnd : (ls.map lstP).Nodup := by
           have h1 : ls.Nodup := by
            rw [HV.out.1]
            refine visN_nodup ?_ _ _ _
            show ks.Nodup
            rw [HT.out.1]; exact tourN_nodup _ _ _
           exact List.pairwise_map.2 (h1.imp fun h e => h (lstP_inj e))
          have HND := hid hnd
          have hvl : vs.length ≤ 1000000 := by
           rw [HLU2.out, HNL.out, HV.out.1]
           have h1 := visN_len i ⟨ks, fr, []⟩ (succF A qs ((s : Int), q)) j
           have h2 : ks.length ≤ 66049 := by rw [← HNK.out]; exact hk9
           have h3 : (visN i ⟨ks, fr, []⟩ (succF A qs ((s : Int), q)) j).keys.length ≤ ks.length + j := h1
           omega
          have HNB := hid (number_any HF4.out.seen.own HF4.out.ext.size HF4.out.seen.keysR HND.out (OwnR.read HK2.out (fun _ => rfl)) hvl (fun y hy => by
           obtain ⟨k, _, rfl⟩ := List.mem_map.1 hy
           exact (by decide : 2 ≤ 1000)))
          have HW2 := hid hw2
          clear hq' hw2 hnd c3 c4 c5 a0 a1 x1 x2 b0 b1 b2 la lb lx t8 t9
          go_wp2_with fail
          rw [← HW2.out]
          refine HNB.out.mono ?_
          have hvj : (succF A qs ((s : Int), q))[j]? = some (p', q') := by
           rw [fan_get _ _ (by rw [← HL.out.1]; exact hjl)]
           show some (goS A s (symAt A.syms j), qs q (symAt A.syms j)) = _
           rw [← HPP.out, ← HXS.out, ← HQQ.out]
          have hvs := visN_succ (r := i) (s := ⟨ks, fr, []⟩) hvj
          have HVS := hid hvs
          clear hvj hvs
          rintro e w3 (⟨hin, rfl, hx⟩ | ⟨hnin, v', rfl, hO, hc, hold⟩)
          ·have hmem : ((p', q') : PI) ∈ ls := lstP_mem.1 hin
           have HME := hid hmem
           have HF5 := hid (HF4.out.ext' hx)
           have HX5 := hid (And.intro ((HX3.out.1.ext HE2.out).ext hx) (And.intro ((HX3.out.2.1.ext HE2.out).ext hx) HX3.out.2.2))
           have t5 : ((nl : Int) == (nl : Int)) = true := by simp
           clear hin hmem hx
           go_wp2_with fail
           go_roundg (n1 - (j + 1))
           case measure => omega
           case rel =>
            refine ⟨j + 1, rs, vs, ls, gr, rfl, by omega, by go_num, hid ?_, HF5, HX5⟩
            rw [HVS.out]
            unfold vis1
            rw [← HV.out.1, if_pos HME.out]
            exact ⟨rfl, HV.out.2⟩
          ·have hmem : ((p', q') : PI) ∉ ls := fun h => hnin (lstP_mem.2 h)
           have HME := hid hmem
           have hb0 := bfs_tour (goF A qs) A.syms.length (0, 0) i (by rw [← HT.out.1]; exact HT.out.2.2)
           rw [← HT.out.1, ← HT.out.2.1] at hb0
           have hdl : goF A qs ((s : Int), q) j = (p', q') := by
            show (goS A s (symAt A.syms j), qs q (symAt A.syms j)) = _
            rw [← HPP.out, ← HXS.out, ← HQQ.out]
           have hnw := bfs_new hb0 HKK.out (j := j) (by rw [← HL.out.1]; exact hjl) HV.out.1 HV.out.2 (by rw [hdl]; exact hmem)
           rw [hdl] at hnw
           have HNW := hid hnw
           have hws : wordsOf A.syms (word (gr ++ [(i, j)]) ls.length) = wordsOf A.syms (word fr i) ++ [x] := by
            rw [hnw.2.2.2, wordsOf_snoc _ (by rw [← HL.out.1]; exact hjl), HXS.out, symAt_some (by rw [← HL.out.1]; exact hjl)]
           have HWS := hid hws
           have hlv : (vs ++ [Value.slice (some ⟨wa.heap.size, 0, none⟩) 2 2]).length = nl + 1 := by rw [List.length_append, HLU2.out]; rfl
           obtain ⟨aV, cV, rfl, -⟩ := (OwnR.read hO (fun _ => rfl)).form
           rw [hlv] at hO hold ⊢
           have HS3 := hid (HF4.out.seen.app hO hc HK2.out)
           have HR3 := hid (HF4.out.rows.chgS HF4.out.seen.own hc)
           have HA3 := hid (HF4.out.a.chg hc (own_blk_ne HF4.out.seen.own HF4.out.a (by decide)))
           have HB3 := hid (HF4.out.b.chg hc (own_blk_ne HF4.out.seen.own HF4.out.b (by decide)))
           have HX4 := hid ((HX3.out.1.ext HE2.out).chg hc (own_blk_ne HF4.out.seen.own (HX3.out.1.ext HE2.out) (by decide)))
           have HW4 := hid ((HX3.out.2.1.ext HE2.out).chg hc (fun k e e' => own_apart (HX3.out.2.1.ext HE2.out) HF4.out.seen.own (by decide) k e e'))
           have HE3 := hid (ext_chg HF4.out.ext hc (fun k e => (HF4.out.seen.own.lt k e).1))
           have t5 : (((nl + 1 : Nat) : Int) == (nl : Int)) = false := by simp; omega
           have x0 : w3.cell? ⟨w0.heap.size, 0, none⟩ = some (.slice aw lw cw) := HX4.out.cell (i := 0) rfl
           have lx := HX4.out.lt
           have HNL3 : Hid (OwnR w3 w3.heap.size 9 1 strC (.slice none 0 0) []) := hid (OwnR.nil _ _ _ _ _)
           have HRW : Hid (ReadR w3 1 strC (.slice aw lw cw) (wordsOf A.syms (word fr i))) := hid (OwnR.read HW4.out strC_size)
           have hlen : ([] : List ByteArray).length + (wordsOf A.syms (word fr i)).length ≤ 1000000000 := by rw [← HLW.out]; simp; omega
           have hlen2 : (wordsOf A.syms (word fr i)).length + 1 ≤ 1000000000 := by rw [← HLW.out]; omega
           have hlen3 : rs.length + 1 ≤ 1000000000 := by rw [HLR2.out]; have := hvl; rw [HLU2.out] at this; omega
           have s3 : (j : Int) < (n1 : Int) := by omega
           have s4 : (0 : Int) ≤ (j : Int) := by omega
           have hsz3 : w.heap.size ≤ w3.heap.size := HE3.out.size
           clear hmem hb0 hdl hnw hws hO hc hnin
           go_wp2_with (first
            | (with_reducible refine onOp 105 ?_
               go_loud (refine wpList_append_read elem_str strC_size ones_strC HNL3 (Nat.le_refl _) HRW hlen rfl (.tmp 102) (.tmp 104) rfl rfl rfl ?_)
               intro v4 w4 H10 H2
               have H1 : Hid (OwnR w4 w3.heap.size 9 1 strC v4 (wordsOf A.syms (word fr i))) := hid (by have h := H10.out; rwa [List.nil_append] at h)
               clear H10
               have HE4 := hid (ext_grown (Below.refl w3.heap.size w3) H2.out (fun i hi => by cases hi))
               have HA4 := hid (HA3.out.ext HE4.out)
               obtain ⟨gS', oS', hS', c5⟩ := (HA.out.ext (HE3.out.trans (HE4.out.mono hsz3))).symC hjl
               obtain ⟨rfl, rfl⟩ : gS = gS' ∧ oS = oS' := by simpa using hS'
               rw [← HXS.out] at c5
               have a0 : w4.cell? ⟨w.heap.size, 0, none⟩ = some (.slice (some ⟨gS, oS, none⟩) n1 cS) := HA4.out.cell (i := 0) rfl
               have la := HA4.out.lt
               have hsz4 : w3.heap.size ≤ w4.heap.size := HE4.out.size
               clear hS')
            | (with_reducible refine onOp 113 ?_
               go_loud (refine wpList_append_R elem_str strC_size ones_strC H1 hsz4 hlen2 x _ rfl w4.heap.size rfl rfl _ _ rfl rfl rfl ?_)
               rintro g6 c6 v6 w6 rfl G1 G2
               have HE6 := hid (ext_grown HE4.out G2.out.1 (fun i hi => (H1.out.lt i hi).1))
               have HR6 := hid (HR3.out.ext HE6.out)
               have HRO6 := hid HR6.out.own
               have hsz6 : w.heap.size ≤ w6.heap.size := Nat.le_trans hsz3 HE6.out.size)
            | (with_reducible refine onOp 119 ?_
               go_loud (refine wpList_slice_one rfl 147 (.tmp 118) rfl (rowA (.slice (some ⟨g6, 0, none⟩) ((wordsOf A.syms (word fr i)).length + 1) c6, (p', q'))) rfl 146 3 _ Tryz.underlying147 slot146 (by decide) (by decide) (rowA_size _) ?_))
            | (with_reducible refine onOp 120 ?_
               go_loud (refine wpList_append_R elem_rows rowA_size ones_rowA HRO6 hsz6 hlen3 (.slice (some ⟨g6, 0, none⟩) ((wordsOf A.syms (word fr i)).length + 1) c6, (p', q')) _ rfl w6.heap.size rfl rfl _ _ rfl rfl rfl ?_)
               rintro g8 c8 v8 w8 rfl G3 G4))
           go_roundg (n1 - (j + 1))
           case measure => omega
           case rel =>
            have hc8 := (Chg.refl (fun k => (Value.slice aoR2 nl cR2).ownBlock = some k) w6).grown G4.out.1 (fun k e => e)
            have hw6 : OwnR w6 w.heap.size 9 1 strC (.slice (some ⟨g6, 0, none⟩) ((wordsOf A.syms (word fr i)).length + 1) c6) (wordsOf A.syms (word (gr ++ [(i, j)]) ls.length)) := by
             rw [HWS.out]
             exact OwnR.lower G1.out hsz3
            have hx6 := HX4.out.ext HE6.out
            have hl0 : w0.heap.size < w6.heap.size := hx6.lt
            refine ⟨j + 1, _, _, ls ++ [(p', q')], gr ++ [(i, j)], rfl, by omega, by go_num, hid ⟨HNW.out.1.symm, HNW.out.2.1.symm⟩, hid ⟨?_, ?_, ?_, HR6.out.app G3.out hc8 hw6 HNW.out.2.2.1, (HS3.out.ext HE6.out).chgR HR6.out.own hc8⟩, hid ⟨?_, ?_, ?_⟩⟩
            ·exact ext_chg (HE3.out.trans (HE6.out.mono hsz3)) hc8 (fun k e => (HRO6.out.lt k e).1)
            ·exact (HA3.out.ext HE6.out).chg hc8 (own_blk_ne HRO6.out (HA3.out.ext HE6.out) (by decide))
            ·exact (HB3.out.ext HE6.out).chg hc8 (own_blk_ne HRO6.out (HB3.out.ext HE6.out) (by decide))
            ·exact hx6.chg hc8 (fun e => HX3.out.2.2 _ e rfl)
            ·exact (HW4.out.ext HE6.out).chg hc8 (fun k e e' => own_apart (HW4.out.ext HE6.out) HRO6.out (by decide) k e e')
            ·intro k e
             cases e
             rcases G4.out.2 with h | h
             ·exact HX3.out.2.2 _ h
             ·show g8 ≠ w0.heap.size
              omega
        ·obtain rfl : j = n1 := by omega
         have q3 : decide (j < j) = false := decide_eq_false (by omega)
         go_wp2_with fail
         go_roundg (70000 - (i + 1))
         case measure => omega
         case rel =>
          have hsu := tourN_succ (succ := succF A qs) (first := ((0 : Int), (0 : Int))) (i := i) (k := ((s : Int), q)) (by rw [← HT.out.1]; exact HKK.out)
          have hlen : (succF A qs ((s : Int), q)).length = j := by rw [fan_length]; exact HL.out.1.symm
          have hpre : ks <+: ls := by rw [HV.out.1]; exact visN_pre i ⟨ks, fr, []⟩ _ j
          have e1 : ls = (tourN (succF A qs) (0, 0) (i + 1)).keys ∧ gr = (tourN (succF A qs) (0, 0) (i + 1)).from_ := by
           rw [hsu]
           unfold rowOf
           rw [hlen, ← HT.out.1, ← HT.out.2.1]
           exact HV.out
          have hkl := HNK.out
          refine ⟨i + 1, rs, vs, ls, gr, rfl, by omega, by go_num, hid ⟨e1.1, e1.2, by have := hpre.length_le; omega⟩, HF2, hid fun n p hn hp => ?_⟩
          obtain ⟨t, ht⟩ := hpre
          rw [← ht, List.getElem?_append_left (by omega)] at hp
          by_cases e : n = i
          ·subst e
           rw [HKK.out] at hp
           cases hp
           exact HFB.out.symm
          ·exact HN.out n p (by omega) hp
  ·obtain rfl : i = nk := by omega
   have q1 : decide (i < i) = false := decide_eq_false (by omega)
   go_wp2_with fail
   go_ret2
   refine ⟨HF.out.ext, .inr ⟨rfl, ?_⟩⟩
   have hFull : Full (succF A qs) (0, 0) i := by
    show (tourN (succF A qs) (0, 0) i).keys.length = i
    rw [← HT.out.1]; exact HNK.out.symm
   exact first_none hFull fun n p hn hp => HN.out n p hn (by rw [HT.out.1]; exact hp)
end Go.Proofs.YtngpjagpeblbjaaGreatDoor
