/-
  Plain law of the reference's First: pairs of states as lists of two numbers, gone through in order.
  Memory of the reference's First: the rows, and the pairs that have been seen.
  Cells of an automaton as the reference's First reads them; the second one, which may be none.
  Plain law: a key that is new in a row of a tour: its words.
-/
import Derived.Test.YtngpjagpeblbjaaGreatDoorU01
namespace Go.Tour
variable {K : Type} [DecidableEq K] {δ : K → Nat → K} {m : Nat} {first : K} {keys keys' : List K} {fr fr' : List (Nat × Nat)} {b b' : Nat × Nat}
omit [DecidableEq K] in
theorem Bfs.word_app (h : Bfs δ m first keys fr b) (h' : Bfs δ m first keys' fr' b') (hp : fr <+: fr') : ∀ n, n < fr.length → word fr' n = word fr n := by
 intro n
 induction n using Nat.strongRecOn with
 | ind n ih =>
   intro hn
   by_cases h0 : n = 0
   ·subst h0; rw [word_zero, word_zero]
   ·obtain ⟨p, hpn⟩ : ∃ p, fr[n]? = some p := ⟨_, List.getElem?_eq_getElem hn⟩
    have hpn' : fr'[n]? = some p := by
     obtain ⟨t, rfl⟩ := hp
     rw [List.getElem?_append_left hn]; exact hpn
    have hst := h.step n p (by omega) hpn
    rw [h'.word_pos (by omega) hpn', h.word_pos (by omega) hpn, ih p.1 hst.2.1 (by omega)]
omit [DecidableEq K] in
theorem Bfs.word_len (h : Bfs δ m first keys fr b) : ∀ n, n < fr.length → (word fr n).length ≤ n := by
 intro n
 induction n using Nat.strongRecOn with
 | ind n ih =>
   intro hn
   by_cases h0 : n = 0
   ·subst h0; rw [word_zero]; simp
   ·obtain ⟨p, hpn⟩ : ∃ p, fr[n]? = some p := ⟨_, List.getElem?_eq_getElem hn⟩
    have hst := h.step n p (by omega) hpn
    rw [h.word_pos (by omega) hpn, List.length_append, List.length_singleton]
    have := ih p.1 hst.2.1 (by omega)
    have := hst.2.1
    omega
theorem vis1_from (r : Nat) (s : St K) (k : K) (j : Nat) : s.from_ <+: (vis1 r s k j).from_ := by
 unfold vis1
 split
 ·exact List.prefix_refl _
 ·exact List.prefix_append _ _
theorem visN_from (r : Nat) (s : St K) (l : List K) : ∀ j, s.from_ <+: (visN r s l j).from_
 | 0 => List.prefix_refl _
 | j + 1 => by
   unfold visN
   split
   ·exact (visN_from r s l j).trans (vis1_from _ _ _ _)
   ·exact visN_from r s l j
theorem tourN_from_pre (succ : K → List K) (first : K) {i j : Nat} (h : i ≤ j) : (tourN succ first i).from_ <+: (tourN succ first j).from_ := by
 induction j with
 | zero => obtain rfl : i = 0 := by omega
           exact List.prefix_refl _
 | succ n ih =>
   by_cases e : i = n + 1
   ·subst e; exact List.prefix_refl _
   ·refine (ih (by omega)).trans ?_
    cases h : (tourN succ first n).keys[n]? with
    | none => rw [tourN_stop (List.getElem?_eq_none_iff.1 h)]; exact List.prefix_refl _
    | some k => rw [tourN_succ h]; exact visN_from n ⟨(tourN succ first n).keys, (tourN succ first n).from_, []⟩ (succ k) _
end Go.Tour
namespace Go.Proofs.YtngpjagpeblbjaaGreatDoor
open Go.RowKit Go.Spy Go.Heaped Go.Tour Go.Rx
abbrev PI := Int × Int
def lstP (p : PI) : List Int := [p.1, p.2]
theorem lstP_inj {p q : PI} (h : lstP p = lstP q) : p = q := by
 obtain ⟨a, b⟩ := p
 obtain ⟨c, d⟩ := q
 simp only [lstP, List.cons.injEq, and_true] at h
 rw [h.1, h.2]
theorem lstP_mem {p : PI} {l : List PI} : lstP p ∈ l.map lstP ↔ p ∈ l := by
 rw [List.mem_map]
 constructor
 ·rintro ⟨q, hq, e⟩
  rw [← lstP_inj e]; exact hq
 ·intro h; exact ⟨p, h, rfl⟩
structure SideOk (qs : Int → ByteArray → Int) (m : Nat) : Prop where
 pos : 0 < m
 le : m ≤ 256
 go : ∀ (q : Int) (x : ByteArray), -1 ≤ q → q < m → -1 ≤ qs q x ∧ qs q x < m
section
variable {A B : DA} {qs : Int → ByteArray → Int} {ot : Int → Bool} {m : Nat}
def goF (A : DA) (qs : Int → ByteArray → Int) (p : PI) (c : Nat) : PI := (goS A p.1 (symAt A.syms c), qs p.2 (symAt A.syms c))
abbrev succF (A : DA) (qs : Int → ByteArray → Int) : PI → List PI := fan (goF A qs) A.syms.length
def finF (A : DA) (ot : Int → Bool) (p : PI) : Bool := finS A p.1 && !ot p.2
def okF (A : DA) (m : Nat) (p : PI) : Prop := 0 ≤ p.1 ∧ p.1 < A.next.length ∧ -1 ≤ p.2 ∧ p.2 < m
theorem goF_ok (W : WellD nameOk A) (S : SideOk qs m) {p : PI} (h : okF A m p) {c : Nat} (hc : c < A.syms.length) : okF A m (goF A qs p c) := by
 obtain ⟨h1, h2, h3, h4⟩ := h
 have hg := S.go p.2 (symAt A.syms c) h3 h4
 have hb := (goS_bnd W p.1 (symAt A.syms c)).2
 refine ⟨?_, hb, hg.1, hg.2⟩
 show 0 ≤ goS A p.1 (symAt A.syms c)
 unfold goS
 rw [if_pos ⟨h1, by rw [symAt_some hc]; exact List.getElem_mem hc⟩]
 omega
theorem zero_okF (W : WellD nameOk A) (S : SideOk qs m) : okF A m (0, 0) := by
 have h1 := W.ok.pos
 have h2 := S.pos
 exact ⟨by decide, by show (0 : Int) < _; omega, by decide, by show (0 : Int) < _; omega⟩
theorem succF_ok (W : WellD nameOk A) (S : SideOk qs m) : ∀ k, okF A m k → ∀ x ∈ succF A qs k, okF A m x := fun k hk x hx => by
 simp only [fan, List.mem_map, List.mem_range] at hx
 obtain ⟨c, hc, rfl⟩ := hx
 exact goF_ok W S hk hc
def allF (A : DA) (m : Nat) : List PI := (List.range A.next.length).flatMap fun (i : Nat) => (List.range (m + 1)).map fun (j : Nat) => ((i : Int), (j : Int) - 1)
theorem allF_mem (p : PI) (h : okF A m p) : p ∈ allF A m := by
 obtain ⟨h1, h2, h3, h4⟩ := h
 refine List.mem_flatMap.2 ⟨p.1.toNat, List.mem_range.2 (by omega), List.mem_map.2 ⟨(p.2 + 1).toNat, List.mem_range.2 (by omega), ?_⟩⟩
 have e1 : ((p.1.toNat : Nat) : Int) = p.1 := by omega
 have e2 : (((p.2 + 1).toNat : Nat) : Int) - 1 = p.2 := by omega
 rw [e1, e2]
theorem tourF_le (W : WellD nameOk A) (S : SideOk qs m) (i : Nat) : (tourN (succF A qs) (0, 0) i).keys.length ≤ 66049 := by
 have h := tourN_le (U := okF A m) (succ := succF A qs) (first := (0, 0)) (zero_okF W S) (succF_ok W S) (u := allF A m) allF_mem i
 have hl : (allF A m).length = A.next.length * (m + 1) := by simp only [allF, List.length_flatMap, List.length_map, List.length_range, List.map_const', List.sum_replicate_nat]
 rw [hl] at h
 refine Nat.le_trans h ?_
 have h1 := W.most
 have h2 := S.le
 exact Nat.le_trans (Nat.mul_le_mul h1 (show m + 1 ≤ 257 by omega)) (by decide)
theorem runF : ∀ (u : List Nat) (p : PI), (∀ c ∈ u, c < A.syms.length) → runL (goF A qs) p u = (runS A p.1 (wordsOf A.syms u), (wordsOf A.syms u).foldl qs p.2)
 | [], p, _ => by simp [runL, runS, wordsOf]
 | c :: u, p, h => by
   have hc : c < A.syms.length := h c (by simp)
   have ih := runF u (goF A qs p c) (fun d hd => h d (by simp [hd]))
   rw [wordsOf_cons hc]
   simp only [runL, List.foldl_cons] at ih ⊢
   rw [ih]
   simp only [goF, symAt_some hc, runS, List.foldl_cons]
def FirstPost (A : DA) (qs : Int → ByteArray → Int) (ot : Int → Bool) (w : World) (e : Ending) (w' : World) : Prop := Ext w w' ∧
 ((∃ v u, e = .returned (.tuple #[v, .bool true]) ∧ OwnR w' w.heap.size 9 1 strC v (wordsOf A.syms u) ∧ u.length ≤ 100000 ∧ (∀ c ∈ u, c < A.syms.length) ∧ finF A ot (runL (goF A qs) (0, 0) u) = true ∧ ∀ x, (∀ c ∈ x, c < A.syms.length) → finF A ot (runL (goF A qs) (0, 0) x) = true → sle u x) ∨
  (e = .returned (.tuple #[.slice none 0 0, .bool false]) ∧ ∀ x, (∀ c ∈ x, c < A.syms.length) → finF A ot (runL (goF A qs) (0, 0) x) = false))
theorem first_found (W : WellD nameOk A) (S : SideOk qs m) {i : Nat} {k : PI} (hk : (tourN (succF A qs) (0, 0) i).keys[i]? = some k) (hf : finF A ot k = true) (hn : ∀ n p, n < i → (tourN (succF A qs) (0, 0) i).keys[n]? = some p → finF A ot p = false) :
 (word (tourN (succF A qs) (0, 0) i).from_ i).length ≤ 100000 ∧ (∀ c ∈ word (tourN (succF A qs) (0, 0) i).from_ i, c < A.syms.length) ∧ finF A ot (runL (goF A qs) (0, 0) (word (tourN (succF A qs) (0, 0) i).from_ i)) = true ∧
   ∀ x, (∀ c ∈ x, c < A.syms.length) → finF A ot (runL (goF A qs) (0, 0) x) = true → sle (word (tourN (succF A qs) (0, 0) i).from_ i) x := by
 have hil : i < (tourN (succF A qs) (0, 0) i).keys.length := (List.getElem?_eq_some_iff.1 hk).1
 have hb := bfs_tour (goF A qs) A.syms.length (0, 0) i (Nat.le_of_lt hil)
 obtain ⟨j, hj, hF⟩ := full_ex (U := okF A m) (succ := succF A qs) (first := (0, 0)) (zero_okF W S) (succF_ok W S) (u := allF A m) allF_mem
 have hpre := full_keys (n := i) hF
 have hij : i ≤ j := by
  have h1 := hpre.length_le
  have h2 : (tourN (succF A qs) (0, 0) j).keys.length = j := hF
  omega
 have hkj : (tourN (succF A qs) (0, 0) j).keys[i]? = some k := by
  obtain ⟨t, ht⟩ := hpre
  rw [← ht, List.getElem?_append_left hil]; exact hk
 have hr := hb.word_run i hil
 have hlw : (word (tourN (succF A qs) (0, 0) i).from_ i).length ≤ 100000 := by
  have h1 := hb.word_len i (by rw [hb.len]; exact hil)
  have h2 := tourF_le W S (A := A) i
  exact Nat.le_trans h1 (Nat.le_trans (Nat.le_of_lt hil) (Nat.le_trans h2 (by decide)))
 refine ⟨hlw, hr.2, ?_, ?_⟩
 ·have e : k = runL (goF A qs) (0, 0) (word (tourN (succF A qs) (0, 0) i).from_ i) := Option.some.inj (hk.symm.trans hr.1)
  rw [← e]; exact hf
 ·intro x hx hfx
  have hbj := hF.bfs
  have e : word (tourN (succF A qs) (0, 0) j).from_ i = word (tourN (succF A qs) (0, 0) i).from_ i := hb.word_app hbj (tourN_from_pre _ _ hij) i (by rw [hb.len]; exact hil)
  rw [← e]
  have h1 := full_least hF (finF A ot) hkj (fun n p hn' hp => hn n p hn' (by
   obtain ⟨t, ht⟩ := hpre
   rw [← ht, List.getElem?_append_left (by omega)] at hp
   exact hp))
  exact h1.2.2 x hx hfx
theorem first_none {i : Nat} (hF : Full (succF A qs) (0, 0) i) (hn : ∀ n p, n < i → (tourN (succF A qs) (0, 0) i).keys[n]? = some p → finF A ot p = false) :
 ∀ x, (∀ c ∈ x, c < A.syms.length) → finF A ot (runL (goF A qs) (0, 0) x) = false := by
 intro x hx
 refine full_none hF (finF A ot) (fun p hp => ?_) x hx
 obtain ⟨n, hn'⟩ := List.getElem?_of_mem hp
 exact hn n p (Nat.lt_of_lt_of_eq (List.getElem?_eq_some_iff.1 hn').1 hF) hn'
end
end Go.Proofs.YtngpjagpeblbjaaGreatDoor
namespace Go.Proofs.YtngpjagpeblbjaaGreatDoor
open Go.RowKit Go.Spy Go.Heaped Go.Tour Go.Rx
def rowA (r : Value × PI) : Array Value := #[slV r.1, .int .i64 r.2.1, .int .i64 r.2.2]
theorem rowA_size (r : Value × PI) : (rowA r).size = 3 := rfl
theorem ones_rowA (r : Value × PI) : Ones (rowA r) := by
 intro v hv
 simp only [rowA, List.mem_toArray, List.mem_cons, List.not_mem_nil, or_false] at hv
 rcases hv with rfl | rfl | rfl
 ·cases r.1 <;> rfl
 ·rfl
 ·rfl
theorem elem_rows : ElemOk Tryz.prog 147 146 3 40 where
 under := Tryz.underlying147
 info := by
  obtain ⟨i, h1, h2, h3, h4⟩ := info_parts (P := Tryz.prog) (e := 146) (z := .agg #[.slice none 0 0, .int .i64 0, .int .i64 0]) (size := 3) (bytes := 40) (by kernel_rfl)
  exact ⟨i, _, h1, h2, h3, h4, rfl⟩
 pos := by decide
 small := by decide
theorem own_lit {α : Type} {w : World} {g base n : Nat} {e : TypeId} {s : Nat} {f : α → Array Value} {A : Array Value} {l : List α} (hb : Blk w g e A) (hg : base ≤ g) (hA : A.toList = l.flatMap fun x => (f x).toList) (hn : n = l.length) (hs : A.size = n * s) (hm : n ≤ 1000) : OwnR w base e s f (.slice (some ⟨g, 0, none⟩) n n) l := by
 subst hn
 have hl : (l.flatMap fun x => (f x).toList).length = l.length * s := by rw [← hA, Array.length_toList, hs]
 refine ⟨hl, .inr ⟨g, l.length, A, rfl, hg, hb, Nat.le_refl _, by unfold maxLen; omega, hs, ?_⟩⟩
 rw [← hs, ← hA]
 exact List.take_of_length_le (by simp)
section
variable {w w' : World} {base : Nat} {vR vS : Value} {rows : List (Value × PI)} {us : List Value} {syms : List ByteArray} {keys : List PI} {fr : List (Nat × Nat)}
structure RowsR (w : World) (base : Nat) (vR : Value) (rows : List (Value × PI)) (syms : List ByteArray) (keys : List PI) (fr : List (Nat × Nat)) : Prop where
 own : OwnR w base 146 3 rowA vR rows
 len : rows.length = keys.length
 row : ∀ (n : Nat) (r : Value × PI), rows[n]? = some r → keys[n]? = some r.2 ∧ OwnR w base 9 1 strC r.1 (wordsOf syms (word fr n))
structure SeenR (w : World) (base : Nat) (vS : Value) (us : List Value) (keys : List PI) : Prop where
 own : OwnR w base 46 1 oneA vS us
 len : us.length = keys.length
 key : ∀ (n : Nat) (u : Value) (p : PI), us[n]? = some u → keys[n]? = some p → OwnR w base 3 1 intZ u (lstP p)
theorem RowsR.ext (h : RowsR w base vR rows syms keys fr) (e : Ext w w') : RowsR w' base vR rows syms keys fr := ⟨h.own.ext e, h.len, fun n r hr => ⟨(h.row n r hr).1, (h.row n r hr).2.ext e⟩⟩
theorem SeenR.ext (h : SeenR w base vS us keys) (e : Ext w w') : SeenR w' base vS us keys := ⟨h.own.ext e, h.len, fun n u p h1 h2 => (h.key n u p h1 h2).ext e⟩
theorem RowsR.chgS (h : RowsR w base vR rows syms keys fr) (s : OwnR w base 46 1 oneA vS us) (c : Chg (fun k => vS.ownBlock = some k) w w') : RowsR w' base vR rows syms keys fr :=
 ⟨h.own.chg c fun k e e' => own_apart h.own s (by decide) k e e', h.len, fun n r hr => ⟨(h.row n r hr).1, (h.row n r hr).2.chg c fun k e e' => own_apart (h.row n r hr).2 s (by decide) k e e'⟩⟩
theorem SeenR.chgR (h : SeenR w base vS us keys) (s : OwnR w base 146 3 rowA vR rows) (c : Chg (fun k => vR.ownBlock = some k) w w') : SeenR w' base vS us keys :=
 ⟨h.own.chg c fun k e e' => own_apart h.own s (by decide) k e e', h.len, fun n u p h1 h2 => (h.key n u p h1 h2).chg c fun k e e' => own_apart (h.key n u p h1 h2) s (by decide) k e e'⟩
theorem SeenR.app (h : SeenR w base vS us keys) {v' u' : Value} {p : PI} (o : OwnR w' base 46 1 oneA v' (us ++ [u'])) (c : Chg (fun k => vS.ownBlock = some k) w w') (k : OwnR w base 3 1 intZ u' (lstP p)) : SeenR w' base v' (us ++ [u']) (keys ++ [p]) := by
 refine ⟨o, by simp [h.len], fun n u q h1 h2 => ?_⟩
 rcases Nat.lt_trichotomy n keys.length with hn | hn | hn
 ·rw [List.getElem?_append_left (by rw [h.len]; exact hn)] at h1
  rw [List.getElem?_append_left hn] at h2
  exact (h.key n u q h1 h2).chg c fun g e e' => own_apart (h.key n u q h1 h2) h.own (by decide) g e e'
 ·subst hn
  rw [← h.len, List.getElem?_append_right (Nat.le_refl _), Nat.sub_self] at h1
  rw [List.getElem?_append_right (Nat.le_refl _), Nat.sub_self] at h2
  cases h1; cases h2
  exact k.chg c fun g e e' => own_apart k h.own (by decide) g e e'
 ·have := (List.getElem?_eq_some_iff.1 h2).1
  simp at this
  omega
theorem RowsR.app (h : RowsR w base vR rows syms keys fr) {v' vw : Value} {p : PI} {fr' : List (Nat × Nat)} (o : OwnR w' base 146 3 rowA v' (rows ++ [(vw, p)])) (c : Chg (fun k => vR.ownBlock = some k) w w') (hw : OwnR w base 9 1 strC vw (wordsOf syms (word fr' keys.length))) (hfr : ∀ n, n < keys.length → word fr' n = word fr n) : RowsR w' base v' (rows ++ [(vw, p)]) syms (keys ++ [p]) fr' := by
 refine ⟨o, by simp [h.len], fun n r h1 => ?_⟩
 rcases Nat.lt_trichotomy n keys.length with hn | hn | hn
 ·rw [List.getElem?_append_left (by rw [h.len]; exact hn)] at h1
  rw [List.getElem?_append_left hn, hfr n hn]
  exact ⟨(h.row n r h1).1, (h.row n r h1).2.chg c fun g e e' => own_apart (h.row n r h1).2 h.own (by decide) g e e'⟩
 ·subst hn
  rw [← h.len, List.getElem?_append_right (Nat.le_refl _), Nat.sub_self] at h1
  rw [List.getElem?_append_right (Nat.le_refl _), Nat.sub_self]
  cases h1
  exact ⟨rfl, hw.chg c fun g e e' => own_apart hw h.own (by decide) g e e'⟩
 ·have := (List.getElem?_eq_some_iff.1 h1).1
  simp [h.len] at this
  omega
theorem SeenR.keysR (h : SeenR w base vS us keys) : KeysR w us (keys.map lstP) := by
 refine ⟨by rw [List.length_map]; exact h.len, fun i u x h1 h2 => ?_⟩
 rw [List.getElem?_map, Option.map_eq_some_iff] at h2
 obtain ⟨p, hp, rfl⟩ := h2
 exact OwnR.read (h.key i u p h1 hp) (fun _ => rfl)
end
end Go.Proofs.YtngpjagpeblbjaaGreatDoor
namespace Go.Proofs.YtngpjagpeblbjaaGreatDoor
open Go.RowKit Go.Spy Go.Heaped Go.Tour Go.Rx
section
variable {w : World} {aoS aoN aoF : Option Addr} {n1 n2 n3 cS cN cF : Nat} {A B : DA}
theorem DfaW.partsR (h : DfaW w (.agg #[.slice aoS n1 cS, .slice aoN n2 cN, .slice aoF n3 cF]) A) : ∃ us, DfaP w (.slice aoS n1 cS) (.slice aoN n2 cN) (.slice aoF n3 cF) us A.raw := by
 obtain ⟨⟨vS, vN, vF, us, e, hP⟩, _, _⟩ := h
 simp only [Value.agg.injEq, Array.mk.injEq, List.cons.injEq, and_true] at e
 obtain ⟨rfl, rfl, rfl⟩ := e
 exact ⟨us, hP⟩
theorem DfaW.lens (h : DfaW w (.agg #[.slice aoS n1 cS, .slice aoN n2 cN, .slice aoF n3 cF]) A) : n1 = A.syms.length ∧ n2 = A.next.length ∧ n3 = A.next.length := by
 obtain ⟨us, hP⟩ := h.partsR
 have W := h.well
 obtain ⟨a1, c1, e1, -⟩ := hP.syms.form
 obtain ⟨a2, c2, e2, -⟩ := hP.next.form
 obtain ⟨a3, c3, e3, -⟩ := hP.fin.form
 simp only [Value.slice.injEq] at e1 e2 e3
 have hl := hP.len
 refine ⟨e1.2.1, ?_, ?_⟩
 ·rw [e2.2.1, hl]; simp [DF.raw]
 ·rw [e3.2.1]; exact W.ok.fin
theorem DfaW.symC (h : DfaW w (.agg #[.slice aoS n1 cS, .slice aoN n2 cN, .slice aoF n3 cF]) A) {c : Nat} (hc : c < n1) : ∃ g off, aoS = some ⟨g, off, none⟩ ∧ w.cell? ⟨g, off + c, none⟩ = some (.string (symAt A.syms c)) := by
 obtain ⟨us, hP⟩ := h.partsR
 have hl := h.lens
 obtain ⟨a1, c1, e1, hf⟩ := hP.syms.form
 simp only [Value.slice.injEq] at e1
 obtain ⟨rfl, e2, rfl⟩ := e1
 have hc2 : c < A.syms.length := by rw [← hl.1]; exact hc
 obtain ⟨g, off, rfl⟩ := hf (show 0 < A.syms.length by omega)
 refine ⟨g, off, rfl, ?_⟩
 rw [symAt_some hc2]
 exact hP.syms.cell1 (List.getElem?_eq_getElem hc2)
theorem DfaW.finC (h : DfaW w (.agg #[.slice aoS n1 cS, .slice aoN n2 cN, .slice aoF n3 cF]) A) {s : Nat} (hs : s < n2) : ∃ g off, aoF = some ⟨g, off, none⟩ ∧ w.cell? ⟨g, off + s, none⟩ = some (.bool (finS A s)) := by
 obtain ⟨us, hP⟩ := h.partsR
 have hl := h.lens
 obtain ⟨a1, c1, e1, hf⟩ := hP.fin.form
 simp only [Value.slice.injEq] at e1
 obtain ⟨rfl, e2, rfl⟩ := e1
 have hs2 : s < A.fin.length := by rw [h.well.ok.fin, ← hl.2.1]; exact hs
 obtain ⟨g, off, rfl⟩ := hf (show 0 < A.fin.length by omega)
 refine ⟨g, off, rfl, ?_⟩
 have e : finS A (s : Int) = A.fin[s] := by
  unfold finS finD
  simp [List.getElem?_eq_getElem hs2]
 rw [e]
 exact hP.fin.cell1 (List.getElem?_eq_getElem hs2)
theorem DfaW.nextC (h : DfaW w (.agg #[.slice aoS n1 cS, .slice aoN n2 cN, .slice aoF n3 cF]) A) {s c : Nat} (hs : s < n2) (hc : c < n1) : ∃ gN oN g off cc, aoN = some ⟨gN, oN, none⟩ ∧ w.cell? ⟨gN, oN + s, none⟩ = some (.slice (some ⟨g, off, none⟩) n1 cc) ∧ w.cell? ⟨g, off + c, none⟩ = some (.int .i64 (goS A s (symAt A.syms c))) := by
 obtain ⟨us, hP⟩ := h.partsR
 have hl := h.lens
 have hc2 : c < A.syms.length := by rw [← hl.1]; exact hc
 obtain ⟨ao, cc, hu, hcell⟩ := hP.cellN h.well (s := s) (by rw [← hl.2.1]; exact hs)
 obtain ⟨g, off, rfl, hv⟩ := hcell c hc2
 obtain ⟨a1, c1, e1, hf⟩ := hP.next.form
 simp only [Value.slice.injEq] at e1
 obtain ⟨rfl, e2, rfl⟩ := e1
 obtain ⟨gN, oN, rfl⟩ := hf (by omega)
 refine ⟨gN, oN, g, off, cc, rfl, ?_, ?_⟩
 ·have h2 := hP.next.cell1 hu
  rw [← hl.1] at h2
  simpa [oneA, slV] using h2
 ·have hm : symAt A.syms c ∈ A.syms := by rw [symAt_some hc2]; exact List.getElem_mem hc2
  have e : goS A (s : Int) (symAt A.syms c) = (stepD A s c : Nat) := by
   rw [goS_in hm]
   congr 2
   refine idx_of_get h.well.rising.nodup ?_
   rw [symAt_some hc2]; exact List.getElem?_eq_getElem hc2
  rw [e]; exact hv
structure SideW (w : World) (xB : Array Value) (m2 m3 : Nat) (aoF : Option Addr) (qs : Int → ByteArray → Int) (ot : Int → Bool) (m : Nat) : Prop where
 ok : SideOk qs m
 nil : m2 = 0 → (∀ q x, qs q x = -1) ∧ ∀ q, ot q = false
 neg : ∀ q : Int, q < 0 → ot q = false
 step : 0 < m2 → ∀ W, Ext w W → ∀ (q : Int) (x : ByteArray), q < m → Calls Tryz.prog 94 #[.agg xB, .int .i64 q, .string x] W fun e w' => e = .returned (.int .i64 (qs q x)) ∧ Ext W w'
 len : 0 < m2 → m3 = m
 cell : 0 < m2 → ∀ q : Nat, q < m → ∃ g off, aoF = some ⟨g, off, none⟩ ∧ ∀ W, Ext w W → W.cell? ⟨g, off + q, none⟩ = some (.bool (ot q))
theorem side_nil (w : World) (xB : Array Value) (m3 : Nat) (aoF : Option Addr) : SideW w xB 0 m3 aoF (fun _ _ => -1) (fun _ => false) 1 where
 ok := ⟨by decide, by decide, fun _ _ _ _ => ⟨by decide, by decide⟩⟩
 nil _ := ⟨fun _ _ => rfl, fun _ => rfl⟩
 neg _ _ := rfl
 step h := absurd h (by decide)
 len h := absurd h (by decide)
 cell h := absurd h (by decide)
end
end Go.Proofs.YtngpjagpeblbjaaGreatDoor
namespace Go.Tour
section
variable {K : Type} [DecidableEq K]
theorem vis1_len (r : Nat) (s : St K) (k : K) (j : Nat) : (vis1 r s k j).keys.length ≤ s.keys.length + 1 := by
 unfold vis1
 split
 ·exact Nat.le_succ _
 ·simp
theorem visN_len (r : Nat) (s : St K) (l : List K) : ∀ j, (visN r s l j).keys.length ≤ s.keys.length + j
 | 0 => Nat.le_refl _
 | j + 1 => by
   have ih := visN_len r s l j
   unfold visN
   split
   ·have := vis1_len r (visN r s l j) ‹K› j
    omega
   ·omega
variable {δ : K → Nat → K} {m : Nat} {first : K} {keys : List K} {fr : List (Nat × Nat)} {i j : Nat}
theorem bfs_new (h : Bfs δ m first keys fr (i, 0)) {k : K} (hk : keys[i]? = some k) (hj : j < m) {ls : List K} {gr : List (Nat × Nat)} (hls : ls = (visN i ⟨keys, fr, []⟩ (fan δ m k) j).keys) (hgr : gr = (visN i ⟨keys, fr, []⟩ (fan δ m k) j).from_) (hn : δ k j ∉ ls) :
 (visN i ⟨keys, fr, []⟩ (fan δ m k) (j + 1)).keys = ls ++ [δ k j] ∧ (visN i ⟨keys, fr, []⟩ (fan δ m k) (j + 1)).from_ = gr ++ [(i, j)] ∧ (∀ n, n < ls.length → word (gr ++ [(i, j)]) n = word gr n) ∧ word (gr ++ [(i, j)]) ls.length = word fr i ++ [j] := by
 have hs := visN_succ (r := i) (s := ⟨keys, fr, []⟩) (fan_get δ k hj)
 have e1 : (visN i ⟨keys, fr, []⟩ (fan δ m k) (j + 1)).keys = ls ++ [δ k j] := by
  rw [hs]; unfold vis1; rw [← hls, if_neg hn]
 have e2 : (visN i ⟨keys, fr, []⟩ (fan δ m k) (j + 1)).from_ = gr ++ [(i, j)] := by
  rw [hs]; unfold vis1; rw [← hls, if_neg hn, ← hgr]
 have b1 := h.visN hk j (Nat.le_of_lt hj)
 have b2 := h.visN hk (j + 1) hj
 rw [← hls, ← hgr] at b1
 rw [e1, e2] at b2
 have hi : i < keys.length := (List.getElem?_eq_some_iff.1 hk).1
 have hil : i < ls.length := by
  have := (visN_pre i ⟨keys, fr, []⟩ (fan δ m k) j).length_le
  rw [← hls] at this
  exact Nat.lt_of_lt_of_le hi this
 have w1 : ∀ n, n < ls.length → word (gr ++ [(i, j)]) n = word gr n := fun n hn' => b1.word_app b2 (List.prefix_append _ _) n (by rw [b1.len]; exact hn')
 refine ⟨e1, e2, w1, ?_⟩
 have hg : (gr ++ [(i, j)])[ls.length]? = some (i, j) := by
  rw [List.getElem?_append_right (by rw [b1.len]; exact Nat.le_refl _), b1.len]; simp
 rw [b2.word_pos (by omega) hg, w1 i hil]
 have hp : fr <+: gr := by rw [hgr]; exact visN_from i ⟨keys, fr, []⟩ (fan δ m k) j
 rw [h.word_app b1 hp i (by rw [h.len]; exact hi)]
end
end Go.Tour
namespace Go.Proofs.YtngpjagpeblbjaaGreatDoor
open Go.RowKit Go.Spy Go.Heaped Go.Tour Go.Rx
theorem ext_chg {w0 w w' : World} {S : Nat → Prop} (e : Ext w0 w) (c : Chg S w w') (hS : ∀ k, S k → w0.heap.size ≤ k) : Ext w0 w' :=
 e.trans ((c.mono (S' := fun k => w0.heap.size ≤ k) fun k _ h => hS k h).below e.size (fun _ h => h))
end Go.Proofs.YtngpjagpeblbjaaGreatDoor
