/-
  Walk of DFA.Not.
  Walk of the closure of Make that tells which states are final.
  What Make gathers ahead of the tour.
-/
import Derived.Test.YtngpjagpeblbjaaGreatDoorZ22
namespace Go.Proofs.YtngpjagpeblbjaaGreatDoor
open Go.RowKit Go.Spy Go.Heaped Go.Tour Go.Rx

def notD (D : DA) : DA := ⟨D.syms, D.next, D.fin.map (!·)⟩
theorem notD_well {D : DA} (W : WellD nameOk D) : WellD nameOk (notD D) := ⟨⟨W.ok.pos, by simp [notD, W.ok.fin], W.ok.row, W.ok.goes⟩, W.most, W.names, W.rising⟩
theorem notD_bnd {D : DA} (B : BndD D.raw) : BndD (notD D).raw := ⟨B.s, B.n, by have := B.f; simpa [notD, DF.raw] using this, B.r, B.b⟩
/-- While the states are gone through. -/
structure NotW (w wr : World) (b5 : Nat) (vO : Array Value) (vS vN vF : Value) (us : List Value) (syms : List ByteArray) (rows : List (List Int)) (fin : List Bool) : Prop where
  ext : Ext w wr
  box : Blk wr w.heap.size 26 vO
  res : Blk wr (w.heap.size + 1) 26 #[.slice none 0 0, .slice none 0 0, .slice none 0 0]
  dfa : Blk wr b5 26 #[vS, vN, vF]
  syms : OwnR wr w.heap.size 9 1 strC vS syms
  next : OwnR wr w.heap.size 46 1 oneA vN us
  len : us.length = rows.length
  rows : ∀ (i : Nat) (u : Value) (r : List Int), us[i]? = some u → rows[i]? = some r → OwnR wr w.heap.size 3 1 intZ u r
  fin : OwnR wr w.heap.size 4 1 boolC vF fin
  lt : w.heap.size + 1 < b5
section
variable {w wr : World} {b5 : Nat} {vO : Array Value} {vS vN vF : Value} {us : List Value} {syms : List ByteArray} {rows : List (List Int)} {fin : List Bool}
theorem NotW.ext' {wy : World} (h : NotW w wr b5 vO vS vN vF us syms rows fin) (e : Ext wr wy) : NotW w wy b5 vO vS vN vF us syms rows fin :=
  ⟨h.ext.trans (e.mono h.ext.size), h.box.ext e, h.res.ext e, h.dfa.ext e, h.syms.ext e, h.next.ext e, h.len, fun i u r hu hr => (h.rows i u r hu hr).ext e, h.fin.ext e, h.lt⟩
theorem own_ne {α β : Type} {W : World} {N M e e' s s' : Nat} {f : α → Array Value} {g : β → Array Value} {v u : Value} {l : List α} {m : List β} (h : OwnR W N e s f v l) (k : OwnR W M e' s' g u m) (hne : e ≠ e') : ∀ q, v.ownBlock = some q → ¬ u.ownBlock = some q := fun q h1 h2 => by
  obtain ⟨_, hb⟩ := own_block h h1
  obtain ⟨_, hc⟩ := own_block k h2
  exact ne_of_blk hb hc hne rfl
theorem own_blk_ne {α : Type} {W : World} {N e s g t : Nat} {f : α → Array Value} {v : Value} {l : List α} {A : Array Value} (h : OwnR W N e s f v l) (k : Blk W g t A) (hne : e ≠ t) : ¬ v.ownBlock = some g := fun h1 => by
  obtain ⟨_, hb⟩ := own_block h h1
  exact ne_of_blk hb k hne rfl
theorem NotW.appN {w6 : World} (h : NotW w wr b5 vO vS vN vF us syms rows fin) {g c : Nat} {u v' : Value} {r : List Int} (hu : OwnR wr w.heap.size 3 1 intZ u r) (hv : v' = .slice (some ⟨g, 0, none⟩) (us.length + 1) c)
    (hO : OwnR w6 w.heap.size 46 1 oneA v' (us ++ [u])) (hg : wr.grownBy w6 vN.ownBlock) (hl : vN.ownBlock = some g ∨ wr.heap.size ≤ g) :
    Blk w6 b5 26 #[vS, vN, vF] ∧ NotW w (w6.setCell ⟨b5, 1, none⟩ v') b5 vO vS v' vF (us ++ [u]) syms (rows ++ [r]) fin := by
  have hvo : v'.ownBlock = some g := by rw [hv]; rfl
  have c6 : Chg (fun k => vN.ownBlock = some k) wr w6 := (Chg.refl _ wr).grown hg (fun k e => e)
  have h7 := h.dfa.chg c6 (own_blk_ne h.next h.dfa (by decide))
  have hlt := h.lt
  have c7 : Chg (fun k => k = b5) w6 (w6.setCell ⟨b5, 1, none⟩ v') := Chg.setCell (S := fun k => k = b5) (p := ⟨b5, 1, none⟩) (Chg.refl _ w6) rfl v'
  have d6 : Chg (fun k => w.heap.size ≤ k) wr w6 := c6.mono fun k _ e => (h.next.lt k e).1
  have d7 : Chg (fun k => w.heap.size ≤ k) w6 (w6.setCell ⟨b5, 1, none⟩ v') := c7.mono fun k _ e => by omega
  have n3 : ∀ {u r}, OwnR wr w.heap.size 3 1 intZ u r → OwnR (w6.setCell ⟨b5, 1, none⟩ v') w.heap.size 3 1 intZ u r := fun k =>
    (k.chg c6 (own_ne k h.next (by decide))).chg c7 fun q e e' => by subst e'; exact own_blk_ne (k.chg c6 (own_ne k h.next (by decide))) h7 (by decide) e
  refine ⟨h7, ⟨h.ext.trans ((d6.trans d7).below h.ext.size (fun k e => e)), (h.box.chg c6 (own_blk_ne h.next h.box (by decide))).chg c7 (by omega), (h.res.chg c6 (own_blk_ne h.next h.res (by decide))).chg c7 (by omega), h7.set 1 _, ?_, ?_, by simp [h.len], ?_, ?_, hlt⟩⟩
  · refine (h.syms.chg c6 (own_ne h.syms h.next (by decide))).chg c7 fun q e e' => ?_
    subst e'; exact own_blk_ne h.syms h.dfa (by decide) e
  · refine hO.chg c7 fun q e e' => ?_
    rw [hvo] at e
    have hgk : g = q := by simpa using e
    subst hgk
    rcases hl with e2 | e2
    · exact own_blk_ne h.next h.dfa (by decide) (e2.trans (by rw [e']))
    · have := h.dfa.lt; omega
  · intro i u' r' hu' hr'
    rcases Nat.lt_or_ge i us.length with e | e
    · rw [List.getElem?_append_left e] at hu'
      rw [List.getElem?_append_left (by rw [← h.len]; exact e)] at hr'
      exact n3 (h.rows i u' r' hu' hr')
    · have hi : i = us.length := by
        have := (List.getElem?_eq_some_iff.1 hu').1
        simp at this; omega
      subst hi
      rw [List.getElem?_append_right (Nat.le_refl _), Nat.sub_self] at hu'
      rw [h.len, List.getElem?_append_right (Nat.le_refl _), Nat.sub_self] at hr'
      simp only [List.getElem?_cons_zero, Option.some.injEq] at hu' hr'
      subst hu'; subst hr'
      exact n3 hu
  · refine (h.fin.chg c6 (own_ne h.fin h.next (by decide))).chg c7 fun q e e' => ?_
    subst e'; exact own_blk_ne h.fin h.dfa (by decide) e
theorem NotW.appF {w6 : World} (h : NotW w wr b5 vO vS vN vF us syms rows fin) {g c : Nat} {b : Bool} {v' : Value} (hv : v' = .slice (some ⟨g, 0, none⟩) (fin.length + 1) c)
    (hO : OwnR w6 w.heap.size 4 1 boolC v' (fin ++ [b])) (hg : wr.grownBy w6 vF.ownBlock) (hl : vF.ownBlock = some g ∨ wr.heap.size ≤ g) :
    Blk w6 b5 26 #[vS, vN, vF] ∧ NotW w (w6.setCell ⟨b5, 2, none⟩ v') b5 vO vS vN v' us syms rows (fin ++ [b]) := by
  have hvo : v'.ownBlock = some g := by rw [hv]; rfl
  have c6 : Chg (fun k => vF.ownBlock = some k) wr w6 := (Chg.refl _ wr).grown hg (fun k e => e)
  have h7 := h.dfa.chg c6 (own_blk_ne h.fin h.dfa (by decide))
  have hlt := h.lt
  have c7 : Chg (fun k => k = b5) w6 (w6.setCell ⟨b5, 2, none⟩ v') := Chg.setCell (S := fun k => k = b5) (p := ⟨b5, 2, none⟩) (Chg.refl _ w6) rfl v'
  have d6 : Chg (fun k => w.heap.size ≤ k) wr w6 := c6.mono fun k _ e => (h.fin.lt k e).1
  have d7 : Chg (fun k => w.heap.size ≤ k) w6 (w6.setCell ⟨b5, 2, none⟩ v') := c7.mono fun k _ e => by omega
  refine ⟨h7, ⟨h.ext.trans ((d6.trans d7).below h.ext.size (fun k e => e)), (h.box.chg c6 (own_blk_ne h.fin h.box (by decide))).chg c7 (by omega), (h.res.chg c6 (own_blk_ne h.fin h.res (by decide))).chg c7 (by omega), h7.set 2 _, ?_, ?_, h.len, ?_, ?_, hlt⟩⟩
  · refine (h.syms.chg c6 (own_ne h.syms h.fin (by decide))).chg c7 fun q e e' => ?_
    subst e'; exact own_blk_ne h.syms h.dfa (by decide) e
  · refine (h.next.chg c6 (own_ne h.next h.fin (by decide))).chg c7 fun q e e' => ?_
    subst e'; exact own_blk_ne h.next h.dfa (by decide) e
  · intro i u r hu hr
    have k := h.rows i u r hu hr
    refine (k.chg c6 (own_ne k h.fin (by decide))).chg c7 fun q e e' => ?_
    subst e'; exact own_blk_ne k h.dfa (by decide) e
  · refine hO.chg c7 fun q e e' => ?_
    rw [hvo] at e
    have hgk : g = q := by simpa using e
    subst hgk
    rcases hl with e2 | e2
    · exact own_blk_ne h.fin h.dfa (by decide) (e2.trans (by rw [e']))
    · have := h.dfa.lt; omega
end
end Go.Proofs.YtngpjagpeblbjaaGreatDoor
namespace Go.Spy
open Go.RowKit
/-- A guarded operation that is wanted is as one without a guard. -/
theorem wpList_unguard {P : Program} {ops : Array Oper} {rest : List Oper} {o : Oper} {a : Act} {w : World} {Q : Exit → Act → World → Prop} (hw : Region.wanted o (yielded ops a.tmps) = true)
    (h : wpList P ops Q ({ o with guard := none } :: rest) a w) : wpList P ops Q (o :: rest) a w := by
  unfold wpList at h ⊢
  rw [if_pos hw]
  rw [if_pos (by rfl)] at h
  obtain ⟨d, op, t, p, af, g⟩ := o
  exact h
end Go.Spy
namespace Go.Proofs.YtngpjagpeblbjaaGreatDoor
open Go.RowKit Go.Spy Go.Heaped Go.Tour Go.Rx

theorem keyOf_set (m : Nat) (hm : m < 18446744073709551616) : ∃ l, keyOf Tryz.prog 105 (.agg (setV m)) = some l := by
  refine keyOf_arr Tryz.underlying105 (by kernel_rfl) (by rw [cells105, setV_size]) ?_
  rw [types_size]
  refine lits_array Tryz.underlying105 (by rw [cells105]; simp [setV_size]) fun i hi => ?_
  rw [cells103]
  have h1 : (List.take 1 (List.drop (i * 1) (setV m).toList)) = [.int .u64 (plG m i)] := by
    apply List.ext_getElem?
    intro j
    have hg := setV_get (m := m) hi
    cases j with
    | zero =>
      rw [List.getElem?_take, if_pos (by decide), List.getElem?_drop]
      simp only [Nat.mul_one, Nat.add_zero]
      rw [Array.getElem?_toList, hg]; rfl
    | succ j => rw [List.getElem?_take, if_neg (by omega)]; simp
  rw [h1]
  refine lits_int Tryz.underlying103 ?_
  have e1 : IntKind.u64.min = 0 := rfl
  have e2 : IntKind.u64.max = 18446744073709551615 := by decide
  cases i with
  | zero => simp [plG, Lit.wf, e1, e2]; omega
  | succ i => simp [plG, Lit.wf, e1, e2]
theorem setV_inj {a b : Nat} (h : setV a = setV b) : a = b := by
  have h0 : (setV a)[0]? = (setV b)[0]? := by rw [h]
  rw [setV_get (by decide), setV_get (by decide)] at h0
  simp [plG] at h0
  exact_mod_cast h0
set_option maxRecDepth 100000 in
theorem run_neq_set (a b : Nat) (ha : a < 18446744073709551616) (hb : b < 18446744073709551616) (w : World) : (binOp .neq 105 (.agg (setV a)) (.agg (setV b))).run Tryz.prog w = .ok (.bool (decide (a ≠ b))) w := by
  obtain ⟨la, hla⟩ := keyOf_set a ha
  obtain ⟨lb, hlb⟩ := keyOf_set b hb
  obtain ⟨r, h1, h2⟩ := equal_of_law (P := Tryz.prog) Tryz.underlying105 (deep_law_gate (by kernel_rfl) (by rw [types_size]; decide) (by rw [types_size]; decide) (by kernel_rfl) (by rw [Tryz.underlying105])) hla hlb rfl w
  simp only [binOp, Sem.run_bind, h1, Result.andThen_ok, Sem.run_pure]
  congr 2
  cases r with
  | true =>
    have e : b = a := setV_inj (by have := h2.1 rfl; simpa using this)
    simp [e]
  | false =>
    have e : ¬ a = b := fun e => by have := h2.2 (by rw [e]); cases this
    simp [e]
theorem built_set0 : Tryz.prog.built 105 [] = some (setV 0) := by kernel_rfl
theorem enters78 : Enters Tryz.prog 78 := fun _ _ => by kernel_rfl

set_option maxRecDepth 100000 in
set_option maxHeartbeats 1000000 in
theorem make2_any {w : World} {bE bL : Nat} {emp : Bool} {last : Nat} (hl : last < 18446744073709551616) (hE : Blk w bE 4 #[.bool emp]) (hL : Blk w bL 105 (setV last)) (s : Sta) :
    Calls Tryz.prog 78 #[.agg (staC s), .pointer (some ⟨bE, 0, none⟩), .pointer (some ⟨bL, 0, none⟩)] w fun e w' => e = .returned (.bool ((s.1 && emp) || decide (s.2.1 &&& last ≠ 0))) ∧ Ext w w' := by
  have HL := hid hL
  have cE0 : ∀ w', Ext w w' → w'.cell? ⟨bE, 0, none⟩ = some (.bool emp) := fun w' e => (hE.ext e).cell rfl
  have HCE := hid cE0
  have hm := s.2.2
  have hneq := fun W => run_neq_set (s.2.1 &&& last) 0 (Nat.lt_of_le_of_lt Nat.and_le_left hm) (by decide) W
  have c0 : (staC s)[0]? = some (.bool s.1) := staC_get0 s
  obtain ⟨b, hb⟩ : ∃ b, b = s.1 := ⟨_, rfl⟩
  rw [← hb] at c0 ⊢
  have HC0 := hid c0
  clear hE hL cE0 hb c0
  go_enter Tryz.func78, Tryz.ntmps78
  go_upto_region 1 with (first
    | (with_reducible show wpList _ _ _ ((⟨some 3, _, _, _, _, _⟩ : Oper) :: _) _ _
       go_loud (refine wpList_box_agg rfl 112 (.tmp 0) rfl (staC s) rfl ?_)
       intro w1 hB1 hz1
       have HB1 := hid hB1.out
       have HZ1 := hid hz1
       clear hB1 hz1))
  have s1 : w.heap.size < w1.heap.size := by have := HZ1.out; omega
  have c3 : w1.cell? ⟨w.heap.size, 0, none⟩ = some (.bool b) := HB1.out.1.cell HC0.out
  have cE := HCE.out w1 HB1.out.2
  have lE := World.block_lt_of_cell? _ _ cE
  have HL1 := hid (HL.out.ext HB1.out.2)
  have c1 : ∀ j, j < 16 → w1.cell? ⟨w.heap.size, 1 + j, none⟩ = (setV s.2.1)[j]? := fun j hj => by
    rw [← staC_get]
    have hsz := staC_size s
    rw [Array.getElem?_eq_getElem (by omega)]
    exact HB1.out.1.cell (Array.getElem?_eq_getElem (by omega))
  have HC1 := hid c1
  clear c1
  cases b <;> cases emp
  all_goals
    go_wp2_with (first
      | (with_reducible show wpList _ _ _ ((⟨some 12, _, _, _, _, _⟩ : Oper) :: _) _ _
         go_loud (refine wpList_unguard (by go_simp) ?_; refine wpList_load_cells rfl 105 (.tmp 11) rfl w.heap.size 1 rfl (setV s.2.1) _ 16 HC1.out (setV_size _) Tryz.underlying105 rfl info105 ?_))
      | (with_reducible show wpList _ _ _ ((⟨some 13, _, _, _, _, _⟩ : Oper) :: _) _ _
         go_loud (refine wpList_unguard (by go_simp) ?_; refine wpList_load_blk rfl 105 (.tmp 2) rfl bL rfl 105 (setV last) _ 16 HL1.out (setV_size _) Tryz.underlying105 rfl info105 ?_))
      | (go_at_call 74
         go_loud (refine (both2_any _ _ hm hl _).mono ?_)
         rintro e w5 ⟨C, rfl, hC, hx5⟩
         subst hC
         have HX5 := hid hx5
         clear hx5)
      | (with_reducible show wpList _ _ _ ((⟨some 15, _, _, _, _, _⟩ : Oper) :: _) _ _
         go_loud (refine wpList_unguard (by go_simp) ?_; refine wpList_build_agg rfl 105 _ rfl [] rfl _ built_set0 ?_)
         intro C HC
         have hC := HC.out
         subst hC))
    go_ret
    first
      | exact ⟨rfl, HB1.out.2.trans (HX5.out.mono HB1.out.2.size)⟩
      | exact ⟨rfl, HB1.out.2⟩
end Go.Proofs.YtngpjagpeblbjaaGreatDoor
namespace Go.Proofs.YtngpjagpeblbjaaGreatDoor
open Go.RowKit Go.Spy Go.Heaped Go.Tour Go.Rx

def symP (l : List Nd) (x : ByteArray) (p : Nat) : Bool := match l[p]? with | some n => decide (n.op = 2) && decide (n.sym.toList = x.toList) | none => false
/-- Of the places below j. -/
def ofJ (l : List Nd) (j : Nat) (x : ByteArray) : Nat := maskOf j (symP l x)
def lastP (l : List Nd) (p : Nat) : Bool := match l[p]? with | some n => decide (n.op = 2) && (lastMk l).testBit p | none => false
def lastJ (l : List Nd) (j : Nat) : Nat := maskOf j (lastP l)
def lastK (l : List Nd) : Nat := lastJ l l.length
/-- Which states are final. -/
def finalK (l : List Nd) (s : Sta) : Bool := (s.1 && nullT (tr l (l.length - 1))) || decide (s.2.1 &&& lastK l ≠ 0)
def makeSyms (l : List Nd) (more : List ByteArray) : List ByteArray := sortW (sortW (symsL l) ++ more)
theorem maskOf_lt (f : Nat → Bool) : ∀ n, maskOf n f < 2 ^ n := fun n => by
  apply Nat.lt_pow_two_of_testBit
  intro i hi
  rw [bit_maskOf, decide_eq_false (by omega)]; rfl
theorem maskOf_lt64 (f : Nat → Bool) {n : Nat} (h : n ≤ 64) : maskOf n f < 18446744073709551616 := Nat.lt_of_lt_of_le (maskOf_lt f n) (pow_le64 h)
theorem ofJ_skip {l : List Nd} {j : Nat} {n : Nd} (hn : l[j]? = some n) (h : n.op ≠ 2) (x : ByteArray) : ofJ l (j + 1) x = ofJ l j x := by
  unfold ofJ
  rw [maskOf]
  have : symP l x j = false := by unfold symP; rw [hn]; simp [h]
  rw [this]; rfl
theorem lastJ_skip {l : List Nd} {j : Nat} {n : Nd} (hn : l[j]? = some n) (h : n.op ≠ 2) : lastJ l (j + 1) = lastJ l j := by
  unfold lastJ
  rw [maskOf]
  have : lastP l j = false := by unfold lastP; rw [hn]; simp [h]
  rw [this]; rfl
theorem ofJ_sym {l : List Nd} {j : Nat} {n : Nd} (hn : l[j]? = some n) (h : n.op = 2) (x : ByteArray) : ofJ l (j + 1) x = if n.sym = x then ofJ l j x ||| 1 <<< j else ofJ l j x := by
  unfold ofJ
  rw [maskOf]
  by_cases e : n.sym = x
  · have : symP l x j = true := by unfold symP; rw [hn]; simp [h, e]
    rw [this, if_pos rfl, if_pos e]
  · have : symP l x j = false := by
      unfold symP; rw [hn]
      simp only [h, decide_true, Bool.true_and, decide_eq_false_iff_not]
      exact fun e2 => e (bytes_ext e2)
    rw [this, if_neg e]; rfl
theorem lastJ_sym {l : List Nd} {j : Nat} {n : Nd} (hn : l[j]? = some n) (h : n.op = 2) : lastJ l (j + 1) = if (lastMk l).testBit j then lastJ l j ||| 1 <<< j else lastJ l j := by
  unfold lastJ
  rw [maskOf]
  have : lastP l j = (lastMk l).testBit j := by unfold lastP; rw [hn]; simp [h]
  rw [this]
theorem ofs_set {l : List Nd} {j c : Nat} {n : Nd} {syms : List ByteArray} (hr : Rising syms) (hn : l[j]? = some n) (h : n.op = 2) (hc : syms[c]? = some n.sym) :
    (syms.map (ofJ l j)).set c (ofJ l j n.sym ||| 1 <<< j) = syms.map (ofJ l (j + 1)) := by
  apply List.ext_getElem?
  intro i
  rw [List.getElem?_set, List.length_map]
  by_cases e : c = i
  · subst e
    have hlt := (List.getElem?_eq_some_iff.1 hc).1
    rw [if_pos rfl, if_pos hlt, List.getElem?_map, hc, Option.map_some, ofJ_sym hn h, if_pos rfl]
  · rw [if_neg e, List.getElem?_map, List.getElem?_map]
    cases hx : syms[i]? with
    | none => rfl
    | some x =>
      have hne : n.sym ≠ x := by
        intro e2
        subst e2
        rcases Nat.lt_trichotomy c i with h1 | h1 | h1
        · have := hr.get h1 hc hx; rw [ltB_irr] at this; cases this
        · exact e h1
        · have := hr.get h1 hx hc; rw [ltB_irr] at this; cases this
      rw [Option.map_some, Option.map_some, ofJ_sym hn h, if_neg hne]
theorem mem_symsL {l : List Nd} {j : Nat} {n : Nd} (hn : l[j]? = some n) (h : n.op = 2) : n.sym ∈ symsL l := by
  unfold symsL
  rw [List.mem_filterMap]
  exact ⟨n, List.mem_of_getElem? hn, by unfold symN; rw [if_pos h]⟩
theorem mem_makeSyms {l : List Nd} {more : List ByteArray} {x : ByteArray} : x ∈ makeSyms l more ↔ x ∈ symsL l ∨ x ∈ more := by
  unfold makeSyms
  rw [sortW_mem, List.mem_append, sortW_mem]
theorem makeSyms_rising (l : List Nd) (more : List ByteArray) : Rising (makeSyms l more) := sortW_rising _
theorem symsL_len (l : List Nd) : (symsL l).length ≤ l.length := List.length_filterMap_le _ _
theorem makeSyms_len (l : List Nd) (more : List ByteArray) : (makeSyms l more).length ≤ l.length + more.length := by
  have h1 := sortW_len (sortW (symsL l) ++ more)
  have h2 := sortW_len (symsL l)
  have h3 := symsL_len l
  rw [List.length_append] at h1
  unfold makeSyms
  omega
/-- The tour of an expression. -/
abbrev succS (l : List Nd) (syms : List ByteArray) : Sta → List Sta := fan (stepS l syms) syms.length
def MakePost (l : List Nd) (syms : List ByteArray) (w : World) (e : Ending) (w' : World) : Prop :=
  Ext w w' ∧ ((∃ i v, Full (succS l syms) startS i ∧ i ≤ 256 ∧ e = .returned (.tuple #[v, .int .i64 0]) ∧ DfaV w' v (tourD syms (tourN (succS l syms) startS i) (finalK l)).raw) ∨
    (∃ i, 256 < (tourN (succS l syms) startS i).keys.length ∧ e = .returned (.tuple #[.agg #[.slice none 0 0, .slice none 0 0, .slice none 0 0], .int .i64 17])))
/-- While the places are gone through. -/
structure GatW (w wr : World) (l : List Nd) (ao : Option Addr) (cap : Nat) (syms : List ByteArray) (aoS : Option Addr) (cS bSy bOf bO bLa : Nat) (jo jl : Nat) : Prop where
  ext : Ext w wr
  r : Blk wr w.heap.size 45 #[.slice ao l.length cap]
  res : Blk wr (w.heap.size + 1) 26 #[.slice none 0 0, .slice none 0 0, .slice none 0 0]
  sy : Blk wr bSy 22 #[.slice aoS syms.length cS]
  own : OwnR wr w.heap.size 9 1 strC (.slice aoS syms.length cS) syms
  of_ : Blk wr bOf 102 #[.slice (some ⟨bO, 0, none⟩) syms.length syms.length]
  o : Blk wr bO 105 (rowV setV (syms.map (ofJ l jo)))
  la : Blk wr bLa 105 (setV (lastJ l jl))
  ne : bO ≠ bLa
  lt : w.heap.size + 1 < bSy ∧ w.heap.size + 1 < bOf ∧ w.heap.size + 1 < bO ∧ w.heap.size + 1 < bLa
theorem GatW.ext' {w wr wy : World} {l : List Nd} {ao : Option Addr} {cap : Nat} {syms : List ByteArray} {aoS : Option Addr} {cS bSy bOf bO bLa jo jl : Nat} (h : GatW w wr l ao cap syms aoS cS bSy bOf bO bLa jo jl) (e : Ext wr wy) : GatW w wy l ao cap syms aoS cS bSy bOf bO bLa jo jl :=
  ⟨h.ext.trans (e.mono h.ext.size), h.r.ext e, h.res.ext e, h.sy.ext e, h.own.ext e, h.of_.ext e, h.o.ext e, h.la.ext e, h.ne, h.lt⟩
end Go.Proofs.YtngpjagpeblbjaaGreatDoor
