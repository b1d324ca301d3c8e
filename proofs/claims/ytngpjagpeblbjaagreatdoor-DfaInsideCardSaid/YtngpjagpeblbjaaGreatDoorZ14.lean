/-
  What travel holds to from round to round.
  The start of travel; one step of it in each of its kinds.
  Loads of aggregates whose cells are held behind one name; what the two wide kinds of states have.
  Plain law of tours: other names for the states, where the rows lead, the words by which a state is come to first. No program is named here.
-/
import Derived.Test.YtngpjagpeblbjaaGreatDoorZ13
import Derived.Test.YtngpjagpeblbjaaGreatDoorZ08
import Derived.Test.YtngpjagpeblbjaaGreatDoorZ12
namespace Go.Proofs.YtngpjagpeblbjaaGreatDoor
open Go.RowKit Go.Spy Go.Heaped Go.Tour

/-- What stands beside what travel turns. -/
structure EnvW (w0 : World) (N : Nat) (X : Nat → Prop) (Inv : World → Prop) (bR : Nat) (tT : TypeId) (us : List Value) (rows : List (List Nat)) (S : Nat → Prop) (wr : World) : Prop where
  inv : Inv wr
  chg : Chg X w0 wr
  len : us.length = rows.length
  rows : ∀ (j : Nat) (u : Value) (r : List Nat), us[j]? = some u → rows[j]? = some r → Rest (fun w => ReadR w 1 natA u r) (Or2 X S) wr ∧ ∀ g, u.ownBlock = some g → N ≤ g ∧ g ≠ bR
  res : Rest (fun w => Blk w bR tT #[.slice none 0 0, .slice none 0 0, .slice none 0 0]) (Or2 X S) wr
section
variable {K : Type} [DecidableEq K] {κ : Kind K} {w0 w w' : World} {N : Nat} {X : Nat → Prop} {Inv : World → Prop} {bR bT bM q bq : Nat} {tT : TypeId} {vK vN vF vG : Value} {Sq : Nat → Prop} {ms ks : List K} {us us' : List Value} {rows : List (List Nat)} {fr : List (Nat × Nat)} {gs : List Nat} {a n : Nat} {S S' : Nat → Prop}
theorem EnvW.own (h : EnvW w0 N X Inv bR tT us rows (TO bT bM vK vN vF vG Sq) w) (t : TrO κ w N bT bM q bq vK vN vF vG Sq ms ks us' fr gs a n) (hN : w0.heap.size = N) (keep : ∀ a b, Inv a → Chg (fun k => N ≤ k) a b → Inv b) (m : Moved (TO bT bM vK vN vF vG Sq) S' w w') :
    EnvW w0 N X Inv bR tT us rows S' w' where
  inv := keep _ _ h.inv (m.newer t)
  chg := chg_x h.chg hN (m.newer t)
  len := h.len
  rows := fun j u r hu hr => ⟨(h.rows j u r hu hr).1.moved (m.or X), (h.rows j u r hu hr).2⟩
  res := h.res.moved (m.or X)
theorem EnvW.next (h : EnvW w0 N X Inv bR tT us rows S w) (i : Inv w') (c : Chg X w w') : EnvW w0 N X Inv bR tT us rows S w' where
  inv := i
  chg := h.chg.trans c
  len := h.len
  rows := fun j u r hu hr => ⟨(h.rows j u r hu hr).1.moved (moved_x c S), (h.rows j u r hu hr).2⟩
  res := h.res.moved (moved_x c S)
theorem EnvW.size (h : EnvW w0 N X Inv bR tT us rows S w) (hN : w0.heap.size = N) : N ≤ w.heap.size := hN ▸ h.chg.size
theorem EnvW.add (h : EnvW w0 N X Inv bR tT us rows S w) {u : Value} {r : List Nat} (hr : Rest (fun w => ReadR w 1 natA u r) (Or2 X S) w) (hg : ∀ g, u.ownBlock = some g → N ≤ g ∧ g ≠ bR) : EnvW w0 N X Inv bR tT (us ++ [u]) (rows ++ [r]) S w where
  inv := h.inv
  chg := h.chg
  len := by simp [h.len]
  rows := fun j u' r' hu hr' => by
    rcases Nat.lt_or_ge j us.length with hj | hj
    · rw [List.getElem?_append_left hj] at hu
      rw [List.getElem?_append_left (by rw [← h.len]; exact hj)] at hr'
      exact h.rows j u' r' hu hr'
    · rw [List.getElem?_append_right hj] at hu
      rw [List.getElem?_append_right (by rw [← h.len]; exact hj)] at hr'
      have h0 : j - us.length = 0 := by
        have := (List.getElem?_eq_some_iff.1 hu).1
        simp at this; omega
      have h1 : j - rows.length = 0 := by rw [← h.len]; exact h0
      rw [h0] at hu
      rw [h1] at hr'
      simp at hu hr'
      subst hu; subst hr'
      exact ⟨hr, hg⟩
  res := h.res
theorem Moved.of_ext (S : Nat → Prop) (e : Ext w w') : Moved S S w w' := (Moved.refl S w).ext e
end

/-- Ahead of a round. -/
structure L1W {K : Type} [DecidableEq K] (κ : Kind K) (w0 : World) (X : Nat → Prop) (Inv : World → Prop) (succ : K → List K) (first : K) (most : Nat) (bR bT bM q bq : Nat) (i : Nat) (vK vN vF : Value) (Sq : Nat → Prop) (us : List Value) (wr : World) : Prop where
  tr : TrO κ wr w0.heap.size bT bM q bq vK vN vF (.slice none 0 0) Sq (tourN succ first i).keys (tourN succ first i).keys us (tourN succ first i).from_ [] i ((tourN succ first i).keys.length - i)
  le : i ≤ (tourN succ first i).keys.length
  most : (tourN succ first i).keys.length ≤ most
  env : EnvW w0 w0.heap.size X Inv bR κ.tT us (tourN succ first i).next (TO bT bM vK vN vF (.slice none 0 0) Sq) wr

/-- Within a round: what is in memory. -/
structure MidW {K : Type} [DecidableEq K] (κ : Kind K) (w0 : World) (X : Nat → Prop) (Inv : World → Prop) (bR bT bM q bq bB : Nat) (vRow : Value) (rows : List (List Nat)) (i : Nat) (l : List K) (vK vN vF vG : Value) (Sq : Nat → Prop) (ms ks : List K) (us : List Value) (fr : List (Nat × Nat)) (gs : List Nat) (a n : Nat) (wr : World) : Prop where
  tr : TrO κ wr w0.heap.size bT bM q bq vK vN vF vG Sq ms ks us fr gs a n
  env : EnvW w0 w0.heap.size X Inv bR κ.tT us rows (TO bT bM vK vN vF vG Sq) wr
  row : Rest (fun w => ReadR w κ.s κ.cel vRow l) (Or2 X (TO bT bM vK vN vF vG Sq)) wr
  box : Rest (fun w => Blk w bB 165 #[.int .i64 i]) (Or2 X (TO bT bM vK vN vF vG Sq)) wr
section
variable {K : Type} [DecidableEq K] {κ : Kind K} {w0 w w' : World} {X : Nat → Prop} {Inv : World → Prop} {bR bT bM q bq bB i : Nat} {vRow : Value} {l : List K} {vK vN vF vG vK' vF' vG' : Value} {Sq Sq' : Nat → Prop} {ms ks ms' ks' : List K} {us : List Value} {rows : List (List Nat)} {fr fr' : List (Nat × Nat)} {gs gs' : List Nat} {a n a' n' : Nat}
theorem MidW.go (h : MidW κ w0 X Inv bR bT bM q bq bB vRow rows i l vK vN vF vG Sq ms ks us fr gs a n w) (keep : ∀ a b, Inv a → Chg (fun k => w0.heap.size ≤ k) a b → Inv b)
    (t : TrO κ w' w0.heap.size bT bM q bq vK' vN vF' vG' Sq' ms' ks' us fr' gs' a' n') (m : Moved (TO bT bM vK vN vF vG Sq) (TO bT bM vK' vN vF' vG' Sq') w w') :
    MidW κ w0 X Inv bR bT bM q bq bB vRow rows i l vK' vN vF' vG' Sq' ms' ks' us fr' gs' a' n' w' :=
  ⟨t, h.env.own h.tr rfl keep m, h.row.moved (m.or X), h.box.moved (m.or X)⟩
theorem MidW.ext (h : MidW κ w0 X Inv bR bT bM q bq bB vRow rows i l vK vN vF vG Sq ms ks us fr gs a n w) (keep : ∀ a b, Inv a → Chg (fun k => w0.heap.size ≤ k) a b → Inv b) (e : Ext w w') :
    MidW κ w0 X Inv bR bT bM q bq bB vRow rows i l vK vN vF vG Sq ms ks us fr gs a n w' := h.go keep (h.tr.ext e) (Moved.of_ext _ e)
/-- The end of a round. -/
theorem MidW.end_ (O : KindOk κ) (h : MidW κ w0 X Inv bR bT bM q bq bB vRow rows i l vK vN vF vG Sq ms ks us fr gs a n w) (hX : ∀ k, X k → k < w0.heap.size) (keep : ∀ a b, Inv a → Chg (fun k => w0.heap.size ≤ k) a b → Inv b)
    {vN' : Value} (t : TrO κ w' w0.heap.size bT bM q bq vK vN' vF vG Sq ms ks (us ++ [vG]) fr gs a n) (m : Moved (TO bT bM vK vN vF vG Sq) (TO bT bM vK vN' vF vG Sq) w w') :
    TrO κ w' w0.heap.size bT bM q bq vK vN' vF (.slice none 0 0) Sq ms ks (us ++ [vG]) fr [] a n ∧ EnvW w0 w0.heap.size X Inv bR κ.tT (us ++ [vG]) (rows ++ [gs]) (TO bT bM vK vN' vF (.slice none 0 0) Sq) w' := by
  have h1 := (h.env.own h.tr rfl keep m).own t rfl keep t.fresh.2
  refine ⟨t.fresh.1, h1.add ((OwnR.read t.goes (fun _ => rfl)).rest fun g hg => ?_) (fun g hg => ⟨(t.goes.lt g hg).1, fun e => by
    obtain ⟨_, hb⟩ := own_block t.goes hg
    exact ne_of_blk h1.res.out hb O.t2.2.2.2.2.2.2 e.symm⟩)⟩
  rintro (e | e)
  · have := hX g e; have := (t.goes.lt g hg).1; omega
  · exact t.goes_apart O hg e
end

/-- Within a round. -/
structure L2W {K : Type} [DecidableEq K] (κ : Kind K) (w0 : World) (X : Nat → Prop) (Inv : World → Prop) (succ : K → List K) (first : K) (most : Nat) (bR bT bM q bq bB : Nat) (vRow : Value) (i : Nat) (l : List K) (j : Nat) (s : St K) (vK vN vF vG : Value) (Sq : Nat → Prop) (us : List Value) (wr : World) : Prop where
  mid : MidW κ w0 X Inv bR bT bM q bq bB vRow (tourN succ first i).next i l vK vN vF vG Sq s.keys s.keys us s.from_ s.goes (i + 1) (s.keys.length - (i + 1)) wr
  le : i + 1 ≤ s.keys.length
  most : s.keys.length ≤ most
  goes : s.goes.length = j
  from_ : s.from_.length = s.keys.length

/-- The end of the tour: what is laid into the result's block is the tour. -/
theorem L1W.tour {K : Type} [DecidableEq K] {κ : Kind K} (O : KindOk κ) {w0 w w' : World} {X : Nat → Prop} {Inv : World → Prop} {succ : K → List K} {first : K} {most bT bM q bq i : Nat} {vK vN vF : Value} {Sq : Nat → Prop} {us : List Value}
    (h : L1W κ w0 X Inv succ first most w0.heap.size bT bM q bq i vK vN vF Sq us w) (keep : ∀ a b, Inv a → Chg (fun k => w0.heap.size ≤ k) a b → Inv b) (c : Chg (fun k => k = w0.heap.size) w w') :
    Inv w' ∧ Chg X w0 w' ∧ TourW κ w' w0.heap.size vK vN vF (tourN succ first i).keys (tourN succ first i).next (tourN succ first i).from_ := by
  have hR := h.env.res.out
  have kR : ∀ j, vK.ownBlock = some j → ¬ j = w0.heap.size := fun j e e' => by obtain ⟨_, hb⟩ := own_block h.tr.keys e; exact ne_of_blk hR hb O.t1 e'.symm
  have nR : ∀ j, vN.ownBlock = some j → ¬ j = w0.heap.size := fun j e e' => by obtain ⟨_, hb⟩ := own_block h.tr.next e; exact ne_of_blk hR hb O.t2.1 e'.symm
  have fR : ∀ j, vF.ownBlock = some j → ¬ j = w0.heap.size := fun j e e' => by obtain ⟨_, hb⟩ := own_block h.tr.from_ e; exact ne_of_blk hR hb O.t2.2.1 e'.symm
  have d : Chg (fun k => w0.heap.size ≤ k) w w' := c.mono fun k _ e => by omega
  refine ⟨keep _ _ h.env.inv d, chg_x h.env.chg rfl d, ⟨h.tr.keys.chg c kR, ⟨us, h.tr.next.chg c nR, h.env.len, fun j u r hu hr => ?_⟩, h.tr.from_.chg c fR⟩⟩
  obtain ⟨r1, r2⟩ := h.env.rows j u r hu hr
  exact ⟨r1.out.chg c fun g hg => (r2 g hg).2, fun g hg => (r2 g hg).1⟩
end Go.Proofs.YtngpjagpeblbjaaGreatDoor
namespace Go.Proofs.YtngpjagpeblbjaaGreatDoor
open Go.RowKit Go.Spy Go.Heaped Go.Tour

section
variable {K : Type} [DecidableEq K] {κ : Kind K}

/-- The world ahead of New. -/
abbrev startW (w1 : World) (C : Array Value) (eT tT : TypeId) : World :=
  ((w1.alloc (.cells C eT)).alloc (.cells #[.int .i64 0, .int .i64 0] 160)).alloc (.cells #[.slice (some ⟨w1.heap.size, 0, none⟩) 1 1, .slice none 0 0, .slice (some ⟨w1.heap.size + 1, 0, none⟩) 1 1] tT)

theorem start_l1 (O : KindOk κ) {w0 w1 w2 : World} {X : Nat → Prop} {Inv : World → Prop} {first : K} {C : Array Value} (hC : C = κ.cel first) (hX : ∀ k, X k → k < w0.heap.size) (hI : Inv w0) (keep : ∀ a b, Inv a → Chg (fun k => w0.heap.size ≤ k) a b → Inv b)
    (hM : MapB w1 (w0.heap.size + 1) κ.enc (aput [] first (numV 0))) (hg : ((w0.alloc (.cells #[.slice none 0 0, .slice none 0 0, .slice none 0 0] κ.tT)).alloc (.map #[] 0)).grownBy w1 (some (w0.heap.size + 1)))
    {b : Nat} (hb : b = (startW w1 C κ.eT κ.tT).heap.size) (hQ : QR w2 b (b + 1) b 0 0 (fun k => k = b + 1)) (hE : Ext (startW w1 C κ.eT κ.tT) w2) :
    TrO κ w2 w0.heap.size (w1.heap.size + 1 + 1) (w0.heap.size + 1) (b + 1) b (.slice (some ⟨w1.heap.size, 0, none⟩) 1 1) (.slice none 0 0) (.slice (some ⟨w1.heap.size + 1, 0, none⟩) 1 1) (.slice none 0 0) (fun k => k = b + 1) [first] [first] [] [(0, 0)] [] 0 0 ∧
    EnvW w0 w0.heap.size X Inv w0.heap.size κ.tT [] [] (TO (w1.heap.size + 1 + 1) (w0.heap.size + 1) (.slice (some ⟨w1.heap.size, 0, none⟩) 1 1) (.slice none 0 0) (.slice (some ⟨w1.heap.size + 1, 0, none⟩) 1 1) (.slice none 0 0) (fun k => k = b + 1)) w2 := by
  subst hC
  have hs := hg.size
  have hs : w0.heap.size + 1 + 1 ≤ w1.heap.size := by simpa using hs
  have hb' : b = w1.heap.size + 3 := by rw [hb]; simp
  have e1 : Chg (fun k => w0.heap.size ≤ k) w0 w1 := (((Chg.refl _ w0).alloc _).alloc _).grown hg (fun k e => by simp at e; omega)
  have e2 : Chg (fun k => w0.heap.size ≤ k) w0 w2 := (((e1.alloc _).alloc _).alloc _).ext hE
  have m1 : Ext w1 w2 := ((((Below.refl _ w1).alloc (Nat.le_refl _) _).alloc (by simp) _).alloc (by simp; omega) _ : Ext w1 (startW w1 (κ.cel first) κ.eT κ.tT)).trans (hE.mono (by simp; omega))
  refine ⟨⟨?_, ?_, OwnR.nil _ _ _ _ _, ?_, OwnR.nil _ _ _ _ _, hM.ext m1, hQ, by omega, by omega, by omega, fun k e => by omega, fun _ e => e.elim, fun _ _ => by simp [Value.ownBlock], ?_⟩, ⟨keep _ _ hI e2, chg_x (Chg.refl _ _) rfl e2, rfl, fun j u r hu => by simp at hu, ?_⟩⟩
  · exact (Blk.new' _ κ.tT _ (by simp)).ext hE
  · have h0 : OwnR (w1.alloc (.cells (κ.cel first) κ.eT)) w0.heap.size κ.eT κ.s κ.cel (.slice (some ⟨w1.heap.size, 0, none⟩) 1 1) [first] := by
      have := World.ownsRow_lit (base := w0.heap.size) (e := κ.eT) (size := κ.s) w1 (κ.cel first) 1 (by omega) (by decide) (by rw [O.size]; omega)
      unfold OwnR
      simpa using this
    exact ((h0.alloc _).alloc _).ext hE
  · have h0 : OwnR ((w1.alloc (.cells (κ.cel first) κ.eT)).alloc (.cells #[.int .i64 0, .int .i64 0] 160)) w0.heap.size 160 2 stepA (.slice (some ⟨w1.heap.size + 1, 0, none⟩) 1 1) [(0, 0)] := by
      have := World.ownsRow_lit (base := w0.heap.size) (e := 160) (size := 2) (w1.alloc (.cells (κ.cel first) κ.eT)) #[.int .i64 0, .int .i64 0] 1 (by simp; omega) (by decide) (by rfl)
      rw [show (w1.alloc (.cells (κ.cel first) κ.eT)).heap.size = w1.heap.size + 1 by simp] at this
      exact this
    exact (h0.alloc _).ext hE
  · intro g e
    simp [Value.ownBlock] at e
    omega
  · have h0 : Blk w2 w0.heap.size κ.tT #[.slice none 0 0, .slice none 0 0, .slice none 0 0] := ((((Blk.new w0 κ.tT _).alloc _).grown hg (by simp)).ext m1)
    refine Blk.rest h0 ?_
    rintro (e | e | e | e | e | e | e | e | e)
    · have := hX _ e; omega
    · exact e
    · omega
    · omega
    all_goals first | omega | (simp [Value.ownBlock] at e; done) | (simp [Value.ownBlock] at e; omega)
end

theorem putR0 {w : World} {base q bo : Nat} {S : Nat → Prop} (h : QR w base q bo 0 0 S) (z : Int) (hz : z = 0) :
    Calls Tryz.prog 104 #[.pointer (some ⟨q, 0, none⟩), .agg #[.int .i64 z]] w fun e w' => e = .returned (.int .i64 0) ∧ QRGoes S w w' base q bo 0 1 := by
  have h1 := putR h (by omega)
  have e : ((0 + 0 : Nat) : Int) = z := by omega
  rw [e] at h1
  exact h1
theorem putRz {w : World} {base q bo a n : Nat} {S : Nat → Prop} (h : QR w base q bo a n S) (hm : a + n ≤ 100000000) (z : Int) (hz : z = ((a + n : Nat) : Int)) :
    Calls Tryz.prog 104 #[.pointer (some ⟨q, 0, none⟩), .agg #[.int .i64 z]] w fun e w' => e = .returned (.int .i64 0) ∧ QRGoes S w w' base q bo a (n + 1) := by
  rw [hz]
  exact putR h hm

theorem elem_int : ElemOk Tryz.prog 46 3 1 8 where
  under := Tryz.underlying46
  info := by
    obtain ⟨i, h1, h2, h3, h4⟩ := info_parts (P := Tryz.prog) (e := 3) (z := .int .i64 0) (size := 1) (bytes := 8) (by kernel_rfl)
    exact ⟨i, _, h1, h2, h3, h4, rfl⟩
  pos := by decide
  small := by decide
theorem elem_row : ElemOk Tryz.prog 23 46 1 24 where
  under := Tryz.underlying23
  info := by
    obtain ⟨i, h1, h2, h3, h4⟩ := info_parts (P := Tryz.prog) (e := 46) (z := .slice none 0 0) (size := 1) (bytes := 24) (by kernel_rfl)
    exact ⟨i, _, h1, h2, h3, h4, rfl⟩
  pos := by decide
  small := by decide
theorem elem_step : ElemOk Tryz.prog 78 160 2 16 where
  under := Tryz.underlying78
  info := by
    obtain ⟨i, h1, h2, h3, h4⟩ := info_parts (P := Tryz.prog) (e := 160) (z := .agg #[.int .i64 0, .int .i64 0]) (size := 2) (bytes := 16) (by kernel_rfl)
    exact ⟨i, _, h1, h2, h3, h4, rfl⟩
  pos := by decide
  small := by decide
theorem elem_pr : ElemOk Tryz.prog 77 83 2 16 where
  under := Tryz.underlying77
  info := by
    obtain ⟨i, h1, h2, h3, h4⟩ := info_parts (P := Tryz.prog) (e := 83) (z := .agg #[.int .i64 0, .int .i64 0]) (size := 2) (bytes := 16) (by kernel_rfl)
    exact ⟨i, _, h1, h2, h3, h4, rfl⟩
  pos := by decide
  small := by decide
theorem zero_int (w : World) : (zeroValue 3).run Tryz.prog w = .ok (.int .i64 0) w := by kernel_rfl
theorem ones_int (n : Nat) : Ones (natA n) := by
  intro v hv
  simp only [natA, List.mem_toArray, List.mem_cons, List.not_mem_nil, or_false] at hv
  subst hv; rfl
theorem ones_step (p : Nat × Nat) : Ones (stepA p) := by
  intro v hv
  simp only [stepA, List.mem_toArray, List.mem_cons, List.not_mem_nil, or_false] at hv
  rcases hv with rfl | rfl <;> rfl
theorem ones_row (u : Value) : Ones (oneA u) := by
  intro v hv
  simp only [oneA, List.mem_toArray, List.mem_cons, List.not_mem_nil, or_false] at hv
  subst hv
  cases u <;> rfl
end Go.Proofs.YtngpjagpeblbjaaGreatDoor
namespace Go.Spy
open Go.RowKit

section
variable {P : Program}
theorem run_loadVar_cells (w : World) (g off : Nat) (ty : TypeId) (A : Array Value) (d : TypeDesc) (n : Nat) (hc : ∀ j, j < n → w.cell? ⟨g, off + j, none⟩ = A[j]?) (hA : A.size = n)
    (hu : P.underlying ty = some d) (hd : (match d with | .struct _ | .array _ _ => true | _ => false) = true) (hi : (P.info? ty).map (·.size) = some n) :
    (loadVar ty ⟨g, off, none⟩).run P w = .ok (.agg A) w := by
  subst hA
  have hl := run_loadCells_list (P := P) w ⟨g, off, none⟩ A.toList (fun j v hv => by
      have hadd : (⟨g, off, none⟩ : Addr).add j = ⟨g, off + j, none⟩ := by unfold Addr.add; split <;> simp_all
      have hj : j < A.size := by
        have := (List.getElem?_eq_some_iff.1 hv).1
        simpa using this
      rw [hadd, hc j hj]
      simpa using hv)
  cases hq : P.info? ty with
  | none => simp [hq] at hi
  | some i =>
    have hs : i.size = A.size := by simpa [hq] using hi
    have hagg : (isAgg ty).run P w = .ok true w := by
      unfold isAgg
      rw [Sem.run_bind, run_underlying hu w]
      cases d <;> simp_all
    simp only [Array.length_toList] at hl
    simp [loadVar, Sem.run_bind, hagg, sizeOf, typeInfo, hq, hs, hl]
/-- A load of an aggregate whose cells are known one by one. -/
theorem wpList_load_cells {ops : Array Oper} {rest : List Oper} {o : Oper} {a : Act} {w : World} {Q : Exit → Act → World → Prop} (hgd : o.guard = none) (ty : TypeId) (x : Operand) (ho : o.op = .load ty x)
    (g off : Nat) (hx : a.eval x = .pointer (some ⟨g, off, none⟩)) (A : Array Value) (d : TypeDesc) (n : Nat) (hc : ∀ j, j < n → w.cell? ⟨g, off + j, none⟩ = A[j]?) (hA : A.size = n)
    (hu : P.underlying ty = some d) (hd : (match d with | .struct _ | .array _ _ => true | _ => false) = true) (hi : (P.info? ty).map (·.size) = some n)
    (h : wpList P ops Q rest (a.put o.dst (.agg A)) w) : wpList P ops Q (o :: rest) a w :=
  wpList_plain hgd fun _ hK => by
    unfold Oper.wp execOp
    simp only [ho, hx, Instr.loadAt, Instr.sureAddr, Sem.run_bind, Sem.run_pure, Result.andThen_ok, run_loadVar_cells w g off ty A d n hc hA hu hd hi]
    exact hK _ _ h
/-- A load of a whole block. -/
theorem wpList_load_blk {ops : Array Oper} {rest : List Oper} {o : Oper} {a : Act} {w : World} {Q : Exit → Act → World → Prop} (hgd : o.guard = none) (ty : TypeId) (x : Operand) (ho : o.op = .load ty x)
    (g : Nat) (hx : a.eval x = .pointer (some ⟨g, 0, none⟩)) (t : TypeId) (A : Array Value) (d : TypeDesc) (n : Nat) (hb : Blk w g t A) (hA : A.size = n)
    (hu : P.underlying ty = some d) (hd : (match d with | .struct _ | .array _ _ => true | _ => false) = true) (hi : (P.info? ty).map (·.size) = some n)
    (h : wpList P ops Q rest (a.put o.dst (.agg A)) w) : wpList P ops Q (o :: rest) a w := by
  refine wpList_load_cells hgd ty x ho g 0 hx A d n (fun j hj => ?_) hA hu hd hi h
  rw [Nat.zero_add, Array.getElem?_eq_getElem (by omega)]
  exact hb.cell (Array.getElem?_eq_getElem (by omega))
/-- A slice of one aggregate. -/
theorem wpList_slice_one {ops : Array Oper} {rest : List Oper} {o : Oper} {a : Act} {w : World} {Q : Exit → Act → World → Prop} (hgd : o.guard = none) (t : TypeId) (x : Operand) (ho : o.op = .buildSlice t 1 #[(0, x)])
    (A : Array Value) (hx : a.eval x = .agg A) (e : TypeId) (n : Nat) (z : Value) (hu : P.underlying t = some (.slice e)) (hi : (P.info? e).map (fun i => (i.zero, i.size)) = some (some z, n)) (h0 : 0 < n) (hn : n ≤ 1000) (hA : A.size = n)
    (h : wpList P ops Q rest (a.put o.dst (.slice (some ⟨w.heap.size, 0, none⟩) 1 1)) (w.alloc (.cells A e))) : wpList P ops Q (o :: rest) a w :=
  wpList_plain hgd fun _ hK => by
    obtain ⟨i, hq, hzz⟩ := Option.map_eq_some_iff.1 hi
    simp only [Prod.mk.injEq] at hzz
    obtain ⟨hz, hs⟩ := hzz
    have h1 : ¬ 1 * i.size > 2 ^ 24 := by omega
    have h2 : ¬ 1 * i.size = 0 := by omega
    have hf : Instr.fill (fun j => some (j * i.size, i.size)) ((Array.range (1 * i.size)).map (z.cells[· % z.cells.size]!)) [(0, Value.agg A)] = some A := by
      rw [fill_one (off := 0) (size := i.size) (by simp) (by simp [Value.cells]; omega) (by simp)]
      simp only [Instr.fill, Value.cells]
      rw [splice_all (by simp; omega)]
    unfold Oper.wp execOp
    simp only [ho, hx, Instr.buildSlice, run_underlying hu, sizeOf, typeInfo, hq, zeroValue, hz, Sem.run_bind, Sem.run_pure, run_program, Result.andThen_ok, h1, h2, if_false, List.map_toArray, List.map_cons, List.map_nil, hf, newRow, run_newObj_alloc]
    exact hK _ _ h
end
end Go.Spy
namespace Go.Proofs.YtngpjagpeblbjaaGreatDoor
open Go.RowKit Go.Spy Go.Heaped Go.Tour Go.Rx

def kindP : Kind Pr := ⟨fun p => .agg (prC p), prC, 80, 83, 2⟩
theorem okP : KindOk kindP := ⟨by decide, by decide, by decide, fun _ => rfl⟩
def kindS : Kind Sta := ⟨fun s => .agg (staC s), staC, 118, 112, 17⟩
theorem okS : KindOk kindS := ⟨by decide, by decide, by decide, staC_size⟩
theorem prC_size (p : Pr) : (prC p).size = 2 := rfl
theorem ones_pr (p : Pr) : Ones (prC p) := by
  intro v hv
  simp only [prC, List.mem_toArray, List.mem_cons, List.not_mem_nil, or_false] at hv
  rcases hv with rfl | rfl <;> rfl
theorem ones_sta (s : Sta) : Ones (staC s) := by
  intro v hv
  simp only [staC, setV, Array.mem_append, List.mem_toArray, List.mem_cons, List.not_mem_nil, or_false] at hv
  rcases hv with rfl | hv
  · rfl
  · simp only [List.mem_map] at hv
    first
      | (obtain ⟨i, rfl⟩ := hv; rfl)
      | (obtain ⟨i, _, rfl⟩ := hv; rfl)
theorem info83 : (Tryz.prog.info? 83).map (·.size) = some 2 := by kernel_rfl
theorem info112 : (Tryz.prog.info? 112).map (·.size) = some 17 := by kernel_rfl
theorem zero83 : (Tryz.prog.info? 83).map (·.zero) = some (some (.agg (prC ⟨(0, 0), by decide⟩))) := by kernel_rfl
theorem zero112 : (Tryz.prog.info? 112).map (·.zero) = some (some (.agg (staC (false, ⟨0, by decide⟩)))) := by kernel_rfl
theorem slot83 : (Tryz.prog.info? 83).map (fun i => (i.zero, i.size)) = some (some (.agg (prC ⟨(0, 0), by decide⟩)), 2) := by kernel_rfl
theorem slot112 : (Tryz.prog.info? 112).map (fun i => (i.zero, i.size)) = some (some (.agg (staC (false, ⟨0, by decide⟩))), 17) := by kernel_rfl
theorem elem_sta : ElemOk Tryz.prog 113 112 17 136 where
  under := Tryz.underlying113
  info := by
    obtain ⟨i, h1, h2, h3, h4⟩ := info_parts (P := Tryz.prog) (e := 112) (z := .agg (staC (false, ⟨0, by decide⟩))) (size := 17) (bytes := 136) (by kernel_rfl)
    exact ⟨i, _, h1, h2, h3, h4, by rw [Value.cells]; exact staC_size _⟩
  pos := by decide
  small := by decide

theorem NextOk.mono {K : Type} {κ : Kind K} {f : FuncId} {caps : Array Value} {N M : Nat} {X : Nat → Prop} {Inv : World → Prop} {U : K → Prop} {succ : K → List K} (h : NextOk κ f caps N X Inv U succ) (hM : N ≤ M) : NextOk κ f caps M X Inv U succ where
  enters := h.enters
  keep := fun a b i c => h.keep a b i (c.mono fun _ _ e => Nat.le_trans hM e)
  below := fun k e => Nat.lt_of_lt_of_le (h.below k e) hM
  call := fun k w u i s => (h.call k w u i (Nat.le_trans hM s)).mono fun _e _w' ⟨v, h1, h2, h3, h4⟩ => ⟨v, h1, h2, fun h0 g hg => (h3 h0 g hg).imp (fun x => ⟨Nat.lt_of_lt_of_le x.1 hM, x.2⟩) id, h4⟩
  univ := h.univ
theorem TourW.lower {K : Type} {κ : Kind K} {w : World} {N M : Nat} {vK vN vF : Value} {ks : List K} {rows : List (List Nat)} {fr : List (Nat × Nat)} (h : TourW κ w M vK vN vF ks rows fr) (hM : N ≤ M) : TourW κ w N vK vN vF ks rows fr := by
  obtain ⟨h1, ⟨us, h2, h3, h4⟩, h5⟩ := h
  exact ⟨h1.lower hM, ⟨us, h2.lower hM, h3, fun i u r hu hr => ⟨(h4 i u r hu hr).1, fun g hg => Nat.le_trans hM ((h4 i u r hu hr).2 g hg)⟩⟩, h5.lower hM⟩
theorem TravelPost.lower {K : Type} [DecidableEq K] {κ : Kind K} {N M : Nat} {X : Nat → Prop} {Inv : World → Prop} {succ : K → List K} {first : K} {most : Nat} {w0 w : World} {e : Ending} {w' : World} (h : TravelPost κ M X Inv succ first most w e w') (hM : N ≤ M) (c : Chg X w0 w) : TravelPost κ N X Inv succ first most w0 e w' := by
  obtain ⟨h1, h2, h3⟩ := h
  refine ⟨h1, c.trans h2, h3.imp ?_ id⟩
  rintro ⟨i, vK, vN, vF, a1, a2, a3, a4⟩
  exact ⟨i, vK, vN, vF, a1, a2, a3, a4.lower hM⟩
end Go.Proofs.YtngpjagpeblbjaaGreatDoor
namespace Go.Tour

section
variable {K L : Type} [DecidableEq K] [DecidableEq L]

/-! ### other names -/
section
variable {succ : K → List K} {succ' : L → List L} {first : K} {φ : K → L} {U : K → Prop}
theorem idxOf_map_on {φ : K → L} : ∀ (ks : List K) (k : K), (∀ a ∈ ks, φ a = φ k → a = k) → (ks.map φ).idxOf (φ k) = ks.idxOf k
  | [], _, _ => rfl
  | a :: ks, k, h => by
    simp only [List.map_cons, List.idxOf_cons]
    by_cases e : a = k
    · subst e; simp
    · have e' : φ a ≠ φ k := fun x => e (h a (by simp) x)
      have e1 : (a == k) = false := by simpa using e
      have e2 : (φ a == φ k) = false := by simpa using e'
      rw [e1, e2]
      simp only [cond_false]
      rw [idxOf_map_on ks k (fun b hb => h b (by simp [hb]))]
theorem vis1_map (hi : ∀ a b, U a → U b → φ a = φ b → a = b) (r : Nat) {s : St K} (hs : ∀ k ∈ s.keys, U k) {k : K} (hk : U k) (j : Nat) :
    vis1 r ⟨s.keys.map φ, s.from_, s.goes⟩ (φ k) j = ⟨(vis1 r s k j).keys.map φ, (vis1 r s k j).from_, (vis1 r s k j).goes⟩ := by
  have hm : φ k ∈ s.keys.map φ ↔ k ∈ s.keys := by
    simp only [List.mem_map]
    exact ⟨fun ⟨a, ha, e⟩ => hi a k (hs a ha) hk e ▸ ha, fun h => ⟨k, h, rfl⟩⟩
  unfold vis1
  by_cases h : k ∈ s.keys
  · rw [if_pos h, if_pos (hm.2 h)]
    simp only
    rw [idxOf_map_on s.keys k (fun a ha e => hi a k (hs a ha) hk e)]
  · rw [if_neg h, if_neg (fun e => h (hm.1 e))]
    simp
theorem vis1_univ (r : Nat) {s : St K} (hs : ∀ k ∈ s.keys, U k) {k : K} (hk : U k) (j : Nat) : ∀ a ∈ (vis1 r s k j).keys, U a := by
  unfold vis1
  split
  · exact hs
  · intro a ha
    simp only [List.mem_append, List.mem_singleton] at ha
    rcases ha with ha | rfl
    · exact hs a ha
    · exact hk
theorem visN_univ (r : Nat) {s : St K} (hs : ∀ k ∈ s.keys, U k) {l : List K} (hl : ∀ k ∈ l, U k) : ∀ j, ∀ a ∈ (visN r s l j).keys, U a
  | 0 => hs
  | j + 1 => by
    unfold visN
    split
    · rename_i k hk
      exact vis1_univ r (visN_univ r hs hl j) (hl k (List.mem_of_getElem? hk)) j
    · exact visN_univ r hs hl j
theorem visN_map (hi : ∀ a b, U a → U b → φ a = φ b → a = b) (r : Nat) {s : St K} (hs : ∀ k ∈ s.keys, U k) {l : List K} (hl : ∀ k ∈ l, U k) : ∀ j,
    visN r ⟨s.keys.map φ, s.from_, s.goes⟩ (l.map φ) j = ⟨(visN r s l j).keys.map φ, (visN r s l j).from_, (visN r s l j).goes⟩
  | 0 => rfl
  | j + 1 => by
    have ih := visN_map hi r hs hl j
    cases h : l[j]? with
    | none => simp only [visN, List.getElem?_map, h, Option.map_none, ih]
    | some k =>
      simp only [visN, List.getElem?_map, h, Option.map_some, ih]
      exact vis1_map hi r (visN_univ r hs hl j) (hl k (List.mem_of_getElem? h)) j
theorem tourN_univ (hf : U first) (hc : ∀ k, U k → ∀ x ∈ succ k, U x) : ∀ i, ∀ k ∈ (tourN succ first i).keys, U k
  | 0 => by simp [tourN, hf]
  | i + 1 => by
    cases h : (tourN succ first i).keys[i]? with
    | none => rw [tourN_stop (List.getElem?_eq_none_iff.1 h)]; exact tourN_univ hf hc i
    | some k =>
      rw [tourN_succ h]
      exact visN_univ i (s := ⟨(tourN succ first i).keys, (tourN succ first i).from_, []⟩) (tourN_univ hf hc i) (hc k (tourN_univ hf hc i k (List.mem_of_getElem? h))) _
theorem tourN_map (hf : U first) (hc : ∀ k, U k → ∀ x ∈ succ k, U x) (hi : ∀ a b, U a → U b → φ a = φ b → a = b) (hs : ∀ k, U k → succ' (φ k) = (succ k).map φ) : ∀ i,
    tourN succ' (φ first) i = ⟨(tourN succ first i).keys.map φ, (tourN succ first i).next, (tourN succ first i).from_⟩
  | 0 => rfl
  | i + 1 => by
    have ih := tourN_map hf hc hi hs i
    have hu := tourN_univ hf hc i
    cases h : (tourN succ first i).keys[i]? with
    | none => simp only [tourN, ih, List.getElem?_map, h, Option.map_none]
    | some k =>
      have hk := hu k (List.mem_of_getElem? h)
      have hv := visN_map hi i (s := ⟨(tourN succ first i).keys, (tourN succ first i).from_, []⟩) hu (hc k hk) (succ k).length
      simp only [tourN, ih, List.getElem?_map, h, Option.map_some, rowOf, hs k hk, List.length_map, hv]
end

/-! ### where the rows lead -/
section
variable {succ : K → List K} {first : K} {r i j : Nat} {s : St K} {l : List K} {k : K}
theorem idxOf_prefix {a b : List K} (h : a <+: b) {k : K} (hk : k ∈ a) : b.idxOf k = a.idxOf k := by
  obtain ⟨t, rfl⟩ := h
  rw [List.idxOf_append, if_pos hk]
theorem vis1_mem (r : Nat) (s : St K) (k : K) (j : Nat) : k ∈ (vis1 r s k j).keys := by
  unfold vis1
  split
  · assumption
  · simp
theorem vis1_goes (r : Nat) (s : St K) (k : K) (j : Nat) : (vis1 r s k j).goes = s.goes ++ [(vis1 r s k j).keys.idxOf k] := by
  unfold vis1
  split
  · rfl
  · rename_i h
    simp only [List.idxOf_append, if_neg h]
    simp
theorem visN_goes (r : Nat) (s : St K) (l : List K) : ∀ j, j ≤ l.length → (∀ x ∈ l.take j, x ∈ (visN r s l j).keys) ∧ (visN r s l j).goes = s.goes ++ (l.take j).map (visN r s l j).keys.idxOf
  | 0, _ => by simp [visN]
  | j + 1, h => by
    obtain ⟨h1, h2⟩ := visN_goes r s l j (by omega)
    have hk : l[j]? = some l[j] := List.getElem?_eq_getElem (by omega)
    have ht : l.take (j + 1) = l.take j ++ [l[j]] := by rw [List.take_succ_eq_append_getElem (by omega)]
    rw [visN_succ hk, ht]
    have hp := vis1_pre r (visN r s l j) l[j] j
    refine ⟨fun x hx => ?_, ?_⟩
    · rw [List.mem_append] at hx
      rcases hx with hx | hx
      · exact hp.subset (h1 x hx)
      · rw [List.mem_singleton] at hx; subst hx; exact vis1_mem _ _ _ _
    · rw [vis1_goes, h2, List.map_append, List.append_assoc]
      congr 2
      refine List.map_congr_left fun x hx => ?_
      exact (idxOf_prefix hp (h1 x hx)).symm
theorem tourN_next_at {succ : K → List K} {first : K} : ∀ {i : Nat}, i ≤ (tourN succ first i).keys.length → ∀ {n : Nat} {k : K}, n < i → (tourN succ first i).keys[n]? = some k →
    (∀ x ∈ succ k, x ∈ (tourN succ first i).keys) ∧ (tourN succ first i).next[n]? = some ((succ k).map (tourN succ first i).keys.idxOf)
  | 0, _, n, _, h, _ => by omega
  | i + 1, hi, n, k, h, hk => by
    have hpre := tourN_pre1 succ first i
    cases hq : (tourN succ first i).keys[i]? with
    | none =>
      have h0 := List.getElem?_eq_none_iff.1 hq
      rw [tourN_stop h0] at hi; omega
    | some q =>
      have hlt := (List.getElem?_eq_some_iff.1 hq).1
      have hnl := tourN_next_len succ first i (by omega)
      by_cases e : n = i
      · subst e
        have hq' : (tourN succ first (n + 1)).keys[n]? = some q := by
          obtain ⟨t, ht⟩ := hpre
          rw [← ht, List.getElem?_append_left hlt]; exact hq
        obtain rfl : q = k := by rw [hq'] at hk; simpa using hk
        have hv := visN_goes n ⟨(tourN succ first n).keys, (tourN succ first n).from_, []⟩ (succ q) (succ q).length (Nat.le_refl _)
        rw [List.take_length] at hv
        rw [tourN_succ hq]
        refine ⟨hv.1, ?_⟩
        rw [List.getElem?_append_right (by omega), hnl, Nat.sub_self]
        simp only [List.getElem?_cons_zero, rowOf]
        rw [hv.2]
        rfl
      · have hk' : (tourN succ first i).keys[n]? = some k := by
          obtain ⟨t, ht⟩ := hpre
          rw [← ht, List.getElem?_append_left (by omega)] at hk; exact hk
        obtain ⟨h1, h2⟩ := tourN_next_at (i := i) (by omega) (n := n) (by omega) hk'
        refine ⟨fun x hx => hpre.subset (h1 x hx), ?_⟩
        have : (tourN succ first (i + 1)).next[n]? = (tourN succ first i).next[n]? := by
          rw [tourN_succ hq]
          simp only
          rw [List.getElem?_append_left (by omega)]
        rw [this, h2]
        congr 1
        refine List.map_congr_left fun x hx => ?_
        exact (idxOf_prefix hpre (h1 x hx)).symm
theorem tourN_first (succ : K → List K) (first : K) (i : Nat) : (tourN succ first i).keys[0]? = some first := by
  obtain ⟨t, ht⟩ := tourN_pre succ first (Nat.zero_le i)
  rw [← ht]; rfl
end
end
end Go.Tour
