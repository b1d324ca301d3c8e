/-
  What travel has in memory, and what becomes of it, step by step.
  What becomes of what travel has: a row of numbers, the last steps, where a state goes, the queue.
  A call of a function value whose number is not told. No program is named here.
  What travel asks of the function that tells where a state goes, and what it answers.
  What travel holds to from round to round.
-/
import Derived.Test.YtngpjagpeblbjaaGreatDoorP12
import Derived.Test.YtngpjagpeblbjaaGreatDoorP08
import Derived.Test.YtngpjagpeblbjaaGreatDoorP01
namespace Go.Proofs.YtngpjagpeblbjaaGreatDoor
open Go.RowKit Go.Spy Go.Heaped Go.Tour
structure Kind (K : Type) where
 enc : K → Value
 cel : K → Array Value
 tT : TypeId
 eT : TypeId
 s : Nat
structure KindOk {K : Type} (κ : Kind K) : Prop where
 t1 : κ.tT ≠ κ.eT
 t2 : κ.tT ≠ 46 ∧ κ.tT ≠ 160 ∧ κ.tT ≠ 166 ∧ κ.tT ≠ 200 ∧ κ.tT ≠ 194 ∧ κ.tT ≠ 83 ∧ κ.tT ≠ 3
 e1 : κ.eT ≠ 46 ∧ κ.eT ≠ 160 ∧ κ.eT ≠ 166
 size : ∀ k, (κ.cel k).size = κ.s
def natA (n : Nat) : Array Value := #[.int .i64 n]
def slV : Value → Value
 | .slice a n c => .slice a n c
 | _ => .slice none 0 0
def oneA (v : Value) : Array Value := #[slV v]
def stepA (p : Nat × Nat) : Array Value := #[.int .i64 p.1, .int .i64 p.2]
def numV (n : Nat) : Value := .int .i64 n
structure TrW {K : Type} [DecidableEq K] (κ : Kind K) (w : World) (N : Nat) (X : Nat → Prop) (bT bM q bq : Nat) (vK vN vF vG : Value) (Sq : Nat → Prop) (ms ks : List K) (us : List Value) (fr : List (Nat × Nat)) (gs : List Nat) (a n : Nat) : Prop where
 blk : Blk w bT κ.tT #[vK, vN, vF]
 keys : OwnR w N κ.eT κ.s κ.cel vK ks
 next : OwnR w N 46 1 oneA vN us
 from_ : OwnR w N 160 2 stepA vF fr
 goes : OwnR w N 3 1 natA vG gs
 map : MapB w bM κ.enc (entries numV 0 ms)
 que : QR w bq q bq a n Sq
 hT : N ≤ bT
 hM : N ≤ bM
 hq : N ≤ bq
 hSq : ∀ k, Sq k → N ≤ k
 hX : ∀ k, X k → k < N
 dKG : ∀ g, vK.ownBlock = some g → vG.ownBlock ≠ some g
 dKq : ∀ g, vK.ownBlock = some g → ¬ Sq g
def TS (X : Nat → Prop) (bT bM : Nat) (vK vN vF vG : Value) (Sq : Nat → Prop) (k : Nat) : Prop :=
 X k ∨ k = bT ∨ k = bM ∨ vK.ownBlock = some k ∨ vN.ownBlock = some k ∨ vF.ownBlock = some k ∨ vG.ownBlock = some k ∨ Sq k
def Rest (P : World → Prop) (S : Nat → Prop) (w : World) : Prop := ∀ S' w', Moved S S' w w' → P w'
theorem Rest.out {P : World → Prop} {S : Nat → Prop} {w : World} (h : Rest P S w) : P w := h S w (Moved.refl S w)
theorem Rest.moved {P : World → Prop} {S S' : Nat → Prop} {w w' : World} (h : Rest P S w) (m : Moved S S' w w') : Rest P S' w' := fun S'' w'' k => h S'' w'' (m.trans k)
theorem own_block {w : World} {base : Nat} {e : TypeId} {s : Nat} {α : Type} {f : α → Array Value} {v : Value} {l : List α} (h : OwnR w base e s f v l) {g : Nat} (hg : v.ownBlock = some g) : ∃ cur, Blk w g e cur := own_type h hg
theorem QR.bo_type {w : World} {base q bo a n : Nat} {S : Nat → Prop} (h : QR w base q bo a n S) : Blk w bo 166 #[.func (.func 103) #[] #[]] := by
 obtain ⟨d, m, ⟨vI, vS, sw, hp, _, rfl⟩, _⟩ := h
 exact hp.ord
theorem QR.not_map {κ : Type} {w : World} {base q bo a n b : Nat} {S : Nat → Prop} (h : QR w base q bo a n S) {enc : κ → Value} {ls : List (κ × Value)} (hM : MapB w b enc ls) : ¬ S b := by
 obtain ⟨d, m, ⟨vI, vS, sw, hp, _, rfl⟩, _⟩ := h
 rintro (rfl | e | e)
 ·exact blk_map_ne hp.blk hM rfl
 ·obtain ⟨_, hc⟩ := own_type hp.items e; exact blk_map_ne hc hM rfl
 ·obtain ⟨_, hc⟩ := own_type hp.swaps e; exact blk_map_ne hc hM rfl
section
variable {K : Type} [DecidableEq K] {κ : Kind K} {w w' : World} {N : Nat} {X : Nat → Prop} {bT bM q bq : Nat} {vK vN vF vG : Value} {Sq : Nat → Prop} {ms ks : List K} {us : List Value} {fr : List (Nat × Nat)} {gs : List Nat} {a n : Nat}
theorem TrW.lt (h : TrW κ w N X bT bM q bq vK vN vF vG Sq ms ks us fr gs a n) (hN : N ≤ w.heap.size) : ∀ k, TS X bT bM vK vN vF vG Sq k → k < w.heap.size := by
 rintro k (e | rfl | rfl | e | e | e | e | e)
 ·have := h.hX k e; omega
 ·exact h.blk.lt
 ·exact h.map.lt
 ·exact (h.keys.lt k e).2
 ·exact (h.next.lt k e).2
 ·exact (h.from_.lt k e).2
 ·exact (h.goes.lt k e).2
 ·exact h.que.lt k e
theorem TrW.kept (h : TrW κ w N X bT bM q bq vK vN vF vG Sq ms ks us fr gs a n) {S2 : Nat → Prop} (c : Chg S2 w w') (hS : ∀ k, S2 k → k < N) : TrW κ w' N X bT bM q bq vK vN vF vG Sq ms ks us fr gs a n where
 blk := h.blk.chg c (fun e => by have := hS _ e; have := h.hT; omega)
 keys := h.keys.chg c (fun k e e' => by have := hS _ e'; have := (h.keys.lt k e).1; omega)
 next := h.next.chg c (fun k e e' => by have := hS _ e'; have := (h.next.lt k e).1; omega)
 from_ := h.from_.chg c (fun k e e' => by have := hS _ e'; have := (h.from_.lt k e).1; omega)
 goes := h.goes.chg c (fun k e e' => by have := hS _ e'; have := (h.goes.lt k e).1; omega)
 map := h.map.chg c (fun e => by have := hS _ e; have := h.hM; omega)
 que := h.que.kept c (fun k e e' => by have := hS _ e'; have := h.hSq k e; omega) (fun e => by have := hS _ e; have := h.hq; omega)
 hT := h.hT
 hM := h.hM
 hq := h.hq
 hSq := h.hSq
 hX := h.hX
 dKG := h.dKG
 dKq := h.dKq
theorem TrW.ext (h : TrW κ w N X bT bM q bq vK vN vF vG Sq ms ks us fr gs a n) (e : Ext w w') : TrW κ w' N X bT bM q bq vK vN vF vG Sq ms ks us fr gs a n :=
 h.kept (S2 := fun _ => False) (Chg.of_ext e) (fun _ x => x.elim)
theorem TrW.put (h : TrW κ w N X bT bM q bq vK vN vF vG Sq ms ks us fr gs a n) {k : K} (hk : k ∉ ms) (hM : MapB w' bM κ.enc (aput (entries numV 0 ms) k (numV ms.length))) (hg : w.grownBy w' (some bM)) :
 TrW κ w' N X bT bM q bq vK vN vF vG Sq (ms ++ [k]) ks us fr gs a n ∧ Moved (TS X bT bM vK vN vF vG Sq) (TS X bT bM vK vN vF vG Sq) w w' := by
 have c : Chg (fun k => k = bM) w w' := (Chg.refl _ w).grown hg (fun k e => by simpa using e.symm)
 have hne : ∀ (l : List K) (i : Nat), k ∉ l → alook (entries numV i l) k = none := by
  intro l
  induction l with
  | nil => intro i _; rfl
  | cons x l ih =>
    intro i hx
    simp only [List.mem_cons, not_or] at hx
    simp [entries, alook, hx.1, ih (i + 1) hx.2]
 refine ⟨⟨h.blk.chg c (fun e => blk_map_ne h.blk h.map e), h.keys.chg c (fun g e e' => ?_), h.next.chg c (fun g e e' => ?_), h.from_.chg c (fun g e e' => ?_), h.goes.chg c (fun g e e' => ?_), ?_, h.que.kept c (fun k e e' => h.que.not_map h.map (e' ▸ e)) (fun e => blk_map_ne h.que.bo_type h.map e), h.hT, h.hM, h.hq, h.hSq, h.hX, h.dKG, h.dKq⟩, c.mono fun k _ e => .inr (.inr (.inl e)), fun k e => .inl e⟩
 ·obtain ⟨_, hb⟩ := own_block h.keys e; exact blk_map_ne hb h.map e'
 ·obtain ⟨_, hb⟩ := own_block h.next e; exact blk_map_ne hb h.map e'
 ·obtain ⟨_, hb⟩ := own_block h.from_ e; exact blk_map_ne hb h.map e'
 ·obtain ⟨_, hb⟩ := own_block h.goes e; exact blk_map_ne hb h.map e'
 ·rw [aput_push (hne ms 0 hk)] at hM
  rw [entries_snoc, Nat.zero_add]
  exact hM
theorem ne_of_blk {w : World} {a b : Nat} {s t : TypeId} {xs ys : Array Value} (h : Blk w a s xs) (k : Blk w b t ys) (hst : s ≠ t) : a ≠ b := Go.Spy.blk_ne h k hst
theorem TrW.app (O : KindOk κ) (h : TrW κ w N X bT bM q bq vK vN vF vG Sq ms ks us fr gs a n) (_hN : N ≤ w.heap.size) {k : K} {w4 : World} {g c : Nat} {v' : Value} (hv : v' = .slice (some ⟨g, 0, none⟩) (ks.length + 1) c) (ho : OwnR w4 N κ.eT κ.s κ.cel v' (ks ++ [k]))
 (hg : w.grownBy w4 vK.ownBlock) (hl : vK.ownBlock = some g ∨ w.heap.size ≤ g) :
 Blk w4 bT κ.tT #[vK, vN, vF] ∧ TrW κ (w4.setCell ⟨bT, 0, none⟩ v') N X bT bM q bq v' vN vF vG Sq ms (ks ++ [k]) us fr gs a n ∧ Moved (TS X bT bM vK vN vF vG Sq) (TS X bT bM v' vN vF vG Sq) w (w4.setCell ⟨bT, 0, none⟩ v') := by
 have hvo : v'.ownBlock = some g := by rw [hv]; rfl
 have c4 : Chg (fun j => vK.ownBlock = some j) w w4 := (Chg.refl _ w).grown hg (fun _ e => e)
 have c5 : Chg (fun j => vK.ownBlock = some j ∨ j = bT) w (w4.setCell ⟨bT, 0, none⟩ v') := (c4.mono fun _ _ e => .inl e).setCell (.inr rfl) _
 have kT : vK.ownBlock ≠ some bT := fun e => by obtain ⟨_, hb⟩ := own_block h.keys e; exact ne_of_blk h.blk hb O.t1 rfl
 have nT : vN.ownBlock ≠ some bT := fun e => by obtain ⟨_, hb⟩ := own_block h.next e; exact ne_of_blk h.blk hb O.t2.1 rfl
 have fT : vF.ownBlock ≠ some bT := fun e => by obtain ⟨_, hb⟩ := own_block h.from_ e; exact ne_of_blk h.blk hb O.t2.2.1 rfl
 have gT : vG.ownBlock ≠ some bT := fun e => by obtain ⟨_, hb⟩ := own_block h.goes e; exact ne_of_blk h.blk hb O.t2.2.2.2.2.2.2 rfl
 have nK : ∀ j, vN.ownBlock = some j → vK.ownBlock ≠ some j := fun j e e' => by obtain ⟨_, hb⟩ := own_block h.next e; obtain ⟨_, hc⟩ := own_block h.keys e'; exact ne_of_blk hc hb O.e1.1 rfl
 have fK : ∀ j, vF.ownBlock = some j → vK.ownBlock ≠ some j := fun j e e' => by obtain ⟨_, hb⟩ := own_block h.from_ e; obtain ⟨_, hc⟩ := own_block h.keys e'; exact ne_of_blk hc hb O.e1.2.1 rfl
 have kM : vK.ownBlock ≠ some bM := fun e => by obtain ⟨_, hb⟩ := own_block h.keys e; exact blk_map_ne hb h.map rfl
 have kB : vK.ownBlock ≠ some bq := fun e => by obtain ⟨_, hb⟩ := own_block h.keys e; exact ne_of_blk hb h.que.bo_type O.e1.2.2 rfl
 have hgT : g ≠ bT := by
  rcases hl with e | e
  ·rintro rfl; exact kT e
  ·have := h.blk.lt; omega
 refine ⟨h.blk.chg c4 kT, ⟨(h.blk.chg c4 kT).set 0 _, ?_, h.next.chg c5 ?_, h.from_.chg c5 ?_, h.goes.chg c5 ?_, h.map.chg c5 ?_, h.que.kept c5 ?_ ?_, h.hT, h.hM, h.hq, h.hSq, h.hX, ?_, ?_⟩, c5.mono ?_, ?_⟩
 ·exact ho.chg (S := fun j => j = bT) ((Chg.refl _ _).setCell (by rfl) _) (fun j e e' => by rw [hvo] at e; simp at e; omega)
 ·rintro j e (e' | rfl)
  ·exact nK j e e'
  ·exact nT e
 ·rintro j e (e' | rfl)
  ·exact fK j e e'
  ·exact fT e
 ·rintro j e (e' | rfl)
  ·exact h.dKG j e' e
  ·exact gT e
 ·rintro (e | e)
  ·exact kM e
  ·exact blk_map_ne h.blk h.map e.symm
 ·rintro j e (e' | rfl)
  ·exact h.dKq j e' e
  ·exact h.que.not_type h.blk O.t2.2.2.2.1 O.t2.2.2.2.2.1 O.t2.2.2.2.2.2.1 e
 ·rintro (e | e)
  ·exact kB e
  ·exact ne_of_blk h.blk h.que.bo_type O.t2.2.2.1 e.symm
 ·intro j e
  rw [hvo] at e
  obtain rfl : g = j := by simpa using e
  rcases hl with e' | e'
  ·exact h.dKG g e'
  ·intro e2; have := (h.goes.lt g e2).2; omega
 ·intro j e
  rw [hvo] at e
  obtain rfl : g = j := by simpa using e
  rcases hl with e' | e'
  ·exact h.dKq g e'
  ·intro e2; have := h.que.lt g e2; omega
 ·rintro j _ (e | e)
  ·exact .inr (.inr (.inr (.inl e)))
  ·exact .inr (.inl e)
 ·rintro j (e | e | e | e | e | e | e | e)
  ·exact .inl (.inl e)
  ·exact .inl (.inr (.inl e))
  ·exact .inl (.inr (.inr (.inl e)))
  ·rw [hvo] at e
   obtain rfl : g = j := by simpa using e
   rcases hl with e' | e'
   ·exact .inl (.inr (.inr (.inr (.inl e'))))
   ·exact .inr e'
  ·exact .inl (.inr (.inr (.inr (.inr (.inl e)))))
  ·exact .inl (.inr (.inr (.inr (.inr (.inr (.inl e))))))
  ·exact .inl (.inr (.inr (.inr (.inr (.inr (.inr (.inl e)))))))
  ·exact .inl (.inr (.inr (.inr (.inr (.inr (.inr (.inr e)))))))
end
end Go.Proofs.YtngpjagpeblbjaaGreatDoor
namespace Go.Proofs.YtngpjagpeblbjaaGreatDoor
open Go.RowKit Go.Spy Go.Heaped Go.Tour
section
variable {K : Type} [DecidableEq K] {κ : Kind K} {w w' : World} {N : Nat} {X : Nat → Prop} {bT bM q bq : Nat} {vK vN vF vG : Value} {Sq : Nat → Prop} {ms ks : List K} {us : List Value} {fr : List (Nat × Nat)} {gs : List Nat} {a n : Nat}
theorem TrW.row (O : KindOk κ) (h : TrW κ w N X bT bM q bq vK vN vF vG Sq ms ks us fr gs a n) {u : Value} {w4 : World} {g c : Nat} {v' : Value} (hv : v' = .slice (some ⟨g, 0, none⟩) (us.length + 1) c) (ho : OwnR w4 N 46 1 oneA v' (us ++ [u]))
 (hg : w.grownBy w4 vN.ownBlock) (hl : vN.ownBlock = some g ∨ w.heap.size ≤ g) :
 Blk w4 bT κ.tT #[vK, vN, vF] ∧ TrW κ (w4.setCell ⟨bT, 1, none⟩ v') N X bT bM q bq vK v' vF vG Sq ms ks (us ++ [u]) fr gs a n ∧ Moved (TS X bT bM vK vN vF vG Sq) (TS X bT bM vK v' vF vG Sq) w (w4.setCell ⟨bT, 1, none⟩ v') := by
 have hvo : v'.ownBlock = some g := by rw [hv]; rfl
 have c4 : Chg (fun j => vN.ownBlock = some j) w w4 := (Chg.refl _ w).grown hg (fun _ e => e)
 have c5 : Chg (fun j => vN.ownBlock = some j ∨ j = bT) w (w4.setCell ⟨bT, 1, none⟩ v') := (c4.mono fun _ _ e => .inl e).setCell (.inr rfl) _
 have kT : vK.ownBlock ≠ some bT := fun e => by obtain ⟨_, hb⟩ := own_block h.keys e; exact ne_of_blk h.blk hb O.t1 rfl
 have nT : vN.ownBlock ≠ some bT := fun e => by obtain ⟨_, hb⟩ := own_block h.next e; exact ne_of_blk h.blk hb O.t2.1 rfl
 have fT : vF.ownBlock ≠ some bT := fun e => by obtain ⟨_, hb⟩ := own_block h.from_ e; exact ne_of_blk h.blk hb O.t2.2.1 rfl
 have gT : vG.ownBlock ≠ some bT := fun e => by obtain ⟨_, hb⟩ := own_block h.goes e; exact ne_of_blk h.blk hb O.t2.2.2.2.2.2.2 rfl
 have kN : ∀ j, vK.ownBlock = some j → vN.ownBlock ≠ some j := fun j e e' => by obtain ⟨_, hb⟩ := own_block h.keys e; obtain ⟨_, hc⟩ := own_block h.next e'; exact ne_of_blk hb hc O.e1.1 rfl
 have fN : ∀ j, vF.ownBlock = some j → vN.ownBlock ≠ some j := fun j e e' => by obtain ⟨_, hb⟩ := own_block h.from_ e; obtain ⟨_, hc⟩ := own_block h.next e'; exact ne_of_blk hb hc (by decide) rfl
 have gN : ∀ j, vG.ownBlock = some j → vN.ownBlock ≠ some j := fun j e e' => by obtain ⟨_, hb⟩ := own_block h.goes e; obtain ⟨_, hc⟩ := own_block h.next e'; exact ne_of_blk hb hc (by decide) rfl
 have nM : vN.ownBlock ≠ some bM := fun e => by obtain ⟨_, hb⟩ := own_block h.next e; exact blk_map_ne hb h.map rfl
 have nB : vN.ownBlock ≠ some bq := fun e => by obtain ⟨_, hb⟩ := own_block h.next e; exact ne_of_blk hb h.que.bo_type (by decide) rfl
 have nQ : ∀ j, vN.ownBlock = some j → ¬ Sq j := fun j e e' => by obtain ⟨_, hb⟩ := own_block h.next e; exact h.que.not_type hb (by decide) (by decide) (by decide) e'
 have hgT : g ≠ bT := by
  rcases hl with e | e
  ·rintro rfl; exact nT e
  ·have := h.blk.lt; omega
 refine ⟨h.blk.chg c4 nT, ⟨(h.blk.chg c4 nT).set 1 _, h.keys.chg c5 ?_, ?_, h.from_.chg c5 ?_, h.goes.chg c5 ?_, h.map.chg c5 ?_, h.que.kept c5 ?_ ?_, h.hT, h.hM, h.hq, h.hSq, h.hX, h.dKG, h.dKq⟩, c5.mono ?_, ?_⟩
 ·rintro j e (e' | rfl)
  ·exact kN j e e'
  ·exact kT e
 ·exact ho.chg (S := fun j => j = bT) ((Chg.refl _ _).setCell (by rfl) _) (fun j e e' => by rw [hvo] at e; simp at e; omega)
 ·rintro j e (e' | rfl)
  ·exact fN j e e'
  ·exact fT e
 ·rintro j e (e' | rfl)
  ·exact gN j e e'
  ·exact gT e
 ·rintro (e | e)
  ·exact nM e
  ·exact blk_map_ne h.blk h.map e.symm
 ·rintro j e (e' | rfl)
  ·exact nQ j e' e
  ·exact h.que.not_type h.blk O.t2.2.2.2.1 O.t2.2.2.2.2.1 O.t2.2.2.2.2.2.1 e
 ·rintro (e | e)
  ·exact nB e
  ·exact ne_of_blk h.blk h.que.bo_type O.t2.2.2.1 e.symm
 ·rintro j _ (e | e)
  ·exact .inr (.inr (.inr (.inr (.inl e))))
  ·exact .inr (.inl e)
 ·rintro j (e | e | e | e | e | e | e | e)
  ·exact .inl (.inl e)
  ·exact .inl (.inr (.inl e))
  ·exact .inl (.inr (.inr (.inl e)))
  ·exact .inl (.inr (.inr (.inr (.inl e))))
  ·rw [hvo] at e
   obtain rfl : g = j := by simpa using e
   rcases hl with e' | e'
   ·exact .inl (.inr (.inr (.inr (.inr (.inl e')))))
   ·exact .inr e'
  ·exact .inl (.inr (.inr (.inr (.inr (.inr (.inl e))))))
  ·exact .inl (.inr (.inr (.inr (.inr (.inr (.inr (.inl e)))))))
  ·exact .inl (.inr (.inr (.inr (.inr (.inr (.inr (.inr e)))))))
theorem TrW.step (O : KindOk κ) (h : TrW κ w N X bT bM q bq vK vN vF vG Sq ms ks us fr gs a n) {u : Nat × Nat} {w4 : World} {g c : Nat} {v' : Value} (hv : v' = .slice (some ⟨g, 0, none⟩) (fr.length + 1) c) (ho : OwnR w4 N 160 2 stepA v' (fr ++ [u]))
 (hg : w.grownBy w4 vF.ownBlock) (hl : vF.ownBlock = some g ∨ w.heap.size ≤ g) :
 Blk w4 bT κ.tT #[vK, vN, vF] ∧ TrW κ (w4.setCell ⟨bT, 2, none⟩ v') N X bT bM q bq vK vN v' vG Sq ms ks us (fr ++ [u]) gs a n ∧ Moved (TS X bT bM vK vN vF vG Sq) (TS X bT bM vK vN v' vG Sq) w (w4.setCell ⟨bT, 2, none⟩ v') := by
 have hvo : v'.ownBlock = some g := by rw [hv]; rfl
 have c4 : Chg (fun j => vF.ownBlock = some j) w w4 := (Chg.refl _ w).grown hg (fun _ e => e)
 have c5 : Chg (fun j => vF.ownBlock = some j ∨ j = bT) w (w4.setCell ⟨bT, 2, none⟩ v') := (c4.mono fun _ _ e => .inl e).setCell (.inr rfl) _
 have kT : vK.ownBlock ≠ some bT := fun e => by obtain ⟨_, hb⟩ := own_block h.keys e; exact ne_of_blk h.blk hb O.t1 rfl
 have nT : vN.ownBlock ≠ some bT := fun e => by obtain ⟨_, hb⟩ := own_block h.next e; exact ne_of_blk h.blk hb O.t2.1 rfl
 have fT : vF.ownBlock ≠ some bT := fun e => by obtain ⟨_, hb⟩ := own_block h.from_ e; exact ne_of_blk h.blk hb O.t2.2.1 rfl
 have gT : vG.ownBlock ≠ some bT := fun e => by obtain ⟨_, hb⟩ := own_block h.goes e; exact ne_of_blk h.blk hb O.t2.2.2.2.2.2.2 rfl
 have kF : ∀ j, vK.ownBlock = some j → vF.ownBlock ≠ some j := fun j e e' => by obtain ⟨_, hb⟩ := own_block h.keys e; obtain ⟨_, hc⟩ := own_block h.from_ e'; exact ne_of_blk hb hc O.e1.2.1 rfl
 have nF : ∀ j, vN.ownBlock = some j → vF.ownBlock ≠ some j := fun j e e' => by obtain ⟨_, hb⟩ := own_block h.next e; obtain ⟨_, hc⟩ := own_block h.from_ e'; exact ne_of_blk hb hc (by decide) rfl
 have gF : ∀ j, vG.ownBlock = some j → vF.ownBlock ≠ some j := fun j e e' => by obtain ⟨_, hb⟩ := own_block h.goes e; obtain ⟨_, hc⟩ := own_block h.from_ e'; exact ne_of_blk hb hc (by decide) rfl
 have fM : vF.ownBlock ≠ some bM := fun e => by obtain ⟨_, hb⟩ := own_block h.from_ e; exact blk_map_ne hb h.map rfl
 have fB : vF.ownBlock ≠ some bq := fun e => by obtain ⟨_, hb⟩ := own_block h.from_ e; exact ne_of_blk hb h.que.bo_type (by decide) rfl
 have fQ : ∀ j, vF.ownBlock = some j → ¬ Sq j := fun j e e' => by obtain ⟨_, hb⟩ := own_block h.from_ e; exact h.que.not_type hb (by decide) (by decide) (by decide) e'
 have hgT : g ≠ bT := by
  rcases hl with e | e
  ·rintro rfl; exact fT e
  ·have := h.blk.lt; omega
 refine ⟨h.blk.chg c4 fT, ⟨(h.blk.chg c4 fT).set 2 _, h.keys.chg c5 ?_, h.next.chg c5 ?_, ?_, h.goes.chg c5 ?_, h.map.chg c5 ?_, h.que.kept c5 ?_ ?_, h.hT, h.hM, h.hq, h.hSq, h.hX, h.dKG, h.dKq⟩, c5.mono ?_, ?_⟩
 ·rintro j e (e' | rfl)
  ·exact kF j e e'
  ·exact kT e
 ·rintro j e (e' | rfl)
  ·exact nF j e e'
  ·exact nT e
 ·exact ho.chg (S := fun j => j = bT) ((Chg.refl _ _).setCell (by rfl) _) (fun j e e' => by rw [hvo] at e; simp at e; omega)
 ·rintro j e (e' | rfl)
  ·exact gF j e e'
  ·exact gT e
 ·rintro (e | e)
  ·exact fM e
  ·exact blk_map_ne h.blk h.map e.symm
 ·rintro j e (e' | rfl)
  ·exact fQ j e' e
  ·exact h.que.not_type h.blk O.t2.2.2.2.1 O.t2.2.2.2.2.1 O.t2.2.2.2.2.2.1 e
 ·rintro (e | e)
  ·exact fB e
  ·exact ne_of_blk h.blk h.que.bo_type O.t2.2.2.1 e.symm
 ·rintro j _ (e | e)
  ·exact .inr (.inr (.inr (.inr (.inr (.inl e)))))
  ·exact .inr (.inl e)
 ·rintro j (e | e | e | e | e | e | e | e)
  ·exact .inl (.inl e)
  ·exact .inl (.inr (.inl e))
  ·exact .inl (.inr (.inr (.inl e)))
  ·exact .inl (.inr (.inr (.inr (.inl e))))
  ·exact .inl (.inr (.inr (.inr (.inr (.inl e)))))
  ·rw [hvo] at e
   obtain rfl : g = j := by simpa using e
   rcases hl with e' | e'
   ·exact .inl (.inr (.inr (.inr (.inr (.inr (.inl e'))))))
   ·exact .inr e'
  ·exact .inl (.inr (.inr (.inr (.inr (.inr (.inr (.inl e)))))))
  ·exact .inl (.inr (.inr (.inr (.inr (.inr (.inr (.inr e)))))))
theorem TrW.num (O : KindOk κ) (h : TrW κ w N X bT bM q bq vK vN vF vG Sq ms ks us fr gs a n) {u : Nat} {w4 : World} {g c : Nat} {v' : Value} (hv : v' = .slice (some ⟨g, 0, none⟩) (gs.length + 1) c) (ho : OwnR w4 N 3 1 natA v' (gs ++ [u]))
 (hg : w.grownBy w4 vG.ownBlock) (hl : vG.ownBlock = some g ∨ w.heap.size ≤ g) :
 TrW κ w4 N X bT bM q bq vK vN vF v' Sq ms ks us fr (gs ++ [u]) a n ∧ Moved (TS X bT bM vK vN vF vG Sq) (TS X bT bM vK vN vF v' Sq) w w4 := by
 have hvo : v'.ownBlock = some g := by rw [hv]; rfl
 have c4 : Chg (fun j => vG.ownBlock = some j) w w4 := (Chg.refl _ w).grown hg (fun _ e => e)
 have gT : vG.ownBlock ≠ some bT := fun e => by obtain ⟨_, hb⟩ := own_block h.goes e; exact ne_of_blk h.blk hb O.t2.2.2.2.2.2.2 rfl
 have nG : ∀ j, vN.ownBlock = some j → vG.ownBlock ≠ some j := fun j e e' => by obtain ⟨_, hb⟩ := own_block h.next e; obtain ⟨_, hc⟩ := own_block h.goes e'; exact ne_of_blk hb hc (by decide) rfl
 have fG : ∀ j, vF.ownBlock = some j → vG.ownBlock ≠ some j := fun j e e' => by obtain ⟨_, hb⟩ := own_block h.from_ e; obtain ⟨_, hc⟩ := own_block h.goes e'; exact ne_of_blk hb hc (by decide) rfl
 have gM : vG.ownBlock ≠ some bM := fun e => by obtain ⟨_, hb⟩ := own_block h.goes e; exact blk_map_ne hb h.map rfl
 have gB : vG.ownBlock ≠ some bq := fun e => by obtain ⟨_, hb⟩ := own_block h.goes e; exact ne_of_blk hb h.que.bo_type (by decide) rfl
 have gQ : ∀ j, vG.ownBlock = some j → ¬ Sq j := fun j e e' => by obtain ⟨_, hb⟩ := own_block h.goes e; exact h.que.not_type hb (by decide) (by decide) (by decide) e'
 refine ⟨⟨h.blk.chg c4 gT, h.keys.chg c4 (fun j e => h.dKG j e), h.next.chg c4 nG, h.from_.chg c4 fG, ho, h.map.chg c4 gM, h.que.kept c4 (fun j e e' => gQ j e' e) gB, h.hT, h.hM, h.hq, h.hSq, h.hX, ?_, h.dKq⟩, c4.mono ?_, ?_⟩
 ·intro j e e2
  rw [hvo] at e2
  obtain rfl : g = j := by simpa using e2
  rcases hl with e' | e'
  ·exact h.dKG g e e'
  ·have := (h.keys.lt g e).2; omega
 ·exact fun j _ e => .inr (.inr (.inr (.inr (.inr (.inr (.inl e))))))
 ·rintro j (e | e | e | e | e | e | e | e)
  ·exact .inl (.inl e)
  ·exact .inl (.inr (.inl e))
  ·exact .inl (.inr (.inr (.inl e)))
  ·exact .inl (.inr (.inr (.inr (.inl e))))
  ·exact .inl (.inr (.inr (.inr (.inr (.inl e)))))
  ·exact .inl (.inr (.inr (.inr (.inr (.inr (.inl e))))))
  ·rw [hvo] at e
   obtain rfl : g = j := by simpa using e
   rcases hl with e' | e'
   ·exact .inl (.inr (.inr (.inr (.inr (.inr (.inr (.inl e')))))))
   ·exact .inr e'
  ·exact .inl (.inr (.inr (.inr (.inr (.inr (.inr (.inr e)))))))
theorem TrW.goes_apart (O : KindOk κ) (h : TrW κ w N X bT bM q bq vK vN vF vG Sq ms ks us fr gs a n) {g : Nat} (hg : vG.ownBlock = some g) : ¬ TS X bT bM vK vN vF (.slice none 0 0) Sq g := by
 obtain ⟨_, hb⟩ := own_block h.goes hg
 rintro (e | rfl | rfl | e | e | e | e | e)
 ·have := h.hX g e; have := (h.goes.lt g hg).1; omega
 ·exact ne_of_blk h.blk hb O.t2.2.2.2.2.2.2 rfl
 ·exact blk_map_ne hb h.map rfl
 ·exact h.dKG g e hg
 ·obtain ⟨_, hc⟩ := own_block h.next e; exact ne_of_blk hb hc (by decide) rfl
 ·obtain ⟨_, hc⟩ := own_block h.from_ e; exact ne_of_blk hb hc (by decide) rfl
 ·simp [Value.ownBlock] at e
 ·exact h.que.not_type hb (by decide) (by decide) (by decide) e
theorem TrW.fresh (h : TrW κ w N X bT bM q bq vK vN vF vG Sq ms ks us fr gs a n) :
 TrW κ w N X bT bM q bq vK vN vF (.slice none 0 0) Sq ms ks us fr [] a n ∧ Moved (TS X bT bM vK vN vF vG Sq) (TS X bT bM vK vN vF (.slice none 0 0) Sq) w w := by
 refine ⟨⟨h.blk, h.keys, h.next, h.from_, OwnR.nil _ _ _ _ _, h.map, h.que, h.hT, h.hM, h.hq, h.hSq, h.hX, fun j _ => by simp [Value.ownBlock], h.dKq⟩, Chg.refl _ _, ?_⟩
 rintro j (e | e | e | e | e | e | e | e)
 ·exact .inl (.inl e)
 ·exact .inl (.inr (.inl e))
 ·exact .inl (.inr (.inr (.inl e)))
 ·exact .inl (.inr (.inr (.inr (.inl e))))
 ·exact .inl (.inr (.inr (.inr (.inr (.inl e)))))
 ·exact .inl (.inr (.inr (.inr (.inr (.inr (.inl e))))))
 ·simp [Value.ownBlock] at e
 ·exact .inl (.inr (.inr (.inr (.inr (.inr (.inr (.inr e)))))))
theorem TrW.turn (O : KindOk κ) (h : TrW κ w N X bT bM q bq vK vN vF vG Sq ms ks us fr gs a n) (hN : N ≤ w.heap.size) {Sq' : Nat → Prop} {a' n' : Nat} (hq : QR w' bq q bq a' n' Sq') (hm : Moved Sq Sq' w w') :
 TrW κ w' N X bT bM q bq vK vN vF vG Sq' ms ks us fr gs a' n' ∧ Moved (TS X bT bM vK vN vF vG Sq) (TS X bT bM vK vN vF vG Sq') w w' := by
 have c := hm.chg
 have nQ : ∀ j, vN.ownBlock = some j → ¬ Sq j := fun j e e' => by obtain ⟨_, hb⟩ := own_block h.next e; exact h.que.not_type hb (by decide) (by decide) (by decide) e'
 have fQ : ∀ j, vF.ownBlock = some j → ¬ Sq j := fun j e e' => by obtain ⟨_, hb⟩ := own_block h.from_ e; exact h.que.not_type hb (by decide) (by decide) (by decide) e'
 have gQ : ∀ j, vG.ownBlock = some j → ¬ Sq j := fun j e e' => by obtain ⟨_, hb⟩ := own_block h.goes e; exact h.que.not_type hb (by decide) (by decide) (by decide) e'
 refine ⟨⟨h.blk.chg c (h.que.not_type h.blk O.t2.2.2.2.1 O.t2.2.2.2.2.1 O.t2.2.2.2.2.2.1), h.keys.chg c h.dKq, h.next.chg c nQ, h.from_.chg c fQ, h.goes.chg c gQ, h.map.chg c (h.que.not_map h.map), hq, h.hT, h.hM, h.hq, ?_, h.hX, h.dKG, ?_⟩, c.mono ?_, ?_⟩
 ·intro k e
  rcases hm.sub k e with e' | e'
  ·exact h.hSq k e'
  ·omega
 ·intro j e e'
  rcases hm.sub j e' with e2 | e2
  ·exact h.dKq j e e2
  ·have := (h.keys.lt j e).2; omega
 ·exact fun j _ e => .inr (.inr (.inr (.inr (.inr (.inr (.inr e))))))
 ·rintro j (e | e | e | e | e | e | e | e)
  ·exact .inl (.inl e)
  ·exact .inl (.inr (.inl e))
  ·exact .inl (.inr (.inr (.inl e)))
  ·exact .inl (.inr (.inr (.inr (.inl e))))
  ·exact .inl (.inr (.inr (.inr (.inr (.inl e)))))
  ·exact .inl (.inr (.inr (.inr (.inr (.inr (.inl e))))))
  ·exact .inl (.inr (.inr (.inr (.inr (.inr (.inr (.inl e)))))))
  ·rcases hm.sub j e with e' | e'
   ·exact .inl (.inr (.inr (.inr (.inr (.inr (.inr (.inr e')))))))
   ·exact .inr e'
theorem entries_look (l : List K) (k : K) (i : Nat) : alook (entries numV i l) k = if k ∈ l then some (numV (i + l.idxOf k)) else none := by
 induction l generalizing i with
 | nil => simp [entries, alook]
 | cons x l ih =>
   simp only [entries, alook, ih]
   by_cases hx : k = x
   ·subst hx; simp
   ·simp only [hx, if_false, List.mem_cons, false_or]
    split
    ·have e : (x :: l).idxOf k = l.idxOf k + 1 := by
      rw [List.idxOf_cons]
      have : (x == k) = false := beq_eq_false_iff_ne.2 (fun e => hx e.symm)
      simp [this]
     rw [e]
     congr 2
     omega
    ·rfl
end
end Go.Proofs.YtngpjagpeblbjaaGreatDoor
namespace Go.Spy
open Go.RowKit
def Enters (P : Program) (f : FuncId) : Prop := ∀ (args : Array Value) (w : World), (callFunc f args).run P w = .ok (.enter f args) w
theorem wpList_callv {P : Program} {ops : Array Oper} {rest : List Oper} {o : Oper} {a : Act} {w : World} {Q : Exit → Act → World → Prop} (hg : o.guard = none) (fo : Operand) (xs : Array Operand) (ts : Array TypeId)
 (ho : o.op = .call { callee := .value fo, args := xs, argTypes := ts }) {f : FuncId} {caps : Array Value} (hE : Enters P f) (hf : a.eval fo = .func (.func f) #[] caps) {args : Array Value} (hx : xs.toList.map a.eval = args.toList) {Φ : Ending → World → Prop}
 (hc : Calls P f (args ++ caps) w Φ) (h : ∀ e w', Φ e w' → ∃ v, e = .returned v ∧ wpList P ops Q rest (a.put o.dst v) w') : wpList P ops Q (o :: rest) a w := by
 have hx : xs.map a.eval = args := Array.toList_inj.1 (by simpa using hx)
 refine wpList_plain hg fun K hK => ?_
 have hrun : (execOp a.eval o).run P w = .ok (.enter f (args ++ caps)) w := by
  simp only [execOp, ho, resolve, hf, hx, Deferred.ofValue, Sem.run_bind, Sem.run_pure, Result.andThen_ok, invoke]
  simpa using hE (args ++ caps) w
 unfold Oper.wp
 rw [hrun, Oper.upon_enter]
 refine hc.mono fun e w'' hh => ?_
 obtain ⟨v, rfl, hw⟩ := h e w'' hh
 exact hK _ _ hw
end Go.Spy
namespace Go.Proofs.YtngpjagpeblbjaaGreatDoor
open Go.RowKit Go.Spy Go.Heaped Go.Tour
def ReadR {α : Type} (w : World) (s : Nat) (f : α → Array Value) (v : Value) (l : List α) : Prop :=
 ∃ ao c, v = .slice ao l.length c ∧ (l.length = 0 ∨ ∃ g off, ao = some ⟨g, off, none⟩ ∧ g < w.heap.size ∧ ∀ (j k : Nat) (x : α), l[j]? = some x → k < s → w.cell? ⟨g, off + (j * s + k), none⟩ = (f x)[k]?)
section
variable {α : Type} {w w' : World} {s : Nat} {f : α → Array Value} {v : Value} {l : List α}
theorem ReadR.chg (h : ReadR w s f v l) {S : Nat → Prop} (c : Chg S w w') (hS : ∀ g, v.ownBlock = some g → ¬ S g) : ReadR w' s f v l := by
 obtain ⟨ao, cp, rfl, h⟩ := h
 refine ⟨ao, cp, rfl, ?_⟩
 rcases h with h | ⟨g, off, rfl, hg, hc⟩
 ·exact .inl h
 ·refine .inr ⟨g, off, rfl, Nat.lt_of_lt_of_le hg c.size, fun j k x hx hk => ?_⟩
  rw [World.cell?_of_block (c.block g hg (hS g rfl))]
  exact hc j k x hx hk
theorem ReadR.ext (h : ReadR w s f v l) (e : Ext w w') : ReadR w' s f v l := h.chg (S := fun _ => False) (Chg.of_ext e) (fun _ _ x => x)
theorem OwnR.read {base : Nat} {e : TypeId} (h : OwnR w base e s f v l) (hf : ∀ x, (f x).size = s) : ReadR w s f v l := by
 obtain ⟨ao, c, rfl, hc, hx⟩ := h.cells hf
 refine ⟨ao, c, rfl, hx.imp id ?_⟩
 rintro ⟨g, rfl, _, hg, cur, hb, _, hcur⟩
 refine ⟨g, 0, rfl, hg, fun j k x hx hk => ?_⟩
 have hb' : w.heap[g]? = some (.cells cur e (0, 0)) := hb
 have := hcur j k x hx hk
 simp [World.cell?, hb', this]
theorem ReadR.rest (h : ReadR w s f v l) {S : Nat → Prop} (hS : ∀ g, v.ownBlock = some g → ¬ S g) : Rest (fun w => ReadR w s f v l) S w := fun _ _ m => h.chg m.chg hS
theorem ReadR.rest0 (h : ReadR w s f v l) {S : Nat → Prop} (hS : 0 < l.length → ∀ g, v.ownBlock = some g → ¬ S g) : Rest (fun w => ReadR w s f v l) S w := by
 rcases Nat.eq_zero_or_pos l.length with h0 | h0
 ·intro S' w' _
  obtain ⟨ao, cp, rfl, _⟩ := h
  exact ⟨ao, cp, rfl, .inl h0⟩
 ·exact h.rest (hS h0)
theorem ReadR.form (h : ReadR w s f v l) : ∃ ao c, v = .slice ao l.length c ∧ (0 < l.length → ∃ g off, ao = some ⟨g, off, none⟩) := by
 obtain ⟨ao, c, rfl, h⟩ := h
 refine ⟨ao, c, rfl, fun h0 => ?_⟩
 rcases h with h | ⟨g, off, rfl, _⟩
 ·omega
 ·exact ⟨g, off, rfl⟩
theorem ReadR.blk_lt {g off c : Nat} (h : ReadR w s f (.slice (some ⟨g, off, none⟩) l.length c) l) (h0 : 0 < l.length) : g < w.heap.size := by
 obtain ⟨ao, cp, e, h⟩ := h
 simp only [Value.slice.injEq] at e
 obtain ⟨rfl, _, _⟩ := e
 rcases h with h | ⟨g', off', e, hg, _⟩
 ·omega
 ·simp at e
  obtain ⟨rfl, rfl⟩ := e
  exact hg
theorem ReadR.cell {g off c : Nat} (h : ReadR w s f (.slice (some ⟨g, off, none⟩) l.length c) l) {j : Nat} {x : α} (hx : l[j]? = some x) {k : Nat} (hk : k < s) : w.cell? ⟨g, off + (j * s + k), none⟩ = (f x)[k]? := by
 obtain ⟨ao, cp, e, h⟩ := h
 simp only [Value.slice.injEq] at e
 obtain ⟨rfl, _, _⟩ := e
 rcases h with h | ⟨g', off', e, _, hc⟩
 ·have := (List.getElem?_eq_some_iff.1 hx).1; omega
 ·simp at e
  obtain ⟨rfl, rfl⟩ := e
  exact hc j k x hx hk
theorem Blk.rest {b : Nat} {t : TypeId} {vs : Array Value} (h : Blk w b t vs) {S : Nat → Prop} (hS : ¬ S b) : Rest (fun w => Blk w b t vs) S w := fun _ _ m => h.chg m.chg hS
end
section
variable {K : Type} [DecidableEq K] {κ : Kind K} {w w' : World} {N : Nat} {X : Nat → Prop} {bT bM q bq : Nat} {vK vN vF vG : Value} {Sq : Nat → Prop} {ms ks : List K} {us : List Value} {fr : List (Nat × Nat)} {gs : List Nat} {a n : Nat}
abbrev TO (bT bM : Nat) (vK vN vF vG : Value) (Sq : Nat → Prop) : Nat → Prop := TS (fun _ => False) bT bM vK vN vF vG Sq
abbrev TrO (κ : Kind K) (w : World) (N : Nat) (bT bM q bq : Nat) (vK vN vF vG : Value) (Sq : Nat → Prop) (ms ks : List K) (us : List Value) (fr : List (Nat × Nat)) (gs : List Nat) (a n : Nat) : Prop := TrW κ w N (fun _ => False) bT bM q bq vK vN vF vG Sq ms ks us fr gs a n
def Or2 (X S : Nat → Prop) (k : Nat) : Prop := X k ∨ S k
theorem TrW.ge (h : TrO κ w N bT bM q bq vK vN vF vG Sq ms ks us fr gs a n) : ∀ k, TO bT bM vK vN vF vG Sq k → N ≤ k := by
 rintro k (e | rfl | rfl | e | e | e | e | e)
 ·exact e.elim
 ·exact h.hT
 ·exact h.hM
 ·exact (h.keys.lt k e).1
 ·exact (h.next.lt k e).1
 ·exact (h.from_.lt k e).1
 ·exact (h.goes.lt k e).1
 ·exact h.hSq k e
theorem Moved.or {S S' : Nat → Prop} (m : Moved S S' w w') (X : Nat → Prop) : Moved (Or2 X S) (Or2 X S') w w' :=
 ⟨m.chg.mono fun _ _ e => .inr e, fun k e => e.elim (fun x => .inl (.inl x)) (fun x => (m.sub k x).elim (fun y => .inl (.inr y)) .inr)⟩
theorem moved_x (c : Chg X w w') (S : Nat → Prop) : Moved (Or2 X S) (Or2 X S) w w' := ⟨c.mono fun _ _ e => .inl e, fun _ e => .inl e⟩
theorem Moved.newer (h : TrO κ w N bT bM q bq vK vN vF vG Sq ms ks us fr gs a n) {S' : Nat → Prop} (m : Moved (TO bT bM vK vN vF vG Sq) S' w w') : Chg (fun k => N ≤ k) w w' := m.chg.mono fun k _ e => h.ge k e
theorem chg_x {w0 : World} (c : Chg X w0 w) (hN : w0.heap.size = N) (d : Chg (fun k => N ≤ k) w w') : Chg X w0 w' := chg_own2 c d (fun i e => by omega)
end
structure NextOk {K : Type} (κ : Kind K) (f : FuncId) (caps : Array Value) (N : Nat) (X : Nat → Prop) (Inv : World → Prop) (U : K → Prop) (succ : K → List K) : Prop where
 enters : Enters Tryz.prog f
 keep : ∀ a b, Inv a → Chg (fun k => N ≤ k) a b → Inv b
 below : ∀ k, X k → k < N
 call : ∀ k w, U k → Inv w → N ≤ w.heap.size → Calls Tryz.prog f (#[κ.enc k] ++ caps) w fun e w' => ∃ v, e = .returned v ∧ ReadR w' κ.s κ.cel v (succ k) ∧ (0 < (succ k).length → ∀ g, v.ownBlock = some g → (g < N ∧ ¬ X g) ∨ w.heap.size ≤ g) ∧ Inv w' ∧ Chg X w w'
 univ : ∀ k, U k → ∀ k' ∈ succ k, U k'
structure TourW {K : Type} (κ : Kind K) (w : World) (N : Nat) (vK vN vF : Value) (ks : List K) (rows : List (List Nat)) (fr : List (Nat × Nat)) : Prop where
 keys : OwnR w N κ.eT κ.s κ.cel vK ks
 next : ∃ us, OwnR w N 46 1 oneA vN us ∧ us.length = rows.length ∧ ∀ (i : Nat) (u : Value) (r : List Nat), us[i]? = some u → rows[i]? = some r → ReadR w 1 natA u r ∧ ∀ g, u.ownBlock = some g → N ≤ g
 from_ : OwnR w N 160 2 stepA vF fr
def TravelPost {K : Type} [DecidableEq K] (κ : Kind K) (N : Nat) (X : Nat → Prop) (Inv : World → Prop) (succ : K → List K) (first : K) (most : Nat) (w : World) (e : Ending) (w' : World) : Prop :=
 Inv w' ∧ Chg X w w' ∧
 ((∃ i vK vN vF, i = (tourN succ first i).keys.length ∧ i ≤ most ∧ e = .returned (.tuple #[.agg #[vK, vN, vF], .bool true]) ∧ TourW κ w' N vK vN vF (tourN succ first i).keys (tourN succ first i).next (tourN succ first i).from_) ∨
  (∃ i, most < (tourN succ first i).keys.length ∧ e = .returned (.tuple #[.agg #[.slice none 0 0, .slice none 0 0, .slice none 0 0], .bool false])))
end Go.Proofs.YtngpjagpeblbjaaGreatDoor
namespace Go.Proofs.YtngpjagpeblbjaaGreatDoor
open Go.RowKit Go.Spy Go.Heaped Go.Tour
structure EnvW (w0 : World) (N : Nat) (X : Nat → Prop) (Inv : World → Prop) (bR : Nat) (tT : TypeId) (us : List Value) (rows : List (List Nat)) (S : Nat → Prop) (wr : World) : Prop where
 inv : Inv wr
 chg : Chg X w0 wr
 len : us.length = rows.length
 rows : ∀ (j : Nat) (u : Value) (r : List Nat), us[j]? = some u → rows[j]? = some r → Rest (fun w => ReadR w 1 natA u r) (Or2 X S) wr ∧ ∀ g, u.ownBlock = some g → N ≤ g ∧ g ≠ bR
 res : Rest (fun w => Blk w bR tT #[.slice none 0 0, .slice none 0 0, .slice none 0 0]) (Or2 X S) wr
section
variable {K : Type} [DecidableEq K] {κ : Kind K} {w0 w w' : World} {N : Nat} {X : Nat → Prop} {Inv : World → Prop} {bR bT bM q bq : Nat} {tT : TypeId} {vK vN vF vG : Value} {Sq : Nat → Prop} {ms ks : List K} {us us' : List Value} {rows : List (List Nat)} {fr : List (Nat × Nat)} {gs : List Nat} {a n : Nat} {S S' : Nat → Prop}
theorem EnvW.own (h : EnvW w0 N X Inv bR tT us rows (TO bT bM vK vN vF vG Sq) w) (t : TrO κ w N bT bM q bq vK vN vF vG Sq ms ks us' fr gs a n) (hN : w0.heap.size = N) (keep : ∀ a b, Inv a → Chg (fun k => N ≤ k) a b → Inv b) (m : Moved (TO bT bM vK vN vF vG Sq) S' w w') :
 EnvW w0 N X Inv bR tT us rows S' w' where
 inv := keep _ _ h.inv (m.newer t)
 chg := chg_x h.chg hN (m.newer t)
 len := h.len
 rows := fun j u r hu hr => ⟨(h.rows j u r hu hr).1.moved (m.or X), (h.rows j u r hu hr).2⟩
 res := h.res.moved (m.or X)
theorem EnvW.next (h : EnvW w0 N X Inv bR tT us rows S w) (i : Inv w') (c : Chg X w w') : EnvW w0 N X Inv bR tT us rows S w' where
 inv := i
 chg := h.chg.trans c
 len := h.len
 rows := fun j u r hu hr => ⟨(h.rows j u r hu hr).1.moved (moved_x c S), (h.rows j u r hu hr).2⟩
 res := h.res.moved (moved_x c S)
theorem EnvW.size (h : EnvW w0 N X Inv bR tT us rows S w) (hN : w0.heap.size = N) : N ≤ w.heap.size := hN ▸ h.chg.size
theorem EnvW.add (h : EnvW w0 N X Inv bR tT us rows S w) {u : Value} {r : List Nat} (hr : Rest (fun w => ReadR w 1 natA u r) (Or2 X S) w) (hg : ∀ g, u.ownBlock = some g → N ≤ g ∧ g ≠ bR) : EnvW w0 N X Inv bR tT (us ++ [u]) (rows ++ [r]) S w where
 inv := h.inv
 chg := h.chg
 len := by simp [h.len]
 rows := fun j u' r' hu hr' => by
  rcases Nat.lt_or_ge j us.length with hj | hj
  ·rw [List.getElem?_append_left hj] at hu
   rw [List.getElem?_append_left (by rw [← h.len]; exact hj)] at hr'
   exact h.rows j u' r' hu hr'
  ·rw [List.getElem?_append_right hj] at hu
   rw [List.getElem?_append_right (by rw [← h.len]; exact hj)] at hr'
   have h0 : j - us.length = 0 := by
    have := (List.getElem?_eq_some_iff.1 hu).1
    simp at this; omega
   have h1 : j - rows.length = 0 := by rw [← h.len]; exact h0
   rw [h0] at hu
   rw [h1] at hr'
   simp at hu hr'
   subst hu; subst hr'
   exact ⟨hr, hg⟩
 res := h.res
theorem Moved.of_ext (S : Nat → Prop) (e : Ext w w') : Moved S S w w' := (Moved.refl S w).ext e
end
structure L1W {K : Type} [DecidableEq K] (κ : Kind K) (w0 : World) (X : Nat → Prop) (Inv : World → Prop) (succ : K → List K) (first : K) (most : Nat) (bR bT bM q bq : Nat) (i : Nat) (vK vN vF : Value) (Sq : Nat → Prop) (us : List Value) (wr : World) : Prop where
 tr : TrO κ wr w0.heap.size bT bM q bq vK vN vF (.slice none 0 0) Sq (tourN succ first i).keys (tourN succ first i).keys us (tourN succ first i).from_ [] i ((tourN succ first i).keys.length - i)
 le : i ≤ (tourN succ first i).keys.length
 most : (tourN succ first i).keys.length ≤ most
 env : EnvW w0 w0.heap.size X Inv bR κ.tT us (tourN succ first i).next (TO bT bM vK vN vF (.slice none 0 0) Sq) wr
structure MidW {K : Type} [DecidableEq K] (κ : Kind K) (w0 : World) (X : Nat → Prop) (Inv : World → Prop) (bR bT bM q bq bB : Nat) (vRow : Value) (rows : List (List Nat)) (i : Nat) (l : List K) (vK vN vF vG : Value) (Sq : Nat → Prop) (ms ks : List K) (us : List Value) (fr : List (Nat × Nat)) (gs : List Nat) (a n : Nat) (wr : World) : Prop where
 tr : TrO κ wr w0.heap.size bT bM q bq vK vN vF vG Sq ms ks us fr gs a n
 env : EnvW w0 w0.heap.size X Inv bR κ.tT us rows (TO bT bM vK vN vF vG Sq) wr
 row : Rest (fun w => ReadR w κ.s κ.cel vRow l) (Or2 X (TO bT bM vK vN vF vG Sq)) wr
 box : Rest (fun w => Blk w bB 165 #[.int .i64 i]) (Or2 X (TO bT bM vK vN vF vG Sq)) wr
section
variable {K : Type} [DecidableEq K] {κ : Kind K} {w0 w w' : World} {X : Nat → Prop} {Inv : World → Prop} {bR bT bM q bq bB i : Nat} {vRow : Value} {l : List K} {vK vN vF vG vK' vF' vG' : Value} {Sq Sq' : Nat → Prop} {ms ks ms' ks' : List K} {us : List Value} {rows : List (List Nat)} {fr fr' : List (Nat × Nat)} {gs gs' : List Nat} {a n a' n' : Nat}
theorem MidW.go (h : MidW κ w0 X Inv bR bT bM q bq bB vRow rows i l vK vN vF vG Sq ms ks us fr gs a n w) (keep : ∀ a b, Inv a → Chg (fun k => w0.heap.size ≤ k) a b → Inv b)
 (t : TrO κ w' w0.heap.size bT bM q bq vK' vN vF' vG' Sq' ms' ks' us fr' gs' a' n') (m : Moved (TO bT bM vK vN vF vG Sq) (TO bT bM vK' vN vF' vG' Sq') w w') :
 MidW κ w0 X Inv bR bT bM q bq bB vRow rows i l vK' vN vF' vG' Sq' ms' ks' us fr' gs' a' n' w' :=
 ⟨t, h.env.own h.tr rfl keep m, h.row.moved (m.or X), h.box.moved (m.or X)⟩
theorem MidW.ext (h : MidW κ w0 X Inv bR bT bM q bq bB vRow rows i l vK vN vF vG Sq ms ks us fr gs a n w) (keep : ∀ a b, Inv a → Chg (fun k => w0.heap.size ≤ k) a b → Inv b) (e : Ext w w') :
 MidW κ w0 X Inv bR bT bM q bq bB vRow rows i l vK vN vF vG Sq ms ks us fr gs a n w' := h.go keep (h.tr.ext e) (Moved.of_ext _ e)
theorem MidW.end_ (O : KindOk κ) (h : MidW κ w0 X Inv bR bT bM q bq bB vRow rows i l vK vN vF vG Sq ms ks us fr gs a n w) (hX : ∀ k, X k → k < w0.heap.size) (keep : ∀ a b, Inv a → Chg (fun k => w0.heap.size ≤ k) a b → Inv b)
 {vN' : Value} (t : TrO κ w' w0.heap.size bT bM q bq vK vN' vF vG Sq ms ks (us ++ [vG]) fr gs a n) (m : Moved (TO bT bM vK vN vF vG Sq) (TO bT bM vK vN' vF vG Sq) w w') :
 TrO κ w' w0.heap.size bT bM q bq vK vN' vF (.slice none 0 0) Sq ms ks (us ++ [vG]) fr [] a n ∧ EnvW w0 w0.heap.size X Inv bR κ.tT (us ++ [vG]) (rows ++ [gs]) (TO bT bM vK vN' vF (.slice none 0 0) Sq) w' := by
 have h1 := (h.env.own h.tr rfl keep m).own t rfl keep t.fresh.2
 refine ⟨t.fresh.1, h1.add ((OwnR.read t.goes (fun _ => rfl)).rest fun g hg => ?_) (fun g hg => ⟨(t.goes.lt g hg).1, fun e => by
  obtain ⟨_, hb⟩ := own_block t.goes hg
  exact ne_of_blk h1.res.out hb O.t2.2.2.2.2.2.2 e.symm⟩)⟩
 rintro (e | e)
 ·have := hX g e; have := (t.goes.lt g hg).1; omega
 ·exact t.goes_apart O hg e
end
structure L2W {K : Type} [DecidableEq K] (κ : Kind K) (w0 : World) (X : Nat → Prop) (Inv : World → Prop) (succ : K → List K) (first : K) (most : Nat) (bR bT bM q bq bB : Nat) (vRow : Value) (i : Nat) (l : List K) (j : Nat) (s : St K) (vK vN vF vG : Value) (Sq : Nat → Prop) (us : List Value) (wr : World) : Prop where
 mid : MidW κ w0 X Inv bR bT bM q bq bB vRow (tourN succ first i).next i l vK vN vF vG Sq s.keys s.keys us s.from_ s.goes (i + 1) (s.keys.length - (i + 1)) wr
 le : i + 1 ≤ s.keys.length
 most : s.keys.length ≤ most
 goes : s.goes.length = j
 from_ : s.from_.length = s.keys.length
theorem L1W.tour {K : Type} [DecidableEq K] {κ : Kind K} (O : KindOk κ) {w0 w w' : World} {X : Nat → Prop} {Inv : World → Prop} {succ : K → List K} {first : K} {most bT bM q bq i : Nat} {vK vN vF : Value} {Sq : Nat → Prop} {us : List Value}
 (h : L1W κ w0 X Inv succ first most w0.heap.size bT bM q bq i vK vN vF Sq us w) (keep : ∀ a b, Inv a → Chg (fun k => w0.heap.size ≤ k) a b → Inv b) (c : Chg (fun k => k = w0.heap.size) w w') :
 Inv w' ∧ Chg X w0 w' ∧ TourW κ w' w0.heap.size vK vN vF (tourN succ first i).keys (tourN succ first i).next (tourN succ first i).from_ := by
 have hR := h.env.res.out
 have kR : ∀ j, vK.ownBlock = some j → ¬ j = w0.heap.size := fun j e e' => by obtain ⟨_, hb⟩ := own_block h.tr.keys e; exact ne_of_blk hR hb O.t1 e'.symm
 have nR : ∀ j, vN.ownBlock = some j → ¬ j = w0.heap.size := fun j e e' => by obtain ⟨_, hb⟩ := own_block h.tr.next e; exact ne_of_blk hR hb O.t2.1 e'.symm
 have fR : ∀ j, vF.ownBlock = some j → ¬ j = w0.heap.size := fun j e e' => by obtain ⟨_, hb⟩ := own_block h.tr.from_ e; exact ne_of_blk hR hb O.t2.2.1 e'.symm
 have d : Chg (fun k => w0.heap.size ≤ k) w w' := c.mono fun k _ e => by omega
 refine ⟨keep _ _ h.env.inv d, chg_x h.env.chg rfl d, ⟨h.tr.keys.chg c kR, ⟨us, h.tr.next.chg c nR, h.env.len, fun j u r hu hr => ?_⟩, h.tr.from_.chg c fR⟩⟩
 obtain ⟨r1, r2⟩ := h.env.rows j u r hu hr
 exact ⟨r1.out.chg c fun g hg => (r2 g hg).2, fun g hg => (r2 g hg).1⟩
end Go.Proofs.YtngpjagpeblbjaaGreatDoor
