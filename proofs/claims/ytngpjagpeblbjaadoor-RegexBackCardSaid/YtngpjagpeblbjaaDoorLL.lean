/-
  Small general lemmas on the model: blocks of cells, maps with known keys, slices that read as lists. No program is named here.
  Slices of strings that read as lists. No program is named here.
  Small general lemmas on rows that a call owns (slices of structs). No program is named here.
-/
import Derived.WalkKit
import Derived.WalkSpells
import Derived.WalkLawsBesides
import Derived.Deep.LoopGhost
import Derived.Deep.DeepCutAuto
import Derived.Laws.OwnMore
namespace Go.Spy
open Go.RowKit

theorem hid {p : Prop} (h : p) : Hid p := h
/-- All blocks that were there are as they were. -/
abbrev Ext (w w' : World) : Prop := Below w.heap.size w w'
theorem ext_trans {a b c : World} (h : Ext a b) (k : Ext b c) : Ext a c := Below.trans h (k.mono h.size)
theorem below_ext {B : Nat} {a b c : World} (h : Below B a b) (k : Ext b c) (hB : B ≤ b.heap.size) : Below B a c := h.trans (k.mono hB)

theorem ret_bool {a b : Bool} (h : a = b) : Ending.returned (.bool a) = .returned (.bool b) := by rw [h]
theorem ret_int {k : IntKind} {a b : Int} (h : a = b) : Ending.returned (.int k a) = .returned (.int k b) := by rw [h]
theorem ret_str {a b : ByteArray} (h : a = b) : Ending.returned (.string a) = .returned (.string b) := by rw [h]

/-! ### bytes -/
theorem bytes_ext {a b : ByteArray} (h : a.toList = b.toList) : a = b := by
  obtain ⟨⟨x⟩⟩ := a
  obtain ⟨⟨y⟩⟩ := b
  rw [ByteArray.toList_mk, ByteArray.toList_mk] at h
  rw [h]
theorem beqB_true {a b : ByteArray} (h : a = b) : (a.toList == b.toList) = true := by simp [h]
theorem beqB_false {a b : ByteArray} (h : a ≠ b) : (a.toList == b.toList) = false := by
  rw [beq_eq_false_iff_ne]
  exact fun e => h (bytes_ext e)

/-! ### blocks of cells -/
def Blk (w : World) (b : Nat) (t : TypeId) (vs : Array Value) : Prop := w.heap[b]? = some (.cells vs t (0, 0))

section
variable {w w' : World} {b : Nat} {t : TypeId} {vs : Array Value}
theorem Blk.cell (h : Blk w b t vs) {i : Nat} {v : Value} (hv : vs[i]? = some v) : w.cell? ⟨b, i, none⟩ = some v := by
  have h' : w.heap[b]? = some (.cells vs t (0, 0)) := h
  simp [World.cell?, h', hv]
theorem Blk.frozen (h : Blk w b t vs) (i : Nat) : w.frozen? ⟨b, i, none⟩ = false := by
  have h' : w.heap[b]? = some (.cells vs t (0, 0)) := h
  simp [World.frozen?, h']
theorem Blk.lt (h : Blk w b t vs) : b < w.heap.size := (Array.getElem?_eq_some_iff.1 h).1
theorem Blk.set (h : Blk w b t vs) (i : Nat) (v : Value) : Blk (w.setCell ⟨b, i, none⟩ v) b t (vs.setIfInBounds i v) := by
  have h' : w.heap[b]? = some (.cells vs t (0, 0)) := h
  simp [Blk, World.setCell, Array.getElem?_modify, h']
theorem Blk.setOther (h : Blk w b t vs) {a : Addr} (ha : a.block ≠ b) (v : Value) : Blk (w.setCell a v) b t vs := by
  unfold Blk; rw [Below.heap_setCell _ _ _ _ (by omega)]; exact h
theorem Blk.alloc (h : Blk w b t vs) (o : Obj) : Blk (w.alloc o) b t vs := by
  unfold Blk; rw [Below.heap_alloc _ _ _ h.lt]; exact h
theorem Blk.drew (h : Blk w b t vs) : Blk w.drew b t vs := h
theorem Blk.below {B : Nat} (h : Blk w b t vs) (e : Below B w w') (hb : b < B) : Blk w' b t vs := (e.block b hb).trans h
theorem Blk.ext (h : Blk w b t vs) (e : Ext w w') : Blk w' b t vs := (e.block b h.lt).trans h
theorem Blk.grown (h : Blk w b t vs) {row : Option Nat} (e : w.grownBy w' row) (hr : some b ≠ row) : Blk w' b t vs := (e.block b h.lt hr).trans h
theorem Blk.new (w : World) (t : TypeId) (vs : Array Value) : Blk (w.alloc (.cells vs t)) w.heap.size t vs := heap_alloc_new w _
theorem Blk.new' (w : World) (t : TypeId) (vs : Array Value) {b : Nat} (hb : b = w.heap.size) : Blk (w.alloc (.cells vs t)) b t vs := hb ▸ heap_alloc_new w _
end

/-! ### what a callee may have turned -/
/-- Of the blocks that were there none has turned but those of S. -/
structure Chg (S : Nat → Prop) (w w' : World) : Prop where
  os : w'.os = w.os
  tape : w'.tape = w.tape
  output : w'.output = w.output
  size : w.heap.size ≤ w'.heap.size
  block : ∀ k, k < w.heap.size → ¬ S k → w'.heap[k]? = w.heap[k]?

section
variable {S : Nat → Prop} {a w w' : World} {b : Nat} {t : TypeId} {vs : Array Value}
theorem Chg.refl (S : Nat → Prop) (w : World) : Chg S w w := ⟨rfl, rfl, rfl, Nat.le_refl _, fun _ _ _ => rfl⟩
theorem Chg.trans {c : World} (h : Chg S a w) (k : Chg S w c) : Chg S a c :=
  ⟨k.os.trans h.os, k.tape.trans h.tape, k.output.trans h.output, Nat.le_trans h.size k.size, fun i hi hs => (k.block i (Nat.lt_of_lt_of_le hi h.size) hs).trans (h.block i hi hs)⟩
theorem Chg.alloc (h : Chg S a w) (o : Obj) : Chg S a (w.alloc o) :=
  h.trans ⟨rfl, rfl, rfl, by simp, fun k hk _ => Below.heap_alloc _ _ _ hk⟩
theorem Chg.setCell (h : Chg S a w) {p : Addr} (hp : S p.block) (u : Value) : Chg S a (w.setCell p u) :=
  h.trans ⟨rfl, rfl, rfl, by simp [World.setCell], fun k _ hs => Below.heap_setCell _ _ _ _ (fun e => hs (e ▸ hp))⟩
theorem Chg.drew (h : Chg S a w) : Chg S a w.drew := ⟨h.os, h.tape, h.output, h.size, h.block⟩
theorem Chg.ext (h : Chg S a w) (e : Ext w w') : Chg S a w' :=
  h.trans ⟨e.os, e.tape, e.output, e.size, fun k hk _ => e.block k hk⟩
theorem Chg.grown (h : Chg S a w) {row : Option Nat} (e : w.grownBy w' row) (hr : ∀ k, row = some k → S k) : Chg S a w' :=
  h.trans ⟨e.os, e.tape, e.output, e.size, fun k hk hs => e.block k hk (fun x => hs (hr k x.symm))⟩
theorem Chg.mono {S' : Nat → Prop} (h : Chg S a w) (hs : ∀ k, k < a.heap.size → S k → S' k) : Chg S' a w :=
  ⟨h.os, h.tape, h.output, h.size, fun k hk hn => h.block k hk (fun x => hn (hs k hk x))⟩
/-- Below a bound that none of S is below. -/
theorem Chg.below {B : Nat} (h : Chg S a w) (hB : B ≤ a.heap.size) (hS : ∀ k, S k → B ≤ k) : Below B a w :=
  ⟨h.os, h.tape, h.output, h.size, fun k hk => h.block k (by omega) (fun x => by have := hS k x; omega)⟩
theorem Chg.of_ext (e : Ext w w') : Chg S w w' := (Chg.refl S w).ext e
theorem Blk.chg (h : Blk w b t vs) (e : Chg S w w') (hb : ¬ S b) : Blk w' b t vs := (e.block b h.lt hb).trans h
end

/-! ### maps -/
section
variable {κ : Type} [DecidableEq κ]

def alook : List (κ × Value) → κ → Option Value
  | [], _ => none
  | p :: l, k => if k = p.1 then some p.2 else alook l k
def alookI : List (κ × Value) → κ → Nat → Option (Nat × Value)
  | [], _, _ => none
  | p :: l, k, i => if k = p.1 then some (i, p.2) else alookI l k (i + 1)
def aput : List (κ × Value) → κ → Value → List (κ × Value)
  | [], k, v => [(k, v)]
  | p :: l, k, v => if k = p.1 then (k, v) :: l else p :: aput l k v

theorem alookI_none {l : List (κ × Value)} {k : κ} {i : Nat} : alookI l k i = none ↔ alook l k = none := by
  induction l generalizing i with
  | nil => simp [alookI, alook]
  | cons p l ih => simp only [alookI, alook]; split <;> simp_all
theorem alookI_some {l : List (κ × Value)} {k : κ} {i : Nat} {r : Nat × Value} (h : alookI l k i = some r) : alook l k = some r.2 ∧ i ≤ r.1 ∧ ∃ p, l[r.1 - i]? = some p ∧ p.1 = k := by
  induction l generalizing i with
  | nil => simp [alookI] at h
  | cons p l ih =>
    simp only [alookI] at h
    simp only [alook]
    split at h
    · rename_i hk
      cases h
      simp [hk]
    · rename_i hk
      obtain ⟨h1, h2, q, h3, h4⟩ := ih h
      refine ⟨by rw [if_neg hk]; exact h1, by omega, q, ?_, h4⟩
      rw [show r.1 - i = (r.1 - (i + 1)) + 1 by omega]
      simpa using h3

theorem alook_aput (l : List (κ × Value)) (k k' : κ) (v : Value) : alook (aput l k v) k' = if k' = k then some v else alook l k' := by
  induction l with
  | nil => simp [aput, alook]
  | cons p l ih =>
    simp only [aput]
    split
    · rename_i h
      subst h
      simp only [alook]
      split <;> rfl
    · rename_i h
      simp only [alook, ih]
      split
      · rename_i h1
        subst h1
        rw [if_neg (fun e => h e.symm)]
      · rfl

theorem aput_modify {l : List (κ × Value)} {k : κ} {v : Value} {i j : Nat} {u : Value} (h : alookI l k i = some (j, u)) : aput l k v = l.modify (j - i) (fun p => (p.1, v)) := by
  induction l generalizing i with
  | nil => simp [alookI] at h
  | cons p l ih =>
    simp only [alookI] at h
    simp only [aput]
    split at h
    · rename_i hk
      cases h
      subst hk
      simp
    · rename_i hk
      obtain ⟨h1, h2, _⟩ := alookI_some h
      rw [if_neg hk, ih h, show j - i = (j - (i + 1)) + 1 by simp at h2; omega]
      rfl
theorem aput_push {l : List (κ × Value)} {k : κ} {v : Value} (h : alook l k = none) : aput l k v = l ++ [(k, v)] := by
  induction l with
  | nil => rfl
  | cons p l ih =>
    simp only [alook] at h
    simp only [aput]
    split at h
    · cases h
    · rename_i hk; rw [if_neg hk, ih h]; rfl

/-- What the model does with keys of a type that are written so. -/
structure KeyOk (P : Program) (kt : TypeId) (enc : κ → Value) : Prop where
  check : ∀ (w : World) (e : Bool) (k : κ), (Instr.checkKey e 10000 kt (enc k)).run P w = .ok () w
  find : ∀ (w : World) (k : κ) (es : List MapEntry) (l : List (κ × Value)), es.map (fun e => (e.key, e.val)) = l.map (fun p => (enc p.1, p.2)) →
    (Instr.findKey kt (enc k) es).run P w = .ok (alookI l k 0) w
  bits : ∀ k, Instr.sameBits 10000 (enc k) (enc k) = true

theorem keyOk_now {P : Program} {kt : TypeId} {enc : κ → Value} {d : TypeDesc} (hd : P.underlying kt = some d) (hc : ∀ (w : World) (e : Bool) (k : κ), (Instr.checkKey e 10000 kt (enc k)).run P w = .ok () w)
    (hs : ∀ a b, Instr.sameNow d (enc a) (enc b) = some (decide (a = b))) (hb : ∀ k, Instr.sameBits 10000 (enc k) (enc k) = true) : KeyOk P kt enc where
  check := hc
  bits := hb
  find := by
    intro w k es l h
    have key : ∀ (es : List MapEntry) (l : List (κ × Value)) (i : Nat), es.map (fun e => (e.key, e.val)) = l.map (fun p => (enc p.1, p.2)) → Instr.findNow d (enc k) es i = some (alookI l k i) := by
      intro es
      induction es with
      | nil => intro l i h; cases l <;> simp_all [Instr.findNow, alookI]
      | cons e es ih =>
        intro l i h
        cases l with
        | nil => simp at h
        | cons p l =>
          simp only [List.map_cons, List.cons.injEq, Prod.mk.injEq] at h
          obtain ⟨⟨h1, h2⟩, h3⟩ := h
          by_cases hk : k = p.1
          · simp [Instr.findNow, alookI, h1, hs, hk, h2]
          · simp [Instr.findNow, alookI, h1, hs, hk, ih l (i + 1) h3]
    simp [Instr.findKey, run_underlying hd, key es l 0 h]

theorem checkKey_string {P : Program} {kt : TypeId} (hd : P.underlying kt = some .string) (w : World) (e : Bool) (n : Nat) (k : ByteArray) : (Instr.checkKey e (n + 1) kt (.string k)).run P w = .ok () w := by
  simp [Instr.checkKey, run_underlying hd]
theorem checkKey_int {P : Program} {kt : TypeId} {q : IntKind} (hd : P.underlying kt = some (.int q)) (w : World) (e : Bool) (n : Nat) (k : Int) : (Instr.checkKey e (n + 1) kt (.int q k)).run P w = .ok () w := by
  simp [Instr.checkKey, run_underlying hd]
theorem checkKey_bool {P : Program} {kt : TypeId} (hd : P.underlying kt = some .bool) (w : World) (e : Bool) (n : Nat) (k : Bool) : (Instr.checkKey e (n + 1) kt (.bool k)).run P w = .ok () w := by
  simp [Instr.checkKey, run_underlying hd]

theorem beqBytes_iff (a b : ByteArray) : (a == b) = decide (a = b) := by
  rw [beq_toListBytes]
  by_cases h : a = b
  · simp [h]
  · rw [beqB_false h]; simp [h]

theorem keyOk_string {P : Program} {kt : TypeId} (hd : P.underlying kt = some .string) : KeyOk (κ := ByteArray) P kt Value.string :=
  keyOk_now hd (fun w e k => checkKey_string hd w e 9999 k) (fun a b => by
    simp only [Instr.sameNow, beqBytes_iff]) (fun k => by simp [Instr.sameBits, beqBytes_iff])
theorem keyOk_int {P : Program} {kt : TypeId} {q : IntKind} (hd : P.underlying kt = some (.int q)) : KeyOk (κ := Int) P kt (Value.int q) :=
  keyOk_now hd (fun w e k => checkKey_int hd w e 9999 k) (fun a b => by
    simp only [Instr.sameNow, if_true, Option.some.injEq]
    by_cases h : a = b
    · simp [h]
    · simp [h]) (fun k => by simp [Instr.sameBits])
theorem keyOk_bool {P : Program} {kt : TypeId} (hd : P.underlying kt = some .bool) : KeyOk (κ := Bool) P kt Value.bool :=
  keyOk_now hd (fun w e k => checkKey_bool hd w e 9999 k) (fun a b => by
    simp only [Instr.sameNow, Option.some.injEq]
    cases a <;> cases b <;> rfl) (fun k => by simp [Instr.sameBits])

end

section
variable {κ : Type}
/-- Block b is a map that holds just these entries. -/
def MapB (w : World) (b : Nat) (enc : κ → Value) (l : List (κ × Value)) : Prop :=
  ∃ es clock, w.heap[b]? = some (.map es clock) ∧ es.toList.map (fun e => (e.key, e.val)) = l.map (fun p => (enc p.1, p.2))

variable {w w' : World} {b : Nat} {enc : κ → Value} {l : List (κ × Value)}
theorem MapB.lt (h : MapB w b enc l) : b < w.heap.size := by
  obtain ⟨es, clock, hb, _⟩ := h
  exact (Array.getElem?_eq_some_iff.1 hb).1
theorem MapB.of_block (h : MapB w b enc l) (e : w'.heap[b]? = w.heap[b]?) : MapB w' b enc l := by
  obtain ⟨es, clock, hb, h1⟩ := h
  exact ⟨es, clock, e.trans hb, h1⟩
theorem MapB.alloc (h : MapB w b enc l) (o : Obj) : MapB (w.alloc o) b enc l := h.of_block (Below.heap_alloc _ _ _ h.lt)
theorem MapB.drew (h : MapB w b enc l) : MapB w.drew b enc l := h
theorem MapB.setCell (h : MapB w b enc l) (a : Addr) (v : Value) : MapB (w.setCell a v) b enc l := by
  obtain ⟨es, clock, hb, h1⟩ := h
  refine ⟨es, clock, ?_, h1⟩
  simp only [World.setCell, Array.getElem?_modify, hb]
  split <;> rfl
theorem MapB.below {B : Nat} (h : MapB w b enc l) (e : Below B w w') (hb : b < B) : MapB w' b enc l := h.of_block (e.block b hb)
theorem MapB.ext (h : MapB w b enc l) (e : Ext w w') : MapB w' b enc l := h.of_block (e.block b h.lt)
theorem MapB.grown (h : MapB w b enc l) {row : Option Nat} (e : w.grownBy w' row) (hr : some b ≠ row) : MapB w' b enc l := h.of_block (e.block b h.lt hr)
theorem MapB.chg {S : Nat → Prop} (h : MapB w b enc l) (e : Chg S w w') (hb : ¬ S b) : MapB w' b enc l := h.of_block (e.block b h.lt hb)
theorem MapB.new (w : World) (enc : κ → Value) : MapB (w.alloc (.map #[] 0)) w.heap.size enc [] := ⟨#[], 0, heap_alloc_new w _, rfl⟩
theorem MapB.new' (w : World) (enc : κ → Value) {b : Nat} (hb : b = w.heap.size) : MapB (w.alloc (.map #[] 0)) b enc [] := ⟨#[], 0, hb ▸ heap_alloc_new w _, rfl⟩

end

section
variable {κ : Type} [DecidableEq κ] {w : World} {b : Nat} {enc : κ → Value} {l : List (κ × Value)}
theorem MapB.lookup_ok {P : Program} {t kt et : TypeId} (h : MapB w b enc l) (K : KeyOk P kt enc) (ht : P.underlying t = some (.map kt et)) {z : Value} (hz : (zeroValue et).run P w = .ok z w) (k : κ) :
    (Instr.lookup t (.map (some b)) (enc k) true).run P w = .ok (.tuple #[(alook l k).getD z, .bool (alook l k).isSome]) w := by
  obtain ⟨es, clock, hb, he⟩ := h
  have hf := K.find w k es.toList l he
  simp only [Instr.lookup, Sem.run_bind, run_underlying ht, Result.andThen_ok, getObj, Sem.run, hb, Sem.run_pure, K.check, hf]
  cases hi : alookI l k 0 with
  | none => rw [alookI_none] at hi; simp [hi, hz]
  | some r => have := (alookI_some hi).1; simp [this]
theorem MapB.lookup_bare {P : Program} {t kt et : TypeId} (h : MapB w b enc l) (K : KeyOk P kt enc) (ht : P.underlying t = some (.map kt et)) {z : Value} (hz : (zeroValue et).run P w = .ok z w) (k : κ) :
    (Instr.lookup t (.map (some b)) (enc k) false).run P w = .ok ((alook l k).getD z) w := by
  obtain ⟨es, clock, hb, he⟩ := h
  have hf := K.find w k es.toList l he
  simp only [Instr.lookup, Sem.run_bind, run_underlying ht, Result.andThen_ok, getObj, Sem.run, hb, Sem.run_pure, K.check, hf]
  cases hi : alookI l k 0 with
  | none => rw [alookI_none] at hi; simp [hi, hz]
  | some r => have := (alookI_some hi).1; simp [this]

theorem MapB.update {P : Program} {t kt et : TypeId} (h : MapB w b enc l) (K : KeyOk P kt enc) (ht : P.underlying t = some (.map kt et)) (k : κ) (v : Value) :
    ∃ w', (Instr.mapUpdate t (.map (some b)) (enc k) v).run P w = .ok () w' ∧ MapB w' b enc (aput l k v) ∧ w.grownBy w' (some b) := by
  obtain ⟨es, clock, hb, he⟩ := h
  have hf := K.find w k es.toList l he
  have hlt : b < w.heap.size := (Array.getElem?_eq_some_iff.1 hb).1
  have hset : ∀ o : Obj, (w.heap.setIfInBounds b o)[b]? = some o := fun o => by simp [hlt]
  have hgr : ∀ o : Obj, w.grownBy { w with heap := w.heap.setIfInBounds b o } (some b) := fun o =>
    ⟨rfl, rfl, rfl, by simp, fun i _ hi => by simp only [ne_eq, Option.some.injEq] at hi; simp [Ne.symm hi]⟩
  cases hi : alookI l k 0 with
  | none =>
    rw [hi] at hf
    rw [alookI_none] at hi
    refine ⟨{ w with heap := w.heap.setIfInBounds b (.map (es.push { key := enc k, val := v, born := clock }) (clock + 1)) }, ?_, ⟨_, _, hset _, ?_⟩, hgr _⟩
    · simp only [Instr.mapUpdate, Sem.run_bind, run_underlying ht, Result.andThen_ok, getObj, Sem.run, hb, K.check, hf, setObj]
    · rw [aput_push hi]; simp [he]
  | some r =>
    rw [hi] at hf
    obtain ⟨h1, _, p, hp, hpk⟩ := alookI_some hi
    simp only [Nat.sub_zero] at hp
    have hkey : ((es[r.1]?).map (·.key)).getD (enc k) = enc k := by
      have h2 : (es.toList.map (fun e => (e.key, e.val)))[r.1]? = (l.map (fun p => (enc p.1, p.2)))[r.1]? := by rw [he]
      simp only [List.getElem?_map, hp, Option.map_some, Array.getElem?_toList] at h2
      cases h3 : es[r.1]? with
      | none => simp [h3] at h2
      | some e => simp [h3] at h2; simp [h2.1, hpk]
    refine ⟨{ w with heap := w.heap.setIfInBounds b (.map (es.modify r.1 fun e => { e with key := enc k, val := v }) clock) }, ?_, ⟨_, _, hset _, ?_⟩, hgr _⟩
    · simp only [Instr.mapUpdate, Sem.run_bind, run_underlying ht, Result.andThen_ok, getObj, Sem.run, hb, K.check, hf, setObj, hkey, Instr.keyThatStays, K.bits, if_true, Sem.run_pure]
    · rw [aput_modify (j := r.1) (u := r.2) (by rw [hi]), Nat.sub_zero]
      apply List.ext_getElem?
      intro j
      have h2 : (es.toList.map (fun e => (e.key, e.val)))[j]? = (l.map (fun p => (enc p.1, p.2)))[j]? := by rw [he]
      simp only [List.getElem?_map, Array.getElem?_toList] at h2
      simp only [List.getElem?_map, Array.getElem?_toList, Array.getElem?_modify, List.getElem?_modify]
      by_cases hj : r.1 = j
      · subst hj
        simp only [hp, if_true] at h2 ⊢
        cases h3 : es[r.1]? with
        | none => simp [h3] at h2
        | some e => simp [hpk]
      · simp only [hj, if_false]
        simpa using h2
end

/-- A store into a map, as the walk takes it. -/
theorem wpList_mapUpdateB {κ : Type} [DecidableEq κ] {P : Program} (w : World) {ops : Array Oper} {rest : List Oper} {o : Oper} {a : Act} {Q : Exit → Act → World → Prop}
    (hg : o.guard = none) (m x v : Operand) (t : TypeId) (hop : o.op = Op.mapUpdate t m x v ∨ o.op = Op.insert t m x v)
    (kt et : TypeId) (enc : κ → Value) (K : KeyOk P kt enc) (ht : P.underlying t = some (.map kt et)) (b : Nat) (l : List (κ × Value)) (hm : a.eval m = .map (some b)) (h : MapB w b enc l)
    (k : κ) (u : Value) (hx : a.eval x = enc k) (hv : a.eval v = u)
    (hK : ∀ w', MapB w' b enc (aput l k u) → w.grownBy w' (some b) → wpList P ops Q rest (a.put o.dst undef) w') : wpList P ops Q (o :: rest) a w := by
  refine wpList_plain hg fun K' hK' => ?_
  obtain ⟨w', hrun, r1, r2⟩ := h.update K ht k u
  unfold Oper.wp
  rcases hop with hop | hop
  all_goals
    simp only [execOp, hop, hm, hx, hv, Sem.run_bind, hrun, Result.andThen_ok, Sem.run_pure, Oper.upon_skip]
    exact hK' _ _ (hK w' r1 r2)
end Go.Spy
namespace Go.Spy
open Go.RowKit

/-- The slice value (address, length of ss, capacity) reads as the strings. -/
structure StrsV (w : World) (ao : Option Addr) (cap : Nat) (ss : List ByteArray) : Prop where
  len : ss.length ≤ 140737488351232
  size : ∀ i (h : i < ss.length), ss[i].size ≤ 9223372036854775807
  cells : 0 < ss.length → ∃ b off, ao = some ⟨b, off, none⟩ ∧ b < w.heap.size ∧ ∀ i (h : i < ss.length), w.cell? ⟨b, off + i, none⟩ = some (.string ss[i])

theorem StrsV.below {B : Nat} {w w' : World} {ao : Option Addr} {cap : Nat} {ss : List ByteArray} (h : StrsV w ao cap ss) (e : Below B w w') (hB : ∀ b off, ao = some ⟨b, off, none⟩ → b < B) : StrsV w' ao cap ss where
  len := h.len
  size := h.size
  cells h0 := by
    obtain ⟨b, off, ha, hb, hc⟩ := h.cells h0
    exact ⟨b, off, ha, Nat.lt_of_lt_of_le hb e.size, fun i hi => (e.cell (p := ⟨b, off + i, none⟩) (hB b off ha)).trans (hc i hi)⟩
theorem StrsV.ext {w w' : World} {ao : Option Addr} {cap : Nat} {ss : List ByteArray} (h : StrsV w ao cap ss) (e : Ext w w') : StrsV w' ao cap ss where
  len := h.len
  size := h.size
  cells h0 := by
    obtain ⟨b, off, ha, hb, hc⟩ := h.cells h0
    exact ⟨b, off, ha, Nat.lt_of_lt_of_le hb e.size, fun i hi => (e.cell (p := ⟨b, off + i, none⟩) hb).trans (hc i hi)⟩
theorem StrsV.chg {S : Nat → Prop} {w w' : World} {ao : Option Addr} {cap : Nat} {ss : List ByteArray} (h : StrsV w ao cap ss) (e : Chg S w w') (hS : ∀ b off, ao = some ⟨b, off, none⟩ → ¬ S b) : StrsV w' ao cap ss where
  len := h.len
  size := h.size
  cells h0 := by
    obtain ⟨b, off, ha, hb, hc⟩ := h.cells h0
    exact ⟨b, off, ha, Nat.lt_of_lt_of_le hb e.size, fun i hi => (World.cell?_of_block (a := ⟨b, off + i, none⟩) (e.block b hb (hS b off ha))).trans (hc i hi)⟩
/-- A slice's head. -/
theorem StrsV.take {w : World} {ao : Option Addr} {cap : Nat} {ss : List ByteArray} (h : StrsV w ao cap ss) (n c' : Nat) : StrsV w ao c' (ss.take n) where
  len := by have := h.len; simp; omega
  size i hi := by
    have : i < ss.length := by simp at hi; omega
    simpa using h.size i this
  cells h0 := by
    obtain ⟨b, off, ha, hb, hc⟩ := h.cells (by simp at h0; omega)
    refine ⟨b, off, ha, hb, fun i hi => ?_⟩
    have : i < ss.length := by simp at hi; omega
    simpa using hc i this

/-- What the call has built by append or a literal reads so. -/
theorem strs_of_owns {w : World} {base : Nat} {e : TypeId} {v : Value} {n : Nat} {ss : List ByteArray} (h : w.ownsRow base e 1 v n (ss.map Value.string))
    (hl : ss.length ≤ 140737488351232) (hs : ∀ s ∈ ss, s.size ≤ 9223372036854775807) : ∃ ao cap, v = .slice ao ss.length cap ∧ ss.length ≤ cap ∧ StrsV w ao cap ss := by
  have hn : n = ss.length := by have := h.1; simp at this; omega
  subst hn
  rcases h.2 with ⟨rfl, h0⟩ | ⟨g, cap, cur, rfl, hg, hh, hnc, hcm, hcs, ht⟩
  · refine ⟨none, 0, by rw [h0], by omega, ⟨hl, fun i hi => hs _ (List.getElem_mem _), fun h1 => by omega⟩⟩
  · refine ⟨_, cap, rfl, hnc, ⟨hl, fun i hi => hs _ (List.getElem_mem _), fun _ => ⟨g, 0, rfl, (Array.getElem?_eq_some_iff.1 hh).1, fun i hi => ?_⟩⟩⟩
    have h1 : (cur.toList.take (ss.length * 1))[i]? = (ss.map Value.string)[i]? := by rw [ht]
    have h2 : cur[i]? = some (.string ss[i]) := by
      rw [List.getElem?_take, if_pos (by omega)] at h1
      simpa [hi] using h1
    simp [World.cell?, hh, h2]
theorem owns_literal (w : World) (base : Nat) (e : TypeId) (vs : List Value) (hb : base ≤ w.heap.size) (hm : vs.length ≤ maxLen) :
    (w.alloc (.cells vs.toArray e)).ownsRow base e 1 (.slice (some ⟨w.heap.size, 0, none⟩) vs.length vs.length) vs.length vs :=
  ⟨by simp, .inr ⟨w.heap.size, vs.length, vs.toArray, rfl, hb, heap_alloc_new w _, Nat.le_refl _, hm, by simp, by simp⟩⟩
end Go.Spy
namespace Go.Spy
open Go.RowKit

section
variable {w w' : World} {base size n cap g : Nat} {e : TypeId} {v : Value} {xs : List Value} {S : Nat → Prop}

theorem owns_chg (h : w.ownsRow base e size v n xs) (c : Chg S w w') (hS : ∀ k, v.ownBlock = some k → ¬ S k) : w'.ownsRow base e size v n xs := by
  refine ⟨h.1, ?_⟩
  rcases h.2 with h0 | ⟨g, cap, cur, rfl, hb, hg, rest⟩
  · exact .inl h0
  · exact .inr ⟨g, cap, cur, rfl, hb, (c.block g (Array.getElem?_eq_some_iff.1 hg).1 (hS g rfl)).trans hg, rest⟩

theorem owns_setOther (h : w.ownsRow base e size v n xs) {p : Addr} (hp : v.ownBlock ≠ some p.block) (u : Value) : (w.setCell p u).ownsRow base e size v n xs :=
  owns_chg (S := fun k => k = p.block) h (Chg.setCell (S := fun k => k = p.block) (Chg.refl _ w) (by rfl) u) (fun k hk e => hp (e ▸ hk))

theorem owns_drew (h : w.ownsRow base e size v n xs) : w.drew.ownsRow base e size v n xs := h

theorem owns_set (h : w.ownsRow base e size (.slice (some ⟨g, 0, none⟩) n cap) n xs) {j : Nat} (_hj : j < n * size) (u : Value) :
    (w.setCell ⟨g, j, none⟩ u).ownsRow base e size (.slice (some ⟨g, 0, none⟩) n cap) n (xs.set j u) := by
  refine ⟨by simpa using h.1, ?_⟩
  rcases h.2 with ⟨h0, _⟩ | ⟨g', cap', cur, hv, hb, hg, hnc, hcm, hcs, ht⟩
  · simp at h0
  · simp only [Value.slice.injEq, Option.some.injEq, Addr.mk.injEq, and_true, true_and] at hv
    obtain ⟨rfl, rfl⟩ := hv
    refine .inr ⟨g, cap, cur.setIfInBounds j u, rfl, hb, ?_, hnc, hcm, by simpa using hcs, ?_⟩
    · exact (show Blk w g e cur from hg).set j u
    · rw [Array.toList_setIfInBounds, List.take_set, ht]
end
end Go.Spy
