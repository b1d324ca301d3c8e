/-
  Small general lemmas on the model: blocks of cells, maps with known keys, slices that read as lists. No program is named here.
  Slices of strings that read as lists. No program is named here.
  Small general lemmas on rows that a call owns (slices of structs). No program is named here.
  Aggregates whose cells are held behind one name: laws for the operations that lay, read and store them. No program is named here.
  Rows of things that take the same number of cells each. No program is named here.
  Slices of things that take some cells each, which a call builds by append. No program is named here.
-/
import Derived.WalkKit
import Derived.WalkSpells
import Derived.WalkLawsBesides
import Derived.Deep.LoopGhost
import Derived.Deep.DeepCutAuto
import Derived.Laws.OwnMore
import Derived.Laws.ResultCell
import Derived.Laws.CopyRow
import Derived.Deep.Draws
import Derived.Deep.AppendLies
import Derived.OwnWalk
namespace Go
theorem onOp (n : Nat) {P : Program} {ops : Array Oper} {Q : Exit → Act → World → Prop} {r : List Oper} {a : Act} {w : World} {b : Op} {t : TypeId} {p : String} {c : Array Edge} {g : Option (Nat × Bool)} (h : wpList P ops Q ((⟨some n, b, t, p, c, g⟩ : Oper) :: r) a w) : wpList P ops Q ((⟨some n, b, t, p, c, g⟩ : Oper) :: r) a w := h
def mk (n b : Nat) : Array Bool := ((List.range n).map b.testBit).toArray
end Go
namespace Go.Spy
open Go.RowKit
theorem hid {p : Prop} (h : p) : Hid p := h
abbrev Ext (w w' : World) : Prop := Below w.heap.size w w'
theorem ext_trans {a b c : World} (h : Ext a b) (k : Ext b c) : Ext a c := Below.trans h (k.mono h.size)
theorem ret_bool {a b : Bool} (h : a = b) : Ending.returned (.bool a) = .returned (.bool b) := by rw [h]
theorem ret_int {k : IntKind} {a b : Int} (h : a = b) : Ending.returned (.int k a) = .returned (.int k b) := by rw [h]
theorem ret_str {a b : ByteArray} (h : a = b) : Ending.returned (.string a) = .returned (.string b) := by rw [h]
theorem bytes_ext {a b : ByteArray} (h : a.toList = b.toList) : a = b := by
 obtain ⟨⟨x⟩⟩ := a
 obtain ⟨⟨y⟩⟩ := b
 rw [ByteArray.toList_mk, ByteArray.toList_mk] at h
 rw [h]
theorem beqB_true {a b : ByteArray} (h : a = b) : (a.toList == b.toList) = true := by simp [h]
theorem beqB_false {a b : ByteArray} (h : a ≠ b) : (a.toList == b.toList) = false := by
 rw [beq_eq_false_iff_ne]
 exact fun e => h (bytes_ext e)
def Blk (w : World) (b : Nat) (t : TypeId) (vs : Array Value) : Prop := w.heap[b]? = some (.cells vs t (0, 0))
section
variable {w w' : World} {b : Nat} {t : TypeId} {vs : Array Value}
theorem Blk.cell (h : Blk w b t vs) {i : Nat} {v : Value} (hv : vs[i]? = some v) : w.cell? ⟨b, i, none⟩ = some v := by
 have h' : w.heap[b]? = some (.cells vs t (0, 0)) := h
 simp [World.cell?, h', hv]
theorem Blk.frozen (h : Blk w b t vs) (i : Nat) : w.frozen? ⟨b, i, none⟩ = false := by
 have h' : w.heap[b]? = some (.cells vs t (0, 0)) := h
 simp [World.frozen?, h']
theorem Blk.lt (h : Blk w b t vs) : b < w.heap.size := (Array.getElem?_eq_some_iff.1 h).1
theorem Blk.set (h : Blk w b t vs) (i : Nat) (v : Value) : Blk (w.setCell ⟨b, i, none⟩ v) b t (vs.setIfInBounds i v) := by
 have h' : w.heap[b]? = some (.cells vs t (0, 0)) := h
 simp [Blk, World.setCell, Array.getElem?_modify, h']
theorem Blk.setOther (h : Blk w b t vs) {a : Addr} (ha : a.block ≠ b) (v : Value) : Blk (w.setCell a v) b t vs := by
 unfold Blk; rw [Below.heap_setCell _ _ _ _ (by omega)]; exact h
theorem Blk.alloc (h : Blk w b t vs) (o : Obj) : Blk (w.alloc o) b t vs := by
 unfold Blk; rw [Below.heap_alloc _ _ _ h.lt]; exact h
theorem Blk.drew (h : Blk w b t vs) : Blk w.drew b t vs := h
theorem Blk.ext (h : Blk w b t vs) (e : Ext w w') : Blk w' b t vs := (e.block b h.lt).trans h
theorem Blk.grown (h : Blk w b t vs) {row : Option Nat} (e : w.grownBy w' row) (hr : some b ≠ row) : Blk w' b t vs := (e.block b h.lt hr).trans h
theorem Blk.new (w : World) (t : TypeId) (vs : Array Value) : Blk (w.alloc (.cells vs t)) w.heap.size t vs := heap_alloc_new w _
theorem Blk.new' (w : World) (t : TypeId) (vs : Array Value) {b : Nat} (hb : b = w.heap.size) : Blk (w.alloc (.cells vs t)) b t vs := hb ▸ heap_alloc_new w _
end
structure Chg (S : Nat → Prop) (w w' : World) : Prop where
 os : w'.os = w.os
 tape : w'.tape = w.tape
 output : w'.output = w.output
 size : w.heap.size ≤ w'.heap.size
 block : ∀ k, k < w.heap.size → ¬ S k → w'.heap[k]? = w.heap[k]?
section
variable {S : Nat → Prop} {a w w' : World} {b : Nat} {t : TypeId} {vs : Array Value}
theorem Chg.refl (S : Nat → Prop) (w : World) : Chg S w w := ⟨rfl, rfl, rfl, Nat.le_refl _, fun _ _ _ => rfl⟩
theorem Chg.trans {c : World} (h : Chg S a w) (k : Chg S w c) : Chg S a c :=
 ⟨k.os.trans h.os, k.tape.trans h.tape, k.output.trans h.output, Nat.le_trans h.size k.size, fun i hi hs => (k.block i (Nat.lt_of_lt_of_le hi h.size) hs).trans (h.block i hi hs)⟩
theorem Chg.alloc (h : Chg S a w) (o : Obj) : Chg S a (w.alloc o) :=
 h.trans ⟨rfl, rfl, rfl, by simp, fun k hk _ => Below.heap_alloc _ _ _ hk⟩
theorem Chg.setCell (h : Chg S a w) {p : Addr} (hp : S p.block) (u : Value) : Chg S a (w.setCell p u) :=
 h.trans ⟨rfl, rfl, rfl, by simp [World.setCell], fun k _ hs => Below.heap_setCell _ _ _ _ (fun e => hs (e ▸ hp))⟩
theorem Chg.drew (h : Chg S a w) : Chg S a w.drew := ⟨h.os, h.tape, h.output, h.size, h.block⟩
theorem Chg.ext (h : Chg S a w) (e : Ext w w') : Chg S a w' :=
 h.trans ⟨e.os, e.tape, e.output, e.size, fun k hk _ => e.block k hk⟩
theorem Chg.grown (h : Chg S a w) {row : Option Nat} (e : w.grownBy w' row) (hr : ∀ k, row = some k → S k) : Chg S a w' :=
 h.trans ⟨e.os, e.tape, e.output, e.size, fun k hk hs => e.block k hk (fun x => hs (hr k x.symm))⟩
theorem Chg.mono {S' : Nat → Prop} (h : Chg S a w) (hs : ∀ k, k < a.heap.size → S k → S' k) : Chg S' a w :=
 ⟨h.os, h.tape, h.output, h.size, fun k hk hn => h.block k hk (fun x => hn (hs k hk x))⟩
theorem Chg.below {B : Nat} (h : Chg S a w) (hB : B ≤ a.heap.size) (hS : ∀ k, S k → B ≤ k) : Below B a w :=
 ⟨h.os, h.tape, h.output, h.size, fun k hk => h.block k (by omega) (fun x => by have := hS k x; omega)⟩
theorem Chg.of_ext (e : Ext w w') : Chg S w w' := (Chg.refl S w).ext e
theorem Blk.chg (h : Blk w b t vs) (e : Chg S w w') (hb : ¬ S b) : Blk w' b t vs := (e.block b h.lt hb).trans h
end
section
variable {κ : Type} [DecidableEq κ]
def alook : List (κ × Value) → κ → Option Value
 | [], _ => none
 | p :: l, k => if k = p.1 then some p.2 else alook l k
def alookI : List (κ × Value) → κ → Nat → Option (Nat × Value)
 | [], _, _ => none
 | p :: l, k, i => if k = p.1 then some (i, p.2) else alookI l k (i + 1)
def aput : List (κ × Value) → κ → Value → List (κ × Value)
 | [], k, v => [(k, v)]
 | p :: l, k, v => if k = p.1 then (k, v) :: l else p :: aput l k v
theorem alookI_none {l : List (κ × Value)} {k : κ} {i : Nat} : alookI l k i = none ↔ alook l k = none := by
 induction l generalizing i with
 | nil => simp [alookI, alook]
 | cons p l ih => simp only [alookI, alook]; split <;> simp_all
theorem alookI_some {l : List (κ × Value)} {k : κ} {i : Nat} {r : Nat × Value} (h : alookI l k i = some r) : alook l k = some r.2 ∧ i ≤ r.1 ∧ ∃ p, l[r.1 - i]? = some p ∧ p.1 = k := by
 induction l generalizing i with
 | nil => simp [alookI] at h
 | cons p l ih =>
   simp only [alookI] at h
   simp only [alook]
   split at h
   ·rename_i hk
    cases h
    simp [hk]
   ·rename_i hk
    obtain ⟨h1, h2, q, h3, h4⟩ := ih h
    refine ⟨by rw [if_neg hk]; exact h1, by omega, q, ?_, h4⟩
    rw [show r.1 - i = (r.1 - (i + 1)) + 1 by omega]
    simpa using h3
theorem alook_aput (l : List (κ × Value)) (k k' : κ) (v : Value) : alook (aput l k v) k' = if k' = k then some v else alook l k' := by
 induction l with
 | nil => simp [aput, alook]
 | cons p l ih =>
   simp only [aput]
   split
   ·rename_i h
    subst h
    simp only [alook]
    split <;> rfl
   ·rename_i h
    simp only [alook, ih]
    split
    ·rename_i h1
     subst h1
     rw [if_neg (fun e => h e.symm)]
    ·rfl
theorem aput_modify {l : List (κ × Value)} {k : κ} {v : Value} {i j : Nat} {u : Value} (h : alookI l k i = some (j, u)) : aput l k v = l.modify (j - i) (fun p => (p.1, v)) := by
 induction l generalizing i with
 | nil => simp [alookI] at h
 | cons p l ih =>
   simp only [alookI] at h
   simp only [aput]
   split at h
   ·rename_i hk
    cases h
    subst hk
    simp
   ·rename_i hk
    obtain ⟨h1, h2, _⟩ := alookI_some h
    rw [if_neg hk, ih h, show j - i = (j - (i + 1)) + 1 by simp at h2; omega]
    rfl
theorem aput_push {l : List (κ × Value)} {k : κ} {v : Value} (h : alook l k = none) : aput l k v = l ++ [(k, v)] := by
 induction l with
 | nil => rfl
 | cons p l ih =>
   simp only [alook] at h
   simp only [aput]
   split at h
   ·cases h
   ·rename_i hk; rw [if_neg hk, ih h]; rfl
structure KeyOk (P : Program) (kt : TypeId) (enc : κ → Value) : Prop where
 check : ∀ (w : World) (e : Bool) (k : κ), (Instr.checkKey e 10000 kt (enc k)).run P w = .ok () w
 find : ∀ (w : World) (k : κ) (es : List MapEntry) (l : List (κ × Value)), es.map (fun e => (e.key, e.val)) = l.map (fun p => (enc p.1, p.2)) →
  (Instr.findKey kt (enc k) es).run P w = .ok (alookI l k 0) w
 bits : ∀ k, Instr.sameBits 10000 (enc k) (enc k) = true
theorem keyOk_now {P : Program} {kt : TypeId} {enc : κ → Value} {d : TypeDesc} (hd : P.underlying kt = some d) (hc : ∀ (w : World) (e : Bool) (k : κ), (Instr.checkKey e 10000 kt (enc k)).run P w = .ok () w)
 (hs : ∀ a b, Instr.sameNow d (enc a) (enc b) = some (decide (a = b))) (hb : ∀ k, Instr.sameBits 10000 (enc k) (enc k) = true) : KeyOk P kt enc where
 check := hc
 bits := hb
 find := by
  intro w k es l h
  have key : ∀ (es : List MapEntry) (l : List (κ × Value)) (i : Nat), es.map (fun e => (e.key, e.val)) = l.map (fun p => (enc p.1, p.2)) → Instr.findNow d (enc k) es i = some (alookI l k i) := by
   intro es
   induction es with
   | nil => intro l i h; cases l <;> simp_all [Instr.findNow, alookI]
   | cons e es ih =>
     intro l i h
     cases l with
     | nil => simp at h
     | cons p l =>
       simp only [List.map_cons, List.cons.injEq, Prod.mk.injEq] at h
       obtain ⟨⟨h1, h2⟩, h3⟩ := h
       by_cases hk : k = p.1
       ·simp [Instr.findNow, alookI, h1, hs, hk, h2]
       ·simp [Instr.findNow, alookI, h1, hs, hk, ih l (i + 1) h3]
  simp [Instr.findKey, run_underlying hd, key es l 0 h]
theorem checkKey_int {P : Program} {kt : TypeId} {q : IntKind} (hd : P.underlying kt = some (.int q)) (w : World) (e : Bool) (n : Nat) (k : Int) : (Instr.checkKey e (n + 1) kt (.int q k)).run P w = .ok () w := by
 simp [Instr.checkKey, run_underlying hd]
theorem keyOk_int {P : Program} {kt : TypeId} {q : IntKind} (hd : P.underlying kt = some (.int q)) : KeyOk (κ := Int) P kt (Value.int q) :=
 keyOk_now hd (fun w e k => checkKey_int hd w e 9999 k) (fun a b => by
  simp only [Instr.sameNow, if_true, Option.some.injEq]
  by_cases h : a = b
  ·simp [h]
  ·simp [h]) (fun k => by simp [Instr.sameBits])
end
section
variable {κ : Type}
def MapB (w : World) (b : Nat) (enc : κ → Value) (l : List (κ × Value)) : Prop :=
 ∃ es clock, w.heap[b]? = some (.map es clock) ∧ es.toList.map (fun e => (e.key, e.val)) = l.map (fun p => (enc p.1, p.2))
variable {w w' : World} {b : Nat} {enc : κ → Value} {l : List (κ × Value)}
theorem MapB.lt (h : MapB w b enc l) : b < w.heap.size := by
 obtain ⟨es, clock, hb, _⟩ := h
 exact (Array.getElem?_eq_some_iff.1 hb).1
theorem MapB.of_block (h : MapB w b enc l) (e : w'.heap[b]? = w.heap[b]?) : MapB w' b enc l := by
 obtain ⟨es, clock, hb, h1⟩ := h
 exact ⟨es, clock, e.trans hb, h1⟩
theorem MapB.alloc (h : MapB w b enc l) (o : Obj) : MapB (w.alloc o) b enc l := h.of_block (Below.heap_alloc _ _ _ h.lt)
theorem MapB.ext (h : MapB w b enc l) (e : Ext w w') : MapB w' b enc l := h.of_block (e.block b h.lt)
theorem MapB.chg {S : Nat → Prop} (h : MapB w b enc l) (e : Chg S w w') (hb : ¬ S b) : MapB w' b enc l := h.of_block (e.block b h.lt hb)
theorem MapB.new (w : World) (enc : κ → Value) : MapB (w.alloc (.map #[] 0)) w.heap.size enc [] := ⟨#[], 0, heap_alloc_new w _, rfl⟩
theorem MapB.new' (w : World) (enc : κ → Value) {b : Nat} (hb : b = w.heap.size) : MapB (w.alloc (.map #[] 0)) b enc [] := ⟨#[], 0, hb ▸ heap_alloc_new w _, rfl⟩
end
section
variable {κ : Type} [DecidableEq κ] {w : World} {b : Nat} {enc : κ → Value} {l : List (κ × Value)}
theorem MapB.lookup_ok {P : Program} {t kt et : TypeId} (h : MapB w b enc l) (K : KeyOk P kt enc) (ht : P.underlying t = some (.map kt et)) {z : Value} (hz : (zeroValue et).run P w = .ok z w) (k : κ) :
 (Instr.lookup t (.map (some b)) (enc k) true).run P w = .ok (.tuple #[(alook l k).getD z, .bool (alook l k).isSome]) w := by
 obtain ⟨es, clock, hb, he⟩ := h
 have hf := K.find w k es.toList l he
 simp only [Instr.lookup, Sem.run_bind, run_underlying ht, Result.andThen_ok, getObj, Sem.run, hb, Sem.run_pure, K.check, hf]
 cases hi : alookI l k 0 with
 | none => rw [alookI_none] at hi; simp [hi, hz]
 | some r => have := (alookI_some hi).1; simp [this]
theorem MapB.lookup_bare {P : Program} {t kt et : TypeId} (h : MapB w b enc l) (K : KeyOk P kt enc) (ht : P.underlying t = some (.map kt et)) {z : Value} (hz : (zeroValue et).run P w = .ok z w) (k : κ) :
 (Instr.lookup t (.map (some b)) (enc k) false).run P w = .ok ((alook l k).getD z) w := by
 obtain ⟨es, clock, hb, he⟩ := h
 have hf := K.find w k es.toList l he
 simp only [Instr.lookup, Sem.run_bind, run_underlying ht, Result.andThen_ok, getObj, Sem.run, hb, Sem.run_pure, K.check, hf]
 cases hi : alookI l k 0 with
 | none => rw [alookI_none] at hi; simp [hi, hz]
 | some r => have := (alookI_some hi).1; simp [this]
theorem MapB.update {P : Program} {t kt et : TypeId} (h : MapB w b enc l) (K : KeyOk P kt enc) (ht : P.underlying t = some (.map kt et)) (k : κ) (v : Value) :
 ∃ w', (Instr.mapUpdate t (.map (some b)) (enc k) v).run P w = .ok () w' ∧ MapB w' b enc (aput l k v) ∧ w.grownBy w' (some b) := by
 obtain ⟨es, clock, hb, he⟩ := h
 have hf := K.find w k es.toList l he
 have hlt : b < w.heap.size := (Array.getElem?_eq_some_iff.1 hb).1
 have hset : ∀ o : Obj, (w.heap.setIfInBounds b o)[b]? = some o := fun o => by simp [hlt]
 have hgr : ∀ o : Obj, w.grownBy { w with heap := w.heap.setIfInBounds b o } (some b) := fun o =>
  ⟨rfl, rfl, rfl, by simp, fun i _ hi => by simp only [ne_eq, Option.some.injEq] at hi; simp [Ne.symm hi]⟩
 cases hi : alookI l k 0 with
 | none =>
   rw [hi] at hf
   rw [alookI_none] at hi
   refine ⟨{ w with heap := w.heap.setIfInBounds b (.map (es.push { key := enc k, val := v, born := clock }) (clock + 1)) }, ?_, ⟨_, _, hset _, ?_⟩, hgr _⟩
   ·simp only [Instr.mapUpdate, Sem.run_bind, run_underlying ht, Result.andThen_ok, getObj, Sem.run, hb, K.check, hf, setObj]
   ·rw [aput_push hi]; simp [he]
 | some r =>
   rw [hi] at hf
   obtain ⟨h1, _, p, hp, hpk⟩ := alookI_some hi
   simp only [Nat.sub_zero] at hp
   have hkey : ((es[r.1]?).map (·.key)).getD (enc k) = enc k := by
    have h2 : (es.toList.map (fun e => (e.key, e.val)))[r.1]? = (l.map (fun p => (enc p.1, p.2)))[r.1]? := by rw [he]
    simp only [List.getElem?_map, hp, Option.map_some, Array.getElem?_toList] at h2
    cases h3 : es[r.1]? with
    | none => simp [h3] at h2
    | some e => simp [h3] at h2; simp [h2.1, hpk]
   refine ⟨{ w with heap := w.heap.setIfInBounds b (.map (es.modify r.1 fun e => { e with key := enc k, val := v }) clock) }, ?_, ⟨_, _, hset _, ?_⟩, hgr _⟩
   ·simp only [Instr.mapUpdate, Sem.run_bind, run_underlying ht, Result.andThen_ok, getObj, Sem.run, hb, K.check, hf, setObj, hkey, Instr.keyThatStays, K.bits, if_true, Sem.run_pure]
   ·rw [aput_modify (j := r.1) (u := r.2) (by rw [hi]), Nat.sub_zero]
    apply List.ext_getElem?
    intro j
    have h2 : (es.toList.map (fun e => (e.key, e.val)))[j]? = (l.map (fun p => (enc p.1, p.2)))[j]? := by rw [he]
    simp only [List.getElem?_map, Array.getElem?_toList] at h2
    simp only [List.getElem?_map, Array.getElem?_toList, Array.getElem?_modify, List.getElem?_modify]
    by_cases hj : r.1 = j
    ·subst hj
     simp only [hp, if_true] at h2 ⊢
     cases h3 : es[r.1]? with
     | none => simp [h3] at h2
     | some e => simp [hpk]
    ·simp only [hj, if_false]
     simpa using h2
end
theorem wpList_mapUpdateB {κ : Type} [DecidableEq κ] {P : Program} (w : World) {ops : Array Oper} {rest : List Oper} {o : Oper} {a : Act} {Q : Exit → Act → World → Prop}
 (hg : o.guard = none) (m x v : Operand) (t : TypeId) (hop : o.op = Op.mapUpdate t m x v ∨ o.op = Op.insert t m x v)
 (kt et : TypeId) (enc : κ → Value) (K : KeyOk P kt enc) (ht : P.underlying t = some (.map kt et)) (b : Nat) (l : List (κ × Value)) (hm : a.eval m = .map (some b)) (h : MapB w b enc l)
 (k : κ) (u : Value) (hx : a.eval x = enc k) (hv : a.eval v = u)
 (hK : ∀ w', MapB w' b enc (aput l k u) → w.grownBy w' (some b) → wpList P ops Q rest (a.put o.dst undef) w') : wpList P ops Q (o :: rest) a w := by
 refine wpList_plain hg fun K' hK' => ?_
 obtain ⟨w', hrun, r1, r2⟩ := h.update K ht k u
 unfold Oper.wp
 rcases hop with hop | hop
 all_goals
  simp only [execOp, hop, hm, hx, hv, Sem.run_bind, hrun, Result.andThen_ok, Sem.run_pure, Oper.upon_skip]
  exact hK' _ _ (hK w' r1 r2)
end Go.Spy
namespace Go.Spy
open Go.RowKit
structure StrsV (w : World) (ao : Option Addr) (cap : Nat) (ss : List ByteArray) : Prop where
 len : ss.length ≤ 140737488351232
 size : ∀ i (h : i < ss.length), ss[i].size ≤ 9223372036854775807
 cells : 0 < ss.length → ∃ b off, ao = some ⟨b, off, none⟩ ∧ b < w.heap.size ∧ ∀ i (h : i < ss.length), w.cell? ⟨b, off + i, none⟩ = some (.string ss[i])
theorem StrsV.ext {w w' : World} {ao : Option Addr} {cap : Nat} {ss : List ByteArray} (h : StrsV w ao cap ss) (e : Ext w w') : StrsV w' ao cap ss where
 len := h.len
 size := h.size
 cells h0 := by
  obtain ⟨b, off, ha, hb, hc⟩ := h.cells h0
  exact ⟨b, off, ha, Nat.lt_of_lt_of_le hb e.size, fun i hi => (e.cell (p := ⟨b, off + i, none⟩) hb).trans (hc i hi)⟩
end Go.Spy
namespace Go.Spy
open Go.RowKit
section
variable {w w' : World} {base size n cap g : Nat} {e : TypeId} {v : Value} {xs : List Value} {S : Nat → Prop}
theorem owns_chg (h : w.ownsRow base e size v n xs) (c : Chg S w w') (hS : ∀ k, v.ownBlock = some k → ¬ S k) : w'.ownsRow base e size v n xs := by
 refine ⟨h.1, ?_⟩
 rcases h.2 with h0 | ⟨g, cap, cur, rfl, hb, hg, rest⟩
 ·exact .inl h0
 ·exact .inr ⟨g, cap, cur, rfl, hb, (c.block g (Array.getElem?_eq_some_iff.1 hg).1 (hS g rfl)).trans hg, rest⟩
theorem owns_setOther (h : w.ownsRow base e size v n xs) {p : Addr} (hp : v.ownBlock ≠ some p.block) (u : Value) : (w.setCell p u).ownsRow base e size v n xs :=
 owns_chg (S := fun k => k = p.block) h (Chg.setCell (S := fun k => k = p.block) (Chg.refl _ w) (by rfl) u) (fun k hk e => hp (e ▸ hk))
theorem owns_drew (h : w.ownsRow base e size v n xs) : w.drew.ownsRow base e size v n xs := h
theorem owns_set (h : w.ownsRow base e size (.slice (some ⟨g, 0, none⟩) n cap) n xs) {j : Nat} (_hj : j < n * size) (u : Value) :
 (w.setCell ⟨g, j, none⟩ u).ownsRow base e size (.slice (some ⟨g, 0, none⟩) n cap) n (xs.set j u) := by
 refine ⟨by simpa using h.1, ?_⟩
 rcases h.2 with ⟨h0, _⟩ | ⟨g', cap', cur, hv, hb, hg, hnc, hcm, hcs, ht⟩
 ·simp at h0
 ·simp only [Value.slice.injEq, Option.some.injEq, Addr.mk.injEq, and_true, true_and] at hv
  obtain ⟨rfl, rfl⟩ := hv
  refine .inr ⟨g, cap, cur.setIfInBounds j u, rfl, hb, ?_, hnc, hcm, by simpa using hcs, ?_⟩
  ·exact (show Blk w g e cur from hg).set j u
  ·rw [Array.toList_setIfInBounds, List.take_set, ht]
end
end Go.Spy
namespace Go.Spy
open Go.RowKit
def splice (vs : Array Value) (off : Nat) (A : Array Value) : Array Value := (vs.toList.take off ++ A.toList ++ vs.toList.drop (off + A.size)).toArray
section
variable {vs A : Array Value} {off i j : Nat}
theorem splice_get (h : off + A.size ≤ vs.size) (i : Nat) : (splice vs off A)[i]? = if off ≤ i ∧ i < off + A.size then A[i - off]? else vs[i]? := by
 simp only [splice, List.getElem?_toArray, List.getElem?_append, List.length_append, List.length_take, Array.length_toList, List.getElem?_take, List.getElem?_drop, Array.getElem?_toList]
 have h1 : min off vs.size = off := by omega
 rw [h1]
 by_cases a : i < off
 ·rw [if_pos (by omega), if_pos a, if_pos a, if_neg (by omega)]
 ·by_cases b : i < off + A.size
  ·rw [if_pos b, if_neg a, if_pos ⟨by omega, b⟩]
  ·rw [if_neg b, if_neg (by omega)]
   congr 1; omega
theorem splice_all (h : vs.size = A.size) : splice vs 0 A = A := by
 apply Array.ext_getElem?
 intro i
 rw [splice_get (by omega)]
 split
 ·rfl
 ·rw [Array.getElem?_eq_none (by omega), Array.getElem?_eq_none (by omega)]
end
def Ones (A : Array Value) : Prop := ∀ v ∈ A, v.oneCell' = true
theorem ones_mk {A : Array Value} (h : ∀ (i : Nat) (v : Value), A[i]? = some v → v.oneCell' = true) : Ones A := by
 intro v hv
 obtain ⟨i, hi⟩ := Array.getElem?_of_mem hv
 exact h i v hi
section
variable {w w' : World} {b : Nat} {t : TypeId} {vs : Array Value}
theorem Blk.setRow (h : Blk w b t vs) (cs : Array Value) : Blk (w.setRow b cs) b t cs := setRow_heap w b vs cs t _ h
theorem Chg.setRow {S : Nat → Prop} {a : World} (h : Chg S a w) {g : Nat} (hg : S g) (cs : Array Value) : Chg S a (w.setRow g cs) :=
 h.trans ⟨rfl, rfl, rfl, by simp, fun k _ hs => setRow_other w g k cs (fun e => hs (e ▸ hg))⟩
end
section
variable {P : Program}
theorem run_storeVar_at (w : World) (g off : Nat) (t ty : TypeId) (vs A : Array Value) (hg : Blk w g t vs) (hi : (P.info? ty).map (·.size) = some A.size)
 (hf : off + A.size ≤ vs.size) (h1 : Ones A) :
 (storeVar ty ⟨g, off, none⟩ (.agg A)).run P w = .ok () (w.setRow g (splice vs off A)) := by
 have := run_storeCells_at P g off t A.toList 0 vs w hg (by simpa using hf) (fun v hv => h1 v (by simpa using hv))
 cases hq : P.info? ty with
 | none => simp [hq] at hi
 | some i =>
   have hs : A.size = i.size := by simp [hq] at hi; omega
   simp only [storeVar, sizeOf, typeInfo, Value.cells, Sem.run_bind, run_program, Result.andThen_ok, hq, Sem.run_pure, hs, ne_eq, not_true_eq_false, if_false, this]
   simp only [splice, Array.length_toList, Nat.add_zero, hs]
theorem run_loadVar_at (w : World) (g off : Nat) (t ty : TypeId) (vs : Array Value) (d : TypeDesc) (n : Nat) (hg : Blk w g t vs)
 (hu : P.underlying ty = some d) (hd : (match d with | .struct _ | .array _ _ => true | _ => false) = true) (hi : (P.info? ty).map (·.size) = some n) (hf : off + n ≤ vs.size) :
 (loadVar ty ⟨g, off, none⟩).run P w = .ok (.agg (vs.extract off (off + n))) w := by
 have hlen : (vs.extract off (off + n)).toList.length = n := by simp; omega
 have hl := run_loadCells_list (P := P) w ⟨g, off, none⟩ (vs.extract off (off + n)).toList (fun j v hv => by
  have hadd : (⟨g, off, none⟩ : Addr).add j = ⟨g, off + j, none⟩ := by unfold Addr.add; split <;> simp_all
  have hj : j < n := by
   have := (List.getElem?_eq_some_iff.1 hv).1
   omega
  rw [hadd, cell_of_row w g (off + j) vs t (0, 0) hg]
  rw [Array.getElem?_toList, Array.getElem?_extract_of_lt (by omega)] at hv
  rw [← hv]; exact Array.getElem?_eq_getElem _)
 cases hq : P.info? ty with
 | none => simp [hq] at hi
 | some i =>
   have hs : i.size = n := by simpa [hq] using hi
   have hagg : (isAgg ty).run P w = .ok true w := by
    unfold isAgg
    rw [Sem.run_bind, run_underlying hu w]
    cases d <;> simp_all
   rw [hlen] at hl
   simp only [Array.toArray_toList] at hl
   simp [loadVar, Sem.run_bind, hagg, sizeOf, typeInfo, hq, hs, hl]
theorem wpList_load_agg {ops : Array Oper} {rest : List Oper} {o : Oper} {a : Act} {w : World} {Q : Exit → Act → World → Prop} (hgd : o.guard = none) (ty : TypeId) (x : Operand) (ho : o.op = .load ty x)
 (g off : Nat) (hx : a.eval x = .pointer (some ⟨g, off, none⟩)) (t : TypeId) (vs : Array Value) (d : TypeDesc) (n : Nat) (hg : Blk w g t vs)
 (hu : P.underlying ty = some d) (hd : (match d with | .struct _ | .array _ _ => true | _ => false) = true) (hi : (P.info? ty).map (·.size) = some n) (hf : off + n ≤ vs.size)
 (h : ∀ C, Hid (C = vs.extract off (off + n)) → wpList P ops Q rest (a.put o.dst (.agg C)) w) : wpList P ops Q (o :: rest) a w :=
 wpList_plain hgd fun _ hK => by
  unfold Oper.wp execOp
  simp only [ho, hx, Instr.loadAt, Instr.sureAddr, Sem.run_bind, Sem.run_pure, Result.andThen_ok, run_loadVar_at w g off t ty vs d n hg hu hd hi hf]
  exact hK _ _ (h _ rfl)
theorem wpList_store_agg {ops : Array Oper} {rest : List Oper} {o : Oper} {a : Act} {w : World} {Q : Exit → Act → World → Prop} (hgd : o.guard = none) (ty : TypeId) (x y : Operand) (ho : o.op = .store ty x y)
 (g off : Nat) (A : Array Value) (hx : a.eval x = .pointer (some ⟨g, off, none⟩)) (hy : a.eval y = .agg A)
 (t : TypeId) (vs : Array Value) (hg : Blk w g t vs) (hi : (P.info? ty).map (·.size) = some A.size) (hf : off + A.size ≤ vs.size) (h1 : Ones A)
 (h : ∀ w', Hid (Blk w' g t (splice vs off A) ∧ Chg (· = g) w w') → w'.heap.size = w.heap.size → wpList P ops Q rest (a.put o.dst undef) w') : wpList P ops Q (o :: rest) a w :=
 wpList_plain hgd fun _ hK => by
  unfold Oper.wp execOp
  simp only [ho, hx, hy, Instr.storeAt, Instr.sureAddr, Sem.run_bind, Sem.run_pure, Result.andThen_ok, run_storeVar_at w g off t ty vs A hg hi hf h1]
  exact hK _ _ (h _ ⟨hg.setRow _, (Chg.refl (· = g) _).setRow (g := g) rfl _⟩ (by simp))
theorem wpList_alloc_agg {ops : Array Oper} {rest : List Oper} {o : Oper} {a : Act} {w : World} {Q : Exit → Act → World → Prop} (hgd : o.guard = none) (ty : TypeId) (ho : o.op = .alloc ty)
 (Z : Array Value) (hz : (P.info? ty).map (·.zero) = some (some (.agg Z)))
 (h : ∀ w', Hid (Blk w' w.heap.size ty Z ∧ Ext w w') → w'.heap.size = w.heap.size + 1 → wpList P ops Q rest (a.put o.dst (.pointer (some ⟨w.heap.size, 0, none⟩))) w') : wpList P ops Q (o :: rest) a w :=
 wpList_plain hgd fun _ hK => by
  cases hq : P.info? ty with
  | none => simp [hq] at hz
  | some i =>
    have hs : i.zero = some (.agg Z) := by simpa [hq] using hz
    unfold Oper.wp execOp
    simp only [ho, Instr.alloc, zeroValue, typeInfo, hq, hs, newVar, newRow, run_newObj_alloc, run_program, Value.cells, Sem.run_bind, Sem.run_pure, Result.andThen_ok]
    exact hK _ _ (h _ ⟨Blk.new w ty Z, (Below.refl _ _).alloc (Nat.le_refl _) _⟩ (by simp))
theorem wpList_alloc_aggN {ops : Array Oper} {rest : List Oper} {o : Oper} {a : Act} {w : World} {Q : Exit → Act → World → Prop} (hgd : o.guard = none) (ty : TypeId) (ho : o.op = .alloc ty)
 (Z : Array Value) (hz : (P.info? ty).map (·.zero) = some (some (.agg Z)))
 (h : ∀ Z', Hid (Z' = Z) → wpList P ops Q rest (a.put o.dst (.pointer (some ⟨w.heap.size, 0, none⟩))) (w.alloc (.cells Z' ty))) : wpList P ops Q (o :: rest) a w :=
 wpList_plain hgd fun _ hK => by
  cases hq : P.info? ty with
  | none => simp [hq] at hz
  | some i =>
    have hs : i.zero = some (.agg Z) := by simpa [hq] using hz
    unfold Oper.wp execOp
    simp only [ho, Instr.alloc, zeroValue, typeInfo, hq, hs, newVar, newRow, run_newObj_alloc, run_program, Value.cells, Sem.run_bind, Sem.run_pure, Result.andThen_ok]
    exact hK _ _ (h _ rfl)
theorem wpList_alloc_aggD {ops : Array Oper} {rest : List Oper} {o : Oper} {a : Act} {w : World} {Q : Exit → Act → World → Prop} (hgd : o.guard = none) (ty : TypeId) (ho : o.op = .alloc ty) (d : Tmp) (_ : o.dst = some d)
 (Z : Array Value) (hz : (P.info? ty).map (·.zero) = some (some (.agg Z)))
 (h : ∀ Z', Hid (Z' = Z) → wpList P ops Q rest (a.put o.dst (.pointer (some ⟨w.heap.size, 0, none⟩))) (w.alloc (.cells Z' ty))) : wpList P ops Q (o :: rest) a w :=
 wpList_alloc_aggN hgd ty ho Z hz h
theorem setRow_last (w : World) (t : TypeId) (Z A : Array Value) {g : Nat} (hg : g = w.heap.size) : (w.alloc (.cells Z t)).setRow g A = w.alloc (.cells A t) := by
 subst hg
 unfold World.setRow World.alloc
 congr 1
 apply Array.ext_getElem?
 intro i
 rw [Array.getElem?_modify, Array.getElem?_push, Array.getElem?_push]
 by_cases h : i = w.heap.size
 ·subst h; simp
 ·simp [h, Ne.symm h]
theorem wpList_store_last {ops : Array Oper} {rest : List Oper} {o : Oper} {a : Act} {w : World} {Q : Exit → Act → World → Prop} (hgd : o.guard = none) (ty : TypeId) (x y : Operand) (ho : o.op = .store ty x y)
 (g : Nat) (A : Array Value) (hx : a.eval x = .pointer (some ⟨g, 0, none⟩)) (hy : a.eval y = .agg A)
 (t : TypeId) (Z : Array Value) (hg : g = w.heap.size) (hi : (P.info? ty).map (·.size) = some A.size) (hf : Z.size = A.size) (h1 : Ones A)
 (h : wpList P ops Q rest (a.put o.dst undef) (w.alloc (.cells A t))) : wpList P ops Q (o :: rest) a (w.alloc (.cells Z t)) :=
 wpList_plain hgd fun _ hK => by
  unfold Oper.wp execOp
  simp only [ho, hx, hy, Instr.storeAt, Instr.sureAddr, Sem.run_bind, Sem.run_pure, Result.andThen_ok, run_storeVar_at (P := P) (w.alloc (.cells Z t)) g 0 t ty Z A (Blk.new' w t Z hg) hi (by omega) h1, splice_all hf, setRow_last w t Z A hg]
  exact hK _ _ h
theorem wpList_box_agg {ops : Array Oper} {rest : List Oper} {o : Oper} {a : Act} {w : World} {Q : Exit → Act → World → Prop} (hgd : o.guard = none) (ty : TypeId) (x : Operand) (ho : o.op = .box ty x)
 (A : Array Value) (hx : a.eval x = .agg A)
 (h : ∀ w', Hid (Blk w' w.heap.size ty A ∧ Ext w w') → w'.heap.size = w.heap.size + 1 → wpList P ops Q rest (a.put o.dst (.pointer (some ⟨w.heap.size, 0, none⟩))) w') : wpList P ops Q (o :: rest) a w :=
 wpList_plain hgd fun _ hK => by
  unfold Oper.wp execOp
  simp only [ho, hx, Instr.box, newVar, newRow, run_newObj_alloc, Value.cells, Sem.run_bind, Sem.run_pure, Result.andThen_ok]
  exact hK _ _ (h _ ⟨Blk.new w ty A, (Below.refl _ _).alloc (Nat.le_refl _) _⟩ (by simp))
theorem results_cell_agg {fn : Func} {p : Tmp} {ty : TypeId} (h : fn.results = #[.cell p ty]) (tmps : Array Value) (w : World) (g : Nat) (t : TypeId) (vs : Array Value) (d : TypeDesc)
 (hp : tmps.getD p undef = .pointer (some ⟨g, 0, none⟩)) (hg : Blk w g t vs)
 (hu : P.underlying ty = some d) (hd : (match d with | .struct _ | .array _ _ => true | _ => false) = true) (hi : (P.info? ty).map (·.size) = some vs.size) :
 (results fn tmps).run P w = .ok (.agg vs) w :=
 results_cell_row h tmps w g t vs (0, 0) d hp hg hu hd hi
theorem results_cell_agg_tmp {fn : Func} {p u : Tmp} {ty : TypeId} (h : fn.results = #[.cell p ty, .tmp u]) (tmps : Array Value) (w : World) (g : Nat) (t : TypeId) (vs : Array Value) (d : TypeDesc) (v : Value)
 (hp : tmps.getD p undef = .pointer (some ⟨g, 0, none⟩)) (hv : tmps.getD u undef = v) (hg : Blk w g t vs)
 (hu : P.underlying ty = some d) (hd : (match d with | .struct _ | .array _ _ => true | _ => false) = true) (hi : (P.info? ty).map (·.size) = some vs.size) :
 (results fn tmps).run P w = .ok (.tuple #[.agg vs, v]) w := by
 rw [results_cell_tmp h]
 simp only [hp, asAddr, Sem.run_pure, Result.andThen_ok, run_loadVar_row w g t ty vs (0, 0) d hg hu hd hi, hv]
theorem wpList_build_agg {ops : Array Oper} {rest : List Oper} {o : Oper} {a : Act} {w : World} {Q : Exit → Act → World → Prop} (hgd : o.guard = none) (t : TypeId) (parts : Array (Nat × Operand)) (ho : o.op = .build t parts)
 (ps : List (Nat × Value)) (hps : (parts.toList.map fun p => (p.1, a.eval p.2)) = ps) (C : Array Value) (hb : P.built t ps = some C)
 (h : ∀ C', Hid (C' = C) → wpList P ops Q rest (a.put o.dst (.agg C')) w) : wpList P ops Q (o :: rest) a w :=
 wpList_plain hgd fun _ hK => by
  have hp : (parts.map fun (i, x) => (i, a.eval x)).toList = ps := by rw [Array.toList_map]; exact hps
  unfold Oper.wp execOp
  simp only [ho, Sem.run_bind, run_build w t _ C (by rw [hp]; exact hb), Result.andThen_ok]
  exact hK _ _ (h _ rfl)
theorem foldl_splice (l : List Value) (off i : Nat) (cs : Array Value) (h : off + i + l.length ≤ cs.size) :
 (l.zipIdx i).foldl (fun cs (x : Value × Nat) => cs.setIfInBounds (off + x.2) x.1) cs = splice cs (off + i) l.toArray := by
 induction l generalizing i cs with
 | nil =>
   apply Array.ext_getElem?
   intro j
   rw [splice_get (by simpa using h)]
   simp only [List.zipIdx_nil, List.foldl_nil, List.size_toArray, List.length_nil]
   rw [if_neg (by omega)]
 | cons v l ih =>
   simp only [List.zipIdx_cons, List.foldl_cons]
   simp only [List.length_cons] at h
   rw [ih (i + 1) _ (by simp; omega)]
   apply Array.ext_getElem?
   intro j
   rw [splice_get (by simp; omega), splice_get (by simp; omega)]
   simp only [List.size_toArray, List.length_cons, List.getElem?_toArray]
   by_cases hj : off + i = j
   ·subst hj
    rw [if_neg (by omega), if_pos (by omega), Array.getElem?_setIfInBounds_self]
    rw [if_pos (by omega), Nat.sub_self]; rfl
   ·by_cases h1 : off + (i + 1) ≤ j ∧ j < off + (i + 1) + l.length
    ·rw [if_pos h1, if_pos (by omega), show j - (off + i) = (j - (off + (i + 1))) + 1 by omega]; rfl
    ·rw [if_neg h1, if_neg (by omega), Array.getElem?_setIfInBounds_ne hj]
theorem fill_one {place : Nat → Option (Nat × Nat)} {cells : Array Value} {i off size : Nat} {v : Value} {rest : List (Nat × Value)} (hp : place i = some (off, size)) (hs : v.cells.size = size) (hf : off + size ≤ cells.size) :
 Instr.fill place cells ((i, v) :: rest) = Instr.fill place (splice cells off v.cells) rest := by
 rw [Instr.fill, hp]
 have hc : ¬ (v.cells.size ≠ size || decide (off + v.cells.size > cells.size)) = true := by
  simp [hs]; omega
 simp only [hc]
 have := foldl_splice v.cells.toList off 0 cells (by simp; omega)
 rw [← Array.foldl_toList, Array.toList_zipIdx]
 simpa using congrArg (fun c => Instr.fill place c rest) this
end
end Go.Spy
namespace Go.Spy
open Go.RowKit
theorem get_of {A : Array Value} {i : Nat} {v : Value} {h : i < A.size} (e : A[i]? = some v) : A[i]'h = v := by
 rw [Array.getElem?_eq_getElem h] at e; exact Option.some.inj e
theorem ext_drewN {w w' : World} (h : Ext w w') (n : Nat) : Ext w (w'.drewN n) := ⟨h.os, h.tape, h.output, h.size, h.block⟩
theorem Blk.drewN {w : World} {b : Nat} {t : TypeId} {vs : Array Value} (h : Blk w b t vs) (n : Nat) : Blk (w.drewN n) b t vs := h
theorem Chg.drewN {S : Nat → Prop} {a w : World} (h : Chg S a w) (n : Nat) : Chg S a (w.drewN n) := ⟨h.os, h.tape, h.output, h.size, h.block⟩
theorem blk_ne {w : World} {b b' : Nat} {t t' : TypeId} {vs vs' : Array Value} (h : Blk w b t vs) (h' : Blk w b' t' vs') (ht : t ≠ t') : b ≠ b' := by
 rintro rfl
 have := Option.some.inj ((show w.heap[b]? = some (.cells vs t (0, 0)) from h).symm.trans h')
 simp only [Obj.cells.injEq] at this
 exact ht this.2.1
theorem flat_get {α β : Type} (f : α → List β) (s : Nat) (hf : ∀ x, (f x).length = s) : ∀ (d : List α) (j k : Nat), k < s → (d.flatMap f)[j * s + k]? = (d[j]?).bind (fun x => (f x)[k]?)
 | [], j, k, hk => by simp
 | x :: d, 0, k, hk => by
   simp only [List.flatMap_cons, Nat.zero_mul, Nat.zero_add, List.getElem?_cons_zero, Option.bind_some]
   rw [List.getElem?_append_left (by rw [hf]; exact hk)]
 | x :: d, j + 1, k, hk => by
   simp only [List.flatMap_cons, List.getElem?_cons_succ]
   rw [List.getElem?_append_right (by rw [hf, Nat.succ_mul]; omega), ← flat_get f s hf d j k hk, hf]
   congr 1
   rw [Nat.succ_mul]; omega
theorem flat_len {α β : Type} (f : α → List β) (s : Nat) (hf : ∀ x, (f x).length = s) (d : List α) : (d.flatMap f).length = d.length * s := by
 induction d with
 | nil => simp
 | cons x d ih => simp [ih, hf, Nat.succ_mul, Nat.add_comm]
theorem seg_lt {k n s j : Nat} (hk : k < n) (hj : j < s) : k * s + j < n * s := by
 have := Nat.mul_le_mul_right s hk
 rw [Nat.succ_mul] at this; omega
def rowV {α : Type} (f : α → Array Value) (xs : List α) : Array Value := (xs.flatMap fun x => (f x).toList).toArray
section
variable {α : Type} {f : α → Array Value} {s : Nat} {xs : List α} {k j : Nat} {x : α}
theorem rowV_size (hf : ∀ x, (f x).size = s) (xs : List α) : (rowV f xs).size = xs.length * s := by
 rw [rowV, List.size_toArray, flat_len _ s (fun x => by simpa using hf x)]
theorem rowV_get (hf : ∀ x, (f x).size = s) (hx : xs[k]? = some x) (hj : j < s) : (rowV f xs)[k * s + j]? = (f x)[j]? := by
 rw [rowV, List.getElem?_toArray, flat_get _ s (fun x => by simpa using hf x) _ _ _ hj, hx]; simp
theorem rowV_extract (hf : ∀ x, (f x).size = s) (hx : xs[k]? = some x) : (rowV f xs).extract (k * s) (k * s + s) = f x := by
 have hk : k < xs.length := (List.getElem?_eq_some_iff.1 hx).1
 have hsz := rowV_size hf xs
 have h1 : k * s + s ≤ xs.length * s := by have := Nat.mul_le_mul_right s hk; rw [Nat.succ_mul] at this; exact this
 apply Array.ext_getElem?
 intro i
 by_cases hi : i < s
 ·rw [Array.getElem?_extract_of_lt (by rw [hsz]; omega), ← rowV_get hf hx hi]; exact (Array.getElem?_eq_getElem _).symm
 ·rw [Array.getElem?_eq_none (by simp; omega), Array.getElem?_eq_none (by rw [hf]; omega)]
theorem rowV_splice (hf : ∀ x, (f x).size = s) (hk : k < xs.length) (y : α) : splice (rowV f xs) (k * s) (f y) = rowV f (xs.set k y) := by
 have hsz := rowV_size hf xs
 have h1 : k * s + s ≤ xs.length * s := by have := Nat.mul_le_mul_right s hk; rw [Nat.succ_mul] at this; exact this
 apply Array.ext_getElem?
 intro i
 rw [splice_get (by rw [hf, hsz]; exact h1), hf]
 by_cases h0 : s = 0
 ·subst h0
  have e1 : (rowV f xs).size = 0 := by rw [hsz, Nat.mul_zero]
  have e2 : (rowV f (xs.set k y)).size = 0 := by rw [rowV_size hf, Nat.mul_zero]
  rw [if_neg (by omega), Array.getElem?_eq_none (by omega), Array.getElem?_eq_none (by omega)]
 ·have hs : 0 < s := by omega
  have hi : i = (i / s) * s + i % s := by rw [Nat.mul_comm]; exact (Nat.div_add_mod i s).symm
  have hr : i % s < s := Nat.mod_lt _ hs
  generalize i / s = q at *
  generalize i % s = r at *
  subst hi
  by_cases hq : q = k
  ·subst hq
   rw [if_pos (by omega), rowV_get hf (x := y) (by simp [hk]) hr]; congr 1; omega
  ·have hne : ¬ (k * s ≤ q * s + r ∧ q * s + r < k * s + s) := by
    rintro ⟨a, b⟩
    rcases Nat.lt_or_gt_of_ne hq with h | h
    ·have := Nat.mul_le_mul_right s (show q + 1 ≤ k from h); rw [Nat.succ_mul] at this; omega
    ·have := Nat.mul_le_mul_right s (show k + 1 ≤ q from h); rw [Nat.succ_mul] at this; omega
   rw [if_neg hne]
   cases hx : xs[q]? with
   | some x => rw [rowV_get hf hx hr, rowV_get hf (x := x) (by rw [List.getElem?_set_ne (Ne.symm hq)]; exact hx) hr]
   | none =>
     have hl : xs.length ≤ q := by simpa using hx
     have := Nat.mul_le_mul_right s hl
     rw [Array.getElem?_eq_none (by rw [hsz]; omega), Array.getElem?_eq_none (by rw [rowV_size hf, List.length_set]; omega)]
end
end Go.Spy
namespace Go.Spy
open Go.RowKit
section
variable {α : Type}
def OwnR (w : World) (base : Nat) (e : TypeId) (s : Nat) (f : α → Array Value) (v : Value) (l : List α) : Prop := w.ownsRow base e s v l.length (l.flatMap fun x => (f x).toList)
structure ElemOk (P : Program) (t e : TypeId) (s bytes : Nat) : Prop where
 under : P.underlying t = some (.slice e)
 info : ∃ i z, P.info? e = some i ∧ i.zero = some z ∧ i.size = s ∧ i.bytes = bytes ∧ z.cells.size = s
 pos : 0 < s
 small : bytes ≤ 4096
variable {w w' : World} {base : Nat} {e : TypeId} {s : Nat} {f : α → Array Value} {v : Value} {l : List α}
theorem OwnR.nil (w : World) (base : Nat) (e : TypeId) (s : Nat) (f : α → Array Value) : OwnR w base e s f (.slice none 0 0) [] := World.ownsRow_nil _ _ _ _
theorem OwnR.alloc (h : OwnR w base e s f v l) (o : Obj) : OwnR (w.alloc o) base e s f v l := World.ownsRow.alloc h o
theorem OwnR.chg (h : OwnR w base e s f v l) {S : Nat → Prop} (c : Chg S w w') (hS : ∀ k, v.ownBlock = some k → ¬ S k) : OwnR w' base e s f v l := owns_chg h c hS
theorem OwnR.ext (h : OwnR w base e s f v l) (c : Ext w w') : OwnR w' base e s f v l := by
 refine ⟨h.1, ?_⟩
 rcases h.2 with h0 | ⟨g, cap, cur, rfl, hb, hg, rest⟩
 ·exact .inl h0
 ·exact .inr ⟨g, cap, cur, rfl, hb, (c.block g (Array.getElem?_eq_some_iff.1 hg).1).trans hg, rest⟩
theorem OwnR.lower (h : OwnR w base e s f v l) {b : Nat} (hb : b ≤ base) : OwnR w b e s f v l := by
 refine ⟨h.1, ?_⟩
 rcases h.2 with h0 | ⟨g, cap, cur, rfl, hb', rest⟩
 ·exact .inl h0
 ·exact .inr ⟨g, cap, cur, rfl, Nat.le_trans hb hb', rest⟩
theorem OwnR.lt (h : OwnR w base e s f v l) : ∀ k, v.ownBlock = some k → base ≤ k ∧ k < w.heap.size := World.ownsRow.lt h
theorem OwnR.cells (h : OwnR w base e s f v l) (hf : ∀ x, (f x).size = s) : ∃ ao c, v = .slice ao l.length c ∧ l.length ≤ c ∧ (l.length = 0 ∨ ∃ g, ao = some ⟨g, 0, none⟩ ∧ base ≤ g ∧ g < w.heap.size ∧ ∃ cur, Blk w g e cur ∧ cur.size = c * s ∧
 ∀ (j k : Nat) (x : α), l[j]? = some x → k < s → cur[j * s + k]? = (f x)[k]?) := by
 rcases h.2 with ⟨rfl, h0⟩ | ⟨g, cap, cur, rfl, hb, hg, hnc, hcm, hcs, ht⟩
 ·exact ⟨none, 0, by rw [h0], by omega, .inl h0⟩
 ·refine ⟨_, cap, rfl, hnc, .inr ⟨g, rfl, hb, (Array.getElem?_eq_some_iff.1 hg).1, cur, hg, hcs, fun j k x hx hk => ?_⟩⟩
  have h1 := flat_get (fun x => (f x).toList) s (fun x => by simpa using hf x) l j k hk
  rw [hx, Option.bind_some, ← ht] at h1
  have hj : j < l.length := (List.getElem?_eq_some_iff.1 hx).1
  have := seg_lt hj hk
  rw [List.getElem?_take, if_pos (by omega)] at h1
  simpa using h1
theorem wpList_append_R {P : Program} {t : TypeId} {bytes : Nat} (E : ElemOk P t e s bytes) (hf : ∀ x, (f x).size = s) (h1 : ∀ x, Ones (f x)) {w0 : World} (hown : Hid (OwnR w0 base e s f v l)) (hb : base ≤ w0.heap.size) (hn : l.length + 1 ≤ 1000000000) (x : α) (C : Array Value) (hC : C = f x)
 (H : Nat) (hH : w0.heap.size = H) {ops : Array Oper} {rest : List Oper} {o : Oper} {a : Act} {Q : Exit → Act → World → Prop} (hgd : o.guard = none) (so xo : Operand)
 (ho : o.op = .call { callee := .builtin .append, args := #[so, xo], argTypes := #[t, t] }) (hs : a.eval so = v) (hx : a.eval xo = .slice (some ⟨H, 0, none⟩) 1 1)
 (hK : ∀ (g cap : Nat) (v' : Value) (w4 : World), v' = .slice (some ⟨g, 0, none⟩) (l.length + 1) cap → Hid (OwnR w4 base e s f v' (l ++ [x])) → Hid (w0.grownBy w4 v.ownBlock ∧ (v.ownBlock = some g ∨ w0.heap.size ≤ g)) →
   wpList P ops Q rest (a.put o.dst v') w4) :
 wpList P ops Q (o :: rest) a (w0.alloc (.cells C e)) := by
 subst hH hC
 obtain ⟨i, z, hi, hz, hz1, hz2, hz3⟩ := E.info
 refine wpList_append_lies _ hgd so xo t ho base e i z s bytes E.under hi hz hz1 hz2 hz3 E.pos v l.length _ hs (World.ownsRow.alloc hown.out _) ⟨w0.heap.size, 0, none⟩ 1 1 (f x).toList hx (by simp [hf]) ?_ ?_ (by decide) (by unfold maxLen; omega) ?_ (by simp; omega) _ rfl ?_
 ·exact World.news_of_block (Blk.new w0 e (f x))
 ·intro u hu; exact h1 x u (by simpa using hu)
 ·have := E.small
  have : (l.length + 1) * bytes ≤ 1000000000 * 4096 := Nat.mul_le_mul hn this
  omega
 ·intro g cap w4 g1 g2 g3 _
  refine hK g cap _ w4 rfl (hid ?_) (hid ⟨?_, ?_⟩)
  ·unfold OwnR; rw [List.flatMap_append, List.length_append]; simpa using g1
  ·exact ⟨g2.os, g2.tape, g2.output, Nat.le_trans (by simp) g2.size, fun k hk hr => (g2.block k (by simp; omega) hr).trans (Below.heap_alloc _ _ _ hk)⟩
  ·rcases g3 with e | e
   ·exact .inl e
   ·right; simp at e; omega
theorem ext_grown {w wr w4 : World} {row : Option Nat} (h : Ext w wr) (k : wr.grownBy w4 row) (hr : ∀ i, row = some i → w.heap.size ≤ i) : Ext w w4 :=
 ⟨k.os.trans h.os, k.tape.trans h.tape, k.output.trans h.output, Nat.le_trans h.size k.size, fun i hi => (k.block i (Nat.lt_of_lt_of_le hi h.size) (fun e => by have := hr i e.symm; omega)).trans (h.block i hi)⟩
end
end Go.Spy
