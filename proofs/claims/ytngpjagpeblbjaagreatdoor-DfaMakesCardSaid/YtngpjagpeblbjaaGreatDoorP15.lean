/-
  Plain law: words in order; automata as a program holds them, and what is wrong with one.
  Automata in memory; a function value with bound arguments; slices.IndexFunc over numbers.
  Walks of dfa.Check, its closure and slices.ContainsFunc.
  Walk of slices.BinarySearch over words in order.
  Walks of DFA.goes, DFA.final and DFA.Match.
-/
import Derived.Sort.Walk0
import Derived.Test.YtngpjagpeblbjaaGreatDoorP14
import Derived.StillTailTactics
import Derived.Deep.QuietTactic
import Derived.BigQuiet
import Derived.BigRegion
import Derived.IntWalk
namespace Go.Tour
open Go.Spy
def ltB (a b : ByteArray) : Bool := Op.bytesLess a.toList b.toList
theorem ltB_iff {a b : ByteArray} : ltB a b = true ↔ a.toList < b.toList := by
 unfold ltB; rw [Go.Proofs.bytesLess_eq]; exact decide_eq_true_iff
theorem ltB_irr (a : ByteArray) : ltB a a = false := by
 cases h : ltB a a with
 | false => rfl
 | true => exact absurd (ltB_iff.1 h) (List.lt_irrefl _)
theorem ltB_trans {a b c : ByteArray} (h : ltB a b = true) (k : ltB b c = true) : ltB a c = true := ltB_iff.2 (List.lt_trans (ltB_iff.1 h) (ltB_iff.1 k))
theorem ltB_asymm {a b : ByteArray} (h : ltB a b = true) : ltB b a = false := by
 cases k : ltB b a with
 | false => rfl
 | true => have := ltB_trans h k; rw [ltB_irr] at this; cases this
theorem ltB_ne {a b : ByteArray} (h : ltB a b = true) : a ≠ b := by
 rintro rfl
 rw [ltB_irr] at h; cases h
def Rising (l : List ByteArray) : Prop := l.Pairwise fun a b => ltB a b = true
theorem Rising.nodup {l : List ByteArray} (h : Rising l) : l.Nodup := List.Pairwise.imp (fun h => ltB_ne h) h
theorem rising_ext : ∀ {l m : List ByteArray}, Rising l → Rising m → (∀ x, x ∈ l ↔ x ∈ m) → l = m
 | [], [], _, _, _ => rfl
 | [], y :: m, _, _, h => by have := (h y).2 (by simp); simp at this
 | x :: l, [], _, _, h => by have := (h x).1 (by simp); simp at this
 | x :: l, y :: m, hl, hm, h => by
   unfold Rising at hl hm
   rw [List.pairwise_cons] at hl hm
   have hxy : x = y := by
    rcases List.mem_cons.1 ((h x).1 (by simp)) with e | e
    ·exact e
    ·rcases List.mem_cons.1 ((h y).2 (by simp)) with e2 | e2
     ·exact e2.symm
     ·have := ltB_trans (hl.1 y e2) (hm.1 x e)
      rw [ltB_irr] at this; cases this
   subst hxy
   congr 1
   refine rising_ext hl.2 hm.2 fun z => ?_
   constructor
   ·intro hz
    rcases List.mem_cons.1 ((h z).1 (by simp [hz])) with e | e
    ·subst e; have := hl.1 z hz; rw [ltB_irr] at this; cases this
    ·exact e
   ·intro hz
    rcases List.mem_cons.1 ((h z).2 (by simp [hz])) with e | e
    ·subst e; have := hm.1 z hz; rw [ltB_irr] at this; cases this
    ·exact e
theorem Rising.get {l : List ByteArray} (h : Rising l) {i j : Nat} {x y : ByteArray} (hij : i < j) (hx : l[i]? = some x) (hy : l[j]? = some y) : ltB x y = true := by
 obtain ⟨h1, rfl⟩ := List.getElem?_eq_some_iff.1 hx
 obtain ⟨h2, rfl⟩ := List.getElem?_eq_some_iff.1 hy
 exact List.pairwise_iff_getElem.1 h i j h1 h2 hij
def chainB (l : List ByteArray) : Bool := (List.range (l.length - 1)).all fun i => match l[i]?, l[i + 1]? with | some x, some y => ltB x y | _, _ => true
theorem chain_rising : ∀ {l : List ByteArray}, (∀ i x y, l[i]? = some x → l[i + 1]? = some y → ltB x y = true) → Rising l
 | [], _ => List.Pairwise.nil
 | [x], _ => by simp [Rising]
 | x :: y :: l, h => by
   have ih : Rising (y :: l) := chain_rising (fun i a b ha hb => h (i + 1) a b (by simpa using ha) (by simpa using hb))
   have hxy := h 0 x y rfl rfl
   refine List.pairwise_cons.2 ⟨fun z hz => ?_, ih⟩
   rcases List.mem_cons.1 hz with rfl | hz
   ·exact hxy
   ·exact ltB_trans hxy ((List.pairwise_cons.1 ih).1 z hz)
theorem chainB_iff {l : List ByteArray} : chainB l = true ↔ Rising l := by
 unfold chainB
 rw [List.all_eq_true]
 constructor
 ·intro h
  refine chain_rising fun i x y hx hy => ?_
  have h1 := (List.getElem?_eq_some_iff.1 hy).1
  have := h i (List.mem_range.2 (by omega))
  rw [hx, hy] at this
  exact this
 ·intro h i hi
  have hi := List.mem_range.1 hi
  rw [List.getElem?_eq_getElem (show i < l.length by omega), List.getElem?_eq_getElem (show i + 1 < l.length by omega)]
  exact h.get (show i < i + 1 by omega) (List.getElem?_eq_getElem _) (List.getElem?_eq_getElem _)
structure DR where
 syms : List ByteArray
 next : List (List Int)
 fin : List Bool
abbrev DA := DF ByteArray
def DF.raw (d : DA) : DR := ⟨d.syms, d.next.map (·.map Int.ofNat), d.fin⟩
def rowBad (m n : Nat) (r : List Int) : Bool := decide (r.length ≠ m) || r.any fun s => decide (s < 0) || decide ((n : Int) ≤ s)
def checkE (nameOk : ByteArray → Bool) (d : DR) : Nat :=
 if 256 < d.next.length ∨ 256 < d.fin.length then 17
 else if d.next.length = 0 ∨ d.fin.length ≠ d.next.length then 12
 else if d.next.any (rowBad d.syms.length d.next.length) = true then 12
 else if d.syms.any (fun s => !nameOk s) = true then 11
 else if chainB d.syms = false then 14
 else 0
structure WellD (nameOk : ByteArray → Bool) (d : DA) : Prop where
 ok : OkD d
 most : d.next.length ≤ 256
 names : ∀ s ∈ d.syms, nameOk s = true
 rising : Rising d.syms
theorem check_ok {nameOk : ByteArray → Bool} {d : DR} (h : checkE nameOk d = 0) : ∃ D : DA, d = D.raw ∧ WellD nameOk D := by
 unfold checkE at h
 split at h
 ·cases h
 split at h
 ·cases h
 split at h
 ·cases h
 split at h
 ·cases h
 split at h
 ·cases h
 rename_i h1 h2 h3 h4 h5
 have hrow : ∀ r ∈ d.next, r.length = d.syms.length ∧ ∀ s ∈ r, 0 ≤ s ∧ s < d.next.length := by
  intro r hr
  have : rowBad d.syms.length d.next.length r = false := by
   cases e : rowBad d.syms.length d.next.length r with
   | false => rfl
   | true => exact absurd (List.any_eq_true.2 ⟨r, hr, e⟩) h3
  simp only [rowBad, Bool.or_eq_false_iff, decide_eq_false_iff_not, List.any_eq_false, Bool.or_eq_true, decide_eq_true_eq] at this
  refine ⟨by omega, fun s hs => ?_⟩
  have := this.2 s hs
  omega
 have hraw : ∀ r ∈ d.next, (r.map Int.toNat).map Int.ofNat = r := by
  intro r hr
  rw [List.map_map]
  conv => rhs; rw [← List.map_id r]
  refine List.map_congr_left fun s hs => ?_
  have := (hrow r hr).2 s hs
  show ((s.toNat : Nat) : Int) = s
  omega
 refine ⟨⟨d.syms, d.next.map (·.map Int.toNat), d.fin⟩, ?_, ?_⟩
 ·obtain ⟨a, b, c⟩ := d
  simp only [DF.raw, DR.mk.injEq, true_and, and_true]
  rw [List.map_map]
  conv => lhs; rw [← List.map_id b]
  refine List.map_congr_left fun r hr => ?_
  exact (hraw r hr).symm
 ·refine ⟨⟨by simp; omega, by simp; omega, ?_, ?_⟩, by simp; omega, fun s hs => ?_, chainB_iff.1 (by simpa using h5)⟩
  ·intro r hr
   simp only [List.mem_map] at hr
   obtain ⟨r, hr, rfl⟩ := hr
   simp [(hrow r hr).1]
  ·intro r hr s hs
   simp only [List.mem_map] at hr
   obtain ⟨r, hr, rfl⟩ := hr
   simp only [List.mem_map] at hs
   obtain ⟨s, hs, rfl⟩ := hs
   have := (hrow r hr).2 s hs
   simp only [List.length_map]
   omega
  ·have := fun h => h4 (List.any_eq_true.2 ⟨s, hs, h⟩)
   simpa using this
theorem well_check {nameOk : ByteArray → Bool} {D : DA} (h : WellD nameOk D) : checkE nameOk D.raw = 0 := by
 have hp := h.ok.pos
 have hf := h.ok.fin
 have hm := h.most
 unfold checkE
 rw [if_neg (by simp [DF.raw]; omega), if_neg (by simp only [DF.raw, List.length_map, not_or, ne_eq, Decidable.not_not]; exact ⟨by omega, hf⟩), if_neg, if_neg, if_neg]
 ·have := chainB_iff.2 h.rising
  simp only [DF.raw]; rw [this]; simp
 ·simp only [DF.raw, List.any_eq_true, not_exists, not_and]
  intro s hs
  simp [h.names s hs]
 ·simp only [DF.raw, List.any_eq_true, not_exists, not_and, List.mem_map]
  rintro _ ⟨r, hr, rfl⟩
  have h1 := h.ok.row r hr
  simp only [rowBad, List.length_map, h1, ne_eq, not_true_eq_false, decide_false, Bool.false_or, List.any_eq_true, List.mem_map, not_exists, not_and]
  rintro _ ⟨s, hs, rfl⟩
  have := h.ok.goes r hr s hs
  simp
  exact this
end Go.Tour
namespace Go.Spy
open Go.RowKit
theorem wpList_callb {P : Program} {ops : Array Oper} {rest : List Oper} {o : Oper} {a : Act} {w : World} {Q : Exit → Act → World → Prop} (hg : o.guard = none) (fo : Operand) (xs : Array Operand) (ts : Array TypeId)
 (ho : o.op = .call { callee := .value fo, args := xs, argTypes := ts }) {f : FuncId} {first caps : Array Value} (hE : Enters P f) (hf : a.eval fo = .func (.func f) first caps) {args : Array Value} (hx : xs.toList.map a.eval = args.toList) {Φ : Ending → World → Prop}
 (hc : Calls P f (first ++ args ++ caps) w Φ) (h : ∀ e w', Φ e w' → ∃ v, e = .returned v ∧ wpList P ops Q rest (a.put o.dst v) w') : wpList P ops Q (o :: rest) a w := by
 have hx : xs.map a.eval = args := Array.toList_inj.1 (by simpa using hx)
 refine wpList_plain hg fun K hK => ?_
 have hrun : (execOp a.eval o).run P w = .ok (.enter f (first ++ args ++ caps)) w := by
  simp only [execOp, ho, resolve, hf, hx, Deferred.ofValue, Sem.run_bind, Sem.run_pure, Result.andThen_ok, invoke]
  exact hE (first ++ args ++ caps) w
 unfold Oper.wp
 rw [hrun, Oper.upon_enter]
 refine hc.mono fun e w'' hh => ?_
 obtain ⟨v, rfl, hw⟩ := h e w'' hh
 exact hK _ _ hw
end Go.Spy
namespace Go.Proofs.YtngpjagpeblbjaaGreatDoor
open Go.RowKit Go.Spy Go.Heaped Go.Tour Go.Rx
def strC (b : ByteArray) : Array Value := #[.string b]
def intZ (z : Int) : Array Value := #[.int .i64 z]
def boolC (b : Bool) : Array Value := #[.bool b]
structure BndD (d : DR) : Prop where
 s : d.syms.length ≤ 1000
 n : d.next.length ≤ 1000
 f : d.fin.length ≤ 1000
 r : ∀ r ∈ d.next, r.length ≤ 1000
 b : ∀ s ∈ d.syms, s.size ≤ 1000000
structure DfaP (w : World) (vS vN vF : Value) (us : List Value) (d : DR) : Prop where
 syms : ReadR w 1 strC vS d.syms
 next : ReadR w 1 oneA vN us
 len : us.length = d.next.length
 rows : ∀ (i : Nat) (u : Value) (r : List Int), us[i]? = some u → d.next[i]? = some r → ReadR w 1 intZ u r
 fin : ReadR w 1 boolC vF d.fin
theorem DfaP.ext {w w' : World} {vS vN vF : Value} {us : List Value} {d : DR} (h : DfaP w vS vN vF us d) (e : Ext w w') : DfaP w' vS vN vF us d :=
 ⟨h.syms.ext e, h.next.ext e, h.len, fun i u r hu hr => (h.rows i u r hu hr).ext e, h.fin.ext e⟩
def DfaV (w : World) (v : Value) (d : DR) : Prop := ∃ vS vN vF us, v = .agg #[vS, vN, vF] ∧ DfaP w vS vN vF us d
theorem DfaV.ext {w w' : World} {v : Value} {d : DR} (h : DfaV w v d) (e : Ext w w') : DfaV w' v d := by
 obtain ⟨vS, vN, vF, us, rfl, h⟩ := h
 exact ⟨vS, vN, vF, us, rfl, h.ext e⟩
section
variable {α : Type} {w : World} {f : α → Array Value} {l : List α}
theorem ReadR.cell1 {g off n c : Nat} (h : ReadR w 1 f (.slice (some ⟨g, off, none⟩) n c) l) {j : Nat} {x : α} (hx : l[j]? = some x) : w.cell? ⟨g, off + j, none⟩ = (f x)[0]? := by
 have hn : n = l.length := by
  obtain ⟨ao, c', e, _⟩ := h
  simp only [Value.slice.injEq] at e
  exact e.2.1
 subst hn
 have h := h.cell hx (k := 0) (by decide)
 rwa [show off + (j * 1 + 0) = off + j by omega] at h
end
theorem DfaP.row {w : World} {vS vN vF : Value} {us : List Value} {d : DR} (h : DfaP w vS vN vF us d) {i : Nat} {r : List Int} (hr : d.next[i]? = some r) :
 ∃ ao c, us[i]? = some (.slice ao r.length c) ∧ ReadR w 1 intZ (.slice ao r.length c) r := by
 have hi := (List.getElem?_eq_some_iff.1 hr).1
 have hu : us[i]? = some (us[i]'(by rw [h.len]; exact hi)) := List.getElem?_eq_getElem _
 have hR := h.rows i _ r hu hr
 obtain ⟨ao, c, e, _⟩ := hR.form
 rw [e] at hu hR
 exact ⟨ao, c, hu, hR⟩
def IdxPost {α : Type} (p : α → Bool) (l : List α) (w : World) (e : Ending) (w' : World) : Prop :=
 Ext w w' ∧ ((∃ n x, e = .returned (.int .i64 (n : Nat)) ∧ l[n]? = some x ∧ p x = true ∧ ∀ j y, j < n → l[j]? = some y → p y = false) ∨ (e = .returned (.int .i64 (-1)) ∧ ∀ x ∈ l, p x = false))
set_option maxRecDepth 100000 in
set_option maxHeartbeats 1000000 in
theorem indexfunc_any {w : World} {v : Value} {ns : List Int} (hV : ReadR w 1 intZ v ns) (hlen : ns.length ≤ 1000) {f : FuncId} {first caps : Array Value} (hE : Enters Tryz.prog f) (p : Int → Bool)
 (hf : ∀ k w', k ∈ ns → Ext w w' → Calls Tryz.prog f (first ++ #[.int .i64 k] ++ caps) w' fun e w'' => e = .returned (.bool (p k)) ∧ Ext w' w'') :
 Calls Tryz.prog 53 #[v, .func (.func f) first caps] w (IdxPost p ns w) := by
 obtain ⟨ao, cap, rfl, hc⟩ := hV.form
 have HV := hid hV
 have HC := hid hc
 have HF := hid hf
 have HEN := hid hE
 clear hc hV hf hE
 go_enter Tryz.func53, Tryz.ntmps53
 go_wp2_with fail
 go_loopg [8] ns.length (fun g u wr => ∃ k, g = ns.length - k ∧ k ≤ ns.length ∧ u = .int .i64 k ∧ Hid (∀ i y, i < k → ns[i]? = some y → p y = false) ∧ Hid (Ext w wr))
 case atStart => exact ⟨0, rfl, Nat.zero_le _, rfl, hid (fun i y h => by omega), hid (Below.refl _ w)⟩
 case round =>
  obtain ⟨k, rfl, hk, rfl, HN, HE⟩ := hrel
  by_cases hlt : k < ns.length
  ·obtain ⟨b, off, rfl⟩ := HC.out (by omega)
   obtain ⟨q, hq⟩ : ∃ q, ns[k]? = some q := ⟨_, List.getElem?_eq_getElem hlt⟩
   have c1 : wr.cell? ⟨b, off + k, none⟩ = some (.int .i64 q) := (HV.out.ext HE.out).cell1 hq
   have HQ := hid hq
   clear hq
   go_wp2_with (with_reducible refine onOp 16 ?_
                go_loud (refine wpList_callb (args := #[.int .i64 q]) rfl (.tmp 11) #[.tmp 15] #[3] rfl HEN.out rfl rfl (HF.out q _ (List.mem_of_getElem? HQ.out) HE.out) ?_)
                rintro e w2 ⟨rfl, hx⟩
                refine ⟨_, rfl, ?_⟩
                have HX := hid (HE.out.trans (hx.mono HE.out.size))
                clear hx
                cases hp : p q)
   ·go_roundg (ns.length - (k + 1))
    case measure => omega
    case rel =>
     refine ⟨k + 1, rfl, by omega, by go_num, hid fun i y hi hr => ?_, HX⟩
     by_cases e : i = k
     ·subst e; rw [HQ.out] at hr; cases hr; exact hp
     ·exact HN.out i y (by omega) hr
   ·go_ret
    exact ⟨HX.out, .inl ⟨k, q, rfl, HQ.out, hp, HN.out⟩⟩
  ·go_wp2_with fail
   go_ret
   refine ⟨HE.out, .inr ⟨rfl, fun x hx => ?_⟩⟩
   obtain ⟨i, hi, rfl⟩ := List.getElem_of_mem hx
   exact HN.out i _ (by omega) (List.getElem?_eq_getElem hi)
end Go.Proofs.YtngpjagpeblbjaaGreatDoor
namespace Go.Proofs.YtngpjagpeblbjaaGreatDoor
open Go.RowKit Go.Spy Go.Heaped Go.Tour Go.Rx
theorem enters38 : Enters Tryz.prog 38 := fun _ _ => by kernel_rfl
set_option maxRecDepth 100000 in
theorem strange_any {w : World} {b : Nat} {n : Nat} (z : Int) (hb : Blk w b 3 #[.int .i64 n]) :
 Calls Tryz.prog 38 #[.int .i64 z, .pointer (some ⟨b, 0, none⟩)] w fun e w' => e = .returned (.bool (decide (z < 0) || decide ((n : Int) ≤ z))) ∧ w = w' := by
 have c0 : w.cell? ⟨b, 0, none⟩ = some (.int .i64 n) := hb.cell rfl
 clear hb
 by_cases h : z < 0
 ·have d0 : decide (z < 0) = true := decide_eq_true h
  go_enter Tryz.func38, Tryz.ntmps38
  go_wp2_with fail
  go_ret
  exact ⟨by simp [h], rfl⟩
 ·have d0 : decide (z < 0) = false := decide_eq_false h
  go_enter Tryz.func38, Tryz.ntmps38
  go_wp2_with fail
  go_ret
  exact ⟨by simp, rfl⟩
set_option maxRecDepth 100000 in
theorem contfunc_any {w : World} {v : Value} {ns : List Int} (hV : ReadR w 1 intZ v ns) (hlen : ns.length ≤ 1000) {f : FuncId} {first caps : Array Value} (hE : Enters Tryz.prog f) (p : Int → Bool)
 (hf : ∀ k w', k ∈ ns → Ext w w' → Calls Tryz.prog f (first ++ #[.int .i64 k] ++ caps) w' fun e w'' => e = .returned (.bool (p k)) ∧ Ext w' w'') :
 Calls Tryz.prog 39 #[v, .func (.func f) first caps] w fun e w' => e = .returned (.bool (ns.any p)) ∧ Ext w w' := by
 have H := hid (indexfunc_any hV hlen hE p hf)
 clear hV hf
 go_enter Tryz.func39, Tryz.ntmps39
 go_wp2_with fail
 refine H.out.mono ?_
 rintro e w2 ⟨hx, ⟨n, x, rfl, h1, h2, _⟩ | ⟨rfl, h1⟩⟩
 ·have hd : decide ((0 : Int) ≤ (n : Int)) = true := decide_eq_true (by omega)
  have HX := hid hx
  have HA : Hid (ns.any p = true) := hid (List.any_eq_true.2 ⟨x, List.mem_of_getElem? h1, h2⟩)
  clear hx h1 h2
  go_wp2_with fail
  go_ret
  exact ⟨(ret_bool HA.out).symm, HX.out⟩
 ·have HX := hid hx
  have HA : Hid (ns.any p = false) := hid (by
   rw [List.any_eq_false]
   intro x hx
   rw [h1 x hx]; simp)
  clear hx h1
  go_wp2_with fail
  go_ret
  exact ⟨(ret_bool HA.out).symm, HX.out⟩
def ErrP (n : Nat) (w : World) (e : Ending) (w' : World) : Prop := e = .returned (.int .i64 (n : Int)) ∧ Ext w w'
set_option maxRecDepth 100000 in
set_option maxHeartbeats 1000000 in
theorem dcheck_any {w : World} {vS vN vF : Value} {us : List Value} {d : DR} (hP : DfaP w vS vN vF us d) (hB : BndD d) : Calls Tryz.prog 11 #[.agg #[vS, vN, vF]] w (ErrP (checkE nameOk d) w) := by
 obtain ⟨aoS, cS, rfl, hS⟩ := hP.syms.form
 obtain ⟨aoN, cN, rfl, hN⟩ := hP.next.form
 obtain ⟨aoF, cF, rfl, hF⟩ := hP.fin.form
 rw [hP.len] at hN
 obtain ⟨E, hE⟩ : ∃ E, E = checkE nameOk d := ⟨_, rfl⟩
 rw [← hE]
 obtain ⟨m, hm⟩ : ∃ m, m = d.syms.length := ⟨_, rfl⟩
 obtain ⟨n, hn⟩ : ∃ n, n = d.next.length := ⟨_, rfl⟩
 obtain ⟨k, hk⟩ : ∃ k, k = d.fin.length := ⟨_, rfl⟩
 have hbm : m ≤ 1000 := hm ▸ hB.s
 have hbn : n ≤ 1000 := hn ▸ hB.n
 have hbk : k ≤ 1000 := hk ▸ hB.f
 have HP := hid hP
 rw [hP.len, ← hn] at HP ⊢
 rw [← hm] at HP ⊢
 rw [← hk] at HP ⊢
 have HB := hid hB
 have HE := hid hE
 have HM := hid hm
 have HN := hid hn
 have HK := hid hk
 clear hP hB hE hm hn hk
 by_cases h1 : 256 < n
 ·have d1 : decide ((256 : Int) < (n : Int)) = true := decide_eq_true (by omega)
  go_enter Tryz.func11, Tryz.ntmps11
  go_wp2_with fail
  go_ret
  exact ⟨by rw [HE.out, checkE, if_pos (.inl (HN.out ▸ h1))]; rfl, ((Below.refl _ _).alloc (Nat.le_refl _) _).alloc (by simp) _⟩
 ·have d1 : decide ((256 : Int) < (n : Int)) = false := decide_eq_false (by omega)
  by_cases h2 : 256 < k
  ·have d2 : decide ((256 : Int) < (k : Int)) = true := decide_eq_true (by omega)
   go_enter Tryz.func11, Tryz.ntmps11
   go_wp2_with fail
   go_ret
   exact ⟨by rw [HE.out, checkE, if_pos (.inr (HK.out ▸ h2))]; rfl, ((Below.refl _ _).alloc (Nat.le_refl _) _).alloc (by simp) _⟩
  ·have d2 : decide ((256 : Int) < (k : Int)) = false := decide_eq_false (by omega)
   have E1 : Hid (¬ (256 < d.next.length ∨ 256 < d.fin.length)) := hid (by rw [← HN.out, ← HK.out]; omega)
   by_cases h3 : n = 0
   ·have d3 : ((n : Int) == 0) = true := by simp [h3]
    have H3 := hid h3
    clear h3
    go_enter Tryz.func11, Tryz.ntmps11
    go_wp2_with fail
    go_ret
    exact ⟨by rw [HE.out, checkE, if_neg E1.out, if_pos (.inl (by rw [← HN.out, H3.out]))]; rfl, ((Below.refl _ _).alloc (Nat.le_refl _) _).alloc (by simp) _⟩
   ·have d3 : ((n : Int) == 0) = false := by simp; omega
    by_cases h4 : k = n
    ·have d4 : ((k : Int) != (n : Int)) = false := by simp [h4]
     have H4 := hid h4
     clear h4
     have E2 : Hid (¬ (d.next.length = 0 ∨ d.fin.length ≠ d.next.length)) := hid (by rw [← HN.out, ← HK.out]; have := H4.out; omega)
     go_enter Tryz.func11, Tryz.ntmps11
     go_wp2_with fail
     go_loopg [34] n (fun g u wr => ∃ j, g = n - j ∧ j ≤ n ∧ u = .int .i64 j ∧ Hid (Ext w wr ∧ Blk wr w.heap.size 26 #[.slice aoS m cS, .slice aoN n cN, .slice aoF k cF] ∧ Blk wr (w.heap.size + 1) 3 #[.int .i64 n]) ∧ Hid (∀ i r, i < j → d.next[i]? = some r → rowBad d.syms.length d.next.length r = false))
     case atStart => exact ⟨0, rfl, Nat.zero_le _, rfl, hid ⟨((Below.refl _ _).alloc (Nat.le_refl _) _).alloc (by simp) _, (Blk.new _ _ _).alloc _, Blk.new' _ _ _ (by simp)⟩, hid (fun i r h => by omega)⟩
     case round =>
      obtain ⟨j, rfl, hj, rfl, HX, HG⟩ := hrel
      have b0 : wr.cell? ⟨w.heap.size, 0, none⟩ = some (.slice aoS m cS) := HX.out.2.1.cell rfl
      by_cases hlt : j < n
      ·obtain ⟨g, off, rfl⟩ := hN (by rw [← HN.out]; omega)
       obtain ⟨r, hr⟩ : ∃ r, d.next[j]? = some r := ⟨_, List.getElem?_eq_getElem (by rw [← HN.out]; omega)⟩
       obtain ⟨ao, c, hu, hR⟩ := (HP.out.ext HX.out.1).row hr
       have c1 : wr.cell? ⟨g, off + j, none⟩ = some (.slice ao r.length c) := (HP.out.next.ext HX.out.1).cell1 hu
       obtain ⟨rl, hrl⟩ : ∃ n, n = r.length := ⟨_, rfl⟩
       have hrb : rl ≤ 1000 := hrl ▸ HB.out.r r (List.mem_of_getElem? hr)
       rw [← hrl] at c1 hR
       have HR := hid hR
       have HRL := hid hrl
       have HRR := hid hr
       clear hu hR hr hrl
       by_cases hL : rl = m
       ·have d5 : ((rl : Int) != (m : Int)) = false := by simp [hL]
        have HL := hid hL
        clear hL
        go_wp2_with fail
        refine (contfunc_any HR.out (by rw [← HRL.out]; exact hrb) enters38 (fun s => decide (s < 0) || decide ((n : Int) ≤ s)) (fun z w' _ e => ?_)).mono ?_
        ·have h : Calls Tryz.prog 38 #[.int .i64 z, .pointer (some ⟨w.heap.size + 1, 0, none⟩)] w' fun e w'' => e = .returned (.bool (decide (z < 0) || decide ((n : Int) ≤ z))) ∧ Ext w' w'' := (strange_any z (HX.out.2.2.ext e)).mono fun e w'' h => ⟨h.1, h.2 ▸ Below.refl _ _⟩
         simpa using h
        rintro e w2 ⟨rfl, hx⟩
        have HX2 := hid (HX.out.1.trans (hx.mono HX.out.1.size))
        have HB2 := hid (HX.out.2.1.ext hx)
        have HS2 := hid (HX.out.2.2.ext hx)
        have HRB : Hid (rowBad d.syms.length d.next.length r = r.any fun s => decide (s < 0) || decide ((n : Int) ≤ s)) := hid (by
         unfold rowBad
         rw [← HRL.out, ← HM.out, ← HN.out, HL.out]; simp)
        clear hx
        cases ha : r.any fun s => decide (s < 0) || decide ((n : Int) ≤ s) with
        | true =>
          have HA := hid ha
          clear ha
          go_wp2_with fail
          go_ret
          refine ⟨?_, HX2.out⟩
          rw [HE.out, checkE, if_neg E1.out, if_neg E2.out, if_pos (List.any_eq_true.2 ⟨r, List.mem_of_getElem? HRR.out, by rw [HRB.out, HA.out]⟩)]; rfl
        | false =>
          have HA := hid ha
          clear ha
          go_wp2_with fail
          go_roundg (n - (j + 1))
          case measure => omega
          case rel =>
           refine ⟨j + 1, rfl, by omega, by go_num, hid ⟨HX2.out, HB2.out, HS2.out⟩, hid fun i q hi hq => ?_⟩
           by_cases e : i = j
           ·subst e; rw [HRR.out] at hq; cases hq; rw [HRB.out, HA.out]
           ·exact HG.out i q (by omega) hq
       ·have d5 : ((rl : Int) != (m : Int)) = true := by simp; omega
        have HL := hid hL
        clear hL
        go_wp2_with fail
        go_ret
        refine ⟨?_, HX.out.1⟩
        rw [HE.out, checkE, if_neg E1.out, if_neg E2.out, if_pos (List.any_eq_true.2 ⟨r, List.mem_of_getElem? HRR.out, by unfold rowBad; rw [← HRL.out, ← HM.out, decide_eq_true HL.out]; rfl⟩)]; rfl
      ·have E3 : Hid (¬ d.next.any (rowBad d.syms.length d.next.length) = true) := hid (by
        rw [List.any_eq_true]
        rintro ⟨r, hr, hb⟩
        obtain ⟨i, hi, rfl⟩ := List.getElem_of_mem hr
        rw [HG.out i _ (by rw [← HN.out] at hi; omega) (List.getElem?_eq_getElem hi)] at hb; cases hb)
       clear HG
       go_wp2_with fail
       go_loopg [53] m (fun g u wr => ∃ j, g = m - j ∧ j ≤ m ∧ u = .int .i64 j ∧ Hid (Ext w wr ∧ Blk wr w.heap.size 26 #[.slice aoS m cS, .slice aoN n cN, .slice aoF k cF]) ∧ Hid (∀ i s, i < j → d.syms[i]? = some s → nameOk s = true))
       case atStart => exact ⟨0, rfl, Nat.zero_le _, rfl, hid ⟨HX.out.1, HX.out.2.1⟩, hid (fun i r h => by omega)⟩
       case round =>
        clear HX b0
        obtain ⟨j, rfl, hj2, rfl, HX, HG⟩ := hrel
        have b0 : wr.cell? ⟨w.heap.size, 0, none⟩ = some (.slice aoS m cS) := HX.out.2.cell rfl
        by_cases hlt2 : j < m
        ·obtain ⟨g, off, rfl⟩ := hS (by rw [← HM.out]; omega)
         obtain ⟨s, hs⟩ : ∃ s, d.syms[j]? = some s := ⟨_, List.getElem?_eq_getElem (by rw [← HM.out]; omega)⟩
         have c1 : wr.cell? ⟨g, off + j, none⟩ = some (.string s) := (HP.out.syms.ext HX.out.1).cell1 hs
         have HS := hid hs
         clear hs
         go_wp2_with fail
         refine (is_any s _ (by have := HB.out.b s (List.mem_of_getElem? HS.out); unfold maxLen; omega)).mono ?_
         rintro e w2 ⟨rfl, hx⟩
         have HX2 := hid (HX.out.1.trans (hx.mono HX.out.1.size))
         have HB2 := hid (HX.out.2.ext hx)
         clear hx
         cases ha : nameOk s with
         | true =>
           have HA := hid ha
           clear ha
           go_wp2_with fail
           go_roundg (m - (j + 1))
           case measure => omega
           case rel =>
            refine ⟨j + 1, rfl, by omega, by go_num, hid ⟨HX2.out, HB2.out⟩, hid fun i q hi hq => ?_⟩
            by_cases e : i = j
            ·subst e; rw [HS.out] at hq; cases hq; exact HA.out
            ·exact HG.out i q (by omega) hq
         | false =>
           have HA := hid ha
           clear ha
           go_wp2_with fail
           go_ret
           refine ⟨?_, HX2.out⟩
           rw [HE.out, checkE, if_neg E1.out, if_neg E2.out, if_neg E3.out, if_pos (List.any_eq_true.2 ⟨s, List.mem_of_getElem? HS.out, by rw [HA.out]; rfl⟩)]; rfl
        ·have E4 : Hid (¬ (d.syms.any (fun s => !nameOk s)) = true) := hid (by
          rw [List.any_eq_true]
          rintro ⟨r, hr, hb⟩
          obtain ⟨i, hi, rfl⟩ := List.getElem_of_mem hr
          rw [HG.out i _ (by rw [← HM.out] at hi; omega) (List.getElem?_eq_getElem hi)] at hb; cases hb)
         clear HG
         go_wp2_with fail
         go_loopg [9] m (fun g u wr => ∃ j, g = m - j ∧ (j + 1 ≤ m ∨ j = 0) ∧ u = .int .i64 ((j + 1 : Nat) : Int) ∧ Hid (Ext w wr ∧ Blk wr w.heap.size 26 #[.slice aoS m cS, .slice aoN n cN, .slice aoF k cF]) ∧ Hid (∀ i x y, i < j → d.syms[i]? = some x → d.syms[i + 1]? = some y → ltB x y = true))
         case atStart => exact ⟨0, rfl, .inr rfl, rfl, hid ⟨HX.out.1, HX.out.2⟩, hid (fun i r y h => by omega)⟩
         case round =>
          clear HX b0
          obtain ⟨j, rfl, hj3, rfl, HX, HG⟩ := hrel
          have b0 : wr.cell? ⟨w.heap.size, 0, none⟩ = some (.slice aoS m cS) := HX.out.2.cell rfl
          by_cases hlt3 : j + 1 < m
          ·obtain ⟨g, off, rfl⟩ := hS (by rw [← HM.out]; omega)
           obtain ⟨x, hx⟩ : ∃ s, d.syms[j]? = some s := ⟨_, List.getElem?_eq_getElem (by rw [← HM.out]; omega)⟩
           obtain ⟨y, hy⟩ : ∃ s, d.syms[j + 1]? = some s := ⟨_, List.getElem?_eq_getElem (by rw [← HM.out]; omega)⟩
           have c1 : wr.cell? ⟨g, off + j, none⟩ = some (.string x) := (HP.out.syms.ext HX.out.1).cell1 hx
           have c2 : wr.cell? ⟨g, off + (j + 1), none⟩ = some (.string y) := (HP.out.syms.ext HX.out.1).cell1 hy
           have HXX := hid hx
           have HYY := hid hy
           clear hx hy
           cases hb : ltB x y with
           | true =>
             have HBB := hid hb
             have hb2 : Op.bytesLess x.toList y.toList = true := hb
             clear hb
             go_upto_region 22 with fail
             have e1 : IntKind.i64.wrap (((j + 1 : Nat) : Int) - 1) = (j : Int) := by rw [show ((j + 1 : Nat) : Int) - 1 = (j : Int) by omega]; exact IntWalk.i64_in _ (by omega)
             have g1 : (0 : Int) ≤ (j : Int) := by omega
             have g2 : (j : Int) < (m : Int) := by omega
             have g3 : (0 : Int) ≤ ((j + 1 : Nat) : Int) := by omega
             have g4 : ((j + 1 : Nat) : Int) < (m : Int) := by omega
             go_quiet (fail)
             go_wp2_with fail
             go_roundg (m - (j + 1))
             case measure => omega
             case rel =>
              refine ⟨j + 1, rfl, .inl (by omega), by go_num, hid ⟨ext_drewN HX.out.1 _, HX.out.2.drewN _⟩, hid fun i q r hi hq hr => ?_⟩
              by_cases e : i = j
              ·subst e; rw [HXX.out] at hq; cases hq; rw [HYY.out] at hr; cases hr; exact HBB.out
              ·exact HG.out i q r (by omega) hq hr
           | false =>
             have HBB := hid hb
             have hb2 : Op.bytesLess x.toList y.toList = false := hb
             clear hb
             go_upto_region 22 with fail
             have e1 : IntKind.i64.wrap (((j + 1 : Nat) : Int) - 1) = (j : Int) := by rw [show ((j + 1 : Nat) : Int) - 1 = (j : Int) by omega]; exact IntWalk.i64_in _ (by omega)
             have g1 : (0 : Int) ≤ (j : Int) := by omega
             have g2 : (j : Int) < (m : Int) := by omega
             have g3 : (0 : Int) ≤ ((j + 1 : Nat) : Int) := by omega
             have g4 : ((j + 1 : Nat) : Int) < (m : Int) := by omega
             go_quiet (fail)
             go_wp2_with fail
             go_ret
             refine ⟨?_, ext_drewN HX.out.1 _⟩
             have E5 : chainB d.syms = false := by
              cases h : chainB d.syms with
              | false => rfl
              | true =>
                have := (chainB_iff.1 h).get (show j < j + 1 by omega) HXX.out HYY.out
                rw [HBB.out] at this; cases this
             rw [HE.out, checkE, if_neg E1.out, if_neg E2.out, if_neg E3.out, if_neg E4.out, if_pos E5]; rfl
          ·go_wp2_with fail
           go_ret
           refine ⟨?_, HX.out.1⟩
           have E5 : ¬ chainB d.syms = false := by
            rw [chainB_iff.2 (chain_rising fun i x y hx hy => HG.out i x y (by have := (List.getElem?_eq_some_iff.1 hy).1; rw [← HM.out] at this; omega) hx hy)]; simp
           rw [HE.out, checkE, if_neg E1.out, if_neg E2.out, if_neg E3.out, if_neg E4.out, if_neg E5]; rfl
    ·have d4 : ((k : Int) != (n : Int)) = true := by simp; omega
     have H4 := hid h4
     clear h4
     go_enter Tryz.func11, Tryz.ntmps11
     go_wp2_with fail
     go_ret
     exact ⟨by rw [HE.out, checkE, if_neg E1.out, if_pos (.inr (by rw [← HN.out, ← HK.out]; exact H4.out))]; rfl, ((Below.refl _ _).alloc (Nat.le_refl _) _).alloc (by simp) _⟩
end Go.Proofs.YtngpjagpeblbjaaGreatDoor
namespace Go.Proofs.YtngpjagpeblbjaaGreatDoor
open Go.RowKit Go.Spy Go.Heaped Go.Tour Go.Rx
theorem nan1 (x : ByteArray) (w : World) : Calls Tryz.prog 137 #[.string x] w fun e w' => e = .returned (.bool false) ∧ w = w' := by
 go_enter Tryz.func137, Tryz.ntmps137
 go_wp2
 go_ret
 exact ⟨by simp, rfl⟩
theorem nan2 (x : ByteArray) (w : World) : Calls Tryz.prog 110 #[.string x] w fun e w' => e = .returned (.bool false) ∧ w = w' := by
 go_enter Tryz.func110, Tryz.ntmps110
 go_wp2
 go_ret
 exact ⟨by simp, rfl⟩
theorem less_str (x y : ByteArray) (w : World) : Calls Tryz.prog 109 #[.string x, .string y] w fun e w' => e = .returned (.bool (ltB x y)) ∧ w = w' := by
 go_enter Tryz.func109, Tryz.ntmps109
 go_wp2_with (first | (go_at_call 137; refine (nan1 _ _).mono ?_; rintro e w' ⟨rfl, rfl⟩))
 go_ret
 exact ⟨rfl, rfl⟩
def BinPost (l : List ByteArray) (x : ByteArray) (w : World) (e : Ending) (w' : World) : Prop := ∃ (n : Nat) (b : Bool), e = .returned (.tuple #[.int .i64 n, .bool b]) ∧ (b = true ↔ x ∈ l) ∧ (x ∈ l → l[n]? = some x) ∧ w = w'
structure Between (l : List ByteArray) (x : ByteArray) (i j : Nat) : Prop where
 le : i ≤ j
 le2 : j ≤ l.length
 lo : ∀ a y, a < i → l[a]? = some y → ltB y x = true
 hi : ∀ a y, j ≤ a → l[a]? = some y → ltB y x = false
theorem Between.found {l : List ByteArray} {x : ByteArray} {i : Nat} (h : Between l x i i) (hr : Rising l) : x ∈ l ↔ l[i]? = some x := by
 refine ⟨fun hx => ?_, fun e => List.mem_of_getElem? e⟩
 obtain ⟨a, ha, hax⟩ := List.getElem_of_mem hx
 have hs : l[a]? = some x := by rw [List.getElem?_eq_getElem ha, hax]
 rcases Nat.lt_trichotomy a i with e | e | e
 ·have := h.lo a x e hs; rw [ltB_irr] at this; cases this
 ·rw [← e]; exact hs
 ·have hi : l[i]? = some (l[i]'(by omega)) := List.getElem?_eq_getElem (by omega)
  have := h.hi i _ (Nat.le_refl _) hi
  rw [hr.get e hi hs] at this; cases this
set_option maxRecDepth 100000 in
set_option maxHeartbeats 1000000 in
theorem binsearch_any {w : World} {v : Value} {l : List ByteArray} (hV : ReadR w 1 strC v l) (hlen : l.length ≤ 1000) (hr : Rising l) (x : ByteArray) : Calls Tryz.prog 66 #[v, .string x] w (BinPost l x w) := by
 obtain ⟨ao, cap, rfl, hc⟩ := hV.form
 obtain ⟨n, hn⟩ : ∃ n, n = l.length := ⟨_, rfl⟩
 have HV := hid hV
 rw [← hn] at HV ⊢ hlen
 have HN := hid hn
 have HR := hid hr
 have HC := hid hc
 clear hV hn hr hc
 go_enter Tryz.func66, Tryz.ntmps66
 go_wp2_with fail
 go_loopg [7, 8] n (fun g u v wr => ∃ i j, g = j - i ∧ i ≤ j ∧ j ≤ n ∧ wr = w ∧ u = .int .i64 i ∧ v = .int .i64 j ∧ Hid (Between l x i j))
 case atStart => exact ⟨0, n, rfl, Nat.zero_le _, Nat.le_refl _, rfl, rfl, rfl, hid ⟨Nat.zero_le _, by rw [HN.out]; exact Nat.le_refl _, fun a y h => by omega, fun a y h hy => by have := (List.getElem?_eq_some_iff.1 hy).1; rw [HN.out] at h; omega⟩⟩
 case round =>
  obtain ⟨i, j, rfl, hij, hjn, rfl, rfl, rfl, HB⟩ := hrel
  by_cases hlt : i < j
  ·obtain ⟨b, off, rfl⟩ := HC.out (by rw [← HN.out]; omega)
   obtain ⟨h, hh⟩ : ∃ h, h = (i + j) / 2 := ⟨_, rfl⟩
   have hhI : ((i : Int) + (j : Int)) / 2 = (h : Int) := by rw [hh]; omega
   have hih : i ≤ h := by omega
   have hhj : h < j := by omega
   obtain ⟨y, hy⟩ : ∃ y, l[h]? = some y := ⟨_, List.getElem?_eq_getElem (by rw [← HN.out]; omega)⟩
   have c1 : wr.cell? ⟨b, off + h, none⟩ = some (.string y) := HV.out.cell1 hy
   have HY := hid hy
   have HH := hid hh
   clear hy hh
   cases hb : ltB y x with
   | true =>
     have HBB := hid hb
     go_wp2_with (first | (go_at_call 109; refine (less_str _ _ _).mono ?_; rintro e w' ⟨rfl, rfl⟩))
     go_roundg (j - (h + 1))
     case measure => omega
     case rel =>
      refine ⟨h + 1, j, rfl, by omega, by omega, rfl, by go_num, rfl, hid ⟨by omega, HB.out.le2, fun a z ha hz => ?_, HB.out.hi⟩⟩
      rcases Nat.lt_or_ge a h with e | e
      ·exact ltB_trans (HR.out.get e hz HY.out) HBB.out
      ·obtain rfl : a = h := by omega
       rw [HY.out] at hz; cases hz; exact HBB.out
   | false =>
     have HBB := hid hb
     go_wp2_with (first | (go_at_call 109; refine (less_str _ _ _).mono ?_; rintro e w' ⟨rfl, rfl⟩))
     go_roundg (h - i)
     case measure => omega
     case rel =>
      refine ⟨i, h, rfl, by omega, by omega, rfl, rfl, rfl, hid ⟨by omega, by rw [← HN.out]; omega, HB.out.lo, fun a z ha hz => ?_⟩⟩
      rcases Nat.lt_or_ge h a with e | e
      ·cases hk : ltB z x with
       | false => rfl
       | true => have := ltB_trans (HR.out.get e HY.out hz) hk; rw [HBB.out] at this; cases this
      ·obtain rfl : a = h := by omega
       rw [HY.out] at hz; cases hz; exact HBB.out
  ·obtain rfl : i = j := by omega
   have hF := HB.out.found HR.out
   by_cases hin : i < n
   ·obtain ⟨b, off, rfl⟩ := HC.out (by rw [← HN.out]; omega)
    obtain ⟨y, hy⟩ : ∃ y, l[i]? = some y := ⟨_, List.getElem?_eq_getElem (by rw [← HN.out]; omega)⟩
    have c1 : wr.cell? ⟨b, off + i, none⟩ = some (.string y) := HV.out.cell1 hy
    rw [hy] at hF
    have HF := hid hF
    have HY := hid hy
    clear hF hy
    by_cases hyx : y = x
    ·have hd := beqB_true hyx
     have HX := hid hyx
     clear hyx
     go_wp2_with (first | (go_at_call 110; refine (nan2 _ _).mono ?_; rintro e w' ⟨rfl, rfl⟩))
     go_ret2
     exact ⟨i, true, rfl, ⟨fun _ => HX.out ▸ List.mem_of_getElem? HY.out, fun _ => rfl⟩, fun _ => by rw [HY.out, HX.out], rfl⟩
    ·have hd := beqB_false hyx
     have HX := hid hyx
     clear hyx
     go_wp2_with (first | (go_at_call 110; refine (nan2 _ _).mono ?_; rintro e w' ⟨rfl, rfl⟩))
     go_ret2
     have hx : x ∉ l := fun h => HX.out (by simpa using HF.out.1 h)
     exact ⟨i, false, rfl, ⟨fun h => (by cases h), fun h => absurd h hx⟩, fun h => absurd h hx, rfl⟩
   ·have HF : Hid (x ∉ l) := hid (by rw [hF, List.getElem?_eq_none (by rw [← HN.out]; omega)]; simp)
    clear hF
    go_wp2_with fail
    go_ret2
    exact ⟨i, false, rfl, ⟨fun h => (by cases h), fun h => absurd h HF.out⟩, fun h => absurd h HF.out, rfl⟩
end Go.Proofs.YtngpjagpeblbjaaGreatDoor
namespace Go.Tour
variable {σ : Type} [DecidableEq σ]
theorem goS_at {d : DF σ} (hn : d.syms.Nodup) {x : σ} {n : Nat} (h : d.syms[n]? = some x) (s : Nat) : goS d s x = (stepD d s n : Nat) := by
 rw [goS_in (List.mem_of_getElem? h), idx_of_get hn h]
end Go.Tour
namespace Go.Proofs.YtngpjagpeblbjaaGreatDoor
open Go.RowKit Go.Spy Go.Heaped Go.Tour Go.Rx
structure DfaW (w : World) (v : Value) (D : DA) : Prop where
 at_ : DfaV w v D.raw
 bnd : BndD D.raw
 well : WellD nameOk D
theorem DfaW.ext {w w' : World} {v : Value} {D : DA} (h : DfaW w v D) (e : Ext w w') : DfaW w' v D := ⟨h.at_.ext e, h.bnd, h.well⟩
theorem raw_row {D : DA} {i : Nat} {r : List Nat} (h : D.next[i]? = some r) : D.raw.next[i]? = some (r.map Int.ofNat) := by simp [DF.raw, h]
theorem DfaP.cellN {w : World} {vS vN vF : Value} {us : List Value} {D : DA} (h : DfaP w vS vN vF us D.raw) (W : WellD nameOk D) {s : Nat} (hs : s < D.next.length) :
 ∃ ao c, us[s]? = some (.slice ao D.syms.length c) ∧ (∀ i, i < D.syms.length → ∃ g off, ao = some ⟨g, off, none⟩ ∧ w.cell? ⟨g, off + i, none⟩ = some (.int .i64 (stepD D s i : Nat))) := by
 have hr : D.next[s]? = some D.next[s] := List.getElem?_eq_getElem hs
 have hl := W.ok.row _ (List.getElem_mem hs)
 obtain ⟨ao, c, hu, hR⟩ := h.row (raw_row hr)
 rw [List.length_map, hl] at hu hR
 refine ⟨ao, c, hu, fun i hi => ?_⟩
 obtain ⟨r, h1, h2, h3⟩ := W.ok.get hs hi
 rw [hr] at h1
 cases h1
 obtain ⟨ao', c', e, hf⟩ := hR.form
 simp only [Value.slice.injEq] at e
 obtain ⟨rfl, e2, _⟩ := e
 obtain ⟨g, off, rfl⟩ := hf (by omega)
 refine ⟨g, off, rfl, ?_⟩
 have := hR.cell1 (j := i) (x := Int.ofNat (stepD D s i)) (by rw [List.getElem?_map, h3]; rfl)
 exact this
set_option maxRecDepth 100000 in
set_option maxHeartbeats 1000000 in
theorem goes_any {w : World} {v : Value} {D : DA} (hD : DfaW w v D) (s : Int) (hs : s < D.next.length) (x : ByteArray) : Calls Tryz.prog 89 #[v, .int .i64 s, .string x] w fun e w' => e = .returned (.int .i64 (goS D s x)) ∧ Ext w w' := by
 obtain ⟨⟨vS, vN, vF, us, rfl, hP⟩, hB, W⟩ := hD
 obtain ⟨aoS, cS, rfl, hS⟩ := hP.syms.form
 obtain ⟨aoN, cN, rfl, hN⟩ := hP.next.form
 obtain ⟨aoF, cF, rfl, hF⟩ := hP.fin.form
 rw [hP.len] at hN
 obtain ⟨n, hn⟩ : ∃ n, n = D.raw.next.length := ⟨_, rfl⟩
 have hn2 : n = D.next.length := by rw [hn]; simp [DF.raw]
 have hbn : n ≤ 1000 := hn ▸ hB.n
 have hsn : s < (n : Int) := by rw [hn2]; exact hs
 have HP := hid hP
 rw [hP.len, ← hn] at HP ⊢
 rw [← hn] at hN
 have HB := hid hB
 have HW := hid W
 have HN := hid hn2
 clear hP hB hn hn2 hs
 have hbs := binsearch_any (HP.out.syms.ext ((((Below.refl _ w).alloc (Nat.le_refl _) (.cells #[.slice aoS D.raw.syms.length cS, .slice aoN n cN, .slice aoF D.raw.fin.length cF] 26)) : Ext w _))) HB.out.s HW.out.rising x
 by_cases h0 : s < 0
 ·have d0 : decide (s < 0) = true := decide_eq_true h0
  go_enter Tryz.func89, Tryz.ntmps89
  go_wp2_with fail
  refine hbs.mono ?_
  rintro e w2 ⟨q, b, rfl, -, -, rfl⟩
  go_wp2_with fail
  go_ret
  exact ⟨ret_int (goS_none h0 x).symm, (Below.refl _ _).alloc (Nat.le_refl _) _⟩
 ·have d0 : decide (s < 0) = false := decide_eq_false h0
  obtain ⟨k, rfl⟩ : ∃ k : Nat, s = (k : Int) := ⟨s.toNat, by omega⟩
  clear h0
  obtain ⟨ao, c, hu, hc⟩ := HP.out.cellN HW.out (s := k) (by rw [← HN.out]; omega)
  obtain ⟨m, hm⟩ : ∃ m, m = D.syms.length := ⟨_, rfl⟩
  have hbm : m ≤ 1000 := hm ▸ HB.out.s
  rw [← hm] at hu hc
  have HC := hid hc
  have HU := hid hu
  have HM := hid hm
  clear hc hu hm
  go_enter Tryz.func89, Tryz.ntmps89
  go_wp2_with fail
  refine hbs.mono ?_
  rintro e w2 ⟨q, b, rfl, hb, hq, rfl⟩
  cases b with
  | false =>
    have hx : x ∉ D.syms := fun h => by have := hb.2 h; cases this
    have HX := hid hx
    clear hb hq hx
    go_wp2_with fail
    go_ret
    exact ⟨ret_int (goS_out HX.out _).symm, (Below.refl _ _).alloc (Nat.le_refl _) _⟩
  | true =>
    have hx := hb.1 rfl
    have hq1 := hq hx
    have hqm : q < m := by rw [HM.out]; exact (List.getElem?_eq_some_iff.1 hq1).1
    obtain ⟨gN, oN, rfl⟩ := hN (by omega)
    obtain ⟨g, off, rfl, c2⟩ := HC.out q hqm
    have hgl := World.block_lt_of_cell? _ _ c2
    have c1 : w.cell? ⟨gN, oN + k, none⟩ = some (.slice (some ⟨g, off, none⟩) m c) := HP.out.next.cell1 HU.out
    have hgl1 := World.block_lt_of_cell? _ _ c1
    have HQ := hid hq1
    clear hb hq hx hq1
    go_wp2_with fail
    go_ret
    exact ⟨ret_int (goS_at HW.out.rising.nodup HQ.out k).symm, (Below.refl _ _).alloc (Nat.le_refl _) _⟩
set_option maxRecDepth 100000 in
theorem final_any {w : World} {v : Value} {D : DA} (hD : DfaW w v D) (s : Int) (hs : s < D.next.length) : Calls Tryz.prog 50 #[v, .int .i64 s] w fun e w' => e = .returned (.bool (finS D s)) ∧ Ext w w' := by
 obtain ⟨⟨vS, vN, vF, us, rfl, hP⟩, hB, W⟩ := hD
 obtain ⟨aoS, cS, rfl, hS⟩ := hP.syms.form
 obtain ⟨aoN, cN, rfl, hN⟩ := hP.next.form
 obtain ⟨aoF, cF, rfl, hF⟩ := hP.fin.form
 have hfl : D.raw.fin.length = D.next.length := W.ok.fin
 obtain ⟨n, hn⟩ : ∃ n, n = D.raw.fin.length := ⟨_, rfl⟩
 have hbn : n ≤ 1000 := hn ▸ hB.f
 have hsn : s < (n : Int) := by rw [hn, hfl]; exact hs
 have HP := hid hP
 rw [← hn] at HP ⊢ hF
 have HW := hid W
 have HN : Hid (n = D.next.length) := hid (by rw [hn, hfl])
 clear hP hB hn hfl hs
 by_cases h0 : s < 0
 ·have d0 : decide ((0 : Int) ≤ s) = false := decide_eq_false (by omega)
  go_enter Tryz.func50, Tryz.ntmps50
  go_wp2_with fail
  go_ret
  exact ⟨ret_bool (by unfold finS; rw [d0]; rfl), (Below.refl _ _).alloc (Nat.le_refl _) _⟩
 ·have d0 : decide ((0 : Int) ≤ s) = true := decide_eq_true (by omega)
  obtain ⟨k, rfl⟩ : ∃ k : Nat, s = (k : Int) := ⟨s.toNat, by omega⟩
  clear h0
  obtain ⟨g, off, rfl⟩ := hF (by omega)
  have c1 : w.cell? ⟨g, off + k, none⟩ = some (.bool (finD D k)) := HP.out.fin.cell1 (HW.out.ok.finAt (by rw [← HN.out]; omega))
  have hgl := World.block_lt_of_cell? _ _ c1
  go_enter Tryz.func50, Tryz.ntmps50
  go_wp2_with fail
  go_ret
  exact ⟨ret_bool (by unfold finS; rw [d0]; simp), (Below.refl _ _).alloc (Nat.le_refl _) _⟩
theorem DfaP.ext_box {w : World} {vS vN vF : Value} {us : List Value} {d : DR} (h : DfaP w vS vN vF us d) (o : Obj) : DfaP (w.alloc o) vS vN vF us d := h.ext ((Below.refl _ _).alloc (Nat.le_refl _) _)
end Go.Proofs.YtngpjagpeblbjaaGreatDoor
