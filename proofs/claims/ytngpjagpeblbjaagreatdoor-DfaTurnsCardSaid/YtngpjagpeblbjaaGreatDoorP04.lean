/-
  Walks of the tests on blanks, and of inner, the test on the bytes of a word.
  Walks of bits.TrailingZeros64 and of has, add, join of a set of places.
  Walks of add and join of a set of places, of which only the first word is not 0.
  Walk of join of a set of places, of which only the first word is not 0.
  Walk of list of a set of places, of which only the first word is not 0.
  Sets of places and facts as rows of cells; walk of either: what is known of one of two nodes.
-/
import Derived.Deep.DeepCutAuto
import Derived.Test.YtngpjagpeblbjaaGreatDoorP03
import Derived.Lib.TrailingZeros
import Derived.BigRegion
import Derived.Deep.AppendLies
import Derived.Test.YtngpjagpeblbjaaGreatDoorP01
namespace Go.Proofs.YtngpjagpeblbjaaGreatDoor
open Go.RowKit Go.Spy
def isBlank (c : Nat) : Bool := decide (c = 9) || decide (c = 10) || decide (c = 13) || decide (c = 32)
def allBlank (s : ByteArray) : Bool := s.data.toList.all fun c => isBlank c.toNat
theorem isBlank_lt {c : Nat} (h : isBlank c = true) : c < 128 := by
 simp [isBlank] at h; omega
theorem allBlank_no {s : ByteArray} {k : Nat} (hlt : k < s.size) (h : isBlank (s[k]'hlt).toNat = false) : allBlank s = false := by
 unfold allBlank
 rw [← Bool.not_eq_true, List.all_eq_true]
 intro hall
 have := hall (s[k]'hlt) (by have : s[k]'hlt = s.data.toList[k]'(by simpa using hlt) := rfl
                             rw [this]; exact List.getElem_mem _)
 rw [this] at h; cases h
theorem allBlank_yes {s : ByteArray} (h : ∀ j (hj : j < s.size), isBlank (s[j]'hj).toNat = true) : allBlank s = true := by
 unfold allBlank
 rw [List.all_eq_true]
 intro c hc
 obtain ⟨j, hj, rfl⟩ := List.getElem_of_mem hc
 exact h j (by simpa using hj)
set_option maxHeartbeats 400000 in
theorem blank_any (c : Nat) (w : World) :
 Calls Tryz.prog 153 #[.int .u8 c] w fun e w' => e = .returned (.bool (isBlank c)) ∧ w = w' := by
 go_enter Tryz.func153, Tryz.ntmps153
 by_cases e1 : c = 9
 ·subst e1; go_wp2; all_goals (go_ret; exact ⟨ret_bool (by decide), rfl⟩)
 ·have f1 : ((c : Int) == 9) = false := by simp; omega
  by_cases e2 : c = 10
  ·subst e2; go_wp2; all_goals (go_ret; exact ⟨ret_bool (by decide), rfl⟩)
  ·have f2 : ((c : Int) == 10) = false := by simp; omega
   by_cases e3 : c = 13
   ·subst e3; go_wp2; all_goals (go_ret; exact ⟨ret_bool (by decide), rfl⟩)
   ·have f3 : ((c : Int) == 13) = false := by simp; omega
    go_wp2
    all_goals (go_ret; exact ⟨ret_bool (by rw [Bool.eq_iff_iff]; simp [isBlank]; omega), rfl⟩)
set_option maxHeartbeats 400000 in
theorem all_blank (s : ByteArray) (w : World) (hs : s.size ≤ maxLen) :
 Calls Tryz.prog 97 #[.string s, .func (.func 153) #[] #[]] w fun e w' => e = .returned (.bool (allBlank s)) ∧ Ext w w' := by
 unfold maxLen at hs
 go_enter Tryz.func97, Tryz.ntmps97
 go_wp2_with fail
 go_loopg [5] s.size (fun g _ wr => ∃ k : Nat, k ≤ s.size ∧ g = s.size - k ∧ wr = w.iter s k ∧ Hid (∀ j (hj : j < s.size), j < k → isBlank (s[j]'hj).toNat = true))
 case atStart => exact ⟨0, by omega, by omega, rfl, fun j _ hj => by omega⟩
 case round =>
  obtain ⟨k, hk, rfl, rfl, HA⟩ := hrel
  by_cases hlt : k < s.size
  ·cases hp : isBlank (s[k]'hlt).toNat
   ·have hn := run_next_any (P := Tryz.prog) w s k
    have hF := hid (allBlank_no hlt hp)
    go_wp2_with (first | (go_at_call 153; refine (blank_any _ _).mono ?_; rintro e w' ⟨rfl, rfl⟩))
    go_ret
    exact ⟨ret_bool hF.out.symm, (Below.refl _ _).alloc (Nat.le_refl _) _⟩
   ·have hn := run_next_ascii (P := Tryz.prog) w s k
    have hx := isBlank_lt hp
    go_wp2_with (first | (go_at_call 153; refine (blank_any _ _).mono ?_; rintro e w' ⟨rfl, rfl⟩))
    go_roundg (s.size - (k+1))
    case measure => omega
    case rel => exact ⟨k+1, by omega, rfl, rfl, fun j hj hjk => by
     by_cases e : j = k
     ·subst e; exact hp
     ·exact HA.out j hj (by omega)⟩
  ·have hF := hid (allBlank_yes fun j hj => HA.out j hj (by omega))
   have hn := run_next_end (P := Tryz.prog) w s k
   go_wp2_with fail
   go_ret
   exact ⟨ret_bool hF.out.symm, (Below.refl _ _).alloc (Nat.le_refl _) _⟩
set_option maxHeartbeats 400000 in
theorem Blank_any (s : ByteArray) (w : World) (hs : s.size ≤ maxLen) :
 Calls Tryz.prog 127 #[.string s] w fun e w' => e = .returned (.bool (allBlank s)) ∧ Ext w w' := by
 go_enter Tryz.func127, Tryz.ntmps127
 go_wp2_with (first | (go_at_call 97; refine (all_blank s _ hs).mono ?_; rintro e w' ⟨rfl, hx⟩))
 go_ret
 exact ⟨rfl, hx⟩
set_option maxHeartbeats 1000000 in
theorem inner_any (c : Nat) (w : World) :
 Calls Tryz.prog 168 #[.int .u8 c] w fun e w' => e = .returned (.bool (isPart c)) ∧ w = w' := by
 go_enter Tryz.func168, Tryz.ntmps168
 by_cases e1 : c = 95
 ·subst e1; go_wp2; all_goals (go_ret; exact ⟨ret_bool (by decide), rfl⟩)
 ·have f1 : ((c : Int) == 95) = false := by simp; omega
  by_cases e2 : c = 45
  ·subst e2; go_wp2; all_goals (go_ret; exact ⟨ret_bool (by decide), rfl⟩)
  ·have f2 : ((c : Int) == 45) = false := by simp; omega
   go_wp2
   all_goals (go_ret; exact ⟨ret_bool (by rw [Bool.eq_iff_iff]; simp [isPart, isLet, isDig]; omega), rfl⟩)
end Go.Proofs.YtngpjagpeblbjaaGreatDoor
namespace Go.Proofs.YtngpjagpeblbjaaGreatDoor
open Go.RowKit Go.Spy Go.Rx
def TabW (w : World) : Prop := ∃ vs t ls, w.heap[0]? = some (.cells vs t ls) ∧ ∀ j, j < 64 → vs[j]? = some (.int .u8 (Lib.deBruijn64tab.getD j 0))
theorem TabW.lt {w : World} (h : TabW w) : 0 < w.heap.size := by
 obtain ⟨vs, t, ls, h, -⟩ := h
 exact (Array.getElem?_eq_some_iff.1 h).1
theorem TabW.of_block {w w' : World} (h : TabW w) (e : w'.heap[0]? = w.heap[0]?) : TabW w' := by
 obtain ⟨vs, t, ls, h, k⟩ := h
 exact ⟨vs, t, ls, e.trans h, k⟩
theorem TabW.ext {w w' : World} (h : TabW w) (e : Ext w w') : TabW w' := h.of_block (e.block _ h.lt)
theorem TabW.cell {w : World} (h : TabW w) {j : Nat} (hj : j < 64) : w.cell? ⟨0, j, none⟩ = some (.int .u8 (Lib.deBruijn64tab.getD j 0)) := by
 obtain ⟨vs, t, ls, h, k⟩ := h
 rw [cell_of_row w _ j vs t ls h, k j hj]
theorem neg_u64 (x : Nat) (hx : x < 18446744073709551616) (hx0 : x ≠ 0) : IntKind.u64.wrap (-(x : Int)) = ((18446744073709551616 - x : Nat) : Int) := by
 rw [IntKind.wrap_u64]; omega
theorem tz_arith (a : Nat) : IntKind.u64.wrap ((a : Int) * 285870213051353865) / 288230376151711744 = ((a * 285870213051353865 % 18446744073709551616 / 288230376151711744 : Nat) : Int) := by
 rw [IntKind.wrap_u64, Int.natCast_ediv, Int.natCast_emod, Int.natCast_mul]
 rfl
theorem tz_key (x a : Nat) (hx : x < 18446744073709551616) (hx0 : x ≠ 0) (hlow : ∀ y, y = 18446744073709551616 - x → x &&& y = a) :
 IntKind.u64.wrap (bits BinOp.and IntKind.u64 (x : Int) (IntKind.u64.wrap (-(x : Int))) * 285870213051353865) / 288230376151711744 = ((a * 285870213051353865 % 18446744073709551616 / 288230376151711744 : Nat) : Int) := by
 obtain ⟨y, hy⟩ : ∃ y, y = 18446744073709551616 - x := ⟨_, rfl⟩
 have hn := neg_u64 x hx hx0
 rw [← hy] at hn
 have hyl : y < 18446744073709551616 := by omega
 have ha := hlow y hy
 clear hlow hy
 rw [hn, bits_and_u64_nat x y hx hyl, ha, tz_arith]
theorem bit_u64 (m k : Nat) (hm : m < 18446744073709551616) : (bits BinOp.and IntKind.u64 ((m : Int) / 2 ^ k) 1 == 1) = m.testBit k := by
 have e : ((m : Int) / 2 ^ k) = ((m / 2 ^ k : Nat) : Int) := by rw [Int.natCast_ediv, Int.natCast_pow]; rfl
 have hl : m / 2 ^ k < 18446744073709551616 := Nat.lt_of_le_of_lt (Nat.div_le_self _ _) hm
 have h1 := bits_and_u64_nat (m / 2 ^ k) 1 hl (by omega)
 rw [e, show (1 : Int) = ((1 : Nat) : Int) from rfl, h1, Nat.and_one_is_mod, Nat.testBit_eq_decide_div_mod_eq]
 rw [Bool.eq_iff_iff, beq_iff_eq, decide_eq_true_eq, Int.ofNat_inj]
set_option maxHeartbeats 1000000 in
theorem tz_core (x k idx : Nat) (w : World) (hx0 : ((x : Int) == 0) = false)
 (key : IntKind.u64.wrap (bits BinOp.and IntKind.u64 (x : Int) (IntKind.u64.wrap (-(x : Int))) * 285870213051353865) / 288230376151711744 = (idx : Int))
 (hi : idx < 64) (hk : k < 64) (hcell : w.cell? ⟨0, idx, none⟩ = some (.int .u8 k)) :
 Calls Tryz.prog 111 #[.int .u64 x] w fun e w' => e = .returned (.int .i64 k) ∧ w = w' := by
 go_enter Tryz.func111, Tryz.ntmps111
 go_wp2_with (simp only [key])
 go_ret
 exact ⟨rfl, rfl⟩
theorem low_alone' {x : Nat} (hx : x < 18446744073709551616) (hx0 : x ≠ 0) : (∀ y, y = 18446744073709551616 - x → x &&& y = 2 ^ tz x) ∧ tz x < 64 := by
 have h64 : 2 ^ 64 = 18446744073709551616 := by decide
 rw [← h64] at hx ⊢
 exact ⟨fun y hy => by rw [hy]; exact low_alone hx0 hx, tz_lt hx0 hx⟩
theorem tz_any (x : Nat) (hx : x < 18446744073709551616) (hx0 : x ≠ 0) (w : World) (hT : TabW w) :
 Calls Tryz.prog 111 #[.int .u64 x] w fun e w' => e = .returned (.int .i64 (tz x)) ∧ w = w' := by
 obtain ⟨hlow, hk⟩ := low_alone' hx hx0
 obtain ⟨hi, htab⟩ := Lib.deBruijn64_at _ hk
 have hcell := hT.cell hi
 rw [htab] at hcell
 exact tz_core x _ _ w (by simp; omega) (tz_key x _ hx hx0 hlow) hi hk hcell
set_option maxHeartbeats 1000000 in
theorem has_any (b off m at_ : Nat) (w : World) (hm : m < 18446744073709551616) (ha : at_ < 64) (hc : w.cell? ⟨b, off, none⟩ = some (.int .u64 m)) :
 Calls Tryz.prog 88 #[.pointer (some ⟨b, off, none⟩), .int .i64 at_] w fun e w' => e = .returned (.bool (m.testBit at_)) ∧ w = w' := by
 have h0 : at_ / 64 = 0 := by omega
 have hc' : w.cell? ⟨b, off + at_ / 64, none⟩ = some (.int .u64 m) := by rw [h0]; exact hc
 clear h0 hc
 go_enter Tryz.func88, Tryz.ntmps88
 go_wp2
 go_ret
 exact ⟨ret_bool (by rw [bit_u64 m _ hm, Nat.mod_eq_of_lt ha]), rfl⟩
end Go.Proofs.YtngpjagpeblbjaaGreatDoor
namespace Go.Proofs.YtngpjagpeblbjaaGreatDoor
open Go.RowKit Go.Spy Go.Rx
theorem shl_lt {k : Nat} (hk : k < 64) : (1 <<< k : Nat) < 18446744073709551616 := by
 have h64 : 2 ^ 64 = 18446744073709551616 := by decide
 rw [Nat.one_shiftLeft, ← h64]
 exact Nat.pow_lt_pow_right (by decide) hk
theorem or_one (m k : Nat) (hm : m < 18446744073709551616) (hk : k < 64) : bits BinOp.or IntKind.u64 (m : Int) (IntKind.u64.wrap (2 ^ (k % 64))) = ((m ||| 1 <<< k : Nat) : Int) := by
 have e : IntKind.u64.wrap (2 ^ (k % 64)) = ((1 <<< k : Nat) : Int) := by
  have h := shl_lt hk
  have h2 : (2 : Int) ^ (k % 64) = ((1 <<< k : Nat) : Int) := by rw [Nat.mod_eq_of_lt hk, Nat.one_shiftLeft, Int.natCast_pow]; rfl
  rw [h2, IntKind.wrap_u64]
  generalize (1 <<< k : Nat) = y at *
  omega
 rw [e, bits_or_u64_nat m _ hm (shl_lt hk)]
set_option maxHeartbeats 1000000 in
theorem add_any (b off m at_ : Nat) (t : TypeId) (vs : Array Value) (w : World) (hm : m < 18446744073709551616) (ha : at_ < 64) (hB : Blk w b t vs) (hv : vs[off]? = some (.int .u64 m)) :
 Calls Tryz.prog 115 #[.pointer (some ⟨b, off, none⟩), .int .i64 at_] w fun e w' => e = .returned (.tuple #[]) ∧ Blk w' b t (vs.setIfInBounds off (.int .u64 (m ||| 1 <<< at_ : Nat))) ∧ Chg (· = b) w w' := by
 have h0 : at_ / 64 = 0 := by omega
 have hc' : w.cell? ⟨b, off + at_ / 64, none⟩ = some (.int .u64 m) := by rw [h0]; exact hB.cell hv
 have hf := hB.frozen
 have HB := hid hB
 clear h0 hv hB
 go_enter Tryz.func115, Tryz.ntmps115
 go_wp2_with fail
 go_region
 go_end0
 have h0 : at_ / 64 = 0 := by omega
 rw [or_one m at_ hm ha, h0]
 exact ⟨rfl, (HB.out.set off _).drew, Chg.drew (Chg.setCell (S := (· = b)) (p := ⟨b, off + 0, none⟩) (Chg.refl _ w) rfl _)⟩
end Go.Proofs.YtngpjagpeblbjaaGreatDoor
namespace Go.Proofs.YtngpjagpeblbjaaGreatDoor
open Go.RowKit Go.Spy Go.Rx
def plG (m i : Nat) : Nat := if i = 0 then m else 0
theorem plG_or (m m2 i : Nat) : plG m i ||| plG m2 i = plG (m ||| m2) i := by
 unfold plG; split <;> simp
theorem plG_lt {m i : Nat} (hm : m < 18446744073709551616) : plG m i < 18446744073709551616 := by
 unfold plG; split
 ·exact hm
 ·decide
theorem cell_of_chg {S : Nat → Prop} {w w' : World} {a : Addr} (e : Chg S w w') (h : a.block < w.heap.size) (hS : ¬ S a.block) : w'.cell? a = w.cell? a := by
 unfold World.cell?; rw [e.block _ h hS]
def joined (vs : Array Value) (off m : Nat) : Nat → Array Value
 | 0 => vs
 | k + 1 => (joined vs off m k).setIfInBounds (off + k) (.int .u64 (plG m k))
theorem joined_far (vs : Array Value) (off m k j : Nat) (h : k ≤ j) : (joined vs off m k)[off + j]? = vs[off + j]? := by
 induction k with
 | zero => rfl
 | succ k ih =>
   rw [joined, Array.getElem?_setIfInBounds_ne (by omega), ih (by omega)]
theorem joined_end (vs : Array Value) (off m m2 k : Nat) (hv : ∀ i, i < k + 1 → vs[off + i]? = some (.int .u64 (plG m i))) : joined vs off m2 (k + 1) = vs.setIfInBounds off (.int .u64 m2) := by
 induction k with
 | zero => rfl
 | succ k ih =>
   rw [joined, ih fun i hi => hv i (by omega)]
   have h1 := hv (k + 1) (by omega)
   have h2 : (vs.setIfInBounds off (.int .u64 m2))[off + (k + 1)]? = some (.int .u64 (plG m2 (k + 1))) := by
    rw [Array.getElem?_setIfInBounds_ne (by omega), h1]; rfl
   refine Array.ext_getElem? fun i => ?_
   by_cases e : off + (k + 1) = i
   ·subst e
    rw [h2, Array.getElem?_setIfInBounds_self]
    rw [if_pos (by have := (Array.getElem?_eq_some_iff.1 h2).1; exact this)]
   ·rw [Array.getElem?_setIfInBounds_ne e]
set_option maxHeartbeats 1000000 in
theorem join_any (b off m b2 off2 m2 : Nat) (t : TypeId) (vs : Array Value) (w : World) (hm : m < 18446744073709551616) (hm2 : m2 < 18446744073709551616) (hne : b2 ≠ b) (hB : Blk w b t vs)
 (hv : ∀ i, i < 16 → vs[off + i]? = some (.int .u64 (plG m i))) (hc : ∀ i, i < 16 → w.cell? ⟨b2, off2 + i, none⟩ = some (.int .u64 (plG m2 i))) :
 Calls Tryz.prog 86 #[.pointer (some ⟨b, off, none⟩), .pointer (some ⟨b2, off2, none⟩)] w fun e w' => e = .returned (.tuple #[]) ∧ Blk w' b t (vs.setIfInBounds off (.int .u64 (m ||| m2 : Nat))) ∧ Chg (· = b) w w' := by
 have HB := hid hB
 have HV := hid hv
 have HC := hid hc
 clear hB hv hc
 go_enter Tryz.func86, Tryz.ntmps86
 go_wp2_with fail
 go_loopg [7] 16 (fun g i wr => ∃ k : Nat, k ≤ 16 ∧ g = 16 - k ∧ i = .int .i64 k ∧ Hid (Blk wr b t (joined vs off (m ||| m2) k)) ∧ Hid (Chg (· = b) w wr))
 case atStart => exact ⟨0, by omega, rfl, rfl, HB, hid (Chg.refl _ w)⟩
 case round =>
  obtain ⟨k, hk, rfl, rfl, HK, HX⟩ := hrel
  by_cases hlt : k < 16
  ·have c2 : wr.cell? ⟨b2, off2 + k, none⟩ = some (.int .u64 (plG m2 k)) := by
    have h2 := HC.out k hlt
    rw [← h2]
    exact cell_of_chg HX.out (block_lt_of_cell h2) hne
   have c1 : wr.cell? ⟨b, off + k, none⟩ = some (.int .u64 (plG m k)) := HK.out.cell (by rw [joined_far _ _ _ _ _ (Nat.le_refl k)]; exact HV.out k hlt)
   have hf := HK.out.frozen
   have ho := bits_or_u64_nat _ _ (plG_lt (i := k) hm) (plG_lt (i := k) hm2)
   rw [plG_or] at ho
   go_wp2_with fail
   go_region
   go_wp2_with fail
   go_region
   go_wp2_with fail
   go_roundg (16 - (k+1))
   case measure => omega
   case rel =>
    refine ⟨k+1, by omega, rfl, by go_num, hid ?_, hid ?_⟩
    ·exact (HK.out.set (off + k) _).drew.drew
    ·exact Chg.drew (Chg.drew (Chg.setCell (p := ⟨b, off + k, none⟩) HX.out rfl _))
  ·obtain rfl : k = 16 := by omega
   go_wp2_with fail
   go_end0
   rw [← joined_end vs off m (m ||| m2) 15 (by simpa using HV.out)]
   exact ⟨rfl, HK.out, HX.out⟩
end Go.Proofs.YtngpjagpeblbjaaGreatDoor
namespace Go.Proofs.YtngpjagpeblbjaaGreatDoor
open Go.RowKit Go.Spy Go.Rx
def intC (p : Nat) : Value := .int .i64 p
def OwnI (w : World) (base : Nat) (v : Value) (l : List Nat) : Prop := w.ownsRow base 3 1 v l.length (l.map intC)
theorem Tryz.infoInt : (Tryz.prog.info? 3).map (fun i => (i.zero, i.size, i.bytes)) = some (some (.int .i64 0), 1, 8) := by kernel_rfl
theorem wpList_int {w0 : World} {base : Nat} {v : Value} {l : List Nat} (hown : Hid (OwnI w0 base v l)) (hb : base ≤ w0.heap.size) (hn : l.length + 1 ≤ 1000000000) (p : Nat) (H : Nat) (hH : w0.heap.size = H)
 {ops : Array Oper} {rest : List Oper} {o : Oper} {a : Act} {Q : Exit → Act → World → Prop} (hgd : o.guard = none) (s x : Operand)
 (ho : o.op = .call { callee := .builtin .append, args := #[s, x], argTypes := #[46, 46] }) (hs : a.eval s = v) (hx : a.eval x = .slice (some ⟨H, 0, none⟩) 1 1)
 (hK : ∀ (g cap : Nat) (v' : Value) (w4 : World), v' = .slice (some ⟨g, 0, none⟩) (l.length + 1) cap → Hid (OwnI w4 base v' (l ++ [p])) → Hid (w0.grownBy w4 v.ownBlock ∧ (v.ownBlock = some g ∨ w0.heap.size ≤ g)) →
   wpList Tryz.prog ops Q rest (a.put o.dst v') w4) :
 wpList Tryz.prog ops Q (o :: rest) a (w0.alloc (.cells #[.int .i64 p] 3)) := by
 subst hH
 obtain ⟨i0, hti, hz0, hz1, hz2⟩ := info_parts Tryz.infoInt
 refine wpList_append_lies _ hgd s x 46 ho base 3 i0 _ 1 8 Tryz.underlying46 hti hz0 hz1 hz2 rfl (by decide) v l.length (l.map intC) hs (hown.out.alloc _) ⟨w0.heap.size, 0, none⟩ 1 1 [intC p] hx rfl ?_ ?_ (by decide) (by unfold maxLen; omega) (by omega) (by simp; omega) _ rfl ?_
 ·intro k u hu
  have hb := Blk.new w0 3 #[.int .i64 p]
  match k, hu with
  | 0, hu => exact hb.cell hu
 ·intro u hu
  simp only [List.mem_cons, List.not_mem_nil, or_false] at hu
  subst hu; rfl
 ·intro g cap w4 h1 h2 h3 h4
  refine hK g cap _ w4 rfl (hid ?_) (hid ⟨?_, ?_⟩)
  ·unfold OwnI; rw [List.map_append, List.length_append]; exact h1
  ·exact ⟨h2.os, h2.tape, h2.output, Nat.le_trans (by simp) h2.size, fun k hk hr => (h2.block k (by simp; omega) hr).trans (Below.heap_alloc _ _ _ hk)⟩
  ·rcases h3 with e | e
   ·exact .inl e
   ·right; simp at e; omega
def accB (m : Nat) : Nat → List Nat
 | 0 => []
 | _ + 1 => bitsL m
theorem accB_succ (m k : Nat) : accB m (k + 1) = accB m k ++ bitsL (plG m k) := by
 cases k with
 | zero => simp [accB, plG]
 | succ k => simp [accB, plG, bitsL_zero]
theorem accB_len {m : Nat} (hm : m < 18446744073709551616) (k : Nat) : (accB m k).length ≤ 64 := by
 cases k with
 | zero => exact Nat.zero_le _
 | succ k =>
   have h64 : 2 ^ 64 = 18446744073709551616 := by decide
   rw [← h64] at hm
   exact bitsL_len hm
theorem and_pred_u64 {x : Nat} (hx : x < 18446744073709551616) (hx0 : x ≠ 0) : bits BinOp.and IntKind.u64 (x : Int) ((x : Int) - 1) = ((x &&& (x - 1) : Nat) : Int) := by
 rw [show ((x : Int) - 1) = ((x - 1 : Nat) : Int) by omega]
 exact bits_and_u64_nat x (x - 1) hx (by omega)
def ListPost (w : World) (m : Nat) (e : Ending) (w' : World) : Prop := ∃ v, e = .returned v ∧ OwnI w' w.heap.size v (bitsL m) ∧ Ext w w'
set_option maxRecDepth 100000 in
set_option maxHeartbeats 1600000 in
theorem list_any (b off m : Nat) (w : World) (hm : m < 18446744073709551616) (hc : ∀ i, i < 16 → w.cell? ⟨b, off + i, none⟩ = some (.int .u64 (plG m i))) (hT : TabW w) :
 Calls Tryz.prog 85 #[.pointer (some ⟨b, off, none⟩)] w fun e w' => ListPost w m e w' := by
 have HC := hid hc
 have HT := hid hT
 clear hc hT
 go_enter Tryz.func85, Tryz.ntmps85
 go_wp2_with fail
 go_loopg [3, 7] 16 (fun g v i wr => ∃ k : Nat, k ≤ 16 ∧ g = 16 - k ∧ i = .int .i64 k ∧ Hid (OwnI wr w.heap.size v (accB m k)) ∧ Hid (Ext w wr))
 case atStart => exact ⟨0, by omega, rfl, rfl, hid (World.ownsRow_nil _ _ _ _), hid (Below.refl _ _)⟩
 case round =>
  obtain ⟨k, hk, rfl, rfl, HO, HE⟩ := hrel
  by_cases hlt : k < 16
  ·have c1 : wr.cell? ⟨b, off + k, none⟩ = some (.int .u64 (plG m k)) := by
    have h2 := HC.out k hlt
    rw [← h2]
    exact HE.out.cell (p := ⟨b, off + k, none⟩) (block_lt_of_cell h2)
   go_wp2_with fail
   go_region
   go_wp2_with fail
   have HE1 : Hid (Ext w wr.drew) := hid ((HE.out).drew)
   have HO1 : Hid (OwnI wr.drew w.heap.size u3 (accB m k)) := HO
   clear c1 HE HO
   generalize World.drew _ = W1 at *
   have hpl := plG_lt (i := k) hm
   have hk0 : k = 0 ∨ plG m k = 0 := by
    by_cases h : k = 0
    ·exact .inl h
    ·right; unfold plG; rw [if_neg h]
   go_loopg [3, 5] (plG m k) (fun g v x wi => ∃ (y : Nat) (l : List Nat), y < 18446744073709551616 ∧ g = y ∧ x = .int .u64 y ∧ (k = 0 ∨ y = 0) ∧ Hid (l ++ bitsL y = accB m (k + 1)) ∧ Hid (OwnI wi w.heap.size v l) ∧ Hid (Ext w wi))
   case atStart => exact ⟨_, _, hpl, rfl, rfl, hk0, hid (accB_succ m k).symm, HO1, HE1⟩
   case round =>
    obtain ⟨y, l, hy, hg, rfl, hky, HL, HO, HE⟩ := hrel
    have HG := hid hg
    clear hg
    by_cases hy0 : y = 0
    ·subst hy0
     have HL2 : Hid (l = accB m (k + 1)) := hid (by have := HL.out; rwa [bitsL_zero, List.append_nil] at this)
     go_wp2_with fail
     go_roundg (16 - (k+1))
     case measure => omega
     case rel => exact ⟨k+1, by omega, rfl, by go_num, hid (by rw [← HL2.out]; exact HO.out), HE⟩
    ·obtain rfl : k = 0 := hky.resolve_right hy0
     have hq : ((y : Int) != 0) = true := by simp; omega
     have hand := and_pred_u64 hy hy0
     have hlen : l.length ≤ 64 := by
      have h1 := accB_len hm (0 + 1)
      rw [← HL.out, List.length_append] at h1
      omega
     have HT1 := hid (HT.out.ext HE.out)
     have hbs := HE.out.size
     have htz := tz_lt (n := 64) hy0 (by have h64 : 2 ^ 64 = 18446744073709551616 := by decide
                                         rw [h64]; exact hy)
     go_wp2_with (first | (go_at_call 111; refine (tz_any y hy hy0 _ HT1.out).mono ?_; rintro e w' ⟨rfl, rfl⟩) | (at_builtin; refine wpList_int HO hbs (by omega) (tz y) _ rfl rfl _ _ rfl rfl rfl ?_; rintro g' cap' v' w4 rfl H1 H2))
     have hlt2 := and_pred_lt hy0
     go_roundg (y &&& (y - 1))
     case measure => rw [HG.out]; exact hlt2
     case rel =>
      refine ⟨y &&& (y - 1), l ++ [tz y], by omega, rfl, rfl, .inl trivial, hid ?_, H1, hid (ext_grown HE.out H2.out.1 (fun i hi => (HO.out.lt i hi).1))⟩
      have := HL.out
      rw [bitsL_next hy0] at this
      rw [← this, List.append_assoc]; rfl
  ·obtain rfl : k = 16 := by omega
   go_wp2_with fail
   go_ret
   exact ⟨_, rfl, HO.out, HE.out⟩
end Go.Proofs.YtngpjagpeblbjaaGreatDoor
namespace Go.Proofs.YtngpjagpeblbjaaGreatDoor
open Go.RowKit Go.Spy Go.Rx
def setV (m : Nat) : Array Value := ((List.range 16).map fun i => Value.int .u64 (plG m i)).toArray
def factV (F : Fact) : Array Value := #[.bool F.void, .bool F.empty] ++ setV F.first ++ setV F.last
theorem setV_size (m : Nat) : (setV m).size = 16 := by simp [setV]
theorem setV_get {m i : Nat} (hi : i < 16) : (setV m)[i]? = some (.int .u64 (plG m i)) := by simp [setV, hi]
theorem factV_size (F : Fact) : (factV F).size = 34 := by simp [factV, setV_size]
theorem factV_void (F : Fact) : (factV F)[0]? = some (.bool F.void) := by kernel_rfl
theorem factV_empty (F : Fact) : (factV F)[1]? = some (.bool F.empty) := by kernel_rfl
theorem factV_first (F : Fact) {i : Nat} (hi : i < 16) : (factV F)[2 + i]? = some (.int .u64 (plG F.first i)) := by
 unfold factV
 rw [Array.getElem?_append_left (by simp [setV_size]; omega), Array.getElem?_append_right (by simp)]
 simpa using setV_get hi
theorem factV_last (F : Fact) {i : Nat} (hi : i < 16) : (factV F)[18 + i]? = some (.int .u64 (plG F.last i)) := by
 unfold factV
 rw [Array.getElem?_append_right (by simp [setV_size])]
 have : 18 + i - (#[Value.bool F.void, Value.bool F.empty] ++ setV F.first).size = i := by simp [setV_size]
 rw [this]
 exact setV_get hi
theorem ones_setV (m : Nat) : Ones (setV m) := ones_mk fun i v h => by
 have hi : i < 16 := by have := (Array.getElem?_eq_some_iff.1 h).1; rwa [setV_size] at this
 rw [setV_get hi] at h; cases h; rfl
theorem ones_factV (F : Fact) : Ones (factV F) := by
 intro v hv
 simp only [factV, Array.mem_append] at hv
 rcases hv with (hv | hv) | hv
 ·simp at hv; rcases hv with rfl | rfl <;> rfl
 ·exact ones_setV _ v hv
 ·exact ones_setV _ v hv
theorem factV_ext_first (F : Fact) : (factV F).extract 2 (2 + 16) = setV F.first := by
 apply Array.ext_getElem?
 intro i
 by_cases hi : i < 16
 ·rw [Array.getElem?_extract_of_lt (by rw [factV_size]; omega), setV_get hi, ← factV_first F hi]; exact (Array.getElem?_eq_getElem _).symm
 ·rw [Array.getElem?_eq_none (by simp; omega), Array.getElem?_eq_none (by rw [setV_size]; omega)]
theorem factV_ext_last (F : Fact) : (factV F).extract 18 (18 + 16) = setV F.last := by
 apply Array.ext_getElem?
 intro i
 by_cases hi : i < 16
 ·rw [Array.getElem?_extract_of_lt (by rw [factV_size]; omega), setV_get hi, ← factV_last F hi]; exact (Array.getElem?_eq_getElem _).symm
 ·rw [Array.getElem?_eq_none (by simp [factV_size]; omega), Array.getElem?_eq_none (by rw [setV_size]; omega)]
theorem ext_all (A : Array Value) (n : Nat) (h : A.size = n) : A.extract 0 (0 + n) = A := by subst h; simp
theorem setV_put (m m' : Nat) : (setV m).setIfInBounds 0 (.int .u64 (m' : Nat)) = setV m' := by kernel_rfl
theorem factV_put_first (F : Fact) (m : Nat) : (factV F).setIfInBounds 2 (.int .u64 (m : Nat)) = factV { F with first := m } := by kernel_rfl
theorem factV_put_last (F : Fact) (m : Nat) : (factV F).setIfInBounds 18 (.int .u64 (m : Nat)) = factV { F with last := m } := by kernel_rfl
theorem info_fact : (Tryz.prog.info? 131).map (·.size) = some 34 := by kernel_rfl
theorem zero_fact : (Tryz.prog.info? 131).map (·.zero) = some (some (.agg (factV ⟨false, false, 0, 0⟩))) := by kernel_rfl
theorem info_set : (Tryz.prog.info? 129).map (·.size) = some 16 := by kernel_rfl
theorem zero_set : (Tryz.prog.info? 129).map (·.zero) = some (some (.agg (setV 0))) := by kernel_rfl
theorem built_both (e : Bool) (m n : Nat) : Tryz.prog.built 131 [(1, .bool e), (2, .agg (setV m)), (3, .agg (setV n))] = some (factV ⟨false, e, m, n⟩) := by kernel_rfl
theorem built_void : Tryz.prog.built 131 [(0, .bool true)] = some (factV ⟨true, false, 0, 0⟩) := by kernel_rfl
theorem built_either (v e : Bool) (m n : Nat) : Tryz.prog.built 131 [(0, .bool v), (1, .bool e), (2, .agg (setV m)), (3, .agg (setV n))] = some (factV ⟨v, e, m, n⟩) := by kernel_rfl
def FactPost (w : World) (F : Fact) (e : Ending) (w' : World) : Prop := ∃ C, e = .returned (.agg C) ∧ C = factV F ∧ Ext w w'
set_option maxRecDepth 100000 in
set_option maxHeartbeats 400000 in
theorem either_any (A B : Array Value) (fv fe gv ge : Bool) (ff fl gf gl : Nat) (w : World) (hA : A = factV ⟨fv, fe, ff, fl⟩) (hB : B = factV ⟨gv, ge, gf, gl⟩) (f1 : ff < 18446744073709551616) (f2 : fl < 18446744073709551616) (g1 : gf < 18446744073709551616) (g2 : gl < 18446744073709551616) :
 Calls Tryz.prog 117 #[.agg A, .agg B] w (FactPost w ⟨fv && gv, fe || ge, ff ||| gf, fl ||| gl⟩) := by
 have sA : A.size = 34 := by rw [hA, factV_size]
 have sB : B.size = 34 := by rw [hB, factV_size]
 have a0 : A[0]'(by omega) = .bool fv := get_of (by rw [hA, factV_void])
 have a1 : A[1]'(by omega) = .bool fe := get_of (by rw [hA, factV_empty])
 have b0 : B[0]'(by omega) = .bool gv := get_of (by rw [hB, factV_void])
 have b1 : B[1]'(by omega) = .bool ge := get_of (by rw [hB, factV_empty])
 have HA := hid hA
 have HB := hid hB
 clear hA hB
 obtain ⟨vv, Hvv⟩ : ∃ v, Hid (v = (fv && gv)) := ⟨_, rfl⟩
 obtain ⟨ee, Hee⟩ : ∃ v, Hid (v = (fe || ge)) := ⟨_, rfl⟩
 cases fv <;> cases fe
 all_goals
  go_enter Tryz.func117, Tryz.ntmps117
  go_wp2_with (first
   | (with_reducible refine wpList_alloc_aggN rfl 131 rfl _ zero_fact ?_; intro Z HZ; have sZ : Z.size = 34 := by rw [HZ.out, factV_size])
   | (with_reducible refine wpList_load_agg rfl 129 (.tmp 18) rfl w.heap.size 2 rfl 131 A _ 16 (((Blk.new w 131 A).alloc _).alloc _) Tryz.underlying129 rfl info_set (by omega) ?_; intro C1 HC1)
   | (with_reducible refine wpList_load_agg rfl 129 (.tmp 20) rfl w.heap.size 18 rfl 131 A _ 16 (((Blk.new w 131 A).alloc _).alloc _) Tryz.underlying129 rfl info_set (by omega) ?_; intro C2 HC2)
   | (refine wpList_build_agg rfl 131 #[(0, .tmp 11), (1, .tmp 17), (2, .tmp 19), (3, .tmp 21)] rfl [(0, .bool (vv)), (1, .bool (ee)), (2, .agg C1), (3, .agg C2)] ?_ (factV ⟨vv, ee, ff, fl⟩) ?_ ?_
      ·rw [Hvv.out, Hee.out]; rfl
      ·rw [show C1 = setV ff by rw [HC1.out, HA.out, factV_ext_first], show C2 = setV fl by rw [HC2.out, HA.out, factV_ext_last]]
       exact built_either _ _ _ _
      intro C HC)
   | (with_reducible refine wpList_store_last rfl 131 (.tmp 5) (.tmp 22) rfl _ C rfl rfl _ _ rfl (by rw [HC.out, factV_size]; exact info_fact) (by rw [HC.out, HZ.out, factV_size, factV_size]) (by rw [HC.out]; exact ones_factV _) ?_))
  have HBk : Hid (∀ Y : Array Value, Blk (((((w.alloc (.cells A 131)).alloc (.cells B 131))).alloc (.cells Y 131)).alloc (.cells C 131)) (w.heap.size + 1) 131 B) := hid fun Y => ((Blk.new' (w.alloc _) _ B (by simp)).alloc _).alloc _
  have HCk : Hid (∀ Y : Array Value, Blk (((((w.alloc (.cells A 131)).alloc (.cells B 131))).alloc (.cells Y 131)).alloc (.cells C 131)) (w.heap.size + 1 + 1 + 1) 131 C) := hid fun Y => Blk.new' _ _ C (by simp)
  refine (join_any (w.heap.size + 1 + 1 + 1) 2 ff (w.heap.size + 1) 2 gf 131 C _ f1 g1 (by omega) (HCk.out _) (fun i hi => by rw [HC.out]; exact factV_first _ hi) (fun i hi => (HBk.out _).cell (by rw [HB.out]; exact factV_first _ hi))).mono ?_
  rintro e w1 ⟨rfl, k1, k2⟩
  have K1 := hid k1
  have K2 := hid k2
  clear k1 k2
  go_wp2_with fail
  have b1k : Blk w1 (w.heap.size + 1) 131 B := (HBk.out _).chg K2.out (by show ¬ _ = _; omega)
  refine (join_any (w.heap.size + 1 + 1 + 1) 18 fl (w.heap.size + 1) 18 gl 131 (factV ⟨vv, ee, ff ||| gf, fl⟩) _ f2 g2 (by omega) (by have := K1.out; rwa [HC.out, factV_put_first] at this) (fun i hi => factV_last _ hi) (fun i hi => b1k.cell (by rw [HB.out]; exact factV_last _ hi))).mono ?_
  rintro e w2 ⟨rfl, k3, k4⟩
  rw [factV_put_last] at k3
  obtain ⟨D, HD⟩ : ∃ D, Hid (D = factV ⟨vv, ee, ff ||| gf, fl ||| gl⟩) := ⟨_, rfl⟩
  have K3 : Hid (Blk w2 (w.heap.size + 1 + 1 + 1) 131 D) := hid (by rw [HD.out]; exact k3)
  have sD : D.size = 34 := by rw [HD.out, factV_size]
  have KC : Chg (· = w.heap.size + 1 + 1 + 1) _ w2 := K2.out.trans k4
  have KE : Hid (Ext w w2) := hid (Chg.below ((((((Chg.refl (· = w.heap.size + 1 + 1 + 1) w).alloc _).alloc _).alloc _).alloc _).trans KC) (Nat.le_refl _) (fun k hk => by omega))
  obtain ⟨Y, sY, kY⟩ : ∃ Y : Array Value, Y.size = 34 ∧ Blk w2 (w.heap.size + 1 + 1) 131 Y := ⟨_, (by assumption), ((Blk.new' _ _ _ (by simp)).alloc _).chg KC (by show ¬ _ = _; omega)⟩
  have KY := hid kY
  clear k3 k4 KC kY b1k
  go_wp2_with (first
   | (with_reducible refine wpList_load_agg rfl 131 (.tmp 5) rfl _ 0 rfl 131 D _ 34 K3.out Tryz.underlying131 rfl info_fact (by omega) ?_; intro E HE; have sE : E.size = 34 := by (rw [HE.out, ext_all D 34 sD]; exact sD))
   | (with_reducible refine wpList_store_agg rfl 131 (.tmp 4) (.tmp 29) rfl _ 0 E rfl rfl 131 Y KY.out (by rw [sE]; exact info_fact) (by omega) (by rw [HE.out, ext_all D 34 sD, HD.out]; exact ones_factV _) ?_; intro w3 H3 hs3))
  obtain ⟨h3, c3⟩ := H3.out
  rw [splice_all (by omega)] at h3
  exact bodyPost_ret (v := .agg E) (results_cell_agg Tryz.results117 _ w3 _ _ E _ rfl h3 Tryz.underlying131 rfl (by rw [sE]; exact info_fact)) rfl ⟨E, rfl, by rw [HE.out, ext_all D 34 sD, HD.out, Hvv.out, Hee.out],
   ((Chg.of_ext (S := (· = w.heap.size + 1 + 1)) KE.out).trans c3).below (Nat.le_refl _) (fun k hk => by omega)⟩
end Go.Proofs.YtngpjagpeblbjaaGreatDoor
