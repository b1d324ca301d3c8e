/-
  Walk of ArgsBack, for every command and every list of words.
-/
import Derived.Test.YtoknhfmgkgmlhaaDoorV2
import Derived.Test.YtoknhfmgkgmlhaaDoorP2
namespace Go.Proofs.YtoknhfmgkgmlhaaDoor
open Go.RowKit Go.Spy

/-- The world of the moment: nothing old has turned; the commands' own blocks. -/
structure Cur (w wi : World) (l : List (Nat × Array Value)) : Prop where
  bel : Below w.heap.size w wi
  blk : ∀ p ∈ l, Blk wi p.1 26 p.2
theorem Cur.ext {w wi w' : World} {l : List (Nat × Array Value)} (h : Cur w wi l) (hx : Ext wi w') : Cur w w' l :=
  ⟨below_ext h.bel hx h.bel.size, fun p hp => (h.blk p hp).ext hx⟩
theorem Cur.alloc {w wi : World} {l : List (Nat × Array Value)} (h : Cur w wi l) (o : Obj) : Cur w (wi.alloc o) l :=
  ⟨h.bel.alloc h.bel.size o, fun p hp => (h.blk p hp).alloc o⟩
theorem Cur.add {w wi : World} {l : List (Nat × Array Value)} (h : Cur w wi l) (cs : Array Value) : Cur w (wi.alloc (.cells cs 26)) ((wi.heap.size, cs) :: l) :=
  ⟨h.bel.alloc h.bel.size _, fun p hp => by
    rcases List.mem_cons.1 hp with rfl | hp
    · exact Blk.new _ _ _
    · exact (h.blk p hp).alloc _⟩
theorem Cur.start (w : World) (cs : Array Value) : Cur w (w.alloc (.cells cs 26)) [(w.heap.size, cs)] :=
  ⟨(Below.refl _ _).alloc (Nat.le_refl _) _, fun p hp => by simp at hp; subst hp; exact Blk.new _ _ _⟩
theorem Cur.c {w wi : World} {l : List (Nat × Array Value)} (h : Cur w wi l) {b : Nat} {cs : Array Value} (hm : (b, cs) ∈ l) {i : Nat} {v : Value} (hv : cs[i]? = some v) : wi.cell? ⟨b, i, none⟩ = some v :=
  (h.blk _ hm).cell hv
theorem Cur.lt {w wi : World} {l : List (Nat × Array Value)} (h : Cur w wi l) {b : Nat} {cs : Array Value} (hm : (b, cs) ∈ l) : b < wi.heap.size := (h.blk _ hm).lt
theorem StrsV.alloc {w : World} {ao : Option Addr} {cap : Nat} {ss : List ByteArray} (h : StrsV w ao cap ss) (o : Obj) : StrsV (w.alloc o) ao cap ss := h.ext ((Below.refl _ _).alloc (Nat.le_refl _) _)

theorem words_no_is {m : Int} {r : ByteArray} {v q : Bool} {w : World} (hr : r.size ≤ 9223372036854775807) (hM : ModesW w) (h : mayB ⟨m, r, v, q⟩ = false) :
    Calls Tryd.prog 11 #[.agg #[.int .i64 m, .string r, .bool v, .bool q]] w fun e w' => e = .returned (.tuple #[.slice none 0 0, .int .i64 1]) ∧ Ext w w' := by
  refine (words_any ⟨m, r, v, q⟩ w hr hM).mono fun e w' hp => ?_
  simpa [WordsPost, h] using hp
theorem words_yes_is {m : Int} {r : ByteArray} {v q : Bool} {w : World} (hr : r.size ≤ 9223372036854775807) (hM : ModesW w) (h : mayB ⟨m, r, v, q⟩ = true) :
    Calls Tryd.prog 11 #[.agg #[.int .i64 m, .string r, .bool v, .bool q]] w fun e w' => ∃ ao cap, e = .returned (.tuple #[.slice ao (wordsOf ⟨m, r, v, q⟩).length cap, .int .i64 0]) ∧ (wordsOf ⟨m, r, v, q⟩).length ≤ cap ∧ StrsV w' ao cap (wordsOf ⟨m, r, v, q⟩) ∧ Ext w w' := by
  refine (words_any ⟨m, r, v, q⟩ w hr hM).mono fun e w' hp => ?_
  simp only [WordsPost, h, if_true] at hp
  exact hp
theorem parse_two (l : List ByteArray) : (∃ d, parseL l = (d, 0, 0) ∧ mayB d = true) ∨ (∃ k n, parseL l = (zeroC, k, n) ∧ (n == 0) = false) := by
  rcases parse_told l with h | h | ⟨k, n, h, hh⟩
  · exact .inl h
  · exact .inr ⟨_, _, h, rfl⟩
  · refine .inr ⟨_, _, h, ?_⟩
    rcases hh with ⟨rfl | rfl, _⟩ | ⟨rfl, _⟩ <;> rfl

set_option maxHeartbeats 4000000 in
theorem back_long (m : Int) (r : ByteArray) (v q : Bool) (ao : Option Addr) (cap : Nat) (ss : List ByteArray) (w : World) (h : StrsV w ao cap ss) (hM : ModesW w) (hr : r.size ≤ 9223372036854775807) (h100 : 100 < r.size) :
    Calls Tryd.prog 4 #[.agg #[.int .i64 m, .string r, .bool v, .bool q], .slice ao ss.length cap] w fun e w' => e = .returned (.bool true) ∧ Ext w w' := by
  have hl := h.len
  have hrm : r.size ≤ maxLen := by unfold maxLen; omega
  have HC := Cur.start w #[.int .i64 m, .string r, .bool v, .bool q]
  go_enter Tryd.func4, Tryd.ntmps4
  go_wp2_with (first
    | (go_at_call 8; refine (awake_any _ (hM.ext HC.bel)).mono ?_; rintro e wz ⟨rfl, hx⟩; have HCn := HC.ext hx; clear HC; have HC := HCn; clear HCn))
  go_ret
  exact ⟨rfl, HC.bel⟩

set_option maxHeartbeats 4000000 in
theorem back_many (m : Int) (r : ByteArray) (v q : Bool) (ao : Option Addr) (cap : Nat) (ss : List ByteArray) (w : World) (h : StrsV w ao cap ss) (hM : ModesW w) (hr : r.size ≤ 9223372036854775807) (h100 : r.size ≤ 100) (HF : Hid (fewOk ss = false)) :
    Calls Tryd.prog 4 #[.agg #[.int .i64 m, .string r, .bool v, .bool q], .slice ao ss.length cap] w fun e w' => e = .returned (.bool true) ∧ Ext w w' := by
  have hl := h.len
  have hrm : r.size ≤ maxLen := by unfold maxLen; omega
  have HC := Cur.start w #[.int .i64 m, .string r, .bool v, .bool q]
  go_enter Tryd.func4, Tryd.ntmps4
  go_wp2_with (first
    | (go_at_call 7; refine (few_is (h.ext HC.bel) HF.out).mono ?_; rintro e w1 ⟨rfl, rfl⟩)
    | (go_at_call 8; refine (awake_any _ (hM.ext HC.bel)).mono ?_; rintro e wz ⟨rfl, hx⟩; have HCn := HC.ext hx; clear HC; have HC := HCn; clear HCn))
  go_ret
  exact ⟨rfl, HC.bel⟩

set_option maxHeartbeats 4000000 in
theorem back_an (m : Int) (r : ByteArray) (v q : Bool) (ao : Option Addr) (cap : Nat) (ss : List ByteArray) (w : World) (h : StrsV w ao cap ss) (hM : ModesW w) (hr : r.size ≤ 9223372036854775807) (h100 : r.size ≤ 100) (HF : Hid (fewOk ss = true)) (HM : Hid (mayB ⟨m, r, v, q⟩ = false)) (k : Nat) (n : Int) (HP : Hid (parseL ss = (zeroC, k, n))) (hn : (n == 0) = false) :
    Calls Tryd.prog 4 #[.agg #[.int .i64 m, .string r, .bool v, .bool q], .slice ao ss.length cap] w fun e w' => e = .returned (.bool true) ∧ Ext w w' := by
  have hl := h.len
  have hrm : r.size ≤ maxLen := by unfold maxLen; omega
  have HC := Cur.start w #[.int .i64 m, .string r, .bool v, .bool q]
  go_enter Tryd.func4, Tryd.ntmps4
  go_wp2_with (first
    | (go_at_call 7; refine (few_is (h.ext HC.bel) HF.out).mono ?_; rintro e w1 ⟨rfl, rfl⟩)
    | (go_at_call 11; (with_reducible refine (words_no_is hr (hM.ext HC.bel) HM.out).mono ?_); rintro e ww ⟨rfl, hx⟩; (try clear c0 c1 c2 c3 clt); (try clear d0 d1 d2 d3 dlt); have HCn := HC.ext hx; clear HC; have HC := HCn; clear HCn; have c0 : ww.cell? ⟨w.heap.size, 0, none⟩ = some (.int .i64 m) := HC.c (cs := #[.int .i64 m, .string r, .bool v, .bool q]) (by simp) rfl; have c1 : ww.cell? ⟨w.heap.size, 1, none⟩ = some (.string r) := HC.c (cs := #[.int .i64 m, .string r, .bool v, .bool q]) (by simp) rfl; have c2 : ww.cell? ⟨w.heap.size, 2, none⟩ = some (.bool v) := HC.c (cs := #[.int .i64 m, .string r, .bool v, .bool q]) (by simp) rfl; have c3 : ww.cell? ⟨w.heap.size, 3, none⟩ = some (.bool q) := HC.c (cs := #[.int .i64 m, .string r, .bool v, .bool q]) (by simp) rfl; have clt : w.heap.size < ww.heap.size := HC.lt (cs := #[.int .i64 m, .string r, .bool v, .bool q]) (by simp); clear hx)
    | (go_at_call 10; (with_reducible refine (may_is HM.out hrm _).mono ?_); rintro e wm ⟨rfl, hx⟩; (try clear c0 c1 c2 c3 clt); (try clear d0 d1 d2 d3 dlt); have HCn := HC.ext hx; clear HC; have HC := HCn; clear HCn; have c0 : wm.cell? ⟨w.heap.size, 0, none⟩ = some (.int .i64 m) := HC.c (cs := #[.int .i64 m, .string r, .bool v, .bool q]) (by simp) rfl; have c1 : wm.cell? ⟨w.heap.size, 1, none⟩ = some (.string r) := HC.c (cs := #[.int .i64 m, .string r, .bool v, .bool q]) (by simp) rfl; have c2 : wm.cell? ⟨w.heap.size, 2, none⟩ = some (.bool v) := HC.c (cs := #[.int .i64 m, .string r, .bool v, .bool q]) (by simp) rfl; have c3 : wm.cell? ⟨w.heap.size, 3, none⟩ = some (.bool q) := HC.c (cs := #[.int .i64 m, .string r, .bool v, .bool q]) (by simp) rfl; have clt : w.heap.size < wm.heap.size := HC.lt (cs := #[.int .i64 m, .string r, .bool v, .bool q]) (by simp); (first | (have hSn := hS2.ext hx; clear hS2; have hS2 := hSn; clear hSn) | skip); clear hx)
    | (go_at_call 9; (with_reducible refine (parse_is (h.ext HC.bel) (hM.ext HC.bel) HP.out rfl).mono ?_); rintro e wl ⟨rfl, hx⟩; simp only [zeroC]; (try clear c0 c1 c2 c3 clt); (try clear d0 d1 d2 d3 dlt); have HCn := HC.ext hx; clear HC; have HC := HCn; clear HCn; have HCn := HC.add #[.int .i64 0, .string ⟨#[]⟩, .bool false, .bool false]; clear HC; have HC := HCn; clear HCn; clear hx)
    | (go_at_call 8; refine (awake_any _ (hM.ext HC.bel)).mono ?_; rintro e wz ⟨rfl, hx⟩; have HCn := HC.ext hx; clear HC; have HC := HCn; clear HCn))
  go_ret
  exact ⟨rfl, HC.bel⟩

set_option maxHeartbeats 4000000 in
theorem back_ay (m : Int) (r : ByteArray) (v q : Bool) (ao : Option Addr) (cap : Nat) (ss : List ByteArray) (w : World) (h : StrsV w ao cap ss) (hM : ModesW w) (hr : r.size ≤ 9223372036854775807) (h100 : r.size ≤ 100) (HF : Hid (fewOk ss = true)) (HM : Hid (mayB ⟨m, r, v, q⟩ = false)) (dm : Int) (dr : ByteArray) (dv dq : Bool) (HP : Hid (parseL ss = (⟨dm, dr, dv, dq⟩, 0, 0))) (HMD : Hid (mayB ⟨dm, dr, dv, dq⟩ = true)) :
    Calls Tryd.prog 4 #[.agg #[.int .i64 m, .string r, .bool v, .bool q], .slice ao ss.length cap] w fun e w' => e = .returned (.bool true) ∧ Ext w w' := by
  have hl := h.len
  have hrm : r.size ≤ maxLen := by unfold maxLen; omega
  have HC := Cur.start w #[.int .i64 m, .string r, .bool v, .bool q]
  have hds := may_size HMD.out
  simp only at hds
  have hdr : dr.size ≤ 9223372036854775807 := by omega
  have hdrm : dr.size ≤ maxLen := by unfold maxLen; omega
  have hlen : (((wordsOf ⟨dm, dr, dv, dq⟩).length : Int) == (ss.length : Int)) = true := by rw [parse_len HP.out]; simp
  go_enter Tryd.func4, Tryd.ntmps4
  go_wp2_with (first
    | (go_at_call 7; refine (few_is (h.ext HC.bel) HF.out).mono ?_; rintro e w1 ⟨rfl, rfl⟩)
    | (go_at_call 11; (with_reducible refine (words_no_is hr (hM.ext HC.bel) HM.out).mono ?_); rintro e ww ⟨rfl, hx⟩; (try clear c0 c1 c2 c3 clt); (try clear d0 d1 d2 d3 dlt); have HCn := HC.ext hx; clear HC; have HC := HCn; clear HCn; have c0 : ww.cell? ⟨w.heap.size, 0, none⟩ = some (.int .i64 m) := HC.c (cs := #[.int .i64 m, .string r, .bool v, .bool q]) (by simp) rfl; have c1 : ww.cell? ⟨w.heap.size, 1, none⟩ = some (.string r) := HC.c (cs := #[.int .i64 m, .string r, .bool v, .bool q]) (by simp) rfl; have c2 : ww.cell? ⟨w.heap.size, 2, none⟩ = some (.bool v) := HC.c (cs := #[.int .i64 m, .string r, .bool v, .bool q]) (by simp) rfl; have c3 : ww.cell? ⟨w.heap.size, 3, none⟩ = some (.bool q) := HC.c (cs := #[.int .i64 m, .string r, .bool v, .bool q]) (by simp) rfl; have clt : w.heap.size < ww.heap.size := HC.lt (cs := #[.int .i64 m, .string r, .bool v, .bool q]) (by simp); clear hx)
    | (go_at_call 10; (with_reducible refine (may_is HM.out hrm _).mono ?_); rintro e wm ⟨rfl, hx⟩; (try clear c0 c1 c2 c3 clt); (try clear d0 d1 d2 d3 dlt); have HCn := HC.ext hx; clear HC; have HC := HCn; clear HCn; have c0 : wm.cell? ⟨w.heap.size, 0, none⟩ = some (.int .i64 m) := HC.c (cs := #[.int .i64 m, .string r, .bool v, .bool q]) (by simp) rfl; have c1 : wm.cell? ⟨w.heap.size, 1, none⟩ = some (.string r) := HC.c (cs := #[.int .i64 m, .string r, .bool v, .bool q]) (by simp) rfl; have c2 : wm.cell? ⟨w.heap.size, 2, none⟩ = some (.bool v) := HC.c (cs := #[.int .i64 m, .string r, .bool v, .bool q]) (by simp) rfl; have c3 : wm.cell? ⟨w.heap.size, 3, none⟩ = some (.bool q) := HC.c (cs := #[.int .i64 m, .string r, .bool v, .bool q]) (by simp) rfl; have clt : w.heap.size < wm.heap.size := HC.lt (cs := #[.int .i64 m, .string r, .bool v, .bool q]) (by simp); (first | (have hSn := hS2.ext hx; clear hS2; have hS2 := hSn; clear hSn) | skip); clear hx)
    | (go_at_call 9; (with_reducible refine (parse_is (h.ext HC.bel) (hM.ext HC.bel) HP.out rfl).mono ?_); rintro e wl ⟨rfl, hx⟩; (try clear c0 c1 c2 c3 clt); (try clear d0 d1 d2 d3 dlt); have HCn := HC.ext hx; clear HC; have HC := HCn; clear HCn; have HCn := HC.add #[.int .i64 dm, .string dr, .bool dv, .bool dq]; clear HC; have HC := HCn; clear HCn; clear hx)
    | (go_at_call 11; (with_reducible refine (words_yes_is hdr (hM.ext HC.bel) HMD.out).mono ?_); rintro e wd ⟨ao3, cap3, rfl, hcap3, hS3, hx⟩; (try clear c0 c1 c2 c3 clt); (try clear d0 d1 d2 d3 dlt); have HCn := HC.ext hx; clear HC; have HC := HCn; clear HCn; have d0 : wd.cell? ⟨wl.heap.size, 0, none⟩ = some (.int .i64 dm) := HC.c (cs := #[.int .i64 dm, .string dr, .bool dv, .bool dq]) (by simp) rfl; have d1 : wd.cell? ⟨wl.heap.size, 1, none⟩ = some (.string dr) := HC.c (cs := #[.int .i64 dm, .string dr, .bool dv, .bool dq]) (by simp) rfl; have d2 : wd.cell? ⟨wl.heap.size, 2, none⟩ = some (.bool dv) := HC.c (cs := #[.int .i64 dm, .string dr, .bool dv, .bool dq]) (by simp) rfl; have d3 : wd.cell? ⟨wl.heap.size, 3, none⟩ = some (.bool dq) := HC.c (cs := #[.int .i64 dm, .string dr, .bool dv, .bool dq]) (by simp) rfl; have dlt : wl.heap.size < wd.heap.size := HC.lt (cs := #[.int .i64 dm, .string dr, .bool dv, .bool dq]) (by simp); clear hx)
    | (go_at_call 9; (with_reducible refine (parse_is hS3 (hM.ext HC.bel) (parse_words HMD.out) rfl).mono ?_); rintro e wx ⟨rfl, hx⟩; (try clear c0 c1 c2 c3 clt); (try clear d0 d1 d2 d3 dlt); have HCn := HC.ext hx; clear HC; have HC := HCn; clear HCn; have d0 : wx.cell? ⟨wl.heap.size, 0, none⟩ = some (.int .i64 dm) := HC.c (cs := #[.int .i64 dm, .string dr, .bool dv, .bool dq]) (by simp) rfl; have d1 : wx.cell? ⟨wl.heap.size, 1, none⟩ = some (.string dr) := HC.c (cs := #[.int .i64 dm, .string dr, .bool dv, .bool dq]) (by simp) rfl; have d2 : wx.cell? ⟨wl.heap.size, 2, none⟩ = some (.bool dv) := HC.c (cs := #[.int .i64 dm, .string dr, .bool dv, .bool dq]) (by simp) rfl; have d3 : wx.cell? ⟨wl.heap.size, 3, none⟩ = some (.bool dq) := HC.c (cs := #[.int .i64 dm, .string dr, .bool dv, .bool dq]) (by simp) rfl; have dlt : wl.heap.size < wx.heap.size := HC.lt (cs := #[.int .i64 dm, .string dr, .bool dv, .bool dq]) (by simp); have HCn := HC.add #[.int .i64 dm, .string dr, .bool dv, .bool dq]; clear HC; have HC := HCn; clear HCn; clear hx hS3)
    | (go_at_call 10; (with_reducible refine (may_is HMD.out hdrm _).mono ?_); rintro e wm2 ⟨rfl, hx⟩; (try clear c0 c1 c2 c3 clt); (try clear d0 d1 d2 d3 dlt); have HCn := HC.ext hx; clear HC; have HC := HCn; clear HCn; have d0 : wm2.cell? ⟨wl.heap.size, 0, none⟩ = some (.int .i64 dm) := HC.c (cs := #[.int .i64 dm, .string dr, .bool dv, .bool dq]) (by simp) rfl; have d1 : wm2.cell? ⟨wl.heap.size, 1, none⟩ = some (.string dr) := HC.c (cs := #[.int .i64 dm, .string dr, .bool dv, .bool dq]) (by simp) rfl; have d2 : wm2.cell? ⟨wl.heap.size, 2, none⟩ = some (.bool dv) := HC.c (cs := #[.int .i64 dm, .string dr, .bool dv, .bool dq]) (by simp) rfl; have d3 : wm2.cell? ⟨wl.heap.size, 3, none⟩ = some (.bool dq) := HC.c (cs := #[.int .i64 dm, .string dr, .bool dv, .bool dq]) (by simp) rfl; have dlt : wl.heap.size < wm2.heap.size := HC.lt (cs := #[.int .i64 dm, .string dr, .bool dv, .bool dq]) (by simp); have x0 : wm2.cell? ⟨wx.heap.size, 0, none⟩ = some (.int .i64 dm) := HC.c (cs := #[.int .i64 dm, .string dr, .bool dv, .bool dq]) (by simp) rfl; have x1 : wm2.cell? ⟨wx.heap.size, 1, none⟩ = some (.string dr) := HC.c (cs := #[.int .i64 dm, .string dr, .bool dv, .bool dq]) (by simp) rfl; have x2 : wm2.cell? ⟨wx.heap.size, 2, none⟩ = some (.bool dv) := HC.c (cs := #[.int .i64 dm, .string dr, .bool dv, .bool dq]) (by simp) rfl; have x3 : wm2.cell? ⟨wx.heap.size, 3, none⟩ = some (.bool dq) := HC.c (cs := #[.int .i64 dm, .string dr, .bool dv, .bool dq]) (by simp) rfl; clear hx)
    | (go_at_call 8; refine (awake_any _ (hM.ext HC.bel)).mono ?_; rintro e wz ⟨rfl, hx⟩; have HCn := HC.ext hx; clear HC; have HC := HCn; clear HCn))
  go_ret
  exact ⟨rfl, HC.bel⟩

set_option maxHeartbeats 4000000 in
theorem back_bn (m : Int) (r : ByteArray) (v q : Bool) (ao : Option Addr) (cap : Nat) (ss : List ByteArray) (w : World) (h : StrsV w ao cap ss) (hM : ModesW w) (hr : r.size ≤ 9223372036854775807) (h100 : r.size ≤ 100) (HF : Hid (fewOk ss = true)) (HM : Hid (mayB ⟨m, r, v, q⟩ = true)) (k : Nat) (n : Int) (HP : Hid (parseL ss = (zeroC, k, n))) (hn : (n == 0) = false) :
    Calls Tryd.prog 4 #[.agg #[.int .i64 m, .string r, .bool v, .bool q], .slice ao ss.length cap] w fun e w' => e = .returned (.bool true) ∧ Ext w w' := by
  have hl := h.len
  have hrm : r.size ≤ maxLen := by unfold maxLen; omega
  have HC := Cur.start w #[.int .i64 m, .string r, .bool v, .bool q]
  go_enter Tryd.func4, Tryd.ntmps4
  go_wp2_with (first
    | (go_at_call 7; refine (few_is (h.ext HC.bel) HF.out).mono ?_; rintro e w1 ⟨rfl, rfl⟩)
    | (go_at_call 11; (with_reducible refine (words_yes_is hr (hM.ext HC.bel) HM.out).mono ?_); rintro e ww ⟨ao2, cap2, rfl, hcap2, hS2, hx⟩; (try clear c0 c1 c2 c3 clt); (try clear d0 d1 d2 d3 dlt); have HCn := HC.ext hx; clear HC; have HC := HCn; clear HCn; have c0 : ww.cell? ⟨w.heap.size, 0, none⟩ = some (.int .i64 m) := HC.c (cs := #[.int .i64 m, .string r, .bool v, .bool q]) (by simp) rfl; have c1 : ww.cell? ⟨w.heap.size, 1, none⟩ = some (.string r) := HC.c (cs := #[.int .i64 m, .string r, .bool v, .bool q]) (by simp) rfl; have c2 : ww.cell? ⟨w.heap.size, 2, none⟩ = some (.bool v) := HC.c (cs := #[.int .i64 m, .string r, .bool v, .bool q]) (by simp) rfl; have c3 : ww.cell? ⟨w.heap.size, 3, none⟩ = some (.bool q) := HC.c (cs := #[.int .i64 m, .string r, .bool v, .bool q]) (by simp) rfl; have clt : w.heap.size < ww.heap.size := HC.lt (cs := #[.int .i64 m, .string r, .bool v, .bool q]) (by simp); clear hx)
    | (go_at_call 10; (with_reducible refine (may_is HM.out hrm _).mono ?_); rintro e wm ⟨rfl, hx⟩; (try clear c0 c1 c2 c3 clt); (try clear d0 d1 d2 d3 dlt); have HCn := HC.ext hx; clear HC; have HC := HCn; clear HCn; have c0 : wm.cell? ⟨w.heap.size, 0, none⟩ = some (.int .i64 m) := HC.c (cs := #[.int .i64 m, .string r, .bool v, .bool q]) (by simp) rfl; have c1 : wm.cell? ⟨w.heap.size, 1, none⟩ = some (.string r) := HC.c (cs := #[.int .i64 m, .string r, .bool v, .bool q]) (by simp) rfl; have c2 : wm.cell? ⟨w.heap.size, 2, none⟩ = some (.bool v) := HC.c (cs := #[.int .i64 m, .string r, .bool v, .bool q]) (by simp) rfl; have c3 : wm.cell? ⟨w.heap.size, 3, none⟩ = some (.bool q) := HC.c (cs := #[.int .i64 m, .string r, .bool v, .bool q]) (by simp) rfl; have clt : w.heap.size < wm.heap.size := HC.lt (cs := #[.int .i64 m, .string r, .bool v, .bool q]) (by simp); (first | (have hSn := hS2.ext hx; clear hS2; have hS2 := hSn; clear hSn) | skip); clear hx)
    | (go_at_call 9; (with_reducible refine (parse_is hS2 (hM.ext HC.bel) (parse_words HM.out) rfl).mono ?_); rintro e wp ⟨rfl, hx⟩; (try clear c0 c1 c2 c3 clt); (try clear d0 d1 d2 d3 dlt); have HCn := HC.ext hx; clear HC; have HC := HCn; clear HCn; have c0 : wp.cell? ⟨w.heap.size, 0, none⟩ = some (.int .i64 m) := HC.c (cs := #[.int .i64 m, .string r, .bool v, .bool q]) (by simp) rfl; have c1 : wp.cell? ⟨w.heap.size, 1, none⟩ = some (.string r) := HC.c (cs := #[.int .i64 m, .string r, .bool v, .bool q]) (by simp) rfl; have c2 : wp.cell? ⟨w.heap.size, 2, none⟩ = some (.bool v) := HC.c (cs := #[.int .i64 m, .string r, .bool v, .bool q]) (by simp) rfl; have c3 : wp.cell? ⟨w.heap.size, 3, none⟩ = some (.bool q) := HC.c (cs := #[.int .i64 m, .string r, .bool v, .bool q]) (by simp) rfl; have clt : w.heap.size < wp.heap.size := HC.lt (cs := #[.int .i64 m, .string r, .bool v, .bool q]) (by simp); have HCn := HC.add #[.int .i64 m, .string r, .bool v, .bool q]; clear HC; have HC := HCn; clear HCn; clear hx hS2)
    | (go_at_call 9; (with_reducible refine (parse_is (h.ext HC.bel) (hM.ext HC.bel) HP.out rfl).mono ?_); rintro e wl ⟨rfl, hx⟩; simp only [zeroC]; (try clear c0 c1 c2 c3 clt); (try clear d0 d1 d2 d3 dlt); have HCn := HC.ext hx; clear HC; have HC := HCn; clear HCn; have HCn := HC.add #[.int .i64 0, .string ⟨#[]⟩, .bool false, .bool false]; clear HC; have HC := HCn; clear HCn; clear hx)
    | (go_at_call 8; refine (awake_any _ (hM.ext HC.bel)).mono ?_; rintro e wz ⟨rfl, hx⟩; have HCn := HC.ext hx; clear HC; have HC := HCn; clear HCn))
  go_ret
  exact ⟨rfl, HC.bel⟩

set_option maxHeartbeats 4000000 in
theorem back_by (m : Int) (r : ByteArray) (v q : Bool) (ao : Option Addr) (cap : Nat) (ss : List ByteArray) (w : World) (h : StrsV w ao cap ss) (hM : ModesW w) (hr : r.size ≤ 9223372036854775807) (h100 : r.size ≤ 100) (HF : Hid (fewOk ss = true)) (HM : Hid (mayB ⟨m, r, v, q⟩ = true)) (dm : Int) (dr : ByteArray) (dv dq : Bool) (HP : Hid (parseL ss = (⟨dm, dr, dv, dq⟩, 0, 0))) (HMD : Hid (mayB ⟨dm, dr, dv, dq⟩ = true)) :
    Calls Tryd.prog 4 #[.agg #[.int .i64 m, .string r, .bool v, .bool q], .slice ao ss.length cap] w fun e w' => e = .returned (.bool true) ∧ Ext w w' := by
  have hl := h.len
  have hrm : r.size ≤ maxLen := by unfold maxLen; omega
  have HC := Cur.start w #[.int .i64 m, .string r, .bool v, .bool q]
  have hds := may_size HMD.out
  simp only at hds
  have hdr : dr.size ≤ 9223372036854775807 := by omega
  have hdrm : dr.size ≤ maxLen := by unfold maxLen; omega
  have hlen : (((wordsOf ⟨dm, dr, dv, dq⟩).length : Int) == (ss.length : Int)) = true := by rw [parse_len HP.out]; simp
  go_enter Tryd.func4, Tryd.ntmps4
  go_wp2_with (first
    | (go_at_call 7; refine (few_is (h.ext HC.bel) HF.out).mono ?_; rintro e w1 ⟨rfl, rfl⟩)
    | (go_at_call 11; (with_reducible refine (words_yes_is hr (hM.ext HC.bel) HM.out).mono ?_); rintro e ww ⟨ao2, cap2, rfl, hcap2, hS2, hx⟩; (try clear c0 c1 c2 c3 clt); (try clear d0 d1 d2 d3 dlt); have HCn := HC.ext hx; clear HC; have HC := HCn; clear HCn; have c0 : ww.cell? ⟨w.heap.size, 0, none⟩ = some (.int .i64 m) := HC.c (cs := #[.int .i64 m, .string r, .bool v, .bool q]) (by simp) rfl; have c1 : ww.cell? ⟨w.heap.size, 1, none⟩ = some (.string r) := HC.c (cs := #[.int .i64 m, .string r, .bool v, .bool q]) (by simp) rfl; have c2 : ww.cell? ⟨w.heap.size, 2, none⟩ = some (.bool v) := HC.c (cs := #[.int .i64 m, .string r, .bool v, .bool q]) (by simp) rfl; have c3 : ww.cell? ⟨w.heap.size, 3, none⟩ = some (.bool q) := HC.c (cs := #[.int .i64 m, .string r, .bool v, .bool q]) (by simp) rfl; have clt : w.heap.size < ww.heap.size := HC.lt (cs := #[.int .i64 m, .string r, .bool v, .bool q]) (by simp); clear hx)
    | (go_at_call 10; (with_reducible refine (may_is HM.out hrm _).mono ?_); rintro e wm ⟨rfl, hx⟩; (try clear c0 c1 c2 c3 clt); (try clear d0 d1 d2 d3 dlt); have HCn := HC.ext hx; clear HC; have HC := HCn; clear HCn; have c0 : wm.cell? ⟨w.heap.size, 0, none⟩ = some (.int .i64 m) := HC.c (cs := #[.int .i64 m, .string r, .bool v, .bool q]) (by simp) rfl; have c1 : wm.cell? ⟨w.heap.size, 1, none⟩ = some (.string r) := HC.c (cs := #[.int .i64 m, .string r, .bool v, .bool q]) (by simp) rfl; have c2 : wm.cell? ⟨w.heap.size, 2, none⟩ = some (.bool v) := HC.c (cs := #[.int .i64 m, .string r, .bool v, .bool q]) (by simp) rfl; have c3 : wm.cell? ⟨w.heap.size, 3, none⟩ = some (.bool q) := HC.c (cs := #[.int .i64 m, .string r, .bool v, .bool q]) (by simp) rfl; have clt : w.heap.size < wm.heap.size := HC.lt (cs := #[.int .i64 m, .string r, .bool v, .bool q]) (by simp); (first | (have hSn := hS2.ext hx; clear hS2; have hS2 := hSn; clear hSn) | skip); clear hx)
    | (go_at_call 9; (with_reducible refine (parse_is hS2 (hM.ext HC.bel) (parse_words HM.out) rfl).mono ?_); rintro e wp ⟨rfl, hx⟩; (try clear c0 c1 c2 c3 clt); (try clear d0 d1 d2 d3 dlt); have HCn := HC.ext hx; clear HC; have HC := HCn; clear HCn; have c0 : wp.cell? ⟨w.heap.size, 0, none⟩ = some (.int .i64 m) := HC.c (cs := #[.int .i64 m, .string r, .bool v, .bool q]) (by simp) rfl; have c1 : wp.cell? ⟨w.heap.size, 1, none⟩ = some (.string r) := HC.c (cs := #[.int .i64 m, .string r, .bool v, .bool q]) (by simp) rfl; have c2 : wp.cell? ⟨w.heap.size, 2, none⟩ = some (.bool v) := HC.c (cs := #[.int .i64 m, .string r, .bool v, .bool q]) (by simp) rfl; have c3 : wp.cell? ⟨w.heap.size, 3, none⟩ = some (.bool q) := HC.c (cs := #[.int .i64 m, .string r, .bool v, .bool q]) (by simp) rfl; have clt : w.heap.size < wp.heap.size := HC.lt (cs := #[.int .i64 m, .string r, .bool v, .bool q]) (by simp); have HCn := HC.add #[.int .i64 m, .string r, .bool v, .bool q]; clear HC; have HC := HCn; clear HCn; clear hx hS2)
    | (go_at_call 9; (with_reducible refine (parse_is (h.ext HC.bel) (hM.ext HC.bel) HP.out rfl).mono ?_); rintro e wl ⟨rfl, hx⟩; (try clear c0 c1 c2 c3 clt); (try clear d0 d1 d2 d3 dlt); have HCn := HC.ext hx; clear HC; have HC := HCn; clear HCn; have HCn := HC.add #[.int .i64 dm, .string dr, .bool dv, .bool dq]; clear HC; have HC := HCn; clear HCn; clear hx)
    | (go_at_call 11; (with_reducible refine (words_yes_is hdr (hM.ext HC.bel) HMD.out).mono ?_); rintro e wd ⟨ao3, cap3, rfl, hcap3, hS3, hx⟩; (try clear c0 c1 c2 c3 clt); (try clear d0 d1 d2 d3 dlt); have HCn := HC.ext hx; clear HC; have HC := HCn; clear HCn; have d0 : wd.cell? ⟨wl.heap.size, 0, none⟩ = some (.int .i64 dm) := HC.c (cs := #[.int .i64 dm, .string dr, .bool dv, .bool dq]) (by simp) rfl; have d1 : wd.cell? ⟨wl.heap.size, 1, none⟩ = some (.string dr) := HC.c (cs := #[.int .i64 dm, .string dr, .bool dv, .bool dq]) (by simp) rfl; have d2 : wd.cell? ⟨wl.heap.size, 2, none⟩ = some (.bool dv) := HC.c (cs := #[.int .i64 dm, .string dr, .bool dv, .bool dq]) (by simp) rfl; have d3 : wd.cell? ⟨wl.heap.size, 3, none⟩ = some (.bool dq) := HC.c (cs := #[.int .i64 dm, .string dr, .bool dv, .bool dq]) (by simp) rfl; have dlt : wl.heap.size < wd.heap.size := HC.lt (cs := #[.int .i64 dm, .string dr, .bool dv, .bool dq]) (by simp); clear hx)
    | (go_at_call 9; (with_reducible refine (parse_is hS3 (hM.ext HC.bel) (parse_words HMD.out) rfl).mono ?_); rintro e wx ⟨rfl, hx⟩; (try clear c0 c1 c2 c3 clt); (try clear d0 d1 d2 d3 dlt); have HCn := HC.ext hx; clear HC; have HC := HCn; clear HCn; have d0 : wx.cell? ⟨wl.heap.size, 0, none⟩ = some (.int .i64 dm) := HC.c (cs := #[.int .i64 dm, .string dr, .bool dv, .bool dq]) (by simp) rfl; have d1 : wx.cell? ⟨wl.heap.size, 1, none⟩ = some (.string dr) := HC.c (cs := #[.int .i64 dm, .string dr, .bool dv, .bool dq]) (by simp) rfl; have d2 : wx.cell? ⟨wl.heap.size, 2, none⟩ = some (.bool dv) := HC.c (cs := #[.int .i64 dm, .string dr, .bool dv, .bool dq]) (by simp) rfl; have d3 : wx.cell? ⟨wl.heap.size, 3, none⟩ = some (.bool dq) := HC.c (cs := #[.int .i64 dm, .string dr, .bool dv, .bool dq]) (by simp) rfl; have dlt : wl.heap.size < wx.heap.size := HC.lt (cs := #[.int .i64 dm, .string dr, .bool dv, .bool dq]) (by simp); have HCn := HC.add #[.int .i64 dm, .string dr, .bool dv, .bool dq]; clear HC; have HC := HCn; clear HCn; clear hx hS3)
    | (go_at_call 10; (with_reducible refine (may_is HMD.out hdrm _).mono ?_); rintro e wm2 ⟨rfl, hx⟩; (try clear c0 c1 c2 c3 clt); (try clear d0 d1 d2 d3 dlt); have HCn := HC.ext hx; clear HC; have HC := HCn; clear HCn; have d0 : wm2.cell? ⟨wl.heap.size, 0, none⟩ = some (.int .i64 dm) := HC.c (cs := #[.int .i64 dm, .string dr, .bool dv, .bool dq]) (by simp) rfl; have d1 : wm2.cell? ⟨wl.heap.size, 1, none⟩ = some (.string dr) := HC.c (cs := #[.int .i64 dm, .string dr, .bool dv, .bool dq]) (by simp) rfl; have d2 : wm2.cell? ⟨wl.heap.size, 2, none⟩ = some (.bool dv) := HC.c (cs := #[.int .i64 dm, .string dr, .bool dv, .bool dq]) (by simp) rfl; have d3 : wm2.cell? ⟨wl.heap.size, 3, none⟩ = some (.bool dq) := HC.c (cs := #[.int .i64 dm, .string dr, .bool dv, .bool dq]) (by simp) rfl; have dlt : wl.heap.size < wm2.heap.size := HC.lt (cs := #[.int .i64 dm, .string dr, .bool dv, .bool dq]) (by simp); have x0 : wm2.cell? ⟨wx.heap.size, 0, none⟩ = some (.int .i64 dm) := HC.c (cs := #[.int .i64 dm, .string dr, .bool dv, .bool dq]) (by simp) rfl; have x1 : wm2.cell? ⟨wx.heap.size, 1, none⟩ = some (.string dr) := HC.c (cs := #[.int .i64 dm, .string dr, .bool dv, .bool dq]) (by simp) rfl; have x2 : wm2.cell? ⟨wx.heap.size, 2, none⟩ = some (.bool dv) := HC.c (cs := #[.int .i64 dm, .string dr, .bool dv, .bool dq]) (by simp) rfl; have x3 : wm2.cell? ⟨wx.heap.size, 3, none⟩ = some (.bool dq) := HC.c (cs := #[.int .i64 dm, .string dr, .bool dv, .bool dq]) (by simp) rfl; clear hx)
    | (go_at_call 8; refine (awake_any _ (hM.ext HC.bel)).mono ?_; rintro e wz ⟨rfl, hx⟩; have HCn := HC.ext hx; clear HC; have HC := HCn; clear HCn))
  go_ret
  exact ⟨rfl, HC.bel⟩

theorem back_any (m : Int) (r : ByteArray) (v q : Bool) (ao : Option Addr) (cap : Nat) (ss : List ByteArray) (w : World) (h : StrsV w ao cap ss) (hM : ModesW w) (hr : r.size ≤ 9223372036854775807) :
    Calls Tryd.prog 4 #[.agg #[.int .i64 m, .string r, .bool v, .bool q], .slice ao ss.length cap] w fun e w' => e = .returned (.bool true) ∧ Ext w w' := by
  by_cases h100 : r.size ≤ 100
  · cases hf : fewOk ss
    · exact back_many m r v q ao cap ss w h hM hr h100 hf
    · cases hm : mayB ⟨m, r, v, q⟩
      · rcases parse_two ss with ⟨⟨dm, dr, dv, dq⟩, hp, hd⟩ | ⟨k, n, hp, hn⟩
        · exact back_ay m r v q ao cap ss w h hM hr h100 hf hm dm dr dv dq hp hd
        · exact back_an m r v q ao cap ss w h hM hr h100 hf hm k n hp hn
      · rcases parse_two ss with ⟨⟨dm, dr, dv, dq⟩, hp, hd⟩ | ⟨k, n, hp, hn⟩
        · exact back_by m r v q ao cap ss w h hM hr h100 hf hm dm dr dv dq hp hd
        · exact back_bn m r v q ao cap ss w h hM hr h100 hf hm k n hp hn
  · exact back_long m r v q ao cap ss w h hM hr (by omega)
end Go.Proofs.YtoknhfmgkgmlhaaDoor
