/-
  Walk of Parse, for every list of words.
-/
import Derived.Test.YtoknhfmgkgmlhaaDoorW8
namespace Go.Proofs.YtoknhfmgkgmlhaaDoor
open Go.RowKit Go.Spy

def zeroC : Cmd := ⟨0, ⟨#[]⟩, false, false⟩
def pgo : List ByteArray → Nat → Cmd → Bool → Bool → Bool → (Cmd × Nat × Int)
  | [], _, c, _, _, _ => (c, 0, 0)
  | wd :: rest, at_, c, sr, sv, sq =>
    if wd = wRoot then
      if sr then (zeroC, at_, 15) else
      match rest with
      | [] => (zeroC, at_ + 1, 11)
      | r :: rest' => if nameOk r then pgo rest' (at_ + 2) { c with root := r } true sv sq else (zeroC, at_ + 1, 11)
    else if wd = wView then
      if sv then (zeroC, at_, 15) else if c.mode = 5 then pgo rest (at_ + 1) { c with view := true } sr true sq else (zeroC, at_, 12)
    else if wd = wQuiet then
      if sq then (zeroC, at_, 15) else pgo rest (at_ + 1) { c with quiet := true } sr sv true
    else (zeroC, at_, 12)

theorem pgo_other {wd : ByteArray} (rest : List ByteArray) (k : Nat) (c : Cmd) (sr sv sq : Bool) (h1 : wd ≠ wRoot) (h2 : wd ≠ wView) (h3 : wd ≠ wQuiet) : pgo (wd :: rest) k c sr sv sq = (zeroC, k, 12) := by
  cases rest <;> simp [pgo, h1, h2, h3]
theorem wv_ne : wView ≠ wRoot := by decide
theorem wq_ne : wQuiet ≠ wRoot := by decide
theorem wq_ne2 : wQuiet ≠ wView := by decide
theorem pgo_root_seen (rest : List ByteArray) (k : Nat) (c : Cmd) (sv sq : Bool) : pgo (wRoot :: rest) k c true sv sq = (zeroC, k, 15) := by
  cases rest <;> simp [pgo]
theorem pgo_root_nil (k : Nat) (c : Cmd) (sv sq : Bool) : pgo [wRoot] k c false sv sq = (zeroC, k + 1, 11) := by simp [pgo]
theorem pgo_root_no {r : ByteArray} (rest : List ByteArray) (k : Nat) (c : Cmd) (sv sq : Bool) (h : nameOk r = false) : pgo (wRoot :: r :: rest) k c false sv sq = (zeroC, k + 1, 11) := by simp [pgo, h]
theorem pgo_root_yes {r : ByteArray} (rest : List ByteArray) (k : Nat) (c : Cmd) (sv sq : Bool) (h : nameOk r = true) : pgo (wRoot :: r :: rest) k c false sv sq = pgo rest (k + 2) { c with root := r } true sv sq := by
  simp [pgo, h]
theorem pgo_view_seen (rest : List ByteArray) (k : Nat) (c : Cmd) (sr sq : Bool) : pgo (wView :: rest) k c sr true sq = (zeroC, k, 15) := by
  cases rest <;> simp [pgo, wv_ne]
theorem pgo_view_no (rest : List ByteArray) (k : Nat) (c : Cmd) (sr sq : Bool) (h : c.mode ≠ 5) : pgo (wView :: rest) k c sr false sq = (zeroC, k, 12) := by
  cases rest <;> simp [pgo, wv_ne, h]
theorem pgo_view_yes (rest : List ByteArray) (k : Nat) (c : Cmd) (sr sq : Bool) (h : c.mode = 5) : pgo (wView :: rest) k c sr false sq = pgo rest (k + 1) { c with view := true } sr true sq := by
  cases rest <;> simp [pgo, wv_ne, h]
theorem pgo_quiet_seen (rest : List ByteArray) (k : Nat) (c : Cmd) (sr sv : Bool) : pgo (wQuiet :: rest) k c sr sv true = (zeroC, k, 15) := by
  cases rest <;> simp [pgo, wq_ne, wq_ne2]
theorem pgo_quiet_yes (rest : List ByteArray) (k : Nat) (c : Cmd) (sr sv : Bool) : pgo (wQuiet :: rest) k c sr sv false = pgo rest (k + 1) { c with quiet := true } sr sv true := by
  cases rest <;> simp [pgo, wq_ne, wq_ne2]

def parseL : List ByteArray → (Cmd × Nat × Int)
  | [] => (zeroC, 0, 12)
  | m :: rest => if modeOf m = 0 then (zeroC, 0, 12) else pgo rest 1 ⟨modeOf m, ⟨#[]⟩, false, false⟩ false false false

def ParsePost (w : World) (r : Cmd × Nat × Int) (e : Ending) (w' : World) : Prop :=
  e = .returned (.tuple #[r.1.val, .int .i64 (r.2.1 : Int), .int .i64 r.2.2]) ∧ Ext w w'

def doesL (B : Nat) : List (ByteArray × Value) :=
  [(wRoot, .func (.func 13) #[] #[.pointer (some ⟨B + 3, 0, none⟩), .pointer (some ⟨B, 0, none⟩), .pointer (some ⟨B + 2, 0, none⟩)]),
   (wView, .func (.func 15) #[] #[.pointer (some ⟨B + 2, 0, none⟩)]), (wQuiet, .func (.func 16) #[] #[.pointer (some ⟨B + 2, 0, none⟩)])]

def flagOf (sr sv sq : Bool) (s : ByteArray) : Bool := (decide (s = wRoot) && sr) || (decide (s = wView) && sv) || (decide (s = wQuiet) && sq)

structure PSt (w : World) (ao : Option Addr) (n cap : Nat) (bS : Nat) (wr : World) (k : Nat) (c : Cmd) (sr sv sq : Bool) : Prop where
  bL : Blk wr w.heap.size 22 #[.slice ao n cap]
  bR : Blk wr (w.heap.size + 1) 26 #[.int .i64 0, .string ⟨#[]⟩, .bool false, .bool false]
  bC : Blk wr (w.heap.size + 1 + 1) 26 #[.int .i64 c.mode, .string c.root, .bool c.view, .bool c.quiet]
  bA : Blk wr (w.heap.size + 1 + 1 + 1) 3 #[.int .i64 (k : Int)]
  mD : MapB wr (w.heap.size + 1 + 1 + 1 + 1) Value.string (doesL w.heap.size)
  mS : ∃ ls, MapB wr bS Value.string ls ∧ ∀ s, alook ls s = if flagOf sr sv sq s = true then some (.int .i64 1) else none
  hS : w.heap.size + 1 + 1 + 1 + 1 < bS
  bel : Below w.heap.size w wr

theorem K9 : KeyOk (κ := ByteArray) Tryd.prog 9 Value.string := keyOk_string Tryd.underlying9

theorem parse_init {w w1 w2 w3 : World} {ao : Option Addr} {n cap : Nat} {m : Int}
    (hg1 : World.grownBy (((((w.alloc (.cells #[.slice ao n cap] 22)).alloc (.cells #[.int .i64 0, .string ⟨#[]⟩, .bool false, .bool false] 26)).alloc (.cells #[.int .i64 m, .string ⟨#[]⟩, .bool false, .bool false] 26)).alloc (.cells #[.int .i64 1] 3)).alloc (.map #[] 0)) w1 (some (w.heap.size + 1 + 1 + 1 + 1)))
    (hg2 : w1.grownBy w2 (some (w.heap.size + 1 + 1 + 1 + 1))) (hg3 : w2.grownBy w3 (some (w.heap.size + 1 + 1 + 1 + 1))) {l : List (ByteArray × Value)} (hm3 : MapB w3 (w.heap.size + 1 + 1 + 1 + 1) Value.string l) (hl : l = doesL w.heap.size) :
    PSt w ao n cap w3.heap.size (w3.alloc (.map #[] 0)) 1 ⟨m, ⟨#[]⟩, false, false⟩ false false false := by
  subst hl
  have hB : ∀ k, k < w.heap.size + 1 + 1 + 1 + 1 → ∀ t vs, Blk (((((w.alloc (.cells #[.slice ao n cap] 22)).alloc (.cells #[.int .i64 0, .string ⟨#[]⟩, .bool false, .bool false] 26)).alloc (.cells #[.int .i64 m, .string ⟨#[]⟩, .bool false, .bool false] 26)).alloc (.cells #[.int .i64 1] 3)).alloc (.map #[] 0)) k t vs → Blk (w3.alloc (.map #[] 0)) k t vs := by
    intro k hk t vs hb
    have hne : some k ≠ some (w.heap.size + 1 + 1 + 1 + 1) := by simp; omega
    exact (((hb.grown hg1 hne).grown hg2 hne).grown hg3 hne).alloc _
  have hlt := hm3.lt
  refine ⟨hB _ (by omega) _ _ ?_, hB _ (by omega) _ _ ?_, hB _ (by omega) _ _ ?_, hB _ (by omega) _ _ ?_, hm3.alloc _, ⟨[], MapB.new _ _, fun s => by simp [alook, flagOf]⟩, hlt, ?_⟩
  · exact ((((Blk.new' _ _ _ (by simp)).alloc _).alloc _).alloc _).alloc _
  · exact (((Blk.new' _ _ _ (by simp)).alloc _).alloc _).alloc _
  · exact ((Blk.new' _ _ _ (by simp)).alloc _).alloc _
  · exact (Blk.new' _ _ _ (by simp)).alloc _
  · have h0 : Below w.heap.size w (((((w.alloc (.cells #[.slice ao n cap] 22)).alloc (.cells #[.int .i64 0, .string ⟨#[]⟩, .bool false, .bool false] 26)).alloc (.cells #[.int .i64 m, .string ⟨#[]⟩, .bool false, .bool false] 26)).alloc (.cells #[.int .i64 1] 3)).alloc (.map #[] 0)) :=
      (((((Below.refl _ _).alloc (Nat.le_refl _) _).alloc (by simp) _).alloc (by simp; omega) _).alloc (by simp; omega) _).alloc (by simp; omega) _
    have h1 : Below w.heap.size w w1 := h0.grown hg1 (by simp; omega) (by simp; omega)
    have h2 : Below w.heap.size w w2 := h1.grown hg2 (by have := h1.size; omega) (by simp; omega)
    have h3 : Below w.heap.size w w3 := h2.grown hg3 (by have := h2.size; omega) (by simp; omega)
    exact h3.alloc h3.size _

theorem PSt.next {w wr w1 w2 : World} {ao : Option Addr} {n cap bS k k1 : Nat} {c c1 : Cmd} {sr sv sq sr' sv' sq' : Bool} {s : ByteArray} {ls : List (ByteArray × Value)}
    (hp : PSt w ao n cap bS wr k c sr sv sq) (hls : ∀ s, alook ls s = if flagOf sr sv sq s = true then some (.int .i64 1) else none)
    (h1 : Chg (AC (w.heap.size + 1 + 1 + 1) (w.heap.size + 1 + 1)) wr w1) (bA1 : Blk w1 (w.heap.size + 1 + 1 + 1) 3 #[.int .i64 (k1 : Int)])
    (bC1 : Blk w1 (w.heap.size + 1 + 1) 26 #[.int .i64 c1.mode, .string c1.root, .bool c1.view, .bool c1.quiet])
    (hm2 : MapB w2 bS Value.string (aput ls s (.int .i64 1))) (hg2 : w1.grownBy w2 (some bS))
    (hf : ∀ s', flagOf sr' sv' sq' s' = (decide (s' = s) || flagOf sr sv sq s')) :
    PSt w ao n cap bS (w2.setCell ⟨w.heap.size + 1 + 1 + 1, 0, none⟩ (.int .i64 ((k1 : Int) + 1))) (k1 + 1) c1 sr' sv' sq' := by
  obtain ⟨bL, bR, bC, bA, mD, mS, hS, bel⟩ := hp
  have hne : ∀ j, j ≤ w.heap.size + 1 + 1 + 1 + 1 → some j ≠ some bS := fun j hj => by simp; omega
  have hnS : ∀ j, (j ≠ w.heap.size + 1 + 1 + 1) → (j ≠ w.heap.size + 1 + 1) → ¬ AC (w.heap.size + 1 + 1 + 1) (w.heap.size + 1 + 1) j := fun j h1 h2 h3 => by rcases h3 with h3 | h3 <;> omega
  refine ⟨((bL.chg h1 (hnS _ (by omega) (by omega))).grown hg2 (hne _ (by omega))).setOther (by simp; omega) _, ((bR.chg h1 (hnS _ (by omega) (by omega))).grown hg2 (hne _ (by omega))).setOther (by simp; omega) _,
    (bC1.grown hg2 (hne _ (by omega))).setOther (by simp) _, (bA1.grown hg2 (hne _ (by omega))).set 0 _, ((mD.chg h1 (hnS _ (by omega) (by omega))).grown hg2 (hne _ (by omega))).setCell _ _,
    ⟨_, hm2.setCell _ _, fun s' => ?_⟩, hS, ?_⟩
  · rw [alook_aput, hls, hf]
    by_cases h : s' = s <;> simp [h]
  · have hb1 : Below w.heap.size wr w1 := h1.below bel.size (fun j hj => by rcases hj with rfl | rfl <;> omega)
    have hb2 := (bel.trans hb1).grown hg2 (bel.trans hb1).size (by simp; omega)
    exact hb2.setCell (by simp; omega) _

def errW (wr : World) (B : Nat) : World := (((wr.setCell ⟨B, 0, none⟩ (.int .i64 0)).setCell ⟨B, 1, none⟩ (.string ⟨#[]⟩)).setCell ⟨B, 2, none⟩ (.bool false)).setCell ⟨B, 3, none⟩ (.bool false)
theorem err_blk {wr : World} {B : Nat} (h : Blk wr B 26 #[.int .i64 0, .string ⟨#[]⟩, .bool false, .bool false]) : Blk (errW wr B) B 26 #[.int .i64 0, .string ⟨#[]⟩, .bool false, .bool false] :=
  (((h.set 0 (.int .i64 0)).set 1 (.string ⟨#[]⟩)).set 2 (.bool false)).set 3 (.bool false)
theorem err_fin {wr : World} {B : Nat} (h : Blk wr B 26 #[.int .i64 0, .string ⟨#[]⟩, .bool false, .bool false]) {tmps : Array Value} {x y : Int} (h2 : tmps[2]? = some (.pointer (some ⟨B, 0, none⟩))) (h3 : tmps[3]? = some (.int .i64 x)) (h4 : tmps[4]? = some (.int .i64 y)) :
    (results Tryd.f9 tmps).run Tryd.prog (errW wr B).drew = .ok (.tuple #[zeroC.val, .int .i64 x, .int .i64 y]) (errW wr B).drew := by
  have hb := err_blk h
  have q0 : (errW wr B).cell? ⟨B, 0, none⟩ = some (.int .i64 0) := hb.cell rfl
  have q1 : (errW wr B).cell? ⟨B, 1, none⟩ = some (.string ⟨#[]⟩) := hb.cell rfl
  have q2 : (errW wr B).cell? ⟨B, 2, none⟩ = some (.bool false) := hb.cell rfl
  have q3 : (errW wr B).cell? ⟨B, 3, none⟩ = some (.bool false) := hb.cell rfl
  simp [results, Tryd.results9, go_sem, h2, h3, h4, q0, q1, q2, q3, Cmd.val, zeroC]

theorem err_ext {w wr : World} (h : Below w.heap.size w wr) {a b c d : Value} :
    Ext w ((((wr.setCell ⟨w.heap.size + 1, 0, none⟩ a).setCell ⟨w.heap.size + 1, 1, none⟩ b).setCell ⟨w.heap.size + 1, 2, none⟩ c).setCell ⟨w.heap.size + 1, 3, none⟩ d).drew :=
  ((((h.setCell (by simp) _).setCell (by simp) _).setCell (by simp) _).setCell (by simp) _).drew

def okW (wr : World) (B : Nat) (c : Cmd) : World := (((wr.setCell ⟨B, 0, none⟩ (.int .i64 c.mode)).setCell ⟨B, 1, none⟩ (.string c.root)).setCell ⟨B, 2, none⟩ (.bool c.view)).setCell ⟨B, 3, none⟩ (.bool c.quiet)
theorem ok_fin {wr : World} {B : Nat} (h : Blk wr B 26 #[.int .i64 0, .string ⟨#[]⟩, .bool false, .bool false]) (c : Cmd) {tmps : Array Value} {x y : Int} (h2 : tmps[2]? = some (.pointer (some ⟨B, 0, none⟩))) (h3 : tmps[3]? = some (.int .i64 x)) (h4 : tmps[4]? = some (.int .i64 y)) :
    (results Tryd.f9 tmps).run Tryd.prog (okW wr B c) = .ok (.tuple #[c.val, .int .i64 x, .int .i64 y]) (okW wr B c) := by
  have hb : Blk (okW wr B c) B 26 #[.int .i64 c.mode, .string c.root, .bool c.view, .bool c.quiet] := (((h.set 0 (.int .i64 c.mode)).set 1 (.string c.root)).set 2 (.bool c.view)).set 3 (.bool c.quiet)
  have q0 : (okW wr B c).cell? ⟨B, 0, none⟩ = some (.int .i64 c.mode) := hb.cell rfl
  have q1 : (okW wr B c).cell? ⟨B, 1, none⟩ = some (.string c.root) := hb.cell rfl
  have q2 : (okW wr B c).cell? ⟨B, 2, none⟩ = some (.bool c.view) := hb.cell rfl
  have q3 : (okW wr B c).cell? ⟨B, 3, none⟩ = some (.bool c.quiet) := hb.cell rfl
  simp [results, Tryd.results9, go_sem, h2, h3, h4, q0, q1, q2, q3, Cmd.val]
theorem ok_ext {w wr : World} (h : Below w.heap.size w wr) (c : Cmd) : Ext w (okW wr (w.heap.size + 1) c) :=
  ((((h.setCell (by simp) _).setCell (by simp) _).setCell (by simp) _).setCell (by simp) _)

set_option maxHeartbeats 1000000 in
theorem parse_pos (ao : Option Addr) (cap : Nat) (ss : List ByteArray) (w : World) (h : StrsV w ao cap ss) (hM : ModesW w) (hn : 0 < ss.length) :
    Calls Tryd.prog 9 #[.slice ao ss.length cap] w (ParsePost w (parseL ss)) := by
  obtain ⟨b, off, rfl, hb, hcs⟩ := h.cells hn
  have hl := h.len
  have hb1 : b < w.heap.size + 1 := by omega
  have hb2 : b < w.heap.size + 1 + 1 := by omega
  have hmm := @run_makeMap Tryd.prog
  have hc0 : w.cell? ⟨b, off, none⟩ = some (.string ss[0]) := hcs 0 hn
  obtain ⟨m0, hm0⟩ : ∃ m0, m0 = ss[0] := ⟨_, rfl⟩
  rw [← hm0] at hc0
  clear hcs
  have HM0 := hid hm0
  clear hm0
  by_cases hz : modeOf m0 = 0
  · have HZ : Hid (parseL ss = (zeroC, 0, 12)) := by
      have h1 := HM0.out
      cases ss with
      | nil => simp at hn
      | cons a r => simp at h1; subst h1; simp [Hid, parseL, hz]
    clear HM0
    go_enter Tryd.func9, Tryd.ntmps9
    go_wp2_with fail
    go_step3
    go_wp2_with (first
      | (go_at_call 12; refine (mode_any _ _ (hM.ext ((((Below.refl _ _).alloc (Nat.le_refl _) _).alloc (by simp) _).alloc (by simp; omega) _))).mono ?_; rintro e w1 ⟨rfl, rfl⟩))
    rw [Exit.noGoto_ret]
    exact bodyPost_ret (v := .tuple #[zeroC.val, .int .i64 0, .int .i64 12]) (by simp [results, Tryd.results9, go_sem, Cmd.val, zeroC]) rfl ⟨by rw [HZ.out]; rfl, (((Below.refl _ _).alloc (Nat.le_refl _) _).alloc (by simp) _).alloc (by simp; omega) _⟩
  · have hzb : (modeOf m0 == 0) = false := by simpa using hz
    have HZ : Hid (parseL ss = pgo (ss.drop 1) 1 ⟨modeOf m0, ⟨#[]⟩, false, false⟩ false false false) := by
      have h1 := HM0.out
      cases ss with
      | nil => simp at hn
      | cons a r => simp at h1; subst h1; simp [Hid, parseL, hz]
    clear hz HM0
    go_enter Tryd.func9, Tryd.ntmps9
    go_wp2_with fail
    go_step3
    go_wp2_with (first
      | (go_at_call 12; refine (mode_any _ _ (hM.ext ((((Below.refl _ _).alloc (Nat.le_refl _) _).alloc (by simp) _).alloc (by simp; omega) _))).mono ?_; rintro e w1 ⟨rfl, rfl⟩)
      | (with_reducible show wpList _ _ _ ((⟨_, Op.insert _ (.tmp 25) _ (.tmp 26), _, _, _, _⟩ : Oper) :: _) _ _
         go_loud (refine wpList_mapUpdateB _ rfl (.tmp 25) _ (.tmp 26) 39 (.inr rfl) 9 38 Value.string K9 Tryd.underlying39 (w.heap.size + 1 + 1 + 1 + 1) [] rfl (MapB.new' _ _ (by simp)) wRoot _ rfl rfl ?_)
         intro w1 hm1 hg1)
      | (with_reducible show wpList _ _ _ ((⟨_, Op.insert _ (.tmp 25) _ (.tmp 27), _, _, _, _⟩ : Oper) :: _) _ _
         go_loud (refine wpList_mapUpdateB _ rfl (.tmp 25) _ (.tmp 27) 39 (.inr rfl) 9 38 Value.string K9 Tryd.underlying39 (w.heap.size + 1 + 1 + 1 + 1) _ rfl hm1 wView _ rfl rfl ?_)
         intro w2 hm2 hg2)
      | (with_reducible show wpList _ _ _ ((⟨_, Op.insert _ (.tmp 25) _ (.tmp 28), _, _, _, _⟩ : Oper) :: _) _ _
         go_loud (refine wpList_mapUpdateB _ rfl (.tmp 25) _ (.tmp 28) 39 (.inr rfl) 9 38 Value.string K9 Tryd.underlying39 (w.heap.size + 1 + 1 + 1 + 1) _ rfl hm2 wQuiet _ rfl rfl ?_)
         intro w3 hm3 hg3))
    go_step3
    go_wp2_with fail
    have hp0 := parse_init hg1 hg2 hg3 hm3 rfl
    obtain ⟨bS, hbS⟩ : ∃ bS, bS = w3.heap.size := ⟨_, rfl⟩
    rw [← hbS] at hp0
    rw [← hbS]
    clear hbS hg1 hg2 hg3 hm1 hm2 hm3
    go_loopg [9] (ss.length - 1) (fun g e wr => ∃ (k : Nat) (c : Cmd) (sr sv sq : Bool), 1 ≤ k ∧ k ≤ ss.length ∧ g = ss.length - k ∧ e = .int .i64 0 ∧ PSt w (some ⟨b, off, none⟩) ss.length cap bS wr k c sr sv sq ∧ Hid (parseL ss = pgo (ss.drop k) k c sr sv sq))
    case atStart => exact ⟨1, _, false, false, false, by omega, by omega, rfl, rfl, hp0, HZ⟩
    case round =>
      obtain ⟨k, c, sr, sv, sq, hk1, hkn, rfl, rfl, hp, HG⟩ := hrel
      have HP := hid hp
      obtain ⟨bL, bR, bC, bA, mD, ⟨ls, mS, hls⟩, hS, bel⟩ := hp
      have HLS := hid hls
      have l1 : wr.cell? ⟨w.heap.size, 0, none⟩ = some (.slice (some ⟨b, off, none⟩) ss.length cap) := bL.cell rfl
      have a1 : wr.cell? ⟨w.heap.size + 1 + 1 + 1, 0, none⟩ = some (.int .i64 (k : Int)) := bA.cell rfl
      have f1 := bA.frozen 0
      have hz38 : (zeroValue 38).run Tryd.prog wr = .ok .nilFunc wr := by kernel_rfl
      have hz3 : ∀ w, (zeroValue 3).run Tryd.prog w = .ok (.int .i64 0) w := fun w => by kernel_rfl
      by_cases hlt : k < ss.length
      · obtain ⟨s, hs⟩ : ∃ s, s = ss[k] := ⟨_, rfl⟩
        have sc : wr.cell? ⟨b, off + k, none⟩ = some (.string s) := by
          obtain ⟨b', off', h1, h2, h3⟩ := h.cells hn
          cases h1
          rw [hs]
          exact (bel.cell (p := ⟨b, off + k, none⟩) hb).trans (h3 k hlt)
        have HD : Hid (ss.drop k = s :: ss.drop (k + 1)) := by rw [hs]; exact List.drop_eq_getElem_cons hlt
        have HSK : Hid (ss[k]? = some s) := by rw [hs]; exact List.getElem?_eq_getElem hlt
        clear hs
        have hlk := mD.lookup_ok K9 Tryd.underlying39 hz38 s
        have hsk := mS.lookup_bare K9 Tryd.underlying40 (hz3 wr) s
        rw [hls s] at hsk
        have HMD := hid mD
        have HMS := hid mS
        have HBC := hid bC
        have HBA := hid bA
        have HBR := hid bR
        have HBL := hid bL
        clear mD mS bC bA bR bL hls hz38
        by_cases hr : s = wRoot
        · subst hr
          rw [show alook (doesL w.heap.size) wRoot = some (.func (.func 13) #[] #[.pointer (some ⟨w.heap.size + 1 + 1 + 1, 0, none⟩), .pointer (some ⟨w.heap.size, 0, none⟩), .pointer (some ⟨w.heap.size + 1 + 1, 0, none⟩)]) by rfl] at hlk
          simp only [Option.getD_some, Option.isSome_some] at hlk
          have hfl : flagOf sr sv sq wRoot = sr := by simp [flagOf, Ne.symm wv_ne, Ne.symm wq_ne]
          cases hsr : sr
          · subst hsr
            simp only [hfl, Bool.false_eq_true, if_false, Option.getD_none] at hsk
            have HSV := hid (h.below bel (fun b' off' e => by cases e; exact hb))
            have HNS : Hid (∀ b' off', (some ⟨b, off, none⟩ : Option Addr) = some ⟨b', off', none⟩ → ¬ AC (w.heap.size + 1 + 1 + 1) (w.heap.size + 1 + 1) b') := fun b' off' e h2 => by cases e; rcases h2 with h2 | h2 <;> omega
            have herr : (∀ s, ss[k + 1]? = some s → nameOk s = false) ∨ ∃ r, ss[k + 1]? = some r ∧ nameOk r = true := by
              cases hh : ss[k + 1]? with
              | none => exact .inl fun s hs => by cases hs
              | some r => cases hn : nameOk r
                          · exact .inl fun s hs => by cases hs; exact hn
                          · exact .inr ⟨r, rfl, hn⟩
            rcases herr with hno | ⟨r, hrr, hok⟩
            · have HF : Hid (parseL ss = (zeroC, k + 1, 11)) := by
                have h1 := HG.out; rw [HD.out] at h1
                cases hd : ss.drop (k + 1) with
                | nil => rw [hd] at h1; exact h1.trans (pgo_root_nil _ _ _ _)
                | cons r rest =>
                  have hr2 : ss[k + 1]? = some r := by
                    have := congrArg List.head? hd
                    simpa using this
                  rw [hd] at h1; exact h1.trans (pgo_root_no _ _ _ _ _ (hno r hr2))
              have HNO := hid hno
              clear hno
              go_wp2_with (first
                | (go_at_call 13
                   refine (root_err (w.heap.size + 1 + 1 + 1) w.heap.size (w.heap.size + 1 + 1) (some ⟨b, off, none⟩) cap ss k c.mode c.root c.view c.quiet _ HBA.out HBL.out HBC.out HSV.out HNS.out (by omega) (by omega) (by omega) hlt HNO.out).mono ?_
                   rintro e w1 ⟨rfl, HQ⟩
                   have HRR := hid (HBR.out.chg HQ.out.2 (fun h2 => by rcases h2 with h2 | h2 <;> omega))
                   have a2 : w1.cell? ⟨w.heap.size + 1 + 1 + 1, 0, none⟩ = some (.int .i64 ((k : Int) + 1)) := HQ.out.1.cell rfl
                   have r0 : w1.cell? ⟨w.heap.size + 1, 0, none⟩ = some (.int .i64 0) := HRR.out.cell rfl
                   have r1 : w1.cell? ⟨w.heap.size + 1, 1, none⟩ = some (.string ⟨#[]⟩) := HRR.out.cell rfl
                   have r2 : w1.cell? ⟨w.heap.size + 1, 2, none⟩ = some (.bool false) := HRR.out.cell rfl
                   have r3 : w1.cell? ⟨w.heap.size + 1, 3, none⟩ = some (.bool false) := HRR.out.cell rfl
                   have fr := fun i => HRR.out.frozen i
                   ))
              go_region
              go_wp2_with fail
              rw [Exit.noGoto_ret]
              exact bodyPost_ret (v := .tuple #[zeroC.val, .int .i64 ((k : Int) + 1), .int .i64 11]) (err_fin HRR.out rfl rfl rfl) rfl ⟨by rw [HF.out]; rfl, err_ext (bel.trans (HQ.out.2.below bel.size (fun j hj => by rcases hj with rfl | rfl <;> omega)))⟩

            · have HF : Hid (parseL ss = pgo (ss.drop (k + 2)) (k + 2) { c with root := r } true sv sq) := by
                have h1 := HG.out; rw [HD.out] at h1
                have hd : ss.drop (k + 1) = r :: ss.drop (k + 2) := by
                  obtain ⟨h2, h3⟩ := List.getElem?_eq_some_iff.1 hrr
                  rw [← h3]; exact List.drop_eq_getElem_cons h2
                rw [hd] at h1; exact h1.trans (pgo_root_yes _ _ _ _ _ hok)
              have hk2 : k + 1 < ss.length := (List.getElem?_eq_some_iff.1 hrr).1
              have HRR := hid hrr
              have HOK := hid hok
              clear hrr hok
              go_wp2_with (first
                | (go_at_call 13
                   refine (root_ok (w.heap.size + 1 + 1 + 1) w.heap.size (w.heap.size + 1 + 1) (some ⟨b, off, none⟩) cap ss k c.mode c.root c.view c.quiet _ HBA.out HBL.out HBC.out HSV.out HNS.out (by omega) (by omega) (by omega) hlt r HRR.out HOK.out).mono ?_
                   rintro e w1 ⟨rfl, HQ⟩
                   have HM1 := hid (HMS.out.chg HQ.out.2.1 (fun h2 => by rcases h2 with h2 | h2 <;> omega))
                   have hs1 := HM1.out.lookup_bare K9 Tryd.underlying40 (hz3 w1) wRoot
                   rw [HLS.out wRoot, hfl] at hs1
                   simp only [Bool.false_eq_true, if_false, Option.getD_none] at hs1)
                | (at_mapUpdate
                   refine wpList_mapUpdateB _ rfl (.tmp 59) (.tmp 60) (.tmp 62) 40 (.inl rfl) 9 3 Value.string K9 Tryd.underlying40 bS ls rfl HM1.out wRoot _ rfl rfl ?_
                   intro w2 hm2 hg2
                   have HM2 := hid hm2
                   have HG2 := hid hg2
                   have hAA := HQ.out.1.grown hg2 (by simp; omega)
                   have a3 : w2.cell? ⟨w.heap.size + 1 + 1 + 1, 0, none⟩ = some (.int .i64 ((k : Int) + 1)) := hAA.cell rfl
                   have f3 := hAA.frozen 0
                   clear hm2 hg2 hAA))
              go_roundg (ss.length - (k + 2))
              case measure => omega
              case rel => exact ⟨k + 2, _, true, sv, sq, by omega, by omega, rfl, rfl, PSt.next (k1 := k + 1) (c1 := { c with root := r }) HP.out HLS.out HQ.out.2.1 HQ.out.1 HQ.out.2.2 HM2.out HG2.out (fun s' => by simp [flagOf]; cases decide (s' = wRoot) <;> simp), HF⟩
          · subst hsr
            simp only [hfl, if_true, Option.getD_some] at hsk
            have HF : Hid (parseL ss = (zeroC, k, 15)) := by
              have h1 := HG.out; rw [HD.out] at h1; exact h1.trans (pgo_root_seen _ _ _ _ _)
            have r0 : wr.cell? ⟨w.heap.size + 1, 0, none⟩ = some (.int .i64 0) := HBR.out.cell rfl
            have r1 : wr.cell? ⟨w.heap.size + 1, 1, none⟩ = some (.string ⟨#[]⟩) := HBR.out.cell rfl
            have r2 : wr.cell? ⟨w.heap.size + 1, 2, none⟩ = some (.bool false) := HBR.out.cell rfl
            have r3 : wr.cell? ⟨w.heap.size + 1, 3, none⟩ = some (.bool false) := HBR.out.cell rfl
            have fr := fun i => HBR.out.frozen i
            go_wp2_with fail
            go_region
            go_wp2_with fail
            rw [Exit.noGoto_ret]
            exact bodyPost_ret (v := .tuple #[zeroC.val, .int .i64 (k : Int), .int .i64 15]) (err_fin HBR.out rfl rfl rfl) rfl ⟨by rw [HF.out], err_ext bel⟩
        · by_cases hv : s = wView
          · subst hv
            rw [show alook (doesL w.heap.size) wView = some (.func (.func 15) #[] #[.pointer (some ⟨w.heap.size + 1 + 1, 0, none⟩)]) by rfl] at hlk
            simp only [Option.getD_some, Option.isSome_some] at hlk
            have hfl : flagOf sr sv sq wView = sv := by simp [flagOf, wv_ne, Ne.symm wq_ne2]
            cases hsx : sv
            · subst hsx
              simp only [hfl, Bool.false_eq_true, if_false, Option.getD_none] at hsk
              by_cases h5 : c.mode = 5
              · obtain ⟨cm, cr, cv, cq⟩ := c
                simp only at h5
                subst h5
                have HF : Hid (parseL ss = pgo (ss.drop (k + 1)) (k + 1) { mode := 5, root := cr, view := true, quiet := cq } sr true sq) := by
                  have h1 := HG.out; rw [HD.out] at h1; exact h1.trans (pgo_view_yes _ _ _ _ _ rfl)
                have HT : Hid (Chg (AC (w.heap.size + 1 + 1 + 1) (w.heap.size + 1 + 1)) wr (wr.setCell ⟨w.heap.size + 1 + 1, 2, none⟩ (.bool true))) := (Chg.refl _ _).setCell (.inr rfl) _
                have HM1 := hid (HMS.out.setCell ⟨w.heap.size + 1 + 1, 2, none⟩ (.bool true))
                have hs1 := HM1.out.lookup_bare K9 Tryd.underlying40 (hz3 _) wView
                rw [HLS.out wView, hfl] at hs1
                simp only [Bool.false_eq_true, if_false, Option.getD_none] at hs1
                have HA1 := hid (HBA.out.setOther (a := ⟨w.heap.size + 1 + 1, 2, none⟩) (by simp) (.bool true))
                have HC1 := hid (HBC.out.set 2 (.bool true))
                go_wp2_with (first
                  | (go_at_call 15
                     refine (view_yes _ _ _ _ _ HBC.out).mono ?_
                     rintro e w1 ⟨rfl, rfl⟩)
                  | (at_mapUpdate
                     refine wpList_mapUpdateB _ rfl (.tmp 59) (.tmp 60) (.tmp 62) 40 (.inl rfl) 9 3 Value.string K9 Tryd.underlying40 bS ls rfl HM1.out wView _ rfl rfl ?_
                     intro w2 hm2 hg2
                     have HM2 := hid hm2
                     have HG2 := hid hg2
                     have hAA := HA1.out.grown hg2 (by simp; omega)
                     have a3 : w2.cell? ⟨w.heap.size + 1 + 1 + 1, 0, none⟩ = some (.int .i64 (k : Int)) := hAA.cell rfl
                     have f3 := hAA.frozen 0
                     clear hm2 hg2 hAA))
                go_roundg (ss.length - (k + 1))
                case measure => omega
                case rel => exact ⟨k + 1, _, sr, true, sq, by omega, by omega, rfl, rfl, PSt.next (k1 := k) (c1 := { mode := 5, root := cr, view := true, quiet := cq }) HP.out HLS.out HT.out HA1.out HC1.out HM2.out HG2.out (fun s' => by simp [flagOf]; cases decide (s' = wView) <;> simp), HF⟩
              · have h5b : (c.mode == 5) = false := by simpa using h5
                have HF : Hid (parseL ss = (zeroC, k, 12)) := by
                  have h1 := HG.out; rw [HD.out] at h1; exact h1.trans (pgo_view_no _ _ _ _ _ h5)
                clear h5
                have r0 : wr.cell? ⟨w.heap.size + 1, 0, none⟩ = some (.int .i64 0) := HBR.out.cell rfl
                have r1 : wr.cell? ⟨w.heap.size + 1, 1, none⟩ = some (.string ⟨#[]⟩) := HBR.out.cell rfl
                have r2 : wr.cell? ⟨w.heap.size + 1, 2, none⟩ = some (.bool false) := HBR.out.cell rfl
                have r3 : wr.cell? ⟨w.heap.size + 1, 3, none⟩ = some (.bool false) := HBR.out.cell rfl
                have fr := fun i => HBR.out.frozen i
                go_wp2_with (first
                  | (go_at_call 15
                     refine (view_no _ _ _ _ _ _ HBC.out h5b).mono ?_
                     rintro e w1 ⟨rfl, rfl⟩))
                go_region
                go_wp2_with fail
                rw [Exit.noGoto_ret]
                exact bodyPost_ret (v := .tuple #[zeroC.val, .int .i64 (k : Int), .int .i64 12]) (err_fin HBR.out rfl rfl rfl) rfl ⟨by rw [HF.out], err_ext bel⟩
            · subst hsx
              simp only [hfl, if_true, Option.getD_some] at hsk
              have HF : Hid (parseL ss = (zeroC, k, 15)) := by
                have h1 := HG.out; rw [HD.out] at h1; exact h1.trans (pgo_view_seen _ _ _ _ _)
              have r0 : wr.cell? ⟨w.heap.size + 1, 0, none⟩ = some (.int .i64 0) := HBR.out.cell rfl
              have r1 : wr.cell? ⟨w.heap.size + 1, 1, none⟩ = some (.string ⟨#[]⟩) := HBR.out.cell rfl
              have r2 : wr.cell? ⟨w.heap.size + 1, 2, none⟩ = some (.bool false) := HBR.out.cell rfl
              have r3 : wr.cell? ⟨w.heap.size + 1, 3, none⟩ = some (.bool false) := HBR.out.cell rfl
              have fr := fun i => HBR.out.frozen i
              go_wp2_with fail
              go_region
              go_wp2_with fail
              rw [Exit.noGoto_ret]
              exact bodyPost_ret (v := .tuple #[zeroC.val, .int .i64 (k : Int), .int .i64 15]) (err_fin HBR.out rfl rfl rfl) rfl ⟨by rw [HF.out], err_ext bel⟩
          · by_cases hq : s = wQuiet
            · subst hq
              rw [show alook (doesL w.heap.size) wQuiet = some (.func (.func 16) #[] #[.pointer (some ⟨w.heap.size + 1 + 1, 0, none⟩)]) by rfl] at hlk
              simp only [Option.getD_some, Option.isSome_some] at hlk
              have hfl : flagOf sr sv sq wQuiet = sq := by simp [flagOf, wq_ne, wq_ne2]
              cases hsx : sq
              · subst hsx
                simp only [hfl, Bool.false_eq_true, if_false, Option.getD_none] at hsk
                have HF : Hid (parseL ss = pgo (ss.drop (k + 1)) (k + 1) { c with quiet := true } sr sv true) := by
                  have h1 := HG.out; rw [HD.out] at h1; exact h1.trans (pgo_quiet_yes _ _ _ _ _)
                have HT : Hid (Chg (AC (w.heap.size + 1 + 1 + 1) (w.heap.size + 1 + 1)) wr (wr.setCell ⟨w.heap.size + 1 + 1, 3, none⟩ (.bool true))) := (Chg.refl _ _).setCell (.inr rfl) _
                have HM1 := hid (HMS.out.setCell ⟨w.heap.size + 1 + 1, 3, none⟩ (.bool true))
                have hs1 := HM1.out.lookup_bare K9 Tryd.underlying40 (hz3 _) wQuiet
                rw [HLS.out wQuiet, hfl] at hs1
                simp only [Bool.false_eq_true, if_false, Option.getD_none] at hs1
                have HA1 := hid (HBA.out.setOther (a := ⟨w.heap.size + 1 + 1, 3, none⟩) (by simp) (.bool true))
                have HC1 := hid (HBC.out.set 3 (.bool true))
                go_wp2_with (first
                  | (go_at_call 16
                     refine (quiet_any _ _ _ _ _ _ HBC.out).mono ?_
                     rintro e w1 ⟨rfl, rfl⟩)
                  | (at_mapUpdate
                     refine wpList_mapUpdateB _ rfl (.tmp 59) (.tmp 60) (.tmp 62) 40 (.inl rfl) 9 3 Value.string K9 Tryd.underlying40 bS ls rfl HM1.out wQuiet _ rfl rfl ?_
                     intro w2 hm2 hg2
                     have HM2 := hid hm2
                     have HG2 := hid hg2
                     have hAA := HA1.out.grown hg2 (by simp; omega)
                     have a3 : w2.cell? ⟨w.heap.size + 1 + 1 + 1, 0, none⟩ = some (.int .i64 (k : Int)) := hAA.cell rfl
                     have f3 := hAA.frozen 0
                     clear hm2 hg2 hAA))
                go_roundg (ss.length - (k + 1))
                case measure => omega
                case rel => exact ⟨k + 1, _, sr, sv, true, by omega, by omega, rfl, rfl, PSt.next (k1 := k) (c1 := { c with quiet := true }) HP.out HLS.out HT.out HA1.out HC1.out HM2.out HG2.out (fun s' => by simp [flagOf]; cases decide (s' = wQuiet) <;> simp), HF⟩
              · subst hsx
                simp only [hfl, if_true, Option.getD_some] at hsk
                have HF : Hid (parseL ss = (zeroC, k, 15)) := by
                  have h1 := HG.out; rw [HD.out] at h1; exact h1.trans (pgo_quiet_seen _ _ _ _ _)
                have r0 : wr.cell? ⟨w.heap.size + 1, 0, none⟩ = some (.int .i64 0) := HBR.out.cell rfl
                have r1 : wr.cell? ⟨w.heap.size + 1, 1, none⟩ = some (.string ⟨#[]⟩) := HBR.out.cell rfl
                have r2 : wr.cell? ⟨w.heap.size + 1, 2, none⟩ = some (.bool false) := HBR.out.cell rfl
                have r3 : wr.cell? ⟨w.heap.size + 1, 3, none⟩ = some (.bool false) := HBR.out.cell rfl
                have fr := fun i => HBR.out.frozen i
                go_wp2_with fail
                go_region
                go_wp2_with fail
                rw [Exit.noGoto_ret]
                exact bodyPost_ret (v := .tuple #[zeroC.val, .int .i64 (k : Int), .int .i64 15]) (err_fin HBR.out rfl rfl rfl) rfl ⟨by rw [HF.out], err_ext bel⟩
            · have HF : Hid (parseL ss = (zeroC, k, 12)) := by
                have h1 := HG.out; rw [HD.out] at h1; exact h1.trans (pgo_other _ _ _ _ _ _ hr hv hq)
              rw [show alook (doesL w.heap.size) s = none by simp [doesL, alook, hr, hv, hq]] at hlk
              simp only [Option.getD_none, Option.isSome_none] at hlk
              clear hr hv hq hsk
              have r0 : wr.cell? ⟨w.heap.size + 1, 0, none⟩ = some (.int .i64 0) := HBR.out.cell rfl
              have r1 : wr.cell? ⟨w.heap.size + 1, 1, none⟩ = some (.string ⟨#[]⟩) := HBR.out.cell rfl
              have r2 : wr.cell? ⟨w.heap.size + 1, 2, none⟩ = some (.bool false) := HBR.out.cell rfl
              have r3 : wr.cell? ⟨w.heap.size + 1, 3, none⟩ = some (.bool false) := HBR.out.cell rfl
              have fr := fun i => HBR.out.frozen i
              go_wp2_with fail
              go_region
              go_wp2_with fail
              rw [Exit.noGoto_ret]
              exact bodyPost_ret (v := .tuple #[zeroC.val, .int .i64 (k : Int), .int .i64 12]) (err_fin HBR.out rfl rfl rfl) rfl ⟨by rw [HF.out], err_ext bel⟩
      · have hkk : k = ss.length := by omega
        have HF : Hid (parseL ss = (c, 0, 0)) := by
          have h1 := HG.out; rw [List.drop_eq_nil_of_le (by omega)] at h1; exact h1.trans (by simp [pgo])
        have r0 : wr.cell? ⟨w.heap.size + 1, 0, none⟩ = some (.int .i64 0) := bR.cell rfl
        have r1 : wr.cell? ⟨w.heap.size + 1, 1, none⟩ = some (.string ⟨#[]⟩) := bR.cell rfl
        have r2 : wr.cell? ⟨w.heap.size + 1, 2, none⟩ = some (.bool false) := bR.cell rfl
        have r3 : wr.cell? ⟨w.heap.size + 1, 3, none⟩ = some (.bool false) := bR.cell rfl
        have c0 : wr.cell? ⟨w.heap.size + 1 + 1, 0, none⟩ = some (.int .i64 c.mode) := bC.cell rfl
        have c1 : wr.cell? ⟨w.heap.size + 1 + 1, 1, none⟩ = some (.string c.root) := bC.cell rfl
        have c2 : wr.cell? ⟨w.heap.size + 1 + 1, 2, none⟩ = some (.bool c.view) := bC.cell rfl
        have c3 : wr.cell? ⟨w.heap.size + 1 + 1, 3, none⟩ = some (.bool c.quiet) := bC.cell rfl
        have fr := fun i => bR.frozen i
        have HBR := hid bR
        clear bR bC mS mD bA bL hls hz38 hkk
        go_wp2_with fail
        rw [Exit.noGoto_ret]
        exact bodyPost_ret (v := .tuple #[c.val, .int .i64 0, .int .i64 0]) (ok_fin HBR.out c rfl rfl rfl) rfl ⟨by rw [HF.out]; rfl, ok_ext bel c⟩

set_option maxHeartbeats 1000000 in
theorem parse_zero (ao : Option Addr) (cap : Nat) (w : World) :
    Calls Tryd.prog 9 #[.slice ao 0 cap] w (ParsePost w (parseL [])) := by
  have HZ : Hid (parseL [] = (zeroC, 0, 12)) := rfl
  go_enter Tryd.func9, Tryd.ntmps9
  go_wp2_with fail
  go_step3
  go_wp2_with fail
  rw [Exit.noGoto_ret]
  exact bodyPost_ret (v := .tuple #[zeroC.val, .int .i64 0, .int .i64 12]) (by simp [results, Tryd.results9, go_sem, Cmd.val, zeroC]) rfl ⟨by rw [HZ.out]; rfl, (((Below.refl _ _).alloc (Nat.le_refl _) _).alloc (by simp) _).alloc (by simp; omega) _⟩

theorem parse_any (ao : Option Addr) (cap : Nat) (ss : List ByteArray) (w : World) (h : StrsV w ao cap ss) (hM : ModesW w) :
    Calls Tryd.prog 9 #[.slice ao ss.length cap] w (ParsePost w (parseL ss)) := by
  cases ss with
  | nil => exact parse_zero ao cap w
  | cons a r => exact parse_pos ao cap (a :: r) w h hM (by simp)
end Go.Proofs.YtoknhfmgkgmlhaaDoor
