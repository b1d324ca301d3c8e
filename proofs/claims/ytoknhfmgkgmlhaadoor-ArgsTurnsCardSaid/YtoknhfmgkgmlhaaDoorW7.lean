/-
  Walks of Words, for every command.
-/
import Derived.Test.YtoknhfmgkgmlhaaDoorW6
namespace Go.Proofs.YtoknhfmgkgmlhaaDoor
open Go.RowKit Go.Spy

def wRoot : ByteArray := ⟨#[45, 114, 111, 111, 116]⟩
def wView : ByteArray := ⟨#[45, 118, 105, 101, 119]⟩
def wQuiet : ByteArray := ⟨#[45, 113, 117, 105, 101, 116]⟩

theorem ModesW.ck {w : World} (h : ModesW w) (k : Nat) (hk : k < 6) : w.cell? ⟨0, k, none⟩ = some (.string (modeWord k)) := by
  match k, hk with
  | 0, _ => exact h.c0
  | 1, _ => exact h.c1
  | 2, _ => exact h.c2
  | 3, _ => exact h.c3
  | 4, _ => exact h.c4
  | 5, _ => exact h.c5

def wordsOf (c : Cmd) : List ByteArray :=
  modeWord c.mode.toNat :: ((if c.root.toList.isEmpty then [] else [wRoot, c.root]) ++ ((if c.view then [wView] else []) ++ (if c.quiet then [wQuiet] else [])))

theorem info9 : (Tryd.prog.info? 9).map (fun i => (i.zero, i.size, i.bytes)) = some (some (.string ⟨#[]⟩), 1, 16) := by kernel_rfl

/-- What Words answers. -/
def WordsPost (w : World) (c : Cmd) (e : Ending) (w' : World) : Prop :=
  if mayB c = true then ∃ ao cap, e = .returned (.tuple #[.slice ao (wordsOf c).length cap, .int .i64 0]) ∧ (wordsOf c).length ≤ cap ∧ StrsV w' ao cap (wordsOf c) ∧ Ext w w'
  else e = .returned (.tuple #[.slice none 0 0, .int .i64 1]) ∧ Ext w w'

theorem words_no {w w' : World} {c : Cmd} (h : mayB c = false) (hx : Ext w w') : WordsPost w c (.returned (.tuple #[.slice none 0 0, .int .i64 1])) w' := by
  simp [WordsPost, h, hx]

set_option maxHeartbeats 1000000 in
theorem words_err (m : Int) (r : ByteArray) (v q : Bool) (w : World) (hr : r.size ≤ maxLen) (hm : mayB ⟨m, r, v, q⟩ = false) :
    Calls Tryd.prog 11 #[.agg #[.int .i64 m, .string r, .bool v, .bool q]] w (WordsPost w ⟨m, r, v, q⟩) := by
  have HM := hid hm
  clear hm
  by_cases h1 : 1 ≤ m
  · by_cases h2 : m ≤ 5
    · cases h3 : r.toList.isEmpty
      · cases h4 : nameOk r
        · go_enter Tryd.func11, Tryd.ntmps11
          go_wp2_with (first | (go_at_call 14; refine (is_any r _ hr).mono ?_; rintro e w' ⟨rfl, hx⟩))
          go_ret2
          exact words_no HM.out (below_ext ((Below.refl _ _).alloc (Nat.le_refl _) _) hx (by simp))
        · have hv : v = true ∧ m ≠ 5 := by
            have := HM.out
            simp [mayB, h4, h1, h2] at this
            exact this
          obtain ⟨rfl, h5⟩ := hv
          have h5b : (m == 5) = false := by simpa using h5
          go_enter Tryd.func11, Tryd.ntmps11
          go_wp2_with (first | (go_at_call 14; refine (is_any r _ hr).mono ?_; rintro e w' ⟨rfl, hx⟩; have hb := Blk.ext (Blk.new w 26 #[.int .i64 m, .string r, .bool true, .bool q]) hx; have c0 := hb.cell (i := 0) rfl; have c1 := hb.cell (i := 1) rfl; have c2 := hb.cell (i := 2) rfl; clear hb))
          go_ret2
          exact words_no HM.out (below_ext ((Below.refl _ _).alloc (Nat.le_refl _) _) hx (by simp))
      · have hv : v = true ∧ m ≠ 5 := by
          have := HM.out
          simp [mayB, h3, h1, h2] at this
          exact this
        obtain ⟨rfl, h5⟩ := hv
        have h5b : (m == 5) = false := by simpa using h5
        go_enter Tryd.func11, Tryd.ntmps11
        go_wp2_with fail
        go_ret2
        exact words_no HM.out ((Below.refl _ _).alloc (Nat.le_refl _) _)
    · go_enter Tryd.func11, Tryd.ntmps11
      go_wp2_with fail
      go_ret2
      exact words_no HM.out ((Below.refl _ _).alloc (Nat.le_refl _) _)
  · go_enter Tryd.func11, Tryd.ntmps11
    go_wp2_with fail
    go_ret2
    exact words_no HM.out ((Below.refl _ _).alloc (Nat.le_refl _) _)

structure WS (w : World) (box : Array Value) (w' : World) (v : Value) (ss : List ByteArray) : Prop where
  blk : Blk w' w.heap.size 26 box
  own : w'.ownsRow (w.heap.size + 1) 9 1 v ss.length (ss.map Value.string)
  bel : Below w.heap.size w w'

theorem WS.start {w w1 : World} {box : Array Value} (hb : Blk w1 w.heap.size 26 box) (h : Below w.heap.size w w1) (s : ByteArray) (cs : Array Value) (hcs : cs = #[Value.string s]) :
    WS w box (w1.alloc (.cells cs 9)) (.slice (some ⟨w1.heap.size, 0, none⟩) 1 1) [s] := by
  subst hcs
  have := hb.lt
  exact ⟨hb.alloc _, owns_literal w1 (w.heap.size + 1) 9 [.string s] (by omega) (by unfold maxLen; simp), h.alloc (by have := h.size; omega) _⟩

theorem wpList_ws {ops : Array Oper} {rest : List Oper} {o : Oper} {a : Act} {Q : Exit → Act → World → Prop} (hgd : o.guard = none) (s x : Operand)
    (ho : o.op = .call { callee := .builtin .append, args := #[s, x], argTypes := #[22, 22] })
    {w w' : World} {box : Array Value} {v : Value} {ss : List ByteArray} (h : WS w box w' v ss) (hs : a.eval s = v) (news : List ByteArray) (cs : Array Value) (hcs : cs = (news.map Value.string).toArray) (m : Nat) (hm : news.length = m)
    (B' : Nat) (hx : a.eval x = .slice (some ⟨B', 0, none⟩) m m) (hB' : B' = w'.heap.size) (hl : ss.length + m ≤ 1000)
    (hK : ∀ v'' w'', WS w box w'' v'' (ss ++ news) → wpList Tryd.prog ops Q rest (a.put o.dst v'') w'') : wpList Tryd.prog ops Q (o :: rest) a (w'.alloc (.cells cs 9)) := by
  obtain ⟨i0, hi, hz0, hz1, hz2⟩ := info_parts info9
  subst hcs hB'
  have hlt := h.blk.lt
  have hsz := h.bel.size
  refine wpList_append_own _ hgd s x 22 ho (w.heap.size + 1) 9 i0 (.string ⟨#[]⟩) 1 16 Tryd.underlying22 hi hz0 hz1 hz2 rfl (by decide) v ss.length (ss.map Value.string) hs (h.own.alloc _) ⟨w'.heap.size, 0, none⟩ m m (news.map Value.string) hx (by simp [hm]) ?_ ?_ (by unfold maxLen; omega) (by omega) (by simp; omega) ?_
  · intro j u hj
    rw [Addr.add_lit, Nat.zero_add]
    rw [World.cell?_alloc_at _ _ _ _ rfl]
    simpa using hj
  · intro u hu
    obtain ⟨_, _, rfl⟩ := List.mem_map.1 hu
    rfl
  · intro v'' w'' hown hg _
    have hne : ∀ k, v.ownBlock = some k → w.heap.size + 1 ≤ k := fun k hk => (h.own.lt k hk).1
    refine hK v'' w'' ⟨(h.blk.alloc _).grown hg (fun e => by have := hne _ e.symm; omega), by simpa [hm] using hown, (h.bel.alloc (by omega) _).grown hg (by simp; omega) (fun k hk => by have := hne k hk; omega)⟩

theorem ws_done {w w' : World} {box : Array Value} {v : Value} {c : Cmd} {ss : List ByteArray} (h : WS w box w' v ss) (hm : mayB c = true) (hss : ss = wordsOf c) (hr : c.root.size ≤ 9223372036854775807) :
    WordsPost w c (.returned (.tuple #[v, .int .i64 0])) w' := by
  subst hss
  have hl : (wordsOf c).length ≤ 5 := by unfold wordsOf; split <;> split <;> split <;> simp
  have hs : ∀ s ∈ wordsOf c, s.size ≤ 9223372036854775807 := by
    intro s hs
    have h0 : ∀ k, (modeWord k).size ≤ 8 := by
      intro k
      match k with
      | 0 | 1 | 2 | 3 | 4 | 5 => decide
      | n + 6 => simp [modeWord]; decide
    have h1 : wRoot.size ≤ 8 := by decide
    have h2 : wView.size ≤ 8 := by decide
    have h3 : wQuiet.size ≤ 8 := by decide
    simp only [wordsOf, List.mem_cons, List.mem_append] at hs
    rcases hs with rfl | hs | hs | hs
    · have := h0 c.mode.toNat; omega
    · split at hs
      · cases hs
      · simp at hs; rcases hs with rfl | rfl <;> omega
    · split at hs
      · simp at hs; subst hs; omega
      · cases hs
    · split at hs
      · simp at hs; subst hs; omega
      · cases hs
  obtain ⟨ao, cap, rfl, hc, hv⟩ := strs_of_owns h.own (by omega) hs
  simp only [WordsPost, hm, if_true]
  exact ⟨ao, cap, rfl, hc, hv, h.bel⟩

set_option maxHeartbeats 1000000 in
theorem words_ok_111 (r : ByteArray) (w : World) (hr : r.size ≤ 9223372036854775807) (hM : ModesW w) (h3 : r.toList.isEmpty = false) (h4 : nameOk r = true) :
    Calls Tryd.prog 11 #[.agg #[.int .i64 5, .string r, .bool true, .bool true]] w (WordsPost w ⟨5, r, true, true⟩) := by
  have hmay : Hid (mayB ⟨5, r, true, true⟩ = true) := by simp [Hid, mayB, h4]
  have hwd : Hid (wordsOf ⟨5, r, true, true⟩ = [mValidate, wRoot, r, wView, wQuiet]) := by simp [Hid, wordsOf, h3]; rfl
  have hr' : r.size ≤ maxLen := by unfold maxLen; omega
  go_enter Tryd.func11, Tryd.ntmps11
  go_wp2_with (first
    | (go_at_call 14; refine (is_any r _ hr').mono ?_; rintro e w1 ⟨rfl, hx⟩; have hb := Blk.ext (Blk.new w 26 #[.int .i64 5, .string r, .bool true, .bool true]) hx; have c0 := hb.cell (i := 0) rfl; have c1 := hb.cell (i := 1) rfl; have c2 := hb.cell (i := 2) rfl; have c3 := hb.cell (i := 3) rfl; have hlt := hb.lt; have hB : Below w.heap.size w w1 := below_ext ((Below.refl _ _).alloc (Nat.le_refl _) _) hx (by simp); have mc := (hM.ext hB).c5; have hws := WS.start hb hB mValidate _ rfl; clear hb hx)
    | (at_builtin; (refine wpList_ws rfl (.tmp 38) (.tmp 41) rfl hws rfl [wRoot, r] _ rfl 2 rfl _ rfl (by simp) (by simp) ?_); clear hws; clear c0 c1 c2 c3; (try clear hlt); intro v2 w2 hws; have hb := hws.blk; have c0 := hb.cell (i := 0) rfl; have c1 := hb.cell (i := 1) rfl; have c2 := hb.cell (i := 2) rfl; have c3 := hb.cell (i := 3) rfl; have hlt := hb.lt; clear hb)
    | (at_builtin; (refine wpList_ws rfl (.tmp 45) (.tmp 46) rfl hws rfl [wView] _ rfl 1 rfl _ rfl (by simp) (by simp) ?_); clear hws; clear c0 c1 c2 c3; (try clear hlt); intro v3 w3 hws; have hb := hws.blk; have c0 := hb.cell (i := 0) rfl; have c1 := hb.cell (i := 1) rfl; have c2 := hb.cell (i := 2) rfl; have c3 := hb.cell (i := 3) rfl; have hlt := hb.lt; clear hb)
    | (at_builtin; (refine wpList_ws rfl (.tmp 50) (.tmp 51) rfl hws rfl [wQuiet] _ rfl 1 rfl _ rfl (by simp) (by simp) ?_); clear hws; clear c0 c1 c2 c3; (try clear hlt); intro v4 w4 hws; have hb := hws.blk; have c0 := hb.cell (i := 0) rfl; have c1 := hb.cell (i := 1) rfl; have c2 := hb.cell (i := 2) rfl; have c3 := hb.cell (i := 3) rfl; have hlt := hb.lt; clear hb))
  go_ret2
  exact ws_done hws hmay.out hwd.out.symm hr

set_option maxHeartbeats 1000000 in
theorem words_ok_110 (r : ByteArray) (w : World) (hr : r.size ≤ 9223372036854775807) (hM : ModesW w) (h3 : r.toList.isEmpty = false) (h4 : nameOk r = true) :
    Calls Tryd.prog 11 #[.agg #[.int .i64 5, .string r, .bool true, .bool false]] w (WordsPost w ⟨5, r, true, false⟩) := by
  have hmay : Hid (mayB ⟨5, r, true, false⟩ = true) := by simp [Hid, mayB, h4]
  have hwd : Hid (wordsOf ⟨5, r, true, false⟩ = [mValidate, wRoot, r, wView]) := by simp [Hid, wordsOf, h3]; rfl
  have hr' : r.size ≤ maxLen := by unfold maxLen; omega
  go_enter Tryd.func11, Tryd.ntmps11
  go_wp2_with (first
    | (go_at_call 14; refine (is_any r _ hr').mono ?_; rintro e w1 ⟨rfl, hx⟩; have hb := Blk.ext (Blk.new w 26 #[.int .i64 5, .string r, .bool true, .bool false]) hx; have c0 := hb.cell (i := 0) rfl; have c1 := hb.cell (i := 1) rfl; have c2 := hb.cell (i := 2) rfl; have c3 := hb.cell (i := 3) rfl; have hlt := hb.lt; have hB : Below w.heap.size w w1 := below_ext ((Below.refl _ _).alloc (Nat.le_refl _) _) hx (by simp); have mc := (hM.ext hB).c5; have hws := WS.start hb hB mValidate _ rfl; clear hb hx)
    | (at_builtin; (refine wpList_ws rfl (.tmp 38) (.tmp 41) rfl hws rfl [wRoot, r] _ rfl 2 rfl _ rfl (by simp) (by simp) ?_); clear hws; clear c0 c1 c2 c3; (try clear hlt); intro v2 w2 hws; have hb := hws.blk; have c0 := hb.cell (i := 0) rfl; have c1 := hb.cell (i := 1) rfl; have c2 := hb.cell (i := 2) rfl; have c3 := hb.cell (i := 3) rfl; have hlt := hb.lt; clear hb)
    | (at_builtin; (refine wpList_ws rfl (.tmp 45) (.tmp 46) rfl hws rfl [wView] _ rfl 1 rfl _ rfl (by simp) (by simp) ?_); clear hws; clear c0 c1 c2 c3; (try clear hlt); intro v3 w3 hws; have hb := hws.blk; have c0 := hb.cell (i := 0) rfl; have c1 := hb.cell (i := 1) rfl; have c2 := hb.cell (i := 2) rfl; have c3 := hb.cell (i := 3) rfl; have hlt := hb.lt; clear hb))
  go_ret2
  exact ws_done hws hmay.out hwd.out.symm hr

set_option maxHeartbeats 1000000 in
theorem words_ok_101 (k : Nat) (hk0 : 0 < k) (hk : k < 6) (r : ByteArray) (w : World) (hr : r.size ≤ 9223372036854775807) (hM : ModesW w) (h3 : r.toList.isEmpty = false) (h4 : nameOk r = true) :
    Calls Tryd.prog 11 #[.agg #[.int .i64 (k : Int), .string r, .bool false, .bool true]] w (WordsPost w ⟨(k : Int), r, false, true⟩) := by
  have hmay : Hid (mayB ⟨(k : Int), r, false, true⟩ = true) := by simp [Hid, mayB, h4]; omega
  have hwd : Hid (wordsOf ⟨(k : Int), r, false, true⟩ = [(modeWord k), wRoot, r, wQuiet]) := by simp [Hid, wordsOf, h3]
  have hr' : r.size ≤ maxLen := by unfold maxLen; omega
  go_enter Tryd.func11, Tryd.ntmps11
  go_wp2_with (first
    | (go_at_call 14; refine (is_any r _ hr').mono ?_; rintro e w1 ⟨rfl, hx⟩; have hb := Blk.ext (Blk.new w 26 #[.int .i64 (k : Int), .string r, .bool false, .bool true]) hx; have c0 := hb.cell (i := 0) rfl; have c1 := hb.cell (i := 1) rfl; have c2 := hb.cell (i := 2) rfl; have c3 := hb.cell (i := 3) rfl; have hlt := hb.lt; have hB : Below w.heap.size w w1 := below_ext ((Below.refl _ _).alloc (Nat.le_refl _) _) hx (by simp); have mc := (hM.ext hB).ck k hk; have hws := WS.start hb hB (modeWord k) _ rfl; clear hb hx)
    | (at_builtin; (refine wpList_ws rfl (.tmp 38) (.tmp 41) rfl hws rfl [wRoot, r] _ rfl 2 rfl _ rfl (by simp) (by simp) ?_); clear hws; clear c0 c1 c2 c3; (try clear hlt); intro v2 w2 hws; have hb := hws.blk; have c0 := hb.cell (i := 0) rfl; have c1 := hb.cell (i := 1) rfl; have c2 := hb.cell (i := 2) rfl; have c3 := hb.cell (i := 3) rfl; have hlt := hb.lt; clear hb)
    | (at_builtin; (refine wpList_ws rfl (.tmp 50) (.tmp 51) rfl hws rfl [wQuiet] _ rfl 1 rfl _ rfl (by simp) (by simp) ?_); clear hws; clear c0 c1 c2 c3; (try clear hlt); intro v3 w3 hws; have hb := hws.blk; have c0 := hb.cell (i := 0) rfl; have c1 := hb.cell (i := 1) rfl; have c2 := hb.cell (i := 2) rfl; have c3 := hb.cell (i := 3) rfl; have hlt := hb.lt; clear hb))
  go_ret2
  exact ws_done hws hmay.out hwd.out.symm hr

set_option maxHeartbeats 1000000 in
theorem words_ok_100 (k : Nat) (hk0 : 0 < k) (hk : k < 6) (r : ByteArray) (w : World) (hr : r.size ≤ 9223372036854775807) (hM : ModesW w) (h3 : r.toList.isEmpty = false) (h4 : nameOk r = true) :
    Calls Tryd.prog 11 #[.agg #[.int .i64 (k : Int), .string r, .bool false, .bool false]] w (WordsPost w ⟨(k : Int), r, false, false⟩) := by
  have hmay : Hid (mayB ⟨(k : Int), r, false, false⟩ = true) := by simp [Hid, mayB, h4]; omega
  have hwd : Hid (wordsOf ⟨(k : Int), r, false, false⟩ = [(modeWord k), wRoot, r]) := by simp [Hid, wordsOf, h3]
  have hr' : r.size ≤ maxLen := by unfold maxLen; omega
  go_enter Tryd.func11, Tryd.ntmps11
  go_wp2_with (first
    | (go_at_call 14; refine (is_any r _ hr').mono ?_; rintro e w1 ⟨rfl, hx⟩; have hb := Blk.ext (Blk.new w 26 #[.int .i64 (k : Int), .string r, .bool false, .bool false]) hx; have c0 := hb.cell (i := 0) rfl; have c1 := hb.cell (i := 1) rfl; have c2 := hb.cell (i := 2) rfl; have c3 := hb.cell (i := 3) rfl; have hlt := hb.lt; have hB : Below w.heap.size w w1 := below_ext ((Below.refl _ _).alloc (Nat.le_refl _) _) hx (by simp); have mc := (hM.ext hB).ck k hk; have hws := WS.start hb hB (modeWord k) _ rfl; clear hb hx)
    | (at_builtin; (refine wpList_ws rfl (.tmp 38) (.tmp 41) rfl hws rfl [wRoot, r] _ rfl 2 rfl _ rfl (by simp) (by simp) ?_); clear hws; clear c0 c1 c2 c3; (try clear hlt); intro v2 w2 hws; have hb := hws.blk; have c0 := hb.cell (i := 0) rfl; have c1 := hb.cell (i := 1) rfl; have c2 := hb.cell (i := 2) rfl; have c3 := hb.cell (i := 3) rfl; have hlt := hb.lt; clear hb))
  go_ret2
  exact ws_done hws hmay.out hwd.out.symm hr

set_option maxHeartbeats 1000000 in
theorem words_ok_011 (r : ByteArray) (w : World) (hr : r.size ≤ 9223372036854775807) (hM : ModesW w) (h3 : r.toList.isEmpty = true) :
    Calls Tryd.prog 11 #[.agg #[.int .i64 5, .string r, .bool true, .bool true]] w (WordsPost w ⟨5, r, true, true⟩) := by
  have hmay : Hid (mayB ⟨5, r, true, true⟩ = true) := by simp [Hid, mayB, h3]
  have hwd : Hid (wordsOf ⟨5, r, true, true⟩ = [mValidate, wView, wQuiet]) := by simp [Hid, wordsOf, h3]; rfl
  have hb := Blk.new w 26 #[.int .i64 5, .string r, .bool true, .bool true]
  have hB : Below w.heap.size w (w.alloc (.cells #[.int .i64 5, .string r, .bool true, .bool true] 26)) := (Below.refl _ _).alloc (Nat.le_refl _) _
  have mc := (hM.ext hB).c5
  have hws := WS.start hb hB mValidate _ rfl
  rw [World.size_alloc] at hws
  clear hb hB
  go_enter Tryd.func11, Tryd.ntmps11
  go_wp2_with (first
    | (at_builtin; (refine wpList_ws rfl (.tmp 45) (.tmp 46) rfl hws rfl [wView] _ rfl 1 rfl _ rfl (by simp) (by simp) ?_); clear hws; intro v2 w2 hws; have hb := hws.blk; have c0 := hb.cell (i := 0) rfl; have c1 := hb.cell (i := 1) rfl; have c2 := hb.cell (i := 2) rfl; have c3 := hb.cell (i := 3) rfl; have hlt := hb.lt; clear hb)
    | (at_builtin; (refine wpList_ws rfl (.tmp 50) (.tmp 51) rfl hws rfl [wQuiet] _ rfl 1 rfl _ rfl (by simp) (by simp) ?_); clear hws; clear c0 c1 c2 c3 hlt; intro v3 w3 hws; have hb := hws.blk; have c0 := hb.cell (i := 0) rfl; have c1 := hb.cell (i := 1) rfl; have c2 := hb.cell (i := 2) rfl; have c3 := hb.cell (i := 3) rfl; have hlt := hb.lt; clear hb))
  go_ret2
  exact ws_done hws hmay.out hwd.out.symm hr

set_option maxHeartbeats 1000000 in
theorem words_ok_010 (r : ByteArray) (w : World) (hr : r.size ≤ 9223372036854775807) (hM : ModesW w) (h3 : r.toList.isEmpty = true) :
    Calls Tryd.prog 11 #[.agg #[.int .i64 5, .string r, .bool true, .bool false]] w (WordsPost w ⟨5, r, true, false⟩) := by
  have hmay : Hid (mayB ⟨5, r, true, false⟩ = true) := by simp [Hid, mayB, h3]
  have hwd : Hid (wordsOf ⟨5, r, true, false⟩ = [mValidate, wView]) := by simp [Hid, wordsOf, h3]; rfl
  have hb := Blk.new w 26 #[.int .i64 5, .string r, .bool true, .bool false]
  have hB : Below w.heap.size w (w.alloc (.cells #[.int .i64 5, .string r, .bool true, .bool false] 26)) := (Below.refl _ _).alloc (Nat.le_refl _) _
  have mc := (hM.ext hB).c5
  have hws := WS.start hb hB mValidate _ rfl
  rw [World.size_alloc] at hws
  clear hb hB
  go_enter Tryd.func11, Tryd.ntmps11
  go_wp2_with (first
    | (at_builtin; (refine wpList_ws rfl (.tmp 45) (.tmp 46) rfl hws rfl [wView] _ rfl 1 rfl _ rfl (by simp) (by simp) ?_); clear hws; intro v2 w2 hws; have hb := hws.blk; have c0 := hb.cell (i := 0) rfl; have c1 := hb.cell (i := 1) rfl; have c2 := hb.cell (i := 2) rfl; have c3 := hb.cell (i := 3) rfl; have hlt := hb.lt; clear hb))
  go_ret2
  exact ws_done hws hmay.out hwd.out.symm hr

set_option maxHeartbeats 1000000 in
theorem words_ok_001 (k : Nat) (hk0 : 0 < k) (hk : k < 6) (r : ByteArray) (w : World) (hr : r.size ≤ 9223372036854775807) (hM : ModesW w) (h3 : r.toList.isEmpty = true) :
    Calls Tryd.prog 11 #[.agg #[.int .i64 (k : Int), .string r, .bool false, .bool true]] w (WordsPost w ⟨(k : Int), r, false, true⟩) := by
  have hmay : Hid (mayB ⟨(k : Int), r, false, true⟩ = true) := by simp [Hid, mayB, h3]; omega
  have hwd : Hid (wordsOf ⟨(k : Int), r, false, true⟩ = [(modeWord k), wQuiet]) := by simp [Hid, wordsOf, h3]
  have hb := Blk.new w 26 #[.int .i64 (k : Int), .string r, .bool false, .bool true]
  have hB : Below w.heap.size w (w.alloc (.cells #[.int .i64 (k : Int), .string r, .bool false, .bool true] 26)) := (Below.refl _ _).alloc (Nat.le_refl _) _
  have mc := (hM.ext hB).ck k hk
  have hws := WS.start hb hB (modeWord k) _ rfl
  rw [World.size_alloc] at hws
  clear hb hB
  go_enter Tryd.func11, Tryd.ntmps11
  go_wp2_with (first
    | (at_builtin; (refine wpList_ws rfl (.tmp 50) (.tmp 51) rfl hws rfl [wQuiet] _ rfl 1 rfl _ rfl (by simp) (by simp) ?_); clear hws; intro v2 w2 hws; have hb := hws.blk; have c0 := hb.cell (i := 0) rfl; have c1 := hb.cell (i := 1) rfl; have c2 := hb.cell (i := 2) rfl; have c3 := hb.cell (i := 3) rfl; have hlt := hb.lt; clear hb))
  go_ret2
  exact ws_done hws hmay.out hwd.out.symm hr

set_option maxHeartbeats 1000000 in
theorem words_ok_000 (k : Nat) (hk0 : 0 < k) (hk : k < 6) (r : ByteArray) (w : World) (hr : r.size ≤ 9223372036854775807) (hM : ModesW w) (h3 : r.toList.isEmpty = true) :
    Calls Tryd.prog 11 #[.agg #[.int .i64 (k : Int), .string r, .bool false, .bool false]] w (WordsPost w ⟨(k : Int), r, false, false⟩) := by
  have hmay : Hid (mayB ⟨(k : Int), r, false, false⟩ = true) := by simp [Hid, mayB, h3]; omega
  have hwd : Hid (wordsOf ⟨(k : Int), r, false, false⟩ = [(modeWord k)]) := by simp [Hid, wordsOf, h3]
  have hb := Blk.new w 26 #[.int .i64 (k : Int), .string r, .bool false, .bool false]
  have hB : Below w.heap.size w (w.alloc (.cells #[.int .i64 (k : Int), .string r, .bool false, .bool false] 26)) := (Below.refl _ _).alloc (Nat.le_refl _) _
  have mc := (hM.ext hB).ck k hk
  have hws := WS.start hb hB (modeWord k) _ rfl
  rw [World.size_alloc] at hws
  clear hb hB
  go_enter Tryd.func11, Tryd.ntmps11
  go_wp2_with fail
  go_ret2
  exact ws_done hws hmay.out hwd.out.symm hr

end Go.Proofs.YtoknhfmgkgmlhaaDoor
