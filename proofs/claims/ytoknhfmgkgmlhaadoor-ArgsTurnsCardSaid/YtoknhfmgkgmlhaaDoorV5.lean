/-
  Walk of ArgsTurns, for every command and every number.
-/
import Derived.Test.YtoknhfmgkgmlhaaDoorV4
import Derived.Test.YtoknhfmgkgmlhaaDoorP5
import Derived.Lib.SmallJoins
namespace Go.Proofs.YtoknhfmgkgmlhaaDoor
open Go.RowKit Go.Spy

theorem info22 : (Tryd.prog.info? 22).map (fun i => (i.zero, i.size, i.bytes)) = some (some (.slice none 0 0), 1, 24) := by kernel_rfl

/-- A slice of slices of strings that the call has built, and that reads so. -/
structure PartsO (w : World) (base : Nat) (vP : Value) (Ps : List (List ByteArray)) : Prop where
  ex : ∃ xs, w.ownsRow base 22 1 vP Ps.length xs ∧ ∀ p (h : p < Ps.length), ∃ b, xs[p]? = some (.slice (some ⟨b, 0, none⟩) Ps[p].length Ps[p].length) ∧ base ≤ b ∧ Blk w b 9 (Ps[p].map Value.string).toArray
  sz : ∀ p (h : p < Ps.length), Ps[p].length ≤ 10 ∧ ∀ s ∈ Ps[p], s.size ≤ 9223372036854775807

theorem PartsO.nil (w : World) (base : Nat) : PartsO w base (.slice none 0 0) [] := ⟨⟨[], World.ownsRow_nil _ _ _ _, fun p h => by simp at h⟩, fun p h => by simp at h⟩
theorem PartsO.below {w w' : World} {base B : Nat} {vP : Value} {Ps : List (List ByteArray)} (h : PartsO w base vP Ps) (e : Below B w w') (hB : w.heap.size ≤ B) : PartsO w' base vP Ps := by
  obtain ⟨⟨xs, h1, h2⟩, h3⟩ := h
  refine ⟨⟨xs, h1.kept (row := none) ⟨e.os, e.tape, e.output, e.size, fun k hk _ => e.block k (by omega)⟩ (by cases hv : vP.ownBlock <;> simp), fun p hp => ?_⟩, h3⟩
  obtain ⟨b, h4, h5, h6⟩ := h2 p hp
  exact ⟨b, h4, h5, h6.ext (e.mono hB)⟩
theorem PartsO.ext {w w' : World} {base : Nat} {vP : Value} {Ps : List (List ByteArray)} (h : PartsO w base vP Ps) (e : Ext w w') : PartsO w' base vP Ps := h.below e (Nat.le_refl _)

theorem wpList_parts {ops : Array Oper} {rest : List Oper} {o : Oper} {a : Act} {Q : Exit → Act → World → Prop} (hgd : o.guard = none) (s x : Operand)
    (ho : o.op = .call { callee := .builtin .append, args := #[s, x], argTypes := #[34, 34] })
    {w : World} {base : Nat} {vP : Value} {Ps : List (List ByteArray)} (h : PartsO w base vP Ps) (hs : a.eval s = vP) (ss : List ByteArray) (cs : Array Value) (hcs : cs = (ss.map Value.string).toArray) (m : Nat) (hm : ss.length = m)
    (B1 B2 : Nat) (hx : a.eval x = .slice (some ⟨B2, 0, none⟩) 1 1) (hB1 : B1 = w.heap.size) (hB2 : B2 = w.heap.size + 1) (hbase : base ≤ w.heap.size) (hl : Ps.length ≤ 10) (hl2 : ss.length ≤ 10) (hsz : ∀ s ∈ ss, s.size ≤ 9223372036854775807)
    (hK : ∀ v'' w'', PartsO w'' base v'' (Ps ++ [ss]) → Below base w w'' → wpList Tryd.prog ops Q rest (a.put o.dst v'') w'') :
    wpList Tryd.prog ops Q (o :: rest) a ((w.alloc (.cells cs 9)).alloc (.cells #[.slice (some ⟨B1, 0, none⟩) m m] 22)) := by
  obtain ⟨i0, hi, hz0, hz1, hz2⟩ := info_parts info22
  obtain ⟨⟨xs, h1, h2⟩, h3⟩ := h
  subst hcs hm hB1 hB2
  refine wpList_append_own _ hgd s x 34 ho base 22 i0 (.slice none 0 0) 1 24 Tryd.underlying34 hi hz0 hz1 hz2 rfl (by decide) vP Ps.length xs hs ((h1.alloc _).alloc _) ⟨w.heap.size + 1, 0, none⟩ 1 1 [.slice (some ⟨w.heap.size, 0, none⟩) ss.length ss.length] hx rfl ?_ ?_ (by unfold maxLen; omega) (by omega) (by simp; omega) ?_
  · intro j u hj
    match j, hj with
    | 0, hj =>
      simp only [List.getElem?_cons_zero, Option.some.injEq] at hj
      subst hj
      rw [Addr.add_lit, World.cell?_alloc_at _ _ _ _ (by simp)]
      rfl
  · intro u hu
    simp only [List.mem_singleton] at hu
    subst hu
    rfl
  · intro v'' w'' hown hg _
    have hv : ∀ k, vP.ownBlock = some k → base ≤ k ∧ k < w.heap.size := h1.lt
    have hb : Below base w w'' := (((Below.refl base w).alloc hbase _).alloc (by simp; omega) _).grown hg (by simp; omega) (fun k hk => (hv k hk).1)
    have hxl : xs.length = Ps.length := by have := h1.1; omega
    have h22 : ∀ k, vP.ownBlock = some k → ∃ cur, w.heap[k]? = some (.cells cur 22 (0, 0)) := by
      intro k hk
      rcases h1.2 with ⟨rfl, _⟩ | ⟨g, cap, cur, rfl, hg0, hgg, _⟩
      · simp [Value.ownBlock] at hk
      · simp only [Value.ownBlock, Option.some.injEq] at hk
        subst hk
        exact ⟨cur, hgg⟩
    refine hK v'' w'' ⟨⟨xs ++ [.slice (some ⟨w.heap.size, 0, none⟩) ss.length ss.length], by simpa using hown, fun p hp => ?_⟩, fun p hp => ?_⟩ hb
    · by_cases hlt : p < Ps.length
      · obtain ⟨b, h4, h5, h6⟩ := h2 p hlt
        refine ⟨b, ?_, h5, ?_⟩
        · rw [List.getElem?_append_left (by omega)]
          simpa [List.getElem_append_left hlt] using h4
        · have hne : some b ≠ vP.ownBlock := by
            intro e
            obtain ⟨cur, hc⟩ := h22 b e.symm
            have h6' : w.heap[b]? = some (.cells _ 9 (0, 0)) := h6
            rw [hc] at h6'
            simp at h6'
          have := ((h6.alloc _).alloc _).grown hg hne
          simpa [List.getElem_append_left hlt] using this
      · have hpe : p = Ps.length := by simp at hp; omega
        subst hpe
        refine ⟨w.heap.size, ?_, hbase, ?_⟩
        · rw [List.getElem?_append_right (by omega)]; simp [hxl]
        · have hne : some w.heap.size ≠ vP.ownBlock := fun e => by have := (hv _ e.symm).2; omega
          have := ((Blk.new w 9 (ss.map Value.string).toArray).alloc _).grown hg hne
          simpa using this
    · by_cases hlt : p < Ps.length
      · rw [List.getElem_append_left hlt]; exact h3 p hlt
      · have hpe : p = Ps.length := by simp at hp; omega
        subst hpe
        simpa using ⟨hl2, hsz⟩

def rootP (r : ByteArray) : List (List ByteArray) := if r.toList.isEmpty then [] else [[wRoot, r]]
def viewP (v : Bool) : List (List ByteArray) := if v then [[wView]] else []
def quietP (q : Bool) : List (List ByteArray) := if q then [[wQuiet]] else []

structure T1 (w : World) (m : Int) (r : ByteArray) (v q : Bool) (wi : World) (vP : Value) (Ps : List (List ByteArray)) : Prop where
  cur : Cur w wi [(w.heap.size, #[.int .i64 m, .string r, .bool v, .bool q])]
  parts : PartsO wi (w.heap.size + 1) vP Ps
theorem T1.app {w wi w'' : World} {m : Int} {r : ByteArray} {v q : Bool} {vP v'' : Value} {Ps Ps' : List (List ByteArray)} (h : T1 w m r v q wi vP Ps) (hp : PartsO w'' (w.heap.size + 1) v'' Ps') (hb : Below (w.heap.size + 1) wi w'') : T1 w m r v q w'' v'' Ps' :=
  ⟨⟨h.cur.bel.trans (hb.mono (by omega)), fun p hp => (h.cur.blk p hp).below hb (by simp at hp; subst hp; simp)⟩, hp⟩

theorem root_sizes {r : ByteArray} (hr : r.size ≤ 100) (s : ByteArray) (hs : s ∈ [wRoot, r]) : s.size ≤ 9223372036854775807 := by
  simp only [List.mem_cons, List.not_mem_nil, or_false] at hs
  rcases hs with rfl | rfl
  · decide
  · omega

theorem root_len (r : ByteArray) : (rootP r).length ≤ 10 := by
  unfold rootP
  split <;> simp
theorem root_view_len (r : ByteArray) (v : Bool) : (rootP r ++ viewP v).length ≤ 10 := by
  unfold rootP viewP
  split <;> split <;> simp

theorem PartsO.read {w : World} {base : Nat} {vP : Value} {Ps : List (List ByteArray)} (h : PartsO w base vP Ps) :
    ∃ ao cap, vP = .slice ao Ps.length cap ∧ ∀ p (hp : p < Ps.length), ∃ g, ao = some ⟨g, 0, none⟩ ∧ ∃ b, w.cell? ⟨g, p, none⟩ = some (.slice (some ⟨b, 0, none⟩) Ps[p].length Ps[p].length) ∧ base ≤ b ∧ Blk w b 9 (Ps[p].map Value.string).toArray := by
  obtain ⟨⟨xs, h1, h2⟩, h3⟩ := h
  rcases Go.Joins.ownsRow_forms h1 with ⟨rfl, h0⟩ | ⟨g, cap, rfl, _⟩
  · exact ⟨none, 0, by rw [h0], fun p hp => by omega⟩
  · refine ⟨_, cap, rfl, fun p hp => ⟨g, rfl, ?_⟩⟩
    obtain ⟨b, h4, h5, h6⟩ := h2 p hp
    refine ⟨b, ?_, h5, h6⟩
    have := h1.cells (g := g) rfl p _ h4
    rwa [Addr.add_lit, Nat.zero_add] at this

theorem rvq_len (r : ByteArray) (v q : Bool) : (rootP r ++ viewP v ++ quietP q).length ≤ 3 := by
  unfold rootP viewP quietP
  split <;> split <;> split <;> simp
theorem rvq_parts (m : Int) (r : ByteArray) (v q : Bool) : rootP r ++ viewP v ++ quietP q = partsOf ⟨m, r, v, q⟩ := by
  simp [partsOf, rootP, viewP, quietP]

theorem PartsO.lt {w : World} {base g n cap : Nat} {Ps : List (List ByteArray)} (h : PartsO w base (.slice (some ⟨g, 0, none⟩) n cap) Ps) : g < w.heap.size := by
  obtain ⟨⟨xs, h1, _⟩, _⟩ := h
  exact (h1.lt g rfl).2
theorem PartsO.at {w : World} {base g n cap : Nat} {Ps : List (List ByteArray)} (h : PartsO w base (.slice (some ⟨g, 0, none⟩) n cap) Ps) {p : Nat} (hp : p < Ps.length) :
    ∃ b, w.cell? ⟨g, p, none⟩ = some (.slice (some ⟨b, 0, none⟩) Ps[p].length Ps[p].length) ∧ Blk w b 9 (Ps[p].map Value.string).toArray := by
  obtain ⟨ao', cap', he, hrd⟩ := h.read
  obtain ⟨g', hg', b, hcell, _, hblk⟩ := hrd p hp
  rw [hg'] at he
  have hgg : g' = g := by simp only [Value.slice.injEq, Option.some.injEq, Addr.mk.injEq] at he; exact he.1.1.symm
  subst hgg
  exact ⟨b, hcell, hblk⟩

/-- The row of words, as it grows. -/
structure T2 (w0 wi : World) (vL : Value) (l : List ByteArray) : Prop where
  bel : Below w0.heap.size w0 wi
  row : wi.ownsRow w0.heap.size 9 1 vL l.length (l.map Value.string)
theorem T2.ext {w0 wi w' : World} {vL : Value} {l : List ByteArray} (h : T2 w0 wi vL l) (hx : Ext wi w') : T2 w0 w' vL l :=
  ⟨h.bel.trans (below_ext (Below.refl _ _) hx (by exact h.bel.size)), h.row.kept (row := none) ⟨hx.os, hx.tape, hx.output, hx.size, fun k hk _ => hx.block k hk⟩ (by cases hv : vL.ownBlock <;> simp)⟩
theorem T2.app {w0 wi w' : World} {vL v' : Value} {l ts : List ByteArray} (h : T2 w0 wi vL l) (hr : w'.ownsRow w0.heap.size 9 1 v' (l ++ ts).length ((l ++ ts).map Value.string)) (hg : wi.grownBy w' vL.ownBlock) : T2 w0 w' v' (l ++ ts) :=
  ⟨h.bel.grown hg h.bel.size (fun k hk => (h.row.lt k hk).1), hr⟩

set_option maxRecDepth 100000 in
set_option maxHeartbeats 2000000 in
theorem turns_main (m : Int) (r : ByteArray) (v q : Bool) (n : Int) (w : World) (hM : ModesW w) (hr : r.size ≤ 100) (HM : Hid (mayB ⟨m, r, v, q⟩ = true)) (hb : -9223372036854775808 ≤ n ∧ n ≤ 9223372036854775807) :
    Calls Tryd.prog 5 #[.agg #[.int .i64 m, .string r, .bool v, .bool q], .int .i64 n] w fun e w' => e = .returned (.bool true) ∧ Ext w w' := by
  have hrm : r.size ≤ maxLen := by unfold maxLen; omega
  have hr' : r.size ≤ 9223372036854775807 := by omega
  have HC := Cur.start w #[.int .i64 m, .string r, .bool v, .bool q]
  go_enter Tryd.func5, Tryd.ntmps5
  go_upto_if 31 with (first | (go_at_call 10; (with_reducible refine (may_is HM.out hrm _).mono ?_); rintro e wm ⟨rfl, hx⟩; have HCn := HC.ext hx; clear HC hx; have HC := HCn; clear HCn; have c1 : wm.cell? ⟨w.heap.size, 1, none⟩ = some (.string r) := HC.c (cs := #[.int .i64 m, .string r, .bool v, .bool q]) (by simp) rfl))
  have hT0 : T1 w m r v q wm (.slice none 0 0) [] := ⟨HC, PartsO.nil _ _⟩
  clear HC
  go_cut [5] (fun vP wx => T1 w m r v q wx vP (rootP r))
  case first =>
    cases he : r.toList.isEmpty
    · have HF : Hid (rootP r = [] ++ [[wRoot, r]]) := by simp [Hid, rootP, he]
      have hsz := hT0.cur.bel.size
      have hlt : w.heap.size < wm.heap.size := hT0.cur.lt (cs := #[.int .i64 m, .string r, .bool v, .bool q]) (by simp)
      go_wp2_with (at_builtin; refine wpList_parts rfl (.tmp 32) (.tmp 36) rfl hT0.parts rfl [wRoot, r] _ rfl 2 rfl _ _ rfl rfl rfl (by omega) (by simp) (by simp) (root_sizes hr) ?_; intro v1 w1 hp1 hb1)
      go_meet
      exact hT0.app (by rw [HF.out]; exact hp1) hb1
    · have HF : Hid (rootP r = []) := by simp [Hid, rootP, he]
      go_wp2_with fail
      go_meet
      rw [HF.out]; exact hT0
  case rest =>
    clear hT0
    rename_i vP1
    obtain ⟨bv, hvb⟩ : ∃ b, Hid (b = v) := ⟨v, rfl⟩
    have c2 : wc.cell? ⟨w.heap.size, 2, none⟩ = some (.bool bv) := by rw [hvb.out]; exact hcut.cur.c (cs := #[.int .i64 m, .string r, .bool v, .bool q]) (by simp) rfl
    have hsz := hcut.cur.bel.size
    have hlt : w.heap.size < wc.heap.size := hcut.cur.lt (cs := #[.int .i64 m, .string r, .bool v, .bool q]) (by simp)
    go_upto_if 39 with fail
    go_cut [5] (fun vP wx => T1 w m r v q wx vP (rootP r ++ viewP v))
    case first =>
      cases bv
      · have HF : Hid (rootP r ++ viewP v = rootP r) := by simp [Hid, viewP, ← hvb.out]
        go_wp2_with fail
        go_meet
        rw [HF.out]; exact hcut
      · have HF : Hid (rootP r ++ viewP v = rootP r ++ [[wView]]) := by simp [Hid, viewP, ← hvb.out]
        go_wp2_with (at_builtin; refine wpList_parts rfl (.tmp 40) (.tmp 42) rfl hcut.parts rfl [wView] _ rfl 1 rfl _ _ rfl rfl rfl (by omega) (root_len r) (by simp) (by intro s hs; simp at hs; subst hs; decide) ?_; intro v1 w1 hp1 hb1)
        go_meet
        exact hcut.app (by rw [HF.out]; exact hp1) hb1
    case rest =>
      clear c2 hvb hsz hlt
      obtain ⟨bq, hbq⟩ : ∃ b, Hid (b = q) := ⟨q, rfl⟩
      have c3 : wc.cell? ⟨w.heap.size, 3, none⟩ = some (.bool bq) := by rw [hbq.out]; exact hcut.cur.c (cs := #[.int .i64 m, .string r, .bool v, .bool q]) (by simp) rfl
      have hsz := hcut.cur.bel.size
      have hlt : w.heap.size < wc.heap.size := hcut.cur.lt (cs := #[.int .i64 m, .string r, .bool v, .bool q]) (by simp)
      go_upto_if 45 with fail
      go_cut [5] (fun vP wx => T1 w m r v q wx vP (rootP r ++ viewP v ++ quietP q))
      case first =>
        cases bq
        · have HF : Hid (rootP r ++ viewP v ++ quietP q = rootP r ++ viewP v) := by simp [Hid, quietP, ← hbq.out]
          go_wp2_with fail
          go_meet
          rw [HF.out]; exact hcut
        · have HF : Hid (rootP r ++ viewP v ++ quietP q = rootP r ++ viewP v ++ [[wQuiet]]) := by simp [Hid, quietP, ← hbq.out]
          go_wp2_with (at_builtin; refine wpList_parts rfl (.tmp 46) (.tmp 48) rfl hcut.parts rfl [wQuiet] _ rfl 1 rfl _ _ rfl rfl rfl (by omega) (root_view_len r v) (by simp) (by intro s hs; simp at hs; subst hs; decide) ?_; intro v1 w1 hp1 hb1)
          go_meet
          exact hcut.app (by rw [HF.out]; exact hp1) hb1
      case rest =>
        clear c3 hbq hsz hlt
        obtain ⟨k, hk0, hk6, hmk, _, _⟩ := may_parts HM.out
        obtain ⟨Ps, hPs⟩ : ∃ Ps, Ps = rootP r ++ viewP v ++ quietP q := ⟨_, rfl⟩
        have HPs : Hid (Ps = partsOf ⟨m, r, v, q⟩) := hPs.trans (rvq_parts m r v q)
        have hPl : Ps.length ≤ 3 := by rw [hPs]; exact rvq_len r v q
        rw [← hPs] at hcut
        clear hPs
        obtain ⟨L, hL⟩ : ∃ L, L = wordsOf ⟨m, r, v, q⟩ := ⟨_, rfl⟩
        have HL := hid hL
        obtain ⟨mw, hmw⟩ : ∃ mw, mw = modeWord k := ⟨_, rfl⟩
        have hL0 : L = mw :: L.tail := by rw [hL, hmw]; simp only at hmk; simp [wordsOf, hmk]
        have HMW := hid hmw
        have HMK := hid hmk
        have hLp : 0 < L.length := by rw [hL0]; simp
        have hL1 : L[0] = mw := by simp [List.getElem_of_eq hL0]
        have HL1 := hid hL1
        have hLb : ((L.length : Int) == 0) = false := by rw [beq_eq_false_iff_ne]; omega
        clear hL hmw hL0 hL1 hmk
        obtain ⟨HCc, hPc⟩ := hcut
        obtain ⟨ao5, cap5, rfl, hrd5⟩ := hPc.read
        have d0 : wc.cell? ⟨w.heap.size, 0, none⟩ = some (.int .i64 m) := HCc.c (cs := #[.int .i64 m, .string r, .bool v, .bool q]) (by simp) rfl
        have d1 : wc.cell? ⟨w.heap.size, 1, none⟩ = some (.string r) := HCc.c (cs := #[.int .i64 m, .string r, .bool v, .bool q]) (by simp) rfl
        have d2 : wc.cell? ⟨w.heap.size, 2, none⟩ = some (.bool v) := HCc.c (cs := #[.int .i64 m, .string r, .bool v, .bool q]) (by simp) rfl
        have d3 : wc.cell? ⟨w.heap.size, 3, none⟩ = some (.bool q) := HCc.c (cs := #[.int .i64 m, .string r, .bool v, .bool q]) (by simp) rfl
        rcases Nat.eq_zero_or_pos Ps.length with hz | hz
        · have HZ := hid hz
          clear hrd5 hz
          go_upto_region 15 with (go_at_call 11; (with_reducible refine (words_yes_L HL hr' (hM.ext HCc.bel) HM.out).mono ?_); rintro e ww ⟨ao2, cap2, rfl, hcap2, hS2, hx⟩; have HC := HCc.ext hx; have hP := hPc.ext hx; clear HCc hPc d0 d1 d2 d3; obtain ⟨b2, off2, rfl, hb2, hcs2⟩ := hS2.cells (by omega); have hcj := hcs2 0 hLp; rw [HL1.out, Nat.add_zero] at hcj; have hl2 := hS2.len; clear hcs2)
          have hT2 : T2 ww (ww.alloc (.cells #[.string mw] 9)) (.slice (some ⟨ww.heap.size, 0, none⟩) 1 1) (turned mw Ps n 0) :=
            ⟨(Below.refl _ _).alloc (Nat.le_refl _) _, by simpa [turned] using owns_literal ww ww.heap.size 9 [.string mw] (Nat.le_refl _) (by unfold maxLen; simp)⟩
          go_wp2_with fail
          go_loopg [8, 10, 11] 1 (fun g v8 v10 _v11 wr => v10 = .int .i64 0 ∧ T2 ww wr v8 (turned mw Ps n 0))
          case atStart => exact ⟨rfl, hT2⟩
          case round =>
            obtain ⟨rfl, hT⟩ := hrel
            clear hT2
            have hz := HZ.out
            have hTP := (turned_parse HM.out hk0 hk6 HMK.out HPs HMW hPl n).1
            rw [hz] at hTP
            have hsz2 : ∀ s ∈ turned mw Ps n 0, s.size ≤ 9223372036854775807 := by
              intro s hs
              simp only [turned, List.range_zero, List.map_nil, List.flatten_nil, List.mem_singleton] at hs
              subst hs
              exact HMW.out ▸ modeWord_size k hk6
            obtain ⟨TL, hTL⟩ : ∃ TL, TL = turned mw Ps n 0 := ⟨_, rfl⟩
            have hTl : TL.length ≤ 100 := by rw [hTL]; simp [turned]
            rw [← hTL] at hT hTP hsz2
            clear hTL
            obtain ⟨aoL, capL, rfl, hcL, hSL⟩ := strs_of_owns hT.row (by omega) hsz2
            have HCr := HC.ext hT.bel
            have hPlz : ((Ps.length : Int) == 0) = true := by rw [beq_iff_eq]; omega
            go_wp2_with (first
              | (go_at_call 9; (with_reducible refine (parse_is hSL (hM.ext HCr.bel) hTP.out rfl).mono ?_); rintro e wp ⟨rfl, hxp⟩; have HCp := HCr.ext hxp; have c0 : wp.cell? ⟨w.heap.size, 0, none⟩ = some (.int .i64 m) := HCp.c (cs := #[.int .i64 m, .string r, .bool v, .bool q]) (by simp) rfl; have c1 : wp.cell? ⟨w.heap.size, 1, none⟩ = some (.string r) := HCp.c (cs := #[.int .i64 m, .string r, .bool v, .bool q]) (by simp) rfl; have c2 : wp.cell? ⟨w.heap.size, 2, none⟩ = some (.bool v) := HCp.c (cs := #[.int .i64 m, .string r, .bool v, .bool q]) (by simp) rfl; have c3 : wp.cell? ⟨w.heap.size, 3, none⟩ = some (.bool q) := HCp.c (cs := #[.int .i64 m, .string r, .bool v, .bool q]) (by simp) rfl; have clt : w.heap.size < wp.heap.size := HCp.lt (cs := #[.int .i64 m, .string r, .bool v, .bool q]) (by simp); have HCs := HCp.add #[.int .i64 m, .string r, .bool v, .bool q]; clear HCr hSL)
              | (go_at_call 8; refine (awake_any _ (hM.ext HCs.bel)).mono ?_; rintro e wz ⟨rfl, hxz⟩; have HCz := HCs.ext hxz))
            go_ret
            exact ⟨rfl, HCz.bel⟩
        obtain ⟨g, rfl, _⟩ := hrd5 0 hz
        clear hrd5
        go_upto_region 15 with (go_at_call 11; (with_reducible refine (words_yes_L HL hr' (hM.ext HCc.bel) HM.out).mono ?_); rintro e ww ⟨ao2, cap2, rfl, hcap2, hS2, hx⟩; have HC := HCc.ext hx; have hP := hPc.ext hx; clear HCc hPc d0 d1 d2 d3; obtain ⟨b2, off2, rfl, hb2, hcs2⟩ := hS2.cells (by omega); have hcj := hcs2 0 hLp; rw [HL1.out, Nat.add_zero] at hcj; have hl2 := hS2.len; clear hcs2)
        have hT2 : T2 ww (ww.alloc (.cells #[.string mw] 9)) (.slice (some ⟨ww.heap.size, 0, none⟩) 1 1) (turned mw Ps n 0) :=
          ⟨(Below.refl _ _).alloc (Nat.le_refl _) _, by simpa [turned] using owns_literal ww ww.heap.size 9 [.string mw] (Nat.le_refl _) (by unfold maxLen; simp)⟩
        obtain ⟨K, hK⟩ : ∃ K, K = Ps.length := ⟨_, rfl⟩
        have hKh := hid hK
        go_wp2_with fail
        go_loopg [8, 10, 11] 4 (fun g v8 v10 _v11 wr => ∃ t : Nat, t ≤ Ps.length ∧ g = 4 - t ∧ v10 = .int .i64 t ∧ T2 ww wr v8 (turned mw Ps n t))
        case atStart => exact ⟨0, by omega, rfl, rfl, hT2⟩
        case round =>
          obtain ⟨t, ht, rfl, rfl, hT⟩ := hrel
          by_cases hlt : t < Ps.length
          · obtain ⟨a, haK, hav, hat⟩ := turn_num n Ps.length t (by omega) hPl hlt
            have hPw := hP.below hT.bel (Nat.le_refl _)
            have hszs := hP.sz
            go_upto_if 81 with fail
            go_cut [11] from 64 to 91 (fun v11 wx => ∃ p : Nat, p < Ps.length ∧ Hid (turnIdx n Ps.length t = p) ∧ v11 = .int .i64 p ∧ wx = wr)
            case first =>
              by_cases hn : n < 0
              · have hat' : Hid (turnIdx n Ps.length t = Ps.length - 1 - a) := by rw [hat]; simp [hn, Hid]
                clear hat
                go_wp2_with fail
                go_meet
                exact ⟨Ps.length - 1 - a, by omega, hat', by go_num, rfl⟩
              · have hat' : Hid (turnIdx n Ps.length t = a) := by rw [hat]; simp [hn, Hid]
                clear hat
                go_wp2_with fail
                go_meet
                exact ⟨a, by omega, hat', by go_num, rfl⟩
            case rest =>
              obtain ⟨p, hp, hpt, rfl, rfl⟩ := hcut
              clear hat hav
              obtain ⟨b, hcell, hblk⟩ := hPw.at hp
              have hln := turned_len mw (fun p hp => (hszs p hp).1) n t
              have hp10 := (hszs p hp).1
              go_wp2_with (at_builtin; refine wpList_app rfl (.tmp 86) (.tmp 90) rfl hT.row rfl ⟨b, 0, none⟩ Ps[p].length _ Ps[p] rfl rfl (fun i hi => by rw [Addr.add_lit, Nat.zero_add]; exact hblk.cell (by simp [hi])) (by omega) (by exact hT.bel.size) ?_; intro v1 w1 hown1 hg1)
              go_roundg (4 - (t + 1))
              case measure => omega
              case rel => exact ⟨t + 1, by omega, rfl, by go_num, by rw [turned_succ mw Ps n hp hpt.out]; exact hT.app hown1 hg1⟩
          · obtain rfl : t = Ps.length := by omega
            have hTP := turned_parse HM.out hk0 hk6 HMK.out HPs HMW hPl n
            have hszs := hP.sz
            have hln := turned_len mw (fun p hp => (hszs p hp).1) n Ps.length
            have hsz2 := turned_sizes (HMW.out ▸ modeWord_size k hk6) (fun p hp => (hszs p hp).2) n Ps.length
            obtain ⟨TL, hTL⟩ : ∃ TL, TL = turned mw Ps n Ps.length := ⟨_, rfl⟩
            rw [← hTL] at hT hTP hln hsz2
            clear hTL
            obtain ⟨aoL, capL, rfl, hcL, hSL⟩ := strs_of_owns hT.row (by omega) hsz2
            have HCr := HC.ext hT.bel
            have hPr := hP.below hT.bel (Nat.le_refl _)
            have hPlz : ((Ps.length : Int) == 0) = false := by rw [beq_eq_false_iff_ne]; omega
            have hHP1 := hTP.1
            have hHP2 := hTP.2 hz
            have hp10 := (hszs 0 hz).1
            clear hTP
            go_wp2_with (first
              | (go_at_call 9; (with_reducible refine (parse_is hSL (hM.ext HCr.bel) hHP1.out rfl).mono ?_); rintro e wp ⟨rfl, hxp⟩; have HCp := HCr.ext hxp; have hPp := hPr.ext hxp; have hTp := hT.ext hxp; clear HCr hSL hPr; have hgp := hPp.lt; obtain ⟨b0, hcell0, hblk0⟩ := hPp.at hz; have hbs := hTp.bel.size; have hcs := HC.bel.size)
              | (at_builtin; refine wpList_app rfl (.tmp 110) (.tmp 113) rfl (hTp.ext ((Below.refl _ _).alloc (Nat.le_refl _) (.cells #[.int .i64 m, .string r, .bool v, .bool q] 26))).row rfl ⟨b0, 0, none⟩ Ps[0].length _ Ps[0] rfl rfl (fun i hi => by rw [Addr.add_lit, Nat.zero_add]; exact (hblk0.alloc _).cell (by simp [hi])) (by omega) (by simp; omega) ?_; intro v1 w1 hown1 hg1; have hT1 := T2.app (hTp.ext ((Below.refl _ _).alloc (Nat.le_refl _) (.cells #[.int .i64 m, .string r, .bool v, .bool q] 26))) hown1 hg1; have HC1 := Cur.grown (HCp.add #[.int .i64 m, .string r, .bool v, .bool q]) hg1 (fun k hk => by have h5 := hTp.row.lt k hk; have h6 := HC.lt (List.mem_singleton.2 rfl); refine ⟨by omega, fun p hp => ?_⟩; simp only [List.mem_cons, List.not_mem_nil, or_false] at hp; rcases hp with rfl | rfl <;> (simp only; omega)); obtain ⟨ao6, cap6, rfl, hc6, hS6⟩ := strs_of_owns hT1.row (by simp only [List.length_append]; omega) (fun s hs => by rcases List.mem_append.1 hs with hs | hs; exact hsz2 s hs; exact (hszs 0 hz).2 s hs); clear HCp hPp)
              | (go_at_call 9; (with_reducible refine (parse_is hS6 (hM.ext HC1.bel) hHP2.out List.length_append.symm).mono ?_); rintro e wq ⟨rfl, hxq⟩; have HCq := HC1.ext hxq; have c0 : wq.cell? ⟨w.heap.size, 0, none⟩ = some (.int .i64 m) := HCq.c (cs := #[.int .i64 m, .string r, .bool v, .bool q]) (by simp) rfl; have c1 : wq.cell? ⟨w.heap.size, 1, none⟩ = some (.string r) := HCq.c (cs := #[.int .i64 m, .string r, .bool v, .bool q]) (by simp) rfl; have c2 : wq.cell? ⟨w.heap.size, 2, none⟩ = some (.bool v) := HCq.c (cs := #[.int .i64 m, .string r, .bool v, .bool q]) (by simp) rfl; have c3 : wq.cell? ⟨w.heap.size, 3, none⟩ = some (.bool q) := HCq.c (cs := #[.int .i64 m, .string r, .bool v, .bool q]) (by simp) rfl; have x0 : wq.cell? ⟨wp.heap.size, 0, none⟩ = some (.int .i64 m) := HCq.c (cs := #[.int .i64 m, .string r, .bool v, .bool q]) (by simp) rfl; have x1 : wq.cell? ⟨wp.heap.size, 1, none⟩ = some (.string r) := HCq.c (cs := #[.int .i64 m, .string r, .bool v, .bool q]) (by simp) rfl; have x2 : wq.cell? ⟨wp.heap.size, 2, none⟩ = some (.bool v) := HCq.c (cs := #[.int .i64 m, .string r, .bool v, .bool q]) (by simp) rfl; have x3 : wq.cell? ⟨wp.heap.size, 3, none⟩ = some (.bool q) := HCq.c (cs := #[.int .i64 m, .string r, .bool v, .bool q]) (by simp) rfl; have clt : w.heap.size < wq.heap.size := HCq.lt (cs := #[.int .i64 m, .string r, .bool v, .bool q]) (by simp); have dlt : wp.heap.size < wq.heap.size := HCq.lt (cs := #[.int .i64 m, .string r, .bool v, .bool q]) (by simp); have HCs := HCq.add #[.int .i64 0, .string ⟨#[]⟩, .bool false, .bool false]; clear HC1 hS6; simp only [zeroC])
              | (go_at_call 8; refine (awake_any _ (hM.ext HCs.bel)).mono ?_; rintro e wz ⟨rfl, hxz⟩; have HCz := HCs.ext hxz))
            go_ret
            exact ⟨rfl, HCz.bel⟩

set_option maxHeartbeats 1000000 in
theorem turns_long (m : Int) (r : ByteArray) (v q : Bool) (n : Int) (w : World) (hM : ModesW w) (hr : r.size ≤ 9223372036854775807) (h100 : 100 < r.size) :
    Calls Tryd.prog 5 #[.agg #[.int .i64 m, .string r, .bool v, .bool q], .int .i64 n] w fun e w' => e = .returned (.bool true) ∧ Ext w w' := by
  have HC := Cur.start w #[.int .i64 m, .string r, .bool v, .bool q]
  go_enter Tryd.func5, Tryd.ntmps5
  go_wp2_with (go_at_call 8; refine (awake_any _ (hM.ext HC.bel)).mono ?_; rintro e wz ⟨rfl, hy⟩; have HCn := HC.ext hy; clear HC; have HC := HCn; clear HCn)
  go_ret
  exact ⟨rfl, HC.bel⟩

set_option maxHeartbeats 1000000 in
theorem turns_no (m : Int) (r : ByteArray) (v q : Bool) (n : Int) (w : World) (hM : ModesW w) (hr : r.size ≤ 100) (HM : Hid (mayB ⟨m, r, v, q⟩ = false)) :
    Calls Tryd.prog 5 #[.agg #[.int .i64 m, .string r, .bool v, .bool q], .int .i64 n] w fun e w' => e = .returned (.bool true) ∧ Ext w w' := by
  have hrm : r.size ≤ maxLen := by unfold maxLen; omega
  have HC := Cur.start w #[.int .i64 m, .string r, .bool v, .bool q]
  go_enter Tryd.func5, Tryd.ntmps5
  go_wp2_with (first
    | (go_at_call 10; (with_reducible refine (may_is HM.out hrm _).mono ?_); rintro e wm ⟨rfl, hx⟩; have HCn := HC.ext hx; clear HC; have HC := HCn; clear HCn)
    | (go_at_call 8; refine (awake_any _ (hM.ext HC.bel)).mono ?_; rintro e wz ⟨rfl, hy⟩; have HCn := HC.ext hy; clear HC; have HC := HCn; clear HCn))
  go_ret
  exact ⟨rfl, HC.bel⟩

theorem turns_any (m : Int) (r : ByteArray) (v q : Bool) (n : Int) (w : World) (hM : ModesW w) (hr : r.size ≤ 9223372036854775807) (hb : -9223372036854775808 ≤ n ∧ n ≤ 9223372036854775807) :
    Calls Tryd.prog 5 #[.agg #[.int .i64 m, .string r, .bool v, .bool q], .int .i64 n] w fun e w' => e = .returned (.bool true) ∧ Ext w w' := by
  by_cases h100 : r.size ≤ 100
  · cases hm : mayB ⟨m, r, v, q⟩
    · exact turns_no m r v q n w hM h100 hm
    · exact turns_main m r v q n w hM h100 hm hb
  · exact turns_long m r v q n w hM hr (by omega)
end Go.Proofs.YtoknhfmgkgmlhaaDoor
