/-
  How an argument that is an automaton is opened.
  Walk of classes over truth values: the numbers of the things of a list, in the order in which they come.
  Walk of classes over pairs of numbers.
  Walk of automaton over numbers.
-/
import Derived.Test.YtngpjagpeblbjaaGreatDoorI30
import Derived.Test.YtngpjagpeblbjaaGreatDoorZ22
import Derived.Deep.Matrix
import Derived.Deep.Grids
import Derived.Deep.Strs
import Derived.Test.YtngpjagpeblbjaaGreatDoorZ29
namespace Go.Proofs.YtngpjagpeblbjaaGreatDoor
open Go.ChangeShapes Go.WideShapes Go.ChangeAt Go.WideMaps Go.WideElems Go.RowKit Go.Spy Go.Heaped Go.Tour Go.Rx

theorem c46 : Tryz.prog.cellsOf 46 = 1 := by kernel_rfl
theorem c24 : Tryz.prog.cellsOf 24 = 1 := by kernel_rfl
theorem c23 : Tryz.prog.cellsOf 23 = 1 := by kernel_rfl
theorem c22 : Tryz.prog.cellsOf 22 = 1 := by kernel_rfl
theorem c26 : Tryz.prog.cellsOf 26 = 3 := by kernel_rfl
theorem c3 : Tryz.prog.cellsOf 3 = 1 := by kernel_rfl
theorem c4 : Tryz.prog.cellsOf 4 = 1 := by kernel_rfl
theorem c9 : Tryz.prog.cellsOf 9 = 1 := by kernel_rfl
theorem b46 : Tryz.prog.bytesOf 46 = 24 := by kernel_rfl
theorem b4 : Tryz.prog.bytesOf 4 = 1 := by kernel_rfl
theorem b9 : Tryz.prog.bytesOf 9 = 16 := by kernel_rfl

theorem read_of_add {α : Type} {W : World} {f : α → Array Value} {a : Addr} {l : List α} {c : Nat} (h : ∀ (i : Nat) (x : α), l[i]? = some x → ∃ v, (f x)[0]? = some v ∧ W.cell? (a.add i) = some v) : ReadR W 1 f (.slice (some a) l.length c) l := by
  refine ⟨_, _, rfl, ?_⟩
  rcases Nat.eq_zero_or_pos l.length with h0 | h0
  · exact .inl h0
  obtain ⟨x0, hx0⟩ : ∃ x, l[0]? = some x := ⟨_, List.getElem?_eq_getElem h0⟩
  obtain ⟨v0, _, hc0⟩ := h 0 x0 hx0
  have ha : a.add 0 = a := by simp [Addr.add]
  rw [ha] at hc0
  have hsp := spot_none hc0
  refine .inr ⟨a.block, a.off, by rw [← hsp], World.block_lt_of_cell? W a hc0, fun j k x hx hk => ?_⟩
  obtain rfl : k = 0 := by omega
  obtain ⟨v, hv, hc⟩ := h j x hx
  rw [hv]
  rw [hsp, Addr.add_lit] at hc
  simpa using hc
theorem read_none {α : Type} {W : World} {f : α → Array Value} : ReadR W 1 f (.slice none 0 0) ([] : List α) := ⟨none, 0, rfl, .inl rfl⟩

open Go.Joins Go.Deep in
set_option maxRecDepth 100000 in
set_option maxHeartbeats 1000000 in
/-- An automaton that came in. -/
theorem dfa_arg {H : Type} {enc : TypeId × Value → H} {W : World} {base : Nat} {v : Value} {d : DataW H} {p : List MemPlace} (hv : Value.okWide Tryz.prog W .any base 26 v)
    (h : DataW.Trod enc Tryz.prog W 0 (fun _ => true) true 26 v d p) {ts : List TypeId} {ds : List (DataW H)} (hsz : (DataW.weightsEach Tryz.prog ts ds).all (· ≤ reachBytes) = true) {j : Nat} (ht : ts[j]? = some 26) (hd : ds[j]? = some d) :
    ∃ D : DR, DfaV W v D ∧ LenD D := by
  obtain ⟨cs, rfl, hcz⟩ := okWide_struct Tryz.underlying26 hv
  obtain ⟨v0, v1, v2, rfl⟩ : ∃ v0 v1 v2, cs = #[v0, v1, v2] := by
    obtain ⟨l⟩ := cs
    match l, (hcz.trans c26) with
    | [v0, v1, v2], _ => exact ⟨v0, v1, v2, rfl⟩
  obtain ⟨fuel, hf⟩ := h
  obtain ⟨y0, y1, y2, n, hx, _, h0, h1, h2⟩ := trod_struct3 Tryz.underlying26 hf
  simp only [Prod.mk.injEq] at hx
  obtain ⟨rfl, rfl⟩ := hx
  simp only [c22, c23, c24] at h0 h1 h2
  have h0 : DataW.trod enc Tryz.prog W 0 (fun _ => true) true n 22 [v0] = some y0 := by simpa [Value.cells] using h0
  have h1 : DataW.trod enc Tryz.prog W 0 (fun _ => true) true n 23 [v1] = some y1 := by simpa [Value.cells] using h1
  have h2 : DataW.trod enc Tryz.prog W 0 (fun _ => true) true n 24 [v2] = some y2 := by simpa [Value.cells] using h2
  have hsz2 : (DataW.weightsEach Tryz.prog [22, 23, 24] [y0.1, y1.1, y2.1]).all (· ≤ reachBytes) = true := List.all_eq_true.2 fun n hn =>
    List.all_eq_true.1 hsz n (DataW.weights_mem_each ht hd n (by simpa [DataW.weights, Tryz.underlying26] using hn))
  obtain ⟨d0, p0⟩ := y0
  obtain ⟨d1, p1⟩ := y1
  obtain ⟨d2, p2⟩ := y2
  simp only at hsz2
  have hS : ∃ ss : List ByteArray, ReadR W 1 strC v0 ss ∧ MildS ss := by
    rcases open_strings Tryz.underlying22 Tryz.underlying9 c9 h0 with ⟨hcs, _⟩ | ⟨a, len, cap, ss, hcs, _, hl, hm, hz, hx, hcell, hws⟩
    · simp only [List.cons.injEq, and_true] at hcs
      subst hcs
      exact ⟨[], read_none, ⟨by simp, fun s hs => by cases hs⟩⟩
    · simp only [List.cons.injEq, and_true] at hcs
      simp only [Prod.mk.injEq] at hx
      obtain ⟨rfl, rfl⟩ := hx
      subst hcs
      simp only [if_true] at hz
      have hreach := sized_slice hsz2 (j := 0) (t := 22) (e := 9) rfl rfl Tryz.underlying22
      rw [b9] at hreach
      simp only [strs, List.length_map, List.length_take, List.length_drop, reachBytes] at hreach
      have htl : (ss.take len).length = len := by simp; omega
      refine ⟨ss.take len, ?_, ⟨by rw [htl]; omega, fun s hs => ?_⟩⟩
      · have h := read_of_add (W := W) (f := strC) (a := a) (l := ss.take len) (c := cap) (fun i x hx => by
          have hi : i < len := by rw [← htl]; exact (List.getElem?_eq_some_iff.1 hx).1
          refine ⟨.string x, rfl, ?_⟩
          rw [hcell i (by omega)]
          rw [List.getElem?_take_of_lt hi] at hx
          rw [List.getD_eq_getElem?_getD, hx]; rfl)
        rwa [htl] at h
      · have := hws s (List.mem_of_mem_take hs)
        unfold maxLen at this
        omega
  have hF : ∃ bs : List Bool, ReadR W 1 boolC v2 bs ∧ bs.length ≤ 140737488351232 := by
    rcases open_bools Tryz.underlying24 Tryz.underlying4 c4 h2 with ⟨hcs, _⟩ | ⟨a, len, cap, B, hcs, _, hl, hm, hx, hcell⟩
    · simp only [List.cons.injEq, and_true] at hcs
      subst hcs
      exact ⟨[], read_none, by simp⟩
    · simp only [List.cons.injEq, and_true] at hcs
      subst hcs
      simp only [Prod.mk.injEq] at hx
      obtain ⟨rfl, rfl⟩ := hx
      have hreach : len * 1 ≤ reachBytes := by
        have h := List.all_eq_true.1 hsz2
        have h3 := h _ (DataW.weights_mem_each (j := 2) rfl rfl ((len + (cap - len)) * Tryz.prog.bytesOf 4) (by simp [boolRow, DataW.weights, Tryz.underlying24]))
        rw [b4] at h3
        simp only [decide_eq_true_eq] at h3
        omega
      simp only [reachBytes] at hreach
      have hlen : ((List.range len).map B).length = len := by simp
      refine ⟨(List.range len).map B, ?_, by rw [hlen]; omega⟩
      have h := read_of_add (W := W) (f := boolC) (a := a) (l := (List.range len).map B) (c := cap) (fun i x hx => by
        have hi : i < len := by rw [← hlen]; exact (List.getElem?_eq_some_iff.1 hx).1
        refine ⟨.bool x, rfl, ?_⟩
        rw [hcell i (by omega)]
        rw [List.getElem?_map, List.getElem?_range hi] at hx
        simp only [Option.map_some, Option.some.injEq] at hx
        rw [hx])
      rwa [hlen] at h
  have hN : ∃ (us : List Value) (rs : List (List Int)), ReadR W 1 oneA v1 us ∧ us.length = rs.length ∧ rs.length ≤ 140737488351232 ∧ (∀ r ∈ rs, r.length ≤ 9223372036854775807) ∧ ∀ (i : Nat) (u : Value) (r : List Int), us[i]? = some u → rs[i]? = some r → ReadR W 1 intZ u r := by
    rcases open_int_rows Tryz.underlying23 Tryz.underlying46 Tryz.underlying3 c46 c3 h1 with ⟨hcs, _⟩ | ⟨a, len, cap, A, L, C, Z, hcs, _, hl, hm, hx, hrow⟩
    · simp only [List.cons.injEq, and_true] at hcs
      subst hcs
      exact ⟨[], [], read_none, rfl, by simp, by simp, by simp⟩
    · simp only [List.cons.injEq, and_true] at hcs
      subst hcs
      simp only [Prod.mk.injEq] at hx
      obtain ⟨rfl, rfl⟩ := hx
      have hreach := sized_slice hsz2 (j := 1) (t := 23) (e := 46) rfl rfl Tryz.underlying23
      rw [b46] at hreach
      simp only [List.length_map, List.length_range, reachBytes] at hreach
      have hlen : ((List.range len).map fun r => Value.slice (A r) (L r) (C r)).length = len := by simp
      refine ⟨(List.range len).map fun r => .slice (A r) (L r) (C r), (List.range len).map fun r => (Z r).take (L r), ?_, by simp, by simp; omega, fun r hr => ?_, fun i u r hu hr => ?_⟩
      · have h := read_of_add (W := W) (f := oneA) (a := a) (l := (List.range len).map fun r => Value.slice (A r) (L r) (C r)) (c := cap) (fun i x hx => by
          have hi : i < len := by rw [← hlen]; exact (List.getElem?_eq_some_iff.1 hx).1
          rw [List.getElem?_map, List.getElem?_range hi] at hx
          simp only [Option.map_some, Option.some.injEq] at hx
          subst hx
          exact ⟨_, rfl, (hrow i (by omega)).1⟩)
        rwa [hlen] at h
      · simp only [List.mem_map, List.mem_range] at hr
        obtain ⟨i, hi, rfl⟩ := hr
        obtain ⟨_, h2, h3, h4, _, _, _⟩ := hrow i (by omega)
        unfold maxLen at h3
        simp; omega
      · have hi : i < len := by rw [← hlen]; exact (List.getElem?_eq_some_iff.1 hu).1
        rw [List.getElem?_map, List.getElem?_range hi] at hu hr
        simp only [Option.map_some, Option.some.injEq] at hu hr
        subst hu hr
        obtain ⟨h1, h2, h3, h4, h5, h6, h7⟩ := hrow i (by omega)
        have htl : ((Z i).take (L i)).length = L i := by simp; omega
        cases hA : A i with
        | none =>
          have := h6 hA
          have h0 : L i = 0 := by omega
          refine ⟨none, C i, by rw [htl], .inl (by rw [htl]; exact h0)⟩
        | some a' =>
          obtain ⟨_, h8⟩ := h7 a' hA
          have h := read_of_add (W := W) (f := intZ) (a := a') (l := (Z i).take (L i)) (c := C i) (fun j x hx => by
            have hj : j < L i := by rw [← htl]; exact (List.getElem?_eq_some_iff.1 hx).1
            refine ⟨.int .i64 x, rfl, ?_⟩
            rw [h8 j (by omega)]
            rw [List.getElem?_take_of_lt hj] at hx
            rw [List.getD_eq_getElem?_getD, hx]; rfl)
          rwa [htl] at h
  obtain ⟨ss, hs1, hs2⟩ := hS
  obtain ⟨bs, hb1, hb2⟩ := hF
  obtain ⟨us, rs, hr1, hr2, hr3, hr4, hr5⟩ := hN
  exact ⟨⟨ss, rs, bs⟩, ⟨v0, v1, v2, us, rfl, hs1, hr1, hr2, hr5, hb1⟩, hs2, hr3, hb2, hr4⟩
end Go.Proofs.YtngpjagpeblbjaaGreatDoor
namespace Go.Proofs.YtngpjagpeblbjaaGreatDoor
open Go.RowKit Go.Spy Go.Heaped Go.Tour Go.Rx

theorem len_map_bool {w : World} {b : Nat} {es : Array MapEntry} {clock : Nat} (hb : w.heap[b]? = some (.map es clock)) : (Builtin.len_ #[172] 3 #[.map (some b)]).run Tryz.prog w = .ok (.int .i64 (es.size : Nat)) w := by
  have h := run_len_map (P := Tryz.prog) (w := w) 172 3 b es clock (by kernel_rfl) hb
  exact h
theorem key_bool : KeyOk (κ := Bool) Tryz.prog 4 Value.bool := keyOk_bool Tryz.underlying4
section
variable {κ : Type} [DecidableEq κ]
omit [DecidableEq κ] in
theorem take_snoc {l : List κ} {i : Nat} {x : κ} (h : l[i]? = some x) : l.take (i + 1) = l.take i ++ [x] := by
  obtain ⟨hi, rfl⟩ := List.getElem?_eq_some_iff.1 h
  rw [List.take_succ_eq_append_getElem hi]
theorem cls_take_old {l : List κ} {i : Nat} {x : κ} (h : l[i]? = some x) (hx : x ∈ clsU (l.take i)) : clsU (l.take (i + 1)) = clsU (l.take i) ∧ cls (l.take (i + 1)) = cls (l.take i) ++ [(clsU (l.take i)).idxOf x] := by
  rw [take_snoc h]
  refine ⟨(cls_old hx).1, ?_⟩
  rw [cls_snoc, (cls_old hx).2]
theorem cls_take_new {l : List κ} {i : Nat} {x : κ} (h : l[i]? = some x) (hx : x ∉ clsU (l.take i)) : clsU (l.take (i + 1)) = clsU (l.take i) ++ [x] ∧ cls (l.take (i + 1)) = cls (l.take i) ++ [(clsU (l.take i)).length] := by
  rw [take_snoc h]
  refine ⟨(cls_new hx).1, ?_⟩
  rw [cls_snoc, (cls_new hx).2]
theorem mapB_len {κ : Type} {w : World} {b : Nat} {enc : κ → Value} {l : List (κ × Value)} (h : MapB w b enc l) : ∃ es clock, w.heap[b]? = some (.map es clock) ∧ es.size = l.length := by
  obtain ⟨es, c, h1, h2⟩ := h
  refine ⟨es, c, h1, ?_⟩
  have := congrArg List.length h2
  simpa using this
omit [DecidableEq κ] in
theorem entries_len {V : Type} (f : Nat → V) : ∀ (l : List κ) (i : Nat), (entries f i l).length = l.length
  | [], _ => rfl
  | _ :: l, i => by simp [entries, entries_len f l]
end
/-- While the list is gone through. -/
structure ClsW {κ : Type} (w wr : World) (bM : Nat) (enc : κ → Value) (vO : Value) (us : List κ) (os : List Nat) : Prop where
  ext : Ext w wr
  map : MapB wr bM enc (entries numV 0 us)
  own : OwnR wr w.heap.size 3 1 natA vO os
  ge : w.heap.size ≤ bM
def ClsPost (os : List Nat) (w : World) (e : Ending) (w' : World) : Prop := Ext w w' ∧ ∃ v, e = .returned v ∧ OwnR w' w.heap.size 3 1 natA v os

set_option maxRecDepth 100000 in
set_option maxHeartbeats 4000000 in
theorem classes_bool {w : World} {v : Value} {l : List Bool} (hV : ReadR w 1 boolC v l) (hl : l.length ≤ 1000) : Calls Tryz.prog 59 #[v] w (ClsPost (cls l) w) := by
  obtain ⟨ao, c, rfl, hg⟩ := hV.form
  obtain ⟨n, hn⟩ : ∃ n, n = l.length := ⟨_, rfl⟩
  have HV := hid hV
  rw [← hn] at hg hl HV ⊢
  have HG := hid hg
  have HN := hid hn
  have HPO : Hid (∀ (w' : World) (v' : Value), Ext w w' → OwnR w' w.heap.size 3 1 natA v' (cls l) → ClsPost (cls l) w (.returned v') w') := hid fun w' v' h1 h2 => ⟨h1, v', rfl, h2⟩
  obtain ⟨Q, hQ⟩ : ∃ Q, Q = ClsPost (cls l) w := ⟨_, rfl⟩
  rw [← hQ] at HPO ⊢
  clear hV hg hn hQ
  go_enter Tryz.func59, Tryz.ntmps59
  have hmm := @run_makeMap Tryz.prog
  go_wp2_with fail
  clear hmm
  go_loopg [4, 12] n (fun g vO u wr => ∃ i, g = n - i ∧ i ≤ n ∧ u = .int .i64 i ∧ Hid (ClsW w wr w.heap.size Value.bool vO (clsU (l.take i)) (cls (l.take i))))
  case atStart => exact ⟨0, rfl, Nat.zero_le _, rfl, hid ⟨(Below.refl _ _).alloc (Nat.le_refl _) _, MapB.new _ _, OwnR.nil _ _ _ _ _, Nat.le_refl _⟩⟩
  case round =>
    obtain ⟨i, rfl, hi, rfl, HW⟩ := hrel
    obtain ⟨vO, hvO⟩ : ∃ v, v = u4 := ⟨_, rfl⟩
    subst hvO
    by_cases hlt : i < n
    · obtain ⟨g, o, rfl⟩ := HG.out (by omega)
      obtain ⟨x, hx⟩ : ∃ x, l[i]? = some x := ⟨_, List.getElem?_eq_getElem (by rw [← HN.out]; exact hlt)⟩
      have c1 : wr.cell? ⟨g, o + i, none⟩ = some (.bool x) := by
        have h := HV.out.ext HW.out.ext
        rw [HN.out] at h
        exact h.cell1 hx
      have HX := hid hx
      have hsz : w.heap.size ≤ wr.heap.size := HW.out.ext.size
      have hbl : w.heap.size < wr.heap.size := HW.out.map.lt
      have hln : (cls (l.take i)).length + 1 ≤ 1000000000 := by rw [cls_length, List.length_take]; omega
      obtain ⟨es, clock, hb, hes⟩ := mapB_len HW.out.map
      rw [entries_len] at hes
      have HES := hid hes
      clear hx hes
      by_cases hmem : x ∈ clsU (l.take i)
      · obtain ⟨q, hq⟩ : ∃ n, n = @List.idxOf _ instBEqOfDecidableEq x (clsU (l.take i)) := ⟨_, rfl⟩
        have hlook : alook (entries numV 0 (clsU (l.take i))) x = some (.int .i64 q) := by rw [entries_look, if_pos hmem, Nat.zero_add, ← hq]; rfl
        have HLK := hid hlook
        have HQ := hid hq
        have HME := hid hmem
        have HOW := hid HW.out.own
        clear hlook hq hmem
        go_wp2_with (first
          | (with_reducible show wpList _ _ _ ((⟨_, Op.lookup _ _ _ _, _, _, _, _⟩ : Oper) :: _) _ _
             go_loud (refine wpList_lookupB rfl (.tmp 17) (.tmp 18) 172 rfl 4 3 Value.bool key_bool Tryz.underlying172 w.heap.size (entries numV 0 (clsU (l.take i))) rfl HW.out.map (.int .i64 0) zero_int x rfl (some (.int .i64 q)) HLK.out ?_))
          | (at_builtin
             go_loud (refine wpList_append_R elem_int (fun _ => rfl) ones_int HOW hsz hln q _ rfl wr.heap.size rfl rfl _ _ rfl rfl rfl ?_)
             rintro g' c' v' w7 rfl G1 G2))
        go_roundg (n - (i + 1))
        case measure => omega
        case rel =>
          obtain ⟨e1, e2⟩ := cls_take_old HX.out HME.out
          refine ⟨i + 1, rfl, by omega, by go_num, hid ⟨ext_grown HW.out.ext G2.out.1 (fun k e => (HOW.out.lt k e).1), ?_, ?_, HW.out.ge⟩⟩
          · rw [e1]
            exact HW.out.map.grown G2.out.1 (fun e => by
              obtain ⟨_, hc⟩ := own_block HOW.out e.symm
              exact blk_map_ne hc HW.out.map rfl)
          · rw [e2, ← HQ.out]; exact G1.out
      · have hlook : alook (entries numV 0 (clsU (l.take i))) x = none := by rw [entries_look, if_neg hmem]
        have HLK := hid hlook
        have HME := hid hmem
        have hlm := len_map_bool hb
        clear hlook hmem
        go_wp2_with (first
          | (with_reducible show wpList _ _ _ ((⟨_, Op.lookup _ _ _ _, _, _, _, _⟩ : Oper) :: _) _ _
             go_loud (refine wpList_lookupB rfl (.tmp 17) (.tmp 18) 172 rfl 4 3 Value.bool key_bool Tryz.underlying172 w.heap.size (entries numV 0 (clsU (l.take i))) rfl HW.out.map (.int .i64 0) zero_int x rfl none HLK.out ?_))
          | (with_reducible show wpList _ _ _ ((⟨_, Op.mapUpdate _ _ _ _, _, _, _, _⟩ : Oper) :: _) _ _
             go_loud (refine wpList_mapUpdateB _ rfl (.tmp 26) (.tmp 27) (.tmp 28) 172 (.inl rfl) 4 3 Value.bool key_bool Tryz.underlying172 w.heap.size (entries numV 0 (clsU (l.take i))) rfl HW.out.map x (numV es.size) rfl rfl ?_)
             intro w6 hM6 hG6
             have HM6 := hid hM6
             have HG6 := hid hG6
             have hO6 : OwnR w6 w.heap.size 3 1 natA vO (cls (l.take i)) := HW.out.own.chg ((Chg.refl (fun k => k = w.heap.size) wr).grown hG6 (fun k e => by simpa using e.symm)) (fun k e e' => by
               obtain ⟨_, hc⟩ := own_block HW.out.own e
               exact blk_map_ne hc HW.out.map e')
             have HOW := hid hO6
             have HX6 : Hid (Ext w w6) := hid (ext_grown HW.out.ext hG6 (fun k e => by simp at e; omega))
             have hsz6 : w.heap.size ≤ w6.heap.size := HX6.out.size
             clear hM6 hG6 hO6 hb hlm)
          | (at_builtin
             go_loud (refine wpList_append_R elem_int (fun _ => rfl) ones_int HOW hsz6 hln es.size _ rfl w6.heap.size rfl rfl _ _ rfl rfl rfl ?_)
             rintro g' c' v' w7 rfl G1 G2))
        go_roundg (n - (i + 1))
        case measure => omega
        case rel =>
          obtain ⟨e1, e2⟩ := cls_take_new HX.out HME.out
          refine ⟨i + 1, rfl, by omega, by go_num, hid ⟨ext_grown HX6.out G2.out.1 (fun k e => (HOW.out.lt k e).1), ?_, ?_, HW.out.ge⟩⟩
          · have h := HM6.out
            rw [aput_push HLK.out] at h
            rw [e1, entries_snoc, Nat.zero_add, ← HES.out]
            exact h.grown G2.out.1 (fun e => by
              obtain ⟨_, hc⟩ := own_block HOW.out e.symm
              exact blk_map_ne hc HM6.out rfl)
          · rw [e2, ← HES.out]; exact G1.out
    · obtain rfl : n = i := by omega
      go_wp2_with fail
      have h := HW.out.own
      rw [List.take_of_length_le (by rw [← HN.out]; exact Nat.le_refl _)] at h
      exact HPO.out wr vO HW.out.ext h
end Go.Proofs.YtngpjagpeblbjaaGreatDoor
namespace Go.Proofs.YtngpjagpeblbjaaGreatDoor
open Go.RowKit Go.Spy Go.Heaped Go.Tour Go.Rx

theorem len_map_pr {w : World} {b : Nat} {es : Array MapEntry} {clock : Nat} (hb : w.heap[b]? = some (.map es clock)) : (Builtin.len_ #[158] 3 #[.map (some b)]).run Tryz.prog w = .ok (.int .i64 (es.size : Nat)) w := by
  have h := run_len_map (P := Tryz.prog) (w := w) 158 3 b es clock (by kernel_rfl) hb
  exact h
set_option maxRecDepth 100000 in
set_option maxHeartbeats 4000000 in
theorem classes_pr {w : World} {v : Value} {l : List Pr} (hV : ReadR w 2 prC v l) (hl : l.length ≤ 1000) : Calls Tryz.prog 60 #[v] w (ClsPost (cls l) w) := by
  obtain ⟨ao, c, rfl, hg⟩ := hV.form
  obtain ⟨n, hn⟩ : ∃ n, n = l.length := ⟨_, rfl⟩
  have HV := hid hV
  rw [← hn] at hg hl HV ⊢
  have HG := hid hg
  have HN := hid hn
  have HPO : Hid (∀ (w' : World) (v' : Value), Ext w w' → OwnR w' w.heap.size 3 1 natA v' (cls l) → ClsPost (cls l) w (.returned v') w') := hid fun w' v' h1 h2 => ⟨h1, v', rfl, h2⟩
  obtain ⟨Q, hQ⟩ : ∃ Q, Q = ClsPost (cls l) w := ⟨_, rfl⟩
  rw [← hQ] at HPO ⊢
  clear hV hg hn hQ
  go_enter Tryz.func60, Tryz.ntmps60
  have hmm := @run_makeMap Tryz.prog
  go_wp2_with fail
  clear hmm
  go_loopg [4, 12] n (fun g vO u wr => ∃ i, g = n - i ∧ i ≤ n ∧ u = .int .i64 i ∧ Hid (ClsW w wr w.heap.size (fun p : Pr => .agg (prC p)) vO (clsU (l.take i)) (cls (l.take i))))
  case atStart => exact ⟨0, rfl, Nat.zero_le _, rfl, hid ⟨(Below.refl _ _).alloc (Nat.le_refl _) _, MapB.new _ _, OwnR.nil _ _ _ _ _, Nat.le_refl _⟩⟩
  case round =>
    obtain ⟨i, rfl, hi, rfl, HW⟩ := hrel
    obtain ⟨vO, hvO⟩ : ∃ v, v = u4 := ⟨_, rfl⟩
    subst hvO
    by_cases hlt : i < n
    · obtain ⟨g, o, rfl⟩ := HG.out (by omega)
      obtain ⟨x, hx⟩ : ∃ x, l[i]? = some x := ⟨_, List.getElem?_eq_getElem (by rw [← HN.out]; exact hlt)⟩
      have h2 : ∀ e, e < 2 → wr.cell? ⟨g, o + (i * 2 + e), none⟩ = (prC x)[e]? := fun e he => by
        have h := HV.out.ext HW.out.ext
        rw [HN.out] at h
        exact h.cell hx he
      have HX := hid hx
      obtain ⟨⟨y, z⟩, hyz⟩ := x
      have c1 : wr.cell? ⟨g, o + i * 2, none⟩ = some (.int .i64 y) := h2 0 (by decide)
      have c2 : wr.cell? ⟨g, o + i * 2 + 1, none⟩ = some (.int .i64 z) := by have := h2 1 (by decide); rwa [show o + (i * 2 + 1) = o + i * 2 + 1 by omega] at this
      clear h2
      have hbl0 : w.heap.size < wr.heap.size := HW.out.map.lt
      go_upto_region 6 with fail
      have e0 : Ext wr (wr.alloc (.cells #[.int .i64 y, .int .i64 z] 83)) := (Below.refl _ _).alloc (Nat.le_refl _) _
      have HWy : Hid (ClsW w (wr.alloc (.cells #[.int .i64 y, .int .i64 z] 83)) w.heap.size (fun p : Pr => .agg (prC p)) vO (clsU (l.take i)) (cls (l.take i))) := hid ⟨HW.out.ext.trans (e0.mono HW.out.ext.size), HW.out.map.alloc _, HW.out.own.alloc _, HW.out.ge⟩
      have hB0 := Blk.new wr 83 #[.int .i64 y, .int .i64 z]
      clear e0 HW c1 c2 hbl0
      obtain ⟨wy, hwy⟩ : ∃ u, u = wr.alloc (.cells #[.int .i64 y, .int .i64 z] 83) := ⟨_, rfl⟩
      rw [← hwy] at HWy hB0 ⊢
      obtain ⟨b6, hb6⟩ : ∃ n, n = wr.heap.size := ⟨_, rfl⟩
      rw [← hb6] at hB0 ⊢
      clear hwy hb6
      have HW := HWy
      have d0 : wy.cell? ⟨b6, 0, none⟩ = some (.int .i64 y) := hB0.cell (i := 0) rfl
      have d1 : wy.cell? ⟨b6, 1, none⟩ = some (.int .i64 z) := hB0.cell (i := 1) rfl
      have hl6 := hB0.lt
      have HB0 := hid hB0
      clear hB0
      obtain ⟨x, hxe⟩ : ∃ x : Pr, x = ⟨(y, z), hyz⟩ := ⟨_, rfl⟩
      rw [← hxe] at HX
      have HXE := hid hxe
      clear hxe
      have hsz : w.heap.size ≤ wy.heap.size := HW.out.ext.size
      have hbl : w.heap.size < wy.heap.size := HW.out.map.lt
      have hln : (cls (l.take i)).length + 1 ≤ 1000000000 := by rw [cls_length, List.length_take]; omega
      obtain ⟨es, clock, hb, hes⟩ := mapB_len HW.out.map
      rw [entries_len] at hes
      have HES := hid hes
      clear hx hes
      by_cases hmem : x ∈ clsU (l.take i)
      · obtain ⟨q, hq⟩ : ∃ n, n = @List.idxOf _ instBEqOfDecidableEq x (clsU (l.take i)) := ⟨_, rfl⟩
        have hlook : alook (entries numV 0 (clsU (l.take i))) x = some (.int .i64 q) := by rw [entries_look, if_pos hmem, Nat.zero_add, ← hq]; rfl
        have HLK := hid hlook
        have HQ := hid hq
        have HME := hid hmem
        have HOW := hid HW.out.own
        clear hlook hq hmem
        go_wp2_with (first
          | (with_reducible show wpList _ _ _ ((⟨_, Op.lookup _ _ _ _, _, _, _, _⟩ : Oper) :: _) _ _
             go_loud (refine wpList_lookupB rfl (.tmp 17) (.tmp 18) 158 rfl 83 3 (fun p => .agg (prC p)) key_pr Tryz.underlying158 w.heap.size (entries numV 0 (clsU (l.take i))) rfl HW.out.map (.int .i64 0) zero_int x (by rw [HXE.out]; rfl) (some (.int .i64 q)) HLK.out ?_))
          | (at_builtin
             go_loud (refine wpList_append_R elem_int (fun _ => rfl) ones_int HOW hsz hln q _ rfl wy.heap.size rfl rfl _ _ rfl rfl rfl ?_)
             rintro g' c' v' w7 rfl G1 G2))
        go_roundg (n - (i + 1))
        case measure => omega
        case rel =>
          obtain ⟨e1, e2⟩ := cls_take_old HX.out HME.out
          refine ⟨i + 1, rfl, by omega, by go_num, hid ⟨ext_grown HW.out.ext G2.out.1 (fun k e => (HOW.out.lt k e).1), ?_, ?_, HW.out.ge⟩⟩
          · rw [e1]
            exact HW.out.map.grown G2.out.1 (fun e => by
              obtain ⟨_, hc⟩ := own_block HOW.out e.symm
              exact blk_map_ne hc HW.out.map rfl)
          · rw [e2, ← HQ.out]; exact G1.out
      · have hlook : alook (entries numV 0 (clsU (l.take i))) x = none := by rw [entries_look, if_neg hmem]
        have HLK := hid hlook
        have HME := hid hmem
        have hlm := len_map_pr hb
        clear hlook hmem
        go_wp2_with (first
          | (with_reducible show wpList _ _ _ ((⟨_, Op.lookup _ _ _ _, _, _, _, _⟩ : Oper) :: _) _ _
             go_loud (refine wpList_lookupB rfl (.tmp 17) (.tmp 18) 158 rfl 83 3 (fun p => .agg (prC p)) key_pr Tryz.underlying158 w.heap.size (entries numV 0 (clsU (l.take i))) rfl HW.out.map (.int .i64 0) zero_int x (by rw [HXE.out]; rfl) none HLK.out ?_))
          | (with_reducible show wpList _ _ _ ((⟨_, Op.mapUpdate _ _ _ _, _, _, _, _⟩ : Oper) :: _) _ _
             go_loud (refine wpList_mapUpdateB _ rfl (.tmp 26) (.tmp 27) (.tmp 28) 158 (.inl rfl) 83 3 (fun p => .agg (prC p)) key_pr Tryz.underlying158 w.heap.size (entries numV 0 (clsU (l.take i))) rfl HW.out.map x (numV es.size) (by rw [HXE.out]; rfl) rfl ?_)
             intro w6 hM6 hG6
             have HM6 := hid hM6
             have HG6 := hid hG6
             have hO6 : OwnR w6 w.heap.size 3 1 natA vO (cls (l.take i)) := HW.out.own.chg ((Chg.refl (fun k => k = w.heap.size) wy).grown hG6 (fun k e => by simpa using e.symm)) (fun k e e' => by
               obtain ⟨_, hc⟩ := own_block HW.out.own e
               exact blk_map_ne hc HW.out.map e')
             have HOW := hid hO6
             have HX6 : Hid (Ext w w6) := hid (ext_grown HW.out.ext hG6 (fun k e => by simp at e; omega))
             have hsz6 : w.heap.size ≤ w6.heap.size := HX6.out.size
             clear hM6 hG6 hO6 hb hlm)
          | (at_builtin
             go_loud (refine wpList_append_R elem_int (fun _ => rfl) ones_int HOW hsz6 hln es.size _ rfl w6.heap.size rfl rfl _ _ rfl rfl rfl ?_)
             rintro g' c' v' w7 rfl G1 G2))
        go_roundg (n - (i + 1))
        case measure => omega
        case rel =>
          obtain ⟨e1, e2⟩ := cls_take_new HX.out HME.out
          refine ⟨i + 1, rfl, by omega, by go_num, hid ⟨ext_grown HX6.out G2.out.1 (fun k e => (HOW.out.lt k e).1), ?_, ?_, HW.out.ge⟩⟩
          · have h := HM6.out
            rw [aput_push HLK.out] at h
            rw [e1, entries_snoc, Nat.zero_add, ← HES.out]
            exact h.grown G2.out.1 (fun e => by
              obtain ⟨_, hc⟩ := own_block HOW.out e.symm
              exact blk_map_ne hc HM6.out rfl)
          · rw [e2, ← HES.out]; exact G1.out
    · obtain rfl : n = i := by omega
      go_wp2_with fail
      have h := HW.out.own
      rw [List.take_of_length_le (by rw [← HN.out]; exact Nat.le_refl _)] at h
      exact HPO.out wr vO HW.out.ext h
end Go.Proofs.YtngpjagpeblbjaaGreatDoor
namespace Go.Proofs.YtngpjagpeblbjaaGreatDoor
open Go.RowKit Go.Spy Go.Heaped Go.Tour Go.Rx

set_option maxRecDepth 100000 in
set_option maxHeartbeats 4000000 in
theorem auto_int {w : World} {vK vN vF vS : Value} {us : List Value} {ks : List Nat} {fr : List (Nat × Nat)} {syms : List ByteArray} (hK : ReadR w 1 natA vK ks) (hN : ReadR w 1 oneA vN us) (hF : ReadR w 2 stepA vF fr) (hS : ReadR w 1 strC vS syms) (hk1 : ks.length ≤ 1000) (hs1 : syms.length ≤ 1000)
    {f : FuncId} {bs caps : Array Value} (hE : Enters Tryz.prog f) (p : Nat → Bool) (hf : ∀ k w', k ∈ ks → Ext w w' → Calls Tryz.prog f (bs ++ #[.int .i64 (k : Nat)] ++ caps) w' fun e w'' => e = .returned (.bool (p k)) ∧ Ext w' w'') :
    Calls Tryz.prog 63 #[.agg #[vK, vN, vF], vS, .func (.func f) bs caps] w (AutoPost syms vN (ks.map p) w) := by
  obtain ⟨aoK, cK, rfl, hK2⟩ := hK.form
  obtain ⟨aoN, cN, rfl, -⟩ := hN.form
  obtain ⟨aoF, cF, rfl, -⟩ := hF.form
  obtain ⟨aoS, cS, rfl, -⟩ := hS.form
  obtain ⟨n, hn⟩ : ∃ n, n = ks.length := ⟨_, rfl⟩
  rw [← hn] at hK2 hk1 ⊢
  have HK := hid hK
  rw [← hn] at HK
  have HS := hid hS
  have HF := hid hf
  have HEN := hid hE
  have HNN := hid hn
  have HCL : ∀ W : World, Ext w W → Calls Tryz.prog 42 #[.slice aoS syms.length cS] W (ClonePost 9 strC syms W) := fun W e => clone_str (hS.ext e) (by omega)
  have HCLN := hid HCL
  clear hK hN hF hS hf hE hn HCL
  go_enter Tryz.func63, Tryz.ntmps63
  go_upto_region 1 with fail
  go_cut [7] from 8 (fun u7 wx => ∃ b7 vS', u7 = .pointer (some ⟨b7, 0, none⟩) ∧ Hid (AutoW w wx (.slice aoK n cK) (.slice aoN us.length cN) (.slice aoF fr.length cF) vS' (.slice none 0 0) 89 b7 syms []))
  case first =>
    obtain ⟨W1, hW1⟩ : ∃ u, u = ((w.alloc (.cells #[.slice aoK n cK, .slice aoN us.length cN, .slice aoF fr.length cF] 89)).alloc (.cells #[.slice none 0 0, .slice none 0 0, .slice none 0 0] 26)) := ⟨_, rfl⟩
    rw [← hW1]
    have eW : Ext w W1 := hW1 ▸ ((Below.refl _ _).alloc (Nat.le_refl _) _).alloc (by simp) _
    have HB1 : Hid (Blk W1 w.heap.size 89 #[.slice aoK n cK, .slice aoN us.length cN, .slice aoF fr.length cF]) := hid (hW1 ▸ (Blk.new _ _ _).alloc _)
    have HB2 : Hid (Blk W1 (w.heap.size + 1) 26 #[.slice none 0 0, .slice none 0 0, .slice none 0 0]) := hid (hW1 ▸ Blk.new' _ _ _ (by simp))
    have HW1 := hid eW
    have c1 : W1.cell? ⟨w.heap.size, 1, none⟩ = some (.slice aoN us.length cN) := HB1.out.cell rfl
    have l1 := HB1.out.lt
    have l2 := HB2.out.lt
    have hS0 : Ext W1 W1.drew := (Below.refl _ _).drew
    clear eW hW1
    refine wp_region_heldL (Ext W1) (by kernel_rfl) ?_
    refine wpAnyH_takeK 0 6 #[true, false, false, false, false, false, false] rfl (by kernel_rfl) rfl (.slice aoS syms.length cS) (fun _ _ _ h => h) (Or.inl ⟨rfl, fun w' hS => ?_⟩) hS0 ?_
    · go_simp <;> with_reducible rfl
    refine wpAnyH_takeK 2 5 #[true, false, true, false, false, false, false] rfl (by kernel_rfl) rfl (.pointer (some ⟨w.heap.size, 1, none⟩)) (fun _ _ _ h => h) (Or.inl ⟨rfl, fun w' hS => ?_⟩) hS0 ?_
    · go_simp <;> with_reducible rfl
    refine wpAnyH_takeK 3 4 #[true, false, true, true, false, false, false] rfl (by kernel_rfl) rfl (.slice aoN us.length cN) (fun _ _ _ h => h) (Or.inl ⟨rfl, fun w' hS => ?_⟩) hS0 ?_
    · have c2 := (hS.cell (p := ⟨w.heap.size, 1, none⟩) l1).trans c1; go_simp <;> with_reducible rfl
    refine wpAnyH_two 1 5 3 #[true, true, true, true, false, false, false] #[true, false, true, true, false, true, false] rfl rfl (by kernel_rfl) rfl ?_ ?_
    · go_wp2_with fail
      refine (HCLN.out _ (HW1.out.trans (hS0.mono HW1.out.size))).mono ?_
      rintro e w4 ⟨hx4, vS', rfl, hO⟩
      obtain ⟨aoC, cC, rfl, -⟩ := (OwnR.read hO strC_size).form
      have hS4 : Ext W1 w4 := hS0.trans (hx4.mono (by simp))
      have HO := hid (hO.lower (b := w.heap.size) (by have := HW1.out.size; simpa using this))
      have HS4 := hid hS4
      clear hO hx4
      go_wp2_with fail
      refine ⟨hS4, ?_⟩
      refine wpAnyH_takeK 4 2 #[true, true, true, true, true, false, false] rfl (by kernel_rfl) rfl (.agg #[.slice aoC syms.length cC, .slice aoN us.length cN, .slice none 0 0]) (fun _ _ _ h => h) (Or.inl ⟨rfl, fun w' hS => ?_⟩) hS4 ?_
      · go_simp <;> with_reducible rfl
      refine wpAnyH_one 5 1 #[true, true, true, true, true, true, false] rfl (by kernel_rfl) rfl ?_
      go_wp2_with fail
      refine ⟨hS4.alloc hS4.size _, ?_⟩
      refine wpAnyH_one 6 0 #[true, true, true, true, true, true, true] rfl (by kernel_rfl) rfl ?_
      go_wp2_with fail
      refine ⟨hS4.alloc hS4.size _, ?_⟩
      refine wpAnyH_end (P := Tryz.prog) (by kernel_rfl) ?_
      go_wp2_with fail
      go_meet
      refine ⟨_, .slice aoC syms.length cC, rfl, hid ⟨(HW1.out.trans (hS4.mono HW1.out.size)).alloc (HW1.out.trans (hS4.mono HW1.out.size)).size _, (HB1.out.ext hS4).alloc _, (HB2.out.ext hS4).alloc _, Blk.new _ _ _, HO.out.alloc _, OwnR.nil _ _ _ _ _, by have := hS4.size; omega⟩⟩
    · go_wp2_with fail
      have hS3 : Ext W1 (W1.drew.alloc (.cells #[.slice none 0 0, .slice none 0 0, .slice none 0 0] 26)) := hS0.alloc (by simp) _
      refine ⟨hS3, ?_⟩
      refine wpAnyH_one 1 2 #[true, true, true, true, false, true, false] rfl (by kernel_rfl) rfl ?_
      go_wp2_with fail
      refine (HCLN.out _ (HW1.out.trans (hS3.mono HW1.out.size))).mono ?_
      rintro e w4 ⟨hx4, vS', rfl, hO⟩
      obtain ⟨aoC, cC, rfl, -⟩ := (OwnR.read hO strC_size).form
      have hS4 : Ext W1 w4 := hS3.trans (hx4.mono (by simp))
      have hB4 : Blk w4 W1.heap.size 26 #[.slice none 0 0, .slice none 0 0, .slice none 0 0] := (Blk.new' _ _ _ (by simp)).ext hx4
      have HO := hid (hO.lower (b := w.heap.size) (by have := HW1.out.size; have := hS3.size; omega))
      have HB4 := hid hB4
      have d0 : w4.cell? ⟨W1.heap.size, 0, none⟩ = some (.slice none 0 0) := hB4.cell rfl
      have d1 : w4.cell? ⟨W1.heap.size, 1, none⟩ = some (.slice none 0 0) := hB4.cell rfl
      have d2 : w4.cell? ⟨W1.heap.size, 2, none⟩ = some (.slice none 0 0) := hB4.cell rfl
      have df := hB4.frozen
      have dl := hB4.lt
      have hso : ∀ g, (Value.slice aoC syms.length cC).ownBlock = some g → ¬ g = W1.heap.size := fun g e e2 => by obtain ⟨_, hb⟩ := own_block hO e; exact ne_of_blk hB4 hb (by decide) e2.symm
      have HSO := hid hso
      clear hO hx4 hB4 hso
      go_wp2_with fail
      refine ⟨hS4, ?_⟩
      refine wpAnyH_takeK 4 1 #[true, true, true, true, true, true, false] rfl (by kernel_rfl) rfl (.agg #[.slice aoC syms.length cC, .slice aoN us.length cN, .slice none 0 0]) (fun _ _ _ h => h) (Or.inl ⟨rfl, fun w' hS => ?_⟩) hS4 ?_
      · go_simp <;> with_reducible rfl
      refine wpAnyH_one 6 0 #[true, true, true, true, true, true, true] rfl (by kernel_rfl) rfl ?_
      go_wp2_with fail
      have cc : Chg (fun k => k = W1.heap.size) w4 (((w4.setCell ⟨W1.heap.size, 0, none⟩ (.slice aoC syms.length cC)).setCell ⟨W1.heap.size, 1, none⟩ (.slice aoN us.length cN)).setCell ⟨W1.heap.size, 2, none⟩ (.slice none 0 0)) :=
        Chg.setCell (p := ⟨W1.heap.size, 2, none⟩) (S := fun k => k = W1.heap.size) (Chg.setCell (p := ⟨W1.heap.size, 1, none⟩) (S := fun k => k = W1.heap.size) (Chg.setCell (p := ⟨W1.heap.size, 0, none⟩) (S := fun k => k = W1.heap.size) (Chg.refl _ w4) rfl (.slice aoC syms.length cC)) rfl (.slice aoN us.length cN)) rfl (.slice none 0 0)
      have hS5 := hS4.trans (cc.below (B := W1.heap.size) (by omega) (fun k e => by omega))
      refine ⟨hS5, ?_⟩
      refine wpAnyH_end (P := Tryz.prog) (by kernel_rfl) ?_
      go_wp2_with fail
      go_meet
      refine ⟨_, .slice aoC syms.length cC, rfl, hid ⟨HW1.out.trans (hS5.mono HW1.out.size), HB1.out.ext hS5, HB2.out.ext hS5, ?_, HO.out.chg cc HSO.out, OwnR.nil _ _ _ _ _, l2⟩⟩
      exact ((HB4.out.set 0 _).set 1 _).set 2 _
  case rest =>
    obtain ⟨b7, vS', rfl, HA⟩ := hcut
    have e0 : wc.cell? ⟨w.heap.size, 0, none⟩ = some (.slice aoK n cK) := HA.out.box.cell rfl
    have l0 := HA.out.box.lt
    go_wp2_with fail
    go_loopg [18] n (fun g u wr => ∃ j vFin, g = n - j ∧ j ≤ n ∧ u = .int .i64 j ∧ Hid (AutoW w wr (.slice aoK n cK) (.slice aoN us.length cN) (.slice aoF fr.length cF) vS' vFin 89 b7 syms ((ks.take j).map p)))
    case atStart => exact ⟨0, _, rfl, Nat.zero_le _, rfl, by simpa using HA⟩
    case round =>
      clear HA e0 l0
      obtain ⟨j, vFin, rfl, hj, rfl, HW⟩ := hrel
      obtain ⟨fs, hfs⟩ : ∃ fs, fs = (ks.take j).map p := ⟨_, rfl⟩
      rw [← hfs] at HW
      have hfl : fs.length ≤ 1000 := by rw [hfs]; simp; omega
      have HFS := hid hfs
      clear hfs
      by_cases hlt : j < n
      · obtain ⟨gK, oK, rfl⟩ := hK2 (by omega)
        obtain ⟨k, hk⟩ : ∃ k, ks[j]? = some k := ⟨_, List.getElem?_eq_getElem (by rw [← HNN.out]; exact hlt)⟩
        have c1 : wr.cell? ⟨gK, oK + j, none⟩ = some (.int .i64 k) := (HK.out.ext HW.out.ext).cell1 hk
        have HKK := hid hk
        clear hk
        go_upto_region 5 with fail
        obtain ⟨wz, hwz⟩ : ∃ u, u = wr := ⟨_, rfl⟩
        subst hwz
        have HWZ := hid HW.out
        have hmem := hid (List.mem_of_getElem? HKK.out)
        have z2 : wz.cell? ⟨b7, 2, none⟩ = some vFin := HWZ.out.dfa.cell rfl
        have zl := HWZ.out.dfa.lt
        have hS0 : wz.heap.size ≤ wz.drew.heap.size := Nat.le_refl _
        have HCALL := hid (HF.out k wz.drew hmem.out (HWZ.out.ext.drew))
        clear HW c1
        refine wp_region_heldL (fun w' => wz.heap.size ≤ w'.heap.size) (by kernel_rfl) ?_
        refine wpAnyH_takeK 0 8 #[true, false, false, false, false, false, false, false, false] rfl (by kernel_rfl) rfl (.pointer (some ⟨b7, 2, none⟩)) (fun _ _ _ h => h) (Or.inl ⟨rfl, fun w' hS => ?_⟩) hS0 ?_
        · go_simp <;> with_reducible rfl
        refine wpAnyH_takeK 2 7 #[true, false, true, false, false, false, false, false, false] rfl (by kernel_rfl) rfl (.func (.func f) bs caps) (fun _ _ _ h => h) (Or.inl ⟨rfl, fun w' hS => ?_⟩) hS0 ?_
        · go_simp <;> with_reducible rfl
        refine wpAnyH_takeK 3 6 #[true, false, true, true, false, false, false, false, false] rfl (by kernel_rfl) rfl (.int .i64 k) (fun _ _ _ h => h) (Or.inl ⟨rfl, fun w' hS => ?_⟩) hS0 ?_
        · go_simp <;> with_reducible rfl
        refine wpAnyH_two 1 4 5 #[true, true, true, true, false, false, false, false, false] #[true, false, true, true, true, false, false, false, false] rfl rfl (by kernel_rfl) rfl ?_ ?_
        · go_wp2_with fail
          refine ⟨hS0, ?_⟩
          refine wpAnyH_one 4 4 #[true, true, true, true, true, false, false, false, false] rfl (by kernel_rfl) rfl ?_
          go_wp2_with (with_reducible show wpList _ _ _ ((⟨some 26, _, _, _, _, _⟩ : Oper) :: _) _ _
                       go_loud (refine wpList_callb (args := #[.int .i64 (k : Nat)]) rfl (.tmp 24) #[.tmp 25] #[3] rfl HEN.out rfl rfl HCALL.out ?_)
                       rintro e w4 ⟨rfl, hx⟩
                       refine ⟨_, rfl, ?_⟩
                       have hE4 : Ext wz w4 := (Below.refl wz.heap.size wz).drew.trans (hx.mono (by simp))
                       have HE4 := hid hE4
                       clear hx hE4)
          refine ⟨HE4.out.size, ?_⟩
          refine wpAnyH_one 5 3 #[true, true, true, true, true, true, false, false, false] rfl (by kernel_rfl) rfl ?_
          go_wp2_with fail
          refine ⟨(by have := HE4.out.size; simp; omega), ?_⟩
          have HW4 := hid (HWZ.out.ext' HE4.out)
          have HOW4 := hid HW4.out.fin
          have hsz4 := HW4.out.ext.size
          have hln : fs.length + 1 ≤ 1000000000 := by omega
          refine wpAnyH_one 6 2 #[true, true, true, true, true, true, true, false, false] rfl (by kernel_rfl) rfl ?_
          go_wp2_with (with_reducible show wpList _ _ _ ((⟨some 28, _, _, _, _, _⟩ : Oper) :: _) _ _
                       go_loud (refine wpList_append_R elem_bool (fun _ => rfl) ones_bool HOW4 hsz4 hln (p k) _ rfl w4.heap.size rfl rfl _ _ rfl rfl rfl ?_)
                       rintro g' c' v' w6 rfl G1 G2)
          have P6 := HW4.out.app (by decide) rfl G1.out G2.out.1 G2.out.2
          have y2 : w6.cell? ⟨b7, 2, none⟩ = some vFin := P6.1.cell rfl
          have yf := P6.1.frozen
          have yl := P6.1.lt
          have HP6 := hid P6.2
          have hz6 : wz.heap.size ≤ w6.heap.size := Nat.le_trans HE4.out.size G2.out.1.size
          clear P6
          refine ⟨hz6, ?_⟩
          refine wpAnyH_one 7 1 #[true, true, true, true, true, true, true, true, false] rfl (by kernel_rfl) rfl ?_
          go_wp2_with fail
          refine ⟨hz6, ?_⟩
          refine wpAnyH_one 8 0 #[true, true, true, true, true, true, true, true, true] rfl (by kernel_rfl) rfl ?_
          go_wp2_with fail
          refine ⟨by simpa [World.setCell] using hz6, ?_⟩
          refine wpAnyH_end (P := Tryz.prog) (by kernel_rfl) ?_
          go_wp2_with fail
          go_roundg (n - (j + 1))
          case measure => omega
          case rel =>
            refine ⟨j + 1, .slice (some ⟨g', 0, none⟩) (fs.length + 1) c', rfl, by omega, by go_num, ?_⟩
            have e1 : (ks.take (j + 1)).map p = (ks.take j).map p ++ [p k] := by
              obtain ⟨h2, h3⟩ := List.getElem?_eq_some_iff.1 HKK.out
              rw [List.take_succ_eq_append_getElem h2, List.map_append, h3]; rfl
            rw [e1, ← HFS.out]
            exact HP6
        · go_wp2_with (with_reducible show wpList _ _ _ ((⟨some 26, _, _, _, _, _⟩ : Oper) :: _) _ _
                       go_loud (refine wpList_callb (args := #[.int .i64 (k : Nat)]) rfl (.tmp 24) #[.tmp 25] #[3] rfl HEN.out rfl rfl HCALL.out ?_)
                       rintro e w4 ⟨rfl, hx⟩
                       refine ⟨_, rfl, ?_⟩
                       have hE4 : Ext wz w4 := (Below.refl wz.heap.size wz).drew.trans (hx.mono (by simp))
                       have HE4 := hid hE4
                       clear hx hE4)
          have z4 : w4.cell? ⟨b7, 2, none⟩ = some vFin := (HWZ.out.dfa.ext HE4.out).cell rfl
          have zl4 := (HWZ.out.dfa.ext HE4.out).lt
          refine ⟨HE4.out.size, ?_⟩
          refine wpAnyH_two 1 5 4 #[true, true, true, true, true, false, false, false, false] #[true, false, true, true, true, true, false, false, false] rfl rfl (by kernel_rfl) rfl ?_ ?_
          · go_wp2_with fail
            refine ⟨HE4.out.size, ?_⟩
            refine wpAnyH_one 5 3 #[true, true, true, true, true, true, false, false, false] rfl (by kernel_rfl) rfl ?_
            go_wp2_with fail
            refine ⟨(by have := HE4.out.size; simp; omega), ?_⟩
            have HW4 := hid (HWZ.out.ext' HE4.out)
            have HOW4 := hid HW4.out.fin
            have hsz4 := HW4.out.ext.size
            have hln : fs.length + 1 ≤ 1000000000 := by omega
            refine wpAnyH_one 6 2 #[true, true, true, true, true, true, true, false, false] rfl (by kernel_rfl) rfl ?_
            go_wp2_with (with_reducible show wpList _ _ _ ((⟨some 28, _, _, _, _, _⟩ : Oper) :: _) _ _
                         go_loud (refine wpList_append_R elem_bool (fun _ => rfl) ones_bool HOW4 hsz4 hln (p k) _ rfl w4.heap.size rfl rfl _ _ rfl rfl rfl ?_)
                         rintro g' c' v' w6 rfl G1 G2)
            have P6 := HW4.out.app (by decide) rfl G1.out G2.out.1 G2.out.2
            have y2 : w6.cell? ⟨b7, 2, none⟩ = some vFin := P6.1.cell rfl
            have yf := P6.1.frozen
            have yl := P6.1.lt
            have HP6 := hid P6.2
            have hz6 : wz.heap.size ≤ w6.heap.size := Nat.le_trans HE4.out.size G2.out.1.size
            clear P6
            refine ⟨hz6, ?_⟩
            refine wpAnyH_one 7 1 #[true, true, true, true, true, true, true, true, false] rfl (by kernel_rfl) rfl ?_
            go_wp2_with fail
            refine ⟨hz6, ?_⟩
            refine wpAnyH_one 8 0 #[true, true, true, true, true, true, true, true, true] rfl (by kernel_rfl) rfl ?_
            go_wp2_with fail
            refine ⟨by simpa [World.setCell] using hz6, ?_⟩
            refine wpAnyH_end (P := Tryz.prog) (by kernel_rfl) ?_
            go_wp2_with fail
            go_roundg (n - (j + 1))
            case measure => omega
            case rel =>
              refine ⟨j + 1, .slice (some ⟨g', 0, none⟩) (fs.length + 1) c', rfl, by omega, by go_num, ?_⟩
              have e1 : (ks.take (j + 1)).map p = (ks.take j).map p ++ [p k] := by
                obtain ⟨h2, h3⟩ := List.getElem?_eq_some_iff.1 HKK.out
                rw [List.take_succ_eq_append_getElem h2, List.map_append, h3]; rfl
              rw [e1, ← HFS.out]
              exact HP6
          · go_wp2_with fail
            refine ⟨(by have := HE4.out.size; simp; omega), ?_⟩
            refine wpAnyH_one 1 3 #[true, true, true, true, true, true, false, false, false] rfl (by kernel_rfl) rfl ?_
            go_wp2_with fail
            refine ⟨(by have := HE4.out.size; simp; omega), ?_⟩
            have HW4 := hid (HWZ.out.ext' HE4.out)
            have HOW4 := hid HW4.out.fin
            have hsz4 := HW4.out.ext.size
            have hln : fs.length + 1 ≤ 1000000000 := by omega
            refine wpAnyH_one 6 2 #[true, true, true, true, true, true, true, false, false] rfl (by kernel_rfl) rfl ?_
            go_wp2_with (with_reducible show wpList _ _ _ ((⟨some 28, _, _, _, _, _⟩ : Oper) :: _) _ _
                         go_loud (refine wpList_append_R elem_bool (fun _ => rfl) ones_bool HOW4 hsz4 hln (p k) _ rfl w4.heap.size rfl rfl _ _ rfl rfl rfl ?_)
                         rintro g' c' v' w6 rfl G1 G2)
            have P6 := HW4.out.app (by decide) rfl G1.out G2.out.1 G2.out.2
            have y2 : w6.cell? ⟨b7, 2, none⟩ = some vFin := P6.1.cell rfl
            have yf := P6.1.frozen
            have yl := P6.1.lt
            have HP6 := hid P6.2
            have hz6 : wz.heap.size ≤ w6.heap.size := Nat.le_trans HE4.out.size G2.out.1.size
            clear P6
            refine ⟨hz6, ?_⟩
            refine wpAnyH_one 7 1 #[true, true, true, true, true, true, true, true, false] rfl (by kernel_rfl) rfl ?_
            go_wp2_with fail
            refine ⟨hz6, ?_⟩
            refine wpAnyH_one 8 0 #[true, true, true, true, true, true, true, true, true] rfl (by kernel_rfl) rfl ?_
            go_wp2_with fail
            refine ⟨by simpa [World.setCell] using hz6, ?_⟩
            refine wpAnyH_end (P := Tryz.prog) (by kernel_rfl) ?_
            go_wp2_with fail
            go_roundg (n - (j + 1))
            case measure => omega
            case rel =>
              refine ⟨j + 1, .slice (some ⟨g', 0, none⟩) (fs.length + 1) c', rfl, by omega, by go_num, ?_⟩
              have e1 : (ks.take (j + 1)).map p = (ks.take j).map p ++ [p k] := by
                obtain ⟨h2, h3⟩ := List.getElem?_eq_some_iff.1 HKK.out
                rw [List.take_succ_eq_append_getElem h2, List.map_append, h3]; rfl
              rw [e1, ← HFS.out]
              exact HP6
      · have h0 := HW.out.dfa
        have r0 := HW.out.res
        obtain ⟨aoC, cC, rfl, -⟩ := (OwnR.read HW.out.syms strC_size).form
        obtain ⟨aoG, cG, rfl, -⟩ := (OwnR.read HW.out.fin (fun _ => rfl)).form
        have k0 : wr.cell? ⟨b7, 0, none⟩ = some (.slice aoC syms.length cC) := h0.cell rfl
        have k1 : wr.cell? ⟨b7, 1, none⟩ = some (.slice aoN us.length cN) := h0.cell rfl
        have k2 : wr.cell? ⟨b7, 2, none⟩ = some (.slice aoG fs.length cG) := h0.cell rfl
        have kl := h0.lt
        have q0 : wr.cell? ⟨w.heap.size + 1, 0, none⟩ = some (.slice none 0 0) := r0.cell rfl
        have q1 : wr.cell? ⟨w.heap.size + 1, 1, none⟩ = some (.slice none 0 0) := r0.cell rfl
        have q2 : wr.cell? ⟨w.heap.size + 1, 2, none⟩ = some (.slice none 0 0) := r0.cell rfl
        have qf := r0.frozen
        have ql := r0.lt
        have HR0 := hid r0
        clear h0 r0
        go_wp2_with fail
        have h3 : Blk (((wr.setCell ⟨w.heap.size + 1, 0, none⟩ (.slice aoC syms.length cC)).setCell ⟨w.heap.size + 1, 1, none⟩ (.slice aoN us.length cN)).setCell ⟨w.heap.size + 1, 2, none⟩ (.slice aoG fs.length cG)) (w.heap.size + 1) 26 #[.slice aoC syms.length cC, .slice aoN us.length cN, .slice aoG fs.length cG] := ((HR0.out.set 0 _).set 1 _).set 2 _
        have cc : Chg (fun k => k = w.heap.size + 1) wr (((wr.setCell ⟨w.heap.size + 1, 0, none⟩ (.slice aoC syms.length cC)).setCell ⟨w.heap.size + 1, 1, none⟩ (.slice aoN us.length cN)).setCell ⟨w.heap.size + 1, 2, none⟩ (.slice aoG fs.length cG)) :=
          Chg.setCell (p := ⟨w.heap.size + 1, 2, none⟩) (S := fun k => k = w.heap.size + 1) (Chg.setCell (p := ⟨w.heap.size + 1, 1, none⟩) (S := fun k => k = w.heap.size + 1) (Chg.setCell (p := ⟨w.heap.size + 1, 0, none⟩) (S := fun k => k = w.heap.size + 1) (Chg.refl _ wr) rfl (.slice aoC syms.length cC)) rfl (.slice aoN us.length cN)) rfl (.slice aoG fs.length cG)
        refine bodyPost_ret (v := .agg #[.slice aoC syms.length cC, .slice aoN us.length cN, .slice aoG fs.length cG]) (results_cell_agg Tryz.results63 _ _ (w.heap.size + 1) 26 #[.slice aoC syms.length cC, .slice aoN us.length cN, .slice aoG fs.length cG] _ rfl h3 Tryz.underlying26 rfl (by kernel_rfl)) rfl ?_
        have d7 : Chg (fun k => w.heap.size ≤ k) wr _ := cc.mono fun k _ e => by omega
        have hX : Ext w _ := HW.out.ext.trans (d7.below HW.out.ext.size (fun k e => e))
        have hfs : fs = ks.map p := by rw [HFS.out, List.take_of_length_le (by rw [← HNN.out]; omega)]
        refine ⟨hX, _, _, rfl, HW.out.syms.chg cc fun g e e' => ?_, ?_⟩
        · obtain ⟨_, hb⟩ := own_block HW.out.syms e
          exact ne_of_blk HR0.out hb (by decide) e'.symm
        · rw [← hfs]
          refine HW.out.fin.chg cc fun g e e' => ?_
          obtain ⟨_, hb⟩ := own_block HW.out.fin e
          exact ne_of_blk HR0.out hb (by decide) e'.symm
end Go.Proofs.YtngpjagpeblbjaaGreatDoor
