/-
  A slice appended to an owned one; walks of slices.Grow at nil and slices.Concat.
  Plain law: words sorted, each once.
  Walk of union.
-/
import Derived.Test.YtngpjagpeblbjaaGreatDoorP17
import Derived.Lib.SlicesCompact
import Derived.Lib.RowBridge
import Derived.Test.YtngpjagpeblbjaaGreatDoorP16
import Derived.Test.YtngpjagpeblbjaaGreatDoorP03
namespace Go.Spy
open Go.RowKit Go.Proofs.YtngpjagpeblbjaaGreatDoor
section
variable {P : Program}
theorem addr_add (g k j : Nat) : (⟨g, k, none⟩ : Addr).add j = ⟨g, k + j, none⟩ := by unfold Addr.add; split <;> simp_all
theorem flat_news {α : Type} {w : World} {s : Nat} {f : α → Array Value} (hf : ∀ x, (f x).size = s) (hs : 0 < s) {g off c : Nat} {l : List α} (h : ReadR w s f (.slice (some ⟨g, off, none⟩) l.length c) l) :
 ∀ j u, (l.flatMap fun x => (f x).toList)[j]? = some u → w.cell? ((⟨g, off, none⟩ : Addr).add j) = some u := by
 intro j u hj
 have hjlt := (List.getElem?_eq_some_iff.1 hj).1
 rw [flat_len (fun x => (f x).toList) s (fun x => by simpa using hf x)] at hjlt
 have hq : j / s < l.length := Nat.div_lt_of_lt_mul (by rw [Nat.mul_comm]; exact hjlt)
 have hr : j % s < s := Nat.mod_lt _ hs
 have he : j = (j / s) * s + j % s := by rw [Nat.mul_comm]; exact (Nat.div_add_mod j s).symm
 have hx : l[j / s]? = some l[j / s] := List.getElem?_eq_getElem hq
 have h1 := flat_get (fun x => (f x).toList) s (fun x => by simpa using hf x) l (j / s) (j % s) hr
 rw [← he, hj, hx, Option.bind_some, Array.getElem?_toList] at h1
 have h2 := h.cell hx (k := j % s) hr
 rw [← he, ← h1] at h2
 rw [addr_add]; exact h2
theorem wpList_append_read {α : Type} {t e : TypeId} {s bytes : Nat} (E : ElemOk P t e s bytes) {f : α → Array Value} (hf : ∀ x, (f x).size = s) (h1 : ∀ x, Ones (f x)) {w0 : World} {base : Nat} {v : Value} {l : List α} (hown : Hid (OwnR w0 base e s f v l)) (hb : base ≤ w0.heap.size)
 {x2 : Value} {l2 : List α} (hr : Hid (ReadR w0 s f x2 l2)) (hn : l.length + l2.length ≤ 1000000000) {ops : Array Oper} {rest : List Oper} {o : Oper} {a : Act} {Q : Exit → Act → World → Prop} (hgd : o.guard = none) (so xo : Operand)
 (ho : o.op = .call { callee := .builtin .append, args := #[so, xo], argTypes := #[t, t] }) (hs : a.eval so = v) (hx : a.eval xo = x2)
 (hK : ∀ (v' : Value) (w4 : World), Hid (OwnR w4 base e s f v' (l ++ l2)) → Hid (w0.grownBy w4 v.ownBlock) → wpList P ops Q rest (a.put o.dst v') w4) :
 wpList P ops Q (o :: rest) a w0 := by
 obtain ⟨i, z, hi, hz, hz1, hz2, hz3⟩ := E.info
 obtain ⟨ao, c, rfl, hao⟩ := hr.out.form
 have key : ∃ v' w', (Builtin.append_ #[t, t] o.type #[v, .slice ao l2.length c]).run P w0 = .ok v' w' ∧ OwnR w' base e s f v' (l ++ l2) ∧ w0.grownBy w' v.ownBlock := by
  have hbytes : (l.length + l2.length) * bytes ≤ 140737488355328 := by
   have := E.small
   have : (l.length + l2.length) * bytes ≤ 1000000000 * 4096 := Nat.mul_le_mul hn this
   omega
  rcases Nat.eq_zero_or_pos l2.length with h0 | h0
  ·obtain rfl := List.eq_nil_of_length_eq_zero h0
   refine ⟨v, w0, ?_, by rw [List.append_nil]; exact hown.out, World.grownBy.refl _ _⟩
   rcases hown.out.2 with ⟨rfl, h2⟩ | ⟨g, cap, cur, rfl, hbg, hg, hnc, hcm, hcs, ht⟩
   ·cases ao with
    | none => simp [Builtin.append_, run_underlying E.under, sizeOf, typeInfo, hi, Builtin.lenOf, Builtin.firstCells]
    | some p =>
      have hload : (loadCells p 0).run P w0 = .ok #[] w0 := run_loadCells_list (P := P) w0 p [] (by simp)
      simp [Builtin.append_, run_underlying E.under, sizeOf, typeInfo, hi, Builtin.lenOf, Builtin.firstCells, hload]
   ·cases ao with
    | none => simp [Builtin.append_, run_underlying E.under, sizeOf, typeInfo, hi, Builtin.lenOf, Builtin.firstCells, hnc, storeCells]
    | some p =>
      have hload : (loadCells p 0).run P w0 = .ok #[] w0 := run_loadCells_list (P := P) w0 p [] (by simp)
      simp [Builtin.append_, run_underlying E.under, sizeOf, typeInfo, hi, Builtin.lenOf, Builtin.firstCells, hnc, hload, storeCells]
  ·obtain ⟨g, off, rfl⟩ := hao h0
   obtain ⟨v', w', hrun, h2, h3, _, _⟩ := run_append_own_at (P := P) w0 base t o.type e i z s bytes E.under hi hz hz1 hz2 hz3 E.pos v l.length _ hown.out ⟨g, off, none⟩ l2.length c (l2.flatMap fun x => (f x).toList) (flat_len _ s (fun x => by simpa using hf x) l2) (flat_news hf E.pos hr.out)
    (fun u hu => by
      rw [List.mem_flatMap] at hu
      obtain ⟨x, _, hux⟩ := hu
      exact h1 x u (by simpa using hux)) (by unfold maxLen; omega) hbytes hb
   refine ⟨v', w', hrun, ?_, h3⟩
   unfold OwnR
   rw [List.flatMap_append, List.length_append]
   exact h2
 obtain ⟨v', w', hrun, h2, h3⟩ := key
 refine wpList_plain hgd fun K hK' => ?_
 unfold Oper.wp execOp
 simp only [ho, resolve, invoke, builtin, Sem.run_bind, Sem.run_pure, Result.andThen_ok, List.map_toArray, List.map_cons, List.map_nil, hs, hx, hrun]
 exact hK' _ _ (hK v' w' (hid h2) (hid h3))
end
end Go.Spy
namespace Go.Proofs.YtngpjagpeblbjaaGreatDoor
open Go.RowKit Go.Spy Go.Heaped Go.Tour Go.Rx
def GrowPost (w : World) (e : Ending) (w' : World) : Prop := Ext w w' ∧ ∃ v, e = .returned v ∧ OwnR w' w.heap.size 9 1 strC v []
theorem bytes9 : Tryz.t9.bytes = 16 := by kernel_rfl
set_option maxRecDepth 100000 in
set_option maxHeartbeats 1000000 in
theorem grow_any (n : Nat) (hn : n ≤ 100000) (w : World) : Calls Tryz.prog 128 #[.slice none 0 0, .int .i64 n] w (GrowPost w) := by
 by_cases h0 : n = 0
 ·subst h0
  go_enter Tryz.func128, Tryz.ntmps128
  go_wp2_with fail
  go_ret
  exact ⟨Below.refl _ _, _, rfl, OwnR.nil _ _ _ _ _⟩
 ·have hpos : 0 < n := by omega
  have hb1 : ¬ 281474976710656 < (n : Int) * (Tryz.t9.bytes : Int) := by rw [bytes9]; omega
  have hb2 : ¬ 281474976710656 < Builtin.nextslicecap n 0 * Tryz.t9.bytes := by rw [bytes9, nextslicecap_zero hpos]; omega
  go_enter Tryz.func128, Tryz.ntmps128
  go_wp2_with fail
  go_ret
  have hg := grownCap_ge w n 0 9
  have hm := grownCap_le_maxLen w n 0 9 (by unfold maxLen; omega)
  unfold grownCap at hg hm
  refine ⟨Below.drew ((Below.refl _ _).alloc (Nat.le_refl _) _), _, rfl, ?_⟩
  refine ⟨by simp, .inr ⟨w.heap.size, _, _, rfl, Nat.le_refl _, heap_alloc_new w _, by simp, hm, ?_, by simp⟩⟩
  simp [Builtin.zeroCells]
  omega
def CatPost (l : List ByteArray) (w : World) (e : Ending) (w' : World) : Prop := Ext w w' ∧ ∃ v, e = .returned v ∧ OwnR w' w.heap.size 9 1 strC v l
set_option maxRecDepth 100000 in
set_option maxHeartbeats 1000000 in
theorem concat_any {w : World} {x : Value} {us : List Value} {ls : List (List ByteArray)} (hX : ReadR w 1 oneA x us) (hl : us.length = ls.length) (hs : ls.length ≤ 10) (hR : ∀ (i : Nat) (u : Value) (l : List ByteArray), us[i]? = some u → ls[i]? = some l → ReadR w 1 strC u l) (hn : ∀ l ∈ ls, l.length ≤ 1000) :
 Calls Tryz.prog 101 #[x] w (CatPost ls.flatten w) := by
 obtain ⟨ao, cx, rfl, hao⟩ := hX.form
 obtain ⟨n, hnn⟩ : ∃ n, n = us.length := ⟨_, rfl⟩
 have HX := hid hX
 rw [← hnn] at HX ⊢ hao
 have HN := hid hnn
 have HL := hid hl
 have HS : Hid (n = ls.length) := hid (hnn.trans hl)
 have HR := hid hR
 have HB := hid hn
 have hn10 : n ≤ 10 := by rw [hnn, hl]; exact hs
 clear hX hnn hl hR hn hs
 have tot : Hid (∀ k, k ≤ 10 → (ls.take k).flatten.length ≤ 1000 * k) := hid (fun k hk => by
  clear hk
  induction k with
  | zero => simp
  | succ k ih =>
    rcases Nat.lt_or_ge k ls.length with h | h
    ·rw [List.take_succ_eq_append_getElem h, List.flatten_append, List.length_append]
     have := HB.out _ (List.getElem_mem h)
     rw [show ([ls[k]] : List (List ByteArray)).flatten = ls[k] by simp]
     omega
    ·rw [List.take_of_length_le (by omega)]
     rw [List.take_of_length_le h] at ih
     omega)
 go_enter Tryz.func101, Tryz.ntmps101
 go_wp2_with fail
 go_loopg [3, 11] n (fun g s u wr => ∃ k, g = n - k ∧ k ≤ n ∧ wr = w ∧ s = .int .i64 ((ls.take k).flatten.length : Nat) ∧ u = .int .i64 k)
 case atStart => exact ⟨0, rfl, Nat.zero_le _, rfl, by simp, rfl⟩
 case round =>
  obtain ⟨k, rfl, hk, rfl, rfl, rfl⟩ := hrel
  obtain ⟨wo, hwo⟩ : ∃ u, u = wr := ⟨_, rfl⟩
  subst hwo
  obtain ⟨T, hT⟩ : ∃ T, T = (ls.take k).flatten.length := ⟨_, rfl⟩
  have htk := tot.out k (by omega)
  rw [← hT] at htk ⊢
  have HT := hid hT
  clear hT
  by_cases hlt : k < n
  ·obtain ⟨b, off, rfl⟩ := hao (by omega)
   obtain ⟨l, hl⟩ : ∃ l, ls[k]? = some l := ⟨_, List.getElem?_eq_getElem (by rw [← HS.out]; exact hlt)⟩
   obtain ⟨u, hu⟩ : ∃ u, us[k]? = some u := ⟨_, List.getElem?_eq_getElem (by rw [← HN.out]; exact hlt)⟩
   obtain ⟨ao2, c2, rfl, -⟩ := (HR.out k u l hu hl).form
   obtain ⟨m, hm⟩ : ∃ m, m = l.length := ⟨_, rfl⟩
   have hm1 : m ≤ 1000 := hm ▸ HB.out l (List.mem_of_getElem? hl)
   have c1 : wo.cell? ⟨b, off + k, none⟩ = some (.slice ao2 m c2) := by rw [hm]; exact HX.out.cell1 hu
   have hT2 : (ls.take (k + 1)).flatten.length = T + m := by
    have h1 := (List.getElem?_eq_some_iff.1 hl)
    obtain ⟨h2, h3⟩ := h1
    rw [List.take_succ_eq_append_getElem h2, List.flatten_append, List.length_append, h3, HT.out, hm]; simp
   have HT2 := hid hT2
   have d0 : decide (((T : Int) + (m : Int)) < 0) = false := decide_eq_false (by omega)
   clear hl hu hm hT2
   go_wp2_with fail
   go_roundg (n - (k + 1))
   case measure => omega
   case rel => exact ⟨k + 1, rfl, by omega, rfl, by rw [HT2.out]; go_num, by go_num⟩
  ·have hTn : T ≤ 100000 := by omega
   go_wp2_with fail
   go_at_call 128
   refine (grow_any T hTn _).mono ?_
   rintro e w2 ⟨hx, v, rfl, hO⟩
   have HX2 := hid hx
   have HO := hid hO
   clear hx hO
   go_wp2_with fail
   go_loopg [6, 27] n (fun g v u wr => ∃ k, g = n - k ∧ k ≤ n ∧ u = .int .i64 k ∧ Hid (OwnR wr wo.heap.size 9 1 strC v (ls.take k).flatten) ∧ Hid (Ext wo wr))
   case atStart => exact ⟨0, rfl, Nat.zero_le _, rfl, HO, HX2⟩
   case round =>
    clear HO HX2 htk HT hTn
    obtain ⟨k, rfl, hk2, rfl, HO, HE⟩ := hrel
    by_cases hlt2 : k < n
    ·obtain ⟨b, off, rfl⟩ := hao (by omega)
     obtain ⟨l, hl⟩ : ∃ l, ls[k]? = some l := ⟨_, List.getElem?_eq_getElem (by rw [← HS.out]; exact hlt2)⟩
     obtain ⟨u, hu⟩ : ∃ u, us[k]? = some u := ⟨_, List.getElem?_eq_getElem (by rw [← HN.out]; exact hlt2)⟩
     obtain ⟨ao2, c2, rfl, -⟩ := (HR.out k u l hu hl).form
     have c1 : wr.cell? ⟨b, off + k, none⟩ = some (.slice ao2 l.length c2) := (HX.out.ext HE.out).cell1 hu
     have HRL := hid ((HR.out k _ l hu hl).ext HE.out)
     have hsz := HE.out.size
     have hlen : (ls.take k).flatten.length + l.length ≤ 1000000000 := by
      have := tot.out k (by omega)
      have := HB.out l (List.mem_of_getElem? hl)
      omega
     have HT2 : Hid ((ls.take (k + 1)).flatten = (ls.take k).flatten ++ l) := hid (by
      have h1 := (List.getElem?_eq_some_iff.1 hl)
      obtain ⟨h2, h3⟩ := h1
      rw [List.take_succ_eq_append_getElem h2, List.flatten_append, h3]; simp)
     clear hl hu
     go_wp2_with (first
      | (at_builtin
         go_loud (refine wpList_append_read elem_str strC_size ones_strC HO hsz HRL hlen rfl (.tmp 31) (.tmp 32) rfl rfl rfl ?_)
         intro v' w4 H1 H2))
     go_roundg (n - (k + 1))
     case measure => omega
     case rel => exact ⟨k + 1, rfl, by omega, by go_num, hid (by rw [HT2.out]; exact H1.out), hid (ext_grown HE.out H2.out (fun i hi => (HO.out.lt i hi).1))⟩
    ·go_wp2_with fail
     go_ret
     refine ⟨HE.out, _, rfl, ?_⟩
     have := HO.out
     rw [List.take_of_length_le (by rw [← HS.out]; omega)] at this
     exact this
end Go.Proofs.YtngpjagpeblbjaaGreatDoor
namespace Go.Spy
open Go.Lib
theorem lt_of_le_ne {a b : List UInt8} (h : a ≤ b) (hn : a ≠ b) : a < b := by
 rcases Decidable.em (a < b) with h1 | h1
 ·exact h1
 ·exact absurd (List.le_antisymm h (List.not_lt.1 h1)) hn
theorem compactUpTo_sorted {d : Array (List UInt8)} (hs : ∀ i j, i ≤ j → j < d.size → d[i]! ≤ d[j]!) : ∀ m, m ≤ d.size → (compactUpTo d m).Pairwise (· < ·) ∧ ∀ x, x ∈ compactUpTo d m ↔ ∃ j, j < m ∧ d[j]! = x
 | 0, _ => ⟨by simp [compactUpTo], fun x => by simp [compactUpTo]⟩
 | m + 1, hm => by
   obtain ⟨h1, h2⟩ := compactUpTo_sorted hs m (by omega)
   rw [compactUpTo_succ]
   by_cases hk : keeps d m = true
   ·rw [if_pos hk]
    refine ⟨?_, fun x => ?_⟩
    ·rw [List.pairwise_append]
     refine ⟨h1, by simp, fun x hx y hy => ?_⟩
     rw [List.mem_singleton] at hy
     subst hy
     obtain ⟨j, hj, rfl⟩ := (h2 x).1 hx
     have hm0 : 0 < m := by omega
     have hne : d[m - 1]! ≠ d[m]! := by
      intro e
      have := keeps_neg hm0 e.symm
      rw [hk] at this; cases this
     have h3 := lt_of_le_ne (hs (m - 1) m (by omega) (by omega)) hne
     have h4 := hs j (m - 1) (by omega) (by omega)
     rcases Decidable.em (d[j]! = d[m - 1]!) with e | e
     ·rw [e]; exact h3
     ·exact List.lt_trans (lt_of_le_ne h4 e) h3
    ·simp only [List.mem_append, List.mem_singleton, h2]
     constructor
     ·rintro (⟨j, hj, rfl⟩ | rfl)
      ·exact ⟨j, by omega, rfl⟩
      ·exact ⟨m, by omega, rfl⟩
     ·rintro ⟨j, hj, rfl⟩
      rcases Nat.lt_or_ge j m with e | e
      ·exact .inl ⟨j, e, rfl⟩
      ·obtain rfl : j = m := by omega
       exact .inr rfl
   ·rw [if_neg hk, List.append_nil]
    refine ⟨h1, fun x => ?_⟩
    rw [h2]
    have hm0 : 0 < m := by
     rcases Nat.eq_zero_or_pos m with e | e
     ·subst e; exact absurd (keeps_lt_one d 0 (by decide)) hk
     ·exact e
    have heq : d[m]! = d[m - 1]! := by
     rcases Decidable.em (d[m]! = d[m - 1]!) with e | e
     ·exact e
     ·exact absurd (keeps_pos e) hk
    constructor
    ·rintro ⟨j, hj, rfl⟩; exact ⟨j, by omega, rfl⟩
    ·rintro ⟨j, hj, rfl⟩
     rcases Nat.lt_or_ge j m with e | e
     ·exact ⟨j, e, rfl⟩
     ·obtain rfl : j = m := by omega
      exact ⟨j - 1, by omega, heq.symm⟩
theorem srt_sorted (ss : List (List UInt8)) : (srt ss).Pairwise (· < ·) ∧ ∀ x, x ∈ srt ss ↔ x ∈ ss := by
 have tr : ∀ a b c : List UInt8, decide (a ≤ b) = true → decide (b ≤ c) = true → decide (a ≤ c) = true := fun a b c h k => by
  simp only [decide_eq_true_eq] at *
  exact List.le_trans h k
 have tot : ∀ a b : List UInt8, (decide (a ≤ b) || decide (b ≤ a)) = true := fun a b => by
  simp only [Bool.or_eq_true, decide_eq_true_eq]
  exact List.le_total a b
 have s1 := List.pairwise_mergeSort tr tot ss
 obtain ⟨l, hl⟩ : ∃ l, l = ss.mergeSort fun x y => decide (x ≤ y) := ⟨_, rfl⟩
 have hm : ∀ x, x ∈ l ↔ x ∈ ss := fun x => by rw [hl]; exact (List.mergeSort_perm ss _).mem_iff
 rw [← hl] at s1
 unfold srt
 rw [← hl]
 have hg : ∀ j, (h : j < l.length) → l.toArray[j]! = l[j] := fun j h => by simp [h]
 obtain ⟨h1, h2⟩ := compactUpTo_sorted (d := l.toArray) (fun i j hij hj => by
  have hj' : j < l.length := by simpa using hj
  rw [hg i (by omega), hg j hj']
  rcases Nat.lt_or_ge i j with e | e
  ·have := List.pairwise_iff_getElem.1 s1 i j (by omega) hj' e
   simpa using this
  ·obtain rfl : i = j := by omega
   exact List.le_refl _) l.length (by simp)
 refine ⟨h1, fun x => ?_⟩
 rw [← hm x]
 refine (h2 x).trans ?_
 constructor
 ·rintro ⟨j, hj, rfl⟩
  rw [hg j hj]; exact List.getElem_mem _
 ·intro hx
  obtain ⟨j, hj, rfl⟩ := List.getElem_of_mem hx
  exact ⟨j, hj, hg j hj⟩
end Go.Spy
namespace Go.Proofs.YtngpjagpeblbjaaGreatDoor
open Go.RowKit Go.Spy Go.Heaped Go.Tour Go.Rx
def sortW (l : List ByteArray) : List ByteArray := (srt (l.map bl)).map fun x => ⟨x.toArray⟩
theorem bl_mk (x : List UInt8) : bl ⟨x.toArray⟩ = x := rfl
theorem mk_bl (s : ByteArray) : (⟨(bl s).toArray⟩ : ByteArray) = s := bs_self s
theorem toList_bl (s : ByteArray) : s.toList = bl s := by
 obtain ⟨⟨x⟩⟩ := s
 rw [ByteArray.toList_mk]; rfl
theorem sortW_bl (l : List ByteArray) : (sortW l).map bl = srt (l.map bl) := by
 unfold sortW
 rw [List.map_map]
 conv => rhs; rw [← List.map_id (srt (l.map bl))]
 exact List.map_congr_left fun x _ => bl_mk x
theorem sortW_mem (l : List ByteArray) (x : ByteArray) : x ∈ sortW l ↔ x ∈ l := by
 unfold sortW
 rw [List.mem_map]
 constructor
 ·rintro ⟨y, hy, rfl⟩
  obtain ⟨z, hz, rfl⟩ := List.mem_map.1 (((srt_sorted _).2 y).1 hy)
  rw [mk_bl]; exact hz
 ·intro hx
  exact ⟨bl x, ((srt_sorted _).2 _).2 (List.mem_map.2 ⟨x, hx, rfl⟩), mk_bl x⟩
theorem sortW_rising (l : List ByteArray) : Rising (sortW l) := by
 have h := (srt_sorted (l.map bl)).1
 unfold Rising sortW
 rw [List.pairwise_map]
 refine h.imp fun {a b} hab => ?_
 rw [ltB_iff, toList_bl, toList_bl, bl_mk, bl_mk]
 exact hab
theorem sortW_len (l : List ByteArray) : (sortW l).length ≤ l.length := by
 have := srt_len (l.map bl)
 unfold sortW
 simpa using this
end Go.Proofs.YtngpjagpeblbjaaGreatDoor
namespace Go.Proofs.YtngpjagpeblbjaaGreatDoor
open Go.RowKit Go.Spy Go.Heaped Go.Tour Go.Rx
set_option maxRecDepth 100000 in
theorem union_any {w : World} {vA vB : Value} {a b : List ByteArray} (hA : ReadR w 1 strC vA a) (hB : ReadR w 1 strC vB b) (ha : a.length ≤ 1000) (hb : b.length ≤ 1000) : Calls Tryz.prog 45 #[vA, vB] w (CatPost (sortW (a ++ b)) w) := by
 obtain ⟨aoA, cA, rfl, -⟩ := hA.form
 obtain ⟨aoB, cB, rfl, -⟩ := hB.form
 obtain ⟨w1, hw1⟩ : ∃ u, u = w.alloc (.cells #[.slice aoA a.length cA, .slice aoB b.length cB] 22) := ⟨_, rfl⟩
 have hE : Ext w w1 := hw1 ▸ (Below.refl _ _).alloc (Nat.le_refl _) _
 have hb1 : Blk w1 w.heap.size 22 #[.slice aoA a.length cA, .slice aoB b.length cB] := hw1 ▸ Blk.new _ _ _
 have HC := hid (concat_any (w := w1) (x := .slice (some ⟨w.heap.size, 0, none⟩) 2 2) (us := [.slice aoA a.length cA, .slice aoB b.length cB]) (ls := [a, b])
  ⟨_, _, rfl, .inr ⟨_, _, rfl, hb1.lt, fun j k x hx hk => by
   obtain rfl : k = 0 := by omega
   match j, hx with
   | 0, hx => cases hx; exact hb1.cell rfl
   | 1, hx => cases hx; exact hb1.cell rfl
   | j + 2, hx => simp at hx⟩⟩ rfl (by simp) (fun i u l hu hl => by
   match i, hu, hl with
   | 0, hu, hl => cases hu; cases hl; exact hA.ext hE
   | 1, hu, hl => cases hu; cases hl; exact hB.ext hE
   | i + 2, hu, _ => simp at hu) (fun l hl => by
   simp only [List.mem_cons, List.not_mem_nil, or_false] at hl
   rcases hl with rfl | rfl <;> assumption))
 have HE := hid hE
 have HW := hid hw1
 clear hE hb1 hw1 hA hB
 go_enter Tryz.func45, Tryz.ntmps45
 go_wp2_with fail
 rw [← HW.out]
 refine HC.out.mono ?_
 rintro e w2 ⟨hx, v, rfl, hO⟩
 have hO' : OwnR w2 w1.heap.size 9 1 strC v (a ++ b) := by
  have : [a, b].flatten = a ++ b := by simp
  rw [this] at hO; exact hO
 have HX := hid (HE.out.trans (hx.mono HE.out.size))
 have HS := hid (sort_compact (own_bl.1 (hO'.lower HE.out.size)) (by simp; omega) HX.out.size)
 clear hO hO' hx
 go_wp2_with fail
 refine HS.out.mono ?_
 rintro e w3 ⟨rfl, hc⟩
 have HCC := hid hc
 clear hc
 go_wp2_with fail
 refine HCC.out.mono ?_
 rintro e w4 ⟨v4, rfl, hO4, hb4⟩
 have HO : Hid (OwnR w4 w.heap.size 9 1 strC v4 (sortW (a ++ b))) := hid (own_bl.2 (by rw [sortW_bl]; exact hO4))
 have HX4 := hid (HX.out.trans hb4)
 clear hO4 hb4
 go_wp2_with fail
 go_ret
 exact ⟨HX4.out, _, rfl, HO.out⟩
end Go.Proofs.YtngpjagpeblbjaaGreatDoor
