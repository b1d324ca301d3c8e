/-
  Walk of Text's second closure: the text of a node out of the texts of its parts.
-/
import Derived.Test.YtngpjagpeblbjaaDoorZR11
import Derived.Deep.RegionHeld3
namespace Go.Proofs.YtngpjagpeblbjaaDoor
open Go.RowKit Go.Spy Go.Rx

theorem isA_op {l : List Nd} (F : Rx.Form l) {i : Nat} {n : Nd} (hn : l[i]? = some n) : isA (tr l i) = decide (n.op = 4) ∧ isC (tr l i) = decide (n.op = 3) := by
  cases F.kind hn with
  | none ho => rw [tr_none hn ho, ho]; exact ⟨rfl, rfl⟩
  | empty ho => rw [tr_empty hn ho, ho]; exact ⟨rfl, rfl⟩
  | sym ho => rw [tr_sym hn ho, ho]; exact ⟨rfl, rfl⟩
  | cat ho s x y a b hx hy => rw [tr_cat hn ho a b hx hy, ho]; exact ⟨rfl, rfl⟩
  | alt ho s x y a b hx hy => rw [tr_alt hn ho a b hx hy, ho]; exact ⟨rfl, rfl⟩
  | star ho s x a b hx => rw [tr_star hn ho a hx, ho]; exact ⟨rfl, rfl⟩
theorem hasI_4 {l : List Nd} (F : Rx.Form l) {i : Nat} {n : Nd} (hn : l[i]? = some n) : hasI [4] n.op = isA (tr l i) := by rw [(isA_op F hn).1]; simp [hasI]
theorem hasI_43 {l : List Nd} (F : Rx.Form l) {i : Nat} {n : Nd} (hn : l[i]? = some n) : hasI [4, 3] n.op = (isA (tr l i) || isC (tr l i)) := by rw [(isA_op F hn).1, (isA_op F hn).2]; simp [hasI]
theorem hasI_34 {l : List Nd} (F : Rx.Form l) {i : Nat} {n : Nd} (hn : l[i]? = some n) : hasI [3, 4] n.op = (isA (tr l i) || isC (tr l i)) := by rw [(isA_op F hn).1, (isA_op F hn).2]; simp [hasI, Bool.or_comm]

/-- The state of Text when k texts are there. -/
structure TextW (w : World) (l : List Nd) (ao : Option Addr) (cap bR bT bF bt k : Nat) : Prop where
  nodes : NodesV w ao l
  rbox : Blk w bR 24 #[.slice ao l.length cap]
  tbox : Blk w bT 25 #[.slice (some ⟨bt, 0, none⟩) l.length l.length]
  fbox : w.cell? ⟨bF, 0, none⟩ = some (.func (.func 34) #[] #[.pointer (some ⟨bR, 0, none⟩), .pointer (some ⟨bT, 0, none⟩)])
  fl : bF < w.heap.size
  known : ∀ j, j < k → j < l.length → w.cell? ⟨bt, j, none⟩ = some (.string (bs (txt (tr l j))))
theorem TextW.ext {w w' : World} {l : List Nd} {ao : Option Addr} {cap bR bT bF bt k : Nat} (h : TextW w l ao cap bR bT bF bt k) (e : Ext w w') : TextW w' l ao cap bR bT bF bt k :=
  ⟨h.nodes.ext e, h.rbox.ext e, h.tbox.ext e, (e.cell (p := ⟨bF, 0, none⟩) h.fl).trans h.fbox, Nat.lt_of_lt_of_le h.fl e.size, fun j hj hl => (e.cell (p := ⟨bt, j, none⟩) (block_lt_of_cell (h.known j hj hl))).trans (h.known j hj hl)⟩

/-- A part's text, by the first closure. -/
theorem part1_call {w : World} {l : List Nd} {ao : Option Addr} {cap bR bT bF bt k : Nat} (h : TextW w l ao cap bR bT bF bt k) (hok : ∀ i, okT (tr l i)) (hsz : ∀ i, i < l.length → sizeT (tr l i) ≤ 1024) (hl : l.length ≤ 1024) {x : Nat} {n : Nd} (hx : x < k) (hn : l[x]? = some n) {v : Value} {ns : List Nat} (hv : NatsV w v ns) (hlen : ns.length ≤ 64) :
    Calls Tryd.prog 34 #[.int .i64 x, v, .pointer (some ⟨bR, 0, none⟩), .pointer (some ⟨bT, 0, none⟩)] w fun e w' => e = .returned (.string (parB (hasI ns n.op) (bs (txt (tr l x))))) ∧ w = w' := by
  have hlt := lt_of_some hn
  refine part1_any hn h.nodes (h.rbox.cell rfl) (h.tbox.cell rfl) (h.known x hx hlt) hlt hl hv hlen ?_
  rw [bs_size]
  have h1 := txt_len (hok x)
  have h2 := hsz x hlt
  omega

theorem nats_lit (w : World) (ns : List Nat) : NatsV (w.alloc (.cells (ns.map fun (k : Nat) => Value.int .i64 (k : Int)).toArray 3)) (.slice (some ⟨w.heap.size, 0, none⟩) ns.length ns.length) ns where
  out := by
    refine ⟨_, _, rfl, fun _ => ⟨w.heap.size, 0, rfl, by simp, fun i k hi => ?_⟩⟩
    rw [Nat.zero_add]
    refine (Blk.new w _ _).cell ?_
    simp [hi]
theorem nats_nil (w : World) : NatsV w (.slice none 0 0) [] := ⟨none, 0, rfl, fun h => by simp at h⟩

theorem nats_34 (w : World) {H : Nat} (hH : w.heap.size = H) : NatsV (w.alloc (.cells #[.int .i64 3, .int .i64 4] 3)) (.slice (some ⟨H, 0, none⟩) 2 2) [3, 4] := hH ▸ nats_lit w [3, 4]
theorem nats_43 (w : World) {H : Nat} (hH : w.heap.size = H) : NatsV (w.alloc (.cells #[.int .i64 4, .int .i64 3] 3)) (.slice (some ⟨H, 0, none⟩) 2 2) [4, 3] := hH ▸ nats_lit w [4, 3]
theorem nats_4 (w : World) {H : Nat} (hH : w.heap.size = H) : NatsV (w.alloc (.cells #[.int .i64 4] 3)) (.slice (some ⟨H, 0, none⟩) 1 1) [4] := hH ▸ nats_lit w [4]

theorem parB_size (b : Bool) (t : ByteArray) : (parB b t).size ≤ t.size + 2 := by
  cases b with
  | false => exact Nat.le_add_right _ _
  | true => show (⟨#[40]⟩ ++ t ++ ⟨#[41]⟩ : ByteArray).size ≤ _; rw [ByteArray.size_append, ByteArray.size_append]; show 1 + t.size + 1 ≤ _; omega
theorem part_size {l : List Nd} (hok : ∀ i, okT (tr l i)) (hsz : ∀ i, i < l.length → sizeT (tr l i) ≤ 1024) {x : Nat} (hx : x < l.length) (b : Bool) : (parB b (bs (txt (tr l x)))).size ≤ 1000000 := by
  have h1 := parB_size b (bs (txt (tr l x)))
  have h2 := txt_len (hok x)
  have h3 := hsz x hx
  rw [bs_size] at h1
  omega

def StrPost (x : ByteArray) (w : World) (e : Ending) (w' : World) : Prop := e = .returned (.string x) ∧ Ext w w'

set_option maxRecDepth 100000 in
set_option maxHeartbeats 2000000 in
theorem tell2_leaf {w : World} {l : List Nd} {ao : Option Addr} {cap bR bT bF bt k : Nat} (h : TextW w l ao cap bR bT bF bt k) {i : Nat} {n : Nd} (hn : l[i]? = some n) (ho : n.op = 0 ∨ n.op = 1 ∨ n.op = 2) :
    Calls Tryd.prog 36 #[.agg #[.int .i64 n.op, .string n.sym, .int .i64 n.a, .int .i64 n.b], .pointer (some ⟨bF, 0, none⟩)] w (StrPost (bs (txt (tr l i))) w) := by
  obtain ⟨op, sym, a, b⟩ := n
  dsimp only at ho ⊢
  have hbs : bs (sym.data.toList) = sym := by
    apply bytes_ext; rw [toL, toL]; simp [bs]
  rcases ho with rfl | rfl | rfl
  · have HT := hid (tr_none hn rfl)
    clear hn h
    go_enter Tryd.func36, Tryd.ntmps36
    go_wp2
    go_ret
    exact ⟨by rw [HT.out]; rfl, (Below.refl _ w).alloc (Nat.le_refl _) _⟩
  · have HT := hid (tr_empty hn rfl)
    clear hn h
    go_enter Tryd.func36, Tryd.ntmps36
    go_wp2
    go_ret
    exact ⟨by rw [HT.out]; rfl, (Below.refl _ w).alloc (Nat.le_refl _) _⟩
  · have HT := hid (tr_sym hn rfl)
    have HB := hid hbs
    clear hn h hbs
    go_enter Tryd.func36, Tryd.ntmps36
    go_wp2
    go_ret
    exact ⟨by rw [HT.out, txt, HB.out]; rfl, (Below.refl _ w).alloc (Nat.le_refl _) _⟩

set_option maxRecDepth 100000 in
set_option maxHeartbeats 2000000 in
theorem tell2_star {w : World} {l : List Nd} (F : Rx.Form l) {ao : Option Addr} {cap bR bT bF bt k : Nat} (h : TextW w l ao cap bR bT bF bt k) (hok : ∀ i, okT (tr l i)) (hsz : ∀ i, i < l.length → sizeT (tr l i) ≤ 1024) (hl : l.length ≤ 1024) {i : Nat} {n : Nd} (hn : l[i]? = some n) (ho : n.op = 5) {x : Nat} (ha : n.a = x) (hx : x < i) (hik : i ≤ k) :
    Calls Tryd.prog 36 #[.agg #[.int .i64 n.op, .string n.sym, .int .i64 n.a, .int .i64 n.b], .pointer (some ⟨bF, 0, none⟩)] w (StrPost (bs (txt (tr l i))) w) := by
  have hlt := lt_of_some hn
  obtain ⟨m, hm⟩ : ∃ m, l[x]? = some m := ⟨_, List.getElem?_eq_getElem (show x < l.length by omega)⟩
  have HT : Hid (bs (txt (tr l i)) = parB (hasI [3, 4] m.op) (bs (txt (tr l x))) ++ ⟨#[42]⟩) := hid (by rw [tr_star hn ho ha hx, txtB_star, hasI_34 F hm])
  obtain ⟨A, HA, zA⟩ : ∃ A : ByteArray, Hid (parB (hasI [3, 4] m.op) (bs (txt (tr l x))) = A) ∧ A.size ≤ 1000000 := ⟨_, hid rfl, part_size hok hsz (by omega) _⟩
  rw [HA.out] at HT
  obtain ⟨op, sym, a, b⟩ := n
  dsimp only at ho ha ⊢
  subst ho ha
  have c0 := h.fbox
  have fl := h.fl
  have fl1 : bF < w.heap.size + 1 := by omega
  have HH := hid h
  have HM := hid hm
  have HOK := hid hok
  have HSZ := hid hsz
  clear h hn hm hok hsz
  go_enter Tryd.func36, Tryd.ntmps36
  go_wp2_with fail
  refine (part1_call ((HH.out.ext ((Below.refl _ w).alloc (Nat.le_refl _) _)).ext ((Below.refl _ _).alloc (Nat.le_refl _) _)) HOK.out HSZ.out hl (by omega) HM.out (nats_34 _ (by simp)) (by decide)).mono ?_
  rintro e w2 ⟨rfl, rfl⟩
  rw [HA.out]
  go_wp2_with fail
  go_ret
  exact ⟨by rw [HT.out]; rfl, ((Below.refl _ w).alloc (Nat.le_refl _) _).alloc (by simp) _⟩

set_option maxRecDepth 100000 in
set_option maxHeartbeats 4000000 in
theorem tell2_cat {w : World} {l : List Nd} (F : Rx.Form l) {ao : Option Addr} {cap bR bT bF bt k : Nat} (h : TextW w l ao cap bR bT bF bt k) (hok : ∀ i, okT (tr l i)) (hsz : ∀ i, i < l.length → sizeT (tr l i) ≤ 1024) (hl : l.length ≤ 1024) {i : Nat} {n : Nd} (hn : l[i]? = some n) (ho : n.op = 3) {x y : Nat} (ha : n.a = x) (hb : n.b = y) (hx : x < i) (hy : y < i) (hik : i ≤ k) :
    Calls Tryd.prog 36 #[.agg #[.int .i64 n.op, .string n.sym, .int .i64 n.a, .int .i64 n.b], .pointer (some ⟨bF, 0, none⟩)] w (StrPost (bs (txt (tr l i))) w) := by
  have hlt := lt_of_some hn
  obtain ⟨m, hm⟩ : ∃ m, l[x]? = some m := ⟨_, List.getElem?_eq_getElem (show x < l.length by omega)⟩
  obtain ⟨m2, hm2⟩ : ∃ m, l[y]? = some m := ⟨_, List.getElem?_eq_getElem (show y < l.length by omega)⟩
  have HT : Hid (bs (txt (tr l i)) = parB (hasI [4] m.op) (bs (txt (tr l x))) ++ ⟨#[44]⟩ ++ parB (hasI [4, 3] m2.op) (bs (txt (tr l y)))) := hid (by rw [tr_cat hn ho ha hb hx hy, txtB_cat, hasI_4 F hm, hasI_43 F hm2])
  obtain ⟨A, HA, zA⟩ : ∃ A : ByteArray, Hid (parB (hasI [4] m.op) (bs (txt (tr l x))) = A) ∧ A.size ≤ 1000000 := ⟨_, hid rfl, part_size hok hsz (by omega) _⟩
  obtain ⟨B, HB, zB⟩ : ∃ B : ByteArray, Hid (parB (hasI [4, 3] m2.op) (bs (txt (tr l y))) = B) ∧ B.size ≤ 1000000 := ⟨_, hid rfl, part_size hok hsz (by omega) _⟩
  rw [HA.out, HB.out] at HT
  obtain ⟨op, sym, a, b⟩ := n
  dsimp only at ho ha hb ⊢
  subst ho ha hb
  have c0 := h.fbox
  have fl := h.fl
  have fl1 : bF < w.heap.size + 1 := by omega
  have c0' : (w.alloc (.cells #[.int .i64 3, .string sym, .int .i64 x, .int .i64 y] 45)).cell? ⟨bF, 0, none⟩ = some (.func (.func 34) #[] #[.pointer (some ⟨bR, 0, none⟩), .pointer (some ⟨bT, 0, none⟩)]) := (((Below.refl _ w).alloc (Nat.le_refl _) _).cell (p := ⟨bF, 0, none⟩) fl).trans c0
  have HH := hid h
  have HM := hid hm
  have HM2 := hid hm2
  have HOK := hid hok
  have HSZ := hid hsz
  clear h hn hm hm2 hok hsz
  go_enter Tryd.func36, Tryd.ntmps36
  have C1 : Hid (∀ (W : World) (v : Value), Ext w W → NatsV W v [4] → Calls Tryd.prog 34 #[.int .i64 x, v, .pointer (some ⟨bR, 0, none⟩), .pointer (some ⟨bT, 0, none⟩)] W fun e w' => e = .returned (.string A) ∧ W = w') := hid fun W v hE hv => by rw [← HA.out]; exact part1_call (HH.out.ext hE) HOK.out HSZ.out hl (by omega) HM.out hv (by decide)
  have C2 : Hid (∀ (W : World) (v : Value), Ext w W → NatsV W v [4, 3] → Calls Tryd.prog 34 #[.int .i64 y, v, .pointer (some ⟨bR, 0, none⟩), .pointer (some ⟨bT, 0, none⟩)] W fun e w' => e = .returned (.string B) ∧ W = w') := hid fun W v hE hv => by rw [← HB.out]; exact part1_call (HH.out.ext hE) HOK.out HSZ.out hl (by omega) HM2.out hv (by decide)
  have e1 : ∀ w', (Op.stringOp .add A ⟨#[44]⟩).run Tryd.prog w' = .ok (.string (A ++ ⟨#[44]⟩)) w' := fun w' => run_string_add_sum w' _ _ (by show A.size + 1 ≤ _; omega)
  have e2 : ∀ w', (Op.stringOp .add (A ++ ⟨#[44]⟩) B).run Tryd.prog w' = .ok (.string (A ++ ⟨#[44]⟩ ++ B)) w' := fun w' => run_string_add_sum w' _ _ (by rw [ByteArray.size_append]; show A.size + 1 + B.size ≤ _; omega)
  go_wp2_with fail
  go_region_held3 (fun w' => w'.cell? ⟨bF, 0, none⟩ = some (.func (.func 34) #[] #[.pointer (some ⟨bR, 0, none⟩), .pointer (some ⟨bT, 0, none⟩)]) ∧ w'.cell? ⟨w.heap.size, 2, none⟩ = some (.int .i64 x) ∧ w'.cell? ⟨w.heap.size, 3, none⟩ = some (.int .i64 y)) (go_keep)
    (first
      | (go_at_call 34
         with_reducible refine (C1.out _ _ ?_ ?_).mono ?_
         · first | exact (((Below.refl _ w).alloc (Nat.le_refl _) _).alloc (by simp) _).drew | exact ((((Below.refl _ w).alloc (Nat.le_refl _) _).alloc (by simp) _).alloc (by simp; omega) _).drew
         · first | exact (nats_4 _ (by simp)).ext (Below.refl _ _).drew | exact ((nats_4 _ (by simp)).ext ((Below.refl _ _).alloc (Nat.le_refl _) _)).ext (Below.refl _ _).drew
         rintro e w' ⟨rfl, rfl⟩)
      | (go_at_call 34
         with_reducible refine (C2.out _ _ ?_ ?_).mono ?_
         · exact ((((Below.refl _ w).alloc (Nat.le_refl _) _).alloc (by simp) _).alloc (by simp; omega) _).drew
         · first | exact (nats_43 _ (by simp)).ext (Below.refl _ _).drew | exact ((nats_43 _ (by simp)).ext ((Below.refl _ _).alloc (Nat.le_refl _) _)).ext (Below.refl _ _).drew
         rintro e w' ⟨rfl, rfl⟩))
  all_goals go_wp2_with fail
  all_goals go_ret
  all_goals exact ⟨by rw [HT.out]; rfl, ((((Below.refl _ w).alloc (Nat.le_refl _) _).alloc (by simp) _).alloc (by simp; omega) _).drew⟩

set_option maxRecDepth 100000 in
set_option maxHeartbeats 4000000 in
theorem tell2_alt {w : World} {l : List Nd} (F : Rx.Form l) {ao : Option Addr} {cap bR bT bF bt k : Nat} (h : TextW w l ao cap bR bT bF bt k) (hok : ∀ i, okT (tr l i)) (hsz : ∀ i, i < l.length → sizeT (tr l i) ≤ 1024) (hl : l.length ≤ 1024) {i : Nat} {n : Nd} (hn : l[i]? = some n) (ho : n.op = 4) {x y : Nat} (ha : n.a = x) (hb : n.b = y) (hx : x < i) (hy : y < i) (hik : i ≤ k) :
    Calls Tryd.prog 36 #[.agg #[.int .i64 n.op, .string n.sym, .int .i64 n.a, .int .i64 n.b], .pointer (some ⟨bF, 0, none⟩)] w (StrPost (bs (txt (tr l i))) w) := by
  have hlt := lt_of_some hn
  obtain ⟨m, hm⟩ : ∃ m, l[x]? = some m := ⟨_, List.getElem?_eq_getElem (show x < l.length by omega)⟩
  obtain ⟨m2, hm2⟩ : ∃ m, l[y]? = some m := ⟨_, List.getElem?_eq_getElem (show y < l.length by omega)⟩
  have HT : Hid (bs (txt (tr l i)) = bs (txt (tr l x)) ++ ⟨#[124]⟩ ++ parB (hasI [4] m2.op) (bs (txt (tr l y)))) := hid (by rw [tr_alt hn ho ha hb hx hy, txtB_alt, hasI_4 F hm2])
  obtain ⟨A, HA, zA⟩ : ∃ A : ByteArray, Hid (parB (hasI [] m.op) (bs (txt (tr l x))) = A) ∧ A.size ≤ 1000000 := ⟨_, hid rfl, part_size hok hsz (by omega) _⟩
  obtain ⟨B, HB, zB⟩ : ∃ B : ByteArray, Hid (parB (hasI [4] m2.op) (bs (txt (tr l y))) = B) ∧ B.size ≤ 1000000 := ⟨_, hid rfl, part_size hok hsz (by omega) _⟩
  rw [show bs (txt (tr l x)) = A from HA.out, HB.out] at HT
  obtain ⟨op, sym, a, b⟩ := n
  dsimp only at ho ha hb ⊢
  subst ho ha hb
  have c0 := h.fbox
  have fl := h.fl
  have fl1 : bF < w.heap.size + 1 := by omega
  have c0' : (w.alloc (.cells #[.int .i64 4, .string sym, .int .i64 x, .int .i64 y] 45)).cell? ⟨bF, 0, none⟩ = some (.func (.func 34) #[] #[.pointer (some ⟨bR, 0, none⟩), .pointer (some ⟨bT, 0, none⟩)]) := (((Below.refl _ w).alloc (Nat.le_refl _) _).cell (p := ⟨bF, 0, none⟩) fl).trans c0
  have HH := hid h
  have HM := hid hm
  have HM2 := hid hm2
  have HOK := hid hok
  have HSZ := hid hsz
  clear h hn hm hm2 hok hsz
  go_enter Tryd.func36, Tryd.ntmps36
  have C1 : Hid (∀ (W : World) (v : Value), Ext w W → NatsV W v [] → Calls Tryd.prog 34 #[.int .i64 x, v, .pointer (some ⟨bR, 0, none⟩), .pointer (some ⟨bT, 0, none⟩)] W fun e w' => e = .returned (.string A) ∧ W = w') := hid fun W v hE hv => by rw [← HA.out]; exact part1_call (HH.out.ext hE) HOK.out HSZ.out hl (by omega) HM.out hv (by decide)
  have C2 : Hid (∀ (W : World) (v : Value), Ext w W → NatsV W v [4] → Calls Tryd.prog 34 #[.int .i64 y, v, .pointer (some ⟨bR, 0, none⟩), .pointer (some ⟨bT, 0, none⟩)] W fun e w' => e = .returned (.string B) ∧ W = w') := hid fun W v hE hv => by rw [← HB.out]; exact part1_call (HH.out.ext hE) HOK.out HSZ.out hl (by omega) HM2.out hv (by decide)
  have e1 : ∀ w', (Op.stringOp .add A ⟨#[124]⟩).run Tryd.prog w' = .ok (.string (A ++ ⟨#[124]⟩)) w' := fun w' => run_string_add_sum w' _ _ (by show A.size + 1 ≤ _; omega)
  have e2 : ∀ w', (Op.stringOp .add (A ++ ⟨#[124]⟩) B).run Tryd.prog w' = .ok (.string (A ++ ⟨#[124]⟩ ++ B)) w' := fun w' => run_string_add_sum w' _ _ (by rw [ByteArray.size_append]; show A.size + 1 + B.size ≤ _; omega)
  go_wp2_with fail
  go_region_held3 (fun w' => w'.cell? ⟨bF, 0, none⟩ = some (.func (.func 34) #[] #[.pointer (some ⟨bR, 0, none⟩), .pointer (some ⟨bT, 0, none⟩)]) ∧ w'.cell? ⟨w.heap.size, 2, none⟩ = some (.int .i64 x) ∧ w'.cell? ⟨w.heap.size, 3, none⟩ = some (.int .i64 y)) (go_keep)
    (first
      | (go_at_call 34
         with_reducible refine (C1.out _ _ ?_ ?_).mono ?_
         · first | exact ((Below.refl _ w).alloc (Nat.le_refl _) _).drew | exact (((Below.refl _ w).alloc (Nat.le_refl _) _).alloc (by simp) _).drew
         · exact nats_nil _
         rintro e w' ⟨rfl, rfl⟩)
      | (go_at_call 34
         with_reducible refine (C2.out _ _ ?_ ?_).mono ?_
         · exact (((Below.refl _ w).alloc (Nat.le_refl _) _).alloc (by simp) _).drew
         · exact (nats_4 _ (by simp)).ext (Below.refl _ _).drew
         rintro e w' ⟨rfl, rfl⟩))
  all_goals go_wp2_with fail
  all_goals go_ret
  all_goals exact ⟨by rw [HT.out]; rfl, (((Below.refl _ w).alloc (Nat.le_refl _) _).alloc (by simp) _).drew⟩

theorem tell2_any {w : World} {l : List Nd} (F : Rx.Form l) {ao : Option Addr} {cap bR bT bF bt i : Nat} (h : TextW w l ao cap bR bT bF bt i) (hok : ∀ i, okT (tr l i)) (hsz : ∀ i, i < l.length → sizeT (tr l i) ≤ 1024) (hl : l.length ≤ 1024) {n : Nd} (hn : l[i]? = some n) :
    Calls Tryd.prog 36 #[.agg #[.int .i64 n.op, .string n.sym, .int .i64 n.a, .int .i64 n.b], .pointer (some ⟨bF, 0, none⟩)] w (StrPost (bs (txt (tr l i))) w) := by
  cases F.kind hn with
  | none ho => exact tell2_leaf h hn (.inl ho)
  | empty ho => exact tell2_leaf h hn (.inr (.inl ho))
  | sym ho => exact tell2_leaf h hn (.inr (.inr ho))
  | cat ho s x y a b hx hy => exact tell2_cat F h hok hsz hl hn ho a b hx hy (Nat.le_refl _)
  | alt ho s x y a b hx hy => exact tell2_alt F h hok hsz hl hn ho a b hx hy (Nat.le_refl _)
  | star ho s x a b hx => exact tell2_star F h hok hsz hl hn ho a hx (Nat.le_refl _)

end Go.Proofs.YtngpjagpeblbjaaDoor
