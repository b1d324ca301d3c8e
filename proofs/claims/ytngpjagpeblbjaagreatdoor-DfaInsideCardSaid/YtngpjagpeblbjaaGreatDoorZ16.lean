/-
  Plain law: numbers for the things of a list; classes of states made finer until they stay. No program is named here.
  Plain law: words in order; automata as a program holds them, and what is wrong with one.
  Automata in memory; a function value with bound arguments; slices.IndexFunc over numbers.
-/
import Derived.Test.YtngpjagpeblbjaaGreatDoorZ15
import Derived.Test.YtngpjagpeblbjaaGreatDoorZ14
import Derived.Sort.Walk0
import Derived.StillTailTactics
import Derived.Deep.QuietTactic
import Derived.BigQuiet
import Derived.BigRegion
import Derived.IntWalk
namespace Go.Tour

section
variable {κ : Type} [DecidableEq κ]
def addU (u : List κ) (k : κ) : List κ := if k ∈ u then u else u ++ [k]
def clsU (l : List κ) : List κ := l.foldl addU []
/-- For each thing of a list a number, from 0 on, the same one for those that are the same. -/
def cls (l : List κ) : List Nat := l.map (clsU l).idxOf
theorem clsU_snoc (l : List κ) (x : κ) : clsU (l ++ [x]) = addU (clsU l) x := by simp [clsU]
theorem addU_pre (u : List κ) (k : κ) : u <+: addU u k := by
  unfold addU; split
  · exact List.prefix_refl _
  · exact List.prefix_append _ _
theorem clsU_mem (l : List κ) : ∀ x, x ∈ clsU l ↔ x ∈ l := by
  have key : ∀ n (l : List κ), l.length = n → ∀ x, x ∈ clsU l ↔ x ∈ l := by
    intro n
    induction n with
    | zero => intro l hl x; obtain rfl := List.eq_nil_of_length_eq_zero hl; simp [clsU]
    | succ n ih =>
      intro l hl x
      have hne : l ≠ [] := by rintro rfl; simp at hl
      obtain ⟨l', y, rfl⟩ : ∃ l' y, l = l' ++ [y] := ⟨_, _, (List.dropLast_concat_getLast hne).symm⟩
      rw [clsU_snoc, addU]
      have := ih l' (by simp at hl; omega)
      split
      · rename_i hy
        rw [this] at hy
        rw [this]
        simp only [List.mem_append, List.mem_singleton]
        exact ⟨.inl, fun h => h.elim id (fun e => e ▸ hy)⟩
      · simp only [List.mem_append, List.mem_singleton, this]
  exact key _ l rfl
theorem clsU_nodup (l : List κ) : (clsU l).Nodup := by
  have key : ∀ n (l : List κ), l.length = n → (clsU l).Nodup := by
    intro n
    induction n with
    | zero => intro l hl; obtain rfl := List.eq_nil_of_length_eq_zero hl; simp [clsU]
    | succ n ih =>
      intro l hl
      have hne : l ≠ [] := by rintro rfl; simp at hl
      obtain ⟨l', y, rfl⟩ : ∃ l' y, l = l' ++ [y] := ⟨_, _, (List.dropLast_concat_getLast hne).symm⟩
      rw [clsU_snoc, addU]
      have := ih l' (by simp at hl; omega)
      split
      · exact this
      · rename_i hy
        rw [List.nodup_append]
        exact ⟨this, by simp, fun a ha b hb => by simp at hb; subst hb; exact fun e => hy (e ▸ ha)⟩
  exact key _ l rfl
theorem cls_length (l : List κ) : (cls l).length = l.length := by simp [cls]
/-- One thing more. -/
theorem cls_snoc (l : List κ) (x : κ) : cls (l ++ [x]) = cls l ++ [(clsU (l ++ [x])).idxOf x] := by
  unfold cls
  rw [List.map_append]
  congr 1
  refine List.map_congr_left fun y hy => ?_
  exact idxOf_prefix (by rw [clsU_snoc]; exact addU_pre _ _) ((clsU_mem l y).2 hy)
theorem cls_old {l : List κ} {x : κ} (h : x ∈ clsU l) : clsU (l ++ [x]) = clsU l ∧ (clsU (l ++ [x])).idxOf x = (clsU l).idxOf x := by
  rw [clsU_snoc, addU, if_pos h]; exact ⟨rfl, rfl⟩
theorem cls_new {l : List κ} {x : κ} (h : x ∉ clsU l) : clsU (l ++ [x]) = clsU l ++ [x] ∧ (clsU (l ++ [x])).idxOf x = (clsU l).length := by
  rw [clsU_snoc, addU, if_neg h]
  refine ⟨rfl, ?_⟩
  rw [List.idxOf_append, if_neg h]; simp
/-- What numbers a list has: from 0 up to c, each. -/
structure Num (a : List Nat) (c : Nat) : Prop where
  lt : ∀ x ∈ a, x < c
  all : ∀ x, x < c → x ∈ a
theorem cls_num (l : List κ) : Num (cls l) (clsU l).length := by
  refine ⟨fun x hx => ?_, fun x hx => ?_⟩
  · simp only [cls, List.mem_map] at hx
    obtain ⟨k, hk, rfl⟩ := hx
    exact List.idxOf_lt_length_of_mem ((clsU_mem l k).2 hk)
  · simp only [cls, List.mem_map]
    exact ⟨(clsU l)[x], (clsU_mem l _).1 (List.getElem_mem _), (clsU_nodup l).idxOf_getElem x hx⟩
theorem cls_same {l : List κ} {i j : Nat} (hi : i < l.length) (hj : j < l.length) : (cls l)[i]? = (cls l)[j]? ↔ l[i]? = l[j]? := by
  simp only [cls, List.getElem?_map, List.getElem?_eq_getElem hi, List.getElem?_eq_getElem hj, Option.map_some, Option.some.injEq]
  constructor
  · intro h
    have h1 := List.getElem_idxOf (List.idxOf_lt_length_of_mem ((clsU_mem l l[i]).2 (List.getElem_mem hi)))
    have h2 := List.getElem_idxOf (List.idxOf_lt_length_of_mem ((clsU_mem l l[j]).2 (List.getElem_mem hj)))
    rw [← h1, ← h2]
    simp only [h]
  · intro h; rw [h]
end

/-! ### finer -/
theorem Num.max {a : List Nat} {c m : Nat} (h : Num a c) (hm : m ∈ a) (hx : ∀ x ∈ a, x ≤ m) : c = m + 1 := by
  have h1 := h.lt m hm
  have h2 : c - 1 ≤ m := hx _ (h.all (c - 1) (by omega))
  omega
theorem Num.le {a : List Nat} {c : Nat} (h : Num a c) : c ≤ a.length := by
  have := mem_length_le (l := List.range c) (u := a) List.nodup_range (fun k hk => h.all k (by simpa using hk))
  simpa using this
/-- The one list tells all apart that the other one tells apart. -/
def Finer (b a : List Nat) : Prop := ∀ s t, s < a.length → t < a.length → b[s]? = b[t]? → a[s]? = a[t]?
section
variable {a b : List Nat} {c d : Nat}
theorem num_rep (h : Num b d) (x : Nat) : ∃ s, x < d → s < b.length ∧ b[s]? = some x := by
  by_cases e : x < d
  · obtain ⟨s, hs, he⟩ := List.getElem_of_mem (h.all x e)
    exact ⟨s, fun _ => ⟨hs, by rw [List.getElem?_eq_getElem hs, he]⟩⟩
  · exact ⟨0, fun e' => absurd e' e⟩
theorem finer_rep (hl : a.length = b.length) (ha : Num a c) (hb : Num b d) (hf : Finer b a) : ∃ r : Nat → Nat, (∀ x, x < d → r x < b.length ∧ b[r x]? = some x) ∧ ∀ y, y < c → ∃ x, x < d ∧ a[r x]? = some y := by
  have hr := fun x => num_rep hb x
  obtain ⟨r, hr⟩ : ∃ r : Nat → Nat, ∀ x, x < d → r x < b.length ∧ b[r x]? = some x := ⟨fun x => (hr x).choose, fun x hx => (hr x).choose_spec hx⟩
  refine ⟨r, hr, fun y hy => ?_⟩
  obtain ⟨s, hs, he⟩ := List.getElem_of_mem (ha.all y hy)
  have hsb : s < b.length := by omega
  have hx := hb.lt _ (List.getElem_mem hsb)
  obtain ⟨h1, h2⟩ := hr b[s] hx
  refine ⟨b[s], hx, ?_⟩
  rw [hf (r b[s]) s (by omega) hs (by rw [h2, List.getElem?_eq_getElem hsb]), List.getElem?_eq_getElem hs, he]
theorem finer_le (hl : a.length = b.length) (ha : Num a c) (hb : Num b d) (hf : Finer b a) : c ≤ d := by
  obtain ⟨r, h1, h2⟩ := finer_rep hl ha hb hf
  have := mem_length_le (l := List.range c) (u := (List.range d).map fun x => (a[r x]?).getD 0) List.nodup_range (fun y hy => by
    obtain ⟨x, hx, he⟩ := h2 y (by simpa using hy)
    simp only [List.mem_map, List.mem_range]
    exact ⟨x, hx, by rw [he]; rfl⟩)
  simpa using this
/-- As many numbers: no finer. -/
theorem finer_same (hl : a.length = b.length) (ha : Num a c) (hb : Num b c) (hf : Finer b a) : Finer a b := by
  obtain ⟨r, h1, h2⟩ := finer_rep hl ha hb hf
  intro s t hs ht he
  have hsa : s < a.length := by omega
  have hta : t < a.length := by omega
  have es : b[s]? = some b[s] := List.getElem?_eq_getElem hs
  have et : b[t]? = some b[t] := List.getElem?_eq_getElem ht
  rcases Nat.decEq b[s] b[t] with hne | heq
  · exfalso
    have hxs := hb.lt _ (List.getElem_mem hs)
    have hxt := hb.lt _ (List.getElem_mem ht)
    have hu := mem_length_le (l := List.range c) (u := ((List.range c).erase b[t]).map fun x => (a[r x]?).getD 0) List.nodup_range (fun y hy => by
      obtain ⟨x, hx, hxe⟩ := h2 y (by simpa using hy)
      simp only [List.mem_map]
      by_cases e : x = b[t]
      · refine ⟨b[s], (List.mem_erase_of_ne hne).2 (by simpa using hxs), ?_⟩
        obtain ⟨r1, r2⟩ := h1 _ hxs
        obtain ⟨r3, r4⟩ := h1 _ hxt
        have q1 := hf (r b[s]) s (by omega) (by omega) (by rw [r2, es])
        have q2 := hf (r b[t]) t (by omega) (by omega) (by rw [r4, et])
        rw [e, q2] at hxe
        rw [q1, he, hxe]; rfl
      · exact ⟨x, (List.mem_erase_of_ne e).2 (by simpa using hx), by rw [hxe]; rfl⟩)
    rw [List.length_map, List.length_erase_of_mem (by simpa using hxt)] at hu
    simp at hu
    omega
  · rw [es, et, heq]
end

/-! ### classes of states -/
variable {σ : Type}
def at0 (a : List Nat) (s : Nat) : Nat := (a[s]?).getD 0
theorem at0_some {a : List Nat} {s : Nat} (h : s < a.length) : a[s]? = some (at0 a s) := by unfold at0; rw [List.getElem?_eq_getElem h]; rfl
theorem at0_eq {a : List Nat} {s t : Nat} (hs : s < a.length) (ht : t < a.length) : a[s]? = a[t]? ↔ at0 a s = at0 a t := by rw [at0_some hs, at0_some ht, Option.some.injEq]
/-- The pairs that one word gives. -/
def prsAt (d : DF σ) (a finer : List Nat) (c : Nat) : List (Nat × Nat) := (List.range d.next.length).map fun s => (at0 finer s, at0 a (stepD d s c))
def passN (d : DF σ) (a : List Nat) : Nat → List Nat
  | 0 => a
  | c + 1 => cls (prsAt d a (passN d a c) c)
theorem passN_length {d : DF σ} {a : List Nat} (hl : a.length = d.next.length) : ∀ c, (passN d a c).length = d.next.length
  | 0 => hl
  | c + 1 => by simp [passN, cls_length, prsAt]
theorem prs_get (d : DF σ) (a finer : List Nat) (c : Nat) {s : Nat} (h : s < d.next.length) : (prsAt d a finer c)[s]? = some (at0 finer s, at0 a (stepD d s c)) := by simp [prsAt, h]
theorem passN_same {d : DF σ} {a : List Nat} (hl : a.length = d.next.length) {s t : Nat} (hs : s < d.next.length) (ht : t < d.next.length) : ∀ c, at0 (passN d a c) s = at0 (passN d a c) t ↔ at0 a s = at0 a t ∧ ∀ e, e < c → at0 a (stepD d s e) = at0 a (stepD d t e)
  | 0 => by simp [passN]
  | c + 1 => by
    have ih := passN_same hl hs ht c
    rw [← at0_eq (by rw [passN_length hl]; exact hs) (by rw [passN_length hl]; exact ht)]
    simp only [passN]
    rw [cls_same (by simpa [prsAt] using hs) (by simpa [prsAt] using ht), prs_get _ _ _ _ hs, prs_get _ _ _ _ ht]
    simp only [Option.some.injEq, Prod.mk.injEq, ih]
    constructor
    · rintro ⟨⟨h1, h2⟩, h3⟩
      refine ⟨h1, fun e he => ?_⟩
      rcases Nat.lt_or_ge e c with h | h
      · exact h2 e h
      · obtain rfl : e = c := by omega
        exact h3
    · rintro ⟨h1, h2⟩
      exact ⟨⟨h1, fun e he => h2 e (by omega)⟩, h2 c (by omega)⟩
/-- What a state matches. -/
def langAt (d : DF σ) (s : Nat) : List Nat → Bool := lang (stepD d) d.syms.length (finD d) s
structure AlikeI (d : DF σ) (a : List Nat) : Prop where
  len : a.length = d.next.length
  num : ∃ c, Num a c
  fin : ∀ s t, s < d.next.length → t < d.next.length → at0 a s = at0 a t → finD d s = finD d t
  lang : ∀ s t, s < d.next.length → t < d.next.length → langAt d s = langAt d t → at0 a s = at0 a t
theorem alike_start {d : DF σ} (h : OkD d) : AlikeI d (cls d.fin) := by
  refine ⟨by rw [cls_length, h.fin], ⟨_, cls_num _⟩, fun s t hs ht e => ?_, fun s t hs ht e => ?_⟩
  · rw [← at0_eq (by rw [cls_length, h.fin]; exact hs) (by rw [cls_length, h.fin]; exact ht), cls_same (by rw [h.fin]; exact hs) (by rw [h.fin]; exact ht)] at e
    unfold finD; rw [e]
  · rw [← at0_eq (by rw [cls_length, h.fin]; exact hs) (by rw [cls_length, h.fin]; exact ht), cls_same (by rw [h.fin]; exact hs) (by rw [h.fin]; exact ht), h.finAt hs, h.finAt ht]
    have := congrFun e []
    unfold langAt at this
    rw [lang_nil, lang_nil] at this
    rw [this]
theorem lang_step {d : DF σ} {s t : Nat} (e : langAt d s = langAt d t) {c : Nat} (hc : c < d.syms.length) : langAt d (stepD d s c) = langAt d (stepD d t c) := by
  funext u
  have := congrFun e (c :: u)
  unfold langAt at this
  rw [lang_cons _ _ _ _ hc, lang_cons _ _ _ _ hc] at this
  exact this
theorem alike_pass {d : DF σ} (h : OkD d) {a : List Nat} (A : AlikeI d a) (c : Nat) (hc : c ≤ d.syms.length) : AlikeI d (passN d a c) := by
  refine ⟨passN_length A.len c, ?_, fun s t hs ht e => ?_, fun s t hs ht e => ?_⟩
  · cases c with
    | zero => exact A.num
    | succ c => exact ⟨_, cls_num _⟩
  · exact A.fin s t hs ht ((passN_same A.len hs ht c).1 e).1
  · refine (passN_same A.len hs ht c).2 ⟨A.lang s t hs ht e, fun x hx => ?_⟩
    exact A.lang _ _ (h.step s x) (h.step t x) (lang_step e (by omega))
theorem pass_finer {d : DF σ} {a : List Nat} (hl : a.length = d.next.length) (c : Nat) : Finer (passN d a c) a := by
  intro s t hs ht e
  rw [hl] at hs ht
  rw [at0_eq (by rw [passN_length hl]; exact hs) (by rw [passN_length hl]; exact ht), passN_same hl hs ht] at e
  rw [at0_eq (by omega) (by omega)]
  exact e.1
/-- No more classes than before: what is alike matches the same. -/
theorem alike_end {d : DF σ} (h : OkD d) {a : List Nat} (A : AlikeI d a) {c : Nat} (h1 : Num a c) (h2 : Num (passN d a d.syms.length) c) {s t : Nat} (hs : s < d.next.length) (ht : t < d.next.length) : at0 a s = at0 a t ↔ langAt d s = langAt d t := by
  refine ⟨fun e => ?_, A.lang s t hs ht⟩
  have hf := finer_same (by rw [A.len, passN_length A.len]) h1 h2 (pass_finer A.len _)
  have cong : ∀ s t, s < d.next.length → t < d.next.length → at0 a s = at0 a t → ∀ x, x < d.syms.length → at0 a (stepD d s x) = at0 a (stepD d t x) := by
    intro s t hs ht e x hx
    have h3 := hf s t (by rw [passN_length A.len]; exact hs) (by rw [passN_length A.len]; exact ht) ((at0_eq (by rw [A.len]; exact hs) (by rw [A.len]; exact ht)).2 e)
    rw [at0_eq (by rw [passN_length A.len]; exact hs) (by rw [passN_length A.len]; exact ht), passN_same A.len hs ht] at h3
    exact h3.2 x hx
  have run : ∀ (u : List Nat) s t, s < d.next.length → t < d.next.length → at0 a s = at0 a t → (∀ x ∈ u, x < d.syms.length) → finD d (runL (stepD d) s u) = finD d (runL (stepD d) t u) := by
    intro u
    induction u with
    | nil => intro s t hs ht e _; exact A.fin s t hs ht e
    | cons x u ih => intro s t hs ht e hu; exact ih _ _ (h.step s x) (h.step t x) (cong s t hs ht e x (hu x (by simp))) (fun y hy => hu y (by simp [hy]))
  funext u
  unfold langAt
  by_cases hu : ∀ x ∈ u, x < d.syms.length
  · rw [lang_of hu, lang_of hu]; exact run u s t hs ht e hu
  · unfold lang; rw [decide_eq_false hu]; rfl

/-! ### states under other names that match the same -/
theorem lang_map {K L : Type} {δ : K → Nat → K} {ε : L → Nat → L} {m : Nat} {f : K → Bool} {g : L → Bool} {φ : K → L} {U : K → Prop} (hc : ∀ k, U k → ∀ c, c < m → U (δ k c)) (hs : ∀ k, U k → ∀ c, c < m → φ (δ k c) = ε (φ k) c) (hf : ∀ k, U k → f k = g (φ k)) {k : K} (hk : U k) :
    lang δ m f k = lang ε m g (φ k) := by
  funext u
  by_cases hu : ∀ x ∈ u, x < m
  · rw [lang_of hu, lang_of hu]
    have key : ∀ (u : List Nat) k, U k → (∀ x ∈ u, x < m) → U (runL δ k u) ∧ φ (runL δ k u) = runL ε (φ k) u := by
      intro u
      induction u with
      | nil => intro k hk _; exact ⟨hk, rfl⟩
      | cons x u ih =>
        intro k hk hu
        have hx := hu x (by simp)
        obtain ⟨i1, i2⟩ := ih (δ k x) (hc k hk x hx) (fun y hy => hu y (by simp [hy]))
        exact ⟨i1, by rw [show runL δ k (x :: u) = runL δ (δ k x) u from rfl, i2, hs k hk x hx]; rfl⟩
    obtain ⟨k1, k2⟩ := key u k hk hu
    rw [← k2]; exact hf _ k1
  · unfold lang; rw [decide_eq_false hu]; rfl

/-! ### the least automaton -/
/-- What a list of classes, with one state of each, comes to. -/
structure OneI (d : DF σ) (a one : List Nat) : Prop where
  len : a.length = d.next.length
  alike : ∀ s t, s < d.next.length → t < d.next.length → (at0 a s = at0 a t ↔ langAt d s = langAt d t)
  one : ∀ s, s < d.next.length → at0 one (at0 a s) < d.next.length ∧ at0 a (at0 one (at0 a s)) = at0 a s
def stepC (d : DF σ) (a one : List Nat) (c x : Nat) : Nat := at0 a (stepD d (at0 one c) x)
def finC (d : DF σ) (one : List Nat) (c : Nat) : Bool := finD d (at0 one c)
section
variable {d : DF σ} {a one : List Nat}
theorem OneI.step (I : OneI d a one) (h : OkD d) {s : Nat} (hs : s < d.next.length) {x : Nat} (hx : x < d.syms.length) : at0 a (stepD d s x) = stepC d a one (at0 a s) x := by
  obtain ⟨o1, o2⟩ := I.one s hs
  have e := (I.alike _ _ o1 hs).1 o2
  exact ((I.alike _ _ (h.step _ x) (h.step _ x)).2 (lang_step e hx)).symm
theorem OneI.fin (I : OneI d a one) {s : Nat} (hs : s < d.next.length) : finD d s = finC d one (at0 a s) := by
  obtain ⟨o1, o2⟩ := I.one s hs
  have e := congrFun ((I.alike _ _ o1 hs).1 o2) []
  unfold langAt at e
  rw [lang_nil, lang_nil] at e
  exact e.symm
theorem OneI.lang (I : OneI d a one) (h : OkD d) {s : Nat} (hs : s < d.next.length) : langAt d s = lang (stepC d a one) d.syms.length (finC d one) (at0 a s) :=
  lang_map (U := fun s => s < d.next.length) (φ := at0 a) (fun s _ c _ => h.step s c) (fun _ hs _ hc => I.step h hs hc) (fun _ hs => I.fin hs) hs
/-- The classes that are come to. -/
theorem OneI.univ (I : OneI d a one) (h : OkD d) : ∀ c, (∃ s, s < d.next.length ∧ c = at0 a s) → ∀ x ∈ fan (stepC d a one) d.syms.length c, ∃ s, s < d.next.length ∧ x = at0 a s := by
  rintro c ⟨s, hs, rfl⟩ x hx
  simp only [fan, List.mem_map, List.mem_range] at hx
  obtain ⟨y, hy, rfl⟩ := hx
  exact ⟨stepD d s y, h.step s y, (I.step h hs hy).symm⟩
theorem OneI.dist (I : OneI d a one) (h : OkD d) {i : Nat} : ∀ x y, x ∈ (tourN (fan (stepC d a one) d.syms.length) (at0 a 0) i).keys → y ∈ (tourN (fan (stepC d a one) d.syms.length) (at0 a 0) i).keys →
    Tour.lang (stepC d a one) d.syms.length (finC d one) x = Tour.lang (stepC d a one) d.syms.length (finC d one) y → x = y := by
  intro x y hx hy e
  have hu := tourN_univ (U := fun c => ∃ s, s < d.next.length ∧ c = at0 a s) (succ := fan (stepC d a one) d.syms.length) (first := at0 a 0) ⟨0, h.pos, rfl⟩ (I.univ h) i
  obtain ⟨s, hs, rfl⟩ := hu x hx
  obtain ⟨t, ht, rfl⟩ := hu y hy
  rw [← I.lang h hs, ← I.lang h ht] at e
  exact (I.alike s t hs ht).2 e
theorem OneI.full (I : OneI d a one) (h : OkD d) : ∃ i, i ≤ d.next.length ∧ Full (fan (stepC d a one) d.syms.length) (at0 a 0) i := by
  obtain ⟨i, h1, h2⟩ := full_ex (U := fun c => ∃ s, s < d.next.length ∧ c = at0 a s) (succ := fan (stepC d a one) d.syms.length) (first := at0 a 0) ⟨0, h.pos, rfl⟩ (I.univ h) (u := a) (by
    rintro _ ⟨s, hs, rfl⟩
    exact List.mem_of_getElem? (at0_some (by rw [I.len]; exact hs)))
  rw [I.len] at h1
  exact ⟨i, h1, h2⟩
end
end Go.Tour
namespace Go.Tour
open Go.Spy

/-! ### words in order -/
def ltB (a b : ByteArray) : Bool := Op.bytesLess a.toList b.toList
theorem ltB_iff {a b : ByteArray} : ltB a b = true ↔ a.toList < b.toList := by
  unfold ltB; rw [Go.Proofs.bytesLess_eq]; exact decide_eq_true_iff
theorem ltB_irr (a : ByteArray) : ltB a a = false := by
  cases h : ltB a a with
  | false => rfl
  | true => exact absurd (ltB_iff.1 h) (List.lt_irrefl _)
theorem ltB_trans {a b c : ByteArray} (h : ltB a b = true) (k : ltB b c = true) : ltB a c = true := ltB_iff.2 (List.lt_trans (ltB_iff.1 h) (ltB_iff.1 k))
theorem ltB_asymm {a b : ByteArray} (h : ltB a b = true) : ltB b a = false := by
  cases k : ltB b a with
  | false => rfl
  | true => have := ltB_trans h k; rw [ltB_irr] at this; cases this
theorem ltB_ne {a b : ByteArray} (h : ltB a b = true) : a ≠ b := by
  rintro rfl
  rw [ltB_irr] at h; cases h
def Rising (l : List ByteArray) : Prop := l.Pairwise fun a b => ltB a b = true
theorem Rising.nodup {l : List ByteArray} (h : Rising l) : l.Nodup := List.Pairwise.imp (fun h => ltB_ne h) h
theorem rising_ext : ∀ {l m : List ByteArray}, Rising l → Rising m → (∀ x, x ∈ l ↔ x ∈ m) → l = m
  | [], [], _, _, _ => rfl
  | [], y :: m, _, _, h => by have := (h y).2 (by simp); simp at this
  | x :: l, [], _, _, h => by have := (h x).1 (by simp); simp at this
  | x :: l, y :: m, hl, hm, h => by
    unfold Rising at hl hm
    rw [List.pairwise_cons] at hl hm
    have hxy : x = y := by
      rcases List.mem_cons.1 ((h x).1 (by simp)) with e | e
      · exact e
      · rcases List.mem_cons.1 ((h y).2 (by simp)) with e2 | e2
        · exact e2.symm
        · have := ltB_trans (hl.1 y e2) (hm.1 x e)
          rw [ltB_irr] at this; cases this
    subst hxy
    congr 1
    refine rising_ext hl.2 hm.2 fun z => ?_
    constructor
    · intro hz
      rcases List.mem_cons.1 ((h z).1 (by simp [hz])) with e | e
      · subst e; have := hl.1 z hz; rw [ltB_irr] at this; cases this
      · exact e
    · intro hz
      rcases List.mem_cons.1 ((h z).2 (by simp [hz])) with e | e
      · subst e; have := hm.1 z hz; rw [ltB_irr] at this; cases this
      · exact e
theorem Rising.get {l : List ByteArray} (h : Rising l) {i j : Nat} {x y : ByteArray} (hij : i < j) (hx : l[i]? = some x) (hy : l[j]? = some y) : ltB x y = true := by
  obtain ⟨h1, rfl⟩ := List.getElem?_eq_some_iff.1 hx
  obtain ⟨h2, rfl⟩ := List.getElem?_eq_some_iff.1 hy
  exact List.pairwise_iff_getElem.1 h i j h1 h2 hij
theorem Rising.lt_iff {l : List ByteArray} (h : Rising l) {i j : Nat} {x y : ByteArray} (hx : l[i]? = some x) (hy : l[j]? = some y) : ltB x y = true ↔ i < j := by
  constructor
  · intro hl
    rcases Nat.lt_trichotomy i j with e | e | e
    · exact e
    · subst e; rw [hx] at hy; cases hy; rw [ltB_irr] at hl; cases hl
    · have := ltB_asymm (h.get e hy hx); rw [this] at hl; cases hl
  · intro e; exact h.get e hx hy
/-- As it is looked at: each word is ahead of the next one. -/
def chainB (l : List ByteArray) : Bool := (List.range (l.length - 1)).all fun i => match l[i]?, l[i + 1]? with | some x, some y => ltB x y | _, _ => true
theorem chain_rising : ∀ {l : List ByteArray}, (∀ i x y, l[i]? = some x → l[i + 1]? = some y → ltB x y = true) → Rising l
  | [], _ => List.Pairwise.nil
  | [x], _ => by simp [Rising]
  | x :: y :: l, h => by
    have ih : Rising (y :: l) := chain_rising (fun i a b ha hb => h (i + 1) a b (by simpa using ha) (by simpa using hb))
    have hxy := h 0 x y rfl rfl
    refine List.pairwise_cons.2 ⟨fun z hz => ?_, ih⟩
    rcases List.mem_cons.1 hz with rfl | hz
    · exact hxy
    · exact ltB_trans hxy ((List.pairwise_cons.1 ih).1 z hz)
theorem chainB_iff {l : List ByteArray} : chainB l = true ↔ Rising l := by
  unfold chainB
  rw [List.all_eq_true]
  constructor
  · intro h
    refine chain_rising fun i x y hx hy => ?_
    have h1 := (List.getElem?_eq_some_iff.1 hy).1
    have := h i (List.mem_range.2 (by omega))
    rw [hx, hy] at this
    exact this
  · intro h i hi
    have hi := List.mem_range.1 hi
    rw [List.getElem?_eq_getElem (show i < l.length by omega), List.getElem?_eq_getElem (show i + 1 < l.length by omega)]
    exact h.get (show i < i + 1 by omega) (List.getElem?_eq_getElem _) (List.getElem?_eq_getElem _)

/-! ### automata as they are held -/
structure DR where
  syms : List ByteArray
  next : List (List Int)
  fin : List Bool
abbrev DA := DF ByteArray
def DF.raw (d : DA) : DR := ⟨d.syms, d.next.map (·.map Int.ofNat), d.fin⟩
def rowBad (m n : Nat) (r : List Int) : Bool := decide (r.length ≠ m) || r.any fun s => decide (s < 0) || decide ((n : Int) ≤ s)
def checkE (nameOk : ByteArray → Bool) (d : DR) : Nat :=
  if 256 < d.next.length ∨ 256 < d.fin.length then 17
  else if d.next.length = 0 ∨ d.fin.length ≠ d.next.length then 12
  else if d.next.any (rowBad d.syms.length d.next.length) = true then 12
  else if d.syms.any (fun s => !nameOk s) = true then 11
  else if chainB d.syms = false then 14
  else 0
/-- An automaton that may be. -/
structure WellD (nameOk : ByteArray → Bool) (d : DA) : Prop where
  ok : OkD d
  most : d.next.length ≤ 256
  names : ∀ s ∈ d.syms, nameOk s = true
  rising : Rising d.syms
theorem check_ok {nameOk : ByteArray → Bool} {d : DR} (h : checkE nameOk d = 0) : ∃ D : DA, d = D.raw ∧ WellD nameOk D := by
  unfold checkE at h
  split at h
  · cases h
  split at h
  · cases h
  split at h
  · cases h
  split at h
  · cases h
  split at h
  · cases h
  rename_i h1 h2 h3 h4 h5
  have hrow : ∀ r ∈ d.next, r.length = d.syms.length ∧ ∀ s ∈ r, 0 ≤ s ∧ s < d.next.length := by
    intro r hr
    have : rowBad d.syms.length d.next.length r = false := by
      cases e : rowBad d.syms.length d.next.length r with
      | false => rfl
      | true => exact absurd (List.any_eq_true.2 ⟨r, hr, e⟩) h3
    simp only [rowBad, Bool.or_eq_false_iff, decide_eq_false_iff_not, List.any_eq_false, Bool.or_eq_true, decide_eq_true_eq] at this
    refine ⟨by omega, fun s hs => ?_⟩
    have := this.2 s hs
    omega
  have hraw : ∀ r ∈ d.next, (r.map Int.toNat).map Int.ofNat = r := by
    intro r hr
    rw [List.map_map]
    conv => rhs; rw [← List.map_id r]
    refine List.map_congr_left fun s hs => ?_
    have := (hrow r hr).2 s hs
    show ((s.toNat : Nat) : Int) = s
    omega
  refine ⟨⟨d.syms, d.next.map (·.map Int.toNat), d.fin⟩, ?_, ?_⟩
  · obtain ⟨a, b, c⟩ := d
    simp only [DF.raw, DR.mk.injEq, true_and, and_true]
    rw [List.map_map]
    conv => lhs; rw [← List.map_id b]
    refine List.map_congr_left fun r hr => ?_
    exact (hraw r hr).symm
  · refine ⟨⟨by simp; omega, by simp; omega, ?_, ?_⟩, by simp; omega, fun s hs => ?_, chainB_iff.1 (by simpa using h5)⟩
    · intro r hr
      simp only [List.mem_map] at hr
      obtain ⟨r, hr, rfl⟩ := hr
      simp [(hrow r hr).1]
    · intro r hr s hs
      simp only [List.mem_map] at hr
      obtain ⟨r, hr, rfl⟩ := hr
      simp only [List.mem_map] at hs
      obtain ⟨s, hs, rfl⟩ := hs
      have := (hrow r hr).2 s hs
      simp only [List.length_map]
      omega
    · have := fun h => h4 (List.any_eq_true.2 ⟨s, hs, h⟩)
      simpa using this
theorem well_check {nameOk : ByteArray → Bool} {D : DA} (h : WellD nameOk D) : checkE nameOk D.raw = 0 := by
  have hp := h.ok.pos
  have hf := h.ok.fin
  have hm := h.most
  unfold checkE
  rw [if_neg (by simp [DF.raw]; omega), if_neg (by simp only [DF.raw, List.length_map, not_or, ne_eq, Decidable.not_not]; exact ⟨by omega, hf⟩), if_neg, if_neg, if_neg]
  · have := chainB_iff.2 h.rising
    simp only [DF.raw]; rw [this]; simp
  · simp only [DF.raw, List.any_eq_true, not_exists, not_and]
    intro s hs
    simp [h.names s hs]
  · simp only [DF.raw, List.any_eq_true, not_exists, not_and, List.mem_map]
    rintro _ ⟨r, hr, rfl⟩
    have h1 := h.ok.row r hr
    simp only [rowBad, List.length_map, h1, ne_eq, not_true_eq_false, decide_false, Bool.false_or, List.any_eq_true, List.mem_map, not_exists, not_and]
    rintro _ ⟨s, hs, rfl⟩
    have := h.ok.goes r hr s hs
    simp
    exact this
end Go.Tour
namespace Go.Spy
open Go.RowKit
theorem wpList_callb {P : Program} {ops : Array Oper} {rest : List Oper} {o : Oper} {a : Act} {w : World} {Q : Exit → Act → World → Prop} (hg : o.guard = none) (fo : Operand) (xs : Array Operand) (ts : Array TypeId)
    (ho : o.op = .call { callee := .value fo, args := xs, argTypes := ts }) {f : FuncId} {first caps : Array Value} (hE : Enters P f) (hf : a.eval fo = .func (.func f) first caps) {args : Array Value} (hx : xs.toList.map a.eval = args.toList) {Φ : Ending → World → Prop}
    (hc : Calls P f (first ++ args ++ caps) w Φ) (h : ∀ e w', Φ e w' → ∃ v, e = .returned v ∧ wpList P ops Q rest (a.put o.dst v) w') : wpList P ops Q (o :: rest) a w := by
  have hx : xs.map a.eval = args := Array.toList_inj.1 (by simpa using hx)
  refine wpList_plain hg fun K hK => ?_
  have hrun : (execOp a.eval o).run P w = .ok (.enter f (first ++ args ++ caps)) w := by
    simp only [execOp, ho, resolve, hf, hx, Deferred.ofValue, Sem.run_bind, Sem.run_pure, Result.andThen_ok, invoke]
    exact hE (first ++ args ++ caps) w
  unfold Oper.wp
  rw [hrun, Oper.upon_enter]
  refine hc.mono fun e w'' hh => ?_
  obtain ⟨v, rfl, hw⟩ := h e w'' hh
  exact hK _ _ hw
end Go.Spy
namespace Go.Proofs.YtngpjagpeblbjaaGreatDoor
open Go.RowKit Go.Spy Go.Heaped Go.Tour Go.Rx

def strC (b : ByteArray) : Array Value := #[.string b]
def intZ (z : Int) : Array Value := #[.int .i64 z]
def boolC (b : Bool) : Array Value := #[.bool b]
structure BndD (d : DR) : Prop where
  s : d.syms.length ≤ 1000
  n : d.next.length ≤ 1000
  f : d.fin.length ≤ 1000
  r : ∀ r ∈ d.next, r.length ≤ 1000
  b : ∀ s ∈ d.syms, s.size ≤ 1000000
structure DfaP (w : World) (vS vN vF : Value) (us : List Value) (d : DR) : Prop where
  syms : ReadR w 1 strC vS d.syms
  next : ReadR w 1 oneA vN us
  len : us.length = d.next.length
  rows : ∀ (i : Nat) (u : Value) (r : List Int), us[i]? = some u → d.next[i]? = some r → ReadR w 1 intZ u r
  fin : ReadR w 1 boolC vF d.fin
theorem DfaP.ext {w w' : World} {vS vN vF : Value} {us : List Value} {d : DR} (h : DfaP w vS vN vF us d) (e : Ext w w') : DfaP w' vS vN vF us d :=
  ⟨h.syms.ext e, h.next.ext e, h.len, fun i u r hu hr => (h.rows i u r hu hr).ext e, h.fin.ext e⟩
/-- An automaton's value. -/
def DfaV (w : World) (v : Value) (d : DR) : Prop := ∃ vS vN vF us, v = .agg #[vS, vN, vF] ∧ DfaP w vS vN vF us d
theorem DfaV.ext {w w' : World} {v : Value} {d : DR} (h : DfaV w v d) (e : Ext w w') : DfaV w' v d := by
  obtain ⟨vS, vN, vF, us, rfl, h⟩ := h
  exact ⟨vS, vN, vF, us, rfl, h.ext e⟩

section
variable {α : Type} {w : World} {f : α → Array Value} {l : List α}
/-- What one cell of a slice holds. -/
theorem ReadR.cell1 {g off n c : Nat} (h : ReadR w 1 f (.slice (some ⟨g, off, none⟩) n c) l) {j : Nat} {x : α} (hx : l[j]? = some x) : w.cell? ⟨g, off + j, none⟩ = (f x)[0]? := by
  have hn : n = l.length := by
    obtain ⟨ao, c', e, _⟩ := h
    simp only [Value.slice.injEq] at e
    exact e.2.1
  subst hn
  have h := h.cell hx (k := 0) (by decide)
  rwa [show off + (j * 1 + 0) = off + j by omega] at h
end
/-- A row of an automaton lies as a slice. -/
theorem DfaP.row {w : World} {vS vN vF : Value} {us : List Value} {d : DR} (h : DfaP w vS vN vF us d) {i : Nat} {r : List Int} (hr : d.next[i]? = some r) :
    ∃ ao c, us[i]? = some (.slice ao r.length c) ∧ ReadR w 1 intZ (.slice ao r.length c) r := by
  have hi := (List.getElem?_eq_some_iff.1 hr).1
  have hu : us[i]? = some (us[i]'(by rw [h.len]; exact hi)) := List.getElem?_eq_getElem _
  have hR := h.rows i _ r hu hr
  obtain ⟨ao, c, e, _⟩ := hR.form
  rw [e] at hu hR
  exact ⟨ao, c, hu, hR⟩

/-- The first of a list that has a property, or none. -/
def IdxPost {α : Type} (p : α → Bool) (l : List α) (w : World) (e : Ending) (w' : World) : Prop :=
  Ext w w' ∧ ((∃ n x, e = .returned (.int .i64 (n : Nat)) ∧ l[n]? = some x ∧ p x = true ∧ ∀ j y, j < n → l[j]? = some y → p y = false) ∨ (e = .returned (.int .i64 (-1)) ∧ ∀ x ∈ l, p x = false))

set_option maxRecDepth 100000 in
set_option maxHeartbeats 1000000 in
theorem indexfunc_any {w : World} {v : Value} {ns : List Int} (hV : ReadR w 1 intZ v ns) (hlen : ns.length ≤ 1000) {f : FuncId} {first caps : Array Value} (hE : Enters Tryz.prog f) (p : Int → Bool)
    (hf : ∀ k w', k ∈ ns → Ext w w' → Calls Tryz.prog f (first ++ #[.int .i64 k] ++ caps) w' fun e w'' => e = .returned (.bool (p k)) ∧ Ext w' w'') :
    Calls Tryz.prog 53 #[v, .func (.func f) first caps] w (IdxPost p ns w) := by
  obtain ⟨ao, cap, rfl, hc⟩ := hV.form
  have HV := hid hV
  have HC := hid hc
  have HF := hid hf
  have HEN := hid hE
  clear hc hV hf hE
  go_enter Tryz.func53, Tryz.ntmps53
  go_wp2_with fail
  go_loopg [8] ns.length (fun g u wr => ∃ k, g = ns.length - k ∧ k ≤ ns.length ∧ u = .int .i64 k ∧ Hid (∀ i y, i < k → ns[i]? = some y → p y = false) ∧ Hid (Ext w wr))
  case atStart => exact ⟨0, rfl, Nat.zero_le _, rfl, hid (fun i y h => by omega), hid (Below.refl _ w)⟩
  case round =>
    obtain ⟨k, rfl, hk, rfl, HN, HE⟩ := hrel
    by_cases hlt : k < ns.length
    · obtain ⟨b, off, rfl⟩ := HC.out (by omega)
      obtain ⟨q, hq⟩ : ∃ q, ns[k]? = some q := ⟨_, List.getElem?_eq_getElem hlt⟩
      have c1 : wr.cell? ⟨b, off + k, none⟩ = some (.int .i64 q) := (HV.out.ext HE.out).cell1 hq
      have HQ := hid hq
      clear hq
      go_wp2_with (with_reducible show wpList _ _ _ ((⟨some 16, _, _, _, _, _⟩ : Oper) :: _) _ _
                   go_loud (refine wpList_callb (args := #[.int .i64 q]) rfl (.tmp 11) #[.tmp 15] #[3] rfl HEN.out rfl rfl (HF.out q _ (List.mem_of_getElem? HQ.out) HE.out) ?_)
                   rintro e w2 ⟨rfl, hx⟩
                   refine ⟨_, rfl, ?_⟩
                   have HX := hid (HE.out.trans (hx.mono HE.out.size))
                   clear hx
                   cases hp : p q)
      · go_roundg (ns.length - (k + 1))
        case measure => omega
        case rel =>
          refine ⟨k + 1, rfl, by omega, by go_num, hid fun i y hi hr => ?_, HX⟩
          by_cases e : i = k
          · subst e; rw [HQ.out] at hr; cases hr; exact hp
          · exact HN.out i y (by omega) hr
      · go_ret
        exact ⟨HX.out, .inl ⟨k, q, rfl, HQ.out, hp, HN.out⟩⟩
    · go_wp2_with fail
      go_ret
      refine ⟨HE.out, .inr ⟨rfl, fun x hx => ?_⟩⟩
      obtain ⟨i, hi, rfl⟩ := List.getElem_of_mem hx
      exact HN.out i _ (by omega) (List.getElem?_eq_getElem hi)
end Go.Proofs.YtngpjagpeblbjaaGreatDoor
