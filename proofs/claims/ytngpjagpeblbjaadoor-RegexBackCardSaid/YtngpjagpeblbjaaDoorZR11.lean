/-
  Walk of Text's first closure: the text of a part, in brackets or not.
-/
import Derived.Test.YtngpjagpeblbjaaDoorZR10
namespace Go.Proofs.YtngpjagpeblbjaaDoor
open Go.RowKit Go.Spy Go.Rx

def parB (b : Bool) (t : ByteArray) : ByteArray := if b then ⟨#[40]⟩ ++ t ++ ⟨#[41]⟩ else t
def bs (x : List UInt8) : ByteArray := ⟨x.toArray⟩
theorem toL (x : ByteArray) : x.toList = x.data.toList := by obtain ⟨⟨y⟩⟩ := x; exact ByteArray.toList_mk _
theorem bs_append (x y : List UInt8) : bs (x ++ y) = bs x ++ bs y := by
  apply bytes_ext
  rw [toL, toL, ByteArray.data_append]
  simp [bs]
theorem bs_cons (c : UInt8) (y : List UInt8) : bs (c :: y) = bs [c] ++ bs y := bs_append [c] y
theorem parB_bs (b : Bool) (x : List UInt8) : parB b (bs x) = bs (par b x) := by
  cases b with
  | false => rfl
  | true =>
    show ⟨#[40]⟩ ++ bs x ++ ⟨#[41]⟩ = bs (40 :: (x ++ [41]))
    rw [bs_cons, bs_append, ByteArray.append_assoc]; rfl
theorem bs_size (x : List UInt8) : (bs x).size = x.length := rfl

theorem txtB_cat (a b : RT ByteArray) : bs (txt (.cat a b)) = parB (isA a) (bs (txt a)) ++ ⟨#[44]⟩ ++ parB (isA b || isC b) (bs (txt b)) := by
  rw [txt, bs_append, bs_cons, parB_bs, parB_bs, ByteArray.append_assoc]; rfl
theorem txtB_alt (a b : RT ByteArray) : bs (txt (.alt a b)) = bs (txt a) ++ ⟨#[124]⟩ ++ parB (isA b) (bs (txt b)) := by
  rw [txt, bs_append, bs_cons, parB_bs, ByteArray.append_assoc]; rfl
theorem txtB_star (a : RT ByteArray) : bs (txt (.star a)) = parB (isA a || isC a) (bs (txt a)) ++ ⟨#[42]⟩ := by
  rw [txt, bs_append, parB_bs]; rfl

set_option maxRecDepth 100000 in
set_option maxHeartbeats 1000000 in
theorem part1_any {w : World} {l : List Nd} {ao : Option Addr} {cap bR bT bt N : Nat} {at_ : Nat} {n : Nd} (hn : l[at_]? = some n) (hV : NodesV w ao l) (hR : w.cell? ⟨bR, 0, none⟩ = some (.slice ao l.length cap)) (hT : w.cell? ⟨bT, 0, none⟩ = some (.slice (some ⟨bt, 0, none⟩) N N)) {t : ByteArray} (ht : w.cell? ⟨bt, at_, none⟩ = some (.string t)) (hat : at_ < N) (hN : N ≤ 1024) {v : Value} {ns : List Nat} (hv : NatsV w v ns) (hlen : ns.length ≤ 64) (hts : t.size ≤ 1000000) :
    Calls Tryd.prog 34 #[.int .i64 at_, v, .pointer (some ⟨bR, 0, none⟩), .pointer (some ⟨bT, 0, none⟩)] w fun e w' => e = .returned (.string (parB (hasI ns n.op) t)) ∧ w = w' := by
  have hlt := lt_of_some hn
  obtain ⟨b, off, rfl, hb, hc⟩ := hV.cells (by omega)
  obtain ⟨q0, -, -, -⟩ := hc at_ n hn
  have H := hid (contains_any hv hlen n.op)
  clear hc hn hv hV
  cases hy : hasI ns n.op
  all_goals
    have HY := hid hy
    clear hy
    go_enter Tryd.func34, Tryd.ntmps34
    go_wp2_with fail
    refine H.out.mono ?_
    rintro e w2 ⟨rfl, rfl⟩
    rw [HY.out]
    go_wp2_with fail
    go_ret
    exact ⟨rfl, rfl⟩

end Go.Proofs.YtngpjagpeblbjaaDoor
