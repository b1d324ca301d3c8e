/-
  Walk of the law RegexMatches.
-/
import Derived.Test.YtngpjagpeblbjaaDoorZV1
namespace Go.Proofs.YtngpjagpeblbjaaDoor
open Go.RowKit Go.Spy Go.Rx

def TruePost (w : World) (e : Ending) (w' : World) : Prop := e = .returned (.bool true) ∧ Ext w w'
theorem box_ext (w : World) (ao : Option Addr) (n cap : Nat) : Ext w (w.alloc (.cells #[.slice ao n cap] 24)) := (Below.refl _ w).alloc (Nat.le_refl _) _

set_option maxRecDepth 100000 in
set_option maxHeartbeats 2000000 in
theorem matches_big1 {l : List Nd} {w : World} {ao : Option Addr} (hV : NodesV w ao l) (cap : Nat) {aw : Option Addr} {cw : Nat} {ws : List ByteArray} (hS : StrsV w aw cw ws) (hcw : ws.length ≤ cw) (hT : TabW w) (hns : ¬ SmallL l) :
    Calls Tryd.prog 3 #[.agg #[.slice ao l.length cap], .slice aw ws.length cw] w (TruePost w) := by
  have HV := hid hV
  have HS := hid hS
  have HT := hid hT
  have hwl := hS.len
  have hnl := hV.len
  have HNS := hid hns
  clear hV hS hT hns
  go_enter Tryd.func3, Tryd.ntmps3
  go_wp2_with fail
  have HE0 := hid (box_ext w ao l.length cap)
  have HB0 := hid (Blk.new w 24 #[.slice ao l.length cap])
  have b0 := HB0.out.cell (i := 0) rfl
  refine (small_any (HV.out.ext HE0.out) cap).mono ?_
  rintro e w1 ⟨sb, rfl, hsb, hx⟩
  have hsb' : sb = false := by rw [← Bool.not_eq_true, hsb]; exact HNS.out
  subst hsb'
  clear hsb
  have HE1 := hid (HE0.out.trans (hx.mono HE0.out.size))
  have HB1 := hid (HB0.out.ext hx)
  have b1 : w1.cell? ⟨w.heap.size, 0, none⟩ = some (.slice ao l.length cap) := HB1.out.cell rfl
  clear hx b0
  go_wp2_with fail
  refine (awake_any (HT.out.ext HE1.out)).mono ?_
  rintro e w2 ⟨rfl, hx⟩
  have HE2 := hid (HE1.out.trans (hx.mono HE1.out.size))
  have HB2 := hid (HB1.out.ext hx)
  have b2 : w2.cell? ⟨w.heap.size, 0, none⟩ = some (.slice ao l.length cap) := HB2.out.cell rfl
  clear hx b1
  go_wp2_with fail
  go_ret
  exact ⟨rfl, HE2.out⟩

set_option maxRecDepth 100000 in
set_option maxHeartbeats 2000000 in
theorem matches_big2 {l : List Nd} {w : World} {ao : Option Addr} (hV : NodesV w ao l) (cap : Nat) {aw : Option Addr} {cw : Nat} {ws : List ByteArray} (hS : StrsV w aw cw ws) (hcw : ws.length ≤ cw) (hT : TabW w) (hns : SmallL l) (h5 : 5 < ws.length) :
    Calls Tryd.prog 3 #[.agg #[.slice ao l.length cap], .slice aw ws.length cw] w (TruePost w) := by
  have HV := hid hV
  have HS := hid hS
  have HT := hid hT
  have hwl := hS.len
  have hnl := hV.len
  have HNS := hid hns
  have hd : decide ((5 : Int) < (ws.length : Int)) = true := decide_eq_true (by omega)
  have hd2 : decide (5 < ws.length) = true := decide_eq_true h5
  clear hV hS hT hns
  go_enter Tryd.func3, Tryd.ntmps3
  go_wp2_with fail
  have HE0 := hid (box_ext w ao l.length cap)
  have HB0 := hid (Blk.new w 24 #[.slice ao l.length cap])
  have b0 := HB0.out.cell (i := 0) rfl
  refine (small_any (HV.out.ext HE0.out) cap).mono ?_
  rintro e w1 ⟨sb, rfl, hsb, hx⟩
  have hsb' : sb = true := hsb.2 HNS.out
  subst hsb'
  clear hsb
  have HE1 := hid (HE0.out.trans (hx.mono HE0.out.size))
  have HB1 := hid (HB0.out.ext hx)
  have b1 : w1.cell? ⟨w.heap.size, 0, none⟩ = some (.slice ao l.length cap) := HB1.out.cell rfl
  clear hx b0
  go_wp2_with fail
  refine (awake_any (HT.out.ext HE1.out)).mono ?_
  rintro e w2 ⟨rfl, hx⟩
  have HE2 := hid (HE1.out.trans (hx.mono HE1.out.size))
  have HB2 := hid (HB1.out.ext hx)
  have b2 : w2.cell? ⟨w.heap.size, 0, none⟩ = some (.slice ao l.length cap) := HB2.out.cell rfl
  clear hx b1
  go_wp2_with fail
  go_ret
  exact ⟨rfl, HE2.out⟩

set_option maxRecDepth 100000 in
set_option maxHeartbeats 2000000 in
theorem matches_none {l : List Nd} {w : World} {ao : Option Addr} (hV : NodesV w ao l) (cap : Nat) {aw : Option Addr} {cw : Nat} {ws : List ByteArray} (hS : StrsV w aw cw ws) (hcw : ws.length ≤ cw) (hT : TabW w) (hns : SmallL l) (h5 : ws.length ≤ 5) (hno : ¬ (l.length ≤ 1024 ∧ Rx.Form l ∧ NamesOk l)) :
    Calls Tryd.prog 3 #[.agg #[.slice ao l.length cap], .slice aw ws.length cw] w (TruePost w) := by
  have HV := hid hV
  have HS := hid hS
  have HT := hid hT
  have hwl := hS.len
  have hnl := hV.len
  have HNS := hid hns
  have hns1 := hns.1
  have hd : decide ((5 : Int) < (ws.length : Int)) = false := decide_eq_false (by omega)
  have hd2 : decide (5 < ws.length) = false := decide_eq_false (by omega)
  have HNO := hid hno
  clear hV hS hT hns hno
  go_enter Tryd.func3, Tryd.ntmps3
  go_wp2_with fail
  have HE0 := hid (box_ext w ao l.length cap)
  have HB0 := hid (Blk.new w 24 #[.slice ao l.length cap])
  have b0 := HB0.out.cell (i := 0) rfl
  refine (small_any (HV.out.ext HE0.out) cap).mono ?_
  rintro e w1 ⟨sb, rfl, hsb, hx⟩
  have hsb' : sb = true := hsb.2 HNS.out
  subst hsb'
  clear hsb
  have HE1 := hid (HE0.out.trans (hx.mono HE0.out.size))
  have HB1 := hid (HB0.out.ext hx)
  have b1 : w1.cell? ⟨w.heap.size, 0, none⟩ = some (.slice ao l.length cap) := HB1.out.cell rfl
  clear hx b0
  go_wp2_with fail
  refine (plain_any (HV.out.ext HE1.out) cap (by omega)).mono ?_
  rintro e w2 ⟨ap, cp, rfl, hcp, hNp, hx⟩
  obtain ⟨hx, _⟩ := hx
  have HNp := hid hNp
  clear hNp
  have HE2 := hid (HE1.out.trans (hx.mono HE1.out.size))
  have HB2 := hid (HB1.out.ext hx)
  have b2 : w2.cell? ⟨w.heap.size, 0, none⟩ = some (.slice ao l.length cap) := HB2.out.cell rfl
  clear hx b1
  go_wp2_with fail
  refine (refcheck_any (HNp.out.ext (Below.refl _ _)) cp).mono ?_
  rintro e w3 ⟨c1, rfl, hc1, hx⟩
  have HE3 := hid (HE2.out.trans (hx.mono HE2.out.size))
  have HB3 := hid (HB2.out.ext hx)
  have b3 : w3.cell? ⟨w.heap.size, 0, none⟩ = some (.slice ao l.length cap) := HB3.out.cell rfl
  clear hx b2
  go_wp2_with fail
  refine (check_any (HV.out.ext HE3.out) cap).mono ?_
  rintro e w4 ⟨c2, rfl, hc2, hx⟩
  obtain rfl := checkC_one hc1 hc2
  have hq : (c1 == 0) = false := beq_eq_false_iff_ne.2 (fun h => HNO.out ((checkC_zero hc1).1 h))
  have hq2 : (c1 != 0) = true := by simp [bne, hq]
  have hq3 : (c1 != c1) = false := by simp
  clear hc1 hc2
  have HE4 := hid (HE3.out.trans (hx.mono HE3.out.size))
  have HB4 := hid (HB3.out.ext hx)
  have b4 : w4.cell? ⟨w.heap.size, 0, none⟩ = some (.slice ao l.length cap) := HB4.out.cell rfl
  clear hx b3
  go_wp2_with fail
  refine (match_none (HV.out.ext HE4.out) cap HNO.out aw ws.length cw).mono ?_
  rintro e w5 ⟨rfl, hx⟩
  have HE5 := hid (HE4.out.trans (hx.mono HE4.out.size))
  have HB5 := hid (HB4.out.ext hx)
  have b5 : w5.cell? ⟨w.heap.size, 0, none⟩ = some (.slice ao l.length cap) := HB5.out.cell rfl
  clear hx b4
  go_wp2_with fail
  refine (nullable_none (HV.out.ext HE5.out) cap HNO.out).mono ?_
  rintro e w6 ⟨rfl, hx⟩
  have HE6 := hid (HE5.out.trans (hx.mono HE5.out.size))
  have HB6 := hid (HB5.out.ext hx)
  have b6 : w6.cell? ⟨w.heap.size, 0, none⟩ = some (.slice ao l.length cap) := HB6.out.cell rfl
  clear hx b5
  go_wp2_with fail
  refine (symbols_none (HV.out.ext HE6.out) cap HNO.out).mono ?_
  rintro e w7 ⟨rfl, hx⟩
  have HE7 := hid (HE6.out.trans (hx.mono HE6.out.size))
  have HB7 := hid (HB6.out.ext hx)
  have b7 : w7.cell? ⟨w.heap.size, 0, none⟩ = some (.slice ao l.length cap) := HB7.out.cell rfl
  clear hx b6
  go_wp2_with fail
  refine (awake_any (HT.out.ext HE7.out)).mono ?_
  rintro e w8 ⟨rfl, hx⟩
  have HE8 := hid (HE7.out.trans (hx.mono HE7.out.size))
  have HB8 := hid (HB7.out.ext hx)
  have b8 : w8.cell? ⟨w.heap.size, 0, none⟩ = some (.slice ao l.length cap) := HB8.out.cell rfl
  clear hx b7
  go_wp2_with fail
  go_ret
  exact ⟨rfl, HE8.out⟩

set_option maxRecDepth 100000 in
set_option maxHeartbeats 2000000 in
theorem matches_ok {l : List Nd} {w : World} {ao : Option Addr} (hV : NodesV w ao l) (cap : Nat) {aw : Option Addr} {cw : Nat} {ws : List ByteArray} (hS : StrsV w aw cw ws) (hcw : ws.length ≤ cw) (hT : TabW w) (hns : SmallL l) (h5 : ws.length ≤ 5) (hok : l.length ≤ 1024 ∧ Rx.Form l ∧ NamesOk l) :
    Calls Tryd.prog 3 #[.agg #[.slice ao l.length cap], .slice aw ws.length cw] w (TruePost w) := by
  have HV := hid hV
  have HS := hid hS
  have HT := hid hT
  have hwl := hS.len
  have hnl := hV.len
  have HNS := hid hns
  have hns1 := hns.1
  have hd : decide ((5 : Int) < (ws.length : Int)) = false := decide_eq_false (by omega)
  have hd2 : decide (5 < ws.length) = false := decide_eq_false (by omega)
  have h0 : 0 < l.length := List.length_pos_iff.2 hok.2.1.ne
  have hn1 : IntKind.i64.wrap ((l.length : Int) - 1) = ((l.length - 1 : Nat) : Int) := by rw [IntKind.wrap_i64]; omega
  have HOK := hid hok
  clear hV hS hT hns hok
  go_enter Tryd.func3, Tryd.ntmps3
  go_wp2_with fail
  have HE0 := hid (box_ext w ao l.length cap)
  have HB0 := hid (Blk.new w 24 #[.slice ao l.length cap])
  have b0 := HB0.out.cell (i := 0) rfl
  refine (small_any (HV.out.ext HE0.out) cap).mono ?_
  rintro e w1 ⟨sb, rfl, hsb, hx⟩
  have hsb' : sb = true := hsb.2 HNS.out
  subst hsb'
  clear hsb
  have HE1 := hid (HE0.out.trans (hx.mono HE0.out.size))
  have HB1 := hid (HB0.out.ext hx)
  have b1 : w1.cell? ⟨w.heap.size, 0, none⟩ = some (.slice ao l.length cap) := HB1.out.cell rfl
  clear hx b0
  go_wp2_with fail
  refine (plain_any (HV.out.ext HE1.out) cap (by omega)).mono ?_
  rintro e w2 ⟨ap, cp, rfl, hcp, hNp, hx⟩
  obtain ⟨hx, _⟩ := hx
  have HNp := hid hNp
  have HEp := hid (Below.refl w2.heap.size w2)
  clear hNp
  have HE2 := hid (HE1.out.trans (hx.mono HE1.out.size))
  have HB2 := hid (HB1.out.ext hx)
  have b2 : w2.cell? ⟨w.heap.size, 0, none⟩ = some (.slice ao l.length cap) := HB2.out.cell rfl
  clear hx b1
  go_wp2_with fail
  refine (refcheck_any (HNp.out.ext (Below.refl _ _)) cp).mono ?_
  rintro e w3 ⟨c1, rfl, hc1, hx⟩
  have HQ3 := hid (hx)
  have HE3 := hid (HE2.out.trans (hx.mono HE2.out.size))
  have HB3 := hid (HB2.out.ext hx)
  have b3 : w3.cell? ⟨w.heap.size, 0, none⟩ = some (.slice ao l.length cap) := HB3.out.cell rfl
  clear hx b2
  go_wp2_with fail
  refine (check_any (HV.out.ext HE3.out) cap).mono ?_
  rintro e w4 ⟨c2, rfl, hc2, hx⟩
  obtain rfl := checkC_one hc1 hc2
  have hq : c1 = 0 := (checkC_zero hc1).2 HOK.out
  subst hq
  clear hc1 hc2
  have HQ4 := hid (HQ3.out.trans (hx.mono HQ3.out.size))
  have HE4 := hid (HE3.out.trans (hx.mono HE3.out.size))
  have HB4 := hid (HB3.out.ext hx)
  have b4 : w4.cell? ⟨w.heap.size, 0, none⟩ = some (.slice ao l.length cap) := HB4.out.cell rfl
  clear hx b3
  go_wp2_with fail
  refine (match_any HOK.out.2.1 (HV.out.ext HE4.out) HOK.out.2.2 cap (by omega) (HS.out.ext HE4.out) hcw (HT.out.ext HE4.out)).mono ?_
  rintro e w5 ⟨rfl, hx⟩
  have HQ5 := hid (HQ4.out.trans (hx.mono HQ4.out.size))
  have HE5 := hid (HE4.out.trans (hx.mono HE4.out.size))
  have HB5 := hid (HB4.out.ext hx)
  have b5 : w5.cell? ⟨w.heap.size, 0, none⟩ = some (.slice ao l.length cap) := HB5.out.cell rfl
  clear hx b4
  go_wp2_with fail
  refine (refmatch_any HOK.out.2.1 cp (l.length - 1) ws _ ap aw ws.length cw rfl (HNp.out.ext HQ5.out) (HS.out.ext HE5.out) hcw (by omega)).mono ?_
  rintro e w6 ⟨rfl, hx⟩
  have HQ6 := hid (HQ5.out.trans (hx.mono HQ5.out.size))
  have HE6 := hid (HE5.out.trans (hx.mono HE5.out.size))
  have HB6 := hid (HB5.out.ext hx)
  have b6 : w6.cell? ⟨w.heap.size, 0, none⟩ = some (.slice ao l.length cap) := HB6.out.cell rfl
  clear hx b5
  go_wp2_with fail
  refine (nullable_any HOK.out.2.1 (HV.out.ext HE6.out) HOK.out.2.2 cap (by omega)).mono ?_
  rintro e w7 ⟨rfl, hx⟩
  have HQ7 := hid (HQ6.out.trans (hx.mono HQ6.out.size))
  have HE7 := hid (HE6.out.trans (hx.mono HE6.out.size))
  have HB7 := hid (HB6.out.ext hx)
  have b7 : w7.cell? ⟨w.heap.size, 0, none⟩ = some (.slice ao l.length cap) := HB7.out.cell rfl
  clear hx b6
  go_wp2_with fail
  refine (null_any HOK.out.2.1 (l.length - 1) _ ap cp (HNp.out.ext HQ7.out) (by omega)).mono ?_
  rintro e w8 ⟨rfl, hx⟩
  have HQ8 := hid (HQ7.out.trans (hx.mono HQ7.out.size))
  have HE8 := hid (HE7.out.trans (hx.mono HE7.out.size))
  have HB8 := hid (HB7.out.ext hx)
  have b8 : w8.cell? ⟨w.heap.size, 0, none⟩ = some (.slice ao l.length cap) := HB8.out.cell rfl
  clear hx b7
  go_wp2_with fail
  refine (awake_any (HT.out.ext HE8.out)).mono ?_
  rintro e w9 ⟨rfl, hx⟩
  have HQ9 := hid (HQ8.out.trans (hx.mono HQ8.out.size))
  have HE9 := hid (HE8.out.trans (hx.mono HE8.out.size))
  have HB9 := hid (HB8.out.ext hx)
  have b9 : w9.cell? ⟨w.heap.size, 0, none⟩ = some (.slice ao l.length cap) := HB9.out.cell rfl
  clear hx b8
  go_wp2_with fail
  go_ret
  exact ⟨by simp, HE9.out⟩


theorem matches_any {l : List Nd} {w : World} {ao : Option Addr} (hV : NodesV w ao l) (cap : Nat) {aw : Option Addr} {cw : Nat} {ws : List ByteArray} (hS : StrsV w aw cw ws) (hcw : ws.length ≤ cw) (hT : TabW w) :
    Calls Tryd.prog 3 #[.agg #[.slice ao l.length cap], .slice aw ws.length cw] w (TruePost w) := by
  by_cases h1 : SmallL l
  · by_cases h2 : ws.length ≤ 5
    · by_cases h3 : l.length ≤ 1024 ∧ Rx.Form l ∧ NamesOk l
      · exact matches_ok hV cap hS hcw hT h1 h2 h3
      · exact matches_none hV cap hS hcw hT h1 h2 h3
    · exact matches_big2 hV cap hS hcw hT h1 (by omega)
  · exact matches_big1 hV cap hS hcw hT h1

end Go.Proofs.YtngpjagpeblbjaaDoor
