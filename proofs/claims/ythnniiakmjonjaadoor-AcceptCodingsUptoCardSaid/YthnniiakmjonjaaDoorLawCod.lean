/- The walk of turnpikelaw07.AcceptCodings: true. Conditions: at most 2^30 letters and elements; bytealg's MaxLen holds an int; octet.signs holds what the text lays. -/
import Derived.Test.YthnniiakmjonjaaDoorCod
import Derived.Test.YthnniiakmjonjaaDoorLawMeet
namespace Go.Proofs.YthnniiakmjonjaaDoor
open Go.RowKit
set_option linter.unusedSimpArgs false
set_option linter.unusedVariables false
set_option maxRecDepth 1000000
theorem wlen_bd (l : List Wgt) (h : totF wgtLen l ≤ 1099511627776) : WLen l := fun i p hp => Nat.le_trans (totF_get wgtLen l i p hp) h
theorem tlen_bd (l : List (List UInt8)) (h : totF List.length l ≤ 1099511627776) : TLen l := fun i p hp => Nat.le_trans (totF_get List.length l i p hp) h
set_option maxHeartbeats 4000000 in
theorem acceptCodings_any (v ov : Value) (l : List Wgt) (gv : Bool) (o : List (List UInt8)) (mm : Int) (w : World) (hN : l.length ≤ 1073741824) (hs : WLen l) (hO : o.length ≤ 1073741824) (hT : TLen o) (h : WgtsIn w v l) (ho : TxtsIn w ov o) (hx : w.cell? ⟨1, 0, none⟩ = some (.int .i64 mm)) (hg : SgAt w) :
    Calls Tryd.prog 6 #[v, .bool gv, ov] w fun e w' => e = .returned (.bool true) ∧ Below w.heap.size w w' := by
  have HWT := Lib.hid (weights_any v l w hN h)
  have HI := Lib.hid (And.intro (And.intro h ho) (And.intro hx hg))
  have HN := Lib.hid (And.intro (And.intro hN hs) (And.intro hO hT))
  clear h ho hx hg hN hs hO hT
  obtain ⟨q, hq⟩ : ∃ q, chTx (codG l gv) o = q := ⟨_, rfl⟩
  have HQ := Lib.hid hq
  clear hq
  go_enter Tryd.func6, Tryd.ntmps6
  go_wp2_with fail
  refine (HWT.out).mono ?_
  rintro e w1 ⟨tv, rfl, hot, hb1⟩
  have HB1 := Lib.hid hb1
  have HT1 := Lib.hid (wgtsIn_own hot)
  clear hb1 hot
  go_wp2_with fail
  refine (awake07_any mm w1 (mx_later (B := 0) HI.out.2.1 HB1.out) (HI.out.2.2.below HB1.out)).mono ?_
  rintro e w2 ⟨rfl, hb2⟩
  have HB2 := Lib.hid (HB1.out.trans (hb2.mono HB1.out.size))
  have HT2 := Lib.hid (HT1.out.below hb2)
  clear hb2
  go_wp2_with fail
  refine (chooseCoding_any v ov l gv o w2 HN.out.1.1 HN.out.1.2 HN.out.2.1 HN.out.2.2 (HI.out.1.1.below HB2.out) (HI.out.1.2.below HB2.out)).mono ?_
  rintro e w3 ⟨rfl, hb3⟩
  rw [HQ.out]
  have HB3 := Lib.hid (HB2.out.trans (hb3.mono HB2.out.size))
  have HT3 := Lib.hid (HT2.out.below hb3)
  clear hb3
  go_wp2_with fail
  refine (rchooseCoding_any tv ov l gv o w3 HN.out.1.1 HN.out.1.2 HN.out.2.1 HN.out.2.2 HT3.out (HI.out.1.2.below HB3.out)).mono ?_
  rintro e w4 ⟨rfl, hb4⟩
  rw [HQ.out]
  have HB4 := Lib.hid (HB3.out.trans (hb4.mono HB3.out.size))
  have HT4 := Lib.hid (HT3.out.below hb4)
  have hbq : (q == q) = true := by simp
  clear hb4
  go_wp2_with fail
  refine (sameWeights_any v tv l w4 HN.out.1.1 (HI.out.1.1.below HB4.out) HT4.out).mono ?_
  rintro e w5 ⟨rfl, hb5⟩
  have HB5 := Lib.hid (HB4.out.trans (hb5.mono HB4.out.size))
  clear hb5
  go_wp2
  go_ret
  exact ⟨rfl, HB5.out⟩
theorem acceptCodings_row (v0 : Value) (l : List Wgt) (gv : Bool) (v2 : Value) (o : List (List UInt8)) (W : World) (hL : laidMetH Tryd.prog Rows.acceptCodingsUptoRow.laid W) (hsh : W.ShapedOpen Tryd.prog) (hs : (totF wgtLen l + l.length) + (totF List.length o + o.length) ≤ 1048576) (h0 : WgtsIn W v0 l) (h2 : TxtsIn W v2 o) :
    Calls Tryd.prog 6 #[v0, .bool gv, v2] W fun e W' => e = .returned (.bool true) ∧ Below W.heap.size W W' := by
  obtain ⟨mm, hm⟩ := Tryd.laysM145.s1_3 W hsh
  exact acceptCodings_any v0 v2 l gv o mm W (by omega) (wlen_bd l (by omega)) (by omega) (tlen_bd o (by omega)) h0 h2 hm (sg_of_laid (l := Rows.acceptCodingsUptoRow.laid) (by simp [Rows.acceptCodingsUptoRow]) hL)
end Go.Proofs.YthnniiakmjonjaaDoor
