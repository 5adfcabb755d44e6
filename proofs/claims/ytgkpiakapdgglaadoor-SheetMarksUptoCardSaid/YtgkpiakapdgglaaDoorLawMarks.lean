/- The walk of turnpikelaw15.SheetMarks: true. Conditions: at most 1048576 letters and parts; bytealg's MaxLen holds an int; strconv's table holds what the text lays. -/
import Derived.Test.YtgkpiakapdgglaaDoorBry
import Derived.Test.YtgkpiakapdgglaaDoorGiven
import Derived.Test.YtgkpiakapdgglaaDoorAwake15
import Derived.Test.YtgkpiakapdgglaaDoorOpenPrts
import Derived.Test.YtgkpiakapdgglaaDoorLaidPow
namespace Go.Proofs.YtgkpiakapdgglaaDoor
open Go.RowKit
set_option linter.unusedSimpArgs false
set_option linter.unusedVariables false
set_option maxRecDepth 1000000
set_option maxHeartbeats 2000000 in
theorem sheetMarks_any (s : ByteArray) (v : Value) (l : List Prt) (m : Int) (w : World) (hs : s.size ≤ 1048576) (hT : totQ l ≤ 1048576) (hN : l.length ≤ 1048576) (h : PrtsIn w v l) (hp : PowAt w) (hm : w.cell? ⟨1, 0, none⟩ = some (.int .i64 m)) :
    Calls Tryd.prog 5 #[.string s, v] w fun e w' => e = .returned (.bool true) ∧ Below w.heap.size w w' := by
  have hs40 : s.size ≤ 1099511627776 := Nat.le_trans hs (by decide)
  obtain ⟨N, hNb, hno, hyes⟩ := bry_first l hT hN
  go_enter Tryd.func5, Tryd.ntmps5
  go_wp2_with fail
  refine (awake15_any m _ hm).mono ?_
  rintro e w1 ⟨rfl, hb1⟩
  have HB1 := Lib.hid hb1; clear hb1
  go_wp2_with fail
  refine (isbound_any s _ hs40).mono ?_
  rintro e w2 ⟨rfl, rfl⟩
  go_wp2_with fail
  refine (ismark_any s _ hs40).mono ?_
  rintro e w3 ⟨rfl, hb3⟩
  have b3 := HB1.out.trans (hb3.mono HB1.out.size)
  have HB3 := Lib.hid b3; clear b3 hb3
  have hm3 := mx_later (B := 0) hm HB3.out
  go_wp2_with fail
  refine (sbry_any v l m N w3 hT hN hNb hno hyes (h.below HB3.out) (hp.below HB3.out) hm3).mono ?_
  rintro e w4 ⟨rfl, hb4⟩
  have b4 := HB3.out.trans (hb4.mono HB3.out.size)
  have HB4 := Lib.hid b4; clear b4 hb4 hm3
  go_wp2_with fail
  refine (given_any v l w4 (Nat.le_trans hN (by decide)) (h.below HB4.out)).mono ?_
  rintro e w5 ⟨v5, rfl, ho5, hb5⟩
  have b5 := HB4.out.trans (hb5.mono HB4.out.size)
  have HB5 := Lib.hid b5; clear b5 hb5
  have h5 := prtsIn_own ho5
  have H5 := Lib.hid h5; clear h5 ho5
  go_wp2_with fail
  refine (rbry_any v5 l N w5 hT hN hNb hno hyes H5.out).mono ?_
  rintro e w6 ⟨rfl, hb6⟩
  have b6 := HB5.out.trans (hb6.mono HB5.out.size)
  have HB6 := Lib.hid b6; clear b6 hb6
  go_wp2
  go_ret
  exact ⟨by simp, HB6.out⟩
theorem sheetMarks_row (s : ByteArray) (v : Value) (l : List Prt) (W : World) (hL : laidMetH Tryd.prog Rows.sheetMarksUptoRow.laid W) (hsh : W.ShapedOpen Tryd.prog) (hs : s.size ≤ 1048576 ∧ totQ l + l.length ≤ 1048576) (h : PrtsIn W v l) :
    Calls Tryd.prog 5 #[.string s, v] W fun e w' => e = .returned (.bool true) ∧ Below W.heap.size W w' := by
  obtain ⟨m, hm⟩ := Tryd.laysM144.s1_3 W hsh
  exact sheetMarks_any s v l m W hs.1 (by omega) (by omega) h (pow_of_laid (l := Rows.sheetMarksUptoRow.laid) (by simp [Rows.sheetMarksUptoRow]) hL) hm
end Go.Proofs.YtgkpiakapdgglaaDoor
