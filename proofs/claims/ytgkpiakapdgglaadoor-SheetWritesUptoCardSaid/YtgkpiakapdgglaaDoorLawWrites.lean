/- The walk of turnpikelaw15.SheetWrites: true. Conditions: at most 1048576 letters and parts; bytealg's MaxLen holds an int; octet.signs holds what the text lays. -/
import Derived.Test.YtgkpiakapdgglaaDoorRWrt
import Derived.Test.YtgkpiakapdgglaaDoorGiven
import Derived.Test.YtgkpiakapdgglaaDoorAwake15
import Derived.Test.YtgkpiakapdgglaaDoorOpenPrts
import Derived.Test.YtgkpiakapdgglaaDoorLaidSg
namespace Go.Proofs.YtgkpiakapdgglaaDoor
open Go.RowKit
set_option linter.unusedSimpArgs false
set_option linter.unusedVariables false
set_option maxRecDepth 1000000
theorem wrt_no (b : List UInt8) (l : List Prt) : ∃ n : Nat, (wrtR b l).2 = n := ⟨_, rfl⟩
set_option maxHeartbeats 2000000 in
theorem sheetWrites_any (s : ByteArray) (v : Value) (l : List Prt) (m : Int) (w : World) (hs : s.size ≤ 1048576) (hT : totQ l ≤ 1048576) (hN : l.length ≤ 1048576) (h : PrtsIn w v l) (hg : SgAt w) (hm : w.cell? ⟨1, 0, none⟩ = some (.int .i64 m)) :
    Calls Tryd.prog 7 #[.string s, v] w fun e w' => e = .returned (.bool true) ∧ Below w.heap.size w w' := by
  obtain ⟨A, hA⟩ : ∃ A, (wrtR s.data.toList l).1 = A := ⟨_, rfl⟩
  obtain ⟨n, hn⟩ : ∃ n, (wrtR s.data.toList l).2 = n := ⟨_, rfl⟩
  have HA := Lib.hid (And.intro hA hn)
  clear hA hn
  go_enter Tryd.func7, Tryd.ntmps7
  go_wp2_with fail
  refine (given_any v l w (Nat.le_trans hN (by decide)) h).mono ?_
  rintro e w1 ⟨v1, rfl, ho1, hb1⟩
  have HB1 := Lib.hid hb1
  have H1 := Lib.hid (prtsIn_own ho1)
  clear hb1 ho1
  go_wp2_with fail
  refine (swrt_any s v l m w1 hs hT hN (h.below HB1.out) (hg.below HB1.out) (mx_later (B := 0) hm HB1.out)).mono ?_
  rintro e w2 h2
  unfold WrtPost at h2
  rw [HA.out.1, HA.out.2] at h2
  obtain ⟨rfl, hb2⟩ := h2
  have b2 := HB1.out.trans (hb2.mono HB1.out.size)
  have HB2 := Lib.hid b2
  have H2 := Lib.hid (H1.out.below hb2)
  clear b2 hb2
  go_wp2_with fail
  refine (rwrt_any s v1 l w2 hs hT hN H2.out).mono ?_
  rintro e w3 h3
  unfold WrtPost at h3
  rw [HA.out.1, HA.out.2] at h3
  obtain ⟨rfl, hb3⟩ := h3
  have b3 := HB2.out.trans (hb3.mono HB2.out.size)
  have HB3 := Lib.hid b3
  have H3 := Lib.hid (H2.out.below hb3)
  clear b3 hb3
  go_wp2_with fail
  refine (awake15_any m _ (mx_later (B := 0) hm HB3.out)).mono ?_
  rintro e w4 ⟨rfl, hb4⟩
  have b4 := HB3.out.trans (hb4.mono HB3.out.size)
  have HB4 := Lib.hid b4
  have H4 := Lib.hid (H3.out.below hb4)
  clear b4 hb4
  go_wp2_with fail
  refine (lawprts_any v v1 l w4 (Nat.le_trans hN (by decide)) (h.below HB4.out) H4.out).mono ?_
  rintro e w5 ⟨rfl, hb5⟩
  have b5 := HB4.out.trans (hb5.mono HB4.out.size)
  have HB5 := Lib.hid b5
  clear b5 hb5
  go_wp2
  go_ret
  exact ⟨by simp, HB5.out⟩
theorem sheetWrites_row (s : ByteArray) (v : Value) (l : List Prt) (W : World) (hL : laidMetH Tryd.prog Rows.sheetWritesUptoRow.laid W) (hsh : W.ShapedOpen Tryd.prog) (hs : s.size ≤ 1048576 ∧ totQ l + l.length ≤ 1048576) (h : PrtsIn W v l) :
    Calls Tryd.prog 7 #[.string s, v] W fun e W' => e = .returned (.bool true) ∧ Below W.heap.size W W' := by
  obtain ⟨m, hm⟩ := Tryd.laysM144.s1_3 W hsh
  exact sheetWrites_any s v l m W hs.1 (by omega) (by omega) h (sg_of_laid (l := Rows.sheetWritesUptoRow.laid) (by simp [Rows.sheetWritesUptoRow]) hL) hm
end Go.Proofs.YtgkpiakapdgglaaDoor
