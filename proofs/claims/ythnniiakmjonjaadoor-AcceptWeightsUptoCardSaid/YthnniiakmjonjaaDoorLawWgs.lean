/- The walk of turnpikelaw07.AcceptWeights: true. Conditions: at most 1048576 letters; bytealg's MaxLen holds an int; octet.signs holds what the text lays. -/
import Derived.Test.YthnniiakmjonjaaDoorRWgs
import Derived.Test.YthnniiakmjonjaaDoorWts
import Derived.Test.YthnniiakmjonjaaDoorAwake07
import Derived.Test.YthnniiakmjonjaaDoorLaidSg
namespace Go.Proofs.YthnniiakmjonjaaDoor
open Go.RowKit
set_option linter.unusedSimpArgs false
set_option linter.unusedVariables false
set_option maxRecDepth 1000000
theorem wgR_len (L : List UInt8) (n : Nat) (h : L.length ≤ n) : (wgR L).1.length ≤ n + 1 := by
  unfold wgR
  split
  · exact Nat.zero_le _
  · split
    · exact Nat.zero_le _
    · show (wgW (lsR L).1).length ≤ _
      unfold wgW
      rw [List.length_map]
      have := (lsR_len L).1
      omega
theorem own_wslice {w : World} {base : Nat} {T : TypeId} {v : Value} {l : List Wgt} (h : w.ownsRow base T 2 v l.length (wgtsV l)) : ∃ ao cap, v = .slice ao l.length cap := own_slice h
set_option maxHeartbeats 4000000 in
theorem acceptWeights_any (s : ByteArray) (mm : Int) (w : World) (hs : s.size ≤ 1048576) (hx : w.cell? ⟨1, 0, none⟩ = some (.int .i64 mm)) (hg : SgAt w) :
    Calls Tryd.prog 10 #[.string s] w fun e w' => e = .returned (.bool true) ∧ Below w.heap.size w w' := by
  have h1 := oweights_any s mm w hs hx hg
  have h2 := fun w => rweights_any s w hs
  have hpl := wgR_len s.data.toList s.size (by rw [size_list]; exact Nat.le_refl _)
  unfold WgPost at h1 h2
  obtain ⟨⟨ws, er⟩, hr⟩ : ∃ r, wgR s.data.toList = r := ⟨_, rfl⟩
  rw [hr] at h1 hpl
  simp only [hr] at h2
  have hpl2 : ws.length ≤ 1073741824 := by simp only at hpl; omega
  have H1 := Lib.hid h1; have H2 := Lib.hid h2; have HX := Lib.hid (And.intro hx hg); have HPL := Lib.hid hpl2
  clear h1 h2 hr hpl hpl2 hx hg
  go_enter Tryd.func10, Tryd.ntmps10
  go_wp2_with fail
  refine (H1.out).mono ?_
  rintro e w1 ⟨v1, rfl, ho1, hb1⟩
  have HW1 := Lib.hid (wgtsIn_own ho1); have HB1 := Lib.hid hb1
  clear ho1 hb1
  go_wp2_with fail
  refine (H2.out _).mono ?_
  rintro e w2 ⟨v2, rfl, ho2, hb2⟩
  have HW2 := Lib.hid (And.intro (HW1.out.below hb2) (wgtsIn_own ho2)); have HB2 := Lib.hid (HB1.out.trans (hb2.mono HB1.out.size))
  clear ho2 hb2
  go_wp2_with fail
  refine (awake07_any mm w2 (mx_later (B := 0) HX.out.1 HB2.out) (HX.out.2.below HB2.out)).mono ?_
  rintro e w3 ⟨rfl, hb3⟩
  have HAL := Lib.hid (sameWeights_any v1 v2 ws w3 HPL.out (HW2.out.1.below hb3) (HW2.out.2.below hb3))
  have HB3 := Lib.hid (HB2.out.trans (hb3.mono HB2.out.size))
  clear hb3
  go_wp2_with fail
  refine (HAL.out).mono ?_
  rintro e w4 ⟨rfl, hb4⟩
  have HB4 := Lib.hid (HB3.out.trans (hb4.mono HB3.out.size))
  clear hb4
  go_wp2
  go_ret
  exact ⟨by simp, HB4.out⟩
theorem acceptWeights_row (s : ByteArray) (W : World) (hL : laidMetH Tryd.prog Rows.acceptWeightsUptoRow.laid W) (hsh : W.ShapedOpen Tryd.prog) (hs : s.size ≤ 1048576) :
    Calls Tryd.prog 10 #[.string s] W fun e W' => e = .returned (.bool true) ∧ Below W.heap.size W W' := by
  obtain ⟨m, hm⟩ := Tryd.laysM145.s1_3 W hsh
  exact acceptWeights_any s m W hs hm (sg_of_laid (l := Rows.acceptWeightsUptoRow.laid) (by simp [Rows.acceptWeightsUptoRow]) hL)
end Go.Proofs.YthnniiakmjonjaaDoor
