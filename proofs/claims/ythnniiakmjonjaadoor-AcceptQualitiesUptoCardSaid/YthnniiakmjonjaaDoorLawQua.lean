/- The walk of turnpikelaw07.AcceptQualities: true. Conditions: at most 1048576 letters; bytealg's MaxLen holds an int; octet.signs holds what the text lays. -/
import Derived.Test.YthnniiakmjonjaaDoorAwake07
import Derived.Test.YthnniiakmjonjaaDoorRQua
import Derived.Test.YthnniiakmjonjaaDoorLaidSg
namespace Go.Proofs.YthnniiakmjonjaaDoor
open Go.RowKit
set_option linter.unusedSimpArgs false
set_option linter.unusedVariables false
set_option maxRecDepth 1000000
set_option maxHeartbeats 2000000 in
theorem acceptQualities_any (s : ByteArray) (m : Int) (w : World) (hs : s.size ≤ 1048576) (hm : w.cell? ⟨1, 0, none⟩ = some (.int .i64 m)) (hg : SgAt w) :
    Calls Tryd.prog 4 #[.string s] w fun e w' => e = .returned (.bool true) ∧ Below w.heap.size w w' := by
  have hq := oqual_any s m w (by omega) hm
  unfold QuPost at hq
  have hr := fun w1 => rqual_any s w1 (Nat.le_trans hs (by decide))
  obtain ⟨⟨a, b⟩, hab⟩ : ∃ r, quR s.data.toList = r := ⟨_, rfl⟩
  rw [hab] at hq
  simp only [hab] at hr
  have HQ := Lib.hid hq; have HR := Lib.hid hr
  have HMG := Lib.hid (And.intro hm hg)
  clear hq hr hab hm hg
  go_enter Tryd.func4, Tryd.ntmps4
  go_wp2_with fail
  refine (HQ.out).mono ?_
  rintro e w1 ⟨rfl, hb1⟩
  have HB1 := Lib.hid hb1
  clear hb1
  go_wp2_with fail
  refine (HR.out _).mono ?_
  rintro e w2 ⟨rfl, hw2⟩
  rw [hw2]
  clear hw2
  go_wp2_with fail
  refine (awake07_any m _ (mx_later (B := 0) HMG.out.1 HB1.out) (HMG.out.2.below HB1.out)).mono ?_
  rintro e w3 ⟨rfl, hb3⟩
  have b3 := HB1.out.trans (hb3.mono HB1.out.size)
  have HB3 := Lib.hid b3
  clear b3 hb3
  go_wp2
  go_ret
  exact ⟨by simp, HB3.out⟩
theorem acceptQualities_row (s : ByteArray) (W : World) (hL : laidMetH Tryd.prog Rows.acceptQualitiesUptoRow.laid W) (hsh : W.ShapedOpen Tryd.prog) (hs : s.size ≤ 1048576) :
    Calls Tryd.prog 4 #[.string s] W fun e W' => e = .returned (.bool true) ∧ Below W.heap.size W W' := by
  obtain ⟨m, hm⟩ := Tryd.laysM145.s1_3 W hsh
  exact acceptQualities_any s m W hs hm (sg_of_laid (l := Rows.acceptQualitiesUptoRow.laid) (by simp [Rows.acceptQualitiesUptoRow]) hL)
end Go.Proofs.YthnniiakmjonjaaDoor
