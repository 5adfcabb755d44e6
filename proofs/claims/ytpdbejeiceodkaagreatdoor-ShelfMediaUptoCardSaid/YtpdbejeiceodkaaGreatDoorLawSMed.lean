/- The walk of turnpikelaw17.ShelfMedia: true. Conditions: at most 2^40 bytes; bytealg's MaxLen holds an int; octet.signs holds what the text lays. -/
import Derived.Test.YtpdbejeiceodkaaGreatDoorShW
import Derived.Test.YtpdbejeiceodkaaGreatDoorRMof
namespace Go.Proofs.YtpdbejeiceodkaaGreatDoor
open Go.RowKit
set_option linter.unusedSimpArgs false
set_option linter.unusedVariables false
set_option maxRecDepth 1000000
theorem shelfMedia_any (s : ByteArray) (mm : Int) (w : World) (hs : s.size ≤ 1048576) (hx : w.cell? ⟨0, 0, none⟩ = some (.int .i64 mm)) (hg : SgAt w) :
    Calls Tryz.prog 3 #[.string s] w fun e w' => e = .returned (.bool true) ∧ Below w.heap.size w w' := by
  have h0 := awake17_any mm w hx hg
  have h1 := fun w => omof_any s w (Nat.le_trans hs (by decide))
  have h2 := fun w => rmof_any s w (Nat.le_trans hs (by decide))
  obtain ⟨D, hD⟩ : ∃ D, mofF s.data.toList = D := ⟨_, rfl⟩
  rw [hD] at h1 h2
  have H0 := Lib.hid h0; have H1 := Lib.hid h1; have H2 := Lib.hid h2
  clear h0 h1 h2 hx hg hD hs
  go_enter Tryz.func3, Tryz.ntmps3
  go_wp2_with fail
  refine (H0.out).mono ?_
  rintro e w1 ⟨rfl, hb1⟩
  have HB1 := Lib.hid hb1
  clear hb1
  go_wp2_with fail
  refine (H1.out _).mono ?_
  rintro e w2 ⟨rfl, hb2⟩
  have HB2 := Lib.hid (HB1.out.trans (hb2.mono HB1.out.size))
  clear hb2
  go_wp2_with fail
  refine (H2.out _).mono ?_
  rintro e w3 ⟨rfl, hb3⟩
  have HB3 := Lib.hid (HB2.out.trans (hb3.mono HB2.out.size))
  clear hb3
  go_wp2
  go_ret
  exact ⟨by simp, HB3.out⟩
theorem shelfMedia_row (s : ByteArray) (W : World) (hL : laidMetH Tryz.prog Rows.shelfMediaUptoRow.laid W) (hsh : W.ShapedOpen Tryz.prog) (hs : s.size ≤ 1048576) :
    Calls Tryz.prog 3 #[.string s] W fun e W' => e = .returned (.bool true) ∧ Below W.heap.size W W' := by
  obtain ⟨m, hm⟩ := Tryz.laysM145.s1_3 W hsh
  exact shelfMedia_any s m W hs hm (sg_of_laid (l := Rows.shelfMediaUptoRow.laid) (by simp [Rows.shelfMediaUptoRow]) hL)
end Go.Proofs.YtpdbejeiceodkaaGreatDoor
