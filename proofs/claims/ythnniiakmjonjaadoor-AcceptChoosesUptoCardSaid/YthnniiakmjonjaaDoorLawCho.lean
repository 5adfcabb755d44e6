/- The walks of turnpikelaw07.AcceptChooses and AcceptBest: true. Conditions: at most 2^30 letters, parameters and elements; bytealg's MaxLen holds an int; octet.signs holds what the text lays. -/
import Derived.Test.YthnniiakmjonjaaDoorRChs
import Derived.Test.YthnniiakmjonjaaDoorLawMeet
namespace Go.Proofs.YthnniiakmjonjaaDoor
open Go.RowKit
set_option linter.unusedSimpArgs false
set_option linter.unusedVariables false
set_option maxRecDepth 1000000
set_option maxHeartbeats 4000000 in
theorem acceptChooses_any (v ov : Value) (l : List Rng) (o : List Mdm) (mm : Int) (w : World) (hN : totF rngLen l + l.length ≤ 1073741824) (hO : totF mdmLen o + o.length ≤ 1073741824) (h : RngsIn w v l) (ho : MedsIn w ov o) (hx : w.cell? ⟨1, 0, none⟩ = some (.int .i64 mm)) (hg : SgAt w) :
    Calls Tryd.prog 11 #[v, ov] w fun e w' => e = .returned (.bool true) ∧ Below w.heap.size w w' := by
  have HAW := Lib.hid (awake07_any mm w hx hg)
  have HI := Lib.hid (And.intro h ho)
  have HN := Lib.hid (And.intro hN hO)
  clear h ho hx hg hN hO
  go_enter Tryd.func11, Tryd.ntmps11
  go_wp2_with fail
  refine (HAW.out).mono ?_
  rintro e w1 ⟨rfl, hb1⟩
  have HB1 := Lib.hid hb1
  clear hb1
  go_wp2_with fail
  refine (choose_any v ov l o w1 HN.out.1 HN.out.2 (HI.out.1.below HB1.out) (HI.out.2.below HB1.out)).mono ?_
  rintro e w2 ⟨rfl, hb2⟩
  have HB2 := Lib.hid (HB1.out.trans (hb2.mono HB1.out.size))
  clear hb2
  go_wp2_with fail
  refine (ranges_any v l w2 HN.out.1 (HI.out.1.below HB2.out)).mono ?_
  rintro e w3 ⟨tv, rfl, ht, hb3⟩
  have HB3 := Lib.hid (HB2.out.trans (hb3.mono HB2.out.size))
  have HT := Lib.hid ht.isIn
  clear hb3 ht
  go_wp2_with fail
  refine (offers_any ov o w3 HN.out.2 (HI.out.2.below HB3.out)).mono ?_
  rintro e w4 ⟨tov, rfl, ht, hb4⟩
  have HB4 := Lib.hid (HB3.out.trans (hb4.mono HB3.out.size))
  have HTT := Lib.hid (And.intro (HT.out.below hb4) ht.isIn)
  clear hb4 ht
  go_wp2_with fail
  refine (rchoose_any tv tov l o w4 HN.out.1 HN.out.2 HTT.out.1 HTT.out.2).mono ?_
  rintro e w5 ⟨rfl, hb5⟩
  have HB5 := Lib.hid (HB4.out.trans (hb5.mono HB4.out.size))
  clear hb5
  obtain ⟨q, hq⟩ : ∃ q, chooseP l o = q := ⟨_, rfl⟩
  rw [hq]
  clear hq
  go_wp2
  go_ret
  exact ⟨by simp, HB5.out⟩
theorem acceptChooses_row (v0 : Value) (l : List Rng) (v1 : Value) (o : List Mdm) (W : World) (hL : laidMetH Tryd.prog Rows.acceptChoosesUptoRow.laid W) (hsh : W.ShapedOpen Tryd.prog) (hs : (totF rngLen l + l.length) + (totF mdmLen o + o.length) ≤ 1048576) (h0 : RngsIn W v0 l) (h1 : MedsIn W v1 o) :
    Calls Tryd.prog 11 #[v0, v1] W fun e W' => e = .returned (.bool true) ∧ Below W.heap.size W W' := by
  obtain ⟨mm, hm⟩ := Tryd.laysM145.s1_3 W hsh
  exact acceptChooses_any v0 v1 l o mm W (by omega) (by omega) h0 h1 hm (sg_of_laid (l := Rows.acceptChoosesUptoRow.laid) (by simp [Rows.acceptChoosesUptoRow]) hL)
end Go.Proofs.YthnniiakmjonjaaDoor
