/- The walk of turnpikelaw07.AcceptLikes: true. Conditions: at most 2^30 letters, parameters and elements; bytealg's MaxLen holds an int; octet.signs holds what the text lays. -/
import Derived.Test.YthnniiakmjonjaaDoorRLik
import Derived.Test.YthnniiakmjonjaaDoorLawMeet
namespace Go.Proofs.YthnniiakmjonjaaDoor
open Go.RowKit
set_option linter.unusedSimpArgs false
set_option linter.unusedVariables false
set_option maxRecDepth 1000000
set_option maxHeartbeats 4000000 in
theorem acceptLikes_any (v mv : Value) (l : List Rng) (m : Mdm) (mm : Int) (w : World) (hN : totF rngLen l + l.length ≤ 1073741824) (hm : mdmLen m ≤ 1073741824) (h : RngsIn w v l) (h2 : ParsIn w mv m.ps) (hx : w.cell? ⟨1, 0, none⟩ = some (.int .i64 mm)) (hg : SgAt w) :
    Calls Tryd.prog 8 #[v, .agg #[.string ⟨m.ty.toArray⟩, .string ⟨m.sub.toArray⟩, mv]] w fun e w' => e = .returned (.bool true) ∧ Below w.heap.size w w' := by
  obtain ⟨W1, hW1⟩ : ∃ W1, w.alloc (medO m mv 24) = W1 := ⟨_, rfl⟩
  have hb0 : Below w.heap.size w W1 := by rw [← hW1]; exact (Below.refl _ w).alloc (Nat.le_refl _) _
  have hM0 : Med3 w.heap.size m mv W1 := by rw [← hW1]; exact med3_new w m mv 24
  have hlen := (mdm_bd _ hm).2.2.1
  have HRG := Lib.hid (ranges_any v l W1 hN (h.below hb0))
  have HB0 := Lib.hid hb0; have HM0 := Lib.hid hM0; have HW1 := Lib.hid hW1
  have HI := Lib.hid (And.intro (And.intro h h2) (And.intro hx hg))
  have HN := Lib.hid (And.intro hN (And.intro hm hlen))
  clear h h2 hx hg hb0 hM0 hW1 hN hm hlen
  go_enter Tryd.func8, Tryd.ntmps8
  go_wp2_with fail
  rw [HW1.out]
  refine (HRG.out).mono ?_
  rintro e w1 ⟨tv, rfl, hot, hb1⟩
  have hb1' := HB0.out.trans (hb1.mono HB0.out.size)
  have HB1 := Lib.hid hb1'.drew
  have HM1 := Lib.hid (show Med3 w.heap.size m mv w1.drew from (HM0.out.below hb1).drew)
  have HT1 := Lib.hid (show RngsIn w1.drew tv l from hot.isIn.below ((Below.refl _ w1).drew))
  have HI1 := Lib.hid (And.intro (And.intro (HI.out.1.1.below hb1'.drew) (HI.out.1.2.below hb1'.drew)) (And.intro (mx_later (B := 0) HI.out.2.1 hb1'.drew) (HI.out.2.2.below hb1'.drew)))
  clear hb1 hb1' hot
  go_wp2_with fail
  refine wp_region_textH (fun w' => Med3 w.heap.size m mv w') [(0, false), (1, true), (2, true), (3, true), (5, true), (6, true), (4, false), (7, false), (8, false), (9, true), (10, true), (11, true), (12, true), (13, true), (14, false), (15, true), (16, true)] (by kernel_rfl) (by kernel_rfl) (by kernel_rfl) (by kernel_rfl) HM1.out ?_
  refine wpTxH_step rfl (fun K hK => ?_)
  go_simp
  refine (awake07_any mm _ HI1.out.2.1 HI1.out.2.2).mono ?_
  rintro e w2 ⟨rfl, hb2⟩
  have HM2 := Lib.hid (HM1.out.below hb2)
  refine hK _ _ HM2.out ?_
  clear hK K
  have HB2 := Lib.hid (HB1.out.trans (hb2.mono HB1.out.size))
  have HP2 := Lib.hid (And.intro (HI1.out.1.1.below hb2) (And.intro (HI1.out.1.2.below hb2) (HT1.out.below hb2)))
  clear hb2
  iterate 5 (refine wpTxH_take rfl (by kernel_rfl) (v := ?_) ?_ ?_; rotate_left; · (intro w hS; obtain ⟨s0, s1, s2, s3⟩ := hS; go_simp; with_reducible rfl))
  refine wpTxH_step rfl (fun K hK => ?_)
  go_simp
  refine (liking_any v mv l m w2 HN.out.1 HN.out.2.1 HP2.out.1 HP2.out.2.1).mono ?_
  rintro e w3 ⟨rfl, hb3⟩
  have HM3 := Lib.hid (HM2.out.below hb3)
  refine hK _ _ HM3.out ?_
  clear hK K
  have HB3 := Lib.hid (HB2.out.trans (hb3.mono HB2.out.size))
  have HP3 := Lib.hid (And.intro (HP2.out.1.below hb3) (And.intro (HP2.out.2.1.below hb3) (HP2.out.2.2.below hb3)))
  clear hb3
  refine wpTxH_step rfl (fun K hK => ?_)
  go_simp
  refine (media_any m mv w3 HN.out.2.2 HP3.out.2.1).mono ?_
  rintro e w4 ⟨v2, rfl, ho2, hb4⟩
  have HM4 := Lib.hid (HM3.out.below hb4)
  refine hK _ _ HM4.out ?_
  clear hK K
  have HB4 := Lib.hid (HB3.out.trans (hb4.mono HB3.out.size))
  have HP4 := Lib.hid (And.intro (HP3.out.1.below hb4) (And.intro (parsIn_own ho2) (HP3.out.2.2.below hb4)))
  clear hb4 ho2
  refine wpTxH_step rfl (fun K hK => ?_)
  go_simp
  refine (rliking_any tv v2 l m w4 HN.out.1 HN.out.2.1 HP4.out.2.2 HP4.out.2.1).mono ?_
  rintro e w5 ⟨rfl, hb5⟩
  have HM5 := Lib.hid (HM4.out.below hb5)
  refine hK _ _ HM5.out ?_
  clear hK K
  have HB5 := Lib.hid (HB4.out.trans (hb5.mono HB4.out.size))
  have HP5 := Lib.hid (And.intro (HP4.out.1.below hb5) (HP4.out.2.2.below hb5))
  clear hb5
  obtain ⟨q, hq⟩ : ∃ q, likeP l m = q := ⟨_, rfl⟩
  simp only [hq]
  iterate 5 (refine wpTxH_take rfl (by kernel_rfl) (v := ?_) ?_ ?_; rotate_left; · (intro w hS; clear hS; go_simp; with_reducible rfl))
  refine wpTxH_step rfl (fun K hK => ?_)
  go_simp
  refine (sameRanges_any v tv l w5 HN.out.1 HP5.out.1 HP5.out.2).mono ?_
  rintro e w6 ⟨rfl, hb6⟩
  have HM6 := Lib.hid (HM5.out.below hb6)
  refine hK _ _ HM6.out ?_
  clear hK K
  have HB6 := Lib.hid (HB5.out.trans (hb6.mono HB5.out.size))
  clear hb6
  iterate 2 (refine wpTxH_take rfl (by kernel_rfl) (v := ?_) ?_ ?_; rotate_left; · (intro w hS; clear hS; go_simp; with_reducible rfl))
  refine wpTxH_nil ?_
  go_simp
  go_wp2
  go_ret
  exact ⟨by simp, HB6.out⟩
theorem acceptLikes_row (v0 : Value) (l : List Rng) (v1 : Value) (m : Mdm) (W : World) (hL : laidMetH Tryd.prog Rows.acceptLikesUptoRow.laid W) (hsh : W.ShapedOpen Tryd.prog) (hs : (totF rngLen l + l.length) + mdmLen m ≤ 1048576) (h0 : RngsIn W v0 l) (h1 : MedIn W v1 m) :
    Calls Tryd.prog 8 #[v0, v1] W fun e W' => e = .returned (.bool true) ∧ Below W.heap.size W W' := by
  obtain ⟨mm, hm⟩ := Tryd.laysM145.s1_3 W hsh
  obtain ⟨s1, rfl, h1⟩ := h1
  exact acceptLikes_any v0 s1 l m mm W (by omega) (by omega) h0 h1 hm (sg_of_laid (l := Rows.acceptLikesUptoRow.laid) (by simp [Rows.acceptLikesUptoRow]) hL)
end Go.Proofs.YthnniiakmjonjaaDoor
