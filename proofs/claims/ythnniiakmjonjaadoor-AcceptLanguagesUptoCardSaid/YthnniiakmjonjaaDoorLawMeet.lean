/- The walk of turnpikelaw07.AcceptMeets: true. Conditions: each media type holds at most 2^30 letters and parameters; bytealg's MaxLen holds an int; octet.signs holds what the text lays. -/
import Derived.Test.YthnniiakmjonjaaDoorRMeet
import Derived.Test.YthnniiakmjonjaaDoorAwake07
import Derived.Test.YthnniiakmjonjaaDoorLaidSg
import Derived.Test.YthnniiakmjonjaaDoorOpenMed
namespace Go.Proofs.YthnniiakmjonjaaDoor
open Go.RowKit
set_option linter.unusedSimpArgs false
set_option linter.unusedVariables false
set_option maxRecDepth 1000000
theorem Med3.drew {b : Nat} {m : Mdm} {v : Value} {w : World} (h : Med3 b m v w) : Med3 b m v w.drew := h
set_option maxHeartbeats 4000000 in
theorem acceptMeets_any (r m : Mdm) (rv mv : Value) (mm : Int) (w : World) (hr : mdmLen r ≤ 1073741824) (hm : mdmLen m ≤ 1073741824) (h1 : ParsIn w rv r.ps) (h2 : ParsIn w mv m.ps) (hx : w.cell? ⟨1, 0, none⟩ = some (.int .i64 mm)) (hg : SgAt w) :
    Calls Tryd.prog 5 #[.agg #[.string ⟨r.ty.toArray⟩, .string ⟨r.sub.toArray⟩, rv], .agg #[.string ⟨m.ty.toArray⟩, .string ⟨m.sub.toArray⟩, mv]] w fun e w' => e = .returned (.bool true) ∧ Below w.heap.size w w' := by
  obtain ⟨W2, hW2⟩ : ∃ W2, ((w.alloc (medO r rv 24)).alloc (medO m mv 24)).drew = W2 := ⟨_, rfl⟩
  have hrel : MtRel w.heap.size (w.heap.size + 1) w r m rv mv W2 := by
    rw [← hW2]
    exact ⟨((((Below.refl _ w).alloc (Nat.le_refl _) _).alloc (by simp) _)).drew, ((med3_new w _ rv 24).alloc _).drew, by have := med3_new (w.alloc (medO r rv 24)) m mv 24; simpa using this.drew⟩
  have hbr := mdm_bd _ hr
  have hbm := mdm_bd _ hm
  have b0 := hrel.1
  have HAW := Lib.hid (awake07_any mm W2 (mx_later (B := 0) hx b0) (hg.below b0))
  have H12 := Lib.hid (And.intro (h1.below b0) (h2.below b0))
  have HLN := Lib.hid (And.intro (And.intro hr hm) (And.intro hbr.2.2.1 hbm.2.2.1))
  have HREL := Lib.hid hrel
  have HW2 := Lib.hid hW2
  clear hrel hbr hbm b0 hr hm h1 h2 hx hg hW2
  go_enter Tryd.func5, Tryd.ntmps5
  go_wp2
  refine wp_region_textH (fun w' => Med3 w.heap.size r rv w' ∧ Med3 (w.heap.size + 1) m mv w') [(0, false), (1, true), (2, true), (3, true), (5, true), (7, true), (4, false), (6, false), (8, false), (9, false), (10, true), (11, true), (12, true)] (by kernel_rfl) (by kernel_rfl) (by kernel_rfl) (by kernel_rfl) (by have := HREL.out.2; rw [← HW2.out] at this; exact this) ?_
  rw [HW2.out]
  refine wpTxH_step rfl (fun K hK => ?_)
  go_simp
  refine (HAW.out).mono ?_
  rintro e w1 ⟨rfl, hb1⟩
  have hR1 := HREL.out.later hb1
  refine hK _ _ hR1.2 ?_
  clear hK K
  have HR1 := Lib.hid hR1
  have H12a := Lib.hid (And.intro (H12.out.1.below hb1) (H12.out.2.below hb1))
  clear hR1 hb1
  iterate 5 (refine wpTxH_take rfl (by kernel_rfl) (v := ?_) ?_ ?_; rotate_left; · (intro w hS; obtain ⟨⟨s0, s1, s2, s3⟩, t0, t1, t2, t3⟩ := hS; go_simp; with_reducible rfl))
  refine wpTxH_step rfl (fun K hK => ?_)
  go_simp
  refine (meets_any r m rv mv w1 HLN.out.1.1 HLN.out.1.2 H12a.out.1 H12a.out.2).mono ?_
  rintro e w2 ⟨rfl, hb2⟩
  have hR2 := HR1.out.later hb2
  refine hK _ _ hR2.2 ?_
  clear hK K
  have HR2 := Lib.hid hR2
  have H12b := Lib.hid (And.intro (H12a.out.1.below hb2) (H12a.out.2.below hb2))
  clear hR2 hb2
  refine wpTxH_step rfl (fun K hK => ?_)
  go_simp
  refine (media_any r rv w2 HLN.out.2.1 H12b.out.1).mono ?_
  rintro e w3 ⟨v1, rfl, ho1, hb3⟩
  have hR3 := HR2.out.later hb3
  refine hK _ _ hR3.2 ?_
  clear hK K
  have HR3 := Lib.hid hR3
  have HP3 := Lib.hid (And.intro (parsIn_own ho1) (H12b.out.2.below hb3))
  clear hR3 hb3 ho1
  refine wpTxH_step rfl (fun K hK => ?_)
  go_simp
  refine (media_any m mv w3 HLN.out.2.2 HP3.out.2).mono ?_
  rintro e w4 ⟨v2, rfl, ho2, hb4⟩
  have hR4 := HR3.out.later hb4
  refine hK _ _ hR4.2 ?_
  clear hK K
  have HR4 := Lib.hid hR4
  have HP4 := Lib.hid (And.intro (HP3.out.1.below hb4) (parsIn_own ho2))
  clear hR4 hb4 ho2
  refine wpTxH_step rfl (fun K hK => ?_)
  go_simp
  refine (rmeets_any r m v1 v2 w4 HLN.out.1.1 HLN.out.1.2 HP4.out.1 HP4.out.2).mono ?_
  rintro e w5 ⟨rfl, hb5⟩
  have hR5 := HR4.out.later hb5
  refine hK _ _ hR5.2 ?_
  clear hK K
  have HR5 := Lib.hid hR5.1
  clear hR5 hb5
  obtain ⟨q, hq⟩ : ∃ q, meetsP r m = q := ⟨_, rfl⟩
  simp only [hq]
  iterate 3 (refine wpTxH_take rfl (by kernel_rfl) (v := ?_) ?_ ?_; rotate_left; · (intro w hS; clear hS; go_simp; with_reducible rfl))
  refine wpTxH_nil ?_
  go_simp
  go_wp2
  go_ret
  exact ⟨by simp, HR5.out⟩
theorem acceptMeets_row (v0 : Value) (r : Mdm) (v1 : Value) (m : Mdm) (W : World) (hL : laidMetH Tryd.prog Rows.acceptMeetsUptoRow.laid W) (hsh : W.ShapedOpen Tryd.prog) (hs : mdmLen r ≤ 1048576 ∧ mdmLen m ≤ 1048576) (h0 : MedIn W v0 r) (h1 : MedIn W v1 m) :
    Calls Tryd.prog 5 #[v0, v1] W fun e W' => e = .returned (.bool true) ∧ Below W.heap.size W W' := by
  obtain ⟨mm, hm⟩ := Tryd.laysM145.s1_3 W hsh
  obtain ⟨s0, rfl, h0⟩ := h0
  obtain ⟨s1, rfl, h1⟩ := h1
  exact acceptMeets_any r m s0 s1 mm W (by omega) (by omega) h0 h1 hm (sg_of_laid (l := Rows.acceptMeetsUptoRow.laid) (by simp [Rows.acceptMeetsUptoRow]) hL)
end Go.Proofs.YthnniiakmjonjaaDoor
