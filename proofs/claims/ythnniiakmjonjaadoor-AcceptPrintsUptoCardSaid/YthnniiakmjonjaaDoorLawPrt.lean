/- The walk of turnpikelaw07.AcceptPrints: true. Conditions: at most 2^20 letters and parameters; bytealg's MaxLen holds an int; octet.signs holds what the text lays. -/
import Derived.Test.YthnniiakmjonjaaDoorRMpr
import Derived.Test.YthnniiakmjonjaaDoorPar7
import Derived.Test.YthnniiakmjonjaaDoorAwake07
import Derived.Test.YthnniiakmjonjaaDoorAlk
import Derived.Test.YthnniiakmjonjaaDoorLaidSg
import Derived.Test.YthnniiakmjonjaaDoorOpenMed
namespace Go.Proofs.YthnniiakmjonjaaDoor
open Go.RowKit
set_option linter.unusedSimpArgs false
set_option linter.unusedVariables false
set_option maxRecDepth 1000000
theorem prt_len (m : Mdm) (h : mdmLen m ≤ 1048576) : (m.ty ++ 47 :: (m.sub ++ prAll m.ps)).length ≤ 1099511627776 := by
  have := prAll_len m.ps
  unfold mdmLen at h
  simp only [List.length_append, List.length_cons]
  omega
theorem mpr_two (m : Mdm) : mprR m = ([], 70) ∨ (mprR m = (m.ty ++ 47 :: (m.sub ++ prAll m.ps), 0) ∧ mdP (m.ty ++ 47 :: (m.sub ++ prAll m.ps)) = ((m.ty, m.sub, m.ps, true), 0)) := by
  cases h : mprOk m with
  | false => exact .inl (mprR_no m h)
  | true => exact .inr ⟨mprR_yes m h, mdP_back m h⟩
set_option maxHeartbeats 4000000 in
theorem acceptPrints_any (m : Mdm) (pv : Value) (mm : Int) (w : World) (hN : mdmLen m ≤ 1048576) (h : ParsIn w pv m.ps) (hx : w.cell? ⟨1, 0, none⟩ = some (.int .i64 mm)) (hg : SgAt w) :
    Calls Tryd.prog 7 #[.agg #[.string ⟨m.ty.toArray⟩, .string ⟨m.sub.toArray⟩, pv]] w fun e w' => e = .returned (.bool true) ∧ Below w.heap.size w w' := by
  obtain ⟨W0, hW0⟩ : ∃ W0, w.alloc (.cells (mC m pv) 24) = W0 := ⟨_, rfl⟩
  have hb0 : Below w.heap.size w W0 := by rw [← hW0]; exact (Below.refl _ w).alloc (Nat.le_refl _) _
  have hB0 : BlkIs W0 w.heap.size (mC m pv) 24 := by rw [← hW0]; exact blkIs_new _ _ _
  have hN2 : mdmLen m ≤ 1073741824 := Nat.le_trans hN (by decide)
  have hpn := (mdm_bd m hN2).2.2.1
  have hmed := media_any m pv W0 hpn (h.below hb0)
  have hlen := prt_len m hN
  have htwo := mpr_two m
  have HW0 := Lib.hid hW0; have HB0 := Lib.hid (And.intro hb0 hB0); have HN := Lib.hid (And.intro hN2 (And.intro hpn hlen)); have HM := Lib.hid hmed; have HP := Lib.hid h; have HX := Lib.hid (And.intro hx hg); have HTWO := Lib.hid htwo
  clear hW0 hb0 hB0 hN2 hpn hmed hlen htwo h hx hg hN
  obtain ⟨⟨D, E⟩, hPR⟩ : ∃ r, mprR m = r := ⟨_, rfl⟩
  rw [hPR] at HTWO
  have HPR := Lib.hid hPR
  clear hPR
  go_enter Tryd.func7, Tryd.ntmps7
  go_upto_region 1 with fail
  rw [HW0.out]
  have c0 : W0.cell? ⟨w.heap.size, 0, none⟩ = some (.string ⟨m.ty.toArray⟩) := HB0.out.2.cell 0 _ rfl
  have c1 : W0.cell? ⟨w.heap.size, 1, none⟩ = some (.string ⟨m.sub.toArray⟩) := HB0.out.2.cell 1 _ rfl
  have c2 : W0.cell? ⟨w.heap.size, 2, none⟩ = some pv := HB0.out.2.cell 2 _ rfl
  go_wp2_with fail
  refine (HM.out).mono ?_
  rintro e w1 ⟨v1, rfl, ho1, hb1⟩
  obtain ⟨ao1, cap1, rfl⟩ := own_slice ho1
  obtain ⟨W2, hW2⟩ : ∃ W2, w1.alloc (.cells (mC m (.slice ao1 m.ps.length cap1)) 30) = W2 := ⟨_, rfl⟩
  have hb12 : Below w1.heap.size w1 W2 := by rw [← hW2]; exact (Below.refl _ w1).alloc (Nat.le_refl _) _
  have hb2 : Below w.heap.size w W2 := (HB0.out.1.trans (hb1.mono HB0.out.1.size)).trans (hb12.mono (Nat.le_trans HB0.out.1.size hb1.size))
  have hA2 : BlkIs W2 w.heap.size (mC m pv) 24 := (HB0.out.2.later hb1).later hb12
  have hB2 : BlkIs W2 w1.heap.size (mC m (.slice ao1 m.ps.length cap1)) 30 := by rw [← hW2]; exact blkIs_new _ _ _
  have hp2 : ParsIn W2 pv m.ps ∧ ParsIn W2 (.slice ao1 m.ps.length cap1) m.ps := ⟨HP.out.below hb2, (parsIn_own ho1).below hb12⟩
  have HW2 := Lib.hid hW2; have HB2 := Lib.hid (And.intro hb2 (And.intro hA2 hB2)); have HP2 := Lib.hid hp2
  clear hW2 hb1 ho1 hb12 hb2 hA2 hB2 hp2 c0 c1 c2
  go_upto_region 2 with fail
  rw [HW2.out]
  have c0 : W2.cell? ⟨w.heap.size, 0, none⟩ = some (.string ⟨m.ty.toArray⟩) := HB2.out.2.1.cell 0 _ rfl
  have c1 : W2.cell? ⟨w.heap.size, 1, none⟩ = some (.string ⟨m.sub.toArray⟩) := HB2.out.2.1.cell 1 _ rfl
  have c2 : W2.cell? ⟨w.heap.size, 2, none⟩ = some pv := HB2.out.2.1.cell 2 _ rfl
  have HO := Lib.hid (ompr_any m pv W2 HN.out.1 HP2.out.1 (HX.out.2.below HB2.out.1))
  rw [HPR.out] at HO
  go_wp2_with fail
  refine (HO.out).mono ?_
  rintro e w3 ⟨rfl, hb3⟩
  have HB3 := Lib.hid (And.intro (HB2.out.1.trans (hb3.mono HB2.out.1.size)) (And.intro (HB2.out.2.1.later hb3) (HB2.out.2.2.later hb3)))
  have HP3 := Lib.hid (And.intro (HP2.out.1.below hb3) (HP2.out.2.below hb3))
  clear hb3 c0 c1 c2
  have c0 : w3.cell? ⟨w1.heap.size, 0, none⟩ = some (.string ⟨m.ty.toArray⟩) := HB3.out.2.2.cell 0 _ rfl
  have c1 : w3.cell? ⟨w1.heap.size, 1, none⟩ = some (.string ⟨m.sub.toArray⟩) := HB3.out.2.2.cell 1 _ rfl
  have c2 : w3.cell? ⟨w1.heap.size, 2, none⟩ = some (.slice ao1 m.ps.length cap1) := HB3.out.2.2.cell 2 _ rfl
  have HR := Lib.hid (rmpr_any m (.slice ao1 m.ps.length cap1) w3 HN.out.1 HP3.out.2)
  rw [HPR.out] at HR
  go_wp2_with fail
  refine (HR.out).mono ?_
  rintro e w4 ⟨rfl, hb4⟩
  have HB4 := Lib.hid (And.intro (HB3.out.1.trans (hb4.mono HB3.out.1.size)) (And.intro (HB3.out.2.1.later hb4) (HB3.out.2.2.later hb4)))
  have HP4 := Lib.hid (And.intro (HP3.out.1.below hb4) (HP3.out.2.below hb4))
  clear hb4 c0 c1 c2
  go_wp2_with fail
  refine (awake07_any mm w4 (mx_later (B := 0) HX.out.1 HB4.out.1) (HX.out.2.below HB4.out.1)).mono ?_
  rintro e w5 ⟨rfl, hb5⟩
  have hA5 := HB4.out.2.1.later hb5
  have hB5 := HB4.out.2.2.later hb5
  have HAL := Lib.hid (alike_any m pv (.slice ao1 m.ps.length cap1) w5 HN.out.2.1 (HP4.out.1.below hb5) (HP4.out.2.below hb5))
  have HP5 := Lib.hid (And.intro (HP4.out.1.below hb5) (HP4.out.2.below hb5))
  have HB5 := Lib.hid (And.intro (HB4.out.1.trans (hb5.mono HB4.out.1.size)) hB5)
  have c0 : w5.cell? ⟨w.heap.size, 0, none⟩ = some (.string ⟨m.ty.toArray⟩) := hA5.cell 0 _ rfl
  have c1 : w5.cell? ⟨w.heap.size, 1, none⟩ = some (.string ⟨m.sub.toArray⟩) := hA5.cell 1 _ rfl
  have c2 : w5.cell? ⟨w.heap.size, 2, none⟩ = some pv := hA5.cell 2 _ rfl
  have d0 : w5.cell? ⟨w1.heap.size, 0, none⟩ = some (.string ⟨m.ty.toArray⟩) := hB5.cell 0 _ rfl
  have d1 : w5.cell? ⟨w1.heap.size, 1, none⟩ = some (.string ⟨m.sub.toArray⟩) := hB5.cell 1 _ rfl
  have d2 : w5.cell? ⟨w1.heap.size, 2, none⟩ = some (.slice ao1 m.ps.length cap1) := hB5.cell 2 _ rfl
  clear hb5 hA5 hB5
  go_wp2_with fail
  refine (HAL.out).mono ?_
  rintro e w6 ⟨rfl, hb6⟩
  have HB6 := Lib.hid (And.intro (HB5.out.1.trans (hb6.mono HB5.out.1.size)) (HB5.out.2.later hb6))
  have HP6 := Lib.hid (HP5.out.2.below hb6)
  clear hb6 c0 c1 c2 d0 d1 d2
  rcases HTWO.out with hno | ⟨hyes, hback⟩
  · obtain ⟨rfl, rfl⟩ : D = [] ∧ E = 70 := by injection hno with a b; exact ⟨a, b⟩
    clear hno
    go_wp2
    go_ret
    exact ⟨rfl, HB6.out.1⟩
  · have hE : E = 0 := by injection hyes
    have hD : D = m.ty ++ 47 :: (m.sub ++ prAll m.ps) := by injection hyes
    rw [← hD] at hback
    subst hE
    have hDl : (⟨D.toArray⟩ : ByteArray).size ≤ 1099511627776 := by rw [size_mk, hD]; exact HN.out.2.2
    have hpr := oparse_any ⟨D.toArray⟩ w6 hDl (HX.out.2.below HB6.out.1)
    unfold MpPost at hpr
    rw [show (⟨D.toArray⟩ : ByteArray).data.toList = D from rfl, hback] at hpr
    have HPA := Lib.hid hpr
    clear hyes hD hback hDl hpr
    go_wp2_with fail
    refine (HPA.out).mono ?_
    rintro e w7 ⟨v7, rfl, ho7, hb7⟩
    obtain ⟨ao7, cap7, rfl⟩ := own_slice ho7
    have ho7 : w7.ownsRow w6.heap.size 80 3 (.slice ao7 m.ps.length cap7) m.ps.length (parsV m.ps) := ho7
    rw [show mpV ((m.ty, m.sub, m.ps, true), 0) (.slice ao7 m.ps.length cap7) = .tuple #[.agg #[.string ⟨m.ty.toArray⟩, .string ⟨m.sub.toArray⟩, .slice ao7 m.ps.length cap7], .int .i64 0] from rfl]
    obtain ⟨W8, hW8⟩ : ∃ W8, w7.alloc (.cells (mC m (.slice ao7 m.ps.length cap7)) 24) = W8 := ⟨_, rfl⟩
    have hb78 : Below w7.heap.size w7 W8 := by rw [← hW8]; exact (Below.refl _ w7).alloc (Nat.le_refl _) _
    have hb8 : Below w.heap.size w W8 := (HB6.out.1.trans (hb7.mono HB6.out.1.size)).trans (hb78.mono (Nat.le_trans HB6.out.1.size hb7.size))
    have hA8 : BlkIs W8 w7.heap.size (mC m (.slice ao7 m.ps.length cap7)) 24 := by rw [← hW8]; exact blkIs_new _ _ _
    have hB8 : BlkIs W8 w1.heap.size (mC m (.slice ao1 m.ps.length cap1)) 30 := (HB6.out.2.later hb7).later hb78
    have HAL8 := Lib.hid (alike_any m (.slice ao7 m.ps.length cap7) (.slice ao1 m.ps.length cap1) W8 HN.out.2.1 ((parsIn_own ho7).below hb78) ((HP6.out.below hb7).below hb78))
    have HW8 := Lib.hid hW8; have HB8 := Lib.hid hb8
    have c0 : W8.cell? ⟨w7.heap.size, 0, none⟩ = some (.string ⟨m.ty.toArray⟩) := hA8.cell 0 _ rfl
    have c1 : W8.cell? ⟨w7.heap.size, 1, none⟩ = some (.string ⟨m.sub.toArray⟩) := hA8.cell 1 _ rfl
    have c2 : W8.cell? ⟨w7.heap.size, 2, none⟩ = some (.slice ao7 m.ps.length cap7) := hA8.cell 2 _ rfl
    have d0 : W8.cell? ⟨w1.heap.size, 0, none⟩ = some (.string ⟨m.ty.toArray⟩) := hB8.cell 0 _ rfl
    have d1 : W8.cell? ⟨w1.heap.size, 1, none⟩ = some (.string ⟨m.sub.toArray⟩) := hB8.cell 1 _ rfl
    have d2 : W8.cell? ⟨w1.heap.size, 2, none⟩ = some (.slice ao1 m.ps.length cap1) := hB8.cell 2 _ rfl
    clear hW8 hb7 ho7 hb78 hb8 hA8 hB8
    go_upto_region 9 with fail
    rw [HW8.out]
    go_wp2_with fail
    refine (HAL8.out).mono ?_
    rintro e w9 ⟨rfl, hb9⟩
    have HB9 := Lib.hid (HB8.out.trans (hb9.mono HB8.out.size))
    clear hb9 c0 c1 c2 d0 d1 d2
    go_wp2
    go_ret
    exact ⟨by simp, HB9.out⟩
theorem acceptPrints_row (v0 : Value) (m : Mdm) (W : World) (hL : laidMetH Tryd.prog Rows.acceptPrintsUptoRow.laid W) (hsh : W.ShapedOpen Tryd.prog) (hs : mdmLen m ≤ 1048576) (h0 : MedIn W v0 m) :
    Calls Tryd.prog 7 #[v0] W fun e W' => e = .returned (.bool true) ∧ Below W.heap.size W W' := by
  obtain ⟨x, hx⟩ := Tryd.laysM145.s1_3 W hsh
  obtain ⟨pv, rfl, h0⟩ := h0
  exact acceptPrints_any m pv x W hs h0 hx (sg_of_laid (l := Rows.acceptPrintsUptoRow.laid) (by simp [Rows.acceptPrintsUptoRow]) hL)
end Go.Proofs.YthnniiakmjonjaaDoor
