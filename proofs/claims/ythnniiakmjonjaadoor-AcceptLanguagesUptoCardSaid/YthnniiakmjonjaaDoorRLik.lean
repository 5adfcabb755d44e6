/- The walk of turnpikeref07.Liking: the plain function likeP. Conditions: at most 2^30 letters, parameters and elements. -/
import Derived.Test.YthnniiakmjonjaaDoorLik
namespace Go.Proofs.YthnniiakmjonjaaDoor
open Go.RowKit
set_option linter.unusedSimpArgs false
set_option linter.unusedVariables false
set_option maxRecDepth 1000000
set_option maxHeartbeats 8000000 in
theorem rliking_any (v mv : Value) (l : List Rng) (m : Mdm) (w : World) (hN : totF rngLen l + l.length ≤ 1073741824) (hm : mdmLen m ≤ 1073741824) (h : RngsIn w v l) (hmv : ParsIn w mv m.ps) :
    Calls Tryd.prog 34 #[v, .agg #[.string ⟨m.ty.toArray⟩, .string ⟨m.sub.toArray⟩, mv]] w fun e w' => e = .returned (.int .i64 (likeP l m)) ∧ Below w.heap.size w w' := by
  obtain ⟨ao, cap, rfl, hat⟩ := h
  have hN2 : l.length ≤ 1073741824 := by omega
  by_cases h0 : l.length = 0
  · have hl : l = [] := List.eq_nil_of_length_eq_zero h0
    subst hl
    go_enter Tryd.func34, Tryd.ntmps34
    go_wp2
    go_ret
    exact ⟨rfl, (Below.refl _ w).alloc (Nat.le_refl _) _⟩
  · have hb0 : ((l.length : Int) == 0) = false := beq_false_of_ne (by omega)
    have hbdr := rng_bd l hN
    have HREL := Lib.hid (And.intro ((Below.refl _ w).alloc (Nat.le_refl _) (medO m mv 30)) (med3_new w m mv 30))
    have HAT := Lib.hid hat; have HMV := Lib.hid hmv; have HBD := Lib.hid hbdr; have HEND := Lib.hid (lik_end l m h0); have HM := Lib.hid hm
    clear hat hmv hbdr hN h0 hm
    go_enter Tryd.func34, Tryd.ntmps34
    go_wp2
    go_loopw [7, 5, 6] (fun iv bv qv wr => ∃ (i : Nat) (b q : Int), iv = .int .i64 i ∧ bv = .int .i64 b ∧ qv = .int .i64 q ∧ i ≤ l.length ∧ likS m l i = (b, q) ∧ Below w.heap.size w wr ∧ Med3 w.heap.size m mv wr) (fun iv _ _ _ => l.length - (intOf iv).toNat)
    case atStart => exact ⟨0, -1, 0, rfl, rfl, rfl, Nat.zero_le _, rfl, HREL.out⟩
    case round =>
      clear HREL hb0
      obtain ⟨i, b, q, rfl, rfl, rfl, hi, hs, hb, hM⟩ := hrel
      by_cases hlt : i < l.length
      · obtain ⟨r, hp⟩ : ∃ r, l[i]? = some r := ⟨_, List.getElem?_eq_getElem hlt⟩
        obtain ⟨g, o, rfl, ⟨x0, x1, x2, sv, x3, hpar⟩, x5⟩ := HAT.out.below hb i r hp
        obtain ⟨ao2, cap2, rfl, hat2⟩ := hpar
        have hps : ParsIn wr (.slice ao2 r.1.ps.length cap2) r.1.ps := ⟨ao2, cap2, rfl, hat2⟩
        have k0 : (0 : Int) ≤ (i : Int) := Int.natCast_nonneg _
        have k1 : (i : Int) < (l.length : Int) := by omega
        have hwi := wrap64_small i (small30 i _ hi hN2)
        have hml := HBD.out i r hp
        have hpl := (mdm_bd r.1 hml).2.2.1
        have hS : RngS g (o + i * 4) r (.slice ao2 r.1.ps.length cap2) wr := ⟨x1, x2, x3, x5, x0⟩
        obtain ⟨rm, rq⟩ := r
        simp only at hml hpl
        have HPS := Lib.hid (show ParsIn wr.drew (.slice ao2 rm.ps.length cap2) rm.ps from hps.below ((Below.refl _ wr).drew))
        have HSR := Lib.hid (show RngS g (o + i * 4) (rm, rq) (.slice ao2 rm.ps.length cap2) wr.drew ∧ Med3 w.heap.size m mv wr.drew from ⟨hS, hM⟩)
        have HBW := Lib.hid hb.drew
        have HMT := Lib.hid (rmeets_any rm m (.slice ao2 rm.ps.length cap2) mv wr.drew hml HM.out HPS.out (HMV.out.below hb.drew))
        have HW := Lib.hid hwi; have HP := Lib.hid hp; have HML := Lib.hid (And.intro hml hpl); have HS := Lib.hid hs
        clear hb hM hs hps hat2 hwi hp hml hpl hS x0 x1 x2 x3 x5
        cases hmt : meetsP rm m with
        | false =>
          rw [hmt] at HMT
          have HST := Lib.hid ((lik_no m l i (rm, rq) HP.out hmt).trans HS.out)
          go_wp2_with fail
          refine wp_region_textH (fun w' => RngS g (o + i * 4) (rm, rq) (.slice ao2 rm.ps.length cap2) w' ∧ Med3 w.heap.size m mv w') [(0, true), (1, true), (2, true), (3, true), (4, true), (5, true), (6, false), (7, true), (8, true), (9, true), (10, true), (11, true), (12, true), (14, true), (13, false), (15, true), (16, true)] (by kernel_rfl) (by kernel_rfl) (by kernel_rfl) (by kernel_rfl) HSR.out ?_
          iterate 6 (refine wpTxH_take rfl (by kernel_rfl) (v := ?_) ?_ ?_; rotate_left; · (intro w hS; obtain ⟨⟨s0, s1, s2, s3, s4⟩, t0, t1, t2, t3⟩ := hS; go_simp; with_reducible rfl))
          refine wpTxH_step rfl (fun K hK => ?_)
          go_simp
          refine (HMT.out).mono ?_
          rintro e w1 ⟨rfl, hb1⟩
          have HS1 := Lib.hid (And.intro (HSR.out.1.below hb1) (HSR.out.2.below hb1))
          have HB1 := Lib.hid (HBW.out.trans (hb1.mono HBW.out.size))
          refine hK _ _ HS1.out ?_
          clear hK K
          have HPS1 := Lib.hid (HPS.out.below hb1)
          clear hb1
          refine wpTxH_take rfl (by kernel_rfl) (v := ?_) ?_ ?_; rotate_left; · (intro w hS; clear hS; go_simp; with_reducible rfl)
          iterate 6 (refine wtxH_pass rfl (by kernel_rfl) ?_)
          refine wpTxH_step rfl (fun K hK => ?_)
          go_simp
          refine hK _ _ HS1.out ?_
          clear hK K
          iterate 1 (refine wtxH_pass rfl (by kernel_rfl) ?_)
          refine wpTxH_take rfl (by kernel_rfl) (v := ?_) ?_ ?_; rotate_left; · (intro w hS; clear hS; go_simp; with_reducible rfl)
          refine wpTxH_nil ?_
          go_simp
          go_wp2
          have hwi := HW.out
          go_roundw
          case rel => (try rw [hwi]); clear hwi; exact ⟨i + 1, b, q, by go_num, rfl, rfl, hlt, HST.out, HB1.out, HS1.out.2⟩
          case measure => (try rw [hwi]); clear hwi; simp [intOf]; omega
        | true =>
          rw [hmt] at HMT
          cases hab : decide (b < nar rm) with
          | false =>
            have HST := Lib.hid ((lik_low m l i (rm, rq) HP.out (by rw [HS.out]; exact hab)).trans HS.out)
            have hle : nar rm ≤ b := by have := of_decide_eq_false hab; omega
            go_wp2_with fail
            refine wp_region_textH (fun w' => RngS g (o + i * 4) (rm, rq) (.slice ao2 rm.ps.length cap2) w' ∧ Med3 w.heap.size m mv w') [(0, true), (1, true), (2, true), (3, true), (4, true), (5, true), (6, false), (7, true), (8, true), (9, true), (10, true), (11, true), (12, true), (14, true), (13, false), (15, true), (16, true)] (by kernel_rfl) (by kernel_rfl) (by kernel_rfl) (by kernel_rfl) HSR.out ?_
            iterate 6 (refine wpTxH_take rfl (by kernel_rfl) (v := ?_) ?_ ?_; rotate_left; · (intro w hS; obtain ⟨⟨s0, s1, s2, s3, s4⟩, t0, t1, t2, t3⟩ := hS; go_simp; with_reducible rfl))
            refine wpTxH_step rfl (fun K hK => ?_)
            go_simp
            refine (HMT.out).mono ?_
            rintro e w1 ⟨rfl, hb1⟩
            have HS1 := Lib.hid (And.intro (HSR.out.1.below hb1) (HSR.out.2.below hb1))
            have HB1 := Lib.hid (HBW.out.trans (hb1.mono HBW.out.size))
            refine hK _ _ HS1.out ?_
            clear hK K
            have HPS1 := Lib.hid (HPS.out.below hb1)
            clear hb1
            refine wpTxH_take rfl (by kernel_rfl) (v := ?_) ?_ ?_; rotate_left; · (intro w hS; clear hS; go_simp; with_reducible rfl)
            iterate 6 (refine wpTxH_take rfl (by kernel_rfl) (v := ?_) ?_ ?_; rotate_left; · (intro w hS; obtain ⟨⟨s0, s1, s2, s3, s4⟩, t0, t1, t2, t3⟩ := hS; go_simp; with_reducible rfl))
            refine wpTxH_step rfl (fun K hK => ?_)
            go_simp
            refine (rnarrow_any rm (.slice ao2 rm.ps.length cap2) w1 HML.out.2 HPS1.out).mono ?_
            rintro e w2 ⟨rfl, hb2⟩
            have HS2 := Lib.hid (And.intro (HS1.out.1.below hb2) (HS1.out.2.below hb2))
            have HB2 := Lib.hid (HB1.out.trans (hb2.mono HB1.out.size))
            refine hK _ _ HS2.out ?_
            clear hK K
            have HPS2 := Lib.hid (HPS1.out.below hb2)
            clear hb2
            iterate 2 (refine wpTxH_take rfl (by kernel_rfl) (v := ?_) ?_ ?_; rotate_left; · (intro w hS; clear hS; go_simp; with_reducible rfl))
            refine wpTxH_nil ?_
            go_simp
            go_wp2
            have hwi := HW.out
            go_roundw
            case rel => (try rw [hwi]); clear hwi; exact ⟨i + 1, b, q, by go_num, rfl, rfl, hlt, HST.out, HB2.out, HS2.out.2⟩
            case measure => (try rw [hwi]); clear hwi; simp [intOf]; omega
          | true =>
            have HST := Lib.hid (lik_yes m l i (rm, rq) HP.out hmt (by rw [HS.out]; exact hab))
            have hle : b < nar rm := of_decide_eq_true hab
            go_wp2_with fail
            refine wp_region_textH (fun w' => RngS g (o + i * 4) (rm, rq) (.slice ao2 rm.ps.length cap2) w' ∧ Med3 w.heap.size m mv w') [(0, true), (1, true), (2, true), (3, true), (4, true), (5, true), (6, false), (7, true), (8, true), (9, true), (10, true), (11, true), (12, true), (14, true), (13, false), (15, true), (16, true)] (by kernel_rfl) (by kernel_rfl) (by kernel_rfl) (by kernel_rfl) HSR.out ?_
            iterate 6 (refine wpTxH_take rfl (by kernel_rfl) (v := ?_) ?_ ?_; rotate_left; · (intro w hS; obtain ⟨⟨s0, s1, s2, s3, s4⟩, t0, t1, t2, t3⟩ := hS; go_simp; with_reducible rfl))
            refine wpTxH_step rfl (fun K hK => ?_)
            go_simp
            refine (HMT.out).mono ?_
            rintro e w1 ⟨rfl, hb1⟩
            have HS1 := Lib.hid (And.intro (HSR.out.1.below hb1) (HSR.out.2.below hb1))
            have HB1 := Lib.hid (HBW.out.trans (hb1.mono HBW.out.size))
            refine hK _ _ HS1.out ?_
            clear hK K
            have HPS1 := Lib.hid (HPS.out.below hb1)
            clear hb1
            refine wpTxH_take rfl (by kernel_rfl) (v := ?_) ?_ ?_; rotate_left; · (intro w hS; clear hS; go_simp; with_reducible rfl)
            iterate 6 (refine wpTxH_take rfl (by kernel_rfl) (v := ?_) ?_ ?_; rotate_left; · (intro w hS; obtain ⟨⟨s0, s1, s2, s3, s4⟩, t0, t1, t2, t3⟩ := hS; go_simp; with_reducible rfl))
            refine wpTxH_step rfl (fun K hK => ?_)
            go_simp
            refine (rnarrow_any rm (.slice ao2 rm.ps.length cap2) w1 HML.out.2 HPS1.out).mono ?_
            rintro e w2 ⟨rfl, hb2⟩
            have HS2 := Lib.hid (And.intro (HS1.out.1.below hb2) (HS1.out.2.below hb2))
            have HB2 := Lib.hid (HB1.out.trans (hb2.mono HB1.out.size))
            refine hK _ _ HS2.out ?_
            clear hK K
            have HPS2 := Lib.hid (HPS1.out.below hb2)
            clear hb2
            iterate 2 (refine wpTxH_take rfl (by kernel_rfl) (v := ?_) ?_ ?_; rotate_left; · (intro w hS; clear hS; go_simp; with_reducible rfl))
            refine wpTxH_nil ?_
            go_simp
            go_upto_region 8 with fail
            refine wp_region_textH (fun w' => RngS g (o + i * 4) (rm, rq) (.slice ao2 rm.ps.length cap2) w' ∧ Med3 w.heap.size m mv w') [(0, true), (1, true), (2, true), (3, true), (4, true), (6, true), (7, true), (8, true), (9, true), (10, true), (5, false), (11, true), (12, true)] (by kernel_rfl) (by kernel_rfl) (by kernel_rfl) (by kernel_rfl) HS2.out ?_
            iterate 10 (refine wpTxH_take rfl (by kernel_rfl) (v := ?_) ?_ ?_; rotate_left; · (intro w hS; obtain ⟨⟨s0, s1, s2, s3, s4⟩, t0, t1, t2, t3⟩ := hS; go_simp; with_reducible rfl))
            refine wpTxH_step rfl (fun K hK => ?_)
            go_simp
            refine (rnarrow_any rm (.slice ao2 rm.ps.length cap2) w2.drew HML.out.2 (HPS2.out.below ((Below.refl _ w2).drew))).mono ?_
            rintro e w4 ⟨rfl, hb4⟩
            have HS4 := Lib.hid (And.intro (RngS.below (w := w2.drew) HS2.out.1 hb4) (Med3.below (w := w2.drew) HS2.out.2 hb4))
            have HB4 := Lib.hid (HB2.out.drew.trans (hb4.mono HB2.out.size))
            refine hK _ _ HS4.out ?_
            clear hK K hb4
            iterate 2 (refine wpTxH_take rfl (by kernel_rfl) (v := ?_) ?_ ?_; rotate_left; · (intro w hS; clear hS; go_simp; with_reducible rfl))
            refine wpTxH_nil ?_
            go_simp
            go_wp2
            have hwi := HW.out
            go_roundw
            case rel => (try rw [hwi]); clear hwi; exact ⟨i + 1, nar rm, rq, by go_num, rfl, rfl, hlt, HST.out, HB4.out, HS4.out.2⟩
            case measure => (try rw [hwi]); clear hwi; simp [intOf]; omega
      · obtain rfl : i = l.length := by omega
        have hd : decide (l.length < l.length) = false := decide_eq_false (Nat.lt_irrefl _)
        have HX := Lib.hid (And.intro hb hs)
        clear hb hs hM
        go_wp2
        go_ret
        rw [HEND.out, HX.out.2]
        exact ⟨rfl, HX.out.1⟩
end Go.Proofs.YthnniiakmjonjaaDoor
