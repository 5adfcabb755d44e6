/- RSp5, RPrtL: texts of the seat, one behind the other (a claim holds at most sixty). Conditions: each theorem names its own. -/
import Derived.Test.YtpdbejeiceodkaaGreatDoorPk28
import Derived.Test.YtpdbejeiceodkaaGreatDoorPk15
import Derived.Test.YtpdbejeiceodkaaGreatDoorPk16
import Derived.Deep.DeepCutAuto
namespace Go.Proofs.YtpdbejeiceodkaaGreatDoor
open Go.RowKit
set_option linter.unusedSimpArgs false
set_option linter.unusedVariables false
set_option maxRecDepth 1000000
def Sp4P (k : Int) (w : World) (e : Ending) (w' : World) : Prop := ∃ y m d a b c f : Int, e = .returned (.tuple #[.agg (datC y m d a b c f), .int .i64 k]) ∧ Below w.heap.size w w'
set_option maxHeartbeats 8000000 in
theorem rsplit4_any (t : Int) (w : World) : Calls Tryz.prog 105 #[.int .i64 t] w (Sp4Post t w) := by
  obtain ⟨b0, hb0⟩ : ∃ b, w.heap.size = b := ⟨_, rfl⟩
  obtain ⟨W1, hW1⟩ : ∃ W1, w.alloc (.cells (datC 0 0 0 0 0 0 0) 168) = W1 := ⟨_, rfl⟩
  have hbl1 : Below w.heap.size w W1 := by rw [← hW1]; exact (Below.refl _ w).alloc (Nat.le_refl _) _
  have hB1 : BlkIs W1 b0 (datC 0 0 0 0 0 0 0) 168 := by rw [← hW1, ← hb0]; exact blkIs_new _ _ _
  have hs1 : W1.heap.size = b0 + 1 := by rw [← hW1, ← hb0]; simp
  have HW1 := Lib.hid hW1
  cases hr : tmR t with
  | false =>
    have hn := tmR_no t hr
    have HP := Lib.hid (show Sp4Post t w = Sp4P 40 w by unfold Sp4Post Sp4P; rw [hr]; rfl)
    have z0 := hB1.cell 0 _ rfl
    have z1 := hB1.cell 1 _ rfl
    have z2 := hB1.cell 2 _ rfl
    have z3 := hB1.cell 3 _ rfl
    have z4 := hB1.cell 4 _ rfl
    have z5 := hB1.cell 5 _ rfl
    have z6 := hB1.cell 6 _ rfl
    have y0 := hB1.free 0
    have y1 := hB1.free 1
    have y2 := hB1.free 2
    have y3 := hB1.free 3
    have y4 := hB1.free 4
    have y5 := hB1.free 5
    have y6 := hB1.free 6
    have HF := Lib.hid (And.intro ((((((((hB1.set 0 (.int .i64 0)).set 1 (.int .i64 0)).set 2 (.int .i64 0)).set 3 (.int .i64 0)).set 4 (.int .i64 0)).set 5 (.int .i64 0)).set 6 (.int .i64 0)))
      (((((((hbl1.setCell (p := ⟨b0, 0, none⟩) (by rw [hb0]; exact Nat.le_refl _) (.int .i64 0)).setCell (p := ⟨b0, 1, none⟩) (by rw [hb0]; exact Nat.le_refl _) (.int .i64 0)).setCell (p := ⟨b0, 2, none⟩) (by rw [hb0]; exact Nat.le_refl _) (.int .i64 0)).setCell (p := ⟨b0, 3, none⟩) (by rw [hb0]; exact Nat.le_refl _) (.int .i64 0)).setCell (p := ⟨b0, 4, none⟩) (by rw [hb0]; exact Nat.le_refl _) (.int .i64 0)).setCell (p := ⟨b0, 5, none⟩) (by rw [hb0]; exact Nat.le_refl _) (.int .i64 0)).setCell (p := ⟨b0, 6, none⟩) (by rw [hb0]; exact Nat.le_refl _) (.int .i64 0)))
    rw [HP.out]
    clear hr hbl1 hB1 hs1 hW1
    rcases hn with h1 | ⟨h1, h2⟩
    all_goals
      go_enter Tryz.func105, Tryz.ntmps105
      go_upto_region 1 with fail
      rw [HW1.out]
      go_wp2
      refine bodyPost_ret (v := .tuple #[.agg (datC 0 0 0 0 0 0 0), .int .i64 40]) ?r rfl ⟨0, 0, 0, 0, 0, 0, 0, rfl, HF.out.2⟩
      case r => exact results_dat (p := 2) (u := 3) rfl _ _ b0 _ (0, 0) rfl HF.out.1 rfl
  | true =>
    obtain ⟨h1, h2⟩ := tmR_yes t hr
    obtain ⟨q1, q2, r1, r2⟩ := tq_bd t hr
    obtain ⟨q, hq⟩ : ∃ q, t.tdiv 86400 = q := ⟨_, rfl⟩
    obtain ⟨r, hrr⟩ : ∃ r, t.tmod 86400 = r := ⟨_, rfl⟩
    rw [hq] at q1 q2
    rw [hrr] at r1 r2
    have HP := Lib.hid (show Sp4Post t w = Sp4P 0 w by unfold Sp4Post Sp4P; rw [hr]; rfl)
    rw [HP.out]
    have HB1 := Lib.hid (And.intro hbl1 (And.intro hB1 hs1))
    clear hr hbl1 hB1 hs1 hW1
    go_enter Tryz.func105, Tryz.ntmps105
    go_upto_region 1 with fail
    rw [HW1.out]
    go_upto_if 19 with fail
    go_cut [4, 5] (fun s4 s5 wx => ∃ D R : Int, s4 = .int .i64 D ∧ s5 = .int .i64 R ∧ -719164 ≤ D ∧ D ≤ 2932897 ∧ 0 ≤ R ∧ R < 86400 ∧ W1 = wx)
    case first =>
      by_cases hneg : r < 0
      · go_wp2
        go_meet
        exact ⟨_, _, rfl, rfl, by omega, by omega, by omega, by omega, by first | rfl | trivial⟩
      · go_wp2
        go_meet
        exact ⟨_, _, rfl, rfl, by omega, by omega, by omega, by omega, by first | rfl | trivial⟩
    case rest =>
    obtain ⟨D0, R, rfl, rfl, d1, d2, r3, r4, rfl⟩ := hcut
    clear h1 h2 q1 q2 r1 r2
    have HWK := Lib.hid (rweek_any D0 W1 (by omega) (by omega))
    go_wp2_with fail
    refine (HWK.out).mono ?_
    rintro e w2 ⟨⟨vk, rfl⟩, hw2⟩
    subst hw2
    obtain ⟨b1, hb1⟩ : ∃ b, w2.heap.size = b := ⟨_, rfl⟩
    have hbb : b1 = b0 + 1 := by rw [← hb1]; exact HB1.out.2.2
    go_upto_region 9 with fail
    obtain ⟨xa, hxa⟩ : ∃ x, R / 3600 = x := ⟨_, rfl⟩
    obtain ⟨xb, hxb⟩ : ∃ x, R / 60 % 60 = x := ⟨_, rfl⟩
    obtain ⟨xc, hxc⟩ : ∃ x, R % 60 = x := ⟨_, rfl⟩
    obtain ⟨W3, hW3⟩ : ∃ W, w2.alloc (.cells (datC 1970 1 0 xa xb xc vk) 168) = W := ⟨_, rfl⟩
    have hb3 : Below w.heap.size w W3 := by rw [← hW3]; exact HB1.out.1.alloc HB1.out.1.size _
    have hR3 : BlkIs W3 b0 (datC 0 0 0 0 0 0 0) 168 := by rw [← hW3]; exact HB1.out.2.1.alloc _
    have hD3 : BlkIs W3 (b0 + 1) (datC 1970 1 0 xa xb xc vk) 168 := by rw [← hW3, ← HB1.out.2.2]; exact blkIs_new _ _ _
    rw [hxa, hxb, hxc]
    have HW3 := Lib.hid hW3
    have H3 := Lib.hid (And.intro hb3 (And.intro hR3 hD3))
    have HBB := Lib.hid hb0
    clear hxa hxb hxc hW3 hb3 hR3 hD3 hbb hb1 hb0
    rw [HW3.out]
    go_loopw [4] (fun v4 wr => ∃ D Y : Int, v4 = .int .i64 D ∧ -719164 ≤ D ∧ D ≤ 2932897 ∧ Y ≤ 1970 ∧ -719164 + 365 * (1970 - Y) ≤ D ∧ (D ≤ 366 ∨ Y = 1970) ∧ Below w.heap.size w wr ∧ BlkIs wr b0 (datC 0 0 0 0 0 0 0) 168 ∧ BlkIs wr (b0 + 1) (datC Y 1 0 xa xb xc vk) 168) (fun v4 _ => (1000 - intOf v4).toNat)
    case atStart => exact ⟨D0, 1970, rfl, d1, d2, by omega, by omega, .inr rfl, H3.out⟩
    case round =>
      clear d1 d2
      obtain ⟨D, Y, rfl, d1, d2, y1, y2, y3, hbl, hR, hD⟩ := hrel
      by_cases hneg : D < 0
      · have hyl : Y ≥ -2 := by omega
        have HYD := Lib.hid (ydN_bd (Y - 1))
        have z0 := hD.cell 0 _ rfl
        have z1 := hD.free 0
        have hD' := hD.set 0 (.int .i64 (Y - 1))
        have z2 := hD'.cell 0 _ rfl
        have HY := Lib.hid (fun W => ryear_any (Y - 1) W)
        have HX := Lib.hid (And.intro (hbl.setCell (p := ⟨b0 + 1, 0, none⟩) (by rw [HBB.out]; exact Nat.le_succ _) (.int .i64 (Y - 1))) (And.intro (hR.setOther ⟨b0 + 1, 0, none⟩ (.int .i64 (Y - 1)) (by show b0 ≠ b0 + 1; omega)) hD'))
        clear hD' hD hR hbl
        go_wp2_with fail
        refine (HY.out _).mono ?_
        rintro e w4 ⟨rfl, hw4⟩
        subst hw4
        obtain ⟨yy, hyy⟩ : ∃ y, ydN (Y - 1) = y := ⟨_, rfl⟩
        have hyb := HYD.out
        rw [hyy] at hyb ⊢
        clear hyy
        go_wp2
        go_roundw
        case rel => exact ⟨D + yy, Y - 1, rfl, by omega, by omega, by omega, by omega, by omega, HX.out⟩
        case measure => simp [intOf]; omega
      · have HX := Lib.hid (And.intro hbl (And.intro hR hD))
        clear hbl hR hD
        have d3 : 0 ≤ D := by omega
        have y4 : -3 ≤ Y := by omega
        clear y2 y3 d1 hneg
        go_upto_region 12 with fail
        go_loopw [4] (fun v4 wr => ∃ D Y : Int, v4 = .int .i64 D ∧ 0 ≤ D ∧ D ≤ 2932897 ∧ -3 ≤ Y ∧ 365 * (Y - 1970) + D ≤ 2932897 ∧ Below w.heap.size w wr ∧ BlkIs wr b0 (datC 0 0 0 0 0 0 0) 168 ∧ BlkIs wr (b0 + 1) (datC Y 1 0 xa xb xc vk) 168) (fun v4 _ => (intOf v4).toNat)
        case atStart => exact ⟨D, Y, rfl, d3, d2, y4, by omega, HX.out⟩
        case round =>
          clear d3 d2 y4 y1 HX
          obtain ⟨D, Y, rfl, d1, d2, y1, y2, hbl, hR, hD⟩ := hrel
          have HY := Lib.hid (fun W => ryear_any Y W)
          obtain ⟨yy, hyy⟩ : ∃ y, ydN Y = y := ⟨_, rfl⟩
          have hyb := ydN_bd Y
          rw [hyy] at hyb HY
          have HYY := Lib.hid hyy
          clear hyy
          have z0 := hD.cell 0 _ rfl
          have z1 := hD.free 0
          by_cases hge : yy ≤ D
          · have HX := Lib.hid (And.intro (hbl.setCell (p := ⟨b0 + 1, 0, none⟩) (by rw [HBB.out]; exact Nat.le_succ _) (.int .i64 (Y + 1))) (And.intro (hR.setOther ⟨b0 + 1, 0, none⟩ (.int .i64 (Y + 1)) (by show b0 ≠ b0 + 1; omega)) (hD.set 0 (.int .i64 (Y + 1)))))
            clear hD hR hbl
            go_wp2_with fail
            refine (HY.out _).mono ?_
            rintro e w4 ⟨rfl, hw4⟩
            subst hw4
            go_wp2_with fail
            refine (HY.out _).mono ?_
            rintro e w4 ⟨rfl, hw4⟩
            subst hw4
            go_wp2
            go_roundw
            case rel => exact ⟨D - yy, Y + 1, rfl, by omega, by omega, by omega, by omega, HX.out⟩
            case measure => simp [intOf]; omega
          · have HX := Lib.hid (And.intro hbl (And.intro hR hD))
            clear hbl hR hD
            go_wp2_with fail
            refine (HY.out _).mono ?_
            rintro e w4 ⟨rfl, hw4⟩
            subst hw4
            have hD1 : D < rstD Y 1 := by rw [rstD_year, HYY.out]; omega
            have HD1 := Lib.hid hD1
            clear hD1 z0 z1
            go_upto_region 15 with fail
            go_loopw [4] (fun v4 wr => ∃ (D : Int) (M : Nat), v4 = .int .i64 D ∧ 0 ≤ D ∧ D ≤ 366 ∧ 1 ≤ M ∧ M ≤ 12 ∧ D < rstD Y M ∧ Below w.heap.size w wr ∧ BlkIs wr b0 (datC 0 0 0 0 0 0 0) 168 ∧ BlkIs wr (b0 + 1) (datC Y (M : Int) 0 xa xb xc vk) 168) (fun v4 _ => (intOf v4).toNat)
            case atStart => exact ⟨D, 1, rfl, d1, by omega, by omega, by omega, HD1.out, HX.out⟩
            case round =>
              clear d1 d2 y2 hge hyb HX HD1
              obtain ⟨D, M, rfl, d1, d2, m1, m2, hrs, hbl, hR, hD⟩ := hrel
              have hst := rstD_step Y M m1 m2
              have hmb := mdN_bd Y M m1 m2
              have HM := Lib.hid (fun W => rmonth_any Y M m1 m2 W)
              obtain ⟨mm, hmm⟩ : ∃ y, mdN Y M = y := ⟨_, rfl⟩
              rw [hmm] at hst hmb HM
              have hr13 : M = 12 → rstD Y (M + 1) = 0 := fun h => by rw [h]; exact rstD_end Y
              have z0 := hD.cell 0 _ rfl
              have z3 := hD.cell 1 _ rfl
              have HX := Lib.hid (And.intro hbl (And.intro hR hD)); have HS := Lib.hid (And.intro hst (And.intro hr13 hrs))
              clear hmm hst hr13 hrs hbl hR hD
              go_wp2_with fail
              refine (HM.out _).mono ?_
              rintro e w4 ⟨rfl, hb4⟩
              have HX4 := Lib.hid (And.intro (HX.out.1.trans (hb4.mono HX.out.1.size)) (And.intro (HX.out.2.1.later hb4) (HX.out.2.2.later hb4)))
              clear z0 z3 hb4
              have z0 := HX4.out.2.2.cell 0 _ rfl
              have z3 := HX4.out.2.2.cell 1 _ rfl
              by_cases hge : mm ≤ D
              · have hm12 : M ≠ 12 := fun h => by have h1 := HS.out.2.1 h; have h2 := HS.out.1; have h3 := HS.out.2.2; omega
                go_wp2_with fail
                refine (HM.out _).mono ?_
                rintro e w5 ⟨rfl, hb5⟩
                have hbl5 := HX4.out.1.trans (hb5.mono HX4.out.1.size)
                have hR5 := HX4.out.2.1.later hb5
                have hD5 := HX4.out.2.2.later hb5
                clear z0 z3 hb5
                have z3 := hD5.cell 1 _ rfl
                have z4 := hD5.free 1
                have HX5 := Lib.hid (And.intro (hbl5.setCell (p := ⟨b0 + 1, 1, none⟩) (by rw [HBB.out]; exact Nat.le_succ _) (.int .i64 ((M : Int) + 1))) (And.intro (hR5.setOther ⟨b0 + 1, 1, none⟩ (.int .i64 ((M : Int) + 1)) (by show b0 ≠ b0 + 1; omega)) (hD5.set 1 (.int .i64 ((M : Int) + 1)))))
                clear hbl5 hR5 hD5
                go_wp2
                go_roundw
                case rel => exact ⟨D - mm, M + 1, rfl, by omega, by omega, by omega, by omega, by have h2 := HS.out.1; have h3 := HS.out.2.2; omega, HX5.out.1, HX5.out.2.1, HX5.out.2.2⟩
                case measure => simp [intOf]; omega
              · have z4 := HX4.out.2.2.free 2
                have z5 := HX4.out.2.2.cell 2 _ rfl
                have hD6 := HX4.out.2.2.set 2 (.int .i64 (D + 1))
                have hR6 := HX4.out.2.1.setOther ⟨b0 + 1, 2, none⟩ (.int .i64 (D + 1)) (by show b0 ≠ b0 + 1; omega)
                have hb6 := HX4.out.1.setCell (p := ⟨b0 + 1, 2, none⟩) (by rw [HBB.out]; exact Nat.le_succ _) (.int .i64 (D + 1))
                obtain ⟨W7, hW7⟩ : ∃ W, w4.setCell ⟨b0 + 1, 2, none⟩ (.int .i64 (D + 1)) = W := ⟨_, rfl⟩
                rw [hW7] at hD6 hR6 hb6
                have HW7 := Lib.hid hW7
                have HX6 := Lib.hid (And.intro hb6 (And.intro hR6 hD6))
                clear hW7 hD6 hR6 hb6
                go_upto_region 19 with fail
                rw [HW7.out]
                have q0 := HX6.out.2.2.cell 0 _ rfl
                have q1 := HX6.out.2.2.cell 1 _ rfl
                have q2 := HX6.out.2.2.cell 2 _ rfl
                have q3 := HX6.out.2.2.cell 3 _ rfl
                have q4 := HX6.out.2.2.cell 4 _ rfl
                have q5 := HX6.out.2.2.cell 5 _ rfl
                have q6 := HX6.out.2.2.cell 6 _ rfl
                have p0 := HX6.out.2.1.cell 0 _ rfl
                have p1 := HX6.out.2.1.cell 1 _ rfl
                have p2 := HX6.out.2.1.cell 2 _ rfl
                have p3 := HX6.out.2.1.cell 3 _ rfl
                have p4 := HX6.out.2.1.cell 4 _ rfl
                have p5 := HX6.out.2.1.cell 5 _ rfl
                have p6 := HX6.out.2.1.cell 6 _ rfl
                have f0 := HX6.out.2.1.free 0
                have f1 := HX6.out.2.1.free 1
                have f2 := HX6.out.2.1.free 2
                have f3 := HX6.out.2.1.free 3
                have f4 := HX6.out.2.1.free 4
                have f5 := HX6.out.2.1.free 5
                have f6 := HX6.out.2.1.free 6
                have hF := (((((((HX6.out.2.1.set 0 (.int .i64 Y)).set 1 (.int .i64 (M : Int))).set 2 (.int .i64 (D + 1))).set 3 (.int .i64 xa)).set 4 (.int .i64 xb)).set 5 (.int .i64 xc)).set 6 (.int .i64 vk))
                have hF2 := (((((((HX6.out.1.setCell (p := ⟨b0, 0, none⟩) (by rw [HBB.out]; exact Nat.le_refl _) (.int .i64 Y)).setCell (p := ⟨b0, 1, none⟩) (by rw [HBB.out]; exact Nat.le_refl _) (.int .i64 (M : Int))).setCell (p := ⟨b0, 2, none⟩) (by rw [HBB.out]; exact Nat.le_refl _) (.int .i64 (D + 1))).setCell (p := ⟨b0, 3, none⟩) (by rw [HBB.out]; exact Nat.le_refl _) (.int .i64 xa)).setCell (p := ⟨b0, 4, none⟩) (by rw [HBB.out]; exact Nat.le_refl _) (.int .i64 xb)).setCell (p := ⟨b0, 5, none⟩) (by rw [HBB.out]; exact Nat.le_refl _) (.int .i64 xc)).setCell (p := ⟨b0, 6, none⟩) (by rw [HBB.out]; exact Nat.le_refl _) (.int .i64 vk))
                have HF := Lib.hid (And.intro hF hF2)
                clear hF hF2
                go_wp2
                refine bodyPost_ret (v := .tuple #[.agg (datC Y (M : Int) (D + 1) xa xb xc vk), .int .i64 0]) ?r rfl ⟨Y, M, D + 1, xa, xb, xc, vk, rfl, HF.out.2⟩
                case r => exact results_dat (p := 2) (u := 3) rfl _ _ b0 _ (0, 0) rfl HF.out.1 rfl
end Go.Proofs.YtpdbejeiceodkaaGreatDoor
namespace Go.Proofs.YtpdbejeiceodkaaGreatDoor
open Go.RowKit
set_option linter.unusedSimpArgs false
set_option linter.unusedVariables false
set_option maxRecDepth 1000000
abbrev parO (p : Par) (T : TypeId) : Obj := .cells #[.string ⟨p.1.toArray⟩, .string ⟨p.2.1.toArray⟩, .bool p.2.2] T
section
variable {P : Program} {ops : Array Oper} {Q : Exit → Act → World → Prop}
/-- A region that draws, its orders one by one. -/
theorem wp_region_each {id : Nat} {a : Act} {w : World} (n : Nat) (hm : P.follows .mixedOrders = true) (hn : n = ops.size) (h : wpAny P .any ops (offPanic Q) n (Array.replicate ops.size false) a w.drew) : (Code.region id ops true).wp P Q a w := by
  subst hn
  refine Code.wp_mono (Q := offPanic Q) (fun e a w h => ?_) (wp_region_any hm h)
  cases e <;> first | exact h | exact (h : False).elim
theorem each_take {i n : Nat} {o : Oper} {v : Value} {L : Array Bool} {a : Act} {w : World} (hi : ops[i]? = some o) (hs : Region.noSelect ops = true) (hc : (Region.free .any ops L i && (Region.ready .any ops L).contains i) = true) (hw : Region.wanted o (yielded ops a.tmps) = true)
    (hv : ∀ w, (execOp a.eval o).run P w = .ok (.value v) w) (h : wpAny P .any ops (offPanic Q) n (L.setIfInBounds i true) (a.put o.dst v) w) : wpAny P .any ops (offPanic Q) (n + 1) L a w := by
  rw [Bool.and_eq_true] at hc
  exact wpAny_take hi hs hc.1 hc.2 (fun _ _ _ h => h) (.inl ⟨hw, hv⟩) h
abbrev EachStep (P : Program) (ops : Array Oper) (Q : Exit → Act → World → Prop) (n : Nat) (L : Array Bool) (a : Act) (w : World) (i : Nat) (o : Oper) : Prop :=
  ∀ K : Act → World → Prop, (∀ a w, wpAny P .any ops Q n (L.setIfInBounds i true) a w → K a w) → if Region.wanted o (yielded ops a.tmps) = true then Oper.wp P o a w K Q else K (a.put o.dst undef) w
theorem each1 {i n : Nat} {o : Oper} {L : Array Bool} {a : Act} {w : World} (hr : (Region.ready .any ops L == [i]) = true) (hi : ops[i]? = some o) (h : EachStep P ops Q n L a w i o) : wpAny P .any ops Q (n + 1) L a w := by
  refine wpAny_all (by simpa using hr) (by simp) (fun j hj => ?_)
  obtain rfl : j = i := by simpa using hj
  exact wpOp_step hi h
theorem each2 {i j n : Nat} {o p : Oper} {L : Array Bool} {a : Act} {w : World} (hr : (Region.ready .any ops L == [i, j]) = true) (hi : ops[i]? = some o) (hj : ops[j]? = some p) (h : EachStep P ops Q n L a w i o) (h2 : EachStep P ops Q n L a w j p) : wpAny P .any ops Q (n + 1) L a w := by
  refine wpAny_all (by simpa using hr) (by simp) (fun k hk => ?_)
  rcases (by simpa using hk : k = i ∨ k = j) with rfl | rfl
  · exact wpOp_step hi h
  · exact wpOp_step hj h2
theorem each3 {i j k n : Nat} {o p q : Oper} {L : Array Bool} {a : Act} {w : World} (hr : (Region.ready .any ops L == [i, j, k]) = true) (hi : ops[i]? = some o) (hj : ops[j]? = some p) (hk : ops[k]? = some q) (h : EachStep P ops Q n L a w i o) (h2 : EachStep P ops Q n L a w j p) (h3 : EachStep P ops Q n L a w k q) : wpAny P .any ops Q (n + 1) L a w := by
  refine wpAny_all (by simpa using hr) (by simp) (fun l hl => ?_)
  rcases (by simpa using hl : l = i ∨ l = j ∨ l = k) with rfl | rfl | rfl
  · exact wpOp_step hi h
  · exact wpOp_step hj h2
  · exact wpOp_step hk h3
theorem each_done {L : Array Bool} {a : Act} {w : World} {n : Nat} (hr : Region.ready .any ops L = []) (h : Q .normal a w) : wpAny P .any ops (offPanic Q) n L a w := wpAny_done (Q := offPanic Q) hr h n
end
theorem results_rmedia {fn : Func} {p u : Tmp} (h : fn.results = #[.cell p 103, .tmp u]) (tmps : Array Value) (w : World) (g : Nat) (cs : Array Value) (fr : Nat × Nat)
    (hp : tmps.getD p undef = .pointer (some ⟨g, 0, none⟩)) (hg : w.heap[g]? = some (.cells cs 103 fr)) (hs : cs.size = 3) :
    (results fn tmps).run Tryz.prog w = .ok (.tuple #[.agg cs, tmps.getD u undef]) w := by
  rw [results_cell_tmp h, hp]
  have := run_loadVar_row (P := Tryz.prog) w g 103 103 cs fr _ hg Tryz.underlying103 rfl (by rw [hs]; kernel_rfl)
  simp [asAddr, this, Result.andThen]
theorem run_step (s : List UInt8) (N i : Nat) (c : UInt8) (hN : runL isSg s = N) (h : i ≤ N) (hg : s[i]? = some c) : decide (i < N) = isSg c := by
  subst hN
  cases hc : isSg c with
  | true => have := runL_more isSg s i c h hg hc; exact decide_eq_true (by omega)
  | false => have := runL_stop isSg s i c h hg hc; exact decide_eq_false (by omega)
theorem run_over (s : List UInt8) (N i : Nat) (hN : runL isSg s = N) (h : i ≤ N) (hl : s.length ≤ i) : decide (i < N) = false := by
  subst hN
  have := runL_end isSg s i h hl
  exact decide_eq_false (by omega)
/-- What stands behind the one great statement. -/
def Pr12 (D : World) (ty sub : List UInt8) (a g : Nat) (W : World) : Prop := Below D.heap.size D W ∧ D.heap.size ≤ g ∧ BlkIs W g #[] 198 ∧ D.heap.size ≤ a ∧ BlkIs W a #[.string ⟨ty.toArray⟩, .string ⟨sub.toArray⟩, .slice (some ⟨g, 0, none⟩) 0 0] 103
theorem blk_ne {w : World} {a b : Nat} {c d : Array Value} {T S : TypeId} (h : BlkIs w a c T) (h2 : BlkIs w b d S) (hne : T ≠ S) : a ≠ b := by
  rintro rfl
  unfold BlkIs at h h2
  rw [h] at h2
  injection h2 with h2
  injection h2 with _ h2
  exact hne h2
theorem pr12_leaf {D W : World} {ty sub : List UInt8} {a g : Nat} (hb : Below D.heap.size D W) (hg : D.heap.size ≤ g) (hG : BlkIs W g #[] 198) (ha : D.heap.size ≤ a) (hA : BlkIs W a zMed 103) :
    Pr12 D ty sub a g (((W.setCell ⟨a, 0, none⟩ (.string ⟨ty.toArray⟩)).setCell ⟨a, 1, none⟩ (.string ⟨sub.toArray⟩)).setCell ⟨a, 2, none⟩ (.slice (some ⟨g, 0, none⟩) 0 0)) := by
  have hne : g ≠ a := blk_ne hG hA (by decide)
  exact ⟨((hb.setCell (p := ⟨a, 0, none⟩) ha _).setCell (p := ⟨a, 1, none⟩) ha _).setCell (p := ⟨a, 2, none⟩) ha _, hg, ((hG.setOther _ _ hne).setOther _ _ hne).setOther _ _ hne, ha, ((hA.set 0 _).set 1 _).set 2 _⟩
theorem zCells {w : World} {b : Nat} {T : TypeId} (h : BlkIs w b zMed T) : w.cell? ⟨b, 0, none⟩ = some (.string ⟨#[]⟩) ∧ w.cell? ⟨b, 1, none⟩ = some (.string ⟨#[]⟩) ∧ w.cell? ⟨b, 2, none⟩ = some (.slice none 0 0) :=
  ⟨h.cell 0 _ rfl, h.cell 1 _ rfl, h.cell 2 _ rfl⟩
theorem zero_set {w : World} {b : Nat} {T : TypeId} (h : BlkIs w b zMed T) : BlkIs (((w.setCell ⟨b, 0, none⟩ (.string ⟨#[]⟩)).setCell ⟨b, 1, none⟩ (.string ⟨#[]⟩)).setCell ⟨b, 2, none⟩ (.slice none 0 0)) b zMed T := ((h.set 0 _).set 1 _).set 2 _
theorem mdR_no0 (s : List UInt8) (N : Nat) (hN : runL isSg s = N) (h : N = 0 ∨ s[N]? ≠ some 47) : mdR s = noMed := mdR_none s N hN h
theorem mdR_short (s : List UInt8) (N M : Nat) (hN : runL isSg s = N) (h0 : N ≠ 0) (h : s[N]? = some 47) (hM : N + 1 + runL isSg (s.drop (N + 1)) = M) (hk : M = N + 1) : mdR s = noMed := by
  rw [mdR_at s N hN h0 h]
  refine mdK_bad s (s.drop (N + 1)) N 0 _ _ _ (by omega) rfl (Or.inl rfl)
theorem mdR_fault (s : List UInt8) (N M m e : Nat) (ps : List Par) (hN : runL isSg s = N) (h0 : N ≠ 0) (h : s[N]? = some 47) (hM : N + 1 + runL isSg (s.drop (N + 1)) = M) (hl : M ≤ s.length) (hp : parR (s.drop M) = (ps, m, e)) (hb : e ≠ 0 ∨ M + m ≠ s.length) : mdR s = noMed := by
  rw [mdR_at s N hN h0 h]
  refine mdK_bad s (s.drop (N + 1)) N (runL isSg (s.drop (N + 1))) ps m e rfl (by rw [List.drop_drop, hM]; exact hp) (Or.inr (hb.imp id (fun hb => ?_)))
  rw [List.length_drop]
  omega
theorem mdR_good (s : List UInt8) (N M m : Nat) (ps : List Par) (hN : runL isSg s = N) (h0 : N ≠ 0) (h : s[N]? = some 47) (hM : N + 1 + runL isSg (s.drop (N + 1)) = M) (hk : M ≠ N + 1) (hl : M ≤ s.length) (hp : parR (s.drop M) = (ps, m, 0)) (hb : M + m = s.length) :
    mdR s = (lowL (s.take N), lowL ((s.drop (N + 1)).take (M - (N + 1))), ps.map lowP, true) := by
  rw [mdR_at s N hN h0 h]
  rw [mdK_ok s (s.drop (N + 1)) N (M - (N + 1)) ps m 0 (by omega) (by rw [List.drop_drop, show N + 1 + (M - (N + 1)) = M from by omega]; exact hp) (by omega) rfl (by rw [List.length_drop]; omega)]
end Go.Proofs.YtpdbejeiceodkaaGreatDoor
