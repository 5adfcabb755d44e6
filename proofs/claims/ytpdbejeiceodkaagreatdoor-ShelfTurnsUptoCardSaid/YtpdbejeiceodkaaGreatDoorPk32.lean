/- RMpr, RLanH: texts of the seat, one behind the other (a claim holds at most sixty). Conditions: each theorem names its own. -/
import Derived.Test.YtpdbejeiceodkaaGreatDoorPk31
import Derived.Test.YtpdbejeiceodkaaGreatDoorPk18
import Derived.Test.YtpdbejeiceodkaaGreatDoorPk06
import Derived.Test.YtpdbejeiceodkaaGreatDoorPk25
import Derived.Test.YtpdbejeiceodkaaGreatDoorPk03
namespace Go.Proofs.YtpdbejeiceodkaaGreatDoor
open Go.RowKit
set_option linter.unusedSimpArgs false
set_option linter.unusedVariables false
set_option maxRecDepth 1000000
theorem wtxH_passP {P : Program} {ops : Array Oper} {S : World → Prop} {Q : Exit → Act → World → Prop} {i : Nat} {o : Oper} {r : List (Nat × Bool)} {a : Act} {w : World} (ho : ops[i]? = some o) (hw : Region.wanted o (yielded ops a.tmps) = false)
    (h : wpTxH P ops S Q r (a.put o.dst undef) w) : wpTxH P ops S Q ((i, true) :: r) a w := ⟨o, undef, ho, .inr ⟨hw, rfl⟩, h⟩
theorem mprOk_r (ty sub : List UInt8) (ps : List Par) : mprOk ⟨ty, sub, ps⟩ = (ps.all prmOk && (((small ty && small sub) && ps.all smN) && (allVal ps && (isTok ty && isTok sub)))) := by
  unfold mprOk
  simp only
  cases ps.all prmOk <;> cases isTok ty <;> cases isTok sub <;> cases small ty <;> cases small sub <;> cases allVal ps <;> cases ps.all smN <;> rfl
theorem mprR_no (m : Mdm) (h : mprOk m = false) : mprR m = ([], 70) := by unfold mprR; rw [h]; rfl
theorem mprR_yes (m : Mdm) (h : mprOk m = true) : mprR m = (m.ty ++ 47 :: (m.sub ++ prAll m.ps), 0) := by unfold mprR; rw [h]; rfl
theorem mprOk_prm (m : Mdm) (h : mprOk m = true) : m.ps.all prmOk = true := by unfold mprOk at h; simp only [Bool.and_eq_true] at h; exact h.1
theorem prmR_neq (ps : List Par) : (((prmR ps).2 : Int) != 0) = !ps.all prmOk := by
  unfold prmR
  cases ps.all prmOk <;> rfl
theorem low_small (l x : List UInt8) (h : lowL l = x) : (x == l) = small l := by unfold small; rw [h, beq_dec]
set_option maxHeartbeats 16000000 in
theorem rmpr_any (m : Mdm) (pv : Value) (w : World) (hN : mdmLen m ≤ 1073741824) (h : ParsIn w pv m.ps) :
    Calls Tryz.prog 103 #[.agg #[.string ⟨m.ty.toArray⟩, .string ⟨m.sub.toArray⟩, pv]] w fun e w' => e = .returned (.tuple #[.string ⟨(mprR m).1.toArray⟩, .int .i64 ((mprR m).2 : Nat)]) ∧ Below w.heap.size w w' := by
  obtain ⟨ty, sub, ps⟩ := m
  unfold mdmLen at hN
  simp only at hN h
  obtain ⟨ao, cap, rfl, hat⟩ := h
  obtain ⟨W0, hW0⟩ : ∃ W0, w.alloc (.cells (mC ⟨ty, sub, ps⟩ (.slice ao ps.length cap)) 103) = W0 := ⟨_, rfl⟩
  have hb0 : Below w.heap.size w W0 := by rw [← hW0]; exact (Below.refl _ w).alloc (Nat.le_refl _) _
  have hB0 : BlkIs W0 w.heap.size (mC ⟨ty, sub, ps⟩ (.slice ao ps.length cap)) 103 := by rw [← hW0]; exact blkIs_new _ _ _
  have hin : ∀ W, Below w.heap.size w W → ParsIn W (.slice ao ps.length cap) ps := fun W hW => ⟨ao, cap, rfl, hat.below hW⟩
  have hpm := fun W hW => rprm_any (.slice ao ps.length cap) ps W (by omega) (hin W hW)
  have hvl := fun W hW => rvalued_any (.slice ao ps.length cap) ps W (by omega) (hin W hW)
  have htl : ty.length ≤ 1073741824 := by omega
  have hsl : sub.length ≤ 1073741824 := by omega
  have hpl : ps.length ≤ 1073741824 := by omega
  have hT1 := fun W => rtoken_any ⟨ty.toArray⟩ W (by rw [size_mk]; exact Nat.le_trans htl (by decide))
  have hT2 := fun W => rtoken_any ⟨sub.toArray⟩ W (by rw [size_mk]; exact Nat.le_trans hsl (by decide))
  have hl1 := fun W => rlower_any ⟨ty.toArray⟩ W (by rw [size_mk]; exact Nat.le_trans htl (by decide))
  have hl2 := fun W => rlower_any ⟨sub.toArray⟩ W (by rw [size_mk]; exact Nat.le_trans hsl (by decide))
  simp only [show (⟨ty.toArray⟩ : ByteArray).data.toList = ty from rfl, show (⟨sub.toArray⟩ : ByteArray).data.toList = sub from rfl] at hT1 hT2 hl1 hl2
  obtain ⟨x, hx⟩ : ∃ x, lowL ty = x := ⟨_, rfl⟩
  obtain ⟨y, hy⟩ : ∃ y, lowL sub = y := ⟨_, rfl⟩
  rw [hx] at hl1
  rw [hy] at hl2
  have hx2 := low_small ty x hx
  have hy2 := low_small sub y hy
  have hno := mprR_no ⟨ty, sub, ps⟩
  have hyes := mprR_yes ⟨ty, sub, ps⟩
  have hok := mprOk_r ty sub ps
  have hpe := prmR_neq ps
  have hlT := prmR_len ps (by omega)
  have hpt := prmR_txt ps
  obtain ⟨⟨T, E⟩, hPM⟩ : ∃ r, prmR ps = r := ⟨_, rfl⟩
  rw [hPM] at hpm hpe hlT hpt
  simp only at hpe hlT hpt
  have hps : ∀ (i : Nat) (p : Par), ps[i]? = some p → p.1.length ≤ 1099511627776 := fun i p hp => by have := par_le ps i p hp; omega
  have HB0 := Lib.hid (And.intro hb0 hB0); have HW0 := Lib.hid hW0; have HPM := Lib.hid hpm; have HVL := Lib.hid hvl; have HT1 := Lib.hid hT1; have HT2 := Lib.hid hT2; have HL1 := Lib.hid hl1; have HL2 := Lib.hid hl2; have HXY := Lib.hid (And.intro hx2 hy2)
  have HNO := Lib.hid hno; have HYES := Lib.hid hyes; have HPE := Lib.hid hpe; have HLEN := Lib.hid (And.intro htl (And.intro hsl hlT)); have HPT := Lib.hid hpt; have HPS := Lib.hid hps; have HAT := Lib.hid hat; have HOK := Lib.hid hok
  clear hb0 hB0 hW0 hpm hvl hT1 hT2 hl1 hl2 hx hy hx2 hy2 hno hyes hok hpe htl hsl hlT hpt hPM hps hat hin hN
  go_enter Tryz.func103, Tryz.ntmps103
  go_upto_region 1 with fail
  rw [HW0.out]
  have e2 : W0.cell? ⟨w.heap.size, 2, none⟩ = some (.slice ao ps.length cap) := HB0.out.2.cell 2 _ rfl
  go_wp2_with fail
  refine (HPM.out _ HB0.out.1).mono ?_
  rintro e w1 ⟨rfl, hb1⟩
  have HB1 := Lib.hid (And.intro (HB0.out.1.trans (hb1.mono HB0.out.1.size)) (HB0.out.2.later hb1))
  clear hb1 e2
  go_upto_region 2 with fail
  go_cut [6] (fun s6 wx => s6 = .bool (small ty && small sub) ∧ Below w1.heap.size w1 wx)
  case first =>
    rename_i J0 K0 hJ0 hK0
    have HD := Lib.hid (HB1.out.2.later ((Below.refl _ w1).drew))
    cases hst : small ty with
    | false =>
      have hxt := HXY.out.1
      rw [hst] at hxt
      have HSTY := Lib.hid hst
      clear hst
      refine wp_region_textH (fun w' => BlkIs w' w.heap.size (mC ⟨ty, sub, ps⟩ (.slice ao ps.length cap)) 103) [(0, true), (1, true), (3, true), (4, true), (2, false), (5, true), (6, true), (7, true), (8, true), (10, true), (11, true), (9, true), (12, true), (13, true), (14, true)] (by kernel_rfl) (by kernel_rfl) (by kernel_rfl) (by kernel_rfl) HD.out ?_
      iterate 4 (refine wpTxH_take rfl (by kernel_rfl) (v := ?_) ?_ ?_; rotate_left; · (intro w hS; have s0 := hS.cell 0 _ rfl; have s1 := hS.cell 1 _ rfl; have s2 := hS.cell 2 _ rfl; clear hS; go_simp; with_reducible rfl))
      refine wpTxH_step rfl (fun K hK => ?_)
      go_simp
      refine (HL1.out _).mono ?_
      rintro e w2 ⟨rfl, hb2⟩
      refine hK _ _ (BlkIs.later HD.out hb2) ?_
      clear hK K
      have HB2 := Lib.hid (show Below w1.heap.size w1 w2 from ((Below.refl _ w1).drew).trans hb2)
      clear hb2
      iterate 2 (refine wpTxH_take rfl (by kernel_rfl) (v := ?_) ?_ ?_; rotate_left; · (intro w hS; clear hS; go_simp; with_reducible rfl))
      iterate 6 (refine wtxH_passP rfl (by kernel_rfl) ?_)
      iterate 2 (refine wpTxH_take rfl (by kernel_rfl) (v := ?_) ?_ ?_; rotate_left; · (intro w hS; clear hS; go_simp; with_reducible rfl))
      refine wpTxH_nil ?_
      go_simp
      first | refine hJ0 _ _ ?_ | refine hK0 _ _ (Met.intro (hJ0 _ _ ?_))
      (repeat apply Exists.intro)
      refine ⟨?_, rfl⟩
      exact ⟨by rw [HSTY.out]; rfl, HB2.out⟩
    | true =>
      have hxt := HXY.out.1
      rw [hst] at hxt
      have HSTY := Lib.hid hst
      clear hst
      refine wp_region_textH (fun w' => BlkIs w' w.heap.size (mC ⟨ty, sub, ps⟩ (.slice ao ps.length cap)) 103) [(0, true), (1, true), (3, true), (4, true), (2, false), (5, true), (6, true), (7, true), (8, true), (10, true), (11, true), (9, false), (12, true), (13, true), (14, true)] (by kernel_rfl) (by kernel_rfl) (by kernel_rfl) (by kernel_rfl) HD.out ?_
      iterate 4 (refine wpTxH_take rfl (by kernel_rfl) (v := ?_) ?_ ?_; rotate_left; · (intro w hS; have s0 := hS.cell 0 _ rfl; have s1 := hS.cell 1 _ rfl; have s2 := hS.cell 2 _ rfl; clear hS; go_simp; with_reducible rfl))
      refine wpTxH_step rfl (fun K hK => ?_)
      go_simp
      refine (HL1.out _).mono ?_
      rintro e w2 ⟨rfl, hb2⟩
      refine hK _ _ (BlkIs.later HD.out hb2) ?_
      clear hK K
      have HB2 := Lib.hid (show Below w1.heap.size w1 w2 from ((Below.refl _ w1).drew).trans hb2)
      have HBL2 := Lib.hid (BlkIs.later HD.out hb2)
      clear hb2
      iterate 2 (refine wpTxH_take rfl (by kernel_rfl) (v := ?_) ?_ ?_; rotate_left; · (intro w hS; clear hS; go_simp; with_reducible rfl))
      iterate 4 (refine wpTxH_take rfl (by kernel_rfl) (v := ?_) ?_ ?_; rotate_left; · (intro w hS; have s0 := hS.cell 0 _ rfl; have s1 := hS.cell 1 _ rfl; have s2 := hS.cell 2 _ rfl; clear hS; go_simp; with_reducible rfl))
      refine wpTxH_step rfl (fun K hK => ?_)
      go_simp
      refine (HL2.out _).mono ?_
      rintro e w3 ⟨rfl, hb3⟩
      refine hK _ _ (HBL2.out.later hb3) ?_
      clear hK K
      have HB3 := Lib.hid (HB2.out.trans (hb3.mono HB2.out.size))
      clear hb3
      have hyt := HXY.out.2
      obtain ⟨sb, hsb⟩ : ∃ sb, small sub = sb := ⟨_, rfl⟩
      rw [hsb] at hyt
      have HSSB := Lib.hid hsb
      clear hsb
      iterate 3 (refine wpTxH_take rfl (by kernel_rfl) (v := ?_) ?_ ?_; rotate_left; · (intro w hS; clear hS; go_simp; with_reducible rfl))
      refine wpTxH_nil ?_
      go_simp
      first | refine hJ0 _ _ ?_ | refine hK0 _ _ (Met.intro (hJ0 _ _ ?_))
      (repeat apply Exists.intro)
      refine ⟨?_, rfl⟩
      exact ⟨by rw [HSTY.out, HSSB.out]; rfl, HB3.out⟩
  case rest =>
  obtain ⟨rfl, hbc⟩ := hcut
  have HBC := Lib.hid (And.intro (HB1.out.1.trans (hbc.mono HB1.out.1.size)) (HB1.out.2.later hbc))
  clear hbc
  obtain ⟨GG, hGG⟩ : ∃ GG, (small ty && small sub) = GG := ⟨_, rfl⟩
  rw [hGG] at HOK
  rw [hGG]
  clear hGG
  go_wp2
  go_loopw [7, 6] (fun iv gv wr => ∃ i : Nat, iv = .int .i64 i ∧ i ≤ ps.length ∧ gv = .bool (GG && (ps.take i).all smN) ∧ Below w.heap.size w wr ∧ BlkIs wr w.heap.size (mC ⟨ty, sub, ps⟩ (.slice ao ps.length cap)) 103) (fun iv _ _ => ps.length - (intOf iv).toNat)
  case atStart => exact ⟨0, rfl, Nat.zero_le _, by simp, HBC.out.1, HBC.out.2⟩
  case round =>
    obtain ⟨i, rfl, hi, rfl, hb, hblk⟩ := hrel
    have e2 : wr.cell? ⟨w.heap.size, 2, none⟩ = some (.slice ao ps.length cap) := hblk.cell 2 _ rfl
    by_cases hlt : i < ps.length
    · obtain ⟨p, hp⟩ : ∃ p, ps[i]? = some p := ⟨_, List.getElem?_eq_getElem hlt⟩
      obtain ⟨g, o, rfl, hgg, c0, c1, c2⟩ := HAT.out.below hb i p hp
      have k0 : (0 : Int) ≤ (i : Int) := Int.natCast_nonneg _
      have k1 : (i : Int) < (ps.length : Int) := by omega
      have hwi := wrap64_small i (Nat.le_trans hi (Nat.le_trans hpl (by decide)))
      have hst := and_take GG smN ps i p hp
      obtain ⟨nm, v, hs⟩ := p
      simp only at c0
      have hnl := HPS.out i (nm, v, hs) hp
      have hl3 := fun W => rlower_any ⟨nm.toArray⟩ W (by rw [size_mk]; exact hnl)
      simp only [show (⟨nm.toArray⟩ : ByteArray).data.toList = nm from rfl] at hl3
      obtain ⟨z, hz⟩ : ∃ z, lowL nm = z := ⟨_, rfl⟩
      rw [hz] at hl3
      have hzs := low_small nm z hz
      obtain ⟨ok, hok⟩ : ∃ ok, (GG && (ps.take i).all smN) = ok := ⟨_, rfl⟩
      rw [hok] at hst
      rw [hok]
      have hS : BlkIs wr.drew w.heap.size (mC ⟨ty, sub, ps⟩ (.slice (some ⟨g, o, none⟩) ps.length cap)) 103 ∧ wr.drew.cell? ⟨g, o + i * 3, none⟩ = some (.string ⟨nm.toArray⟩) ∧ g < wr.drew.heap.size := ⟨hblk.later ((Below.refl _ wr).drew), c0, hgg⟩
      have HS := Lib.hid hS; have HST := Lib.hid hst; have HL3 := Lib.hid hl3; have HZ := Lib.hid hzs; have HW := Lib.hid hwi; have HB := Lib.hid hb
      have hSS : smN (nm, v, hs) = small nm := rfl
      have HSS := Lib.hid hSS
      clear hblk hb hp hgg c0 c1 c2 hst hnl hl3 hz hzs hok hS hwi hSS
      go_upto_region 6 with fail
      cases ok with
      | false =>
        refine wp_region_textH (fun w' => BlkIs w' w.heap.size (mC ⟨ty, sub, ps⟩ (.slice (some ⟨g, o, none⟩) ps.length cap)) 103) [(0, true), (1, true), (2, true), (3, true), (4, true), (5, true), (6, true), (7, true), (9, true), (10, true), (11, true), (12, true), (13, true), (14, true), (8, true), (15, true), (16, true), (17, true)] (by kernel_rfl) (by kernel_rfl) (by kernel_rfl) (by kernel_rfl) HS.out.1 ?_
        iterate 2 (refine wpTxH_take rfl (by kernel_rfl) (v := ?_) ?_ ?_; rotate_left; · (intro w hS; clear hS; go_simp; with_reducible rfl))
        iterate 14 (refine wtxH_passP rfl (by kernel_rfl) ?_)
        iterate 2 (refine wpTxH_take rfl (by kernel_rfl) (v := ?_) ?_ ?_; rotate_left; · (intro w hS; clear hS; go_simp; with_reducible rfl))
        refine wpTxH_nil ?_
        go_simp
        clear e2
        go_wp2
        have hwi := HW.out
        go_roundw
        case rel => (try rw [hwi]); clear hwi; exact ⟨i + 1, by go_num, hlt, by rw [HST.out]; rfl, HB.out.drew, HS.out.1⟩
        case measure => (try rw [hwi]); clear hwi; simp [intOf]; omega
      | true =>
        refine wp_region_textH (fun w' => BlkIs w' w.heap.size (mC ⟨ty, sub, ps⟩ (.slice (some ⟨g, o, none⟩) ps.length cap)) 103 ∧ w'.cell? ⟨g, o + i * 3, none⟩ = some (.string ⟨nm.toArray⟩) ∧ g < w'.heap.size) [(0, true), (1, true), (2, true), (3, true), (4, true), (5, true), (6, true), (7, true), (9, true), (10, true), (11, true), (12, true), (13, true), (14, true), (8, false), (15, true), (16, true), (17, true)] (by kernel_rfl) (by kernel_rfl) (by kernel_rfl) (by kernel_rfl) HS.out ?_
        clear e2
        iterate 14 (refine wpTxH_take rfl (by kernel_rfl) (v := ?_) ?_ ?_; rotate_left; · (intro w hS; obtain ⟨hS, s3, s4⟩ := hS; have s2 := hS.cell 2 _ rfl; clear hS s4; go_simp; with_reducible rfl))
        refine wpTxH_step rfl (fun K hK => ?_)
        go_simp
        refine (HL3.out _).mono ?_
        rintro e w2 ⟨rfl, hb2⟩
        have hS2 : BlkIs w2 w.heap.size (mC ⟨ty, sub, ps⟩ (.slice (some ⟨g, o, none⟩) ps.length cap)) 103 ∧ w2.cell? ⟨g, o + i * 3, none⟩ = some (.string ⟨nm.toArray⟩) ∧ g < w2.heap.size := ⟨HS.out.1.later hb2, by rw [hb2.cell (p := ⟨g, o + i * 3, none⟩) HS.out.2.2]; exact HS.out.2.1, Nat.lt_of_lt_of_le HS.out.2.2 hb2.size⟩
        refine hK _ _ hS2 ?_
        clear hK K
        have HB2 := Lib.hid (And.intro (HB.out.drew.trans (hb2.mono HB.out.drew.size)) hS2.1)
        clear hb2 hS2
        have hzt := HZ.out
        obtain ⟨sb, hsb⟩ : ∃ sb, small nm = sb := ⟨_, rfl⟩
        rw [hsb] at hzt HSS
        clear hsb
        iterate 3 (refine wpTxH_take rfl (by kernel_rfl) (v := ?_) ?_ ?_; rotate_left; · (intro w hS; clear hS; go_simp; with_reducible rfl))
        refine wpTxH_nil ?_
        go_simp
        go_wp2
        have hwi := HW.out
        go_roundw
        case rel => (try rw [hwi]); clear hwi; exact ⟨i + 1, by go_num, hlt, by rw [HST.out, HSS.out]; rfl, HB2.out.1, HB2.out.2⟩
        case measure => (try rw [hwi]); clear hwi; simp [intOf]; omega
    · obtain rfl : i = ps.length := by omega
      have hd : decide (ps.length < ps.length) = false := decide_eq_false (Nat.lt_irrefl _)
      rw [List.take_length]
      have e0 : wr.cell? ⟨w.heap.size, 0, none⟩ = some (.string ⟨ty.toArray⟩) := hblk.cell 0 _ rfl
      have e1 : wr.cell? ⟨w.heap.size, 1, none⟩ = some (.string ⟨sub.toArray⟩) := hblk.cell 1 _ rfl
      have HB := Lib.hid hb
      clear hb hblk
      obtain ⟨ok, hok⟩ : ∃ ok, (GG && ps.all smN) = ok := ⟨_, rfl⟩
      rw [hok] at HOK
      rw [hok]
      clear hok
      go_upto_region 7 with fail
      go_cut [75] (fun s75 wx => s75 = .bool (!mprOk ⟨ty, sub, ps⟩) ∧ wx = wr)
      case first =>
        cases hpa : ps.all prmOk with
        | false =>
          have hE := HPE.out
          rw [hpa] at hE HOK
          clear hpa
          go_wp2_with fail
          go_meet
          exact ⟨by rw [HOK.out]; rfl, by first | rfl | trivial⟩
        | true =>
          have hE := HPE.out
          rw [hpa] at hE HOK
          clear hpa
          cases ok with
          | false =>
            go_wp2_with fail
            go_meet
            exact ⟨by rw [HOK.out]; rfl, by first | rfl | trivial⟩
          | true =>
            go_wp2_with fail
            refine (HVL.out _ HB.out).mono ?_
            rintro e w2 ⟨rfl, hw2⟩; subst hw2
            cases hav : allVal ps with
            | false =>
              rw [hav] at HOK
              clear hav
              go_wp2_with fail
              go_meet
              exact ⟨by rw [HOK.out]; rfl, by first | rfl | trivial⟩
            | true =>
              rw [hav] at HOK
              clear hav
              go_wp2_with fail
              refine (HT1.out _).mono ?_
              rintro e w2 ⟨rfl, hw2⟩; subst hw2
              cases ht1 : isTok ty with
              | false =>
                rw [ht1] at HOK
                clear ht1
                go_wp2_with fail
                go_meet
                exact ⟨by rw [HOK.out]; rfl, by first | rfl | trivial⟩
              | true =>
                rw [ht1] at HOK
                clear ht1
                go_wp2_with fail
                refine (HT2.out _).mono ?_
                rintro e w2 ⟨rfl, hw2⟩; subst hw2
                go_wp2_with fail
                go_meet
                exact ⟨by rw [HOK.out]; rfl, by first | rfl | trivial⟩
      case rest =>
      obtain ⟨rfl, hwc⟩ := hcut
      subst hwc
      cases hfin : mprOk ⟨ty, sub, ps⟩ with
      | false =>
        have HE := Lib.hid (HNO.out hfin)
        clear hfin
        go_wp2
        go_ret2
        rw [HE.out]
        exact ⟨rfl, HB.out⟩
      | true =>
        have hTp := HPT.out (mprOk_prm _ hfin)
        have hyes := HYES.out hfin
        obtain ⟨D1, hD1⟩ : ∃ D1, ty ++ [47] = D1 := ⟨_, rfl⟩
        obtain ⟨D2, hD2⟩ : ∃ D2, D1 ++ sub = D2 := ⟨_, rfl⟩
        obtain ⟨D3, hD3⟩ : ∃ D3, D2 ++ T = D3 := ⟨_, rfl⟩
        have hl := HLEN.out
        have hl1 : D1.length ≤ 1099511627776 := by rw [← hD1, List.length_append, List.length_singleton]; omega
        have hl2 : D2.length ≤ 1099511627776 := by rw [← hD2, ← hD1, List.length_append, List.length_append, List.length_singleton]; omega
        have q1 : (⟨ty.toArray⟩ : ByteArray) ++ (⟨#[47]⟩ : ByteArray) = ⟨D1.toArray⟩ := by rw [← hD1]; exact cat_lp ty [47]
        have q2 : (⟨D1.toArray⟩ : ByteArray) ++ (⟨sub.toArray⟩ : ByteArray) = ⟨D2.toArray⟩ := by rw [← hD2]; exact cat_lp D1 sub
        have q3 : (⟨D2.toArray⟩ : ByteArray) ++ (⟨T.toArray⟩ : ByteArray) = ⟨D3.toArray⟩ := by rw [← hD3]; exact cat_lp D2 T
        have z1 := nof7 ty.length 1 (by omega) (by decide)
        have z2 := nof7 D1.length sub.length (by omega) (by omega)
        have z3 := nof7 D2.length T.length (by omega) (by omega)
        have HE := Lib.hid (show mprR ⟨ty, sub, ps⟩ = (D3, 0) by rw [hyes, ← hD3, ← hD2, ← hD1, hTp]; simp)
        clear hfin hTp hyes hD1 hD2 hD3 hl hl1 hl2
        go_wp2
        go_ret2
        rw [HE.out]
        exact ⟨rfl, HB.out⟩
end Go.Proofs.YtpdbejeiceodkaaGreatDoor
namespace Go.Proofs.YtpdbejeiceodkaaGreatDoor
open Go.RowKit
set_option linter.unusedSimpArgs false
set_option linter.unusedVariables false
set_option maxRecDepth 1000000
theorem lan_ext (s : ByteArray) (b : Nat) : (s.extract 0 b).data.toList = s.data.toList.take b := by
  rw [ByteArray.data_extract, Array.toList_extract, List.extract_eq_take_drop]
  simp
theorem lanC_low (b : Bool) (c : UInt8) (n f : Nat) (h : c.toNat = n) (hb : b = decide (0 < f)) : lanC b (low c) = (ltN n || (!decide (f = 0) && dgN n)) := by
  subst h
  subst hb
  unfold lanC ltN dgN
  rw [low_lt, low_dg]
  congr 2
  rw [Bool.eq_iff_iff]
  simp only [Bool.not_eq_true', decide_eq_true_eq, decide_eq_false_iff_not]
  omega
theorem lanN_r (n f i : Nat) (h : i - f = n) (hf : f ≤ i) (hn : lanN n = false) : ((i : Int) == (f : Int)) = true ∨ (((i : Int) == (f : Int)) = false ∧ (8 : Int) < (n : Int)) := by
  unfold lanN at hn
  rw [Bool.and_eq_false_iff] at hn
  simp only [decide_eq_false_iff_not] at hn
  simp only [beq_iff_eq, beq_eq_false_iff_ne, ne_eq]
  omega
theorem lanN_r2 (n f i : Nat) (h : i - f = n) (hf : f ≤ i) (hn : lanN n = true) : ((i : Int) == (f : Int)) = false ∧ ¬ (8 : Int) < (n : Int) := by
  unfold lanN at hn
  simp only [Bool.and_eq_true, decide_eq_true_eq] at hn
  simp only [beq_iff_eq, beq_eq_false_iff_ne, ne_eq]
  omega
theorem lan_sub (f i n : Nat) (h : f ≤ i) (e : i - f = n) : (i : Int) - (f : Int) = (n : Int) := by omega
theorem lan_b4 (i f n s : Nat) (h : i ≤ s + 1) (hs : s ≤ 2147483648) (e : i - f = n) : n ≤ 2199023255552 ∧ i ≤ 2199023255552 := by omega
theorem u8_int45 (c : UInt8) (a : Nat) (h : c.toNat = a) (hc : c ≠ 45) : ((a : Int) == 45) = false ∧ ((a : Int) != 45) = true := by
  have h2 : a ≠ 45 := by rintro rfl; exact hc (by rw [← UInt8.toNat_inj]; exact h)
  simp only [bne, beq_eq_false_iff_ne, ne_eq, Bool.not_eq_true', and_self]
  omega
def LanRel (L : List UInt8) (sz f i : Nat) : Prop := f ≤ i ∧ i ≤ sz + 1 ∧ (i ≤ sz → lanS false 0 L = lanS (decide (0 < f)) (i - f) (L.drop i)) ∧ (i = sz + 1 → lanS false 0 L = true)
theorem LanRel.mv {L : List UInt8} {sz f i : Nat} (h : LanRel L sz f i) (hi : i < sz) (c : UInt8) (hg : L[i]? = some c) (hc : c ≠ 45) (hl : lanC (decide (0 < f)) (low c) = true) : LanRel L sz f (i + 1) := by
  obtain ⟨h1, h2, h3, h4⟩ := h
  refine ⟨by omega, by omega, fun _ => ?_, fun e => by omega⟩
  rw [h3 (by omega), lanS_drop L i c hg, if_neg (fun e => hc ((low_dash c).1 e)), hl, Bool.true_and, show i + 1 - f = i - f + 1 by omega]
theorem LanRel.bad {L : List UInt8} {sz f i : Nat} (h : LanRel L sz f i) (hi : i < sz) (c : UInt8) (hg : L[i]? = some c) (hc : c ≠ 45) (hl : lanC (decide (0 < f)) (low c) = false) : lanS false 0 L = false := by
  obtain ⟨h1, h2, h3, h4⟩ := h
  rw [h3 (by omega), lanS_drop L i c hg, if_neg (fun e => hc ((low_dash c).1 e)), hl, Bool.false_and]
theorem LanRel.dash {L : List UInt8} {sz f i : Nat} (h : LanRel L sz f i) (hs : L.length = sz) (hi : i ≤ sz) (hg : i = sz ∨ L[i]? = some 45) (hl : lanN (i - f) = true) : LanRel L sz (i + 1) (i + 1) := by
  obtain ⟨h1, h2, h3, h4⟩ := h
  rcases hg with rfl | hg
  · refine ⟨Nat.le_refl _, by omega, fun e => by omega, fun e => ?_⟩
    rw [h3 (by omega), ← hs, List.drop_length]
    rw [hs]; exact hl
  · have hlt : i < sz := by rw [← hs]; exact (List.getElem?_eq_some_iff.1 hg).1
    refine ⟨Nat.le_refl _, by omega, fun e => ?_, fun e => by omega⟩
    rw [h3 (by omega), lanS_drop L i 45 hg, if_pos ((low_dash 45).2 rfl), hl, Bool.true_and, Nat.sub_self, show decide (0 < i + 1) = true from decide_eq_true (Nat.succ_pos i)]
theorem LanRel.none {L : List UInt8} {sz f i : Nat} (h : LanRel L sz f i) (hs : L.length = sz) (hi : i ≤ sz) (hg : i = sz ∨ L[i]? = some 45) (hl : lanN (i - f) = false) : lanS false 0 L = false := by
  obtain ⟨h1, h2, h3, h4⟩ := h
  rcases hg with rfl | hg
  · rw [h3 (by omega), ← hs, List.drop_length]
    rw [hs]; exact hl
  · rw [h3 (by omega), lanS_drop L i 45 hg, if_pos ((low_dash 45).2 rfl), hl, Bool.false_and]
set_option maxHeartbeats 4000000 in
theorem rislan_any (s : ByteArray) (w : World) (hs : s.size ≤ 2147483648) :
    Calls Tryz.prog 91 #[.string s] w fun e w' => e = .returned (.bool (lanOk s.data.toList)) ∧ w' = w := by
  rw [lanOk_eq]
  have HS := Lib.hid hs
  clear hs
  go_enter Tryz.func91, Tryz.ntmps91
  go_wp2
  go_loopw [3, 4] (fun fv iv wr => ∃ f i : Nat, fv = .int .i64 f ∧ iv = .int .i64 i ∧ LanRel s.data.toList s.size f i ∧ wr = w) (fun _ iv _ => s.size + 1 - (intOf iv).toNat)
  case atStart => exact ⟨0, 0, rfl, rfl, ⟨Nat.le_refl _, Nat.zero_le _, fun _ => rfl, fun e => by cases e⟩, rfl⟩
  case round =>
    obtain ⟨f, i, rfl, rfl, hrl, rfl⟩ := hrel
    by_cases hle : i ≤ s.size
    · have k0 : (0 : Int) ≤ (i : Int) := Int.natCast_nonneg _
      have k2 : (i : Int) ≤ (s.size : Int) := by omega
      obtain ⟨n, hn⟩ : ∃ n, i - f = n := ⟨_, rfl⟩
      have hsub := lan_sub f i n hrl.1 hn
      have hbd := lan_b4 i f n s.size hrl.2.1 HS.out hn
      have hwn := wrap_mid n hbd.1
      have hwi := wrap64_small i hbd.2
      have HW := Lib.hid hwi; have HRL := Lib.hid hrl; have HN := Lib.hid hn; have HSUB := Lib.hid (And.intro hsub hwn)
      clear hwi hrl hn hbd hsub hwn
      by_cases hd : i = s.size ∨ s.data.toList[i]? = some 45
      · have hpk : (s.size : Int) ≤ (i : Int) ∨ ((i : Int) < (s.size : Int) ∧ ∃ h : i < s.size, s[i]'h = 45) := by
          rcases hd with rfl | hg
          · exact .inl (Int.le_refl _)
          · have hlt : i < s.size := by rw [← size_list]; exact (List.getElem?_eq_some_iff.1 hg).1
            refine .inr ⟨by omega, hlt, ?_⟩
            rw [list_get s i hlt] at hg
            injection hg
        cases hN : lanN n with
        | false =>
          have HR := Lib.hid (HRL.out.none (size_list s) hle hd (by rw [HN.out]; exact hN))
          have hlr := lanN_r n f i HN.out HRL.out.1 hN
          obtain ⟨hsub, hwn⟩ := HSUB.out
          clear hN hd
          rcases hpk with hge | ⟨hlt, h, hc⟩
          · rcases hlr with e1 | ⟨e1, e2⟩
            all_goals
              go_wp2
              go_ret
              rw [HR.out]
              exact ⟨rfl, by first | rfl | trivial⟩
          · have ea : (s[i]'h).toNat = 45 := by rw [hc]; rfl
            clear hc
            rcases hlr with e1 | ⟨e1, e2⟩
            all_goals
              go_wp2
              go_ret
              rw [HR.out]
              exact ⟨rfl, by first | rfl | trivial⟩
        | true =>
          have HR := Lib.hid (HRL.out.dash (size_list s) hle hd (by rw [HN.out]; exact hN))
          have hlr := lanN_r2 n f i HN.out HRL.out.1 hN
          obtain ⟨e1, e2⟩ := hlr
          obtain ⟨hsub, hwn⟩ := HSUB.out
          clear hN hd
          rcases hpk with hge | ⟨hlt, h, hc⟩
          · go_wp2
            have hwi := HW.out
            go_roundw
            case rel => (try rw [hwi]); clear hwi; exact ⟨i + 1, i + 1, by go_num, by go_num, HR.out, by first | rfl | trivial⟩
            case measure => (try rw [hwi]); clear hwi; simp [intOf]; omega
          · have ea : (s[i]'h).toNat = 45 := by rw [hc]; rfl
            clear hc
            go_wp2
            have hwi := HW.out
            go_roundw
            case rel => (try rw [hwi]); clear hwi; exact ⟨i + 1, i + 1, by go_num, by go_num, HR.out, by first | rfl | trivial⟩
            case measure => (try rw [hwi]); clear hwi; simp [intOf]; omega
      · have hlt : i < s.size := by omega
        have hget := list_get s i hlt
        have k1 : (i : Int) < (s.size : Int) := by omega
        obtain ⟨c, hc⟩ : ∃ c, s[i]'hlt = c := ⟨_, rfl⟩
        rw [hc] at hget
        obtain ⟨a, ea⟩ : ∃ n, (s[i]'hlt).toNat = n := ⟨_, rfl⟩
        have hca : c.toNat = a := by rw [← hc]; exact ea
        have hcn : c ≠ 45 := fun e => hd (.inr (by rw [hget, e]))
        obtain ⟨b1, b2⟩ := u8_int45 c a hca hcn
        have hcv := lanC_low (decide (0 < f)) c a f hca rfl
        have hg0 := HRL.out.mv hlt c hget hcn
        have hb0 := HRL.out.bad hlt c hget hcn
        have HG := Lib.hid hg0; have HBAD := Lib.hid hb0
        have hl := fun w => rletter_any a w
        have hdg := fun w => rdigit_any a w
        clear hg0 hb0 hget hcn hd hc hca
        cases hlt1 : ltN a with
        | true =>
          rw [hlt1, Bool.true_or] at hcv
          have HR := Lib.hid (HG.out hcv)
          simp only [hlt1] at hl
          have HL := Lib.hid hl
          clear hlt1 hcv hl hdg
          go_wp2_with fail
          refine (HL.out _).mono ?_
          rintro e w1 ⟨rfl, hw1⟩; subst hw1
          go_wp2
          have hwi := HW.out
          go_roundw
          case rel => (try rw [hwi]); clear hwi; exact ⟨f, i + 1, rfl, by go_num, HR.out, by first | rfl | trivial⟩
          case measure => (try rw [hwi]); clear hwi; simp [intOf]; omega
        | false =>
          rw [hlt1, Bool.false_or] at hcv
          simp only [hlt1] at hl
          have HL := Lib.hid hl
          clear hlt1 hl
          by_cases hf0 : f = 0
          · have e0 : ((f : Int) == 0) = true := by rw [hf0]; rfl
            have HR := Lib.hid (HBAD.out (by rw [hcv, hf0]; rfl))
            clear hcv hf0 hdg
            go_wp2_with fail
            refine (HL.out _).mono ?_
            rintro e w1 ⟨rfl, hw1⟩; subst hw1
            go_wp2
            go_ret
            rw [HR.out]
            exact ⟨rfl, by first | rfl | trivial⟩
          · have e0 : ((f : Int) == 0) = false := by simp; omega
            rw [show decide (f = 0) = false from decide_eq_false hf0, Bool.not_false, Bool.true_and] at hcv
            clear hf0
            cases hdg1 : dgN a with
            | false =>
              rw [hdg1] at hcv
              have HR := Lib.hid (HBAD.out hcv)
              simp only [hdg1] at hdg
              have HD := Lib.hid hdg
              clear hdg1 hdg hcv
              go_wp2_with fail
              refine (HL.out _).mono ?_
              rintro e w1 ⟨rfl, hw1⟩; subst hw1
              go_wp2_with fail
              refine (HD.out _).mono ?_
              rintro e w1 ⟨rfl, hw1⟩; subst hw1
              go_wp2
              go_ret
              rw [HR.out]
              exact ⟨rfl, by first | rfl | trivial⟩
            | true =>
              rw [hdg1] at hcv
              have HR := Lib.hid (HG.out hcv)
              simp only [hdg1] at hdg
              have HD := Lib.hid hdg
              clear hdg1 hdg hcv
              go_wp2_with fail
              refine (HL.out _).mono ?_
              rintro e w1 ⟨rfl, hw1⟩; subst hw1
              go_wp2_with fail
              refine (HD.out _).mono ?_
              rintro e w1 ⟨rfl, hw1⟩; subst hw1
              go_wp2
              have hwi := HW.out
              go_roundw
              case rel => (try rw [hwi]); clear hwi; exact ⟨f, i + 1, rfl, by go_num, HR.out, by first | rfl | trivial⟩
              case measure => (try rw [hwi]); clear hwi; simp [intOf]; omega
    · obtain rfl : i = s.size + 1 := by have := hrl.2.1; omega
      have HR := Lib.hid (hrl.2.2.2 rfl)
      have k2 : (s.size : Int) < ((s.size + 1 : Nat) : Int) := by omega
      have hd : decide (((s.size + 1 : Nat) : Int) ≤ (s.size : Int)) = false := decide_eq_false (by omega)
      clear hrl hle
      obtain ⟨i, hi⟩ : ∃ i, s.size + 1 = i := ⟨_, rfl⟩
      rw [hi] at k2 hd ⊢
      clear hi
      go_wp2
      go_ret
      rw [HR.out]
      exact ⟨rfl, by first | rfl | trivial⟩
set_option maxHeartbeats 4000000 in
theorem rmet_any (n v : List UInt8) (w : World) (hn : n.length ≤ 1099511627776) (hv : v.length ≤ 1099511627776) :
    Calls Tryz.prog 92 #[.string ⟨n.toArray⟩, .string ⟨v.toArray⟩] w fun e w' => e = .returned (.bool (metL n v)) ∧ Below w.heap.size w w' := by
  have h1 := fun w => rlower_any ⟨n.toArray⟩ w (by rw [size_mk]; exact hn)
  have h2 := fun w => rlower_any ⟨v.toArray⟩ w (by rw [size_mk]; exact hv)
  simp only [show (⟨n.toArray⟩ : ByteArray).data.toList = n from rfl, show (⟨v.toArray⟩ : ByteArray).data.toList = v from rfl] at h1 h2
  have hmt : metL n v = ((decide (lowL v = lowL n)) || (decide (v.length < n.length) && (decide ((lowL n).take v.length = lowL v) && decide ((lowL n)[v.length]? = some 45)))) := by unfold metL sameL; rw [preL_eq]
  obtain ⟨A, hA⟩ : ∃ A : ByteArray, (⟨(lowL n).toArray⟩ : ByteArray) = A := ⟨_, rfl⟩
  obtain ⟨B, hB⟩ : ∃ B : ByteArray, (⟨(lowL v).toArray⟩ : ByteArray) = B := ⟨_, rfl⟩
  have hAl : A.data.toList = lowL n := by rw [← hA]
  have hBl : B.data.toList = lowL v := by rw [← hB]
  have hAs : A.size = n.length := by rw [← size_list, hAl, lowL_len]
  have hBs : B.size = v.length := by rw [← size_list, hBl, lowL_len]
  rw [hA] at h1
  rw [hB] at h2
  rw [← hAl, ← hBl, ← hAs, ← hBs] at hmt
  have H1 := Lib.hid h1; have H2 := Lib.hid h2; have HM := Lib.hid hmt
  clear h1 h2 hmt hA hB hAl hBl hAs hBs hn hv
  go_enter Tryz.func92, Tryz.ntmps92
  go_wp2_with fail
  refine (H1.out _).mono ?_
  rintro e w1 ⟨rfl, hb1⟩
  have HB1 := Lib.hid hb1
  clear hb1
  go_wp2_with fail
  refine (H2.out _).mono ?_
  rintro e w2 ⟨rfl, hb2⟩
  have HB2 := Lib.hid (HB1.out.trans (hb2.mono HB1.out.size))
  clear hb2
  by_cases q1 : B.data.toList = A.data.toList
  · have e1 : (A.toList == B.toList) = true := by rw [ByteArray.toList_eq, ByteArray.toList_eq, q1]; simp
    have HR := Lib.hid (show metL n v = true by rw [HM.out, decide_eq_true q1]; rfl)
    clear q1
    go_wp2
    go_ret
    rw [HR.out]
    exact ⟨rfl, HB2.out⟩
  · have e1 : (A.toList == B.toList) = false := by rw [ByteArray.toList_eq, ByteArray.toList_eq]; exact beq_false_of_ne (fun e => q1 e.symm)
    have HM1 := Lib.hid (show metL n v = (decide (B.size < A.size) && (decide (A.data.toList.take B.size = B.data.toList) && decide (A.data.toList[B.size]? = some 45))) by rw [HM.out, decide_eq_false q1, Bool.false_or])
    clear q1
    by_cases q2 : B.size < A.size
    · have k0 : (0 : Int) ≤ (B.size : Int) := Int.natCast_nonneg _
      have k1 : (B.size : Int) < (A.size : Int) := by omega
      have k2 : (B.size : Int) ≤ (A.size : Int) := by omega
      have hx := lan_ext A B.size
      obtain ⟨X, hX⟩ : ∃ X : ByteArray, A.extract 0 B.size = X := ⟨_, rfl⟩
      have hXl : X.data.toList = A.data.toList.take B.size := by rw [← hX]; exact hx
      obtain ⟨a, ea⟩ : ∃ n, (A[B.size]'q2).toNat = n := ⟨_, rfl⟩
      have hget := list_get A B.size q2
      have HM2 := Lib.hid (show metL n v = (decide (X.data.toList = B.data.toList) && decide (A.data.toList[B.size]? = some 45)) by rw [HM1.out, decide_eq_true q2, Bool.true_and, hXl])
      by_cases q3 : X.data.toList = B.data.toList
      · have e3 : (X.toList == B.toList) = true := by rw [ByteArray.toList_eq, ByteArray.toList_eq, q3]; simp
        by_cases q4 : A[B.size]'q2 = 45
        · have e4 : ((a : Int) == 45) = true := by rw [← ea, q4]; rfl
          have HR := Lib.hid (show metL n v = true by rw [HM2.out, decide_eq_true q3, hget, q4]; rfl)
          clear q3 q4 hx hXl hget
          go_wp2
          go_ret
          rw [HR.out]
          exact ⟨rfl, HB2.out⟩
        · have e4 := (u8_int45 _ a ea q4).1
          have hne : ¬ (some (A[B.size]'q2) = some (45 : UInt8)) := fun e => q4 (Option.some.inj e)
          have HR := Lib.hid (show metL n v = false by rw [HM2.out, hget, decide_eq_false hne, Bool.and_false])
          clear q3 q4 hx hXl hget
          go_wp2
          go_ret
          rw [HR.out]
          exact ⟨rfl, HB2.out⟩
      · have e3 : (X.toList == B.toList) = false := by rw [ByteArray.toList_eq, ByteArray.toList_eq]; exact beq_false_of_ne q3
        have HR := Lib.hid (show metL n v = false by rw [HM2.out, decide_eq_false q3, Bool.false_and])
        clear q3 hx hXl hget
        go_wp2
        go_ret
        rw [HR.out]
        exact ⟨rfl, HB2.out⟩
    · have k1 : (A.size : Int) ≤ (B.size : Int) := by omega
      have HR := Lib.hid (show metL n v = false by rw [HM1.out, decide_eq_false q2, Bool.false_and])
      clear q2
      go_wp2
      go_ret
      rw [HR.out]
      exact ⟨rfl, HB2.out⟩
end Go.Proofs.YtpdbejeiceodkaaGreatDoor
