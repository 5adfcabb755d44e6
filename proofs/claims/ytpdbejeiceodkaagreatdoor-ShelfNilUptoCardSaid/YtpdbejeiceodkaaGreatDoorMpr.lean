/- The walk of accept.Print: the plain function mprR. Conditions: at most 2^30 letters and parameters; octet.signs holds what the text lays. -/
import Derived.Test.YtpdbejeiceodkaaGreatDoorPrm
import Derived.Test.YtpdbejeiceodkaaGreatDoorVal7
namespace Go.Proofs.YtpdbejeiceodkaaGreatDoor
open Go.RowKit
set_option linter.unusedSimpArgs false
set_option linter.unusedVariables false
set_option maxRecDepth 1000000
def mG (m : Mdm) : Bool := m.ps.all prmOk && (isTok m.ty && (isTok m.sub && (small (m.ty ++ m.sub) && allVal m.ps)))
theorem mprOk_eq (m : Mdm) : mprOk m = (mG m && m.ps.all smN) := by
  unfold mprOk mG
  rw [small_app]
  cases m.ps.all prmOk <;> cases isTok m.ty <;> cases isTok m.sub <;> cases small m.ty <;> cases small m.sub <;> cases allVal m.ps <;> rfl
theorem mpr_no (m : Mdm) (h : (mG m && m.ps.all smN) = false) : mprR m = ([], 70) := by unfold mprR; rw [mprOk_eq, h]; rfl
theorem mpr_yes (m : Mdm) (h : (mG m && m.ps.all smN) = true) : mprR m = (m.ty ++ 47 :: (m.sub ++ prAll m.ps), 0) := by unfold mprR; rw [mprOk_eq, h]; rfl
theorem mG_prm (m : Mdm) (h : mG m = true) : m.ps.all prmOk = true := by unfold mG at h; simp only [Bool.and_eq_true] at h; exact h.1
theorem and_take (b : Bool) (p : Par → Bool) (l : List Par) (i : Nat) (x : Par) (h : l[i]? = some x) : (b && (l.take (i + 1)).all p) = ((b && (l.take i).all p) && p x) := by
  rw [List.take_add_one, h, Option.toList_some, List.all_append]
  simp [Bool.and_assoc]
theorem prmR_err (ps : List Par) : (((prmR ps).2 : Int) == 0) = ps.all prmOk := by
  unfold prmR
  cases ps.all prmOk <;> rfl
theorem prmR_txt (ps : List Par) (h : ps.all prmOk = true) : (prmR ps).1 = prAll ps := by unfold prmR; rw [h]; rfl
theorem prmR_len (ps : List Par) (h : totP ps + ps.length ≤ 1073741824) : (prmR ps).1.length ≤ 1099511627776 := by
  have := prAll_len ps
  unfold prmR
  split
  · show (prAll ps).length ≤ _; omega
  · exact Nat.zero_le _
set_option maxHeartbeats 16000000 in
theorem ompr_any (m : Mdm) (pv : Value) (w : World) (hN : mdmLen m ≤ 1073741824) (h : ParsIn w pv m.ps) (hg : SgAt w) :
    Calls Tryz.prog 99 #[.agg #[.string ⟨m.ty.toArray⟩, .string ⟨m.sub.toArray⟩, pv]] w fun e w' => e = .returned (.tuple #[.string ⟨(mprR m).1.toArray⟩, .int .i64 ((mprR m).2 : Nat)]) ∧ Below w.heap.size w w' := by
  obtain ⟨ty, sub, ps⟩ := m
  unfold mdmLen at hN
  simp only at hN h
  obtain ⟨ao, cap, rfl, hat⟩ := h
  obtain ⟨W0, hW0⟩ : ∃ W0, w.alloc (.cells (mC ⟨ty, sub, ps⟩ (.slice ao ps.length cap)) 131) = W0 := ⟨_, rfl⟩
  have hb0 : Below w.heap.size w W0 := by rw [← hW0]; exact (Below.refl _ w).alloc (Nat.le_refl _) _
  have hB0 : BlkIs W0 w.heap.size (mC ⟨ty, sub, ps⟩ (.slice ao ps.length cap)) 131 := by rw [← hW0]; exact blkIs_new _ _ _
  have hin : ∀ W, Below w.heap.size w W → ParsIn W (.slice ao ps.length cap) ps := fun W hW => ⟨ao, cap, rfl, hat.below hW⟩
  have hpm := fun W hW => oprm_any (.slice ao ps.length cap) ps W (by omega) (hin W hW) (hg.below hW)
  have hvl := fun W hW => ovalued_any (.slice ao ps.length cap) ps W (by omega) (hin W hW)
  have htl : ty.length ≤ 1073741824 := by omega
  have hsl : sub.length ≤ 1073741824 := by omega
  have hpl : ps.length ≤ 1073741824 := by omega
  have hT1 := fun W (h : SgAt W) => otoken_any ⟨ty.toArray⟩ W (by rw [size_mk]; exact Nat.le_trans htl (by decide)) h
  have hT2 := fun W (h : SgAt W) => otoken_any ⟨sub.toArray⟩ W (by rw [size_mk]; exact Nat.le_trans hsl (by decide)) h
  simp only [show (⟨ty.toArray⟩ : ByteArray).data.toList = ty from rfl, show (⟨sub.toArray⟩ : ByteArray).data.toList = sub from rfl] at hT1 hT2
  have hno := mpr_no ⟨ty, sub, ps⟩
  have hyes := mpr_yes ⟨ty, sub, ps⟩
  have hpe := prmR_err ps
  have hlT := prmR_len ps (by omega)
  have hpt := prmR_txt ps
  obtain ⟨TS, hTS⟩ : ∃ TS, ty ++ sub = TS := ⟨_, rfl⟩
  have hTSl : TS.length ≤ 1099511627776 := by rw [← hTS, List.length_append]; omega
  have hsm := fun W => osmall_any TS W hTSl
  have q0 : (⟨ty.toArray⟩ : ByteArray) ++ (⟨sub.toArray⟩ : ByteArray) = ⟨TS.toArray⟩ := by rw [cat_lp, hTS]
  have z0 := nof7 ty.length sub.length (by omega) (by omega)
  obtain ⟨⟨T, E⟩, hPM⟩ : ∃ r, prmR ps = r := ⟨_, rfl⟩
  rw [hPM] at hpm hpe hlT hpt
  simp only at hpe hlT hpt
  have hps : ∀ (i : Nat) (p : Par), ps[i]? = some p → p.1.length ≤ 1099511627776 := fun i p hp => by have := par_le ps i p hp; omega
  have HB0 := Lib.hid (And.intro hb0 hB0); have HW0 := Lib.hid hW0; have HPM := Lib.hid hpm; have HVL := Lib.hid hvl; have HT1 := Lib.hid hT1; have HT2 := Lib.hid hT2
  have HNO := Lib.hid hno; have HYES := Lib.hid hyes; have HPE := Lib.hid hpe; have HLEN := Lib.hid (And.intro htl (And.intro hsl hlT)); have HPT := Lib.hid hpt; have HSM := Lib.hid hsm; have HTS := Lib.hid hTS; have HPS := Lib.hid hps; have HAT := Lib.hid hat; have HG := Lib.hid hg
  clear hb0 hB0 hW0 hpm hvl hT1 hT2 hno hyes hpe htl hsl hlT hpt hsm hTS hPM hps hat hg hin hN hTSl
  go_enter Tryz.func99, Tryz.ntmps99
  go_upto_region 1 with fail
  rw [HW0.out]
  have e2 : W0.cell? ⟨w.heap.size, 2, none⟩ = some (.slice ao ps.length cap) := HB0.out.2.cell 2 _ rfl
  go_wp2_with fail
  refine (HPM.out _ HB0.out.1).mono ?_
  rintro e w1 ⟨rfl, hb1⟩
  have HB1 := Lib.hid (And.intro (HB0.out.1.trans (hb1.mono HB0.out.1.size)) (HB0.out.2.later hb1))
  have HG1 := Lib.hid (HG.out.below HB1.out.1)
  clear hb1 e2
  have e0 : w1.cell? ⟨w.heap.size, 0, none⟩ = some (.string ⟨ty.toArray⟩) := HB1.out.2.cell 0 _ rfl
  have e1 : w1.cell? ⟨w.heap.size, 1, none⟩ = some (.string ⟨sub.toArray⟩) := HB1.out.2.cell 1 _ rfl
  have e2 : w1.cell? ⟨w.heap.size, 2, none⟩ = some (.slice ao ps.length cap) := HB1.out.2.cell 2 _ rfl
  go_upto_region 2 with fail
  go_cut [6] (fun s6 wx => s6 = .bool (mG ⟨ty, sub, ps⟩) ∧ Below w1.heap.size w1 wx)
  case first =>
    cases hpa : ps.all prmOk with
    | false =>
      have HR := Lib.hid (show mG ⟨ty, sub, ps⟩ = false by unfold mG; rw [show (Mdm.mk ty sub ps).ps.all prmOk = false from hpa]; rfl)
      have hE := HPE.out
      rw [hpa] at hE
      clear hpa
      go_wp2_with fail
      go_meet
      exact ⟨by rw [HR.out], Below.refl _ _⟩
    | true =>
      have hE := HPE.out
      rw [hpa] at hE
      have HPA := Lib.hid hpa
      clear hpa
      go_wp2_with fail
      refine (HT1.out _ HG1.out).mono ?_
      rintro e w2 ⟨rfl, hw2⟩; subst hw2
      cases ht1 : isTok ty with
      | false =>
        have HR := Lib.hid (show mG ⟨ty, sub, ps⟩ = false by unfold mG; rw [show isTok (Mdm.mk ty sub ps).ty = false from ht1]; simp)
        clear ht1
        go_wp2_with fail
        go_meet
        exact ⟨by rw [HR.out], Below.refl _ _⟩
      | true =>
        have HT := Lib.hid ht1
        clear ht1
        go_wp2_with fail
        refine (HT2.out _ HG1.out).mono ?_
        rintro e w2 ⟨rfl, hw2⟩; subst hw2
        cases ht2 : isTok sub with
        | false =>
          have HR := Lib.hid (show mG ⟨ty, sub, ps⟩ = false by unfold mG; rw [show isTok (Mdm.mk ty sub ps).sub = false from ht2]; simp)
          clear ht2
          go_wp2_with fail
          go_meet
          exact ⟨by rw [HR.out], Below.refl _ _⟩
        | true =>
          have HTT := Lib.hid ht2
          clear ht2
          go_wp2_with fail
          refine (HSM.out _).mono ?_
          rintro e w2 ⟨rfl, hb2⟩
          have HB2 := Lib.hid hb2
          have e2b : w2.cell? ⟨w.heap.size, 2, none⟩ = some (.slice ao ps.length cap) := (HB1.out.2.later hb2).cell 2 _ rfl
          clear hb2
          cases hsm : small TS with
          | false =>
            have HR := Lib.hid (show mG ⟨ty, sub, ps⟩ = false by unfold mG; rw [show small ((Mdm.mk ty sub ps).ty ++ (Mdm.mk ty sub ps).sub) = false from by rw [← hsm, ← HTS.out]]; simp)
            clear hsm
            go_wp2_with fail
            go_meet
            exact ⟨by rw [HR.out], HB2.out⟩
          | true =>
            have HR := Lib.hid (show mG ⟨ty, sub, ps⟩ = allVal ps by
              unfold mG
              rw [show (Mdm.mk ty sub ps).ps.all prmOk = true from HPA.out, show isTok (Mdm.mk ty sub ps).ty = true from HT.out, show isTok (Mdm.mk ty sub ps).sub = true from HTT.out, show small ((Mdm.mk ty sub ps).ty ++ (Mdm.mk ty sub ps).sub) = true from by rw [← hsm, ← HTS.out]]
              rfl)
            clear hsm
            go_wp2_with fail
            refine (HVL.out _ (HB1.out.1.trans (HB2.out.mono HB1.out.1.size))).mono ?_
            rintro e w3 ⟨rfl, hb3⟩
            have HB3 := Lib.hid (HB2.out.trans (hb3.mono HB2.out.size))
            clear hb3
            go_wp2_with fail
            go_meet
            exact ⟨by rw [HR.out], HB3.out⟩
  case rest =>
  obtain ⟨rfl, hbc⟩ := hcut
  have HBC := Lib.hid (And.intro (HB1.out.1.trans (hbc.mono HB1.out.1.size)) (HB1.out.2.later hbc))
  clear e0 e1 e2 hbc
  obtain ⟨GG, hGG⟩ : ∃ GG, mG ⟨ty, sub, ps⟩ = GG := ⟨_, rfl⟩
  have HGG := Lib.hid hGG
  rw [hGG] at HNO HYES
  rw [hGG]
  clear hGG
  have e2 : wc.cell? ⟨w.heap.size, 2, none⟩ = some (.slice ao ps.length cap) := HBC.out.2.cell 2 _ rfl
  go_wp2
  go_loopw [43, 6] (fun iv gv wr => ∃ i : Nat, iv = .int .i64 i ∧ i ≤ ps.length ∧ gv = .bool (GG && (ps.take i).all smN) ∧ Below w.heap.size w wr ∧ BlkIs wr w.heap.size (mC ⟨ty, sub, ps⟩ (.slice ao ps.length cap)) 131) (fun iv _ _ => ps.length - (intOf iv).toNat)
  case atStart => exact ⟨0, rfl, Nat.zero_le _, by simp, HBC.out.1, HBC.out.2⟩
  case round =>
    clear e2
    obtain ⟨i, rfl, hi, rfl, hb, hblk⟩ := hrel
    by_cases hlt : i < ps.length
    · obtain ⟨p, hp⟩ : ∃ p, ps[i]? = some p := ⟨_, List.getElem?_eq_getElem hlt⟩
      obtain ⟨g, o, rfl, hgg, c0, c1, c2⟩ := HAT.out.below hb i p hp
      have k0 : (0 : Int) ≤ (i : Int) := Int.natCast_nonneg _
      have k1 : (i : Int) < (ps.length : Int) := by omega
      have hwi := wrap64_small i (Nat.le_trans hi (Nat.le_trans hpl (by decide)))
      have hst := and_take GG smN ps i p hp
      have hsm := fun W => osmall_any p.1 W (HPS.out i p hp)
      obtain ⟨nm, v, hs⟩ := p
      simp only at c0 c1 c2 hsm
      obtain ⟨W1, hW1⟩ : ∃ W1, wr.alloc (.cells #[.string ⟨nm.toArray⟩, .string ⟨v.toArray⟩, .bool hs] 214) = W1 := ⟨_, rfl⟩
      have hbw : Below wr.heap.size wr W1 := by rw [← hW1]; exact (Below.refl _ wr).alloc (Nat.le_refl _) _
      have HBW := Lib.hid (And.intro (hb.trans (hbw.mono hb.size)) (hblk.later hbw))
      have hB1 : BlkIs W1 wr.heap.size #[.string ⟨nm.toArray⟩, .string ⟨v.toArray⟩, .bool hs] 214 := by rw [← hW1]; exact blkIs_new _ _ _
      have HBK := Lib.hid hB1; have HW1 := Lib.hid hW1; have HST := Lib.hid hst; have HSMN := Lib.hid hsm; have HW := Lib.hid hwi
      obtain ⟨ok, hok⟩ : ∃ ok, (GG && (ps.take i).all smN) = ok := ⟨_, rfl⟩
      rw [hok] at HST
      rw [hok]
      clear hbw hB1 hW1 hst hsm hwi hb hblk hp hgg hok
      go_upto_region 6 with fail
      rw [HW1.out]
      have f0 : W1.cell? ⟨wr.heap.size, 0, none⟩ = some (.string ⟨nm.toArray⟩) := HBK.out.cell 0 _ rfl
      clear c0 c1 c2
      cases ok with
      | false =>
        go_wp2
        have hwi := HW.out
        go_roundw
        case rel => (try rw [hwi]); clear hwi; exact ⟨i + 1, by go_num, hlt, by rw [HST.out]; rfl, HBW.out.1, HBW.out.2⟩
        case measure => (try rw [hwi]); clear hwi; simp [intOf]; omega
      | true =>
        go_wp2_with fail
        refine (HSMN.out _).mono ?_
        rintro e w3 ⟨rfl, hb3⟩
        have HB3 := Lib.hid (And.intro (HBW.out.1.trans (hb3.mono HBW.out.1.size)) (HBW.out.2.later hb3))
        clear hb3
        have HSE := Lib.hid (show smN (nm, v, hs) = small nm from rfl)
        obtain ⟨sb, hsb⟩ : ∃ sb, small nm = sb := ⟨_, rfl⟩
        rw [hsb] at HSE
        rw [hsb]
        clear hsb
        go_wp2
        have hwi := HW.out
        go_roundw
        case rel => (try rw [hwi]); clear hwi; exact ⟨i + 1, by go_num, hlt, by rw [HST.out, HSE.out]; rfl, HB3.out.1, HB3.out.2⟩
        case measure => (try rw [hwi]); clear hwi; simp [intOf]; omega
    · obtain rfl : i = ps.length := by omega
      have hd : decide (ps.length < ps.length) = false := decide_eq_false (Nat.lt_irrefl _)
      rw [List.take_length]
      have e0 : wr.cell? ⟨w.heap.size, 0, none⟩ = some (.string ⟨ty.toArray⟩) := hblk.cell 0 _ rfl
      have e1 : wr.cell? ⟨w.heap.size, 1, none⟩ = some (.string ⟨sub.toArray⟩) := hblk.cell 1 _ rfl
      have HB := Lib.hid hb
      clear hb hblk
      cases hfin : (GG && ps.all smN) with
      | false =>
        have HE := Lib.hid (HNO.out hfin)
        clear hfin
        go_wp2
        go_ret2
        rw [HE.out]
        exact ⟨rfl, HB.out⟩
      | true =>
        have hgt : mG ⟨ty, sub, ps⟩ = true := by rw [HGG.out]; simp only [Bool.and_eq_true] at hfin; exact hfin.1
        have hTp := HPT.out (mG_prm _ hgt)
        have hyes := HYES.out hfin
        obtain ⟨D1, hD1⟩ : ∃ D1, ty ++ [47] = D1 := ⟨_, rfl⟩
        obtain ⟨D2, hD2⟩ : ∃ D2, D1 ++ sub = D2 := ⟨_, rfl⟩
        obtain ⟨D3, hD3⟩ : ∃ D3, D2 ++ T = D3 := ⟨_, rfl⟩
        have hl := HLEN.out
        have hl1 : D1.length ≤ 1099511627776 := by rw [← hD1, List.length_append, List.length_singleton]; omega
        have hl2 : D2.length ≤ 1099511627776 := by rw [← hD2, ← hD1, List.length_append, List.length_append, List.length_singleton]; omega
        have q1 : (⟨ty.toArray⟩ : ByteArray) ++ (⟨#[47]⟩ : ByteArray) = ⟨D1.toArray⟩ := by rw [← hD1]; exact cat_lp ty [47]
        have q2 : (⟨D1.toArray⟩ : ByteArray) ++ (⟨sub.toArray⟩ : ByteArray) = ⟨D2.toArray⟩ := by rw [← hD2]; exact cat_lp D1 sub
        have q3 : (⟨D2.toArray⟩ : ByteArray) ++ (⟨T.toArray⟩ : ByteArray) = ⟨D3.toArray⟩ := by rw [← hD3]; exact cat_lp D2 T
        have z1 := nof7 ty.length 1 (by omega) (by decide)
        have z2 := nof7 D1.length sub.length (by omega) (by omega)
        have z3 := nof7 D2.length T.length (by omega) (by omega)
        have HE := Lib.hid (show mprR ⟨ty, sub, ps⟩ = (D3, 0) by rw [hyes, ← hD3, ← hD2, ← hD1, hTp]; simp)
        clear hfin hgt hTp hyes hD1 hD2 hD3 hl hl1 hl2
        go_wp2
        go_ret2
        rw [HE.out]
        exact ⟨rfl, HB.out⟩
end Go.Proofs.YtpdbejeiceodkaaGreatDoor
