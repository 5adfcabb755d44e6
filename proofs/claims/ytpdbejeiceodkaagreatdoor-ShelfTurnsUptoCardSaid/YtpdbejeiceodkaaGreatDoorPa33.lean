/- The walk of the reference's right at every file. Conditions: the file is small. -/
import Derived.Test.YtpdbejeiceodkaaGreatDoorPa26
import Derived.Test.YtpdbejeiceodkaaGreatDoorPk28
import Derived.Test.YtpdbejeiceodkaaGreatDoorPk29
import Derived.Test.YtpdbejeiceodkaaGreatDoorPk31
import Derived.Test.YtpdbejeiceodkaaGreatDoorPk32
namespace Go.Proofs.YtpdbejeiceodkaaGreatDoor
open Go.RowKit
set_option linter.unusedSimpArgs false
set_option linter.unusedVariables false
set_option maxRecDepth 1000000
theorem last_get (s : ByteArray) (k : Nat) (hk : s.size = k + 1) : s.data.toList.getLast? = some (s[k]'(by omega)) := by
  have h := list_get s k (by omega)
  have e : s.size - 1 = k := by omega
  rw [List.getLast?_eq_getElem?, size_list, e]
  exact h
theorem tm_R (t : Int) : tmOk t = (decide (t = -1) || tmR t) := rfl
theorem nrm_ne (l : List UInt8) (h : (nrm l).2 = 0) : 0 < l.length := by
  cases hp : isP l with
  | false => rw [nrm_bad l hp] at h; cases h
  | true => obtain ⟨T, rfl, _⟩ := isP_head l hp; simp
set_option maxHeartbeats 16000000 in
theorem rright_any (f : Fil) (w : World) (hs : filLen f ≤ 1073741824) : Calls Tryz.prog 67 #[.agg (filC f)] w fun e w' => e = .returned (.bool (rgt f)) ∧ Below w.heap.size w w' := by
  obtain ⟨p, m, c, l, b, t⟩ := f
  have hsp : p.length ≤ 1073741824 ∧ m.length ≤ 1073741824 ∧ c.length ≤ 1073741824 ∧ l.length ≤ 1073741824 := by unfold filLen at hs; simp only at hs; omega
  have hz : ∀ x : List UInt8, (⟨x.toArray⟩ : ByteArray).size = x.length := fun x => by rw [← size_list]
  obtain ⟨⟨np, ne⟩, hnp⟩ : ∃ r, nrm p = r := ⟨_, rfl⟩
  obtain ⟨sp, hspp⟩ : ∃ s : ByteArray, (⟨p.toArray⟩ : ByteArray) = s := ⟨_, rfl⟩
  obtain ⟨sn, hsn⟩ : ∃ s : ByteArray, (⟨np.toArray⟩ : ByteArray) = s := ⟨_, rfl⟩
  have hpl : sp.data.toList = p := by rw [← hspp]
  have hnl : sn.data.toList = np := by rw [← hsn]
  have hpl2 : sp.toList = p := by rw [ByteArray.toList_eq, hpl]
  have hnl2 : sn.toList = np := by rw [ByteArray.toList_eq, hnl]
  have hpz : sp.size = p.length := by rw [← size_list, hpl]
  obtain ⟨W0, hW0⟩ : ∃ W0, w.alloc (.cells #[.string sp, .string ⟨m.toArray⟩, .string ⟨c.toArray⟩, .string ⟨l.toArray⟩, .string ⟨b.toArray⟩, .int .i64 t] 64) = W0 := ⟨_, rfl⟩
  obtain ⟨FC, hFC⟩ : ∃ F : List UInt8 → Array Value, (fun c => #[.string sp, .string ⟨m.toArray⟩, .string ⟨c.toArray⟩, .string ⟨l.toArray⟩, .string ⟨b.toArray⟩, .int .i64 t]) = F := ⟨_, rfl⟩
  obtain ⟨g, hgg⟩ : ∃ g, w.heap.size = g := ⟨_, rfl⟩
  have hb0 : Below w.heap.size w W0 := by rw [← hW0]; exact (Below.refl _ w).alloc (Nat.le_refl _) _
  have hB0 : BlkIs W0 g #[.string sp, .string ⟨m.toArray⟩, .string ⟨c.toArray⟩, .string ⟨l.toArray⟩, .string ⟨b.toArray⟩, .int .i64 t] 64 := by rw [← hW0, ← hgg]; exact blkIs_new _ _ _
  have HN := Lib.hid (show ∀ W, Calls Tryz.prog 102 #[.string sp] W fun e w' => e = .returned (.tuple #[.string sn, .int .i64 (ne : Nat)]) ∧ Below W.heap.size W w' by
    intro W
    have := rnormal_any sp W (by rw [hpz]; omega)
    rw [hpl, hnp] at this
    rw [← hsn]
    exact this)
  obtain ⟨⟨⟨ty, sub, ps, gd⟩, pe⟩, hmd⟩ : ∃ r, mdP m = r := ⟨_, rfl⟩
  have hmo : mdmOf m = ⟨ty, sub, ps⟩ := by unfold mdmOf; rw [hmd]
  obtain ⟨⟨pr, pe2⟩, hpr⟩ : ∃ r, mprR ⟨ty, sub, ps⟩ = r := ⟨_, rfl⟩
  have hmok : mdOk m = (decide (pe = 0) && (decide (pe2 = 0) && decide (pr = m))) := by unfold mdOk; rw [hmo, hpr, hmd]
  have HPA := Lib.hid (show ∀ W, Calls Tryz.prog 52 #[.string ⟨m.toArray⟩] W fun e w' => ∃ ao cap, e = .returned (.tuple #[.agg #[.string ⟨ty.toArray⟩, .string ⟨sub.toArray⟩, .slice ao ps.length cap], .int .i64 (pe : Nat)]) ∧ ParsIn w' (.slice ao ps.length cap) ps ∧ Below W.heap.size W w' by
    intro W
    refine (rparse_any ⟨m.toArray⟩ W (by rw [hz]; omega)).mono fun e w' h => ?_
    unfold MpPost at h
    rw [show (⟨m.toArray⟩ : ByteArray).data.toList = m from by simp, hmd] at h
    obtain ⟨v, rfl, hown, hb⟩ := h
    have hpi := parsIn_own hown
    obtain ⟨ao, cap, rfl, hat⟩ := hpi
    exact ⟨ao, cap, rfl, ⟨ao, cap, rfl, hat⟩, hb⟩)
  have HPR := Lib.hid (show ∀ W pv, ParsIn W pv ps → Calls Tryz.prog 103 #[.agg #[.string ⟨ty.toArray⟩, .string ⟨sub.toArray⟩, pv]] W fun e w' => e = .returned (.tuple #[.string ⟨pr.toArray⟩, .int .i64 (pe2 : Nat)]) ∧ Below W.heap.size W w' by
    intro W pv hpi
    have := rmpr_any ⟨ty, sub, ps⟩ pv W (by rw [← hmo]; have := mdO_tot m; omega) hpi
    rw [hpr] at this
    exact this)
  have HTK := Lib.hid (show ∀ W, Calls Tryz.prog 104 #[.string ⟨c.toArray⟩] W fun e w' => e = .returned (.bool (isTok c)) ∧ w' = W by
    intro W
    have := rtoken_any ⟨c.toArray⟩ W (by rw [hz]; omega)
    rwa [show (⟨c.toArray⟩ : ByteArray).data.toList = c from by simp] at this)
  have HLW := Lib.hid (show ∀ W, Calls Tryz.prog 38 #[.string ⟨c.toArray⟩] W fun e w' => e = .returned (.string ⟨(lowL c).toArray⟩) ∧ Below W.heap.size W w' by
    intro W
    have := rlower_any ⟨c.toArray⟩ W (by rw [hz]; omega)
    rwa [show (⟨c.toArray⟩ : ByteArray).data.toList = c from by simp] at this)
  have HLA := Lib.hid (show ∀ W, Calls Tryz.prog 91 #[.string ⟨l.toArray⟩] W fun e w' => e = .returned (.bool (lanOk l)) ∧ w' = W by
    intro W
    have := rislan_any ⟨l.toArray⟩ W (by rw [hz]; omega)
    rwa [show (⟨l.toArray⟩ : ByteArray).data.toList = l from by simp] at this)
  obtain ⟨kk, hkk⟩ : ∃ k : Int, (if tmR t = true then (0 : Int) else 40) = k := ⟨_, rfl⟩
  have HSP := Lib.hid (show ∀ W, Calls Tryz.prog 105 #[.int .i64 t] W (Sp4P kk W) from fun W => (rsplit4_any t W).mono fun e w' h => by unfold Sp4Post at h; rw [hkk] at h; exact h)
  have HKK := Lib.hid hkk
  clear hkk
  have HW0 := Lib.hid hW0; have HB0 := Lib.hid (And.intro hb0 hB0)
  have hn1 := nmOk_e p; have hn2 := nmOk_n p; have hn3 := nmOk_s p; have hn4 := nmOk_l p; have hn5 := nmOk_y p
  have hne0 := nrm_ne p
  rw [hnp] at hn1 hn2 hn5 hne0
  have hlast := last_get sp
  rw [hpl] at hlast
  have HNM := Lib.hid (And.intro hn1 (And.intro hn2 (And.intro hn3 (And.intro hn4 hn5)))); have HMO := Lib.hid hmok; have HLS := Lib.hid hlast
  have HRN := Lib.hid (rgt_n ⟨p, m, c, l, b, t⟩); have HRM := Lib.hid (rgt_m ⟨p, m, c, l, b, t⟩); have HRR := Lib.hid (rgt_nm ⟨p, m, c, l, b, t⟩)
  have hpb := hsp.1
  obtain ⟨R, hR⟩ : ∃ R, rgt ⟨p, m, c, l, b, t⟩ = R := ⟨_, rfl⟩
  have hgoal : (Value.agg (filC ⟨p, m, c, l, b, t⟩)) = .agg #[.string sp, .string ⟨m.toArray⟩, .string ⟨c.toArray⟩, .string ⟨l.toArray⟩, .string ⟨b.toArray⟩, .int .i64 t] := by rw [← hspp]; rfl
  rw [hR, hgoal]
  have HRE := Lib.hid hR
  have HPZ := Lib.hid (And.intro hpz hne0)
  have HEQ := Lib.hid (And.intro hpl2 hnl2)
  clear hn1 hn2 hn3 hn4 hn5 hW0 hb0 hB0 hs hsp hnp hmd hmo hpr hmok hz hR hgoal hpz hne0 hpl hnl hpl2 hnl2 hspp hsn hlast FC hFC
  go_enter Tryz.func67, Tryz.ntmps67
  go_upto_region 1 with fail
  rw [HW0.out]
  have c0 : W0.cell? ⟨g, 0, none⟩ = some (.string sp) := HB0.out.2.cell 0 _ rfl
  go_wp2_with fail
  refine (HN.out W0).mono ?_
  rintro e w1 ⟨rfl, hb1⟩
  have HB1 := Lib.hid (And.intro (HB0.out.1.trans (hb1.mono HB0.out.1.size)) (HB0.out.2.later hb1))
  clear hb1 c0
  have c1 : w1.cell? ⟨g, 1, none⟩ = some (.string ⟨m.toArray⟩) := HB1.out.2.cell 1 _ rfl
  go_wp2_with fail
  refine (HPA.out w1).mono ?_
  rintro e w3 ⟨ao, cap, rfl, hpi, hb3⟩
  clear c1
  obtain ⟨W3, hW3⟩ : ∃ W3, w3.alloc (.cells #[.string ⟨ty.toArray⟩, .string ⟨sub.toArray⟩, .slice ao ps.length cap] 103) = W3 := ⟨_, rfl⟩
  have hb33 : Below w3.heap.size w3 W3 := by rw [← hW3]; exact (Below.refl _ w3).alloc (Nat.le_refl _) _
  have hb03 : Below w.heap.size w W3 := (HB1.out.1.trans (hb3.mono HB1.out.1.size)).trans (hb33.mono (Nat.le_trans HB1.out.1.size hb3.size))
  have HB3 := Lib.hid (And.intro hb03 (And.intro ((HB1.out.2.later hb3).later hb33) (And.intro (show BlkIs W3 w3.heap.size _ 103 by rw [← hW3]; exact blkIs_new _ _ _) (hpi.below hb33))))
  have HW3 := Lib.hid hW3
  clear hW3 hb3 hb33 hb03 hpi
  go_upto_region 3 with fail
  rw [HW3.out]
  have d0 : W3.cell? ⟨w3.heap.size, 0, none⟩ = some (.string ⟨ty.toArray⟩) := HB3.out.2.2.1.cell 0 _ rfl
  have d1 : W3.cell? ⟨w3.heap.size, 1, none⟩ = some (.string ⟨sub.toArray⟩) := HB3.out.2.2.1.cell 1 _ rfl
  have d2 : W3.cell? ⟨w3.heap.size, 2, none⟩ = some (.slice ao ps.length cap) := HB3.out.2.2.1.cell 2 _ rfl
  go_wp2_with fail
  refine (HPR.out W3 _ HB3.out.2.2.2).mono ?_
  rintro e w4 ⟨rfl, hb4⟩
  have HB4 := Lib.hid (And.intro (HB3.out.1.trans (hb4.mono HB3.out.1.size)) (HB3.out.2.1.later hb4))
  clear hb4 d0 d1 d2
  have c0 : w4.cell? ⟨g, 0, none⟩ = some (.string sp) := HB4.out.2.cell 0 _ rfl
  have c1 : w4.cell? ⟨g, 1, none⟩ = some (.string ⟨m.toArray⟩) := HB4.out.2.cell 1 _ rfl
  go_upto_region 4 with fail
  go_cut [65] (fun s65 wx => s65 = .bool (!(nmOk p && mdOk m)) ∧ w4 = wx)
  case first =>
    obtain ⟨hpz, hne0⟩ := HPZ.out
    obtain ⟨hpl2, hnl2⟩ := HEQ.out
    by_cases q1 : ne = 0
    case neg =>
      obtain ⟨b1, b2⟩ := nz_int ne q1
      have HF := Lib.hid (show (!(nmOk p && mdOk m)) = true by rw [HNM.out.1 q1]; rfl)
      clear q1 hpz hne0 hpl2 hnl2
      go_wp2_with fail
      go_meet
      exact ⟨by (rw [HF.out]) <;> rfl, by first | rfl | trivial⟩
    obtain ⟨b1, b2⟩ := z_int ne q1
    by_cases q2 : np = p
    case neg =>
      have e1 : (sn.toList == sp.toList) = false := by rw [hpl2, hnl2]; simpa using q2
      have e2 : (sn.toList != sp.toList) = true := by rw [hpl2, hnl2]; simpa using q2
      have HF := Lib.hid (show (!(nmOk p && mdOk m)) = true by rw [HNM.out.2.1 q2]; rfl)
      clear q1 q2 hpz hne0 hpl2 hnl2
      go_wp2_with fail
      go_meet
      exact ⟨by (rw [HF.out]) <;> rfl, by first | rfl | trivial⟩
    have e1 : (sn.toList == sp.toList) = true := by rw [hpl2, hnl2]; simpa using q2
    have e2 : (sn.toList != sp.toList) = false := by rw [hpl2, hnl2]; simpa using q2
    have hpos := hne0 q1
    obtain ⟨k, hk⟩ : ∃ k, sp.size = k + 1 := ⟨sp.size - 1, by omega⟩
    have hlst := HLS.out k hk
    obtain ⟨cc, hcc⟩ : ∃ c, sp[k]'(by omega) = c := ⟨_, rfl⟩
    obtain ⟨a, ea⟩ : ∃ a, (sp[k]'(by omega)).toNat = a := ⟨_, rfl⟩
    have hkb : k ≤ 1073741824 := by omega
    have hba : ((a : Int) == 47) = (cc == 47) := u8_beq cc 47 a 47 (by rw [← hcc]; exact ea) rfl
    rw [hcc] at hlst
    have hl47 : (p.getLast? == some 47) = (cc == 47) := by rw [hlst, hd_47]
    have hplk : p.length = k + 1 := by omega
    have k0 : (0 : Int) ≤ (k : Int) := Int.natCast_nonneg _
    have HLK := Lib.hid (And.intro hl47 hplk)
    have HQ := Lib.hid (And.intro q1 q2)
    clear hlst hcc hl47 hplk hpz hne0 hpl2 hnl2 hpos q1 q2
    cases q3 : (cc == 47) with
    | true =>
      rw [q3] at hba
      have HF := Lib.hid (show (!(nmOk p && mdOk m)) = true by rw [HNM.out.2.2.1 (by rw [HLK.out.1]; exact q3)]; rfl)
      clear q3
      go_wp2_with fail
      go_meet
      exact ⟨by (rw [HF.out]) <;> rfl, by first | rfl | trivial⟩
    | false =>
    rw [q3] at hba
    by_cases q4 : p.length ≤ 1024
    case neg =>
      have g1 : (1024 : Int) < (k : Int) + 1 := by have := HLK.out.2; omega
      have HF := Lib.hid (show (!(nmOk p && mdOk m)) = true by rw [HNM.out.2.2.2.1 q4]; rfl)
      clear q3 q4
      go_wp2_with fail
      go_meet
      exact ⟨by (rw [HF.out]) <;> rfl, by first | rfl | trivial⟩
    have g1 : ¬ (1024 : Int) < (k : Int) + 1 := by have := HLK.out.2; omega
    have HNY := Lib.hid (HNM.out.2.2.2.2 HQ.out.1 HQ.out.2 (by rw [HLK.out.1]; exact q3) q4)
    clear q3 q4
    by_cases r1 : pe = 0
    case neg =>
      obtain ⟨b3, b4⟩ := nz_int pe r1
      have HF := Lib.hid (show (!(nmOk p && mdOk m)) = true by rw [show mdOk m = false by rw [HMO.out, decide_eq_false r1]; rfl]; simp)
      clear r1
      go_wp2_with fail
      go_meet
      exact ⟨by (rw [HF.out]) <;> rfl, by first | rfl | trivial⟩
    obtain ⟨b3, b4⟩ := z_int pe r1
    by_cases r2 : pe2 = 0
    case neg =>
      obtain ⟨b5, b6⟩ := nz_int pe2 r2
      have HF := Lib.hid (show (!(nmOk p && mdOk m)) = true by rw [show mdOk m = false by rw [HMO.out, decide_eq_false r2]; simp]; simp)
      clear r1 r2
      go_wp2_with fail
      go_meet
      exact ⟨by (rw [HF.out]) <;> rfl, by first | rfl | trivial⟩
    obtain ⟨b5, b6⟩ := z_int pe2 r2
    by_cases r3 : pr = m
    case neg =>
      have e3 : (pr == m) = false := by simpa using r3
      have e4 : (pr != m) = true := by simpa using r3
      have HF := Lib.hid (show (!(nmOk p && mdOk m)) = true by rw [show mdOk m = false by rw [HMO.out, decide_eq_false r3]; simp]; simp)
      clear r1 r2 r3
      go_wp2_with fail
      go_meet
      exact ⟨by (rw [HF.out]) <;> rfl, by first | rfl | trivial⟩
    have e3 : (pr == m) = true := by simpa using r3
    have e4 : (pr != m) = false := by simpa using r3
    have HF := Lib.hid (show (!(nmOk p && mdOk m)) = false by rw [HNY.out, show mdOk m = true by rw [HMO.out, decide_eq_true r1, decide_eq_true r2, decide_eq_true r3]; rfl]; rfl)
    clear r1 r2 r3
    go_wp2_with fail
    go_meet
    exact ⟨by (rw [HF.out]) <;> rfl, by first | rfl | trivial⟩
  case rest =>
  obtain ⟨rfl, rfl⟩ := hcut
  clear c0 c1
  have HRX0 := Lib.hid (show (nmOk p && mdOk m) = false → R = false from fun h => by
    rw [← HRE.out]
    cases hn : nmOk p with
    | false => exact HRN.out hn
    | true => rw [hn] at h; exact HRM.out (by simpa using h))
  have HRX1 := Lib.hid (show (nmOk p && mdOk m) = true → R = (cdOk c && (tmOk t && lgOk l)) from fun h => by
    rw [← HRE.out]
    rw [Bool.and_eq_true] at h
    exact HRR.out h.1 h.2)
  cases qq : (nmOk p && mdOk m) with
  | false =>
    have HX := Lib.hid (HRX0.out qq)
    clear qq
    go_wp2
    go_ret
    exact ⟨by (rw [HX.out]) <;> rfl, HB4.out.1⟩
  | true =>
  have HRX := Lib.hid (HRX1.out qq)
  clear qq
  go_upto_region 6 with fail
  have HD := Lib.hid (And.intro HB4.out.1.drew (HB4.out.2.later ((Below.refl _ w4).drew)))
  go_cut [87] (fun s87 wx => s87 = .bool (!cdOk c) ∧ Below w.heap.size w wx ∧ BlkIs wx g #[.string sp, .string ⟨m.toArray⟩, .string ⟨c.toArray⟩, .string ⟨l.toArray⟩, .string ⟨b.toArray⟩, .int .i64 t] 64)
  case first =>
    rename_i J0 K0 hJ0 hK0
    have HJ0 := Lib.hid hJ0; have HK0 := Lib.hid hK0
    clear hJ0 hK0
    by_cases q1 : c = []
    · subst q1
      have HCD := Lib.hid (show cdOk [] = true from rfl)
      refine wp_region_textH (fun w' => BlkIs w' g #[.string sp, .string ⟨m.toArray⟩, .string ⟨List.toArray []⟩, .string ⟨l.toArray⟩, .string ⟨b.toArray⟩, .int .i64 t] 64) [(0, true), (1, true), (2, true), (3, true), (4, true), (5, true), (6, true), (7, true), (8, true), (9, true), (10, true), (11, true), (12, true), (13, true), (14, true), (15, true), (16, true), (17, true), (18, true), (19, true), (20, true), (21, true)] (by kernel_rfl) (by kernel_rfl) (by kernel_rfl) (by kernel_rfl) HD.out.2 ?_
      refine wpTxH_take rfl (by kernel_rfl) (v := ?_) ?_ ?_; rotate_left; · (intro W hS; have s2 := hS.cell 2 _ rfl; clear hS; go_simp; with_reducible rfl)
      refine wpTxH_take rfl (by kernel_rfl) (v := ?_) ?_ ?_; rotate_left; · (intro W hS; have s2 := hS.cell 2 _ rfl; clear hS; go_simp; with_reducible rfl)
      refine wpTxH_take rfl (by kernel_rfl) (v := ?_) ?_ ?_; rotate_left; · (intro W hS; have s2 := hS.cell 2 _ rfl; clear hS; go_simp; with_reducible rfl)
      refine wpTxH_take rfl (by kernel_rfl) (v := ?_) ?_ ?_; rotate_left; · (intro W hS; have s2 := hS.cell 2 _ rfl; clear hS; go_simp; with_reducible rfl)
      refine wtxH_passS rfl (by kernel_rfl) ?_
      refine wtxH_passS rfl (by kernel_rfl) ?_
      refine wtxH_passS rfl (by kernel_rfl) ?_
      refine wtxH_passS rfl (by kernel_rfl) ?_
      refine wtxH_passS rfl (by kernel_rfl) ?_
      refine wtxH_passS rfl (by kernel_rfl) ?_
      refine wtxH_passS rfl (by kernel_rfl) ?_
      refine wtxH_passS rfl (by kernel_rfl) ?_
      refine wtxH_passS rfl (by kernel_rfl) ?_
      refine wtxH_passS rfl (by kernel_rfl) ?_
      refine wtxH_passS rfl (by kernel_rfl) ?_
      refine wtxH_passS rfl (by kernel_rfl) ?_
      refine wtxH_passS rfl (by kernel_rfl) ?_
      refine wtxH_passS rfl (by kernel_rfl) ?_
      refine wtxH_passS rfl (by kernel_rfl) ?_
      refine wtxH_passS rfl (by kernel_rfl) ?_
      refine wtxH_passS rfl (by kernel_rfl) ?_
      refine wpTxH_take rfl (by kernel_rfl) (v := ?_) ?_ ?_; rotate_left; · (intro W hS; have s2 := hS.cell 2 _ rfl; clear hS; go_simp; with_reducible rfl)
      refine wpTxH_nil ?_
      go_simp
      refine HK0.out _ _ (Met.intro (HJ0.out _ _ ?_))
      (repeat apply Exists.intro)
      refine ⟨?_, rfl⟩
      exact ⟨by (rw [HCD.out]) <;> rfl, HD.out.1, HD.out.2⟩
    have e0 : (c == []) = false := by simpa using q1
    have e0n : (c != []) = true := by simpa using q1
    have e0' : c.isEmpty = false := by simpa using q1
    have hcd : cdOk c = (isTok c && (decide (lowL c = c) && !decide (c = idnL))) := by unfold cdOk; rw [e0']; rfl
    cases q2 : isTok c with
    | false =>
      rw [q2] at HTK hcd
      have HCD := Lib.hid (show cdOk c = false from hcd)
      clear hcd q2
      refine wp_region_textH (fun w' => BlkIs w' g #[.string sp, .string ⟨m.toArray⟩, .string ⟨List.toArray c⟩, .string ⟨l.toArray⟩, .string ⟨b.toArray⟩, .int .i64 t] 64) [(0, true), (1, true), (2, true), (3, true), (4, true), (5, true), (6, false), (7, true), (8, true), (9, true), (10, true), (11, true), (12, true), (13, true), (14, true), (15, true), (16, true), (17, true), (18, true), (19, true), (20, true), (21, true)] (by kernel_rfl) (by kernel_rfl) (by kernel_rfl) (by kernel_rfl) HD.out.2 ?_
      refine wpTxH_take rfl (by kernel_rfl) (v := ?_) ?_ ?_; rotate_left; · (intro W hS; have s2 := hS.cell 2 _ rfl; clear hS; go_simp; with_reducible rfl)
      refine wpTxH_take rfl (by kernel_rfl) (v := ?_) ?_ ?_; rotate_left; · (intro W hS; have s2 := hS.cell 2 _ rfl; clear hS; go_simp; with_reducible rfl)
      refine wpTxH_take rfl (by kernel_rfl) (v := ?_) ?_ ?_; rotate_left; · (intro W hS; have s2 := hS.cell 2 _ rfl; clear hS; go_simp; with_reducible rfl)
      refine wpTxH_take rfl (by kernel_rfl) (v := ?_) ?_ ?_; rotate_left; · (intro W hS; have s2 := hS.cell 2 _ rfl; clear hS; go_simp; with_reducible rfl)
      refine wpTxH_take rfl (by kernel_rfl) (v := ?_) ?_ ?_; rotate_left; · (intro W hS; have s2 := hS.cell 2 _ rfl; clear hS; go_simp; with_reducible rfl)
      refine wpTxH_take rfl (by kernel_rfl) (v := ?_) ?_ ?_; rotate_left; · (intro W hS; have s2 := hS.cell 2 _ rfl; clear hS; go_simp; with_reducible rfl)
      refine wpTxH_step rfl (fun K hK => ?_)
      go_simp
      refine (HTK.out _).mono ?_
      rintro e w5 ⟨rfl, hw5⟩
      subst hw5
      refine hK _ _ HD.out.2 ?_
      clear hK K
      refine wpTxH_take rfl (by kernel_rfl) (v := ?_) ?_ ?_; rotate_left; · (intro W hS; have s2 := hS.cell 2 _ rfl; clear hS; go_simp; with_reducible rfl)
      refine wpTxH_take rfl (by kernel_rfl) (v := ?_) ?_ ?_; rotate_left; · (intro W hS; have s2 := hS.cell 2 _ rfl; clear hS; go_simp; with_reducible rfl)
      refine wtxH_passS rfl (by kernel_rfl) ?_
      refine wtxH_passS rfl (by kernel_rfl) ?_
      refine wtxH_passS rfl (by kernel_rfl) ?_
      refine wtxH_passS rfl (by kernel_rfl) ?_
      refine wtxH_passS rfl (by kernel_rfl) ?_
      refine wtxH_passS rfl (by kernel_rfl) ?_
      refine wpTxH_take rfl (by kernel_rfl) (v := ?_) ?_ ?_; rotate_left; · (intro W hS; have s2 := hS.cell 2 _ rfl; clear hS; go_simp; with_reducible rfl)
      refine wpTxH_take rfl (by kernel_rfl) (v := ?_) ?_ ?_; rotate_left; · (intro W hS; have s2 := hS.cell 2 _ rfl; clear hS; go_simp; with_reducible rfl)
      refine wtxH_passS rfl (by kernel_rfl) ?_
      refine wtxH_passS rfl (by kernel_rfl) ?_
      refine wtxH_passS rfl (by kernel_rfl) ?_
      refine wpTxH_take rfl (by kernel_rfl) (v := ?_) ?_ ?_; rotate_left; · (intro W hS; have s2 := hS.cell 2 _ rfl; clear hS; go_simp; with_reducible rfl)
      refine wpTxH_take rfl (by kernel_rfl) (v := ?_) ?_ ?_; rotate_left; · (intro W hS; have s2 := hS.cell 2 _ rfl; clear hS; go_simp; with_reducible rfl)
      refine wpTxH_nil ?_
      go_simp
      refine HK0.out _ _ (Met.intro (HJ0.out _ _ ?_))
      (repeat apply Exists.intro)
      refine ⟨?_, rfl⟩
      exact ⟨by (rw [HCD.out]) <;> rfl, HD.out.1, HD.out.2⟩
    | true =>
    rw [q2] at HTK hcd
    by_cases q3 : lowL c = c
    case neg =>
      have e1 : (lowL c == c) = false := by simpa using q3
      have e1n : (lowL c != c) = true := by simpa using q3
      have HCD := Lib.hid (show cdOk c = false by rw [hcd, decide_eq_false q3]; rfl)
      clear hcd q2 q3
      refine wp_region_textH (fun w' => BlkIs w' g #[.string sp, .string ⟨m.toArray⟩, .string ⟨List.toArray c⟩, .string ⟨l.toArray⟩, .string ⟨b.toArray⟩, .int .i64 t] 64) [(0, true), (1, true), (2, true), (3, true), (4, true), (5, true), (6, false), (7, true), (8, true), (9, true), (10, true), (12, true), (13, true), (11, false), (14, true), (15, true), (16, true), (17, true), (18, true), (19, true), (20, true), (21, true)] (by kernel_rfl) (by kernel_rfl) (by kernel_rfl) (by kernel_rfl) HD.out.2 ?_
      refine wpTxH_take rfl (by kernel_rfl) (v := ?_) ?_ ?_; rotate_left; · (intro W hS; have s2 := hS.cell 2 _ rfl; clear hS; go_simp; with_reducible rfl)
      refine wpTxH_take rfl (by kernel_rfl) (v := ?_) ?_ ?_; rotate_left; · (intro W hS; have s2 := hS.cell 2 _ rfl; clear hS; go_simp; with_reducible rfl)
      refine wpTxH_take rfl (by kernel_rfl) (v := ?_) ?_ ?_; rotate_left; · (intro W hS; have s2 := hS.cell 2 _ rfl; clear hS; go_simp; with_reducible rfl)
      refine wpTxH_take rfl (by kernel_rfl) (v := ?_) ?_ ?_; rotate_left; · (intro W hS; have s2 := hS.cell 2 _ rfl; clear hS; go_simp; with_reducible rfl)
      refine wpTxH_take rfl (by kernel_rfl) (v := ?_) ?_ ?_; rotate_left; · (intro W hS; have s2 := hS.cell 2 _ rfl; clear hS; go_simp; with_reducible rfl)
      refine wpTxH_take rfl (by kernel_rfl) (v := ?_) ?_ ?_; rotate_left; · (intro W hS; have s2 := hS.cell 2 _ rfl; clear hS; go_simp; with_reducible rfl)
      refine wpTxH_step rfl (fun K hK => ?_)
      go_simp
      refine (HTK.out _).mono ?_
      rintro e w5 ⟨rfl, hw5⟩
      subst hw5
      refine hK _ _ HD.out.2 ?_
      clear hK K
      refine wpTxH_take rfl (by kernel_rfl) (v := ?_) ?_ ?_; rotate_left; · (intro W hS; have s2 := hS.cell 2 _ rfl; clear hS; go_simp; with_reducible rfl)
      refine wpTxH_take rfl (by kernel_rfl) (v := ?_) ?_ ?_; rotate_left; · (intro W hS; have s2 := hS.cell 2 _ rfl; clear hS; go_simp; with_reducible rfl)
      refine wpTxH_take rfl (by kernel_rfl) (v := ?_) ?_ ?_; rotate_left; · (intro W hS; have s2 := hS.cell 2 _ rfl; clear hS; go_simp; with_reducible rfl)
      refine wpTxH_take rfl (by kernel_rfl) (v := ?_) ?_ ?_; rotate_left; · (intro W hS; have s2 := hS.cell 2 _ rfl; clear hS; go_simp; with_reducible rfl)
      refine wpTxH_take rfl (by kernel_rfl) (v := ?_) ?_ ?_; rotate_left; · (intro W hS; have s2 := hS.cell 2 _ rfl; clear hS; go_simp; with_reducible rfl)
      refine wpTxH_take rfl (by kernel_rfl) (v := ?_) ?_ ?_; rotate_left; · (intro W hS; have s2 := hS.cell 2 _ rfl; clear hS; go_simp; with_reducible rfl)
      refine wpTxH_step rfl (fun K hK => ?_)
      go_simp
      refine (HLW.out _).mono ?_
      rintro e w6 ⟨rfl, hb6⟩
      have HB6 := Lib.hid (And.intro (HD.out.1.trans (hb6.mono HD.out.1.size)) (HD.out.2.later hb6))
      refine hK _ _ HB6.out.2 ?_
      clear hK K hb6
      refine wpTxH_take rfl (by kernel_rfl) (v := ?_) ?_ ?_; rotate_left; · (intro W hS; have s2 := hS.cell 2 _ rfl; clear hS; go_simp; with_reducible rfl)
      refine wpTxH_take rfl (by kernel_rfl) (v := ?_) ?_ ?_; rotate_left; · (intro W hS; have s2 := hS.cell 2 _ rfl; clear hS; go_simp; with_reducible rfl)
      refine wpTxH_take rfl (by kernel_rfl) (v := ?_) ?_ ?_; rotate_left; · (intro W hS; have s2 := hS.cell 2 _ rfl; clear hS; go_simp; with_reducible rfl)
      refine wtxH_passS rfl (by kernel_rfl) ?_
      refine wtxH_passS rfl (by kernel_rfl) ?_
      refine wtxH_passS rfl (by kernel_rfl) ?_
      refine wpTxH_take rfl (by kernel_rfl) (v := ?_) ?_ ?_; rotate_left; · (intro W hS; have s2 := hS.cell 2 _ rfl; clear hS; go_simp; with_reducible rfl)
      refine wpTxH_take rfl (by kernel_rfl) (v := ?_) ?_ ?_; rotate_left; · (intro W hS; have s2 := hS.cell 2 _ rfl; clear hS; go_simp; with_reducible rfl)
      refine wpTxH_nil ?_
      go_simp
      refine HK0.out _ _ (Met.intro (HJ0.out _ _ ?_))
      (repeat apply Exists.intro)
      refine ⟨?_, rfl⟩
      exact ⟨by (rw [HCD.out]) <;> rfl, HB6.out.1, HB6.out.2⟩
    have e1 : (lowL c == c) = true := by simpa using q3
    have e1n : (lowL c != c) = false := by simpa using q3
    have HCD := Lib.hid (show (!cdOk c) = (c == idnL) by rw [hcd, decide_eq_true q3]; show (!(!decide (c = idnL))) = (c == idnL); rw [Bool.not_not, Bool.eq_iff_iff]; simp)
    clear hcd q2 q3
    refine wp_region_textH (fun w' => BlkIs w' g #[.string sp, .string ⟨m.toArray⟩, .string ⟨List.toArray c⟩, .string ⟨l.toArray⟩, .string ⟨b.toArray⟩, .int .i64 t] 64) [(0, true), (1, true), (2, true), (3, true), (4, true), (5, true), (6, false), (7, true), (8, true), (9, true), (10, true), (12, true), (13, true), (11, false), (14, true), (15, true), (16, true), (17, true), (18, true), (19, true), (20, true), (21, true)] (by kernel_rfl) (by kernel_rfl) (by kernel_rfl) (by kernel_rfl) HD.out.2 ?_
    refine wpTxH_take rfl (by kernel_rfl) (v := ?_) ?_ ?_; rotate_left; · (intro W hS; have s2 := hS.cell 2 _ rfl; clear hS; go_simp; with_reducible rfl)
    refine wpTxH_take rfl (by kernel_rfl) (v := ?_) ?_ ?_; rotate_left; · (intro W hS; have s2 := hS.cell 2 _ rfl; clear hS; go_simp; with_reducible rfl)
    refine wpTxH_take rfl (by kernel_rfl) (v := ?_) ?_ ?_; rotate_left; · (intro W hS; have s2 := hS.cell 2 _ rfl; clear hS; go_simp; with_reducible rfl)
    refine wpTxH_take rfl (by kernel_rfl) (v := ?_) ?_ ?_; rotate_left; · (intro W hS; have s2 := hS.cell 2 _ rfl; clear hS; go_simp; with_reducible rfl)
    refine wpTxH_take rfl (by kernel_rfl) (v := ?_) ?_ ?_; rotate_left; · (intro W hS; have s2 := hS.cell 2 _ rfl; clear hS; go_simp; with_reducible rfl)
    refine wpTxH_take rfl (by kernel_rfl) (v := ?_) ?_ ?_; rotate_left; · (intro W hS; have s2 := hS.cell 2 _ rfl; clear hS; go_simp; with_reducible rfl)
    refine wpTxH_step rfl (fun K hK => ?_)
    go_simp
    refine (HTK.out _).mono ?_
    rintro e w5 ⟨rfl, hw5⟩
    subst hw5
    refine hK _ _ HD.out.2 ?_
    clear hK K
    refine wpTxH_take rfl (by kernel_rfl) (v := ?_) ?_ ?_; rotate_left; · (intro W hS; have s2 := hS.cell 2 _ rfl; clear hS; go_simp; with_reducible rfl)
    refine wpTxH_take rfl (by kernel_rfl) (v := ?_) ?_ ?_; rotate_left; · (intro W hS; have s2 := hS.cell 2 _ rfl; clear hS; go_simp; with_reducible rfl)
    refine wpTxH_take rfl (by kernel_rfl) (v := ?_) ?_ ?_; rotate_left; · (intro W hS; have s2 := hS.cell 2 _ rfl; clear hS; go_simp; with_reducible rfl)
    refine wpTxH_take rfl (by kernel_rfl) (v := ?_) ?_ ?_; rotate_left; · (intro W hS; have s2 := hS.cell 2 _ rfl; clear hS; go_simp; with_reducible rfl)
    refine wpTxH_take rfl (by kernel_rfl) (v := ?_) ?_ ?_; rotate_left; · (intro W hS; have s2 := hS.cell 2 _ rfl; clear hS; go_simp; with_reducible rfl)
    refine wpTxH_take rfl (by kernel_rfl) (v := ?_) ?_ ?_; rotate_left; · (intro W hS; have s2 := hS.cell 2 _ rfl; clear hS; go_simp; with_reducible rfl)
    refine wpTxH_step rfl (fun K hK => ?_)
    go_simp
    refine (HLW.out _).mono ?_
    rintro e w6 ⟨rfl, hb6⟩
    have HB6 := Lib.hid (And.intro (HD.out.1.trans (hb6.mono HD.out.1.size)) (HD.out.2.later hb6))
    refine hK _ _ HB6.out.2 ?_
    clear hK K hb6
    refine wpTxH_take rfl (by kernel_rfl) (v := ?_) ?_ ?_; rotate_left; · (intro W hS; have s2 := hS.cell 2 _ rfl; clear hS; go_simp; with_reducible rfl)
    refine wpTxH_take rfl (by kernel_rfl) (v := ?_) ?_ ?_; rotate_left; · (intro W hS; have s2 := hS.cell 2 _ rfl; clear hS; go_simp; with_reducible rfl)
    refine wpTxH_take rfl (by kernel_rfl) (v := ?_) ?_ ?_; rotate_left; · (intro W hS; have s2 := hS.cell 2 _ rfl; clear hS; go_simp; with_reducible rfl)
    refine wpTxH_take rfl (by kernel_rfl) (v := ?_) ?_ ?_; rotate_left; · (intro W hS; have s2 := hS.cell 2 _ rfl; clear hS; go_simp; with_reducible rfl)
    refine wpTxH_take rfl (by kernel_rfl) (v := ?_) ?_ ?_; rotate_left; · (intro W hS; have s2 := hS.cell 2 _ rfl; clear hS; go_simp; with_reducible rfl)
    refine wpTxH_take rfl (by kernel_rfl) (v := ?_) ?_ ?_; rotate_left; · (intro W hS; have s2 := hS.cell 2 _ rfl; clear hS; go_simp; with_reducible rfl)
    refine wpTxH_take rfl (by kernel_rfl) (v := ?_) ?_ ?_; rotate_left; · (intro W hS; have s2 := hS.cell 2 _ rfl; clear hS; go_simp; with_reducible rfl)
    refine wpTxH_take rfl (by kernel_rfl) (v := ?_) ?_ ?_; rotate_left; · (intro W hS; have s2 := hS.cell 2 _ rfl; clear hS; go_simp; with_reducible rfl)
    refine wpTxH_nil ?_
    go_simp
    refine HK0.out _ _ (Met.intro (HJ0.out _ _ ?_))
    (repeat apply Exists.intro)
    refine ⟨?_, rfl⟩
    exact ⟨by (rw [HCD.out]) <;> rfl, HB6.out.1, HB6.out.2⟩
  case rest =>
  obtain ⟨rfl, hb5, hB5⟩ := hcut
  have HB5 := Lib.hid (And.intro hb5 hB5)
  clear hb5 hB5
  cases q1 : cdOk c with
  | false =>
    have HX := Lib.hid (show R = false by rw [HRX.out, q1]; rfl)
    clear q1
    go_wp2
    go_ret
    exact ⟨by (rw [HX.out]) <;> rfl, HB5.out.1⟩
  | true =>
  have HRX2 := Lib.hid (show R = (tmOk t && lgOk l) by rw [HRX.out, q1]; rfl)
  clear q1
  have c3 : wc.cell? ⟨g, 3, none⟩ = some (.string ⟨l.toArray⟩) := HB5.out.2.cell 3 _ rfl
  go_upto_region 8 with fail
  go_cut [96] (fun s96 wx => s96 = .bool (!lgOk l) ∧ wc = wx)
  case first =>
    by_cases q3 : l = []
    · subst q3
      go_wp2_with fail
      go_meet
      exact ⟨rfl, by first | rfl | trivial⟩
    have e0 : (l == []) = false := by simpa using q3
    have e0n : (l != []) = true := by simpa using q3
    have HX := Lib.hid (show lgOk l = lanOk l by unfold lgOk; rw [show l.isEmpty = false by simpa using q3]; rfl)
    clear q3
    go_wp2_with fail
    refine (HLA.out _).mono ?_
    rintro e w7 ⟨rfl, hw7⟩
    subst hw7
    go_wp2_with fail
    go_meet
    exact ⟨by (rw [HX.out]) <;> rfl, by first | rfl | trivial⟩
  case rest =>
  obtain ⟨rfl, rfl⟩ := hcut
  clear c3
  cases q1 : lgOk l with
  | false =>
    have HX := Lib.hid (show R = false by rw [HRX2.out, q1]; simp)
    clear q1
    go_wp2
    go_ret
    exact ⟨by (rw [HX.out]) <;> rfl, HB5.out.1⟩
  | true =>
  have HRX3 := Lib.hid (show R = (decide (t = -1) || tmR t) by rw [HRX2.out, q1, tm_R]; simp)
  clear q1
  have c5 : wc.cell? ⟨g, 5, none⟩ = some (.int .i64 t) := HB5.out.2.cell 5 _ rfl
  go_wp2_with fail
  refine (HSP.out wc).mono ?_
  rintro e w6 h6
  obtain ⟨y0, y1, y2, y3, y4, y5, y6, rfl, hb6⟩ := h6
  obtain ⟨W7, hW7⟩ : ∃ W, w6.alloc (.cells (datC y0 y1 y2 y3 y4 y5 y6) 168) = W := ⟨_, rfl⟩
  have hb67 : Below w6.heap.size w6 W7 := by rw [← hW7]; exact (Below.refl _ w6).alloc (Nat.le_refl _) _
  have HB7 := Lib.hid (And.intro ((HB5.out.1.trans (hb6.mono HB5.out.1.size)).trans (hb67.mono (Nat.le_trans HB5.out.1.size hb6.size))) ((HB5.out.2.later hb6).later hb67))
  have HW7 := Lib.hid hW7
  clear hW7 hb67 hb6 c5
  go_upto_region 11 with fail
  rw [HW7.out]
  have c5 : W7.cell? ⟨g, 5, none⟩ = some (.int .i64 t) := HB7.out.2.cell 5 _ rfl
  by_cases q1 : t = -1
  · have b1 : (t == -1) = true := by simpa using q1
    have HX := Lib.hid (show R = true by rw [HRX3.out, decide_eq_true q1]; rfl)
    clear q1
    go_wp2
    go_ret
    exact ⟨by (rw [HX.out]) <;> rfl, by first | exact HB7.out.1 | (rw [← hgg]; exact HB7.out.1)⟩
  have b1 : (t == -1) = false := by simpa using q1
  have HX := Lib.hid (show R = tmR t by rw [HRX3.out, decide_eq_false q1]; rfl)
  clear q1
  cases q2 : tmR t with
  | true =>
    have HY := Lib.hid (show R = true by rw [HX.out, q2])
    have qi : (kk == 0) = true := by rw [← HKK.out, q2]; rfl
    clear q2
    go_wp2
    go_ret
    exact ⟨by (rw [HY.out]) <;> rfl, by first | exact HB7.out.1 | (rw [← hgg]; exact HB7.out.1)⟩
  | false =>
    have HY := Lib.hid (show R = false by rw [HX.out, q2])
    have qi : (kk == 0) = false := by rw [← HKK.out, q2]; rfl
    clear q2
    go_wp2
    go_ret
    exact ⟨by (rw [HY.out]) <;> rfl, by first | exact HB7.out.1 | (rw [← hgg]; exact HB7.out.1)⟩
end Go.Proofs.YtpdbejeiceodkaaGreatDoor
