/- The walk of shelf.right at every file. Conditions: the file is small; bytealg's MaxLen holds an int; octet.signs holds what the text lays. -/
import Derived.Test.YtpdbejeiceodkaaGreatDoorPk14
import Derived.Test.YtpdbejeiceodkaaGreatDoorPk18
import Derived.Test.YtpdbejeiceodkaaGreatDoorPa24
import Derived.Test.YtpdbejeiceodkaaGreatDoorPk25
import Derived.Deep.DeepCutAuto
namespace Go.Proofs.YtpdbejeiceodkaaGreatDoor
open Go.RowKit
set_option linter.unusedSimpArgs false
set_option linter.unusedVariables false
set_option maxRecDepth 1000000
theorem mdO_tot (s : List UInt8) : mdmLen (mdmOf s) ≤ s.length := by
  unfold mdmOf mdP
  split
  · have h1 := mdR_tot (trimL s)
    have h2 := trimL_len s
    show (mdR (trimL s)).1.length + (mdR (trimL s)).2.1.length + totP (mdR (trimL s)).2.2.1 + (mdR (trimL s)).2.2.1.length ≤ _
    omega
  · exact Nat.zero_le _
theorem suf_last (l : List UInt8) : Lib.hasSuffix l [47] = (l.getLast? == some 47) := by
  rcases List.eq_nil_or_concat l with rfl | ⟨r, c, rfl⟩
  · rfl
  · rw [List.concat_eq_append, List.getLast?_append, Bool.eq_iff_iff]
    simp [Lib.hasSuffix]
    exact eq_comm
theorem nmOk_e (p : List UInt8) (h : (nrm p).2 ≠ 0) : nmOk p = false := by unfold nmOk; rw [decide_eq_false h]; rfl
theorem nmOk_n (p : List UInt8) (h : (nrm p).1 ≠ p) : nmOk p = false := by unfold nmOk; rw [decide_eq_false h]; simp
theorem nmOk_s (p : List UInt8) (h : (p.getLast? == some 47) = true) : nmOk p = false := by unfold nmOk; rw [h]; simp
theorem nmOk_l (p : List UInt8) (h : ¬ p.length ≤ 1024) : nmOk p = false := by unfold nmOk; rw [decide_eq_false h]; simp
theorem nmOk_y (p : List UInt8) (h1 : (nrm p).2 = 0) (h2 : (nrm p).1 = p) (h3 : (p.getLast? == some 47) = false) (h4 : p.length ≤ 1024) : nmOk p = true := by unfold nmOk; rw [decide_eq_true h1, decide_eq_true h2, h3, decide_eq_true h4]; rfl
theorem rgt_n (f : Fil) (h : nmOk f.p = false) : rgt f = false := by unfold rgt; rw [h]; rfl
theorem rgt_m (f : Fil) (h : mdOk f.m = false) : rgt f = false := by unfold rgt; rw [h]; simp
theorem rgt_nm (f : Fil) (h : nmOk f.p = true) (h2 : mdOk f.m = true) : rgt f = (cdOk f.c && (tmOk f.t && lgOk f.l)) := by unfold rgt; rw [h, h2]; rfl
theorem nz_int (n : Nat) (h : n ≠ 0) : ((n : Int) != 0) = true ∧ ((n : Int) == 0) = false := by simp only [bne, Bool.not_eq_true', beq_eq_false_iff_ne, ne_eq]; omega
theorem z_int (n : Nat) (h : n = 0) : ((n : Int) != 0) = false ∧ ((n : Int) == 0) = true := by subst h; exact ⟨rfl, rfl⟩
set_option maxHeartbeats 16000000 in
theorem oright_any (f : Fil) (mm : Int) (w : World) (hs : filLen f ≤ 1073741824) (hm : w.cell? ⟨0, 0, none⟩ = some (.int .i64 mm)) (hg : SgAt w) : Calls Tryz.prog 64 #[.agg (filC f)] w fun e w' => e = .returned (.bool (rgt f)) ∧ Below w.heap.size w w' := by
  obtain ⟨p, m, c, l, b, t⟩ := f
  have hsp : p.length ≤ 1073741824 ∧ m.length ≤ 1073741824 ∧ c.length ≤ 1073741824 ∧ l.length ≤ 1073741824 := by unfold filLen at hs; simp only at hs; omega
  obtain ⟨W0, hW0⟩ : ∃ W0, w.alloc (.cells (fC p m c l b t) 46) = W0 := ⟨_, rfl⟩
  obtain ⟨g, hgg⟩ : ∃ g, w.heap.size = g := ⟨_, rfl⟩
  have hb0 : Below w.heap.size w W0 := by rw [← hW0]; exact (Below.refl _ w).alloc (Nat.le_refl _) _
  have hB0 : BlkIs W0 g (fC p m c l b t) 46 := by rw [← hW0, ← hgg]; exact blkIs_new _ _ _
  have hz : ∀ x : List UInt8, (⟨x.toArray⟩ : ByteArray).size = x.length := fun x => by rw [← size_list]
  obtain ⟨⟨np, ne⟩, hnp⟩ : ∃ r, nrm p = r := ⟨_, rfl⟩
  have HN := Lib.hid (show ∀ W, Below w.heap.size w W → Calls Tryz.prog 98 #[.string ⟨p.toArray⟩] W fun e w' => e = .returned (.tuple #[.string ⟨np.toArray⟩, .int .i64 (ne : Nat)]) ∧ Below W.heap.size W w' by
    intro W hW
    have := normal_any ⟨p.toArray⟩ mm W (by rw [hz]; omega) (mx_later (B := 0) hm hW)
    rw [show (⟨p.toArray⟩ : ByteArray).data.toList = p from by simp, hnp] at this
    exact this)
  have HSF := Lib.hid (show ∀ W, Calls Tryz.prog 44 #[.string ⟨p.toArray⟩, .string ⟨#[47]⟩] W fun e w' => e = .returned (.bool (p.getLast? == some 47)) ∧ w' = W by
    intro W
    have := Tryz.strings_HasSuffix ⟨p.toArray⟩ ⟨#[47]⟩ W (by rw [hz]; omega)
    rw [show Lib.hasSuffix (⟨p.toArray⟩ : ByteArray).data.toList (⟨#[47]⟩ : ByteArray).data.toList = (p.getLast? == some 47) from by simpa using suf_last p] at this
    exact this)
  obtain ⟨⟨⟨ty, sub, ps, gd⟩, pe⟩, hmd⟩ : ∃ r, mdP m = r := ⟨_, rfl⟩
  have hmo : mdmOf m = ⟨ty, sub, ps⟩ := by unfold mdmOf; rw [hmd]
  obtain ⟨⟨pr, pe2⟩, hpr⟩ : ∃ r, mprR ⟨ty, sub, ps⟩ = r := ⟨_, rfl⟩
  have hmok : mdOk m = (decide (pe = 0) && (decide (pe2 = 0) && decide (pr = m))) := by unfold mdOk; rw [hmo, hpr, hmd]
  have HPA := Lib.hid (show ∀ W, Below w.heap.size w W → Calls Tryz.prog 71 #[.string ⟨m.toArray⟩] W fun e w' => ∃ ao cap, e = .returned (.tuple #[.agg #[.string ⟨ty.toArray⟩, .string ⟨sub.toArray⟩, .slice ao ps.length cap], .int .i64 (pe : Nat)]) ∧ ParsIn w' (.slice ao ps.length cap) ps ∧ Below W.heap.size W w' by
    intro W hW
    refine (oparse_any ⟨m.toArray⟩ W (by rw [hz]; omega) (hg.below hW)).mono fun e w' h => ?_
    unfold MpPost at h
    rw [show (⟨m.toArray⟩ : ByteArray).data.toList = m from by simp, hmd] at h
    obtain ⟨v, rfl, hown, hb⟩ := h
    have hpi := parsIn_own hown
    obtain ⟨ao, cap, rfl, hat⟩ := hpi
    exact ⟨ao, cap, rfl, ⟨ao, cap, rfl, hat⟩, hb⟩)
  have HPR := Lib.hid (show ∀ W pv, Below w.heap.size w W → ParsIn W pv ps → Calls Tryz.prog 99 #[.agg #[.string ⟨ty.toArray⟩, .string ⟨sub.toArray⟩, pv]] W fun e w' => e = .returned (.tuple #[.string ⟨pr.toArray⟩, .int .i64 (pe2 : Nat)]) ∧ Below W.heap.size W w' by
    intro W pv hW hpi
    have := ompr_any ⟨ty, sub, ps⟩ pv W (by rw [← hmo]; have := mdO_tot m; omega) hpi (hg.below hW)
    rw [hpr] at this
    exact this)
  have HTK := Lib.hid (show ∀ W, Below w.heap.size w W → Calls Tryz.prog 100 #[.string ⟨c.toArray⟩] W fun e w' => e = .returned (.bool (isTok c)) ∧ w' = W by
    intro W hW
    have := otoken_any ⟨c.toArray⟩ W (by rw [hz]; omega) (hg.below hW)
    rwa [show (⟨c.toArray⟩ : ByteArray).data.toList = c from by simp] at this)
  have HLW := Lib.hid (show ∀ W, Calls Tryz.prog 37 #[.string ⟨c.toArray⟩] W fun e w' => e = .returned (.string ⟨(lowL c).toArray⟩) ∧ Below W.heap.size W w' by
    intro W
    have := olower_any ⟨c.toArray⟩ W (by rw [hz]; omega)
    rwa [show (⟨c.toArray⟩ : ByteArray).data.toList = c from by simp] at this)
  have HLA := Lib.hid (show ∀ W, Below w.heap.size w W → Calls Tryz.prog 101 #[.string ⟨l.toArray⟩] W fun e w' => e = .returned (.bool (lanOk l)) ∧ Below W.heap.size W w' by
    intro W hW
    have := oislan_any ⟨l.toArray⟩ mm W (by rw [hz]; omega) (mx_later (B := 0) hm hW)
    rwa [show (⟨l.toArray⟩ : ByteArray).data.toList = l from by simp] at this)
  have HW0 := Lib.hid hW0; have HB0 := Lib.hid (And.intro hb0 hB0)
  have hn1 := nmOk_e p; have hn2 := nmOk_n p; have hn3 := nmOk_s p; have hn4 := nmOk_l p; have hn5 := nmOk_y p
  rw [hnp] at hn1 hn2 hn5
  have HNM := Lib.hid (And.intro hn1 (And.intro hn2 (And.intro hn3 (And.intro hn4 hn5)))); have HMO := Lib.hid hmok
  have HRN := Lib.hid (rgt_n ⟨p, m, c, l, b, t⟩); have HRM := Lib.hid (rgt_m ⟨p, m, c, l, b, t⟩); have HRR := Lib.hid (rgt_nm ⟨p, m, c, l, b, t⟩)
  have hbig : ¬ 9223372036854775807 < p.length := by omega
  clear hn1 hn2 hn3 hn4 hn5 hW0 hb0 hB0 hm hg hs hsp hnp hmd hmo hpr hmok hz
  obtain ⟨R, hR⟩ : ∃ R, rgt ⟨p, m, c, l, b, t⟩ = R := ⟨_, rfl⟩
  rw [hR]
  have HRE := Lib.hid hR
  clear hR
  show Calls Tryz.prog 64 #[.agg (fC p m c l b t)] w _
  go_enter Tryz.func64, Tryz.ntmps64
  go_upto_region 1 with fail
  rw [HW0.out]
  have c0 : W0.cell? ⟨g, 0, none⟩ = some (.string ⟨p.toArray⟩) := HB0.out.2.cell 0 _ rfl
  go_wp2_with fail
  refine (HN.out W0 HB0.out.1).mono ?_
  rintro e w1 ⟨rfl, hb1⟩
  have HB1 := Lib.hid (And.intro (HB0.out.1.trans (hb1.mono HB0.out.1.size)) (HB0.out.2.later hb1))
  clear hb1 c0
  have c0 : w1.cell? ⟨g, 0, none⟩ = some (.string ⟨p.toArray⟩) := HB1.out.2.cell 0 _ rfl
  by_cases q1 : ne = 0
  case neg =>
    obtain ⟨b1, b2⟩ := nz_int ne q1
    have HF := Lib.hid (HRN.out (HNM.out.1 q1))
    clear q1
    go_wp2
    go_ret
    exact ⟨by (rw [← HRE.out, HF.out]) <;> rfl, HB1.out.1⟩
  obtain ⟨b1, b2⟩ := z_int ne q1
  by_cases q2 : np = p
  case neg =>
    have e1 : (np == p) = false := by simpa using q2
    have e2 : (np != p) = true := by simpa using q2
    have HF := Lib.hid (HRN.out (HNM.out.2.1 q2))
    clear q1 q2
    go_wp2
    go_ret
    exact ⟨by (rw [← HRE.out, HF.out]) <;> rfl, HB1.out.1⟩
  have e1 : (np == p) = true := by simpa using q2
  have e2 : (np != p) = false := by simpa using q2
  cases q3 : (p.getLast? == some 47) with
  | true =>
    rw [q3] at HSF
    have HF := Lib.hid (HRN.out (HNM.out.2.2.1 q3))
    clear q1 q2 q3
    go_wp2_with fail
    refine (HSF.out w1).mono ?_
    rintro e w2 ⟨rfl, hw2⟩
    subst hw2
    go_wp2
    go_ret
    exact ⟨by (rw [← HRE.out, HF.out]) <;> rfl, HB1.out.1⟩
  | false =>
  rw [q3] at HSF
  obtain ⟨pl, hpl⟩ : ∃ n, (⟨p.toArray⟩ : ByteArray).size = n := ⟨_, rfl⟩
  have hpl2 : p.length = pl := by rw [← hpl, ← size_list]
  by_cases q4 : p.length ≤ 1024
  case neg =>
    have g1 : (1024 : Int) < (p.length : Int) := by omega
    have HF := Lib.hid (HRN.out (HNM.out.2.2.2.1 q4))
    clear q1 q2 q3 q4 hpl hpl2
    go_wp2_with fail
    refine (HSF.out w1).mono ?_
    rintro e w2 ⟨rfl, hw2⟩
    subst hw2
    go_wp2
    go_ret
    exact ⟨by (rw [← HRE.out, HF.out]) <;> rfl, HB1.out.1⟩
  have g1 : ¬ (1024 : Int) < (p.length : Int) := by omega
  have HNY := Lib.hid (HNM.out.2.2.2.2 q1 q2 q3 q4)
  clear q1 q2 q3 q4 hpl hpl2
  go_wp2_with fail
  refine (HSF.out w1).mono ?_
  rintro e w2 ⟨rfl, hw2⟩
  subst hw2
  have c1 : w2.cell? ⟨g, 1, none⟩ = some (.string ⟨m.toArray⟩) := HB1.out.2.cell 1 _ rfl
  go_wp2_with fail
  refine (HPA.out w2 HB1.out.1).mono ?_
  rintro e w3 ⟨ao, cap, rfl, hpi, hb3⟩
  clear c0 c1 b1 b2 e1 e2 g1
  obtain ⟨W3, hW3⟩ : ∃ W3, w3.alloc (.cells #[.string ⟨ty.toArray⟩, .string ⟨sub.toArray⟩, .slice ao ps.length cap] 131) = W3 := ⟨_, rfl⟩
  have hb33 : Below w3.heap.size w3 W3 := by rw [← hW3]; exact (Below.refl _ w3).alloc (Nat.le_refl _) _
  have hb03 : Below w.heap.size w W3 := (HB1.out.1.trans (hb3.mono HB1.out.1.size)).trans (hb33.mono (Nat.le_trans HB1.out.1.size hb3.size))
  have HB3 := Lib.hid (And.intro hb03 (And.intro ((HB1.out.2.later hb3).later hb33) (And.intro (show BlkIs W3 w3.heap.size _ 131 by rw [← hW3]; exact blkIs_new _ _ _) (hpi.below hb33))))
  have HW3 := Lib.hid hW3
  clear hW3 hb3 hb33 hb03 hpi
  go_upto_region 5 with fail
  rw [HW3.out]
  have d0 : W3.cell? ⟨w3.heap.size, 0, none⟩ = some (.string ⟨ty.toArray⟩) := HB3.out.2.2.1.cell 0 _ rfl
  have d1 : W3.cell? ⟨w3.heap.size, 1, none⟩ = some (.string ⟨sub.toArray⟩) := HB3.out.2.2.1.cell 1 _ rfl
  have d2 : W3.cell? ⟨w3.heap.size, 2, none⟩ = some (.slice ao ps.length cap) := HB3.out.2.2.1.cell 2 _ rfl
  go_wp2_with fail
  refine (HPR.out W3 _ HB3.out.1 HB3.out.2.2.2).mono ?_
  rintro e w4 ⟨rfl, hb4⟩
  have HB4 := Lib.hid (And.intro (HB3.out.1.trans (hb4.mono HB3.out.1.size)) (HB3.out.2.1.later hb4))
  clear hb4 d0 d1 d2
  have c1 : w4.cell? ⟨g, 1, none⟩ = some (.string ⟨m.toArray⟩) := HB4.out.2.cell 1 _ rfl
  by_cases q1 : pe = 0
  case neg =>
    obtain ⟨b1, b2⟩ := nz_int pe q1
    have HF := Lib.hid (HRM.out (by show mdOk m = false; rw [HMO.out, decide_eq_false q1]; rfl))
    clear q1
    go_wp2
    go_ret
    exact ⟨by (rw [← HRE.out, HF.out]) <;> rfl, HB4.out.1⟩
  obtain ⟨b1, b2⟩ := z_int pe q1
  by_cases q2 : pe2 = 0
  case neg =>
    obtain ⟨b3, b4⟩ := nz_int pe2 q2
    have HF := Lib.hid (HRM.out (by show mdOk m = false; rw [HMO.out, decide_eq_false q2]; simp))
    clear q1 q2
    go_wp2
    go_ret
    exact ⟨by (rw [← HRE.out, HF.out]) <;> rfl, HB4.out.1⟩
  obtain ⟨b3, b4⟩ := z_int pe2 q2
  by_cases q3 : pr = m
  case neg =>
    have e1 : (pr == m) = false := by simpa using q3
    have e2 : (pr != m) = true := by simpa using q3
    have HF := Lib.hid (HRM.out (by show mdOk m = false; rw [HMO.out, decide_eq_false q3]; simp))
    clear q1 q2 q3
    go_wp2
    go_ret
    exact ⟨by (rw [← HRE.out, HF.out]) <;> rfl, HB4.out.1⟩
  have e1 : (pr == m) = true := by simpa using q3
  have e2 : (pr != m) = false := by simpa using q3
  have HRF := Lib.hid (HRR.out HNY.out (by show mdOk m = true; rw [HMO.out, decide_eq_true q1, decide_eq_true q2, decide_eq_true q3]; rfl))
  clear q1 q2 q3
  go_upto_region 8 with fail
  clear c1 b1 b2 b3 b4 e1 e2
  have HD := Lib.hid (And.intro HB4.out.1.drew (HB4.out.2.later ((Below.refl _ w4).drew)))
  go_cut [8] (fun s8 wx => s8 = .bool (cdOk c) ∧ Below w.heap.size w wx ∧ BlkIs wx g (fC p m c l b t) 46)
  case first =>
    rename_i J0 K0 hJ0 hK0
    have HJ0 := Lib.hid hJ0; have HK0 := Lib.hid hK0
    clear hJ0 hK0
    by_cases q1 : c = []
    · subst q1
      have HCD := Lib.hid (show cdOk [] = true from rfl)
      refine wp_region_textH (fun w' => BlkIs w' g (fC p m [] l b t) 46) [(0, true), (1, true), (2, true), (3, true), (4, true), (5, true), (6, true), (7, true), (8, true), (9, true), (10, true), (11, true), (12, true), (13, true), (14, true), (15, true), (16, true), (17, true), (18, true), (19, true), (20, true), (21, true)] (by kernel_rfl) (by kernel_rfl) (by kernel_rfl) (by kernel_rfl) HD.out.2 ?_
      refine wpTxH_take rfl (by kernel_rfl) (v := ?_) ?_ ?_; rotate_left; · (intro W hS; have s2 := hS.cell 2 _ rfl; clear hS; go_simp; with_reducible rfl)
      refine wpTxH_take rfl (by kernel_rfl) (v := ?_) ?_ ?_; rotate_left; · (intro W hS; have s2 := hS.cell 2 _ rfl; clear hS; go_simp; with_reducible rfl)
      refine wpTxH_take rfl (by kernel_rfl) (v := ?_) ?_ ?_; rotate_left; · (intro W hS; have s2 := hS.cell 2 _ rfl; clear hS; go_simp; with_reducible rfl)
      refine wpTxH_take rfl (by kernel_rfl) (v := ?_) ?_ ?_; rotate_left; · (intro W hS; have s2 := hS.cell 2 _ rfl; clear hS; go_simp; with_reducible rfl)
      refine wtxH_passS rfl (by kernel_rfl) ?_
      refine wtxH_passS rfl (by kernel_rfl) ?_
      refine wtxH_passS rfl (by kernel_rfl) ?_
      refine wtxH_passS rfl (by kernel_rfl) ?_
      refine wtxH_passS rfl (by kernel_rfl) ?_
      refine wtxH_passS rfl (by kernel_rfl) ?_
      refine wtxH_passS rfl (by kernel_rfl) ?_
      refine wtxH_passS rfl (by kernel_rfl) ?_
      refine wtxH_passS rfl (by kernel_rfl) ?_
      refine wtxH_passS rfl (by kernel_rfl) ?_
      refine wtxH_passS rfl (by kernel_rfl) ?_
      refine wtxH_passS rfl (by kernel_rfl) ?_
      refine wtxH_passS rfl (by kernel_rfl) ?_
      refine wtxH_passS rfl (by kernel_rfl) ?_
      refine wtxH_passS rfl (by kernel_rfl) ?_
      refine wtxH_passS rfl (by kernel_rfl) ?_
      refine wpTxH_take rfl (by kernel_rfl) (v := ?_) ?_ ?_; rotate_left; · (intro W hS; have s2 := hS.cell 2 _ rfl; clear hS; go_simp; with_reducible rfl)
      refine wpTxH_take rfl (by kernel_rfl) (v := ?_) ?_ ?_; rotate_left; · (intro W hS; have s2 := hS.cell 2 _ rfl; clear hS; go_simp; with_reducible rfl)
      refine wpTxH_nil ?_
      go_simp
      refine HK0.out _ _ (Met.intro (HJ0.out _ _ ?_))
      (repeat apply Exists.intro)
      refine ⟨?_, rfl⟩
      exact ⟨by (rw [HCD.out]) <;> rfl, HD.out.1, HD.out.2⟩
    have e0 : (c == []) = false := by simpa using q1
    have e0' : c.isEmpty = false := by simpa using q1
    have hcd : cdOk c = (isTok c && (decide (lowL c = c) && !decide (c = idnL))) := by unfold cdOk; rw [e0']; rfl
    cases q2 : isTok c with
    | false =>
      rw [q2] at HTK hcd
      have HCD := Lib.hid (show cdOk c = false from hcd)
      clear hcd q2
      refine wp_region_textH (fun w' => BlkIs w' g (fC p m c l b t) 46) [(0, true), (1, true), (2, true), (3, true), (4, true), (5, true), (6, false), (7, true), (8, true), (9, true), (10, true), (11, true), (12, true), (13, true), (14, true), (15, true), (16, true), (17, true), (18, true), (19, true), (20, true), (21, true)] (by kernel_rfl) (by kernel_rfl) (by kernel_rfl) (by kernel_rfl) HD.out.2 ?_
      refine wpTxH_take rfl (by kernel_rfl) (v := ?_) ?_ ?_; rotate_left; · (intro W hS; have s2 := hS.cell 2 _ rfl; clear hS; go_simp; with_reducible rfl)
      refine wpTxH_take rfl (by kernel_rfl) (v := ?_) ?_ ?_; rotate_left; · (intro W hS; have s2 := hS.cell 2 _ rfl; clear hS; go_simp; with_reducible rfl)
      refine wpTxH_take rfl (by kernel_rfl) (v := ?_) ?_ ?_; rotate_left; · (intro W hS; have s2 := hS.cell 2 _ rfl; clear hS; go_simp; with_reducible rfl)
      refine wpTxH_take rfl (by kernel_rfl) (v := ?_) ?_ ?_; rotate_left; · (intro W hS; have s2 := hS.cell 2 _ rfl; clear hS; go_simp; with_reducible rfl)
      refine wpTxH_take rfl (by kernel_rfl) (v := ?_) ?_ ?_; rotate_left; · (intro W hS; have s2 := hS.cell 2 _ rfl; clear hS; go_simp; with_reducible rfl)
      refine wpTxH_take rfl (by kernel_rfl) (v := ?_) ?_ ?_; rotate_left; · (intro W hS; have s2 := hS.cell 2 _ rfl; clear hS; go_simp; with_reducible rfl)
      refine wpTxH_step rfl (fun K hK => ?_)
      go_simp
      refine (HTK.out _ HD.out.1).mono ?_
      rintro e w5 ⟨rfl, hw5⟩
      subst hw5
      refine hK _ _ HD.out.2 ?_
      clear hK K
      refine wpTxH_take rfl (by kernel_rfl) (v := ?_) ?_ ?_; rotate_left; · (intro W hS; have s2 := hS.cell 2 _ rfl; clear hS; go_simp; with_reducible rfl)
      refine wtxH_passS rfl (by kernel_rfl) ?_
      refine wtxH_passS rfl (by kernel_rfl) ?_
      refine wtxH_passS rfl (by kernel_rfl) ?_
      refine wtxH_passS rfl (by kernel_rfl) ?_
      refine wtxH_passS rfl (by kernel_rfl) ?_
      refine wtxH_passS rfl (by kernel_rfl) ?_
      refine wpTxH_take rfl (by kernel_rfl) (v := ?_) ?_ ?_; rotate_left; · (intro W hS; have s2 := hS.cell 2 _ rfl; clear hS; go_simp; with_reducible rfl)
      refine wpTxH_take rfl (by kernel_rfl) (v := ?_) ?_ ?_; rotate_left; · (intro W hS; have s2 := hS.cell 2 _ rfl; clear hS; go_simp; with_reducible rfl)
      refine wtxH_passS rfl (by kernel_rfl) ?_
      refine wtxH_passS rfl (by kernel_rfl) ?_
      refine wtxH_passS rfl (by kernel_rfl) ?_
      refine wpTxH_take rfl (by kernel_rfl) (v := ?_) ?_ ?_; rotate_left; · (intro W hS; have s2 := hS.cell 2 _ rfl; clear hS; go_simp; with_reducible rfl)
      refine wpTxH_take rfl (by kernel_rfl) (v := ?_) ?_ ?_; rotate_left; · (intro W hS; have s2 := hS.cell 2 _ rfl; clear hS; go_simp; with_reducible rfl)
      refine wpTxH_take rfl (by kernel_rfl) (v := ?_) ?_ ?_; rotate_left; · (intro W hS; have s2 := hS.cell 2 _ rfl; clear hS; go_simp; with_reducible rfl)
      refine wpTxH_nil ?_
      go_simp
      refine HK0.out _ _ (Met.intro (HJ0.out _ _ ?_))
      (repeat apply Exists.intro)
      refine ⟨?_, rfl⟩
      exact ⟨by (rw [HCD.out]) <;> rfl, HD.out.1, HD.out.2⟩
    | true =>
    rw [q2] at HTK hcd
    by_cases q3 : lowL c = c
    case neg =>
      have e1 : (lowL c == c) = false := by simpa using q3
      have HCD := Lib.hid (show cdOk c = false by rw [hcd, decide_eq_false q3]; rfl)
      clear hcd q2 q3
      refine wp_region_textH (fun w' => BlkIs w' g (fC p m c l b t) 46) [(0, true), (1, true), (2, true), (3, true), (4, true), (5, true), (6, false), (7, true), (8, true), (9, true), (11, true), (12, true), (10, false), (13, true), (14, true), (15, true), (16, true), (17, true), (18, true), (19, true), (20, true), (21, true)] (by kernel_rfl) (by kernel_rfl) (by kernel_rfl) (by kernel_rfl) HD.out.2 ?_
      refine wpTxH_take rfl (by kernel_rfl) (v := ?_) ?_ ?_; rotate_left; · (intro W hS; have s2 := hS.cell 2 _ rfl; clear hS; go_simp; with_reducible rfl)
      refine wpTxH_take rfl (by kernel_rfl) (v := ?_) ?_ ?_; rotate_left; · (intro W hS; have s2 := hS.cell 2 _ rfl; clear hS; go_simp; with_reducible rfl)
      refine wpTxH_take rfl (by kernel_rfl) (v := ?_) ?_ ?_; rotate_left; · (intro W hS; have s2 := hS.cell 2 _ rfl; clear hS; go_simp; with_reducible rfl)
      refine wpTxH_take rfl (by kernel_rfl) (v := ?_) ?_ ?_; rotate_left; · (intro W hS; have s2 := hS.cell 2 _ rfl; clear hS; go_simp; with_reducible rfl)
      refine wpTxH_take rfl (by kernel_rfl) (v := ?_) ?_ ?_; rotate_left; · (intro W hS; have s2 := hS.cell 2 _ rfl; clear hS; go_simp; with_reducible rfl)
      refine wpTxH_take rfl (by kernel_rfl) (v := ?_) ?_ ?_; rotate_left; · (intro W hS; have s2 := hS.cell 2 _ rfl; clear hS; go_simp; with_reducible rfl)
      refine wpTxH_step rfl (fun K hK => ?_)
      go_simp
      refine (HTK.out _ HD.out.1).mono ?_
      rintro e w5 ⟨rfl, hw5⟩
      subst hw5
      refine hK _ _ HD.out.2 ?_
      clear hK K
      refine wpTxH_take rfl (by kernel_rfl) (v := ?_) ?_ ?_; rotate_left; · (intro W hS; have s2 := hS.cell 2 _ rfl; clear hS; go_simp; with_reducible rfl)
      refine wpTxH_take rfl (by kernel_rfl) (v := ?_) ?_ ?_; rotate_left; · (intro W hS; have s2 := hS.cell 2 _ rfl; clear hS; go_simp; with_reducible rfl)
      refine wpTxH_take rfl (by kernel_rfl) (v := ?_) ?_ ?_; rotate_left; · (intro W hS; have s2 := hS.cell 2 _ rfl; clear hS; go_simp; with_reducible rfl)
      refine wpTxH_take rfl (by kernel_rfl) (v := ?_) ?_ ?_; rotate_left; · (intro W hS; have s2 := hS.cell 2 _ rfl; clear hS; go_simp; with_reducible rfl)
      refine wpTxH_take rfl (by kernel_rfl) (v := ?_) ?_ ?_; rotate_left; · (intro W hS; have s2 := hS.cell 2 _ rfl; clear hS; go_simp; with_reducible rfl)
      refine wpTxH_step rfl (fun K hK => ?_)
      go_simp
      refine (HLW.out _).mono ?_
      rintro e w6 ⟨rfl, hb6⟩
      have HB6 := Lib.hid (And.intro (HD.out.1.trans (hb6.mono HD.out.1.size)) (HD.out.2.later hb6))
      refine hK _ _ HB6.out.2 ?_
      clear hK K hb6
      refine wpTxH_take rfl (by kernel_rfl) (v := ?_) ?_ ?_; rotate_left; · (intro W hS; have s2 := hS.cell 2 _ rfl; clear hS; go_simp; with_reducible rfl)
      refine wpTxH_take rfl (by kernel_rfl) (v := ?_) ?_ ?_; rotate_left; · (intro W hS; have s2 := hS.cell 2 _ rfl; clear hS; go_simp; with_reducible rfl)
      refine wpTxH_take rfl (by kernel_rfl) (v := ?_) ?_ ?_; rotate_left; · (intro W hS; have s2 := hS.cell 2 _ rfl; clear hS; go_simp; with_reducible rfl)
      refine wtxH_passS rfl (by kernel_rfl) ?_
      refine wtxH_passS rfl (by kernel_rfl) ?_
      refine wtxH_passS rfl (by kernel_rfl) ?_
      refine wpTxH_take rfl (by kernel_rfl) (v := ?_) ?_ ?_; rotate_left; · (intro W hS; have s2 := hS.cell 2 _ rfl; clear hS; go_simp; with_reducible rfl)
      refine wpTxH_take rfl (by kernel_rfl) (v := ?_) ?_ ?_; rotate_left; · (intro W hS; have s2 := hS.cell 2 _ rfl; clear hS; go_simp; with_reducible rfl)
      refine wpTxH_take rfl (by kernel_rfl) (v := ?_) ?_ ?_; rotate_left; · (intro W hS; have s2 := hS.cell 2 _ rfl; clear hS; go_simp; with_reducible rfl)
      refine wpTxH_nil ?_
      go_simp
      refine HK0.out _ _ (Met.intro (HJ0.out _ _ ?_))
      (repeat apply Exists.intro)
      refine ⟨?_, rfl⟩
      exact ⟨by (rw [HCD.out]) <;> rfl, HB6.out.1, HB6.out.2⟩
    have e1 : (lowL c == c) = true := by simpa using q3
    have HCD := Lib.hid (show cdOk c = (c != idnL) by rw [hcd, decide_eq_true q3]; show (!decide (c = idnL)) = (c != idnL); unfold bne; congr 1; rw [Bool.eq_iff_iff]; simp)
    clear hcd q2 q3
    refine wp_region_textH (fun w' => BlkIs w' g (fC p m c l b t) 46) [(0, true), (1, true), (2, true), (3, true), (4, true), (5, true), (6, false), (7, true), (8, true), (9, true), (11, true), (12, true), (10, false), (13, true), (14, true), (15, true), (16, true), (17, true), (18, true), (19, true), (20, true), (21, true)] (by kernel_rfl) (by kernel_rfl) (by kernel_rfl) (by kernel_rfl) HD.out.2 ?_
    refine wpTxH_take rfl (by kernel_rfl) (v := ?_) ?_ ?_; rotate_left; · (intro W hS; have s2 := hS.cell 2 _ rfl; clear hS; go_simp; with_reducible rfl)
    refine wpTxH_take rfl (by kernel_rfl) (v := ?_) ?_ ?_; rotate_left; · (intro W hS; have s2 := hS.cell 2 _ rfl; clear hS; go_simp; with_reducible rfl)
    refine wpTxH_take rfl (by kernel_rfl) (v := ?_) ?_ ?_; rotate_left; · (intro W hS; have s2 := hS.cell 2 _ rfl; clear hS; go_simp; with_reducible rfl)
    refine wpTxH_take rfl (by kernel_rfl) (v := ?_) ?_ ?_; rotate_left; · (intro W hS; have s2 := hS.cell 2 _ rfl; clear hS; go_simp; with_reducible rfl)
    refine wpTxH_take rfl (by kernel_rfl) (v := ?_) ?_ ?_; rotate_left; · (intro W hS; have s2 := hS.cell 2 _ rfl; clear hS; go_simp; with_reducible rfl)
    refine wpTxH_take rfl (by kernel_rfl) (v := ?_) ?_ ?_; rotate_left; · (intro W hS; have s2 := hS.cell 2 _ rfl; clear hS; go_simp; with_reducible rfl)
    refine wpTxH_step rfl (fun K hK => ?_)
    go_simp
    refine (HTK.out _ HD.out.1).mono ?_
    rintro e w5 ⟨rfl, hw5⟩
    subst hw5
    refine hK _ _ HD.out.2 ?_
    clear hK K
    refine wpTxH_take rfl (by kernel_rfl) (v := ?_) ?_ ?_; rotate_left; · (intro W hS; have s2 := hS.cell 2 _ rfl; clear hS; go_simp; with_reducible rfl)
    refine wpTxH_take rfl (by kernel_rfl) (v := ?_) ?_ ?_; rotate_left; · (intro W hS; have s2 := hS.cell 2 _ rfl; clear hS; go_simp; with_reducible rfl)
    refine wpTxH_take rfl (by kernel_rfl) (v := ?_) ?_ ?_; rotate_left; · (intro W hS; have s2 := hS.cell 2 _ rfl; clear hS; go_simp; with_reducible rfl)
    refine wpTxH_take rfl (by kernel_rfl) (v := ?_) ?_ ?_; rotate_left; · (intro W hS; have s2 := hS.cell 2 _ rfl; clear hS; go_simp; with_reducible rfl)
    refine wpTxH_take rfl (by kernel_rfl) (v := ?_) ?_ ?_; rotate_left; · (intro W hS; have s2 := hS.cell 2 _ rfl; clear hS; go_simp; with_reducible rfl)
    refine wpTxH_step rfl (fun K hK => ?_)
    go_simp
    refine (HLW.out _).mono ?_
    rintro e w6 ⟨rfl, hb6⟩
    have HB6 := Lib.hid (And.intro (HD.out.1.trans (hb6.mono HD.out.1.size)) (HD.out.2.later hb6))
    refine hK _ _ HB6.out.2 ?_
    clear hK K hb6
    refine wpTxH_take rfl (by kernel_rfl) (v := ?_) ?_ ?_; rotate_left; · (intro W hS; have s2 := hS.cell 2 _ rfl; clear hS; go_simp; with_reducible rfl)
    refine wpTxH_take rfl (by kernel_rfl) (v := ?_) ?_ ?_; rotate_left; · (intro W hS; have s2 := hS.cell 2 _ rfl; clear hS; go_simp; with_reducible rfl)
    refine wpTxH_take rfl (by kernel_rfl) (v := ?_) ?_ ?_; rotate_left; · (intro W hS; have s2 := hS.cell 2 _ rfl; clear hS; go_simp; with_reducible rfl)
    refine wpTxH_take rfl (by kernel_rfl) (v := ?_) ?_ ?_; rotate_left; · (intro W hS; have s2 := hS.cell 2 _ rfl; clear hS; go_simp; with_reducible rfl)
    refine wpTxH_take rfl (by kernel_rfl) (v := ?_) ?_ ?_; rotate_left; · (intro W hS; have s2 := hS.cell 2 _ rfl; clear hS; go_simp; with_reducible rfl)
    refine wpTxH_take rfl (by kernel_rfl) (v := ?_) ?_ ?_; rotate_left; · (intro W hS; have s2 := hS.cell 2 _ rfl; clear hS; go_simp; with_reducible rfl)
    refine wpTxH_take rfl (by kernel_rfl) (v := ?_) ?_ ?_; rotate_left; · (intro W hS; have s2 := hS.cell 2 _ rfl; clear hS; go_simp; with_reducible rfl)
    refine wpTxH_take rfl (by kernel_rfl) (v := ?_) ?_ ?_; rotate_left; · (intro W hS; have s2 := hS.cell 2 _ rfl; clear hS; go_simp; with_reducible rfl)
    refine wpTxH_take rfl (by kernel_rfl) (v := ?_) ?_ ?_; rotate_left; · (intro W hS; have s2 := hS.cell 2 _ rfl; clear hS; go_simp; with_reducible rfl)
    refine wpTxH_nil ?_
    go_simp
    refine HK0.out _ _ (Met.intro (HJ0.out _ _ ?_))
    (repeat apply Exists.intro)
    refine ⟨?_, rfl⟩
    exact ⟨by (rw [HCD.out]) <;> rfl, HB6.out.1, HB6.out.2⟩
  case rest =>
  obtain ⟨rfl, hb5, hB5⟩ := hcut
  have HB5 := Lib.hid (And.intro hb5 hB5)
  clear hb5 hB5
  have c5 : wc.cell? ⟨g, 5, none⟩ = some (.int .i64 t) := HB5.out.2.cell 5 _ rfl
  go_upto_region 9 with fail
  go_cut [9] (fun s9 wx => s9 = .bool (tmOk t) ∧ wc = wx)
  case first =>
    have HTM := Lib.hid (show tmOk t = (decide (t = -1) || (decide (-62135596800 ≤ t) && decide (t ≤ 253402300799))) from rfl)
    by_cases q1 : t = -1
    · have b1 : (t == -1) = true := by simpa using q1
      have HX := Lib.hid (show tmOk t = true by rw [HTM.out, decide_eq_true q1]; rfl)
      clear q1
      go_wp2_with fail
      go_meet
      exact ⟨by rw [HX.out], by first | rfl | trivial⟩
    have b1 : (t == -1) = false := by simpa using q1
    by_cases q2 : -62135596800 ≤ t
    case neg =>
      have HX := Lib.hid (show tmOk t = false by rw [HTM.out, decide_eq_false q1, decide_eq_false q2]; rfl)
      clear q1
      go_wp2_with fail
      go_meet
      exact ⟨by rw [HX.out], by first | rfl | trivial⟩
    by_cases q3 : t ≤ 253402300799
    · have HX := Lib.hid (show tmOk t = true by rw [HTM.out, decide_eq_false q1, decide_eq_true q2, decide_eq_true q3]; rfl)
      clear q1
      go_wp2_with fail
      go_meet
      exact ⟨by rw [HX.out], by first | rfl | trivial⟩
    · have HX := Lib.hid (show tmOk t = false by rw [HTM.out, decide_eq_false q1, decide_eq_true q2, decide_eq_false q3]; rfl)
      clear q1
      go_wp2_with fail
      go_meet
      exact ⟨by rw [HX.out], by first | rfl | trivial⟩
  case rest =>
  obtain ⟨rfl, rfl⟩ := hcut
  clear c5
  have c3 : wc.cell? ⟨g, 3, none⟩ = some (.string ⟨l.toArray⟩) := HB5.out.2.cell 3 _ rfl
  have HRX := Lib.hid (show R = (cdOk c && (tmOk t && lgOk l)) by rw [← HRE.out]; exact HRF.out)
  cases q1 : cdOk c with
  | false =>
    have HX := Lib.hid (show R = false by rw [HRX.out, q1]; rfl)
    clear q1
    go_wp2
    go_ret
    exact ⟨by (rw [HX.out]) <;> rfl, HB5.out.1⟩
  | true =>
  cases q2 : tmOk t with
  | false =>
    have HX := Lib.hid (show R = false by rw [HRX.out, q1, q2]; rfl)
    clear q1 q2
    go_wp2
    go_ret
    exact ⟨by (rw [HX.out]) <;> rfl, HB5.out.1⟩
  | true =>
  by_cases q3 : l = []
  · subst q3
    have HX := Lib.hid (show R = true by rw [HRX.out, q1, q2]; rfl)
    clear q1 q2
    go_wp2
    go_ret
    exact ⟨by (rw [HX.out]) <;> rfl, HB5.out.1⟩
  have e0 : (l == []) = false := by simpa using q3
  have HX := Lib.hid (show R = lanOk l by rw [HRX.out, q1, q2]; unfold lgOk; rw [show l.isEmpty = false by simpa using q3]; rfl)
  clear q1 q2 q3
  go_wp2_with fail
  refine (HLA.out _ HB5.out.1).mono ?_
  rintro e w7 ⟨rfl, hb7⟩
  have HB7 := Lib.hid (HB5.out.1.trans (hb7.mono HB5.out.1.size))
  clear hb7
  go_wp2
  go_ret
  exact ⟨by (rw [HX.out]) <;> rfl, HB7.out⟩
end Go.Proofs.YtpdbejeiceodkaaGreatDoor
