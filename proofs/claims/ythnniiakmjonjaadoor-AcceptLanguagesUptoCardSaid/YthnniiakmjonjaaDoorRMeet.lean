/- The walk of turnpikeref07.Meets: the plain function meetsP. Conditions: each of the two has at most 2^30 bytes and parameters. -/
import Derived.Test.YthnniiakmjonjaaDoorMda
import Derived.Deep.DeepCutAuto
namespace Go.Proofs.YthnniiakmjonjaaDoor
open Go.RowKit
set_option linter.unusedSimpArgs false
set_option linter.unusedVariables false
set_option maxRecDepth 1000000
theorem blk2 (w : World) (a b : Array Value) (T S : TypeId) : BlkIs ((w.alloc (.cells a T)).alloc (.cells b S)).drew w.heap.size a T ∧ BlkIs ((w.alloc (.cells a T)).alloc (.cells b S)).drew (w.heap.size + 1) b S := by
  have h1 : BlkIs ((w.alloc (.cells a T)).alloc (.cells b S)) w.heap.size a T := (blkIs_new w a T).alloc _
  have h2 : BlkIs ((w.alloc (.cells a T)).alloc (.cells b S)) (w.heap.size + 1) b S := by
    have := blkIs_new (w.alloc (.cells a T)) b S
    simpa using this
  exact ⟨h1, h2⟩
theorem bel2 (w : World) (A B : Obj) : Below w.heap.size w ((w.alloc A).alloc B).drew := (((Below.refl _ w).alloc (Nat.le_refl _) A).alloc (alloc_le (Nat.le_refl _) A) B).drew
set_option maxHeartbeats 8000000 in
theorem rmeets_any (r m : Mdm) (rv mv : Value) (w : World) (hr : mdmLen r ≤ 1073741824) (hm : mdmLen m ≤ 1073741824) (h1 : ParsIn w rv r.ps) (h2 : ParsIn w mv m.ps) :
    Calls Tryd.prog 24 #[.agg #[.string ⟨r.ty.toArray⟩, .string ⟨r.sub.toArray⟩, rv], .agg #[.string ⟨m.ty.toArray⟩, .string ⟨m.sub.toArray⟩, mv]] w fun e w' => e = .returned (.bool (meetsP r m)) ∧ Below w.heap.size w w' := by
  obtain ⟨rty, rsub, rps⟩ := r
  obtain ⟨mty, msub, mps⟩ := m
  have hbr := mdm_bd _ hr
  have hbm := mdm_bd _ hm
  simp only at hbr hbm h1 h2
  have hrel : MtRel w.heap.size (w.heap.size + 1) w ⟨rty, rsub, rps⟩ ⟨mty, msub, mps⟩ rv mv ((w.alloc (medO ⟨rty, rsub, rps⟩ rv 30)).alloc (medO ⟨mty, msub, mps⟩ mv 30)) :=
    ⟨((Below.refl _ w).alloc (Nat.le_refl _) _).alloc (by simp) _, (med3_new w _ rv 30).alloc _, by have := med3_new (w.alloc (medO ⟨rty, rsub, rps⟩ rv 30)) ⟨mty, msub, mps⟩ mv 30; simpa using this⟩
  obtain ⟨ao, cap, rfl, hat⟩ := h1
  obtain ⟨ao2, cap2, rfl, hat2⟩ := h2
  have HAT := Lib.hid hat; have HMT := Lib.hid hat2
  have HBR := Lib.hid hbr; have HBM := Lib.hid hbm
  have HREL := Lib.hid hrel
  have hN := hbr.2.2.1
  have hM := hbm.2.2.1
  clear hat hat2 hbr hbm hr hm hrel
  have S1 := fun w => rsame_any rty mty w HBR.out.1 HBM.out.1
  have S2 := fun w => rsame_any rsub msub w HBR.out.2.1 HBM.out.2.1
  go_enter Tryd.func24, Tryd.ntmps24
  go_upto_region 1 with fail
  go_cut [33] (fun s30 wx => s30 = .bool (!(tyOk rty mty && tyOk rsub msub)) ∧ MtRel w.heap.size (w.heap.size + 1) w ⟨rty, rsub, rps⟩ ⟨mty, msub, mps⟩ (.slice ao rps.length cap) (.slice ao2 mps.length cap2) wx)
  case first =>
    by_cases ht : rty = [42]
    · by_cases hs : rsub = [42]
      · have HT := Lib.hid (show (tyOk rty mty && tyOk rsub msub) = true by rw [ht, hs]; rfl)
        have hbe : (rty == [42]) = true := by rw [ht]; rfl
        have hbe2 : (rsub == [42]) = true := by rw [hs]; rfl
        clear ht hs S1 S2
        go_wp2_with fail
        go_meet
        exact ⟨by rw [HT.out]; rfl, HREL.out⟩
      · have hbe : (rty == [42]) = true := by rw [ht]; rfl
        have hbe2 : (rsub == [42]) = false := beq_false_of_ne hs
        cases hq : sameL rsub msub
        all_goals
          have HT := Lib.hid (show (tyOk rty mty && tyOk rsub msub) = _ by rw [ht, tyOk_not _ _ hs, hq])
          rw [hq] at S2
          have HS2 := Lib.hid S2
          clear S2 S1 hq hs ht
          go_wp2_with fail
          refine (HS2.out _).mono ?_
          rintro e w3 ⟨rfl, hb3⟩
          have HR3 := Lib.hid (HREL.out.later hb3)
          clear hb3
          go_wp2_with fail
          go_meet
          exact ⟨by rw [HT.out]; rfl, HR3.out⟩
    · have hbe : (rty == [42]) = false := beq_false_of_ne ht
      cases hq : sameL rty mty with
      | false =>
        have HT := Lib.hid (show (tyOk rty mty && tyOk rsub msub) = false by rw [tyOk_not _ _ ht, hq]; rfl)
        rw [hq] at S1
        have HS1 := Lib.hid S1
        clear S2 S1 hq ht
        go_wp2_with fail
        refine (HS1.out _).mono ?_
        rintro e w3 ⟨rfl, hb3⟩
        have HR3 := Lib.hid (HREL.out.later hb3)
        clear hb3
        go_wp2_with fail
        go_meet
        exact ⟨by rw [HT.out]; rfl, HR3.out⟩
      | true =>
        rw [hq] at S1
        have HS1 := Lib.hid S1
        have hty : tyOk rty mty = true := by rw [tyOk_not _ _ ht, hq]
        clear S1 hq ht
        by_cases hs : rsub = [42]
        · have HT := Lib.hid (show (tyOk rty mty && tyOk rsub msub) = true by rw [hty, hs]; rfl)
          have hbe2 : (rsub == [42]) = true := by rw [hs]; rfl
          clear S2 hs hty
          go_wp2_with fail
          refine (HS1.out _).mono ?_
          rintro e w3 ⟨rfl, hb3⟩
          have hR3 := HREL.out.later hb3
          have HR3 := Lib.hid hR3
          obtain ⟨_, ⟨_, d1, _, _⟩, _, e1, _, _⟩ := hR3
          clear hb3
          go_wp2_with fail
          go_meet
          exact ⟨by rw [HT.out]; rfl, HR3.out⟩
        · have hbe2 : (rsub == [42]) = false := beq_false_of_ne hs
          cases hq2 : sameL rsub msub
          all_goals
            have HT := Lib.hid (show (tyOk rty mty && tyOk rsub msub) = _ by rw [hty, tyOk_not _ _ hs, hq2])
            rw [hq2] at S2
            have HS2 := Lib.hid S2
            clear S2 hq2 hs hty
            go_wp2_with fail
            refine (HS1.out _).mono ?_
            rintro e w3 ⟨rfl, hb3⟩
            have hR3 := HREL.out.later hb3
            have HR3 := Lib.hid hR3
            obtain ⟨_, ⟨_, d1, _, _⟩, _, e1, _, _⟩ := hR3
            clear hb3
            go_wp2_with fail
            refine (HS2.out _).mono ?_
            rintro e w4 ⟨rfl, hb4⟩
            have HR4 := Lib.hid (HR3.out.later hb4)
            clear hb4 d1 e1
            go_wp2_with fail
            go_meet
            exact ⟨by rw [HT.out]; rfl, HR4.out⟩
  case rest =>
  obtain ⟨rfl, hR⟩ := hcut
  clear S1 S2
  cases hA : (tyOk rty mty && tyOk rsub msub) with
  | false =>
    have HX := Lib.hid (And.intro (tyAnd_false ⟨rty, rsub, rps⟩ ⟨mty, msub, mps⟩ hA) hR.1)
    clear hA hR
    go_wp2
    go_ret
    rw [HX.out.1]
    exact ⟨rfl, HX.out.2⟩
  | true =>
    have HA := Lib.hid hA
    have HR := Lib.hid hR
    clear hA
    obtain ⟨_, ⟨_, _, d2, _⟩, _, _, e2, _⟩ := hR
    go_wp2
    go_loopw [5] (fun iv wr => ∃ i : Nat, iv = .int .i64 i ∧ i ≤ rps.length ∧ (rps.take i).all (hasP mps) = true ∧ MtRel w.heap.size (w.heap.size + 1) w ⟨rty, rsub, rps⟩ ⟨mty, msub, mps⟩ (.slice ao rps.length cap) (.slice ao2 mps.length cap2) wr) (fun iv _ => rps.length - (intOf iv).toNat)
    case atStart => exact ⟨0, rfl, Nat.zero_le _, rfl, HR.out⟩
    case round =>
      clear d2 e2
      obtain ⟨i, rfl, hi, hok, hR⟩ := hrel
      have HR := Lib.hid hR
      obtain ⟨_, ⟨_, _, d2, _⟩, _, _, e2, _⟩ := hR
      by_cases hlt : i < rps.length
      · obtain ⟨q, hq⟩ : ∃ q, rps[i]? = some q := ⟨_, List.getElem?_eq_getElem hlt⟩
        have k0 : (0 : Int) ≤ (i : Int) := Int.natCast_nonneg _
        have k1 : (i : Int) < (rps.length : Int) := by omega
        have hwi := wrap64_small i (small30 i _ hi hN)
        have HW := Lib.hid hwi
        have HQ := Lib.hid hq; have HOK := Lib.hid hok
        clear hq hok hwi
        go_wp2
        go_loopw [7, 6] (fun jv fv wr => ∃ (j : Nat) (f : Bool), jv = .int .i64 j ∧ fv = .bool f ∧ j ≤ mps.length ∧ (mps.take j).any (fun x => sameP x q) = f ∧ MtRel w.heap.size (w.heap.size + 1) w ⟨rty, rsub, rps⟩ ⟨mty, msub, mps⟩ (.slice ao rps.length cap) (.slice ao2 mps.length cap2) wr) (fun jv _ _ => mps.length - (intOf jv).toNat)
        case atStart => exact ⟨0, false, rfl, rfl, Nat.zero_le _, rfl, HR.out⟩
        case round =>
          clear d2 e2 HR
          obtain ⟨j, f, rfl, rfl, hj, hany, hR⟩ := hrel
          have HR := Lib.hid hR
          have HANY := Lib.hid hany
          obtain ⟨_, ⟨_, _, d2, l0⟩, _, _, e2, l1⟩ := hR
          clear hany
          by_cases hlj : j < mps.length
          · obtain ⟨x, hx⟩ : ∃ x, mps[j]? = some x := ⟨_, List.getElem?_eq_getElem hlj⟩
            obtain ⟨g, o, rfl, hg, c0, c1, c2⟩ := HAT.out.below HR.out.1 i q HQ.out
            obtain ⟨g2, o2, rfl, hg2, b0, b1, b2⟩ := HMT.out.below HR.out.1 j x hx
            have m0 : (0 : Int) ≤ (j : Int) := Int.natCast_nonneg _
            have m1 : (j : Int) < (mps.length : Int) := by omega
            have hwj := wrap64_small j (small30 j _ hj hM)
            have HWJ := Lib.hid hwj
            have hql := (HBR.out.2.2.2 i q HQ.out).1
            have hxl := (HBM.out.2.2.2 j x hx).1
            obtain ⟨q1, q2, q3⟩ := q
            obtain ⟨x1, x2, x3⟩ := x
            simp only at c0 c1 c2 b0 b1 b2 hql hxl
            have HX := Lib.hid hx
            clear hx hwj
            go_upto_region 10 with fail
            go_cut [8, 9] (fun s8 s9 wx => ∃ b8 b9, s8 = .pointer (some ⟨b8, 0, none⟩) ∧ s9 = .pointer (some ⟨b9, 0, none⟩) ∧ BlkIs wx b8 #[.string ⟨q1.toArray⟩, .string ⟨q2.toArray⟩, .bool q3] 109 ∧ BlkIs wx b9 #[.string ⟨x1.toArray⟩, .string ⟨x2.toArray⟩, .bool x3] 109 ∧ MtRel w.heap.size (w.heap.size + 1) w ⟨rty, rsub, rps⟩ ⟨mty, msub, mps⟩ (.slice (some ⟨g, o, none⟩) rps.length cap) (.slice (some ⟨g2, o2, none⟩) mps.length cap2) wx)
            case first =>
              go_region
              all_goals (go_wp2_with fail; go_meet)
              · exact ⟨_, _, rfl, rfl, (blk2 wr _ _ _ _).1, (blk2 wr _ _ _ _).2, HR.out.later (bel2 wr _ _)⟩
              · exact ⟨_, _, rfl, rfl, (blk2 wr _ _ _ _).2, (blk2 wr _ _ _ _).1, HR.out.later (bel2 wr _ _)⟩
            case rest =>
            obtain ⟨b8, b9, rfl, rfl, h8, h9, hR⟩ := hcut
            have n80 : wc.cell? ⟨b8, 0, none⟩ = some (.string ⟨q1.toArray⟩) := h8.cell 0 _ rfl
            have n90 : wc.cell? ⟨b9, 0, none⟩ = some (.string ⟨x1.toArray⟩) := h9.cell 0 _ rfl
            have H89 := Lib.hid (And.intro h8 h9)
            have HR1 := Lib.hid hR
            clear h8 h9 hR c0 c1 c2 b0 b1 b2 d2 e2 hg hg2 HR
            cases f with
            | true =>
              have HST := Lib.hid (show (mps.take (j + 1)).any (fun x => sameP x (q1, q2, q3)) = true by rw [take_any _ _ _ _ HX.out, HANY.out]; rfl)
              clear n80 n90
              go_wp2
              have hwj := HWJ.out
              go_roundw
              case rel => (try rw [hwj]); clear hwj; exact ⟨j + 1, true, by go_num, rfl, hlj, HST.out, HR1.out⟩
              case measure => (try rw [hwj]); clear hwj; simp [intOf]; omega
            | false =>
              have S3 := fun w => rsame_any q1 x1 w hql hxl
              cases hsm : sameL q1 x1 with
              | false =>
                have HST := Lib.hid (show (mps.take (j + 1)).any (fun x => sameP x (q1, q2, q3)) = false by rw [take_any _ _ _ _ HX.out, HANY.out]; unfold sameP; rw [sameL_comm, hsm]; rfl)
                rw [hsm] at S3
                have HS3 := Lib.hid S3
                clear S3 hsm hql hxl
                go_wp2_with fail
                refine (HS3.out _).mono ?_
                rintro e w3 ⟨rfl, hb3⟩
                have HR3 := Lib.hid (HR1.out.later hb3)
                clear hb3 n80 n90
                go_wp2
                have hwj := HWJ.out
                go_roundw
                case rel => (try rw [hwj]); clear hwj; exact ⟨j + 1, false, by go_num, rfl, hlj, HST.out, HR3.out⟩
                case measure => (try rw [hwj]); clear hwj; simp [intOf]; omega
              | true =>
                have hst : (mps.take (j + 1)).any (fun x => sameP x (q1, q2, q3)) = (q2 == x2) := by
                  rw [take_any _ _ _ _ HX.out, HANY.out]
                  unfold sameP
                  rw [sameL_comm, hsm, beq_dec]
                  simp [eq_comm]
                rw [hsm] at S3
                have HS3 := Lib.hid S3
                clear S3 hsm hql hxl
                cases hv : (q2 == x2)
                all_goals
                  rw [hv] at hst
                  have HST := Lib.hid hst
                  clear hst
                  go_wp2_with fail
                  refine (HS3.out _).mono ?_
                  rintro e w3 ⟨rfl, hb3⟩
                  have HR3 := Lib.hid (HR1.out.later hb3)
                  have n81 : w3.cell? ⟨b8, 1, none⟩ = some (.string ⟨q2.toArray⟩) := (H89.out.1.later hb3).cell 1 _ rfl
                  have n91 : w3.cell? ⟨b9, 1, none⟩ = some (.string ⟨x2.toArray⟩) := (H89.out.2.later hb3).cell 1 _ rfl
                  clear hb3 n80 n90
                  go_wp2
                  have hwj := HWJ.out
                  go_roundw
                  case rel => (try rw [hwj]); clear hwj; exact ⟨j + 1, _, by go_num, rfl, hlj, HST.out, HR3.out⟩
                  case measure => (try rw [hwj]); clear hwj; simp [intOf]; omega
          · obtain rfl : j = mps.length := by omega
            have hd : decide (mps.length < mps.length) = false := decide_eq_false (Nat.lt_irrefl _)
            have hany := HANY.out
            rw [List.take_length] at hany
            cases f with
            | false =>
              have HX := Lib.hid (And.intro (meets_ps ⟨rty, rsub, rps⟩ ⟨mty, msub, mps⟩ i q HQ.out hany) HR.out.1)
              clear hany HR
              go_wp2
              go_ret
              rw [HX.out.1]
              exact ⟨rfl, HX.out.2⟩
            | true =>
              have HST := Lib.hid (meets_step rps mps i q HQ.out HOK.out hany)
              clear hany
              go_wp2
              have hwi := HW.out
              go_roundw
              case rel => (try rw [hwi]); clear hwi; exact ⟨i + 1, by go_num, hlt, HST.out, HR.out⟩
              case measure => (try rw [hwi]); clear hwi; simp [intOf]; omega
      · obtain rfl : i = rps.length := by omega
        have hd : decide (rps.length < rps.length) = false := decide_eq_false (Nat.lt_irrefl _)
        rw [List.take_length] at hok
        have HX := Lib.hid (And.intro (tyAnd_true ⟨rty, rsub, rps⟩ ⟨mty, msub, mps⟩ 0 HA.out hok) HR.out.1)
        clear hok HR
        go_wp2
        go_ret
        rw [HX.out.1]
        exact ⟨rfl, HX.out.2⟩
end Go.Proofs.YthnniiakmjonjaaDoor
