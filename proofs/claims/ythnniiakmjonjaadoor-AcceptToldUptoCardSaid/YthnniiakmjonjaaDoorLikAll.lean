/- Meeting, liking and choosing: the walks of both sides (six texts in one). Conditions: at most 2^30 letters, parameters and elements. -/
import Derived.Test.YthnniiakmjonjaaDoorMda
import Derived.Deep.DeepCutAuto
import Derived.ChangeKeysEq
import Derived.Test.YthnniiakmjonjaaDoorRgs
namespace Go.Proofs.YthnniiakmjonjaaDoor
open Go.RowKit
set_option linter.unusedSimpArgs false
set_option linter.unusedVariables false
set_option maxRecDepth 1000000
theorem blk2 (w : World) (a b : Array Value) (T S : TypeId) : BlkIs ((w.alloc (.cells a T)).alloc (.cells b S)).drew w.heap.size a T ∧ BlkIs ((w.alloc (.cells a T)).alloc (.cells b S)).drew (w.heap.size + 1) b S := by
  have h1 : BlkIs ((w.alloc (.cells a T)).alloc (.cells b S)) w.heap.size a T := (blkIs_new w a T).alloc _
  have h2 : BlkIs ((w.alloc (.cells a T)).alloc (.cells b S)) (w.heap.size + 1) b S := by
    have := blkIs_new (w.alloc (.cells a T)) b S
    simpa using this
  exact ⟨h1, h2⟩
theorem bel2 (w : World) (A B : Obj) : Below w.heap.size w ((w.alloc A).alloc B).drew := (((Below.refl _ w).alloc (Nat.le_refl _) A).alloc (alloc_le (Nat.le_refl _) A) B).drew
set_option maxHeartbeats 8000000 in
theorem rmeets_any (r m : Mdm) (rv mv : Value) (w : World) (hr : mdmLen r ≤ 1073741824) (hm : mdmLen m ≤ 1073741824) (h1 : ParsIn w rv r.ps) (h2 : ParsIn w mv m.ps) :
    Calls Tryd.prog 24 #[.agg #[.string ⟨r.ty.toArray⟩, .string ⟨r.sub.toArray⟩, rv], .agg #[.string ⟨m.ty.toArray⟩, .string ⟨m.sub.toArray⟩, mv]] w fun e w' => e = .returned (.bool (meetsP r m)) ∧ Below w.heap.size w w' := by
  obtain ⟨rty, rsub, rps⟩ := r
  obtain ⟨mty, msub, mps⟩ := m
  have hbr := mdm_bd _ hr
  have hbm := mdm_bd _ hm
  simp only at hbr hbm h1 h2
  have hrel : MtRel w.heap.size (w.heap.size + 1) w ⟨rty, rsub, rps⟩ ⟨mty, msub, mps⟩ rv mv ((w.alloc (medO ⟨rty, rsub, rps⟩ rv 30)).alloc (medO ⟨mty, msub, mps⟩ mv 30)) :=
    ⟨((Below.refl _ w).alloc (Nat.le_refl _) _).alloc (by simp) _, (med3_new w _ rv 30).alloc _, by have := med3_new (w.alloc (medO ⟨rty, rsub, rps⟩ rv 30)) ⟨mty, msub, mps⟩ mv 30; simpa using this⟩
  obtain ⟨ao, cap, rfl, hat⟩ := h1
  obtain ⟨ao2, cap2, rfl, hat2⟩ := h2
  have HAT := Lib.hid hat; have HMT := Lib.hid hat2
  have HBR := Lib.hid hbr; have HBM := Lib.hid hbm
  have HREL := Lib.hid hrel
  have hN := hbr.2.2.1
  have hM := hbm.2.2.1
  clear hat hat2 hbr hbm hr hm hrel
  have S1 := fun w => rsame_any rty mty w HBR.out.1 HBM.out.1
  have S2 := fun w => rsame_any rsub msub w HBR.out.2.1 HBM.out.2.1
  go_enter Tryd.func24, Tryd.ntmps24
  go_upto_region 1 with fail
  go_cut [33] (fun s30 wx => s30 = .bool (!(tyOk rty mty && tyOk rsub msub)) ∧ MtRel w.heap.size (w.heap.size + 1) w ⟨rty, rsub, rps⟩ ⟨mty, msub, mps⟩ (.slice ao rps.length cap) (.slice ao2 mps.length cap2) wx)
  case first =>
    by_cases ht : rty = [42]
    · by_cases hs : rsub = [42]
      · have HT := Lib.hid (show (tyOk rty mty && tyOk rsub msub) = true by rw [ht, hs]; rfl)
        have hbe : (rty == [42]) = true := by rw [ht]; rfl
        have hbe2 : (rsub == [42]) = true := by rw [hs]; rfl
        clear ht hs S1 S2
        go_wp2_with fail
        go_meet
        exact ⟨by rw [HT.out]; rfl, HREL.out⟩
      · have hbe : (rty == [42]) = true := by rw [ht]; rfl
        have hbe2 : (rsub == [42]) = false := beq_false_of_ne hs
        cases hq : sameL rsub msub
        all_goals
          have HT := Lib.hid (show (tyOk rty mty && tyOk rsub msub) = _ by rw [ht, tyOk_not _ _ hs, hq])
          rw [hq] at S2
          have HS2 := Lib.hid S2
          clear S2 S1 hq hs ht
          go_wp2_with fail
          refine (HS2.out _).mono ?_
          rintro e w3 ⟨rfl, hb3⟩
          have HR3 := Lib.hid (HREL.out.later hb3)
          clear hb3
          go_wp2_with fail
          go_meet
          exact ⟨by rw [HT.out]; rfl, HR3.out⟩
    · have hbe : (rty == [42]) = false := beq_false_of_ne ht
      cases hq : sameL rty mty with
      | false =>
        have HT := Lib.hid (show (tyOk rty mty && tyOk rsub msub) = false by rw [tyOk_not _ _ ht, hq]; rfl)
        rw [hq] at S1
        have HS1 := Lib.hid S1
        clear S2 S1 hq ht
        go_wp2_with fail
        refine (HS1.out _).mono ?_
        rintro e w3 ⟨rfl, hb3⟩
        have HR3 := Lib.hid (HREL.out.later hb3)
        clear hb3
        go_wp2_with fail
        go_meet
        exact ⟨by rw [HT.out]; rfl, HR3.out⟩
      | true =>
        rw [hq] at S1
        have HS1 := Lib.hid S1
        have hty : tyOk rty mty = true := by rw [tyOk_not _ _ ht, hq]
        clear S1 hq ht
        by_cases hs : rsub = [42]
        · have HT := Lib.hid (show (tyOk rty mty && tyOk rsub msub) = true by rw [hty, hs]; rfl)
          have hbe2 : (rsub == [42]) = true := by rw [hs]; rfl
          clear S2 hs hty
          go_wp2_with fail
          refine (HS1.out _).mono ?_
          rintro e w3 ⟨rfl, hb3⟩
          have hR3 := HREL.out.later hb3
          have HR3 := Lib.hid hR3
          obtain ⟨_, ⟨_, d1, _, _⟩, _, e1, _, _⟩ := hR3
          clear hb3
          go_wp2_with fail
          go_meet
          exact ⟨by rw [HT.out]; rfl, HR3.out⟩
        · have hbe2 : (rsub == [42]) = false := beq_false_of_ne hs
          cases hq2 : sameL rsub msub
          all_goals
            have HT := Lib.hid (show (tyOk rty mty && tyOk rsub msub) = _ by rw [hty, tyOk_not _ _ hs, hq2])
            rw [hq2] at S2
            have HS2 := Lib.hid S2
            clear S2 hq2 hs hty
            go_wp2_with fail
            refine (HS1.out _).mono ?_
            rintro e w3 ⟨rfl, hb3⟩
            have hR3 := HREL.out.later hb3
            have HR3 := Lib.hid hR3
            obtain ⟨_, ⟨_, d1, _, _⟩, _, e1, _, _⟩ := hR3
            clear hb3
            go_wp2_with fail
            refine (HS2.out _).mono ?_
            rintro e w4 ⟨rfl, hb4⟩
            have HR4 := Lib.hid (HR3.out.later hb4)
            clear hb4 d1 e1
            go_wp2_with fail
            go_meet
            exact ⟨by rw [HT.out]; rfl, HR4.out⟩
  case rest =>
  obtain ⟨rfl, hR⟩ := hcut
  clear S1 S2
  cases hA : (tyOk rty mty && tyOk rsub msub) with
  | false =>
    have HX := Lib.hid (And.intro (tyAnd_false ⟨rty, rsub, rps⟩ ⟨mty, msub, mps⟩ hA) hR.1)
    clear hA hR
    go_wp2
    go_ret
    rw [HX.out.1]
    exact ⟨rfl, HX.out.2⟩
  | true =>
    have HA := Lib.hid hA
    have HR := Lib.hid hR
    clear hA
    obtain ⟨_, ⟨_, _, d2, _⟩, _, _, e2, _⟩ := hR
    go_wp2
    go_loopw [5] (fun iv wr => ∃ i : Nat, iv = .int .i64 i ∧ i ≤ rps.length ∧ (rps.take i).all (hasP mps) = true ∧ MtRel w.heap.size (w.heap.size + 1) w ⟨rty, rsub, rps⟩ ⟨mty, msub, mps⟩ (.slice ao rps.length cap) (.slice ao2 mps.length cap2) wr) (fun iv _ => rps.length - (intOf iv).toNat)
    case atStart => exact ⟨0, rfl, Nat.zero_le _, rfl, HR.out⟩
    case round =>
      clear d2 e2
      obtain ⟨i, rfl, hi, hok, hR⟩ := hrel
      have HR := Lib.hid hR
      obtain ⟨_, ⟨_, _, d2, _⟩, _, _, e2, _⟩ := hR
      by_cases hlt : i < rps.length
      · obtain ⟨q, hq⟩ : ∃ q, rps[i]? = some q := ⟨_, List.getElem?_eq_getElem hlt⟩
        have k0 : (0 : Int) ≤ (i : Int) := Int.natCast_nonneg _
        have k1 : (i : Int) < (rps.length : Int) := by omega
        have hwi := wrap64_small i (small30 i _ hi hN)
        have HW := Lib.hid hwi
        have HQ := Lib.hid hq; have HOK := Lib.hid hok
        clear hq hok hwi
        go_wp2
        go_loopw [7, 6] (fun jv fv wr => ∃ (j : Nat) (f : Bool), jv = .int .i64 j ∧ fv = .bool f ∧ j ≤ mps.length ∧ (mps.take j).any (fun x => sameP x q) = f ∧ MtRel w.heap.size (w.heap.size + 1) w ⟨rty, rsub, rps⟩ ⟨mty, msub, mps⟩ (.slice ao rps.length cap) (.slice ao2 mps.length cap2) wr) (fun jv _ _ => mps.length - (intOf jv).toNat)
        case atStart => exact ⟨0, false, rfl, rfl, Nat.zero_le _, rfl, HR.out⟩
        case round =>
          clear d2 e2 HR
          obtain ⟨j, f, rfl, rfl, hj, hany, hR⟩ := hrel
          have HR := Lib.hid hR
          have HANY := Lib.hid hany
          obtain ⟨_, ⟨_, _, d2, l0⟩, _, _, e2, l1⟩ := hR
          clear hany
          by_cases hlj : j < mps.length
          · obtain ⟨x, hx⟩ : ∃ x, mps[j]? = some x := ⟨_, List.getElem?_eq_getElem hlj⟩
            obtain ⟨g, o, rfl, hg, c0, c1, c2⟩ := HAT.out.below HR.out.1 i q HQ.out
            obtain ⟨g2, o2, rfl, hg2, b0, b1, b2⟩ := HMT.out.below HR.out.1 j x hx
            have m0 : (0 : Int) ≤ (j : Int) := Int.natCast_nonneg _
            have m1 : (j : Int) < (mps.length : Int) := by omega
            have hwj := wrap64_small j (small30 j _ hj hM)
            have HWJ := Lib.hid hwj
            have hql := (HBR.out.2.2.2 i q HQ.out).1
            have hxl := (HBM.out.2.2.2 j x hx).1
            obtain ⟨q1, q2, q3⟩ := q
            obtain ⟨x1, x2, x3⟩ := x
            simp only at c0 c1 c2 b0 b1 b2 hql hxl
            have HX := Lib.hid hx
            clear hx hwj
            go_upto_region 10 with fail
            go_cut [8, 9] (fun s8 s9 wx => ∃ b8 b9, s8 = .pointer (some ⟨b8, 0, none⟩) ∧ s9 = .pointer (some ⟨b9, 0, none⟩) ∧ BlkIs wx b8 #[.string ⟨q1.toArray⟩, .string ⟨q2.toArray⟩, .bool q3] 109 ∧ BlkIs wx b9 #[.string ⟨x1.toArray⟩, .string ⟨x2.toArray⟩, .bool x3] 109 ∧ MtRel w.heap.size (w.heap.size + 1) w ⟨rty, rsub, rps⟩ ⟨mty, msub, mps⟩ (.slice (some ⟨g, o, none⟩) rps.length cap) (.slice (some ⟨g2, o2, none⟩) mps.length cap2) wx)
            case first =>
              go_region
              all_goals (go_wp2_with fail; go_meet)
              · exact ⟨_, _, rfl, rfl, (blk2 wr _ _ _ _).1, (blk2 wr _ _ _ _).2, HR.out.later (bel2 wr _ _)⟩
              · exact ⟨_, _, rfl, rfl, (blk2 wr _ _ _ _).2, (blk2 wr _ _ _ _).1, HR.out.later (bel2 wr _ _)⟩
            case rest =>
            obtain ⟨b8, b9, rfl, rfl, h8, h9, hR⟩ := hcut
            have n80 : wc.cell? ⟨b8, 0, none⟩ = some (.string ⟨q1.toArray⟩) := h8.cell 0 _ rfl
            have n90 : wc.cell? ⟨b9, 0, none⟩ = some (.string ⟨x1.toArray⟩) := h9.cell 0 _ rfl
            have H89 := Lib.hid (And.intro h8 h9)
            have HR1 := Lib.hid hR
            clear h8 h9 hR c0 c1 c2 b0 b1 b2 d2 e2 hg hg2 HR
            cases f with
            | true =>
              have HST := Lib.hid (show (mps.take (j + 1)).any (fun x => sameP x (q1, q2, q3)) = true by rw [take_any _ _ _ _ HX.out, HANY.out]; rfl)
              clear n80 n90
              go_wp2
              have hwj := HWJ.out
              go_roundw
              case rel => (try rw [hwj]); clear hwj; exact ⟨j + 1, true, by go_num, rfl, hlj, HST.out, HR1.out⟩
              case measure => (try rw [hwj]); clear hwj; simp [intOf]; omega
            | false =>
              have S3 := fun w => rsame_any q1 x1 w hql hxl
              cases hsm : sameL q1 x1 with
              | false =>
                have HST := Lib.hid (show (mps.take (j + 1)).any (fun x => sameP x (q1, q2, q3)) = false by rw [take_any _ _ _ _ HX.out, HANY.out]; unfold sameP; rw [sameL_comm, hsm]; rfl)
                rw [hsm] at S3
                have HS3 := Lib.hid S3
                clear S3 hsm hql hxl
                go_wp2_with fail
                refine (HS3.out _).mono ?_
                rintro e w3 ⟨rfl, hb3⟩
                have HR3 := Lib.hid (HR1.out.later hb3)
                clear hb3 n80 n90
                go_wp2
                have hwj := HWJ.out
                go_roundw
                case rel => (try rw [hwj]); clear hwj; exact ⟨j + 1, false, by go_num, rfl, hlj, HST.out, HR3.out⟩
                case measure => (try rw [hwj]); clear hwj; simp [intOf]; omega
              | true =>
                have hst : (mps.take (j + 1)).any (fun x => sameP x (q1, q2, q3)) = (q2 == x2) := by
                  rw [take_any _ _ _ _ HX.out, HANY.out]
                  unfold sameP
                  rw [sameL_comm, hsm, beq_dec]
                  simp [eq_comm]
                rw [hsm] at S3
                have HS3 := Lib.hid S3
                clear S3 hsm hql hxl
                cases hv : (q2 == x2)
                all_goals
                  rw [hv] at hst
                  have HST := Lib.hid hst
                  clear hst
                  go_wp2_with fail
                  refine (HS3.out _).mono ?_
                  rintro e w3 ⟨rfl, hb3⟩
                  have HR3 := Lib.hid (HR1.out.later hb3)
                  have n81 : w3.cell? ⟨b8, 1, none⟩ = some (.string ⟨q2.toArray⟩) := (H89.out.1.later hb3).cell 1 _ rfl
                  have n91 : w3.cell? ⟨b9, 1, none⟩ = some (.string ⟨x2.toArray⟩) := (H89.out.2.later hb3).cell 1 _ rfl
                  clear hb3 n80 n90
                  go_wp2
                  have hwj := HWJ.out
                  go_roundw
                  case rel => (try rw [hwj]); clear hwj; exact ⟨j + 1, _, by go_num, rfl, hlj, HST.out, HR3.out⟩
                  case measure => (try rw [hwj]); clear hwj; simp [intOf]; omega
          · obtain rfl : j = mps.length := by omega
            have hd : decide (mps.length < mps.length) = false := decide_eq_false (Nat.lt_irrefl _)
            have hany := HANY.out
            rw [List.take_length] at hany
            cases f with
            | false =>
              have HX := Lib.hid (And.intro (meets_ps ⟨rty, rsub, rps⟩ ⟨mty, msub, mps⟩ i q HQ.out hany) HR.out.1)
              clear hany HR
              go_wp2
              go_ret
              rw [HX.out.1]
              exact ⟨rfl, HX.out.2⟩
            | true =>
              have HST := Lib.hid (meets_step rps mps i q HQ.out HOK.out hany)
              clear hany
              go_wp2
              have hwi := HW.out
              go_roundw
              case rel => (try rw [hwi]); clear hwi; exact ⟨i + 1, by go_num, hlt, HST.out, HR.out⟩
              case measure => (try rw [hwi]); clear hwi; simp [intOf]; omega
      · obtain rfl : i = rps.length := by omega
        have hd : decide (rps.length < rps.length) = false := decide_eq_false (Nat.lt_irrefl _)
        rw [List.take_length] at hok
        have HX := Lib.hid (And.intro (tyAnd_true ⟨rty, rsub, rps⟩ ⟨mty, msub, mps⟩ 0 HA.out hok) HR.out.1)
        clear hok HR
        go_wp2
        go_ret
        rw [HX.out.1]
        exact ⟨rfl, HX.out.2⟩
abbrev Tri := Int × Int × Int
def starN (a : List UInt8) : Int := if a = [42] then 0 else 1
def narT (m : Mdm) : Tri := (starN m.sub, starN m.ty, (m.ps.length : Int))
abbrev triV (a : Tri) : Array Value := #[.int .i64 a.1, .int .i64 a.2.1, .int .i64 a.2.2]
def abP (a b : Tri) : Bool := if a.1 = b.1 then (if a.2.1 = b.2.1 then decide (b.2.2 < a.2.2) else decide (b.2.1 < a.2.1)) else decide (b.1 < a.1)
/-- The three numbers and the one say the same. -/
def TriOf (a : Tri) (k : Int) : Prop := (a = (-1, 0, 0) ∧ k = -1) ∨ ((a.1 = 0 ∨ a.1 = 1) ∧ (a.2.1 = 0 ∨ a.2.1 = 1) ∧ 0 ≤ a.2.2 ∧ a.2.2 ≤ 1073741824 ∧ k = a.2.2 + 2000000000000 * a.1 + 1000000000000 * a.2.1)
theorem starN_01 (a : List UInt8) : starN a = 0 ∨ starN a = 1 := by unfold starN; split; exact Or.inl rfl; exact Or.inr rfl
theorem nar_eq (m : Mdm) : nar m = (m.ps.length : Int) + 2000000000000 * starN m.sub + 1000000000000 * starN m.ty := by
  unfold nar starN
  split <;> split <;> omega
theorem triOf_nar (m : Mdm) (h : m.ps.length ≤ 1073741824) : TriOf (narT m) (nar m) := by
  refine Or.inr ⟨starN_01 _, starN_01 _, Int.natCast_nonneg _, ?_, nar_eq m⟩
  show (m.ps.length : Int) ≤ 1073741824
  omega
theorem abP_code (m : Mdm) (h : m.ps.length ≤ 1073741824) (b : Tri) (k : Int) (hb : TriOf b k) : abP (narT m) b = decide (k < nar m) := by
  obtain ⟨x, y, n⟩ := b
  rw [nar_eq m]
  have h1 := starN_01 m.sub
  have h2 := starN_01 m.ty
  unfold abP narT
  simp only
  rcases hb with ⟨hb, rfl⟩ | ⟨hx, hy, h0, h9, rfl⟩
  · simp only [Prod.mk.injEq] at hb
    obtain ⟨rfl, rfl, rfl⟩ := hb
    rw [if_neg (by rcases h1 with e | e <;> rw [e] <;> decide)]
    rw [decide_eq_true (by rcases h1 with e | e <;> rw [e] <;> decide), decide_eq_true (by rcases h1 with e | e <;> rcases h2 with e2 | e2 <;> rw [e, e2] <;> omega)]
  · simp only at hx hy h0 h9
    generalize starN m.sub = s at *
    generalize starN m.ty = t at *
    rw [Bool.eq_iff_iff]
    rcases h1 with rfl | rfl <;> rcases h2 with rfl | rfl <;> rcases hx with rfl | rfl <;> rcases hy with rfl | rfl <;> simp <;> omega
theorem abP_self (a : Tri) : abP a a = false := by unfold abP; rw [if_pos rfl, if_pos rfl]; simp
theorem abP_0 (a b : Tri) (h : a.1 ≠ b.1) : abP a b = decide (b.1 < a.1) := by unfold abP; rw [if_neg h]
theorem abP_1 (a b : Tri) (h0 : a.1 = b.1) (h : a.2.1 ≠ b.2.1) : abP a b = decide (b.2.1 < a.2.1) := by unfold abP; rw [if_pos h0, if_neg h]
theorem abP_2 (a b : Tri) (h0 : a.1 = b.1) (h : a.2.1 = b.2.1) : abP a b = decide (b.2.2 < a.2.2) := by unfold abP; rw [if_pos h0, if_pos h]
set_option maxHeartbeats 4000000 in
theorem rnarrow_any (m : Mdm) (mv : Value) (w : World) (hn : m.ps.length ≤ 1073741824) (h : ParsIn w mv m.ps) :
    Calls Tryd.prog 75 #[.agg #[.string ⟨m.ty.toArray⟩, .string ⟨m.sub.toArray⟩, mv]] w fun e w' => e = .returned (.int .i64 (nar m)) ∧ Below w.heap.size w w' := by
  obtain ⟨ty, sub, ps⟩ := m
  obtain ⟨ao, cap, rfl, _⟩ := h
  simp only at hn
  have hb : Below w.heap.size w (w.alloc (medO ⟨ty, sub, ps⟩ (.slice ao ps.length cap) 30)) := (Below.refl _ w).alloc (Nat.le_refl _) _
  have HB := Lib.hid hb
  clear hb
  obtain ⟨n, hln⟩ : ∃ n, ps.length = n := ⟨_, rfl⟩
  rw [hln] at hn HB
  by_cases h1 : sub = [42]
  · have b1 : (sub == [42]) = true := by rw [h1]; rfl
    by_cases h2 : ty = [42]
    · have b2 : (ty == [42]) = true := by rw [h2]; rfl
      have HR := Lib.hid (show nar ⟨ty, sub, ps⟩ = (n : Int) by unfold nar; rw [if_pos h1, if_pos h2, hln]; omega)
      clear h1 h2
      go_enter Tryd.func75, Tryd.ntmps75
      go_wp2
      go_ret
      rw [HR.out]
      exact ⟨rfl, HB.out⟩
    · have b2 : (ty == [42]) = false := beq_false_of_ne h2
      obtain ⟨N, hN⟩ : ∃ N : Int, (n : Int) + 1000000000000 = N := ⟨_, rfl⟩
      have HR := Lib.hid (show nar ⟨ty, sub, ps⟩ = N by unfold nar; rw [if_pos h1, if_neg h2, hln]; omega)
      have hw : IntKind.i64.wrap N = N := by rw [IntKind.wrap_i64]; omega
      have hw2 : wrap64 N = N := by unfold wrap64; omega
      clear h1 h2 hn
      go_enter Tryd.func75, Tryd.ntmps75
      go_wp2
      go_ret
      rw [HR.out]
      exact ⟨rfl, HB.out⟩
  · have b1 : (sub == [42]) = false := beq_false_of_ne h1
    obtain ⟨M, hM⟩ : ∃ M : Int, (n : Int) + 2000000000000 = M := ⟨_, rfl⟩
    have hv : IntKind.i64.wrap M = M := by rw [IntKind.wrap_i64]; omega
    have hv2 : wrap64 M = M := by unfold wrap64; omega
    by_cases h2 : ty = [42]
    · have b2 : (ty == [42]) = true := by rw [h2]; rfl
      have HR := Lib.hid (show nar ⟨ty, sub, ps⟩ = M by unfold nar; rw [if_neg h1, if_pos h2, hln]; omega)
      clear h1 h2 hn
      go_enter Tryd.func75, Tryd.ntmps75
      go_wp2
      go_ret
      rw [HR.out]
      exact ⟨rfl, HB.out⟩
    · have b2 : (ty == [42]) = false := beq_false_of_ne h2
      obtain ⟨N, hN⟩ : ∃ N : Int, M + 1000000000000 = N := ⟨_, rfl⟩
      have HR := Lib.hid (show nar ⟨ty, sub, ps⟩ = N by unfold nar; rw [if_neg h1, if_neg h2, hln]; omega)
      have hw : IntKind.i64.wrap N = N := by rw [IntKind.wrap_i64]; omega
      have hw2 : wrap64 N = N := by unfold wrap64; omega
      clear h1 h2 hn
      go_enter Tryd.func75, Tryd.ntmps75
      go_wp2
      go_ret
      rw [HR.out]
      exact ⟨rfl, HB.out⟩
theorem blk3 (w : World) (A B : Obj) (cs : Array Value) (T : TypeId) : (((w.alloc A).alloc (.cells cs T)).alloc B).heap[w.heap.size + 1]? = some (.cells cs T (0, 0)) := by
  have h : BlkIs ((w.alloc A).alloc (.cells cs T)) (w.heap.size + 1) cs T := by
    have := blkIs_new (w.alloc A) cs T
    simpa using this
  exact h.alloc B
theorem bel3 (w : World) (A B C : Obj) : Below w.heap.size w (((w.alloc A).alloc B).alloc C) := (((Below.refl _ w).alloc (Nat.le_refl _) A).alloc (alloc_le (Nat.le_refl _) A) B).alloc (alloc_le (alloc_le (Nat.le_refl _) A) B) C
theorem info_int3 : ∃ i, Tryd.prog.info? 3 = some i := info_of_underlying Tryd.underlying3
theorem cells_int3 : Tryd.prog.cellsOf 3 = 1 := by kernel_rfl
theorem eqTri (a0 a1 a2 b0 b1 b2 : Int) (w : World) : (Op.equalIn 10000 123 (.agg #[.int .i64 a0, .int .i64 a1, .int .i64 a2]) (.agg #[.int .i64 b0, .int .i64 b1, .int .i64 b2])).run Tryd.prog w = .ok (decide ((a0, a1, a2) = (b0, b1, b2))) w := by
  obtain ⟨i, hi⟩ := info_int3
  have hp : Tryd.prog.plainKey 3 = true := by kernel_rfl
  rw [show (10000 : Nat) = 9999 + 1 from rfl, run_equalIn_array w 9999 _ _ Tryd.underlying123 hi, cells_int3, show List.range 3 = [0, 1, 2] from rfl]
  have q : ∀ (x0 x1 x2 : Int), (part 3 #[.int .i64 x0, .int .i64 x1, .int .i64 x2] 0).run Tryd.prog w = .ok (.int .i64 x0) w ∧ (part 3 #[.int .i64 x0, .int .i64 x1, .int .i64 x2] 1).run Tryd.prog w = .ok (.int .i64 x1) w ∧ (part 3 #[.int .i64 x0, .int .i64 x1, .int .i64 x2] 2).run Tryd.prog w = .ok (.int .i64 x2) w :=
    fun x0 x1 x2 => ⟨run_part_plain w hp rfl, run_part_plain w hp rfl, run_part_plain w hp rfl⟩
  have r : ∀ x y : Int, (Op.equalIn 9999 3 (.int .i64 x) (.int .i64 y)).run Tryd.prog w = .ok (x == y) w := fun x y => run_equalIn_int w 9998 3 .i64 .i64 x y Tryd.underlying3
  by_cases h0 : a0 = b0
  · subst h0
    by_cases h1 : a1 = b1
    · subst h1
      by_cases h2 : a2 = b2
      · subst h2
        simp [Op.eqItems, (q a0 a1 a2).1, (q a0 a1 a2).2.1, (q a0 a1 a2).2.2, r]
      · simp [Op.eqItems, (q a0 a1 a2).1, (q a0 a1 a2).2.1, (q a0 a1 a2).2.2, (q a0 a1 b2).1, (q a0 a1 b2).2.1, (q a0 a1 b2).2.2, r, h2]
    · simp [Op.eqItems, (q a0 a1 a2).1, (q a0 a1 a2).2.1, (q a0 a1 a2).2.2, (q a0 b1 b2).1, (q a0 b1 b2).2.1, (q a0 b1 b2).2.2, r, h1]
  · simp [Op.eqItems, (q a0 a1 a2).1, (q b0 b1 b2).1, r, h0]
set_option maxHeartbeats 4000000 in
theorem narrow_any (m : Mdm) (mv : Value) (w : World) (hn : m.ps.length ≤ 1073741824) (h : ParsIn w mv m.ps) :
    Calls Tryd.prog 74 #[.agg #[.string ⟨m.ty.toArray⟩, .string ⟨m.sub.toArray⟩, mv]] w fun e w' => e = .returned (.agg (triV (narT m))) ∧ Below w.heap.size w w' := by
  obtain ⟨ty, sub, ps⟩ := m
  obtain ⟨ao, cap, rfl, _⟩ := h
  simp only at hn
  obtain ⟨n, hln⟩ : ∃ n, ps.length = n := ⟨_, rfl⟩
  rw [hln] at hn
  by_cases h1 : sub = [42]
  · have b1 : (sub == [42]) = true := by rw [h1]; rfl
    by_cases h2 : ty = [42]
    · have b2 : (ty == [42]) = true := by rw [h2]; rfl
      have HR := Lib.hid (show narT ⟨ty, sub, ps⟩ = (0, 0, (n : Int)) by unfold narT starN; rw [if_pos h1, if_pos h2, hln])
      clear h1 h2
      go_enter Tryd.func74, Tryd.ntmps74
      go_wp2
      (try simp only [Exit.inBlock, Exit.then])
      rw [HR.out]
      refine bodyPost_ret (v := .agg #[.int .i64 0, .int .i64 0, .int .i64 (n : Int)]) ?mr00 rfl ⟨rfl, ?mb00⟩
      case mr00 => exact results_cell_row (p := 2) (ty := 123) rfl _ _ (w.heap.size + 1) 123 _ (0, 0) _ rfl (blk3 w _ _ _ _) Tryd.underlying123 rfl (by kernel_rfl)
      case mb00 => exact bel3 w _ _ _
    · have b2 : (ty == [42]) = false := beq_false_of_ne h2
      have HR := Lib.hid (show narT ⟨ty, sub, ps⟩ = (0, 1, (n : Int)) by unfold narT starN; rw [if_pos h1, if_neg h2, hln])
      clear h1 h2
      go_enter Tryd.func74, Tryd.ntmps74
      go_wp2
      (try simp only [Exit.inBlock, Exit.then])
      rw [HR.out]
      refine bodyPost_ret (v := .agg #[.int .i64 0, .int .i64 1, .int .i64 (n : Int)]) ?mr01 rfl ⟨rfl, ?mb01⟩
      case mr01 => exact results_cell_row (p := 2) (ty := 123) rfl _ _ (w.heap.size + 1) 123 _ (0, 0) _ rfl (blk3 w _ _ _ _) Tryd.underlying123 rfl (by kernel_rfl)
      case mb01 => exact bel3 w _ _ _
  · have b1 : (sub == [42]) = false := beq_false_of_ne h1
    by_cases h2 : ty = [42]
    · have b2 : (ty == [42]) = true := by rw [h2]; rfl
      have HR := Lib.hid (show narT ⟨ty, sub, ps⟩ = (1, 0, (n : Int)) by unfold narT starN; rw [if_neg h1, if_pos h2, hln])
      clear h1 h2
      go_enter Tryd.func74, Tryd.ntmps74
      go_wp2
      (try simp only [Exit.inBlock, Exit.then])
      rw [HR.out]
      refine bodyPost_ret (v := .agg #[.int .i64 1, .int .i64 0, .int .i64 (n : Int)]) ?mr10 rfl ⟨rfl, ?mb10⟩
      case mr10 => exact results_cell_row (p := 2) (ty := 123) rfl _ _ (w.heap.size + 1) 123 _ (0, 0) _ rfl (blk3 w _ _ _ _) Tryd.underlying123 rfl (by kernel_rfl)
      case mb10 => exact bel3 w _ _ _
    · have b2 : (ty == [42]) = false := beq_false_of_ne h2
      have HR := Lib.hid (show narT ⟨ty, sub, ps⟩ = (1, 1, (n : Int)) by unfold narT starN; rw [if_neg h1, if_neg h2, hln])
      clear h1 h2
      go_enter Tryd.func74, Tryd.ntmps74
      go_wp2
      (try simp only [Exit.inBlock, Exit.then])
      rw [HR.out]
      refine bodyPost_ret (v := .agg #[.int .i64 1, .int .i64 1, .int .i64 (n : Int)]) ?mr11 rfl ⟨rfl, ?mb11⟩
      case mr11 => exact results_cell_row (p := 2) (ty := 123) rfl _ _ (w.heap.size + 1) 123 _ (0, 0) _ rfl (blk3 w _ _ _ _) Tryd.underlying123 rfl (by kernel_rfl)
      case mb11 => exact bel3 w _ _ _
set_option maxHeartbeats 4000000 in
theorem above_any (a b : Tri) (w : World) :
    Calls Tryd.prog 73 #[.agg (triV a), .agg (triV b)] w fun e w' => e = .returned (.bool (abP a b)) ∧ Below w.heap.size w w' := by
  obtain ⟨a0, a1, a2⟩ := a
  obtain ⟨b0, b1, b2⟩ := b
  show Calls Tryd.prog 73 #[.agg #[.int .i64 a0, .int .i64 a1, .int .i64 a2], .agg #[.int .i64 b0, .int .i64 b1, .int .i64 b2]] w _
  have heq := eqTri a0 a1 a2 b0 b1 b2
  by_cases hab : (a0, a1, a2) = (b0, b1, b2)
  · rw [decide_eq_true hab] at heq
    have HX := Lib.hid (show abP (a0, a1, a2) (b0, b1, b2) = false by rw [hab]; exact abP_self _)
    clear hab
    go_enter Tryd.func73, Tryd.ntmps73
    go_wp2
    go_ret
    rw [HX.out]
    exact ⟨rfl, by have := (bel2 w (.cells #[.int .i64 a0, .int .i64 a1, .int .i64 a2] 123) (.cells #[.int .i64 b0, .int .i64 b1, .int .i64 b2] 123)); exact ⟨this.os, this.tape, this.output, this.size, this.block⟩⟩
  · rw [decide_eq_false hab] at heq
    have HN := Lib.hid hab
    have hrel : Below w.heap.size w ((w.alloc (.cells #[.int .i64 a0, .int .i64 a1, .int .i64 a2] 123)).alloc (.cells #[.int .i64 b0, .int .i64 b1, .int .i64 b2] 123)) ∧ BlkIs ((w.alloc (.cells #[.int .i64 a0, .int .i64 a1, .int .i64 a2] 123)).alloc (.cells #[.int .i64 b0, .int .i64 b1, .int .i64 b2] 123)) w.heap.size #[.int .i64 a0, .int .i64 a1, .int .i64 a2] 123 ∧ BlkIs ((w.alloc (.cells #[.int .i64 a0, .int .i64 a1, .int .i64 a2] 123)).alloc (.cells #[.int .i64 b0, .int .i64 b1, .int .i64 b2] 123)) (w.heap.size + 1) #[.int .i64 b0, .int .i64 b1, .int .i64 b2] 123 := by
      have h1 := (bel2 w (.cells #[.int .i64 a0, .int .i64 a1, .int .i64 a2] 123) (.cells #[.int .i64 b0, .int .i64 b1, .int .i64 b2] 123))
      have h2 := blk2 w #[.int .i64 a0, .int .i64 a1, .int .i64 a2] #[.int .i64 b0, .int .i64 b1, .int .i64 b2] 123 123
      exact ⟨⟨h1.os, h1.tape, h1.output, h1.size, h1.block⟩, h2.1, h2.2⟩
    have HREL := Lib.hid hrel
    clear hab hrel
    go_enter Tryd.func73, Tryd.ntmps73
    go_wp2
    go_loopw [9] (fun iv wr => ∃ i : Nat, iv = .int .i64 i ∧ i ≤ 3 ∧ (0 < i → a0 = b0) ∧ (1 < i → a1 = b1) ∧ (2 < i → a2 = b2) ∧ Below w.heap.size w wr ∧ BlkIs wr w.heap.size #[.int .i64 a0, .int .i64 a1, .int .i64 a2] 123 ∧ BlkIs wr (w.heap.size + 1) #[.int .i64 b0, .int .i64 b1, .int .i64 b2] 123) (fun iv _ => 3 - (intOf iv).toNat)
    case atStart => exact ⟨0, rfl, by omega, fun h => absurd h (by omega), fun h => absurd h (by omega), fun h => absurd h (by omega), HREL.out⟩
    case round =>
    clear heq HREL
    obtain ⟨i, rfl, hi, e0, e1, e2, hb, hA, hB⟩ := hrel
    have HB := Lib.hid (And.intro hb (And.intro hA hB))
    have c0 : wr.cell? ⟨w.heap.size, 0, none⟩ = some (.int .i64 a0) := hA.cell 0 _ rfl
    have c1 : wr.cell? ⟨w.heap.size, 1, none⟩ = some (.int .i64 a1) := hA.cell 1 _ rfl
    have c2 : wr.cell? ⟨w.heap.size, 2, none⟩ = some (.int .i64 a2) := hA.cell 2 _ rfl
    have d0 : wr.cell? ⟨w.heap.size + 1, 0, none⟩ = some (.int .i64 b0) := hB.cell 0 _ rfl
    have d1 : wr.cell? ⟨w.heap.size + 1, 1, none⟩ = some (.int .i64 b1) := hB.cell 1 _ rfl
    have d2 : wr.cell? ⟨w.heap.size + 1, 2, none⟩ = some (.int .i64 b2) := hB.cell 2 _ rfl
    clear hb hA hB
    rcases (show i = 0 ∨ i = 1 ∨ i = 2 ∨ i = 3 by omega) with rfl | rfl | rfl | rfl
    · by_cases h : a0 = b0
      · have hq : (a0 != b0) = false := by simp [h]
        have HE := Lib.hid (And.intro e0 (And.intro e1 h))
        clear e0 e1 e2 h
        go_wp2_with fail
        refine wp_region_still_lit (by kernel_rfl) (by kernel_rfl) ?_
        repeat still_step
        refine wpStill_nil ?_
        go_wp2
        obtain ⟨e0, e1, h⟩ := HE.out
        go_roundw
        case rel => exact ⟨1, rfl, by omega, fun _ => h, fun h => absurd h (by omega), fun h => absurd h (by omega), HB.out.1.drew, HB.out.2.1, HB.out.2.2⟩
        case measure => simp [intOf]
      · have hq : (a0 != b0) = true := by simp [h]
        obtain ⟨W3, hW3⟩ : ∃ W3, wr.drew = W3 := ⟨_, rfl⟩
        have x0 : W3.cell? ⟨w.heap.size, 0, none⟩ = some (.int .i64 a0) := by rw [← hW3]; exact c0
        have y0 : W3.cell? ⟨w.heap.size + 1, 0, none⟩ = some (.int .i64 b0) := by rw [← hW3]; exact d0
        have HW3 := Lib.hid hW3
        clear hW3
        have HE := Lib.hid (abP_0 (a0, a1, a2) (b0, b1, b2) h)
        clear e0 e1 e2 h
        go_wp2_with fail
        refine wp_region_still_lit (by kernel_rfl) (by kernel_rfl) ?_
        repeat still_step
        refine wpStill_nil ?_
        go_upto_region 7 with fail
        show Code.wp Tryd.prog _ _ _ wr.drew
        rw [HW3.out]
        clear c0 c1 c2 d0 d1 d2
        refine wp_region_still_lit (by kernel_rfl) (by kernel_rfl) ?_
        repeat still_step
        refine wpStill_nil ?_
        go_wp2
        go_ret
        rw [HE.out]
        rw [← HW3.out]
        exact ⟨rfl, HB.out.1.drew.drew⟩
    · by_cases h : a1 = b1
      · have hq : (a1 != b1) = false := by simp [h]
        have HE := Lib.hid (And.intro e0 (And.intro e1 h))
        clear e0 e1 e2 h
        go_wp2_with fail
        refine wp_region_still_lit (by kernel_rfl) (by kernel_rfl) ?_
        repeat still_step
        refine wpStill_nil ?_
        go_wp2
        obtain ⟨e0, e1, h⟩ := HE.out
        go_roundw
        case rel => exact ⟨2, rfl, by omega, fun _ => e0 (by omega), fun _ => h, fun h => absurd h (by omega), HB.out.1.drew, HB.out.2.1, HB.out.2.2⟩
        case measure => simp [intOf]
      · have hq : (a1 != b1) = true := by simp [h]
        obtain ⟨W3, hW3⟩ : ∃ W3, wr.drew = W3 := ⟨_, rfl⟩
        have x1 : W3.cell? ⟨w.heap.size, 1, none⟩ = some (.int .i64 a1) := by rw [← hW3]; exact c1
        have y1 : W3.cell? ⟨w.heap.size + 1, 1, none⟩ = some (.int .i64 b1) := by rw [← hW3]; exact d1
        have HW3 := Lib.hid hW3
        clear hW3
        have HE := Lib.hid (abP_1 (a0, a1, a2) (b0, b1, b2) (e0 (by omega)) h)
        clear e0 e1 e2 h
        go_wp2_with fail
        refine wp_region_still_lit (by kernel_rfl) (by kernel_rfl) ?_
        repeat still_step
        refine wpStill_nil ?_
        go_upto_region 7 with fail
        show Code.wp Tryd.prog _ _ _ wr.drew
        rw [HW3.out]
        clear c0 c1 c2 d0 d1 d2
        refine wp_region_still_lit (by kernel_rfl) (by kernel_rfl) ?_
        repeat still_step
        refine wpStill_nil ?_
        go_wp2
        go_ret
        rw [HE.out]
        rw [← HW3.out]
        exact ⟨rfl, HB.out.1.drew.drew⟩
    · by_cases h : a2 = b2
      · have hq : (a2 != b2) = false := by simp [h]
        have HE := Lib.hid (And.intro e0 (And.intro e1 h))
        clear e0 e1 e2 h
        go_wp2_with fail
        refine wp_region_still_lit (by kernel_rfl) (by kernel_rfl) ?_
        repeat still_step
        refine wpStill_nil ?_
        go_wp2
        obtain ⟨e0, e1, h⟩ := HE.out
        go_roundw
        case rel => exact ⟨3, rfl, by omega, fun _ => e0 (by omega), fun _ => e1 (by omega), fun _ => h, HB.out.1.drew, HB.out.2.1, HB.out.2.2⟩
        case measure => simp [intOf]
      · have hq : (a2 != b2) = true := by simp [h]
        obtain ⟨W3, hW3⟩ : ∃ W3, wr.drew = W3 := ⟨_, rfl⟩
        have x2 : W3.cell? ⟨w.heap.size, 2, none⟩ = some (.int .i64 a2) := by rw [← hW3]; exact c2
        have y2 : W3.cell? ⟨w.heap.size + 1, 2, none⟩ = some (.int .i64 b2) := by rw [← hW3]; exact d2
        have HW3 := Lib.hid hW3
        clear hW3
        have HE := Lib.hid (abP_2 (a0, a1, a2) (b0, b1, b2) (e0 (by omega)) (e1 (by omega)))
        clear e0 e1 e2 h
        go_wp2_with fail
        refine wp_region_still_lit (by kernel_rfl) (by kernel_rfl) ?_
        repeat still_step
        refine wpStill_nil ?_
        go_upto_region 7 with fail
        show Code.wp Tryd.prog _ _ _ wr.drew
        rw [HW3.out]
        clear c0 c1 c2 d0 d1 d2
        refine wp_region_still_lit (by kernel_rfl) (by kernel_rfl) ?_
        repeat still_step
        refine wpStill_nil ?_
        go_wp2
        go_ret
        rw [HE.out]
        rw [← HW3.out]
        exact ⟨rfl, HB.out.1.drew.drew⟩
    · exact absurd (by rw [e0 (by omega), e1 (by omega), e2 (by omega)]) HN.out
theorem wtxH_pass {P : Program} {ops : Array Oper} {S : World → Prop} {Q : Exit → Act → World → Prop} {i : Nat} {o : Oper} {r : List (Nat × Bool)} {a : Act} {w : World} (ho : ops[i]? = some o) (hw : Region.wanted o (yielded ops a.tmps) = false)
    (h : wpTxH P ops S Q r (a.put o.dst undef) w) : wpTxH P ops S Q ((i, true) :: r) a w := ⟨o, undef, ho, .inr ⟨hw, rfl⟩, h⟩
theorem Med3.grown' {b : Nat} {m : Mdm} {v : Value} {w : World} (h : Med3 b m v w) (a : Addr) (u : Value) (hne : b ≠ a.block) : Med3 b m v (w.setCell a u) := by
  have e : (w.setCell a u).heap[b]? = w.heap[b]? := Below.heap_setCell w a u b hne
  refine ⟨?_, ?_, ?_, by simpa [World.setCell] using h.2.2.2⟩
  · rw [World.cell?_of_block (w := w) (a := ⟨b, 0, none⟩) e]; exact h.1
  · rw [World.cell?_of_block (w := w) (a := ⟨b, 1, none⟩) e]; exact h.2.1
  · rw [World.cell?_of_block (w := w) (a := ⟨b, 2, none⟩) e]; exact h.2.2.1
abbrev rgC (r : Rng) (v : Value) : Array Value := #[.string ⟨r.1.ty.toArray⟩, .string ⟨r.1.sub.toArray⟩, v, .int .i64 r.2]
theorem rgCells {w : World} {b : Nat} {r : Rng} {v : Value} {T : TypeId} (h : BlkIs w b (rgC r v) T) : w.cell? ⟨b, 0, none⟩ = some (.string ⟨r.1.ty.toArray⟩) ∧ w.cell? ⟨b, 1, none⟩ = some (.string ⟨r.1.sub.toArray⟩) ∧ w.cell? ⟨b, 2, none⟩ = some v ∧ w.cell? ⟨b, 3, none⟩ = some (.int .i64 r.2) :=
  ⟨h.cell 0 _ rfl, h.cell 1 _ rfl, h.cell 2 _ rfl, h.cell 3 _ rfl⟩
theorem triCells {w : World} {b : Nat} {t : Tri} {T : TypeId} (h : BlkIs w b (triV t) T) : w.cell? ⟨b, 0, none⟩ = some (.int .i64 t.1) ∧ w.cell? ⟨b, 1, none⟩ = some (.int .i64 t.2.1) ∧ w.cell? ⟨b, 2, none⟩ = some (.int .i64 t.2.2) :=
  ⟨h.cell 0 _ rfl, h.cell 1 _ rfl, h.cell 2 _ rfl⟩
/-- While the ranges are walked: the wanted type's block, the best so far. -/
def LkRel (L : Nat) (w : World) (l : List Rng) (m : Mdm) (mv : Value) (i : Nat) (q : Int) (t : Tri) (wr : World) : Prop := Below L w wr ∧ Med3 L m mv wr ∧ BlkIs wr (L + 1) (triV t) 123 ∧ TriOf t (likS m l i).1 ∧ q = (likS m l i).2
theorem LkRel.later {L : Nat} {w : World} {l : List Rng} {m : Mdm} {mv : Value} {i : Nat} {q : Int} {t : Tri} {wr w' : World} (h : LkRel L w l m mv i q t wr) (hb : Below wr.heap.size wr w') : LkRel L w l m mv i q t w' :=
  ⟨h.1.trans (hb.mono (Nat.le_of_lt h.2.1.2.2.2)), h.2.1.below hb, h.2.2.1.later hb, h.2.2.2⟩
theorem LkRel.stay {L : Nat} {w : World} {l : List Rng} {m : Mdm} {mv : Value} {i : Nat} {q : Int} {t : Tri} {wr : World} (h : LkRel L w l m mv i q t wr) (e : likS m l (i + 1) = likS m l i) : LkRel L w l m mv (i + 1) q t wr := by
  unfold LkRel at h ⊢
  rw [e]
  exact h
theorem LkRel.store {L : Nat} {w : World} {l : List Rng} {m : Mdm} {mv : Value} {i : Nat} {q : Int} {t : Tri} {wr : World} (h : LkRel L w l m mv i q t wr) (rm : Mdm) (rq : Int) (hn : rm.ps.length ≤ 1073741824) (e : likS m l (i + 1) = (nar rm, rq)) :
    LkRel L w l m mv (i + 1) rq (narT rm) (((wr.setCell ⟨L + 1, 0, none⟩ (.int .i64 (narT rm).1)).setCell ⟨L + 1, 1, none⟩ (.int .i64 (narT rm).2.1)).setCell ⟨L + 1, 2, none⟩ (.int .i64 (narT rm).2.2)) := by
  unfold LkRel
  rw [e]
  have hne : L ≠ L + 1 := Nat.ne_of_lt (Nat.lt_succ_self L)
  exact ⟨((h.1.setCell (p := ⟨L + 1, 0, none⟩) (Nat.le_succ L) _).setCell (p := ⟨L + 1, 1, none⟩) (Nat.le_succ L) _).setCell (p := ⟨L + 1, 2, none⟩) (Nat.le_succ L) _,
    ((h.2.1.grown' _ _ hne).grown' _ _ hne).grown' _ _ hne, ((h.2.2.1.set 0 (.int .i64 (narT rm).1)).set 1 (.int .i64 (narT rm).2.1)).set 2 (.int .i64 (narT rm).2.2), triOf_nar rm hn, rfl⟩
theorem lik_no (m : Mdm) (l : List Rng) (i : Nat) (r : Rng) (h : l[i]? = some r) (h2 : meetsP r.1 m = false) : likS m l (i + 1) = likS m l i := by rw [likS_succ m l i r h, likStep_no _ _ _ h2]
theorem lik_low (m : Mdm) (l : List Rng) (i : Nat) (r : Rng) (h : l[i]? = some r) (h2 : decide ((likS m l i).1 < nar r.1) = false) : likS m l (i + 1) = likS m l i := by rw [likS_succ m l i r h, likStep_low _ _ _ (by have := of_decide_eq_false h2; omega)]
theorem lik_yes (m : Mdm) (l : List Rng) (i : Nat) (r : Rng) (h : l[i]? = some r) (h1 : meetsP r.1 m = true) (h2 : decide ((likS m l i).1 < nar r.1) = true) : likS m l (i + 1) = (nar r.1, r.2) := by rw [likS_succ m l i r h, likStep_yes _ _ _ h1 (of_decide_eq_true h2)]
theorem lik_end (l : List Rng) (m : Mdm) (h : ¬ l.length = 0) : likeP l m = (likS m l l.length).2 := by unfold likeP; rw [if_neg (by intro e; rw [e] at h; exact h rfl)]
set_option maxHeartbeats 8000000 in
theorem liking_any (v mv : Value) (l : List Rng) (m : Mdm) (w : World) (hN : totF rngLen l + l.length ≤ 1073741824) (hm : mdmLen m ≤ 1073741824) (h : RngsIn w v l) (hmv : ParsIn w mv m.ps) :
    Calls Tryd.prog 33 #[v, .agg #[.string ⟨m.ty.toArray⟩, .string ⟨m.sub.toArray⟩, mv]] w fun e w' => e = .returned (.int .i64 (likeP l m)) ∧ Below w.heap.size w w' := by
  obtain ⟨ao, cap, rfl, hat⟩ := h
  have hN2 : l.length ≤ 1073741824 := by omega
  by_cases h0 : l.length = 0
  · have hl : l = [] := List.eq_nil_of_length_eq_zero h0
    subst hl
    go_enter Tryd.func33, Tryd.ntmps33
    go_wp2
    go_ret
    exact ⟨rfl, (Below.refl _ w).alloc (Nat.le_refl _) _⟩
  · have hb0 : ((l.length : Int) == 0) = false := beq_false_of_ne (by omega)
    have hrel : LkRel w.heap.size w l m mv 0 0 (-1, 0, 0) ((w.alloc (medO m mv 24)).alloc (.cells (triV (-1, 0, 0)) 123)) :=
      ⟨(((Below.refl _ w).alloc (Nat.le_refl _) _).alloc (alloc_le (Nat.le_refl _) _) _), (med3_new w m mv 24).alloc _, by have := blkIs_new (w.alloc (medO m mv 24)) (triV (-1, 0, 0)) 123; simpa using this, Or.inl ⟨rfl, rfl⟩, rfl⟩
    have hbdr := rng_bd l hN
    have HAT := Lib.hid hat; have HMV := Lib.hid hmv; have HBD := Lib.hid hbdr; have HREL := Lib.hid hrel; have HEND := Lib.hid (lik_end l m h0); have HM := Lib.hid hm
    clear hat hmv hbdr hrel hN h0 hm
    go_enter Tryd.func33, Tryd.ntmps33
    go_wp2
    go_loopw [15, 6] (fun iv qv wr => ∃ (i : Nat) (q : Int) (t : Tri), iv = .int .i64 i ∧ qv = .int .i64 q ∧ i ≤ l.length ∧ LkRel w.heap.size w l m mv i q t wr) (fun iv _ _ => l.length - (intOf iv).toNat)
    case atStart => exact ⟨0, 0, _, rfl, rfl, Nat.zero_le _, HREL.out⟩
    case round =>
      clear HREL hb0
      obtain ⟨i, q, t, rfl, rfl, hi, hR⟩ := hrel
      by_cases hlt : i < l.length
      · obtain ⟨r, hp⟩ : ∃ r, l[i]? = some r := ⟨_, List.getElem?_eq_getElem hlt⟩
        obtain ⟨g, o, rfl, ⟨x0, x1, x2, sv, x3, hpar⟩, x5⟩ := HAT.out.below hR.1 i r hp
        obtain ⟨ao2, cap2, rfl, hat2⟩ := hpar
        have hps : ParsIn wr (.slice ao2 r.1.ps.length cap2) r.1.ps := ⟨ao2, cap2, rfl, hat2⟩
        have k0 : (0 : Int) ≤ (i : Int) := Int.natCast_nonneg _
        have k1 : (i : Int) < (l.length : Int) := by omega
        have hwi := wrap64_small i (small30 i _ hi hN2)
        have hml := HBD.out i r hp
        have hpl := (mdm_bd r.1 hml).2.2.1
        have hR2 := hR.later ((Below.refl _ wr).alloc (Nat.le_refl _) (.cells (rgC r (.slice ao2 r.1.ps.length cap2)) 82))
        have hRb := blkIs_new wr (rgC r (.slice ao2 r.1.ps.length cap2)) 82
        have hps2 := hps.below ((Below.refl _ wr).alloc (Nat.le_refl _) (.cells (rgC r (.slice ao2 r.1.ps.length cap2)) 82))
        obtain ⟨rm, rq⟩ := r
        simp only at x1 x2 x3 x5 hml hpl
        have HNE := Lib.hid (show wr.heap.size ≠ w.heap.size + 1 from Nat.ne_of_gt hR.2.2.1.lt)
        have HLTW := Lib.hid (show w.heap.size + 1 < wr.heap.size from hR.2.2.1.lt)
        have HR2 := Lib.hid hR2; have HRB := Lib.hid hRb; have HPS := Lib.hid hps2; have HW := Lib.hid hwi; have HP := Lib.hid hp; have HML := Lib.hid (And.intro hml hpl)
        clear hR hps hat2 hwi hp hml hpl hR2 hRb hps2
        go_upto_region 7 with fail
        have HMT := Lib.hid (meets_any rm m (.slice ao2 rm.ps.length cap2) mv ((wr.alloc (.cells (rgC (rm, rq) (.slice ao2 rm.ps.length cap2)) 82)).drew) HML.out.1 HM.out (HPS.out.below ((Below.refl _ _).drew)) (HMV.out.below (HR2.out.1.drew)))
        have HPS := Lib.hid (show ParsIn ((wr.alloc (.cells (rgC (rm, rq) (.slice ao2 rm.ps.length cap2)) 82)).drew) (.slice ao2 rm.ps.length cap2) rm.ps from HPS.out.below ((Below.refl _ _).drew))
        have HRD := Lib.hid (HR2.out.later ((Below.refl _ _).drew))
        have HRBD := Lib.hid (HRB.out.later ((Below.refl _ (wr.alloc (.cells (rgC (rm, rq) (.slice ao2 rm.ps.length cap2)) 82))).drew))
        cases hmt : meetsP rm m with
        | false =>
          rw [hmt] at HMT
          refine wp_region_textH (fun w' => Med3 w.heap.size m mv w' ∧ BlkIs w' wr.heap.size (rgC (rm, rq) (.slice ao2 rm.ps.length cap2)) 82 ∧ BlkIs w' (w.heap.size + 1) (triV t) 123) [(0, true), (1, true), (2, true), (3, false), (4, true), (5, true), (6, true), (8, true), (7, false), (9, false), (10, true)] (by kernel_rfl) (by kernel_rfl) (by kernel_rfl) (by kernel_rfl) ⟨HR2.out.2.1, HRB.out, HR2.out.2.2.1⟩ ?_
          iterate 3 (refine wpTxH_take rfl (by kernel_rfl) (v := ?_) ?_ ?_; rotate_left; · (intro w hS; obtain ⟨⟨s0, s1, s2, s3⟩, hr, ht⟩ := hS; obtain ⟨r0, r1, r2, r3⟩ := rgCells hr; obtain ⟨t0, t1, t2⟩ := triCells ht; clear hr ht; go_simp; with_reducible rfl))
          refine wpTxH_step rfl (fun K hK => ?_)
          go_simp
          refine (HMT.out).mono ?_
          rintro e w1 ⟨rfl, hb1⟩
          have hR3 := HRD.out.later hb1
          have hRb3 := HRBD.out.later hb1
          refine hK _ _ ⟨hR3.2.1, hRb3, hR3.2.2.1⟩ ?_
          clear hK K
          have HR3 := Lib.hid hR3
          have HS1 := Lib.hid (And.intro hR3.2.1 (And.intro hRb3 hR3.2.2.1))
          have HPS1 := Lib.hid (HPS.out.below hb1)
          clear hR3 hRb3 hb1
          refine wpTxH_take rfl (by kernel_rfl) (v := ?_) ?_ ?_; rotate_left; · (intro w hS; clear hS; go_simp; with_reducible rfl)
          iterate 3 (refine wtxH_pass rfl (by kernel_rfl) ?_)
          refine wpTxH_step rfl (fun K hK => ?_)
          go_simp
          refine hK _ _ HS1.out ?_
          clear hK K
          refine wpTxH_step rfl (fun K hK => ?_)
          go_simp
          refine hK _ _ HS1.out ?_
          clear hK K
          refine wpTxH_take rfl (by kernel_rfl) (v := ?_) ?_ ?_; rotate_left; · (intro w hS; clear hS; go_simp; with_reducible rfl)
          refine wpTxH_nil ?_
          go_simp
          go_wp2
          have hwi := HW.out
          go_roundw
          case rel => (try rw [hwi]); clear hwi; exact ⟨i + 1, q, t, by go_num, rfl, hlt, HR3.out.stay (lik_no m l i (rm, rq) HP.out hmt)⟩
          case measure => (try rw [hwi]); clear hwi; simp [intOf]; omega
        | true =>
          rw [hmt] at HMT
          cases hab : decide ((likS m l i).1 < nar rm) with
          | false =>
            refine wp_region_textH (fun w' => Med3 w.heap.size m mv w' ∧ BlkIs w' wr.heap.size (rgC (rm, rq) (.slice ao2 rm.ps.length cap2)) 82 ∧ BlkIs w' (w.heap.size + 1) (triV t) 123) [(0, true), (1, true), (2, true), (3, false), (4, true), (5, true), (6, true), (8, true), (7, false), (9, false), (10, true)] (by kernel_rfl) (by kernel_rfl) (by kernel_rfl) (by kernel_rfl) ⟨HR2.out.2.1, HRB.out, HR2.out.2.2.1⟩ ?_
            iterate 3 (refine wpTxH_take rfl (by kernel_rfl) (v := ?_) ?_ ?_; rotate_left; · (intro w hS; obtain ⟨⟨s0, s1, s2, s3⟩, hr, ht⟩ := hS; obtain ⟨r0, r1, r2, r3⟩ := rgCells hr; obtain ⟨t0, t1, t2⟩ := triCells ht; clear hr ht; go_simp; with_reducible rfl))
            refine wpTxH_step rfl (fun K hK => ?_)
            go_simp
            refine (HMT.out).mono ?_
            rintro e w1 ⟨rfl, hb1⟩
            have hR3 := HRD.out.later hb1
            have hRb3 := HRBD.out.later hb1
            refine hK _ _ ⟨hR3.2.1, hRb3, hR3.2.2.1⟩ ?_
            clear hK K
            have HR3 := Lib.hid hR3
            have HS1 := Lib.hid (And.intro hR3.2.1 (And.intro hRb3 hR3.2.2.1))
            have HPS1 := Lib.hid (HPS.out.below hb1)
            clear hR3 hRb3 hb1
            refine wpTxH_take rfl (by kernel_rfl) (v := ?_) ?_ ?_; rotate_left; · (intro w hS; clear hS; go_simp; with_reducible rfl)
            iterate 3 (refine wpTxH_take rfl (by kernel_rfl) (v := ?_) ?_ ?_; rotate_left; · (intro w hS; obtain ⟨⟨s0, s1, s2, s3⟩, hr, ht⟩ := hS; obtain ⟨r0, r1, r2, r3⟩ := rgCells hr; obtain ⟨t0, t1, t2⟩ := triCells ht; clear hr ht; go_simp; with_reducible rfl))
            refine wpTxH_step rfl (fun K hK => ?_)
            go_simp
            refine (narrow_any rm (.slice ao2 rm.ps.length cap2) w1 HML.out.2 HPS1.out).mono ?_
            rintro e w2 ⟨rfl, hb2⟩
            have hR4 := HR3.out.later hb2
            have hRb4 := HS1.out.2.1.later hb2
            refine hK _ _ ⟨hR4.2.1, hRb4, hR4.2.2.1⟩ ?_
            clear hK K
            have HR4 := Lib.hid hR4
            have HRB4 := Lib.hid hRb4
            have HPS2 := Lib.hid (HPS1.out.below hb2)
            clear hR4 hRb4 hb2
            refine wpTxH_step rfl (fun K hK => ?_)
            go_simp
            refine (above_any (narT rm) t w2).mono ?_
            rintro e w3 ⟨rfl, hb3⟩
            rw [abP_code rm HML.out.2 t _ HR4.out.2.2.2.1, hab]
            have hR5 := HR4.out.later hb3
            have hRb5 := HRB4.out.later hb3
            refine hK _ _ ⟨hR5.2.1, hRb5, hR5.2.2.1⟩ ?_
            clear hK K
            have HR5 := Lib.hid hR5
            have HRB5 := Lib.hid hRb5
            have HPS3 := Lib.hid (HPS2.out.below hb3)
            clear hR5 hRb5 hb3
            refine wpTxH_take rfl (by kernel_rfl) (v := ?_) ?_ ?_; rotate_left; · (intro w hS; clear hS; go_simp; with_reducible rfl)
            refine wpTxH_nil ?_
            go_simp
            go_wp2
            have hwi := HW.out
            go_roundw
            case rel => (try rw [hwi]); clear hwi; exact ⟨i + 1, q, t, by go_num, rfl, hlt, HR5.out.stay (lik_low m l i (rm, rq) HP.out hab)⟩
            case measure => (try rw [hwi]); clear hwi; simp [intOf]; omega
          | true =>
            refine wp_region_textH (fun w' => Med3 w.heap.size m mv w' ∧ BlkIs w' wr.heap.size (rgC (rm, rq) (.slice ao2 rm.ps.length cap2)) 82 ∧ BlkIs w' (w.heap.size + 1) (triV t) 123) [(0, true), (1, true), (2, true), (3, false), (4, true), (5, true), (6, true), (8, true), (7, false), (9, false), (10, true)] (by kernel_rfl) (by kernel_rfl) (by kernel_rfl) (by kernel_rfl) ⟨HR2.out.2.1, HRB.out, HR2.out.2.2.1⟩ ?_
            iterate 3 (refine wpTxH_take rfl (by kernel_rfl) (v := ?_) ?_ ?_; rotate_left; · (intro w hS; obtain ⟨⟨s0, s1, s2, s3⟩, hr, ht⟩ := hS; obtain ⟨r0, r1, r2, r3⟩ := rgCells hr; obtain ⟨t0, t1, t2⟩ := triCells ht; clear hr ht; go_simp; with_reducible rfl))
            refine wpTxH_step rfl (fun K hK => ?_)
            go_simp
            refine (HMT.out).mono ?_
            rintro e w1 ⟨rfl, hb1⟩
            have hR3 := HRD.out.later hb1
            have hRb3 := HRBD.out.later hb1
            refine hK _ _ ⟨hR3.2.1, hRb3, hR3.2.2.1⟩ ?_
            clear hK K
            have HR3 := Lib.hid hR3
            have HS1 := Lib.hid (And.intro hR3.2.1 (And.intro hRb3 hR3.2.2.1))
            have HPS1 := Lib.hid (HPS.out.below hb1)
            clear hR3 hRb3 hb1
            refine wpTxH_take rfl (by kernel_rfl) (v := ?_) ?_ ?_; rotate_left; · (intro w hS; clear hS; go_simp; with_reducible rfl)
            iterate 3 (refine wpTxH_take rfl (by kernel_rfl) (v := ?_) ?_ ?_; rotate_left; · (intro w hS; obtain ⟨⟨s0, s1, s2, s3⟩, hr, ht⟩ := hS; obtain ⟨r0, r1, r2, r3⟩ := rgCells hr; obtain ⟨t0, t1, t2⟩ := triCells ht; clear hr ht; go_simp; with_reducible rfl))
            refine wpTxH_step rfl (fun K hK => ?_)
            go_simp
            refine (narrow_any rm (.slice ao2 rm.ps.length cap2) w1 HML.out.2 HPS1.out).mono ?_
            rintro e w2 ⟨rfl, hb2⟩
            have hR4 := HR3.out.later hb2
            have hRb4 := HS1.out.2.1.later hb2
            refine hK _ _ ⟨hR4.2.1, hRb4, hR4.2.2.1⟩ ?_
            clear hK K
            have HR4 := Lib.hid hR4
            have HRB4 := Lib.hid hRb4
            have HPS2 := Lib.hid (HPS1.out.below hb2)
            clear hR4 hRb4 hb2
            refine wpTxH_step rfl (fun K hK => ?_)
            go_simp
            refine (above_any (narT rm) t w2).mono ?_
            rintro e w3 ⟨rfl, hb3⟩
            rw [abP_code rm HML.out.2 t _ HR4.out.2.2.2.1, hab]
            have hR5 := HR4.out.later hb3
            have hRb5 := HRB4.out.later hb3
            refine hK _ _ ⟨hR5.2.1, hRb5, hR5.2.2.1⟩ ?_
            clear hK K
            have HR5 := Lib.hid hR5
            have HRB5 := Lib.hid hRb5
            have HPS3 := Lib.hid (HPS2.out.below hb3)
            clear hR5 hRb5 hb3
            refine wpTxH_take rfl (by kernel_rfl) (v := ?_) ?_ ?_; rotate_left; · (intro w hS; clear hS; go_simp; with_reducible rfl)
            refine wpTxH_nil ?_
            go_simp
            go_upto_region 8 with fail
            refine wp_region_textH (fun w' => BlkIs w' wr.heap.size (rgC (rm, rq) (.slice ao2 rm.ps.length cap2)) 82) [(0, true), (1, true), (3, true), (4, true), (2, false), (5, false), (6, true)] (by kernel_rfl) (by kernel_rfl) (by kernel_rfl) (by kernel_rfl) HRB5.out ?_
            iterate 4 (refine wpTxH_take rfl (by kernel_rfl) (v := ?_) ?_ ?_; rotate_left; · (intro w hr; obtain ⟨r0, r1, r2, r3⟩ := rgCells hr; clear hr; go_simp; with_reducible rfl))
            refine wpTxH_step rfl (fun K hK => ?_)
            go_simp
            refine (narrow_any rm (.slice ao2 rm.ps.length cap2) w3.drew HML.out.2 (HPS3.out.below ((Below.refl _ w3).drew))).mono ?_
            rintro e w4 ⟨rfl, hb4⟩
            have hR6 := (HR5.out.later ((Below.refl _ w3).drew)).later hb4
            have hRb6 := BlkIs.later (w := w3.drew) HRB5.out hb4
            refine hK _ _ hRb6 ?_
            clear hK K
            have HR6 := Lib.hid hR6
            have HRB6 := Lib.hid hRb6
            have HLT := Lib.hid (show w.heap.size + 1 < wr.heap.size from HLTW.out)
            clear hR6 hRb6 hb4
            refine wpTxH_step rfl (fun K hK => ?_)
            obtain ⟨z0, z1, z2⟩ := triCells HR6.out.2.2.1
            have y0 := HR6.out.2.2.1.free 0
            have y1 := HR6.out.2.2.1.free 1
            have y2 := HR6.out.2.2.1.free 2
            go_simp
            clear z0 z1 z2 y0 y1 y2
            refine hK _ _ (((HRB6.out.setOther _ _ HNE.out).setOther _ _ HNE.out).setOther _ _ HNE.out) ?_
            clear hK K
            have HF := Lib.hid (show LkRel w.heap.size w l m mv (i + 1) rq (narT rm) (((w4.setCell ⟨w.heap.size + 1, 0, none⟩ (.int .i64 (narT rm).1)).setCell ⟨w.heap.size + 1, 1, none⟩ (.int .i64 (narT rm).2.1)).setCell ⟨w.heap.size + 1, 2, none⟩ (.int .i64 (narT rm).2.2)) from
              HR6.out.store _ _ (HML.out.2) (lik_yes m l i (rm, rq) HP.out hmt hab))
            refine wpTxH_take rfl (by kernel_rfl) (v := ?_) ?_ ?_; rotate_left; · (intro w hS; clear hS; go_simp; with_reducible rfl)
            refine wpTxH_nil ?_
            go_simp
            go_wp2
            have hwi := HW.out
            go_roundw
            case rel => (try rw [hwi]); clear hwi; exact ⟨i + 1, rq, narT rm, by go_num, rfl, hlt, HF.out⟩
            case measure => (try rw [hwi]); clear hwi; simp [intOf]; omega
      · obtain rfl : i = l.length := by omega
        have hd : decide (l.length < l.length) = false := decide_eq_false (Nat.lt_irrefl _)
        have HX := Lib.hid (And.intro hR.1 hR.2.2.2.2)
        clear hR
        go_wp2
        go_ret
        rw [HEND.out, HX.out.2]
        exact ⟨rfl, HX.out.1⟩
set_option maxHeartbeats 8000000 in
theorem rliking_any (v mv : Value) (l : List Rng) (m : Mdm) (w : World) (hN : totF rngLen l + l.length ≤ 1073741824) (hm : mdmLen m ≤ 1073741824) (h : RngsIn w v l) (hmv : ParsIn w mv m.ps) :
    Calls Tryd.prog 34 #[v, .agg #[.string ⟨m.ty.toArray⟩, .string ⟨m.sub.toArray⟩, mv]] w fun e w' => e = .returned (.int .i64 (likeP l m)) ∧ Below w.heap.size w w' := by
  obtain ⟨ao, cap, rfl, hat⟩ := h
  have hN2 : l.length ≤ 1073741824 := by omega
  by_cases h0 : l.length = 0
  · have hl : l = [] := List.eq_nil_of_length_eq_zero h0
    subst hl
    go_enter Tryd.func34, Tryd.ntmps34
    go_wp2
    go_ret
    exact ⟨rfl, (Below.refl _ w).alloc (Nat.le_refl _) _⟩
  · have hb0 : ((l.length : Int) == 0) = false := beq_false_of_ne (by omega)
    have hbdr := rng_bd l hN
    have HREL := Lib.hid (And.intro ((Below.refl _ w).alloc (Nat.le_refl _) (medO m mv 30)) (med3_new w m mv 30))
    have HAT := Lib.hid hat; have HMV := Lib.hid hmv; have HBD := Lib.hid hbdr; have HEND := Lib.hid (lik_end l m h0); have HM := Lib.hid hm
    clear hat hmv hbdr hN h0 hm
    go_enter Tryd.func34, Tryd.ntmps34
    go_wp2
    go_loopw [7, 5, 6] (fun iv bv qv wr => ∃ (i : Nat) (b q : Int), iv = .int .i64 i ∧ bv = .int .i64 b ∧ qv = .int .i64 q ∧ i ≤ l.length ∧ likS m l i = (b, q) ∧ Below w.heap.size w wr ∧ Med3 w.heap.size m mv wr) (fun iv _ _ _ => l.length - (intOf iv).toNat)
    case atStart => exact ⟨0, -1, 0, rfl, rfl, rfl, Nat.zero_le _, rfl, HREL.out⟩
    case round =>
      clear HREL hb0
      obtain ⟨i, b, q, rfl, rfl, rfl, hi, hs, hb, hM⟩ := hrel
      by_cases hlt : i < l.length
      · obtain ⟨r, hp⟩ : ∃ r, l[i]? = some r := ⟨_, List.getElem?_eq_getElem hlt⟩
        obtain ⟨g, o, rfl, ⟨x0, x1, x2, sv, x3, hpar⟩, x5⟩ := HAT.out.below hb i r hp
        obtain ⟨ao2, cap2, rfl, hat2⟩ := hpar
        have hps : ParsIn wr (.slice ao2 r.1.ps.length cap2) r.1.ps := ⟨ao2, cap2, rfl, hat2⟩
        have k0 : (0 : Int) ≤ (i : Int) := Int.natCast_nonneg _
        have k1 : (i : Int) < (l.length : Int) := by omega
        have hwi := wrap64_small i (small30 i _ hi hN2)
        have hml := HBD.out i r hp
        have hpl := (mdm_bd r.1 hml).2.2.1
        have hS : RngS g (o + i * 4) r (.slice ao2 r.1.ps.length cap2) wr := ⟨x1, x2, x3, x5, x0⟩
        obtain ⟨rm, rq⟩ := r
        simp only at hml hpl
        have HPS := Lib.hid (show ParsIn wr.drew (.slice ao2 rm.ps.length cap2) rm.ps from hps.below ((Below.refl _ wr).drew))
        have HSR := Lib.hid (show RngS g (o + i * 4) (rm, rq) (.slice ao2 rm.ps.length cap2) wr.drew ∧ Med3 w.heap.size m mv wr.drew from ⟨hS, hM⟩)
        have HBW := Lib.hid hb.drew
        have HMT := Lib.hid (rmeets_any rm m (.slice ao2 rm.ps.length cap2) mv wr.drew hml HM.out HPS.out (HMV.out.below hb.drew))
        have HW := Lib.hid hwi; have HP := Lib.hid hp; have HML := Lib.hid (And.intro hml hpl); have HS := Lib.hid hs
        clear hb hM hs hps hat2 hwi hp hml hpl hS x0 x1 x2 x3 x5
        cases hmt : meetsP rm m with
        | false =>
          rw [hmt] at HMT
          have HST := Lib.hid ((lik_no m l i (rm, rq) HP.out hmt).trans HS.out)
          go_wp2_with fail
          refine wp_region_textH (fun w' => RngS g (o + i * 4) (rm, rq) (.slice ao2 rm.ps.length cap2) w' ∧ Med3 w.heap.size m mv w') [(0, true), (1, true), (2, true), (3, true), (4, true), (5, true), (6, false), (7, true), (8, true), (9, true), (10, true), (11, true), (12, true), (14, true), (13, false), (15, true), (16, true)] (by kernel_rfl) (by kernel_rfl) (by kernel_rfl) (by kernel_rfl) HSR.out ?_
          iterate 6 (refine wpTxH_take rfl (by kernel_rfl) (v := ?_) ?_ ?_; rotate_left; · (intro w hS; obtain ⟨⟨s0, s1, s2, s3, s4⟩, t0, t1, t2, t3⟩ := hS; go_simp; with_reducible rfl))
          refine wpTxH_step rfl (fun K hK => ?_)
          go_simp
          refine (HMT.out).mono ?_
          rintro e w1 ⟨rfl, hb1⟩
          have HS1 := Lib.hid (And.intro (HSR.out.1.below hb1) (HSR.out.2.below hb1))
          have HB1 := Lib.hid (HBW.out.trans (hb1.mono HBW.out.size))
          refine hK _ _ HS1.out ?_
          clear hK K
          have HPS1 := Lib.hid (HPS.out.below hb1)
          clear hb1
          refine wpTxH_take rfl (by kernel_rfl) (v := ?_) ?_ ?_; rotate_left; · (intro w hS; clear hS; go_simp; with_reducible rfl)
          iterate 6 (refine wtxH_pass rfl (by kernel_rfl) ?_)
          refine wpTxH_step rfl (fun K hK => ?_)
          go_simp
          refine hK _ _ HS1.out ?_
          clear hK K
          iterate 1 (refine wtxH_pass rfl (by kernel_rfl) ?_)
          refine wpTxH_take rfl (by kernel_rfl) (v := ?_) ?_ ?_; rotate_left; · (intro w hS; clear hS; go_simp; with_reducible rfl)
          refine wpTxH_nil ?_
          go_simp
          go_wp2
          have hwi := HW.out
          go_roundw
          case rel => (try rw [hwi]); clear hwi; exact ⟨i + 1, b, q, by go_num, rfl, rfl, hlt, HST.out, HB1.out, HS1.out.2⟩
          case measure => (try rw [hwi]); clear hwi; simp [intOf]; omega
        | true =>
          rw [hmt] at HMT
          cases hab : decide (b < nar rm) with
          | false =>
            have HST := Lib.hid ((lik_low m l i (rm, rq) HP.out (by rw [HS.out]; exact hab)).trans HS.out)
            have hle : nar rm ≤ b := by have := of_decide_eq_false hab; omega
            go_wp2_with fail
            refine wp_region_textH (fun w' => RngS g (o + i * 4) (rm, rq) (.slice ao2 rm.ps.length cap2) w' ∧ Med3 w.heap.size m mv w') [(0, true), (1, true), (2, true), (3, true), (4, true), (5, true), (6, false), (7, true), (8, true), (9, true), (10, true), (11, true), (12, true), (14, true), (13, false), (15, true), (16, true)] (by kernel_rfl) (by kernel_rfl) (by kernel_rfl) (by kernel_rfl) HSR.out ?_
            iterate 6 (refine wpTxH_take rfl (by kernel_rfl) (v := ?_) ?_ ?_; rotate_left; · (intro w hS; obtain ⟨⟨s0, s1, s2, s3, s4⟩, t0, t1, t2, t3⟩ := hS; go_simp; with_reducible rfl))
            refine wpTxH_step rfl (fun K hK => ?_)
            go_simp
            refine (HMT.out).mono ?_
            rintro e w1 ⟨rfl, hb1⟩
            have HS1 := Lib.hid (And.intro (HSR.out.1.below hb1) (HSR.out.2.below hb1))
            have HB1 := Lib.hid (HBW.out.trans (hb1.mono HBW.out.size))
            refine hK _ _ HS1.out ?_
            clear hK K
            have HPS1 := Lib.hid (HPS.out.below hb1)
            clear hb1
            refine wpTxH_take rfl (by kernel_rfl) (v := ?_) ?_ ?_; rotate_left; · (intro w hS; clear hS; go_simp; with_reducible rfl)
            iterate 6 (refine wpTxH_take rfl (by kernel_rfl) (v := ?_) ?_ ?_; rotate_left; · (intro w hS; obtain ⟨⟨s0, s1, s2, s3, s4⟩, t0, t1, t2, t3⟩ := hS; go_simp; with_reducible rfl))
            refine wpTxH_step rfl (fun K hK => ?_)
            go_simp
            refine (rnarrow_any rm (.slice ao2 rm.ps.length cap2) w1 HML.out.2 HPS1.out).mono ?_
            rintro e w2 ⟨rfl, hb2⟩
            have HS2 := Lib.hid (And.intro (HS1.out.1.below hb2) (HS1.out.2.below hb2))
            have HB2 := Lib.hid (HB1.out.trans (hb2.mono HB1.out.size))
            refine hK _ _ HS2.out ?_
            clear hK K
            have HPS2 := Lib.hid (HPS1.out.below hb2)
            clear hb2
            iterate 2 (refine wpTxH_take rfl (by kernel_rfl) (v := ?_) ?_ ?_; rotate_left; · (intro w hS; clear hS; go_simp; with_reducible rfl))
            refine wpTxH_nil ?_
            go_simp
            go_wp2
            have hwi := HW.out
            go_roundw
            case rel => (try rw [hwi]); clear hwi; exact ⟨i + 1, b, q, by go_num, rfl, rfl, hlt, HST.out, HB2.out, HS2.out.2⟩
            case measure => (try rw [hwi]); clear hwi; simp [intOf]; omega
          | true =>
            have HST := Lib.hid (lik_yes m l i (rm, rq) HP.out hmt (by rw [HS.out]; exact hab))
            have hle : b < nar rm := of_decide_eq_true hab
            go_wp2_with fail
            refine wp_region_textH (fun w' => RngS g (o + i * 4) (rm, rq) (.slice ao2 rm.ps.length cap2) w' ∧ Med3 w.heap.size m mv w') [(0, true), (1, true), (2, true), (3, true), (4, true), (5, true), (6, false), (7, true), (8, true), (9, true), (10, true), (11, true), (12, true), (14, true), (13, false), (15, true), (16, true)] (by kernel_rfl) (by kernel_rfl) (by kernel_rfl) (by kernel_rfl) HSR.out ?_
            iterate 6 (refine wpTxH_take rfl (by kernel_rfl) (v := ?_) ?_ ?_; rotate_left; · (intro w hS; obtain ⟨⟨s0, s1, s2, s3, s4⟩, t0, t1, t2, t3⟩ := hS; go_simp; with_reducible rfl))
            refine wpTxH_step rfl (fun K hK => ?_)
            go_simp
            refine (HMT.out).mono ?_
            rintro e w1 ⟨rfl, hb1⟩
            have HS1 := Lib.hid (And.intro (HSR.out.1.below hb1) (HSR.out.2.below hb1))
            have HB1 := Lib.hid (HBW.out.trans (hb1.mono HBW.out.size))
            refine hK _ _ HS1.out ?_
            clear hK K
            have HPS1 := Lib.hid (HPS.out.below hb1)
            clear hb1
            refine wpTxH_take rfl (by kernel_rfl) (v := ?_) ?_ ?_; rotate_left; · (intro w hS; clear hS; go_simp; with_reducible rfl)
            iterate 6 (refine wpTxH_take rfl (by kernel_rfl) (v := ?_) ?_ ?_; rotate_left; · (intro w hS; obtain ⟨⟨s0, s1, s2, s3, s4⟩, t0, t1, t2, t3⟩ := hS; go_simp; with_reducible rfl))
            refine wpTxH_step rfl (fun K hK => ?_)
            go_simp
            refine (rnarrow_any rm (.slice ao2 rm.ps.length cap2) w1 HML.out.2 HPS1.out).mono ?_
            rintro e w2 ⟨rfl, hb2⟩
            have HS2 := Lib.hid (And.intro (HS1.out.1.below hb2) (HS1.out.2.below hb2))
            have HB2 := Lib.hid (HB1.out.trans (hb2.mono HB1.out.size))
            refine hK _ _ HS2.out ?_
            clear hK K
            have HPS2 := Lib.hid (HPS1.out.below hb2)
            clear hb2
            iterate 2 (refine wpTxH_take rfl (by kernel_rfl) (v := ?_) ?_ ?_; rotate_left; · (intro w hS; clear hS; go_simp; with_reducible rfl))
            refine wpTxH_nil ?_
            go_simp
            go_upto_region 8 with fail
            refine wp_region_textH (fun w' => RngS g (o + i * 4) (rm, rq) (.slice ao2 rm.ps.length cap2) w' ∧ Med3 w.heap.size m mv w') [(0, true), (1, true), (2, true), (3, true), (4, true), (6, true), (7, true), (8, true), (9, true), (10, true), (5, false), (11, true), (12, true)] (by kernel_rfl) (by kernel_rfl) (by kernel_rfl) (by kernel_rfl) HS2.out ?_
            iterate 10 (refine wpTxH_take rfl (by kernel_rfl) (v := ?_) ?_ ?_; rotate_left; · (intro w hS; obtain ⟨⟨s0, s1, s2, s3, s4⟩, t0, t1, t2, t3⟩ := hS; go_simp; with_reducible rfl))
            refine wpTxH_step rfl (fun K hK => ?_)
            go_simp
            refine (rnarrow_any rm (.slice ao2 rm.ps.length cap2) w2.drew HML.out.2 (HPS2.out.below ((Below.refl _ w2).drew))).mono ?_
            rintro e w4 ⟨rfl, hb4⟩
            have HS4 := Lib.hid (And.intro (RngS.below (w := w2.drew) HS2.out.1 hb4) (Med3.below (w := w2.drew) HS2.out.2 hb4))
            have HB4 := Lib.hid (HB2.out.drew.trans (hb4.mono HB2.out.size))
            refine hK _ _ HS4.out ?_
            clear hK K hb4
            iterate 2 (refine wpTxH_take rfl (by kernel_rfl) (v := ?_) ?_ ?_; rotate_left; · (intro w hS; clear hS; go_simp; with_reducible rfl))
            refine wpTxH_nil ?_
            go_simp
            go_wp2
            have hwi := HW.out
            go_roundw
            case rel => (try rw [hwi]); clear hwi; exact ⟨i + 1, nar rm, rq, by go_num, rfl, rfl, hlt, HST.out, HB4.out, HS4.out.2⟩
            case measure => (try rw [hwi]); clear hwi; simp [intOf]; omega
      · obtain rfl : i = l.length := by omega
        have hd : decide (l.length < l.length) = false := decide_eq_false (Nat.lt_irrefl _)
        have HX := Lib.hid (And.intro hb hs)
        clear hb hs hM
        go_wp2
        go_ret
        rw [HEND.out, HX.out.2]
        exact ⟨rfl, HX.out.1⟩
set_option maxHeartbeats 4000000 in
theorem chooseM_any (p q : Value) (f : Nat → Int) (n : Nat) (w : World) (hn : n ≤ 1073741824)
    (hc : ∀ (W : World) (i : Nat), Below w.heap.size w W → i < n → Calls Tryd.prog 85 #[.int .i64 (i : Int), p, q] W fun e W' => e = .returned (.int .i64 (f i)) ∧ Below W.heap.size W W') :
    Calls Tryd.prog 64 #[.agg #[.int .i64 (n : Int), .func (.func 85) #[] #[p, q]]] w fun e w' => e = .returned (.int .i64 (fstS f n).1) ∧ Below w.heap.size w w' := by
  have hb0 := (Below.refl _ w).alloc (Nat.le_refl _) (.cells #[.int .i64 (n : Int), .func (.func 85) #[] #[p, q]] 114)
  have hB0 := blkIs_new w #[.int .i64 (n : Int), .func (.func 85) #[] #[p, q]] 114
  have HC := Lib.hid hc; have HREL := Lib.hid (And.intro hb0 hB0)
  clear hc hb0 hB0
  go_enter Tryd.func64, Tryd.ntmps64
  go_wp2
  go_loopw [9, 3, 4] (fun iv bv qv wr => ∃ i : Nat, iv = .int .i64 i ∧ bv = .int .i64 (fstS f i).1 ∧ qv = .int .i64 (fstS f i).2 ∧ i ≤ n ∧ Below w.heap.size w wr ∧ BlkIs wr w.heap.size #[.int .i64 (n : Int), .func (.func 85) #[] #[p, q]] 114) (fun iv _ _ _ => n - (intOf iv).toNat)
  case atStart => exact ⟨0, rfl, rfl, rfl, Nat.zero_le _, HREL.out⟩
  case round =>
    clear HREL
    obtain ⟨i, rfl, rfl, rfl, hi, hb, hB⟩ := hrel
    obtain ⟨b, hbv⟩ : ∃ b, (fstS f i).1 = b := ⟨_, rfl⟩
    obtain ⟨x, hxv⟩ : ∃ x, (fstS f i).2 = x := ⟨_, rfl⟩
    rw [hbv, hxv]
    by_cases hlt : i < n
    · have k0 : (0 : Int) ≤ (i : Int) := Int.natCast_nonneg _
      have k1 : (i : Int) < (n : Int) := by omega
      have hwi := wrap64_small i (small30 i _ hi hn)
      have c1 : wr.cell? ⟨w.heap.size, 1, none⟩ = some (.func (.func 85) #[] #[p, q]) := hB.cell 1 _ rfl
      have HCC := Lib.hid (HC.out wr i hb hlt)
      have HW := Lib.hid hwi; have HB := Lib.hid (And.intro hb hB); have HBX := Lib.hid (And.intro hbv hxv)
      clear hwi hb hB hbv hxv
      obtain ⟨y, hy⟩ : ∃ y, f i = y := ⟨_, rfl⟩
      rw [hy] at HCC
      have HY := Lib.hid hy
      clear hy
      go_wp2_with fail
      refine (HCC.out).mono ?_
      rintro e w1 ⟨rfl, hb1⟩
      have HB1 := Lib.hid (And.intro (HB.out.1.trans (hb1.mono HB.out.1.size)) (HB.out.2.later hb1))
      clear hb1 c1
      by_cases hup : x < y
      · have HST := Lib.hid (fstS_up f i (by rw [HBX.out.2, HY.out]; exact hup))
        go_wp2
        have hwi := HW.out
        go_roundw
        case rel => (try rw [hwi]); clear hwi; exact ⟨i + 1, by go_num, by rw [HST.out], by rw [HST.out, HY.out], hlt, HB1.out⟩
        case measure => (try rw [hwi]); clear hwi; simp [intOf]; omega
      · have HST := Lib.hid (fstS_stay f i (by rw [HBX.out.2, HY.out]; omega))
        have hle : y ≤ x := by omega
        go_wp2
        have hwi := HW.out
        go_roundw
        case rel => (try rw [hwi]); clear hwi; exact ⟨i + 1, by go_num, by rw [HST.out, HBX.out.1], by rw [HST.out, HBX.out.2], hlt, HB1.out⟩
        case measure => (try rw [hwi]); clear hwi; simp [intOf]; omega
    · obtain rfl : i = n := by omega
      have hd : decide (i < i) = false := decide_eq_false (Nat.lt_irrefl _)
      have HX := Lib.hid (And.intro hbv hb)
      clear hb hB hbv hxv
      go_wp2
      go_ret
      rw [HX.out.1]
      exact ⟨rfl, HX.out.2⟩
theorem hmf7 (fn : Fn) (first cap : Array Value) (w : World) : (Instr.makeFunc fn first cap).run Tryd.prog w = .ok (.func fn first cap) w := rfl
set_option maxHeartbeats 4000000 in
theorem chlit_any (v ov : Value) (b1 b2 : Nat) (l : List Rng) (o : List Mdm) (i : Nat) (w : World) (hN : totF rngLen l + l.length ≤ 1073741824) (hO : totF mdmLen o + o.length ≤ 1073741824) (h : RngsIn w v l) (ho : MedsIn w ov o) (hi : i < o.length) (h1 : BlkIs w b1 #[v] 56) (h2 : BlkIs w b2 #[ov] 71) :
    Calls Tryd.prog 85 #[.int .i64 (i : Int), .pointer (some ⟨b1, 0, none⟩), .pointer (some ⟨b2, 0, none⟩)] w fun e w' => e = .returned (.int .i64 (likAt l o i)) ∧ Below w.heap.size w w' := by
  obtain ⟨m, hm⟩ : ∃ m, o[i]? = some m := ⟨_, List.getElem?_eq_getElem hi⟩
  have hml := meds_bd o hO i m hm
  rw [likAt_get l o i m hm]
  obtain ⟨oo, ocap, rfl, hat⟩ := ho
  obtain ⟨g, off, rfl, lt, c0, c1, sv, c2, hps⟩ := hat i m hm
  have k0 : (0 : Int) ≤ (i : Int) := Int.natCast_nonneg _
  have k1 : (i : Int) < (o.length : Int) := by omega
  have d1 : w.cell? ⟨b1, 0, none⟩ = some v := h1.cell 0 _ rfl
  have d2 : w.cell? ⟨b2, 0, none⟩ = some (.slice (some ⟨g, off, none⟩) o.length ocap) := h2.cell 0 _ rfl
  have HS := Lib.hid (show w.drew.cell? ⟨b1, 0, none⟩ = some v ∧ w.drew.cell? ⟨b2, 0, none⟩ = some (.slice (some ⟨g, off, none⟩) o.length ocap) ∧ w.drew.cell? ⟨g, off + i * 3, none⟩ = some (.string ⟨m.ty.toArray⟩) ∧ w.drew.cell? ⟨g, off + i * 3 + 1, none⟩ = some (.string ⟨m.sub.toArray⟩) ∧ w.drew.cell? ⟨g, off + i * 3 + 2, none⟩ = some sv from ⟨d1, d2, c0, c1, c2⟩)
  have HL := Lib.hid (liking_any v sv l m w.drew hN hml (h.below ((Below.refl _ w).drew)) (hps.below ((Below.refl _ w).drew)))
  clear hN hO h hat h1 h2 hm hml d1 d2 c0 c1 c2 hps
  go_enter Tryd.func85, Tryd.ntmps85
  go_wp2
  refine wp_region_textH (fun w' => w'.cell? ⟨b1, 0, none⟩ = some v ∧ w'.cell? ⟨b2, 0, none⟩ = some (.slice (some ⟨g, off, none⟩) o.length ocap) ∧ w'.cell? ⟨g, off + i * 3, none⟩ = some (.string ⟨m.ty.toArray⟩) ∧ w'.cell? ⟨g, off + i * 3 + 1, none⟩ = some (.string ⟨m.sub.toArray⟩) ∧ w'.cell? ⟨g, off + i * 3 + 2, none⟩ = some sv) [(0, true), (1, true), (2, true), (3, true), (4, true), (5, false), (6, true)] (by kernel_rfl) (by kernel_rfl) (by kernel_rfl) (by kernel_rfl) HS.out ?_
  iterate 5 (refine wpTxH_take rfl (by kernel_rfl) (v := ?_) ?_ ?_; rotate_left; · (intro w hS; obtain ⟨s0, s1, s2, s3, s4⟩ := hS; go_simp; with_reducible rfl))
  refine wpTxH_step rfl (fun K hK => ?_)
  go_simp
  refine (HL.out).mono ?_
  rintro e w1 ⟨rfl, hb1⟩
  obtain ⟨s0, s1, s2, s3, s4⟩ := HS.out
  refine hK _ _ ⟨mx_later (B := 0) s0 hb1, mx_later (B := 0) s1 hb1, mx_later (B := 0) s2 hb1, mx_later (B := 0) s3 hb1, mx_later (B := 0) s4 hb1⟩ ?_
  clear hK K s0 s1 s2 s3 s4
  have HB := Lib.hid ((Below.refl _ w).drew.trans hb1)
  clear hb1
  refine wpTxH_take rfl (by kernel_rfl) (v := ?_) ?_ ?_; rotate_left; · (intro w hS; clear hS; go_simp; with_reducible rfl)
  refine wpTxH_nil ?_
  go_simp
  go_wp2
  go_ret
  exact ⟨rfl, HB.out⟩
set_option maxHeartbeats 4000000 in
theorem choose_any (v ov : Value) (l : List Rng) (o : List Mdm) (w : World) (hN : totF rngLen l + l.length ≤ 1073741824) (hO : totF mdmLen o + o.length ≤ 1073741824) (h : RngsIn w v l) (ho : MedsIn w ov o) :
    Calls Tryd.prog 40 #[v, ov] w fun e w' => e = .returned (.int .i64 (chooseP l o)) ∧ Below w.heap.size w w' := by
  obtain ⟨lo, lcap, rfl, hlat⟩ := h
  have h : RngsIn w (.slice lo l.length lcap) l := ⟨_, _, rfl, hlat⟩
  obtain ⟨oo, ocap, rfl, hoat⟩ := ho
  have ho : MedsIn w (.slice oo o.length ocap) o := ⟨_, _, rfl, hoat⟩
  obtain ⟨v, hv⟩ : ∃ v, Value.slice lo l.length lcap = v := ⟨_, rfl⟩
  obtain ⟨ov, hov⟩ : ∃ ov, Value.slice oo o.length ocap = ov := ⟨_, rfl⟩
  rw [hv] at h
  rw [hov] at ho
  obtain ⟨W2, hW2⟩ : ∃ W2, (w.alloc (.cells #[v] 56)).alloc (.cells #[ov] 71) = W2 := ⟨_, rfl⟩
  have hb : Below w.heap.size w W2 := by rw [← hW2]; exact ((Below.refl _ w).alloc (Nat.le_refl _) _).alloc (alloc_le (Nat.le_refl _) _) _
  have h1 : BlkIs W2 w.heap.size #[v] 56 := by rw [← hW2]; exact (blkIs_new w _ _).alloc _
  have h2 : BlkIs W2 (w.heap.size + 1) #[ov] 71 := by
    rw [← hW2]
    have := blkIs_new (w.alloc (.cells #[v] 56)) #[ov] 71
    simpa using this
  have HC := Lib.hid (chooseM_any (.pointer (some ⟨w.heap.size, 0, none⟩)) (.pointer (some ⟨w.heap.size + 1, 0, none⟩)) (likAt l o) o.length W2 (by omega) (fun W i hW hi => chlit_any v ov w.heap.size (w.heap.size + 1) l o i W hN hO ((h.below hb).below hW) ((ho.below hb).below hW) hi (h1.later hW) (h2.later hW)))
  rw [← hv, ← hov] at hW2
  have hmf := hmf7
  have HB := Lib.hid hb; have HW := Lib.hid hW2
  have d2 : W2.cell? ⟨w.heap.size + 1, 0, none⟩ = some (.slice oo o.length ocap) := by rw [hov]; exact h2.cell 0 _ rfl
  clear hN hO h ho hlat hoat hb h1 h2 hW2 hv hov
  go_enter Tryd.func40, Tryd.ntmps40
  go_upto_region 1 with fail
  rw [HW.out]
  go_wp2_with fail
  refine (HC.out).mono ?_
  rintro e w1 ⟨rfl, hb1⟩
  have HB1 := Lib.hid (HB.out.trans (hb1.mono HB.out.size))
  clear hb1 d2
  go_wp2
  go_ret
  exact ⟨rfl, HB1.out⟩
set_option maxHeartbeats 4000000 in
theorem rfirst_any (v : Value) (l : List Int) (w : World) (hN : l.length ≤ 1073741824) (h : IntsIn w v l) :
    Calls Tryd.prog 66 #[v] w fun e w' => e = .returned (.int .i64 (fstS (fun i => l.getD i 0) l.length).1) ∧ Below w.heap.size w w' := by
  obtain ⟨ao, cap, rfl, hat⟩ := h
  have HAT := Lib.hid hat
  clear hat
  obtain ⟨f, hf⟩ : ∃ f, (fun i => l.getD i 0) = f := ⟨_, rfl⟩
  rw [hf]
  have HF := Lib.hid hf
  clear hf
  go_enter Tryd.func66, Tryd.ntmps66
  go_wp2
  go_loopw [5, 3, 4] (fun iv bv qv wr => ∃ i : Nat, iv = .int .i64 i ∧ bv = .int .i64 (fstS f i).1 ∧ qv = .int .i64 (fstS f i).2 ∧ i ≤ l.length ∧ Below w.heap.size w wr) (fun iv _ _ _ => l.length - (intOf iv).toNat)
  case atStart => exact ⟨0, rfl, rfl, rfl, Nat.zero_le _, Below.refl _ _⟩
  case round =>
    obtain ⟨i, rfl, rfl, rfl, hi, hb⟩ := hrel
    obtain ⟨b, hbv⟩ : ∃ b, (fstS f i).1 = b := ⟨_, rfl⟩
    obtain ⟨x, hxv⟩ : ∃ x, (fstS f i).2 = x := ⟨_, rfl⟩
    rw [hbv, hxv]
    by_cases hlt : i < l.length
    · obtain ⟨y, hy⟩ : ∃ y, l[i]? = some y := ⟨_, List.getElem?_eq_getElem hlt⟩
      obtain ⟨g, o, rfl, lt, hc⟩ := HAT.out i y hy
      have c0 : wr.cell? ⟨g, o + i, none⟩ = some (.int .i64 y) := by rw [hb.cell (p := ⟨g, o + i, none⟩) lt]; exact hc
      have k0 : (0 : Int) ≤ (i : Int) := Int.natCast_nonneg _
      have k1 : (i : Int) < (l.length : Int) := by omega
      have hwi := wrap64_small i (small30 i _ hi hN)
      have hfy : f i = y := by rw [← HF.out]; simp [hy]
      have HW := Lib.hid hwi; have HB := Lib.hid hb; have HBX := Lib.hid (And.intro hbv hxv); have HY := Lib.hid hfy
      clear hwi hb hbv hxv hfy hy hc
      by_cases hup : x < y
      · have HST := Lib.hid (fstS_up f i (by rw [HBX.out.2, HY.out]; exact hup))
        go_wp2_with fail
        refine wp_region_still_lit (by kernel_rfl) (by kernel_rfl) ?_
        repeat still_step
        refine wpStill_nil ?_
        go_wp2
        have hwi := HW.out
        go_roundw
        case rel => (try rw [hwi]); clear hwi; exact ⟨i + 1, by go_num, by rw [HST.out], by rw [HST.out, HY.out], hlt, HB.out.drew⟩
        case measure => (try rw [hwi]); clear hwi; simp [intOf]; omega
      · have HST := Lib.hid (fstS_stay f i (by rw [HBX.out.2, HY.out]; omega))
        have hle : y ≤ x := by omega
        go_wp2
        have hwi := HW.out
        go_roundw
        case rel => (try rw [hwi]); clear hwi; exact ⟨i + 1, by go_num, by rw [HST.out, HBX.out.1], by rw [HST.out, HBX.out.2], hlt, HB.out⟩
        case measure => (try rw [hwi]); clear hwi; simp [intOf]; omega
    · obtain rfl : i = l.length := by omega
      have hd : decide (l.length < l.length) = false := decide_eq_false (Nat.lt_irrefl _)
      have HX := Lib.hid (And.intro hbv hb)
      clear hb hbv hxv
      go_wp2
      go_ret
      rw [HX.out.1]
      exact ⟨rfl, HX.out.2⟩
theorem infoInt7 : (Tryd.prog.info? 3).map (fun i => (i.zero, i.size, i.bytes)) = some (some (.int .i64 0), 1, 8) := by kernel_rfl
theorem info_partsI (h : (Tryd.prog.info? 3).map (fun i => (i.zero, i.size, i.bytes)) = some (some (.int .i64 0), 1, 8)) : ∃ i, Tryd.prog.info? 3 = some i ∧ i.zero = some (.int .i64 0) ∧ i.size = 1 ∧ i.bytes = 8 := by
  obtain ⟨i, hi, he⟩ := Option.map_eq_some_iff.1 h
  simp only [Prod.mk.injEq] at he
  exact ⟨i, hi, he.1, he.2.1, he.2.2⟩
theorem int_bd (i n : Nat) (h : i < n) (hn : n ≤ 1073741824) : i + 1 ≤ maxLen ∧ (i + 1) * 8 ≤ 140737488355328 := by unfold maxLen; omega
theorem chooseP_map (l : List Rng) (o : List Mdm) : (fstS (fun i => (o.map (likeP l)).getD i 0) (o.map (likeP l)).length).1 = chooseP l o := by
  unfold chooseP
  rw [List.length_map]
  rw [fstS_congr _ (likAt l o) o.length (fun i hi => ?_)]
  obtain ⟨m, hm⟩ : ∃ m, o[i]? = some m := ⟨_, List.getElem?_eq_getElem hi⟩
  rw [likAt_get l o i m hm]
  simp [List.getD_eq_getElem?_getD, hm]
theorem ints_step (l : List Rng) (o : List Mdm) (i : Nat) (m : Mdm) (h : o[i]? = some m) : intsV ((o.map (likeP l)).take (i + 1)) = intsV ((o.map (likeP l)).take i) ++ [.int .i64 (likeP l m)] := by
  rw [take_map (likeP l) o i m h, intsV_snoc]
set_option maxHeartbeats 4000000 in
theorem rchoose_any (v ov : Value) (l : List Rng) (o : List Mdm) (w : World) (hN : totF rngLen l + l.length ≤ 1073741824) (hO : totF mdmLen o + o.length ≤ 1073741824) (h : RngsIn w v l) (ho : MedsIn w ov o) :
    Calls Tryd.prog 41 #[v, ov] w fun e w' => e = .returned (.int .i64 (chooseP l o)) ∧ Below w.heap.size w w' := by
  obtain ⟨oo, ocap, rfl, hat⟩ := ho
  obtain ⟨i0, hi0, hz0, hz1, hz2⟩ := info_partsI infoInt7
  obtain ⟨L, hL⟩ : ∃ L, w.heap.size = L := ⟨_, rfl⟩
  have hN2 : o.length ≤ 1073741824 := by omega
  have hbb : Below L w (w.alloc (.cells #[] 3)) := by rw [← hL]; exact (Below.refl _ w).alloc (Nat.le_refl _) _
  have hrm : (w.alloc (.cells #[] 3)).ownsRow L 3 1 (.slice (some ⟨w.heap.size, 0, none⟩) 0 0) 0 [] := by rw [← hL]; exact World.ownsRow_made w #[] 0 (Nat.le_refl _) (by simp) rfl
  have HL := Lib.hid hL; have HAT := Lib.hid hat; have HH := Lib.hid (And.intro h (And.intro hN hO))
  clear hL hat h hN hO
  go_enter Tryd.func41, Tryd.ntmps41
  go_wp2
  go_loopw [6, 5] (fun iv qv wr => ∃ i : Nat, iv = .int .i64 i ∧ i ≤ o.length ∧ wr.ownsRow L 3 1 qv i (intsV ((o.map (likeP l)).take i)) ∧ Below L w wr) (fun iv _ _ => o.length - (intOf iv).toNat)
  case atStart => exact ⟨0, rfl, Nat.zero_le _, hrm, hbb⟩
  case round =>
    clear hbb hrm
    obtain ⟨i, rfl, hi, hown, hb⟩ := hrel
    have hb' : Below w.heap.size w wr := by rw [HL.out]; exact hb
    by_cases hlt : i < o.length
    · obtain ⟨m, hm⟩ : ∃ m, o[i]? = some m := ⟨_, List.getElem?_eq_getElem hlt⟩
      obtain ⟨g, off, rfl, _, c0, c1, sv, c2, hps⟩ := HAT.out.below hb' i m hm
      have k0 : (0 : Int) ≤ (i : Int) := Int.natCast_nonneg _
      have k1 : (i : Int) < (o.length : Int) := by omega
      have hbd := int_bd i o.length hlt hN2
      have hwi := wrap64_small i (small30 i _ hi hN2)
      have HLK := Lib.hid (rliking_any v sv l m wr HH.out.2.1 (meds_bd o HH.out.2.2 i m hm) (HH.out.1.below hb') hps)
      have HST := Lib.hid (ints_step l o i m hm)
      have HO := Lib.hid hown; have HB := Lib.hid hb; have HW := Lib.hid hwi
      obtain ⟨y, hy⟩ : ∃ y, likeP l m = y := ⟨_, rfl⟩
      rw [hy] at HLK HST
      clear hown hb hb' hwi hps hm hy
      go_wp2_with fail
      refine (HLK.out).mono ?_
      rintro e w1 ⟨rfl, hb1⟩
      have hbL := bsz HB.out HL
      have HO1 := Lib.hid (own_later HO.out hb1)
      have hb2 := HB.out.trans (hb1.mono hbL)
      have HB1 := Lib.hid hb2
      have hbz := hb2.size
      rw [HL.out] at hbz
      clear hb1 c0 c1 c2 hb2
      go_wp2_with (at_builtin; refine wpList_append_own _ rfl (.tmp 14) (.tmp 21) 116 rfl L 3 i0 (.int .i64 0) 1 8 Tryd.underlying116 hi0 hz0 hz1 hz2 rfl (by decide) _ _ _ rfl (HO1.out.alloc _) ⟨w1.heap.size, 0, none⟩ 1 1 [.int .i64 y] rfl rfl (cells_new w1 3 _) (by simp [Value.oneCell']) hbd.1 hbd.2 ?dd ?_)
      case dd => simp; omega
      intro v1 w2 hI1 hg1 _
      have hb2 : Below L w w2 := (HB1.out.alloc hbz _).grown hg1 (by simp; omega) (fun k hk => (HO1.out.lt k hk).1)
      have HI1 := Lib.hid hI1; have HB2 := Lib.hid hb2
      clear hI1 hg1 hb2
      go_wp2
      have hwi := HW.out
      go_roundw
      case rel =>
        (try rw [hwi]); clear hwi
        refine ⟨i + 1, by go_num, by omega, ?_, HB2.out⟩
        rw [HST.out]
        exact HI1.out
      case measure => (try rw [hwi]); clear hwi; simp [intOf]; omega
    · obtain rfl : i = o.length := by omega
      have hd : decide (o.length < o.length) = false := decide_eq_false (Nat.lt_irrefl _)
      have hfull : (o.map (likeP l)).take o.length = o.map (likeP l) := by rw [List.take_of_length_le (by rw [List.length_map]; exact Nat.le_refl _)]
      rw [hfull] at hown
      have hin : IntsIn wr _ (o.map (likeP l)) := intsIn_own (l := o.map (likeP l)) (by rw [List.length_map]; exact hown)
      have HF := Lib.hid (rfirst_any _ (o.map (likeP l)) wr (by rw [List.length_map]; exact hN2) hin)
      have HB := Lib.hid hb'
      have HC := Lib.hid (chooseP_map l o)
      clear hown hb hb' hin hfull
      go_wp2_with fail
      refine (HF.out).mono ?_
      rintro e w1 ⟨rfl, hb1⟩
      rw [HC.out]
      have HB1 := Lib.hid (HB.out.trans (hb1.mono HB.out.size))
      clear hb1
      go_wp2
      go_ret
      exact ⟨rfl, HB1.out⟩
end Go.Proofs.YthnniiakmjonjaaDoor
