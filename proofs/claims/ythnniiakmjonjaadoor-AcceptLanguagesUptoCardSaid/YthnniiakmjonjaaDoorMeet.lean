/- The walk of accept.Meets: the plain function meetsP. Conditions: each of the two has at most 2^30 bytes and parameters. -/
import Derived.Test.YthnniiakmjonjaaDoorHas
import Derived.Deep.DeepCutAuto
namespace Go.Proofs.YthnniiakmjonjaaDoor
open Go.RowKit
set_option linter.unusedSimpArgs false
set_option linter.unusedVariables false
set_option maxRecDepth 1000000
abbrev medO (m : Mdm) (v : Value) (T : TypeId) : Obj := .cells #[.string ⟨m.ty.toArray⟩, .string ⟨m.sub.toArray⟩, v] T
def Med3 (b : Nat) (m : Mdm) (v : Value) (w : World) : Prop := w.cell? ⟨b, 0, none⟩ = some (.string ⟨m.ty.toArray⟩) ∧ w.cell? ⟨b, 1, none⟩ = some (.string ⟨m.sub.toArray⟩) ∧ w.cell? ⟨b, 2, none⟩ = some v ∧ b < w.heap.size
theorem Med3.below {b : Nat} {m : Mdm} {v : Value} {w w' : World} (h : Med3 b m v w) (hb : Below w.heap.size w w') : Med3 b m v w' :=
  ⟨by rw [hb.cell (p := ⟨b, 0, none⟩) h.2.2.2]; exact h.1, by rw [hb.cell (p := ⟨b, 1, none⟩) h.2.2.2]; exact h.2.1, by rw [hb.cell (p := ⟨b, 2, none⟩) h.2.2.2]; exact h.2.2.1, Nat.lt_of_lt_of_le h.2.2.2 hb.size⟩
theorem med3_new (w : World) (m : Mdm) (v : Value) (T : TypeId) : Med3 w.heap.size m v (w.alloc (medO m v T)) :=
  ⟨Lib.cell_of_heap (heap_alloc_new w _) .., Lib.cell_of_heap (heap_alloc_new w _) .., Lib.cell_of_heap (heap_alloc_new w _) .., by simp⟩
theorem Med3.alloc {b : Nat} {m : Mdm} {v : Value} {w : World} (h : Med3 b m v w) (o : Obj) : Med3 b m v (w.alloc o) := h.below ((Below.refl _ w).alloc (Nat.le_refl _) o)
theorem tyOk_star (b : List UInt8) : tyOk [42] b = true := rfl
theorem tyOk_not (a b : List UInt8) (h : a ≠ [42]) : tyOk a b = sameL a b := by unfold tyOk; rw [decide_eq_false h]; rfl
theorem meets_step (l ps : List Par) (i : Nat) (q : Par) (h : l[i]? = some q) (ha : (l.take i).all (hasP ps) = true) (hq : hasP ps q = true) : (l.take (i + 1)).all (hasP ps) = true := take_all _ _ _ _ h ha hq
theorem tyAnd_true (r m : Mdm) (i : Nat) (h : (tyOk r.ty m.ty && tyOk r.sub m.sub) = true) (ha : r.ps.all (hasP m.ps) = true) : meetsP r m = true := by
  rw [Bool.and_eq_true] at h
  exact meets_yes r m h.1 h.2 ha
theorem tyAnd_false (r m : Mdm) (h : (tyOk r.ty m.ty && tyOk r.sub m.sub) = false) : meetsP r m = false := by
  rw [Bool.and_eq_false_iff] at h
  rcases h with h | h
  · exact meets_ty r m h
  · exact meets_sub r m h
def MtRel (L B : Nat) (w : World) (r m : Mdm) (rv mv : Value) (wx : World) : Prop := Below L w wx ∧ Med3 L r rv wx ∧ Med3 B m mv wx
theorem MtRel.later {L B : Nat} {w : World} {r m : Mdm} {rv mv : Value} {wx w' : World} (h : MtRel L B w r m rv mv wx) (hb : Below wx.heap.size wx w') : MtRel L B w r m rv mv w' :=
  ⟨h.1.trans (hb.mono (Nat.le_of_lt h.2.1.2.2.2)), h.2.1.below hb, h.2.2.below hb⟩
set_option maxHeartbeats 8000000 in
theorem meets_any (r m : Mdm) (rv mv : Value) (w : World) (hr : mdmLen r ≤ 1073741824) (hm : mdmLen m ≤ 1073741824) (h1 : ParsIn w rv r.ps) (h2 : ParsIn w mv m.ps) :
    Calls Tryd.prog 23 #[.agg #[.string ⟨r.ty.toArray⟩, .string ⟨r.sub.toArray⟩, rv], .agg #[.string ⟨m.ty.toArray⟩, .string ⟨m.sub.toArray⟩, mv]] w fun e w' => e = .returned (.bool (meetsP r m)) ∧ Below w.heap.size w w' := by
  obtain ⟨rty, rsub, rps⟩ := r
  obtain ⟨mty, msub, mps⟩ := m
  have hbr := mdm_bd _ hr
  have hbm := mdm_bd _ hm
  simp only at hbr hbm h1 h2
  have hrel : MtRel w.heap.size (w.heap.size + 1) w ⟨rty, rsub, rps⟩ ⟨mty, msub, mps⟩ rv mv ((w.alloc (medO ⟨rty, rsub, rps⟩ rv 24)).alloc (medO ⟨mty, msub, mps⟩ mv 24)) :=
    ⟨((Below.refl _ w).alloc (Nat.le_refl _) _).alloc (by simp) _, (med3_new w _ rv 24).alloc _, by have := med3_new (w.alloc (medO ⟨rty, rsub, rps⟩ rv 24)) ⟨mty, msub, mps⟩ mv 24; simpa using this⟩
  obtain ⟨ao, cap, rfl, hat⟩ := h1
  have HAT := Lib.hid hat; have HMP := Lib.hid h2
  have HBR := Lib.hid hbr; have HBM := Lib.hid hbm
  have HREL := Lib.hid hrel
  have hN := hbr.2.2.1
  clear hat h2 hbr hbm hr hm hrel
  have S1 := fun w => osame_any rty mty w HBR.out.1 HBM.out.1
  have S2 := fun w => osame_any rsub msub w HBR.out.2.1 HBM.out.2.1
  go_enter Tryd.func23, Tryd.ntmps23
  go_upto_region 1 with fail
  go_cut [30] (fun s30 wx => s30 = .bool (!(tyOk rty mty && tyOk rsub msub)) ∧ MtRel w.heap.size (w.heap.size + 1) w ⟨rty, rsub, rps⟩ ⟨mty, msub, mps⟩ (.slice ao rps.length cap) mv wx)
  case first =>
    by_cases ht : rty = [42]
    · by_cases hs : rsub = [42]
      · have HT := Lib.hid (show (tyOk rty mty && tyOk rsub msub) = true by rw [ht, hs]; rfl)
        have hbe : (rty == [42]) = true := by rw [ht]; rfl
        have hbe2 : (rsub == [42]) = true := by rw [hs]; rfl
        clear ht hs S1 S2
        go_wp2_with fail
        go_meet
        exact ⟨by rw [HT.out]; rfl, HREL.out⟩
      · have hbe : (rty == [42]) = true := by rw [ht]; rfl
        have hbe2 : (rsub == [42]) = false := beq_false_of_ne hs
        cases hq : sameL rsub msub
        all_goals
          have HT := Lib.hid (show (tyOk rty mty && tyOk rsub msub) = _ by rw [ht, tyOk_not _ _ hs, hq])
          rw [hq] at S2
          have HS2 := Lib.hid S2
          clear S2 S1 hq hs ht
          go_wp2_with fail
          refine (HS2.out _).mono ?_
          rintro e w3 ⟨rfl, hb3⟩
          have HR3 := Lib.hid (HREL.out.later hb3)
          clear hb3
          go_wp2_with fail
          go_meet
          exact ⟨by rw [HT.out]; rfl, HR3.out⟩
    · have hbe : (rty == [42]) = false := beq_false_of_ne ht
      cases hq : sameL rty mty with
      | false =>
        have HT := Lib.hid (show (tyOk rty mty && tyOk rsub msub) = false by rw [tyOk_not _ _ ht, hq]; rfl)
        rw [hq] at S1
        have HS1 := Lib.hid S1
        clear S2 S1 hq ht
        go_wp2_with fail
        refine (HS1.out _).mono ?_
        rintro e w3 ⟨rfl, hb3⟩
        have HR3 := Lib.hid (HREL.out.later hb3)
        clear hb3
        go_wp2_with fail
        go_meet
        exact ⟨by rw [HT.out]; rfl, HR3.out⟩
      | true =>
        rw [hq] at S1
        have HS1 := Lib.hid S1
        have hty : tyOk rty mty = true := by rw [tyOk_not _ _ ht, hq]
        clear S1 hq ht
        by_cases hs : rsub = [42]
        · have HT := Lib.hid (show (tyOk rty mty && tyOk rsub msub) = true by rw [hty, hs]; rfl)
          have hbe2 : (rsub == [42]) = true := by rw [hs]; rfl
          clear S2 hs hty
          go_wp2_with fail
          refine (HS1.out _).mono ?_
          rintro e w3 ⟨rfl, hb3⟩
          have hR3 := HREL.out.later hb3
          have HR3 := Lib.hid hR3
          obtain ⟨_, ⟨_, d1, _, _⟩, _, e1, _, _⟩ := hR3
          clear hb3
          go_wp2_with fail
          go_meet
          exact ⟨by rw [HT.out]; rfl, HR3.out⟩
        · have hbe2 : (rsub == [42]) = false := beq_false_of_ne hs
          cases hq2 : sameL rsub msub
          all_goals
            have HT := Lib.hid (show (tyOk rty mty && tyOk rsub msub) = _ by rw [hty, tyOk_not _ _ hs, hq2])
            rw [hq2] at S2
            have HS2 := Lib.hid S2
            clear S2 hq2 hs hty
            go_wp2_with fail
            refine (HS1.out _).mono ?_
            rintro e w3 ⟨rfl, hb3⟩
            have hR3 := HREL.out.later hb3
            have HR3 := Lib.hid hR3
            obtain ⟨_, ⟨_, d1, _, _⟩, _, e1, _, _⟩ := hR3
            clear hb3
            go_wp2_with fail
            refine (HS2.out _).mono ?_
            rintro e w4 ⟨rfl, hb4⟩
            have HR4 := Lib.hid (HR3.out.later hb4)
            clear hb4 d1 e1
            go_wp2_with fail
            go_meet
            exact ⟨by rw [HT.out]; rfl, HR4.out⟩
  case rest =>
  obtain ⟨rfl, hR⟩ := hcut
  clear S1 S2
  cases hA : (tyOk rty mty && tyOk rsub msub) with
  | false =>
    have HX := Lib.hid (And.intro (tyAnd_false ⟨rty, rsub, rps⟩ ⟨mty, msub, mps⟩ hA) hR.1)
    clear hA hR
    go_wp2
    go_ret
    rw [HX.out.1]
    exact ⟨rfl, HX.out.2⟩
  | true =>
    have HA := Lib.hid hA
    have HR := Lib.hid hR
    clear hA
    obtain ⟨_, ⟨_, _, d2, _⟩, _, _, e2, _⟩ := hR
    go_wp2
    go_loopw [34] (fun iv wr => ∃ i : Nat, iv = .int .i64 i ∧ i ≤ rps.length ∧ (rps.take i).all (hasP mps) = true ∧ MtRel w.heap.size (w.heap.size + 1) w ⟨rty, rsub, rps⟩ ⟨mty, msub, mps⟩ (.slice ao rps.length cap) mv wr) (fun iv _ => rps.length - (intOf iv).toNat)
    case atStart => exact ⟨0, rfl, Nat.zero_le _, rfl, HR.out⟩
    case round =>
      clear d2 e2
      obtain ⟨i, rfl, hi, hok, hR⟩ := hrel
      by_cases hlt : i < rps.length
      · obtain ⟨q, hq⟩ : ∃ q, rps[i]? = some q := ⟨_, List.getElem?_eq_getElem hlt⟩
        obtain ⟨g, o, rfl, hg, c0, c1, c2⟩ := HAT.out.below hR.1 i q hq
        have k0 : (0 : Int) ≤ (i : Int) := Int.natCast_nonneg _
        have k1 : (i : Int) < (rps.length : Int) := by omega
        have hwi := wrap64_small i (small30 i _ hi hN)
        have hR2 := hR.later ((Below.refl _ wr).alloc (Nat.le_refl _) (parO q 80))
        have hqs := (HBR.out.2.2.2 i q hq).1
        have HHAS := Lib.hid (has_any mv mps q (wr.alloc (parO q 80)) HBM.out.2.2.1 HBM.out.2.2.2 hqs (HMP.out.below hR2.1))
        obtain ⟨q1, q2, q3⟩ := q
        simp only at c0 c1 c2
        have HR2 := Lib.hid hR2; have HW := Lib.hid hwi
        obtain ⟨_, _, _, _, e2, _⟩ := hR
        cases hhq : hasP mps (q1, q2, q3) with
        | false =>
          have HST := Lib.hid (meets_ps ⟨rty, rsub, rps⟩ ⟨mty, msub, mps⟩ i _ hq hhq)
          rw [hhq] at HHAS
          clear hhq hq hok hR2 hwi hqs
          go_wp2_with fail
          refine (HHAS.out).mono ?_
          rintro e w3 ⟨rfl, hb3⟩
          have HB3 := Lib.hid (HR2.out.later hb3).1
          clear hb3
          go_wp2
          go_ret
          rw [HST.out]
          exact ⟨rfl, HB3.out⟩
        | true =>
          have HST := Lib.hid (meets_step rps mps i _ hq hok hhq)
          rw [hhq] at HHAS
          clear hhq hq hok hR2 hwi hqs
          go_wp2_with fail
          refine (HHAS.out).mono ?_
          rintro e w3 ⟨rfl, hb3⟩
          have HR3 := Lib.hid (HR2.out.later hb3)
          clear hb3
          go_wp2
          have hwi := HW.out
          go_roundw
          case rel => (try rw [hwi]); clear hwi; exact ⟨i + 1, by go_num, hlt, HST.out, HR3.out⟩
          case measure => (try rw [hwi]); clear hwi; simp [intOf]; omega
      · obtain rfl : i = rps.length := by omega
        have hd : decide (rps.length < rps.length) = false := decide_eq_false (Nat.lt_irrefl _)
        rw [List.take_length] at hok
        have HX := Lib.hid (And.intro (tyAnd_true ⟨rty, rsub, rps⟩ ⟨mty, msub, mps⟩ 0 HA.out hok) hR.1)
        clear hok hR HR
        go_wp2
        go_ret
        rw [HX.out.1]
        exact ⟨rfl, HX.out.2⟩
end Go.Proofs.YthnniiakmjonjaaDoor
