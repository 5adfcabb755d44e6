/- The walk of the reference's Parse of layer 15. Conditions: the text is small. -/
import Derived.Test.YtlfdeenekjklgaaGreatDoorPa35
import Derived.Test.YtlfdeenekjklgaaGreatDoorPk36
import Derived.Test.YtlfdeenekjklgaaGreatDoorPk17
import Derived.Deep.DeepCutAuto
namespace Go.Proofs.YtlfdeenekjklgaaGreatDoor
open Go.RowKit
set_option linter.unusedSimpArgs false
set_option linter.unusedVariables false
set_option maxRecDepth 1000000
/-- What the reference's Parse answers. -/
def RPsPost (R : PsRes) (w : World) (e : Ending) (w' : World) : Prop :=
  ∃ v, e = .returned (.tuple #[v, .int .i64 (R.2.1 : Nat), .int .i64 (R.2.2 : Nat)]) ∧ PrtsIn w' v R.1 ∧ Below w.heap.size w w'
theorem prtsIn_nil (w : World) (ao : Option Addr) (cap : Nat) : PrtsIn w (.slice ao 0 cap) [] := ⟨ao, cap, rfl, fun i p hp => by simp at hp⟩
theorem hdF_none (f : Nat) (s : List UInt8) (a : Nat) (st : HdSt) (h : fnd crlf (s.drop a) = none) : hdF (f + 1) s a st = (st.p, s.length, 154) := by unfold hdF; rw [h]
theorem hdF_zero (f : Nat) (s : List UInt8) (a : Nat) (st : HdSt) (h : fnd crlf (s.drop a) = some 0) : hdF (f + 1) s a st = if st.named = true then (st.p, a + 2, 0) else (st.p, a, 152) := by unfold hdF; rw [h]
theorem hdF_line (f : Nat) (s : List UInt8) (a : Nat) (st : HdSt) (n : Nat) (h : fnd crlf (s.drop a) = some (n + 1)) : hdF (f + 1) s a st = if (hdStep st ((s.drop a).take (n + 1))).2 ≠ 0 then (st.p, a, (hdStep st ((s.drop a).take (n + 1))).2) else hdF f s (a + (n + 1) + 2) (hdStep st ((s.drop a).take (n + 1))).1 := by
  rw [hdF, h]
theorem fl_grown (W : World) (r : Nat) (P : Prt) : W.grownBy (((((W.setCell ⟨r, 0, none⟩ (.string ⟨P.name.toArray⟩)).setCell ⟨r, 1, none⟩ (.string ⟨P.file.toArray⟩)).setCell ⟨r, 2, none⟩ (.string ⟨P.media.toArray⟩)).setCell ⟨r, 3, none⟩ (.string ⟨P.body.toArray⟩)).setCell ⟨r, 4, none⟩ (.bool P.has)) (some r) :=
  ((((gb_set _ _ _ _).trans (gb_set _ _ _ _)).trans (gb_set _ _ _ _)).trans (gb_set _ _ _ _)).trans (gb_set _ _ _ _)
theorem fl_leaf2 {W : World} {r : Nat} {q : Prt} (hR : RprIs W r q) (P : Prt) :
    RprIs (((((W.setCell ⟨r, 0, none⟩ (.string ⟨P.name.toArray⟩)).setCell ⟨r, 1, none⟩ (.string ⟨P.file.toArray⟩)).setCell ⟨r, 2, none⟩ (.string ⟨P.media.toArray⟩)).setCell ⟨r, 3, none⟩ (.string ⟨P.body.toArray⟩)).setCell ⟨r, 4, none⟩ (.bool P.has)) r P :=
  (((BlkIs.set (BlkIs.set hR 0 _) 1 _).set 2 _).set 3 _).set 4 _
theorem al_drewR (w : World) (o : Obj) : Below w.heap.size w ((w.alloc o).drew) := ((Below.refl _ w).alloc (Nat.le_refl _) o).drew
def bAtB (mk s : List UInt8) (a : Nat) : Bool := mk.isPrefixOf (s.drop a) && (decide (a = 0) || (decide (2 ≤ a) && crlf.isPrefixOf (s.drop (a - 2))))
theorem bAtB_iff (mk s : List UInt8) (a : Nat) : bAtB mk s a = true ↔ bAt mk s a := by
  unfold bAtB bAt
  simp only [Bool.and_eq_true, Bool.or_eq_true, decide_eq_true_eq]
/-- What holds ahead of a round of the reference's outer loop. -/
def RpI (s mk : List UInt8) (most : Int) (R : PsRes) (w : World) (iv ov : Value) (W : World) : Prop :=
  ∃ (a : Nat) (done : List Prt) (f : Nat) (av : Option Addr) (cv : Nat), iv = .int .i64 (a : Int) ∧ ov = .slice av done.length cv ∧ (a + mk.length ≤ s.length ∧ s.length < f + a ∧ 4 * done.length ≤ a ∧ (done.length : Int) ≤ most) ∧ W.ownsRow w.heap.size 77 5 (.slice av done.length cv) done.length (prtsV done) ∧ Below w.heap.size w W ∧ alF f mk s most done (some a) = R
set_option maxHeartbeats 100000000 in
theorem rparse_any (bd s : List UInt8) (most : Int) (w : World) (hbd : bd.length ≤ 1099511627776) (hs : s.length ≤ 1073741824) :
    Calls Tryz.prog 9 #[.string ⟨bd.toArray⟩, .string ⟨s.toArray⟩, .int .i64 most] w (RPsPost (psR bd s most) w) := by
  obtain ⟨i0, hi0, hz0, hz1, hz2⟩ := info_partsQ infoRPart
  obtain ⟨B, hB⟩ : ∃ B, w.heap.size = B := ⟨_, rfl⟩
  obtain ⟨w1, hw1⟩ : ∃ w1, w.alloc (.cells #[] 77) = w1 := ⟨_, rfl⟩
  have hb1 : Below w.heap.size w w1 := by rw [← hw1]; exact (Below.refl _ w).alloc (Nat.le_refl _) _
  have him := fun W => ismark_any ⟨bd.toArray⟩ W (by rw [size_mk]; exact hbd)
  rw [show (⟨bd.toArray⟩ : ByteArray).data.toList = bd from rfl] at him
  have hR : psR bd s most = if isMrk bd = false then ([], 0, 151) else if most < 1 then ([], 0, 1) else alF (s.length + 2) (45 :: 45 :: bd) s most [] (fst9 (45 :: 45 :: bd) s 0) := rfl
  obtain ⟨R, hRR⟩ : ∃ R, psR bd s most = R := ⟨_, rfl⟩
  rw [hRR] at hR ⊢
  obtain ⟨ib, hib⟩ : ∃ ib, isMrk bd = ib := ⟨_, rfl⟩
  rw [hib] at him hR
  have HIM := Lib.hid him
  have HW1 := Lib.hid hw1; have HSB := Lib.hid hB
  have HB1 := Lib.hid hb1
  clear him hw1 hB hb1 hRR
  cases ib with
  | false =>
    have HR2 := Lib.hid (hR.trans (if_pos rfl))
    clear hR
    go_enter Tryz.func9, Tryz.ntmps9
    go_upto_region 2 with fail
    rw [HW1.out]
    go_wp2_with fail
    refine (HIM.out _).mono ?_
    rintro e w2 ⟨rfl, hb2⟩
    have HB2 := Lib.hid (HB1.out.trans (hb2.mono HB1.out.size))
    clear hb2 HIM
    go_wp2
    go_ret3
    rw [HR2.out]
    exact ⟨_, rfl, prtsIn_nil _ _ _, HB2.out⟩
  | true =>
    by_cases hmo : most < 1
    · have b0 : decide (most < 1) = true := decide_eq_true hmo
      have HR2 := Lib.hid ((hR.trans (if_neg (by simp))).trans (if_pos hmo))
      have HMO := Lib.hid hmo
      clear hR hmo
      go_enter Tryz.func9, Tryz.ntmps9
      go_upto_region 2 with fail
      rw [HW1.out]
      go_wp2_with fail
      refine (HIM.out _).mono ?_
      rintro e w2 ⟨rfl, hb2⟩
      have HB2 := Lib.hid (HB1.out.trans (hb2.mono HB1.out.size))
      clear hb2 HIM
      go_wp2
      go_ret3
      rw [HR2.out]
      exact ⟨_, rfl, prtsIn_nil _ _ _, HB2.out⟩
    · have b0 : decide (most < 1) = false := decide_eq_false hmo
      have hR2 := ((hR.trans (if_neg (by simp))).trans (if_neg hmo))
      have hl : bd.length ≤ 70 := by
        have h := hib
        unfold isMrk at h
        simp only [Bool.and_eq_true, decide_eq_true_eq] at h
        omega
      have e1 : (⟨#[45, 45]⟩ : ByteArray) ++ (⟨bd.toArray⟩ : ByteArray) = ⟨(45 :: 45 :: bd).toArray⟩ := ba_ext (by simp)
      have l1 : ¬ 9223372036854775807 < 2 + bd.length := by omega
      have hbz : (⟨bd.toArray⟩ : ByteArray).size = bd.length := size_mk bd
      have hsz : (⟨s.toArray⟩ : ByteArray).size = s.length := size_mk s
      obtain ⟨mk, hmk⟩ : ∃ mk, 45 :: 45 :: bd = mk := ⟨_, rfl⟩
      have hkl : 2 ≤ mk.length ∧ mk.length ≤ 72 := by rw [← hmk]; simp only [List.length_cons]; omega
      have hk0 : mk ≠ [] := by rw [← hmk]; simp
      have hkz : (⟨mk.toArray⟩ : ByteArray).size = mk.length := size_mk mk
      rw [hmk] at e1 hR2
      have HR := Lib.hid hR2
      have HM := Lib.hid (And.intro hs (And.intro hkl (And.intro hk0 (show 1 ≤ most by omega))))
      have hst := fun (W : World) (a : Nat) (ha : a ≤ 4294967296) => rstarts_any s mk a W (by omega) ha hk0 (by omega)
      have hsc := fun (W : World) (a : Nat) (ha : a ≤ 4294967296) => rstarts_any s crlf a W (by omega) ha (by decide) (by decide)
      have HST := Lib.hid hst; have HSC := Lib.hid hsc
      clear hR hR2 hl hmk hkl hk0 hst hsc hib hbd
      go_enter Tryz.func9, Tryz.ntmps9
      go_upto_region 2 with fail
      rw [HW1.out]
      go_wp2_with fail
      refine (HIM.out _).mono ?_
      rintro e w2 ⟨rfl, hb2⟩
      have HB2 := Lib.hid (HB1.out.trans (hb2.mono HB1.out.size))
      clear hb2 HIM
      go_upto_region 7 with fail
      clear e1
      go_wp2
      go_loopw [11] (fun iv wr => ∃ a : Nat, iv = .int .i64 (a : Int) ∧ a ≤ s.length ∧ (∀ j, j < a → ¬ bAt mk s j) ∧ wr = w2) (fun iv _ => s.length + 1 - (intOf iv).toNat)
      case atStart => exact ⟨0, rfl, Nat.zero_le _, fun j hj => by omega, rfl⟩
      case round =>
        obtain ⟨a, rfl, ha, hnb, rfl⟩ := hrel
        obtain ⟨bz, hbz'⟩ : ∃ bz, bAtB mk s a = bz := ⟨_, rfl⟩
        have HNB := Lib.hid (And.intro hnb hbz')
        have hbe : bz = (mk.isPrefixOf (s.drop a) && (decide (a = 0) || (decide (2 ≤ a) && crlf.isPrefixOf (s.drop (a - 2))))) := hbz'.symm
        have HBE := Lib.hid hbe
        clear hnb hbz' hbe
        go_upto_region 8 with fail
        go_cut [55] (fun s55 wx => s55 = .bool (!bz) ∧ wr = wx)
        case first =>
          have hbe := HBE.out
          obtain ⟨pz, hpz⟩ : ∃ pz, mk.isPrefixOf (s.drop a) = pz := ⟨_, rfl⟩
          have hq := HST.out wr a (by have := HM.out.1; omega)
          rw [hpz] at hbe hq
          have HQ := Lib.hid hq
          clear hq hpz
          cases pz with
          | false =>
            have HF := Lib.hid (show bz = false from hbe)
            clear hbe
            go_wp2_with fail
            refine HQ.out.mono ?_
            rintro e wz ⟨rfl, hwz⟩
            rw [hwz]
            clear hwz
            go_wp2_with fail
            go_meet
            exact ⟨by (rw [HF.out]) <;> rfl, by first | rfl | trivial⟩
          | true =>
            by_cases ha0 : a = 0
            · subst ha0
              have HF := Lib.hid (show bz = true from hbe)
              clear hbe
              go_wp2_with fail
              refine HQ.out.mono ?_
              rintro e wz ⟨rfl, hwz⟩
              rw [hwz]
              clear hwz
              go_wp2_with fail
              go_meet
              exact ⟨by (rw [HF.out]) <;> rfl, by first | rfl | trivial⟩
            · have g0 : decide ((0 : Int) < (a : Int)) = true := decide_eq_true (by omega)
              have g00 : decide (0 < a) = true := decide_eq_true (by omega)
              by_cases ha2 : a < 2
              · have g1 : decide ((a : Int) < 2) = true := decide_eq_true (by omega)
                have g10 : decide (a < 2) = true := decide_eq_true ha2
                have HF := Lib.hid (show bz = false by rw [hbe, decide_eq_false ha0, decide_eq_false (show ¬ 2 ≤ a by omega)]; rfl)
                clear hbe
                go_wp2_with fail
                refine HQ.out.mono ?_
                rintro e wz ⟨rfl, hwz⟩
                rw [hwz]
                clear hwz
                go_wp2_with fail
                go_meet
                exact ⟨by (rw [HF.out]) <;> rfl, by first | rfl | trivial⟩
              · have g1 : decide ((a : Int) < 2) = false := decide_eq_false (by omega)
                have g10 : decide (a < 2) = false := decide_eq_false ha2
                obtain ⟨y, hy⟩ : ∃ y, y + 2 = a := ⟨a - 2, by omega⟩
                have hcq := HSC.out wr y (by have := HM.out.1; omega)
                obtain ⟨cz, hcz⟩ : ∃ cz, crlf.isPrefixOf (s.drop y) = cz := ⟨_, rfl⟩
                rw [hcz] at hcq
                have HF := Lib.hid (show bz = cz by rw [hbe, decide_eq_false ha0, decide_eq_true (show 2 ≤ a by omega), show a - 2 = y by omega, hcz]; simp)
                have HCQ := Lib.hid hcq
                have hsub : wrap64 ((a : Int) - 2) = (y : Int) ∧ IntKind.i64.wrap ((a : Int) - 2) = (y : Int) := by
                  have := HM.out.1
                  constructor
                  · unfold wrap64; omega
                  · rw [IntKind.wrap_i64]; omega
                obtain ⟨u1, u2⟩ := hsub
                clear hbe hcq hcz hy
                go_wp2_with fail
                refine HQ.out.mono ?_
                rintro e wz ⟨rfl, hwz⟩
                rw [hwz]
                clear hwz
                go_wp2_with fail
                refine HCQ.out.mono ?_
                rintro e wz ⟨rfl, hwz⟩
                rw [hwz]
                clear hwz
                go_wp2_with fail
                go_meet
                exact ⟨by (rw [HF.out]) <;> rfl, by first | rfl | trivial⟩
        case rest =>
        obtain ⟨rfl, rfl⟩ := hcut
        cases bz with
        | false =>
          as_aux_lemma =>
            have hnb' : ∀ j, j < a + 1 → ¬ bAt mk s j := fun j hj h => by
              by_cases hja : j < a
              · exact HNB.out.1 j hja h
              · obtain rfl : j = a := by omega
                have := (bAtB_iff mk s j).2 h
                rw [HNB.out.2] at this
                cases this
            obtain ⟨a', ha'⟩ : ∃ a', a + 1 = a' := ⟨_, rfl⟩
            have f1 : (a : Int) + 1 = (a' : Int) := by omega
            have HU := Lib.hid (w64i (a' : Int) (by omega) (by have := HM.out.1; omega))
            rw [ha'] at hnb'
            by_cases hlt : s.length < a'
            · have g0 : decide ((s.length : Int) < (a' : Int)) = true := decide_eq_true (by omega)
              have g00 : decide (s.length < a') = true := decide_eq_true hlt
              have HF := Lib.hid (show R = ([], s.length, 154) by rw [HR.out, fst9_no mk s (fun j hj => hnb' j (by omega)), al_none])
              clear hnb' ha' hlt
              obtain ⟨u1, u2⟩ := HU.out
              go_wp2
              go_ret3
              rw [HF.out]
              exact ⟨_, rfl, prtsIn_nil _ _ _, HB2.out⟩
            · have g0 : decide ((s.length : Int) < (a' : Int)) = false := decide_eq_false (by omega)
              have g00 : decide (s.length < a') = false := decide_eq_false hlt
              have HF := Lib.hid (And.intro hnb' (show a' ≤ s.length by omega))
              have HA := Lib.hid ha'
              clear hnb' ha' hlt
              obtain ⟨u1, u2⟩ := HU.out
              go_wp2
              go_roundw
              case rel => exact ⟨a', rfl, HF.out.2, HF.out.1, by first | rfl | trivial⟩
              case measure => clear u1 u2; have h1 := HA.out; have h2 := HF.out.2; simp [intOf]; omega
        | true =>
          rw [show (!true) = false from rfl]
          have hat : bAt mk s a := (bAtB_iff mk s a).1 HNB.out.2
          have hf9 := fst9_is mk s a ha hat HNB.out.1
          have hpl := (List.isPrefixOf_iff_prefix.1 hat.1).length_le
          rw [List.length_drop] at hpl
          have hR3 := HR.out
          rw [hf9] at hR3
          have ham : a + mk.length ≤ s.length := by have := HM.out.2.1.1; omega
          obtain ⟨B3, hB3⟩ : ∃ B3, wr.heap.size = B3 := ⟨_, rfl⟩
          obtain ⟨w3, hw3⟩ : ∃ w3, wr.alloc (.cells #[] 77) = w3 := ⟨_, rfl⟩
          have hb3 : Below wr.heap.size wr w3 := by rw [← hw3]; exact (Below.refl _ wr).alloc (Nat.le_refl _) _
          have hrow : w3.ownsRow w.heap.size 77 5 (.slice (some ⟨B3, 0, none⟩) 0 0) 0 (prtsV []) := by rw [← hw3, ← hB3]; exact World.ownsRow_made wr #[] 0 HB2.out.size (by simp) rfl
          have hI : RpI s mk most R w (.int .i64 (a : Int)) (.slice (some ⟨B3, 0, none⟩) 0 0) w3 := ⟨a, [], s.length + 2, some ⟨B3, 0, none⟩, 0, rfl, rfl, ⟨ham, by omega, by simp, by have := HM.out.2.2.2; simp; omega⟩, hrow, HB2.out.trans (hb3.mono HB2.out.size), hR3.symm⟩
          have HI := Lib.hid hI
          have HW3 := Lib.hid hw3; have HSB3 := Lib.hid hB3
          clear hat hf9 hpl hR3 ham hB3 hw3 hb3 hrow hI HNB HBE
          go_upto_region 13 with fail
          rw [HW3.out]
          simp only [HSB3.out]
          go_loopw [11, 12] (fun iv ov wr => RpI s mk most R w iv ov wr) (fun iv _ _ => s.length + 1 - (intOf iv).toNat)
          case atStart => exact HI.out
          case round =>
            clear HI HW3 HSB3
            obtain ⟨a, done, f, av, cv, rfl, rfl, ⟨ha1, ha2, ha3, ha4⟩, hown, hb, hal⟩ := hrel
            have ha5 : a ≤ s.length := by omega
            obtain ⟨f, rfl⟩ : ∃ k, f = k + 1 := ⟨f - 1, by omega⟩
            obtain ⟨h, hh⟩ : ∃ h, a + mk.length = h := ⟨_, rfl⟩
            have hhs : h ≤ s.length := by omega
            have h1 : (a : Int) + (mk.length : Int) = (h : Int) := by omega
            have hdl : done.length ≤ 1073741824 := by have := HM.out.1; omega
            obtain ⟨more, hmore⟩ : ∃ b, (!done.isEmpty) = b := ⟨_, rfl⟩
            have hd1 : decide ((0 : Int) < (done.length : Int)) = more := by rw [← hmore]; cases done <;> simp
            have hd2 : decide (0 < done.length) = more := by rw [← hmore]; cases done <;> simp
            obtain ⟨dz, hdz⟩ : ∃ dz, (more && ([45, 45] : List UInt8).isPrefixOf (s.drop h)) = dz := ⟨_, rfl⟩
            have HWH := Lib.hid (w64i (h : Int) (by omega) (by have := HM.out.1; omega))
            have hsd := fun (W : World) (a : Nat) (ha : a ≤ 4294967296) => rstarts_any s [45, 45] a W (by have := HM.out.1; omega) ha (by decide) (by decide)
            have HSD := Lib.hid hsd
            have HN := Lib.hid (And.intro ha1 (And.intro ha2 (And.intro ha3 (And.intro ha4 (And.intro ha5 (And.intro hh (And.intro hhs hdl)))))))
            have HR2 := Lib.hid (And.intro hown (And.intro hb (And.intro hal hmore)))
            have HDZ := Lib.hid hdz
            have k0 : (0 : Int) ≤ (h : Int) := Int.natCast_nonneg _
            clear ha1 ha2 ha3 ha4 ha5 hh hhs hdl hown hb hal hmore hdz hsd
            obtain ⟨u1, u2⟩ := HWH.out
            go_upto_region 14 with fail
            clear u1 u2
            go_cut [77] (fun s77 wx => s77 = .bool dz ∧ wr = wx)
            case first =>
              cases more with
              | false =>
                have HF := Lib.hid (show dz = false from HDZ.out.symm)
                go_wp2_with fail
                go_meet
                exact ⟨by (rw [HF.out]) <;> rfl, by first | rfl | trivial⟩
              | true =>
                have hq := HSD.out wr h (by have h1 := HM.out.1; have h2 := HN.out.2.2.2.2.2.2.1; omega)
                have hdz := HDZ.out
                obtain ⟨pz, hpz⟩ : ∃ pz, ([45, 45] : List UInt8).isPrefixOf (s.drop h) = pz := ⟨_, rfl⟩
                rw [hpz] at hq hdz
                have HF := Lib.hid (show dz = pz by rw [← hdz]; rfl)
                have HQ := Lib.hid hq
                clear hq hdz hpz
                go_wp2_with fail
                refine HQ.out.mono ?_
                rintro e wz ⟨rfl, hwz⟩
                rw [hwz]
                clear hwz
                go_wp2_with fail
                go_meet
                exact ⟨by (rw [HF.out]) <;> rfl, by first | rfl | trivial⟩
            case rest =>
            obtain ⟨rfl, rfl⟩ := hcut
            cases dz with
            | true =>
              as_aux_lemma =>
                have hmt : more = true ∧ ([45, 45] : List UInt8).isPrefixOf (s.drop h) = true := by have := HDZ.out; rwa [Bool.and_eq_true] at this
                obtain ⟨rfl, hdd⟩ := hmt
                obtain ⟨y, hy⟩ : ∃ y, h + 2 = y := ⟨_, rfl⟩
                have hys : y ≤ s.length := by have := pre2_len s h hdd; omega
                have f1 : (h : Int) + 2 = (y : Int) := by omega
                have HWY := Lib.hid (w64i (y : Int) (by omega) (by have := HM.out.1; omega))
                have hmb := HR2.out.2.2.2
                have hov : (s.drop y = [] ∨ crlf.isPrefixOf (s.drop y) = true) → R = (done, 0, 0) := fun e => by
                  have h2 := bh_over mk s a h HN.out.2.2.2.2.2.1 hdd (by rw [hy]; exact e)
                  rw [← HR2.out.2.2.1]
                  exact al_over f mk s most done a (by rw [hmb]; exact h2)
                have HOV := Lib.hid hov
                by_cases hye : y = s.length
                · have g0 : ((y : Int) == (s.length : Int)) = true := beq_of_eq (by omega)
                  have g1 : (y == s.length) = true := beq_of_eq hye
                  have HF := Lib.hid (HOV.out (.inl ((drop_nil_iff s y hys).2 hye)))
                  clear hye hys hy hdd hov hmb
                  obtain ⟨u1, u2⟩ := HWY.out
                  go_wp2
                  go_ret3
                  rw [HF.out]
                  exact ⟨_, rfl, prtsIn_own HR2.out.1, HR2.out.2.1⟩
                · have g0 : ((y : Int) == (s.length : Int)) = false := beq_false_of_ne (by omega)
                  have g1 : (y == s.length) = false := beq_false_of_ne hye
                  have hlt : y < s.length := by omega
                  have hq := HSC.out wr y (by have := HM.out.1; omega)
                  obtain ⟨cz, hcz⟩ : ∃ cz, crlf.isPrefixOf (s.drop y) = cz := ⟨_, rfl⟩
                  rw [hcz] at hq
                  have HQ := Lib.hid hq
                  have HY := Lib.hid (And.intro hy (And.intro hdd (And.intro hlt (And.intro hcz hye))))
                  clear hye hys hy hdd hov hmb hq hcz hlt
                  obtain ⟨u1, u2⟩ := HWY.out
                  go_wp2_with fail
                  refine HQ.out.mono ?_
                  rintro e wz ⟨rfl, hwz⟩
                  rw [hwz]
                  clear hwz
                  cases cz with
                  | true =>
                    have HF := Lib.hid (HOV.out (.inr HY.out.2.2.2.1))
                    go_wp2
                    go_ret3
                    rw [HF.out]
                    exact ⟨_, rfl, prtsIn_own HR2.out.1, HR2.out.2.1⟩
                  | false =>
                    clear u1 u2
                    obtain ⟨y3, hy3⟩ : ∃ y3, h + 3 = y3 := ⟨_, rfl⟩
                    have f3 : (h : Int) + 3 = (y3 : Int) := by omega
                    have hyy : y3 = y + 1 := by have := HY.out.1; omega
                    have HW3 := Lib.hid (w64i (y3 : Int) (by omega) (by have h1 := HM.out.1; have h2 := HY.out.2.2.1; omega))
                    obtain ⟨c, hc⟩ : ∃ c, (⟨s.toArray⟩ : ByteArray)[y]'(by rw [hsz]; exact HY.out.2.2.1) = c := ⟨_, rfl⟩
                    have hget : s[y]? = some c := by
                      have h1 := list_get ⟨s.toArray⟩ y (by rw [hsz]; exact HY.out.2.2.1)
                      rw [hc] at h1
                      exact h1
                    have j0 : (0 : Int) ≤ (y : Int) := Int.natCast_nonneg _
                    have j1 : (y : Int) < (s.length : Int) := by have := HY.out.2.2.1; omega
                    have hnn : s.drop y ≠ [] := fun e => HY.out.2.2.2.2 ((drop_nil_iff s y (by have := HY.out.2.2.1; omega)).1 e)
                    have hbd : s.drop y ≠ [13] → R = ([], h, 151) := fun e => by
                      rw [← HR2.out.2.2.1]
                      exact al_bad f mk s most done a 151 h (by rw [HR2.out.2.2.2]; exact bh_bd mk s a h HN.out.2.2.2.2.2.1 HY.out.2.1 (by rw [HY.out.1]; exact hnn) (by rw [HY.out.1]; exact HY.out.2.2.2.1) (by rw [HY.out.1]; exact e))
                    have HBD := Lib.hid hbd
                    by_cases hl : y3 = s.length
                    · have p0 : ((y3 : Int) == (s.length : Int)) = true := beq_of_eq (by omega)
                      have p1 : (y3 == s.length) = true := beq_of_eq hl
                      by_cases hc13 : c = 13
                      · have z0 : ((c.toNat : Int) == 13) = true := by rw [hc13]; rfl
                        have HF := Lib.hid (show R = ([], s.length, 154) by
                          rw [← HR2.out.2.2.1]
                          exact al_bad f mk s most done a 154 s.length (by rw [HR2.out.2.2.2]; exact bh_cr mk s a h HN.out.2.2.2.2.2.1 HY.out.2.1 (by rw [HY.out.1]; exact (drop_one_iff s y 13 HY.out.2.2.1).2 ⟨by omega, by rw [hget, hc13]⟩)))
                        clear hc13 hl hget hbd hnn hyy hy3
                        obtain ⟨u1, u2⟩ := HWY.out
                        obtain ⟨u3, u4⟩ := HW3.out
                        go_wp2
                        go_ret3
                        rw [HF.out]
                        exact ⟨_, rfl, prtsIn_nil _ _ _, HR2.out.2.1⟩
                      · have z0 : ((c.toNat : Int) == 13) = false := (ne_u8o c 13 (by decide) hc13).1
                        have HF := Lib.hid (HBD.out (fun e => hc13 (by have := ((drop_one_iff s y 13 HY.out.2.2.1).1 e).2; rw [hget] at this; injection this)))
                        clear hc13 hl hget hbd hnn hyy hy3
                        obtain ⟨u1, u2⟩ := HWY.out
                        obtain ⟨u3, u4⟩ := HW3.out
                        go_wp2
                        go_ret3
                        rw [HF.out]
                        exact ⟨_, rfl, prtsIn_nil _ _ _, HR2.out.2.1⟩
                    · have p0 : ((y3 : Int) == (s.length : Int)) = false := beq_false_of_ne (by omega)
                      have p1 : (y3 == s.length) = false := beq_false_of_ne hl
                      have HF := Lib.hid (HBD.out (fun e => hl (by have := ((drop_one_iff s y 13 HY.out.2.2.1).1 e).1; omega)))
                      clear hl hget hbd hnn hyy hy3
                      obtain ⟨u1, u2⟩ := HWY.out
                      obtain ⟨u3, u4⟩ := HW3.out
                      go_wp2
                      go_ret3
                      rw [HF.out]
                      exact ⟨_, rfl, prtsIn_nil _ _ _, HR2.out.2.1⟩
            | false =>
              obtain ⟨n, hn⟩ : ∃ n, runL isBl (s.drop h) = n := ⟨_, rfl⟩
              obtain ⟨L, hL⟩ : ∃ L, (s.drop h).dropWhile isBl = L := ⟨_, rfl⟩
              have hnl := runL_le isBl (s.drop h)
              rw [hn, List.length_drop] at hnl
              have htl := rtail_any s h wr (by have := HM.out.1; omega) HN.out.2.2.2.2.2.2.1
              rw [hn, hL] at htl
              have HNL := Lib.hid (And.intro hn (And.intro hL hnl))
              have hbad : ∀ c q, bhd mk s more a = .bad c q → R = ([], q, c) := fun c q e => by
                rw [← HR2.out.2.2.1]
                exact al_bad f mk s most done a c q (by rw [HR2.out.2.2.2]; exact e)
              have HBAD := Lib.hid hbad
              clear hbad
              rcases tl_cases L n with ⟨e, hs1⟩ | ⟨e, hs1, hs2⟩ | ⟨e, hs1, hs2⟩
              · as_aux_lemma =>
                    rw [e] at htl
                    have HTL := Lib.hid htl
                    have HF := Lib.hid (HBAD.out _ _ (bh_short mk s a h more HN.out.2.2.2.2.2.1 HDZ.out (by rw [HNL.out.2.1]; exact hs1)))
                    clear htl e hs1 hn hL hnl
                    go_wp2_with fail
                    refine HTL.out.mono ?_
                    rintro e wz ⟨rfl, hwz⟩
                    rw [hwz]
                    clear hwz
                    simp only
                    go_wp2
                    go_ret3
                    rw [HF.out]
                    exact ⟨_, rfl, prtsIn_nil _ _ _, HR2.out.2.1⟩
              · rw [e] at htl
                obtain ⟨n2, hn2⟩ : ∃ n2, n + 2 = n2 := ⟨_, rfl⟩
                have hn2i : (n : Int) + 2 = (n2 : Int) := by omega
                rw [hn2i] at htl
                simp only at htl
                have HTL := Lib.hid htl
                obtain ⟨q, hq⟩ : ∃ q, h + n2 = q := ⟨_, rfl⟩
                have hgo : bhd mk s more a = .go q := by
                  rw [bh_go mk s a h more n HN.out.2.2.2.2.2.2.1 HN.out.2.2.2.2.2.1 HDZ.out HNL.out.1 (by rw [HNL.out.2.1]; exact hs1)]
                  congr 1
                  omega
                have hlen2 : h + 2 ≤ s.length := by
                  have h1 := (List.isPrefixOf_iff_prefix.1 hs1).length_le
                  have h2 := dropW_len isBl (s.drop h)
                  rw [HNL.out.2.1, List.length_drop] at h2
                  simp only [crlf, List.length_cons, List.length_nil] at h1
                  omega
                have hqs := bhd_go mk s more a q hgo
                have hal := al_go f mk s most done a q (by rw [HR2.out.2.2.2]; exact hgo)
                have HA := Lib.hid (HR2.out.2.2.1.symm.trans hal)
                have HG := Lib.hid (And.intro hq (And.intro hlen2 (And.intro hqs hn2)))
                clear htl e hs1 hs2 hn hL hnl hq hgo hlen2 hqs hal hn2 hn2i
                go_wp2_with fail
                refine HTL.out.mono ?_
                rintro e wz ⟨rfl, hwz⟩
                rw [hwz]
                clear hwz HTL
                go_upto_region 21 with fail
                go_cut [131] (fun s131 wx => s131 = .bool false ∧ wr = wx)
                case first =>
                  cases more with
                  | false =>
                    go_wp2_with fail
                    go_meet
                    exact ⟨by first | rfl | trivial, by first | rfl | trivial⟩
                  | true =>
                    obtain ⟨y, hy⟩ : ∃ y, h + 1 = y := ⟨_, rfl⟩
                    have f1 : (h : Int) + 1 = (y : Int) := by omega
                    have HWY := Lib.hid (w64i (y : Int) (by omega) (by have h1 := HM.out.1; have h2 := HG.out.2.1; omega))
                    have g0 : ((y : Int) == (s.length : Int)) = false := beq_false_of_ne (by have := HG.out.2.1; omega)
                    have g1 : (y == s.length) = false := beq_false_of_ne (by have := HG.out.2.1; omega)
                    clear hy
                    obtain ⟨u1, u2⟩ := HWY.out
                    go_wp2_with fail
                    go_meet
                    exact ⟨by first | rfl | trivial, by first | rfl | trivial⟩
                case rest =>
                obtain ⟨rfl, rfl⟩ := hcut
                have n0 : decide ((n2 : Int) < 0) = false := decide_eq_false (by omega)
                by_cases hmo : (done.length : Int) = most
                · have g0 : decide (most ≤ (done.length : Int)) = true := decide_eq_true (by omega)
                  have HF := Lib.hid (HA.out.trans (if_pos hmo))
                  clear hmo
                  go_wp2
                  go_ret3
                  rw [HF.out]
                  exact ⟨_, rfl, prtsIn_nil _ _ _, HR2.out.2.1⟩
                · have g0 : decide (most ≤ (done.length : Int)) = false := decide_eq_false (by have := HN.out.2.2.2.1; omega)
                  have HA2 := Lib.hid (HA.out.trans (if_neg hmo))
                  have HMO := Lib.hid hmo
                  have f1 : (h : Int) + (n2 : Int) = (q : Int) := by have := HG.out.1; omega
                  have HWQ := Lib.hid (w64i (q : Int) (by omega) (by have h1 := HM.out.1; have h2 := HG.out.2.2.1.2; omega))
                  obtain ⟨pb, hpb⟩ : ∃ pb, wr.heap.size = pb := ⟨_, rfl⟩
                  obtain ⟨w5, hw5⟩ : ∃ w5, wr.alloc (.cells #[.string ⟨#[]⟩, .string ⟨#[]⟩, .string ⟨#[]⟩, .string ⟨#[]⟩, .bool false] 77) = w5 := ⟨_, rfl⟩
                  have hb5 : Below wr.heap.size wr w5 := by rw [← hw5]; exact (Below.refl _ wr).alloc (Nat.le_refl _) _
                  have hp5 : RprIs w5 pb p00 := by rw [← hw5, ← hpb]; exact blkIs_new _ _ _
                  have ho5 := own_later HR2.out.1 hb5
                  have hB5 := HR2.out.2.1.trans (hb5.mono HR2.out.2.1.size)
                  have hnf : (Value.slice av done.length cv).ownBlock ≠ some pb := fun e => by have := (HR2.out.1.lt pb e).2; omega
                  have hpw : w.heap.size ≤ pb := by rw [← hpb]; exact HR2.out.2.1.size
                  have H5 := Lib.hid (And.intro hp5 (And.intro ho5 hB5))
                  have HPB := Lib.hid (And.intro hnf hpw)
                  have HW5 := Lib.hid hw5; have HSP := Lib.hid hpb
                  obtain ⟨H, hH⟩ : ∃ H, hdF (s.length + 1) s q st00 = H := ⟨_, rfl⟩
                  have ha3 := HA2.out
                  rw [hH] at ha3
                  have HA3 := Lib.hid ha3; have HHH := Lib.hid hH
                  clear hmo hpb hw5 hb5 hp5 ho5 hB5 hnf hpw hH ha3 HA HA2
                  obtain ⟨u1, u2⟩ := HWQ.out
                  go_upto_region 29 with fail
                  clear u1 u2
                  simp only [HSP.out, HW5.out]
                  go_loopw [11, 17, 18] (fun iv nv tv wx => ∃ (q' : Nat) (st : HdSt) (f3 : Nat), iv = .int .i64 (q' : Int) ∧ nv = .bool st.named ∧ tv = .bool st.typed ∧ (q' ≤ s.length ∧ s.length < q' + f3 ∧ q ≤ q' ∧ hdF f3 s q' st = H) ∧ RprIs wx pb st.p ∧ wx.ownsRow w.heap.size 77 5 (.slice av done.length cv) done.length (prtsV done) ∧ Below w.heap.size w wx) (fun iv _ _ _ => s.length + 1 - (intOf iv).toNat)
                  case atStart => exact ⟨q, st00, s.length + 1, rfl, rfl, rfl, ⟨HG.out.2.2.1.2, by omega, Nat.le_refl _, HHH.out⟩, H5.out.1, H5.out.2.1, H5.out.2.2⟩
                  case round =>
                    clear H5 HW5 HSP
                    obtain ⟨x, st, f3, rfl, rfl, rfl, ⟨hx1, hx2, hqx, hx3⟩, hp, ho, hB⟩ := hrel
                    obtain ⟨f3, rfl⟩ : ∃ k, f3 = k + 1 := ⟨f3 - 1, by omega⟩
                    have HX := Lib.hid (And.intro (show q ≤ x ∧ x ≤ s.length from ⟨hqx, hx1⟩) (And.intro hx2 (And.intro hx3 (And.intro hp (And.intro ho hB)))))
                    have kx : (0 : Int) ≤ (x : Int) := Int.natCast_nonneg _
                    clear hx1 hx2 hx3 hp ho hB hqx
                    go_wp2
                    go_loopw [19] (fun iv wy => ∃ z : Nat, iv = .int .i64 (z : Int) ∧ x ≤ z ∧ z ≤ s.length ∧ (∀ j, x ≤ j → j < z → crlf.isPrefixOf (s.drop j) = false) ∧ wy = wr) (fun iv _ => s.length - (intOf iv).toNat)
                    case atStart => exact ⟨x, rfl, Nat.le_refl _, HX.out.1.2, fun j h1 h2 => by omega, rfl⟩
                    case round =>
                      obtain ⟨z, rfl, hza, hzb, hzn, rfl⟩ := hrel
                      have HZN := Lib.hid hzn
                      clear hzn
                      by_cases hlt : z < s.length
                      · have g0 : decide ((z : Int) < (s.length : Int)) = true := decide_eq_true (by omega)
                        have g1 : decide (z < s.length) = true := decide_eq_true hlt
                        have hq := HSC.out wr z (by have := HM.out.1; omega)
                        obtain ⟨cz, hcz⟩ : ∃ cz, crlf.isPrefixOf (s.drop z) = cz := ⟨_, rfl⟩
                        rw [hcz] at hq
                        have HQ := Lib.hid hq
                        cases cz with
                        | false =>
                          obtain ⟨z6, hz6⟩ : ∃ z6, z + 1 = z6 := ⟨_, rfl⟩
                          have f5 : (z : Int) + 1 = (z6 : Int) := by omega
                          have HU6 := Lib.hid (w64i (z6 : Int) (by omega) (by have := HM.out.1; omega))
                          have HREL := Lib.hid (show x ≤ z6 ∧ z6 ≤ s.length ∧ (∀ j, x ≤ j → j < z6 → crlf.isPrefixOf (s.drop j) = false) from ⟨by omega, by omega, fun j h1 h2 => by
                            by_cases hj : j < z
                            · exact HZN.out j h1 hj
                            · obtain rfl : j = z := by omega
                              exact hcz⟩)
                          have HME := Lib.hid (show s.length - z6 < s.length - z by omega)
                          clear hz6 hq hcz hlt hza hzb
                          obtain ⟨u1, u2⟩ := HU6.out
                          go_wp2_with fail
                          refine HQ.out.mono ?_
                          rintro e wz ⟨rfl, hwz⟩
                          rw [hwz]
                          clear hwz
                          go_wp2
                          go_roundw
                          case rel => exact ⟨z6, rfl, HREL.out.1, HREL.out.2.1, HREL.out.2.2, by first | rfl | trivial⟩
                          case measure => clear u1 u2; have := HME.out; simpa [intOf] using this
                        | true =>
                          have e5 : ((z : Int) == (s.length : Int)) = false := beq_false_of_ne (by omega)
                          have e6 : (z == s.length) = false := beq_false_of_ne (by omega)
                          obtain ⟨n, hn⟩ : ∃ n, x + n = z := ⟨z - x, by omega⟩
                          have hfnd : fnd crlf (s.drop x) = some n := fnd_at crlf (s.drop x) n (by rw [List.length_drop]; omega) (fun j hj => by rw [List.drop_drop]; exact HZN.out (x + j) (by omega) (by omega)) (by rw [List.drop_drop, hn]; exact hcz)
                          have HZ := Lib.hid (And.intro (show z ≤ s.length from hzb) (And.intro hn (And.intro hfnd hlt)))
                          clear hn hfnd hq hcz hlt hza hzb
                          go_wp2_with fail
                          refine HQ.out.mono ?_
                          rintro e wz ⟨rfl, hwz⟩
                          rw [hwz]
                          clear hwz
                          by_cases hn0 : n = 0
                          · as_aux_lemma =>
                                subst hn0
                                have hzx : z = x := by have := HZ.out.2.1; omega
                                subst hzx
                                have e1 : ((z : Int) == (z : Int)) = true := by simp
                                have e2 : (z == z) = true := by simp
                                have hH0 := hdF_zero f3 s z st HZ.out.2.2.1
                                rw [HX.out.2.2.1] at hH0
                                obtain ⟨sp, snm, sty⟩ := st
                                cases snm with
                                | false =>
                                  have HF := Lib.hid (show R = ([], z, 152) by
                                    rw [HA3.out, hH0]
                                    rfl)
                                  clear hH0
                                  go_wp2
                                  go_ret3
                                  rw [HF.out]
                                  exact ⟨_, rfl, prtsIn_nil _ _ _, HX.out.2.2.2.2.2⟩
                                | true =>
                                  have hH1 : H = (sp, z + 2, 0) := hH0
                                  obtain ⟨B5, hB5⟩ : ∃ B5, z + 2 = B5 := ⟨_, rfl⟩
                                  rw [hB5] at hH1
                                  have f1 : (z : Int) + 2 = (B5 : Int) := by omega
                                  have hz2s : B5 ≤ s.length := by
                                    have := (fnd_spec _ _ _ HZ.out.2.2.1).1
                                    rw [List.length_drop] at this
                                    simp only [crlf, List.length_cons, List.length_nil] at this
                                    omega
                                  have HU := Lib.hid (w64i (B5 : Int) (by omega) (by have := HM.out.1; omega))
                                  have hra := HA3.out
                                  rw [hH1] at hra
                                  simp only [ne_eq, not_true_eq_false, if_false] at hra
                                  have hmq := HST.out wr B5 (by have := HM.out.1; omega)
                                  obtain ⟨mz, hmz⟩ : ∃ mz, mk.isPrefixOf (s.drop B5) = mz := ⟨_, rfl⟩
                                  rw [hmz] at hmq hra
                                  have HMQ := Lib.hid hmq; have HRA := Lib.hid hra
                                  have HB5 := Lib.hid (And.intro hB5 hz2s)
                                  clear hH0 hH1 hB5 hz2s hra hmq hmz
                                  obtain ⟨u1, u2⟩ := HU.out
                                  go_wp2_with fail
                                  refine HMQ.out.mono ?_
                                  rintro e wz ⟨rfl, hwz⟩
                                  rw [hwz]
                                  clear hwz u1 u2
                                  cases mz with
                                  | true =>
                                    have HF := Lib.hid (HRA.out.trans (if_pos rfl))
                                    go_wp2
                                    go_ret3
                                    rw [HF.out]
                                    exact ⟨_, rfl, prtsIn_nil _ _ _, HX.out.2.2.2.2.2⟩
                                  | false =>
                                    have HRB := Lib.hid (HRA.out.trans (if_neg (by simp)))
                                    have e4 : (⟨#[13, 10]⟩ : ByteArray) ++ (⟨mk.toArray⟩ : ByteArray) = ⟨(13 :: 10 :: mk).toArray⟩ := ba_ext (by simp)
                                    have l4 : ¬ 9223372036854775807 < 2 + mk.length := by have := HM.out.2.1; omega
                                    have hs5 := fun W (a : Nat) (ha : a ≤ 4294967296) => rstarts_any s (13 :: 10 :: mk) a W (by have := HM.out.1; omega) ha (by simp) (by have := HM.out.2.1; simp only [List.length_cons]; omega)
                                    have hfp := fst9_pos mk s B5 (by have := HB5.out.1; omega)
                                    obtain ⟨cm, hcm⟩ : ∃ cm, 13 :: 10 :: mk = cm := ⟨_, rfl⟩
                                    have hcm0 : cm ≠ [] := by rw [← hcm]; simp
                                    have hcmz : cm.length = mk.length + 2 := by rw [← hcm]; rfl
                                    rw [hcm] at e4 hs5 hfp
                                    have HS5 := Lib.hid hs5; have HFP := Lib.hid hfp; have HCM := Lib.hid (And.intro hcm0 hcmz)
                                    clear hs5 hfp hcm hcm0 hcmz
                                    go_wp2
                                    go_loopw [25] (fun iv wy => ∃ z5 : Nat, iv = .int .i64 (z5 : Int) ∧ B5 ≤ z5 ∧ z5 ≤ s.length ∧ (∀ j, B5 ≤ j → j < z5 → cm.isPrefixOf (s.drop j) = false) ∧ wy = wr) (fun iv _ => s.length - (intOf iv).toNat)
                                    case atStart => exact ⟨B5, rfl, Nat.le_refl _, HB5.out.2, fun j h1 h2 => by omega, rfl⟩
                                    case round =>
                                      obtain ⟨z5, rfl, hz5a, hz5b, hz5n, rfl⟩ := hrel
                                      have HZN := Lib.hid hz5n
                                      clear hz5n
                                      by_cases hlt5 : z5 < s.length
                                      · have g0 : decide ((z5 : Int) < (s.length : Int)) = true := decide_eq_true (by omega)
                                        have g1 : decide (z5 < s.length) = true := decide_eq_true hlt5
                                        have hq5 := HS5.out wr z5 (by have := HM.out.1; omega)
                                        obtain ⟨cz, hcz⟩ : ∃ cz, cm.isPrefixOf (s.drop z5) = cz := ⟨_, rfl⟩
                                        rw [hcz] at hq5
                                        have HQ5 := Lib.hid hq5
                                        cases cz with
                                        | false =>
                                          obtain ⟨z6, hz6⟩ : ∃ z6, z5 + 1 = z6 := ⟨_, rfl⟩
                                          have f5 : (z5 : Int) + 1 = (z6 : Int) := by omega
                                          have HU6 := Lib.hid (w64i (z6 : Int) (by omega) (by have := HM.out.1; omega))
                                          have HREL := Lib.hid (show B5 ≤ z6 ∧ z6 ≤ s.length ∧ (∀ j, B5 ≤ j → j < z6 → cm.isPrefixOf (s.drop j) = false) from ⟨by omega, by omega, fun j h1 h2 => by
                                            by_cases hj : j < z5
                                            · exact HZN.out j h1 hj
                                            · obtain rfl : j = z5 := by omega
                                              exact hcz⟩)
                                          have HME := Lib.hid (show s.length - z6 < s.length - z5 by omega)
                                          clear hz6 hq5 hcz hlt5 hz5a hz5b
                                          obtain ⟨u1, u2⟩ := HU6.out
                                          go_wp2_with fail
                                          refine HQ5.out.mono ?_
                                          rintro e wz ⟨rfl, hwz⟩
                                          rw [hwz]
                                          clear hwz
                                          go_wp2
                                          go_roundw
                                          case rel => exact ⟨z6, rfl, HREL.out.1, HREL.out.2.1, HREL.out.2.2, by first | rfl | trivial⟩
                                          case measure => clear u1 u2; have := HME.out; simpa [intOf] using this
                                        | true =>
                                          have e5 : ((z5 : Int) == (s.length : Int)) = false := beq_false_of_ne (by omega)
                                          have e6 : (z5 == s.length) = false := beq_false_of_ne (by omega)
                                          have hfnd : fnd cm (s.drop B5) = some (z5 - B5) := fnd_at cm (s.drop B5) (z5 - B5) (by rw [List.length_drop]; omega) (fun j hj => by rw [List.drop_drop]; exact HZN.out (B5 + j) (by omega) (by omega)) (by rw [List.drop_drop, show B5 + (z5 - B5) = z5 by omega]; exact hcz)
                                          obtain ⟨a2, ha2⟩ : ∃ a2, z5 + 2 = a2 := ⟨_, rfl⟩
                                          have hf9 : fst9 mk s B5 = some a2 := by rw [HFP.out, hfnd, Option.map_some]; congr 1; omega
                                          have hbd9 := fst9_bd mk s B5 a2 hf9 HB5.out.2
                                          have hrb := HRB.out
                                          rw [hf9] at hrb
                                          simp only at hrb
                                          have hcut5 : cutB s B5 a2 = (s.drop B5).take (z5 - B5) := by unfold cutB; rw [show a2 - 2 - B5 = z5 - B5 by omega]
                                          obtain ⟨D, hD⟩ : ∃ D, cutB s B5 a2 = D := ⟨_, rfl⟩
                                          have hxx5 := ext_mid s B5 (z5 - B5)
                                          rw [← hcut5, hD, show B5 + (z5 - B5) = z5 by omega] at hxx5
                                          rw [hD] at hrb
                                          have x1 : (B5 : Int) ≤ (z5 : Int) := by omega
                                          have x2 : (z5 : Int) ≤ (s.length : Int) := by omega
                                          have x3 : (0 : Int) ≤ (B5 : Int) := Int.natCast_nonneg _
                                          have f5 : (z5 : Int) + 2 = (a2 : Int) := by omega
                                          have HU6 := Lib.hid (w64i (a2 : Int) (by omega) (by have := HM.out.1; omega))
                                          obtain ⟨PW, hPW⟩ : ∃ PW, withB sp D = PW := ⟨_, rfl⟩
                                          rw [hPW] at hrb
                                          obtain ⟨w7, hw7⟩ : ∃ w7, wr.setCell ⟨pb, 3, none⟩ (.string ⟨D.toArray⟩) = w7 := ⟨_, rfl⟩
                                          have hp7 : RprIs w7 pb PW := by rw [← hw7, ← hPW]; exact BlkIs.set HX.out.2.2.2.1 3 _
                                          have hg7 : wr.grownBy w7 (some pb) := by rw [← hw7]; exact gb_set wr pb 3 _
                                          have ho7 := HX.out.2.2.2.2.1.kept hg7 (.inr HPB.out.1)
                                          have hB7 := HX.out.2.2.2.2.2.grown hg7 HX.out.2.2.2.2.2.size (fun j e => by injection e with e; rw [← e]; exact HPB.out.2)
                                          have q3 := BlkIs.cell HX.out.2.2.2.1 3 _ rfl
                                          have y3 := BlkIs.free HX.out.2.2.2.1 3
                                          have H7 := Lib.hid (And.intro hp7 (And.intro ho7 hB7))
                                          have HW7 := Lib.hid hw7
                                          have hsn := prtsV_snoc done PW
                                          have HSN := Lib.hid hsn
                                          have HNX := Lib.hid (show a2 + mk.length ≤ s.length ∧ s.length < f + a2 ∧ 4 * (done ++ [PW]).length ≤ a2 ∧ ((done ++ [PW]).length : Int) ≤ most by
                                            have h1 := HG.out; have h2 := HN.out; have h3 := HX.out.1; have h4 := HB5.out.1; have h5 := HMO.out; have h6 := hbd9.1
                                            rw [List.length_append, List.length_singleton]
                                            refine ⟨h6, ?_, ?_, ?_⟩
                                            · omega
                                            · omega
                                            · omega)
                                          have HME := Lib.hid (show s.length + 1 - a2 < s.length + 1 - a by have h1 := HG.out; have h2 := HN.out; have h3 := HX.out.1; have h4 := HB5.out; omega)
                                          have HRB2 := Lib.hid hrb
                                          have HBA := Lib.hid (show done.length + 1 ≤ maxLen ∧ (done.length + 1) * 72 ≤ 140737488355328 by have := HN.out.2.2.2.2.2.2.2; unfold maxLen; omega)
                                          clear hfnd ha2 hf9 hbd9 hrb hcut5 hD hPW hw7 hp7 hg7 ho7 hB7 hsn hq5 hcz hlt5
                                          go_wp2_with fail
                                          refine HQ5.out.mono ?_
                                          rintro e wz ⟨rfl, hwz⟩
                                          rw [hwz]
                                          clear hwz
                                          go_upto_region 51 with fail
                                          rw [HW7.out]
                                          clear q3 y3
                                          have z0 := BlkIs.cell H7.out.1 0 _ rfl; have z1 := BlkIs.cell H7.out.1 1 _ rfl; have z2 := BlkIs.cell H7.out.1 2 _ rfl; have z3 := BlkIs.cell H7.out.1 3 _ rfl; have z4 := BlkIs.cell H7.out.1 4 _ rfl
                                          go_wp2_with (at_builtin; refine wpList_append_own _ rfl (.tmp 234) (.tmp 236) 26 rfl w.heap.size 77 i0 (.agg #[.string ByteArray.empty, .string ByteArray.empty, .string ByteArray.empty, .string ByteArray.empty, .bool false]) 5 72 Tryz.underlying26 hi0 hz0 hz1 hz2 rfl (by decide) _ _ _ rfl (H7.out.2.1.alloc _) ⟨w7.heap.size, 0, none⟩ 1 1 (prtV PW) rfl rfl (cells_new _ _ _) (by simp [Value.oneCell', prtV]) HBA.out.1 HBA.out.2 ?dd ?_)
                                          case dd => simp; exact Nat.le_trans H7.out.2.2.size (Nat.le_succ _)
                                          intro v8 w8 hI8 hg8 _
                                          have hb8 := (H7.out.2.2.alloc H7.out.2.2.size _).grown hg8 (by simp; exact Nat.le_trans H7.out.2.2.size (Nat.le_succ _)) (fun j hj => (H7.out.2.1.lt j hj).1)
                                          rw [← HSN.out] at hI8
                                          obtain ⟨a8, k8, rfl⟩ := own_sliceF hI8
                                          have HI := Lib.hid (show RpI s mk most R w (.int .i64 (a2 : Int)) (.slice a8 (done.length + 1) k8) w8 from ⟨a2, done ++ [PW], f, a8, k8, rfl, by rw [List.length_append, List.length_singleton], HNX.out, by rw [List.length_append, List.length_singleton]; exact hI8, hb8, HRB2.out.symm⟩)
                                          clear hI8 hg8 hb8 z0 z1 z2 z3 z4
                                          obtain ⟨u1, u2⟩ := HU6.out
                                          go_wp2
                                          go_roundw
                                          case rel => exact HI.out
                                          case measure => clear u1 u2; have := HME.out; simpa [intOf] using this
                                      · obtain rfl : z5 = s.length := by omega
                                        have g0 : decide ((s.length : Int) < (s.length : Int)) = false := decide_eq_false (by omega)
                                        have g1 : decide (s.length < s.length) = false := decide_eq_false (Nat.lt_irrefl _)
                                        have HF := Lib.hid (show R = ([], s.length, 154) by
                                          have hfnd : fnd cm (s.drop B5) = none := fnd_no cm (s.drop B5) HCM.out.1 (fun j hj => by rw [List.drop_drop]; rw [List.length_drop] at hj; exact HZN.out (B5 + j) (by omega) (by omega))
                                          have hf9 : fst9 mk s B5 = none := by rw [HFP.out, hfnd]; rfl
                                          have hrb := HRB.out
                                          rw [hf9] at hrb
                                          exact hrb.trans (al_none f mk s most done))
                                        clear hlt5 hz5b
                                        go_wp2
                                        go_ret3
                                        rw [HF.out]
                                        exact ⟨_, rfl, prtsIn_nil _ _ _, HX.out.2.2.2.2.2⟩
                          ·     obtain ⟨sp, snm, sty⟩ := st
                                obtain ⟨X, hX⟩ : ∃ X, (s.drop x).take n = X := ⟨_, rfl⟩
                                have hzx : x + n = z := HZ.out.2.1
                                have hxx := ext_mid s x n
                                rw [hX, hzx] at hxx
                                have hXl : X.length ≤ 8589934592 := by rw [← hX, List.length_take, List.length_drop]; have := HM.out.1; omega
                                obtain ⟨c, hc⟩ : ∃ c, (hdStep ⟨sp, snm, sty⟩ X).2 = c := ⟨_, rfl⟩
                                obtain ⟨s1, hs1⟩ : ∃ s1, (hdStep ⟨sp, snm, sty⟩ X).1 = s1 := ⟨_, rfl⟩
                                have hfc : ∀ W, Calls Tryz.prog 30 #[.agg #[.string ⟨sp.name.toArray⟩, .string ⟨sp.file.toArray⟩, .string ⟨sp.media.toArray⟩, .string ⟨sp.body.toArray⟩, .bool sp.has], .bool snm, .bool sty, .string ⟨X.toArray⟩] W (fun e w' => ∃ (P : Prt) (n t : Bool), e = .returned (.tuple #[.agg #[.string ⟨P.name.toArray⟩, .string ⟨P.file.toArray⟩, .string ⟨P.media.toArray⟩, .string ⟨P.body.toArray⟩, .bool P.has], .bool n, .bool t, .int .i64 (c : Nat)]) ∧ (c = 0 → s1 = ⟨P, n, t⟩) ∧ Below W.heap.size W w') := fun W => (rfield_any sp snm sty X W hXl).mono (fun e w' h => by unfold FldPost at h; rw [hc, hs1] at h; exact h)
                                have hHs : H = if c ≠ 0 then (sp, x, c) else hdF f3 s (z + 2) s1 := by
                                  rw [← HX.out.2.2.1]
                                  obtain ⟨k, rfl⟩ : ∃ k, n = k + 1 := ⟨n - 1, by omega⟩
                                  rw [hdF_line f3 s x ⟨sp, snm, sty⟩ k HZ.out.2.2.1, hX, hc, hs1, show x + (k + 1) + 2 = z + 2 by omega]
                                have x1 : (x : Int) ≤ (z : Int) := by omega
                                have x2 : (z : Int) ≤ (s.length : Int) := by have := HZ.out.1; omega
                                have e1 : ((z : Int) == (x : Int)) = false := beq_false_of_ne (by omega)
                                have e2 : (z == x) = false := beq_false_of_ne (by omega)
                                have HXN := Lib.hid (And.intro hn0 hzx)
                                have HFC := Lib.hid hfc
                                have HSTC := Lib.hid hc
                                have HHS := Lib.hid hHs
                                have HPW := Lib.hid HX.out.2.2.2.1
                                have HS0 := Lib.hid (show RprIs wr.drew pb sp from BlkIs.later HX.out.2.2.2.1 (below_drewN (Below.refl _ wr) 1))
                                clear hn0 hX hzx hXl hc hs1 hfc hHs
                                go_upto_region 35 with fail
                                go_cut [20, 21, 22, 23] (fun s20 s21 s22 s23 wx => ∃ (fb : Nat) (P : Prt) (n1 t1 : Bool), s20 = .pointer (some ⟨fb, 0, none⟩) ∧ s21 = .bool n1 ∧ s22 = .bool t1 ∧ s23 = .int .i64 (c : Nat) ∧ (c = 0 → s1 = ⟨P, n1, t1⟩) ∧ RprIs wx fb P ∧ Below wr.heap.size wr wx)
                                case first =>
                                  refine wp_region_eachH (fun W => RprIs W pb sp) 18 (by kernel_rfl) (by kernel_rfl) ?_
                                  refine eachH_take (i := 0) rfl (by kernel_rfl) (by kernel_rfl) (by kernel_rfl) HS0.out (v := ?_) ?_ ?_; rotate_left; · (intro W hS; have t0 := BlkIs.cell hS 0 _ rfl; have t1 := BlkIs.cell hS 1 _ rfl; have t2 := BlkIs.cell hS 2 _ rfl; have t3 := BlkIs.cell hS 3 _ rfl; have t4 := BlkIs.cell hS 4 _ rfl; clear hS; go_simp; with_reducible rfl)
                                  refine eachH_take (i := 1) rfl (by kernel_rfl) (by kernel_rfl) (by kernel_rfl) HS0.out (v := ?_) ?_ ?_; rotate_left; · (intro W hS; clear hS; go_simp; with_reducible rfl)
                                  refine eachH_take (i := 2) rfl (by kernel_rfl) (by kernel_rfl) (by kernel_rfl) HS0.out (v := ?_) ?_ ?_; rotate_left; · (intro W hS; clear hS; go_simp; with_reducible rfl)
                                  refine eachH_take (i := 3) rfl (by kernel_rfl) (by kernel_rfl) (by kernel_rfl) HS0.out (v := ?_) ?_ ?_; rotate_left; · (intro W hS; clear hS; go_simp; with_reducible rfl)
                                  refine eachH_take (i := 4) rfl (by kernel_rfl) (by kernel_rfl) (by kernel_rfl) HS0.out (v := ?_) ?_ ?_; rotate_left; · (intro W hS; clear hS; go_simp; with_reducible rfl)
                                  refine eachH_take (i := 5) rfl (by kernel_rfl) (by kernel_rfl) (by kernel_rfl) HS0.out (v := ?_) ?_ ?_; rotate_left; · (intro W hS; clear hS; go_simp; with_reducible rfl)
                                  refine eachH_take (i := 6) rfl (by kernel_rfl) (by kernel_rfl) (by kernel_rfl) HS0.out (v := ?_) ?_ ?_; rotate_left; · (intro W hS; clear hS; go_simp; with_reducible rfl)
                                  refine eachH2 (i := 7) (j := 13) (by kernel_rfl) rfl rfl ?_ ?_
                                  · as_aux_lemma =>
                                      intro K hK
                                      go_simp
                                      refine (HFC.out _).mono ?_
                                      rintro e W1 ⟨P, n1, t1, rfl, hst1, hbn⟩
                                      refine hK _ _ (BlkIs.later HS0.out hbn) ?_
                                      clear hK K
                                      have FS := Lib.hid (show RprIs W1 pb sp from BlkIs.later HS0.out hbn)
                                      have hdw : Below wr.heap.size wr wr.drew := (Below.refl _ wr).drew
                                      have FBW1 := Lib.hid (show Below wr.heap.size wr W1 from hdw.trans (hbn.mono hdw.size))
                                      have FST := Lib.hid (And.intro (show c = c from rfl) hst1)
                                      clear hst1 hbn
                                      refine eachH_take (i := 8) rfl (by kernel_rfl) (by kernel_rfl) (by kernel_rfl) FS.out (v := ?_) ?_ ?_; rotate_left; · (intro W hS; clear hS; go_simp; with_reducible rfl)
                                      refine eachH_take (i := 9) rfl (by kernel_rfl) (by kernel_rfl) (by kernel_rfl) FS.out (v := ?_) ?_ ?_; rotate_left; · (intro W hS; clear hS; go_simp; with_reducible rfl)
                                      refine eachH_take (i := 10) rfl (by kernel_rfl) (by kernel_rfl) (by kernel_rfl) FS.out (v := ?_) ?_ ?_; rotate_left; · (intro W hS; clear hS; go_simp; with_reducible rfl)
                                      refine eachH_take (i := 11) rfl (by kernel_rfl) (by kernel_rfl) (by kernel_rfl) FS.out (v := ?_) ?_ ?_; rotate_left; · (intro W hS; clear hS; go_simp; with_reducible rfl)
                                      refine eachH_take (i := 12) rfl (by kernel_rfl) (by kernel_rfl) (by kernel_rfl) FS.out (v := ?_) ?_ ?_; rotate_left; · (intro W hS; clear hS; go_simp; with_reducible rfl)
                                      refine eachH1 (i := 13) (by kernel_rfl) rfl ?_
                                      intro K hK
                                      go_simp
                                      obtain ⟨fb, hfb⟩ : ∃ fb, W1.heap.size = fb := ⟨_, rfl⟩
                                      obtain ⟨W2, hV⟩ : ∃ V, W1.alloc (.cells #[.string ⟨#[]⟩, .string ⟨#[]⟩, .string ⟨#[]⟩, .string ⟨#[]⟩, .bool false] 77) = V := ⟨_, rfl⟩
                                      rw [hV, hfb]
                                      have FS2 := Lib.hid (show RprIs W2 pb sp by rw [← hV]; exact BlkIs.alloc FS.out _)
                                      have FA := Lib.hid (show RprIs W2 fb p00 by rw [← hV, ← hfb]; exact blkIs_new _ _ _)
                                      have FNE := Lib.hid (show fb ≠ pb by have := BlkIs.lt FS.out; omega)
                                      have FGE := Lib.hid (show wr.heap.size ≤ fb by rw [← hfb]; exact FBW1.out.size)
                                      have FBW := Lib.hid (show Below wr.heap.size wr W2 by rw [← hV]; exact FBW1.out.alloc FBW1.out.size _)
                                      refine hK _ _ FS2.out ?_
                                      clear hK K hV hfb
                                      refine eachH1 (i := 14) (by kernel_rfl) rfl ?_
                                      intro K hK
                                      have z0 := BlkIs.cell FA.out 0 _ rfl; have z1 := BlkIs.cell FA.out 1 _ rfl; have z2 := BlkIs.cell FA.out 2 _ rfl; have z3 := BlkIs.cell FA.out 3 _ rfl; have z4 := BlkIs.cell FA.out 4 _ rfl
                                      have y0 := BlkIs.free FA.out 0; have y1 := BlkIs.free FA.out 1; have y2 := BlkIs.free FA.out 2; have y3 := BlkIs.free FA.out 3; have y4 := BlkIs.free FA.out 4
                                      go_simp
                                      refine hK _ _ (BlkIs.grown (row := some fb) FS2.out (fl_grown W2 fb P) (fun e => by injection e with e; exact FNE.out e)) ?_
                                      have FL := Lib.hid (And.intro (fl_leaf2 FA.out P) (Below.refl (wr.heap.size) W2 |>.grown (fl_grown W2 fb P) FBW.out.size (fun j e => by injection e with e; rw [← e]; exact FGE.out)))
                                      clear hK K z0 z1 z2 z3 z4 y0 y1 y2 y3 y4
                                      refine eachH_take (i := 15) rfl (by kernel_rfl) (by kernel_rfl) (by kernel_rfl) (BlkIs.grown (row := some fb) FS2.out (fl_grown W2 fb P) (fun e => by injection e with e; exact FNE.out e)) (v := ?_) ?_ ?_; rotate_left; · (intro W hS; clear hS; go_simp; with_reducible rfl)
                                      refine eachH_take (i := 16) rfl (by kernel_rfl) (by kernel_rfl) (by kernel_rfl) (BlkIs.grown (row := some fb) FS2.out (fl_grown W2 fb P) (fun e => by injection e with e; exact FNE.out e)) (v := ?_) ?_ ?_; rotate_left; · (intro W hS; clear hS; go_simp; with_reducible rfl)
                                      refine eachH_take (i := 17) rfl (by kernel_rfl) (by kernel_rfl) (by kernel_rfl) (BlkIs.grown (row := some fb) FS2.out (fl_grown W2 fb P) (fun e => by injection e with e; exact FNE.out e)) (v := ?_) ?_ ?_; rotate_left; · (intro W hS; clear hS; go_simp; with_reducible rfl)
                                      refine eachH_done (by kernel_rfl) ?_
                                      go_simp
                                      go_wp2_with fail
                                      go_meet
                                      exact ⟨fb, P, n1, t1, rfl, rfl, rfl, rfl, FST.out.2, FL.out.1, FBW.out.trans FL.out.2⟩
                                  · as_aux_lemma =>
                                      intro K hK
                                      go_simp
                                      obtain ⟨fb, hfb⟩ : ∃ fb, wr.heap.size = fb := ⟨_, rfl⟩
                                      obtain ⟨W0, hV⟩ : ∃ V, (wr.alloc (.cells #[.string ⟨#[]⟩, .string ⟨#[]⟩, .string ⟨#[]⟩, .string ⟨#[]⟩, .bool false] 77)).drew = V := ⟨_, rfl⟩
                                      rw [hV, hfb]
                                      have FS0 := Lib.hid (show RprIs W0 pb sp by rw [← hV]; exact BlkIs.later HPW.out (al_drewR wr _))
                                      have hdw2 : Below (wr.alloc (.cells #[.string ⟨#[]⟩, .string ⟨#[]⟩, .string ⟨#[]⟩, .string ⟨#[]⟩, .bool false] 77)).heap.size (wr.alloc (.cells #[.string ⟨#[]⟩, .string ⟨#[]⟩, .string ⟨#[]⟩, .string ⟨#[]⟩, .bool false] 77)) ((wr.alloc (.cells #[.string ⟨#[]⟩, .string ⟨#[]⟩, .string ⟨#[]⟩, .string ⟨#[]⟩, .bool false] 77)).drew) := (Below.refl _ _).drew
                                      have hnw2 : RprIs (wr.alloc (.cells #[.string ⟨#[]⟩, .string ⟨#[]⟩, .string ⟨#[]⟩, .string ⟨#[]⟩, .bool false] 77)) wr.heap.size p00 := blkIs_new wr _ _
                                      have FA0 := Lib.hid (show RprIs W0 fb p00 by rw [← hV, ← hfb]; exact BlkIs.later hnw2 hdw2)
                                      clear hdw2 hnw2
                                      have FNE := Lib.hid (show fb ≠ pb by have := BlkIs.lt HPW.out; omega)
                                      have FGE := Lib.hid (show wr.heap.size ≤ fb by omega)
                                      have FBW0 := Lib.hid (show Below wr.heap.size wr W0 by rw [← hV]; exact al_drewR wr _)
                                      refine hK _ _ FS0.out ?_
                                      clear hK K hV hfb
                                      refine eachH1 (i := 7) (by kernel_rfl) rfl ?_
                                      intro K hK
                                      go_simp
                                      refine (HFC.out _).mono ?_
                                      rintro e W2 ⟨P, n1, t1, rfl, hst1, hbn⟩
                                      refine hK _ _ (BlkIs.later FS0.out hbn) ?_
                                      clear hK K
                                      have FS := Lib.hid (show RprIs W2 pb sp from BlkIs.later FS0.out hbn)
                                      have FS2 := Lib.hid FS.out
                                      have FA := Lib.hid (show RprIs W2 fb p00 from BlkIs.later FA0.out hbn)
                                      have FBW := Lib.hid (FBW0.out.trans (hbn.mono FBW0.out.size))
                                      have FST := Lib.hid (And.intro (show c = c from rfl) hst1)
                                      clear hst1 hbn
                                      refine eachH_take (i := 8) rfl (by kernel_rfl) (by kernel_rfl) (by kernel_rfl) FS.out (v := ?_) ?_ ?_; rotate_left; · (intro W hS; clear hS; go_simp; with_reducible rfl)
                                      refine eachH_take (i := 9) rfl (by kernel_rfl) (by kernel_rfl) (by kernel_rfl) FS.out (v := ?_) ?_ ?_; rotate_left; · (intro W hS; clear hS; go_simp; with_reducible rfl)
                                      refine eachH_take (i := 10) rfl (by kernel_rfl) (by kernel_rfl) (by kernel_rfl) FS.out (v := ?_) ?_ ?_; rotate_left; · (intro W hS; clear hS; go_simp; with_reducible rfl)
                                      refine eachH_take (i := 11) rfl (by kernel_rfl) (by kernel_rfl) (by kernel_rfl) FS.out (v := ?_) ?_ ?_; rotate_left; · (intro W hS; clear hS; go_simp; with_reducible rfl)
                                      refine eachH_take (i := 12) rfl (by kernel_rfl) (by kernel_rfl) (by kernel_rfl) FS.out (v := ?_) ?_ ?_; rotate_left; · (intro W hS; clear hS; go_simp; with_reducible rfl)
                                      refine eachH1 (i := 14) (by kernel_rfl) rfl ?_
                                      intro K hK
                                      have z0 := BlkIs.cell FA.out 0 _ rfl; have z1 := BlkIs.cell FA.out 1 _ rfl; have z2 := BlkIs.cell FA.out 2 _ rfl; have z3 := BlkIs.cell FA.out 3 _ rfl; have z4 := BlkIs.cell FA.out 4 _ rfl
                                      have y0 := BlkIs.free FA.out 0; have y1 := BlkIs.free FA.out 1; have y2 := BlkIs.free FA.out 2; have y3 := BlkIs.free FA.out 3; have y4 := BlkIs.free FA.out 4
                                      go_simp
                                      refine hK _ _ (BlkIs.grown (row := some fb) FS2.out (fl_grown W2 fb P) (fun e => by injection e with e; exact FNE.out e)) ?_
                                      have FL := Lib.hid (And.intro (fl_leaf2 FA.out P) (Below.refl (wr.heap.size) W2 |>.grown (fl_grown W2 fb P) FBW.out.size (fun j e => by injection e with e; rw [← e]; exact FGE.out)))
                                      clear hK K z0 z1 z2 z3 z4 y0 y1 y2 y3 y4
                                      refine eachH_take (i := 15) rfl (by kernel_rfl) (by kernel_rfl) (by kernel_rfl) (BlkIs.grown (row := some fb) FS2.out (fl_grown W2 fb P) (fun e => by injection e with e; exact FNE.out e)) (v := ?_) ?_ ?_; rotate_left; · (intro W hS; clear hS; go_simp; with_reducible rfl)
                                      refine eachH_take (i := 16) rfl (by kernel_rfl) (by kernel_rfl) (by kernel_rfl) (BlkIs.grown (row := some fb) FS2.out (fl_grown W2 fb P) (fun e => by injection e with e; exact FNE.out e)) (v := ?_) ?_ ?_; rotate_left; · (intro W hS; clear hS; go_simp; with_reducible rfl)
                                      refine eachH_take (i := 17) rfl (by kernel_rfl) (by kernel_rfl) (by kernel_rfl) (BlkIs.grown (row := some fb) FS2.out (fl_grown W2 fb P) (fun e => by injection e with e; exact FNE.out e)) (v := ?_) ?_ ?_; rotate_left; · (intro W hS; clear hS; go_simp; with_reducible rfl)
                                      refine eachH_done (by kernel_rfl) ?_
                                      go_simp
                                      go_wp2_with fail
                                      go_meet
                                      exact ⟨fb, P, n1, t1, rfl, rfl, rfl, rfl, FST.out.2, FL.out.1, FBW.out.trans FL.out.2⟩
                                case rest =>
                                obtain ⟨fb, P, n1, t1, rfl, rfl, rfl, rfl, hst1, hfb, hbw⟩ := hcut
                                have HBW := Lib.hid (HX.out.2.2.2.2.2.trans (hbw.mono HX.out.2.2.2.2.2.size))
                                by_cases hc0 : c = 0
                                · subst hc0
                                  have hst2 := hst1 rfl
                                  have hH2 := HHS.out.trans (if_neg (by simp))
                                  rw [hst2] at hH2
                                  have hpc := BlkIs.later HX.out.2.2.2.1 hbw
                                  have hoc := own_later HX.out.2.2.2.2.1 hbw
                                  have hpP : ∃ W', ((((wc.setCell ⟨pb, 0, none⟩ (.string ⟨P.name.toArray⟩)).setCell ⟨pb, 1, none⟩ (.string ⟨P.file.toArray⟩)).setCell ⟨pb, 2, none⟩ (.string ⟨P.media.toArray⟩)).setCell ⟨pb, 3, none⟩ (.string ⟨P.body.toArray⟩)).setCell ⟨pb, 4, none⟩ (.bool P.has) = W' ∧ RprIs W' pb P ∧ wc.grownBy W' (some pb) := ⟨_, rfl, fl_leaf2 hpc P, fl_grown wc pb P⟩
                                  obtain ⟨W9, hW9, hR9, hg9⟩ := hpP
                                  have hB9 := HBW.out.grown hg9 HBW.out.size (fun j e => by injection e with e; rw [← e]; exact HPB.out.2)
                                  have ho9 := hoc.kept hg9 (.inr HPB.out.1)
                                  obtain ⟨z2, hz2⟩ : ∃ z2, z + 2 = z2 := ⟨_, rfl⟩
                                  have f1 : (z : Int) + 2 = (z2 : Int) := by omega
                                  rw [hz2] at hH2
                                  have hz2s : z2 ≤ s.length := by
                                    have := (fnd_spec _ _ _ HZ.out.2.2.1).1
                                    rw [List.length_drop] at this
                                    simp only [crlf, List.length_cons, List.length_nil] at this
                                    have := HXN.out.2
                                    omega
                                  have HU := Lib.hid (w64i (z2 : Int) (by omega) (by have := HM.out.1; omega))
                                  have HREL := Lib.hid (show ∃ (q' : Nat) (st : HdSt) (f3 : Nat), (.int .i64 (z2 : Int) : Value) = .int .i64 (q' : Int) ∧ (.bool n1 : Value) = .bool st.named ∧ (.bool t1 : Value) = .bool st.typed ∧ (q' ≤ s.length ∧ s.length < q' + f3 ∧ q ≤ q' ∧ hdF f3 s q' st = H) ∧ RprIs W9 pb st.p ∧ W9.ownsRow w.heap.size 77 5 (.slice av done.length cv) done.length (prtsV done) ∧ Below w.heap.size w W9 from ⟨z2, ⟨P, n1, t1⟩, f3, rfl, rfl, rfl, ⟨hz2s, by have h1 := HX.out.2.1; have h2 := HXN.out; omega, by have h1 := HX.out.1; have h2 := HXN.out; omega, hH2.symm⟩, hR9, ho9, hB9⟩)
                                  have HME := Lib.hid (show s.length + 1 - z2 < s.length + 1 - x by have := HXN.out; omega)
                                  have p0 := BlkIs.cell hfb 0 _ rfl; have p1 := BlkIs.cell hfb 1 _ rfl; have p2 := BlkIs.cell hfb 2 _ rfl; have p3 := BlkIs.cell hfb 3 _ rfl; have p4 := BlkIs.cell hfb 4 _ rfl
                                  have z0 := BlkIs.cell hpc 0 _ rfl; have z1 := BlkIs.cell hpc 1 _ rfl; have z2 := BlkIs.cell hpc 2 _ rfl; have z3 := BlkIs.cell hpc 3 _ rfl; have z4 := BlkIs.cell hpc 4 _ rfl
                                  have y0 := BlkIs.free hpc 0; have y1 := BlkIs.free hpc 1; have y2 := BlkIs.free hpc 2; have y3 := BlkIs.free hpc 3; have y4 := BlkIs.free hpc 4
                                  have HW9 := Lib.hid hW9
                                  clear hst2 hH2 hpc hoc hW9 hR9 hg9 hB9 ho9 hz2 hz2s hfb hbw hst1
                                  obtain ⟨u1, u2⟩ := HU.out
                                  go_wp2
                                  rw [HW9.out]
                                  go_roundw
                                  case rel => exact HREL.out
                                  case measure => clear u1 u2; have := HME.out; simpa [intOf] using this
                                · have n1' : ((c : Nat) : Int) ≠ 0 := by omega
                                  have n2' : (((c : Nat) : Int) == 0) = false := beq_false_of_ne n1'
                                  have n3' : (((c : Nat) : Int) != 0) = true := by simpa using hc0
                                  have HF := Lib.hid (show R = ([], x, c) by
                                    rw [HA3.out, HHS.out, if_pos hc0]
                                    exact if_pos hc0)
                                  clear hc0 hfb hbw hst1
                                  go_wp2
                                  go_ret3
                                  rw [HF.out]
                                  exact ⟨_, rfl, prtsIn_nil _ _ _, HBW.out⟩
                      · obtain rfl : z = s.length := by omega
                        have g0 : decide ((s.length : Int) < (s.length : Int)) = false := decide_eq_false (by omega)
                        have g1 : decide (s.length < s.length) = false := decide_eq_false (Nat.lt_irrefl _)
                        have HF := Lib.hid (show R = ([], s.length, 154) by
                          have hfnd : fnd crlf (s.drop x) = none := fnd_no crlf (s.drop x) (by decide) (fun j hj => by rw [List.drop_drop]; rw [List.length_drop] at hj; exact HZN.out (x + j) (by omega) (by omega))
                          rw [HA3.out, ← HX.out.2.2.1, hdF_none f3 s x st hfnd]
                          rfl)
                        clear hlt hzb
                        go_wp2
                        go_ret3
                        rw [HF.out]
                        exact ⟨_, rfl, prtsIn_nil _ _ _, HX.out.2.2.2.2.2⟩
              · as_aux_lemma =>
                    rw [e] at htl
                    simp only at htl
                    have HTL := Lib.hid htl
                    have HNO := Lib.hid (fun h3 : ¬ (more = true ∧ s.drop h = [45]) => HBAD.out _ _ (bh_no mk s a h more HN.out.2.2.2.2.2.1 HDZ.out (by rw [HNL.out.2.1]; exact hs1) (by rw [HNL.out.2.1]; exact hs2) h3))
                    clear htl e hs1 hs2 hn hL hnl
                    go_wp2_with fail
                    refine HTL.out.mono ?_
                    rintro e wz ⟨rfl, hwz⟩
                    rw [hwz]
                    clear hwz HTL
                    cases more with
                    | false =>
                      have HF := Lib.hid (HNO.out (by rintro ⟨e, _⟩; cases e))
                      go_wp2
                      go_ret3
                      rw [HF.out]
                      exact ⟨_, rfl, prtsIn_nil _ _ _, HR2.out.2.1⟩
                    | true =>
                      obtain ⟨y, hy⟩ : ∃ y, h + 1 = y := ⟨_, rfl⟩
                      have f1 : (h : Int) + 1 = (y : Int) := by omega
                      have HWY := Lib.hid (w64i (y : Int) (by omega) (by have h1 := HM.out.1; have h2 := HN.out.2.2.2.2.2.2.1; omega))
                      by_cases hl : y = s.length
                      · have g0 : ((y : Int) == (s.length : Int)) = true := beq_of_eq (by omega)
                        have g1 : (y == s.length) = true := beq_of_eq hl
                        have hlt : h < s.length := by omega
                        obtain ⟨c, hc⟩ : ∃ c, (⟨s.toArray⟩ : ByteArray)[h]'(by rw [hsz]; exact hlt) = c := ⟨_, rfl⟩
                        have hget : s[h]? = some c := by
                          have h1 := list_get ⟨s.toArray⟩ h (by rw [hsz]; exact hlt)
                          rw [hc] at h1
                          exact h1
                        have j1 : (h : Int) < (s.length : Int) := by omega
                        by_cases hc45 : c = 45
                        · have z0 : ((c.toNat : Int) == 45) = true := by rw [hc45]; rfl
                          have HF := Lib.hid (HBAD.out _ _ (bh_dash mk s a h HN.out.2.2.2.2.2.1 ((drop_one_iff s h 45 hlt).2 ⟨by omega, by rw [hget, hc45]⟩)))
                          clear hc45 hget hl hy
                          obtain ⟨u1, u2⟩ := HWY.out
                          go_wp2
                          go_ret3
                          rw [HF.out]
                          exact ⟨_, rfl, prtsIn_nil _ _ _, HR2.out.2.1⟩
                        · have z0 : ((c.toNat : Int) == 45) = false := (ne_u8o c 45 (by decide) hc45).1
                          have HF := Lib.hid (HNO.out (by
                            rintro ⟨_, e⟩
                            have := ((drop_one_iff s h 45 hlt).1 e).2
                            rw [hget] at this
                            injection this with this
                            exact hc45 this))
                          clear hc45 hget hl hy
                          obtain ⟨u1, u2⟩ := HWY.out
                          go_wp2
                          go_ret3
                          rw [HF.out]
                          exact ⟨_, rfl, prtsIn_nil _ _ _, HR2.out.2.1⟩
                      · have g0 : ((y : Int) == (s.length : Int)) = false := beq_false_of_ne (by omega)
                        have g1 : (y == s.length) = false := beq_false_of_ne hl
                        have HF := Lib.hid (HNO.out (by
                          rintro ⟨_, e⟩
                          have h1 := congrArg List.length e
                          rw [List.length_drop] at h1
                          simp only [List.length_cons, List.length_nil] at h1
                          omega))
                        clear hl hy
                        obtain ⟨u1, u2⟩ := HWY.out
                        go_wp2
                        go_ret3
                        rw [HF.out]
                        exact ⟨_, rfl, prtsIn_nil _ _ _, HR2.out.2.1⟩
end Go.Proofs.YtlfdeenekjklgaaGreatDoor
