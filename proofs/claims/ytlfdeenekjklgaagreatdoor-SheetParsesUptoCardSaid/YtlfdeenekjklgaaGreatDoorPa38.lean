/- The walks of turnpikelaw15.SheetParses and SheetInside: true. Conditions: at most 1048576 letters; bytealg's MaxLen holds an int; octet's table and errors.errorType hold what the text lays. -/
import Derived.Test.YtlfdeenekjklgaaGreatDoorPa30
import Derived.Test.YtlfdeenekjklgaaGreatDoorPa37
namespace Go.Proofs.YtlfdeenekjklgaaGreatDoor
open Go.RowKit
set_option linter.unusedSimpArgs false
set_option linter.unusedVariables false
set_option maxRecDepth 1000000
theorem al_len (mk s : List UInt8) (most : Int) : ∀ (f : Nat) (done : List Prt) (o : Option Nat), (alF f mk s most done o).1.length ≤ done.length + f
  | 0, done, o => by simp [alF]
  | f + 1, done, none => by rw [al_none]; simp
  | f + 1, done, some a => by
    cases hb : bhd mk s (!done.isEmpty) a with
    | over => rw [al_over f mk s most done a hb]; simp only; omega
    | bad c q => rw [al_bad f mk s most done a c q hb]; simp
    | go q =>
      rw [al_go f mk s most done a q hb]
      split
      · simp
      · split
        · simp
        · split
          · simp
          · split
            · have := al_len mk s most f done none; omega
            · rename_i a2 _
              have := al_len mk s most f (done ++ [withB (hdF (s.length + 1) s q st00).1 (cutB s (hdF (s.length + 1) s q st00).2.1 a2)]) (some a2)
              rw [List.length_append, List.length_singleton] at this
              omega
theorem psR_len (b s : List UInt8) (most : Int) : (psR b s most).1.length ≤ s.length + 2 := by
  unfold psR
  split
  · simp
  · split
    · simp
    · have := al_len (45 :: 45 :: b) s most (s.length + 2) [] (fst9 (45 :: 45 :: b) s 0)
      simpa using this
theorem body_len (mk s : List UInt8) (p : Prt) (h : inOf mk s p) : p.body.length + 2 + mk.length ≤ s.length := by
  have h1 := h.1
  rw [contains_fnd] at h1
  obtain ⟨i, hi⟩ := Option.isSome_iff_exists.1 h1
  have := (fnd_spec _ _ _ hi).1
  rw [List.length_append] at this
  simp only [List.length_cons] at this
  omega
set_option maxHeartbeats 4000000 in
theorem sheetParses_any (b s : List UInt8) (most : Int) (m : Int) (w : World) (hT : b.length + s.length ≤ 1048576) (hg : SgAt w) (hE : ErrAt w) (hm : w.cell? ⟨2, 0, none⟩ = some (.int .i64 m)) :
    Calls Tryz.prog 3 #[.string ⟨b.toArray⟩, .string ⟨s.toArray⟩, .int .i64 most] w fun e w' => e = .returned (.bool true) ∧ Below w.heap.size w w' := by
  have hps := sparse_any b s most m w (by omega) (by omega) hm hg hE
  have hrp := fun W => rparse_any b s most W (by omega) (by omega)
  have hln := psR_len b s most
  obtain ⟨⟨l, a, c⟩, hR⟩ : ∃ R, psR b s most = R := ⟨_, rfl⟩
  rw [hR] at hps hln
  simp only [hR] at hrp
  unfold PsPost at hps
  unfold RPsPost at hrp
  simp only at hps hrp hln
  have HPS := Lib.hid hps; have HRP := Lib.hid hrp
  have haw := fun W (hW : Below w.heap.size w W) => awake15_any m W (mx_later (B := 0) hm hW)
  have hlp := fun v1 v2 W (h1 : PrtsIn W v1 l) (h2 : PrtsIn W v2 l) => lawprts_any v1 v2 l W (by omega) h1 h2
  have HAW := Lib.hid haw; have HLP := Lib.hid hlp
  clear hps hrp hln hR haw hlp hT hg hE hm
  go_enter Tryz.func3, Tryz.ntmps3
  go_wp2_with fail
  refine HPS.out.mono ?_
  rintro e w1 ⟨v1, rfl, ho1, hb1⟩
  have H1 := Lib.hid (And.intro (prtsIn_own ho1) hb1)
  clear ho1 hb1
  go_wp2_with fail
  refine (HRP.out w1).mono ?_
  rintro e w2 ⟨v2, rfl, ho2, hb2⟩
  have H2 := Lib.hid (And.intro (H1.out.1.below hb2) (And.intro ho2 (H1.out.2.trans (hb2.mono H1.out.2.size))))
  clear ho2 hb2 H1
  go_wp2_with fail
  refine (HAW.out w2 H2.out.2.2).mono ?_
  rintro e w3 ⟨rfl, hb3⟩
  have H3 := Lib.hid (And.intro (H2.out.1.below hb3) (And.intro (H2.out.2.1.below hb3) (H2.out.2.2.trans (hb3.mono H2.out.2.2.size))))
  clear hb3 H2
  go_wp2_with fail
  refine (HLP.out v1 v2 w3 H3.out.1 H3.out.2.1).mono ?_
  rintro e w4 ⟨rfl, hb4⟩
  have HB4 := Lib.hid (H3.out.2.2.trans (hb4.mono H3.out.2.2.size))
  clear hb4 H3
  go_wp2
  go_ret
  exact ⟨by simp, HB4.out⟩
set_option maxHeartbeats 4000000 in
theorem sheetInside_any (b s : List UInt8) (most : Int) (m : Int) (w : World) (hT : b.length + s.length ≤ 1048576) (hg : SgAt w) (hE : ErrAt w) (hm : w.cell? ⟨2, 0, none⟩ = some (.int .i64 m)) :
    Calls Tryz.prog 4 #[.string ⟨b.toArray⟩, .string ⟨s.toArray⟩, .int .i64 most] w fun e w' => e = .returned (.bool true) ∧ Below w.heap.size w w' := by
  have hps := sparse_any b s most m w (by omega) (by omega) hm hg hE
  have hrp := fun W => rparse_any b s most W (by omega) (by omega)
  have hln := psR_len b s most
  have hkn := psR_known b s most
  obtain ⟨⟨l, a, c⟩, hR⟩ : ∃ R, psR b s most = R := ⟨_, rfl⟩
  rw [hR] at hps hln hkn
  simp only [hR] at hrp
  unfold PsPost at hps
  unfold RPsPost at hrp
  simp only at hps hrp hln hkn
  have HPS := Lib.hid hps; have HRP := Lib.hid hrp; have HKN := Lib.hid hkn
  have haw := fun W (hW : Below w.heap.size w W) => awake15_any m W (mx_later (B := 0) hm hW)
  have HAW := Lib.hid haw
  have HT := Lib.hid (And.intro hT hln)
  have hbz : (⟨b.toArray⟩ : ByteArray).size = b.length := size_mk b
  clear hps hrp hln hkn hR haw hT hg hE hm
  go_enter Tryz.func4, Tryz.ntmps4
  go_wp2_with fail
  refine HPS.out.mono ?_
  rintro e w1 ⟨v1, rfl, ho1, hb1⟩
  obtain ⟨av, cv, rfl⟩ := own_slice ho1
  have H1 := Lib.hid (And.intro (prtsIn_own ho1) hb1)
  clear ho1 hb1
  by_cases hc : c = 0
  · subst hc
    have hk : a = 0 ∧ l ≠ [] ∧ (l.length : Int) ≤ most ∧ ∀ p ∈ l, inOf (45 :: 45 :: b) s p := by
      rcases HKN.out with h | h
      · exact absurd rfl h.1
      · exact h.2
    have HK := Lib.hid hk.2
    have hlp := List.length_pos_iff.2 hk.2.1
    have g0 : decide ((l.length : Int) < 1) = false := decide_eq_false (by omega)
    have g00 : decide (l.length < 1) = false := decide_eq_false (by omega)
    have g1 : decide (most < (l.length : Int)) = false := decide_eq_false (by omega)
    clear hk hlp
    have hsd := fun (A B : List UInt8) W (hA : A.length ≤ 1073741824) (hB : B.length ≤ 1073741824) => stands_any2 ⟨A.toArray⟩ ⟨B.toArray⟩ W (by rw [size_mk]; exact hA) (by rw [size_mk]; exact hB)
    have HSD := Lib.hid hsd
    clear hsd
    have e3 : (⟨#[13, 10, 45, 45]⟩ : ByteArray) ++ (⟨b.toArray⟩ : ByteArray) = ⟨(13 :: 10 :: 45 :: 45 :: b).toArray⟩ := ba_ext (by simp)
    have l3 : ¬ 9223372036854775807 < 4 + b.length := nof _ _ (by omega) (by have := HT.out.1; omega)
    obtain ⟨cm, hcm⟩ : ∃ cm, 13 :: 10 :: 45 :: 45 :: b = cm := ⟨_, rfl⟩
    rw [hcm] at e3
    have HCM := Lib.hid hcm
    clear hcm
    go_wp2
    go_loopw [13] (fun iv wr => ∃ i : Nat, iv = .int .i64 (i : Int) ∧ i ≤ l.length ∧ wr = w1) (fun iv _ => l.length - (intOf iv).toNat)
    case atStart => exact ⟨0, rfl, Nat.zero_le _, rfl⟩
    case round =>
      obtain ⟨i, rfl, hi, rfl⟩ := hrel
      by_cases hlt : i < l.length
      · obtain ⟨p, hp⟩ : ∃ p, l[i]? = some p := ⟨_, List.getElem?_eq_getElem hlt⟩
        have hin := HK.out.2.2 p (List.mem_of_getElem? hp)
        have hbl := body_len _ s p hin
        have hat := H1.out.1
        obtain ⟨ao', cap', hv, hat⟩ := hat
        injection hv with hv1 hv2 hv3
        subst hv1; subst hv3
        obtain ⟨g, o, rfl, c0, c1, c2, c3, c4, _⟩ := hat i p hp
        have k0 : (0 : Int) ≤ (i : Int) := Int.natCast_nonneg _
        have k1 : (i : Int) < (l.length : Int) := by omega
        have hpz : (⟨p.body.toArray⟩ : ByteArray).size = p.body.length := size_mk _
        obtain ⟨T1, hT1⟩ : ∃ T1, p.body ++ [13, 10, 45, 45] = T1 := ⟨_, rfl⟩
        obtain ⟨T2, hT2⟩ : ∃ T2, T1 ++ b = T2 := ⟨_, rfl⟩
        have e1 : (⟨p.body.toArray⟩ : ByteArray) ++ (⟨#[13, 10, 45, 45]⟩ : ByteArray) = ⟨T1.toArray⟩ := by rw [← hT1]; exact cat_ll _ _
        have e2 : (⟨T1.toArray⟩ : ByteArray) ++ (⟨b.toArray⟩ : ByteArray) = ⟨T2.toArray⟩ := by rw [← hT2]; exact cat_ll _ _
        have z1 : T1.length = p.body.length + 4 := by rw [← hT1, List.length_append]; rfl
        have z2 : T2.length = T1.length + b.length := by rw [← hT2, List.length_append]
        have l1 : ¬ 9223372036854775807 < p.body.length + 4 := nof _ _ (by have := HT.out.1; omega) (by omega)
        have l2 : ¬ 9223372036854775807 < T1.length + b.length := nof _ _ (by have := HT.out.1; omega) (by have := HT.out.1; omega)
        have hs1 : Calls Tryz.prog 12 #[.string ⟨s.toArray⟩, .string ⟨T2.toArray⟩] wr fun e w' => e = .returned (.bool (Lib.contains s T2)) ∧ w' = wr := HSD.out s T2 wr (by have := HT.out.1; omega) (by have := HT.out.1; omega)
        have hs2 : Calls Tryz.prog 12 #[.string ⟨p.body.toArray⟩, .string ⟨cm.toArray⟩] wr fun e w' => e = .returned (.bool (Lib.contains p.body cm)) ∧ w' = wr := HSD.out p.body cm wr (by have := HT.out.1; omega) (by rw [← HCM.out]; simp only [List.length_cons]; have := HT.out.1; omega)
        have hi1 : Lib.contains s T2 = true := by rw [show T2 = p.body ++ 13 :: 10 :: 45 :: 45 :: b by rw [← hT2, ← hT1]; simp]; exact hin.1
        have hi2 : Lib.contains p.body cm = false := by rw [← HCM.out]; exact hin.2
        rw [hi1] at hs1
        rw [hi2] at hs2
        have HS1 := Lib.hid hs1; have HS2 := Lib.hid hs2
        have hwi := w64i ((i : Int) + 1) (by omega) (by have := HT.out; omega)
        have HW := Lib.hid hwi.1
        clear hp hin hbl hT1 hT2 z1 z2 hs1 hs2 hi1 hi2 hwi hat c0 c1 c2 c4
        go_wp2_with fail
        refine HS1.out.mono ?_
        rintro e wz ⟨rfl, hwz⟩
        rw [hwz]
        clear hwz
        go_wp2_with fail
        refine HS2.out.mono ?_
        rintro e wz ⟨rfl, hwz⟩
        rw [hwz]
        clear hwz
        go_wp2
        have hwi := HW.out
        go_roundw
        case rel =>
          (try rw [hwi]); clear hwi
          exact ⟨i + 1, by go_num, by omega, by first | rfl | trivial⟩
        case measure => (try rw [hwi]); clear hwi; simp [intOf]; omega
      · obtain rfl : i = l.length := by omega
        have hd : decide (l.length < l.length) = false := decide_eq_false (Nat.lt_irrefl _)
        go_wp2_with fail
        refine (HAW.out wr H1.out.2).mono ?_
        rintro e w3 ⟨rfl, hb3⟩
        have HB3 := Lib.hid (H1.out.2.trans (hb3.mono H1.out.2.size))
        clear hb3
        go_wp2
        go_ret
        exact ⟨rfl, HB3.out⟩
  · have n1 : ((c : Nat) : Int) ≠ 0 := by omega
    have n2 : (((c : Nat) : Int) == 0) = false := beq_false_of_ne n1
    have n3 : (((c : Nat) : Int) != 0) = true := by simpa using hc
    have hl : l = [] := by
      rcases HKN.out with h | h
      · exact h.2
      · exact absurd h.1 hc
    subst hl
    clear hc
    go_wp2_with fail
    refine (HRP.out w1).mono ?_
    rintro e w2 ⟨v2, rfl, ho2, hb2⟩
    have HB2 := Lib.hid (H1.out.2.trans (hb2.mono H1.out.2.size))
    clear ho2 hb2
    go_wp2_with fail
    refine (HAW.out w2 HB2.out).mono ?_
    rintro e w3 ⟨rfl, hb3⟩
    have HB3 := Lib.hid (HB2.out.trans (hb3.mono HB2.out.size))
    clear hb3
    go_wp2
    go_ret
    exact ⟨by simp, HB3.out⟩
theorem sheetParses_row (a c : ByteArray) (z : Int) (W : World) (hL : laidMetH Tryz.prog Rows.sheetParsesUptoRow.laid W) (hsh : W.ShapedOpen Tryz.prog) (hs : a.size + c.size ≤ 1048576) :
    Calls Tryz.prog 3 #[.string a, .string c, .int .i64 z] W fun e w' => e = .returned (.bool true) ∧ Below W.heap.size W w' := by
  obtain ⟨m, hm⟩ := Tryz.laysM144.s1_3 W hsh
  have hl : laidMet Tryz.prog (Rows.sheetParsesUptoRow.laid.filter fun x => x.2.handleName?.isNone) W := hL.1
  have hh : handlesMet Tryz.prog _ W := hL.2
  have ha : a.data.toList.length = a.size := Array.length_toList
  have hc : c.data.toList.length = c.size := Array.length_toList
  have := sheetParses_any a.data.toList c.data.toList z m W (by omega) (sg_of_laid (mem_laid 1 (by kernel_rfl)) hl) (err_of_laid (mem_laid 0 (by kernel_rfl)) hh) hm
  rw [str_eqq a, str_eqq c] at this
  exact this
theorem sheetInside_row (a c : ByteArray) (z : Int) (W : World) (hL : laidMetH Tryz.prog Rows.sheetInsideUptoRow.laid W) (hsh : W.ShapedOpen Tryz.prog) (hs : a.size + c.size ≤ 1048576) :
    Calls Tryz.prog 4 #[.string a, .string c, .int .i64 z] W fun e w' => e = .returned (.bool true) ∧ Below W.heap.size W w' := by
  obtain ⟨m, hm⟩ := Tryz.laysM144.s1_3 W hsh
  have hl : laidMet Tryz.prog (Rows.sheetInsideUptoRow.laid.filter fun x => x.2.handleName?.isNone) W := hL.1
  have hh : handlesMet Tryz.prog _ W := hL.2
  have ha : a.data.toList.length = a.size := Array.length_toList
  have hc : c.data.toList.length = c.size := Array.length_toList
  have := sheetInside_any a.data.toList c.data.toList z m W (by omega) (sg_of_laid (mem_laid 1 (by kernel_rfl)) hl) (err_of_laid (mem_laid 0 (by kernel_rfl)) hh) hm
  rw [str_eqq a, str_eqq c] at this
  exact this
end Go.Proofs.YtlfdeenekjklgaaGreatDoor
