/- The walk of turnpikelaw15.SheetBack: true. Conditions: at most 1048576 letters and parts; bytealg's MaxLen holds an int; the tables and errors.errorType hold what the text lays. -/
import Derived.Test.YtlfdeenekjklgaaGreatDoorPa28
import Derived.Test.YtlfdeenekjklgaaGreatDoorPa29
namespace Go.Proofs.YtlfdeenekjklgaaGreatDoor
open Go.RowKit
set_option linter.unusedSimpArgs false
set_option linter.unusedVariables false
set_option maxRecDepth 1000000
theorem sub1N (N y : Nat) (h : y + 1 = N) (hN : N ≤ 2147483650) : wrap64 ((N : Int) - 1) = (y : Int) ∧ IntKind.i64.wrap ((N : Int) - 1) = (y : Int) := by
  constructor
  · unfold wrap64; omega
  · rw [IntKind.wrap_i64]; omega
theorem add3N (N y : Nat) (h : N + 3 = y) (hN : N ≤ 2147483650) : wrap64 ((N : Int) + 3) = (y : Int) ∧ IntKind.i64.wrap ((N : Int) + 3) = (y : Int) := by
  constructor
  · unfold wrap64; omega
  · rw [IntKind.wrap_i64]; omega
set_option maxHeartbeats 4000000 in
theorem sheetBack_any (v : Value) (l : List Prt) (A B : List UInt8) (m : Int) (w : World) (hT : totQ l + l.length ≤ 1048576) (hA : A.length + B.length ≤ 1048576) (h : PrtsIn w v l) (hp : PowAt w) (hg : SgAt w) (hE : ErrAt w) (hm : w.cell? ⟨2, 0, none⟩ = some (.int .i64 m)) :
    Calls Tryz.prog 6 #[v, .string ⟨A.toArray⟩, .string ⟨B.toArray⟩] w fun e w' => e = .returned (.bool true) ∧ Below w.heap.size w w' := by
  obtain ⟨N, hNb, hno, hyes⟩ := bry_first l (by omega) (by omega)
  have hbl := mkN_len N hNb
  obtain ⟨b, hb⟩ : ∃ b, mkN N = b := ⟨_, rfl⟩
  have hwl := wrt_len b l
  have hsb := fun W (hW : Below w.heap.size w W) => sbry_any v l m N W (by omega) (by omega) hNb hno hyes (h.below hW) (hp.below hW) (mx_later (B := 0) hm hW)
  have hrb := fun v1 W (hW : PrtsIn W v1 l) => rbry_any v1 l N W (by omega) (by omega) hNb hno hyes hW
  rw [hb] at hbl hsb hrb
  have hlc := len_cut _ _ _ hT hbl
  obtain ⟨⟨S, n⟩, hS⟩ : ∃ r, wrtR b l = r := ⟨_, rfl⟩
  have hsw := fun W (hW : Below w.heap.size w W) => swrt_any ⟨b.toArray⟩ v l m W (by rw [size_mk]; omega) (by omega) (by omega) (h.below hW) (hg.below hW) (mx_later (B := 0) hm hW)
  have hrw := fun v1 W (hW : PrtsIn W v1 l) => rwrt_any ⟨b.toArray⟩ v1 l W (by rw [size_mk]; omega) (by omega) (by omega) hW
  unfold WrtPost at hsw hrw
  simp only [show (⟨b.toArray⟩ : ByteArray).data.toList = b from rfl, hS] at hsw hrw
  rw [hS] at hwl
  simp only at hwl
  have hSl : S.length ≤ 268435456 := by omega
  have hgv := given_any v l w (by omega) h
  have hlp := fun v1 v2 W (h1 : PrtsIn W v1 l) (h2 : PrtsIn W v2 l) => lawprts_any v1 v2 l W (by omega) h1 h2
  obtain ⟨ao, cap, rfl, hat⟩ := h
  have HSB := Lib.hid hsb; have HSW := Lib.hid hsw; have HSS := Lib.hid hS; have HRB := Lib.hid hrb; have HRW := Lib.hid hrw
  have HGV := Lib.hid hgv; have HLP := Lib.hid hlp
  have hll : l.length ≤ 1048576 := by omega
  have HM := Lib.hid (And.intro hm (And.intro hg (And.intro hE (And.intro hbl (And.intro hSl (And.intro hA hll))))))
  have haw := fun W (hW : Below w.heap.size w W) => awake15_any m W (mx_later (B := 0) hm hW)
  have HAW := Lib.hid haw
  have hps := fun X most W (hX : X.length ≤ 2147483648) (hW : Below w.heap.size w W) => sparse_any b X most m W (by omega) hX (mx_later (B := 0) hm hW) (hg.below hW) (hE.later hW)
  have HPS := Lib.hid hps
  clear hNb hno hyes hb hwl hsb hrb hlc hS hsw hrw hat hp hg hE hm hT haw hbl hSl hgv hlp hA hll hps
  go_enter Tryz.func6, Tryz.ntmps6
  go_wp2_with fail
  refine HGV.out.mono ?_
  rintro e w1 ⟨v1, rfl, ho1, hb1⟩
  have H1 := Lib.hid (prtsIn_own ho1)
  have HB1 := Lib.hid hb1
  clear hb1 ho1 HGV
  go_wp2_with fail
  refine (HSB.out w1 HB1.out).mono ?_
  rintro e w2 ⟨rfl, hb2⟩
  have H2 := Lib.hid (H1.out.below hb2)
  have HB2 := Lib.hid (HB1.out.trans (hb2.mono HB1.out.size))
  clear hb2 HSB HB1 H1
  go_wp2_with fail
  refine (HSW.out w2 HB2.out).mono ?_
  rintro e w3 ⟨rfl, hb3⟩
  have H3 := Lib.hid (H2.out.below hb3)
  have HB3 := Lib.hid (HB2.out.trans (hb3.mono HB2.out.size))
  clear hb3 HSW HB2 H2
  by_cases hn : n = 0
  · subst hn
    obtain ⟨hk1, hk2, hk3, hk4⟩ := wrt_parts b S l HSS.out
    have HK := Lib.hid (And.intro hk1 (And.intro hk2 (And.intro hk3 hk4)))
    have hp1 := HPS.out S (l.length : Nat) w3 (by have := HM.out.2.2.2.2.1; omega) HB3.out
    have hr1 := psR_back b l hk1 hk2 hk3
    rw [← hk4] at hr1
    rw [hr1] at hp1
    unfold PsPost at hp1
    simp only at hp1
    have HP1 := Lib.hid hp1
    clear hp1 hr1 hk1 hk2 hk3 hk4
    go_wp2_with fail
    refine HP1.out.mono ?_
    rintro e w4 ⟨v4, rfl, ho4, hb4⟩
    have H4 := Lib.hid (And.intro (prtsIn_own ho4) (H3.out.below hb4))
    have HB4 := Lib.hid (HB3.out.trans (hb4.mono HB3.out.size))
    clear hb4 ho4 HB3 H3 HP1
    go_wp2_with fail
    refine (HLP.out v4 v1 w4 H4.out.1 H4.out.2).mono ?_
    rintro e w5 ⟨rfl, hb5⟩
    have H5 := Lib.hid (H4.out.2.below hb5)
    have HB5 := Lib.hid (HB4.out.trans (hb5.mono HB4.out.size))
    clear hb5 HB4 H4
    obtain ⟨y, hy⟩ : ∃ y, y + 1 = l.length := ⟨l.length - 1, by have := List.length_pos_iff.2 HK.out.2.1; omega⟩
    obtain ⟨d, hd⟩ : ∃ d, l.length + 3 = d := ⟨_, rfl⟩
    obtain ⟨s1, s2⟩ := sub1N l.length y hy (by have := HM.out.2.2.2.2.2.2; omega)
    obtain ⟨t1, t2⟩ := add3N l.length d hd (by have := HM.out.2.2.2.2.2.2; omega)
    have HD := Lib.hid hd
    have hbz : (⟨b.toArray⟩ : ByteArray).size = b.length := size_mk b
    have hAz : (⟨A.toArray⟩ : ByteArray).size = A.length := size_mk A
    have hBz : (⟨B.toArray⟩ : ByteArray).size = B.length := size_mk B
    have hSz : (⟨S.toArray⟩ : ByteArray).size = S.length := size_mk S
    obtain ⟨mk, hmk⟩ : ∃ mk, 45 :: 45 :: b = mk := ⟨_, rfl⟩
    have e0 : (⟨#[45, 45]⟩ : ByteArray) ++ (⟨b.toArray⟩ : ByteArray) = ⟨mk.toArray⟩ := by rw [← hmk]; exact cat_ll [45, 45] b
    obtain ⟨T1, hT1⟩ : ∃ T1, A ++ [13, 10] = T1 := ⟨_, rfl⟩
    obtain ⟨T2, hT2⟩ : ∃ T2, T1 ++ S = T2 := ⟨_, rfl⟩
    obtain ⟨T3, hT3⟩ : ∃ T3, T2 ++ B = T3 := ⟨_, rfl⟩
    have e1 : (⟨A.toArray⟩ : ByteArray) ++ (⟨#[13, 10]⟩ : ByteArray) = ⟨T1.toArray⟩ := by rw [← hT1]; exact cat_ll A [13, 10]
    have e2 : (⟨T1.toArray⟩ : ByteArray) ++ (⟨S.toArray⟩ : ByteArray) = ⟨T2.toArray⟩ := by rw [← hT2]; exact cat_ll T1 S
    have e3 : (⟨T2.toArray⟩ : ByteArray) ++ (⟨B.toArray⟩ : ByteArray) = ⟨T3.toArray⟩ := by rw [← hT3]; exact cat_ll T2 B
    have z1 : T1.length = A.length + 2 := by rw [← hT1, List.length_append]; rfl
    have z2 : T2.length = T1.length + S.length := by rw [← hT2, List.length_append]
    have z3 : T3.length = T2.length + B.length := by rw [← hT3, List.length_append]
    have q0 : ¬ 9223372036854775807 < 2 + b.length := nof _ _ (by omega) (by have := HM.out.2.2.2.1; omega)
    have q1 : ¬ 9223372036854775807 < A.length + 2 := nof _ _ (by have := HM.out.2.2.2.2.2.1; omega) (by omega)
    have q2 : ¬ 9223372036854775807 < T1.length + S.length := nof _ _ (by have := HM.out.2.2.2.2.2.1; omega) (by have := HM.out.2.2.2.2.1; omega)
    have q3 : ¬ 9223372036854775807 < T2.length + B.length := nof _ _ (by have h1 := HM.out.2.2.2.2.2.1; have h2 := HM.out.2.2.2.2.1; omega) (by have := HM.out.2.2.2.2.2.1; omega)
    have hT3e : A ++ 13 :: 10 :: (S ++ B) = T3 := by rw [← hT3, ← hT2, ← hT1]; simp
    have HT3 := Lib.hid (And.intro hT3e (show T3.length ≤ 2147483648 by have h1 := HM.out.2.2.2.2.2.1; have h2 := HM.out.2.2.2.2.1; omega))
    have hst := fun W => stands_any2 ⟨A.toArray⟩ ⟨mk.toArray⟩ W (by rw [size_mk]; have := HM.out.2.2.2.2.2.1; omega) (by rw [size_mk, ← hmk]; simp only [List.length_cons]; have := HM.out.2.2.2.1; omega)
    simp only [show (⟨A.toArray⟩ : ByteArray).data.toList = A from rfl, show (⟨mk.toArray⟩ : ByteArray).data.toList = mk from rfl] at hst
    obtain ⟨st, hstv⟩ : ∃ st, Lib.contains A mk = st := ⟨_, rfl⟩
    rw [hstv] at hst
    have HST := Lib.hid hst
    have hno : st = false → Lib.contains A (45 :: 45 :: b) = false := fun e => by rw [hmk, hstv]; exact e
    have HNO0 := Lib.hid hno
    have hln : ((l.length : Nat) : Int) ≠ 0 := by omega
    clear hd hT1 hT2 hT3 z1 z2 z3 hT3e hst hstv hno hmk hln
    by_cases hy0 : y = 0
    · subst hy0
      have g2 : decide ((1 : Int) < ((l.length : Nat) : Int)) = false := decide_eq_false (by omega)
      have g3 : (((l.length : Nat) : Int) == 1) = true := beq_of_eq (by omega)
      have g4 : decide (1 < l.length) = false := decide_eq_false (by omega)
      have g5 : (l.length == 1) = true := beq_of_eq (by omega)
      have hp2 := HPS.out S ((0 : Nat) : Int) w5 (by have := HM.out.2.2.2.2.1; omega) HB5.out
      have hr2 := psR_none b S HK.out.1
      rw [show ((0 : Nat) : Int) = 0 from rfl] at hp2
      rw [hr2] at hp2
      unfold PsPost at hp2
      simp only [List.length_nil] at hp2
      have HP2 := Lib.hid hp2
      clear hp2 hr2 hy
      rw [show ((0 : Nat) : Int) = 0 from rfl] at s1 s2
      go_wp2_with fail
      refine HP2.out.mono ?_
      rintro e w6 ⟨v6, rfl, ho6, hb6⟩
      obtain ⟨a6, k6, rfl⟩ := own_slice ho6
      have H6 := Lib.hid (H5.out.below hb6)
      have HB6 := Lib.hid (HB5.out.trans (hb6.mono HB5.out.size))
      clear hb6 ho6 HB5 H5 HP2
      go_wp2_with fail
      refine (HST.out w6).mono ?_
      rintro e w7 ⟨rfl, rfl⟩
      cases st with
      | true =>
        go_wp2_with fail
        refine (HAW.out w7 HB6.out).mono ?_
        rintro e w8 ⟨rfl, hb8⟩
        have HB8 := Lib.hid (HB6.out.trans (hb8.mono HB6.out.size))
        clear hb8
        go_wp2
        go_ret
        exact ⟨rfl, HB8.out⟩
      | false =>
        have hp3 := HPS.out T3 ((l.length : Nat) + 3) w7 HT3.out.2 HB6.out
        have hr3 := psR_more b A B l HK.out.1 HK.out.2.1 HK.out.2.2.1 (HNO0.out rfl)
        rw [← HK.out.2.2.2, HT3.out.1] at hr3
        rw [hr3] at hp3
        rw [show ((l.length : Nat) : Int) + 3 = (d : Int) by have := HD.out; omega] at hp3
        unfold PsPost at hp3
        simp only at hp3
        have HP3 := Lib.hid hp3
        clear hp3 hr3
        go_wp2_with fail
        refine HP3.out.mono ?_
        rintro e w8 ⟨v8, rfl, ho8, hb8⟩
        have H8 := Lib.hid (And.intro (prtsIn_own ho8) (H6.out.below hb8))
        have HB8 := Lib.hid (HB6.out.trans (hb8.mono HB6.out.size))
        clear hb8 ho8
        go_wp2_with fail
        refine (HAW.out w8 HB8.out).mono ?_
        rintro e w9 ⟨rfl, hb9⟩
        have H9 := Lib.hid (And.intro (H8.out.1.below hb9) (H8.out.2.below hb9))
        have HB9 := Lib.hid (HB8.out.trans (hb9.mono HB8.out.size))
        clear hb9
        go_wp2_with fail
        refine (HLP.out v8 v1 w9 H9.out.1 H9.out.2).mono ?_
        rintro e w10 ⟨rfl, hb10⟩
        have HB10 := Lib.hid (HB9.out.trans (hb10.mono HB9.out.size))
        clear hb10
        go_wp2
        go_ret
        exact ⟨by simp, HB10.out⟩
    · have g2 : decide ((1 : Int) < ((l.length : Nat) : Int)) = true := decide_eq_true (by omega)
      have g3 : (((l.length : Nat) : Int) == 1) = false := beq_false_of_ne (by omega)
      have g4 : decide (1 < l.length) = true := decide_eq_true (by omega)
      have g5 : (l.length == 1) = false := beq_false_of_ne (by omega)
      have g6 : 1 < l.length := by omega
      obtain ⟨ax, hr2⟩ := psR_less b l HK.out.1 g6 HK.out.2.2.1
      have hp2 := HPS.out S ((y : Nat) : Int) w5 (by have := HM.out.2.2.2.2.1; omega) HB5.out
      rw [← HK.out.2.2.2, show ((l.length : Nat) : Int) - 1 = (y : Int) by omega] at hr2
      rw [hr2] at hp2
      unfold PsPost at hp2
      simp only [List.length_nil] at hp2
      have HP2 := Lib.hid hp2
      clear hp2 hr2 hy g6
      go_wp2_with fail
      refine HP2.out.mono ?_
      rintro e w6 ⟨v6, rfl, ho6, hb6⟩
      obtain ⟨a6, k6, rfl⟩ := own_slice ho6
      have H6 := Lib.hid (H5.out.below hb6)
      have HB6 := Lib.hid (HB5.out.trans (hb6.mono HB5.out.size))
      clear hb6 ho6 HB5 H5 HP2
      go_wp2_with fail
      refine (HST.out w6).mono ?_
      rintro e w7 ⟨rfl, rfl⟩
      cases st with
      | true =>
        go_wp2_with fail
        refine (HAW.out w7 HB6.out).mono ?_
        rintro e w8 ⟨rfl, hb8⟩
        have HB8 := Lib.hid (HB6.out.trans (hb8.mono HB6.out.size))
        clear hb8
        go_wp2
        go_ret
        exact ⟨rfl, HB8.out⟩
      | false =>
        have hp3 := HPS.out T3 ((l.length : Nat) + 3) w7 HT3.out.2 HB6.out
        have hr3 := psR_more b A B l HK.out.1 HK.out.2.1 HK.out.2.2.1 (HNO0.out rfl)
        rw [← HK.out.2.2.2, HT3.out.1] at hr3
        rw [hr3] at hp3
        rw [show ((l.length : Nat) : Int) + 3 = (d : Int) by have := HD.out; omega] at hp3
        unfold PsPost at hp3
        simp only at hp3
        have HP3 := Lib.hid hp3
        clear hp3 hr3
        go_wp2_with fail
        refine HP3.out.mono ?_
        rintro e w8 ⟨v8, rfl, ho8, hb8⟩
        have H8 := Lib.hid (And.intro (prtsIn_own ho8) (H6.out.below hb8))
        have HB8 := Lib.hid (HB6.out.trans (hb8.mono HB6.out.size))
        clear hb8 ho8
        go_wp2_with fail
        refine (HAW.out w8 HB8.out).mono ?_
        rintro e w9 ⟨rfl, hb9⟩
        have H9 := Lib.hid (And.intro (H8.out.1.below hb9) (H8.out.2.below hb9))
        have HB9 := Lib.hid (HB8.out.trans (hb9.mono HB8.out.size))
        clear hb9
        go_wp2_with fail
        refine (HLP.out v8 v1 w9 H9.out.1 H9.out.2).mono ?_
        rintro e w10 ⟨rfl, hb10⟩
        have HB10 := Lib.hid (HB9.out.trans (hb10.mono HB9.out.size))
        clear hb10
        go_wp2
        go_ret
        exact ⟨by simp, HB10.out⟩
  · have n1 : ((n : Nat) : Int) ≠ 0 := by omega
    have n2 : (((n : Nat) : Int) == 0) = false := beq_false_of_ne n1
    have n3 : (((n : Nat) : Int) != 0) = true := by simpa using hn
    have hS0 : S = [] := by
      have h1 := wrt_bad0 b l (by rw [HSS.out]; exact hn)
      rw [HSS.out] at h1
      exact h1
    subst hS0
    clear hn
    go_wp2_with fail
    refine (HRB.out v1 w3 H3.out).mono ?_
    rintro e w4 ⟨rfl, hb4⟩
    have H4 := Lib.hid (H3.out.below hb4)
    have HB4 := Lib.hid (HB3.out.trans (hb4.mono HB3.out.size))
    clear hb4
    go_wp2_with fail
    refine (HRW.out v1 w4 H4.out).mono ?_
    rintro e w5 ⟨rfl, hb5⟩
    have HB5 := Lib.hid (HB4.out.trans (hb5.mono HB4.out.size))
    clear hb5
    go_wp2_with fail
    refine (HAW.out w5 HB5.out).mono ?_
    rintro e w6 ⟨rfl, hb6⟩
    have HB6 := Lib.hid (HB5.out.trans (hb6.mono HB5.out.size))
    clear hb6
    go_wp2
    go_ret
    exact ⟨by simp, HB6.out⟩
theorem sheetBack_row (v : Value) (l : List Prt) (a c : ByteArray) (W : World) (hL : laidMetH Tryz.prog Rows.sheetBackUptoRow.laid W) (hsh : W.ShapedOpen Tryz.prog) (hs : (totQ l + l.length) + a.size + c.size ≤ 1048576) (h : PrtsIn W v l) :
    Calls Tryz.prog 6 #[v, .string a, .string c] W fun e w' => e = .returned (.bool true) ∧ Below W.heap.size W w' := by
  obtain ⟨m, hm⟩ := Tryz.laysM144.s1_3 W hsh
  have hl : laidMet Tryz.prog (Rows.sheetBackUptoRow.laid.filter fun x => x.2.handleName?.isNone) W := hL.1
  have hh : handlesMet Tryz.prog _ W := hL.2
  have ha : a.data.toList.length = a.size := Array.length_toList
  have hc : c.data.toList.length = c.size := Array.length_toList
  have := sheetBack_any v l a.data.toList c.data.toList m W (by omega) (by omega) h (pow_of_laid (mem_laid 2 (by kernel_rfl)) hl) (sg_of_laid (mem_laid 4 (by kernel_rfl)) hl) (err_of_laid (mem_laid 0 (by kernel_rfl)) hh) hm
  rw [str_eqq a, str_eqq c] at this
  exact this
end Go.Proofs.YtlfdeenekjklgaaGreatDoor
