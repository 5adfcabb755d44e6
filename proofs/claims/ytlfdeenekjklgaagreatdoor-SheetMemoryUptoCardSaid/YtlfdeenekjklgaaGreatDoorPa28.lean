/- The walk of turnpikelaw15.SheetCut: true. Conditions: at most 1048576 letters and parts; bytealg's MaxLen holds an int; the tables and errors.errorType hold what the text lays. -/
import Derived.Test.YtlfdeenekjklgaaGreatDoorPk20
import Derived.Test.YtlfdeenekjklgaaGreatDoorPa25
import Derived.Test.YtlfdeenekjklgaaGreatDoorPk26
import Derived.Test.YtlfdeenekjklgaaGreatDoorPk27
namespace Go.Proofs.YtlfdeenekjklgaaGreatDoor
open Go.RowKit
set_option linter.unusedSimpArgs false
set_option linter.unusedVariables false
set_option maxRecDepth 1000000
theorem wrt_len (b : List UInt8) (l : List Prt) : (wrtR b l).1.length ≤ 2 * totQ l + l.length * (b.length + 128) + b.length + 6 := by
  unfold wrtR
  split
  · simp
  · split
    · simp
    · split
      · have := acc_len b l l.length
        rw [List.take_length] at this
        simp only [List.length_append]
        have h2 : (endL b).length = b.length + 6 := by unfold endL; simp
        omega
      · simp
theorem mkN_len (N : Nat) (h : N ≤ 4611703610613432320) : (mkN N).length ≤ 24 := by
  have := dec_bd N h
  unfold mkN
  simp only [List.length_cons]
  omega
theorem len_cut (T n k : Nat) (hT : T + n ≤ 1048576) (hk : k ≤ 24) : 2 * T + n * (k + 128) + k + 6 ≤ 268435456 := by
  have : n * (k + 128) ≤ n * 152 := Nat.mul_le_mul_left n (by omega)
  omega
theorem ext_take (s : List UInt8) (n : Nat) : (⟨s.toArray⟩ : ByteArray).extract 0 n = ⟨(s.take n).toArray⟩ := by
  refine ba_ext ?_
  simp [ByteArray.data_extract, List.extract_eq_take_drop]
set_option maxHeartbeats 4000000 in
theorem sheetCut_any (v : Value) (l : List Prt) (z : Int) (m : Int) (w : World) (hT : totQ l + l.length ≤ 1048576) (h : PrtsIn w v l) (hp : PowAt w) (hg : SgAt w) (hE : ErrAt w) (hm : w.cell? ⟨2, 0, none⟩ = some (.int .i64 m)) :
    Calls Tryz.prog 7 #[v, .int .i64 z] w fun e w' => e = .returned (.bool true) ∧ Below w.heap.size w w' := by
  obtain ⟨N, hNb, hno, hyes⟩ := bry_first l (by omega) (by omega)
  have hbl := mkN_len N hNb
  obtain ⟨b, hb⟩ : ∃ b, mkN N = b := ⟨_, rfl⟩
  have hwl := wrt_len b l
  have hsb := sbry_any v l m N w (by omega) (by omega) hNb hno hyes h hp hm
  rw [hb] at hbl hsb
  have hlc := len_cut _ _ _ hT hbl
  obtain ⟨⟨S, n⟩, hS⟩ : ∃ r, wrtR b l = r := ⟨_, rfl⟩
  have hsw := fun W (hW : Below w.heap.size w W) => swrt_any ⟨b.toArray⟩ v l m W (by rw [size_mk]; omega) (by omega) (by omega) (h.below hW) (hg.below hW) (mx_later (B := 0) hm hW)
  unfold WrtPost at hsw
  simp only [show (⟨b.toArray⟩ : ByteArray).data.toList = b from rfl, hS] at hsw
  rw [hS] at hwl
  simp only at hwl
  have hSl : S.length ≤ 268435456 := by omega
  obtain ⟨ao, cap, rfl, hat⟩ := h
  have HSB := Lib.hid hsb; have HSW := Lib.hid hsw; have HSS := Lib.hid hS
  have HM := Lib.hid (And.intro hm (And.intro hg (And.intro hE (And.intro hbl hSl))))
  have haw := fun W (hW : Below w.heap.size w W) => awake15_any m W (mx_later (B := 0) hm hW)
  have HAW := Lib.hid haw
  have hSz : (⟨S.toArray⟩ : ByteArray).size = S.length := size_mk S
  clear hNb hno hyes hb hwl hsb hlc hS hsw hat hp hg hE hm hT haw hbl hSl
  go_enter Tryz.func7, Tryz.ntmps7
  go_wp2_with fail
  refine HSB.out.mono ?_
  rintro e w1 ⟨rfl, hb1⟩
  have HB1 := Lib.hid hb1
  clear hb1 HSB
  go_wp2_with fail
  refine (HSW.out w1 HB1.out).mono ?_
  rintro e w2 ⟨rfl, hb2⟩
  have HB2 := Lib.hid (HB1.out.trans (hb2.mono HB1.out.size))
  clear hb2 HSW HB1
  by_cases hn : n = 0
  · subst hn
    obtain ⟨hk1, hk2, hk3, hk4⟩ := wrt_parts b S l HSS.out
    have hlen : 2 ≤ S.length := by rw [hk4, List.length_append]; have h2 : (endL b).length = b.length + 6 := by { unfold endL; simp }; omega
    obtain ⟨K, hK⟩ : ∃ K, K + 2 = S.length := ⟨S.length - 2, by omega⟩
    obtain ⟨s1, s2⟩ := sub2 S.length K hK (by have := HM.out.2.2.2.2; omega)
    have HK := Lib.hid (And.intro hk1 (And.intro hk2 (And.intro hk3 (And.intro hk4 hK))))
    clear hk1 hk2 hk3 hk4 hlen hK
    by_cases hz : z < 0
    · have b0 : decide (z < 0) = true := decide_eq_true hz
      clear hz
      go_wp2_with fail
      refine (HAW.out w2 HB2.out).mono ?_
      rintro e w3 ⟨rfl, hb3⟩
      have HB3 := Lib.hid (HB2.out.trans (hb3.mono HB2.out.size))
      clear hb3
      go_wp2
      go_ret
      exact ⟨rfl, HB3.out⟩
    · obtain ⟨k, rfl⟩ : ∃ k : Nat, z = k := ⟨z.toNat, by omega⟩
      have b0 : decide ((k : Int) < 0) = false := decide_eq_false hz
      clear hz
      by_cases hkK : K < k
      · have b1 : decide ((K : Int) < (k : Int)) = true := decide_eq_true (by omega)
        have b2 : (K : Int) < (k : Int) := by omega
        clear hkK
        go_wp2_with fail
        refine (HAW.out w2 HB2.out).mono ?_
        rintro e w3 ⟨rfl, hb3⟩
        have HB3 := Lib.hid (HB2.out.trans (hb3.mono HB2.out.size))
        clear hb3
        go_wp2
        go_ret
        exact ⟨rfl, HB3.out⟩
      · have b1 : decide ((K : Int) < (k : Int)) = false := decide_eq_false (by omega)
        have b2 : decide (K < k) = false := decide_eq_false hkK
        have hle : k ≤ S.length := by have := HK.out.2.2.2.2; omega
        obtain ⟨X, hX⟩ : ∃ X, S.take k = X := ⟨_, rfl⟩
        have hxx : (⟨S.toArray⟩ : ByteArray).extract 0 k = ⟨X.toArray⟩ := by rw [← hX]; exact ext_take S k
        have hXl : X.length ≤ 2147483648 := by rw [← hX, List.length_take]; have := HM.out.2.2.2.2; omega
        have x0 : (0 : Int) ≤ (k : Int) := Int.natCast_nonneg _
        have x1 : (k : Int) ≤ (S.length : Int) := by omega
        have hps := sparse_any b X (l.length : Nat) m w2 (by have := HM.out.2.2.2.1; omega) hXl (mx_later (B := 0) HM.out.1 HB2.out) (HM.out.2.1.below HB2.out) (HM.out.2.2.1.later HB2.out)
        by_cases hkk : k = K
        · have e1 : ((k : Int) == (K : Int)) = true := by rw [hkk]; simp
          have e2 : decide ((k : Int) = (K : Int)) = true := decide_eq_true (by rw [hkk])
          have e3 : (k == K) = true := beq_of_eq hkk
          have e4 : decide (k = K) = true := decide_eq_true hkk
          have hr := psR_end b l HK.out.1 HK.out.2.1 HK.out.2.2.1
          rw [← HK.out.2.2.2.1, show S.length - 2 = k by have := HK.out.2.2.2.2; omega, hX] at hr
          rw [hr] at hps
          unfold PsPost at hps
          simp only at hps
          have HPS := Lib.hid hps
          clear hps hr hkk hX hXl hle hkK
          go_wp2_with fail
          refine HPS.out.mono ?_
          rintro e w3 ⟨v3, rfl, ho3, hb3⟩
          have HB3 := Lib.hid (HB2.out.trans (hb3.mono HB2.out.size))
          clear hb3 ho3
          go_wp2_with fail
          refine (HAW.out w3 HB3.out).mono ?_
          rintro e w4 ⟨rfl, hb4⟩
          have HB4 := Lib.hid (HB3.out.trans (hb4.mono HB3.out.size))
          clear hb4
          go_wp2
          go_ret
          exact ⟨rfl, HB4.out⟩
        · have e1 : ((k : Int) == (K : Int)) = false := beq_false_of_ne (by omega)
          have e2 : decide ((k : Int) = (K : Int)) = false := decide_eq_false (by omega)
          have e3 : (k == K) = false := beq_false_of_ne hkk
          have e4 : decide (k = K) = false := decide_eq_false hkk
          have hr := psR_cut b l k HK.out.1 HK.out.2.1 HK.out.2.2.1 (by rw [← HK.out.2.2.2.1]; have := HK.out.2.2.2.2; omega)
          rw [← HK.out.2.2.2.1, hX] at hr
          rw [hr] at hps
          unfold PsPost at hps
          simp only [List.length_nil] at hps
          have HPS := Lib.hid hps
          clear hps hr hkk hX hXl hle hkK
          go_wp2_with fail
          refine HPS.out.mono ?_
          rintro e w3 ⟨v3, rfl, ho3, hb3⟩
          obtain ⟨a3, k3, rfl⟩ := own_slice ho3
          have HB3 := Lib.hid (HB2.out.trans (hb3.mono HB2.out.size))
          clear hb3 ho3
          go_wp2_with fail
          refine (HAW.out w3 HB3.out).mono ?_
          rintro e w4 ⟨rfl, hb4⟩
          have HB4 := Lib.hid (HB3.out.trans (hb4.mono HB3.out.size))
          clear hb4
          go_wp2
          go_ret
          exact ⟨by simp, HB4.out⟩
  · have n1 : ((n : Nat) : Int) ≠ 0 := by omega
    have n2 : (((n : Nat) : Int) == 0) = false := beq_false_of_ne n1
    have n3 : (((n : Nat) : Int) != 0) = true := by simpa using hn
    clear hn
    go_wp2_with fail
    refine (HAW.out w2 HB2.out).mono ?_
    rintro e w3 ⟨rfl, hb3⟩
    have HB3 := Lib.hid (HB2.out.trans (hb3.mono HB2.out.size))
    clear hb3
    go_wp2
    go_ret
    exact ⟨rfl, HB3.out⟩
theorem mem_laid {l : List (String × DataW Unit)} {x : String × DataW Unit} (i : Nat) (h : l[i]? = some x) : x ∈ l := List.mem_of_getElem? h
theorem sheetCut_row (v : Value) (l : List Prt) (z : Int) (W : World) (hL : laidMetH Tryz.prog Rows.sheetCutUptoRow.laid W) (hsh : W.ShapedOpen Tryz.prog) (hs : totQ l + l.length ≤ 1048576) (h : PrtsIn W v l) :
    Calls Tryz.prog 7 #[v, .int .i64 z] W fun e w' => e = .returned (.bool true) ∧ Below W.heap.size W w' := by
  obtain ⟨m, hm⟩ := Tryz.laysM144.s1_3 W hsh
  have hl : laidMet Tryz.prog (Rows.sheetCutUptoRow.laid.filter fun x => x.2.handleName?.isNone) W := hL.1
  have hh : handlesMet Tryz.prog _ W := hL.2
  exact sheetCut_any v l z m W hs h (pow_of_laid (mem_laid 2 (by kernel_rfl)) hl) (sg_of_laid (mem_laid 4 (by kernel_rfl)) hl) (err_of_laid (mem_laid 0 (by kernel_rfl)) hh) hm
end Go.Proofs.YtlfdeenekjklgaaGreatDoor
