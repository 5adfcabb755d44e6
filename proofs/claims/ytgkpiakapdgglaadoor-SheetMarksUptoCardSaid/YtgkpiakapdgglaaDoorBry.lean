/- The walks of sheet.Boundary and the reference's Boundary: the first usual one that stands in no part. Conditions: at most 1048576 letters and parts; strconv's table and bytealg's MaxLen hold what the text lays. -/
import Derived.Test.YtgkpiakapdgglaaDoorRDig
namespace Go.Proofs.YtgkpiakapdgglaaDoor
open Go.RowKit
set_option linter.unusedSimpArgs false
set_option linter.unusedVariables false
set_option maxRecDepth 1000000
theorem form_l (d : List UInt8) : (⟨#[102, 111, 114, 109]⟩ : ByteArray) ++ (⟨d.toArray⟩ : ByteArray) = ⟨(102 :: 111 :: 114 :: 109 :: d).toArray⟩ := by
  refine ba_ext ?_
  simp
theorem dec_bd (n : Nat) (h : n ≤ 4611703610613432320) : (Lib.decDigits n).length ≤ 20 := dec_len20 19 n (Nat.lt_of_le_of_lt h (by decide))
theorem form_bd (n : Nat) (h : n ≤ 20) : ¬ 9223372036854775807 < 4 + n ∧ ¬ 9223372036854775807 < n + 4 ∧ ¬ 9223372036854775807 < 2 + (4 + n) ∧ ¬ 9223372036854775807 < 2 + (n + 4) ∧ ¬ 9223372036854775807 < n + 1 + 1 + 1 + 1 ∧ ¬ 9223372036854775807 < 2 + (n + 1 + 1 + 1 + 1) := by omega
theorem w64big (i : Nat) (h : i ≤ 4611703610613432320) : wrap64 ((i : Int) + 1) = (i : Int) + 1 := by unfold wrap64; omega
theorem sstood_form (v : Value) (l : List Prt) (d : List UInt8) (m : Int) (w : World) (hT : totQ l ≤ 1048576) (hN : l.length ≤ 1048576) (h : PrtsIn w v l) (hm : w.cell? ⟨1, 0, none⟩ = some (.int .i64 m)) :
    Calls Tryd.prog 39 #[v, .string ((⟨#[45, 45]⟩ : ByteArray) ++ ((⟨#[102, 111, 114, 109]⟩ : ByteArray) ++ (⟨d.toArray⟩ : ByteArray)))] w fun e w' => e = .returned (.bool (stood l (45 :: 45 :: 102 :: 111 :: 114 :: 109 :: d))) ∧ Below w.heap.size w w' := by
  rw [form_l, dash_l]
  exact sstood_any v l _ m w (Nat.le_trans hT (by decide)) (Nat.le_trans hN (by decide)) h hm
theorem rstood_form (v : Value) (l : List Prt) (d : List UInt8) (w : World) (hT : totQ l ≤ 1048576) (hN : l.length ≤ 1048576) (hd : d.length ≤ 20) (h : PrtsIn w v l) :
    Calls Tryd.prog 41 #[v, .string ((⟨#[102, 111, 114, 109]⟩ : ByteArray) ++ (⟨d.toArray⟩ : ByteArray))] w fun e w' => e = .returned (.bool (stood l (45 :: 45 :: 102 :: 111 :: 114 :: 109 :: d))) ∧ Below w.heap.size w w' := by
  rw [form_l]
  exact rstood_any v l _ w (Nat.le_trans hT (by decide)) (Nat.le_trans hN (by decide)) (by simp only [List.length_cons]; omega) h
set_option maxHeartbeats 2000000 in
theorem sbry_any (v : Value) (l : List Prt) (m : Int) (N : Nat) (w : World) (hT : totQ l ≤ 1048576) (hN : l.length ≤ 1048576) (hNb : N ≤ 4611703610613432320) (hno : stood l (45 :: 45 :: mkN N) = false) (hyes : ∀ j, j < N → stood l (45 :: 45 :: mkN j) = true)
    (h : PrtsIn w v l) (hp : PowAt w) (hm : w.cell? ⟨1, 0, none⟩ = some (.int .i64 m)) :
    Calls Tryd.prog 17 #[v] w fun e w' => e = .returned (.string ⟨(mkN N).toArray⟩) ∧ Below w.heap.size w w' := by
  have HH := Lib.hid (And.intro hT (And.intro hN (And.intro h (And.intro hp hm))))
  have HN := Lib.hid (And.intro hNb (And.intro hno hyes))
  clear hT hN h hp hm hNb hno hyes
  go_enter Tryd.func17, Tryd.ntmps17
  go_wp2
  go_loopw [3] (fun iv wr => ∃ i : Nat, iv = .int .i64 i ∧ i ≤ N ∧ Below w.heap.size w wr) (fun iv _ => N - (intOf iv).toNat)
  case atStart => exact ⟨0, rfl, Nat.zero_le _, Below.refl _ _⟩
  case round =>
    obtain ⟨i, rfl, hi, hb⟩ := hrel
    have hib := Nat.le_trans hi HN.out.1
    have hwi := w64big i hib
    obtain ⟨d, hd⟩ : ∃ d, Lib.decDigits i = d := ⟨_, rfl⟩
    have hdl := dec_bd i hib
    rw [hd] at hdl
    have hf := form_bd _ hdl
    have hmk : mkN i = 102 :: 111 :: 114 :: 109 :: d := by unfold mkN; rw [hd]
    have hc := odigits_any i wr hib (HH.out.2.2.2.1.below hb)
    rw [hd] at hc
    have HC := Lib.hid hc
    have HW := Lib.hid hwi
    have HB := Lib.hid hb
    have HI := Lib.hid hi
    have HM := Lib.hid hmk
    clear hc hwi hb hi hib hd hdl hmk
    go_wp2_with fail
    refine (HC.out).mono ?_
    rintro e w1 ⟨rfl, hb1⟩
    have hb2 := HB.out.trans (hb1.mono HB.out.size)
    have hmx := mx_later (B := 0) HH.out.2.2.2.2 hb2
    have HB2 := Lib.hid hb2
    have HX := Lib.hid hmx
    clear hb1 hb2 hmx
    go_wp2_with fail
    refine (sstood_form v l d m w1 HH.out.1 HH.out.2.1 (HH.out.2.2.1.below HB2.out) HX.out).mono ?_
    rintro e w2 ⟨rfl, hb3⟩
    rw [← HM.out]
    have hb4 := HB2.out.trans (hb3.mono HB2.out.size)
    have HB4 := Lib.hid hb4
    clear hb3 hb4
    cases hst : stood l (45 :: 45 :: mkN i) with
    | false =>
      have hiN : i = N := by
        rcases Nat.lt_or_ge i N with h1 | h1
        · rw [HN.out.2.2 i h1] at hst; cases hst
        · have := HI.out; omega
      have HE := Lib.hid hiN
      clear hst hiN
      go_wp2
      go_ret
      rw [form_l, ← HM.out, HE.out]
      exact ⟨rfl, HB4.out⟩
    | true =>
      have hiN : i < N := by
        rcases Nat.lt_or_ge i N with h1 | h1
        · exact h1
        · have := HI.out
          obtain rfl : i = N := by omega
          rw [HN.out.2.1] at hst; cases hst
      have HE := Lib.hid hiN
      clear hst hiN
      go_wp2
      have hwi := HW.out
      have hlt := HE.out
      go_roundw
      case rel => (try rw [hwi]); clear hwi; exact ⟨i + 1, by go_num, hlt, HB4.out⟩
      case measure => (try rw [hwi]); clear hwi; simp [intOf]; omega
set_option maxHeartbeats 2000000 in
theorem rbry_any (v : Value) (l : List Prt) (N : Nat) (w : World) (hT : totQ l ≤ 1048576) (hN : l.length ≤ 1048576) (hNb : N ≤ 4611703610613432320) (hno : stood l (45 :: 45 :: mkN N) = false) (hyes : ∀ j, j < N → stood l (45 :: 45 :: mkN j) = true)
    (h : PrtsIn w v l) :
    Calls Tryd.prog 18 #[v] w fun e w' => e = .returned (.string ⟨(mkN N).toArray⟩) ∧ Below w.heap.size w w' := by
  have HH := Lib.hid (And.intro hT (And.intro hN h))
  have HN := Lib.hid (And.intro hNb (And.intro hno hyes))
  clear hT hN h hNb hno hyes
  go_enter Tryd.func18, Tryd.ntmps18
  go_wp2
  go_loopw [3] (fun iv wr => ∃ i : Nat, iv = .int .i64 i ∧ i ≤ N ∧ Below w.heap.size w wr) (fun iv _ => N - (intOf iv).toNat)
  case atStart => exact ⟨0, rfl, Nat.zero_le _, Below.refl _ _⟩
  case round =>
    obtain ⟨i, rfl, hi, hb⟩ := hrel
    have hib := Nat.le_trans hi HN.out.1
    have hwi := w64big i hib
    obtain ⟨d, hd⟩ : ∃ d, Lib.decDigits i = d := ⟨_, rfl⟩
    have hdl := dec_bd i hib
    rw [hd] at hdl
    have hf := form_bd _ hdl
    have hmk : mkN i = 102 :: 111 :: 114 :: 109 :: d := by unfold mkN; rw [hd]
    have hc := rdigits_any i wr hib
    rw [hd] at hc
    have HC := Lib.hid hc
    have HW := Lib.hid hwi
    have HB := Lib.hid hb
    have HI := Lib.hid hi
    have HM := Lib.hid hmk
    have HL := Lib.hid hdl
    clear hc hwi hb hi hib hd hdl hmk
    go_wp2_with fail
    refine (HC.out).mono ?_
    rintro e w1 ⟨rfl, hb1⟩
    have hb2 := HB.out.trans (hb1.mono HB.out.size)
    have HB2 := Lib.hid hb2
    clear hb1 hb2
    go_wp2_with fail
    refine (rstood_form v l d w1 HH.out.1 HH.out.2.1 HL.out (HH.out.2.2.below HB2.out)).mono ?_
    rintro e w2 ⟨rfl, hb3⟩
    rw [← HM.out]
    have hb4 := HB2.out.trans (hb3.mono HB2.out.size)
    have HB4 := Lib.hid hb4
    clear hb3 hb4
    cases hst : stood l (45 :: 45 :: mkN i) with
    | false =>
      have hiN : i = N := by
        rcases Nat.lt_or_ge i N with h1 | h1
        · rw [HN.out.2.2 i h1] at hst; cases hst
        · have := HI.out; omega
      have HE := Lib.hid hiN
      clear hst hiN
      go_wp2
      go_ret
      rw [form_l, ← HM.out, HE.out]
      exact ⟨rfl, HB4.out⟩
    | true =>
      have hiN : i < N := by
        rcases Nat.lt_or_ge i N with h1 | h1
        · exact h1
        · have := HI.out
          obtain rfl : i = N := by omega
          rw [HN.out.2.1] at hst; cases hst
      have HE := Lib.hid hiN
      clear hst hiN
      go_wp2
      have hwi := HW.out
      have hlt := HE.out
      go_roundw
      case rel => (try rw [hwi]); clear hwi; exact ⟨i + 1, by go_num, hlt, HB4.out⟩
      case measure => (try rw [hwi]); clear hwi; simp [intOf]; omega
end Go.Proofs.YtgkpiakapdgglaaDoor
