/- The walks of sheet.stands and turnpikeref01.IsLetter. No conditions. -/
import Derived.Test.YtgkpiakapdgglaaDoorPctR
import Derived.Test.YtgkpiakapdgglaaDoorPrnP
namespace Go.Proofs.YtgkpiakapdgglaaDoor
open Go.RowKit
set_option linter.unusedSimpArgs false
set_option linter.unusedVariables false
set_option maxRecDepth 1000000
theorem u8_eq (c d : UInt8) : (c == d) = decide (c.toNat = d.toNat) := by
  rw [Bool.eq_iff_iff]; simp [UInt8.toNat_inj]
theorem stn_nat (c : UInt8) (n : Nat) (h : c.toNat = n) : stn c = decide ((97 ≤ n ∧ n ≤ 122) ∨ (65 ≤ n ∧ n ≤ 90) ∨ (48 ≤ n ∧ n ≤ 57) ∨ n = 42 ∨ n = 45 ∨ n = 46 ∨ n = 95) := by
  subst h
  unfold stn
  rw [u8_eq, u8_eq, u8_eq, u8_eq]
  rw [Bool.eq_iff_iff]
  simp only [Bool.or_eq_true, Bool.and_eq_true, decide_eq_true_eq]
  rw [show UInt8.toNat 42 = 42 from rfl, show UInt8.toNat 45 = 45 from rfl, show UInt8.toNat 46 = 46 from rfl, show UInt8.toNat 95 = 95 from rfl]
  omega
set_option maxHeartbeats 1000000 in
theorem stands_any (c : UInt8) (w : World) : Calls Tryd.prog 66 #[.int .u8 (c.toNat : Int)] w fun e w' => e = .returned (.bool (stn c)) ∧ w' = w := by
  obtain ⟨n, hn⟩ : ∃ n, c.toNat = n := ⟨_, rfl⟩
  rw [hn]
  have HN := Lib.hid hn; clear hn
  go_enter Tryd.func66, Tryd.ntmps66
  go_wp2
  all_goals
    go_ret
    refine ⟨ret_bool ?_, by first | rfl | trivial⟩
    rw [stn_nat _ _ HN.out, Bool.eq_iff_iff]
    simp only [Bool.or_eq_true, decide_eq_true_eq, beq_iff_eq, true_iff, iff_true]
    omega
def ltr (n : Nat) : Bool := decide ((65 ≤ n ∧ n ≤ 90) ∨ (97 ≤ n ∧ n ≤ 122))
set_option maxHeartbeats 1000000 in
theorem isLetter_any (n : Nat) (w : World) : Calls Tryd.prog 36 #[.int .u8 (n : Int)] w fun e w' => e = .returned (.bool (ltr n)) ∧ w' = w := by
  go_enter Tryd.func36, Tryd.ntmps36
  go_wp2
  all_goals
    go_ret
    refine ⟨ret_bool ?_, by first | rfl | trivial⟩
    unfold ltr
    rw [Bool.eq_iff_iff]
    simp only [Bool.or_eq_true, decide_eq_true_eq, beq_iff_eq, true_iff, iff_true, Bool.false_eq_true, false_iff]
    omega
end Go.Proofs.YtgkpiakapdgglaaDoor
