/- The walk of the reference's IsSign. No conditions. -/
import Derived.Test.YtdlpbpikhmciaaaGreatDoorOct1
namespace Go.Proofs.YtdlpbpikhmciaaaGreatDoor
open Go.RowKit
set_option linter.unusedSimpArgs false
set_option linter.unusedVariables false
set_option maxRecDepth 1000000
def dgN (n : Nat) : Bool := decide (48 ≤ n ∧ n ≤ 57)
def ltN (n : Nat) : Bool := decide ((65 ≤ n ∧ n ≤ 90) ∨ (97 ≤ n ∧ n ≤ 122))
set_option maxHeartbeats 1000000 in
theorem rdigit_any (n : Nat) (w : World) : Calls Tryz.prog 67 #[.int .u8 (n : Int)] w fun e w' => e = .returned (.bool (dgN n)) ∧ w' = w := by
  go_enter Tryz.func67, Tryz.ntmps67
  go_wp2
  all_goals
    go_ret
    refine ⟨ret_boolO ?_, by first | rfl | trivial⟩
    unfold dgN
    rw [Bool.eq_iff_iff]
    simp only [Bool.or_eq_true, decide_eq_true_eq, beq_iff_eq, true_iff, iff_true, Bool.false_eq_true, false_iff]
    omega
set_option maxHeartbeats 1000000 in
theorem rletter_any (n : Nat) (w : World) : Calls Tryz.prog 66 #[.int .u8 (n : Int)] w fun e w' => e = .returned (.bool (ltN n)) ∧ w' = w := by
  go_enter Tryz.func66, Tryz.ntmps66
  go_wp2
  all_goals
    go_ret
    refine ⟨ret_boolO ?_, by first | rfl | trivial⟩
    unfold ltN
    rw [Bool.eq_iff_iff]
    simp only [Bool.or_eq_true, decide_eq_true_eq, beq_iff_eq, true_iff, iff_true, Bool.false_eq_true, false_iff]
    omega
def sgL : List UInt8 := [33, 35, 36, 37, 38, 39, 42, 43, 45, 46, 94, 95, 96, 124, 126]
theorem isSg_eq (c : UInt8) (n : Nat) (h : c.toNat = n) : isSg c = (dgN n || ltN n || sgL.contains c) := by
  subst h
  unfold isSg dgN ltN
  rw [Bool.eq_iff_iff]
  show _ ↔ (_ || _ || List.contains [33, 35, 36, 37, 38, 39, 42, 43, 45, 46, 94, 95, 96, 124, 126] c) = true
  simp only [Bool.or_eq_true, Bool.and_eq_true, decide_eq_true_eq, or_assoc]
theorem sgL_at (i : Nat) (h : i < (⟨#[33, 35, 36, 37, 38, 39, 42, 43, 45, 46, 94, 95, 96, 124, 126]⟩ : ByteArray).size) : sgL[i]? = some ((⟨#[33, 35, 36, 37, 38, 39, 42, 43, 45, 46, 94, 95, 96, 124, 126]⟩ : ByteArray)[i]'h) := by
  have := list_get ⟨#[33, 35, 36, 37, 38, 39, 42, 43, 45, 46, 94, 95, 96, 124, 126]⟩ i h
  exact this
theorem contains_no (c : UInt8) (l : List UInt8) (k : Nat) (hk : l.length ≤ k) (h : ∀ j d, j < k → l[j]? = some d → d ≠ c) : l.contains c = false := by
  rw [List.contains_eq_any_beq, List.any_eq_false]
  intro d hd
  obtain ⟨j, hj⟩ := List.getElem?_of_mem hd
  have hlt : j < l.length := (List.getElem?_eq_some_iff.1 hj).1
  have := h j d (by omega) hj
  simpa using fun e => this e.symm
theorem contains_yes (c : UInt8) (l : List UInt8) (j : Nat) (h : l[j]? = some c) : l.contains c = true := by
  rw [List.contains_iff_mem]; exact List.mem_of_getElem? h
set_option maxHeartbeats 2000000 in
theorem rsign_any (c : UInt8) (w : World) : Calls Tryz.prog 45 #[.int .u8 (c.toNat : Int)] w fun e w' => e = .returned (.bool (isSg c)) ∧ w' = w := by
  obtain ⟨n, hn⟩ : ∃ n, c.toNat = n := ⟨_, rfl⟩
  have he := isSg_eq c n hn
  rw [he, hn]
  have HN := Lib.hid hn; clear hn he
  obtain ⟨a, ha⟩ : ∃ a, dgN n = a := ⟨_, rfl⟩
  obtain ⟨b, hb⟩ : ∃ b, ltN n = b := ⟨_, rfl⟩
  rw [ha, hb]
  have HAB := Lib.hid (And.intro ha hb)
  clear ha hb
  cases a with
  | true =>
    go_enter Tryz.func45, Tryz.ntmps45
    go_wp2_with fail
    refine (rdigit_any n _).mono ?_
    rintro e w' ⟨rfl, rfl⟩
    rw [HAB.out.1]
    go_wp2
    go_ret
    exact ⟨ret_boolO (by simp), rfl⟩
  | false =>
    cases b with
    | true =>
      go_enter Tryz.func45, Tryz.ntmps45
      go_wp2_with fail
      refine (rdigit_any n _).mono ?_
      rintro e w' ⟨rfl, rfl⟩
      rw [HAB.out.1]
      go_wp2_with fail
      refine (rletter_any n _).mono ?_
      rintro e w' ⟨rfl, rfl⟩
      rw [HAB.out.2]
      go_wp2
      go_ret
      exact ⟨ret_boolO (by simp), rfl⟩
    | false =>
      go_enter Tryz.func45, Tryz.ntmps45
      go_wp2_with fail
      refine (rdigit_any n _).mono ?_
      rintro e w' ⟨rfl, rfl⟩
      rw [HAB.out.1]
      go_wp2_with fail
      refine (rletter_any n _).mono ?_
      rintro e w ⟨rfl, rfl⟩
      rw [HAB.out.2]
      go_wp2
      go_loopw [4] (fun iv wr => ∃ i : Nat, iv = .int .i64 i ∧ i ≤ 15 ∧ (∀ j d, j < i → sgL[j]? = some d → d ≠ c) ∧ wr = w) (fun iv _ => 15 - (intOf iv).toNat)
      case atStart => exact ⟨0, rfl, by omega, fun j d h => by omega, rfl⟩
      case round =>
        obtain ⟨i, rfl, hi, hno, rfl⟩ := hrel
        have HNO := Lib.hid hno; clear hno
        by_cases hlt : i < 15
        · have hat := sgL_at i hlt
          obtain ⟨d, hd⟩ : ∃ d, (⟨#[33, 35, 36, 37, 38, 39, 42, 43, 45, 46, 94, 95, 96, 124, 126]⟩ : ByteArray)[i]'hlt = d := ⟨_, rfl⟩
          rw [hd] at hat
          have k0 : (0 : Int) ≤ (i : Int) := by omega
          have k1 : (i : Int) < 15 := by omega
          have HAT := Lib.hid hat; clear hat
          by_cases hdc : d = c
          · subst hdc
            have e1 : ((d.toNat : Int) == (n : Int)) = true := by rw [HN.out]; simp
            have hy := contains_yes d sgL i HAT.out
            have HY := Lib.hid hy
            clear hy
            go_wp2
            go_ret
            exact ⟨ret_boolO (by rw [HY.out]; simp), rfl⟩
          · have e1 : ((d.toNat : Int) == (n : Int)) = false := by
              rw [← HN.out]
              have : d.toNat ≠ c.toNat := fun e => hdc (UInt8.toNat_inj.1 e)
              simp; omega
            have hx : ∀ j e, j < i + 1 → sgL[j]? = some e → e ≠ c := fun j e hj he => by
              by_cases hji : j < i
              · exact HNO.out j e hji he
              · obtain rfl : j = i := by omega
                rw [HAT.out] at he; injection he with he; subst he; exact hdc
            have HX := Lib.hid hx
            clear hx hdc
            go_wp2
            go_roundw
            case rel => exact ⟨i + 1, by go_num, by omega, HX.out, by first | rfl | trivial⟩
            case measure => simp [intOf]; omega
        · obtain rfl : i = 15 := by omega
          have hf := contains_no c sgL 15 (by decide) HNO.out
          have HF := Lib.hid hf; clear hf
          go_wp2
          go_ret
          exact ⟨ret_boolO (by rw [HF.out]; simp), rfl⟩
end Go.Proofs.YtdlpbpikhmciaaaGreatDoor
