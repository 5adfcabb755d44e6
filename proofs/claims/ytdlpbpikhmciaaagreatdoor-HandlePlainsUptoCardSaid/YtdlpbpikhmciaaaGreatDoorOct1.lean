/- The walks of the classes of bytes: octet's and the reference's. Conditions: octet.signs holds what the text lays. -/
import Derived.Test.YtdlpbpikhmciaaaGreatDoorOctP
import Derived.Test.YtdlpbpikhmciaaaGreatDoorShelf
namespace Go.Proofs.YtdlpbpikhmciaaaGreatDoor
open Go.RowKit
set_option linter.unusedSimpArgs false
set_option linter.unusedVariables false
set_option maxRecDepth 1000000
theorem ret_boolO {a b : Bool} (h : a = b) : Ending.returned (.bool a) = .returned (.bool b) := by rw [h]
/-- octet.signs holds its four words. -/
structure SgAt (w : World) : Prop where
  c0 : w.cell? ⟨0, 0, none⟩ = some (.int .u32 0)
  c1 : w.cell? ⟨0, 1, none⟩ = some (.int .u32 67071226)
  c2 : w.cell? ⟨0, 2, none⟩ = some (.int .u32 3355443198)
  c3 : w.cell? ⟨0, 3, none⟩ = some (.int .u32 1476395007)
theorem SgAt.below {w w' : World} (h : SgAt w) (hb : Below w.heap.size w w') : SgAt w' := by
  have lt : 0 < w.heap.size := World.block_lt_of_cell? _ _ h.c0
  exact ⟨by rw [hb.cell (p := ⟨0, 0, none⟩) lt]; exact h.c0, by rw [hb.cell (p := ⟨0, 1, none⟩) lt]; exact h.c1, by rw [hb.cell (p := ⟨0, 2, none⟩) lt]; exact h.c2, by rw [hb.cell (p := ⟨0, 3, none⟩) lt]; exact h.c3⟩
theorem isBl_nat (c : UInt8) (n : Nat) (h : c.toNat = n) : isBl c = decide (n = 32 ∨ n = 9) := by
  subst h
  unfold isBl
  rw [Bool.eq_iff_iff]; simp
theorem isFb_nat (c : UInt8) (n : Nat) (h : c.toNat = n) : isFb c = decide (n = 9 ∨ (32 ≤ n ∧ n ≠ 127)) := by
  subst h
  unfold isFb
  rw [Bool.eq_iff_iff]; simp
set_option maxHeartbeats 1000000 in
theorem oblank_any (c : UInt8) (w : World) : Calls Tryz.prog 230 #[.int .u8 (c.toNat : Int)] w fun e w' => e = .returned (.bool (isBl c)) ∧ w' = w := by
  obtain ⟨n, hn⟩ : ∃ n, c.toNat = n := ⟨_, rfl⟩
  rw [hn]
  have HN := Lib.hid hn; clear hn
  go_enter Tryz.func230, Tryz.ntmps230
  go_wp2
  all_goals
    go_ret
    refine ⟨ret_boolO ?_, by first | rfl | trivial⟩
    rw [isBl_nat _ _ HN.out, Bool.eq_iff_iff]
    simp only [Bool.or_eq_true, decide_eq_true_eq, beq_iff_eq, true_iff, iff_true]
    omega
set_option maxHeartbeats 1000000 in
theorem rblank_any (c : UInt8) (w : World) : Calls Tryz.prog 72 #[.int .u8 (c.toNat : Int)] w fun e w' => e = .returned (.bool (isBl c)) ∧ w' = w := by
  obtain ⟨n, hn⟩ : ∃ n, c.toNat = n := ⟨_, rfl⟩
  rw [hn]
  have HN := Lib.hid hn; clear hn
  go_enter Tryz.func72, Tryz.ntmps72
  go_wp2
  all_goals
    go_ret
    refine ⟨ret_boolO ?_, by first | rfl | trivial⟩
    rw [isBl_nat _ _ HN.out, Bool.eq_iff_iff]
    simp only [Bool.or_eq_true, decide_eq_true_eq, beq_iff_eq, true_iff, iff_true]
    omega
set_option maxHeartbeats 1000000 in
theorem ofield_any (c : UInt8) (w : World) : Calls Tryz.prog 69 #[.int .u8 (c.toNat : Int)] w fun e w' => e = .returned (.bool (isFb c)) ∧ w' = w := by
  obtain ⟨n, hn⟩ : ∃ n, c.toNat = n := ⟨_, rfl⟩
  rw [hn]
  have HN := Lib.hid hn; clear hn
  go_enter Tryz.func69, Tryz.ntmps69
  go_wp2
  all_goals
    go_ret
    refine ⟨ret_boolO ?_, by first | rfl | trivial⟩
    rw [isFb_nat _ _ HN.out, Bool.eq_iff_iff]
    simp only [Bool.or_eq_true, Bool.and_eq_true, decide_eq_true_eq, beq_iff_eq, bne_iff_ne, true_iff, iff_true, Bool.false_eq_true, false_iff, iff_false]
    omega
set_option maxHeartbeats 1000000 in
theorem rbyte_any (c : UInt8) (w : World) : Calls Tryz.prog 71 #[.int .u8 (c.toNat : Int)] w fun e w' => e = .returned (.bool (isFb c)) ∧ w' = w := by
  obtain ⟨n, hn⟩ : ∃ n, c.toNat = n := ⟨_, rfl⟩
  rw [hn]
  have HN := Lib.hid hn; clear hn
  go_enter Tryz.func71, Tryz.ntmps71
  go_wp2
  all_goals
    go_ret
    refine ⟨ret_boolO ?_, by first | rfl | trivial⟩
    rw [isFb_nat _ _ HN.out, Bool.eq_iff_iff]
    simp only [Bool.or_eq_true, Bool.and_eq_true, decide_eq_true_eq, beq_iff_eq, bne_iff_ne, true_iff, iff_true, Bool.false_eq_true, false_iff, iff_false]
    omega
theorem sgBit0 : ∀ r : Fin 32, (bits .and .u32 0 1 == 1) = isSg (UInt8.ofNat (32 * 0 + r.val)) := by decide +kernel
theorem sgBit1 : ∀ r : Fin 32, (bits .and .u32 (67071226 / 2 ^ r.val) 1 == 1) = isSg (UInt8.ofNat (32 * 1 + r.val)) := by decide +kernel
theorem sgBit2 : ∀ r : Fin 32, (bits .and .u32 (3355443198 / 2 ^ r.val) 1 == 1) = isSg (UInt8.ofNat (32 * 2 + r.val)) := by decide +kernel
theorem sgBit3 : ∀ r : Fin 32, (bits .and .u32 (1476395007 / 2 ^ r.val) 1 == 1) = isSg (UInt8.ofNat (32 * 3 + r.val)) := by decide +kernel
theorem sgHigh : ∀ n : Fin 256, (!decide (128 ≤ n.val) || !isSg (UInt8.ofNat n.val)) = true := by decide +kernel
theorem sg_at (c : UInt8) (n k r : Nat) (h : c.toNat = n) (hk : n / 32 = k) (hr : n % 32 = r) : c = UInt8.ofNat (32 * k + r) := by
  have e : 32 * k + r = c.toNat := by omega
  rw [e]; simp
set_option maxHeartbeats 1000000 in
theorem osign_any (c : UInt8) (w : World) (h : SgAt w) : Calls Tryz.prog 94 #[.int .u8 (c.toNat : Int)] w fun e w' => e = .returned (.bool (isSg c)) ∧ w' = w := by
  obtain ⟨c0, c1, c2, c3⟩ := h
  obtain ⟨n, hn⟩ : ∃ n, c.toNat = n := ⟨_, rfl⟩
  have ln : n < 256 := by rw [← hn]; exact c.toBitVec.isLt
  rw [hn]
  have HN := Lib.hid hn; clear hn
  by_cases h1 : n < 128
  · have i1 : (n : Int) < 128 := by omega
    obtain ⟨k, hk⟩ : ∃ k, n / 32 = k := ⟨_, rfl⟩
    obtain ⟨r, hr⟩ : ∃ r, n % 32 = r := ⟨_, rfl⟩
    have e2 : (n : Int) % 32 = (r : Int) := by omega
    have r0 : (0 : Int) ≤ (r : Int) := by omega
    have r1 : (r : Int) < 32 := by omega
    have lr : r < 32 := by omega
    have lk : k = 0 ∨ k = 1 ∨ k = 2 ∨ k = 3 := by omega
    rcases lk with rfl | rfl | rfl | rfl
    · have e1 : (n : Int) / 32 = 0 := by omega
      have HK := Lib.hid (And.intro hk hr)
      clear hk hr
      go_enter Tryz.func94, Tryz.ntmps94
      go_wp2
      go_ret
      refine ⟨ret_boolO ?_, by first | rfl | trivial⟩
      rw [sg_at c n 0 r HN.out HK.out.1 HK.out.2]
      exact sgBit0 ⟨r, lr⟩
    · have e1 : (n : Int) / 32 = 1 := by omega
      have HK := Lib.hid (And.intro hk hr)
      clear hk hr
      go_enter Tryz.func94, Tryz.ntmps94
      go_wp2
      go_ret
      refine ⟨ret_boolO ?_, by first | rfl | trivial⟩
      rw [sg_at c n 1 r HN.out HK.out.1 HK.out.2]
      exact sgBit1 ⟨r, lr⟩
    · have e1 : (n : Int) / 32 = 2 := by omega
      have HK := Lib.hid (And.intro hk hr)
      clear hk hr
      go_enter Tryz.func94, Tryz.ntmps94
      go_wp2
      go_ret
      refine ⟨ret_boolO ?_, by first | rfl | trivial⟩
      rw [sg_at c n 2 r HN.out HK.out.1 HK.out.2]
      exact sgBit2 ⟨r, lr⟩
    · have e1 : (n : Int) / 32 = 3 := by omega
      have HK := Lib.hid (And.intro hk hr)
      clear hk hr
      go_enter Tryz.func94, Tryz.ntmps94
      go_wp2
      go_ret
      refine ⟨ret_boolO ?_, by first | rfl | trivial⟩
      rw [sg_at c n 3 r HN.out HK.out.1 HK.out.2]
      exact sgBit3 ⟨r, lr⟩
  · have i1 : ¬ (n : Int) < 128 := by omega
    have hf : isSg c = false := by
      have := sgHigh ⟨n, ln⟩
      have e : UInt8.ofNat n = c := by rw [← HN.out]; simp
      simp only [e] at this
      have hd : decide (128 ≤ n) = true := decide_eq_true (by omega)
      rw [hd] at this
      simpa using this
    have HF := Lib.hid hf; clear hf
    go_enter Tryz.func94, Tryz.ntmps94
    go_wp2
    go_ret
    exact ⟨ret_boolO HF.out.symm, rfl⟩
end Go.Proofs.YtdlpbpikhmciaaaGreatDoor
