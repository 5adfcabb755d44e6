/- Oct1, Oct2, TgP, NmP, Tg1: texts of the seat, one behind the other (a claim holds at most sixty). Conditions: each theorem names its own. -/
import Derived.Test.YtpdbejeiceodkaaGreatDoorPk01
import Derived.Test.YtpdbejeiceodkaaGreatDoorPa02
import Derived.Deep.DeepCutAuto
namespace Go.Proofs.YtpdbejeiceodkaaGreatDoor
open Go.RowKit
set_option linter.unusedSimpArgs false
set_option linter.unusedVariables false
set_option maxRecDepth 1000000
theorem ret_boolO {a b : Bool} (h : a = b) : Ending.returned (.bool a) = .returned (.bool b) := by rw [h]
/-- octet.signs holds its four words. -/
structure SgAt (w : World) : Prop where
  c0 : w.cell? ⟨1, 0, none⟩ = some (.int .u32 0)
  c1 : w.cell? ⟨1, 1, none⟩ = some (.int .u32 67071226)
  c2 : w.cell? ⟨1, 2, none⟩ = some (.int .u32 3355443198)
  c3 : w.cell? ⟨1, 3, none⟩ = some (.int .u32 1476395007)
theorem SgAt.below {w w' : World} (h : SgAt w) (hb : Below w.heap.size w w') : SgAt w' := by
  have lt : 1 < w.heap.size := World.block_lt_of_cell? _ _ h.c0
  exact ⟨by rw [hb.cell (p := ⟨1, 0, none⟩) lt]; exact h.c0, by rw [hb.cell (p := ⟨1, 1, none⟩) lt]; exact h.c1, by rw [hb.cell (p := ⟨1, 2, none⟩) lt]; exact h.c2, by rw [hb.cell (p := ⟨1, 3, none⟩) lt]; exact h.c3⟩
theorem isBl_nat (c : UInt8) (n : Nat) (h : c.toNat = n) : isBl c = decide (n = 32 ∨ n = 9) := by
  subst h
  unfold isBl
  rw [Bool.eq_iff_iff]; simp
theorem isFb_nat (c : UInt8) (n : Nat) (h : c.toNat = n) : isFb c = decide (n = 9 ∨ (32 ≤ n ∧ n ≠ 127)) := by
  subst h
  unfold isFb
  rw [Bool.eq_iff_iff]; simp
set_option maxHeartbeats 1000000 in
theorem oblank_any (c : UInt8) (w : World) : Calls Tryz.prog 160 #[.int .u8 (c.toNat : Int)] w fun e w' => e = .returned (.bool (isBl c)) ∧ w' = w := by
  obtain ⟨n, hn⟩ : ∃ n, c.toNat = n := ⟨_, rfl⟩
  rw [hn]
  have HN := Lib.hid hn; clear hn
  go_enter Tryz.func160, Tryz.ntmps160
  go_wp2
  all_goals
    go_ret
    refine ⟨ret_boolO ?_, by first | rfl | trivial⟩
    rw [isBl_nat _ _ HN.out, Bool.eq_iff_iff]
    simp only [Bool.or_eq_true, decide_eq_true_eq, beq_iff_eq, true_iff, iff_true]
    omega
set_option maxHeartbeats 1000000 in
theorem rblank_any (c : UInt8) (w : World) : Calls Tryz.prog 130 #[.int .u8 (c.toNat : Int)] w fun e w' => e = .returned (.bool (isBl c)) ∧ w' = w := by
  obtain ⟨n, hn⟩ : ∃ n, c.toNat = n := ⟨_, rfl⟩
  rw [hn]
  have HN := Lib.hid hn; clear hn
  go_enter Tryz.func130, Tryz.ntmps130
  go_wp2
  all_goals
    go_ret
    refine ⟨ret_boolO ?_, by first | rfl | trivial⟩
    rw [isBl_nat _ _ HN.out, Bool.eq_iff_iff]
    simp only [Bool.or_eq_true, decide_eq_true_eq, beq_iff_eq, true_iff, iff_true]
    omega
set_option maxHeartbeats 1000000 in
theorem ofield_any (c : UInt8) (w : World) : Calls Tryz.prog 193 #[.int .u8 (c.toNat : Int)] w fun e w' => e = .returned (.bool (isFb c)) ∧ w' = w := by
  obtain ⟨n, hn⟩ : ∃ n, c.toNat = n := ⟨_, rfl⟩
  rw [hn]
  have HN := Lib.hid hn; clear hn
  go_enter Tryz.func193, Tryz.ntmps193
  go_wp2
  all_goals
    go_ret
    refine ⟨ret_boolO ?_, by first | rfl | trivial⟩
    rw [isFb_nat _ _ HN.out, Bool.eq_iff_iff]
    simp only [Bool.or_eq_true, Bool.and_eq_true, decide_eq_true_eq, beq_iff_eq, bne_iff_ne, true_iff, iff_true, Bool.false_eq_true, false_iff, iff_false]
    omega
set_option maxHeartbeats 1000000 in
theorem rbyte_any (c : UInt8) (w : World) : Calls Tryz.prog 173 #[.int .u8 (c.toNat : Int)] w fun e w' => e = .returned (.bool (isFb c)) ∧ w' = w := by
  obtain ⟨n, hn⟩ : ∃ n, c.toNat = n := ⟨_, rfl⟩
  rw [hn]
  have HN := Lib.hid hn; clear hn
  go_enter Tryz.func173, Tryz.ntmps173
  go_wp2
  all_goals
    go_ret
    refine ⟨ret_boolO ?_, by first | rfl | trivial⟩
    rw [isFb_nat _ _ HN.out, Bool.eq_iff_iff]
    simp only [Bool.or_eq_true, Bool.and_eq_true, decide_eq_true_eq, beq_iff_eq, bne_iff_ne, true_iff, iff_true, Bool.false_eq_true, false_iff, iff_false]
    omega
theorem sgBit0 : ∀ r : Fin 32, (bits .and .u32 0 1 == 1) = isSg (UInt8.ofNat (32 * 0 + r.val)) := by decide +kernel
theorem sgBit1 : ∀ r : Fin 32, (bits .and .u32 (67071226 / 2 ^ r.val) 1 == 1) = isSg (UInt8.ofNat (32 * 1 + r.val)) := by decide +kernel
theorem sgBit2 : ∀ r : Fin 32, (bits .and .u32 (3355443198 / 2 ^ r.val) 1 == 1) = isSg (UInt8.ofNat (32 * 2 + r.val)) := by decide +kernel
theorem sgBit3 : ∀ r : Fin 32, (bits .and .u32 (1476395007 / 2 ^ r.val) 1 == 1) = isSg (UInt8.ofNat (32 * 3 + r.val)) := by decide +kernel
theorem sgHigh : ∀ n : Fin 256, (!decide (128 ≤ n.val) || !isSg (UInt8.ofNat n.val)) = true := by decide +kernel
theorem sg_at (c : UInt8) (n k r : Nat) (h : c.toNat = n) (hk : n / 32 = k) (hr : n % 32 = r) : c = UInt8.ofNat (32 * k + r) := by
  have e : 32 * k + r = c.toNat := by omega
  rw [e]; simp
set_option maxHeartbeats 1000000 in
theorem osign_any (c : UInt8) (w : World) (h : SgAt w) : Calls Tryz.prog 148 #[.int .u8 (c.toNat : Int)] w fun e w' => e = .returned (.bool (isSg c)) ∧ w' = w := by
  obtain ⟨c0, c1, c2, c3⟩ := h
  obtain ⟨n, hn⟩ : ∃ n, c.toNat = n := ⟨_, rfl⟩
  have ln : n < 256 := by rw [← hn]; exact c.toBitVec.isLt
  rw [hn]
  have HN := Lib.hid hn; clear hn
  by_cases h1 : n < 128
  · have i1 : (n : Int) < 128 := by omega
    obtain ⟨k, hk⟩ : ∃ k, n / 32 = k := ⟨_, rfl⟩
    obtain ⟨r, hr⟩ : ∃ r, n % 32 = r := ⟨_, rfl⟩
    have e2 : (n : Int) % 32 = (r : Int) := by omega
    have r0 : (0 : Int) ≤ (r : Int) := by omega
    have r1 : (r : Int) < 32 := by omega
    have lr : r < 32 := by omega
    have lk : k = 0 ∨ k = 1 ∨ k = 2 ∨ k = 3 := by omega
    rcases lk with rfl | rfl | rfl | rfl
    · have e1 : (n : Int) / 32 = 0 := by omega
      have HK := Lib.hid (And.intro hk hr)
      clear hk hr
      go_enter Tryz.func148, Tryz.ntmps148
      go_wp2
      go_ret
      refine ⟨ret_boolO ?_, by first | rfl | trivial⟩
      rw [sg_at c n 0 r HN.out HK.out.1 HK.out.2]
      exact sgBit0 ⟨r, lr⟩
    · have e1 : (n : Int) / 32 = 1 := by omega
      have HK := Lib.hid (And.intro hk hr)
      clear hk hr
      go_enter Tryz.func148, Tryz.ntmps148
      go_wp2
      go_ret
      refine ⟨ret_boolO ?_, by first | rfl | trivial⟩
      rw [sg_at c n 1 r HN.out HK.out.1 HK.out.2]
      exact sgBit1 ⟨r, lr⟩
    · have e1 : (n : Int) / 32 = 2 := by omega
      have HK := Lib.hid (And.intro hk hr)
      clear hk hr
      go_enter Tryz.func148, Tryz.ntmps148
      go_wp2
      go_ret
      refine ⟨ret_boolO ?_, by first | rfl | trivial⟩
      rw [sg_at c n 2 r HN.out HK.out.1 HK.out.2]
      exact sgBit2 ⟨r, lr⟩
    · have e1 : (n : Int) / 32 = 3 := by omega
      have HK := Lib.hid (And.intro hk hr)
      clear hk hr
      go_enter Tryz.func148, Tryz.ntmps148
      go_wp2
      go_ret
      refine ⟨ret_boolO ?_, by first | rfl | trivial⟩
      rw [sg_at c n 3 r HN.out HK.out.1 HK.out.2]
      exact sgBit3 ⟨r, lr⟩
  · have i1 : ¬ (n : Int) < 128 := by omega
    have hf : isSg c = false := by
      have := sgHigh ⟨n, ln⟩
      have e : UInt8.ofNat n = c := by rw [← HN.out]; simp
      simp only [e] at this
      have hd : decide (128 ≤ n) = true := decide_eq_true (by omega)
      rw [hd] at this
      simpa using this
    have HF := Lib.hid hf; clear hf
    go_enter Tryz.func148, Tryz.ntmps148
    go_wp2
    go_ret
    exact ⟨ret_boolO HF.out.symm, rfl⟩
end Go.Proofs.YtpdbejeiceodkaaGreatDoor
namespace Go.Proofs.YtpdbejeiceodkaaGreatDoor
open Go.RowKit
set_option linter.unusedSimpArgs false
set_option linter.unusedVariables false
set_option maxRecDepth 1000000
def dgN (n : Nat) : Bool := decide (48 ≤ n ∧ n ≤ 57)
def ltN (n : Nat) : Bool := decide ((65 ≤ n ∧ n ≤ 90) ∨ (97 ≤ n ∧ n ≤ 122))
set_option maxHeartbeats 1000000 in
theorem rdigit_any (n : Nat) (w : World) : Calls Tryz.prog 133 #[.int .u8 (n : Int)] w fun e w' => e = .returned (.bool (dgN n)) ∧ w' = w := by
  go_enter Tryz.func133, Tryz.ntmps133
  go_wp2
  all_goals
    go_ret
    refine ⟨ret_boolO ?_, by first | rfl | trivial⟩
    unfold dgN
    rw [Bool.eq_iff_iff]
    simp only [Bool.or_eq_true, decide_eq_true_eq, beq_iff_eq, true_iff, iff_true, Bool.false_eq_true, false_iff]
    omega
set_option maxHeartbeats 1000000 in
theorem rletter_any (n : Nat) (w : World) : Calls Tryz.prog 134 #[.int .u8 (n : Int)] w fun e w' => e = .returned (.bool (ltN n)) ∧ w' = w := by
  go_enter Tryz.func134, Tryz.ntmps134
  go_wp2
  all_goals
    go_ret
    refine ⟨ret_boolO ?_, by first | rfl | trivial⟩
    unfold ltN
    rw [Bool.eq_iff_iff]
    simp only [Bool.or_eq_true, decide_eq_true_eq, beq_iff_eq, true_iff, iff_true, Bool.false_eq_true, false_iff]
    omega
def sgL : List UInt8 := [33, 35, 36, 37, 38, 39, 42, 43, 45, 46, 94, 95, 96, 124, 126]
theorem isSg_eq (c : UInt8) (n : Nat) (h : c.toNat = n) : isSg c = (dgN n || ltN n || sgL.contains c) := by
  subst h
  unfold isSg dgN ltN
  rw [Bool.eq_iff_iff]
  show _ ↔ (_ || _ || List.contains [33, 35, 36, 37, 38, 39, 42, 43, 45, 46, 94, 95, 96, 124, 126] c) = true
  simp only [Bool.or_eq_true, Bool.and_eq_true, decide_eq_true_eq, or_assoc]
theorem sgL_at (i : Nat) (h : i < (⟨#[33, 35, 36, 37, 38, 39, 42, 43, 45, 46, 94, 95, 96, 124, 126]⟩ : ByteArray).size) : sgL[i]? = some ((⟨#[33, 35, 36, 37, 38, 39, 42, 43, 45, 46, 94, 95, 96, 124, 126]⟩ : ByteArray)[i]'h) := by
  have := list_get ⟨#[33, 35, 36, 37, 38, 39, 42, 43, 45, 46, 94, 95, 96, 124, 126]⟩ i h
  exact this
theorem contains_no (c : UInt8) (l : List UInt8) (k : Nat) (hk : l.length ≤ k) (h : ∀ j d, j < k → l[j]? = some d → d ≠ c) : l.contains c = false := by
  rw [List.contains_eq_any_beq, List.any_eq_false]
  intro d hd
  obtain ⟨j, hj⟩ := List.getElem?_of_mem hd
  have hlt : j < l.length := (List.getElem?_eq_some_iff.1 hj).1
  have := h j d (by omega) hj
  simpa using fun e => this e.symm
theorem contains_yes (c : UInt8) (l : List UInt8) (j : Nat) (h : l[j]? = some c) : l.contains c = true := by
  rw [List.contains_iff_mem]; exact List.mem_of_getElem? h
set_option maxHeartbeats 2000000 in
theorem rsign_any (c : UInt8) (w : World) : Calls Tryz.prog 86 #[.int .u8 (c.toNat : Int)] w fun e w' => e = .returned (.bool (isSg c)) ∧ w' = w := by
  obtain ⟨n, hn⟩ : ∃ n, c.toNat = n := ⟨_, rfl⟩
  have he := isSg_eq c n hn
  rw [he, hn]
  have HN := Lib.hid hn; clear hn he
  obtain ⟨a, ha⟩ : ∃ a, dgN n = a := ⟨_, rfl⟩
  obtain ⟨b, hb⟩ : ∃ b, ltN n = b := ⟨_, rfl⟩
  rw [ha, hb]
  have HAB := Lib.hid (And.intro ha hb)
  clear ha hb
  cases a with
  | true =>
    go_enter Tryz.func86, Tryz.ntmps86
    go_wp2_with fail
    refine (rdigit_any n _).mono ?_
    rintro e w' ⟨rfl, rfl⟩
    rw [HAB.out.1]
    go_wp2
    go_ret
    exact ⟨ret_boolO (by simp), rfl⟩
  | false =>
    cases b with
    | true =>
      go_enter Tryz.func86, Tryz.ntmps86
      go_wp2_with fail
      refine (rdigit_any n _).mono ?_
      rintro e w' ⟨rfl, rfl⟩
      rw [HAB.out.1]
      go_wp2_with fail
      refine (rletter_any n _).mono ?_
      rintro e w' ⟨rfl, rfl⟩
      rw [HAB.out.2]
      go_wp2
      go_ret
      exact ⟨ret_boolO (by simp), rfl⟩
    | false =>
      go_enter Tryz.func86, Tryz.ntmps86
      go_wp2_with fail
      refine (rdigit_any n _).mono ?_
      rintro e w' ⟨rfl, rfl⟩
      rw [HAB.out.1]
      go_wp2_with fail
      refine (rletter_any n _).mono ?_
      rintro e w ⟨rfl, rfl⟩
      rw [HAB.out.2]
      go_wp2
      go_loopw [4] (fun iv wr => ∃ i : Nat, iv = .int .i64 i ∧ i ≤ 15 ∧ (∀ j d, j < i → sgL[j]? = some d → d ≠ c) ∧ wr = w) (fun iv _ => 15 - (intOf iv).toNat)
      case atStart => exact ⟨0, rfl, by omega, fun j d h => by omega, rfl⟩
      case round =>
        obtain ⟨i, rfl, hi, hno, rfl⟩ := hrel
        have HNO := Lib.hid hno; clear hno
        by_cases hlt : i < 15
        · have hat := sgL_at i hlt
          obtain ⟨d, hd⟩ : ∃ d, (⟨#[33, 35, 36, 37, 38, 39, 42, 43, 45, 46, 94, 95, 96, 124, 126]⟩ : ByteArray)[i]'hlt = d := ⟨_, rfl⟩
          rw [hd] at hat
          have k0 : (0 : Int) ≤ (i : Int) := by omega
          have k1 : (i : Int) < 15 := by omega
          have HAT := Lib.hid hat; clear hat
          by_cases hdc : d = c
          · subst hdc
            have e1 : ((d.toNat : Int) == (n : Int)) = true := by rw [HN.out]; simp
            have hy := contains_yes d sgL i HAT.out
            have HY := Lib.hid hy
            clear hy
            go_wp2
            go_ret
            exact ⟨ret_boolO (by rw [HY.out]; simp), rfl⟩
          · have e1 : ((d.toNat : Int) == (n : Int)) = false := by
              rw [← HN.out]
              have : d.toNat ≠ c.toNat := fun e => hdc (UInt8.toNat_inj.1 e)
              simp; omega
            have hx : ∀ j e, j < i + 1 → sgL[j]? = some e → e ≠ c := fun j e hj he => by
              by_cases hji : j < i
              · exact HNO.out j e hji he
              · obtain rfl : j = i := by omega
                rw [HAT.out] at he; injection he with he; subst he; exact hdc
            have HX := Lib.hid hx
            clear hx hdc
            go_wp2
            go_roundw
            case rel => exact ⟨i + 1, by go_num, by omega, HX.out, by first | rfl | trivial⟩
            case measure => simp [intOf]; omega
        · obtain rfl : i = 15 := by omega
          have hf := contains_no c sgL 15 (by decide) HNO.out
          have HF := Lib.hid hf; clear hf
          go_wp2
          go_ret
          exact ⟨ret_boolO (by rw [HF.out]; simp), rfl⟩
end Go.Proofs.YtpdbejeiceodkaaGreatDoor
namespace Go.Proofs.YtpdbejeiceodkaaGreatDoor
open Go.RowKit
set_option linter.unusedSimpArgs false
set_option linter.unusedVariables false
set_option maxRecDepth 1000000
/-- The classes of bytes: 1 unreserved, 2 delimiters, 4 ':' and '@', 8 '/', 16 '?', 0 none. -/
def unr (n : Nat) : Bool := ltN n || dgN n || [45, 46, 95, 126].contains n
def dlm (n : Nat) : Bool := [33, 36, 38, 39, 40, 41, 42, 43, 44, 59, 61].contains n
def cls (n : Nat) : Int := if unr n = true then 1 else if dlm n = true then 2 else if n = 58 ∨ n = 64 then 4 else if n = 47 then 8 else if n = 63 then 16 else 0
/-- What a hexadecimal digit says; -1: it is none. -/
def hxV (n : Nat) : Int := if 48 ≤ n ∧ n ≤ 57 then (n : Int) - 48 else if 97 ≤ n ∧ n ≤ 102 then (n : Int) - 87 else if 65 ≤ n ∧ n ≤ 70 then (n : Int) - 55 else -1
def isHx (n : Nat) : Bool := dgN n || decide (65 ≤ n ∧ n ≤ 70) || decide (97 ≤ n ∧ n ≤ 102)
theorem hxV_is (n : Nat) : decide (0 ≤ hxV n) = isHx n := by
  unfold hxV isHx dgN
  rw [Bool.eq_iff_iff]
  simp only [Bool.or_eq_true, decide_eq_true_eq]
  split
  · omega
  · split
    · omega
    · split <;> omega
theorem hxV_lt (n : Nat) : -1 ≤ hxV n ∧ hxV n ≤ 15 := by
  unfold hxV
  split
  · omega
  · split
    · omega
    · split <;> omega
end Go.Proofs.YtpdbejeiceodkaaGreatDoor
namespace Go.Proofs.YtpdbejeiceodkaaGreatDoor
open Go.RowKit
set_option linter.unusedSimpArgs false
set_option linter.unusedVariables false
set_option maxRecDepth 1000000
/-- A sign of paths. -/
def psg (n : Nat) : Bool := unr n || dlm n || (n == 58 || n == 64) || n == 47
/-- How far a text has signs of paths and percent triples. -/
def sgn : List UInt8 → Nat
  | [] => 0
  | c :: r => match trip (c :: r) with
    | some _ => 3 + sgn (r.drop 2)
    | none => if psg c.toNat = true then 1 + sgn r else 0
termination_by l => l.length
decreasing_by all_goals (simp only [List.length_drop, List.length_cons]; omega)
theorem sgn_nil : sgn [] = 0 := by rw [sgn]
theorem sgn_trip (l : List UInt8) (n : Nat) (h : trip l = some n) : sgn l = 3 + sgn (l.drop 3) := by
  cases l with
  | nil => cases h
  | cons c r => rw [sgn, h]; rfl
theorem sgn_one (c : UInt8) (r : List UInt8) (h : trip (c :: r) = none) (hp : psg c.toNat = true) : sgn (c :: r) = 1 + sgn r := by rw [sgn, h]; exact if_pos hp
theorem sgn_bad (c : UInt8) (r : List UInt8) (h : trip (c :: r) = none) (hp : psg c.toNat = false) : sgn (c :: r) = 0 := by rw [sgn, h]; exact if_neg (by rw [hp]; decide)
theorem trip_len (l : List UInt8) (n : Nat) (h : trip l = some n) : 3 ≤ l.length := by
  obtain ⟨a, b, r, x, y, rfl, _⟩ := trip_some l n h
  simp
theorem sgn_le : ∀ (k : Nat) (l : List UInt8), l.length ≤ k → sgn l ≤ l.length
  | 0, l, h => by rw [List.eq_nil_of_length_eq_zero (by omega : l.length = 0), sgn_nil]; exact Nat.le_refl _
  | k + 1, [], _ => by rw [sgn_nil]; exact Nat.le_refl _
  | k + 1, c :: r, h => by
    cases ht : trip (c :: r) with
    | some n =>
      have h3 := trip_len _ _ ht
      have := sgn_le k ((c :: r).drop 3) (by rw [List.length_drop]; omega)
      rw [sgn_trip _ _ ht]
      rw [List.length_drop] at this
      omega
    | none =>
      cases hp : psg c.toNat with
      | true =>
        have := sgn_le k r (by simp at h; omega)
        rw [sgn_one c r ht hp, List.length_cons]
        omega
      | false => rw [sgn_bad c r ht hp]; omega
theorem trip_first (c : UInt8) (r : List UInt8) (h : c ≠ 37) : trip (c :: r) = none := by
  match r with
  | [] => rfl
  | [_] => rfl
  | a :: b :: r => simp only [trip]; rw [if_neg h]
theorem psg37 : psg (37 : UInt8).toNat = false := by decide
theorem psg_cls (n : Nat) : (bits BinOp.and IntKind.i64 (cls n) 15 == 0) = !psg n := by
  have h1 : (bits BinOp.and IntKind.i64 1 15 == 0) = false := by kernel_rfl
  have h2 : (bits BinOp.and IntKind.i64 2 15 == 0) = false := by kernel_rfl
  have h4 : (bits BinOp.and IntKind.i64 4 15 == 0) = false := by kernel_rfl
  have h8 : (bits BinOp.and IntKind.i64 8 15 == 0) = false := by kernel_rfl
  have h16 : (bits BinOp.and IntKind.i64 16 15 == 0) = true := by kernel_rfl
  have h0 : (bits BinOp.and IntKind.i64 0 15 == 0) = true := by kernel_rfl
  unfold cls psg
  cases hu : unr n with
  | true => rw [if_pos rfl, h1]; simp
  | false =>
    rw [if_neg (by decide)]
    cases hd : dlm n with
    | true => rw [if_pos rfl, h2]; simp
    | false =>
      rw [if_neg (by decide)]
      by_cases h58 : n = 58 ∨ n = 64
      · rw [if_pos h58, h4]; rcases h58 with rfl | rfl <;> rfl
      · rw [if_neg h58]
        have e1 : (n == 58 || n == 64) = false := by simp; omega
        rw [e1]
        by_cases h47 : n = 47
        · rw [if_pos h47, h8]; subst h47; rfl
        · rw [if_neg h47]
          have e2 : (n == 47) = false := by simp; omega
          rw [e2]
          by_cases h63 : n = 63
          · rw [if_pos h63, h16]; rfl
          · rw [if_neg h63, h0]; rfl
/-- A text is a path. -/
def isP (l : List UInt8) : Bool := l.head? == some 47 && sgn l == l.length
/-- A byte of a triple in its normal form. -/
def nrb (n : Nat) : List UInt8 := if unr n = true then [UInt8.ofNat n] else [37, hxU (n / 16), hxU (n % 16)]
def pln : List UInt8 → List UInt8
  | [] => []
  | c :: r => match trip (c :: r) with
    | some n => nrb n ++ pln (r.drop 2)
    | none => c :: pln r
termination_by l => l.length
decreasing_by all_goals (simp only [List.length_drop, List.length_cons]; omega)
theorem pln_nil : pln [] = [] := by rw [pln]
theorem pln_trip (l : List UInt8) (n : Nat) (h : trip l = some n) : pln l = nrb n ++ pln (l.drop 3) := by
  cases l with
  | nil => cases h
  | cons c r => rw [pln, h]; rfl
theorem pln_one (c : UInt8) (r : List UInt8) (h : trip (c :: r) = none) : pln (c :: r) = c :: pln r := by rw [pln, h]
theorem nrb_len (n : Nat) : (nrb n).length ≤ 3 := by unfold nrb; split <;> simp
theorem pln_le : ∀ (k : Nat) (l : List UInt8), l.length ≤ k → (pln l).length ≤ l.length
  | 0, l, h => by rw [List.eq_nil_of_length_eq_zero (by omega : l.length = 0), pln_nil]; exact Nat.le_refl _
  | k + 1, [], _ => by rw [pln_nil]; exact Nat.le_refl _
  | k + 1, c :: r, h => by
    cases ht : trip (c :: r) with
    | some n =>
      have h3 := trip_len _ _ ht
      have := pln_le k ((c :: r).drop 3) (by rw [List.length_drop]; omega)
      have := nrb_len n
      rw [pln_trip _ _ ht, List.length_append]
      rw [List.length_drop] at *
      omega
    | none =>
      have := pln_le k r (by simp at h; omega)
      rw [pln_one c r ht, List.length_cons, List.length_cons]
      omega
/-- Dots. -/
def dts (s : List UInt8) : Bool := s == [46] || s == [46, 46]
def stp (k : List (List UInt8)) (s : List UInt8) : List (List UInt8) := if s = [46, 46] ∧ k ≠ [] then k.dropLast else if dts s = true then k else k ++ [s]
def kpt (l : List (List UInt8)) : List (List UInt8) := l.foldl stp []
def dtl (l : List (List UInt8)) : Bool := match l.getLast? with | some s => dts s | none => false
def kpe (l : List (List UInt8)) : List (List UInt8) := if dtl l = true then kpt l ++ [[]] else kpt l
def nrm (l : List UInt8) : List UInt8 × Nat := if isP l = true then (47 :: Lib.join (kpe (Lib.split (pln l).tail [47])) [47], 0) else ([], 53)
theorem kpt_snoc (l : List (List UInt8)) (s : List UInt8) : kpt (l ++ [s]) = stp (kpt l) s := by unfold kpt; rw [List.foldl_append]; rfl
theorem dtl_snoc (l : List (List UInt8)) (s : List UInt8) : dtl (l ++ [s]) = dts s := by unfold dtl; rw [List.getLast?_append]; rfl
theorem stp_len (k : List (List UInt8)) (s : List UInt8) : (stp k s).length ≤ k.length + 1 := by
  unfold stp
  split
  · rw [List.length_dropLast]; omega
  · split
    · omega
    · simp
theorem kpt_len (l : List (List UInt8)) : ∀ (k : List (List UInt8)), (l.foldl stp k).length ≤ k.length + l.length := by
  induction l with
  | nil => intro k; exact Nat.le_refl _
  | cons s r ih => intro k; have := ih (stp k s); have := stp_len k s; simp only [List.foldl_cons, List.length_cons]; omega
theorem kpt_le (l : List (List UInt8)) : (kpt l).length ≤ l.length := by have := kpt_len l []; simpa [kpt] using this
/-- Of segments at least one is kept. -/
theorem kpe_ne (l : List (List UInt8)) (h : l ≠ []) : kpe l ≠ [] := by
  obtain ⟨r, s, rfl⟩ : ∃ r s, l = r ++ [s] := ⟨_, _, (List.dropLast_concat_getLast h).symm⟩
  unfold kpe
  rw [dtl_snoc]
  cases hd : dts s with
  | true => rw [if_pos rfl]; simp
  | false =>
    rw [if_neg (by decide), kpt_snoc]
    unfold stp
    rw [if_neg, if_neg (by rw [hd]; decide)]
    · simp
    · rintro ⟨rfl, _⟩
      revert hd
      decide
/-- Bytes of a list of texts. -/
def tot : List (List UInt8) → Nat
  | [] => 0
  | p :: r => p.length + tot r
theorem tot_append (a b : List (List UInt8)) : tot (a ++ b) = tot a + tot b := by
  induction a with
  | nil => simp [tot]
  | cons p r ih => simp only [List.cons_append, tot, ih]; omega
theorem tot_dropLast (k : List (List UInt8)) : tot k.dropLast ≤ tot k := by
  rcases List.eq_nil_or_concat k with rfl | ⟨r, s, rfl⟩
  · exact Nat.le_refl _
  · rw [List.concat_eq_append, List.dropLast_concat, tot_append]; omega
theorem stp_tot (k : List (List UInt8)) (s : List UInt8) : tot (stp k s) ≤ tot k + s.length := by
  unfold stp
  split
  · have := tot_dropLast k; omega
  · split
    · omega
    · rw [tot_append]; simp [tot]
theorem kpt_tot (l : List (List UInt8)) : ∀ (k : List (List UInt8)), tot (l.foldl stp k) ≤ tot k + tot l := by
  induction l with
  | nil => intro k; simp [tot]
  | cons s r ih => intro k; have := ih (stp k s); have := stp_tot k s; simp only [List.foldl_cons, tot]; omega
theorem kpe_tot (l : List (List UInt8)) : tot (kpe l) ≤ tot l ∧ (kpe l).length ≤ l.length + 1 := by
  have h := kpt_tot l []
  have h2 := kpt_le l
  unfold kpe
  split
  · rw [tot_append]; simp only [List.length_append, List.length_cons, List.length_nil]; simp [tot] at h ⊢; exact ⟨by simpa [kpt, tot] using h, h2⟩
  · exact ⟨by simpa [kpt, tot] using h, by omega⟩
theorem join_tot (q : List (List UInt8)) (sep : List UInt8) : (Lib.join q sep).length ≤ tot q + q.length * sep.length := by
  induction q with
  | nil => simp [Lib.join]
  | cons p r ih =>
    cases r with
    | nil => rw [Lib.join_one]; simp [tot]
    | cons p2 r2 => rw [show Lib.join (p :: p2 :: r2) sep = p ++ sep ++ Lib.join (p2 :: r2) sep from by first | rfl | simp [Lib.join]]; simp only [List.length_append, tot, List.length_cons, Nat.succ_mul] at *; omega
end Go.Proofs.YtpdbejeiceodkaaGreatDoor
namespace Go.Proofs.YtpdbejeiceodkaaGreatDoor
open Go.RowKit
set_option linter.unusedSimpArgs false
set_option linter.unusedVariables false
set_option maxRecDepth 1000000
theorem rhex_any (n : Nat) (w : World) : Calls Tryz.prog 216 #[.int .u8 (n : Int)] w fun e w' => e = .returned (.bool (isHx n)) ∧ w' = w := by
  have h := rdigit_any n w
  cases hd : dgN n with
  | true =>
    rw [hd] at h
    have HR := Lib.hid (show isHx n = true by unfold isHx; rw [hd]; rfl)
    have H := Lib.hid h
    clear h hd
    go_enter Tryz.func216, Tryz.ntmps216
    go_wp2_with fail
    refine (H.out).mono ?_
    rintro e w1 ⟨rfl, hw1⟩
    subst hw1
    go_wp2
    go_ret
    rw [HR.out]
    exact ⟨rfl, by first | rfl | trivial⟩
  | false =>
    rw [hd] at h
    have HR := Lib.hid (show isHx n = (decide (65 ≤ n ∧ n ≤ 70) || decide (97 ≤ n ∧ n ≤ 102)) by unfold isHx; rw [hd, Bool.false_or])
    have H := Lib.hid h
    clear h hd
    go_enter Tryz.func216, Tryz.ntmps216
    go_wp2_with fail
    refine (H.out).mono ?_
    rintro e w1 ⟨rfl, hw1⟩
    subst hw1
    go_wp2
    all_goals
      go_ret
      refine ⟨ret_boolO ?_, by first | rfl | trivial⟩
      rw [HR.out]
      rw [Bool.eq_iff_iff]
      simp only [Bool.or_eq_true, decide_eq_true_eq, beq_iff_eq, true_iff, iff_true, Bool.false_eq_true, false_iff]
      omega
theorem ret_i64 {a b : Int} (h : a = b) : Ending.returned (Value.int .i64 a) = Ending.returned (Value.int .i64 b) := by rw [h]
set_option maxHeartbeats 1000000 in
theorem digitN_any (n : Nat) (hn : n < 256) (w : World) : Calls Tryz.prog 177 #[.int .u8 (n : Int)] w fun e w' => e = .returned (.int .i64 (hxV n)) ∧ w' = w := by
  go_enter Tryz.func177, Tryz.ntmps177
  go_wp2
  all_goals
    go_ret
    refine ⟨ret_i64 ?_, by first | rfl | trivial⟩
    unfold hxV
    split
    · omega
    · split
      · omega
      · split <;> omega
theorem ixb (l : List UInt8) (c : UInt8) : decide (0 ≤ Lib.indexByte l c) = l.contains c := (Lib.contains_iff_indexByte l c).symm
theorem ixb_lib (l : List UInt8) (c : UInt8) (w : World) : ∃ v : Int, decide (0 ≤ v) = l.contains c ∧ Calls Tryz.prog 178 #[.string ⟨l.toArray⟩, .int .u8 (c.toNat : Int)] w fun e w' => e = .returned (.int .i64 v) ∧ w' = w := by
  refine ⟨Lib.indexByte l c, ixb l c, ?_⟩
  have h := Tryz.strings_IndexByte ⟨l.toArray⟩ (c.toNat : Int) w
  rw [show ((c.toNat : Int).toNat).toUInt8 = c by simp] at h
  exact h
theorem cls_let (n : Nat) (h : (ltN n || dgN n) = true) : cls n = 1 := by unfold cls unr; rw [if_pos (by rw [h]; rfl)]
theorem cls_un (n : Nat) (h : (ltN n || dgN n) = false) (h2 : ([45, 46, 95, 126] : List Nat).contains n = true) : cls n = 1 := by unfold cls unr; rw [if_pos (by rw [h, h2]; rfl)]
theorem cls_dl (n : Nat) (h : (ltN n || dgN n) = false) (h2 : ([45, 46, 95, 126] : List Nat).contains n = false) (h3 : dlm n = true) : cls n = 2 := by unfold cls unr; rw [if_neg (by rw [h, h2]; simp), if_pos h3]
theorem cls_rest (n : Nat) (h : (ltN n || dgN n) = false) (h2 : ([45, 46, 95, 126] : List Nat).contains n = false) (h3 : dlm n = false) : cls n = if n = 58 ∨ n = 64 then 4 else if n = 47 then 8 else if n = 63 then 16 else 0 := by unfold cls unr; rw [if_neg (by rw [h, h2]; simp), if_neg (by rw [h3]; simp)]
theorem cont_nat (l : List UInt8) (c : UInt8) : l.contains c = (l.map UInt8.toNat).contains c.toNat := by
  induction l with
  | nil => rfl
  | cons d r ih =>
    rw [List.map_cons, List.contains_cons, List.contains_cons, ih]
    congr 1
    rw [Bool.eq_iff_iff]
    simp only [beq_iff_eq]
    exact ⟨fun h => by rw [h], fun h => UInt8.toNat_inj.1 h⟩
theorem bool_val {a b : Bool} (h : a = b) : Value.bool a = Value.bool b := by rw [h]
set_option maxHeartbeats 4000000 in
theorem class_any (c : UInt8) (w : World) : Calls Tryz.prog 141 #[.int .u8 (c.toNat : Int)] w fun e w' => e = .returned (.int .i64 (cls c.toNat)) ∧ w' = w := by
  obtain ⟨v1, hv1, h1⟩ := ixb_lib [45, 46, 95, 126] c w
  obtain ⟨v2, hv2, h2⟩ := ixb_lib [33, 36, 38, 39, 40, 41, 42, 43, 44, 59, 61] c w
  rw [cont_nat] at hv1 hv2
  have e1 : (([45, 46, 95, 126] : List UInt8).map UInt8.toNat) = [45, 46, 95, 126] := rfl
  have e2 : (([33, 36, 38, 39, 40, 41, 42, 43, 44, 59, 61] : List UInt8).map UInt8.toNat) = [33, 36, 38, 39, 40, 41, 42, 43, 44, 59, 61] := rfl
  rw [e1] at hv1
  rw [e2] at hv2
  obtain ⟨n, hn⟩ : ∃ n, c.toNat = n := ⟨_, rfl⟩
  rw [hn] at h1 h2 hv1 hv2
  rw [hn]
  have H1 := Lib.hid h1; have H2 := Lib.hid h2; have HV := Lib.hid (And.intro hv1 hv2)
  clear h1 h2 e1 e2 hn hv1 hv2
  go_enter Tryz.func141, Tryz.ntmps141
  go_upto_region 1 with fail
  go_cut [3] (fun s3 wx => s3 = .bool (ltN n || dgN n) ∧ w = wx)
  case first =>
    clear H1 H2 HV
    go_wp2_with fail
    all_goals
      go_meet
      refine ⟨bool_val ?_, by first | rfl | trivial⟩
      unfold ltN dgN
      rw [Bool.eq_iff_iff]
      simp only [Bool.or_eq_true, decide_eq_true_eq, beq_iff_eq, true_iff, iff_true, Bool.false_eq_true, false_iff]
      omega
  case rest =>
  obtain ⟨rfl, rfl⟩ := hcut
  cases hl : (ltN n || dgN n) with
  | true =>
    have HR := Lib.hid (cls_let n hl)
    clear hl
    go_wp2
    go_ret
    rw [HR.out]
    exact ⟨rfl, by first | rfl | trivial⟩
  | false =>
    cases hu : ([45, 46, 95, 126] : List Nat).contains n with
    | true =>
      have hp1 : 0 ≤ v1 := of_decide_eq_true (by rw [HV.out.1]; exact hu)
      have HR := Lib.hid (cls_un n hl hu)
      clear hl hu
      go_wp2_with fail
      refine (H1.out).mono ?_
      rintro e w1 ⟨rfl, hw1⟩
      subst hw1
      go_wp2
      go_ret
      rw [HR.out]
      exact ⟨rfl, by first | rfl | trivial⟩
    | false =>
      have hp1 : v1 < 0 := by have := of_decide_eq_false (show decide (0 ≤ v1) = false by rw [HV.out.1]; exact hu); omega
      cases hd : dlm n with
      | true =>
        have hp2 : 0 ≤ v2 := of_decide_eq_true (by rw [HV.out.2]; exact hd)
        have HR := Lib.hid (cls_dl n hl hu hd)
        clear hl hu hd
        go_wp2_with fail
        refine (H1.out).mono ?_
        rintro e w1 ⟨rfl, hw1⟩
        subst hw1
        go_wp2_with fail
        refine (H2.out).mono ?_
        rintro e w1 ⟨rfl, hw1⟩
        subst hw1
        go_wp2
        go_ret
        rw [HR.out]
        exact ⟨rfl, by first | rfl | trivial⟩
      | false =>
        have hp2 : v2 < 0 := by have := of_decide_eq_false (show decide (0 ≤ v2) = false by rw [HV.out.2]; exact hd); omega
        have HR := Lib.hid (cls_rest n hl hu hd)
        clear hl hu hd
        go_wp2_with fail
        refine (H1.out).mono ?_
        rintro e w1 ⟨rfl, hw1⟩
        subst hw1
        go_wp2_with fail
        refine (H2.out).mono ?_
        rintro e w1 ⟨rfl, hw1⟩
        subst hw1
        by_cases n1 : n = 58
        · subst n1
          go_wp2
          go_ret
          rw [HR.out]
          exact ⟨rfl, by first | rfl | trivial⟩
        have b1 : ((n : Int) == 58) = false := by simp; omega
        by_cases n2 : n = 64
        · subst n2
          go_wp2
          go_ret
          rw [HR.out]
          exact ⟨rfl, by first | rfl | trivial⟩
        have b2 : ((n : Int) == 64) = false := by simp; omega
        by_cases n3 : n = 47
        · subst n3
          go_wp2
          go_ret
          rw [HR.out]
          exact ⟨rfl, by first | rfl | trivial⟩
        have b3 : ((n : Int) == 47) = false := by simp; omega
        by_cases n4 : n = 63
        · subst n4
          go_wp2
          go_ret
          rw [HR.out]
          exact ⟨rfl, by first | rfl | trivial⟩
        have b4 : ((n : Int) == 63) = false := by simp; omega
        have HR2 := Lib.hid (show cls n = 0 by rw [HR.out, if_neg (by omega), if_neg n3, if_neg n4])
        clear n1 n2 n3 n4
        go_wp2
        go_ret
        rw [HR2.out]
        exact ⟨rfl, by first | rfl | trivial⟩
end Go.Proofs.YtpdbejeiceodkaaGreatDoor
