/- Oct1, Oct2, Oct3, Oct4: texts of the seat, one behind the other (a claim holds at most sixty). Conditions: each theorem names its own. -/
import Derived.Test.YtlfdeenekjklgaaGreatDoorPk01
import Derived.Test.YtlfdeenekjklgaaGreatDoorPa02
namespace Go.Proofs.YtlfdeenekjklgaaGreatDoor
open Go.RowKit
set_option linter.unusedSimpArgs false
set_option linter.unusedVariables false
set_option maxRecDepth 1000000
theorem ret_boolO {a b : Bool} (h : a = b) : Ending.returned (.bool a) = .returned (.bool b) := by rw [h]
/-- octet.signs holds its four words. -/
structure SgAt (w : World) : Prop where
  c0 : w.cell? ⟨1, 0, none⟩ = some (.int .u32 0)
  c1 : w.cell? ⟨1, 1, none⟩ = some (.int .u32 67071226)
  c2 : w.cell? ⟨1, 2, none⟩ = some (.int .u32 3355443198)
  c3 : w.cell? ⟨1, 3, none⟩ = some (.int .u32 1476395007)
theorem SgAt.below {w w' : World} (h : SgAt w) (hb : Below w.heap.size w w') : SgAt w' := by
  have lt : 1 < w.heap.size := World.block_lt_of_cell? _ _ h.c0
  exact ⟨by rw [hb.cell (p := ⟨1, 0, none⟩) lt]; exact h.c0, by rw [hb.cell (p := ⟨1, 1, none⟩) lt]; exact h.c1, by rw [hb.cell (p := ⟨1, 2, none⟩) lt]; exact h.c2, by rw [hb.cell (p := ⟨1, 3, none⟩) lt]; exact h.c3⟩
theorem isBl_nat (c : UInt8) (n : Nat) (h : c.toNat = n) : isBl c = decide (n = 32 ∨ n = 9) := by
  subst h
  unfold isBl
  rw [Bool.eq_iff_iff]; simp
theorem isFb_nat (c : UInt8) (n : Nat) (h : c.toNat = n) : isFb c = decide (n = 9 ∨ (32 ≤ n ∧ n ≠ 127)) := by
  subst h
  unfold isFb
  rw [Bool.eq_iff_iff]; simp
set_option maxHeartbeats 1000000 in
theorem oblank_any (c : UInt8) (w : World) : Calls Tryz.prog 86 #[.int .u8 (c.toNat : Int)] w fun e w' => e = .returned (.bool (isBl c)) ∧ w' = w := by
  obtain ⟨n, hn⟩ : ∃ n, c.toNat = n := ⟨_, rfl⟩
  rw [hn]
  have HN := Lib.hid hn; clear hn
  go_enter Tryz.func86, Tryz.ntmps86
  go_wp2
  all_goals
    go_ret
    refine ⟨ret_boolO ?_, by first | rfl | trivial⟩
    rw [isBl_nat _ _ HN.out, Bool.eq_iff_iff]
    simp only [Bool.or_eq_true, decide_eq_true_eq, beq_iff_eq, true_iff, iff_true]
    omega
set_option maxHeartbeats 1000000 in
theorem rblank_any (c : UInt8) (w : World) : Calls Tryz.prog 68 #[.int .u8 (c.toNat : Int)] w fun e w' => e = .returned (.bool (isBl c)) ∧ w' = w := by
  obtain ⟨n, hn⟩ : ∃ n, c.toNat = n := ⟨_, rfl⟩
  rw [hn]
  have HN := Lib.hid hn; clear hn
  go_enter Tryz.func68, Tryz.ntmps68
  go_wp2
  all_goals
    go_ret
    refine ⟨ret_boolO ?_, by first | rfl | trivial⟩
    rw [isBl_nat _ _ HN.out, Bool.eq_iff_iff]
    simp only [Bool.or_eq_true, decide_eq_true_eq, beq_iff_eq, true_iff, iff_true]
    omega
set_option maxHeartbeats 1000000 in
theorem ofield_any (c : UInt8) (w : World) : Calls Tryz.prog 91 #[.int .u8 (c.toNat : Int)] w fun e w' => e = .returned (.bool (isFb c)) ∧ w' = w := by
  obtain ⟨n, hn⟩ : ∃ n, c.toNat = n := ⟨_, rfl⟩
  rw [hn]
  have HN := Lib.hid hn; clear hn
  go_enter Tryz.func91, Tryz.ntmps91
  go_wp2
  all_goals
    go_ret
    refine ⟨ret_boolO ?_, by first | rfl | trivial⟩
    rw [isFb_nat _ _ HN.out, Bool.eq_iff_iff]
    simp only [Bool.or_eq_true, Bool.and_eq_true, decide_eq_true_eq, beq_iff_eq, bne_iff_ne, true_iff, iff_true, Bool.false_eq_true, false_iff, iff_false]
    omega
set_option maxHeartbeats 1000000 in
theorem rbyte_any (c : UInt8) (w : World) : Calls Tryz.prog 94 #[.int .u8 (c.toNat : Int)] w fun e w' => e = .returned (.bool (isFb c)) ∧ w' = w := by
  obtain ⟨n, hn⟩ : ∃ n, c.toNat = n := ⟨_, rfl⟩
  rw [hn]
  have HN := Lib.hid hn; clear hn
  go_enter Tryz.func94, Tryz.ntmps94
  go_wp2
  all_goals
    go_ret
    refine ⟨ret_boolO ?_, by first | rfl | trivial⟩
    rw [isFb_nat _ _ HN.out, Bool.eq_iff_iff]
    simp only [Bool.or_eq_true, Bool.and_eq_true, decide_eq_true_eq, beq_iff_eq, bne_iff_ne, true_iff, iff_true, Bool.false_eq_true, false_iff, iff_false]
    omega
theorem sgBit0 : ∀ r : Fin 32, (bits .and .u32 0 1 == 1) = isSg (UInt8.ofNat (32 * 0 + r.val)) := by decide +kernel
theorem sgBit1 : ∀ r : Fin 32, (bits .and .u32 (67071226 / 2 ^ r.val) 1 == 1) = isSg (UInt8.ofNat (32 * 1 + r.val)) := by decide +kernel
theorem sgBit2 : ∀ r : Fin 32, (bits .and .u32 (3355443198 / 2 ^ r.val) 1 == 1) = isSg (UInt8.ofNat (32 * 2 + r.val)) := by decide +kernel
theorem sgBit3 : ∀ r : Fin 32, (bits .and .u32 (1476395007 / 2 ^ r.val) 1 == 1) = isSg (UInt8.ofNat (32 * 3 + r.val)) := by decide +kernel
theorem sgHigh : ∀ n : Fin 256, (!decide (128 ≤ n.val) || !isSg (UInt8.ofNat n.val)) = true := by decide +kernel
theorem sg_at (c : UInt8) (n k r : Nat) (h : c.toNat = n) (hk : n / 32 = k) (hr : n % 32 = r) : c = UInt8.ofNat (32 * k + r) := by
  have e : 32 * k + r = c.toNat := by omega
  rw [e]; simp
set_option maxHeartbeats 1000000 in
theorem osign_any (c : UInt8) (w : World) (h : SgAt w) : Calls Tryz.prog 84 #[.int .u8 (c.toNat : Int)] w fun e w' => e = .returned (.bool (isSg c)) ∧ w' = w := by
  obtain ⟨c0, c1, c2, c3⟩ := h
  obtain ⟨n, hn⟩ : ∃ n, c.toNat = n := ⟨_, rfl⟩
  have ln : n < 256 := by rw [← hn]; exact c.toBitVec.isLt
  rw [hn]
  have HN := Lib.hid hn; clear hn
  by_cases h1 : n < 128
  · have i1 : (n : Int) < 128 := by omega
    obtain ⟨k, hk⟩ : ∃ k, n / 32 = k := ⟨_, rfl⟩
    obtain ⟨r, hr⟩ : ∃ r, n % 32 = r := ⟨_, rfl⟩
    have e2 : (n : Int) % 32 = (r : Int) := by omega
    have r0 : (0 : Int) ≤ (r : Int) := by omega
    have r1 : (r : Int) < 32 := by omega
    have lr : r < 32 := by omega
    have lk : k = 0 ∨ k = 1 ∨ k = 2 ∨ k = 3 := by omega
    rcases lk with rfl | rfl | rfl | rfl
    · have e1 : (n : Int) / 32 = 0 := by omega
      have HK := Lib.hid (And.intro hk hr)
      clear hk hr
      go_enter Tryz.func84, Tryz.ntmps84
      go_wp2
      go_ret
      refine ⟨ret_boolO ?_, by first | rfl | trivial⟩
      rw [sg_at c n 0 r HN.out HK.out.1 HK.out.2]
      exact sgBit0 ⟨r, lr⟩
    · have e1 : (n : Int) / 32 = 1 := by omega
      have HK := Lib.hid (And.intro hk hr)
      clear hk hr
      go_enter Tryz.func84, Tryz.ntmps84
      go_wp2
      go_ret
      refine ⟨ret_boolO ?_, by first | rfl | trivial⟩
      rw [sg_at c n 1 r HN.out HK.out.1 HK.out.2]
      exact sgBit1 ⟨r, lr⟩
    · have e1 : (n : Int) / 32 = 2 := by omega
      have HK := Lib.hid (And.intro hk hr)
      clear hk hr
      go_enter Tryz.func84, Tryz.ntmps84
      go_wp2
      go_ret
      refine ⟨ret_boolO ?_, by first | rfl | trivial⟩
      rw [sg_at c n 2 r HN.out HK.out.1 HK.out.2]
      exact sgBit2 ⟨r, lr⟩
    · have e1 : (n : Int) / 32 = 3 := by omega
      have HK := Lib.hid (And.intro hk hr)
      clear hk hr
      go_enter Tryz.func84, Tryz.ntmps84
      go_wp2
      go_ret
      refine ⟨ret_boolO ?_, by first | rfl | trivial⟩
      rw [sg_at c n 3 r HN.out HK.out.1 HK.out.2]
      exact sgBit3 ⟨r, lr⟩
  · have i1 : ¬ (n : Int) < 128 := by omega
    have hf : isSg c = false := by
      have := sgHigh ⟨n, ln⟩
      have e : UInt8.ofNat n = c := by rw [← HN.out]; simp
      simp only [e] at this
      have hd : decide (128 ≤ n) = true := decide_eq_true (by omega)
      rw [hd] at this
      simpa using this
    have HF := Lib.hid hf; clear hf
    go_enter Tryz.func84, Tryz.ntmps84
    go_wp2
    go_ret
    exact ⟨ret_boolO HF.out.symm, rfl⟩
end Go.Proofs.YtlfdeenekjklgaaGreatDoor
namespace Go.Proofs.YtlfdeenekjklgaaGreatDoor
open Go.RowKit
set_option linter.unusedSimpArgs false
set_option linter.unusedVariables false
set_option maxRecDepth 1000000
def dgN (n : Nat) : Bool := decide (48 ≤ n ∧ n ≤ 57)
def ltN (n : Nat) : Bool := decide ((65 ≤ n ∧ n ≤ 90) ∨ (97 ≤ n ∧ n ≤ 122))
set_option maxHeartbeats 1000000 in
theorem rdigit_any (n : Nat) (w : World) : Calls Tryz.prog 67 #[.int .u8 (n : Int)] w fun e w' => e = .returned (.bool (dgN n)) ∧ w' = w := by
  go_enter Tryz.func67, Tryz.ntmps67
  go_wp2
  all_goals
    go_ret
    refine ⟨ret_boolO ?_, by first | rfl | trivial⟩
    unfold dgN
    rw [Bool.eq_iff_iff]
    simp only [Bool.or_eq_true, decide_eq_true_eq, beq_iff_eq, true_iff, iff_true, Bool.false_eq_true, false_iff]
    omega
set_option maxHeartbeats 1000000 in
theorem rletter_any (n : Nat) (w : World) : Calls Tryz.prog 66 #[.int .u8 (n : Int)] w fun e w' => e = .returned (.bool (ltN n)) ∧ w' = w := by
  go_enter Tryz.func66, Tryz.ntmps66
  go_wp2
  all_goals
    go_ret
    refine ⟨ret_boolO ?_, by first | rfl | trivial⟩
    unfold ltN
    rw [Bool.eq_iff_iff]
    simp only [Bool.or_eq_true, decide_eq_true_eq, beq_iff_eq, true_iff, iff_true, Bool.false_eq_true, false_iff]
    omega
def sgL : List UInt8 := [33, 35, 36, 37, 38, 39, 42, 43, 45, 46, 94, 95, 96, 124, 126]
theorem isSg_eq (c : UInt8) (n : Nat) (h : c.toNat = n) : isSg c = (dgN n || ltN n || sgL.contains c) := by
  subst h
  unfold isSg dgN ltN
  rw [Bool.eq_iff_iff]
  show _ ↔ (_ || _ || List.contains [33, 35, 36, 37, 38, 39, 42, 43, 45, 46, 94, 95, 96, 124, 126] c) = true
  simp only [Bool.or_eq_true, Bool.and_eq_true, decide_eq_true_eq, or_assoc]
theorem sgL_at (i : Nat) (h : i < (⟨#[33, 35, 36, 37, 38, 39, 42, 43, 45, 46, 94, 95, 96, 124, 126]⟩ : ByteArray).size) : sgL[i]? = some ((⟨#[33, 35, 36, 37, 38, 39, 42, 43, 45, 46, 94, 95, 96, 124, 126]⟩ : ByteArray)[i]'h) := by
  have := list_get ⟨#[33, 35, 36, 37, 38, 39, 42, 43, 45, 46, 94, 95, 96, 124, 126]⟩ i h
  exact this
theorem contains_no (c : UInt8) (l : List UInt8) (k : Nat) (hk : l.length ≤ k) (h : ∀ j d, j < k → l[j]? = some d → d ≠ c) : l.contains c = false := by
  rw [List.contains_eq_any_beq, List.any_eq_false]
  intro d hd
  obtain ⟨j, hj⟩ := List.getElem?_of_mem hd
  have hlt : j < l.length := (List.getElem?_eq_some_iff.1 hj).1
  have := h j d (by omega) hj
  simpa using fun e => this e.symm
theorem contains_yes (c : UInt8) (l : List UInt8) (j : Nat) (h : l[j]? = some c) : l.contains c = true := by
  rw [List.contains_iff_mem]; exact List.mem_of_getElem? h
set_option maxHeartbeats 2000000 in
theorem rsign_any (c : UInt8) (w : World) : Calls Tryz.prog 34 #[.int .u8 (c.toNat : Int)] w fun e w' => e = .returned (.bool (isSg c)) ∧ w' = w := by
  obtain ⟨n, hn⟩ : ∃ n, c.toNat = n := ⟨_, rfl⟩
  have he := isSg_eq c n hn
  rw [he, hn]
  have HN := Lib.hid hn; clear hn he
  obtain ⟨a, ha⟩ : ∃ a, dgN n = a := ⟨_, rfl⟩
  obtain ⟨b, hb⟩ : ∃ b, ltN n = b := ⟨_, rfl⟩
  rw [ha, hb]
  have HAB := Lib.hid (And.intro ha hb)
  clear ha hb
  cases a with
  | true =>
    go_enter Tryz.func34, Tryz.ntmps34
    go_wp2_with fail
    refine (rdigit_any n _).mono ?_
    rintro e w' ⟨rfl, rfl⟩
    rw [HAB.out.1]
    go_wp2
    go_ret
    exact ⟨ret_boolO (by simp), rfl⟩
  | false =>
    cases b with
    | true =>
      go_enter Tryz.func34, Tryz.ntmps34
      go_wp2_with fail
      refine (rdigit_any n _).mono ?_
      rintro e w' ⟨rfl, rfl⟩
      rw [HAB.out.1]
      go_wp2_with fail
      refine (rletter_any n _).mono ?_
      rintro e w' ⟨rfl, rfl⟩
      rw [HAB.out.2]
      go_wp2
      go_ret
      exact ⟨ret_boolO (by simp), rfl⟩
    | false =>
      go_enter Tryz.func34, Tryz.ntmps34
      go_wp2_with fail
      refine (rdigit_any n _).mono ?_
      rintro e w' ⟨rfl, rfl⟩
      rw [HAB.out.1]
      go_wp2_with fail
      refine (rletter_any n _).mono ?_
      rintro e w ⟨rfl, rfl⟩
      rw [HAB.out.2]
      go_wp2
      go_loopw [4] (fun iv wr => ∃ i : Nat, iv = .int .i64 i ∧ i ≤ 15 ∧ (∀ j d, j < i → sgL[j]? = some d → d ≠ c) ∧ wr = w) (fun iv _ => 15 - (intOf iv).toNat)
      case atStart => exact ⟨0, rfl, by omega, fun j d h => by omega, rfl⟩
      case round =>
        obtain ⟨i, rfl, hi, hno, rfl⟩ := hrel
        have HNO := Lib.hid hno; clear hno
        by_cases hlt : i < 15
        · have hat := sgL_at i hlt
          obtain ⟨d, hd⟩ : ∃ d, (⟨#[33, 35, 36, 37, 38, 39, 42, 43, 45, 46, 94, 95, 96, 124, 126]⟩ : ByteArray)[i]'hlt = d := ⟨_, rfl⟩
          rw [hd] at hat
          have k0 : (0 : Int) ≤ (i : Int) := by omega
          have k1 : (i : Int) < 15 := by omega
          have HAT := Lib.hid hat; clear hat
          by_cases hdc : d = c
          · subst hdc
            have e1 : ((d.toNat : Int) == (n : Int)) = true := by rw [HN.out]; simp
            have hy := contains_yes d sgL i HAT.out
            have HY := Lib.hid hy
            clear hy
            go_wp2
            go_ret
            exact ⟨ret_boolO (by rw [HY.out]; simp), rfl⟩
          · have e1 : ((d.toNat : Int) == (n : Int)) = false := by
              rw [← HN.out]
              have : d.toNat ≠ c.toNat := fun e => hdc (UInt8.toNat_inj.1 e)
              simp; omega
            have hx : ∀ j e, j < i + 1 → sgL[j]? = some e → e ≠ c := fun j e hj he => by
              by_cases hji : j < i
              · exact HNO.out j e hji he
              · obtain rfl : j = i := by omega
                rw [HAT.out] at he; injection he with he; subst he; exact hdc
            have HX := Lib.hid hx
            clear hx hdc
            go_wp2
            go_roundw
            case rel => exact ⟨i + 1, by go_num, by omega, HX.out, by first | rfl | trivial⟩
            case measure => simp [intOf]; omega
        · obtain rfl : i = 15 := by omega
          have hf := contains_no c sgL 15 (by decide) HNO.out
          have HF := Lib.hid hf; clear hf
          go_wp2
          go_ret
          exact ⟨ret_boolO (by rw [HF.out]; simp), rfl⟩
end Go.Proofs.YtlfdeenekjklgaaGreatDoor
namespace Go.Proofs.YtlfdeenekjklgaaGreatDoor
open Go.RowKit
set_option linter.unusedSimpArgs false
set_option linter.unusedVariables false
set_option maxRecDepth 1000000
theorem w64o (i : Nat) (h : i ≤ 2199023255552) : wrap64 ((i : Int) + 1) = (i : Int) + 1 := by unfold wrap64; omega
theorem le_oo (i s : Nat) (h : i ≤ s) (hs : s ≤ 1099511627776) : i ≤ 2199023255552 := by omega
theorem all_full (p : UInt8 → Bool) (s : ByteArray) (h : (s.data.toList.take s.size).all p = true) : s.data.toList.all p = true := by
  rwa [List.take_of_length_le (by rw [size_list]; exact Nat.le_refl _)] at h
theorem isTok_bad (l : List UInt8) (k : Nat) (c : UInt8) (h : l[k]? = some c) (hp : isSg c = false) : isTok l = false := by
  unfold isTok; rw [all_not isSg l k c h hp, Bool.and_false]
theorem isTok_all (l : List UInt8) (h : l.all isSg = true) : isTok l = !l.isEmpty := by
  unfold isTok; rw [h, Bool.and_true]
set_option maxHeartbeats 2000000 in
theorem otoken_any (s : ByteArray) (w : World) (hs : s.size ≤ 1099511627776) (hg : SgAt w) :
    Calls Tryz.prog 43 #[.string s] w fun e w' => e = .returned (.bool (isTok s.data.toList)) ∧ w' = w := by
  have HG := Lib.hid hg; clear hg
  go_enter Tryz.func43, Tryz.ntmps43
  go_wp2
  go_loopw [6] (fun iv wr => ∃ i : Nat, iv = .int .i64 i ∧ i ≤ s.size ∧ (s.data.toList.take i).all isSg = true ∧ wr = w) (fun iv _ => s.size - (intOf iv).toNat)
  case atStart => exact ⟨0, rfl, Nat.zero_le _, rfl, rfl⟩
  case round =>
    obtain ⟨i, rfl, hi, hall, rfl⟩ := hrel
    by_cases hlt : i < s.size
    · obtain ⟨c, hc⟩ : ∃ c, s[i]'hlt = c := ⟨_, rfl⟩
      have hget := list_get s i hlt
      rw [hc] at hget
      have k0 : (0 : Int) ≤ (i : Int) := Int.natCast_nonneg _
      have k1 : (i : Int) < (s.size : Int) := by omega
      have HA := Lib.hid (And.intro hall hget)
      clear hall hget
      cases hst : isSg c with
      | true =>
        have hx := all_take isSg _ i c HA.out.2 HA.out.1 hst
        have HS := Lib.hid (And.intro hx hst)
        clear hx hst
        go_wp2_with fail
        refine (osign_any c _ HG.out).mono ?_
        rintro e w ⟨rfl, rfl⟩
        rw [HS.out.2]
        have hwi := w64o i (le_oo i s.size hi hs)
        go_wp2
        go_roundw
        case rel => (try rw [hwi]); clear hwi; exact ⟨i + 1, by go_num, by omega, HS.out.1, by first | rfl | trivial⟩
        case measure => (try rw [hwi]); clear hwi; simp [intOf]; omega
      | false =>
        have hx := isTok_bad _ i c HA.out.2 hst
        have HS := Lib.hid (And.intro hx hst)
        clear hx hst
        go_wp2_with fail
        refine (osign_any c _ HG.out).mono ?_
        rintro e w ⟨rfl, rfl⟩
        rw [HS.out.2]
        go_wp2
        go_ret
        exact ⟨ret_boolO HS.out.1.symm, rfl⟩
    · obtain rfl : i = s.size := by omega
      have hx := isTok_all _ (all_full isSg s hall)
      have HX := Lib.hid hx; clear hx hall
      go_wp2
      go_ret
      refine ⟨ret_boolO ?_, rfl⟩
      rw [HX.out, ← ByteArray.toList_eq]
set_option maxHeartbeats 2000000 in
theorem oisfield_any (s : ByteArray) (w : World) (hs : s.size ≤ 1099511627776) :
    Calls Tryz.prog 49 #[.string s] w fun e w' => e = .returned (.bool (isFld s.data.toList)) ∧ w' = w := by
  go_enter Tryz.func49, Tryz.ntmps49
  go_wp2
  go_loopw [6] (fun iv wr => ∃ i : Nat, iv = .int .i64 i ∧ i ≤ s.size ∧ (s.data.toList.take i).all isFb = true ∧ wr = w) (fun iv _ => s.size - (intOf iv).toNat)
  case atStart => exact ⟨0, rfl, Nat.zero_le _, rfl, rfl⟩
  case round =>
    obtain ⟨i, rfl, hi, hall, rfl⟩ := hrel
    by_cases hlt : i < s.size
    · obtain ⟨c, hc⟩ : ∃ c, s[i]'hlt = c := ⟨_, rfl⟩
      have hget := list_get s i hlt
      rw [hc] at hget
      have k0 : (0 : Int) ≤ (i : Int) := Int.natCast_nonneg _
      have k1 : (i : Int) < (s.size : Int) := by omega
      have HA := Lib.hid (And.intro hall hget)
      clear hall hget
      cases hst : isFb c with
      | true =>
        have hx := all_take isFb _ i c HA.out.2 HA.out.1 hst
        have HS := Lib.hid (And.intro hx hst)
        clear hx hst
        go_wp2_with fail
        refine (ofield_any c _).mono ?_
        rintro e w ⟨rfl, rfl⟩
        rw [HS.out.2]
        have hwi := w64o i (le_oo i s.size hi hs)
        go_wp2
        go_roundw
        case rel => (try rw [hwi]); clear hwi; exact ⟨i + 1, by go_num, by omega, HS.out.1, by first | rfl | trivial⟩
        case measure => (try rw [hwi]); clear hwi; simp [intOf]; omega
      | false =>
        have hx : isFld s.data.toList = false := all_not isFb _ i c HA.out.2 hst
        have HS := Lib.hid (And.intro hx hst)
        clear hx hst
        go_wp2_with fail
        refine (ofield_any c _).mono ?_
        rintro e w ⟨rfl, rfl⟩
        rw [HS.out.2]
        go_wp2
        go_ret
        exact ⟨ret_boolO HS.out.1.symm, rfl⟩
    · obtain rfl : i = s.size := by omega
      have hx : isFld s.data.toList = true := all_full isFb s hall
      have HX := Lib.hid hx; clear hx hall
      go_wp2
      go_ret
      exact ⟨ret_boolO HX.out.symm, rfl⟩
end Go.Proofs.YtlfdeenekjklgaaGreatDoor
namespace Go.Proofs.YtlfdeenekjklgaaGreatDoor
open Go.RowKit
set_option linter.unusedSimpArgs false
set_option linter.unusedVariables false
set_option maxRecDepth 1000000
theorem w64j (j : Nat) (h : j ≤ 2199023255552) : wrap64 (j : Int) = (j : Int) := by unfold wrap64; omega
theorem drop_at (s : ByteArray) (a n j : Nat) (hj : a + n = j) (h : j < s.size) : (s.data.toList.drop a)[n]? = some (s[j]'h) := by
  subst hj; rw [List.getElem?_drop]; exact list_get s _ h
theorem drop_len (s : ByteArray) (a n : Nat) (h : s.size ≤ a + n) : (s.data.toList.drop a).length ≤ n := by rw [List.length_drop, size_list]; omega
theorem runL_at (p : UInt8 → Bool) (s : ByteArray) (a : Nat) : runL p (s.data.toList.drop a) ≤ s.size - a := by
  have := runL_le p (s.data.toList.drop a); rw [List.length_drop, size_list] at this; exact this
set_option maxHeartbeats 2000000 in
theorem orunb_any (s : ByteArray) (a : Nat) (w : World) (hs : s.size ≤ 1099511627776) (ha : a ≤ s.size) :
    Calls Tryz.prog 85 #[.string s, .int .i64 (a : Int), .func (Fn.func 86) #[] #[]] w fun e w' => e = .returned (.int .i64 (runL isBl (s.data.toList.drop a) : Nat)) ∧ w' = w := by
  go_enter Tryz.func85, Tryz.ntmps85
  go_wp2
  go_loopw [7] (fun nv wr => ∃ n : Nat, nv = .int .i64 n ∧ n ≤ runL isBl (s.data.toList.drop a) ∧ wr = w) (fun nv _ => s.size - (intOf nv).toNat)
  case atStart => exact ⟨0, rfl, Nat.zero_le _, rfl⟩
  case round =>
    obtain ⟨n, rfl, hn, rfl⟩ := hrel
    have hle := runL_at isBl s a
    obtain ⟨j, hj⟩ : ∃ j, a + n = j := ⟨_, rfl⟩
    have f1 : (a : Int) + (n : Int) = (j : Int) := by omega
    have hjs : j ≤ s.size := by omega
    have hjw := w64j j (le_oo j s.size hjs hs)
    by_cases hlt : j < s.size
    · obtain ⟨c, hc⟩ : ∃ c, s[j]'hlt = c := ⟨_, rfl⟩
      have hget := drop_at s a n j hj hlt
      rw [hc] at hget
      have k0 : (0 : Int) ≤ (j : Int) := Int.natCast_nonneg _
      have k1 : (j : Int) < (s.size : Int) := by omega
      have hns : n < s.size := by omega
      have HJ := Lib.hid hj
      clear hj
      cases hst : isBl c with
      | true =>
        have hx := runL_more isBl _ n c hn hget hst
        have HS := Lib.hid (And.intro hx hst)
        clear hx hst hget hn hle
        go_wp2_with fail
        refine (oblank_any c _).mono ?_
        rintro e w ⟨rfl, rfl⟩
        rw [HS.out.2]
        clear hjw f1
        have hwi := w64o n (le_oo n s.size (Nat.le_of_lt hns) hs)
        go_wp2
        go_roundw
        case rel => (try rw [hwi]); clear hwi; exact ⟨n + 1, by go_num, HS.out.1, by first | rfl | trivial⟩
        case measure => (try rw [hwi]); clear hwi; simp [intOf]; omega
      | false =>
        have hx := runL_stop isBl _ n c hn hget hst
        have HS := Lib.hid (And.intro hx hst)
        clear hx hst hget hn hle
        go_wp2_with fail
        refine (oblank_any c _).mono ?_
        rintro e w ⟨rfl, rfl⟩
        rw [HS.out.2]
        go_wp2
        go_ret
        refine ⟨?_, rfl⟩
        rw [← HS.out.1]; rfl
    · obtain rfl : j = s.size := by omega
      have hx := runL_end isBl _ n hn (drop_len s a n (by omega))
      have HX := Lib.hid hx
      clear hx hn hle hj
      go_wp2
      go_ret
      refine ⟨?_, rfl⟩
      rw [← HX.out]; rfl
set_option maxHeartbeats 2000000 in
theorem oruns_any (s : ByteArray) (a : Nat) (w : World) (hs : s.size ≤ 1099511627776) (ha : a ≤ s.size) (hg : SgAt w) :
    Calls Tryz.prog 85 #[.string s, .int .i64 (a : Int), .func (Fn.func 84) #[] #[]] w fun e w' => e = .returned (.int .i64 (runL isSg (s.data.toList.drop a) : Nat)) ∧ w' = w := by
  have HG := Lib.hid hg; clear hg
  go_enter Tryz.func85, Tryz.ntmps85
  go_wp2
  go_loopw [7] (fun nv wr => ∃ n : Nat, nv = .int .i64 n ∧ n ≤ runL isSg (s.data.toList.drop a) ∧ wr = w) (fun nv _ => s.size - (intOf nv).toNat)
  case atStart => exact ⟨0, rfl, Nat.zero_le _, rfl⟩
  case round =>
    obtain ⟨n, rfl, hn, rfl⟩ := hrel
    have hle := runL_at isSg s a
    obtain ⟨j, hj⟩ : ∃ j, a + n = j := ⟨_, rfl⟩
    have f1 : (a : Int) + (n : Int) = (j : Int) := by omega
    have hjs : j ≤ s.size := by omega
    have hjw := w64j j (le_oo j s.size hjs hs)
    by_cases hlt : j < s.size
    · obtain ⟨c, hc⟩ : ∃ c, s[j]'hlt = c := ⟨_, rfl⟩
      have hget := drop_at s a n j hj hlt
      rw [hc] at hget
      have k0 : (0 : Int) ≤ (j : Int) := Int.natCast_nonneg _
      have k1 : (j : Int) < (s.size : Int) := by omega
      have hns : n < s.size := by omega
      have HJ := Lib.hid hj
      clear hj
      cases hst : isSg c with
      | true =>
        have hx := runL_more isSg _ n c hn hget hst
        have HS := Lib.hid (And.intro hx hst)
        clear hx hst hget hn hle
        go_wp2_with fail
        refine (osign_any c _ HG.out).mono ?_
        rintro e w ⟨rfl, rfl⟩
        rw [HS.out.2]
        clear hjw f1
        have hwi := w64o n (le_oo n s.size (Nat.le_of_lt hns) hs)
        go_wp2
        go_roundw
        case rel => (try rw [hwi]); clear hwi; exact ⟨n + 1, by go_num, HS.out.1, by first | rfl | trivial⟩
        case measure => (try rw [hwi]); clear hwi; simp [intOf]; omega
      | false =>
        have hx := runL_stop isSg _ n c hn hget hst
        have HS := Lib.hid (And.intro hx hst)
        clear hx hst hget hn hle
        go_wp2_with fail
        refine (osign_any c _ HG.out).mono ?_
        rintro e w ⟨rfl, rfl⟩
        rw [HS.out.2]
        go_wp2
        go_ret
        refine ⟨?_, rfl⟩
        rw [← HS.out.1]; rfl
    · obtain rfl : j = s.size := by omega
      have hx := runL_end isSg _ n hn (drop_len s a n (by omega))
      have HX := Lib.hid hx
      clear hx hn hle hj
      go_wp2
      go_ret
      refine ⟨?_, rfl⟩
      rw [← HX.out]; rfl
set_option maxHeartbeats 2000000 in
theorem rblanks_any (s : ByteArray) (a : Nat) (w : World) (hs : s.size ≤ 1099511627776) (ha : a ≤ s.size) :
    Calls Tryz.prog 76 #[.string s, .int .i64 (a : Int)] w fun e w' => e = .returned (.int .i64 (runL isBl (s.data.toList.drop a) : Nat)) ∧ w' = w := by
  go_enter Tryz.func76, Tryz.ntmps76
  go_wp2
  go_loopw [5] (fun nv wr => ∃ n : Nat, nv = .int .i64 n ∧ n ≤ runL isBl (s.data.toList.drop a) ∧ wr = w) (fun nv _ => s.size - (intOf nv).toNat)
  case atStart => exact ⟨0, rfl, Nat.zero_le _, rfl⟩
  case round =>
    obtain ⟨n, rfl, hn, rfl⟩ := hrel
    have hle := runL_at isBl s a
    obtain ⟨j, hj⟩ : ∃ j, a + n = j := ⟨_, rfl⟩
    have f1 : (a : Int) + (n : Int) = (j : Int) := by omega
    have hjs : j ≤ s.size := by omega
    have hjw := w64j j (le_oo j s.size hjs hs)
    by_cases hlt : j < s.size
    · obtain ⟨c, hc⟩ : ∃ c, s[j]'hlt = c := ⟨_, rfl⟩
      have hget := drop_at s a n j hj hlt
      rw [hc] at hget
      have k0 : (0 : Int) ≤ (j : Int) := Int.natCast_nonneg _
      have k1 : (j : Int) < (s.size : Int) := by omega
      have hns : n < s.size := by omega
      have HJ := Lib.hid hj
      clear hj
      cases hst : isBl c with
      | true =>
        have hx := runL_more isBl _ n c hn hget hst
        have HS := Lib.hid (And.intro hx hst)
        clear hx hst hget hn hle
        go_wp2_with fail
        refine (rblank_any c _).mono ?_
        rintro e w ⟨rfl, rfl⟩
        rw [HS.out.2]
        clear hjw f1
        have hwi := w64o n (le_oo n s.size (Nat.le_of_lt hns) hs)
        go_wp2
        go_roundw
        case rel => (try rw [hwi]); clear hwi; exact ⟨n + 1, by go_num, HS.out.1, by first | rfl | trivial⟩
        case measure => (try rw [hwi]); clear hwi; simp [intOf]; omega
      | false =>
        have hx := runL_stop isBl _ n c hn hget hst
        have HS := Lib.hid (And.intro hx hst)
        clear hx hst hget hn hle
        go_wp2_with fail
        refine (rblank_any c _).mono ?_
        rintro e w ⟨rfl, rfl⟩
        rw [HS.out.2]
        go_wp2
        go_ret
        refine ⟨?_, rfl⟩
        rw [← HS.out.1]; rfl
    · obtain rfl : j = s.size := by omega
      have hx := runL_end isBl _ n hn (drop_len s a n (by omega))
      have HX := Lib.hid hx
      clear hx hn hle hj
      go_wp2
      go_ret
      refine ⟨?_, rfl⟩
      rw [← HX.out]; rfl
set_option maxHeartbeats 2000000 in
theorem rsigns_any (s : ByteArray) (a : Nat) (w : World) (hs : s.size ≤ 1099511627776) (ha : a ≤ s.size) :
    Calls Tryz.prog 77 #[.string s, .int .i64 (a : Int)] w fun e w' => e = .returned (.int .i64 (runL isSg (s.data.toList.drop a) : Nat)) ∧ w' = w := by
  go_enter Tryz.func77, Tryz.ntmps77
  go_wp2
  go_loopw [5] (fun nv wr => ∃ n : Nat, nv = .int .i64 n ∧ n ≤ runL isSg (s.data.toList.drop a) ∧ wr = w) (fun nv _ => s.size - (intOf nv).toNat)
  case atStart => exact ⟨0, rfl, Nat.zero_le _, rfl⟩
  case round =>
    obtain ⟨n, rfl, hn, rfl⟩ := hrel
    have hle := runL_at isSg s a
    obtain ⟨j, hj⟩ : ∃ j, a + n = j := ⟨_, rfl⟩
    have f1 : (a : Int) + (n : Int) = (j : Int) := by omega
    have hjs : j ≤ s.size := by omega
    have hjw := w64j j (le_oo j s.size hjs hs)
    by_cases hlt : j < s.size
    · obtain ⟨c, hc⟩ : ∃ c, s[j]'hlt = c := ⟨_, rfl⟩
      have hget := drop_at s a n j hj hlt
      rw [hc] at hget
      have k0 : (0 : Int) ≤ (j : Int) := Int.natCast_nonneg _
      have k1 : (j : Int) < (s.size : Int) := by omega
      have hns : n < s.size := by omega
      have HJ := Lib.hid hj
      clear hj
      cases hst : isSg c with
      | true =>
        have hx := runL_more isSg _ n c hn hget hst
        have HS := Lib.hid (And.intro hx hst)
        clear hx hst hget hn hle
        go_wp2_with fail
        refine (rsign_any c _).mono ?_
        rintro e w ⟨rfl, rfl⟩
        rw [HS.out.2]
        clear hjw f1
        have hwi := w64o n (le_oo n s.size (Nat.le_of_lt hns) hs)
        go_wp2
        go_roundw
        case rel => (try rw [hwi]); clear hwi; exact ⟨n + 1, by go_num, HS.out.1, by first | rfl | trivial⟩
        case measure => (try rw [hwi]); clear hwi; simp [intOf]; omega
      | false =>
        have hx := runL_stop isSg _ n c hn hget hst
        have HS := Lib.hid (And.intro hx hst)
        clear hx hst hget hn hle
        go_wp2_with fail
        refine (rsign_any c _).mono ?_
        rintro e w ⟨rfl, rfl⟩
        rw [HS.out.2]
        go_wp2
        go_ret
        refine ⟨?_, rfl⟩
        rw [← HS.out.1]; rfl
    · obtain rfl : j = s.size := by omega
      have hx := runL_end isSg _ n hn (drop_len s a n (by omega))
      have HX := Lib.hid hx
      clear hx hn hle hj
      go_wp2
      go_ret
      refine ⟨?_, rfl⟩
      rw [← HX.out]; rfl
end Go.Proofs.YtlfdeenekjklgaaGreatDoor
