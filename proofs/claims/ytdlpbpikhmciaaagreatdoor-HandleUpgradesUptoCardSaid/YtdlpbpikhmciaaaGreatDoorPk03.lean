/- Oct1, Oct2, Oct3, HdN, HdV: texts of the seat, one behind the other (a claim holds at most sixty). Conditions: each theorem names its own. -/
import Derived.Test.YtdlpbpikhmciaaaGreatDoorPk01
import Derived.Test.YtdlpbpikhmciaaaGreatDoorPa02
namespace Go.Proofs.YtdlpbpikhmciaaaGreatDoor
open Go.RowKit
set_option linter.unusedSimpArgs false
set_option linter.unusedVariables false
set_option maxRecDepth 1000000
theorem ret_boolO {a b : Bool} (h : a = b) : Ending.returned (.bool a) = .returned (.bool b) := by rw [h]
/-- octet.signs holds its four words. -/
structure SgAt (w : World) : Prop where
  c0 : w.cell? ⟨0, 0, none⟩ = some (.int .u32 0)
  c1 : w.cell? ⟨0, 1, none⟩ = some (.int .u32 67071226)
  c2 : w.cell? ⟨0, 2, none⟩ = some (.int .u32 3355443198)
  c3 : w.cell? ⟨0, 3, none⟩ = some (.int .u32 1476395007)
theorem SgAt.below {w w' : World} (h : SgAt w) (hb : Below w.heap.size w w') : SgAt w' := by
  have lt : 0 < w.heap.size := World.block_lt_of_cell? _ _ h.c0
  exact ⟨by rw [hb.cell (p := ⟨0, 0, none⟩) lt]; exact h.c0, by rw [hb.cell (p := ⟨0, 1, none⟩) lt]; exact h.c1, by rw [hb.cell (p := ⟨0, 2, none⟩) lt]; exact h.c2, by rw [hb.cell (p := ⟨0, 3, none⟩) lt]; exact h.c3⟩
theorem isBl_nat (c : UInt8) (n : Nat) (h : c.toNat = n) : isBl c = decide (n = 32 ∨ n = 9) := by
  subst h
  unfold isBl
  rw [Bool.eq_iff_iff]; simp
theorem isFb_nat (c : UInt8) (n : Nat) (h : c.toNat = n) : isFb c = decide (n = 9 ∨ (32 ≤ n ∧ n ≠ 127)) := by
  subst h
  unfold isFb
  rw [Bool.eq_iff_iff]; simp
set_option maxHeartbeats 1000000 in
theorem oblank_any (c : UInt8) (w : World) : Calls Tryz.prog 230 #[.int .u8 (c.toNat : Int)] w fun e w' => e = .returned (.bool (isBl c)) ∧ w' = w := by
  obtain ⟨n, hn⟩ : ∃ n, c.toNat = n := ⟨_, rfl⟩
  rw [hn]
  have HN := Lib.hid hn; clear hn
  go_enter Tryz.func230, Tryz.ntmps230
  go_wp2
  all_goals
    go_ret
    refine ⟨ret_boolO ?_, by first | rfl | trivial⟩
    rw [isBl_nat _ _ HN.out, Bool.eq_iff_iff]
    simp only [Bool.or_eq_true, decide_eq_true_eq, beq_iff_eq, true_iff, iff_true]
    omega
set_option maxHeartbeats 1000000 in
theorem rblank_any (c : UInt8) (w : World) : Calls Tryz.prog 72 #[.int .u8 (c.toNat : Int)] w fun e w' => e = .returned (.bool (isBl c)) ∧ w' = w := by
  obtain ⟨n, hn⟩ : ∃ n, c.toNat = n := ⟨_, rfl⟩
  rw [hn]
  have HN := Lib.hid hn; clear hn
  go_enter Tryz.func72, Tryz.ntmps72
  go_wp2
  all_goals
    go_ret
    refine ⟨ret_boolO ?_, by first | rfl | trivial⟩
    rw [isBl_nat _ _ HN.out, Bool.eq_iff_iff]
    simp only [Bool.or_eq_true, decide_eq_true_eq, beq_iff_eq, true_iff, iff_true]
    omega
set_option maxHeartbeats 1000000 in
theorem ofield_any (c : UInt8) (w : World) : Calls Tryz.prog 69 #[.int .u8 (c.toNat : Int)] w fun e w' => e = .returned (.bool (isFb c)) ∧ w' = w := by
  obtain ⟨n, hn⟩ : ∃ n, c.toNat = n := ⟨_, rfl⟩
  rw [hn]
  have HN := Lib.hid hn; clear hn
  go_enter Tryz.func69, Tryz.ntmps69
  go_wp2
  all_goals
    go_ret
    refine ⟨ret_boolO ?_, by first | rfl | trivial⟩
    rw [isFb_nat _ _ HN.out, Bool.eq_iff_iff]
    simp only [Bool.or_eq_true, Bool.and_eq_true, decide_eq_true_eq, beq_iff_eq, bne_iff_ne, true_iff, iff_true, Bool.false_eq_true, false_iff, iff_false]
    omega
set_option maxHeartbeats 1000000 in
theorem rbyte_any (c : UInt8) (w : World) : Calls Tryz.prog 71 #[.int .u8 (c.toNat : Int)] w fun e w' => e = .returned (.bool (isFb c)) ∧ w' = w := by
  obtain ⟨n, hn⟩ : ∃ n, c.toNat = n := ⟨_, rfl⟩
  rw [hn]
  have HN := Lib.hid hn; clear hn
  go_enter Tryz.func71, Tryz.ntmps71
  go_wp2
  all_goals
    go_ret
    refine ⟨ret_boolO ?_, by first | rfl | trivial⟩
    rw [isFb_nat _ _ HN.out, Bool.eq_iff_iff]
    simp only [Bool.or_eq_true, Bool.and_eq_true, decide_eq_true_eq, beq_iff_eq, bne_iff_ne, true_iff, iff_true, Bool.false_eq_true, false_iff, iff_false]
    omega
theorem sgBit0 : ∀ r : Fin 32, (bits .and .u32 0 1 == 1) = isSg (UInt8.ofNat (32 * 0 + r.val)) := by decide +kernel
theorem sgBit1 : ∀ r : Fin 32, (bits .and .u32 (67071226 / 2 ^ r.val) 1 == 1) = isSg (UInt8.ofNat (32 * 1 + r.val)) := by decide +kernel
theorem sgBit2 : ∀ r : Fin 32, (bits .and .u32 (3355443198 / 2 ^ r.val) 1 == 1) = isSg (UInt8.ofNat (32 * 2 + r.val)) := by decide +kernel
theorem sgBit3 : ∀ r : Fin 32, (bits .and .u32 (1476395007 / 2 ^ r.val) 1 == 1) = isSg (UInt8.ofNat (32 * 3 + r.val)) := by decide +kernel
theorem sgHigh : ∀ n : Fin 256, (!decide (128 ≤ n.val) || !isSg (UInt8.ofNat n.val)) = true := by decide +kernel
theorem sg_at (c : UInt8) (n k r : Nat) (h : c.toNat = n) (hk : n / 32 = k) (hr : n % 32 = r) : c = UInt8.ofNat (32 * k + r) := by
  have e : 32 * k + r = c.toNat := by omega
  rw [e]; simp
set_option maxHeartbeats 1000000 in
theorem osign_any (c : UInt8) (w : World) (h : SgAt w) : Calls Tryz.prog 94 #[.int .u8 (c.toNat : Int)] w fun e w' => e = .returned (.bool (isSg c)) ∧ w' = w := by
  obtain ⟨c0, c1, c2, c3⟩ := h
  obtain ⟨n, hn⟩ : ∃ n, c.toNat = n := ⟨_, rfl⟩
  have ln : n < 256 := by rw [← hn]; exact c.toBitVec.isLt
  rw [hn]
  have HN := Lib.hid hn; clear hn
  by_cases h1 : n < 128
  · have i1 : (n : Int) < 128 := by omega
    obtain ⟨k, hk⟩ : ∃ k, n / 32 = k := ⟨_, rfl⟩
    obtain ⟨r, hr⟩ : ∃ r, n % 32 = r := ⟨_, rfl⟩
    have e2 : (n : Int) % 32 = (r : Int) := by omega
    have r0 : (0 : Int) ≤ (r : Int) := by omega
    have r1 : (r : Int) < 32 := by omega
    have lr : r < 32 := by omega
    have lk : k = 0 ∨ k = 1 ∨ k = 2 ∨ k = 3 := by omega
    rcases lk with rfl | rfl | rfl | rfl
    · have e1 : (n : Int) / 32 = 0 := by omega
      have HK := Lib.hid (And.intro hk hr)
      clear hk hr
      go_enter Tryz.func94, Tryz.ntmps94
      go_wp2
      go_ret
      refine ⟨ret_boolO ?_, by first | rfl | trivial⟩
      rw [sg_at c n 0 r HN.out HK.out.1 HK.out.2]
      exact sgBit0 ⟨r, lr⟩
    · have e1 : (n : Int) / 32 = 1 := by omega
      have HK := Lib.hid (And.intro hk hr)
      clear hk hr
      go_enter Tryz.func94, Tryz.ntmps94
      go_wp2
      go_ret
      refine ⟨ret_boolO ?_, by first | rfl | trivial⟩
      rw [sg_at c n 1 r HN.out HK.out.1 HK.out.2]
      exact sgBit1 ⟨r, lr⟩
    · have e1 : (n : Int) / 32 = 2 := by omega
      have HK := Lib.hid (And.intro hk hr)
      clear hk hr
      go_enter Tryz.func94, Tryz.ntmps94
      go_wp2
      go_ret
      refine ⟨ret_boolO ?_, by first | rfl | trivial⟩
      rw [sg_at c n 2 r HN.out HK.out.1 HK.out.2]
      exact sgBit2 ⟨r, lr⟩
    · have e1 : (n : Int) / 32 = 3 := by omega
      have HK := Lib.hid (And.intro hk hr)
      clear hk hr
      go_enter Tryz.func94, Tryz.ntmps94
      go_wp2
      go_ret
      refine ⟨ret_boolO ?_, by first | rfl | trivial⟩
      rw [sg_at c n 3 r HN.out HK.out.1 HK.out.2]
      exact sgBit3 ⟨r, lr⟩
  · have i1 : ¬ (n : Int) < 128 := by omega
    have hf : isSg c = false := by
      have := sgHigh ⟨n, ln⟩
      have e : UInt8.ofNat n = c := by rw [← HN.out]; simp
      simp only [e] at this
      have hd : decide (128 ≤ n) = true := decide_eq_true (by omega)
      rw [hd] at this
      simpa using this
    have HF := Lib.hid hf; clear hf
    go_enter Tryz.func94, Tryz.ntmps94
    go_wp2
    go_ret
    exact ⟨ret_boolO HF.out.symm, rfl⟩
end Go.Proofs.YtdlpbpikhmciaaaGreatDoor
namespace Go.Proofs.YtdlpbpikhmciaaaGreatDoor
open Go.RowKit
set_option linter.unusedSimpArgs false
set_option linter.unusedVariables false
set_option maxRecDepth 1000000
def dgN (n : Nat) : Bool := decide (48 ≤ n ∧ n ≤ 57)
def ltN (n : Nat) : Bool := decide ((65 ≤ n ∧ n ≤ 90) ∨ (97 ≤ n ∧ n ≤ 122))
set_option maxHeartbeats 1000000 in
theorem rdigit_any (n : Nat) (w : World) : Calls Tryz.prog 67 #[.int .u8 (n : Int)] w fun e w' => e = .returned (.bool (dgN n)) ∧ w' = w := by
  go_enter Tryz.func67, Tryz.ntmps67
  go_wp2
  all_goals
    go_ret
    refine ⟨ret_boolO ?_, by first | rfl | trivial⟩
    unfold dgN
    rw [Bool.eq_iff_iff]
    simp only [Bool.or_eq_true, decide_eq_true_eq, beq_iff_eq, true_iff, iff_true, Bool.false_eq_true, false_iff]
    omega
set_option maxHeartbeats 1000000 in
theorem rletter_any (n : Nat) (w : World) : Calls Tryz.prog 66 #[.int .u8 (n : Int)] w fun e w' => e = .returned (.bool (ltN n)) ∧ w' = w := by
  go_enter Tryz.func66, Tryz.ntmps66
  go_wp2
  all_goals
    go_ret
    refine ⟨ret_boolO ?_, by first | rfl | trivial⟩
    unfold ltN
    rw [Bool.eq_iff_iff]
    simp only [Bool.or_eq_true, decide_eq_true_eq, beq_iff_eq, true_iff, iff_true, Bool.false_eq_true, false_iff]
    omega
def sgL : List UInt8 := [33, 35, 36, 37, 38, 39, 42, 43, 45, 46, 94, 95, 96, 124, 126]
theorem isSg_eq (c : UInt8) (n : Nat) (h : c.toNat = n) : isSg c = (dgN n || ltN n || sgL.contains c) := by
  subst h
  unfold isSg dgN ltN
  rw [Bool.eq_iff_iff]
  show _ ↔ (_ || _ || List.contains [33, 35, 36, 37, 38, 39, 42, 43, 45, 46, 94, 95, 96, 124, 126] c) = true
  simp only [Bool.or_eq_true, Bool.and_eq_true, decide_eq_true_eq, or_assoc]
theorem sgL_at (i : Nat) (h : i < (⟨#[33, 35, 36, 37, 38, 39, 42, 43, 45, 46, 94, 95, 96, 124, 126]⟩ : ByteArray).size) : sgL[i]? = some ((⟨#[33, 35, 36, 37, 38, 39, 42, 43, 45, 46, 94, 95, 96, 124, 126]⟩ : ByteArray)[i]'h) := by
  have := list_get ⟨#[33, 35, 36, 37, 38, 39, 42, 43, 45, 46, 94, 95, 96, 124, 126]⟩ i h
  exact this
theorem contains_no (c : UInt8) (l : List UInt8) (k : Nat) (hk : l.length ≤ k) (h : ∀ j d, j < k → l[j]? = some d → d ≠ c) : l.contains c = false := by
  rw [List.contains_eq_any_beq, List.any_eq_false]
  intro d hd
  obtain ⟨j, hj⟩ := List.getElem?_of_mem hd
  have hlt : j < l.length := (List.getElem?_eq_some_iff.1 hj).1
  have := h j d (by omega) hj
  simpa using fun e => this e.symm
theorem contains_yes (c : UInt8) (l : List UInt8) (j : Nat) (h : l[j]? = some c) : l.contains c = true := by
  rw [List.contains_iff_mem]; exact List.mem_of_getElem? h
set_option maxHeartbeats 2000000 in
theorem rsign_any (c : UInt8) (w : World) : Calls Tryz.prog 45 #[.int .u8 (c.toNat : Int)] w fun e w' => e = .returned (.bool (isSg c)) ∧ w' = w := by
  obtain ⟨n, hn⟩ : ∃ n, c.toNat = n := ⟨_, rfl⟩
  have he := isSg_eq c n hn
  rw [he, hn]
  have HN := Lib.hid hn; clear hn he
  obtain ⟨a, ha⟩ : ∃ a, dgN n = a := ⟨_, rfl⟩
  obtain ⟨b, hb⟩ : ∃ b, ltN n = b := ⟨_, rfl⟩
  rw [ha, hb]
  have HAB := Lib.hid (And.intro ha hb)
  clear ha hb
  cases a with
  | true =>
    go_enter Tryz.func45, Tryz.ntmps45
    go_wp2_with fail
    refine (rdigit_any n _).mono ?_
    rintro e w' ⟨rfl, rfl⟩
    rw [HAB.out.1]
    go_wp2
    go_ret
    exact ⟨ret_boolO (by simp), rfl⟩
  | false =>
    cases b with
    | true =>
      go_enter Tryz.func45, Tryz.ntmps45
      go_wp2_with fail
      refine (rdigit_any n _).mono ?_
      rintro e w' ⟨rfl, rfl⟩
      rw [HAB.out.1]
      go_wp2_with fail
      refine (rletter_any n _).mono ?_
      rintro e w' ⟨rfl, rfl⟩
      rw [HAB.out.2]
      go_wp2
      go_ret
      exact ⟨ret_boolO (by simp), rfl⟩
    | false =>
      go_enter Tryz.func45, Tryz.ntmps45
      go_wp2_with fail
      refine (rdigit_any n _).mono ?_
      rintro e w' ⟨rfl, rfl⟩
      rw [HAB.out.1]
      go_wp2_with fail
      refine (rletter_any n _).mono ?_
      rintro e w ⟨rfl, rfl⟩
      rw [HAB.out.2]
      go_wp2
      go_loopw [4] (fun iv wr => ∃ i : Nat, iv = .int .i64 i ∧ i ≤ 15 ∧ (∀ j d, j < i → sgL[j]? = some d → d ≠ c) ∧ wr = w) (fun iv _ => 15 - (intOf iv).toNat)
      case atStart => exact ⟨0, rfl, by omega, fun j d h => by omega, rfl⟩
      case round =>
        obtain ⟨i, rfl, hi, hno, rfl⟩ := hrel
        have HNO := Lib.hid hno; clear hno
        by_cases hlt : i < 15
        · have hat := sgL_at i hlt
          obtain ⟨d, hd⟩ : ∃ d, (⟨#[33, 35, 36, 37, 38, 39, 42, 43, 45, 46, 94, 95, 96, 124, 126]⟩ : ByteArray)[i]'hlt = d := ⟨_, rfl⟩
          rw [hd] at hat
          have k0 : (0 : Int) ≤ (i : Int) := by omega
          have k1 : (i : Int) < 15 := by omega
          have HAT := Lib.hid hat; clear hat
          by_cases hdc : d = c
          · subst hdc
            have e1 : ((d.toNat : Int) == (n : Int)) = true := by rw [HN.out]; simp
            have hy := contains_yes d sgL i HAT.out
            have HY := Lib.hid hy
            clear hy
            go_wp2
            go_ret
            exact ⟨ret_boolO (by rw [HY.out]; simp), rfl⟩
          · have e1 : ((d.toNat : Int) == (n : Int)) = false := by
              rw [← HN.out]
              have : d.toNat ≠ c.toNat := fun e => hdc (UInt8.toNat_inj.1 e)
              simp; omega
            have hx : ∀ j e, j < i + 1 → sgL[j]? = some e → e ≠ c := fun j e hj he => by
              by_cases hji : j < i
              · exact HNO.out j e hji he
              · obtain rfl : j = i := by omega
                rw [HAT.out] at he; injection he with he; subst he; exact hdc
            have HX := Lib.hid hx
            clear hx hdc
            go_wp2
            go_roundw
            case rel => exact ⟨i + 1, by go_num, by omega, HX.out, by first | rfl | trivial⟩
            case measure => simp [intOf]; omega
        · obtain rfl : i = 15 := by omega
          have hf := contains_no c sgL 15 (by decide) HNO.out
          have HF := Lib.hid hf; clear hf
          go_wp2
          go_ret
          exact ⟨ret_boolO (by rw [HF.out]; simp), rfl⟩
end Go.Proofs.YtdlpbpikhmciaaaGreatDoor
namespace Go.Proofs.YtdlpbpikhmciaaaGreatDoor
open Go.RowKit
set_option linter.unusedSimpArgs false
set_option linter.unusedVariables false
set_option maxRecDepth 1000000
theorem w64o (i : Nat) (h : i ≤ 2199023255552) : wrap64 ((i : Int) + 1) = (i : Int) + 1 := by unfold wrap64; omega
theorem le_oo (i s : Nat) (h : i ≤ s) (hs : s ≤ 1099511627776) : i ≤ 2199023255552 := by omega
theorem all_full (p : UInt8 → Bool) (s : ByteArray) (h : (s.data.toList.take s.size).all p = true) : s.data.toList.all p = true := by
  rwa [List.take_of_length_le (by rw [size_list]; exact Nat.le_refl _)] at h
theorem isTok_bad (l : List UInt8) (k : Nat) (c : UInt8) (h : l[k]? = some c) (hp : isSg c = false) : isTok l = false := by
  unfold isTok; rw [all_not isSg l k c h hp, Bool.and_false]
theorem isTok_all (l : List UInt8) (h : l.all isSg = true) : isTok l = !l.isEmpty := by
  unfold isTok; rw [h, Bool.and_true]
set_option maxHeartbeats 2000000 in
theorem otoken_any (s : ByteArray) (w : World) (hs : s.size ≤ 1099511627776) (hg : SgAt w) :
    Calls Tryz.prog 62 #[.string s] w fun e w' => e = .returned (.bool (isTok s.data.toList)) ∧ w' = w := by
  have HG := Lib.hid hg; clear hg
  go_enter Tryz.func62, Tryz.ntmps62
  go_wp2
  go_loopw [6] (fun iv wr => ∃ i : Nat, iv = .int .i64 i ∧ i ≤ s.size ∧ (s.data.toList.take i).all isSg = true ∧ wr = w) (fun iv _ => s.size - (intOf iv).toNat)
  case atStart => exact ⟨0, rfl, Nat.zero_le _, rfl, rfl⟩
  case round =>
    obtain ⟨i, rfl, hi, hall, rfl⟩ := hrel
    by_cases hlt : i < s.size
    · obtain ⟨c, hc⟩ : ∃ c, s[i]'hlt = c := ⟨_, rfl⟩
      have hget := list_get s i hlt
      rw [hc] at hget
      have k0 : (0 : Int) ≤ (i : Int) := Int.natCast_nonneg _
      have k1 : (i : Int) < (s.size : Int) := by omega
      have HA := Lib.hid (And.intro hall hget)
      clear hall hget
      cases hst : isSg c with
      | true =>
        have hx := all_take isSg _ i c HA.out.2 HA.out.1 hst
        have HS := Lib.hid (And.intro hx hst)
        clear hx hst
        go_wp2_with fail
        refine (osign_any c _ HG.out).mono ?_
        rintro e w ⟨rfl, rfl⟩
        rw [HS.out.2]
        have hwi := w64o i (le_oo i s.size hi hs)
        go_wp2
        go_roundw
        case rel => (try rw [hwi]); clear hwi; exact ⟨i + 1, by go_num, by omega, HS.out.1, by first | rfl | trivial⟩
        case measure => (try rw [hwi]); clear hwi; simp [intOf]; omega
      | false =>
        have hx := isTok_bad _ i c HA.out.2 hst
        have HS := Lib.hid (And.intro hx hst)
        clear hx hst
        go_wp2_with fail
        refine (osign_any c _ HG.out).mono ?_
        rintro e w ⟨rfl, rfl⟩
        rw [HS.out.2]
        go_wp2
        go_ret
        exact ⟨ret_boolO HS.out.1.symm, rfl⟩
    · obtain rfl : i = s.size := by omega
      have hx := isTok_all _ (all_full isSg s hall)
      have HX := Lib.hid hx; clear hx hall
      go_wp2
      go_ret
      refine ⟨ret_boolO ?_, rfl⟩
      rw [HX.out, ← ByteArray.toList_eq]
set_option maxHeartbeats 2000000 in
theorem oisfield_any (s : ByteArray) (w : World) (hs : s.size ≤ 1099511627776) :
    Calls Tryz.prog 31 #[.string s] w fun e w' => e = .returned (.bool (isFld s.data.toList)) ∧ w' = w := by
  go_enter Tryz.func31, Tryz.ntmps31
  go_wp2
  go_loopw [6] (fun iv wr => ∃ i : Nat, iv = .int .i64 i ∧ i ≤ s.size ∧ (s.data.toList.take i).all isFb = true ∧ wr = w) (fun iv _ => s.size - (intOf iv).toNat)
  case atStart => exact ⟨0, rfl, Nat.zero_le _, rfl, rfl⟩
  case round =>
    obtain ⟨i, rfl, hi, hall, rfl⟩ := hrel
    by_cases hlt : i < s.size
    · obtain ⟨c, hc⟩ : ∃ c, s[i]'hlt = c := ⟨_, rfl⟩
      have hget := list_get s i hlt
      rw [hc] at hget
      have k0 : (0 : Int) ≤ (i : Int) := Int.natCast_nonneg _
      have k1 : (i : Int) < (s.size : Int) := by omega
      have HA := Lib.hid (And.intro hall hget)
      clear hall hget
      cases hst : isFb c with
      | true =>
        have hx := all_take isFb _ i c HA.out.2 HA.out.1 hst
        have HS := Lib.hid (And.intro hx hst)
        clear hx hst
        go_wp2_with fail
        refine (ofield_any c _).mono ?_
        rintro e w ⟨rfl, rfl⟩
        rw [HS.out.2]
        have hwi := w64o i (le_oo i s.size hi hs)
        go_wp2
        go_roundw
        case rel => (try rw [hwi]); clear hwi; exact ⟨i + 1, by go_num, by omega, HS.out.1, by first | rfl | trivial⟩
        case measure => (try rw [hwi]); clear hwi; simp [intOf]; omega
      | false =>
        have hx : isFld s.data.toList = false := all_not isFb _ i c HA.out.2 hst
        have HS := Lib.hid (And.intro hx hst)
        clear hx hst
        go_wp2_with fail
        refine (ofield_any c _).mono ?_
        rintro e w ⟨rfl, rfl⟩
        rw [HS.out.2]
        go_wp2
        go_ret
        exact ⟨ret_boolO HS.out.1.symm, rfl⟩
    · obtain rfl : i = s.size := by omega
      have hx : isFld s.data.toList = true := all_full isFb s hall
      have HX := Lib.hid hx; clear hx hall
      go_wp2
      go_ret
      exact ⟨ret_boolO HX.out.symm, rfl⟩
end Go.Proofs.YtdlpbpikhmciaaaGreatDoor
namespace Go.Proofs.YtdlpbpikhmciaaaGreatDoor
open Go.RowKit
set_option linter.unusedSimpArgs false
set_option linter.unusedVariables false
set_option maxRecDepth 1000000
theorem nmC_yes (i : Nat) (c : UInt8) (a : Nat) (h : c.toNat = a) (hx : ((97 ≤ a ∧ a ≤ 122) ∨ (65 ≤ a ∧ a ≤ 90)) ∨ (0 < i ∧ ((48 ≤ a ∧ a ≤ 57) ∨ a = 95))) : nmC i c = true := by
  subst h
  unfold nmC isLt isDg
  simp only [Bool.or_eq_true, Bool.and_eq_true, decide_eq_true_eq, beq_iff_eq]
  omega
theorem nmC_no (i : Nat) (c : UInt8) (a : Nat) (h : c.toNat = a) (hx : ¬ (((97 ≤ a ∧ a ≤ 122) ∨ (65 ≤ a ∧ a ≤ 90)) ∨ (0 < i ∧ ((48 ≤ a ∧ a ≤ 57) ∨ a = 95)))) : nmC i c = false := by
  cases hn : nmC i c with
  | false => rfl
  | true =>
    exfalso
    subst h
    unfold nmC isLt isDg at hn
    simp only [Bool.or_eq_true, Bool.and_eq_true, decide_eq_true_eq, beq_iff_eq] at hn
    omega
theorem isNm_of (l : List UInt8) (b : Bool) (h : okN 0 l = b) : isNm l = (!l.isEmpty && b) := by unfold isNm; rw [h]
theorem isNm_off (s : ByteArray) (pos : Nat) (h : pos < s.size) (hk : okN pos (s.data.toList.drop pos) = okN 0 s.data.toList) (hb : nmC pos (s[pos]'h) = false) : isNm s.data.toList = false := by
  rw [drop_get s pos h, okN_bad _ _ _ hb] at hk
  rw [isNm_of _ _ hk.symm, Bool.and_false]
theorem okN_next (s : ByteArray) (pos : Nat) (h : pos < s.size) (hk : okN pos (s.data.toList.drop pos) = okN 0 s.data.toList) (hb : nmC pos (s[pos]'h) = true) : okN (pos + 1) (s.data.toList.drop (pos + 1)) = okN 0 s.data.toList := by
  rw [drop_get s pos h, okN_good _ _ _ hb] at hk
  exact hk
theorem isNm_done (s : ByteArray) (hk : okN s.size (s.data.toList.drop s.size) = okN 0 s.data.toList) : isNm s.data.toList = !s.data.toList.isEmpty := by
  rw [List.drop_of_length_le (by rw [size_list]; exact Nat.le_refl _)] at hk
  rw [isNm_of _ _ hk.symm]
  simp [okN]
set_option maxHeartbeats 4000000 in
theorem oisname_any (s : ByteArray) (w : World) (hs : s.size ≤ 1099511627776) :
    Calls Tryz.prog 33 #[.string s] w fun e w' => e = .returned (.bool (isNm s.data.toList)) ∧ Below w.heap.size w w' := by
  have hbi : ∀ pos, Below w.heap.size w (w.iter s pos) := fun pos => (Below.refl _ w).alloc (Nat.le_refl _) _
  have HBI := Lib.hid hbi; clear hbi
  go_enter Tryz.func33, Tryz.ntmps33
  go_wp2
  go_loopw [] (fun wr => ∃ pos : Nat, wr = w.iter s pos ∧ pos ≤ s.size ∧ okN pos (s.data.toList.drop pos) = okN 0 s.data.toList) (fun wr => s.size - wr.iterPos w.heap.size)
  case atStart => exact ⟨0, rfl, Nat.zero_le _, rfl⟩
  case round =>
    obtain ⟨pos, rfl, hpos, hk⟩ := hrel
    by_cases hp : pos < s.size
    · obtain ⟨a, ea⟩ : ∃ a, (s[pos]'hp).toNat = a := ⟨_, rfl⟩
      have hoff := isNm_off s pos hp hk
      have hnxt := okN_next s pos hp hk
      have HK := Lib.hid (And.intro hoff hnxt)
      clear hoff hnxt hk
      by_cases hlow : a < 128
      · have hnx : ∀ ty, (Instr.next (.pointer (some ⟨w.heap.size, 0, none⟩)) true ty).run Tryz.prog (w.iter s pos) = .ok (.tuple #[.bool true, .int .i64 pos, .int .i32 a]) (w.iter s (pos + 1)) := fun ty => by
          rw [run_next_ascii w s pos ty hp (by omega), ea]
        have HEA := Lib.hid ea
        clear ea
        by_cases hg : ((97 ≤ a ∧ a ≤ 122) ∨ (65 ≤ a ∧ a ≤ 90)) ∨ (0 < pos ∧ ((48 ≤ a ∧ a ≤ 57) ∨ a = 95))
        · have HX := Lib.hid (HK.out.2 (nmC_yes _ _ a HEA.out hg))
          clear HK HEA
          have q0 : (0 : Int) ≤ (pos : Int) := Int.natCast_nonneg _
          rcases hg with (⟨g1, g2⟩ | ⟨g1, g2⟩) | ⟨g0, ⟨g1, g2⟩ | g1⟩
          case' inr.inr => subst g1
          all_goals (try have g0' : ((pos : Int) == 0) = false := by simp; omega)
          all_goals
            go_wp2
            go_roundw
            case rel => exact ⟨pos + 1, rfl, hp, HX.out⟩
            case measure => simp [World.iterPos_iter]; omega
        · have HX := Lib.hid (HK.out.1 (nmC_no _ _ a HEA.out hg))
          clear HK HEA
          have hg2 : (a < 48 ∨ (58 ≤ a ∧ a ≤ 64) ∨ (91 ≤ a ∧ a ≤ 94) ∨ a = 96 ∨ 123 ≤ a) ∨ (pos = 0 ∧ ((48 ≤ a ∧ a ≤ 57) ∨ a = 95)) := by omega
          clear hg
          rcases hg2 with (g1 | ⟨g1, g2⟩ | ⟨g1, g2⟩ | g1 | g1) | ⟨g0, ⟨g1, g2⟩ | g1⟩
          all_goals (try subst g0)
          all_goals (try subst g1)
          all_goals
            go_wp2
            all_goals first
              | (go_ret
                 exact ⟨ret_boolO HX.out.symm, HBI.out _⟩)
              | (exfalso
                 (try simp only [Bool.not_eq_true', Bool.not_eq_false', decide_eq_false_iff_not, Bool.and_eq_true, Bool.or_eq_true, decide_eq_true_eq, bne_iff_ne, beq_iff_eq] at *)
                 omega)
      · obtain ⟨r, hr⟩ : ∃ r, (Utf8.decode s pos).1 = r := ⟨_, rfl⟩
        obtain ⟨n, hn⟩ : ∃ n, (Utf8.decode s pos).2 = n := ⟨_, rfl⟩
        have hr1 : 128 ≤ r := by rw [← hr]; exact (decode_high s pos hp (by omega)).1
        have hnx : ∀ ty, (Instr.next (.pointer (some ⟨w.heap.size, 0, none⟩)) true ty).run Tryz.prog (w.iter s pos) = .ok (.tuple #[.bool true, .int .i64 pos, .int .i32 r]) (w.iter s (pos + n)) := fun ty => by
          rw [run_next_any w s pos ty hp, hr, hn]
        have HX := Lib.hid (HK.out.1 (nmC_no _ _ a ea (by omega)))
        have i1 : (97 : Int) ≤ (r : Int) := by omega
        have i2 : ¬ (r : Int) ≤ 122 := by omega
        have i3 : (65 : Int) ≤ (r : Int) := by omega
        have i4 : ¬ (r : Int) ≤ 90 := by omega
        have i5 : (48 : Int) ≤ (r : Int) := by omega
        have i6 : ¬ (r : Int) ≤ 57 := by omega
        have i7 : ((r : Int) == 95) = false := by simp; omega
        clear ea hr hn hr1 hlow
        go_wp2
        all_goals
          go_ret
          exact ⟨ret_boolO HX.out.symm, HBI.out _⟩
    · obtain rfl : pos = s.size := by omega
      have HX := Lib.hid (isNm_done s hk)
      have hnx : ∀ ty, (Instr.next (.pointer (some ⟨w.heap.size, 0, none⟩)) true ty).run Tryz.prog (w.iter s s.size) = .ok (.tuple #[.bool false]) (w.iter s s.size) := fun ty => run_next_end w s s.size ty (Nat.lt_irrefl _)
      clear hk
      go_wp2
      go_ret
      refine ⟨ret_boolO ?_, HBI.out _⟩
      rw [HX.out, ← ByteArray.toList_eq]
end Go.Proofs.YtdlpbpikhmciaaaGreatDoor
namespace Go.Proofs.YtdlpbpikhmciaaaGreatDoor
open Go.RowKit
set_option linter.unusedSimpArgs false
set_option linter.unusedVariables false
set_option maxRecDepth 1000000
theorem small30h (i n : Nat) (h : i ≤ n) (hn : n ≤ 1073741824) : i ≤ 2199023255552 := by omega
theorem valL_drop (l : List Par) (n : List UInt8) (i : Nat) (p : Par) (h : l[i]? = some p) : valL (l.drop i) n = if p.1 = n then p.2.1 else valL (l.drop (i + 1)) n := by
  have hlt := (List.getElem?_eq_some_iff.1 h).1
  have he := (List.getElem?_eq_some_iff.1 h).2
  rw [List.drop_eq_getElem_cons hlt, he]
  rfl
set_option maxHeartbeats 4000000 in
theorem oparam_any (v : Value) (l : List Par) (n : List UInt8) (w : World) (hN : l.length ≤ 1073741824) (h : ParsIn w v l) :
    Calls Tryz.prog 34 #[v, .string ⟨n.toArray⟩] w fun e w' => e = .returned (.string ⟨(valL l n).toArray⟩) ∧ Below w.heap.size w w' := by
  obtain ⟨ao, cap, rfl, hat⟩ := h
  have HAT := Lib.hid hat
  clear hat
  go_enter Tryz.func34, Tryz.ntmps34
  go_wp2
  go_loopw [9] (fun iv wr => ∃ i : Nat, iv = .int .i64 i ∧ i ≤ l.length ∧ valL (l.drop i) n = valL l n ∧ Below w.heap.size w wr) (fun iv _ => l.length - (intOf iv).toNat)
  case atStart => exact ⟨0, rfl, Nat.zero_le _, rfl, Below.refl _ _⟩
  case round =>
    obtain ⟨i, rfl, hi, hv, hb⟩ := hrel
    by_cases hlt : i < l.length
    · obtain ⟨p, hp⟩ : ∃ p, l[i]? = some p := ⟨_, List.getElem?_eq_getElem hlt⟩
      have hat := HAT.out.below (w' := wr) hb
      obtain ⟨g, o, rfl, _, c0, c1, c2⟩ := hat i p hp
      clear hat
      have k0 : (0 : Int) ≤ (i : Int) := Int.natCast_nonneg _
      have k1 : (i : Int) < (l.length : Int) := by omega
      have hwi := wrap64_small i (small30h i _ hi hN)
      have hvd := valL_drop l n i p hp
      obtain ⟨p1, p2, p3⟩ := p
      simp only at c0 c1 c2 hvd
      have hb2 := hb.alloc hb.size (.cells #[.string ⟨p1.toArray⟩, .string ⟨p2.toArray⟩, .bool p3] 33)
      have HB2 := Lib.hid hb2; have HW := Lib.hid hwi; have HP := Lib.hid hp
      clear hb hb2 hwi hp
      by_cases hE : p1 = n
      · rw [if_pos hE, hv] at hvd
        have HV := Lib.hid hvd
        have hE2 : (p1 == n) = true := by simpa using hE
        clear hvd hv hE
        go_wp2
        go_ret
        rw [HV.out]
        exact ⟨rfl, HB2.out⟩
      · rw [if_neg hE, hv] at hvd
        have HV := Lib.hid hvd
        have hE2 : (p1 == n) = false := by simpa using hE
        clear hvd hv hE
        go_wp2
        have hwi := HW.out
        go_roundw
        case rel => (try rw [hwi]); clear hwi; exact ⟨i + 1, by go_num, hlt, HV.out.symm, HB2.out⟩
        case measure => (try rw [hwi]); clear hwi; simp [intOf]; omega
    · obtain rfl : i = l.length := by omega
      have hd : decide (l.length < l.length) = false := decide_eq_false (Nat.lt_irrefl _)
      rw [List.drop_length] at hv
      have HX := Lib.hid (And.intro hv hb)
      clear hv hb
      go_wp2
      go_ret
      rw [← HX.out.1]
      exact ⟨rfl, HX.out.2⟩
set_option maxHeartbeats 4000000 in
theorem rvalue_any (v : Value) (l : List Par) (n : List UInt8) (w : World) (hN : l.length ≤ 1073741824) (h : ParsIn w v l) :
    Calls Tryz.prog 38 #[v, .string ⟨n.toArray⟩] w fun e w' => e = .returned (.string ⟨(valL l n).toArray⟩) ∧ Below w.heap.size w w' := by
  obtain ⟨ao, cap, rfl, hat⟩ := h
  have HAT := Lib.hid hat
  clear hat
  go_enter Tryz.func38, Tryz.ntmps38
  go_wp2
  go_loopw [9] (fun iv wr => ∃ i : Nat, iv = .int .i64 i ∧ i ≤ l.length ∧ valL (l.drop i) n = valL l n ∧ Below w.heap.size w wr) (fun iv _ => l.length - (intOf iv).toNat)
  case atStart => exact ⟨0, rfl, Nat.zero_le _, rfl, Below.refl _ _⟩
  case round =>
    obtain ⟨i, rfl, hi, hv, hb⟩ := hrel
    by_cases hlt : i < l.length
    · obtain ⟨p, hp⟩ : ∃ p, l[i]? = some p := ⟨_, List.getElem?_eq_getElem hlt⟩
      have hat := HAT.out.below (w' := wr) hb
      obtain ⟨g, o, rfl, _, c0, c1, c2⟩ := hat i p hp
      clear hat
      have k0 : (0 : Int) ≤ (i : Int) := Int.natCast_nonneg _
      have k1 : (i : Int) < (l.length : Int) := by omega
      have hwi := wrap64_small i (small30h i _ hi hN)
      have hvd := valL_drop l n i p hp
      obtain ⟨p1, p2, p3⟩ := p
      simp only at c0 c1 c2 hvd
      have hb2 := hb.alloc hb.size (.cells #[.string ⟨p1.toArray⟩, .string ⟨p2.toArray⟩, .bool p3] 91)
      have HB2 := Lib.hid hb2; have HW := Lib.hid hwi; have HP := Lib.hid hp
      clear hb hb2 hwi hp
      by_cases hE : p1 = n
      · rw [if_pos hE, hv] at hvd
        have HV := Lib.hid hvd
        have hE2 : (p1 == n) = true := by simpa using hE
        clear hvd hv hE
        go_wp2
        go_ret
        rw [HV.out]
        exact ⟨rfl, HB2.out⟩
      · rw [if_neg hE, hv] at hvd
        have HV := Lib.hid hvd
        have hE2 : (p1 == n) = false := by simpa using hE
        clear hvd hv hE
        go_wp2
        have hwi := HW.out
        go_roundw
        case rel => (try rw [hwi]); clear hwi; exact ⟨i + 1, by go_num, hlt, HV.out.symm, HB2.out⟩
        case measure => (try rw [hwi]); clear hwi; simp [intOf]; omega
    · obtain rfl : i = l.length := by omega
      have hd : decide (l.length < l.length) = false := decide_eq_false (Nat.lt_irrefl _)
      rw [List.drop_length] at hv
      have HX := Lib.hid (And.intro hv hb)
      clear hv hb
      go_wp2
      go_ret
      rw [← HX.out.1]
      exact ⟨rfl, HX.out.2⟩
end Go.Proofs.YtdlpbpikhmciaaaGreatDoor
