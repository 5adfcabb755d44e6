/- The walk of the reference's IsName. Conditions: fewer than 2^40 bytes. -/
import Derived.Test.YtdlpbpikhmciaaaGreatDoorHdN
namespace Go.Proofs.YtdlpbpikhmciaaaGreatDoor
open Go.RowKit
set_option linter.unusedSimpArgs false
set_option linter.unusedVariables false
set_option maxRecDepth 1000000
set_option maxHeartbeats 4000000 in
theorem risname_any (s : ByteArray) (w : World) (hs : s.size ≤ 1099511627776) :
    Calls Tryz.prog 29 #[.string s] w fun e w' => e = .returned (.bool (isNm s.data.toList)) ∧ w' = w := by
  go_enter Tryz.func29, Tryz.ntmps29
  go_wp2
  go_loopw [3] (fun iv wr => ∃ i : Nat, iv = .int .i64 i ∧ i ≤ s.size ∧ okN i (s.data.toList.drop i) = okN 0 s.data.toList ∧ wr = w) (fun iv _ => s.size - (intOf iv).toNat)
  case atStart => exact ⟨0, rfl, Nat.zero_le _, rfl, rfl⟩
  case round =>
    obtain ⟨i, rfl, hi, hk, rfl⟩ := hrel
    by_cases hlt : i < s.size
    · have hoff := isNm_off s i hlt hk
      have hnxt := okN_next s i hlt hk
      obtain ⟨c, hc⟩ : ∃ c, s[i]'hlt = c := ⟨_, rfl⟩
      rw [hc] at hoff hnxt
      obtain ⟨a, ea⟩ : ∃ a, c.toNat = a := ⟨_, rfl⟩
      have k0 : (0 : Int) ≤ (i : Int) := Int.natCast_nonneg _
      have k1 : (i : Int) < (s.size : Int) := by omega
      have hwi := w64o i (le_oo i s.size hi hs)
      have HK := Lib.hid (And.intro hoff (And.intro hnxt hwi))
      have HEA := Lib.hid ea
      clear hoff hnxt hk hwi
      cases hl : ltN a with
      | true =>
        have hx := HK.out.2.1 (nmC_yes i c a HEA.out (.inl (by unfold ltN at hl; simp at hl; omega)))
        have HX := Lib.hid hx; have HL := Lib.hid hl
        clear hx hl
        go_wp2_with fail
        refine (rletter_any a _).mono ?_
        rintro e w ⟨rfl, rfl⟩
        rw [HL.out]
        go_wp2
        have hwi := HK.out.2.2
        go_roundw
        case rel => (try rw [hwi]); clear hwi; exact ⟨i + 1, by go_num, hlt, HX.out, by first | rfl | trivial⟩
        case measure => (try rw [hwi]); clear hwi; simp [intOf]; omega
      | false =>
        have HL := Lib.hid hl
        by_cases h0 : i = 0
        · have hx := HK.out.1 (nmC_no i c a HEA.out (by unfold ltN at hl; simp at hl; omega))
          have HX := Lib.hid hx
          clear hx hl
          have g0 : ((i : Int) == 0) = true := by simp; omega
          clear h0
          go_wp2_with fail
          refine (rletter_any a _).mono ?_
          rintro e w ⟨rfl, rfl⟩
          rw [HL.out]
          go_wp2
          go_ret
          exact ⟨ret_boolO HX.out.symm, rfl⟩
        · have g0 : ((i : Int) == 0) = false := by simp; omega
          cases hd : dgN a with
          | true =>
            have hx := HK.out.2.1 (nmC_yes i c a HEA.out (.inr (by unfold dgN at hd; simp at hd; omega)))
            have HX := Lib.hid hx; have HD := Lib.hid hd
            clear hx hl hd
            go_wp2_with fail
            refine (rletter_any a _).mono ?_
            rintro e w ⟨rfl, rfl⟩
            rw [HL.out]
            go_wp2_with fail
            refine (rdigit_any a _).mono ?_
            rintro e w ⟨rfl, rfl⟩
            rw [HD.out]
            go_wp2
            have hwi := HK.out.2.2
            go_roundw
            case rel => (try rw [hwi]); clear hwi; exact ⟨i + 1, by go_num, hlt, HX.out, by first | rfl | trivial⟩
            case measure => (try rw [hwi]); clear hwi; simp [intOf]; omega
          | false =>
            have HD := Lib.hid hd
            by_cases h5 : a = 95
            · have hx := HK.out.2.1 (nmC_yes i c a HEA.out (.inr (by omega)))
              have HX := Lib.hid hx
              have g5 : ((a : Int) != 95) = false := by subst h5; rfl
              clear hx hl hd h5
              go_wp2_with fail
              refine (rletter_any a _).mono ?_
              rintro e w ⟨rfl, rfl⟩
              rw [HL.out]
              go_wp2_with fail
              refine (rdigit_any a _).mono ?_
              rintro e w ⟨rfl, rfl⟩
              rw [HD.out]
              go_wp2
              have hwi := HK.out.2.2
              go_roundw
              case rel => (try rw [hwi]); clear hwi; exact ⟨i + 1, by go_num, hlt, HX.out, by first | rfl | trivial⟩
              case measure => (try rw [hwi]); clear hwi; simp [intOf]; omega
            · have hx := HK.out.1 (nmC_no i c a HEA.out (by unfold ltN at hl; unfold dgN at hd; simp at hl hd; omega))
              have HX := Lib.hid hx
              have g5 : ((a : Int) != 95) = true := by simp; omega
              clear hx hl hd h5
              go_wp2_with fail
              refine (rletter_any a _).mono ?_
              rintro e w ⟨rfl, rfl⟩
              rw [HL.out]
              go_wp2_with fail
              refine (rdigit_any a _).mono ?_
              rintro e w ⟨rfl, rfl⟩
              rw [HD.out]
              go_wp2
              go_ret
              exact ⟨ret_boolO HX.out.symm, rfl⟩
    · obtain rfl : i = s.size := by omega
      have hx := isNm_done s hk
      have HX := Lib.hid hx; clear hx hk
      have hd : decide (s.size < s.size) = false := decide_eq_false (Nat.lt_irrefl _)
      go_wp2
      go_ret
      refine ⟨ret_boolO ?_, rfl⟩
      rw [HX.out, ← ByteArray.toList_eq]
end Go.Proofs.YtdlpbpikhmciaaaGreatDoor
