/- The walk of accept.word: how many signs of tokens stand at the front. Conditions: fewer than 2^40 bytes; octet.signs holds what the text lays. -/
import Derived.Test.YtpdbejeiceodkaaGreatDoorOct7
namespace Go.Proofs.YtpdbejeiceodkaaGreatDoor
open Go.RowKit
set_option linter.unusedSimpArgs false
set_option linter.unusedVariables false
set_option maxRecDepth 1000000
theorem isTok_1w (c : UInt8) : isTok [c] = isSg c := by simp [isTok]
theorem ext_1w (t : ByteArray) (i j : Nat) (hj : i + 1 = j) (h : i < t.size) (c : UInt8) (hc : t[i]'h = c) : t.extract i j = ⟨#[c]⟩ := by
  rw [ext_mk, ← hj, Nat.add_sub_cancel_left, drop_get t i h, hc]; rfl
set_option maxHeartbeats 4000000 in
theorem word_any (t : ByteArray) (w : World) (hts2 : t.size ≤ 1099511627776) (hg : SgAt w) :
    Calls Tryz.prog 110 #[.string t] w fun e w' => e = .returned (.int .i64 ((runL isSg t.data.toList : Nat) : Int)) ∧ w' = w := by
  have HG1 := Lib.hid hg; clear hg
  obtain ⟨N, hN⟩ : ∃ N, runL isSg t.data.toList = N := ⟨_, rfl⟩
  rw [hN]
  have HNN := Lib.hid hN; clear hN
  go_enter Tryz.func110, Tryz.ntmps110
  go_wp2
  go_loopw [3] (fun nv wr => ∃ n : Nat, nv = .int .i64 n ∧ n ≤ N ∧ wr = w) (fun nv _ => t.size - (intOf nv).toNat)
  case atStart => exact ⟨0, rfl, Nat.zero_le _, rfl⟩
  case round =>
    obtain ⟨n, rfl, hn, rfl⟩ := hrel
    have hle := runL_at isSg t 0
    rw [List.drop_zero] at hle
    rw [← HNN.out] at hn
    by_cases hlt : n < t.size
    · obtain ⟨c, hc⟩ : ∃ c, t[n]'hlt = c := ⟨_, rfl⟩
      have hget := list_get t n hlt
      rw [hc] at hget
      obtain ⟨n1, hn1⟩ : ∃ n1, n + 1 = n1 := ⟨_, rfl⟩
      have f1 : (n : Int) + 1 = (n1 : Int) := by omega
      have hx := ext_1w t n n1 hn1 hlt c hc
      have k0 : (0 : Int) ≤ (n : Int) := Int.natCast_nonneg _
      have k1 : (n : Int) < (t.size : Int) := by omega
      have k2 : (n : Int) ≤ (n1 : Int) := by omega
      have k3 : (n1 : Int) ≤ (t.size : Int) := by omega
      clear hc
      cases hst : isSg c with
      | true =>
        have hx2 := runL_more isSg _ n c hn hget hst
        rw [HNN.out] at hx2
        have HS := Lib.hid (And.intro hx2 (And.intro hst hn1))
        clear hx2 hst hget hn hle hn1
        go_wp2_with fail
        refine (otoken_any ⟨#[c]⟩ _ (show 1 ≤ 1099511627776 from by decide) HG1.out).mono ?_
        rintro e wr ⟨rfl, rfl⟩
        rw [show (⟨#[c]⟩ : ByteArray).data.toList = [c] from rfl, isTok_1w, HS.out.2.1]
        go_wp2
        go_roundw
        case rel => exact ⟨n1, rfl, by rw [← HS.out.2.2]; exact HS.out.1, by first | rfl | trivial⟩
        case measure => simp [intOf]; omega
      | false =>
        have hx2 := runL_stop isSg _ n c hn hget hst
        rw [HNN.out] at hx2
        have HS := Lib.hid (And.intro hx2 hst)
        clear hx2 hst hget hn hle hn1
        go_wp2_with fail
        refine (otoken_any ⟨#[c]⟩ _ (show 1 ≤ 1099511627776 from by decide) HG1.out).mono ?_
        rintro e wr ⟨rfl, rfl⟩
        rw [show (⟨#[c]⟩ : ByteArray).data.toList = [c] from rfl, isTok_1w, HS.out.2]
        clear f1 hx k2 k3
        go_wp2
        go_ret
        rw [HS.out.1]
        exact ⟨rfl, rfl⟩
    · have hN2 := runL_end isSg _ n hn (by rw [size_list]; omega)
      rw [HNN.out] at hN2
      have HN := Lib.hid hN2
      have k0 : (0 : Int) ≤ (n : Int) := Int.natCast_nonneg _
      have k5 : (t.size : Int) ≤ (n : Int) := by omega
      clear hN2 hle hn
      go_wp2
      go_ret
      rw [HN.out]
      exact ⟨rfl, rfl⟩
end Go.Proofs.YtpdbejeiceodkaaGreatDoor
