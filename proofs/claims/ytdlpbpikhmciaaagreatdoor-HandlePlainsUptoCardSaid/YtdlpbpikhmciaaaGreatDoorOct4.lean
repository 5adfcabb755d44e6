/- The walks of the runs of bytes: octet's run over isBlank and isSign, the reference's blanks and signs. Conditions: fewer than 2^40 bytes; octet.signs holds what the text lays. -/
import Derived.Test.YtdlpbpikhmciaaaGreatDoorOct3
namespace Go.Proofs.YtdlpbpikhmciaaaGreatDoor
open Go.RowKit
set_option linter.unusedSimpArgs false
set_option linter.unusedVariables false
set_option maxRecDepth 1000000
theorem w64j (j : Nat) (h : j ≤ 2199023255552) : wrap64 (j : Int) = (j : Int) := by unfold wrap64; omega
theorem drop_at (s : ByteArray) (a n j : Nat) (hj : a + n = j) (h : j < s.size) : (s.data.toList.drop a)[n]? = some (s[j]'h) := by
  subst hj; rw [List.getElem?_drop]; exact list_get s _ h
theorem drop_len (s : ByteArray) (a n : Nat) (h : s.size ≤ a + n) : (s.data.toList.drop a).length ≤ n := by rw [List.length_drop, size_list]; omega
theorem runL_at (p : UInt8 → Bool) (s : ByteArray) (a : Nat) : runL p (s.data.toList.drop a) ≤ s.size - a := by
  have := runL_le p (s.data.toList.drop a); rw [List.length_drop, size_list] at this; exact this
set_option maxHeartbeats 2000000 in
theorem orunb_any (s : ByteArray) (a : Nat) (w : World) (hs : s.size ≤ 1099511627776) (ha : a ≤ s.size) :
    Calls Tryz.prog 229 #[.string s, .int .i64 (a : Int), .func (Fn.func 230) #[] #[]] w fun e w' => e = .returned (.int .i64 (runL isBl (s.data.toList.drop a) : Nat)) ∧ w' = w := by
  go_enter Tryz.func229, Tryz.ntmps229
  go_wp2
  go_loopw [7] (fun nv wr => ∃ n : Nat, nv = .int .i64 n ∧ n ≤ runL isBl (s.data.toList.drop a) ∧ wr = w) (fun nv _ => s.size - (intOf nv).toNat)
  case atStart => exact ⟨0, rfl, Nat.zero_le _, rfl⟩
  case round =>
    obtain ⟨n, rfl, hn, rfl⟩ := hrel
    have hle := runL_at isBl s a
    obtain ⟨j, hj⟩ : ∃ j, a + n = j := ⟨_, rfl⟩
    have f1 : (a : Int) + (n : Int) = (j : Int) := by omega
    have hjs : j ≤ s.size := by omega
    have hjw := w64j j (le_oo j s.size hjs hs)
    by_cases hlt : j < s.size
    · obtain ⟨c, hc⟩ : ∃ c, s[j]'hlt = c := ⟨_, rfl⟩
      have hget := drop_at s a n j hj hlt
      rw [hc] at hget
      have k0 : (0 : Int) ≤ (j : Int) := Int.natCast_nonneg _
      have k1 : (j : Int) < (s.size : Int) := by omega
      have hns : n < s.size := by omega
      have HJ := Lib.hid hj
      clear hj
      cases hst : isBl c with
      | true =>
        have hx := runL_more isBl _ n c hn hget hst
        have HS := Lib.hid (And.intro hx hst)
        clear hx hst hget hn hle
        go_wp2_with fail
        refine (oblank_any c _).mono ?_
        rintro e w ⟨rfl, rfl⟩
        rw [HS.out.2]
        clear hjw f1
        have hwi := w64o n (le_oo n s.size (Nat.le_of_lt hns) hs)
        go_wp2
        go_roundw
        case rel => (try rw [hwi]); clear hwi; exact ⟨n + 1, by go_num, HS.out.1, by first | rfl | trivial⟩
        case measure => (try rw [hwi]); clear hwi; simp [intOf]; omega
      | false =>
        have hx := runL_stop isBl _ n c hn hget hst
        have HS := Lib.hid (And.intro hx hst)
        clear hx hst hget hn hle
        go_wp2_with fail
        refine (oblank_any c _).mono ?_
        rintro e w ⟨rfl, rfl⟩
        rw [HS.out.2]
        go_wp2
        go_ret
        refine ⟨?_, rfl⟩
        rw [← HS.out.1]; rfl
    · obtain rfl : j = s.size := by omega
      have hx := runL_end isBl _ n hn (drop_len s a n (by omega))
      have HX := Lib.hid hx
      clear hx hn hle hj
      go_wp2
      go_ret
      refine ⟨?_, rfl⟩
      rw [← HX.out]; rfl
set_option maxHeartbeats 2000000 in
theorem oruns_any (s : ByteArray) (a : Nat) (w : World) (hs : s.size ≤ 1099511627776) (ha : a ≤ s.size) (hg : SgAt w) :
    Calls Tryz.prog 229 #[.string s, .int .i64 (a : Int), .func (Fn.func 94) #[] #[]] w fun e w' => e = .returned (.int .i64 (runL isSg (s.data.toList.drop a) : Nat)) ∧ w' = w := by
  have HG := Lib.hid hg; clear hg
  go_enter Tryz.func229, Tryz.ntmps229
  go_wp2
  go_loopw [7] (fun nv wr => ∃ n : Nat, nv = .int .i64 n ∧ n ≤ runL isSg (s.data.toList.drop a) ∧ wr = w) (fun nv _ => s.size - (intOf nv).toNat)
  case atStart => exact ⟨0, rfl, Nat.zero_le _, rfl⟩
  case round =>
    obtain ⟨n, rfl, hn, rfl⟩ := hrel
    have hle := runL_at isSg s a
    obtain ⟨j, hj⟩ : ∃ j, a + n = j := ⟨_, rfl⟩
    have f1 : (a : Int) + (n : Int) = (j : Int) := by omega
    have hjs : j ≤ s.size := by omega
    have hjw := w64j j (le_oo j s.size hjs hs)
    by_cases hlt : j < s.size
    · obtain ⟨c, hc⟩ : ∃ c, s[j]'hlt = c := ⟨_, rfl⟩
      have hget := drop_at s a n j hj hlt
      rw [hc] at hget
      have k0 : (0 : Int) ≤ (j : Int) := Int.natCast_nonneg _
      have k1 : (j : Int) < (s.size : Int) := by omega
      have hns : n < s.size := by omega
      have HJ := Lib.hid hj
      clear hj
      cases hst : isSg c with
      | true =>
        have hx := runL_more isSg _ n c hn hget hst
        have HS := Lib.hid (And.intro hx hst)
        clear hx hst hget hn hle
        go_wp2_with fail
        refine (osign_any c _ HG.out).mono ?_
        rintro e w ⟨rfl, rfl⟩
        rw [HS.out.2]
        clear hjw f1
        have hwi := w64o n (le_oo n s.size (Nat.le_of_lt hns) hs)
        go_wp2
        go_roundw
        case rel => (try rw [hwi]); clear hwi; exact ⟨n + 1, by go_num, HS.out.1, by first | rfl | trivial⟩
        case measure => (try rw [hwi]); clear hwi; simp [intOf]; omega
      | false =>
        have hx := runL_stop isSg _ n c hn hget hst
        have HS := Lib.hid (And.intro hx hst)
        clear hx hst hget hn hle
        go_wp2_with fail
        refine (osign_any c _ HG.out).mono ?_
        rintro e w ⟨rfl, rfl⟩
        rw [HS.out.2]
        go_wp2
        go_ret
        refine ⟨?_, rfl⟩
        rw [← HS.out.1]; rfl
    · obtain rfl : j = s.size := by omega
      have hx := runL_end isSg _ n hn (drop_len s a n (by omega))
      have HX := Lib.hid hx
      clear hx hn hle hj
      go_wp2
      go_ret
      refine ⟨?_, rfl⟩
      rw [← HX.out]; rfl
end Go.Proofs.YtdlpbpikhmciaaaGreatDoor
