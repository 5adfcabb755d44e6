/- Oct3, Oct4: texts of the seat, one behind the other (a claim holds at most sixty). Conditions: each theorem names its own. -/
import Derived.Test.YtpdbejeiceodkaaGreatDoorPk03
namespace Go.Proofs.YtpdbejeiceodkaaGreatDoor
open Go.RowKit
set_option linter.unusedSimpArgs false
set_option linter.unusedVariables false
set_option maxRecDepth 1000000
theorem w64o (i : Nat) (h : i ≤ 2199023255552) : wrap64 ((i : Int) + 1) = (i : Int) + 1 := by unfold wrap64; omega
theorem le_oo (i s : Nat) (h : i ≤ s) (hs : s ≤ 1099511627776) : i ≤ 2199023255552 := by omega
theorem all_full (p : UInt8 → Bool) (s : ByteArray) (h : (s.data.toList.take s.size).all p = true) : s.data.toList.all p = true := by
  rwa [List.take_of_length_le (by rw [size_list]; exact Nat.le_refl _)] at h
theorem isTok_bad (l : List UInt8) (k : Nat) (c : UInt8) (h : l[k]? = some c) (hp : isSg c = false) : isTok l = false := by
  unfold isTok; rw [all_not isSg l k c h hp, Bool.and_false]
theorem isTok_all (l : List UInt8) (h : l.all isSg = true) : isTok l = !l.isEmpty := by
  unfold isTok; rw [h, Bool.and_true]
set_option maxHeartbeats 2000000 in
theorem otoken_any (s : ByteArray) (w : World) (hs : s.size ≤ 1099511627776) (hg : SgAt w) :
    Calls Tryz.prog 100 #[.string s] w fun e w' => e = .returned (.bool (isTok s.data.toList)) ∧ w' = w := by
  have HG := Lib.hid hg; clear hg
  go_enter Tryz.func100, Tryz.ntmps100
  go_wp2
  go_loopw [6] (fun iv wr => ∃ i : Nat, iv = .int .i64 i ∧ i ≤ s.size ∧ (s.data.toList.take i).all isSg = true ∧ wr = w) (fun iv _ => s.size - (intOf iv).toNat)
  case atStart => exact ⟨0, rfl, Nat.zero_le _, rfl, rfl⟩
  case round =>
    obtain ⟨i, rfl, hi, hall, rfl⟩ := hrel
    by_cases hlt : i < s.size
    · obtain ⟨c, hc⟩ : ∃ c, s[i]'hlt = c := ⟨_, rfl⟩
      have hget := list_get s i hlt
      rw [hc] at hget
      have k0 : (0 : Int) ≤ (i : Int) := Int.natCast_nonneg _
      have k1 : (i : Int) < (s.size : Int) := by omega
      have HA := Lib.hid (And.intro hall hget)
      clear hall hget
      cases hst : isSg c with
      | true =>
        have hx := all_take isSg _ i c HA.out.2 HA.out.1 hst
        have HS := Lib.hid (And.intro hx hst)
        clear hx hst
        go_wp2_with fail
        refine (osign_any c _ HG.out).mono ?_
        rintro e w ⟨rfl, rfl⟩
        rw [HS.out.2]
        have hwi := w64o i (le_oo i s.size hi hs)
        go_wp2
        go_roundw
        case rel => (try rw [hwi]); clear hwi; exact ⟨i + 1, by go_num, by omega, HS.out.1, by first | rfl | trivial⟩
        case measure => (try rw [hwi]); clear hwi; simp [intOf]; omega
      | false =>
        have hx := isTok_bad _ i c HA.out.2 hst
        have HS := Lib.hid (And.intro hx hst)
        clear hx hst
        go_wp2_with fail
        refine (osign_any c _ HG.out).mono ?_
        rintro e w ⟨rfl, rfl⟩
        rw [HS.out.2]
        go_wp2
        go_ret
        exact ⟨ret_boolO HS.out.1.symm, rfl⟩
    · obtain rfl : i = s.size := by omega
      have hx := isTok_all _ (all_full isSg s hall)
      have HX := Lib.hid hx; clear hx hall
      go_wp2
      go_ret
      refine ⟨ret_boolO ?_, rfl⟩
      rw [HX.out, ← ByteArray.toList_eq]
set_option maxHeartbeats 2000000 in
theorem oisfield_any (s : ByteArray) (w : World) (hs : s.size ≤ 1099511627776) :
    Calls Tryz.prog 181 #[.string s] w fun e w' => e = .returned (.bool (isFld s.data.toList)) ∧ w' = w := by
  go_enter Tryz.func181, Tryz.ntmps181
  go_wp2
  go_loopw [6] (fun iv wr => ∃ i : Nat, iv = .int .i64 i ∧ i ≤ s.size ∧ (s.data.toList.take i).all isFb = true ∧ wr = w) (fun iv _ => s.size - (intOf iv).toNat)
  case atStart => exact ⟨0, rfl, Nat.zero_le _, rfl, rfl⟩
  case round =>
    obtain ⟨i, rfl, hi, hall, rfl⟩ := hrel
    by_cases hlt : i < s.size
    · obtain ⟨c, hc⟩ : ∃ c, s[i]'hlt = c := ⟨_, rfl⟩
      have hget := list_get s i hlt
      rw [hc] at hget
      have k0 : (0 : Int) ≤ (i : Int) := Int.natCast_nonneg _
      have k1 : (i : Int) < (s.size : Int) := by omega
      have HA := Lib.hid (And.intro hall hget)
      clear hall hget
      cases hst : isFb c with
      | true =>
        have hx := all_take isFb _ i c HA.out.2 HA.out.1 hst
        have HS := Lib.hid (And.intro hx hst)
        clear hx hst
        go_wp2_with fail
        refine (ofield_any c _).mono ?_
        rintro e w ⟨rfl, rfl⟩
        rw [HS.out.2]
        have hwi := w64o i (le_oo i s.size hi hs)
        go_wp2
        go_roundw
        case rel => (try rw [hwi]); clear hwi; exact ⟨i + 1, by go_num, by omega, HS.out.1, by first | rfl | trivial⟩
        case measure => (try rw [hwi]); clear hwi; simp [intOf]; omega
      | false =>
        have hx : isFld s.data.toList = false := all_not isFb _ i c HA.out.2 hst
        have HS := Lib.hid (And.intro hx hst)
        clear hx hst
        go_wp2_with fail
        refine (ofield_any c _).mono ?_
        rintro e w ⟨rfl, rfl⟩
        rw [HS.out.2]
        go_wp2
        go_ret
        exact ⟨ret_boolO HS.out.1.symm, rfl⟩
    · obtain rfl : i = s.size := by omega
      have hx : isFld s.data.toList = true := all_full isFb s hall
      have HX := Lib.hid hx; clear hx hall
      go_wp2
      go_ret
      exact ⟨ret_boolO HX.out.symm, rfl⟩
end Go.Proofs.YtpdbejeiceodkaaGreatDoor
namespace Go.Proofs.YtpdbejeiceodkaaGreatDoor
open Go.RowKit
set_option linter.unusedSimpArgs false
set_option linter.unusedVariables false
set_option maxRecDepth 1000000
theorem w64j (j : Nat) (h : j ≤ 2199023255552) : wrap64 (j : Int) = (j : Int) := by unfold wrap64; omega
theorem drop_at (s : ByteArray) (a n j : Nat) (hj : a + n = j) (h : j < s.size) : (s.data.toList.drop a)[n]? = some (s[j]'h) := by
  subst hj; rw [List.getElem?_drop]; exact list_get s _ h
theorem drop_len (s : ByteArray) (a n : Nat) (h : s.size ≤ a + n) : (s.data.toList.drop a).length ≤ n := by rw [List.length_drop, size_list]; omega
theorem runL_at (p : UInt8 → Bool) (s : ByteArray) (a : Nat) : runL p (s.data.toList.drop a) ≤ s.size - a := by
  have := runL_le p (s.data.toList.drop a); rw [List.length_drop, size_list] at this; exact this
set_option maxHeartbeats 2000000 in
theorem orunb_any (s : ByteArray) (a : Nat) (w : World) (hs : s.size ≤ 1099511627776) (ha : a ≤ s.size) :
    Calls Tryz.prog 159 #[.string s, .int .i64 (a : Int), .func (Fn.func 160) #[] #[]] w fun e w' => e = .returned (.int .i64 (runL isBl (s.data.toList.drop a) : Nat)) ∧ w' = w := by
  go_enter Tryz.func159, Tryz.ntmps159
  go_wp2
  go_loopw [7] (fun nv wr => ∃ n : Nat, nv = .int .i64 n ∧ n ≤ runL isBl (s.data.toList.drop a) ∧ wr = w) (fun nv _ => s.size - (intOf nv).toNat)
  case atStart => exact ⟨0, rfl, Nat.zero_le _, rfl⟩
  case round =>
    obtain ⟨n, rfl, hn, rfl⟩ := hrel
    have hle := runL_at isBl s a
    obtain ⟨j, hj⟩ : ∃ j, a + n = j := ⟨_, rfl⟩
    have f1 : (a : Int) + (n : Int) = (j : Int) := by omega
    have hjs : j ≤ s.size := by omega
    have hjw := w64j j (le_oo j s.size hjs hs)
    by_cases hlt : j < s.size
    · obtain ⟨c, hc⟩ : ∃ c, s[j]'hlt = c := ⟨_, rfl⟩
      have hget := drop_at s a n j hj hlt
      rw [hc] at hget
      have k0 : (0 : Int) ≤ (j : Int) := Int.natCast_nonneg _
      have k1 : (j : Int) < (s.size : Int) := by omega
      have hns : n < s.size := by omega
      have HJ := Lib.hid hj
      clear hj
      cases hst : isBl c with
      | true =>
        have hx := runL_more isBl _ n c hn hget hst
        have HS := Lib.hid (And.intro hx hst)
        clear hx hst hget hn hle
        go_wp2_with fail
        refine (oblank_any c _).mono ?_
        rintro e w ⟨rfl, rfl⟩
        rw [HS.out.2]
        clear hjw f1
        have hwi := w64o n (le_oo n s.size (Nat.le_of_lt hns) hs)
        go_wp2
        go_roundw
        case rel => (try rw [hwi]); clear hwi; exact ⟨n + 1, by go_num, HS.out.1, by first | rfl | trivial⟩
        case measure => (try rw [hwi]); clear hwi; simp [intOf]; omega
      | false =>
        have hx := runL_stop isBl _ n c hn hget hst
        have HS := Lib.hid (And.intro hx hst)
        clear hx hst hget hn hle
        go_wp2_with fail
        refine (oblank_any c _).mono ?_
        rintro e w ⟨rfl, rfl⟩
        rw [HS.out.2]
        go_wp2
        go_ret
        refine ⟨?_, rfl⟩
        rw [← HS.out.1]; rfl
    · obtain rfl : j = s.size := by omega
      have hx := runL_end isBl _ n hn (drop_len s a n (by omega))
      have HX := Lib.hid hx
      clear hx hn hle hj
      go_wp2
      go_ret
      refine ⟨?_, rfl⟩
      rw [← HX.out]; rfl
set_option maxHeartbeats 2000000 in
theorem oruns_any (s : ByteArray) (a : Nat) (w : World) (hs : s.size ≤ 1099511627776) (ha : a ≤ s.size) (hg : SgAt w) :
    Calls Tryz.prog 159 #[.string s, .int .i64 (a : Int), .func (Fn.func 148) #[] #[]] w fun e w' => e = .returned (.int .i64 (runL isSg (s.data.toList.drop a) : Nat)) ∧ w' = w := by
  have HG := Lib.hid hg; clear hg
  go_enter Tryz.func159, Tryz.ntmps159
  go_wp2
  go_loopw [7] (fun nv wr => ∃ n : Nat, nv = .int .i64 n ∧ n ≤ runL isSg (s.data.toList.drop a) ∧ wr = w) (fun nv _ => s.size - (intOf nv).toNat)
  case atStart => exact ⟨0, rfl, Nat.zero_le _, rfl⟩
  case round =>
    obtain ⟨n, rfl, hn, rfl⟩ := hrel
    have hle := runL_at isSg s a
    obtain ⟨j, hj⟩ : ∃ j, a + n = j := ⟨_, rfl⟩
    have f1 : (a : Int) + (n : Int) = (j : Int) := by omega
    have hjs : j ≤ s.size := by omega
    have hjw := w64j j (le_oo j s.size hjs hs)
    by_cases hlt : j < s.size
    · obtain ⟨c, hc⟩ : ∃ c, s[j]'hlt = c := ⟨_, rfl⟩
      have hget := drop_at s a n j hj hlt
      rw [hc] at hget
      have k0 : (0 : Int) ≤ (j : Int) := Int.natCast_nonneg _
      have k1 : (j : Int) < (s.size : Int) := by omega
      have hns : n < s.size := by omega
      have HJ := Lib.hid hj
      clear hj
      cases hst : isSg c with
      | true =>
        have hx := runL_more isSg _ n c hn hget hst
        have HS := Lib.hid (And.intro hx hst)
        clear hx hst hget hn hle
        go_wp2_with fail
        refine (osign_any c _ HG.out).mono ?_
        rintro e w ⟨rfl, rfl⟩
        rw [HS.out.2]
        clear hjw f1
        have hwi := w64o n (le_oo n s.size (Nat.le_of_lt hns) hs)
        go_wp2
        go_roundw
        case rel => (try rw [hwi]); clear hwi; exact ⟨n + 1, by go_num, HS.out.1, by first | rfl | trivial⟩
        case measure => (try rw [hwi]); clear hwi; simp [intOf]; omega
      | false =>
        have hx := runL_stop isSg _ n c hn hget hst
        have HS := Lib.hid (And.intro hx hst)
        clear hx hst hget hn hle
        go_wp2_with fail
        refine (osign_any c _ HG.out).mono ?_
        rintro e w ⟨rfl, rfl⟩
        rw [HS.out.2]
        go_wp2
        go_ret
        refine ⟨?_, rfl⟩
        rw [← HS.out.1]; rfl
    · obtain rfl : j = s.size := by omega
      have hx := runL_end isSg _ n hn (drop_len s a n (by omega))
      have HX := Lib.hid hx
      clear hx hn hle hj
      go_wp2
      go_ret
      refine ⟨?_, rfl⟩
      rw [← HX.out]; rfl
set_option maxHeartbeats 2000000 in
theorem rblanks_any (s : ByteArray) (a : Nat) (w : World) (hs : s.size ≤ 1099511627776) (ha : a ≤ s.size) :
    Calls Tryz.prog 135 #[.string s, .int .i64 (a : Int)] w fun e w' => e = .returned (.int .i64 (runL isBl (s.data.toList.drop a) : Nat)) ∧ w' = w := by
  go_enter Tryz.func135, Tryz.ntmps135
  go_wp2
  go_loopw [5] (fun nv wr => ∃ n : Nat, nv = .int .i64 n ∧ n ≤ runL isBl (s.data.toList.drop a) ∧ wr = w) (fun nv _ => s.size - (intOf nv).toNat)
  case atStart => exact ⟨0, rfl, Nat.zero_le _, rfl⟩
  case round =>
    obtain ⟨n, rfl, hn, rfl⟩ := hrel
    have hle := runL_at isBl s a
    obtain ⟨j, hj⟩ : ∃ j, a + n = j := ⟨_, rfl⟩
    have f1 : (a : Int) + (n : Int) = (j : Int) := by omega
    have hjs : j ≤ s.size := by omega
    have hjw := w64j j (le_oo j s.size hjs hs)
    by_cases hlt : j < s.size
    · obtain ⟨c, hc⟩ : ∃ c, s[j]'hlt = c := ⟨_, rfl⟩
      have hget := drop_at s a n j hj hlt
      rw [hc] at hget
      have k0 : (0 : Int) ≤ (j : Int) := Int.natCast_nonneg _
      have k1 : (j : Int) < (s.size : Int) := by omega
      have hns : n < s.size := by omega
      have HJ := Lib.hid hj
      clear hj
      cases hst : isBl c with
      | true =>
        have hx := runL_more isBl _ n c hn hget hst
        have HS := Lib.hid (And.intro hx hst)
        clear hx hst hget hn hle
        go_wp2_with fail
        refine (rblank_any c _).mono ?_
        rintro e w ⟨rfl, rfl⟩
        rw [HS.out.2]
        clear hjw f1
        have hwi := w64o n (le_oo n s.size (Nat.le_of_lt hns) hs)
        go_wp2
        go_roundw
        case rel => (try rw [hwi]); clear hwi; exact ⟨n + 1, by go_num, HS.out.1, by first | rfl | trivial⟩
        case measure => (try rw [hwi]); clear hwi; simp [intOf]; omega
      | false =>
        have hx := runL_stop isBl _ n c hn hget hst
        have HS := Lib.hid (And.intro hx hst)
        clear hx hst hget hn hle
        go_wp2_with fail
        refine (rblank_any c _).mono ?_
        rintro e w ⟨rfl, rfl⟩
        rw [HS.out.2]
        go_wp2
        go_ret
        refine ⟨?_, rfl⟩
        rw [← HS.out.1]; rfl
    · obtain rfl : j = s.size := by omega
      have hx := runL_end isBl _ n hn (drop_len s a n (by omega))
      have HX := Lib.hid hx
      clear hx hn hle hj
      go_wp2
      go_ret
      refine ⟨?_, rfl⟩
      rw [← HX.out]; rfl
set_option maxHeartbeats 2000000 in
theorem rsigns_any (s : ByteArray) (a : Nat) (w : World) (hs : s.size ≤ 1099511627776) (ha : a ≤ s.size) :
    Calls Tryz.prog 136 #[.string s, .int .i64 (a : Int)] w fun e w' => e = .returned (.int .i64 (runL isSg (s.data.toList.drop a) : Nat)) ∧ w' = w := by
  go_enter Tryz.func136, Tryz.ntmps136
  go_wp2
  go_loopw [5] (fun nv wr => ∃ n : Nat, nv = .int .i64 n ∧ n ≤ runL isSg (s.data.toList.drop a) ∧ wr = w) (fun nv _ => s.size - (intOf nv).toNat)
  case atStart => exact ⟨0, rfl, Nat.zero_le _, rfl⟩
  case round =>
    obtain ⟨n, rfl, hn, rfl⟩ := hrel
    have hle := runL_at isSg s a
    obtain ⟨j, hj⟩ : ∃ j, a + n = j := ⟨_, rfl⟩
    have f1 : (a : Int) + (n : Int) = (j : Int) := by omega
    have hjs : j ≤ s.size := by omega
    have hjw := w64j j (le_oo j s.size hjs hs)
    by_cases hlt : j < s.size
    · obtain ⟨c, hc⟩ : ∃ c, s[j]'hlt = c := ⟨_, rfl⟩
      have hget := drop_at s a n j hj hlt
      rw [hc] at hget
      have k0 : (0 : Int) ≤ (j : Int) := Int.natCast_nonneg _
      have k1 : (j : Int) < (s.size : Int) := by omega
      have hns : n < s.size := by omega
      have HJ := Lib.hid hj
      clear hj
      cases hst : isSg c with
      | true =>
        have hx := runL_more isSg _ n c hn hget hst
        have HS := Lib.hid (And.intro hx hst)
        clear hx hst hget hn hle
        go_wp2_with fail
        refine (rsign_any c _).mono ?_
        rintro e w ⟨rfl, rfl⟩
        rw [HS.out.2]
        clear hjw f1
        have hwi := w64o n (le_oo n s.size (Nat.le_of_lt hns) hs)
        go_wp2
        go_roundw
        case rel => (try rw [hwi]); clear hwi; exact ⟨n + 1, by go_num, HS.out.1, by first | rfl | trivial⟩
        case measure => (try rw [hwi]); clear hwi; simp [intOf]; omega
      | false =>
        have hx := runL_stop isSg _ n c hn hget hst
        have HS := Lib.hid (And.intro hx hst)
        clear hx hst hget hn hle
        go_wp2_with fail
        refine (rsign_any c _).mono ?_
        rintro e w ⟨rfl, rfl⟩
        rw [HS.out.2]
        go_wp2
        go_ret
        refine ⟨?_, rfl⟩
        rw [← HS.out.1]; rfl
    · obtain rfl : j = s.size := by omega
      have hx := runL_end isSg _ n hn (drop_len s a n (by omega))
      have HX := Lib.hid hx
      clear hx hn hle hj
      go_wp2
      go_ret
      refine ⟨?_, rfl⟩
      rw [← HX.out]; rfl
end Go.Proofs.YtpdbejeiceodkaaGreatDoor
