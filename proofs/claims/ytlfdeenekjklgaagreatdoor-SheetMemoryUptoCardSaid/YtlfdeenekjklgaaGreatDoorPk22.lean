/- PctR, SplP: texts of the seat, one behind the other (a claim holds at most sixty). Conditions: each theorem names its own. -/
import Derived.Test.YtlfdeenekjklgaaGreatDoorPa21
import Derived.Test.YtlfdeenekjklgaaGreatDoorPk20
import Derived.Lib.Replace
import Derived.Lib.ReplaceLaws
import Derived.Lib.Split
import Derived.Lib.CutLaws
import Derived.Lib.IndexBytes
namespace Go.Proofs.YtlfdeenekjklgaaGreatDoor
open Go.RowKit
set_option linter.unusedSimpArgs false
set_option linter.unusedVariables false
set_option maxRecDepth 1000000
def isDg (n : Nat) : Bool := decide (48 ≤ n ∧ n ≤ 57)
theorem ret_bool {a b : Bool} (h : a = b) : Ending.returned (.bool a) = .returned (.bool b) := by rw [h]
set_option maxHeartbeats 1000000 in
theorem isDigit_any (n : Nat) (w : World) : Calls Tryz.prog 67 #[.int .u8 (n : Int)] w fun e w' => e = .returned (.bool (isDg n)) ∧ w' = w := by
  by_cases h1 : 48 ≤ n
  · by_cases h2 : n ≤ 57
    · have he : isDg n = true := by simp [isDg, h1, h2]
      have i1 : (48 : Int) ≤ (n : Int) := by omega
      have i2 : (n : Int) ≤ 57 := by omega
      have HE := Lib.hid he; clear he
      go_enter Tryz.func67, Tryz.ntmps67
      go_wp2
      go_ret
      exact ⟨ret_bool HE.out.symm, rfl⟩
    · have he : isDg n = false := by simp [isDg]; omega
      have i1 : (48 : Int) ≤ (n : Int) := by omega
      have i2 : decide ((n : Int) ≤ 57) = false := decide_eq_false (by omega)
      have HE := Lib.hid he; clear he
      go_enter Tryz.func67, Tryz.ntmps67
      go_wp2
      go_ret
      exact ⟨by rw [HE.out]; exact ret_bool (by simp), rfl⟩
  · have he : isDg n = false := by simp [isDg]; omega
    have i1 : decide ((48 : Int) ≤ (n : Int)) = false := decide_eq_false (by omega)
    have HE := Lib.hid he; clear he
    go_enter Tryz.func67, Tryz.ntmps67
    go_wp2
    go_ret
    exact ⟨by rw [HE.out]; rfl, rfl⟩
theorem hv_some_iff (c : UInt8) (n : Nat) (h : c.toNat = n) : (hv c).isSome = decide ((48 ≤ n ∧ n ≤ 57) ∨ (65 ≤ n ∧ n ≤ 70) ∨ (97 ≤ n ∧ n ≤ 102)) := by
  subst h
  unfold hv
  by_cases h1 : 48 ≤ c.toNat ∧ c.toNat ≤ 57
  · rw [if_pos h1]; simp [h1]
  · rw [if_neg h1]
    by_cases h2 : 97 ≤ c.toNat ∧ c.toNat ≤ 102
    · rw [if_pos h2]; simp [h2]
    · rw [if_neg h2]
      by_cases h3 : 65 ≤ c.toNat ∧ c.toNat ≤ 70
      · rw [if_pos h3]; simp [h3]
      · rw [if_neg h3]; symm; simp only [Option.isSome_none, decide_eq_false_iff_not]; omega
set_option maxHeartbeats 1000000 in
theorem isHex_any (c : UInt8) (w : World) : Calls Tryz.prog 108 #[.int .u8 (c.toNat : Int)] w fun e w' => e = .returned (.bool (hv c).isSome) ∧ w' = w := by
  obtain ⟨n, hn⟩ : ∃ n, c.toNat = n := ⟨_, rfl⟩
  have he := hv_some_iff c n hn
  rw [hn, he]
  clear he hn
  have tail : ∀ b : Bool, isDg n = b → (b = true ∨ (65 ≤ n ∧ n ≤ 70) ∨ n < 65 ∨ (70 < n ∧ n < 97) ∨ (97 ≤ n ∧ n ≤ 102) ∨ 102 < n) := by intro b _; omega
  obtain ⟨b, hb⟩ : ∃ b, isDg n = b := ⟨_, rfl⟩
  have hd : b = decide (48 ≤ n ∧ n ≤ 57) := by rw [← hb]; rfl
  have hc := tail b hb
  clear tail
  rcases hc with rfl | hc | hc | hc | hc | hc
  · have hr : decide ((48 ≤ n ∧ n ≤ 57) ∨ (65 ≤ n ∧ n ≤ 70) ∨ (97 ≤ n ∧ n ≤ 102)) = true := by simp at hd; simp; omega
    have HR := Lib.hid hr; clear hr hd
    go_enter Tryz.func108, Tryz.ntmps108
    go_wp2_with fail
    refine (isDigit_any n _).mono ?_
    rintro e w' ⟨rfl, rfl⟩
    rw [hb]
    go_wp2
    go_ret
    exact ⟨ret_bool HR.out.symm, rfl⟩
  · cases b with
    | true =>
      have hr : decide ((48 ≤ n ∧ n ≤ 57) ∨ (65 ≤ n ∧ n ≤ 70) ∨ (97 ≤ n ∧ n ≤ 102)) = true := by simp at hd; simp; omega
      have HR := Lib.hid hr; clear hr hd
      go_enter Tryz.func108, Tryz.ntmps108
      go_wp2_with fail
      refine (isDigit_any n _).mono ?_
      rintro e w' ⟨rfl, rfl⟩
      rw [hb]
      go_wp2
      go_ret
      exact ⟨ret_bool HR.out.symm, rfl⟩
    | false =>
      have hr : decide ((48 ≤ n ∧ n ≤ 57) ∨ (65 ≤ n ∧ n ≤ 70) ∨ (97 ≤ n ∧ n ≤ 102)) = true := by simp at hd; simp; omega
      have HR := Lib.hid hr; clear hr hd
      have i0 : (65 : Int) ≤ (n : Int) := by omega
      have i1 : (n : Int) ≤ 70 := by omega
      go_enter Tryz.func108, Tryz.ntmps108
      go_wp2_with fail
      refine (isDigit_any n _).mono ?_
      rintro e w' ⟨rfl, rfl⟩
      rw [hb]
      go_wp2
      go_ret
      refine ⟨?_, rfl⟩
      rw [HR.out]
      refine ret_bool ?_
      simp <;> omega
  · cases b with
    | true =>
      have hr : decide ((48 ≤ n ∧ n ≤ 57) ∨ (65 ≤ n ∧ n ≤ 70) ∨ (97 ≤ n ∧ n ≤ 102)) = true := by simp at hd; simp; omega
      have HR := Lib.hid hr; clear hr hd
      go_enter Tryz.func108, Tryz.ntmps108
      go_wp2_with fail
      refine (isDigit_any n _).mono ?_
      rintro e w' ⟨rfl, rfl⟩
      rw [hb]
      go_wp2
      go_ret
      exact ⟨ret_bool HR.out.symm, rfl⟩
    | false =>
      have hr : decide ((48 ≤ n ∧ n ≤ 57) ∨ (65 ≤ n ∧ n ≤ 70) ∨ (97 ≤ n ∧ n ≤ 102)) = false := by simp at hd; simp; omega
      have HR := Lib.hid hr; clear hr hd
      have i0 : decide ((65 : Int) ≤ (n : Int)) = false := decide_eq_false (by omega)
      have i1 : decide ((97 : Int) ≤ (n : Int)) = false := decide_eq_false (by omega)
      go_enter Tryz.func108, Tryz.ntmps108
      go_wp2_with fail
      refine (isDigit_any n _).mono ?_
      rintro e w' ⟨rfl, rfl⟩
      rw [hb]
      go_wp2
      go_ret
      refine ⟨?_, rfl⟩
      rw [HR.out]
      refine ret_bool ?_
      simp <;> omega
  · cases b with
    | true =>
      have hr : decide ((48 ≤ n ∧ n ≤ 57) ∨ (65 ≤ n ∧ n ≤ 70) ∨ (97 ≤ n ∧ n ≤ 102)) = true := by simp at hd; simp; omega
      have HR := Lib.hid hr; clear hr hd
      go_enter Tryz.func108, Tryz.ntmps108
      go_wp2_with fail
      refine (isDigit_any n _).mono ?_
      rintro e w' ⟨rfl, rfl⟩
      rw [hb]
      go_wp2
      go_ret
      exact ⟨ret_bool HR.out.symm, rfl⟩
    | false =>
      have hr : decide ((48 ≤ n ∧ n ≤ 57) ∨ (65 ≤ n ∧ n ≤ 70) ∨ (97 ≤ n ∧ n ≤ 102)) = false := by simp at hd; simp; omega
      have HR := Lib.hid hr; clear hr hd
      have i0 : (65 : Int) ≤ (n : Int) := by omega
      have i1 : decide ((n : Int) ≤ 70) = false := decide_eq_false (by omega)
      have i2 : decide ((97 : Int) ≤ (n : Int)) = false := decide_eq_false (by omega)
      go_enter Tryz.func108, Tryz.ntmps108
      go_wp2_with fail
      refine (isDigit_any n _).mono ?_
      rintro e w' ⟨rfl, rfl⟩
      rw [hb]
      go_wp2
      go_ret
      refine ⟨?_, rfl⟩
      rw [HR.out]
      refine ret_bool ?_
      simp <;> omega
  · cases b with
    | true =>
      have hr : decide ((48 ≤ n ∧ n ≤ 57) ∨ (65 ≤ n ∧ n ≤ 70) ∨ (97 ≤ n ∧ n ≤ 102)) = true := by simp at hd; simp; omega
      have HR := Lib.hid hr; clear hr hd
      go_enter Tryz.func108, Tryz.ntmps108
      go_wp2_with fail
      refine (isDigit_any n _).mono ?_
      rintro e w' ⟨rfl, rfl⟩
      rw [hb]
      go_wp2
      go_ret
      exact ⟨ret_bool HR.out.symm, rfl⟩
    | false =>
      have hr : decide ((48 ≤ n ∧ n ≤ 57) ∨ (65 ≤ n ∧ n ≤ 70) ∨ (97 ≤ n ∧ n ≤ 102)) = true := by simp at hd; simp; omega
      have HR := Lib.hid hr; clear hr hd
      have i0 : (65 : Int) ≤ (n : Int) := by omega
      have i1 : decide ((n : Int) ≤ 70) = false := decide_eq_false (by omega)
      have i2 : (97 : Int) ≤ (n : Int) := by omega
      have i3 : (n : Int) ≤ 102 := by omega
      go_enter Tryz.func108, Tryz.ntmps108
      go_wp2_with fail
      refine (isDigit_any n _).mono ?_
      rintro e w' ⟨rfl, rfl⟩
      rw [hb]
      go_wp2
      go_ret
      refine ⟨?_, rfl⟩
      rw [HR.out]
      refine ret_bool ?_
      simp <;> omega
  · cases b with
    | true =>
      have hr : decide ((48 ≤ n ∧ n ≤ 57) ∨ (65 ≤ n ∧ n ≤ 70) ∨ (97 ≤ n ∧ n ≤ 102)) = true := by simp at hd; simp; omega
      have HR := Lib.hid hr; clear hr hd
      go_enter Tryz.func108, Tryz.ntmps108
      go_wp2_with fail
      refine (isDigit_any n _).mono ?_
      rintro e w' ⟨rfl, rfl⟩
      rw [hb]
      go_wp2
      go_ret
      exact ⟨ret_bool HR.out.symm, rfl⟩
    | false =>
      have hr : decide ((48 ≤ n ∧ n ≤ 57) ∨ (65 ≤ n ∧ n ≤ 70) ∨ (97 ≤ n ∧ n ≤ 102)) = false := by simp at hd; simp; omega
      have HR := Lib.hid hr; clear hr hd
      have i0 : (65 : Int) ≤ (n : Int) := by omega
      have i1 : decide ((n : Int) ≤ 70) = false := decide_eq_false (by omega)
      have i2 : (97 : Int) ≤ (n : Int) := by omega
      have i3 : decide ((n : Int) ≤ 102) = false := decide_eq_false (by omega)
      go_enter Tryz.func108, Tryz.ntmps108
      go_wp2_with fail
      refine (isDigit_any n _).mono ?_
      rintro e w' ⟨rfl, rfl⟩
      rw [hb]
      go_wp2
      go_ret
      refine ⟨?_, rfl⟩
      rw [HR.out]
      refine ret_bool ?_
      simp <;> omega
theorem hv_cases (c : UInt8) (n x : Nat) (hn : c.toNat = n) (h : hv c = some x) : (48 ≤ n ∧ n ≤ 57 ∧ x = n - 48) ∨ (97 ≤ n ∧ n ≤ 102 ∧ x = n - 87) ∨ (65 ≤ n ∧ n ≤ 70 ∧ x = n - 55) := by
  subst hn
  unfold hv at h
  split at h
  · injection h; omega
  · split at h
    · injection h; omega
    · split at h
      · injection h; omega
      · cases h
set_option maxHeartbeats 1000000 in
theorem value_any (c : UInt8) (x : Nat) (w : World) (h : hv c = some x) : Calls Tryz.prog 140 #[.int .u8 (c.toNat : Int)] w fun e w' => e = .returned (.int .i64 (x : Int)) ∧ w' = w := by
  obtain ⟨n, hn⟩ : ∃ n, c.toNat = n := ⟨_, rfl⟩
  have hc := hv_cases c n x hn h
  rw [hn]
  clear hn h
  rcases hc with ⟨h1, h2, rfl⟩ | ⟨h1, h2, rfl⟩ | ⟨h1, h2, rfl⟩
  · have hb : isDg n = true := by simp [isDg, h1, h2]
    go_enter Tryz.func140, Tryz.ntmps140
    go_wp2_with fail
    refine (isDigit_any n _).mono ?_
    rintro e w' ⟨rfl, rfl⟩
    rw [hb]
    go_wp2
    go_ret
    exact ⟨ret_int (by omega), rfl⟩
  · have hb : isDg n = false := by simp [isDg]; omega
    have i1 : (97 : Int) ≤ (n : Int) := by omega
    go_enter Tryz.func140, Tryz.ntmps140
    go_wp2_with fail
    refine (isDigit_any n _).mono ?_
    rintro e w' ⟨rfl, rfl⟩
    rw [hb]
    go_wp2
    go_ret
    exact ⟨ret_int (by omega), rfl⟩
  · have hb : isDg n = false := by simp [isDg]; omega
    have i1 : decide ((97 : Int) ≤ (n : Int)) = false := decide_eq_false (by omega)
    go_enter Tryz.func140, Tryz.ntmps140
    go_wp2_with fail
    refine (isDigit_any n _).mono ?_
    rintro e w' ⟨rfl, rfl⟩
    rw [hb]
    go_wp2
    go_ret
    exact ⟨ret_int (by omega), rfl⟩
/-- Two digits to the base 16. -/
def numAt (x y : Nat) (k : Nat) : Nat := if k = 0 then 0 else if k = 1 then x else x * 16 + y
set_option maxHeartbeats 4000000 in
theorem number_any (t : ByteArray) (a b : UInt8) (x y : Nat) (w : World) (ht : t.data.toList = [a, b]) (ha : hv a = some x) (hb : hv b = some y) :
    Calls Tryz.prog 128 #[.string t, .int .i64 16, .int .i64 255] w fun e w' => e = .returned (.tuple #[.int .i64 ((x * 16 + y : Nat) : Int), .int .i64 0]) ∧ w' = w := by
  have hsz : t.size = 2 := by rw [← size_list, ht]; rfl
  have l0 : (0 : Nat) < t.size := by omega
  have l1 : (1 : Nat) < t.size := by omega
  have g0 : t[0]'l0 = a := by have := list_get t 0 l0; rw [ht] at this; simpa using this.symm
  have g1 : t[1]'l1 = b := by have := list_get t 1 l1; rw [ht] at this; simpa using this.symm
  have hx := hv_lt a x ha
  have hy := hv_lt b y hb
  have hne : t.toList.isEmpty = false := by rw [ByteArray.toList_eq, ht]; rfl
  have hi0 : (hv a).isSome = true := by rw [ha]; rfl
  have hi1 : (hv b).isSome = true := by rw [hb]; rfl
  go_enter Tryz.func128, Tryz.ntmps128
  go_wp2
  go_loopw [8] (fun iv wr => ∃ i : Nat, iv = .int .i64 i ∧ i ≤ 2 ∧ wr = w) (fun i _ => 2 - (intOf i).toNat)
  case atStart => exact ⟨0, rfl, by omega, rfl⟩
  case round =>
    obtain ⟨i, rfl, hi, rfl⟩ := hrel
    have h3 : i = 0 ∨ i = 1 ∨ i = 2 := by omega
    rcases h3 with rfl | rfl | rfl
    · rw [show ((0 : Nat) : Int) = 0 from rfl]
      go_wp2_with fail
      refine (isHex_any a _).mono ?_
      rintro e w' ⟨rfl, rfl⟩
      rw [hi0]
      go_wp2
      go_roundw
      case rel => exact ⟨1, rfl, by omega, by first | trivial | rfl⟩
      case measure => decide
    · rw [show ((1 : Nat) : Int) = 1 from rfl]
      go_wp2_with fail
      refine (isHex_any b _).mono ?_
      rintro e w' ⟨rfl, rfl⟩
      rw [hi1]
      go_wp2
      go_roundw
      case rel => exact ⟨2, rfl, by omega, by first | trivial | rfl⟩
      case measure => decide
    · rw [show ((2 : Nat) : Int) = 2 from rfl]
      have m0 : ¬ (255 : Int) < (x : Int) := by omega
      have m1 : ¬ (255 : Int) < (y : Int) := by omega
      have q1 : ((255 : Int) - (y : Int)).tdiv 16 = 15 := by rw [Int.tdiv_eq_ediv_of_nonneg (by omega)]; omega
      have q0 : (0 : Int) ≤ ((255 : Int) - (x : Int)).tdiv 16 := by rw [Int.tdiv_eq_ediv_of_nonneg (by omega)]; omega
      have m2 : ¬ (15 : Int) < (x : Int) := by omega
      have m3 : ¬ (255 : Int) < (x : Int) * 16 + (y : Int) := by omega
      go_wp2
      go_loopw [10, 9] (fun iv nv wq => ∃ i : Nat, iv = .int .i64 i ∧ i ≤ 2 ∧ nv = .int .i64 (numAt x y i : Nat) ∧ wq = wr) (fun i _ _ => 2 - (intOf i).toNat)
      case atStart => exact ⟨0, rfl, by omega, rfl, rfl⟩
      case round =>
      obtain ⟨i, rfl, hi, rfl, rfl⟩ := hrel
      have h3 : i = 0 ∨ i = 1 ∨ i = 2 := by omega
      rcases h3 with rfl | rfl | rfl
      · rw [show ((0 : Nat) : Int) = 0 from rfl, show ((numAt x y 0 : Nat) : Int) = 0 from rfl]
        go_wp2_with fail
        refine (value_any a x _ ha).mono ?_
        rintro e w' ⟨rfl, rfl⟩
        go_wp2
        go_roundw
        case rel => exact ⟨1, rfl, by omega, by simp [numAt], by first | trivial | rfl⟩
        case measure => decide
      · rw [show ((1 : Nat) : Int) = 1 from rfl, show ((numAt x y 1 : Nat) : Int) = (x : Int) from rfl]
        go_wp2_with fail
        refine (value_any b y _ hb).mono ?_
        rintro e w' ⟨rfl, rfl⟩
        go_wp2
        go_roundw
        case rel => exact ⟨2, rfl, by omega, by simp [numAt], by first | trivial | rfl⟩
        case measure => decide
      · rw [show ((2 : Nat) : Int) = 2 from rfl, show ((numAt x y 2 : Nat) : Int) = (x : Int) * 16 + (y : Int) from by simp [numAt]]
        go_wp2
        go_ret2
        exact ⟨by simp, rfl⟩
theorem hex2_any (t : ByteArray) (a b : UInt8) (x y : Nat) (w : World) (ht : t.data.toList = [a, b]) (ha : hv a = some x) (hb : hv b = some y) :
    Calls Tryz.prog 109 #[.string t, .int .i64 255] w fun e w' => e = .returned (.tuple #[.int .i64 ((x * 16 + y : Nat) : Int), .int .i64 0]) ∧ w' = w := by
  go_enter Tryz.func109, Tryz.ntmps109
  go_wp2_with fail
  refine (number_any t a b x y _ ht ha hb).mono ?_
  rintro e w' ⟨rfl, rfl⟩
  go_wp2
  go_ret2
  exact ⟨rfl, rfl⟩
theorem trip_at (s : ByteArray) (i n : Nat) (hi : i < s.size) (h : trip (s.data.toList.drop i) = some n) : ∃ (h2 : i + 2 < s.size) (x y : Nat), s[i]'hi = 37 ∧ hv (s[i + 1]'(by omega)) = some x ∧ hv (s[i + 2]'h2) = some y ∧ n = x * 16 + y := by
  by_cases h2 : i + 2 < s.size
  · have hd := drop3 s i h2
    rw [hd] at h
    obtain ⟨a, b, r, x, y, he, ha, hb, hn⟩ := trip_some _ n h
    simp only [List.cons.injEq] at he
    exact ⟨h2, x, y, he.1, by rw [he.2.1]; exact ha, by rw [he.2.2.1]; exact hb, hn⟩
  · rw [trip_short _ (by rw [List.length_drop, size_list]; omega)] at h; cases h
theorem says_any (s : ByteArray) (i n : Nat) (w : World) (hi : i < s.size) (hs : s.size ≤ 140737488351232) (ht : trip (s.data.toList.drop i) = some n) :
    Calls Tryz.prog 72 #[.string s, .int .i64 i] w fun e w' => e = .returned (.int .u8 (n : Int)) ∧ w' = w := by
  obtain ⟨h2, x, y, _, ha, hb, rfl⟩ := trip_at s i n hi ht
  have hx := hv_lt _ x ha
  have hy := hv_lt _ y hb
  obtain ⟨a, ea⟩ : ∃ a, s[i + 1]'(by omega) = a := ⟨_, rfl⟩
  obtain ⟨b, eb⟩ : ∃ b, s[i + 2]'h2 = b := ⟨_, rfl⟩
  rw [ea] at ha
  rw [eb] at hb
  obtain ⟨j1, e1⟩ : ∃ j, i + 1 = j := ⟨_, rfl⟩
  obtain ⟨j3, e3⟩ : ∃ j, i + 3 = j := ⟨_, rfl⟩
  have f1 : (i : Int) + 1 = (j1 : Int) := by omega
  have f3 : (i : Int) + 3 = (j3 : Int) := by omega
  have g1 : IntKind.i64.wrap (j1 : Int) = (j1 : Int) := wrap_47 j1 (by omega)
  have g3 : IntKind.i64.wrap (j3 : Int) = (j3 : Int) := wrap_47b j3 s.size (by omega) hs
  have n1 : (0 : Int) ≤ (j1 : Int) := by omega
  have n3 : (0 : Int) ≤ (j3 : Int) := by omega
  have m1 : (j1 : Int) ≤ (j3 : Int) := by omega
  have m3 : (j3 : Int) ≤ (s.size : Int) := by omega
  obtain ⟨t, ht2⟩ : ∃ t, s.extract j1 j3 = t := ⟨_, rfl⟩
  have htl : t.data.toList = [a, b] := by
    rw [← ht2, ByteArray.data_extract, Array.toList_extract, List.extract_eq_take_drop, ← e1, ← e3, drop_get s (i + 1) (by omega), drop_get s (i + 2) h2, ea, eb]
    rw [show i + 3 - (i + 1) = 2 from by omega]
    rfl
  have hv256 : ((x * 16 + y : Nat) : Int) % 256 = ((x * 16 + y : Nat) : Int) := by omega
  have HT := Lib.hid (And.intro ha (And.intro hb htl))
  have HV := Lib.hid hv256
  clear ht ha hb ea eb e1 e3 htl hv256
  go_enter Tryz.func72, Tryz.ntmps72
  go_wp2_with fail
  refine (hex2_any t a b x y _ HT.out.2.2 HT.out.1 HT.out.2.1).mono ?_
  rintro e w' ⟨rfl, rfl⟩
  obtain ⟨N, hN⟩ : ∃ N, x * 16 + y = N := ⟨_, rfl⟩
  have hv2 := HV.out
  rw [hN] at hv2 ⊢
  go_wp2
  go_ret
  exact ⟨by rw [hN]; rfl, rfl⟩
set_option maxHeartbeats 1000000 in
theorem rtriple_any (s : ByteArray) (i : Nat) (w : World) (hi : i < s.size) (hs : s.size ≤ 140737488351232) :
    Calls Tryz.prog 71 #[.string s, .int .i64 i] w fun e w' => e = .returned (.bool (trip (s.data.toList.drop i)).isSome) ∧ w' = w := by
  obtain ⟨B, hB⟩ : ∃ B, (trip (s.data.toList.drop i)).isSome = B := ⟨_, rfl⟩
  rw [hB]
  obtain ⟨j1, e1⟩ : ∃ j, i + 1 = j := ⟨_, rfl⟩
  obtain ⟨j2, e2⟩ : ∃ j, i + 2 = j := ⟨_, rfl⟩
  have f1 : (i : Int) + 1 = (j1 : Int) := by omega
  have f2 : (i : Int) + 2 = (j2 : Int) := by omega
  have g1 : IntKind.i64.wrap (j1 : Int) = (j1 : Int) := wrap_47 j1 (by omega)
  have g2 : IntKind.i64.wrap (j2 : Int) = (j2 : Int) := wrap_47b j2 s.size (by omega) hs
  have k0 : (0 : Int) ≤ (i : Int) := by omega
  have k1 : (i : Int) < (s.size : Int) := by omega
  have n1 : (0 : Int) ≤ (j1 : Int) := by omega
  have n2 : (0 : Int) ≤ (j2 : Int) := by omega
  by_cases h2 : i + 2 < s.size
  · have m1 : (j1 : Int) < (s.size : Int) := by omega
    have m2 : (j2 : Int) < (s.size : Int) := by omega
    have lj1 : j1 < s.size := by omega
    have lj2 : j2 < s.size := by omega
    obtain ⟨c, hc⟩ : ∃ c, s[i]'hi = c := ⟨_, rfl⟩
    obtain ⟨a, ha⟩ : ∃ a, s[j1]'lj1 = a := ⟨_, rfl⟩
    obtain ⟨b, hb⟩ : ∃ b, s[j2]'lj2 = b := ⟨_, rfl⟩
    have hd := drop3 s i h2
    have ea : s[i + 1]'(by omega) = a := by subst e1; exact ha
    have eb : s[i + 2]'h2 = b := by subst e2; exact hb
    rw [hc, ea, eb] at hd
    rw [hd] at hB
    clear hd ea eb
    by_cases hp : c = 37
    · subst hp
      simp only [trip, if_true] at hB
      cases hx : hv a with
      | none =>
        rw [hx] at hB
        have q1 : (hv a).isSome = false := by rw [hx]; rfl
        have HB := Lib.hid hB; clear hB hx e1 e2 h2
        go_enter Tryz.func71, Tryz.ntmps71
        go_wp2_with fail
        refine (isHex_any a _).mono ?_
        rintro e w' ⟨rfl, rfl⟩
        rw [q1]
        go_wp2
        go_ret
        exact ⟨ret_bool HB.out, rfl⟩
      | some x =>
        have q1 : (hv a).isSome = true := by rw [hx]; rfl
        obtain ⟨B2, q2⟩ : ∃ B2, (hv b).isSome = B2 := ⟨_, rfl⟩
        have hBB : B2 = B := by
          rw [← hB, ← q2, hx]
          cases hy : hv b with
          | none => rfl
          | some y => rfl
        have HB := Lib.hid hBB; clear hB hx e1 e2 h2 hBB
        go_enter Tryz.func71, Tryz.ntmps71
        go_wp2_with fail
        refine (isHex_any a _).mono ?_
        rintro e w' ⟨rfl, rfl⟩
        rw [q1]
        go_wp2_with fail
        refine (isHex_any b _).mono ?_
        rintro e w' ⟨rfl, rfl⟩
        rw [q2]
        go_wp2
        go_ret
        exact ⟨ret_bool HB.out, rfl⟩
    · have hB2 : B = false := by rw [← hB]; simp only [trip]; rw [if_neg hp]; rfl
      have hne : ((c.toNat : Int) == 37) = false := by
        have : c.toNat ≠ 37 := fun e => hp (UInt8.toNat_inj.1 (by rw [e]; rfl))
        simp; omega
      have HB := Lib.hid hB2; clear hB hB2 e1 e2 h2 hp
      go_enter Tryz.func71, Tryz.ntmps71
      go_wp2
      go_ret
      exact ⟨ret_bool HB.out.symm, rfl⟩
  · have hB2 : B = false := by rw [← hB, trip_short _ (by rw [List.length_drop, size_list]; omega)]; rfl
    have m2 : decide ((j2 : Int) < (s.size : Int)) = false := decide_eq_false (by omega)
    have m3 : decide (j2 < s.size) = false := decide_eq_false (by omega)
    have HB := Lib.hid hB2; clear hB hB2 e1 e2 h2
    go_enter Tryz.func71, Tryz.ntmps71
    go_wp2
    go_ret
    exact ⟨ret_bool HB.out.symm, rfl⟩
theorem add33_47 (i n : Nat) (h : i + 3 ≤ n) (hn : n ≤ 140737488351232) : IntKind.i64.wrap ((i : Int) + 3) = (i : Int) + 3 := by rw [IntKind.wrap_i64]; omega
set_option maxHeartbeats 4000000 in
theorem rdecode5_any (s : ByteArray) (w : World) (hs : s.size ≤ 140737488351232) :
    Calls Tryz.prog 31 #[.string s] w fun e w' => e = .returned (.tuple #[.string ⟨(pdec s.data.toList).1.toArray⟩, .int .i64 ((pdec s.data.toList).2.1 : Nat), .int .i64 ((pdec s.data.toList).2.2 : Nat)]) ∧ Below w.heap.size w w' := by
  obtain ⟨i0, hi, hz0, hz1, hz2⟩ := info_parts infoByte
  go_enter Tryz.func31, Tryz.ntmps31
  go_wp2
  go_loopw [6, 5] (fun iv v wr => ∃ (i : Nat) (acc : List UInt8), iv = .int .i64 i ∧ i ≤ s.size ∧ acc.length ≤ i ∧ pd acc (s.data.toList.drop i) i = pdec s.data.toList ∧ wr.ownsRow w.heap.size 5 1 v acc.length (Lib.byteCells acc) ∧ Below w.heap.size w wr)
    (fun i _ _ => s.size - (intOf i).toNat)
  case atStart => exact ⟨0, [], rfl, Nat.zero_le _, Nat.le_refl _, rfl, World.ownsRow_made w #[] 0 (Nat.le_refl _) (by simp) rfl, (Below.refl _ w).alloc (Nat.le_refl _) _⟩
  case round =>
    obtain ⟨i, acc, rfl, hi1, hacc, hpd, hown, hbw⟩ := hrel
    have hbs := hbw.size
    by_cases hlt : i < s.size
    · obtain ⟨c, hc⟩ : ∃ c, s[i]'hlt = c := ⟨_, rfl⟩
      have hd := drop_get s i hlt
      rw [hc] at hd
      have hsm : acc.length + 1 ≤ maxLen := by unfold maxLen; omega
      have hsm2 : (acc.length + 1) * 1 ≤ 140737488355328 := by omega
      have k0 : (0 : Int) ≤ (i : Int) := by omega
      have k1 : (i : Int) < (s.size : Int) := by omega
      by_cases hp : c = 37
      · subst hp
        cases ht : trip (s.data.toList.drop i) with
        | none =>
          have hres : pdec s.data.toList = ([], i, 51) := by rw [← hpd, hd]; exact pd_bad acc _ i (by rw [← hd]; exact ht)
          have HRS := Lib.hid (And.intro hres ht); clear hres ht hd hpd
          go_wp2_with fail
          refine (rtriple_any s i _ hlt hs).mono ?_
          rintro e w1 ⟨rfl, rfl⟩
          rw [HRS.out.2]
          go_wp2
          go_ret3
          exact ⟨by rw [HRS.out.1]; rfl, hbw⟩
        | some n =>
          have hgd := pd_good acc _ i n ht
          have hn := trip_lt _ n ht
          have hln := hgd.2
          rw [List.length_drop, size_list] at hln
          have hnx : pd (acc ++ [UInt8.ofNat n]) (s.data.toList.drop (i + 3)) (i + 3) = pdec s.data.toList := by rw [← hpd, hgd.1, List.drop_drop]
          have HNX := Lib.hid (And.intro hnx (And.intro ht (And.intro hn hln))); clear hnx hn hln hgd hd hpd ht
          go_wp2_with fail
          refine (rtriple_any s i _ hlt hs).mono ?_
          rintro e w1 ⟨rfl, rfl⟩
          rw [HNX.out.2.1]
          go_wp2_with fail
          refine (says_any s i n _ hlt hs HNX.out.2.1).mono ?_
          rintro e w1 ⟨rfl, rfl⟩
          go_wp2_with (at_builtin; refine wpList_append_own _ rfl (.tmp 21) (.tmp 25) 94 rfl w.heap.size 5 i0 (.int .u8 0) 1 1 Tryz.underlying94 hi hz0 hz1 hz2 rfl (by decide) _ _ _ rfl (hown.alloc _) ⟨w1.heap.size, 0, none⟩ 1 1 [.int .u8 (n : Int)] rfl rfl (cells_new _ _ _) (by simp [Value.oneCell']) hsm hsm2 ?d0 ?_)
          case d0 => simp; omega
          intro v1 w7 hI1 hg7 _
          have hb8 := (hbw.alloc (by omega) _).grown hg7 (by simp; omega) (fun j hj => (hown.lt j hj).1)
          rw [← ofNat_cells n HNX.out.2.2.1, ← Lib.byteCells_append] at hI1
          have HI1 := Lib.hid hI1; have HB8 := Lib.hid hb8
          clear hI1 hb8 hg7 hown hbw
          have hi3 : i + 3 ≤ s.size := by have := HNX.out.2.2.2; omega
          have wi := add33_47 i s.size hi3 hs
          go_wp2
          go_roundw
          case rel =>
            refine ⟨i + 3, acc ++ [UInt8.ofNat n], by go_num, hi3, by simp; omega, HNX.out.1, ?_, HB8.out⟩
            rw [List.length_append]
            exact HI1.out
          case measure => simp [intOf]; omega
      · have hnx : pd (acc ++ [c]) (s.data.toList.drop (i + 1)) (i + 1) = pdec s.data.toList := by rw [← hpd, hd, pd_plain acc c _ i hp]
        have hne : ((c.toNat : Int) == 37) = false := by
          have : c.toNat ≠ 37 := fun e => hp (UInt8.toNat_inj.1 (by rw [e]; rfl))
          simp; omega
        have HNX := Lib.hid hnx; clear hnx hd hpd hp
        go_wp2_with (at_builtin; refine wpList_append_own _ rfl (.tmp 29) (.tmp 33) 94 rfl w.heap.size 5 i0 (.int .u8 0) 1 1 Tryz.underlying94 hi hz0 hz1 hz2 rfl (by decide) _ _ _ rfl (hown.alloc _) ⟨wr.heap.size, 0, none⟩ 1 1 [.int .u8 (c.toNat : Int)] rfl rfl (cells_new _ _ _) (by simp [Value.oneCell']) hsm hsm2 ?d0 ?_)
        case d0 => simp; omega
        intro v1 w7 hI1 hg7 _
        have hb8 := (hbw.alloc (by omega) _).grown hg7 (by simp; omega) (fun j hj => (hown.lt j hj).1)
        rw [← byteCells_one c, ← Lib.byteCells_append] at hI1
        have HI1 := Lib.hid hI1; have HB8 := Lib.hid hb8
        clear hI1 hb8 hg7 hown hbw
        go_wp2
        go_roundw
        case rel =>
          refine ⟨i + 1, acc ++ [c], by go_num, by omega, by simp; omega, HNX.out, ?_, HB8.out⟩
          rw [List.length_append]
          exact HI1.out
        case measure => simp [intOf]; omega
    · obtain rfl : i = s.size := by omega
      have hres : pdec s.data.toList = (acc, 0, 0) := by
        rw [← hpd, List.drop_eq_nil_of_le (by rw [size_list]; omega)]
        rw [pd.eq_def]
      have hcv := run_str_own wr 94 5 Tryz.underlying94 Tryz.underlying5 hown 9 Tryz.underlying9
      have HRS := Lib.hid hres; clear hres hpd hown
      go_wp2
      go_ret3
      exact ⟨by rw [HRS.out]; rfl, hbw⟩
end Go.Proofs.YtlfdeenekjklgaaGreatDoor
namespace Go.Proofs.YtlfdeenekjklgaaGreatDoor
open Go.RowKit
set_option linter.unusedSimpArgs false
set_option linter.unusedVariables false
/-- Each a as b. -/
def swapL (a b : UInt8) (l : List UInt8) : List UInt8 := l.map fun c => if c = a then b else c
theorem index_nil (c : UInt8) : Lib.index [] [c] = -1 := by rw [Lib.index_one]; rfl
theorem index_hit (c : UInt8) (r : List UInt8) : Lib.index (c :: r) [c] = 0 := by rw [Lib.index_one]; simp [Lib.indexByte]
theorem index_next (c d : UInt8) (r : List UInt8) (h : d ≠ c) : Lib.index (d :: r) [c] = if Lib.index r [c] = -1 then -1 else Lib.index r [c] + 1 := by
  rw [Lib.index_one, Lib.index_one]
  simp only [Lib.indexByte]
  rw [if_neg (by simpa using h)]
  simp
theorem replaceK_swap (a b : UInt8) (l : List UInt8) : Lib.replaceK [a] [b] (Lib.count l [a]) l = swapL a b l := by
  induction l with
  | nil => rw [Lib.count_miss (index_nil a)]; rfl
  | cons d r ih =>
    by_cases hd : d = a
    · subst hd
      rw [Lib.count_cons_eq, Nat.add_comm, Lib.replaceK_hit [d] [b] _ (d :: r) 0 (index_hit d r)]
      simp only [List.take_zero, List.nil_append, List.length_cons, List.length_nil, Nat.zero_add, List.drop_succ_cons, List.drop_zero]
      rw [ih]
      simp [swapL]
    · rw [Lib.count_cons_ne d a r hd]
      have hm : swapL a b (d :: r) = d :: swapL a b r := by simp [swapL, hd]
      rw [hm, ← ih]
      cases hk : Lib.count r [a] with
      | zero => rfl
      | succ k =>
        obtain ⟨i, hi⟩ := Lib.index_of_count (s := r) (old := [a]) (by omega)
        have h2 : Lib.index (d :: r) [a] = ((i + 1 : Nat) : Int) := by rw [index_next a d r hd, hi, if_neg (by omega)]; rfl
        rw [Lib.replaceK_hit [a] [b] k (d :: r) (i + 1) h2, Lib.replaceK_hit [a] [b] k r i hi]
        simp [Nat.add_right_comm]
theorem replaceAll_swap (a b : UInt8) (l : List UInt8) : Lib.replaceAll l [a] [b] = swapL a b l := by
  unfold Lib.replaceAll Lib.replace
  by_cases h : ([a] == [b]) = true
  · have hab : a = b := by simpa using h
    subst hab
    rw [if_pos h]
    unfold swapL
    have e : (fun c : UInt8 => if c = a then a else c) = id := by funext c; by_cases hc : c = a <;> simp [hc]
    rw [e, List.map_id]
  · rw [if_neg h, show Lib.replaceNum l [a] (-1) = Lib.count l [a] from by simp [Lib.replaceNum]]
    exact replaceK_swap a b l
/-- What a loop knows that has found none up to k. -/
theorem index_upto (c : UInt8) (l : List UInt8) (k : Nat) (hk : k ≤ l.length) (h : ∀ j, j < k → l[j]? ≠ some c) : Lib.index l [c] = if Lib.index (l.drop k) [c] = -1 then -1 else Lib.index (l.drop k) [c] + k := by
  induction k generalizing l with
  | zero => by_cases e : Lib.index l [c] = -1 <;> simp [e]
  | succ k ih =>
    match l, hk with
    | d :: r, hk =>
      have hd : d ≠ c := by have := h 0 (by omega); simpa using this
      have := ih r (by simpa using hk) (fun j hj => by have := h (j + 1) (by omega); simpa using this)
      rw [index_next c d r hd, this, List.drop_succ_cons]
      by_cases e : Lib.index (r.drop k) [c] = -1
      · rw [if_pos e, if_pos rfl, if_pos e]
      · have hge : -1 ≤ Lib.index (r.drop k) [c] := by rw [Lib.index_one]; exact Lib.indexByte_ge _ _
        rw [if_neg e, if_neg (by omega), if_neg e]
        omega
theorem index_none (c : UInt8) (l : List UInt8) (h : ∀ j, j < l.length → l[j]? ≠ some c) : Lib.index l [c] = -1 := by
  rw [index_upto c l l.length (Nat.le_refl _) h, List.drop_length, index_nil, if_pos rfl]
theorem index_found (c : UInt8) (l : List UInt8) (k : Nat) (hk : k < l.length) (h : ∀ j, j < k → l[j]? ≠ some c) (hc : l[k]? = some c) : Lib.index l [c] = k := by
  rw [index_upto c l k (by omega) h]
  have e : l.drop k = c :: l.drop (k + 1) := by
    rw [List.drop_eq_getElem_cons hk]
    congr 1
    rw [List.getElem?_eq_getElem hk] at hc
    injection hc
  rw [e, index_hit]
  simp
theorem cut_none (c : UInt8) (l : List UInt8) (h : ∀ j, j < l.length → l[j]? ≠ some c) : Lib.cut l [c] = (l, [], false) := by
  unfold Lib.cut
  rw [index_none c l h, if_neg (by omega)]
theorem cut_found (c : UInt8) (l : List UInt8) (k : Nat) (hk : k < l.length) (h : ∀ j, j < k → l[j]? ≠ some c) (hc : l[k]? = some c) : Lib.cut l [c] = (l.take k, l.drop (k + 1), true) := by
  unfold Lib.cut
  rw [index_found c l k hk h hc, if_pos (by omega)]
  simp
/-- The pieces, by cutting off the first. -/
theorem split_step (c : UInt8) (l : List UInt8) : Lib.split l [c] = if (Lib.cut l [c]).2.2 then (Lib.cut l [c]).1 :: Lib.split (Lib.cut l [c]).2.1 [c] else [l] := by
  have hge : -1 ≤ Lib.index l [c] := by rw [Lib.index_one]; exact Lib.indexByte_ge _ _
  by_cases h : Lib.index l [c] = -1
  · have e : Lib.cut l [c] = (l, [], false) := by unfold Lib.cut; rw [if_neg (by omega)]
    rw [e]
    unfold Lib.split
    rw [Lib.count_miss h]
    rfl
  · obtain ⟨i, hi⟩ : ∃ i : Nat, Lib.index l [c] = i := ⟨(Lib.index l [c]).toNat, by omega⟩
    have e : Lib.cut l [c] = (l.take i, l.drop (i + 1), true) := by unfold Lib.cut; rw [hi, if_pos (by omega)]; simp
    rw [e]
    unfold Lib.split
    rw [Lib.count_hit (by simp) hi, Nat.add_comm, Lib.splitK, if_neg (by simp; omega), hi]
    simp
theorem index_lt (c : UInt8) (l : List UInt8) (h : Lib.index l [c] ≠ -1) : Lib.index l [c] < l.length := by
  induction l with
  | nil => exact absurd (index_nil c) h
  | cons d r ih =>
    by_cases e : d = c
    · subst e; rw [index_hit]; simp
    · rw [index_next c d r e] at h ⊢
      by_cases h2 : Lib.index r [c] = -1
      · rw [if_pos h2] at h; exact absurd rfl h
      · rw [if_neg h2]
        have := ih h2
        simp only [List.length_cons]
        omega
end Go.Proofs.YtlfdeenekjklgaaGreatDoor
