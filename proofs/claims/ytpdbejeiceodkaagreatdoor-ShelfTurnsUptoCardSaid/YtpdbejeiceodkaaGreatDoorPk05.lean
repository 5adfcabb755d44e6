/- Pct, PctR: texts of the seat, one behind the other (a claim holds at most sixty). Conditions: each theorem names its own. -/
import Derived.Test.YtpdbejeiceodkaaGreatDoorPa02
import Derived.Test.YtpdbejeiceodkaaGreatDoorPk00
import Derived.Test.YtpdbejeiceodkaaGreatDoorPk04
import Derived.StillTailTactics
namespace Go.Proofs.YtpdbejeiceodkaaGreatDoor
open Go.RowKit
set_option linter.unusedSimpArgs false
set_option linter.unusedVariables false
def hvI (c : UInt8) : Int := match hv c with | some n => n | none => -1
theorem hvI_eq (c : UInt8) (n : Nat) (h : c.toNat = n) : hvI c = if 48 ≤ n ∧ n ≤ 57 then (n : Int) - 48 else if 97 ≤ n ∧ n ≤ 102 then (n : Int) - 87 else if 65 ≤ n ∧ n ≤ 70 then (n : Int) - 55 else -1 := by
  subst h
  unfold hvI hv
  by_cases h1 : 48 ≤ c.toNat ∧ c.toNat ≤ 57
  · rw [if_pos h1, if_pos h1]; simp only; omega
  · rw [if_neg h1, if_neg h1]
    by_cases h2 : 97 ≤ c.toNat ∧ c.toNat ≤ 102
    · rw [if_pos h2, if_pos h2]; simp only; omega
    · rw [if_neg h2, if_neg h2]
      by_cases h3 : 65 ≤ c.toNat ∧ c.toNat ≤ 70
      · rw [if_pos h3, if_pos h3]; simp only; omega
      · rw [if_neg h3, if_neg h3]
set_option maxHeartbeats 1000000 in
theorem digit_any (c : UInt8) (w : World) : Calls Tryz.prog 177 #[.int .u8 (c.toNat : Int)] w fun e w' => e = .returned (.int .i64 (hvI c)) ∧ w' = w := by
  obtain ⟨n, hn⟩ : ∃ n, c.toNat = n := ⟨_, rfl⟩
  have hlt : n < 256 := by rw [← hn]; exact c.toBitVec.isLt
  have he := hvI_eq c n hn
  rw [hn]
  have HE := Lib.hid he; clear he hn
  go_enter Tryz.func177, Tryz.ntmps177
  go_wp2
  all_goals go_ret
  all_goals (refine ⟨?_, rfl⟩; rw [HE.out])
  all_goals (refine ret_int ?_)
  all_goals (repeat' split) <;> omega
theorem hvI_some (c : UInt8) (n : Nat) (h : hv c = some n) : hvI c = (n : Int) := by unfold hvI; rw [h]
theorem hvI_none (c : UInt8) (h : hv c = none) : hvI c = -1 := by unfold hvI; rw [h]
theorem and15_all : ∀ n : Fin 16, (n.val &&& 15 == n.val) = true := by decide +kernel
theorem and15 (n : Nat) (h : n < 16) : n &&& 15 = n := by have := and15_all ⟨n, h⟩; simpa using this
theorem wrap_47 (p : Nat) (h : p ≤ 140737488351232) : IntKind.i64.wrap (p : Int) = (p : Int) := by rw [IntKind.wrap_i64]; omega
theorem add3_47 (i n : Nat) (h : i + 3 ≤ n) (hn : n ≤ 140737488351232) : IntKind.i64.wrap ((i : Int) + 2) = (i : Int) + 2 := by rw [IntKind.wrap_i64]; omega
theorem wrap_47b (p n : Nat) (h : p ≤ n + 3) (hn : n ≤ 140737488351232) : IntKind.i64.wrap (p : Int) = (p : Int) := by rw [IntKind.wrap_i64]; omega
theorem tripBits (x y : Nat) (hx : x < 16) (hy : y < 16) : bits .or .i64 ((x : Int) * 16) (bits .and .i64 (y : Int) 15) % 256 = ((x * 16 + y : Nat) : Int) := by
  have e : bits .and .i64 (y : Int) 15 = (y : Int) := by
    have := i64_and_nat y 15 (by omega) (by omega)
    rw [and15 y hy] at this
    exact this
  rw [e, show ((x : Int) * 16) = ((x * 16 : Nat) : Int) from by omega, i64_join 4 (x * 16) y (by omega) (by omega) (by omega) (by omega)]
  omega
theorem trip_short (l : List UInt8) (h : l.length < 3) : trip l = none := by
  match l, h with
  | [], _ => rfl
  | [_], _ => rfl
  | [_, _], _ => rfl
theorem drop3 (s : ByteArray) (i : Nat) (h : i + 2 < s.size) : s.data.toList.drop i = (s[i]'(by omega)) :: (s[i + 1]'(by omega)) :: (s[i + 2]'h) :: s.data.toList.drop (i + 3) := by
  rw [drop_get s i (by omega), drop_get s (i + 1) (by omega), drop_get s (i + 2) h]
def TripPost (s : ByteArray) (i : Nat) (w : World) (e : Ending) (w' : World) : Prop := ∃ v : Int, e = .returned (.tuple #[.int .u8 v, .bool (trip (s.data.toList.drop i)).isSome]) ∧ (∀ n, trip (s.data.toList.drop i) = some n → v = n) ∧ ∃ k, w' = w.drewN k
theorem add_fits (i n : Nat) (h : i < n) (hn : n ≤ 140737488351232) : IntKind.i64.wrap ((i : Int) + 2) = (i : Int) + 2 := by rw [IntKind.wrap_i64]; omega
set_option maxRecDepth 1000000 in
set_option maxHeartbeats 2000000 in
theorem triple_any (s : ByteArray) (i : Nat) (w : World) (hi : i < s.size) (hs : s.size ≤ 140737488351232) :
    Calls Tryz.prog 140 #[.string s, .int .i64 i] w (TripPost s i w) := by
  have hw := add_fits i s.size hi hs
  by_cases h2 : i + 2 < s.size
  · obtain ⟨c, hc⟩ : ∃ c, s[i]'hi = c := ⟨_, rfl⟩
    obtain ⟨a, ha⟩ : ∃ a, s[i + 1]'(by omega) = a := ⟨_, rfl⟩
    obtain ⟨b, hb⟩ : ∃ b, s[i + 2]'h2 = b := ⟨_, rfl⟩
    have hd := drop3 s i h2
    rw [hc, ha, hb] at hd
    obtain ⟨j1, e1⟩ : ∃ j, i + 1 = j := ⟨_, rfl⟩
    obtain ⟨j2, e2⟩ : ∃ j, i + 2 = j := ⟨_, rfl⟩
    have lj1 : j1 < s.size := by omega
    have lj2 : j2 < s.size := by omega
    have ha' : s[j1]'lj1 = a := by subst e1; exact ha
    have hb' : s[j2]'lj2 = b := by subst e2; exact hb
    have f1 : (i : Int) + 1 = (j1 : Int) := by omega
    have f2 : (i : Int) + 2 = (j2 : Int) := by omega
    have g1 : IntKind.i64.wrap (j1 : Int) = (j1 : Int) := wrap_47 j1 (by omega)
    have g2 : IntKind.i64.wrap (j2 : Int) = (j2 : Int) := wrap_47 j2 (by omega)
    have n1 : (0 : Int) ≤ (j1 : Int) := by omega
    have n2 : (0 : Int) ≤ (j2 : Int) := by omega
    have m1 : (j1 : Int) < (s.size : Int) := by omega
    have m2 : (j2 : Int) < (s.size : Int) := by omega
    have hn1 : ¬ ((s.size : Int) ≤ (j2 : Int)) := by omega
    clear ha hb e1 e2 hw
    by_cases hp : c = 37
    · subst hp
      have k0 : (0 : Int) ≤ (i : Int) := by omega
      have k1 : (i : Int) < (s.size : Int) := by omega
      cases hx : hv a with
      | none =>
        have q1 := hvI_none a hx
        have ht : trip (37 :: a :: b :: s.data.toList.drop (i + 3)) = none := by simp only [trip, if_true]; rw [hx]
        have HT := Lib.hid (And.intro hx (And.intro ht hd)); clear hx ht hd
        go_enter Tryz.func140, Tryz.ntmps140
        go_wp2_with fail
        refine wp_region_still_lit (by kernel_rfl) (by kernel_rfl) ?_
        repeat still_step
        still_call (digit_any _ _)
        repeat still_step
        still_call (digit_any _ _)
        repeat still_step
        refine wpStill_nil ?_
        go_wp2
        go_ret2
        unfold TripPost; rw [HT.out.2.2, HT.out.2.1]; exact ⟨_, rfl, (fun n h => by cases h), 1, rfl⟩
      | some x =>
        have q1 := hvI_some a x hx
        have lx := hv_lt a x hx
        cases hy : hv b with
        | none =>
          have q2 := hvI_none b hy
          have ht : trip (37 :: a :: b :: s.data.toList.drop (i + 3)) = none := by simp only [trip, if_true]; rw [hx, hy]
          have HT := Lib.hid (And.intro hx (And.intro hy (And.intro ht (And.intro hd lx)))); clear hx hy ht hd lx
          go_enter Tryz.func140, Tryz.ntmps140
          go_wp2_with fail
          refine wp_region_still_lit (by kernel_rfl) (by kernel_rfl) ?_
          repeat still_step
          still_call (digit_any _ _)
          repeat still_step
          still_call (digit_any _ _)
          repeat still_step
          refine wpStill_nil ?_
          go_wp2
          go_ret2
          unfold TripPost; rw [HT.out.2.2.2.1, HT.out.2.2.1]; exact ⟨_, rfl, (fun n h => by cases h), 1, rfl⟩
        | some y =>
          have q2 := hvI_some b y hy
          have ly := hv_lt b y hy
          have ht : trip (37 :: a :: b :: s.data.toList.drop (i + 3)) = some (x * 16 + y) := by simp only [trip, if_true]; rw [hx, hy]
          have hb2 := tripBits x y lx ly
          have HT := Lib.hid (And.intro hx (And.intro hy (And.intro ht (And.intro hd (And.intro lx ly))))); clear hx hy ht hd lx ly
          go_enter Tryz.func140, Tryz.ntmps140
          go_wp2_with fail
          refine wp_region_still_lit (by kernel_rfl) (by kernel_rfl) ?_
          repeat still_step
          still_call (digit_any _ _)
          repeat still_step
          still_call (digit_any _ _)
          repeat still_step
          refine wpStill_nil ?_
          go_wp2
          go_ret2
          unfold TripPost; rw [HT.out.2.2.2.1, HT.out.2.2.1]; exact ⟨_, rfl, (fun n h => by injection h with h; rw [← h]; exact hb2), 1, rfl⟩
    · have ht : trip (c :: a :: b :: s.data.toList.drop (i + 3)) = none := by simp only [trip]; rw [if_neg hp]
      have k0 : (0 : Int) ≤ (i : Int) := by omega
      have k1 : (i : Int) < (s.size : Int) := by omega
      have hne : ((c.toNat : Int) != 37) = true := by
        have : c.toNat ≠ 37 := fun e => hp (UInt8.toNat_inj.1 (by rw [e]; rfl))
        simp; omega
      have HT := Lib.hid (And.intro ht hd); clear ht hd
      go_enter Tryz.func140, Tryz.ntmps140
      go_wp2
      go_ret2
      unfold TripPost; rw [HT.out.2, HT.out.1]; exact ⟨_, rfl, (fun n h => by cases h), 0, rfl⟩
  · have ht : trip (s.data.toList.drop i) = none := trip_short _ (by rw [List.length_drop, size_list]; omega)
    have hge : (s.size : Int) ≤ (i : Int) + 2 := by omega
    have HT := Lib.hid ht; clear ht
    go_enter Tryz.func140, Tryz.ntmps140
    go_wp2
    go_ret2
    unfold TripPost; rw [HT.out]; exact ⟨_, rfl, (fun n h => by cases h), 0, rfl⟩
end Go.Proofs.YtpdbejeiceodkaaGreatDoor
namespace Go.Proofs.YtpdbejeiceodkaaGreatDoor
open Go.RowKit
set_option linter.unusedSimpArgs false
set_option linter.unusedVariables false
set_option maxRecDepth 1000000
def isDg (n : Nat) : Bool := decide (48 ≤ n ∧ n ≤ 57)
theorem ret_bool {a b : Bool} (h : a = b) : Ending.returned (.bool a) = .returned (.bool b) := by rw [h]
set_option maxHeartbeats 1000000 in
theorem isDigit_any (n : Nat) (w : World) : Calls Tryz.prog 133 #[.int .u8 (n : Int)] w fun e w' => e = .returned (.bool (isDg n)) ∧ w' = w := by
  by_cases h1 : 48 ≤ n
  · by_cases h2 : n ≤ 57
    · have he : isDg n = true := by simp [isDg, h1, h2]
      have i1 : (48 : Int) ≤ (n : Int) := by omega
      have i2 : (n : Int) ≤ 57 := by omega
      have HE := Lib.hid he; clear he
      go_enter Tryz.func133, Tryz.ntmps133
      go_wp2
      go_ret
      exact ⟨ret_bool HE.out.symm, rfl⟩
    · have he : isDg n = false := by simp [isDg]; omega
      have i1 : (48 : Int) ≤ (n : Int) := by omega
      have i2 : decide ((n : Int) ≤ 57) = false := decide_eq_false (by omega)
      have HE := Lib.hid he; clear he
      go_enter Tryz.func133, Tryz.ntmps133
      go_wp2
      go_ret
      exact ⟨by rw [HE.out]; exact ret_bool (by simp), rfl⟩
  · have he : isDg n = false := by simp [isDg]; omega
    have i1 : decide ((48 : Int) ≤ (n : Int)) = false := decide_eq_false (by omega)
    have HE := Lib.hid he; clear he
    go_enter Tryz.func133, Tryz.ntmps133
    go_wp2
    go_ret
    exact ⟨by rw [HE.out]; rfl, rfl⟩
theorem hv_some_iff (c : UInt8) (n : Nat) (h : c.toNat = n) : (hv c).isSome = decide ((48 ≤ n ∧ n ≤ 57) ∨ (65 ≤ n ∧ n ≤ 70) ∨ (97 ≤ n ∧ n ≤ 102)) := by
  subst h
  unfold hv
  by_cases h1 : 48 ≤ c.toNat ∧ c.toNat ≤ 57
  · rw [if_pos h1]; simp [h1]
  · rw [if_neg h1]
    by_cases h2 : 97 ≤ c.toNat ∧ c.toNat ≤ 102
    · rw [if_pos h2]; simp [h2]
    · rw [if_neg h2]
      by_cases h3 : 65 ≤ c.toNat ∧ c.toNat ≤ 70
      · rw [if_pos h3]; simp [h3]
      · rw [if_neg h3]; symm; simp only [Option.isSome_none, decide_eq_false_iff_not]; omega
set_option maxHeartbeats 1000000 in
theorem isHex_any (c : UInt8) (w : World) : Calls Tryz.prog 216 #[.int .u8 (c.toNat : Int)] w fun e w' => e = .returned (.bool (hv c).isSome) ∧ w' = w := by
  obtain ⟨n, hn⟩ : ∃ n, c.toNat = n := ⟨_, rfl⟩
  have he := hv_some_iff c n hn
  rw [hn, he]
  clear he hn
  have tail : ∀ b : Bool, isDg n = b → (b = true ∨ (65 ≤ n ∧ n ≤ 70) ∨ n < 65 ∨ (70 < n ∧ n < 97) ∨ (97 ≤ n ∧ n ≤ 102) ∨ 102 < n) := by intro b _; omega
  obtain ⟨b, hb⟩ : ∃ b, isDg n = b := ⟨_, rfl⟩
  have hd : b = decide (48 ≤ n ∧ n ≤ 57) := by rw [← hb]; rfl
  have hc := tail b hb
  clear tail
  rcases hc with rfl | hc | hc | hc | hc | hc
  · have hr : decide ((48 ≤ n ∧ n ≤ 57) ∨ (65 ≤ n ∧ n ≤ 70) ∨ (97 ≤ n ∧ n ≤ 102)) = true := by simp at hd; simp; omega
    have HR := Lib.hid hr; clear hr hd
    go_enter Tryz.func216, Tryz.ntmps216
    go_wp2_with fail
    refine (isDigit_any n _).mono ?_
    rintro e w' ⟨rfl, rfl⟩
    rw [hb]
    go_wp2
    go_ret
    exact ⟨ret_bool HR.out.symm, rfl⟩
  · cases b with
    | true =>
      have hr : decide ((48 ≤ n ∧ n ≤ 57) ∨ (65 ≤ n ∧ n ≤ 70) ∨ (97 ≤ n ∧ n ≤ 102)) = true := by simp at hd; simp; omega
      have HR := Lib.hid hr; clear hr hd
      go_enter Tryz.func216, Tryz.ntmps216
      go_wp2_with fail
      refine (isDigit_any n _).mono ?_
      rintro e w' ⟨rfl, rfl⟩
      rw [hb]
      go_wp2
      go_ret
      exact ⟨ret_bool HR.out.symm, rfl⟩
    | false =>
      have hr : decide ((48 ≤ n ∧ n ≤ 57) ∨ (65 ≤ n ∧ n ≤ 70) ∨ (97 ≤ n ∧ n ≤ 102)) = true := by simp at hd; simp; omega
      have HR := Lib.hid hr; clear hr hd
      have i0 : (65 : Int) ≤ (n : Int) := by omega
      have i1 : (n : Int) ≤ 70 := by omega
      go_enter Tryz.func216, Tryz.ntmps216
      go_wp2_with fail
      refine (isDigit_any n _).mono ?_
      rintro e w' ⟨rfl, rfl⟩
      rw [hb]
      go_wp2
      go_ret
      refine ⟨?_, rfl⟩
      rw [HR.out]
      refine ret_bool ?_
      simp <;> omega
  · cases b with
    | true =>
      have hr : decide ((48 ≤ n ∧ n ≤ 57) ∨ (65 ≤ n ∧ n ≤ 70) ∨ (97 ≤ n ∧ n ≤ 102)) = true := by simp at hd; simp; omega
      have HR := Lib.hid hr; clear hr hd
      go_enter Tryz.func216, Tryz.ntmps216
      go_wp2_with fail
      refine (isDigit_any n _).mono ?_
      rintro e w' ⟨rfl, rfl⟩
      rw [hb]
      go_wp2
      go_ret
      exact ⟨ret_bool HR.out.symm, rfl⟩
    | false =>
      have hr : decide ((48 ≤ n ∧ n ≤ 57) ∨ (65 ≤ n ∧ n ≤ 70) ∨ (97 ≤ n ∧ n ≤ 102)) = false := by simp at hd; simp; omega
      have HR := Lib.hid hr; clear hr hd
      have i0 : decide ((65 : Int) ≤ (n : Int)) = false := decide_eq_false (by omega)
      have i1 : decide ((97 : Int) ≤ (n : Int)) = false := decide_eq_false (by omega)
      go_enter Tryz.func216, Tryz.ntmps216
      go_wp2_with fail
      refine (isDigit_any n _).mono ?_
      rintro e w' ⟨rfl, rfl⟩
      rw [hb]
      go_wp2
      go_ret
      refine ⟨?_, rfl⟩
      rw [HR.out]
      refine ret_bool ?_
      simp <;> omega
  · cases b with
    | true =>
      have hr : decide ((48 ≤ n ∧ n ≤ 57) ∨ (65 ≤ n ∧ n ≤ 70) ∨ (97 ≤ n ∧ n ≤ 102)) = true := by simp at hd; simp; omega
      have HR := Lib.hid hr; clear hr hd
      go_enter Tryz.func216, Tryz.ntmps216
      go_wp2_with fail
      refine (isDigit_any n _).mono ?_
      rintro e w' ⟨rfl, rfl⟩
      rw [hb]
      go_wp2
      go_ret
      exact ⟨ret_bool HR.out.symm, rfl⟩
    | false =>
      have hr : decide ((48 ≤ n ∧ n ≤ 57) ∨ (65 ≤ n ∧ n ≤ 70) ∨ (97 ≤ n ∧ n ≤ 102)) = false := by simp at hd; simp; omega
      have HR := Lib.hid hr; clear hr hd
      have i0 : (65 : Int) ≤ (n : Int) := by omega
      have i1 : decide ((n : Int) ≤ 70) = false := decide_eq_false (by omega)
      have i2 : decide ((97 : Int) ≤ (n : Int)) = false := decide_eq_false (by omega)
      go_enter Tryz.func216, Tryz.ntmps216
      go_wp2_with fail
      refine (isDigit_any n _).mono ?_
      rintro e w' ⟨rfl, rfl⟩
      rw [hb]
      go_wp2
      go_ret
      refine ⟨?_, rfl⟩
      rw [HR.out]
      refine ret_bool ?_
      simp <;> omega
  · cases b with
    | true =>
      have hr : decide ((48 ≤ n ∧ n ≤ 57) ∨ (65 ≤ n ∧ n ≤ 70) ∨ (97 ≤ n ∧ n ≤ 102)) = true := by simp at hd; simp; omega
      have HR := Lib.hid hr; clear hr hd
      go_enter Tryz.func216, Tryz.ntmps216
      go_wp2_with fail
      refine (isDigit_any n _).mono ?_
      rintro e w' ⟨rfl, rfl⟩
      rw [hb]
      go_wp2
      go_ret
      exact ⟨ret_bool HR.out.symm, rfl⟩
    | false =>
      have hr : decide ((48 ≤ n ∧ n ≤ 57) ∨ (65 ≤ n ∧ n ≤ 70) ∨ (97 ≤ n ∧ n ≤ 102)) = true := by simp at hd; simp; omega
      have HR := Lib.hid hr; clear hr hd
      have i0 : (65 : Int) ≤ (n : Int) := by omega
      have i1 : decide ((n : Int) ≤ 70) = false := decide_eq_false (by omega)
      have i2 : (97 : Int) ≤ (n : Int) := by omega
      have i3 : (n : Int) ≤ 102 := by omega
      go_enter Tryz.func216, Tryz.ntmps216
      go_wp2_with fail
      refine (isDigit_any n _).mono ?_
      rintro e w' ⟨rfl, rfl⟩
      rw [hb]
      go_wp2
      go_ret
      refine ⟨?_, rfl⟩
      rw [HR.out]
      refine ret_bool ?_
      simp <;> omega
  · cases b with
    | true =>
      have hr : decide ((48 ≤ n ∧ n ≤ 57) ∨ (65 ≤ n ∧ n ≤ 70) ∨ (97 ≤ n ∧ n ≤ 102)) = true := by simp at hd; simp; omega
      have HR := Lib.hid hr; clear hr hd
      go_enter Tryz.func216, Tryz.ntmps216
      go_wp2_with fail
      refine (isDigit_any n _).mono ?_
      rintro e w' ⟨rfl, rfl⟩
      rw [hb]
      go_wp2
      go_ret
      exact ⟨ret_bool HR.out.symm, rfl⟩
    | false =>
      have hr : decide ((48 ≤ n ∧ n ≤ 57) ∨ (65 ≤ n ∧ n ≤ 70) ∨ (97 ≤ n ∧ n ≤ 102)) = false := by simp at hd; simp; omega
      have HR := Lib.hid hr; clear hr hd
      have i0 : (65 : Int) ≤ (n : Int) := by omega
      have i1 : decide ((n : Int) ≤ 70) = false := decide_eq_false (by omega)
      have i2 : (97 : Int) ≤ (n : Int) := by omega
      have i3 : decide ((n : Int) ≤ 102) = false := decide_eq_false (by omega)
      go_enter Tryz.func216, Tryz.ntmps216
      go_wp2_with fail
      refine (isDigit_any n _).mono ?_
      rintro e w' ⟨rfl, rfl⟩
      rw [hb]
      go_wp2
      go_ret
      refine ⟨?_, rfl⟩
      rw [HR.out]
      refine ret_bool ?_
      simp <;> omega
theorem hv_cases (c : UInt8) (n x : Nat) (hn : c.toNat = n) (h : hv c = some x) : (48 ≤ n ∧ n ≤ 57 ∧ x = n - 48) ∨ (97 ≤ n ∧ n ≤ 102 ∧ x = n - 87) ∨ (65 ≤ n ∧ n ≤ 70 ∧ x = n - 55) := by
  subst hn
  unfold hv at h
  split at h
  · injection h; omega
  · split at h
    · injection h; omega
    · split at h
      · injection h; omega
      · cases h
set_option maxHeartbeats 1000000 in
theorem value_any (c : UInt8) (x : Nat) (w : World) (h : hv c = some x) : Calls Tryz.prog 240 #[.int .u8 (c.toNat : Int)] w fun e w' => e = .returned (.int .i64 (x : Int)) ∧ w' = w := by
  obtain ⟨n, hn⟩ : ∃ n, c.toNat = n := ⟨_, rfl⟩
  have hc := hv_cases c n x hn h
  rw [hn]
  clear hn h
  rcases hc with ⟨h1, h2, rfl⟩ | ⟨h1, h2, rfl⟩ | ⟨h1, h2, rfl⟩
  · have hb : isDg n = true := by simp [isDg, h1, h2]
    go_enter Tryz.func240, Tryz.ntmps240
    go_wp2_with fail
    refine (isDigit_any n _).mono ?_
    rintro e w' ⟨rfl, rfl⟩
    rw [hb]
    go_wp2
    go_ret
    exact ⟨ret_int (by omega), rfl⟩
  · have hb : isDg n = false := by simp [isDg]; omega
    have i1 : (97 : Int) ≤ (n : Int) := by omega
    go_enter Tryz.func240, Tryz.ntmps240
    go_wp2_with fail
    refine (isDigit_any n _).mono ?_
    rintro e w' ⟨rfl, rfl⟩
    rw [hb]
    go_wp2
    go_ret
    exact ⟨ret_int (by omega), rfl⟩
  · have hb : isDg n = false := by simp [isDg]; omega
    have i1 : decide ((97 : Int) ≤ (n : Int)) = false := decide_eq_false (by omega)
    go_enter Tryz.func240, Tryz.ntmps240
    go_wp2_with fail
    refine (isDigit_any n _).mono ?_
    rintro e w' ⟨rfl, rfl⟩
    rw [hb]
    go_wp2
    go_ret
    exact ⟨ret_int (by omega), rfl⟩
/-- Two digits to the base 16. -/
def numAt (x y : Nat) (k : Nat) : Nat := if k = 0 then 0 else if k = 1 then x else x * 16 + y
set_option maxHeartbeats 4000000 in
theorem number_any (t : ByteArray) (a b : UInt8) (x y : Nat) (w : World) (ht : t.data.toList = [a, b]) (ha : hv a = some x) (hb : hv b = some y) :
    Calls Tryz.prog 232 #[.string t, .int .i64 16, .int .i64 255] w fun e w' => e = .returned (.tuple #[.int .i64 ((x * 16 + y : Nat) : Int), .int .i64 0]) ∧ w' = w := by
  have hsz : t.size = 2 := by rw [← size_list, ht]; rfl
  have l0 : (0 : Nat) < t.size := by omega
  have l1 : (1 : Nat) < t.size := by omega
  have g0 : t[0]'l0 = a := by have := list_get t 0 l0; rw [ht] at this; simpa using this.symm
  have g1 : t[1]'l1 = b := by have := list_get t 1 l1; rw [ht] at this; simpa using this.symm
  have hx := hv_lt a x ha
  have hy := hv_lt b y hb
  have hne : t.toList.isEmpty = false := by rw [ByteArray.toList_eq, ht]; rfl
  have hi0 : (hv a).isSome = true := by rw [ha]; rfl
  have hi1 : (hv b).isSome = true := by rw [hb]; rfl
  go_enter Tryz.func232, Tryz.ntmps232
  go_wp2
  go_loopw [8] (fun iv wr => ∃ i : Nat, iv = .int .i64 i ∧ i ≤ 2 ∧ wr = w) (fun i _ => 2 - (intOf i).toNat)
  case atStart => exact ⟨0, rfl, by omega, rfl⟩
  case round =>
    obtain ⟨i, rfl, hi, rfl⟩ := hrel
    have h3 : i = 0 ∨ i = 1 ∨ i = 2 := by omega
    rcases h3 with rfl | rfl | rfl
    · rw [show ((0 : Nat) : Int) = 0 from rfl]
      go_wp2_with fail
      refine (isHex_any a _).mono ?_
      rintro e w' ⟨rfl, rfl⟩
      rw [hi0]
      go_wp2
      go_roundw
      case rel => exact ⟨1, rfl, by omega, by first | trivial | rfl⟩
      case measure => decide
    · rw [show ((1 : Nat) : Int) = 1 from rfl]
      go_wp2_with fail
      refine (isHex_any b _).mono ?_
      rintro e w' ⟨rfl, rfl⟩
      rw [hi1]
      go_wp2
      go_roundw
      case rel => exact ⟨2, rfl, by omega, by first | trivial | rfl⟩
      case measure => decide
    · rw [show ((2 : Nat) : Int) = 2 from rfl]
      have m0 : ¬ (255 : Int) < (x : Int) := by omega
      have m1 : ¬ (255 : Int) < (y : Int) := by omega
      have q1 : ((255 : Int) - (y : Int)).tdiv 16 = 15 := by rw [Int.tdiv_eq_ediv_of_nonneg (by omega)]; omega
      have q0 : (0 : Int) ≤ ((255 : Int) - (x : Int)).tdiv 16 := by rw [Int.tdiv_eq_ediv_of_nonneg (by omega)]; omega
      have m2 : ¬ (15 : Int) < (x : Int) := by omega
      have m3 : ¬ (255 : Int) < (x : Int) * 16 + (y : Int) := by omega
      go_wp2
      go_loopw [10, 9] (fun iv nv wq => ∃ i : Nat, iv = .int .i64 i ∧ i ≤ 2 ∧ nv = .int .i64 (numAt x y i : Nat) ∧ wq = wr) (fun i _ _ => 2 - (intOf i).toNat)
      case atStart => exact ⟨0, rfl, by omega, rfl, rfl⟩
      case round =>
      obtain ⟨i, rfl, hi, rfl, rfl⟩ := hrel
      have h3 : i = 0 ∨ i = 1 ∨ i = 2 := by omega
      rcases h3 with rfl | rfl | rfl
      · rw [show ((0 : Nat) : Int) = 0 from rfl, show ((numAt x y 0 : Nat) : Int) = 0 from rfl]
        go_wp2_with fail
        refine (value_any a x _ ha).mono ?_
        rintro e w' ⟨rfl, rfl⟩
        go_wp2
        go_roundw
        case rel => exact ⟨1, rfl, by omega, by simp [numAt], by first | trivial | rfl⟩
        case measure => decide
      · rw [show ((1 : Nat) : Int) = 1 from rfl, show ((numAt x y 1 : Nat) : Int) = (x : Int) from rfl]
        go_wp2_with fail
        refine (value_any b y _ hb).mono ?_
        rintro e w' ⟨rfl, rfl⟩
        go_wp2
        go_roundw
        case rel => exact ⟨2, rfl, by omega, by simp [numAt], by first | trivial | rfl⟩
        case measure => decide
      · rw [show ((2 : Nat) : Int) = 2 from rfl, show ((numAt x y 2 : Nat) : Int) = (x : Int) * 16 + (y : Int) from by simp [numAt]]
        go_wp2
        go_ret2
        exact ⟨by simp, rfl⟩
theorem hex2_any (t : ByteArray) (a b : UInt8) (x y : Nat) (w : World) (ht : t.data.toList = [a, b]) (ha : hv a = some x) (hb : hv b = some y) :
    Calls Tryz.prog 217 #[.string t, .int .i64 255] w fun e w' => e = .returned (.tuple #[.int .i64 ((x * 16 + y : Nat) : Int), .int .i64 0]) ∧ w' = w := by
  go_enter Tryz.func217, Tryz.ntmps217
  go_wp2_with fail
  refine (number_any t a b x y _ ht ha hb).mono ?_
  rintro e w' ⟨rfl, rfl⟩
  go_wp2
  go_ret2
  exact ⟨rfl, rfl⟩
theorem trip_at (s : ByteArray) (i n : Nat) (hi : i < s.size) (h : trip (s.data.toList.drop i) = some n) : ∃ (h2 : i + 2 < s.size) (x y : Nat), s[i]'hi = 37 ∧ hv (s[i + 1]'(by omega)) = some x ∧ hv (s[i + 2]'h2) = some y ∧ n = x * 16 + y := by
  by_cases h2 : i + 2 < s.size
  · have hd := drop3 s i h2
    rw [hd] at h
    obtain ⟨a, b, r, x, y, he, ha, hb, hn⟩ := trip_some _ n h
    simp only [List.cons.injEq] at he
    exact ⟨h2, x, y, he.1, by rw [he.2.1]; exact ha, by rw [he.2.2.1]; exact hb, hn⟩
  · rw [trip_short _ (by rw [List.length_drop, size_list]; omega)] at h; cases h
theorem says_any (s : ByteArray) (i n : Nat) (w : World) (hi : i < s.size) (hs : s.size ≤ 140737488351232) (ht : trip (s.data.toList.drop i) = some n) :
    Calls Tryz.prog 187 #[.string s, .int .i64 i] w fun e w' => e = .returned (.int .u8 (n : Int)) ∧ w' = w := by
  obtain ⟨h2, x, y, _, ha, hb, rfl⟩ := trip_at s i n hi ht
  have hx := hv_lt _ x ha
  have hy := hv_lt _ y hb
  obtain ⟨a, ea⟩ : ∃ a, s[i + 1]'(by omega) = a := ⟨_, rfl⟩
  obtain ⟨b, eb⟩ : ∃ b, s[i + 2]'h2 = b := ⟨_, rfl⟩
  rw [ea] at ha
  rw [eb] at hb
  obtain ⟨j1, e1⟩ : ∃ j, i + 1 = j := ⟨_, rfl⟩
  obtain ⟨j3, e3⟩ : ∃ j, i + 3 = j := ⟨_, rfl⟩
  have f1 : (i : Int) + 1 = (j1 : Int) := by omega
  have f3 : (i : Int) + 3 = (j3 : Int) := by omega
  have g1 : IntKind.i64.wrap (j1 : Int) = (j1 : Int) := wrap_47 j1 (by omega)
  have g3 : IntKind.i64.wrap (j3 : Int) = (j3 : Int) := wrap_47b j3 s.size (by omega) hs
  have n1 : (0 : Int) ≤ (j1 : Int) := by omega
  have n3 : (0 : Int) ≤ (j3 : Int) := by omega
  have m1 : (j1 : Int) ≤ (j3 : Int) := by omega
  have m3 : (j3 : Int) ≤ (s.size : Int) := by omega
  obtain ⟨t, ht2⟩ : ∃ t, s.extract j1 j3 = t := ⟨_, rfl⟩
  have htl : t.data.toList = [a, b] := by
    rw [← ht2, ByteArray.data_extract, Array.toList_extract, List.extract_eq_take_drop, ← e1, ← e3, drop_get s (i + 1) (by omega), drop_get s (i + 2) h2, ea, eb]
    rw [show i + 3 - (i + 1) = 2 from by omega]
    rfl
  have hv256 : ((x * 16 + y : Nat) : Int) % 256 = ((x * 16 + y : Nat) : Int) := by omega
  have HT := Lib.hid (And.intro ha (And.intro hb htl))
  have HV := Lib.hid hv256
  clear ht ha hb ea eb e1 e3 htl hv256
  go_enter Tryz.func187, Tryz.ntmps187
  go_wp2_with fail
  refine (hex2_any t a b x y _ HT.out.2.2 HT.out.1 HT.out.2.1).mono ?_
  rintro e w' ⟨rfl, rfl⟩
  obtain ⟨N, hN⟩ : ∃ N, x * 16 + y = N := ⟨_, rfl⟩
  have hv2 := HV.out
  rw [hN] at hv2 ⊢
  go_wp2
  go_ret
  exact ⟨by rw [hN]; rfl, rfl⟩
set_option maxHeartbeats 1000000 in
theorem rtriple_any (s : ByteArray) (i : Nat) (w : World) (hi : i < s.size) (hs : s.size ≤ 140737488351232) :
    Calls Tryz.prog 186 #[.string s, .int .i64 i] w fun e w' => e = .returned (.bool (trip (s.data.toList.drop i)).isSome) ∧ w' = w := by
  obtain ⟨B, hB⟩ : ∃ B, (trip (s.data.toList.drop i)).isSome = B := ⟨_, rfl⟩
  rw [hB]
  obtain ⟨j1, e1⟩ : ∃ j, i + 1 = j := ⟨_, rfl⟩
  obtain ⟨j2, e2⟩ : ∃ j, i + 2 = j := ⟨_, rfl⟩
  have f1 : (i : Int) + 1 = (j1 : Int) := by omega
  have f2 : (i : Int) + 2 = (j2 : Int) := by omega
  have g1 : IntKind.i64.wrap (j1 : Int) = (j1 : Int) := wrap_47 j1 (by omega)
  have g2 : IntKind.i64.wrap (j2 : Int) = (j2 : Int) := wrap_47b j2 s.size (by omega) hs
  have k0 : (0 : Int) ≤ (i : Int) := by omega
  have k1 : (i : Int) < (s.size : Int) := by omega
  have n1 : (0 : Int) ≤ (j1 : Int) := by omega
  have n2 : (0 : Int) ≤ (j2 : Int) := by omega
  by_cases h2 : i + 2 < s.size
  · have m1 : (j1 : Int) < (s.size : Int) := by omega
    have m2 : (j2 : Int) < (s.size : Int) := by omega
    have lj1 : j1 < s.size := by omega
    have lj2 : j2 < s.size := by omega
    obtain ⟨c, hc⟩ : ∃ c, s[i]'hi = c := ⟨_, rfl⟩
    obtain ⟨a, ha⟩ : ∃ a, s[j1]'lj1 = a := ⟨_, rfl⟩
    obtain ⟨b, hb⟩ : ∃ b, s[j2]'lj2 = b := ⟨_, rfl⟩
    have hd := drop3 s i h2
    have ea : s[i + 1]'(by omega) = a := by subst e1; exact ha
    have eb : s[i + 2]'h2 = b := by subst e2; exact hb
    rw [hc, ea, eb] at hd
    rw [hd] at hB
    clear hd ea eb
    by_cases hp : c = 37
    · subst hp
      simp only [trip, if_true] at hB
      cases hx : hv a with
      | none =>
        rw [hx] at hB
        have q1 : (hv a).isSome = false := by rw [hx]; rfl
        have HB := Lib.hid hB; clear hB hx e1 e2 h2
        go_enter Tryz.func186, Tryz.ntmps186
        go_wp2_with fail
        refine (isHex_any a _).mono ?_
        rintro e w' ⟨rfl, rfl⟩
        rw [q1]
        go_wp2
        go_ret
        exact ⟨ret_bool HB.out, rfl⟩
      | some x =>
        have q1 : (hv a).isSome = true := by rw [hx]; rfl
        obtain ⟨B2, q2⟩ : ∃ B2, (hv b).isSome = B2 := ⟨_, rfl⟩
        have hBB : B2 = B := by
          rw [← hB, ← q2, hx]
          cases hy : hv b with
          | none => rfl
          | some y => rfl
        have HB := Lib.hid hBB; clear hB hx e1 e2 h2 hBB
        go_enter Tryz.func186, Tryz.ntmps186
        go_wp2_with fail
        refine (isHex_any a _).mono ?_
        rintro e w' ⟨rfl, rfl⟩
        rw [q1]
        go_wp2_with fail
        refine (isHex_any b _).mono ?_
        rintro e w' ⟨rfl, rfl⟩
        rw [q2]
        go_wp2
        go_ret
        exact ⟨ret_bool HB.out, rfl⟩
    · have hB2 : B = false := by rw [← hB]; simp only [trip]; rw [if_neg hp]; rfl
      have hne : ((c.toNat : Int) == 37) = false := by
        have : c.toNat ≠ 37 := fun e => hp (UInt8.toNat_inj.1 (by rw [e]; rfl))
        simp; omega
      have HB := Lib.hid hB2; clear hB hB2 e1 e2 h2 hp
      go_enter Tryz.func186, Tryz.ntmps186
      go_wp2
      go_ret
      exact ⟨ret_bool HB.out.symm, rfl⟩
  · have hB2 : B = false := by rw [← hB, trip_short _ (by rw [List.length_drop, size_list]; omega)]; rfl
    have m2 : decide ((j2 : Int) < (s.size : Int)) = false := decide_eq_false (by omega)
    have m3 : decide (j2 < s.size) = false := decide_eq_false (by omega)
    have HB := Lib.hid hB2; clear hB hB2 e1 e2 h2
    go_enter Tryz.func186, Tryz.ntmps186
    go_wp2
    go_ret
    exact ⟨ret_bool HB.out.symm, rfl⟩
theorem add33_47 (i n : Nat) (h : i + 3 ≤ n) (hn : n ≤ 140737488351232) : IntKind.i64.wrap ((i : Int) + 3) = (i : Int) + 3 := by rw [IntKind.wrap_i64]; omega
end Go.Proofs.YtpdbejeiceodkaaGreatDoor
