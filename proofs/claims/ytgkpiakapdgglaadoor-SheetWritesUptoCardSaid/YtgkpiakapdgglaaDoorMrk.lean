/- The walks of sheet.IsBoundary, turnpikeref09.IsMark and Stands. Conditions: fewer than 2^40 bytes. -/
import Derived.Test.YtgkpiakapdgglaaDoorOct7
import Derived.BigQuiet
import Derived.Deep.QuietTactic
import Derived.StillTailTactics
import Derived.Lib.IndexAny
namespace Go.Proofs.YtgkpiakapdgglaaDoor
open Go.RowKit
set_option linter.unusedSimpArgs false
set_option linter.unusedVariables false
set_option maxRecDepth 1000000
def mkL : List UInt8 := [39, 40, 41, 43, 95, 44, 45, 46, 47, 58, 61, 63]
/-- May stand in a boundary. -/
def bdr (c : UInt8) : Bool := (dgN c.toNat || ltN c.toNat) || mkL.contains c
def isMrk (l : List UInt8) : Bool := l.all bdr && (decide (1 ≤ l.length) && decide (l.length ≤ 70))
theorem mkL_ix (c : UInt8) : (Lib.indexByte (⟨#[39, 40, 41, 43, 95, 44, 45, 46, 47, 58, 61, 63]⟩ : ByteArray).data.toList c < 0) ↔ mkL.contains c = false := by
  have h := Lib.contains_iff_indexByte mkL c
  have e : (⟨#[39, 40, 41, 43, 95, 44, 45, 46, 47, 58, 61, 63]⟩ : ByteArray).data.toList = mkL := rfl
  rw [e, h, decide_eq_false_iff_not]
  omega
theorem isMrk_bad (l : List UInt8) (k : Nat) (c : UInt8) (h : l[k]? = some c) (hp : bdr c = false) : isMrk l = false := by
  unfold isMrk; rw [all_not bdr l k c h hp, Bool.false_and]
theorem isMrk_all (s : ByteArray) (h : (s.data.toList.take s.size).all bdr = true) : isMrk s.data.toList = (decide (1 ≤ s.size) && decide (s.size ≤ 70)) := by
  unfold isMrk; rw [all_full bdr s h, Bool.true_and, size_list]
theorem bdr_let (c : UInt8) (n : Nat) (h : c.toNat = n) (hc : (97 ≤ n ∧ n ≤ 122) ∨ (65 ≤ n ∧ n ≤ 90) ∨ (48 ≤ n ∧ n ≤ 57)) : bdr c = true := by
  subst h
  unfold bdr dgN ltN
  have : (decide (48 ≤ c.toNat ∧ c.toNat ≤ 57) || decide ((65 ≤ c.toNat ∧ c.toNat ≤ 90) ∨ (97 ≤ c.toNat ∧ c.toNat ≤ 122))) = true := by
    rw [Bool.or_eq_true, decide_eq_true_eq, decide_eq_true_eq]; omega
  rw [this, Bool.true_or]
theorem bdr_not (c : UInt8) (n : Nat) (h : c.toNat = n) (hc : ¬ ((97 ≤ n ∧ n ≤ 122) ∨ (65 ≤ n ∧ n ≤ 90) ∨ (48 ≤ n ∧ n ≤ 57))) : bdr c = mkL.contains c := by
  subst h
  unfold bdr dgN ltN
  have : (decide (48 ≤ c.toNat ∧ c.toNat ≤ 57) || decide ((65 ≤ c.toNat ∧ c.toNat ≤ 90) ∨ (97 ≤ c.toNat ∧ c.toNat ≤ 122))) = false := by
    rw [Bool.or_eq_false_iff, decide_eq_false_iff_not, decide_eq_false_iff_not]; omega
  rw [this, Bool.false_or]
theorem u8_back (c : UInt8) (n : Nat) (h : c.toNat = n) : ((n : Int).toNat).toUInt8 = c := by subst h; simp
set_option maxHeartbeats 8000000 in
theorem isbound_any (s : ByteArray) (w : World) (hs : s.size ≤ 1099511627776) : Calls Tryd.prog 15 #[.string s] w fun e w' => e = .returned (.bool (isMrk s.data.toList)) ∧ w' = w := by
  go_enter Tryd.func15, Tryd.ntmps15
  go_wp2
  go_loopw [8] (fun iv wr => ∃ i : Nat, iv = .int .i64 i ∧ i ≤ s.size ∧ (s.data.toList.take i).all bdr = true ∧ wr = w) (fun iv _ => s.size - (intOf iv).toNat)
  case atStart => exact ⟨0, rfl, Nat.zero_le _, rfl, rfl⟩
  case round =>
    obtain ⟨i, rfl, hi, hall, rfl⟩ := hrel
    by_cases hlt : i < s.size
    · obtain ⟨c, hc⟩ : ∃ c, s[i]'hlt = c := ⟨_, rfl⟩
      have hget := list_get s i hlt
      rw [hc] at hget
      have k0 : (0 : Int) ≤ (i : Int) := Int.natCast_nonneg _
      have k1 : (i : Int) < (s.size : Int) := by omega
      have hwi := w64o i (le_oo i s.size hi hs)
      obtain ⟨n, hn⟩ : ∃ n, c.toNat = n := ⟨_, rfl⟩
      have HA := Lib.hid (And.intro hall (And.intro hget hn)); have HW := Lib.hid hwi
      clear hall hget hwi
      have hcase : ((97 ≤ n ∧ n ≤ 122) ∨ (n < 97 ∧ 65 ≤ n ∧ n ≤ 90) ∨ (n < 97 ∧ n < 65 ∧ 48 ≤ n ∧ n ≤ 57)) ∨ ((97 ≤ n ∧ 122 < n) ∨ (n < 97 ∧ 90 < n) ∨ (n < 97 ∧ n < 65 ∧ 57 < n) ∨ (n < 97 ∧ n < 65 ∧ n < 48)) := by omega
      rcases hcase with hl | hl
      · have hb := bdr_let c n hn (by omega)
        have hx := all_take bdr _ i c HA.out.2.1 HA.out.1 hb
        have HX := Lib.hid hx
        clear hb hx
        rw [← hc] at hn
        clear hn
        rcases hl with ⟨h1, h2⟩ | ⟨h1, h2, h3⟩ | ⟨h1, h2, h3, h4⟩
        · have i1 : (97 : Int) ≤ (c.toNat : Int) := by rw [HA.out.2.2]; omega
          have i2 : (c.toNat : Int) ≤ 122 := by rw [HA.out.2.2]; omega
          go_wp2
          have hwi := HW.out
          go_roundw
          case rel => (try rw [hwi]); clear hwi; exact ⟨i + 1, by go_num, by omega, HX.out, by first | rfl | trivial⟩
          case measure => (try rw [hwi]); clear hwi; simp [intOf]; omega
        · have i0 : (c.toNat : Int) < 97 := by rw [HA.out.2.2]; omega
          have i1 : (65 : Int) ≤ (c.toNat : Int) := by rw [HA.out.2.2]; omega
          have i2 : (c.toNat : Int) ≤ 90 := by rw [HA.out.2.2]; omega
          go_wp2
          have hwi := HW.out
          go_roundw
          case rel => (try rw [hwi]); clear hwi; exact ⟨i + 1, by go_num, by omega, HX.out, by first | rfl | trivial⟩
          case measure => (try rw [hwi]); clear hwi; simp [intOf]; omega
        · have i0 : (c.toNat : Int) < 65 := by rw [HA.out.2.2]; omega
          have i1 : (48 : Int) ≤ (c.toNat : Int) := by rw [HA.out.2.2]; omega
          have i2 : (c.toNat : Int) ≤ 57 := by rw [HA.out.2.2]; omega
          go_wp2
          have hwi := HW.out
          go_roundw
          case rel => (try rw [hwi]); clear hwi; exact ⟨i + 1, by go_num, by omega, HX.out, by first | rfl | trivial⟩
          case measure => (try rw [hwi]); clear hwi; simp [intOf]; omega
      · have hb := bdr_not c n hn (by omega)
        have hix := mkL_ix c
        obtain ⟨z, hz⟩ : ∃ z, Lib.indexByte (⟨#[39, 40, 41, 43, 95, 44, 45, 46, 47, 58, 61, 63]⟩ : ByteArray).data.toList c = z := ⟨_, rfl⟩
        rw [hz, ← hb] at hix
        have hsi := Tryd.strings_IndexByte ⟨#[39, 40, 41, 43, 95, 44, 45, 46, 47, 58, 61, 63]⟩ (c.toNat : Int) wr
        rw [u8_back c c.toNat rfl, hz] at hsi
        have HSI := Lib.hid hsi
        clear hsi hz hb
        have hways : ∀ (P : Prop), ((97 : Int) ≤ (c.toNat : Int) → (122 : Int) < (c.toNat : Int) → decide ((c.toNat : Int) ≤ 122) = false → decide ((c.toNat : Int) ≤ 90) = false → decide ((c.toNat : Int) ≤ 57) = false → P) → ((c.toNat : Int) < 97 → (90 : Int) < (c.toNat : Int) → decide ((c.toNat : Int) ≤ 90) = false → decide ((c.toNat : Int) ≤ 57) = false → P) → ((c.toNat : Int) < 65 → (57 : Int) < (c.toNat : Int) → decide ((c.toNat : Int) ≤ 57) = false → P) → ((c.toNat : Int) < 48 → P) → P := fun P a b d e => by
          rw [hn] at a b d e
          rcases hl with h | h | h | h
          · exact a (by omega) (by omega) (decide_eq_false (by omega)) (decide_eq_false (by omega)) (decide_eq_false (by omega))
          · exact b (by omega) (by omega) (decide_eq_false (by omega)) (decide_eq_false (by omega))
          · exact d (by omega) (by omega) (decide_eq_false (by omega))
          · exact e (by omega)
        clear hl hn
        cases hbd : bdr c with
        | true =>
          have hzn : 0 ≤ z := by rw [hbd] at hix; have : ¬ z < 0 := fun h => by have := hix.1 h; cases this
                                 omega
          have hx := all_take bdr _ i c HA.out.2.1 HA.out.1 hbd
          have HX := Lib.hid hx
          clear hix hx hbd
          refine hways _ (fun j1 i1 j2 j3 j4 => ?_) (fun j1 i1 j2 j3 => ?_) (fun j1 i1 j2 => ?_) (fun j1 => ?_)
          all_goals
            clear hways
            go_wp2_with fail
            refine (HSI.out).mono ?_
            rintro e wr ⟨rfl, rfl⟩
            go_wp2
            have hwi := HW.out
            go_roundw
            case rel => (try rw [hwi]); clear hwi; exact ⟨i + 1, by go_num, by omega, HX.out, by first | rfl | trivial⟩
            case measure => (try rw [hwi]); clear hwi; simp [intOf]; omega
        | false =>
          have hzn : z < 0 := hix.2 hbd
          have hx := isMrk_bad _ i c HA.out.2.1 hbd
          have HX := Lib.hid hx
          clear hix hx hbd
          refine hways _ (fun j1 i1 j2 j3 j4 => ?_) (fun j1 i1 j2 j3 => ?_) (fun j1 i1 j2 => ?_) (fun j1 => ?_)
          all_goals
            clear hways
            go_wp2_with fail
            refine (HSI.out).mono ?_
            rintro e wr ⟨rfl, rfl⟩
            go_wp2
            go_ret
            exact ⟨ret_boolO HX.out.symm, rfl⟩
    · obtain rfl : i = s.size := by omega
      have hx := isMrk_all s hall
      have HX := Lib.hid hx
      clear hx hall
      go_wp2
      all_goals
        go_ret
        refine ⟨ret_boolO ?_, by first | rfl | trivial⟩
        rw [HX.out, Bool.eq_iff_iff]
        simp only [Bool.and_eq_true, decide_eq_true_eq, true_iff, iff_true, Bool.false_eq_true, false_iff, iff_false]
        omega
end Go.Proofs.YtgkpiakapdgglaaDoor
