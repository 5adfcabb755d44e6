/- The walks of isName (handle's, the reference's). Conditions: fewer than 2^40 bytes. -/
import Derived.Test.YtdlpbpikhmciaaaGreatDoorHdP
import Derived.Test.YtdlpbpikhmciaaaGreatDoorOct3
namespace Go.Proofs.YtdlpbpikhmciaaaGreatDoor
open Go.RowKit
set_option linter.unusedSimpArgs false
set_option linter.unusedVariables false
set_option maxRecDepth 1000000
theorem nmC_yes (i : Nat) (c : UInt8) (a : Nat) (h : c.toNat = a) (hx : ((97 ≤ a ∧ a ≤ 122) ∨ (65 ≤ a ∧ a ≤ 90)) ∨ (0 < i ∧ ((48 ≤ a ∧ a ≤ 57) ∨ a = 95))) : nmC i c = true := by
  subst h
  unfold nmC isLt isDg
  simp only [Bool.or_eq_true, Bool.and_eq_true, decide_eq_true_eq, beq_iff_eq]
  omega
theorem nmC_no (i : Nat) (c : UInt8) (a : Nat) (h : c.toNat = a) (hx : ¬ (((97 ≤ a ∧ a ≤ 122) ∨ (65 ≤ a ∧ a ≤ 90)) ∨ (0 < i ∧ ((48 ≤ a ∧ a ≤ 57) ∨ a = 95)))) : nmC i c = false := by
  cases hn : nmC i c with
  | false => rfl
  | true =>
    exfalso
    subst h
    unfold nmC isLt isDg at hn
    simp only [Bool.or_eq_true, Bool.and_eq_true, decide_eq_true_eq, beq_iff_eq] at hn
    omega
theorem isNm_of (l : List UInt8) (b : Bool) (h : okN 0 l = b) : isNm l = (!l.isEmpty && b) := by unfold isNm; rw [h]
theorem isNm_off (s : ByteArray) (pos : Nat) (h : pos < s.size) (hk : okN pos (s.data.toList.drop pos) = okN 0 s.data.toList) (hb : nmC pos (s[pos]'h) = false) : isNm s.data.toList = false := by
  rw [drop_get s pos h, okN_bad _ _ _ hb] at hk
  rw [isNm_of _ _ hk.symm, Bool.and_false]
theorem okN_next (s : ByteArray) (pos : Nat) (h : pos < s.size) (hk : okN pos (s.data.toList.drop pos) = okN 0 s.data.toList) (hb : nmC pos (s[pos]'h) = true) : okN (pos + 1) (s.data.toList.drop (pos + 1)) = okN 0 s.data.toList := by
  rw [drop_get s pos h, okN_good _ _ _ hb] at hk
  exact hk
theorem isNm_done (s : ByteArray) (hk : okN s.size (s.data.toList.drop s.size) = okN 0 s.data.toList) : isNm s.data.toList = !s.data.toList.isEmpty := by
  rw [List.drop_of_length_le (by rw [size_list]; exact Nat.le_refl _)] at hk
  rw [isNm_of _ _ hk.symm]
  simp [okN]
set_option maxHeartbeats 4000000 in
theorem oisname_any (s : ByteArray) (w : World) (hs : s.size ≤ 1099511627776) :
    Calls Tryz.prog 33 #[.string s] w fun e w' => e = .returned (.bool (isNm s.data.toList)) ∧ Below w.heap.size w w' := by
  have hbi : ∀ pos, Below w.heap.size w (w.iter s pos) := fun pos => (Below.refl _ w).alloc (Nat.le_refl _) _
  have HBI := Lib.hid hbi; clear hbi
  go_enter Tryz.func33, Tryz.ntmps33
  go_wp2
  go_loopw [] (fun wr => ∃ pos : Nat, wr = w.iter s pos ∧ pos ≤ s.size ∧ okN pos (s.data.toList.drop pos) = okN 0 s.data.toList) (fun wr => s.size - wr.iterPos w.heap.size)
  case atStart => exact ⟨0, rfl, Nat.zero_le _, rfl⟩
  case round =>
    obtain ⟨pos, rfl, hpos, hk⟩ := hrel
    by_cases hp : pos < s.size
    · obtain ⟨a, ea⟩ : ∃ a, (s[pos]'hp).toNat = a := ⟨_, rfl⟩
      have hoff := isNm_off s pos hp hk
      have hnxt := okN_next s pos hp hk
      have HK := Lib.hid (And.intro hoff hnxt)
      clear hoff hnxt hk
      by_cases hlow : a < 128
      · have hnx : ∀ ty, (Instr.next (.pointer (some ⟨w.heap.size, 0, none⟩)) true ty).run Tryz.prog (w.iter s pos) = .ok (.tuple #[.bool true, .int .i64 pos, .int .i32 a]) (w.iter s (pos + 1)) := fun ty => by
          rw [run_next_ascii w s pos ty hp (by omega), ea]
        have HEA := Lib.hid ea
        clear ea
        by_cases hg : ((97 ≤ a ∧ a ≤ 122) ∨ (65 ≤ a ∧ a ≤ 90)) ∨ (0 < pos ∧ ((48 ≤ a ∧ a ≤ 57) ∨ a = 95))
        · have HX := Lib.hid (HK.out.2 (nmC_yes _ _ a HEA.out hg))
          clear HK HEA
          have q0 : (0 : Int) ≤ (pos : Int) := Int.natCast_nonneg _
          rcases hg with (⟨g1, g2⟩ | ⟨g1, g2⟩) | ⟨g0, ⟨g1, g2⟩ | g1⟩
          case' inr.inr => subst g1
          all_goals (try have g0' : ((pos : Int) == 0) = false := by simp; omega)
          all_goals
            go_wp2
            go_roundw
            case rel => exact ⟨pos + 1, rfl, hp, HX.out⟩
            case measure => simp [World.iterPos_iter]; omega
        · have HX := Lib.hid (HK.out.1 (nmC_no _ _ a HEA.out hg))
          clear HK HEA
          have hg2 : (a < 48 ∨ (58 ≤ a ∧ a ≤ 64) ∨ (91 ≤ a ∧ a ≤ 94) ∨ a = 96 ∨ 123 ≤ a) ∨ (pos = 0 ∧ ((48 ≤ a ∧ a ≤ 57) ∨ a = 95)) := by omega
          clear hg
          rcases hg2 with (g1 | ⟨g1, g2⟩ | ⟨g1, g2⟩ | g1 | g1) | ⟨g0, ⟨g1, g2⟩ | g1⟩
          all_goals (try subst g0)
          all_goals (try subst g1)
          all_goals
            go_wp2
            all_goals first
              | (go_ret
                 exact ⟨ret_boolO HX.out.symm, HBI.out _⟩)
              | (exfalso
                 (try simp only [Bool.not_eq_true', Bool.not_eq_false', decide_eq_false_iff_not, Bool.and_eq_true, Bool.or_eq_true, decide_eq_true_eq, bne_iff_ne, beq_iff_eq] at *)
                 omega)
      · obtain ⟨r, hr⟩ : ∃ r, (Utf8.decode s pos).1 = r := ⟨_, rfl⟩
        obtain ⟨n, hn⟩ : ∃ n, (Utf8.decode s pos).2 = n := ⟨_, rfl⟩
        have hr1 : 128 ≤ r := by rw [← hr]; exact (decode_high s pos hp (by omega)).1
        have hnx : ∀ ty, (Instr.next (.pointer (some ⟨w.heap.size, 0, none⟩)) true ty).run Tryz.prog (w.iter s pos) = .ok (.tuple #[.bool true, .int .i64 pos, .int .i32 r]) (w.iter s (pos + n)) := fun ty => by
          rw [run_next_any w s pos ty hp, hr, hn]
        have HX := Lib.hid (HK.out.1 (nmC_no _ _ a ea (by omega)))
        have i1 : (97 : Int) ≤ (r : Int) := by omega
        have i2 : ¬ (r : Int) ≤ 122 := by omega
        have i3 : (65 : Int) ≤ (r : Int) := by omega
        have i4 : ¬ (r : Int) ≤ 90 := by omega
        have i5 : (48 : Int) ≤ (r : Int) := by omega
        have i6 : ¬ (r : Int) ≤ 57 := by omega
        have i7 : ((r : Int) == 95) = false := by simp; omega
        clear ea hr hn hr1 hlow
        go_wp2
        all_goals
          go_ret
          exact ⟨ret_boolO HX.out.symm, HBI.out _⟩
    · obtain rfl : pos = s.size := by omega
      have HX := Lib.hid (isNm_done s hk)
      have hnx : ∀ ty, (Instr.next (.pointer (some ⟨w.heap.size, 0, none⟩)) true ty).run Tryz.prog (w.iter s s.size) = .ok (.tuple #[.bool false]) (w.iter s s.size) := fun ty => run_next_end w s s.size ty (Nat.lt_irrefl _)
      clear hk
      go_wp2
      go_ret
      refine ⟨ret_boolO ?_, HBI.out _⟩
      rw [HX.out, ← ByteArray.toList_eq]
end Go.Proofs.YtdlpbpikhmciaaaGreatDoor
