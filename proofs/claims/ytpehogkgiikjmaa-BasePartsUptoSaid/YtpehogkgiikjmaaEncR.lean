/- The walk of turnpikeref03.Encode: it returns the plain function enc; nothing that was there turns. Conditions: at most 2^22 bytes. -/
import Derived.Test.YtpehogkgiikjmaaBuild
import Derived.Test.YtpehogkgiikjmaaBaseP
namespace Go.Proofs.Ytpehogkgiikjmaa
open Go.RowKit
set_option linter.unusedSimpArgs false
set_option linter.unusedVariables false
theorem sign_any (q : Int) (n : Nat) (w : World) (h0 : q = n) (h1 : n < 64) :
    Calls Try.prog 35 #[.int .i64 q] w fun e w' => e = .returned (.int .u8 (sg n).toNat) ∧ w = w' := by
  subst h0
  go_enter Try.func35, Try.ntmps35
  go_wp2
  go_ret
  exact ⟨by simp [sgb], rfl⟩
set_option maxRecDepth 100000 in
set_option maxHeartbeats 2000000 in
theorem rencode_any (s : ByteArray) (w : World) (hs : s.size ≤ 4194304) :
    Calls Try.prog 16 #[.string s] w fun e w' => e = .returned (.string ⟨(enc s.data.toList).toArray⟩) ∧ Below w.heap.size w w' := by
  obtain ⟨i0, hi, hz0, hz1, hz2⟩ := info_parts infoByte
  go_enter Try.func16, Try.ntmps16
  go_wp2
  go_loopw [3, 4] (fun v i wr => ∃ (k : Nat) (acc : List UInt8), i = .int .i64 k ∧ acc.length ≤ 2 * k ∧ k ≤ s.size + 2 ∧ acc ++ enc (s.data.toList.drop k) = enc s.data.toList ∧ wr.ownsRow w.heap.size 5 1 v acc.length (Lib.byteCells acc) ∧ Below w.heap.size w wr)
    (fun _ i _ => s.size + 2 - (intOf i).toNat)
  case atStart => 
    refine ⟨0, [], rfl, by simp, by simp, rfl, ?_, (Below.refl _ w).alloc (Nat.le_refl _) _⟩
    exact World.ownsRow_made w #[] 0 (Nat.le_refl _) (by simp) rfl
  case round =>
    obtain ⟨k, acc, rfl, hal, hk, hacc, hI, hbw⟩ := hrel
    have HA := Lib.hid hacc; clear hacc
    have hn : s.size ≤ k ∨ k + 1 = s.size ∨ k + 2 = s.size ∨ k + 3 ≤ s.size := by omega
    rcases hn with hn | hn | hn | hn
    · have hcv := run_str_own wr 27 5 Try.underlying27 Try.underlying5 hI 9 Try.underlying9
      go_wp2
      go_ret
      refine ⟨?_, hbw⟩
      rw [← HA.out, list_drop_all s k hn]; simp [enc]
    · have p0 : k < s.size := by omega
      have z0 : (k : Int) < s.size := by omega
      have z1 : ¬ (k : Int) + 1 < s.size := by omega
      have z2 : ¬ (k : Int) + 2 < s.size := by omega
      have henc := enc_d1 s k p0 hn
      obtain ⟨a, ea⟩ : ∃ n : Nat, (s[k]'p0).toNat = n := ⟨_, rfl⟩
      have wa := w64_byte' _ _ ea
      have la := byte_lt' _ _ ea
      rw [ea] at henc
      clear ea
      have HE := Lib.hid henc; clear henc
      have HN := Lib.hid hn; clear hn
      have lg := grp_lt a 0 0 la (by omega) (by omega)
      have eg := e_g1 a
      have hbs := hbw.size
      go_wp2_with fail
      refine (sign_any _ (grp a 0 0 / 262144) _ (by omega) (by omega)).mono ?_
      rintro e w0 ⟨rfl, rfl⟩
      go_wp2_with fail
      refine (sign_any _ (grp a 0 0 / 4096 % 64) _ (by omega) (by omega)).mono ?_
      rintro e w0 ⟨rfl, rfl⟩
      go_wp2_with (at_builtin; refine wpList_append_own _ rfl (.tmp 47) (.tmp 55) 27 rfl w.heap.size 5 i0 (.int .u8 0) 1 1 Try.underlying27 hi hz0 hz1 hz2 rfl (by decide) _ _ _ rfl (hI.alloc _) ⟨wr.heap.size, 0, none⟩ 2 2 (Lib.byteCells [sg (grp a 0 0 / 262144), sg (grp a 0 0 / 4096 % 64)]) rfl rfl (cells_new _ _ _) (byteCells_oneCell _) ?d11 ?e11 ?f11 ?_)
      case d11 => unfold maxLen; omega
      case e11 => omega
      case f11 => simp; omega
      intro v1 w1 hI1 hg1 _
      rw [← Lib.byteCells_append] at hI1
      have hb1 := (hbw.alloc (by omega) _).grown hg1 (by simp; omega) (fun j hj => (hI.lt j hj).1)
      have hs1 := hb1.size
      clear hg1
      go_wp2_with (at_builtin; refine wpList_append_own _ rfl (.tmp 69) (.tmp 70) 27 rfl w.heap.size 5 i0 (.int .u8 0) 1 1 Try.underlying27 hi hz0 hz1 hz2 rfl (by decide) _ _ _ rfl (hI1.alloc _) ⟨w1.heap.size, 0, none⟩ 1 1 (Lib.byteCells [61]) rfl rfl (cells_new _ _ _) (byteCells_oneCell _) ?d12 ?e12 ?f12 ?_)
      case d12 => unfold maxLen; omega
      case e12 => omega
      case f12 => simp; omega
      intro v2 w2 hI2 hg2 _
      rw [← Lib.byteCells_append] at hI2
      have hb2 := (hb1.alloc (by omega) _).grown hg2 (by simp; omega) (fun j hj => (hI1.lt j hj).1)
      have hs2 := hb2.size
      clear hg2
      go_wp2_with (at_builtin; refine wpList_append_own _ rfl (.tmp 83) (.tmp 84) 27 rfl w.heap.size 5 i0 (.int .u8 0) 1 1 Try.underlying27 hi hz0 hz1 hz2 rfl (by decide) _ _ _ rfl (hI2.alloc _) ⟨w2.heap.size, 0, none⟩ 1 1 (Lib.byteCells [61]) rfl rfl (cells_new _ _ _) (byteCells_oneCell _) ?d13 ?e13 ?f13 ?_)
      case d13 => unfold maxLen; omega
      case e13 => omega
      case f13 => simp; omega
      intro v3 w3 hI3 hg3 _
      rw [← Lib.byteCells_append] at hI3
      have hb3 := (hb2.alloc (by omega) _).grown hg3 (by simp; omega) (fun j hj => (hI2.lt j hj).1)
      have hs3 := hb3.size
      clear hg3
      go_wp2
      go_roundw
      case rel => exact ⟨k + 3, acc ++ [sg (grp a 0 0 / 262144), sg (grp a 0 0 / 4096 % 64), 61, 61], by go_num, by simp; omega, by omega, by rw [← HA.out, HE.out]; simp, by simpa using hI3, hb3⟩
      case measure => simp [intOf]; omega
    · have p0 : k < s.size := by omega
      have z0 : (k : Int) < s.size := by omega
      have p1 : k + 1 < s.size := by omega
      have z1 : (k : Int) + 1 < s.size := by omega
      have z2 : ¬ (k : Int) + 2 < s.size := by omega
      have henc := enc_d2 s k p0 p1 hn
      obtain ⟨a, ea⟩ : ∃ n : Nat, (s[k]'p0).toNat = n := ⟨_, rfl⟩
      have wa := w64_byte' _ _ ea
      have la := byte_lt' _ _ ea
      obtain ⟨b, eb⟩ : ∃ n : Nat, (s[k + 1]'p1).toNat = n := ⟨_, rfl⟩
      have wb := w64_byte' _ _ eb
      have lb := byte_lt' _ _ eb
      rw [ea, eb] at henc
      clear ea eb
      have HE := Lib.hid henc; clear henc
      have HN := Lib.hid hn; clear hn
      have lg := grp_lt a b 0 la lb (by omega)
      have eg := e_g2 a b
      have hbs := hbw.size
      go_wp2_with fail
      refine (sign_any _ (grp a b 0 / 262144) _ (by omega) (by omega)).mono ?_
      rintro e w0 ⟨rfl, rfl⟩
      go_wp2_with fail
      refine (sign_any _ (grp a b 0 / 4096 % 64) _ (by omega) (by omega)).mono ?_
      rintro e w0 ⟨rfl, rfl⟩
      go_wp2_with (at_builtin; refine wpList_append_own _ rfl (.tmp 47) (.tmp 55) 27 rfl w.heap.size 5 i0 (.int .u8 0) 1 1 Try.underlying27 hi hz0 hz1 hz2 rfl (by decide) _ _ _ rfl (hI.alloc _) ⟨wr.heap.size, 0, none⟩ 2 2 (Lib.byteCells [sg (grp a b 0 / 262144), sg (grp a b 0 / 4096 % 64)]) rfl rfl (cells_new _ _ _) (byteCells_oneCell _) ?d21 ?e21 ?f21 ?_)
      case d21 => unfold maxLen; omega
      case e21 => omega
      case f21 => simp; omega
      intro v1 w1 hI1 hg1 _
      rw [← Lib.byteCells_append] at hI1
      have hb1 := (hbw.alloc (by omega) _).grown hg1 (by simp; omega) (fun j hj => (hI.lt j hj).1)
      have hs1 := hb1.size
      clear hg1
      go_wp2_with fail
      refine (sign_any _ (grp a b 0 / 64 % 64) _ (by omega) (by omega)).mono ?_
      rintro e w0 ⟨rfl, rfl⟩
      go_wp2_with (at_builtin; refine wpList_append_own _ rfl (.tmp 62) (.tmp 67) 27 rfl w.heap.size 5 i0 (.int .u8 0) 1 1 Try.underlying27 hi hz0 hz1 hz2 rfl (by decide) _ _ _ rfl (hI1.alloc _) ⟨w1.heap.size, 0, none⟩ 1 1 (Lib.byteCells [sg (grp a b 0 / 64 % 64)]) rfl rfl (cells_new _ _ _) (byteCells_oneCell _) ?d22 ?e22 ?f22 ?_)
      case d22 => unfold maxLen; omega
      case e22 => omega
      case f22 => simp; omega
      intro v2 w2 hI2 hg2 _
      rw [← Lib.byteCells_append] at hI2
      have hb2 := (hb1.alloc (by omega) _).grown hg2 (by simp; omega) (fun j hj => (hI1.lt j hj).1)
      have hs2 := hb2.size
      clear hg2
      go_wp2_with (at_builtin; refine wpList_append_own _ rfl (.tmp 83) (.tmp 84) 27 rfl w.heap.size 5 i0 (.int .u8 0) 1 1 Try.underlying27 hi hz0 hz1 hz2 rfl (by decide) _ _ _ rfl (hI2.alloc _) ⟨w2.heap.size, 0, none⟩ 1 1 (Lib.byteCells [61]) rfl rfl (cells_new _ _ _) (byteCells_oneCell _) ?d23 ?e23 ?f23 ?_)
      case d23 => unfold maxLen; omega
      case e23 => omega
      case f23 => simp; omega
      intro v3 w3 hI3 hg3 _
      rw [← Lib.byteCells_append] at hI3
      have hb3 := (hb2.alloc (by omega) _).grown hg3 (by simp; omega) (fun j hj => (hI2.lt j hj).1)
      have hs3 := hb3.size
      clear hg3
      go_wp2
      go_roundw
      case rel => exact ⟨k + 3, acc ++ [sg (grp a b 0 / 262144), sg (grp a b 0 / 4096 % 64), sg (grp a b 0 / 64 % 64), 61], by go_num, by simp; omega, by omega, by rw [← HA.out, HE.out]; simp, by simpa using hI3, hb3⟩
      case measure => simp [intOf]; omega
    · have p0 : k < s.size := by omega
      have z0 : (k : Int) < s.size := by omega
      have p1 : k + 1 < s.size := by omega
      have z1 : (k : Int) + 1 < s.size := by omega
      have p2 : k + 2 < s.size := by omega
      have z2 : (k : Int) + 2 < s.size := by omega
      have henc := enc_d3 s k p0 p1 p2
      obtain ⟨a, ea⟩ : ∃ n : Nat, (s[k]'p0).toNat = n := ⟨_, rfl⟩
      have wa := w64_byte' _ _ ea
      have la := byte_lt' _ _ ea
      obtain ⟨b, eb⟩ : ∃ n : Nat, (s[k + 1]'p1).toNat = n := ⟨_, rfl⟩
      have wb := w64_byte' _ _ eb
      have lb := byte_lt' _ _ eb
      obtain ⟨c, ec⟩ : ∃ n : Nat, (s[k + 2]'p2).toNat = n := ⟨_, rfl⟩
      have wc := w64_byte' _ _ ec
      have lc := byte_lt' _ _ ec
      rw [ea, eb, ec] at henc
      clear ea eb ec
      have HE := Lib.hid henc; clear henc
      have HN := Lib.hid hn; clear hn
      have lg := grp_lt a b c la lb lc
      have eg := e_g3 a b c
      have hbs := hbw.size
      go_wp2_with fail
      refine (sign_any _ (grp a b c / 262144) _ (by omega) (by omega)).mono ?_
      rintro e w0 ⟨rfl, rfl⟩
      go_wp2_with fail
      refine (sign_any _ (grp a b c / 4096 % 64) _ (by omega) (by omega)).mono ?_
      rintro e w0 ⟨rfl, rfl⟩
      go_wp2_with (at_builtin; refine wpList_append_own _ rfl (.tmp 47) (.tmp 55) 27 rfl w.heap.size 5 i0 (.int .u8 0) 1 1 Try.underlying27 hi hz0 hz1 hz2 rfl (by decide) _ _ _ rfl (hI.alloc _) ⟨wr.heap.size, 0, none⟩ 2 2 (Lib.byteCells [sg (grp a b c / 262144), sg (grp a b c / 4096 % 64)]) rfl rfl (cells_new _ _ _) (byteCells_oneCell _) ?d31 ?e31 ?f31 ?_)
      case d31 => unfold maxLen; omega
      case e31 => omega
      case f31 => simp; omega
      intro v1 w1 hI1 hg1 _
      rw [← Lib.byteCells_append] at hI1
      have hb1 := (hbw.alloc (by omega) _).grown hg1 (by simp; omega) (fun j hj => (hI.lt j hj).1)
      have hs1 := hb1.size
      clear hg1
      go_wp2_with fail
      refine (sign_any _ (grp a b c / 64 % 64) _ (by omega) (by omega)).mono ?_
      rintro e w0 ⟨rfl, rfl⟩
      go_wp2_with (at_builtin; refine wpList_append_own _ rfl (.tmp 62) (.tmp 67) 27 rfl w.heap.size 5 i0 (.int .u8 0) 1 1 Try.underlying27 hi hz0 hz1 hz2 rfl (by decide) _ _ _ rfl (hI1.alloc _) ⟨w1.heap.size, 0, none⟩ 1 1 (Lib.byteCells [sg (grp a b c / 64 % 64)]) rfl rfl (cells_new _ _ _) (byteCells_oneCell _) ?d32 ?e32 ?f32 ?_)
      case d32 => unfold maxLen; omega
      case e32 => omega
      case f32 => simp; omega
      intro v2 w2 hI2 hg2 _
      rw [← Lib.byteCells_append] at hI2
      have hb2 := (hb1.alloc (by omega) _).grown hg2 (by simp; omega) (fun j hj => (hI1.lt j hj).1)
      have hs2 := hb2.size
      clear hg2
      go_wp2_with fail
      refine (sign_any _ (grp a b c % 64) _ (by omega) (by omega)).mono ?_
      rintro e w0 ⟨rfl, rfl⟩
      go_wp2_with (at_builtin; refine wpList_append_own _ rfl (.tmp 77) (.tmp 81) 27 rfl w.heap.size 5 i0 (.int .u8 0) 1 1 Try.underlying27 hi hz0 hz1 hz2 rfl (by decide) _ _ _ rfl (hI2.alloc _) ⟨w2.heap.size, 0, none⟩ 1 1 (Lib.byteCells [sg (grp a b c % 64)]) rfl rfl (cells_new _ _ _) (byteCells_oneCell _) ?d33 ?e33 ?f33 ?_)
      case d33 => unfold maxLen; omega
      case e33 => omega
      case f33 => simp; omega
      intro v3 w3 hI3 hg3 _
      rw [← Lib.byteCells_append] at hI3
      have hb3 := (hb2.alloc (by omega) _).grown hg3 (by simp; omega) (fun j hj => (hI2.lt j hj).1)
      have hs3 := hb3.size
      clear hg3
      go_wp2
      go_roundw
      case rel => exact ⟨k + 3, acc ++ [sg (grp a b c / 262144), sg (grp a b c / 4096 % 64), sg (grp a b c / 64 % 64), sg (grp a b c % 64)], by go_num, by simp; omega, by omega, by rw [← HA.out, HE.out]; simp, by simpa using hI3, hb3⟩
      case measure => simp [intOf]; omega
end Go.Proofs.Ytpehogkgiikjmaa
