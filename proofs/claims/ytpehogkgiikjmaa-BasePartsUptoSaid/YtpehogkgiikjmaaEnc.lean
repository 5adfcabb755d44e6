/- The walks of base.Encode, base.Hex and their references: they return the plain functions enc, hexL; nothing that was there turns. Conditions: at most 2^20 bytes. -/
import Derived.Test.YtpehogkgiikjmaaShelf
import Derived.Test.YtpehogkgiikjmaaBuild
import Derived.Test.YtpehogkgiikjmaaBaseP
namespace Go.Proofs.Ytpehogkgiikjmaa
open Go.RowKit
set_option linter.unusedSimpArgs false
set_option linter.unusedVariables false
set_option maxRecDepth 100000 in
set_option maxHeartbeats 2000000 in
theorem encode_any (s : ByteArray) (w : World) (hs : s.size ≤ 4194304) :
    Calls Try.prog 15 #[.string s] w fun e w' => e = .returned (.string ⟨(enc s.data.toList).toArray⟩) ∧ Below w.heap.size w w' := by
  go_enter Try.func15, Try.ntmps15
  go_wp2
  go_loopw [0] (fun t wr => ∃ (s1 : ByteArray) (acc : List UInt8), t = .string s1 ∧ s1.size ≤ s.size ∧ acc.length + 4 * s1.size ≤ 4 * s.size ∧ acc ++ enc s1.data.toList = enc s.data.toList ∧ Lib.IsBuilder 51 5 w.heap.size w.heap.size (Lib.byteCells acc) wr ∧ Below w.heap.size w wr)
    (fun t _ => match t with | .string s1 => s1.size | _ => 0)
  case atStart => exact ⟨s, [], rfl, Nat.le_refl _, by simp, rfl, Lib.fresh_isBuilder _ _ w, (Below.refl _ w).alloc (Nat.le_refl _) _⟩
  case round =>
    obtain ⟨t, acc, rfl, hsz, hal, hacc, hI, hbw⟩ := hrel
    have HA := Lib.hid hacc; clear hacc
    have hn : t.size = 0 ∨ t.size = 1 ∨ t.size = 2 ∨ 3 ≤ t.size := by omega
    rcases hn with hn | hn | hn | hn
    · have hem := empty_of t hn
      have hl := list_nil_of t hn
      have HL := Lib.hid hl; clear hl hn
      go_wp2_with (go_at_call 34; refine (Try.Builder_String_any _ _ acc _ hI (by have := hbw.size; omega)).mono ?_)
      rintro e w1 ⟨rfl, hb1⟩
      go_wp2
      go_ret
      refine ⟨?_, hbw.trans hb1⟩
      rw [← HA.out, HL.out]; simp [enc]
    · have hne := nonempty_of t (by omega)
      have h0 : (0 : Int) < t.size := by omega
      have h1 : ¬ (1 : Int) < t.size := by omega
      have h2 : ¬ (2 : Int) < t.size := by omega
      have hz : (t.size : Int) = 1 := by omega
      have HZ := Lib.hid hz; clear hz
      have k0 : ¬ (t.size : Int) < 0 := by omega
      have k1 : ¬ (t.size : Int) < 1 := by omega
      have k2 : (t.size : Int) < 2 := by omega
      have k3 : (t.size : Int) < 3 := by omega
      have hm : (min 3 (t.size : Int)).toNat = 1 := by omega
      have henc := enc_1 t (by omega)
      have p0 : 0 < t.size := by omega
      obtain ⟨a, ea⟩ : ∃ n : Nat, (t[0]'p0).toNat = n := ⟨_, rfl⟩
      have wa := w64_byte' _ _ ea
      have la := byte_lt' _ _ ea
      rw [ea] at henc
      clear ea
      have HE := Lib.hid henc; clear henc
      have o0 := e_o0 a la
      have o2 := e_p1 a
      have lg := grp_lt a 0 0 la (by omega) (by omega)
      have s0 := e_s0 _ lg
      have s1 : bits .and .i64 ((grp a 0 0 : Int) / 4096) 63 = ((grp a 0 0 / 4096 % 64 : Nat) : Int) := e_s _ 4096 lg
      have s2 : bits .and .i64 ((grp a 0 0 : Int) / 64) 63 = ((grp a 0 0 / 64 % 64 : Nat) : Int) := e_s _ 64 lg
      have s3 := e_s3 _ lg
      have HN := Lib.hid hn; clear hn
      go_wp2
      refine wp_loop_rounds 4 ?_
      rw [rounds_succ]; go_wp2
      rw [rounds_succ]; go_wp2
      rw [rounds_succ]; go_wp2
      rw [rounds_succ]; go_wp2
      refine wp_loop_rounds 5 ?_
      rw [rounds_succ]; go_wp2_with fail
      refine (writeByte_u8 _ _ _ _ _ hI (by simp; omega) (by have := hbw.size; omega)).mono ?_
      rintro e w1 ⟨rfl, hI1, hb1⟩
      rw [sgb] at hI1
      go_wp2
      rw [rounds_succ]; go_wp2_with fail
      refine (writeByte_u8 _ _ _ _ _ hI1 (by simp; omega) (by have := hbw.size; have := hb1.size; omega)).mono ?_
      rintro e w2 ⟨rfl, hI2, hb2⟩
      rw [sgb] at hI2
      go_wp2
      rw [rounds_succ]; go_wp2_with fail
      refine (writeByte_61 _ _ _ _ hI2 (by simp; omega) (by have := hbw.size; have := hb1.size; have := hb2.size; omega)).mono ?_
      rintro e w3 ⟨rfl, hI3, hb3⟩
      go_wp2
      rw [rounds_succ]; go_wp2_with fail
      refine (writeByte_61 _ _ _ _ hI3 (by simp; omega) (by have := hbw.size; have := hb1.size; have := hb2.size; have := hb3.size; omega)).mono ?_
      rintro e w4 ⟨rfl, hI4, hb4⟩
      go_wp2
      rw [rounds_succ]; go_wp2
      go_roundw
      case rel => have hn := HN.out; exact ⟨t.extract 1 t.size, acc ++ [sg (grp a 0 0 / 262144), sg (grp a 0 0 / 4096 % 64), 61, 61], (by first | rfl | rw [hm]), by rw [ext_size]; omega, by rw [ext_size]; simp; omega, by rw [← HA.out, HE.out, ext_list]; simp [enc, list_drop_all t 1 (by omega)], by simpa using hI4, (((hbw.trans hb1).trans hb2).trans hb3).trans hb4⟩
      case measure => have hn := HN.out; first | (simp [ext_size]; omega) | (simp [hm, ext_size]; omega)
    · have hne := nonempty_of t (by omega)
      have h0 : (0 : Int) < t.size := by omega
      have h1 : (1 : Int) < t.size := by omega
      have h2 : ¬ (2 : Int) < t.size := by omega
      have hz : (t.size : Int) = 2 := by omega
      have HZ := Lib.hid hz; clear hz
      have k0 : ¬ (t.size : Int) < 0 := by omega
      have k1 : ¬ (t.size : Int) < 1 := by omega
      have k2 : ¬ (t.size : Int) < 2 := by omega
      have k3 : (t.size : Int) < 3 := by omega
      have hm : (min 3 (t.size : Int)).toNat = 2 := by omega
      have henc := enc_2 t (by omega)
      have p0 : 0 < t.size := by omega
      obtain ⟨a, ea⟩ : ∃ n : Nat, (t[0]'p0).toNat = n := ⟨_, rfl⟩
      have wa := w64_byte' _ _ ea
      have la := byte_lt' _ _ ea
      have p1 : 1 < t.size := by omega
      obtain ⟨b, eb⟩ : ∃ n : Nat, (t[1]'p1).toNat = n := ⟨_, rfl⟩
      have wb := w64_byte' _ _ eb
      have lb := byte_lt' _ _ eb
      rw [ea, eb] at henc
      clear ea eb
      have HE := Lib.hid henc; clear henc
      have o0 := e_o0 a la
      have o1 := e_o1 a b la lb
      have o2 := e_p2 a b
      have lg := grp_lt a b 0 la lb (by omega)
      have s0 := e_s0 _ lg
      have s1 : bits .and .i64 ((grp a b 0 : Int) / 4096) 63 = ((grp a b 0 / 4096 % 64 : Nat) : Int) := e_s _ 4096 lg
      have s2 : bits .and .i64 ((grp a b 0 : Int) / 64) 63 = ((grp a b 0 / 64 % 64 : Nat) : Int) := e_s _ 64 lg
      have s3 := e_s3 _ lg
      have HN := Lib.hid hn; clear hn
      go_wp2
      refine wp_loop_rounds 4 ?_
      rw [rounds_succ]; go_wp2
      rw [rounds_succ]; go_wp2
      rw [rounds_succ]; go_wp2
      rw [rounds_succ]; go_wp2
      refine wp_loop_rounds 5 ?_
      rw [rounds_succ]; go_wp2_with fail
      refine (writeByte_u8 _ _ _ _ _ hI (by simp; omega) (by have := hbw.size; omega)).mono ?_
      rintro e w1 ⟨rfl, hI1, hb1⟩
      rw [sgb] at hI1
      go_wp2
      rw [rounds_succ]; go_wp2_with fail
      refine (writeByte_u8 _ _ _ _ _ hI1 (by simp; omega) (by have := hbw.size; have := hb1.size; omega)).mono ?_
      rintro e w2 ⟨rfl, hI2, hb2⟩
      rw [sgb] at hI2
      go_wp2
      rw [rounds_succ]; go_wp2_with fail
      refine (writeByte_u8 _ _ _ _ _ hI2 (by simp; omega) (by have := hbw.size; have := hb1.size; have := hb2.size; omega)).mono ?_
      rintro e w3 ⟨rfl, hI3, hb3⟩
      rw [sgb] at hI3
      go_wp2
      rw [rounds_succ]; go_wp2_with fail
      refine (writeByte_61 _ _ _ _ hI3 (by simp; omega) (by have := hbw.size; have := hb1.size; have := hb2.size; have := hb3.size; omega)).mono ?_
      rintro e w4 ⟨rfl, hI4, hb4⟩
      go_wp2
      rw [rounds_succ]; go_wp2
      go_roundw
      case rel => have hn := HN.out; exact ⟨t.extract 2 t.size, acc ++ [sg (grp a b 0 / 262144), sg (grp a b 0 / 4096 % 64), sg (grp a b 0 / 64 % 64), 61], (by first | rfl | rw [hm]), by rw [ext_size]; omega, by rw [ext_size]; simp; omega, by rw [← HA.out, HE.out, ext_list]; simp [enc, list_drop_all t 2 (by omega)], by simpa using hI4, (((hbw.trans hb1).trans hb2).trans hb3).trans hb4⟩
      case measure => have hn := HN.out; first | (simp [ext_size]; omega) | (simp [hm, ext_size]; omega)
    · have hne := nonempty_of t (by omega)
      have h0 : (0 : Int) < t.size := by omega
      have h1 : (1 : Int) < t.size := by omega
      have h2 : (2 : Int) < t.size := by omega
      have k0 : ¬ (t.size : Int) < 0 := by omega
      have k1 : ¬ (t.size : Int) < 1 := by omega
      have k2 : ¬ (t.size : Int) < 2 := by omega
      have k3 : ¬ (t.size : Int) < 3 := by omega
      have hm : (min 3 (t.size : Int)).toNat = 3 := by omega
      have henc := enc_3 t (by omega)
      have p0 : 0 < t.size := by omega
      obtain ⟨a, ea⟩ : ∃ n : Nat, (t[0]'p0).toNat = n := ⟨_, rfl⟩
      have wa := w64_byte' _ _ ea
      have la := byte_lt' _ _ ea
      have p1 : 1 < t.size := by omega
      obtain ⟨b, eb⟩ : ∃ n : Nat, (t[1]'p1).toNat = n := ⟨_, rfl⟩
      have wb := w64_byte' _ _ eb
      have lb := byte_lt' _ _ eb
      have p2 : 2 < t.size := by omega
      obtain ⟨c, ec⟩ : ∃ n : Nat, (t[2]'p2).toNat = n := ⟨_, rfl⟩
      have wc := w64_byte' _ _ ec
      have lc := byte_lt' _ _ ec
      rw [ea, eb, ec] at henc
      clear ea eb ec
      have HE := Lib.hid henc; clear henc
      have o0 := e_o0 a la
      have o1 := e_o1 a b la lb
      have o2 := e_o2 a b c la lb lc
      have lg := grp_lt a b c la lb lc
      have s0 := e_s0 _ lg
      have s1 : bits .and .i64 ((grp a b c : Int) / 4096) 63 = ((grp a b c / 4096 % 64 : Nat) : Int) := e_s _ 4096 lg
      have s2 : bits .and .i64 ((grp a b c : Int) / 64) 63 = ((grp a b c / 64 % 64 : Nat) : Int) := e_s _ 64 lg
      have s3 := e_s3 _ lg
      have HN := Lib.hid hn; clear hn
      go_wp2
      refine wp_loop_rounds 4 ?_
      rw [rounds_succ]; go_wp2
      rw [rounds_succ]; go_wp2
      rw [rounds_succ]; go_wp2
      rw [rounds_succ]; go_wp2
      refine wp_loop_rounds 5 ?_
      rw [rounds_succ]; go_wp2_with fail
      refine (writeByte_u8 _ _ _ _ _ hI (by simp; omega) (by have := hbw.size; omega)).mono ?_
      rintro e w1 ⟨rfl, hI1, hb1⟩
      rw [sgb] at hI1
      go_wp2
      rw [rounds_succ]; go_wp2_with fail
      refine (writeByte_u8 _ _ _ _ _ hI1 (by simp; omega) (by have := hbw.size; have := hb1.size; omega)).mono ?_
      rintro e w2 ⟨rfl, hI2, hb2⟩
      rw [sgb] at hI2
      go_wp2
      rw [rounds_succ]; go_wp2_with fail
      refine (writeByte_u8 _ _ _ _ _ hI2 (by simp; omega) (by have := hbw.size; have := hb1.size; have := hb2.size; omega)).mono ?_
      rintro e w3 ⟨rfl, hI3, hb3⟩
      rw [sgb] at hI3
      go_wp2
      rw [rounds_succ]; go_wp2_with fail
      refine (writeByte_u8 _ _ _ _ _ hI3 (by simp; omega) (by have := hbw.size; have := hb1.size; have := hb2.size; have := hb3.size; omega)).mono ?_
      rintro e w4 ⟨rfl, hI4, hb4⟩
      rw [sgb] at hI4
      go_wp2
      rw [rounds_succ]; go_wp2
      go_roundw
      case rel => have hn := HN.out; exact ⟨t.extract 3 t.size, acc ++ [sg (grp a b c / 262144), sg (grp a b c / 4096 % 64), sg (grp a b c / 64 % 64), sg (grp a b c % 64)], (by first | rfl | rw [hm]), by rw [ext_size]; omega, by rw [ext_size]; simp; omega, by rw [← HA.out, HE.out, ext_list]; simp, by simpa using hI4, (((hbw.trans hb1).trans hb2).trans hb3).trans hb4⟩
      case measure => have hn := HN.out; first | (simp [ext_size]; omega) | (simp [hm, ext_size]; omega)
end Go.Proofs.Ytpehogkgiikjmaa
