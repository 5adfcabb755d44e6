/- The walks of base.Hex and its reference: they return the plain function hexL; nothing that was there turns. Conditions: at most 2^22 bytes. -/
import Derived.Test.YtpehogkgiikjmaaShelf
import Derived.Test.YtpehogkgiikjmaaBuild
import Derived.Test.YtpehogkgiikjmaaBaseP
import Derived.Test.YtpehogkgiikjmaaReg
namespace Go.Proofs.Ytpehogkgiikjmaa
open Go.RowKit
set_option linter.unusedSimpArgs false
set_option linter.unusedVariables false
set_option maxRecDepth 100000 in
set_option maxHeartbeats 1000000 in
theorem hex_any (s : ByteArray) (w : World) (hs : s.size ≤ 4194304) :
    Calls Try.prog 17 #[.string s] w fun e w' => e = .returned (.string ⟨(hexL s.data.toList).toArray⟩) ∧ Below w.heap.size w w' := by
  go_enter Try.func17, Try.ntmps17
  go_wp2
  go_loopw [7] (fun i wr => ∃ (k : Nat), i = .int .i64 k ∧ k ≤ s.size ∧ Lib.IsBuilder 51 5 w.heap.size w.heap.size (Lib.byteCells (hexL (s.data.toList.take k))) wr ∧ Below w.heap.size w wr)
    (fun i _ => s.size - (intOf i).toNat)
  case atStart => exact ⟨0, rfl, Nat.zero_le _, Lib.fresh_isBuilder _ _ w, (Below.refl _ w).alloc (Nat.le_refl _) _⟩
  case round =>
    obtain ⟨k, rfl, hk, hI, hbw⟩ := hrel
    by_cases hlt : k < s.size
    · have ht := take_get s k hlt
      obtain ⟨c, hc⟩ : ∃ c, s[k]'hlt = c := ⟨_, rfl⟩
      have lc : (s[k]'hlt).toNat < 256 := by rw [hc]; exact c.toBitVec.isLt
      have q2 := hx_and (s[k]'hlt)
      have HT := Lib.hid ht; clear ht hc
      have hbs := hbw.size
      have hl := hexL_len (s.data.toList.take k)
      have hl2 : (hexL (s.data.toList.take k)).length ≤ 2 * s.size := by rw [hl, List.length_take]; omega
      clear hl
      go_wp2_with fail
      refine (writeByte_u8 _ _ _ _ _ hI (by omega) hbs).mono ?_
      rintro e w1 ⟨rfl, hI1, hb1⟩
      rw [hxb] at hI1
      go_wp2_with fail
      refine (writeByte_u8 _ _ _ _ _ hI1 (by simp; omega) (by have := hb1.size; omega)).mono ?_
      rintro e w2 ⟨rfl, hI2, hb2⟩
      rw [hxb] at hI2
      go_wp2
      go_roundw
      case rel =>
        refine ⟨k + 1, by go_num, by omega, ?_, (hbw.trans hb1).trans hb2⟩
        rw [HT.out, hexL_append]
        simpa [hexL] using hI2
      case measure => simp [intOf]; omega
    · go_wp2_with (go_at_call 34; refine (Try.Builder_String_any _ _ _ _ hI (by have := hbw.size; omega)).mono ?_)
      rintro e w1 ⟨rfl, hb1⟩
      go_wp2
      go_ret
      refine ⟨?_, hbw.trans hb1⟩
      rw [List.take_of_length_le (by rw [size_list]; omega)]
      rfl
set_option maxRecDepth 100000 in
set_option maxHeartbeats 1000000 in
theorem rhex_any (s : ByteArray) (w : World) (hs : s.size ≤ 4194304) :
    Calls Try.prog 18 #[.string s] w fun e w' => e = .returned (.string ⟨(hexL s.data.toList).toArray⟩) ∧ Below w.heap.size w w' := by
  obtain ⟨i0, hi, hz0, hz1, hz2⟩ := info_parts infoByte
  go_enter Try.func18, Try.ntmps18
  go_wp2
  go_loopw [3, 4] (fun v i wr => ∃ (k : Nat), i = .int .i64 k ∧ k ≤ s.size ∧ wr.ownsRow w.heap.size 5 1 v (2 * k) (Lib.byteCells (hexL (s.data.toList.take k))) ∧ Below w.heap.size w wr)
    (fun _ i _ => s.size - (intOf i).toNat)
  case atStart => exact ⟨0, rfl, Nat.zero_le _, World.ownsRow_made w #[] 0 (Nat.le_refl _) (by simp) rfl, (Below.refl _ w).alloc (Nat.le_refl _) _⟩
  case round =>
    obtain ⟨k, rfl, hk, hI, hbw⟩ := hrel
    by_cases hlt : k < s.size
    · have ht := take_get s k hlt
      have lc : (s[k]'hlt).toNat < 256 := (s[k]'hlt).toBitVec.isLt
      have HT := Lib.hid ht; clear ht
      have hbs := hbw.size
      have k0 : (0 : Int) ≤ (k : Int) := Int.natCast_nonneg _
      have k1 : (k : Int) < (s.size : Int) := by omega
      have k2 : (k + k + 2) * 1 ≤ 140737488355328 := by omega
      obtain ⟨qa, ha⟩ : ∃ q, (s[k]'hlt).toNat / 16 = q := ⟨_, rfl⟩
      obtain ⟨qb, hb⟩ : ∃ q, (s[k]'hlt).toNat % 16 = q := ⟨_, rfl⟩
      have d0 := u8_div16 _ _ ha
      have d1 := u8_mod16 _ _ hb
      have d2 := u8_mod16'' _ _ hb
      have d3 := u8_div16' _ _ ha
      have d4 := u8_mod16' _ _ hb
      have la : (qa : Int) < 16 := by omega
      have lb : (qb : Int) < 16 := by omega
      have la' : qa < 16 := by omega
      have lb' : qb < 16 := by omega
      have la0 : (0 : Int) ≤ (qa : Int) := by omega
      have lb0 : (0 : Int) ≤ (qb : Int) := by omega
      have HQA := Lib.hid ha; have HQB := Lib.hid hb; clear ha hb
      have tk := take_hex s k hlt qa qb HQA HQB
      have HTK := Lib.hid tk; clear tk
      go_wp2
      refine wp_region_text [(0, true), (1, true), (2, true), (3, true), (4, true), (5, true), (6, true), (7, true), (8, true), (9, true), (10, true), (11, false), (12, false), (13, true)] (by kernel_rfl) (by kernel_rfl) (by kernel_rfl) (by kernel_rfl) ?_
      repeat (refine wpTx_take rfl (by rfl) (v := ?_) ?_ ?_; rotate_left; · (intro w; go_simp; with_reducible rfl))
      refine wpTx_step rfl (fun K hK => ?_)
      go_simp
      refine hK _ _ ?_
      clear hK K
      refine wpTx_step rfl (fun K hK => ?_)
      refine step_append_own rfl (.tmp 12) (.tmp 23) 27 rfl w.heap.size 5 i0 (.int .u8 0) 1 1 Try.underlying27 hi hz0 hz1 hz2 rfl (by decide) _ _ _ rfl ((hI.drew).alloc _) ⟨wr.heap.size, 0, none⟩ 2 2 [.int .u8 _, .int .u8 _] rfl rfl (cells_new _ _ _) (by simp [Value.oneCell']) (by unfold maxLen; omega) (by omega) (by simp; omega) ?_
      intro v1 w1 hI1 hg1
      refine hK _ _ ?_
      clear hK K
      repeat (refine wpTx_take rfl (by rfl) (v := ?_) ?_ ?_; rotate_left; · (intro w; go_simp; with_reducible rfl))
      refine wpTx_nil ?_
      rw [hxb qa (by omega), hxb qb (by omega)] at hI1
      go_simp
      go_wp2
      go_roundw
      case rel =>
        refine ⟨k + 1, by go_num, by omega, ?_, (((hbw.drew).alloc (by simpa using hbs) _).grown hg1 (by simp; omega) (fun j hj => (hI.lt j hj).1))⟩
        rw [HTK.out, Lib.byteCells_append, show 2 * (k + 1) = 2 * k + 2 from by omega]
        exact hI1
      case measure => simp [intOf]; omega
    · have hcv := run_str_own wr 27 5 Try.underlying27 Try.underlying5 hI 9 Try.underlying9
      go_wp2
      go_ret
      refine ⟨?_, hbw⟩
      rw [List.take_of_length_le (by rw [size_list]; omega)]
      rfl
end Go.Proofs.Ytpehogkgiikjmaa
