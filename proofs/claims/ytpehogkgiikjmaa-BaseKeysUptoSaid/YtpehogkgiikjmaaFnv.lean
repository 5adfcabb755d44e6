/- The walks of base.Fnv and its reference: they return the plain function fnv; the world is as it was. Conditions: no text is longer than memory. -/
import Derived.Test.YtpehogkgiikjmaaProg
import Derived.Test.YtpehogkgiikjmaaFnvP
namespace Go.Proofs.Ytpehogkgiikjmaa
open Go.RowKit
set_option linter.unusedSimpArgs false
set_option linter.unusedVariables false
theorem u64_byte (c : UInt8) : IntKind.u64.wrap (c.toNat : Int) = (c.toNat : Int) := by
  have h : c.toNat < 256 := c.toBitVec.isLt
  exact IntWalk.u64_in _ (by omega)
theorem fnv_start : Value.int .u64 14695981039346656037 = Value.int .u64 ((fnv [] : Nat) : Int) := rfl
theorem fnv_any (s : ByteArray) (w : World) (hs : s.size ≤ 140737488351232) :
    Calls Try.prog 19 #[.string s] w fun e w' => e = .returned (.int .u64 (fnv s.data.toList : Nat)) ∧ w = w' := by
  go_enter Try.func19, Try.ntmps19
  go_wp2
  go_loop [3, 7] (fun n i => ∃ k : Nat, k ≤ s.size ∧ i = .int .i64 k ∧ n = .int .u64 (fnv (s.data.toList.take k) : Nat)) (fun _ i => s.size - (intOf i).toNat)
  case atStart => exact ⟨0, Nat.zero_le _, rfl, fnv_start⟩
  case round =>
    obtain ⟨k, hk, rfl, rfl⟩ := hrel
    by_cases hlt : k < s.size
    · have hl := fnv_lt' (s.data.toList.take k)
      have e0 : fnv (s.data.toList.take (k + 1)) = fnvS (fnv (s.data.toList.take k)) (s[k]'hlt).toNat := by rw [take_get s k hlt]; exact fnvF_snoc _ _ _
      generalize fnv (s.data.toList.take k) = h at hl e0
      have E0 := Lib.hid e0; clear e0
      have e1 := u64_byte (s[k]'hlt)
      have e2 := fnv_step1 h hl (s[k]'hlt)
      have e3 := fnv_step2 h (s[k]'hlt).toNat
      clear hl
      go_wp2
      go_round
      case rel => exact ⟨k + 1, by omega, by go_num, by rw [E0.out]⟩
      case measure => simp [intOf]; omega
    · go_wp2
      go_ret
      refine ⟨?_, rfl⟩
      rw [List.take_of_length_le (by rw [size_list]; omega)]
      rfl
theorem rfnv_any (s : ByteArray) (w : World) (hs : s.size ≤ 140737488351232) :
    Calls Try.prog 29 #[.string s] w fun e w' => e = .returned (.int .u64 (fnv s.data.toList : Nat)) ∧ w = w' := by
  go_enter Try.func29, Try.ntmps29
  go_wp2
  go_loop [3, 4] (fun n i => ∃ k : Nat, k ≤ s.size ∧ i = .int .i64 k ∧ n = .int .u64 (fnv (s.data.toList.take k) : Nat)) (fun _ i => s.size - (intOf i).toNat)
  case atStart => exact ⟨0, Nat.zero_le _, rfl, fnv_start⟩
  case round =>
    obtain ⟨k, hk, rfl, rfl⟩ := hrel
    by_cases hlt : k < s.size
    · have hl := fnv_lt' (s.data.toList.take k)
      have e0 : fnv (s.data.toList.take (k + 1)) = fnvS (fnv (s.data.toList.take k)) (s[k]'hlt).toNat := by rw [take_get s k hlt]; exact fnvF_snoc _ _ _
      generalize fnv (s.data.toList.take k) = h at hl e0
      have E0 := Lib.hid e0; clear e0
      have e1 := u64_byte (s[k]'hlt)
      have e2 := fnv_step1 h hl (s[k]'hlt)
      have e3 := fnv_step2 h (s[k]'hlt).toNat
      clear hl
      go_wp2
      go_round
      case rel => exact ⟨k + 1, by omega, by go_num, by rw [E0.out]⟩
      case measure => simp [intOf]; omega
    · go_wp2
      go_ret
      refine ⟨?_, rfl⟩
      rw [List.take_of_length_le (by rw [size_list]; omega)]
      rfl
end Go.Proofs.Ytpehogkgiikjmaa
