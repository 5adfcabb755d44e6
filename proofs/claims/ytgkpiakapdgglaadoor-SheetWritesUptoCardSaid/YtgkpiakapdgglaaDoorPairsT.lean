/- The walk of sheet.Pairs' closure: a text of a pair, decoded. Conditions: fewer than 2^31 bytes; bytealg's MaxLen holds an int. -/
import Derived.Test.YtgkpiakapdgglaaDoorRPairs15
namespace Go.Proofs.YtgkpiakapdgglaaDoor
open Go.RowKit
set_option linter.unusedSimpArgs false
set_option linter.unusedVariables false
set_option maxRecDepth 1000000
theorem le_3132 (n : Nat) (h : n ≤ 2147483648) : n < 4294967281 := by omega
theorem le_3147 (n c : Nat) (h : n ≤ 2147483648) (hc : c ≤ n) : n + c * 1 ≤ 140737488355328 := by omega
theorem le_31_47 (n : Nat) (h : n ≤ 2147483648) : n ≤ 140737488351232 := by omega
theorem swapL_len (a b : UInt8) (l : List UInt8) : (swapL a b l).length = l.length := by simp [swapL]
theorem text_any (s : ByteArray) (m : Int) (w : World) (hs : s.size ≤ 2147483648) (hm : w.cell? ⟨1, 0, none⟩ = some (.int .i64 m)) :
    Calls Tryd.prog 26 #[.string s] w fun e w' => e = .returned (.string ⟨(spc s.data.toList).toArray⟩) ∧ Below w.heap.size w w' := by
  have h32 := le_3132 _ hs
  have hcnt : Lib.countB s ⟨#[43]⟩ ≤ s.size := Lib.countB_le ⟨#[43]⟩ (by decide) s.size s (Nat.le_refl _)
  have hlen := le_3147 s.size _ hs hcnt
  have hsz : (⟨(swapL 43 32 s.data.toList).toArray⟩ : ByteArray).size ≤ 140737488351232 := by rw [← size_list]; show (swapL 43 32 s.data.toList).length ≤ _; rw [swapL_len, size_list]; exact le_31_47 _ hs
  go_enter Tryd.func26, Tryd.ntmps26
  go_wp2_with fail
  refine (Tryd.strings_ReplaceAll s ⟨#[43]⟩ ⟨#[32]⟩ m _ h32 hm (by decide) hlen).mono ?_
  rintro e w1 ⟨rfl, hb1⟩
  rw [show Lib.replaceAll s.data.toList (⟨#[43]⟩ : ByteArray).data.toList (⟨#[32]⟩ : ByteArray).data.toList = swapL 43 32 s.data.toList from replaceAll_swap 43 32 _]
  go_wp2_with fail
  refine (tdecode_any ⟨(swapL 43 32 s.data.toList).toArray⟩ _ hsz).mono ?_
  rintro e w2 ⟨rfl, hb2⟩
  go_wp2
  go_ret
  exact ⟨rfl, hb1.trans (hb2.mono hb1.size)⟩
end Go.Proofs.YtgkpiakapdgglaaDoor
