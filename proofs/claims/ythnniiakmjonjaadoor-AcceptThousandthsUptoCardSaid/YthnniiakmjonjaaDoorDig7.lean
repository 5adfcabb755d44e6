/- The walks of octet.Digits and the reference's Digits at numbers from 0 on. Conditions: strconv's table holds what the text lays. -/
import Derived.Test.YthnniiakmjonjaaDoorOct7
import Derived.Lib.ItoaMem
import Derived.Lib.AppendIntMem
namespace Go.Proofs.YthnniiakmjonjaaDoor
open Go.RowKit
set_option linter.unusedSimpArgs false
set_option linter.unusedVariables false
set_option maxRecDepth 1000000
def PowAt (w : World) : Prop := Lib.TabIs Tryd.prog w "internal/strconv.uint64pow10" .u64 Lib.pow10Tab
theorem gPow : Tryd.prog.globalNamed "internal/strconv.uint64pow10" = some 4 := by kernel_rfl
theorem PowAt.below {w w' : World} (h : PowAt w) (hb : Below w.heap.size w w') : PowAt w' := by
  unfold PowAt Lib.TabIs at h ⊢
  unfold World.var? at h ⊢
  simp only [gPow, Option.bind_some] at h ⊢
  have lt : 4 < w.heap.size := by
    rcases Nat.lt_or_ge 4 w.heap.size with h1 | h1
    · exact h1
    · rw [Array.getElem?_eq_none h1] at h; cases h
  rw [hb.block 4 lt]
  exact h
theorem odigits_any (n : Nat) (w : World) (hn : n ≤ 4611703610613432320) (h : PowAt w) :
    Calls Tryd.prog 90 #[.int .i64 (n : Int)] w fun e w' => e = .returned (.string ⟨(Lib.decDigits n).toArray⟩) ∧ Below w.heap.size w w' := by
  have hi := Tryd.strconv_Itoa (n : Int) (by omega) (by omega) w h
  rw [Lib.itoa_nonneg] at hi
  have HI := Lib.hid hi; clear hi
  clear hn
  go_enter Tryd.func90, Tryd.ntmps90
  go_wp2_with fail
  refine (HI.out).mono ?_
  rintro e w1 ⟨rfl, k, os, rfl⟩
  have hb := Lib.below_grow w.heap.size w (Nat.le_refl _) k os
  have HB := Lib.hid hb; clear hb
  go_wp2
  go_ret
  exact ⟨rfl, HB.out⟩
end Go.Proofs.YthnniiakmjonjaaDoor
