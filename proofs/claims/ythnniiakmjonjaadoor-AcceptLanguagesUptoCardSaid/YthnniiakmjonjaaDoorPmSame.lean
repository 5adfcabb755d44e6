/- The walk of turnpikelaw07.params on two lists that hold the same parameters, wherever they stand: true. Conditions: fewer than 2^41 of them. -/
import Derived.Test.YthnniiakmjonjaaDoorParM
import Derived.Test.YthnniiakmjonjaaDoorOct1
import Derived.BigQuiet
import Derived.Deep.QuietTactic
namespace Go.Proofs.YthnniiakmjonjaaDoor
open Go.RowKit
set_option linter.unusedSimpArgs false
set_option linter.unusedVariables false
set_option maxRecDepth 1000000
set_option maxHeartbeats 4000000 in
theorem lawpms_any (v1 v2 : Value) (l : List Par) (w : World) (hl : l.length ≤ 2199023255552) (h1 : ParsIn w v1 l) (h2 : ParsIn w v2 l) :
    Calls Tryd.prog 54 #[v1, v2] w fun e w' => e = .returned (.bool true) ∧ Below w.heap.size w w' := by
  obtain ⟨a1, cap1, rfl, h1⟩ := h1
  obtain ⟨a2, cap2, rfl, h2⟩ := h2
  go_enter Tryd.func54, Tryd.ntmps54
  go_wp2
  go_loopw [5] (fun iv wr => ∃ i k : Nat, iv = .int .i64 i ∧ i ≤ l.length ∧ wr = w.drewN k) (fun i _ => l.length - (intOf i).toNat)
  case atStart => exact ⟨0, 0, rfl, Nat.zero_le _, rfl⟩
  case round =>
    obtain ⟨i, k, rfl, hi, rfl⟩ := hrel
    by_cases hlt : i < l.length
    · obtain ⟨p, hp⟩ : ∃ p, l[i]? = some p := ⟨_, List.getElem?_eq_getElem hlt⟩
      obtain ⟨g1, o1, rfl, _, a0, a1, a2⟩ := parAt_drew h1 k i p hp
      obtain ⟨g2, o2, rfl, _, b0, b1, b2⟩ := parAt_drew h2 k i p hp
      obtain ⟨W2, hW2⟩ : ∃ W2, w.drewN k = W2 := ⟨_, rfl⟩
      rw [hW2] at a0 a1 a2 b0 b1 b2
      rw [hW2]
      have HW := Lib.hid hW2
      clear hW2 h1 h2
      have k0 : (0 : Int) ≤ (i : Int) := by omega
      have k1 : (i : Int) < (l.length : Int) := by omega
      have hwi := wrap64_small i (Nat.le_trans hi hl)
      go_wp2_with fail
      refine wp_region_still_lit (by kernel_rfl) (by kernel_rfl) ?_
      repeat still_step
      refine wpStill_nil ?_
      go_wp2
      go_roundw
      case rel =>
        try rw [hwi]
        clear hwi
        exact ⟨i + 1, k + 1, by go_num, by omega, by rw [← HW.out]; rfl⟩
      case measure => (try rw [hwi]); clear hwi; simp [intOf]; omega
    · have hd : decide (i < l.length) = false := decide_eq_false hlt
      have bel := below_drewN (Below.refl w.heap.size w) k
      go_wp2
      go_ret
      exact ⟨rfl, bel⟩
end Go.Proofs.YthnniiakmjonjaaDoor
