/- The walks of sheet.IsBoundary at the text B and of turnpikelaw15.awake: true. Conditions: bytealg's MaxLen holds an int. -/
import Derived.Test.YtgkpiakapdgglaaDoorLawPairs
namespace Go.Proofs.YtgkpiakapdgglaaDoor
open Go.RowKit
set_option linter.unusedSimpArgs false
set_option linter.unusedVariables false
set_option maxRecDepth 1000000
theorem isB_any (w : World) : Calls Tryd.prog 15 #[.string ⟨#[66]⟩] w fun e w' => e = .returned (.bool true) ∧ w' = w := by
  go_enter Tryd.func15, Tryd.ntmps15
  go_wp2
  go_loopw [8] (fun iv wr => ∃ i : Nat, iv = .int .i64 i ∧ i ≤ 1 ∧ wr = w) (fun i _ => 1 - (intOf i).toNat)
  case atStart => exact ⟨0, rfl, by omega, rfl⟩
  case round =>
    obtain ⟨i, rfl, hi, rfl⟩ := hrel
    have h2 : i = 0 ∨ i = 1 := by omega
    rcases h2 with rfl | rfl
    · rw [show ((0 : Nat) : Int) = 0 from rfl]
      go_wp2
      go_roundw
      case rel => exact ⟨1, rfl, by omega, by first | rfl | trivial⟩
      case measure => decide
    · rw [show ((1 : Nat) : Int) = 1 from rfl]
      go_wp2
      go_ret
      exact ⟨rfl, rfl⟩
theorem prs_ab : prsP [97, 61, 98, 43, 99] = ([([97], [98, 32, 99], true)], 0, 0) := by decide +kernel
set_option maxHeartbeats 1000000 in
theorem awake15_any (m : Int) (w : World) (hm : w.cell? ⟨1, 0, none⟩ = some (.int .i64 m)) : Calls Tryd.prog 10 #[] w fun e w' => e = .returned (.bool true) ∧ Below w.heap.size w w' := by
  go_enter Tryd.func10, Tryd.ntmps10
  go_wp2_with fail
  refine (spairs_any ⟨#[97, 61, 98, 43, 99]⟩ m _ (by decide) hm).mono ?_
  rintro e w1 ⟨v, rfl, hown, hb⟩
  rw [show (⟨#[97, 61, 98, 43, 99]⟩ : ByteArray).data.toList = [97, 61, 98, 43, 99] from rfl, prs_ab] at hown
  rw [show (⟨#[97, 61, 98, 43, 99]⟩ : ByteArray).data.toList = [97, 61, 98, 43, 99] from rfl, prs_ab]
  obtain ⟨g, cap, rfl⟩ : ∃ g cap, v = .slice (some ⟨g, 0, none⟩) 1 cap := by
    rcases hown.2 with ⟨rfl, h0⟩ | ⟨g, cap, cur, rfl, _⟩
    · simp at h0
    · exact ⟨g, cap, rfl⟩
  have hc := parsAt_own hown
  have c0 : w1.cell? ⟨g, 0, none⟩ = some (.string ⟨#[97]⟩) := by
    rcases hc with ⟨h, _⟩ | ⟨g', cap', h, hc⟩
    · cases h
    · injection h with h; injection h with h; injection h with h; subst h
      exact (hc 0 _ rfl).1
  have c1 : w1.cell? ⟨g, 1, none⟩ = some (.string ⟨#[98, 32, 99]⟩) := by
    rcases hc with ⟨h, _⟩ | ⟨g', cap', h, hc⟩
    · cases h
    · injection h with h; injection h with h; injection h with h; subst h
      exact (hc 0 _ rfl).2.1
  have c2 : w1.cell? ⟨g, 2, none⟩ = some (.bool true) := by
    rcases hc with ⟨h, _⟩ | ⟨g', cap', h, hc⟩
    · cases h
    · injection h with h; injection h with h; injection h with h; subst h
      exact (hc 0 _ rfl).2.2
  clear hc hown hm
  go_wp2_with fail
  refine (isB_any _).mono ?_
  rintro e w2 ⟨rfl, rfl⟩
  go_wp2
  go_ret
  exact ⟨rfl, hb⟩
end Go.Proofs.YtgkpiakapdgglaaDoor
