/- The walk of turnpikelaw07.awake: true. Conditions: bytealg's MaxLen holds an int; octet.signs holds what the text lays. -/
import Derived.Test.YthnniiakmjonjaaDoorPar7
import Derived.Test.YthnniiakmjonjaaDoorQua
namespace Go.Proofs.YthnniiakmjonjaaDoor
open Go.RowKit
set_option linter.unusedSimpArgs false
set_option linter.unusedVariables false
set_option maxRecDepth 1000000
theorem awake_mdP : mdP [84, 101, 120, 116, 47, 72, 116, 109, 108] = (([116, 101, 120, 116], [104, 116, 109, 108], [], true), 0) := by kernel_rfl
theorem awake_quR : quR [48, 46, 53] = (500, 0) := by kernel_rfl
set_option maxHeartbeats 2000000 in
theorem awake07_any (m : Int) (w : World) (hm : w.cell? ⟨1, 0, none⟩ = some (.int .i64 m)) (hg : SgAt w) : Calls Tryd.prog 19 #[] w fun e w' => e = .returned (.bool true) ∧ Below w.heap.size w w' := by
  have hq := oqual_any ⟨#[48, 46, 53]⟩ m w (by decide) hm
  unfold QuPost at hq
  rw [show (⟨#[48, 46, 53]⟩ : ByteArray).data.toList = [48, 46, 53] from rfl, awake_quR] at hq
  have hp := fun w1 h1 => oparse_any ⟨#[84, 101, 120, 116, 47, 72, 116, 109, 108]⟩ w1 (by decide) h1
  have HQ := Lib.hid hq; have HP := Lib.hid hp; have HG := Lib.hid hg
  clear hq hp hg hm
  go_enter Tryd.func19, Tryd.ntmps19
  go_wp2_with fail
  refine (HQ.out).mono ?_
  rintro e w1 ⟨rfl, hb1⟩
  have HB1 := Lib.hid hb1
  have HG1 := Lib.hid (HG.out.below hb1)
  clear hb1
  go_wp2_with fail
  refine (HP.out w1 HG1.out).mono ?_
  rintro e w2 hpost
  unfold MpPost at hpost
  rw [show (⟨#[84, 101, 120, 116, 47, 72, 116, 109, 108]⟩ : ByteArray).data.toList = [84, 101, 120, 116, 47, 72, 116, 109, 108] from rfl, awake_mdP] at hpost
  obtain ⟨v, rfl, hown, hb2⟩ := hpost
  have hvs : ∃ ao cap, v = .slice ao 0 cap := by
    rcases hown.2 with ⟨rfl, h0⟩ | ⟨g, cap, cur, rfl, _⟩
    · exact ⟨none, 0, rfl⟩
    · exact ⟨_, cap, rfl⟩
  obtain ⟨ao, cap, rfl⟩ := hvs
  rw [show mpV ((([116, 101, 120, 116], [104, 116, 109, 108], [], true), 0) : Med × Nat) (.slice ao 0 cap) = .tuple #[.agg #[.string ⟨#[116, 101, 120, 116]⟩, .string ⟨#[104, 116, 109, 108]⟩, .slice ao 0 cap], .int .i64 0] from rfl]
  have b2 := HB1.out.trans (hb2.mono HB1.out.size)
  have HB2 := Lib.hid (b2.alloc b2.size (.cells #[.string ⟨#[116, 101, 120, 116]⟩, .string ⟨#[104, 116, 109, 108]⟩, .slice ao 0 cap] 24))
  clear b2 hb2 hown
  go_wp2
  go_ret
  exact ⟨by simp, HB2.out⟩
end Go.Proofs.YthnniiakmjonjaaDoor
