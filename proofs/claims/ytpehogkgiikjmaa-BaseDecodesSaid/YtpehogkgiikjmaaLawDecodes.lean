/- The walk of turnpikelaw03.BaseDecodes: it returns true; nothing that was there turns. Conditions: no text is longer than memory. -/
import Derived.Test.YtpehogkgiikjmaaLawEncodes
import Derived.Test.YtpehogkgiikjmaaDec
import Derived.Test.YtpehogkgiikjmaaDecR
namespace Go.Proofs.Ytpehogkgiikjmaa
open Go.RowKit
set_option linter.unusedSimpArgs false
set_option linter.unusedVariables false
set_option maxHeartbeats 400000 in
theorem baseDecodes_any (s : ByteArray) (w : World) (hs : s.size ≤ 140737488351232) : Calls Try.prog 6 #[.string s] w fun e w' => e = .returned (.bool true) ∧ Below w.heap.size w w' := by
  go_enter Try.func6, Try.ntmps6
  go_wp2_with fail
  refine (decode_any _ _ hs).mono ?_
  rintro e w1 ⟨rfl, hb1⟩
  go_wp2_with fail
  refine (rdecode_any _ _ hs).mono ?_
  rintro e w2 ⟨rfl, hb2⟩
  go_wp2_with fail
  refine (awake_any _).mono ?_
  rintro e w3 ⟨rfl, hb3⟩
  go_wp2
  go_ret
  have h2 := hb1.trans (hb2.mono hb1.size)
  exact ⟨rfl, h2.trans (hb3.mono h2.size)⟩
end Go.Proofs.Ytpehogkgiikjmaa
