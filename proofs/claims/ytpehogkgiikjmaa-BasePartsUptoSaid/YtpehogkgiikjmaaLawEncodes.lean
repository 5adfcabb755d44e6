/- The walks of turnpikelaw03.awake and turnpikelaw03.BaseEncodes: both return true; nothing that was there turns. Conditions: at most 2^22 bytes. -/
import Derived.Test.YtpehogkgiikjmaaEnc
import Derived.Test.YtpehogkgiikjmaaEncR
import Derived.Test.YtpehogkgiikjmaaHex
namespace Go.Proofs.Ytpehogkgiikjmaa
open Go.RowKit
set_option linter.unusedSimpArgs false
set_option linter.unusedVariables false
set_option maxHeartbeats 400000 in
theorem awake_any (w : World) : Calls Try.prog 14 #[] w fun e w' => e = .returned (.bool true) ∧ Below w.heap.size w w' := by
  have x1 : enc [102] = [90, 103, 61, 61] := by decide +kernel
  have x2 : hexL [0, 254] = [48, 48, 102, 101] := by decide +kernel
  go_enter Try.func14, Try.ntmps14
  go_wp2_with fail
  refine (encode_any _ _ (by decide)).mono ?_
  rintro e w1 ⟨rfl, hb1⟩
  go_wp2_with fail
  refine (hex_any _ _ (by decide)).mono ?_
  rintro e w2 ⟨rfl, hb2⟩
  go_wp2
  go_ret
  exact ⟨rfl, hb1.trans (hb2.mono hb1.size)⟩
set_option maxHeartbeats 400000 in
theorem baseEncodes_any (s : ByteArray) (w : World) (hs : s.size ≤ 4194304) : Calls Try.prog 3 #[.string s] w fun e w' => e = .returned (.bool true) ∧ Below w.heap.size w w' := by
  go_enter Try.func3, Try.ntmps3
  go_wp2_with fail
  refine (awake_any _).mono ?_
  rintro e w1 ⟨rfl, hb1⟩
  go_wp2_with fail
  refine (encode_any _ _ hs).mono ?_
  rintro e w2 ⟨rfl, hb2⟩
  go_wp2_with fail
  refine (rencode_any _ _ hs).mono ?_
  rintro e w3 ⟨rfl, hb3⟩
  go_wp2_with fail
  refine (hex_any _ _ hs).mono ?_
  rintro e w4 ⟨rfl, hb4⟩
  go_wp2_with fail
  refine (rhex_any _ _ hs).mono ?_
  rintro e w5 ⟨rfl, hb5⟩
  go_wp2
  go_ret
  have h2 := hb1.trans (hb2.mono hb1.size)
  have h3 := h2.trans (hb3.mono h2.size)
  have h4 := h3.trans (hb4.mono h3.size)
  have h5 := h4.trans (hb5.mono h4.size)
  exact ⟨rfl, h5⟩
end Go.Proofs.Ytpehogkgiikjmaa
