/- The walks of Same, octet's and the reference's: the plain function sameL. Conditions: at most 2^40 bytes each. -/
import Derived.Test.YtpdbejeiceodkaaGreatDoorAccP
import Derived.Test.YtpdbejeiceodkaaGreatDoorOct8
namespace Go.Proofs.YtpdbejeiceodkaaGreatDoor
open Go.RowKit
set_option linter.unusedSimpArgs false
set_option linter.unusedVariables false
set_option maxRecDepth 1000000
set_option maxHeartbeats 2000000 in
theorem osame_any (a b : List UInt8) (w : World) (ha : a.length ≤ 1099511627776) (hb : b.length ≤ 1099511627776) :
    Calls Tryz.prog 116 #[.string ⟨a.toArray⟩, .string ⟨b.toArray⟩] w fun e w' => e = .returned (.bool (sameL a b)) ∧ Below w.heap.size w w' := by
  have h1 := fun w => olower_any ⟨a.toArray⟩ w (by rw [size_mk]; exact ha)
  have h2 := fun w => olower_any ⟨b.toArray⟩ w (by rw [size_mk]; exact hb)
  rw [show (⟨a.toArray⟩ : ByteArray).data.toList = a from rfl] at h1
  rw [show (⟨b.toArray⟩ : ByteArray).data.toList = b from rfl] at h2
  obtain ⟨x, hx⟩ : ∃ x, lowL a = x := ⟨_, rfl⟩
  obtain ⟨y, hy⟩ : ∃ y, lowL b = y := ⟨_, rfl⟩
  rw [hx] at h1
  rw [hy] at h2
  have hr : (x == y) = sameL a b := by unfold sameL; rw [hx, hy, beq_dec]
  have H1 := Lib.hid h1; have H2 := Lib.hid h2; have HR := Lib.hid hr
  clear h1 h2 hx hy hr ha hb
  go_enter Tryz.func116, Tryz.ntmps116
  go_wp2_with fail
  refine (H1.out _).mono ?_
  rintro e w1 ⟨rfl, hb1⟩
  go_wp2_with fail
  refine (H2.out _).mono ?_
  rintro e w2 ⟨rfl, hb2⟩
  have HB := Lib.hid (hb1.trans (hb2.mono hb1.size))
  clear hb1 hb2
  go_wp2
  go_ret
  rw [← HR.out]
  exact ⟨rfl, HB.out⟩
set_option maxHeartbeats 2000000 in
theorem rsame_any (a b : List UInt8) (w : World) (ha : a.length ≤ 1099511627776) (hb : b.length ≤ 1099511627776) :
    Calls Tryz.prog 90 #[.string ⟨a.toArray⟩, .string ⟨b.toArray⟩] w fun e w' => e = .returned (.bool (sameL a b)) ∧ Below w.heap.size w w' := by
  have h1 := fun w => rlower_any ⟨a.toArray⟩ w (by rw [size_mk]; exact ha)
  have h2 := fun w => rlower_any ⟨b.toArray⟩ w (by rw [size_mk]; exact hb)
  rw [show (⟨a.toArray⟩ : ByteArray).data.toList = a from rfl] at h1
  rw [show (⟨b.toArray⟩ : ByteArray).data.toList = b from rfl] at h2
  obtain ⟨x, hx⟩ : ∃ x, lowL a = x := ⟨_, rfl⟩
  obtain ⟨y, hy⟩ : ∃ y, lowL b = y := ⟨_, rfl⟩
  rw [hx] at h1
  rw [hy] at h2
  have hr : (x == y) = sameL a b := by unfold sameL; rw [hx, hy, beq_dec]
  have H1 := Lib.hid h1; have H2 := Lib.hid h2; have HR := Lib.hid hr
  clear h1 h2 hx hy hr ha hb
  go_enter Tryz.func90, Tryz.ntmps90
  go_wp2_with fail
  refine (H1.out _).mono ?_
  rintro e w1 ⟨rfl, hb1⟩
  go_wp2_with fail
  refine (H2.out _).mono ?_
  rintro e w2 ⟨rfl, hb2⟩
  have HB := Lib.hid (hb1.trans (hb2.mono hb1.size))
  clear hb1 hb2
  go_wp2
  go_ret
  rw [← HR.out]
  exact ⟨rfl, HB.out⟩
end Go.Proofs.YtpdbejeiceodkaaGreatDoor
