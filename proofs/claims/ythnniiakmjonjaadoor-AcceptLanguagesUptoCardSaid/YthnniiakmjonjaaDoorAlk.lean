/- The walk of turnpikelaw07.alike on two media types that say the same: true. Conditions: at most 2^30 parameters. -/
import Derived.Test.YthnniiakmjonjaaDoorMda
namespace Go.Proofs.YthnniiakmjonjaaDoor
open Go.RowKit
set_option linter.unusedSimpArgs false
set_option linter.unusedVariables false
set_option maxRecDepth 1000000
set_option maxHeartbeats 2000000 in
theorem alike_any (m : Mdm) (v1 v2 : Value) (w : World) (hn : m.ps.length ≤ 1073741824) (h1 : ParsIn w v1 m.ps) (h2 : ParsIn w v2 m.ps) :
    Calls Tryd.prog 20 #[.agg (mC m v1), .agg (mC m v2)] w fun e w' => e = .returned (.bool true) ∧ Below w.heap.size w w' := by
  obtain ⟨ty, sub, ps⟩ := m
  simp only at hn h1 h2
  have hb := ((Below.refl w.heap.size w).alloc (Nat.le_refl _) (.cells (mC ⟨ty, sub, ps⟩ v1) 24)).alloc (by simp) (.cells (mC ⟨ty, sub, ps⟩ v2) 30)
  have H := Lib.hid (lawpms_any v1 v2 ps ((w.alloc (.cells (mC ⟨ty, sub, ps⟩ v1) 24)).alloc (.cells (mC ⟨ty, sub, ps⟩ v2) 30)) (Nat.le_trans hn (by decide)) (h1.below hb) (h2.below hb))
  have HB := Lib.hid hb
  clear h1 h2 hb
  have hb1 : (ty == ty) = true := by simp
  have hb2 : (sub == sub) = true := by simp
  go_enter Tryd.func20, Tryd.ntmps20
  go_wp2_with fail
  refine (H.out).mono ?_
  rintro e w3 ⟨rfl, hb3⟩
  have HB3 := Lib.hid (HB.out.trans (hb3.mono HB.out.size))
  clear hb3
  go_wp2
  go_ret
  exact ⟨rfl, HB3.out⟩
end Go.Proofs.YthnniiakmjonjaaDoor
