/- The walk of the reference's bare at the uses that its Check names. No conditions. -/
import Derived.Test.YtdlpbpikhmciaaaGreatDoorHdU
namespace Go.Proofs.YtdlpbpikhmciaaaGreatDoor
open Go.RowKit
set_option linter.unusedSimpArgs false
set_option linter.unusedVariables false
set_option maxRecDepth 1000000
set_option maxHeartbeats 16000000 in
theorem rbare14_any (k s c : Int) (n t m : ByteArray) (w : World) :
    Calls Tryz.prog 27 #[.agg (hdC k n t m s c), .int .i64 14] w fun e w' => e = .returned (.bool (bareB false true true true false (decide (n.toList = [])) (decide (t.toList = [])) (decide (m.toList = [])) (decide (s = 0)) (c == 0))) ∧ Below w.heap.size w w' := by
  have HB := Lib.hid (show ∀ a, Below w.heap.size w (w.alloc (.cells a 28)) from fun a => below1 w _)
  have b0 : bits .and .i64 14 1 = 0 := by decide
  have b1 : bits .and .i64 14 2 = 2 := by decide
  have b2 : bits .and .i64 14 4 = 4 := by decide
  have b3 : bits .and .i64 14 8 = 8 := by decide
  have b4 : bits .and .i64 14 16 = 0 := by decide
  go_enter Tryz.func27, Tryz.ntmps27
  go_wp2
  all_goals
    go_ret
    refine ⟨ret_boolO ?_, HB.out _⟩
    simp_all [bareB, orB]
set_option maxHeartbeats 16000000 in
theorem rbare8_any (k s c : Int) (n t m : ByteArray) (w : World) :
    Calls Tryz.prog 27 #[.agg (hdC k n t m s c), .int .i64 8] w fun e w' => e = .returned (.bool (bareB false false false true false (decide (n.toList = [])) (decide (t.toList = [])) (decide (m.toList = [])) (decide (s = 0)) (c == 0))) ∧ Below w.heap.size w w' := by
  have HB := Lib.hid (show ∀ a, Below w.heap.size w (w.alloc (.cells a 28)) from fun a => below1 w _)
  have b0 : bits .and .i64 8 1 = 0 := by decide
  have b1 : bits .and .i64 8 2 = 0 := by decide
  have b2 : bits .and .i64 8 4 = 0 := by decide
  have b3 : bits .and .i64 8 8 = 8 := by decide
  have b4 : bits .and .i64 8 16 = 0 := by decide
  go_enter Tryz.func27, Tryz.ntmps27
  go_wp2
  all_goals
    go_ret
    refine ⟨ret_boolO ?_, HB.out _⟩
    simp_all [bareB, orB]
set_option maxHeartbeats 16000000 in
theorem rbare10_any (k s c : Int) (n t m : ByteArray) (w : World) :
    Calls Tryz.prog 27 #[.agg (hdC k n t m s c), .int .i64 10] w fun e w' => e = .returned (.bool (bareB false true false true false (decide (n.toList = [])) (decide (t.toList = [])) (decide (m.toList = [])) (decide (s = 0)) (c == 0))) ∧ Below w.heap.size w w' := by
  have HB := Lib.hid (show ∀ a, Below w.heap.size w (w.alloc (.cells a 28)) from fun a => below1 w _)
  have b0 : bits .and .i64 10 1 = 0 := by decide
  have b1 : bits .and .i64 10 2 = 2 := by decide
  have b2 : bits .and .i64 10 4 = 0 := by decide
  have b3 : bits .and .i64 10 8 = 8 := by decide
  have b4 : bits .and .i64 10 16 = 0 := by decide
  go_enter Tryz.func27, Tryz.ntmps27
  go_wp2
  all_goals
    go_ret
    refine ⟨ret_boolO ?_, HB.out _⟩
    simp_all [bareB, orB]
set_option maxHeartbeats 16000000 in
theorem rbare0_any (k s c : Int) (n t m : ByteArray) (w : World) :
    Calls Tryz.prog 27 #[.agg (hdC k n t m s c), .int .i64 0] w fun e w' => e = .returned (.bool (bareB false false false false false (decide (n.toList = [])) (decide (t.toList = [])) (decide (m.toList = [])) (decide (s = 0)) (c == 0))) ∧ Below w.heap.size w w' := by
  have HB := Lib.hid (show ∀ a, Below w.heap.size w (w.alloc (.cells a 28)) from fun a => below1 w _)
  have b0 : bits .and .i64 0 1 = 0 := by decide
  have b1 : bits .and .i64 0 2 = 0 := by decide
  have b2 : bits .and .i64 0 4 = 0 := by decide
  have b3 : bits .and .i64 0 8 = 0 := by decide
  have b4 : bits .and .i64 0 16 = 0 := by decide
  go_enter Tryz.func27, Tryz.ntmps27
  go_wp2
  all_goals
    go_ret
    refine ⟨ret_boolO ?_, HB.out _⟩
    simp_all [bareB, orB]
set_option maxHeartbeats 16000000 in
theorem rbare17_any (k s c : Int) (n t m : ByteArray) (w : World) :
    Calls Tryz.prog 27 #[.agg (hdC k n t m s c), .int .i64 17] w fun e w' => e = .returned (.bool (bareB true false false false true (decide (n.toList = [])) (decide (t.toList = [])) (decide (m.toList = [])) (decide (s = 0)) (c == 0))) ∧ Below w.heap.size w w' := by
  have HB := Lib.hid (show ∀ a, Below w.heap.size w (w.alloc (.cells a 28)) from fun a => below1 w _)
  have b0 : bits .and .i64 17 1 = 1 := by decide
  have b1 : bits .and .i64 17 2 = 0 := by decide
  have b2 : bits .and .i64 17 4 = 0 := by decide
  have b3 : bits .and .i64 17 8 = 0 := by decide
  have b4 : bits .and .i64 17 16 = 16 := by decide
  go_enter Tryz.func27, Tryz.ntmps27
  go_wp2
  all_goals
    go_ret
    refine ⟨ret_boolO ?_, HB.out _⟩
    simp_all [bareB, orB]
set_option maxHeartbeats 16000000 in
theorem rbare16_any (k s c : Int) (n t m : ByteArray) (w : World) :
    Calls Tryz.prog 27 #[.agg (hdC k n t m s c), .int .i64 16] w fun e w' => e = .returned (.bool (bareB false false false false true (decide (n.toList = [])) (decide (t.toList = [])) (decide (m.toList = [])) (decide (s = 0)) (c == 0))) ∧ Below w.heap.size w w' := by
  have HB := Lib.hid (show ∀ a, Below w.heap.size w (w.alloc (.cells a 28)) from fun a => below1 w _)
  have b0 : bits .and .i64 16 1 = 0 := by decide
  have b1 : bits .and .i64 16 2 = 0 := by decide
  have b2 : bits .and .i64 16 4 = 0 := by decide
  have b3 : bits .and .i64 16 8 = 0 := by decide
  have b4 : bits .and .i64 16 16 = 16 := by decide
  go_enter Tryz.func27, Tryz.ntmps27
  go_wp2
  all_goals
    go_ret
    refine ⟨ret_boolO ?_, HB.out _⟩
    simp_all [bareB, orB]
set_option maxHeartbeats 16000000 in
theorem rbare1_any (k s c : Int) (n t m : ByteArray) (w : World) :
    Calls Tryz.prog 27 #[.agg (hdC k n t m s c), .int .i64 1] w fun e w' => e = .returned (.bool (bareB true false false false false (decide (n.toList = [])) (decide (t.toList = [])) (decide (m.toList = [])) (decide (s = 0)) (c == 0))) ∧ Below w.heap.size w w' := by
  have HB := Lib.hid (show ∀ a, Below w.heap.size w (w.alloc (.cells a 28)) from fun a => below1 w _)
  have b0 : bits .and .i64 1 1 = 1 := by decide
  have b1 : bits .and .i64 1 2 = 0 := by decide
  have b2 : bits .and .i64 1 4 = 0 := by decide
  have b3 : bits .and .i64 1 8 = 0 := by decide
  have b4 : bits .and .i64 1 16 = 0 := by decide
  go_enter Tryz.func27, Tryz.ntmps27
  go_wp2
  all_goals
    go_ret
    refine ⟨ret_boolO ?_, HB.out _⟩
    simp_all [bareB, orB]
end Go.Proofs.YtdlpbpikhmciaaaGreatDoor
