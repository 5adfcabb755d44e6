/- The walks of shelf.read at an empty wish and of vary at one plain file. No conditions but what stands in memory. -/
import Derived.Test.YtpdbejeiceodkaaGreatDoorShF
namespace Go.Proofs.YtpdbejeiceodkaaGreatDoor
open Go.RowKit
set_option linter.unusedSimpArgs false
set_option linter.unusedVariables false
set_option maxRecDepth 1000000
set_option maxHeartbeats 4000000 in
theorem readA (w : World) : Calls Tryz.prog 40 #[.agg wishA] w fun e w' => e = .returned (.agg swA) ∧ Below w.heap.size w w' := by
  obtain ⟨W3, hW3⟩ : ∃ W3, ((w.alloc (.cells wishA 27)).alloc (.cells swA 89)).alloc (.cells swA 89) = W3 := ⟨_, rfl⟩
  have hb3 : Below w.heap.size w W3 := by rw [← hW3]; exact (((Below.refl _ w).alloc (Nat.le_refl _) _).alloc (by simp) _).alloc (by simp; omega) _
  have hA : BlkIs W3 w.heap.size wishA 27 := by rw [← hW3]; exact ((blkIs_new w _ _).alloc _).alloc _
  have hB : BlkIs W3 (w.heap.size + 1) swA 89 := by rw [← hW3]; have := blkIs_new (w.alloc (.cells wishA 27)) swA 89; rw [World.size_alloc] at this; exact this.alloc _
  have hC : BlkIs W3 (w.heap.size + 1 + 1) swA 89 := by rw [← hW3]; have := blkIs_new ((w.alloc (.cells wishA 27)).alloc (.cells swA 89)) swA 89; rw [World.size_alloc, World.size_alloc] at this; exact this
  have HW3 := Lib.hid hW3; have HB3 := Lib.hid (And.intro hb3 (And.intro hA (And.intro hB hC)))
  clear hW3 hb3 hA hB hC
  go_enter Tryz.func40, Tryz.ntmps40
  go_upto_region 2 with fail
  rw [HW3.out]
  have a0 : W3.cell? ⟨w.heap.size, 0, none⟩ = some (.string ⟨#[]⟩) := HB3.out.2.1.cell 0 _ rfl
  go_wp2_with fail
  refine (rangesA W3).mono ?_
  rintro e w4 ⟨rfl, hb4⟩
  have HB4 := Lib.hid (And.intro (HB3.out.1.trans (hb4.mono HB3.out.1.size)) (And.intro (HB3.out.2.1.later hb4) (And.intro (HB3.out.2.2.1.later hb4) (HB3.out.2.2.2.later hb4))))
  clear hb4 a0
  have a1 : w4.cell? ⟨w.heap.size, 1, none⟩ = some (.string ⟨#[]⟩) := HB4.out.2.1.cell 1 _ rfl
  have a3 : w4.cell? ⟨w.heap.size, 3, none⟩ = some (.bool false) := HB4.out.2.1.cell 3 _ rfl
  go_wp2_with fail
  refine (weightsA w4).mono ?_
  rintro e w5 ⟨rfl, hb5⟩
  have HB5 := Lib.hid (And.intro (HB4.out.1.trans (hb5.mono HB4.out.1.size)) (And.intro (HB4.out.2.1.later hb5) (And.intro (HB4.out.2.2.1.later hb5) (HB4.out.2.2.2.later hb5))))
  clear hb5 a1 a3
  have a2 : w5.cell? ⟨w.heap.size, 2, none⟩ = some (.string ⟨#[]⟩) := HB5.out.2.1.cell 2 _ rfl
  have a4 : w5.cell? ⟨w.heap.size, 4, none⟩ = some (.bool false) := HB5.out.2.1.cell 4 _ rfl
  go_wp2_with fail
  refine (weightsA w5).mono ?_
  rintro e w6 ⟨rfl, hb6⟩
  have HB6 := Lib.hid (And.intro (HB5.out.1.trans (hb6.mono HB5.out.1.size)) (And.intro (HB5.out.2.1.later hb6) (And.intro (HB5.out.2.2.1.later hb6) (HB5.out.2.2.2.later hb6))))
  clear hb6 a2 a4
  have a5 : w6.cell? ⟨w.heap.size, 5, none⟩ = some (.bool false) := HB6.out.2.1.cell 5 _ rfl
  have x0 : w6.cell? ⟨w.heap.size + 1 + 1, 0, none⟩ = some (.slice none 0 0) := HB6.out.2.2.2.cell 0 _ rfl
  have x1 : w6.cell? ⟨w.heap.size + 1 + 1, 1, none⟩ = some (.slice none 0 0) := HB6.out.2.2.2.cell 1 _ rfl
  have x2 : w6.cell? ⟨w.heap.size + 1 + 1, 2, none⟩ = some (.slice none 0 0) := HB6.out.2.2.2.cell 2 _ rfl
  have x3 : w6.cell? ⟨w.heap.size + 1 + 1, 3, none⟩ = some (.bool false) := HB6.out.2.2.2.cell 3 _ rfl
  have x4 : w6.cell? ⟨w.heap.size + 1 + 1, 4, none⟩ = some (.bool false) := HB6.out.2.2.2.cell 4 _ rfl
  have x5 : w6.cell? ⟨w.heap.size + 1 + 1, 5, none⟩ = some (.bool false) := HB6.out.2.2.2.cell 5 _ rfl
  have y0 : w6.cell? ⟨w.heap.size + 1, 0, none⟩ = some (.slice none 0 0) := HB6.out.2.2.1.cell 0 _ rfl
  have y1 : w6.cell? ⟨w.heap.size + 1, 1, none⟩ = some (.slice none 0 0) := HB6.out.2.2.1.cell 1 _ rfl
  have y2 : w6.cell? ⟨w.heap.size + 1, 2, none⟩ = some (.slice none 0 0) := HB6.out.2.2.1.cell 2 _ rfl
  have y3 : w6.cell? ⟨w.heap.size + 1, 3, none⟩ = some (.bool false) := HB6.out.2.2.1.cell 3 _ rfl
  have y4 : w6.cell? ⟨w.heap.size + 1, 4, none⟩ = some (.bool false) := HB6.out.2.2.1.cell 4 _ rfl
  have y5 : w6.cell? ⟨w.heap.size + 1, 5, none⟩ = some (.bool false) := HB6.out.2.2.1.cell 5 _ rfl
  have f0 := HB6.out.2.2.1.free 0
  have f1 := HB6.out.2.2.1.free 1
  have f2 := HB6.out.2.2.1.free 2
  have f3 := HB6.out.2.2.1.free 3
  have f4 := HB6.out.2.2.1.free 4
  have f5 := HB6.out.2.2.1.free 5
  go_wp2
  have hz := HB6.out.1.size
  refine bodyPost_ret (v := .agg swA) ?r rfl ⟨rfl, ?b⟩
  case r => exact results_cell_row rfl _ _ _ 89 swA (0, 0) _ rfl ((((((HB6.out.2.2.1.set 0 _).set 1 _).set 2 _).set 3 _).set 4 _).set 5 _) Tryz.underlying89 rfl (by kernel_rfl)
  case b => exact (((((HB6.out.1.setCell (p := ⟨w.heap.size + 1, 0, none⟩) (Nat.le_succ _) _).setCell (p := ⟨w.heap.size + 1, 1, none⟩) (Nat.le_succ _) _).setCell (p := ⟨w.heap.size + 1, 2, none⟩) (Nat.le_succ _) _).setCell (p := ⟨w.heap.size + 1, 3, none⟩) (Nat.le_succ _) _).setCell (p := ⟨w.heap.size + 1, 4, none⟩) (Nat.le_succ _) _).setCell (p := ⟨w.heap.size + 1, 5, none⟩) (Nat.le_succ _) _
end Go.Proofs.YtpdbejeiceodkaaGreatDoor
