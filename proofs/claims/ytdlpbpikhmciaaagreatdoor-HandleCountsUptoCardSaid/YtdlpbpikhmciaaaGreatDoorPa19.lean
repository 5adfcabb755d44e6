/- The walk of turnpikelaw18.awake. Conditions: octet.signs holds what the text lays. -/
import Derived.Test.YtdlpbpikhmciaaaGreatDoorPa15
import Derived.Test.YtdlpbpikhmciaaaGreatDoorPa16
import Derived.Test.YtdlpbpikhmciaaaGreatDoorPa17
import Derived.Test.YtdlpbpikhmciaaaGreatDoorPa18
namespace Go.Proofs.YtdlpbpikhmciaaaGreatDoor
open Go.RowKit
set_option linter.unusedSimpArgs false
set_option linter.unusedVariables false
set_option maxRecDepth 1000000
theorem checkT_any (w : World) : Calls Tryz.prog 9 #[.agg (hdC 1 ⟨#[]⟩ ⟨#[104, 105]⟩ ⟨#[97, 47, 98]⟩ 200 0)] w fun e w' => e = .returned (.int .i64 0) ∧ Below w.heap.size w w' := by
  have hr : rt1 (⟨#[97, 47, 98]⟩ : ByteArray).data.toList 200 = true := by decide
  refine (ocheck1_any true 200 0 ⟨#[]⟩ ⟨#[104, 105]⟩ ⟨#[97, 47, 98]⟩ w (fun W _ => ?_)).mono ?_
  · have := lit1_any 1 200 0 ⟨#[]⟩ ⟨#[104, 105]⟩ ⟨#[97, 47, 98]⟩ W (by decide)
    rw [hr] at this
    exact this
  · rintro e w' ⟨rfl, hb⟩
    refine ⟨ret_int ?_, hb⟩
    simp only [toL]
    decide
theorem checkE_any (w : World) : Calls Tryz.prog 9 #[.agg (hdC 4 ⟨#[]⟩ ⟨#[]⟩ ⟨#[]⟩ 0 0)] w fun e w' => e = .returned (.int .i64 0) ∧ Below w.heap.size w w' := by
  refine (ocheck4_any true 0 0 ⟨#[]⟩ ⟨#[]⟩ ⟨#[]⟩ w (fun W _ => yes_any _ W)).mono ?_
  rintro e w' ⟨rfl, hb⟩
  refine ⟨ret_int ?_, hb⟩
  simp only [toL]
  decide
theorem answerT_any (w : World) : Calls Tryz.prog 24 #[.agg (hdC 1 ⟨#[]⟩ ⟨#[104, 105]⟩ ⟨#[97, 47, 98]⟩ 200 0), .agg (asC ⟨#[]⟩ ⟨#[]⟩ 0 0 (.slice none 0 0)), .pointer none] w (RespIs 200 [] [(ctL, [97, 47, 98])] [104, 105] w) :=
  oanswer1_any 200 0 0 0 200 ⟨#[]⟩ ⟨#[104, 105]⟩ ⟨#[97, 47, 98]⟩ ⟨#[]⟩ ⟨#[]⟩ none none 0 0 [] [104, 105] [(ctL, [97, 47, 98])] w (fun W _ => checkT_any W)
    (fun W p _ hP => vtext_any p 1 200 0 ⟨#[]⟩ ⟨#[]⟩ ⟨#[]⟩ [104, 105] [97, 47, 98] 0 0 (.slice none 0 0) (.pointer none) W hP)
theorem answerE_any (w : World) : Calls Tryz.prog 24 #[.agg (hdC 4 ⟨#[]⟩ ⟨#[]⟩ ⟨#[]⟩ 0 0), .agg (asC ⟨#[71, 69, 84]⟩ ⟨#[47, 120]⟩ 0 0 (.slice none 0 0)), .pointer none] w (RespIs 200 [] [(ctL, tpL)] (echoL ++ [10]) w) :=
  oanswer4_any 0 0 0 0 200 ⟨#[]⟩ ⟨#[]⟩ ⟨#[]⟩ ⟨#[71, 69, 84]⟩ ⟨#[47, 120]⟩ none none 0 0 [] (echoL ++ [10]) [(ctL, tpL)] w (fun W _ => checkE_any W)
    (fun W p _ hP => vecho_any p 4 0 0 ⟨#[]⟩ ⟨#[]⟩ ⟨#[]⟩ 0 0 (.pointer none) W hP)
set_option maxHeartbeats 8000000 in
theorem awake18_any (w : World) : Calls Tryz.prog 8 #[] w fun e w' => e = .returned (.bool true) ∧ Below w.heap.size w w' := by
  go_enter Tryz.func8, Tryz.ntmps8
  go_wp2_with fail
  refine (answerT_any w).mono ?_
  rintro e w1 ⟨fv, rfl, hF1, hb1⟩
  obtain ⟨g, cap, rfl, f0, f1⟩ := hF1.at 0 _ rfl
  obtain ⟨p, hp⟩ : ∃ p, w1.heap.size = p := ⟨_, rfl⟩
  obtain ⟨W2, hW2⟩ : ∃ W2, w1.alloc (.cells (rC 200 ⟨#[]⟩ (.slice (some ⟨g, 0, none⟩) 1 cap) ⟨#[104, 105]⟩) 46) = W2 := ⟨_, rfl⟩
  have hB2 : BlkIs W2 p (rC 200 ⟨#[]⟩ (.slice (some ⟨g, 0, none⟩) 1 cap) ⟨#[104, 105]⟩) 46 := by rw [← hW2, ← hp]; exact blkIs_new _ _ _
  have hw2 : Below w.heap.size w W2 := by rw [← hW2]; exact hb1.alloc hb1.size _
  have hpw : w.heap.size ≤ p := by rw [← hp]; exact hb1.size
  have g1 : W2.cell? ⟨g, 1, none⟩ = some (.string ⟨#[97, 47, 98]⟩) := by
    rw [← hW2]
    exact mx_later (B := 0) f1 (below1 w1 _)
  have p0 := hB2.cell 0 _ rfl
  have p2 := hB2.cell 2 _ rfl
  have p3 := hB2.cell 3 _ rfl
  have HW2 := Lib.hid hW2; have HI2 := Lib.hid (And.intro hB2 (And.intro hw2 hpw))
  clear hW2 hB2 hw2 hb1 hF1 f0 f1
  go_upto_region 2 with fail
  rw [HW2.out]
  go_wp2_with fail
  refine (answerE_any W2).mono ?_
  rintro e w3 ⟨fv, rfl, hF3, hb3⟩
  obtain ⟨fo, fn, fc2, rfl⟩ := hF3.shape
  have hB3 := HI2.out.1.later hb3
  have hw3 := HI2.out.2.1.trans (hb3.mono HI2.out.2.1.size)
  have y0 := hB3.free 0
  have y1 := hB3.free 1
  have y2 := hB3.free 2
  have y3 := hB3.free 3
  have z0 := hB3.cell 0 _ rfl
  have z1 := hB3.cell 1 _ rfl
  have z2 := hB3.cell 2 _ rfl
  have z3 := hB3.cell 3 _ rfl
  have HF := Lib.hid (fourBelow hw3 HI2.out.2.2 (.int .i64 200) (.string ⟨#[]⟩) (.slice fo fn fc2) (.string ⟨(echoL ++ [10]).toArray⟩))
  clear p0 p2 p3 g1 hB3 hw3 hb3 hF3
  go_wp2
  go_ret
  exact ⟨by first | rfl | trivial, HF.out⟩
end Go.Proofs.YtdlpbpikhmciaaaGreatDoor
