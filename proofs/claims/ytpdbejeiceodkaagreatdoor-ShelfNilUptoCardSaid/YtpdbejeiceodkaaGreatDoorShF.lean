/- The walks of shelf.read, coding, language and liking at an empty wish; of Entries at "/a". Conditions: texts are small. -/
import Derived.Test.YtpdbejeiceodkaaGreatDoorShN
import Derived.Test.YtpdbejeiceodkaaGreatDoorLst
namespace Go.Proofs.YtpdbejeiceodkaaGreatDoor
open Go.RowKit
set_option linter.unusedSimpArgs false
set_option linter.unusedVariables false
set_option maxRecDepth 1000000
theorem entA (sv : Value) (s : Nat) (hsv : sv = .pointer (some ⟨s, 0, none⟩)) (w : World) : Calls Tryz.prog 22 #[sv, .string ⟨#[47, 97]⟩] w fun e w' => e = .returned (.tuple #[.slice none 0 0, .bool false]) ∧ w' = w := by
  subst hsv
  go_enter Tryz.func22, Tryz.ntmps22
  go_wp2_with fail
  refine (sufA w).mono ?_
  rintro e w1 ⟨rfl, hw1⟩
  subst hw1
  go_wp2
  go_ret2
  exact ⟨rfl, by first | rfl | trivial⟩
theorem lsA : lsR [] = ([], 0) := by kernel_rfl
theorem listA (w : World) : Calls Tryz.prog 106 #[.string ⟨#[]⟩] w fun e w' => ∃ ao cap, e = .returned (.tuple #[.slice ao 0 cap, .int .i64 0]) ∧ Below w.heap.size w w' := by
  refine (olist_any ⟨#[]⟩ w (by decide)).mono fun e w' h => ?_
  unfold LsPost at h
  rw [show (⟨#[]⟩ : ByteArray).data.toList = [] from rfl, lsA] at h
  obtain ⟨v, rfl, hown, hb⟩ := h
  obtain ⟨ao, cap, rfl⟩ : ∃ ao cap, v = .slice ao 0 cap := by
    rcases hown.2 with ⟨rfl, h0⟩ | ⟨g, cap, cur, rfl, _⟩
    · exact ⟨none, 0, rfl⟩
    · exact ⟨_, cap, rfl⟩
  exact ⟨ao, cap, rfl, hb⟩
theorem rangesA (w : World) : Calls Tryz.prog 69 #[.string ⟨#[]⟩] w fun e w' => e = .returned (.tuple #[.slice none 0 0, .int .i64 0]) ∧ Below w.heap.size w w' := by
  go_enter Tryz.func69, Tryz.ntmps69
  go_wp2_with fail
  refine (listA w).mono ?_
  rintro e w1 ⟨ao, cap, rfl, hb1⟩
  have HB := Lib.hid hb1
  clear hb1
  go_wp2
  refine wp_loop_rounds 1 ?_
  rw [rounds_succ]
  go_wp2
  go_ret2
  exact ⟨rfl, HB.out⟩
theorem weightsA (w : World) : Calls Tryz.prog 70 #[.string ⟨#[]⟩] w fun e w' => e = .returned (.tuple #[.slice none 0 0, .int .i64 0]) ∧ Below w.heap.size w w' := by
  go_enter Tryz.func70, Tryz.ntmps70
  go_wp2_with fail
  refine (listA w).mono ?_
  rintro e w1 ⟨ao, cap, rfl, hb1⟩
  have HB := Lib.hid hb1
  clear hb1
  go_wp2
  refine wp_loop_rounds 1 ?_
  rw [rounds_succ]
  go_wp2
  go_ret2
  exact ⟨rfl, HB.out⟩
abbrev wishA : Array Value := #[.string ⟨#[]⟩, .string ⟨#[]⟩, .string ⟨#[]⟩, .bool false, .bool false, .bool false]
abbrev swA : Array Value := #[.slice none 0 0, .slice none 0 0, .slice none 0 0, .bool false, .bool false, .bool false]
theorem codA (w : World) : Calls Tryz.prog 73 #[.agg swA, .string ⟨#[]⟩] w fun e w' => e = .returned (.int .i64 1000) ∧ Below w.heap.size w w' := by
  have hb := (Below.refl _ w).alloc (Nat.le_refl _) (.cells swA 89)
  have HB := Lib.hid hb
  clear hb
  go_enter Tryz.func73, Tryz.ntmps73
  go_wp2
  go_ret
  exact ⟨rfl, HB.out⟩
theorem lngA (w : World) : Calls Tryz.prog 74 #[.agg swA, .string ⟨#[]⟩] w fun e w' => e = .returned (.int .i64 1000) ∧ Below w.heap.size w w' := by
  have hb := (Below.refl _ w).alloc (Nat.le_refl _) (.cells swA 89)
  have HB := Lib.hid hb
  clear hb
  go_enter Tryz.func74, Tryz.ntmps74
  go_wp2
  go_ret
  exact ⟨rfl, HB.out⟩
theorem mulA : IntKind.i64.wrap (1000 * 1000) = 1000000 ∧ IntKind.i64.wrap (1000000 * 1000) = 1000000000 := by constructor <;> decide
set_option maxHeartbeats 4000000 in
theorem likA (w : World) : Calls Tryz.prog 41 #[.agg swA, .agg flA] w fun e w' => e = .returned (.int .i64 1000000000) ∧ Below w.heap.size w w' := by
  obtain ⟨W2, hW2⟩ : ∃ W2, (w.alloc (.cells swA 89)).alloc (.cells flA 46) = W2 := ⟨_, rfl⟩
  have hb2 : Below w.heap.size w W2 := by rw [← hW2]; exact ((Below.refl _ w).alloc (Nat.le_refl _) _).alloc (by simp) _
  have hA : BlkIs W2 w.heap.size swA 89 := by rw [← hW2]; exact (blkIs_new w _ _).alloc _
  have hF : BlkIs W2 (w.heap.size + 1) flA 46 := by rw [← hW2]; have := blkIs_new (w.alloc (.cells swA 89)) flA 46; rwa [World.size_alloc] at this
  have HW2 := Lib.hid hW2; have HB2 := Lib.hid (And.intro hb2 (And.intro hA hF)); have HMU := Lib.hid mulA
  clear hW2 hb2 hA hF
  go_enter Tryz.func41, Tryz.ntmps41
  go_upto_region 2 with fail
  rw [HW2.out]
  have a3 : W2.cell? ⟨w.heap.size, 3, none⟩ = some (.bool false) := HB2.out.2.1.cell 3 _ rfl
  go_upto_region 5 with fail
  clear a3
  refine wp_region_textH (fun W => BlkIs W w.heap.size swA 89 ∧ BlkIs W (w.heap.size + 1) flA 46) [(0, true), (1, true), (2, true), (3, true), (6, true), (7, true), (8, true), (4, false), (5, true), (9, false), (10, true), (11, true)] (by kernel_rfl) (by kernel_rfl) (by kernel_rfl) (by kernel_rfl) HB2.out.2 ?_
  iterate 7 (refine wpTxH_take rfl (by kernel_rfl) (v := ?_) ?_ ?_; rotate_left; · (intro W hS; obtain ⟨s0, s1⟩ := hS; have a0 := s0.cell 0 _ rfl; have a1 := s0.cell 1 _ rfl; have a2 := s0.cell 2 _ rfl; have a3 := s0.cell 3 _ rfl; have a4 := s0.cell 4 _ rfl; have a5 := s0.cell 5 _ rfl; have b2 := s1.cell 2 _ rfl; have b3 := s1.cell 3 _ rfl; clear s0 s1; go_simp; with_reducible rfl))
  refine wpTxH_step rfl (fun K hK => ?_)
  go_simp
  refine (codA _).mono ?_
  rintro e w3 ⟨rfl, hb3⟩
  have hb23 : Below w.heap.size w w3 := HB2.out.1.trans ((((Below.refl _ W2).drew).trans hb3).mono HB2.out.1.size)
  have HS3 := Lib.hid (And.intro (BlkIs.later (show BlkIs W2.drew _ _ _ from HB2.out.2.1) hb3) (BlkIs.later (show BlkIs W2.drew _ _ _ from HB2.out.2.2) hb3))
  have HB3 := Lib.hid hb23
  refine hK _ _ HS3.out ?_
  clear hK K hb3 hb23
  refine wpTxH_take rfl (by kernel_rfl) (v := ?_) ?_ ?_; rotate_left; · (intro W hS; obtain ⟨u1, u2⟩ := HMU.out; go_simp; with_reducible rfl)
  refine wpTxH_step rfl (fun K hK => ?_)
  go_simp
  refine (lngA _).mono ?_
  rintro e w4 ⟨rfl, hb4⟩
  have HB4 := Lib.hid (HB3.out.trans (hb4.mono HB3.out.size))
  refine hK _ _ ⟨HS3.out.1.later hb4, HS3.out.2.later hb4⟩ ?_
  clear hK K hb4
  iterate 2 (refine wpTxH_take rfl (by kernel_rfl) (v := ?_) ?_ ?_; rotate_left; · (intro W hS; obtain ⟨u1, u2⟩ := HMU.out; clear hS; go_simp; with_reducible rfl))
  refine wpTxH_nil ?_
  go_simp
  go_wp2
  go_ret
  exact ⟨rfl, HB4.out⟩
end Go.Proofs.YtpdbejeiceodkaaGreatDoor
