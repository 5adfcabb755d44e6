/- The walks of Find, Len and of turnpikelaw17.awake. Conditions: bytealg's MaxLen holds an int; octet.signs holds what the text lays. -/
import Derived.Test.YtpdbejeiceodkaaGreatDoorShV
import Derived.Test.YtpdbejeiceodkaaGreatDoorMof
namespace Go.Proofs.YtpdbejeiceodkaaGreatDoor
open Go.RowKit
set_option linter.unusedSimpArgs false
set_option linter.unusedVariables false
set_option maxRecDepth 1000000
abbrev zFnd : Array Value := #[.int .i64 0, .int .i64 0, .string ⟨#[]⟩, .slice none 0 0]
abbrev fndA : Array Value := #[.int .i64 1, .int .i64 0, .string ⟨#[]⟩, .slice none 0 0]
/-- A shelf of the one file. -/
def ShAt (w : World) (s : Nat) : Prop := ∃ mb g cap gi ci, BlkIs w s #[.slice (some ⟨g, 0, none⟩) 1 cap, .map (some mb)] 85 ∧ VyAt w s g gi cap ∧ w.heap[mb]? = some (.map #[{ key := keyA, val := .slice (some ⟨gi, 0, none⟩) 1 ci, born := 0 }] 1)
theorem shAt_made {w W : World} {b s : Nat} (h : ShMade w b s W) : ShAt W s := by
  obtain ⟨_, g, cap, gi, ci, hT, hO, hM, hI⟩ := h
  refine ⟨b, g, cap, gi, ci, hT, ⟨hT.cell 0 _ rfl, own_cellAt hI 0 _ rfl, own_cellAt hO 0 _ rfl, own_cellAt hO 1 _ rfl, own_cellAt hO 2 _ rfl, own_cellAt hO 3 _ rfl, own_cellAt hO 4 _ rfl, own_cellAt hO 5 _ rfl⟩, hM⟩
theorem heap_later {w w' : World} {k : Nat} {o : Obj} (h : w.heap[k]? = some o) (hb : Below w.heap.size w w') : w'.heap[k]? = some o := by
  rw [hb.block k (Array.getElem?_eq_some_iff.1 h).1]; exact h
theorem ShAt.later {w w' : World} {s : Nat} (h : ShAt w s) (hb : Below w.heap.size w w') : ShAt w' s := by
  obtain ⟨mb, g, cap, gi, ci, h1, h2, h3⟩ := h
  exact ⟨mb, g, cap, gi, ci, h1.later hb, h2.later hb, heap_later h3 hb⟩
theorem lenA (s : Nat) (w : World) (h : ShAt w s) : Calls Tryz.prog 21 #[.pointer (some ⟨s, 0, none⟩)] w fun e w' => e = .returned (.int .i64 1) ∧ w' = w := by
  obtain ⟨mb, g, cap, gi, ci, h1, h2, h3⟩ := h
  have c0 := h2.1
  clear h1 h2 h3
  go_enter Tryz.func21, Tryz.ntmps21
  go_wp2
  go_ret
  exact ⟨rfl, by first | rfl | trivial⟩
set_option maxHeartbeats 8000000 in
theorem findA (s : Nat) (w : World) (h : ShAt w s) : Calls Tryz.prog 18 #[.pointer (some ⟨s, 0, none⟩), .string ⟨#[47, 97]⟩, .agg wishA] w fun e w' => e = .returned (.agg fndA) ∧ Below w.heap.size w w' := by
  obtain ⟨mb, g, cap, gi, ci, h1, h2, h3⟩ := h
  obtain ⟨W2, hW2⟩ : ∃ W2, (w.alloc (.cells wishA 27)).alloc (.cells zFnd 36) = W2 := ⟨_, rfl⟩
  obtain ⟨b1, hb1⟩ : ∃ b, w.heap.size = b := ⟨_, rfl⟩
  obtain ⟨b2, hb2⟩ : ∃ b, b1 + 1 = b := ⟨_, rfl⟩
  have hBL : Below w.heap.size w W2 := by rw [← hW2]; exact ((Below.refl _ w).alloc (Nat.le_refl _) _).alloc (by simp) _
  have hA : BlkIs W2 b1 wishA 27 := by rw [← hW2, ← hb1]; exact (blkIs_new w _ _).alloc _
  have hB : BlkIs W2 b2 zFnd 36 := by rw [← hW2, ← hb2, ← hb1]; have := blkIs_new (w.alloc (.cells wishA 27)) zFnd 36; rwa [World.size_alloc] at this
  have HW2 := Lib.hid hW2; have HB2 := Lib.hid (And.intro hBL (And.intro hA hB))
  have HV2 := Lib.hid (And.intro (h1.later hBL) (And.intro (h2.later hBL) (heap_later h3 hBL)))
  have HBB := Lib.hid (show w.heap.size ≤ b2 by omega)
  clear hW2 hBL hA hB h1 h2 h3
  go_enter Tryz.func18, Tryz.ntmps18
  go_upto_region 1 with fail
  rw [HW2.out]
  go_wp2_with fail
  refine (entA _ s rfl W2).mono ?_
  rintro e w3 ⟨rfl, hw3⟩
  subst hw3
  have t1 : w3.cell? ⟨s, 1, none⟩ = some (.map (some mb)) := HV2.out.1.cell 1 _ rfl
  have l0 := lk_one _ _ _ _ w3 HV2.out.2.2
  have a0 : w3.cell? ⟨b1, 0, none⟩ = some (.string ⟨#[]⟩) := HB2.out.2.1.cell 0 _ rfl
  have a1 : w3.cell? ⟨b1, 1, none⟩ = some (.string ⟨#[]⟩) := HB2.out.2.1.cell 1 _ rfl
  have a2 : w3.cell? ⟨b1, 2, none⟩ = some (.string ⟨#[]⟩) := HB2.out.2.1.cell 2 _ rfl
  have a3 : w3.cell? ⟨b1, 3, none⟩ = some (.bool false) := HB2.out.2.1.cell 3 _ rfl
  have a4 : w3.cell? ⟨b1, 4, none⟩ = some (.bool false) := HB2.out.2.1.cell 4 _ rfl
  have a5 : w3.cell? ⟨b1, 5, none⟩ = some (.bool false) := HB2.out.2.1.cell 5 _ rfl
  go_wp2_with fail
  refine (readA w3).mono ?_
  rintro e w4 ⟨rfl, hb4⟩
  obtain ⟨W5, hW5⟩ : ∃ W5, w4.alloc (.cells swA 89) = W5 := ⟨_, rfl⟩
  obtain ⟨bx, hbx⟩ : ∃ b, w4.heap.size = b := ⟨_, rfl⟩
  have hb45 : Below w4.heap.size w4 W5 := by rw [← hW5]; exact (Below.refl _ w4).alloc (Nat.le_refl _) _
  have hb35 : Below w3.heap.size w3 W5 := hb4.trans (hb45.mono hb4.size)
  have HW5 := Lib.hid hW5
  have HB5 := Lib.hid (And.intro (HB2.out.1.trans (hb35.mono HB2.out.1.size)) (HB2.out.2.2.later hb35))
  have HV5 := Lib.hid (HV2.out.2.1.later hb35)
  have HX5 := Lib.hid (show BlkIs W5 bx swA 89 by rw [← hW5, ← hbx]; exact blkIs_new _ _ _)
  clear hW5 hb4 hb45 hb35 t1 l0 a0 a1 a2 a3 a4 a5
  go_upto_region 17 with fail
  rw [HW5.out]
  refine wp_loop_rounds 2 ?_
  rw [rounds_succ]
  have v1 := HV5.out.2.1
  go_upto_region 19 with fail
  clear v1
  refine wp_region_textH (fun W => BlkIs W bx swA 89 ∧ VyAt W s g gi cap) [(0, true), (1, true), (2, true), (3, true), (4, true), (5, true), (6, true), (7, true), (8, false), (9, true)] (by kernel_rfl) (by kernel_rfl) (by kernel_rfl) (by kernel_rfl) ⟨HX5.out, HV5.out⟩ ?_
  iterate 8 (refine wpTxH_take rfl (by kernel_rfl) (v := ?_) ?_ ?_; rotate_left; · (intro W hS; obtain ⟨hS, v0, v1, v2, v3, v4, v5, v6, v7⟩ := hS; have x0 := hS.cell 0 _ rfl; have x1 := hS.cell 1 _ rfl; have x2 := hS.cell 2 _ rfl; have x3 := hS.cell 3 _ rfl; have x4 := hS.cell 4 _ rfl; have x5 := hS.cell 5 _ rfl; clear hS; go_simp; with_reducible rfl))
  refine wpTxH_step rfl (fun K hK => ?_)
  go_simp
  refine (likA _).mono ?_
  rintro e w6 ⟨rfl, hb6⟩
  have hb6 : Below W5.heap.size W5 w6 := ((Below.refl _ W5).drew).trans hb6
  have HB6 := Lib.hid (And.intro (HB5.out.1.trans (hb6.mono HB5.out.1.size)) (HB5.out.2.later hb6))
  have HV6 := Lib.hid (HV5.out.later hb6)
  refine hK _ _ ⟨HX5.out.later hb6, HV5.out.later hb6⟩ ?_
  clear hK K hb6
  refine wpTxH_take rfl (by kernel_rfl) (v := ?_) ?_ ?_; rotate_left; · (intro W hS; clear hS; go_simp; with_reducible rfl)
  refine wpTxH_nil ?_
  go_simp
  go_wp2
  rw [rounds_succ]
  go_wp2_with fail
  refine (varyA s g gi cap ci w6 HV6.out).mono ?_
  rintro e w7 ⟨rfl, hb7⟩
  have HB7 := Lib.hid (And.intro (HB6.out.1.trans (hb7.mono HB6.out.1.size)) (HB6.out.2.later hb7))
  clear hb7
  have y0 : w7.cell? ⟨b2, 0, none⟩ = some (.int .i64 0) := HB7.out.2.cell 0 _ rfl
  have y1 : w7.cell? ⟨b2, 1, none⟩ = some (.int .i64 0) := HB7.out.2.cell 1 _ rfl
  have y2 : w7.cell? ⟨b2, 2, none⟩ = some (.string ⟨#[]⟩) := HB7.out.2.cell 2 _ rfl
  have y3 : w7.cell? ⟨b2, 3, none⟩ = some (.slice none 0 0) := HB7.out.2.cell 3 _ rfl
  have f0 := HB7.out.2.free 0
  have f1 := HB7.out.2.free 1
  have f2 := HB7.out.2.free 2
  have f3 := HB7.out.2.free 3
  go_wp2
  refine bodyPost_ret (v := .agg fndA) ?r rfl ⟨rfl, ?b⟩
  case r => exact results_cell_row rfl _ _ b2 36 fndA (0, 0) _ rfl ((((HB7.out.2.set 0 _).set 1 _).set 2 _).set 3 _) Tryz.underlying36 rfl (by kernel_rfl)
  case b => exact (((HB7.out.1.setCell (p := ⟨b2, 0, none⟩) HBB.out _).setCell (p := ⟨b2, 1, none⟩) HBB.out _).setCell (p := ⟨b2, 2, none⟩) HBB.out _).setCell (p := ⟨b2, 3, none⟩) HBB.out _
theorem mofA : mofF [120, 46, 99, 115, 115] = [116, 101, 120, 116, 47, 99, 115, 115] := by kernel_rfl
theorem mofA_any (w : World) : Calls Tryz.prog 13 #[.string ⟨#[120, 46, 99, 115, 115]⟩] w fun e w' => e = .returned (.string ⟨#[116, 101, 120, 116, 47, 99, 115, 115]⟩) ∧ Below w.heap.size w w' := by
  have h := omof_any ⟨#[120, 46, 99, 115, 115]⟩ w (by decide)
  rw [show (⟨#[120, 46, 99, 115, 115]⟩ : ByteArray).data.toList = [120, 46, 99, 115, 115] from rfl, mofA] at h
  exact h
set_option maxHeartbeats 8000000 in
theorem awake17_any (m : Int) (w : World) (hm : w.cell? ⟨0, 0, none⟩ = some (.int .i64 m)) (hg : SgAt w) : Calls Tryz.prog 12 #[] w fun e w' => e = .returned (.bool true) ∧ Below w.heap.size w w' := by
  obtain ⟨W1, hW1⟩ : ∃ W1, w.alloc (.cells flA 46) = W1 := ⟨_, rfl⟩
  have hb1 : Below w.heap.size w W1 := by rw [← hW1]; exact (Below.refl _ w).alloc (Nat.le_refl _) _
  have hB1 : BlkIs W1 w.heap.size flA 46 := by rw [← hW1]; exact blkIs_new _ _ _
  have HN := Lib.hid (newA m w.heap.size W1 (mx_later (B := 0) hm hb1) (hg.below hb1) hB1)
  have HW1 := Lib.hid hW1; have HB1 := Lib.hid hb1
  clear hW1 hb1 hB1 hm hg
  go_enter Tryz.func12, Tryz.ntmps12
  go_wp2_with (go_at_call 35; rw [HW1.out]; refine (HN.out).mono ?_)
  rintro e w2 ⟨b, s, rfl, hsh⟩
  have HS2 := Lib.hid (shAt_made hsh)
  have HB2 := Lib.hid (HB1.out.trans (hsh.1.mono HB1.out.size))
  clear hsh
  go_wp2_with fail
  refine (lenA s w2 HS2.out).mono ?_
  rintro e w3 ⟨rfl, hw3⟩
  subst hw3
  go_wp2_with fail
  refine (findA s w3 HS2.out).mono ?_
  rintro e w4 ⟨rfl, hb4⟩
  obtain ⟨W5, hW5⟩ : ∃ W5, w4.alloc (.cells fndA 36) = W5 := ⟨_, rfl⟩
  have hb5 : Below w.heap.size w W5 := by rw [← hW5]; exact (HB2.out.trans (hb4.mono HB2.out.size)).alloc (HB2.out.trans (hb4.mono HB2.out.size)).size _
  have hB5 : BlkIs W5 w4.heap.size fndA 36 := by rw [← hW5]; exact blkIs_new _ _ _
  have HW5 := Lib.hid hW5; have HB5 := Lib.hid hb5
  clear hW5 hb4 hb5
  go_upto_region 5 with fail
  rw [HW5.out]
  have c0 : W5.cell? ⟨w4.heap.size, 0, none⟩ = some (.int .i64 1) := hB5.cell 0 _ rfl
  have c1 : W5.cell? ⟨w4.heap.size, 1, none⟩ = some (.int .i64 0) := hB5.cell 1 _ rfl
  clear hB5
  go_wp2_with fail
  refine (mofA_any W5).mono ?_
  rintro e w6 ⟨rfl, hb6⟩
  have HB6 := Lib.hid (HB5.out.trans (hb6.mono HB5.out.size))
  clear hb6 c0 c1
  go_wp2
  go_ret
  exact ⟨by first | rfl | simp, HB6.out⟩
end Go.Proofs.YtpdbejeiceodkaaGreatDoor
