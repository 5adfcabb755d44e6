/- The walk of vary at a shelf of one plain file. No conditions but what stands in memory. -/
import Derived.Test.YtpdbejeiceodkaaGreatDoorShG
namespace Go.Proofs.YtpdbejeiceodkaaGreatDoor
open Go.RowKit
set_option linter.unusedSimpArgs false
set_option linter.unusedVariables false
set_option maxRecDepth 1000000
abbrev zFlA : Array Value := #[.string ⟨#[]⟩, .string ⟨#[]⟩, .string ⟨#[]⟩, .string ⟨#[]⟩, .string ⟨#[]⟩, .int .i64 0]
theorem sixSet {w : World} {b : Nat} {T : TypeId} {z : Array Value} (h : BlkIs w b z T) (hz : z = zFlA) :
    BlkIs ((((((w.setCell ⟨b, 0, none⟩ (.string ⟨#[47, 97]⟩)).setCell ⟨b, 1, none⟩ (.string ⟨#[116, 101, 120, 116, 47, 112, 108, 97, 105, 110]⟩)).setCell ⟨b, 2, none⟩ (.string ⟨#[]⟩)).setCell ⟨b, 3, none⟩ (.string ⟨#[]⟩)).setCell ⟨b, 4, none⟩ (.string ⟨#[104, 105]⟩)).setCell ⟨b, 5, none⟩ (.int .i64 (-1))) b flA T := by
  subst hz
  exact (((((h.set 0 _).set 1 _).set 2 _).set 3 _).set 4 _).set 5 _
theorem sixBelow {B : Nat} {w0 w : World} {b : Nat} (h : Below B w0 w) (hb : B ≤ b) (u0 u1 u2 u3 u4 u5 : Value) :
    Below B w0 ((((((w.setCell ⟨b, 0, none⟩ u0).setCell ⟨b, 1, none⟩ u1).setCell ⟨b, 2, none⟩ u2).setCell ⟨b, 3, none⟩ u3).setCell ⟨b, 4, none⟩ u4).setCell ⟨b, 5, none⟩ u5) :=
  (((((h.setCell (p := ⟨b, 0, none⟩) hb _).setCell (p := ⟨b, 1, none⟩) hb _).setCell (p := ⟨b, 2, none⟩) hb _).setCell (p := ⟨b, 3, none⟩) hb _).setCell (p := ⟨b, 4, none⟩) hb _).setCell (p := ⟨b, 5, none⟩) hb _
/-- What vary reads. -/
def VyAt (w : World) (s g gi : Nat) (cap : Nat) : Prop := w.cell? ⟨s, 0, none⟩ = some (.slice (some ⟨g, 0, none⟩) 1 cap) ∧ w.cell? ⟨gi, 0, none⟩ = some (.int .i64 0) ∧ w.cell? ⟨g, 0, none⟩ = some (.string ⟨#[47, 97]⟩) ∧ w.cell? ⟨g, 1, none⟩ = some (.string ⟨#[116, 101, 120, 116, 47, 112, 108, 97, 105, 110]⟩) ∧ w.cell? ⟨g, 2, none⟩ = some (.string ⟨#[]⟩) ∧ w.cell? ⟨g, 3, none⟩ = some (.string ⟨#[]⟩) ∧ w.cell? ⟨g, 4, none⟩ = some (.string ⟨#[104, 105]⟩) ∧ w.cell? ⟨g, 5, none⟩ = some (.int .i64 (-1))
theorem VyAt.later {w w' : World} {s g gi cap : Nat} (h : VyAt w s g gi cap) (hb : Below w.heap.size w w') : VyAt w' s g gi cap :=
  ⟨mx_later (B := 0) h.1 hb, mx_later (B := 0) h.2.1 hb, mx_later (B := 0) h.2.2.1 hb, mx_later (B := 0) h.2.2.2.1 hb, mx_later (B := 0) h.2.2.2.2.1 hb, mx_later (B := 0) h.2.2.2.2.2.1 hb, mx_later (B := 0) h.2.2.2.2.2.2.1 hb, mx_later (B := 0) h.2.2.2.2.2.2.2 hb⟩
set_option maxHeartbeats 8000000 in
theorem varyA (s g gi cap ci : Nat) (w : World) (h : VyAt w s g gi cap) : Calls Tryz.prog 42 #[.pointer (some ⟨s, 0, none⟩), .slice (some ⟨gi, 0, none⟩) 1 ci] w fun e w' => e = .returned (.slice none 0 0) ∧ Below w.heap.size w w' := by
  have HV := Lib.hid h
  clear h
  obtain ⟨D, hD⟩ : ∃ D, w.drew = D := ⟨_, rfl⟩
  have hVD : VyAt D s g gi cap := by rw [← hD]; exact HV.out
  have hbD : Below w.heap.size w D := by rw [← hD]; exact (Below.refl _ w).drew
  have hsz : w.heap.size = D.heap.size := by rw [← hD]; rfl
  have HVD := Lib.hid hVD; have HBD := Lib.hid hbD; have HSZ := Lib.hid hsz; have HD := Lib.hid hD
  clear hVD hbD hsz hD
  go_enter Tryz.func42, Tryz.ntmps42
  go_upto_region 1 with fail
  refine wp_region_textH (fun W => Below D.heap.size D W) [(0, true), (1, true), (2, true), (3, true), (4, true), (5, true), (6, true), (7, true), (8, true), (9, false), (10, false)] (by kernel_rfl) (by kernel_rfl) (by kernel_rfl) (by kernel_rfl) (by rw [HD.out]; exact Below.refl _ _) ?_
  rw [HD.out]
  iterate 9 (refine wpTxH_take rfl (by kernel_rfl) (v := ?_) ?_ ?_; rotate_left; · (intro W hS; obtain ⟨v0, v1, v2, v3, v4, v5, v6, v7⟩ := HVD.out.later hS; clear hS; go_simp; with_reducible rfl))
  refine wpTxH_step rfl (fun K hK => ?_)
  go_simp
  refine hK _ _ ((Below.refl _ D).alloc (Nat.le_refl _) _) ?_
  clear hK K
  refine wpTxH_step rfl (fun K hK => ?_)
  go_simp
  refine hK _ _ ((Below.refl _ D).alloc (Nat.le_refl _) _) ?_
  clear hK K
  refine wpTxH_nil ?_
  obtain ⟨b1, hb1⟩ : ∃ b, D.heap.size = b := ⟨_, rfl⟩
  obtain ⟨b2, hb2⟩ : ∃ b, b1 + 1 = b := ⟨_, rfl⟩
  obtain ⟨b3, hb3⟩ : ∃ b, b2 + 1 = b := ⟨_, rfl⟩
  obtain ⟨W3, hW3⟩ : ∃ W3, ((D.alloc (.cells flA 46)).alloc (.cells #[.bool false, .bool false, .bool false] 136)).alloc (.cells flA 46) = W3 := ⟨_, rfl⟩
  have hB1 : BlkIs W3 b1 flA 46 := by rw [← hW3, ← hb1]; exact ((blkIs_new D flA 46).alloc _).alloc _
  have hB2 : BlkIs W3 b2 #[.bool false, .bool false, .bool false] 136 := by rw [← hW3, ← hb2, ← hb1]; have := blkIs_new (D.alloc (.cells flA 46)) #[.bool false, .bool false, .bool false] 136; rw [World.size_alloc] at this; exact this.alloc _
  have hB3 : BlkIs W3 b3 flA 46 := by rw [← hW3, ← hb3, ← hb2, ← hb1]; have := blkIs_new ((D.alloc (.cells flA 46)).alloc (.cells #[.bool false, .bool false, .bool false] 136)) flA 46; rw [World.size_alloc, World.size_alloc] at this; exact this
  have hBL : Below D.heap.size D W3 := by rw [← hW3]; exact (((Below.refl _ D).alloc (Nat.le_refl _) _).alloc (by simp) _).alloc (by simp; omega) _
  have HW3 := Lib.hid hW3
  have hl2 : D.heap.size ≤ b2 := by omega
  obtain ⟨Wa, hWa⟩ : ∃ W, W3.setCell ⟨b2, 0, none⟩ (.bool false) = W := ⟨_, rfl⟩
  have hA1 : BlkIs Wa b1 flA 46 := by rw [← hWa]; exact hB1.setOther _ _ (by simp; omega)
  have hA2 : BlkIs Wa b2 #[.bool false, .bool false, .bool false] 136 := by rw [← hWa]; exact hB2.set 0 _
  have hA3 : BlkIs Wa b3 flA 46 := by rw [← hWa]; exact hB3.setOther _ _ (by simp; omega)
  have hAL : Below D.heap.size D Wa := by rw [← hWa]; exact hBL.setCell (p := ⟨b2, 0, none⟩) hl2 _
  obtain ⟨Wb, hWb⟩ : ∃ W, Wa.setCell ⟨b2, 1, none⟩ (.bool false) = W := ⟨_, rfl⟩
  have hC1 : BlkIs Wb b1 flA 46 := by rw [← hWb]; exact hA1.setOther _ _ (by simp; omega)
  have hC2 : BlkIs Wb b2 #[.bool false, .bool false, .bool false] 136 := by rw [← hWb]; exact hA2.set 1 _
  have hC3 : BlkIs Wb b3 flA 46 := by rw [← hWb]; exact hA3.setOther _ _ (by simp; omega)
  have hCL : Below D.heap.size D Wb := by rw [← hWb]; exact hAL.setCell (p := ⟨b2, 1, none⟩) hl2 _
  obtain ⟨Wc, hWc⟩ : ∃ W, Wb.setCell ⟨b2, 2, none⟩ (.bool false) = W := ⟨_, rfl⟩
  have hE2 : BlkIs Wc b2 #[.bool false, .bool false, .bool false] 136 := by rw [← hWc]; exact hC2.set 2 _
  have hEL : Below D.heap.size D Wc := by rw [← hWc]; exact hCL.setCell (p := ⟨b2, 2, none⟩) hl2 _
  obtain ⟨W4, hW4⟩ : ∃ W, Wc.alloc (.cells #[.string ⟨#[65, 99, 99, 101, 112, 116]⟩, .string ⟨#[65, 99, 99, 101, 112, 116, 45, 69, 110, 99, 111, 100, 105, 110, 103]⟩, .string ⟨#[65, 99, 99, 101, 112, 116, 45, 76, 97, 110, 103, 117, 97, 103, 101]⟩] 9) = W := ⟨_, rfl⟩
  have hG2 : BlkIs W4 b2 #[.bool false, .bool false, .bool false] 136 := by rw [← hW4]; exact hE2.alloc _
  have hGN : BlkIs W4 Wc.heap.size #[.string ⟨#[65, 99, 99, 101, 112, 116]⟩, .string ⟨#[65, 99, 99, 101, 112, 116, 45, 69, 110, 99, 111, 100, 105, 110, 103]⟩, .string ⟨#[65, 99, 99, 101, 112, 116, 45, 76, 97, 110, 103, 117, 97, 103, 101]⟩] 9 := by rw [← hW4]; exact blkIs_new _ _ _
  have hGL : Below D.heap.size D W4 := by rw [← hW4]; exact hEL.alloc hEL.size _
  obtain ⟨bn, hbn⟩ : ∃ b, Wc.heap.size = b := ⟨_, rfl⟩
  rw [hbn] at hGN
  have HX3 := Lib.hid (And.intro hB1 (And.intro hB2 hB3)); have HXa := Lib.hid (And.intro hA1 (And.intro hA2 hA3)); have HXb := Lib.hid (And.intro hC1 (And.intro hC2 hC3)); have HX4 := Lib.hid (And.intro hG2 hGN)
  have HWa := Lib.hid hWa; have HWb := Lib.hid hWb; have HWc := Lib.hid hWc; have HW4 := Lib.hid hW4
  have HFIN := Lib.hid (show Below w.heap.size w W4 from HBD.out.trans (by rw [HSZ.out]; exact hGL))
  obtain ⟨v0, v1, v2, v3, v4, v5, v6, v7⟩ := HVD.out.later (show Below D.heap.size D ((D.alloc (.cells flA 46)).alloc (.cells #[.bool false, .bool false, .bool false] 136)) from ((Below.refl _ D).alloc (Nat.le_refl _) _).alloc (by simp) _)
  clear hB1 hB2 hB3 hA1 hA2 hA3 hC1 hC2 hC3 hE2 hG2 hGN hW3 hWa hWb hWc hW4 hBL hAL hCL hEL hGL hl2
  go_simp
  go_upto_region 4 with fail
  refine wp_loop_rounds 2 ?_
  rw [rounds_succ]
  go_upto_region 7 with fail
  rw [HW3.out]
  clear v0 v1 v2 v3 v4 v5 v6 v7
  have p1 : W3.cell? ⟨b1, 1, none⟩ = some (.string ⟨#[116, 101, 120, 116, 47, 112, 108, 97, 105, 110]⟩) := HX3.out.1.cell 1 _ rfl
  have p2 : W3.cell? ⟨b3, 1, none⟩ = some (.string ⟨#[116, 101, 120, 116, 47, 112, 108, 97, 105, 110]⟩) := HX3.out.2.2.cell 1 _ rfl
  have p3 : W3.cell? ⟨b2, 0, none⟩ = some (.bool false) := HX3.out.2.1.cell 0 _ rfl
  have p4 := HX3.out.2.1.free 0
  go_upto_region 8 with fail
  rw [HWa.out]
  clear p1 p2 p3 p4
  have p1 : Wa.cell? ⟨b1, 2, none⟩ = some (.string ⟨#[]⟩) := HXa.out.1.cell 2 _ rfl
  have p2 : Wa.cell? ⟨b3, 2, none⟩ = some (.string ⟨#[]⟩) := HXa.out.2.2.cell 2 _ rfl
  have p3 : Wa.cell? ⟨b2, 1, none⟩ = some (.bool false) := HXa.out.2.1.cell 1 _ rfl
  have p4 := HXa.out.2.1.free 1
  go_upto_region 9 with fail
  rw [HWb.out]
  clear p1 p2 p3 p4
  have p1 : Wb.cell? ⟨b1, 3, none⟩ = some (.string ⟨#[]⟩) := HXb.out.1.cell 3 _ rfl
  have p2 : Wb.cell? ⟨b3, 3, none⟩ = some (.string ⟨#[]⟩) := HXb.out.2.2.cell 3 _ rfl
  have p3 : Wb.cell? ⟨b2, 2, none⟩ = some (.bool false) := HXb.out.2.1.cell 2 _ rfl
  have p4 := HXb.out.2.1.free 2
  go_upto_region 10 with fail
  rw [HWc.out]
  clear p1 p2 p3 p4
  go_wp2
  rw [rounds_succ]
  go_upto_region 13 with fail
  rw [HW4.out]
  have p1 : W4.cell? ⟨b2, 0, none⟩ = some (.bool false) := HX4.out.1.cell 0 _ rfl
  have p2 : W4.cell? ⟨b2, 1, none⟩ = some (.bool false) := HX4.out.1.cell 1 _ rfl
  have p3 : W4.cell? ⟨b2, 2, none⟩ = some (.bool false) := HX4.out.1.cell 2 _ rfl
  have n1 := HX4.out.2.cell 0 _ rfl
  have n2 := HX4.out.2.cell 1 _ rfl
  have n3 := HX4.out.2.cell 2 _ rfl
  refine wp_loop_rounds 4 ?_
  rw [rounds_succ]
  go_wp2
  rw [rounds_succ]
  go_wp2
  rw [rounds_succ]
  go_wp2
  rw [rounds_succ]
  go_wp2
  go_ret
  exact ⟨rfl, HFIN.out⟩
end Go.Proofs.YtpdbejeiceodkaaGreatDoor
