/- ShV, ShPl, NmE, PcW: texts of the seat, one behind the other (a claim holds at most sixty). Conditions: each theorem names its own. -/
import Derived.Test.YtpdbejeiceodkaaGreatDoorPk21
import Derived.Test.YtpdbejeiceodkaaGreatDoorPk20
import Derived.Test.YtpdbejeiceodkaaGreatDoorPk09
import Derived.Test.YtpdbejeiceodkaaGreatDoorPk14
import Derived.Test.YtpdbejeiceodkaaGreatDoorPk07
import Derived.Test.YtpdbejeiceodkaaGreatDoorPk06
namespace Go.Proofs.YtpdbejeiceodkaaGreatDoor
open Go.RowKit
set_option linter.unusedSimpArgs false
set_option linter.unusedVariables false
set_option maxRecDepth 1000000
abbrev zFlA : Array Value := #[.string ⟨#[]⟩, .string ⟨#[]⟩, .string ⟨#[]⟩, .string ⟨#[]⟩, .string ⟨#[]⟩, .int .i64 0]
theorem sixSet {w : World} {b : Nat} {T : TypeId} {z : Array Value} (h : BlkIs w b z T) (hz : z = zFlA) :
    BlkIs ((((((w.setCell ⟨b, 0, none⟩ (.string ⟨#[47, 97]⟩)).setCell ⟨b, 1, none⟩ (.string ⟨#[116, 101, 120, 116, 47, 112, 108, 97, 105, 110]⟩)).setCell ⟨b, 2, none⟩ (.string ⟨#[]⟩)).setCell ⟨b, 3, none⟩ (.string ⟨#[]⟩)).setCell ⟨b, 4, none⟩ (.string ⟨#[104, 105]⟩)).setCell ⟨b, 5, none⟩ (.int .i64 (-1))) b flA T := by
  subst hz
  exact (((((h.set 0 _).set 1 _).set 2 _).set 3 _).set 4 _).set 5 _
theorem sixBelow {B : Nat} {w0 w : World} {b : Nat} (h : Below B w0 w) (hb : B ≤ b) (u0 u1 u2 u3 u4 u5 : Value) :
    Below B w0 ((((((w.setCell ⟨b, 0, none⟩ u0).setCell ⟨b, 1, none⟩ u1).setCell ⟨b, 2, none⟩ u2).setCell ⟨b, 3, none⟩ u3).setCell ⟨b, 4, none⟩ u4).setCell ⟨b, 5, none⟩ u5) :=
  (((((h.setCell (p := ⟨b, 0, none⟩) hb _).setCell (p := ⟨b, 1, none⟩) hb _).setCell (p := ⟨b, 2, none⟩) hb _).setCell (p := ⟨b, 3, none⟩) hb _).setCell (p := ⟨b, 4, none⟩) hb _).setCell (p := ⟨b, 5, none⟩) hb _
/-- What vary reads. -/
def VyAt (w : World) (s g gi : Nat) (cap : Nat) : Prop := w.cell? ⟨s, 0, none⟩ = some (.slice (some ⟨g, 0, none⟩) 1 cap) ∧ w.cell? ⟨gi, 0, none⟩ = some (.int .i64 0) ∧ w.cell? ⟨g, 0, none⟩ = some (.string ⟨#[47, 97]⟩) ∧ w.cell? ⟨g, 1, none⟩ = some (.string ⟨#[116, 101, 120, 116, 47, 112, 108, 97, 105, 110]⟩) ∧ w.cell? ⟨g, 2, none⟩ = some (.string ⟨#[]⟩) ∧ w.cell? ⟨g, 3, none⟩ = some (.string ⟨#[]⟩) ∧ w.cell? ⟨g, 4, none⟩ = some (.string ⟨#[104, 105]⟩) ∧ w.cell? ⟨g, 5, none⟩ = some (.int .i64 (-1))
theorem VyAt.later {w w' : World} {s g gi cap : Nat} (h : VyAt w s g gi cap) (hb : Below w.heap.size w w') : VyAt w' s g gi cap :=
  ⟨mx_later (B := 0) h.1 hb, mx_later (B := 0) h.2.1 hb, mx_later (B := 0) h.2.2.1 hb, mx_later (B := 0) h.2.2.2.1 hb, mx_later (B := 0) h.2.2.2.2.1 hb, mx_later (B := 0) h.2.2.2.2.2.1 hb, mx_later (B := 0) h.2.2.2.2.2.2.1 hb, mx_later (B := 0) h.2.2.2.2.2.2.2 hb⟩
set_option maxHeartbeats 8000000 in
theorem varyA (s g gi cap ci : Nat) (w : World) (h : VyAt w s g gi cap) : Calls Tryz.prog 42 #[.pointer (some ⟨s, 0, none⟩), .slice (some ⟨gi, 0, none⟩) 1 ci] w fun e w' => e = .returned (.slice none 0 0) ∧ Below w.heap.size w w' := by
  have HV := Lib.hid h
  clear h
  obtain ⟨D, hD⟩ : ∃ D, w.drew = D := ⟨_, rfl⟩
  have hVD : VyAt D s g gi cap := by rw [← hD]; exact HV.out
  have hbD : Below w.heap.size w D := by rw [← hD]; exact (Below.refl _ w).drew
  have hsz : w.heap.size = D.heap.size := by rw [← hD]; rfl
  have HVD := Lib.hid hVD; have HBD := Lib.hid hbD; have HSZ := Lib.hid hsz; have HD := Lib.hid hD
  clear hVD hbD hsz hD
  go_enter Tryz.func42, Tryz.ntmps42
  go_upto_region 1 with fail
  refine wp_region_textH (fun W => Below D.heap.size D W) [(0, true), (1, true), (2, true), (3, true), (4, true), (5, true), (6, true), (7, true), (8, true), (9, false), (10, false)] (by kernel_rfl) (by kernel_rfl) (by kernel_rfl) (by kernel_rfl) (by rw [HD.out]; exact Below.refl _ _) ?_
  rw [HD.out]
  iterate 9 (refine wpTxH_take rfl (by kernel_rfl) (v := ?_) ?_ ?_; rotate_left; · (intro W hS; obtain ⟨v0, v1, v2, v3, v4, v5, v6, v7⟩ := HVD.out.later hS; clear hS; go_simp; with_reducible rfl))
  refine wpTxH_step rfl (fun K hK => ?_)
  go_simp
  refine hK _ _ ((Below.refl _ D).alloc (Nat.le_refl _) _) ?_
  clear hK K
  refine wpTxH_step rfl (fun K hK => ?_)
  go_simp
  refine hK _ _ ((Below.refl _ D).alloc (Nat.le_refl _) _) ?_
  clear hK K
  refine wpTxH_nil ?_
  obtain ⟨b1, hb1⟩ : ∃ b, D.heap.size = b := ⟨_, rfl⟩
  obtain ⟨b2, hb2⟩ : ∃ b, b1 + 1 = b := ⟨_, rfl⟩
  obtain ⟨b3, hb3⟩ : ∃ b, b2 + 1 = b := ⟨_, rfl⟩
  obtain ⟨W3, hW3⟩ : ∃ W3, ((D.alloc (.cells flA 46)).alloc (.cells #[.bool false, .bool false, .bool false] 136)).alloc (.cells flA 46) = W3 := ⟨_, rfl⟩
  have hB1 : BlkIs W3 b1 flA 46 := by rw [← hW3, ← hb1]; exact ((blkIs_new D flA 46).alloc _).alloc _
  have hB2 : BlkIs W3 b2 #[.bool false, .bool false, .bool false] 136 := by rw [← hW3, ← hb2, ← hb1]; have := blkIs_new (D.alloc (.cells flA 46)) #[.bool false, .bool false, .bool false] 136; rw [World.size_alloc] at this; exact this.alloc _
  have hB3 : BlkIs W3 b3 flA 46 := by rw [← hW3, ← hb3, ← hb2, ← hb1]; have := blkIs_new ((D.alloc (.cells flA 46)).alloc (.cells #[.bool false, .bool false, .bool false] 136)) flA 46; rw [World.size_alloc, World.size_alloc] at this; exact this
  have hBL : Below D.heap.size D W3 := by rw [← hW3]; exact (((Below.refl _ D).alloc (Nat.le_refl _) _).alloc (by simp) _).alloc (by simp; omega) _
  have HW3 := Lib.hid hW3
  have hl2 : D.heap.size ≤ b2 := by omega
  obtain ⟨Wa, hWa⟩ : ∃ W, W3.setCell ⟨b2, 0, none⟩ (.bool false) = W := ⟨_, rfl⟩
  have hA1 : BlkIs Wa b1 flA 46 := by rw [← hWa]; exact hB1.setOther _ _ (by simp; omega)
  have hA2 : BlkIs Wa b2 #[.bool false, .bool false, .bool false] 136 := by rw [← hWa]; exact hB2.set 0 _
  have hA3 : BlkIs Wa b3 flA 46 := by rw [← hWa]; exact hB3.setOther _ _ (by simp; omega)
  have hAL : Below D.heap.size D Wa := by rw [← hWa]; exact hBL.setCell (p := ⟨b2, 0, none⟩) hl2 _
  obtain ⟨Wb, hWb⟩ : ∃ W, Wa.setCell ⟨b2, 1, none⟩ (.bool false) = W := ⟨_, rfl⟩
  have hC1 : BlkIs Wb b1 flA 46 := by rw [← hWb]; exact hA1.setOther _ _ (by simp; omega)
  have hC2 : BlkIs Wb b2 #[.bool false, .bool false, .bool false] 136 := by rw [← hWb]; exact hA2.set 1 _
  have hC3 : BlkIs Wb b3 flA 46 := by rw [← hWb]; exact hA3.setOther _ _ (by simp; omega)
  have hCL : Below D.heap.size D Wb := by rw [← hWb]; exact hAL.setCell (p := ⟨b2, 1, none⟩) hl2 _
  obtain ⟨Wc, hWc⟩ : ∃ W, Wb.setCell ⟨b2, 2, none⟩ (.bool false) = W := ⟨_, rfl⟩
  have hE2 : BlkIs Wc b2 #[.bool false, .bool false, .bool false] 136 := by rw [← hWc]; exact hC2.set 2 _
  have hEL : Below D.heap.size D Wc := by rw [← hWc]; exact hCL.setCell (p := ⟨b2, 2, none⟩) hl2 _
  obtain ⟨W4, hW4⟩ : ∃ W, Wc.alloc (.cells #[.string ⟨#[65, 99, 99, 101, 112, 116]⟩, .string ⟨#[65, 99, 99, 101, 112, 116, 45, 69, 110, 99, 111, 100, 105, 110, 103]⟩, .string ⟨#[65, 99, 99, 101, 112, 116, 45, 76, 97, 110, 103, 117, 97, 103, 101]⟩] 9) = W := ⟨_, rfl⟩
  have hG2 : BlkIs W4 b2 #[.bool false, .bool false, .bool false] 136 := by rw [← hW4]; exact hE2.alloc _
  have hGN : BlkIs W4 Wc.heap.size #[.string ⟨#[65, 99, 99, 101, 112, 116]⟩, .string ⟨#[65, 99, 99, 101, 112, 116, 45, 69, 110, 99, 111, 100, 105, 110, 103]⟩, .string ⟨#[65, 99, 99, 101, 112, 116, 45, 76, 97, 110, 103, 117, 97, 103, 101]⟩] 9 := by rw [← hW4]; exact blkIs_new _ _ _
  have hGL : Below D.heap.size D W4 := by rw [← hW4]; exact hEL.alloc hEL.size _
  obtain ⟨bn, hbn⟩ : ∃ b, Wc.heap.size = b := ⟨_, rfl⟩
  rw [hbn] at hGN
  have HX3 := Lib.hid (And.intro hB1 (And.intro hB2 hB3)); have HXa := Lib.hid (And.intro hA1 (And.intro hA2 hA3)); have HXb := Lib.hid (And.intro hC1 (And.intro hC2 hC3)); have HX4 := Lib.hid (And.intro hG2 hGN)
  have HWa := Lib.hid hWa; have HWb := Lib.hid hWb; have HWc := Lib.hid hWc; have HW4 := Lib.hid hW4
  have HFIN := Lib.hid (show Below w.heap.size w W4 from HBD.out.trans (by rw [HSZ.out]; exact hGL))
  obtain ⟨v0, v1, v2, v3, v4, v5, v6, v7⟩ := HVD.out.later (show Below D.heap.size D ((D.alloc (.cells flA 46)).alloc (.cells #[.bool false, .bool false, .bool false] 136)) from ((Below.refl _ D).alloc (Nat.le_refl _) _).alloc (by simp) _)
  clear hB1 hB2 hB3 hA1 hA2 hA3 hC1 hC2 hC3 hE2 hG2 hGN hW3 hWa hWb hWc hW4 hBL hAL hCL hEL hGL hl2
  go_simp
  go_upto_region 4 with fail
  refine wp_loop_rounds 2 ?_
  rw [rounds_succ]
  go_upto_region 7 with fail
  rw [HW3.out]
  clear v0 v1 v2 v3 v4 v5 v6 v7
  have p1 : W3.cell? ⟨b1, 1, none⟩ = some (.string ⟨#[116, 101, 120, 116, 47, 112, 108, 97, 105, 110]⟩) := HX3.out.1.cell 1 _ rfl
  have p2 : W3.cell? ⟨b3, 1, none⟩ = some (.string ⟨#[116, 101, 120, 116, 47, 112, 108, 97, 105, 110]⟩) := HX3.out.2.2.cell 1 _ rfl
  have p3 : W3.cell? ⟨b2, 0, none⟩ = some (.bool false) := HX3.out.2.1.cell 0 _ rfl
  have p4 := HX3.out.2.1.free 0
  go_upto_region 8 with fail
  rw [HWa.out]
  clear p1 p2 p3 p4
  have p1 : Wa.cell? ⟨b1, 2, none⟩ = some (.string ⟨#[]⟩) := HXa.out.1.cell 2 _ rfl
  have p2 : Wa.cell? ⟨b3, 2, none⟩ = some (.string ⟨#[]⟩) := HXa.out.2.2.cell 2 _ rfl
  have p3 : Wa.cell? ⟨b2, 1, none⟩ = some (.bool false) := HXa.out.2.1.cell 1 _ rfl
  have p4 := HXa.out.2.1.free 1
  go_upto_region 9 with fail
  rw [HWb.out]
  clear p1 p2 p3 p4
  have p1 : Wb.cell? ⟨b1, 3, none⟩ = some (.string ⟨#[]⟩) := HXb.out.1.cell 3 _ rfl
  have p2 : Wb.cell? ⟨b3, 3, none⟩ = some (.string ⟨#[]⟩) := HXb.out.2.2.cell 3 _ rfl
  have p3 : Wb.cell? ⟨b2, 2, none⟩ = some (.bool false) := HXb.out.2.1.cell 2 _ rfl
  have p4 := HXb.out.2.1.free 2
  go_upto_region 10 with fail
  rw [HWc.out]
  clear p1 p2 p3 p4
  go_wp2
  rw [rounds_succ]
  go_upto_region 13 with fail
  rw [HW4.out]
  have p1 : W4.cell? ⟨b2, 0, none⟩ = some (.bool false) := HX4.out.1.cell 0 _ rfl
  have p2 : W4.cell? ⟨b2, 1, none⟩ = some (.bool false) := HX4.out.1.cell 1 _ rfl
  have p3 : W4.cell? ⟨b2, 2, none⟩ = some (.bool false) := HX4.out.1.cell 2 _ rfl
  have n1 := HX4.out.2.cell 0 _ rfl
  have n2 := HX4.out.2.cell 1 _ rfl
  have n3 := HX4.out.2.cell 2 _ rfl
  refine wp_loop_rounds 4 ?_
  rw [rounds_succ]
  go_wp2
  rw [rounds_succ]
  go_wp2
  rw [rounds_succ]
  go_wp2
  rw [rounds_succ]
  go_wp2
  go_ret
  exact ⟨rfl, HFIN.out⟩
end Go.Proofs.YtpdbejeiceodkaaGreatDoor
namespace Go.Proofs.YtpdbejeiceodkaaGreatDoor
open Go.RowKit
set_option linter.unusedSimpArgs false
set_option linter.unusedVariables false
set_option maxRecDepth 1000000
theorem results_fileC {fn : Func} {p : Tmp} (h : fn.results = #[.cell p 46]) (tmps : Array Value) (w : World) (g : Nat) (cs : Array Value) (fr : Nat × Nat)
    (hp : tmps.getD p undef = .pointer (some ⟨g, 0, none⟩)) (hg : w.heap[g]? = some (.cells cs 46 fr)) (hs : cs.size = 6) :
    (results fn tmps).run Tryz.prog w = .ok (.agg cs) w :=
  results_cell_row h tmps w g 46 cs fr _ hp hg Tryz.underlying46 rfl (by rw [hs]; kernel_rfl)
theorem sixOther {w : World} {b g : Nat} {c : Array Value} {T : TypeId} (h : BlkIs w g c T) (hne : g ≠ b) (u0 u1 u2 u3 u4 u5 : Value) :
    BlkIs ((((((w.setCell ⟨b, 0, none⟩ u0).setCell ⟨b, 1, none⟩ u1).setCell ⟨b, 2, none⟩ u2).setCell ⟨b, 3, none⟩ u3).setCell ⟨b, 4, none⟩ u4).setCell ⟨b, 5, none⟩ u5) g c T :=
  (((((h.setOther _ _ hne).setOther _ _ hne).setOther _ _ hne).setOther _ _ hne).setOther _ _ hne).setOther _ _ hne
set_option maxHeartbeats 8000000 in
theorem oplain_any (p m c l b : List UInt8) (t : Int) (w : World) (hs : m.length ≤ 1099511627776 ∧ c.length ≤ 1099511627776 ∧ l.length ≤ 1099511627776) :
    Calls Tryz.prog 65 #[.agg (fC p m c l b t)] w fun e w' => e = .returned (.agg (fC p (lowL m) (lowL c) (lowL l) [] 0)) ∧ Below w.heap.size w w' := by
  have HLW := Lib.hid (show ∀ (x : List UInt8) W, x.length ≤ 1099511627776 → Calls Tryz.prog 37 #[.string ⟨x.toArray⟩] W fun e w' => e = .returned (.string ⟨(lowL x).toArray⟩) ∧ Below W.heap.size W w' by
    intro x W hx
    have := olower_any ⟨x.toArray⟩ W (by rw [← size_list]; simpa using hx)
    rwa [show (⟨x.toArray⟩ : ByteArray).data.toList = x from by simp] at this)
  obtain ⟨W2, hW2⟩ : ∃ W2, (w.alloc (.cells (fC p m c l b t) 46)).alloc (.cells zFlA 46) = W2 := ⟨_, rfl⟩
  obtain ⟨g, hg⟩ : ∃ g, w.heap.size = g := ⟨_, rfl⟩
  obtain ⟨r, hr⟩ : ∃ r, g + 1 = r := ⟨_, rfl⟩
  have hb2 : Below w.heap.size w W2 := by rw [← hW2]; exact ((Below.refl _ w).alloc (Nat.le_refl _) _).alloc (by simp) _
  have hB2 : BlkIs W2 g (fC p m c l b t) 46 := by rw [← hW2, ← hg]; exact (blkIs_new _ _ _).alloc _
  have hR2 : BlkIs W2 r zFlA 46 := by rw [← hW2, ← hr, ← hg]; have := blkIs_new (w.alloc (.cells (fC p m c l b t) 46)) zFlA 46; rwa [World.size_alloc] at this
  obtain ⟨S, hS⟩ : ∃ S : World → Prop, (fun W => Below w.heap.size w W ∧ BlkIs W g (fC p m c l b t) 46) = S := ⟨_, rfl⟩
  have hSi : ∀ W, S W ↔ (Below w.heap.size w W ∧ BlkIs W g (fC p m c l b t) 46) := fun W => by rw [← hS]
  have hst : ∀ W W', S W → Below W.heap.size W W' → S W' := fun W W' h hb => by
    rw [hSi] at h ⊢
    exact ⟨h.1.trans (hb.mono h.1.size), h.2.later hb⟩
  have HS2 := Lib.hid (show S W2.drew by rw [hSi]; exact ⟨hb2.drew, hB2⟩)
  have HST := Lib.hid hst; have HSI := Lib.hid hSi; have HW2 := Lib.hid hW2; have HL := Lib.hid hs
  have HGR := Lib.hid (show w.heap.size ≤ r by omega)
  have hR : BlkIs W2.drew r zFlA 46 := hR2
  clear hS hSi hst hW2 hb2 hB2 hR2 hs
  go_enter Tryz.func65, Tryz.ntmps65
  go_upto_region 1 with fail
  rw [HW2.out]
  refine wp_region_eachH S 13 (by kernel_rfl) (by kernel_rfl) ?_
  have hS := HS2.out
  refine eachH_take (i := 0) rfl (by kernel_rfl) (by kernel_rfl) (by kernel_rfl) hS (v := ?_) ?_ ?_; rotate_left; · (intro W hS; obtain ⟨_, s1⟩ := (HSI.out W).1 hS; have t0 : W.cell? ⟨g, 0, none⟩ = some (.string ⟨p.toArray⟩) := s1.cell 0 _ rfl; have t1 : W.cell? ⟨g, 1, none⟩ = some (.string ⟨m.toArray⟩) := s1.cell 1 _ rfl; have t2 : W.cell? ⟨g, 2, none⟩ = some (.string ⟨c.toArray⟩) := s1.cell 2 _ rfl; have t3 : W.cell? ⟨g, 3, none⟩ = some (.string ⟨l.toArray⟩) := s1.cell 3 _ rfl; clear s1 hS; go_simp; with_reducible rfl)
  refine eachH_take (i := 1) rfl (by kernel_rfl) (by kernel_rfl) (by kernel_rfl) hS (v := ?_) ?_ ?_; rotate_left; · (intro W hS; obtain ⟨_, s1⟩ := (HSI.out W).1 hS; have t0 : W.cell? ⟨g, 0, none⟩ = some (.string ⟨p.toArray⟩) := s1.cell 0 _ rfl; have t1 : W.cell? ⟨g, 1, none⟩ = some (.string ⟨m.toArray⟩) := s1.cell 1 _ rfl; have t2 : W.cell? ⟨g, 2, none⟩ = some (.string ⟨c.toArray⟩) := s1.cell 2 _ rfl; have t3 : W.cell? ⟨g, 3, none⟩ = some (.string ⟨l.toArray⟩) := s1.cell 3 _ rfl; clear s1 hS; go_simp; with_reducible rfl)
  refine eachH_take (i := 2) rfl (by kernel_rfl) (by kernel_rfl) (by kernel_rfl) hS (v := ?_) ?_ ?_; rotate_left; · (intro W hS; obtain ⟨_, s1⟩ := (HSI.out W).1 hS; have t0 : W.cell? ⟨g, 0, none⟩ = some (.string ⟨p.toArray⟩) := s1.cell 0 _ rfl; have t1 : W.cell? ⟨g, 1, none⟩ = some (.string ⟨m.toArray⟩) := s1.cell 1 _ rfl; have t2 : W.cell? ⟨g, 2, none⟩ = some (.string ⟨c.toArray⟩) := s1.cell 2 _ rfl; have t3 : W.cell? ⟨g, 3, none⟩ = some (.string ⟨l.toArray⟩) := s1.cell 3 _ rfl; clear s1 hS; go_simp; with_reducible rfl)
  refine eachH_take (i := 3) rfl (by kernel_rfl) (by kernel_rfl) (by kernel_rfl) hS (v := ?_) ?_ ?_; rotate_left; · (intro W hS; obtain ⟨_, s1⟩ := (HSI.out W).1 hS; have t0 : W.cell? ⟨g, 0, none⟩ = some (.string ⟨p.toArray⟩) := s1.cell 0 _ rfl; have t1 : W.cell? ⟨g, 1, none⟩ = some (.string ⟨m.toArray⟩) := s1.cell 1 _ rfl; have t2 : W.cell? ⟨g, 2, none⟩ = some (.string ⟨c.toArray⟩) := s1.cell 2 _ rfl; have t3 : W.cell? ⟨g, 3, none⟩ = some (.string ⟨l.toArray⟩) := s1.cell 3 _ rfl; clear s1 hS; go_simp; with_reducible rfl)
  refine eachH_take (i := 5) rfl (by kernel_rfl) (by kernel_rfl) (by kernel_rfl) hS (v := ?_) ?_ ?_; rotate_left; · (intro W hS; obtain ⟨_, s1⟩ := (HSI.out W).1 hS; have t0 : W.cell? ⟨g, 0, none⟩ = some (.string ⟨p.toArray⟩) := s1.cell 0 _ rfl; have t1 : W.cell? ⟨g, 1, none⟩ = some (.string ⟨m.toArray⟩) := s1.cell 1 _ rfl; have t2 : W.cell? ⟨g, 2, none⟩ = some (.string ⟨c.toArray⟩) := s1.cell 2 _ rfl; have t3 : W.cell? ⟨g, 3, none⟩ = some (.string ⟨l.toArray⟩) := s1.cell 3 _ rfl; clear s1 hS; go_simp; with_reducible rfl)
  refine eachH_take (i := 6) rfl (by kernel_rfl) (by kernel_rfl) (by kernel_rfl) hS (v := ?_) ?_ ?_; rotate_left; · (intro W hS; obtain ⟨_, s1⟩ := (HSI.out W).1 hS; have t0 : W.cell? ⟨g, 0, none⟩ = some (.string ⟨p.toArray⟩) := s1.cell 0 _ rfl; have t1 : W.cell? ⟨g, 1, none⟩ = some (.string ⟨m.toArray⟩) := s1.cell 1 _ rfl; have t2 : W.cell? ⟨g, 2, none⟩ = some (.string ⟨c.toArray⟩) := s1.cell 2 _ rfl; have t3 : W.cell? ⟨g, 3, none⟩ = some (.string ⟨l.toArray⟩) := s1.cell 3 _ rfl; clear s1 hS; go_simp; with_reducible rfl)
  refine eachH_take (i := 8) rfl (by kernel_rfl) (by kernel_rfl) (by kernel_rfl) hS (v := ?_) ?_ ?_; rotate_left; · (intro W hS; obtain ⟨_, s1⟩ := (HSI.out W).1 hS; have t0 : W.cell? ⟨g, 0, none⟩ = some (.string ⟨p.toArray⟩) := s1.cell 0 _ rfl; have t1 : W.cell? ⟨g, 1, none⟩ = some (.string ⟨m.toArray⟩) := s1.cell 1 _ rfl; have t2 : W.cell? ⟨g, 2, none⟩ = some (.string ⟨c.toArray⟩) := s1.cell 2 _ rfl; have t3 : W.cell? ⟨g, 3, none⟩ = some (.string ⟨l.toArray⟩) := s1.cell 3 _ rfl; clear s1 hS; go_simp; with_reducible rfl)
  refine eachH_take (i := 9) rfl (by kernel_rfl) (by kernel_rfl) (by kernel_rfl) hS (v := ?_) ?_ ?_; rotate_left; · (intro W hS; obtain ⟨_, s1⟩ := (HSI.out W).1 hS; have t0 : W.cell? ⟨g, 0, none⟩ = some (.string ⟨p.toArray⟩) := s1.cell 0 _ rfl; have t1 : W.cell? ⟨g, 1, none⟩ = some (.string ⟨m.toArray⟩) := s1.cell 1 _ rfl; have t2 : W.cell? ⟨g, 2, none⟩ = some (.string ⟨c.toArray⟩) := s1.cell 2 _ rfl; have t3 : W.cell? ⟨g, 3, none⟩ = some (.string ⟨l.toArray⟩) := s1.cell 3 _ rfl; clear s1 hS; go_simp; with_reducible rfl)
  refine eachH1 (i := 4) (by kernel_rfl) rfl ?_
  intro K hK
  go_simp
  refine (HLW.out m _ HL.out.1).mono ?_
  rintro e w1 ⟨rfl, hb1⟩
  have hS := HST.out _ _ hS hb1
  have hR := hR.later hb1
  refine hK _ _ hS ?_
  clear hK K hb1
  refine eachH1 (i := 7) (by kernel_rfl) rfl ?_
  intro K hK
  go_simp
  refine (HLW.out c _ HL.out.2.1).mono ?_
  rintro e w1 ⟨rfl, hb1⟩
  have hS := HST.out _ _ hS hb1
  have hR := hR.later hb1
  refine hK _ _ hS ?_
  clear hK K hb1
  refine eachH1 (i := 10) (by kernel_rfl) rfl ?_
  intro K hK
  go_simp
  refine (HLW.out l _ HL.out.2.2).mono ?_
  rintro e w1 ⟨rfl, hb1⟩
  have hS := HST.out _ _ hS hb1
  have hR := hR.later hb1
  refine hK _ _ hS ?_
  clear hK K hb1
  refine eachH_take (i := 11) rfl (by kernel_rfl) (by kernel_rfl) (by kernel_rfl) hS (v := ?_) ?_ ?_; rotate_left; · (intro W hS; obtain ⟨_, s1⟩ := (HSI.out W).1 hS; have t0 : W.cell? ⟨g, 0, none⟩ = some (.string ⟨p.toArray⟩) := s1.cell 0 _ rfl; have t1 : W.cell? ⟨g, 1, none⟩ = some (.string ⟨m.toArray⟩) := s1.cell 1 _ rfl; have t2 : W.cell? ⟨g, 2, none⟩ = some (.string ⟨c.toArray⟩) := s1.cell 2 _ rfl; have t3 : W.cell? ⟨g, 3, none⟩ = some (.string ⟨l.toArray⟩) := s1.cell 3 _ rfl; clear s1 hS; go_simp; with_reducible rfl)
  refine eachH1 (i := 12) (by kernel_rfl) rfl ?_
  intro K hK
  obtain ⟨hb3, hB3⟩ := (HSI.out _).1 hS
  have hR3 := hR
  have hne : g ≠ r := by omega
  have y0 := hR3.free 0
  have y1 := hR3.free 1
  have y2 := hR3.free 2
  have y3 := hR3.free 3
  have y4 := hR3.free 4
  have y5 := hR3.free 5
  have z0 := hR3.cell 0 _ rfl
  have z1 := hR3.cell 1 _ rfl
  have z2 := hR3.cell 2 _ rfl
  have z3 := hR3.cell 3 _ rfl
  have z4 := hR3.cell 4 _ rfl
  have z5 := hR3.cell 5 _ rfl
  have HF := Lib.hid (And.intro ((((((hR3.set 0 (.string ⟨p.toArray⟩)).set 1 (.string ⟨(lowL m).toArray⟩)).set 2 (.string ⟨(lowL c).toArray⟩)).set 3 (.string ⟨(lowL l).toArray⟩)).set 4 (.string ⟨#[]⟩)).set 5 (.int .i64 0)) (And.intro (sixBelow hb3 HGR.out (.string ⟨p.toArray⟩) (.string ⟨(lowL m).toArray⟩) (.string ⟨(lowL c).toArray⟩) (.string ⟨(lowL l).toArray⟩) (.string ⟨#[]⟩) (.int .i64 0)) (sixOther hB3 hne (.string ⟨p.toArray⟩) (.string ⟨(lowL m).toArray⟩) (.string ⟨(lowL c).toArray⟩) (.string ⟨(lowL l).toArray⟩) (.string ⟨#[]⟩) (.int .i64 0))))
  clear hb3 hB3 hR3 hR
  go_simp
  refine hK _ _ ((HSI.out _).2 HF.out.2) ?_
  clear hK K y0 y1 y2 y3 y4 y5 z0 z1 z2 z3 z4 z5
  refine eachH_done (by kernel_rfl) ?_
  go_simp
  go_wp2
  refine bodyPost_ret (v := .agg (fC p (lowL m) (lowL c) (lowL l) [] 0)) ?r rfl ⟨rfl, HF.out.2.1⟩
  case r => exact results_fileC rfl _ _ r _ (0, 0) rfl HF.out.1 rfl
end Go.Proofs.YtpdbejeiceodkaaGreatDoor
namespace Go.Proofs.YtpdbejeiceodkaaGreatDoor
open Go.RowKit Go.Shelf
attribute [local go_sem] Oper.semAt_some
set_option linter.unusedSimpArgs false
set_option linter.unusedVariables false
set_option maxRecDepth 1000000
theorem cutG (R : List UInt8) (m : Int) (w : World) (hs : R.length < 4294967281) (hm : w.cell? ⟨0, 0, none⟩ = some (.int .i64 m)) : Calls Tryz.prog 46 #[.string ⟨R.toArray⟩, .string ⟨#[47]⟩] w fun e w' => e = .returned (.tuple #[.string ⟨(Lib.cut R [47]).1.toArray⟩, .string ⟨(Lib.cut R [47]).2.1.toArray⟩, .bool (Lib.cut R [47]).2.2]) ∧ ∃ n, w' = w.drewN n :=
  Tryz.strings_Cut ⟨R.toArray⟩ ⟨#[47]⟩ m w (by rw [← size_list]; simpa using hs) hm
theorem cutPreG (T : List UInt8) (w : World) : Calls Tryz.prog 45 #[.string ⟨(47 :: T).toArray⟩, .string ⟨#[47]⟩] w fun e w' => e = .returned (.tuple #[.string ⟨T.toArray⟩, .bool true]) ∧ w' = w := by
  have h := Tryz.strings_CutPrefix ⟨(47 :: T).toArray⟩ ⟨#[47]⟩ w
  have h1 : Lib.hasPrefix (47 :: T) [47] = true := by simp [Lib.hasPrefix]
  have h2 : Lib.trimPrefix (47 :: T) [47] = T := by simp [Lib.trimPrefix, Lib.hasPrefix]
  simpa [h1, h2] using h
/-- What is left of the segments. -/
def EcLeft (SG : List (List UInt8)) (k : Nat) (rv mv : Value) : Prop := (k < SG.length ∧ mv = .bool true ∧ ∃ R : List UInt8, rv = .string ⟨R.toArray⟩ ∧ R.length < 4294967281 ∧ Lib.split R [47] = SG.drop k) ∨ (k = SG.length ∧ mv = .bool false)
def ecLen : Value → Value → Nat
  | .string s, .bool true => s.size + 1
  | _, _ => 0
theorem ec_step (SG : List (List UInt8)) (k : Nat) (R : List UInt8) (hk : k < SG.length) (hR : R.length < 4294967281) (h : Lib.split R [47] = SG.drop k) :
    SG[k]? = some (Lib.cut R [47]).1 ∧ EcLeft SG (k + 1) (.string ⟨(Lib.cut R [47]).2.1.toArray⟩) (.bool (Lib.cut R [47]).2.2) ∧ ecLen (.string ⟨(Lib.cut R [47]).2.1.toArray⟩) (.bool (Lib.cut R [47]).2.2) < ecLen (.string ⟨R.toArray⟩) (.bool true) := by
  have hst := split_step 47 R
  have hr := cut_rest 47 R
  have hd : SG.drop k = SG[k] :: SG.drop (k + 1) := List.drop_eq_getElem_cons hk
  have hsz : ∀ l : List UInt8, (⟨l.toArray⟩ : ByteArray).size = l.length := fun l => by rw [← size_list]
  cases hc : (Lib.cut R [47]).2.2 with
  | true =>
    rw [hc, if_pos rfl] at hst
    have hr := hr hc
    rw [h, hd] at hst
    injection hst with h1 h2
    refine ⟨by rw [List.getElem?_eq_getElem hk, h1], .inl ⟨?_, rfl, _, rfl, by omega, h2.symm⟩, ?_⟩
    · have hne : Lib.split (Lib.cut R [47]).2.1 [47] ≠ [] := by rw [split_step]; split <;> simp
      rw [← h2] at hne
      have := List.length_pos_iff.2 hne
      rw [List.length_drop] at this
      omega
    · show (⟨_⟩ : ByteArray).size + 1 < (⟨_⟩ : ByteArray).size + 1
      rw [hsz, hsz]
      omega
  | false =>
    rw [hc, if_neg (by decide)] at hst
    rw [h, hd] at hst
    injection hst with h1 h2
    have hlen : SG.length = k + 1 := by
      have := congrArg List.length h2
      rw [List.length_drop] at this
      simp at this
      omega
    have hcut : (Lib.cut R [47]).1 = R := by
      revert hc
      unfold Lib.cut
      split <;> simp
    refine ⟨by rw [List.getElem?_eq_getElem hk, h1, hcut], .inr ⟨hlen.symm, rfl⟩, ?_⟩
    show 0 < _
    exact Nat.succ_pos _
set_option maxHeartbeats 4000000 in
theorem eachG_in (n l Bx n₀ : Nat) (hn : 1 ≤ n) (m : Int) (T : List UInt8) (SG : List (List UInt8)) (hSG : Lib.split T [47] = SG) (hT : T.length < 4294967281) (hgn : 0 < n₀) (J Jx : List (List UInt8) → World → Prop)
    (hY : ∀ pre x W, J pre W → pre.length < SG.length → YieldAt Fence.wide (n - 1) Tryz.prog l #[.string ⟨x.toArray⟩] W fun e W' =>
      (e = .returned (.bool true) ∧ J (pre ++ [x]) W' ∧ Below n₀ W W') ∨ (e = .returned (.bool false) ∧ Jx (pre ++ [x]) W'))
    (W : World) (hJ : AbidesFrom W.heap.size J) (hBx : W.cell? ⟨Bx, 0, none⟩ = some (.string ⟨(47 :: T).toArray⟩)) (hm : W.cell? ⟨0, 0, none⟩ = some (.int .i64 m)) (h0 : J [] W) :
    CallsIn Fence.wide n Tryz.prog 179 #[.func (.yield l) #[] #[], .pointer (some ⟨Bx, 0, none⟩)] W fun e W' => (∃ v, e = .returned v) ∧
      ((∃ ys, ys = SG ∧ J ys W') ∨ (∃ pre, pre <+: SG ∧ Jx pre W')) := by
  have hne : 0 < SG.length := by rw [← hSG, split_step]; split <;> simp
  have hstart : EcLeft SG 0 (.string ⟨T.toArray⟩) (.bool true) := .inl ⟨hne, rfl, T, rfl, hT, hSG⟩
  have HST := Lib.hid hstart; have HSTEP := Lib.hid (ec_step SG)
  clear hstart hSG
  refine callsIn_of_wp Tryz.func179 rfl trivial ?_ rfl
  simp only [Tryz.ntmps179, List.size_toArray, List.length_cons, List.length_nil, Nat.reduceAdd, Nat.reduceSub, Array.replicate_succ, Array.replicate_zero, List.push_toArray, List.append_toArray, List.nil_append, List.cons_append]
  gi_wp2_with (refine ⟨trivial, ?_⟩; gi_at_call 45; refine (callsIn_wide.2 (cutPreG T _)).mono ?_; rintro e W ⟨rfl, rfl⟩)
  gi_loopw [3, 4] (fun rv mv wr => ∃ k : Nat, EcLeft SG k rv mv ∧ J (SG.take k) wr ∧ wr.cell? ⟨0, 0, none⟩ = some (.int .i64 m)) (fun rv mv _ => ecLen rv mv)
  case atStart => exact ⟨0, HST.out, h0, hm⟩
  case round =>
    obtain ⟨k, hleft, hjk, hmk⟩ := hrel
    rcases hleft with ⟨hk, rfl, R, rfl, hRl, hsp⟩ | ⟨hk, rfl⟩
    · obtain ⟨s1, s2, s3⟩ := HSTEP.out k R hk hRl hsp
      have htk : SG.take (k + 1) = SG.take k ++ [(Lib.cut R [47]).1] := by rw [List.take_add_one, s1]; rfl
      have hct := cutG R m wr hRl hmk
      obtain ⟨⟨x, R2, more⟩, hcx⟩ : ∃ c, Lib.cut R [47] = c := ⟨_, rfl⟩
      rw [hcx] at s2 s3 htk hct
      have hlt : (SG.take k).length < SG.length := by rw [List.length_take]; omega
      have HC := Lib.hid hct; have HS := Lib.hid (And.intro s2 (And.intro s3 htk))
      clear s1 s2 s3 htk hct hcx hsp
      gi_wp2_with (refine ⟨trivial, ?_⟩; gi_at_call 46; refine (callsIn_wide.2 HC.out).mono ?_; rintro e w' ⟨rfl, kk, rfl⟩; obtain ⟨fn, tmps, assign, body, hy, hR⟩ := hY (SG.take k) x (wr.drewN kk) (hJ _ wr (wr.drewN kk) none hjk (grown_drewN wr kk) (fun r e => by cases e)) hlt)
      refine hR.mono ?_
      rintro e W3 (⟨rfl, hJ3, hk3⟩ | ⟨rfl, hJx3⟩)
      · have hm3 : W3.cell? ⟨0, 0, none⟩ = some (.int .i64 m) := by rw [hk3.cell (p := ⟨0, 0, none⟩) hgn]; exact hmk
        have HM3 := Lib.hid (And.intro hJ3 hm3)
        clear hJ3 hm3 hk3
        gi_wp2
        go_roundw
        case rel => exact ⟨k + 1, HS.out.1, by rw [HS.out.2.2]; exact HM3.out.1, HM3.out.2⟩
        case measure => exact HS.out.2.1
      · have hfin : SG.take k ++ [x] <+: SG := by rw [← HS.out.2.2]; exact List.take_prefix _ _
        have HF := Lib.hid hfin
        clear hfin
        gi_wp2
        refine bodyPost_ret (results_none rfl _ _ _) rfl ?_
        exact ⟨⟨_, rfl⟩, .inr ⟨_, HF.out, hJx3⟩⟩
    · subst hk
      rw [List.take_length] at hjk
      gi_wp2
      go_end0
      exact ⟨⟨_, rfl⟩, .inl ⟨SG, rfl, hjk⟩⟩
theorem eachG_stops (n Bx n₀ : Nat) (hn : 1 ≤ n) (m : Int) (T : List UInt8) (SG : List (List UInt8)) (hSG : Lib.split T [47] = SG) (hT : T.length < 4294967281) (hgn : 0 < n₀) (w : World) (hBx : Bx < w.heap.size) (hc : w.cell? ⟨Bx, 0, none⟩ = some (.string ⟨(47 :: T).toArray⟩)) (hm : w.cell? ⟨0, 0, none⟩ = some (.int .i64 m)) :
    SeqStopsK Fence.wide n Tryz.prog 179 #[.pointer (some ⟨Bx, 0, none⟩)] (fun x : List UInt8 => #[Value.string ⟨x.toArray⟩]) (Below n₀) (fun ys => ys = SG) (fun pre => pre <+: SG) SG.length w := fun l J Jx W hW hJ _ hY h0 =>
  eachG_in n l Bx n₀ hn m T SG hSG hT hgn J Jx hY W hJ ((hW.cell (p := ⟨Bx, 0, none⟩) hBx).trans hc) (mx_later (B := 0) hm hW) h0
theorem eachG_call (T : List UInt8) (w : World) : Calls Tryz.prog 144 #[.string ⟨(47 :: T).toArray⟩] w fun e w' => e = .returned (.func (.func 179) #[] #[.pointer (some ⟨w.heap.size, 0, none⟩)]) ∧ w' = w.alloc (.cells #[.string ⟨(47 :: T).toArray⟩] 9) := by
  go_enter Tryz.func144, Tryz.ntmps144
  go_wp2
  go_ret
  exact ⟨rfl, rfl⟩
end Go.Proofs.YtpdbejeiceodkaaGreatDoor
namespace Go.Proofs.YtpdbejeiceodkaaGreatDoor
open Go.RowKit
set_option linter.unusedSimpArgs false
set_option linter.unusedVariables false
set_option maxRecDepth 1000000
theorem ext_hx (p : Nat) (h : p < 16) : (⟨#[48, 49, 50, 51, 52, 53, 54, 55, 56, 57, 65, 66, 67, 68, 69, 70]⟩ : ByteArray).extract p (p + 1) = ⟨#[hxU p]⟩ := by
  have h2 : ∀ q : Fin 16, (⟨#[48, 49, 50, 51, 52, 53, 54, 55, 56, 57, 65, 66, 67, 68, 69, 70]⟩ : ByteArray).extract q.val (q.val + 1) = ⟨#[hxU q.val]⟩ := by decide +kernel
  exact h2 ⟨p, h⟩
set_option maxHeartbeats 1000000 in
theorem percent_any (n : Nat) (hn : n < 256) (w : World) : Calls Tryz.prog 143 #[.int .u8 (n : Int)] w fun e w' => e = .returned (.string ⟨([37, hxU (n / 16), hxU (n % 16)] : List UInt8).toArray⟩) ∧ ∃ k, w' = w.drewN k := by
  go_enter Tryz.func143, Tryz.ntmps143
  go_upto_region 1 with fail
  go_quiet (fail)
  have h1 := ext_hx (n / 16) (by omega)
  have h2 := ext_hx (n % 16) (by omega)
  rw [h1, h2]
  go_wp2
  go_ret
  exact ⟨rfl, nq, rfl⟩
end Go.Proofs.YtpdbejeiceodkaaGreatDoor
