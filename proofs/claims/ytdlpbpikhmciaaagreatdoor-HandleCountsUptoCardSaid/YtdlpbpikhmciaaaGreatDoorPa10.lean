/- The walk of stamp.Print at the moment 0. Conditions: the tables hold what their texts lay. -/
import Derived.Test.YtdlpbpikhmciaaaGreatDoorPk05
import Derived.Test.YtdlpbpikhmciaaaGreatDoorPk09
import Derived.StillTailTactics
namespace Go.Proofs.YtdlpbpikhmciaaaGreatDoor
open Go.RowKit
set_option linter.unusedSimpArgs false
set_option linter.unusedVariables false
set_option maxRecDepth 1000000
/-- The tables of the days and the months, where 0 looks. -/
def DaysAt (w : World) : Prop := w.cell? ⟨2, 3, none⟩ = some (.string ⟨#[84, 104, 117, 114, 115, 100, 97, 121]⟩) ∧ w.cell? ⟨3, 0, none⟩ = some (.string ⟨#[74, 97, 110]⟩)
theorem DaysAt.below {w w' : World} (h : DaysAt w) (hb : Below w.heap.size w w') : DaysAt w' := ⟨ck_cell h.1 hb, ck_cell h.2 hb⟩
theorem itoa_0 : Lib.itoa 0 = [48] := by simp [Lib.itoa, Lib.decDigits]
theorem itoa_1 : Lib.itoa 1 = [49] := by simp [Lib.itoa, Lib.decDigits]
theorem itoa_1970 : Lib.itoa 1970 = [49, 57, 55, 48] := by simp [Lib.itoa, Lib.decDigits]
theorem ckrepeat0 (w : World) : Calls Tryz.prog 218 #[.string ⟨#[48]⟩, .int .i64 0] w fun e w' => e = .returned (.string ⟨#[]⟩) ∧ Below w.heap.size w w' :=
  Tryz.strings_Repeat ⟨#[48]⟩ 0 w (by omega) (by decide)
abbrev dtZ : Array Value := #[.int .i64 0, .int .i64 0, .int .i64 0, .int .i64 0, .int .i64 0, .int .i64 0, .int .i64 0]
abbrev dtC : Array Value := #[.int .i64 1970, .int .i64 1, .int .i64 1, .int .i64 0, .int .i64 0, .int .i64 0, .int .i64 3]
set_option maxHeartbeats 8000000 in
theorem cksplit0 (w : World) : Calls Tryz.prog 216 #[.int .i64 0] w fun e w' => e = .returned (.tuple #[.agg dtC, .int .i64 0]) ∧ Below w.heap.size w w' := by
  obtain ⟨B, hB⟩ : ∃ B, w.heap.size = B := ⟨_, rfl⟩
  obtain ⟨W0, hW0⟩ : ∃ W, w.alloc (.cells dtZ 257) = W := ⟨_, rfl⟩
  have hb0 : Below w.heap.size w W0 := by rw [← hW0]; exact ck_below _ _
  have hk0 : BlkIs W0 B dtZ 257 := by rw [← hW0, ← hB]; exact blkIs_new _ _ _
  have HW0 := Lib.hid hW0; have HI := Lib.hid (And.intro hb0 hk0); have HSB := Lib.hid hB
  clear hW0 hb0 hk0
  go_enter Tryz.func216, Tryz.ntmps216
  go_upto_region 1 with fail
  rw [HW0.out]
  go_wp2
  go_loopw [6] (fun yv wr => ∃ y : Nat, yv = .int .i64 (y : Int) ∧ 1965 ≤ y ∧ y ≤ 1970 ∧ wr = W0) (fun yv _ => 1971 - (intOf yv).toNat)
  case atStart => exact ⟨1965, rfl, by decide, by decide, rfl⟩
  case round =>
    obtain ⟨y, rfl, hy0, hy1, rfl⟩ := hrel
    rcases (show y = 1965 ∨ y = 1966 ∨ y = 1967 ∨ y = 1968 ∨ y = 1969 ∨ y = 1970 by omega) with rfl | rfl | rfl | rfl | rfl | rfl
    · go_wp2
      go_roundw
      case rel => exact ⟨1966, rfl, by decide, by decide, by first | rfl | trivial⟩
      case measure => simp [intOf]
    · go_wp2
      go_roundw
      case rel => exact ⟨1967, rfl, by decide, by decide, by first | rfl | trivial⟩
      case measure => simp [intOf]
    · go_wp2
      go_roundw
      case rel => exact ⟨1968, rfl, by decide, by decide, by first | rfl | trivial⟩
      case measure => simp [intOf]
    · go_wp2
      go_roundw
      case rel => exact ⟨1969, rfl, by decide, by decide, by first | rfl | trivial⟩
      case measure => simp [intOf]
    · go_wp2
      go_roundw
      case rel => exact ⟨1970, rfl, by decide, by decide, by first | rfl | trivial⟩
      case measure => simp [intOf]
    · have hD : wr.heap.size = B + 1 := by rw [← HW0.out, World.size_alloc, HSB.out]
      obtain ⟨W1, hW1⟩ : ∃ W, wr.alloc (.cells #[.int .i64 1970, .int .i64 1, .int .i64 0, .int .i64 0, .int .i64 0, .int .i64 0, .int .i64 3] 257) = W := ⟨_, rfl⟩
      have hb1 : Below w.heap.size w W1 := by rw [← hW1]; exact HI.out.1.alloc HI.out.1.size _
      have hk1 : BlkIs W1 B dtZ 257 := by rw [← hW1]; exact HI.out.2.alloc _
      have hk2 : BlkIs W1 (B + 1) #[.int .i64 1970, .int .i64 1, .int .i64 0, .int .i64 0, .int .i64 0, .int .i64 0, .int .i64 3] 257 := by rw [← hW1, ← hD]; exact blkIs_new _ _ _
      have HW1 := Lib.hid hW1; have HI1 := Lib.hid (And.intro hb1 (And.intro hk1 hk2))
      clear hW1 hb1 hk1 hk2
      go_wp2
      rw [HW1.out]
      go_loopw [8] (fun dv wx => dv = .int .i64 0 ∧ wx = W1) (fun _ _ => 0)
      case atStart => exact ⟨rfl, rfl⟩
      case round =>
        obtain ⟨rfl, rfl⟩ := hrel
        have hk := HI1.out.2.1
        have hk2 := HI1.out.2.2
        have d0 := hk2.cell 0 _ rfl
        have d1 := hk2.cell 1 _ rfl
        have d2 := hk2.cell 2 _ rfl
        have d3 := hk2.cell 3 _ rfl
        have d4 := hk2.cell 4 _ rfl
        have d5 := hk2.cell 5 _ rfl
        have d6 := hk2.cell 6 _ rfl
        have f2 := hk2.free 2
        have g0 := hk.free 0
        have g1 := hk.free 1
        have g2 := hk.free 2
        have g3 := hk.free 3
        have g4 := hk.free 4
        have g5 := hk.free 5
        have g6 := hk.free 6
        have c0 := hk.cell 0 _ rfl
        have c1 := hk.cell 1 _ rfl
        have c2 := hk.cell 2 _ rfl
        have c3 := hk.cell 3 _ rfl
        have c4 := hk.cell 4 _ rfl
        have c5 := hk.cell 5 _ rfl
        have c6 := hk.cell 6 _ rfl
        have lt5 := hk.lt
        clear hk hk2
        go_wp2
        (try simp only [Exit.inBlock, Exit.then])
        have HBS := Lib.hid (show w.heap.size ≤ B from Nat.le_of_eq HSB.out)
        have HBT := Lib.hid (show w.heap.size ≤ B + 1 by rw [HSB.out]; omega)
        refine bodyPost_ret (v := .tuple #[.agg dtC, .int .i64 0]) ?plr rfl ⟨rfl, ?plb⟩
        case plr => rw [results_cell_tmp1 rfl]; simp [go_sem, c0, c1, c2, c3, c4, c5, c6, g0, g1, g2, g3, g4, g5, g6, lt5]
        case plb => exact (((((((HI1.out.1.setCell (p := ⟨B + 1, 2, none⟩) HBT.out _).setCell (p := ⟨B, 0, none⟩) HBS.out _).setCell (p := ⟨B, 1, none⟩) HBS.out _).setCell (p := ⟨B, 2, none⟩) HBS.out _).setCell (p := ⟨B, 3, none⟩) HBS.out _).setCell (p := ⟨B, 4, none⟩) HBS.out _).setCell (p := ⟨B, 5, none⟩) HBS.out _).setCell (p := ⟨B, 6, none⟩) HBS.out _
set_option maxHeartbeats 1000000 in
theorem cktwo (z : Int) (c : UInt8) (hz : (⟨(Lib.itoa z).toArray⟩ : ByteArray) = ⟨#[c]⟩) (h0 : 0 ≤ z) (h9 : z < 10) (w : World) (hP : PowAt w) :
    Calls Tryz.prog 217 #[.int .i64 z, .string ⟨#[48]⟩] w fun e w' => e = .returned (.string ⟨#[48, c]⟩) ∧ Below w.heap.size w w' := by
  have hi := oitoa_any z w (by omega) (by omega) hP
  rw [hz] at hi
  have HI := Lib.hid hi
  have d9 : decide (z < 10) = true := decide_eq_true h9
  have e1 : (⟨#[48]⟩ : ByteArray) ++ ⟨#[c]⟩ = ⟨#[48, c]⟩ := rfl
  clear hi hP hz
  go_enter Tryz.func217, Tryz.ntmps217
  go_wp2_with fail
  refine (HI.out).mono ?_
  rintro e w1 ⟨rfl, hb⟩
  go_wp2
  go_ret
  exact ⟨rfl, hb⟩
set_option maxHeartbeats 16000000 in
theorem ckwrite0 (w : World) (hP : PowAt w) (hD : DaysAt w) : Calls Tryz.prog 178 #[.int .i64 0, .int .i64 0] w fun e w' => ∃ d : ByteArray, e = .returned (.tuple #[.string d, .int .i64 0]) ∧ d.size ≤ 100 ∧ Below w.heap.size w w' := by
  have H2 := Lib.hid (fun (W : World) (hb : Below w.heap.size w W) => cktwo 0 48 (by rw [itoa_0]) (by decide) (by decide) W (hP.below hb))
  have H21 := Lib.hid (fun (W : World) (hb : Below w.heap.size w W) => cktwo 1 49 (by rw [itoa_1]) (by decide) (by decide) W (hP.below hb))
  have hit := fun (W : World) (hb : Below w.heap.size w W) => oitoa_any 1970 W (by decide) (by decide) (hP.below hb)
  rw [itoa_1970] at hit
  have HIT := Lib.hid hit
  have HD := Lib.hid hD
  have HRP := Lib.hid (fun (W : World) => ckrepeat0 W)
  clear hit hP hD
  go_enter Tryz.func178, Tryz.ntmps178
  go_wp2_with fail
  refine (cksplit0 w).mono ?_
  rintro e w1 ⟨rfl, hb1⟩
  obtain ⟨D, hDB⟩ : ∃ D, w1.heap.size = D := ⟨_, rfl⟩
  obtain ⟨W2, hW2⟩ : ∃ W, w1.alloc (.cells dtC 257) = W := ⟨_, rfl⟩
  have hb2 : Below w.heap.size w W2 := by rw [← hW2]; exact hb1.alloc hb1.size _
  have hk2 : BlkIs W2 D dtC 257 := by rw [← hW2, ← hDB]; exact blkIs_new _ _ _
  have HW2 := Lib.hid hW2; have HI2 := Lib.hid (And.intro hb2 (And.intro hk2 (HD.out.below hb2)))
  clear hW2 hb2 hk2 HD hb1
  go_upto_region 4 with fail
  rw [HW2.out]
  have c0 := HI2.out.2.1.cell 0 _ rfl
  have c1 := HI2.out.2.1.cell 1 _ rfl
  have c2 := HI2.out.2.1.cell 2 _ rfl
  have c3 := HI2.out.2.1.cell 3 _ rfl
  have c4 := HI2.out.2.1.cell 4 _ rfl
  have c5 := HI2.out.2.1.cell 5 _ rfl
  have c6 := HI2.out.2.1.cell 6 _ rfl
  have x0 := HI2.out.2.2.1
  have x1 := HI2.out.2.2.2
  have hw0 : IntKind.i64.wrap 0 = 0 := by rw [IntKind.wrap_i64]; decide
  go_still (by kernel_rfl)
  have HW := Lib.hid (show Below w.heap.size w W2.drew ∧ BlkIs W2.drew D dtC 257 from And.intro HI2.out.1.drew HI2.out.2.1)
  clear c0 c1 c2 c3 c4 c5 c6 x0 x1 HI2 HW2 hw0
  go_upto_region 5 with fail
  refine wp_region_textH (fun W => Below w.heap.size w W ∧ BlkIs W D dtC 257) [(0, true), (1, true), (4, true), (5, true), (9, true), (10, true), (2, false), (3, true), (6, false), (7, true), (8, true), (11, false), (12, true), (13, true)] (by kernel_rfl) (by kernel_rfl) (by kernel_rfl) (by kernel_rfl) ⟨HW.out.1.drew, HW.out.2⟩ ?_
  refine wpTxH_take rfl (by kernel_rfl) (v := ?_) ?_ ?_; rotate_left; · (intro W hS; clear hS; go_simp; with_reducible rfl)
  refine wpTxH_take rfl (by kernel_rfl) (v := ?_) ?_ ?_; rotate_left; · (intro W hS; have t0 := hS.2.cell 0 _ rfl; have t2 := hS.2.cell 2 _ rfl; have t3 := hS.2.cell 3 _ rfl; have t4 := hS.2.cell 4 _ rfl; have t5 := hS.2.cell 5 _ rfl; clear hS; go_simp; with_reducible rfl)
  refine wpTxH_take rfl (by kernel_rfl) (v := ?_) ?_ ?_; rotate_left; · (intro W hS; clear hS; go_simp; with_reducible rfl)
  refine wpTxH_take rfl (by kernel_rfl) (v := ?_) ?_ ?_; rotate_left; · (intro W hS; have t0 := hS.2.cell 0 _ rfl; have t2 := hS.2.cell 2 _ rfl; have t3 := hS.2.cell 3 _ rfl; have t4 := hS.2.cell 4 _ rfl; have t5 := hS.2.cell 5 _ rfl; clear hS; go_simp; with_reducible rfl)
  refine wpTxH_take rfl (by kernel_rfl) (v := ?_) ?_ ?_; rotate_left; · (intro W hS; clear hS; go_simp; with_reducible rfl)
  refine wpTxH_take rfl (by kernel_rfl) (v := ?_) ?_ ?_; rotate_left; · (intro W hS; have t0 := hS.2.cell 0 _ rfl; have t2 := hS.2.cell 2 _ rfl; have t3 := hS.2.cell 3 _ rfl; have t4 := hS.2.cell 4 _ rfl; have t5 := hS.2.cell 5 _ rfl; clear hS; go_simp; with_reducible rfl)
  refine wpTxH_step rfl (fun K hK => ?_)
  go_simp
  refine (H2.out _ (HW.out.1.drew)).mono ?_
  rintro e wz1 ⟨rfl, hbz⟩
  have HX := Lib.hid (And.intro ((HW.out.1.drew).trans (hbz.mono (HW.out.1.drew).size)) (show BlkIs wz1 D dtC 257 from BlkIs.later (show BlkIs W2.drew.drew D dtC 257 from HW.out.2) hbz))
  refine hK _ _ HX.out ?_
  clear hK K hbz HW
  have HW := Lib.hid HX.out
  clear HX
  refine wpTxH_take rfl (by kernel_rfl) (v := ?_) ?_ ?_; rotate_left; · (intro W hS; clear hS; go_simp; with_reducible rfl)
  refine wpTxH_step rfl (fun K hK => ?_)
  go_simp
  refine (H2.out _ HW.out.1).mono ?_
  rintro e wz2 ⟨rfl, hbz⟩
  have HX := Lib.hid (And.intro (HW.out.1.trans (hbz.mono HW.out.1.size)) (show BlkIs wz2 D dtC 257 from BlkIs.later HW.out.2 hbz))
  refine hK _ _ HX.out ?_
  clear hK K hbz HW
  have HW := Lib.hid HX.out
  clear HX
  refine wpTxH_take rfl (by kernel_rfl) (v := ?_) ?_ ?_; rotate_left; · (intro W hS; clear hS; go_simp; with_reducible rfl)
  refine wpTxH_take rfl (by kernel_rfl) (v := ?_) ?_ ?_; rotate_left; · (intro W hS; clear hS; go_simp; with_reducible rfl)
  refine wpTxH_step rfl (fun K hK => ?_)
  go_simp
  refine (H2.out _ HW.out.1).mono ?_
  rintro e wz3 ⟨rfl, hbz⟩
  have HX := Lib.hid (And.intro (HW.out.1.trans (hbz.mono HW.out.1.size)) (show BlkIs wz3 D dtC 257 from BlkIs.later HW.out.2 hbz))
  refine hK _ _ HX.out ?_
  clear hK K hbz HW
  have HW := Lib.hid HX.out
  clear HX
  refine wpTxH_take rfl (by kernel_rfl) (v := ?_) ?_ ?_; rotate_left; · (intro W hS; clear hS; go_simp; with_reducible rfl)
  refine wpTxH_take rfl (by kernel_rfl) (v := ?_) ?_ ?_; rotate_left; · (intro W hS; clear hS; go_simp; with_reducible rfl)
  refine wpTxH_nil ?_
  go_simp
  obtain ⟨T10, hT10⟩ : ∃ T, (⟨#[48, 48]⟩ : ByteArray) ++ ⟨#[58]⟩ ++ ⟨#[48, 48]⟩ ++ ⟨#[58]⟩ ++ ⟨#[48, 48]⟩ = T := ⟨_, rfl⟩
  have z10 : T10.size = 8 := by rw [← hT10]; rfl
  rw [hT10]
  clear hT10
  go_upto_region 6 with fail
  refine wp_region_textH (fun W => Below w.heap.size w W ∧ BlkIs W D dtC 257) [(0, true), (1, true), (6, true), (7, true), (2, false), (3, true), (4, true), (5, false), (8, false), (9, true), (10, true)] (by kernel_rfl) (by kernel_rfl) (by kernel_rfl) (by kernel_rfl) ⟨HW.out.1.drew, HW.out.2⟩ ?_
  refine wpTxH_take rfl (by kernel_rfl) (v := ?_) ?_ ?_; rotate_left; · (intro W hS; clear hS; go_simp; with_reducible rfl)
  refine wpTxH_take rfl (by kernel_rfl) (v := ?_) ?_ ?_; rotate_left; · (intro W hS; have t0 := hS.2.cell 0 _ rfl; have t2 := hS.2.cell 2 _ rfl; have t3 := hS.2.cell 3 _ rfl; have t4 := hS.2.cell 4 _ rfl; have t5 := hS.2.cell 5 _ rfl; clear hS; go_simp; with_reducible rfl)
  refine wpTxH_take rfl (by kernel_rfl) (v := ?_) ?_ ?_; rotate_left; · (intro W hS; clear hS; go_simp; with_reducible rfl)
  refine wpTxH_take rfl (by kernel_rfl) (v := ?_) ?_ ?_; rotate_left; · (intro W hS; have t0 := hS.2.cell 0 _ rfl; have t2 := hS.2.cell 2 _ rfl; have t3 := hS.2.cell 3 _ rfl; have t4 := hS.2.cell 4 _ rfl; have t5 := hS.2.cell 5 _ rfl; clear hS; go_simp; with_reducible rfl)
  refine wpTxH_step rfl (fun K hK => ?_)
  go_simp
  refine (HIT.out _ (HW.out.1.drew)).mono ?_
  rintro e wz4 ⟨rfl, hbz⟩
  have HX := Lib.hid (And.intro ((HW.out.1.drew).trans (hbz.mono (HW.out.1.drew).size)) (show BlkIs wz4 D dtC 257 from BlkIs.later (show BlkIs wz3.drew D dtC 257 from HW.out.2) hbz))
  refine hK _ _ HX.out ?_
  clear hK K hbz HW
  have HW := Lib.hid HX.out
  clear HX
  refine wpTxH_take rfl (by kernel_rfl) (v := ?_) ?_ ?_; rotate_left; · (intro W hS; clear hS; go_simp; with_reducible rfl)
  refine wpTxH_take rfl (by kernel_rfl) (v := ?_) ?_ ?_; rotate_left; · (intro W hS; clear hS; go_simp; with_reducible rfl)
  refine wpTxH_step rfl (fun K hK => ?_)
  go_simp
  refine (HRP.out _).mono ?_
  rintro e wz5 ⟨rfl, hbz⟩
  have HX := Lib.hid (And.intro (HW.out.1.trans (hbz.mono HW.out.1.size)) (show BlkIs wz5 D dtC 257 from BlkIs.later HW.out.2 hbz))
  refine hK _ _ HX.out ?_
  clear hK K hbz HW
  have HW := Lib.hid HX.out
  clear HX
  refine wpTxH_step rfl (fun K hK => ?_)
  go_simp
  refine (HIT.out _ HW.out.1).mono ?_
  rintro e wz6 ⟨rfl, hbz⟩
  have HX := Lib.hid (And.intro (HW.out.1.trans (hbz.mono HW.out.1.size)) (show BlkIs wz6 D dtC 257 from BlkIs.later HW.out.2 hbz))
  refine hK _ _ HX.out ?_
  clear hK K hbz HW
  have HW := Lib.hid HX.out
  clear HX
  refine wpTxH_take rfl (by kernel_rfl) (v := ?_) ?_ ?_; rotate_left; · (intro W hS; clear hS; go_simp; with_reducible rfl)
  refine wpTxH_take rfl (by kernel_rfl) (v := ?_) ?_ ?_; rotate_left; · (intro W hS; clear hS; go_simp; with_reducible rfl)
  refine wpTxH_nil ?_
  go_simp
  obtain ⟨T11, hT11⟩ : ∃ T, (⟨#[]⟩ : ByteArray) ++ ⟨#[49, 57, 55, 48]⟩ = T := ⟨_, rfl⟩
  have z11 : T11.size = 4 := by rw [← hT11]; rfl
  rw [hT11]
  clear hT11
  go_upto_region 9 with fail
  refine wp_region_textH (fun W => Below w.heap.size w W ∧ BlkIs W D dtC 257) [(0, true), (1, true), (2, true), (3, true), (4, true), (8, true), (11, true), (14, true), (5, false), (6, true), (7, true), (9, true), (10, true), (12, true), (13, true), (15, true), (16, true), (17, true), (18, true)] (by kernel_rfl) (by kernel_rfl) (by kernel_rfl) (by kernel_rfl) ⟨HW.out.1.drew, HW.out.2⟩ ?_
  refine wpTxH_take rfl (by kernel_rfl) (v := ?_) ?_ ?_; rotate_left; · (intro W hS; clear hS; go_simp; with_reducible rfl)
  refine wpTxH_take rfl (by kernel_rfl) (v := ?_) ?_ ?_; rotate_left; · (intro W hS; clear hS; go_simp; with_reducible rfl)
  refine wpTxH_take rfl (by kernel_rfl) (v := ?_) ?_ ?_; rotate_left; · (intro W hS; clear hS; go_simp; with_reducible rfl)
  refine wpTxH_take rfl (by kernel_rfl) (v := ?_) ?_ ?_; rotate_left; · (intro W hS; clear hS; go_simp; with_reducible rfl)
  refine wpTxH_take rfl (by kernel_rfl) (v := ?_) ?_ ?_; rotate_left; · (intro W hS; have t0 := hS.2.cell 0 _ rfl; have t2 := hS.2.cell 2 _ rfl; have t3 := hS.2.cell 3 _ rfl; have t4 := hS.2.cell 4 _ rfl; have t5 := hS.2.cell 5 _ rfl; clear hS; go_simp; with_reducible rfl)
  refine wpTxH_take rfl (by kernel_rfl) (v := ?_) ?_ ?_; rotate_left; · (intro W hS; clear hS; go_simp; with_reducible rfl)
  refine wpTxH_take rfl (by kernel_rfl) (v := ?_) ?_ ?_; rotate_left; · (intro W hS; clear hS; go_simp; with_reducible rfl)
  refine wpTxH_take rfl (by kernel_rfl) (v := ?_) ?_ ?_; rotate_left; · (intro W hS; clear hS; go_simp; with_reducible rfl)
  refine wpTxH_step rfl (fun K hK => ?_)
  go_simp
  refine (H21.out _ (HW.out.1.drew)).mono ?_
  rintro e wz7 ⟨rfl, hbz⟩
  have HX := Lib.hid (And.intro ((HW.out.1.drew).trans (hbz.mono (HW.out.1.drew).size)) (show BlkIs wz7 D dtC 257 from BlkIs.later (show BlkIs wz6.drew D dtC 257 from HW.out.2) hbz))
  refine hK _ _ HX.out ?_
  clear hK K hbz HW
  have HW := Lib.hid HX.out
  clear HX
  refine wpTxH_take rfl (by kernel_rfl) (v := ?_) ?_ ?_; rotate_left; · (intro W hS; clear hS; go_simp; with_reducible rfl)
  refine wpTxH_take rfl (by kernel_rfl) (v := ?_) ?_ ?_; rotate_left; · (intro W hS; clear hS; go_simp; with_reducible rfl)
  refine wpTxH_take rfl (by kernel_rfl) (v := ?_) ?_ ?_; rotate_left; · (intro W hS; clear hS; go_simp; with_reducible rfl)
  refine wpTxH_take rfl (by kernel_rfl) (v := ?_) ?_ ?_; rotate_left; · (intro W hS; clear hS; go_simp; with_reducible rfl)
  refine wpTxH_take rfl (by kernel_rfl) (v := ?_) ?_ ?_; rotate_left; · (intro W hS; clear hS; go_simp; with_reducible rfl)
  refine wpTxH_take rfl (by kernel_rfl) (v := ?_) ?_ ?_; rotate_left; · (intro W hS; clear hS; go_simp; with_reducible rfl)
  refine wpTxH_take rfl (by kernel_rfl) (v := ?_) ?_ ?_; rotate_left; · (intro W hS; clear hS; go_simp; with_reducible rfl)
  refine wpTxH_take rfl (by kernel_rfl) (v := ?_) ?_ ?_; rotate_left; · (intro W hS; clear hS; go_simp; with_reducible rfl)
  refine wpTxH_take rfl (by kernel_rfl) (v := ?_) ?_ ?_; rotate_left; · (intro W hS; clear hS; go_simp; with_reducible rfl)
  refine wpTxH_take rfl (by kernel_rfl) (v := ?_) ?_ ?_; rotate_left; · (intro W hS; clear hS; go_simp; with_reducible rfl)
  refine wpTxH_nil ?_
  go_simp
  go_wp2
  go_ret2
  refine ⟨_, rfl, ?_, HW.out.1⟩
  simp only [ByteArray.size_append, z10, z11]
  decide
set_option maxHeartbeats 1000000 in
theorem ckprint0 (w : World) (hP : PowAt w) (hD : DaysAt w) : Calls Tryz.prog 129 #[.int .i64 0] w fun e w' => ∃ d : ByteArray, e = .returned (.tuple #[.string d, .int .i64 0]) ∧ d.size ≤ 100 ∧ Below w.heap.size w w' := by
  have HWR := Lib.hid (ckwrite0 w hP hD)
  clear hP hD
  go_enter Tryz.func129, Tryz.ntmps129
  go_wp2_with fail
  refine (HWR.out).mono ?_
  rintro e w1 ⟨d, rfl, hd, hb⟩
  go_wp2
  go_ret2
  exact ⟨d, rfl, hd, hb⟩
end Go.Proofs.YtdlpbpikhmciaaaGreatDoor
