/- The walk of shelf.right at a plain file. Conditions: bytealg's MaxLen holds an int; octet.signs holds what the text lays. -/
import Derived.Test.YtpdbejeiceodkaaGreatDoorTgt2
import Derived.Test.YtpdbejeiceodkaaGreatDoorPar7
import Derived.Test.YtpdbejeiceodkaaGreatDoorMpr
import Derived.Test.YtpdbejeiceodkaaGreatDoorRegH
import Derived.Test.YtpdbejeiceodkaaGreatDoorLaidSg
namespace Go.Proofs.YtpdbejeiceodkaaGreatDoor
open Go.RowKit
set_option linter.unusedSimpArgs false
set_option linter.unusedVariables false
set_option maxRecDepth 1000000
theorem wtxH_passS {P : Program} {ops : Array Oper} {S : World → Prop} {Q : Exit → Act → World → Prop} {i : Nat} {o : Oper} {r : List (Nat × Bool)} {a : Act} {w : World} (ho : ops[i]? = some o) (hw : Region.wanted o (yielded ops a.tmps) = false)
    (h : wpTxH P ops S Q r (a.put o.dst undef) w) : wpTxH P ops S Q ((i, true) :: r) a w := ⟨o, undef, ho, .inr ⟨hw, rfl⟩, h⟩
def tpL : List UInt8 := [116, 101, 120, 116]
def plL : List UInt8 := [112, 108, 97, 105, 110]
abbrev flA : Array Value := #[.string ⟨#[47, 97]⟩, .string ⟨#[116, 101, 120, 116, 47, 112, 108, 97, 105, 110]⟩, .string ⟨#[]⟩, .string ⟨#[]⟩, .string ⟨#[104, 105]⟩, .int .i64 (-1)]
theorem mdA : mdP [116, 101, 120, 116, 47, 112, 108, 97, 105, 110] = (([116, 101, 120, 116], [112, 108, 97, 105, 110], [], true), 0) := by kernel_rfl
theorem mprA : mprR ⟨[116, 101, 120, 116], [112, 108, 97, 105, 110], []⟩ = ([116, 101, 120, 116, 47, 112, 108, 97, 105, 110], 0) := by kernel_rfl
theorem sufA (w : World) : Calls Tryz.prog 44 #[.string ⟨#[47, 97]⟩, .string ⟨#[47]⟩] w fun e w' => e = .returned (.bool false) ∧ w' = w := Tryz.strings_HasSuffix ⟨#[47, 97]⟩ ⟨#[47]⟩ w (by decide)
theorem parA (w : World) (hg : SgAt w) : Calls Tryz.prog 71 #[.string ⟨#[116, 101, 120, 116, 47, 112, 108, 97, 105, 110]⟩] w fun e w' => ∃ ao cap, e = .returned (.tuple #[.agg #[.string ⟨#[116, 101, 120, 116]⟩, .string ⟨#[112, 108, 97, 105, 110]⟩, .slice ao 0 cap], .int .i64 0]) ∧ Below w.heap.size w w' := by
  refine (oparse_any ⟨#[116, 101, 120, 116, 47, 112, 108, 97, 105, 110]⟩ w (by decide) hg).mono fun e w' h => ?_
  unfold MpPost at h
  rw [show (⟨#[116, 101, 120, 116, 47, 112, 108, 97, 105, 110]⟩ : ByteArray).data.toList = [116, 101, 120, 116, 47, 112, 108, 97, 105, 110] from rfl, mdA] at h
  obtain ⟨v, rfl, hown, hb⟩ := h
  have hvs : ∃ ao cap, v = .slice ao 0 cap := by
    rcases hown.2 with ⟨rfl, h0⟩ | ⟨g, cap, cur, rfl, _⟩
    · exact ⟨none, 0, rfl⟩
    · exact ⟨_, cap, rfl⟩
  obtain ⟨ao, cap, rfl⟩ := hvs
  exact ⟨ao, cap, rfl, hb⟩
theorem prtA (ao : Option Addr) (cap : Nat) (w : World) (hg : SgAt w) : Calls Tryz.prog 99 #[.agg #[.string ⟨#[116, 101, 120, 116]⟩, .string ⟨#[112, 108, 97, 105, 110]⟩, .slice ao 0 cap]] w fun e w' => e = .returned (.tuple #[.string ⟨#[116, 101, 120, 116, 47, 112, 108, 97, 105, 110]⟩, .int .i64 0]) ∧ Below w.heap.size w w' := by
  have h := ompr_any ⟨[116, 101, 120, 116], [112, 108, 97, 105, 110], []⟩ (.slice ao 0 cap) w (by decide) ⟨ao, cap, rfl, fun i p hp => by simp at hp⟩ hg
  rw [mprA] at h
  exact h
set_option maxHeartbeats 4000000 in
theorem rightA (m : Int) (w : World) (hm : w.cell? ⟨0, 0, none⟩ = some (.int .i64 m)) (hg : SgAt w) : Calls Tryz.prog 64 #[.agg flA] w fun e w' => e = .returned (.bool true) ∧ Below w.heap.size w w' := by
  obtain ⟨W0, hW0⟩ : ∃ W0, w.alloc (.cells flA 46) = W0 := ⟨_, rfl⟩
  have hb0 : Below w.heap.size w W0 := by rw [← hW0]; exact (Below.refl _ w).alloc (Nat.le_refl _) _
  have hB0 : BlkIs W0 w.heap.size flA 46 := by rw [← hW0]; exact blkIs_new _ _ _
  have HW0 := Lib.hid hW0; have HB0 := Lib.hid (And.intro hb0 hB0); have HG := Lib.hid hg; have HM := Lib.hid hm
  clear hW0 hb0 hB0 hg hm
  go_enter Tryz.func64, Tryz.ntmps64
  go_upto_region 1 with fail
  rw [HW0.out]
  have c0 : W0.cell? ⟨w.heap.size, 0, none⟩ = some (.string ⟨#[47, 97]⟩) := HB0.out.2.cell 0 _ rfl
  go_wp2_with fail
  refine (normA m W0 (mx_later (B := 0) HM.out HB0.out.1)).mono ?_
  rintro e w1 ⟨rfl, hb1⟩
  have HB1 := Lib.hid (And.intro (HB0.out.1.trans (hb1.mono HB0.out.1.size)) (HB0.out.2.later hb1))
  clear hb1 c0
  have c0 : w1.cell? ⟨w.heap.size, 0, none⟩ = some (.string ⟨#[47, 97]⟩) := HB1.out.2.cell 0 _ rfl
  have c1 : w1.cell? ⟨w.heap.size, 1, none⟩ = some (.string ⟨#[116, 101, 120, 116, 47, 112, 108, 97, 105, 110]⟩) := HB1.out.2.cell 1 _ rfl
  go_wp2_with fail
  refine (sufA w1).mono ?_
  rintro e w2 ⟨rfl, hw2⟩
  subst hw2
  go_wp2_with fail
  refine (parA w2 (HG.out.below HB1.out.1)).mono ?_
  rintro e w3 ⟨ao, cap, rfl, hb3⟩
  obtain ⟨W3, hW3⟩ : ∃ W3, w3.alloc (.cells #[.string ⟨#[116, 101, 120, 116]⟩, .string ⟨#[112, 108, 97, 105, 110]⟩, .slice ao 0 cap] 131) = W3 := ⟨_, rfl⟩
  have hb33 : Below w3.heap.size w3 W3 := by rw [← hW3]; exact (Below.refl _ w3).alloc (Nat.le_refl _) _
  have hb03 : Below w.heap.size w W3 := (HB1.out.1.trans (hb3.mono HB1.out.1.size)).trans (hb33.mono (Nat.le_trans HB1.out.1.size hb3.size))
  have HB3 := Lib.hid (And.intro hb03 (And.intro ((HB1.out.2.later hb3).later hb33) (show BlkIs W3 w3.heap.size _ 131 by rw [← hW3]; exact blkIs_new _ _ _)))
  have HW3 := Lib.hid hW3
  clear hW3 hb3 hb33 hb03 c0 c1
  go_upto_region 5 with fail
  rw [HW3.out]
  have d0 : W3.cell? ⟨w3.heap.size, 0, none⟩ = some (.string ⟨#[116, 101, 120, 116]⟩) := HB3.out.2.2.cell 0 _ rfl
  have d1 : W3.cell? ⟨w3.heap.size, 1, none⟩ = some (.string ⟨#[112, 108, 97, 105, 110]⟩) := HB3.out.2.2.cell 1 _ rfl
  have d2 : W3.cell? ⟨w3.heap.size, 2, none⟩ = some (.slice ao 0 cap) := HB3.out.2.2.cell 2 _ rfl
  go_wp2_with fail
  refine (prtA ao cap W3 (HG.out.below HB3.out.1)).mono ?_
  rintro e w4 ⟨rfl, hb4⟩
  have HB4 := Lib.hid (And.intro (HB3.out.1.trans (hb4.mono HB3.out.1.size)) (HB3.out.2.1.later hb4))
  clear hb4 d0 d1 d2
  have c1 : w4.cell? ⟨w.heap.size, 1, none⟩ = some (.string ⟨#[116, 101, 120, 116, 47, 112, 108, 97, 105, 110]⟩) := HB4.out.2.cell 1 _ rfl
  go_upto_region 8 with fail
  have HD := Lib.hid (HB4.out.2.later ((Below.refl _ w4).drew))
  clear c1
  refine wp_region_textH (fun w' => BlkIs w' w.heap.size flA 46) [(0, true), (1, true), (2, true), (3, true), (4, true), (5, true), (6, true), (7, true), (8, true), (9, true), (10, true), (11, true), (12, true), (13, true), (14, true), (15, true), (16, true), (17, true), (18, true), (19, true), (20, true), (21, true)] (by kernel_rfl) (by kernel_rfl) (by kernel_rfl) (by kernel_rfl) HD.out ?_
  iterate 4 (refine wpTxH_take rfl (by kernel_rfl) (v := ?_) ?_ ?_; rotate_left; · (intro w hS; have s2 := hS.cell 2 _ rfl; clear hS; go_simp; with_reducible rfl))
  iterate 16 (refine wtxH_passS rfl (by kernel_rfl) ?_)
  iterate 2 (refine wpTxH_take rfl (by kernel_rfl) (v := ?_) ?_ ?_; rotate_left; · (intro w hS; clear hS; go_simp; with_reducible rfl))
  refine wpTxH_nil ?_
  go_simp
  have c5 : w4.drew.cell? ⟨w.heap.size, 5, none⟩ = some (.int .i64 (-1)) := HD.out.cell 5 _ rfl
  have c3 : w4.drew.cell? ⟨w.heap.size, 3, none⟩ = some (.string ⟨#[]⟩) := HD.out.cell 3 _ rfl
  go_wp2
  go_ret
  exact ⟨rfl, HB4.out.1.drew⟩
end Go.Proofs.YtpdbejeiceodkaaGreatDoor
