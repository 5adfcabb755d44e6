/- The walk of target.Normal at "/a". No conditions. -/
import Derived.Test.YtpdbejeiceodkaaGreatDoorBuild
import Derived.Test.YtpdbejeiceodkaaGreatDoorRow1
import Derived.Test.YtpdbejeiceodkaaGreatDoorShelf
import Derived.RangeFuncNested
import Derived.RangeFuncBound
import Derived.RangeFuncCalls
import Derived.RangeFuncLeaves
import Derived.RangeFuncBox
import Derived.Shelf.Abstract
import Derived.Shelf.RegionOpen
import Derived.OwnWalkIn
import Derived.TacticsInMore
import Derived.LoopNIn
import Derived.LoopIn
namespace Go.Proofs.YtpdbejeiceodkaaGreatDoor
open Go.RowKit
set_option linter.unusedSimpArgs false
set_option linter.unusedVariables false
set_option maxRecDepth 1000000
theorem trpA (i : Int) (w : World) (hi : i = 0 ∨ i = 1) : Calls Tryz.prog 140 #[.string (⟨#[47, 97]⟩ : ByteArray), .int .i64 i] w fun e w' => e = .returned (.tuple #[.int .u8 0, .bool false]) ∧ w' = w := by
  rcases hi with rfl | rfl
  all_goals
    go_enter Tryz.func140, Tryz.ntmps140
    go_wp2
    go_ret2
    exact ⟨rfl, by first | rfl | trivial⟩
theorem clsA47 (w : World) : Calls Tryz.prog 141 #[.int .u8 47] w fun e w' => e = .returned (.int .i64 8) ∧ w' = w := by
  have h1 := Tryz.strings_IndexByte ⟨#[45, 46, 95, 126]⟩ 47 w
  have h2 := Tryz.strings_IndexByte ⟨#[33, 36, 38, 39, 40, 41, 42, 43, 44, 59, 61]⟩ 47 w
  rw [show Lib.indexByte (⟨#[45, 46, 95, 126]⟩ : ByteArray).data.toList (47 : Int).toNat.toUInt8 = -1 by decide] at h1
  rw [show Lib.indexByte (⟨#[33, 36, 38, 39, 40, 41, 42, 43, 44, 59, 61]⟩ : ByteArray).data.toList (47 : Int).toNat.toUInt8 = -1 by decide] at h2
  go_enter Tryz.func141, Tryz.ntmps141
  go_wp2_with fail
  refine h1.mono ?_
  rintro e w1 ⟨rfl, rfl⟩
  go_wp2_with fail
  refine h2.mono ?_
  rintro e w1 ⟨rfl, rfl⟩
  go_wp2
  go_ret
  exact ⟨rfl, by first | rfl | trivial⟩
theorem clsA97 (w : World) : Calls Tryz.prog 141 #[.int .u8 97] w fun e w' => e = .returned (.int .i64 1) ∧ w' = w := by
  go_enter Tryz.func141, Tryz.ntmps141
  go_wp2
  go_ret
  exact ⟨rfl, by first | rfl | trivial⟩
theorem bits8 : (bits BinOp.and IntKind.i64 8 15 == 0) = false := by kernel_rfl
theorem bits1 : (bits BinOp.and IntKind.i64 1 15 == 0) = false := by kernel_rfl
theorem sgnA (w : World) : Calls Tryz.prog 176 #[.string (⟨#[47, 97]⟩ : ByteArray), .int .i64 15] w fun e w' => e = .returned (.int .i64 2) ∧ w' = w := by
  have q8 := bits8
  have q1 := bits1
  go_enter Tryz.func176, Tryz.ntmps176
  go_wp2
  refine wp_loop_rounds 3 ?_
  rw [rounds_succ]
  go_wp2_with fail
  refine (trpA 0 w (.inl rfl)).mono ?_
  rintro e w1 ⟨rfl, rfl⟩
  go_wp2_with fail
  refine (clsA47 _).mono ?_
  rintro e w1 ⟨rfl, rfl⟩
  go_wp2
  rw [rounds_succ]
  go_wp2_with fail
  refine (trpA 1 _ (.inr rfl)).mono ?_
  rintro e w1 ⟨rfl, rfl⟩
  go_wp2_with fail
  refine (clsA97 _).mono ?_
  rintro e w1 ⟨rfl, rfl⟩
  go_wp2
  rw [rounds_succ]
  go_wp2
  go_ret
  exact ⟨rfl, by first | rfl | trivial⟩
theorem hasPreA (w : World) : Calls Tryz.prog 96 #[.string (⟨#[47, 97]⟩ : ByteArray), .string ⟨#[47]⟩] w fun e w' => e = .returned (.bool true) ∧ w' = w := Tryz.strings_HasPrefix (⟨#[47, 97]⟩ : ByteArray) ⟨#[47]⟩ w
theorem isPathA (w : World) : Calls Tryz.prog 139 #[.string (⟨#[47, 97]⟩ : ByteArray)] w fun e w' => e = .returned (.bool true) ∧ w' = w := by
  go_enter Tryz.func139, Tryz.ntmps139
  go_wp2_with fail
  refine (hasPreA w).mono ?_
  rintro e w1 ⟨rfl, rfl⟩
  go_wp2_with fail
  refine (sgnA _).mono ?_
  rintro e w1 ⟨rfl, rfl⟩
  go_wp2
  go_ret
  exact ⟨rfl, by first | rfl | trivial⟩
theorem joinA (w : World) (ao : Option Addr) (b cap : Nat) (hc : w.cell? ⟨b, 0, none⟩ = some (.string ⟨#[97]⟩)) : Calls Tryz.prog 145 #[.slice (some ⟨b, 0, none⟩) 1 cap, .string ⟨#[47]⟩] w fun e w' => e = .returned (.string ⟨#[97]⟩) ∧ w' = w := by
  go_enter Tryz.func145, Tryz.ntmps145
  go_wp2
  go_ret
  exact ⟨rfl, by first | rfl | trivial⟩
theorem cutPreA (w : World) : Calls Tryz.prog 45 #[.string (⟨#[47, 97]⟩ : ByteArray), .string ⟨#[47]⟩] w fun e w' => e = .returned (.tuple #[.string ⟨#[97]⟩, .bool true]) ∧ w' = w := Tryz.strings_CutPrefix (⟨#[47, 97]⟩ : ByteArray) ⟨#[47]⟩ w
end Go.Proofs.YtpdbejeiceodkaaGreatDoor
