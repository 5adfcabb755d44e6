/- The two turns of a word to the left. No conditions. -/
import Derived.Test.YtpehogkgiikjmaaShelf
import Derived.Test.YtpehogkgiikjmaaKit
namespace Go.Proofs.Ytpehogkgiikjmaa
open Go.RowKit
set_option linter.unusedSimpArgs false
set_option linter.unusedVariables false
/-- x turned left by n. -/
def rotN (n : Nat) (x : Int) : Int := bits .or .u32 (x * 2 ^ n % 4294967296) (x / 2 ^ (32 - n))
set_option maxRecDepth 100000 in
set_option maxHeartbeats 1000000 in
theorem rotl1_any (x : Int) (w : World) :
    Calls Try.prog 44 #[.int .u32 x, .int .i64 1] w fun e w' => e = .returned (.int .u32 (rotN 1 x)) ∧ w' = w := by
  have q : bits .and .u64 1 31 = 1 := by decide
  go_enter Try.func44, Try.ntmps44
  go_wp2
  go_ret
  exact ⟨rfl, rfl⟩
set_option maxRecDepth 100000 in
set_option maxHeartbeats 1000000 in
theorem rleft1_any (x : Int) (w : World) :
    Calls Try.prog 41 #[.int .u32 x, .int .u64 1] w fun e w' => e = .returned (.int .u32 (rotN 1 x)) ∧ w' = w := by
  go_enter Try.func41, Try.ntmps41
  go_wp2
  go_ret
  exact ⟨rfl, rfl⟩
set_option maxRecDepth 100000 in
set_option maxHeartbeats 1000000 in
theorem rotl5_any (x : Int) (w : World) :
    Calls Try.prog 44 #[.int .u32 x, .int .i64 5] w fun e w' => e = .returned (.int .u32 (rotN 5 x)) ∧ w' = w := by
  have q : bits .and .u64 5 31 = 5 := by decide
  go_enter Try.func44, Try.ntmps44
  go_wp2
  go_ret
  exact ⟨rfl, rfl⟩
set_option maxRecDepth 100000 in
set_option maxHeartbeats 1000000 in
theorem rleft5_any (x : Int) (w : World) :
    Calls Try.prog 41 #[.int .u32 x, .int .u64 5] w fun e w' => e = .returned (.int .u32 (rotN 5 x)) ∧ w' = w := by
  go_enter Try.func41, Try.ntmps41
  go_wp2
  go_ret
  exact ⟨rfl, rfl⟩
set_option maxRecDepth 100000 in
set_option maxHeartbeats 1000000 in
theorem rotl30_any (x : Int) (w : World) :
    Calls Try.prog 44 #[.int .u32 x, .int .i64 30] w fun e w' => e = .returned (.int .u32 (rotN 30 x)) ∧ w' = w := by
  have q : bits .and .u64 30 31 = 30 := by decide
  go_enter Try.func44, Try.ntmps44
  go_wp2
  go_ret
  exact ⟨rfl, rfl⟩
set_option maxRecDepth 100000 in
set_option maxHeartbeats 1000000 in
theorem rleft30_any (x : Int) (w : World) :
    Calls Try.prog 41 #[.int .u32 x, .int .u64 30] w fun e w' => e = .returned (.int .u32 (rotN 30 x)) ∧ w' = w := by
  go_enter Try.func41, Try.ntmps41
  go_wp2
  go_ret
  exact ⟨rfl, rfl⟩
end Go.Proofs.Ytpehogkgiikjmaa
