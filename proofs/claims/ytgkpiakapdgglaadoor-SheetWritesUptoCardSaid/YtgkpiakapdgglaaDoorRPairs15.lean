/- The walk of the reference's Pairs of a body. Conditions: fewer than 2^40 bytes. -/
import Derived.Test.YtgkpiakapdgglaaDoorRPairs
namespace Go.Proofs.YtgkpiakapdgglaaDoor
open Go.RowKit
set_option linter.unusedSimpArgs false
set_option linter.unusedVariables false
set_option maxRecDepth 1000000
theorem own_mono {w : World} {base base' : Nat} {e : TypeId} {size : Nat} {v : Value} {n : Nat} {xs : List Value} (h : w.ownsRow base e size v n xs) (hb : base' ≤ base) : w.ownsRow base' e size v n xs :=
  ⟨h.1, h.2.imp id (fun ⟨g, cap, cur, a, b, c⟩ => ⟨g, cap, cur, a, Nat.le_trans hb b, c⟩)⟩
def PairsPost (s : ByteArray) (T : TypeId) (w : World) (e : Ending) (w' : World) : Prop := ∃ v, e = .returned (.tuple #[v, .int .i64 ((prsP s.data.toList).2.1 : Nat), .int .i64 ((prsP s.data.toList).2.2 : Nat)]) ∧ w'.ownsRow w.heap.size T 3 v (prsP s.data.toList).1.length (parsV (prsP s.data.toList).1) ∧ Below w.heap.size w w'
theorem le_4047 (n : Nat) (h : n ≤ 1099511627776) : n ≤ 140737488351232 := by omega
theorem rpairs15_any (s : ByteArray) (w : World) (hs : s.size ≤ 1099511627776) : Calls Tryd.prog 9 #[.string s] w (PairsPost s 64 w) := by
  have hs47 := le_4047 _ hs
  obtain ⟨⟨x, at_, no⟩, hd⟩ : ∃ q, pdec s.data.toList = q := ⟨_, rfl⟩
  by_cases h0 : no = 0
  · have hp : prsP s.data.toList = (parsOf (Lib.split s.data.toList [38]), 0, 0) := by unfold prsP; rw [hd]; rw [if_neg (by simp [h0])]
    have hz : ((no : Int) != 0) = false := by simp [h0]
    have HP := Lib.hid (And.intro hp hd); clear hp hd h0
    go_enter Tryd.func9, Tryd.ntmps9
    go_wp2_with fail
    refine (rdecode5_any s _ hs47).mono ?_
    rintro e w1 ⟨rfl, hb1⟩
    rw [HP.out.2]
    go_wp2_with fail
    refine (rpairs5_any s _ hs).mono ?_
    rintro e w2 ⟨v, rfl, hown, hb2⟩
    go_wp2
    go_ret3
    unfold PairsPost
    rw [HP.out.1]
    exact ⟨v, rfl, own_mono hown hb1.size, hb1.trans (hb2.mono hb1.size)⟩
  · have hp : prsP s.data.toList = ([], at_, 51) := by unfold prsP; rw [hd]; rw [if_pos (by simpa using h0)]
    have hz : ((no : Int) != 0) = true := by simp; omega
    have HP := Lib.hid (And.intro hp hd); clear hp hd h0
    go_enter Tryd.func9, Tryd.ntmps9
    go_wp2_with fail
    refine (rdecode5_any s _ hs47).mono ?_
    rintro e w1 ⟨rfl, hb1⟩
    rw [HP.out.2]
    go_wp2
    go_ret3
    unfold PairsPost
    rw [HP.out.1]
    exact ⟨_, rfl, own_mono (World.ownsRow_made (e := 64) (size := 3) w1 #[] 0 (Nat.le_refl _) (by simp) rfl) hb1.size, hb1.alloc hb1.size _⟩
end Go.Proofs.YtgkpiakapdgglaaDoor
