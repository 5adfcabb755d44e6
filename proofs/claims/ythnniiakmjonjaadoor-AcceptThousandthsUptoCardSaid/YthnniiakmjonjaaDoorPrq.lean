/- The walk of accept.PrintQuality: the plain function pqR. Conditions: strconv's table holds what the text lays. -/
import Derived.Test.YthnniiakmjonjaaDoorDig7
import Derived.Test.YthnniiakmjonjaaDoorQua
namespace Go.Proofs.YthnniiakmjonjaaDoor
open Go.RowKit
set_option linter.unusedSimpArgs false
set_option linter.unusedVariables false
set_option maxRecDepth 1000000
def prL (n : Nat) : List UInt8 := Lib.trimRightB (Lib.trimRightB (48 :: 46 :: (Lib.decDigits (1000 + n)).drop 1) 48) 46
/-- A quality's text, and an error's number. -/
def pqR (q : Int) : List UInt8 × Nat := if q < 0 ∨ 1000 < q then ([], 71) else if q = 1000 then ([49], 0) else (prL q.toNat, 0)
theorem dec_len4 : ∀ n : Fin 1000, ((Lib.decDigits (1000 + n.val)).length == 4) = true := by decide +kernel
theorem trim0 (l : List UInt8) (c : UInt8) (t : List UInt8) (ht : Lib.trimRightB l c = t) (hc : c.toNat < 128) (hl : l.length ≤ 9223372036854775807) (w : World) :
    Calls Tryd.prog 89 #[.string ⟨l.toArray⟩, .string ⟨#[c]⟩] w fun e w' => e = .returned (.string ⟨t.toArray⟩) ∧ w' = w := by
  have h := Tryd.strings_TrimRight_one ⟨l.toArray⟩ c hc w (by rw [size_mk]; exact hl)
  rwa [show (⟨l.toArray⟩ : ByteArray).data.toList = l from rfl, ht] at h
set_option maxHeartbeats 4000000 in
theorem oprq_any (q : Int) (w : World) (h : PowAt w) :
    Calls Tryd.prog 46 #[.int .i64 q] w fun e w' => e = .returned (.tuple #[.string ⟨(pqR q).1.toArray⟩, .int .i64 ((pqR q).2 : Nat)]) ∧ Below w.heap.size w w' := by
  by_cases hb : q < 0 ∨ 1000 < q
  · have HR := Lib.hid (show pqR q = ([], 71) from by unfold pqR; rw [if_pos hb])
    have hw : q < 0 ∨ (0 ≤ q ∧ 1000 < q) := by omega
    clear hb h
    rcases hw with h1 | ⟨h1, h2⟩
    all_goals
      go_enter Tryd.func46, Tryd.ntmps46
      go_wp2
      go_ret2
      rw [HR.out]
      exact ⟨rfl, Below.refl _ _⟩
  · have h0 : 0 ≤ q := by omega
    have h1 : q ≤ 1000 := by omega
    by_cases hk : q = 1000
    · have HR := Lib.hid (show pqR q = ([49], 0) from by unfold pqR; rw [if_neg hb, if_pos hk])
      subst hk
      clear hb h
      go_enter Tryd.func46, Tryd.ntmps46
      go_wp2
      go_ret2
      rw [HR.out]
      exact ⟨rfl, Below.refl _ _⟩
    · obtain ⟨n, rfl⟩ : ∃ n : Nat, q = (n : Int) := ⟨q.toNat, by omega⟩
      have hn : n < 1000 := by omega
      have hR : pqR (n : Int) = (prL n, 0) := by unfold pqR; rw [if_neg hb, if_neg hk]; rfl
      have b1 : ((n : Int) == 1000) = false := by simp; omega
      have hdg := odigits_any (1000 + n) w (by omega) h
      rw [show ((1000 + n : Nat) : Int) = 1000 + (n : Int) from by omega] at hdg
      obtain ⟨D, hD⟩ : ∃ D, Lib.decDigits (1000 + n) = D := ⟨_, rfl⟩
      have hD4 : D.length = 4 := by have := dec_len4 ⟨n, hn⟩; rw [hD] at this; simpa using this
      rw [hD] at hdg
      have hx := ext_back ⟨D.toArray⟩ 1
      rw [show (⟨D.toArray⟩ : ByteArray).data.toList = D from rfl, size_mk] at hx
      obtain ⟨E, hE⟩ : ∃ E, D.drop 1 = E := ⟨_, rfl⟩
      have hEl : E.length = 3 := by rw [← hE, List.length_drop, hD4]
      rw [hE] at hx
      obtain ⟨T, hT⟩ : ∃ T, 48 :: 46 :: E = T := ⟨_, rfl⟩
      have hcat : (⟨#[48, 46]⟩ : ByteArray) ++ (⟨E.toArray⟩ : ByteArray) = ⟨T.toArray⟩ := by rw [← hT]; exact cat_ll7 [48, 46] E
      have hTl : T.length = 5 := by rw [← hT]; simp [hEl]
      obtain ⟨U, hU⟩ : ∃ U, Lib.trimRightB T 48 = U := ⟨_, rfl⟩
      obtain ⟨V, hV⟩ : ∃ V, Lib.trimRightB U 46 = V := ⟨_, rfl⟩
      have hUl : U.length ≤ 9223372036854775807 := by
        have : U.length ≤ T.length := by rw [← hU]; unfold Lib.trimRightB; simp only [List.length_reverse]; exact Nat.le_trans (List.dropWhile_suffix _).length_le (by simp)
        omega
      have hpr : prL n = V := by unfold prL; rw [hD, hE, hT, hU, hV]
      have HD := Lib.hid hdg
      have t1 := trim0 T 48 U hU (by decide) (by omega)
      have t2 := trim0 U 46 V hV (by decide) hUl
      have HT1 := Lib.hid t1; have HT2 := Lib.hid t2
      have HR := Lib.hid (hR.trans (by rw [hpr]))
      have hz : ¬ 9223372036854775807 < 2 + E.length := by omega
      have d1 : (1 : Int) ≤ (D.length : Int) := by omega
      have n0 : (0 : Int) ≤ (n : Int) := Int.natCast_nonneg _
      have n1 : (n : Int) ≤ 999 := by omega
      clear hdg hD hD4 hE hEl hT hTl hU hV hUl hpr t1 t2 hR hb hk hn h
      go_enter Tryd.func46, Tryd.ntmps46
      go_wp2_with fail
      refine (HD.out).mono ?_
      rintro e w1 ⟨rfl, hb1⟩
      have HB := Lib.hid hb1
      clear hb1
      go_wp2_with fail
      refine (HT1.out _).mono ?_
      rintro e w2 ⟨rfl, hw2⟩
      rw [hw2]
      clear hw2
      go_wp2_with fail
      refine (HT2.out _).mono ?_
      rintro e w2 ⟨rfl, hw2⟩
      rw [hw2]
      clear hw2
      go_wp2
      go_ret2
      rw [HR.out]
      exact ⟨rfl, HB.out⟩
end Go.Proofs.YthnniiakmjonjaaDoor
