/- Media types: plain. No program is named. No conditions. -/
import Derived.Test.YtpdbejeiceodkaaGreatDoorDisP
import Derived.Test.YtpdbejeiceodkaaGreatDoorOct10
namespace Go.Proofs.YtpdbejeiceodkaaGreatDoor
open Go.RowKit
set_option linter.unusedSimpArgs false
set_option linter.unusedVariables false
set_option maxRecDepth 100000
/-- A type, a subtype, parameters to the end, and whether they are that. -/
abbrev Med := List UInt8 × List UInt8 × List Par × Bool
def noMed : Med := ([], [], [], false)
/-- .. behind a type of n letters: 'rest' is what stands behind the slash. -/
def mdK (s rest : List UInt8) (n : Nat) : Med :=
  if runL isSg rest = 0 ∨ (parR (rest.drop (runL isSg rest))).2.2 ≠ 0 ∨ runL isSg rest + (parR (rest.drop (runL isSg rest))).2.1 ≠ rest.length then noMed
  else (lowL (s.take n), lowL (rest.take (runL isSg rest)), (parR (rest.drop (runL isSg rest))).1.map lowP, true)
def mdR (s : List UInt8) : Med :=
  if runL isSg s = 0 ∨ s[runL isSg s]? ≠ some 47 then noMed else mdK s (s.drop (runL isSg s + 1)) (runL isSg s)
theorem mdR_none (s : List UInt8) (n : Nat) (hn : runL isSg s = n) (h : n = 0 ∨ s[n]? ≠ some 47) : mdR s = noMed := by
  unfold mdR; rw [hn, if_pos h]
theorem mdR_at (s : List UInt8) (n : Nat) (hn : runL isSg s = n) (h0 : n ≠ 0) (h : s[n]? = some 47) : mdR s = mdK s (s.drop (n + 1)) n := by
  unfold mdR; rw [hn, if_neg (by rintro (e | e); exact h0 e; exact e h)]
theorem mdK_bad (s rest : List UInt8) (n k : Nat) (ps : List Par) (m e : Nat) (hk : runL isSg rest = k) (hr : parR (rest.drop k) = (ps, m, e)) (h : k = 0 ∨ e ≠ 0 ∨ k + m ≠ rest.length) : mdK s rest n = noMed := by
  unfold mdK; rw [hk, hr, if_pos h]
theorem mdK_ok (s rest : List UInt8) (n k : Nat) (ps : List Par) (m e : Nat) (hk : runL isSg rest = k) (hr : parR (rest.drop k) = (ps, m, e)) (h0 : k ≠ 0) (he : e = 0) (hm : k + m = rest.length) : mdK s rest n = (lowL (s.take n), lowL (rest.take k), ps.map lowP, true) := by
  unfold mdK
  rw [hk, hr, if_neg (by rintro (e1 | e1 | e1); exact h0 e1; exact e1 he; exact e1 hm)]
def allVal (ps : List Par) : Bool := ps.all fun p => p.2.2
/-- What a text says, and an error's number. -/
def mdP (s : List UInt8) : Med × Nat :=
  if (mdR (trimL s)).2.2.2 = true ∧ allVal (mdR (trimL s)).2.2.1 = true then (mdR (trimL s), 0) else (noMed, 70)
theorem allVal_no (ps : List Par) (i : Nat) (p : Par) (h : ps[i]? = some p) (hp : p.2.2 = false) : allVal ps = false := by
  unfold allVal
  rw [List.all_eq_false]
  exact ⟨p, List.mem_of_getElem? h, by rw [hp]; simp⟩
theorem mdP_ok (s : List UInt8) (r : Med) (h : mdR (trimL s) = r) (h1 : r.2.2.2 = true) (h2 : allVal r.2.2.1 = true) : mdP s = (r, 0) := by
  unfold mdP; rw [h, if_pos ⟨h1, h2⟩]
theorem mdP_bad (s : List UInt8) (r : Med) (h : mdR (trimL s) = r) (h1 : r.2.2.2 = false ∨ allVal r.2.2.1 = false) : mdP s = (noMed, 70) := by
  unfold mdP; rw [h, if_neg]
  rintro ⟨e1, e2⟩
  rcases h1 with e | e
  · rw [e] at e1; cases e1
  · rw [e] at e2; cases e2
end Go.Proofs.YtpdbejeiceodkaaGreatDoor
