/- The steps over parameters, by places in the text. No program is named. No conditions. -/
import Derived.Test.YtpdbejeiceodkaaGreatDoorOctP
namespace Go.Proofs.YtpdbejeiceodkaaGreatDoor
open Go.RowKit
set_option linter.unusedSimpArgs false
set_option linter.unusedVariables false
/-- What Params answers: the parameters, the bytes, the fault. -/
def parR (l : List UInt8) : List Par × Nat × Nat := match parP l with
  | some (ps, k) => (ps, k, 0)
  | none => ([], 0, 15)
def ParR (L : List UInt8) (e : Nat) (done : List Par) : Prop := e ≤ L.length ∧ done.length ≤ e ∧ (parP (L.drop e)).map (fun x => (done ++ x.1, e + x.2)) = parP L
theorem ParR.start (L : List UInt8) : ParR L 0 [] := by
  refine ⟨Nat.zero_le _, Nat.le_refl _, ?_⟩
  rw [List.drop_zero]
  cases parP L with
  | none => rfl
  | some x => simp
theorem ParR.stop {L : List UInt8} {e : Nat} {done : List Par} (h : ParR L e done) (hs : parStep (L.drop e) = none) : parR L = (done, e, 0) := by
  have := h.2.2
  rw [parP_stop _ hs] at this
  unfold parR
  rw [← this]
  simp
theorem ParR.fault {L : List UInt8} {e : Nat} {done : List Par} (h : ParR L e done) (hs : parStep (L.drop e) = some none) : parR L = ([], 0, 15) := by
  have := h.2.2
  rw [parP_fault _ hs] at this
  unfold parR
  rw [← this]
  rfl
theorem ParR.step {L : List UInt8} {e : Nat} {done : List Par} {q : Option Par} {k : Nat} (h : ParR L e done) (hs : parStep (L.drop e) = some (some (q, k))) : ParR L (e + k) (done ++ q.toList) := by
  have hu := parStep_used _ q k hs
  rw [List.length_drop] at hu
  refine ⟨by have := h.1; omega, ?_, ?_⟩
  · rw [List.length_append]
    have := h.2.1
    cases q <;> simp <;> omega
  · rw [← h.2.2, parP_step _ q k hs, List.drop_drop]
    cases parP (L.drop (e + k)) with
    | none => rfl
    | some x => simp; omega
theorem step_none (L : List UInt8) (e a : Nat) (ha : e + runL isBl (L.drop e) = a) (h : L[a]? ≠ some 59) : parStep (L.drop e) = none := by
  unfold parStep
  rw [if_neg]
  rw [List.getElem?_drop, ha]; exact h
theorem step_blank (L : List UInt8) (e a e1 b at2 : Nat) (ha : e + runL isBl (L.drop e) = a) (h : L[a]? = some 59) (he1 : a + 1 = e1) (hb : runL isBl (L.drop e1) = b) (hat : e1 + b = at2) (hn : runL isSg (L.drop at2) = 0) :
    ∃ k, parStep (L.drop e) = some (some (none, k)) ∧ e + k = e1 := by
  refine ⟨runL isBl (L.drop e) + 1, ?_, by omega⟩
  unfold parStep
  rw [if_pos (by rw [List.getElem?_drop, ha]; exact h)]
  simp only [List.drop_drop]
  rw [show e + (runL isBl (L.drop e) + 1) = e1 from by omega, hb, hat, hn, if_pos rfl]
theorem step_bare (L : List UInt8) (e a e1 b at2 n e2 : Nat) (ha : e + runL isBl (L.drop e) = a) (h : L[a]? = some 59) (he1 : a + 1 = e1) (hb : runL isBl (L.drop e1) = b) (hat : e1 + b = at2) (hn : runL isSg (L.drop at2) = n) (h0 : n ≠ 0) (he2 : at2 + n = e2) (hq : L[e2]? ≠ some 61) :
    ∃ k, parStep (L.drop e) = some (some (some ((L.drop at2).take n, [], false), k)) ∧ e + k = e2 := by
  refine ⟨runL isBl (L.drop e) + 1 + (b + n), ?_, by omega⟩
  unfold parStep
  rw [if_pos (by rw [List.getElem?_drop, ha]; exact h)]
  simp only [List.drop_drop]
  rw [show e + (runL isBl (L.drop e) + 1) = e1 from by omega, hb, hat, hn, if_neg h0, if_neg]
  rw [List.getElem?_drop, show e1 + (b + n) + 0 = e2 from by omega]; exact hq
theorem step_value (L : List UInt8) (e a e1 b at2 n e2 e3 : Nat) (ha : e + runL isBl (L.drop e) = a) (h : L[a]? = some 59) (he1 : a + 1 = e1) (hb : runL isBl (L.drop e1) = b) (hat : e1 + b = at2) (hn : runL isSg (L.drop at2) = n) (h0 : n ≠ 0) (he2 : at2 + n = e2) (hq : L[e2]? = some 61) (he3 : e2 + 1 = e3) (v : List UInt8) (k : Nat) (hv : valP (L.drop e3) = some (v, k)) :
    ∃ j, parStep (L.drop e) = some (some (some ((L.drop at2).take n, v, true), j)) ∧ e + j = e3 + k := by
  refine ⟨runL isBl (L.drop e) + 1 + (b + n + 1) + k, ?_, by omega⟩
  unfold parStep
  rw [if_pos (by rw [List.getElem?_drop, ha]; exact h)]
  simp only [List.drop_drop]
  rw [show e + (runL isBl (L.drop e) + 1) = e1 from by omega, hb, hat, hn, if_neg h0, if_pos (by rw [List.getElem?_drop, show e1 + (b + n) + 0 = e2 from by omega]; exact hq)]
  rw [show e1 + (b + n + 1) = e3 from by omega, hv]
theorem step_fault (L : List UInt8) (e a e1 b at2 n e2 e3 : Nat) (ha : e + runL isBl (L.drop e) = a) (h : L[a]? = some 59) (he1 : a + 1 = e1) (hb : runL isBl (L.drop e1) = b) (hat : e1 + b = at2) (hn : runL isSg (L.drop at2) = n) (h0 : n ≠ 0) (he2 : at2 + n = e2) (hq : L[e2]? = some 61) (he3 : e2 + 1 = e3) (hv : valP (L.drop e3) = none) :
    parStep (L.drop e) = some none := by
  unfold parStep
  rw [if_pos (by rw [List.getElem?_drop, ha]; exact h)]
  simp only [List.drop_drop]
  rw [show e + (runL isBl (L.drop e) + 1) = e1 from by omega, hb, hat, hn, if_neg h0, if_pos (by rw [List.getElem?_drop, show e1 + (b + n) + 0 = e2 from by omega]; exact hq)]
  rw [show e1 + (b + n + 1) = e3 from by omega, hv]
end Go.Proofs.YtpdbejeiceodkaaGreatDoor
