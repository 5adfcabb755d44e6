/- The walk of sheet.PrintPairs: the plain function prnP. Conditions: at most 2^32 letters and pairs. -/
import Derived.Test.YtgkpiakapdgglaaDoorParIn
import Derived.Test.YtgkpiakapdgglaaDoorPlain
import Derived.Lib.Join
namespace Go.Proofs.YtgkpiakapdgglaaDoor
open Go.RowKit
set_option linter.unusedSimpArgs false
set_option linter.unusedVariables false
set_option maxRecDepth 1000000
theorem plain_l (l : List UInt8) (w : World) (hs : l.length ≤ 4294967296) :
    Calls Tryd.prog 32 #[.string ⟨l.toArray⟩] w fun e w' => e = .returned (.string ⟨(codL l).toArray⟩) ∧ Below w.heap.size w w' :=
  plain_any ⟨l.toArray⟩ w (by rw [← size_list]; exact Nat.le_trans hs (by decide))
theorem coded_l (l : List UInt8) (w : World) (hs : l.length ≤ 4294967296) :
    Calls Tryd.prog 34 #[.string ⟨l.toArray⟩] w fun e w' => e = .returned (.string ⟨(codL l).toArray⟩) ∧ Below w.heap.size w w' :=
  coded_any ⟨l.toArray⟩ w (by rw [← size_list]; exact Nat.le_trans hs (by decide))
theorem emp_l (l : List UInt8) (h : l = []) : (⟨l.toArray⟩ : ByteArray).toList.isEmpty = true := by rw [ByteArray.toList_eq, h]; rfl
theorem full_l (l : List UInt8) (h : l ≠ []) : (⟨l.toArray⟩ : ByteArray).toList.isEmpty = false := by
  rw [ByteArray.toList_eq]
  cases l with
  | nil => exact absurd rfl h
  | cons => rfl
theorem size_l (l : List UInt8) : (⟨l.toArray⟩ : ByteArray).size = l.length := by rw [← size_list]
theorem pieceOf_len (p : Par) : (pieceOf p).length ≤ 3 * (p.1.length + p.2.1.length) + 1 := by
  have h1 := codL_len p.1
  have h2 := codL_len p.2.1
  unfold pieceOf
  rw [List.length_append]
  split <;> simp <;> omega
theorem joinP_len (l : List Par) : (joinP (l.map pieceOf)).length ≤ 3 * totP l + 2 * l.length := by
  match l with
  | [] => simp [joinP]
  | [p] => simp only [List.map_cons, List.map_nil, joinP, totP, List.length_cons, List.length_nil]; have := pieceOf_len p; omega
  | p :: q :: r =>
    have ih := joinP_len (q :: r)
    have := pieceOf_len p
    simp only [List.map_cons, joinP, totP, List.length_append, List.length_cons] at ih ⊢
    omega
theorem join_eq (l : List (List UInt8)) : Lib.join l [38] = joinP l := by
  match l with
  | [] => rfl
  | [p] => exact Lib.join_one p [38]
  | p :: q :: r =>
    have ih := join_eq (q :: r)
    rw [joinP, ← ih]
    simp [Lib.join, List.intercalate, List.intersperse]
end Go.Proofs.YtgkpiakapdgglaaDoor
