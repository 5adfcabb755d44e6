/- Percent triples read: plain functions on lists of bytes. No program is named. No conditions. -/
import Derived.Test.YtgkpiakapdgglaaDoorKit
namespace Go.Proofs.YtgkpiakapdgglaaDoor
open Go.RowKit
set_option linter.unusedSimpArgs false
set_option linter.unusedVariables false
/-- What a hexadecimal digit says. -/
def hv (c : UInt8) : Option Nat := if 48 ≤ c.toNat ∧ c.toNat ≤ 57 then some (c.toNat - 48) else if 97 ≤ c.toNat ∧ c.toNat ≤ 102 then some (c.toNat - 87) else if 65 ≤ c.toNat ∧ c.toNat ≤ 70 then some (c.toNat - 55) else none
theorem hv_lt (c : UInt8) (n : Nat) (h : hv c = some n) : n < 16 := by
  unfold hv at h
  split at h
  · injection h; omega
  · split at h
    · injection h; omega
    · split at h
      · injection h; omega
      · cases h
/-- The triple that stands in front. -/
def trip : List UInt8 → Option Nat
  | p :: a :: b :: _ => if p = 37 then (match hv a, hv b with | some x, some y => some (x * 16 + y) | _, _ => none) else none
  | _ => none
theorem trip_some (l : List UInt8) (n : Nat) (h : trip l = some n) : ∃ a b r x y, l = 37 :: a :: b :: r ∧ hv a = some x ∧ hv b = some y ∧ n = x * 16 + y := by
  match l, h with
  | p :: a :: b :: r, h =>
    simp only [trip] at h
    by_cases hp : p = 37
    · rw [if_pos hp] at h
      cases ha : hv a with
      | none => rw [ha] at h; cases h
      | some x =>
        cases hb : hv b with
        | none => rw [ha, hb] at h; cases h
        | some y =>
          rw [ha, hb] at h
          injection h with h
          exact ⟨a, b, r, x, y, by rw [hp], ha, hb, h.symm⟩
    · rw [if_neg hp] at h; cases h
theorem trip_lt (l : List UInt8) (n : Nat) (h : trip l = some n) : n < 256 := by
  obtain ⟨a, b, r, x, y, _, ha, hb, rfl⟩ := trip_some l n h
  have := hv_lt a x ha
  have := hv_lt b y hb
  omega
/-- A text decoded: what it says, or the place of the first percent sign that begins no triple. -/
def pd : List UInt8 → List UInt8 → Nat → List UInt8 × Nat × Nat
  | acc, [], _ => (acc, 0, 0)
  | acc, c :: r, i =>
    if c = 37 then
      match r with
      | a :: b :: r' => match trip (c :: a :: b :: r') with | some n => pd (acc ++ [UInt8.ofNat n]) r' (i + 3) | none => ([], i, 51)
      | _ => ([], i, 51)
    else pd (acc ++ [c]) r (i + 1)
def pdec (l : List UInt8) : List UInt8 × Nat × Nat := pd [] l 0
theorem pd_plain (acc : List UInt8) (c : UInt8) (r : List UInt8) (i : Nat) (h : c ≠ 37) : pd acc (c :: r) i = pd (acc ++ [c]) r (i + 1) := by
  rw [pd.eq_def]; simp only; rw [if_neg h]
theorem pd_bad (acc : List UInt8) (r : List UInt8) (i : Nat) (h : trip (37 :: r) = none) : pd acc (37 :: r) i = ([], i, 51) := by
  match r, h with
  | [], _ => rw [pd.eq_def]; simp
  | [a], _ => rw [pd.eq_def]; simp
  | a :: b :: r', h => rw [pd.eq_def]; simp only [if_true]; rw [h]
theorem pd_good (acc : List UInt8) (l : List UInt8) (i n : Nat) (h : trip l = some n) : pd acc l i = pd (acc ++ [UInt8.ofNat n]) (l.drop 3) (i + 3) ∧ 3 ≤ l.length := by
  obtain ⟨a, b, r, x, y, rfl, _⟩ := trip_some l n h
  constructor
  · rw [pd.eq_def]; simp only [if_true]; rw [h]; rfl
  · simp
theorem ofNat_cells (n : Nat) (h : n < 256) : Lib.byteCells [UInt8.ofNat n] = [Value.int .u8 (n : Int)] := by
  simp [Lib.byteCells]
  omega
end Go.Proofs.YtgkpiakapdgglaaDoor
