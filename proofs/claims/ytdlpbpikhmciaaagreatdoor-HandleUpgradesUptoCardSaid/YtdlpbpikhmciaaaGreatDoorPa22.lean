/- A text of base 64 read, as a plain machine. No program is named. -/
import Derived.Test.YtdlpbpikhmciaaaGreatDoorPk20
import Derived.Lib.Bytealg
namespace Go.Proofs.YtdlpbpikhmciaaaGreatDoor
open Go.RowKit
set_option linter.unusedSimpArgs false
set_option linter.unusedVariables false
/-- The number of a sign. -/
def sv (c : UInt8) : Option Nat := if Lib.indexByte tbl64 c < 0 then none else some (Lib.indexByte tbl64 c).toNat
theorem sv_all : ∀ n : Fin 256, (match sv (UInt8.ofNat n.val) with | some v => decide (v < 64) && (sg v == UInt8.ofNat n.val) && (Lib.indexByte tbl64 (UInt8.ofNat n.val) == (v : Int)) | none => (Lib.indexByte tbl64 (UInt8.ofNat n.val) == -1)) = true := by decide +kernel
theorem sv_at (c : UInt8) : (match sv c with | some v => decide (v < 64) && (sg v == c) && (Lib.indexByte tbl64 c == (v : Int)) | none => (Lib.indexByte tbl64 c == -1)) = true := by
  have h := sv_all ⟨c.toNat, c.toBitVec.isLt⟩
  rwa [UInt8.ofNat_toNat] at h
theorem sv_lt {c : UInt8} {v : Nat} (h : sv c = some v) : v < 64 := by
  have := sv_at c; rw [h] at this; simp at this; exact this.1.1
theorem sv_sg {c : UInt8} {v : Nat} (h : sv c = some v) : sg v = c := by
  have := sv_at c; rw [h] at this; simp at this; exact this.1.2
theorem sv_idx {c : UInt8} {v : Nat} (h : sv c = some v) : Lib.indexByte tbl64 c = (v : Int) := by
  have := sv_at c; rw [h] at this; simp at this; exact this.2
theorem sv_idx_none {c : UInt8} (h : sv c = none) : Lib.indexByte tbl64 c = -1 := by
  have := sv_at c; rw [h] at this; simpa using this
theorem sg_all : ∀ n : Fin 64, (sv (sg n.val) == some n.val && sg n.val != 61) = true := by decide +kernel
theorem sv_of_sg (v : Nat) (h : v < 64) : sv (sg v) = some v := by
  have := sg_all ⟨v, h⟩; simp at this; exact this.1
theorem sg_ne (v : Nat) (h : v < 64) : sg v ≠ 61 := by
  have := sg_all ⟨v, h⟩; simp at this; exact this.2
theorem sv_61 : sv 61 = none := by decide +kernel
theorem sv_ne {c : UInt8} {v : Nat} (h : sv c = some v) : c ≠ 61 := by intro e; subst e; rw [sv_61] at h; cases h

def b0 (a b : Nat) : UInt8 := UInt8.ofNat (a * 4 + b / 16)
def b1 (b c : Nat) : UInt8 := UInt8.ofNat (b % 16 * 16 + c / 4)
def b2 (c d : Nat) : UInt8 := UInt8.ofNat (c % 4 * 64 + d)
/-- The bytes of a group, from the numbers of its signs. -/
def gb : List Nat → List UInt8
  | [a, b] => [b0 a b]
  | [a, b, c] => [b0 a b, b1 b c]
  | [a, b, c, d] => [b0 a b, b1 b c, b2 c d]
  | _ => []
/-- May a fill stand behind these numbers? -/
def fits : List Nat → Bool
  | [_, b] => b % 16 == 0
  | [_, _, c] => c % 4 == 0
  | _ => false
def fin (acc : List UInt8) (vs : List Nat) (fl place : Nat) : List UInt8 × List Nat × Nat := if place = 3 then (acc ++ gb vs, [], fl) else (acc, vs, fl)
/-- One byte more. -/
def dstep (acc : List UInt8) (vs : List Nat) (fl place : Nat) (c : UInt8) : Option (List UInt8 × List Nat × Nat) :=
  if fl ≠ 0 ∧ place = 0 then none
  else match sv c with
    | some v => if fl = 0 then some (fin acc (vs ++ [v]) 0 place) else none
    | none => if c = 61 ∧ fl = 0 ∧ fits vs = true then some (fin acc vs 1 place) else if c = 61 ∧ fl = 1 ∧ place = 3 then some (fin acc vs 2 place) else none
/-- All the bytes: what comes out, or the place and the error. -/
def dgo (acc : List UInt8) (vs : List Nat) (fl i : Nat) : List UInt8 → List UInt8 × Nat × Nat
  | [] => if i % 4 = 0 then (acc, 0, 0) else ([], i, 30)
  | c :: r => match dstep acc vs fl (i % 4) c with
    | none => ([], i, 30)
    | some (acc', vs', fl') => dgo acc' vs' fl' (i + 1) r
def decR (l : List UInt8) : List UInt8 × Nat × Nat := dgo [] [] 0 0 l
theorem dgo_none {acc : List UInt8} {vs : List Nat} {fl i : Nat} {c : UInt8} {r : List UInt8} (h : dstep acc vs fl (i % 4) c = none) : dgo acc vs fl i (c :: r) = ([], i, 30) := by simp only [dgo, h]
theorem dgo_some {acc acc' : List UInt8} {vs vs' : List Nat} {fl fl' i : Nat} {c : UInt8} {r : List UInt8} (h : dstep acc vs fl (i % 4) c = some (acc', vs', fl')) : dgo acc vs fl i (c :: r) = dgo acc' vs' fl' (i + 1) r := by simp only [dgo, h]
/-- What holds of the machine between two bytes. -/
def DInv (vs : List Nat) (fl place : Nat) : Prop := (∀ v ∈ vs, v < 64) ∧ ((fl = 0 ∧ vs.length = place ∧ place < 4) ∨ (fl = 1 ∧ place = 3 ∧ vs.length = 2) ∨ ((fl = 1 ∨ fl = 2) ∧ place = 0 ∧ vs = []))
theorem dec_or1 (n v : Nat) (hn : n < 262144) (hv : v < 64) : bits .or .i64 ((n : Int) * 64) (v : Int) = ((n * 64 + v : Nat) : Int) := by
  have := i64_join 6 (n * 64) v (by simp) (by simpa using hv) (by omega) (by omega)
  rw [Int.natCast_mul] at this
  exact this
theorem dec_or0 (v : Nat) (hv : v < 64) : bits .or .i64 0 (v : Int) = (v : Int) := i64_or0 v (by omega)
theorem dec_and15 (n : Nat) (hn : n < 16777216) : bits .and .i64 (n : Int) 15 = ((n % 16 : Nat) : Int) := by
  have := i64_and_nat n 15 (by omega) (by omega)
  rw [nat_mask4] at this
  exact this
theorem dec_and3 (n : Nat) (hn : n < 16777216) : bits .and .i64 (n : Int) 3 = ((n % 4 : Nat) : Int) := by
  have := i64_and_nat n 3 (by omega) (by omega)
  rw [nat_mask2] at this
  exact this
theorem dec_u8 (n m : Nat) (h : n % 256 = m % 256) : IntKind.u8.wrap (n : Int) = ((UInt8.ofNat m).toNat : Int) := by
  have e : (UInt8.ofNat m).toNat = m % 256 := UInt8.toNat_ofNat'
  rw [e, IntKind.wrap_u8]; omega
theorem dec_b0 (a b n : Nat) (h : n % 256 = (a * 4 + b / 16) % 256) : IntKind.u8.wrap (n : Int) = ((b0 a b).toNat : Int) := dec_u8 n _ h
theorem dec_b1 (b c n : Nat) (h : n % 256 = (b % 16 * 16 + c / 4) % 256) : IntKind.u8.wrap (n : Int) = ((b1 b c).toNat : Int) := dec_u8 n _ h
theorem dec_b2 (c d n : Nat) (h : n % 256 = (c % 4 * 64 + d) % 256) : IntKind.u8.wrap (n : Int) = ((b2 c d).toNat : Int) := dec_u8 n _ h
theorem dq_40 (a b c v n : Nat) (h : (a * 64 + b) * 64 + c = n) (hc : c < 64) (hv : v < 64) : (n * 64 + v) / 65536 % 256 = (a * 4 + b / 16) % 256 := by omega
theorem dq_41 (a b c v n : Nat) (h : (a * 64 + b) * 64 + c = n) (hc : c < 64) (hv : v < 64) : (n * 64 + v) / 256 % 256 = (b % 16 * 16 + c / 4) % 256 := by omega
theorem dq_42 (a b c v n : Nat) (h : (a * 64 + b) * 64 + c = n) : (n * 64 + v) % 256 = (c % 4 * 64 + v) % 256 := by omega
theorem dq_30 (a b c n : Nat) (h : (a * 64 + b) * 64 + c = n) (hc : c < 64) : n / 1024 % 256 = (a * 4 + b / 16) % 256 := by omega
theorem dq_31 (a b c n : Nat) (h : (a * 64 + b) * 64 + c = n) : n / 4 % 256 = (b % 16 * 16 + c / 4) % 256 := by omega
theorem dq_20 (a b n : Nat) (h : a * 64 + b = n) : n / 16 % 256 = (a * 4 + b / 16) % 256 := by omega
theorem dw_40 (a b c v n m : Nat) (h : (a * 64 + b) * 64 + c = n) (hm : n * 64 + v = m) (hc : c < 64) (hv : v < 64) : IntKind.u8.wrap ((m : Int) / 65536) = ((b0 a b).toNat : Int) := by
  rw [show ((m : Int) / 65536) = ((m / 65536 : Nat) : Int) from by omega]
  subst hm; exact dec_b0 a b _ (dq_40 a b c v n h hc hv)
theorem dw_41 (a b c v n m : Nat) (h : (a * 64 + b) * 64 + c = n) (hm : n * 64 + v = m) (hc : c < 64) (hv : v < 64) : IntKind.u8.wrap ((m : Int) / 256) = ((b1 b c).toNat : Int) := by
  rw [show ((m : Int) / 256) = ((m / 256 : Nat) : Int) from by omega]
  subst hm; exact dec_b1 b c _ (dq_41 a b c v n h hc hv)
theorem dw_42 (a b c v n m : Nat) (h : (a * 64 + b) * 64 + c = n) (hm : n * 64 + v = m) : IntKind.u8.wrap (m : Int) = ((b2 c v).toNat : Int) := by
  subst hm; exact dec_b2 c v _ (dq_42 a b c v n h)
theorem dw_30 (a b c n : Nat) (h : (a * 64 + b) * 64 + c = n) (hc : c < 64) : IntKind.u8.wrap ((n : Int) / 1024) = ((b0 a b).toNat : Int) := by
  rw [show ((n : Int) / 1024) = ((n / 1024 : Nat) : Int) from by omega]
  exact dec_b0 a b _ (dq_30 a b c n h hc)
theorem dw_31 (a b c n : Nat) (h : (a * 64 + b) * 64 + c = n) : IntKind.u8.wrap ((n : Int) / 4) = ((b1 b c).toNat : Int) := by
  rw [show ((n : Int) / 4) = ((n / 4 : Nat) : Int) from by omega]
  exact dec_b1 b c _ (dq_31 a b c n h)
theorem dw_20 (a b n : Nat) (h : a * 64 + b = n) : IntKind.u8.wrap ((n : Int) / 16) = ((b0 a b).toNat : Int) := by
  rw [show ((n : Int) / 16) = ((n / 16 : Nat) : Int) from by omega]
  exact dec_b0 a b _ (dq_20 a b n h)
theorem two_of (l : List Nat) (h : l.length = 2) : ∃ a b, l = [a, b] := by
  match l, h with
  | [a, b], _ => exact ⟨a, b, rfl⟩
theorem four_of (l : List Nat) (h : l.length < 4) : l = [] ∨ (∃ a, l = [a]) ∨ (∃ a b, l = [a, b]) ∨ ∃ a b c, l = [a, b, c] := by
  match l, h with
  | [], _ => exact .inl rfl
  | [a], _ => exact .inr (.inl ⟨a, rfl⟩)
  | [a, b], _ => exact .inr (.inr (.inl ⟨a, b, rfl⟩))
  | [a, b, c], _ => exact .inr (.inr (.inr ⟨a, b, c, rfl⟩))
  | _ :: _ :: _ :: _ :: _, h => simp at h; omega
end Go.Proofs.YtdlpbpikhmciaaaGreatDoor
