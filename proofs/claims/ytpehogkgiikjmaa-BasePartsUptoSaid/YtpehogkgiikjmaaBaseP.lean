/- Base 64, hexadecimal digits, as plain functions on lists of bytes. No program is named. -/
import Derived.Test.YtpehogkgiikjmaaKit
namespace Go.Proofs.Ytpehogkgiikjmaa
open Go.RowKit
set_option linter.unusedSimpArgs false
set_option linter.unusedVariables false

def tbl64 : List UInt8 := [65, 66, 67, 68, 69, 70, 71, 72, 73, 74, 75, 76, 77, 78, 79, 80, 81, 82, 83, 84, 85, 86, 87, 88, 89, 90, 97, 98, 99, 100, 101, 102, 103, 104, 105, 106, 107, 108, 109, 110, 111, 112, 113, 114, 115, 116, 117, 118, 119, 120, 121, 122, 48, 49, 50, 51, 52, 53, 54, 55, 56, 57, 43, 47]
def sg (n : Nat) : UInt8 := tbl64.getD n 0
def grp (a b c : Nat) : Nat := a * 65536 + b * 256 + c
/-- The text of base 64. -/
def enc : List UInt8 → List UInt8
  | a :: b :: c :: r => sg (grp a.toNat b.toNat c.toNat / 262144) :: sg (grp a.toNat b.toNat c.toNat / 4096 % 64) :: sg (grp a.toNat b.toNat c.toNat / 64 % 64) :: sg (grp a.toNat b.toNat c.toNat % 64) :: enc r
  | [a, b] => [sg (grp a.toNat b.toNat 0 / 262144), sg (grp a.toNat b.toNat 0 / 4096 % 64), sg (grp a.toNat b.toNat 0 / 64 % 64), 61]
  | [a] => [sg (grp a.toNat 0 0 / 262144), sg (grp a.toNat 0 0 / 4096 % 64), 61, 61]
  | [] => []

def dig16 : List UInt8 := [48, 49, 50, 51, 52, 53, 54, 55, 56, 57, 97, 98, 99, 100, 101, 102]
def hx (n : Nat) : UInt8 := dig16.getD n 0
def hexL : List UInt8 → List UInt8
  | [] => []
  | c :: r => hx (c.toNat / 16) :: hx (c.toNat % 16) :: hexL r

theorem w64_byte (c : UInt8) : wrap64 (c.toNat : Int) = (c.toNat : Int) := by
  have h : c.toNat < 256 := c.toBitVec.isLt
  exact IntWalk.wrap64_in _ (by omega)
theorem w64_byte' (c : UInt8) (a : Nat) (h : c.toNat = a) : wrap64 (c.toNat : Int) = (a : Int) := by rw [w64_byte, h]
theorem byte_lt' (c : UInt8) (a : Nat) (h : c.toNat = a) : a < 256 := by rw [← h]; exact c.toBitVec.isLt
theorem e_o0 (a : Nat) (la : a < 256) : bits .or .i64 0 (a : Int) = (a : Int) := i64_or0 a (by omega)
theorem e_o1 (a b : Nat) (la : a < 256) (lb : b < 256) : bits .or .i64 ((a : Int) * 256) (b : Int) = (a : Int) * 256 + (b : Int) := by
  have h := i64_join 8 (a * 256) b (by simp) (by simpa using lb) (by omega) (by omega)
  rw [Int.natCast_mul, Int.natCast_add, Int.natCast_mul] at h
  exact h
theorem e_o2 (a b c : Nat) (la : a < 256) (lb : b < 256) (lc : c < 256) : bits .or .i64 (((a : Int) * 256 + (b : Int)) * 256) (c : Int) = ((grp a b c : Nat) : Int) := by
  have h := i64_join 8 ((a * 256 + b) * 256) c (by simp) (by simpa using lc) (by omega) (by omega)
  have e : (a * 256 + b) * 256 + c = grp a b c := by unfold grp; omega
  have e2 : (((a * 256 + b) * 256 : Nat) : Int) = ((a : Int) * 256 + (b : Int)) * 256 := by omega
  rw [e, e2] at h
  exact h
theorem grp_lt (a b c : Nat) (la : a < 256) (lb : b < 256) (lc : c < 256) : grp a b c < 16777216 := by unfold grp; omega
theorem e_s (n k : Nat) (h : n < 16777216) : bits .and .i64 ((n : Int) / (k : Int)) 63 = ((n / k % 64 : Nat) : Int) := by
  have h1 : n / k ≤ n := Nat.div_le_self _ _
  have h2 := i64_mask6 (n / k) (by omega)
  rw [Int.natCast_ediv] at h2
  exact h2
theorem e_s0 (n : Nat) (h : n < 16777216) : bits .and .i64 ((n : Int) / 262144) 63 = ((n / 262144 : Nat) : Int) := by
  have h1 := e_s n 262144 h
  rw [Nat.mod_eq_of_lt (by omega)] at h1
  exact h1
theorem e_s3 (n : Nat) (h : n < 16777216) : bits .and .i64 (n : Int) 63 = ((n % 64 : Nat) : Int) := i64_mask6 _ (by omega)
theorem enc_3 (t : ByteArray) (h : 3 ≤ t.size) : enc t.data.toList = [sg (grp (t[0]'(by omega)).toNat (t[1]'(by omega)).toNat (t[2]'(by omega)).toNat / 262144), sg (grp (t[0]'(by omega)).toNat (t[1]'(by omega)).toNat (t[2]'(by omega)).toNat / 4096 % 64), sg (grp (t[0]'(by omega)).toNat (t[1]'(by omega)).toNat (t[2]'(by omega)).toNat / 64 % 64), sg (grp (t[0]'(by omega)).toNat (t[1]'(by omega)).toNat (t[2]'(by omega)).toNat % 64)] ++ enc (t.data.toList.drop 3) := by
  have e := drop_get t 0 (by omega)
  rw [drop_get t 1 (by omega), drop_get t 2 (by omega), List.drop_zero] at e
  rw [e]; rfl
theorem enc_2 (t : ByteArray) (h : t.size = 2) : enc t.data.toList = [sg (grp (t[0]'(by omega)).toNat (t[1]'(by omega)).toNat 0 / 262144), sg (grp (t[0]'(by omega)).toNat (t[1]'(by omega)).toNat 0 / 4096 % 64), sg (grp (t[0]'(by omega)).toNat (t[1]'(by omega)).toNat 0 / 64 % 64), 61] := by
  have e := drop_get t 0 (by omega)
  rw [drop_get t 1 (by omega), List.drop_zero, List.drop_of_length_le (by rw [size_list]; omega)] at e
  rw [e]; rfl
theorem enc_1 (t : ByteArray) (h : t.size = 1) : enc t.data.toList = [sg (grp (t[0]'(by omega)).toNat 0 0 / 262144), sg (grp (t[0]'(by omega)).toNat 0 0 / 4096 % 64), 61, 61] := by
  have e := drop_get t 0 (by omega)
  rw [List.drop_zero, List.drop_of_length_le (by rw [size_list]; omega)] at e
  rw [e]; rfl
theorem list_nil_of (t : ByteArray) (h : t.size = 0) : t.data.toList = [] := List.eq_nil_of_length_eq_zero (by rw [size_list]; exact h)
theorem nonempty_of (t : ByteArray) (h : 0 < t.size) : (!t.toList.isEmpty) = true := by
  rw [ByteArray.toList_eq, List.isEmpty_eq_false_iff.2 (fun e => by have := size_list t; rw [e] at this; simp at this; omega)]; rfl
theorem empty_of (t : ByteArray) (h : t.size = 0) : (!t.toList.isEmpty) = false := by
  rw [ByteArray.toList_eq, list_nil_of t h]; rfl
theorem e_p2 (a b : Nat) : ((a : Int) * 256 + (b : Int)) * 256 = ((grp a b 0 : Nat) : Int) := by
  have e : (a * 256 + b) * 256 = grp a b 0 := by unfold grp; omega
  rw [← e]; omega
theorem e_p1 (a : Nat) : (a : Int) * 256 * 256 = ((grp a 0 0 : Nat) : Int) := by
  have e : a * 256 * 256 = grp a 0 0 := by unfold grp; omega
  rw [← e]; omega
theorem ext_size (t : ByteArray) (k : Nat) : (t.extract k t.size).size = t.size - k := by
  rw [← size_list, Lib.extract_to_end, List.length_drop, size_list]
theorem ext_list (t : ByteArray) (k : Nat) : (t.extract k t.size).data.toList = t.data.toList.drop k := Lib.extract_to_end t k
theorem list_drop_all (t : ByteArray) (k : Nat) (h : t.size ≤ k) : t.data.toList.drop k = [] := List.drop_of_length_le (by rw [size_list]; exact h)
theorem drop_get' (s : ByteArray) (k : Nat) (h : k < s.size) : s.data.toList.drop k = (s[k]'h) :: s.data.toList.drop (k + 1) := drop_get s k h
theorem enc_d3 (s : ByteArray) (k : Nat) (p0 : k < s.size) (p1 : k + 1 < s.size) (p2 : k + 2 < s.size) : enc (s.data.toList.drop k) = [sg (grp (s[k]'p0).toNat (s[k + 1]'p1).toNat (s[k + 2]'p2).toNat / 262144), sg (grp (s[k]'p0).toNat (s[k + 1]'p1).toNat (s[k + 2]'p2).toNat / 4096 % 64), sg (grp (s[k]'p0).toNat (s[k + 1]'p1).toNat (s[k + 2]'p2).toNat / 64 % 64), sg (grp (s[k]'p0).toNat (s[k + 1]'p1).toNat (s[k + 2]'p2).toNat % 64)] ++ enc (s.data.toList.drop (k + 3)) := by
  rw [drop_get s k p0, drop_get s (k + 1) p1, drop_get s (k + 2) p2]; rfl
theorem enc_d2 (s : ByteArray) (k : Nat) (p0 : k < s.size) (p1 : k + 1 < s.size) (p2 : k + 2 = s.size) : enc (s.data.toList.drop k) = [sg (grp (s[k]'p0).toNat (s[k + 1]'p1).toNat 0 / 262144), sg (grp (s[k]'p0).toNat (s[k + 1]'p1).toNat 0 / 4096 % 64), sg (grp (s[k]'p0).toNat (s[k + 1]'p1).toNat 0 / 64 % 64), 61] ++ enc (s.data.toList.drop (k + 3)) := by
  rw [drop_get s k p0, drop_get s (k + 1) p1, list_drop_all s (k + 1 + 1) (by omega), list_drop_all s (k + 3) (by omega)]; rfl
theorem enc_d1 (s : ByteArray) (k : Nat) (p0 : k < s.size) (p2 : k + 1 = s.size) : enc (s.data.toList.drop k) = [sg (grp (s[k]'p0).toNat 0 0 / 262144), sg (grp (s[k]'p0).toNat 0 0 / 4096 % 64), 61, 61] ++ enc (s.data.toList.drop (k + 3)) := by
  rw [drop_get s k p0, list_drop_all s (k + 1) (by omega), list_drop_all s (k + 3) (by omega)]; rfl
theorem e_g3 (a b c : Nat) : (a : Int) * 65536 + (b : Int) * 256 + (c : Int) = ((grp a b c : Nat) : Int) := by unfold grp; omega
theorem e_g2 (a b : Nat) : (a : Int) * 65536 + (b : Int) * 256 = ((grp a b 0 : Nat) : Int) := by unfold grp; omega
theorem e_g1 (a : Nat) : (a : Int) * 65536 = ((grp a 0 0 : Nat) : Int) := by unfold grp; omega
theorem sgb (q : Nat) (h : q < 64) : (⟨#[65, 66, 67, 68, 69, 70, 71, 72, 73, 74, 75, 76, 77, 78, 79, 80, 81, 82, 83, 84, 85, 86, 87, 88, 89, 90, 97, 98, 99, 100, 101, 102, 103, 104, 105, 106, 107, 108, 109, 110, 111, 112, 113, 114, 115, 116, 117, 118, 119, 120, 121, 122, 48, 49, 50, 51, 52, 53, 54, 55, 56, 57, 43, 47]⟩ : ByteArray)[q]'h = sg q := by
  have : ∀ q : Fin 64, (⟨#[65, 66, 67, 68, 69, 70, 71, 72, 73, 74, 75, 76, 77, 78, 79, 80, 81, 82, 83, 84, 85, 86, 87, 88, 89, 90, 97, 98, 99, 100, 101, 102, 103, 104, 105, 106, 107, 108, 109, 110, 111, 112, 113, 114, 115, 116, 117, 118, 119, 120, 121, 122, 48, 49, 50, 51, 52, 53, 54, 55, 56, 57, 43, 47]⟩ : ByteArray)[q.val]'q.isLt = sg q.val := by decide +kernel
  exact this ⟨q, h⟩
theorem hexL_len (l : List UInt8) : (hexL l).length = 2 * l.length := by
  induction l with
  | nil => rfl
  | cons c r ih => simp only [hexL, List.length_cons, ih]; omega
theorem hexL_append (a b : List UInt8) : hexL (a ++ b) = hexL a ++ hexL b := by
  induction a with
  | nil => rfl
  | cons c r ih => simp only [hexL, List.cons_append, ih]
theorem hx_and (c : UInt8) : bits .and .u8 (c.toNat : Int) 15 = ((c.toNat % 16 : Nat) : Int) := by
  have h := u8_and_nat c.toNat 15 c.toBitVec.isLt (by omega)
  rw [nat_mask4] at h
  exact h
theorem u8_div16' (c : UInt8) (q : Nat) (h : c.toNat / 16 = q) : IntKind.u8.wrap ((c.toNat : Int) / 16) = (q : Int) := by
  have h1 : c.toNat < 256 := c.toBitVec.isLt
  rw [IntWalk.u8_in _ (by omega), ← h]; omega
theorem u8_mod16'' (c : UInt8) (q : Nat) (h : c.toNat % 16 = q) : IntKind.u8.wrap ((c.toNat : Int) % 16) = (q : Int) := by
  rw [IntWalk.u8_in _ (by omega), ← h]; omega
theorem u8_div16 (c : UInt8) (q : Nat) (h : c.toNat / 16 = q) : IntKind.u8.wrap ((c.toNat : Int).tdiv 16) = (q : Int) := by
  have h1 : c.toNat < 256 := c.toBitVec.isLt
  rw [IntWalk.u8_quo _ _ (by omega), ← h]; omega
theorem u8_mod16 (c : UInt8) (q : Nat) (h : c.toNat % 16 = q) : IntKind.u8.wrap ((c.toNat : Int).tmod 16) = (q : Int) := by
  have h1 : c.toNat < 256 := c.toBitVec.isLt
  rw [Int.tmod_eq_emod_of_nonneg (by omega), IntWalk.u8_in _ (by omega), ← h]; omega
theorem u8_mod16' (c : UInt8) (q : Nat) (h : c.toNat % 16 = q) : (c.toNat : Int).tmod 16 = (q : Int) := by
  rw [Int.tmod_eq_emod_of_nonneg (by omega), ← h]; omega
theorem take_hex (s : ByteArray) (k : Nat) (h : k < s.size) (qa qb : Nat) (ha : Hid ((s[k]'h).toNat / 16 = qa)) (hb : Hid ((s[k]'h).toNat % 16 = qb)) : hexL (s.data.toList.take (k + 1)) = hexL (s.data.toList.take k) ++ [hx qa, hx qb] := by
  rw [take_get s k h, hexL_append, ← ha.out, ← hb.out]; rfl
theorem hxb (q : Nat) (h : q < 16) : (⟨#[48, 49, 50, 51, 52, 53, 54, 55, 56, 57, 97, 98, 99, 100, 101, 102]⟩ : ByteArray)[q]'h = hx q := by
  have : ∀ q : Fin 16, (⟨#[48, 49, 50, 51, 52, 53, 54, 55, 56, 57, 97, 98, 99, 100, 101, 102]⟩ : ByteArray)[q.val]'q.isLt = hx q.val := by decide +kernel
  exact this ⟨q, h⟩
end Go.Proofs.Ytpehogkgiikjmaa
