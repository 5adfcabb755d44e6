/- The sum of 64 bits as a plain function; that one byte else gives another sum. No program is named. -/
import Derived.Test.YtpehogkgiikjmaaKit
namespace Go.Proofs.Ytpehogkgiikjmaa
open Go.RowKit
set_option linter.unusedSimpArgs false
set_option linter.unusedVariables false
def fnvM : Nat := 18446744073709551616
def fnvP : Nat := 1099511628211
def fnvS (h c : Nat) : Nat := (h ^^^ c) * fnvP % fnvM
def fnvF (h : Nat) (l : List UInt8) : Nat := l.foldl (fun h c => fnvS h c.toNat) h
def fnv0 : Nat := 14695981039346656037
def fnv (l : List UInt8) : Nat := fnvF fnv0 l
theorem fnvF_snoc (h : Nat) (l : List UInt8) (c : UInt8) : fnvF h (l ++ [c]) = fnvS (fnvF h l) c.toNat := by
  unfold fnvF; rw [List.foldl_append, List.foldl_cons, List.foldl_nil]
theorem fnvF_append (h : Nat) (a b : List UInt8) : fnvF h (a ++ b) = fnvF (fnvF h a) b := by
  unfold fnvF; rw [List.foldl_append]
theorem fnvS_lt (h c : Nat) : fnvS h c < fnvM := Nat.mod_lt _ (by decide)
theorem fnvF_lt (h : Nat) (hh : h < fnvM) (l : List UInt8) : fnvF h l < fnvM := by
  induction l generalizing h with
  | nil => exact hh
  | cons c r ih => exact ih (fnvS h c.toNat) (fnvS_lt _ _)
theorem fnv_lt (l : List UInt8) : fnv l < fnvM := fnvF_lt _ (by decide) l
theorem fnv_lt' (l : List UInt8) : fnv l < 18446744073709551616 := fnv_lt l
def fnvQ : Nat := 14886173955864302971
theorem fnv_pq : fnvP * fnvQ % fnvM = 1 := by decide +kernel
theorem fnv_mul_back (a : Nat) (h : a < fnvM) : a * fnvP % fnvM * fnvQ % fnvM = a := by
  rw [Nat.mod_mul_mod, Nat.mul_assoc, ← Nat.mul_mod_mod, fnv_pq, Nat.mul_one]
  exact Nat.mod_eq_of_lt h
theorem fnv_mul_inj (a b : Nat) (ha : a < fnvM) (hb : b < fnvM) (h : a * fnvP % fnvM = b * fnvP % fnvM) : a = b := by
  rw [← fnv_mul_back a ha, h, fnv_mul_back b hb]
theorem xor_lt_M (h c : Nat) (hh : h < fnvM) (hc : c < 256) : h ^^^ c < fnvM := by
  have e : fnvM = 2 ^ 64 := by decide
  rw [e] at hh ⊢
  exact Nat.xor_lt_two_pow hh (Nat.lt_of_lt_of_le hc (by decide))
theorem xor_right_inj (h c d : Nat) (e : h ^^^ c = h ^^^ d) : c = d := by
  have := congrArg (fun x => h ^^^ x) e
  simpa [← Nat.xor_assoc] using this
theorem xor_left_inj (a b c : Nat) (e : a ^^^ c = b ^^^ c) : a = b := by
  have := congrArg (fun x => x ^^^ c) e
  simpa [Nat.xor_assoc] using this
theorem fnvS_inj_c (h c d : Nat) (hh : h < fnvM) (hc : c < 256) (hd : d < 256) (e : fnvS h c = fnvS h d) : c = d :=
  xor_right_inj h c d (fnv_mul_inj _ _ (xor_lt_M h c hh hc) (xor_lt_M h d hh hd) e)
theorem fnvS_inj_h (a b c : Nat) (ha : a < fnvM) (hb : b < fnvM) (hc : c < 256) (e : fnvS a c = fnvS b c) : a = b :=
  xor_left_inj a b c (fnv_mul_inj _ _ (xor_lt_M a c ha hc) (xor_lt_M b c hb hc) e)
theorem fnvF_inj (l : List UInt8) : ∀ (a b : Nat), a < fnvM → b < fnvM → fnvF a l = fnvF b l → a = b := by
  induction l with
  | nil => intro a b _ _ h; exact h
  | cons c r ih =>
    intro a b ha hb h
    exact fnvS_inj_h a b c.toNat ha hb c.toBitVec.isLt (ih _ _ (fnvS_lt _ _) (fnvS_lt _ _) h)
/-- One byte else: another sum. -/
theorem fnv_turn (l : List UInt8) (k : Nat) (h : k < l.length) (d : UInt8) (hne : l[k] ≠ d) : fnv l ≠ fnv (l.set k d) := by
  intro e
  have h1 : l = l.take k ++ l[k] :: l.drop (k + 1) := by rw [← List.drop_eq_getElem_cons h, List.take_append_drop]
  have h2 : l.set k d = l.take k ++ d :: l.drop (k + 1) := by rw [List.set_eq_take_append_cons_drop, if_pos h]
  rw [h2] at e
  conv at e => lhs; rw [h1]
  unfold fnv at e
  rw [fnvF_append, fnvF_append] at e
  have e2 := fnvF_inj (l.drop (k + 1)) _ _ (fnvS_lt _ _) (fnvS_lt _ _) e
  have e3 := fnvS_inj_c _ _ _ (fnvF_lt _ (by decide) _) (l[k]).toBitVec.isLt d.toBitVec.isLt e2
  exact hne (UInt8.toNat_inj.1 e3)
/-- The walk's own words for a step. -/
theorem fnv_step1 (h : Nat) (hh : h < 18446744073709551616) (c : UInt8) : bits .xor .u64 (h : Int) (c.toNat : Int) = ((h ^^^ c.toNat : Nat) : Int) :=
  u64_xor_nat h c.toNat hh (Nat.lt_of_lt_of_le c.toBitVec.isLt (by decide))
theorem fnv_step2 (h c : Nat) : IntKind.u64.wrap (((h ^^^ c : Nat) : Int) * 1099511628211) = ((fnvS h c : Nat) : Int) := by
  rw [IntKind.wrap_u64]
  have : (((h ^^^ c : Nat) : Int) * 1099511628211) = (((h ^^^ c) * fnvP : Nat) : Int) := by rw [Int.natCast_mul]; rfl
  rw [this]; rfl
end Go.Proofs.Ytpehogkgiikjmaa
