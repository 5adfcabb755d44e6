/- Hexadecimal digits read: plain functions. No program is named. -/
import Derived.Test.YtpehogkgiikjmaaBaseP
import Derived.Lib.Bytealg
namespace Go.Proofs.Ytpehogkgiikjmaa
open Go.RowKit
set_option linter.unusedSimpArgs false
set_option linter.unusedVariables false
/-- What a digit says. -/
def dv (c : UInt8) : Option Nat := if 48 ≤ c.toNat ∧ c.toNat ≤ 57 then some (c.toNat - 48) else if 97 ≤ c.toNat ∧ c.toNat ≤ 102 then some (c.toNat - 87) else none
def dvn (c : UInt8) : Nat := (dv c).getD 0
theorem dvn_lt (c : UInt8) : dvn c < 16 := by
  unfold dvn dv
  split
  · simp; omega
  · split
    · simp; omega
    · simp
theorem dv_some (c : UInt8) (h : (dv c).isSome = true) : dv c = some (dvn c) := by
  unfold dvn; cases hd : dv c with
  | none => rw [hd] at h; cases h
  | some v => rfl
theorem idx16_all : ∀ n : Fin 256, Lib.indexByte dig16 (UInt8.ofNat n.val) = (match dv (UInt8.ofNat n.val) with | some v => (v : Int) | none => -1) := by decide +kernel
theorem idx16 (c : UInt8) : Lib.indexByte dig16 c = (match dv c with | some v => (v : Int) | none => -1) := by
  have h := idx16_all ⟨c.toNat, c.toBitVec.isLt⟩
  rwa [UInt8.ofNat_toNat] at h
/-- The bytes of pairs of digits. -/
def unB : List UInt8 → List UInt8
  | a :: b :: r => UInt8.ofNat (dvn a * 16 + dvn b) :: unB r
  | _ => []
theorem unB_even (l : List UInt8) (m : List UInt8) (h : l.length % 2 = 0) : unB (l ++ m) = unB l ++ unB m := by
  induction l using unB.induct with
  | case1 a b r ih =>
    simp only [List.cons_append, unB]
    rw [ih (by simp only [List.length_cons] at h; omega)]
  | case2 l hl =>
    match l, hl, h with
    | [], _, _ => rfl
    | [a], _, h => simp at h
    | a :: b :: r, hl, _ => exact (hl a b r rfl).elim
theorem unB_len (l : List UInt8) : 2 * (unB l).length ≤ l.length := by
  induction l using unB.induct with
  | case1 a b r ih => simp only [unB, List.length_cons]; omega
  | case2 l hl =>
    match l, hl with
    | [], _ => simp [unB]
    | [a], _ => simp [unB]
    | a :: b :: r, hl => exact (hl a b r rfl).elim
theorem unB_odd1 (l : List UInt8) (a : UInt8) (h : l.length % 2 = 0) : unB (l ++ [a]) = unB l := by rw [unB_even l [a] h]; simp [unB]
theorem unB_two (l : List UInt8) (a b : UInt8) (h : l.length % 2 = 0) : unB (l ++ [a] ++ [b]) = unB l ++ [UInt8.ofNat (dvn a * 16 + dvn b)] := by rw [List.append_assoc, unB_even l _ h]; rfl
/-- Is each a digit? -/
def digs (l : List UInt8) : Bool := l.all fun c => (dv c).isSome
theorem digs_snoc (l : List UInt8) (c : UInt8) : digs (l ++ [c]) = (digs l && (dv c).isSome) := by simp [digs]
/-- Where it goes wrong first. -/
def badAt (l : List UInt8) : Option Nat := l.findIdx? fun c => !(dv c).isSome
theorem findIdx_at (l : List UInt8) (k : Nat) (h : k < l.length) (hd : digs (l.take k) = true) (hb : (dv l[k]).isSome = false) : badAt l = some k := by
  induction l generalizing k with
  | nil => simp at h
  | cons c r ih =>
    unfold badAt
    cases k with
    | zero => simp at hb; simp [List.findIdx?_cons, hb]
    | succ k =>
      simp only [List.take_succ_cons, digs, List.all_cons, Bool.and_eq_true] at hd
      have h2 := ih k (by simpa using h) hd.2 (by simpa using hb)
      unfold badAt at h2
      rw [List.findIdx?_cons, h2, hd.1]; rfl
theorem badAt_none (l : List UInt8) (hd : digs l = true) : badAt l = none := by
  unfold badAt; rw [List.findIdx?_eq_none_iff]
  intro c hc
  have := List.all_eq_true.1 hd c hc
  simpa using this
/-- What Unhex answers. -/
def unR (l : List UInt8) : List UInt8 × Nat × Nat :=
  match badAt l with
  | some k => ([], k, 31)
  | none => if l.length % 2 = 1 then ([], l.length, 31) else (unB l, 0, 0)
theorem unR_bad (l : List UInt8) (k : Nat) (h : k < l.length) (hd : digs (l.take k) = true) (hb : (dv l[k]).isSome = false) : unR l = ([], k, 31) := by
  unfold unR; rw [findIdx_at l k h hd hb]
theorem unR_odd (l : List UInt8) (hd : digs l = true) (ho : l.length % 2 = 1) : unR l = ([], l.length, 31) := by
  unfold unR; rw [badAt_none l hd]; simp [ho]
theorem unR_ok (l : List UInt8) (hd : digs l = true) (ho : l.length % 2 = 0) : unR l = (unB l, 0, 0) := by
  unfold unR; rw [badAt_none l hd]; simp [ho]
theorem u_or (h v : Nat) (hh : h < 16) (hv : v < 16) : bits .or .i64 ((h : Int) * 16) (v : Int) = ((h * 16 + v : Nat) : Int) := by
  have := i64_join 4 (h * 16) v (by simp) (by simpa using hv) (by omega) (by omega)
  rw [Int.natCast_mul] at this
  exact this
theorem u_wrap (n : Nat) (h : n < 256) : IntKind.u8.wrap (n : Int) = ((UInt8.ofNat n).toNat : Int) := by
  have e : (UInt8.ofNat n).toNat = n := by rw [UInt8.toNat_ofNat']; exact Nat.mod_eq_of_lt h
  rw [e]; exact IntWalk.u8_in _ (by omega)
end Go.Proofs.Ytpehogkgiikjmaa
