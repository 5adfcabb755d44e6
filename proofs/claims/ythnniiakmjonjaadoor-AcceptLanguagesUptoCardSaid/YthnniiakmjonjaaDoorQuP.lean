/- Qualities: plain. No program is named. No conditions. -/
import Derived.Test.YthnniiakmjonjaaDoorOctP
import Derived.Test.YthnniiakmjonjaaDoorKit
import Derived.Lib.IndexLaws
import Derived.Lib.IndexMore
import Derived.Lib.IndexBytes
namespace Go.Proofs.YthnniiakmjonjaaDoor
open Go.RowKit
set_option linter.unusedSimpArgs false
set_option linter.unusedVariables false
set_option maxRecDepth 100000
def qdg (c : UInt8) : Bool := decide (48 ≤ c.toNat ∧ c.toNat ≤ 57)
def decV (l : List UInt8) : Nat := l.foldl (fun n c => n * 10 + (c.toNat - 48)) 0
def pad3 (p : List UInt8) : List UInt8 := p ++ List.replicate (3 - p.length) 48
def one9 (a : UInt8) : Nat := if a = 49 then 1000 else 0
def quP (a : UInt8) (p : List UInt8) : Nat × Nat :=
  if (a = 48 ∨ a = 49) ∧ p.length ≤ 3 ∧ p.all qdg = true ∧ decV (pad3 p) + one9 a ≤ 1000 then (decV (pad3 p) + one9 a, 0) else (0, 71)
/-- What a quality's text says, and an error's number. -/
def quR : List UInt8 → Nat × Nat
  | [] => (0, 71)
  | [a] => quP a []
  | a :: b :: p => if b = 46 then quP a p else (0, 71)
theorem quP_no (a : UInt8) (p : List UInt8) (h : ¬ (a = 48 ∨ a = 49)) : quP a p = (0, 71) := by unfold quP; rw [if_neg (fun e => h e.1)]
theorem quP_long (a : UInt8) (p : List UInt8) (h : 3 < p.length) : quP a p = (0, 71) := by unfold quP; rw [if_neg (fun e => by have := e.2.1; omega)]
theorem quP_dig (a : UInt8) (p : List UInt8) (h : p.all qdg = false) : quP a p = (0, 71) := by unfold quP; rw [if_neg (fun e => by have := e.2.2.1; rw [h] at this; cases this)]
theorem quP_big (a : UInt8) (p : List UInt8) (h : 1000 < decV (pad3 p) + one9 a) : quP a p = (0, 71) := by unfold quP; rw [if_neg (fun e => by have := e.2.2.2; omega)]
theorem quP_yes (a : UInt8) (p : List UInt8) (h : a = 48 ∨ a = 49) (h2 : p.length ≤ 3) (h3 : p.all qdg = true) (h4 : decV (pad3 p) + one9 a ≤ 1000) : quP a p = (decV (pad3 p) + one9 a, 0) := by unfold quP; rw [if_pos ⟨h, h2, h3, h4⟩]
theorem cut46 (l : List UInt8) : Lib.cut l [46] = if 0 ≤ Lib.indexByte l 46 then (l.take (Lib.indexByte l 46).toNat, l.drop ((Lib.indexByte l 46).toNat + 1), true) else (l, [], false) := by
  unfold Lib.cut
  rw [Lib.index_one]
  rfl
theorem qu_if (l : List UInt8) (c : List UInt8 × List UInt8 × Bool) (hc : Lib.cut l [46] = c) (h : quR l = if c.1 = [48] then quP 48 c.2.1 else if c.1 = [49] then quP 49 c.2.1 else (0, 71)) : quR l = if (Lib.cut l [46]).1 = [48] then quP 48 (Lib.cut l [46]).2.1 else if (Lib.cut l [46]).1 = [49] then quP 49 (Lib.cut l [46]).2.1 else (0, 71) := by
  rw [hc]; exact h
theorem cut46_no (l : List UInt8) (h : Lib.indexByte l 46 = -1) : Lib.cut l [46] = (l, [], false) := by rw [cut46, h]; rfl
theorem cut46_at (l : List UInt8) (k : Nat) (h : Lib.indexByte l 46 = (k : Int)) : Lib.cut l [46] = (l.take k, l.drop (k + 1), true) := by rw [cut46, h, if_pos (Int.natCast_nonneg _)]; rfl
theorem qu_one (a : UInt8) (p : List UInt8) : quP a p = if [a] = [48] then quP 48 p else if [a] = [49] then quP 49 p else (0, 71) := by
  by_cases h8 : a = 48
  · subst h8; rw [if_pos rfl]
  · rw [if_neg (by simpa using h8)]
    by_cases h9 : a = 49
    · subst h9; rw [if_pos rfl]
    · rw [if_neg (by simpa using h9), quP_no a p (by simp [h8, h9])]
theorem qu_cut (l : List UInt8) : quR l = if (Lib.cut l [46]).1 = [48] then quP 48 (Lib.cut l [46]).2.1 else if (Lib.cut l [46]).1 = [49] then quP 49 (Lib.cut l [46]).2.1 else (0, 71) := by
  match l with
  | [] => exact qu_if [] ([], [], false) (cut46_no [] rfl) rfl
  | [a] =>
    by_cases ha : a = 46
    · subst ha
      exact qu_if [46] ([], [], true) (cut46_at [46] 0 rfl) rfl
    · have hi : Lib.indexByte [a] 46 = -1 := by simp [Lib.indexByte, ha]
      exact qu_if [a] ([a], [], false) (cut46_no _ hi) (qu_one a [])
  | a :: b :: p =>
    by_cases ha : a = 46
    · have hi : Lib.indexByte (a :: b :: p) 46 = ((0 : Nat) : Int) := by simp [Lib.indexByte, ha]
      refine qu_if _ ([], b :: p, true) (cut46_at _ 0 hi) ?_
      show (if b = 46 then quP a p else (0, 71)) = (0, 71)
      rw [quP_no a p (by rw [ha]; decide)]
      split <;> rfl
    · by_cases hb : b = 46
      · have hi : Lib.indexByte (a :: b :: p) 46 = ((1 : Nat) : Int) := by simp [Lib.indexByte, ha, hb]
        refine qu_if _ ([a], p, true) (cut46_at _ 1 hi) ?_
        show (if b = 46 then quP a p else (0, 71)) = _
        rw [if_pos hb]
        exact qu_one a p
      · have hge := Lib.indexByte_ge p 46
        have hi : Lib.indexByte (a :: b :: p) 46 = if Lib.indexByte p 46 = -1 then -1 else Lib.indexByte p 46 + 2 := by
          have h1 : Lib.indexByte (b :: p) 46 = if Lib.indexByte p 46 = -1 then -1 else Lib.indexByte p 46 + 1 := by
            conv => lhs; unfold Lib.indexByte
            rw [if_neg (by simpa using hb)]
            by_cases hz : Lib.indexByte p 46 = -1 <;> simp [hz]
          conv => lhs; unfold Lib.indexByte
          rw [if_neg (by simpa using ha), h1]
          by_cases hz : Lib.indexByte p 46 = -1
          · simp [hz]
          · rw [if_neg hz, if_neg hz, if_neg (by simp; omega)]; omega
        have hq : quR (a :: b :: p) = (0, 71) := by
          show (if b = 46 then quP a p else (0, 71)) = _
          rw [if_neg hb]
        by_cases hz : Lib.indexByte p 46 = -1
        · rw [if_pos hz] at hi
          exact qu_if _ (a :: b :: p, [], false) (cut46_no _ hi) (by rw [hq, if_neg (by simp), if_neg (by simp)])
        · obtain ⟨k, hk⟩ : ∃ k : Nat, Lib.indexByte p 46 = (k : Int) := ⟨(Lib.indexByte p 46).toNat, by omega⟩
          rw [if_neg hz, hk] at hi
          exact qu_if _ (a :: b :: p.take k, p.drop (k + 1), true) (by rw [cut46_at _ (k + 2) (by rw [hi]; omega)]; rfl) (by rw [hq, if_neg (by simp), if_neg (by simp)])
theorem decV_snoc (l : List UInt8) (c : UInt8) : decV (l ++ [c]) = decV l * 10 + (c.toNat - 48) := by unfold decV; rw [List.foldl_append]; rfl
theorem decV_lt : ∀ (n : Nat) (l : List UInt8), l.length = n → l.all qdg = true → decV l < 10 ^ n
  | 0, l, h, _ => by
    rw [List.length_eq_zero_iff.1 h]
    decide
  | n + 1, l, h, ha => by
    have hne : l ≠ [] := by intro e; rw [e] at h; simp at h
    have hd : l.dropLast ++ [l.getLast hne] = l := List.dropLast_concat_getLast hne
    have hl : l.dropLast.length = n := by rw [List.length_dropLast]; omega
    rw [← hd, List.all_append, Bool.and_eq_true] at ha
    have ih := decV_lt n l.dropLast hl ha.1
    have hc : qdg (l.getLast hne) = true := by simpa using ha.2
    unfold qdg at hc
    rw [decide_eq_true_eq] at hc
    rw [← hd, decV_snoc, Nat.pow_succ]
    omega
theorem pad3_len (p : List UInt8) (h : p.length ≤ 3) : (pad3 p).length = 3 := by unfold pad3; rw [List.length_append, List.length_replicate]; omega
theorem pad3_all (p : List UInt8) : (pad3 p).all qdg = p.all qdg := by
  unfold pad3
  rw [List.all_append]
  have : (List.replicate (3 - p.length) (48 : UInt8)).all qdg = true := by
    rw [List.all_replicate]
    simp [qdg]
  rw [this, Bool.and_true]
def hexT : List UInt8 := [48, 49, 50, 51, 52, 53, 54, 55, 56, 57, 97, 98, 99, 100, 101, 102]
theorem hex_all : ∀ n : Fin 256, (if qdg (UInt8.ofNat n.val) then Lib.indexByte hexT (low (UInt8.ofNat n.val)) = ((n.val - 48 : Nat) : Int) else Lib.indexByte hexT (low (UInt8.ofNat n.val)) < 0 ∨ 10 ≤ Lib.indexByte hexT (low (UInt8.ofNat n.val))) := by decide +kernel
theorem hex_yes (c : UInt8) (h : qdg c = true) : Lib.indexByte hexT (low c) = ((c.toNat - 48 : Nat) : Int) := by
  have := hex_all ⟨c.toNat, c.toBitVec.isLt⟩
  simp only [UInt8.ofNat_toNat, h, if_true] at this
  exact this
theorem hex_no (c : UInt8) (h : qdg c = false) : Lib.indexByte hexT (low c) < 0 ∨ 10 ≤ Lib.indexByte hexT (low c) := by
  have := hex_all ⟨c.toNat, c.toBitVec.isLt⟩
  simp only [UInt8.ofNat_toNat, h] at this
  simpa using this
end Go.Proofs.YthnniiakmjonjaaDoor
