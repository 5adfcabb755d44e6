/- Texts cut, split and turned at a byte: the library's plain functions, by what loops do. No program is named. No conditions. -/
import Derived.Test.YtgkpiakapdgglaaDoorPctP
import Derived.Lib.Replace
import Derived.Lib.ReplaceLaws
import Derived.Lib.Split
import Derived.Lib.CutLaws
import Derived.Lib.IndexBytes
namespace Go.Proofs.YtgkpiakapdgglaaDoor
open Go.RowKit
set_option linter.unusedSimpArgs false
set_option linter.unusedVariables false
/-- Each a as b. -/
def swapL (a b : UInt8) (l : List UInt8) : List UInt8 := l.map fun c => if c = a then b else c
theorem index_nil (c : UInt8) : Lib.index [] [c] = -1 := by rw [Lib.index_one]; rfl
theorem index_hit (c : UInt8) (r : List UInt8) : Lib.index (c :: r) [c] = 0 := by rw [Lib.index_one]; simp [Lib.indexByte]
theorem index_next (c d : UInt8) (r : List UInt8) (h : d ≠ c) : Lib.index (d :: r) [c] = if Lib.index r [c] = -1 then -1 else Lib.index r [c] + 1 := by
  rw [Lib.index_one, Lib.index_one]
  simp only [Lib.indexByte]
  rw [if_neg (by simpa using h)]
  simp
theorem replaceK_swap (a b : UInt8) (l : List UInt8) : Lib.replaceK [a] [b] (Lib.count l [a]) l = swapL a b l := by
  induction l with
  | nil => rw [Lib.count_miss (index_nil a)]; rfl
  | cons d r ih =>
    by_cases hd : d = a
    · subst hd
      rw [Lib.count_cons_eq, Nat.add_comm, Lib.replaceK_hit [d] [b] _ (d :: r) 0 (index_hit d r)]
      simp only [List.take_zero, List.nil_append, List.length_cons, List.length_nil, Nat.zero_add, List.drop_succ_cons, List.drop_zero]
      rw [ih]
      simp [swapL]
    · rw [Lib.count_cons_ne d a r hd]
      have hm : swapL a b (d :: r) = d :: swapL a b r := by simp [swapL, hd]
      rw [hm, ← ih]
      cases hk : Lib.count r [a] with
      | zero => rfl
      | succ k =>
        obtain ⟨i, hi⟩ := Lib.index_of_count (s := r) (old := [a]) (by omega)
        have h2 : Lib.index (d :: r) [a] = ((i + 1 : Nat) : Int) := by rw [index_next a d r hd, hi, if_neg (by omega)]; rfl
        rw [Lib.replaceK_hit [a] [b] k (d :: r) (i + 1) h2, Lib.replaceK_hit [a] [b] k r i hi]
        simp [Nat.add_right_comm]
theorem replaceAll_swap (a b : UInt8) (l : List UInt8) : Lib.replaceAll l [a] [b] = swapL a b l := by
  unfold Lib.replaceAll Lib.replace
  by_cases h : ([a] == [b]) = true
  · have hab : a = b := by simpa using h
    subst hab
    rw [if_pos h]
    unfold swapL
    have e : (fun c : UInt8 => if c = a then a else c) = id := by funext c; by_cases hc : c = a <;> simp [hc]
    rw [e, List.map_id]
  · rw [if_neg h, show Lib.replaceNum l [a] (-1) = Lib.count l [a] from by simp [Lib.replaceNum]]
    exact replaceK_swap a b l
/-- What a loop knows that has found none up to k. -/
theorem index_upto (c : UInt8) (l : List UInt8) (k : Nat) (hk : k ≤ l.length) (h : ∀ j, j < k → l[j]? ≠ some c) : Lib.index l [c] = if Lib.index (l.drop k) [c] = -1 then -1 else Lib.index (l.drop k) [c] + k := by
  induction k generalizing l with
  | zero => by_cases e : Lib.index l [c] = -1 <;> simp [e]
  | succ k ih =>
    match l, hk with
    | d :: r, hk =>
      have hd : d ≠ c := by have := h 0 (by omega); simpa using this
      have := ih r (by simpa using hk) (fun j hj => by have := h (j + 1) (by omega); simpa using this)
      rw [index_next c d r hd, this, List.drop_succ_cons]
      by_cases e : Lib.index (r.drop k) [c] = -1
      · rw [if_pos e, if_pos rfl, if_pos e]
      · have hge : -1 ≤ Lib.index (r.drop k) [c] := by rw [Lib.index_one]; exact Lib.indexByte_ge _ _
        rw [if_neg e, if_neg (by omega), if_neg e]
        omega
theorem index_none (c : UInt8) (l : List UInt8) (h : ∀ j, j < l.length → l[j]? ≠ some c) : Lib.index l [c] = -1 := by
  rw [index_upto c l l.length (Nat.le_refl _) h, List.drop_length, index_nil, if_pos rfl]
theorem index_found (c : UInt8) (l : List UInt8) (k : Nat) (hk : k < l.length) (h : ∀ j, j < k → l[j]? ≠ some c) (hc : l[k]? = some c) : Lib.index l [c] = k := by
  rw [index_upto c l k (by omega) h]
  have e : l.drop k = c :: l.drop (k + 1) := by
    rw [List.drop_eq_getElem_cons hk]
    congr 1
    rw [List.getElem?_eq_getElem hk] at hc
    injection hc
  rw [e, index_hit]
  simp
theorem cut_none (c : UInt8) (l : List UInt8) (h : ∀ j, j < l.length → l[j]? ≠ some c) : Lib.cut l [c] = (l, [], false) := by
  unfold Lib.cut
  rw [index_none c l h, if_neg (by omega)]
theorem cut_found (c : UInt8) (l : List UInt8) (k : Nat) (hk : k < l.length) (h : ∀ j, j < k → l[j]? ≠ some c) (hc : l[k]? = some c) : Lib.cut l [c] = (l.take k, l.drop (k + 1), true) := by
  unfold Lib.cut
  rw [index_found c l k hk h hc, if_pos (by omega)]
  simp
/-- The pieces, by cutting off the first. -/
theorem split_step (c : UInt8) (l : List UInt8) : Lib.split l [c] = if (Lib.cut l [c]).2.2 then (Lib.cut l [c]).1 :: Lib.split (Lib.cut l [c]).2.1 [c] else [l] := by
  have hge : -1 ≤ Lib.index l [c] := by rw [Lib.index_one]; exact Lib.indexByte_ge _ _
  by_cases h : Lib.index l [c] = -1
  · have e : Lib.cut l [c] = (l, [], false) := by unfold Lib.cut; rw [if_neg (by omega)]
    rw [e]
    unfold Lib.split
    rw [Lib.count_miss h]
    rfl
  · obtain ⟨i, hi⟩ : ∃ i : Nat, Lib.index l [c] = i := ⟨(Lib.index l [c]).toNat, by omega⟩
    have e : Lib.cut l [c] = (l.take i, l.drop (i + 1), true) := by unfold Lib.cut; rw [hi, if_pos (by omega)]; simp
    rw [e]
    unfold Lib.split
    rw [Lib.count_hit (by simp) hi, Nat.add_comm, Lib.splitK, if_neg (by simp; omega), hi]
    simp
theorem index_lt (c : UInt8) (l : List UInt8) (h : Lib.index l [c] ≠ -1) : Lib.index l [c] < l.length := by
  induction l with
  | nil => exact absurd (index_nil c) h
  | cons d r ih =>
    by_cases e : d = c
    · subst e; rw [index_hit]; simp
    · rw [index_next c d r e] at h ⊢
      by_cases h2 : Lib.index r [c] = -1
      · rw [if_pos h2] at h; exact absurd rfl h
      · rw [if_neg h2]
        have := ih h2
        simp only [List.length_cons]
        omega
end Go.Proofs.YtgkpiakapdgglaaDoor
