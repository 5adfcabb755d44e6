/- The media type of a name: plain. No program is named. No conditions. -/
import Derived.Test.YtpdbejeiceodkaaGreatDoorAccP
namespace Go.Proofs.YtpdbejeiceodkaaGreatDoor
open Go.RowKit
set_option linter.unusedSimpArgs false
set_option linter.unusedVariables false
set_option maxRecDepth 100000
/-- The place behind the last c; 0: there is none. -/
def lastP (c : UInt8) : List UInt8 → Nat
  | [] => 0
  | d :: r => if lastP c r = 0 then (if d = c then 1 else 0) else lastP c r + 1
theorem lastP_none (c : UInt8) (l : List UInt8) (h : ∀ j : Nat, l[j]? ≠ some c) : lastP c l = 0 := by
  induction l with
  | nil => rfl
  | cons d r ih =>
    have h1 := ih (fun j => by have := h (j + 1); simpa using this)
    have h2 : d ≠ c := by have := h 0; simpa using this
    rw [lastP, h1, if_pos rfl, if_neg h2]
theorem lastP_at (c : UInt8) (l : List UInt8) : ∀ i : Nat, l[i]? = some c → (∀ j : Nat, i < j → l[j]? ≠ some c) → lastP c l = i + 1 := by
  induction l with
  | nil => intro i h; simp at h
  | cons d r ih =>
    intro i h hn
    cases i with
    | zero =>
      obtain rfl : d = c := by simpa using h
      rw [lastP, lastP_none d r (fun j => by have := hn (j + 1) (by omega); simpa using this), if_pos rfl, if_pos rfl]
    | succ i =>
      have h1 := ih i (by simpa using h) (fun j hj => by have := hn (j + 1) (by omega); simpa using this)
      rw [lastP, h1, if_neg (by omega)]
theorem lastP_le (c : UInt8) (l : List UInt8) : lastP c l ≤ l.length := by
  induction l with
  | nil => exact Nat.le_refl _
  | cons d r ih =>
    rw [lastP, List.length_cons]
    split
    · split <;> omega
    · omega
/-- What a loop knows that has gone from a to i and keeps the place behind the last c (at a: none yet). -/
def LstU (c : UInt8) (l : List UInt8) (a f i : Nat) : Prop := (f = a ∧ ∀ j, a ≤ j → j < i → l[j]? ≠ some c) ∨ (a < f ∧ f ≤ i ∧ l[f - 1]? = some c ∧ ∀ j, f ≤ j → j < i → l[j]? ≠ some c)
theorem lstU_start (c : UInt8) (l : List UInt8) (a : Nat) : LstU c l a a a := .inl ⟨rfl, fun j h1 h2 => by omega⟩
theorem LstU.hit {c : UInt8} {l : List UInt8} {a f i : Nat} (h : l[i]? = some c) (ha : a ≤ i) : LstU c l a (i + 1) (i + 1) := .inr ⟨by omega, Nat.le_refl _, by simpa using h, fun j h1 h2 => by omega⟩
theorem LstU.miss {c : UInt8} {l : List UInt8} {a f i : Nat} (h : LstU c l a f i) (hc : l[i]? ≠ some c) : LstU c l a f (i + 1) := by
  rcases h with ⟨e, h⟩ | ⟨h1, h2, h3, h4⟩
  · exact .inl ⟨e, fun j ha hj => by
      by_cases e : j = i
      · subst e; exact hc
      · exact h j ha (by omega)⟩
  · exact .inr ⟨h1, by omega, h3, fun j hf hj => by
      by_cases e : j = i
      · subst e; exact hc
      · exact h4 j hf (by omega)⟩
theorem LstU.fin {c : UInt8} {l : List UInt8} {a f i : Nat} (h : LstU c l a f i) (hi : l.length ≤ i) : lastP c (l.drop a) = f - a := by
  have hno : ∀ j, i ≤ j → l[j]? ≠ some c := fun j hj => by rw [List.getElem?_eq_none (by omega)]; simp
  rcases h with ⟨e, h⟩ | ⟨h1, h2, h3, h4⟩
  · subst e
    rw [lastP_none c _ (fun j => by
      rw [List.getElem?_drop]
      by_cases hj : f + j < i
      · exact h _ (by omega) hj
      · exact hno _ (by omega)), Nat.sub_self]
  · rw [lastP_at c _ (f - 1 - a) (by rw [List.getElem?_drop, show a + (f - 1 - a) = f - 1 by omega]; exact h3) (fun j hj => by
      rw [List.getElem?_drop]
      by_cases hj2 : a + j < i
      · exact h4 _ (by omega) hj2
      · exact hno _ (by omega))]
    omega
def mofNm : List (List UInt8) := [[104, 116, 109, 108], [104, 116, 109], [116, 120, 116], [99, 115, 115], [106, 115], [106, 115, 111, 110], [120, 109, 108], [115, 118, 103], [112, 110, 103], [106, 112, 103], [106, 112, 101, 103], [103, 105, 102], [105, 99, 111], [112, 100, 102], [119, 97, 115, 109], [122, 105, 112]]
def mofTp : List (List UInt8) := [[116, 101, 120, 116, 47, 104, 116, 109, 108, 59, 32, 99, 104, 97, 114, 115, 101, 116, 61, 117, 116, 102, 45, 56], [116, 101, 120, 116, 47, 104, 116, 109, 108, 59, 32, 99, 104, 97, 114, 115, 101, 116, 61, 117, 116, 102, 45, 56], [116, 101, 120, 116, 47, 112, 108, 97, 105, 110, 59, 32, 99, 104, 97, 114, 115, 101, 116, 61, 117, 116, 102, 45, 56], [116, 101, 120, 116, 47, 99, 115, 115], [116, 101, 120, 116, 47, 106, 97, 118, 97, 115, 99, 114, 105, 112, 116], [97, 112, 112, 108, 105, 99, 97, 116, 105, 111, 110, 47, 106, 115, 111, 110], [97, 112, 112, 108, 105, 99, 97, 116, 105, 111, 110, 47, 120, 109, 108], [105, 109, 97, 103, 101, 47, 115, 118, 103, 43, 120, 109, 108], [105, 109, 97, 103, 101, 47, 112, 110, 103], [105, 109, 97, 103, 101, 47, 106, 112, 101, 103], [105, 109, 97, 103, 101, 47, 106, 112, 101, 103], [105, 109, 97, 103, 101, 47, 103, 105, 102], [105, 109, 97, 103, 101, 47, 120, 45, 105, 99, 111, 110], [97, 112, 112, 108, 105, 99, 97, 116, 105, 111, 110, 47, 112, 100, 102], [97, 112, 112, 108, 105, 99, 97, 116, 105, 111, 110, 47, 119, 97, 115, 109], [97, 112, 112, 108, 105, 99, 97, 116, 105, 111, 110, 47, 122, 105, 112]]
def mofO : List UInt8 := [97, 112, 112, 108, 105, 99, 97, 116, 105, 111, 110, 47, 111, 99, 116, 101, 116, 45, 115, 116, 114, 101, 97, 109]
/-- The text of an end. -/
def mofT (x : List UInt8) : List UInt8 := if x = [104, 116, 109, 108] then [116, 101, 120, 116, 47, 104, 116, 109, 108, 59, 32, 99, 104, 97, 114, 115, 101, 116, 61, 117, 116, 102, 45, 56] else if x = [104, 116, 109] then [116, 101, 120, 116, 47, 104, 116, 109, 108, 59, 32, 99, 104, 97, 114, 115, 101, 116, 61, 117, 116, 102, 45, 56] else if x = [116, 120, 116] then [116, 101, 120, 116, 47, 112, 108, 97, 105, 110, 59, 32, 99, 104, 97, 114, 115, 101, 116, 61, 117, 116, 102, 45, 56] else if x = [99, 115, 115] then [116, 101, 120, 116, 47, 99, 115, 115] else if x = [106, 115] then [116, 101, 120, 116, 47, 106, 97, 118, 97, 115, 99, 114, 105, 112, 116] else if x = [106, 115, 111, 110] then [97, 112, 112, 108, 105, 99, 97, 116, 105, 111, 110, 47, 106, 115, 111, 110] else if x = [120, 109, 108] then [97, 112, 112, 108, 105, 99, 97, 116, 105, 111, 110, 47, 120, 109, 108] else if x = [115, 118, 103] then [105, 109, 97, 103, 101, 47, 115, 118, 103, 43, 120, 109, 108] else if x = [112, 110, 103] then [105, 109, 97, 103, 101, 47, 112, 110, 103] else if x = [106, 112, 103] then [105, 109, 97, 103, 101, 47, 106, 112, 101, 103] else if x = [106, 112, 101, 103] then [105, 109, 97, 103, 101, 47, 106, 112, 101, 103] else if x = [103, 105, 102] then [105, 109, 97, 103, 101, 47, 103, 105, 102] else if x = [105, 99, 111] then [105, 109, 97, 103, 101, 47, 120, 45, 105, 99, 111, 110] else if x = [112, 100, 102] then [97, 112, 112, 108, 105, 99, 97, 116, 105, 111, 110, 47, 112, 100, 102] else if x = [119, 97, 115, 109] then [97, 112, 112, 108, 105, 99, 97, 116, 105, 111, 110, 47, 119, 97, 115, 109] else if x = [122, 105, 112] then [97, 112, 112, 108, 105, 99, 97, 116, 105, 111, 110, 47, 122, 105, 112] else mofO
theorem mofT_at (x : List UInt8) (i : Nat) (t : List UInt8) (h : mofNm[i]? = some x) (ht : mofTp[i]? = some t) (hn : ∀ j, j < i → mofNm[j]? ≠ some x) : mofT x = t := by
  have hi : i < 16 := (List.getElem?_eq_some_iff.1 h).1
  rcases i with _ | _ | _ | _ | _ | _ | _ | _ | _ | _ | _ | _ | _ | _ | _ | _ | i
  all_goals first
    | omega
    | (simp only [mofNm, mofTp, List.getElem?_cons_succ, List.getElem?_cons_zero, Option.some.injEq] at h ht
       subst h
       subst ht
       rfl)
theorem mofT_none (x : List UInt8) (h : ∀ j, j < 16 → mofNm[j]? ≠ some x) : mofT x = mofO := by
  unfold mofT
  rw [if_neg (fun e => h 0 (by decide) (by rw [e]; rfl))]
  rw [if_neg (fun e => h 1 (by decide) (by rw [e]; rfl))]
  rw [if_neg (fun e => h 2 (by decide) (by rw [e]; rfl))]
  rw [if_neg (fun e => h 3 (by decide) (by rw [e]; rfl))]
  rw [if_neg (fun e => h 4 (by decide) (by rw [e]; rfl))]
  rw [if_neg (fun e => h 5 (by decide) (by rw [e]; rfl))]
  rw [if_neg (fun e => h 6 (by decide) (by rw [e]; rfl))]
  rw [if_neg (fun e => h 7 (by decide) (by rw [e]; rfl))]
  rw [if_neg (fun e => h 8 (by decide) (by rw [e]; rfl))]
  rw [if_neg (fun e => h 9 (by decide) (by rw [e]; rfl))]
  rw [if_neg (fun e => h 10 (by decide) (by rw [e]; rfl))]
  rw [if_neg (fun e => h 11 (by decide) (by rw [e]; rfl))]
  rw [if_neg (fun e => h 12 (by decide) (by rw [e]; rfl))]
  rw [if_neg (fun e => h 13 (by decide) (by rw [e]; rfl))]
  rw [if_neg (fun e => h 14 (by decide) (by rw [e]; rfl))]
  rw [if_neg (fun e => h 15 (by decide) (by rw [e]; rfl))]
/-- The end, small; nothing: there is none. -/
def mofE (l : List UInt8) : List UInt8 := if lastP 46 (l.drop (lastP 47 l)) = 0 then [] else lowL ((l.drop (lastP 47 l)).drop (lastP 46 (l.drop (lastP 47 l))))
def mofF (l : List UInt8) : List UInt8 := mofT (mofE l)
theorem mofF_none (l : List UInt8) (h : lastP 46 (l.drop (lastP 47 l)) = 0) : mofF l = mofO := by unfold mofF mofE; rw [if_pos h]; rfl
theorem mofF_some (l x : List UInt8) (h : lastP 46 (l.drop (lastP 47 l)) ≠ 0) (hx : lowL ((l.drop (lastP 47 l)).drop (lastP 46 (l.drop (lastP 47 l)))) = x) : mofF l = mofT x := by unfold mofF mofE; rw [if_neg h, hx]
end Go.Proofs.YtpdbejeiceodkaaGreatDoor
