/- Words' qualities, codings: plain. No program is named. No conditions. -/
import Derived.Test.YthnniiakmjonjaaDoorAccP
import Derived.Test.YthnniiakmjonjaaDoorQuP
namespace Go.Proofs.YthnniiakmjonjaaDoor
open Go.RowKit
set_option linter.unusedSimpArgs false
set_option linter.unusedVariables false
set_option maxRecDepth 100000
/-! The quality of the first word that is a name. -/
def wIs (n : List UInt8) (w : Wgt) : Bool := sameL w.1 n
def namP (n : List UInt8) : List Wgt → Option Int
  | [] => none
  | w :: r => if wIs n w = true then some w.2 else namP n r
theorem namP_at (n : List UInt8) (l : List Wgt) : ∀ (i : Nat) (w : Wgt), l[i]? = some w → (l.take i).any (wIs n) = false → wIs n w = true → namP n l = some w.2 := by
  induction l with
  | nil => intro i w h; simp at h
  | cons q r ih =>
    intro i w h ha hw
    cases i with
    | zero => obtain rfl : q = w := (by simpa using h); rw [namP, if_pos hw]
    | succ i =>
      rw [List.take_succ_cons, List.any_cons, Bool.or_eq_false_iff] at ha
      rw [namP, if_neg (by rw [ha.1]; simp)]
      exact ih i w (by simpa using h) ha.2 hw
theorem namP_end (n : List UInt8) (l : List Wgt) (ha : l.any (wIs n) = false) : namP n l = none := by
  induction l with
  | nil => rfl
  | cons q r ih =>
    rw [List.any_cons, Bool.or_eq_false_iff] at ha
    rw [namP, if_neg (by rw [ha.1]; simp)]
    exact ih ha.2
theorem low_star (c : UInt8) : low c = 42 ↔ c = 42 := by
  unfold low
  constructor
  · intro h
    split at h
    · rename_i hc
      have := congrArg UInt8.toNat h
      simp at this
      omega
    · exact h
  · rintro rfl
    rfl
theorem sameL_star (a : List UInt8) : sameL a [42] = decide (a = [42]) := by
  unfold sameL
  rw [Bool.eq_iff_iff]
  simp only [decide_eq_true_eq]
  rw [show lowL [42] = [42] from rfl]
  constructor
  · intro h
    match a, h with
    | [], h => cases h
    | [c], h =>
      have : low c = 42 := by injection h
      rw [(low_star c).1 this]
    | c :: d :: r, h => simp [lowL] at h
  · rintro rfl
    rfl
def ideL : List UInt8 := [105, 100, 101, 110, 116, 105, 116, 121]
/-- How a coding is liked. -/
def codP (l : List Wgt) (n : List UInt8) : Int := match namP n l with
  | some q => q
  | none => match namP [42] l with
    | some q => q
    | none => if sameL n ideL = true then 1 else 0
theorem codP_name (l : List Wgt) (n : List UInt8) (q : Int) (h : namP n l = some q) : codP l n = q := by unfold codP; rw [h]
theorem codP_star (l : List Wgt) (n : List UInt8) (q : Int) (h : namP n l = none) (h2 : namP [42] l = some q) : codP l n = q := by unfold codP; rw [h, h2]
theorem codP_none (l : List Wgt) (n : List UInt8) (h : namP n l = none) (h2 : namP [42] l = none) : codP l n = if sameL n ideL = true then 1 else 0 := by unfold codP; rw [h, h2]
def codG (l : List Wgt) (g : Bool) (n : List UInt8) : Int := if g = true then codP l n else 1000
/-- What is said of the place of a text. -/
def txAt (f : List UInt8 → Int) (o : List (List UInt8)) (i : Nat) : Int := match o[i]? with
  | some m => f m
  | none => 0
theorem txAt_get (f : List UInt8 → Int) (o : List (List UInt8)) (i : Nat) (m : List UInt8) (h : o[i]? = some m) : txAt f o i = f m := by unfold txAt; rw [h]
def chTx (f : List UInt8 → Int) (o : List (List UInt8)) : Int := (fstS (txAt f o) o.length).1
/-! What stands ahead of the first q, and its quality. -/
def isQ (p : Par) : Bool := sameL p.1 [113]
def wtP : List Par → List Par × Nat × Nat
  | [] => ([], 1000, 0)
  | p :: r => if isQ p = true then ([], quR p.2.1) else (p :: (wtP r).1, (wtP r).2)
theorem wtP_at (l : List Par) : ∀ (i : Nat) (p : Par), l[i]? = some p → (l.take i).any isQ = false → isQ p = true → wtP l = (l.take i, quR p.2.1) := by
  induction l with
  | nil => intro i p h; simp at h
  | cons q r ih =>
    intro i p h ha hp
    cases i with
    | zero => obtain rfl : q = p := (by simpa using h); rw [wtP, if_pos hp]; rfl
    | succ i =>
      rw [List.take_succ_cons, List.any_cons, Bool.or_eq_false_iff] at ha
      rw [wtP, if_neg (by rw [ha.1]; simp), ih i p (by simpa using h) ha.2 hp]
      rfl
theorem wtP_end (l : List Par) (ha : l.any isQ = false) : wtP l = (l, 1000, 0) := by
  induction l with
  | nil => rfl
  | cons q r ih =>
    rw [List.any_cons, Bool.or_eq_false_iff] at ha
    rw [wtP, if_neg (by rw [ha.1]; simp), ih ha.2]
/-- A parameter without '=' has no value. -/
def noV (l : List Par) : Prop := ∀ p ∈ l, p.2.2 = false → p.2.1 = []
end Go.Proofs.YthnniiakmjonjaaDoor
