/- Meeting, liking and choosing: plain. No program is named. No conditions. -/
import Derived.Test.YtpdbejeiceodkaaGreatDoorParM
import Derived.Test.YtpdbejeiceodkaaGreatDoorOctP
namespace Go.Proofs.YtpdbejeiceodkaaGreatDoor
open Go.RowKit
set_option linter.unusedSimpArgs false
set_option linter.unusedVariables false
set_option maxRecDepth 100000
/-- A media type: type, subtype, parameters. -/
structure Mdm where
  ty : List UInt8
  sub : List UInt8
  ps : List Par
abbrev Rng := Mdm × Int
abbrev Wgt := List UInt8 × Int
def sameL (a b : List UInt8) : Bool := decide (lowL a = lowL b)
theorem sameL_comm (a b : List UInt8) : sameL a b = sameL b a := by unfold sameL; rw [Bool.eq_iff_iff]; simp only [decide_eq_true_eq]; exact eq_comm
def sameP (x p : Par) : Bool := sameL x.1 p.1 && decide (x.2.1 = p.2.1)
def hasP (l : List Par) (p : Par) : Bool := l.any fun x => sameP x p
def tyOk (a b : List UInt8) : Bool := decide (a = [42]) || sameL a b
def meetsP (r m : Mdm) : Bool := tyOk r.ty m.ty && (tyOk r.sub m.sub && r.ps.all (hasP m.ps))
theorem any_no {α : Type} (f : α → Bool) (l : List α) (h : ∀ (i : Nat) (p : α), l[i]? = some p → f p = false) : l.any f = false := by
  rw [List.any_eq_false]; intro p hp; obtain ⟨j, hj⟩ := List.getElem?_of_mem hp; rw [h j p hj]; simp
theorem any_yes {α : Type} (f : α → Bool) (l : List α) (i : Nat) (p : α) (h : l[i]? = some p) (hp : f p = true) : l.any f = true := by
  rw [List.any_eq_true]; exact ⟨p, List.mem_of_getElem? h, hp⟩
theorem all_no {α : Type} (f : α → Bool) (l : List α) (i : Nat) (p : α) (h : l[i]? = some p) (hp : f p = false) : l.all f = false := by
  rw [List.all_eq_false]; exact ⟨p, List.mem_of_getElem? h, by rw [hp]; simp⟩
theorem take_any {α : Type} (f : α → Bool) (l : List α) (i : Nat) (p : α) (h : l[i]? = some p) : (l.take (i + 1)).any f = ((l.take i).any f || f p) := by rw [List.take_add_one, h, Option.toList_some, List.any_append, List.any_cons, List.any_nil, Bool.or_false]
theorem meets_ty (r m : Mdm) (h : tyOk r.ty m.ty = false) : meetsP r m = false := by unfold meetsP; rw [h]; rfl
theorem meets_sub (r m : Mdm) (h : tyOk r.sub m.sub = false) : meetsP r m = false := by unfold meetsP; rw [h]; cases tyOk r.ty m.ty <;> rfl
theorem meets_ps (r m : Mdm) (i : Nat) (p : Par) (hi : r.ps[i]? = some p) (h : hasP m.ps p = false) : meetsP r m = false := by unfold meetsP; rw [all_no _ _ i p hi h]; cases tyOk r.ty m.ty <;> cases tyOk r.sub m.sub <;> rfl
theorem meets_yes (r m : Mdm) (h1 : tyOk r.ty m.ty = true) (h2 : tyOk r.sub m.sub = true) (h3 : r.ps.all (hasP m.ps) = true) : meetsP r m = true := by unfold meetsP; rw [h1, h2, h3]; rfl
/-- How narrow a range is: one number. -/
def nar (r : Mdm) : Int := (r.ps.length : Int) + (if r.sub = [42] then 0 else 2000000000000) + (if r.ty = [42] then 0 else 1000000000000)
def likStep (m : Mdm) (s : Int × Int) (r : Rng) : Int × Int := if meetsP r.1 m && decide (s.1 < nar r.1) then (nar r.1, r.2) else s
def likS (m : Mdm) (l : List Rng) (k : Nat) : Int × Int := (l.take k).foldl (likStep m) (-1, 0)
def likeP (l : List Rng) (m : Mdm) : Int := if l = [] then 1000 else (likS m l l.length).2
theorem likS_zero (m : Mdm) (l : List Rng) : likS m l 0 = (-1, 0) := rfl
theorem likS_succ (m : Mdm) (l : List Rng) (i : Nat) (r : Rng) (h : l[i]? = some r) : likS m l (i + 1) = likStep m (likS m l i) r := by
  unfold likS; rw [List.take_add_one, h, Option.toList_some, List.foldl_append]; rfl
theorem likStep_no (m : Mdm) (s : Int × Int) (r : Rng) (h : meetsP r.1 m = false) : likStep m s r = s := by unfold likStep; rw [h]; rfl
theorem likStep_low (m : Mdm) (s : Int × Int) (r : Rng) (h : nar r.1 ≤ s.1) : likStep m s r = s := by unfold likStep; rw [decide_eq_false (by omega), Bool.and_false]; rfl
theorem likStep_yes (m : Mdm) (s : Int × Int) (r : Rng) (h : meetsP r.1 m = true) (h2 : s.1 < nar r.1) : likStep m s r = (nar r.1, r.2) := by unfold likStep; rw [h, decide_eq_true h2]; rfl
/-- The place of the greatest above 0: after k of them. -/
def fstS (f : Nat → Int) : Nat → Int × Int
  | 0 => (-1, 0)
  | k + 1 => if (fstS f k).2 < f k then ((k : Int), f k) else fstS f k
theorem fstS_up (f : Nat → Int) (k : Nat) (h : (fstS f k).2 < f k) : fstS f (k + 1) = ((k : Int), f k) := by show (if _ then _ else _) = _; rw [if_pos h]
theorem fstS_stay (f : Nat → Int) (k : Nat) (h : f k ≤ (fstS f k).2) : fstS f (k + 1) = fstS f k := by show (if _ then _ else _) = _; rw [if_neg (by omega)]
theorem fstS_congr (f g : Nat → Int) (n : Nat) (h : ∀ i, i < n → f i = g i) : fstS f n = fstS g n := by
  induction n with
  | zero => rfl
  | succ n ih =>
    have := ih (fun i hi => h i (by omega))
    show (if _ then _ else _) = (if _ then _ else _)
    rw [this, h n (by omega)]
theorem fstS_bd (f : Nat → Int) (n : Nat) : -1 ≤ (fstS f n).1 ∧ (fstS f n).1 < n ∧ 0 ≤ (fstS f n).2 := by
  induction n with
  | zero => exact ⟨by show (-1 : Int) ≤ -1; omega, by show (-1 : Int) < 0; omega, by show (0 : Int) ≤ 0; omega⟩
  | succ n ih =>
    by_cases h : (fstS f n).2 < f n
    · rw [fstS_up f n h]
      exact ⟨by show (-1 : Int) ≤ (n : Int); omega, by show (n : Int) < ((n + 1 : Nat) : Int); omega, by show 0 ≤ f n; omega⟩
    · rw [fstS_stay f n (by omega)]
      exact ⟨ih.1, by have := ih.2.1; omega, ih.2.2⟩
/-- What a list of ranges says of the place of an offer. -/
def likAt (l : List Rng) (o : List Mdm) (i : Nat) : Int := match o[i]? with
  | some m => likeP l m
  | none => 0
theorem likAt_get (l : List Rng) (o : List Mdm) (i : Nat) (m : Mdm) (h : o[i]? = some m) : likAt l o i = likeP l m := by unfold likAt; rw [h]
def chooseP (l : List Rng) (o : List Mdm) : Int := (fstS (likAt l o) o.length).1
/-! Sizes. -/
def totF {α : Type} (f : α → Nat) : List α → Nat
  | [] => 0
  | p :: r => f p + totF f r
theorem totF_append {α : Type} (f : α → Nat) (a b : List α) : totF f (a ++ b) = totF f a + totF f b := by
  induction a with
  | nil => simp [totF]
  | cons p r ih => simp only [List.cons_append, totF, ih]; omega
theorem totF_get {α : Type} (f : α → Nat) (l : List α) (i : Nat) (p : α) (h : l[i]? = some p) : f p ≤ totF f l := by
  induction l generalizing i with
  | nil => simp at h
  | cons q r ih =>
    cases i with
    | zero => obtain rfl : q = p := (by simpa using h); simp only [totF]; omega
    | succ i => have := ih i (by simpa using h); simp only [totF]; omega
def parLen (p : Par) : Nat := p.1.length + p.2.1.length
theorem totF_par (l : List Par) : totF parLen l = totP l := by induction l with | nil => rfl | cons p r ih => simp only [totF, totP, ih, parLen]
def mdmLen (m : Mdm) : Nat := m.ty.length + m.sub.length + totP m.ps + m.ps.length
def rngLen (r : Rng) : Nat := mdmLen r.1
def wgtLen (r : Wgt) : Nat := r.1.length
theorem mdm_bd (m : Mdm) (h : mdmLen m ≤ 1073741824) : m.ty.length ≤ 1099511627776 ∧ m.sub.length ≤ 1099511627776 ∧ m.ps.length ≤ 1073741824 ∧ ∀ (i : Nat) (p : Par), m.ps[i]? = some p → p.1.length ≤ 1099511627776 ∧ p.2.1.length ≤ 1099511627776 := by
  unfold mdmLen at h
  refine ⟨by omega, by omega, by omega, fun i p hp => ?_⟩
  have := totP_get m.ps i p hp
  omega
theorem rng_bd (l : List Rng) (h : totF rngLen l + l.length ≤ 1073741824) (i : Nat) (r : Rng) (hr : l[i]? = some r) : mdmLen r.1 ≤ 1073741824 := by
  have h2 : mdmLen r.1 ≤ totF rngLen l := totF_get rngLen l i r hr
  omega
theorem meds_bd (l : List Mdm) (h : totF mdmLen l + l.length ≤ 1073741824) (i : Nat) (r : Mdm) (hr : l[i]? = some r) : mdmLen r ≤ 1073741824 := by
  have := totF_get mdmLen l i r hr
  omega
theorem beq_dec (a b : List UInt8) : (a == b) = decide (a = b) := by by_cases h : a = b <;> simp [h]
/-- What the first greatest above 0 is. -/
theorem fstS_best (f : Nat → Int) (n : Nat) : ((fstS f n).1 = -1 ∧ (fstS f n).2 = 0 ∧ ∀ i, i < n → f i ≤ 0) ∨ ∃ a : Nat, (fstS f n).1 = a ∧ a < n ∧ (fstS f n).2 = f a ∧ 0 < f a ∧ ∀ i, i < n → f i ≤ f a ∧ (i < a → f i < f a) := by
  induction n with
  | zero => exact Or.inl ⟨rfl, rfl, fun i hi => absurd hi (Nat.not_lt_zero _)⟩
  | succ n ih =>
    by_cases h : (fstS f n).2 < f n
    · rw [fstS_up f n h]
      refine Or.inr ⟨n, rfl, Nat.lt_succ_self _, rfl, by have := (fstS_bd f n).2.2; omega, fun i hi => ?_⟩
      have hb : i < n → f i < f n := fun hi => by
        rcases ih with ⟨_, h2, h3⟩ | ⟨a, _, _, h2, _, h3⟩
        · have := h3 i hi; omega
        · have := (h3 i hi).1; omega
      rcases Nat.lt_succ_iff_lt_or_eq.1 hi with h1 | h1
      · have := hb h1; exact ⟨by omega, fun _ => this⟩
      · subst h1; exact ⟨Int.le_refl _, fun h => absurd h (Nat.lt_irrefl _)⟩
    · rw [fstS_stay f n (by omega)]
      rcases ih with ⟨h1, h2, h3⟩ | ⟨a, h1, h0, h2, hp, h3⟩
      · refine Or.inl ⟨h1, h2, fun i hi => ?_⟩
        rcases Nat.lt_succ_iff_lt_or_eq.1 hi with h4 | h4
        · exact h3 i h4
        · subst h4; omega
      · refine Or.inr ⟨a, h1, by omega, h2, hp, fun i hi => ?_⟩
        rcases Nat.lt_succ_iff_lt_or_eq.1 hi with h4 | h4
        · exact h3 i h4
        · subst h4; exact ⟨by omega, fun h => by omega⟩
end Go.Proofs.YtpdbejeiceodkaaGreatDoor
