/- OctP, QuP, PctP, SplP: texts of the seat, one behind the other (a claim holds at most sixty). Conditions: each theorem names its own. -/
import Derived.Test.YtdlpbpikhmciaaaGreatDoorPk00
import Derived.Lib.IndexLaws
import Derived.Lib.IndexMore
import Derived.Lib.IndexBytes
import Derived.Lib.Replace
import Derived.Lib.ReplaceLaws
import Derived.Lib.Split
import Derived.Lib.CutLaws
namespace Go.Proofs.YtdlpbpikhmciaaaGreatDoor
open Go.RowKit
set_option linter.unusedSimpArgs false
set_option linter.unusedVariables false
/-- The signs of tokens. -/
def isSg (c : UInt8) : Bool := (48 ≤ c.toNat && c.toNat ≤ 57) || (65 ≤ c.toNat && c.toNat ≤ 90) || (97 ≤ c.toNat && c.toNat ≤ 122) || [33, 35, 36, 37, 38, 39, 42, 43, 45, 46, 94, 95, 96, 124, 126].contains c
def isFb (c : UInt8) : Bool := c.toNat == 9 || (32 ≤ c.toNat && c.toNat != 127)
def isBl (c : UInt8) : Bool := c.toNat == 32 || c.toNat == 9
def low (c : UInt8) : UInt8 := if 65 ≤ c.toNat ∧ c.toNat ≤ 90 then UInt8.ofNat (c.toNat + 32) else c
def lowL (l : List UInt8) : List UInt8 := l.map low
def isTok (l : List UInt8) : Bool := !l.isEmpty && l.all isSg
def isFld (l : List UInt8) : Bool := l.all isFb
def trimL (l : List UInt8) : List UInt8 := ((l.dropWhile isBl).reverse.dropWhile isBl).reverse
/-- The quoted text behind its first mark: what it says, and how many bytes it has from there on. -/
def unqT : List UInt8 → Option (List UInt8 × Nat)
  | [] => none
  | c :: r =>
    if c = 34 then some ([], 1)
    else if c = 92 then
      match r with
      | [] => none
      | d :: r' => if isFb d then (unqT r').map fun x => (d :: x.1, x.2 + 2) else none
    else if isFb c then (unqT r).map fun x => (c :: x.1, x.2 + 1) else none
def unq : List UInt8 → Option (List UInt8 × Nat)
  | [] => none
  | c :: r => if c = 34 then (unqT r).map fun x => (x.1, x.2 + 1) else none
/-- How many bytes from the front on may stand. -/
def runL (p : UInt8 → Bool) (l : List UInt8) : Nat := (l.takeWhile p).length
theorem runL_le (p : UInt8 → Bool) (l : List UInt8) : runL p l ≤ l.length := by
  unfold runL
  induction l with
  | nil => simp
  | cons c r ih => rw [List.takeWhile_cons]; split <;> simp; omega
theorem runL_nil (p : UInt8 → Bool) : runL p [] = 0 := rfl
theorem runL_cons (p : UInt8 → Bool) (c : UInt8) (r : List UInt8) : runL p (c :: r) = if p c then runL p r + 1 else 0 := by
  unfold runL; rw [List.takeWhile_cons]; split <;> simp
theorem runL_more (p : UInt8 → Bool) : ∀ (l : List UInt8) (n : Nat) (c : UInt8), n ≤ runL p l → l[n]? = some c → p c = true → n + 1 ≤ runL p l
  | [], n, c, _, h, _ => by simp at h
  | d :: r, 0, c, _, h, hp => by
    obtain rfl : d = c := by simpa using h
    rw [runL_cons, if_pos hp]; omega
  | d :: r, n + 1, c, hn, h, hp => by
    rw [runL_cons] at hn ⊢
    split at hn
    · have := runL_more p r n c (by omega) (by simpa using h) hp
      rw [if_pos (by assumption)]; omega
    · omega
theorem runL_stop (p : UInt8 → Bool) : ∀ (l : List UInt8) (n : Nat) (c : UInt8), n ≤ runL p l → l[n]? = some c → p c = false → n = runL p l
  | [], n, c, _, h, _ => by simp at h
  | d :: r, 0, c, _, h, hp => by
    obtain rfl : d = c := by simpa using h
    rw [runL_cons, hp]; rfl
  | d :: r, n + 1, c, hn, h, hp => by
    rw [runL_cons] at hn ⊢
    split at hn
    · have := runL_stop p r n c (by omega) (by simpa using h) hp
      rw [if_pos (by assumption)]; omega
    · omega
theorem runL_end (p : UInt8 → Bool) (l : List UInt8) (n : Nat) (h : n ≤ runL p l) (h2 : l.length ≤ n) : n = runL p l := by
  have := runL_le p l; omega
theorem isTok_none : isTok [] = false := rfl
theorem all_take (p : UInt8 → Bool) (l : List UInt8) (k : Nat) (c : UInt8) (h : l[k]? = some c) (ha : (l.take k).all p = true) (hp : p c = true) : (l.take (k + 1)).all p = true := by
  rw [List.take_add_one, h]
  simp only [Option.toList_some, List.all_append, ha, List.all_cons, hp, List.all_nil, Bool.and_self]
theorem all_not (p : UInt8 → Bool) (l : List UInt8) (k : Nat) (c : UInt8) (h : l[k]? = some c) (hp : p c = false) : l.all p = false := by
  rw [List.all_eq_false]
  exact ⟨c, List.mem_of_getElem? h, by rw [hp]; simp⟩
theorem isTok_runL (l : List UInt8) : isTok l = (decide (0 < l.length) && decide (runL isSg l = l.length)) := by
  unfold isTok
  cases l with
  | nil => rfl
  | cons c r =>
    simp only [List.isEmpty_cons, Bool.not_false, Bool.true_and, List.length_cons, Nat.zero_lt_succ, decide_true]
    suffices h : ∀ l : List UInt8, l.all isSg = decide (runL isSg l = l.length) from h (c :: r)
    intro l
    induction l with
    | nil => rfl
    | cons d t ih =>
      rw [runL_cons, List.all_cons, ih]
      by_cases h : isSg d = true
      · rw [h, if_pos rfl]; simp
      · have h' : isSg d = false := by simpa using h
        rw [h']; simp
/-- The value at the front: a token or a quoted text. -/
def valP (l : List UInt8) : Option (List UInt8 × Nat) := if runL isSg l = 0 then unq l else some (l.take (runL isSg l), runL isSg l)
/-- One step over parameters: none: nothing is taken; else a fault, or perhaps a parameter, and how many bytes. -/
def parStep (l : List UInt8) : Option (Option (Option Par × Nat)) :=
  if l[runL isBl l]? = some 59 then
    let r := l.drop (runL isBl l + 1)
    let b := runL isBl r
    let n := runL isSg (r.drop b)
    if n = 0 then some (some (none, runL isBl l + 1))
    else if (r.drop (b + n))[0]? = some 61 then
      match valP (r.drop (b + n + 1)) with
      | none => some none
      | some (v, k) => some (some (some ((r.drop b).take n, v, true), runL isBl l + 1 + (b + n + 1) + k))
    else some (some (some ((r.drop b).take n, [], false), runL isBl l + 1 + (b + n)))
  else none
def parF : Nat → List UInt8 → Option (List Par × Nat)
  | 0, _ => some ([], 0)
  | f + 1, l =>
    match parStep l with
    | none => some ([], 0)
    | some none => none
    | some (some (q, k)) => (parF f (l.drop k)).map fun x => (q.toList ++ x.1, k + x.2)
/-- Parameters at the front, and how many bytes they have. -/
def parP (l : List UInt8) : Option (List Par × Nat) := parF (l.length + 1) l
theorem unqT_used (n : Nat) : ∀ (l x : List UInt8) (k : Nat), l.length ≤ n → unqT l = some (x, k) → 0 < k ∧ k ≤ l.length ∧ x.length ≤ k := by
  induction n with
  | zero =>
    intro l x k hl h
    obtain rfl : l = [] := List.eq_nil_of_length_eq_zero (by omega)
    simp [unqT] at h
  | succ n ih =>
    intro l x k hl h
    cases l with
    | nil => simp [unqT] at h
    | cons c r =>
      simp only [List.length_cons] at hl ⊢
      rw [unqT.eq_def] at h
      simp only at h
      by_cases h1 : c = 34
      · rw [if_pos h1] at h
        injection h with h; injection h with h2 h3
        subst h2; subst h3; simp
      · rw [if_neg h1] at h
        by_cases h2 : c = 92
        · rw [if_pos h2] at h
          cases r with
          | nil => simp at h
          | cons d r' =>
            simp only at h
            simp only [List.length_cons] at hl ⊢
            by_cases h3 : isFb d = true
            · rw [if_pos h3] at h
              obtain ⟨⟨y, m⟩, hy, he⟩ := Option.map_eq_some_iff.1 h
              injection he with e1 e2
              subst e1; subst e2
              have := ih r' y m (by omega) hy
              simp only [List.length_cons]; omega
            · rw [if_neg h3] at h; simp at h
        · rw [if_neg h2] at h
          by_cases h3 : isFb c = true
          · rw [if_pos h3] at h
            obtain ⟨⟨y, m⟩, hy, he⟩ := Option.map_eq_some_iff.1 h
            injection he with e1 e2
            subst e1; subst e2
            have := ih r y m (by omega) hy
            simp only [List.length_cons]; omega
          · rw [if_neg h3] at h; simp at h
theorem unq_used (l x : List UInt8) (k : Nat) (h : unq l = some (x, k)) : 0 < k ∧ k ≤ l.length ∧ x.length ≤ k := by
  cases l with
  | nil => simp [unq] at h
  | cons c r =>
    unfold unq at h
    simp only at h
    by_cases h1 : c = 34
    · rw [if_pos h1] at h
      obtain ⟨⟨y, m⟩, hy, he⟩ := Option.map_eq_some_iff.1 h
      injection he with e1 e2
      subst e1; subst e2
      have := unqT_used r.length r y m (Nat.le_refl _) hy
      simp only [List.length_cons]; omega
    · rw [if_neg h1] at h; simp at h
theorem valP_used (l x : List UInt8) (k : Nat) (h : valP l = some (x, k)) : k ≤ l.length ∧ x.length ≤ k := by
  unfold valP at h
  split at h
  · have := unq_used l x k h; omega
  · injection h with h; injection h with h1 h2
    subst h1; subst h2
    have := runL_le isSg l
    rw [List.length_take]; omega
/-- What a step takes. -/
theorem parStep_used (l : List UInt8) (q : Option Par) (k : Nat) (h : parStep l = some (some (q, k))) :
    0 < k ∧ k ≤ l.length ∧ ∀ p, q = some p → 0 < p.1.length ∧ p.1.length + p.2.1.length ≤ k := by
  unfold parStep at h
  by_cases h0 : l[runL isBl l]? = some 59
  · rw [if_pos h0] at h
    simp only at h
    have hlt : runL isBl l < l.length := (List.getElem?_eq_some_iff.1 h0).1
    generalize hr : l.drop (runL isBl l + 1) = r at h
    have hrl : r.length + (runL isBl l + 1) = l.length := by rw [← hr, List.length_drop]; omega
    have hb := runL_le isBl r
    generalize runL isBl r = b at h hb
    have hn := runL_le isSg (r.drop b)
    rw [List.length_drop] at hn
    generalize hnn : runL isSg (r.drop b) = n at h hn
    split at h
    · injection h with h; injection h with h; injection h with h1 h2
      subst h1; subst h2
      exact ⟨by omega, by omega, fun p hp => by cases hp⟩
    · split at h
      · have h61 : (r.drop (b + n))[0]? = some 61 := by assumption
        have hl0 : 0 < (r.drop (b + n)).length := (List.getElem?_eq_some_iff.1 h61).1
        rw [List.length_drop] at hl0
        cases hv : valP (r.drop (b + n + 1)) with
        | none => rw [hv] at h; simp at h
        | some x =>
          obtain ⟨v, m⟩ := x
          rw [hv] at h
          simp only [Option.some.injEq, Prod.mk.injEq] at h
          obtain ⟨h1, h2⟩ := h
          have hu := valP_used _ _ _ hv
          rw [List.length_drop] at hu
          refine ⟨by omega, by omega, fun p hp => ?_⟩
          rw [← h1] at hp
          injection hp with hp
          subst hp
          simp only [List.length_take, List.length_drop]
          omega
      · simp only [Option.some.injEq, Prod.mk.injEq] at h
        obtain ⟨h1, h2⟩ := h
        refine ⟨by omega, by omega, fun p hp => ?_⟩
        rw [← h1] at hp
        injection hp with hp
        subst hp
        simp only [List.length_take, List.length_drop, List.length_nil]
        omega
  · rw [if_neg h0] at h; simp at h
theorem parF_more : ∀ (f g : Nat) (l : List UInt8), l.length < f → l.length < g → parF f l = parF g l
  | 0, _, l, h, _ => by omega
  | _ + 1, 0, l, _, h => by omega
  | f + 1, g + 1, l, hf, hg => by
    unfold parF
    cases hs : parStep l with
    | none => rfl
    | some x =>
      cases x with
      | none => rfl
      | some y =>
        obtain ⟨q, k⟩ := y
        have hu := parStep_used l q k hs
        simp only
        rw [parF_more f g (l.drop k) (by rw [List.length_drop]; omega) (by rw [List.length_drop]; omega)]
theorem parP_stop (l : List UInt8) (h : parStep l = none) : parP l = some ([], 0) := by unfold parP parF; rw [h]
theorem parP_fault (l : List UInt8) (h : parStep l = some none) : parP l = none := by unfold parP parF; rw [h]
theorem parP_step (l : List UInt8) (q : Option Par) (k : Nat) (h : parStep l = some (some (q, k))) : parP l = (parP (l.drop k)).map fun x => (q.toList ++ x.1, k + x.2) := by
  have hu := parStep_used l q k h
  have e : parP l = (parF l.length (l.drop k)).map fun x => (q.toList ++ x.1, k + x.2) := by
    show parF (l.length + 1) l = _
    rw [parF.eq_def]
    simp only [h]
  rw [e, parF_more l.length ((l.drop k).length + 1) (l.drop k) (by rw [List.length_drop]; omega) (by omega)]
  rfl
/-- Bytes that parameters have. -/
theorem parP_used (n : Nat) : ∀ (l : List UInt8) (ps : List Par) (k : Nat), l.length ≤ n → parP l = some (ps, k) → k ≤ l.length ∧ ps.length ≤ k ∧ (∀ p ∈ ps, 0 < p.1.length ∧ p.1.length + p.2.1.length ≤ k) := by
  induction n with
  | zero =>
    intro l ps k hl h
    have hs : parStep l = none := by
      obtain rfl : l = [] := List.eq_nil_of_length_eq_zero (by omega)
      rfl
    rw [parP_stop l hs] at h
    injection h with h; injection h with h1 h2
    subst h1; subst h2
    simp
  | succ n ih =>
    intro l ps k hl h
    cases hs : parStep l with
    | none =>
      rw [parP_stop l hs] at h
      injection h with h; injection h with h1 h2
      subst h1; subst h2
      simp
    | some x =>
      cases x with
      | none => rw [parP_fault l hs] at h; cases h
      | some y =>
        obtain ⟨q, m⟩ := y
        have hu := parStep_used l q m hs
        rw [parP_step l q m hs] at h
        obtain ⟨⟨qs, u⟩, hq, he⟩ := Option.map_eq_some_iff.1 h
        injection he with e1 e2
        subst e1; subst e2
        have := ih (l.drop m) qs u (by rw [List.length_drop]; omega) hq
        rw [List.length_drop] at this
        refine ⟨by omega, ?_, ?_⟩
        · rw [List.length_append]
          cases q <;> simp <;> omega
        · intro p hp
          rw [List.mem_append] at hp
          rcases hp with hp | hp
          · have := hu.2.2 p (by cases q with
              | none => simp at hp
              | some q => obtain rfl : p = q := (by simpa using hp); rfl)
            omega
          · have := this.2.2 p hp; omega
/-- A list's elements, from a place on: cur stands before it. -/
def lstF : Nat → List UInt8 → List UInt8 → Option (List (List UInt8))
  | 0, cur, _ => some [cur]
  | f + 1, cur, l =>
    match l with
    | [] => some [cur]
    | c :: r =>
      if c = 34 then
        match unq (c :: r) with
        | none => none
        | some (_, n) => lstF f (cur ++ (c :: r).take n) ((c :: r).drop n)
      else if c = 44 then (lstF f [] r).map (cur :: ·)
      else lstF f (cur ++ [c]) r
def lstR (cur l : List UInt8) : Option (List (List UInt8)) := lstF (l.length + 1) cur l
/-- What stays: trimmed, not empty. -/
def fulls (l : List (List UInt8)) : List (List UInt8) := (l.map trimL).filter (· ≠ [])
def lstP (l : List UInt8) : Option (List (List UInt8)) := (lstR [] l).map fulls
theorem lstF_more : ∀ (f g : Nat) (cur l : List UInt8), l.length < f → l.length < g → lstF f cur l = lstF g cur l
  | 0, _, _, l, h, _ => by omega
  | _ + 1, 0, _, l, _, h => by omega
  | f + 1, g + 1, cur, [], hf, hg => rfl
  | f + 1, g + 1, cur, c :: r, hf, hg => by
    simp only [List.length_cons] at hf hg
    rw [lstF.eq_def, lstF.eq_def (g + 1)]
    simp only
    by_cases h1 : c = 34
    · rw [if_pos h1, if_pos h1]
      cases hu : unq (c :: r) with
      | none => rfl
      | some x =>
        obtain ⟨y, n⟩ := x
        have := unq_used _ _ _ hu
        simp only
        exact lstF_more f g _ _ (by rw [List.length_drop, List.length_cons]; omega) (by rw [List.length_drop, List.length_cons]; omega)
    · rw [if_neg h1, if_neg h1]
      by_cases h2 : c = 44
      · rw [if_pos h2, if_pos h2, lstF_more f g [] r (by omega) (by omega)]
      · rw [if_neg h2, if_neg h2, lstF_more f g _ r (by omega) (by omega)]
theorem lstR_nil (cur : List UInt8) : lstR cur [] = some [cur] := rfl
theorem lstR_bad (cur r : List UInt8) (h : unq (34 :: r) = none) : lstR cur (34 :: r) = none := by
  unfold lstR
  rw [lstF.eq_def]
  simp only [if_true, h]
theorem lstR_quote (cur r x : List UInt8) (n : Nat) (h : unq (34 :: r) = some (x, n)) : lstR cur (34 :: r) = lstR (cur ++ (34 :: r).take n) ((34 :: r).drop n) := by
  have := unq_used _ _ _ h
  rw [List.length_cons] at this
  rw [show lstR cur (34 :: r) = lstF (r.length + 1) (cur ++ (34 :: r).take n) ((34 :: r).drop n) from by
    unfold lstR
    rw [lstF.eq_def]
    simp only [if_true, h, List.length_cons]]
  exact lstF_more _ _ _ _ (by rw [List.length_drop, List.length_cons]; omega) (by omega)
theorem lstR_comma (cur r : List UInt8) : lstR cur (44 :: r) = (lstR [] r).map (cur :: ·) := by
  unfold lstR
  rw [lstF.eq_def]
  simp only [if_neg (show ¬ (44 : UInt8) = 34 from by decide), if_true, List.length_cons]
theorem lstR_other (cur r : List UInt8) (c : UInt8) (h1 : c ≠ 34) (h2 : c ≠ 44) : lstR cur (c :: r) = lstR (cur ++ [c]) r := by
  unfold lstR
  rw [lstF.eq_def]
  simp only [if_neg h1, if_neg h2, List.length_cons]
/-- Trimming: from the front, from the back. -/
theorem dropWhile_suffix_len (p : UInt8 → Bool) (l : List UInt8) : (l.dropWhile p).length ≤ l.length := (List.dropWhile_sublist p).length_le
theorem trimL_len (l : List UInt8) : (trimL l).length ≤ l.length := by
  unfold trimL
  rw [List.length_reverse]
  refine Nat.le_trans (dropWhile_suffix_len _ _) ?_
  rw [List.length_reverse]
  exact dropWhile_suffix_len _ _
def trimR (l : List UInt8) : List UInt8 := (l.reverse.dropWhile isBl).reverse
theorem trimR_snoc_bl (l : List UInt8) (c : UInt8) (h : isBl c = true) : trimR (l ++ [c]) = trimR l := by
  unfold trimR; rw [List.reverse_append]; simp [h]
theorem trimR_snoc_other (l : List UInt8) (c : UInt8) (h : isBl c = false) : trimR (l ++ [c]) = l ++ [c] := by
  unfold trimR; rw [List.reverse_append]; simp [h]
theorem trimR_nil : trimR [] = [] := rfl
theorem trimL_eq (l : List UInt8) : trimL l = trimR (l.dropWhile isBl) := rfl
theorem lowL_len (l : List UInt8) : (lowL l).length = l.length := by unfold lowL; rw [List.length_map]
/-- What stands for itself in a list. -/
theorem fulls_snoc (l : List (List UInt8)) (x : List UInt8) : fulls (l ++ [x]) = fulls l ++ if trimL x = [] then [] else [trimL x] := by
  unfold fulls
  rw [List.map_append, List.filter_append]
  congr 1
  by_cases h : trimL x = [] <;> simp [h]
theorem fulls_len (l : List (List UInt8)) : (fulls l).length ≤ l.length := by
  unfold fulls
  refine Nat.le_trans (List.length_filter_le _ _) ?_
  rw [List.length_map]; omega
end Go.Proofs.YtdlpbpikhmciaaaGreatDoor
namespace Go.Proofs.YtdlpbpikhmciaaaGreatDoor
open Go.RowKit
set_option linter.unusedSimpArgs false
set_option linter.unusedVariables false
set_option maxRecDepth 100000
def qdg (c : UInt8) : Bool := decide (48 ≤ c.toNat ∧ c.toNat ≤ 57)
def decV (l : List UInt8) : Nat := l.foldl (fun n c => n * 10 + (c.toNat - 48)) 0
def pad3 (p : List UInt8) : List UInt8 := p ++ List.replicate (3 - p.length) 48
def one9 (a : UInt8) : Nat := if a = 49 then 1000 else 0
def quP (a : UInt8) (p : List UInt8) : Nat × Nat :=
  if (a = 48 ∨ a = 49) ∧ p.length ≤ 3 ∧ p.all qdg = true ∧ decV (pad3 p) + one9 a ≤ 1000 then (decV (pad3 p) + one9 a, 0) else (0, 71)
/-- What a quality's text says, and an error's number. -/
def quR : List UInt8 → Nat × Nat
  | [] => (0, 71)
  | [a] => quP a []
  | a :: b :: p => if b = 46 then quP a p else (0, 71)
theorem quP_no (a : UInt8) (p : List UInt8) (h : ¬ (a = 48 ∨ a = 49)) : quP a p = (0, 71) := by unfold quP; rw [if_neg (fun e => h e.1)]
theorem quP_long (a : UInt8) (p : List UInt8) (h : 3 < p.length) : quP a p = (0, 71) := by unfold quP; rw [if_neg (fun e => by have := e.2.1; omega)]
theorem quP_dig (a : UInt8) (p : List UInt8) (h : p.all qdg = false) : quP a p = (0, 71) := by unfold quP; rw [if_neg (fun e => by have := e.2.2.1; rw [h] at this; cases this)]
theorem quP_big (a : UInt8) (p : List UInt8) (h : 1000 < decV (pad3 p) + one9 a) : quP a p = (0, 71) := by unfold quP; rw [if_neg (fun e => by have := e.2.2.2; omega)]
theorem quP_yes (a : UInt8) (p : List UInt8) (h : a = 48 ∨ a = 49) (h2 : p.length ≤ 3) (h3 : p.all qdg = true) (h4 : decV (pad3 p) + one9 a ≤ 1000) : quP a p = (decV (pad3 p) + one9 a, 0) := by unfold quP; rw [if_pos ⟨h, h2, h3, h4⟩]
theorem cut46 (l : List UInt8) : Lib.cut l [46] = if 0 ≤ Lib.indexByte l 46 then (l.take (Lib.indexByte l 46).toNat, l.drop ((Lib.indexByte l 46).toNat + 1), true) else (l, [], false) := by
  unfold Lib.cut
  rw [Lib.index_one]
  rfl
theorem qu_if (l : List UInt8) (c : List UInt8 × List UInt8 × Bool) (hc : Lib.cut l [46] = c) (h : quR l = if c.1 = [48] then quP 48 c.2.1 else if c.1 = [49] then quP 49 c.2.1 else (0, 71)) : quR l = if (Lib.cut l [46]).1 = [48] then quP 48 (Lib.cut l [46]).2.1 else if (Lib.cut l [46]).1 = [49] then quP 49 (Lib.cut l [46]).2.1 else (0, 71) := by
  rw [hc]; exact h
theorem cut46_no (l : List UInt8) (h : Lib.indexByte l 46 = -1) : Lib.cut l [46] = (l, [], false) := by rw [cut46, h]; rfl
theorem cut46_at (l : List UInt8) (k : Nat) (h : Lib.indexByte l 46 = (k : Int)) : Lib.cut l [46] = (l.take k, l.drop (k + 1), true) := by rw [cut46, h, if_pos (Int.natCast_nonneg _)]; rfl
theorem qu_one (a : UInt8) (p : List UInt8) : quP a p = if [a] = [48] then quP 48 p else if [a] = [49] then quP 49 p else (0, 71) := by
  by_cases h8 : a = 48
  · subst h8; rw [if_pos rfl]
  · rw [if_neg (by simpa using h8)]
    by_cases h9 : a = 49
    · subst h9; rw [if_pos rfl]
    · rw [if_neg (by simpa using h9), quP_no a p (by simp [h8, h9])]
theorem qu_cut (l : List UInt8) : quR l = if (Lib.cut l [46]).1 = [48] then quP 48 (Lib.cut l [46]).2.1 else if (Lib.cut l [46]).1 = [49] then quP 49 (Lib.cut l [46]).2.1 else (0, 71) := by
  match l with
  | [] => exact qu_if [] ([], [], false) (cut46_no [] rfl) rfl
  | [a] =>
    by_cases ha : a = 46
    · subst ha
      exact qu_if [46] ([], [], true) (cut46_at [46] 0 rfl) rfl
    · have hi : Lib.indexByte [a] 46 = -1 := by simp [Lib.indexByte, ha]
      exact qu_if [a] ([a], [], false) (cut46_no _ hi) (qu_one a [])
  | a :: b :: p =>
    by_cases ha : a = 46
    · have hi : Lib.indexByte (a :: b :: p) 46 = ((0 : Nat) : Int) := by simp [Lib.indexByte, ha]
      refine qu_if _ ([], b :: p, true) (cut46_at _ 0 hi) ?_
      show (if b = 46 then quP a p else (0, 71)) = (0, 71)
      rw [quP_no a p (by rw [ha]; decide)]
      split <;> rfl
    · by_cases hb : b = 46
      · have hi : Lib.indexByte (a :: b :: p) 46 = ((1 : Nat) : Int) := by simp [Lib.indexByte, ha, hb]
        refine qu_if _ ([a], p, true) (cut46_at _ 1 hi) ?_
        show (if b = 46 then quP a p else (0, 71)) = _
        rw [if_pos hb]
        exact qu_one a p
      · have hge := Lib.indexByte_ge p 46
        have hi : Lib.indexByte (a :: b :: p) 46 = if Lib.indexByte p 46 = -1 then -1 else Lib.indexByte p 46 + 2 := by
          have h1 : Lib.indexByte (b :: p) 46 = if Lib.indexByte p 46 = -1 then -1 else Lib.indexByte p 46 + 1 := by
            conv => lhs; unfold Lib.indexByte
            rw [if_neg (by simpa using hb)]
            by_cases hz : Lib.indexByte p 46 = -1 <;> simp [hz]
          conv => lhs; unfold Lib.indexByte
          rw [if_neg (by simpa using ha), h1]
          by_cases hz : Lib.indexByte p 46 = -1
          · simp [hz]
          · rw [if_neg hz, if_neg hz, if_neg (by simp; omega)]; omega
        have hq : quR (a :: b :: p) = (0, 71) := by
          show (if b = 46 then quP a p else (0, 71)) = _
          rw [if_neg hb]
        by_cases hz : Lib.indexByte p 46 = -1
        · rw [if_pos hz] at hi
          exact qu_if _ (a :: b :: p, [], false) (cut46_no _ hi) (by rw [hq, if_neg (by simp), if_neg (by simp)])
        · obtain ⟨k, hk⟩ : ∃ k : Nat, Lib.indexByte p 46 = (k : Int) := ⟨(Lib.indexByte p 46).toNat, by omega⟩
          rw [if_neg hz, hk] at hi
          exact qu_if _ (a :: b :: p.take k, p.drop (k + 1), true) (by rw [cut46_at _ (k + 2) (by rw [hi]; omega)]; rfl) (by rw [hq, if_neg (by simp), if_neg (by simp)])
theorem decV_snoc (l : List UInt8) (c : UInt8) : decV (l ++ [c]) = decV l * 10 + (c.toNat - 48) := by unfold decV; rw [List.foldl_append]; rfl
theorem decV_lt : ∀ (n : Nat) (l : List UInt8), l.length = n → l.all qdg = true → decV l < 10 ^ n
  | 0, l, h, _ => by
    rw [List.length_eq_zero_iff.1 h]
    decide
  | n + 1, l, h, ha => by
    have hne : l ≠ [] := by intro e; rw [e] at h; simp at h
    have hd : l.dropLast ++ [l.getLast hne] = l := List.dropLast_concat_getLast hne
    have hl : l.dropLast.length = n := by rw [List.length_dropLast]; omega
    rw [← hd, List.all_append, Bool.and_eq_true] at ha
    have ih := decV_lt n l.dropLast hl ha.1
    have hc : qdg (l.getLast hne) = true := by simpa using ha.2
    unfold qdg at hc
    rw [decide_eq_true_eq] at hc
    rw [← hd, decV_snoc, Nat.pow_succ]
    omega
theorem pad3_len (p : List UInt8) (h : p.length ≤ 3) : (pad3 p).length = 3 := by unfold pad3; rw [List.length_append, List.length_replicate]; omega
theorem pad3_all (p : List UInt8) : (pad3 p).all qdg = p.all qdg := by
  unfold pad3
  rw [List.all_append]
  have : (List.replicate (3 - p.length) (48 : UInt8)).all qdg = true := by
    rw [List.all_replicate]
    simp [qdg]
  rw [this, Bool.and_true]
def hexT : List UInt8 := [48, 49, 50, 51, 52, 53, 54, 55, 56, 57, 97, 98, 99, 100, 101, 102]
theorem hex_all : ∀ n : Fin 256, (if qdg (UInt8.ofNat n.val) then Lib.indexByte hexT (low (UInt8.ofNat n.val)) = ((n.val - 48 : Nat) : Int) else Lib.indexByte hexT (low (UInt8.ofNat n.val)) < 0 ∨ 10 ≤ Lib.indexByte hexT (low (UInt8.ofNat n.val))) := by decide +kernel
theorem hex_yes (c : UInt8) (h : qdg c = true) : Lib.indexByte hexT (low c) = ((c.toNat - 48 : Nat) : Int) := by
  have := hex_all ⟨c.toNat, c.toBitVec.isLt⟩
  simp only [UInt8.ofNat_toNat, h, if_true] at this
  exact this
theorem hex_no (c : UInt8) (h : qdg c = false) : Lib.indexByte hexT (low c) < 0 ∨ 10 ≤ Lib.indexByte hexT (low c) := by
  have := hex_all ⟨c.toNat, c.toBitVec.isLt⟩
  simp only [UInt8.ofNat_toNat, h] at this
  simpa using this
end Go.Proofs.YtdlpbpikhmciaaaGreatDoor
namespace Go.Proofs.YtdlpbpikhmciaaaGreatDoor
open Go.RowKit
set_option linter.unusedSimpArgs false
set_option linter.unusedVariables false
/-- What a hexadecimal digit says. -/
def hv (c : UInt8) : Option Nat := if 48 ≤ c.toNat ∧ c.toNat ≤ 57 then some (c.toNat - 48) else if 97 ≤ c.toNat ∧ c.toNat ≤ 102 then some (c.toNat - 87) else if 65 ≤ c.toNat ∧ c.toNat ≤ 70 then some (c.toNat - 55) else none
theorem hv_lt (c : UInt8) (n : Nat) (h : hv c = some n) : n < 16 := by
  unfold hv at h
  split at h
  · injection h; omega
  · split at h
    · injection h; omega
    · split at h
      · injection h; omega
      · cases h
/-- The triple that stands in front. -/
def trip : List UInt8 → Option Nat
  | p :: a :: b :: _ => if p = 37 then (match hv a, hv b with | some x, some y => some (x * 16 + y) | _, _ => none) else none
  | _ => none
theorem trip_some (l : List UInt8) (n : Nat) (h : trip l = some n) : ∃ a b r x y, l = 37 :: a :: b :: r ∧ hv a = some x ∧ hv b = some y ∧ n = x * 16 + y := by
  match l, h with
  | p :: a :: b :: r, h =>
    simp only [trip] at h
    by_cases hp : p = 37
    · rw [if_pos hp] at h
      cases ha : hv a with
      | none => rw [ha] at h; cases h
      | some x =>
        cases hb : hv b with
        | none => rw [ha, hb] at h; cases h
        | some y =>
          rw [ha, hb] at h
          injection h with h
          exact ⟨a, b, r, x, y, by rw [hp], ha, hb, h.symm⟩
    · rw [if_neg hp] at h; cases h
theorem trip_lt (l : List UInt8) (n : Nat) (h : trip l = some n) : n < 256 := by
  obtain ⟨a, b, r, x, y, _, ha, hb, rfl⟩ := trip_some l n h
  have := hv_lt a x ha
  have := hv_lt b y hb
  omega
/-- A text decoded: what it says, or the place of the first percent sign that begins no triple. -/
def pd : List UInt8 → List UInt8 → Nat → List UInt8 × Nat × Nat
  | acc, [], _ => (acc, 0, 0)
  | acc, c :: r, i =>
    if c = 37 then
      match r with
      | a :: b :: r' => match trip (c :: a :: b :: r') with | some n => pd (acc ++ [UInt8.ofNat n]) r' (i + 3) | none => ([], i, 51)
      | _ => ([], i, 51)
    else pd (acc ++ [c]) r (i + 1)
def pdec (l : List UInt8) : List UInt8 × Nat × Nat := pd [] l 0
theorem pd_plain (acc : List UInt8) (c : UInt8) (r : List UInt8) (i : Nat) (h : c ≠ 37) : pd acc (c :: r) i = pd (acc ++ [c]) r (i + 1) := by
  rw [pd.eq_def]; simp only; rw [if_neg h]
theorem pd_bad (acc : List UInt8) (r : List UInt8) (i : Nat) (h : trip (37 :: r) = none) : pd acc (37 :: r) i = ([], i, 51) := by
  match r, h with
  | [], _ => rw [pd.eq_def]; simp
  | [a], _ => rw [pd.eq_def]; simp
  | a :: b :: r', h => rw [pd.eq_def]; simp only [if_true]; rw [h]
theorem pd_good (acc : List UInt8) (l : List UInt8) (i n : Nat) (h : trip l = some n) : pd acc l i = pd (acc ++ [UInt8.ofNat n]) (l.drop 3) (i + 3) ∧ 3 ≤ l.length := by
  obtain ⟨a, b, r, x, y, rfl, _⟩ := trip_some l n h
  constructor
  · rw [pd.eq_def]; simp only [if_true]; rw [h]; rfl
  · simp
theorem ofNat_cells (n : Nat) (h : n < 256) : Lib.byteCells [UInt8.ofNat n] = [Value.int .u8 (n : Int)] := by
  simp [Lib.byteCells]
  omega
end Go.Proofs.YtdlpbpikhmciaaaGreatDoor
namespace Go.Proofs.YtdlpbpikhmciaaaGreatDoor
open Go.RowKit
set_option linter.unusedSimpArgs false
set_option linter.unusedVariables false
/-- Each a as b. -/
def swapL (a b : UInt8) (l : List UInt8) : List UInt8 := l.map fun c => if c = a then b else c
theorem index_nil (c : UInt8) : Lib.index [] [c] = -1 := by rw [Lib.index_one]; rfl
theorem index_hit (c : UInt8) (r : List UInt8) : Lib.index (c :: r) [c] = 0 := by rw [Lib.index_one]; simp [Lib.indexByte]
theorem index_next (c d : UInt8) (r : List UInt8) (h : d ≠ c) : Lib.index (d :: r) [c] = if Lib.index r [c] = -1 then -1 else Lib.index r [c] + 1 := by
  rw [Lib.index_one, Lib.index_one]
  simp only [Lib.indexByte]
  rw [if_neg (by simpa using h)]
  simp
theorem replaceK_swap (a b : UInt8) (l : List UInt8) : Lib.replaceK [a] [b] (Lib.count l [a]) l = swapL a b l := by
  induction l with
  | nil => rw [Lib.count_miss (index_nil a)]; rfl
  | cons d r ih =>
    by_cases hd : d = a
    · subst hd
      rw [Lib.count_cons_eq, Nat.add_comm, Lib.replaceK_hit [d] [b] _ (d :: r) 0 (index_hit d r)]
      simp only [List.take_zero, List.nil_append, List.length_cons, List.length_nil, Nat.zero_add, List.drop_succ_cons, List.drop_zero]
      rw [ih]
      simp [swapL]
    · rw [Lib.count_cons_ne d a r hd]
      have hm : swapL a b (d :: r) = d :: swapL a b r := by simp [swapL, hd]
      rw [hm, ← ih]
      cases hk : Lib.count r [a] with
      | zero => rfl
      | succ k =>
        obtain ⟨i, hi⟩ := Lib.index_of_count (s := r) (old := [a]) (by omega)
        have h2 : Lib.index (d :: r) [a] = ((i + 1 : Nat) : Int) := by rw [index_next a d r hd, hi, if_neg (by omega)]; rfl
        rw [Lib.replaceK_hit [a] [b] k (d :: r) (i + 1) h2, Lib.replaceK_hit [a] [b] k r i hi]
        simp [Nat.add_right_comm]
theorem replaceAll_swap (a b : UInt8) (l : List UInt8) : Lib.replaceAll l [a] [b] = swapL a b l := by
  unfold Lib.replaceAll Lib.replace
  by_cases h : ([a] == [b]) = true
  · have hab : a = b := by simpa using h
    subst hab
    rw [if_pos h]
    unfold swapL
    have e : (fun c : UInt8 => if c = a then a else c) = id := by funext c; by_cases hc : c = a <;> simp [hc]
    rw [e, List.map_id]
  · rw [if_neg h, show Lib.replaceNum l [a] (-1) = Lib.count l [a] from by simp [Lib.replaceNum]]
    exact replaceK_swap a b l
/-- What a loop knows that has found none up to k. -/
theorem index_upto (c : UInt8) (l : List UInt8) (k : Nat) (hk : k ≤ l.length) (h : ∀ j, j < k → l[j]? ≠ some c) : Lib.index l [c] = if Lib.index (l.drop k) [c] = -1 then -1 else Lib.index (l.drop k) [c] + k := by
  induction k generalizing l with
  | zero => by_cases e : Lib.index l [c] = -1 <;> simp [e]
  | succ k ih =>
    match l, hk with
    | d :: r, hk =>
      have hd : d ≠ c := by have := h 0 (by omega); simpa using this
      have := ih r (by simpa using hk) (fun j hj => by have := h (j + 1) (by omega); simpa using this)
      rw [index_next c d r hd, this, List.drop_succ_cons]
      by_cases e : Lib.index (r.drop k) [c] = -1
      · rw [if_pos e, if_pos rfl, if_pos e]
      · have hge : -1 ≤ Lib.index (r.drop k) [c] := by rw [Lib.index_one]; exact Lib.indexByte_ge _ _
        rw [if_neg e, if_neg (by omega), if_neg e]
        omega
theorem index_none (c : UInt8) (l : List UInt8) (h : ∀ j, j < l.length → l[j]? ≠ some c) : Lib.index l [c] = -1 := by
  rw [index_upto c l l.length (Nat.le_refl _) h, List.drop_length, index_nil, if_pos rfl]
theorem index_found (c : UInt8) (l : List UInt8) (k : Nat) (hk : k < l.length) (h : ∀ j, j < k → l[j]? ≠ some c) (hc : l[k]? = some c) : Lib.index l [c] = k := by
  rw [index_upto c l k (by omega) h]
  have e : l.drop k = c :: l.drop (k + 1) := by
    rw [List.drop_eq_getElem_cons hk]
    congr 1
    rw [List.getElem?_eq_getElem hk] at hc
    injection hc
  rw [e, index_hit]
  simp
theorem cut_none (c : UInt8) (l : List UInt8) (h : ∀ j, j < l.length → l[j]? ≠ some c) : Lib.cut l [c] = (l, [], false) := by
  unfold Lib.cut
  rw [index_none c l h, if_neg (by omega)]
theorem cut_found (c : UInt8) (l : List UInt8) (k : Nat) (hk : k < l.length) (h : ∀ j, j < k → l[j]? ≠ some c) (hc : l[k]? = some c) : Lib.cut l [c] = (l.take k, l.drop (k + 1), true) := by
  unfold Lib.cut
  rw [index_found c l k hk h hc, if_pos (by omega)]
  simp
/-- The pieces, by cutting off the first. -/
theorem split_step (c : UInt8) (l : List UInt8) : Lib.split l [c] = if (Lib.cut l [c]).2.2 then (Lib.cut l [c]).1 :: Lib.split (Lib.cut l [c]).2.1 [c] else [l] := by
  have hge : -1 ≤ Lib.index l [c] := by rw [Lib.index_one]; exact Lib.indexByte_ge _ _
  by_cases h : Lib.index l [c] = -1
  · have e : Lib.cut l [c] = (l, [], false) := by unfold Lib.cut; rw [if_neg (by omega)]
    rw [e]
    unfold Lib.split
    rw [Lib.count_miss h]
    rfl
  · obtain ⟨i, hi⟩ : ∃ i : Nat, Lib.index l [c] = i := ⟨(Lib.index l [c]).toNat, by omega⟩
    have e : Lib.cut l [c] = (l.take i, l.drop (i + 1), true) := by unfold Lib.cut; rw [hi, if_pos (by omega)]; simp
    rw [e]
    unfold Lib.split
    rw [Lib.count_hit (by simp) hi, Nat.add_comm, Lib.splitK, if_neg (by simp; omega), hi]
    simp
theorem index_lt (c : UInt8) (l : List UInt8) (h : Lib.index l [c] ≠ -1) : Lib.index l [c] < l.length := by
  induction l with
  | nil => exact absurd (index_nil c) h
  | cons d r ih =>
    by_cases e : d = c
    · subst e; rw [index_hit]; simp
    · rw [index_next c d r e] at h ⊢
      by_cases h2 : Lib.index r [c] = -1
      · rw [if_pos h2] at h; exact absurd rfl h
      · rw [if_neg h2]
        have := ih h2
        simp only [List.length_cons]
        omega
end Go.Proofs.YtdlpbpikhmciaaaGreatDoor
