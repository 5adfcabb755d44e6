/- OctP, HdP: texts of the seat, one behind the other (a claim holds at most sixty). Conditions: each theorem names its own. -/
import Derived.Test.YtdlpbpikhmciaaaGreatDoorPk00
import Derived.Laws.RangeAny
namespace Go.Proofs.YtdlpbpikhmciaaaGreatDoor
open Go.RowKit
set_option linter.unusedSimpArgs false
set_option linter.unusedVariables false
/-- The signs of tokens. -/
def isSg (c : UInt8) : Bool := (48 ≤ c.toNat && c.toNat ≤ 57) || (65 ≤ c.toNat && c.toNat ≤ 90) || (97 ≤ c.toNat && c.toNat ≤ 122) || [33, 35, 36, 37, 38, 39, 42, 43, 45, 46, 94, 95, 96, 124, 126].contains c
def isFb (c : UInt8) : Bool := c.toNat == 9 || (32 ≤ c.toNat && c.toNat != 127)
def isBl (c : UInt8) : Bool := c.toNat == 32 || c.toNat == 9
def low (c : UInt8) : UInt8 := if 65 ≤ c.toNat ∧ c.toNat ≤ 90 then UInt8.ofNat (c.toNat + 32) else c
def lowL (l : List UInt8) : List UInt8 := l.map low
def isTok (l : List UInt8) : Bool := !l.isEmpty && l.all isSg
def isFld (l : List UInt8) : Bool := l.all isFb
def trimL (l : List UInt8) : List UInt8 := ((l.dropWhile isBl).reverse.dropWhile isBl).reverse
/-- The quoted text behind its first mark: what it says, and how many bytes it has from there on. -/
def unqT : List UInt8 → Option (List UInt8 × Nat)
  | [] => none
  | c :: r =>
    if c = 34 then some ([], 1)
    else if c = 92 then
      match r with
      | [] => none
      | d :: r' => if isFb d then (unqT r').map fun x => (d :: x.1, x.2 + 2) else none
    else if isFb c then (unqT r).map fun x => (c :: x.1, x.2 + 1) else none
def unq : List UInt8 → Option (List UInt8 × Nat)
  | [] => none
  | c :: r => if c = 34 then (unqT r).map fun x => (x.1, x.2 + 1) else none
/-- How many bytes from the front on may stand. -/
def runL (p : UInt8 → Bool) (l : List UInt8) : Nat := (l.takeWhile p).length
theorem runL_le (p : UInt8 → Bool) (l : List UInt8) : runL p l ≤ l.length := by
  unfold runL
  induction l with
  | nil => simp
  | cons c r ih => rw [List.takeWhile_cons]; split <;> simp; omega
theorem runL_nil (p : UInt8 → Bool) : runL p [] = 0 := rfl
theorem runL_cons (p : UInt8 → Bool) (c : UInt8) (r : List UInt8) : runL p (c :: r) = if p c then runL p r + 1 else 0 := by
  unfold runL; rw [List.takeWhile_cons]; split <;> simp
theorem runL_more (p : UInt8 → Bool) : ∀ (l : List UInt8) (n : Nat) (c : UInt8), n ≤ runL p l → l[n]? = some c → p c = true → n + 1 ≤ runL p l
  | [], n, c, _, h, _ => by simp at h
  | d :: r, 0, c, _, h, hp => by
    obtain rfl : d = c := by simpa using h
    rw [runL_cons, if_pos hp]; omega
  | d :: r, n + 1, c, hn, h, hp => by
    rw [runL_cons] at hn ⊢
    split at hn
    · have := runL_more p r n c (by omega) (by simpa using h) hp
      rw [if_pos (by assumption)]; omega
    · omega
theorem runL_stop (p : UInt8 → Bool) : ∀ (l : List UInt8) (n : Nat) (c : UInt8), n ≤ runL p l → l[n]? = some c → p c = false → n = runL p l
  | [], n, c, _, h, _ => by simp at h
  | d :: r, 0, c, _, h, hp => by
    obtain rfl : d = c := by simpa using h
    rw [runL_cons, hp]; rfl
  | d :: r, n + 1, c, hn, h, hp => by
    rw [runL_cons] at hn ⊢
    split at hn
    · have := runL_stop p r n c (by omega) (by simpa using h) hp
      rw [if_pos (by assumption)]; omega
    · omega
theorem runL_end (p : UInt8 → Bool) (l : List UInt8) (n : Nat) (h : n ≤ runL p l) (h2 : l.length ≤ n) : n = runL p l := by
  have := runL_le p l; omega
theorem isTok_none : isTok [] = false := rfl
theorem all_take (p : UInt8 → Bool) (l : List UInt8) (k : Nat) (c : UInt8) (h : l[k]? = some c) (ha : (l.take k).all p = true) (hp : p c = true) : (l.take (k + 1)).all p = true := by
  rw [List.take_add_one, h]
  simp only [Option.toList_some, List.all_append, ha, List.all_cons, hp, List.all_nil, Bool.and_self]
theorem all_not (p : UInt8 → Bool) (l : List UInt8) (k : Nat) (c : UInt8) (h : l[k]? = some c) (hp : p c = false) : l.all p = false := by
  rw [List.all_eq_false]
  exact ⟨c, List.mem_of_getElem? h, by rw [hp]; simp⟩
theorem isTok_runL (l : List UInt8) : isTok l = (decide (0 < l.length) && decide (runL isSg l = l.length)) := by
  unfold isTok
  cases l with
  | nil => rfl
  | cons c r =>
    simp only [List.isEmpty_cons, Bool.not_false, Bool.true_and, List.length_cons, Nat.zero_lt_succ, decide_true]
    suffices h : ∀ l : List UInt8, l.all isSg = decide (runL isSg l = l.length) from h (c :: r)
    intro l
    induction l with
    | nil => rfl
    | cons d t ih =>
      rw [runL_cons, List.all_cons, ih]
      by_cases h : isSg d = true
      · rw [h, if_pos rfl]; simp
      · have h' : isSg d = false := by simpa using h
        rw [h']; simp
/-- The value at the front: a token or a quoted text. -/
def valP (l : List UInt8) : Option (List UInt8 × Nat) := if runL isSg l = 0 then unq l else some (l.take (runL isSg l), runL isSg l)
/-- One step over parameters: none: nothing is taken; else a fault, or perhaps a parameter, and how many bytes. -/
def parStep (l : List UInt8) : Option (Option (Option Par × Nat)) :=
  if l[runL isBl l]? = some 59 then
    let r := l.drop (runL isBl l + 1)
    let b := runL isBl r
    let n := runL isSg (r.drop b)
    if n = 0 then some (some (none, runL isBl l + 1))
    else if (r.drop (b + n))[0]? = some 61 then
      match valP (r.drop (b + n + 1)) with
      | none => some none
      | some (v, k) => some (some (some ((r.drop b).take n, v, true), runL isBl l + 1 + (b + n + 1) + k))
    else some (some (some ((r.drop b).take n, [], false), runL isBl l + 1 + (b + n)))
  else none
def parF : Nat → List UInt8 → Option (List Par × Nat)
  | 0, _ => some ([], 0)
  | f + 1, l =>
    match parStep l with
    | none => some ([], 0)
    | some none => none
    | some (some (q, k)) => (parF f (l.drop k)).map fun x => (q.toList ++ x.1, k + x.2)
/-- Parameters at the front, and how many bytes they have. -/
def parP (l : List UInt8) : Option (List Par × Nat) := parF (l.length + 1) l
theorem unqT_used (n : Nat) : ∀ (l x : List UInt8) (k : Nat), l.length ≤ n → unqT l = some (x, k) → 0 < k ∧ k ≤ l.length ∧ x.length ≤ k := by
  induction n with
  | zero =>
    intro l x k hl h
    obtain rfl : l = [] := List.eq_nil_of_length_eq_zero (by omega)
    simp [unqT] at h
  | succ n ih =>
    intro l x k hl h
    cases l with
    | nil => simp [unqT] at h
    | cons c r =>
      simp only [List.length_cons] at hl ⊢
      rw [unqT.eq_def] at h
      simp only at h
      by_cases h1 : c = 34
      · rw [if_pos h1] at h
        injection h with h; injection h with h2 h3
        subst h2; subst h3; simp
      · rw [if_neg h1] at h
        by_cases h2 : c = 92
        · rw [if_pos h2] at h
          cases r with
          | nil => simp at h
          | cons d r' =>
            simp only at h
            simp only [List.length_cons] at hl ⊢
            by_cases h3 : isFb d = true
            · rw [if_pos h3] at h
              obtain ⟨⟨y, m⟩, hy, he⟩ := Option.map_eq_some_iff.1 h
              injection he with e1 e2
              subst e1; subst e2
              have := ih r' y m (by omega) hy
              simp only [List.length_cons]; omega
            · rw [if_neg h3] at h; simp at h
        · rw [if_neg h2] at h
          by_cases h3 : isFb c = true
          · rw [if_pos h3] at h
            obtain ⟨⟨y, m⟩, hy, he⟩ := Option.map_eq_some_iff.1 h
            injection he with e1 e2
            subst e1; subst e2
            have := ih r y m (by omega) hy
            simp only [List.length_cons]; omega
          · rw [if_neg h3] at h; simp at h
theorem unq_used (l x : List UInt8) (k : Nat) (h : unq l = some (x, k)) : 0 < k ∧ k ≤ l.length ∧ x.length ≤ k := by
  cases l with
  | nil => simp [unq] at h
  | cons c r =>
    unfold unq at h
    simp only at h
    by_cases h1 : c = 34
    · rw [if_pos h1] at h
      obtain ⟨⟨y, m⟩, hy, he⟩ := Option.map_eq_some_iff.1 h
      injection he with e1 e2
      subst e1; subst e2
      have := unqT_used r.length r y m (Nat.le_refl _) hy
      simp only [List.length_cons]; omega
    · rw [if_neg h1] at h; simp at h
theorem valP_used (l x : List UInt8) (k : Nat) (h : valP l = some (x, k)) : k ≤ l.length ∧ x.length ≤ k := by
  unfold valP at h
  split at h
  · have := unq_used l x k h; omega
  · injection h with h; injection h with h1 h2
    subst h1; subst h2
    have := runL_le isSg l
    rw [List.length_take]; omega
/-- What a step takes. -/
theorem parStep_used (l : List UInt8) (q : Option Par) (k : Nat) (h : parStep l = some (some (q, k))) :
    0 < k ∧ k ≤ l.length ∧ ∀ p, q = some p → 0 < p.1.length ∧ p.1.length + p.2.1.length ≤ k := by
  unfold parStep at h
  by_cases h0 : l[runL isBl l]? = some 59
  · rw [if_pos h0] at h
    simp only at h
    have hlt : runL isBl l < l.length := (List.getElem?_eq_some_iff.1 h0).1
    generalize hr : l.drop (runL isBl l + 1) = r at h
    have hrl : r.length + (runL isBl l + 1) = l.length := by rw [← hr, List.length_drop]; omega
    have hb := runL_le isBl r
    generalize runL isBl r = b at h hb
    have hn := runL_le isSg (r.drop b)
    rw [List.length_drop] at hn
    generalize hnn : runL isSg (r.drop b) = n at h hn
    split at h
    · injection h with h; injection h with h; injection h with h1 h2
      subst h1; subst h2
      exact ⟨by omega, by omega, fun p hp => by cases hp⟩
    · split at h
      · have h61 : (r.drop (b + n))[0]? = some 61 := by assumption
        have hl0 : 0 < (r.drop (b + n)).length := (List.getElem?_eq_some_iff.1 h61).1
        rw [List.length_drop] at hl0
        cases hv : valP (r.drop (b + n + 1)) with
        | none => rw [hv] at h; simp at h
        | some x =>
          obtain ⟨v, m⟩ := x
          rw [hv] at h
          simp only [Option.some.injEq, Prod.mk.injEq] at h
          obtain ⟨h1, h2⟩ := h
          have hu := valP_used _ _ _ hv
          rw [List.length_drop] at hu
          refine ⟨by omega, by omega, fun p hp => ?_⟩
          rw [← h1] at hp
          injection hp with hp
          subst hp
          simp only [List.length_take, List.length_drop]
          omega
      · simp only [Option.some.injEq, Prod.mk.injEq] at h
        obtain ⟨h1, h2⟩ := h
        refine ⟨by omega, by omega, fun p hp => ?_⟩
        rw [← h1] at hp
        injection hp with hp
        subst hp
        simp only [List.length_take, List.length_drop, List.length_nil]
        omega
  · rw [if_neg h0] at h; simp at h
theorem parF_more : ∀ (f g : Nat) (l : List UInt8), l.length < f → l.length < g → parF f l = parF g l
  | 0, _, l, h, _ => by omega
  | _ + 1, 0, l, _, h => by omega
  | f + 1, g + 1, l, hf, hg => by
    unfold parF
    cases hs : parStep l with
    | none => rfl
    | some x =>
      cases x with
      | none => rfl
      | some y =>
        obtain ⟨q, k⟩ := y
        have hu := parStep_used l q k hs
        simp only
        rw [parF_more f g (l.drop k) (by rw [List.length_drop]; omega) (by rw [List.length_drop]; omega)]
theorem parP_stop (l : List UInt8) (h : parStep l = none) : parP l = some ([], 0) := by unfold parP parF; rw [h]
theorem parP_fault (l : List UInt8) (h : parStep l = some none) : parP l = none := by unfold parP parF; rw [h]
theorem parP_step (l : List UInt8) (q : Option Par) (k : Nat) (h : parStep l = some (some (q, k))) : parP l = (parP (l.drop k)).map fun x => (q.toList ++ x.1, k + x.2) := by
  have hu := parStep_used l q k h
  have e : parP l = (parF l.length (l.drop k)).map fun x => (q.toList ++ x.1, k + x.2) := by
    show parF (l.length + 1) l = _
    rw [parF.eq_def]
    simp only [h]
  rw [e, parF_more l.length ((l.drop k).length + 1) (l.drop k) (by rw [List.length_drop]; omega) (by omega)]
  rfl
/-- Bytes that parameters have. -/
theorem parP_used (n : Nat) : ∀ (l : List UInt8) (ps : List Par) (k : Nat), l.length ≤ n → parP l = some (ps, k) → k ≤ l.length ∧ ps.length ≤ k ∧ (∀ p ∈ ps, 0 < p.1.length ∧ p.1.length + p.2.1.length ≤ k) := by
  induction n with
  | zero =>
    intro l ps k hl h
    have hs : parStep l = none := by
      obtain rfl : l = [] := List.eq_nil_of_length_eq_zero (by omega)
      rfl
    rw [parP_stop l hs] at h
    injection h with h; injection h with h1 h2
    subst h1; subst h2
    simp
  | succ n ih =>
    intro l ps k hl h
    cases hs : parStep l with
    | none =>
      rw [parP_stop l hs] at h
      injection h with h; injection h with h1 h2
      subst h1; subst h2
      simp
    | some x =>
      cases x with
      | none => rw [parP_fault l hs] at h; cases h
      | some y =>
        obtain ⟨q, m⟩ := y
        have hu := parStep_used l q m hs
        rw [parP_step l q m hs] at h
        obtain ⟨⟨qs, u⟩, hq, he⟩ := Option.map_eq_some_iff.1 h
        injection he with e1 e2
        subst e1; subst e2
        have := ih (l.drop m) qs u (by rw [List.length_drop]; omega) hq
        rw [List.length_drop] at this
        refine ⟨by omega, ?_, ?_⟩
        · rw [List.length_append]
          cases q <;> simp <;> omega
        · intro p hp
          rw [List.mem_append] at hp
          rcases hp with hp | hp
          · have := hu.2.2 p (by cases q with
              | none => simp at hp
              | some q => obtain rfl : p = q := (by simpa using hp); rfl)
            omega
          · have := this.2.2 p hp; omega
/-- A list's elements, from a place on: cur stands before it. -/
def lstF : Nat → List UInt8 → List UInt8 → Option (List (List UInt8))
  | 0, cur, _ => some [cur]
  | f + 1, cur, l =>
    match l with
    | [] => some [cur]
    | c :: r =>
      if c = 34 then
        match unq (c :: r) with
        | none => none
        | some (_, n) => lstF f (cur ++ (c :: r).take n) ((c :: r).drop n)
      else if c = 44 then (lstF f [] r).map (cur :: ·)
      else lstF f (cur ++ [c]) r
def lstR (cur l : List UInt8) : Option (List (List UInt8)) := lstF (l.length + 1) cur l
/-- What stays: trimmed, not empty. -/
def fulls (l : List (List UInt8)) : List (List UInt8) := (l.map trimL).filter (· ≠ [])
def lstP (l : List UInt8) : Option (List (List UInt8)) := (lstR [] l).map fulls
theorem lstF_more : ∀ (f g : Nat) (cur l : List UInt8), l.length < f → l.length < g → lstF f cur l = lstF g cur l
  | 0, _, _, l, h, _ => by omega
  | _ + 1, 0, _, l, _, h => by omega
  | f + 1, g + 1, cur, [], hf, hg => rfl
  | f + 1, g + 1, cur, c :: r, hf, hg => by
    simp only [List.length_cons] at hf hg
    rw [lstF.eq_def, lstF.eq_def (g + 1)]
    simp only
    by_cases h1 : c = 34
    · rw [if_pos h1, if_pos h1]
      cases hu : unq (c :: r) with
      | none => rfl
      | some x =>
        obtain ⟨y, n⟩ := x
        have := unq_used _ _ _ hu
        simp only
        exact lstF_more f g _ _ (by rw [List.length_drop, List.length_cons]; omega) (by rw [List.length_drop, List.length_cons]; omega)
    · rw [if_neg h1, if_neg h1]
      by_cases h2 : c = 44
      · rw [if_pos h2, if_pos h2, lstF_more f g [] r (by omega) (by omega)]
      · rw [if_neg h2, if_neg h2, lstF_more f g _ r (by omega) (by omega)]
theorem lstR_nil (cur : List UInt8) : lstR cur [] = some [cur] := rfl
theorem lstR_bad (cur r : List UInt8) (h : unq (34 :: r) = none) : lstR cur (34 :: r) = none := by
  unfold lstR
  rw [lstF.eq_def]
  simp only [if_true, h]
theorem lstR_quote (cur r x : List UInt8) (n : Nat) (h : unq (34 :: r) = some (x, n)) : lstR cur (34 :: r) = lstR (cur ++ (34 :: r).take n) ((34 :: r).drop n) := by
  have := unq_used _ _ _ h
  rw [List.length_cons] at this
  rw [show lstR cur (34 :: r) = lstF (r.length + 1) (cur ++ (34 :: r).take n) ((34 :: r).drop n) from by
    unfold lstR
    rw [lstF.eq_def]
    simp only [if_true, h, List.length_cons]]
  exact lstF_more _ _ _ _ (by rw [List.length_drop, List.length_cons]; omega) (by omega)
theorem lstR_comma (cur r : List UInt8) : lstR cur (44 :: r) = (lstR [] r).map (cur :: ·) := by
  unfold lstR
  rw [lstF.eq_def]
  simp only [if_neg (show ¬ (44 : UInt8) = 34 from by decide), if_true, List.length_cons]
theorem lstR_other (cur r : List UInt8) (c : UInt8) (h1 : c ≠ 34) (h2 : c ≠ 44) : lstR cur (c :: r) = lstR (cur ++ [c]) r := by
  unfold lstR
  rw [lstF.eq_def]
  simp only [if_neg h1, if_neg h2, List.length_cons]
/-- Trimming: from the front, from the back. -/
theorem dropWhile_suffix_len (p : UInt8 → Bool) (l : List UInt8) : (l.dropWhile p).length ≤ l.length := (List.dropWhile_sublist p).length_le
theorem trimL_len (l : List UInt8) : (trimL l).length ≤ l.length := by
  unfold trimL
  rw [List.length_reverse]
  refine Nat.le_trans (dropWhile_suffix_len _ _) ?_
  rw [List.length_reverse]
  exact dropWhile_suffix_len _ _
def trimR (l : List UInt8) : List UInt8 := (l.reverse.dropWhile isBl).reverse
theorem trimR_snoc_bl (l : List UInt8) (c : UInt8) (h : isBl c = true) : trimR (l ++ [c]) = trimR l := by
  unfold trimR; rw [List.reverse_append]; simp [h]
theorem trimR_snoc_other (l : List UInt8) (c : UInt8) (h : isBl c = false) : trimR (l ++ [c]) = l ++ [c] := by
  unfold trimR; rw [List.reverse_append]; simp [h]
theorem trimR_nil : trimR [] = [] := rfl
theorem trimL_eq (l : List UInt8) : trimL l = trimR (l.dropWhile isBl) := rfl
theorem lowL_len (l : List UInt8) : (lowL l).length = l.length := by unfold lowL; rw [List.length_map]
/-- What stands for itself in a list. -/
theorem fulls_snoc (l : List (List UInt8)) (x : List UInt8) : fulls (l ++ [x]) = fulls l ++ if trimL x = [] then [] else [trimL x] := by
  unfold fulls
  rw [List.map_append, List.filter_append]
  congr 1
  by_cases h : trimL x = [] <;> simp [h]
theorem fulls_len (l : List (List UInt8)) : (fulls l).length ≤ l.length := by
  unfold fulls
  refine Nat.le_trans (List.length_filter_le _ _) ?_
  rw [List.length_map]; omega
end Go.Proofs.YtdlpbpikhmciaaaGreatDoor
namespace Go.Proofs.YtdlpbpikhmciaaaGreatDoor
open Go.RowKit
set_option linter.unusedSimpArgs false
set_option linter.unusedVariables false
def isLt (c : UInt8) : Bool := (65 ≤ c.toNat && c.toNat ≤ 90) || (97 ≤ c.toNat && c.toNat ≤ 122)
def isDg (c : UInt8) : Bool := 48 ≤ c.toNat && c.toNat ≤ 57
def nmC (i : Nat) (c : UInt8) : Bool := isLt c || (decide (0 < i) && (isDg c || c.toNat == 95))
def okN : Nat → List UInt8 → Bool
  | _, [] => true
  | i, c :: r => nmC i c && okN (i + 1) r
/-- A parameter's name. -/
def isNm (l : List UInt8) : Bool := !l.isEmpty && okN 0 l
/-- The raw value of the first parameter of a name. -/
def valL : List Par → List UInt8 → List UInt8
  | [], _ => []
  | p :: r, n => if p.1 = n then p.2.1 else valL r n
/-- What a reference says from a place on; some n: within braces, behind n. -/
def rf (ps : List Par) : Option (List UInt8) → List UInt8 → Option (List UInt8)
  | none, [] => some []
  | some _, [] => none
  | none, c :: r => if c.toNat = 125 then none else if c.toNat = 123 then rf ps (some []) r else (rf ps none r).map (c :: ·)
  | some n, c :: r => if c.toNat = 125 then (if isNm n then (rf ps none r).map (valL ps n ++ ·) else none) else if c.toNat = 123 then none else rf ps (some (n ++ [c])) r
def refR (ps : List Par) (l : List UInt8) : Option (List UInt8) := if l.isEmpty || !isFld l || !(trimL l == l) then none else rf ps none l
theorem okN_high (i : Nat) (c : UInt8) (r : List UInt8) (h : 128 ≤ c.toNat) : okN i (c :: r) = false := by
  have h1 : nmC i c = false := by
    unfold nmC isLt isDg
    simp only [Bool.or_eq_false_iff, Bool.and_eq_false_iff, decide_eq_false_iff_not, beq_eq_false_iff_ne]
    exact ⟨⟨.inr (by omega), .inr (by omega)⟩, .inr ⟨.inr (by omega), by omega⟩⟩
  show (nmC i c && okN (i + 1) r) = false
  rw [h1]; rfl
theorem okN_bad (i : Nat) (c : UInt8) (r : List UInt8) (h : nmC i c = false) : okN i (c :: r) = false := by
  show (nmC i c && okN (i + 1) r) = false
  rw [h]; rfl
theorem okN_good (i : Nat) (c : UInt8) (r : List UInt8) (h : nmC i c = true) : okN i (c :: r) = okN (i + 1) r := by
  show (nmC i c && okN (i + 1) r) = _
  rw [h]; rfl
theorem okN_app (c : UInt8) (r : List UInt8) : ∀ (l : List UInt8) (i : Nat), okN i (l ++ c :: r) = true → nmC (i + l.length) c = true
  | [], i, h => by
    have : (nmC i c && okN (i + 1) r) = true := h
    simp only [Bool.and_eq_true] at this
    exact this.1
  | d :: t, i, h => by
    have : (nmC i d && okN (i + 1) (t ++ c :: r)) = true := h
    simp only [Bool.and_eq_true] at this
    have h2 := okN_app c r t (i + 1) this.2
    rw [List.length_cons, show i + (t.length + 1) = i + 1 + t.length by omega]
    exact h2
/-- A brace is in no name. -/
theorem isNm_brace (l : List UInt8) (h : ∃ c ∈ l, c.toNat = 123) : isNm l = false := by
  obtain ⟨c, hc, he⟩ := h
  obtain ⟨a, b, rfl⟩ := List.append_of_mem hc
  cases hx : okN 0 (a ++ c :: b) with
  | false => unfold isNm; rw [hx, Bool.and_false]
  | true =>
    exfalso
    have := okN_app c b a 0 hx
    unfold nmC isLt isDg at this
    simp only [Bool.or_eq_true, Bool.and_eq_true, decide_eq_true_eq, beq_iff_eq] at this
    omega
/-- Steps over what is no brace. -/
theorem rf_none (ps : List Par) (c : UInt8) (r : List UInt8) (h1 : c.toNat ≠ 125) (h2 : c.toNat ≠ 123) : rf ps none (c :: r) = (rf ps none r).map (c :: ·) := by
  rw [rf.eq_def]; simp only [if_neg h1, if_neg h2]
theorem rf_some (ps : List Par) (n : List UInt8) (c : UInt8) (r : List UInt8) (h1 : c.toNat ≠ 125) (h2 : c.toNat ≠ 123) : rf ps (some n) (c :: r) = rf ps (some (n ++ [c])) r := by
  rw [rf.eq_def]; simp only [if_neg h1, if_neg h2]
theorem rf_open (ps : List Par) (c : UInt8) (r : List UInt8) (h : c.toNat = 123) : rf ps none (c :: r) = rf ps (some []) r := by
  rw [rf.eq_def]; simp only [h, if_true]; rfl
theorem rf_stray (ps : List Par) (c : UInt8) (r : List UInt8) (h : c.toNat = 125) : rf ps none (c :: r) = none := by
  rw [rf.eq_def]; simp only [h, if_true]
theorem rf_twice (ps : List Par) (n : List UInt8) (c : UInt8) (r : List UInt8) (h : c.toNat = 123) : rf ps (some n) (c :: r) = none := by
  rw [rf.eq_def]; simp only [h, if_true]; rfl
theorem rf_shut (ps : List Par) (n : List UInt8) (c : UInt8) (r : List UInt8) (h : c.toNat = 125) (hn : isNm n = true) : rf ps (some n) (c :: r) = (rf ps none r).map (valL ps n ++ ·) := by
  rw [rf.eq_def]; simp only [h, if_true, hn]
theorem rf_badname (ps : List Par) (n : List UInt8) (c : UInt8) (r : List UInt8) (h : c.toNat = 125) (hn : isNm n = false) : rf ps (some n) (c :: r) = none := by
  rw [rf.eq_def]; simp only [h, if_true, hn]; rfl
theorem rf_none_skip (ps : List Par) : ∀ (a r : List UInt8), (∀ c ∈ a, 128 ≤ c.toNat) → rf ps none (a ++ r) = (rf ps none r).map (a ++ ·)
  | [], r, _ => by simp
  | c :: a, r, h => by
    have hc := h c (by simp)
    rw [List.cons_append, rf_none ps c _ (by omega) (by omega), rf_none_skip ps a r (fun d hd => h d (by simp [hd])), Option.map_map]
    rfl
theorem rf_some_skip (ps : List Par) : ∀ (a r n : List UInt8), (∀ c ∈ a, 128 ≤ c.toNat) → rf ps (some n) (a ++ r) = rf ps (some (n ++ a)) r
  | [], r, n, _ => by simp
  | c :: a, r, n, h => by
    have hc := h c (by simp)
    rw [List.cons_append, rf_some ps n c _ (by omega) (by omega), rf_some_skip ps a r (n ++ [c]) (fun d hd => h d (by simp [hd])), List.append_assoc]
    rfl
theorem rf_some_none (ps : List Par) : ∀ (l n : List UInt8), (∀ c ∈ l, c.toNat ≠ 125) → rf ps (some n) l = none
  | [], n, _ => rfl
  | c :: r, n, h => by
    have hc := h c (by simp)
    by_cases h2 : c.toNat = 123
    · exact rf_twice ps n c r h2
    · rw [rf_some ps n c r hc h2]
      exact rf_some_none ps r _ (fun d hd => h d (by simp [hd]))
/-- Up to the first closing brace, whatever stands before it: the document's way. -/
theorem rf_some_to (ps : List Par) : ∀ (a : List UInt8) (n : List UInt8) (c : UInt8) (r : List UInt8), (∀ d ∈ a, d.toNat ≠ 125) → c.toNat = 125 →
    rf ps (some n) (a ++ c :: r) = if isNm (n ++ a) then (rf ps none r).map (valL ps (n ++ a) ++ ·) else none
  | [], n, c, r, _, hc => by
    rw [List.append_nil, List.nil_append]
    cases hn : isNm n with
    | true => rw [rf_shut ps n c r hc hn]; rfl
    | false => rw [rf_badname ps n c r hc hn]; rfl
  | d :: a, n, c, r, h, hc => by
    have hd := h d (by simp)
    by_cases h2 : d.toNat = 123
    · rw [List.cons_append, rf_twice ps n d _ h2, isNm_brace (n ++ d :: a) ⟨d, by simp, h2⟩]; rfl
    · rw [List.cons_append, rf_some ps n d _ hd h2, rf_some_to ps a (n ++ [d]) c r (fun x hx => h x (by simp [hx])) hc, List.append_assoc]; rfl
set_option maxRecDepth 100000 in
set_option maxHeartbeats 2000000 in
theorem decode_wide (s : ByteArray) (pos : Nat) (h : pos < s.size) (ha : 128 ≤ (s[pos]'h).toNat) :
    1 ≤ (Utf8.decode s pos).2 ∧ pos + (Utf8.decode s pos).2 ≤ s.size ∧ ∀ k, k < (Utf8.decode s pos).2 → 128 ≤ (s.get! (pos + k)).toNat := by
  have hn : ¬ (s[pos]'h).toNat < 128 := by omega
  have h0 : 128 ≤ (s.get! (pos + 0)).toNat := by rw [get_at s pos h]; exact ha
  refine ⟨(decode_high s pos h ha).2, ?_⟩
  simp only [Utf8.decode, get_at s pos h, hn, if_false]
  repeat' split
  all_goals simp only [Bool.and_eq_true, decide_eq_true_eq, beq_iff_eq] at *
  all_goals refine ⟨by omega, fun k hk => ?_⟩
  all_goals (rcases k with _ | _ | _ | _ | k)
  all_goals first | (rw [Nat.add_zero]; exact h0) | omega | (simp only [Nat.zero_add, Nat.reduceAdd]; omega)
/-- A rune beyond ASCII: what a range steps over. -/
theorem rune_high (s : ByteArray) (pos : Nat) (h : pos < s.size) (ha : 128 ≤ (s[pos]'h).toNat) :
    ∃ a, s.data.toList.drop pos = a ++ s.data.toList.drop (pos + (Utf8.decode s pos).2) ∧ (∀ c ∈ a, 128 ≤ c.toNat) ∧ a.length = (Utf8.decode s pos).2 ∧ pos + (Utf8.decode s pos).2 ≤ s.size ∧ 1 ≤ (Utf8.decode s pos).2 ∧ 128 ≤ (Utf8.decode s pos).1 ∧ a = (s.data.toList.drop pos).take (Utf8.decode s pos).2 := by
  obtain ⟨h1, h2, h3⟩ := decode_wide s pos h ha
  have h4 := (decode_high s pos h ha).1
  generalize (Utf8.decode s pos).2 = n at h1 h2 h3 ⊢
  refine ⟨(s.data.toList.drop pos).take n, ?_, ?_, ?_, h2, h1, h4, rfl⟩
  · rw [← List.drop_drop, List.take_append_drop]
  · intro c hc
    obtain ⟨k, hk, he⟩ := List.mem_iff_getElem.1 hc
    rw [List.length_take, List.length_drop, size_list] at hk
    have hk' : k < n := by omega
    have hx := h3 k hk'
    rw [List.getElem_take, List.getElem_drop] at he
    have : s.get! (pos + k) = c := by
      rw [← he]
      have hp : pos + k < s.size := by omega
      have hp2 := get_at s (pos + k) hp
      rw [Nat.add_zero] at hp2
      rw [hp2]; rfl
    rw [← this]; exact hx
  · rw [List.length_take, List.length_drop, size_list]; omega
end Go.Proofs.YtdlpbpikhmciaaaGreatDoor
