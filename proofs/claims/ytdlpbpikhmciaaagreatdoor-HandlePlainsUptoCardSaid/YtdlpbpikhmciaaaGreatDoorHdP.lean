/- Names of parameters, references, handlers: plain functions on lists of bytes; what a range over a text's runes steps over. No program is named. No conditions. -/
import Derived.Test.YtdlpbpikhmciaaaGreatDoorOctP
import Derived.Laws.RangeAny
namespace Go.Proofs.YtdlpbpikhmciaaaGreatDoor
open Go.RowKit
set_option linter.unusedSimpArgs false
set_option linter.unusedVariables false
def isLt (c : UInt8) : Bool := (65 ≤ c.toNat && c.toNat ≤ 90) || (97 ≤ c.toNat && c.toNat ≤ 122)
def isDg (c : UInt8) : Bool := 48 ≤ c.toNat && c.toNat ≤ 57
def nmC (i : Nat) (c : UInt8) : Bool := isLt c || (decide (0 < i) && (isDg c || c.toNat == 95))
def okN : Nat → List UInt8 → Bool
  | _, [] => true
  | i, c :: r => nmC i c && okN (i + 1) r
/-- A parameter's name. -/
def isNm (l : List UInt8) : Bool := !l.isEmpty && okN 0 l
/-- The raw value of the first parameter of a name. -/
def valL : List Par → List UInt8 → List UInt8
  | [], _ => []
  | p :: r, n => if p.1 = n then p.2.1 else valL r n
/-- What a reference says from a place on; some n: within braces, behind n. -/
def rf (ps : List Par) : Option (List UInt8) → List UInt8 → Option (List UInt8)
  | none, [] => some []
  | some _, [] => none
  | none, c :: r => if c.toNat = 125 then none else if c.toNat = 123 then rf ps (some []) r else (rf ps none r).map (c :: ·)
  | some n, c :: r => if c.toNat = 125 then (if isNm n then (rf ps none r).map (valL ps n ++ ·) else none) else if c.toNat = 123 then none else rf ps (some (n ++ [c])) r
def refR (ps : List Par) (l : List UInt8) : Option (List UInt8) := if l.isEmpty || !isFld l || !(trimL l == l) then none else rf ps none l
theorem okN_high (i : Nat) (c : UInt8) (r : List UInt8) (h : 128 ≤ c.toNat) : okN i (c :: r) = false := by
  have h1 : nmC i c = false := by
    unfold nmC isLt isDg
    simp only [Bool.or_eq_false_iff, Bool.and_eq_false_iff, decide_eq_false_iff_not, beq_eq_false_iff_ne]
    exact ⟨⟨.inr (by omega), .inr (by omega)⟩, .inr ⟨.inr (by omega), by omega⟩⟩
  show (nmC i c && okN (i + 1) r) = false
  rw [h1]; rfl
theorem okN_bad (i : Nat) (c : UInt8) (r : List UInt8) (h : nmC i c = false) : okN i (c :: r) = false := by
  show (nmC i c && okN (i + 1) r) = false
  rw [h]; rfl
theorem okN_good (i : Nat) (c : UInt8) (r : List UInt8) (h : nmC i c = true) : okN i (c :: r) = okN (i + 1) r := by
  show (nmC i c && okN (i + 1) r) = _
  rw [h]; rfl
theorem okN_app (c : UInt8) (r : List UInt8) : ∀ (l : List UInt8) (i : Nat), okN i (l ++ c :: r) = true → nmC (i + l.length) c = true
  | [], i, h => by
    have : (nmC i c && okN (i + 1) r) = true := h
    simp only [Bool.and_eq_true] at this
    exact this.1
  | d :: t, i, h => by
    have : (nmC i d && okN (i + 1) (t ++ c :: r)) = true := h
    simp only [Bool.and_eq_true] at this
    have h2 := okN_app c r t (i + 1) this.2
    rw [List.length_cons, show i + (t.length + 1) = i + 1 + t.length by omega]
    exact h2
/-- A brace is in no name. -/
theorem isNm_brace (l : List UInt8) (h : ∃ c ∈ l, c.toNat = 123) : isNm l = false := by
  obtain ⟨c, hc, he⟩ := h
  obtain ⟨a, b, rfl⟩ := List.append_of_mem hc
  cases hx : okN 0 (a ++ c :: b) with
  | false => unfold isNm; rw [hx, Bool.and_false]
  | true =>
    exfalso
    have := okN_app c b a 0 hx
    unfold nmC isLt isDg at this
    simp only [Bool.or_eq_true, Bool.and_eq_true, decide_eq_true_eq, beq_iff_eq] at this
    omega
/-- Steps over what is no brace. -/
theorem rf_none (ps : List Par) (c : UInt8) (r : List UInt8) (h1 : c.toNat ≠ 125) (h2 : c.toNat ≠ 123) : rf ps none (c :: r) = (rf ps none r).map (c :: ·) := by
  rw [rf.eq_def]; simp only [if_neg h1, if_neg h2]
theorem rf_some (ps : List Par) (n : List UInt8) (c : UInt8) (r : List UInt8) (h1 : c.toNat ≠ 125) (h2 : c.toNat ≠ 123) : rf ps (some n) (c :: r) = rf ps (some (n ++ [c])) r := by
  rw [rf.eq_def]; simp only [if_neg h1, if_neg h2]
theorem rf_open (ps : List Par) (c : UInt8) (r : List UInt8) (h : c.toNat = 123) : rf ps none (c :: r) = rf ps (some []) r := by
  rw [rf.eq_def]; simp only [h, if_true]; rfl
theorem rf_stray (ps : List Par) (c : UInt8) (r : List UInt8) (h : c.toNat = 125) : rf ps none (c :: r) = none := by
  rw [rf.eq_def]; simp only [h, if_true]
theorem rf_twice (ps : List Par) (n : List UInt8) (c : UInt8) (r : List UInt8) (h : c.toNat = 123) : rf ps (some n) (c :: r) = none := by
  rw [rf.eq_def]; simp only [h, if_true]; rfl
theorem rf_shut (ps : List Par) (n : List UInt8) (c : UInt8) (r : List UInt8) (h : c.toNat = 125) (hn : isNm n = true) : rf ps (some n) (c :: r) = (rf ps none r).map (valL ps n ++ ·) := by
  rw [rf.eq_def]; simp only [h, if_true, hn]
theorem rf_badname (ps : List Par) (n : List UInt8) (c : UInt8) (r : List UInt8) (h : c.toNat = 125) (hn : isNm n = false) : rf ps (some n) (c :: r) = none := by
  rw [rf.eq_def]; simp only [h, if_true, hn]; rfl
theorem rf_none_skip (ps : List Par) : ∀ (a r : List UInt8), (∀ c ∈ a, 128 ≤ c.toNat) → rf ps none (a ++ r) = (rf ps none r).map (a ++ ·)
  | [], r, _ => by simp
  | c :: a, r, h => by
    have hc := h c (by simp)
    rw [List.cons_append, rf_none ps c _ (by omega) (by omega), rf_none_skip ps a r (fun d hd => h d (by simp [hd])), Option.map_map]
    rfl
theorem rf_some_skip (ps : List Par) : ∀ (a r n : List UInt8), (∀ c ∈ a, 128 ≤ c.toNat) → rf ps (some n) (a ++ r) = rf ps (some (n ++ a)) r
  | [], r, n, _ => by simp
  | c :: a, r, n, h => by
    have hc := h c (by simp)
    rw [List.cons_append, rf_some ps n c _ (by omega) (by omega), rf_some_skip ps a r (n ++ [c]) (fun d hd => h d (by simp [hd])), List.append_assoc]
    rfl
theorem rf_some_none (ps : List Par) : ∀ (l n : List UInt8), (∀ c ∈ l, c.toNat ≠ 125) → rf ps (some n) l = none
  | [], n, _ => rfl
  | c :: r, n, h => by
    have hc := h c (by simp)
    by_cases h2 : c.toNat = 123
    · exact rf_twice ps n c r h2
    · rw [rf_some ps n c r hc h2]
      exact rf_some_none ps r _ (fun d hd => h d (by simp [hd]))
/-- Up to the first closing brace, whatever stands before it: the document's way. -/
theorem rf_some_to (ps : List Par) : ∀ (a : List UInt8) (n : List UInt8) (c : UInt8) (r : List UInt8), (∀ d ∈ a, d.toNat ≠ 125) → c.toNat = 125 →
    rf ps (some n) (a ++ c :: r) = if isNm (n ++ a) then (rf ps none r).map (valL ps (n ++ a) ++ ·) else none
  | [], n, c, r, _, hc => by
    rw [List.append_nil, List.nil_append]
    cases hn : isNm n with
    | true => rw [rf_shut ps n c r hc hn]; rfl
    | false => rw [rf_badname ps n c r hc hn]; rfl
  | d :: a, n, c, r, h, hc => by
    have hd := h d (by simp)
    by_cases h2 : d.toNat = 123
    · rw [List.cons_append, rf_twice ps n d _ h2, isNm_brace (n ++ d :: a) ⟨d, by simp, h2⟩]; rfl
    · rw [List.cons_append, rf_some ps n d _ hd h2, rf_some_to ps a (n ++ [d]) c r (fun x hx => h x (by simp [hx])) hc, List.append_assoc]; rfl
set_option maxRecDepth 100000 in
set_option maxHeartbeats 2000000 in
theorem decode_wide (s : ByteArray) (pos : Nat) (h : pos < s.size) (ha : 128 ≤ (s[pos]'h).toNat) :
    1 ≤ (Utf8.decode s pos).2 ∧ pos + (Utf8.decode s pos).2 ≤ s.size ∧ ∀ k, k < (Utf8.decode s pos).2 → 128 ≤ (s.get! (pos + k)).toNat := by
  have hn : ¬ (s[pos]'h).toNat < 128 := by omega
  have h0 : 128 ≤ (s.get! (pos + 0)).toNat := by rw [get_at s pos h]; exact ha
  refine ⟨(decode_high s pos h ha).2, ?_⟩
  simp only [Utf8.decode, get_at s pos h, hn, if_false]
  repeat' split
  all_goals simp only [Bool.and_eq_true, decide_eq_true_eq, beq_iff_eq] at *
  all_goals refine ⟨by omega, fun k hk => ?_⟩
  all_goals (rcases k with _ | _ | _ | _ | k)
  all_goals first | (rw [Nat.add_zero]; exact h0) | omega | (simp only [Nat.zero_add, Nat.reduceAdd]; omega)
/-- A rune beyond ASCII: what a range steps over. -/
theorem rune_high (s : ByteArray) (pos : Nat) (h : pos < s.size) (ha : 128 ≤ (s[pos]'h).toNat) :
    ∃ a, s.data.toList.drop pos = a ++ s.data.toList.drop (pos + (Utf8.decode s pos).2) ∧ (∀ c ∈ a, 128 ≤ c.toNat) ∧ a.length = (Utf8.decode s pos).2 ∧ pos + (Utf8.decode s pos).2 ≤ s.size ∧ 1 ≤ (Utf8.decode s pos).2 ∧ 128 ≤ (Utf8.decode s pos).1 ∧ a = (s.data.toList.drop pos).take (Utf8.decode s pos).2 := by
  obtain ⟨h1, h2, h3⟩ := decode_wide s pos h ha
  have h4 := (decode_high s pos h ha).1
  generalize (Utf8.decode s pos).2 = n at h1 h2 h3 ⊢
  refine ⟨(s.data.toList.drop pos).take n, ?_, ?_, ?_, h2, h1, h4, rfl⟩
  · rw [← List.drop_drop, List.take_append_drop]
  · intro c hc
    obtain ⟨k, hk, he⟩ := List.mem_iff_getElem.1 hc
    rw [List.length_take, List.length_drop, size_list] at hk
    have hk' : k < n := by omega
    have hx := h3 k hk'
    rw [List.getElem_take, List.getElem_drop] at he
    have : s.get! (pos + k) = c := by
      rw [← he]
      have hp : pos + k < s.size := by omega
      have hp2 := get_at s (pos + k) hp
      rw [Nat.add_zero] at hp2
      rw [hp2]; rfl
    rw [← this]; exact hx
  · rw [List.length_take, List.length_drop, size_list]; omega
end Go.Proofs.YtdlpbpikhmciaaaGreatDoor
