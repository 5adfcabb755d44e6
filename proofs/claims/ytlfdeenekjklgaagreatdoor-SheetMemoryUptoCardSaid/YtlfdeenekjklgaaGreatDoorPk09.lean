/- PsI, PsF: texts of the seat, one behind the other (a claim holds at most sixty). Conditions: each theorem names its own. -/
import Derived.Test.YtlfdeenekjklgaaGreatDoorPk08
namespace Go.Proofs.YtlfdeenekjklgaaGreatDoor
open Go.RowKit
set_option linter.unusedSimpArgs false
set_option linter.unusedVariables false
set_option maxRecDepth 1000000
theorem endL_eq (b X : List UInt8) : endL b ++ X = (45 :: 45 :: b) ++ 45 :: 45 :: 13 :: 10 :: X := by unfold endL; simp
theorem stood_all (l : List Prt) (t : List UInt8) (h : stood l t = false) : ∀ p ∈ l, std t p = false := by
  unfold stood at h
  rw [List.any_eq_false] at h
  intro p hp
  exact Bool.eq_false_iff.2 (h p hp)
theorem wrt_parts (b s : List UInt8) (l : List Prt) (h : wrtR b l = (s, 0)) : isMrk b = true ∧ l ≠ [] ∧ (∀ p ∈ l, okP p = true ∧ std (45 :: 45 :: b) p = false) ∧ s = l.flatMap (partB b) ++ endL b := by
  unfold wrtR at h
  by_cases h1 : (!isMrk b || stood l (45 :: 45 :: b)) = true
  · rw [if_pos h1] at h; cases h
  · rw [if_neg h1] at h
    by_cases h2 : l = []
    · rw [if_pos h2] at h; cases h
    · rw [if_neg h2] at h
      by_cases h3 : l.all okP = true
      · rw [if_pos h3] at h
        injection h with h _
        simp only [Bool.not_eq_true, Bool.or_eq_false_iff, Bool.not_eq_false] at h1
        have hs := stood_all l _ h1.2
        rw [List.all_eq_true] at h3
        exact ⟨by simpa using h1.1, h2, fun p hp => ⟨h3 p hp, hs p hp⟩, h.symm⟩
      · rw [if_neg h3] at h; cases h
theorem wrt_bad0 (b : List UInt8) (l : List Prt) (h : (wrtR b l).2 ≠ 0) : (wrtR b l).1 = [] := by
  unfold wrtR at h ⊢
  split
  · rfl
  · split
    · rfl
    · split
      · rename_i h1 h2 h3
        rw [if_neg h1, if_neg h2, if_pos h3] at h
        exact absurd rfl h
      · rfl
theorem flat_len (b : List UInt8) : ∀ l : List Prt, l.length ≤ (l.flatMap (partB b)).length
  | [] => Nat.le_refl _
  | p :: l => by
    have := flat_len b l
    have h2 := partB_size b p
    rw [List.flatMap_cons, List.length_append, List.length_cons]
    omega
theorem psR_on (b s : List UInt8) (most : Int) (hb : isMrk b = true) (hm : 1 ≤ most) : psR b s most = alF (s.length + 2) (45 :: 45 :: b) s most [] (fst9 (45 :: 45 :: b) s 0) := by
  unfold psR
  rw [if_neg (by rw [hb]; simp), if_neg (by omega)]
theorem fst9_zero (mk s : List UInt8) (h : mk.isPrefixOf s = true) : fst9 mk s 0 = some 0 := by
  unfold fst9
  rw [if_pos ⟨rfl, h⟩]
theorem psR_back (b : List UInt8) (l : List Prt) (hb : isMrk b = true) (h0 : l ≠ []) (hok : ∀ p ∈ l, okP p = true ∧ std (45 :: 45 :: b) p = false) : psR b (l.flatMap (partB b) ++ endL b) (l.length : Nat) = (l, 0, 0) := by
  have hl := List.length_pos_iff.2 h0
  have hfl := flat_len b l
  have he := endL_eq b []
  rw [List.append_nil] at he
  rw [psR_on b _ _ hb (by omega)]
  obtain ⟨r, hr⟩ := rest_mk b [45, 45, 13, 10] l
  rw [he]
  rw [fst9_zero _ _ (by rw [hr]; exact pre_app _ r)]
  exact al_back b _ [13, 10] _ hb (Or.inr rfl) l [] 0 _ rfl hok (Or.inr h0) (by simp) (by rw [List.length_append]; omega)
theorem psR_less (b : List UInt8) (l : List Prt) (hb : isMrk b = true) (h1 : 1 < l.length) (hok : ∀ p ∈ l, okP p = true ∧ std (45 :: 45 :: b) p = false) : ∃ a, psR b (l.flatMap (partB b) ++ endL b) ((l.length : Nat) - 1) = ([], a, 153) := by
  have h0 : l ≠ [] := by rintro rfl; simp at h1
  have hfl := flat_len b l
  have he := endL_eq b []
  rw [List.append_nil] at he
  rw [psR_on b _ _ hb (by omega)]
  obtain ⟨r, hr⟩ := rest_mk b [45, 45, 13, 10] l
  rw [he]
  rw [fst9_zero _ _ (by rw [hr]; exact pre_app _ r)]
  exact al_less b _ [45, 45, 13, 10] _ hb l [] 0 _ rfl hok h0 (by simp) (by rw [List.length_append]; omega)
theorem psR_none (b s : List UInt8) (hb : isMrk b = true) : psR b s 0 = ([], 0, 1) := by
  unfold psR
  rw [if_neg (by rw [hb]; simp), if_pos (by decide)]
theorem psR_more (b A B : List UInt8) (l : List Prt) (hb : isMrk b = true) (h0 : l ≠ []) (hok : ∀ p ∈ l, okP p = true ∧ std (45 :: 45 :: b) p = false) (hA : Lib.contains A (45 :: 45 :: b) = false) : psR b (A ++ 13 :: 10 :: ((l.flatMap (partB b) ++ endL b) ++ B)) ((l.length : Nat) + 3) = (l, 0, 0) := by
  have hl := List.length_pos_iff.2 h0
  have hfl := flat_len b l
  have hnc := bdr_noCr b hb
  have hno := nopre (45 :: 45 :: b) A (by simp) hA
  rw [List.append_assoc, endL_eq]
  rw [psR_on b _ _ hb (by omega)]
  obtain ⟨r, hr⟩ := rest_mk b (45 :: 45 :: 13 :: 10 :: B) l
  have hf : fst9 (45 :: 45 :: b) (A ++ 13 :: 10 :: (l.flatMap (partB b) ++ ((45 :: 45 :: b) ++ 45 :: 45 :: 13 :: 10 :: B))) 0 = some (0 + A.length + 2) := by
    unfold fst9
    rw [if_neg (by
      rintro ⟨_, e⟩
      have := pre_cr _ A _ hnc e
      have h3 := hno 0
      rw [List.drop_zero, this] at h3
      cases h3), List.drop_zero, hr, fnd_body _ A r hnc hno]
    rfl
  rw [hf]
  refine al_back b _ (13 :: 10 :: B) _ hb (Or.inr rfl) l [] _ _ ?_ hok (Or.inr h0) (by simp; omega) (by rw [List.length_append, List.length_cons, List.length_cons, List.length_append]; omega)
  rw [Nat.zero_add, ← List.drop_drop, List.drop_left]; rfl
theorem psR_cut (b : List UInt8) (l : List Prt) (n : Nat) (hb : isMrk b = true) (h0 : l ≠ []) (hok : ∀ p ∈ l, okP p = true ∧ std (45 :: 45 :: b) p = false) (hn : n + 2 < (l.flatMap (partB b) ++ endL b).length) : psR b ((l.flatMap (partB b) ++ endL b).take n) (l.length : Nat) = ([], n, 154) := by
  have hl := List.length_pos_iff.2 h0
  have he := endL_eq b []
  rw [List.append_nil] at he
  rw [psR_on b _ _ hb (by omega)]
  obtain ⟨r, hr⟩ := rest_mk b [45, 45, 13, 10] l
  rw [he] at hn ⊢
  have hlen : ((l.flatMap (partB b) ++ ((45 :: 45 :: b) ++ [45, 45, 13, 10])).take n).length = n := by rw [List.length_take]; omega
  by_cases hc : n < (45 :: 45 :: b : List UInt8).length
  · have hf : fst9 (45 :: 45 :: b) ((l.flatMap (partB b) ++ ((45 :: 45 :: b) ++ [45, 45, 13, 10])).take n) 0 = none := by
      unfold fst9
      rw [if_neg (by
        rintro ⟨_, e⟩
        have := (List.isPrefixOf_iff_prefix.1 e).length_le
        omega), List.drop_zero]
      cases hf : fnd (13 :: 10 :: 45 :: 45 :: b) ((l.flatMap (partB b) ++ ((45 :: 45 :: b) ++ [45, 45, 13, 10])).take n) with
      | none => rfl
      | some i =>
        have := (fnd_spec _ _ _ hf).1
        simp only [List.length_cons] at this hc
        omega
    rw [hf, al_none, hlen]
  · have hf : fst9 (45 :: 45 :: b) ((l.flatMap (partB b) ++ ((45 :: 45 :: b) ++ [45, 45, 13, 10])).take n) 0 = some 0 := by
      refine fst9_zero _ _ ?_
      rw [hr, List.take_append, List.take_of_length_le (by omega)]
      exact pre_app _ _
    rw [hf]
    have h2 := al_cut b ((l.flatMap (partB b) ++ ((45 :: 45 :: b) ++ [45, 45, 13, 10])).take n) (l.length : Nat) hb l [] 0 (((l.flatMap (partB b) ++ ((45 :: 45 :: b) ++ [45, 45, 13, 10])).take n).length + 2) n rfl (by omega) hn hok (Or.inr h0) (by simp) ?_
    · rw [h2, hlen]
    · rw [hlen]; omega
theorem psR_end (b : List UInt8) (l : List Prt) (hb : isMrk b = true) (h0 : l ≠ []) (hok : ∀ p ∈ l, okP p = true ∧ std (45 :: 45 :: b) p = false) : psR b ((l.flatMap (partB b) ++ endL b).take ((l.flatMap (partB b) ++ endL b).length - 2)) (l.length : Nat) = (l, 0, 0) := by
  have hl := List.length_pos_iff.2 h0
  have hfl := flat_len b l
  have he : endL b = ((45 :: 45 :: b) ++ [45, 45]) ++ [13, 10] := by unfold endL; simp
  rw [he, ← List.append_assoc]
  have e2 : ((l.flatMap (partB b) ++ ((45 :: 45 :: b) ++ [45, 45])) ++ [13, 10]).take (((l.flatMap (partB b) ++ ((45 :: 45 :: b) ++ [45, 45])) ++ [13, 10]).length - 2) = l.flatMap (partB b) ++ ((45 :: 45 :: b) ++ [45, 45]) := by
    rw [List.length_append, show ([13, 10] : List UInt8).length = 2 from rfl, Nat.add_sub_cancel, List.take_left]
  rw [e2, psR_on b _ _ hb (by omega)]
  obtain ⟨r, hr⟩ := rest_mk b [45, 45] l
  rw [fst9_zero _ _ (by rw [hr]; exact pre_app _ r)]
  exact al_back b _ [] _ hb (Or.inl rfl) l [] 0 _ rfl hok (Or.inr h0) (by simp) (by rw [List.length_append]; omega)
/-! What is known of parts that were read. -/
def inOf (mk s : List UInt8) (p : Prt) : Prop := Lib.contains s (p.body ++ 13 :: 10 :: mk) = true ∧ Lib.contains p.body (13 :: 10 :: mk) = false
theorem contains_of (s t : List UInt8) (j : Nat) (ht : t ≠ []) (h : t.isPrefixOf (s.drop j) = true) : Lib.contains s t = true := by
  rw [contains_fnd]
  cases hf : fnd t s with
  | some i => rfl
  | none => rw [fnd_nope t ht s hf j] at h; cases h
theorem in_part (mk s : List UInt8) (p : Prt) (B a2 : Nat) (hB : 0 < B) (h : fst9 mk s B = some a2) : inOf mk s (withB p (cutB s B a2)) := by
  rw [fst9_pos _ _ _ hB] at h
  obtain ⟨i, hi, rfl⟩ := Option.map_eq_some_iff.1 h
  obtain ⟨h1, h2, h3⟩ := fnd_spec _ _ _ hi
  have e : cutB s B (B + i + 2) = (s.drop B).take i := by unfold cutB; rw [show B + i + 2 - 2 - B = i by omega]
  unfold inOf withB
  simp only
  rw [e]
  refine ⟨contains_of s _ B (by simp) ?_, ?_⟩
  · obtain ⟨t, ht⟩ := List.isPrefixOf_iff_prefix.1 h2
    rw [List.isPrefixOf_iff_prefix]
    refine ⟨t, ?_⟩
    rw [List.append_assoc, ht, List.take_append_drop]
  · rw [contains_fnd]
    cases hf : fnd (13 :: 10 :: mk) ((s.drop B).take i) with
    | none => rfl
    | some j =>
      exfalso
      obtain ⟨h4, h5, _⟩ := fnd_spec _ _ _ hf
      rw [List.length_take] at h4
      simp only [List.length_cons] at h4
      rw [List.drop_take] at h5
      have h6 := pre_take _ _ _ h5
      rw [h3 j (by omega)] at h6
      cases h6
theorem al_known (mk s : List UInt8) (most : Int) : ∀ (f : Nat) (done : List Prt) (o : Option Nat), (∀ a, o = some a → a ≤ s.length) → (∀ p ∈ done, inOf mk s p) → (done.length : Int) ≤ most →
    ((alF f mk s most done o).2.2 ≠ 0 ∧ (alF f mk s most done o).1 = []) ∨ ((alF f mk s most done o).2.2 = 0 ∧ (alF f mk s most done o).2.1 = 0 ∧ (alF f mk s most done o).1 ≠ [] ∧ ((alF f mk s most done o).1.length : Int) ≤ most ∧ ∀ p ∈ (alF f mk s most done o).1, inOf mk s p)
  | 0, done, o, _, _, _ => .inl ⟨by simp [alF], rfl⟩
  | f + 1, done, none, _, _, _ => .inl ⟨by simp [alF], rfl⟩
  | f + 1, done, some a, ho, hin, hm => by
    cases hb : bhd mk s (!done.isEmpty) a with
    | over =>
      rw [al_over f mk s most done a hb]
      refine .inr ⟨rfl, rfl, ?_, hm, hin⟩
      rintro rfl
      unfold bhd at hb
      rw [if_neg (by simp)] at hb
      split at hb
      · cases hb
      · split at hb <;> cases hb
    | bad c q =>
      rw [al_bad f mk s most done a c q hb]
      refine .inl ⟨?_, rfl⟩
      unfold bhd at hb
      split at hb
      · split at hb
        · cases hb
        · split at hb <;> (injection hb with h1 _; simp; omega)
      · split at hb
        · cases hb
        · split at hb <;> (injection hb with h1 _; simp; omega)
    | go q =>
      have hq := bhd_go mk s _ a q hb
      rw [al_go f mk s most done a q hb]
      by_cases c1 : (done.length : Int) = most
      · rw [if_pos c1]; exact .inl ⟨by simp, rfl⟩
      rw [if_neg c1]
      by_cases c2 : (hdF (s.length + 1) s q st00).2.2 ≠ 0
      · rw [if_pos c2]; exact .inl ⟨c2, rfl⟩
      rw [if_neg c2]
      have hbd := hdF_bd (s.length + 1) s q st00 hq.2
      have hB : 0 < (hdF (s.length + 1) s q st00).2.1 := by have := hbd.2 (by simpa using c2); omega
      by_cases c3 : mk.isPrefixOf (s.drop (hdF (s.length + 1) s q st00).2.1) = true
      · rw [if_pos c3]; exact .inl ⟨by simp, rfl⟩
      rw [if_neg c3]
      cases hf : fst9 mk s (hdF (s.length + 1) s q st00).2.1 with
      | none => exact al_known mk s most f done none (fun a h => by cases h) hin hm
      | some a2 =>
        have h2 := fst9_bd mk s _ a2 hf hbd.1
        exact al_known mk s most f _ (some a2) (fun a h => by injection h with h; omega) (fun p hp => by
          rcases List.mem_append.1 hp with hp | hp
          · exact hin p hp
          · rw [List.mem_singleton] at hp
            subst hp
            exact in_part mk s _ _ a2 hB hf) (by rw [List.length_append, List.length_singleton]; omega)
theorem psR_known (b s : List UInt8) (most : Int) : ((psR b s most).2.2 ≠ 0 ∧ (psR b s most).1 = []) ∨ ((psR b s most).2.2 = 0 ∧ (psR b s most).2.1 = 0 ∧ (psR b s most).1 ≠ [] ∧ ((psR b s most).1.length : Int) ≤ most ∧ ∀ p ∈ (psR b s most).1, inOf (45 :: 45 :: b) s p) := by
  unfold psR
  by_cases h1 : isMrk b = false
  · rw [if_pos h1]; exact .inl ⟨by simp, rfl⟩
  rw [if_neg h1]
  by_cases h2 : most < 1
  · rw [if_pos h2]; exact .inl ⟨by simp, rfl⟩
  rw [if_neg h2]
  refine al_known _ s most _ [] _ (fun a h => ?_) (fun p hp => by simp at hp) (by simp; omega)
  have := fst9_bd _ s 0 a h (Nat.zero_le _)
  omega
end Go.Proofs.YtlfdeenekjklgaaGreatDoor
namespace Go.Proofs.YtlfdeenekjklgaaGreatDoor
open Go.RowKit
set_option linter.unusedSimpArgs false
set_option linter.unusedVariables false
set_option maxRecDepth 1000000
theorem fnd_at (t l : List UInt8) (k : Nat) (hk : k ≤ l.length) (h : ∀ j, j < k → t.isPrefixOf (l.drop j) = false) (hp : t.isPrefixOf (l.drop k) = true) : fnd t l = some k := by
  have e : l = l.take k ++ l.drop k := (List.take_append_drop k l).symm
  have hl : (l.take k).length = k := by rw [List.length_take]; omega
  rw [e, fnd_skip t (l.take k) (l.drop k) (fun j hj => by rw [← e]; exact h j (by omega)), fnd_here t _ hp, hl]
  simp
theorem pre_short (t l : List UInt8) (h : l.length < t.length) : t.isPrefixOf l = false := by
  cases hp : t.isPrefixOf l with
  | false => rfl
  | true => have := (List.isPrefixOf_iff_prefix.1 hp).length_le; omega
theorem fnd_no (t l : List UInt8) (ht : t ≠ []) (h : ∀ j, j < l.length → t.isPrefixOf (l.drop j) = false) : fnd t l = none := by
  refine fnd_none t ht l fun j => ?_
  by_cases hj : j < l.length
  · exact h j hj
  · refine pre_short _ _ ?_
    rw [List.length_drop]
    have := List.length_pos_iff.2 ht
    omega
/-- A boundary stands at a place. -/
def bAt (mk s : List UInt8) (a : Nat) : Prop := mk.isPrefixOf (s.drop a) = true ∧ (a = 0 ∨ (2 ≤ a ∧ crlf.isPrefixOf (s.drop (a - 2)) = true))
theorem pre_two (mk s : List UInt8) (i : Nat) : (13 :: 10 :: mk).isPrefixOf (s.drop i) = true ↔ crlf.isPrefixOf (s.drop i) = true ∧ mk.isPrefixOf (s.drop (i + 2)) = true := by
  rw [← List.drop_drop]
  generalize s.drop i = l
  match l with
  | [] => simp [crlf, List.isPrefixOf]
  | [a] => simp [crlf, List.isPrefixOf]
  | a :: b :: r => simp [crlf, List.isPrefixOf, and_assoc]
theorem fst9_is (mk s : List UInt8) (a : Nat) (ha : a ≤ s.length) (h : bAt mk s a) (hn : ∀ j, j < a → ¬ bAt mk s j) : fst9 mk s 0 = some a := by
  by_cases h0 : a = 0
  · subst h0
    exact fst9_zero mk s (by simpa using h.1)
  · have h2 : 2 ≤ a ∧ crlf.isPrefixOf (s.drop (a - 2)) = true := by rcases h.2 with h | h; exact absurd h h0; exact h
    have hz : ¬ (0 = 0 ∧ mk.isPrefixOf s = true) := fun e => hn 0 (by omega) ⟨by simpa using e.2, .inl rfl⟩
    unfold fst9
    rw [if_neg hz, List.drop_zero, fnd_at (13 :: 10 :: mk) s (a - 2) (by omega) (fun j hj => by
      cases hp : (13 :: 10 :: mk).isPrefixOf (s.drop j) with
      | false => rfl
      | true =>
        have := (pre_two mk s j).1 hp
        exact absurd ⟨this.2, .inr ⟨by omega, by simpa using this.1⟩⟩ (hn (j + 2) (by omega))) ((pre_two mk s (a - 2)).2 ⟨h2.2, by rw [show a - 2 + 2 = a by omega]; exact h.1⟩)]
    simp only [Option.map_some, Option.some.injEq]
    omega
theorem fst9_no (mk s : List UInt8) (hn : ∀ j, j ≤ s.length → ¬ bAt mk s j) : fst9 mk s 0 = none := by
  have hz : ¬ (0 = 0 ∧ mk.isPrefixOf s = true) := fun e => hn 0 (by omega) ⟨by simpa using e.2, .inl rfl⟩
  unfold fst9
  rw [if_neg hz, List.drop_zero, fnd_none (13 :: 10 :: mk) (by simp) s (fun j => by
      cases hp : (13 :: 10 :: mk).isPrefixOf (s.drop j) with
      | false => rfl
      | true =>
        have h1 := (pre_two mk s j).1 hp
        have h2 := (List.isPrefixOf_iff_prefix.1 h1.1).length_le
        rw [List.length_drop] at h2
        simp only [crlf, List.length_cons, List.length_nil] at h2
        exact absurd ⟨h1.2, .inr ⟨by omega, by simpa using h1.1⟩⟩ (hn (j + 2) (by omega)))]
  rfl
theorem dropW_run (p : UInt8 → Bool) (l : List UInt8) : l.dropWhile p = l.drop (runL p l) := by
  induction l with
  | nil => rfl
  | cons c r ih =>
    rw [List.dropWhile_cons, runL_cons]
    split
    · rw [ih]; rfl
    · rfl
end Go.Proofs.YtlfdeenekjklgaaGreatDoor
