/- The first number whose boundary stands in none of some parts: there is one below 2^63. No program is named. Conditions: at most 1048576 letters and parts. -/
import Derived.Test.YtgkpiakapdgglaaDoorPrtM
import Derived.Lib.ItoaNum
import Derived.Lib.IndexLaws
namespace Go.Proofs.YtgkpiakapdgglaaDoor
open Go.RowKit
set_option linter.unusedSimpArgs false
set_option linter.unusedVariables false
theorem dec_val (u : Nat) : (Lib.decDigits u).foldl (fun a c => 10 * a + (c.toNat - 48)) 0 = u := by
  induction u using Nat.strongRecOn with
  | ind u ih =>
    rw [Lib.decDigits]
    split
    · simp; omega
    · rw [List.foldl_append, ih (u / 10) (by omega)]
      simp
      omega
theorem dec_inj (a b : Nat) (h : Lib.decDigits a = Lib.decDigits b) : a = b := by rw [← dec_val a, ← dec_val b, h]
/-- The boundary of a number, with its dashes. -/
def mkN (n : Nat) : List UInt8 := 102 :: 111 :: 114 :: 109 :: Lib.decDigits n
theorem mkN_inj (a b : Nat) (h : 45 :: 45 :: mkN a = 45 :: 45 :: mkN b) : a = b := by
  unfold mkN at h
  simp only [List.cons.injEq, true_and] at h
  exact dec_inj a b h
theorem nodup_sub : ∀ (xs ys : List (List UInt8)), xs.Nodup → (∀ x ∈ xs, x ∈ ys) → xs.length ≤ ys.length
  | [], ys, _, _ => Nat.zero_le _
  | x :: xs, ys, hn, hs => by
    rw [List.nodup_cons] at hn
    have hx := hs x (by simp)
    have := nodup_sub xs (ys.erase x) hn.2 (fun y hy => by
      rw [List.mem_erase_of_ne (by intro e; subst e; exact hn.1 hy)]
      exact hs y (by simp [hy]))
    rw [List.length_erase_of_mem hx] at this
    have hp : 0 < ys.length := List.length_pos_of_mem hx
    simp only [List.length_cons]
    omega
/-- All texts that stand in a text. -/
def subs (l : List UInt8) : List (List UInt8) := (List.range (l.length + 1)).flatMap fun i => (List.range (l.length + 1)).map fun k => (l.drop i).take k
theorem subs_mem (l t : List UInt8) (h : Lib.contains l t = true) : t ∈ subs l := by
  unfold Lib.contains at h
  rw [decide_eq_true_eq] at h
  rcases Lib.index_spec l t with ⟨h1, _⟩ | ⟨i, _, hi, ho, _⟩
  · omega
  · have hp := List.isPrefixOf_iff_prefix.1 (show t.isPrefixOf (l.drop i) = true from ho)
    have hl := hp.length_le
    rw [List.length_drop] at hl
    unfold subs
    rw [List.mem_flatMap]
    refine ⟨i, by rw [List.mem_range]; omega, ?_⟩
    rw [List.mem_map]
    exact ⟨t.length, by rw [List.mem_range]; omega, (List.prefix_iff_eq_take.1 hp).symm⟩
theorem sum_const (c : Nat) (n : Nat) (f : Nat → Nat) (h : ∀ i, f i = c) : ((List.range n).map f).sum = n * c := by
  induction n with
  | zero => simp
  | succ n ih => rw [List.range_succ, List.map_append, List.sum_append, ih, Nat.succ_mul]; simp [h]
theorem subs_len (l : List UInt8) : (subs l).length = (l.length + 1) * (l.length + 1) := by
  unfold subs
  rw [List.length_flatMap]
  exact sum_const (l.length + 1) (l.length + 1) _ (fun i => by rw [List.length_map, List.length_range])
def cand (l : List Prt) : List (List UInt8) := l.flatMap fun p => subs p.body ++ (subs p.name ++ (subs p.file ++ subs p.media))
theorem cand_mem (l : List Prt) (t : List UInt8) (h : stood l t = true) : t ∈ cand l := by
  unfold stood at h
  rw [List.any_eq_true] at h
  obtain ⟨p, hp, hs⟩ := h
  unfold cand
  rw [List.mem_flatMap]
  refine ⟨p, hp, ?_⟩
  unfold std at hs
  simp only [Bool.or_eq_true] at hs
  simp only [List.mem_append]
  rcases hs with h | h | h | h
  · exact Or.inl (subs_mem _ _ h)
  · exact Or.inr (Or.inl (subs_mem _ _ h))
  · exact Or.inr (Or.inr (Or.inl (subs_mem _ _ h)))
  · exact Or.inr (Or.inr (Or.inr (subs_mem _ _ h)))
theorem sq_le (a m : Nat) (h : a ≤ m) : (a + 1) * (a + 1) ≤ (m + 1) * (m + 1) := Nat.mul_le_mul (by omega) (by omega)
theorem cand_len (l : List Prt) (m : Nat) (h : totQ l ≤ m) : (cand l).length ≤ l.length * (4 * ((m + 1) * (m + 1))) := by
  induction l with
  | nil => simp [cand]
  | cons p r ih =>
    have e : cand (p :: r) = (subs p.body ++ (subs p.name ++ (subs p.file ++ subs p.media))) ++ cand r := rfl
    simp only [totQ] at h
    have hr := ih (by omega)
    rw [e]
    simp only [List.length_append, subs_len, List.length_cons]
    unfold prtLen at h
    have h1 := sq_le p.body.length m (by omega)
    have h2 := sq_le p.name.length m (by omega)
    have h3 := sq_le p.file.length m (by omega)
    have h4 := sq_le p.media.length m (by omega)
    generalize (m + 1) * (m + 1) = M at *
    have e2 : (r.length + 1) * (4 * M) = r.length * (4 * M) + 4 * M := by rw [Nat.add_mul, Nat.one_mul]
    rw [e2]
    omega
theorem range_nodup (B : Nat) : ((List.range B).map fun n => 45 :: 45 :: mkN n).Nodup := by
  rw [List.nodup_iff_pairwise_ne, List.pairwise_map]
  exact List.Pairwise.imp (fun {a b} hab e => by have := mkN_inj a b e; omega) List.pairwise_lt_range
/-- There is a first one. -/
theorem bry_first (l : List Prt) (hT : totQ l ≤ 1048576) (hN : l.length ≤ 1048576) : ∃ N : Nat, N ≤ 4611703610613432320 ∧ stood l (45 :: 45 :: mkN N) = false ∧ ∀ j, j < N → stood l (45 :: 45 :: mkN j) = true := by
  have key : ∀ B : Nat, (∀ j, j < B → stood l (45 :: 45 :: mkN j) = true) ∨ ∃ N, N < B ∧ stood l (45 :: 45 :: mkN N) = false ∧ ∀ j, j < N → stood l (45 :: 45 :: mkN j) = true := by
    intro B
    induction B with
    | zero => left; intro j hj; omega
    | succ B ih =>
      rcases ih with h | ⟨N, h1, h2, h3⟩
      · cases hb : stood l (45 :: 45 :: mkN B) with
        | true =>
          left
          intro j hj
          by_cases hjb : j < B
          · exact h j hjb
          · obtain rfl : j = B := by omega
            exact hb
        | false => exact Or.inr ⟨B, by omega, hb, h⟩
      · exact Or.inr ⟨N, by omega, h2, h3⟩
  rcases key 4611703610613432321 with h | ⟨N, h1, h2, h3⟩
  · exfalso
    have h4 := nodup_sub _ (cand l) (range_nodup 4611703610613432321) (fun x hx => by
      rw [List.mem_map] at hx
      obtain ⟨n, hn, rfl⟩ := hx
      rw [List.mem_range] at hn
      exact cand_mem l _ (h n hn))
    rw [List.length_map, List.length_range] at h4
    have h5 := cand_len l 1048576 hT
    have h6 : l.length * (4 * ((1048576 + 1) * (1048576 + 1))) ≤ 1048576 * (4 * ((1048576 + 1) * (1048576 + 1))) := Nat.mul_le_mul_right _ hN
    have h7 : 1048576 * (4 * ((1048576 + 1) * (1048576 + 1))) < 4611703610613432321 := by decide
    omega
  · exact ⟨N, by omega, h2, h3⟩
end Go.Proofs.YtgkpiakapdgglaaDoor
