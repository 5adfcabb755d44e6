/- Where a text of base 64 goes wrong: it can be gone on with up to there, and not beyond. No program is named. -/
import Derived.Test.YtpehogkgiikjmaaDecQ
namespace Go.Proofs.Ytpehogkgiikjmaa
open Go.RowKit
set_option linter.unusedSimpArgs false
set_option linter.unusedVariables false
theorem dstep_inv {acc acc' : List UInt8} {vs vs' : List Nat} {fl fl' p : Nat} {c : UInt8} (h : DInv vs fl p) (hs : dstep acc vs fl p c = some (acc', vs', fl')) : DInv vs' fl' ((p + 1) % 4) := by
  obtain ⟨hall, h⟩ := h
  rcases h with ⟨rfl, hl, hp⟩ | ⟨rfl, rfl, hl⟩ | ⟨hf, rfl, rfl⟩
  · unfold dstep at hs
    rw [if_neg (by simp)] at hs
    cases hv : sv c with
    | some v =>
      rw [hv] at hs
      simp only [if_true, Option.some.injEq] at hs
      unfold fin at hs
      by_cases h3 : p = 3
      · rw [if_pos h3] at hs
        simp only [Prod.mk.injEq] at hs
        obtain ⟨_, rfl, rfl⟩ := hs
        exact ⟨by simp, .inl ⟨rfl, by subst h3; rfl, by omega⟩⟩
      · rw [if_neg h3] at hs
        simp only [Prod.mk.injEq] at hs
        obtain ⟨_, rfl, rfl⟩ := hs
        refine ⟨?_, .inl ⟨rfl, by simp; omega, by omega⟩⟩
        intro x hx
        rcases List.mem_append.1 hx with hx | hx
        · exact hall x hx
        · simp at hx; subst hx; exact sv_lt hv
    | none =>
      rw [hv] at hs
      simp only at hs
      by_cases h1 : c = 61 ∧ fits vs = true
      · rw [if_pos ⟨h1.1, trivial, h1.2⟩] at hs
        simp only [Option.some.injEq] at hs
        have hlen : vs.length = 2 ∨ vs.length = 3 := by
          have hf := h1.2
          unfold fits at hf
          split at hf
          · exact .inl rfl
          · exact .inr rfl
          · cases hf
        unfold fin at hs
        by_cases h3 : p = 3
        · rw [if_pos h3] at hs
          simp only [Prod.mk.injEq] at hs
          obtain ⟨_, rfl, rfl⟩ := hs
          exact ⟨by simp, .inr (.inr ⟨.inl rfl, by subst h3; rfl, rfl⟩)⟩
        · rw [if_neg h3] at hs
          simp only [Prod.mk.injEq] at hs
          obtain ⟨_, rfl, rfl⟩ := hs
          exact ⟨hall, .inr (.inl ⟨rfl, by omega, by omega⟩)⟩
      · rw [if_neg (fun e => h1 ⟨e.1, e.2.2⟩), if_neg (by simp)] at hs
        cases hs
  · unfold dstep at hs
    rw [if_neg (by simp)] at hs
    cases hv : sv c with
    | some v => rw [hv] at hs; simp at hs
    | none =>
      rw [hv] at hs
      simp only at hs
      rw [if_neg (by simp)] at hs
      by_cases h2 : c = 61
      · rw [if_pos (by simp [h2])] at hs
        simp only [fin, if_true, Option.some.injEq, Prod.mk.injEq] at hs
        obtain ⟨_, rfl, rfl⟩ := hs
        exact ⟨by simp, .inr (.inr ⟨.inr rfl, rfl, rfl⟩)⟩
      · rw [if_neg (by simp [h2])] at hs; cases hs
  · unfold dstep at hs
    rw [if_pos ⟨by omega, rfl⟩] at hs
    cases hs
/-- Where it goes wrong: what the machine held there. -/
theorem dgo_err (l : List UInt8) : ∀ (acc : List UInt8) (vs : List Nat) (fl i : Nat), DInv vs fl (i % 4) → (dgo acc vs fl i l).2.2 ≠ 0 →
    ∃ (q r acc' : List UInt8) (vs' : List Nat) (fl' : Nat), l = q ++ r ∧ dgo acc vs fl i l = ([], i + q.length, 30) ∧ DInv vs' fl' ((i + q.length) % 4) ∧ (∀ r', dgo acc vs fl i (q ++ r') = dgo acc' vs' fl' (i + q.length) r') ∧
      (r = [] ∨ ∃ c r1, r = c :: r1 ∧ dstep acc' vs' fl' ((i + q.length) % 4) c = none) := by
  induction l with
  | nil =>
    intro acc vs fl i hinv he
    refine ⟨[], [], acc, vs, fl, rfl, ?_, by simpa using hinv, fun _ => rfl, .inl rfl⟩
    simp only [dgo] at he ⊢
    by_cases h : i % 4 = 0
    · rw [if_pos h] at he; exact (he rfl).elim
    · rw [if_neg h]; rfl
  | cons c l ih =>
    intro acc vs fl i hinv he
    cases hd : dstep acc vs fl (i % 4) c with
    | none => exact ⟨[], c :: l, acc, vs, fl, rfl, by rw [dgo_none hd]; rfl, by simpa using hinv, fun _ => rfl, .inr ⟨c, l, rfl, by simpa using hd⟩⟩
    | some st =>
      obtain ⟨a1, v1, f1⟩ := st
      rw [dgo_some hd] at he
      have hinv1 := dstep_inv hinv hd
      rw [show (i % 4 + 1) % 4 = (i + 1) % 4 from by omega] at hinv1
      obtain ⟨q, r, acc', vs', fl', hl, hres, hi2, hall, hr⟩ := ih a1 v1 f1 (i + 1) hinv1 he
      have hlen : i + 1 + q.length = i + (c :: q).length := by simp; omega
      refine ⟨c :: q, r, acc', vs', fl', by rw [hl]; rfl, by rw [dgo_some hd, hres, hlen], by rw [← hlen]; exact hi2, fun r' => ?_, by rw [← hlen]; exact hr⟩
      rw [List.cons_append, dgo_some hd, hall r', hlen]
def endsL : List (List UInt8) := [[], [61], [61, 61], [65], [65, 61], [65, 61, 61], [65, 65], [65, 65, 61], [65, 65, 61, 61], [65, 65, 65], [65, 65, 65, 65]]
theorem sv_65 : sv 65 = some 0 := by decide +kernel
theorem dgo_done (acc : List UInt8) (vs : List Nat) (fl i : Nat) (h : DInv vs fl (i % 4)) : ∃ j, j < 11 ∧ (dgo acc vs fl i (endsL.getD j [])).2.2 = 0 := by
  obtain ⟨hall, h⟩ := h
  rcases h with ⟨rfl, hl, hp⟩ | ⟨rfl, hp, hl⟩ | ⟨hf, hp, rfl⟩
  · rcases four_of vs (by omega) with rfl | ⟨a, rfl⟩ | ⟨a, b, rfl⟩ | ⟨a, b, c, rfl⟩
    · refine ⟨0, by omega, ?_⟩
      show (dgo acc [] 0 i []).2.2 = 0
      simp only [dgo]; rw [if_pos (by simpa using hl.symm)]
    · have p0 : i % 4 = 1 := by simpa using hl.symm
      refine ⟨5, by omega, ?_⟩
      show (dgo acc [a] 0 i [65, 61, 61]).2.2 = 0
      rw [dgo_some (acc' := acc) (vs' := [a, 0]) (fl' := 0) (by rw [p0]; simp [dstep, sv_65, fin]), dgo_some (acc' := acc) (vs' := [a, 0]) (fl' := 1) (by rw [show (i + 1) % 4 = 2 from by omega]; simp [dstep, sv_61, fin, fits]),
        dgo_some (acc' := acc ++ gb [a, 0]) (vs' := []) (fl' := 2) (by rw [show (i + 1 + 1) % 4 = 3 from by omega]; simp [dstep, sv_61, fin])]
      simp only [dgo]; rw [if_pos (by omega)]
    · have p0 : i % 4 = 2 := by simpa using hl.symm
      refine ⟨6, by omega, ?_⟩
      show (dgo acc [a, b] 0 i [65, 65]).2.2 = 0
      rw [dgo_some (acc' := acc) (vs' := [a, b, 0]) (fl' := 0) (by rw [p0]; simp [dstep, sv_65, fin]), dgo_some (acc' := acc ++ gb [a, b, 0, 0]) (vs' := []) (fl' := 0) (by rw [show (i + 1) % 4 = 3 from by omega]; simp [dstep, sv_65, fin])]
      simp only [dgo]; rw [if_pos (by omega)]
    · have p0 : i % 4 = 3 := by simpa using hl.symm
      refine ⟨3, by omega, ?_⟩
      show (dgo acc [a, b, c] 0 i [65]).2.2 = 0
      rw [dgo_some (acc' := acc ++ gb [a, b, c, 0]) (vs' := []) (fl' := 0) (by rw [p0]; simp [dstep, sv_65, fin])]
      simp only [dgo]; rw [if_pos (by omega)]
  · refine ⟨1, by omega, ?_⟩
    show (dgo acc vs 1 i [61]).2.2 = 0
    rw [dgo_some (acc' := acc ++ gb vs) (vs' := []) (fl' := 2) (by rw [hp]; simp [dstep, sv_61, fin])]
    simp only [dgo]; rw [if_pos (by omega)]
  · refine ⟨0, by omega, ?_⟩
    show (dgo acc [] fl i []).2.2 = 0
    simp only [dgo]; rw [if_pos hp]
/-- Up to the place it can be gone on with, and not beyond. -/
theorem decR_err (l : List UInt8) (he : (decR l).2.2 ≠ 0) : (decR l).2.1 ≤ l.length ∧ (∃ j, j < 11 ∧ (decR (l.take (decR l).2.1 ++ endsL.getD j [])).2.2 = 0) ∧ ((decR l).2.1 < l.length → ∀ E, (decR (l.take ((decR l).2.1 + 1) ++ E)).2.2 ≠ 0) := by
  obtain ⟨q, r, acc', vs', fl', hl, hres, hinv, hall, hr⟩ := dgo_err l [] [] 0 0 ⟨by simp, .inl ⟨rfl, rfl, by decide⟩⟩ he
  have hat : (decR l).2.1 = q.length := by unfold decR; rw [hres]; simp
  rw [hat]
  refine ⟨by rw [hl]; simp, ?_, ?_⟩
  · obtain ⟨j, hj, hd⟩ := dgo_done acc' vs' fl' (0 + q.length) hinv
    refine ⟨j, hj, ?_⟩
    have ht : l.take q.length = q := by rw [hl]; simp
    rw [ht]
    unfold decR
    rw [hall]; exact hd
  · intro hlt E
    rcases hr with rfl | ⟨c, r1, rfl, hd⟩
    · rw [hl] at hlt; simp at hlt
    · have ht : l.take (q.length + 1) = q ++ [c] := by
        rw [hl, show q ++ c :: r1 = (q ++ [c]) ++ r1 from by simp, List.take_append_of_le_length (by simp)]
        exact List.take_of_length_le (by simp)
      rw [ht, List.append_assoc]
      unfold decR
      rw [hall, List.singleton_append, dgo_none hd]
      simp
end Go.Proofs.Ytpehogkgiikjmaa
