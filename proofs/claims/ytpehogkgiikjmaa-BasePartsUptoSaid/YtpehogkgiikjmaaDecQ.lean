/- A group of base 64, byte by byte; the machine of XDecP on a group. No program is named. -/
import Derived.Test.YtpehogkgiikjmaaDecP
namespace Go.Proofs.Ytpehogkgiikjmaa
open Go.RowKit
set_option linter.unusedSimpArgs false
set_option linter.unusedVariables false
def gstep (st : List Nat × Nat) (c : UInt8) : Option (List Nat × Nat) :=
  match sv c with
  | some v => if st.2 = 0 then some (st.1 ++ [v], 0) else none
  | none => if c = 61 ∧ st.2 = 0 ∧ fits st.1 = true then some (st.1, 1) else if c = 61 ∧ st.2 = 1 ∧ st.1.length = 2 then some (st.1, 2) else none
def gst (p : List UInt8) : Option (List Nat × Nat) := p.foldl (fun st c => st.bind (gstep · c)) (some ([], 0))
theorem gst_nil : gst [] = some ([], 0) := rfl
theorem gst_snoc (p : List UInt8) (c : UInt8) : gst (p ++ [c]) = (gst p).bind (gstep · c) := by unfold gst; rw [List.foldl_append]; rfl
theorem gst_fold_none (p : List UInt8) : p.foldl (fun st c => Option.bind st (gstep · c)) none = none := by
  induction p with
  | nil => rfl
  | cons c r ih => exact ih
theorem gst_none (p q : List UInt8) (h : gst p = none) : gst (p ++ q) = none := by
  unfold gst at *; rw [List.foldl_append, h]; exact gst_fold_none q
/-- The machine's step inside a group. -/
theorem dstep_g (acc : List UInt8) (vs : List Nat) (fl : Nat) (c : UInt8) (h : fl = 0 ∨ vs.length ≠ 0) : dstep acc vs fl (vs.length + fl) c = (gstep (vs, fl) c).map fun st => fin acc st.1 st.2 (vs.length + fl) := by
  unfold dstep gstep
  rw [if_neg (by omega)]
  cases hs : sv c with
  | some v =>
    by_cases h0 : fl = 0
    · subst h0; simp
    · simp [h0]
  | none =>
    by_cases h1 : c = 61 ∧ fl = 0 ∧ fits vs = true
    · simp [h1]
    · rw [if_neg h1]
      simp only []
      rw [if_neg h1]
      by_cases h2 : c = 61 ∧ fl = 1 ∧ vs.length = 2
      · obtain ⟨e1, e2, e3⟩ := h2
        subst e2
        rw [if_pos ⟨e1, rfl, by omega⟩, if_pos ⟨e1, rfl, e3⟩]; rfl
      · rw [if_neg h2, if_neg (by intro e; exact h2 ⟨e.1, e.2.1, by omega⟩)]; rfl
/-- What a group's beginning is made of. -/
def GInv (p : List UInt8) (vs : List Nat) (fl : Nat) : Prop :=
  (p = [] ∧ vs = [] ∧ fl = 0) ∨ (∃ c0 a, p = [c0] ∧ sv c0 = some a ∧ vs = [a] ∧ fl = 0) ∨ (∃ c0 c1 a b, p = [c0, c1] ∧ sv c0 = some a ∧ sv c1 = some b ∧ vs = [a, b] ∧ fl = 0) ∨
  (∃ c0 c1 c2 a b c, p = [c0, c1, c2] ∧ sv c0 = some a ∧ sv c1 = some b ∧ sv c2 = some c ∧ vs = [a, b, c] ∧ fl = 0) ∨
  (∃ c0 c1 a b, p = [c0, c1, 61] ∧ sv c0 = some a ∧ sv c1 = some b ∧ b % 16 = 0 ∧ vs = [a, b] ∧ fl = 1) ∨
  (∃ c0 c1 c2 c3 a b c d, p = [c0, c1, c2, c3] ∧ sv c0 = some a ∧ sv c1 = some b ∧ sv c2 = some c ∧ sv c3 = some d ∧ vs = [a, b, c, d] ∧ fl = 0) ∨
  (∃ c0 c1 c2 a b c, p = [c0, c1, c2, 61] ∧ sv c0 = some a ∧ sv c1 = some b ∧ sv c2 = some c ∧ c % 4 = 0 ∧ vs = [a, b, c] ∧ fl = 1) ∨
  (∃ c0 c1 a b, p = [c0, c1, 61, 61] ∧ sv c0 = some a ∧ sv c1 = some b ∧ b % 16 = 0 ∧ vs = [a, b] ∧ fl = 2)
theorem GInv.gstEq {p : List UInt8} {vs : List Nat} {fl : Nat} (h : GInv p vs fl) : gst p = some (vs, fl) := by
  rcases h with ⟨rfl, rfl, rfl⟩ | ⟨c0, a, rfl, h0, rfl, rfl⟩ | ⟨c0, c1, a, b, rfl, h0, h1, rfl, rfl⟩ | ⟨c0, c1, c2, a, b, c, rfl, h0, h1, h2, rfl, rfl⟩ | ⟨c0, c1, a, b, rfl, h0, h1, hb, rfl, rfl⟩ | ⟨c0, c1, c2, c3, a, b, c, d, rfl, h0, h1, h2, h3, rfl, rfl⟩ | ⟨c0, c1, c2, a, b, c, rfl, h0, h1, h2, hc, rfl, rfl⟩ | ⟨c0, c1, a, b, rfl, h0, h1, hb, rfl, rfl⟩ <;> simp_all [Go.Proofs.Ytpehogkgiikjmaa.gst, gstep, fits, sv_61]
theorem GInv.len {p : List UInt8} {vs : List Nat} {fl : Nat} (h : GInv p vs fl) : p.length = vs.length + fl ∧ p.length ≤ 4 := by
  rcases h with ⟨rfl, rfl, rfl⟩ | ⟨c0, a, rfl, h0, rfl, rfl⟩ | ⟨c0, c1, a, b, rfl, h0, h1, rfl, rfl⟩ | ⟨c0, c1, c2, a, b, c, rfl, h0, h1, h2, rfl, rfl⟩ | ⟨c0, c1, a, b, rfl, h0, h1, hb, rfl, rfl⟩ | ⟨c0, c1, c2, c3, a, b, c, d, rfl, h0, h1, h2, h3, rfl, rfl⟩ | ⟨c0, c1, c2, a, b, c, rfl, h0, h1, h2, hc, rfl, rfl⟩ | ⟨c0, c1, a, b, rfl, h0, h1, hb, rfl, rfl⟩ <;> simp
/-- One byte more of a group that is not full. -/
theorem GInv.step {p : List UInt8} {vs : List Nat} {fl : Nat} (h : GInv p vs fl) (hl : p.length < 4) (c : UInt8) : (gstep (vs, fl) c = none ∧ gst (p ++ [c]) = none) ∨ ∃ vs' fl', gstep (vs, fl) c = some (vs', fl') ∧ GInv (p ++ [c]) vs' fl' := by
  have hg : Go.Proofs.Ytpehogkgiikjmaa.gst (p ++ [c]) = gstep (vs, fl) c := by rw [gst_snoc, h.gstEq]; rfl
  rw [hg]
  cases hs : sv c with
  | some v =>
    by_cases hf : fl = 0
    · subst hf
      refine .inr ⟨vs ++ [v], 0, by simp [gstep, hs], ?_⟩
      rcases h with ⟨rfl, rfl, _⟩ | ⟨c0, a, rfl, h0, rfl, _⟩ | ⟨c0, c1, a, b, rfl, h0, h1, rfl, _⟩ | ⟨c0, c1, c2, a, b, d, rfl, h0, h1, h2, rfl, _⟩ | ⟨c0, c1, a, b, rfl, h0, h1, hb, rfl, hz⟩ | ⟨c0, c1, c2, c3, a, b, d, e, rfl, _⟩ | ⟨c0, c1, c2, a, b, d, rfl, _⟩ | ⟨c0, c1, a, b, rfl, _⟩
      · exact .inr (.inl ⟨c, v, rfl, hs, rfl, rfl⟩)
      · exact .inr (.inr (.inl ⟨c0, c, a, v, rfl, h0, hs, rfl, rfl⟩))
      · exact .inr (.inr (.inr (.inl ⟨c0, c1, c, a, b, v, rfl, h0, h1, hs, rfl, rfl⟩)))
      · exact .inr (.inr (.inr (.inr (.inr (.inl ⟨c0, c1, c2, c, a, b, d, v, rfl, h0, h1, h2, hs, rfl, rfl⟩)))))
      · cases hz
      all_goals simp at hl
    · exact .inl ⟨by simp [gstep, hs, hf], by simp [gstep, hs, hf]⟩
  | none =>
    by_cases hA : c = 61 ∧ fl = 0 ∧ fits vs = true
    · obtain ⟨rfl, rfl, hfit⟩ := hA
      refine .inr ⟨vs, 1, by simp [gstep, hs, hfit], ?_⟩
      rcases h with ⟨rfl, rfl, _⟩ | ⟨c0, a, rfl, h0, rfl, _⟩ | ⟨c0, c1, a, b, rfl, h0, h1, rfl, _⟩ | ⟨c0, c1, c2, a, b, d, rfl, h0, h1, h2, rfl, _⟩ | ⟨c0, c1, a, b, rfl, h0, h1, hb, rfl, hz⟩ | ⟨c0, c1, c2, c3, a, b, d, e, rfl, _⟩ | ⟨c0, c1, c2, a, b, d, rfl, _⟩ | ⟨c0, c1, a, b, rfl, _⟩
      · simp [fits] at hfit
      · simp [fits] at hfit
      · exact .inr (.inr (.inr (.inr (.inl ⟨c0, c1, a, b, rfl, h0, h1, by simpa [fits] using hfit, rfl, rfl⟩))))
      · exact .inr (.inr (.inr (.inr (.inr (.inr (.inl ⟨c0, c1, c2, a, b, d, rfl, h0, h1, h2, by simpa [fits] using hfit, rfl, rfl⟩))))))
      · cases hz
      all_goals simp at hl
    · by_cases hB : c = 61 ∧ fl = 1 ∧ vs.length = 2
      · obtain ⟨rfl, rfl, hlen⟩ := hB
        clear hA
        refine .inr ⟨vs, 2, by simp [gstep, hs, hlen], ?_⟩
        rcases h with ⟨rfl, rfl, hz⟩ | ⟨c0, a, rfl, h0, rfl, hz⟩ | ⟨c0, c1, a, b, rfl, h0, h1, rfl, hz⟩ | ⟨c0, c1, c2, a, b, d, rfl, h0, h1, h2, rfl, hz⟩ | ⟨c0, c1, a, b, rfl, h0, h1, hb, rfl, hz⟩ | ⟨c0, c1, c2, c3, a, b, d, e, rfl, _⟩ | ⟨c0, c1, c2, a, b, d, rfl, _⟩ | ⟨c0, c1, a, b, rfl, _⟩
        · cases hz
        · cases hz
        · cases hz
        · cases hz
        · exact .inr (.inr (.inr (.inr (.inr (.inr (.inr ⟨c0, c1, a, b, rfl, h0, h1, hb, rfl, rfl⟩))))))
        all_goals simp at hl
      · refine .inl ?_
        have : gstep (vs, fl) c = none := by simp only [gstep, hs]; rw [if_neg hA, if_neg hB]
        exact ⟨this, this⟩
theorem gstep_len {vs vs' : List Nat} {fl fl' : Nat} {c : UInt8} (h : gstep (vs, fl) c = some (vs', fl')) (hz : fl = 0 ∨ vs.length ≠ 0) : vs'.length + fl' = vs.length + fl + 1 ∧ (fl' = 0 ∨ vs'.length ≠ 0) := by
  unfold gstep at h
  split at h
  · rename_i v hs
    split at h
    · rename_i h0
      simp only [Option.some.injEq, Prod.mk.injEq] at h
      obtain ⟨rfl, rfl⟩ := h
      simp only at h0
      exact ⟨by simp; omega, .inl rfl⟩
    · cases h
  · split at h
    · rename_i h1
      simp only [Option.some.injEq, Prod.mk.injEq] at h
      obtain ⟨rfl, rfl⟩ := h
      simp only at h1
      refine ⟨by omega, .inr ?_⟩
      intro e
      have : vs = [] := List.eq_nil_of_length_eq_zero e
      rw [this] at h1; simp [fits] at h1
    · split at h
      · rename_i h2
        simp only [Option.some.injEq, Prod.mk.injEq] at h
        obtain ⟨rfl, rfl⟩ := h
        simp only at h2
        exact ⟨by omega, .inr (by omega)⟩
      · cases h
theorem dgo_run (acc : List UInt8) (r : List UInt8) : ∀ (q : List UInt8) (vs : List Nat) (fl i : Nat) (vs' : List Nat) (fl' : Nat), vs.length + fl + q.length ≤ 4 → vs.length + fl < 4 → (fl = 0 ∨ vs.length ≠ 0) → i % 4 = vs.length + fl →
    q.foldl (fun st c => Option.bind st (gstep · c)) (some (vs, fl)) = some (vs', fl') →
    dgo acc vs fl i (q ++ r) = if vs.length + fl + q.length = 4 then dgo (acc ++ gb vs') [] fl' (i + q.length) r else dgo acc vs' fl' (i + q.length) r := by
  intro q
  induction q with
  | nil =>
    intro vs fl i vs' fl' _ hlt _ _ h
    simp only [List.foldl_nil, Option.some.injEq, Prod.mk.injEq] at h
    obtain ⟨rfl, rfl⟩ := h
    rw [if_neg (by simp; omega)]; rfl
  | cons c q ih =>
    intro vs fl i vs' fl' hl hlt hz hi h
    simp only [List.foldl_cons, Option.bind_some] at h
    cases hg : gstep (vs, fl) c with
    | none => rw [hg, gst_fold_none] at h; cases h
    | some st =>
      obtain ⟨v1, f1⟩ := st
      rw [hg] at h
      obtain ⟨hlen, hz1⟩ := gstep_len hg hz
      have hd := dstep_g acc vs fl c hz
      rw [hg] at hd
      simp only [Option.map_some, List.length_cons] at hd hl
      by_cases h3 : vs.length + fl = 3
      · have hq : q = [] := List.eq_nil_of_length_eq_zero (by omega)
        subst hq
        simp only [List.foldl_nil, Option.some.injEq, Prod.mk.injEq] at h
        obtain ⟨rfl, rfl⟩ := h
        rw [fin, if_pos h3] at hd
        rw [List.cons_append, dgo_some (by rw [hi]; exact hd), if_pos (by simp; omega)]
        rfl
      · rw [fin, if_neg h3] at hd
        rw [List.cons_append, dgo_some (by rw [hi]; exact hd), ih v1 f1 (i + 1) vs' fl' (by omega) (by omega) hz1 (by omega) h]
        rw [show v1.length + f1 + q.length = vs.length + fl + (c :: q).length from by simp; omega, show i + 1 + q.length = i + (c :: q).length from by simp; omega]
/-- A group's beginning, taken by the machine. -/
theorem dgo_group (acc p r : List UInt8) (vs : List Nat) (fl i : Nat) (h : GInv p vs fl) (hi : i % 4 = 0) : dgo acc [] 0 i (p ++ r) = if p.length = 4 then dgo (acc ++ gb vs) [] fl (i + p.length) r else dgo acc vs fl (i + p.length) r := by
  have := dgo_run acc r p [] 0 i vs fl (by simp; exact h.len.2) (by simp) (.inl rfl) (by simpa using hi) h.gstEq
  simpa using this
theorem dgo_bad (acc p r : List UInt8) (vs : List Nat) (fl i : Nat) (c : UInt8) (h : GInv p vs fl) (hi : i % 4 = 0) (hl : p.length < 4) (hn : gstep (vs, fl) c = none) : dgo acc [] 0 i (p ++ c :: r) = ([], i + p.length, 30) := by
  have hlen := h.len.1
  have hz : fl = 0 ∨ vs.length ≠ 0 := by
    rcases h with ⟨rfl, rfl, rfl⟩ | ⟨c0, a, rfl, h0, rfl, rfl⟩ | ⟨c0, c1, a, b, rfl, h0, h1, rfl, rfl⟩ | ⟨c0, c1, c2, a, b, c, rfl, h0, h1, h2, rfl, rfl⟩ | ⟨c0, c1, a, b, rfl, h0, h1, hb, rfl, rfl⟩ | ⟨c0, c1, c2, c3, a, b, c, d, rfl, h0, h1, h2, h3, rfl, rfl⟩ | ⟨c0, c1, c2, a, b, c, rfl, h0, h1, h2, hc, rfl, rfl⟩ | ⟨c0, c1, a, b, rfl, h0, h1, hb, rfl, rfl⟩ <;> simp
  rw [dgo_group acc p (c :: r) vs fl i h hi, if_neg (by omega)]
  refine dgo_none ?_
  rw [show (i + p.length) % 4 = vs.length + fl from by omega, dstep_g acc vs fl c hz, hn]; rfl
theorem dw_r0 (a b n : Nat) (h : a * 262144 + b * 4096 = n) : IntKind.u8.wrap ((n : Int) / 65536) = ((b0 a b).toNat : Int) := by
  rw [show ((n : Int) / 65536) = ((n / 65536 : Nat) : Int) from by omega]
  exact dec_b0 a b _ (by omega)
theorem dw_r1 (a b c n m : Nat) (h : a * 262144 + b * 4096 = n) (hm : n + c * 64 = m) (hc : c < 64) : IntKind.u8.wrap ((m : Int) / 256) = ((b1 b c).toNat : Int) := by
  rw [show ((m : Int) / 256) = ((m / 256 : Nat) : Int) from by omega]
  exact dec_b1 b c _ (by omega)
theorem dw_r2 (a b c d n m k : Nat) (h : a * 262144 + b * 4096 = n) (hm : n + c * 64 = m) (hk : m + d = k) : IntKind.u8.wrap (k : Int) = ((b2 c d).toNat : Int) := dec_b2 c d _ (by omega)
end Go.Proofs.Ytpehogkgiikjmaa
