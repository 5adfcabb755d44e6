/- A list of parameters in memory, wherever it stands. No program is named. No conditions. -/
import Derived.Test.YtgkpiakapdgglaaDoorLawSPairs
namespace Go.Proofs.YtgkpiakapdgglaaDoor
open Go.RowKit
set_option linter.unusedSimpArgs false
set_option linter.unusedVariables false
def ParAt (w : World) (ao : Option Addr) (l : List Par) : Prop := ∀ i p, l[i]? = some p → ∃ b o, ao = some ⟨b, o, none⟩ ∧ b < w.heap.size ∧
  w.cell? ⟨b, o + i * 3, none⟩ = some (.string ⟨p.1.toArray⟩) ∧ w.cell? ⟨b, o + i * 3 + 1, none⟩ = some (.string ⟨p.2.1.toArray⟩) ∧ w.cell? ⟨b, o + i * 3 + 2, none⟩ = some (.bool p.2.2)
def ParsIn (w : World) (v : Value) (l : List Par) : Prop := ∃ ao cap, v = .slice ao l.length cap ∧ ParAt w ao l
def totP : List Par → Nat
  | [] => 0
  | p :: r => p.1.length + p.2.1.length + totP r
theorem totP_append (a b : List Par) : totP (a ++ b) = totP a + totP b := by
  induction a with
  | nil => simp [totP]
  | cons p r ih => simp only [List.cons_append, totP, ih]; omega
theorem totP_get (l : List Par) (i : Nat) (p : Par) (h : l[i]? = some p) : p.1.length + p.2.1.length ≤ totP l := by
  induction l generalizing i with
  | nil => simp at h
  | cons q r ih =>
    cases i with
    | zero => obtain rfl : q = p := (by simpa using h); simp only [totP]; omega
    | succ i => have := ih i (by simpa using h); simp only [totP]; omega
theorem ParAt.below {w w' : World} {ao : Option Addr} {l : List Par} (h : ParAt w ao l) (hb : Below w.heap.size w w') : ParAt w' ao l := fun i p hp => by
  obtain ⟨b, o, e, lt, c0, c1, c2⟩ := h i p hp
  exact ⟨b, o, e, Nat.lt_of_lt_of_le lt hb.size, by rw [hb.cell (p := ⟨b, o + i * 3, none⟩) lt]; exact c0, by rw [hb.cell (p := ⟨b, o + i * 3 + 1, none⟩) lt]; exact c1, by rw [hb.cell (p := ⟨b, o + i * 3 + 2, none⟩) lt]; exact c2⟩
theorem ParsIn.below {w w' : World} {v : Value} {l : List Par} (h : ParsIn w v l) (hb : Below w.heap.size w w') : ParsIn w' v l := by
  obtain ⟨ao, cap, rfl, h⟩ := h
  exact ⟨ao, cap, rfl, h.below hb⟩
theorem parAt_drew {w : World} {ao : Option Addr} {l : List Par} (h : ParAt w ao l) (n : Nat) : ParAt (w.drewN n) ao l := h.below (below_drewN (Below.refl _ w) n)
theorem parsIn_own {w : World} {base : Nat} {T : TypeId} {v : Value} {l : List Par} (h : w.ownsRow base T 3 v l.length (parsV l)) : ParsIn w v l := by
  rcases h.2 with ⟨rfl, h0⟩ | ⟨g, cap, cur, rfl, hb, hg, _⟩
  · obtain rfl := List.eq_nil_of_length_eq_zero h0
    exact ⟨none, 0, rfl, fun i p hp => by simp at hp⟩
  · have hlt : g < w.heap.size := (Array.getElem?_eq_some_iff.1 hg).1
    have hc := h.cells (g := g) rfl
    refine ⟨_, cap, rfl, fun i p hp => ⟨g, 0, rfl, hlt, ?_⟩⟩
    have hgt := parsV_get l i p hp
    have e : ∀ j, (⟨g, 0, none⟩ : Addr).add j = ⟨g, j, none⟩ := fun j => by unfold Addr.add; split <;> simp_all
    rw [Nat.zero_add]
    refine ⟨?_, ?_, ?_⟩
    · have := hc _ _ hgt.1; rwa [e] at this
    · have := hc _ _ hgt.2.1; rwa [e] at this
    · have := hc _ _ hgt.2.2; rwa [e] at this
end Go.Proofs.YtgkpiakapdgglaaDoor
