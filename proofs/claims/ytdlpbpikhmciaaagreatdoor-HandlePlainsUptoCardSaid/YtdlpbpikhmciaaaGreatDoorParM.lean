/- Rows of texts and of parameters in memory, small laws of worlds. No program is named. No conditions. -/
import Derived.Test.YtdlpbpikhmciaaaGreatDoorRow1
import Derived.Maps.AppendAt
namespace Go.Proofs.YtdlpbpikhmciaaaGreatDoor
open Go.RowKit
set_option linter.unusedSimpArgs false
set_option linter.unusedVariables false
abbrev Par := List UInt8 × List UInt8 × Bool
def strV (l : List (List UInt8)) : List Value := l.map fun p => .string ⟨p.toArray⟩
def parV (p : Par) : List Value := [.string ⟨p.1.toArray⟩, .string ⟨p.2.1.toArray⟩, .bool p.2.2]
def parsV (l : List Par) : List Value := l.flatMap parV
theorem parsV_snoc (l : List Par) (p : Par) : parsV (l ++ [p]) = parsV l ++ parV p := by simp [parsV]
def StrsAt (w : World) (g : Nat) (l : List (List UInt8)) : Prop := g < w.heap.size ∧ ∀ j p, l[j]? = some p → w.cell? ⟨g, j, none⟩ = some (.string ⟨p.toArray⟩)
theorem strs_of_own {w : World} {base : Nat} {e : TypeId} {v : Value} {l : List (List UInt8)} (h : w.ownsRow base e 1 v l.length (strV l)) (hn : l ≠ []) :
    ∃ g cap, v = .slice (some ⟨g, 0, none⟩) l.length cap ∧ base ≤ g ∧ StrsAt w g l := by
  have hl : 0 < l.length := List.length_pos_iff.2 hn
  rcases h.2 with ⟨_, h0⟩ | ⟨g, cap, cur, rfl, hb, hg, hnc, hcm, hcs, hct⟩
  · omega
  · have hc := h.cells (g := g) rfl
    refine ⟨g, cap, rfl, hb, (Array.getElem?_eq_some_iff.1 hg).1, fun j p hj => ?_⟩
    have := hc j (.string ⟨p.toArray⟩) (by simp [strV, hj])
    rwa [show (⟨g, 0, none⟩ : Addr).add j = ⟨g, j, none⟩ from by unfold Addr.add; split <;> simp_all] at this
theorem strsAt_grown {w w' : World} {g : Nat} {l : List (List UInt8)} {row : Option Nat} (h : StrsAt w g l) (hg : w.grownBy w' row) (hne : some g ≠ row) : StrsAt w' g l :=
  ⟨Nat.lt_of_lt_of_le h.1 hg.size, fun j p hj => hg.cell (h.2 j p hj) hne⟩
theorem strsAt_below {w w' : World} {g B : Nat} {l : List (List UInt8)} (h : StrsAt w g l) (hb : Below B w w') (hg : g < B) : StrsAt w' g l :=
  ⟨Nat.lt_of_lt_of_le h.1 hb.size, fun j p hj => by rw [hb.cell (p := ⟨g, j, none⟩) hg]; exact h.2 j p hj⟩
theorem grown_of_below {w w' : World} (h : Below w.heap.size w w') : w.grownBy w' none := ⟨h.os, h.tape, h.output, h.size, fun i hi _ => h.block i hi⟩
theorem wrap64_small (i : Nat) (h : i ≤ 2199023255552) : wrap64 ((i : Int) + 1) = (i : Int) + 1 := by unfold wrap64; omega
theorem parsV_get (l : List Par) (i : Nat) (p : Par) (h : l[i]? = some p) : (parsV l)[i * 3]? = some (.string ⟨p.1.toArray⟩) ∧ (parsV l)[i * 3 + 1]? = some (.string ⟨p.2.1.toArray⟩) ∧ (parsV l)[i * 3 + 2]? = some (.bool p.2.2) := by
  induction l generalizing i with
  | nil => simp at h
  | cons q r ih =>
    cases i with
    | zero =>
      obtain rfl : q = p := by simpa using h
      exact ⟨rfl, rfl, rfl⟩
    | succ i =>
      have := ih i (by simpa using h)
      have e : parsV (q :: r) = parV q ++ parsV r := rfl
      have hl : (parV q).length = 3 := rfl
      rw [e]
      refine ⟨?_, ?_, ?_⟩
      · rw [List.getElem?_append_right (by omega), hl, show (i + 1) * 3 - 3 = i * 3 from by omega]; exact this.1
      · rw [List.getElem?_append_right (by omega), hl, show (i + 1) * 3 + 1 - 3 = i * 3 + 1 from by omega]; exact this.2.1
      · rw [List.getElem?_append_right (by omega), hl, show (i + 1) * 3 + 2 - 3 = i * 3 + 2 from by omega]; exact this.2.2
theorem own_later {w w' : World} {base : Nat} {T : TypeId} {n k : Nat} {v : Value} {xs : List Value} (h : w.ownsRow base T n v k xs) (hb : Below w.heap.size w w') : w'.ownsRow base T n v k xs :=
  h.kept (grown_of_below hb) (Classical.em _)
theorem mx_later {B : Nat} {w w' : World} {a : Addr} {v : Value} (hm : w.cell? a = some v) (hb : Below w.heap.size w w') : w'.cell? a = some v := by
  rw [hb.cell (p := a) (World.block_lt_of_cell? _ _ hm)]; exact hm
def ParAt (w : World) (ao : Option Addr) (l : List Par) : Prop := ∀ i p, l[i]? = some p → ∃ b o, ao = some ⟨b, o, none⟩ ∧ b < w.heap.size ∧
  w.cell? ⟨b, o + i * 3, none⟩ = some (.string ⟨p.1.toArray⟩) ∧ w.cell? ⟨b, o + i * 3 + 1, none⟩ = some (.string ⟨p.2.1.toArray⟩) ∧ w.cell? ⟨b, o + i * 3 + 2, none⟩ = some (.bool p.2.2)
def ParsIn (w : World) (v : Value) (l : List Par) : Prop := ∃ ao cap, v = .slice ao l.length cap ∧ ParAt w ao l
def totP : List Par → Nat
  | [] => 0
  | p :: r => p.1.length + p.2.1.length + totP r
theorem totP_append (a b : List Par) : totP (a ++ b) = totP a + totP b := by
  induction a with
  | nil => simp [totP]
  | cons p r ih => simp only [List.cons_append, totP, ih]; omega
theorem totP_get (l : List Par) (i : Nat) (p : Par) (h : l[i]? = some p) : p.1.length + p.2.1.length ≤ totP l := by
  induction l generalizing i with
  | nil => simp at h
  | cons q r ih =>
    cases i with
    | zero => obtain rfl : q = p := (by simpa using h); simp only [totP]; omega
    | succ i => have := ih i (by simpa using h); simp only [totP]; omega
theorem ParAt.below {w w' : World} {ao : Option Addr} {l : List Par} (h : ParAt w ao l) (hb : Below w.heap.size w w') : ParAt w' ao l := fun i p hp => by
  obtain ⟨b, o, e, lt, c0, c1, c2⟩ := h i p hp
  exact ⟨b, o, e, Nat.lt_of_lt_of_le lt hb.size, by rw [hb.cell (p := ⟨b, o + i * 3, none⟩) lt]; exact c0, by rw [hb.cell (p := ⟨b, o + i * 3 + 1, none⟩) lt]; exact c1, by rw [hb.cell (p := ⟨b, o + i * 3 + 2, none⟩) lt]; exact c2⟩
theorem ParsIn.below {w w' : World} {v : Value} {l : List Par} (h : ParsIn w v l) (hb : Below w.heap.size w w') : ParsIn w' v l := by
  obtain ⟨ao, cap, rfl, h⟩ := h
  exact ⟨ao, cap, rfl, h.below hb⟩
theorem parAt_drew {w : World} {ao : Option Addr} {l : List Par} (h : ParAt w ao l) (n : Nat) : ParAt (w.drewN n) ao l := h.below (below_drewN (Below.refl _ w) n)
theorem parsIn_own {w : World} {base : Nat} {T : TypeId} {v : Value} {l : List Par} (h : w.ownsRow base T 3 v l.length (parsV l)) : ParsIn w v l := by
  rcases h.2 with ⟨rfl, h0⟩ | ⟨g, cap, cur, rfl, hb, hg, _⟩
  · obtain rfl := List.eq_nil_of_length_eq_zero h0
    exact ⟨none, 0, rfl, fun i p hp => by simp at hp⟩
  · have hlt : g < w.heap.size := (Array.getElem?_eq_some_iff.1 hg).1
    have hc := h.cells (g := g) rfl
    refine ⟨_, cap, rfl, fun i p hp => ⟨g, 0, rfl, hlt, ?_⟩⟩
    have hgt := parsV_get l i p hp
    have e : ∀ j, (⟨g, 0, none⟩ : Addr).add j = ⟨g, j, none⟩ := fun j => by unfold Addr.add; split <;> simp_all
    rw [Nat.zero_add]
    refine ⟨?_, ?_, ?_⟩
    · have := hc _ _ hgt.1; rwa [e] at this
    · have := hc _ _ hgt.2.1; rwa [e] at this
    · have := hc _ _ hgt.2.2; rwa [e] at this
theorem bsz {L : Nat} {w w' : World} (h : Below L w w') (hL : Hid (w.heap.size = L)) : L ≤ w'.heap.size := by rw [← hL.out]; exact h.size
theorem new_kept {w w1 : World} {cs : Array Value} {T : TypeId} {j : Nat} {v : Value} (hb : Below (w.alloc (.cells cs T)).heap.size (w.alloc (.cells cs T)) w1) (h : cs[j]? = some v) : w1.cell? ⟨w.heap.size, j, none⟩ = some v := by
  rw [hb.cell (p := ⟨w.heap.size, j, none⟩) (by simp), Lib.cell_of_heap (heap_alloc_new w _)]
  exact h
theorem strV_snoc (l : List (List UInt8)) (p : List UInt8) : strV (l ++ [p]) = strV l ++ [.string ⟨p.toArray⟩] := by simp [strV]
theorem take_map {α β : Type} (f : α → β) (l : List α) (i : Nat) (p : α) (h : l[i]? = some p) : (l.map f).take (i + 1) = (l.map f).take i ++ [f p] := by rw [List.take_add_one, List.getElem?_map, h]; simp
theorem take_all {α : Type} (f : α → Bool) (l : List α) (i : Nat) (p : α) (h : l[i]? = some p) (ha : (l.take i).all f = true) (hp : f p = true) : (l.take (i + 1)).all f = true := by rw [List.take_add_one, h]; simp [ha, hp]
def Cells3 (g a : Nat) (p : Par) (w : World) : Prop := w.cell? ⟨g, a, none⟩ = some (.string ⟨p.1.toArray⟩) ∧ w.cell? ⟨g, a + 1, none⟩ = some (.string ⟨p.2.1.toArray⟩) ∧ w.cell? ⟨g, a + 2, none⟩ = some (.bool p.2.2) ∧ g < w.heap.size
theorem Cells3.below {g a : Nat} {p : Par} {w w' : World} (h : Cells3 g a p w) (hb : Below w.heap.size w w') : Cells3 g a p w' :=
  ⟨by rw [hb.cell (p := ⟨g, a, none⟩) h.2.2.2]; exact h.1, by rw [hb.cell (p := ⟨g, a + 1, none⟩) h.2.2.2]; exact h.2.1, by rw [hb.cell (p := ⟨g, a + 2, none⟩) h.2.2.2]; exact h.2.2.1, Nat.lt_of_lt_of_le h.2.2.2 hb.size⟩
theorem Cells3.grown {g a : Nat} {p : Par} {w w' : World} {row : Option Nat} (h : Cells3 g a p w) (hg : w.grownBy w' row) (hne : some g ≠ row) : Cells3 g a p w' :=
  ⟨hg.cell h.1 hne, hg.cell h.2.1 hne, hg.cell h.2.2.1 hne, Nat.lt_of_lt_of_le h.2.2.2 hg.size⟩
theorem keep3 {w : World} {g a : Nat} {p : Par} (h : Cells3 g a p w.drew) (o : Obj) : Cells3 g a p ((w.alloc o).drew) :=
  ⟨cell_keep (w := w) h.1 h.2.2.2 o, cell_keep (w := w) h.2.1 h.2.2.2 o, cell_keep (w := w) h.2.2.1 h.2.2.2 o, by have : g < w.heap.size := h.2.2.2; show g < (w.alloc o).heap.size; simp; omega⟩
theorem parsV_take (l : List Par) (i : Nat) (p : Par) (h : l[i]? = some p) : parsV (l.take (i + 1)) = parsV (l.take i) ++ [.string ⟨p.1.toArray⟩, .string ⟨p.2.1.toArray⟩, .bool p.2.2] := by
  rw [List.take_add_one, h, Option.toList_some, parsV_snoc]; rfl
end Go.Proofs.YtdlpbpikhmciaaaGreatDoor
