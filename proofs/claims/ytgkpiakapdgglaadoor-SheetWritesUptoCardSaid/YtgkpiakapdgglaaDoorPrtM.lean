/- Rows of parts in memory. No program is named. No conditions. -/
import Derived.Test.YtgkpiakapdgglaaDoorParM
import Derived.Lib.IndexMore
namespace Go.Proofs.YtgkpiakapdgglaaDoor
open Go.RowKit
set_option linter.unusedSimpArgs false
set_option linter.unusedVariables false
/-- A part: name, file, media, body, has a file. -/
structure Prt where
  name : List UInt8
  file : List UInt8
  media : List UInt8
  body : List UInt8
  has : Bool
def prtV (p : Prt) : List Value := [.string ⟨p.name.toArray⟩, .string ⟨p.file.toArray⟩, .string ⟨p.media.toArray⟩, .string ⟨p.body.toArray⟩, .bool p.has]
def prtsV (l : List Prt) : List Value := l.flatMap prtV
theorem prtsV_snoc (l : List Prt) (p : Prt) : prtsV (l ++ [p]) = prtsV l ++ prtV p := by simp [prtsV]
def Cells5 (g a : Nat) (p : Prt) (w : World) : Prop := w.cell? ⟨g, a, none⟩ = some (.string ⟨p.name.toArray⟩) ∧ w.cell? ⟨g, a + 1, none⟩ = some (.string ⟨p.file.toArray⟩) ∧ w.cell? ⟨g, a + 2, none⟩ = some (.string ⟨p.media.toArray⟩) ∧ w.cell? ⟨g, a + 3, none⟩ = some (.string ⟨p.body.toArray⟩) ∧ w.cell? ⟨g, a + 4, none⟩ = some (.bool p.has) ∧ g < w.heap.size
theorem Cells5.below {g a : Nat} {p : Prt} {w w' : World} (h : Cells5 g a p w) (hb : Below w.heap.size w w') : Cells5 g a p w' :=
  have lt := h.2.2.2.2.2
  ⟨by rw [hb.cell (p := ⟨g, a, none⟩) lt]; exact h.1, by rw [hb.cell (p := ⟨g, a + 1, none⟩) lt]; exact h.2.1, by rw [hb.cell (p := ⟨g, a + 2, none⟩) lt]; exact h.2.2.1, by rw [hb.cell (p := ⟨g, a + 3, none⟩) lt]; exact h.2.2.2.1, by rw [hb.cell (p := ⟨g, a + 4, none⟩) lt]; exact h.2.2.2.2.1, Nat.lt_of_lt_of_le lt hb.size⟩
theorem Cells5.grown {g a : Nat} {p : Prt} {w w' : World} {row : Option Nat} (h : Cells5 g a p w) (hg : w.grownBy w' row) (hne : some g ≠ row) : Cells5 g a p w' :=
  ⟨hg.cell h.1 hne, hg.cell h.2.1 hne, hg.cell h.2.2.1 hne, hg.cell h.2.2.2.1 hne, hg.cell h.2.2.2.2.1 hne, Nat.lt_of_lt_of_le h.2.2.2.2.2 hg.size⟩
theorem keep5 {w : World} {g a : Nat} {p : Prt} (h : Cells5 g a p w.drew) (o : Obj) : Cells5 g a p ((w.alloc o).drew) :=
  have lt : g < w.heap.size := h.2.2.2.2.2
  ⟨cell_keep (w := w) h.1 lt o, cell_keep (w := w) h.2.1 lt o, cell_keep (w := w) h.2.2.1 lt o, cell_keep (w := w) h.2.2.2.1 lt o, cell_keep (w := w) h.2.2.2.2.1 lt o, by show g < (w.alloc o).heap.size; simp; omega⟩
def PrtAt (w : World) (ao : Option Addr) (l : List Prt) : Prop := ∀ i p, l[i]? = some p → ∃ b o, ao = some ⟨b, o, none⟩ ∧ Cells5 b (o + i * 5) p w
def PrtsIn (w : World) (v : Value) (l : List Prt) : Prop := ∃ ao cap, v = .slice ao l.length cap ∧ PrtAt w ao l
theorem PrtAt.below {w w' : World} {ao : Option Addr} {l : List Prt} (h : PrtAt w ao l) (hb : Below w.heap.size w w') : PrtAt w' ao l := fun i p hp => by
  obtain ⟨b, o, e, hc⟩ := h i p hp
  exact ⟨b, o, e, hc.below hb⟩
theorem PrtsIn.below {w w' : World} {v : Value} {l : List Prt} (h : PrtsIn w v l) (hb : Below w.heap.size w w') : PrtsIn w' v l := by
  obtain ⟨ao, cap, rfl, h⟩ := h
  exact ⟨ao, cap, rfl, h.below hb⟩
theorem prtsV_get (l : List Prt) (i : Nat) (p : Prt) (h : l[i]? = some p) (k : Nat) (hk : k < 5) : (prtsV l)[i * 5 + k]? = (prtV p)[k]? := by
  induction l generalizing i with
  | nil => simp at h
  | cons q r ih =>
    have e : prtsV (q :: r) = prtV q ++ prtsV r := rfl
    have hl : (prtV q).length = 5 := rfl
    cases i with
    | zero =>
      obtain rfl : q = p := by simpa using h
      rw [e, List.getElem?_append_left (by omega)]
      simp
    | succ i =>
      rw [e, List.getElem?_append_right (by omega), hl, show (i + 1) * 5 + k - 5 = i * 5 + k from by omega]
      exact ih i (by simpa using h)
theorem prtsIn_own {w : World} {base : Nat} {T : TypeId} {v : Value} {l : List Prt} (h : w.ownsRow base T 5 v l.length (prtsV l)) : PrtsIn w v l := by
  rcases h.2 with ⟨rfl, h0⟩ | ⟨g, cap, cur, rfl, hb, hg, _⟩
  · obtain rfl := List.eq_nil_of_length_eq_zero h0
    exact ⟨none, 0, rfl, fun i p hp => by simp at hp⟩
  · have hlt : g < w.heap.size := (Array.getElem?_eq_some_iff.1 hg).1
    have hc := h.cells (g := g) rfl
    have e : ∀ j, (⟨g, 0, none⟩ : Addr).add j = ⟨g, j, none⟩ := fun j => by unfold Addr.add; split <;> simp_all
    have at_ : ∀ i p, l[i]? = some p → ∀ k u, k < 5 → (prtV p)[k]? = some u → w.cell? ⟨g, i * 5 + k, none⟩ = some u := fun i p hp k u hk hu => by
      have := hc (i * 5 + k) u (by rw [prtsV_get l i p hp k hk]; exact hu)
      rwa [e] at this
    refine ⟨_, cap, rfl, fun i p hp => ⟨g, 0, rfl, ?_⟩⟩
    rw [Nat.zero_add]
    exact ⟨at_ i p hp 0 _ (by omega) rfl, at_ i p hp 1 _ (by omega) rfl, at_ i p hp 2 _ (by omega) rfl, at_ i p hp 3 _ (by omega) rfl, at_ i p hp 4 _ (by omega) rfl, hlt⟩
/-- A text stands in one of a part's. -/
def std (t : List UInt8) (p : Prt) : Bool := Lib.contains p.body t || (Lib.contains p.name t || (Lib.contains p.file t || Lib.contains p.media t))
def stood (l : List Prt) (t : List UInt8) : Bool := l.any (std t)
def prtLen (p : Prt) : Nat := p.name.length + p.file.length + p.media.length + p.body.length
def totQ : List Prt → Nat
  | [] => 0
  | p :: r => prtLen p + totQ r
theorem totQ_append (a b : List Prt) : totQ (a ++ b) = totQ a + totQ b := by
  induction a with
  | nil => simp [totQ]
  | cons p r ih => simp only [List.cons_append, totQ, ih]; omega
theorem totQ_get (l : List Prt) (i : Nat) (p : Prt) (h : l[i]? = some p) : prtLen p ≤ totQ l := by
  induction l generalizing i with
  | nil => simp at h
  | cons q r ih =>
    cases i with
    | zero => obtain rfl : q = p := (by simpa using h); simp only [totQ]; omega
    | succ i => have := ih i (by simpa using h); simp only [totQ]; omega
theorem stood_no (l : List Prt) (t : List UInt8) (h : ∀ j p, j < l.length → l[j]? = some p → std t p = false) : stood l t = false := by
  unfold stood
  rw [List.any_eq_false]
  intro p hp
  obtain ⟨j, hj⟩ := List.getElem?_of_mem hp
  rw [h j p (List.getElem?_eq_some_iff.1 hj).1 hj]; simp
theorem stood_yes (l : List Prt) (t : List UInt8) (j : Nat) (p : Prt) (hj : l[j]? = some p) (h : std t p = true) : stood l t = true := by
  unfold stood
  rw [List.any_eq_true]
  exact ⟨p, List.mem_of_getElem? hj, h⟩
end Go.Proofs.YtgkpiakapdgglaaDoor
