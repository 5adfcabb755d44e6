/- Dispositions as a plain function; names made small in a row; a map that counts names. No program is named. No conditions. -/
import Derived.Test.YtpdbejeiceodkaaGreatDoorParS
import Derived.Laws.OwnMore
import Derived.Maps.OwnSet
namespace Go.Proofs.YtpdbejeiceodkaaGreatDoor
open Go.RowKit
set_option linter.unusedSimpArgs false
set_option linter.unusedVariables false
def lowP (p : Par) : Par := (lowL p.1, p.2)
def lowMix (ps : List Par) (i : Nat) : List Par := (ps.take i).map lowP ++ ps.drop i
theorem lowMix_zero (ps : List Par) : lowMix ps 0 = ps := by simp [lowMix]
theorem lowMix_all (ps : List Par) : lowMix ps ps.length = ps.map lowP := by simp [lowMix]
theorem lowMix_len (ps : List Par) (i : Nat) : (lowMix ps i).length = ps.length := by
  unfold lowMix; rw [List.length_append, List.length_map, List.length_take, List.length_drop]; omega
theorem lowMix_at (ps : List Par) (i : Nat) (p : Par) (h : ps[i]? = some p) : (lowMix ps i)[i]? = some p := by
  have hl : i < ps.length := (List.getElem?_eq_some_iff.1 h).1
  unfold lowMix
  rw [List.getElem?_append_right (by rw [List.length_map, List.length_take]; omega), List.length_map, List.length_take, List.getElem?_drop, show i + (i - min i ps.length) = i from by omega]
  exact h
theorem lowMix_lt (ps : List Par) (i j : Nat) (p : Par) (hj : j < i) (h : ps[j]? = some p) : (lowMix ps i)[j]? = some (lowP p) := by
  have hl : j < ps.length := (List.getElem?_eq_some_iff.1 h).1
  unfold lowMix
  rw [List.getElem?_append_left (by rw [List.length_map, List.length_take]; omega), List.getElem?_map, List.getElem?_take, if_pos hj, h]
  rfl
theorem lowMix_step (ps : List Par) (i : Nat) (p : Par) (h : ps[i]? = some p) : (lowMix ps i).set i (lowP p) = lowMix ps (i + 1) := by
  have hl : i < ps.length := (List.getElem?_eq_some_iff.1 h).1
  have hk : (List.map lowP (ps.take i)).length = i := by rw [List.length_map, List.length_take]; omega
  unfold lowMix
  rw [List.set_append_right _ _ (by omega), hk, Nat.sub_self]
  have hd : ps.drop i = p :: ps.drop (i + 1) := by
    obtain ⟨hlt, he⟩ := List.getElem?_eq_some_iff.1 h
    rw [List.drop_eq_getElem_cons hlt, he]
  rw [hd, List.set_cons_zero, List.take_add_one, h, List.map_append]
  simp
theorem parsV_set (xs : List Par) (i : Nat) (p : Par) (t : List UInt8) (h : xs[i]? = some p) : (parsV xs).set (i * 3) (.string ⟨t.toArray⟩) = parsV (xs.set i (t, p.2)) := by
  induction xs generalizing i with
  | nil => simp at h
  | cons q r ih =>
    cases i with
    | zero =>
      obtain rfl : q = p := by simpa using h
      rfl
    | succ i =>
      have := ih i (by simpa using h)
      have e : ∀ q r, parsV (q :: r) = parV q ++ parsV r := fun _ _ => rfl
      have hl : (parV q).length = 3 := rfl
      rw [List.set_cons_succ, e, e, List.set_append_right _ _ (by omega), hl, show (i + 1) * 3 - 3 = i * 3 from by omega, this]
/-- A disposition: its kind and its parameters; none: it is not as it must be. -/
def disP (s : List UInt8) : Option (List UInt8 × List Par) :=
  let t := trimL s
  let n := runL isSg t
  let r := parR (t.drop n)
  if n ≠ 0 ∧ r.2.2 = 0 ∧ n + r.2.1 = t.length ∧ (∀ p ∈ r.1, p.2.2 = true) ∧ (r.1.map fun p => lowL p.1).Nodup then some (lowL (t.take n), r.1.map lowP) else none
def disR (s : List UInt8) : List UInt8 × List Par × Nat := match disP s with
  | some (k, qs) => (k, qs, 0)
  | none => ([], [], 152)
theorem dis_bad (s t : List UInt8) (n : Nat) (ht : trimL s = t) (hn : runL isSg t = n) (ps : List Par) (m e : Nat) (hr : parR (t.drop n) = (ps, m, e)) (h : ¬ (n ≠ 0 ∧ e = 0 ∧ n + m = t.length ∧ (∀ p ∈ ps, p.2.2 = true) ∧ (ps.map fun p => lowL p.1).Nodup)) : disR s = ([], [], 152) := by
  unfold disR disP
  simp only [ht, hn, hr]
  rw [if_neg h]
theorem dis_good (s t : List UInt8) (n : Nat) (ht : trimL s = t) (hn : runL isSg t = n) (ps : List Par) (m e : Nat) (hr : parR (t.drop n) = (ps, m, e)) (h : n ≠ 0 ∧ e = 0 ∧ n + m = t.length ∧ (∀ p ∈ ps, p.2.2 = true) ∧ (ps.map fun p => lowL p.1).Nodup) : disR s = (lowL (t.take n), ps.map lowP, 0) := by
  unfold disR disP
  simp only [ht, hn, hr]
  rw [if_pos h]
/-- A map that counts names: it has just those; as many as there are names only if no two are alike. -/
def NameMap (P : Program) (K E : TypeId) (w : World) (b : Nat) (xs : List (List UInt8)) : Prop :=
  ∃ D : DataW Unit, w.ownsMap P K (plainElem P E) b xs.length D ∧ Maps.Tidy D ∧ (∀ l, Maps.has D (.string l) = decide (l ∈ xs)) ∧ Maps.size D ≤ xs.length ∧ (Maps.size D = xs.length ↔ xs.Nodup)
theorem nameMap_made (P : Program) (K E : TypeId) (w : World) : NameMap P K E (w.alloc (.map #[] 0)) w.heap.size [] :=
  ⟨.map [], World.ownsMap_made w P K _, Maps.tidy_empty, fun l => rfl, Nat.le_refl _, by simp [Maps.size]⟩
theorem nameMap_step (D : DataW Unit) (xs : List (List UInt8)) (x : List UInt8) (d : DataW Unit) (ht : Maps.Tidy D) (hh : ∀ l, Maps.has D (.string l) = decide (l ∈ xs)) (hs : Maps.size D ≤ xs.length) (hn : Maps.size D = xs.length ↔ xs.Nodup) :
    Maps.Tidy (D.put (.string x) d) ∧ (∀ l, Maps.has (D.put (.string x) d) (.string l) = decide (l ∈ xs ++ [x])) ∧ Maps.size (D.put (.string x) d) ≤ (xs ++ [x]).length ∧ (Maps.size (D.put (.string x) d) = (xs ++ [x]).length ↔ (xs ++ [x]).Nodup) := by
  have hk : WideAt.IsKeyLit (.string x) := trivial
  have hsz := Maps.size_put (k := .string x) ht d
  rw [hh x] at hsz
  refine ⟨ht.put hk d, fun l => ?_, ?_, ?_⟩
  · by_cases hl : l = x
    · subst hl
      rw [Maps.has_put_same ht.isMap hk]; simp
    · rw [Maps.has_put_other (by intro e; injection e with e; exact hl e), hh l]
      simp [hl]
  · rw [hsz, List.length_append, List.length_singleton]
    split <;> omega
  · rw [hsz, List.length_append, List.length_singleton, List.nodup_append]
    by_cases hx : x ∈ xs
    · rw [if_pos (by simpa using hx)]
      constructor
      · intro h; omega
      · intro h; exact absurd rfl (h.2.2 x hx x (by simp))
    · rw [if_neg (by simpa using hx)]
      constructor
      · intro h
        refine ⟨hn.1 (by omega), by simp, fun a ha b hb => ?_⟩
        obtain rfl : b = x := by simpa using hb
        intro e; subst e; exact hx ha
      · intro h; rw [hn.2 h.1]
theorem own_mono2 {w : World} {base base' : Nat} {e : TypeId} {size : Nat} {v : Value} {n : Nat} {xs : List Value} (h : w.ownsRow base e size v n xs) (hb : base' ≤ base) : w.ownsRow base' e size v n xs :=
  ⟨h.1, h.2.imp id (fun ⟨g, cap, cur, a, b, c⟩ => ⟨g, cap, cur, a, Nat.le_trans hb b, c⟩)⟩
theorem own_three {w : World} {base g n cap : Nat} {e : TypeId} {xs : List Par} (h : w.ownsRow base e 3 (.slice (some ⟨g, 0, none⟩) n cap) n (parsV xs)) (i : Nat) (p : Par) (hp : xs[i]? = some p) (hi : i < n) :
    w.cell? ⟨g, i * 3, none⟩ = some (.string ⟨p.1.toArray⟩) ∧ w.cell? ⟨g, i * 3 + 1, none⟩ = some (.string ⟨p.2.1.toArray⟩) ∧ w.cell? ⟨g, i * 3 + 2, none⟩ = some (.bool p.2.2) := by
  have hc := parsV_get xs i p hp
  exact ⟨by rw [h.cellAt (i * 3) (by omega)]; exact hc.1, by rw [h.cellAt (i * 3 + 1) (by omega)]; exact hc.2.1, by rw [h.cellAt (i * 3 + 2) (by omega)]; exact hc.2.2⟩
/-- A name made small in its place. -/
theorem own_lower {w : World} {base g n cap : Nat} {e : TypeId} {ps : List Par} {i : Nat} {p : Par} (h : w.ownsRow base e 3 (.slice (some ⟨g, 0, none⟩) n cap) n (parsV (lowMix ps i))) (hp : ps[i]? = some p) :
    (w.setCell ⟨g, i * 3, none⟩ (.string ⟨(lowL p.1).toArray⟩)).ownsRow base e 3 (.slice (some ⟨g, 0, none⟩) n cap) n (parsV (lowMix ps (i + 1))) ∧ w.grownBy (w.setCell ⟨g, i * 3, none⟩ (.string ⟨(lowL p.1).toArray⟩)) (some g) := by
  have hst := h.stored (i * 3) (.string ⟨(lowL p.1).toArray⟩)
  rw [parsV_set _ i p (lowL p.1) (lowMix_at ps i p hp), show (lowL p.1, p.2) = lowP p from rfl, lowMix_step ps i p hp] at hst
  exact hst
theorem take_small {α : Type} (l : List α) (i : Nat) (h : i < maxLen) : (l.take i).length < maxLen := by rw [List.length_take]; omega
theorem names_len (ps : List Par) (i : Nat) (h : i ≤ ps.length) : ((ps.map fun p => lowL p.1).take i).length = i := by rw [List.length_take, List.length_map]; omega
end Go.Proofs.YtpdbejeiceodkaaGreatDoor
