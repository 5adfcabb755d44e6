/- ParM, OctP: texts of the seat, one behind the other (a claim holds at most sixty). Conditions: each theorem names its own. -/
import Derived.Test.YtlfdeenekjklgaaGreatDoorPk00
import Derived.Maps.AppendAt
namespace Go.Proofs.YtlfdeenekjklgaaGreatDoor
open Go.RowKit
set_option linter.unusedSimpArgs false
set_option linter.unusedVariables false
abbrev Par := List UInt8 × List UInt8 × Bool
def strV (l : List (List UInt8)) : List Value := l.map fun p => .string ⟨p.toArray⟩
def parV (p : Par) : List Value := [.string ⟨p.1.toArray⟩, .string ⟨p.2.1.toArray⟩, .bool p.2.2]
def parsV (l : List Par) : List Value := l.flatMap parV
theorem parsV_snoc (l : List Par) (p : Par) : parsV (l ++ [p]) = parsV l ++ parV p := by simp [parsV]
def StrsAt (w : World) (g : Nat) (l : List (List UInt8)) : Prop := g < w.heap.size ∧ ∀ j p, l[j]? = some p → w.cell? ⟨g, j, none⟩ = some (.string ⟨p.toArray⟩)
theorem strs_of_own {w : World} {base : Nat} {e : TypeId} {v : Value} {l : List (List UInt8)} (h : w.ownsRow base e 1 v l.length (strV l)) (hn : l ≠ []) :
    ∃ g cap, v = .slice (some ⟨g, 0, none⟩) l.length cap ∧ base ≤ g ∧ StrsAt w g l := by
  have hl : 0 < l.length := List.length_pos_iff.2 hn
  rcases h.2 with ⟨_, h0⟩ | ⟨g, cap, cur, rfl, hb, hg, hnc, hcm, hcs, hct⟩
  · omega
  · have hc := h.cells (g := g) rfl
    refine ⟨g, cap, rfl, hb, (Array.getElem?_eq_some_iff.1 hg).1, fun j p hj => ?_⟩
    have := hc j (.string ⟨p.toArray⟩) (by simp [strV, hj])
    rwa [show (⟨g, 0, none⟩ : Addr).add j = ⟨g, j, none⟩ from by unfold Addr.add; split <;> simp_all] at this
theorem strsAt_grown {w w' : World} {g : Nat} {l : List (List UInt8)} {row : Option Nat} (h : StrsAt w g l) (hg : w.grownBy w' row) (hne : some g ≠ row) : StrsAt w' g l :=
  ⟨Nat.lt_of_lt_of_le h.1 hg.size, fun j p hj => hg.cell (h.2 j p hj) hne⟩
theorem strsAt_below {w w' : World} {g B : Nat} {l : List (List UInt8)} (h : StrsAt w g l) (hb : Below B w w') (hg : g < B) : StrsAt w' g l :=
  ⟨Nat.lt_of_lt_of_le h.1 hb.size, fun j p hj => by rw [hb.cell (p := ⟨g, j, none⟩) hg]; exact h.2 j p hj⟩
theorem grown_of_below {w w' : World} (h : Below w.heap.size w w') : w.grownBy w' none := ⟨h.os, h.tape, h.output, h.size, fun i hi _ => h.block i hi⟩
theorem wrap64_small (i : Nat) (h : i ≤ 2199023255552) : wrap64 ((i : Int) + 1) = (i : Int) + 1 := by unfold wrap64; omega
theorem parsV_get (l : List Par) (i : Nat) (p : Par) (h : l[i]? = some p) : (parsV l)[i * 3]? = some (.string ⟨p.1.toArray⟩) ∧ (parsV l)[i * 3 + 1]? = some (.string ⟨p.2.1.toArray⟩) ∧ (parsV l)[i * 3 + 2]? = some (.bool p.2.2) := by
  induction l generalizing i with
  | nil => simp at h
  | cons q r ih =>
    cases i with
    | zero =>
      obtain rfl : q = p := by simpa using h
      exact ⟨rfl, rfl, rfl⟩
    | succ i =>
      have := ih i (by simpa using h)
      have e : parsV (q :: r) = parV q ++ parsV r := rfl
      have hl : (parV q).length = 3 := rfl
      rw [e]
      refine ⟨?_, ?_, ?_⟩
      · rw [List.getElem?_append_right (by omega), hl, show (i + 1) * 3 - 3 = i * 3 from by omega]; exact this.1
      · rw [List.getElem?_append_right (by omega), hl, show (i + 1) * 3 + 1 - 3 = i * 3 + 1 from by omega]; exact this.2.1
      · rw [List.getElem?_append_right (by omega), hl, show (i + 1) * 3 + 2 - 3 = i * 3 + 2 from by omega]; exact this.2.2
theorem own_later {w w' : World} {base : Nat} {T : TypeId} {n k : Nat} {v : Value} {xs : List Value} (h : w.ownsRow base T n v k xs) (hb : Below w.heap.size w w') : w'.ownsRow base T n v k xs :=
  h.kept (grown_of_below hb) (Classical.em _)
theorem mx_later {B : Nat} {w w' : World} {a : Addr} {v : Value} (hm : w.cell? a = some v) (hb : Below w.heap.size w w') : w'.cell? a = some v := by
  rw [hb.cell (p := a) (World.block_lt_of_cell? _ _ hm)]; exact hm
def ParAt (w : World) (ao : Option Addr) (l : List Par) : Prop := ∀ i p, l[i]? = some p → ∃ b o, ao = some ⟨b, o, none⟩ ∧ b < w.heap.size ∧
  w.cell? ⟨b, o + i * 3, none⟩ = some (.string ⟨p.1.toArray⟩) ∧ w.cell? ⟨b, o + i * 3 + 1, none⟩ = some (.string ⟨p.2.1.toArray⟩) ∧ w.cell? ⟨b, o + i * 3 + 2, none⟩ = some (.bool p.2.2)
def ParsIn (w : World) (v : Value) (l : List Par) : Prop := ∃ ao cap, v = .slice ao l.length cap ∧ ParAt w ao l
def totP : List Par → Nat
  | [] => 0
  | p :: r => p.1.length + p.2.1.length + totP r
theorem totP_append (a b : List Par) : totP (a ++ b) = totP a + totP b := by
  induction a with
  | nil => simp [totP]
  | cons p r ih => simp only [List.cons_append, totP, ih]; omega
theorem totP_get (l : List Par) (i : Nat) (p : Par) (h : l[i]? = some p) : p.1.length + p.2.1.length ≤ totP l := by
  induction l generalizing i with
  | nil => simp at h
  | cons q r ih =>
    cases i with
    | zero => obtain rfl : q = p := (by simpa using h); simp only [totP]; omega
    | succ i => have := ih i (by simpa using h); simp only [totP]; omega
theorem ParAt.below {w w' : World} {ao : Option Addr} {l : List Par} (h : ParAt w ao l) (hb : Below w.heap.size w w') : ParAt w' ao l := fun i p hp => by
  obtain ⟨b, o, e, lt, c0, c1, c2⟩ := h i p hp
  exact ⟨b, o, e, Nat.lt_of_lt_of_le lt hb.size, by rw [hb.cell (p := ⟨b, o + i * 3, none⟩) lt]; exact c0, by rw [hb.cell (p := ⟨b, o + i * 3 + 1, none⟩) lt]; exact c1, by rw [hb.cell (p := ⟨b, o + i * 3 + 2, none⟩) lt]; exact c2⟩
theorem ParsIn.below {w w' : World} {v : Value} {l : List Par} (h : ParsIn w v l) (hb : Below w.heap.size w w') : ParsIn w' v l := by
  obtain ⟨ao, cap, rfl, h⟩ := h
  exact ⟨ao, cap, rfl, h.below hb⟩
theorem parAt_drew {w : World} {ao : Option Addr} {l : List Par} (h : ParAt w ao l) (n : Nat) : ParAt (w.drewN n) ao l := h.below (below_drewN (Below.refl _ w) n)
theorem parsIn_own {w : World} {base : Nat} {T : TypeId} {v : Value} {l : List Par} (h : w.ownsRow base T 3 v l.length (parsV l)) : ParsIn w v l := by
  rcases h.2 with ⟨rfl, h0⟩ | ⟨g, cap, cur, rfl, hb, hg, _⟩
  · obtain rfl := List.eq_nil_of_length_eq_zero h0
    exact ⟨none, 0, rfl, fun i p hp => by simp at hp⟩
  · have hlt : g < w.heap.size := (Array.getElem?_eq_some_iff.1 hg).1
    have hc := h.cells (g := g) rfl
    refine ⟨_, cap, rfl, fun i p hp => ⟨g, 0, rfl, hlt, ?_⟩⟩
    have hgt := parsV_get l i p hp
    have e : ∀ j, (⟨g, 0, none⟩ : Addr).add j = ⟨g, j, none⟩ := fun j => by unfold Addr.add; split <;> simp_all
    rw [Nat.zero_add]
    refine ⟨?_, ?_, ?_⟩
    · have := hc _ _ hgt.1; rwa [e] at this
    · have := hc _ _ hgt.2.1; rwa [e] at this
    · have := hc _ _ hgt.2.2; rwa [e] at this
theorem bsz {L : Nat} {w w' : World} (h : Below L w w') (hL : Hid (w.heap.size = L)) : L ≤ w'.heap.size := by rw [← hL.out]; exact h.size
theorem new_kept {w w1 : World} {cs : Array Value} {T : TypeId} {j : Nat} {v : Value} (hb : Below (w.alloc (.cells cs T)).heap.size (w.alloc (.cells cs T)) w1) (h : cs[j]? = some v) : w1.cell? ⟨w.heap.size, j, none⟩ = some v := by
  rw [hb.cell (p := ⟨w.heap.size, j, none⟩) (by simp), Lib.cell_of_heap (heap_alloc_new w _)]
  exact h
theorem strV_snoc (l : List (List UInt8)) (p : List UInt8) : strV (l ++ [p]) = strV l ++ [.string ⟨p.toArray⟩] := by simp [strV]
theorem take_map {α β : Type} (f : α → β) (l : List α) (i : Nat) (p : α) (h : l[i]? = some p) : (l.map f).take (i + 1) = (l.map f).take i ++ [f p] := by rw [List.take_add_one, List.getElem?_map, h]; simp
theorem take_all {α : Type} (f : α → Bool) (l : List α) (i : Nat) (p : α) (h : l[i]? = some p) (ha : (l.take i).all f = true) (hp : f p = true) : (l.take (i + 1)).all f = true := by rw [List.take_add_one, h]; simp [ha, hp]
def Cells3 (g a : Nat) (p : Par) (w : World) : Prop := w.cell? ⟨g, a, none⟩ = some (.string ⟨p.1.toArray⟩) ∧ w.cell? ⟨g, a + 1, none⟩ = some (.string ⟨p.2.1.toArray⟩) ∧ w.cell? ⟨g, a + 2, none⟩ = some (.bool p.2.2) ∧ g < w.heap.size
theorem Cells3.below {g a : Nat} {p : Par} {w w' : World} (h : Cells3 g a p w) (hb : Below w.heap.size w w') : Cells3 g a p w' :=
  ⟨by rw [hb.cell (p := ⟨g, a, none⟩) h.2.2.2]; exact h.1, by rw [hb.cell (p := ⟨g, a + 1, none⟩) h.2.2.2]; exact h.2.1, by rw [hb.cell (p := ⟨g, a + 2, none⟩) h.2.2.2]; exact h.2.2.1, Nat.lt_of_lt_of_le h.2.2.2 hb.size⟩
theorem Cells3.grown {g a : Nat} {p : Par} {w w' : World} {row : Option Nat} (h : Cells3 g a p w) (hg : w.grownBy w' row) (hne : some g ≠ row) : Cells3 g a p w' :=
  ⟨hg.cell h.1 hne, hg.cell h.2.1 hne, hg.cell h.2.2.1 hne, Nat.lt_of_lt_of_le h.2.2.2 hg.size⟩
theorem keep3 {w : World} {g a : Nat} {p : Par} (h : Cells3 g a p w.drew) (o : Obj) : Cells3 g a p ((w.alloc o).drew) :=
  ⟨cell_keep (w := w) h.1 h.2.2.2 o, cell_keep (w := w) h.2.1 h.2.2.2 o, cell_keep (w := w) h.2.2.1 h.2.2.2 o, by have : g < w.heap.size := h.2.2.2; show g < (w.alloc o).heap.size; simp; omega⟩
theorem parsV_take (l : List Par) (i : Nat) (p : Par) (h : l[i]? = some p) : parsV (l.take (i + 1)) = parsV (l.take i) ++ [.string ⟨p.1.toArray⟩, .string ⟨p.2.1.toArray⟩, .bool p.2.2] := by
  rw [List.take_add_one, h, Option.toList_some, parsV_snoc]; rfl
end Go.Proofs.YtlfdeenekjklgaaGreatDoor
namespace Go.Proofs.YtlfdeenekjklgaaGreatDoor
open Go.RowKit
set_option linter.unusedSimpArgs false
set_option linter.unusedVariables false
/-- The signs of tokens. -/
def isSg (c : UInt8) : Bool := (48 ≤ c.toNat && c.toNat ≤ 57) || (65 ≤ c.toNat && c.toNat ≤ 90) || (97 ≤ c.toNat && c.toNat ≤ 122) || [33, 35, 36, 37, 38, 39, 42, 43, 45, 46, 94, 95, 96, 124, 126].contains c
def isFb (c : UInt8) : Bool := c.toNat == 9 || (32 ≤ c.toNat && c.toNat != 127)
def isBl (c : UInt8) : Bool := c.toNat == 32 || c.toNat == 9
def low (c : UInt8) : UInt8 := if 65 ≤ c.toNat ∧ c.toNat ≤ 90 then UInt8.ofNat (c.toNat + 32) else c
def lowL (l : List UInt8) : List UInt8 := l.map low
def isTok (l : List UInt8) : Bool := !l.isEmpty && l.all isSg
def isFld (l : List UInt8) : Bool := l.all isFb
def trimL (l : List UInt8) : List UInt8 := ((l.dropWhile isBl).reverse.dropWhile isBl).reverse
/-- The quoted text behind its first mark: what it says, and how many bytes it has from there on. -/
def unqT : List UInt8 → Option (List UInt8 × Nat)
  | [] => none
  | c :: r =>
    if c = 34 then some ([], 1)
    else if c = 92 then
      match r with
      | [] => none
      | d :: r' => if isFb d then (unqT r').map fun x => (d :: x.1, x.2 + 2) else none
    else if isFb c then (unqT r).map fun x => (c :: x.1, x.2 + 1) else none
def unq : List UInt8 → Option (List UInt8 × Nat)
  | [] => none
  | c :: r => if c = 34 then (unqT r).map fun x => (x.1, x.2 + 1) else none
/-- How many bytes from the front on may stand. -/
def runL (p : UInt8 → Bool) (l : List UInt8) : Nat := (l.takeWhile p).length
theorem runL_le (p : UInt8 → Bool) (l : List UInt8) : runL p l ≤ l.length := by
  unfold runL
  induction l with
  | nil => simp
  | cons c r ih => rw [List.takeWhile_cons]; split <;> simp; omega
theorem runL_nil (p : UInt8 → Bool) : runL p [] = 0 := rfl
theorem runL_cons (p : UInt8 → Bool) (c : UInt8) (r : List UInt8) : runL p (c :: r) = if p c then runL p r + 1 else 0 := by
  unfold runL; rw [List.takeWhile_cons]; split <;> simp
theorem runL_more (p : UInt8 → Bool) : ∀ (l : List UInt8) (n : Nat) (c : UInt8), n ≤ runL p l → l[n]? = some c → p c = true → n + 1 ≤ runL p l
  | [], n, c, _, h, _ => by simp at h
  | d :: r, 0, c, _, h, hp => by
    obtain rfl : d = c := by simpa using h
    rw [runL_cons, if_pos hp]; omega
  | d :: r, n + 1, c, hn, h, hp => by
    rw [runL_cons] at hn ⊢
    split at hn
    · have := runL_more p r n c (by omega) (by simpa using h) hp
      rw [if_pos (by assumption)]; omega
    · omega
theorem runL_stop (p : UInt8 → Bool) : ∀ (l : List UInt8) (n : Nat) (c : UInt8), n ≤ runL p l → l[n]? = some c → p c = false → n = runL p l
  | [], n, c, _, h, _ => by simp at h
  | d :: r, 0, c, _, h, hp => by
    obtain rfl : d = c := by simpa using h
    rw [runL_cons, hp]; rfl
  | d :: r, n + 1, c, hn, h, hp => by
    rw [runL_cons] at hn ⊢
    split at hn
    · have := runL_stop p r n c (by omega) (by simpa using h) hp
      rw [if_pos (by assumption)]; omega
    · omega
theorem runL_end (p : UInt8 → Bool) (l : List UInt8) (n : Nat) (h : n ≤ runL p l) (h2 : l.length ≤ n) : n = runL p l := by
  have := runL_le p l; omega
theorem isTok_none : isTok [] = false := rfl
theorem all_take (p : UInt8 → Bool) (l : List UInt8) (k : Nat) (c : UInt8) (h : l[k]? = some c) (ha : (l.take k).all p = true) (hp : p c = true) : (l.take (k + 1)).all p = true := by
  rw [List.take_add_one, h]
  simp only [Option.toList_some, List.all_append, ha, List.all_cons, hp, List.all_nil, Bool.and_self]
theorem all_not (p : UInt8 → Bool) (l : List UInt8) (k : Nat) (c : UInt8) (h : l[k]? = some c) (hp : p c = false) : l.all p = false := by
  rw [List.all_eq_false]
  exact ⟨c, List.mem_of_getElem? h, by rw [hp]; simp⟩
theorem isTok_runL (l : List UInt8) : isTok l = (decide (0 < l.length) && decide (runL isSg l = l.length)) := by
  unfold isTok
  cases l with
  | nil => rfl
  | cons c r =>
    simp only [List.isEmpty_cons, Bool.not_false, Bool.true_and, List.length_cons, Nat.zero_lt_succ, decide_true]
    suffices h : ∀ l : List UInt8, l.all isSg = decide (runL isSg l = l.length) from h (c :: r)
    intro l
    induction l with
    | nil => rfl
    | cons d t ih =>
      rw [runL_cons, List.all_cons, ih]
      by_cases h : isSg d = true
      · rw [h, if_pos rfl]; simp
      · have h' : isSg d = false := by simpa using h
        rw [h']; simp
/-- The value at the front: a token or a quoted text. -/
def valP (l : List UInt8) : Option (List UInt8 × Nat) := if runL isSg l = 0 then unq l else some (l.take (runL isSg l), runL isSg l)
/-- One step over parameters: none: nothing is taken; else a fault, or perhaps a parameter, and how many bytes. -/
def parStep (l : List UInt8) : Option (Option (Option Par × Nat)) :=
  if l[runL isBl l]? = some 59 then
    let r := l.drop (runL isBl l + 1)
    let b := runL isBl r
    let n := runL isSg (r.drop b)
    if n = 0 then some (some (none, runL isBl l + 1))
    else if (r.drop (b + n))[0]? = some 61 then
      match valP (r.drop (b + n + 1)) with
      | none => some none
      | some (v, k) => some (some (some ((r.drop b).take n, v, true), runL isBl l + 1 + (b + n + 1) + k))
    else some (some (some ((r.drop b).take n, [], false), runL isBl l + 1 + (b + n)))
  else none
def parF : Nat → List UInt8 → Option (List Par × Nat)
  | 0, _ => some ([], 0)
  | f + 1, l =>
    match parStep l with
    | none => some ([], 0)
    | some none => none
    | some (some (q, k)) => (parF f (l.drop k)).map fun x => (q.toList ++ x.1, k + x.2)
/-- Parameters at the front, and how many bytes they have. -/
def parP (l : List UInt8) : Option (List Par × Nat) := parF (l.length + 1) l
theorem unqT_used (n : Nat) : ∀ (l x : List UInt8) (k : Nat), l.length ≤ n → unqT l = some (x, k) → 0 < k ∧ k ≤ l.length ∧ x.length ≤ k := by
  induction n with
  | zero =>
    intro l x k hl h
    obtain rfl : l = [] := List.eq_nil_of_length_eq_zero (by omega)
    simp [unqT] at h
  | succ n ih =>
    intro l x k hl h
    cases l with
    | nil => simp [unqT] at h
    | cons c r =>
      simp only [List.length_cons] at hl ⊢
      rw [unqT.eq_def] at h
      simp only at h
      by_cases h1 : c = 34
      · rw [if_pos h1] at h
        injection h with h; injection h with h2 h3
        subst h2; subst h3; simp
      · rw [if_neg h1] at h
        by_cases h2 : c = 92
        · rw [if_pos h2] at h
          cases r with
          | nil => simp at h
          | cons d r' =>
            simp only at h
            simp only [List.length_cons] at hl ⊢
            by_cases h3 : isFb d = true
            · rw [if_pos h3] at h
              obtain ⟨⟨y, m⟩, hy, he⟩ := Option.map_eq_some_iff.1 h
              injection he with e1 e2
              subst e1; subst e2
              have := ih r' y m (by omega) hy
              simp only [List.length_cons]; omega
            · rw [if_neg h3] at h; simp at h
        · rw [if_neg h2] at h
          by_cases h3 : isFb c = true
          · rw [if_pos h3] at h
            obtain ⟨⟨y, m⟩, hy, he⟩ := Option.map_eq_some_iff.1 h
            injection he with e1 e2
            subst e1; subst e2
            have := ih r y m (by omega) hy
            simp only [List.length_cons]; omega
          · rw [if_neg h3] at h; simp at h
theorem unq_used (l x : List UInt8) (k : Nat) (h : unq l = some (x, k)) : 0 < k ∧ k ≤ l.length ∧ x.length ≤ k := by
  cases l with
  | nil => simp [unq] at h
  | cons c r =>
    unfold unq at h
    simp only at h
    by_cases h1 : c = 34
    · rw [if_pos h1] at h
      obtain ⟨⟨y, m⟩, hy, he⟩ := Option.map_eq_some_iff.1 h
      injection he with e1 e2
      subst e1; subst e2
      have := unqT_used r.length r y m (Nat.le_refl _) hy
      simp only [List.length_cons]; omega
    · rw [if_neg h1] at h; simp at h
theorem valP_used (l x : List UInt8) (k : Nat) (h : valP l = some (x, k)) : k ≤ l.length ∧ x.length ≤ k := by
  unfold valP at h
  split at h
  · have := unq_used l x k h; omega
  · injection h with h; injection h with h1 h2
    subst h1; subst h2
    have := runL_le isSg l
    rw [List.length_take]; omega
/-- What a step takes. -/
theorem parStep_used (l : List UInt8) (q : Option Par) (k : Nat) (h : parStep l = some (some (q, k))) :
    0 < k ∧ k ≤ l.length ∧ ∀ p, q = some p → 0 < p.1.length ∧ p.1.length + p.2.1.length ≤ k := by
  unfold parStep at h
  by_cases h0 : l[runL isBl l]? = some 59
  · rw [if_pos h0] at h
    simp only at h
    have hlt : runL isBl l < l.length := (List.getElem?_eq_some_iff.1 h0).1
    generalize hr : l.drop (runL isBl l + 1) = r at h
    have hrl : r.length + (runL isBl l + 1) = l.length := by rw [← hr, List.length_drop]; omega
    have hb := runL_le isBl r
    generalize runL isBl r = b at h hb
    have hn := runL_le isSg (r.drop b)
    rw [List.length_drop] at hn
    generalize hnn : runL isSg (r.drop b) = n at h hn
    split at h
    · injection h with h; injection h with h; injection h with h1 h2
      subst h1; subst h2
      exact ⟨by omega, by omega, fun p hp => by cases hp⟩
    · split at h
      · have h61 : (r.drop (b + n))[0]? = some 61 := by assumption
        have hl0 : 0 < (r.drop (b + n)).length := (List.getElem?_eq_some_iff.1 h61).1
        rw [List.length_drop] at hl0
        cases hv : valP (r.drop (b + n + 1)) with
        | none => rw [hv] at h; simp at h
        | some x =>
          obtain ⟨v, m⟩ := x
          rw [hv] at h
          simp only [Option.some.injEq, Prod.mk.injEq] at h
          obtain ⟨h1, h2⟩ := h
          have hu := valP_used _ _ _ hv
          rw [List.length_drop] at hu
          refine ⟨by omega, by omega, fun p hp => ?_⟩
          rw [← h1] at hp
          injection hp with hp
          subst hp
          simp only [List.length_take, List.length_drop]
          omega
      · simp only [Option.some.injEq, Prod.mk.injEq] at h
        obtain ⟨h1, h2⟩ := h
        refine ⟨by omega, by omega, fun p hp => ?_⟩
        rw [← h1] at hp
        injection hp with hp
        subst hp
        simp only [List.length_take, List.length_drop, List.length_nil]
        omega
  · rw [if_neg h0] at h; simp at h
theorem parF_more : ∀ (f g : Nat) (l : List UInt8), l.length < f → l.length < g → parF f l = parF g l
  | 0, _, l, h, _ => by omega
  | _ + 1, 0, l, _, h => by omega
  | f + 1, g + 1, l, hf, hg => by
    unfold parF
    cases hs : parStep l with
    | none => rfl
    | some x =>
      cases x with
      | none => rfl
      | some y =>
        obtain ⟨q, k⟩ := y
        have hu := parStep_used l q k hs
        simp only
        rw [parF_more f g (l.drop k) (by rw [List.length_drop]; omega) (by rw [List.length_drop]; omega)]
theorem parP_stop (l : List UInt8) (h : parStep l = none) : parP l = some ([], 0) := by unfold parP parF; rw [h]
theorem parP_fault (l : List UInt8) (h : parStep l = some none) : parP l = none := by unfold parP parF; rw [h]
theorem parP_step (l : List UInt8) (q : Option Par) (k : Nat) (h : parStep l = some (some (q, k))) : parP l = (parP (l.drop k)).map fun x => (q.toList ++ x.1, k + x.2) := by
  have hu := parStep_used l q k h
  have e : parP l = (parF l.length (l.drop k)).map fun x => (q.toList ++ x.1, k + x.2) := by
    show parF (l.length + 1) l = _
    rw [parF.eq_def]
    simp only [h]
  rw [e, parF_more l.length ((l.drop k).length + 1) (l.drop k) (by rw [List.length_drop]; omega) (by omega)]
  rfl
/-- Bytes that parameters have. -/
theorem parP_used (n : Nat) : ∀ (l : List UInt8) (ps : List Par) (k : Nat), l.length ≤ n → parP l = some (ps, k) → k ≤ l.length ∧ ps.length ≤ k ∧ (∀ p ∈ ps, 0 < p.1.length ∧ p.1.length + p.2.1.length ≤ k) := by
  induction n with
  | zero =>
    intro l ps k hl h
    have hs : parStep l = none := by
      obtain rfl : l = [] := List.eq_nil_of_length_eq_zero (by omega)
      rfl
    rw [parP_stop l hs] at h
    injection h with h; injection h with h1 h2
    subst h1; subst h2
    simp
  | succ n ih =>
    intro l ps k hl h
    cases hs : parStep l with
    | none =>
      rw [parP_stop l hs] at h
      injection h with h; injection h with h1 h2
      subst h1; subst h2
      simp
    | some x =>
      cases x with
      | none => rw [parP_fault l hs] at h; cases h
      | some y =>
        obtain ⟨q, m⟩ := y
        have hu := parStep_used l q m hs
        rw [parP_step l q m hs] at h
        obtain ⟨⟨qs, u⟩, hq, he⟩ := Option.map_eq_some_iff.1 h
        injection he with e1 e2
        subst e1; subst e2
        have := ih (l.drop m) qs u (by rw [List.length_drop]; omega) hq
        rw [List.length_drop] at this
        refine ⟨by omega, ?_, ?_⟩
        · rw [List.length_append]
          cases q <;> simp <;> omega
        · intro p hp
          rw [List.mem_append] at hp
          rcases hp with hp | hp
          · have := hu.2.2 p (by cases q with
              | none => simp at hp
              | some q => obtain rfl : p = q := (by simpa using hp); rfl)
            omega
          · have := this.2.2 p hp; omega
/-- A list's elements, from a place on: cur stands before it. -/
def lstF : Nat → List UInt8 → List UInt8 → Option (List (List UInt8))
  | 0, cur, _ => some [cur]
  | f + 1, cur, l =>
    match l with
    | [] => some [cur]
    | c :: r =>
      if c = 34 then
        match unq (c :: r) with
        | none => none
        | some (_, n) => lstF f (cur ++ (c :: r).take n) ((c :: r).drop n)
      else if c = 44 then (lstF f [] r).map (cur :: ·)
      else lstF f (cur ++ [c]) r
def lstR (cur l : List UInt8) : Option (List (List UInt8)) := lstF (l.length + 1) cur l
/-- What stays: trimmed, not empty. -/
def fulls (l : List (List UInt8)) : List (List UInt8) := (l.map trimL).filter (· ≠ [])
def lstP (l : List UInt8) : Option (List (List UInt8)) := (lstR [] l).map fulls
theorem lstF_more : ∀ (f g : Nat) (cur l : List UInt8), l.length < f → l.length < g → lstF f cur l = lstF g cur l
  | 0, _, _, l, h, _ => by omega
  | _ + 1, 0, _, l, _, h => by omega
  | f + 1, g + 1, cur, [], hf, hg => rfl
  | f + 1, g + 1, cur, c :: r, hf, hg => by
    simp only [List.length_cons] at hf hg
    rw [lstF.eq_def, lstF.eq_def (g + 1)]
    simp only
    by_cases h1 : c = 34
    · rw [if_pos h1, if_pos h1]
      cases hu : unq (c :: r) with
      | none => rfl
      | some x =>
        obtain ⟨y, n⟩ := x
        have := unq_used _ _ _ hu
        simp only
        exact lstF_more f g _ _ (by rw [List.length_drop, List.length_cons]; omega) (by rw [List.length_drop, List.length_cons]; omega)
    · rw [if_neg h1, if_neg h1]
      by_cases h2 : c = 44
      · rw [if_pos h2, if_pos h2, lstF_more f g [] r (by omega) (by omega)]
      · rw [if_neg h2, if_neg h2, lstF_more f g _ r (by omega) (by omega)]
theorem lstR_nil (cur : List UInt8) : lstR cur [] = some [cur] := rfl
theorem lstR_bad (cur r : List UInt8) (h : unq (34 :: r) = none) : lstR cur (34 :: r) = none := by
  unfold lstR
  rw [lstF.eq_def]
  simp only [if_true, h]
theorem lstR_quote (cur r x : List UInt8) (n : Nat) (h : unq (34 :: r) = some (x, n)) : lstR cur (34 :: r) = lstR (cur ++ (34 :: r).take n) ((34 :: r).drop n) := by
  have := unq_used _ _ _ h
  rw [List.length_cons] at this
  rw [show lstR cur (34 :: r) = lstF (r.length + 1) (cur ++ (34 :: r).take n) ((34 :: r).drop n) from by
    unfold lstR
    rw [lstF.eq_def]
    simp only [if_true, h, List.length_cons]]
  exact lstF_more _ _ _ _ (by rw [List.length_drop, List.length_cons]; omega) (by omega)
theorem lstR_comma (cur r : List UInt8) : lstR cur (44 :: r) = (lstR [] r).map (cur :: ·) := by
  unfold lstR
  rw [lstF.eq_def]
  simp only [if_neg (show ¬ (44 : UInt8) = 34 from by decide), if_true, List.length_cons]
theorem lstR_other (cur r : List UInt8) (c : UInt8) (h1 : c ≠ 34) (h2 : c ≠ 44) : lstR cur (c :: r) = lstR (cur ++ [c]) r := by
  unfold lstR
  rw [lstF.eq_def]
  simp only [if_neg h1, if_neg h2, List.length_cons]
/-- Trimming: from the front, from the back. -/
theorem dropWhile_suffix_len (p : UInt8 → Bool) (l : List UInt8) : (l.dropWhile p).length ≤ l.length := (List.dropWhile_sublist p).length_le
theorem trimL_len (l : List UInt8) : (trimL l).length ≤ l.length := by
  unfold trimL
  rw [List.length_reverse]
  refine Nat.le_trans (dropWhile_suffix_len _ _) ?_
  rw [List.length_reverse]
  exact dropWhile_suffix_len _ _
def trimR (l : List UInt8) : List UInt8 := (l.reverse.dropWhile isBl).reverse
theorem trimR_snoc_bl (l : List UInt8) (c : UInt8) (h : isBl c = true) : trimR (l ++ [c]) = trimR l := by
  unfold trimR; rw [List.reverse_append]; simp [h]
theorem trimR_snoc_other (l : List UInt8) (c : UInt8) (h : isBl c = false) : trimR (l ++ [c]) = l ++ [c] := by
  unfold trimR; rw [List.reverse_append]; simp [h]
theorem trimR_nil : trimR [] = [] := rfl
theorem trimL_eq (l : List UInt8) : trimL l = trimR (l.dropWhile isBl) := rfl
theorem lowL_len (l : List UInt8) : (lowL l).length = l.length := by unfold lowL; rw [List.length_map]
/-- What stands for itself in a list. -/
theorem fulls_snoc (l : List (List UInt8)) (x : List UInt8) : fulls (l ++ [x]) = fulls l ++ if trimL x = [] then [] else [trimL x] := by
  unfold fulls
  rw [List.map_append, List.filter_append]
  congr 1
  by_cases h : trimL x = [] <;> simp [h]
theorem fulls_len (l : List (List UInt8)) : (fulls l).length ≤ l.length := by
  unfold fulls
  refine Nat.le_trans (List.length_filter_le _ _) ?_
  rw [List.length_map]; omega
end Go.Proofs.YtlfdeenekjklgaaGreatDoor
