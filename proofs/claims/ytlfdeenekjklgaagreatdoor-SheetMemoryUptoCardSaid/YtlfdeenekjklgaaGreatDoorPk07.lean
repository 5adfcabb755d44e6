/- DisP, PsP, PmQ: texts of the seat, one behind the other (a claim holds at most sixty). Conditions: each theorem names its own. -/
import Derived.Test.YtlfdeenekjklgaaGreatDoorPk06
import Derived.Laws.OwnMore
import Derived.Maps.OwnSet
import Derived.Test.YtlfdeenekjklgaaGreatDoorPk05
namespace Go.Proofs.YtlfdeenekjklgaaGreatDoor
open Go.RowKit
set_option linter.unusedSimpArgs false
set_option linter.unusedVariables false
def lowP (p : Par) : Par := (lowL p.1, p.2)
def lowMix (ps : List Par) (i : Nat) : List Par := (ps.take i).map lowP ++ ps.drop i
theorem lowMix_zero (ps : List Par) : lowMix ps 0 = ps := by simp [lowMix]
theorem lowMix_all (ps : List Par) : lowMix ps ps.length = ps.map lowP := by simp [lowMix]
theorem lowMix_len (ps : List Par) (i : Nat) : (lowMix ps i).length = ps.length := by
  unfold lowMix; rw [List.length_append, List.length_map, List.length_take, List.length_drop]; omega
theorem lowMix_at (ps : List Par) (i : Nat) (p : Par) (h : ps[i]? = some p) : (lowMix ps i)[i]? = some p := by
  have hl : i < ps.length := (List.getElem?_eq_some_iff.1 h).1
  unfold lowMix
  rw [List.getElem?_append_right (by rw [List.length_map, List.length_take]; omega), List.length_map, List.length_take, List.getElem?_drop, show i + (i - min i ps.length) = i from by omega]
  exact h
theorem lowMix_lt (ps : List Par) (i j : Nat) (p : Par) (hj : j < i) (h : ps[j]? = some p) : (lowMix ps i)[j]? = some (lowP p) := by
  have hl : j < ps.length := (List.getElem?_eq_some_iff.1 h).1
  unfold lowMix
  rw [List.getElem?_append_left (by rw [List.length_map, List.length_take]; omega), List.getElem?_map, List.getElem?_take, if_pos hj, h]
  rfl
theorem lowMix_step (ps : List Par) (i : Nat) (p : Par) (h : ps[i]? = some p) : (lowMix ps i).set i (lowP p) = lowMix ps (i + 1) := by
  have hl : i < ps.length := (List.getElem?_eq_some_iff.1 h).1
  have hk : (List.map lowP (ps.take i)).length = i := by rw [List.length_map, List.length_take]; omega
  unfold lowMix
  rw [List.set_append_right _ _ (by omega), hk, Nat.sub_self]
  have hd : ps.drop i = p :: ps.drop (i + 1) := by
    obtain ⟨hlt, he⟩ := List.getElem?_eq_some_iff.1 h
    rw [List.drop_eq_getElem_cons hlt, he]
  rw [hd, List.set_cons_zero, List.take_add_one, h, List.map_append]
  simp
theorem parsV_set (xs : List Par) (i : Nat) (p : Par) (t : List UInt8) (h : xs[i]? = some p) : (parsV xs).set (i * 3) (.string ⟨t.toArray⟩) = parsV (xs.set i (t, p.2)) := by
  induction xs generalizing i with
  | nil => simp at h
  | cons q r ih =>
    cases i with
    | zero =>
      obtain rfl : q = p := by simpa using h
      rfl
    | succ i =>
      have := ih i (by simpa using h)
      have e : ∀ q r, parsV (q :: r) = parV q ++ parsV r := fun _ _ => rfl
      have hl : (parV q).length = 3 := rfl
      rw [List.set_cons_succ, e, e, List.set_append_right _ _ (by omega), hl, show (i + 1) * 3 - 3 = i * 3 from by omega, this]
/-- A disposition: its kind and its parameters; none: it is not as it must be. -/
def disP (s : List UInt8) : Option (List UInt8 × List Par) :=
  let t := trimL s
  let n := runL isSg t
  let r := parR (t.drop n)
  if n ≠ 0 ∧ r.2.2 = 0 ∧ n + r.2.1 = t.length ∧ (∀ p ∈ r.1, p.2.2 = true) ∧ (r.1.map fun p => lowL p.1).Nodup then some (lowL (t.take n), r.1.map lowP) else none
def disR (s : List UInt8) : List UInt8 × List Par × Nat := match disP s with
  | some (k, qs) => (k, qs, 0)
  | none => ([], [], 152)
theorem dis_bad (s t : List UInt8) (n : Nat) (ht : trimL s = t) (hn : runL isSg t = n) (ps : List Par) (m e : Nat) (hr : parR (t.drop n) = (ps, m, e)) (h : ¬ (n ≠ 0 ∧ e = 0 ∧ n + m = t.length ∧ (∀ p ∈ ps, p.2.2 = true) ∧ (ps.map fun p => lowL p.1).Nodup)) : disR s = ([], [], 152) := by
  unfold disR disP
  simp only [ht, hn, hr]
  rw [if_neg h]
theorem dis_good (s t : List UInt8) (n : Nat) (ht : trimL s = t) (hn : runL isSg t = n) (ps : List Par) (m e : Nat) (hr : parR (t.drop n) = (ps, m, e)) (h : n ≠ 0 ∧ e = 0 ∧ n + m = t.length ∧ (∀ p ∈ ps, p.2.2 = true) ∧ (ps.map fun p => lowL p.1).Nodup) : disR s = (lowL (t.take n), ps.map lowP, 0) := by
  unfold disR disP
  simp only [ht, hn, hr]
  rw [if_pos h]
/-- A map that counts names: it has just those; as many as there are names only if no two are alike. -/
def NameMap (P : Program) (K E : TypeId) (w : World) (b : Nat) (xs : List (List UInt8)) : Prop :=
  ∃ D : DataW Unit, w.ownsMap P K (plainElem P E) b xs.length D ∧ Maps.Tidy D ∧ (∀ l, Maps.has D (.string l) = decide (l ∈ xs)) ∧ Maps.size D ≤ xs.length ∧ (Maps.size D = xs.length ↔ xs.Nodup)
theorem nameMap_made (P : Program) (K E : TypeId) (w : World) : NameMap P K E (w.alloc (.map #[] 0)) w.heap.size [] :=
  ⟨.map [], World.ownsMap_made w P K _, Maps.tidy_empty, fun l => rfl, Nat.le_refl _, by simp [Maps.size]⟩
theorem nameMap_step (D : DataW Unit) (xs : List (List UInt8)) (x : List UInt8) (d : DataW Unit) (ht : Maps.Tidy D) (hh : ∀ l, Maps.has D (.string l) = decide (l ∈ xs)) (hs : Maps.size D ≤ xs.length) (hn : Maps.size D = xs.length ↔ xs.Nodup) :
    Maps.Tidy (D.put (.string x) d) ∧ (∀ l, Maps.has (D.put (.string x) d) (.string l) = decide (l ∈ xs ++ [x])) ∧ Maps.size (D.put (.string x) d) ≤ (xs ++ [x]).length ∧ (Maps.size (D.put (.string x) d) = (xs ++ [x]).length ↔ (xs ++ [x]).Nodup) := by
  have hk : WideAt.IsKeyLit (.string x) := trivial
  have hsz := Maps.size_put (k := .string x) ht d
  rw [hh x] at hsz
  refine ⟨ht.put hk d, fun l => ?_, ?_, ?_⟩
  · by_cases hl : l = x
    · subst hl
      rw [Maps.has_put_same ht.isMap hk]; simp
    · rw [Maps.has_put_other (by intro e; injection e with e; exact hl e), hh l]
      simp [hl]
  · rw [hsz, List.length_append, List.length_singleton]
    split <;> omega
  · rw [hsz, List.length_append, List.length_singleton, List.nodup_append]
    by_cases hx : x ∈ xs
    · rw [if_pos (by simpa using hx)]
      constructor
      · intro h; omega
      · intro h; exact absurd rfl (h.2.2 x hx x (by simp))
    · rw [if_neg (by simpa using hx)]
      constructor
      · intro h
        refine ⟨hn.1 (by omega), by simp, fun a ha b hb => ?_⟩
        obtain rfl : b = x := by simpa using hb
        intro e; subst e; exact hx ha
      · intro h; rw [hn.2 h.1]
theorem own_mono2 {w : World} {base base' : Nat} {e : TypeId} {size : Nat} {v : Value} {n : Nat} {xs : List Value} (h : w.ownsRow base e size v n xs) (hb : base' ≤ base) : w.ownsRow base' e size v n xs :=
  ⟨h.1, h.2.imp id (fun ⟨g, cap, cur, a, b, c⟩ => ⟨g, cap, cur, a, Nat.le_trans hb b, c⟩)⟩
theorem own_three {w : World} {base g n cap : Nat} {e : TypeId} {xs : List Par} (h : w.ownsRow base e 3 (.slice (some ⟨g, 0, none⟩) n cap) n (parsV xs)) (i : Nat) (p : Par) (hp : xs[i]? = some p) (hi : i < n) :
    w.cell? ⟨g, i * 3, none⟩ = some (.string ⟨p.1.toArray⟩) ∧ w.cell? ⟨g, i * 3 + 1, none⟩ = some (.string ⟨p.2.1.toArray⟩) ∧ w.cell? ⟨g, i * 3 + 2, none⟩ = some (.bool p.2.2) := by
  have hc := parsV_get xs i p hp
  exact ⟨by rw [h.cellAt (i * 3) (by omega)]; exact hc.1, by rw [h.cellAt (i * 3 + 1) (by omega)]; exact hc.2.1, by rw [h.cellAt (i * 3 + 2) (by omega)]; exact hc.2.2⟩
/-- A name made small in its place. -/
theorem own_lower {w : World} {base g n cap : Nat} {e : TypeId} {ps : List Par} {i : Nat} {p : Par} (h : w.ownsRow base e 3 (.slice (some ⟨g, 0, none⟩) n cap) n (parsV (lowMix ps i))) (hp : ps[i]? = some p) :
    (w.setCell ⟨g, i * 3, none⟩ (.string ⟨(lowL p.1).toArray⟩)).ownsRow base e 3 (.slice (some ⟨g, 0, none⟩) n cap) n (parsV (lowMix ps (i + 1))) ∧ w.grownBy (w.setCell ⟨g, i * 3, none⟩ (.string ⟨(lowL p.1).toArray⟩)) (some g) := by
  have hst := h.stored (i * 3) (.string ⟨(lowL p.1).toArray⟩)
  rw [parsV_set _ i p (lowL p.1) (lowMix_at ps i p hp), show (lowL p.1, p.2) = lowP p from rfl, lowMix_step ps i p hp] at hst
  exact hst
theorem take_small {α : Type} (l : List α) (i : Nat) (h : i < maxLen) : (l.take i).length < maxLen := by rw [List.length_take]; omega
theorem names_len (ps : List Par) (i : Nat) (h : i ≤ ps.length) : ((ps.map fun p => lowL p.1).take i).length = i := by rw [List.length_take, List.length_map]; omega
end Go.Proofs.YtlfdeenekjklgaaGreatDoor
namespace Go.Proofs.YtlfdeenekjklgaaGreatDoor
open Go.RowKit
set_option linter.unusedSimpArgs false
set_option linter.unusedVariables false
set_option maxRecDepth 1000000
/-- The first place of a text; none: it stands nowhere. -/
def fnd (t : List UInt8) : List UInt8 → Option Nat
  | [] => if t.isEmpty then some 0 else none
  | c :: r => if t.isPrefixOf (c :: r) then some 0 else (fnd t r).map (· + 1)
def optI (o : Option Nat) : Int := match o with | some i => (i : Int) | none => -1
theorem index_fnd (t : List UInt8) : ∀ s : List UInt8, Lib.index s t = optI (fnd t s)
  | [] => by unfold fnd Lib.index; split <;> rfl
  | c :: r => by
    have ih := index_fnd t r
    unfold fnd Lib.index
    split
    · rfl
    · rw [ih]
      cases fnd t r with
      | none => rfl
      | some i =>
        have : ((i : Int) == -1) = false := beq_false_of_ne (by omega)
        show (if (((i : Nat) : Int) == -1) = true then _ else _) = _
        rw [this]
        show (i : Int) + 1 = ((i + 1 : Nat) : Int)
        omega
theorem fnd_skip (t : List UInt8) : ∀ (a b : List UInt8), (∀ j, j < a.length → t.isPrefixOf ((a ++ b).drop j) = false) → fnd t (a ++ b) = (fnd t b).map (· + a.length)
  | [], b, _ => by simp
  | c :: r, b, h => by
    have h0 := h 0 (by simp)
    have ih := fnd_skip t r b (fun j hj => by have := h (j + 1) (by simpa using hj); simpa using this)
    rw [List.cons_append] at h0 ⊢
    rw [List.drop_zero] at h0
    have e : fnd t (c :: (r ++ b)) = (fnd t (r ++ b)).map (· + 1) := by
      conv => lhs; unfold fnd
      rw [if_neg (by rw [h0]; simp)]
    rw [e, ih]
    cases fnd t b with
    | none => rfl
    | some i => simp [Nat.add_assoc]
theorem fnd_here (t s : List UInt8) (h : t.isPrefixOf s = true) : fnd t s = some 0 := by
  cases s with
  | nil => cases t with
    | nil => rfl
    | cons a b => simp at h
  | cons c r => unfold fnd; rw [if_pos h]
theorem fnd_none (t : List UInt8) (ht : t ≠ []) : ∀ s : List UInt8, (∀ j, t.isPrefixOf (s.drop j) = false) → fnd t s = none
  | [], _ => by cases t with | nil => exact absurd rfl ht | cons => rfl
  | c :: r, h => by
    have h0 := h 0
    have ih := fnd_none t ht r (fun j => by have := h (j + 1); simpa using this)
    rw [List.drop_zero] at h0
    unfold fnd
    rw [h0, ih]; rfl
theorem fnd_spec (t : List UInt8) : ∀ (s : List UInt8) (i : Nat), fnd t s = some i → i + t.length ≤ s.length ∧ t.isPrefixOf (s.drop i) = true ∧ ∀ j, j < i → t.isPrefixOf (s.drop j) = false
  | [], i, h => by
    cases t with
    | nil =>
      have h : some 0 = some i := h
      injection h with h; subst h
      exact ⟨Nat.le_refl _, rfl, fun j hj => by omega⟩
    | cons a b => cases h
  | c :: r, i, h => by
    unfold fnd at h
    by_cases hp : t.isPrefixOf (c :: r) = true
    · rw [if_pos hp] at h
      injection h with h; subst h
      have := (List.isPrefixOf_iff_prefix.1 hp).length_le
      exact ⟨by omega, hp, fun j hj => by omega⟩
    · rw [if_neg hp] at h
      obtain ⟨k, hk, rfl⟩ := Option.map_eq_some_iff.1 h
      obtain ⟨h1, h2, h3⟩ := fnd_spec t r k hk
      refine ⟨by simp only [List.length_cons]; omega, by simpa using h2, fun j hj => ?_⟩
      cases j with
      | zero => exact Bool.eq_false_iff.2 hp
      | succ j => simpa using h3 j (by omega)
theorem fnd_nope (t : List UInt8) (ht : t ≠ []) : ∀ (s : List UInt8), fnd t s = none → ∀ j, t.isPrefixOf (s.drop j) = false
  | [], _, j => by cases t with | nil => exact absurd rfl ht | cons => rw [List.drop_nil]; rfl
  | c :: r, h, j => by
    unfold fnd at h
    by_cases hp : t.isPrefixOf (c :: r) = true
    · rw [if_pos hp] at h; cases h
    · rw [if_neg hp] at h
      have hn : fnd t r = none := by
        cases hr : fnd t r with
        | none => rfl
        | some k => rw [hr] at h; cases h
      cases j with
      | zero => exact Bool.eq_false_iff.2 hp
      | succ j => simpa using fnd_nope t ht r hn j
theorem contains_fnd (s t : List UInt8) : Lib.contains s t = (fnd t s).isSome := by
  unfold Lib.contains
  rw [index_fnd]
  cases fnd t s with
  | none => rfl
  | some i => simp [optI]
def crlf : List UInt8 := [13, 10]
/-- The place of the first boundary at or behind a place. -/
def fst9 (mk s : List UInt8) (a : Nat) : Option Nat :=
  if a = 0 ∧ mk.isPrefixOf s = true then some 0 else (fnd (13 :: 10 :: mk) (s.drop a)).map (fun i => a + i + 2)
/-- What stands behind a boundary: a head from a place on, nothing more, or a fault at a place. -/
inductive Bh where
  | go (q : Nat)
  | over
  | bad (code q : Nat)
def bhd (mk s : List UInt8) (more : Bool) (a : Nat) : Bh :=
  if (more && ([45, 45] : List UInt8).isPrefixOf (s.drop (a + mk.length))) = true then
    if (s.drop (a + mk.length)).drop 2 = [] ∨ crlf.isPrefixOf ((s.drop (a + mk.length)).drop 2) = true then .over
    else if (s.drop (a + mk.length)).drop 2 = [13] then .bad 154 s.length else .bad 151 (a + mk.length)
  else if crlf.isPrefixOf ((s.drop (a + mk.length)).dropWhile isBl) = true then .go (s.length - ((s.drop (a + mk.length)).dropWhile isBl).length + 2)
  else if (s.drop (a + mk.length)).dropWhile isBl = [] ∨ (s.drop (a + mk.length)).dropWhile isBl = [13] ∨ (more = true ∧ s.drop (a + mk.length) = [45]) then .bad 154 s.length
  else .bad 151 (a + mk.length)
/-- A part whose head is being read: what it is so far, whether it is named, whether it has a media type. -/
structure HdSt where
  p : Prt
  named : Bool
  typed : Bool
def p00 : Prt := ⟨[], [], [], [], false⟩
def st00 : HdSt := ⟨p00, false, false⟩
def fdL : List UInt8 := [102, 111, 114, 109, 45, 100, 97, 116, 97]
def nmL : List UInt8 := [110, 97, 109, 101]
def flL : List UInt8 := [102, 105, 108, 101, 110, 97, 109, 101]
def dspS (st : Prt × Bool) (x : Par) : Prt × Bool := if x.1 = nmL then ({ st.1 with name := x.2.1 }, true) else if x.1 = flL then ({ st.1 with file := x.2.1, has := true }, st.2) else st
/-- What a disposition's parameters make of a part. -/
def dspL (l : List Par) (p : Prt) : Prt × Bool := l.foldl dspS (p, false)
def dsp (p : Prt) (v : List UInt8) : Option Prt := if (disR v).2.2 = 0 ∧ (disR v).1 = fdL ∧ (dspL (disR v).2.1 p).2 = true then some (dspL (disR v).2.1 p).1 else none
def cdN : List UInt8 := [99, 111, 110, 116, 101, 110, 116, 45, 100, 105, 115, 112, 111, 115, 105, 116, 105, 111, 110]
def ctN : List UInt8 := [99, 111, 110, 116, 101, 110, 116, 45, 116, 121, 112, 101]
/-- A line of a head; a number not 0: a fault. -/
def hdStep (st : HdSt) (line : List UInt8) : HdSt × Nat :=
  if (plR line).2.2 ≠ 0 then (st, (plR line).2.2)
  else if lowL (plR line).1 = cdN then
    if st.named = true then (st, 152) else match dsp st.p (plR line).2.1 with
      | none => (st, 152)
      | some q => (⟨q, true, st.typed⟩, 0)
  else if lowL (plR line).1 = ctN then
    if st.typed = true then (st, 152) else (⟨{ st.p with media := (plR line).2.1 }, st.named, true⟩, 0)
  else (st, 0)
/-- A head: the part, the place behind it (or of a fault), a fault's number. -/
def hdF : Nat → List UInt8 → Nat → HdSt → Prt × Nat × Nat
  | 0, s, _, st => (st.p, s.length, 154)
  | f + 1, s, a, st => match fnd crlf (s.drop a) with
    | none => (st.p, s.length, 154)
    | some 0 => if st.named = true then (st.p, a + 2, 0) else (st.p, a, 152)
    | some (n + 1) => if (hdStep st ((s.drop a).take (n + 1))).2 ≠ 0 then (st.p, a, (hdStep st ((s.drop a).take (n + 1))).2) else hdF f s (a + (n + 1) + 2) (hdStep st ((s.drop a).take (n + 1))).1
abbrev PsRes := List Prt × Nat × Nat
def withB (p : Prt) (b : List UInt8) : Prt := ⟨p.name, p.file, p.media, b, p.has⟩
/-- A part's bytes. -/
def cutB (s : List UInt8) (b a2 : Nat) : List UInt8 := (s.drop b).take (a2 - 2 - b)
/-- All parts from a boundary on, behind some. -/
def alF : Nat → List UInt8 → List UInt8 → Int → List Prt → Option Nat → PsRes
  | 0, mk, s, _, _, _ => ([], s.length, 154)
  | f + 1, mk, s, most, l, none => ([], s.length, 154)
  | f + 1, mk, s, most, l, some a => match bhd mk s (!l.isEmpty) a with
    | .over => (l, 0, 0)
    | .bad c q => ([], q, c)
    | .go q =>
      if (l.length : Int) = most then ([], a, 153)
      else if (hdF (s.length + 1) s q st00).2.2 ≠ 0 then ([], (hdF (s.length + 1) s q st00).2.1, (hdF (s.length + 1) s q st00).2.2)
      else if mk.isPrefixOf (s.drop (hdF (s.length + 1) s q st00).2.1) = true then ([], (hdF (s.length + 1) s q st00).2.1, 152)
      else match fst9 mk s (hdF (s.length + 1) s q st00).2.1 with
        | none => alF f mk s most l none
        | some a2 => alF f mk s most (l ++ [withB (hdF (s.length + 1) s q st00).1 (cutB s (hdF (s.length + 1) s q st00).2.1 a2)]) (some a2)
/-- The parts of a body; or the place and the number of a fault. -/
def psR (bd s : List UInt8) (most : Int) : PsRes := if isMrk bd = false then ([], 0, 151) else if most < 1 then ([], 0, 1) else alF (s.length + 2) (45 :: 45 :: bd) s most [] (fst9 (45 :: 45 :: bd) s 0)
theorem fst9_bd (mk s : List UInt8) (a a2 : Nat) (h : fst9 mk s a = some a2) (ha : a ≤ s.length) : a2 + mk.length ≤ s.length ∧ (0 < a → a + 2 ≤ a2) ∧ mk.isPrefixOf (s.drop a2) = true := by
  unfold fst9 at h
  by_cases h0 : a = 0 ∧ mk.isPrefixOf s = true
  · rw [if_pos h0] at h
    injection h with h; subst h
    have := (List.isPrefixOf_iff_prefix.1 h0.2).length_le
    exact ⟨by omega, by omega, by simpa using h0.2⟩
  · rw [if_neg h0] at h
    obtain ⟨i, hi, rfl⟩ := Option.map_eq_some_iff.1 h
    obtain ⟨h1, h2, _⟩ := fnd_spec _ _ _ hi
    rw [List.length_drop] at h1
    simp only [List.length_cons] at h1
    refine ⟨by omega, by omega, ?_⟩
    rw [List.drop_drop] at h2
    obtain ⟨t, ht⟩ := List.isPrefixOf_iff_prefix.1 h2
    have e : s.drop (a + i + 2) = mk ++ t := by
      rw [← List.drop_drop, ← ht]; rfl
    rw [e]
    exact List.isPrefixOf_iff_prefix.2 (List.prefix_append _ _)
theorem dropW_len (p : UInt8 → Bool) (l : List UInt8) : (l.dropWhile p).length ≤ l.length := by
  induction l with
  | nil => simp
  | cons c r ih => rw [List.dropWhile_cons]; split <;> simp only [List.length_cons] <;> omega
theorem bhd_go (mk s : List UInt8) (more : Bool) (a q : Nat) (h : bhd mk s more a = .go q) : a + mk.length + 2 ≤ q ∧ q ≤ s.length := by
  unfold bhd at h
  split at h
  · split at h
    · cases h
    · split at h <;> cases h
  · split at h
    · rename_i hp
      injection h with h; subst h
      have h1 := (List.isPrefixOf_iff_prefix.1 hp).length_le
      have h2 := dropW_len isBl (s.drop (a + mk.length))
      rw [List.length_drop] at h2
      simp only [crlf, List.length_cons, List.length_nil] at h1
      omega
    · split at h <;> cases h
theorem hdF_bd : ∀ (f : Nat) (s : List UInt8) (a : Nat) (st : HdSt), a ≤ s.length → (hdF f s a st).2.1 ≤ s.length ∧ ((hdF f s a st).2.2 = 0 → a + 2 ≤ (hdF f s a st).2.1)
  | 0, s, a, st, h => ⟨Nat.le_refl _, fun e => by cases e⟩
  | f + 1, s, a, st, h => by
    unfold hdF
    cases hf : fnd crlf (s.drop a) with
    | none => exact ⟨Nat.le_refl _, fun e => by cases e⟩
    | some n =>
      obtain ⟨h1, _, _⟩ := fnd_spec _ _ _ hf
      rw [List.length_drop] at h1
      simp only [crlf, List.length_cons, List.length_nil] at h1
      cases n with
      | zero =>
        simp only
        split
        · exact ⟨by simp only; omega, fun _ => Nat.le_refl _⟩
        · exact ⟨h, fun e => by cases e⟩
      | succ n =>
        simp only
        split
        · exact ⟨h, fun e => by rename_i hh; exact absurd e hh⟩
        · have := hdF_bd f s (a + (n + 1) + 2) (hdStep st ((s.drop a).take (n + 1))).1 (by omega)
          exact ⟨this.1, fun e => by have := this.2 e; omega⟩
/-- More than enough turns change nothing. -/
theorem hdF_more : ∀ (f g : Nat) (s : List UInt8) (a : Nat) (st : HdSt), a ≤ s.length → s.length < a + f → s.length < a + g → hdF f s a st = hdF g s a st
  | 0, _, _, _, _, h, h1, _ => by omega
  | _ + 1, 0, _, _, _, h, _, h2 => by omega
  | f + 1, g + 1, s, a, st, h, h1, h2 => by
    unfold hdF
    cases hf : fnd crlf (s.drop a) with
    | none => rfl
    | some n =>
      obtain ⟨h3, _, _⟩ := fnd_spec _ _ _ hf
      rw [List.length_drop] at h3
      simp only [crlf, List.length_cons, List.length_nil] at h3
      cases n with
      | zero => rfl
      | succ n =>
        simp only
        split
        · rfl
        · exact hdF_more f g s _ _ (by omega) (by omega) (by omega)
end Go.Proofs.YtlfdeenekjklgaaGreatDoor
namespace Go.Proofs.YtlfdeenekjklgaaGreatDoor
open Go.RowKit
set_option linter.unusedSimpArgs false
set_option linter.unusedVariables false
set_option maxRecDepth 100000
theorem runL_of (p : UInt8 → Bool) (a b : List UInt8) (ha : a.all p = true) (hb : ∀ c, b[0]? = some c → p c = false) : runL p (a ++ b) = a.length := by
  unfold runL
  rw [List.takeWhile_append_of_pos (by simpa using ha)]
  cases b with
  | nil => simp
  | cons c r => rw [List.takeWhile_cons, hb c rfl]; simp
theorem tok_all {l : List UInt8} (h : isTok l = true) : l.all isSg = true := by unfold isTok at h; simp only [Bool.and_eq_true] at h; exact h.2
theorem tok_ne {l : List UInt8} (h : isTok l = true) : l ≠ [] := by rintro rfl; simp [isTok] at h
theorem unqT_esc (v t : List UInt8) (hv : isFld v = true) : unqT (escL v ++ 34 :: t) = some (v, (escL v).length + 1) := by
  induction v with
  | nil => simp [escL]; rw [unqT.eq_def]; simp
  | cons c r ih =>
    have hc : isFb c = true ∧ isFld r = true := by simpa [isFld] using hv
    have e : escL (c :: r) = esc c ++ escL r := rfl
    rw [e]
    have ih := ih hc.2
    unfold esc
    by_cases h : c = 34 ∨ c = 92
    · rw [if_pos h]
      simp only [List.cons_append, List.nil_append]
      rw [unqT.eq_def]
      simp [ih, hc.1]
    · rw [if_neg h]
      have h1 : c ≠ 34 := fun e => h (Or.inl e)
      have h2 : c ≠ 92 := fun e => h (Or.inr e)
      simp only [List.cons_append, List.nil_append]
      rw [unqT.eq_def]
      simp [ih, hc.1, h1, h2]
theorem sg_nbl (c : UInt8) (h : isSg c = true) : isBl c = false := by
  cases hb : isBl c with
  | false => rfl
  | true =>
    have h2 : c = 32 ∨ c = 9 := by
      unfold isBl at hb
      simp only [Bool.or_eq_true, beq_iff_eq] at hb
      rcases hb with e | e
      · exact Or.inl (UInt8.toNat_inj.1 e)
      · exact Or.inr (UInt8.toNat_inj.1 e)
    rcases h2 with rfl | rfl
    · exact absurd h (by decide)
    · exact absurd h (by decide)
end Go.Proofs.YtlfdeenekjklgaaGreatDoor
