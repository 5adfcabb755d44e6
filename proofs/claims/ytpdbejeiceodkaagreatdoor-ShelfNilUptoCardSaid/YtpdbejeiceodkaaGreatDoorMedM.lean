/- Rows of media types, ranges, words and texts in memory. No program is named. No conditions. -/
import Derived.Test.YtpdbejeiceodkaaGreatDoorAccP
import Derived.Test.YtpdbejeiceodkaaGreatDoorRow1
namespace Go.Proofs.YtpdbejeiceodkaaGreatDoor
open Go.RowKit
set_option linter.unusedSimpArgs false
set_option linter.unusedVariables false
set_option maxRecDepth 100000
theorem own_base {w : World} {base base' : Nat} {e : TypeId} {size : Nat} {v : Value} {n : Nat} {xs : List Value} (h : w.ownsRow base e size v n xs) (hb : base' ≤ base) : w.ownsRow base' e size v n xs :=
  ⟨h.1, h.2.imp id (fun ⟨g, cap, cur, a, b, c⟩ => ⟨g, cap, cur, a, Nat.le_trans hb b, c⟩)⟩
theorem own_slice {w : World} {base : Nat} {e : TypeId} {size : Nat} {v : Value} {n : Nat} {xs : List Value} (h : w.ownsRow base e size v n xs) : ∃ ao cap, v = .slice ao n cap := by
  rcases h.2 with ⟨rfl, rfl⟩ | ⟨g, cap, cur, rfl, _⟩
  · exact ⟨none, 0, rfl⟩
  · exact ⟨_, cap, rfl⟩
/-- Two rows of different types stand in different blocks. -/
theorem own_apart {w : World} {b1 b2 : Nat} {e1 e2 : TypeId} {s1 s2 : Nat} {v1 v2 : Value} {n1 n2 : Nat} {x1 x2 : List Value} (h1 : w.ownsRow b1 e1 s1 v1 n1 x1) (h2 : w.ownsRow b2 e2 s2 v2 n2 x2) (hne : e1 ≠ e2) : v1.ownBlock = none ∨ v1.ownBlock ≠ v2.ownBlock := by
  rcases h1.2 with ⟨rfl, _⟩ | ⟨g1, c1, cur1, rfl, _, hg1, _⟩
  · exact Or.inl rfl
  · rcases h2.2 with ⟨rfl, _⟩ | ⟨g2, c2, cur2, rfl, _, hg2, _⟩
    · exact Or.inr (by simp [Value.ownBlock])
    · refine Or.inr fun e => hne ?_
      simp [Value.ownBlock] at e
      subst e
      rw [hg1] at hg2
      injection hg2 with hg2
      injection hg2
theorem ad (b o j : Nat) : (⟨b, o, none⟩ : Addr).add j = ⟨b, o + j, none⟩ := by unfold Addr.add; split <;> simp_all
theorem own_cellAt {w : World} {base : Nat} {e : TypeId} {size : Nat} {g n cap : Nat} {xs : List Value} (h : w.ownsRow base e size (.slice (some ⟨g, 0, none⟩) n cap) n xs) (j : Nat) (u : Value) (hj : xs[j]? = some u) : w.cell? ⟨g, j, none⟩ = some u := by
  have := h.cells (g := g) rfl j u hj
  rwa [ad, Nat.zero_add] at this
/-! Media types. -/
abbrev MdV := Mdm × Value
def medV (p : MdV) : List Value := [.string ⟨p.1.ty.toArray⟩, .string ⟨p.1.sub.toArray⟩, p.2]
def medsV (l : List MdV) : List Value := l.flatMap medV
theorem medsV_snoc (l : List MdV) (p : MdV) : medsV (l ++ [p]) = medsV l ++ medV p := by simp [medsV]
def MedC (w : World) (b a : Nat) (m : Mdm) : Prop := b < w.heap.size ∧ w.cell? ⟨b, a, none⟩ = some (.string ⟨m.ty.toArray⟩) ∧ w.cell? ⟨b, a + 1, none⟩ = some (.string ⟨m.sub.toArray⟩) ∧ ∃ sv, w.cell? ⟨b, a + 2, none⟩ = some sv ∧ ParsIn w sv m.ps
theorem MedC.below {w w' : World} {b a : Nat} {m : Mdm} (h : MedC w b a m) (hb : Below w.heap.size w w') : MedC w' b a m := by
  obtain ⟨lt, c0, c1, sv, c2, hp⟩ := h
  exact ⟨Nat.lt_of_lt_of_le lt hb.size, by rw [hb.cell (p := ⟨b, a, none⟩) lt]; exact c0, by rw [hb.cell (p := ⟨b, a + 1, none⟩) lt]; exact c1, sv, by rw [hb.cell (p := ⟨b, a + 2, none⟩) lt]; exact c2, hp.below hb⟩
def MedAt (w : World) (ao : Option Addr) (l : List Mdm) : Prop := ∀ i m, l[i]? = some m → ∃ b o, ao = some ⟨b, o, none⟩ ∧ MedC w b (o + i * 3) m
theorem MedAt.below {w w' : World} {ao : Option Addr} {l : List Mdm} (h : MedAt w ao l) (hb : Below w.heap.size w w') : MedAt w' ao l := fun i m hm => by
  obtain ⟨b, o, e, hc⟩ := h i m hm
  exact ⟨b, o, e, hc.below hb⟩
def MedsIn (w : World) (v : Value) (l : List Mdm) : Prop := ∃ ao cap, v = .slice ao l.length cap ∧ MedAt w ao l
theorem MedsIn.below {w w' : World} {v : Value} {l : List Mdm} (h : MedsIn w v l) (hb : Below w.heap.size w w') : MedsIn w' v l := by
  obtain ⟨ao, cap, rfl, h⟩ := h
  exact ⟨ao, cap, rfl, h.below hb⟩
theorem flat_get {α : Type} (f : α → List Value) (s : Nat) (hs : ∀ p, (f p).length = s) (l : List α) (i : Nat) (p : α) (h : l[i]? = some p) (k : Nat) (hk : k < s) : (l.flatMap f)[i * s + k]? = (f p)[k]? := by
  induction l generalizing i with
  | nil => simp at h
  | cons q r ih =>
    have e : (q :: r).flatMap f = f q ++ r.flatMap f := rfl
    have hl := hs q
    cases i with
    | zero =>
      obtain rfl : q = p := by simpa using h
      rw [e, Nat.zero_mul, Nat.zero_add, List.getElem?_append_left (by omega)]
    | succ i =>
      rw [e, List.getElem?_append_right (by rw [hl, Nat.succ_mul]; omega), hl, show (i + 1) * s + k - s = i * s + k from by rw [Nat.succ_mul]; omega]
      exact ih i (by simpa using h)
theorem map_get {α β : Type} {f : α → β} {l : List α} {i : Nat} {m : β} (h : (l.map f)[i]? = some m) : ∃ p, l[i]? = some p ∧ f p = m := by
  rw [List.getElem?_map] at h
  exact Option.map_eq_some_iff.1 h
/-- A row of media types of the call's own; the parameters of each stand in a row of their own. -/
def OwnMeds (w : World) (L : Nat) (T P : TypeId) (v : Value) (l : List Mdm) : Prop := ∃ X : List MdV, X.map Prod.fst = l ∧ w.ownsRow L T 3 v l.length (medsV X) ∧ ∀ p ∈ X, w.ownsRow L P 3 p.2 p.1.ps.length (parsV p.1.ps)
theorem OwnMeds.isIn {w : World} {L : Nat} {T P : TypeId} {v : Value} {l : List Mdm} (h : OwnMeds w L T P v l) : MedsIn w v l := by
  obtain ⟨X, rfl, hown, hall⟩ := h
  rcases hown.2 with ⟨rfl, h0⟩ | ⟨g, cap, cur, rfl, hb, hg, _⟩
  · exact ⟨none, 0, by rw [h0], fun i p hp => by
      obtain ⟨q, hq, _⟩ := map_get hp
      have := List.length_pos_of_mem (List.mem_of_getElem? hq); rw [List.length_map] at h0; omega⟩
  · have hlt : g < w.heap.size := (Array.getElem?_eq_some_iff.1 hg).1
    refine ⟨_, cap, rfl, fun i m hm => ⟨g, 0, rfl, hlt, ?_⟩⟩
    obtain ⟨p, hp, rfl⟩ := map_get hm
    have hgt := flat_get medV 3 (fun _ => rfl) X i p hp
    rw [Nat.zero_add]
    exact ⟨own_cellAt hown _ _ (hgt 0 (by decide)), own_cellAt hown _ _ (hgt 1 (by decide)), p.2, own_cellAt hown _ _ (hgt 2 (by decide)), parsIn_own (hall p (List.mem_of_getElem? hp))⟩
theorem OwnMeds.later {w w' : World} {L : Nat} {T P : TypeId} {v : Value} {l : List Mdm} (h : OwnMeds w L T P v l) (hb : Below w.heap.size w w') : OwnMeds w' L T P v l := by
  obtain ⟨X, hX, hown, hall⟩ := h
  exact ⟨X, hX, own_later hown hb, fun p hp => own_later (hall p hp) hb⟩
/-! Ranges. -/
abbrev RgV := MdV × Int
def rngV (p : RgV) : List Value := [.string ⟨p.1.1.ty.toArray⟩, .string ⟨p.1.1.sub.toArray⟩, p.1.2, .int .i64 p.2]
def rngsV (l : List RgV) : List Value := l.flatMap rngV
theorem rngsV_snoc (l : List RgV) (p : RgV) : rngsV (l ++ [p]) = rngsV l ++ rngV p := by simp [rngsV]
def RngC (w : World) (b a : Nat) (r : Rng) : Prop := MedC w b a r.1 ∧ w.cell? ⟨b, a + 3, none⟩ = some (.int .i64 r.2)
theorem RngC.below {w w' : World} {b a : Nat} {m : Rng} (h : RngC w b a m) (hb : Below w.heap.size w w') : RngC w' b a m :=
  ⟨h.1.below hb, by rw [hb.cell (p := ⟨b, a + 3, none⟩) h.1.1]; exact h.2⟩
def RngAt (w : World) (ao : Option Addr) (l : List Rng) : Prop := ∀ i m, l[i]? = some m → ∃ b o, ao = some ⟨b, o, none⟩ ∧ RngC w b (o + i * 4) m
theorem RngAt.below {w w' : World} {ao : Option Addr} {l : List Rng} (h : RngAt w ao l) (hb : Below w.heap.size w w') : RngAt w' ao l := fun i m hm => by
  obtain ⟨b, o, e, hc⟩ := h i m hm
  exact ⟨b, o, e, hc.below hb⟩
def RngsIn (w : World) (v : Value) (l : List Rng) : Prop := ∃ ao cap, v = .slice ao l.length cap ∧ RngAt w ao l
theorem RngsIn.below {w w' : World} {v : Value} {l : List Rng} (h : RngsIn w v l) (hb : Below w.heap.size w w') : RngsIn w' v l := by
  obtain ⟨ao, cap, rfl, h⟩ := h
  exact ⟨ao, cap, rfl, h.below hb⟩
def rngOf (p : RgV) : Rng := (p.1.1, p.2)
def OwnRngs (w : World) (L : Nat) (T P : TypeId) (v : Value) (l : List Rng) : Prop := ∃ X : List RgV, X.map rngOf = l ∧ w.ownsRow L T 4 v l.length (rngsV X) ∧ ∀ p ∈ X, w.ownsRow L P 3 p.1.2 p.1.1.ps.length (parsV p.1.1.ps)
theorem OwnRngs.isIn {w : World} {L : Nat} {T P : TypeId} {v : Value} {l : List Rng} (h : OwnRngs w L T P v l) : RngsIn w v l := by
  obtain ⟨X, rfl, hown, hall⟩ := h
  rcases hown.2 with ⟨rfl, h0⟩ | ⟨g, cap, cur, rfl, hb, hg, _⟩
  · exact ⟨none, 0, by rw [h0], fun i p hp => by
      obtain ⟨q, hq, _⟩ := map_get hp
      have := List.length_pos_of_mem (List.mem_of_getElem? hq); rw [List.length_map] at h0; omega⟩
  · have hlt : g < w.heap.size := (Array.getElem?_eq_some_iff.1 hg).1
    refine ⟨_, cap, rfl, fun i m hm => ⟨g, 0, rfl, ?_⟩⟩
    obtain ⟨p, hp, rfl⟩ := map_get hm
    have hgt := flat_get rngV 4 (fun _ => rfl) X i p hp
    rw [Nat.zero_add]
    exact ⟨⟨hlt, own_cellAt hown _ _ (hgt 0 (by decide)), own_cellAt hown _ _ (hgt 1 (by decide)), p.1.2, own_cellAt hown _ _ (hgt 2 (by decide)), parsIn_own (hall p (List.mem_of_getElem? hp))⟩, own_cellAt hown _ _ (hgt 3 (by decide))⟩
theorem OwnRngs.later {w w' : World} {L : Nat} {T P : TypeId} {v : Value} {l : List Rng} (h : OwnRngs w L T P v l) (hb : Below w.heap.size w w') : OwnRngs w' L T P v l := by
  obtain ⟨X, hX, hown, hall⟩ := h
  exact ⟨X, hX, own_later hown hb, fun p hp => own_later (hall p hp) hb⟩
/-! Words. -/
def wgtV (p : Wgt) : List Value := [.string ⟨p.1.toArray⟩, .int .i64 p.2]
def wgtsV (l : List Wgt) : List Value := l.flatMap wgtV
theorem wgtsV_snoc (l : List Wgt) (p : Wgt) : wgtsV (l ++ [p]) = wgtsV l ++ wgtV p := by simp [wgtsV]
theorem wgtsV_take (l : List Wgt) (i : Nat) (p : Wgt) (h : l[i]? = some p) : wgtsV (l.take (i + 1)) = wgtsV (l.take i) ++ [.string ⟨p.1.toArray⟩, .int .i64 p.2] := by
  rw [List.take_add_one, h, Option.toList_some, wgtsV_snoc]; rfl
def WgtC (w : World) (b a : Nat) (p : Wgt) : Prop := b < w.heap.size ∧ w.cell? ⟨b, a, none⟩ = some (.string ⟨p.1.toArray⟩) ∧ w.cell? ⟨b, a + 1, none⟩ = some (.int .i64 p.2)
theorem WgtC.below {w w' : World} {b a : Nat} {p : Wgt} (h : WgtC w b a p) (hb : Below w.heap.size w w') : WgtC w' b a p :=
  ⟨Nat.lt_of_lt_of_le h.1 hb.size, by rw [hb.cell (p := ⟨b, a, none⟩) h.1]; exact h.2.1, by rw [hb.cell (p := ⟨b, a + 1, none⟩) h.1]; exact h.2.2⟩
def WgtAt (w : World) (ao : Option Addr) (l : List Wgt) : Prop := ∀ i m, l[i]? = some m → ∃ b o, ao = some ⟨b, o, none⟩ ∧ WgtC w b (o + i * 2) m
theorem WgtAt.below {w w' : World} {ao : Option Addr} {l : List Wgt} (h : WgtAt w ao l) (hb : Below w.heap.size w w') : WgtAt w' ao l := fun i m hm => by
  obtain ⟨b, o, e, hc⟩ := h i m hm
  exact ⟨b, o, e, hc.below hb⟩
def WgtsIn (w : World) (v : Value) (l : List Wgt) : Prop := ∃ ao cap, v = .slice ao l.length cap ∧ WgtAt w ao l
theorem WgtsIn.below {w w' : World} {v : Value} {l : List Wgt} (h : WgtsIn w v l) (hb : Below w.heap.size w w') : WgtsIn w' v l := by
  obtain ⟨ao, cap, rfl, h⟩ := h
  exact ⟨ao, cap, rfl, h.below hb⟩
theorem wgtsIn_own {w : World} {base : Nat} {T : TypeId} {v : Value} {l : List Wgt} (hown : w.ownsRow base T 2 v l.length (wgtsV l)) : WgtsIn w v l := by
  rcases hown.2 with ⟨rfl, h0⟩ | ⟨g, cap, cur, rfl, hb, hg, _⟩
  · obtain rfl := List.eq_nil_of_length_eq_zero h0
    exact ⟨none, 0, rfl, fun i p hp => by simp at hp⟩
  · have hlt : g < w.heap.size := (Array.getElem?_eq_some_iff.1 hg).1
    refine ⟨_, cap, rfl, fun i p hp => ⟨g, 0, rfl, hlt, ?_⟩⟩
    have hgt := flat_get wgtV 2 (fun _ => rfl) l i p hp
    rw [Nat.zero_add]
    exact ⟨own_cellAt hown _ _ (hgt 0 (by decide)), own_cellAt hown _ _ (hgt 1 (by decide))⟩
/-! Texts and numbers. -/
def TxtAt (w : World) (ao : Option Addr) (l : List (List UInt8)) : Prop := ∀ i p, l[i]? = some p → ∃ b o, ao = some ⟨b, o, none⟩ ∧ b < w.heap.size ∧ w.cell? ⟨b, o + i, none⟩ = some (.string ⟨p.toArray⟩)
theorem TxtAt.below {w w' : World} {ao : Option Addr} {l : List (List UInt8)} (h : TxtAt w ao l) (hb : Below w.heap.size w w') : TxtAt w' ao l := fun i m hm => by
  obtain ⟨b, o, e, lt, hc⟩ := h i m hm
  exact ⟨b, o, e, Nat.lt_of_lt_of_le lt hb.size, by rw [hb.cell (p := ⟨b, o + i, none⟩) lt]; exact hc⟩
def TxtsIn (w : World) (v : Value) (l : List (List UInt8)) : Prop := ∃ ao cap, v = .slice ao l.length cap ∧ TxtAt w ao l
theorem TxtsIn.below {w w' : World} {v : Value} {l : List (List UInt8)} (h : TxtsIn w v l) (hb : Below w.heap.size w w') : TxtsIn w' v l := by
  obtain ⟨ao, cap, rfl, h⟩ := h
  exact ⟨ao, cap, rfl, h.below hb⟩
theorem txtsIn_own {w : World} {base : Nat} {T : TypeId} {v : Value} {l : List (List UInt8)} (hown : w.ownsRow base T 1 v l.length (strV l)) : TxtsIn w v l := by
  rcases hown.2 with ⟨rfl, h0⟩ | ⟨g, cap, cur, rfl, hb, hg, _⟩
  · obtain rfl := List.eq_nil_of_length_eq_zero h0
    exact ⟨none, 0, rfl, fun i p hp => by simp at hp⟩
  · have hlt : g < w.heap.size := (Array.getElem?_eq_some_iff.1 hg).1
    refine ⟨_, cap, rfl, fun i p hp => ⟨g, 0, rfl, hlt, ?_⟩⟩
    rw [Nat.zero_add]
    exact own_cellAt hown i _ (by simp [strV, hp])
def intsV (l : List Int) : List Value := l.map fun n => .int .i64 n
theorem intsV_snoc (l : List Int) (n : Int) : intsV (l ++ [n]) = intsV l ++ [.int .i64 n] := by simp [intsV]
def IntAt (w : World) (ao : Option Addr) (l : List Int) : Prop := ∀ i n, l[i]? = some n → ∃ b o, ao = some ⟨b, o, none⟩ ∧ b < w.heap.size ∧ w.cell? ⟨b, o + i, none⟩ = some (.int .i64 n)
def IntsIn (w : World) (v : Value) (l : List Int) : Prop := ∃ ao cap, v = .slice ao l.length cap ∧ IntAt w ao l
theorem intsIn_own {w : World} {base : Nat} {T : TypeId} {v : Value} {l : List Int} (hown : w.ownsRow base T 1 v l.length (intsV l)) : IntsIn w v l := by
  rcases hown.2 with ⟨rfl, h0⟩ | ⟨g, cap, cur, rfl, hb, hg, _⟩
  · obtain rfl := List.eq_nil_of_length_eq_zero h0
    exact ⟨none, 0, rfl, fun i p hp => by simp at hp⟩
  · have hlt : g < w.heap.size := (Array.getElem?_eq_some_iff.1 hg).1
    refine ⟨_, cap, rfl, fun i p hp => ⟨g, 0, rfl, hlt, ?_⟩⟩
    rw [Nat.zero_add]
    exact own_cellAt hown i _ (by simp [intsV, hp])
end Go.Proofs.YtpdbejeiceodkaaGreatDoor
