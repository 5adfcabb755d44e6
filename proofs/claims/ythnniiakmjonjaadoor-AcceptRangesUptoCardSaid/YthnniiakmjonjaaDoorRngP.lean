/- Lists of ranges: plain, and their rows in memory, whose parameters stand in blocks that nobody else writes. No program is named. No conditions. -/
import Derived.Test.YthnniiakmjonjaaDoorWgsP
import Derived.Test.YthnniiakmjonjaaDoorRgs
import Derived.Test.YthnniiakmjonjaaDoorMedP
import Derived.Test.YthnniiakmjonjaaDoorWei
import Derived.Test.YthnniiakmjonjaaDoorSpt
namespace Go.Proofs.YthnniiakmjonjaaDoor
open Go.RowKit
set_option linter.unusedSimpArgs false
set_option linter.unusedVariables false
set_option maxRecDepth 100000
/-- Parameters at the head of a block of their type. -/
def ParBlk (w : World) (L : Nat) (P : TypeId) (sv : Value) (ps : List Par) : Prop := ∃ ao cap, sv = .slice ao ps.length cap ∧ ((ao = none ∧ ps = []) ∨ ∃ g cur, ao = some ⟨g, 0, none⟩ ∧ L ≤ g ∧ BlkIs w g cur P ∧ ∀ i p, ps[i]? = some p → cur[i * 3]? = some (.string ⟨p.1.toArray⟩) ∧ cur[i * 3 + 1]? = some (.string ⟨p.2.1.toArray⟩) ∧ cur[i * 3 + 2]? = some (.bool p.2.2))
theorem ParBlk.isIn {w : World} {L : Nat} {P : TypeId} {sv : Value} {ps : List Par} (h : ParBlk w L P sv ps) : ParsIn w sv ps := by
  obtain ⟨ao, cap, rfl, h⟩ := h
  refine ⟨ao, cap, rfl, fun i p hp => ?_⟩
  rcases h with ⟨_, rfl⟩ | ⟨g, cur, rfl, _, hg, hc⟩
  · simp at hp
  · have := hc i p hp
    rw [show (0 : Nat) = 0 from rfl]
    refine ⟨g, 0, rfl, hg.lt, ?_, ?_, ?_⟩
    · rw [Nat.zero_add]; exact hg.cell _ _ this.1
    · rw [Nat.zero_add]; exact hg.cell _ _ this.2.1
    · rw [Nat.zero_add]; exact hg.cell _ _ this.2.2
theorem ParBlk.later {w w' : World} {L : Nat} {P : TypeId} {sv : Value} {ps : List Par} (h : ParBlk w L P sv ps) (hb : Below w.heap.size w w') : ParBlk w' L P sv ps := by
  obtain ⟨ao, cap, rfl, h⟩ := h
  exact ⟨ao, cap, rfl, h.imp id (fun ⟨g, cur, e, hl, hg, hc⟩ => ⟨g, cur, e, hl, hg.later hb, hc⟩)⟩
theorem ParBlk.grown {w w' : World} {L Lr n s : Nat} {P T : TypeId} {sv v : Value} {ps : List Par} {xs : List Value} (h : ParBlk w L P sv ps) (hown : w.ownsRow Lr T s v n xs) (hne : T ≠ P) (hg : w.grownBy w' v.ownBlock) : ParBlk w' L P sv ps := by
  obtain ⟨ao, cap, rfl, h⟩ := h
  exact ⟨ao, cap, rfl, h.imp id (fun ⟨g, cur, e, hl, hb, hc⟩ => ⟨g, cur, e, hl, hb.grown hg (own_blk hown hb hne), hc⟩)⟩
theorem ParBlk.base {w : World} {L L' : Nat} {P : TypeId} {sv : Value} {ps : List Par} (h : ParBlk w L P sv ps) (hl : L' ≤ L) : ParBlk w L' P sv ps := by
  obtain ⟨ao, cap, rfl, h⟩ := h
  exact ⟨ao, cap, rfl, h.imp id (fun ⟨g, cur, e, hl2, hg, hc⟩ => ⟨g, cur, e, Nat.le_trans hl hl2, hg, hc⟩)⟩
theorem parBlk_own {w : World} {L : Nat} {P : TypeId} {sv : Value} {ps : List Par} (h : w.ownsRow L P 3 sv ps.length (parsV ps)) : ParBlk w L P sv ps := by
  rcases h.2 with ⟨rfl, h0⟩ | ⟨g, cap, cur, rfl, hb, hg, hn, hm, hs, ht⟩
  · exact ⟨none, 0, by rw [h0], Or.inl ⟨rfl, List.eq_nil_of_length_eq_zero h0⟩⟩
  · refine ⟨_, cap, rfl, Or.inr ⟨g, cur, rfl, hb, hg, fun i p hp => ?_⟩⟩
    have hv := parsV_get ps i p hp
    have hi : i < ps.length := (List.getElem?_eq_some_iff.1 hp).1
    have hk : ∀ k, k < 3 → ∀ u, (parsV ps)[i * 3 + k]? = some u → cur[i * 3 + k]? = some u := fun k hk u hu => by
      rw [← ht, List.getElem?_take] at hu
      split at hu
      · rw [Array.getElem?_toList] at hu; exact hu
      · cases hu
    exact ⟨hk 0 (by decide) _ hv.1, hk 1 (by decide) _ hv.2.1, hk 2 (by decide) _ hv.2.2⟩
theorem parBlk_take {w : World} {L k c cap : Nat} {P : TypeId} {ao : Option Addr} {ps : List Par} (h : ParBlk w L P (.slice ao ps.length cap) ps) (hk : k ≤ ps.length) : ParBlk w L P (.slice ao (ps.take k).length c) (ps.take k) := by
  obtain ⟨ao2, cap2, he, h⟩ := h
  injection he with h1 h2 h3
  subst h1
  refine ⟨ao, c, rfl, ?_⟩
  rcases h with ⟨h, rfl⟩ | ⟨g, cur, e, hl, hg, hc⟩
  · exact Or.inl ⟨h, by simp⟩
  · refine Or.inr ⟨g, cur, e, hl, hg, fun i p hp => hc i p ?_⟩
    rw [List.getElem?_take] at hp
    split at hp
    · exact hp
    · cases hp
theorem wtP_pre (l : List Par) : ∃ k, k ≤ l.length ∧ (wtP l).1 = l.take k := by
  induction l with
  | nil => exact ⟨0, Nat.le_refl _, rfl⟩
  | cons p r ih =>
    rw [wtP]
    split
    · exact ⟨0, Nat.zero_le _, rfl⟩
    · obtain ⟨k, hk, he⟩ := ih
      exact ⟨k + 1, by rw [List.length_cons]; omega, by show p :: (wtP r).1 = _; rw [he]; rfl⟩
/-- A row of ranges of the call's own; the parameters of each stand in blocks of their own. -/
def KRngs (w : World) (L : Nat) (T P : TypeId) (v : Value) (l : List Rng) : Prop := ∃ X : List RgV, X.map rngOf = l ∧ w.ownsRow L T 4 v l.length (rngsV X) ∧ ∀ p ∈ X, ParBlk w L P p.1.2 p.1.1.ps
theorem KRngs.isIn {w : World} {L : Nat} {T P : TypeId} {v : Value} {l : List Rng} (h : KRngs w L T P v l) : RngsIn w v l := by
  obtain ⟨X, rfl, hown, hall⟩ := h
  rcases hown.2 with ⟨rfl, h0⟩ | ⟨g, cap, cur, rfl, hb, hg, _⟩
  · exact ⟨none, 0, by rw [h0], fun i p hp => by
      obtain ⟨q, hq, _⟩ := map_get hp
      have := List.length_pos_of_mem (List.mem_of_getElem? hq); rw [List.length_map] at h0; omega⟩
  · have hlt : g < w.heap.size := (Array.getElem?_eq_some_iff.1 hg).1
    refine ⟨_, cap, rfl, fun i m hm => ⟨g, 0, rfl, ?_⟩⟩
    obtain ⟨p, hp, rfl⟩ := map_get hm
    have hgt := flat_get rngV 4 (fun _ => rfl) X i p hp
    rw [Nat.zero_add]
    exact ⟨⟨hlt, own_cellAt hown _ _ (hgt 0 (by decide)), own_cellAt hown _ _ (hgt 1 (by decide)), p.1.2, own_cellAt hown _ _ (hgt 2 (by decide)), (hall p (List.mem_of_getElem? hp)).isIn⟩, own_cellAt hown _ _ (hgt 3 (by decide))⟩
theorem KRngs.later {w w' : World} {L : Nat} {T P : TypeId} {v : Value} {l : List Rng} (h : KRngs w L T P v l) (hb : Below w.heap.size w w') : KRngs w' L T P v l := by
  obtain ⟨X, hX, hown, hall⟩ := h
  exact ⟨X, hX, own_later hown hb, fun p hp => (hall p hp).later hb⟩
theorem KRngs.base {w : World} {L L' : Nat} {T P : TypeId} {v : Value} {l : List Rng} (h : KRngs w L T P v l) (hl : L' ≤ L) : KRngs w L' T P v l := by
  obtain ⟨X, hX, hown, hall⟩ := h
  exact ⟨X, hX, own_base hown hl, fun p hp => (hall p hp).base hl⟩
theorem kRngs_nil (w : World) (L : Nat) (T P : TypeId) : KRngs w L T P (.slice none 0 0) [] := ⟨[], rfl, World.ownsRow_nil _ _ _ _, fun p hp => by cases hp⟩
theorem kRngs_made (w : World) (L : Nat) (T P : TypeId) (hL : L ≤ w.heap.size) : KRngs (w.alloc (.cells #[] T)) L T P (.slice (some ⟨w.heap.size, 0, none⟩) 0 0) [] := ⟨[], rfl, World.ownsRow_made w #[] 0 hL (by decide) rfl, fun p hp => by cases hp⟩
theorem kRngs_snoc {w w' : World} {L : Nat} {T P : TypeId} {v v' sv : Value} {l : List Rng} {X : List RgV} {r : Rng} (hX : X.map rngOf = l) (hown : w.ownsRow L T 4 v l.length (rngsV X)) (hall : ∀ p ∈ X, ParBlk w L P p.1.2 p.1.1.ps) (hne : T ≠ P)
    (hsv : ParBlk w L P sv r.1.ps) (hg : w.grownBy w' v.ownBlock) (hI : w'.ownsRow L T 4 v' (l.length + 1) (rngsV X ++ [.string ⟨r.1.ty.toArray⟩, .string ⟨r.1.sub.toArray⟩, sv, .int .i64 r.2])) : KRngs w' L T P v' (l ++ [r]) := by
  refine ⟨X ++ [((r.1, sv), r.2)], by rw [List.map_append, hX]; rfl, ?_, fun p hp => ?_⟩
  · rw [rngsV_snoc, List.length_append]; exact hI
  · rcases List.mem_append.1 hp with h | h
    · exact (hall p h).grown hown hne hg
    · rw [List.mem_singleton] at h
      subst h
      exact hsv.grown hown hne hg
/-- Whether a range is none. -/
def badR (gd : Bool) (ty sub : List UInt8) (ah : List Par) : Bool := !gd || (decide (ty = [42]) && !decide (sub = [42])) || !allVal ah
/-- One range: an error's number, and what it says. -/
def rgOne (x : List UInt8) : Nat × Rng :=
  if badR (mdR x).2.2.2 (mdR x).1 (mdR x).2.1 (wtP (mdR x).2.2.1).1 = true then (72, (⟨[], [], []⟩, 0))
  else if (wtP (mdR x).2.2.1).2.2 ≠ 0 then ((wtP (mdR x).2.2.1).2.2, (⟨[], [], []⟩, 0))
  else (0, (⟨(mdR x).1, (mdR x).2.1, (wtP (mdR x).2.2.1).1⟩, (((wtP (mdR x).2.2.1).2.1 : Nat) : Int)))
theorem rgOne_bad (x ty sub : List UInt8) (ps ah : List Par) (gd : Bool) (q e : Nat) (h : mdR x = (ty, sub, ps, gd)) (hw : wtP ps = (ah, q, e)) (hb : badR gd ty sub ah = true) : rgOne x = (72, (⟨[], [], []⟩, 0)) := by
  unfold rgOne; rw [h]; simp only; rw [hw, if_pos hb]
theorem rgOne_q (x ty sub : List UInt8) (ps ah : List Par) (gd : Bool) (q e : Nat) (h : mdR x = (ty, sub, ps, gd)) (hw : wtP ps = (ah, q, e)) (hb : badR gd ty sub ah = false) (he : e ≠ 0) : rgOne x = (e, (⟨[], [], []⟩, 0)) := by
  unfold rgOne; rw [h]; simp only; rw [hw, if_neg (by rw [hb]; simp), if_pos he]
theorem rgOne_ok (x ty sub : List UInt8) (ps ah : List Par) (gd : Bool) (q : Nat) (h : mdR x = (ty, sub, ps, gd)) (hw : wtP ps = (ah, q, 0)) (hb : badR gd ty sub ah = false) : rgOne x = (0, (⟨ty, sub, ah⟩, ((q : Nat) : Int))) := by
  unfold rgOne; rw [h]; simp only; rw [hw, if_neg (by rw [hb]; simp), if_neg (by simp)]
def rgGood (x : List UInt8) : Bool := decide ((rgOne x).1 = 0)
def rgE : List (List UInt8) → Nat
  | [] => 0
  | x :: r => if (rgOne x).1 = 0 then rgE r else (rgOne x).1
def rgW (xs : List (List UInt8)) : List Rng := xs.map fun x => (rgOne x).2
/-- What Ranges answers. -/
def rgR (L : List UInt8) : List Rng × Nat := if (lsR L).2 ≠ 0 then ([], (lsR L).2) else if rgE (lsR L).1 ≠ 0 then ([], rgE (lsR L).1) else (rgW (lsR L).1, 0)
theorem rgE_at (l : List (List UInt8)) : ∀ (i : Nat) (x : List UInt8), l[i]? = some x → (l.take i).all rgGood = true → (rgOne x).1 ≠ 0 → rgE l = (rgOne x).1 := by
  induction l with
  | nil => intro i x h; simp at h
  | cons y r ih =>
    intro i x h ha hx
    cases i with
    | zero => obtain rfl : y = x := (by simpa using h); rw [rgE, if_neg hx]
    | succ i =>
      rw [List.take_succ_cons, List.all_cons, Bool.and_eq_true] at ha
      rw [rgE, if_pos (by have := ha.1; unfold rgGood at this; simpa using this)]
      exact ih i x (by simpa using h) ha.2 hx
theorem rgE_end (l : List (List UInt8)) (ha : l.all rgGood = true) : rgE l = 0 := by
  induction l with
  | nil => rfl
  | cons y r ih =>
    rw [List.all_cons, Bool.and_eq_true] at ha
    rw [rgE, if_pos (by have := ha.1; unfold rgGood at this; simpa using this)]
    exact ih ha.2
theorem rgR_list (L : List UInt8) (xs : List (List UInt8)) (e : Nat) (h : lsR L = (xs, e)) (he : e ≠ 0) : rgR L = ([], e) := by unfold rgR; rw [h, if_pos he]
theorem rgR_bad (L : List UInt8) (xs : List (List UInt8)) (h : lsR L = (xs, 0)) (i : Nat) (x : List UInt8) (hx : xs[i]? = some x) (ha : (xs.take i).all rgGood = true) (k : Nat) (w : Rng) (hk : rgOne x = (k, w)) (h0 : k ≠ 0) : rgR L = ([], k) := by
  have := rgE_at xs i x hx ha (by rw [hk]; exact h0)
  rw [hk] at this
  unfold rgR
  rw [h, if_neg (by simp), if_pos (by rw [this]; exact h0), this]
theorem rgR_ok (L : List UInt8) (xs : List (List UInt8)) (h : lsR L = (xs, 0)) (ha : xs.all rgGood = true) : rgR L = (rgW xs, 0) := by
  unfold rgR
  rw [h, if_neg (by simp), if_neg (by rw [rgE_end xs ha]; simp)]
theorem rg_step (xs : List (List UInt8)) (i : Nat) (x : List UInt8) (r : Rng) (h : xs[i]? = some x) (ha : (xs.take i).all rgGood = true) (hx : rgOne x = (0, r)) : (xs.take (i + 1)).all rgGood = true ∧ rgW (xs.take (i + 1)) = rgW (xs.take i) ++ [r] := by
  refine ⟨take_all _ _ _ _ h ha (by unfold rgGood; rw [hx]; rfl), ?_⟩
  unfold rgW
  rw [List.take_add_one, h, Option.toList_some, List.map_append, List.map_cons, List.map_nil, hx]
theorem rgW_len (xs : List (List UInt8)) (i : Nat) (h : i ≤ xs.length) : (rgW (xs.take i)).length = i := by unfold rgW; rw [List.length_map, List.length_take]; omega
theorem mdK_good (s rest : List UInt8) (n k : Nat) (hr : rest.length ≤ k) : ∀ p ∈ (mdK s rest n).2.2.1, p.1.length ≤ k ∧ ParGood k p := by
  unfold mdK
  split
  · intro p hp; cases hp
  · obtain ⟨⟨ps, m, e⟩, hp⟩ : ∃ r, parR (rest.drop (runL isSg rest)) = r := ⟨_, rfl⟩
    rw [hp]
    intro p hpm
    obtain ⟨q, hq, rfl⟩ := List.mem_map.1 hpm
    have h1 := (parR_bd7 _ ps m e hp).2.2 q hq
    have h2 := parR_good _ ps m e hp q hq
    rw [List.length_drop] at h1
    have h3 : q.2.1.length ≤ (rest.drop (runL isSg rest)).length := h2.1
    rw [List.length_drop] at h3
    exact ⟨by show (lowL q.1).length ≤ _; rw [lowL_len]; omega, by show q.2.1.length ≤ k; omega, h2.2⟩
theorem mdR_good7 (s : List UInt8) (k : Nat) (hs : s.length ≤ k) : ∀ p ∈ (mdR s).2.2.1, p.1.length ≤ k ∧ ParGood k p := by
  unfold mdR
  split
  · intro p hp; cases hp
  · exact mdK_good s _ _ k (by rw [List.length_drop]; omega)
end Go.Proofs.YthnniiakmjonjaaDoor
