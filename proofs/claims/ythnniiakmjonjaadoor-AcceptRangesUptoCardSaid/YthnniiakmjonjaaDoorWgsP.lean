/- Lists of words with qualities: plain. No program is named. No conditions. -/
import Derived.Test.YthnniiakmjonjaaDoorCodP
import Derived.Test.YthnniiakmjonjaaDoorLst
import Derived.Test.YthnniiakmjonjaaDoorParS
namespace Go.Proofs.YthnniiakmjonjaaDoor
open Go.RowKit
set_option linter.unusedSimpArgs false
set_option linter.unusedVariables false
set_option maxRecDepth 100000
theorem valP_len (l v : List UInt8) (k : Nat) (h : valP l = some (v, k)) : v.length ≤ l.length := by
  unfold valP at h
  split at h
  · have := unq_used l v k h; omega
  · injection h with h
    injection h with h1 h2
    rw [← h1, List.length_take]
    omega
def ParGood (n : Nat) (p : Par) : Prop := p.2.1.length ≤ n ∧ (p.2.2 = false → p.2.1 = [])
theorem parStep_good (l : List UInt8) (p : Par) (k : Nat) (h : parStep l = some (some (some p, k))) : ParGood l.length p := by
  unfold parStep at h
  split at h
  · simp only at h
    split at h
    · simp at h
    · split at h
      · split at h
        · simp at h
        · rename_i v k2 hv
          simp only [Option.some.injEq, Prod.mk.injEq] at h
          obtain ⟨rfl, _⟩ := h
          have := valP_len _ _ _ hv
          simp only [List.length_drop] at this
          exact ⟨by show v.length ≤ _; omega, fun e => by cases e⟩
      · simp only [Option.some.injEq, Prod.mk.injEq] at h
        obtain ⟨rfl, _⟩ := h
        exact ⟨Nat.zero_le _, fun _ => rfl⟩
  · cases h
theorem parF_good (n : Nat) : ∀ (f : Nat) (l : List UInt8) (ps : List Par) (k : Nat), l.length ≤ n → parF f l = some (ps, k) → ∀ p ∈ ps, ParGood n p
  | 0, l, ps, k, _, h, p, hp => by
    simp only [parF, Option.some.injEq, Prod.mk.injEq] at h
    obtain ⟨rfl, _⟩ := h
    cases hp
  | f + 1, l, ps, k, hl, h, p, hp => by
    rw [parF] at h
    cases hs : parStep l with
    | none =>
      rw [hs] at h
      simp only [Option.some.injEq, Prod.mk.injEq] at h
      obtain ⟨rfl, _⟩ := h
      cases hp
    | some o =>
      rw [hs] at h
      cases o with
      | none => cases h
      | some qk =>
        obtain ⟨q, k2⟩ := qk
        simp only [Option.map_eq_some_iff] at h
        obtain ⟨x, hx, he⟩ := h
        injection he with h1 h2
        rw [← h1] at hp
        rcases List.mem_append.1 hp with hp | hp
        · cases q with
          | none => cases hp
          | some q =>
            obtain rfl : p = q := by simpa using hp
            have := parStep_good l p k2 hs
            exact ⟨Nat.le_trans this.1 hl, this.2⟩
        · exact parF_good n f (l.drop k2) x.1 x.2 (by rw [List.length_drop]; omega) hx p hp
theorem parR_good (l : List UInt8) (ps : List Par) (m e : Nat) (h : parR l = (ps, m, e)) : ∀ p ∈ ps, ParGood l.length p := by
  unfold parR at h
  cases hp : parP l with
  | none =>
    rw [hp] at h
    injection h with h1 h2
    rw [← h1]
    intro p hp
    cases hp
  | some x =>
    rw [hp] at h
    obtain ⟨ps2, k⟩ := x
    injection h with h1 h2
    rw [← h1]
    exact parF_good l.length _ l ps2 k (Nat.le_refl _) hp
theorem parR_noV (l : List UInt8) (ps : List Par) (m e : Nat) (h : parR l = (ps, m, e)) : noV ps := fun p hp hf => (parR_good l ps m e h p hp).2 hf
/-- One word: an error's number, and what it says. -/
def wgOne (x : List UInt8) : Nat × Wgt :=
  if runL isSg x = 0 ∨ (parR (x.drop (runL isSg x))).2.2 ≠ 0 ∨ runL isSg x + (parR (x.drop (runL isSg x))).2.1 ≠ x.length then (10, ([], 0))
  else if (wtP (parR (x.drop (runL isSg x))).1).2.2 ≠ 0 then ((wtP (parR (x.drop (runL isSg x))).1).2.2, ([], 0))
  else (0, (lowL (x.take (runL isSg x)), (((wtP (parR (x.drop (runL isSg x))).1).2.1 : Nat) : Int)))
theorem wgOne_bad (x : List UInt8) (n m e : Nat) (ps : List Par) (hn : runL isSg x = n) (hp : parR (x.drop n) = (ps, m, e)) (h : n = 0 ∨ e ≠ 0 ∨ n + m ≠ x.length) : wgOne x = (10, ([], 0)) := by
  unfold wgOne; rw [hn, hp, if_pos h]
theorem wgOne_q (x : List UInt8) (n m : Nat) (ps ah : List Par) (q e : Nat) (hn : runL isSg x = n) (hp : parR (x.drop n) = (ps, m, 0)) (h0 : n ≠ 0) (hm : n + m = x.length) (hw : wtP ps = (ah, q, e)) (he : e ≠ 0) : wgOne x = (e, ([], 0)) := by
  unfold wgOne; rw [hn, hp, if_neg (by rintro (h | h | h); exact h0 h; exact h rfl; exact h hm), hw, if_pos he]
theorem wgOne_ok (x : List UInt8) (n m : Nat) (ps ah : List Par) (q : Nat) (hn : runL isSg x = n) (hp : parR (x.drop n) = (ps, m, 0)) (h0 : n ≠ 0) (hm : n + m = x.length) (hw : wtP ps = (ah, q, 0)) : wgOne x = (0, (lowL (x.take n), ((q : Nat) : Int))) := by
  unfold wgOne; rw [hn, hp, if_neg (by rintro (h | h | h); exact h0 h; exact h rfl; exact h hm), hw, if_neg (by simp)]
def wgGood (x : List UInt8) : Bool := decide ((wgOne x).1 = 0)
def wgE : List (List UInt8) → Nat
  | [] => 0
  | x :: r => if (wgOne x).1 = 0 then wgE r else (wgOne x).1
def wgW (xs : List (List UInt8)) : List Wgt := xs.map fun x => (wgOne x).2
/-- What Weights answers. -/
def wgR (L : List UInt8) : List Wgt × Nat := if (lsR L).2 ≠ 0 then ([], (lsR L).2) else if wgE (lsR L).1 ≠ 0 then ([], wgE (lsR L).1) else (wgW (lsR L).1, 0)
theorem wgE_at (l : List (List UInt8)) : ∀ (i : Nat) (x : List UInt8), l[i]? = some x → (l.take i).all wgGood = true → (wgOne x).1 ≠ 0 → wgE l = (wgOne x).1 := by
  induction l with
  | nil => intro i x h; simp at h
  | cons y r ih =>
    intro i x h ha hx
    cases i with
    | zero => obtain rfl : y = x := (by simpa using h); rw [wgE, if_neg hx]
    | succ i =>
      rw [List.take_succ_cons, List.all_cons, Bool.and_eq_true] at ha
      rw [wgE, if_pos (by have := ha.1; unfold wgGood at this; simpa using this)]
      exact ih i x (by simpa using h) ha.2 hx
theorem wgE_end (l : List (List UInt8)) (ha : l.all wgGood = true) : wgE l = 0 := by
  induction l with
  | nil => rfl
  | cons y r ih =>
    rw [List.all_cons, Bool.and_eq_true] at ha
    rw [wgE, if_pos (by have := ha.1; unfold wgGood at this; simpa using this)]
    exact ih ha.2
theorem wgR_list (L : List UInt8) (xs : List (List UInt8)) (e : Nat) (h : lsR L = (xs, e)) (he : e ≠ 0) : wgR L = ([], e) := by unfold wgR; rw [h, if_pos he]
theorem wgR_bad (L : List UInt8) (xs : List (List UInt8)) (h : lsR L = (xs, 0)) (i : Nat) (x : List UInt8) (hx : xs[i]? = some x) (ha : (xs.take i).all wgGood = true) (k : Nat) (w : Wgt) (hk : wgOne x = (k, w)) (h0 : k ≠ 0) : wgR L = ([], k) := by
  have := wgE_at xs i x hx ha (by rw [hk]; exact h0)
  rw [hk] at this
  unfold wgR
  rw [h, if_neg (by simp), if_pos (by rw [this]; exact h0), this]
theorem wgR_ok (L : List UInt8) (xs : List (List UInt8)) (h : lsR L = (xs, 0)) (ha : xs.all wgGood = true) : wgR L = (wgW xs, 0) := by
  unfold wgR
  rw [h, if_neg (by simp), if_neg (by rw [wgE_end xs ha]; simp)]
theorem wg_step (xs : List (List UInt8)) (i : Nat) (x : List UInt8) (w : Wgt) (h : xs[i]? = some x) (ha : (xs.take i).all wgGood = true) (hx : wgOne x = (0, w)) : (xs.take (i + 1)).all wgGood = true ∧ wgtsV (wgW (xs.take (i + 1))) = wgtsV (wgW (xs.take i)) ++ [.string ⟨w.1.toArray⟩, .int .i64 w.2] := by
  refine ⟨take_all _ _ _ _ h ha (by unfold wgGood; rw [hx]; rfl), ?_⟩
  unfold wgW
  rw [List.take_add_one, h, Option.toList_some, List.map_append, List.map_cons, List.map_nil, hx, wgtsV_snoc]
  rfl
theorem wgW_len (xs : List (List UInt8)) (i : Nat) (h : i ≤ xs.length) : (wgW (xs.take i)).length = i := by unfold wgW; rw [List.length_map, List.length_take]; omega
theorem trimL_mem (x : List UInt8) : (trimL x).length ≤ x.length := trimL_len x
theorem lstF_len : ∀ (f : Nat) (cur l : List UInt8) (xs : List (List UInt8)), lstF f cur l = some xs → xs.length ≤ l.length + 1 ∧ ∀ x ∈ xs, x.length ≤ cur.length + l.length
  | 0, cur, l, xs, h => by
    simp only [lstF, Option.some.injEq] at h
    subst h
    exact ⟨by simp, fun x hx => by rw [List.mem_singleton] at hx; subst hx; omega⟩
  | f + 1, cur, [], xs, h => by
    simp only [lstF, Option.some.injEq] at h
    subst h
    exact ⟨by simp, fun x hx => by rw [List.mem_singleton] at hx; subst hx; omega⟩
  | f + 1, cur, c :: r, xs, h => by
    rw [lstF.eq_def] at h
    simp only at h
    by_cases h1 : c = 34
    · rw [if_pos h1] at h
      cases hu : unq (c :: r) with
      | none => rw [hu] at h; cases h
      | some y =>
        obtain ⟨y, n⟩ := y
        rw [hu] at h
        have := lstF_len f _ _ xs h
        have hu2 := unq_used _ _ _ hu
        rw [List.length_drop] at this
        refine ⟨by omega, fun x hx => ?_⟩
        have := this.2 x hx
        rw [List.length_append, List.length_take] at this
        omega
    · rw [if_neg h1] at h
      by_cases h2 : c = 44
      · rw [if_pos h2] at h
        simp only [Option.map_eq_some_iff] at h
        obtain ⟨ys, hy, he⟩ := h
        have := lstF_len f [] r ys hy
        rw [← he]
        refine ⟨by rw [List.length_cons, List.length_cons]; omega, fun x hx => ?_⟩
        rw [List.length_cons]
        rcases List.mem_cons.1 hx with hx | hx
        · subst hx; omega
        · have := this.2 x hx
          rw [List.length_nil] at this
          omega
      · rw [if_neg h2] at h
        have := lstF_len f _ r xs h
        rw [List.length_append, List.length_singleton] at this
        rw [List.length_cons]
        exact ⟨by omega, fun x hx => by have := this.2 x hx; omega⟩
theorem lsR_len (L : List UInt8) : (lsR L).1.length ≤ L.length + 1 ∧ ∀ x ∈ (lsR L).1, x.length ≤ L.length := by
  cases h : lstR [] L with
  | none => rw [lsR_none L h]; exact ⟨Nat.zero_le _, fun x hx => by cases hx⟩
  | some xs =>
    rw [lsR_some L xs h]
    have := lstF_len _ _ _ xs h
    refine ⟨Nat.le_trans (fulls_len xs) this.1, fun x hx => ?_⟩
    unfold fulls at hx
    have hx := (List.mem_filter.1 hx).1
    obtain ⟨y, hy, rfl⟩ := List.mem_map.1 hx
    have := this.2 y hy
    rw [List.length_nil] at this
    exact Nat.le_trans (trimL_len y) (by omega)
end Go.Proofs.YthnniiakmjonjaaDoor
