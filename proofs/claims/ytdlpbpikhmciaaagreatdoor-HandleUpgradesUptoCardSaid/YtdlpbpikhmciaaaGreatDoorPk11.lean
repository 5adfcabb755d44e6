/- HuP, Txts, Lst: texts of the seat, one behind the other (a claim holds at most sixty). Conditions: each theorem names its own. -/
import Derived.Test.YtdlpbpikhmciaaaGreatDoorPk10
import Derived.Test.YtdlpbpikhmciaaaGreatDoorPk00
import Derived.Test.YtdlpbpikhmciaaaGreatDoorPk05
import Derived.Test.YtdlpbpikhmciaaaGreatDoorPk09
namespace Go.Proofs.YtdlpbpikhmciaaaGreatDoor
open Go.RowKit
set_option linter.unusedSimpArgs false
set_option linter.unusedVariables false
set_option maxRecDepth 1000000
/-- The elements of all values; none: one of them is no list. -/
def flO : List (List UInt8) → Option (List (List UInt8))
  | [] => some []
  | v :: r => match lstP v, flO r with
    | some a, some b => some (a ++ b)
    | _, _ => none
theorem flO_cons (v : List UInt8) (r : List (List UInt8)) : flO (v :: r) = match lstP v, flO r with
    | some a, some b => some (a ++ b)
    | _, _ => none := rfl
theorem flO_snoc (v : List UInt8) : ∀ l : List (List UInt8), flO (l ++ [v]) = match flO l, lstP v with
    | some a, some b => some (a ++ b)
    | _, _ => none
  | [] => by
    rw [List.nil_append, flO_cons]
    cases lstP v <;> simp [flO]
  | q :: r => by
    rw [List.cons_append, flO_cons, flO_cons, flO_snoc v r]
    cases lstP q <;> cases flO r <;> cases lstP v <;> simp
theorem flO_take (l : List (List UInt8)) (i : Nat) (v : List UInt8) (a b : List (List UInt8)) (h : l[i]? = some v) (ha : flO (l.take i) = some a) (hb : lstP v = some b) : flO (l.take (i + 1)) = some (a ++ b) := by
  rw [List.take_add_one, h, Option.toList_some, flO_snoc, ha, hb]
theorem flO_bad (v : List UInt8) (hb : lstP v = none) : ∀ (l : List (List UInt8)) (i : Nat), l[i]? = some v → flO l = none
  | [], i, h => by simp at h
  | q :: r, 0, h => by
    obtain rfl : q = v := by simpa using h
    rw [flO_cons, hb]
  | q :: r, i + 1, h => by
    have := flO_bad v hb r i (by simpa using h)
    rw [flO_cons, this]
    cases lstP q <;> rfl
theorem lstF_size : ∀ (f : Nat) (cur l : List UInt8) (all : List (List UInt8)), lstF f cur l = some all → all.length ≤ l.length + 1
  | 0, cur, l, all, h => by
    have h : some [cur] = some all := h
    injection h with h; subst h; simp
  | f + 1, cur, [], all, h => by
    have h : some [cur] = some all := h
    injection h with h; subst h; simp
  | f + 1, cur, c :: r, all, h => by
    rw [lstF.eq_def] at h
    simp only at h
    by_cases h1 : c = 34
    · rw [if_pos h1] at h
      cases hu : unq (c :: r) with
      | none => rw [hu] at h; cases h
      | some q =>
        obtain ⟨x, n⟩ := q
        rw [hu] at h
        have := lstF_size f _ _ all h
        rw [List.length_drop] at this
        omega
    · rw [if_neg h1] at h
      by_cases h2 : c = 44
      · rw [if_pos h2] at h
        obtain ⟨q, hq, he⟩ := Option.map_eq_some_iff.1 h
        have := lstF_size f _ _ q hq
        subst he
        simp only [List.length_cons]; omega
      · rw [if_neg h2] at h
        have := lstF_size f _ _ all h
        simp only [List.length_cons]; omega
theorem lstP_size (l : List UInt8) (xs : List (List UInt8)) (h : lstP l = some xs) : xs.length ≤ l.length + 1 := by
  unfold lstP lstR at h
  obtain ⟨q, hq, he⟩ := Option.map_eq_some_iff.1 h
  have := lstF_size _ _ _ q hq
  subst he
  exact Nat.le_trans (fulls_len q) this
theorem flO_size : ∀ (l : List (List UInt8)) (xs : List (List UInt8)), flO l = some xs → xs.length ≤ (l.map List.length).sum + l.length
  | [], xs, h => by
    have h : some [] = some xs := h
    injection h with h; subst h; simp
  | v :: r, xs, h => by
    rw [flO_cons] at h
    cases hv : lstP v with
    | none => rw [hv] at h; cases h
    | some a =>
      cases hr : flO r with
      | none => rw [hv, hr] at h; cases h
      | some b =>
        rw [hv, hr] at h
        have h : some (a ++ b) = some xs := h
        injection h with h; subst h
        have h1 := lstP_size v a hv
        have h2 := flO_size r b hr
        simp only [List.length_append, List.map_cons, List.sum_cons, List.length_cons]
        omega
theorem lstF_el : ∀ (f : Nat) (cur l : List UInt8) (all : List (List UInt8)), lstF f cur l = some all → ∀ x ∈ all, x.length ≤ cur.length + l.length
  | 0, cur, l, all, h, x, hx => by
    have h : some [cur] = some all := h
    injection h with h; subst h; rw [List.mem_singleton] at hx; subst hx; omega
  | f + 1, cur, [], all, h, x, hx => by
    have h : some [cur] = some all := h
    injection h with h; subst h; rw [List.mem_singleton] at hx; subst hx; omega
  | f + 1, cur, c :: r, all, h, x, hx => by
    rw [lstF.eq_def] at h
    simp only at h
    by_cases h1 : c = 34
    · rw [if_pos h1] at h
      cases hu : unq (c :: r) with
      | none => rw [hu] at h; cases h
      | some q =>
        obtain ⟨y, n⟩ := q
        rw [hu] at h
        have := lstF_el f _ _ all h x hx
        rw [List.length_drop, List.length_append, List.length_take] at this
        omega
    · rw [if_neg h1] at h
      by_cases h2 : c = 44
      · rw [if_pos h2] at h
        obtain ⟨q, hq, he⟩ := Option.map_eq_some_iff.1 h
        subst he
        rcases List.mem_cons.1 hx with rfl | hx
        · omega
        · have := lstF_el f _ _ q hq x hx
          simp only [List.length_cons, List.length_nil] at this ⊢; omega
      · rw [if_neg h2] at h
        have := lstF_el f _ _ all h x hx
        simp only [List.length_append, List.length_cons, List.length_nil] at this ⊢; omega
theorem lst_el (l : List UInt8) (xs : List (List UInt8)) (h : lstP l = some xs) (x : List UInt8) (hx : x ∈ xs) : x.length ≤ l.length := by
  unfold lstP lstR at h
  obtain ⟨q, hq, he⟩ := Option.map_eq_some_iff.1 h
  subst he
  unfold fulls at hx
  obtain ⟨y, hy, rfl⟩ := List.mem_map.1 (List.mem_filter.1 hx).1
  have := lstF_el _ _ _ q hq y hy
  have h2 := trimL_len y
  simp only [List.length_nil] at this
  omega
theorem sum_take (l : List (List UInt8)) (i : Nat) : ((l.take i).map List.length).sum ≤ (l.map List.length).sum := by
  induction l generalizing i with
  | nil => simp
  | cons a r ih =>
    cases i with
    | zero => simp
    | succ i => simp only [List.take_succ_cons, List.map_cons, List.sum_cons]; have := ih i; omega
theorem sum_get (l : List (List UInt8)) (i : Nat) (v : List UInt8) (h : l[i]? = some v) : v.length ≤ (l.map List.length).sum := by
  induction l generalizing i with
  | nil => simp at h
  | cons a r ih =>
    cases i with
    | zero =>
      obtain rfl : a = v := by simpa using h
      simp
    | succ i => have := ih i (by simpa using h); simp only [List.map_cons, List.sum_cons]; omega
/-- The tokens of a name's elements, with small letters. -/
def tkO (l : List (List UInt8)) : Option (List (List UInt8)) := match flO l with
  | none => none
  | some xs => if xs.all isTok then some (xs.map lowL) else none
def hasF (l : List Fld) (n t : List UInt8) : Bool := match tkO (allF n l) with
  | none => false
  | some xs => xs.any fun x => lowL t == x
/-- The first i made small. -/
def lowMx (ps : List (List UInt8)) (i : Nat) : List (List UInt8) := (ps.take i).map lowL ++ ps.drop i
theorem lowMx_zero (ps : List (List UInt8)) : lowMx ps 0 = ps := by simp [lowMx]
theorem lowMx_all (ps : List (List UInt8)) : lowMx ps ps.length = ps.map lowL := by simp [lowMx]
theorem lowMx_len (ps : List (List UInt8)) (i : Nat) : (lowMx ps i).length = ps.length := by
  unfold lowMx; rw [List.length_append, List.length_map, List.length_take, List.length_drop]; omega
theorem lowMx_at (ps : List (List UInt8)) (i : Nat) (p : List UInt8) (h : ps[i]? = some p) : (lowMx ps i)[i]? = some p := by
  have hl : i < ps.length := (List.getElem?_eq_some_iff.1 h).1
  unfold lowMx
  rw [List.getElem?_append_right (by rw [List.length_map, List.length_take]; omega), List.length_map, List.length_take, List.getElem?_drop, show i + (i - min i ps.length) = i from by omega]
  exact h
theorem lowMx_step (ps : List (List UInt8)) (i : Nat) (p : List UInt8) (h : ps[i]? = some p) : (lowMx ps i).set i (lowL p) = lowMx ps (i + 1) := by
  have hl : i < ps.length := (List.getElem?_eq_some_iff.1 h).1
  have hk : (List.map lowL (ps.take i)).length = i := by rw [List.length_map, List.length_take]; omega
  unfold lowMx
  rw [List.set_append_right _ _ (by omega), hk, Nat.sub_self]
  have hd : ps.drop i = p :: ps.drop (i + 1) := by
    obtain ⟨hlt, he⟩ := List.getElem?_eq_some_iff.1 h
    rw [List.drop_eq_getElem_cons hlt, he]
  rw [hd, List.set_cons_zero, List.take_add_one, h, List.map_append]
  simp
theorem strV_set (xs : List (List UInt8)) (i : Nat) (t : List UInt8) : (strV xs).set i (.string ⟨t.toArray⟩) = strV (xs.set i t) := by
  unfold strV; rw [List.map_set]
/-- A text made small in its place. -/
theorem own_low {w : World} {base g n cap : Nat} {e : TypeId} {ps : List (List UInt8)} {i : Nat} {p : List UInt8} (h : w.ownsRow base e 1 (.slice (some ⟨g, 0, none⟩) n cap) n (strV (lowMx ps i))) (hp : ps[i]? = some p) :
    (w.setCell ⟨g, i, none⟩ (.string ⟨(lowL p).toArray⟩)).ownsRow base e 1 (.slice (some ⟨g, 0, none⟩) n cap) n (strV (lowMx ps (i + 1))) ∧ w.grownBy (w.setCell ⟨g, i, none⟩ (.string ⟨(lowL p).toArray⟩)) (some g) := by
  have hst := h.stored i (.string ⟨(lowL p).toArray⟩)
  rw [strV_set, lowMx_step ps i p hp] at hst
  exact hst
end Go.Proofs.YtdlpbpikhmciaaaGreatDoor
namespace Go.Proofs.YtdlpbpikhmciaaaGreatDoor
open Go.RowKit
set_option linter.unusedSimpArgs false
set_option linter.unusedVariables false
set_option maxRecDepth 1000000
theorem ad (b o j : Nat) : (⟨b, o, none⟩ : Addr).add j = ⟨b, o + j, none⟩ := by unfold Addr.add; split <;> simp_all
theorem own_cellAt {w : World} {base : Nat} {e : TypeId} {size : Nat} {g n cap : Nat} {xs : List Value} (h : w.ownsRow base e size (.slice (some ⟨g, 0, none⟩) n cap) n xs) (j : Nat) (u : Value) (hj : xs[j]? = some u) : w.cell? ⟨g, j, none⟩ = some u := by
  have := h.cells (g := g) rfl j u hj
  rwa [ad, Nat.zero_add] at this
theorem own_base {w : World} {base base' : Nat} {e : TypeId} {size : Nat} {v : Value} {n : Nat} {xs : List Value} (h : w.ownsRow base e size v n xs) (hb : base' ≤ base) : w.ownsRow base' e size v n xs :=
  ⟨h.1, h.2.imp id (fun ⟨g, cap, cur, a, b, c⟩ => ⟨g, cap, cur, a, Nat.le_trans hb b, c⟩)⟩
def TxtAt (w : World) (ao : Option Addr) (l : List (List UInt8)) : Prop := ∀ i p, l[i]? = some p → ∃ b o, ao = some ⟨b, o, none⟩ ∧ b < w.heap.size ∧ w.cell? ⟨b, o + i, none⟩ = some (.string ⟨p.toArray⟩)
theorem TxtAt.below {w w' : World} {ao : Option Addr} {l : List (List UInt8)} (h : TxtAt w ao l) (hb : Below w.heap.size w w') : TxtAt w' ao l := fun i m hm => by
  obtain ⟨b, o, e, lt, hc⟩ := h i m hm
  exact ⟨b, o, e, Nat.lt_of_lt_of_le lt hb.size, by rw [hb.cell (p := ⟨b, o + i, none⟩) lt]; exact hc⟩
def TxtsIn (w : World) (v : Value) (l : List (List UInt8)) : Prop := ∃ ao cap, v = .slice ao l.length cap ∧ TxtAt w ao l
theorem TxtsIn.below {w w' : World} {v : Value} {l : List (List UInt8)} (h : TxtsIn w v l) (hb : Below w.heap.size w w') : TxtsIn w' v l := by
  obtain ⟨ao, cap, rfl, h⟩ := h
  exact ⟨ao, cap, rfl, h.below hb⟩
theorem txtsIn_own {w : World} {base : Nat} {T : TypeId} {v : Value} {l : List (List UInt8)} (hown : w.ownsRow base T 1 v l.length (strV l)) : TxtsIn w v l := by
  rcases hown.2 with ⟨rfl, h0⟩ | ⟨g, cap, cur, rfl, hb, hg, _⟩
  · obtain rfl := List.eq_nil_of_length_eq_zero h0
    exact ⟨none, 0, rfl, fun i p hp => by simp at hp⟩
  · have hlt : g < w.heap.size := (Array.getElem?_eq_some_iff.1 hg).1
    refine ⟨_, cap, rfl, fun i p hp => ⟨g, 0, rfl, hlt, ?_⟩⟩
    rw [Nat.zero_add]
    exact own_cellAt hown i _ (by simp [strV, hp])
end Go.Proofs.YtdlpbpikhmciaaaGreatDoor
namespace Go.Proofs.YtdlpbpikhmciaaaGreatDoor
open Go.RowKit
set_option linter.unusedSimpArgs false
set_option linter.unusedVariables false
set_option maxRecDepth 1000000
/-- What List answers. -/
def lsR (L : List UInt8) : List (List UInt8) × Nat := match lstP L with
  | some xs => (xs, 0)
  | none => ([], 14)
theorem lsR_none (L : List UInt8) (h : lstR [] L = none) : lsR L = ([], 14) := by unfold lsR lstP; rw [h]; rfl
theorem lsR_some (L : List UInt8) (all : List (List UInt8)) (h : lstR [] L = some all) : lsR L = (fulls all, 0) := by unfold lsR lstP; rw [h]; rfl
/-- What stands between two places. -/
def btw (L : List UInt8) (fr a : Nat) : List UInt8 := (L.drop fr).take (a - fr)
theorem btw_len (L : List UInt8) (fr a : Nat) : (btw L fr a).length ≤ L.length := by unfold btw; rw [List.length_take, List.length_drop]; omega
def LstR (L : List UInt8) (fr a : Nat) (done : List (List UInt8)) : Prop := fr ≤ a ∧ a ≤ L.length ∧ done.length ≤ fr ∧ (lstR (btw L fr a) (L.drop a)).map (done ++ ·) = lstR [] L ∧ ∀ x ∈ done, x.length ≤ L.length
theorem LstR.start (L : List UInt8) : LstR L 0 0 [] := by
  refine ⟨Nat.le_refl _, Nat.zero_le _, Nat.le_refl _, ?_, fun x hx => absurd hx (by simp)⟩
  rw [List.drop_zero, show btw L 0 0 = [] from rfl]
  cases lstR [] L <;> simp
theorem drop_at_c (L : List UInt8) (a : Nat) (c : UInt8) (h : L[a]? = some c) : L.drop a = c :: L.drop (a + 1) := by
  obtain ⟨hl, he⟩ := List.getElem?_eq_some_iff.1 h
  rw [List.drop_eq_getElem_cons hl, he]
theorem btw_add (L : List UInt8) (fr a n : Nat) (h : fr ≤ a) : btw L fr (a + n) = btw L fr a ++ (L.drop a).take n := by
  unfold btw
  rw [show a + n - fr = (a - fr) + n from by omega, List.take_add, List.drop_drop, show fr + (a - fr) = a from by omega]
theorem btw_end (L : List UInt8) (fr : Nat) : btw L fr L.length = L.drop fr := by
  unfold btw
  rw [List.take_of_length_le (by rw [List.length_drop]; omega)]
theorem LstR.fin {L : List UInt8} {fr : Nat} {done : List (List UInt8)} (h : LstR L fr L.length done) : lstR [] L = some (done ++ [L.drop fr]) := by
  have := h.2.2.2.1
  rw [List.drop_of_length_le (Nat.le_refl _), lstR_nil, btw_end] at this
  exact this.symm
theorem LstR.other {L : List UInt8} {fr a : Nat} {done : List (List UInt8)} {c : UInt8} (h : LstR L fr a done) (hc : L[a]? = some c) (h1 : c ≠ 34) (h2 : c ≠ 44) : LstR L fr (a + 1) done := by
  have hl : a < L.length := (List.getElem?_eq_some_iff.1 hc).1
  refine ⟨Nat.le_succ_of_le h.1, hl, h.2.2.1, ?_, h.2.2.2.2⟩
  rw [← h.2.2.2.1, btw_add L fr a 1 h.1, drop_at_c L a c hc, lstR_other _ _ c h1 h2]
  rfl
theorem LstR.quote {L : List UInt8} {fr a n : Nat} {done : List (List UInt8)} {x : List UInt8} (h : LstR L fr a done) (hc : L[a]? = some 34) (hu : unq (L.drop a) = some (x, n)) : LstR L fr (a + n) done ∧ 0 < n := by
  have hl : a < L.length := (List.getElem?_eq_some_iff.1 hc).1
  have hn := unq_used _ _ _ hu
  rw [List.length_drop] at hn
  refine ⟨⟨Nat.le_trans h.1 (Nat.le_add_right _ _), by omega, h.2.2.1, ?_, h.2.2.2.2⟩, hn.1⟩
  rw [← h.2.2.2.1, btw_add L fr a n h.1, ← List.drop_drop]
  rw [drop_at_c L a 34 hc] at hu ⊢
  rw [lstR_quote _ _ x n hu]
theorem LstR.bad {L : List UInt8} {fr a : Nat} {done : List (List UInt8)} (h : LstR L fr a done) (hc : L[a]? = some 34) (hu : unq (L.drop a) = none) : lstR [] L = none := by
  have := h.2.2.2.1
  rw [drop_at_c L a 34 hc] at hu this
  rw [lstR_bad _ _ hu] at this
  exact this.symm
theorem LstR.comma {L : List UInt8} {fr a : Nat} {done : List (List UInt8)} (h : LstR L fr a done) (hc : L[a]? = some 44) : LstR L (a + 1) (a + 1) (done ++ [btw L fr a]) := by
  have hl : a < L.length := (List.getElem?_eq_some_iff.1 hc).1
  refine ⟨Nat.le_refl _, hl, by rw [List.length_append, List.length_singleton]; have := h.1; have := h.2.2.1; omega, ?_, fun x hx => ?_⟩
  rotate_left
  · rcases List.mem_append.1 hx with hx | hx
    · exact h.2.2.2.2 x hx
    · rw [List.mem_singleton] at hx
      subst hx
      exact btw_len _ _ _
  rw [← h.2.2.2.1, drop_at_c L a 44 hc, lstR_comma, show btw L (a + 1) (a + 1) = [] from by unfold btw; rw [Nat.sub_self, List.take_zero]]
  cases lstR [] (L.drop (a + 1)) <;> simp
theorem btw_ext (s : ByteArray) (fr a : Nat) : s.extract fr a = ⟨(btw s.data.toList fr a).toArray⟩ := ext_mk s fr a
theorem fulls_take (l : List (List UInt8)) (i : Nat) (x : List UInt8) (h : l[i]? = some x) : fulls (l.take (i + 1)) = fulls (l.take i) ++ if trimL x = [] then [] else [trimL x] := by
  rw [List.take_add_one, h, Option.toList_some, fulls_snoc]
theorem infoStr7 : (Tryz.prog.info? 9).map (fun i => (i.zero, i.size, i.bytes)) = some (some (.string ByteArray.empty), 1, 16) := by kernel_rfl
theorem info_partsS7 (h : (Tryz.prog.info? 9).map (fun i => (i.zero, i.size, i.bytes)) = some (some (.string ByteArray.empty), 1, 16)) : ∃ i, Tryz.prog.info? 9 = some i ∧ i.zero = some (.string ByteArray.empty) ∧ i.size = 1 ∧ i.bytes = 16 := by
  obtain ⟨i, hi, he⟩ := Option.map_eq_some_iff.1 h
  simp only [Prod.mk.injEq] at he
  exact ⟨i, hi, he.1, he.2.1, he.2.2⟩
theorem str_bd7 (n m : Nat) (h : n ≤ m) (hm : m ≤ 1073741825) : n + 1 ≤ maxLen ∧ (n + 1) * 16 ≤ 140737488355328 := by unfold maxLen; omega
theorem fulls_tlen (l : List (List UInt8)) (i : Nat) : (fulls (l.take i)).length ≤ i := Nat.le_trans (fulls_len _) (by rw [List.length_take]; exact Nat.min_le_left _ _)
theorem sm31 (n m : Nat) (h : n ≤ m) (h2 : m ≤ 1073741825) : n ≤ 2199023255552 := by omega
theorem w64le7 (p : Nat) (h : p ≤ 4398046511104) : wrap64 (p : Int) = (p : Int) ∧ IntKind.i64.wrap (p : Int) = (p : Int) := by
  constructor
  · unfold wrap64; omega
  · rw [IntKind.wrap_i64]; omega
def LsPost (L : List UInt8) (w : World) (e : Ending) (w' : World) : Prop := ∃ v, e = .returned (.tuple #[v, .int .i64 ((lsR L).2 : Nat)]) ∧ w'.ownsRow w.heap.size 9 1 v (lsR L).1.length (strV (lsR L).1) ∧ Below w.heap.size w w'
set_option maxHeartbeats 16000000 in
theorem olist_any (s : ByteArray) (w : World) (hs : s.size ≤ 1073741824) : Calls Tryz.prog 211 #[.string s] w (LsPost s.data.toList w) := by
  have hs2 : s.size ≤ 1099511627776 := Nat.le_trans hs (by decide)
  obtain ⟨i0, hi0, hz0, hz1, hz2⟩ := info_partsS7 infoStr7
  go_enter Tryz.func211, Tryz.ntmps211
  go_wp2
  go_step3
  go_wp2
  go_step3
  go_wp2
  go_loopw [6, 5, 4] (fun av fv ov wr => ∃ (a fr : Nat) (done : List (List UInt8)), av = .int .i64 a ∧ fv = .int .i64 fr ∧ LstR s.data.toList fr a done ∧ wr.ownsRow w.heap.size 9 1 ov done.length (strV done) ∧ Below w.heap.size w wr) (fun av _ _ _ => s.size - (intOf av).toNat)
  case atStart => exact ⟨0, 0, [], rfl, rfl, LstR.start _, World.ownsRow_nil _ _ _ _, Below.refl _ _⟩
  case round =>
    obtain ⟨a, fr, done, rfl, rfl, hR, hown, hb⟩ := hrel
    have has : a ≤ s.size := by have := hR.2.1; rw [size_list] at this; exact this
    have hdn : done.length ≤ s.size := Nat.le_trans hR.2.2.1 (Nat.le_trans hR.1 has)
    have hbd := str_bd7 done.length s.size hdn (Nat.le_trans hs (by decide))
    have f0 : (0 : Int) ≤ (fr : Int) := Int.natCast_nonneg _
    have f1 : (fr : Int) ≤ (a : Int) := by have := hR.1; omega
    have f2 : (a : Int) ≤ (s.size : Int) := by omega
    have f3 : (fr : Int) ≤ (s.size : Int) := by omega
    have HR := Lib.hid hR; have HO := Lib.hid hown; have HB := Lib.hid hb
    have hbz := hb.size
    by_cases hlt : a < s.size
    · obtain ⟨c, hc⟩ : ∃ c, s[a]'hlt = c := ⟨_, rfl⟩
      have hget := list_get s a hlt
      rw [hc] at hget
      have k0 : (0 : Int) ≤ (a : Int) := Int.natCast_nonneg _
      have k1 : (a : Int) < (s.size : Int) := by omega
      have k2 : ((a : Int) == (s.size : Int)) = false := beq_false_of_ne (by omega)
      have hwi := wrap64_small a (Nat.le_trans has (Nat.le_trans hs (by decide)))
      have HW := Lib.hid hwi
      clear hwi hR hown hb
      by_cases h34 : c = 34
      · have b34 : ((c.toNat : Int) == 34) = true := by rw [h34]; rfl
        have hg34 : s.data.toList[a]? = some 34 := by rw [hget, h34]
        have hx3 := ext_back s a
        have hu := ounq_any ⟨(s.data.toList.drop a).toArray⟩ wr (by rw [size_mk, List.length_drop, size_list]; omega)
        rw [show (⟨(s.data.toList.drop a).toArray⟩ : ByteArray).data.toList = s.data.toList.drop a from rfl] at hu
        cases hq : unq (s.data.toList.drop a) with
        | none =>
          rw [hq, show unqRet none = .tuple #[.string ⟨#[]⟩, .int .i64 0, .int .i64 13] from rfl] at hu
          have HU := Lib.hid hu
          have HN := Lib.hid (lsR_none _ (HR.out.bad hg34 hq))
          clear hu hq hg34 hget h34
          go_wp2_with fail
          refine (HU.out).mono ?_
          rintro e w1 ⟨rfl, hb1⟩
          have HB1 := Lib.hid (HB.out.trans (hb1.mono HB.out.size))
          clear hb1
          go_wp2
          rw [Exit.noGoto_ret]
          go_ret2
          unfold LsPost
          rw [HN.out]
          exact ⟨_, rfl, World.ownsRow_nil _ _ _ _, HB1.out⟩
        | some xn =>
          obtain ⟨x, n⟩ := xn
          rw [hq, show unqRet (some (x, n)) = .tuple #[.string ⟨x.toArray⟩, .int .i64 (n : Int), .int .i64 0] from rfl] at hu
          have HU := Lib.hid hu
          have hst := HR.out.quote hg34 hq
          have hn1 : a + n ≤ s.size := by have := hst.1.2.1; rw [size_list] at this; exact this
          obtain ⟨a1, ha1⟩ : ∃ a1, a + n = a1 := ⟨_, rfl⟩
          have fn : (a : Int) + (n : Int) = (a1 : Int) := by omega
          have hnp := hst.2
          have hm : s.size - a1 < s.size - a := by omega
          rw [ha1] at hst
          have hw1 : wrap64 (a1 : Int) = (a1 : Int) ∧ IntKind.i64.wrap (a1 : Int) = (a1 : Int) := w64le7 a1 (by rw [← ha1]; exact Nat.le_trans hn1 (Nat.le_trans hs (by decide)))
          obtain ⟨hwa, hwb⟩ := hw1
          have HST := Lib.hid (And.intro hst.1 hm)
          clear hu hq hg34 hget h34 hst hn1 hnp ha1 hm
          go_wp2_with fail
          refine (HU.out).mono ?_
          rintro e w1 ⟨rfl, hb1⟩
          have HB1 := Lib.hid (HB.out.trans (hb1.mono HB.out.size))
          have HO1 := Lib.hid (own_later HO.out hb1)
          clear hb1
          go_wp2
          go_roundw
          case rel => exact ⟨a1, fr, done, rfl, rfl, HST.out.1, HO1.out, HB1.out⟩
          case measure => have := HST.out.2; simp [intOf]; omega
      · have b34 : ((c.toNat : Int) == 34) = false := (ne_u8o c 34 (by decide) h34).1
        by_cases h44 : c = 44
        · have b44 : ((c.toNat : Int) == 44) = true := by rw [h44]; rfl
          have HST := Lib.hid (HR.out.comma (by rw [hget, h44]))
          have hx := btw_ext s fr a
          obtain ⟨cur, hcur⟩ : ∃ x, btw s.data.toList fr a = x := ⟨_, rfl⟩
          rw [hcur] at hx HST
          clear h34 h44 hget hcur
          go_wp2_with (at_builtin; refine wpList_append_own _ rfl (.tmp 43) (.tmp 48) 104 rfl w.heap.size 9 i0 (.string ByteArray.empty) 1 16 Tryz.underlying104 hi0 hz0 hz1 hz2 rfl (by decide) _ _ _ rfl (HO.out.alloc _) ⟨wr.heap.size, 0, none⟩ 1 1 [.string ⟨cur.toArray⟩] rfl rfl (cells_new wr 9 _) (by simp [Value.oneCell']) hbd.1 hbd.2 ?dd ?_)
          case dd => simp; omega
          intro v1 w4 hI1 hg1 _
          have hb4 : Below w.heap.size w w4 := (HB.out.alloc hbz _).grown hg1 (by simp; omega) (fun k hk => (HO.out.lt k hk).1)
          have HI1 := Lib.hid hI1; have HB4 := Lib.hid hb4
          clear hI1 hg1 hb4
          go_wp2
          have hwi := HW.out
          go_roundw
          case rel => (try rw [hwi]); clear hwi; exact ⟨a + 1, a + 1, done ++ [cur], by go_num, by go_num, HST.out, by rw [strV_snoc, List.length_append]; exact HI1.out, HB4.out⟩
          case measure => (try rw [hwi]); clear hwi; simp [intOf]; omega
        · have b44 : ((c.toNat : Int) == 44) = false := (ne_u8o c 44 (by decide) h44).1
          have HST := Lib.hid (HR.out.other hget h34 h44)
          clear h34 h44 hget
          go_wp2
          have hwi := HW.out
          go_roundw
          case rel => (try rw [hwi]); clear hwi; exact ⟨a + 1, fr, done, by go_num, rfl, HST.out, HO.out, HB.out⟩
          case measure => (try rw [hwi]); clear hwi; simp [intOf]; omega
    · obtain rfl : s.size = a := by omega
      have hfin := LstR.fin (L := s.data.toList) (fr := fr) (done := done) (by rw [size_list]; exact hR)
      have hel : ∀ x ∈ done ++ [s.data.toList.drop fr], x.length ≤ 1099511627776 := fun x hx => by
        rcases List.mem_append.1 hx with hx | hx
        · have := hR.2.2.2.2 x hx; rw [size_list] at this; omega
        · rw [List.mem_singleton] at hx; subst hx; rw [List.length_drop, size_list]; omega
      have hx := ext_back s fr
      obtain ⟨last, hlast⟩ : ∃ x, s.data.toList.drop fr = x := ⟨_, rfl⟩
      rw [hlast] at hx hfin hel
      have k2 : ((s.size : Int) == (s.size : Int)) = true := by simp
      obtain ⟨all, hall⟩ : ∃ x, done ++ [last] = x := ⟨_, rfl⟩
      have hal : all.length = done.length + 1 := by rw [← hall, List.length_append, List.length_singleton]
      have hN1 : all.length ≤ 1073741825 := by omega
      rw [hall] at hfin hel
      have HN := Lib.hid (lsR_some _ all hfin); have HEL := Lib.hid hel; have HAL := Lib.hid (And.intro hall hal)
      clear hR hown hb hfin hel hlast hall hal
      go_wp2_with (at_builtin; refine wpList_append_own _ rfl (.tmp 53) (.tmp 57) 104 rfl w.heap.size 9 i0 (.string ByteArray.empty) 1 16 Tryz.underlying104 hi0 hz0 hz1 hz2 rfl (by decide) _ _ _ rfl (HO.out.alloc _) ⟨wr.heap.size, 0, none⟩ 1 1 [.string ⟨last.toArray⟩] rfl rfl (cells_new wr 9 _) (by simp [Value.oneCell']) hbd.1 hbd.2 ?dd ?_)
      case dd => simp; omega
      intro v1 w4 hI1 hg1 _
      have hb4 : Below w.heap.size w w4 := (HB.out.alloc hbz _).grown hg1 (by simp; omega) (fun k hk => (HO.out.lt k hk).1)
      have hI2 : w4.ownsRow w.heap.size 9 1 v1 all.length (strV all) := by rw [HAL.out.2, ← HAL.out.1, strV_snoc]; exact hI1
      obtain ⟨ao, cap, rfl, hat⟩ := txtsIn_own hI2
      have HAT := Lib.hid hat; have HB4 := Lib.hid hb4
      clear hI1 hg1 hb4 hI2 hat
      go_wp2
      go_loopw [60, 10] (fun iv ov wr => ∃ i : Nat, iv = .int .i64 i ∧ i ≤ all.length ∧ wr.ownsRow w4.heap.size 9 1 ov (fulls (all.take i)).length (strV (fulls (all.take i))) ∧ Below w4.heap.size w4 wr) (fun iv _ _ => all.length - (intOf iv).toNat)
      case atStart => exact ⟨0, rfl, Nat.zero_le _, World.ownsRow_nil _ _ _ _, Below.refl _ _⟩
      case round =>
        obtain ⟨i, rfl, hi, hown, hb⟩ := hrel
        by_cases hil : i < all.length
        · obtain ⟨x, hxi⟩ : ∃ x, all[i]? = some x := ⟨_, List.getElem?_eq_getElem hil⟩
          obtain ⟨g, o, rfl, _, c0⟩ := HAT.out.below hb i x hxi
          have hxl := HEL.out x (List.mem_of_getElem? hxi)
          have i0' : (0 : Int) ≤ (i : Int) := Int.natCast_nonneg _
          have i1 : (i : Int) < (all.length : Int) := by omega
          have hwi := wrap64_small i (sm31 i _ hi hN1)
          have hft := fulls_take all i x hxi
          have hfl : (fulls (all.take i)).length ≤ i := fulls_tlen all i
          have hbd2 := str_bd7 (fulls (all.take i)).length all.length (Nat.le_trans hfl hi) hN1
          have htr := otrim_any ⟨x.toArray⟩ wr (by rw [size_mk]; exact hxl)
          rw [show (⟨x.toArray⟩ : ByteArray).data.toList = x from rfl] at htr
          obtain ⟨t, ht⟩ : ∃ t, trimL x = t := ⟨_, rfl⟩
          rw [ht] at htr hft
          have HT := Lib.hid htr; have HO2 := Lib.hid hown; have HBX := Lib.hid hb; have HW2 := Lib.hid hwi
          clear htr hown hb hwi hxl hxi ht hfl
          by_cases hte : t = []
          · rw [if_pos hte, List.append_nil] at hft
            have HFT := Lib.hid hft
            have hbe : (t == []) = true := by rw [hte]; rfl
            subst hte
            clear hft
            go_wp2_with fail
            refine (HT.out).mono ?_
            rintro e w5 ⟨rfl, hb5⟩
            have HB5 := Lib.hid (HBX.out.trans (hb5.mono HBX.out.size))
            have HO5 := Lib.hid (own_later HO2.out hb5)
            clear hb5 c0
            go_wp2
            have hwi := HW2.out
            go_roundw
            case rel => (try rw [hwi]); clear hwi; exact ⟨i + 1, by go_num, hil, by rw [HFT.out]; exact HO5.out, HB5.out⟩
            case measure => (try rw [hwi]); clear hwi; simp [intOf]; omega
          · rw [if_neg hte] at hft
            have HFT := Lib.hid hft
            have hbe : (t == []) = false := beq_false_of_ne hte
            have hbe2 : t.isEmpty = false := by cases t with | nil => exact absurd rfl hte | cons => rfl
            clear hft
            go_wp2_with fail
            refine (HT.out).mono ?_
            rintro e w5 ⟨rfl, hb5⟩
            have hb5' := HBX.out.trans (hb5.mono HBX.out.size)
            have hbz5 : w4.heap.size ≤ w5.heap.size := hb5'.size
            have HB5 := Lib.hid hb5'
            have HO5 := Lib.hid (own_later HO2.out hb5)
            clear hb5 c0 hb5'
            go_wp2_with (at_builtin; refine wpList_append_own _ rfl (.tmp 68) (.tmp 70) 104 rfl w4.heap.size 9 i0 (.string ByteArray.empty) 1 16 Tryz.underlying104 hi0 hz0 hz1 hz2 rfl (by decide) _ _ _ rfl (HO5.out.alloc _) ⟨w5.heap.size, 0, none⟩ 1 1 [.string ⟨t.toArray⟩] rfl rfl (cells_new w5 9 _) (by simp [Value.oneCell']) hbd2.1 hbd2.2 ?dd ?_)
            case dd => simp; omega
            intro v2 w6 hI6 hg6 _
            have hb6 : Below w4.heap.size w4 w6 := (HB5.out.alloc hbz5 _).grown hg6 (alloc_le hbz5 _) (fun k hk => (HO5.out.lt k hk).1)
            have HI6 := Lib.hid hI6; have HB6 := Lib.hid hb6
            clear hI6 hg6 hb6
            go_wp2
            have hwi := HW2.out
            go_roundw
            case rel => (try rw [hwi]); clear hwi; exact ⟨i + 1, by go_num, hil, by rw [HFT.out, strV_snoc, List.length_append]; exact HI6.out, HB6.out⟩
            case measure => (try rw [hwi]); clear hwi; simp [intOf]; omega
        · obtain rfl : all.length = i := by omega
          have hd : decide (all.length < all.length) = false := decide_eq_false (Nat.lt_irrefl _)
          rw [List.take_length] at hown
          have HO2 := Lib.hid (own_base hown HB4.out.size)
          have HBX := Lib.hid (HB4.out.trans (hb.mono HB4.out.size))
          clear hown hb
          go_wp2
          rw [Exit.noGoto_ret]
          go_ret2
          unfold LsPost
          rw [HN.out]
          exact ⟨_, rfl, HO2.out, HBX.out⟩
end Go.Proofs.YtdlpbpikhmciaaaGreatDoor
