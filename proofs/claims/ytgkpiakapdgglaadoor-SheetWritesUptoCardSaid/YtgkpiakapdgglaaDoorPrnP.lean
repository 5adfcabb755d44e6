/- Pairs of a body: read, written, and that what was written is read back; plain functions. No program is named. No conditions. -/
import Derived.Test.YtgkpiakapdgglaaDoorSplP
import Derived.Test.YtgkpiakapdgglaaDoorParM
namespace Go.Proofs.YtgkpiakapdgglaaDoor
open Go.RowKit
set_option linter.unusedSimpArgs false
set_option linter.unusedVariables false
/-- A text of a pair, decoded. -/
def spc (l : List UInt8) : List UInt8 := (pdec (swapL 43 32 l)).1
/-- A piece as a pair. -/
def parOf (p : List UInt8) : Par := (spc (Lib.cut p [61]).1, spc (Lib.cut p [61]).2.1, (Lib.cut p [61]).2.2)
def parsOf : List (List UInt8) → List Par
  | [] => []
  | p :: r => if p = [] then parsOf r else parOf p :: parsOf r
/-- The pairs of a body, or the place that is wrong. -/
def prsP (l : List UInt8) : List Par × Nat × Nat := if (pdec l).2.2 ≠ 0 then ([], (pdec l).2.1, 51) else (parsOf (Lib.split l [38]), 0, 0)
/-- Stands for itself. -/
def stn (c : UInt8) : Bool := (97 ≤ c.toNat && c.toNat ≤ 122) || (65 ≤ c.toNat && c.toNat ≤ 90) || (48 ≤ c.toNat && c.toNat ≤ 57) || c == 42 || c == 45 || c == 46 || c == 95
/-- A great hexadecimal digit. -/
def hxU (n : Nat) : UInt8 := if n < 10 then UInt8.ofNat (48 + n) else UInt8.ofNat (55 + n)
def cod (c : UInt8) : List UInt8 := if stn c then [c] else if c = 32 then [43] else [37, hxU (c.toNat / 16), hxU (c.toNat % 16)]
def codL (l : List UInt8) : List UInt8 := l.flatMap cod
def pieceOf (p : Par) : List UInt8 := codL p.1 ++ if p.2.2 then 61 :: codL p.2.1 else []
def joinP : List (List UInt8) → List UInt8
  | [] => []
  | [p] => p
  | p :: q :: r => p ++ 38 :: joinP (q :: r)
/-- May be written. -/
def parOk (p : Par) : Bool := p.2.2 || (p.1 != [] && p.2.1 == [])
def prnP (l : List Par) : List UInt8 × Nat := if l.all parOk then (joinP (l.map pieceOf), 0) else ([], 150)
theorem hx_all2 : ∀ n : Fin 16, (hv (hxU n.val) == some n.val && hxU n.val != 37 && hxU n.val != 38 && hxU n.val != 61 && hxU n.val != 43) = true := by decide +kernel
theorem hv_hx (n : Nat) (h : n < 16) : hv (hxU n) = some n ∧ hxU n ≠ 37 ∧ hxU n ≠ 38 ∧ hxU n ≠ 61 ∧ hxU n ≠ 43 := by
  have := hx_all2 ⟨n, h⟩
  simp only [Bool.and_eq_true, beq_iff_eq, bne_iff_ne] at this
  exact ⟨this.1.1.1.1, this.1.1.1.2, this.1.1.2, this.1.2, this.2⟩
theorem stn_all : ∀ n : Fin 256, (!stn (UInt8.ofNat n.val) || (UInt8.ofNat n.val != 37 && UInt8.ofNat n.val != 38 && UInt8.ofNat n.val != 61 && UInt8.ofNat n.val != 43 && UInt8.ofNat n.val != 32)) = true := by decide +kernel
theorem stn_ne (c : UInt8) (h : stn c = true) : c ≠ 37 ∧ c ≠ 38 ∧ c ≠ 61 ∧ c ≠ 43 ∧ c ≠ 32 := by
  have := stn_all ⟨c.toNat, c.toBitVec.isLt⟩
  rw [show UInt8.ofNat (⟨c.toNat, c.toBitVec.isLt⟩ : Fin 256).val = c from by simp] at this
  rw [h] at this
  simp only [Bool.not_true, Bool.false_or, Bool.and_eq_true, bne_iff_ne] at this
  exact ⟨this.1.1.1.1, this.1.1.1.2, this.1.1.2, this.1.2, this.2⟩
/-- Read as x, whatever stands behind. -/
def Good (ch x : List UInt8) : Prop := ∀ acc r i, pd acc (ch ++ r) i = pd (acc ++ x) r (i + ch.length)
theorem good_nil : Good [] [] := fun acc r i => by simp
theorem good_append {a b x y : List UInt8} (h : Good a x) (k : Good b y) : Good (a ++ b) (x ++ y) := fun acc r i => by
  rw [List.append_assoc, h, k, List.length_append, List.append_assoc, Nat.add_assoc]
theorem good_one (c : UInt8) (h : c ≠ 37) : Good [c] [c] := fun acc r i => pd_plain acc c r i h
theorem good_trip (n : Nat) (h : n < 256) : Good [37, hxU (n / 16), hxU (n % 16)] [UInt8.ofNat n] := fun acc r i => by
  have h1 := hv_hx (n / 16) (by omega)
  have h2 := hv_hx (n % 16) (by omega)
  have ht : trip (37 :: hxU (n / 16) :: hxU (n % 16) :: r) = some n := by
    simp only [trip, if_true]
    rw [h1.1, h2.1]
    simp only
    congr 1
    omega
  have := (pd_good acc ([37, hxU (n / 16), hxU (n % 16)] ++ r) i n ht).1
  rw [this]
  rfl
theorem good_cod (c : UInt8) : ∃ x, Good (cod c) [x] := by
  unfold cod
  by_cases h : stn c = true
  · rw [if_pos h]; exact ⟨c, good_one c (stn_ne c h).1⟩
  · rw [if_neg h]
    by_cases h2 : c = 32
    · rw [if_pos h2]; exact ⟨43, good_one 43 (by decide)⟩
    · rw [if_neg h2]; exact ⟨_, good_trip c.toNat c.toBitVec.isLt⟩
theorem good_codL (l : List UInt8) : ∃ x, Good (codL l) x := by
  induction l with
  | nil => exact ⟨[], good_nil⟩
  | cons c r ih =>
    obtain ⟨x, hx⟩ := good_cod c
    obtain ⟨y, hy⟩ := ih
    exact ⟨_, good_append hx hy⟩
theorem good_piece (p : Par) : ∃ x, Good (pieceOf p) x := by
  obtain ⟨x, hx⟩ := good_codL p.1
  unfold pieceOf
  by_cases h : p.2.2 = true
  · rw [if_pos h]
    obtain ⟨y, hy⟩ := good_codL p.2.1
    exact ⟨_, good_append hx (good_append (good_one 61 (by decide)) hy)⟩
  · rw [if_neg h]
    exact ⟨_, good_append hx good_nil⟩
theorem good_join (l : List (List UInt8)) (h : ∀ p ∈ l, ∃ x, Good p x) : ∃ x, Good (joinP l) x := by
  match l, h with
  | [], _ => exact ⟨[], good_nil⟩
  | [p], h => exact h p (by simp)
  | p :: q :: r, h =>
    obtain ⟨x, hx⟩ := h p (by simp)
    obtain ⟨y, hy⟩ := good_join (q :: r) (fun p hp => h p (by simp at hp ⊢; exact Or.inr hp))
    exact ⟨_, good_append hx (good_append (good_one 38 (by decide)) hy)⟩
theorem good_pdec {l x : List UInt8} (h : Good l x) : pdec l = (x, 0, 0) := by
  have := h [] [] 0
  rw [List.append_nil] at this
  unfold pdec
  rw [this]
  rfl
theorem cod_free (c d : UInt8) (h : d ∈ cod c) : d ≠ 38 ∧ d ≠ 61 := by
  unfold cod at h
  by_cases hs : stn c = true
  · rw [if_pos hs] at h
    obtain rfl : d = c := by simpa using h
    exact ⟨(stn_ne d hs).2.1, (stn_ne d hs).2.2.1⟩
  · rw [if_neg hs] at h
    by_cases h2 : c = 32
    · rw [if_pos h2] at h
      obtain rfl : d = 43 := by simpa using h
      decide
    · rw [if_neg h2] at h
      have l1 : c.toNat < 256 := c.toBitVec.isLt
      have a1 := hv_hx (c.toNat / 16) (by omega)
      have a2 := hv_hx (c.toNat % 16) (by omega)
      simp only [List.mem_cons, List.not_mem_nil, or_false] at h
      rcases h with rfl | rfl | rfl
      · decide
      · exact ⟨a1.2.2.1, a1.2.2.2.1⟩
      · exact ⟨a2.2.2.1, a2.2.2.2.1⟩
theorem codL_free (l : List UInt8) (d : UInt8) (h : d ∈ codL l) : d ≠ 38 ∧ d ≠ 61 := by
  obtain ⟨c, _, hd⟩ := List.mem_flatMap.1 h
  exact cod_free c d hd
theorem piece_free (p : Par) : ∀ d ∈ pieceOf p, d ≠ 38 := by
  intro d h
  unfold pieceOf at h
  rcases List.mem_append.1 h with h | h
  · exact (codL_free _ d h).1
  · by_cases hp : p.2.2 = true
    · rw [if_pos hp] at h
      rcases List.mem_cons.1 h with rfl | h
      · decide
      · exact (codL_free _ d h).1
    · rw [if_neg hp] at h; cases h
theorem spc_cod (l : List UInt8) : spc (codL l) = l := by
  have key : ∀ l, Good (swapL 43 32 (codL l)) l := by
    intro l
    induction l with
    | nil => exact good_nil
    | cons c r ih =>
      have e : swapL 43 32 (codL (c :: r)) = swapL 43 32 (cod c) ++ swapL 43 32 (codL r) := by simp [swapL, codL]
      rw [e]
      refine good_append (x := [c]) ?_ ih
      unfold cod
      by_cases hs : stn c = true
      · rw [if_pos hs]
        have : swapL 43 32 [c] = [c] := by simp [swapL, (stn_ne c hs).2.2.2.1]
        rw [this]; exact good_one c (stn_ne c hs).1
      · rw [if_neg hs]
        by_cases h2 : c = 32
        · subst h2; rw [if_pos rfl]; exact good_one 32 (by decide)
        · rw [if_neg h2]
          have l1 : c.toNat < 256 := c.toBitVec.isLt
          have a1 := hv_hx (c.toNat / 16) (by omega)
          have a2 := hv_hx (c.toNat % 16) (by omega)
          have : swapL 43 32 [37, hxU (c.toNat / 16), hxU (c.toNat % 16)] = [37, hxU (c.toNat / 16), hxU (c.toNat % 16)] := by simp [swapL, a1.2.2.2.2, a2.2.2.2.2]
          rw [this]
          have := good_trip c.toNat l1
          rwa [show UInt8.ofNat c.toNat = c from by simp] at this
  unfold spc
  rw [good_pdec (key l)]
theorem cut_mid (c : UInt8) (a b : List UInt8) (h : ∀ d ∈ a, d ≠ c) : Lib.cut (a ++ c :: b) [c] = (a, b, true) := by
  rw [cut_found c (a ++ c :: b) a.length (by simp) (fun j hj => by
    rw [List.getElem?_append_left hj, List.getElem?_eq_getElem hj]
    intro e; injection e with e; exact h _ (List.getElem_mem hj) e) (by simp)]
  simp [List.drop_append]
theorem cut_free (c : UInt8) (a : List UInt8) (h : ∀ d ∈ a, d ≠ c) : Lib.cut a [c] = (a, [], false) :=
  cut_none c a fun j hj => by rw [List.getElem?_eq_getElem hj]; intro e; injection e with e; exact h _ (List.getElem_mem hj) e
theorem split_join (l : List (List UInt8)) (h : ∀ p ∈ l, ∀ d ∈ p, d ≠ 38) (hn : l ≠ []) : Lib.split (joinP l) [38] = l := by
  match l, h, hn with
  | [p], h, _ =>
    rw [split_step, joinP, cut_free 38 p (h p (by simp))]
    rfl
  | p :: q :: r, h, _ =>
    rw [split_step, joinP, cut_mid 38 p _ (h p (by simp)), if_pos rfl]
    rw [split_join (q :: r) (fun p hp => h p (by simp at hp ⊢; exact Or.inr hp)) (by simp)]
theorem parOf_piece (p : Par) (h : parOk p = true) : parOf (pieceOf p) = p ∧ pieceOf p ≠ [] := by
  obtain ⟨n, v, hs⟩ := p
  unfold parOk at h
  cases hs with
  | true =>
    have e : pieceOf (n, v, true) = codL n ++ 61 :: codL v := rfl
    rw [e]
    constructor
    · unfold parOf
      rw [cut_mid 61 (codL n) (codL v) (fun d hd => (codL_free n d hd).2)]
      simp only [spc_cod]
    · simp
  | false =>
    have e : pieceOf (n, v, false) = codL n := by simp [pieceOf]
    have h2 : n ≠ [] ∧ v = [] := by simpa using h
    rw [e]
    constructor
    · unfold parOf
      rw [cut_free 61 (codL n) (fun d hd => (codL_free n d hd).2)]
      simp only [spc_cod, h2.2]
      rfl
    · intro e0
      apply h2.1
      have := spc_cod n
      rw [e0] at this
      exact this.symm
theorem parsOf_pieces (l : List Par) (h : l.all parOk = true) : parsOf (l.map pieceOf) = l := by
  induction l with
  | nil => rfl
  | cons p r ih =>
    simp only [List.all_cons, Bool.and_eq_true] at h
    rw [List.map_cons, parsOf, if_neg (parOf_piece p h.1).2, (parOf_piece p h.1).1, ih h.2]
/-- What was written is read back. -/
theorem prs_prn (l : List Par) (h : (prnP l).2 = 0) : prsP (prnP l).1 = (l, 0, 0) := by
  unfold prnP at h ⊢
  by_cases ha : l.all parOk = true
  · rw [if_pos ha]
    simp only
    obtain ⟨x, hx⟩ := good_join (l.map pieceOf) (fun p hp => by obtain ⟨q, _, rfl⟩ := List.mem_map.1 hp; exact good_piece q)
    unfold prsP
    rw [good_pdec hx, if_neg (by simp)]
    by_cases hn : l = []
    · subst hn; rfl
    · rw [split_join (l.map pieceOf) (fun p hp => by obtain ⟨q, _, rfl⟩ := List.mem_map.1 hp; exact piece_free q) (by simpa using hn), parsOf_pieces l ha]
  · rw [if_neg ha] at h; cases h
end Go.Proofs.YtgkpiakapdgglaaDoor
