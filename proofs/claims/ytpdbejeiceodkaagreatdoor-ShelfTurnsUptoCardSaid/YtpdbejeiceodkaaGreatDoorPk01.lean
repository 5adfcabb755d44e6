/- PrnP, OctP: texts of the seat, one behind the other (a claim holds at most sixty). Conditions: each theorem names its own. -/
import Derived.Test.YtpdbejeiceodkaaGreatDoorPk00
namespace Go.Proofs.YtpdbejeiceodkaaGreatDoor
open Go.RowKit
set_option linter.unusedSimpArgs false
set_option linter.unusedVariables false
/-- A text of a pair, decoded. -/
def spc (l : List UInt8) : List UInt8 := (pdec (swapL 43 32 l)).1
/-- A piece as a pair. -/
def parOf (p : List UInt8) : Par := (spc (Lib.cut p [61]).1, spc (Lib.cut p [61]).2.1, (Lib.cut p [61]).2.2)
def parsOf : List (List UInt8) → List Par
  | [] => []
  | p :: r => if p = [] then parsOf r else parOf p :: parsOf r
/-- The pairs of a body, or the place that is wrong. -/
def prsP (l : List UInt8) : List Par × Nat × Nat := if (pdec l).2.2 ≠ 0 then ([], (pdec l).2.1, 51) else (parsOf (Lib.split l [38]), 0, 0)
/-- Stands for itself. -/
def stn (c : UInt8) : Bool := (97 ≤ c.toNat && c.toNat ≤ 122) || (65 ≤ c.toNat && c.toNat ≤ 90) || (48 ≤ c.toNat && c.toNat ≤ 57) || c == 42 || c == 45 || c == 46 || c == 95
/-- A great hexadecimal digit. -/
def hxU (n : Nat) : UInt8 := if n < 10 then UInt8.ofNat (48 + n) else UInt8.ofNat (55 + n)
def cod (c : UInt8) : List UInt8 := if stn c then [c] else if c = 32 then [43] else [37, hxU (c.toNat / 16), hxU (c.toNat % 16)]
def codL (l : List UInt8) : List UInt8 := l.flatMap cod
def pieceOf (p : Par) : List UInt8 := codL p.1 ++ if p.2.2 then 61 :: codL p.2.1 else []
def joinP : List (List UInt8) → List UInt8
  | [] => []
  | [p] => p
  | p :: q :: r => p ++ 38 :: joinP (q :: r)
/-- May be written. -/
def parOk (p : Par) : Bool := p.2.2 || (p.1 != [] && p.2.1 == [])
def prnP (l : List Par) : List UInt8 × Nat := if l.all parOk then (joinP (l.map pieceOf), 0) else ([], 150)
theorem hx_all2 : ∀ n : Fin 16, (hv (hxU n.val) == some n.val && hxU n.val != 37 && hxU n.val != 38 && hxU n.val != 61 && hxU n.val != 43) = true := by decide +kernel
theorem hv_hx (n : Nat) (h : n < 16) : hv (hxU n) = some n ∧ hxU n ≠ 37 ∧ hxU n ≠ 38 ∧ hxU n ≠ 61 ∧ hxU n ≠ 43 := by
  have := hx_all2 ⟨n, h⟩
  simp only [Bool.and_eq_true, beq_iff_eq, bne_iff_ne] at this
  exact ⟨this.1.1.1.1, this.1.1.1.2, this.1.1.2, this.1.2, this.2⟩
theorem stn_all : ∀ n : Fin 256, (!stn (UInt8.ofNat n.val) || (UInt8.ofNat n.val != 37 && UInt8.ofNat n.val != 38 && UInt8.ofNat n.val != 61 && UInt8.ofNat n.val != 43 && UInt8.ofNat n.val != 32)) = true := by decide +kernel
theorem stn_ne (c : UInt8) (h : stn c = true) : c ≠ 37 ∧ c ≠ 38 ∧ c ≠ 61 ∧ c ≠ 43 ∧ c ≠ 32 := by
  have := stn_all ⟨c.toNat, c.toBitVec.isLt⟩
  rw [show UInt8.ofNat (⟨c.toNat, c.toBitVec.isLt⟩ : Fin 256).val = c from by simp] at this
  rw [h] at this
  simp only [Bool.not_true, Bool.false_or, Bool.and_eq_true, bne_iff_ne] at this
  exact ⟨this.1.1.1.1, this.1.1.1.2, this.1.1.2, this.1.2, this.2⟩
/-- Read as x, whatever stands behind. -/
def Good (ch x : List UInt8) : Prop := ∀ acc r i, pd acc (ch ++ r) i = pd (acc ++ x) r (i + ch.length)
theorem good_nil : Good [] [] := fun acc r i => by simp
theorem good_append {a b x y : List UInt8} (h : Good a x) (k : Good b y) : Good (a ++ b) (x ++ y) := fun acc r i => by
  rw [List.append_assoc, h, k, List.length_append, List.append_assoc, Nat.add_assoc]
theorem good_one (c : UInt8) (h : c ≠ 37) : Good [c] [c] := fun acc r i => pd_plain acc c r i h
theorem good_trip (n : Nat) (h : n < 256) : Good [37, hxU (n / 16), hxU (n % 16)] [UInt8.ofNat n] := fun acc r i => by
  have h1 := hv_hx (n / 16) (by omega)
  have h2 := hv_hx (n % 16) (by omega)
  have ht : trip (37 :: hxU (n / 16) :: hxU (n % 16) :: r) = some n := by
    simp only [trip, if_true]
    rw [h1.1, h2.1]
    simp only
    congr 1
    omega
  have := (pd_good acc ([37, hxU (n / 16), hxU (n % 16)] ++ r) i n ht).1
  rw [this]
  rfl
theorem good_cod (c : UInt8) : ∃ x, Good (cod c) [x] := by
  unfold cod
  by_cases h : stn c = true
  · rw [if_pos h]; exact ⟨c, good_one c (stn_ne c h).1⟩
  · rw [if_neg h]
    by_cases h2 : c = 32
    · rw [if_pos h2]; exact ⟨43, good_one 43 (by decide)⟩
    · rw [if_neg h2]; exact ⟨_, good_trip c.toNat c.toBitVec.isLt⟩
theorem good_codL (l : List UInt8) : ∃ x, Good (codL l) x := by
  induction l with
  | nil => exact ⟨[], good_nil⟩
  | cons c r ih =>
    obtain ⟨x, hx⟩ := good_cod c
    obtain ⟨y, hy⟩ := ih
    exact ⟨_, good_append hx hy⟩
theorem good_piece (p : Par) : ∃ x, Good (pieceOf p) x := by
  obtain ⟨x, hx⟩ := good_codL p.1
  unfold pieceOf
  by_cases h : p.2.2 = true
  · rw [if_pos h]
    obtain ⟨y, hy⟩ := good_codL p.2.1
    exact ⟨_, good_append hx (good_append (good_one 61 (by decide)) hy)⟩
  · rw [if_neg h]
    exact ⟨_, good_append hx good_nil⟩
theorem good_join (l : List (List UInt8)) (h : ∀ p ∈ l, ∃ x, Good p x) : ∃ x, Good (joinP l) x := by
  match l, h with
  | [], _ => exact ⟨[], good_nil⟩
  | [p], h => exact h p (by simp)
  | p :: q :: r, h =>
    obtain ⟨x, hx⟩ := h p (by simp)
    obtain ⟨y, hy⟩ := good_join (q :: r) (fun p hp => h p (by simp at hp ⊢; exact Or.inr hp))
    exact ⟨_, good_append hx (good_append (good_one 38 (by decide)) hy)⟩
theorem good_pdec {l x : List UInt8} (h : Good l x) : pdec l = (x, 0, 0) := by
  have := h [] [] 0
  rw [List.append_nil] at this
  unfold pdec
  rw [this]
  rfl
theorem cod_free (c d : UInt8) (h : d ∈ cod c) : d ≠ 38 ∧ d ≠ 61 := by
  unfold cod at h
  by_cases hs : stn c = true
  · rw [if_pos hs] at h
    obtain rfl : d = c := by simpa using h
    exact ⟨(stn_ne d hs).2.1, (stn_ne d hs).2.2.1⟩
  · rw [if_neg hs] at h
    by_cases h2 : c = 32
    · rw [if_pos h2] at h
      obtain rfl : d = 43 := by simpa using h
      decide
    · rw [if_neg h2] at h
      have l1 : c.toNat < 256 := c.toBitVec.isLt
      have a1 := hv_hx (c.toNat / 16) (by omega)
      have a2 := hv_hx (c.toNat % 16) (by omega)
      simp only [List.mem_cons, List.not_mem_nil, or_false] at h
      rcases h with rfl | rfl | rfl
      · decide
      · exact ⟨a1.2.2.1, a1.2.2.2.1⟩
      · exact ⟨a2.2.2.1, a2.2.2.2.1⟩
theorem codL_free (l : List UInt8) (d : UInt8) (h : d ∈ codL l) : d ≠ 38 ∧ d ≠ 61 := by
  obtain ⟨c, _, hd⟩ := List.mem_flatMap.1 h
  exact cod_free c d hd
theorem piece_free (p : Par) : ∀ d ∈ pieceOf p, d ≠ 38 := by
  intro d h
  unfold pieceOf at h
  rcases List.mem_append.1 h with h | h
  · exact (codL_free _ d h).1
  · by_cases hp : p.2.2 = true
    · rw [if_pos hp] at h
      rcases List.mem_cons.1 h with rfl | h
      · decide
      · exact (codL_free _ d h).1
    · rw [if_neg hp] at h; cases h
theorem spc_cod (l : List UInt8) : spc (codL l) = l := by
  have key : ∀ l, Good (swapL 43 32 (codL l)) l := by
    intro l
    induction l with
    | nil => exact good_nil
    | cons c r ih =>
      have e : swapL 43 32 (codL (c :: r)) = swapL 43 32 (cod c) ++ swapL 43 32 (codL r) := by simp [swapL, codL]
      rw [e]
      refine good_append (x := [c]) ?_ ih
      unfold cod
      by_cases hs : stn c = true
      · rw [if_pos hs]
        have : swapL 43 32 [c] = [c] := by simp [swapL, (stn_ne c hs).2.2.2.1]
        rw [this]; exact good_one c (stn_ne c hs).1
      · rw [if_neg hs]
        by_cases h2 : c = 32
        · subst h2; rw [if_pos rfl]; exact good_one 32 (by decide)
        · rw [if_neg h2]
          have l1 : c.toNat < 256 := c.toBitVec.isLt
          have a1 := hv_hx (c.toNat / 16) (by omega)
          have a2 := hv_hx (c.toNat % 16) (by omega)
          have : swapL 43 32 [37, hxU (c.toNat / 16), hxU (c.toNat % 16)] = [37, hxU (c.toNat / 16), hxU (c.toNat % 16)] := by simp [swapL, a1.2.2.2.2, a2.2.2.2.2]
          rw [this]
          have := good_trip c.toNat l1
          rwa [show UInt8.ofNat c.toNat = c from by simp] at this
  unfold spc
  rw [good_pdec (key l)]
theorem cut_mid (c : UInt8) (a b : List UInt8) (h : ∀ d ∈ a, d ≠ c) : Lib.cut (a ++ c :: b) [c] = (a, b, true) := by
  rw [cut_found c (a ++ c :: b) a.length (by simp) (fun j hj => by
    rw [List.getElem?_append_left hj, List.getElem?_eq_getElem hj]
    intro e; injection e with e; exact h _ (List.getElem_mem hj) e) (by simp)]
  simp [List.drop_append]
theorem cut_free (c : UInt8) (a : List UInt8) (h : ∀ d ∈ a, d ≠ c) : Lib.cut a [c] = (a, [], false) :=
  cut_none c a fun j hj => by rw [List.getElem?_eq_getElem hj]; intro e; injection e with e; exact h _ (List.getElem_mem hj) e
theorem split_join (l : List (List UInt8)) (h : ∀ p ∈ l, ∀ d ∈ p, d ≠ 38) (hn : l ≠ []) : Lib.split (joinP l) [38] = l := by
  match l, h, hn with
  | [p], h, _ =>
    rw [split_step, joinP, cut_free 38 p (h p (by simp))]
    rfl
  | p :: q :: r, h, _ =>
    rw [split_step, joinP, cut_mid 38 p _ (h p (by simp)), if_pos rfl]
    rw [split_join (q :: r) (fun p hp => h p (by simp at hp ⊢; exact Or.inr hp)) (by simp)]
theorem parOf_piece (p : Par) (h : parOk p = true) : parOf (pieceOf p) = p ∧ pieceOf p ≠ [] := by
  obtain ⟨n, v, hs⟩ := p
  unfold parOk at h
  cases hs with
  | true =>
    have e : pieceOf (n, v, true) = codL n ++ 61 :: codL v := rfl
    rw [e]
    constructor
    · unfold parOf
      rw [cut_mid 61 (codL n) (codL v) (fun d hd => (codL_free n d hd).2)]
      simp only [spc_cod]
    · simp
  | false =>
    have e : pieceOf (n, v, false) = codL n := by simp [pieceOf]
    have h2 : n ≠ [] ∧ v = [] := by simpa using h
    rw [e]
    constructor
    · unfold parOf
      rw [cut_free 61 (codL n) (fun d hd => (codL_free n d hd).2)]
      simp only [spc_cod, h2.2]
      rfl
    · intro e0
      apply h2.1
      have := spc_cod n
      rw [e0] at this
      exact this.symm
theorem parsOf_pieces (l : List Par) (h : l.all parOk = true) : parsOf (l.map pieceOf) = l := by
  induction l with
  | nil => rfl
  | cons p r ih =>
    simp only [List.all_cons, Bool.and_eq_true] at h
    rw [List.map_cons, parsOf, if_neg (parOf_piece p h.1).2, (parOf_piece p h.1).1, ih h.2]
/-- What was written is read back. -/
theorem prs_prn (l : List Par) (h : (prnP l).2 = 0) : prsP (prnP l).1 = (l, 0, 0) := by
  unfold prnP at h ⊢
  by_cases ha : l.all parOk = true
  · rw [if_pos ha]
    simp only
    obtain ⟨x, hx⟩ := good_join (l.map pieceOf) (fun p hp => by obtain ⟨q, _, rfl⟩ := List.mem_map.1 hp; exact good_piece q)
    unfold prsP
    rw [good_pdec hx, if_neg (by simp)]
    by_cases hn : l = []
    · subst hn; rfl
    · rw [split_join (l.map pieceOf) (fun p hp => by obtain ⟨q, _, rfl⟩ := List.mem_map.1 hp; exact piece_free q) (by simpa using hn), parsOf_pieces l ha]
  · rw [if_neg ha] at h; cases h
end Go.Proofs.YtpdbejeiceodkaaGreatDoor
namespace Go.Proofs.YtpdbejeiceodkaaGreatDoor
open Go.RowKit
set_option linter.unusedSimpArgs false
set_option linter.unusedVariables false
/-- The signs of tokens. -/
def isSg (c : UInt8) : Bool := (48 ≤ c.toNat && c.toNat ≤ 57) || (65 ≤ c.toNat && c.toNat ≤ 90) || (97 ≤ c.toNat && c.toNat ≤ 122) || [33, 35, 36, 37, 38, 39, 42, 43, 45, 46, 94, 95, 96, 124, 126].contains c
def isFb (c : UInt8) : Bool := c.toNat == 9 || (32 ≤ c.toNat && c.toNat != 127)
def isBl (c : UInt8) : Bool := c.toNat == 32 || c.toNat == 9
def low (c : UInt8) : UInt8 := if 65 ≤ c.toNat ∧ c.toNat ≤ 90 then UInt8.ofNat (c.toNat + 32) else c
def lowL (l : List UInt8) : List UInt8 := l.map low
def isTok (l : List UInt8) : Bool := !l.isEmpty && l.all isSg
def isFld (l : List UInt8) : Bool := l.all isFb
def trimL (l : List UInt8) : List UInt8 := ((l.dropWhile isBl).reverse.dropWhile isBl).reverse
/-- The quoted text behind its first mark: what it says, and how many bytes it has from there on. -/
def unqT : List UInt8 → Option (List UInt8 × Nat)
  | [] => none
  | c :: r =>
    if c = 34 then some ([], 1)
    else if c = 92 then
      match r with
      | [] => none
      | d :: r' => if isFb d then (unqT r').map fun x => (d :: x.1, x.2 + 2) else none
    else if isFb c then (unqT r).map fun x => (c :: x.1, x.2 + 1) else none
def unq : List UInt8 → Option (List UInt8 × Nat)
  | [] => none
  | c :: r => if c = 34 then (unqT r).map fun x => (x.1, x.2 + 1) else none
/-- How many bytes from the front on may stand. -/
def runL (p : UInt8 → Bool) (l : List UInt8) : Nat := (l.takeWhile p).length
theorem runL_le (p : UInt8 → Bool) (l : List UInt8) : runL p l ≤ l.length := by
  unfold runL
  induction l with
  | nil => simp
  | cons c r ih => rw [List.takeWhile_cons]; split <;> simp; omega
theorem runL_nil (p : UInt8 → Bool) : runL p [] = 0 := rfl
theorem runL_cons (p : UInt8 → Bool) (c : UInt8) (r : List UInt8) : runL p (c :: r) = if p c then runL p r + 1 else 0 := by
  unfold runL; rw [List.takeWhile_cons]; split <;> simp
theorem runL_more (p : UInt8 → Bool) : ∀ (l : List UInt8) (n : Nat) (c : UInt8), n ≤ runL p l → l[n]? = some c → p c = true → n + 1 ≤ runL p l
  | [], n, c, _, h, _ => by simp at h
  | d :: r, 0, c, _, h, hp => by
    obtain rfl : d = c := by simpa using h
    rw [runL_cons, if_pos hp]; omega
  | d :: r, n + 1, c, hn, h, hp => by
    rw [runL_cons] at hn ⊢
    split at hn
    · have := runL_more p r n c (by omega) (by simpa using h) hp
      rw [if_pos (by assumption)]; omega
    · omega
theorem runL_stop (p : UInt8 → Bool) : ∀ (l : List UInt8) (n : Nat) (c : UInt8), n ≤ runL p l → l[n]? = some c → p c = false → n = runL p l
  | [], n, c, _, h, _ => by simp at h
  | d :: r, 0, c, _, h, hp => by
    obtain rfl : d = c := by simpa using h
    rw [runL_cons, hp]; rfl
  | d :: r, n + 1, c, hn, h, hp => by
    rw [runL_cons] at hn ⊢
    split at hn
    · have := runL_stop p r n c (by omega) (by simpa using h) hp
      rw [if_pos (by assumption)]; omega
    · omega
theorem runL_end (p : UInt8 → Bool) (l : List UInt8) (n : Nat) (h : n ≤ runL p l) (h2 : l.length ≤ n) : n = runL p l := by
  have := runL_le p l; omega
theorem isTok_none : isTok [] = false := rfl
theorem all_take (p : UInt8 → Bool) (l : List UInt8) (k : Nat) (c : UInt8) (h : l[k]? = some c) (ha : (l.take k).all p = true) (hp : p c = true) : (l.take (k + 1)).all p = true := by
  rw [List.take_add_one, h]
  simp only [Option.toList_some, List.all_append, ha, List.all_cons, hp, List.all_nil, Bool.and_self]
theorem all_not (p : UInt8 → Bool) (l : List UInt8) (k : Nat) (c : UInt8) (h : l[k]? = some c) (hp : p c = false) : l.all p = false := by
  rw [List.all_eq_false]
  exact ⟨c, List.mem_of_getElem? h, by rw [hp]; simp⟩
theorem isTok_runL (l : List UInt8) : isTok l = (decide (0 < l.length) && decide (runL isSg l = l.length)) := by
  unfold isTok
  cases l with
  | nil => rfl
  | cons c r =>
    simp only [List.isEmpty_cons, Bool.not_false, Bool.true_and, List.length_cons, Nat.zero_lt_succ, decide_true]
    suffices h : ∀ l : List UInt8, l.all isSg = decide (runL isSg l = l.length) from h (c :: r)
    intro l
    induction l with
    | nil => rfl
    | cons d t ih =>
      rw [runL_cons, List.all_cons, ih]
      by_cases h : isSg d = true
      · rw [h, if_pos rfl]; simp
      · have h' : isSg d = false := by simpa using h
        rw [h']; simp
/-- The value at the front: a token or a quoted text. -/
def valP (l : List UInt8) : Option (List UInt8 × Nat) := if runL isSg l = 0 then unq l else some (l.take (runL isSg l), runL isSg l)
/-- One step over parameters: none: nothing is taken; else a fault, or perhaps a parameter, and how many bytes. -/
def parStep (l : List UInt8) : Option (Option (Option Par × Nat)) :=
  if l[runL isBl l]? = some 59 then
    let r := l.drop (runL isBl l + 1)
    let b := runL isBl r
    let n := runL isSg (r.drop b)
    if n = 0 then some (some (none, runL isBl l + 1))
    else if (r.drop (b + n))[0]? = some 61 then
      match valP (r.drop (b + n + 1)) with
      | none => some none
      | some (v, k) => some (some (some ((r.drop b).take n, v, true), runL isBl l + 1 + (b + n + 1) + k))
    else some (some (some ((r.drop b).take n, [], false), runL isBl l + 1 + (b + n)))
  else none
def parF : Nat → List UInt8 → Option (List Par × Nat)
  | 0, _ => some ([], 0)
  | f + 1, l =>
    match parStep l with
    | none => some ([], 0)
    | some none => none
    | some (some (q, k)) => (parF f (l.drop k)).map fun x => (q.toList ++ x.1, k + x.2)
/-- Parameters at the front, and how many bytes they have. -/
def parP (l : List UInt8) : Option (List Par × Nat) := parF (l.length + 1) l
theorem unqT_used (n : Nat) : ∀ (l x : List UInt8) (k : Nat), l.length ≤ n → unqT l = some (x, k) → 0 < k ∧ k ≤ l.length ∧ x.length ≤ k := by
  induction n with
  | zero =>
    intro l x k hl h
    obtain rfl : l = [] := List.eq_nil_of_length_eq_zero (by omega)
    simp [unqT] at h
  | succ n ih =>
    intro l x k hl h
    cases l with
    | nil => simp [unqT] at h
    | cons c r =>
      simp only [List.length_cons] at hl ⊢
      rw [unqT.eq_def] at h
      simp only at h
      by_cases h1 : c = 34
      · rw [if_pos h1] at h
        injection h with h; injection h with h2 h3
        subst h2; subst h3; simp
      · rw [if_neg h1] at h
        by_cases h2 : c = 92
        · rw [if_pos h2] at h
          cases r with
          | nil => simp at h
          | cons d r' =>
            simp only at h
            simp only [List.length_cons] at hl ⊢
            by_cases h3 : isFb d = true
            · rw [if_pos h3] at h
              obtain ⟨⟨y, m⟩, hy, he⟩ := Option.map_eq_some_iff.1 h
              injection he with e1 e2
              subst e1; subst e2
              have := ih r' y m (by omega) hy
              simp only [List.length_cons]; omega
            · rw [if_neg h3] at h; simp at h
        · rw [if_neg h2] at h
          by_cases h3 : isFb c = true
          · rw [if_pos h3] at h
            obtain ⟨⟨y, m⟩, hy, he⟩ := Option.map_eq_some_iff.1 h
            injection he with e1 e2
            subst e1; subst e2
            have := ih r y m (by omega) hy
            simp only [List.length_cons]; omega
          · rw [if_neg h3] at h; simp at h
theorem unq_used (l x : List UInt8) (k : Nat) (h : unq l = some (x, k)) : 0 < k ∧ k ≤ l.length ∧ x.length ≤ k := by
  cases l with
  | nil => simp [unq] at h
  | cons c r =>
    unfold unq at h
    simp only at h
    by_cases h1 : c = 34
    · rw [if_pos h1] at h
      obtain ⟨⟨y, m⟩, hy, he⟩ := Option.map_eq_some_iff.1 h
      injection he with e1 e2
      subst e1; subst e2
      have := unqT_used r.length r y m (Nat.le_refl _) hy
      simp only [List.length_cons]; omega
    · rw [if_neg h1] at h; simp at h
theorem valP_used (l x : List UInt8) (k : Nat) (h : valP l = some (x, k)) : k ≤ l.length ∧ x.length ≤ k := by
  unfold valP at h
  split at h
  · have := unq_used l x k h; omega
  · injection h with h; injection h with h1 h2
    subst h1; subst h2
    have := runL_le isSg l
    rw [List.length_take]; omega
/-- What a step takes. -/
theorem parStep_used (l : List UInt8) (q : Option Par) (k : Nat) (h : parStep l = some (some (q, k))) :
    0 < k ∧ k ≤ l.length ∧ ∀ p, q = some p → 0 < p.1.length ∧ p.1.length + p.2.1.length ≤ k := by
  unfold parStep at h
  by_cases h0 : l[runL isBl l]? = some 59
  · rw [if_pos h0] at h
    simp only at h
    have hlt : runL isBl l < l.length := (List.getElem?_eq_some_iff.1 h0).1
    generalize hr : l.drop (runL isBl l + 1) = r at h
    have hrl : r.length + (runL isBl l + 1) = l.length := by rw [← hr, List.length_drop]; omega
    have hb := runL_le isBl r
    generalize runL isBl r = b at h hb
    have hn := runL_le isSg (r.drop b)
    rw [List.length_drop] at hn
    generalize hnn : runL isSg (r.drop b) = n at h hn
    split at h
    · injection h with h; injection h with h; injection h with h1 h2
      subst h1; subst h2
      exact ⟨by omega, by omega, fun p hp => by cases hp⟩
    · split at h
      · have h61 : (r.drop (b + n))[0]? = some 61 := by assumption
        have hl0 : 0 < (r.drop (b + n)).length := (List.getElem?_eq_some_iff.1 h61).1
        rw [List.length_drop] at hl0
        cases hv : valP (r.drop (b + n + 1)) with
        | none => rw [hv] at h; simp at h
        | some x =>
          obtain ⟨v, m⟩ := x
          rw [hv] at h
          simp only [Option.some.injEq, Prod.mk.injEq] at h
          obtain ⟨h1, h2⟩ := h
          have hu := valP_used _ _ _ hv
          rw [List.length_drop] at hu
          refine ⟨by omega, by omega, fun p hp => ?_⟩
          rw [← h1] at hp
          injection hp with hp
          subst hp
          simp only [List.length_take, List.length_drop]
          omega
      · simp only [Option.some.injEq, Prod.mk.injEq] at h
        obtain ⟨h1, h2⟩ := h
        refine ⟨by omega, by omega, fun p hp => ?_⟩
        rw [← h1] at hp
        injection hp with hp
        subst hp
        simp only [List.length_take, List.length_drop, List.length_nil]
        omega
  · rw [if_neg h0] at h; simp at h
theorem parF_more : ∀ (f g : Nat) (l : List UInt8), l.length < f → l.length < g → parF f l = parF g l
  | 0, _, l, h, _ => by omega
  | _ + 1, 0, l, _, h => by omega
  | f + 1, g + 1, l, hf, hg => by
    unfold parF
    cases hs : parStep l with
    | none => rfl
    | some x =>
      cases x with
      | none => rfl
      | some y =>
        obtain ⟨q, k⟩ := y
        have hu := parStep_used l q k hs
        simp only
        rw [parF_more f g (l.drop k) (by rw [List.length_drop]; omega) (by rw [List.length_drop]; omega)]
theorem parP_stop (l : List UInt8) (h : parStep l = none) : parP l = some ([], 0) := by unfold parP parF; rw [h]
theorem parP_fault (l : List UInt8) (h : parStep l = some none) : parP l = none := by unfold parP parF; rw [h]
theorem parP_step (l : List UInt8) (q : Option Par) (k : Nat) (h : parStep l = some (some (q, k))) : parP l = (parP (l.drop k)).map fun x => (q.toList ++ x.1, k + x.2) := by
  have hu := parStep_used l q k h
  have e : parP l = (parF l.length (l.drop k)).map fun x => (q.toList ++ x.1, k + x.2) := by
    show parF (l.length + 1) l = _
    rw [parF.eq_def]
    simp only [h]
  rw [e, parF_more l.length ((l.drop k).length + 1) (l.drop k) (by rw [List.length_drop]; omega) (by omega)]
  rfl
/-- Bytes that parameters have. -/
theorem parP_used (n : Nat) : ∀ (l : List UInt8) (ps : List Par) (k : Nat), l.length ≤ n → parP l = some (ps, k) → k ≤ l.length ∧ ps.length ≤ k ∧ (∀ p ∈ ps, 0 < p.1.length ∧ p.1.length + p.2.1.length ≤ k) := by
  induction n with
  | zero =>
    intro l ps k hl h
    have hs : parStep l = none := by
      obtain rfl : l = [] := List.eq_nil_of_length_eq_zero (by omega)
      rfl
    rw [parP_stop l hs] at h
    injection h with h; injection h with h1 h2
    subst h1; subst h2
    simp
  | succ n ih =>
    intro l ps k hl h
    cases hs : parStep l with
    | none =>
      rw [parP_stop l hs] at h
      injection h with h; injection h with h1 h2
      subst h1; subst h2
      simp
    | some x =>
      cases x with
      | none => rw [parP_fault l hs] at h; cases h
      | some y =>
        obtain ⟨q, m⟩ := y
        have hu := parStep_used l q m hs
        rw [parP_step l q m hs] at h
        obtain ⟨⟨qs, u⟩, hq, he⟩ := Option.map_eq_some_iff.1 h
        injection he with e1 e2
        subst e1; subst e2
        have := ih (l.drop m) qs u (by rw [List.length_drop]; omega) hq
        rw [List.length_drop] at this
        refine ⟨by omega, ?_, ?_⟩
        · rw [List.length_append]
          cases q <;> simp <;> omega
        · intro p hp
          rw [List.mem_append] at hp
          rcases hp with hp | hp
          · have := hu.2.2 p (by cases q with
              | none => simp at hp
              | some q => obtain rfl : p = q := (by simpa using hp); rfl)
            omega
          · have := this.2.2 p hp; omega
/-- A list's elements, from a place on: cur stands before it. -/
def lstF : Nat → List UInt8 → List UInt8 → Option (List (List UInt8))
  | 0, cur, _ => some [cur]
  | f + 1, cur, l =>
    match l with
    | [] => some [cur]
    | c :: r =>
      if c = 34 then
        match unq (c :: r) with
        | none => none
        | some (_, n) => lstF f (cur ++ (c :: r).take n) ((c :: r).drop n)
      else if c = 44 then (lstF f [] r).map (cur :: ·)
      else lstF f (cur ++ [c]) r
def lstR (cur l : List UInt8) : Option (List (List UInt8)) := lstF (l.length + 1) cur l
/-- What stays: trimmed, not empty. -/
def fulls (l : List (List UInt8)) : List (List UInt8) := (l.map trimL).filter (· ≠ [])
def lstP (l : List UInt8) : Option (List (List UInt8)) := (lstR [] l).map fulls
theorem lstF_more : ∀ (f g : Nat) (cur l : List UInt8), l.length < f → l.length < g → lstF f cur l = lstF g cur l
  | 0, _, _, l, h, _ => by omega
  | _ + 1, 0, _, l, _, h => by omega
  | f + 1, g + 1, cur, [], hf, hg => rfl
  | f + 1, g + 1, cur, c :: r, hf, hg => by
    simp only [List.length_cons] at hf hg
    rw [lstF.eq_def, lstF.eq_def (g + 1)]
    simp only
    by_cases h1 : c = 34
    · rw [if_pos h1, if_pos h1]
      cases hu : unq (c :: r) with
      | none => rfl
      | some x =>
        obtain ⟨y, n⟩ := x
        have := unq_used _ _ _ hu
        simp only
        exact lstF_more f g _ _ (by rw [List.length_drop, List.length_cons]; omega) (by rw [List.length_drop, List.length_cons]; omega)
    · rw [if_neg h1, if_neg h1]
      by_cases h2 : c = 44
      · rw [if_pos h2, if_pos h2, lstF_more f g [] r (by omega) (by omega)]
      · rw [if_neg h2, if_neg h2, lstF_more f g _ r (by omega) (by omega)]
theorem lstR_nil (cur : List UInt8) : lstR cur [] = some [cur] := rfl
theorem lstR_bad (cur r : List UInt8) (h : unq (34 :: r) = none) : lstR cur (34 :: r) = none := by
  unfold lstR
  rw [lstF.eq_def]
  simp only [if_true, h]
theorem lstR_quote (cur r x : List UInt8) (n : Nat) (h : unq (34 :: r) = some (x, n)) : lstR cur (34 :: r) = lstR (cur ++ (34 :: r).take n) ((34 :: r).drop n) := by
  have := unq_used _ _ _ h
  rw [List.length_cons] at this
  rw [show lstR cur (34 :: r) = lstF (r.length + 1) (cur ++ (34 :: r).take n) ((34 :: r).drop n) from by
    unfold lstR
    rw [lstF.eq_def]
    simp only [if_true, h, List.length_cons]]
  exact lstF_more _ _ _ _ (by rw [List.length_drop, List.length_cons]; omega) (by omega)
theorem lstR_comma (cur r : List UInt8) : lstR cur (44 :: r) = (lstR [] r).map (cur :: ·) := by
  unfold lstR
  rw [lstF.eq_def]
  simp only [if_neg (show ¬ (44 : UInt8) = 34 from by decide), if_true, List.length_cons]
theorem lstR_other (cur r : List UInt8) (c : UInt8) (h1 : c ≠ 34) (h2 : c ≠ 44) : lstR cur (c :: r) = lstR (cur ++ [c]) r := by
  unfold lstR
  rw [lstF.eq_def]
  simp only [if_neg h1, if_neg h2, List.length_cons]
/-- Trimming: from the front, from the back. -/
theorem dropWhile_suffix_len (p : UInt8 → Bool) (l : List UInt8) : (l.dropWhile p).length ≤ l.length := (List.dropWhile_sublist p).length_le
theorem trimL_len (l : List UInt8) : (trimL l).length ≤ l.length := by
  unfold trimL
  rw [List.length_reverse]
  refine Nat.le_trans (dropWhile_suffix_len _ _) ?_
  rw [List.length_reverse]
  exact dropWhile_suffix_len _ _
def trimR (l : List UInt8) : List UInt8 := (l.reverse.dropWhile isBl).reverse
theorem trimR_snoc_bl (l : List UInt8) (c : UInt8) (h : isBl c = true) : trimR (l ++ [c]) = trimR l := by
  unfold trimR; rw [List.reverse_append]; simp [h]
theorem trimR_snoc_other (l : List UInt8) (c : UInt8) (h : isBl c = false) : trimR (l ++ [c]) = l ++ [c] := by
  unfold trimR; rw [List.reverse_append]; simp [h]
theorem trimR_nil : trimR [] = [] := rfl
theorem trimL_eq (l : List UInt8) : trimL l = trimR (l.dropWhile isBl) := rfl
theorem lowL_len (l : List UInt8) : (lowL l).length = l.length := by unfold lowL; rw [List.length_map]
/-- What stands for itself in a list. -/
theorem fulls_snoc (l : List (List UInt8)) (x : List UInt8) : fulls (l ++ [x]) = fulls l ++ if trimL x = [] then [] else [trimL x] := by
  unfold fulls
  rw [List.map_append, List.filter_append]
  congr 1
  by_cases h : trimL x = [] <;> simp [h]
theorem fulls_len (l : List (List UInt8)) : (fulls l).length ≤ l.length := by
  unfold fulls
  refine Nat.le_trans (List.length_filter_le _ _) ?_
  rw [List.length_map]; omega
end Go.Proofs.YtpdbejeiceodkaaGreatDoor
