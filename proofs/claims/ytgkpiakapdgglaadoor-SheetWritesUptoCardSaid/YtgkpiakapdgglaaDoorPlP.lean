/- Lines of fields, and parts as a body: plain. No program is named. No conditions. -/
import Derived.Test.YtgkpiakapdgglaaDoorQt
import Derived.Test.YtgkpiakapdgglaaDoorMrk
import Derived.Test.YtgkpiakapdgglaaDoorPrtM
import Derived.Lib.IndexLaws
namespace Go.Proofs.YtgkpiakapdgglaaDoor
open Go.RowKit
set_option linter.unusedSimpArgs false
set_option linter.unusedVariables false
set_option maxRecDepth 1000000
def blank0 (l : List UInt8) : Bool := match l with | c :: _ => isBl c | [] => false
abbrev PlRes := List UInt8 × List UInt8 × Nat
def plK (l : List UInt8) (k : Nat) : PlRes :=
  if k = 0 ∨ 128 < k ∨ (l.take k).all isSg = false then ([], [], 60)
  else if isFld (l.drop (k + 1)) = false ∨ 8192 < (trimL (l.drop (k + 1))).length then ([], [], 61)
  else (l.take k, trimL (l.drop (k + 1)), 0)
/-- What a line of fields says: a name, a value, an error's number. -/
def plR (l : List UInt8) : PlRes :=
  if blank0 l then ([], [], 63) else if Lib.indexByte l 58 < 0 then ([], [], 62) else plK l (Lib.indexByte l 58).toNat
theorem plR_blank (l : List UInt8) (h : blank0 l = true) : plR l = ([], [], 63) := by unfold plR; rw [if_pos h]
theorem plR_colon (l : List UInt8) (h : blank0 l = false) (h2 : Lib.indexByte l 58 < 0) : plR l = ([], [], 62) := by unfold plR; rw [if_neg (by rw [h]; simp), if_pos h2]
theorem plR_at (l : List UInt8) (k : Nat) (h : blank0 l = false) (h2 : Lib.indexByte l 58 = (k : Int)) : plR l = plK l k := by
  unfold plR; rw [if_neg (by rw [h]; simp), if_neg (by rw [h2]; omega), h2]; rfl
theorem plK_none (l : List UInt8) : plK l 0 = ([], [], 60) := by unfold plK; rw [if_pos (Or.inl rfl)]
theorem plK_long (l : List UInt8) (k : Nat) (h : 128 < k) : plK l k = ([], [], 60) := by unfold plK; rw [if_pos (Or.inr (Or.inl h))]
theorem plK_sign (l : List UInt8) (k i : Nat) (c : UInt8) (hi : i < k) (hg : l[i]? = some c) (hc : isSg c = false) : plK l k = ([], [], 60) := by
  unfold plK
  rw [if_pos (Or.inr (Or.inr ?_))]
  exact all_not isSg _ i c (by rw [List.getElem?_take_of_lt hi]; exact hg) hc
theorem plK_field (l : List UInt8) (k m : Nat) (c : UInt8) (h0 : k ≠ 0) (h1 : k ≤ 128) (h2 : (l.take k).all isSg = true) (hm : k < m) (hg : l[m]? = some c) (hc : isFb c = false) : plK l k = ([], [], 61) := by
  unfold plK
  rw [if_neg (by rw [h2]; simp; omega), if_pos (Or.inl ?_)]
  exact all_not isFb _ (m - (k + 1)) c (by rw [List.getElem?_drop, show k + 1 + (m - (k + 1)) = m from by omega]; exact hg) hc
theorem fld_from (l : List UInt8) (k : Nat) (h : ∀ m c, k < m → l[m]? = some c → isFb c = true) : isFld (l.drop (k + 1)) = true := by
  unfold isFld
  rw [List.all_eq_true]
  intro c hc
  obtain ⟨j, hj⟩ := List.getElem?_of_mem hc
  rw [List.getElem?_drop] at hj
  exact h (k + 1 + j) c (by omega) hj
theorem plK_big (l : List UInt8) (k : Nat) (h0 : k ≠ 0) (h1 : k ≤ 128) (h2 : (l.take k).all isSg = true) (hb : 8192 < (trimL (l.drop (k + 1))).length) : plK l k = ([], [], 61) := by
  unfold plK
  rw [if_neg (by rw [h2]; simp; omega), if_pos (Or.inr hb)]
theorem plK_ok (l : List UInt8) (k : Nat) (h0 : k ≠ 0) (h1 : k ≤ 128) (h2 : (l.take k).all isSg = true) (h3 : isFld (l.drop (k + 1)) = true) (hb : (trimL (l.drop (k + 1))).length ≤ 8192) : plK l k = (l.take k, trimL (l.drop (k + 1)), 0) := by
  unfold plK
  rw [if_neg (by rw [h2]; simp; omega), if_neg (by rw [h3]; simp; omega)]
theorem blank0_cons (c : UInt8) (r : List UInt8) : blank0 (c :: r) = isBl c := rfl
theorem trim_sp (v : List UInt8) : trimL (32 :: v) = trimL v := by
  unfold trimL
  rw [List.dropWhile_cons_of_pos (by decide)]
/-- The texts that are printed. -/
def cdB : List UInt8 := [67, 111, 110, 116, 101, 110, 116, 45, 68, 105, 115, 112, 111, 115, 105, 116, 105, 111, 110, 58, 32]
def fdB : List UInt8 := [102, 111, 114, 109, 45, 100, 97, 116, 97, 59, 32, 110, 97, 109, 101, 61]
def fnB : List UInt8 := [59, 32, 102, 105, 108, 101, 110, 97, 109, 101, 61]
def ctB : List UInt8 := [67, 111, 110, 116, 101, 110, 116, 45, 84, 121, 112, 101, 58, 32]
def valL (p : Prt) : List UInt8 := fdB ++ qtL p.name ++ (if p.has then fnB ++ qtL p.file else [])
def lineL (p : Prt) : List UInt8 := cdB ++ valL p
def medL (p : Prt) : List UInt8 := if p.media = [] then [] else ctB ++ p.media ++ [13, 10]
def okQ (p : Prt) : Bool := isFld p.name && isFld p.file && isFld p.media && (trimL p.media == p.media) && (p.has || p.file.isEmpty)
def okL (p : Prt) : Bool := decide ((valL p).length ≤ 8192) && decide (p.media.length ≤ 8192)
def okP (p : Prt) : Bool := okQ p && okL p
def hdL (b : List UInt8) : List UInt8 := 45 :: 45 :: (b ++ [13, 10])
def partB (b : List UInt8) (p : Prt) : List UInt8 := hdL b ++ (lineL p ++ [13, 10]) ++ medL p ++ (13 :: 10 :: (p.body ++ [13, 10]))
def endL (b : List UInt8) : List UInt8 := 45 :: 45 :: (b ++ [45, 45, 13, 10])
def wrtR (b : List UInt8) (l : List Prt) : List UInt8 × Nat :=
  if (!isMrk b || stood l (45 :: 45 :: b)) = true then ([], 151) else if l = [] then ([], 153) else if l.all okP = true then (l.flatMap (partB b) ++ endL b, 0) else ([], 152)
theorem wrt_bad (b : List UInt8) (l : List Prt) (i : Nat) (p : Prt) (h1 : isMrk b = true) (h2 : stood l (45 :: 45 :: b) = false) (hi : l[i]? = some p) (hp : okP p = false) : wrtR b l = ([], 152) := by
  unfold wrtR
  rw [if_neg (by rw [h1, h2]; simp), if_neg (by rintro rfl; simp at hi), if_neg]
  intro h
  rw [List.all_eq_true] at h
  rw [h p (List.mem_of_getElem? hi)] at hp
  cases hp
theorem wrt_ok (b : List UInt8) (l : List Prt) (h1 : isMrk b = true) (h2 : stood l (45 :: 45 :: b) = false) (h0 : l ≠ []) (h : l.all okP = true) : wrtR b l = (l.flatMap (partB b) ++ endL b, 0) := by
  unfold wrtR
  rw [if_neg (by rw [h1, h2]; simp), if_neg h0, if_pos h]
theorem wrt_mark (b : List UInt8) (l : List Prt) (h1 : isMrk b = false ∨ stood l (45 :: 45 :: b) = true) : wrtR b l = ([], 151) := by
  unfold wrtR
  rw [if_pos (by rcases h1 with h | h <;> rw [h] <;> simp)]
theorem wrt_none (b : List UInt8) (h1 : isMrk b = true) (h2 : stood [] (45 :: 45 :: b) = false) : wrtR b [] = ([], 153) := by
  unfold wrtR
  rw [if_neg (by rw [h1, h2]; simp), if_pos rfl]
theorem isFld_append (a b : List UInt8) : isFld (a ++ b) = (isFld a && isFld b) := by unfold isFld; rw [List.all_append]
theorem isFld_esc (l : List UInt8) (h : isFld l = true) : isFld (escL l) = true := by
  unfold isFld escL at *
  rw [List.all_flatMap]
  rw [List.all_eq_true] at h ⊢
  intro c hc
  unfold esc
  split
  · rw [List.all_cons, List.all_cons, List.all_nil, h c hc]; rfl
  · rw [List.all_cons, List.all_nil, h c hc]; rfl
theorem isFld_qt (l : List UInt8) (h : isFld l = true) : isFld (qtL l) = true := by
  unfold qtL
  rw [show 34 :: (escL l ++ [34]) = [34] ++ (escL l ++ [34]) from rfl, isFld_append, isFld_append, isFld_esc l h]
  rfl
theorem okQ_parts {p : Prt} (h : okQ p = true) : isFld p.name = true ∧ isFld p.file = true ∧ isFld p.media = true ∧ trimL p.media = p.media := by
  unfold okQ at h
  simp only [Bool.and_eq_true, beq_iff_eq] at h
  exact ⟨h.1.1.1.1, h.1.1.1.2, h.1.1.2, h.1.2⟩
theorem isFld_val (p : Prt) (h : okQ p = true) : isFld (valL p) = true := by
  obtain ⟨h1, h2, _⟩ := okQ_parts h
  unfold valL
  rw [isFld_append, isFld_append, isFld_qt _ h1]
  split
  · rw [isFld_append, isFld_qt _ h2]; decide
  · decide
theorem valL_last (p : Prt) : ∃ x, valL p = x ++ [34] := by
  unfold valL qtL
  cases p.has with
  | true => exact ⟨fdB ++ (34 :: (escL p.name ++ [34])) ++ (fnB ++ (34 :: escL p.file)), by simp⟩
  | false => exact ⟨fdB ++ (34 :: escL p.name), by simp⟩
theorem trim_val (p : Prt) : trimL (valL p) = valL p := by
  rw [trimL_eq]
  obtain ⟨x, hx⟩ := valL_last p
  have e : valL p = 102 :: (valL p).tail := by unfold valL; rfl
  rw [e, List.dropWhile_cons_of_neg (by decide), ← e, hx, trimR_snoc_other _ _ (by decide)]
theorem ix_cd (v : List UInt8) : Lib.indexByte (cdB ++ v) 58 = 19 := by
  unfold cdB
  simp [Lib.indexByte]
theorem ix_ct (v : List UInt8) : Lib.indexByte (ctB ++ v) 58 = 12 := by
  unfold ctB
  simp [Lib.indexByte]
theorem line_ok (p : Prt) (h : okQ p = true) : (plR (lineL p)).2.2 = if (valL p).length ≤ 8192 then 0 else 61 := by
  rw [plR_at (lineL p) 19 rfl (ix_cd _)]
  have h2 : ((lineL p).take 19).all isSg = true := by unfold lineL cdB; exact (by decide : (([67, 111, 110, 116, 101, 110, 116, 45, 68, 105, 115, 112, 111, 115, 105, 116, 105, 111, 110] : List UInt8).all isSg = true))
  have h3 : (lineL p).drop 20 = 32 :: valL p := rfl
  by_cases hl : (valL p).length ≤ 8192
  · rw [if_pos hl, plK_ok _ _ (by decide) (by decide) h2 (by rw [h3]; exact (by rw [show isFld (32 :: valL p) = (isFb 32 && isFld (valL p)) from rfl, isFld_val p h]; rfl)) (by rw [h3, trim_sp, trim_val]; exact hl)]
  · rw [if_neg hl, plK_big _ _ (by decide) (by decide) h2 (by rw [h3, trim_sp, trim_val]; omega)]
theorem med_ok (p : Prt) (h : okQ p = true) : (plR (ctB ++ p.media)).2.2 = if p.media.length ≤ 8192 then 0 else 61 := by
  rw [plR_at (ctB ++ p.media) 12 rfl (ix_ct _)]
  obtain ⟨_, _, h4, h5⟩ := okQ_parts h
  have h2 : ((ctB ++ p.media).take 12).all isSg = true := by unfold ctB; exact (by decide : (([67, 111, 110, 116, 101, 110, 116, 45, 84, 121, 112, 101] : List UInt8).all isSg = true))
  have h3 : (ctB ++ p.media).drop 13 = 32 :: p.media := rfl
  by_cases hl : p.media.length ≤ 8192
  · rw [if_pos hl, plK_ok _ _ (by decide) (by decide) h2 (by rw [h3]; exact (by rw [show isFld (32 :: p.media) = (isFb 32 && isFld p.media) from rfl, h4]; rfl)) (by rw [h3, trim_sp, h5]; exact hl)]
  · rw [if_neg hl, plK_big _ _ (by decide) (by decide) h2 (by rw [h3, trim_sp, h5]; omega)]
theorem partB_take (b : List UInt8) (l : List Prt) (i : Nat) (p : Prt) (h : l[i]? = some p) : (l.take (i + 1)).flatMap (partB b) = (l.take i).flatMap (partB b) ++ partB b p := by
  rw [List.take_add_one, h, Option.toList_some, List.flatMap_append]; simp
theorem valL_len (p : Prt) : (valL p).length ≤ 2 * p.name.length + 2 * p.file.length + 31 := by
  unfold valL
  have h1 := qtL_len p.name
  have h2 := qtL_len p.file
  rw [List.length_append, List.length_append]
  have h3 : fdB.length = 16 := rfl
  split
  · rw [List.length_append]
    have h4 : fnB.length = 11 := rfl
    omega
  · rw [List.length_nil]; omega
theorem medL_len (p : Prt) : (medL p).length ≤ p.media.length + 16 := by
  unfold medL
  split
  · rw [List.length_nil]; omega
  · rw [List.length_append, List.length_append]
    have h4 : ctB.length = 14 := rfl
    simp only [List.length_cons, List.length_nil]; omega
theorem partB_len (b : List UInt8) (p : Prt) : (partB b p).length ≤ 2 * prtLen p + b.length + 128 := by
  unfold partB lineL hdL
  have h1 := valL_len p
  have h2 := medL_len p
  have h3 : cdB.length = 21 := rfl
  simp only [List.length_append, List.length_cons, List.length_nil, h3]
  unfold prtLen
  omega
theorem acc_len (b : List UInt8) (l : List Prt) (i : Nat) : ((l.take i).flatMap (partB b)).length ≤ 2 * totQ l + l.length * (b.length + 128) := by
  induction l generalizing i with
  | nil => simp
  | cons p r ih =>
    cases i with
    | zero => simp
    | succ i =>
      have h1 := ih i
      have h2 := partB_len b p
      rw [List.take_succ_cons, List.flatMap_cons, List.length_append]
      simp only [totQ, List.length_cons]
      rw [Nat.add_mul, Nat.one_mul]
      omega
end Go.Proofs.YtgkpiakapdgglaaDoor
