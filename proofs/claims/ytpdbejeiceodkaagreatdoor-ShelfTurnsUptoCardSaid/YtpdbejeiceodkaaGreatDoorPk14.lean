/- LanP, ShP, Tgt, Tgt2: texts of the seat, one behind the other (a claim holds at most sixty). Conditions: each theorem names its own. -/
import Derived.Test.YtpdbejeiceodkaaGreatDoorPk13
import Derived.Lib.Split
import Derived.Lib.SplitLaws
import Derived.Lib.CutLaws
import Derived.Lib.IndexBytes
import Derived.Test.YtpdbejeiceodkaaGreatDoorPk07
import Derived.Test.YtpdbejeiceodkaaGreatDoorPk04
import Derived.Test.YtpdbejeiceodkaaGreatDoorPk00
import Derived.Test.YtpdbejeiceodkaaGreatDoorPa02
import Derived.RangeFuncNested
import Derived.RangeFuncBound
import Derived.RangeFuncCalls
import Derived.RangeFuncLeaves
import Derived.RangeFuncBox
import Derived.Shelf.Abstract
import Derived.Shelf.RegionOpen
import Derived.OwnWalkIn
import Derived.TacticsInMore
import Derived.LoopNIn
import Derived.LoopIn
import Derived.Shelf.Strings.BuilderK
namespace Go.Proofs.YtpdbejeiceodkaaGreatDoor
open Go.RowKit
set_option linter.unusedSimpArgs false
set_option linter.unusedVariables false
set_option maxRecDepth 100000
/-! The pieces, byte by byte. -/
theorem ix_nil (c : UInt8) : Lib.index [] [c] = -1 := by rw [Lib.index_one]; rfl
theorem ix_hit (c : UInt8) (r : List UInt8) : Lib.index (c :: r) [c] = 0 := by rw [Lib.index_one]; simp [Lib.indexByte]
theorem ix_next (c d : UInt8) (r : List UInt8) (h : d ≠ c) : Lib.index (d :: r) [c] = if Lib.index r [c] = -1 then -1 else Lib.index r [c] + 1 := by
  rw [Lib.index_one, Lib.index_one]
  simp only [Lib.indexByte]
  rw [if_neg (by simpa using h)]
  simp
theorem spl_nil (c : UInt8) : Lib.split [] [c] = [[]] := by
  unfold Lib.split
  rw [Lib.count_miss (ix_nil c)]
  rfl
theorem spl_miss (c : UInt8) (l : List UInt8) (h : Lib.index l [c] = -1) : Lib.split l [c] = [l] := by
  unfold Lib.split
  rw [Lib.count_miss h]
  rfl
theorem spl_at (c : UInt8) (l : List UInt8) (i : Nat) (h : Lib.index l [c] = i) : Lib.split l [c] = l.take i :: Lib.split (l.drop (i + 1)) [c] := by
  unfold Lib.split
  rw [Lib.count_hit (by simp) h, Nat.add_comm, Lib.splitK, if_neg (by simp; omega), h]
  simp
theorem spl_hit (c : UInt8) (r : List UInt8) : Lib.split (c :: r) [c] = [] :: Lib.split r [c] := by
  rw [spl_at c (c :: r) 0 (ix_hit c r)]
  rfl
theorem spl_next (c d : UInt8) (r : List UInt8) (h : d ≠ c) : ∃ p t, Lib.split r [c] = p :: t ∧ Lib.split (d :: r) [c] = (d :: p) :: t := by
  by_cases hm : Lib.index r [c] = -1
  · exact ⟨r, [], spl_miss c r hm, spl_miss c (d :: r) (by rw [ix_next c d r h, if_pos hm])⟩
  · have hge : -1 ≤ Lib.index r [c] := by rw [Lib.index_one]; exact Lib.indexByte_ge _ _
    obtain ⟨i, hi⟩ : ∃ i : Nat, Lib.index r [c] = i := ⟨(Lib.index r [c]).toNat, by omega⟩
    refine ⟨r.take i, Lib.split (r.drop (i + 1)) [c], spl_at c r i hi, ?_⟩
    rw [spl_at c (d :: r) (i + 1) (by rw [ix_next c d r h, if_neg hm, hi]; rfl)]
    rfl
/-! What is a language. -/
def lanLt (c : UInt8) : Bool := decide (97 ≤ c.toNat) && decide (c.toNat ≤ 122)
def lanDg (c : UInt8) : Bool := decide (48 ≤ c.toNat) && decide (c.toNat ≤ 57)
def lanC (b : Bool) (c : UInt8) : Bool := lanLt c || (b && lanDg c)
def lanN (n : Nat) : Bool := decide (1 ≤ n) && decide (n ≤ 8)
/-- One piece; b: it is not the first. -/
def lanP (b : Bool) (p : List UInt8) : Bool := lanN p.length && p.all (lanC b)
def lanPs : Bool → List (List UInt8) → Bool
  | _, [] => true
  | b, p :: r => lanP b p && lanPs true r
def lanOk (s : List UInt8) : Bool := lanPs false (Lib.split (lowL s) [45])
theorem low_lt (c : UInt8) : lanLt (low c) = decide ((65 ≤ c.toNat ∧ c.toNat ≤ 90) ∨ (97 ≤ c.toNat ∧ c.toNat ≤ 122)) := by
  unfold lanLt low
  have := c.toNat_lt
  rw [Bool.eq_iff_iff]
  simp only [Bool.and_eq_true, decide_eq_true_eq]
  split
  · rw [UInt8.toNat_ofNat']; omega
  · omega
theorem low_dg (c : UInt8) : lanDg (low c) = decide (48 ≤ c.toNat ∧ c.toNat ≤ 57) := by
  unfold lanDg low
  have := c.toNat_lt
  rw [Bool.eq_iff_iff]
  simp only [Bool.and_eq_true, decide_eq_true_eq]
  split
  · rw [UInt8.toNat_ofNat']; omega
  · omega
theorem low_dash (c : UInt8) : low c = 45 ↔ c = 45 := by
  unfold low
  constructor
  · intro h
    split at h
    · rename_i hc
      have := congrArg UInt8.toNat h
      rw [UInt8.toNat_ofNat'] at this
      simp at this
      omega
    · exact h
  · rintro rfl
    rfl
/-- Byte by byte: so many stand behind the last '-'. -/
def lanS : Bool → Nat → List UInt8 → Bool
  | _, n, [] => lanN n
  | b, n, c :: r => if low c = 45 then lanN n && lanS true 0 r else lanC b (low c) && lanS b (n + 1) r
def lanM (b : Bool) (n : Nat) : List (List UInt8) → Bool
  | [] => true
  | p :: t => (lanN (n + p.length) && p.all (lanC b)) && lanPs true t
theorem lanS_eq (s : List UInt8) : ∀ (b : Bool) (n : Nat), lanS b n s = lanM b n (Lib.split (lowL s) [45]) := by
  induction s with
  | nil => intro b n; rw [show lowL [] = [] from rfl, spl_nil]; simp [lanS, lanM, lanPs]
  | cons c r ih =>
    intro b n
    rw [show lowL (c :: r) = low c :: lowL r from rfl, lanS]
    by_cases hc : low c = 45
    · rw [if_pos hc, hc, spl_hit, ih]
      obtain ⟨p, t, hp⟩ : ∃ p t, Lib.split (lowL r) [45] = p :: t := by
        match r with
        | [] => exact ⟨[], [], spl_nil 45⟩
        | d :: r =>
          by_cases hd : low d = 45
          · exact ⟨_, _, by rw [show lowL (d :: r) = low d :: lowL r from rfl, hd, spl_hit]⟩
          · obtain ⟨p, t, _, h⟩ := spl_next 45 (low d) (lowL r) hd
            exact ⟨_, _, h⟩
      rw [hp]
      simp [lanM, lanPs, lanP]
    · obtain ⟨p, t, h1, h2⟩ := spl_next 45 (low c) (lowL r) hc
      rw [if_neg hc, ih, h1, h2]
      simp only [lanM, List.length_cons, List.all_cons]
      rw [show n + 1 + p.length = n + (p.length + 1) by omega]
      cases lanC b (low c) <;> cases lanN (n + (p.length + 1)) <;> cases p.all (lanC b) <;> rfl
theorem spl_count (c : UInt8) (l : List UInt8) : (Lib.split l [c]).length ≤ l.length + 1 := by
  induction l with
  | nil => rw [spl_nil]; exact Nat.le_refl _
  | cons d r ih =>
    by_cases h : d = c
    · subst h; rw [spl_hit]; simp only [List.length_cons]; omega
    · obtain ⟨p, t, h1, h2⟩ := spl_next c d r h
      rw [h1] at ih
      rw [h2]
      simp only [List.length_cons] at ih ⊢
      omega
theorem lanOk_eq (s : List UInt8) : lanOk s = lanS false 0 s := by
  rw [lanS_eq]
  unfold lanOk
  cases h : Lib.split (lowL s) [45] with
  | nil => rfl
  | cons p t => simp [lanPs, lanM, lanP]
/-- How the pieces are gone through. -/
theorem lanPs_drop (l : List (List UInt8)) (i : Nat) (p : List UInt8) (h : l[i]? = some p) (b : Bool) : lanPs b (l.drop i) = (lanP b p && lanPs true (l.drop (i + 1))) := by
  obtain ⟨hi, e⟩ := List.getElem?_eq_some_iff.1 h
  rw [List.drop_eq_getElem_cons hi, e]
  rfl
theorem lanS_drop (s : List UInt8) (i : Nat) (c : UInt8) (h : s[i]? = some c) (b : Bool) (n : Nat) : lanS b n (s.drop i) = if low c = 45 then lanN n && lanS true 0 (s.drop (i + 1)) else lanC b (low c) && lanS b (n + 1) (s.drop (i + 1)) := by
  obtain ⟨hi, e⟩ := List.getElem?_eq_some_iff.1 h
  rw [List.drop_eq_getElem_cons hi, e]
  rfl
theorem all_dropL {α : Type} (f : α → Bool) (l : List α) (i : Nat) (p : α) (h : l[i]? = some p) : (l.drop i).all f = (f p && (l.drop (i + 1)).all f) := by
  obtain ⟨hi, e⟩ := List.getElem?_eq_some_iff.1 h
  rw [List.drop_eq_getElem_cons hi, e]
  rfl
/-! Whether a language is met by a word. -/
def preL (n w : List UInt8) : Bool := decide ((lowL n).take (w.length + 1) = lowL w ++ [45])
theorem pre_eq (n w : List UInt8) : (lowL w ++ [45]).isPrefixOf (lowL n) = preL n w := by
  unfold preL
  rw [Bool.eq_iff_iff, List.isPrefixOf_iff_prefix, decide_eq_true_eq, List.prefix_iff_eq_take]
  have e : (lowL w ++ [45]).length = w.length + 1 := by rw [List.length_append, lowL_len]; rfl
  rw [e]
  exact eq_comm
def metL (n w : List UInt8) : Bool := sameL w n || preL n w
theorem preL_eq (n w : List UInt8) : preL n w = (decide (w.length < n.length) && (decide ((lowL n).take w.length = lowL w) && decide ((lowL n)[w.length]? = some 45))) := by
  unfold preL
  rw [Bool.eq_iff_iff]
  simp only [Bool.and_eq_true, decide_eq_true_eq]
  constructor
  · intro h
    have hl := congrArg List.length h
    simp only [List.length_take, List.length_append, List.length_singleton, lowL_len] at hl
    have hlt : w.length < n.length := by omega
    refine ⟨hlt, ?_, ?_⟩
    · have h2 := congrArg (List.take w.length) h
      rw [List.take_take, Nat.min_eq_left (by omega), List.take_left' (lowL_len w)] at h2
      exact h2
    · have h2 : ((lowL n).take (w.length + 1))[w.length]? = (lowL w ++ [45])[w.length]? := by rw [h]
      rw [List.getElem?_take_of_lt (by omega), List.getElem?_append_right (by rw [lowL_len]; exact Nat.le_refl _), lowL_len, Nat.sub_self] at h2
      exact h2
  · rintro ⟨hlt, h1, h2⟩
    rw [List.take_add_one, h1, h2]
    rfl
/-! How a language is liked. -/
def lanT (n : List UInt8) (a : Int × Int) (w : Wgt) : Int × Int := if (!decide (w.1 = [42]) && metL n w.1 && decide (a.1 < (w.1.length : Int))) = true then ((w.1.length : Int), w.2) else a
def lanF (n : List UInt8) (l : List Wgt) : Int × Int := l.foldl (lanT n) (-1, 0)
theorem lanF_take (n : List UInt8) (l : List Wgt) (i : Nat) (p : Wgt) (h : l[i]? = some p) : lanF n (l.take (i + 1)) = lanT n (lanF n (l.take i)) p := by
  rw [List.take_add_one, h, Option.toList_some]
  simp [lanF]
theorem lanT_yes (n : List UInt8) (a : Int × Int) (w : Wgt) (h1 : w.1 ≠ [42]) (h2 : metL n w.1 = true) (h3 : a.1 < (w.1.length : Int)) : lanT n a w = ((w.1.length : Int), w.2) := by
  unfold lanT
  rw [if_pos]
  simp [h1, h2, h3]
theorem lanT_star (n : List UInt8) (a : Int × Int) (w : Wgt) (h1 : w.1 = [42]) : lanT n a w = a := by
  unfold lanT
  rw [if_neg]
  simp [h1]
theorem lanT_unmet (n : List UInt8) (a : Int × Int) (w : Wgt) (h : metL n w.1 = false) : lanT n a w = a := by
  unfold lanT
  rw [if_neg]
  simp [h]
theorem lanT_short (n : List UInt8) (a : Int × Int) (w : Wgt) (h : ¬ a.1 < (w.1.length : Int)) : lanT n a w = a := by
  unfold lanT
  rw [if_neg]
  simp [h]
theorem lanF_ge (n : List UInt8) (l : List Wgt) : -1 ≤ (lanF n l).1 := by
  unfold lanF
  suffices ∀ a : Int × Int, -1 ≤ a.1 → -1 ≤ (l.foldl (lanT n) a).1 from this _ (by decide)
  induction l with
  | nil => intro a h; exact h
  | cons w r ih =>
    intro a h
    rw [List.foldl_cons]
    refine ih _ ?_
    unfold lanT
    split
    · simp only; omega
    · exact h
def lanL (l : List Wgt) (n : List UInt8) : Int := if l.length = 0 then 1000 else if lanOk n = true then (if (lanF n l).1 < 0 then (namP [42] l).getD 0 else (lanF n l).2) else 0
theorem lanL_nil (l : List Wgt) (n : List UInt8) (h : l.length = 0) : lanL l n = 1000 := by unfold lanL; rw [if_pos h]
theorem lanL_bad (l : List Wgt) (n : List UInt8) (h : l.length ≠ 0) (h2 : lanOk n = false) : lanL l n = 0 := by unfold lanL; rw [if_neg h, if_neg (by rw [h2]; simp)]
theorem lanL_none (l : List Wgt) (n : List UInt8) (h : l.length ≠ 0) (h2 : lanOk n = true) (h3 : (lanF n l).1 < 0) : lanL l n = (namP [42] l).getD 0 := by unfold lanL; rw [if_neg h, if_pos h2, if_pos h3]
theorem lanL_some (l : List Wgt) (n : List UInt8) (h : l.length ≠ 0) (h2 : lanOk n = true) (h3 : ¬ (lanF n l).1 < 0) : lanL l n = (lanF n l).2 := by unfold lanL; rw [if_neg h, if_pos h2, if_neg h3]
end Go.Proofs.YtpdbejeiceodkaaGreatDoor
namespace Go.Proofs.YtpdbejeiceodkaaGreatDoor
open Go.RowKit
set_option linter.unusedSimpArgs false
set_option linter.unusedVariables false
set_option maxRecDepth 1000000
/-- A file: path, media type, coding, language, body, time. -/
structure Fil where
  p : List UInt8
  m : List UInt8
  c : List UInt8
  l : List UInt8
  b : List UInt8
  t : Int
def filC (f : Fil) : Array Value := #[.string ⟨f.p.toArray⟩, .string ⟨f.m.toArray⟩, .string ⟨f.c.toArray⟩, .string ⟨f.l.toArray⟩, .string ⟨f.b.toArray⟩, .int .i64 f.t]
abbrev fC (p m c l b : List UInt8) (t : Int) : Array Value := #[.string ⟨p.toArray⟩, .string ⟨m.toArray⟩, .string ⟨c.toArray⟩, .string ⟨l.toArray⟩, .string ⟨b.toArray⟩, .int .i64 t]
def filLen (f : Fil) : Nat := f.p.length + f.m.length + f.c.length + f.l.length + f.b.length
def idnL : List UInt8 := [105, 100, 101, 110, 116, 105, 116, 121]
def nmOk (p : List UInt8) : Bool := decide ((nrm p).2 = 0) && (decide ((nrm p).1 = p) && (!(p.getLast? == some 47) && decide (p.length ≤ 1024)))
def mdmOf (m : List UInt8) : Mdm := ⟨(mdP m).1.1, (mdP m).1.2.1, (mdP m).1.2.2.1⟩
def mdOk (m : List UInt8) : Bool := decide ((mdP m).2 = 0) && (decide ((mprR (mdmOf m)).2 = 0) && decide ((mprR (mdmOf m)).1 = m))
def cdOk (c : List UInt8) : Bool := c.isEmpty || (isTok c && (decide (lowL c = c) && !decide (c = idnL)))
def tmOk (t : Int) : Bool := decide (t = -1) || (decide (-62135596800 ≤ t) && decide (t ≤ 253402300799))
def lgOk (l : List UInt8) : Bool := l.isEmpty || lanOk l
/-- A file is right. -/
def rgt (f : Fil) : Bool := nmOk f.p && (mdOk f.m && (cdOk f.c && (tmOk f.t && lgOk f.l)))
/-- Two files are alike. -/
def alkF (a b : Fil) : Bool := decide (a.p = b.p) && (sameL a.m b.m && (decide (a.c = b.c) && sameL a.l b.l))
theorem cd_low (c : List UInt8) (h : cdOk c = true) : lowL c = c := by
  unfold cdOk at h
  cases c with
  | nil => rfl
  | cons x r =>
    simp only [List.isEmpty_cons, Bool.false_or, Bool.and_eq_true, decide_eq_true_eq] at h
    exact h.2.1
theorem sameC (a b : List UInt8) (ha : cdOk a = true) (hb : cdOk b = true) : sameL a b = decide (a = b) := by unfold sameL; rw [cd_low a ha, cd_low b hb]
theorem rgt_cd (f : Fil) (h : rgt f = true) : cdOk f.c = true := by unfold rgt at h; simp only [Bool.and_eq_true] at h; exact h.2.2.1
/-- The place and the error of the first file that is wrong: behind those of 'pre'. -/
def fck : List Fil → List Fil → Nat × Nat
  | _, [] => (0, 0)
  | pre, f :: r => if pre.length = 4096 then (4096, 170) else if rgt f = false then (pre.length, 170) else if pre.any (fun a => alkF a f) = true then (pre.length, 171) else fck (pre ++ [f]) r
theorem fck_nil (pre : List Fil) : fck pre [] = (0, 0) := rfl
theorem fck_step (l : List Fil) (i : Nat) (f : Fil) (h : l[i]? = some f) : fck (l.take i) (l.drop i) = if i = 4096 then (4096, 170) else if rgt f = false then (i, 170) else if (l.take i).any (fun a => alkF a f) = true then (i, 171) else fck (l.take (i + 1)) (l.drop (i + 1)) := by
  have hi := (List.getElem?_eq_some_iff.1 h).1
  have hd : l.drop i = f :: l.drop (i + 1) := by rw [List.drop_eq_getElem_cons hi, (List.getElem?_eq_some_iff.1 h).2]
  have ht : l.take (i + 1) = l.take i ++ [f] := by rw [List.take_add_one, h]; rfl
  rw [hd, ht, fck]
  simp only [List.length_take, Nat.min_eq_left (Nat.le_of_lt hi)]
/-- What Check's zero says. -/
theorem fck_ok : ∀ (r pre : List Fil), pre.length ≤ 4096 → (fck pre r).2 = 0 → (pre ++ r).length ≤ 4096 ∧ r.all rgt = true
  | [], pre, h, _ => by simp; exact h
  | f :: r, pre, h, h0 => by
    rw [fck] at h0
    by_cases h1 : pre.length = 4096
    · rw [if_pos h1] at h0; cases h0
    · rw [if_neg h1] at h0
      cases hr : rgt f with
      | false => rw [hr, if_pos rfl] at h0; cases h0
      | true =>
        rw [hr, if_neg (by decide)] at h0
        cases ha : pre.any (fun a => alkF a f) with
        | true => rw [ha, if_pos rfl] at h0; cases h0
        | false =>
          rw [ha, if_neg (by decide)] at h0
          have := fck_ok r (pre ++ [f]) (by simp; omega) h0
          refine ⟨by simpa using this.1, ?_⟩
          rw [List.all_cons, hr, this.2]; rfl
/-- The places of the files with a path. -/
def vrt (l : List Fil) (p : List UInt8) : List Nat := (List.range l.length).filter fun i => decide ((l[i]?).map Fil.p = some p)
theorem vrt_nil (p : List UInt8) : vrt [] p = [] := rfl
theorem vrt_snoc (l : List Fil) (f : Fil) (p : List UInt8) : vrt (l ++ [f]) p = if f.p = p then vrt l p ++ [l.length] else vrt l p := by
  unfold vrt
  rw [List.length_append, List.length_singleton, List.range_succ, List.filter_append]
  have h1 : (List.range l.length).filter (fun i => decide (((l ++ [f])[i]?).map Fil.p = some p)) = (List.range l.length).filter (fun i => decide ((l[i]?).map Fil.p = some p)) := by
    apply List.filter_congr
    intro i hi
    rw [List.getElem?_append_left (List.mem_range.1 hi)]
  rw [h1]
  have h2 : (l ++ [f])[l.length]? = some f := by simp
  by_cases hp : f.p = p
  · rw [if_pos hp, List.filter_cons_of_pos (by rw [h2]; simp [hp])]; rfl
  · rw [if_neg hp, List.filter_cons_of_neg (by rw [h2]; simp [hp])]; simp
theorem vrt_mem (l : List Fil) (p : List UInt8) (k : Nat) : k ∈ vrt l p ↔ ∃ f, l[k]? = some f ∧ f.p = p := by
  unfold vrt
  rw [List.mem_filter, List.mem_range]
  constructor
  · rintro ⟨h1, h2⟩
    have h2 := of_decide_eq_true h2
    rw [List.getElem?_eq_getElem h1] at h2
    exact ⟨_, List.getElem?_eq_getElem h1, by simpa using h2⟩
  · rintro ⟨f, hf, hp⟩
    exact ⟨(List.getElem?_eq_some_iff.1 hf).1, by rw [hf]; simp [hp]⟩
theorem vrt_len (l : List Fil) (p : List UInt8) : (vrt l p).length ≤ l.length := by
  have := List.length_filter_le (fun i => decide ((l[i]?).map Fil.p = some p)) (List.range l.length)
  rwa [List.length_range] at this
/-- Alike: among those of the path. -/
def alkV (l : List Fil) (f : Fil) (v : List Nat) : Bool := v.any fun k => match l[k]? with | some a => alkF a f | none => false
theorem alk_vrt (l : List Fil) (f : Fil) : alkV l f (vrt l f.p) = l.any fun a => alkF a f := by
  rw [Bool.eq_iff_iff]
  unfold alkV
  rw [List.any_eq_true, List.any_eq_true]
  constructor
  · rintro ⟨k, hk, h⟩
    obtain ⟨a, ha, hp⟩ := (vrt_mem l f.p k).1 hk
    rw [ha] at h
    exact ⟨a, List.mem_of_getElem? ha, h⟩
  · rintro ⟨a, ha, h⟩
    obtain ⟨k, hk⟩ := List.getElem?_of_mem ha
    refine ⟨k, (vrt_mem l f.p k).2 ⟨a, hk, ?_⟩, by rw [hk]; exact h⟩
    unfold alkF at h
    rw [Bool.and_eq_true] at h
    exact of_decide_eq_true h.1
end Go.Proofs.YtpdbejeiceodkaaGreatDoor
namespace Go.Proofs.YtpdbejeiceodkaaGreatDoor
open Go.RowKit
set_option linter.unusedSimpArgs false
set_option linter.unusedVariables false
set_option maxRecDepth 1000000
theorem trpA (i : Int) (w : World) (hi : i = 0 ∨ i = 1) : Calls Tryz.prog 140 #[.string (⟨#[47, 97]⟩ : ByteArray), .int .i64 i] w fun e w' => e = .returned (.tuple #[.int .u8 0, .bool false]) ∧ w' = w := by
  rcases hi with rfl | rfl
  all_goals
    go_enter Tryz.func140, Tryz.ntmps140
    go_wp2
    go_ret2
    exact ⟨rfl, by first | rfl | trivial⟩
theorem clsA47 (w : World) : Calls Tryz.prog 141 #[.int .u8 47] w fun e w' => e = .returned (.int .i64 8) ∧ w' = w := by
  have h1 := Tryz.strings_IndexByte ⟨#[45, 46, 95, 126]⟩ 47 w
  have h2 := Tryz.strings_IndexByte ⟨#[33, 36, 38, 39, 40, 41, 42, 43, 44, 59, 61]⟩ 47 w
  rw [show Lib.indexByte (⟨#[45, 46, 95, 126]⟩ : ByteArray).data.toList (47 : Int).toNat.toUInt8 = -1 by decide] at h1
  rw [show Lib.indexByte (⟨#[33, 36, 38, 39, 40, 41, 42, 43, 44, 59, 61]⟩ : ByteArray).data.toList (47 : Int).toNat.toUInt8 = -1 by decide] at h2
  go_enter Tryz.func141, Tryz.ntmps141
  go_wp2_with fail
  refine h1.mono ?_
  rintro e w1 ⟨rfl, rfl⟩
  go_wp2_with fail
  refine h2.mono ?_
  rintro e w1 ⟨rfl, rfl⟩
  go_wp2
  go_ret
  exact ⟨rfl, by first | rfl | trivial⟩
theorem clsA97 (w : World) : Calls Tryz.prog 141 #[.int .u8 97] w fun e w' => e = .returned (.int .i64 1) ∧ w' = w := by
  go_enter Tryz.func141, Tryz.ntmps141
  go_wp2
  go_ret
  exact ⟨rfl, by first | rfl | trivial⟩
theorem bits8 : (bits BinOp.and IntKind.i64 8 15 == 0) = false := by kernel_rfl
theorem bits1 : (bits BinOp.and IntKind.i64 1 15 == 0) = false := by kernel_rfl
theorem sgnA (w : World) : Calls Tryz.prog 176 #[.string (⟨#[47, 97]⟩ : ByteArray), .int .i64 15] w fun e w' => e = .returned (.int .i64 2) ∧ w' = w := by
  have q8 := bits8
  have q1 := bits1
  go_enter Tryz.func176, Tryz.ntmps176
  go_wp2
  refine wp_loop_rounds 3 ?_
  rw [rounds_succ]
  go_wp2_with fail
  refine (trpA 0 w (.inl rfl)).mono ?_
  rintro e w1 ⟨rfl, rfl⟩
  go_wp2_with fail
  refine (clsA47 _).mono ?_
  rintro e w1 ⟨rfl, rfl⟩
  go_wp2
  rw [rounds_succ]
  go_wp2_with fail
  refine (trpA 1 _ (.inr rfl)).mono ?_
  rintro e w1 ⟨rfl, rfl⟩
  go_wp2_with fail
  refine (clsA97 _).mono ?_
  rintro e w1 ⟨rfl, rfl⟩
  go_wp2
  rw [rounds_succ]
  go_wp2
  go_ret
  exact ⟨rfl, by first | rfl | trivial⟩
theorem hasPreA (w : World) : Calls Tryz.prog 96 #[.string (⟨#[47, 97]⟩ : ByteArray), .string ⟨#[47]⟩] w fun e w' => e = .returned (.bool true) ∧ w' = w := Tryz.strings_HasPrefix (⟨#[47, 97]⟩ : ByteArray) ⟨#[47]⟩ w
theorem isPathA (w : World) : Calls Tryz.prog 139 #[.string (⟨#[47, 97]⟩ : ByteArray)] w fun e w' => e = .returned (.bool true) ∧ w' = w := by
  go_enter Tryz.func139, Tryz.ntmps139
  go_wp2_with fail
  refine (hasPreA w).mono ?_
  rintro e w1 ⟨rfl, rfl⟩
  go_wp2_with fail
  refine (sgnA _).mono ?_
  rintro e w1 ⟨rfl, rfl⟩
  go_wp2
  go_ret
  exact ⟨rfl, by first | rfl | trivial⟩
theorem joinA (w : World) (ao : Option Addr) (b cap : Nat) (hc : w.cell? ⟨b, 0, none⟩ = some (.string ⟨#[97]⟩)) : Calls Tryz.prog 145 #[.slice (some ⟨b, 0, none⟩) 1 cap, .string ⟨#[47]⟩] w fun e w' => e = .returned (.string ⟨#[97]⟩) ∧ w' = w := by
  go_enter Tryz.func145, Tryz.ntmps145
  go_wp2
  go_ret
  exact ⟨rfl, by first | rfl | trivial⟩
theorem cutPreA (w : World) : Calls Tryz.prog 45 #[.string (⟨#[47, 97]⟩ : ByteArray), .string ⟨#[47]⟩] w fun e w' => e = .returned (.tuple #[.string ⟨#[97]⟩, .bool true]) ∧ w' = w := Tryz.strings_CutPrefix (⟨#[47, 97]⟩ : ByteArray) ⟨#[47]⟩ w
end Go.Proofs.YtpdbejeiceodkaaGreatDoor
namespace Go.Proofs.YtpdbejeiceodkaaGreatDoor
open Go.RowKit Go.Shelf
attribute [local go_sem] Oper.semAt_some
set_option linter.unusedSimpArgs false
set_option linter.unusedVariables false
set_option maxRecDepth 1000000
theorem cutA (m : Int) (w : World) (hm : w.cell? ⟨0, 0, none⟩ = some (.int .i64 m)) : Calls Tryz.prog 46 #[.string ⟨#[97]⟩, .string ⟨#[47]⟩] w fun e w' => e = .returned (.tuple #[.string ⟨#[97]⟩, .string ⟨#[]⟩, .bool false]) ∧ ∃ n, w' = w.drewN n := by
  have h := Tryz.strings_Cut ⟨#[97]⟩ ⟨#[47]⟩ m w (by decide) hm
  rw [show Lib.cut (⟨#[97]⟩ : ByteArray).data.toList (⟨#[47]⟩ : ByteArray).data.toList = ([97], [], false) by decide] at h
  exact h
theorem grown_drewN (w : World) (n : Nat) : w.grownBy (w.drewN n) none := ⟨rfl, rfl, rfl, Nat.le_refl _, fun k _ _ => rfl⟩
set_option maxHeartbeats 2000000 in
theorem eachA_in (n l Bx n₀ : Nat) (hn : 1 ≤ n) (m : Int) (J Jx : List Unit → World → Prop)
    (hY : ∀ pre x W, J pre W → pre.length < 1 → YieldAt Fence.wide (n - 1) Tryz.prog l #[.string ⟨#[97]⟩] W fun e W' =>
      (e = .returned (.bool true) ∧ J (pre ++ [x]) W' ∧ Below n₀ W W') ∨ (e = .returned (.bool false) ∧ Jx (pre ++ [x]) W'))
    (W : World) (hJ : AbidesFrom W.heap.size J) (hBx : W.cell? ⟨Bx, 0, none⟩ = some (.string (⟨#[47, 97]⟩ : ByteArray))) (hm : W.cell? ⟨0, 0, none⟩ = some (.int .i64 m)) (h0 : J [] W) :
    CallsIn Fence.wide n Tryz.prog 179 #[.func (.yield l) #[] #[], .pointer (some ⟨Bx, 0, none⟩)] W fun e W' => (∃ v, e = .returned v) ∧
      ((∃ ys, ys = [()] ∧ J ys W') ∨ (∃ pre, pre <+: [()] ∧ Jx pre W')) := by
  refine callsIn_of_wp Tryz.func179 rfl trivial ?_ rfl
  simp only [Tryz.ntmps179, List.size_toArray, List.length_cons, List.length_nil, Nat.reduceAdd, Nat.reduceSub, Array.replicate_succ, Array.replicate_zero, List.push_toArray, List.append_toArray, List.nil_append, List.cons_append]
  gi_wp2_with (refine ⟨trivial, ?_⟩; gi_at_call 45; refine (callsIn_wide.2 (cutPreA _)).mono ?_; rintro e W ⟨rfl, rfl⟩)
  refine wpIn_loop_rounds 2 ?_
  rw [roundsIn_succ]
  gi_wp2_with (refine ⟨trivial, ?_⟩; gi_at_call 46; refine (callsIn_wide.2 (cutA m _ hm)).mono ?_; rintro e w' ⟨rfl, k, rfl⟩; obtain ⟨fn, tmps, assign, body, hy, hR⟩ := hY [] () (W.drewN k) (hJ [] W (W.drewN k) none h0 (grown_drewN W k) (fun r e => by cases e)) (by decide))
  refine hR.mono ?_
  rintro e W3 (⟨rfl, hJ3, hk3⟩ | ⟨rfl, hJx3⟩)
  · gi_wp2
    rw [roundsIn_succ]
    gi_wp2
    go_end0
    exact ⟨⟨_, rfl⟩, .inl ⟨[()], rfl, hJ3⟩⟩
  · gi_wp2
    refine bodyPost_ret (results_none rfl _ _ _) rfl ?_
    exact ⟨⟨_, rfl⟩, .inr ⟨[()], ⟨[], rfl⟩, hJx3⟩⟩
theorem eachA_stops (n Bx n₀ : Nat) (hn : 1 ≤ n) (m : Int) (w : World) (hBx : Bx < w.heap.size) (hc : w.cell? ⟨Bx, 0, none⟩ = some (.string (⟨#[47, 97]⟩ : ByteArray))) (hm : w.cell? ⟨0, 0, none⟩ = some (.int .i64 m)) :
    SeqStopsK Fence.wide n Tryz.prog 179 #[.pointer (some ⟨Bx, 0, none⟩)] (fun _ : Unit => #[Value.string ⟨#[97]⟩]) (Below n₀) (fun ys => ys = [()]) (fun pre => pre <+: [()]) 1 w := fun l J Jx W hW hJ _ hY h0 =>
  eachA_in n l Bx n₀ hn m J Jx hY W hJ ((hW.cell (p := ⟨Bx, 0, none⟩) hBx).trans hc) (mx_later (B := 0) hm hW) h0
theorem bld_laterT {B b : Nat} {T e : TypeId} {bs : List Value} {w w' : World} (h : Lib.IsBuilder T e B b bs w) (hb : Below w.heap.size w w') : Lib.IsBuilder T e B b bs w' := by
  have key : ∀ p, Lib.BuilderAt T e B b p bs w → Lib.BuilderAt T e B b p bs w' := fun p ⟨h1, v, h2, h3, h4⟩ =>
    ⟨h1, v, by rw [hb.block b (Array.getElem?_eq_some_iff.1 h2).1]; exact h2, own_later h3 hb, h4⟩
  rcases h with h | h
  · exact Or.inl (key _ h)
  · exact Or.inr (key _ h)
theorem strA (B b : Nat) (w : World) (h : Lib.IsBuilder 156 5 B b (Lib.byteCells [47, 97]) w) (hB : B ≤ w.heap.size) :
    Calls Tryz.prog 94 #[.pointer (some ⟨b, 0, none⟩)] w fun e w' => e = .returned (.string (⟨#[47, 97]⟩ : ByteArray)) ∧ Below B w w' ∧ Lib.OthersKept 5 (some b) w w' :=
  (Any.Builder_String_any_k Tryz.lays169 Tryz.Builder_Extra_169 B b [47, 97] w (Lib.IsBuilderF.of h) hB).mono fun e w' ⟨he, _, h1, h2⟩ => ⟨he, h1, h2⟩
theorem boxed_kept {w w' : World} {b B : Nat} {t : TypeId} {v : Value} (h : Boxed w B t v) (hk : Lib.OthersKept 5 (some b) w w') (hne : B ≠ b) (ht : t ≠ 5) : Boxed w' B t v :=
  hk B _ h (fun e => hne (by injection e)) (fun c fz e => by injection e with _ e; exact ht e)
def NrmI (w : World) (B1 B2 : Nat) (pre : List Unit) (W : World) : Prop :=
  ((∃ v, Boxed W B1 34 v ∧ W.ownsRow w.heap.size 9 1 v pre.length (pre.map fun _ => Value.string (⟨#[97]⟩ : ByteArray)) ∧ True) ∧ Boxed W B2 4 (.bool false)) ∧ Below w.heap.size w W
theorem nrmI_own (w : World) (B1 B2 B : Nat) (hB : w.heap.size ≤ B) : OwnFrom B (NrmI w B1 B2) :=
  OwnFrom.and (OwnFrom.and (Own.from (holdsRow_own w.heap.size B1 34 9 1 (fun pre : List Unit => pre.length) (fun pre => pre.map fun _ => Value.string (⟨#[97]⟩ : ByteArray)) (fun _ _ => True)) _) (Own.from (boxed_own B2 4 (fun _ => .bool false)) _)) (ownFrom_below (Nat.le_refl _) hB)
theorem eachA_call (w : World) : Calls Tryz.prog 144 #[.string (⟨#[47, 97]⟩ : ByteArray)] w fun e w' => e = .returned (.func (.func 179) #[] #[.pointer (some ⟨w.heap.size, 0, none⟩)]) ∧ w' = w.alloc (.cells #[.string (⟨#[47, 97]⟩ : ByteArray)] 9) := by
  go_enter Tryz.func144, Tryz.ntmps144
  go_wp2
  go_ret
  exact ⟨rfl, rfl⟩
theorem infoStrN : (Tryz.prog.info? 9).map (fun i => (i.zero, i.size, i.bytes)) = some (some (.string ByteArray.empty), 1, 16) := by kernel_rfl
set_option maxHeartbeats 4000000 in
theorem normA (m : Int) (w : World) (hm : w.cell? ⟨0, 0, none⟩ = some (.int .i64 m)) : Calls Tryz.prog 98 #[.string (⟨#[47, 97]⟩ : ByteArray)] w fun e w' => e = .returned (.tuple #[.string (⟨#[47, 97]⟩ : ByteArray), .int .i64 0]) ∧ Below w.heap.size w w' := by
  obtain ⟨i0, hi, hz0, hz1, hz2⟩ := info_parts infoStrN
  have hbl := Lib.fresh_isBuilder 156 5 w
  refine (callsIn_wide (n := 9)).1 ?_
  refine callsIn_of_wp_marks Tryz.func98 rfl trivial ?_ rfl
  simp only [Tryz.ntmps98, List.size_toArray, List.length_cons, List.length_nil, Nat.reduceAdd, Nat.reduceSub, Array.replicate_succ, Array.replicate_zero, List.push_toArray, List.append_toArray, List.nil_append, List.cons_append]
  gi_wp2_with (refine ⟨trivial, ?_⟩; gi_at_call 139; refine (callsIn_wide.2 (isPathA _)).mono ?_; rintro e w ⟨rfl, rfl⟩)
  have z0 : w.heap.size ≤ (w.alloc (.cells #[.pointer none, .slice none 0 0] 156)).heap.size := by simp
  have hb0 := (Below.refl _ w).alloc (Nat.le_refl _) (.cells #[.pointer none, .slice none 0 0] 156)
  refine wpIn_loop_rounds 3 ?_
  rw [roundsIn_succ]
  gi_wp2_with (refine ⟨trivial, ?_⟩; gi_at_call 140; refine (callsIn_wide.2 (trpA 0 _ (.inl rfl))).mono ?_; rintro e w2 ⟨rfl, hw2⟩; subst hw2)
  gi_wp2_with (refine ⟨trivial, ?_⟩; gi_at_call 93; refine (callsIn_wide.2 (writeByte_any w.heap.size w.heap.size [] 47 _ hbl (by decide) z0)).mono ?_; rintro e w3 ⟨rfl, hbl3, hb3⟩)
  have hbw3 : Below w.heap.size w w3 := hb0.trans hb3
  have z3 := hbw3.size
  rw [roundsIn_succ]
  gi_wp2_with (refine ⟨trivial, ?_⟩; gi_at_call 140; refine (callsIn_wide.2 (trpA 1 _ (.inr rfl))).mono ?_; rintro e w4 ⟨rfl, hw4⟩; subst hw4)
  gi_wp2_with (refine ⟨trivial, ?_⟩; gi_at_call 93; refine (callsIn_wide.2 (writeByte_any w.heap.size w.heap.size _ 97 _ hbl3 (by decide) z3)).mono ?_; rintro e w5 ⟨rfl, hbl5, hb5⟩)
  have hbw5 : Below w.heap.size w w5 := hbw3.trans hb5
  have z5 := hbw5.size
  have hbl5 : Lib.IsBuilder 156 5 w.heap.size w.heap.size (Lib.byteCells [47, 97]) w5 := hbl5
  rw [roundsIn_succ]
  have hb56 : Below w5.heap.size w5 ((w5.alloc (.cells #[.slice none 0 0] 34)).alloc (.cells #[.bool false] 4)) := ((Below.refl _ w5).alloc (Nat.le_refl _) _).alloc (by simp) _
  have z6 : w.heap.size ≤ ((w5.alloc (.cells #[.slice none 0 0] 34)).alloc (.cells #[.bool false] 4)).heap.size := by simp; omega
  have x1 : Boxed ((w5.alloc (.cells #[.slice none 0 0] 34)).alloc (.cells #[.bool false] 4)) w5.heap.size 34 (.slice none 0 0) := (Boxed.new w5 34 _).alloc _
  have x2 : Boxed ((w5.alloc (.cells #[.slice none 0 0] 34)).alloc (.cells #[.bool false] 4)) (w5.heap.size + 1) 4 (.bool false) := by have := Boxed.new (w5.alloc (.cells #[.slice none 0 0] 34)) 4 (.bool false); rwa [World.size_alloc] at this
  have zb : w.heap.size < w5.heap.size := by have := hb5.size; have := hb3.size; simp at this; omega
  gi_wp2_with (first
    | (refine ⟨trivial, ?_⟩; gi_at_call 94; refine (callsIn_wide.2 (strA w.heap.size w.heap.size _ (bld_laterT hbl5 hb56) z6)).mono ?_; rintro e w6 ⟨rfl, hb6, hk6⟩)
    | (refine ⟨trivial, ?_⟩; gi_at_call 144; refine (callsIn_wide.2 (eachA_call _)).mono ?_; rintro e w7 ⟨rfl, rfl⟩))
  have hb06 : Below w.heap.size w w6 := (hbw5.trans (hb56.mono z5)).trans hb6
  have y1 := boxed_kept x1 hk6 (by omega) (by decide)
  have y2 := boxed_kept x2 hk6 (by omega) (by decide)
  have z66 := hb06.size
  have hmw : (w6.alloc (.cells #[.string (⟨#[47, 97]⟩ : ByteArray)] 9)).cell? ⟨0, 0, none⟩ = some (.int .i64 m) := mx_later (B := 0) hm (hb06.alloc z66 _)
  have y3 := Boxed.new w6 9 (.string (⟨#[47, 97]⟩ : ByteArray))
  have hq : (⟨#[47]⟩ : ByteArray) ++ (⟨#[97]⟩ : ByteArray) = ⟨#[47, 97]⟩ := by decide
  refine wpIn_rangeFunc_ownF (F := Fence.wide) rfl (by decide) (gf := 179) (lb := #[.pointer (some ⟨w6.heap.size, 0, none⟩)]) rfl trivial (enters_of Tryz.func179 (by kernel_rfl) rfl)
    (eachA_stops _ w6.heap.size w.heap.size (by decide) m _ (by simp) y3.cell hmw) belowK_t (belowK_b (by simp; omega)) (Below.refl _ _) (fun _ => rfl)
    (NrmI w w5.heap.size (w5.heap.size + 1)) (fun _ _ _ => False) (nrmI_own w _ _ _ (by simp; omega)) (fun _ _ _ _ _ hs _ _ => hs)
    ⟨⟨⟨_, y1.alloc _, World.ownsRow_nil _ _ _ _, trivial⟩, y2.alloc _⟩, hb06.alloc z66 _⟩ ?a1 ?assign ?body ?done ?stop
  case assign =>
    intro l x W K hK
    gi_wp2
    exact hK
  case body =>
    rintro l pre x W ⟨⟨⟨v, hv, hrow, _⟩, hd⟩, hB⟩ hlt
    obtain rfl : pre = [] := List.eq_nil_of_length_eq_zero (by omega)
    have hv1 : Boxed (W.setCell ⟨w5.heap.size + 1, 0, none⟩ (.bool false)) w5.heap.size 34 v := hv.kept (grownBy_setCell' W (w5.heap.size + 1) (.bool false)) (by simp)
    have hd1 : Boxed (W.setCell ⟨w5.heap.size + 1, 0, none⟩ (.bool false)) (w5.heap.size + 1) 4 (.bool false) := hd.set _
    have hr1 : (W.setCell ⟨w5.heap.size + 1, 0, none⟩ (.bool false)).ownsRow w.heap.size 9 1 v 0 [] := hrow.kept (grownBy_setCell' W (w5.heap.size + 1) (.bool false)) (.inr (hd.not_row (by decide) hrow).symm)
    have hb1 : Below w.heap.size W (W.setCell ⟨w5.heap.size + 1, 0, none⟩ (.bool false)) := (Below.refl _ W).setCell (p := ⟨w5.heap.size + 1, 0, none⟩) (by simp; omega) _
    have hk1 : KeepsOthers W (W.setCell ⟨w5.heap.size + 1, 0, none⟩ (.bool false)) := KeepsOthers.setCell _ _ _
    have hz1' : w.heap.size ≤ (W.setCell ⟨w5.heap.size + 1, 0, none⟩ (.bool false)).heap.size := (hB.trans hb1).size
    have f2 := hd.frozen
    have c0 := hd.cell
    have hsz : (W.setCell ⟨w5.heap.size + 1, 0, none⟩ (.bool false)).heap.size = W.heap.size := by simp
    have hcn := cell_one_new (W.setCell ⟨w5.heap.size + 1, 0, none⟩ (.bool false)) (.string (⟨#[97]⟩ : ByteArray)) 9
    rw [hsz] at hcn
    have c1 := hv1.cell
    have c2 := hd1.cell
    gi_wp2_with (gi_at_builtin; refine wpListIn_append_own _ rfl _ _ 34 rfl w.heap.size 9 i0 (.string ByteArray.empty) 1 16 Tryz.underlying34 hi hz0 hz1 hz2 rfl (by decide) _ _ _ rfl (hr1.alloc _) ⟨W.heap.size, 0, none⟩ 1 1 [.string (⟨#[97]⟩ : ByteArray)] rfl rfl hcn (by simp [Value.oneCell']) (by decide) (by decide) (by simp at hz1' ⊢; omega) ?_; intro v' w9 hown' hgrow _; obtain ⟨g', cap', rfl⟩ := ownsRow_succ hown'; obtain ⟨hv9, hv2, hr2, hk2, hb2⟩ := hv1.appended (by decide) hr1 hz1' (by omega) hown' hgrow; have hc9 := hv9.cell; have hf9 := hv9.frozen; have hd9 := ((hd1.alloc (.cells #[.string (⟨#[97]⟩ : ByteArray)] 9)).kept hgrow (hd1.not_row (by decide) hr1)).kept (grownBy_setCell' w9 w5.heap.size (.slice (some ⟨g', 0, none⟩) (0 + 1) cap')) (by simp))
    exact ⟨hk1.trans hk2, hb1.trans hb2, ⟨⟨_, hv2, hr2, trivial⟩, hd9⟩, hB.trans (hb1.trans hb2)⟩
  case done =>
    rintro D ys W hD hys ⟨⟨⟨v, hv, hrow, _⟩, hd⟩, hB⟩ hK
    subst hys
    obtain ⟨g, cap, rfl⟩ := ownsRow_succ hrow
    have cg : W.cell? ⟨g, 0, none⟩ = some (.string (⟨#[97]⟩ : ByteArray)) := hrow.cells (g := g) rfl 0 _ rfl
    have c1 := hv.cell
    have c2 := hd.cell
    gi_wp2_with (refine ⟨trivial, ?_⟩; gi_at_call 145; refine (callsIn_wide.2 (joinA _ none g cap cg)).mono ?_; rintro e w' ⟨rfl, rfl⟩)
    refine ⟨by simp, .inl ⟨_, _, rfl, run_takeDeferred hK, ?_⟩⟩
    exact ⟨_, results_tmp2 rfl _ _ _, rfl, hB.trans (belowK_b (w := w) (Nat.le_refl _) _ D _ _ (by simp at hD; omega) hK rfl rfl)⟩
  case stop =>
    rintro D c pre W _ _ h _
    exact h.elim
end Go.Proofs.YtpdbejeiceodkaaGreatDoor
