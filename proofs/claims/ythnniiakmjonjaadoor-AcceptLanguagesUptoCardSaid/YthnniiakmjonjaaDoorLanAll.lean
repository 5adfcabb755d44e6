/- Languages: plain, the walks of both sides, and of turnpikelaw07.AcceptLanguages (five texts in one). Conditions: at most 2^30 words and offers; names of at most 2^40 bytes, offers of at most 2^31; bytealg's MaxLen holds an int; octet.signs holds what the text lays. -/
import Derived.Test.YthnniiakmjonjaaDoorCodP
import Derived.Lib.Split
import Derived.Lib.SplitLaws
import Derived.Lib.CutLaws
import Derived.Lib.IndexBytes
import Derived.Test.YthnniiakmjonjaaDoorMda
import Derived.Test.YthnniiakmjonjaaDoorOct7
import Derived.Deep.DeepCutAuto
import Derived.Test.YthnniiakmjonjaaDoorOct2
import Derived.Test.YthnniiakmjonjaaDoorCod
import Derived.Test.YthnniiakmjonjaaDoorRegH
import Derived.Test.YthnniiakmjonjaaDoorLawMeet
namespace Go.Proofs.YthnniiakmjonjaaDoor
open Go.RowKit
set_option linter.unusedSimpArgs false
set_option linter.unusedVariables false
set_option maxRecDepth 1000000
/-! The pieces, byte by byte. -/
theorem ix_nil (c : UInt8) : Lib.index [] [c] = -1 := by rw [Lib.index_one]; rfl
theorem ix_hit (c : UInt8) (r : List UInt8) : Lib.index (c :: r) [c] = 0 := by rw [Lib.index_one]; simp [Lib.indexByte]
theorem ix_next (c d : UInt8) (r : List UInt8) (h : d ≠ c) : Lib.index (d :: r) [c] = if Lib.index r [c] = -1 then -1 else Lib.index r [c] + 1 := by
  rw [Lib.index_one, Lib.index_one]
  simp only [Lib.indexByte]
  rw [if_neg (by simpa using h)]
  simp
theorem spl_nil (c : UInt8) : Lib.split [] [c] = [[]] := by
  unfold Lib.split
  rw [Lib.count_miss (ix_nil c)]
  rfl
theorem spl_miss (c : UInt8) (l : List UInt8) (h : Lib.index l [c] = -1) : Lib.split l [c] = [l] := by
  unfold Lib.split
  rw [Lib.count_miss h]
  rfl
theorem spl_at (c : UInt8) (l : List UInt8) (i : Nat) (h : Lib.index l [c] = i) : Lib.split l [c] = l.take i :: Lib.split (l.drop (i + 1)) [c] := by
  unfold Lib.split
  rw [Lib.count_hit (by simp) h, Nat.add_comm, Lib.splitK, if_neg (by simp; omega), h]
  simp
theorem spl_hit (c : UInt8) (r : List UInt8) : Lib.split (c :: r) [c] = [] :: Lib.split r [c] := by
  rw [spl_at c (c :: r) 0 (ix_hit c r)]
  rfl
theorem spl_next (c d : UInt8) (r : List UInt8) (h : d ≠ c) : ∃ p t, Lib.split r [c] = p :: t ∧ Lib.split (d :: r) [c] = (d :: p) :: t := by
  by_cases hm : Lib.index r [c] = -1
  · exact ⟨r, [], spl_miss c r hm, spl_miss c (d :: r) (by rw [ix_next c d r h, if_pos hm])⟩
  · have hge : -1 ≤ Lib.index r [c] := by rw [Lib.index_one]; exact Lib.indexByte_ge _ _
    obtain ⟨i, hi⟩ : ∃ i : Nat, Lib.index r [c] = i := ⟨(Lib.index r [c]).toNat, by omega⟩
    refine ⟨r.take i, Lib.split (r.drop (i + 1)) [c], spl_at c r i hi, ?_⟩
    rw [spl_at c (d :: r) (i + 1) (by rw [ix_next c d r h, if_neg hm, hi]; rfl)]
    rfl
/-! What is a language. -/
def lanLt (c : UInt8) : Bool := decide (97 ≤ c.toNat) && decide (c.toNat ≤ 122)
def lanDg (c : UInt8) : Bool := decide (48 ≤ c.toNat) && decide (c.toNat ≤ 57)
def lanC (b : Bool) (c : UInt8) : Bool := lanLt c || (b && lanDg c)
def lanN (n : Nat) : Bool := decide (1 ≤ n) && decide (n ≤ 8)
/-- One piece; b: it is not the first. -/
def lanP (b : Bool) (p : List UInt8) : Bool := lanN p.length && p.all (lanC b)
def lanPs : Bool → List (List UInt8) → Bool
  | _, [] => true
  | b, p :: r => lanP b p && lanPs true r
def lanOk (s : List UInt8) : Bool := lanPs false (Lib.split (lowL s) [45])
theorem low_lt (c : UInt8) : lanLt (low c) = decide ((65 ≤ c.toNat ∧ c.toNat ≤ 90) ∨ (97 ≤ c.toNat ∧ c.toNat ≤ 122)) := by
  unfold lanLt low
  have := c.toNat_lt
  rw [Bool.eq_iff_iff]
  simp only [Bool.and_eq_true, decide_eq_true_eq]
  split
  · rw [UInt8.toNat_ofNat']; omega
  · omega
theorem low_dg (c : UInt8) : lanDg (low c) = decide (48 ≤ c.toNat ∧ c.toNat ≤ 57) := by
  unfold lanDg low
  have := c.toNat_lt
  rw [Bool.eq_iff_iff]
  simp only [Bool.and_eq_true, decide_eq_true_eq]
  split
  · rw [UInt8.toNat_ofNat']; omega
  · omega
theorem low_dash (c : UInt8) : low c = 45 ↔ c = 45 := by
  unfold low
  constructor
  · intro h
    split at h
    · rename_i hc
      have := congrArg UInt8.toNat h
      rw [UInt8.toNat_ofNat'] at this
      simp at this
      omega
    · exact h
  · rintro rfl
    rfl
/-- Byte by byte: so many stand behind the last '-'. -/
def lanS : Bool → Nat → List UInt8 → Bool
  | _, n, [] => lanN n
  | b, n, c :: r => if low c = 45 then lanN n && lanS true 0 r else lanC b (low c) && lanS b (n + 1) r
def lanM (b : Bool) (n : Nat) : List (List UInt8) → Bool
  | [] => true
  | p :: t => (lanN (n + p.length) && p.all (lanC b)) && lanPs true t
theorem lanS_eq (s : List UInt8) : ∀ (b : Bool) (n : Nat), lanS b n s = lanM b n (Lib.split (lowL s) [45]) := by
  induction s with
  | nil => intro b n; rw [show lowL [] = [] from rfl, spl_nil]; simp [lanS, lanM, lanPs]
  | cons c r ih =>
    intro b n
    rw [show lowL (c :: r) = low c :: lowL r from rfl, lanS]
    by_cases hc : low c = 45
    · rw [if_pos hc, hc, spl_hit, ih]
      obtain ⟨p, t, hp⟩ : ∃ p t, Lib.split (lowL r) [45] = p :: t := by
        match r with
        | [] => exact ⟨[], [], spl_nil 45⟩
        | d :: r =>
          by_cases hd : low d = 45
          · exact ⟨_, _, by rw [show lowL (d :: r) = low d :: lowL r from rfl, hd, spl_hit]⟩
          · obtain ⟨p, t, _, h⟩ := spl_next 45 (low d) (lowL r) hd
            exact ⟨_, _, h⟩
      rw [hp]
      simp [lanM, lanPs, lanP]
    · obtain ⟨p, t, h1, h2⟩ := spl_next 45 (low c) (lowL r) hc
      rw [if_neg hc, ih, h1, h2]
      simp only [lanM, List.length_cons, List.all_cons]
      rw [show n + 1 + p.length = n + (p.length + 1) by omega]
      cases lanC b (low c) <;> cases lanN (n + (p.length + 1)) <;> cases p.all (lanC b) <;> rfl
theorem spl_count (c : UInt8) (l : List UInt8) : (Lib.split l [c]).length ≤ l.length + 1 := by
  induction l with
  | nil => rw [spl_nil]; exact Nat.le_refl _
  | cons d r ih =>
    by_cases h : d = c
    · subst h; rw [spl_hit]; simp only [List.length_cons]; omega
    · obtain ⟨p, t, h1, h2⟩ := spl_next c d r h
      rw [h1] at ih
      rw [h2]
      simp only [List.length_cons] at ih ⊢
      omega
theorem lanOk_eq (s : List UInt8) : lanOk s = lanS false 0 s := by
  rw [lanS_eq]
  unfold lanOk
  cases h : Lib.split (lowL s) [45] with
  | nil => rfl
  | cons p t => simp [lanPs, lanM, lanP]
/-- How the pieces are gone through. -/
theorem lanPs_drop (l : List (List UInt8)) (i : Nat) (p : List UInt8) (h : l[i]? = some p) (b : Bool) : lanPs b (l.drop i) = (lanP b p && lanPs true (l.drop (i + 1))) := by
  obtain ⟨hi, e⟩ := List.getElem?_eq_some_iff.1 h
  rw [List.drop_eq_getElem_cons hi, e]
  rfl
theorem lanS_drop (s : List UInt8) (i : Nat) (c : UInt8) (h : s[i]? = some c) (b : Bool) (n : Nat) : lanS b n (s.drop i) = if low c = 45 then lanN n && lanS true 0 (s.drop (i + 1)) else lanC b (low c) && lanS b (n + 1) (s.drop (i + 1)) := by
  obtain ⟨hi, e⟩ := List.getElem?_eq_some_iff.1 h
  rw [List.drop_eq_getElem_cons hi, e]
  rfl
theorem all_dropL {α : Type} (f : α → Bool) (l : List α) (i : Nat) (p : α) (h : l[i]? = some p) : (l.drop i).all f = (f p && (l.drop (i + 1)).all f) := by
  obtain ⟨hi, e⟩ := List.getElem?_eq_some_iff.1 h
  rw [List.drop_eq_getElem_cons hi, e]
  rfl
/-! Whether a language is met by a word. -/
def preL (n w : List UInt8) : Bool := decide ((lowL n).take (w.length + 1) = lowL w ++ [45])
theorem pre_eq (n w : List UInt8) : (lowL w ++ [45]).isPrefixOf (lowL n) = preL n w := by
  unfold preL
  rw [Bool.eq_iff_iff, List.isPrefixOf_iff_prefix, decide_eq_true_eq, List.prefix_iff_eq_take]
  have e : (lowL w ++ [45]).length = w.length + 1 := by rw [List.length_append, lowL_len]; rfl
  rw [e]
  exact eq_comm
def metL (n w : List UInt8) : Bool := sameL w n || preL n w
theorem preL_eq (n w : List UInt8) : preL n w = (decide (w.length < n.length) && (decide ((lowL n).take w.length = lowL w) && decide ((lowL n)[w.length]? = some 45))) := by
  unfold preL
  rw [Bool.eq_iff_iff]
  simp only [Bool.and_eq_true, decide_eq_true_eq]
  constructor
  · intro h
    have hl := congrArg List.length h
    simp only [List.length_take, List.length_append, List.length_singleton, lowL_len] at hl
    have hlt : w.length < n.length := by omega
    refine ⟨hlt, ?_, ?_⟩
    · have h2 := congrArg (List.take w.length) h
      rw [List.take_take, Nat.min_eq_left (by omega), List.take_left' (lowL_len w)] at h2
      exact h2
    · have h2 : ((lowL n).take (w.length + 1))[w.length]? = (lowL w ++ [45])[w.length]? := by rw [h]
      rw [List.getElem?_take_of_lt (by omega), List.getElem?_append_right (by rw [lowL_len]; exact Nat.le_refl _), lowL_len, Nat.sub_self] at h2
      exact h2
  · rintro ⟨hlt, h1, h2⟩
    rw [List.take_add_one, h1, h2]
    rfl
/-! How a language is liked. -/
def lanT (n : List UInt8) (a : Int × Int) (w : Wgt) : Int × Int := if (!decide (w.1 = [42]) && metL n w.1 && decide (a.1 < (w.1.length : Int))) = true then ((w.1.length : Int), w.2) else a
def lanF (n : List UInt8) (l : List Wgt) : Int × Int := l.foldl (lanT n) (-1, 0)
theorem lanF_take (n : List UInt8) (l : List Wgt) (i : Nat) (p : Wgt) (h : l[i]? = some p) : lanF n (l.take (i + 1)) = lanT n (lanF n (l.take i)) p := by
  rw [List.take_add_one, h, Option.toList_some]
  simp [lanF]
theorem lanT_yes (n : List UInt8) (a : Int × Int) (w : Wgt) (h1 : w.1 ≠ [42]) (h2 : metL n w.1 = true) (h3 : a.1 < (w.1.length : Int)) : lanT n a w = ((w.1.length : Int), w.2) := by
  unfold lanT
  rw [if_pos]
  simp [h1, h2, h3]
theorem lanT_star (n : List UInt8) (a : Int × Int) (w : Wgt) (h1 : w.1 = [42]) : lanT n a w = a := by
  unfold lanT
  rw [if_neg]
  simp [h1]
theorem lanT_unmet (n : List UInt8) (a : Int × Int) (w : Wgt) (h : metL n w.1 = false) : lanT n a w = a := by
  unfold lanT
  rw [if_neg]
  simp [h]
theorem lanT_short (n : List UInt8) (a : Int × Int) (w : Wgt) (h : ¬ a.1 < (w.1.length : Int)) : lanT n a w = a := by
  unfold lanT
  rw [if_neg]
  simp [h]
theorem lanF_ge (n : List UInt8) (l : List Wgt) : -1 ≤ (lanF n l).1 := by
  unfold lanF
  suffices ∀ a : Int × Int, -1 ≤ a.1 → -1 ≤ (l.foldl (lanT n) a).1 from this _ (by decide)
  induction l with
  | nil => intro a h; exact h
  | cons w r ih =>
    intro a h
    rw [List.foldl_cons]
    refine ih _ ?_
    unfold lanT
    split
    · simp only; omega
    · exact h
def lanL (l : List Wgt) (n : List UInt8) : Int := if l.length = 0 then 1000 else if lanOk n = true then (if (lanF n l).1 < 0 then (namP [42] l).getD 0 else (lanF n l).2) else 0
theorem lanL_nil (l : List Wgt) (n : List UInt8) (h : l.length = 0) : lanL l n = 1000 := by unfold lanL; rw [if_pos h]
theorem lanL_bad (l : List Wgt) (n : List UInt8) (h : l.length ≠ 0) (h2 : lanOk n = false) : lanL l n = 0 := by unfold lanL; rw [if_neg h, if_neg (by rw [h2]; simp)]
theorem lanL_none (l : List Wgt) (n : List UInt8) (h : l.length ≠ 0) (h2 : lanOk n = true) (h3 : (lanF n l).1 < 0) : lanL l n = (namP [42] l).getD 0 := by unfold lanL; rw [if_neg h, if_pos h2, if_pos h3]
theorem lanL_some (l : List Wgt) (n : List UInt8) (h : l.length ≠ 0) (h2 : lanOk n = true) (h3 : ¬ (lanF n l).1 < 0) : lanL l n = (lanF n l).2 := by unfold lanL; rw [if_neg h, if_pos h2, if_neg h3]
/-- strings.Split at one byte: the pieces stand in a new row. -/
theorem lsplit_lib (s : ByteArray) (c : UInt8) (m : Int) (w : World) (hs : s.size < 4294967281) (hm : w.cell? ⟨1, 0, none⟩ = some (.int .i64 m)) :
    Calls Tryd.prog 136 #[.string s, .string ⟨#[c]⟩] w fun e w' => ∃ cap, e = .returned (.slice (some ⟨w.heap.size, 0, none⟩) (Lib.split s.data.toList [c]).length cap) ∧ TxtAt w' (some ⟨w.heap.size, 0, none⟩) (Lib.split s.data.toList [c]) ∧ Below w.heap.size w w' := by
  refine (Tryd.strings_Split s ⟨#[c]⟩ m w hs hm (show 1 ≤ 1 from Nat.le_refl 1)).mono fun e w' ⟨he, hw⟩ => ?_
  have hlen := Lib.splitB_all ⟨#[c]⟩ (show 1 ≤ 1 from Nat.le_refl 1) 0 _ s rfl
  have hdat := Lib.splitB_data ⟨#[c]⟩ 0 (Lib.countB s ⟨#[c]⟩) s
  have hpc : Lib.split s.data.toList [c] = (Lib.splitB ⟨#[c]⟩ 0 (Lib.countB s ⟨#[c]⟩) s).map (·.data.toList) := hdat.symm
  have hl2 : (Lib.split s.data.toList [c]).length = Lib.countB s ⟨#[c]⟩ + 1 := by rw [hpc, List.length_map, hlen]
  refine ⟨Lib.countB s ⟨#[c]⟩ + 1, by rw [he, hl2], fun j p hj => ⟨w.heap.size, 0, rfl, by rw [hw]; simp, ?_⟩, by rw [hw]; exact (Below.refl _ w).alloc (Nat.le_refl _) _⟩
  rw [hpc, List.getElem?_map, Option.map_eq_some_iff] at hj
  obtain ⟨q, hq, rfl⟩ := hj
  rw [hw, Nat.zero_add, Lib.cell_of_heap (heap_alloc_new w _)]
  simp [hq]
theorem lan_bd (i n s : Nat) (h : i ≤ n) (hn : n ≤ s + 1) (hs : s ≤ 2147483648) : i ≤ 2199023255552 := by omega
theorem lan_b3 (s : Nat) (h : s ≤ 2147483648) : s < 4294967281 ∧ s ≤ 1099511627776 := by omega
theorem lanN_no (n : Nat) (h : lanN n = false) : (n : Int) < 1 ∨ (¬ (n : Int) < 1 ∧ (8 : Int) < (n : Int)) := by
  unfold lanN at h
  rw [Bool.and_eq_false_iff] at h
  simp only [decide_eq_false_iff_not] at h
  omega
theorem lanN_yes (n : Nat) (h : lanN n = true) : ¬ (n : Int) < 1 ∧ ¬ (8 : Int) < (n : Int) ∧ n ≤ 2199023255552 := by
  unfold lanN at h
  simp only [Bool.and_eq_true, decide_eq_true_eq] at h
  omega
theorem lanC_val (b : Bool) (c : UInt8) (n i : Nat) (h : c.toNat = n) (hb : b = decide (0 < i)) : (!lanC b c) = !(decide ((97 : Int) ≤ (n : Int)) && decide ((n : Int) ≤ 122) || (decide ((0 : Int) < (i : Int)) && decide ((48 : Int) ≤ (n : Int)) && decide ((n : Int) ≤ 57))) := by
  subst h
  subst hb
  unfold lanC lanLt lanDg
  congr 1
  rw [Bool.eq_iff_iff]
  simp only [Bool.or_eq_true, Bool.and_eq_true, decide_eq_true_eq]
  omega
set_option maxHeartbeats 4000000 in
theorem oislan_any (s : ByteArray) (m : Int) (w : World) (hs : s.size ≤ 2147483648) (hm : w.cell? ⟨1, 0, none⟩ = some (.int .i64 m)) :
    Calls Tryd.prog 115 #[.string s] w fun e w' => e = .returned (.bool (lanOk s.data.toList)) ∧ Below w.heap.size w w' := by
  have hb3 := lan_b3 _ hs
  have hl := olower_any s w hb3.2
  obtain ⟨t, ht⟩ : ∃ t : ByteArray, (⟨(lowL s.data.toList).toArray⟩ : ByteArray) = t := ⟨_, rfl⟩
  have htl : t.data.toList = lowL s.data.toList := by rw [← ht]
  have hts : t.size = s.size := by rw [← size_list, htl, lowL_len, size_list]
  rw [ht] at hl
  have hsp := fun W (hW : Below w.heap.size w W) => lsplit_lib t 45 m W (by rw [hts]; exact hb3.1) (mx_later (B := 0) hm hW)
  have hcnt := spl_count 45 t.data.toList
  have hok : lanOk s.data.toList = lanPs false (Lib.split t.data.toList [45]) := by unfold lanOk; rw [htl]
  obtain ⟨pc, hpc⟩ : ∃ pc, Lib.split t.data.toList [45] = pc := ⟨_, rfl⟩
  rw [size_list, hts, hpc] at hcnt
  rw [hpc] at hok
  simp only [hpc] at hsp
  have HL := Lib.hid hl; have HSP := Lib.hid hsp; have HCNT := Lib.hid (And.intro hcnt hs); have HOK := Lib.hid hok
  clear hl hsp hcnt hok htl hts ht hb3 hs hm hpc
  go_enter Tryd.func115, Tryd.ntmps115
  go_wp2_with fail
  refine (HL.out).mono ?_
  rintro e w1 ⟨rfl, hb1⟩
  have HB1 := Lib.hid hb1
  clear hb1
  go_wp2_with fail
  refine (HSP.out _ HB1.out).mono ?_
  rintro e w2 ⟨cap, rfl, hat, hb2⟩
  obtain ⟨g, hg⟩ : ∃ g, w1.heap.size = g := ⟨_, rfl⟩
  have HB2 := Lib.hid (HB1.out.trans (hb2.mono HB1.out.size))
  rw [hg] at hat
  rw [hg]
  have HAT := Lib.hid hat
  clear hb2 hat hg
  go_wp2
  go_loopw [11] (fun iv wr => ∃ i : Nat, iv = .int .i64 i ∧ i ≤ pc.length ∧ lanPs false pc = lanPs (decide (0 < i)) (pc.drop i) ∧ w2 = wr) (fun iv _ => pc.length - (intOf iv).toNat)
  case atStart => exact ⟨0, rfl, Nat.zero_le _, rfl, rfl⟩
  case round =>
    obtain ⟨i, rfl, hi, hno, rfl⟩ := hrel
    by_cases hlt : i < pc.length
    · obtain ⟨p, hp⟩ : ∃ p, pc[i]? = some p := ⟨_, List.getElem?_eq_getElem hlt⟩
      obtain ⟨g', o', hgo, _, c0⟩ := HAT.out i p hp
      injection hgo with hgo
      injection hgo with hg1 ho1 _
      subst hg1
      subst ho1
      rw [Nat.zero_add] at c0
      rw [lanPs_drop pc i p hp] at hno
      obtain ⟨P, hP⟩ : ∃ P : ByteArray, (⟨p.toArray⟩ : ByteArray) = P := ⟨_, rfl⟩
      have hPl : P.data.toList = p := by rw [← hP]
      have hPs : P.size = p.length := by rw [← size_list, hPl]
      rw [hP] at c0
      have k0 : (0 : Int) ≤ (i : Int) := Int.natCast_nonneg _
      have k1 : (i : Int) < (pc.length : Int) := by omega
      have hwi := wrap64_small i (lan_bd i _ _ hi HCNT.out.1 HCNT.out.2)
      have HW := Lib.hid hwi; have HNO := Lib.hid hno; have HP := Lib.hid (And.intro hP (And.intro hPl hPs))
      clear hwi hno hP hPl hPs hp
      cases hn : lanN p.length with
      | false =>
        have HR := Lib.hid (show lanPs false pc = false by rw [HNO.out]; unfold lanP; rw [hn]; simp)
        have hn2 := lanN_no _ hn
        rw [← HP.out.2.2] at hn2
        clear hn
        rcases hn2 with h1 | ⟨h1, h2⟩
        · go_wp2
          go_ret
          rw [HOK.out, HR.out]
          exact ⟨rfl, HB2.out⟩
        · go_wp2
          go_ret
          rw [HOK.out, HR.out]
          exact ⟨rfl, HB2.out⟩
      | true =>
        have HR := Lib.hid (show lanPs false pc = (P.data.toList.all (lanC (decide (0 < i))) && lanPs true (pc.drop (i + 1))) by rw [HNO.out, HP.out.2.1]; unfold lanP; rw [hn]; simp)
        have hn2 := lanN_yes _ hn
        rw [← HP.out.2.2] at hn2
        obtain ⟨h1, h2, hP40⟩ := hn2
        have HP40 := Lib.hid hP40
        clear hn hP40
        go_wp2
        go_loopw [26] (fun kv wr => ∃ k : Nat, kv = .int .i64 k ∧ k ≤ P.size ∧ P.data.toList.all (lanC (decide (0 < i))) = (P.data.toList.drop k).all (lanC (decide (0 < i))) ∧ w2 = wr) (fun kv _ => P.size - (intOf kv).toNat)
        case atStart => exact ⟨0, rfl, Nat.zero_le _, rfl, rfl⟩
        case round =>
          clear c0
          obtain ⟨k, rfl, hk, hall, rfl⟩ := hrel
          by_cases hkl : k < P.size
          · have hget := list_get P k hkl
            obtain ⟨c, hc⟩ : ∃ c, P[k]'hkl = c := ⟨_, rfl⟩
            rw [hc] at hget
            rw [all_dropL _ _ _ _ hget] at hall
            obtain ⟨a, ea⟩ : ∃ n, (P[k]'hkl).toNat = n := ⟨_, rfl⟩
            have hca : c.toNat = a := by rw [← hc]; exact ea
            have hval := lanC_val (decide (0 < i)) c a i hca rfl
            have j0 : (0 : Int) ≤ (k : Int) := Int.natCast_nonneg _
            have j1 : (k : Int) < (P.size : Int) := by omega
            have hwk := wrap64_small k (Nat.le_trans hk HP40.out)
            have HWK := Lib.hid hwk; have HALL := Lib.hid hall; have HV := Lib.hid hval
            clear hwk hall hval hget hc hca
            go_upto_region 10 with fail
            go_cut [50] (fun s50 wx => s50 = .bool (!lanC (decide (0 < i)) c) ∧ w2 = wx)
            case first =>
              by_cases q1 : (97 : Int) ≤ (a : Int) <;> by_cases q2 : (a : Int) ≤ 122 <;> by_cases q3 : (0 : Int) < (i : Int) <;> by_cases q4 : (48 : Int) ≤ (a : Int) <;> by_cases q5 : (a : Int) ≤ 57
              all_goals go_wp2_with fail
              all_goals
                go_meet
                exact ⟨by rw [HV.out]; first | (simp [q1, q2, q3, q4, q5]; done) | (simp [q1, q2, q3, q4, q5]; omega), by first | rfl | trivial⟩
            case rest =>
            obtain ⟨rfl, rfl⟩ := hcut
            cases hcc : lanC (decide (0 < i)) c with
            | false =>
              have HR2 := Lib.hid (show lanPs false pc = false by rw [HR.out, HALL.out, hcc]; simp)
              clear hcc
              go_wp2
              go_ret
              rw [HOK.out, HR2.out]
              exact ⟨rfl, HB2.out⟩
            | true =>
              have HA2 := Lib.hid (show P.data.toList.all (lanC (decide (0 < i))) = (P.data.toList.drop (k + 1)).all (lanC (decide (0 < i))) by rw [HALL.out, hcc, Bool.true_and])
              clear hcc
              go_wp2
              have hwi := HWK.out
              go_roundw
              case rel => (try rw [hwi]); clear hwi; exact ⟨k + 1, by go_num, hkl, HA2.out, by first | rfl | trivial⟩
              case measure => (try rw [hwi]); clear hwi; simp [intOf]; omega
          · obtain rfl : k = P.size := by omega
            have hd : decide (P.size < P.size) = false := decide_eq_false (Nat.lt_irrefl _)
            have HN2 := Lib.hid (show lanPs false pc = lanPs (decide (0 < i + 1)) (pc.drop (i + 1)) by
              rw [HR.out, hall, List.drop_of_length_le (by rw [size_list]; exact Nat.le_refl _)]
              rw [show decide (0 < i + 1) = true from decide_eq_true (Nat.succ_pos i)]
              rfl)
            clear hall
            go_wp2
            have hwi := HW.out
            go_roundw
            case rel => (try rw [hwi]); clear hwi; exact ⟨i + 1, by go_num, hlt, HN2.out, by first | rfl | trivial⟩
            case measure => (try rw [hwi]); clear hwi; simp [intOf]; omega
    · obtain rfl : i = pc.length := by omega
      have hd : decide (pc.length < pc.length) = false := decide_eq_false (Nat.lt_irrefl _)
      rw [List.drop_length] at hno
      have HNO := Lib.hid hno
      clear hno
      go_wp2
      go_ret
      rw [HOK.out, HNO.out]
      exact ⟨rfl, HB2.out⟩
theorem lan_ext (s : ByteArray) (b : Nat) : (s.extract 0 b).data.toList = s.data.toList.take b := by
  rw [ByteArray.data_extract, Array.toList_extract, List.extract_eq_take_drop]
  simp
theorem lanC_low (b : Bool) (c : UInt8) (n f : Nat) (h : c.toNat = n) (hb : b = decide (0 < f)) : lanC b (low c) = (ltN n || (!decide (f = 0) && dgN n)) := by
  subst h
  subst hb
  unfold lanC ltN dgN
  rw [low_lt, low_dg]
  congr 2
  rw [Bool.eq_iff_iff]
  simp only [Bool.not_eq_true', decide_eq_true_eq, decide_eq_false_iff_not]
  omega
theorem lanN_r (n f i : Nat) (h : i - f = n) (hf : f ≤ i) (hn : lanN n = false) : ((i : Int) == (f : Int)) = true ∨ (((i : Int) == (f : Int)) = false ∧ (8 : Int) < (n : Int)) := by
  unfold lanN at hn
  rw [Bool.and_eq_false_iff] at hn
  simp only [decide_eq_false_iff_not] at hn
  simp only [beq_iff_eq, beq_eq_false_iff_ne, ne_eq]
  omega
theorem lanN_r2 (n f i : Nat) (h : i - f = n) (hf : f ≤ i) (hn : lanN n = true) : ((i : Int) == (f : Int)) = false ∧ ¬ (8 : Int) < (n : Int) := by
  unfold lanN at hn
  simp only [Bool.and_eq_true, decide_eq_true_eq] at hn
  simp only [beq_iff_eq, beq_eq_false_iff_ne, ne_eq]
  omega
theorem lan_sub (f i n : Nat) (h : f ≤ i) (e : i - f = n) : (i : Int) - (f : Int) = (n : Int) := by omega
theorem lan_b4 (i f n s : Nat) (h : i ≤ s + 1) (hs : s ≤ 2147483648) (e : i - f = n) : n ≤ 2199023255552 ∧ i ≤ 2199023255552 := by omega
theorem u8_int45 (c : UInt8) (a : Nat) (h : c.toNat = a) (hc : c ≠ 45) : ((a : Int) == 45) = false ∧ ((a : Int) != 45) = true := by
  have h2 : a ≠ 45 := by rintro rfl; exact hc (by rw [← UInt8.toNat_inj]; exact h)
  simp only [bne, beq_eq_false_iff_ne, ne_eq, Bool.not_eq_true', and_self]
  omega
def LanRel (L : List UInt8) (sz f i : Nat) : Prop := f ≤ i ∧ i ≤ sz + 1 ∧ (i ≤ sz → lanS false 0 L = lanS (decide (0 < f)) (i - f) (L.drop i)) ∧ (i = sz + 1 → lanS false 0 L = true)
theorem LanRel.mv {L : List UInt8} {sz f i : Nat} (h : LanRel L sz f i) (hi : i < sz) (c : UInt8) (hg : L[i]? = some c) (hc : c ≠ 45) (hl : lanC (decide (0 < f)) (low c) = true) : LanRel L sz f (i + 1) := by
  obtain ⟨h1, h2, h3, h4⟩ := h
  refine ⟨by omega, by omega, fun _ => ?_, fun e => by omega⟩
  rw [h3 (by omega), lanS_drop L i c hg, if_neg (fun e => hc ((low_dash c).1 e)), hl, Bool.true_and, show i + 1 - f = i - f + 1 by omega]
theorem LanRel.bad {L : List UInt8} {sz f i : Nat} (h : LanRel L sz f i) (hi : i < sz) (c : UInt8) (hg : L[i]? = some c) (hc : c ≠ 45) (hl : lanC (decide (0 < f)) (low c) = false) : lanS false 0 L = false := by
  obtain ⟨h1, h2, h3, h4⟩ := h
  rw [h3 (by omega), lanS_drop L i c hg, if_neg (fun e => hc ((low_dash c).1 e)), hl, Bool.false_and]
theorem LanRel.dash {L : List UInt8} {sz f i : Nat} (h : LanRel L sz f i) (hs : L.length = sz) (hi : i ≤ sz) (hg : i = sz ∨ L[i]? = some 45) (hl : lanN (i - f) = true) : LanRel L sz (i + 1) (i + 1) := by
  obtain ⟨h1, h2, h3, h4⟩ := h
  rcases hg with rfl | hg
  · refine ⟨Nat.le_refl _, by omega, fun e => by omega, fun e => ?_⟩
    rw [h3 (by omega), ← hs, List.drop_length]
    rw [hs]; exact hl
  · have hlt : i < sz := by rw [← hs]; exact (List.getElem?_eq_some_iff.1 hg).1
    refine ⟨Nat.le_refl _, by omega, fun e => ?_, fun e => by omega⟩
    rw [h3 (by omega), lanS_drop L i 45 hg, if_pos ((low_dash 45).2 rfl), hl, Bool.true_and, Nat.sub_self, show decide (0 < i + 1) = true from decide_eq_true (Nat.succ_pos i)]
theorem LanRel.none {L : List UInt8} {sz f i : Nat} (h : LanRel L sz f i) (hs : L.length = sz) (hi : i ≤ sz) (hg : i = sz ∨ L[i]? = some 45) (hl : lanN (i - f) = false) : lanS false 0 L = false := by
  obtain ⟨h1, h2, h3, h4⟩ := h
  rcases hg with rfl | hg
  · rw [h3 (by omega), ← hs, List.drop_length]
    rw [hs]; exact hl
  · rw [h3 (by omega), lanS_drop L i 45 hg, if_pos ((low_dash 45).2 rfl), hl, Bool.false_and]
set_option maxHeartbeats 4000000 in
theorem rislan_any (s : ByteArray) (w : World) (hs : s.size ≤ 2147483648) :
    Calls Tryd.prog 116 #[.string s] w fun e w' => e = .returned (.bool (lanOk s.data.toList)) ∧ w' = w := by
  rw [lanOk_eq]
  have HS := Lib.hid hs
  clear hs
  go_enter Tryd.func116, Tryd.ntmps116
  go_wp2
  go_loopw [3, 4] (fun fv iv wr => ∃ f i : Nat, fv = .int .i64 f ∧ iv = .int .i64 i ∧ LanRel s.data.toList s.size f i ∧ wr = w) (fun _ iv _ => s.size + 1 - (intOf iv).toNat)
  case atStart => exact ⟨0, 0, rfl, rfl, ⟨Nat.le_refl _, Nat.zero_le _, fun _ => rfl, fun e => by cases e⟩, rfl⟩
  case round =>
    obtain ⟨f, i, rfl, rfl, hrl, rfl⟩ := hrel
    by_cases hle : i ≤ s.size
    · have k0 : (0 : Int) ≤ (i : Int) := Int.natCast_nonneg _
      have k2 : (i : Int) ≤ (s.size : Int) := by omega
      obtain ⟨n, hn⟩ : ∃ n, i - f = n := ⟨_, rfl⟩
      have hsub := lan_sub f i n hrl.1 hn
      have hbd := lan_b4 i f n s.size hrl.2.1 HS.out hn
      have hwn := wrap_mid n hbd.1
      have hwi := wrap64_small i hbd.2
      have HW := Lib.hid hwi; have HRL := Lib.hid hrl; have HN := Lib.hid hn; have HSUB := Lib.hid (And.intro hsub hwn)
      clear hwi hrl hn hbd hsub hwn
      by_cases hd : i = s.size ∨ s.data.toList[i]? = some 45
      · have hpk : (s.size : Int) ≤ (i : Int) ∨ ((i : Int) < (s.size : Int) ∧ ∃ h : i < s.size, s[i]'h = 45) := by
          rcases hd with rfl | hg
          · exact .inl (Int.le_refl _)
          · have hlt : i < s.size := by rw [← size_list]; exact (List.getElem?_eq_some_iff.1 hg).1
            refine .inr ⟨by omega, hlt, ?_⟩
            rw [list_get s i hlt] at hg
            injection hg
        cases hN : lanN n with
        | false =>
          have HR := Lib.hid (HRL.out.none (size_list s) hle hd (by rw [HN.out]; exact hN))
          have hlr := lanN_r n f i HN.out HRL.out.1 hN
          obtain ⟨hsub, hwn⟩ := HSUB.out
          clear hN hd
          rcases hpk with hge | ⟨hlt, h, hc⟩
          · rcases hlr with e1 | ⟨e1, e2⟩
            all_goals
              go_wp2
              go_ret
              rw [HR.out]
              exact ⟨rfl, by first | rfl | trivial⟩
          · have ea : (s[i]'h).toNat = 45 := by rw [hc]; rfl
            clear hc
            rcases hlr with e1 | ⟨e1, e2⟩
            all_goals
              go_wp2
              go_ret
              rw [HR.out]
              exact ⟨rfl, by first | rfl | trivial⟩
        | true =>
          have HR := Lib.hid (HRL.out.dash (size_list s) hle hd (by rw [HN.out]; exact hN))
          have hlr := lanN_r2 n f i HN.out HRL.out.1 hN
          obtain ⟨e1, e2⟩ := hlr
          obtain ⟨hsub, hwn⟩ := HSUB.out
          clear hN hd
          rcases hpk with hge | ⟨hlt, h, hc⟩
          · go_wp2
            have hwi := HW.out
            go_roundw
            case rel => (try rw [hwi]); clear hwi; exact ⟨i + 1, i + 1, by go_num, by go_num, HR.out, by first | rfl | trivial⟩
            case measure => (try rw [hwi]); clear hwi; simp [intOf]; omega
          · have ea : (s[i]'h).toNat = 45 := by rw [hc]; rfl
            clear hc
            go_wp2
            have hwi := HW.out
            go_roundw
            case rel => (try rw [hwi]); clear hwi; exact ⟨i + 1, i + 1, by go_num, by go_num, HR.out, by first | rfl | trivial⟩
            case measure => (try rw [hwi]); clear hwi; simp [intOf]; omega
      · have hlt : i < s.size := by omega
        have hget := list_get s i hlt
        have k1 : (i : Int) < (s.size : Int) := by omega
        obtain ⟨c, hc⟩ : ∃ c, s[i]'hlt = c := ⟨_, rfl⟩
        rw [hc] at hget
        obtain ⟨a, ea⟩ : ∃ n, (s[i]'hlt).toNat = n := ⟨_, rfl⟩
        have hca : c.toNat = a := by rw [← hc]; exact ea
        have hcn : c ≠ 45 := fun e => hd (.inr (by rw [hget, e]))
        obtain ⟨b1, b2⟩ := u8_int45 c a hca hcn
        have hcv := lanC_low (decide (0 < f)) c a f hca rfl
        have hg0 := HRL.out.mv hlt c hget hcn
        have hb0 := HRL.out.bad hlt c hget hcn
        have HG := Lib.hid hg0; have HBAD := Lib.hid hb0
        have hl := fun w => rletter_any a w
        have hdg := fun w => rdigit_any a w
        clear hg0 hb0 hget hcn hd hc hca
        cases hlt1 : ltN a with
        | true =>
          rw [hlt1, Bool.true_or] at hcv
          have HR := Lib.hid (HG.out hcv)
          simp only [hlt1] at hl
          have HL := Lib.hid hl
          clear hlt1 hcv hl hdg
          go_wp2_with fail
          refine (HL.out _).mono ?_
          rintro e w1 ⟨rfl, hw1⟩; subst hw1
          go_wp2
          have hwi := HW.out
          go_roundw
          case rel => (try rw [hwi]); clear hwi; exact ⟨f, i + 1, rfl, by go_num, HR.out, by first | rfl | trivial⟩
          case measure => (try rw [hwi]); clear hwi; simp [intOf]; omega
        | false =>
          rw [hlt1, Bool.false_or] at hcv
          simp only [hlt1] at hl
          have HL := Lib.hid hl
          clear hlt1 hl
          by_cases hf0 : f = 0
          · have e0 : ((f : Int) == 0) = true := by rw [hf0]; rfl
            have HR := Lib.hid (HBAD.out (by rw [hcv, hf0]; rfl))
            clear hcv hf0 hdg
            go_wp2_with fail
            refine (HL.out _).mono ?_
            rintro e w1 ⟨rfl, hw1⟩; subst hw1
            go_wp2
            go_ret
            rw [HR.out]
            exact ⟨rfl, by first | rfl | trivial⟩
          · have e0 : ((f : Int) == 0) = false := by simp; omega
            rw [show decide (f = 0) = false from decide_eq_false hf0, Bool.not_false, Bool.true_and] at hcv
            clear hf0
            cases hdg1 : dgN a with
            | false =>
              rw [hdg1] at hcv
              have HR := Lib.hid (HBAD.out hcv)
              simp only [hdg1] at hdg
              have HD := Lib.hid hdg
              clear hdg1 hdg hcv
              go_wp2_with fail
              refine (HL.out _).mono ?_
              rintro e w1 ⟨rfl, hw1⟩; subst hw1
              go_wp2_with fail
              refine (HD.out _).mono ?_
              rintro e w1 ⟨rfl, hw1⟩; subst hw1
              go_wp2
              go_ret
              rw [HR.out]
              exact ⟨rfl, by first | rfl | trivial⟩
            | true =>
              rw [hdg1] at hcv
              have HR := Lib.hid (HG.out hcv)
              simp only [hdg1] at hdg
              have HD := Lib.hid hdg
              clear hdg1 hdg hcv
              go_wp2_with fail
              refine (HL.out _).mono ?_
              rintro e w1 ⟨rfl, hw1⟩; subst hw1
              go_wp2_with fail
              refine (HD.out _).mono ?_
              rintro e w1 ⟨rfl, hw1⟩; subst hw1
              go_wp2
              have hwi := HW.out
              go_roundw
              case rel => (try rw [hwi]); clear hwi; exact ⟨f, i + 1, rfl, by go_num, HR.out, by first | rfl | trivial⟩
              case measure => (try rw [hwi]); clear hwi; simp [intOf]; omega
    · obtain rfl : i = s.size + 1 := by have := hrl.2.1; omega
      have HR := Lib.hid (hrl.2.2.2 rfl)
      have k2 : (s.size : Int) < ((s.size + 1 : Nat) : Int) := by omega
      have hd : decide (((s.size + 1 : Nat) : Int) ≤ (s.size : Int)) = false := decide_eq_false (by omega)
      clear hrl hle
      obtain ⟨i, hi⟩ : ∃ i, s.size + 1 = i := ⟨_, rfl⟩
      rw [hi] at k2 hd ⊢
      clear hi
      go_wp2
      go_ret
      rw [HR.out]
      exact ⟨rfl, by first | rfl | trivial⟩
set_option maxHeartbeats 4000000 in
theorem rmet_any (n v : List UInt8) (w : World) (hn : n.length ≤ 1099511627776) (hv : v.length ≤ 1099511627776) :
    Calls Tryd.prog 117 #[.string ⟨n.toArray⟩, .string ⟨v.toArray⟩] w fun e w' => e = .returned (.bool (metL n v)) ∧ Below w.heap.size w w' := by
  have h1 := fun w => rlower_any ⟨n.toArray⟩ w (by rw [size_mk]; exact hn)
  have h2 := fun w => rlower_any ⟨v.toArray⟩ w (by rw [size_mk]; exact hv)
  simp only [show (⟨n.toArray⟩ : ByteArray).data.toList = n from rfl, show (⟨v.toArray⟩ : ByteArray).data.toList = v from rfl] at h1 h2
  have hmt : metL n v = ((decide (lowL v = lowL n)) || (decide (v.length < n.length) && (decide ((lowL n).take v.length = lowL v) && decide ((lowL n)[v.length]? = some 45)))) := by unfold metL sameL; rw [preL_eq]
  obtain ⟨A, hA⟩ : ∃ A : ByteArray, (⟨(lowL n).toArray⟩ : ByteArray) = A := ⟨_, rfl⟩
  obtain ⟨B, hB⟩ : ∃ B : ByteArray, (⟨(lowL v).toArray⟩ : ByteArray) = B := ⟨_, rfl⟩
  have hAl : A.data.toList = lowL n := by rw [← hA]
  have hBl : B.data.toList = lowL v := by rw [← hB]
  have hAs : A.size = n.length := by rw [← size_list, hAl, lowL_len]
  have hBs : B.size = v.length := by rw [← size_list, hBl, lowL_len]
  rw [hA] at h1
  rw [hB] at h2
  rw [← hAl, ← hBl, ← hAs, ← hBs] at hmt
  have H1 := Lib.hid h1; have H2 := Lib.hid h2; have HM := Lib.hid hmt
  clear h1 h2 hmt hA hB hAl hBl hAs hBs hn hv
  go_enter Tryd.func117, Tryd.ntmps117
  go_wp2_with fail
  refine (H1.out _).mono ?_
  rintro e w1 ⟨rfl, hb1⟩
  have HB1 := Lib.hid hb1
  clear hb1
  go_wp2_with fail
  refine (H2.out _).mono ?_
  rintro e w2 ⟨rfl, hb2⟩
  have HB2 := Lib.hid (HB1.out.trans (hb2.mono HB1.out.size))
  clear hb2
  by_cases q1 : B.data.toList = A.data.toList
  · have e1 : (A.toList == B.toList) = true := by rw [ByteArray.toList_eq, ByteArray.toList_eq, q1]; simp
    have HR := Lib.hid (show metL n v = true by rw [HM.out, decide_eq_true q1]; rfl)
    clear q1
    go_wp2
    go_ret
    rw [HR.out]
    exact ⟨rfl, HB2.out⟩
  · have e1 : (A.toList == B.toList) = false := by rw [ByteArray.toList_eq, ByteArray.toList_eq]; exact beq_false_of_ne (fun e => q1 e.symm)
    have HM1 := Lib.hid (show metL n v = (decide (B.size < A.size) && (decide (A.data.toList.take B.size = B.data.toList) && decide (A.data.toList[B.size]? = some 45))) by rw [HM.out, decide_eq_false q1, Bool.false_or])
    clear q1
    by_cases q2 : B.size < A.size
    · have k0 : (0 : Int) ≤ (B.size : Int) := Int.natCast_nonneg _
      have k1 : (B.size : Int) < (A.size : Int) := by omega
      have k2 : (B.size : Int) ≤ (A.size : Int) := by omega
      have hx := lan_ext A B.size
      obtain ⟨X, hX⟩ : ∃ X : ByteArray, A.extract 0 B.size = X := ⟨_, rfl⟩
      have hXl : X.data.toList = A.data.toList.take B.size := by rw [← hX]; exact hx
      obtain ⟨a, ea⟩ : ∃ n, (A[B.size]'q2).toNat = n := ⟨_, rfl⟩
      have hget := list_get A B.size q2
      have HM2 := Lib.hid (show metL n v = (decide (X.data.toList = B.data.toList) && decide (A.data.toList[B.size]? = some 45)) by rw [HM1.out, decide_eq_true q2, Bool.true_and, hXl])
      by_cases q3 : X.data.toList = B.data.toList
      · have e3 : (X.toList == B.toList) = true := by rw [ByteArray.toList_eq, ByteArray.toList_eq, q3]; simp
        by_cases q4 : A[B.size]'q2 = 45
        · have e4 : ((a : Int) == 45) = true := by rw [← ea, q4]; rfl
          have HR := Lib.hid (show metL n v = true by rw [HM2.out, decide_eq_true q3, hget, q4]; rfl)
          clear q3 q4 hx hXl hget
          go_wp2
          go_ret
          rw [HR.out]
          exact ⟨rfl, HB2.out⟩
        · have e4 := (u8_int45 _ a ea q4).1
          have hne : ¬ (some (A[B.size]'q2) = some (45 : UInt8)) := fun e => q4 (Option.some.inj e)
          have HR := Lib.hid (show metL n v = false by rw [HM2.out, hget, decide_eq_false hne, Bool.and_false])
          clear q3 q4 hx hXl hget
          go_wp2
          go_ret
          rw [HR.out]
          exact ⟨rfl, HB2.out⟩
      · have e3 : (X.toList == B.toList) = false := by rw [ByteArray.toList_eq, ByteArray.toList_eq]; exact beq_false_of_ne q3
        have HR := Lib.hid (show metL n v = false by rw [HM2.out, decide_eq_false q3, Bool.false_and])
        clear q3 hx hXl hget
        go_wp2
        go_ret
        rw [HR.out]
        exact ⟨rfl, HB2.out⟩
    · have k1 : (A.size : Int) ≤ (B.size : Int) := by omega
      have HR := Lib.hid (show metL n v = false by rw [HM1.out, decide_eq_false q2, Bool.false_and])
      clear q2
      go_wp2
      go_ret
      rw [HR.out]
      exact ⟨rfl, HB2.out⟩
theorem wtxH_passL {P : Program} {ops : Array Oper} {S : World → Prop} {Q : Exit → Act → World → Prop} {i : Nat} {o : Oper} {r : List (Nat × Bool)} {a : Act} {w : World} (ho : ops[i]? = some o) (hw : Region.wanted o (yielded ops a.tmps) = false)
    (h : wpTxH P ops S Q r (a.put o.dst undef) w) : wpTxH P ops S Q ((i, true) :: r) a w := ⟨o, undef, ho, .inr ⟨hw, rfl⟩, h⟩
def TLen31 (l : List (List UInt8)) : Prop := ∀ (i : Nat) (p : List UInt8), l[i]? = some p → p.length ≤ 2147483648
theorem ohaspre_lib (a b : ByteArray) (w : World) : Calls Tryd.prog 95 #[.string a, .string b] w fun e w' => e = .returned (.bool (b.data.toList.isPrefixOf a.data.toList)) ∧ w' = w := Tryd.strings_HasPrefix a b w
theorem cat_l1 (a b : List UInt8) : (⟨a.toArray⟩ : ByteArray) ++ (⟨b.toArray⟩ : ByteArray) = ⟨(a ++ b).toArray⟩ := by
  apply ba_ext
  simp
theorem nof1 (n : Nat) (h : n ≤ 1099511627776) : ¬ 9223372036854775807 < n + 1 := by omega
set_option maxHeartbeats 8000000 in
theorem olanl_any (v : Value) (l : List Wgt) (n : List UInt8) (m : Int) (w : World) (hN : l.length ≤ 1073741824) (hs : WLen l) (hn : n.length ≤ 2147483648) (hm : w.cell? ⟨1, 0, none⟩ = some (.int .i64 m)) (h : WgtsIn w v l) :
    Calls Tryd.prog 87 #[v, .string ⟨n.toArray⟩] w fun e w' => e = .returned (.int .i64 (lanL l n)) ∧ Below w.heap.size w w' := by
  have hisl := oislan_any ⟨n.toArray⟩ m w (by rw [size_mk]; exact hn) hm
  rw [show (⟨n.toArray⟩ : ByteArray).data.toList = n from rfl] at hisl
  have hn40 : n.length ≤ 1099511627776 := Nat.le_trans hn (by decide)
  have hin := h
  obtain ⟨ao, cap, rfl, hat⟩ := h
  by_cases hz : l.length = 0
  · have hzi : ((l.length : Int) == 0) = true := by rw [hz]; rfl
    have HR := Lib.hid (lanL_nil l n hz)
    clear hat hin hz hisl
    go_enter Tryd.func87, Tryd.ntmps87
    go_wp2
    go_ret
    rw [HR.out]
    exact ⟨rfl, Below.refl _ _⟩
  have hzi : ((l.length : Int) == 0) = false := by simp; intro e; exact hz (by simp [e])
  cases hok : lanOk n with
  | false =>
    rw [hok] at hisl
    have HR := Lib.hid (lanL_bad l n hz hok); have HI := Lib.hid hisl
    clear hat hin hz hisl hok
    go_enter Tryd.func87, Tryd.ntmps87
    go_wp2_with fail
    refine (HI.out).mono ?_
    rintro e w1 ⟨rfl, hb1⟩
    have HB1 := Lib.hid hb1
    clear hb1
    go_wp2
    go_ret
    rw [HR.out]
    exact ⟨rfl, HB1.out⟩
  | true =>
  rw [hok] at hisl
  have HI := Lib.hid hisl; have HAT := Lib.hid hat; have HS := Lib.hid hs; have HN := Lib.hid (And.intro hN hn40); have HIN := Lib.hid hin
  have HNONE := Lib.hid (lanL_none l n hz hok); have HSOME := Lib.hid (lanL_some l n hz hok)
  clear hat hin hz hisl hok hs hm hn hn40 hN
  go_enter Tryd.func87, Tryd.ntmps87
  go_wp2_with fail
  refine (HI.out).mono ?_
  rintro e w1 ⟨rfl, hb1⟩
  have HB1 := Lib.hid hb1
  clear hb1
  go_wp2
  go_loopw [18, 5, 6] (fun iv bv qv wr => ∃ i : Nat, iv = .int .i64 i ∧ bv = .int .i64 (lanF n (l.take i)).1 ∧ qv = .int .i64 (lanF n (l.take i)).2 ∧ i ≤ l.length ∧ Below w.heap.size w wr) (fun iv _ _ _ => l.length - (intOf iv).toNat)
  case atStart => exact ⟨0, rfl, rfl, rfl, Nat.zero_le _, HB1.out⟩
  case round =>
    obtain ⟨i, rfl, rfl, rfl, hi, hb⟩ := hrel
    by_cases hlt : i < l.length
    · obtain ⟨p, hp⟩ : ∃ p, l[i]? = some p := ⟨_, List.getElem?_eq_getElem hlt⟩
      obtain ⟨go, o, rfl, _, c0, c1⟩ := HAT.out.below hb i p hp
      have k0 : (0 : Int) ≤ (i : Int) := Int.natCast_nonneg _
      have k1 : (i : Int) < (l.length : Int) := by omega
      have hwi := wrap64_small i (small30 i _ hi HN.out.1)
      have hpl := HS.out i p hp
      have hst := lanF_take n l i p hp
      obtain ⟨p1, p2⟩ := p
      simp only at c0 c1 hpl
      obtain ⟨⟨bb, qq⟩, hF⟩ : ∃ r, lanF n (l.take i) = r := ⟨_, rfl⟩
      rw [hF] at hst
      rw [hF]
      simp only
      obtain ⟨W4, hW4⟩ : ∃ W4, wr.alloc (.cells #[.string ⟨p1.toArray⟩, .int .i64 p2] 85) = W4 := ⟨_, rfl⟩
      obtain ⟨g, hg⟩ : ∃ g, wr.heap.size = g := ⟨_, rfl⟩
      have hB4 : BlkIs W4 g #[.string ⟨p1.toArray⟩, .int .i64 p2] 85 := by rw [← hW4, ← hg]; exact blkIs_new _ _ _
      have hb4 : Below w.heap.size w W4 := by rw [← hW4]; exact hb.alloc hb.size _
      have S1 := fun w => osame_any p1 n w hpl HN.out.2
      have hl1 := fun w => olower_any ⟨n.toArray⟩ w (by rw [size_mk]; exact HN.out.2)
      have hl2 := fun w => olower_any ⟨p1.toArray⟩ w (by rw [size_mk]; exact hpl)
      simp only [show (⟨n.toArray⟩ : ByteArray).data.toList = n from rfl, show (⟨p1.toArray⟩ : ByteArray).data.toList = p1 from rfl] at hl1 hl2
      obtain ⟨x, hx⟩ : ∃ x, lowL n = x := ⟨_, rfl⟩
      obtain ⟨y, hy⟩ : ∃ y, lowL p1 = y := ⟨_, rfl⟩
      rw [hx] at hl1
      rw [hy] at hl2
      have hpre := pre_eq n p1
      rw [hx, hy] at hpre
      have hyl : y.length ≤ 1099511627776 := by rw [← hy, lowL_len]; exact hpl
      obtain ⟨z, hz⟩ : ∃ z, y ++ [45] = z := ⟨_, rfl⟩
      have hcat := cat_l1 y [45]
      rw [hz] at hcat hpre
      have hnof := nof1 _ hyl
      have HB4 := Lib.hid (And.intro hb4 hB4); have HW4 := Lib.hid (And.intro hW4 True.intro); have HW := Lib.hid hwi; have HST := Lib.hid hst; have HS1 := Lib.hid S1; have HL1 := Lib.hid hl1; have HL2 := Lib.hid hl2; have HPRE := Lib.hid hpre; have HCAT := Lib.hid (And.intro hcat hnof)
      clear hb hB4 hb4 hW4 hwi hst hpl S1 hl1 hl2 hx hy hpre hz hcat hnof hyl hp hF
      go_upto_region 9 with fail
      rw [HW4.out.1]
      go_cut [9] (fun s9 wx => s9 = .bool (metL n p1) ∧ Below w.heap.size w wx ∧ BlkIs wx g #[.string ⟨p1.toArray⟩, .int .i64 p2] 85)
      case first =>
        rename_i J0 K0 hJ0 hK0
        have HJ0 := Lib.hid hJ0; have HK0 := Lib.hid hK0
        clear hJ0 hK0 c0 c1
        have HD := Lib.hid (HB4.out.2.later ((Below.refl _ W4).drew))
        cases hsm : sameL p1 n with
        | true =>
          have HSM := Lib.hid (show metL n p1 = true by unfold metL; rw [hsm]; rfl)
          have S1 := HS1.out
          rw [hsm] at S1
          have HSS := Lib.hid S1
          clear hsm S1
          refine wp_region_textH (fun w' => BlkIs w' g #[.string ⟨p1.toArray⟩, .int .i64 p2] 85) [(0, true), (1, true), (2, true), (3, false), (4, true), (5, true), (7, true), (8, true), (6, true), (9, true), (10, true), (11, true), (12, true), (13, true)] (by kernel_rfl) (by kernel_rfl) (by kernel_rfl) (by kernel_rfl) HD.out ?_
          iterate 3 (refine wpTxH_take rfl (by kernel_rfl) (v := ?_) ?_ ?_; rotate_left; · (intro w hS; have s0 := hS.cell 0 _ rfl; clear hS; go_simp; with_reducible rfl))
          refine wpTxH_step rfl (fun K hK => ?_)
          go_simp
          refine (HSS.out _).mono ?_
          rintro e w2 ⟨rfl, hb2⟩
          have hbl2 := HD.out.later hb2
          refine hK _ _ hbl2 ?_
          clear hK K
          have HB2 := Lib.hid (And.intro (HB4.out.1.trans (((Below.refl _ W4).drew.trans hb2).mono HB4.out.1.size)) hbl2)
          clear hb2 hbl2
          iterate 1 (refine wpTxH_take rfl (by kernel_rfl) (v := ?_) ?_ ?_; rotate_left; · (intro w hS; have s0 := hS.cell 0 _ rfl; clear hS; go_simp; with_reducible rfl))
          iterate 7 (refine wtxH_passL rfl (by kernel_rfl) ?_)
          iterate 2 (refine wpTxH_take rfl (by kernel_rfl) (v := ?_) ?_ ?_; rotate_left; · (intro w hS; have s0 := hS.cell 0 _ rfl; clear hS; go_simp; with_reducible rfl))
          refine wpTxH_nil ?_
          go_simp
          refine HK0.out _ _ (Met.intro (HJ0.out _ _ ?_))
          (repeat apply Exists.intro)
          refine ⟨?_, rfl⟩
          exact ⟨by rw [HSM.out], HB2.out⟩
        | false =>
          have HSM := Lib.hid (show metL n p1 = z.isPrefixOf x by unfold metL; rw [hsm, HPRE.out]; rfl)
          have S1 := HS1.out
          rw [hsm] at S1
          have HSS := Lib.hid S1
          clear hsm S1
          refine wp_region_textH (fun w' => BlkIs w' g #[.string ⟨p1.toArray⟩, .int .i64 p2] 85) [(0, true), (1, true), (2, true), (3, false), (4, true), (5, true), (7, true), (8, true), (6, false), (9, false), (10, true), (11, false), (12, true), (13, true)] (by kernel_rfl) (by kernel_rfl) (by kernel_rfl) (by kernel_rfl) HD.out ?_
          iterate 3 (refine wpTxH_take rfl (by kernel_rfl) (v := ?_) ?_ ?_; rotate_left; · (intro w hS; have s0 := hS.cell 0 _ rfl; clear hS; go_simp; with_reducible rfl))
          refine wpTxH_step rfl (fun K hK => ?_)
          go_simp
          refine (HSS.out _).mono ?_
          rintro e w2 ⟨rfl, hb2⟩
          have hbl2 := HD.out.later hb2
          refine hK _ _ hbl2 ?_
          clear hK K
          have HB2 := Lib.hid (And.intro (HB4.out.1.trans (((Below.refl _ W4).drew.trans hb2).mono HB4.out.1.size)) hbl2)
          clear hb2 hbl2
          iterate 4 (refine wpTxH_take rfl (by kernel_rfl) (v := ?_) ?_ ?_; rotate_left; · (intro w hS; have s0 := hS.cell 0 _ rfl; clear hS; go_simp; with_reducible rfl))
          refine wpTxH_step rfl (fun K hK => ?_)
          go_simp
          refine (HL1.out _).mono ?_
          rintro e w3 ⟨rfl, hb3⟩
          have hbl3 := HB2.out.2.later hb3
          refine hK _ _ hbl3 ?_
          clear hK K
          have HB3 := Lib.hid (And.intro (HB2.out.1.trans (hb3.mono HB2.out.1.size)) hbl3)
          clear hb3 hbl3
          refine wpTxH_step rfl (fun K hK => ?_)
          go_simp
          refine (HL2.out _).mono ?_
          rintro e w4 ⟨rfl, hb4⟩
          have hbl4 := HB3.out.2.later hb4
          refine hK _ _ hbl4 ?_
          clear hK K
          have HB4 := Lib.hid (And.intro (HB3.out.1.trans (hb4.mono HB3.out.1.size)) hbl4)
          clear hb4 hbl4
          refine wpTxH_take rfl (by kernel_rfl) (v := ?_) ?_ ?_; rotate_left; · (intro w hS; clear hS; obtain ⟨q1, q2⟩ := HCAT.out; go_simp; with_reducible rfl)
          refine wpTxH_step rfl (fun K hK => ?_)
          go_simp
          refine (ohaspre_lib _ _ _).mono ?_
          rintro e w5 ⟨rfl, hw5⟩
          subst hw5
          refine hK _ _ HB4.out.2 ?_
          clear hK K
          rw [show (⟨x.toArray⟩ : ByteArray).data.toList = x from rfl, show (⟨z.toArray⟩ : ByteArray).data.toList = z from rfl]
          obtain ⟨pp, hpp⟩ : ∃ pp, z.isPrefixOf x = pp := ⟨_, rfl⟩
          rw [hpp]
          rw [hpp] at HSM
          clear hpp
          iterate 2 (refine wpTxH_take rfl (by kernel_rfl) (v := ?_) ?_ ?_; rotate_left; · (intro w hS; have s0 := hS.cell 0 _ rfl; clear hS; go_simp; with_reducible rfl))
          refine wpTxH_nil ?_
          go_simp
          refine HK0.out _ _ (Met.intro (HJ0.out _ _ ?_))
          (repeat apply Exists.intro)
          refine ⟨?_, rfl⟩
          exact ⟨by rw [HSM.out], HB4.out⟩
      case rest =>
      obtain ⟨rfl, hbc⟩ := hcut
      have HBC := Lib.hid hbc
      have e0 : wc.cell? ⟨g, 0, none⟩ = some (.string ⟨p1.toArray⟩) := hbc.2.cell 0 _ rfl
      have e1 : wc.cell? ⟨g, 1, none⟩ = some (.int .i64 p2) := hbc.2.cell 1 _ rfl
      clear hbc c0 c1
      by_cases hstar : p1 = [42]
      · have hbe : (p1 == [42]) = true := by rw [hstar]; rfl
        have HR := Lib.hid (HST.out.trans (lanT_star n _ _ hstar))
        clear hstar
        go_wp2
        have hwi := HW.out
        go_roundw
        case rel => (try rw [hwi]); clear hwi; exact ⟨i + 1, by go_num, by rw [HR.out], by rw [HR.out], hlt, HBC.out.1⟩
        case measure => (try rw [hwi]); clear hwi; simp [intOf]; omega
      · have hbe : (p1 == [42]) = false := beq_false_of_ne hstar
        cases hmet : metL n p1 with
        | false =>
          have HR := Lib.hid (HST.out.trans (lanT_unmet n _ _ hmet))
          clear hstar hmet
          go_wp2
          have hwi := HW.out
          go_roundw
          case rel => (try rw [hwi]); clear hwi; exact ⟨i + 1, by go_num, by rw [HR.out], by rw [HR.out], hlt, HBC.out.1⟩
          case measure => (try rw [hwi]); clear hwi; simp [intOf]; omega
        | true =>
          by_cases hup : bb < (p1.length : Int)
          · have HR := Lib.hid (HST.out.trans (lanT_yes n _ _ hstar hmet hup))
            clear hstar hmet
            go_wp2_with fail
            go_still (by kernel_rfl)
            go_wp2
            have hwi := HW.out
            go_roundw
            case rel => (try rw [hwi]); clear hwi; exact ⟨i + 1, by go_num, by rw [HR.out], by rw [HR.out], hlt, HBC.out.1.drew⟩
            case measure => (try rw [hwi]); clear hwi; simp [intOf]; omega
          · have HR := Lib.hid (HST.out.trans (lanT_short n _ _ hup))
            have hup2 : decide (bb < (p1.length : Int)) = false := decide_eq_false hup
            clear hup
            clear hstar hmet
            go_wp2
            have hwi := HW.out
            go_roundw
            case rel => (try rw [hwi]); clear hwi; exact ⟨i + 1, by go_num, by rw [HR.out], by rw [HR.out], hlt, HBC.out.1⟩
            case measure => (try rw [hwi]); clear hwi; simp [intOf]; omega
    · obtain rfl : i = l.length := by omega
      have hd : decide (l.length < l.length) = false := decide_eq_false (Nat.lt_irrefl _)
      rw [List.take_length]
      have HB := Lib.hid hb
      clear hb
      obtain ⟨⟨bb, qq⟩, hF⟩ : ∃ r, lanF n l = r := ⟨_, rfl⟩
      rw [hF] at HNONE HSOME
      rw [hF]
      simp only
      clear hF
      by_cases hneg : bb < 0
      · have HR := Lib.hid (HNONE.out hneg)
        have HNM := Lib.hid (named_any _ l [42] wr HN.out.1 HS.out (by decide) (HIN.out.below HB.out))
        obtain ⟨ov, hov⟩ : ∃ ov, namP [42] l = ov := ⟨_, rfl⟩
        rw [hov] at HR HNM
        rw [show nmV ov = .tuple #[.int .i64 (ov.getD 0), .bool ov.isSome] from rfl] at HNM
        clear hov
        go_wp2_with fail
        refine (HNM.out).mono ?_
        rintro e w2 ⟨rfl, hb2⟩
        have HB2 := Lib.hid (HB.out.trans (hb2.mono HB.out.size))
        clear hb2
        go_wp2
        go_ret
        rw [HR.out]
        exact ⟨rfl, HB2.out⟩
      · have hneg2 : 0 ≤ bb := by omega
        have HR := Lib.hid (HSOME.out (by first | exact hneg | exact hneg2))
        go_wp2
        go_ret
        rw [HR.out]
        exact ⟨rfl, HB.out⟩
theorem lanNone (l : List Wgt) (h : l.any (wIs [42]) = false) : (namP [42] l).getD 0 = 0 := by rw [namP_end [42] l h]; rfl
set_option maxHeartbeats 8000000 in
theorem rlanl_any (v : Value) (l : List Wgt) (n : List UInt8) (w : World) (hN : l.length ≤ 1073741824) (hs : WLen l) (hn : n.length ≤ 2147483648) (h : WgtsIn w v l) :
    Calls Tryd.prog 88 #[v, .string ⟨n.toArray⟩] w fun e w' => e = .returned (.int .i64 (lanL l n)) ∧ Below w.heap.size w w' := by
  have hisl := rislan_any ⟨n.toArray⟩ w (by rw [size_mk]; exact hn)
  rw [show (⟨n.toArray⟩ : ByteArray).data.toList = n from rfl] at hisl
  have hn40 : n.length ≤ 1099511627776 := Nat.le_trans hn (by decide)
  obtain ⟨ao, cap, rfl, hat⟩ := h
  by_cases hz : l.length = 0
  · have hzi : ((l.length : Int) == 0) = true := by rw [hz]; rfl
    have HR := Lib.hid (lanL_nil l n hz)
    clear hat hz hisl
    go_enter Tryd.func88, Tryd.ntmps88
    go_wp2
    go_ret
    rw [HR.out]
    exact ⟨rfl, Below.refl _ _⟩
  have hzi : ((l.length : Int) == 0) = false := by simp; intro e; exact hz (by simp [e])
  cases hok : lanOk n with
  | false =>
    rw [hok] at hisl
    have HR := Lib.hid (lanL_bad l n hz hok); have HI := Lib.hid hisl
    clear hat hz hisl hok
    go_enter Tryd.func88, Tryd.ntmps88
    go_wp2_with fail
    refine (HI.out).mono ?_
    rintro e w1 ⟨rfl, hw1⟩; subst hw1
    go_wp2
    go_ret
    rw [HR.out]
    exact ⟨rfl, Below.refl _ _⟩
  | true =>
  rw [hok] at hisl
  have HI := Lib.hid hisl; have HAT := Lib.hid hat; have HS := Lib.hid hs; have HN := Lib.hid (And.intro hN hn40)
  have HNONE := Lib.hid (lanL_none l n hz hok); have HSOME := Lib.hid (lanL_some l n hz hok)
  clear hat hz hisl hok hs hn hn40 hN
  go_enter Tryd.func88, Tryd.ntmps88
  go_wp2_with fail
  refine (HI.out).mono ?_
  rintro e w1 ⟨rfl, hw1⟩; subst hw1
  go_wp2
  go_loopw [7, 5, 6] (fun iv bv qv wr => ∃ i : Nat, iv = .int .i64 i ∧ bv = .int .i64 (lanF n (l.take i)).1 ∧ qv = .int .i64 (lanF n (l.take i)).2 ∧ i ≤ l.length ∧ Below w1.heap.size w1 wr) (fun iv _ _ _ => l.length - (intOf iv).toNat)
  case atStart => exact ⟨0, rfl, rfl, rfl, Nat.zero_le _, Below.refl _ _⟩
  case round =>
    obtain ⟨i, rfl, rfl, rfl, hi, hb⟩ := hrel
    by_cases hlt : i < l.length
    · obtain ⟨p, hp⟩ : ∃ p, l[i]? = some p := ⟨_, List.getElem?_eq_getElem hlt⟩
      obtain ⟨g, o, rfl, hgl, c0, c1⟩ := HAT.out.below hb i p hp
      have k0 : (0 : Int) ≤ (i : Int) := Int.natCast_nonneg _
      have k1 : (i : Int) < (l.length : Int) := by omega
      have hwi := wrap64_small i (small30 i _ hi HN.out.1)
      have hpl := HS.out i p hp
      have hst := lanF_take n l i p hp
      obtain ⟨p1, p2⟩ := p
      simp only at c0 c1 hpl
      obtain ⟨⟨bb, qq⟩, hF⟩ : ∃ r, lanF n (l.take i) = r := ⟨_, rfl⟩
      rw [hF] at hst
      rw [hF]
      simp only
      have M1 := fun w => rmet_any n p1 w HN.out.2 hpl
      have HB := Lib.hid hb; have HW := Lib.hid hwi; have HST := Lib.hid hst; have HM1 := Lib.hid M1
      clear hb hwi hst M1 hpl hp hF
      by_cases hstar : p1 = [42]
      · have hbe : (p1 == [42]) = true := by rw [hstar]; rfl
        have HR := Lib.hid (HST.out.trans (lanT_star n _ _ hstar))
        clear hstar
        go_wp2
        have hwi := HW.out
        go_roundw
        case rel => (try rw [hwi]); clear hwi; exact ⟨i + 1, by go_num, by rw [HR.out], by rw [HR.out], hlt, HB.out⟩
        case measure => (try rw [hwi]); clear hwi; simp [intOf]; omega
      · have hbe : (p1 == [42]) = false := beq_false_of_ne hstar
        cases hmet : metL n p1 with
        | false =>
          have HR := Lib.hid (HST.out.trans (lanT_unmet n _ _ hmet))
          have M1 := HM1.out
          rw [hmet] at M1
          have HMM := Lib.hid M1
          clear hstar hmet M1
          go_wp2_with fail
          refine (HMM.out _).mono ?_
          rintro e w2 ⟨rfl, hb2⟩
          have HB2 := Lib.hid (HB.out.trans (hb2.mono HB.out.size))
          clear hb2 c0 c1
          go_wp2
          have hwi := HW.out
          go_roundw
          case rel => (try rw [hwi]); clear hwi; exact ⟨i + 1, by go_num, by rw [HR.out], by rw [HR.out], hlt, HB2.out⟩
          case measure => (try rw [hwi]); clear hwi; simp [intOf]; omega
        | true =>
          have M1 := HM1.out
          rw [hmet] at M1
          have HMM := Lib.hid M1
          by_cases hup : bb < (p1.length : Int)
          · have HR := Lib.hid (HST.out.trans (lanT_yes n _ _ hstar hmet hup))
            clear hstar hmet M1
            go_wp2_with fail
            refine (HMM.out _).mono ?_
            rintro e w2 ⟨rfl, hb2⟩
            have HB2 := Lib.hid (HB.out.trans (hb2.mono HB.out.size))
            have d0 : w2.cell? ⟨g, o + i * 2, none⟩ = some (.string ⟨p1.toArray⟩) := by rw [hb2.cell (p := ⟨g, o + i * 2, none⟩) hgl]; exact c0
            have d1 : w2.cell? ⟨g, o + i * 2 + 1, none⟩ = some (.int .i64 p2) := by rw [hb2.cell (p := ⟨g, o + i * 2 + 1, none⟩) hgl]; exact c1
            clear hb2 c0 c1
            go_wp2_with fail
            go_still (by kernel_rfl)
            go_wp2
            have hwi := HW.out
            go_roundw
            case rel => (try rw [hwi]); clear hwi; exact ⟨i + 1, by go_num, by rw [HR.out], by rw [HR.out], hlt, HB2.out.drew⟩
            case measure => (try rw [hwi]); clear hwi; simp [intOf]; omega
          · have HR := Lib.hid (HST.out.trans (lanT_short n _ _ hup))
            have hup2 : decide (bb < (p1.length : Int)) = false := decide_eq_false hup
            clear hup
            clear hstar hmet M1
            go_wp2_with fail
            refine (HMM.out _).mono ?_
            rintro e w2 ⟨rfl, hb2⟩
            have HB2 := Lib.hid (HB.out.trans (hb2.mono HB.out.size))
            have d0 : w2.cell? ⟨g, o + i * 2, none⟩ = some (.string ⟨p1.toArray⟩) := by rw [hb2.cell (p := ⟨g, o + i * 2, none⟩) hgl]; exact c0
            clear hb2 c0 c1
            go_wp2
            have hwi := HW.out
            go_roundw
            case rel => (try rw [hwi]); clear hwi; exact ⟨i + 1, by go_num, by rw [HR.out], by rw [HR.out], hlt, HB2.out⟩
            case measure => (try rw [hwi]); clear hwi; simp [intOf]; omega
    · obtain rfl : i = l.length := by omega
      have hd : decide (l.length < l.length) = false := decide_eq_false (Nat.lt_irrefl _)
      rw [List.take_length]
      have HB := Lib.hid hb
      clear hb
      obtain ⟨⟨bb, qq⟩, hF⟩ : ∃ r, lanF n l = r := ⟨_, rfl⟩
      rw [hF] at HNONE HSOME
      rw [hF]
      simp only
      clear hF
      by_cases hneg : bb < 0
      · have HR := Lib.hid (HNONE.out hneg)
        go_wp2
        go_loopw [8] (fun iv wr => ∃ i : Nat, iv = .int .i64 i ∧ i ≤ l.length ∧ (l.take i).any (wIs [42]) = false ∧ Below w1.heap.size w1 wr) (fun iv _ => l.length - (intOf iv).toNat)
        case atStart => exact ⟨0, rfl, Nat.zero_le _, rfl, HB.out⟩
        case round =>
          clear hd
          obtain ⟨i, rfl, hi, hno, hb⟩ := hrel
          by_cases hlt : i < l.length
          · obtain ⟨p, hp⟩ : ∃ p, l[i]? = some p := ⟨_, List.getElem?_eq_getElem hlt⟩
            obtain ⟨g, o, rfl, hgl, c0, c1⟩ := HAT.out.below hb i p hp
            have k0 : (0 : Int) ≤ (i : Int) := Int.natCast_nonneg _
            have k1 : (i : Int) < (l.length : Int) := by omega
            have hwi := wrap64_small i (small30 i _ hi HN.out.1)
            obtain ⟨p1, p2⟩ := p
            simp only at c0 c1
            have HB2 := Lib.hid hb; have HW := Lib.hid hwi; have HNO := Lib.hid hno; have HP := Lib.hid hp
            clear hb hwi hno hp
            by_cases hst : p1 = [42]
            · have hbe : (p1 == [42]) = true := by rw [hst]; rfl
              have HST := Lib.hid (namP_at [42] l i _ HP.out HNO.out (by rw [wIs_star]; exact decide_eq_true hst))
              clear hst
              go_wp2
              go_ret
              rw [HR.out, HST.out]
              exact ⟨rfl, HB2.out⟩
            · have hbe : (p1 == [42]) = false := beq_false_of_ne hst
              have HST := Lib.hid (wIs_step [42] l i _ HP.out HNO.out (by rw [wIs_star]; exact decide_eq_false hst))
              clear hst
              go_wp2
              have hwi := HW.out
              go_roundw
              case rel => (try rw [hwi]); clear hwi; exact ⟨i + 1, by go_num, hlt, HST.out, HB2.out⟩
              case measure => (try rw [hwi]); clear hwi; simp [intOf]; omega
          · obtain rfl : i = l.length := by omega
            have hd : decide (l.length < l.length) = false := decide_eq_false (Nat.lt_irrefl _)
            rw [List.take_length] at hno
            have HNN := Lib.hid (lanNone l hno)
            have HB := Lib.hid hb
            clear hno hb
            go_wp2
            go_ret
            rw [HR.out, HNN.out]
            exact ⟨rfl, HB.out⟩
      · have hneg2 : 0 ≤ bb := by omega
        have HR := Lib.hid (HSOME.out (by first | exact hneg | exact hneg2))
        go_wp2
        go_ret
        rw [HR.out]
        exact ⟨rfl, HB.out⟩
set_option maxHeartbeats 4000000 in
theorem chooseL_any (p q : Value) (f : Nat → Int) (n : Nat) (w : World) (hn : n ≤ 1073741824)
    (hc : ∀ (W : World) (i : Nat), Below w.heap.size w W → i < n → Calls Tryd.prog 86 #[.int .i64 (i : Int), p, q] W fun e W' => e = .returned (.int .i64 (f i)) ∧ Below W.heap.size W W') :
    Calls Tryd.prog 64 #[.agg #[.int .i64 (n : Int), .func (.func 86) #[] #[p, q]]] w fun e w' => e = .returned (.int .i64 (fstS f n).1) ∧ Below w.heap.size w w' := by
  have hb0 := (Below.refl _ w).alloc (Nat.le_refl _) (.cells #[.int .i64 (n : Int), .func (.func 86) #[] #[p, q]] 114)
  have hB0 := blkIs_new w #[.int .i64 (n : Int), .func (.func 86) #[] #[p, q]] 114
  have HC := Lib.hid hc; have HREL := Lib.hid (And.intro hb0 hB0)
  clear hc hb0 hB0
  go_enter Tryd.func64, Tryd.ntmps64
  go_wp2
  go_loopw [9, 3, 4] (fun iv bv qv wr => ∃ i : Nat, iv = .int .i64 i ∧ bv = .int .i64 (fstS f i).1 ∧ qv = .int .i64 (fstS f i).2 ∧ i ≤ n ∧ Below w.heap.size w wr ∧ BlkIs wr w.heap.size #[.int .i64 (n : Int), .func (.func 86) #[] #[p, q]] 114) (fun iv _ _ _ => n - (intOf iv).toNat)
  case atStart => exact ⟨0, rfl, rfl, rfl, Nat.zero_le _, HREL.out⟩
  case round =>
    clear HREL
    obtain ⟨i, rfl, rfl, rfl, hi, hb, hB⟩ := hrel
    obtain ⟨b, hbv⟩ : ∃ b, (fstS f i).1 = b := ⟨_, rfl⟩
    obtain ⟨x, hxv⟩ : ∃ x, (fstS f i).2 = x := ⟨_, rfl⟩
    rw [hbv, hxv]
    by_cases hlt : i < n
    · have k0 : (0 : Int) ≤ (i : Int) := Int.natCast_nonneg _
      have k1 : (i : Int) < (n : Int) := by omega
      have hwi := wrap64_small i (small30 i _ hi hn)
      have c1 : wr.cell? ⟨w.heap.size, 1, none⟩ = some (.func (.func 86) #[] #[p, q]) := hB.cell 1 _ rfl
      have HCC := Lib.hid (HC.out wr i hb hlt)
      have HW := Lib.hid hwi; have HB := Lib.hid (And.intro hb hB); have HBX := Lib.hid (And.intro hbv hxv)
      clear hwi hb hB hbv hxv
      obtain ⟨y, hy⟩ : ∃ y, f i = y := ⟨_, rfl⟩
      rw [hy] at HCC
      have HY := Lib.hid hy
      clear hy
      go_wp2_with fail
      refine (HCC.out).mono ?_
      rintro e w1 ⟨rfl, hb1⟩
      have HB1 := Lib.hid (And.intro (HB.out.1.trans (hb1.mono HB.out.1.size)) (HB.out.2.later hb1))
      clear hb1 c1
      by_cases hup : x < y
      · have HST := Lib.hid (fstS_up f i (by rw [HBX.out.2, HY.out]; exact hup))
        go_wp2
        have hwi := HW.out
        go_roundw
        case rel => (try rw [hwi]); clear hwi; exact ⟨i + 1, by go_num, by rw [HST.out], by rw [HST.out, HY.out], hlt, HB1.out⟩
        case measure => (try rw [hwi]); clear hwi; simp [intOf]; omega
      · have HST := Lib.hid (fstS_stay f i (by rw [HBX.out.2, HY.out]; omega))
        have hle : y ≤ x := by omega
        go_wp2
        have hwi := HW.out
        go_roundw
        case rel => (try rw [hwi]); clear hwi; exact ⟨i + 1, by go_num, by rw [HST.out, HBX.out.1], by rw [HST.out, HBX.out.2], hlt, HB1.out⟩
        case measure => (try rw [hwi]); clear hwi; simp [intOf]; omega
    · obtain rfl : i = n := by omega
      have hd : decide (i < i) = false := decide_eq_false (Nat.lt_irrefl _)
      have HX := Lib.hid (And.intro hbv hb)
      clear hb hB hbv hxv
      go_wp2
      go_ret
      rw [HX.out.1]
      exact ⟨rfl, HX.out.2⟩
set_option maxHeartbeats 4000000 in
theorem lanlit_any (v ov : Value) (b1 b3 : Nat) (l : List Wgt) (o : List (List UInt8)) (i : Nat) (mm : Int) (w : World) (hN : l.length ≤ 1073741824) (hs : WLen l) (hT : TLen31 o) (h : WgtsIn w v l) (ho : TxtsIn w ov o) (hm : w.cell? ⟨1, 0, none⟩ = some (.int .i64 mm)) (hi : i < o.length) (h1 : BlkIs w b1 #[v] 43) (h3 : BlkIs w b3 #[ov] 44) :
    Calls Tryd.prog 86 #[.int .i64 (i : Int), .pointer (some ⟨b1, 0, none⟩), .pointer (some ⟨b3, 0, none⟩)] w fun e w' => e = .returned (.int .i64 (txAt (lanL l) o i)) ∧ Below w.heap.size w w' := by
  obtain ⟨m, hmm⟩ : ∃ m, o[i]? = some m := ⟨_, List.getElem?_eq_getElem hi⟩
  have hml := hT i m hmm
  rw [txAt_get _ o i m hmm]
  obtain ⟨oo, ocap, rfl, hat⟩ := ho
  obtain ⟨g, off, rfl, lt, c0⟩ := hat i m hmm
  have k0 : (0 : Int) ≤ (i : Int) := Int.natCast_nonneg _
  have k1 : (i : Int) < (o.length : Int) := by omega
  have d1 : w.cell? ⟨b1, 0, none⟩ = some v := h1.cell 0 _ rfl
  have d3 : w.cell? ⟨b3, 0, none⟩ = some (.slice (some ⟨g, off, none⟩) o.length ocap) := h3.cell 0 _ rfl
  have HS := Lib.hid (show w.drew.cell? ⟨b1, 0, none⟩ = some v ∧ w.drew.cell? ⟨b3, 0, none⟩ = some (.slice (some ⟨g, off, none⟩) o.length ocap) ∧ w.drew.cell? ⟨g, off + i, none⟩ = some (.string ⟨m.toArray⟩) from ⟨d1, d3, c0⟩)
  have HL := Lib.hid (olanl_any v l m mm w.drew hN hs hml hm (h.below ((Below.refl _ w).drew)))
  clear hN hs hT h hat h1 h3 hmm hml d1 d3 c0 hm
  go_enter Tryd.func86, Tryd.ntmps86
  go_wp2
  refine wp_region_textH (fun w' => w'.cell? ⟨b1, 0, none⟩ = some v ∧ w'.cell? ⟨b3, 0, none⟩ = some (.slice (some ⟨g, off, none⟩) o.length ocap) ∧ w'.cell? ⟨g, off + i, none⟩ = some (.string ⟨m.toArray⟩)) [(0, true), (1, true), (2, true), (3, true), (4, true), (5, false), (6, true)] (by kernel_rfl) (by kernel_rfl) (by kernel_rfl) (by kernel_rfl) HS.out ?_
  iterate 5 (refine wpTxH_take rfl (by kernel_rfl) (v := ?_) ?_ ?_; rotate_left; · (intro w hS; obtain ⟨s0, s1, s2⟩ := hS; go_simp; with_reducible rfl))
  refine wpTxH_step rfl (fun K hK => ?_)
  go_simp
  refine (HL.out).mono ?_
  rintro e w1 ⟨rfl, hb1⟩
  obtain ⟨s0, s1, s2⟩ := HS.out
  refine hK _ _ ⟨mx_later (B := 0) s0 hb1, mx_later (B := 0) s1 hb1, mx_later (B := 0) s2 hb1⟩ ?_
  clear hK K s0 s1 s2
  have HB := Lib.hid ((Below.refl _ w).drew.trans hb1)
  clear hb1
  refine wpTxH_take rfl (by kernel_rfl) (v := ?_) ?_ ?_; rotate_left; · (intro w hS; clear hS; go_simp; with_reducible rfl)
  refine wpTxH_nil ?_
  go_simp
  go_wp2
  go_ret
  exact ⟨rfl, HB.out⟩
set_option maxHeartbeats 4000000 in
theorem chooseLanguage_any (v ov : Value) (l : List Wgt) (o : List (List UInt8)) (mm : Int) (w : World) (hN : l.length ≤ 1073741824) (hs : WLen l) (hO : o.length ≤ 1073741824) (hT : TLen31 o) (hm : w.cell? ⟨1, 0, none⟩ = some (.int .i64 mm)) (h : WgtsIn w v l) (ho : TxtsIn w ov o) :
    Calls Tryd.prog 44 #[v, ov] w fun e w' => e = .returned (.int .i64 (chTx (lanL l) o)) ∧ Below w.heap.size w w' := by
  obtain ⟨lo, lcap, rfl, hlat⟩ := h
  have h : WgtsIn w (.slice lo l.length lcap) l := ⟨_, _, rfl, hlat⟩
  obtain ⟨oo, ocap, rfl, hoat⟩ := ho
  have ho : TxtsIn w (.slice oo o.length ocap) o := ⟨_, _, rfl, hoat⟩
  obtain ⟨v, hv⟩ : ∃ v, Value.slice lo l.length lcap = v := ⟨_, rfl⟩
  obtain ⟨ov, hov⟩ : ∃ ov, Value.slice oo o.length ocap = ov := ⟨_, rfl⟩
  rw [hv] at h
  rw [hov] at ho
  obtain ⟨W1, hW1⟩ : ∃ W1, w.alloc (.cells #[v] 43) = W1 := ⟨_, rfl⟩
  obtain ⟨W3, hW3⟩ : ∃ W3, W1.alloc (.cells #[ov] 44) = W3 := ⟨_, rfl⟩
  have z1 : W1.heap.size = w.heap.size + 1 := by rw [← hW1]; simp
  have b1 : BlkIs W1 w.heap.size #[v] 43 := by rw [← hW1]; exact blkIs_new w _ _
  have b3 : BlkIs W3 (w.heap.size + 1) #[ov] 44 := by rw [← hW3, ← z1]; exact blkIs_new W1 _ _
  have c1 : BlkIs W3 w.heap.size #[v] 43 := by rw [← hW3]; exact b1.alloc _
  have hb : Below w.heap.size w W3 := by
    rw [← hW3]
    refine Below.alloc ?_ (by rw [z1]; omega) _
    rw [← hW1]
    exact (Below.refl _ w).alloc (Nat.le_refl _) _
  have HC := Lib.hid (chooseL_any (.pointer (some ⟨w.heap.size, 0, none⟩)) (.pointer (some ⟨w.heap.size + 1, 0, none⟩)) (txAt (lanL l) o) o.length W3 hO (fun W i hW hi => lanlit_any v ov w.heap.size (w.heap.size + 1) l o i mm W hN hs hT ((h.below hb).below hW) ((ho.below hb).below hW) (mx_later (B := 0) (mx_later (B := 0) hm hb) hW) hi (c1.later hW) (b3.later hW)))
  rw [← hW1, ← hv, ← hov] at hW3
  have hmf := hmf7
  have HB := Lib.hid hb; have HW := Lib.hid hW3
  have d2 : W3.cell? ⟨w.heap.size + 1, 0, none⟩ = some (.slice oo o.length ocap) := by rw [hov]; exact b3.cell 0 _ rfl
  clear hN hs hO hT h ho hlat hoat hb b1 b3 c1 hW1 hW3 hv hov z1 hm
  go_enter Tryd.func44, Tryd.ntmps44
  go_upto_region 1 with fail
  rw [HW.out]
  go_wp2_with fail
  refine (HC.out).mono ?_
  rintro e w1 ⟨rfl, hb1⟩
  have HB1 := Lib.hid (HB.out.trans (hb1.mono HB.out.size))
  clear hb1 d2
  go_wp2
  go_ret
  exact ⟨rfl, HB1.out⟩
set_option maxHeartbeats 4000000 in
theorem rchooseLanguage_any (v ov : Value) (l : List Wgt) (o : List (List UInt8)) (w : World) (hN : l.length ≤ 1073741824) (hs : WLen l) (hO : o.length ≤ 1073741824) (hT : TLen31 o) (h : WgtsIn w v l) (ho : TxtsIn w ov o) :
    Calls Tryd.prog 45 #[v, ov] w fun e w' => e = .returned (.int .i64 (chTx (lanL l) o)) ∧ Below w.heap.size w w' := by
  obtain ⟨oo, ocap, rfl, hat⟩ := ho
  obtain ⟨i0, hi0, hz0, hz1, hz2⟩ := info_partsI infoInt7
  obtain ⟨L, hL⟩ : ∃ L, w.heap.size = L := ⟨_, rfl⟩
  have hbb : Below L w (w.alloc (.cells #[] 3)) := by rw [← hL]; exact (Below.refl _ w).alloc (Nat.le_refl _) _
  have hrm : (w.alloc (.cells #[] 3)).ownsRow L 3 1 (.slice (some ⟨w.heap.size, 0, none⟩) 0 0) 0 [] := by rw [← hL]; exact World.ownsRow_made w #[] 0 (Nat.le_refl _) (by simp) rfl
  have HL := Lib.hid hL; have HAT := Lib.hid hat; have HH := Lib.hid (And.intro h (And.intro hN (And.intro hs hT)))
  clear hL hat h hN hs hT
  go_enter Tryd.func45, Tryd.ntmps45
  go_wp2
  go_loopw [6, 5] (fun iv qv wr => ∃ i : Nat, iv = .int .i64 i ∧ i ≤ o.length ∧ wr.ownsRow L 3 1 qv i (intsV ((o.map (lanL l)).take i)) ∧ Below L w wr) (fun iv _ _ => o.length - (intOf iv).toNat)
  case atStart => exact ⟨0, rfl, Nat.zero_le _, hrm, hbb⟩
  case round =>
    clear hbb hrm
    obtain ⟨i, rfl, hi, hown, hb⟩ := hrel
    have hb' : Below w.heap.size w wr := by rw [HL.out]; exact hb
    by_cases hlt : i < o.length
    · obtain ⟨m, hm⟩ : ∃ m, o[i]? = some m := ⟨_, List.getElem?_eq_getElem hlt⟩
      obtain ⟨g, off, rfl, _, c0⟩ := HAT.out.below hb' i m hm
      have k0 : (0 : Int) ≤ (i : Int) := Int.natCast_nonneg _
      have k1 : (i : Int) < (o.length : Int) := by omega
      have hbd := int_bd i o.length hlt hO
      have hwi := wrap64_small i (small30 i _ hi hO)
      have HLK := Lib.hid (rlanl_any v l m wr HH.out.2.1 HH.out.2.2.1 (HH.out.2.2.2 i m hm) (HH.out.1.below hb'))
      have HST := Lib.hid (txs_step (lanL l) o i m hm)
      have HO := Lib.hid hown; have HB := Lib.hid hb; have HW := Lib.hid hwi
      obtain ⟨y, hy⟩ : ∃ y, lanL l m = y := ⟨_, rfl⟩
      rw [hy] at HLK HST
      clear hown hb hb' hwi hm hy
      go_wp2_with fail
      refine (HLK.out).mono ?_
      rintro e w1 ⟨rfl, hb1⟩
      have hbL := bsz HB.out HL
      have HO1 := Lib.hid (own_later HO.out hb1)
      have hb2 := HB.out.trans (hb1.mono hbL)
      have HB1 := Lib.hid hb2
      have hbz := hb2.size
      rw [HL.out] at hbz
      clear hb1 c0 hb2
      go_wp2_with (at_builtin; refine wpList_append_own _ rfl (.tmp 14) (.tmp 21) 116 rfl L 3 i0 (.int .i64 0) 1 8 Tryd.underlying116 hi0 hz0 hz1 hz2 rfl (by decide) _ _ _ rfl (HO1.out.alloc _) ⟨w1.heap.size, 0, none⟩ 1 1 [.int .i64 y] rfl rfl (cells_new w1 3 _) (by simp [Value.oneCell']) hbd.1 hbd.2 ?dd ?_)
      case dd => simp; omega
      intro v1 w2 hI1 hg1 _
      have hb2 : Below L w w2 := (HB1.out.alloc hbz _).grown hg1 (by simp; omega) (fun k hk => (HO1.out.lt k hk).1)
      have HI1 := Lib.hid hI1; have HB2 := Lib.hid hb2
      clear hI1 hg1 hb2
      go_wp2
      have hwi := HW.out
      go_roundw
      case rel =>
        (try rw [hwi]); clear hwi
        refine ⟨i + 1, by go_num, by omega, ?_, HB2.out⟩
        rw [HST.out]
        exact HI1.out
      case measure => (try rw [hwi]); clear hwi; simp [intOf]; omega
    · obtain rfl : i = o.length := by omega
      have hd : decide (o.length < o.length) = false := decide_eq_false (Nat.lt_irrefl _)
      have hfull : (o.map (lanL l)).take o.length = o.map (lanL l) := by rw [List.take_of_length_le (by rw [List.length_map]; exact Nat.le_refl _)]
      rw [hfull] at hown
      have hin : IntsIn wr _ (o.map (lanL l)) := intsIn_own (l := o.map (lanL l)) (by rw [List.length_map]; exact hown)
      have HF := Lib.hid (rfirst_any _ (o.map (lanL l)) wr (by rw [List.length_map]; exact hO) hin)
      have HB := Lib.hid hb'
      have HC := Lib.hid (txs_map (lanL l) o)
      clear hown hb hb' hin hfull
      go_wp2_with fail
      refine (HF.out).mono ?_
      rintro e w1 ⟨rfl, hb1⟩
      rw [HC.out]
      have HB1 := Lib.hid (HB.out.trans (hb1.mono HB.out.size))
      clear hb1
      go_wp2
      go_ret
      exact ⟨rfl, HB1.out⟩
theorem tlen31_bd (l : List (List UInt8)) (h : totF List.length l ≤ 2147483648) : TLen31 l := fun i p hp => Nat.le_trans (totF_get List.length l i p hp) h
theorem wlenL_bd (l : List Wgt) (h : totF wgtLen l ≤ 1099511627776) : WLen l := fun i p hp => Nat.le_trans (totF_get wgtLen l i p hp) h
set_option maxHeartbeats 4000000 in
theorem acceptLanguages_any (v ov : Value) (l : List Wgt) (o : List (List UInt8)) (mm : Int) (w : World) (hN : l.length ≤ 1073741824) (hs : WLen l) (hO : o.length ≤ 1073741824) (hT : TLen31 o) (h : WgtsIn w v l) (ho : TxtsIn w ov o) (hx : w.cell? ⟨1, 0, none⟩ = some (.int .i64 mm)) (hg : SgAt w) :
    Calls Tryd.prog 15 #[v, ov] w fun e w' => e = .returned (.bool true) ∧ Below w.heap.size w w' := by
  have HWT := Lib.hid (weights_any v l w hN h)
  have HI := Lib.hid (And.intro (And.intro h ho) (And.intro hx hg))
  have HN := Lib.hid (And.intro (And.intro hN hs) (And.intro hO hT))
  clear h ho hx hg hN hs hO hT
  obtain ⟨q, hq⟩ : ∃ q, chTx (lanL l) o = q := ⟨_, rfl⟩
  have HQ := Lib.hid hq
  clear hq
  go_enter Tryd.func15, Tryd.ntmps15
  go_wp2_with fail
  refine (HWT.out).mono ?_
  rintro e w1 ⟨tv, rfl, hot, hb1⟩
  have HB1 := Lib.hid hb1
  have HT1 := Lib.hid (wgtsIn_own hot)
  clear hb1 hot
  go_wp2_with fail
  refine (awake07_any mm w1 (mx_later (B := 0) HI.out.2.1 HB1.out) (HI.out.2.2.below HB1.out)).mono ?_
  rintro e w2 ⟨rfl, hb2⟩
  have HB2 := Lib.hid (HB1.out.trans (hb2.mono HB1.out.size))
  have HT2 := Lib.hid (HT1.out.below hb2)
  clear hb2
  go_wp2_with fail
  refine (chooseLanguage_any v ov l o mm w2 HN.out.1.1 HN.out.1.2 HN.out.2.1 HN.out.2.2 (mx_later (B := 0) HI.out.2.1 HB2.out) (HI.out.1.1.below HB2.out) (HI.out.1.2.below HB2.out)).mono ?_
  rintro e w3 ⟨rfl, hb3⟩
  rw [HQ.out]
  have HB3 := Lib.hid (HB2.out.trans (hb3.mono HB2.out.size))
  have HT3 := Lib.hid (HT2.out.below hb3)
  clear hb3
  go_wp2_with fail
  refine (rchooseLanguage_any tv ov l o w3 HN.out.1.1 HN.out.1.2 HN.out.2.1 HN.out.2.2 HT3.out (HI.out.1.2.below HB3.out)).mono ?_
  rintro e w4 ⟨rfl, hb4⟩
  rw [HQ.out]
  have HB4 := Lib.hid (HB3.out.trans (hb4.mono HB3.out.size))
  have HT4 := Lib.hid (HT3.out.below hb4)
  have hbq : (q == q) = true := by simp
  clear hb4
  go_wp2_with fail
  refine (sameWeights_any v tv l w4 HN.out.1.1 (HI.out.1.1.below HB4.out) HT4.out).mono ?_
  rintro e w5 ⟨rfl, hb5⟩
  have HB5 := Lib.hid (HB4.out.trans (hb5.mono HB4.out.size))
  clear hb5
  go_wp2
  go_ret
  exact ⟨rfl, HB5.out⟩
theorem acceptLanguages_row (v0 : Value) (l : List Wgt) (v1 : Value) (o : List (List UInt8)) (W : World) (hL : laidMetH Tryd.prog Rows.acceptLanguagesUptoRow.laid W) (hsh : W.ShapedOpen Tryd.prog) (hs : (totF wgtLen l + l.length) + (totF List.length o + o.length) ≤ 1048576) (h0 : WgtsIn W v0 l) (h2 : TxtsIn W v1 o) :
    Calls Tryd.prog 15 #[v0, v1] W fun e W' => e = .returned (.bool true) ∧ Below W.heap.size W W' := by
  obtain ⟨mm, hm⟩ := Tryd.laysM145.s1_3 W hsh
  exact acceptLanguages_any v0 v1 l o mm W (by omega) (wlenL_bd l (by omega)) (by omega) (tlen31_bd o (by omega)) h0 h2 hm (sg_of_laid (l := Rows.acceptLanguagesUptoRow.laid) (by simp [Rows.acceptLanguagesUptoRow]) hL)
end Go.Proofs.YthnniiakmjonjaaDoor
