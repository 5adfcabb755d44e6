/- Rst, Rpq: texts of the seat, one behind the other (a claim holds at most sixty). Conditions: each theorem names its own. -/
import Derived.Test.YtlfdeenekjklgaaGreatDoorPk11
import Derived.Test.YtlfdeenekjklgaaGreatDoorPk09
import Derived.Test.YtlfdeenekjklgaaGreatDoorPk03
namespace Go.Proofs.YtlfdeenekjklgaaGreatDoor
open Go.RowKit
set_option linter.unusedSimpArgs false
set_option linter.unusedVariables false
set_option maxRecDepth 1000000
theorem pre_take_eq (t l : List UInt8) (h : t.length ≤ l.length) : t.isPrefixOf l = (l.take t.length == t) := by
  rw [Bool.eq_iff_iff, List.isPrefixOf_iff_prefix, beq_iff_eq]
  constructor
  · rintro ⟨r, rfl⟩
    simp
  · intro e
    exact ⟨l.drop t.length, by have h2 := List.take_append_drop t.length l; rw [e] at h2; exact h2⟩
theorem ext_mid (s : List UInt8) (a k : Nat) : (⟨s.toArray⟩ : ByteArray).extract a (a + k) = ⟨((s.drop a).take k).toArray⟩ := by
  refine ba_ext ?_
  simp [ByteArray.data_extract, List.extract_eq_take_drop]
set_option maxHeartbeats 4000000 in
theorem rstarts_any (s t : List UInt8) (a : Nat) (w : World) (hs : s.length ≤ 2147483648) (ha : a ≤ 4294967296) (h0 : t ≠ []) (ht : t.length ≤ 2147483648) :
    Calls Tryz.prog 28 #[.string ⟨s.toArray⟩, .int .i64 (a : Int), .string ⟨t.toArray⟩] w fun e w' => e = .returned (.bool (t.isPrefixOf (s.drop a))) ∧ w' = w := by
  have htp := List.length_pos_iff.2 h0
  obtain ⟨q, hq⟩ : ∃ q, a + t.length = q := ⟨_, rfl⟩
  have hsz : (⟨s.toArray⟩ : ByteArray).size = s.length := size_mk s
  have htz : (⟨t.toArray⟩ : ByteArray).size = t.length := size_mk t
  have q1 : (a : Int) + (t.length : Int) = (q : Int) := by omega
  obtain ⟨q2, q3⟩ := w64i (q : Int) (by omega) (by omega)
  by_cases hle : q ≤ s.length
  · have b0 : decide ((q : Int) ≤ (s.length : Int)) = true := decide_eq_true (by omega)
    have b00 : decide (q ≤ s.length) = true := decide_eq_true hle
    have hxx := ext_mid s a t.length
    rw [hq] at hxx
    have hp := pre_take_eq t (s.drop a) (by rw [List.length_drop]; omega)
    obtain ⟨X, hX⟩ : ∃ X, (s.drop a).take t.length = X := ⟨_, rfl⟩
    rw [hX] at hxx hp
    have x0 : (0 : Int) ≤ (a : Int) := Int.natCast_nonneg _
    have x1 : (a : Int) ≤ (q : Int) := by omega
    have x2 : (q : Int) ≤ (s.length : Int) := by omega
    obtain ⟨z, hz⟩ : ∃ z, (X == t) = z := ⟨_, rfl⟩
    rw [hz] at hp
    have HP := Lib.hid hp
    clear hp hX hq htp hle
    go_enter Tryz.func28, Tryz.ntmps28
    go_wp2
    go_ret
    rw [HP.out]
    exact ⟨rfl, rfl⟩
  · have b0 : decide ((q : Int) ≤ (s.length : Int)) = false := decide_eq_false (by omega)
    have b00 : decide (q ≤ s.length) = false := decide_eq_false hle
    have HP := Lib.hid (show t.isPrefixOf (s.drop a) = false from pre_short t _ (by rw [List.length_drop]; omega))
    clear hle hq htp
    go_enter Tryz.func28, Tryz.ntmps28
    go_wp2
    go_ret
    rw [HP.out]
    exact ⟨rfl, rfl⟩
/-- What stands behind a boundary: how many bytes till the next line, or -1; or the text ends. -/
def tlR (L : List UInt8) (n : Nat) : Int × Bool := if L = [] ∨ L = [13] then (0, true) else if crlf.isPrefixOf L = true then ((n : Int) + 2, false) else (-1, false)
theorem run_here (s : List UInt8) (a i : Nat) (c : UInt8) (h : s[a + i]? = some c) : (s.drop a)[i]? = some c := by rw [List.getElem?_drop]; exact h
theorem drop_len1 (s : List UInt8) (q : Nat) (c : UInt8) (h : s[q]? = some c) (hl : q + 1 = s.length) : s.drop q = [c] := by
  obtain ⟨hq, he⟩ := List.getElem?_eq_some_iff.1 h
  rw [List.drop_eq_getElem_cons hq, he, List.drop_eq_nil_of_le (by omega)]
set_option maxHeartbeats 4000000 in
theorem rtail_any (s : List UInt8) (a : Nat) (w : World) (hs : s.length ≤ 2147483648) (ha : a ≤ s.length) :
    Calls Tryz.prog 29 #[.string ⟨s.toArray⟩, .int .i64 (a : Int)] w fun e w' => e = .returned (.tuple #[.int .i64 (tlR ((s.drop a).dropWhile isBl) (runL isBl (s.drop a))).1, .bool (tlR ((s.drop a).dropWhile isBl) (runL isBl (s.drop a))).2]) ∧ w' = w := by
  have hsz : (⟨s.toArray⟩ : ByteArray).size = s.length := size_mk s
  obtain ⟨n, hn⟩ : ∃ n, runL isBl (s.drop a) = n := ⟨_, rfl⟩
  have hnl := runL_le isBl (s.drop a)
  rw [hn, List.length_drop] at hnl
  have hdl : (s.drop a).dropWhile isBl = s.drop (a + n) := by rw [dropW_run, hn, List.drop_drop]
  obtain ⟨R, hR⟩ : ∃ R, tlR ((s.drop a).dropWhile isBl) n = R := ⟨_, rfl⟩
  rw [hn, hR]
  rw [hdl] at hR
  have HN := Lib.hid hn; have HR := Lib.hid hR; have HS := Lib.hid (And.intro hs (And.intro ha hnl))
  clear hn hR hdl hs ha hnl
  go_enter Tryz.func29, Tryz.ntmps29
  go_wp2
  go_loopw [6] (fun iv wr => ∃ i : Nat, iv = .int .i64 i ∧ i ≤ n ∧ wr = w) (fun iv _ => n - (intOf iv).toNat)
  case atStart => exact ⟨0, rfl, Nat.zero_le _, rfl⟩
  case round =>
    obtain ⟨i, rfl, hi, rfl⟩ := hrel
    obtain ⟨q, hq⟩ : ∃ q, a + i = q := ⟨_, rfl⟩
    have q1 : (a : Int) + (i : Int) = (q : Int) := by omega
    have hqs : q ≤ s.length := by have := HS.out; omega
    obtain ⟨q2, q3⟩ := w64i (q : Int) (by omega) (by have := HS.out; omega)
    have x0 : (0 : Int) ≤ (q : Int) := Int.natCast_nonneg _
    by_cases hlt : q < s.length
    · have b0 : decide ((q : Int) < (s.length : Int)) = true := decide_eq_true (by omega)
      have b00 : decide (q < s.length) = true := decide_eq_true hlt
      have x1 : (q : Int) < (s.length : Int) := by omega
      obtain ⟨c, hc⟩ : ∃ c, (⟨s.toArray⟩ : ByteArray)[q]'(by rw [hsz]; exact hlt) = c := ⟨_, rfl⟩
      have hget : s[q]? = some c := by
        have h1 := list_get ⟨s.toArray⟩ q (by rw [hsz]; exact hlt)
        rw [hc] at h1
        exact h1
      have hrb := fun W => rblank_any c W
      obtain ⟨z, hz⟩ : ∃ z, isBl c = z := ⟨_, rfl⟩
      rw [hz] at hrb
      have HRB := Lib.hid hrb
      clear hrb
      cases z with
      | true =>
        have hm := runL_more isBl (s.drop a) i c (by rw [HN.out]; exact hi) (run_here s a i c (by rw [hq]; exact hget)) hz
        rw [HN.out] at hm
        have hwi := w64i ((i : Int) + 1) (by omega) (by have := HS.out; omega)
        have HW := Lib.hid hwi.1
        have HQ := Lib.hid hm
        clear hget hz hm hwi hq hqs
        go_wp2_with fail
        refine (HRB.out _).mono ?_
        rintro e w1 ⟨rfl, rfl⟩
        go_wp2
        have hwi := HW.out
        go_roundw
        case rel =>
          (try rw [hwi]); clear hwi
          exact ⟨i + 1, by go_num, HQ.out, by first | rfl | trivial⟩
        case measure => (try rw [hwi]); clear hwi; have := HQ.out; simp [intOf]; omega
      | false =>
        have hst := runL_stop isBl (s.drop a) i c (by rw [HN.out]; exact hi) (run_here s a i c (by rw [hq]; exact hget)) hz
        rw [HN.out] at hst
        subst hst
        have e0 : ((q : Int) == (s.length : Int)) = false := beq_false_of_ne (by omega)
        have e1 : decide ((q : Int) = (s.length : Int)) = false := decide_eq_false (by omega)
        have e00 : (q == s.length) = false := beq_false_of_ne (by omega)
        have e01 : decide (q = s.length) = false := decide_eq_false (by omega)
        obtain ⟨q', hq'⟩ : ∃ q', q + 1 = q' := ⟨_, rfl⟩
        have p1 : (q : Int) + 1 = (q' : Int) := by omega
        obtain ⟨p2, p3⟩ := w64i (q' : Int) (by omega) (by have := HS.out; omega)
        have hst2 := fun W => rstarts_any s crlf q W HS.out.1 (by have := HS.out; omega) (by decide) (by decide)
        have HST := Lib.hid hst2
        have hr := HR.out
        rw [hq] at hr
        have hdne : s.drop q ≠ [] := fun e => by
          have := congrArg List.length e
          rw [List.length_drop] at this
          simp only [List.length_nil] at this
          omega
        have hr2 : R = if s.drop q = [13] then (0, true) else if crlf.isPrefixOf (s.drop q) = true then ((i : Int) + 2, false) else (-1, false) := by
          rw [← hr]; unfold tlR
          by_cases h : s.drop q = [13]
          · rw [if_pos (Or.inr h), if_pos h]
          · rw [if_neg (fun e => by rcases e with e | e; exact hdne e; exact h e), if_neg h]
        clear hst2 hdne hr
        have hres : (¬ (q' = s.length ∧ c = 13) → R = if crlf.isPrefixOf (s.drop q) = true then ((i : Int) + 2, false) else (-1, false)) := fun h => by
          rw [hr2, if_neg]
          intro e
          have h2 := congrArg List.length e
          rw [List.length_drop] at h2
          simp only [List.length_cons, List.length_nil] at h2
          refine h ⟨by omega, ?_⟩
          have h3 : (s.drop q)[0]? = some c := by rw [List.getElem?_drop]; exact hget
          rw [e] at h3
          simpa using h3.symm
        have HRES := Lib.hid hres
        have tail : ∀ (hR3 : R = if crlf.isPrefixOf (s.drop q) = true then ((i : Int) + 2, false) else (-1, false)), True := fun _ => trivial
        clear hres tail
        by_cases hl : q' = s.length
        · have f0 : ((q' : Int) == (s.length : Int)) = true := beq_of_eq (by omega)
          have f1 : decide ((q' : Int) = (s.length : Int)) = true := decide_eq_true (by omega)
          have f00 : (q' == s.length) = true := beq_of_eq hl
          by_cases hc13 : c = 13
          · have k0 : ((c.toNat : Int) == 13) = true := by rw [hc13]; rfl
            have HF := Lib.hid (show R = (0, true) by rw [hr2, if_pos (by rw [drop_len1 s q c hget (by omega), hc13])])
            clear hr2 hget hz hq hc13 hl hq'
            go_wp2_with fail
            refine (HRB.out _).mono ?_
            rintro e w1 ⟨rfl, rfl⟩
            go_wp2
            go_ret2
            rw [HF.out]
            exact ⟨rfl, rfl⟩
          · have k0 : ((c.toNat : Int) == 13) = false := (ne_u8o c 13 (by decide) hc13).1
            have HF := Lib.hid (HRES.out (fun e => hc13 e.2))
            obtain ⟨pz, hpz⟩ : ∃ pz, crlf.isPrefixOf (s.drop q) = pz := ⟨_, rfl⟩
            rw [hpz] at HST HF
            clear hr2 hget hz hq hc13 hl hq' hpz
            go_wp2_with fail
            refine (HRB.out _).mono ?_
            rintro e w1 ⟨rfl, rfl⟩
            go_wp2_with fail
            refine (HST.out _).mono ?_
            rintro e w2 ⟨rfl, rfl⟩
            cases pz with
            | true =>
              have hwi := w64i ((i : Int) + 2) (by omega) (by have := HS.out; omega)
              obtain ⟨g1, g2⟩ := hwi
              have HF2 := Lib.hid (HF.out.trans (if_pos rfl))
              go_wp2
              go_ret2
              rw [HF2.out]
              exact ⟨by simp, rfl⟩
            | false =>
              have HF2 := Lib.hid (HF.out.trans (if_neg (by simp)))
              go_wp2
              go_ret2
              rw [HF2.out]
              exact ⟨rfl, rfl⟩
        · have f0 : ((q' : Int) == (s.length : Int)) = false := beq_false_of_ne (by omega)
          have f1 : decide ((q' : Int) = (s.length : Int)) = false := decide_eq_false (by omega)
          have f00 : (q' == s.length) = false := beq_false_of_ne hl
          have HF := Lib.hid (HRES.out (fun e => hl e.1))
          obtain ⟨pz, hpz⟩ : ∃ pz, crlf.isPrefixOf (s.drop q) = pz := ⟨_, rfl⟩
          rw [hpz] at HST HF
          clear hr2 hget hz hq hl hq' hpz
          go_wp2_with fail
          refine (HRB.out _).mono ?_
          rintro e w1 ⟨rfl, rfl⟩
          go_wp2_with fail
          refine (HST.out _).mono ?_
          rintro e w2 ⟨rfl, rfl⟩
          cases pz with
          | true =>
            have hwi := w64i ((i : Int) + 2) (by omega) (by have := HS.out; omega)
            obtain ⟨g1, g2⟩ := hwi
            have HF2 := Lib.hid (HF.out.trans (if_pos rfl))
            go_wp2
            go_ret2
            rw [HF2.out]
            exact ⟨by simp, rfl⟩
          | false =>
            have HF2 := Lib.hid (HF.out.trans (if_neg (by simp)))
            go_wp2
            go_ret2
            rw [HF2.out]
            exact ⟨rfl, rfl⟩
    · obtain rfl : q = s.length := by omega
      have hin : i = n := by have := HS.out; omega
      subst hin
      have b0 : decide ((s.length : Int) < (s.length : Int)) = false := decide_eq_false (by omega)
      have b00 : decide (s.length < s.length) = false := decide_eq_false (Nat.lt_irrefl _)
      have HF := Lib.hid (show R = (0, true) by
        rw [← HR.out, hq, List.drop_length]
        unfold tlR
        rw [if_pos (Or.inl rfl)])
      clear hq hlt
      go_wp2
      go_ret2
      rw [HF.out]
      exact ⟨rfl, rfl⟩
end Go.Proofs.YtlfdeenekjklgaaGreatDoor
namespace Go.Proofs.YtlfdeenekjklgaaGreatDoor
open Go.RowKit
set_option linter.unusedSimpArgs false
set_option linter.unusedVariables false
set_option maxRecDepth 1000000
section
variable (mk s : List UInt8) (a h : Nat)
theorem bh_over (hh : a + mk.length = h) (hd : ([45, 45] : List UInt8).isPrefixOf (s.drop h) = true) (h2 : s.drop (h + 2) = [] ∨ crlf.isPrefixOf (s.drop (h + 2)) = true) : bhd mk s true a = .over := by
  rw [bhd_of mk s true a _ _ rfl rfl, hh, hd, if_pos (by rfl), List.drop_drop, if_pos h2]
theorem bh_cr (hh : a + mk.length = h) (hd : ([45, 45] : List UInt8).isPrefixOf (s.drop h) = true) (h2 : s.drop (h + 2) = [13]) : bhd mk s true a = .bad 154 s.length := by
  rw [bhd_of mk s true a _ _ rfl rfl, hh, hd, if_pos (by rfl), List.drop_drop, if_neg (by rw [h2]; simp [crlf, List.isPrefixOf]), if_pos h2]
theorem bh_bd (hh : a + mk.length = h) (hd : ([45, 45] : List UInt8).isPrefixOf (s.drop h) = true) (h1 : s.drop (h + 2) ≠ []) (h3 : crlf.isPrefixOf (s.drop (h + 2)) = false) (h2 : s.drop (h + 2) ≠ [13]) : bhd mk s true a = .bad 151 h := by
  rw [bhd_of mk s true a _ _ rfl rfl, hh, hd, if_pos (by rfl), List.drop_drop, if_neg (by rintro (e | e); exact h1 e; rw [h3] at e; cases e), if_neg h2]
theorem bh_rest (more : Bool) (hh : a + mk.length = h) (hd : (more && ([45, 45] : List UInt8).isPrefixOf (s.drop h)) = false) : bhd mk s more a =
    if crlf.isPrefixOf ((s.drop h).dropWhile isBl) = true then .go (s.length - ((s.drop h).dropWhile isBl).length + 2)
    else if (s.drop h).dropWhile isBl = [] ∨ (s.drop h).dropWhile isBl = [13] ∨ (more = true ∧ s.drop h = [45]) then .bad 154 s.length
    else .bad 151 h := by
  rw [bhd_of mk s more a _ _ rfl rfl, hh, if_neg (by rw [hd]; simp)]
theorem bh_short (more : Bool) (hh : a + mk.length = h) (hd : (more && ([45, 45] : List UInt8).isPrefixOf (s.drop h)) = false) (h2 : (s.drop h).dropWhile isBl = [] ∨ (s.drop h).dropWhile isBl = [13]) : bhd mk s more a = .bad 154 s.length := by
  rw [bh_rest mk s a h more hh hd, if_neg (by rcases h2 with e | e <;> rw [e] <;> simp [crlf, List.isPrefixOf]), if_pos (by rcases h2 with e | e; exact .inl e; exact .inr (.inl e))]
theorem bh_dash (hh : a + mk.length = h) (h2 : s.drop h = [45]) : bhd mk s true a = .bad 154 s.length := by
  rw [bh_rest mk s a h true hh (by rw [h2]; rfl), h2, if_neg (by decide), if_pos (.inr (.inr ⟨rfl, rfl⟩))]
theorem bh_go (more : Bool) (n : Nat) (hle : h ≤ s.length) (hh : a + mk.length = h) (hd : (more && ([45, 45] : List UInt8).isPrefixOf (s.drop h)) = false) (hn : runL isBl (s.drop h) = n) (h2 : crlf.isPrefixOf ((s.drop h).dropWhile isBl) = true) : bhd mk s more a = .go (h + n + 2) := by
  rw [bh_rest mk s a h more hh hd, if_pos h2, dropW_run, hn, List.drop_drop, List.length_drop]
  have := runL_le isBl (s.drop h)
  rw [hn, List.length_drop] at this
  congr 1
  omega
theorem bh_no (more : Bool) (hh : a + mk.length = h) (hd : (more && ([45, 45] : List UInt8).isPrefixOf (s.drop h)) = false) (h1 : crlf.isPrefixOf ((s.drop h).dropWhile isBl) = false) (h2 : ¬ ((s.drop h).dropWhile isBl = [] ∨ (s.drop h).dropWhile isBl = [13])) (h3 : ¬ (more = true ∧ s.drop h = [45])) : bhd mk s more a = .bad 151 h := by
  rw [bh_rest mk s a h more hh hd, if_neg (by rw [h1]; simp), if_neg (by rintro (e | e | e); exact h2 (.inl e); exact h2 (.inr e); exact h3 e)]
end
theorem drop_nil_iff (s : List UInt8) (q : Nat) (h : q ≤ s.length) : s.drop q = [] ↔ q = s.length := by
  rw [List.drop_eq_nil_iff]; omega
theorem drop_one_iff (s : List UInt8) (q : Nat) (c : UInt8) (h : q < s.length) : s.drop q = [c] ↔ q + 1 = s.length ∧ s[q]? = some c := by
  constructor
  · intro e
    have h1 := congrArg List.length e
    rw [List.length_drop] at h1
    simp only [List.length_cons, List.length_nil] at h1
    refine ⟨by omega, ?_⟩
    have h3 : (s.drop q)[0]? = some c := by rw [e]; rfl
    rw [List.getElem?_drop] at h3
    exact h3
  · rintro ⟨h1, h2⟩
    exact drop_len1 s q c h2 h1
theorem tl_cases (L : List UInt8) (n : Nat) : (tlR L n = (0, true) ∧ (L = [] ∨ L = [13])) ∨ (tlR L n = ((n : Int) + 2, false) ∧ crlf.isPrefixOf L = true ∧ ¬ (L = [] ∨ L = [13])) ∨ (tlR L n = (-1, false) ∧ crlf.isPrefixOf L = false ∧ ¬ (L = [] ∨ L = [13])) := by
  unfold tlR
  by_cases h1 : L = [] ∨ L = [13]
  · exact .inl ⟨if_pos h1, h1⟩
  · by_cases h2 : crlf.isPrefixOf L = true
    · exact .inr (.inl ⟨by rw [if_neg h1, if_pos h2], h2, h1⟩)
    · exact .inr (.inr ⟨by rw [if_neg h1, if_neg h2], Bool.eq_false_iff.2 h2, h1⟩)
theorem pre2_len (s : List UInt8) (h : Nat) (hd : ([45, 45] : List UInt8).isPrefixOf (s.drop h) = true) : h + 2 ≤ s.length := by
  have := (List.isPrefixOf_iff_prefix.1 hd).length_le
  rw [List.length_drop] at this
  simp only [List.length_cons, List.length_nil] at this
  omega
end Go.Proofs.YtlfdeenekjklgaaGreatDoor
