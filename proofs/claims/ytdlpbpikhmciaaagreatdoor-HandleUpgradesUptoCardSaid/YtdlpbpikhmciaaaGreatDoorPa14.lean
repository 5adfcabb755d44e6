/- The walk of the reference's Refer: the plain function rfT. Conditions: texts and values are small. -/
import Derived.Test.YtdlpbpikhmciaaaGreatDoorPk06
import Derived.Test.YtdlpbpikhmciaaaGreatDoorPk13
namespace Go.Proofs.YtdlpbpikhmciaaaGreatDoor
open Go.RowKit
set_option linter.unusedSimpArgs false
set_option linter.unusedVariables false
set_option maxRecDepth 1000000
/-- Up to a place, outside braces. -/
def RgR (ps : List Par) (l : List UInt8) (i : Nat) (acc : List UInt8) : Prop := acc.length ≤ i * 1048577 ∧ rf ps none l = (rf ps none (l.drop i)).map (acc ++ ·)
theorem rgr_start (ps : List Par) (l : List UInt8) : RgR ps l 0 [] := ⟨by simp, by simp⟩
theorem rgr_text (ps : List Par) (l : List UInt8) (i : Nat) (acc : List UInt8) (c : UInt8) (h : RgR ps l i acc) (hc : l[i]? = some c) (h1 : c.toNat ≠ 125) (h2 : c.toNat ≠ 123) : RgR ps l (i + 1) (acc ++ [c]) := by
  obtain ⟨h3, h4⟩ := h
  refine ⟨by rw [List.length_append, List.length_singleton]; omega, ?_⟩
  rw [h4, drop_c l i c hc, rf_none ps c _ h1 h2]
  have := map_map (rf ps none (l.drop (i + 1))) acc [c]
  exact this
theorem rgr_stray (ps : List Par) (l : List UInt8) (i : Nat) (acc : List UInt8) (c : UInt8) (h : RgR ps l i acc) (hc : l[i]? = some c) (h1 : c.toNat = 125) : rf ps none l = none := by
  rw [h.2, drop_c l i c hc, rf_stray ps c _ h1]; rfl
theorem rgr_end (ps : List Par) (l : List UInt8) (acc : List UInt8) (h : RgR ps l l.length acc) : rf ps none l = some acc := by
  rw [h.2, List.drop_length]; simp [rf]
/-- No closing brace from a place up to another. -/
def NoCl (l : List UInt8) (a j : Nat) : Prop := ∀ d ∈ seg l a j, d.toNat ≠ 125
theorem noCl_step (l : List UInt8) (a j : Nat) (c : UInt8) (h : NoCl l a j) (ha : a ≤ j) (hc : l[j]? = some c) (h1 : c.toNat ≠ 125) : NoCl l a (j + 1) := by
  intro d hd
  rw [seg_one l a j c ha hc, List.mem_append] at hd
  rcases hd with hd | hd
  · exact h d hd
  · obtain rfl : d = c := by simpa using hd
    exact h1
theorem seg_drop (l : List UInt8) (a j : Nat) (h : a ≤ j) : l.drop a = seg l a j ++ l.drop j := by
  unfold seg
  rw [show l.drop j = (l.drop a).drop (j - a) by rw [List.drop_drop]; congr 1; omega, List.take_append_drop]
theorem rgr_over (ps : List Par) (l : List UInt8) (i : Nat) (acc : List UInt8) (c : UInt8) (h : RgR ps l i acc) (hc : l[i]? = some c) (h1 : c.toNat = 123) (hi : i + 1 ≤ l.length) (hn : NoCl l (i + 1) l.length) : rf ps none l = none := by
  rw [h.2, drop_c l i c hc, rf_open ps c _ h1, seg_drop l (i + 1) l.length hi, List.drop_length, List.append_nil, rf_some_none ps _ _ hn]; rfl
theorem rgr_shut (ps : List Par) (l : List UInt8) (i j : Nat) (acc : List UInt8) (c d : UInt8) (h : RgR ps l i acc) (hc : l[i]? = some c) (h1 : c.toNat = 123) (hij : i + 1 ≤ j) (hn : NoCl l (i + 1) j) (hd : l[j]? = some d) (h2 : d.toNat = 125) :
    rf ps none l = (if isNm (seg l (i + 1) j) then (rf ps none (l.drop (j + 1))).map (valL ps (seg l (i + 1) j) ++ ·) else none).map (acc ++ ·) := by
  rw [h.2, drop_c l i c hc, rf_open ps c _ h1, seg_drop l (i + 1) j hij, drop_c l j d hd, rf_some_to ps _ [] d _ hn h2]; rfl
theorem rgr_bad (ps : List Par) (l : List UInt8) (i j : Nat) (acc : List UInt8) (c d : UInt8) (h : RgR ps l i acc) (hc : l[i]? = some c) (h1 : c.toNat = 123) (hij : i + 1 ≤ j) (hn : NoCl l (i + 1) j) (hd : l[j]? = some d) (h2 : d.toNat = 125) (hm : isNm (seg l (i + 1) j) = false) : rf ps none l = none := by
  rw [rgr_shut ps l i j acc c d h hc h1 hij hn hd h2, hm]; rfl
theorem rgr_good (ps : List Par) (l : List UInt8) (i j : Nat) (acc : List UInt8) (c d : UInt8) (h : RgR ps l i acc) (hc : l[i]? = some c) (h1 : c.toNat = 123) (hij : i + 1 ≤ j) (hn : NoCl l (i + 1) j) (hd : l[j]? = some d) (h2 : d.toNat = 125) (hm : isNm (seg l (i + 1) j) = true) (hv : (valL ps (seg l (i + 1) j)).length ≤ 1048576) :
    RgR ps l (j + 1) (acc ++ valL ps (seg l (i + 1) j)) := by
  refine ⟨?_, ?_⟩
  · have h3 := h.1
    rw [List.length_append]
    have := Nat.mul_le_mul_right 1048577 (show i + 1 ≤ j + 1 by omega)
    omega
  · rw [rgr_shut ps l i j acc c d h hc h1 hij hn hd h2, hm]
    exact map_map _ _ _
theorem ext_one (s : ByteArray) (i : Nat) (h : i < s.size) : seg s.data.toList i (i + 1) = [s[i]'h] := by
  rw [seg_one _ _ _ _ (Nat.le_refl i) (list_get s i h), seg_nil]; rfl
theorem bd_out (a pos n : Nat) (h : a ≤ pos * 1048577) (hp : pos ≤ n) (hn : n ≤ 1048576) : ¬ 9223372036854775807 < a + 1048577 := by have := pos20 pos n hp hn; omega
set_option maxHeartbeats 8000000 in
theorem rrefer_any (s : ByteArray) (v : Value) (ps : List Par) (w : World) (hs : s.size ≤ 1048576) (hN : totP ps + ps.length ≤ 1048576) (h : ParsIn w v ps) :
    Calls Tryz.prog 13 #[.string s, v] w fun e w' => e = .returned (.tuple #[.string ⟨(rfT ps s.data.toList).1.toArray⟩, .int .i64 ((rfT ps s.data.toList).2 : Nat)]) ∧ Below w.heap.size w w' := by
  by_cases h0 : s.size = 0
  · have hT := rfT_bad ps s.data.toList (refR_empty ps _ (by rw [list_nil_o s h0]; rfl))
    have HT := Lib.hid hT
    obtain rfl := emp_o s h0
    clear hT h0
    go_enter Tryz.func13, Tryz.ntmps13
    go_wp2
    go_ret2
    rw [HT.out]
    exact ⟨rfl, Below.refl _ _⟩
  · have hemp : s.data.toList.isEmpty = false := by rw [← toL]; exact full_o s (by omega)
    have f1 : s.toList.isEmpty = false := full_o s (by omega)
    have f2 : ¬ s.toList = [] := full_o2 s (by omega)
    cases hF : isFld s.data.toList with
    | false =>
      have HR := Lib.hid (rfT_bad ps _ (refR_nofld ps _ hF))
      have HF := Lib.hid hF
      clear hF
      go_enter Tryz.func13, Tryz.ntmps13
      go_wp2_with fail
      refine (risfield_any s _ (by omega)).mono ?_
      rintro e w2 ⟨rfl, rfl⟩
      rw [HF.out]
      go_wp2
      go_ret2
      rw [HR.out]
      exact ⟨rfl, Below.refl _ _⟩
    | true =>
    have htr := rtrim_any s w (by omega)
    obtain ⟨t, ht⟩ : ∃ t : ByteArray, ⟨(trimL s.data.toList).toArray⟩ = t := ⟨_, rfl⟩
    rw [ht] at htr
    have hTL : t.toList = trimL s.data.toList := by rw [← ht, toL]
    have HTR := Lib.hid htr
    have HF := Lib.hid hF
    clear htr
    by_cases hT : (trimL s.data.toList == s.data.toList) = true
    case neg =>
      have hTf : (trimL s.data.toList == s.data.toList) = false := by simpa using hT
      have HR := Lib.hid (rfT_bad ps _ (refR_notrim ps _ hTf))
      have e1 : (t.toList == s.toList) = false := by rw [hTL, toL]; exact hTf
      clear hT hTf hTL ht hF
      go_enter Tryz.func13, Tryz.ntmps13
      go_wp2_with fail
      refine (risfield_any s _ (by omega)).mono ?_
      rintro e w2 ⟨rfl, rfl⟩
      rw [HF.out]
      go_wp2_with fail
      refine (HTR.out).mono ?_
      rintro e w1 ⟨rfl, rfl⟩
      go_wp2
      go_ret2
      rw [HR.out]
      exact ⟨rfl, Below.refl _ _⟩
    have e1 : (t.toList == s.toList) = true := by rw [hTL, toL]; exact hT
    have HGO := Lib.hid (refR_go ps _ hemp hF hT)
    have HP := Lib.hid h
    have HVL := Lib.hid (show ∀ n, (valL ps n).length ≤ 1048576 from fun n => by have := valL_len n ps; omega)
    clear hT hTL ht hF hemp h
    go_enter Tryz.func13, Tryz.ntmps13
    go_wp2_with fail
    refine (risfield_any s _ (by omega)).mono ?_
    rintro e w2 ⟨rfl, rfl⟩
    rw [HF.out]
    go_wp2_with fail
    refine (HTR.out).mono ?_
    rintro e w1 ⟨rfl, rfl⟩
    go_wp2
    go_loopw [6, 7] (fun ov iv wr => ∃ (i : Nat) (acc : List UInt8), ov = .string ⟨acc.toArray⟩ ∧ iv = .int .i64 i ∧ i ≤ s.size ∧ RgR ps s.data.toList i acc ∧ Below w1.heap.size w1 wr) (fun _ iv _ => s.size - (intOf iv).toNat)
    case atStart => exact ⟨0, [], rfl, rfl, Nat.zero_le _, rgr_start _ _, Below.refl _ _⟩
    case round =>
      obtain ⟨i, acc, rfl, rfl, hi, hR, hb⟩ := hrel
      by_cases hlt : i < s.size
      case neg =>
        obtain rfl : i = s.size := by omega
        have hX := rgr_end ps s.data.toList acc (by rw [size_list]; exact hR)
        have HX := Lib.hid (rfT_good ps _ _ (HGO.out.trans hX)); have HB := Lib.hid hb
        have hd : decide (s.size < s.size) = false := decide_eq_false (Nat.lt_irrefl _)
        clear hR hX hb
        go_wp2
        go_ret2
        rw [HX.out]
        exact ⟨rfl, HB.out⟩
      obtain ⟨c, hc⟩ : ∃ c, s[i]'hlt = c := ⟨_, rfl⟩
      have hget := list_get s i hlt
      have hone := ext_one s i hlt
      rw [hc] at hget hone
      obtain ⟨x, hx⟩ : ∃ x, c.toNat = x := ⟨_, rfl⟩
      have k0 : (0 : Int) ≤ (i : Int) := Int.natCast_nonneg _
      have k1 : (i : Int) < (s.size : Int) := by omega
      have hwi := w64o i (by omega)
      have HB := Lib.hid hb; have HG := Lib.hid (And.intro hget hone); have HW := Lib.hid hwi; have HBD := Lib.hid (bd_out _ _ _ hR.1 hi hs); have HX := Lib.hid hx
      clear hget hone hb
      by_cases h125 : x = 125
      · have HE := Lib.hid (rfT_bad ps _ (HGO.out.trans (rgr_stray ps _ i acc c hR HG.out.1 (by rw [hx]; exact h125))))
        have i1 : ((x : Int) == 125) = true := by subst h125; rfl
        clear hR h125
        go_wp2
        go_ret2
        rw [HE.out]
        exact ⟨rfl, HB.out⟩
      have i1 : ((x : Int) == 125) = false := by simp; omega
      by_cases h123 : x = 123
      case neg =>
        have hR2 := rgr_text ps _ i acc c hR HG.out.1 (by rw [hx]; exact h125) (by rw [hx]; exact h123)
        have i2 : ((x : Int) != 123) = true := by simp; omega
        have nof : ¬ 9223372036854775807 < acc.length + (min (i + 1) s.size - i) := by have := HBD.out; omega
        have HR2 := Lib.hid hR2
        have HC := Lib.hid (show (⟨acc.toArray⟩ : ByteArray) ++ s.extract i (i + 1) = ⟨(acc ++ [c]).toArray⟩ by rw [ext_seg, HG.out.2]; exact ba_ext (by simp))
        clear hR hR2 h125 h123
        go_wp2
        have hwi := HW.out
        go_roundw
        case rel => (try rw [hwi]); clear hwi; exact ⟨i + 1, _, by rw [HC.out], by go_num, hlt, HR2.out, HB.out⟩
        case measure => (try rw [hwi]); clear hwi; simp [intOf]; omega
      have i2 : ((x : Int) != 123) = false := by subst h123; rfl
      have HR := Lib.hid hR
      have h123' : c.toNat = 123 := by rw [hx]; exact h123
      have H123 := Lib.hid h123'
      clear hR h125 h123 h123'
      go_wp2
      go_loopw [8] (fun jv wr2 => ∃ j : Nat, jv = .int .i64 j ∧ i + 1 ≤ j ∧ j ≤ s.size ∧ NoCl s.data.toList (i + 1) j ∧ wr2 = wr) (fun jv _ => s.size - (intOf jv).toNat)
      case atStart => exact ⟨i + 1, by go_num, Nat.le_refl _, hlt, (by intro d hd; rw [seg_nil] at hd; simp at hd), rfl⟩
      case round =>
        obtain ⟨j, rfl, hij, hj, hncl, hwr⟩ := hrel
        subst hwr
        have j0 : (0 : Int) ≤ (j : Int) := Int.natCast_nonneg _
        by_cases hjl : j < s.size
        case neg =>
          obtain rfl : j = s.size := by omega
          have HE := Lib.hid (rfT_bad ps _ (HGO.out.trans (rgr_over ps _ i acc c HR.out HG.out.1 H123.out (by rw [size_list]; exact hlt) (by rw [size_list]; exact hncl))))
          have hd : decide (s.size < s.size) = false := decide_eq_false (Nat.lt_irrefl _)
          clear hncl
          go_wp2
          go_ret2
          rw [HE.out]
          exact ⟨rfl, HB.out⟩
        obtain ⟨d, hd⟩ : ∃ d, s[j]'hjl = d := ⟨_, rfl⟩
        have hget := list_get s j hjl
        rw [hd] at hget
        obtain ⟨y, hy⟩ : ∃ y, d.toNat = y := ⟨_, rfl⟩
        have j1 : (j : Int) < (s.size : Int) := by omega
        have hwj := w64o j (by omega)
        have HJ := Lib.hid (And.intro hget hwj)
        clear hget hwj
        by_cases hy5 : y = 125
        case neg =>
          have hn2 := noCl_step _ _ _ d hncl hij HJ.out.1 (by rw [hy]; exact hy5)
          have i3 : ((y : Int) != 125) = true := by simp; omega
          have HN2 := Lib.hid hn2
          clear hn2 hncl hy5
          go_wp2
          have hwj := HJ.out.2
          go_roundw
          case rel => (try rw [hwj]); clear hwj; exact ⟨j + 1, by go_num, by omega, hjl, HN2.out, by first | rfl | trivial⟩
          case measure => (try rw [hwj]); clear hwj; simp [intOf]; omega
        have i3 : ((y : Int) != 125) = false := by subst hy5; rfl
        have i4 : ((j : Int) == (s.size : Int)) = false := by simp; omega
        have i5 : ((i : Int) + 1) ≤ (j : Int) := by omega
        have i6 : (j : Int) ≤ (s.size : Int) := by omega
        have hnm := fun W => risname_any (s.extract (i + 1) j) W (by have := ext_size s (i + 1) j hj; omega)
        rw [ext_list] at hnm
        cases hN2 : isNm (seg s.data.toList (i + 1) j) with
        | false =>
          have HE := Lib.hid (rfT_bad ps _ (HGO.out.trans (rgr_bad ps _ i j acc c d HR.out HG.out.1 H123.out hij hncl HJ.out.1 (by rw [hy]; exact hy5) hN2)))
          rw [hN2] at hnm
          have HNM := Lib.hid hnm
          clear hncl hy5 hnm hN2
          go_wp2_with fail
          refine (HNM.out _).mono ?_
          rintro e w5 ⟨rfl, hw5⟩
          subst hw5
          go_wp2
          go_ret2
          rw [HE.out]
          exact ⟨rfl, HB.out⟩
        | true =>
          have hR2 := rgr_good ps _ i j acc c d HR.out HG.out.1 H123.out hij hncl HJ.out.1 (by rw [hy]; exact hy5) hN2 (HVL.out _)
          rw [hN2] at hnm
          have HNM := Lib.hid hnm; have HR2 := Lib.hid hR2
          clear hncl hy5 hnm hN2 hR2
          go_wp2_with fail
          refine (HNM.out _).mono ?_
          rintro e w5 ⟨rfl, hw5⟩
          subst hw5
          have hpv := rvalue_any v ps (seg s.data.toList (i + 1) j) w5 (by omega) (HP.out.below HB.out)
          rw [← ext_seg] at hpv
          have HPV := Lib.hid hpv
          clear hpv
          obtain ⟨V, hV⟩ : ∃ V, valL ps (seg s.data.toList (i + 1) j) = V := ⟨_, rfl⟩
          rw [hV] at HPV HR2
          have hVl : V.length ≤ 1048576 := by rw [← hV]; exact HVL.out _
          clear hV
          go_wp2_with fail
          refine (HPV.out).mono ?_
          rintro e w6 ⟨rfl, hb6⟩
          have HB6 := Lib.hid (HB.out.trans (hb6.mono HB.out.size))
          have nof : ¬ 9223372036854775807 < acc.length + V.length := by have := HBD.out; omega
          clear hb6
          go_wp2
          have hwj := HJ.out.2
          go_roundw
          case rel => (try rw [hwj]); clear hwj; exact ⟨j + 1, acc ++ V, by first | rfl | simp, by go_num, hjl, HR2.out, HB6.out⟩
          case measure => (try rw [hwj]); clear hwj; simp [intOf]; omega
end Go.Proofs.YtdlpbpikhmciaaaGreatDoor
