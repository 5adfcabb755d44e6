/- Mof, ShW, Giv17: texts of the seat, one behind the other (a claim holds at most sixty). Conditions: each theorem names its own. -/
import Derived.Test.YtpdbejeiceodkaaGreatDoorPk34
import Derived.Test.YtpdbejeiceodkaaGreatDoorPk16
import Derived.Test.YtpdbejeiceodkaaGreatDoorPk10
import Derived.Lib.LastIndexByte
import Derived.Test.YtpdbejeiceodkaaGreatDoorPk22
import Derived.Test.YtpdbejeiceodkaaGreatDoorPk20
import Derived.Laws.ResultCell
namespace Go.Proofs.YtpdbejeiceodkaaGreatDoor
open Go.RowKit
set_option linter.unusedSimpArgs false
set_option linter.unusedVariables false
set_option maxRecDepth 1000000
theorem data_get (s : ByteArray) (j : Nat) (h : j < s.size) : s.data[j]! = s[j]'h := by
  rw [getElem!_pos s.data j h]
  rfl
/-- strings.LastIndexByte: the place ahead of the plain one. -/
theorem lastB_eq (s : ByteArray) (c : UInt8) : Lib.lastIndexByte s (c.toNat : Int) = (lastP c s.data.toList : Int) - 1 := by
  have hne : ∀ (j : Nat) (h : j < s.size), ((s.data[j]!).toNat : Int) ≠ (c.toNat : Int) → s.data.toList[j]? ≠ some c := fun j h hd => by
    rw [list_get s j h]
    intro e
    injection e with e
    rw [data_get s j h, e] at hd
    exact hd rfl
  have hout : ∀ j : Nat, ¬ j < s.size → s.data.toList[j]? ≠ some c := fun j h => by rw [List.getElem?_eq_none (by rw [size_list]; omega)]; simp
  rcases Lib.lastIndexByte_spec s (c.toNat : Int) with ⟨h1, h2⟩ | ⟨i, hi, h1, h2, h3⟩
  · rw [h1, lastP_none c _ (fun j => by
      by_cases h : j < s.size
      · exact hne j h (h2 j h)
      · exact hout j h)]
    rfl
  · have hc : s.data.toList[i]? = some c := by
      rw [list_get s i hi]
      rw [data_get s i hi] at h2
      congr 1
      exact UInt8.toNat_inj.1 (by omega)
    rw [h1, lastP_at c _ i hc (fun j hj => by
      by_cases h : j < s.size
      · exact hne j h (h3 j hj h)
      · exact hout j h)]
    omega
theorem lastB_lib (s : ByteArray) (c : UInt8) (hs : s.size ≤ 1099511627776) (w : World) : Calls Tryz.prog 36 #[.string s, .int .u8 (c.toNat : Int)] w fun e w' => e = .returned (.int .i64 ((lastP c s.data.toList : Int) - 1)) ∧ w' = w := by
  rw [← lastB_eq]
  exact Tryz.strings_LastIndexByte s (c.toNat : Int) (Nat.lt_of_le_of_lt hs (by decide)) w
theorem ext_from (s : ByteArray) (b : Nat) : (s.extract b s.size).data.toList = s.data.toList.drop b := by
  rw [ByteArray.data_extract, Array.toList_extract, List.extract_eq_take_drop, List.take_of_length_le]
  rw [List.length_drop, size_list]
  omega
theorem lp_bd (f n : Nat) (h : f ≤ n) (hn : n ≤ 1099511627776) : f ≤ 2199023255552 := by omega
set_option maxHeartbeats 8000000 in
theorem omof_any (s : ByteArray) (w : World) (hs : s.size ≤ 1099511627776) :
    Calls Tryz.prog 13 #[.string s] w fun e w' => e = .returned (.string ⟨(mofF s.data.toList).toArray⟩) ∧ Below w.heap.size w w' := by
  have h1 := fun w => lastB_lib s 47 hs w
  have hle := lastP_le 47 s.data.toList
  rw [size_list] at hle
  obtain ⟨f, hf⟩ : ∃ f, lastP 47 s.data.toList = f := ⟨_, rfl⟩
  rw [hf] at h1 hle
  have hfn : ∀ l, l = s.data.toList.drop f → lastP 46 l = 0 → mofF s.data.toList = mofO := fun l hl h => mofF_none _ (by rw [hf, ← hl]; exact h)
  have hfs : ∀ l x, l = s.data.toList.drop f → lastP 46 l ≠ 0 → lowL (l.drop (lastP 46 l)) = x → mofF s.data.toList = mofT x := fun l x hl h hx => mofF_some _ x (by rw [hf, ← hl]; exact h) (by rw [hf, ← hl]; exact hx)
  obtain ⟨t, ht⟩ : ∃ t : ByteArray, s.extract f s.size = t := ⟨_, rfl⟩
  have htl : t.data.toList = s.data.toList.drop f := by rw [← ht]; exact ext_from s f
  have hts : t.size ≤ 1099511627776 := by rw [← size_list, htl, List.length_drop, size_list]; omega
  have h2 := fun w => lastB_lib t 46 hts w
  have hle2 := lastP_le 46 t.data.toList
  rw [size_list] at hle2
  obtain ⟨p, hp⟩ : ∃ p, lastP 46 t.data.toList = p := ⟨_, rfl⟩
  rw [hp] at h2 hle2
  have hfn2 := hfn _ htl
  have hfs2 := fun x => hfs _ x htl
  rw [hp] at hfn2
  simp only [hp] at hfs2
  have e1 : (f : Int) - 1 + 1 = (f : Int) := by omega
  have w1 := wrap_mid f (lp_bd f _ hle hs)
  have w2 := wrap_mid p (lp_bd p _ hle2 hts)
  have w1' : wrap64 ((f : Int) - 1 + 1) = (f : Int) := by rw [e1]; exact w64j f (lp_bd f _ hle hs)
  have f0 : (0 : Int) ≤ (f : Int) := Int.natCast_nonneg _
  have f1 : (f : Int) ≤ (s.size : Int) := by omega
  have H1 := Lib.hid h1; have H2 := Lib.hid h2; have HFN := Lib.hid hfn2; have HFS := Lib.hid hfs2; have HTS := Lib.hid (And.intro hts hle2)
  clear h1 h2 hfn hfn2 hfs hfs2 hf hp htl hts hle hle2 hs
  by_cases hp0 : p = 0
  · have q1 : (p : Int) - 1 < 0 := by omega
    have HR := Lib.hid (HFN.out hp0)
    clear hp0
    go_enter Tryz.func13, Tryz.ntmps13
    go_wp2_with fail
    refine (H1.out _).mono ?_
    rintro e w3 ⟨rfl, hw3⟩; subst hw3
    go_wp2_with fail
    refine (H2.out _).mono ?_
    rintro e w4 ⟨rfl, hw4⟩; subst hw4
    go_wp2
    go_ret
    rw [HR.out]
    exact ⟨rfl, Below.refl _ _⟩
  · have q1 : 0 ≤ (p : Int) - 1 := by omega
    have e2 : (p : Int) - 1 + 1 = (p : Int) := by omega
    have w2' : wrap64 ((p : Int) - 1 + 1) = (p : Int) := by rw [e2]; exact w64j p (lp_bd p _ HTS.out.2 HTS.out.1)
    have p0 : (0 : Int) ≤ (p : Int) := Int.natCast_nonneg _
    have p1 : (p : Int) ≤ (t.size : Int) := by have := HTS.out.2; omega
    obtain ⟨u, hu⟩ : ∃ u : ByteArray, t.extract p t.size = u := ⟨_, rfl⟩
    have hul : u.data.toList = t.data.toList.drop p := by rw [← hu]; exact ext_from t p
    have hus : u.size ≤ 1099511627776 := by have := HTS.out.1; rw [← size_list, hul, List.length_drop, size_list]; omega
    have h3 := fun w => olower_any u w hus
    obtain ⟨x, hx⟩ : ∃ x, lowL u.data.toList = x := ⟨_, rfl⟩
    rw [hx] at h3
    have HX := Lib.hid (HFS.out x hp0 (by rw [← hul]; exact hx))
    have H3 := Lib.hid h3
    clear hp0 hul hus h3 hx
    go_enter Tryz.func13, Tryz.ntmps13
    go_wp2_with fail
    refine (H1.out _).mono ?_
    rintro e w3 ⟨rfl, hw3⟩; subst hw3
    go_wp2_with fail
    refine (H2.out _).mono ?_
    rintro e w4 ⟨rfl, hw4⟩; subst hw4
    go_wp2_with fail
    refine (H3.out _).mono ?_
    rintro e w5 ⟨rfl, hb5⟩
    have HB := Lib.hid hb5
    clear hb5
    by_cases y0 : x = [104, 116, 109, 108]
    · have b0 : (x == [104, 116, 109, 108]) = true := by rw [y0]; rfl
      have HR := Lib.hid (HX.out.trans (show mofT x = [116, 101, 120, 116, 47, 104, 116, 109, 108, 59, 32, 99, 104, 97, 114, 115, 101, 116, 61, 117, 116, 102, 45, 56] by unfold mofT; simp only [if_pos y0]))
      clear y0 
      go_wp2
      go_ret
      rw [HR.out]
      exact ⟨rfl, HB.out⟩
    have n0 : ¬ x = [104, 116, 109, 108] := y0
    clear y0
    have b0 : (x == [104, 116, 109, 108]) = false := beq_false_of_ne n0
    by_cases y1 : x = [104, 116, 109]
    · have b1 : (x == [104, 116, 109]) = true := by rw [y1]; rfl
      have HR := Lib.hid (HX.out.trans (show mofT x = [116, 101, 120, 116, 47, 104, 116, 109, 108, 59, 32, 99, 104, 97, 114, 115, 101, 116, 61, 117, 116, 102, 45, 56] by unfold mofT; simp only [if_neg n0, if_pos y1]))
      clear y1 n0
      go_wp2
      go_ret
      rw [HR.out]
      exact ⟨rfl, HB.out⟩
    have n1 : ¬ x = [104, 116, 109] := y1
    clear y1
    have b1 : (x == [104, 116, 109]) = false := beq_false_of_ne n1
    by_cases y2 : x = [116, 120, 116]
    · have b2 : (x == [116, 120, 116]) = true := by rw [y2]; rfl
      have HR := Lib.hid (HX.out.trans (show mofT x = [116, 101, 120, 116, 47, 112, 108, 97, 105, 110, 59, 32, 99, 104, 97, 114, 115, 101, 116, 61, 117, 116, 102, 45, 56] by unfold mofT; simp only [if_neg n0, if_neg n1, if_pos y2]))
      clear y2 n0 n1
      go_wp2
      go_ret
      rw [HR.out]
      exact ⟨rfl, HB.out⟩
    have n2 : ¬ x = [116, 120, 116] := y2
    clear y2
    have b2 : (x == [116, 120, 116]) = false := beq_false_of_ne n2
    by_cases y3 : x = [99, 115, 115]
    · have b3 : (x == [99, 115, 115]) = true := by rw [y3]; rfl
      have HR := Lib.hid (HX.out.trans (show mofT x = [116, 101, 120, 116, 47, 99, 115, 115] by unfold mofT; simp only [if_neg n0, if_neg n1, if_neg n2, if_pos y3]))
      clear y3 n0 n1 n2
      go_wp2
      go_ret
      rw [HR.out]
      exact ⟨rfl, HB.out⟩
    have n3 : ¬ x = [99, 115, 115] := y3
    clear y3
    have b3 : (x == [99, 115, 115]) = false := beq_false_of_ne n3
    by_cases y4 : x = [106, 115]
    · have b4 : (x == [106, 115]) = true := by rw [y4]; rfl
      have HR := Lib.hid (HX.out.trans (show mofT x = [116, 101, 120, 116, 47, 106, 97, 118, 97, 115, 99, 114, 105, 112, 116] by unfold mofT; simp only [if_neg n0, if_neg n1, if_neg n2, if_neg n3, if_pos y4]))
      clear y4 n0 n1 n2 n3
      go_wp2
      go_ret
      rw [HR.out]
      exact ⟨rfl, HB.out⟩
    have n4 : ¬ x = [106, 115] := y4
    clear y4
    have b4 : (x == [106, 115]) = false := beq_false_of_ne n4
    by_cases y5 : x = [106, 115, 111, 110]
    · have b5 : (x == [106, 115, 111, 110]) = true := by rw [y5]; rfl
      have HR := Lib.hid (HX.out.trans (show mofT x = [97, 112, 112, 108, 105, 99, 97, 116, 105, 111, 110, 47, 106, 115, 111, 110] by unfold mofT; simp only [if_neg n0, if_neg n1, if_neg n2, if_neg n3, if_neg n4, if_pos y5]))
      clear y5 n0 n1 n2 n3 n4
      go_wp2
      go_ret
      rw [HR.out]
      exact ⟨rfl, HB.out⟩
    have n5 : ¬ x = [106, 115, 111, 110] := y5
    clear y5
    have b5 : (x == [106, 115, 111, 110]) = false := beq_false_of_ne n5
    by_cases y6 : x = [120, 109, 108]
    · have b6 : (x == [120, 109, 108]) = true := by rw [y6]; rfl
      have HR := Lib.hid (HX.out.trans (show mofT x = [97, 112, 112, 108, 105, 99, 97, 116, 105, 111, 110, 47, 120, 109, 108] by unfold mofT; simp only [if_neg n0, if_neg n1, if_neg n2, if_neg n3, if_neg n4, if_neg n5, if_pos y6]))
      clear y6 n0 n1 n2 n3 n4 n5
      go_wp2
      go_ret
      rw [HR.out]
      exact ⟨rfl, HB.out⟩
    have n6 : ¬ x = [120, 109, 108] := y6
    clear y6
    have b6 : (x == [120, 109, 108]) = false := beq_false_of_ne n6
    by_cases y7 : x = [115, 118, 103]
    · have b7 : (x == [115, 118, 103]) = true := by rw [y7]; rfl
      have HR := Lib.hid (HX.out.trans (show mofT x = [105, 109, 97, 103, 101, 47, 115, 118, 103, 43, 120, 109, 108] by unfold mofT; simp only [if_neg n0, if_neg n1, if_neg n2, if_neg n3, if_neg n4, if_neg n5, if_neg n6, if_pos y7]))
      clear y7 n0 n1 n2 n3 n4 n5 n6
      go_wp2
      go_ret
      rw [HR.out]
      exact ⟨rfl, HB.out⟩
    have n7 : ¬ x = [115, 118, 103] := y7
    clear y7
    have b7 : (x == [115, 118, 103]) = false := beq_false_of_ne n7
    by_cases y8 : x = [112, 110, 103]
    · have b8 : (x == [112, 110, 103]) = true := by rw [y8]; rfl
      have HR := Lib.hid (HX.out.trans (show mofT x = [105, 109, 97, 103, 101, 47, 112, 110, 103] by unfold mofT; simp only [if_neg n0, if_neg n1, if_neg n2, if_neg n3, if_neg n4, if_neg n5, if_neg n6, if_neg n7, if_pos y8]))
      clear y8 n0 n1 n2 n3 n4 n5 n6 n7
      go_wp2
      go_ret
      rw [HR.out]
      exact ⟨rfl, HB.out⟩
    have n8 : ¬ x = [112, 110, 103] := y8
    clear y8
    have b8 : (x == [112, 110, 103]) = false := beq_false_of_ne n8
    by_cases y9 : x = [106, 112, 103]
    · have b9 : (x == [106, 112, 103]) = true := by rw [y9]; rfl
      have HR := Lib.hid (HX.out.trans (show mofT x = [105, 109, 97, 103, 101, 47, 106, 112, 101, 103] by unfold mofT; simp only [if_neg n0, if_neg n1, if_neg n2, if_neg n3, if_neg n4, if_neg n5, if_neg n6, if_neg n7, if_neg n8, if_pos y9]))
      clear y9 n0 n1 n2 n3 n4 n5 n6 n7 n8
      go_wp2
      go_ret
      rw [HR.out]
      exact ⟨rfl, HB.out⟩
    have n9 : ¬ x = [106, 112, 103] := y9
    clear y9
    have b9 : (x == [106, 112, 103]) = false := beq_false_of_ne n9
    by_cases y10 : x = [106, 112, 101, 103]
    · have b10 : (x == [106, 112, 101, 103]) = true := by rw [y10]; rfl
      have HR := Lib.hid (HX.out.trans (show mofT x = [105, 109, 97, 103, 101, 47, 106, 112, 101, 103] by unfold mofT; simp only [if_neg n0, if_neg n1, if_neg n2, if_neg n3, if_neg n4, if_neg n5, if_neg n6, if_neg n7, if_neg n8, if_neg n9, if_pos y10]))
      clear y10 n0 n1 n2 n3 n4 n5 n6 n7 n8 n9
      go_wp2
      go_ret
      rw [HR.out]
      exact ⟨rfl, HB.out⟩
    have n10 : ¬ x = [106, 112, 101, 103] := y10
    clear y10
    have b10 : (x == [106, 112, 101, 103]) = false := beq_false_of_ne n10
    by_cases y11 : x = [103, 105, 102]
    · have b11 : (x == [103, 105, 102]) = true := by rw [y11]; rfl
      have HR := Lib.hid (HX.out.trans (show mofT x = [105, 109, 97, 103, 101, 47, 103, 105, 102] by unfold mofT; simp only [if_neg n0, if_neg n1, if_neg n2, if_neg n3, if_neg n4, if_neg n5, if_neg n6, if_neg n7, if_neg n8, if_neg n9, if_neg n10, if_pos y11]))
      clear y11 n0 n1 n2 n3 n4 n5 n6 n7 n8 n9 n10
      go_wp2
      go_ret
      rw [HR.out]
      exact ⟨rfl, HB.out⟩
    have n11 : ¬ x = [103, 105, 102] := y11
    clear y11
    have b11 : (x == [103, 105, 102]) = false := beq_false_of_ne n11
    by_cases y12 : x = [105, 99, 111]
    · have b12 : (x == [105, 99, 111]) = true := by rw [y12]; rfl
      have HR := Lib.hid (HX.out.trans (show mofT x = [105, 109, 97, 103, 101, 47, 120, 45, 105, 99, 111, 110] by unfold mofT; simp only [if_neg n0, if_neg n1, if_neg n2, if_neg n3, if_neg n4, if_neg n5, if_neg n6, if_neg n7, if_neg n8, if_neg n9, if_neg n10, if_neg n11, if_pos y12]))
      clear y12 n0 n1 n2 n3 n4 n5 n6 n7 n8 n9 n10 n11
      go_wp2
      go_ret
      rw [HR.out]
      exact ⟨rfl, HB.out⟩
    have n12 : ¬ x = [105, 99, 111] := y12
    clear y12
    have b12 : (x == [105, 99, 111]) = false := beq_false_of_ne n12
    by_cases y13 : x = [112, 100, 102]
    · have b13 : (x == [112, 100, 102]) = true := by rw [y13]; rfl
      have HR := Lib.hid (HX.out.trans (show mofT x = [97, 112, 112, 108, 105, 99, 97, 116, 105, 111, 110, 47, 112, 100, 102] by unfold mofT; simp only [if_neg n0, if_neg n1, if_neg n2, if_neg n3, if_neg n4, if_neg n5, if_neg n6, if_neg n7, if_neg n8, if_neg n9, if_neg n10, if_neg n11, if_neg n12, if_pos y13]))
      clear y13 n0 n1 n2 n3 n4 n5 n6 n7 n8 n9 n10 n11 n12
      go_wp2
      go_ret
      rw [HR.out]
      exact ⟨rfl, HB.out⟩
    have n13 : ¬ x = [112, 100, 102] := y13
    clear y13
    have b13 : (x == [112, 100, 102]) = false := beq_false_of_ne n13
    by_cases y14 : x = [119, 97, 115, 109]
    · have b14 : (x == [119, 97, 115, 109]) = true := by rw [y14]; rfl
      have HR := Lib.hid (HX.out.trans (show mofT x = [97, 112, 112, 108, 105, 99, 97, 116, 105, 111, 110, 47, 119, 97, 115, 109] by unfold mofT; simp only [if_neg n0, if_neg n1, if_neg n2, if_neg n3, if_neg n4, if_neg n5, if_neg n6, if_neg n7, if_neg n8, if_neg n9, if_neg n10, if_neg n11, if_neg n12, if_neg n13, if_pos y14]))
      clear y14 n0 n1 n2 n3 n4 n5 n6 n7 n8 n9 n10 n11 n12 n13
      go_wp2
      go_ret
      rw [HR.out]
      exact ⟨rfl, HB.out⟩
    have n14 : ¬ x = [119, 97, 115, 109] := y14
    clear y14
    have b14 : (x == [119, 97, 115, 109]) = false := beq_false_of_ne n14
    by_cases y15 : x = [122, 105, 112]
    · have b15 : (x == [122, 105, 112]) = true := by rw [y15]; rfl
      have HR := Lib.hid (HX.out.trans (show mofT x = [97, 112, 112, 108, 105, 99, 97, 116, 105, 111, 110, 47, 122, 105, 112] by unfold mofT; simp only [if_neg n0, if_neg n1, if_neg n2, if_neg n3, if_neg n4, if_neg n5, if_neg n6, if_neg n7, if_neg n8, if_neg n9, if_neg n10, if_neg n11, if_neg n12, if_neg n13, if_neg n14, if_pos y15]))
      clear y15 n0 n1 n2 n3 n4 n5 n6 n7 n8 n9 n10 n11 n12 n13 n14
      go_wp2
      go_ret
      rw [HR.out]
      exact ⟨rfl, HB.out⟩
    have n15 : ¬ x = [122, 105, 112] := y15
    clear y15
    have b15 : (x == [122, 105, 112]) = false := beq_false_of_ne n15
    have HR := Lib.hid (HX.out.trans (show mofT x = mofO by unfold mofT; simp only [if_neg n0, if_neg n1, if_neg n2, if_neg n3, if_neg n4, if_neg n5, if_neg n6, if_neg n7, if_neg n8, if_neg n9, if_neg n10, if_neg n11, if_neg n12, if_neg n13, if_neg n14, if_neg n15]))
    clear n0 n1 n2 n3 n4 n5 n6 n7 n8 n9 n10 n11 n12 n13 n14 n15
    go_wp2
    go_ret
    rw [HR.out]
    exact ⟨rfl, HB.out⟩
end Go.Proofs.YtpdbejeiceodkaaGreatDoor
namespace Go.Proofs.YtpdbejeiceodkaaGreatDoor
open Go.RowKit
set_option linter.unusedSimpArgs false
set_option linter.unusedVariables false
set_option maxRecDepth 1000000
abbrev zFnd : Array Value := #[.int .i64 0, .int .i64 0, .string ⟨#[]⟩, .slice none 0 0]
abbrev fndA : Array Value := #[.int .i64 1, .int .i64 0, .string ⟨#[]⟩, .slice none 0 0]
/-- A shelf of the one file. -/
def ShAt (w : World) (s : Nat) : Prop := ∃ mb g cap gi ci, BlkIs w s #[.slice (some ⟨g, 0, none⟩) 1 cap, .map (some mb)] 85 ∧ VyAt w s g gi cap ∧ w.heap[mb]? = some (.map #[{ key := keyA, val := .slice (some ⟨gi, 0, none⟩) 1 ci, born := 0 }] 1)
theorem shAt_made {w W : World} {b s : Nat} (h : ShMade w b s W) : ShAt W s := by
  obtain ⟨_, g, cap, gi, ci, hT, hO, hM, hI⟩ := h
  refine ⟨b, g, cap, gi, ci, hT, ⟨hT.cell 0 _ rfl, own_cellAt hI 0 _ rfl, own_cellAt hO 0 _ rfl, own_cellAt hO 1 _ rfl, own_cellAt hO 2 _ rfl, own_cellAt hO 3 _ rfl, own_cellAt hO 4 _ rfl, own_cellAt hO 5 _ rfl⟩, hM⟩
theorem heap_later {w w' : World} {k : Nat} {o : Obj} (h : w.heap[k]? = some o) (hb : Below w.heap.size w w') : w'.heap[k]? = some o := by
  rw [hb.block k (Array.getElem?_eq_some_iff.1 h).1]; exact h
theorem ShAt.later {w w' : World} {s : Nat} (h : ShAt w s) (hb : Below w.heap.size w w') : ShAt w' s := by
  obtain ⟨mb, g, cap, gi, ci, h1, h2, h3⟩ := h
  exact ⟨mb, g, cap, gi, ci, h1.later hb, h2.later hb, heap_later h3 hb⟩
theorem lenA (s : Nat) (w : World) (h : ShAt w s) : Calls Tryz.prog 21 #[.pointer (some ⟨s, 0, none⟩)] w fun e w' => e = .returned (.int .i64 1) ∧ w' = w := by
  obtain ⟨mb, g, cap, gi, ci, h1, h2, h3⟩ := h
  have c0 := h2.1
  clear h1 h2 h3
  go_enter Tryz.func21, Tryz.ntmps21
  go_wp2
  go_ret
  exact ⟨rfl, by first | rfl | trivial⟩
set_option maxHeartbeats 8000000 in
theorem findA (s : Nat) (w : World) (h : ShAt w s) : Calls Tryz.prog 18 #[.pointer (some ⟨s, 0, none⟩), .string ⟨#[47, 97]⟩, .agg wishA] w fun e w' => e = .returned (.agg fndA) ∧ Below w.heap.size w w' := by
  obtain ⟨mb, g, cap, gi, ci, h1, h2, h3⟩ := h
  obtain ⟨W2, hW2⟩ : ∃ W2, (w.alloc (.cells wishA 27)).alloc (.cells zFnd 36) = W2 := ⟨_, rfl⟩
  obtain ⟨b1, hb1⟩ : ∃ b, w.heap.size = b := ⟨_, rfl⟩
  obtain ⟨b2, hb2⟩ : ∃ b, b1 + 1 = b := ⟨_, rfl⟩
  have hBL : Below w.heap.size w W2 := by rw [← hW2]; exact ((Below.refl _ w).alloc (Nat.le_refl _) _).alloc (by simp) _
  have hA : BlkIs W2 b1 wishA 27 := by rw [← hW2, ← hb1]; exact (blkIs_new w _ _).alloc _
  have hB : BlkIs W2 b2 zFnd 36 := by rw [← hW2, ← hb2, ← hb1]; have := blkIs_new (w.alloc (.cells wishA 27)) zFnd 36; rwa [World.size_alloc] at this
  have HW2 := Lib.hid hW2; have HB2 := Lib.hid (And.intro hBL (And.intro hA hB))
  have HV2 := Lib.hid (And.intro (h1.later hBL) (And.intro (h2.later hBL) (heap_later h3 hBL)))
  have HBB := Lib.hid (show w.heap.size ≤ b2 by omega)
  clear hW2 hBL hA hB h1 h2 h3
  go_enter Tryz.func18, Tryz.ntmps18
  go_upto_region 1 with fail
  rw [HW2.out]
  go_wp2_with fail
  refine (entA _ s rfl W2).mono ?_
  rintro e w3 ⟨rfl, hw3⟩
  subst hw3
  have t1 : w3.cell? ⟨s, 1, none⟩ = some (.map (some mb)) := HV2.out.1.cell 1 _ rfl
  have l0 := lk_one _ _ _ _ w3 HV2.out.2.2
  have a0 : w3.cell? ⟨b1, 0, none⟩ = some (.string ⟨#[]⟩) := HB2.out.2.1.cell 0 _ rfl
  have a1 : w3.cell? ⟨b1, 1, none⟩ = some (.string ⟨#[]⟩) := HB2.out.2.1.cell 1 _ rfl
  have a2 : w3.cell? ⟨b1, 2, none⟩ = some (.string ⟨#[]⟩) := HB2.out.2.1.cell 2 _ rfl
  have a3 : w3.cell? ⟨b1, 3, none⟩ = some (.bool false) := HB2.out.2.1.cell 3 _ rfl
  have a4 : w3.cell? ⟨b1, 4, none⟩ = some (.bool false) := HB2.out.2.1.cell 4 _ rfl
  have a5 : w3.cell? ⟨b1, 5, none⟩ = some (.bool false) := HB2.out.2.1.cell 5 _ rfl
  go_wp2_with fail
  refine (readA w3).mono ?_
  rintro e w4 ⟨rfl, hb4⟩
  obtain ⟨W5, hW5⟩ : ∃ W5, w4.alloc (.cells swA 89) = W5 := ⟨_, rfl⟩
  obtain ⟨bx, hbx⟩ : ∃ b, w4.heap.size = b := ⟨_, rfl⟩
  have hb45 : Below w4.heap.size w4 W5 := by rw [← hW5]; exact (Below.refl _ w4).alloc (Nat.le_refl _) _
  have hb35 : Below w3.heap.size w3 W5 := hb4.trans (hb45.mono hb4.size)
  have HW5 := Lib.hid hW5
  have HB5 := Lib.hid (And.intro (HB2.out.1.trans (hb35.mono HB2.out.1.size)) (HB2.out.2.2.later hb35))
  have HV5 := Lib.hid (HV2.out.2.1.later hb35)
  have HX5 := Lib.hid (show BlkIs W5 bx swA 89 by rw [← hW5, ← hbx]; exact blkIs_new _ _ _)
  clear hW5 hb4 hb45 hb35 t1 l0 a0 a1 a2 a3 a4 a5
  go_upto_region 17 with fail
  rw [HW5.out]
  refine wp_loop_rounds 2 ?_
  rw [rounds_succ]
  have v1 := HV5.out.2.1
  go_upto_region 19 with fail
  clear v1
  refine wp_region_textH (fun W => BlkIs W bx swA 89 ∧ VyAt W s g gi cap) [(0, true), (1, true), (2, true), (3, true), (4, true), (5, true), (6, true), (7, true), (8, false), (9, true)] (by kernel_rfl) (by kernel_rfl) (by kernel_rfl) (by kernel_rfl) ⟨HX5.out, HV5.out⟩ ?_
  iterate 8 (refine wpTxH_take rfl (by kernel_rfl) (v := ?_) ?_ ?_; rotate_left; · (intro W hS; obtain ⟨hS, v0, v1, v2, v3, v4, v5, v6, v7⟩ := hS; have x0 := hS.cell 0 _ rfl; have x1 := hS.cell 1 _ rfl; have x2 := hS.cell 2 _ rfl; have x3 := hS.cell 3 _ rfl; have x4 := hS.cell 4 _ rfl; have x5 := hS.cell 5 _ rfl; clear hS; go_simp; with_reducible rfl))
  refine wpTxH_step rfl (fun K hK => ?_)
  go_simp
  refine (likA _).mono ?_
  rintro e w6 ⟨rfl, hb6⟩
  have hb6 : Below W5.heap.size W5 w6 := ((Below.refl _ W5).drew).trans hb6
  have HB6 := Lib.hid (And.intro (HB5.out.1.trans (hb6.mono HB5.out.1.size)) (HB5.out.2.later hb6))
  have HV6 := Lib.hid (HV5.out.later hb6)
  refine hK _ _ ⟨HX5.out.later hb6, HV5.out.later hb6⟩ ?_
  clear hK K hb6
  refine wpTxH_take rfl (by kernel_rfl) (v := ?_) ?_ ?_; rotate_left; · (intro W hS; clear hS; go_simp; with_reducible rfl)
  refine wpTxH_nil ?_
  go_simp
  go_wp2
  rw [rounds_succ]
  go_wp2_with fail
  refine (varyA s g gi cap ci w6 HV6.out).mono ?_
  rintro e w7 ⟨rfl, hb7⟩
  have HB7 := Lib.hid (And.intro (HB6.out.1.trans (hb7.mono HB6.out.1.size)) (HB6.out.2.later hb7))
  clear hb7
  have y0 : w7.cell? ⟨b2, 0, none⟩ = some (.int .i64 0) := HB7.out.2.cell 0 _ rfl
  have y1 : w7.cell? ⟨b2, 1, none⟩ = some (.int .i64 0) := HB7.out.2.cell 1 _ rfl
  have y2 : w7.cell? ⟨b2, 2, none⟩ = some (.string ⟨#[]⟩) := HB7.out.2.cell 2 _ rfl
  have y3 : w7.cell? ⟨b2, 3, none⟩ = some (.slice none 0 0) := HB7.out.2.cell 3 _ rfl
  have f0 := HB7.out.2.free 0
  have f1 := HB7.out.2.free 1
  have f2 := HB7.out.2.free 2
  have f3 := HB7.out.2.free 3
  go_wp2
  refine bodyPost_ret (v := .agg fndA) ?r rfl ⟨rfl, ?b⟩
  case r => exact results_cell_row rfl _ _ b2 36 fndA (0, 0) _ rfl ((((HB7.out.2.set 0 _).set 1 _).set 2 _).set 3 _) Tryz.underlying36 rfl (by kernel_rfl)
  case b => exact (((HB7.out.1.setCell (p := ⟨b2, 0, none⟩) HBB.out _).setCell (p := ⟨b2, 1, none⟩) HBB.out _).setCell (p := ⟨b2, 2, none⟩) HBB.out _).setCell (p := ⟨b2, 3, none⟩) HBB.out _
theorem mofA : mofF [120, 46, 99, 115, 115] = [116, 101, 120, 116, 47, 99, 115, 115] := by kernel_rfl
theorem mofA_any (w : World) : Calls Tryz.prog 13 #[.string ⟨#[120, 46, 99, 115, 115]⟩] w fun e w' => e = .returned (.string ⟨#[116, 101, 120, 116, 47, 99, 115, 115]⟩) ∧ Below w.heap.size w w' := by
  have h := omof_any ⟨#[120, 46, 99, 115, 115]⟩ w (by decide)
  rw [show (⟨#[120, 46, 99, 115, 115]⟩ : ByteArray).data.toList = [120, 46, 99, 115, 115] from rfl, mofA] at h
  exact h
set_option maxHeartbeats 8000000 in
theorem awake17_any (m : Int) (w : World) (hm : w.cell? ⟨0, 0, none⟩ = some (.int .i64 m)) (hg : SgAt w) : Calls Tryz.prog 12 #[] w fun e w' => e = .returned (.bool true) ∧ Below w.heap.size w w' := by
  obtain ⟨W1, hW1⟩ : ∃ W1, w.alloc (.cells flA 46) = W1 := ⟨_, rfl⟩
  have hb1 : Below w.heap.size w W1 := by rw [← hW1]; exact (Below.refl _ w).alloc (Nat.le_refl _) _
  have hB1 : BlkIs W1 w.heap.size flA 46 := by rw [← hW1]; exact blkIs_new _ _ _
  have HN := Lib.hid (newA m w.heap.size W1 (mx_later (B := 0) hm hb1) (hg.below hb1) hB1)
  have HW1 := Lib.hid hW1; have HB1 := Lib.hid hb1
  clear hW1 hb1 hB1 hm hg
  go_enter Tryz.func12, Tryz.ntmps12
  go_wp2_with (go_at_call 35; rw [HW1.out]; refine (HN.out).mono ?_)
  rintro e w2 ⟨b, s, rfl, hsh⟩
  have HS2 := Lib.hid (shAt_made hsh)
  have HB2 := Lib.hid (HB1.out.trans (hsh.1.mono HB1.out.size))
  clear hsh
  go_wp2_with fail
  refine (lenA s w2 HS2.out).mono ?_
  rintro e w3 ⟨rfl, hw3⟩
  subst hw3
  go_wp2_with fail
  refine (findA s w3 HS2.out).mono ?_
  rintro e w4 ⟨rfl, hb4⟩
  obtain ⟨W5, hW5⟩ : ∃ W5, w4.alloc (.cells fndA 36) = W5 := ⟨_, rfl⟩
  have hb5 : Below w.heap.size w W5 := by rw [← hW5]; exact (HB2.out.trans (hb4.mono HB2.out.size)).alloc (HB2.out.trans (hb4.mono HB2.out.size)).size _
  have hB5 : BlkIs W5 w4.heap.size fndA 36 := by rw [← hW5]; exact blkIs_new _ _ _
  have HW5 := Lib.hid hW5; have HB5 := Lib.hid hb5
  clear hW5 hb4 hb5
  go_upto_region 5 with fail
  rw [HW5.out]
  have c0 : W5.cell? ⟨w4.heap.size, 0, none⟩ = some (.int .i64 1) := hB5.cell 0 _ rfl
  have c1 : W5.cell? ⟨w4.heap.size, 1, none⟩ = some (.int .i64 0) := hB5.cell 1 _ rfl
  clear hB5
  go_wp2_with fail
  refine (mofA_any W5).mono ?_
  rintro e w6 ⟨rfl, hb6⟩
  have HB6 := Lib.hid (HB5.out.trans (hb6.mono HB5.out.size))
  clear hb6 c0 c1
  go_wp2
  go_ret
  exact ⟨by first | rfl | simp, HB6.out⟩
end Go.Proofs.YtpdbejeiceodkaaGreatDoor
namespace Go.Proofs.YtpdbejeiceodkaaGreatDoor
open Go.RowKit
set_option linter.unusedSimpArgs false
set_option linter.unusedVariables false
set_option maxRecDepth 1000000
theorem infoRFile : (Tryz.prog.info? 64).map (fun i => (i.zero, i.size, i.bytes)) = some (some zFl, 6, 88) := by kernel_rfl
theorem info_partsRF (h : (Tryz.prog.info? 64).map (fun i => (i.zero, i.size, i.bytes)) = some (some zFl, 6, 88)) : ∃ i, Tryz.prog.info? 64 = some i ∧ i.zero = some zFl ∧ i.size = 6 ∧ i.bytes = 88 := by
  obtain ⟨i, hi, he⟩ := Option.map_eq_some_iff.1 h
  simp only [Prod.mk.injEq] at he
  exact ⟨i, hi, he.1, he.2.1, he.2.2⟩
theorem bd_rf (i n : Nat) (h : i < n) (hn : n ≤ 1073741824) : i + 1 ≤ maxLen ∧ (i + 1) * 88 ≤ 140737488355328 ∧ i ≤ 2199023255552 := by unfold maxLen; omega
set_option maxHeartbeats 4000000 in
theorem given17_any (v : Value) (l : List Fil) (w : World) (hN : l.length ≤ 1073741824) (h : FilsIn w v l) :
    Calls Tryz.prog 15 #[v] w fun e w' => ∃ v', e = .returned v' ∧ w'.ownsRow w.heap.size 64 6 v' l.length (filsC l) ∧ Below w.heap.size w w' := by
  obtain ⟨ao, cap, rfl, hat⟩ := h
  obtain ⟨i0, hi0, hz0, hz1, hz2⟩ := info_partsRF infoRFile
  obtain ⟨L, hL⟩ : ∃ L, w.heap.size = L := ⟨_, rfl⟩
  have hbb : Below L w (w.alloc (.cells #[] 64)) := by rw [← hL]; exact (Below.refl _ w).alloc (Nat.le_refl _) _
  have hrm : (w.alloc (.cells #[] 64)).ownsRow L 64 6 (.slice (some ⟨w.heap.size, 0, none⟩) 0 0) 0 [] := by rw [← hL]; exact World.ownsRow_made w #[] 0 (Nat.le_refl _) (by simp) rfl
  have HL := Lib.hid hL
  have HATW := Lib.hid hat
  clear hat hL
  go_enter Tryz.func15, Tryz.ntmps15
  go_wp2
  go_loopw [4, 3] (fun iv v wr => ∃ i : Nat, iv = .int .i64 i ∧ i ≤ l.length ∧ wr.ownsRow L 64 6 v i (filsC (l.take i)) ∧ Below L w wr)
    (fun iv _ _ => l.length - (intOf iv).toNat)
  case atStart => exact ⟨0, rfl, Nat.zero_le _, hrm, hbb⟩
  case round =>
    clear hbb hrm
    obtain ⟨i, rfl, hi, hown, hb⟩ := hrel
    by_cases hlt : i < l.length
    · obtain ⟨f, hf⟩ : ∃ p, l[i]? = some p := ⟨_, List.getElem?_eq_getElem hlt⟩
      have hb' : Below w.heap.size w wr := by rw [HL.out]; exact hb
      obtain ⟨g, o, rfl, hC⟩ := HATW.out.below hb' i f hf
      obtain ⟨a0, a1, a2, a3, a4, a5, _⟩ := id hC
      have k0 : (0 : Int) ≤ (i : Int) := Int.natCast_nonneg _
      have k1 : (i : Int) < (l.length : Int) := by omega
      obtain ⟨hbd1, hbd2, hbd3⟩ := bd_rf i l.length hlt hN
      have hwi := wrap64_small i hbd3
      have hsn := filsC_take l i f hf
      obtain ⟨W3, hW3⟩ : ∃ W3, wr.alloc (.cells (fC f.p f.m f.c f.l f.b f.t) 46) = W3 := ⟨_, rfl⟩
      obtain ⟨fb, hfb⟩ : ∃ fb, wr.heap.size = fb := ⟨_, rfl⟩
      have hbL := bsz hb HL
      have hF3 : BlkIs W3 fb (fC f.p f.m f.c f.l f.b f.t) 46 := by rw [← hW3, ← hfb]; exact blkIs_new _ _ _
      have hO3 : W3.ownsRow L 64 6 u3 i (filsC (l.take i)) := by rw [← hW3]; exact hown.alloc _
      have hB3 : Below L w W3 := by rw [← hW3]; exact hb.alloc hbL _
      have hz3 : L ≤ W3.heap.size := by rw [← hW3]; simp; omega
      have HW3 := Lib.hid hW3; have HW := Lib.hid hwi; have HSN := Lib.hid hsn; have HO := Lib.hid (And.intro hO3 hB3); have HF3 := Lib.hid hF3
      clear hW3 hwi hsn hC hown hb hb' hF3 hO3 hB3 hbL
      go_upto_region 6 with fail
      rw [HW3.out]
      clear a0 a1 a2 a3 a4 a5
      have c0 : W3.cell? ⟨fb, 0, none⟩ = some (.string ⟨f.p.toArray⟩) := HF3.out.cell 0 _ rfl
      have c1 : W3.cell? ⟨fb, 1, none⟩ = some (.string ⟨f.m.toArray⟩) := HF3.out.cell 1 _ rfl
      have c2 : W3.cell? ⟨fb, 2, none⟩ = some (.string ⟨f.c.toArray⟩) := HF3.out.cell 2 _ rfl
      have c3 : W3.cell? ⟨fb, 3, none⟩ = some (.string ⟨f.l.toArray⟩) := HF3.out.cell 3 _ rfl
      have c4 : W3.cell? ⟨fb, 4, none⟩ = some (.string ⟨f.b.toArray⟩) := HF3.out.cell 4 _ rfl
      have c5 : W3.cell? ⟨fb, 5, none⟩ = some (.int .i64 f.t) := HF3.out.cell 5 _ rfl
      go_wp2_with (at_builtin; refine wpList_append_own _ rfl _ _ 28 rfl L 64 i0 zFl 6 88 Tryz.underlying28 hi0 hz0 hz1 hz2 rfl (by decide) _ _ _ rfl (HO.out.1.alloc _) ⟨W3.heap.size, 0, none⟩ 1 1 [.string ⟨f.p.toArray⟩, .string ⟨f.m.toArray⟩, .string ⟨f.c.toArray⟩, .string ⟨f.l.toArray⟩, .string ⟨f.b.toArray⟩, .int .i64 f.t] rfl rfl (cells_new _ _ _) (by simp [Value.oneCell']) hbd1 hbd2 ?d0 ?_)
      case d0 => (try simp); omega
      intro v1 w7 hI1 hg7 _
      have hb8 := (HO.out.2.alloc hz3 _).grown hg7 (by simp; omega) (fun j hj => (HO.out.1.lt j hj).1)
      have HI1 := Lib.hid hI1; have HB8 := Lib.hid hb8
      clear hI1 hb8 hg7
      go_wp2
      have hwi := HW.out
      go_roundw
      case rel => (try rw [hwi]); clear hwi; exact ⟨i + 1, by go_num, hlt, by rw [HSN.out]; exact HI1.out, HB8.out⟩
      case measure => (try rw [hwi]); clear hwi; simp [intOf]; omega
    · obtain rfl : i = l.length := by omega
      have hd : decide (l.length < l.length) = false := decide_eq_false (Nat.lt_irrefl _)
      rw [List.take_length] at hown
      have HO := Lib.hid hown; have HB := Lib.hid hb
      clear hown hb
      go_wp2
      go_ret
      rw [HL.out]
      exact ⟨_, rfl, HO.out, HB.out⟩
set_option maxHeartbeats 4000000 in
theorem same17_any (f : Fil) (w : World) : Calls Tryz.prog 32 #[.agg (filC f), .agg (filC f)] w fun e w' => e = .returned (.bool true) ∧ Below w.heap.size w w' := by
  obtain ⟨p, m, c, l, bb, t⟩ := f
  obtain ⟨W2, hW2⟩ : ∃ W2, (w.alloc (.cells (fC p m c l bb t) 46)).alloc (.cells (fC p m c l bb t) 64) = W2 := ⟨_, rfl⟩
  obtain ⟨g, hg⟩ : ∃ g, w.heap.size = g := ⟨_, rfl⟩
  obtain ⟨r, hr⟩ : ∃ r, g + 1 = r := ⟨_, rfl⟩
  have hb2 : Below w.heap.size w W2 := by rw [← hW2]; exact ((Below.refl _ w).alloc (Nat.le_refl _) _).alloc (by simp) _
  have hB2 : BlkIs W2 g (fC p m c l bb t) 46 := by rw [← hW2, ← hg]; exact (blkIs_new _ _ _).alloc _
  have hR2 : BlkIs W2 r (fC p m c l bb t) 64 := by rw [← hW2, ← hr, ← hg]; have := blkIs_new (w.alloc (.cells (fC p m c l bb t) 46)) (fC p m c l bb t) 64; rwa [World.size_alloc] at this
  have HB := Lib.hid hb2; have HW2 := Lib.hid hW2
  have a0 : W2.cell? ⟨g, 0, none⟩ = some (.string ⟨p.toArray⟩) := hB2.cell 0 _ rfl
  have a1 : W2.cell? ⟨g, 1, none⟩ = some (.string ⟨m.toArray⟩) := hB2.cell 1 _ rfl
  have a2 : W2.cell? ⟨g, 2, none⟩ = some (.string ⟨c.toArray⟩) := hB2.cell 2 _ rfl
  have a3 : W2.cell? ⟨g, 3, none⟩ = some (.string ⟨l.toArray⟩) := hB2.cell 3 _ rfl
  have a4 : W2.cell? ⟨g, 4, none⟩ = some (.string ⟨bb.toArray⟩) := hB2.cell 4 _ rfl
  have a5 : W2.cell? ⟨g, 5, none⟩ = some (.int .i64 t) := hB2.cell 5 _ rfl
  have b0 : W2.cell? ⟨r, 0, none⟩ = some (.string ⟨p.toArray⟩) := hR2.cell 0 _ rfl
  have b1 : W2.cell? ⟨r, 1, none⟩ = some (.string ⟨m.toArray⟩) := hR2.cell 1 _ rfl
  have b2 : W2.cell? ⟨r, 2, none⟩ = some (.string ⟨c.toArray⟩) := hR2.cell 2 _ rfl
  have b3 : W2.cell? ⟨r, 3, none⟩ = some (.string ⟨l.toArray⟩) := hR2.cell 3 _ rfl
  have b4 : W2.cell? ⟨r, 4, none⟩ = some (.string ⟨bb.toArray⟩) := hR2.cell 4 _ rfl
  have b5 : W2.cell? ⟨r, 5, none⟩ = some (.int .i64 t) := hR2.cell 5 _ rfl
  clear hb2 hB2 hR2 hW2
  show Calls Tryz.prog 32 #[.agg (fC p m c l bb t), .agg (fC p m c l bb t)] w _
  go_enter Tryz.func32, Tryz.ntmps32
  go_upto_region 1 with fail
  rw [HW2.out]
  go_wp2
  go_ret
  exact ⟨rfl, by first | exact HB.out | (rw [← hg]; exact HB.out)⟩
theorem lenS (s n : Nat) (ao : Option Addr) (cap : Nat) (mv : Value) (w : World) (hB : BlkIs w s #[.slice ao n cap, mv] 85) : Calls Tryz.prog 21 #[.pointer (some ⟨s, 0, none⟩)] w fun e w' => e = .returned (.int .i64 (n : Int)) ∧ w' = w := by
  have c0 : w.cell? ⟨s, 0, none⟩ = some (.slice ao n cap) := hB.cell 0 _ rfl
  go_enter Tryz.func21, Tryz.ntmps21
  go_wp2
  go_ret
  exact ⟨rfl, by first | rfl | trivial⟩
end Go.Proofs.YtpdbejeiceodkaaGreatDoor
