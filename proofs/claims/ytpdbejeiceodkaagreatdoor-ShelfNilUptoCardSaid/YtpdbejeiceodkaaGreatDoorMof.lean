/- The walks of shelf.MediaOf and of the reference's: the plain function mofF. Conditions: at most 2^40 bytes. -/
import Derived.Test.YtpdbejeiceodkaaGreatDoorMofP
import Derived.Test.YtpdbejeiceodkaaGreatDoorMda
import Derived.Test.YtpdbejeiceodkaaGreatDoorOct7
import Derived.Lib.LastIndexByte
namespace Go.Proofs.YtpdbejeiceodkaaGreatDoor
open Go.RowKit
set_option linter.unusedSimpArgs false
set_option linter.unusedVariables false
set_option maxRecDepth 1000000
theorem data_get (s : ByteArray) (j : Nat) (h : j < s.size) : s.data[j]! = s[j]'h := by
  rw [getElem!_pos s.data j h]
  rfl
/-- strings.LastIndexByte: the place ahead of the plain one. -/
theorem lastB_eq (s : ByteArray) (c : UInt8) : Lib.lastIndexByte s (c.toNat : Int) = (lastP c s.data.toList : Int) - 1 := by
  have hne : ∀ (j : Nat) (h : j < s.size), ((s.data[j]!).toNat : Int) ≠ (c.toNat : Int) → s.data.toList[j]? ≠ some c := fun j h hd => by
    rw [list_get s j h]
    intro e
    injection e with e
    rw [data_get s j h, e] at hd
    exact hd rfl
  have hout : ∀ j : Nat, ¬ j < s.size → s.data.toList[j]? ≠ some c := fun j h => by rw [List.getElem?_eq_none (by rw [size_list]; omega)]; simp
  rcases Lib.lastIndexByte_spec s (c.toNat : Int) with ⟨h1, h2⟩ | ⟨i, hi, h1, h2, h3⟩
  · rw [h1, lastP_none c _ (fun j => by
      by_cases h : j < s.size
      · exact hne j h (h2 j h)
      · exact hout j h)]
    rfl
  · have hc : s.data.toList[i]? = some c := by
      rw [list_get s i hi]
      rw [data_get s i hi] at h2
      congr 1
      exact UInt8.toNat_inj.1 (by omega)
    rw [h1, lastP_at c _ i hc (fun j hj => by
      by_cases h : j < s.size
      · exact hne j h (h3 j hj h)
      · exact hout j h)]
    omega
theorem lastB_lib (s : ByteArray) (c : UInt8) (hs : s.size ≤ 1099511627776) (w : World) : Calls Tryz.prog 36 #[.string s, .int .u8 (c.toNat : Int)] w fun e w' => e = .returned (.int .i64 ((lastP c s.data.toList : Int) - 1)) ∧ w' = w := by
  rw [← lastB_eq]
  exact Tryz.strings_LastIndexByte s (c.toNat : Int) (Nat.lt_of_le_of_lt hs (by decide)) w
theorem ext_from (s : ByteArray) (b : Nat) : (s.extract b s.size).data.toList = s.data.toList.drop b := by
  rw [ByteArray.data_extract, Array.toList_extract, List.extract_eq_take_drop, List.take_of_length_le]
  rw [List.length_drop, size_list]
  omega
theorem lp_bd (f n : Nat) (h : f ≤ n) (hn : n ≤ 1099511627776) : f ≤ 2199023255552 := by omega
set_option maxHeartbeats 8000000 in
theorem omof_any (s : ByteArray) (w : World) (hs : s.size ≤ 1099511627776) :
    Calls Tryz.prog 13 #[.string s] w fun e w' => e = .returned (.string ⟨(mofF s.data.toList).toArray⟩) ∧ Below w.heap.size w w' := by
  have h1 := fun w => lastB_lib s 47 hs w
  have hle := lastP_le 47 s.data.toList
  rw [size_list] at hle
  obtain ⟨f, hf⟩ : ∃ f, lastP 47 s.data.toList = f := ⟨_, rfl⟩
  rw [hf] at h1 hle
  have hfn : ∀ l, l = s.data.toList.drop f → lastP 46 l = 0 → mofF s.data.toList = mofO := fun l hl h => mofF_none _ (by rw [hf, ← hl]; exact h)
  have hfs : ∀ l x, l = s.data.toList.drop f → lastP 46 l ≠ 0 → lowL (l.drop (lastP 46 l)) = x → mofF s.data.toList = mofT x := fun l x hl h hx => mofF_some _ x (by rw [hf, ← hl]; exact h) (by rw [hf, ← hl]; exact hx)
  obtain ⟨t, ht⟩ : ∃ t : ByteArray, s.extract f s.size = t := ⟨_, rfl⟩
  have htl : t.data.toList = s.data.toList.drop f := by rw [← ht]; exact ext_from s f
  have hts : t.size ≤ 1099511627776 := by rw [← size_list, htl, List.length_drop, size_list]; omega
  have h2 := fun w => lastB_lib t 46 hts w
  have hle2 := lastP_le 46 t.data.toList
  rw [size_list] at hle2
  obtain ⟨p, hp⟩ : ∃ p, lastP 46 t.data.toList = p := ⟨_, rfl⟩
  rw [hp] at h2 hle2
  have hfn2 := hfn _ htl
  have hfs2 := fun x => hfs _ x htl
  rw [hp] at hfn2
  simp only [hp] at hfs2
  have e1 : (f : Int) - 1 + 1 = (f : Int) := by omega
  have w1 := wrap_mid f (lp_bd f _ hle hs)
  have w2 := wrap_mid p (lp_bd p _ hle2 hts)
  have w1' : wrap64 ((f : Int) - 1 + 1) = (f : Int) := by rw [e1]; exact w64j f (lp_bd f _ hle hs)
  have f0 : (0 : Int) ≤ (f : Int) := Int.natCast_nonneg _
  have f1 : (f : Int) ≤ (s.size : Int) := by omega
  have H1 := Lib.hid h1; have H2 := Lib.hid h2; have HFN := Lib.hid hfn2; have HFS := Lib.hid hfs2; have HTS := Lib.hid (And.intro hts hle2)
  clear h1 h2 hfn hfn2 hfs hfs2 hf hp htl hts hle hle2 hs
  by_cases hp0 : p = 0
  · have q1 : (p : Int) - 1 < 0 := by omega
    have HR := Lib.hid (HFN.out hp0)
    clear hp0
    go_enter Tryz.func13, Tryz.ntmps13
    go_wp2_with fail
    refine (H1.out _).mono ?_
    rintro e w3 ⟨rfl, hw3⟩; subst hw3
    go_wp2_with fail
    refine (H2.out _).mono ?_
    rintro e w4 ⟨rfl, hw4⟩; subst hw4
    go_wp2
    go_ret
    rw [HR.out]
    exact ⟨rfl, Below.refl _ _⟩
  · have q1 : 0 ≤ (p : Int) - 1 := by omega
    have e2 : (p : Int) - 1 + 1 = (p : Int) := by omega
    have w2' : wrap64 ((p : Int) - 1 + 1) = (p : Int) := by rw [e2]; exact w64j p (lp_bd p _ HTS.out.2 HTS.out.1)
    have p0 : (0 : Int) ≤ (p : Int) := Int.natCast_nonneg _
    have p1 : (p : Int) ≤ (t.size : Int) := by have := HTS.out.2; omega
    obtain ⟨u, hu⟩ : ∃ u : ByteArray, t.extract p t.size = u := ⟨_, rfl⟩
    have hul : u.data.toList = t.data.toList.drop p := by rw [← hu]; exact ext_from t p
    have hus : u.size ≤ 1099511627776 := by have := HTS.out.1; rw [← size_list, hul, List.length_drop, size_list]; omega
    have h3 := fun w => olower_any u w hus
    obtain ⟨x, hx⟩ : ∃ x, lowL u.data.toList = x := ⟨_, rfl⟩
    rw [hx] at h3
    have HX := Lib.hid (HFS.out x hp0 (by rw [← hul]; exact hx))
    have H3 := Lib.hid h3
    clear hp0 hul hus h3 hx
    go_enter Tryz.func13, Tryz.ntmps13
    go_wp2_with fail
    refine (H1.out _).mono ?_
    rintro e w3 ⟨rfl, hw3⟩; subst hw3
    go_wp2_with fail
    refine (H2.out _).mono ?_
    rintro e w4 ⟨rfl, hw4⟩; subst hw4
    go_wp2_with fail
    refine (H3.out _).mono ?_
    rintro e w5 ⟨rfl, hb5⟩
    have HB := Lib.hid hb5
    clear hb5
    by_cases y0 : x = [104, 116, 109, 108]
    · have b0 : (x == [104, 116, 109, 108]) = true := by rw [y0]; rfl
      have HR := Lib.hid (HX.out.trans (show mofT x = [116, 101, 120, 116, 47, 104, 116, 109, 108, 59, 32, 99, 104, 97, 114, 115, 101, 116, 61, 117, 116, 102, 45, 56] by unfold mofT; simp only [if_pos y0]))
      clear y0 
      go_wp2
      go_ret
      rw [HR.out]
      exact ⟨rfl, HB.out⟩
    have n0 : ¬ x = [104, 116, 109, 108] := y0
    clear y0
    have b0 : (x == [104, 116, 109, 108]) = false := beq_false_of_ne n0
    by_cases y1 : x = [104, 116, 109]
    · have b1 : (x == [104, 116, 109]) = true := by rw [y1]; rfl
      have HR := Lib.hid (HX.out.trans (show mofT x = [116, 101, 120, 116, 47, 104, 116, 109, 108, 59, 32, 99, 104, 97, 114, 115, 101, 116, 61, 117, 116, 102, 45, 56] by unfold mofT; simp only [if_neg n0, if_pos y1]))
      clear y1 n0
      go_wp2
      go_ret
      rw [HR.out]
      exact ⟨rfl, HB.out⟩
    have n1 : ¬ x = [104, 116, 109] := y1
    clear y1
    have b1 : (x == [104, 116, 109]) = false := beq_false_of_ne n1
    by_cases y2 : x = [116, 120, 116]
    · have b2 : (x == [116, 120, 116]) = true := by rw [y2]; rfl
      have HR := Lib.hid (HX.out.trans (show mofT x = [116, 101, 120, 116, 47, 112, 108, 97, 105, 110, 59, 32, 99, 104, 97, 114, 115, 101, 116, 61, 117, 116, 102, 45, 56] by unfold mofT; simp only [if_neg n0, if_neg n1, if_pos y2]))
      clear y2 n0 n1
      go_wp2
      go_ret
      rw [HR.out]
      exact ⟨rfl, HB.out⟩
    have n2 : ¬ x = [116, 120, 116] := y2
    clear y2
    have b2 : (x == [116, 120, 116]) = false := beq_false_of_ne n2
    by_cases y3 : x = [99, 115, 115]
    · have b3 : (x == [99, 115, 115]) = true := by rw [y3]; rfl
      have HR := Lib.hid (HX.out.trans (show mofT x = [116, 101, 120, 116, 47, 99, 115, 115] by unfold mofT; simp only [if_neg n0, if_neg n1, if_neg n2, if_pos y3]))
      clear y3 n0 n1 n2
      go_wp2
      go_ret
      rw [HR.out]
      exact ⟨rfl, HB.out⟩
    have n3 : ¬ x = [99, 115, 115] := y3
    clear y3
    have b3 : (x == [99, 115, 115]) = false := beq_false_of_ne n3
    by_cases y4 : x = [106, 115]
    · have b4 : (x == [106, 115]) = true := by rw [y4]; rfl
      have HR := Lib.hid (HX.out.trans (show mofT x = [116, 101, 120, 116, 47, 106, 97, 118, 97, 115, 99, 114, 105, 112, 116] by unfold mofT; simp only [if_neg n0, if_neg n1, if_neg n2, if_neg n3, if_pos y4]))
      clear y4 n0 n1 n2 n3
      go_wp2
      go_ret
      rw [HR.out]
      exact ⟨rfl, HB.out⟩
    have n4 : ¬ x = [106, 115] := y4
    clear y4
    have b4 : (x == [106, 115]) = false := beq_false_of_ne n4
    by_cases y5 : x = [106, 115, 111, 110]
    · have b5 : (x == [106, 115, 111, 110]) = true := by rw [y5]; rfl
      have HR := Lib.hid (HX.out.trans (show mofT x = [97, 112, 112, 108, 105, 99, 97, 116, 105, 111, 110, 47, 106, 115, 111, 110] by unfold mofT; simp only [if_neg n0, if_neg n1, if_neg n2, if_neg n3, if_neg n4, if_pos y5]))
      clear y5 n0 n1 n2 n3 n4
      go_wp2
      go_ret
      rw [HR.out]
      exact ⟨rfl, HB.out⟩
    have n5 : ¬ x = [106, 115, 111, 110] := y5
    clear y5
    have b5 : (x == [106, 115, 111, 110]) = false := beq_false_of_ne n5
    by_cases y6 : x = [120, 109, 108]
    · have b6 : (x == [120, 109, 108]) = true := by rw [y6]; rfl
      have HR := Lib.hid (HX.out.trans (show mofT x = [97, 112, 112, 108, 105, 99, 97, 116, 105, 111, 110, 47, 120, 109, 108] by unfold mofT; simp only [if_neg n0, if_neg n1, if_neg n2, if_neg n3, if_neg n4, if_neg n5, if_pos y6]))
      clear y6 n0 n1 n2 n3 n4 n5
      go_wp2
      go_ret
      rw [HR.out]
      exact ⟨rfl, HB.out⟩
    have n6 : ¬ x = [120, 109, 108] := y6
    clear y6
    have b6 : (x == [120, 109, 108]) = false := beq_false_of_ne n6
    by_cases y7 : x = [115, 118, 103]
    · have b7 : (x == [115, 118, 103]) = true := by rw [y7]; rfl
      have HR := Lib.hid (HX.out.trans (show mofT x = [105, 109, 97, 103, 101, 47, 115, 118, 103, 43, 120, 109, 108] by unfold mofT; simp only [if_neg n0, if_neg n1, if_neg n2, if_neg n3, if_neg n4, if_neg n5, if_neg n6, if_pos y7]))
      clear y7 n0 n1 n2 n3 n4 n5 n6
      go_wp2
      go_ret
      rw [HR.out]
      exact ⟨rfl, HB.out⟩
    have n7 : ¬ x = [115, 118, 103] := y7
    clear y7
    have b7 : (x == [115, 118, 103]) = false := beq_false_of_ne n7
    by_cases y8 : x = [112, 110, 103]
    · have b8 : (x == [112, 110, 103]) = true := by rw [y8]; rfl
      have HR := Lib.hid (HX.out.trans (show mofT x = [105, 109, 97, 103, 101, 47, 112, 110, 103] by unfold mofT; simp only [if_neg n0, if_neg n1, if_neg n2, if_neg n3, if_neg n4, if_neg n5, if_neg n6, if_neg n7, if_pos y8]))
      clear y8 n0 n1 n2 n3 n4 n5 n6 n7
      go_wp2
      go_ret
      rw [HR.out]
      exact ⟨rfl, HB.out⟩
    have n8 : ¬ x = [112, 110, 103] := y8
    clear y8
    have b8 : (x == [112, 110, 103]) = false := beq_false_of_ne n8
    by_cases y9 : x = [106, 112, 103]
    · have b9 : (x == [106, 112, 103]) = true := by rw [y9]; rfl
      have HR := Lib.hid (HX.out.trans (show mofT x = [105, 109, 97, 103, 101, 47, 106, 112, 101, 103] by unfold mofT; simp only [if_neg n0, if_neg n1, if_neg n2, if_neg n3, if_neg n4, if_neg n5, if_neg n6, if_neg n7, if_neg n8, if_pos y9]))
      clear y9 n0 n1 n2 n3 n4 n5 n6 n7 n8
      go_wp2
      go_ret
      rw [HR.out]
      exact ⟨rfl, HB.out⟩
    have n9 : ¬ x = [106, 112, 103] := y9
    clear y9
    have b9 : (x == [106, 112, 103]) = false := beq_false_of_ne n9
    by_cases y10 : x = [106, 112, 101, 103]
    · have b10 : (x == [106, 112, 101, 103]) = true := by rw [y10]; rfl
      have HR := Lib.hid (HX.out.trans (show mofT x = [105, 109, 97, 103, 101, 47, 106, 112, 101, 103] by unfold mofT; simp only [if_neg n0, if_neg n1, if_neg n2, if_neg n3, if_neg n4, if_neg n5, if_neg n6, if_neg n7, if_neg n8, if_neg n9, if_pos y10]))
      clear y10 n0 n1 n2 n3 n4 n5 n6 n7 n8 n9
      go_wp2
      go_ret
      rw [HR.out]
      exact ⟨rfl, HB.out⟩
    have n10 : ¬ x = [106, 112, 101, 103] := y10
    clear y10
    have b10 : (x == [106, 112, 101, 103]) = false := beq_false_of_ne n10
    by_cases y11 : x = [103, 105, 102]
    · have b11 : (x == [103, 105, 102]) = true := by rw [y11]; rfl
      have HR := Lib.hid (HX.out.trans (show mofT x = [105, 109, 97, 103, 101, 47, 103, 105, 102] by unfold mofT; simp only [if_neg n0, if_neg n1, if_neg n2, if_neg n3, if_neg n4, if_neg n5, if_neg n6, if_neg n7, if_neg n8, if_neg n9, if_neg n10, if_pos y11]))
      clear y11 n0 n1 n2 n3 n4 n5 n6 n7 n8 n9 n10
      go_wp2
      go_ret
      rw [HR.out]
      exact ⟨rfl, HB.out⟩
    have n11 : ¬ x = [103, 105, 102] := y11
    clear y11
    have b11 : (x == [103, 105, 102]) = false := beq_false_of_ne n11
    by_cases y12 : x = [105, 99, 111]
    · have b12 : (x == [105, 99, 111]) = true := by rw [y12]; rfl
      have HR := Lib.hid (HX.out.trans (show mofT x = [105, 109, 97, 103, 101, 47, 120, 45, 105, 99, 111, 110] by unfold mofT; simp only [if_neg n0, if_neg n1, if_neg n2, if_neg n3, if_neg n4, if_neg n5, if_neg n6, if_neg n7, if_neg n8, if_neg n9, if_neg n10, if_neg n11, if_pos y12]))
      clear y12 n0 n1 n2 n3 n4 n5 n6 n7 n8 n9 n10 n11
      go_wp2
      go_ret
      rw [HR.out]
      exact ⟨rfl, HB.out⟩
    have n12 : ¬ x = [105, 99, 111] := y12
    clear y12
    have b12 : (x == [105, 99, 111]) = false := beq_false_of_ne n12
    by_cases y13 : x = [112, 100, 102]
    · have b13 : (x == [112, 100, 102]) = true := by rw [y13]; rfl
      have HR := Lib.hid (HX.out.trans (show mofT x = [97, 112, 112, 108, 105, 99, 97, 116, 105, 111, 110, 47, 112, 100, 102] by unfold mofT; simp only [if_neg n0, if_neg n1, if_neg n2, if_neg n3, if_neg n4, if_neg n5, if_neg n6, if_neg n7, if_neg n8, if_neg n9, if_neg n10, if_neg n11, if_neg n12, if_pos y13]))
      clear y13 n0 n1 n2 n3 n4 n5 n6 n7 n8 n9 n10 n11 n12
      go_wp2
      go_ret
      rw [HR.out]
      exact ⟨rfl, HB.out⟩
    have n13 : ¬ x = [112, 100, 102] := y13
    clear y13
    have b13 : (x == [112, 100, 102]) = false := beq_false_of_ne n13
    by_cases y14 : x = [119, 97, 115, 109]
    · have b14 : (x == [119, 97, 115, 109]) = true := by rw [y14]; rfl
      have HR := Lib.hid (HX.out.trans (show mofT x = [97, 112, 112, 108, 105, 99, 97, 116, 105, 111, 110, 47, 119, 97, 115, 109] by unfold mofT; simp only [if_neg n0, if_neg n1, if_neg n2, if_neg n3, if_neg n4, if_neg n5, if_neg n6, if_neg n7, if_neg n8, if_neg n9, if_neg n10, if_neg n11, if_neg n12, if_neg n13, if_pos y14]))
      clear y14 n0 n1 n2 n3 n4 n5 n6 n7 n8 n9 n10 n11 n12 n13
      go_wp2
      go_ret
      rw [HR.out]
      exact ⟨rfl, HB.out⟩
    have n14 : ¬ x = [119, 97, 115, 109] := y14
    clear y14
    have b14 : (x == [119, 97, 115, 109]) = false := beq_false_of_ne n14
    by_cases y15 : x = [122, 105, 112]
    · have b15 : (x == [122, 105, 112]) = true := by rw [y15]; rfl
      have HR := Lib.hid (HX.out.trans (show mofT x = [97, 112, 112, 108, 105, 99, 97, 116, 105, 111, 110, 47, 122, 105, 112] by unfold mofT; simp only [if_neg n0, if_neg n1, if_neg n2, if_neg n3, if_neg n4, if_neg n5, if_neg n6, if_neg n7, if_neg n8, if_neg n9, if_neg n10, if_neg n11, if_neg n12, if_neg n13, if_neg n14, if_pos y15]))
      clear y15 n0 n1 n2 n3 n4 n5 n6 n7 n8 n9 n10 n11 n12 n13 n14
      go_wp2
      go_ret
      rw [HR.out]
      exact ⟨rfl, HB.out⟩
    have n15 : ¬ x = [122, 105, 112] := y15
    clear y15
    have b15 : (x == [122, 105, 112]) = false := beq_false_of_ne n15
    have HR := Lib.hid (HX.out.trans (show mofT x = mofO by unfold mofT; simp only [if_neg n0, if_neg n1, if_neg n2, if_neg n3, if_neg n4, if_neg n5, if_neg n6, if_neg n7, if_neg n8, if_neg n9, if_neg n10, if_neg n11, if_neg n12, if_neg n13, if_neg n14, if_neg n15]))
    clear n0 n1 n2 n3 n4 n5 n6 n7 n8 n9 n10 n11 n12 n13 n14 n15
    go_wp2
    go_ret
    rw [HR.out]
    exact ⟨rfl, HB.out⟩
end Go.Proofs.YtpdbejeiceodkaaGreatDoor
