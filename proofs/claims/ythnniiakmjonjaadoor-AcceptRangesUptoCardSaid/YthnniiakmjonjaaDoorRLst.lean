/- The walk of the reference's List: the plain function lsR. Conditions: at most 2^30 bytes. -/
import Derived.Test.YthnniiakmjonjaaDoorLst
namespace Go.Proofs.YthnniiakmjonjaaDoor
open Go.RowKit
set_option linter.unusedSimpArgs false
set_option linter.unusedVariables false
set_option maxRecDepth 1000000
theorem fulls_dlen (l : List (List UInt8)) (n : Nat) (h : l.length ≤ n) : (fulls l).length ≤ n := Nat.le_trans (fulls_len l) h
theorem btw_len40 (s : ByteArray) (fr a : Nat) (hs : s.size ≤ 1073741824) : (btw s.data.toList fr a).length ≤ 1099511627776 := Nat.le_trans (btw_len _ _ _) (by rw [size_list]; exact Nat.le_trans hs (by decide))
set_option maxHeartbeats 16000000 in
theorem rlist_any (s : ByteArray) (w : World) (hs : s.size ≤ 1073741824) : Calls Tryd.prog 78 #[.string s] w (LsPost s.data.toList w) := by
  obtain ⟨i0, hi0, hz0, hz1, hz2⟩ := info_partsS7 infoStr7
  have hbb : Below w.heap.size w (w.alloc (.cells #[] 9)) := (Below.refl _ w).alloc (Nat.le_refl _) _
  have hrm : (w.alloc (.cells #[] 9)).ownsRow w.heap.size 9 1 (.slice (some ⟨w.heap.size, 0, none⟩) 0 0) 0 [] := World.ownsRow_made w #[] 0 (Nat.le_refl _) (by simp) rfl
  go_enter Tryd.func78, Tryd.ntmps78
  go_wp2
  go_loopw [6, 5, 4] (fun av fv ov wr => ∃ (a fr : Nat), av = .int .i64 a ∧ fv = .int .i64 fr ∧ ((∃ done, LstR s.data.toList fr a done ∧ wr.ownsRow w.heap.size 9 1 ov (fulls done).length (strV (fulls done))) ∨ (∃ all, a = s.size + 1 ∧ lstR [] s.data.toList = some all ∧ wr.ownsRow w.heap.size 9 1 ov (fulls all).length (strV (fulls all)))) ∧ Below w.heap.size w wr) (fun av _ _ _ => s.size + 1 - (intOf av).toNat)
  case atStart => exact ⟨0, 0, rfl, rfl, Or.inl ⟨[], LstR.start _, hrm⟩, hbb⟩
  case round =>
    clear hbb hrm
    obtain ⟨a, fr, rfl, rfl, hor, hb⟩ := hrel
    have HB := Lib.hid hb
    have hbz := hb.size
    rcases hor with ⟨done, hR, hown⟩ | ⟨all, ha, hall, hown⟩
    · have has : a ≤ s.size := by have := hR.2.1; rw [size_list] at this; exact this
      have hdn : done.length ≤ s.size := Nat.le_trans hR.2.2.1 (Nat.le_trans hR.1 has)
      have hbd := str_bd7 (fulls done).length s.size (fulls_dlen _ _ hdn) (Nat.le_trans hs (by decide))
      have f0 : (0 : Int) ≤ (fr : Int) := Int.natCast_nonneg _
      have f1 : (fr : Int) ≤ (a : Int) := by have := hR.1; omega
      have f2 : (a : Int) ≤ (s.size : Int) := by omega
      have HR := Lib.hid hR; have HO := Lib.hid hown
      have hx := btw_ext s fr a
      have hcl := btw_len40 s fr a hs
      clear hR hown hb hdn
      by_cases hlt : a < s.size
      · obtain ⟨c, hc⟩ : ∃ c, s[a]'hlt = c := ⟨_, rfl⟩
        have hget := list_get s a hlt
        rw [hc] at hget
        have k0 : (0 : Int) ≤ (a : Int) := Int.natCast_nonneg _
        have k1 : (a : Int) < (s.size : Int) := by omega
        have k2 : ((a : Int) == (s.size : Int)) = false := beq_false_of_ne (by omega)
        have hwi := wrap64_small a (Nat.le_trans has (Nat.le_trans hs (by decide)))
        have HW := Lib.hid hwi
        clear hwi
        by_cases h44 : c = 44
        · have b44 : ((c.toNat : Int) == 44) = true := by rw [h44]; rfl
          have hst := HR.out.comma (by rw [hget, h44])
          obtain ⟨cur, hcur⟩ : ∃ x, btw s.data.toList fr a = x := ⟨_, rfl⟩
          rw [hcur] at hx hst hcl
          have HST := Lib.hid hst
          clear h44 hget hcur hst
          have hfs := fulls_snoc done cur
          obtain ⟨t, ht⟩ : ∃ t, trimL cur = t := ⟨_, rfl⟩
          have htr := rtrim_any ⟨cur.toArray⟩ wr (by rw [size_mk]; exact hcl)
          rw [show (⟨cur.toArray⟩ : ByteArray).data.toList = cur from rfl, ht] at htr
          rw [ht] at hfs
          have HT := Lib.hid htr
          clear htr ht hcl
          by_cases hte : t = []
          · rw [if_pos hte, List.append_nil] at hfs
            have HFS := Lib.hid hfs
            subst hte
            clear hfs
            go_wp2_with fail
            refine (HT.out).mono ?_
            rintro e w5 ⟨rfl, hw5⟩
            rw [hw5]
            clear hw5
            go_wp2
            have hwi := HW.out
            go_roundw
            case rel => (try rw [hwi]); clear hwi; exact ⟨a + 1, a + 1, by go_num, by go_num, Or.inl ⟨done ++ [cur], HST.out, by rw [HFS.out]; exact HO.out⟩, HB.out⟩
            case measure => (try rw [hwi]); clear hwi; (simp [intOf] <;> omega)
          · rw [if_neg hte] at hfs
            have HFS := Lib.hid hfs
            have hbe : (t == []) = false := beq_false_of_ne hte
            have hbe2 : t.isEmpty = false := by cases t with | nil => exact absurd rfl hte | cons => rfl
            clear hfs
            go_wp2_with fail
            refine (HT.out).mono ?_
            rintro e w5 ⟨rfl, hw5⟩
            rw [hw5]
            clear hw5
            go_wp2_with (at_builtin; refine wpList_append_own _ rfl (.tmp 33) (.tmp 35) 44 rfl w.heap.size 9 i0 (.string ByteArray.empty) 1 16 Tryd.underlying44 hi0 hz0 hz1 hz2 rfl (by decide) _ _ _ rfl (HO.out.alloc _) ⟨wr.heap.size, 0, none⟩ 1 1 [.string ⟨t.toArray⟩] rfl rfl (cells_new wr 9 _) (by simp [Value.oneCell']) hbd.1 hbd.2 ?dd ?_)
            case dd => simp; omega
            intro v2 w6 hI6 hg6 _
            have hb6 : Below w.heap.size w w6 := (HB.out.alloc hbz _).grown hg6 (alloc_le hbz _) (fun k hk => (HO.out.lt k hk).1)
            have HI6 := Lib.hid hI6; have HB6 := Lib.hid hb6
            clear hI6 hg6 hb6
            go_wp2
            have hwi := HW.out
            go_roundw
            case rel => (try rw [hwi]); clear hwi; exact ⟨a + 1, a + 1, by go_num, by go_num, Or.inl ⟨done ++ [cur], HST.out, by rw [HFS.out, strV_snoc, List.length_append]; exact HI6.out⟩, HB6.out⟩
            case measure => (try rw [hwi]); clear hwi; (simp [intOf] <;> omega)
        · have b44 : ((c.toNat : Int) == 44) = false := (ne_u8o c 44 (by decide) h44).1
          clear hx hcl
          by_cases h34 : c = 34
          · have b34 : ((c.toNat : Int) == 34) = true := by rw [h34]; rfl
            have hg34 : s.data.toList[a]? = some 34 := by rw [hget, h34]
            have hx3 := ext_back s a
            have hu := runq_any ⟨(s.data.toList.drop a).toArray⟩ wr (by rw [size_mk, List.length_drop, size_list]; omega)
            rw [show (⟨(s.data.toList.drop a).toArray⟩ : ByteArray).data.toList = s.data.toList.drop a from rfl] at hu
            cases hq : unq (s.data.toList.drop a) with
            | none =>
              rw [hq, show unqRet none = .tuple #[.string ⟨#[]⟩, .int .i64 0, .int .i64 13] from rfl] at hu
              have HU := Lib.hid hu
              have HN := Lib.hid (lsR_none _ (HR.out.bad hg34 hq))
              clear hu hq hg34 hget h34
              go_wp2_with fail
              refine (HU.out).mono ?_
              rintro e w1 ⟨rfl, hb1⟩
              have hb1' := HB.out.trans (hb1.mono HB.out.size)
              have HM := Lib.hid (World.ownsRow_made (e := 9) (base := w.heap.size) (size := 1) w1 #[] 0 hb1'.size (by decide) rfl)
              have HB1 := Lib.hid (hb1'.alloc hb1'.size (.cells #[] 9))
              clear hb1 hb1'
              go_wp2
              go_ret2
              unfold LsPost
              rw [HN.out]
              exact ⟨_, rfl, HM.out, HB1.out⟩
            | some xn =>
              obtain ⟨x, n⟩ := xn
              rw [hq, show unqRet (some (x, n)) = .tuple #[.string ⟨x.toArray⟩, .int .i64 (n : Int), .int .i64 0] from rfl] at hu
              have HU := Lib.hid hu
              have hst := HR.out.quote hg34 hq
              have hn1 : a + n ≤ s.size := by have := hst.1.2.1; rw [size_list] at this; exact this
              obtain ⟨a1, ha1⟩ : ∃ a1, a + n = a1 := ⟨_, rfl⟩
              have fn : (a : Int) + (n : Int) = (a1 : Int) := by omega
              have hnp := hst.2
              have hm : s.size + 1 - a1 < s.size + 1 - a := by omega
              rw [ha1] at hst
              have hw1 : wrap64 (a1 : Int) = (a1 : Int) ∧ IntKind.i64.wrap (a1 : Int) = (a1 : Int) := w64le7 a1 (by rw [← ha1]; exact Nat.le_trans hn1 (Nat.le_trans hs (by decide)))
              obtain ⟨hwa, hwb⟩ := hw1
              have HST := Lib.hid (And.intro hst.1 hm)
              clear hu hq hg34 hget h34 hst hn1 hnp ha1 hm
              go_wp2_with fail
              refine (HU.out).mono ?_
              rintro e w1 ⟨rfl, hb1⟩
              have HB1 := Lib.hid (HB.out.trans (hb1.mono HB.out.size))
              have HO1 := Lib.hid (own_later HO.out hb1)
              clear hb1
              go_wp2
              go_roundw
              case rel => exact ⟨a1, fr, rfl, rfl, Or.inl ⟨done, HST.out.1, HO1.out⟩, HB1.out⟩
              case measure => have := HST.out.2; simp [intOf]; omega
          · have b34 : ((c.toNat : Int) == 34) = false := (ne_u8o c 34 (by decide) h34).1
            have HST := Lib.hid (HR.out.other hget h34 h44)
            clear h34 h44 hget
            go_wp2
            have hwi := HW.out
            go_roundw
            case rel => (try rw [hwi]); clear hwi; exact ⟨a + 1, fr, by go_num, rfl, Or.inl ⟨done, HST.out, HO.out⟩, HB.out⟩
            case measure => (try rw [hwi]); clear hwi; (simp [intOf] <;> omega)
      · obtain rfl : s.size = a := by omega
        have k2 : ((s.size : Int) == (s.size : Int)) = true := by simp
        have hwi := wrap64_small s.size (Nat.le_trans hs (by decide))
        have HW := Lib.hid hwi
        have hfin := LstR.fin (L := s.data.toList) (fr := fr) (done := done) (by rw [size_list]; exact HR.out)
        have hbe0 : s.data.toList.drop fr = btw s.data.toList fr s.size := by rw [← btw_end, size_list]
        obtain ⟨cur, hcur⟩ : ∃ x, btw s.data.toList fr s.size = x := ⟨_, rfl⟩
        rw [hbe0, hcur] at hfin
        rw [hcur] at hx hcl
        have HST := Lib.hid hfin
        clear hwi hfin hbe0 hcur hlt
        have hfs := fulls_snoc done cur
        obtain ⟨t, ht⟩ : ∃ t, trimL cur = t := ⟨_, rfl⟩
        have htr := rtrim_any ⟨cur.toArray⟩ wr (by rw [size_mk]; exact hcl)
        rw [show (⟨cur.toArray⟩ : ByteArray).data.toList = cur from rfl, ht] at htr
        rw [ht] at hfs
        have HT := Lib.hid htr
        clear htr ht hcl
        by_cases hte : t = []
        · rw [if_pos hte, List.append_nil] at hfs
          have HFS := Lib.hid hfs
          subst hte
          clear hfs
          go_wp2_with fail
          refine (HT.out).mono ?_
          rintro e w5 ⟨rfl, hw5⟩
          rw [hw5]
          clear hw5
          go_wp2
          have hwi := HW.out
          go_roundw
          case rel => (try rw [hwi]); clear hwi; exact ⟨s.size + 1, s.size + 1, by go_num, by go_num, Or.inr ⟨done ++ [cur], rfl, HST.out, by rw [HFS.out]; exact HO.out⟩, HB.out⟩
          case measure => (try rw [hwi]); clear hwi; (simp [intOf] <;> omega)
        · rw [if_neg hte] at hfs
          have HFS := Lib.hid hfs
          have hbe : (t == []) = false := beq_false_of_ne hte
          have hbe2 : t.isEmpty = false := by cases t with | nil => exact absurd rfl hte | cons => rfl
          clear hfs
          go_wp2_with fail
          refine (HT.out).mono ?_
          rintro e w5 ⟨rfl, hw5⟩
          rw [hw5]
          clear hw5
          go_wp2_with (at_builtin; refine wpList_append_own _ rfl (.tmp 33) (.tmp 35) 44 rfl w.heap.size 9 i0 (.string ByteArray.empty) 1 16 Tryd.underlying44 hi0 hz0 hz1 hz2 rfl (by decide) _ _ _ rfl (HO.out.alloc _) ⟨wr.heap.size, 0, none⟩ 1 1 [.string ⟨t.toArray⟩] rfl rfl (cells_new wr 9 _) (by simp [Value.oneCell']) hbd.1 hbd.2 ?dd ?_)
          case dd => simp; omega
          intro v2 w6 hI6 hg6 _
          have hb6 : Below w.heap.size w w6 := (HB.out.alloc hbz _).grown hg6 (alloc_le hbz _) (fun k hk => (HO.out.lt k hk).1)
          have HI6 := Lib.hid hI6; have HB6 := Lib.hid hb6
          clear hI6 hg6 hb6
          go_wp2
          have hwi := HW.out
          go_roundw
          case rel => (try rw [hwi]); clear hwi; exact ⟨s.size + 1, s.size + 1, by go_num, by go_num, Or.inr ⟨done ++ [cur], rfl, HST.out, by rw [HFS.out, strV_snoc, List.length_append]; exact HI6.out⟩, HB6.out⟩
          case measure => (try rw [hwi]); clear hwi; (simp [intOf] <;> omega)
    · subst ha
      have hd : decide ((s.size : Int) + 1 ≤ (s.size : Int)) = false := decide_eq_false (by omega)
      have k5 : (s.size : Int) < (s.size : Int) + 1 := by omega
      have HN := Lib.hid (lsR_some _ all hall); have HO := Lib.hid hown
      clear hall hown hb
      go_wp2
      go_ret2
      unfold LsPost
      rw [HN.out]
      exact ⟨_, rfl, HO.out, HB.out⟩
end Go.Proofs.YthnniiakmjonjaaDoor
