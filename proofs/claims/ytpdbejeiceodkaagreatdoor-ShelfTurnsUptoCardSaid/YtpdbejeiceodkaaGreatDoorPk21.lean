/- Lst, ShF, ShG: texts of the seat, one behind the other (a claim holds at most sixty). Conditions: each theorem names its own. -/
import Derived.Test.YtpdbejeiceodkaaGreatDoorPk20
import Derived.Test.YtpdbejeiceodkaaGreatDoorPk16
import Derived.Test.YtpdbejeiceodkaaGreatDoorPa19
namespace Go.Proofs.YtpdbejeiceodkaaGreatDoor
open Go.RowKit
set_option linter.unusedSimpArgs false
set_option linter.unusedVariables false
set_option maxRecDepth 1000000
/-- What List answers. -/
def lsR (L : List UInt8) : List (List UInt8) × Nat := match lstP L with
  | some xs => (xs, 0)
  | none => ([], 14)
theorem lsR_none (L : List UInt8) (h : lstR [] L = none) : lsR L = ([], 14) := by unfold lsR lstP; rw [h]; rfl
theorem lsR_some (L : List UInt8) (all : List (List UInt8)) (h : lstR [] L = some all) : lsR L = (fulls all, 0) := by unfold lsR lstP; rw [h]; rfl
/-- What stands between two places. -/
def btw (L : List UInt8) (fr a : Nat) : List UInt8 := (L.drop fr).take (a - fr)
theorem btw_len (L : List UInt8) (fr a : Nat) : (btw L fr a).length ≤ L.length := by unfold btw; rw [List.length_take, List.length_drop]; omega
def LstR (L : List UInt8) (fr a : Nat) (done : List (List UInt8)) : Prop := fr ≤ a ∧ a ≤ L.length ∧ done.length ≤ fr ∧ (lstR (btw L fr a) (L.drop a)).map (done ++ ·) = lstR [] L ∧ ∀ x ∈ done, x.length ≤ L.length
theorem LstR.start (L : List UInt8) : LstR L 0 0 [] := by
  refine ⟨Nat.le_refl _, Nat.zero_le _, Nat.le_refl _, ?_, fun x hx => absurd hx (by simp)⟩
  rw [List.drop_zero, show btw L 0 0 = [] from rfl]
  cases lstR [] L <;> simp
theorem drop_at_c (L : List UInt8) (a : Nat) (c : UInt8) (h : L[a]? = some c) : L.drop a = c :: L.drop (a + 1) := by
  obtain ⟨hl, he⟩ := List.getElem?_eq_some_iff.1 h
  rw [List.drop_eq_getElem_cons hl, he]
theorem btw_add (L : List UInt8) (fr a n : Nat) (h : fr ≤ a) : btw L fr (a + n) = btw L fr a ++ (L.drop a).take n := by
  unfold btw
  rw [show a + n - fr = (a - fr) + n from by omega, List.take_add, List.drop_drop, show fr + (a - fr) = a from by omega]
theorem btw_end (L : List UInt8) (fr : Nat) : btw L fr L.length = L.drop fr := by
  unfold btw
  rw [List.take_of_length_le (by rw [List.length_drop]; omega)]
theorem LstR.fin {L : List UInt8} {fr : Nat} {done : List (List UInt8)} (h : LstR L fr L.length done) : lstR [] L = some (done ++ [L.drop fr]) := by
  have := h.2.2.2.1
  rw [List.drop_of_length_le (Nat.le_refl _), lstR_nil, btw_end] at this
  exact this.symm
theorem LstR.other {L : List UInt8} {fr a : Nat} {done : List (List UInt8)} {c : UInt8} (h : LstR L fr a done) (hc : L[a]? = some c) (h1 : c ≠ 34) (h2 : c ≠ 44) : LstR L fr (a + 1) done := by
  have hl : a < L.length := (List.getElem?_eq_some_iff.1 hc).1
  refine ⟨Nat.le_succ_of_le h.1, hl, h.2.2.1, ?_, h.2.2.2.2⟩
  rw [← h.2.2.2.1, btw_add L fr a 1 h.1, drop_at_c L a c hc, lstR_other _ _ c h1 h2]
  rfl
theorem LstR.quote {L : List UInt8} {fr a n : Nat} {done : List (List UInt8)} {x : List UInt8} (h : LstR L fr a done) (hc : L[a]? = some 34) (hu : unq (L.drop a) = some (x, n)) : LstR L fr (a + n) done ∧ 0 < n := by
  have hl : a < L.length := (List.getElem?_eq_some_iff.1 hc).1
  have hn := unq_used _ _ _ hu
  rw [List.length_drop] at hn
  refine ⟨⟨Nat.le_trans h.1 (Nat.le_add_right _ _), by omega, h.2.2.1, ?_, h.2.2.2.2⟩, hn.1⟩
  rw [← h.2.2.2.1, btw_add L fr a n h.1, ← List.drop_drop]
  rw [drop_at_c L a 34 hc] at hu ⊢
  rw [lstR_quote _ _ x n hu]
theorem LstR.bad {L : List UInt8} {fr a : Nat} {done : List (List UInt8)} (h : LstR L fr a done) (hc : L[a]? = some 34) (hu : unq (L.drop a) = none) : lstR [] L = none := by
  have := h.2.2.2.1
  rw [drop_at_c L a 34 hc] at hu this
  rw [lstR_bad _ _ hu] at this
  exact this.symm
theorem LstR.comma {L : List UInt8} {fr a : Nat} {done : List (List UInt8)} (h : LstR L fr a done) (hc : L[a]? = some 44) : LstR L (a + 1) (a + 1) (done ++ [btw L fr a]) := by
  have hl : a < L.length := (List.getElem?_eq_some_iff.1 hc).1
  refine ⟨Nat.le_refl _, hl, by rw [List.length_append, List.length_singleton]; have := h.1; have := h.2.2.1; omega, ?_, fun x hx => ?_⟩
  rotate_left
  · rcases List.mem_append.1 hx with hx | hx
    · exact h.2.2.2.2 x hx
    · rw [List.mem_singleton] at hx
      subst hx
      exact btw_len _ _ _
  rw [← h.2.2.2.1, drop_at_c L a 44 hc, lstR_comma, show btw L (a + 1) (a + 1) = [] from by unfold btw; rw [Nat.sub_self, List.take_zero]]
  cases lstR [] (L.drop (a + 1)) <;> simp
theorem btw_ext (s : ByteArray) (fr a : Nat) : s.extract fr a = ⟨(btw s.data.toList fr a).toArray⟩ := ext_mk s fr a
theorem fulls_take (l : List (List UInt8)) (i : Nat) (x : List UInt8) (h : l[i]? = some x) : fulls (l.take (i + 1)) = fulls (l.take i) ++ if trimL x = [] then [] else [trimL x] := by
  rw [List.take_add_one, h, Option.toList_some, fulls_snoc]
theorem infoStr7 : (Tryz.prog.info? 9).map (fun i => (i.zero, i.size, i.bytes)) = some (some (.string ByteArray.empty), 1, 16) := by kernel_rfl
theorem info_partsS7 (h : (Tryz.prog.info? 9).map (fun i => (i.zero, i.size, i.bytes)) = some (some (.string ByteArray.empty), 1, 16)) : ∃ i, Tryz.prog.info? 9 = some i ∧ i.zero = some (.string ByteArray.empty) ∧ i.size = 1 ∧ i.bytes = 16 := by
  obtain ⟨i, hi, he⟩ := Option.map_eq_some_iff.1 h
  simp only [Prod.mk.injEq] at he
  exact ⟨i, hi, he.1, he.2.1, he.2.2⟩
theorem str_bd7 (n m : Nat) (h : n ≤ m) (hm : m ≤ 1073741825) : n + 1 ≤ maxLen ∧ (n + 1) * 16 ≤ 140737488355328 := by unfold maxLen; omega
theorem fulls_tlen (l : List (List UInt8)) (i : Nat) : (fulls (l.take i)).length ≤ i := Nat.le_trans (fulls_len _) (by rw [List.length_take]; exact Nat.min_le_left _ _)
theorem sm31 (n m : Nat) (h : n ≤ m) (h2 : m ≤ 1073741825) : n ≤ 2199023255552 := by omega
theorem w64le7 (p : Nat) (h : p ≤ 4398046511104) : wrap64 (p : Int) = (p : Int) ∧ IntKind.i64.wrap (p : Int) = (p : Int) := by
  constructor
  · unfold wrap64; omega
  · rw [IntKind.wrap_i64]; omega
def LsPost (L : List UInt8) (w : World) (e : Ending) (w' : World) : Prop := ∃ v, e = .returned (.tuple #[v, .int .i64 ((lsR L).2 : Nat)]) ∧ w'.ownsRow w.heap.size 9 1 v (lsR L).1.length (strV (lsR L).1) ∧ Below w.heap.size w w'
set_option maxHeartbeats 16000000 in
theorem olist_any (s : ByteArray) (w : World) (hs : s.size ≤ 1073741824) : Calls Tryz.prog 106 #[.string s] w (LsPost s.data.toList w) := by
  have hs2 : s.size ≤ 1099511627776 := Nat.le_trans hs (by decide)
  obtain ⟨i0, hi0, hz0, hz1, hz2⟩ := info_partsS7 infoStr7
  go_enter Tryz.func106, Tryz.ntmps106
  go_wp2
  go_step3
  go_wp2
  go_step3
  go_wp2
  go_loopw [6, 5, 4] (fun av fv ov wr => ∃ (a fr : Nat) (done : List (List UInt8)), av = .int .i64 a ∧ fv = .int .i64 fr ∧ LstR s.data.toList fr a done ∧ wr.ownsRow w.heap.size 9 1 ov done.length (strV done) ∧ Below w.heap.size w wr) (fun av _ _ _ => s.size - (intOf av).toNat)
  case atStart => exact ⟨0, 0, [], rfl, rfl, LstR.start _, World.ownsRow_nil _ _ _ _, Below.refl _ _⟩
  case round =>
    obtain ⟨a, fr, done, rfl, rfl, hR, hown, hb⟩ := hrel
    have has : a ≤ s.size := by have := hR.2.1; rw [size_list] at this; exact this
    have hdn : done.length ≤ s.size := Nat.le_trans hR.2.2.1 (Nat.le_trans hR.1 has)
    have hbd := str_bd7 done.length s.size hdn (Nat.le_trans hs (by decide))
    have f0 : (0 : Int) ≤ (fr : Int) := Int.natCast_nonneg _
    have f1 : (fr : Int) ≤ (a : Int) := by have := hR.1; omega
    have f2 : (a : Int) ≤ (s.size : Int) := by omega
    have f3 : (fr : Int) ≤ (s.size : Int) := by omega
    have HR := Lib.hid hR; have HO := Lib.hid hown; have HB := Lib.hid hb
    have hbz := hb.size
    by_cases hlt : a < s.size
    · obtain ⟨c, hc⟩ : ∃ c, s[a]'hlt = c := ⟨_, rfl⟩
      have hget := list_get s a hlt
      rw [hc] at hget
      have k0 : (0 : Int) ≤ (a : Int) := Int.natCast_nonneg _
      have k1 : (a : Int) < (s.size : Int) := by omega
      have k2 : ((a : Int) == (s.size : Int)) = false := beq_false_of_ne (by omega)
      have hwi := wrap64_small a (Nat.le_trans has (Nat.le_trans hs (by decide)))
      have HW := Lib.hid hwi
      clear hwi hR hown hb
      by_cases h34 : c = 34
      · have b34 : ((c.toNat : Int) == 34) = true := by rw [h34]; rfl
        have hg34 : s.data.toList[a]? = some 34 := by rw [hget, h34]
        have hx3 := ext_back s a
        have hu := ounq_any ⟨(s.data.toList.drop a).toArray⟩ wr (by rw [size_mk, List.length_drop, size_list]; omega)
        rw [show (⟨(s.data.toList.drop a).toArray⟩ : ByteArray).data.toList = s.data.toList.drop a from rfl] at hu
        cases hq : unq (s.data.toList.drop a) with
        | none =>
          rw [hq, show unqRet none = .tuple #[.string ⟨#[]⟩, .int .i64 0, .int .i64 13] from rfl] at hu
          have HU := Lib.hid hu
          have HN := Lib.hid (lsR_none _ (HR.out.bad hg34 hq))
          clear hu hq hg34 hget h34
          go_wp2_with fail
          refine (HU.out).mono ?_
          rintro e w1 ⟨rfl, hb1⟩
          have HB1 := Lib.hid (HB.out.trans (hb1.mono HB.out.size))
          clear hb1
          go_wp2
          rw [Exit.noGoto_ret]
          go_ret2
          unfold LsPost
          rw [HN.out]
          exact ⟨_, rfl, World.ownsRow_nil _ _ _ _, HB1.out⟩
        | some xn =>
          obtain ⟨x, n⟩ := xn
          rw [hq, show unqRet (some (x, n)) = .tuple #[.string ⟨x.toArray⟩, .int .i64 (n : Int), .int .i64 0] from rfl] at hu
          have HU := Lib.hid hu
          have hst := HR.out.quote hg34 hq
          have hn1 : a + n ≤ s.size := by have := hst.1.2.1; rw [size_list] at this; exact this
          obtain ⟨a1, ha1⟩ : ∃ a1, a + n = a1 := ⟨_, rfl⟩
          have fn : (a : Int) + (n : Int) = (a1 : Int) := by omega
          have hnp := hst.2
          have hm : s.size - a1 < s.size - a := by omega
          rw [ha1] at hst
          have hw1 : wrap64 (a1 : Int) = (a1 : Int) ∧ IntKind.i64.wrap (a1 : Int) = (a1 : Int) := w64le7 a1 (by rw [← ha1]; exact Nat.le_trans hn1 (Nat.le_trans hs (by decide)))
          obtain ⟨hwa, hwb⟩ := hw1
          have HST := Lib.hid (And.intro hst.1 hm)
          clear hu hq hg34 hget h34 hst hn1 hnp ha1 hm
          go_wp2_with fail
          refine (HU.out).mono ?_
          rintro e w1 ⟨rfl, hb1⟩
          have HB1 := Lib.hid (HB.out.trans (hb1.mono HB.out.size))
          have HO1 := Lib.hid (own_later HO.out hb1)
          clear hb1
          go_wp2
          go_roundw
          case rel => exact ⟨a1, fr, done, rfl, rfl, HST.out.1, HO1.out, HB1.out⟩
          case measure => have := HST.out.2; simp [intOf]; omega
      · have b34 : ((c.toNat : Int) == 34) = false := (ne_u8o c 34 (by decide) h34).1
        by_cases h44 : c = 44
        · have b44 : ((c.toNat : Int) == 44) = true := by rw [h44]; rfl
          have HST := Lib.hid (HR.out.comma (by rw [hget, h44]))
          have hx := btw_ext s fr a
          obtain ⟨cur, hcur⟩ : ∃ x, btw s.data.toList fr a = x := ⟨_, rfl⟩
          rw [hcur] at hx HST
          clear h34 h44 hget hcur
          go_wp2_with (at_builtin; refine wpList_append_own _ rfl (.tmp 43) (.tmp 48) 34 rfl w.heap.size 9 i0 (.string ByteArray.empty) 1 16 Tryz.underlying34 hi0 hz0 hz1 hz2 rfl (by decide) _ _ _ rfl (HO.out.alloc _) ⟨wr.heap.size, 0, none⟩ 1 1 [.string ⟨cur.toArray⟩] rfl rfl (cells_new wr 9 _) (by simp [Value.oneCell']) hbd.1 hbd.2 ?dd ?_)
          case dd => simp; omega
          intro v1 w4 hI1 hg1 _
          have hb4 : Below w.heap.size w w4 := (HB.out.alloc hbz _).grown hg1 (by simp; omega) (fun k hk => (HO.out.lt k hk).1)
          have HI1 := Lib.hid hI1; have HB4 := Lib.hid hb4
          clear hI1 hg1 hb4
          go_wp2
          have hwi := HW.out
          go_roundw
          case rel => (try rw [hwi]); clear hwi; exact ⟨a + 1, a + 1, done ++ [cur], by go_num, by go_num, HST.out, by rw [strV_snoc, List.length_append]; exact HI1.out, HB4.out⟩
          case measure => (try rw [hwi]); clear hwi; simp [intOf]; omega
        · have b44 : ((c.toNat : Int) == 44) = false := (ne_u8o c 44 (by decide) h44).1
          have HST := Lib.hid (HR.out.other hget h34 h44)
          clear h34 h44 hget
          go_wp2
          have hwi := HW.out
          go_roundw
          case rel => (try rw [hwi]); clear hwi; exact ⟨a + 1, fr, done, by go_num, rfl, HST.out, HO.out, HB.out⟩
          case measure => (try rw [hwi]); clear hwi; simp [intOf]; omega
    · obtain rfl : s.size = a := by omega
      have hfin := LstR.fin (L := s.data.toList) (fr := fr) (done := done) (by rw [size_list]; exact hR)
      have hel : ∀ x ∈ done ++ [s.data.toList.drop fr], x.length ≤ 1099511627776 := fun x hx => by
        rcases List.mem_append.1 hx with hx | hx
        · have := hR.2.2.2.2 x hx; rw [size_list] at this; omega
        · rw [List.mem_singleton] at hx; subst hx; rw [List.length_drop, size_list]; omega
      have hx := ext_back s fr
      obtain ⟨last, hlast⟩ : ∃ x, s.data.toList.drop fr = x := ⟨_, rfl⟩
      rw [hlast] at hx hfin hel
      have k2 : ((s.size : Int) == (s.size : Int)) = true := by simp
      obtain ⟨all, hall⟩ : ∃ x, done ++ [last] = x := ⟨_, rfl⟩
      have hal : all.length = done.length + 1 := by rw [← hall, List.length_append, List.length_singleton]
      have hN1 : all.length ≤ 1073741825 := by omega
      rw [hall] at hfin hel
      have HN := Lib.hid (lsR_some _ all hfin); have HEL := Lib.hid hel; have HAL := Lib.hid (And.intro hall hal)
      clear hR hown hb hfin hel hlast hall hal
      go_wp2_with (at_builtin; refine wpList_append_own _ rfl (.tmp 53) (.tmp 57) 34 rfl w.heap.size 9 i0 (.string ByteArray.empty) 1 16 Tryz.underlying34 hi0 hz0 hz1 hz2 rfl (by decide) _ _ _ rfl (HO.out.alloc _) ⟨wr.heap.size, 0, none⟩ 1 1 [.string ⟨last.toArray⟩] rfl rfl (cells_new wr 9 _) (by simp [Value.oneCell']) hbd.1 hbd.2 ?dd ?_)
      case dd => simp; omega
      intro v1 w4 hI1 hg1 _
      have hb4 : Below w.heap.size w w4 := (HB.out.alloc hbz _).grown hg1 (by simp; omega) (fun k hk => (HO.out.lt k hk).1)
      have hI2 : w4.ownsRow w.heap.size 9 1 v1 all.length (strV all) := by rw [HAL.out.2, ← HAL.out.1, strV_snoc]; exact hI1
      obtain ⟨ao, cap, rfl, hat⟩ := txtsIn_own hI2
      have HAT := Lib.hid hat; have HB4 := Lib.hid hb4
      clear hI1 hg1 hb4 hI2 hat
      go_wp2
      go_loopw [60, 10] (fun iv ov wr => ∃ i : Nat, iv = .int .i64 i ∧ i ≤ all.length ∧ wr.ownsRow w4.heap.size 9 1 ov (fulls (all.take i)).length (strV (fulls (all.take i))) ∧ Below w4.heap.size w4 wr) (fun iv _ _ => all.length - (intOf iv).toNat)
      case atStart => exact ⟨0, rfl, Nat.zero_le _, World.ownsRow_nil _ _ _ _, Below.refl _ _⟩
      case round =>
        obtain ⟨i, rfl, hi, hown, hb⟩ := hrel
        by_cases hil : i < all.length
        · obtain ⟨x, hxi⟩ : ∃ x, all[i]? = some x := ⟨_, List.getElem?_eq_getElem hil⟩
          obtain ⟨g, o, rfl, _, c0⟩ := HAT.out.below hb i x hxi
          have hxl := HEL.out x (List.mem_of_getElem? hxi)
          have i0' : (0 : Int) ≤ (i : Int) := Int.natCast_nonneg _
          have i1 : (i : Int) < (all.length : Int) := by omega
          have hwi := wrap64_small i (sm31 i _ hi hN1)
          have hft := fulls_take all i x hxi
          have hfl : (fulls (all.take i)).length ≤ i := fulls_tlen all i
          have hbd2 := str_bd7 (fulls (all.take i)).length all.length (Nat.le_trans hfl hi) hN1
          have htr := otrim_any ⟨x.toArray⟩ wr (by rw [size_mk]; exact hxl)
          rw [show (⟨x.toArray⟩ : ByteArray).data.toList = x from rfl] at htr
          obtain ⟨t, ht⟩ : ∃ t, trimL x = t := ⟨_, rfl⟩
          rw [ht] at htr hft
          have HT := Lib.hid htr; have HO2 := Lib.hid hown; have HBX := Lib.hid hb; have HW2 := Lib.hid hwi
          clear htr hown hb hwi hxl hxi ht hfl
          by_cases hte : t = []
          · rw [if_pos hte, List.append_nil] at hft
            have HFT := Lib.hid hft
            have hbe : (t == []) = true := by rw [hte]; rfl
            subst hte
            clear hft
            go_wp2_with fail
            refine (HT.out).mono ?_
            rintro e w5 ⟨rfl, hb5⟩
            have HB5 := Lib.hid (HBX.out.trans (hb5.mono HBX.out.size))
            have HO5 := Lib.hid (own_later HO2.out hb5)
            clear hb5 c0
            go_wp2
            have hwi := HW2.out
            go_roundw
            case rel => (try rw [hwi]); clear hwi; exact ⟨i + 1, by go_num, hil, by rw [HFT.out]; exact HO5.out, HB5.out⟩
            case measure => (try rw [hwi]); clear hwi; simp [intOf]; omega
          · rw [if_neg hte] at hft
            have HFT := Lib.hid hft
            have hbe : (t == []) = false := beq_false_of_ne hte
            have hbe2 : t.isEmpty = false := by cases t with | nil => exact absurd rfl hte | cons => rfl
            clear hft
            go_wp2_with fail
            refine (HT.out).mono ?_
            rintro e w5 ⟨rfl, hb5⟩
            have hb5' := HBX.out.trans (hb5.mono HBX.out.size)
            have hbz5 : w4.heap.size ≤ w5.heap.size := hb5'.size
            have HB5 := Lib.hid hb5'
            have HO5 := Lib.hid (own_later HO2.out hb5)
            clear hb5 c0 hb5'
            go_wp2_with (at_builtin; refine wpList_append_own _ rfl (.tmp 68) (.tmp 70) 34 rfl w4.heap.size 9 i0 (.string ByteArray.empty) 1 16 Tryz.underlying34 hi0 hz0 hz1 hz2 rfl (by decide) _ _ _ rfl (HO5.out.alloc _) ⟨w5.heap.size, 0, none⟩ 1 1 [.string ⟨t.toArray⟩] rfl rfl (cells_new w5 9 _) (by simp [Value.oneCell']) hbd2.1 hbd2.2 ?dd ?_)
            case dd => simp; omega
            intro v2 w6 hI6 hg6 _
            have hb6 : Below w4.heap.size w4 w6 := (HB5.out.alloc hbz5 _).grown hg6 (alloc_le hbz5 _) (fun k hk => (HO5.out.lt k hk).1)
            have HI6 := Lib.hid hI6; have HB6 := Lib.hid hb6
            clear hI6 hg6 hb6
            go_wp2
            have hwi := HW2.out
            go_roundw
            case rel => (try rw [hwi]); clear hwi; exact ⟨i + 1, by go_num, hil, by rw [HFT.out, strV_snoc, List.length_append]; exact HI6.out, HB6.out⟩
            case measure => (try rw [hwi]); clear hwi; simp [intOf]; omega
        · obtain rfl : all.length = i := by omega
          have hd : decide (all.length < all.length) = false := decide_eq_false (Nat.lt_irrefl _)
          rw [List.take_length] at hown
          have HO2 := Lib.hid (own_base hown HB4.out.size)
          have HBX := Lib.hid (HB4.out.trans (hb.mono HB4.out.size))
          clear hown hb
          go_wp2
          rw [Exit.noGoto_ret]
          go_ret2
          unfold LsPost
          rw [HN.out]
          exact ⟨_, rfl, HO2.out, HBX.out⟩
end Go.Proofs.YtpdbejeiceodkaaGreatDoor
namespace Go.Proofs.YtpdbejeiceodkaaGreatDoor
open Go.RowKit
set_option linter.unusedSimpArgs false
set_option linter.unusedVariables false
set_option maxRecDepth 1000000
theorem entA (sv : Value) (s : Nat) (hsv : sv = .pointer (some ⟨s, 0, none⟩)) (w : World) : Calls Tryz.prog 22 #[sv, .string ⟨#[47, 97]⟩] w fun e w' => e = .returned (.tuple #[.slice none 0 0, .bool false]) ∧ w' = w := by
  subst hsv
  go_enter Tryz.func22, Tryz.ntmps22
  go_wp2_with fail
  refine (sufA w).mono ?_
  rintro e w1 ⟨rfl, hw1⟩
  subst hw1
  go_wp2
  go_ret2
  exact ⟨rfl, by first | rfl | trivial⟩
theorem lsA : lsR [] = ([], 0) := by kernel_rfl
theorem listA (w : World) : Calls Tryz.prog 106 #[.string ⟨#[]⟩] w fun e w' => ∃ ao cap, e = .returned (.tuple #[.slice ao 0 cap, .int .i64 0]) ∧ Below w.heap.size w w' := by
  refine (olist_any ⟨#[]⟩ w (by decide)).mono fun e w' h => ?_
  unfold LsPost at h
  rw [show (⟨#[]⟩ : ByteArray).data.toList = [] from rfl, lsA] at h
  obtain ⟨v, rfl, hown, hb⟩ := h
  obtain ⟨ao, cap, rfl⟩ : ∃ ao cap, v = .slice ao 0 cap := by
    rcases hown.2 with ⟨rfl, h0⟩ | ⟨g, cap, cur, rfl, _⟩
    · exact ⟨none, 0, rfl⟩
    · exact ⟨_, cap, rfl⟩
  exact ⟨ao, cap, rfl, hb⟩
theorem rangesA (w : World) : Calls Tryz.prog 69 #[.string ⟨#[]⟩] w fun e w' => e = .returned (.tuple #[.slice none 0 0, .int .i64 0]) ∧ Below w.heap.size w w' := by
  go_enter Tryz.func69, Tryz.ntmps69
  go_wp2_with fail
  refine (listA w).mono ?_
  rintro e w1 ⟨ao, cap, rfl, hb1⟩
  have HB := Lib.hid hb1
  clear hb1
  go_wp2
  refine wp_loop_rounds 1 ?_
  rw [rounds_succ]
  go_wp2
  go_ret2
  exact ⟨rfl, HB.out⟩
theorem weightsA (w : World) : Calls Tryz.prog 70 #[.string ⟨#[]⟩] w fun e w' => e = .returned (.tuple #[.slice none 0 0, .int .i64 0]) ∧ Below w.heap.size w w' := by
  go_enter Tryz.func70, Tryz.ntmps70
  go_wp2_with fail
  refine (listA w).mono ?_
  rintro e w1 ⟨ao, cap, rfl, hb1⟩
  have HB := Lib.hid hb1
  clear hb1
  go_wp2
  refine wp_loop_rounds 1 ?_
  rw [rounds_succ]
  go_wp2
  go_ret2
  exact ⟨rfl, HB.out⟩
abbrev wishA : Array Value := #[.string ⟨#[]⟩, .string ⟨#[]⟩, .string ⟨#[]⟩, .bool false, .bool false, .bool false]
abbrev swA : Array Value := #[.slice none 0 0, .slice none 0 0, .slice none 0 0, .bool false, .bool false, .bool false]
theorem codA (w : World) : Calls Tryz.prog 73 #[.agg swA, .string ⟨#[]⟩] w fun e w' => e = .returned (.int .i64 1000) ∧ Below w.heap.size w w' := by
  have hb := (Below.refl _ w).alloc (Nat.le_refl _) (.cells swA 89)
  have HB := Lib.hid hb
  clear hb
  go_enter Tryz.func73, Tryz.ntmps73
  go_wp2
  go_ret
  exact ⟨rfl, HB.out⟩
theorem lngA (w : World) : Calls Tryz.prog 74 #[.agg swA, .string ⟨#[]⟩] w fun e w' => e = .returned (.int .i64 1000) ∧ Below w.heap.size w w' := by
  have hb := (Below.refl _ w).alloc (Nat.le_refl _) (.cells swA 89)
  have HB := Lib.hid hb
  clear hb
  go_enter Tryz.func74, Tryz.ntmps74
  go_wp2
  go_ret
  exact ⟨rfl, HB.out⟩
theorem mulA : IntKind.i64.wrap (1000 * 1000) = 1000000 ∧ IntKind.i64.wrap (1000000 * 1000) = 1000000000 := by constructor <;> decide
set_option maxHeartbeats 4000000 in
theorem likA (w : World) : Calls Tryz.prog 41 #[.agg swA, .agg flA] w fun e w' => e = .returned (.int .i64 1000000000) ∧ Below w.heap.size w w' := by
  obtain ⟨W2, hW2⟩ : ∃ W2, (w.alloc (.cells swA 89)).alloc (.cells flA 46) = W2 := ⟨_, rfl⟩
  have hb2 : Below w.heap.size w W2 := by rw [← hW2]; exact ((Below.refl _ w).alloc (Nat.le_refl _) _).alloc (by simp) _
  have hA : BlkIs W2 w.heap.size swA 89 := by rw [← hW2]; exact (blkIs_new w _ _).alloc _
  have hF : BlkIs W2 (w.heap.size + 1) flA 46 := by rw [← hW2]; have := blkIs_new (w.alloc (.cells swA 89)) flA 46; rwa [World.size_alloc] at this
  have HW2 := Lib.hid hW2; have HB2 := Lib.hid (And.intro hb2 (And.intro hA hF)); have HMU := Lib.hid mulA
  clear hW2 hb2 hA hF
  go_enter Tryz.func41, Tryz.ntmps41
  go_upto_region 2 with fail
  rw [HW2.out]
  have a3 : W2.cell? ⟨w.heap.size, 3, none⟩ = some (.bool false) := HB2.out.2.1.cell 3 _ rfl
  go_upto_region 5 with fail
  clear a3
  refine wp_region_textH (fun W => BlkIs W w.heap.size swA 89 ∧ BlkIs W (w.heap.size + 1) flA 46) [(0, true), (1, true), (2, true), (3, true), (6, true), (7, true), (8, true), (4, false), (5, true), (9, false), (10, true), (11, true)] (by kernel_rfl) (by kernel_rfl) (by kernel_rfl) (by kernel_rfl) HB2.out.2 ?_
  iterate 7 (refine wpTxH_take rfl (by kernel_rfl) (v := ?_) ?_ ?_; rotate_left; · (intro W hS; obtain ⟨s0, s1⟩ := hS; have a0 := s0.cell 0 _ rfl; have a1 := s0.cell 1 _ rfl; have a2 := s0.cell 2 _ rfl; have a3 := s0.cell 3 _ rfl; have a4 := s0.cell 4 _ rfl; have a5 := s0.cell 5 _ rfl; have b2 := s1.cell 2 _ rfl; have b3 := s1.cell 3 _ rfl; clear s0 s1; go_simp; with_reducible rfl))
  refine wpTxH_step rfl (fun K hK => ?_)
  go_simp
  refine (codA _).mono ?_
  rintro e w3 ⟨rfl, hb3⟩
  have hb23 : Below w.heap.size w w3 := HB2.out.1.trans ((((Below.refl _ W2).drew).trans hb3).mono HB2.out.1.size)
  have HS3 := Lib.hid (And.intro (BlkIs.later (show BlkIs W2.drew _ _ _ from HB2.out.2.1) hb3) (BlkIs.later (show BlkIs W2.drew _ _ _ from HB2.out.2.2) hb3))
  have HB3 := Lib.hid hb23
  refine hK _ _ HS3.out ?_
  clear hK K hb3 hb23
  refine wpTxH_take rfl (by kernel_rfl) (v := ?_) ?_ ?_; rotate_left; · (intro W hS; obtain ⟨u1, u2⟩ := HMU.out; go_simp; with_reducible rfl)
  refine wpTxH_step rfl (fun K hK => ?_)
  go_simp
  refine (lngA _).mono ?_
  rintro e w4 ⟨rfl, hb4⟩
  have HB4 := Lib.hid (HB3.out.trans (hb4.mono HB3.out.size))
  refine hK _ _ ⟨HS3.out.1.later hb4, HS3.out.2.later hb4⟩ ?_
  clear hK K hb4
  iterate 2 (refine wpTxH_take rfl (by kernel_rfl) (v := ?_) ?_ ?_; rotate_left; · (intro W hS; obtain ⟨u1, u2⟩ := HMU.out; clear hS; go_simp; with_reducible rfl))
  refine wpTxH_nil ?_
  go_simp
  go_wp2
  go_ret
  exact ⟨rfl, HB4.out⟩
end Go.Proofs.YtpdbejeiceodkaaGreatDoor
namespace Go.Proofs.YtpdbejeiceodkaaGreatDoor
open Go.RowKit
set_option linter.unusedSimpArgs false
set_option linter.unusedVariables false
set_option maxRecDepth 1000000
set_option maxHeartbeats 4000000 in
theorem readA (w : World) : Calls Tryz.prog 40 #[.agg wishA] w fun e w' => e = .returned (.agg swA) ∧ Below w.heap.size w w' := by
  obtain ⟨W3, hW3⟩ : ∃ W3, ((w.alloc (.cells wishA 27)).alloc (.cells swA 89)).alloc (.cells swA 89) = W3 := ⟨_, rfl⟩
  have hb3 : Below w.heap.size w W3 := by rw [← hW3]; exact (((Below.refl _ w).alloc (Nat.le_refl _) _).alloc (by simp) _).alloc (by simp; omega) _
  have hA : BlkIs W3 w.heap.size wishA 27 := by rw [← hW3]; exact ((blkIs_new w _ _).alloc _).alloc _
  have hB : BlkIs W3 (w.heap.size + 1) swA 89 := by rw [← hW3]; have := blkIs_new (w.alloc (.cells wishA 27)) swA 89; rw [World.size_alloc] at this; exact this.alloc _
  have hC : BlkIs W3 (w.heap.size + 1 + 1) swA 89 := by rw [← hW3]; have := blkIs_new ((w.alloc (.cells wishA 27)).alloc (.cells swA 89)) swA 89; rw [World.size_alloc, World.size_alloc] at this; exact this
  have HW3 := Lib.hid hW3; have HB3 := Lib.hid (And.intro hb3 (And.intro hA (And.intro hB hC)))
  clear hW3 hb3 hA hB hC
  go_enter Tryz.func40, Tryz.ntmps40
  go_upto_region 2 with fail
  rw [HW3.out]
  have a0 : W3.cell? ⟨w.heap.size, 0, none⟩ = some (.string ⟨#[]⟩) := HB3.out.2.1.cell 0 _ rfl
  go_wp2_with fail
  refine (rangesA W3).mono ?_
  rintro e w4 ⟨rfl, hb4⟩
  have HB4 := Lib.hid (And.intro (HB3.out.1.trans (hb4.mono HB3.out.1.size)) (And.intro (HB3.out.2.1.later hb4) (And.intro (HB3.out.2.2.1.later hb4) (HB3.out.2.2.2.later hb4))))
  clear hb4 a0
  have a1 : w4.cell? ⟨w.heap.size, 1, none⟩ = some (.string ⟨#[]⟩) := HB4.out.2.1.cell 1 _ rfl
  have a3 : w4.cell? ⟨w.heap.size, 3, none⟩ = some (.bool false) := HB4.out.2.1.cell 3 _ rfl
  go_wp2_with fail
  refine (weightsA w4).mono ?_
  rintro e w5 ⟨rfl, hb5⟩
  have HB5 := Lib.hid (And.intro (HB4.out.1.trans (hb5.mono HB4.out.1.size)) (And.intro (HB4.out.2.1.later hb5) (And.intro (HB4.out.2.2.1.later hb5) (HB4.out.2.2.2.later hb5))))
  clear hb5 a1 a3
  have a2 : w5.cell? ⟨w.heap.size, 2, none⟩ = some (.string ⟨#[]⟩) := HB5.out.2.1.cell 2 _ rfl
  have a4 : w5.cell? ⟨w.heap.size, 4, none⟩ = some (.bool false) := HB5.out.2.1.cell 4 _ rfl
  go_wp2_with fail
  refine (weightsA w5).mono ?_
  rintro e w6 ⟨rfl, hb6⟩
  have HB6 := Lib.hid (And.intro (HB5.out.1.trans (hb6.mono HB5.out.1.size)) (And.intro (HB5.out.2.1.later hb6) (And.intro (HB5.out.2.2.1.later hb6) (HB5.out.2.2.2.later hb6))))
  clear hb6 a2 a4
  have a5 : w6.cell? ⟨w.heap.size, 5, none⟩ = some (.bool false) := HB6.out.2.1.cell 5 _ rfl
  have x0 : w6.cell? ⟨w.heap.size + 1 + 1, 0, none⟩ = some (.slice none 0 0) := HB6.out.2.2.2.cell 0 _ rfl
  have x1 : w6.cell? ⟨w.heap.size + 1 + 1, 1, none⟩ = some (.slice none 0 0) := HB6.out.2.2.2.cell 1 _ rfl
  have x2 : w6.cell? ⟨w.heap.size + 1 + 1, 2, none⟩ = some (.slice none 0 0) := HB6.out.2.2.2.cell 2 _ rfl
  have x3 : w6.cell? ⟨w.heap.size + 1 + 1, 3, none⟩ = some (.bool false) := HB6.out.2.2.2.cell 3 _ rfl
  have x4 : w6.cell? ⟨w.heap.size + 1 + 1, 4, none⟩ = some (.bool false) := HB6.out.2.2.2.cell 4 _ rfl
  have x5 : w6.cell? ⟨w.heap.size + 1 + 1, 5, none⟩ = some (.bool false) := HB6.out.2.2.2.cell 5 _ rfl
  have y0 : w6.cell? ⟨w.heap.size + 1, 0, none⟩ = some (.slice none 0 0) := HB6.out.2.2.1.cell 0 _ rfl
  have y1 : w6.cell? ⟨w.heap.size + 1, 1, none⟩ = some (.slice none 0 0) := HB6.out.2.2.1.cell 1 _ rfl
  have y2 : w6.cell? ⟨w.heap.size + 1, 2, none⟩ = some (.slice none 0 0) := HB6.out.2.2.1.cell 2 _ rfl
  have y3 : w6.cell? ⟨w.heap.size + 1, 3, none⟩ = some (.bool false) := HB6.out.2.2.1.cell 3 _ rfl
  have y4 : w6.cell? ⟨w.heap.size + 1, 4, none⟩ = some (.bool false) := HB6.out.2.2.1.cell 4 _ rfl
  have y5 : w6.cell? ⟨w.heap.size + 1, 5, none⟩ = some (.bool false) := HB6.out.2.2.1.cell 5 _ rfl
  have f0 := HB6.out.2.2.1.free 0
  have f1 := HB6.out.2.2.1.free 1
  have f2 := HB6.out.2.2.1.free 2
  have f3 := HB6.out.2.2.1.free 3
  have f4 := HB6.out.2.2.1.free 4
  have f5 := HB6.out.2.2.1.free 5
  go_wp2
  have hz := HB6.out.1.size
  refine bodyPost_ret (v := .agg swA) ?r rfl ⟨rfl, ?b⟩
  case r => exact results_cell_row rfl _ _ _ 89 swA (0, 0) _ rfl ((((((HB6.out.2.2.1.set 0 _).set 1 _).set 2 _).set 3 _).set 4 _).set 5 _) Tryz.underlying89 rfl (by kernel_rfl)
  case b => exact (((((HB6.out.1.setCell (p := ⟨w.heap.size + 1, 0, none⟩) (Nat.le_succ _) _).setCell (p := ⟨w.heap.size + 1, 1, none⟩) (Nat.le_succ _) _).setCell (p := ⟨w.heap.size + 1, 2, none⟩) (Nat.le_succ _) _).setCell (p := ⟨w.heap.size + 1, 3, none⟩) (Nat.le_succ _) _).setCell (p := ⟨w.heap.size + 1, 4, none⟩) (Nat.le_succ _) _).setCell (p := ⟨w.heap.size + 1, 5, none⟩) (Nat.le_succ _) _
end Go.Proofs.YtpdbejeiceodkaaGreatDoor
