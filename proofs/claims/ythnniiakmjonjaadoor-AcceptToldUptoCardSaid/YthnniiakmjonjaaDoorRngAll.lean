/- Lists, weights and ranges: plain, and the walks of both sides (eight texts in one, for claims that would hold too many files). Conditions: at most 1048576 bytes; bytealg's MaxLen holds an int; octet.signs holds what the text lays. -/
import Derived.Test.YthnniiakmjonjaaDoorSam
import Derived.Test.YthnniiakmjonjaaDoorMda
import Derived.Test.YthnniiakmjonjaaDoorCodP
import Derived.Test.YthnniiakmjonjaaDoorRQua
import Derived.Test.YthnniiakmjonjaaDoorParS
import Derived.Test.YthnniiakmjonjaaDoorWord
import Derived.Test.YthnniiakmjonjaaDoorSpt
import Derived.Test.YthnniiakmjonjaaDoorRgs
import Derived.Test.YthnniiakmjonjaaDoorMedP
import Derived.Test.YthnniiakmjonjaaDoorVal7
import Derived.Test.YthnniiakmjonjaaDoorPar7
import Derived.Deep.DeepCutAuto
import Derived.Test.YthnniiakmjonjaaDoorRPrt7
import Derived.Test.YthnniiakmjonjaaDoorAwake07
import Derived.Test.YthnniiakmjonjaaDoorLaidSg
namespace Go.Proofs.YthnniiakmjonjaaDoor
open Go.RowKit
set_option linter.unusedSimpArgs false
set_option linter.unusedVariables false
set_option maxRecDepth 1000000
/-- What List answers. -/
def lsR (L : List UInt8) : List (List UInt8) × Nat := match lstP L with
  | some xs => (xs, 0)
  | none => ([], 14)
theorem lsR_none (L : List UInt8) (h : lstR [] L = none) : lsR L = ([], 14) := by unfold lsR lstP; rw [h]; rfl
theorem lsR_some (L : List UInt8) (all : List (List UInt8)) (h : lstR [] L = some all) : lsR L = (fulls all, 0) := by unfold lsR lstP; rw [h]; rfl
/-- What stands between two places. -/
def btw (L : List UInt8) (fr a : Nat) : List UInt8 := (L.drop fr).take (a - fr)
theorem btw_len (L : List UInt8) (fr a : Nat) : (btw L fr a).length ≤ L.length := by unfold btw; rw [List.length_take, List.length_drop]; omega
def LstR (L : List UInt8) (fr a : Nat) (done : List (List UInt8)) : Prop := fr ≤ a ∧ a ≤ L.length ∧ done.length ≤ fr ∧ (lstR (btw L fr a) (L.drop a)).map (done ++ ·) = lstR [] L ∧ ∀ x ∈ done, x.length ≤ L.length
theorem LstR.start (L : List UInt8) : LstR L 0 0 [] := by
  refine ⟨Nat.le_refl _, Nat.zero_le _, Nat.le_refl _, ?_, fun x hx => absurd hx (by simp)⟩
  rw [List.drop_zero, show btw L 0 0 = [] from rfl]
  cases lstR [] L <;> simp
theorem drop_at_c (L : List UInt8) (a : Nat) (c : UInt8) (h : L[a]? = some c) : L.drop a = c :: L.drop (a + 1) := by
  obtain ⟨hl, he⟩ := List.getElem?_eq_some_iff.1 h
  rw [List.drop_eq_getElem_cons hl, he]
theorem btw_add (L : List UInt8) (fr a n : Nat) (h : fr ≤ a) : btw L fr (a + n) = btw L fr a ++ (L.drop a).take n := by
  unfold btw
  rw [show a + n - fr = (a - fr) + n from by omega, List.take_add, List.drop_drop, show fr + (a - fr) = a from by omega]
theorem btw_end (L : List UInt8) (fr : Nat) : btw L fr L.length = L.drop fr := by
  unfold btw
  rw [List.take_of_length_le (by rw [List.length_drop]; omega)]
theorem LstR.fin {L : List UInt8} {fr : Nat} {done : List (List UInt8)} (h : LstR L fr L.length done) : lstR [] L = some (done ++ [L.drop fr]) := by
  have := h.2.2.2.1
  rw [List.drop_of_length_le (Nat.le_refl _), lstR_nil, btw_end] at this
  exact this.symm
theorem LstR.other {L : List UInt8} {fr a : Nat} {done : List (List UInt8)} {c : UInt8} (h : LstR L fr a done) (hc : L[a]? = some c) (h1 : c ≠ 34) (h2 : c ≠ 44) : LstR L fr (a + 1) done := by
  have hl : a < L.length := (List.getElem?_eq_some_iff.1 hc).1
  refine ⟨Nat.le_succ_of_le h.1, hl, h.2.2.1, ?_, h.2.2.2.2⟩
  rw [← h.2.2.2.1, btw_add L fr a 1 h.1, drop_at_c L a c hc, lstR_other _ _ c h1 h2]
  rfl
theorem LstR.quote {L : List UInt8} {fr a n : Nat} {done : List (List UInt8)} {x : List UInt8} (h : LstR L fr a done) (hc : L[a]? = some 34) (hu : unq (L.drop a) = some (x, n)) : LstR L fr (a + n) done ∧ 0 < n := by
  have hl : a < L.length := (List.getElem?_eq_some_iff.1 hc).1
  have hn := unq_used _ _ _ hu
  rw [List.length_drop] at hn
  refine ⟨⟨Nat.le_trans h.1 (Nat.le_add_right _ _), by omega, h.2.2.1, ?_, h.2.2.2.2⟩, hn.1⟩
  rw [← h.2.2.2.1, btw_add L fr a n h.1, ← List.drop_drop]
  rw [drop_at_c L a 34 hc] at hu ⊢
  rw [lstR_quote _ _ x n hu]
theorem LstR.bad {L : List UInt8} {fr a : Nat} {done : List (List UInt8)} (h : LstR L fr a done) (hc : L[a]? = some 34) (hu : unq (L.drop a) = none) : lstR [] L = none := by
  have := h.2.2.2.1
  rw [drop_at_c L a 34 hc] at hu this
  rw [lstR_bad _ _ hu] at this
  exact this.symm
theorem LstR.comma {L : List UInt8} {fr a : Nat} {done : List (List UInt8)} (h : LstR L fr a done) (hc : L[a]? = some 44) : LstR L (a + 1) (a + 1) (done ++ [btw L fr a]) := by
  have hl : a < L.length := (List.getElem?_eq_some_iff.1 hc).1
  refine ⟨Nat.le_refl _, hl, by rw [List.length_append, List.length_singleton]; have := h.1; have := h.2.2.1; omega, ?_, fun x hx => ?_⟩
  rotate_left
  · rcases List.mem_append.1 hx with hx | hx
    · exact h.2.2.2.2 x hx
    · rw [List.mem_singleton] at hx
      subst hx
      exact btw_len _ _ _
  rw [← h.2.2.2.1, drop_at_c L a 44 hc, lstR_comma, show btw L (a + 1) (a + 1) = [] from by unfold btw; rw [Nat.sub_self, List.take_zero]]
  cases lstR [] (L.drop (a + 1)) <;> simp
theorem btw_ext (s : ByteArray) (fr a : Nat) : s.extract fr a = ⟨(btw s.data.toList fr a).toArray⟩ := ext_mk s fr a
theorem fulls_take (l : List (List UInt8)) (i : Nat) (x : List UInt8) (h : l[i]? = some x) : fulls (l.take (i + 1)) = fulls (l.take i) ++ if trimL x = [] then [] else [trimL x] := by
  rw [List.take_add_one, h, Option.toList_some, fulls_snoc]
theorem infoStr7 : (Tryd.prog.info? 9).map (fun i => (i.zero, i.size, i.bytes)) = some (some (.string ByteArray.empty), 1, 16) := by kernel_rfl
theorem info_partsS7 (h : (Tryd.prog.info? 9).map (fun i => (i.zero, i.size, i.bytes)) = some (some (.string ByteArray.empty), 1, 16)) : ∃ i, Tryd.prog.info? 9 = some i ∧ i.zero = some (.string ByteArray.empty) ∧ i.size = 1 ∧ i.bytes = 16 := by
  obtain ⟨i, hi, he⟩ := Option.map_eq_some_iff.1 h
  simp only [Prod.mk.injEq] at he
  exact ⟨i, hi, he.1, he.2.1, he.2.2⟩
theorem str_bd7 (n m : Nat) (h : n ≤ m) (hm : m ≤ 1073741825) : n + 1 ≤ maxLen ∧ (n + 1) * 16 ≤ 140737488355328 := by unfold maxLen; omega
theorem fulls_tlen (l : List (List UInt8)) (i : Nat) : (fulls (l.take i)).length ≤ i := Nat.le_trans (fulls_len _) (by rw [List.length_take]; exact Nat.min_le_left _ _)
theorem sm31 (n m : Nat) (h : n ≤ m) (h2 : m ≤ 1073741825) : n ≤ 2199023255552 := by omega
theorem w64le7 (p : Nat) (h : p ≤ 4398046511104) : wrap64 (p : Int) = (p : Int) ∧ IntKind.i64.wrap (p : Int) = (p : Int) := by
  constructor
  · unfold wrap64; omega
  · rw [IntKind.wrap_i64]; omega
def LsPost (L : List UInt8) (w : World) (e : Ending) (w' : World) : Prop := ∃ v, e = .returned (.tuple #[v, .int .i64 ((lsR L).2 : Nat)]) ∧ w'.ownsRow w.heap.size 9 1 v (lsR L).1.length (strV (lsR L).1) ∧ Below w.heap.size w w'
set_option maxHeartbeats 16000000 in
theorem olist_any (s : ByteArray) (w : World) (hs : s.size ≤ 1073741824) : Calls Tryd.prog 76 #[.string s] w (LsPost s.data.toList w) := by
  have hs2 : s.size ≤ 1099511627776 := Nat.le_trans hs (by decide)
  obtain ⟨i0, hi0, hz0, hz1, hz2⟩ := info_partsS7 infoStr7
  go_enter Tryd.func76, Tryd.ntmps76
  go_wp2
  go_step3
  go_wp2
  go_step3
  go_wp2
  go_loopw [6, 5, 4] (fun av fv ov wr => ∃ (a fr : Nat) (done : List (List UInt8)), av = .int .i64 a ∧ fv = .int .i64 fr ∧ LstR s.data.toList fr a done ∧ wr.ownsRow w.heap.size 9 1 ov done.length (strV done) ∧ Below w.heap.size w wr) (fun av _ _ _ => s.size - (intOf av).toNat)
  case atStart => exact ⟨0, 0, [], rfl, rfl, LstR.start _, World.ownsRow_nil _ _ _ _, Below.refl _ _⟩
  case round =>
    obtain ⟨a, fr, done, rfl, rfl, hR, hown, hb⟩ := hrel
    have has : a ≤ s.size := by have := hR.2.1; rw [size_list] at this; exact this
    have hdn : done.length ≤ s.size := Nat.le_trans hR.2.2.1 (Nat.le_trans hR.1 has)
    have hbd := str_bd7 done.length s.size hdn (Nat.le_trans hs (by decide))
    have f0 : (0 : Int) ≤ (fr : Int) := Int.natCast_nonneg _
    have f1 : (fr : Int) ≤ (a : Int) := by have := hR.1; omega
    have f2 : (a : Int) ≤ (s.size : Int) := by omega
    have f3 : (fr : Int) ≤ (s.size : Int) := by omega
    have HR := Lib.hid hR; have HO := Lib.hid hown; have HB := Lib.hid hb
    have hbz := hb.size
    by_cases hlt : a < s.size
    · obtain ⟨c, hc⟩ : ∃ c, s[a]'hlt = c := ⟨_, rfl⟩
      have hget := list_get s a hlt
      rw [hc] at hget
      have k0 : (0 : Int) ≤ (a : Int) := Int.natCast_nonneg _
      have k1 : (a : Int) < (s.size : Int) := by omega
      have k2 : ((a : Int) == (s.size : Int)) = false := beq_false_of_ne (by omega)
      have hwi := wrap64_small a (Nat.le_trans has (Nat.le_trans hs (by decide)))
      have HW := Lib.hid hwi
      clear hwi hR hown hb
      by_cases h34 : c = 34
      · have b34 : ((c.toNat : Int) == 34) = true := by rw [h34]; rfl
        have hg34 : s.data.toList[a]? = some 34 := by rw [hget, h34]
        have hx3 := ext_back s a
        have hu := ounq_any ⟨(s.data.toList.drop a).toArray⟩ wr (by rw [size_mk, List.length_drop, size_list]; omega)
        rw [show (⟨(s.data.toList.drop a).toArray⟩ : ByteArray).data.toList = s.data.toList.drop a from rfl] at hu
        cases hq : unq (s.data.toList.drop a) with
        | none =>
          rw [hq, show unqRet none = .tuple #[.string ⟨#[]⟩, .int .i64 0, .int .i64 13] from rfl] at hu
          have HU := Lib.hid hu
          have HN := Lib.hid (lsR_none _ (HR.out.bad hg34 hq))
          clear hu hq hg34 hget h34
          go_wp2_with fail
          refine (HU.out).mono ?_
          rintro e w1 ⟨rfl, hb1⟩
          have HB1 := Lib.hid (HB.out.trans (hb1.mono HB.out.size))
          clear hb1
          go_wp2
          rw [Exit.noGoto_ret]
          go_ret2
          unfold LsPost
          rw [HN.out]
          exact ⟨_, rfl, World.ownsRow_nil _ _ _ _, HB1.out⟩
        | some xn =>
          obtain ⟨x, n⟩ := xn
          rw [hq, show unqRet (some (x, n)) = .tuple #[.string ⟨x.toArray⟩, .int .i64 (n : Int), .int .i64 0] from rfl] at hu
          have HU := Lib.hid hu
          have hst := HR.out.quote hg34 hq
          have hn1 : a + n ≤ s.size := by have := hst.1.2.1; rw [size_list] at this; exact this
          obtain ⟨a1, ha1⟩ : ∃ a1, a + n = a1 := ⟨_, rfl⟩
          have fn : (a : Int) + (n : Int) = (a1 : Int) := by omega
          have hnp := hst.2
          have hm : s.size - a1 < s.size - a := by omega
          rw [ha1] at hst
          have hw1 : wrap64 (a1 : Int) = (a1 : Int) ∧ IntKind.i64.wrap (a1 : Int) = (a1 : Int) := w64le7 a1 (by rw [← ha1]; exact Nat.le_trans hn1 (Nat.le_trans hs (by decide)))
          obtain ⟨hwa, hwb⟩ := hw1
          have HST := Lib.hid (And.intro hst.1 hm)
          clear hu hq hg34 hget h34 hst hn1 hnp ha1 hm
          go_wp2_with fail
          refine (HU.out).mono ?_
          rintro e w1 ⟨rfl, hb1⟩
          have HB1 := Lib.hid (HB.out.trans (hb1.mono HB.out.size))
          have HO1 := Lib.hid (own_later HO.out hb1)
          clear hb1
          go_wp2
          go_roundw
          case rel => exact ⟨a1, fr, done, rfl, rfl, HST.out.1, HO1.out, HB1.out⟩
          case measure => have := HST.out.2; simp [intOf]; omega
      · have b34 : ((c.toNat : Int) == 34) = false := (ne_u8o c 34 (by decide) h34).1
        by_cases h44 : c = 44
        · have b44 : ((c.toNat : Int) == 44) = true := by rw [h44]; rfl
          have HST := Lib.hid (HR.out.comma (by rw [hget, h44]))
          have hx := btw_ext s fr a
          obtain ⟨cur, hcur⟩ : ∃ x, btw s.data.toList fr a = x := ⟨_, rfl⟩
          rw [hcur] at hx HST
          clear h34 h44 hget hcur
          go_wp2_with (at_builtin; refine wpList_append_own _ rfl (.tmp 43) (.tmp 48) 44 rfl w.heap.size 9 i0 (.string ByteArray.empty) 1 16 Tryd.underlying44 hi0 hz0 hz1 hz2 rfl (by decide) _ _ _ rfl (HO.out.alloc _) ⟨wr.heap.size, 0, none⟩ 1 1 [.string ⟨cur.toArray⟩] rfl rfl (cells_new wr 9 _) (by simp [Value.oneCell']) hbd.1 hbd.2 ?dd ?_)
          case dd => simp; omega
          intro v1 w4 hI1 hg1 _
          have hb4 : Below w.heap.size w w4 := (HB.out.alloc hbz _).grown hg1 (by simp; omega) (fun k hk => (HO.out.lt k hk).1)
          have HI1 := Lib.hid hI1; have HB4 := Lib.hid hb4
          clear hI1 hg1 hb4
          go_wp2
          have hwi := HW.out
          go_roundw
          case rel => (try rw [hwi]); clear hwi; exact ⟨a + 1, a + 1, done ++ [cur], by go_num, by go_num, HST.out, by rw [strV_snoc, List.length_append]; exact HI1.out, HB4.out⟩
          case measure => (try rw [hwi]); clear hwi; simp [intOf]; omega
        · have b44 : ((c.toNat : Int) == 44) = false := (ne_u8o c 44 (by decide) h44).1
          have HST := Lib.hid (HR.out.other hget h34 h44)
          clear h34 h44 hget
          go_wp2
          have hwi := HW.out
          go_roundw
          case rel => (try rw [hwi]); clear hwi; exact ⟨a + 1, fr, done, by go_num, rfl, HST.out, HO.out, HB.out⟩
          case measure => (try rw [hwi]); clear hwi; simp [intOf]; omega
    · obtain rfl : s.size = a := by omega
      have hfin := LstR.fin (L := s.data.toList) (fr := fr) (done := done) (by rw [size_list]; exact hR)
      have hel : ∀ x ∈ done ++ [s.data.toList.drop fr], x.length ≤ 1099511627776 := fun x hx => by
        rcases List.mem_append.1 hx with hx | hx
        · have := hR.2.2.2.2 x hx; rw [size_list] at this; omega
        · rw [List.mem_singleton] at hx; subst hx; rw [List.length_drop, size_list]; omega
      have hx := ext_back s fr
      obtain ⟨last, hlast⟩ : ∃ x, s.data.toList.drop fr = x := ⟨_, rfl⟩
      rw [hlast] at hx hfin hel
      have k2 : ((s.size : Int) == (s.size : Int)) = true := by simp
      obtain ⟨all, hall⟩ : ∃ x, done ++ [last] = x := ⟨_, rfl⟩
      have hal : all.length = done.length + 1 := by rw [← hall, List.length_append, List.length_singleton]
      have hN1 : all.length ≤ 1073741825 := by omega
      rw [hall] at hfin hel
      have HN := Lib.hid (lsR_some _ all hfin); have HEL := Lib.hid hel; have HAL := Lib.hid (And.intro hall hal)
      clear hR hown hb hfin hel hlast hall hal
      go_wp2_with (at_builtin; refine wpList_append_own _ rfl (.tmp 53) (.tmp 57) 44 rfl w.heap.size 9 i0 (.string ByteArray.empty) 1 16 Tryd.underlying44 hi0 hz0 hz1 hz2 rfl (by decide) _ _ _ rfl (HO.out.alloc _) ⟨wr.heap.size, 0, none⟩ 1 1 [.string ⟨last.toArray⟩] rfl rfl (cells_new wr 9 _) (by simp [Value.oneCell']) hbd.1 hbd.2 ?dd ?_)
      case dd => simp; omega
      intro v1 w4 hI1 hg1 _
      have hb4 : Below w.heap.size w w4 := (HB.out.alloc hbz _).grown hg1 (by simp; omega) (fun k hk => (HO.out.lt k hk).1)
      have hI2 : w4.ownsRow w.heap.size 9 1 v1 all.length (strV all) := by rw [HAL.out.2, ← HAL.out.1, strV_snoc]; exact hI1
      obtain ⟨ao, cap, rfl, hat⟩ := txtsIn_own hI2
      have HAT := Lib.hid hat; have HB4 := Lib.hid hb4
      clear hI1 hg1 hb4 hI2 hat
      go_wp2
      go_loopw [60, 10] (fun iv ov wr => ∃ i : Nat, iv = .int .i64 i ∧ i ≤ all.length ∧ wr.ownsRow w4.heap.size 9 1 ov (fulls (all.take i)).length (strV (fulls (all.take i))) ∧ Below w4.heap.size w4 wr) (fun iv _ _ => all.length - (intOf iv).toNat)
      case atStart => exact ⟨0, rfl, Nat.zero_le _, World.ownsRow_nil _ _ _ _, Below.refl _ _⟩
      case round =>
        obtain ⟨i, rfl, hi, hown, hb⟩ := hrel
        by_cases hil : i < all.length
        · obtain ⟨x, hxi⟩ : ∃ x, all[i]? = some x := ⟨_, List.getElem?_eq_getElem hil⟩
          obtain ⟨g, o, rfl, _, c0⟩ := HAT.out.below hb i x hxi
          have hxl := HEL.out x (List.mem_of_getElem? hxi)
          have i0' : (0 : Int) ≤ (i : Int) := Int.natCast_nonneg _
          have i1 : (i : Int) < (all.length : Int) := by omega
          have hwi := wrap64_small i (sm31 i _ hi hN1)
          have hft := fulls_take all i x hxi
          have hfl : (fulls (all.take i)).length ≤ i := fulls_tlen all i
          have hbd2 := str_bd7 (fulls (all.take i)).length all.length (Nat.le_trans hfl hi) hN1
          have htr := otrim_any ⟨x.toArray⟩ wr (by rw [size_mk]; exact hxl)
          rw [show (⟨x.toArray⟩ : ByteArray).data.toList = x from rfl] at htr
          obtain ⟨t, ht⟩ : ∃ t, trimL x = t := ⟨_, rfl⟩
          rw [ht] at htr hft
          have HT := Lib.hid htr; have HO2 := Lib.hid hown; have HBX := Lib.hid hb; have HW2 := Lib.hid hwi
          clear htr hown hb hwi hxl hxi ht hfl
          by_cases hte : t = []
          · rw [if_pos hte, List.append_nil] at hft
            have HFT := Lib.hid hft
            have hbe : (t == []) = true := by rw [hte]; rfl
            subst hte
            clear hft
            go_wp2_with fail
            refine (HT.out).mono ?_
            rintro e w5 ⟨rfl, hb5⟩
            have HB5 := Lib.hid (HBX.out.trans (hb5.mono HBX.out.size))
            have HO5 := Lib.hid (own_later HO2.out hb5)
            clear hb5 c0
            go_wp2
            have hwi := HW2.out
            go_roundw
            case rel => (try rw [hwi]); clear hwi; exact ⟨i + 1, by go_num, hil, by rw [HFT.out]; exact HO5.out, HB5.out⟩
            case measure => (try rw [hwi]); clear hwi; simp [intOf]; omega
          · rw [if_neg hte] at hft
            have HFT := Lib.hid hft
            have hbe : (t == []) = false := beq_false_of_ne hte
            have hbe2 : t.isEmpty = false := by cases t with | nil => exact absurd rfl hte | cons => rfl
            clear hft
            go_wp2_with fail
            refine (HT.out).mono ?_
            rintro e w5 ⟨rfl, hb5⟩
            have hb5' := HBX.out.trans (hb5.mono HBX.out.size)
            have hbz5 : w4.heap.size ≤ w5.heap.size := hb5'.size
            have HB5 := Lib.hid hb5'
            have HO5 := Lib.hid (own_later HO2.out hb5)
            clear hb5 c0 hb5'
            go_wp2_with (at_builtin; refine wpList_append_own _ rfl (.tmp 68) (.tmp 70) 44 rfl w4.heap.size 9 i0 (.string ByteArray.empty) 1 16 Tryd.underlying44 hi0 hz0 hz1 hz2 rfl (by decide) _ _ _ rfl (HO5.out.alloc _) ⟨w5.heap.size, 0, none⟩ 1 1 [.string ⟨t.toArray⟩] rfl rfl (cells_new w5 9 _) (by simp [Value.oneCell']) hbd2.1 hbd2.2 ?dd ?_)
            case dd => simp; omega
            intro v2 w6 hI6 hg6 _
            have hb6 : Below w4.heap.size w4 w6 := (HB5.out.alloc hbz5 _).grown hg6 (alloc_le hbz5 _) (fun k hk => (HO5.out.lt k hk).1)
            have HI6 := Lib.hid hI6; have HB6 := Lib.hid hb6
            clear hI6 hg6 hb6
            go_wp2
            have hwi := HW2.out
            go_roundw
            case rel => (try rw [hwi]); clear hwi; exact ⟨i + 1, by go_num, hil, by rw [HFT.out, strV_snoc, List.length_append]; exact HI6.out, HB6.out⟩
            case measure => (try rw [hwi]); clear hwi; simp [intOf]; omega
        · obtain rfl : all.length = i := by omega
          have hd : decide (all.length < all.length) = false := decide_eq_false (Nat.lt_irrefl _)
          rw [List.take_length] at hown
          have HO2 := Lib.hid (own_base hown HB4.out.size)
          have HBX := Lib.hid (HB4.out.trans (hb.mono HB4.out.size))
          clear hown hb
          go_wp2
          rw [Exit.noGoto_ret]
          go_ret2
          unfold LsPost
          rw [HN.out]
          exact ⟨_, rfl, HO2.out, HBX.out⟩
def PLen (l : List Par) : Prop := ∀ (i : Nat) (p : Par), l[i]? = some p → p.1.length ≤ 1099511627776 ∧ p.2.1.length < 4294967281
def wtV (v : Value) (r : List Par × Nat × Nat) : Value := .tuple #[v, .int .i64 (r.2.1 : Nat), .int .i64 (r.2.2 : Nat)]
theorem isQ_step (l : List Par) (i : Nat) (p : Par) (h : l[i]? = some p) (ha : (l.take i).any isQ = false) (hp : isQ p = false) : (l.take (i + 1)).any isQ = false := by rw [take_any _ _ _ _ h, ha, hp]; rfl
theorem isQ_low (p : Par) : isQ p = (lowL p.1 == [113]) := by unfold isQ sameL; rw [beq_dec, show lowL [113] = [113] from rfl]
theorem wt_take_len (l : List Par) (i : Nat) (h : i ≤ l.length) : (l.take i).length = i := by rw [List.length_take]; omega
set_option maxHeartbeats 4000000 in
theorem oweight_any (ao : Option Addr) (cap : Nat) (l : List Par) (m : Int) (w : World) (hN : l.length ≤ 1073741824) (hc : l.length ≤ cap) (hs : PLen l) (h : ParAt w ao l) (hm : w.cell? ⟨1, 0, none⟩ = some (.int .i64 m)) :
    Calls Tryd.prog 77 #[.slice ao l.length cap] w fun e w' => ∃ c, e = .returned (wtV (.slice ao (wtP l).1.length c) (wtP l)) ∧ Below w.heap.size w w' := by
  have HAT := Lib.hid h; have HS := Lib.hid hs; have HM := Lib.hid hm
  clear h hs hm
  go_enter Tryd.func77, Tryd.ntmps77
  go_wp2
  go_loopw [11] (fun iv wr => ∃ i : Nat, iv = .int .i64 i ∧ i ≤ l.length ∧ (l.take i).any isQ = false ∧ Below w.heap.size w wr) (fun iv _ => l.length - (intOf iv).toNat)
  case atStart => exact ⟨0, rfl, Nat.zero_le _, rfl, Below.refl _ _⟩
  case round =>
    obtain ⟨i, rfl, hi, hno, hb⟩ := hrel
    by_cases hlt : i < l.length
    · obtain ⟨p, hp⟩ : ∃ p, l[i]? = some p := ⟨_, List.getElem?_eq_getElem hlt⟩
      obtain ⟨g, o, rfl, _, c0, c1, c2⟩ := HAT.out.below hb i p hp
      have k0 : (0 : Int) ≤ (i : Int) := Int.natCast_nonneg _
      have k1 : (i : Int) < (l.length : Int) := by omega
      have k2 : (i : Int) ≤ (cap : Int) := by omega
      have hwi := wrap64_small i (small30 i _ hi hN)
      have hpl := HS.out i p hp
      obtain ⟨p1, p2, p3⟩ := p
      simp only at c0 c1 c2 hpl
      have hb2 := hb.alloc hb.size (parO (p1, p2, p3) 80)
      have S1 := fun w => osame_any p1 [113] w hpl.1 (by simp)
      have HB2 := Lib.hid hb2; have HW := Lib.hid hwi; have HNO := Lib.hid hno; have HP := Lib.hid hp
      cases hsm : sameL p1 [113] with
      | false =>
        have HST := Lib.hid (isQ_step l i _ hp hno (show isQ (p1, p2, p3) = false from hsm))
        rw [hsm] at S1
        have HS1 := Lib.hid S1
        clear S1 hsm hb hb2 hwi hno hp hpl
        go_wp2_with fail
        refine (HS1.out _).mono ?_
        rintro e w3 ⟨rfl, hb3⟩
        have HB3 := Lib.hid (HB2.out.trans (hb3.mono HB2.out.size))
        clear hb3
        go_wp2
        have hwi := HW.out
        go_roundw
        case rel => (try rw [hwi]); clear hwi; exact ⟨i + 1, by go_num, hlt, HST.out, HB3.out⟩
        case measure => (try rw [hwi]); clear hwi; simp [intOf]; omega
      | true =>
        have hwt := wtP_at l i _ hp hno (show isQ (p1, p2, p3) = true from hsm)
        rw [hsm] at S1
        have hq := fun w1 (h1 : Below w.heap.size w w1) => oqual_any ⟨p2.toArray⟩ m w1 (by rw [size_mk]; exact hpl.2) (mx_later (B := 0) HM.out h1)
        unfold QuPost at hq
        simp only [show (⟨p2.toArray⟩ : ByteArray).data.toList = p2 from rfl] at hq
        obtain ⟨⟨qa, qb⟩, hqq⟩ : ∃ r, quR p2 = r := ⟨_, rfl⟩
        simp only [hqq] at hq
        rw [show ((p1, p2, p3) : Par).2.1 = p2 from rfl, hqq] at hwt
        have HWT := Lib.hid hwt; have HQ := Lib.hid hq
        have HTL := Lib.hid (wt_take_len l i hi)
        have HS1 := Lib.hid S1
        clear S1 hsm hb hb2 hwi hno hp hpl hwt hq hqq
        go_wp2_with fail
        refine (HS1.out _).mono ?_
        rintro e w3 ⟨rfl, hb3⟩
        have HB3 := Lib.hid (HB2.out.trans (hb3.mono HB2.out.size))
        have e1 : w3.cell? ⟨wr.heap.size, 1, none⟩ = some (.string ⟨p2.toArray⟩) := ((blkIs_new wr #[.string ⟨p1.toArray⟩, .string ⟨p2.toArray⟩, .bool p3] 80).later hb3).cell 1 _ rfl
        clear hb3
        go_wp2_with fail
        refine (HQ.out _ HB3.out).mono ?_
        rintro e w4 ⟨rfl, hb4⟩
        have HB4 := Lib.hid (HB3.out.trans (hb4.mono HB3.out.size))
        clear hb4 e1
        go_wp2
        go_ret3
        rw [HWT.out]
        exact ⟨_, by rw [HTL.out]; rfl, HB4.out⟩
    · obtain rfl : i = l.length := by omega
      have hd : decide (l.length < l.length) = false := decide_eq_false (Nat.lt_irrefl _)
      rw [List.take_length] at hno
      have HX := Lib.hid (And.intro (wtP_end l hno) hb)
      clear hno hb
      go_wp2
      go_ret3
      rw [HX.out.1]
      exact ⟨_, rfl, HX.out.2⟩
set_option maxHeartbeats 4000000 in
theorem rweight_any (v : Value) (l : List Par) (w : World) (hN : l.length ≤ 1073741824) (hs : PLen l) (hnv : noV l) (h : ParsIn w v l) :
    Calls Tryd.prog 79 #[v] w fun e w' => ∃ v', e = .returned (wtV v' (wtP l)) ∧ w'.ownsRow w.heap.size 109 3 v' (wtP l).1.length (parsV (wtP l).1) ∧ Below w.heap.size w w' := by
  obtain ⟨ao, cap, rfl, hat⟩ := h
  obtain ⟨i0, hi0, hz0, hz1, hz2⟩ := info_partsRO infoRParO
  have hbb : Below w.heap.size w (w.alloc (.cells #[] 109)) := (Below.refl _ w).alloc (Nat.le_refl _) _
  have hrm : (w.alloc (.cells #[] 109)).ownsRow w.heap.size 109 3 (.slice (some ⟨w.heap.size, 0, none⟩) 0 0) 0 [] := World.ownsRow_made w #[] 0 (Nat.le_refl _) (by simp) rfl
  have HAT := Lib.hid hat; have HS := Lib.hid hs; have HV := Lib.hid hnv
  clear hat hs hnv
  go_enter Tryd.func79, Tryd.ntmps79
  go_wp2
  go_loopw [6, 5] (fun iv v wr => ∃ i : Nat, iv = .int .i64 i ∧ i ≤ l.length ∧ (l.take i).any isQ = false ∧ wr.ownsRow w.heap.size 109 3 v i (parsV (l.take i)) ∧ Below w.heap.size w wr) (fun iv _ _ => l.length - (intOf iv).toNat)
  case atStart => exact ⟨0, rfl, Nat.zero_le _, rfl, hrm, hbb⟩
  case round =>
    clear hbb hrm
    obtain ⟨i, rfl, hi, hno, hown, hb⟩ := hrel
    by_cases hlt : i < l.length
    · obtain ⟨p, hp⟩ : ∃ p, l[i]? = some p := ⟨_, List.getElem?_eq_getElem hlt⟩
      obtain ⟨g, o, rfl, hgl, c0, c1, c2⟩ := HAT.out.below hb i p hp
      have k0 : (0 : Int) ≤ (i : Int) := Int.natCast_nonneg _
      have k1 : (i : Int) < (l.length : Int) := by omega
      have hwi := wrap64_small i (small30 i _ hi hN)
      have hbd := par_bd i l.length hlt hN
      have hsn := parsV_take l i p hp
      have hpl := HS.out i p hp
      have hpv := HV.out p (List.mem_of_getElem? hp)
      have hq0 := isQ_low p
      obtain ⟨p1, p2, p3⟩ := p
      simp only at c0 c1 c2 hpl hsn hpv hq0
      have S1 := fun w => rlower_any ⟨p1.toArray⟩ w (by rw [size_mk]; exact hpl.1)
      simp only [show (⟨p1.toArray⟩ : ByteArray).data.toList = p1 from rfl] at S1
      obtain ⟨lw, hlw⟩ : ∃ x, lowL p1 = x := ⟨_, rfl⟩
      rw [hlw] at hq0
      simp only [hlw] at S1
      have HB := Lib.hid hb; have HW := Lib.hid hwi; have HNO := Lib.hid hno; have HP := Lib.hid hp; have HO := Lib.hid hown; have HS1 := Lib.hid S1; have HSN := Lib.hid hsn
      have HTL := Lib.hid (wt_take_len l i hi)
      clear S1 hb hwi hno hp hown hsn hlw
      cases hsm : (lw == [113]) with
      | false =>
        have HST := Lib.hid (isQ_step l i _ HP.out HNO.out (hq0.trans hsm))
        clear hpl hpv hq0
        go_wp2_with fail
        refine (HS1.out _).mono ?_
        rintro e w3 ⟨rfl, hb3⟩
        have hb3' := HB.out.trans (hb3.mono HB.out.size)
        have HO3 := Lib.hid (own_later HO.out hb3)
        have d0 : w3.cell? ⟨g, o + i * 3, none⟩ = some (.string ⟨p1.toArray⟩) := by rw [hb3.cell (p := ⟨g, o + i * 3, none⟩) hgl]; exact c0
        have d1 : w3.cell? ⟨g, o + i * 3 + 1, none⟩ = some (.string ⟨p2.toArray⟩) := by rw [hb3.cell (p := ⟨g, o + i * 3 + 1, none⟩) hgl]; exact c1
        have d2 : w3.cell? ⟨g, o + i * 3 + 2, none⟩ = some (.bool p3) := by rw [hb3.cell (p := ⟨g, o + i * 3 + 2, none⟩) hgl]; exact c2
        have HB3 := Lib.hid hb3'
        have hbz := hb3'.size
        clear hb3 c0 c1 c2 hb3'
        go_wp2_with (at_builtin; refine wpList_append_own _ rfl (.tmp 42) (.tmp 47) 28 rfl w.heap.size 109 i0 (.agg #[.string ByteArray.empty, .string ByteArray.empty, .bool false]) 3 40 Tryd.underlying28 hi0 hz0 hz1 hz2 rfl (by decide) _ _ _ rfl (HO3.out.alloc _) ⟨w3.heap.size, 0, none⟩ 1 1 [.string ⟨p1.toArray⟩, .string ⟨p2.toArray⟩, .bool p3] rfl rfl (cells_new w3 109 _) (by simp [Value.oneCell']) hbd.1 hbd.2 ?dd ?_)
        case dd => simp; omega
        intro v1 w4 hI1 hg1 _
        have hb4 : Below w.heap.size w w4 := (HB3.out.alloc hbz _).grown hg1 (by simp; omega) (fun k hk => (HO3.out.lt k hk).1)
        have HI1 := Lib.hid hI1; have HB4 := Lib.hid hb4
        clear hI1 hg1 hb4 d0 d1 d2
        go_wp2
        have hwi := HW.out
        go_roundw
        case rel =>
          (try rw [hwi]); clear hwi
          refine ⟨i + 1, by go_num, hlt, HST.out, ?_, HB4.out⟩
          rw [HSN.out]
          exact HI1.out
        case measure => (try rw [hwi]); clear hwi; simp [intOf]; omega
      | true =>
        have hwt := wtP_at l i _ HP.out HNO.out (hq0.trans hsm)
        cases p3 with
        | false =>
          have hv0 := hpv rfl
          subst hv0
          rw [show quR ((p1, ([] : List UInt8), false) : Par).2.1 = (0, 71) from rfl] at hwt
          have HWT := Lib.hid hwt
          clear hpl hpv hq0 hwt
          go_wp2_with fail
          refine (HS1.out _).mono ?_
          rintro e w3 ⟨rfl, hb3⟩
          have HB3 := Lib.hid (HB.out.trans (hb3.mono HB.out.size))
          have HO3 := Lib.hid (own_later HO.out hb3)
          have d2 : w3.cell? ⟨g, o + i * 3 + 2, none⟩ = some (.bool false) := by rw [hb3.cell (p := ⟨g, o + i * 3 + 2, none⟩) hgl]; exact c2
          clear hb3 c0 c1 c2
          go_wp2
          go_ret3
          rw [HWT.out]
          exact ⟨_, rfl, by rw [HTL.out]; exact HO3.out, HB3.out⟩
        | true =>
          have hq := fun w1 => rqual_any ⟨p2.toArray⟩ w1 (by rw [size_mk]; exact Nat.le_trans (Nat.le_of_lt hpl.2) (by decide))
          simp only [show (⟨p2.toArray⟩ : ByteArray).data.toList = p2 from rfl] at hq
          obtain ⟨⟨qa, qb⟩, hqq⟩ : ∃ r, quR p2 = r := ⟨_, rfl⟩
          simp only [hqq] at hq
          rw [show ((p1, p2, true) : Par).2.1 = p2 from rfl, hqq] at hwt
          have HWT := Lib.hid hwt; have HQ := Lib.hid hq
          clear hpl hpv hq0 hwt hq hqq
          go_wp2_with fail
          refine (HS1.out _).mono ?_
          rintro e w3 ⟨rfl, hb3⟩
          have HB3 := Lib.hid (HB.out.trans (hb3.mono HB.out.size))
          have HO3 := Lib.hid (own_later HO.out hb3)
          have d1 : w3.cell? ⟨g, o + i * 3 + 1, none⟩ = some (.string ⟨p2.toArray⟩) := by rw [hb3.cell (p := ⟨g, o + i * 3 + 1, none⟩) hgl]; exact c1
          have d2 : w3.cell? ⟨g, o + i * 3 + 2, none⟩ = some (.bool true) := by rw [hb3.cell (p := ⟨g, o + i * 3 + 2, none⟩) hgl]; exact c2
          clear hb3 c0 c1 c2
          go_wp2_with fail
          refine (HQ.out _).mono ?_
          rintro e w4 ⟨rfl, hw4⟩
          rw [hw4]
          clear hw4 d1 d2
          go_wp2
          go_ret3
          rw [HWT.out]
          exact ⟨_, rfl, by rw [HTL.out]; exact HO3.out, HB3.out⟩
    · obtain rfl : i = l.length := by omega
      have hd : decide (l.length < l.length) = false := decide_eq_false (Nat.lt_irrefl _)
      rw [List.take_length] at hno hown
      have HX := Lib.hid (And.intro (wtP_end l hno) (And.intro hown hb))
      clear hno hb hown
      go_wp2
      go_ret3
      rw [HX.out.1]
      exact ⟨_, rfl, HX.out.2⟩
theorem valP_len (l v : List UInt8) (k : Nat) (h : valP l = some (v, k)) : v.length ≤ l.length := by
  unfold valP at h
  split at h
  · have := unq_used l v k h; omega
  · injection h with h
    injection h with h1 h2
    rw [← h1, List.length_take]
    omega
def ParGood (n : Nat) (p : Par) : Prop := p.2.1.length ≤ n ∧ (p.2.2 = false → p.2.1 = [])
theorem parStep_good (l : List UInt8) (p : Par) (k : Nat) (h : parStep l = some (some (some p, k))) : ParGood l.length p := by
  unfold parStep at h
  split at h
  · simp only at h
    split at h
    · simp at h
    · split at h
      · split at h
        · simp at h
        · rename_i v k2 hv
          simp only [Option.some.injEq, Prod.mk.injEq] at h
          obtain ⟨rfl, _⟩ := h
          have := valP_len _ _ _ hv
          simp only [List.length_drop] at this
          exact ⟨by show v.length ≤ _; omega, fun e => by cases e⟩
      · simp only [Option.some.injEq, Prod.mk.injEq] at h
        obtain ⟨rfl, _⟩ := h
        exact ⟨Nat.zero_le _, fun _ => rfl⟩
  · cases h
theorem parF_good (n : Nat) : ∀ (f : Nat) (l : List UInt8) (ps : List Par) (k : Nat), l.length ≤ n → parF f l = some (ps, k) → ∀ p ∈ ps, ParGood n p
  | 0, l, ps, k, _, h, p, hp => by
    simp only [parF, Option.some.injEq, Prod.mk.injEq] at h
    obtain ⟨rfl, _⟩ := h
    cases hp
  | f + 1, l, ps, k, hl, h, p, hp => by
    rw [parF] at h
    cases hs : parStep l with
    | none =>
      rw [hs] at h
      simp only [Option.some.injEq, Prod.mk.injEq] at h
      obtain ⟨rfl, _⟩ := h
      cases hp
    | some o =>
      rw [hs] at h
      cases o with
      | none => cases h
      | some qk =>
        obtain ⟨q, k2⟩ := qk
        simp only [Option.map_eq_some_iff] at h
        obtain ⟨x, hx, he⟩ := h
        injection he with h1 h2
        rw [← h1] at hp
        rcases List.mem_append.1 hp with hp | hp
        · cases q with
          | none => cases hp
          | some q =>
            obtain rfl : p = q := by simpa using hp
            have := parStep_good l p k2 hs
            exact ⟨Nat.le_trans this.1 hl, this.2⟩
        · exact parF_good n f (l.drop k2) x.1 x.2 (by rw [List.length_drop]; omega) hx p hp
theorem parR_good (l : List UInt8) (ps : List Par) (m e : Nat) (h : parR l = (ps, m, e)) : ∀ p ∈ ps, ParGood l.length p := by
  unfold parR at h
  cases hp : parP l with
  | none =>
    rw [hp] at h
    injection h with h1 h2
    rw [← h1]
    intro p hp
    cases hp
  | some x =>
    rw [hp] at h
    obtain ⟨ps2, k⟩ := x
    injection h with h1 h2
    rw [← h1]
    exact parF_good l.length _ l ps2 k (Nat.le_refl _) hp
theorem parR_noV (l : List UInt8) (ps : List Par) (m e : Nat) (h : parR l = (ps, m, e)) : noV ps := fun p hp hf => (parR_good l ps m e h p hp).2 hf
/-- One word: an error's number, and what it says. -/
def wgOne (x : List UInt8) : Nat × Wgt :=
  if runL isSg x = 0 ∨ (parR (x.drop (runL isSg x))).2.2 ≠ 0 ∨ runL isSg x + (parR (x.drop (runL isSg x))).2.1 ≠ x.length then (10, ([], 0))
  else if (wtP (parR (x.drop (runL isSg x))).1).2.2 ≠ 0 then ((wtP (parR (x.drop (runL isSg x))).1).2.2, ([], 0))
  else (0, (lowL (x.take (runL isSg x)), (((wtP (parR (x.drop (runL isSg x))).1).2.1 : Nat) : Int)))
theorem wgOne_bad (x : List UInt8) (n m e : Nat) (ps : List Par) (hn : runL isSg x = n) (hp : parR (x.drop n) = (ps, m, e)) (h : n = 0 ∨ e ≠ 0 ∨ n + m ≠ x.length) : wgOne x = (10, ([], 0)) := by
  unfold wgOne; rw [hn, hp, if_pos h]
theorem wgOne_q (x : List UInt8) (n m : Nat) (ps ah : List Par) (q e : Nat) (hn : runL isSg x = n) (hp : parR (x.drop n) = (ps, m, 0)) (h0 : n ≠ 0) (hm : n + m = x.length) (hw : wtP ps = (ah, q, e)) (he : e ≠ 0) : wgOne x = (e, ([], 0)) := by
  unfold wgOne; rw [hn, hp, if_neg (by rintro (h | h | h); exact h0 h; exact h rfl; exact h hm), hw, if_pos he]
theorem wgOne_ok (x : List UInt8) (n m : Nat) (ps ah : List Par) (q : Nat) (hn : runL isSg x = n) (hp : parR (x.drop n) = (ps, m, 0)) (h0 : n ≠ 0) (hm : n + m = x.length) (hw : wtP ps = (ah, q, 0)) : wgOne x = (0, (lowL (x.take n), ((q : Nat) : Int))) := by
  unfold wgOne; rw [hn, hp, if_neg (by rintro (h | h | h); exact h0 h; exact h rfl; exact h hm), hw, if_neg (by simp)]
def wgGood (x : List UInt8) : Bool := decide ((wgOne x).1 = 0)
def wgE : List (List UInt8) → Nat
  | [] => 0
  | x :: r => if (wgOne x).1 = 0 then wgE r else (wgOne x).1
def wgW (xs : List (List UInt8)) : List Wgt := xs.map fun x => (wgOne x).2
/-- What Weights answers. -/
def wgR (L : List UInt8) : List Wgt × Nat := if (lsR L).2 ≠ 0 then ([], (lsR L).2) else if wgE (lsR L).1 ≠ 0 then ([], wgE (lsR L).1) else (wgW (lsR L).1, 0)
theorem wgE_at (l : List (List UInt8)) : ∀ (i : Nat) (x : List UInt8), l[i]? = some x → (l.take i).all wgGood = true → (wgOne x).1 ≠ 0 → wgE l = (wgOne x).1 := by
  induction l with
  | nil => intro i x h; simp at h
  | cons y r ih =>
    intro i x h ha hx
    cases i with
    | zero => obtain rfl : y = x := (by simpa using h); rw [wgE, if_neg hx]
    | succ i =>
      rw [List.take_succ_cons, List.all_cons, Bool.and_eq_true] at ha
      rw [wgE, if_pos (by have := ha.1; unfold wgGood at this; simpa using this)]
      exact ih i x (by simpa using h) ha.2 hx
theorem wgE_end (l : List (List UInt8)) (ha : l.all wgGood = true) : wgE l = 0 := by
  induction l with
  | nil => rfl
  | cons y r ih =>
    rw [List.all_cons, Bool.and_eq_true] at ha
    rw [wgE, if_pos (by have := ha.1; unfold wgGood at this; simpa using this)]
    exact ih ha.2
theorem wgR_list (L : List UInt8) (xs : List (List UInt8)) (e : Nat) (h : lsR L = (xs, e)) (he : e ≠ 0) : wgR L = ([], e) := by unfold wgR; rw [h, if_pos he]
theorem wgR_bad (L : List UInt8) (xs : List (List UInt8)) (h : lsR L = (xs, 0)) (i : Nat) (x : List UInt8) (hx : xs[i]? = some x) (ha : (xs.take i).all wgGood = true) (k : Nat) (w : Wgt) (hk : wgOne x = (k, w)) (h0 : k ≠ 0) : wgR L = ([], k) := by
  have := wgE_at xs i x hx ha (by rw [hk]; exact h0)
  rw [hk] at this
  unfold wgR
  rw [h, if_neg (by simp), if_pos (by rw [this]; exact h0), this]
theorem wgR_ok (L : List UInt8) (xs : List (List UInt8)) (h : lsR L = (xs, 0)) (ha : xs.all wgGood = true) : wgR L = (wgW xs, 0) := by
  unfold wgR
  rw [h, if_neg (by simp), if_neg (by rw [wgE_end xs ha]; simp)]
theorem wg_step (xs : List (List UInt8)) (i : Nat) (x : List UInt8) (w : Wgt) (h : xs[i]? = some x) (ha : (xs.take i).all wgGood = true) (hx : wgOne x = (0, w)) : (xs.take (i + 1)).all wgGood = true ∧ wgtsV (wgW (xs.take (i + 1))) = wgtsV (wgW (xs.take i)) ++ [.string ⟨w.1.toArray⟩, .int .i64 w.2] := by
  refine ⟨take_all _ _ _ _ h ha (by unfold wgGood; rw [hx]; rfl), ?_⟩
  unfold wgW
  rw [List.take_add_one, h, Option.toList_some, List.map_append, List.map_cons, List.map_nil, hx, wgtsV_snoc]
  rfl
theorem wgW_len (xs : List (List UInt8)) (i : Nat) (h : i ≤ xs.length) : (wgW (xs.take i)).length = i := by unfold wgW; rw [List.length_map, List.length_take]; omega
theorem trimL_mem (x : List UInt8) : (trimL x).length ≤ x.length := trimL_len x
theorem lstF_len : ∀ (f : Nat) (cur l : List UInt8) (xs : List (List UInt8)), lstF f cur l = some xs → xs.length ≤ l.length + 1 ∧ ∀ x ∈ xs, x.length ≤ cur.length + l.length
  | 0, cur, l, xs, h => by
    simp only [lstF, Option.some.injEq] at h
    subst h
    exact ⟨by simp, fun x hx => by rw [List.mem_singleton] at hx; subst hx; omega⟩
  | f + 1, cur, [], xs, h => by
    simp only [lstF, Option.some.injEq] at h
    subst h
    exact ⟨by simp, fun x hx => by rw [List.mem_singleton] at hx; subst hx; omega⟩
  | f + 1, cur, c :: r, xs, h => by
    rw [lstF.eq_def] at h
    simp only at h
    by_cases h1 : c = 34
    · rw [if_pos h1] at h
      cases hu : unq (c :: r) with
      | none => rw [hu] at h; cases h
      | some y =>
        obtain ⟨y, n⟩ := y
        rw [hu] at h
        have := lstF_len f _ _ xs h
        have hu2 := unq_used _ _ _ hu
        rw [List.length_drop] at this
        refine ⟨by omega, fun x hx => ?_⟩
        have := this.2 x hx
        rw [List.length_append, List.length_take] at this
        omega
    · rw [if_neg h1] at h
      by_cases h2 : c = 44
      · rw [if_pos h2] at h
        simp only [Option.map_eq_some_iff] at h
        obtain ⟨ys, hy, he⟩ := h
        have := lstF_len f [] r ys hy
        rw [← he]
        refine ⟨by rw [List.length_cons, List.length_cons]; omega, fun x hx => ?_⟩
        rw [List.length_cons]
        rcases List.mem_cons.1 hx with hx | hx
        · subst hx; omega
        · have := this.2 x hx
          rw [List.length_nil] at this
          omega
      · rw [if_neg h2] at h
        have := lstF_len f _ r xs h
        rw [List.length_append, List.length_singleton] at this
        rw [List.length_cons]
        exact ⟨by omega, fun x hx => by have := this.2 x hx; omega⟩
theorem lsR_len (L : List UInt8) : (lsR L).1.length ≤ L.length + 1 ∧ ∀ x ∈ (lsR L).1, x.length ≤ L.length := by
  cases h : lstR [] L with
  | none => rw [lsR_none L h]; exact ⟨Nat.zero_le _, fun x hx => by cases hx⟩
  | some xs =>
    rw [lsR_some L xs h]
    have := lstF_len _ _ _ xs h
    refine ⟨Nat.le_trans (fulls_len xs) this.1, fun x hx => ?_⟩
    unfold fulls at hx
    have hx := (List.mem_filter.1 hx).1
    obtain ⟨y, hy, rfl⟩ := List.mem_map.1 hx
    have := this.2 y hy
    rw [List.length_nil] at this
    exact Nat.le_trans (trimL_len y) (by omega)
def WgPost (L : List UInt8) (T : TypeId) (w : World) (e : Ending) (w' : World) : Prop := ∃ v, e = .returned (.tuple #[v, .int .i64 ((wgR L).2 : Nat)]) ∧ w'.ownsRow w.heap.size T 2 v (wgR L).1.length (wgtsV (wgR L).1) ∧ Below w.heap.size w w'
theorem infoOWgt : (Tryd.prog.info? 85).map (fun i => (i.zero, i.size, i.bytes)) = some (some (.agg #[.string ByteArray.empty, .int .i64 0]), 2, 24) := by kernel_rfl
theorem info_partsOW (h : (Tryd.prog.info? 85).map (fun i => (i.zero, i.size, i.bytes)) = some (some (.agg #[.string ByteArray.empty, .int .i64 0]), 2, 24)) : ∃ i, Tryd.prog.info? 85 = some i ∧ i.zero = some (.agg #[.string ByteArray.empty, .int .i64 0]) ∧ i.size = 2 ∧ i.bytes = 24 := by
  obtain ⟨i, hi, he⟩ := Option.map_eq_some_iff.1 h
  simp only [Prod.mk.injEq] at he
  exact ⟨i, hi, he.1, he.2.1, he.2.2⟩
theorem own_parts {w : World} {base : Nat} {T : TypeId} {v : Value} {l : List Par} (h : w.ownsRow base T 3 v l.length (parsV l)) : ∃ ao cap, v = .slice ao l.length cap ∧ l.length ≤ cap ∧ ParAt w ao l := by
  have hp := parsIn_own h
  rcases h.2 with ⟨rfl, h0⟩ | ⟨g, cap, cur, rfl, hb, hg, hn, _⟩
  · obtain ⟨ao, cap, he, hat⟩ := hp
    injection he with h1 h2 h3
    subst h1
    exact ⟨none, 0, by rw [h0], by omega, hat⟩
  · obtain ⟨ao, cap2, he, hat⟩ := hp
    injection he with h1 h2 h3
    subst h1
    exact ⟨_, cap, rfl, hn, hat⟩
theorem plen_of (x : List UInt8) (n m e : Nat) (ps : List Par) (h : parR (x.drop n) = (ps, m, e)) (hx : x.length ≤ 1048576) : PLen ps := fun i p hp => by
  have h1 := (parR_bd7 _ ps m e h).2.2 p (List.mem_of_getElem? hp)
  have h2 := (parR_good _ ps m e h p (List.mem_of_getElem? hp)).1
  rw [List.length_drop] at h1 h2
  omega
theorem psn_of (x : List UInt8) (n m e : Nat) (ps : List Par) (h : parR (x.drop n) = (ps, m, e)) (hx : x.length ≤ 1048576) : ps.length ≤ 1073741824 ∧ m ≤ 1048576 := by
  have h1 := parR_bd7 _ ps m e h
  rw [List.length_drop] at h1
  omega
theorem sz20 (n : Nat) (h : n ≤ 1048576) : n ≤ 1099511627776 ∧ n ≤ 1073741824 := by omega
theorem dsz20 (t : ByteArray) (n : Nat) (h : t.size ≤ 1048576) : (⟨(t.data.toList.drop n).toArray⟩ : ByteArray).size ≤ 1099511627776 := by rw [size_mk, List.length_drop, size_list]; omega
theorem tsz20 (t : ByteArray) (n : Nat) (h : t.size ≤ 1048576) : (⟨(t.data.toList.take n).toArray⟩ : ByteArray).size ≤ 1099511627776 := by rw [size_mk, List.length_take, size_list]; omega
theorem xsn_bd (i n : Nat) (h : i < n) (hn : n ≤ 1048577) : i + 1 ≤ maxLen ∧ (i + 1) * 24 ≤ 140737488355328 ∧ i ≤ 2199023255552 := by unfold maxLen; omega
theorem w64_20 (a b c : Nat) (h : a + b = c) (ha : a ≤ 1048576) (hb : b ≤ 1048576) : wrap64 (c : Int) = (c : Int) ∧ IntKind.i64.wrap (c : Int) = (c : Int) := w64le7 c (by omega)
set_option maxHeartbeats 16000000 in
theorem oweights_any (s : ByteArray) (mm : Int) (w : World) (hs : s.size ≤ 1048576) (hx : w.cell? ⟨1, 0, none⟩ = some (.int .i64 mm)) (hg : SgAt w) : Calls Tryd.prog 38 #[.string s] w (WgPost s.data.toList 85 w) := by
  obtain ⟨i0, hi0, hz0, hz1, hz2⟩ := info_partsOW infoOWgt
  have hl := olist_any s w (sz20 _ hs).2
  unfold LsPost at hl
  have hlen := lsR_len s.data.toList
  obtain ⟨⟨xs, er⟩, hr⟩ : ∃ r, lsR s.data.toList = r := ⟨_, rfl⟩
  rw [hr] at hl hlen
  have HX := Lib.hid (And.intro hx hg)
  have hxn : xs.length ≤ 1048577 := by have := hlen.1; rw [size_list] at this; simp only at this; omega
  have hxl : ∀ x ∈ xs, x.length ≤ 1048576 := fun x hx => by have := hlen.2 x hx; rw [size_list] at this; omega
  have HL := Lib.hid hl; have HXL := Lib.hid hxl
  clear hl hlen hx hg hxl
  by_cases her : er = 0
  · subst her
    have HR := Lib.hid hr
    clear hr
    go_enter Tryd.func38, Tryd.ntmps38
    go_wp2_with fail
    refine (HL.out).mono ?_
    rintro e w1 ⟨lv, rfl, hown, hb1⟩
    obtain ⟨lo, lcap, rfl, hat⟩ := txtsIn_own hown
    have HAT := Lib.hid hat; have HB1 := Lib.hid hb1
    clear hown hb1 hat
    go_wp2
    go_loopw [25, 6] (fun iv ov wr => ∃ i : Nat, iv = .int .i64 i ∧ i ≤ xs.length ∧ (xs.take i).all wgGood = true ∧ wr.ownsRow w1.heap.size 85 2 ov i (wgtsV (wgW (xs.take i))) ∧ Below w1.heap.size w1 wr) (fun iv _ _ => xs.length - (intOf iv).toNat)
    case atStart => exact ⟨0, rfl, Nat.zero_le _, rfl, World.ownsRow_nil _ _ _ _, Below.refl _ _⟩
    case round =>
      obtain ⟨i, rfl, hi, hok, hown, hb⟩ := hrel
      by_cases hil : i < xs.length
      · obtain ⟨x, hxi⟩ : ∃ x, xs[i]? = some x := ⟨_, List.getElem?_eq_getElem hil⟩
        obtain ⟨g, o, rfl, _, c0⟩ := HAT.out.below hb i x hxi
        have hxsz := HXL.out x (List.mem_of_getElem? hxi)
        obtain ⟨t, ht⟩ : ∃ t : ByteArray, (⟨x.toArray⟩ : ByteArray) = t := ⟨_, rfl⟩
        have htx : t.data.toList = x := by rw [← ht]
        rw [ht] at c0
        have hts : t.size ≤ 1048576 := by rw [← size_list, htx]; exact hxsz
        have hbd := xsn_bd i xs.length hil hxn
        have i0' : (0 : Int) ≤ (i : Int) := Int.natCast_nonneg _
        have i1 : (i : Int) < (xs.length : Int) := by omega
        have hwi := wrap64_small i hbd.2.2
        have hwb : Below w.heap.size w wr := HB1.out.trans (hb.mono HB1.out.size)
        have hgr := HX.out.2.below hwb
        have hwd := word_any t wr (sz20 _ hts).1 hgr
        obtain ⟨n, hn⟩ : ∃ n, runL isSg x = n := ⟨_, rfl⟩
        rw [htx, hn] at hwd
        have hns : n ≤ t.size := by rw [← hn, ← size_list, htx]; exact runL_le _ _
        have n0 : (0 : Int) ≤ (n : Int) := Int.natCast_nonneg _
        have n1 : (n : Int) ≤ (t.size : Int) := by omega
        have hx3 := ext_back t n
        have hx4 := ext_front t n
        obtain ⟨⟨ps, m, pe⟩, hpr⟩ : ∃ r, parR (x.drop n) = r := ⟨_, rfl⟩
        have hpa := oparams_any ⟨(t.data.toList.drop n).toArray⟩ wr (dsz20 t n hts) hgr
        unfold ParamsPost at hpa
        rw [show (⟨(t.data.toList.drop n).toArray⟩ : ByteArray).data.toList = t.data.toList.drop n from rfl, htx, hpr] at hpa
        rw [htx] at hx3 hx4
        have hps := psn_of x n m pe ps hpr hxsz
        have hpp := plen_of x n m pe ps hpr hxsz
        have HWD := Lib.hid hwd; have HPA := Lib.hid hpa; have HPR := Lib.hid (And.intro hn hpr)
        have HO := Lib.hid hown; have HB := Lib.hid hb; have HW := Lib.hid hwi; have HOK := Lib.hid hok; have HXI := Lib.hid hxi
        have HSZ := Lib.hid (And.intro hps (And.intro hpp hts)); have HT := Lib.hid htx; have HWB := Lib.hid hwb
        have hxt : x.length = t.size := by rw [← size_list, htx]
        have HXT := Lib.hid hxt
        clear hwd hpa hn hpr hown hb hwi hok hxi hps hpp hxsz ht htx hwb hgr hns hxt hts
        go_wp2_with fail
        refine (HWD.out).mono ?_
        rintro e w2 ⟨rfl, hw2⟩
        rw [hw2]
        clear hw2
        go_wp2_with fail
        refine (HPA.out).mono ?_
        rintro e w3 ⟨pv, rfl, hpo, hb3⟩
        obtain ⟨pao, pcap, rfl, hpc, hpat⟩ := own_parts hpo
        have hb3' := HB.out.trans (hb3.mono HB.out.size)
        have HB3 := Lib.hid hb3'
        have HO3 := Lib.hid (own_later HO.out hb3)
        have HWB3 := Lib.hid (HWB.out.trans (hb3.mono HWB.out.size))
        have HPT := Lib.hid (And.intro hpc hpat)
        clear hb3 hb3' hpo hpc hpat c0
        by_cases hn0 : n = 0
        · have b0 : ((n : Int) == 0) = true := by rw [hn0]; rfl
          have HE := Lib.hid (wgR_bad _ xs HR.out i x HXI.out HOK.out 10 _ (wgOne_bad x n m pe ps HPR.out.1 HPR.out.2 (Or.inl hn0)) (by decide))
          clear hn0
          go_wp2
          go_ret2
          unfold WgPost
          rw [HE.out]
          exact ⟨_, rfl, World.ownsRow_nil _ _ _ _, HWB3.out⟩
        · have b0 : ((n : Int) == 0) = false := beq_false_of_ne (by omega)
          have HN0 := Lib.hid hn0
          by_cases hpe : pe = 0
          · subst hpe
            by_cases hq : n + m = t.size
            · have f3 : (n : Int) + (m : Int) = (t.size : Int) := by omega
              have fb : ((t.size : Int) != (t.size : Int)) = false := by simp
              obtain ⟨hwS, hwS2⟩ := w64le7 t.size (Nat.le_trans HSZ.out.2.2 (by decide))
              have HQ := Lib.hid (show n + m = x.length by rw [HXT.out]; exact hq)
              have hwt := oweight_any pao pcap ps mm w3 HSZ.out.1.1 HPT.out.1 HSZ.out.2.1 HPT.out.2 (mx_later (B := 0) HX.out.1 HWB3.out)
              obtain ⟨⟨ah, q, qe⟩, hw⟩ : ∃ r, wtP ps = r := ⟨_, rfl⟩
              rw [hw] at hwt
              have HWT := Lib.hid hwt; have HWP := Lib.hid hw
              clear hq hwt hw hn0
              go_wp2_with fail
              refine (HWT.out).mono ?_
              rintro e w4 ⟨cc, rfl, hb4⟩
              rw [show wtV (.slice pao ah.length cc) (ah, q, qe) = .tuple #[.slice pao ah.length cc, .int .i64 (q : Nat), .int .i64 (qe : Nat)] from rfl]
              have hb4' := HB3.out.trans (hb4.mono HB3.out.size)
              have HB4 := Lib.hid hb4'
              have HO4 := Lib.hid (own_later HO3.out hb4)
              have HWB4 := Lib.hid (HWB3.out.trans (hb4.mono HWB3.out.size))
              clear hb4 hb4'
              by_cases hqe : qe = 0
              · subst hqe
                have hst := wg_step xs i x _ HXI.out HOK.out (wgOne_ok x n m ps ah q HPR.out.1 HPR.out.2 HN0.out HQ.out HWP.out)
                have hlw := olower_any ⟨(t.data.toList.take n).toArray⟩ w4 (tsz20 t n HSZ.out.2.2)
                rw [show (⟨(t.data.toList.take n).toArray⟩ : ByteArray).data.toList = t.data.toList.take n from rfl, HT.out] at hlw
                obtain ⟨lw, hlw2⟩ : ∃ y, lowL (x.take n) = y := ⟨_, rfl⟩
                rw [hlw2] at hst hlw
                have HST := Lib.hid hst; have HLW := Lib.hid hlw
                clear hst hlw hlw2
                go_wp2_with fail
                refine (HLW.out).mono ?_
                rintro e w5 ⟨rfl, hb5⟩
                have hb5' := HB4.out.trans (hb5.mono HB4.out.size)
                have hbz5 := hb5'.size
                have HB5 := Lib.hid hb5'
                have HO5 := Lib.hid (own_later HO4.out hb5)
                clear hb5 hb5'
                go_wp2_with (at_builtin; refine wpList_append_own _ rfl (.tmp 62) (.tmp 69) 43 rfl w1.heap.size 85 i0 (.agg #[.string ByteArray.empty, .int .i64 0]) 2 24 Tryd.underlying43 hi0 hz0 hz1 hz2 rfl (by decide) _ _ _ rfl (HO5.out.alloc _) ⟨w5.heap.size, 0, none⟩ 1 1 [.string ⟨lw.toArray⟩, .int .i64 (q : Nat)] rfl rfl (cells_new w5 85 _) (by simp [Value.oneCell']) hbd.1 hbd.2.1 ?dd ?_)
                case dd => simp; omega
                intro v1 w6 hI6 hg6 _
                have hb6 : Below w1.heap.size w1 w6 := (HB5.out.alloc hbz5 _).grown hg6 (alloc_le hbz5 _) (fun k hk => (HO5.out.lt k hk).1)
                have HI6 := Lib.hid hI6; have HB6 := Lib.hid hb6
                clear hI6 hg6 hb6
                go_wp2
                have hwi := HW.out
                go_roundw
                case rel => (try rw [hwi]); clear hwi; exact ⟨i + 1, by go_num, hil, HST.out.1, by rw [HST.out.2]; exact HI6.out, HB6.out⟩
                case measure => (try rw [hwi]); clear hwi; simp [intOf]; omega
              · have fe : ((qe : Int) != 0) = true := by simp; omega
                have HE := Lib.hid (wgR_bad _ xs HR.out i x HXI.out HOK.out qe _ (wgOne_q x n m ps ah q qe HPR.out.1 HPR.out.2 HN0.out HQ.out HWP.out hqe) hqe)
                clear hqe
                go_wp2
                go_ret2
                unfold WgPost
                rw [HE.out]
                exact ⟨_, rfl, World.ownsRow_nil _ _ _ _, HWB4.out⟩
            · obtain ⟨Q1, hQ1⟩ : ∃ Q1, n + m = Q1 := ⟨_, rfl⟩
              have f3 : (n : Int) + (m : Int) = (Q1 : Int) := by omega
              have fb : ((Q1 : Int) != (t.size : Int)) = true := by simp; omega
              obtain ⟨hwS, hwS2⟩ := w64_20 n m Q1 hQ1 (by have := HSZ.out.2.2; omega) HSZ.out.1.2
              have HE := Lib.hid (wgR_bad _ xs HR.out i x HXI.out HOK.out 10 _ (wgOne_bad x n m 0 ps HPR.out.1 HPR.out.2 (Or.inr (Or.inr (by rw [HXT.out]; exact hq)))) (by decide))
              clear hq hQ1 hn0
              go_wp2
              go_ret2
              unfold WgPost
              rw [HE.out]
              exact ⟨_, rfl, World.ownsRow_nil _ _ _ _, HWB3.out⟩
          · have fe : ((pe : Int) != 0) = true := by simp; omega
            have fe2 : ((pe : Int) == 0) = false := beq_false_of_ne (by omega)
            have HE := Lib.hid (wgR_bad _ xs HR.out i x HXI.out HOK.out 10 _ (wgOne_bad x n m pe ps HPR.out.1 HPR.out.2 (Or.inr (Or.inl hpe))) (by decide))
            clear hpe hn0
            go_wp2
            go_ret2
            unfold WgPost
            rw [HE.out]
            exact ⟨_, rfl, World.ownsRow_nil _ _ _ _, HWB3.out⟩
      · obtain rfl : xs.length = i := by omega
        have hd : decide (xs.length < xs.length) = false := decide_eq_false (Nat.lt_irrefl _)
        rw [List.take_length] at hok hown
        have HF := Lib.hid (wgR_ok _ xs HR.out hok)
        have HO2 := Lib.hid (own_base hown HB1.out.size)
        have HBX := Lib.hid (HB1.out.trans (hb.mono HB1.out.size))
        clear hown hb hok
        go_wp2
        go_ret2
        unfold WgPost
        rw [HF.out]
        exact ⟨_, rfl, by show World.ownsRow _ _ _ _ _ (wgW xs).length _; rw [show (wgW xs).length = xs.length from by unfold wgW; rw [List.length_map]]; exact HO2.out, HBX.out⟩
  · have HR := Lib.hid (wgR_list _ xs er hr her)
    have hbe : ((er : Int) != 0) = true := by simp; omega
    clear hr her
    go_enter Tryd.func38, Tryd.ntmps38
    go_wp2_with fail
    refine (HL.out).mono ?_
    rintro e w1 ⟨lv, rfl, hown, hb1⟩
    have HB1 := Lib.hid hb1
    clear hown hb1
    go_wp2
    go_ret2
    unfold WgPost
    rw [HR.out]
    exact ⟨_, rfl, World.ownsRow_nil _ _ _ _, HB1.out⟩
theorem fulls_dlen (l : List (List UInt8)) (n : Nat) (h : l.length ≤ n) : (fulls l).length ≤ n := Nat.le_trans (fulls_len l) h
theorem btw_len40 (s : ByteArray) (fr a : Nat) (hs : s.size ≤ 1073741824) : (btw s.data.toList fr a).length ≤ 1099511627776 := Nat.le_trans (btw_len _ _ _) (by rw [size_list]; exact Nat.le_trans hs (by decide))
set_option maxHeartbeats 16000000 in
theorem rlist_any (s : ByteArray) (w : World) (hs : s.size ≤ 1073741824) : Calls Tryd.prog 78 #[.string s] w (LsPost s.data.toList w) := by
  obtain ⟨i0, hi0, hz0, hz1, hz2⟩ := info_partsS7 infoStr7
  have hbb : Below w.heap.size w (w.alloc (.cells #[] 9)) := (Below.refl _ w).alloc (Nat.le_refl _) _
  have hrm : (w.alloc (.cells #[] 9)).ownsRow w.heap.size 9 1 (.slice (some ⟨w.heap.size, 0, none⟩) 0 0) 0 [] := World.ownsRow_made w #[] 0 (Nat.le_refl _) (by simp) rfl
  go_enter Tryd.func78, Tryd.ntmps78
  go_wp2
  go_loopw [6, 5, 4] (fun av fv ov wr => ∃ (a fr : Nat), av = .int .i64 a ∧ fv = .int .i64 fr ∧ ((∃ done, LstR s.data.toList fr a done ∧ wr.ownsRow w.heap.size 9 1 ov (fulls done).length (strV (fulls done))) ∨ (∃ all, a = s.size + 1 ∧ lstR [] s.data.toList = some all ∧ wr.ownsRow w.heap.size 9 1 ov (fulls all).length (strV (fulls all)))) ∧ Below w.heap.size w wr) (fun av _ _ _ => s.size + 1 - (intOf av).toNat)
  case atStart => exact ⟨0, 0, rfl, rfl, Or.inl ⟨[], LstR.start _, hrm⟩, hbb⟩
  case round =>
    clear hbb hrm
    obtain ⟨a, fr, rfl, rfl, hor, hb⟩ := hrel
    have HB := Lib.hid hb
    have hbz := hb.size
    rcases hor with ⟨done, hR, hown⟩ | ⟨all, ha, hall, hown⟩
    · have has : a ≤ s.size := by have := hR.2.1; rw [size_list] at this; exact this
      have hdn : done.length ≤ s.size := Nat.le_trans hR.2.2.1 (Nat.le_trans hR.1 has)
      have hbd := str_bd7 (fulls done).length s.size (fulls_dlen _ _ hdn) (Nat.le_trans hs (by decide))
      have f0 : (0 : Int) ≤ (fr : Int) := Int.natCast_nonneg _
      have f1 : (fr : Int) ≤ (a : Int) := by have := hR.1; omega
      have f2 : (a : Int) ≤ (s.size : Int) := by omega
      have HR := Lib.hid hR; have HO := Lib.hid hown
      have hx := btw_ext s fr a
      have hcl := btw_len40 s fr a hs
      clear hR hown hb hdn
      by_cases hlt : a < s.size
      · obtain ⟨c, hc⟩ : ∃ c, s[a]'hlt = c := ⟨_, rfl⟩
        have hget := list_get s a hlt
        rw [hc] at hget
        have k0 : (0 : Int) ≤ (a : Int) := Int.natCast_nonneg _
        have k1 : (a : Int) < (s.size : Int) := by omega
        have k2 : ((a : Int) == (s.size : Int)) = false := beq_false_of_ne (by omega)
        have hwi := wrap64_small a (Nat.le_trans has (Nat.le_trans hs (by decide)))
        have HW := Lib.hid hwi
        clear hwi
        by_cases h44 : c = 44
        · have b44 : ((c.toNat : Int) == 44) = true := by rw [h44]; rfl
          have hst := HR.out.comma (by rw [hget, h44])
          obtain ⟨cur, hcur⟩ : ∃ x, btw s.data.toList fr a = x := ⟨_, rfl⟩
          rw [hcur] at hx hst hcl
          have HST := Lib.hid hst
          clear h44 hget hcur hst
          have hfs := fulls_snoc done cur
          obtain ⟨t, ht⟩ : ∃ t, trimL cur = t := ⟨_, rfl⟩
          have htr := rtrim_any ⟨cur.toArray⟩ wr (by rw [size_mk]; exact hcl)
          rw [show (⟨cur.toArray⟩ : ByteArray).data.toList = cur from rfl, ht] at htr
          rw [ht] at hfs
          have HT := Lib.hid htr
          clear htr ht hcl
          by_cases hte : t = []
          · rw [if_pos hte, List.append_nil] at hfs
            have HFS := Lib.hid hfs
            subst hte
            clear hfs
            go_wp2_with fail
            refine (HT.out).mono ?_
            rintro e w5 ⟨rfl, hw5⟩
            rw [hw5]
            clear hw5
            go_wp2
            have hwi := HW.out
            go_roundw
            case rel => (try rw [hwi]); clear hwi; exact ⟨a + 1, a + 1, by go_num, by go_num, Or.inl ⟨done ++ [cur], HST.out, by rw [HFS.out]; exact HO.out⟩, HB.out⟩
            case measure => (try rw [hwi]); clear hwi; (simp [intOf] <;> omega)
          · rw [if_neg hte] at hfs
            have HFS := Lib.hid hfs
            have hbe : (t == []) = false := beq_false_of_ne hte
            have hbe2 : t.isEmpty = false := by cases t with | nil => exact absurd rfl hte | cons => rfl
            clear hfs
            go_wp2_with fail
            refine (HT.out).mono ?_
            rintro e w5 ⟨rfl, hw5⟩
            rw [hw5]
            clear hw5
            go_wp2_with (at_builtin; refine wpList_append_own _ rfl (.tmp 33) (.tmp 35) 44 rfl w.heap.size 9 i0 (.string ByteArray.empty) 1 16 Tryd.underlying44 hi0 hz0 hz1 hz2 rfl (by decide) _ _ _ rfl (HO.out.alloc _) ⟨wr.heap.size, 0, none⟩ 1 1 [.string ⟨t.toArray⟩] rfl rfl (cells_new wr 9 _) (by simp [Value.oneCell']) hbd.1 hbd.2 ?dd ?_)
            case dd => simp; omega
            intro v2 w6 hI6 hg6 _
            have hb6 : Below w.heap.size w w6 := (HB.out.alloc hbz _).grown hg6 (alloc_le hbz _) (fun k hk => (HO.out.lt k hk).1)
            have HI6 := Lib.hid hI6; have HB6 := Lib.hid hb6
            clear hI6 hg6 hb6
            go_wp2
            have hwi := HW.out
            go_roundw
            case rel => (try rw [hwi]); clear hwi; exact ⟨a + 1, a + 1, by go_num, by go_num, Or.inl ⟨done ++ [cur], HST.out, by rw [HFS.out, strV_snoc, List.length_append]; exact HI6.out⟩, HB6.out⟩
            case measure => (try rw [hwi]); clear hwi; (simp [intOf] <;> omega)
        · have b44 : ((c.toNat : Int) == 44) = false := (ne_u8o c 44 (by decide) h44).1
          clear hx hcl
          by_cases h34 : c = 34
          · have b34 : ((c.toNat : Int) == 34) = true := by rw [h34]; rfl
            have hg34 : s.data.toList[a]? = some 34 := by rw [hget, h34]
            have hx3 := ext_back s a
            have hu := runq_any ⟨(s.data.toList.drop a).toArray⟩ wr (by rw [size_mk, List.length_drop, size_list]; omega)
            rw [show (⟨(s.data.toList.drop a).toArray⟩ : ByteArray).data.toList = s.data.toList.drop a from rfl] at hu
            cases hq : unq (s.data.toList.drop a) with
            | none =>
              rw [hq, show unqRet none = .tuple #[.string ⟨#[]⟩, .int .i64 0, .int .i64 13] from rfl] at hu
              have HU := Lib.hid hu
              have HN := Lib.hid (lsR_none _ (HR.out.bad hg34 hq))
              clear hu hq hg34 hget h34
              go_wp2_with fail
              refine (HU.out).mono ?_
              rintro e w1 ⟨rfl, hb1⟩
              have hb1' := HB.out.trans (hb1.mono HB.out.size)
              have HM := Lib.hid (World.ownsRow_made (e := 9) (base := w.heap.size) (size := 1) w1 #[] 0 hb1'.size (by decide) rfl)
              have HB1 := Lib.hid (hb1'.alloc hb1'.size (.cells #[] 9))
              clear hb1 hb1'
              go_wp2
              go_ret2
              unfold LsPost
              rw [HN.out]
              exact ⟨_, rfl, HM.out, HB1.out⟩
            | some xn =>
              obtain ⟨x, n⟩ := xn
              rw [hq, show unqRet (some (x, n)) = .tuple #[.string ⟨x.toArray⟩, .int .i64 (n : Int), .int .i64 0] from rfl] at hu
              have HU := Lib.hid hu
              have hst := HR.out.quote hg34 hq
              have hn1 : a + n ≤ s.size := by have := hst.1.2.1; rw [size_list] at this; exact this
              obtain ⟨a1, ha1⟩ : ∃ a1, a + n = a1 := ⟨_, rfl⟩
              have fn : (a : Int) + (n : Int) = (a1 : Int) := by omega
              have hnp := hst.2
              have hm : s.size + 1 - a1 < s.size + 1 - a := by omega
              rw [ha1] at hst
              have hw1 : wrap64 (a1 : Int) = (a1 : Int) ∧ IntKind.i64.wrap (a1 : Int) = (a1 : Int) := w64le7 a1 (by rw [← ha1]; exact Nat.le_trans hn1 (Nat.le_trans hs (by decide)))
              obtain ⟨hwa, hwb⟩ := hw1
              have HST := Lib.hid (And.intro hst.1 hm)
              clear hu hq hg34 hget h34 hst hn1 hnp ha1 hm
              go_wp2_with fail
              refine (HU.out).mono ?_
              rintro e w1 ⟨rfl, hb1⟩
              have HB1 := Lib.hid (HB.out.trans (hb1.mono HB.out.size))
              have HO1 := Lib.hid (own_later HO.out hb1)
              clear hb1
              go_wp2
              go_roundw
              case rel => exact ⟨a1, fr, rfl, rfl, Or.inl ⟨done, HST.out.1, HO1.out⟩, HB1.out⟩
              case measure => have := HST.out.2; simp [intOf]; omega
          · have b34 : ((c.toNat : Int) == 34) = false := (ne_u8o c 34 (by decide) h34).1
            have HST := Lib.hid (HR.out.other hget h34 h44)
            clear h34 h44 hget
            go_wp2
            have hwi := HW.out
            go_roundw
            case rel => (try rw [hwi]); clear hwi; exact ⟨a + 1, fr, by go_num, rfl, Or.inl ⟨done, HST.out, HO.out⟩, HB.out⟩
            case measure => (try rw [hwi]); clear hwi; (simp [intOf] <;> omega)
      · obtain rfl : s.size = a := by omega
        have k2 : ((s.size : Int) == (s.size : Int)) = true := by simp
        have hwi := wrap64_small s.size (Nat.le_trans hs (by decide))
        have HW := Lib.hid hwi
        have hfin := LstR.fin (L := s.data.toList) (fr := fr) (done := done) (by rw [size_list]; exact HR.out)
        have hbe0 : s.data.toList.drop fr = btw s.data.toList fr s.size := by rw [← btw_end, size_list]
        obtain ⟨cur, hcur⟩ : ∃ x, btw s.data.toList fr s.size = x := ⟨_, rfl⟩
        rw [hbe0, hcur] at hfin
        rw [hcur] at hx hcl
        have HST := Lib.hid hfin
        clear hwi hfin hbe0 hcur hlt
        have hfs := fulls_snoc done cur
        obtain ⟨t, ht⟩ : ∃ t, trimL cur = t := ⟨_, rfl⟩
        have htr := rtrim_any ⟨cur.toArray⟩ wr (by rw [size_mk]; exact hcl)
        rw [show (⟨cur.toArray⟩ : ByteArray).data.toList = cur from rfl, ht] at htr
        rw [ht] at hfs
        have HT := Lib.hid htr
        clear htr ht hcl
        by_cases hte : t = []
        · rw [if_pos hte, List.append_nil] at hfs
          have HFS := Lib.hid hfs
          subst hte
          clear hfs
          go_wp2_with fail
          refine (HT.out).mono ?_
          rintro e w5 ⟨rfl, hw5⟩
          rw [hw5]
          clear hw5
          go_wp2
          have hwi := HW.out
          go_roundw
          case rel => (try rw [hwi]); clear hwi; exact ⟨s.size + 1, s.size + 1, by go_num, by go_num, Or.inr ⟨done ++ [cur], rfl, HST.out, by rw [HFS.out]; exact HO.out⟩, HB.out⟩
          case measure => (try rw [hwi]); clear hwi; (simp [intOf] <;> omega)
        · rw [if_neg hte] at hfs
          have HFS := Lib.hid hfs
          have hbe : (t == []) = false := beq_false_of_ne hte
          have hbe2 : t.isEmpty = false := by cases t with | nil => exact absurd rfl hte | cons => rfl
          clear hfs
          go_wp2_with fail
          refine (HT.out).mono ?_
          rintro e w5 ⟨rfl, hw5⟩
          rw [hw5]
          clear hw5
          go_wp2_with (at_builtin; refine wpList_append_own _ rfl (.tmp 33) (.tmp 35) 44 rfl w.heap.size 9 i0 (.string ByteArray.empty) 1 16 Tryd.underlying44 hi0 hz0 hz1 hz2 rfl (by decide) _ _ _ rfl (HO.out.alloc _) ⟨wr.heap.size, 0, none⟩ 1 1 [.string ⟨t.toArray⟩] rfl rfl (cells_new wr 9 _) (by simp [Value.oneCell']) hbd.1 hbd.2 ?dd ?_)
          case dd => simp; omega
          intro v2 w6 hI6 hg6 _
          have hb6 : Below w.heap.size w w6 := (HB.out.alloc hbz _).grown hg6 (alloc_le hbz _) (fun k hk => (HO.out.lt k hk).1)
          have HI6 := Lib.hid hI6; have HB6 := Lib.hid hb6
          clear hI6 hg6 hb6
          go_wp2
          have hwi := HW.out
          go_roundw
          case rel => (try rw [hwi]); clear hwi; exact ⟨s.size + 1, s.size + 1, by go_num, by go_num, Or.inr ⟨done ++ [cur], rfl, HST.out, by rw [HFS.out, strV_snoc, List.length_append]; exact HI6.out⟩, HB6.out⟩
          case measure => (try rw [hwi]); clear hwi; (simp [intOf] <;> omega)
    · subst ha
      have hd : decide ((s.size : Int) + 1 ≤ (s.size : Int)) = false := decide_eq_false (by omega)
      have k5 : (s.size : Int) < (s.size : Int) + 1 := by omega
      have HN := Lib.hid (lsR_some _ all hall); have HO := Lib.hid hown
      clear hall hown hb
      go_wp2
      go_ret2
      unfold LsPost
      rw [HN.out]
      exact ⟨_, rfl, HO.out, HB.out⟩
/-- Parameters at the head of a block of their type. -/
def ParBlk (w : World) (L : Nat) (P : TypeId) (sv : Value) (ps : List Par) : Prop := ∃ ao cap, sv = .slice ao ps.length cap ∧ ((ao = none ∧ ps = []) ∨ ∃ g cur, ao = some ⟨g, 0, none⟩ ∧ L ≤ g ∧ BlkIs w g cur P ∧ ∀ i p, ps[i]? = some p → cur[i * 3]? = some (.string ⟨p.1.toArray⟩) ∧ cur[i * 3 + 1]? = some (.string ⟨p.2.1.toArray⟩) ∧ cur[i * 3 + 2]? = some (.bool p.2.2))
theorem ParBlk.isIn {w : World} {L : Nat} {P : TypeId} {sv : Value} {ps : List Par} (h : ParBlk w L P sv ps) : ParsIn w sv ps := by
  obtain ⟨ao, cap, rfl, h⟩ := h
  refine ⟨ao, cap, rfl, fun i p hp => ?_⟩
  rcases h with ⟨_, rfl⟩ | ⟨g, cur, rfl, _, hg, hc⟩
  · simp at hp
  · have := hc i p hp
    rw [show (0 : Nat) = 0 from rfl]
    refine ⟨g, 0, rfl, hg.lt, ?_, ?_, ?_⟩
    · rw [Nat.zero_add]; exact hg.cell _ _ this.1
    · rw [Nat.zero_add]; exact hg.cell _ _ this.2.1
    · rw [Nat.zero_add]; exact hg.cell _ _ this.2.2
theorem ParBlk.later {w w' : World} {L : Nat} {P : TypeId} {sv : Value} {ps : List Par} (h : ParBlk w L P sv ps) (hb : Below w.heap.size w w') : ParBlk w' L P sv ps := by
  obtain ⟨ao, cap, rfl, h⟩ := h
  exact ⟨ao, cap, rfl, h.imp id (fun ⟨g, cur, e, hl, hg, hc⟩ => ⟨g, cur, e, hl, hg.later hb, hc⟩)⟩
theorem ParBlk.grown {w w' : World} {L Lr n s : Nat} {P T : TypeId} {sv v : Value} {ps : List Par} {xs : List Value} (h : ParBlk w L P sv ps) (hown : w.ownsRow Lr T s v n xs) (hne : T ≠ P) (hg : w.grownBy w' v.ownBlock) : ParBlk w' L P sv ps := by
  obtain ⟨ao, cap, rfl, h⟩ := h
  exact ⟨ao, cap, rfl, h.imp id (fun ⟨g, cur, e, hl, hb, hc⟩ => ⟨g, cur, e, hl, hb.grown hg (own_blk hown hb hne), hc⟩)⟩
theorem ParBlk.base {w : World} {L L' : Nat} {P : TypeId} {sv : Value} {ps : List Par} (h : ParBlk w L P sv ps) (hl : L' ≤ L) : ParBlk w L' P sv ps := by
  obtain ⟨ao, cap, rfl, h⟩ := h
  exact ⟨ao, cap, rfl, h.imp id (fun ⟨g, cur, e, hl2, hg, hc⟩ => ⟨g, cur, e, Nat.le_trans hl hl2, hg, hc⟩)⟩
theorem parBlk_own {w : World} {L : Nat} {P : TypeId} {sv : Value} {ps : List Par} (h : w.ownsRow L P 3 sv ps.length (parsV ps)) : ParBlk w L P sv ps := by
  rcases h.2 with ⟨rfl, h0⟩ | ⟨g, cap, cur, rfl, hb, hg, hn, hm, hs, ht⟩
  · exact ⟨none, 0, by rw [h0], Or.inl ⟨rfl, List.eq_nil_of_length_eq_zero h0⟩⟩
  · refine ⟨_, cap, rfl, Or.inr ⟨g, cur, rfl, hb, hg, fun i p hp => ?_⟩⟩
    have hv := parsV_get ps i p hp
    have hi : i < ps.length := (List.getElem?_eq_some_iff.1 hp).1
    have hk : ∀ k, k < 3 → ∀ u, (parsV ps)[i * 3 + k]? = some u → cur[i * 3 + k]? = some u := fun k hk u hu => by
      rw [← ht, List.getElem?_take] at hu
      split at hu
      · rw [Array.getElem?_toList] at hu; exact hu
      · cases hu
    exact ⟨hk 0 (by decide) _ hv.1, hk 1 (by decide) _ hv.2.1, hk 2 (by decide) _ hv.2.2⟩
theorem parBlk_take {w : World} {L k c cap : Nat} {P : TypeId} {ao : Option Addr} {ps : List Par} (h : ParBlk w L P (.slice ao ps.length cap) ps) (hk : k ≤ ps.length) : ParBlk w L P (.slice ao (ps.take k).length c) (ps.take k) := by
  obtain ⟨ao2, cap2, he, h⟩ := h
  injection he with h1 h2 h3
  subst h1
  refine ⟨ao, c, rfl, ?_⟩
  rcases h with ⟨h, rfl⟩ | ⟨g, cur, e, hl, hg, hc⟩
  · exact Or.inl ⟨h, by simp⟩
  · refine Or.inr ⟨g, cur, e, hl, hg, fun i p hp => hc i p ?_⟩
    rw [List.getElem?_take] at hp
    split at hp
    · exact hp
    · cases hp
theorem wtP_pre (l : List Par) : ∃ k, k ≤ l.length ∧ (wtP l).1 = l.take k := by
  induction l with
  | nil => exact ⟨0, Nat.le_refl _, rfl⟩
  | cons p r ih =>
    rw [wtP]
    split
    · exact ⟨0, Nat.zero_le _, rfl⟩
    · obtain ⟨k, hk, he⟩ := ih
      exact ⟨k + 1, by rw [List.length_cons]; omega, by show p :: (wtP r).1 = _; rw [he]; rfl⟩
/-- A row of ranges of the call's own; the parameters of each stand in blocks of their own. -/
def KRngs (w : World) (L : Nat) (T P : TypeId) (v : Value) (l : List Rng) : Prop := ∃ X : List RgV, X.map rngOf = l ∧ w.ownsRow L T 4 v l.length (rngsV X) ∧ ∀ p ∈ X, ParBlk w L P p.1.2 p.1.1.ps
theorem KRngs.isIn {w : World} {L : Nat} {T P : TypeId} {v : Value} {l : List Rng} (h : KRngs w L T P v l) : RngsIn w v l := by
  obtain ⟨X, rfl, hown, hall⟩ := h
  rcases hown.2 with ⟨rfl, h0⟩ | ⟨g, cap, cur, rfl, hb, hg, _⟩
  · exact ⟨none, 0, by rw [h0], fun i p hp => by
      obtain ⟨q, hq, _⟩ := map_get hp
      have := List.length_pos_of_mem (List.mem_of_getElem? hq); rw [List.length_map] at h0; omega⟩
  · have hlt : g < w.heap.size := (Array.getElem?_eq_some_iff.1 hg).1
    refine ⟨_, cap, rfl, fun i m hm => ⟨g, 0, rfl, ?_⟩⟩
    obtain ⟨p, hp, rfl⟩ := map_get hm
    have hgt := flat_get rngV 4 (fun _ => rfl) X i p hp
    rw [Nat.zero_add]
    exact ⟨⟨hlt, own_cellAt hown _ _ (hgt 0 (by decide)), own_cellAt hown _ _ (hgt 1 (by decide)), p.1.2, own_cellAt hown _ _ (hgt 2 (by decide)), (hall p (List.mem_of_getElem? hp)).isIn⟩, own_cellAt hown _ _ (hgt 3 (by decide))⟩
theorem KRngs.later {w w' : World} {L : Nat} {T P : TypeId} {v : Value} {l : List Rng} (h : KRngs w L T P v l) (hb : Below w.heap.size w w') : KRngs w' L T P v l := by
  obtain ⟨X, hX, hown, hall⟩ := h
  exact ⟨X, hX, own_later hown hb, fun p hp => (hall p hp).later hb⟩
theorem KRngs.base {w : World} {L L' : Nat} {T P : TypeId} {v : Value} {l : List Rng} (h : KRngs w L T P v l) (hl : L' ≤ L) : KRngs w L' T P v l := by
  obtain ⟨X, hX, hown, hall⟩ := h
  exact ⟨X, hX, own_base hown hl, fun p hp => (hall p hp).base hl⟩
theorem kRngs_nil (w : World) (L : Nat) (T P : TypeId) : KRngs w L T P (.slice none 0 0) [] := ⟨[], rfl, World.ownsRow_nil _ _ _ _, fun p hp => by cases hp⟩
theorem kRngs_made (w : World) (L : Nat) (T P : TypeId) (hL : L ≤ w.heap.size) : KRngs (w.alloc (.cells #[] T)) L T P (.slice (some ⟨w.heap.size, 0, none⟩) 0 0) [] := ⟨[], rfl, World.ownsRow_made w #[] 0 hL (by decide) rfl, fun p hp => by cases hp⟩
theorem kRngs_snoc {w w' : World} {L : Nat} {T P : TypeId} {v v' sv : Value} {l : List Rng} {X : List RgV} {r : Rng} (hX : X.map rngOf = l) (hown : w.ownsRow L T 4 v l.length (rngsV X)) (hall : ∀ p ∈ X, ParBlk w L P p.1.2 p.1.1.ps) (hne : T ≠ P)
    (hsv : ParBlk w L P sv r.1.ps) (hg : w.grownBy w' v.ownBlock) (hI : w'.ownsRow L T 4 v' (l.length + 1) (rngsV X ++ [.string ⟨r.1.ty.toArray⟩, .string ⟨r.1.sub.toArray⟩, sv, .int .i64 r.2])) : KRngs w' L T P v' (l ++ [r]) := by
  refine ⟨X ++ [((r.1, sv), r.2)], by rw [List.map_append, hX]; rfl, ?_, fun p hp => ?_⟩
  · rw [rngsV_snoc, List.length_append]; exact hI
  · rcases List.mem_append.1 hp with h | h
    · exact (hall p h).grown hown hne hg
    · rw [List.mem_singleton] at h
      subst h
      exact hsv.grown hown hne hg
/-- Whether a range is none. -/
def badR (gd : Bool) (ty sub : List UInt8) (ah : List Par) : Bool := !gd || (decide (ty = [42]) && !decide (sub = [42])) || !allVal ah
/-- One range: an error's number, and what it says. -/
def rgOne (x : List UInt8) : Nat × Rng :=
  if badR (mdR x).2.2.2 (mdR x).1 (mdR x).2.1 (wtP (mdR x).2.2.1).1 = true then (72, (⟨[], [], []⟩, 0))
  else if (wtP (mdR x).2.2.1).2.2 ≠ 0 then ((wtP (mdR x).2.2.1).2.2, (⟨[], [], []⟩, 0))
  else (0, (⟨(mdR x).1, (mdR x).2.1, (wtP (mdR x).2.2.1).1⟩, (((wtP (mdR x).2.2.1).2.1 : Nat) : Int)))
theorem rgOne_bad (x ty sub : List UInt8) (ps ah : List Par) (gd : Bool) (q e : Nat) (h : mdR x = (ty, sub, ps, gd)) (hw : wtP ps = (ah, q, e)) (hb : badR gd ty sub ah = true) : rgOne x = (72, (⟨[], [], []⟩, 0)) := by
  unfold rgOne; rw [h]; simp only; rw [hw, if_pos hb]
theorem rgOne_q (x ty sub : List UInt8) (ps ah : List Par) (gd : Bool) (q e : Nat) (h : mdR x = (ty, sub, ps, gd)) (hw : wtP ps = (ah, q, e)) (hb : badR gd ty sub ah = false) (he : e ≠ 0) : rgOne x = (e, (⟨[], [], []⟩, 0)) := by
  unfold rgOne; rw [h]; simp only; rw [hw, if_neg (by rw [hb]; simp), if_pos he]
theorem rgOne_ok (x ty sub : List UInt8) (ps ah : List Par) (gd : Bool) (q : Nat) (h : mdR x = (ty, sub, ps, gd)) (hw : wtP ps = (ah, q, 0)) (hb : badR gd ty sub ah = false) : rgOne x = (0, (⟨ty, sub, ah⟩, ((q : Nat) : Int))) := by
  unfold rgOne; rw [h]; simp only; rw [hw, if_neg (by rw [hb]; simp), if_neg (by simp)]
def rgGood (x : List UInt8) : Bool := decide ((rgOne x).1 = 0)
def rgE : List (List UInt8) → Nat
  | [] => 0
  | x :: r => if (rgOne x).1 = 0 then rgE r else (rgOne x).1
def rgW (xs : List (List UInt8)) : List Rng := xs.map fun x => (rgOne x).2
/-- What Ranges answers. -/
def rgR (L : List UInt8) : List Rng × Nat := if (lsR L).2 ≠ 0 then ([], (lsR L).2) else if rgE (lsR L).1 ≠ 0 then ([], rgE (lsR L).1) else (rgW (lsR L).1, 0)
theorem rgE_at (l : List (List UInt8)) : ∀ (i : Nat) (x : List UInt8), l[i]? = some x → (l.take i).all rgGood = true → (rgOne x).1 ≠ 0 → rgE l = (rgOne x).1 := by
  induction l with
  | nil => intro i x h; simp at h
  | cons y r ih =>
    intro i x h ha hx
    cases i with
    | zero => obtain rfl : y = x := (by simpa using h); rw [rgE, if_neg hx]
    | succ i =>
      rw [List.take_succ_cons, List.all_cons, Bool.and_eq_true] at ha
      rw [rgE, if_pos (by have := ha.1; unfold rgGood at this; simpa using this)]
      exact ih i x (by simpa using h) ha.2 hx
theorem rgE_end (l : List (List UInt8)) (ha : l.all rgGood = true) : rgE l = 0 := by
  induction l with
  | nil => rfl
  | cons y r ih =>
    rw [List.all_cons, Bool.and_eq_true] at ha
    rw [rgE, if_pos (by have := ha.1; unfold rgGood at this; simpa using this)]
    exact ih ha.2
theorem rgR_list (L : List UInt8) (xs : List (List UInt8)) (e : Nat) (h : lsR L = (xs, e)) (he : e ≠ 0) : rgR L = ([], e) := by unfold rgR; rw [h, if_pos he]
theorem rgR_bad (L : List UInt8) (xs : List (List UInt8)) (h : lsR L = (xs, 0)) (i : Nat) (x : List UInt8) (hx : xs[i]? = some x) (ha : (xs.take i).all rgGood = true) (k : Nat) (w : Rng) (hk : rgOne x = (k, w)) (h0 : k ≠ 0) : rgR L = ([], k) := by
  have := rgE_at xs i x hx ha (by rw [hk]; exact h0)
  rw [hk] at this
  unfold rgR
  rw [h, if_neg (by simp), if_pos (by rw [this]; exact h0), this]
theorem rgR_ok (L : List UInt8) (xs : List (List UInt8)) (h : lsR L = (xs, 0)) (ha : xs.all rgGood = true) : rgR L = (rgW xs, 0) := by
  unfold rgR
  rw [h, if_neg (by simp), if_neg (by rw [rgE_end xs ha]; simp)]
theorem rg_step (xs : List (List UInt8)) (i : Nat) (x : List UInt8) (r : Rng) (h : xs[i]? = some x) (ha : (xs.take i).all rgGood = true) (hx : rgOne x = (0, r)) : (xs.take (i + 1)).all rgGood = true ∧ rgW (xs.take (i + 1)) = rgW (xs.take i) ++ [r] := by
  refine ⟨take_all _ _ _ _ h ha (by unfold rgGood; rw [hx]; rfl), ?_⟩
  unfold rgW
  rw [List.take_add_one, h, Option.toList_some, List.map_append, List.map_cons, List.map_nil, hx]
theorem rgW_len (xs : List (List UInt8)) (i : Nat) (h : i ≤ xs.length) : (rgW (xs.take i)).length = i := by unfold rgW; rw [List.length_map, List.length_take]; omega
theorem mdK_good (s rest : List UInt8) (n k : Nat) (hr : rest.length ≤ k) : ∀ p ∈ (mdK s rest n).2.2.1, p.1.length ≤ k ∧ ParGood k p := by
  unfold mdK
  split
  · intro p hp; cases hp
  · obtain ⟨⟨ps, m, e⟩, hp⟩ : ∃ r, parR (rest.drop (runL isSg rest)) = r := ⟨_, rfl⟩
    rw [hp]
    intro p hpm
    obtain ⟨q, hq, rfl⟩ := List.mem_map.1 hpm
    have h1 := (parR_bd7 _ ps m e hp).2.2 q hq
    have h2 := parR_good _ ps m e hp q hq
    rw [List.length_drop] at h1
    have h3 : q.2.1.length ≤ (rest.drop (runL isSg rest)).length := h2.1
    rw [List.length_drop] at h3
    exact ⟨by show (lowL q.1).length ≤ _; rw [lowL_len]; omega, by show q.2.1.length ≤ k; omega, h2.2⟩
theorem mdR_good7 (s : List UInt8) (k : Nat) (hs : s.length ≤ k) : ∀ p ∈ (mdR s).2.2.1, p.1.length ≤ k ∧ ParGood k p := by
  unfold mdR
  split
  · intro p hp; cases hp
  · exact mdK_good s _ _ k (by rw [List.length_drop]; omega)
def RgPost (L : List UInt8) (T P : TypeId) (w : World) (e : Ending) (w' : World) : Prop := ∃ v, e = .returned (.tuple #[v, .int .i64 ((rgR L).2 : Nat)]) ∧ KRngs w' w.heap.size T P v (rgR L).1 ∧ Below w.heap.size w w'
theorem infoORng : (Tryd.prog.info? 82).map (fun i => (i.zero, i.size, i.bytes)) = some (some (.agg #[.string ByteArray.empty, .string ByteArray.empty, .slice none 0 0, .int .i64 0]), 4, 64) := by kernel_rfl
theorem info_partsOR (h : (Tryd.prog.info? 82).map (fun i => (i.zero, i.size, i.bytes)) = some (some (.agg #[.string ByteArray.empty, .string ByteArray.empty, .slice none 0 0, .int .i64 0]), 4, 64)) : ∃ i, Tryd.prog.info? 82 = some i ∧ i.zero = some (.agg #[.string ByteArray.empty, .string ByteArray.empty, .slice none 0 0, .int .i64 0]) ∧ i.size = 4 ∧ i.bytes = 64 := by
  obtain ⟨i, hi, he⟩ := Option.map_eq_some_iff.1 h
  simp only [Prod.mk.injEq] at he
  exact ⟨i, hi, he.1, he.2.1, he.2.2⟩
theorem xsr_bd (i n : Nat) (h : i < n) (hn : n ≤ 1048577) : i + 1 ≤ maxLen ∧ (i + 1) * 64 ≤ 140737488355328 ∧ i ≤ 2199023255552 := by unfold maxLen; omega
theorem mps_of (t : ByteArray) (ty sub : List UInt8) (ps : List Par) (gd : Bool) (h : mdR t.data.toList = (ty, sub, ps, gd)) (ht : t.size ≤ 1048576) : ps.length ≤ 1048576 ∧ PLen ps ∧ noV ps := by
  have h1 := mdR_len t.data.toList
  have h2 := mdR_good7 t.data.toList t.size (by rw [size_list]; exact Nat.le_refl _)
  rw [h, size_list] at h1
  rw [h] at h2
  refine ⟨Nat.le_trans h1 ht, fun i p hp => ?_, fun p hp => (h2 p hp).2.2⟩
  have := h2 p (List.mem_of_getElem? hp)
  have h3 := this.2.1
  exact ⟨by omega, by omega⟩
theorem ah_len (ps ah : List Par) (q e : Nat) (h : wtP ps = (ah, q, e)) (hp : ps.length ≤ 1048576) : ah.length ≤ 2199023255552 ∧ ∃ k, k ≤ ps.length ∧ ah = ps.take k := by
  obtain ⟨k, hk, he⟩ := wtP_pre ps
  rw [h] at he
  simp only at he
  exact ⟨by rw [he, List.length_take]; omega, k, hk, he⟩
theorem blk_ne' {w : World} {a b : Nat} {c d : Array Value} {T S : TypeId} (h : BlkIs w a c T) (h2 : BlkIs w b d S) (hne : T ≠ S) : a ≠ b := by
  rintro rfl
  unfold BlkIs at h h2
  rw [h] at h2
  injection h2 with h2
  injection h2 with _ h2
  exact hne h2
theorem ParBlk.set {w : World} {L a j : Nat} {P T : TypeId} {sv u : Value} {ps : List Par} {cs : Array Value} (h : ParBlk w L P sv ps) (ha : BlkIs w a cs T) (hne : P ≠ T) : ParBlk (w.setCell ⟨a, j, none⟩ u) L P sv ps := by
  obtain ⟨ao, cap, rfl, h⟩ := h
  exact ⟨ao, cap, rfl, h.imp id (fun ⟨g, cur, e, hl, hg, hc⟩ => ⟨g, cur, e, hl, hg.setOther _ _ (blk_ne' hg ha hne), hc⟩)⟩
set_option maxHeartbeats 16000000 in
theorem oranges_any (s : ByteArray) (mm : Int) (w : World) (hs : s.size ≤ 1048576) (hx : w.cell? ⟨1, 0, none⟩ = some (.int .i64 mm)) (hg : SgAt w) : Calls Tryd.prog 36 #[.string s] w (RgPost s.data.toList 82 80 w) := by
  obtain ⟨i0, hi0, hz0, hz1, hz2⟩ := info_partsOR infoORng
  have hl := olist_any s w (sz20 _ hs).2
  unfold LsPost at hl
  have hlen := lsR_len s.data.toList
  obtain ⟨⟨xs, er⟩, hr⟩ : ∃ r, lsR s.data.toList = r := ⟨_, rfl⟩
  rw [hr] at hl hlen
  have HX := Lib.hid (And.intro hx hg)
  have hxn : xs.length ≤ 1048577 := by have := hlen.1; rw [size_list] at this; simp only at this; omega
  have hxl : ∀ x ∈ xs, x.length ≤ 1048576 := fun x hx => by have := hlen.2 x hx; rw [size_list] at this; omega
  have HL := Lib.hid hl; have HXL := Lib.hid hxl
  clear hl hlen hx hg hxl
  by_cases her : er = 0
  · subst her
    have HR := Lib.hid hr
    clear hr
    go_enter Tryd.func36, Tryd.ntmps36
    go_wp2_with fail
    refine (HL.out).mono ?_
    rintro e w1 ⟨lv, rfl, hown, hb1⟩
    obtain ⟨lo, lcap, rfl, hat⟩ := txtsIn_own hown
    have HAT := Lib.hid hat; have HB1 := Lib.hid hb1
    clear hown hb1 hat
    go_wp2
    go_loopw [24, 6] (fun iv ov wr => ∃ i : Nat, iv = .int .i64 i ∧ i ≤ xs.length ∧ (xs.take i).all rgGood = true ∧ KRngs wr w1.heap.size 82 80 ov (rgW (xs.take i)) ∧ Below w1.heap.size w1 wr) (fun iv _ _ => xs.length - (intOf iv).toNat)
    case atStart => exact ⟨0, rfl, Nat.zero_le _, rfl, kRngs_nil _ _ _ _, Below.refl _ _⟩
    case round =>
      obtain ⟨i, rfl, hi, hok, hown, hb⟩ := hrel
      by_cases hil : i < xs.length
      · obtain ⟨x, hxi⟩ : ∃ x, xs[i]? = some x := ⟨_, List.getElem?_eq_getElem hil⟩
        obtain ⟨g, o, rfl, _, c0⟩ := HAT.out.below hb i x hxi
        have hxsz := HXL.out x (List.mem_of_getElem? hxi)
        obtain ⟨t, ht⟩ : ∃ t : ByteArray, (⟨x.toArray⟩ : ByteArray) = t := ⟨_, rfl⟩
        have htx : t.data.toList = x := by rw [← ht]
        rw [ht] at c0
        have hts : t.size ≤ 1048576 := by rw [← size_list, htx]; exact hxsz
        have hbd := xsr_bd i xs.length hil hxn
        have i0' : (0 : Int) ≤ (i : Int) := Int.natCast_nonneg _
        have i1 : (i : Int) < (xs.length : Int) := by omega
        have hwi := wrap64_small i hbd.2.2
        have hwb : Below w.heap.size w wr := HB1.out.trans (hb.mono HB1.out.size)
        have hsp := split_any t wr (sz20 _ hts).1 (HX.out.2.below hwb)
        obtain ⟨⟨ty, sub, ps, gd⟩, hmd⟩ : ∃ r, mdR t.data.toList = r := ⟨_, rfl⟩
        unfold MdPost at hsp
        rw [hmd] at hsp
        have hps := mps_of t ty sub ps gd hmd hts
        obtain ⟨⟨ah, q, qe⟩, hw⟩ : ∃ r, wtP ps = r := ⟨_, rfl⟩
        have hah := ah_len ps ah q qe hw hps.1
        rw [htx] at hmd
        obtain ⟨X, hX, hown, hall⟩ := hown
        rw [rgW_len xs i hi] at hown
        have HSP := Lib.hid hsp; have HMD := Lib.hid (And.intro hmd hw); have HPS := Lib.hid hps; have HAH := Lib.hid hah
        have HO := Lib.hid hown; have HXX := Lib.hid (And.intro hX hall); have HB := Lib.hid hb; have HW := Lib.hid hwi; have HOK := Lib.hid hok; have HXI := Lib.hid hxi; have HWB := Lib.hid hwb
        clear hsp hmd hw hps hah hown hX hall hb hwi hok hxi hxsz ht htx hwb hts
        go_wp2_with fail
        refine (HSP.out).mono ?_
        rintro e w3 ⟨pv, rfl, hpo, hb3⟩
        rw [show mdV (ty, sub, ps, gd) pv = .tuple #[.agg #[.string ⟨ty.toArray⟩, .string ⟨sub.toArray⟩, pv], .bool gd] from rfl]
        have hpo : w3.ownsRow wr.heap.size 80 3 pv ps.length (parsV ps) := hpo
        obtain ⟨pao, pcap, rfl, hpc, hpat⟩ := own_parts hpo
        obtain ⟨W4, hW4⟩ : ∃ W4, w3.alloc (.cells (mC ⟨ty, sub, ps⟩ (.slice pao ps.length pcap)) 24) = W4 := ⟨_, rfl⟩
        have hb34 : Below w3.heap.size w3 W4 := by rw [← hW4]; exact (Below.refl _ w3).alloc (Nat.le_refl _) _
        have hbr4 : Below wr.heap.size wr W4 := hb3.trans (hb34.mono hb3.size)
        have HB4 := Lib.hid (HB.out.trans (hbr4.mono HB.out.size))
        have HO4 := Lib.hid (own_later HO.out hbr4)
        have HA4 := Lib.hid (show ∀ p ∈ X, ParBlk W4 w1.heap.size 80 p.1.2 p.1.1.ps from fun p hp => (HXX.out.2 p hp).later hbr4)
        have HM4 := Lib.hid (show BlkIs W4 w3.heap.size (mC ⟨ty, sub, ps⟩ (.slice pao ps.length pcap)) 24 by rw [← hW4]; exact blkIs_new _ _ _)
        have HP4 := Lib.hid (((parBlk_own hpo).later hb34).base HB.out.size)
        have HWB4 := Lib.hid (HWB.out.trans (hbr4.mono HWB.out.size))
        have hwt := oweight_any pao pcap ps mm W4 (Nat.le_trans HPS.out.1 (by decide)) hpc HPS.out.2.1 (hpat.below hb34) (mx_later (B := 0) HX.out.1 HWB4.out)
        rw [HMD.out.2] at hwt
        have HWT := Lib.hid hwt; have HW4 := Lib.hid hW4
        have lt3 : w3.heap.size < W4.heap.size := HM4.out.lt
        have HGE := Lib.hid (show w1.heap.size ≤ w3.heap.size from Nat.le_trans HB.out.size hb3.size)
        clear hb3 hpo hpc hpat hb34 hbr4 hwt hW4 c0
        go_upto_region 9 with fail
        rw [HW4.out]
        have m2 : W4.cell? ⟨w3.heap.size, 2, none⟩ = some (.slice pao ps.length pcap) := HM4.out.cell 2 _ rfl
        go_wp2_with fail
        refine (HWT.out).mono ?_
        rintro e w5 ⟨cc, rfl, hb5⟩
        rw [show wtV (.slice pao (ah, q, qe).1.length cc) (ah, q, qe) = .tuple #[.slice pao ah.length cc, .int .i64 (q : Nat), .int .i64 (qe : Nat)] from rfl]
        have HB5 := Lib.hid (HB4.out.trans (hb5.mono HB4.out.size))
        have HO5 := Lib.hid (own_later HO4.out hb5)
        have HA5 := Lib.hid (show ∀ p ∈ X, ParBlk w5 w1.heap.size 80 p.1.2 p.1.1.ps from fun p hp => (HA4.out p hp).later hb5)
        have HM5 := Lib.hid (HM4.out.later hb5)
        have HP5 := Lib.hid (show ParBlk w5 w1.heap.size 80 (.slice pao ah.length cc) ah by
          obtain ⟨k, hk, he⟩ := HAH.out.2
          rw [he]
          exact parBlk_take (HP4.out.later hb5) hk)
        have HWB5 := Lib.hid (HWB4.out.trans (hb5.mono HWB4.out.size))
        have HVAL := Lib.hid (fun V (hV : Below w5.heap.size w5 V) => ovalued_any (.slice pao ah.length cc) ah V HAH.out.1 (HP5.out.isIn.below hV))
        clear hb5 m2 lt3
        go_upto_region 10 with fail
        go_cut [56] (fun s56 wx => s56 = .bool (badR gd ty sub ah) ∧ Below w5.heap.size w5 wx)
        case first =>
          have z0 : w5.cell? ⟨w3.heap.size, 0, none⟩ = some (.string ⟨ty.toArray⟩) := HM5.out.cell 0 _ rfl
          have z1 : w5.cell? ⟨w3.heap.size, 1, none⟩ = some (.string ⟨sub.toArray⟩) := HM5.out.cell 1 _ rfl
          cases gd with
          | false =>
            have HT := Lib.hid (show badR false ty sub ah = true from rfl)
            go_wp2_with fail
            go_meet
            exact ⟨by rw [HT.out], Below.refl _ _⟩
          | true =>
            by_cases ht : ty = [42]
            · have hbe : (ty == [42]) = true := by rw [ht]; rfl
              by_cases hsb : sub = [42]
              · have hbe2 : (sub == [42]) = true := by rw [hsb]; rfl
                have HT := Lib.hid (show badR true ty sub ah = !allVal ah by unfold badR; rw [ht, hsb]; rfl)
                clear ht hsb
                go_wp2_with fail
                refine (HVAL.out _ (Below.refl _ _)).mono ?_
                rintro e w6 ⟨rfl, hb6⟩
                obtain ⟨av, hav⟩ : ∃ av, allVal ah = av := ⟨_, rfl⟩
                rw [hav] at HT
                rw [hav]
                clear hav
                cases av
                all_goals
                  go_wp2_with fail
                  go_meet
                  exact ⟨by rw [HT.out]; rfl, hb6⟩
              · have hbe2 : (sub == [42]) = false := beq_false_of_ne hsb
                have HT := Lib.hid (show badR true ty sub ah = true by unfold badR; rw [decide_eq_true ht, decide_eq_false hsb]; rfl)
                clear ht hsb
                go_wp2_with fail
                go_meet
                exact ⟨by rw [HT.out], Below.refl _ _⟩
            · have hbe : (ty == [42]) = false := beq_false_of_ne ht
              have HT := Lib.hid (show badR true ty sub ah = !allVal ah by unfold badR; rw [decide_eq_false ht]; rfl)
              clear ht
              go_wp2_with fail
              refine (HVAL.out _ (Below.refl _ _)).mono ?_
              rintro e w6 ⟨rfl, hb6⟩
              obtain ⟨av, hav⟩ : ∃ av, allVal ah = av := ⟨_, rfl⟩
              rw [hav] at HT
              rw [hav]
              clear hav
              cases av
              all_goals
                go_wp2_with fail
                go_meet
                exact ⟨by rw [HT.out]; rfl, hb6⟩
        case rest =>
        obtain ⟨rfl, hb6⟩ := hcut
        have HB6 := Lib.hid (HB5.out.trans (hb6.mono HB5.out.size))
        have HO6 := Lib.hid (own_later HO5.out hb6)
        have HA6 := Lib.hid (show ∀ p ∈ X, ParBlk wc w1.heap.size 80 p.1.2 p.1.1.ps from fun p hp => (HA5.out p hp).later hb6)
        have HM6 := Lib.hid (HM5.out.later hb6)
        have HP6 := Lib.hid (HP5.out.later hb6)
        have HWB6 := Lib.hid (HWB5.out.trans (hb6.mono HWB5.out.size))
        clear hb6
        cases hbad : badR gd ty sub ah with
        | true =>
          have HE := Lib.hid (rgR_bad _ xs HR.out i x HXI.out HOK.out 72 _ (rgOne_bad x ty sub ps ah gd q qe HMD.out.1 HMD.out.2 hbad) (by decide))
          clear hbad
          go_wp2
          go_ret2
          unfold RgPost
          rw [HE.out]
          exact ⟨_, rfl, kRngs_nil _ _ _ _, HWB6.out⟩
        | false =>
          by_cases hqe : qe = 0
          · subst hqe
            have HST := Lib.hid (rg_step xs i x _ HXI.out HOK.out (rgOne_ok x ty sub ps ah gd q HMD.out.1 HMD.out.2 hbad))
            have z2 : wc.cell? ⟨w3.heap.size, 2, none⟩ = some (.slice pao ps.length pcap) := HM6.out.cell 2 _ rfl
            have y2 := HM6.out.free 2
            have z0 : wc.cell? ⟨w3.heap.size, 0, none⟩ = some (.string ⟨ty.toArray⟩) := HM6.out.cell 0 _ rfl
            have z1 : wc.cell? ⟨w3.heap.size, 1, none⟩ = some (.string ⟨sub.toArray⟩) := HM6.out.cell 1 _ rfl
            have hge : w1.heap.size ≤ w3.heap.size := HGE.out
            obtain ⟨W7, hW7⟩ : ∃ W7, wc.setCell ⟨w3.heap.size, 2, none⟩ (.slice pao ah.length cc) = W7 := ⟨_, rfl⟩
            have hM7 : BlkIs W7 w3.heap.size (mC ⟨ty, sub, ps⟩ (.slice pao ah.length cc)) 24 := by rw [← hW7]; exact HM6.out.set 2 _
            have HB7 := Lib.hid (show Below w1.heap.size w1 W7 by rw [← hW7]; exact HB6.out.setCell (p := ⟨w3.heap.size, 2, none⟩) hge _)
            have HO7 := Lib.hid (show W7.ownsRow w1.heap.size 82 4 _ i (rngsV X) by rw [← hW7]; exact own_setOther HO6.out (own_blk HO6.out HM6.out (by decide)))
            have hsk : ∀ sv l, ParBlk wc w1.heap.size 80 sv l → ParBlk W7 w1.heap.size 80 sv l := fun sv l h => by rw [← hW7]; exact h.set HM6.out (by decide)
            have HA7 := Lib.hid (show ∀ p ∈ X, ParBlk W7 w1.heap.size 80 p.1.2 p.1.1.ps from fun p hp => hsk _ _ (HA6.out p hp))
            have HP7 := Lib.hid (hsk _ _ HP6.out)
            have u0 : W7.cell? ⟨w3.heap.size, 0, none⟩ = some (.string ⟨ty.toArray⟩) := hM7.cell 0 _ rfl
            have u1 : W7.cell? ⟨w3.heap.size, 1, none⟩ = some (.string ⟨sub.toArray⟩) := hM7.cell 1 _ rfl
            have u2 : W7.cell? ⟨w3.heap.size, 2, none⟩ = some (.slice pao ah.length cc) := hM7.cell 2 _ rfl
            have HW7 := Lib.hid hW7
            have hbz7 := HB7.out.size
            clear hbad hW7 hM7 hsk hge
            go_upto_region 15 with fail
            rw [HW7.out]
            clear z0 z1 z2 y2
            go_wp2_with (at_builtin; refine wpList_append_own _ rfl (.tmp 62) (.tmp 66) 56 rfl w1.heap.size 82 i0 (.agg #[.string ByteArray.empty, .string ByteArray.empty, .slice none 0 0, .int .i64 0]) 4 64 Tryd.underlying56 hi0 hz0 hz1 hz2 rfl (by decide) _ _ _ rfl (HO7.out.alloc _) ⟨W7.heap.size, 0, none⟩ 1 1 [.string ⟨ty.toArray⟩, .string ⟨sub.toArray⟩, .slice pao ah.length cc, .int .i64 (q : Nat)] rfl rfl (cells_new W7 82 _) (by simp [Value.oneCell']) hbd.1 hbd.2.1 ?dd ?_)
            case dd => simp; omega
            intro v1 w8 hI8 hg8 _
            have hb8 : Below w1.heap.size w1 w8 := (HB7.out.alloc hbz7 _).grown hg8 (alloc_le hbz7 _) (fun k hk => (HO7.out.lt k hk).1)
            have hfin : KRngs w8 w1.heap.size 82 80 v1 (rgW (xs.take i) ++ [(⟨ty, sub, ah⟩, ((q : Nat) : Int))]) :=
              kRngs_snoc HXX.out.1 (by rw [rgW_len xs i hi]; exact HO7.out.alloc _) (fun p hp => (HA7.out p hp).later ((Below.refl _ W7).alloc (Nat.le_refl _) _)) (by decide) (HP7.out.later ((Below.refl _ W7).alloc (Nat.le_refl _) _)) hg8 (by rw [rgW_len xs i hi]; exact hI8)
            have HF := Lib.hid hfin; have HB8 := Lib.hid hb8
            clear hI8 hg8 hb8 hfin u0 u1 u2
            go_wp2
            have hwi := HW.out
            go_roundw
            case rel => (try rw [hwi]); clear hwi; exact ⟨i + 1, by go_num, hil, HST.out.1, by rw [HST.out.2]; exact HF.out, HB8.out⟩
            case measure => (try rw [hwi]); clear hwi; simp [intOf]; omega
          · have fe : ((qe : Int) != 0) = true := by simp; omega
            have HE := Lib.hid (rgR_bad _ xs HR.out i x HXI.out HOK.out qe _ (rgOne_q x ty sub ps ah gd q qe HMD.out.1 HMD.out.2 hbad hqe) hqe)
            clear hqe hbad
            go_wp2
            go_ret2
            unfold RgPost
            rw [HE.out]
            exact ⟨_, rfl, kRngs_nil _ _ _ _, HWB6.out⟩
      · obtain rfl : xs.length = i := by omega
        have hd : decide (xs.length < xs.length) = false := decide_eq_false (Nat.lt_irrefl _)
        rw [List.take_length] at hok hown
        have HF := Lib.hid (rgR_ok _ xs HR.out hok)
        have HO2 := Lib.hid (hown.base HB1.out.size)
        have HBX := Lib.hid (HB1.out.trans (hb.mono HB1.out.size))
        clear hown hb hok
        go_wp2
        go_ret2
        unfold RgPost
        rw [HF.out]
        exact ⟨_, rfl, HO2.out, HBX.out⟩
  · have HE := Lib.hid (rgR_list _ xs er hr her)
    have hbe : ((er : Int) != 0) = true := by simp; omega
    clear hr her
    go_enter Tryd.func36, Tryd.ntmps36
    go_wp2_with fail
    refine (HL.out).mono ?_
    rintro e w1 ⟨lv, rfl, hown, hb1⟩
    have HB1 := Lib.hid hb1
    clear hown hb1
    go_wp2
    go_ret2
    unfold RgPost
    rw [HE.out]
    exact ⟨_, rfl, kRngs_nil _ _ _ _, HB1.out⟩
def badS (gd : Bool) (ty sub : List UInt8) : Bool := !gd || (decide (ty = [42]) && !decide (sub = [42]))
theorem badR_S (gd : Bool) (ty sub : List UInt8) (ah : List Par) : badR gd ty sub ah = (badS gd ty sub || !allVal ah) := rfl
theorem badS_true (ty sub : List UInt8) (h : badS true ty sub = true) : ty = [42] ∧ sub ≠ [42] := by
  unfold badS at h
  simpa using h
theorem badS_false (gd : Bool) (ty sub : List UInt8) (h : badS gd ty sub = false) : gd = true ∧ (ty = [42] → sub = [42]) := by
  unfold badS at h
  cases gd with
  | false => simp at h
  | true =>
    refine ⟨rfl, fun ht => ?_⟩
    simpa [ht] using h
set_option maxHeartbeats 16000000 in
theorem rranges_any (s : ByteArray) (w : World) (hs : s.size ≤ 1048576) : Calls Tryd.prog 37 #[.string s] w (RgPost s.data.toList 122 109 w) := by
  obtain ⟨i0, hi0, hz0, hz1, hz2⟩ := info_partsR infoRRng
  have hl := rlist_any s w (sz20 _ hs).2
  unfold LsPost at hl
  have hlen := lsR_len s.data.toList
  obtain ⟨⟨xs, er⟩, hr⟩ : ∃ r, lsR s.data.toList = r := ⟨_, rfl⟩
  rw [hr] at hl hlen
  have hxn : xs.length ≤ 1048577 := by have := hlen.1; rw [size_list] at this; simp only at this; omega
  have hxl : ∀ x ∈ xs, x.length ≤ 1048576 := fun x hx => by have := hlen.2 x hx; rw [size_list] at this; omega
  have HL := Lib.hid hl; have HXL := Lib.hid hxl
  clear hl hlen hxl
  by_cases her : er = 0
  · subst her
    have HR := Lib.hid hr
    clear hr
    go_enter Tryd.func37, Tryd.ntmps37
    go_wp2_with fail
    refine (HL.out).mono ?_
    rintro e w1 ⟨lv, rfl, hown, hb1⟩
    obtain ⟨lo, lcap, rfl, hat⟩ := txtsIn_own hown
    have HAT := Lib.hid hat; have HB1 := Lib.hid hb1
    have hm0 := kRngs_made w1 w1.heap.size 122 109 (Nat.le_refl _)
    have HM0 := Lib.hid (And.intro hm0 ((Below.refl _ w1).alloc (Nat.le_refl _) (.cells #[] 122)))
    clear hown hb1 hat hm0
    go_wp2
    go_loopw [7, 6] (fun iv ov wr => ∃ i : Nat, iv = .int .i64 i ∧ i ≤ xs.length ∧ (xs.take i).all rgGood = true ∧ KRngs wr w1.heap.size 122 109 ov (rgW (xs.take i)) ∧ Below w1.heap.size w1 wr) (fun iv _ _ => xs.length - (intOf iv).toNat)
    case atStart => exact ⟨0, rfl, Nat.zero_le _, rfl, HM0.out.1, HM0.out.2⟩
    case round =>
      obtain ⟨i, rfl, hi, hok, hown, hb⟩ := hrel
      by_cases hil : i < xs.length
      · obtain ⟨x, hxi⟩ : ∃ x, xs[i]? = some x := ⟨_, List.getElem?_eq_getElem hil⟩
        obtain ⟨g, o, rfl, _, c0⟩ := HAT.out.below hb i x hxi
        have hxsz := HXL.out x (List.mem_of_getElem? hxi)
        obtain ⟨t, ht⟩ : ∃ t : ByteArray, (⟨x.toArray⟩ : ByteArray) = t := ⟨_, rfl⟩
        have htx : t.data.toList = x := by rw [← ht]
        rw [ht] at c0
        have hts : t.size ≤ 1048576 := by rw [← size_list, htx]; exact hxsz
        have hbd := xsr_bd i xs.length hil hxn
        have i0' : (0 : Int) ≤ (i : Int) := Int.natCast_nonneg _
        have i1 : (i : Int) < (xs.length : Int) := by omega
        have hwi := wrap64_small i hbd.2.2
        have hwb : Below w.heap.size w wr := HB1.out.trans (hb.mono HB1.out.size)
        have hsp := rparts_any t wr (sz20 _ hts).1
        obtain ⟨⟨ty, sub, ps, gd⟩, hmd⟩ : ∃ r, mdR t.data.toList = r := ⟨_, rfl⟩
        unfold MdPost at hsp
        rw [hmd] at hsp
        have hps := mps_of t ty sub ps gd hmd hts
        obtain ⟨⟨ah, q, qe⟩, hw⟩ : ∃ r, wtP ps = r := ⟨_, rfl⟩
        have hah := ah_len ps ah q qe hw hps.1
        rw [htx] at hmd
        obtain ⟨X, hX, hown, hall⟩ := hown
        rw [rgW_len xs i hi] at hown
        have HSP := Lib.hid hsp; have HMD := Lib.hid (And.intro hmd hw); have HPS := Lib.hid hps; have HAH := Lib.hid hah
        have HO := Lib.hid hown; have HXX := Lib.hid (And.intro hX hall); have HB := Lib.hid hb; have HW := Lib.hid hwi; have HOK := Lib.hid hok; have HXI := Lib.hid hxi; have HWB := Lib.hid hwb
        clear hsp hmd hw hps hah hown hX hall hb hwi hok hxi hxsz ht htx hwb hts
        go_wp2_with fail
        refine (HSP.out).mono ?_
        rintro e w3 ⟨pv, rfl, hpo, hb3⟩
        rw [show mdV (ty, sub, ps, gd) pv = .tuple #[.agg #[.string ⟨ty.toArray⟩, .string ⟨sub.toArray⟩, pv], .bool gd] from rfl]
        have hpo : w3.ownsRow wr.heap.size 109 3 pv ps.length (parsV ps) := hpo
        obtain ⟨pao, pcap, rfl⟩ := own_slice hpo
        obtain ⟨W4, hW4⟩ : ∃ W4, w3.alloc (.cells (mC ⟨ty, sub, ps⟩ (.slice pao ps.length pcap)) 30) = W4 := ⟨_, rfl⟩
        have hb34 : Below w3.heap.size w3 W4 := by rw [← hW4]; exact (Below.refl _ w3).alloc (Nat.le_refl _) _
        have hbr4 : Below wr.heap.size wr W4 := hb3.trans (hb34.mono hb3.size)
        have HB4 := Lib.hid (HB.out.trans (hbr4.mono HB.out.size))
        have HO4 := Lib.hid (own_later HO.out hbr4)
        have HA4 := Lib.hid (show ∀ p ∈ X, ParBlk W4 w1.heap.size 109 p.1.2 p.1.1.ps from fun p hp => (HXX.out.2 p hp).later hbr4)
        have HM4 := Lib.hid (show BlkIs W4 w3.heap.size (mC ⟨ty, sub, ps⟩ (.slice pao ps.length pcap)) 30 by rw [← hW4]; exact blkIs_new _ _ _)
        have HP4 := Lib.hid (((parBlk_own hpo).later hb34).base HB.out.size)
        have HWB4 := Lib.hid (HWB.out.trans (hbr4.mono HWB.out.size))
        have hwt := fun V (hV : Below W4.heap.size W4 V) => rweight_any (.slice pao ps.length pcap) ps V (Nat.le_trans HPS.out.1 (by decide)) HPS.out.2.1 HPS.out.2.2 (HP4.out.isIn.below hV)
        simp only [HMD.out.2] at hwt
        have HWT := Lib.hid hwt; have HW4 := Lib.hid hW4
        have lt3 : w3.heap.size < W4.heap.size := HM4.out.lt
        have HGE := Lib.hid (show w1.heap.size ≤ w3.heap.size from Nat.le_trans HB.out.size hb3.size)
        clear hb3 hpo hb34 hbr4 hwt hW4 c0
        go_upto_region 9 with fail
        rw [HW4.out]
        cases hbs : badS gd ty sub with
        | true =>
          have HE := Lib.hid (rgR_bad _ xs HR.out i x HXI.out HOK.out 72 _ (rgOne_bad x ty sub ps ah gd q qe HMD.out.1 HMD.out.2 (by rw [badR_S, hbs]; rfl)) (by decide))
          have z0 : W4.cell? ⟨w3.heap.size, 0, none⟩ = some (.string ⟨ty.toArray⟩) := HM4.out.cell 0 _ rfl
          have z1 : W4.cell? ⟨w3.heap.size, 1, none⟩ = some (.string ⟨sub.toArray⟩) := HM4.out.cell 1 _ rfl
          cases gd with
          | false =>
            clear hbs
            have HMD := Lib.hid (kRngs_made _ w.heap.size 122 109 (HWB4.out).size)
            have HBD := Lib.hid ((HWB4.out).alloc (HWB4.out).size (.cells #[] 122))
            go_wp2
            go_ret2
            unfold RgPost
            rw [HE.out]
            exact ⟨_, rfl, HMD.out, HBD.out⟩
          | true =>
            obtain ⟨ht, hsb⟩ := badS_true ty sub hbs
            have hbe : (ty == [42]) = true := by rw [ht]; rfl
            have hbe2 : (sub == [42]) = false := beq_false_of_ne hsb
            clear hbs ht hsb
            have HMD := Lib.hid (kRngs_made _ w.heap.size 122 109 (HWB4.out).size)
            have HBD := Lib.hid ((HWB4.out).alloc (HWB4.out).size (.cells #[] 122))
            go_wp2
            go_ret2
            unfold RgPost
            rw [HE.out]
            exact ⟨_, rfl, HMD.out, HBD.out⟩
        | false =>
          go_cut [48] (fun s48 wx => s48 = .bool false ∧ W4 = wx)
          case first =>
            have z0 : W4.cell? ⟨w3.heap.size, 0, none⟩ = some (.string ⟨ty.toArray⟩) := HM4.out.cell 0 _ rfl
            have z1 : W4.cell? ⟨w3.heap.size, 1, none⟩ = some (.string ⟨sub.toArray⟩) := HM4.out.cell 1 _ rfl
            obtain ⟨rfl, hor⟩ := badS_false gd ty sub hbs
            by_cases ht : ty = [42]
            · have hbe : (ty == [42]) = true := by rw [ht]; rfl
              have hbe2 : (sub == [42]) = true := by rw [hor ht]; rfl
              clear hbs ht hor
              go_wp2_with fail
              go_meet
              exact ⟨rfl, rfl⟩
            · have hbe : (ty == [42]) = false := beq_false_of_ne ht
              clear hbs ht hor
              go_wp2_with fail
              go_meet
              exact ⟨rfl, rfl⟩
          case rest =>
          obtain ⟨rfl, hw⟩ := hcut
          obtain rfl : W4 = wc := hw
          have m2 : W4.cell? ⟨w3.heap.size, 2, none⟩ = some (.slice pao ps.length pcap) := HM4.out.cell 2 _ rfl
          have HBS := Lib.hid hbs
          clear hbs
          go_wp2_with fail
          refine (HWT.out _ (Below.refl _ _)).mono ?_
          rintro e wc ⟨av, rfl, hao, hb5⟩
          have hao : wc.ownsRow W4.heap.size 109 3 av ah.length (parsV ah) := hao
          obtain ⟨aao, cc, rfl⟩ := own_slice hao
          rw [show wtV (.slice aao ah.length cc) (ah, q, qe) = .tuple #[.slice aao ah.length cc, .int .i64 (q : Nat), .int .i64 (qe : Nat)] from rfl]
          have HB6 := Lib.hid (HB4.out.trans (hb5.mono HB4.out.size))
          have HO6 := Lib.hid (own_later HO4.out hb5)
          have HA6 := Lib.hid (show ∀ p ∈ X, ParBlk wc w1.heap.size 109 p.1.2 p.1.1.ps from fun p hp => (HA4.out p hp).later hb5)
          have HM6 := Lib.hid (HM4.out.later hb5)
          have HP6 := Lib.hid ((parBlk_own hao).base HB4.out.size)
          have HWB6 := Lib.hid (HWB4.out.trans (hb5.mono HWB4.out.size))
          have hval := rvalued_any (.slice aao ah.length cc) ah wc HAH.out.1 HP6.out.isIn
          clear hb5 m2 hao
          cases hav : allVal ah with
          | false =>
            have HE := Lib.hid (rgR_bad _ xs HR.out i x HXI.out HOK.out 72 _ (rgOne_bad x ty sub ps ah gd q qe HMD.out.1 HMD.out.2 (by rw [badR_S, hav]; simp)) (by decide))
            rw [hav] at hval
            have HVAL := Lib.hid hval
            clear hav hval
            go_wp2_with fail
            refine (HVAL.out).mono ?_
            rintro e wz ⟨rfl, hwz⟩
            rw [hwz]
            clear hwz
            have HMD := Lib.hid (kRngs_made _ w.heap.size 122 109 (HWB6.out).size)
            have HBD := Lib.hid ((HWB6.out).alloc (HWB6.out).size (.cells #[] 122))
            go_wp2
            go_ret2
            unfold RgPost
            rw [HE.out]
            exact ⟨_, rfl, HMD.out, HBD.out⟩
          | true =>
            have hbad : badR gd ty sub ah = false := by rw [badR_S, HBS.out, hav]; rfl
            rw [hav] at hval
            have HVAL := Lib.hid hval
            clear hav hval
            go_wp2_with fail
            refine (HVAL.out).mono ?_
            rintro e wz ⟨rfl, hwz⟩
            rw [hwz]
            clear hwz
            by_cases hqe : qe = 0
            · subst hqe
              have HST := Lib.hid (rg_step xs i x _ HXI.out HOK.out (rgOne_ok x ty sub ps ah gd q HMD.out.1 HMD.out.2 hbad))
              have z2 : wc.cell? ⟨w3.heap.size, 2, none⟩ = some (.slice pao ps.length pcap) := HM6.out.cell 2 _ rfl
              have y2 := HM6.out.free 2
              have z0 : wc.cell? ⟨w3.heap.size, 0, none⟩ = some (.string ⟨ty.toArray⟩) := HM6.out.cell 0 _ rfl
              have z1 : wc.cell? ⟨w3.heap.size, 1, none⟩ = some (.string ⟨sub.toArray⟩) := HM6.out.cell 1 _ rfl
              have hge : w1.heap.size ≤ w3.heap.size := HGE.out
              obtain ⟨W7, hW7⟩ : ∃ W7, wc.setCell ⟨w3.heap.size, 2, none⟩ (.slice aao ah.length cc) = W7 := ⟨_, rfl⟩
              have hM7 : BlkIs W7 w3.heap.size (mC ⟨ty, sub, ps⟩ (.slice aao ah.length cc)) 30 := by rw [← hW7]; exact HM6.out.set 2 _
              have HB7 := Lib.hid (show Below w1.heap.size w1 W7 by rw [← hW7]; exact HB6.out.setCell (p := ⟨w3.heap.size, 2, none⟩) hge _)
              have HO7 := Lib.hid (show W7.ownsRow w1.heap.size 122 4 _ i (rngsV X) by rw [← hW7]; exact own_setOther HO6.out (own_blk HO6.out HM6.out (by decide)))
              have hsk : ∀ sv l, ParBlk wc w1.heap.size 109 sv l → ParBlk W7 w1.heap.size 109 sv l := fun sv l h => by rw [← hW7]; exact h.set HM6.out (by decide)
              have HA7 := Lib.hid (show ∀ p ∈ X, ParBlk W7 w1.heap.size 109 p.1.2 p.1.1.ps from fun p hp => hsk _ _ (HA6.out p hp))
              have HP7 := Lib.hid (hsk _ _ HP6.out)
              have u0 : W7.cell? ⟨w3.heap.size, 0, none⟩ = some (.string ⟨ty.toArray⟩) := hM7.cell 0 _ rfl
              have u1 : W7.cell? ⟨w3.heap.size, 1, none⟩ = some (.string ⟨sub.toArray⟩) := hM7.cell 1 _ rfl
              have u2 : W7.cell? ⟨w3.heap.size, 2, none⟩ = some (.slice aao ah.length cc) := hM7.cell 2 _ rfl
              have HW7 := Lib.hid hW7
              have hbz7 := HB7.out.size
              clear hbad hW7 hM7 hsk hge
              go_upto_region 17 with fail
              rw [HW7.out]
              clear z0 z1 z2 y2
              go_wp2_with (at_builtin; refine wpList_append_own _ rfl (.tmp 67) (.tmp 71) 57 rfl w1.heap.size 122 i0 (.agg #[.string ByteArray.empty, .string ByteArray.empty, .slice none 0 0, .int .i64 0]) 4 64 Tryd.underlying57 hi0 hz0 hz1 hz2 rfl (by decide) _ _ _ rfl (HO7.out.alloc _) ⟨W7.heap.size, 0, none⟩ 1 1 [.string ⟨ty.toArray⟩, .string ⟨sub.toArray⟩, .slice aao ah.length cc, .int .i64 (q : Nat)] rfl rfl (cells_new W7 122 _) (by simp [Value.oneCell']) hbd.1 hbd.2.1 ?dd ?_)
              case dd => simp; omega
              intro v1 w8 hI8 hg8 _
              have hb8 : Below w1.heap.size w1 w8 := (HB7.out.alloc hbz7 _).grown hg8 (alloc_le hbz7 _) (fun k hk => (HO7.out.lt k hk).1)
              have hfin : KRngs w8 w1.heap.size 122 109 v1 (rgW (xs.take i) ++ [(⟨ty, sub, ah⟩, ((q : Nat) : Int))]) :=
                kRngs_snoc HXX.out.1 (by rw [rgW_len xs i hi]; exact HO7.out.alloc _) (fun p hp => (HA7.out p hp).later ((Below.refl _ W7).alloc (Nat.le_refl _) _)) (by decide) (HP7.out.later ((Below.refl _ W7).alloc (Nat.le_refl _) _)) hg8 (by rw [rgW_len xs i hi]; exact hI8)
              have HF := Lib.hid hfin; have HB8 := Lib.hid hb8
              clear hI8 hg8 hb8 hfin u0 u1 u2
              go_wp2
              have hwi := HW.out
              go_roundw
              case rel => (try rw [hwi]); clear hwi; exact ⟨i + 1, by go_num, hil, HST.out.1, by rw [HST.out.2]; exact HF.out, HB8.out⟩
              case measure => (try rw [hwi]); clear hwi; simp [intOf]; omega
            · have fe : ((qe : Int) != 0) = true := by simp; omega
              have HE := Lib.hid (rgR_bad _ xs HR.out i x HXI.out HOK.out qe _ (rgOne_q x ty sub ps ah gd q qe HMD.out.1 HMD.out.2 hbad hqe) hqe)
              clear hqe hbad
              have HMD := Lib.hid (kRngs_made _ w.heap.size 122 109 (HWB6.out).size)
              have HBD := Lib.hid ((HWB6.out).alloc (HWB6.out).size (.cells #[] 122))
              go_wp2
              go_ret2
              unfold RgPost
              rw [HE.out]
              exact ⟨_, rfl, HMD.out, HBD.out⟩
      · obtain rfl : xs.length = i := by omega
        have hd : decide (xs.length < xs.length) = false := decide_eq_false (Nat.lt_irrefl _)
        rw [List.take_length] at hok hown
        have HF := Lib.hid (rgR_ok _ xs HR.out hok)
        have HO2 := Lib.hid (hown.base HB1.out.size)
        have HBX := Lib.hid (HB1.out.trans (hb.mono HB1.out.size))
        clear hown hb hok
        go_wp2
        go_ret2
        unfold RgPost
        rw [HF.out]
        exact ⟨_, rfl, HO2.out, HBX.out⟩
  · have HE := Lib.hid (rgR_list _ xs er hr her)
    have hbe : ((er : Int) != 0) = true := by simp; omega
    clear hr her
    go_enter Tryd.func37, Tryd.ntmps37
    go_wp2_with fail
    refine (HL.out).mono ?_
    rintro e w1 ⟨lv, rfl, hown, hb1⟩
    have HB1 := Lib.hid hb1
    clear hown hb1
    have HMD := Lib.hid (kRngs_made _ w.heap.size 122 109 (HB1.out).size)
    have HBD := Lib.hid ((HB1.out).alloc (HB1.out).size (.cells #[] 122))
    go_wp2
    go_ret2
    unfold RgPost
    rw [HE.out]
    exact ⟨_, rfl, HMD.out, HBD.out⟩
theorem valP_k7 (l v : List UInt8) (k : Nat) (h : valP l = some (v, k)) : v.length ≤ k := by
  unfold valP at h
  split at h
  · exact (unq_used l v k h).2.2
  · injection h with h
    injection h with h1 h2
    rw [← h1, ← h2, List.length_take]
    omega
theorem parStep_tot (l : List UInt8) (p : Par) (k : Nat) (h : parStep l = some (some (some p, k))) : p.1.length + p.2.1.length + 1 ≤ k := by
  unfold parStep at h
  split at h
  · simp only at h
    split at h
    · simp at h
    · split at h
      · split at h
        · simp at h
        · rename_i v k2 hv
          simp only [Option.some.injEq, Prod.mk.injEq] at h
          obtain ⟨rfl, rfl⟩ := h
          have := valP_k7 _ _ _ hv
          simp only [List.length_take]
          omega
      · simp only [Option.some.injEq, Prod.mk.injEq] at h
        obtain ⟨rfl, rfl⟩ := h
        simp only [List.length_take, List.length_nil]
        omega
  · cases h
theorem parF_tot : ∀ (f : Nat) (l : List UInt8) (ps : List Par) (k : Nat), parF f l = some (ps, k) → totP ps + ps.length ≤ k
  | 0, l, ps, k, h => by
    simp only [parF, Option.some.injEq, Prod.mk.injEq] at h
    obtain ⟨rfl, rfl⟩ := h
    exact Nat.le_refl _
  | f + 1, l, ps, k, h => by
    rw [parF] at h
    cases hs : parStep l with
    | none =>
      rw [hs] at h
      simp only [Option.some.injEq, Prod.mk.injEq] at h
      obtain ⟨rfl, rfl⟩ := h
      exact Nat.le_refl _
    | some o =>
      rw [hs] at h
      cases o with
      | none => cases h
      | some qk =>
        obtain ⟨q, k2⟩ := qk
        simp only [Option.map_eq_some_iff] at h
        obtain ⟨x, hx, he⟩ := h
        injection he with h1 h2
        have ih := parF_tot f (l.drop k2) x.1 x.2 hx
        rw [← h1, ← h2, totP_append, List.length_append]
        cases q with
        | none => simp only [Option.toList_none, totP, List.length_nil]; omega
        | some q =>
          have := parStep_tot l q k2 hs
          simp only [Option.toList_some, totP, List.length_singleton]
          omega
theorem parR_tot (l : List UInt8) (ps : List Par) (m e : Nat) (h : parR l = (ps, m, e)) : totP ps + ps.length ≤ m := by
  unfold parR at h
  cases hp : parP l with
  | none =>
    rw [hp] at h
    injection h with h1 h2
    injection h2 with h2 h3
    rw [← h1, ← h2]
    exact Nat.le_refl _
  | some x =>
    rw [hp] at h
    obtain ⟨ps2, k⟩ := x
    injection h with h1 h2
    injection h2 with h2 h3
    rw [← h1, ← h2]
    exact parF_tot _ l ps2 k hp
theorem totP_lowP (ps : List Par) : totP (ps.map lowP) = totP ps := by
  induction ps with
  | nil => rfl
  | cons p r ih => rw [List.map_cons]; simp only [totP]; rw [ih]; unfold lowP; rw [lowL_len]
theorem totP_take (ps : List Par) (k : Nat) : totP (ps.take k) + (ps.take k).length ≤ totP ps + ps.length := by
  have h := congrArg totP (List.take_append_drop k ps)
  have h2 := congrArg List.length (List.take_append_drop k ps)
  rw [totP_append] at h
  rw [List.length_append] at h2
  omega
theorem mdK_tot (s rest : List UInt8) (n : Nat) : (mdK s rest n).1.length + (mdK s rest n).2.1.length + (totP (mdK s rest n).2.2.1 + (mdK s rest n).2.2.1.length) ≤ n + rest.length := by
  unfold mdK
  split
  · simp [noMed, totP]
  · rename_i hc
    obtain ⟨⟨ps, m, e⟩, hp⟩ : ∃ r, parR (rest.drop (runL isSg rest)) = r := ⟨_, rfl⟩
    rw [hp] at hc ⊢
    have := parR_tot _ ps m e hp
    have hm : runL isSg rest + m = rest.length := Classical.byContradiction fun h => hc (Or.inr (Or.inr h))
    simp only [lowL_len, List.length_take, totP_lowP, List.length_map]
    omega
theorem mdR_tot (s : List UInt8) : (mdR s).1.length + (mdR s).2.1.length + (totP (mdR s).2.2.1 + (mdR s).2.2.1.length) ≤ s.length := by
  unfold mdR
  split
  · simp [noMed, totP]
  · rename_i hc
    have h1 : s[runL isSg s]? = some 47 := Classical.byContradiction fun h => hc (Or.inr h)
    have hl := (List.getElem?_eq_some_iff.1 h1).1
    refine Nat.le_trans (mdK_tot _ _ _) ?_
    rw [List.length_drop]
    omega
theorem rgOne_tot (x : List UInt8) : rngLen (rgOne x).2 ≤ x.length := by
  unfold rgOne
  split
  · exact Nat.zero_le _
  · split
    · exact Nat.zero_le _
    · have h := mdR_tot x
      obtain ⟨k, hk, he⟩ := wtP_pre (mdR x).2.2.1
      have h2 := totP_take (mdR x).2.2.1 k
      show (mdR x).1.length + (mdR x).2.1.length + totP (wtP (mdR x).2.2.1).1 + (wtP (mdR x).2.2.1).1.length ≤ _
      rw [he]
      omega
theorem rgW_tot (xs : List (List UInt8)) : totF rngLen (rgW xs) ≤ totF List.length xs := by
  induction xs with
  | nil => exact Nat.le_refl _
  | cons x r ih =>
    have := rgOne_tot x
    show rngLen (rgOne x).2 + totF rngLen (rgW r) ≤ x.length + totF List.length r
    omega
theorem fulls_tot (l : List (List UInt8)) : totF List.length (fulls l) ≤ totF List.length l := by
  induction l with
  | nil => exact Nat.le_refl _
  | cons x r ih =>
    have h1 := trimL_len x
    unfold fulls at ih ⊢
    rw [List.map_cons, List.filter_cons]
    split
    · simp only [totF]; omega
    · simp only [totF]; omega
theorem lstF_tot : ∀ (f : Nat) (cur l : List UInt8) (xs : List (List UInt8)), lstF f cur l = some xs → totF List.length xs ≤ cur.length + l.length
  | 0, cur, l, xs, h => by
    simp only [lstF, Option.some.injEq] at h
    subst h
    simp only [totF]; omega
  | f + 1, cur, [], xs, h => by
    simp only [lstF, Option.some.injEq] at h
    subst h
    simp only [totF]; omega
  | f + 1, cur, c :: r, xs, h => by
    rw [lstF.eq_def] at h
    simp only at h
    by_cases h1 : c = 34
    · rw [if_pos h1] at h
      cases hu : unq (c :: r) with
      | none => rw [hu] at h; cases h
      | some y =>
        obtain ⟨y, n⟩ := y
        rw [hu] at h
        have := lstF_tot f _ _ xs h
        rw [List.length_append, List.length_take, List.length_drop] at this
        omega
    · rw [if_neg h1] at h
      by_cases h2 : c = 44
      · rw [if_pos h2] at h
        simp only [Option.map_eq_some_iff] at h
        obtain ⟨ys, hy, he⟩ := h
        have := lstF_tot f [] r ys hy
        rw [← he, List.length_cons]
        simp only [totF, List.length_nil] at this ⊢
        omega
      · rw [if_neg h2] at h
        have := lstF_tot f _ r xs h
        rw [List.length_append, List.length_singleton] at this
        rw [List.length_cons]
        omega
theorem lsR_tot (L : List UInt8) : totF List.length (lsR L).1 ≤ L.length := by
  cases h : lstR [] L with
  | none => rw [lsR_none L h]; exact Nat.zero_le _
  | some xs =>
    rw [lsR_some L xs h]
    have := lstF_tot _ _ _ xs h
    rw [List.length_nil, Nat.zero_add] at this
    exact Nat.le_trans (fulls_tot xs) this
theorem rgR_tot (L : List UInt8) (h : L.length ≤ 1048576) : totF rngLen (rgR L).1 + (rgR L).1.length ≤ 1073741824 := by
  unfold rgR
  split
  · exact Nat.zero_le _
  · split
    · exact Nat.zero_le _
    · have h1 := rgW_tot (lsR L).1
      have h2 := lsR_tot L
      have h3 := (lsR_len L).1
      show totF rngLen (rgW (lsR L).1) + (rgW (lsR L).1).length ≤ _
      unfold rgW at h1 ⊢
      rw [List.length_map]
      omega
set_option maxHeartbeats 4000000 in
theorem acceptRanges_any (s : ByteArray) (mm : Int) (w : World) (hs : s.size ≤ 1048576) (hx : w.cell? ⟨1, 0, none⟩ = some (.int .i64 mm)) (hg : SgAt w) :
    Calls Tryd.prog 9 #[.string s] w fun e w' => e = .returned (.bool true) ∧ Below w.heap.size w w' := by
  have h1 := oranges_any s mm w hs hx hg
  have h2 := fun w => rranges_any s w hs
  have hpl := rgR_tot s.data.toList (by rw [size_list]; exact hs)
  unfold RgPost at h1 h2
  obtain ⟨⟨ws, er⟩, hr⟩ : ∃ r, rgR s.data.toList = r := ⟨_, rfl⟩
  rw [hr] at h1 hpl
  simp only [hr] at h2
  have H1 := Lib.hid h1; have H2 := Lib.hid h2; have HX := Lib.hid (And.intro hx hg); have HPL := Lib.hid hpl
  clear h1 h2 hr hpl hx hg
  go_enter Tryd.func9, Tryd.ntmps9
  go_wp2_with fail
  refine (H1.out).mono ?_
  rintro e w1 ⟨v1, rfl, ho1, hb1⟩
  have HW1 := Lib.hid ho1.isIn; have HB1 := Lib.hid hb1
  clear ho1 hb1
  go_wp2_with fail
  refine (H2.out _).mono ?_
  rintro e w2 ⟨v2, rfl, ho2, hb2⟩
  have HW2 := Lib.hid (And.intro (HW1.out.below hb2) ho2.isIn); have HB2 := Lib.hid (HB1.out.trans (hb2.mono HB1.out.size))
  clear ho2 hb2
  go_wp2_with fail
  refine (awake07_any mm w2 (mx_later (B := 0) HX.out.1 HB2.out) (HX.out.2.below HB2.out)).mono ?_
  rintro e w3 ⟨rfl, hb3⟩
  have HAL := Lib.hid (sameRanges_any v1 v2 ws w3 HPL.out (HW2.out.1.below hb3) (HW2.out.2.below hb3))
  have HB3 := Lib.hid (HB2.out.trans (hb3.mono HB2.out.size))
  clear hb3
  go_wp2_with fail
  refine (HAL.out).mono ?_
  rintro e w4 ⟨rfl, hb4⟩
  have HB4 := Lib.hid (HB3.out.trans (hb4.mono HB3.out.size))
  clear hb4
  go_wp2
  go_ret
  exact ⟨by simp, HB4.out⟩
theorem acceptRanges_row (s : ByteArray) (W : World) (hL : laidMetH Tryd.prog Rows.acceptRangesUptoRow.laid W) (hsh : W.ShapedOpen Tryd.prog) (hs : s.size ≤ 1048576) :
    Calls Tryd.prog 9 #[.string s] W fun e W' => e = .returned (.bool true) ∧ Below W.heap.size W W' := by
  obtain ⟨m, hm⟩ := Tryd.laysM145.s1_3 W hsh
  exact acceptRanges_any s m W hs hm (sg_of_laid (l := Rows.acceptRangesUptoRow.laid) (by simp [Rows.acceptRangesUptoRow]) hL)
end Go.Proofs.YthnniiakmjonjaaDoor
