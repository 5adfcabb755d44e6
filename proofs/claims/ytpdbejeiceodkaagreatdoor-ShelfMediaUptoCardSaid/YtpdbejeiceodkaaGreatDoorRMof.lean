/- The walk of the reference's MediaOf: the plain function mofF. Conditions: at most 2^40 bytes. -/
import Derived.Test.YtpdbejeiceodkaaGreatDoorMof
namespace Go.Proofs.YtpdbejeiceodkaaGreatDoor
open Go.RowKit
set_option linter.unusedSimpArgs false
set_option linter.unusedVariables false
set_option maxRecDepth 1000000
/-- The end as a loop knows it that has gone from f to i. -/
def ExtU (l : List UInt8) (f i : Nat) (x : List UInt8) : Prop := (x = [] ∧ ∀ j, f ≤ j → j < i → l[j]? ≠ some 46) ∨ (∃ k, f < k ∧ k ≤ i ∧ x = lowL (l.drop k) ∧ l[k - 1]? = some 46 ∧ ∀ j, k ≤ j → j < i → l[j]? ≠ some 46)
theorem ExtU.lst {l : List UInt8} {f i : Nat} {x : List UInt8} (h : ExtU l f i x) (hi : l.length ≤ i) (hf : lastP 47 l = f) : mofE l = x := by
  unfold mofE
  rw [hf]
  rcases h with ⟨e, h⟩ | ⟨k, h1, h2, h3, h4, h5⟩
  · have := LstU.fin (c := 46) (l := l) (a := f) (f := f) (i := i) (.inl ⟨rfl, h⟩) hi
    rw [this, Nat.sub_self, if_pos rfl, e]
  · have := LstU.fin (c := 46) (l := l) (a := f) (f := k) (i := i) (.inr ⟨h1, h2, h4, h5⟩) hi
    rw [this, if_neg (by omega), List.drop_drop, show f + (k - f) = k by omega, h3]
theorem extU_start (l : List UInt8) (f : Nat) : ExtU l f f [] := .inl ⟨rfl, fun j h1 h2 => by omega⟩
theorem ExtU.hit {l : List UInt8} {f i : Nat} (h : l[i]? = some 46) (hf : f ≤ i) : ExtU l f (i + 1) (lowL (l.drop (i + 1))) := .inr ⟨i + 1, by omega, Nat.le_refl _, rfl, by simpa using h, fun j h1 h2 => by omega⟩
theorem ExtU.miss {l : List UInt8} {f i : Nat} {x : List UInt8} (h : ExtU l f i x) (hc : l[i]? ≠ some 46) : ExtU l f (i + 1) x := by
  rcases h with ⟨e, h⟩ | ⟨k, h1, h2, h3, h4, h5⟩
  · exact .inl ⟨e, fun j ha hj => by
      by_cases e : j = i
      · subst e; exact hc
      · exact h j ha (by omega)⟩
  · exact .inr ⟨k, h1, by omega, h3, h4, fun j hk hj => by
      by_cases e : j = i
      · subst e; exact hc
      · exact h5 j hk (by omega)⟩
theorem u8_eq47 (c : UInt8) (a : Nat) (h : c.toNat = a) (hc : c = 47) : ((a : Int) == 47) = true := by rw [← h, hc]; rfl
theorem u8_ne47 (c : UInt8) (a : Nat) (h : c.toNat = a) (hc : c ≠ 47) : ((a : Int) == 47) = false := by
  have : a ≠ 47 := fun e => hc (UInt8.toNat_inj.1 (by rw [h, e]; rfl))
  simp; omega
theorem u8_eq46 (c : UInt8) (a : Nat) (h : c.toNat = a) (hc : c = 46) : ((a : Int) == 46) = true := by rw [← h, hc]; rfl
theorem u8_ne46 (c : UInt8) (a : Nat) (h : c.toNat = a) (hc : c ≠ 46) : ((a : Int) == 46) = false := by
  have : a ≠ 46 := fun e => hc (UInt8.toNat_inj.1 (by rw [h, e]; rfl))
  simp; omega
abbrev nmC : Array Value := #[.string ⟨#[104, 116, 109, 108]⟩, .string ⟨#[104, 116, 109]⟩, .string ⟨#[116, 120, 116]⟩, .string ⟨#[99, 115, 115]⟩, .string ⟨#[106, 115]⟩, .string ⟨#[106, 115, 111, 110]⟩, .string ⟨#[120, 109, 108]⟩, .string ⟨#[115, 118, 103]⟩, .string ⟨#[112, 110, 103]⟩, .string ⟨#[106, 112, 103]⟩, .string ⟨#[106, 112, 101, 103]⟩, .string ⟨#[103, 105, 102]⟩, .string ⟨#[105, 99, 111]⟩, .string ⟨#[112, 100, 102]⟩, .string ⟨#[119, 97, 115, 109]⟩, .string ⟨#[122, 105, 112]⟩]
abbrev tpC : Array Value := #[.string ⟨#[116, 101, 120, 116, 47, 104, 116, 109, 108, 59, 32, 99, 104, 97, 114, 115, 101, 116, 61, 117, 116, 102, 45, 56]⟩, .string ⟨#[116, 101, 120, 116, 47, 104, 116, 109, 108, 59, 32, 99, 104, 97, 114, 115, 101, 116, 61, 117, 116, 102, 45, 56]⟩, .string ⟨#[116, 101, 120, 116, 47, 112, 108, 97, 105, 110, 59, 32, 99, 104, 97, 114, 115, 101, 116, 61, 117, 116, 102, 45, 56]⟩, .string ⟨#[116, 101, 120, 116, 47, 99, 115, 115]⟩, .string ⟨#[116, 101, 120, 116, 47, 106, 97, 118, 97, 115, 99, 114, 105, 112, 116]⟩, .string ⟨#[97, 112, 112, 108, 105, 99, 97, 116, 105, 111, 110, 47, 106, 115, 111, 110]⟩, .string ⟨#[97, 112, 112, 108, 105, 99, 97, 116, 105, 111, 110, 47, 120, 109, 108]⟩, .string ⟨#[105, 109, 97, 103, 101, 47, 115, 118, 103, 43, 120, 109, 108]⟩, .string ⟨#[105, 109, 97, 103, 101, 47, 112, 110, 103]⟩, .string ⟨#[105, 109, 97, 103, 101, 47, 106, 112, 101, 103]⟩, .string ⟨#[105, 109, 97, 103, 101, 47, 106, 112, 101, 103]⟩, .string ⟨#[105, 109, 97, 103, 101, 47, 103, 105, 102]⟩, .string ⟨#[105, 109, 97, 103, 101, 47, 120, 45, 105, 99, 111, 110]⟩, .string ⟨#[97, 112, 112, 108, 105, 99, 97, 116, 105, 111, 110, 47, 112, 100, 102]⟩, .string ⟨#[97, 112, 112, 108, 105, 99, 97, 116, 105, 111, 110, 47, 119, 97, 115, 109]⟩, .string ⟨#[97, 112, 112, 108, 105, 99, 97, 116, 105, 111, 110, 47, 122, 105, 112]⟩]
theorem nmC_at (i : Nat) (x : List UInt8) (h : mofNm[i]? = some x) : nmC[i]? = some (.string ⟨x.toArray⟩) := by
  have hi : i < 16 := (List.getElem?_eq_some_iff.1 h).1
  rcases i with _ | _ | _ | _ | _ | _ | _ | _ | _ | _ | _ | _ | _ | _ | _ | _ | i
  all_goals first
    | omega
    | (simp only [mofNm, List.getElem?_cons_succ, List.getElem?_cons_zero, Option.some.injEq] at h
       subst h
       rfl)
theorem tpC_at (i : Nat) (x : List UInt8) (h : mofTp[i]? = some x) : tpC[i]? = some (.string ⟨x.toArray⟩) := by
  have hi : i < 16 := (List.getElem?_eq_some_iff.1 h).1
  rcases i with _ | _ | _ | _ | _ | _ | _ | _ | _ | _ | _ | _ | _ | _ | _ | _ | i
  all_goals first
    | omega
    | (simp only [mofTp, List.getElem?_cons_succ, List.getElem?_cons_zero, Option.some.injEq] at h
       subst h
       rfl)
theorem i16 (i : Nat) (h : i < 16) : ∃ x t, mofNm[i]? = some x ∧ mofTp[i]? = some t := ⟨_, _, List.getElem?_eq_getElem h, List.getElem?_eq_getElem h⟩
theorem i16w (i : Nat) (h : i ≤ 16) : i ≤ 2199023255552 := by omega
set_option maxHeartbeats 8000000 in
theorem rmof_any (s : ByteArray) (w : World) (hs : s.size ≤ 1099511627776) :
    Calls Tryz.prog 14 #[.string s] w fun e w' => e = .returned (.string ⟨(mofF s.data.toList).toArray⟩) ∧ Below w.heap.size w w' := by
  have HS := Lib.hid hs
  clear hs
  go_enter Tryz.func14, Tryz.ntmps14
  go_wp2
  go_loopw [3, 4] (fun fv iv wr => ∃ f i : Nat, fv = .int .i64 f ∧ iv = .int .i64 i ∧ i ≤ s.size ∧ f ≤ i ∧ LstU 47 s.data.toList 0 f i ∧ w = wr) (fun _ iv _ => s.size - (intOf iv).toNat)
  case atStart => exact ⟨0, 0, rfl, rfl, Nat.zero_le _, Nat.le_refl _, lstU_start _ _ _, rfl⟩
  case round =>
    obtain ⟨f, i, rfl, rfl, hi, hfi, hl, rfl⟩ := hrel
    by_cases hlt : i < s.size
    · have k0 : (0 : Int) ≤ (i : Int) := Int.natCast_nonneg _
      have k1 : (i : Int) < (s.size : Int) := by omega
      have hwi := wrap64_small i (lp_bd i _ hi HS.out)
      have hget := list_get s i hlt
      obtain ⟨c, hc⟩ : ∃ c, s[i]'hlt = c := ⟨_, rfl⟩
      rw [hc] at hget
      obtain ⟨a, ea⟩ : ∃ n, (s[i]'hlt).toNat = n := ⟨_, rfl⟩
      have hca : c.toNat = a := by rw [← hc]; exact ea
      have HW := Lib.hid hwi; have HL := Lib.hid hl; have HG := Lib.hid hget
      clear hwi hl hget hc
      by_cases hcc : c = 47
      · have b1 := u8_eq47 c a hca hcc
        have HR := Lib.hid (LstU.hit (a := 0) (f := f) (c := 47) (l := s.data.toList) (i := i) (by rw [HG.out, hcc]) (Nat.zero_le _))
        clear hcc hca
        go_wp2
        have hwi := HW.out
        go_roundw
        case rel => (try rw [hwi]); clear hwi; exact ⟨i + 1, i + 1, by go_num, by go_num, hlt, Nat.le_refl _, HR.out, by first | rfl | trivial⟩
        case measure => (try rw [hwi]); clear hwi; simp [intOf]; omega
      · have b1 := u8_ne47 c a hca hcc
        have HR := Lib.hid (HL.out.miss (by rw [HG.out]; intro e; injection e with e; exact hcc e))
        clear hcc hca
        go_wp2
        have hwi := HW.out
        go_roundw
        case rel => (try rw [hwi]); clear hwi; exact ⟨f, i + 1, rfl, by go_num, hlt, Nat.le_succ_of_le hfi, HR.out, by first | rfl | trivial⟩
        case measure => (try rw [hwi]); clear hwi; simp [intOf]; omega
    · obtain rfl : i = s.size := by omega
      have hd : decide (s.size < s.size) = false := decide_eq_false (Nat.lt_irrefl _)
      have hfin := hl.fin (by rw [size_list]; exact Nat.le_refl _)
      rw [List.drop_zero, Nat.sub_zero] at hfin
      have HF := Lib.hid (And.intro hfin hfi)
      clear hfin hl hfi
      go_wp2
      go_loopw [5, 6] (fun xv iv wr => ∃ (x : List UInt8) (i : Nat), xv = .string ⟨x.toArray⟩ ∧ iv = .int .i64 i ∧ i ≤ s.size ∧ f ≤ i ∧ ExtU s.data.toList f i x ∧ Below w.heap.size w wr) (fun _ iv _ => s.size - (intOf iv).toNat)
      case atStart => exact ⟨[], f, rfl, rfl, HF.out.2, Nat.le_refl _, extU_start _ _, Below.refl _ _⟩
      case round =>
        clear hd
        obtain ⟨x, i, rfl, rfl, hi, hfi, hl, hb⟩ := hrel
        by_cases hlt : i < s.size
        · have k0 : (0 : Int) ≤ (i : Int) := Int.natCast_nonneg _
          have k1 : (i : Int) < (s.size : Int) := by omega
          have hwi := wrap64_small i (lp_bd i _ hi HS.out)
          have hget := list_get s i hlt
          obtain ⟨c, hc⟩ : ∃ c, s[i]'hlt = c := ⟨_, rfl⟩
          rw [hc] at hget
          obtain ⟨a, ea⟩ : ∃ n, (s[i]'hlt).toNat = n := ⟨_, rfl⟩
          have hca : c.toNat = a := by rw [← hc]; exact ea
          have HW := Lib.hid hwi; have HL := Lib.hid hl; have HG := Lib.hid hget; have HB := Lib.hid hb
          clear hwi hl hget hc hb
          by_cases hcc : c = 46
          · have b1 := u8_eq46 c a hca hcc
            obtain ⟨j, hj⟩ : ∃ j, i + 1 = j := ⟨_, rfl⟩
            have ej : (i : Int) + 1 = (j : Int) := by omega
            have hj1 : (j : Int) ≤ (s.size : Int) := by omega
            have hj0 : (0 : Int) ≤ (j : Int) := Int.natCast_nonneg _
            have wj := w64j j (lp_bd j s.size (by omega) HS.out)
            have hwj : wrap64 ((i : Int) + 1) = (j : Int) := by rw [ej]; exact wj
            obtain ⟨u, hu⟩ : ∃ u : ByteArray, s.extract j s.size = u := ⟨_, rfl⟩
            have hul : u.data.toList = s.data.toList.drop j := by rw [← hu]; exact ext_from s j
            have hus : u.size ≤ 1099511627776 := by have := HS.out; rw [← size_list, hul, List.length_drop, size_list]; omega
            have h3 := fun w => rlower_any u w hus
            obtain ⟨y, hy⟩ : ∃ y, lowL u.data.toList = y := ⟨_, rfl⟩
            rw [hy] at h3
            have HR := Lib.hid (show ExtU s.data.toList f (i + 1) y by rw [← hy, hul, ← hj]; exact ExtU.hit (by rw [HG.out, hcc]) hfi)
            have H3 := Lib.hid h3
            clear hcc hca hul hus h3 hy ej
            go_wp2_with fail
            refine (H3.out _).mono ?_
            rintro e w2 ⟨rfl, hb2⟩
            have HB2 := Lib.hid (HB.out.trans (hb2.mono HB.out.size))
            clear hb2
            go_wp2
            have hwi := HW.out
            go_roundw
            case rel => (try rw [hwi]); clear hwi; exact ⟨y, i + 1, rfl, by (first | go_num | (simp [hj]; done) | (subst hj; simp)), hlt, Nat.le_succ_of_le hfi, HR.out, HB2.out⟩
            case measure => (try rw [hwi]); clear hwi; simp [intOf]; omega
          · have b1 := u8_ne46 c a hca hcc
            have HR := Lib.hid (HL.out.miss (by rw [HG.out]; intro e; injection e with e; exact hcc e))
            clear hcc hca
            go_wp2
            have hwi := HW.out
            go_roundw
            case rel => (try rw [hwi]); clear hwi; exact ⟨x, i + 1, rfl, by go_num, hlt, Nat.le_succ_of_le hfi, HR.out, HB.out⟩
            case measure => (try rw [hwi]); clear hwi; simp [intOf]; omega
        · obtain rfl : i = s.size := by omega
          have hd : decide (s.size < s.size) = false := decide_eq_false (Nat.lt_irrefl _)
          have HX := Lib.hid (show mofF s.data.toList = mofT x by unfold mofF; rw [hl.lst (by rw [size_list]; exact Nat.le_refl _) HF.out.1])
          obtain ⟨W1, hW1⟩ : ∃ W1, wr.alloc (.cells nmC 9) = W1 := ⟨_, rfl⟩
          obtain ⟨W2, hW2⟩ : ∃ W2, W1.alloc (.cells tpC 9) = W2 := ⟨_, rfl⟩
          obtain ⟨g1, hg1⟩ : ∃ g, wr.heap.size = g := ⟨_, rfl⟩
          obtain ⟨g2, hg2⟩ : ∃ g, W1.heap.size = g := ⟨_, rfl⟩
          have hg12 : g1 + 1 = g2 := by rw [← hg2, ← hW1, ← hg1]; simp
          have hB1 : BlkIs W2 g1 nmC 9 := by rw [← hW2, ← hg1, ← hW1]; exact (blkIs_new wr nmC 9).alloc _
          have hB2 : BlkIs W2 g2 tpC 9 := by rw [← hW2, ← hg2]; exact blkIs_new _ _ _
          have hb2 : Below w.heap.size w W2 := by rw [← hW2, ← hW1]; exact (hb.alloc hb.size _).alloc (alloc_le hb.size _) _
          have HB2 := Lib.hid (And.intro hb2 (And.intro hB1 hB2))
          rw [← hW1] at hW2
          have HW2 := Lib.hid hW2
          clear hl hb hB1 hB2 hb2 hW1 hW2 hg2
          go_upto_region 15 with fail
          rw [HW2.out]
          go_wp2
          go_loopw [9] (fun iv wr => ∃ i : Nat, iv = .int .i64 i ∧ i ≤ 16 ∧ (∀ j, j < i → mofNm[j]? ≠ some x) ∧ W2 = wr) (fun iv _ => 16 - (intOf iv).toNat)
          case atStart => exact ⟨0, rfl, Nat.zero_le _, fun j hj => absurd hj (Nat.not_lt_zero _), rfl⟩
          case round =>
            clear hd
            obtain ⟨i, rfl, hi, hno, rfl⟩ := hrel
            by_cases hlt : i < 16
            · obtain ⟨y, t, hy, ht⟩ := i16 i hlt
              have k0 : (0 : Int) ≤ (i : Int) := Int.natCast_nonneg _
              have k1 : (i : Int) < 16 := by omega
              have hwi := wrap64_small i (i16w i hi)
              have c1 : W2.cell? ⟨g1, i, none⟩ = some (.string ⟨y.toArray⟩) := HB2.out.2.1.cell i _ (nmC_at i y hy)
              have c2 : W2.cell? ⟨g2, i, none⟩ = some (.string ⟨t.toArray⟩) := HB2.out.2.2.cell i _ (tpC_at i t ht)
              have HW := Lib.hid hwi; have HNO := Lib.hid hno; have HY := Lib.hid (And.intro hy ht)
              clear hwi hno hy ht
              by_cases hxy : y = x
              · have b1 : (y == x) = true := by rw [hxy]; simp
                have HR := Lib.hid (HX.out.trans (mofT_at x i t (by rw [HY.out.1, hxy]) HY.out.2 HNO.out))
                clear hxy
                go_wp2
                go_ret
                rw [HR.out]
                exact ⟨rfl, HB2.out.1⟩
              · have b1 : (y == x) = false := beq_false_of_ne hxy
                have HNO2 := Lib.hid (show ∀ j, j < i + 1 → mofNm[j]? ≠ some x from fun j hj => by
                  by_cases e : j = i
                  · subst e; rw [HY.out.1]; intro e; injection e with e; exact hxy e
                  · exact HNO.out j (by omega))
                clear hxy
                go_wp2
                have hwi := HW.out
                go_roundw
                case rel => (try rw [hwi]); clear hwi; exact ⟨i + 1, by go_num, hlt, HNO2.out, by first | rfl | trivial⟩
                case measure => (try rw [hwi]); clear hwi; simp [intOf]; omega
            · obtain rfl : i = 16 := by omega
              have HR := Lib.hid (HX.out.trans (mofT_none x hno))
              clear hno
              go_wp2
              go_ret
              rw [HR.out]
              exact ⟨rfl, HB2.out.1⟩
end Go.Proofs.YtpdbejeiceodkaaGreatDoor
