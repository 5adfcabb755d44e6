/- Word, Spt, Val7: texts of the seat, one behind the other (a claim holds at most sixty). Conditions: each theorem names its own. -/
import Derived.Test.YtpdbejeiceodkaaGreatDoorPk10
import Derived.Test.YtpdbejeiceodkaaGreatDoorPk12
import Derived.Test.YtpdbejeiceodkaaGreatDoorPk04
import Derived.Laws.ResultCell
import Derived.Test.YtpdbejeiceodkaaGreatDoorPk03
import Derived.Test.YtpdbejeiceodkaaGreatDoorPk00
namespace Go.Proofs.YtpdbejeiceodkaaGreatDoor
open Go.RowKit
set_option linter.unusedSimpArgs false
set_option linter.unusedVariables false
set_option maxRecDepth 1000000
theorem isTok_1w (c : UInt8) : isTok [c] = isSg c := by simp [isTok]
theorem ext_1w (t : ByteArray) (i j : Nat) (hj : i + 1 = j) (h : i < t.size) (c : UInt8) (hc : t[i]'h = c) : t.extract i j = ⟨#[c]⟩ := by
  rw [ext_mk, ← hj, Nat.add_sub_cancel_left, drop_get t i h, hc]; rfl
set_option maxHeartbeats 4000000 in
theorem word_any (t : ByteArray) (w : World) (hts2 : t.size ≤ 1099511627776) (hg : SgAt w) :
    Calls Tryz.prog 110 #[.string t] w fun e w' => e = .returned (.int .i64 ((runL isSg t.data.toList : Nat) : Int)) ∧ w' = w := by
  have HG1 := Lib.hid hg; clear hg
  obtain ⟨N, hN⟩ : ∃ N, runL isSg t.data.toList = N := ⟨_, rfl⟩
  rw [hN]
  have HNN := Lib.hid hN; clear hN
  go_enter Tryz.func110, Tryz.ntmps110
  go_wp2
  go_loopw [3] (fun nv wr => ∃ n : Nat, nv = .int .i64 n ∧ n ≤ N ∧ wr = w) (fun nv _ => t.size - (intOf nv).toNat)
  case atStart => exact ⟨0, rfl, Nat.zero_le _, rfl⟩
  case round =>
    obtain ⟨n, rfl, hn, rfl⟩ := hrel
    have hle := runL_at isSg t 0
    rw [List.drop_zero] at hle
    rw [← HNN.out] at hn
    by_cases hlt : n < t.size
    · obtain ⟨c, hc⟩ : ∃ c, t[n]'hlt = c := ⟨_, rfl⟩
      have hget := list_get t n hlt
      rw [hc] at hget
      obtain ⟨n1, hn1⟩ : ∃ n1, n + 1 = n1 := ⟨_, rfl⟩
      have f1 : (n : Int) + 1 = (n1 : Int) := by omega
      have hx := ext_1w t n n1 hn1 hlt c hc
      have k0 : (0 : Int) ≤ (n : Int) := Int.natCast_nonneg _
      have k1 : (n : Int) < (t.size : Int) := by omega
      have k2 : (n : Int) ≤ (n1 : Int) := by omega
      have k3 : (n1 : Int) ≤ (t.size : Int) := by omega
      clear hc
      cases hst : isSg c with
      | true =>
        have hx2 := runL_more isSg _ n c hn hget hst
        rw [HNN.out] at hx2
        have HS := Lib.hid (And.intro hx2 (And.intro hst hn1))
        clear hx2 hst hget hn hle hn1
        go_wp2_with fail
        refine (otoken_any ⟨#[c]⟩ _ (show 1 ≤ 1099511627776 from by decide) HG1.out).mono ?_
        rintro e wr ⟨rfl, rfl⟩
        rw [show (⟨#[c]⟩ : ByteArray).data.toList = [c] from rfl, isTok_1w, HS.out.2.1]
        go_wp2
        go_roundw
        case rel => exact ⟨n1, rfl, by rw [← HS.out.2.2]; exact HS.out.1, by first | rfl | trivial⟩
        case measure => simp [intOf]; omega
      | false =>
        have hx2 := runL_stop isSg _ n c hn hget hst
        rw [HNN.out] at hx2
        have HS := Lib.hid (And.intro hx2 hst)
        clear hx2 hst hget hn hle hn1
        go_wp2_with fail
        refine (otoken_any ⟨#[c]⟩ _ (show 1 ≤ 1099511627776 from by decide) HG1.out).mono ?_
        rintro e wr ⟨rfl, rfl⟩
        rw [show (⟨#[c]⟩ : ByteArray).data.toList = [c] from rfl, isTok_1w, HS.out.2]
        clear f1 hx k2 k3
        go_wp2
        go_ret
        rw [HS.out.1]
        exact ⟨rfl, rfl⟩
    · have hN2 := runL_end isSg _ n hn (by rw [size_list]; omega)
      rw [HNN.out] at hN2
      have HN := Lib.hid hN2
      have k0 : (0 : Int) ≤ (n : Int) := Int.natCast_nonneg _
      have k5 : (t.size : Int) ≤ (n : Int) := by omega
      clear hN2 hle hn
      go_wp2
      go_ret
      rw [HN.out]
      exact ⟨rfl, rfl⟩
end Go.Proofs.YtpdbejeiceodkaaGreatDoor
namespace Go.Proofs.YtpdbejeiceodkaaGreatDoor
open Go.RowKit
set_option linter.unusedSimpArgs false
set_option linter.unusedVariables false
set_option maxRecDepth 1000000
def mdV (r : Med) (v : Value) : Value := .tuple #[.agg #[.string ⟨r.1.toArray⟩, .string ⟨r.2.1.toArray⟩, v], .bool r.2.2.2]
def MdPost (s : ByteArray) (T : TypeId) (w : World) (e : Ending) (w' : World) : Prop := ∃ v, e = .returned (mdV (mdR s.data.toList) v) ∧ w'.ownsRow w.heap.size T 3 v (mdR s.data.toList).2.2.1.length (parsV (mdR s.data.toList).2.2.1) ∧ Below w.heap.size w w'
theorem own_mono7 {w : World} {a b : Nat} {T : TypeId} {v : Value} {n k : Nat} {xs : List Value} (h : w.ownsRow b T k v n xs) (hab : a ≤ b) : w.ownsRow a T k v n xs := by
  refine ⟨h.1, ?_⟩
  rcases h.2 with h2 | ⟨g, cap, cur, h1, h2, h3⟩
  · exact Or.inl h2
  · exact Or.inr ⟨g, cap, cur, h1, Nat.le_trans hab h2, h3⟩
theorem parR_bd7 (l : List UInt8) (ps : List Par) (m e : Nat) (h : parR l = (ps, m, e)) : m ≤ l.length ∧ ps.length ≤ l.length ∧ ∀ p ∈ ps, p.1.length ≤ l.length := by
  unfold parR at h
  cases hp : parP l with
  | none =>
    rw [hp] at h
    injection h with h1 h2; injection h2 with h2 h3
    subst h1; subst h2
    simp
  | some x =>
    obtain ⟨qs, k⟩ := x
    rw [hp] at h
    injection h with h1 h2; injection h2 with h2 h3
    subst h1; subst h2
    have := parP_used l.length l qs k (Nat.le_refl _) hp
    exact ⟨this.1, by omega, fun p hp => by have := this.2.2 p hp; omega⟩
set_option maxHeartbeats 16000000 in
theorem split_any (s : ByteArray) (w : World) (hs : s.size ≤ 1099511627776) (hg : SgAt w) : Calls Tryz.prog 107 #[.string s] w (MdPost s 214 w) := by
  obtain ⟨W0, hW0⟩ : ∃ W0, w.alloc (.cells #[.string ⟨#[]⟩, .string ⟨#[]⟩, .slice none 0 0] 131) = W0 := ⟨_, rfl⟩
  have hb0 : Below w.heap.size w W0 := by rw [← hW0]; exact (Below.refl _ w).alloc (Nat.le_refl _) _
  have hlt0 : w.heap.size < W0.heap.size := by rw [← hW0]; simp
  have HB0 := Lib.hid hb0
  have HG0 := Lib.hid (hg.below hb0)
  have HW0 := Lib.hid hW0
  have HLT := Lib.hid hlt0
  obtain ⟨n, hn⟩ : ∃ n, runL isSg s.data.toList = n := ⟨_, rfl⟩
  have hwd := fun W h => word_any s W hs h
  rw [hn] at hwd
  have HWD := Lib.hid hwd
  have HN := Lib.hid hn
  have hns : n ≤ s.size := by have := runL_le isSg s.data.toList; rw [hn, size_list] at this; exact this
  clear hb0 hg hW0 hlt0 hn hwd
  have k0 : (0 : Int) ≤ (n : Int) := Int.natCast_nonneg _
  by_cases hbad : n = 0 ∨ n = s.size
  · have HR := Lib.hid (mdR_none s.data.toList n HN.out (by
      rcases hbad with h | h
      · exact Or.inl h
      · refine Or.inr ?_
        rw [List.getElem?_eq_none (by rw [size_list, h]; exact Nat.le_refl _)]
        simp))
    have hway : ((n : Int) == 0) = true ∨ (((n : Int) == 0) = false ∧ ((n : Int) == (s.size : Int)) = true) := by
      by_cases h : n = 0
      · exact Or.inl (by simp; omega)
      · exact Or.inr ⟨by simp; omega, by simp; omega⟩
    clear hbad hns
    rcases hway with b1 | ⟨b1, b2⟩
    all_goals
      go_enter Tryz.func107, Tryz.ntmps107
      go_wp2_with fail
      refine (HWD.out _ (by rw [HW0.out]; exact HG0.out)).mono ?_
      rintro e w1 ⟨rfl, rfl⟩
      go_wp2
      (try simp only [Exit.inBlock, Exit.then])
      refine bodyPost_ret (v := mdV (mdR s.data.toList) ?spx1) ?spx1r rfl ⟨?spx1, rfl, ?spx1o, ?spx1b⟩
      case spx1r => rw [results_cell_tmp rfl, HR.out]; go_simp; rfl
      case spx1o => rw [HR.out]; exact World.ownsRow_nil _ _ _ _
      case spx1b => exact by rw [HW0.out]; exact HB0.out
  · have hn0 : n ≠ 0 := fun h => hbad (Or.inl h)
    have hlt : n < s.size := by omega
    have b1 : ((n : Int) == 0) = false := by simp; omega
    have b2 : ((n : Int) == (s.size : Int)) = false := by simp; omega
    have k1 : (n : Int) < (s.size : Int) := by omega
    obtain ⟨c, hc⟩ : ∃ c, s[n]'hlt = c := ⟨_, rfl⟩
    have hget := list_get s n hlt
    rw [hc] at hget
    clear hbad hns
    by_cases h47 : c = 47
    · have b3 : ((c.toNat : Int) != 47) = false := by rw [h47]; rfl
      rw [h47] at hget
      have hat := mdR_at s.data.toList n HN.out hn0 hget
      obtain ⟨n1, hn1⟩ : ∃ n1, n + 1 = n1 := ⟨_, rfl⟩
      have hx := ext_back s n1
      have k3 : (n1 : Int) ≤ (s.size : Int) := by omega
      have k4 : (0 : Int) ≤ (n1 : Int) := Int.natCast_nonneg _
      have f1 : (n : Int) + 1 = (n1 : Int) := by omega
      rw [hn1] at hat
      obtain ⟨rs, hrs⟩ : ∃ rs, s.data.toList.drop n1 = rs := ⟨_, rfl⟩
      rw [hrs] at hx hat
      have hrl : rs.length = s.size - n1 := by rw [← hrs, List.length_drop, size_list]
      obtain ⟨k, hk⟩ : ∃ k, runL isSg rs = k := ⟨_, rfl⟩
      have hkl : k ≤ rs.length := by rw [← hk]; exact runL_le isSg rs
      have hwd2 := fun W h => word_any ⟨rs.toArray⟩ W (by rw [size_mk]; omega) h
      rw [show (⟨rs.toArray⟩ : ByteArray).data.toList = rs from rfl, hk] at hwd2
      have HWD2 := Lib.hid hwd2
      have hx2 := ext_back ⟨rs.toArray⟩ k
      rw [show (⟨rs.toArray⟩ : ByteArray).data.toList = rs from rfl, size_mk] at hx2
      have k5 : (k : Int) ≤ (rs.length : Int) := by omega
      have k6 : (0 : Int) ≤ (k : Int) := Int.natCast_nonneg _
      obtain ⟨⟨ps, m, no⟩, hr⟩ : ∃ r, parR (rs.drop k) = r := ⟨_, rfl⟩
      have hpb := parR_bd7 _ ps m no hr
      rw [List.length_drop] at hpb
      have hp := oparams_any ⟨(rs.drop k).toArray⟩ W0 (by rw [size_mk, List.length_drop]; omega) HG0.out
      unfold ParamsPost at hp
      rw [show (⟨(rs.drop k).toArray⟩ : ByteArray).data.toList = rs.drop k from rfl, hr] at hp
      have HP := Lib.hid hp
      obtain ⟨q, hq⟩ : ∃ q, k + m = q := ⟨_, rfl⟩
      have f5 : (k : Int) + (m : Int) = (q : Int) := by omega
      have hq2 : q ≤ rs.length := by omega
      have HX := Lib.hid (And.intro hat (And.intro hk (And.intro hr (And.intro hq (And.intro hpb (And.intro hrl (And.intro hkl hn1)))))))
      have hrs40 : rs.length ≤ 1099511627776 := by omega
      clear hp hwd2 hget hat hk hr h47 hrs hrl hq hkl hn1 hpb
      by_cases hz : k = 0 ∨ no ≠ 0 ∨ q ≠ rs.length
      · have HR := Lib.hid (HX.out.1.trans (mdK_bad s.data.toList rs n k ps m no HX.out.2.1 HX.out.2.2.1 (by have := HX.out.2.2.2.1; omega)))
        have hzc : ((k : Int) == 0) = true ∨ (((k : Int) == 0) = false ∧ ((no : Int) != 0) = true) ∨ (((k : Int) == 0) = false ∧ ((no : Int) != 0) = false ∧ ((q : Int) != (rs.length : Int)) = true) := by
          by_cases h1 : k = 0
          · exact Or.inl (by simp; omega)
          · by_cases h2 : no = 0
            · exact Or.inr (Or.inr ⟨by simp; omega, by simp; omega, by simp; omega⟩)
            · exact Or.inr (Or.inl ⟨by simp; omega, by simp; omega⟩)
        clear hz
        rcases hzc with b4 | ⟨b4, b5⟩ | ⟨b4, b5, b6⟩
        all_goals
          go_enter Tryz.func107, Tryz.ntmps107
          go_wp2_with fail
          refine (HWD.out _ (by rw [HW0.out]; exact HG0.out)).mono ?_
          rintro e w1 ⟨rfl, hw1⟩
          rw [hw1, HW0.out]
          clear hw1
          go_wp2_with fail
          refine (HWD2.out _ HG0.out).mono ?_
          rintro e w1 ⟨rfl, hw1⟩
          rw [hw1]
          clear hw1
          go_wp2_with fail
          refine (HP.out).mono ?_
          rintro e w2 ⟨v, rfl, hown, hb2⟩
          have lt4 := HLT.out
          have c0 : w2.cell? ⟨w.heap.size, 0, none⟩ = some (.string ⟨#[]⟩) := (hb2.cell (p := ⟨w.heap.size, 0, none⟩) lt4).trans (by rw [← HW0.out]; simp)
          have c1 : w2.cell? ⟨w.heap.size, 1, none⟩ = some (.string ⟨#[]⟩) := (hb2.cell (p := ⟨w.heap.size, 1, none⟩) lt4).trans (by rw [← HW0.out]; simp)
          have c2 : w2.cell? ⟨w.heap.size, 2, none⟩ = some (.slice none 0 0) := (hb2.cell (p := ⟨w.heap.size, 2, none⟩) lt4).trans (by rw [← HW0.out]; simp)
          have g0 : w2.frozen? ⟨w.heap.size, 0, none⟩ = false := (hb2.frozen (p := ⟨w.heap.size, 0, none⟩) lt4).trans (by rw [← HW0.out]; simp)
          have g1 : w2.frozen? ⟨w.heap.size, 1, none⟩ = false := (hb2.frozen (p := ⟨w.heap.size, 1, none⟩) lt4).trans (by rw [← HW0.out]; simp)
          have g2 : w2.frozen? ⟨w.heap.size, 2, none⟩ = false := (hb2.frozen (p := ⟨w.heap.size, 2, none⟩) lt4).trans (by rw [← HW0.out]; simp)
          have lt5 : w.heap.size < w2.heap.size := Nat.lt_of_lt_of_le lt4 hb2.size
          have HBW := Lib.hid (HB0.out.trans (hb2.mono (Nat.le_of_lt lt4)))
          clear hown hb2 lt4
          go_wp2
          (try simp only [Exit.inBlock, Exit.then])
          refine bodyPost_ret (v := mdV (mdR s.data.toList) ?spx3) ?spx3r rfl ⟨?spx3, rfl, ?spx3o, ?spx3b⟩
          case spx3r => rw [results_cell_tmp rfl, HR.out]; simp [go_sem, c0, c1, c2, g0, g1, g2, lt5]; rfl
          case spx3o => rw [HR.out]; exact World.ownsRow_nil _ _ _ _
          case spx3b => exact ((HBW.out.setCell (p := ⟨w.heap.size, 0, none⟩) (Nat.le_refl _) _).setCell (p := ⟨w.heap.size, 1, none⟩) (Nat.le_refl _) _).setCell (p := ⟨w.heap.size, 2, none⟩) (Nat.le_refl _) _
      · have h1 : k ≠ 0 := fun h => hz (Or.inl h)
        obtain rfl : no = 0 := Classical.byContradiction fun h => hz (Or.inr (Or.inl h))
        have h3 : q = rs.length := Classical.byContradiction fun h => hz (Or.inr (Or.inr h))
        have b4 : ((k : Int) == 0) = false := by simp; omega
        have b6 : ((q : Int) != (rs.length : Int)) = false := by simp; omega
        have HR := Lib.hid (HX.out.1.trans (mdK_ok s.data.toList rs n k ps m 0 HX.out.2.1 HX.out.2.2.1 h1 rfl (HX.out.2.2.2.1.trans h3)))
        clear hz h1 h3
        go_enter Tryz.func107, Tryz.ntmps107
        go_wp2_with fail
        refine (HWD.out _ (by rw [HW0.out]; exact HG0.out)).mono ?_
        rintro e w1 ⟨rfl, hw1⟩
        rw [hw1, HW0.out]
        clear hw1
        go_wp2_with fail
        refine (HWD2.out _ HG0.out).mono ?_
        rintro e w1 ⟨rfl, hw1⟩
        rw [hw1]
        clear hw1
        go_wp2_with fail
        refine (HP.out).mono ?_
        rintro e w2 ⟨v, rfl, hown, hb2⟩
        have hvs : ∃ ao cap, v = .slice ao ps.length cap ∧ (0 < ps.length → ∃ g, ao = some ⟨g, 0, none⟩) := by
          rcases hown.2 with ⟨rfl, h0⟩ | ⟨g, cap, cur, rfl, _⟩
          · exact ⟨none, 0, by rw [h0], fun h => by omega⟩
          · exact ⟨_, cap, rfl, fun _ => ⟨g, rfl⟩⟩
        obtain ⟨ao, cap, rfl, hao⟩ := hvs
        have HAO := Lib.hid hao
        have HST := Lib.hid (And.intro hown hb2)
        clear hao hown hb2
        go_wp2
        go_loopw [59] (fun iv wr => ∃ i : Nat, iv = .int .i64 i ∧ i ≤ ps.length ∧ wr.ownsRow W0.heap.size 214 3 (.slice ao ps.length cap) ps.length (parsV (lowMix ps i)) ∧ Below W0.heap.size W0 wr) (fun iv _ => ps.length - (intOf iv).toNat)
        case atStart => exact ⟨0, rfl, Nat.zero_le _, by rw [lowMix_zero]; exact HST.out.1, HST.out.2⟩
        case round =>
          clear HST
          obtain ⟨i, rfl, hi, hown, hb⟩ := hrel
          have hpb := HX.out.2.2.2.2.1
          by_cases hil : i < ps.length
          · obtain ⟨g, rfl⟩ := HAO.out (by omega)
            obtain ⟨p, hp⟩ : ∃ p, ps[i]? = some p := ⟨_, List.getElem?_eq_getElem hil⟩
            have hpl : p.1.length ≤ 1099511627776 := Nat.le_trans (hpb.2.2 p (List.mem_of_getElem? hp)) (Nat.le_trans (Nat.sub_le _ _) hrs40)
            have hi40 : i ≤ 2199023255552 := by have := hpb.2.1; omega
            have i0 : (0 : Int) ≤ (i : Int) := Int.natCast_nonneg _
            have i1 : (i : Int) < (ps.length : Int) := by omega
            have hwi := w64o i hi40
            have c0 := (own_three hown i p (lowMix_at ps i p hp) hil).1
            have HI := Lib.hid (And.intro hown (And.intro hb hp)); have HW := Lib.hid hwi
            clear hown hb hp hwi hpb
            go_wp2_with fail
            refine (olower_any ⟨p.1.toArray⟩ _ (by rw [size_mk]; exact hpl)).mono ?_
            rintro e w3 ⟨rfl, hb3⟩
            rw [show (⟨p.1.toArray⟩ : ByteArray).data.toList = p.1 from rfl]
            have hown3 := own_later HI.out.1 hb3
            have hst := own_lower hown3 HI.out.2.2
            have c3 := (own_three hown3 i p (lowMix_at ps i p HI.out.2.2) hil).1
            have z3 := hown3.frozenAt (i * 3)
            have hb4 : Below W0.heap.size W0 (w3.setCell ⟨g, i * 3, none⟩ (.string ⟨(lowL p.1).toArray⟩)) := (HI.out.2.1.trans (hb3.mono HI.out.2.1.size)).setCell (p := ⟨g, i * 3, none⟩) (hown3.lt g rfl).1 _
            have H4 := Lib.hid (And.intro hst.1 hb4)
            clear hst hown3 hb3 hb4 c0
            go_wp2
            have hwi := HW.out
            go_roundw
            case rel => (try rw [hwi]); clear hwi; exact ⟨i + 1, by go_num, hil, H4.out.1, H4.out.2⟩
            case measure => (try rw [hwi]); clear hwi; simp [intOf]; omega
          · obtain rfl : i = ps.length := by omega
            rw [lowMix_all] at hown
            have hd : decide (ps.length < ps.length) = false := decide_eq_false (Nat.lt_irrefl _)
            have hxf := ext_front s n
            have hxg := ext_front ⟨rs.toArray⟩ k
            rw [show (⟨rs.toArray⟩ : ByteArray).data.toList = rs from rfl] at hxg
            have k7 : (n : Int) ≤ (s.size : Int) := by omega
            have hs1 : (⟨(s.data.toList.take n).toArray⟩ : ByteArray).size ≤ 1099511627776 := by rw [size_mk, List.length_take, size_list]; exact Nat.le_trans (Nat.min_le_right _ _) hs
            have hs2 : (⟨(rs.take k).toArray⟩ : ByteArray).size ≤ 1099511627776 := by rw [size_mk, List.length_take]; exact Nat.le_trans (Nat.min_le_right _ _) hrs40
            have HI := Lib.hid (And.intro hown (And.intro hb (And.intro hs1 hs2)))
            clear hown hb hs1 hs2 hpb
            go_wp2
            refine wp_region_text [(0, true), (1, true), (2, true), (4, true), (5, true), (6, true), (8, true), (3, false), (7, false), (9, true), (10, false), (11, true)] (by kernel_rfl) (by kernel_rfl) (by kernel_rfl) (by kernel_rfl) ?_
            repeat (refine wpTx_take rfl (by kernel_rfl) (v := ?_) ?_ ?_; rotate_left; · (intro w; go_simp; with_reducible rfl))
            refine wpTx_step rfl (fun K hK => ?_)
            go_simp
            refine (olower_any ⟨(s.data.toList.take n).toArray⟩ _ HI.out.2.2.1).mono ?_
            rintro e w6 ⟨rfl, hb6⟩
            refine hK _ _ ?_
            clear hK K
            refine wpTx_step rfl (fun K hK => ?_)
            go_simp
            refine (olower_any ⟨(rs.take k).toArray⟩ _ HI.out.2.2.2).mono ?_
            rintro e w7 ⟨rfl, hb7⟩
            refine hK _ _ ?_
            clear hK K
            (try rw [show (⟨(s.data.toList.take n).toArray⟩ : ByteArray).data.toList = s.data.toList.take n from rfl])
            (try rw [show (⟨(rs.take k).toArray⟩ : ByteArray).data.toList = rs.take k from rfl])
            have hbd := Below.trans (Below.drew (Below.refl wr.heap.size wr)) hb6
            have hb67 := hbd.trans (hb7.mono hbd.size)
            have hown7 := own_later HI.out.1 hb67
            have hb8 := HI.out.2.1.trans (hb67.mono HI.out.2.1.size)
            have lt4 := HLT.out
            have c0 : w7.cell? ⟨w.heap.size, 0, none⟩ = some (.string ⟨#[]⟩) := (hb8.cell (p := ⟨w.heap.size, 0, none⟩) lt4).trans (by rw [← HW0.out]; simp)
            have c1 : w7.cell? ⟨w.heap.size, 1, none⟩ = some (.string ⟨#[]⟩) := (hb8.cell (p := ⟨w.heap.size, 1, none⟩) lt4).trans (by rw [← HW0.out]; simp)
            have c2 : w7.cell? ⟨w.heap.size, 2, none⟩ = some (.slice none 0 0) := (hb8.cell (p := ⟨w.heap.size, 2, none⟩) lt4).trans (by rw [← HW0.out]; simp)
            have g0 : w7.frozen? ⟨w.heap.size, 0, none⟩ = false := (hb8.frozen (p := ⟨w.heap.size, 0, none⟩) lt4).trans (by rw [← HW0.out]; simp)
            have g1 : w7.frozen? ⟨w.heap.size, 1, none⟩ = false := (hb8.frozen (p := ⟨w.heap.size, 1, none⟩) lt4).trans (by rw [← HW0.out]; simp)
            have g2 : w7.frozen? ⟨w.heap.size, 2, none⟩ = false := (hb8.frozen (p := ⟨w.heap.size, 2, none⟩) lt4).trans (by rw [← HW0.out]; simp)
            have lt5 : w.heap.size < w7.heap.size := Nat.lt_of_lt_of_le lt4 hb8.size
            have HBW := Lib.hid (HB0.out.trans (hb8.mono (Nat.le_of_lt lt4)))
            have HOW := Lib.hid hown7
            clear hbd hb67 hown7 hb8 hb6 hb7 lt4
            refine wpTx_take rfl (by kernel_rfl) (v := ?_) ?_ ?_
            rotate_left
            · (intro w; go_simp; with_reducible rfl)
            refine wpTx_step rfl (fun K hK => ?_)
            go_simp
            refine hK _ _ ?_
            clear hK K
            refine wpTx_take rfl (by kernel_rfl) (v := ?_) ?_ ?_
            rotate_left
            · (intro w; go_simp; with_reducible rfl)
            refine wpTx_nil ?_
            go_simp
            go_wp2
            (try simp only [Exit.inBlock, Exit.then])
            refine bodyPost_ret (v := mdV (mdR s.data.toList) ?spx4) ?spx4r rfl ⟨?spx4, rfl, ?spx4o, ?spx4b⟩
            case spx4r => rw [results_cell_tmp rfl, HR.out]; simp [go_sem, c0, c1, c2, g0, g1, g2, lt5]; rfl
            case spx4o => rw [HR.out]; exact by rw [show ((lowL (s.data.toList.take n), lowL (rs.take k), ps.map lowP, true) : Med).2.2.1 = ps.map lowP from rfl, List.length_map]; exact own_mono7 (ownsRow_setCell_below (ownsRow_setCell_below (ownsRow_setCell_below HOW.out (a := ⟨w.heap.size, 0, none⟩) HLT.out _) (a := ⟨w.heap.size, 1, none⟩) HLT.out _) (a := ⟨w.heap.size, 2, none⟩) HLT.out _) (Nat.le_of_lt HLT.out)
            case spx4b => exact ((HBW.out.setCell (p := ⟨w.heap.size, 0, none⟩) (Nat.le_refl _) _).setCell (p := ⟨w.heap.size, 1, none⟩) (Nat.le_refl _) _).setCell (p := ⟨w.heap.size, 2, none⟩) (Nat.le_refl _) _
    · have b3 : ((c.toNat : Int) != 47) = true := (ne_u8o c 47 (by decide) h47).2
      have HR := Lib.hid (mdR_none s.data.toList n HN.out (Or.inr (by rw [hget]; intro e; injection e with e; exact h47 e)))
      clear hget h47
      go_enter Tryz.func107, Tryz.ntmps107
      go_wp2_with fail
      refine (HWD.out _ (by rw [HW0.out]; exact HG0.out)).mono ?_
      rintro e w1 ⟨rfl, rfl⟩
      go_wp2
      (try simp only [Exit.inBlock, Exit.then])
      refine bodyPost_ret (v := mdV (mdR s.data.toList) ?spx2) ?spx2r rfl ⟨?spx2, rfl, ?spx2o, ?spx2b⟩
      case spx2r => rw [results_cell_tmp rfl, HR.out]; go_simp; rfl
      case spx2o => rw [HR.out]; exact World.ownsRow_nil _ _ _ _
      case spx2b => exact by rw [HW0.out]; exact HB0.out
end Go.Proofs.YtpdbejeiceodkaaGreatDoor
namespace Go.Proofs.YtpdbejeiceodkaaGreatDoor
open Go.RowKit
set_option linter.unusedSimpArgs false
set_option linter.unusedVariables false
set_option maxRecDepth 1000000
theorem allVal_take (ps : List Par) (i : Nat) (p : Par) (h : ps[i]? = some p) (ha : allVal (ps.take i) = true) (hp : p.2.2 = true) : allVal (ps.take (i + 1)) = true := by
  unfold allVal at ha ⊢
  exact take_all _ ps i p h ha hp
set_option maxHeartbeats 4000000 in
theorem ovalued_any (v : Value) (l : List Par) (w : World) (hN : l.length ≤ 2199023255552) (h : ParsIn w v l) :
    Calls Tryz.prog 109 #[v] w fun e w' => e = .returned (.bool (allVal l)) ∧ Below w.heap.size w w' := by
  obtain ⟨ao, cap, rfl, hat⟩ := h
  obtain ⟨L, hL⟩ : ∃ L, w.heap.size = L := ⟨_, rfl⟩
  have hbb : Below L w w := by rw [← hL]; exact Below.refl _ w
  have HL := Lib.hid hL; clear hL
  have HATW := Lib.hid hat; clear hat
  go_enter Tryz.func109, Tryz.ntmps109
  go_wp2
  go_loopw [7] (fun iv wr => ∃ i : Nat, iv = .int .i64 i ∧ i ≤ l.length ∧ allVal (l.take i) = true ∧ Below L w wr) (fun iv _ => l.length - (intOf iv).toNat)
  case atStart => exact ⟨0, rfl, Nat.zero_le _, rfl, hbb⟩
  case round =>
    clear hbb
    obtain ⟨i, rfl, hi, hok, hb⟩ := hrel
    by_cases hlt : i < l.length
    · obtain ⟨p, hp⟩ : ∃ p, l[i]? = some p := ⟨_, List.getElem?_eq_getElem hlt⟩
      have hb' : Below w.heap.size w wr := by rw [HL.out]; exact hb
      obtain ⟨g, o, rfl, hg, c0, c1, c2⟩ := HATW.out.below hb' i p hp
      have k0 : (0 : Int) ≤ (i : Int) := Int.natCast_nonneg _
      have k1 : (i : Int) < (l.length : Int) := by omega
      have hwi := wrap64_small i (Nat.le_trans hi hN)
      have hb2 : Below L w (wr.alloc (.cells #[.string ⟨p.1.toArray⟩, .string ⟨p.2.1.toArray⟩, .bool p.2.2] 214)) := hb.alloc (bsz hb HL) _
      obtain ⟨p1, p2, p3⟩ := p
      simp only at c0 c1 c2 hb2
      have HB2 := Lib.hid hb2
      have HW := Lib.hid hwi
      cases p3 with
      | true =>
        have HST := Lib.hid (allVal_take l i _ hp hok rfl)
        clear hb hb' hp hok hb2 hwi
        go_wp2
        have hwi := HW.out
        go_roundw
        case rel => (try rw [hwi]); clear hwi; exact ⟨i + 1, by go_num, hlt, HST.out, HB2.out⟩
        case measure => (try rw [hwi]); clear hwi; simp [intOf]; omega
      | false =>
        have HST := Lib.hid (allVal_no l i _ hp rfl)
        clear hb hb' hp hok hb2 hwi
        go_wp2
        go_ret
        rw [HST.out, HL.out]
        exact ⟨rfl, HB2.out⟩
    · obtain rfl : i = l.length := by omega
      have hd : decide (l.length < l.length) = false := decide_eq_false (Nat.lt_irrefl _)
      rw [List.take_length] at hok
      have HX := Lib.hid (And.intro hok hb)
      clear hok hb
      go_wp2
      go_ret
      rw [HX.out.1, HL.out]
      exact ⟨rfl, HX.out.2⟩
set_option maxHeartbeats 4000000 in
theorem rvalued_any (v : Value) (l : List Par) (w : World) (hN : l.length ≤ 2199023255552) (h : ParsIn w v l) :
    Calls Tryz.prog 83 #[v] w fun e w' => e = .returned (.bool (allVal l)) ∧ w' = w := by
  obtain ⟨ao, cap, rfl, hat⟩ := h
  have HATW := Lib.hid hat; clear hat
  go_enter Tryz.func83, Tryz.ntmps83
  go_wp2
  go_loopw [3] (fun iv wr => ∃ i : Nat, iv = .int .i64 i ∧ i ≤ l.length ∧ allVal (l.take i) = true ∧ wr = w) (fun iv _ => l.length - (intOf iv).toNat)
  case atStart => exact ⟨0, rfl, Nat.zero_le _, rfl, rfl⟩
  case round =>
    obtain ⟨i, rfl, hi, hok, rfl⟩ := hrel
    by_cases hlt : i < l.length
    · obtain ⟨p, hp⟩ : ∃ p, l[i]? = some p := ⟨_, List.getElem?_eq_getElem hlt⟩
      obtain ⟨g, o, rfl, hg, c0, c1, c2⟩ := HATW.out i p hp
      have k0 : (0 : Int) ≤ (i : Int) := Int.natCast_nonneg _
      have k1 : (i : Int) < (l.length : Int) := by omega
      have hwi := wrap64_small i (Nat.le_trans hi hN)
      obtain ⟨p1, p2, p3⟩ := p
      simp only at c0 c1 c2
      have HW := Lib.hid hwi
      cases p3 with
      | true =>
        have HST := Lib.hid (allVal_take l i _ hp hok rfl)
        clear hp hok hwi
        go_wp2
        have hwi := HW.out
        go_roundw
        case rel => (try rw [hwi]); clear hwi; exact ⟨i + 1, by go_num, hlt, HST.out, by first | rfl | trivial⟩
        case measure => (try rw [hwi]); clear hwi; simp [intOf]; omega
      | false =>
        have HST := Lib.hid (allVal_no l i _ hp rfl)
        clear hp hok hwi
        go_wp2
        go_ret
        rw [HST.out]
        exact ⟨rfl, rfl⟩
    · obtain rfl : i = l.length := by omega
      have hd : decide (l.length < l.length) = false := decide_eq_false (Nat.lt_irrefl _)
      rw [List.take_length] at hok
      have HX := Lib.hid hok
      clear hok
      go_wp2
      go_ret
      rw [HX.out]
      exact ⟨rfl, rfl⟩
end Go.Proofs.YtpdbejeiceodkaaGreatDoor
