/- The walk of the reference's Weights: the plain function wgR. Conditions: at most 1048576 bytes. -/
import Derived.Test.YthnniiakmjonjaaDoorWgs
import Derived.Test.YthnniiakmjonjaaDoorRLst
import Derived.Test.YthnniiakmjonjaaDoorRPrtL
import Derived.Deep.DeepCutAuto
namespace Go.Proofs.YthnniiakmjonjaaDoor
open Go.RowKit
set_option linter.unusedSimpArgs false
set_option linter.unusedVariables false
set_option maxRecDepth 1000000
theorem ns_of (x : List UInt8) (t : ByteArray) (n : Nat) (h : runL isSg x = n) (h2 : x.length = t.size) (h3 : t.size ≤ 1048576) : n ≤ 2199023255552 ∧ n ≤ t.size := by
  have := runL_le isSg x
  omega
set_option maxHeartbeats 16000000 in
theorem rweights_any (s : ByteArray) (w : World) (hs : s.size ≤ 1048576) : Calls Tryd.prog 39 #[.string s] w (WgPost s.data.toList 110 w) := by
  obtain ⟨i0, hi0, hz0, hz1, hz2⟩ := info_partsW infoRWgt
  have hl := rlist_any s w (sz20 _ hs).2
  unfold LsPost at hl
  have hlen := lsR_len s.data.toList
  obtain ⟨⟨xs, er⟩, hr⟩ : ∃ r, lsR s.data.toList = r := ⟨_, rfl⟩
  rw [hr] at hl hlen
  have hxn : xs.length ≤ 1048577 := by have := hlen.1; rw [size_list] at this; simp only at this; omega
  have hxl : ∀ x ∈ xs, x.length ≤ 1048576 := fun x hx => by have := hlen.2 x hx; rw [size_list] at this; omega
  have HL := Lib.hid hl; have HXL := Lib.hid hxl
  clear hl hlen hxl
  by_cases her : er = 0
  · subst her
    have HR := Lib.hid hr
    clear hr
    go_enter Tryd.func39, Tryd.ntmps39
    go_wp2_with fail
    refine (HL.out).mono ?_
    rintro e w1 ⟨lv, rfl, hown, hb1⟩
    obtain ⟨lo, lcap, rfl, hat⟩ := txtsIn_own hown
    have HAT := Lib.hid hat; have HB1 := Lib.hid hb1
    have hm0 := World.ownsRow_made (e := 110) (base := w1.heap.size) (size := 2) w1 #[] 0 (Nat.le_refl _) (by decide) rfl
    have HM0 := Lib.hid (And.intro hm0 ((Below.refl _ w1).alloc (Nat.le_refl _) (.cells #[] 110)))
    clear hown hb1 hat hm0
    go_wp2
    go_loopw [7, 6] (fun iv ov wr => ∃ i : Nat, iv = .int .i64 i ∧ i ≤ xs.length ∧ (xs.take i).all wgGood = true ∧ wr.ownsRow w1.heap.size 110 2 ov i (wgtsV (wgW (xs.take i))) ∧ Below w1.heap.size w1 wr) (fun iv _ _ => xs.length - (intOf iv).toNat)
    case atStart => exact ⟨0, rfl, Nat.zero_le _, rfl, HM0.out.1, HM0.out.2⟩
    case round =>
      obtain ⟨i, rfl, hi, hok, hown, hb⟩ := hrel
      by_cases hil : i < xs.length
      · obtain ⟨x, hxi⟩ : ∃ x, xs[i]? = some x := ⟨_, List.getElem?_eq_getElem hil⟩
        obtain ⟨g, o, rfl, hgl, c0⟩ := HAT.out.below hb i x hxi
        have hxsz := HXL.out x (List.mem_of_getElem? hxi)
        obtain ⟨t, ht⟩ : ∃ t : ByteArray, (⟨x.toArray⟩ : ByteArray) = t := ⟨_, rfl⟩
        have htx : t.data.toList = x := by rw [← ht]
        rw [ht] at c0
        have hts : t.size ≤ 1048576 := by rw [← size_list, htx]; exact hxsz
        have hbd := xsn_bd i xs.length hil hxn
        have i0' : (0 : Int) ≤ (i : Int) := Int.natCast_nonneg _
        have i1 : (i : Int) < (xs.length : Int) := by omega
        have hwi := wrap64_small i hbd.2.2
        have hwb : Below w.heap.size w wr := HB1.out.trans (hb.mono HB1.out.size)
        obtain ⟨n, hn⟩ : ∃ n, runL isSg x = n := ⟨_, rfl⟩
        have hns : n ≤ t.size := by rw [← hn, ← size_list, htx]; exact runL_le _ _
        have n0 : (0 : Int) ≤ (n : Int) := Int.natCast_nonneg _
        have n1 : (n : Int) ≤ (t.size : Int) := by omega
        have hx3 := ext_back t n
        have hx4 := ext_front t n
        obtain ⟨⟨ps, m, pe⟩, hpr⟩ : ∃ r, parR (x.drop n) = r := ⟨_, rfl⟩
        have hpa := rparams_any ⟨(t.data.toList.drop n).toArray⟩ wr (dsz20 t n hts)
        unfold ParamsPost at hpa
        rw [show (⟨(t.data.toList.drop n).toArray⟩ : ByteArray).data.toList = t.data.toList.drop n from rfl, htx, hpr] at hpa
        rw [htx] at hx3 hx4
        have hps := psn_of x n m pe ps hpr hxsz
        have hpp := plen_of x n m pe ps hpr hxsz
        have HPA := Lib.hid hpa; have HPR := Lib.hid (And.intro hn hpr)
        have HO := Lib.hid hown; have HB := Lib.hid hb; have HW := Lib.hid hwi; have HOK := Lib.hid hok; have HXI := Lib.hid hxi
        have HSZ := Lib.hid (And.intro hps (And.intro hpp hts)); have HT := Lib.hid htx; have HWB := Lib.hid hwb
        have hxt : x.length = t.size := by rw [← size_list, htx]
        have HXT := Lib.hid hxt
        clear hpa hn hpr hown hb hwi hok hxi hps hpp hxsz ht htx hwb hns hxt hts
        obtain ⟨V, hV⟩ : ∃ V, V = wr := ⟨_, rfl⟩
        subst hV
        have HNS := Lib.hid (ns_of x t n HPR.out.1 HXT.out HSZ.out.2.2)
        go_wp2
        go_loopw [8] (fun kv wr => ∃ k : Nat, kv = .int .i64 k ∧ k ≤ n ∧ wr = V) (fun kv _ => t.size + 1 - (intOf kv).toNat)
        case atStart => exact ⟨0, rfl, Nat.zero_le _, rfl⟩
        case round =>
          obtain ⟨k, rfl, hk, hw⟩ := hrel
          obtain rfl : V = wr := hw.symm
          go_upto_region 9 with fail
          go_cut [46] (fun s46 wx => s46 = .bool (decide (k < n)) ∧ V = wx)
          case first =>
            by_cases hkt : k < t.size
            · obtain ⟨c, hc⟩ : ∃ c, t[k]'hkt = c := ⟨_, rfl⟩
              have hget := list_get t k hkt
              rw [hc, HT.out] at hget
              have j0 : (0 : Int) ≤ (k : Int) := Int.natCast_nonneg _
              have j1 : (k : Int) < (t.size : Int) := by omega
              have HS := Lib.hid (run_step x n k c HPR.out.1 hk hget)
              clear hget
              go_wp2_with fail
              refine (rsign_any c _).mono ?_
              rintro e wz ⟨rfl, hwz⟩
              rw [hwz]
              clear hwz
              go_wp2_with fail
              go_meet
              exact ⟨by rw [HS.out], rfl⟩
            · have j1 : (t.size : Int) ≤ (k : Int) := by omega
              have HS := Lib.hid (run_over x n k HPR.out.1 hk (by rw [HXT.out]; omega))
              go_wp2_with fail
              go_meet
              exact ⟨by rw [HS.out], rfl⟩
          case rest =>
          obtain ⟨rfl, hw⟩ := hcut
          obtain rfl : V = wc := hw
          by_cases hkn : k < n
          · have hd : decide (k < n) = true := decide_eq_true hkn
            have hwk := wrap64_small k (Nat.le_trans hk HNS.out.1)
            have HWK := Lib.hid hwk
            clear hwk
            go_wp2
            have hwk := HWK.out
            go_roundw
            case rel => (try rw [hwk]); clear hwk; exact ⟨k + 1, by go_num, hkn, by first | rfl | trivial⟩
            case measure => (try rw [hwk]); clear hwk; have hns := HNS.out.2; simp [intOf]; omega
          · have hd : decide (k < n) = false := decide_eq_false hkn
            obtain rfl : n = k := by omega
            clear hk hkn
            go_wp2_with fail
            refine (HPA.out).mono ?_
            rintro e w3 ⟨pv, rfl, hpo, hb3⟩
            have hpi := parsIn_own hpo
            have d0 : w3.cell? ⟨g, o + i, none⟩ = some (.string t) := by rw [hb3.cell (p := ⟨g, o + i, none⟩) hgl]; exact c0
            have hb3' := HB.out.trans (hb3.mono HB.out.size)
            have HB3 := Lib.hid hb3'
            have HO3 := Lib.hid (own_later HO.out hb3)
            have HWB3 := Lib.hid (HWB.out.trans (hb3.mono HWB.out.size))
            have HPT := Lib.hid hpi
            have HD0 := Lib.hid (And.intro d0 (Nat.lt_of_lt_of_le hgl hb3.size))
            clear hb3 hb3' hpo hpi c0
            by_cases hn0 : n = 0
            · have b0 : ((n : Int) == 0) = true := by rw [hn0]; rfl
              have HE := Lib.hid (wgR_bad _ xs HR.out i x HXI.out HOK.out 10 _ (wgOne_bad x n m pe ps HPR.out.1 HPR.out.2 (Or.inl hn0)) (by decide))
              clear hn0
              have HMD := Lib.hid (World.ownsRow_made (e := 110) (base := w.heap.size) (size := 2) _ #[] 0 (HWB3.out).size (by decide) rfl)
              have HBD := Lib.hid ((HWB3.out).alloc (HWB3.out).size (.cells #[] 110))
              go_wp2
              go_ret2
              unfold WgPost
              rw [HE.out]
              exact ⟨_, rfl, HMD.out, HBD.out⟩
            · have b0 : ((n : Int) == 0) = false := beq_false_of_ne (by omega)
              have HN0 := Lib.hid hn0
              by_cases hpe : pe = 0
              · subst hpe
                by_cases hq : n + m = t.size
                · have f3 : (n : Int) + (m : Int) = (t.size : Int) := by omega
                  have fb : ((t.size : Int) != (t.size : Int)) = false := by simp
                  obtain ⟨hwS, hwS2⟩ := w64le7 t.size (Nat.le_trans HSZ.out.2.2 (by decide))
                  have HQ := Lib.hid (show n + m = x.length by rw [HXT.out]; exact hq)
                  have hwt := rweight_any pv ps w3 HSZ.out.1.1 HSZ.out.2.1 (parR_noV _ _ _ _ HPR.out.2) HPT.out
                  obtain ⟨⟨ah, q, qe⟩, hw⟩ : ∃ r, wtP ps = r := ⟨_, rfl⟩
                  rw [hw] at hwt
                  have HWT := Lib.hid hwt; have HWP := Lib.hid hw
                  clear hq hwt hw hn0
                  go_wp2_with fail
                  refine (HWT.out).mono ?_
                  rintro e w4 ⟨v4, rfl, hpw, hb4⟩
                  rw [show wtV v4 (ah, q, qe) = .tuple #[v4, .int .i64 (q : Nat), .int .i64 (qe : Nat)] from rfl]
                  have e0 : w4.cell? ⟨g, o + i, none⟩ = some (.string t) := by rw [hb4.cell (p := ⟨g, o + i, none⟩) HD0.out.2]; exact HD0.out.1
                  have hb4' := HB3.out.trans (hb4.mono HB3.out.size)
                  have HB4 := Lib.hid hb4'
                  have HO4 := Lib.hid (own_later HO3.out hb4)
                  have HWB4 := Lib.hid (HWB3.out.trans (hb4.mono HWB3.out.size))
                  clear hb4 hb4' hpw d0
                  by_cases hqe : qe = 0
                  · subst hqe
                    have hst := wg_step xs i x _ HXI.out HOK.out (wgOne_ok x n m ps ah q HPR.out.1 HPR.out.2 HN0.out HQ.out HWP.out)
                    have hlw := rlower_any ⟨(t.data.toList.take n).toArray⟩ w4 (tsz20 t n HSZ.out.2.2)
                    rw [show (⟨(t.data.toList.take n).toArray⟩ : ByteArray).data.toList = t.data.toList.take n from rfl, HT.out] at hlw
                    obtain ⟨lw, hlw2⟩ : ∃ y, lowL (x.take n) = y := ⟨_, rfl⟩
                    rw [hlw2] at hst hlw
                    have HST := Lib.hid hst; have HLW := Lib.hid hlw
                    clear hst hlw hlw2
                    go_wp2_with fail
                    refine (HLW.out).mono ?_
                    rintro e w5 ⟨rfl, hb5⟩
                    have hb5' := HB4.out.trans (hb5.mono HB4.out.size)
                    have hbz5 := hb5'.size
                    have HB5 := Lib.hid hb5'
                    have HO5 := Lib.hid (own_later HO4.out hb5)
                    clear hb5 hb5'
                    go_wp2_with (at_builtin; refine wpList_append_own _ rfl (.tmp 88) (.tmp 98) 45 rfl w1.heap.size 110 i0 (.agg #[.string ByteArray.empty, .int .i64 0]) 2 24 Tryd.underlying45 hi0 hz0 hz1 hz2 rfl (by decide) _ _ _ rfl (HO5.out.alloc _) ⟨w5.heap.size, 0, none⟩ 1 1 [.string ⟨lw.toArray⟩, .int .i64 (q : Nat)] rfl rfl (cells_new w5 110 _) (by simp [Value.oneCell']) hbd.1 hbd.2.1 ?dd ?_)
                    case dd => simp; omega
                    intro v1 w6 hI6 hg6 _
                    have hb6 : Below w1.heap.size w1 w6 := (HB5.out.alloc hbz5 _).grown hg6 (alloc_le hbz5 _) (fun k hk => (HO5.out.lt k hk).1)
                    have HI6 := Lib.hid hI6; have HB6 := Lib.hid hb6
                    clear hI6 hg6 hb6
                    go_wp2
                    have hwi := HW.out
                    go_roundw
                    case rel => (try rw [hwi]); clear hwi; exact ⟨i + 1, by go_num, hil, HST.out.1, by rw [HST.out.2]; exact HI6.out, HB6.out⟩
                    case measure => (try rw [hwi]); clear hwi; simp [intOf]; omega
                  · have fe : ((qe : Int) != 0) = true := by simp; omega
                    have HE := Lib.hid (wgR_bad _ xs HR.out i x HXI.out HOK.out qe _ (wgOne_q x n m ps ah q qe HPR.out.1 HPR.out.2 HN0.out HQ.out HWP.out hqe) hqe)
                    clear hqe
                    have HMD := Lib.hid (World.ownsRow_made (e := 110) (base := w.heap.size) (size := 2) _ #[] 0 (HWB4.out).size (by decide) rfl)
                    have HBD := Lib.hid ((HWB4.out).alloc (HWB4.out).size (.cells #[] 110))
                    go_wp2
                    go_ret2
                    unfold WgPost
                    rw [HE.out]
                    exact ⟨_, rfl, HMD.out, HBD.out⟩
                · obtain ⟨Q1, hQ1⟩ : ∃ Q1, n + m = Q1 := ⟨_, rfl⟩
                  have f3 : (n : Int) + (m : Int) = (Q1 : Int) := by omega
                  have fb : ((Q1 : Int) != (t.size : Int)) = true := by simp; omega
                  obtain ⟨hwS, hwS2⟩ := w64_20 n m Q1 hQ1 (by have := HSZ.out.2.2; omega) HSZ.out.1.2
                  have HE := Lib.hid (wgR_bad _ xs HR.out i x HXI.out HOK.out 10 _ (wgOne_bad x n m 0 ps HPR.out.1 HPR.out.2 (Or.inr (Or.inr (by rw [HXT.out]; exact hq)))) (by decide))
                  clear hq hQ1 hn0
                  have HMD := Lib.hid (World.ownsRow_made (e := 110) (base := w.heap.size) (size := 2) _ #[] 0 (HWB3.out).size (by decide) rfl)
                  have HBD := Lib.hid ((HWB3.out).alloc (HWB3.out).size (.cells #[] 110))
                  go_wp2
                  go_ret2
                  unfold WgPost
                  rw [HE.out]
                  exact ⟨_, rfl, HMD.out, HBD.out⟩
              · have fe : ((pe : Int) != 0) = true := by simp; omega
                have fe2 : ((pe : Int) == 0) = false := beq_false_of_ne (by omega)
                have HE := Lib.hid (wgR_bad _ xs HR.out i x HXI.out HOK.out 10 _ (wgOne_bad x n m pe ps HPR.out.1 HPR.out.2 (Or.inr (Or.inl hpe))) (by decide))
                clear hpe hn0
                have HMD := Lib.hid (World.ownsRow_made (e := 110) (base := w.heap.size) (size := 2) _ #[] 0 (HWB3.out).size (by decide) rfl)
                have HBD := Lib.hid ((HWB3.out).alloc (HWB3.out).size (.cells #[] 110))
                go_wp2
                go_ret2
                unfold WgPost
                rw [HE.out]
                exact ⟨_, rfl, HMD.out, HBD.out⟩
      · obtain rfl : xs.length = i := by omega
        have hd : decide (xs.length < xs.length) = false := decide_eq_false (Nat.lt_irrefl _)
        rw [List.take_length] at hok hown
        have HF := Lib.hid (wgR_ok _ xs HR.out hok)
        have HO2 := Lib.hid (own_base hown HB1.out.size)
        have HBX := Lib.hid (HB1.out.trans (hb.mono HB1.out.size))
        clear hown hb hok
        go_wp2
        go_ret2
        unfold WgPost
        rw [HF.out]
        exact ⟨_, rfl, by show World.ownsRow _ _ _ _ _ (wgW xs).length _; rw [show (wgW xs).length = xs.length from by unfold wgW; rw [List.length_map]]; exact HO2.out, HBX.out⟩
  · have HR := Lib.hid (wgR_list _ xs er hr her)
    have hbe : ((er : Int) != 0) = true := by simp; omega
    clear hr her
    go_enter Tryd.func39, Tryd.ntmps39
    go_wp2_with fail
    refine (HL.out).mono ?_
    rintro e w1 ⟨lv, rfl, hown, hb1⟩
    have HMD := Lib.hid (World.ownsRow_made (e := 110) (base := w.heap.size) (size := 2) w1 #[] 0 hb1.size (by decide) rfl)
    have HB1 := Lib.hid (hb1.alloc hb1.size (.cells #[] 110))
    clear hown hb1
    go_wp2
    go_ret2
    unfold WgPost
    rw [HR.out]
    exact ⟨_, rfl, HMD.out, HB1.out⟩
end Go.Proofs.YthnniiakmjonjaaDoor
