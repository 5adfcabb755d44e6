/- The walk of accept.Weights: the plain function wgR. Conditions: at most 1048576 bytes; bytealg's MaxLen holds an int; octet.signs holds what the text lays. -/
import Derived.Test.YthnniiakmjonjaaDoorWgsP
import Derived.Test.YthnniiakmjonjaaDoorWei
import Derived.Test.YthnniiakmjonjaaDoorWord
import Derived.Test.YthnniiakmjonjaaDoorSpt
namespace Go.Proofs.YthnniiakmjonjaaDoor
open Go.RowKit
set_option linter.unusedSimpArgs false
set_option linter.unusedVariables false
set_option maxRecDepth 1000000
def WgPost (L : List UInt8) (T : TypeId) (w : World) (e : Ending) (w' : World) : Prop := ∃ v, e = .returned (.tuple #[v, .int .i64 ((wgR L).2 : Nat)]) ∧ w'.ownsRow w.heap.size T 2 v (wgR L).1.length (wgtsV (wgR L).1) ∧ Below w.heap.size w w'
theorem infoOWgt : (Tryd.prog.info? 85).map (fun i => (i.zero, i.size, i.bytes)) = some (some (.agg #[.string ByteArray.empty, .int .i64 0]), 2, 24) := by kernel_rfl
theorem info_partsOW (h : (Tryd.prog.info? 85).map (fun i => (i.zero, i.size, i.bytes)) = some (some (.agg #[.string ByteArray.empty, .int .i64 0]), 2, 24)) : ∃ i, Tryd.prog.info? 85 = some i ∧ i.zero = some (.agg #[.string ByteArray.empty, .int .i64 0]) ∧ i.size = 2 ∧ i.bytes = 24 := by
  obtain ⟨i, hi, he⟩ := Option.map_eq_some_iff.1 h
  simp only [Prod.mk.injEq] at he
  exact ⟨i, hi, he.1, he.2.1, he.2.2⟩
theorem own_parts {w : World} {base : Nat} {T : TypeId} {v : Value} {l : List Par} (h : w.ownsRow base T 3 v l.length (parsV l)) : ∃ ao cap, v = .slice ao l.length cap ∧ l.length ≤ cap ∧ ParAt w ao l := by
  have hp := parsIn_own h
  rcases h.2 with ⟨rfl, h0⟩ | ⟨g, cap, cur, rfl, hb, hg, hn, _⟩
  · obtain ⟨ao, cap, he, hat⟩ := hp
    injection he with h1 h2 h3
    subst h1
    exact ⟨none, 0, by rw [h0], by omega, hat⟩
  · obtain ⟨ao, cap2, he, hat⟩ := hp
    injection he with h1 h2 h3
    subst h1
    exact ⟨_, cap, rfl, hn, hat⟩
theorem plen_of (x : List UInt8) (n m e : Nat) (ps : List Par) (h : parR (x.drop n) = (ps, m, e)) (hx : x.length ≤ 1048576) : PLen ps := fun i p hp => by
  have h1 := (parR_bd7 _ ps m e h).2.2 p (List.mem_of_getElem? hp)
  have h2 := (parR_good _ ps m e h p (List.mem_of_getElem? hp)).1
  rw [List.length_drop] at h1 h2
  omega
theorem psn_of (x : List UInt8) (n m e : Nat) (ps : List Par) (h : parR (x.drop n) = (ps, m, e)) (hx : x.length ≤ 1048576) : ps.length ≤ 1073741824 ∧ m ≤ 1048576 := by
  have h1 := parR_bd7 _ ps m e h
  rw [List.length_drop] at h1
  omega
theorem sz20 (n : Nat) (h : n ≤ 1048576) : n ≤ 1099511627776 ∧ n ≤ 1073741824 := by omega
theorem dsz20 (t : ByteArray) (n : Nat) (h : t.size ≤ 1048576) : (⟨(t.data.toList.drop n).toArray⟩ : ByteArray).size ≤ 1099511627776 := by rw [size_mk, List.length_drop, size_list]; omega
theorem tsz20 (t : ByteArray) (n : Nat) (h : t.size ≤ 1048576) : (⟨(t.data.toList.take n).toArray⟩ : ByteArray).size ≤ 1099511627776 := by rw [size_mk, List.length_take, size_list]; omega
theorem xsn_bd (i n : Nat) (h : i < n) (hn : n ≤ 1048577) : i + 1 ≤ maxLen ∧ (i + 1) * 24 ≤ 140737488355328 ∧ i ≤ 2199023255552 := by unfold maxLen; omega
theorem w64_20 (a b c : Nat) (h : a + b = c) (ha : a ≤ 1048576) (hb : b ≤ 1048576) : wrap64 (c : Int) = (c : Int) ∧ IntKind.i64.wrap (c : Int) = (c : Int) := w64le7 c (by omega)
set_option maxHeartbeats 16000000 in
theorem oweights_any (s : ByteArray) (mm : Int) (w : World) (hs : s.size ≤ 1048576) (hx : w.cell? ⟨1, 0, none⟩ = some (.int .i64 mm)) (hg : SgAt w) : Calls Tryd.prog 38 #[.string s] w (WgPost s.data.toList 85 w) := by
  obtain ⟨i0, hi0, hz0, hz1, hz2⟩ := info_partsOW infoOWgt
  have hl := olist_any s w (sz20 _ hs).2
  unfold LsPost at hl
  have hlen := lsR_len s.data.toList
  obtain ⟨⟨xs, er⟩, hr⟩ : ∃ r, lsR s.data.toList = r := ⟨_, rfl⟩
  rw [hr] at hl hlen
  have HX := Lib.hid (And.intro hx hg)
  have hxn : xs.length ≤ 1048577 := by have := hlen.1; rw [size_list] at this; simp only at this; omega
  have hxl : ∀ x ∈ xs, x.length ≤ 1048576 := fun x hx => by have := hlen.2 x hx; rw [size_list] at this; omega
  have HL := Lib.hid hl; have HXL := Lib.hid hxl
  clear hl hlen hx hg hxl
  by_cases her : er = 0
  · subst her
    have HR := Lib.hid hr
    clear hr
    go_enter Tryd.func38, Tryd.ntmps38
    go_wp2_with fail
    refine (HL.out).mono ?_
    rintro e w1 ⟨lv, rfl, hown, hb1⟩
    obtain ⟨lo, lcap, rfl, hat⟩ := txtsIn_own hown
    have HAT := Lib.hid hat; have HB1 := Lib.hid hb1
    clear hown hb1 hat
    go_wp2
    go_loopw [25, 6] (fun iv ov wr => ∃ i : Nat, iv = .int .i64 i ∧ i ≤ xs.length ∧ (xs.take i).all wgGood = true ∧ wr.ownsRow w1.heap.size 85 2 ov i (wgtsV (wgW (xs.take i))) ∧ Below w1.heap.size w1 wr) (fun iv _ _ => xs.length - (intOf iv).toNat)
    case atStart => exact ⟨0, rfl, Nat.zero_le _, rfl, World.ownsRow_nil _ _ _ _, Below.refl _ _⟩
    case round =>
      obtain ⟨i, rfl, hi, hok, hown, hb⟩ := hrel
      by_cases hil : i < xs.length
      · obtain ⟨x, hxi⟩ : ∃ x, xs[i]? = some x := ⟨_, List.getElem?_eq_getElem hil⟩
        obtain ⟨g, o, rfl, _, c0⟩ := HAT.out.below hb i x hxi
        have hxsz := HXL.out x (List.mem_of_getElem? hxi)
        obtain ⟨t, ht⟩ : ∃ t : ByteArray, (⟨x.toArray⟩ : ByteArray) = t := ⟨_, rfl⟩
        have htx : t.data.toList = x := by rw [← ht]
        rw [ht] at c0
        have hts : t.size ≤ 1048576 := by rw [← size_list, htx]; exact hxsz
        have hbd := xsn_bd i xs.length hil hxn
        have i0' : (0 : Int) ≤ (i : Int) := Int.natCast_nonneg _
        have i1 : (i : Int) < (xs.length : Int) := by omega
        have hwi := wrap64_small i hbd.2.2
        have hwb : Below w.heap.size w wr := HB1.out.trans (hb.mono HB1.out.size)
        have hgr := HX.out.2.below hwb
        have hwd := word_any t wr (sz20 _ hts).1 hgr
        obtain ⟨n, hn⟩ : ∃ n, runL isSg x = n := ⟨_, rfl⟩
        rw [htx, hn] at hwd
        have hns : n ≤ t.size := by rw [← hn, ← size_list, htx]; exact runL_le _ _
        have n0 : (0 : Int) ≤ (n : Int) := Int.natCast_nonneg _
        have n1 : (n : Int) ≤ (t.size : Int) := by omega
        have hx3 := ext_back t n
        have hx4 := ext_front t n
        obtain ⟨⟨ps, m, pe⟩, hpr⟩ : ∃ r, parR (x.drop n) = r := ⟨_, rfl⟩
        have hpa := oparams_any ⟨(t.data.toList.drop n).toArray⟩ wr (dsz20 t n hts) hgr
        unfold ParamsPost at hpa
        rw [show (⟨(t.data.toList.drop n).toArray⟩ : ByteArray).data.toList = t.data.toList.drop n from rfl, htx, hpr] at hpa
        rw [htx] at hx3 hx4
        have hps := psn_of x n m pe ps hpr hxsz
        have hpp := plen_of x n m pe ps hpr hxsz
        have HWD := Lib.hid hwd; have HPA := Lib.hid hpa; have HPR := Lib.hid (And.intro hn hpr)
        have HO := Lib.hid hown; have HB := Lib.hid hb; have HW := Lib.hid hwi; have HOK := Lib.hid hok; have HXI := Lib.hid hxi
        have HSZ := Lib.hid (And.intro hps (And.intro hpp hts)); have HT := Lib.hid htx; have HWB := Lib.hid hwb
        have hxt : x.length = t.size := by rw [← size_list, htx]
        have HXT := Lib.hid hxt
        clear hwd hpa hn hpr hown hb hwi hok hxi hps hpp hxsz ht htx hwb hgr hns hxt hts
        go_wp2_with fail
        refine (HWD.out).mono ?_
        rintro e w2 ⟨rfl, hw2⟩
        rw [hw2]
        clear hw2
        go_wp2_with fail
        refine (HPA.out).mono ?_
        rintro e w3 ⟨pv, rfl, hpo, hb3⟩
        obtain ⟨pao, pcap, rfl, hpc, hpat⟩ := own_parts hpo
        have hb3' := HB.out.trans (hb3.mono HB.out.size)
        have HB3 := Lib.hid hb3'
        have HO3 := Lib.hid (own_later HO.out hb3)
        have HWB3 := Lib.hid (HWB.out.trans (hb3.mono HWB.out.size))
        have HPT := Lib.hid (And.intro hpc hpat)
        clear hb3 hb3' hpo hpc hpat c0
        by_cases hn0 : n = 0
        · have b0 : ((n : Int) == 0) = true := by rw [hn0]; rfl
          have HE := Lib.hid (wgR_bad _ xs HR.out i x HXI.out HOK.out 10 _ (wgOne_bad x n m pe ps HPR.out.1 HPR.out.2 (Or.inl hn0)) (by decide))
          clear hn0
          go_wp2
          go_ret2
          unfold WgPost
          rw [HE.out]
          exact ⟨_, rfl, World.ownsRow_nil _ _ _ _, HWB3.out⟩
        · have b0 : ((n : Int) == 0) = false := beq_false_of_ne (by omega)
          have HN0 := Lib.hid hn0
          by_cases hpe : pe = 0
          · subst hpe
            by_cases hq : n + m = t.size
            · have f3 : (n : Int) + (m : Int) = (t.size : Int) := by omega
              have fb : ((t.size : Int) != (t.size : Int)) = false := by simp
              obtain ⟨hwS, hwS2⟩ := w64le7 t.size (Nat.le_trans HSZ.out.2.2 (by decide))
              have HQ := Lib.hid (show n + m = x.length by rw [HXT.out]; exact hq)
              have hwt := oweight_any pao pcap ps mm w3 HSZ.out.1.1 HPT.out.1 HSZ.out.2.1 HPT.out.2 (mx_later (B := 0) HX.out.1 HWB3.out)
              obtain ⟨⟨ah, q, qe⟩, hw⟩ : ∃ r, wtP ps = r := ⟨_, rfl⟩
              rw [hw] at hwt
              have HWT := Lib.hid hwt; have HWP := Lib.hid hw
              clear hq hwt hw hn0
              go_wp2_with fail
              refine (HWT.out).mono ?_
              rintro e w4 ⟨cc, rfl, hb4⟩
              rw [show wtV (.slice pao ah.length cc) (ah, q, qe) = .tuple #[.slice pao ah.length cc, .int .i64 (q : Nat), .int .i64 (qe : Nat)] from rfl]
              have hb4' := HB3.out.trans (hb4.mono HB3.out.size)
              have HB4 := Lib.hid hb4'
              have HO4 := Lib.hid (own_later HO3.out hb4)
              have HWB4 := Lib.hid (HWB3.out.trans (hb4.mono HWB3.out.size))
              clear hb4 hb4'
              by_cases hqe : qe = 0
              · subst hqe
                have hst := wg_step xs i x _ HXI.out HOK.out (wgOne_ok x n m ps ah q HPR.out.1 HPR.out.2 HN0.out HQ.out HWP.out)
                have hlw := olower_any ⟨(t.data.toList.take n).toArray⟩ w4 (tsz20 t n HSZ.out.2.2)
                rw [show (⟨(t.data.toList.take n).toArray⟩ : ByteArray).data.toList = t.data.toList.take n from rfl, HT.out] at hlw
                obtain ⟨lw, hlw2⟩ : ∃ y, lowL (x.take n) = y := ⟨_, rfl⟩
                rw [hlw2] at hst hlw
                have HST := Lib.hid hst; have HLW := Lib.hid hlw
                clear hst hlw hlw2
                go_wp2_with fail
                refine (HLW.out).mono ?_
                rintro e w5 ⟨rfl, hb5⟩
                have hb5' := HB4.out.trans (hb5.mono HB4.out.size)
                have hbz5 := hb5'.size
                have HB5 := Lib.hid hb5'
                have HO5 := Lib.hid (own_later HO4.out hb5)
                clear hb5 hb5'
                go_wp2_with (at_builtin; refine wpList_append_own _ rfl (.tmp 62) (.tmp 69) 43 rfl w1.heap.size 85 i0 (.agg #[.string ByteArray.empty, .int .i64 0]) 2 24 Tryd.underlying43 hi0 hz0 hz1 hz2 rfl (by decide) _ _ _ rfl (HO5.out.alloc _) ⟨w5.heap.size, 0, none⟩ 1 1 [.string ⟨lw.toArray⟩, .int .i64 (q : Nat)] rfl rfl (cells_new w5 85 _) (by simp [Value.oneCell']) hbd.1 hbd.2.1 ?dd ?_)
                case dd => simp; omega
                intro v1 w6 hI6 hg6 _
                have hb6 : Below w1.heap.size w1 w6 := (HB5.out.alloc hbz5 _).grown hg6 (alloc_le hbz5 _) (fun k hk => (HO5.out.lt k hk).1)
                have HI6 := Lib.hid hI6; have HB6 := Lib.hid hb6
                clear hI6 hg6 hb6
                go_wp2
                have hwi := HW.out
                go_roundw
                case rel => (try rw [hwi]); clear hwi; exact ⟨i + 1, by go_num, hil, HST.out.1, by rw [HST.out.2]; exact HI6.out, HB6.out⟩
                case measure => (try rw [hwi]); clear hwi; simp [intOf]; omega
              · have fe : ((qe : Int) != 0) = true := by simp; omega
                have HE := Lib.hid (wgR_bad _ xs HR.out i x HXI.out HOK.out qe _ (wgOne_q x n m ps ah q qe HPR.out.1 HPR.out.2 HN0.out HQ.out HWP.out hqe) hqe)
                clear hqe
                go_wp2
                go_ret2
                unfold WgPost
                rw [HE.out]
                exact ⟨_, rfl, World.ownsRow_nil _ _ _ _, HWB4.out⟩
            · obtain ⟨Q1, hQ1⟩ : ∃ Q1, n + m = Q1 := ⟨_, rfl⟩
              have f3 : (n : Int) + (m : Int) = (Q1 : Int) := by omega
              have fb : ((Q1 : Int) != (t.size : Int)) = true := by simp; omega
              obtain ⟨hwS, hwS2⟩ := w64_20 n m Q1 hQ1 (by have := HSZ.out.2.2; omega) HSZ.out.1.2
              have HE := Lib.hid (wgR_bad _ xs HR.out i x HXI.out HOK.out 10 _ (wgOne_bad x n m 0 ps HPR.out.1 HPR.out.2 (Or.inr (Or.inr (by rw [HXT.out]; exact hq)))) (by decide))
              clear hq hQ1 hn0
              go_wp2
              go_ret2
              unfold WgPost
              rw [HE.out]
              exact ⟨_, rfl, World.ownsRow_nil _ _ _ _, HWB3.out⟩
          · have fe : ((pe : Int) != 0) = true := by simp; omega
            have fe2 : ((pe : Int) == 0) = false := beq_false_of_ne (by omega)
            have HE := Lib.hid (wgR_bad _ xs HR.out i x HXI.out HOK.out 10 _ (wgOne_bad x n m pe ps HPR.out.1 HPR.out.2 (Or.inr (Or.inl hpe))) (by decide))
            clear hpe hn0
            go_wp2
            go_ret2
            unfold WgPost
            rw [HE.out]
            exact ⟨_, rfl, World.ownsRow_nil _ _ _ _, HWB3.out⟩
      · obtain rfl : xs.length = i := by omega
        have hd : decide (xs.length < xs.length) = false := decide_eq_false (Nat.lt_irrefl _)
        rw [List.take_length] at hok hown
        have HF := Lib.hid (wgR_ok _ xs HR.out hok)
        have HO2 := Lib.hid (own_base hown HB1.out.size)
        have HBX := Lib.hid (HB1.out.trans (hb.mono HB1.out.size))
        clear hown hb hok
        go_wp2
        go_ret2
        unfold WgPost
        rw [HF.out]
        exact ⟨_, rfl, by show World.ownsRow _ _ _ _ _ (wgW xs).length _; rw [show (wgW xs).length = xs.length from by unfold wgW; rw [List.length_map]]; exact HO2.out, HBX.out⟩
  · have HR := Lib.hid (wgR_list _ xs er hr her)
    have hbe : ((er : Int) != 0) = true := by simp; omega
    clear hr her
    go_enter Tryd.func38, Tryd.ntmps38
    go_wp2_with fail
    refine (HL.out).mono ?_
    rintro e w1 ⟨lv, rfl, hown, hb1⟩
    have HB1 := Lib.hid hb1
    clear hown hb1
    go_wp2
    go_ret2
    unfold WgPost
    rw [HR.out]
    exact ⟨_, rfl, World.ownsRow_nil _ _ _ _, HB1.out⟩
end Go.Proofs.YthnniiakmjonjaaDoor
