/- The walks of the reference's Ranges (the plain function rgR) and of turnpikelaw07.AcceptRanges: true. Conditions: at most 1048576 bytes; bytealg's MaxLen holds an int; octet.signs holds what the text lays. -/
import Derived.Test.YthnniiakmjonjaaDoorRng
import Derived.Test.YthnniiakmjonjaaDoorRLst
import Derived.Test.YthnniiakmjonjaaDoorRPrt7
import Derived.Test.YthnniiakmjonjaaDoorAwake07
import Derived.Test.YthnniiakmjonjaaDoorLaidSg
namespace Go.Proofs.YthnniiakmjonjaaDoor
open Go.RowKit
set_option linter.unusedSimpArgs false
set_option linter.unusedVariables false
set_option maxRecDepth 1000000
def badS (gd : Bool) (ty sub : List UInt8) : Bool := !gd || (decide (ty = [42]) && !decide (sub = [42]))
theorem badR_S (gd : Bool) (ty sub : List UInt8) (ah : List Par) : badR gd ty sub ah = (badS gd ty sub || !allVal ah) := rfl
theorem badS_true (ty sub : List UInt8) (h : badS true ty sub = true) : ty = [42] ∧ sub ≠ [42] := by
  unfold badS at h
  simpa using h
theorem badS_false (gd : Bool) (ty sub : List UInt8) (h : badS gd ty sub = false) : gd = true ∧ (ty = [42] → sub = [42]) := by
  unfold badS at h
  cases gd with
  | false => simp at h
  | true =>
    refine ⟨rfl, fun ht => ?_⟩
    simpa [ht] using h
set_option maxHeartbeats 16000000 in
theorem rranges_any (s : ByteArray) (w : World) (hs : s.size ≤ 1048576) : Calls Tryd.prog 37 #[.string s] w (RgPost s.data.toList 122 109 w) := by
  obtain ⟨i0, hi0, hz0, hz1, hz2⟩ := info_partsR infoRRng
  have hl := rlist_any s w (sz20 _ hs).2
  unfold LsPost at hl
  have hlen := lsR_len s.data.toList
  obtain ⟨⟨xs, er⟩, hr⟩ : ∃ r, lsR s.data.toList = r := ⟨_, rfl⟩
  rw [hr] at hl hlen
  have hxn : xs.length ≤ 1048577 := by have := hlen.1; rw [size_list] at this; simp only at this; omega
  have hxl : ∀ x ∈ xs, x.length ≤ 1048576 := fun x hx => by have := hlen.2 x hx; rw [size_list] at this; omega
  have HL := Lib.hid hl; have HXL := Lib.hid hxl
  clear hl hlen hxl
  by_cases her : er = 0
  · subst her
    have HR := Lib.hid hr
    clear hr
    go_enter Tryd.func37, Tryd.ntmps37
    go_wp2_with fail
    refine (HL.out).mono ?_
    rintro e w1 ⟨lv, rfl, hown, hb1⟩
    obtain ⟨lo, lcap, rfl, hat⟩ := txtsIn_own hown
    have HAT := Lib.hid hat; have HB1 := Lib.hid hb1
    have hm0 := kRngs_made w1 w1.heap.size 122 109 (Nat.le_refl _)
    have HM0 := Lib.hid (And.intro hm0 ((Below.refl _ w1).alloc (Nat.le_refl _) (.cells #[] 122)))
    clear hown hb1 hat hm0
    go_wp2
    go_loopw [7, 6] (fun iv ov wr => ∃ i : Nat, iv = .int .i64 i ∧ i ≤ xs.length ∧ (xs.take i).all rgGood = true ∧ KRngs wr w1.heap.size 122 109 ov (rgW (xs.take i)) ∧ Below w1.heap.size w1 wr) (fun iv _ _ => xs.length - (intOf iv).toNat)
    case atStart => exact ⟨0, rfl, Nat.zero_le _, rfl, HM0.out.1, HM0.out.2⟩
    case round =>
      obtain ⟨i, rfl, hi, hok, hown, hb⟩ := hrel
      by_cases hil : i < xs.length
      · obtain ⟨x, hxi⟩ : ∃ x, xs[i]? = some x := ⟨_, List.getElem?_eq_getElem hil⟩
        obtain ⟨g, o, rfl, _, c0⟩ := HAT.out.below hb i x hxi
        have hxsz := HXL.out x (List.mem_of_getElem? hxi)
        obtain ⟨t, ht⟩ : ∃ t : ByteArray, (⟨x.toArray⟩ : ByteArray) = t := ⟨_, rfl⟩
        have htx : t.data.toList = x := by rw [← ht]
        rw [ht] at c0
        have hts : t.size ≤ 1048576 := by rw [← size_list, htx]; exact hxsz
        have hbd := xsr_bd i xs.length hil hxn
        have i0' : (0 : Int) ≤ (i : Int) := Int.natCast_nonneg _
        have i1 : (i : Int) < (xs.length : Int) := by omega
        have hwi := wrap64_small i hbd.2.2
        have hwb : Below w.heap.size w wr := HB1.out.trans (hb.mono HB1.out.size)
        have hsp := rparts_any t wr (sz20 _ hts).1
        obtain ⟨⟨ty, sub, ps, gd⟩, hmd⟩ : ∃ r, mdR t.data.toList = r := ⟨_, rfl⟩
        unfold MdPost at hsp
        rw [hmd] at hsp
        have hps := mps_of t ty sub ps gd hmd hts
        obtain ⟨⟨ah, q, qe⟩, hw⟩ : ∃ r, wtP ps = r := ⟨_, rfl⟩
        have hah := ah_len ps ah q qe hw hps.1
        rw [htx] at hmd
        obtain ⟨X, hX, hown, hall⟩ := hown
        rw [rgW_len xs i hi] at hown
        have HSP := Lib.hid hsp; have HMD := Lib.hid (And.intro hmd hw); have HPS := Lib.hid hps; have HAH := Lib.hid hah
        have HO := Lib.hid hown; have HXX := Lib.hid (And.intro hX hall); have HB := Lib.hid hb; have HW := Lib.hid hwi; have HOK := Lib.hid hok; have HXI := Lib.hid hxi; have HWB := Lib.hid hwb
        clear hsp hmd hw hps hah hown hX hall hb hwi hok hxi hxsz ht htx hwb hts
        go_wp2_with fail
        refine (HSP.out).mono ?_
        rintro e w3 ⟨pv, rfl, hpo, hb3⟩
        rw [show mdV (ty, sub, ps, gd) pv = .tuple #[.agg #[.string ⟨ty.toArray⟩, .string ⟨sub.toArray⟩, pv], .bool gd] from rfl]
        have hpo : w3.ownsRow wr.heap.size 109 3 pv ps.length (parsV ps) := hpo
        obtain ⟨pao, pcap, rfl⟩ := own_slice hpo
        obtain ⟨W4, hW4⟩ : ∃ W4, w3.alloc (.cells (mC ⟨ty, sub, ps⟩ (.slice pao ps.length pcap)) 30) = W4 := ⟨_, rfl⟩
        have hb34 : Below w3.heap.size w3 W4 := by rw [← hW4]; exact (Below.refl _ w3).alloc (Nat.le_refl _) _
        have hbr4 : Below wr.heap.size wr W4 := hb3.trans (hb34.mono hb3.size)
        have HB4 := Lib.hid (HB.out.trans (hbr4.mono HB.out.size))
        have HO4 := Lib.hid (own_later HO.out hbr4)
        have HA4 := Lib.hid (show ∀ p ∈ X, ParBlk W4 w1.heap.size 109 p.1.2 p.1.1.ps from fun p hp => (HXX.out.2 p hp).later hbr4)
        have HM4 := Lib.hid (show BlkIs W4 w3.heap.size (mC ⟨ty, sub, ps⟩ (.slice pao ps.length pcap)) 30 by rw [← hW4]; exact blkIs_new _ _ _)
        have HP4 := Lib.hid (((parBlk_own hpo).later hb34).base HB.out.size)
        have HWB4 := Lib.hid (HWB.out.trans (hbr4.mono HWB.out.size))
        have hwt := fun V (hV : Below W4.heap.size W4 V) => rweight_any (.slice pao ps.length pcap) ps V (Nat.le_trans HPS.out.1 (by decide)) HPS.out.2.1 HPS.out.2.2 (HP4.out.isIn.below hV)
        simp only [HMD.out.2] at hwt
        have HWT := Lib.hid hwt; have HW4 := Lib.hid hW4
        have lt3 : w3.heap.size < W4.heap.size := HM4.out.lt
        have HGE := Lib.hid (show w1.heap.size ≤ w3.heap.size from Nat.le_trans HB.out.size hb3.size)
        clear hb3 hpo hb34 hbr4 hwt hW4 c0
        go_upto_region 9 with fail
        rw [HW4.out]
        cases hbs : badS gd ty sub with
        | true =>
          have HE := Lib.hid (rgR_bad _ xs HR.out i x HXI.out HOK.out 72 _ (rgOne_bad x ty sub ps ah gd q qe HMD.out.1 HMD.out.2 (by rw [badR_S, hbs]; rfl)) (by decide))
          have z0 : W4.cell? ⟨w3.heap.size, 0, none⟩ = some (.string ⟨ty.toArray⟩) := HM4.out.cell 0 _ rfl
          have z1 : W4.cell? ⟨w3.heap.size, 1, none⟩ = some (.string ⟨sub.toArray⟩) := HM4.out.cell 1 _ rfl
          cases gd with
          | false =>
            clear hbs
            have HMD := Lib.hid (kRngs_made _ w.heap.size 122 109 (HWB4.out).size)
            have HBD := Lib.hid ((HWB4.out).alloc (HWB4.out).size (.cells #[] 122))
            go_wp2
            go_ret2
            unfold RgPost
            rw [HE.out]
            exact ⟨_, rfl, HMD.out, HBD.out⟩
          | true =>
            obtain ⟨ht, hsb⟩ := badS_true ty sub hbs
            have hbe : (ty == [42]) = true := by rw [ht]; rfl
            have hbe2 : (sub == [42]) = false := beq_false_of_ne hsb
            clear hbs ht hsb
            have HMD := Lib.hid (kRngs_made _ w.heap.size 122 109 (HWB4.out).size)
            have HBD := Lib.hid ((HWB4.out).alloc (HWB4.out).size (.cells #[] 122))
            go_wp2
            go_ret2
            unfold RgPost
            rw [HE.out]
            exact ⟨_, rfl, HMD.out, HBD.out⟩
        | false =>
          go_cut [48] (fun s48 wx => s48 = .bool false ∧ W4 = wx)
          case first =>
            have z0 : W4.cell? ⟨w3.heap.size, 0, none⟩ = some (.string ⟨ty.toArray⟩) := HM4.out.cell 0 _ rfl
            have z1 : W4.cell? ⟨w3.heap.size, 1, none⟩ = some (.string ⟨sub.toArray⟩) := HM4.out.cell 1 _ rfl
            obtain ⟨rfl, hor⟩ := badS_false gd ty sub hbs
            by_cases ht : ty = [42]
            · have hbe : (ty == [42]) = true := by rw [ht]; rfl
              have hbe2 : (sub == [42]) = true := by rw [hor ht]; rfl
              clear hbs ht hor
              go_wp2_with fail
              go_meet
              exact ⟨rfl, rfl⟩
            · have hbe : (ty == [42]) = false := beq_false_of_ne ht
              clear hbs ht hor
              go_wp2_with fail
              go_meet
              exact ⟨rfl, rfl⟩
          case rest =>
          obtain ⟨rfl, hw⟩ := hcut
          obtain rfl : W4 = wc := hw
          have m2 : W4.cell? ⟨w3.heap.size, 2, none⟩ = some (.slice pao ps.length pcap) := HM4.out.cell 2 _ rfl
          have HBS := Lib.hid hbs
          clear hbs
          go_wp2_with fail
          refine (HWT.out _ (Below.refl _ _)).mono ?_
          rintro e wc ⟨av, rfl, hao, hb5⟩
          have hao : wc.ownsRow W4.heap.size 109 3 av ah.length (parsV ah) := hao
          obtain ⟨aao, cc, rfl⟩ := own_slice hao
          rw [show wtV (.slice aao ah.length cc) (ah, q, qe) = .tuple #[.slice aao ah.length cc, .int .i64 (q : Nat), .int .i64 (qe : Nat)] from rfl]
          have HB6 := Lib.hid (HB4.out.trans (hb5.mono HB4.out.size))
          have HO6 := Lib.hid (own_later HO4.out hb5)
          have HA6 := Lib.hid (show ∀ p ∈ X, ParBlk wc w1.heap.size 109 p.1.2 p.1.1.ps from fun p hp => (HA4.out p hp).later hb5)
          have HM6 := Lib.hid (HM4.out.later hb5)
          have HP6 := Lib.hid ((parBlk_own hao).base HB4.out.size)
          have HWB6 := Lib.hid (HWB4.out.trans (hb5.mono HWB4.out.size))
          have hval := rvalued_any (.slice aao ah.length cc) ah wc HAH.out.1 HP6.out.isIn
          clear hb5 m2 hao
          cases hav : allVal ah with
          | false =>
            have HE := Lib.hid (rgR_bad _ xs HR.out i x HXI.out HOK.out 72 _ (rgOne_bad x ty sub ps ah gd q qe HMD.out.1 HMD.out.2 (by rw [badR_S, hav]; simp)) (by decide))
            rw [hav] at hval
            have HVAL := Lib.hid hval
            clear hav hval
            go_wp2_with fail
            refine (HVAL.out).mono ?_
            rintro e wz ⟨rfl, hwz⟩
            rw [hwz]
            clear hwz
            have HMD := Lib.hid (kRngs_made _ w.heap.size 122 109 (HWB6.out).size)
            have HBD := Lib.hid ((HWB6.out).alloc (HWB6.out).size (.cells #[] 122))
            go_wp2
            go_ret2
            unfold RgPost
            rw [HE.out]
            exact ⟨_, rfl, HMD.out, HBD.out⟩
          | true =>
            have hbad : badR gd ty sub ah = false := by rw [badR_S, HBS.out, hav]; rfl
            rw [hav] at hval
            have HVAL := Lib.hid hval
            clear hav hval
            go_wp2_with fail
            refine (HVAL.out).mono ?_
            rintro e wz ⟨rfl, hwz⟩
            rw [hwz]
            clear hwz
            by_cases hqe : qe = 0
            · subst hqe
              have HST := Lib.hid (rg_step xs i x _ HXI.out HOK.out (rgOne_ok x ty sub ps ah gd q HMD.out.1 HMD.out.2 hbad))
              have z2 : wc.cell? ⟨w3.heap.size, 2, none⟩ = some (.slice pao ps.length pcap) := HM6.out.cell 2 _ rfl
              have y2 := HM6.out.free 2
              have z0 : wc.cell? ⟨w3.heap.size, 0, none⟩ = some (.string ⟨ty.toArray⟩) := HM6.out.cell 0 _ rfl
              have z1 : wc.cell? ⟨w3.heap.size, 1, none⟩ = some (.string ⟨sub.toArray⟩) := HM6.out.cell 1 _ rfl
              have hge : w1.heap.size ≤ w3.heap.size := HGE.out
              obtain ⟨W7, hW7⟩ : ∃ W7, wc.setCell ⟨w3.heap.size, 2, none⟩ (.slice aao ah.length cc) = W7 := ⟨_, rfl⟩
              have hM7 : BlkIs W7 w3.heap.size (mC ⟨ty, sub, ps⟩ (.slice aao ah.length cc)) 30 := by rw [← hW7]; exact HM6.out.set 2 _
              have HB7 := Lib.hid (show Below w1.heap.size w1 W7 by rw [← hW7]; exact HB6.out.setCell (p := ⟨w3.heap.size, 2, none⟩) hge _)
              have HO7 := Lib.hid (show W7.ownsRow w1.heap.size 122 4 _ i (rngsV X) by rw [← hW7]; exact own_setOther HO6.out (own_blk HO6.out HM6.out (by decide)))
              have hsk : ∀ sv l, ParBlk wc w1.heap.size 109 sv l → ParBlk W7 w1.heap.size 109 sv l := fun sv l h => by rw [← hW7]; exact h.set HM6.out (by decide)
              have HA7 := Lib.hid (show ∀ p ∈ X, ParBlk W7 w1.heap.size 109 p.1.2 p.1.1.ps from fun p hp => hsk _ _ (HA6.out p hp))
              have HP7 := Lib.hid (hsk _ _ HP6.out)
              have u0 : W7.cell? ⟨w3.heap.size, 0, none⟩ = some (.string ⟨ty.toArray⟩) := hM7.cell 0 _ rfl
              have u1 : W7.cell? ⟨w3.heap.size, 1, none⟩ = some (.string ⟨sub.toArray⟩) := hM7.cell 1 _ rfl
              have u2 : W7.cell? ⟨w3.heap.size, 2, none⟩ = some (.slice aao ah.length cc) := hM7.cell 2 _ rfl
              have HW7 := Lib.hid hW7
              have hbz7 := HB7.out.size
              clear hbad hW7 hM7 hsk hge
              go_upto_region 17 with fail
              rw [HW7.out]
              clear z0 z1 z2 y2
              go_wp2_with (at_builtin; refine wpList_append_own _ rfl (.tmp 67) (.tmp 71) 57 rfl w1.heap.size 122 i0 (.agg #[.string ByteArray.empty, .string ByteArray.empty, .slice none 0 0, .int .i64 0]) 4 64 Tryd.underlying57 hi0 hz0 hz1 hz2 rfl (by decide) _ _ _ rfl (HO7.out.alloc _) ⟨W7.heap.size, 0, none⟩ 1 1 [.string ⟨ty.toArray⟩, .string ⟨sub.toArray⟩, .slice aao ah.length cc, .int .i64 (q : Nat)] rfl rfl (cells_new W7 122 _) (by simp [Value.oneCell']) hbd.1 hbd.2.1 ?dd ?_)
              case dd => simp; omega
              intro v1 w8 hI8 hg8 _
              have hb8 : Below w1.heap.size w1 w8 := (HB7.out.alloc hbz7 _).grown hg8 (alloc_le hbz7 _) (fun k hk => (HO7.out.lt k hk).1)
              have hfin : KRngs w8 w1.heap.size 122 109 v1 (rgW (xs.take i) ++ [(⟨ty, sub, ah⟩, ((q : Nat) : Int))]) :=
                kRngs_snoc HXX.out.1 (by rw [rgW_len xs i hi]; exact HO7.out.alloc _) (fun p hp => (HA7.out p hp).later ((Below.refl _ W7).alloc (Nat.le_refl _) _)) (by decide) (HP7.out.later ((Below.refl _ W7).alloc (Nat.le_refl _) _)) hg8 (by rw [rgW_len xs i hi]; exact hI8)
              have HF := Lib.hid hfin; have HB8 := Lib.hid hb8
              clear hI8 hg8 hb8 hfin u0 u1 u2
              go_wp2
              have hwi := HW.out
              go_roundw
              case rel => (try rw [hwi]); clear hwi; exact ⟨i + 1, by go_num, hil, HST.out.1, by rw [HST.out.2]; exact HF.out, HB8.out⟩
              case measure => (try rw [hwi]); clear hwi; simp [intOf]; omega
            · have fe : ((qe : Int) != 0) = true := by simp; omega
              have HE := Lib.hid (rgR_bad _ xs HR.out i x HXI.out HOK.out qe _ (rgOne_q x ty sub ps ah gd q qe HMD.out.1 HMD.out.2 hbad hqe) hqe)
              clear hqe hbad
              have HMD := Lib.hid (kRngs_made _ w.heap.size 122 109 (HWB6.out).size)
              have HBD := Lib.hid ((HWB6.out).alloc (HWB6.out).size (.cells #[] 122))
              go_wp2
              go_ret2
              unfold RgPost
              rw [HE.out]
              exact ⟨_, rfl, HMD.out, HBD.out⟩
      · obtain rfl : xs.length = i := by omega
        have hd : decide (xs.length < xs.length) = false := decide_eq_false (Nat.lt_irrefl _)
        rw [List.take_length] at hok hown
        have HF := Lib.hid (rgR_ok _ xs HR.out hok)
        have HO2 := Lib.hid (hown.base HB1.out.size)
        have HBX := Lib.hid (HB1.out.trans (hb.mono HB1.out.size))
        clear hown hb hok
        go_wp2
        go_ret2
        unfold RgPost
        rw [HF.out]
        exact ⟨_, rfl, HO2.out, HBX.out⟩
  · have HE := Lib.hid (rgR_list _ xs er hr her)
    have hbe : ((er : Int) != 0) = true := by simp; omega
    clear hr her
    go_enter Tryd.func37, Tryd.ntmps37
    go_wp2_with fail
    refine (HL.out).mono ?_
    rintro e w1 ⟨lv, rfl, hown, hb1⟩
    have HB1 := Lib.hid hb1
    clear hown hb1
    have HMD := Lib.hid (kRngs_made _ w.heap.size 122 109 (HB1.out).size)
    have HBD := Lib.hid ((HB1.out).alloc (HB1.out).size (.cells #[] 122))
    go_wp2
    go_ret2
    unfold RgPost
    rw [HE.out]
    exact ⟨_, rfl, HMD.out, HBD.out⟩
theorem valP_k7 (l v : List UInt8) (k : Nat) (h : valP l = some (v, k)) : v.length ≤ k := by
  unfold valP at h
  split at h
  · exact (unq_used l v k h).2.2
  · injection h with h
    injection h with h1 h2
    rw [← h1, ← h2, List.length_take]
    omega
theorem parStep_tot (l : List UInt8) (p : Par) (k : Nat) (h : parStep l = some (some (some p, k))) : p.1.length + p.2.1.length + 1 ≤ k := by
  unfold parStep at h
  split at h
  · simp only at h
    split at h
    · simp at h
    · split at h
      · split at h
        · simp at h
        · rename_i v k2 hv
          simp only [Option.some.injEq, Prod.mk.injEq] at h
          obtain ⟨rfl, rfl⟩ := h
          have := valP_k7 _ _ _ hv
          simp only [List.length_take]
          omega
      · simp only [Option.some.injEq, Prod.mk.injEq] at h
        obtain ⟨rfl, rfl⟩ := h
        simp only [List.length_take, List.length_nil]
        omega
  · cases h
theorem parF_tot : ∀ (f : Nat) (l : List UInt8) (ps : List Par) (k : Nat), parF f l = some (ps, k) → totP ps + ps.length ≤ k
  | 0, l, ps, k, h => by
    simp only [parF, Option.some.injEq, Prod.mk.injEq] at h
    obtain ⟨rfl, rfl⟩ := h
    exact Nat.le_refl _
  | f + 1, l, ps, k, h => by
    rw [parF] at h
    cases hs : parStep l with
    | none =>
      rw [hs] at h
      simp only [Option.some.injEq, Prod.mk.injEq] at h
      obtain ⟨rfl, rfl⟩ := h
      exact Nat.le_refl _
    | some o =>
      rw [hs] at h
      cases o with
      | none => cases h
      | some qk =>
        obtain ⟨q, k2⟩ := qk
        simp only [Option.map_eq_some_iff] at h
        obtain ⟨x, hx, he⟩ := h
        injection he with h1 h2
        have ih := parF_tot f (l.drop k2) x.1 x.2 hx
        rw [← h1, ← h2, totP_append, List.length_append]
        cases q with
        | none => simp only [Option.toList_none, totP, List.length_nil]; omega
        | some q =>
          have := parStep_tot l q k2 hs
          simp only [Option.toList_some, totP, List.length_singleton]
          omega
theorem parR_tot (l : List UInt8) (ps : List Par) (m e : Nat) (h : parR l = (ps, m, e)) : totP ps + ps.length ≤ m := by
  unfold parR at h
  cases hp : parP l with
  | none =>
    rw [hp] at h
    injection h with h1 h2
    injection h2 with h2 h3
    rw [← h1, ← h2]
    exact Nat.le_refl _
  | some x =>
    rw [hp] at h
    obtain ⟨ps2, k⟩ := x
    injection h with h1 h2
    injection h2 with h2 h3
    rw [← h1, ← h2]
    exact parF_tot _ l ps2 k hp
theorem totP_lowP (ps : List Par) : totP (ps.map lowP) = totP ps := by
  induction ps with
  | nil => rfl
  | cons p r ih => rw [List.map_cons]; simp only [totP]; rw [ih]; unfold lowP; rw [lowL_len]
theorem totP_take (ps : List Par) (k : Nat) : totP (ps.take k) + (ps.take k).length ≤ totP ps + ps.length := by
  have h := congrArg totP (List.take_append_drop k ps)
  have h2 := congrArg List.length (List.take_append_drop k ps)
  rw [totP_append] at h
  rw [List.length_append] at h2
  omega
theorem mdK_tot (s rest : List UInt8) (n : Nat) : (mdK s rest n).1.length + (mdK s rest n).2.1.length + (totP (mdK s rest n).2.2.1 + (mdK s rest n).2.2.1.length) ≤ n + rest.length := by
  unfold mdK
  split
  · simp [noMed, totP]
  · rename_i hc
    obtain ⟨⟨ps, m, e⟩, hp⟩ : ∃ r, parR (rest.drop (runL isSg rest)) = r := ⟨_, rfl⟩
    rw [hp] at hc ⊢
    have := parR_tot _ ps m e hp
    have hm : runL isSg rest + m = rest.length := Classical.byContradiction fun h => hc (Or.inr (Or.inr h))
    simp only [lowL_len, List.length_take, totP_lowP, List.length_map]
    omega
theorem mdR_tot (s : List UInt8) : (mdR s).1.length + (mdR s).2.1.length + (totP (mdR s).2.2.1 + (mdR s).2.2.1.length) ≤ s.length := by
  unfold mdR
  split
  · simp [noMed, totP]
  · rename_i hc
    have h1 : s[runL isSg s]? = some 47 := Classical.byContradiction fun h => hc (Or.inr h)
    have hl := (List.getElem?_eq_some_iff.1 h1).1
    refine Nat.le_trans (mdK_tot _ _ _) ?_
    rw [List.length_drop]
    omega
theorem rgOne_tot (x : List UInt8) : rngLen (rgOne x).2 ≤ x.length := by
  unfold rgOne
  split
  · exact Nat.zero_le _
  · split
    · exact Nat.zero_le _
    · have h := mdR_tot x
      obtain ⟨k, hk, he⟩ := wtP_pre (mdR x).2.2.1
      have h2 := totP_take (mdR x).2.2.1 k
      show (mdR x).1.length + (mdR x).2.1.length + totP (wtP (mdR x).2.2.1).1 + (wtP (mdR x).2.2.1).1.length ≤ _
      rw [he]
      omega
theorem rgW_tot (xs : List (List UInt8)) : totF rngLen (rgW xs) ≤ totF List.length xs := by
  induction xs with
  | nil => exact Nat.le_refl _
  | cons x r ih =>
    have := rgOne_tot x
    show rngLen (rgOne x).2 + totF rngLen (rgW r) ≤ x.length + totF List.length r
    omega
theorem fulls_tot (l : List (List UInt8)) : totF List.length (fulls l) ≤ totF List.length l := by
  induction l with
  | nil => exact Nat.le_refl _
  | cons x r ih =>
    have h1 := trimL_len x
    unfold fulls at ih ⊢
    rw [List.map_cons, List.filter_cons]
    split
    · simp only [totF]; omega
    · simp only [totF]; omega
theorem lstF_tot : ∀ (f : Nat) (cur l : List UInt8) (xs : List (List UInt8)), lstF f cur l = some xs → totF List.length xs ≤ cur.length + l.length
  | 0, cur, l, xs, h => by
    simp only [lstF, Option.some.injEq] at h
    subst h
    simp only [totF]; omega
  | f + 1, cur, [], xs, h => by
    simp only [lstF, Option.some.injEq] at h
    subst h
    simp only [totF]; omega
  | f + 1, cur, c :: r, xs, h => by
    rw [lstF.eq_def] at h
    simp only at h
    by_cases h1 : c = 34
    · rw [if_pos h1] at h
      cases hu : unq (c :: r) with
      | none => rw [hu] at h; cases h
      | some y =>
        obtain ⟨y, n⟩ := y
        rw [hu] at h
        have := lstF_tot f _ _ xs h
        rw [List.length_append, List.length_take, List.length_drop] at this
        omega
    · rw [if_neg h1] at h
      by_cases h2 : c = 44
      · rw [if_pos h2] at h
        simp only [Option.map_eq_some_iff] at h
        obtain ⟨ys, hy, he⟩ := h
        have := lstF_tot f [] r ys hy
        rw [← he, List.length_cons]
        simp only [totF, List.length_nil] at this ⊢
        omega
      · rw [if_neg h2] at h
        have := lstF_tot f _ r xs h
        rw [List.length_append, List.length_singleton] at this
        rw [List.length_cons]
        omega
theorem lsR_tot (L : List UInt8) : totF List.length (lsR L).1 ≤ L.length := by
  cases h : lstR [] L with
  | none => rw [lsR_none L h]; exact Nat.zero_le _
  | some xs =>
    rw [lsR_some L xs h]
    have := lstF_tot _ _ _ xs h
    rw [List.length_nil, Nat.zero_add] at this
    exact Nat.le_trans (fulls_tot xs) this
theorem rgR_tot (L : List UInt8) (h : L.length ≤ 1048576) : totF rngLen (rgR L).1 + (rgR L).1.length ≤ 1073741824 := by
  unfold rgR
  split
  · exact Nat.zero_le _
  · split
    · exact Nat.zero_le _
    · have h1 := rgW_tot (lsR L).1
      have h2 := lsR_tot L
      have h3 := (lsR_len L).1
      show totF rngLen (rgW (lsR L).1) + (rgW (lsR L).1).length ≤ _
      unfold rgW at h1 ⊢
      rw [List.length_map]
      omega
set_option maxHeartbeats 4000000 in
theorem acceptRanges_any (s : ByteArray) (mm : Int) (w : World) (hs : s.size ≤ 1048576) (hx : w.cell? ⟨1, 0, none⟩ = some (.int .i64 mm)) (hg : SgAt w) :
    Calls Tryd.prog 9 #[.string s] w fun e w' => e = .returned (.bool true) ∧ Below w.heap.size w w' := by
  have h1 := oranges_any s mm w hs hx hg
  have h2 := fun w => rranges_any s w hs
  have hpl := rgR_tot s.data.toList (by rw [size_list]; exact hs)
  unfold RgPost at h1 h2
  obtain ⟨⟨ws, er⟩, hr⟩ : ∃ r, rgR s.data.toList = r := ⟨_, rfl⟩
  rw [hr] at h1 hpl
  simp only [hr] at h2
  have H1 := Lib.hid h1; have H2 := Lib.hid h2; have HX := Lib.hid (And.intro hx hg); have HPL := Lib.hid hpl
  clear h1 h2 hr hpl hx hg
  go_enter Tryd.func9, Tryd.ntmps9
  go_wp2_with fail
  refine (H1.out).mono ?_
  rintro e w1 ⟨v1, rfl, ho1, hb1⟩
  have HW1 := Lib.hid ho1.isIn; have HB1 := Lib.hid hb1
  clear ho1 hb1
  go_wp2_with fail
  refine (H2.out _).mono ?_
  rintro e w2 ⟨v2, rfl, ho2, hb2⟩
  have HW2 := Lib.hid (And.intro (HW1.out.below hb2) ho2.isIn); have HB2 := Lib.hid (HB1.out.trans (hb2.mono HB1.out.size))
  clear ho2 hb2
  go_wp2_with fail
  refine (awake07_any mm w2 (mx_later (B := 0) HX.out.1 HB2.out) (HX.out.2.below HB2.out)).mono ?_
  rintro e w3 ⟨rfl, hb3⟩
  have HAL := Lib.hid (sameRanges_any v1 v2 ws w3 HPL.out (HW2.out.1.below hb3) (HW2.out.2.below hb3))
  have HB3 := Lib.hid (HB2.out.trans (hb3.mono HB2.out.size))
  clear hb3
  go_wp2_with fail
  refine (HAL.out).mono ?_
  rintro e w4 ⟨rfl, hb4⟩
  have HB4 := Lib.hid (HB3.out.trans (hb4.mono HB3.out.size))
  clear hb4
  go_wp2
  go_ret
  exact ⟨by simp, HB4.out⟩
theorem acceptRanges_row (s : ByteArray) (W : World) (hL : laidMetH Tryd.prog Rows.acceptRangesUptoRow.laid W) (hsh : W.ShapedOpen Tryd.prog) (hs : s.size ≤ 1048576) :
    Calls Tryd.prog 9 #[.string s] W fun e W' => e = .returned (.bool true) ∧ Below W.heap.size W W' := by
  obtain ⟨m, hm⟩ := Tryd.laysM145.s1_3 W hsh
  exact acceptRanges_any s m W hs hm (sg_of_laid (l := Rows.acceptRangesUptoRow.laid) (by simp [Rows.acceptRangesUptoRow]) hL)
end Go.Proofs.YthnniiakmjonjaaDoor
