/- The walk of accept.Ranges: the plain function rgR. Conditions: at most 1048576 bytes; bytealg's MaxLen holds an int; octet.signs holds what the text lays. -/
import Derived.Test.YthnniiakmjonjaaDoorRngP
import Derived.Test.YthnniiakmjonjaaDoorWgs
import Derived.Test.YthnniiakmjonjaaDoorVal7
import Derived.Test.YthnniiakmjonjaaDoorPar7
import Derived.Deep.DeepCutAuto
namespace Go.Proofs.YthnniiakmjonjaaDoor
open Go.RowKit
set_option linter.unusedSimpArgs false
set_option linter.unusedVariables false
set_option maxRecDepth 1000000
def RgPost (L : List UInt8) (T P : TypeId) (w : World) (e : Ending) (w' : World) : Prop := ∃ v, e = .returned (.tuple #[v, .int .i64 ((rgR L).2 : Nat)]) ∧ KRngs w' w.heap.size T P v (rgR L).1 ∧ Below w.heap.size w w'
theorem infoORng : (Tryd.prog.info? 82).map (fun i => (i.zero, i.size, i.bytes)) = some (some (.agg #[.string ByteArray.empty, .string ByteArray.empty, .slice none 0 0, .int .i64 0]), 4, 64) := by kernel_rfl
theorem info_partsOR (h : (Tryd.prog.info? 82).map (fun i => (i.zero, i.size, i.bytes)) = some (some (.agg #[.string ByteArray.empty, .string ByteArray.empty, .slice none 0 0, .int .i64 0]), 4, 64)) : ∃ i, Tryd.prog.info? 82 = some i ∧ i.zero = some (.agg #[.string ByteArray.empty, .string ByteArray.empty, .slice none 0 0, .int .i64 0]) ∧ i.size = 4 ∧ i.bytes = 64 := by
  obtain ⟨i, hi, he⟩ := Option.map_eq_some_iff.1 h
  simp only [Prod.mk.injEq] at he
  exact ⟨i, hi, he.1, he.2.1, he.2.2⟩
theorem xsr_bd (i n : Nat) (h : i < n) (hn : n ≤ 1048577) : i + 1 ≤ maxLen ∧ (i + 1) * 64 ≤ 140737488355328 ∧ i ≤ 2199023255552 := by unfold maxLen; omega
theorem mps_of (t : ByteArray) (ty sub : List UInt8) (ps : List Par) (gd : Bool) (h : mdR t.data.toList = (ty, sub, ps, gd)) (ht : t.size ≤ 1048576) : ps.length ≤ 1048576 ∧ PLen ps ∧ noV ps := by
  have h1 := mdR_len t.data.toList
  have h2 := mdR_good7 t.data.toList t.size (by rw [size_list]; exact Nat.le_refl _)
  rw [h, size_list] at h1
  rw [h] at h2
  refine ⟨Nat.le_trans h1 ht, fun i p hp => ?_, fun p hp => (h2 p hp).2.2⟩
  have := h2 p (List.mem_of_getElem? hp)
  have h3 := this.2.1
  exact ⟨by omega, by omega⟩
theorem ah_len (ps ah : List Par) (q e : Nat) (h : wtP ps = (ah, q, e)) (hp : ps.length ≤ 1048576) : ah.length ≤ 2199023255552 ∧ ∃ k, k ≤ ps.length ∧ ah = ps.take k := by
  obtain ⟨k, hk, he⟩ := wtP_pre ps
  rw [h] at he
  simp only at he
  exact ⟨by rw [he, List.length_take]; omega, k, hk, he⟩
theorem blk_ne' {w : World} {a b : Nat} {c d : Array Value} {T S : TypeId} (h : BlkIs w a c T) (h2 : BlkIs w b d S) (hne : T ≠ S) : a ≠ b := by
  rintro rfl
  unfold BlkIs at h h2
  rw [h] at h2
  injection h2 with h2
  injection h2 with _ h2
  exact hne h2
theorem ParBlk.set {w : World} {L a j : Nat} {P T : TypeId} {sv u : Value} {ps : List Par} {cs : Array Value} (h : ParBlk w L P sv ps) (ha : BlkIs w a cs T) (hne : P ≠ T) : ParBlk (w.setCell ⟨a, j, none⟩ u) L P sv ps := by
  obtain ⟨ao, cap, rfl, h⟩ := h
  exact ⟨ao, cap, rfl, h.imp id (fun ⟨g, cur, e, hl, hg, hc⟩ => ⟨g, cur, e, hl, hg.setOther _ _ (blk_ne' hg ha hne), hc⟩)⟩
set_option maxHeartbeats 16000000 in
theorem oranges_any (s : ByteArray) (mm : Int) (w : World) (hs : s.size ≤ 1048576) (hx : w.cell? ⟨1, 0, none⟩ = some (.int .i64 mm)) (hg : SgAt w) : Calls Tryd.prog 36 #[.string s] w (RgPost s.data.toList 82 80 w) := by
  obtain ⟨i0, hi0, hz0, hz1, hz2⟩ := info_partsOR infoORng
  have hl := olist_any s w (sz20 _ hs).2
  unfold LsPost at hl
  have hlen := lsR_len s.data.toList
  obtain ⟨⟨xs, er⟩, hr⟩ : ∃ r, lsR s.data.toList = r := ⟨_, rfl⟩
  rw [hr] at hl hlen
  have HX := Lib.hid (And.intro hx hg)
  have hxn : xs.length ≤ 1048577 := by have := hlen.1; rw [size_list] at this; simp only at this; omega
  have hxl : ∀ x ∈ xs, x.length ≤ 1048576 := fun x hx => by have := hlen.2 x hx; rw [size_list] at this; omega
  have HL := Lib.hid hl; have HXL := Lib.hid hxl
  clear hl hlen hx hg hxl
  by_cases her : er = 0
  · subst her
    have HR := Lib.hid hr
    clear hr
    go_enter Tryd.func36, Tryd.ntmps36
    go_wp2_with fail
    refine (HL.out).mono ?_
    rintro e w1 ⟨lv, rfl, hown, hb1⟩
    obtain ⟨lo, lcap, rfl, hat⟩ := txtsIn_own hown
    have HAT := Lib.hid hat; have HB1 := Lib.hid hb1
    clear hown hb1 hat
    go_wp2
    go_loopw [24, 6] (fun iv ov wr => ∃ i : Nat, iv = .int .i64 i ∧ i ≤ xs.length ∧ (xs.take i).all rgGood = true ∧ KRngs wr w1.heap.size 82 80 ov (rgW (xs.take i)) ∧ Below w1.heap.size w1 wr) (fun iv _ _ => xs.length - (intOf iv).toNat)
    case atStart => exact ⟨0, rfl, Nat.zero_le _, rfl, kRngs_nil _ _ _ _, Below.refl _ _⟩
    case round =>
      obtain ⟨i, rfl, hi, hok, hown, hb⟩ := hrel
      by_cases hil : i < xs.length
      · obtain ⟨x, hxi⟩ : ∃ x, xs[i]? = some x := ⟨_, List.getElem?_eq_getElem hil⟩
        obtain ⟨g, o, rfl, _, c0⟩ := HAT.out.below hb i x hxi
        have hxsz := HXL.out x (List.mem_of_getElem? hxi)
        obtain ⟨t, ht⟩ : ∃ t : ByteArray, (⟨x.toArray⟩ : ByteArray) = t := ⟨_, rfl⟩
        have htx : t.data.toList = x := by rw [← ht]
        rw [ht] at c0
        have hts : t.size ≤ 1048576 := by rw [← size_list, htx]; exact hxsz
        have hbd := xsr_bd i xs.length hil hxn
        have i0' : (0 : Int) ≤ (i : Int) := Int.natCast_nonneg _
        have i1 : (i : Int) < (xs.length : Int) := by omega
        have hwi := wrap64_small i hbd.2.2
        have hwb : Below w.heap.size w wr := HB1.out.trans (hb.mono HB1.out.size)
        have hsp := split_any t wr (sz20 _ hts).1 (HX.out.2.below hwb)
        obtain ⟨⟨ty, sub, ps, gd⟩, hmd⟩ : ∃ r, mdR t.data.toList = r := ⟨_, rfl⟩
        unfold MdPost at hsp
        rw [hmd] at hsp
        have hps := mps_of t ty sub ps gd hmd hts
        obtain ⟨⟨ah, q, qe⟩, hw⟩ : ∃ r, wtP ps = r := ⟨_, rfl⟩
        have hah := ah_len ps ah q qe hw hps.1
        rw [htx] at hmd
        obtain ⟨X, hX, hown, hall⟩ := hown
        rw [rgW_len xs i hi] at hown
        have HSP := Lib.hid hsp; have HMD := Lib.hid (And.intro hmd hw); have HPS := Lib.hid hps; have HAH := Lib.hid hah
        have HO := Lib.hid hown; have HXX := Lib.hid (And.intro hX hall); have HB := Lib.hid hb; have HW := Lib.hid hwi; have HOK := Lib.hid hok; have HXI := Lib.hid hxi; have HWB := Lib.hid hwb
        clear hsp hmd hw hps hah hown hX hall hb hwi hok hxi hxsz ht htx hwb hts
        go_wp2_with fail
        refine (HSP.out).mono ?_
        rintro e w3 ⟨pv, rfl, hpo, hb3⟩
        rw [show mdV (ty, sub, ps, gd) pv = .tuple #[.agg #[.string ⟨ty.toArray⟩, .string ⟨sub.toArray⟩, pv], .bool gd] from rfl]
        have hpo : w3.ownsRow wr.heap.size 80 3 pv ps.length (parsV ps) := hpo
        obtain ⟨pao, pcap, rfl, hpc, hpat⟩ := own_parts hpo
        obtain ⟨W4, hW4⟩ : ∃ W4, w3.alloc (.cells (mC ⟨ty, sub, ps⟩ (.slice pao ps.length pcap)) 24) = W4 := ⟨_, rfl⟩
        have hb34 : Below w3.heap.size w3 W4 := by rw [← hW4]; exact (Below.refl _ w3).alloc (Nat.le_refl _) _
        have hbr4 : Below wr.heap.size wr W4 := hb3.trans (hb34.mono hb3.size)
        have HB4 := Lib.hid (HB.out.trans (hbr4.mono HB.out.size))
        have HO4 := Lib.hid (own_later HO.out hbr4)
        have HA4 := Lib.hid (show ∀ p ∈ X, ParBlk W4 w1.heap.size 80 p.1.2 p.1.1.ps from fun p hp => (HXX.out.2 p hp).later hbr4)
        have HM4 := Lib.hid (show BlkIs W4 w3.heap.size (mC ⟨ty, sub, ps⟩ (.slice pao ps.length pcap)) 24 by rw [← hW4]; exact blkIs_new _ _ _)
        have HP4 := Lib.hid (((parBlk_own hpo).later hb34).base HB.out.size)
        have HWB4 := Lib.hid (HWB.out.trans (hbr4.mono HWB.out.size))
        have hwt := oweight_any pao pcap ps mm W4 (Nat.le_trans HPS.out.1 (by decide)) hpc HPS.out.2.1 (hpat.below hb34) (mx_later (B := 0) HX.out.1 HWB4.out)
        rw [HMD.out.2] at hwt
        have HWT := Lib.hid hwt; have HW4 := Lib.hid hW4
        have lt3 : w3.heap.size < W4.heap.size := HM4.out.lt
        have HGE := Lib.hid (show w1.heap.size ≤ w3.heap.size from Nat.le_trans HB.out.size hb3.size)
        clear hb3 hpo hpc hpat hb34 hbr4 hwt hW4 c0
        go_upto_region 9 with fail
        rw [HW4.out]
        have m2 : W4.cell? ⟨w3.heap.size, 2, none⟩ = some (.slice pao ps.length pcap) := HM4.out.cell 2 _ rfl
        go_wp2_with fail
        refine (HWT.out).mono ?_
        rintro e w5 ⟨cc, rfl, hb5⟩
        rw [show wtV (.slice pao (ah, q, qe).1.length cc) (ah, q, qe) = .tuple #[.slice pao ah.length cc, .int .i64 (q : Nat), .int .i64 (qe : Nat)] from rfl]
        have HB5 := Lib.hid (HB4.out.trans (hb5.mono HB4.out.size))
        have HO5 := Lib.hid (own_later HO4.out hb5)
        have HA5 := Lib.hid (show ∀ p ∈ X, ParBlk w5 w1.heap.size 80 p.1.2 p.1.1.ps from fun p hp => (HA4.out p hp).later hb5)
        have HM5 := Lib.hid (HM4.out.later hb5)
        have HP5 := Lib.hid (show ParBlk w5 w1.heap.size 80 (.slice pao ah.length cc) ah by
          obtain ⟨k, hk, he⟩ := HAH.out.2
          rw [he]
          exact parBlk_take (HP4.out.later hb5) hk)
        have HWB5 := Lib.hid (HWB4.out.trans (hb5.mono HWB4.out.size))
        have HVAL := Lib.hid (fun V (hV : Below w5.heap.size w5 V) => ovalued_any (.slice pao ah.length cc) ah V HAH.out.1 (HP5.out.isIn.below hV))
        clear hb5 m2 lt3
        go_upto_region 10 with fail
        go_cut [56] (fun s56 wx => s56 = .bool (badR gd ty sub ah) ∧ Below w5.heap.size w5 wx)
        case first =>
          have z0 : w5.cell? ⟨w3.heap.size, 0, none⟩ = some (.string ⟨ty.toArray⟩) := HM5.out.cell 0 _ rfl
          have z1 : w5.cell? ⟨w3.heap.size, 1, none⟩ = some (.string ⟨sub.toArray⟩) := HM5.out.cell 1 _ rfl
          cases gd with
          | false =>
            have HT := Lib.hid (show badR false ty sub ah = true from rfl)
            go_wp2_with fail
            go_meet
            exact ⟨by rw [HT.out], Below.refl _ _⟩
          | true =>
            by_cases ht : ty = [42]
            · have hbe : (ty == [42]) = true := by rw [ht]; rfl
              by_cases hsb : sub = [42]
              · have hbe2 : (sub == [42]) = true := by rw [hsb]; rfl
                have HT := Lib.hid (show badR true ty sub ah = !allVal ah by unfold badR; rw [ht, hsb]; rfl)
                clear ht hsb
                go_wp2_with fail
                refine (HVAL.out _ (Below.refl _ _)).mono ?_
                rintro e w6 ⟨rfl, hb6⟩
                obtain ⟨av, hav⟩ : ∃ av, allVal ah = av := ⟨_, rfl⟩
                rw [hav] at HT
                rw [hav]
                clear hav
                cases av
                all_goals
                  go_wp2_with fail
                  go_meet
                  exact ⟨by rw [HT.out]; rfl, hb6⟩
              · have hbe2 : (sub == [42]) = false := beq_false_of_ne hsb
                have HT := Lib.hid (show badR true ty sub ah = true by unfold badR; rw [decide_eq_true ht, decide_eq_false hsb]; rfl)
                clear ht hsb
                go_wp2_with fail
                go_meet
                exact ⟨by rw [HT.out], Below.refl _ _⟩
            · have hbe : (ty == [42]) = false := beq_false_of_ne ht
              have HT := Lib.hid (show badR true ty sub ah = !allVal ah by unfold badR; rw [decide_eq_false ht]; rfl)
              clear ht
              go_wp2_with fail
              refine (HVAL.out _ (Below.refl _ _)).mono ?_
              rintro e w6 ⟨rfl, hb6⟩
              obtain ⟨av, hav⟩ : ∃ av, allVal ah = av := ⟨_, rfl⟩
              rw [hav] at HT
              rw [hav]
              clear hav
              cases av
              all_goals
                go_wp2_with fail
                go_meet
                exact ⟨by rw [HT.out]; rfl, hb6⟩
        case rest =>
        obtain ⟨rfl, hb6⟩ := hcut
        have HB6 := Lib.hid (HB5.out.trans (hb6.mono HB5.out.size))
        have HO6 := Lib.hid (own_later HO5.out hb6)
        have HA6 := Lib.hid (show ∀ p ∈ X, ParBlk wc w1.heap.size 80 p.1.2 p.1.1.ps from fun p hp => (HA5.out p hp).later hb6)
        have HM6 := Lib.hid (HM5.out.later hb6)
        have HP6 := Lib.hid (HP5.out.later hb6)
        have HWB6 := Lib.hid (HWB5.out.trans (hb6.mono HWB5.out.size))
        clear hb6
        cases hbad : badR gd ty sub ah with
        | true =>
          have HE := Lib.hid (rgR_bad _ xs HR.out i x HXI.out HOK.out 72 _ (rgOne_bad x ty sub ps ah gd q qe HMD.out.1 HMD.out.2 hbad) (by decide))
          clear hbad
          go_wp2
          go_ret2
          unfold RgPost
          rw [HE.out]
          exact ⟨_, rfl, kRngs_nil _ _ _ _, HWB6.out⟩
        | false =>
          by_cases hqe : qe = 0
          · subst hqe
            have HST := Lib.hid (rg_step xs i x _ HXI.out HOK.out (rgOne_ok x ty sub ps ah gd q HMD.out.1 HMD.out.2 hbad))
            have z2 : wc.cell? ⟨w3.heap.size, 2, none⟩ = some (.slice pao ps.length pcap) := HM6.out.cell 2 _ rfl
            have y2 := HM6.out.free 2
            have z0 : wc.cell? ⟨w3.heap.size, 0, none⟩ = some (.string ⟨ty.toArray⟩) := HM6.out.cell 0 _ rfl
            have z1 : wc.cell? ⟨w3.heap.size, 1, none⟩ = some (.string ⟨sub.toArray⟩) := HM6.out.cell 1 _ rfl
            have hge : w1.heap.size ≤ w3.heap.size := HGE.out
            obtain ⟨W7, hW7⟩ : ∃ W7, wc.setCell ⟨w3.heap.size, 2, none⟩ (.slice pao ah.length cc) = W7 := ⟨_, rfl⟩
            have hM7 : BlkIs W7 w3.heap.size (mC ⟨ty, sub, ps⟩ (.slice pao ah.length cc)) 24 := by rw [← hW7]; exact HM6.out.set 2 _
            have HB7 := Lib.hid (show Below w1.heap.size w1 W7 by rw [← hW7]; exact HB6.out.setCell (p := ⟨w3.heap.size, 2, none⟩) hge _)
            have HO7 := Lib.hid (show W7.ownsRow w1.heap.size 82 4 _ i (rngsV X) by rw [← hW7]; exact own_setOther HO6.out (own_blk HO6.out HM6.out (by decide)))
            have hsk : ∀ sv l, ParBlk wc w1.heap.size 80 sv l → ParBlk W7 w1.heap.size 80 sv l := fun sv l h => by rw [← hW7]; exact h.set HM6.out (by decide)
            have HA7 := Lib.hid (show ∀ p ∈ X, ParBlk W7 w1.heap.size 80 p.1.2 p.1.1.ps from fun p hp => hsk _ _ (HA6.out p hp))
            have HP7 := Lib.hid (hsk _ _ HP6.out)
            have u0 : W7.cell? ⟨w3.heap.size, 0, none⟩ = some (.string ⟨ty.toArray⟩) := hM7.cell 0 _ rfl
            have u1 : W7.cell? ⟨w3.heap.size, 1, none⟩ = some (.string ⟨sub.toArray⟩) := hM7.cell 1 _ rfl
            have u2 : W7.cell? ⟨w3.heap.size, 2, none⟩ = some (.slice pao ah.length cc) := hM7.cell 2 _ rfl
            have HW7 := Lib.hid hW7
            have hbz7 := HB7.out.size
            clear hbad hW7 hM7 hsk hge
            go_upto_region 15 with fail
            rw [HW7.out]
            clear z0 z1 z2 y2
            go_wp2_with (at_builtin; refine wpList_append_own _ rfl (.tmp 62) (.tmp 66) 56 rfl w1.heap.size 82 i0 (.agg #[.string ByteArray.empty, .string ByteArray.empty, .slice none 0 0, .int .i64 0]) 4 64 Tryd.underlying56 hi0 hz0 hz1 hz2 rfl (by decide) _ _ _ rfl (HO7.out.alloc _) ⟨W7.heap.size, 0, none⟩ 1 1 [.string ⟨ty.toArray⟩, .string ⟨sub.toArray⟩, .slice pao ah.length cc, .int .i64 (q : Nat)] rfl rfl (cells_new W7 82 _) (by simp [Value.oneCell']) hbd.1 hbd.2.1 ?dd ?_)
            case dd => simp; omega
            intro v1 w8 hI8 hg8 _
            have hb8 : Below w1.heap.size w1 w8 := (HB7.out.alloc hbz7 _).grown hg8 (alloc_le hbz7 _) (fun k hk => (HO7.out.lt k hk).1)
            have hfin : KRngs w8 w1.heap.size 82 80 v1 (rgW (xs.take i) ++ [(⟨ty, sub, ah⟩, ((q : Nat) : Int))]) :=
              kRngs_snoc HXX.out.1 (by rw [rgW_len xs i hi]; exact HO7.out.alloc _) (fun p hp => (HA7.out p hp).later ((Below.refl _ W7).alloc (Nat.le_refl _) _)) (by decide) (HP7.out.later ((Below.refl _ W7).alloc (Nat.le_refl _) _)) hg8 (by rw [rgW_len xs i hi]; exact hI8)
            have HF := Lib.hid hfin; have HB8 := Lib.hid hb8
            clear hI8 hg8 hb8 hfin u0 u1 u2
            go_wp2
            have hwi := HW.out
            go_roundw
            case rel => (try rw [hwi]); clear hwi; exact ⟨i + 1, by go_num, hil, HST.out.1, by rw [HST.out.2]; exact HF.out, HB8.out⟩
            case measure => (try rw [hwi]); clear hwi; simp [intOf]; omega
          · have fe : ((qe : Int) != 0) = true := by simp; omega
            have HE := Lib.hid (rgR_bad _ xs HR.out i x HXI.out HOK.out qe _ (rgOne_q x ty sub ps ah gd q qe HMD.out.1 HMD.out.2 hbad hqe) hqe)
            clear hqe hbad
            go_wp2
            go_ret2
            unfold RgPost
            rw [HE.out]
            exact ⟨_, rfl, kRngs_nil _ _ _ _, HWB6.out⟩
      · obtain rfl : xs.length = i := by omega
        have hd : decide (xs.length < xs.length) = false := decide_eq_false (Nat.lt_irrefl _)
        rw [List.take_length] at hok hown
        have HF := Lib.hid (rgR_ok _ xs HR.out hok)
        have HO2 := Lib.hid (hown.base HB1.out.size)
        have HBX := Lib.hid (HB1.out.trans (hb.mono HB1.out.size))
        clear hown hb hok
        go_wp2
        go_ret2
        unfold RgPost
        rw [HF.out]
        exact ⟨_, rfl, HO2.out, HBX.out⟩
  · have HE := Lib.hid (rgR_list _ xs er hr her)
    have hbe : ((er : Int) != 0) = true := by simp; omega
    clear hr her
    go_enter Tryd.func36, Tryd.ntmps36
    go_wp2_with fail
    refine (HL.out).mono ?_
    rintro e w1 ⟨lv, rfl, hown, hb1⟩
    have HB1 := Lib.hid hb1
    clear hown hb1
    go_wp2
    go_ret2
    unfold RgPost
    rw [HE.out]
    exact ⟨_, rfl, kRngs_nil _ _ _ _, HB1.out⟩
end Go.Proofs.YthnniiakmjonjaaDoor
