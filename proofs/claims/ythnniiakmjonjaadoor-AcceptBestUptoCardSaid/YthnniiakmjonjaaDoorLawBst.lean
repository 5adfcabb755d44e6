/- The walk of turnpikelaw07.AcceptBest: true. Conditions: at most 2^30 letters, parameters and elements; bytealg's MaxLen holds an int; octet.signs holds what the text lays. -/
import Derived.Test.YthnniiakmjonjaaDoorChs
import Derived.Test.YthnniiakmjonjaaDoorLawMeet
namespace Go.Proofs.YthnniiakmjonjaaDoor
open Go.RowKit
set_option linter.unusedSimpArgs false
set_option linter.unusedVariables false
set_option maxRecDepth 1000000
set_option maxHeartbeats 8000000 in
theorem acceptBest_any (v ov : Value) (l : List Rng) (o : List Mdm) (mm : Int) (w : World) (hN : totF rngLen l + l.length ≤ 1073741824) (hO : totF mdmLen o + o.length ≤ 1073741824) (h : RngsIn w v l) (ho : MedsIn w ov o) (hx : w.cell? ⟨1, 0, none⟩ = some (.int .i64 mm)) (hg : SgAt w) :
    Calls Tryd.prog 12 #[v, ov] w fun e w' => e = .returned (.bool true) ∧ Below w.heap.size w w' := by
  have HCH := Lib.hid (choose_any v ov l o w hN hO h ho)
  have hbest := fstS_best (likAt l o) o.length
  have hN2 : o.length ≤ 1073741824 := by omega
  obtain ⟨oo, ocap, rfl, hat⟩ := ho
  have HI := Lib.hid h; have HAT := Lib.hid hat
  have HN := Lib.hid (And.intro hN hO); have HX := Lib.hid (And.intro hx hg)
  have hpos : (0 : Int) ≤ (o.length : Int) := Int.natCast_nonneg _
  clear h hat hx hg hN hO
  rcases hbest with ⟨h1, h2, h3⟩ | ⟨a, h1, hlt, h2, hp, h3⟩
  · have hc : chooseP l o = -1 := h1
    have H3 := Lib.hid h3
    rw [hc] at HCH
    have hge : ¬ ((o.length : Int) ≤ -1) := by omega
    clear h1 h2 h3 hc
    go_enter Tryd.func12, Tryd.ntmps12
    go_wp2_with fail
    refine (HCH.out).mono ?_
    rintro e w1 ⟨rfl, hb1⟩
    have HB1 := Lib.hid hb1
    clear hb1
    go_wp2
    go_loopw [7] (fun iv wr => ∃ i : Nat, iv = .int .i64 i ∧ i ≤ o.length ∧ Below w.heap.size w wr) (fun iv _ => o.length - (intOf iv).toNat)
    case atStart => exact ⟨0, rfl, Nat.zero_le _, HB1.out⟩
    case round =>
      obtain ⟨i, rfl, hi, hb⟩ := hrel
      have HB := Lib.hid hb
      by_cases hlt : i < o.length
      · obtain ⟨m, hm⟩ : ∃ m, o[i]? = some m := ⟨_, List.getElem?_eq_getElem hlt⟩
        obtain ⟨g, off, rfl, _, c0, c1, sv, c2, hps⟩ := HAT.out.below hb i m hm
        have k0 : (0 : Int) ≤ (i : Int) := Int.natCast_nonneg _
        have k1 : (i : Int) < (o.length : Int) := by omega
        have hwi := wrap64_small i (small30 i _ hi hN2)
        have hle : likeP l m ≤ 0 := by have := H3.out i hlt; rwa [likAt_get l o i m hm] at this
        have HLK := Lib.hid (liking_any v sv l m wr HN.out.1 (meds_bd o HN.out.2 i m hm) (HI.out.below hb) hps)
        have HW := Lib.hid hwi
        obtain ⟨y, hy⟩ : ∃ y, likeP l m = y := ⟨_, rfl⟩
        rw [hy] at HLK hle
        clear hb hwi hps hm hy
        go_wp2_with fail
        refine (HLK.out).mono ?_
        rintro e w2 ⟨rfl, hb2⟩
        have HB2 := Lib.hid (HB.out.trans (hb2.mono HB.out.size))
        clear hb2 c0 c1 c2
        go_wp2
        have hwi := HW.out
        go_roundw
        case rel => (try rw [hwi]); clear hwi; exact ⟨i + 1, by go_num, hlt, HB2.out⟩
        case measure => (try rw [hwi]); clear hwi; simp [intOf]; omega
      · obtain rfl : i = o.length := by omega
        have hd : decide (o.length < o.length) = false := decide_eq_false (Nat.lt_irrefl _)
        have HAW := Lib.hid (awake07_any mm wr (mx_later (B := 0) HX.out.1 HB.out) (HX.out.2.below HB.out))
        clear hb
        go_wp2_with fail
        refine (HAW.out).mono ?_
        rintro e w3 ⟨rfl, hb3⟩
        have HB3 := Lib.hid (HB.out.trans (hb3.mono HB.out.size))
        clear hb3
        go_wp2
        go_ret
        exact ⟨rfl, HB3.out⟩
  · have hc : chooseP l o = (a : Int) := h1
    have H3 := Lib.hid h3
    rw [hc] at HCH
    obtain ⟨ma, hma⟩ : ∃ m, o[a]? = some m := ⟨_, List.getElem?_eq_getElem hlt⟩
    have a0 : (0 : Int) ≤ (a : Int) := Int.natCast_nonneg _
    have a1 : (a : Int) < (o.length : Int) := by omega
    obtain ⟨q, hq⟩ : ∃ q, likAt l o a = q := ⟨_, rfl⟩
    rw [hq] at hp
    have hqa : likeP l ma = q := by rw [← likAt_get l o a ma hma]; exact hq
    have HQ := Lib.hid (And.intro hq (And.intro hqa hma))
    clear h1 h2 h3 hc hq hqa
    go_enter Tryd.func12, Tryd.ntmps12
    go_wp2_with fail
    refine (HCH.out).mono ?_
    rintro e w1 ⟨rfl, hb1⟩
    obtain ⟨g, off, rfl, _, c0, c1, sv, c2, hps⟩ := HAT.out.below hb1 a ma HQ.out.2.2
    have HLA := Lib.hid (liking_any v sv l ma w1 HN.out.1 (meds_bd o HN.out.2 a ma HQ.out.2.2) (HI.out.below hb1) hps)
    rw [HQ.out.2.1] at HLA
    have HB1 := Lib.hid hb1
    clear hb1 hps hma
    go_wp2_with fail
    refine (HLA.out).mono ?_
    rintro e w2 ⟨rfl, hb2⟩
    have HB2 := Lib.hid (HB1.out.trans (hb2.mono HB1.out.size))
    clear hb2 c0 c1 c2 HLA
    go_wp2
    go_loopw [7] (fun iv wr => ∃ i : Nat, iv = .int .i64 i ∧ i ≤ o.length ∧ Below w.heap.size w wr) (fun iv _ => o.length - (intOf iv).toNat)
    case atStart => exact ⟨0, rfl, Nat.zero_le _, HB2.out⟩
    case round =>
      obtain ⟨i, rfl, hi, hb⟩ := hrel
      have HB := Lib.hid hb
      by_cases hlt : i < o.length
      · obtain ⟨m, hm⟩ : ∃ m, o[i]? = some m := ⟨_, List.getElem?_eq_getElem hlt⟩
        obtain ⟨g2, off2, hao, _, c0, c1, sv2, c2, hps⟩ := HAT.out.below hb i m hm
        injection hao with hao
        injection hao with hg2 hoff2
        subst hg2
        subst hoff2
        have k0 : (0 : Int) ≤ (i : Int) := Int.natCast_nonneg _
        have k1 : (i : Int) < (o.length : Int) := by omega
        have hwi := wrap64_small i (small30 i _ hi hN2)
        have h3 := H3.out i hlt
        rw [likAt_get l o i m hm, HQ.out.1] at h3
        have HLK := Lib.hid (liking_any v sv2 l m wr HN.out.1 (meds_bd o HN.out.2 i m hm) (HI.out.below hb) hps)
        have HW := Lib.hid hwi
        obtain ⟨y, hy⟩ : ∃ y, likeP l m = y := ⟨_, rfl⟩
        rw [hy] at HLK h3
        obtain ⟨hle, hlt3⟩ := h3
        clear hb hwi hps hm hy
        by_cases hia : i < a
        · have i1 : (i : Int) < (a : Int) := by omega
          have hbq : (y == q) = false := beq_false_of_ne (by have := hlt3 hia; omega)
          clear hlt3
          go_wp2_with fail
          refine (HLK.out).mono ?_
          rintro e w3 ⟨rfl, hb3⟩
          have HB3 := Lib.hid (HB.out.trans (hb3.mono HB.out.size))
          clear hb3 c0 c1 c2
          go_wp2
          have hwi := HW.out
          go_roundw
          case rel => (try rw [hwi]); clear hwi; exact ⟨i + 1, by go_num, hlt, HB3.out⟩
          case measure => (try rw [hwi]); clear hwi; simp [intOf]; omega
        · have i1 : (a : Int) ≤ (i : Int) := by omega
          clear hlt3
          go_wp2_with fail
          refine (HLK.out).mono ?_
          rintro e w3 ⟨rfl, hb3⟩
          have HB3 := Lib.hid (HB.out.trans (hb3.mono HB.out.size))
          clear hb3 c0 c1 c2
          go_wp2
          have hwi := HW.out
          go_roundw
          case rel => (try rw [hwi]); clear hwi; exact ⟨i + 1, by go_num, hlt, HB3.out⟩
          case measure => (try rw [hwi]); clear hwi; simp [intOf]; omega
      · obtain rfl : i = o.length := by omega
        have hd : decide (o.length < o.length) = false := decide_eq_false (Nat.lt_irrefl _)
        have HAW := Lib.hid (awake07_any mm wr (mx_later (B := 0) HX.out.1 HB.out) (HX.out.2.below HB.out))
        clear hb
        go_wp2_with fail
        refine (HAW.out).mono ?_
        rintro e w3 ⟨rfl, hb3⟩
        have HB3 := Lib.hid (HB.out.trans (hb3.mono HB.out.size))
        clear hb3
        go_wp2
        go_ret
        exact ⟨rfl, HB3.out⟩
theorem acceptBest_row (v0 : Value) (l : List Rng) (v1 : Value) (o : List Mdm) (W : World) (hL : laidMetH Tryd.prog Rows.acceptBestUptoRow.laid W) (hsh : W.ShapedOpen Tryd.prog) (hs : (totF rngLen l + l.length) + (totF mdmLen o + o.length) ≤ 1048576) (h0 : RngsIn W v0 l) (h1 : MedsIn W v1 o) :
    Calls Tryd.prog 12 #[v0, v1] W fun e W' => e = .returned (.bool true) ∧ Below W.heap.size W W' := by
  obtain ⟨mm, hm⟩ := Tryd.laysM145.s1_3 W hsh
  exact acceptBest_any v0 v1 l o mm W (by omega) (by omega) h0 h1 hm (sg_of_laid (l := Rows.acceptBestUptoRow.laid) (by simp [Rows.acceptBestUptoRow]) hL)
end Go.Proofs.YthnniiakmjonjaaDoor
