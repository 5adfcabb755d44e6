/- The walk of turnpikeref15.Print: the plain function wrtR. Conditions: at most 1048576 letters and parts. -/
import Derived.Test.YtlfdeenekjklgaaGreatDoorPa25
import Derived.Test.YtlfdeenekjklgaaGreatDoorPk17
namespace Go.Proofs.YtlfdeenekjklgaaGreatDoor
open Go.RowKit
set_option linter.unusedSimpArgs false
set_option linter.unusedVariables false
set_option maxRecDepth 1000000
theorem strCells_l2 (l : List UInt8) : Lib.strCells ⟨l.toArray⟩ = Lib.byteCells l := strCells_s _
theorem le_max2 (a x : Nat) (h : a ≤ 2199023255552) (hx : x ≤ 2199023255552) : a + x ≤ maxLen := by unfold maxLen; omega
theorem cat_hc (N D : List UInt8) (h : N ++ cdB = D) : (⟨N.toArray⟩ : ByteArray) ++ (⟨#[67, 111, 110, 116, 101, 110, 116, 45, 68, 105, 115, 112, 111, 115, 105, 116, 105, 111, 110, 58, 32]⟩ : ByteArray) = ⟨D.toArray⟩ := by rw [← h]; exact cat_ll N _
theorem cat_fd (N D : List UInt8) (h : fdB ++ N = D) : (⟨#[102, 111, 114, 109, 45, 100, 97, 116, 97, 59, 32, 110, 97, 109, 101, 61]⟩ : ByteArray) ++ (⟨N.toArray⟩ : ByteArray) = ⟨D.toArray⟩ := by rw [← h]; exact cat_ll _ N
theorem val_has (p : Prt) (h : p.has = true) : valL p = (fdB ++ qtL p.name) ++ (fnB ++ qtL p.file) := by
  unfold valL; rw [h, if_pos rfl]
theorem val_not (p : Prt) (h : p.has = false) : valL p = fdB ++ qtL p.name := by
  unfold valL; rw [h]; simp
theorem fd_len (N D1 : List UInt8) (h : fdB ++ N = D1) : D1.length = N.length + 16 := by
  rw [← h, List.length_append]
  have h4 : fdB.length = 16 := rfl
  omega
theorem lens3 (A0 t hd x1 V vc body b1 b2 : List UInt8) (h0 : A0.length ≤ 1099511627776) (ht : t.length ≤ 100) (hhd : t ++ [13, 10] = hd) (hx1 : hd ++ cdB = x1) (hlc : V ++ [13, 10] = vc) (hln : V.length ≤ 8388608) (hb : body.length ≤ 1048576) (h1 : 13 :: 10 :: body = b1) (h2 : b1 ++ [13, 10] = b2) :
    x1.length ≤ 2199023255552 ∧ (A0 ++ x1).length ≤ 2199023255552 ∧ vc.length ≤ 2199023255552 ∧ (A0 ++ x1 ++ vc).length ≤ 2199023255552 ∧ b2.length ≤ 2199023255552 ∧ b1.length ≤ 2199023255552 ∧ hd.length ≤ 2199023255552 ∧ A0.length ≤ 2199023255552 := by
  subst hhd; subst hx1; subst hlc; subst h1; subst h2
  have h3 : cdB.length = 21 := rfl
  simp only [List.length_append, List.length_cons, List.length_nil, h3]
  omega
theorem lens4 (A0 t hd x1 V vc md M mc : List UInt8) (h0 : A0.length ≤ 1099511627776) (ht : t.length ≤ 100) (hhd : t ++ [13, 10] = hd) (hx1 : hd ++ cdB = x1) (hlc : V ++ [13, 10] = vc) (hln : V.length ≤ 8388608) (hb : md.length ≤ 1048576) (h1 : ctB ++ md = M) (h2 : M ++ [13, 10] = mc) :
    M.length ≤ 1099511627776 ∧ mc.length ≤ 2199023255552 ∧ (A0 ++ x1 ++ vc ++ mc).length ≤ 2199023255552 := by
  subst hhd; subst hx1; subst hlc; subst h1; subst h2
  have h3 : cdB.length = 21 := rfl
  have h4 : ctB.length = 14 := rfl
  simp only [List.length_append, List.length_cons, List.length_nil, h3, h4]
  omega
theorem fin3 (B t hd x1 V vc b1 b2 : List UInt8) (p : Prt) (hB : hdL B = t ++ [13, 10]) (hhd : t ++ [13, 10] = hd) (hx1 : hd ++ cdB = x1) (hl : valL p = V) (hlc : V ++ [13, 10] = vc) (hm : medL p = []) (h1 : 13 :: 10 :: p.body = b1) (h2 : b1 ++ [13, 10] = b2) (A0 : List UInt8) : A0 ++ partB B p = A0 ++ x1 ++ vc ++ b2 := by
  unfold partB lineL
  rw [hB, hhd, hl, hm, List.append_nil, ← h2, ← h1, ← hlc, ← hx1]
  simp only [List.append_assoc, List.cons_append]
theorem fin4 (B t hd x1 V vc M mc b1 b2 : List UInt8) (p : Prt) (hB : hdL B = t ++ [13, 10]) (hhd : t ++ [13, 10] = hd) (hx1 : hd ++ cdB = x1) (hl : valL p = V) (hlc : V ++ [13, 10] = vc) (hM : ctB ++ p.media = M) (hmc : M ++ [13, 10] = mc) (hm : medL p = ctB ++ p.media ++ [13, 10]) (h1 : 13 :: 10 :: p.body = b1) (h2 : b1 ++ [13, 10] = b2) (A0 : List UInt8) : A0 ++ partB B p = A0 ++ x1 ++ vc ++ mc ++ b2 := by
  unfold partB lineL
  rw [hB, hhd, hl, hm, hM, hmc, ← h2, ← h1, ← hlc, ← hx1]
  simp only [List.append_assoc, List.cons_append]
set_option maxHeartbeats 64000000 in
theorem rwrt_any (s : ByteArray) (v : Value) (l : List Prt) (w : World) (hs : s.size ≤ 1048576) (hT : totQ l ≤ 1048576) (hN : l.length ≤ 1048576) (h : PrtsIn w v l) :
    Calls Tryz.prog 22 #[.string s, v] w (WrtPost s.data.toList l w) := by
  have hib := ismark_any s w (Nat.le_trans hs (by decide))
  obtain ⟨i0, hi0, hz0, hz1, hz2⟩ := info_parts infoByte
  cases hmk : isMrk s.data.toList with
  | false =>
    rw [hmk] at hib
    have HR := Lib.hid (wrt_mark s.data.toList l (Or.inl hmk))
    have HI := Lib.hid hib
    clear hmk hib
    go_enter Tryz.func22, Tryz.ntmps22
    go_wp2_with fail
    refine (HI.out).mono ?_
    rintro e w1 ⟨rfl, hb1⟩
    go_wp2
    go_ret2
    unfold WrtPost
    rw [HR.out]
    exact ⟨rfl, hb1⟩
  | true =>
    rw [hmk] at hib
    have hs70 : s.data.toList.length ≤ 70 := by
      unfold isMrk at hmk
      simp only [Bool.and_eq_true, decide_eq_true_eq] at hmk
      exact hmk.2.2
    obtain ⟨B, hB⟩ : ∃ B, s.data.toList = B := ⟨_, rfl⟩
    rw [hB] at hs70 hmk
    obtain ⟨t, ht⟩ : ∃ t, 45 :: 45 :: s.data.toList = t := ⟨_, rfl⟩
    have e1 := cat_ds s t ht
    have z1 := nof 2 s.size (by decide) (Nat.le_trans hs (by decide))
    have hst := fun w1 h1 => rstood_any v l s.data.toList w1 (Nat.le_trans hT (by decide)) (Nat.le_trans hN (by decide)) (by rw [size_list]; exact hs) h1
    have hse : (⟨s.data.toList.toArray⟩ : ByteArray) = s := str_eq s
    rw [hse, ht] at hst
    rw [hB] at ht
    have HI := Lib.hid hib
    have HST := Lib.hid hst
    rw [hB]
    clear hse
    cases hsd : stood l t with
    | true =>
      have HR := Lib.hid (wrt_mark B l (Or.inr (by rw [ht]; exact hsd)))
      rw [hsd] at HST
      clear hmk hib hst hB ht hsd
      go_enter Tryz.func22, Tryz.ntmps22
      go_wp2_with fail
      refine (HI.out).mono ?_
      rintro e w1 ⟨rfl, hb1⟩
      go_wp2_with fail
      refine (HST.out _ (h.below hb1)).mono ?_
      rintro e w2 ⟨rfl, hb2⟩
      go_wp2
      go_ret2
      unfold WrtPost
      rw [HR.out]
      exact ⟨rfl, hb1.trans (hb2.mono hb1.size)⟩
    | false =>
      rw [hsd] at HST
      rw [← ht] at hsd
      have hhd : hdL B = t ++ [13, 10] := by rw [← ht]; rfl
      have HBT := Lib.hid (And.intro hmk (And.intro hsd (And.intro hhd (And.intro hB ht))))
      clear hmk hib hst hB ht hsd hhd
      obtain ⟨ao, cap, rfl, hat⟩ := id h
      by_cases hl0 : l = []
      · subst hl0
        have HR := Lib.hid (wrt_none B HBT.out.1 HBT.out.2.1)
        clear hat
        go_enter Tryz.func22, Tryz.ntmps22
        go_wp2_with fail
        refine (HI.out).mono ?_
        rintro e w1 ⟨rfl, hb1⟩
        go_wp2_with fail
        refine (HST.out _ (h.below hb1)).mono ?_
        rintro e w2 ⟨rfl, hb2⟩
        go_wp2
        go_ret2
        unfold WrtPost
        rw [HR.out]
        exact ⟨rfl, hb1.trans (hb2.mono hb1.size)⟩
      · have hlp : ((l.length : Int) == 0) = false := by
          have := List.length_pos_iff.2 hl0
          simp
          omega
        have HL0 := Lib.hid hl0
        clear hl0
        have HH := Lib.hid (And.intro h hat)
        clear hat
        go_enter Tryz.func22, Tryz.ntmps22
        go_wp2_with fail
        refine (HI.out).mono ?_
        rintro e w1 ⟨rfl, hb1⟩
        go_wp2_with fail
        refine (HST.out _ (h.below hb1)).mono ?_
        rintro e w2 ⟨rfl, hb2⟩
        have hbz := hb1.trans (hb2.mono hb1.size)
        have hat2 := HH.out.2.below hbz
        have HA2 := Lib.hid (And.intro hat2 hbz)
        clear hat2 hb1 hb2 h HI HST hbz
        have hO1 := World.ownsRow_made (base := w2.heap.size) (e := 5) (size := 1) w2 #[] 0 (Nat.le_refl _) (by simp) rfl
        have hB1 := (Below.refl w2.heap.size w2).alloc (Nat.le_refl _) (.cells #[] 5)
        have HS := Lib.hid (And.intro hO1 hB1)
        clear hO1 hB1
        go_wp2
        go_loopw [7, 6] (fun iv v wr => ∃ i : Nat, iv = .int .i64 i ∧ i ≤ l.length ∧ (l.take i).all okP = true ∧ wr.ownsRow w2.heap.size 5 1 v ((l.take i).flatMap (partB B)).length (Lib.byteCells ((l.take i).flatMap (partB B))) ∧ Below w2.heap.size w2 wr) (fun iv _ _ => l.length - (intOf iv).toNat)
        case atStart => exact ⟨0, rfl, Nat.zero_le _, rfl, HS.out.1, HS.out.2⟩
        case round =>
          clear HS
          obtain ⟨i, rfl, hi, hok, hO, hb⟩ := hrel
          have hab := acc_bd B l i hs70 hT hN
          by_cases hlt : i < l.length
          · obtain ⟨p, hp⟩ : ∃ p, l[i]? = some p := ⟨_, List.getElem?_eq_getElem hlt⟩
            obtain ⟨g, o, rfl, c0, c1, c2, c3, c4, hgl⟩ := HA2.out.1.below hb i p hp
            have hpl := prt_1m p _ (totQ_get l i p hp) hT
            have k0 : (0 : Int) ≤ (i : Int) := Int.natCast_nonneg _
            have k1 : (i : Int) < (l.length : Int) := by omega
            have hwi := w64p i (Nat.le_trans hi (Nat.le_trans hN (by decide)))
            have htk := partB_take B l i p hp
            obtain ⟨A0, hA0⟩ : ∃ A0, (l.take i).flatMap (partB B) = A0 := ⟨_, rfl⟩
            rw [hA0] at hO hab htk
            have HTK := Lib.hid htk
            clear hA0 htk
            have hP := P5.new p wr 77
            have hbw := hb.alloc hb.size (.cells #[.string ⟨p.name.toArray⟩, .string ⟨p.file.toArray⟩, .string ⟨p.media.toArray⟩, .string ⟨p.body.toArray⟩, .bool p.has] 77)
            have hOw := hO.alloc (.cells #[.string ⟨p.name.toArray⟩, .string ⟨p.file.toArray⟩, .string ⟨p.media.toArray⟩, .string ⟨p.body.toArray⟩, .bool p.has] 77)
            have HAB := Lib.hid hab
            have HX := Lib.hid (And.intro hP (And.intro hOw (And.intro hbw (And.intro hp (And.intro hok (And.intro hwi hpl))))))
            have hbad : okP p = false → wrtR B l = ([], 152) := fun e => wrt_bad B l i p HBT.out.1 HBT.out.2.1 hp e
            have HBAD := Lib.hid hbad
            clear hab hP hOw hbw hp hok hwi hpl hbad hO hb
            cases hq1 : isFld p.name with
            | false =>
              have HQ1 := Lib.hid hq1
              have HR := Lib.hid (HBAD.out (okP_q _ (okQ_name _ hq1)))
              clear hq1
              go_wp2_with fail
              refine (rquote_bad p.name _ (le_1t _ HX.out.2.2.2.2.2.2.2.1) HQ1.out).mono ?_
              rintro e w3 ⟨rfl, hb3⟩
              have hP3 := HX.out.1.below hb3
              have hO3 := own_later HX.out.2.1 hb3
              have hb4 := HX.out.2.2.1.trans (hb3.mono HX.out.2.2.1.size)
              have HO3 := Lib.hid (And.intro hO3 hb4)
              have HP3 := Lib.hid hP3
              clear c0 c1 c2 c3 c4 hgl
              obtain ⟨c0, c1, c2, c3, c4, hlt3⟩ := hP3.cells
              clear hb3 hO3 hb4
              cases hq2 : isFld p.file with
              | false =>
                have HQ2 := Lib.hid hq2
                clear hq2
                go_wp2_with fail
                refine (rquote_bad p.file _ (le_1t _ HX.out.2.2.2.2.2.2.2.2.1) HQ2.out).mono ?_
                rintro e w4 ⟨rfl, hb5⟩
                have hP4 := HP3.out.below hb5
                have hO4 := own_later HO3.out.1 hb5
                have hb6 := HO3.out.2.trans (hb5.mono HO3.out.2.size)
                obtain ⟨w5, hw5⟩ : ∃ w5, w4.drew = w5 := ⟨_, rfl⟩
                have HBX := Lib.hid (show Below w2.heap.size w2 w5 from hw5 ▸ hb6.drew)
                have HO4 := Lib.hid (show w5.ownsRow w2.heap.size 5 1 _ A0.length (Lib.byteCells A0) from hw5 ▸ own_later hO4 ((Below.refl _ w4).drew))
                have HP2 := Lib.hid (show P5 77 wr.heap.size p w5 from hw5 ▸ hP4)
                have HW5 := Lib.hid hw5
                clear hb5 hO4 hb6 hP4 c0 c1 c2 c3 c4 hlt3 HP3 hw5
                go_wp2
                refine wp_region_textH (P5 77 wr.heap.size p) [(0, true), (1, true), (2, true), (3, true), (4, true), (5, true), (6, true), (7, true), (8, true), (9, false), (10, true), (11, true), (12, true), (13, true), (14, true), (16, true), (17, true), (15, false), (18, true), (19, true), (20, true), (21, true), (22, true), (23, true), (24, true), (25, true), (26, true), (27, true), (28, true), (29, true)] (by kernel_rfl) (by kernel_rfl) (by kernel_rfl) (by kernel_rfl) (HW5.out ▸ HP2.out) ?_
                rw [HW5.out]
                refine wpTxH_take rfl (by kernel_rfl) (v := ?_) ?_ ?_; rotate_left; · (intro w hS; obtain ⟨s0, s1, s2, s3, s4, _⟩ := hS.cells; go_simp; with_reducible rfl)
                refine wpTxH_take rfl (by kernel_rfl) (v := ?_) ?_ ?_; rotate_left; · (intro w hS; obtain ⟨s0, s1, s2, s3, s4, _⟩ := hS.cells; go_simp; with_reducible rfl)
                refine wpTxH_take rfl (by kernel_rfl) (v := ?_) ?_ ?_; rotate_left; · (intro w hS; obtain ⟨s0, s1, s2, s3, s4, _⟩ := hS.cells; go_simp; with_reducible rfl)
                refine wtxH_pass rfl (by kernel_rfl) ?_
                refine wtxH_pass rfl (by kernel_rfl) ?_
                refine wpTxH_take rfl (by kernel_rfl) (v := ?_) ?_ ?_; rotate_left; · (intro w hS; obtain ⟨s0, s1, s2, s3, s4, _⟩ := hS.cells; go_simp; with_reducible rfl)
                refine wpTxH_take rfl (by kernel_rfl) (v := ?_) ?_ ?_; rotate_left; · (intro w hS; obtain ⟨s0, s1, s2, s3, s4, _⟩ := hS.cells; go_simp; with_reducible rfl)
                refine wtxH_pass rfl (by kernel_rfl) ?_
                refine wtxH_pass rfl (by kernel_rfl) ?_
                refine wpTxH_step rfl (fun K hK => ?_)
                go_simp
                refine hK _ _ HP2.out ?_
                clear hK K
                refine wtxH_pass rfl (by kernel_rfl) ?_
                refine wpTxH_take rfl (by kernel_rfl) (v := ?_) ?_ ?_; rotate_left; · (intro w hS; obtain ⟨s0, s1, s2, s3, s4, _⟩ := hS.cells; go_simp; with_reducible rfl)
                refine wpTxH_take rfl (by kernel_rfl) (v := ?_) ?_ ?_; rotate_left; · (intro w hS; obtain ⟨s0, s1, s2, s3, s4, _⟩ := hS.cells; go_simp; with_reducible rfl)
                refine wtxH_pass rfl (by kernel_rfl) ?_
                refine wtxH_pass rfl (by kernel_rfl) ?_
                refine wtxH_pass rfl (by kernel_rfl) ?_
                refine wtxH_pass rfl (by kernel_rfl) ?_
                refine wpTxH_step rfl (fun K hK => ?_)
                go_simp
                refine hK _ _ HP2.out ?_
                clear hK K
                refine wtxH_pass rfl (by kernel_rfl) ?_
                refine wpTxH_take rfl (by kernel_rfl) (v := ?_) ?_ ?_; rotate_left; · (intro w hS; obtain ⟨s0, s1, s2, s3, s4, _⟩ := hS.cells; go_simp; with_reducible rfl)
                refine wpTxH_take rfl (by kernel_rfl) (v := ?_) ?_ ?_; rotate_left; · (intro w hS; obtain ⟨s0, s1, s2, s3, s4, _⟩ := hS.cells; go_simp; with_reducible rfl)
                refine wtxH_pass rfl (by kernel_rfl) ?_
                refine wtxH_pass rfl (by kernel_rfl) ?_
                refine wtxH_pass rfl (by kernel_rfl) ?_
                refine wtxH_pass rfl (by kernel_rfl) ?_
                refine wtxH_pass rfl (by kernel_rfl) ?_
                refine wtxH_pass rfl (by kernel_rfl) ?_
                refine wtxH_pass rfl (by kernel_rfl) ?_
                refine wtxH_pass rfl (by kernel_rfl) ?_
                refine wpTxH_take rfl (by kernel_rfl) (v := ?_) ?_ ?_; rotate_left; · (intro w hS; obtain ⟨s0, s1, s2, s3, s4, _⟩ := hS.cells; go_simp; with_reducible rfl)
                refine wpTxH_nil ?_
                go_simp
                go_wp2
                go_ret2
                unfold WrtPost
                rw [HR.out]
                exact ⟨rfl, HA2.out.2.trans (HBX.out.mono HA2.out.2.size)⟩
              | true =>
                have HQ2 := Lib.hid hq2
                clear hq2
                go_wp2_with fail
                refine (rquote_ok p.file _ (le_1t _ HX.out.2.2.2.2.2.2.2.2.1) HQ2.out).mono ?_
                rintro e w4 ⟨rfl, hb5⟩
                have hP4 := HP3.out.below hb5
                have hO4 := own_later HO3.out.1 hb5
                have hb6 := HO3.out.2.trans (hb5.mono HO3.out.2.size)
                obtain ⟨w5, hw5⟩ : ∃ w5, w4.drew = w5 := ⟨_, rfl⟩
                have HBX := Lib.hid (show Below w2.heap.size w2 w5 from hw5 ▸ hb6.drew)
                have HO4 := Lib.hid (show w5.ownsRow w2.heap.size 5 1 _ A0.length (Lib.byteCells A0) from hw5 ▸ own_later hO4 ((Below.refl _ w4).drew))
                have HP2 := Lib.hid (show P5 77 wr.heap.size p w5 from hw5 ▸ hP4)
                have HW5 := Lib.hid hw5
                clear hb5 hO4 hb6 hP4 c0 c1 c2 c3 c4 hlt3 HP3 hw5
                go_wp2
                refine wp_region_textH (P5 77 wr.heap.size p) [(0, true), (1, true), (2, true), (3, true), (4, true), (5, true), (6, true), (7, true), (8, true), (9, false), (10, true), (11, true), (12, true), (13, true), (14, true), (16, true), (17, true), (15, false), (18, true), (19, true), (20, true), (21, true), (22, true), (23, true), (24, true), (25, true), (26, true), (27, true), (28, true), (29, true)] (by kernel_rfl) (by kernel_rfl) (by kernel_rfl) (by kernel_rfl) (HW5.out ▸ HP2.out) ?_
                rw [HW5.out]
                refine wpTxH_take rfl (by kernel_rfl) (v := ?_) ?_ ?_; rotate_left; · (intro w hS; obtain ⟨s0, s1, s2, s3, s4, _⟩ := hS.cells; go_simp; with_reducible rfl)
                refine wpTxH_take rfl (by kernel_rfl) (v := ?_) ?_ ?_; rotate_left; · (intro w hS; obtain ⟨s0, s1, s2, s3, s4, _⟩ := hS.cells; go_simp; with_reducible rfl)
                refine wpTxH_take rfl (by kernel_rfl) (v := ?_) ?_ ?_; rotate_left; · (intro w hS; obtain ⟨s0, s1, s2, s3, s4, _⟩ := hS.cells; go_simp; with_reducible rfl)
                refine wtxH_pass rfl (by kernel_rfl) ?_
                refine wtxH_pass rfl (by kernel_rfl) ?_
                refine wpTxH_take rfl (by kernel_rfl) (v := ?_) ?_ ?_; rotate_left; · (intro w hS; obtain ⟨s0, s1, s2, s3, s4, _⟩ := hS.cells; go_simp; with_reducible rfl)
                refine wpTxH_take rfl (by kernel_rfl) (v := ?_) ?_ ?_; rotate_left; · (intro w hS; obtain ⟨s0, s1, s2, s3, s4, _⟩ := hS.cells; go_simp; with_reducible rfl)
                refine wtxH_pass rfl (by kernel_rfl) ?_
                refine wtxH_pass rfl (by kernel_rfl) ?_
                refine wpTxH_step rfl (fun K hK => ?_)
                go_simp
                refine hK _ _ HP2.out ?_
                clear hK K
                refine wtxH_pass rfl (by kernel_rfl) ?_
                refine wpTxH_take rfl (by kernel_rfl) (v := ?_) ?_ ?_; rotate_left; · (intro w hS; obtain ⟨s0, s1, s2, s3, s4, _⟩ := hS.cells; go_simp; with_reducible rfl)
                refine wpTxH_take rfl (by kernel_rfl) (v := ?_) ?_ ?_; rotate_left; · (intro w hS; obtain ⟨s0, s1, s2, s3, s4, _⟩ := hS.cells; go_simp; with_reducible rfl)
                refine wtxH_pass rfl (by kernel_rfl) ?_
                refine wtxH_pass rfl (by kernel_rfl) ?_
                refine wtxH_pass rfl (by kernel_rfl) ?_
                refine wtxH_pass rfl (by kernel_rfl) ?_
                refine wpTxH_step rfl (fun K hK => ?_)
                go_simp
                refine hK _ _ HP2.out ?_
                clear hK K
                refine wtxH_pass rfl (by kernel_rfl) ?_
                refine wpTxH_take rfl (by kernel_rfl) (v := ?_) ?_ ?_; rotate_left; · (intro w hS; obtain ⟨s0, s1, s2, s3, s4, _⟩ := hS.cells; go_simp; with_reducible rfl)
                refine wpTxH_take rfl (by kernel_rfl) (v := ?_) ?_ ?_; rotate_left; · (intro w hS; obtain ⟨s0, s1, s2, s3, s4, _⟩ := hS.cells; go_simp; with_reducible rfl)
                refine wtxH_pass rfl (by kernel_rfl) ?_
                refine wtxH_pass rfl (by kernel_rfl) ?_
                refine wtxH_pass rfl (by kernel_rfl) ?_
                refine wtxH_pass rfl (by kernel_rfl) ?_
                refine wtxH_pass rfl (by kernel_rfl) ?_
                refine wtxH_pass rfl (by kernel_rfl) ?_
                refine wtxH_pass rfl (by kernel_rfl) ?_
                refine wtxH_pass rfl (by kernel_rfl) ?_
                refine wpTxH_take rfl (by kernel_rfl) (v := ?_) ?_ ?_; rotate_left; · (intro w hS; obtain ⟨s0, s1, s2, s3, s4, _⟩ := hS.cells; go_simp; with_reducible rfl)
                refine wpTxH_nil ?_
                go_simp
                go_wp2
                go_ret2
                unfold WrtPost
                rw [HR.out]
                exact ⟨rfl, HA2.out.2.trans (HBX.out.mono HA2.out.2.size)⟩
            | true =>
              have HQ1 := Lib.hid hq1
              clear hq1
              go_wp2_with fail
              refine (rquote_ok p.name _ (le_1t _ HX.out.2.2.2.2.2.2.2.1) HQ1.out).mono ?_
              rintro e w3 ⟨rfl, hb3⟩
              have hP3 := HX.out.1.below hb3
              have hO3 := own_later HX.out.2.1 hb3
              have hb4 := HX.out.2.2.1.trans (hb3.mono HX.out.2.2.1.size)
              have HO3 := Lib.hid (And.intro hO3 hb4)
              have HP3 := Lib.hid hP3
              clear c0 c1 c2 c3 c4 hgl
              obtain ⟨c0, c1, c2, c3, c4, hlt3⟩ := hP3.cells
              clear hb3 hO3 hb4
              cases hq2 : isFld p.file with
              | false =>
                have HQ2 := Lib.hid hq2
                have HR := Lib.hid (HBAD.out (okP_q _ (okQ_file _ hq2)))
                clear hq2
                go_wp2_with fail
                refine (rquote_bad p.file _ (le_1t _ HX.out.2.2.2.2.2.2.2.2.1) HQ2.out).mono ?_
                rintro e w4 ⟨rfl, hb5⟩
                have hP4 := HP3.out.below hb5
                have hO4 := own_later HO3.out.1 hb5
                have hb6 := HO3.out.2.trans (hb5.mono HO3.out.2.size)
                obtain ⟨w5, hw5⟩ : ∃ w5, w4.drew = w5 := ⟨_, rfl⟩
                have HBX := Lib.hid (show Below w2.heap.size w2 w5 from hw5 ▸ hb6.drew)
                have HO4 := Lib.hid (show w5.ownsRow w2.heap.size 5 1 _ A0.length (Lib.byteCells A0) from hw5 ▸ own_later hO4 ((Below.refl _ w4).drew))
                have HP2 := Lib.hid (show P5 77 wr.heap.size p w5 from hw5 ▸ hP4)
                have HW5 := Lib.hid hw5
                clear hb5 hO4 hb6 hP4 c0 c1 c2 c3 c4 hlt3 HP3 hw5
                go_wp2
                refine wp_region_textH (P5 77 wr.heap.size p) [(0, true), (1, true), (2, true), (3, true), (4, true), (5, true), (6, true), (7, true), (8, true), (9, false), (10, true), (11, true), (12, true), (13, true), (14, true), (16, true), (17, true), (15, false), (18, true), (19, true), (20, true), (21, true), (22, true), (23, true), (24, true), (25, true), (26, true), (27, true), (28, true), (29, true)] (by kernel_rfl) (by kernel_rfl) (by kernel_rfl) (by kernel_rfl) (HW5.out ▸ HP2.out) ?_
                rw [HW5.out]
                refine wpTxH_take rfl (by kernel_rfl) (v := ?_) ?_ ?_; rotate_left; · (intro w hS; obtain ⟨s0, s1, s2, s3, s4, _⟩ := hS.cells; go_simp; with_reducible rfl)
                refine wpTxH_take rfl (by kernel_rfl) (v := ?_) ?_ ?_; rotate_left; · (intro w hS; obtain ⟨s0, s1, s2, s3, s4, _⟩ := hS.cells; go_simp; with_reducible rfl)
                refine wpTxH_take rfl (by kernel_rfl) (v := ?_) ?_ ?_; rotate_left; · (intro w hS; obtain ⟨s0, s1, s2, s3, s4, _⟩ := hS.cells; go_simp; with_reducible rfl)
                refine wpTxH_take rfl (by kernel_rfl) (v := ?_) ?_ ?_; rotate_left; · (intro w hS; obtain ⟨s0, s1, s2, s3, s4, _⟩ := hS.cells; go_simp; with_reducible rfl)
                refine wpTxH_take rfl (by kernel_rfl) (v := ?_) ?_ ?_; rotate_left; · (intro w hS; obtain ⟨s0, s1, s2, s3, s4, _⟩ := hS.cells; go_simp; with_reducible rfl)
                refine wpTxH_take rfl (by kernel_rfl) (v := ?_) ?_ ?_; rotate_left; · (intro w hS; obtain ⟨s0, s1, s2, s3, s4, _⟩ := hS.cells; go_simp; with_reducible rfl)
                refine wpTxH_take rfl (by kernel_rfl) (v := ?_) ?_ ?_; rotate_left; · (intro w hS; obtain ⟨s0, s1, s2, s3, s4, _⟩ := hS.cells; go_simp; with_reducible rfl)
                refine wtxH_pass rfl (by kernel_rfl) ?_
                refine wtxH_pass rfl (by kernel_rfl) ?_
                refine wpTxH_step rfl (fun K hK => ?_)
                go_simp
                refine hK _ _ HP2.out ?_
                clear hK K
                refine wtxH_pass rfl (by kernel_rfl) ?_
                refine wpTxH_take rfl (by kernel_rfl) (v := ?_) ?_ ?_; rotate_left; · (intro w hS; obtain ⟨s0, s1, s2, s3, s4, _⟩ := hS.cells; go_simp; with_reducible rfl)
                refine wpTxH_take rfl (by kernel_rfl) (v := ?_) ?_ ?_; rotate_left; · (intro w hS; obtain ⟨s0, s1, s2, s3, s4, _⟩ := hS.cells; go_simp; with_reducible rfl)
                refine wtxH_pass rfl (by kernel_rfl) ?_
                refine wtxH_pass rfl (by kernel_rfl) ?_
                refine wtxH_pass rfl (by kernel_rfl) ?_
                refine wtxH_pass rfl (by kernel_rfl) ?_
                refine wpTxH_step rfl (fun K hK => ?_)
                go_simp
                refine hK _ _ HP2.out ?_
                clear hK K
                refine wtxH_pass rfl (by kernel_rfl) ?_
                refine wpTxH_take rfl (by kernel_rfl) (v := ?_) ?_ ?_; rotate_left; · (intro w hS; obtain ⟨s0, s1, s2, s3, s4, _⟩ := hS.cells; go_simp; with_reducible rfl)
                refine wpTxH_take rfl (by kernel_rfl) (v := ?_) ?_ ?_; rotate_left; · (intro w hS; obtain ⟨s0, s1, s2, s3, s4, _⟩ := hS.cells; go_simp; with_reducible rfl)
                refine wtxH_pass rfl (by kernel_rfl) ?_
                refine wtxH_pass rfl (by kernel_rfl) ?_
                refine wtxH_pass rfl (by kernel_rfl) ?_
                refine wtxH_pass rfl (by kernel_rfl) ?_
                refine wtxH_pass rfl (by kernel_rfl) ?_
                refine wtxH_pass rfl (by kernel_rfl) ?_
                refine wtxH_pass rfl (by kernel_rfl) ?_
                refine wtxH_pass rfl (by kernel_rfl) ?_
                refine wpTxH_take rfl (by kernel_rfl) (v := ?_) ?_ ?_; rotate_left; · (intro w hS; obtain ⟨s0, s1, s2, s3, s4, _⟩ := hS.cells; go_simp; with_reducible rfl)
                refine wpTxH_nil ?_
                go_simp
                go_wp2
                go_ret2
                unfold WrtPost
                rw [HR.out]
                exact ⟨rfl, HA2.out.2.trans (HBX.out.mono HA2.out.2.size)⟩
              | true =>
                have HQ2 := Lib.hid hq2
                clear hq2
                go_wp2_with fail
                refine (rquote_ok p.file _ (le_1t _ HX.out.2.2.2.2.2.2.2.2.1) HQ2.out).mono ?_
                rintro e w4 ⟨rfl, hb5⟩
                have hP4 := HP3.out.below hb5
                have hO4 := own_later HO3.out.1 hb5
                have hb6 := HO3.out.2.trans (hb5.mono HO3.out.2.size)
                obtain ⟨w5, hw5⟩ : ∃ w5, w4.drew = w5 := ⟨_, rfl⟩
                have HBX := Lib.hid (show Below w2.heap.size w2 w5 from hw5 ▸ hb6.drew)
                have HO4 := Lib.hid (show w5.ownsRow w2.heap.size 5 1 _ A0.length (Lib.byteCells A0) from hw5 ▸ own_later hO4 ((Below.refl _ w4).drew))
                have HP2 := Lib.hid (show P5 77 wr.heap.size p w5 from hw5 ▸ hP4)
                have HW5 := Lib.hid hw5
                clear hb5 hO4 hb6 hP4 c0 c1 c2 c3 c4 hlt3 HP3 hw5
                cases hq3 : isFld p.media with
                | false =>
                  have HQ3 := Lib.hid hq3
                  have HR := Lib.hid (HBAD.out (okP_q _ (okQ_media _ hq3)))
                  clear hq3
                  go_wp2
                  refine wp_region_textH (P5 77 wr.heap.size p) [(0, true), (1, true), (2, true), (3, true), (4, true), (5, true), (6, true), (7, true), (8, true), (9, false), (10, true), (11, true), (12, true), (13, true), (14, true), (16, true), (17, true), (15, false), (18, true), (19, true), (20, true), (21, true), (22, true), (23, true), (24, true), (25, true), (26, true), (27, true), (28, true), (29, true)] (by kernel_rfl) (by kernel_rfl) (by kernel_rfl) (by kernel_rfl) (HW5.out ▸ HP2.out) ?_
                  rw [HW5.out]
                  refine wpTxH_take rfl (by kernel_rfl) (v := ?_) ?_ ?_; rotate_left; · (intro w hS; obtain ⟨s0, s1, s2, s3, s4, _⟩ := hS.cells; go_simp; with_reducible rfl)
                  refine wpTxH_take rfl (by kernel_rfl) (v := ?_) ?_ ?_; rotate_left; · (intro w hS; obtain ⟨s0, s1, s2, s3, s4, _⟩ := hS.cells; go_simp; with_reducible rfl)
                  refine wpTxH_take rfl (by kernel_rfl) (v := ?_) ?_ ?_; rotate_left; · (intro w hS; obtain ⟨s0, s1, s2, s3, s4, _⟩ := hS.cells; go_simp; with_reducible rfl)
                  refine wpTxH_take rfl (by kernel_rfl) (v := ?_) ?_ ?_; rotate_left; · (intro w hS; obtain ⟨s0, s1, s2, s3, s4, _⟩ := hS.cells; go_simp; with_reducible rfl)
                  refine wpTxH_take rfl (by kernel_rfl) (v := ?_) ?_ ?_; rotate_left; · (intro w hS; obtain ⟨s0, s1, s2, s3, s4, _⟩ := hS.cells; go_simp; with_reducible rfl)
                  refine wpTxH_take rfl (by kernel_rfl) (v := ?_) ?_ ?_; rotate_left; · (intro w hS; obtain ⟨s0, s1, s2, s3, s4, _⟩ := hS.cells; go_simp; with_reducible rfl)
                  refine wpTxH_take rfl (by kernel_rfl) (v := ?_) ?_ ?_; rotate_left; · (intro w hS; obtain ⟨s0, s1, s2, s3, s4, _⟩ := hS.cells; go_simp; with_reducible rfl)
                  refine wpTxH_take rfl (by kernel_rfl) (v := ?_) ?_ ?_; rotate_left; · (intro w hS; obtain ⟨s0, s1, s2, s3, s4, _⟩ := hS.cells; go_simp; with_reducible rfl)
                  refine wpTxH_take rfl (by kernel_rfl) (v := ?_) ?_ ?_; rotate_left; · (intro w hS; obtain ⟨s0, s1, s2, s3, s4, _⟩ := hS.cells; go_simp; with_reducible rfl)
                  refine wpTxH_step rfl (fun K hK => ?_)
                  go_simp
                  refine (risfield_l p.media false HQ3.out _ (le_1t _ HX.out.2.2.2.2.2.2.2.2.2)).mono ?_
                  rintro e wq ⟨rfl, hwq⟩
                  rw [hwq]
                  clear hwq wq
                  refine hK _ _ HP2.out ?_
                  clear hK K
                  refine wpTxH_take rfl (by kernel_rfl) (v := ?_) ?_ ?_; rotate_left; · (intro w hS; obtain ⟨s0, s1, s2, s3, s4, _⟩ := hS.cells; go_simp; with_reducible rfl)
                  refine wpTxH_take rfl (by kernel_rfl) (v := ?_) ?_ ?_; rotate_left; · (intro w hS; obtain ⟨s0, s1, s2, s3, s4, _⟩ := hS.cells; go_simp; with_reducible rfl)
                  refine wpTxH_take rfl (by kernel_rfl) (v := ?_) ?_ ?_; rotate_left; · (intro w hS; obtain ⟨s0, s1, s2, s3, s4, _⟩ := hS.cells; go_simp; with_reducible rfl)
                  refine wtxH_pass rfl (by kernel_rfl) ?_
                  refine wtxH_pass rfl (by kernel_rfl) ?_
                  refine wtxH_pass rfl (by kernel_rfl) ?_
                  refine wtxH_pass rfl (by kernel_rfl) ?_
                  refine wpTxH_step rfl (fun K hK => ?_)
                  go_simp
                  refine hK _ _ HP2.out ?_
                  clear hK K
                  refine wtxH_pass rfl (by kernel_rfl) ?_
                  refine wpTxH_take rfl (by kernel_rfl) (v := ?_) ?_ ?_; rotate_left; · (intro w hS; obtain ⟨s0, s1, s2, s3, s4, _⟩ := hS.cells; go_simp; with_reducible rfl)
                  refine wpTxH_take rfl (by kernel_rfl) (v := ?_) ?_ ?_; rotate_left; · (intro w hS; obtain ⟨s0, s1, s2, s3, s4, _⟩ := hS.cells; go_simp; with_reducible rfl)
                  refine wtxH_pass rfl (by kernel_rfl) ?_
                  refine wtxH_pass rfl (by kernel_rfl) ?_
                  refine wtxH_pass rfl (by kernel_rfl) ?_
                  refine wtxH_pass rfl (by kernel_rfl) ?_
                  refine wtxH_pass rfl (by kernel_rfl) ?_
                  refine wtxH_pass rfl (by kernel_rfl) ?_
                  refine wtxH_pass rfl (by kernel_rfl) ?_
                  refine wtxH_pass rfl (by kernel_rfl) ?_
                  refine wpTxH_take rfl (by kernel_rfl) (v := ?_) ?_ ?_; rotate_left; · (intro w hS; obtain ⟨s0, s1, s2, s3, s4, _⟩ := hS.cells; go_simp; with_reducible rfl)
                  refine wpTxH_nil ?_
                  go_simp
                  go_wp2
                  go_ret2
                  unfold WrtPost
                  rw [HR.out]
                  exact ⟨rfl, HA2.out.2.trans (HBX.out.mono HA2.out.2.size)⟩
                | true =>
                  have HQ3 := Lib.hid hq3
                  clear hq3
                  by_cases hq4 : trimL p.media = p.media
                  · have HQ4 := Lib.hid hq4
                    clear hq4
                    cases hh : p.has with
                    | true =>
                      have HQ := Lib.hid (okQ_yes p HQ1.out HQ2.out HQ3.out HQ4.out (Or.inl hh))
                      go_wp2
                      refine wp_region_textH (P5 77 wr.heap.size p) [(0, true), (1, true), (2, true), (3, true), (4, true), (5, true), (6, true), (7, true), (8, true), (9, false), (10, true), (11, true), (12, true), (13, true), (14, true), (16, true), (17, true), (15, false), (18, true), (19, true), (20, true), (21, true), (22, true), (23, true), (24, true), (25, true), (26, true), (27, true), (28, true), (29, true)] (by kernel_rfl) (by kernel_rfl) (by kernel_rfl) (by kernel_rfl) (HW5.out ▸ HP2.out) ?_
                      rw [HW5.out]
                      refine wpTxH_take rfl (by kernel_rfl) (v := ?_) ?_ ?_; rotate_left; · (intro w hS; obtain ⟨s0, s1, s2, s3, s4, _⟩ := hS.cells; go_simp; with_reducible rfl)
                      refine wpTxH_take rfl (by kernel_rfl) (v := ?_) ?_ ?_; rotate_left; · (intro w hS; obtain ⟨s0, s1, s2, s3, s4, _⟩ := hS.cells; go_simp; with_reducible rfl)
                      refine wpTxH_take rfl (by kernel_rfl) (v := ?_) ?_ ?_; rotate_left; · (intro w hS; obtain ⟨s0, s1, s2, s3, s4, _⟩ := hS.cells; go_simp; with_reducible rfl)
                      refine wpTxH_take rfl (by kernel_rfl) (v := ?_) ?_ ?_; rotate_left; · (intro w hS; obtain ⟨s0, s1, s2, s3, s4, _⟩ := hS.cells; go_simp; with_reducible rfl)
                      refine wpTxH_take rfl (by kernel_rfl) (v := ?_) ?_ ?_; rotate_left; · (intro w hS; obtain ⟨s0, s1, s2, s3, s4, _⟩ := hS.cells; go_simp; with_reducible rfl)
                      refine wpTxH_take rfl (by kernel_rfl) (v := ?_) ?_ ?_; rotate_left; · (intro w hS; obtain ⟨s0, s1, s2, s3, s4, _⟩ := hS.cells; go_simp; with_reducible rfl)
                      refine wpTxH_take rfl (by kernel_rfl) (v := ?_) ?_ ?_; rotate_left; · (intro w hS; obtain ⟨s0, s1, s2, s3, s4, _⟩ := hS.cells; go_simp; with_reducible rfl)
                      refine wpTxH_take rfl (by kernel_rfl) (v := ?_) ?_ ?_; rotate_left; · (intro w hS; obtain ⟨s0, s1, s2, s3, s4, _⟩ := hS.cells; go_simp; with_reducible rfl)
                      refine wpTxH_take rfl (by kernel_rfl) (v := ?_) ?_ ?_; rotate_left; · (intro w hS; obtain ⟨s0, s1, s2, s3, s4, _⟩ := hS.cells; go_simp; with_reducible rfl)
                      refine wpTxH_step rfl (fun K hK => ?_)
                      go_simp
                      refine (risfield_l p.media true HQ3.out _ (le_1t _ HX.out.2.2.2.2.2.2.2.2.2)).mono ?_
                      rintro e wq ⟨rfl, hwq⟩
                      rw [hwq]
                      clear hwq wq
                      refine hK _ _ HP2.out ?_
                      clear hK K
                      refine wpTxH_take rfl (by kernel_rfl) (v := ?_) ?_ ?_; rotate_left; · (intro w hS; obtain ⟨s0, s1, s2, s3, s4, _⟩ := hS.cells; go_simp; with_reducible rfl)
                      refine wpTxH_take rfl (by kernel_rfl) (v := ?_) ?_ ?_; rotate_left; · (intro w hS; obtain ⟨s0, s1, s2, s3, s4, _⟩ := hS.cells; go_simp; with_reducible rfl)
                      refine wpTxH_take rfl (by kernel_rfl) (v := ?_) ?_ ?_; rotate_left; · (intro w hS; obtain ⟨s0, s1, s2, s3, s4, _⟩ := hS.cells; go_simp; with_reducible rfl)
                      refine wpTxH_take rfl (by kernel_rfl) (v := ?_) ?_ ?_; rotate_left; · (intro w hS; obtain ⟨s0, s1, s2, s3, s4, _⟩ := hS.cells; go_simp; with_reducible rfl)
                      refine wpTxH_take rfl (by kernel_rfl) (v := ?_) ?_ ?_; rotate_left; · (intro w hS; obtain ⟨s0, s1, s2, s3, s4, _⟩ := hS.cells; go_simp; with_reducible rfl)
                      refine wpTxH_take rfl (by kernel_rfl) (v := ?_) ?_ ?_; rotate_left; · (intro w hS; obtain ⟨s0, s1, s2, s3, s4, _⟩ := hS.cells; go_simp; with_reducible rfl)
                      refine wpTxH_take rfl (by kernel_rfl) (v := ?_) ?_ ?_; rotate_left; · (intro w hS; obtain ⟨s0, s1, s2, s3, s4, _⟩ := hS.cells; go_simp; with_reducible rfl)
                      refine wpTxH_step rfl (fun K hK => ?_)
                      go_simp
                      refine (rtrim_l p.media p.media HQ4.out _ (le_1t _ HX.out.2.2.2.2.2.2.2.2.2)).mono ?_
                      rintro e wq ⟨rfl, hwq⟩
                      rw [hwq]
                      clear hwq wq
                      refine hK _ _ HP2.out ?_
                      clear hK K
                      refine wpTxH_take rfl (by kernel_rfl) (v := ?_) ?_ ?_; rotate_left; · (intro w hS; obtain ⟨s0, s1, s2, s3, s4, _⟩ := hS.cells; go_simp; with_reducible rfl)
                      refine wpTxH_take rfl (by kernel_rfl) (v := ?_) ?_ ?_; rotate_left; · (intro w hS; obtain ⟨s0, s1, s2, s3, s4, _⟩ := hS.cells; go_simp; with_reducible rfl)
                      refine wpTxH_take rfl (by kernel_rfl) (v := ?_) ?_ ?_; rotate_left; · (intro w hS; obtain ⟨s0, s1, s2, s3, s4, _⟩ := hS.cells; go_simp; with_reducible rfl)
                      refine wpTxH_take rfl (by kernel_rfl) (v := ?_) ?_ ?_; rotate_left; · (intro w hS; obtain ⟨s0, s1, s2, s3, s4, _⟩ := hS.cells; go_simp; with_reducible rfl)
                      refine wpTxH_take rfl (by kernel_rfl) (v := ?_) ?_ ?_; rotate_left; · (intro w hS; obtain ⟨s0, s1, s2, s3, s4, _⟩ := hS.cells; go_simp; with_reducible rfl)
                      refine wpTxH_take rfl (by kernel_rfl) (v := ?_) ?_ ?_; rotate_left; · (intro w hS; obtain ⟨s0, s1, s2, s3, s4, _⟩ := hS.cells; go_simp; with_reducible rfl)
                      refine wpTxH_take rfl (by kernel_rfl) (v := ?_) ?_ ?_; rotate_left; · (intro w hS; obtain ⟨s0, s1, s2, s3, s4, _⟩ := hS.cells; go_simp; with_reducible rfl)
                      refine wtxH_pass rfl (by kernel_rfl) ?_
                      refine wtxH_pass rfl (by kernel_rfl) ?_
                      refine wtxH_pass rfl (by kernel_rfl) ?_
                      refine wpTxH_take rfl (by kernel_rfl) (v := ?_) ?_ ?_; rotate_left; · (intro w hS; obtain ⟨s0, s1, s2, s3, s4, _⟩ := hS.cells; go_simp; with_reducible rfl)
                      refine wpTxH_take rfl (by kernel_rfl) (v := ?_) ?_ ?_; rotate_left; · (intro w hS; obtain ⟨s0, s1, s2, s3, s4, _⟩ := hS.cells; go_simp; with_reducible rfl)
                      refine wpTxH_nil ?_
                      go_simp
                      obtain ⟨D1, hD1⟩ : ∃ D1, fdB ++ qtL p.name = D1 := ⟨_, rfl⟩
                      obtain ⟨E1, hE1⟩ : ∃ E1, fnB ++ qtL p.file = E1 := ⟨_, rfl⟩
                      obtain ⟨V, hln⟩ : ∃ ln, D1 ++ E1 = ln := ⟨_, rfl⟩
                      have g2 := cat_fd _ D1 hD1
                      have g3 := cat_fn _ E1 hE1
                      have g4 := cat_ab D1 E1 V hln
                      have hll : valL p = V := by rw [val_has p hh, hD1, hE1, hln]
                      have n1 := qtL_len p.name
                      have n2 := qtL_len p.file
                      have n3 := fd_len _ D1 hD1
                      have n4 := e1_len _ E1 hE1
                      have n5 := HX.out.2.2.2.2.2.2.2.1
                      have n6 := HX.out.2.2.2.2.2.2.2.2.1
                      have n7 : V.length = D1.length + E1.length := by rw [← hln, List.length_append]
                      have z2 := nof 16 (qtL p.name).length (by decide) (by omega)
                      have z3 := nof 11 (qtL p.file).length (by decide) (by omega)
                      have z4 := nof D1.length E1.length (by omega) (by omega)
                      have hln8 : V.length ≤ 8388608 := by omega
                      clear n1 n2 n3 n4 n5 n6 n7 hD1 hE1 hln
                      obtain ⟨hd, hhd⟩ : ∃ hd, t ++ [13, 10] = hd := ⟨_, rfl⟩
                      obtain ⟨x1, hx1⟩ : ∃ x1, hd ++ cdB = x1 := ⟨_, rfl⟩
                      obtain ⟨vc, hlc⟩ : ∃ vc, V ++ [13, 10] = vc := ⟨_, rfl⟩
                      obtain ⟨b1, hb1⟩ : ∃ b1, 13 :: 10 :: p.body = b1 := ⟨_, rfl⟩
                      obtain ⟨b2, hb2⟩ : ∃ b2, b1 ++ [13, 10] = b2 := ⟨_, rfl⟩
                      have g5 := cat_nl V vc hlc
                      have g6 := cat_nl t hd hhd
                      have g11 := cat_hc hd x1 hx1
                      have g7 := cat_ln p.body b1 hb1
                      have g8 := cat_nl b1 b2 hb2
                      have htl : t.length ≤ 100 := by rw [← HBT.out.2.2.2.2]; simp only [List.length_cons]; omega
                      have hlens := lens3 A0 t hd x1 V vc p.body b1 b2 HAB.out htl hhd hx1 hlc hln8 HX.out.2.2.2.2.2.2.1 hb1 hb2
                      have z5 := nof V.length 2 (Nat.le_trans hln8 (by decide)) (by decide)
                      have z6 := nof t.length 2 (Nat.le_trans htl (by decide)) (by decide)
                      have z7 := nof 2 p.body.length (by decide) (Nat.le_trans HX.out.2.2.2.2.2.2.1 (by decide))
                      have z8 := nof b1.length 2 hlens.2.2.2.2.2.1 (by decide)
                      have z11 := nof hd.length 21 hlens.2.2.2.2.2.2.1 (by decide)
                      have HLEN := Lib.hid hlens
                      clear hlens
                      by_cases hv : 8192 < V.length
                      · have HR := Lib.hid (HBAD.out (okP_big p HQ.out (by rw [hll]; exact hv)))
                        have j1 : (8192 : Int) < (V.length : Int) := by omega
                        clear hhd hx1 hlc hb1 hb2 hll htl hln8 hv
                        obtain ⟨c0, c1, c2, c3, c4, hl5⟩ := HP2.out.cells
                        go_wp2_with (at_builtin; refine Lib.wpList_append_own_string _ rfl (.tmp 78) (.tmp 82) 94 9 rfl w2.heap.size 5 i0 Tryz.underlying94 Tryz.underlying9 hi0 hz0 hz1 hz2 _ _ _ rfl HO4.out _ rfl ?ka1 ?kb1 HBX.out.size ?_)
                        case ka1 => rw [size_mk]; exact le_max2 _ _ HLEN.out.2.2.2.2.2.2.2 HLEN.out.1
                        case kb1 => rw [size_mk]; exact len_ok _ _ HLEN.out.2.2.2.2.2.2.2 HLEN.out.1
                        intro vw6 w6 hI hgq _
                        have hB := HBX.out.grown hgq HBX.out.size (fun j hj => (HO4.out.lt j hj).1)
                        have hP := HP2.out.keeps (Keeps.grown HO4.out hgq) (by decide) (by decide)
                        (try rw [size_mk] at hI)
                        have hO : w6.ownsRow w2.heap.size 5 1 vw6 (A0 ++ x1).length (Lib.byteCells (A0 ++ x1)) := by
                          simpa only [List.length_append, List.append_assoc, Nat.add_assoc, Lib.byteCells_append, strCells_l2] using hI
                        have HO4 := Lib.hid hO
                        have HP2 := Lib.hid hP
                        have HBX := Lib.hid hB
                        clear hI hgq hB hP hO
                        clear c0 c1 c2 c3 c4 hl5
                        obtain ⟨c0, c1, c2, c3, c4, hl5⟩ := HP2.out.cells
                        go_wp2
                        go_ret2
                        unfold WrtPost
                        rw [HR.out]
                        exact ⟨rfl, HA2.out.2.trans (HBX.out.mono HA2.out.2.size)⟩
                      · have j1 : (V.length : Int) ≤ 8192 := by omega
                        by_cases hmb : 8192 < p.media.length
                        · have HR := Lib.hid (HBAD.out (okP_med p HQ.out hmb))
                          have j2 : (8192 : Int) < (p.media.length : Int) := by omega
                          clear hhd hx1 hlc hb1 hb2 hll htl hln8 hv hmb
                          obtain ⟨c0, c1, c2, c3, c4, hl5⟩ := HP2.out.cells
                          go_wp2_with (at_builtin; refine Lib.wpList_append_own_string _ rfl (.tmp 78) (.tmp 82) 94 9 rfl w2.heap.size 5 i0 Tryz.underlying94 Tryz.underlying9 hi0 hz0 hz1 hz2 _ _ _ rfl HO4.out _ rfl ?ka2 ?kb2 HBX.out.size ?_)
                          case ka2 => rw [size_mk]; exact le_max2 _ _ HLEN.out.2.2.2.2.2.2.2 HLEN.out.1
                          case kb2 => rw [size_mk]; exact len_ok _ _ HLEN.out.2.2.2.2.2.2.2 HLEN.out.1
                          intro vw6 w6 hI hgq _
                          have hB := HBX.out.grown hgq HBX.out.size (fun j hj => (HO4.out.lt j hj).1)
                          have hP := HP2.out.keeps (Keeps.grown HO4.out hgq) (by decide) (by decide)
                          (try rw [size_mk] at hI)
                          have hO : w6.ownsRow w2.heap.size 5 1 vw6 (A0 ++ x1).length (Lib.byteCells (A0 ++ x1)) := by
                            simpa only [List.length_append, List.append_assoc, Nat.add_assoc, Lib.byteCells_append, strCells_l2] using hI
                          have HO4 := Lib.hid hO
                          have HP2 := Lib.hid hP
                          have HBX := Lib.hid hB
                          clear hI hgq hB hP hO
                          clear c0 c1 c2 c3 c4 hl5
                          obtain ⟨c0, c1, c2, c3, c4, hl5⟩ := HP2.out.cells
                          go_wp2
                          go_ret2
                          unfold WrtPost
                          rw [HR.out]
                          exact ⟨rfl, HA2.out.2.trans (HBX.out.mono HA2.out.2.size)⟩
                        · have j2 : (p.media.length : Int) ≤ 8192 := by omega
                          have HOK := Lib.hid (okP_yes p HQ.out (by rw [hll]; omega) (by omega))
                          by_cases hmd : p.media = []
                          · have HFIN := Lib.hid (fin3 B t hd x1 V vc b1 b2 p HBT.out.2.2.1 hhd hx1 hll hlc (med_not p hmd) hb1 hb2 A0)
                            clear hhd hx1 hlc hb1 hb2 hll htl hln8 hv hmb
                            obtain ⟨c0, c1, c2, c3, c4, hl5⟩ := HP2.out.cells
                            go_wp2_with (at_builtin; refine Lib.wpList_append_own_string _ rfl (.tmp 78) (.tmp 82) 94 9 rfl w2.heap.size 5 i0 Tryz.underlying94 Tryz.underlying9 hi0 hz0 hz1 hz2 _ _ _ rfl HO4.out _ rfl ?ka3 ?kb3 HBX.out.size ?_)
                            case ka3 => rw [size_mk]; exact le_max2 _ _ HLEN.out.2.2.2.2.2.2.2 HLEN.out.1
                            case kb3 => rw [size_mk]; exact len_ok _ _ HLEN.out.2.2.2.2.2.2.2 HLEN.out.1
                            intro vw6 w6 hI hgq _
                            have hB := HBX.out.grown hgq HBX.out.size (fun j hj => (HO4.out.lt j hj).1)
                            have hP := HP2.out.keeps (Keeps.grown HO4.out hgq) (by decide) (by decide)
                            (try rw [size_mk] at hI)
                            have hO : w6.ownsRow w2.heap.size 5 1 vw6 (A0 ++ x1).length (Lib.byteCells (A0 ++ x1)) := by
                              simpa only [List.length_append, List.append_assoc, Nat.add_assoc, Lib.byteCells_append, strCells_l2] using hI
                            have HO4 := Lib.hid hO
                            have HP2 := Lib.hid hP
                            have HBX := Lib.hid hB
                            clear hI hgq hB hP hO
                            clear c0 c1 c2 c3 c4 hl5
                            obtain ⟨c0, c1, c2, c3, c4, hl5⟩ := HP2.out.cells
                            go_wp2_with (at_builtin; refine Lib.wpList_append_own_string _ rfl (.tmp 101) (.tmp 103) 94 9 rfl w2.heap.size 5 i0 Tryz.underlying94 Tryz.underlying9 hi0 hz0 hz1 hz2 _ _ _ rfl HO4.out _ rfl ?ka4 ?kb4 HBX.out.size ?_)
                            case ka4 => rw [size_mk]; exact le_max2 _ _ HLEN.out.2.1 HLEN.out.2.2.1
                            case kb4 => rw [size_mk]; exact len_ok _ _ HLEN.out.2.1 HLEN.out.2.2.1
                            intro vw7 w7 hI hgq _
                            have hB := HBX.out.grown hgq HBX.out.size (fun j hj => (HO4.out.lt j hj).1)
                            have hP := HP2.out.keeps (Keeps.grown HO4.out hgq) (by decide) (by decide)
                            (try rw [size_mk] at hI)
                            have hO : w7.ownsRow w2.heap.size 5 1 vw7 ((A0 ++ x1) ++ vc).length (Lib.byteCells ((A0 ++ x1) ++ vc)) := by
                              simpa only [List.length_append, List.append_assoc, Nat.add_assoc, Lib.byteCells_append, strCells_l2] using hI
                            have HO4 := Lib.hid hO
                            have HP2 := Lib.hid hP
                            have HBX := Lib.hid hB
                            clear hI hgq hB hP hO
                            clear c0 c1 c2 c3 c4 hl5
                            obtain ⟨c0, c1, c2, c3, c4, hl5⟩ := HP2.out.cells
                            go_wp2_with (at_builtin; refine Lib.wpList_append_own_string _ rfl (.tmp 114) (.tmp 118) 94 9 rfl w2.heap.size 5 i0 Tryz.underlying94 Tryz.underlying9 hi0 hz0 hz1 hz2 _ _ _ rfl HO4.out _ rfl ?ka5 ?kb5 HBX.out.size ?_)
                            case ka5 => rw [size_mk]; exact le_max2 _ _ HLEN.out.2.2.2.1 HLEN.out.2.2.2.2.1
                            case kb5 => rw [size_mk]; exact len_ok _ _ HLEN.out.2.2.2.1 HLEN.out.2.2.2.2.1
                            intro vw8 w8 hI hgq _
                            have hB := HBX.out.grown hgq HBX.out.size (fun j hj => (HO4.out.lt j hj).1)
                            have hP := HP2.out.keeps (Keeps.grown HO4.out hgq) (by decide) (by decide)
                            (try rw [size_mk] at hI)
                            have hO : w8.ownsRow w2.heap.size 5 1 vw8 ((A0 ++ x1 ++ vc) ++ b2).length (Lib.byteCells ((A0 ++ x1 ++ vc) ++ b2)) := by
                              simpa only [List.length_append, List.append_assoc, Nat.add_assoc, Lib.byteCells_append, strCells_l2] using hI
                            have HO4 := Lib.hid hO
                            have HP2 := Lib.hid hP
                            have HBX := Lib.hid hB
                            clear hI hgq hB hP hO
                            go_wp2
                            have hwi := HX.out.2.2.2.2.2.1
                            go_roundw
                            case rel => (try rw [hwi]); clear hwi; exact ⟨i + 1, by go_num, hlt, take_all okP l i p HX.out.2.2.2.1 HX.out.2.2.2.2.1 HOK.out, by rw [HTK.out, HFIN.out]; exact HO4.out, HBX.out⟩
                            case measure => (try rw [hwi]); clear hwi; simp [intOf]; omega
                          · obtain ⟨M, hM⟩ : ∃ M, ctB ++ p.media = M := ⟨_, rfl⟩
                            obtain ⟨mc, hmc⟩ : ∃ mc, M ++ [13, 10] = mc := ⟨_, rfl⟩
                            have g9 := cat_ct p.media M hM
                            have g10 := cat_nl M mc hmc
                            have hlens2 := lens4 A0 t hd x1 V vc p.media M mc HAB.out htl hhd hx1 hlc hln8 HX.out.2.2.2.2.2.2.2.2.2 hM hmc
                            have z9 := nof 14 p.media.length (by decide) (Nat.le_trans HX.out.2.2.2.2.2.2.2.2.2 (by decide))
                            have z10 := nof M.length 2 (Nat.le_trans hlens2.1 (by decide)) (by decide)
                            have HLEN2 := Lib.hid hlens2
                            have hme : p.media.isEmpty = false := by
                              cases hc : p.media with
                              | nil => exact absurd hc hmd
                              | cons => rfl
                            have HFIN := Lib.hid (fin4 B t hd x1 V vc M mc b1 b2 p HBT.out.2.2.1 hhd hx1 hll hlc hM hmc (med_yes p hmd) hb1 hb2 A0)
                            clear hhd hx1 hlc hb1 hb2 hll htl hln8 hv hmb hM hmc hlens2
                            obtain ⟨c0, c1, c2, c3, c4, hl5⟩ := HP2.out.cells
                            go_wp2_with (at_builtin; refine Lib.wpList_append_own_string _ rfl (.tmp 78) (.tmp 82) 94 9 rfl w2.heap.size 5 i0 Tryz.underlying94 Tryz.underlying9 hi0 hz0 hz1 hz2 _ _ _ rfl HO4.out _ rfl ?ka6 ?kb6 HBX.out.size ?_)
                            case ka6 => rw [size_mk]; exact le_max2 _ _ HLEN.out.2.2.2.2.2.2.2 HLEN.out.1
                            case kb6 => rw [size_mk]; exact len_ok _ _ HLEN.out.2.2.2.2.2.2.2 HLEN.out.1
                            intro vw6 w6 hI hgq _
                            have hB := HBX.out.grown hgq HBX.out.size (fun j hj => (HO4.out.lt j hj).1)
                            have hP := HP2.out.keeps (Keeps.grown HO4.out hgq) (by decide) (by decide)
                            (try rw [size_mk] at hI)
                            have hO : w6.ownsRow w2.heap.size 5 1 vw6 (A0 ++ x1).length (Lib.byteCells (A0 ++ x1)) := by
                              simpa only [List.length_append, List.append_assoc, Nat.add_assoc, Lib.byteCells_append, strCells_l2] using hI
                            have HO4 := Lib.hid hO
                            have HP2 := Lib.hid hP
                            have HBX := Lib.hid hB
                            clear hI hgq hB hP hO
                            clear c0 c1 c2 c3 c4 hl5
                            obtain ⟨c0, c1, c2, c3, c4, hl5⟩ := HP2.out.cells
                            go_wp2_with (at_builtin; refine Lib.wpList_append_own_string _ rfl (.tmp 101) (.tmp 103) 94 9 rfl w2.heap.size 5 i0 Tryz.underlying94 Tryz.underlying9 hi0 hz0 hz1 hz2 _ _ _ rfl HO4.out _ rfl ?ka7 ?kb7 HBX.out.size ?_)
                            case ka7 => rw [size_mk]; exact le_max2 _ _ HLEN.out.2.1 HLEN.out.2.2.1
                            case kb7 => rw [size_mk]; exact len_ok _ _ HLEN.out.2.1 HLEN.out.2.2.1
                            intro vw7 w7 hI hgq _
                            have hB := HBX.out.grown hgq HBX.out.size (fun j hj => (HO4.out.lt j hj).1)
                            have hP := HP2.out.keeps (Keeps.grown HO4.out hgq) (by decide) (by decide)
                            (try rw [size_mk] at hI)
                            have hO : w7.ownsRow w2.heap.size 5 1 vw7 ((A0 ++ x1) ++ vc).length (Lib.byteCells ((A0 ++ x1) ++ vc)) := by
                              simpa only [List.length_append, List.append_assoc, Nat.add_assoc, Lib.byteCells_append, strCells_l2] using hI
                            have HO4 := Lib.hid hO
                            have HP2 := Lib.hid hP
                            have HBX := Lib.hid hB
                            clear hI hgq hB hP hO
                            clear c0 c1 c2 c3 c4 hl5
                            obtain ⟨c0, c1, c2, c3, c4, hl5⟩ := HP2.out.cells
                            go_wp2_with (at_builtin; refine Lib.wpList_append_own_string _ rfl (.tmp 108) (.tmp 112) 94 9 rfl w2.heap.size 5 i0 Tryz.underlying94 Tryz.underlying9 hi0 hz0 hz1 hz2 _ _ _ rfl HO4.out _ rfl ?ka8 ?kb8 HBX.out.size ?_)
                            case ka8 => rw [size_mk]; exact le_max2 _ _ HLEN.out.2.2.2.1 HLEN2.out.2.1
                            case kb8 => rw [size_mk]; exact len_ok _ _ HLEN.out.2.2.2.1 HLEN2.out.2.1
                            intro vw8 w8 hI hgq _
                            have hB := HBX.out.grown hgq HBX.out.size (fun j hj => (HO4.out.lt j hj).1)
                            have hP := HP2.out.keeps (Keeps.grown HO4.out hgq) (by decide) (by decide)
                            (try rw [size_mk] at hI)
                            have hO : w8.ownsRow w2.heap.size 5 1 vw8 ((A0 ++ x1 ++ vc) ++ mc).length (Lib.byteCells ((A0 ++ x1 ++ vc) ++ mc)) := by
                              simpa only [List.length_append, List.append_assoc, Nat.add_assoc, Lib.byteCells_append, strCells_l2] using hI
                            have HO4 := Lib.hid hO
                            have HP2 := Lib.hid hP
                            have HBX := Lib.hid hB
                            clear hI hgq hB hP hO
                            clear c0 c1 c2 c3 c4 hl5
                            obtain ⟨c0, c1, c2, c3, c4, hl5⟩ := HP2.out.cells
                            go_wp2_with (at_builtin; refine Lib.wpList_append_own_string _ rfl (.tmp 114) (.tmp 118) 94 9 rfl w2.heap.size 5 i0 Tryz.underlying94 Tryz.underlying9 hi0 hz0 hz1 hz2 _ _ _ rfl HO4.out _ rfl ?ka9 ?kb9 HBX.out.size ?_)
                            case ka9 => rw [size_mk]; exact le_max2 _ _ HLEN2.out.2.2 HLEN.out.2.2.2.2.1
                            case kb9 => rw [size_mk]; exact len_ok _ _ HLEN2.out.2.2 HLEN.out.2.2.2.2.1
                            intro vw9 w9 hI hgq _
                            have hB := HBX.out.grown hgq HBX.out.size (fun j hj => (HO4.out.lt j hj).1)
                            have hP := HP2.out.keeps (Keeps.grown HO4.out hgq) (by decide) (by decide)
                            (try rw [size_mk] at hI)
                            have hO : w9.ownsRow w2.heap.size 5 1 vw9 ((A0 ++ x1 ++ vc ++ mc) ++ b2).length (Lib.byteCells ((A0 ++ x1 ++ vc ++ mc) ++ b2)) := by
                              simpa only [List.length_append, List.append_assoc, Nat.add_assoc, Lib.byteCells_append, strCells_l2] using hI
                            have HO4 := Lib.hid hO
                            have HP2 := Lib.hid hP
                            have HBX := Lib.hid hB
                            clear hI hgq hB hP hO
                            go_wp2
                            have hwi := HX.out.2.2.2.2.2.1
                            go_roundw
                            case rel => (try rw [hwi]); clear hwi; exact ⟨i + 1, by go_num, hlt, take_all okP l i p HX.out.2.2.2.1 HX.out.2.2.2.2.1 HOK.out, by rw [HTK.out, HFIN.out]; exact HO4.out, HBX.out⟩
                            case measure => (try rw [hwi]); clear hwi; simp [intOf]; omega
                    | false =>
                      by_cases hf : p.file = []
                      · have HQ := Lib.hid (okQ_yes p HQ1.out HQ2.out HQ3.out HQ4.out (Or.inr hf))
                        go_wp2
                        refine wp_region_textH (P5 77 wr.heap.size p) [(0, true), (1, true), (2, true), (3, true), (4, true), (5, true), (6, true), (7, true), (8, true), (9, false), (10, true), (11, true), (12, true), (13, true), (14, true), (16, true), (17, true), (15, false), (18, true), (19, true), (20, true), (21, true), (22, true), (23, true), (24, true), (25, true), (26, true), (27, true), (28, true), (29, true)] (by kernel_rfl) (by kernel_rfl) (by kernel_rfl) (by kernel_rfl) (HW5.out ▸ HP2.out) ?_
                        rw [HW5.out]
                        refine wpTxH_take rfl (by kernel_rfl) (v := ?_) ?_ ?_; rotate_left; · (intro w hS; obtain ⟨s0, s1, s2, s3, s4, _⟩ := hS.cells; go_simp; with_reducible rfl)
                        refine wpTxH_take rfl (by kernel_rfl) (v := ?_) ?_ ?_; rotate_left; · (intro w hS; obtain ⟨s0, s1, s2, s3, s4, _⟩ := hS.cells; go_simp; with_reducible rfl)
                        refine wpTxH_take rfl (by kernel_rfl) (v := ?_) ?_ ?_; rotate_left; · (intro w hS; obtain ⟨s0, s1, s2, s3, s4, _⟩ := hS.cells; go_simp; with_reducible rfl)
                        refine wpTxH_take rfl (by kernel_rfl) (v := ?_) ?_ ?_; rotate_left; · (intro w hS; obtain ⟨s0, s1, s2, s3, s4, _⟩ := hS.cells; go_simp; with_reducible rfl)
                        refine wpTxH_take rfl (by kernel_rfl) (v := ?_) ?_ ?_; rotate_left; · (intro w hS; obtain ⟨s0, s1, s2, s3, s4, _⟩ := hS.cells; go_simp; with_reducible rfl)
                        refine wpTxH_take rfl (by kernel_rfl) (v := ?_) ?_ ?_; rotate_left; · (intro w hS; obtain ⟨s0, s1, s2, s3, s4, _⟩ := hS.cells; go_simp; with_reducible rfl)
                        refine wpTxH_take rfl (by kernel_rfl) (v := ?_) ?_ ?_; rotate_left; · (intro w hS; obtain ⟨s0, s1, s2, s3, s4, _⟩ := hS.cells; go_simp; with_reducible rfl)
                        refine wpTxH_take rfl (by kernel_rfl) (v := ?_) ?_ ?_; rotate_left; · (intro w hS; obtain ⟨s0, s1, s2, s3, s4, _⟩ := hS.cells; go_simp; with_reducible rfl)
                        refine wpTxH_take rfl (by kernel_rfl) (v := ?_) ?_ ?_; rotate_left; · (intro w hS; obtain ⟨s0, s1, s2, s3, s4, _⟩ := hS.cells; go_simp; with_reducible rfl)
                        refine wpTxH_step rfl (fun K hK => ?_)
                        go_simp
                        refine (risfield_l p.media true HQ3.out _ (le_1t _ HX.out.2.2.2.2.2.2.2.2.2)).mono ?_
                        rintro e wq ⟨rfl, hwq⟩
                        rw [hwq]
                        clear hwq wq
                        refine hK _ _ HP2.out ?_
                        clear hK K
                        refine wpTxH_take rfl (by kernel_rfl) (v := ?_) ?_ ?_; rotate_left; · (intro w hS; obtain ⟨s0, s1, s2, s3, s4, _⟩ := hS.cells; go_simp; with_reducible rfl)
                        refine wpTxH_take rfl (by kernel_rfl) (v := ?_) ?_ ?_; rotate_left; · (intro w hS; obtain ⟨s0, s1, s2, s3, s4, _⟩ := hS.cells; go_simp; with_reducible rfl)
                        refine wpTxH_take rfl (by kernel_rfl) (v := ?_) ?_ ?_; rotate_left; · (intro w hS; obtain ⟨s0, s1, s2, s3, s4, _⟩ := hS.cells; go_simp; with_reducible rfl)
                        refine wpTxH_take rfl (by kernel_rfl) (v := ?_) ?_ ?_; rotate_left; · (intro w hS; obtain ⟨s0, s1, s2, s3, s4, _⟩ := hS.cells; go_simp; with_reducible rfl)
                        refine wpTxH_take rfl (by kernel_rfl) (v := ?_) ?_ ?_; rotate_left; · (intro w hS; obtain ⟨s0, s1, s2, s3, s4, _⟩ := hS.cells; go_simp; with_reducible rfl)
                        refine wpTxH_take rfl (by kernel_rfl) (v := ?_) ?_ ?_; rotate_left; · (intro w hS; obtain ⟨s0, s1, s2, s3, s4, _⟩ := hS.cells; go_simp; with_reducible rfl)
                        refine wpTxH_take rfl (by kernel_rfl) (v := ?_) ?_ ?_; rotate_left; · (intro w hS; obtain ⟨s0, s1, s2, s3, s4, _⟩ := hS.cells; go_simp; with_reducible rfl)
                        refine wpTxH_step rfl (fun K hK => ?_)
                        go_simp
                        refine (rtrim_l p.media p.media HQ4.out _ (le_1t _ HX.out.2.2.2.2.2.2.2.2.2)).mono ?_
                        rintro e wq ⟨rfl, hwq⟩
                        rw [hwq]
                        clear hwq wq
                        refine hK _ _ HP2.out ?_
                        clear hK K
                        refine wpTxH_take rfl (by kernel_rfl) (v := ?_) ?_ ?_; rotate_left; · (intro w hS; obtain ⟨s0, s1, s2, s3, s4, _⟩ := hS.cells; go_simp; with_reducible rfl)
                        refine wpTxH_take rfl (by kernel_rfl) (v := ?_) ?_ ?_; rotate_left; · (intro w hS; obtain ⟨s0, s1, s2, s3, s4, _⟩ := hS.cells; go_simp; with_reducible rfl)
                        refine wpTxH_take rfl (by kernel_rfl) (v := ?_) ?_ ?_; rotate_left; · (intro w hS; obtain ⟨s0, s1, s2, s3, s4, _⟩ := hS.cells; go_simp; with_reducible rfl)
                        refine wpTxH_take rfl (by kernel_rfl) (v := ?_) ?_ ?_; rotate_left; · (intro w hS; obtain ⟨s0, s1, s2, s3, s4, _⟩ := hS.cells; go_simp; with_reducible rfl)
                        refine wpTxH_take rfl (by kernel_rfl) (v := ?_) ?_ ?_; rotate_left; · (intro w hS; obtain ⟨s0, s1, s2, s3, s4, _⟩ := hS.cells; go_simp; with_reducible rfl)
                        refine wpTxH_take rfl (by kernel_rfl) (v := ?_) ?_ ?_; rotate_left; · (intro w hS; obtain ⟨s0, s1, s2, s3, s4, _⟩ := hS.cells; go_simp; with_reducible rfl)
                        refine wpTxH_take rfl (by kernel_rfl) (v := ?_) ?_ ?_; rotate_left; · (intro w hS; obtain ⟨s0, s1, s2, s3, s4, _⟩ := hS.cells; go_simp; with_reducible rfl)
                        refine wpTxH_take rfl (by kernel_rfl) (v := ?_) ?_ ?_; rotate_left; · (intro w hS; obtain ⟨s0, s1, s2, s3, s4, _⟩ := hS.cells; go_simp; with_reducible rfl)
                        refine wpTxH_take rfl (by kernel_rfl) (v := ?_) ?_ ?_; rotate_left; · (intro w hS; obtain ⟨s0, s1, s2, s3, s4, _⟩ := hS.cells; go_simp; with_reducible rfl)
                        refine wpTxH_take rfl (by kernel_rfl) (v := ?_) ?_ ?_; rotate_left; · (intro w hS; obtain ⟨s0, s1, s2, s3, s4, _⟩ := hS.cells; go_simp; with_reducible rfl)
                        refine wpTxH_take rfl (by kernel_rfl) (v := ?_) ?_ ?_; rotate_left; · (intro w hS; obtain ⟨s0, s1, s2, s3, s4, _⟩ := hS.cells; go_simp; with_reducible rfl)
                        refine wpTxH_take rfl (by kernel_rfl) (v := ?_) ?_ ?_; rotate_left; · (intro w hS; obtain ⟨s0, s1, s2, s3, s4, _⟩ := hS.cells; go_simp; with_reducible rfl)
                        refine wpTxH_nil ?_
                        go_simp
                        obtain ⟨V, hD1⟩ : ∃ D1, fdB ++ qtL p.name = D1 := ⟨_, rfl⟩
                        have g2 := cat_fd _ V hD1
                        have hll : valL p = V := by rw [val_not p hh, hD1]
                        have n1 := qtL_len p.name
                        have n3 := fd_len _ V hD1
                        have n5 := HX.out.2.2.2.2.2.2.2.1
                        have z2 := nof 16 (qtL p.name).length (by decide) (by omega)
                        have hln8 : V.length ≤ 8388608 := by omega
                        clear n1 n3 n5 hD1
                        obtain ⟨hd, hhd⟩ : ∃ hd, t ++ [13, 10] = hd := ⟨_, rfl⟩
                        obtain ⟨x1, hx1⟩ : ∃ x1, hd ++ cdB = x1 := ⟨_, rfl⟩
                        obtain ⟨vc, hlc⟩ : ∃ vc, V ++ [13, 10] = vc := ⟨_, rfl⟩
                        obtain ⟨b1, hb1⟩ : ∃ b1, 13 :: 10 :: p.body = b1 := ⟨_, rfl⟩
                        obtain ⟨b2, hb2⟩ : ∃ b2, b1 ++ [13, 10] = b2 := ⟨_, rfl⟩
                        have g5 := cat_nl V vc hlc
                        have g6 := cat_nl t hd hhd
                        have g11 := cat_hc hd x1 hx1
                        have g7 := cat_ln p.body b1 hb1
                        have g8 := cat_nl b1 b2 hb2
                        have htl : t.length ≤ 100 := by rw [← HBT.out.2.2.2.2]; simp only [List.length_cons]; omega
                        have hlens := lens3 A0 t hd x1 V vc p.body b1 b2 HAB.out htl hhd hx1 hlc hln8 HX.out.2.2.2.2.2.2.1 hb1 hb2
                        have z5 := nof V.length 2 (Nat.le_trans hln8 (by decide)) (by decide)
                        have z6 := nof t.length 2 (Nat.le_trans htl (by decide)) (by decide)
                        have z7 := nof 2 p.body.length (by decide) (Nat.le_trans HX.out.2.2.2.2.2.2.1 (by decide))
                        have z8 := nof b1.length 2 hlens.2.2.2.2.2.1 (by decide)
                        have z11 := nof hd.length 21 hlens.2.2.2.2.2.2.1 (by decide)
                        have HLEN := Lib.hid hlens
                        clear hlens
                        by_cases hv : 8192 < V.length
                        · have HR := Lib.hid (HBAD.out (okP_big p HQ.out (by rw [hll]; exact hv)))
                          have j1 : (8192 : Int) < (V.length : Int) := by omega
                          clear hhd hx1 hlc hb1 hb2 hll htl hln8 hv
                          obtain ⟨c0, c1, c2, c3, c4, hl5⟩ := HP2.out.cells
                          go_wp2_with (at_builtin; refine Lib.wpList_append_own_string _ rfl (.tmp 78) (.tmp 82) 94 9 rfl w2.heap.size 5 i0 Tryz.underlying94 Tryz.underlying9 hi0 hz0 hz1 hz2 _ _ _ rfl HO4.out _ rfl ?ka10 ?kb10 HBX.out.size ?_)
                          case ka10 => rw [size_mk]; exact le_max2 _ _ HLEN.out.2.2.2.2.2.2.2 HLEN.out.1
                          case kb10 => rw [size_mk]; exact len_ok _ _ HLEN.out.2.2.2.2.2.2.2 HLEN.out.1
                          intro vw6 w6 hI hgq _
                          have hB := HBX.out.grown hgq HBX.out.size (fun j hj => (HO4.out.lt j hj).1)
                          have hP := HP2.out.keeps (Keeps.grown HO4.out hgq) (by decide) (by decide)
                          (try rw [size_mk] at hI)
                          have hO : w6.ownsRow w2.heap.size 5 1 vw6 (A0 ++ x1).length (Lib.byteCells (A0 ++ x1)) := by
                            simpa only [List.length_append, List.append_assoc, Nat.add_assoc, Lib.byteCells_append, strCells_l2] using hI
                          have HO4 := Lib.hid hO
                          have HP2 := Lib.hid hP
                          have HBX := Lib.hid hB
                          clear hI hgq hB hP hO
                          clear c0 c1 c2 c3 c4 hl5
                          obtain ⟨c0, c1, c2, c3, c4, hl5⟩ := HP2.out.cells
                          go_wp2
                          go_ret2
                          unfold WrtPost
                          rw [HR.out]
                          exact ⟨rfl, HA2.out.2.trans (HBX.out.mono HA2.out.2.size)⟩
                        · have j1 : (V.length : Int) ≤ 8192 := by omega
                          by_cases hmb : 8192 < p.media.length
                          · have HR := Lib.hid (HBAD.out (okP_med p HQ.out hmb))
                            have j2 : (8192 : Int) < (p.media.length : Int) := by omega
                            clear hhd hx1 hlc hb1 hb2 hll htl hln8 hv hmb
                            obtain ⟨c0, c1, c2, c3, c4, hl5⟩ := HP2.out.cells
                            go_wp2_with (at_builtin; refine Lib.wpList_append_own_string _ rfl (.tmp 78) (.tmp 82) 94 9 rfl w2.heap.size 5 i0 Tryz.underlying94 Tryz.underlying9 hi0 hz0 hz1 hz2 _ _ _ rfl HO4.out _ rfl ?ka11 ?kb11 HBX.out.size ?_)
                            case ka11 => rw [size_mk]; exact le_max2 _ _ HLEN.out.2.2.2.2.2.2.2 HLEN.out.1
                            case kb11 => rw [size_mk]; exact len_ok _ _ HLEN.out.2.2.2.2.2.2.2 HLEN.out.1
                            intro vw6 w6 hI hgq _
                            have hB := HBX.out.grown hgq HBX.out.size (fun j hj => (HO4.out.lt j hj).1)
                            have hP := HP2.out.keeps (Keeps.grown HO4.out hgq) (by decide) (by decide)
                            (try rw [size_mk] at hI)
                            have hO : w6.ownsRow w2.heap.size 5 1 vw6 (A0 ++ x1).length (Lib.byteCells (A0 ++ x1)) := by
                              simpa only [List.length_append, List.append_assoc, Nat.add_assoc, Lib.byteCells_append, strCells_l2] using hI
                            have HO4 := Lib.hid hO
                            have HP2 := Lib.hid hP
                            have HBX := Lib.hid hB
                            clear hI hgq hB hP hO
                            clear c0 c1 c2 c3 c4 hl5
                            obtain ⟨c0, c1, c2, c3, c4, hl5⟩ := HP2.out.cells
                            go_wp2
                            go_ret2
                            unfold WrtPost
                            rw [HR.out]
                            exact ⟨rfl, HA2.out.2.trans (HBX.out.mono HA2.out.2.size)⟩
                          · have j2 : (p.media.length : Int) ≤ 8192 := by omega
                            have HOK := Lib.hid (okP_yes p HQ.out (by rw [hll]; omega) (by omega))
                            by_cases hmd : p.media = []
                            · have HFIN := Lib.hid (fin3 B t hd x1 V vc b1 b2 p HBT.out.2.2.1 hhd hx1 hll hlc (med_not p hmd) hb1 hb2 A0)
                              clear hhd hx1 hlc hb1 hb2 hll htl hln8 hv hmb
                              obtain ⟨c0, c1, c2, c3, c4, hl5⟩ := HP2.out.cells
                              go_wp2_with (at_builtin; refine Lib.wpList_append_own_string _ rfl (.tmp 78) (.tmp 82) 94 9 rfl w2.heap.size 5 i0 Tryz.underlying94 Tryz.underlying9 hi0 hz0 hz1 hz2 _ _ _ rfl HO4.out _ rfl ?ka12 ?kb12 HBX.out.size ?_)
                              case ka12 => rw [size_mk]; exact le_max2 _ _ HLEN.out.2.2.2.2.2.2.2 HLEN.out.1
                              case kb12 => rw [size_mk]; exact len_ok _ _ HLEN.out.2.2.2.2.2.2.2 HLEN.out.1
                              intro vw6 w6 hI hgq _
                              have hB := HBX.out.grown hgq HBX.out.size (fun j hj => (HO4.out.lt j hj).1)
                              have hP := HP2.out.keeps (Keeps.grown HO4.out hgq) (by decide) (by decide)
                              (try rw [size_mk] at hI)
                              have hO : w6.ownsRow w2.heap.size 5 1 vw6 (A0 ++ x1).length (Lib.byteCells (A0 ++ x1)) := by
                                simpa only [List.length_append, List.append_assoc, Nat.add_assoc, Lib.byteCells_append, strCells_l2] using hI
                              have HO4 := Lib.hid hO
                              have HP2 := Lib.hid hP
                              have HBX := Lib.hid hB
                              clear hI hgq hB hP hO
                              clear c0 c1 c2 c3 c4 hl5
                              obtain ⟨c0, c1, c2, c3, c4, hl5⟩ := HP2.out.cells
                              go_wp2_with (at_builtin; refine Lib.wpList_append_own_string _ rfl (.tmp 101) (.tmp 103) 94 9 rfl w2.heap.size 5 i0 Tryz.underlying94 Tryz.underlying9 hi0 hz0 hz1 hz2 _ _ _ rfl HO4.out _ rfl ?ka13 ?kb13 HBX.out.size ?_)
                              case ka13 => rw [size_mk]; exact le_max2 _ _ HLEN.out.2.1 HLEN.out.2.2.1
                              case kb13 => rw [size_mk]; exact len_ok _ _ HLEN.out.2.1 HLEN.out.2.2.1
                              intro vw7 w7 hI hgq _
                              have hB := HBX.out.grown hgq HBX.out.size (fun j hj => (HO4.out.lt j hj).1)
                              have hP := HP2.out.keeps (Keeps.grown HO4.out hgq) (by decide) (by decide)
                              (try rw [size_mk] at hI)
                              have hO : w7.ownsRow w2.heap.size 5 1 vw7 ((A0 ++ x1) ++ vc).length (Lib.byteCells ((A0 ++ x1) ++ vc)) := by
                                simpa only [List.length_append, List.append_assoc, Nat.add_assoc, Lib.byteCells_append, strCells_l2] using hI
                              have HO4 := Lib.hid hO
                              have HP2 := Lib.hid hP
                              have HBX := Lib.hid hB
                              clear hI hgq hB hP hO
                              clear c0 c1 c2 c3 c4 hl5
                              obtain ⟨c0, c1, c2, c3, c4, hl5⟩ := HP2.out.cells
                              go_wp2_with (at_builtin; refine Lib.wpList_append_own_string _ rfl (.tmp 114) (.tmp 118) 94 9 rfl w2.heap.size 5 i0 Tryz.underlying94 Tryz.underlying9 hi0 hz0 hz1 hz2 _ _ _ rfl HO4.out _ rfl ?ka14 ?kb14 HBX.out.size ?_)
                              case ka14 => rw [size_mk]; exact le_max2 _ _ HLEN.out.2.2.2.1 HLEN.out.2.2.2.2.1
                              case kb14 => rw [size_mk]; exact len_ok _ _ HLEN.out.2.2.2.1 HLEN.out.2.2.2.2.1
                              intro vw8 w8 hI hgq _
                              have hB := HBX.out.grown hgq HBX.out.size (fun j hj => (HO4.out.lt j hj).1)
                              have hP := HP2.out.keeps (Keeps.grown HO4.out hgq) (by decide) (by decide)
                              (try rw [size_mk] at hI)
                              have hO : w8.ownsRow w2.heap.size 5 1 vw8 ((A0 ++ x1 ++ vc) ++ b2).length (Lib.byteCells ((A0 ++ x1 ++ vc) ++ b2)) := by
                                simpa only [List.length_append, List.append_assoc, Nat.add_assoc, Lib.byteCells_append, strCells_l2] using hI
                              have HO4 := Lib.hid hO
                              have HP2 := Lib.hid hP
                              have HBX := Lib.hid hB
                              clear hI hgq hB hP hO
                              go_wp2
                              have hwi := HX.out.2.2.2.2.2.1
                              go_roundw
                              case rel => (try rw [hwi]); clear hwi; exact ⟨i + 1, by go_num, hlt, take_all okP l i p HX.out.2.2.2.1 HX.out.2.2.2.2.1 HOK.out, by rw [HTK.out, HFIN.out]; exact HO4.out, HBX.out⟩
                              case measure => (try rw [hwi]); clear hwi; simp [intOf]; omega
                            · obtain ⟨M, hM⟩ : ∃ M, ctB ++ p.media = M := ⟨_, rfl⟩
                              obtain ⟨mc, hmc⟩ : ∃ mc, M ++ [13, 10] = mc := ⟨_, rfl⟩
                              have g9 := cat_ct p.media M hM
                              have g10 := cat_nl M mc hmc
                              have hlens2 := lens4 A0 t hd x1 V vc p.media M mc HAB.out htl hhd hx1 hlc hln8 HX.out.2.2.2.2.2.2.2.2.2 hM hmc
                              have z9 := nof 14 p.media.length (by decide) (Nat.le_trans HX.out.2.2.2.2.2.2.2.2.2 (by decide))
                              have z10 := nof M.length 2 (Nat.le_trans hlens2.1 (by decide)) (by decide)
                              have HLEN2 := Lib.hid hlens2
                              have hme : p.media.isEmpty = false := by
                                cases hc : p.media with
                                | nil => exact absurd hc hmd
                                | cons => rfl
                              have HFIN := Lib.hid (fin4 B t hd x1 V vc M mc b1 b2 p HBT.out.2.2.1 hhd hx1 hll hlc hM hmc (med_yes p hmd) hb1 hb2 A0)
                              clear hhd hx1 hlc hb1 hb2 hll htl hln8 hv hmb hM hmc hlens2
                              obtain ⟨c0, c1, c2, c3, c4, hl5⟩ := HP2.out.cells
                              go_wp2_with (at_builtin; refine Lib.wpList_append_own_string _ rfl (.tmp 78) (.tmp 82) 94 9 rfl w2.heap.size 5 i0 Tryz.underlying94 Tryz.underlying9 hi0 hz0 hz1 hz2 _ _ _ rfl HO4.out _ rfl ?ka15 ?kb15 HBX.out.size ?_)
                              case ka15 => rw [size_mk]; exact le_max2 _ _ HLEN.out.2.2.2.2.2.2.2 HLEN.out.1
                              case kb15 => rw [size_mk]; exact len_ok _ _ HLEN.out.2.2.2.2.2.2.2 HLEN.out.1
                              intro vw6 w6 hI hgq _
                              have hB := HBX.out.grown hgq HBX.out.size (fun j hj => (HO4.out.lt j hj).1)
                              have hP := HP2.out.keeps (Keeps.grown HO4.out hgq) (by decide) (by decide)
                              (try rw [size_mk] at hI)
                              have hO : w6.ownsRow w2.heap.size 5 1 vw6 (A0 ++ x1).length (Lib.byteCells (A0 ++ x1)) := by
                                simpa only [List.length_append, List.append_assoc, Nat.add_assoc, Lib.byteCells_append, strCells_l2] using hI
                              have HO4 := Lib.hid hO
                              have HP2 := Lib.hid hP
                              have HBX := Lib.hid hB
                              clear hI hgq hB hP hO
                              clear c0 c1 c2 c3 c4 hl5
                              obtain ⟨c0, c1, c2, c3, c4, hl5⟩ := HP2.out.cells
                              go_wp2_with (at_builtin; refine Lib.wpList_append_own_string _ rfl (.tmp 101) (.tmp 103) 94 9 rfl w2.heap.size 5 i0 Tryz.underlying94 Tryz.underlying9 hi0 hz0 hz1 hz2 _ _ _ rfl HO4.out _ rfl ?ka16 ?kb16 HBX.out.size ?_)
                              case ka16 => rw [size_mk]; exact le_max2 _ _ HLEN.out.2.1 HLEN.out.2.2.1
                              case kb16 => rw [size_mk]; exact len_ok _ _ HLEN.out.2.1 HLEN.out.2.2.1
                              intro vw7 w7 hI hgq _
                              have hB := HBX.out.grown hgq HBX.out.size (fun j hj => (HO4.out.lt j hj).1)
                              have hP := HP2.out.keeps (Keeps.grown HO4.out hgq) (by decide) (by decide)
                              (try rw [size_mk] at hI)
                              have hO : w7.ownsRow w2.heap.size 5 1 vw7 ((A0 ++ x1) ++ vc).length (Lib.byteCells ((A0 ++ x1) ++ vc)) := by
                                simpa only [List.length_append, List.append_assoc, Nat.add_assoc, Lib.byteCells_append, strCells_l2] using hI
                              have HO4 := Lib.hid hO
                              have HP2 := Lib.hid hP
                              have HBX := Lib.hid hB
                              clear hI hgq hB hP hO
                              clear c0 c1 c2 c3 c4 hl5
                              obtain ⟨c0, c1, c2, c3, c4, hl5⟩ := HP2.out.cells
                              go_wp2_with (at_builtin; refine Lib.wpList_append_own_string _ rfl (.tmp 108) (.tmp 112) 94 9 rfl w2.heap.size 5 i0 Tryz.underlying94 Tryz.underlying9 hi0 hz0 hz1 hz2 _ _ _ rfl HO4.out _ rfl ?ka17 ?kb17 HBX.out.size ?_)
                              case ka17 => rw [size_mk]; exact le_max2 _ _ HLEN.out.2.2.2.1 HLEN2.out.2.1
                              case kb17 => rw [size_mk]; exact len_ok _ _ HLEN.out.2.2.2.1 HLEN2.out.2.1
                              intro vw8 w8 hI hgq _
                              have hB := HBX.out.grown hgq HBX.out.size (fun j hj => (HO4.out.lt j hj).1)
                              have hP := HP2.out.keeps (Keeps.grown HO4.out hgq) (by decide) (by decide)
                              (try rw [size_mk] at hI)
                              have hO : w8.ownsRow w2.heap.size 5 1 vw8 ((A0 ++ x1 ++ vc) ++ mc).length (Lib.byteCells ((A0 ++ x1 ++ vc) ++ mc)) := by
                                simpa only [List.length_append, List.append_assoc, Nat.add_assoc, Lib.byteCells_append, strCells_l2] using hI
                              have HO4 := Lib.hid hO
                              have HP2 := Lib.hid hP
                              have HBX := Lib.hid hB
                              clear hI hgq hB hP hO
                              clear c0 c1 c2 c3 c4 hl5
                              obtain ⟨c0, c1, c2, c3, c4, hl5⟩ := HP2.out.cells
                              go_wp2_with (at_builtin; refine Lib.wpList_append_own_string _ rfl (.tmp 114) (.tmp 118) 94 9 rfl w2.heap.size 5 i0 Tryz.underlying94 Tryz.underlying9 hi0 hz0 hz1 hz2 _ _ _ rfl HO4.out _ rfl ?ka18 ?kb18 HBX.out.size ?_)
                              case ka18 => rw [size_mk]; exact le_max2 _ _ HLEN2.out.2.2 HLEN.out.2.2.2.2.1
                              case kb18 => rw [size_mk]; exact len_ok _ _ HLEN2.out.2.2 HLEN.out.2.2.2.2.1
                              intro vw9 w9 hI hgq _
                              have hB := HBX.out.grown hgq HBX.out.size (fun j hj => (HO4.out.lt j hj).1)
                              have hP := HP2.out.keeps (Keeps.grown HO4.out hgq) (by decide) (by decide)
                              (try rw [size_mk] at hI)
                              have hO : w9.ownsRow w2.heap.size 5 1 vw9 ((A0 ++ x1 ++ vc ++ mc) ++ b2).length (Lib.byteCells ((A0 ++ x1 ++ vc ++ mc) ++ b2)) := by
                                simpa only [List.length_append, List.append_assoc, Nat.add_assoc, Lib.byteCells_append, strCells_l2] using hI
                              have HO4 := Lib.hid hO
                              have HP2 := Lib.hid hP
                              have HBX := Lib.hid hB
                              clear hI hgq hB hP hO
                              go_wp2
                              have hwi := HX.out.2.2.2.2.2.1
                              go_roundw
                              case rel => (try rw [hwi]); clear hwi; exact ⟨i + 1, by go_num, hlt, take_all okP l i p HX.out.2.2.2.1 HX.out.2.2.2.2.1 HOK.out, by rw [HTK.out, HFIN.out]; exact HO4.out, HBX.out⟩
                              case measure => (try rw [hwi]); clear hwi; simp [intOf]; omega
                      · have HR := Lib.hid (HBAD.out (okP_q _ (okQ_has p hh hf)))
                        have hfe : p.file.isEmpty = false := by
                          cases hc : p.file with
                          | nil => exact absurd hc hf
                          | cons => rfl
                        go_wp2
                        refine wp_region_textH (P5 77 wr.heap.size p) [(0, true), (1, true), (2, true), (3, true), (4, true), (5, true), (6, true), (7, true), (8, true), (9, false), (10, true), (11, true), (12, true), (13, true), (14, true), (16, true), (17, true), (15, false), (18, true), (19, true), (20, true), (21, true), (22, true), (23, true), (24, true), (25, true), (26, true), (27, true), (28, true), (29, true)] (by kernel_rfl) (by kernel_rfl) (by kernel_rfl) (by kernel_rfl) (HW5.out ▸ HP2.out) ?_
                        rw [HW5.out]
                        refine wpTxH_take rfl (by kernel_rfl) (v := ?_) ?_ ?_; rotate_left; · (intro w hS; obtain ⟨s0, s1, s2, s3, s4, _⟩ := hS.cells; go_simp; with_reducible rfl)
                        refine wpTxH_take rfl (by kernel_rfl) (v := ?_) ?_ ?_; rotate_left; · (intro w hS; obtain ⟨s0, s1, s2, s3, s4, _⟩ := hS.cells; go_simp; with_reducible rfl)
                        refine wpTxH_take rfl (by kernel_rfl) (v := ?_) ?_ ?_; rotate_left; · (intro w hS; obtain ⟨s0, s1, s2, s3, s4, _⟩ := hS.cells; go_simp; with_reducible rfl)
                        refine wpTxH_take rfl (by kernel_rfl) (v := ?_) ?_ ?_; rotate_left; · (intro w hS; obtain ⟨s0, s1, s2, s3, s4, _⟩ := hS.cells; go_simp; with_reducible rfl)
                        refine wpTxH_take rfl (by kernel_rfl) (v := ?_) ?_ ?_; rotate_left; · (intro w hS; obtain ⟨s0, s1, s2, s3, s4, _⟩ := hS.cells; go_simp; with_reducible rfl)
                        refine wpTxH_take rfl (by kernel_rfl) (v := ?_) ?_ ?_; rotate_left; · (intro w hS; obtain ⟨s0, s1, s2, s3, s4, _⟩ := hS.cells; go_simp; with_reducible rfl)
                        refine wpTxH_take rfl (by kernel_rfl) (v := ?_) ?_ ?_; rotate_left; · (intro w hS; obtain ⟨s0, s1, s2, s3, s4, _⟩ := hS.cells; go_simp; with_reducible rfl)
                        refine wpTxH_take rfl (by kernel_rfl) (v := ?_) ?_ ?_; rotate_left; · (intro w hS; obtain ⟨s0, s1, s2, s3, s4, _⟩ := hS.cells; go_simp; with_reducible rfl)
                        refine wpTxH_take rfl (by kernel_rfl) (v := ?_) ?_ ?_; rotate_left; · (intro w hS; obtain ⟨s0, s1, s2, s3, s4, _⟩ := hS.cells; go_simp; with_reducible rfl)
                        refine wpTxH_step rfl (fun K hK => ?_)
                        go_simp
                        refine (risfield_l p.media true HQ3.out _ (le_1t _ HX.out.2.2.2.2.2.2.2.2.2)).mono ?_
                        rintro e wq ⟨rfl, hwq⟩
                        rw [hwq]
                        clear hwq wq
                        refine hK _ _ HP2.out ?_
                        clear hK K
                        refine wpTxH_take rfl (by kernel_rfl) (v := ?_) ?_ ?_; rotate_left; · (intro w hS; obtain ⟨s0, s1, s2, s3, s4, _⟩ := hS.cells; go_simp; with_reducible rfl)
                        refine wpTxH_take rfl (by kernel_rfl) (v := ?_) ?_ ?_; rotate_left; · (intro w hS; obtain ⟨s0, s1, s2, s3, s4, _⟩ := hS.cells; go_simp; with_reducible rfl)
                        refine wpTxH_take rfl (by kernel_rfl) (v := ?_) ?_ ?_; rotate_left; · (intro w hS; obtain ⟨s0, s1, s2, s3, s4, _⟩ := hS.cells; go_simp; with_reducible rfl)
                        refine wpTxH_take rfl (by kernel_rfl) (v := ?_) ?_ ?_; rotate_left; · (intro w hS; obtain ⟨s0, s1, s2, s3, s4, _⟩ := hS.cells; go_simp; with_reducible rfl)
                        refine wpTxH_take rfl (by kernel_rfl) (v := ?_) ?_ ?_; rotate_left; · (intro w hS; obtain ⟨s0, s1, s2, s3, s4, _⟩ := hS.cells; go_simp; with_reducible rfl)
                        refine wpTxH_take rfl (by kernel_rfl) (v := ?_) ?_ ?_; rotate_left; · (intro w hS; obtain ⟨s0, s1, s2, s3, s4, _⟩ := hS.cells; go_simp; with_reducible rfl)
                        refine wpTxH_take rfl (by kernel_rfl) (v := ?_) ?_ ?_; rotate_left; · (intro w hS; obtain ⟨s0, s1, s2, s3, s4, _⟩ := hS.cells; go_simp; with_reducible rfl)
                        refine wpTxH_step rfl (fun K hK => ?_)
                        go_simp
                        refine (rtrim_l p.media p.media HQ4.out _ (le_1t _ HX.out.2.2.2.2.2.2.2.2.2)).mono ?_
                        rintro e wq ⟨rfl, hwq⟩
                        rw [hwq]
                        clear hwq wq
                        refine hK _ _ HP2.out ?_
                        clear hK K
                        refine wpTxH_take rfl (by kernel_rfl) (v := ?_) ?_ ?_; rotate_left; · (intro w hS; obtain ⟨s0, s1, s2, s3, s4, _⟩ := hS.cells; go_simp; with_reducible rfl)
                        refine wpTxH_take rfl (by kernel_rfl) (v := ?_) ?_ ?_; rotate_left; · (intro w hS; obtain ⟨s0, s1, s2, s3, s4, _⟩ := hS.cells; go_simp; with_reducible rfl)
                        refine wpTxH_take rfl (by kernel_rfl) (v := ?_) ?_ ?_; rotate_left; · (intro w hS; obtain ⟨s0, s1, s2, s3, s4, _⟩ := hS.cells; go_simp; with_reducible rfl)
                        refine wpTxH_take rfl (by kernel_rfl) (v := ?_) ?_ ?_; rotate_left; · (intro w hS; obtain ⟨s0, s1, s2, s3, s4, _⟩ := hS.cells; go_simp; with_reducible rfl)
                        refine wpTxH_take rfl (by kernel_rfl) (v := ?_) ?_ ?_; rotate_left; · (intro w hS; obtain ⟨s0, s1, s2, s3, s4, _⟩ := hS.cells; go_simp; with_reducible rfl)
                        refine wpTxH_take rfl (by kernel_rfl) (v := ?_) ?_ ?_; rotate_left; · (intro w hS; obtain ⟨s0, s1, s2, s3, s4, _⟩ := hS.cells; go_simp; with_reducible rfl)
                        refine wpTxH_take rfl (by kernel_rfl) (v := ?_) ?_ ?_; rotate_left; · (intro w hS; obtain ⟨s0, s1, s2, s3, s4, _⟩ := hS.cells; go_simp; with_reducible rfl)
                        refine wpTxH_take rfl (by kernel_rfl) (v := ?_) ?_ ?_; rotate_left; · (intro w hS; obtain ⟨s0, s1, s2, s3, s4, _⟩ := hS.cells; go_simp; with_reducible rfl)
                        refine wpTxH_take rfl (by kernel_rfl) (v := ?_) ?_ ?_; rotate_left; · (intro w hS; obtain ⟨s0, s1, s2, s3, s4, _⟩ := hS.cells; go_simp; with_reducible rfl)
                        refine wpTxH_take rfl (by kernel_rfl) (v := ?_) ?_ ?_; rotate_left; · (intro w hS; obtain ⟨s0, s1, s2, s3, s4, _⟩ := hS.cells; go_simp; with_reducible rfl)
                        refine wpTxH_take rfl (by kernel_rfl) (v := ?_) ?_ ?_; rotate_left; · (intro w hS; obtain ⟨s0, s1, s2, s3, s4, _⟩ := hS.cells; go_simp; with_reducible rfl)
                        refine wpTxH_take rfl (by kernel_rfl) (v := ?_) ?_ ?_; rotate_left; · (intro w hS; obtain ⟨s0, s1, s2, s3, s4, _⟩ := hS.cells; go_simp; with_reducible rfl)
                        refine wpTxH_nil ?_
                        go_simp
                        go_wp2
                        go_ret2
                        unfold WrtPost
                        rw [HR.out]
                        exact ⟨rfl, HA2.out.2.trans (HBX.out.mono HA2.out.2.size)⟩
                  · obtain ⟨tm, htm⟩ : ∃ tm, trimL p.media = tm := ⟨_, rfl⟩
                    have HQ4 := Lib.hid htm
                    have HR := Lib.hid (HBAD.out (okP_q _ (okQ_trim _ hq4)))
                    rw [htm] at hq4
                    have hne : (tm == p.media) = false := beq_false_of_ne hq4
                    clear htm hq4
                    go_wp2
                    refine wp_region_textH (P5 77 wr.heap.size p) [(0, true), (1, true), (2, true), (3, true), (4, true), (5, true), (6, true), (7, true), (8, true), (9, false), (10, true), (11, true), (12, true), (13, true), (14, true), (16, true), (17, true), (15, false), (18, true), (19, true), (20, true), (21, true), (22, true), (23, true), (24, true), (25, true), (26, true), (27, true), (28, true), (29, true)] (by kernel_rfl) (by kernel_rfl) (by kernel_rfl) (by kernel_rfl) (HW5.out ▸ HP2.out) ?_
                    rw [HW5.out]
                    refine wpTxH_take rfl (by kernel_rfl) (v := ?_) ?_ ?_; rotate_left; · (intro w hS; obtain ⟨s0, s1, s2, s3, s4, _⟩ := hS.cells; go_simp; with_reducible rfl)
                    refine wpTxH_take rfl (by kernel_rfl) (v := ?_) ?_ ?_; rotate_left; · (intro w hS; obtain ⟨s0, s1, s2, s3, s4, _⟩ := hS.cells; go_simp; with_reducible rfl)
                    refine wpTxH_take rfl (by kernel_rfl) (v := ?_) ?_ ?_; rotate_left; · (intro w hS; obtain ⟨s0, s1, s2, s3, s4, _⟩ := hS.cells; go_simp; with_reducible rfl)
                    refine wpTxH_take rfl (by kernel_rfl) (v := ?_) ?_ ?_; rotate_left; · (intro w hS; obtain ⟨s0, s1, s2, s3, s4, _⟩ := hS.cells; go_simp; with_reducible rfl)
                    refine wpTxH_take rfl (by kernel_rfl) (v := ?_) ?_ ?_; rotate_left; · (intro w hS; obtain ⟨s0, s1, s2, s3, s4, _⟩ := hS.cells; go_simp; with_reducible rfl)
                    refine wpTxH_take rfl (by kernel_rfl) (v := ?_) ?_ ?_; rotate_left; · (intro w hS; obtain ⟨s0, s1, s2, s3, s4, _⟩ := hS.cells; go_simp; with_reducible rfl)
                    refine wpTxH_take rfl (by kernel_rfl) (v := ?_) ?_ ?_; rotate_left; · (intro w hS; obtain ⟨s0, s1, s2, s3, s4, _⟩ := hS.cells; go_simp; with_reducible rfl)
                    refine wpTxH_take rfl (by kernel_rfl) (v := ?_) ?_ ?_; rotate_left; · (intro w hS; obtain ⟨s0, s1, s2, s3, s4, _⟩ := hS.cells; go_simp; with_reducible rfl)
                    refine wpTxH_take rfl (by kernel_rfl) (v := ?_) ?_ ?_; rotate_left; · (intro w hS; obtain ⟨s0, s1, s2, s3, s4, _⟩ := hS.cells; go_simp; with_reducible rfl)
                    refine wpTxH_step rfl (fun K hK => ?_)
                    go_simp
                    refine (risfield_l p.media true HQ3.out _ (le_1t _ HX.out.2.2.2.2.2.2.2.2.2)).mono ?_
                    rintro e wq ⟨rfl, hwq⟩
                    rw [hwq]
                    clear hwq wq
                    refine hK _ _ HP2.out ?_
                    clear hK K
                    refine wpTxH_take rfl (by kernel_rfl) (v := ?_) ?_ ?_; rotate_left; · (intro w hS; obtain ⟨s0, s1, s2, s3, s4, _⟩ := hS.cells; go_simp; with_reducible rfl)
                    refine wpTxH_take rfl (by kernel_rfl) (v := ?_) ?_ ?_; rotate_left; · (intro w hS; obtain ⟨s0, s1, s2, s3, s4, _⟩ := hS.cells; go_simp; with_reducible rfl)
                    refine wpTxH_take rfl (by kernel_rfl) (v := ?_) ?_ ?_; rotate_left; · (intro w hS; obtain ⟨s0, s1, s2, s3, s4, _⟩ := hS.cells; go_simp; with_reducible rfl)
                    refine wpTxH_take rfl (by kernel_rfl) (v := ?_) ?_ ?_; rotate_left; · (intro w hS; obtain ⟨s0, s1, s2, s3, s4, _⟩ := hS.cells; go_simp; with_reducible rfl)
                    refine wpTxH_take rfl (by kernel_rfl) (v := ?_) ?_ ?_; rotate_left; · (intro w hS; obtain ⟨s0, s1, s2, s3, s4, _⟩ := hS.cells; go_simp; with_reducible rfl)
                    refine wpTxH_take rfl (by kernel_rfl) (v := ?_) ?_ ?_; rotate_left; · (intro w hS; obtain ⟨s0, s1, s2, s3, s4, _⟩ := hS.cells; go_simp; with_reducible rfl)
                    refine wpTxH_take rfl (by kernel_rfl) (v := ?_) ?_ ?_; rotate_left; · (intro w hS; obtain ⟨s0, s1, s2, s3, s4, _⟩ := hS.cells; go_simp; with_reducible rfl)
                    refine wpTxH_step rfl (fun K hK => ?_)
                    go_simp
                    refine (rtrim_l p.media tm HQ4.out _ (le_1t _ HX.out.2.2.2.2.2.2.2.2.2)).mono ?_
                    rintro e wq ⟨rfl, hwq⟩
                    rw [hwq]
                    clear hwq wq
                    refine hK _ _ HP2.out ?_
                    clear hK K
                    refine wpTxH_take rfl (by kernel_rfl) (v := ?_) ?_ ?_; rotate_left; · (intro w hS; obtain ⟨s0, s1, s2, s3, s4, _⟩ := hS.cells; go_simp; with_reducible rfl)
                    refine wpTxH_take rfl (by kernel_rfl) (v := ?_) ?_ ?_; rotate_left; · (intro w hS; obtain ⟨s0, s1, s2, s3, s4, _⟩ := hS.cells; go_simp; with_reducible rfl)
                    refine wpTxH_take rfl (by kernel_rfl) (v := ?_) ?_ ?_; rotate_left; · (intro w hS; obtain ⟨s0, s1, s2, s3, s4, _⟩ := hS.cells; go_simp; with_reducible rfl)
                    refine wtxH_pass rfl (by kernel_rfl) ?_
                    refine wtxH_pass rfl (by kernel_rfl) ?_
                    refine wtxH_pass rfl (by kernel_rfl) ?_
                    refine wtxH_pass rfl (by kernel_rfl) ?_
                    refine wtxH_pass rfl (by kernel_rfl) ?_
                    refine wtxH_pass rfl (by kernel_rfl) ?_
                    refine wtxH_pass rfl (by kernel_rfl) ?_
                    refine wtxH_pass rfl (by kernel_rfl) ?_
                    refine wpTxH_take rfl (by kernel_rfl) (v := ?_) ?_ ?_; rotate_left; · (intro w hS; obtain ⟨s0, s1, s2, s3, s4, _⟩ := hS.cells; go_simp; with_reducible rfl)
                    refine wpTxH_nil ?_
                    go_simp
                    go_wp2
                    go_ret2
                    unfold WrtPost
                    rw [HR.out]
                    exact ⟨rfl, HA2.out.2.trans (HBX.out.mono HA2.out.2.size)⟩
          · obtain rfl : i = l.length := by omega
            have hd : decide (l.length < l.length) = false := decide_eq_false (Nat.lt_irrefl _)
            rw [List.take_length] at hok hO hab
            have HR := Lib.hid (wrt_ok B l HBT.out.1 HBT.out.2.1 HL0.out hok)
            obtain ⟨A, hA⟩ : ∃ A, l.flatMap (partB B) = A := ⟨_, rfl⟩
            rw [hA] at hO hab HR
            clear hok hA
            obtain ⟨A1, hA1⟩ : ∃ A1, A ++ [45, 45] = A1 := ⟨_, rfl⟩
            obtain ⟨A2, hA2⟩ : ∃ A2, A1 ++ s.data.toList = A2 := ⟨_, rfl⟩
            obtain ⟨A3, hA3⟩ : ∃ A3, A2 ++ [45, 45] = A3 := ⟨_, rfl⟩
            obtain ⟨A4, hA4⟩ : ∃ A4, A3 ++ [13, 10] = A4 := ⟨_, rfl⟩
            have f1 := cat_dd A A1 hA1
            have f2 := cat_as A1 s A2 hA2
            have f3 := cat_dd A2 A3 hA3
            have f4 := cat_nl A3 A4 hA4
            have l1 : A1.length = A.length + 2 := by rw [← hA1]; simp
            have l2 : A2.length = A1.length + s.size := by rw [← hA2, List.length_append, size_list]
            have l3 : A3.length = A2.length + 2 := by rw [← hA3]; simp
            have y1 := nof A.length 2 (by omega) (by decide)
            have y2 := nof A1.length s.size (by omega) (by omega)
            have y3 := nof A2.length 2 (by omega) (by decide)
            have y4 := nof A3.length 2 (by omega) (by decide)
            have hfin : A4 = A ++ endL B := by
              rw [← hA4, ← hA3, ← hA2, ← hA1, HBT.out.2.2.2.1]
              unfold endL
              simp
            have HF := Lib.hid hfin
            have hcv := run_str_own wr 94 5 Tryz.underlying94 Tryz.underlying5 hO 9 Tryz.underlying9
            have HBX := Lib.hid hb
            clear hA1 hA2 hA3 hA4 l1 l2 l3 hfin hab hO hb
            go_wp2
            go_ret2
            unfold WrtPost
            rw [HR.out, ← HF.out]
            exact ⟨rfl, HA2.out.2.trans (HBX.out.mono HA2.out.2.size)⟩
end Go.Proofs.YtlfdeenekjklgaaGreatDoor
