/- The walk of turnpikeref07.parts: the plain function mdR. Conditions: at most 2^40 bytes. -/
import Derived.Test.YtpdbejeiceodkaaGreatDoorPk29
namespace Go.Proofs.YtpdbejeiceodkaaGreatDoor
open Go.RowKit
set_option linter.unusedSimpArgs false
set_option linter.unusedVariables false
set_option maxRecDepth 1000000
/-- While the parameters are handed on. -/
def PtRel (w D : World) (ty sub : List UInt8) (ps : List Par) (lv : Value) (a : Nat) (i : Nat) (v : Value) (wr : World) : Prop :=
  Below w.heap.size w wr ∧ wr.ownsRow w.heap.size 198 3 lv ps.length (parsV (lowMix ps i)) ∧ wr.ownsRow D.heap.size 198 3 v i (parsV ((ps.map lowP).take i)) ∧ BlkIs wr a (mC ⟨ty, sub, []⟩ v) 103 ∧ BlkIs wr w.heap.size zMed 103 ∧ D.heap.size ≤ wr.heap.size
theorem pt_store {w D W : World} {ty sub : List UInt8} {ps : List Par} {lv v v1 : Value} {a i : Nat} (hb : Below w.heap.size w W) (hL : W.ownsRow w.heap.size 198 3 lv ps.length (parsV (lowMix ps (i + 1)))) (hI : W.ownsRow D.heap.size 198 3 v1 (i + 1) (parsV ((ps.map lowP).take (i + 1)))) (hA : BlkIs W a (mC ⟨ty, sub, []⟩ v) 103) (hZ : BlkIs W w.heap.size zMed 103) (hD : D.heap.size ≤ W.heap.size) (ha : w.heap.size < a) :
    PtRel w D ty sub ps lv a (i + 1) v1 (W.setCell ⟨a, 2, none⟩ v1) :=
  ⟨hb.setCell (p := ⟨a, 2, none⟩) (Nat.le_of_lt ha) _, own_setOther hL (own_blk hL hA (by decide)), own_setOther hI (own_blk hI hA (by decide)), hA.set 2 v1, hZ.setOther _ _ (Nat.ne_of_lt ha), by simpa [World.setCell] using hD⟩
theorem pt_ne {D E : World} {v : Value} {i gl : Nat} {xs : List Value} (h : E.ownsRow D.heap.size 198 3 v i xs) (o : Obj) (hl : gl < D.heap.size) : v.ownBlock ≠ some gl := fun e => absurd (h.lt gl e).1 (Nat.not_le.2 hl)
theorem ptk (ps : List Par) (i : Nat) (p : Par) (h : ps[i]? = some p) : parsV ((ps.map lowP).take (i + 1)) = parsV ((ps.map lowP).take i) ++ [.string ⟨(lowL p.1).toArray⟩, .string ⟨p.2.1.toArray⟩, .bool p.2.2] := by
  rw [take_map lowP ps i p h, parsV_snoc]; rfl
theorem par_n (s : ByteArray) (M n : Nat) (h : n ≤ (s.data.toList.drop M).length) (hs : s.size ≤ 1099511627776) : n ≤ 2199023255552 := by rw [List.length_drop, size_list] at h; omega
theorem par_p (s : ByteArray) (M : Nat) (ps : List Par) (h : ∀ p ∈ ps, p.1.length ≤ (s.data.toList.drop M).length) (p : Par) (hp : p ∈ ps) (hs : s.size ≤ 1099511627776) : p.1.length ≤ 1099511627776 := by
  have := h p hp
  rw [List.length_drop, size_list] at this
  omega
theorem par_bd41 (i n : Nat) (h : i < n) (hn : n ≤ 2199023255552) : i + 1 ≤ maxLen ∧ (i + 1) * 40 ≤ 140737488355328 := by unfold maxLen; omega
theorem w64le (p : Nat) (h : p ≤ 4398046511104) : wrap64 (p : Int) = (p : Int) ∧ IntKind.i64.wrap (p : Int) = (p : Int) := by
  constructor
  · unfold wrap64; omega
  · rw [IntKind.wrap_i64]; omega
theorem le4 (p n : Nat) (h : n ≤ 2199023255552) (e : n + 1 = p) : p ≤ 4398046511104 := by omega
theorem le5 (n : Nat) (h : n ≤ 1099511627776) : n ≤ 4398046511104 := by omega
theorem le6 (a b c : Nat) (h : a ≤ 2199023255552) (h2 : b ≤ 1099511627776) (e : a + b = c) : c ≤ 4398046511104 := by omega
theorem par_m (s : ByteArray) (M m : Nat) (h : m ≤ (s.data.toList.drop M).length) (hs : s.size ≤ 1099511627776) : m ≤ 1099511627776 := by rw [List.length_drop, size_list] at h; omega
theorem dsz (s : ByteArray) (M : Nat) (hs : s.size ≤ 1099511627776) : (⟨(s.data.toList.drop M).toArray⟩ : ByteArray).size ≤ 1099511627776 := by rw [size_mk, List.length_drop, size_list]; omega
theorem tsz1 (s : ByteArray) (N : Nat) (t : List UInt8) (h : s.data.toList.take N = t) (hs : s.size ≤ 1099511627776) : (⟨t.toArray⟩ : ByteArray).size ≤ 1099511627776 := by rw [size_mk, ← h, List.length_take, size_list]; omega
theorem tsz2 (s : ByteArray) (P k : Nat) (t : List UInt8) (h : (s.data.toList.drop P).take k = t) (hs : s.size ≤ 1099511627776) : (⟨t.toArray⟩ : ByteArray).size ≤ 1099511627776 := by rw [size_mk, ← h, List.length_take, List.length_drop, size_list]; omega
theorem run_step2 (s : List UInt8) (P M i : Nat) (c : UInt8) (hM : P + runL isSg (s.drop P) = M) (h0 : P ≤ i) (h : i ≤ M) (hg : s[i]? = some c) : decide (i < M) = isSg c := by
  have h1 := run_step (s.drop P) (M - P) (i - P) c (by omega) (by omega) (by rw [List.getElem?_drop, show P + (i - P) = i from by omega]; exact hg)
  rw [← h1, Bool.eq_iff_iff]
  simp only [decide_eq_true_eq]
  omega
theorem run_over2 (s : List UInt8) (P M i : Nat) (hM : P + runL isSg (s.drop P) = M) (h0 : P ≤ i) (h : i ≤ M) (hl : s.length ≤ i) : decide (i < M) = false := by
  have h1 := run_over (s.drop P) (M - P) (i - P) (by omega) (by omega) (by rw [List.length_drop]; omega)
  have := of_decide_eq_false h1
  exact decide_eq_false (by omega)
set_option maxHeartbeats 64000000 in
theorem rparts_any (s : ByteArray) (w : World) (hs : s.size ≤ 1099511627776) : Calls Tryz.prog 81 #[.string s] w (MdPost s 198 w) := by
  obtain ⟨W0, hW0⟩ : ∃ W0, w.alloc (.cells zMed 103) = W0 := ⟨_, rfl⟩
  have hb0 : Below w.heap.size w W0 := by rw [← hW0]; exact (Below.refl _ w).alloc (Nat.le_refl _) _
  have hz0 : BlkIs W0 w.heap.size zMed 103 := by rw [← hW0]; exact blkIs_new w _ _
  obtain ⟨N, hN⟩ : ∃ N, runL isSg s.data.toList = N := ⟨_, rfl⟩
  obtain ⟨M, hM⟩ : ∃ M, N + 1 + runL isSg (s.data.toList.drop (N + 1)) = M := ⟨_, rfl⟩
  have hNs : N ≤ s.size := by rw [← hN, ← size_list]; exact runL_le _ _
  have hMs : M ≤ s.size + 1 := by have := runL_at isSg s (N + 1); omega
  have hN41 : N ≤ 2199023255552 := Nat.le_trans hNs (Nat.le_trans hs (by decide))
  have hM41 : M ≤ 2199023255552 := Nat.le_trans hMs (by omega)
  have HB0 := Lib.hid hb0; have HZ0 := Lib.hid hz0; have HW0 := Lib.hid hW0
  have HN := Lib.hid hN; have HM := Lib.hid hM; have HNS := Lib.hid (And.intro hNs hMs); have HS1 := Lib.hid hs
  have HN41 := Lib.hid hN41; have HM41 := Lib.hid hM41
  have hNP : (N : Int) + 1 = ((N + 1 : Nat) : Int) := by omega
  clear hb0 hz0 hW0 hN hM hNs hMs hN41 hM41 hs
  go_enter Tryz.func81, Tryz.ntmps81
  go_wp2
  go_loopw [4] (fun iv wr => ∃ i : Nat, iv = .int .i64 i ∧ i ≤ N ∧ True ∧ wr = W0) (fun iv _ => s.size + 1 - (intOf iv).toNat)
  case atStart => exact ⟨0, rfl, Nat.zero_le _, trivial, HW0.out⟩
  case round =>
    obtain ⟨i, rfl, hi, hlo, hw⟩ := hrel
    obtain rfl : W0 = wr := hw.symm
    go_upto_region 2 with fail
    go_cut [20] (fun s20 wx => s20 = .bool (decide (i < N)) ∧ W0 = wx)
    case first =>
      by_cases hlt : i < s.size
      · obtain ⟨c, hc⟩ : ∃ c, s[i]'hlt = c := ⟨_, rfl⟩
        have hget := list_get s i hlt
        rw [hc] at hget
        have k0 : (0 : Int) ≤ (i : Int) := Int.natCast_nonneg _
        have k1 : (i : Int) < (s.size : Int) := by omega
        have HS := Lib.hid (run_step s.data.toList N i c HN.out hi hget)
        clear hget
        go_wp2_with fail
        refine (rsign_any c _).mono ?_
        rintro e wz ⟨rfl, hwz⟩
        rw [hwz]
        clear hwz
        go_wp2_with fail
        go_meet
        exact ⟨by rw [HS.out], rfl⟩
      · have k1 : (s.size : Int) ≤ (i : Int) := by omega
        have HS := Lib.hid (run_over s.data.toList N i HN.out hi (by rw [size_list]; omega))
        go_wp2_with fail
        go_meet
        exact ⟨by rw [HS.out], rfl⟩
    case rest =>
    obtain ⟨rfl, hw⟩ := hcut
    obtain rfl : W0 = wc := hw
    by_cases hiN : i < N
    · have hd : decide (i < N) = true := decide_eq_true hiN
      have hwi := wrap64_small i (Nat.le_trans hi HN41.out)
      have HW := Lib.hid hwi
      clear hwi
      go_wp2
      have hwi := HW.out
      go_roundw
      case rel => (try rw [hwi]); clear hwi; exact ⟨i + 1, by go_num, hiN, trivial, by first | rfl | trivial⟩
      case measure => (try rw [hwi]); clear hwi; have hns := HNS.out; simp [intOf]; omega
    · have hd : decide (i < N) = false := decide_eq_false hiN
      obtain rfl : N = i := by omega
      obtain ⟨P, hP⟩ : ∃ P, N + 1 = P := ⟨_, rfl⟩
      have hPI : (N : Int) + 1 = (P : Int) := by omega
      have hwP : wrap64 (P : Int) = (P : Int) := (w64le P (le4 P N HN41.out hP)).1
      have hwP2 : IntKind.i64.wrap (P : Int) = (P : Int) := (w64le P (le4 P N HN41.out hP)).2
      have HM2 := Lib.hid (show P + runL isSg (s.data.toList.drop P) = M by have := HM.out; rw [hP] at this; exact this)
      have HPM := Lib.hid (show P ≤ M by have := HM2.out; omega)
      have HP := Lib.hid hP
      clear hP hlo hi hiN hNP
      go_wp2
      go_loopw [5] (fun iv wr => ∃ i : Nat, iv = .int .i64 i ∧ i ≤ M ∧ P ≤ i ∧ wr = W0) (fun iv _ => s.size + 1 - (intOf iv).toNat)
      case atStart => exact ⟨P, rfl, HPM.out, Nat.le_refl _, rfl⟩
      case round =>
        obtain ⟨i, rfl, hi, hlo, hw⟩ := hrel
        obtain rfl : W0 = wr := hw.symm
        go_upto_region 5 with fail
        go_cut [34] (fun s20 wx => s20 = .bool (decide (i < M)) ∧ W0 = wx)
        case first =>
          by_cases hlt : i < s.size
          · obtain ⟨c, hc⟩ : ∃ c, s[i]'hlt = c := ⟨_, rfl⟩
            have hget := list_get s i hlt
            rw [hc] at hget
            have k0 : (0 : Int) ≤ (i : Int) := Int.natCast_nonneg _
            have k1 : (i : Int) < (s.size : Int) := by omega
            have HS := Lib.hid (run_step2 s.data.toList P M i c HM2.out hlo hi hget)
            clear hget
            go_wp2_with fail
            refine (rsign_any c _).mono ?_
            rintro e wz ⟨rfl, hwz⟩
            rw [hwz]
            clear hwz
            go_wp2_with fail
            go_meet
            exact ⟨by rw [HS.out], rfl⟩
          · have k1 : (s.size : Int) ≤ (i : Int) := by omega
            have HS := Lib.hid (run_over2 s.data.toList P M i HM2.out hlo hi (by rw [size_list]; omega))
            go_wp2_with fail
            go_meet
            exact ⟨by rw [HS.out], rfl⟩
        case rest =>
        obtain ⟨rfl, hw⟩ := hcut
        obtain rfl : W0 = wc := hw
        by_cases hiN : i < M
        · have hd : decide (i < M) = true := decide_eq_true hiN
          have hwi := wrap64_small i (Nat.le_trans hi HM41.out)
          have HW := Lib.hid hwi
          clear hwi
          go_wp2
          have hwi := HW.out
          go_roundw
          case rel => (try rw [hwi]); clear hwi; exact ⟨i + 1, by go_num, hiN, Nat.le_succ_of_le hlo, by first | rfl | trivial⟩
          case measure => (try rw [hwi]); clear hwi; have hns := HNS.out; simp [intOf]; omega
        · have hd : decide (i < M) = false := decide_eq_false hiN
          obtain rfl : M = i := by omega
          by_cases h0 : N = 0
          · have b0 : ((N : Int) == 0) = true := by rw [h0]; rfl
            have HR := Lib.hid (mdR_no0 _ N HN.out (Or.inl h0))
            clear h0 hd hwP hwP2
            obtain ⟨z0, z1, z2⟩ := zCells HZ0.out
            have y0 := (HZ0.out).free 0
            have y1 := (HZ0.out).free 1
            have y2 := (HZ0.out).free 2
            have lt5 := (HZ0.out).lt
            have HZZ := Lib.hid (zero_set (HZ0.out))
            have HBB := Lib.hid ((((HB0.out).setCell (p := ⟨w.heap.size, 0, none⟩) (Nat.le_refl _) (.string ⟨#[]⟩)).setCell (p := ⟨w.heap.size, 1, none⟩) (Nat.le_refl _) (.string ⟨#[]⟩)).setCell (p := ⟨w.heap.size, 2, none⟩) (Nat.le_refl _) (.slice none 0 0))
            go_wp2
            (try simp only [Exit.inBlock, Exit.then])
            refine bodyPost_ret (v := mdV noMed (.slice none 0 0)) ?b1r rfl ⟨.slice none 0 0, by rw [HR.out], ?b1o, ?b1b⟩
            case b1r => exact results_rmedia (p := 2) (u := 3) rfl _ _ w.heap.size zMed (0, 0) rfl HZZ.out rfl
            case b1o => rw [HR.out]; exact World.ownsRow_nil _ _ _ _
            case b1b => exact HBB.out
          · have b0 : ((N : Int) == 0) = false := beq_false_of_ne (by omega)
            have H0 := Lib.hid h0
            by_cases h1 : N < s.size
            · obtain ⟨c, hc⟩ : ∃ c, s[N]'h1 = c := ⟨_, rfl⟩
              have hget := list_get s N h1
              rw [hc] at hget
              have k0 : (0 : Int) ≤ (N : Int) := Int.natCast_nonneg _
              have k1 : (N : Int) < (s.size : Int) := by omega
              by_cases h47 : c = 47
              · have hget47 : s.data.toList[N]? = some 47 := by rw [hget, h47]
                have b1 : ((c.toNat : Int) == 47) = true := by rw [h47]; rfl
                have b1' : ((c.toNat : Int) != 47) = false := by rw [h47]; rfl
                by_cases h2 : M = P
                · have b2 : ((M : Int) == (P : Int)) = true := by rw [h2]; simp
                  have HR := Lib.hid (mdR_short _ N M HN.out h0 hget47 HM.out (by rw [h2]; exact HP.out.symm))
                  clear h0 h2 h47 hget hget47 hd
                  obtain ⟨z0, z1, z2⟩ := zCells HZ0.out
                  have y0 := (HZ0.out).free 0
                  have y1 := (HZ0.out).free 1
                  have y2 := (HZ0.out).free 2
                  have lt5 := (HZ0.out).lt
                  have HZZ := Lib.hid (zero_set (HZ0.out))
                  have HBB := Lib.hid ((((HB0.out).setCell (p := ⟨w.heap.size, 0, none⟩) (Nat.le_refl _) (.string ⟨#[]⟩)).setCell (p := ⟨w.heap.size, 1, none⟩) (Nat.le_refl _) (.string ⟨#[]⟩)).setCell (p := ⟨w.heap.size, 2, none⟩) (Nat.le_refl _) (.slice none 0 0))
                  go_wp2
                  (try simp only [Exit.inBlock, Exit.then])
                  refine bodyPost_ret (v := mdV noMed (.slice none 0 0)) ?b2r rfl ⟨.slice none 0 0, by rw [HR.out], ?b2o, ?b2b⟩
                  case b2r => exact results_rmedia (p := 2) (u := 3) rfl _ _ w.heap.size zMed (0, 0) rfl HZZ.out rfl
                  case b2o => rw [HR.out]; exact World.ownsRow_nil _ _ _ _
                  case b2b => exact HBB.out
                · have b2 : ((M : Int) == (P : Int)) = false := beq_false_of_ne (by omega)
                  have H2 := Lib.hid (show M ≠ N + 1 from fun e => h2 (by rw [e]; exact HP.out))
                  have HG := Lib.hid hget47
                  have hMl : M ≤ s.data.toList.length := by rw [size_list]; have := runL_at isSg s P; have := HM2.out; have := HP.out; omega
                  have hMl2 : M ≤ s.size := by rw [← size_list]; exact hMl
                  have m0 : (0 : Int) ≤ (M : Int) := Int.natCast_nonneg _
                  have m1 : (M : Int) ≤ (s.size : Int) := by omega
                  have hx3 := ext_back s M
                  have hsz3 : (⟨(s.data.toList.drop M).toArray⟩ : ByteArray).size ≤ 1099511627776 := dsz s M HS1.out
                  obtain ⟨⟨ps, m, er⟩, hpr⟩ : ∃ r, parR (s.data.toList.drop M) = r := ⟨_, rfl⟩
                  have hpa := rparams_any ⟨(s.data.toList.drop M).toArray⟩ W0 hsz3
                  unfold ParamsPost at hpa
                  rw [show (⟨(s.data.toList.drop M).toArray⟩ : ByteArray).data.toList = s.data.toList.drop M from rfl, hpr] at hpa
                  have hbd := parR_bd7 _ ps m er hpr
                  have HPA := Lib.hid hpa; have HPR := Lib.hid hpr; have HML := Lib.hid hMl; have HBD := Lib.hid hbd
                  clear h0 h2 h47 hget hget47 hd hpa hpr hMl hMl2 hsz3 hbd
                  go_wp2_with fail
                  refine (HPA.out).mono ?_
                  rintro e w1 ⟨lv, rfl, hown, hb1⟩
                  have HZ1 := Lib.hid (HZ0.out.later hb1)
                  have HB1 := Lib.hid (HB0.out.trans (hb1.mono HB0.out.size))
                  have HO1 := Lib.hid (own_base hown HB0.out.size)
                  clear hown hb1 hx3
                  by_cases he : er = 0
                  · subst he
                    by_cases hq : M + m = s.size
                    · have HQ := Lib.hid hq
                      have f3 : (M : Int) + (m : Int) = (s.size : Int) := by omega
                      have fb : ((s.size : Int) != (s.size : Int)) = false := by simp
                      have hwS : wrap64 (s.size : Int) = (s.size : Int) := (w64le s.size (le5 _ HS1.out)).1
                      have hwS2 : IntKind.i64.wrap (s.size : Int) = (s.size : Int) := (w64le s.size (le5 _ HS1.out)).2
                      clear hq
                      obtain ⟨D, hD⟩ : ∃ D, w1.drew = D := ⟨_, rfl⟩
                      obtain ⟨t1, ht1⟩ : ∃ t, s.data.toList.take N = t := ⟨_, rfl⟩
                      obtain ⟨t2, ht2⟩ : ∃ t, (s.data.toList.drop P).take (M - P) = t := ⟨_, rfl⟩
                      have hx1 : s.extract 0 N = ⟨t1.toArray⟩ := by rw [ext_front, ht1]
                      have hx2 : s.extract P M = ⟨t2.toArray⟩ := by rw [ext_mk, ht2]
                      have hl1 := fun w => rlower_any ⟨t1.toArray⟩ w (tsz1 s N t1 ht1 HS1.out)
                      have hl2 := fun w => rlower_any ⟨t2.toArray⟩ w (tsz2 s P (M - P) t2 ht2 HS1.out)
                      rw [show (⟨t1.toArray⟩ : ByteArray).data.toList = t1 from rfl] at hl1
                      rw [show (⟨t2.toArray⟩ : ByteArray).data.toList = t2 from rfl] at hl2
                      obtain ⟨ty, hty⟩ : ∃ t, lowL t1 = t := ⟨_, rfl⟩
                      obtain ⟨sub, hsub⟩ : ∃ t, lowL t2 = t := ⟨_, rfl⟩
                      rw [hty] at hl1
                      rw [hsub] at hl2
                      have HR := Lib.hid (show mdR s.data.toList = (ty, sub, ps.map lowP, true) by
                        rw [mdR_good _ N M m ps HN.out H0.out HG.out HM.out H2.out HML.out HPR.out (by rw [size_list]; exact HQ.out), ht1, hty]
                        rw [show N + 1 = P from HP.out, ht2, hsub])
                      have p0 : (0 : Int) ≤ (P : Int) := Int.natCast_nonneg _
                      have p1 : (P : Int) ≤ (M : Int) := by have := HPM.out; omega
                      have n2 : (N : Int) ≤ (s.size : Int) := by omega
                      have HD := Lib.hid hD; have HL1 := Lib.hid hl1; have HL2 := Lib.hid hl2
                      clear hD hl1 hl2 ht1 ht2 hty hsub
                      go_upto_region 12 with fail
                      go_cut [9] (fun s9 wx => ∃ a g, s9 = .pointer (some ⟨a, 0, none⟩) ∧ Pr12 D ty sub a g wx)
                      case first =>
                        have FB := Lib.hid (Below.refl D.heap.size D)
                        refine wp_region_each 14 (by kernel_rfl) (by kernel_rfl) ?_
                        rw [HD.out]
                        refine each_take (i := 0) rfl (by kernel_rfl) (by kernel_rfl) (by kernel_rfl) (v := ?_) ?_ ?_; rotate_left; · (intro w; go_simp; with_reducible rfl)
                        refine each_take (i := 1) rfl (by kernel_rfl) (by kernel_rfl) (by kernel_rfl) (v := ?_) ?_ ?_; rotate_left; · (intro w; go_simp; with_reducible rfl)
                        refine each_take (i := 2) rfl (by kernel_rfl) (by kernel_rfl) (by kernel_rfl) (v := ?_) ?_ ?_; rotate_left; · (intro w; go_simp; with_reducible rfl)
                        refine each_take (i := 4) rfl (by kernel_rfl) (by kernel_rfl) (by kernel_rfl) (v := ?_) ?_ ?_; rotate_left; · (intro w; go_simp; with_reducible rfl)
                        refine each_take (i := 5) rfl (by kernel_rfl) (by kernel_rfl) (by kernel_rfl) (v := ?_) ?_ ?_; rotate_left; · (intro w; go_simp; with_reducible rfl)
                        refine each_take (i := 6) rfl (by kernel_rfl) (by kernel_rfl) (by kernel_rfl) (v := ?_) ?_ ?_; rotate_left; · (intro w; go_simp; with_reducible rfl)
                        refine each_take (i := 7) rfl (by kernel_rfl) (by kernel_rfl) (by kernel_rfl) (v := ?_) ?_ ?_; rotate_left; · (intro w; go_simp; with_reducible rfl)
                        refine each_take (i := 8) rfl (by kernel_rfl) (by kernel_rfl) (by kernel_rfl) (v := ?_) ?_ ?_; rotate_left; · (intro w; go_simp; with_reducible rfl)
                        refine each3 (i := 3) (j := 10) (k := 12) (by kernel_rfl) rfl rfl rfl ?_ ?_ ?_
                        · as_aux_lemma =>
                            intro K hK
                            go_simp
                            refine (HL1.out _).mono ?_
                            rintro e W1 ⟨rfl, hbn⟩
                            refine hK _ _ ?_
                            clear hK K
                            have FB := Lib.hid (FB.out.trans (hbn.mono FB.out.size))
                            clear hbn
                            refine each3 (i := 9) (j := 10) (k := 12) (by kernel_rfl) rfl rfl rfl ?_ ?_ ?_
                            · as_aux_lemma =>
                                intro K hK
                                go_simp
                                refine (HL2.out _).mono ?_
                                rintro e W2 ⟨rfl, hbn⟩
                                refine hK _ _ ?_
                                clear hK K
                                have FB := Lib.hid (FB.out.trans (hbn.mono FB.out.size))
                                clear hbn
                                refine each2 (i := 10) (j := 12) (by kernel_rfl) rfl rfl ?_ ?_
                                · intro K hK
                                  go_simp
                                  obtain ⟨W3, hV⟩ : ∃ V, W2.alloc (.cells #[] 198) = V := ⟨_, rfl⟩
                                  rw [hV]
                                  refine hK _ _ ?_
                                  clear hK K
                                  have FGL := Lib.hid FB.out.size
                                  have FB := Lib.hid (show Below D.heap.size D W3 by rw [← hV]; exact FB.out.alloc FB.out.size _)
                                  have FG := Lib.hid (show BlkIs W3 W2.heap.size #[] 198 by rw [← hV]; exact blkIs_new _ _ _)
                                  clear hV
                                  refine each_take (i := 11) rfl (by kernel_rfl) (by kernel_rfl) (by kernel_rfl) (v := ?_) ?_ ?_; rotate_left; · (intro w; go_simp; with_reducible rfl)
                                  refine each1 (i := 12) (by kernel_rfl) rfl ?_
                                  · intro K hK
                                    go_simp
                                    obtain ⟨W4, hV⟩ : ∃ V, W3.alloc (.cells zMed 103) = V := ⟨_, rfl⟩
                                    rw [hV]
                                    refine hK _ _ ?_
                                    clear hK K
                                    have FAL := Lib.hid FB.out.size
                                    have FB := Lib.hid (show Below D.heap.size D W4 by rw [← hV]; exact FB.out.alloc FB.out.size _)
                                    have FG := Lib.hid (hV ▸ FG.out.alloc (.cells zMed 103))
                                    have FA := Lib.hid (show BlkIs W4 W3.heap.size zMed 103 by rw [← hV]; exact blkIs_new _ _ _)
                                    clear hV
                                    refine each1 (i := 13) (by kernel_rfl) rfl ?_
                                    intro K hK
                                    obtain ⟨z0, z1, z2⟩ := zCells FA.out
                                    have y0 := FA.out.free 0
                                    have y1 := FA.out.free 1
                                    have y2 := FA.out.free 2
                                    have lt5 := FA.out.lt
                                    go_simp
                                    clear z0 z1 z2 y0 y1 y2 lt5
                                    refine hK _ _ ?_
                                    clear hK K
                                    refine each_done (by kernel_rfl) ?_
                                    go_simp
                                    go_wp2_with fail
                                    go_meet
                                    exact ⟨_, _, rfl, pr12_leaf FB.out FGL.out FG.out FAL.out FA.out⟩
                                · intro K hK
                                  go_simp
                                  obtain ⟨W3, hV⟩ : ∃ V, W2.alloc (.cells zMed 103) = V := ⟨_, rfl⟩
                                  rw [hV]
                                  refine hK _ _ ?_
                                  clear hK K
                                  have FAL := Lib.hid FB.out.size
                                  have FB := Lib.hid (show Below D.heap.size D W3 by rw [← hV]; exact FB.out.alloc FB.out.size _)
                                  have FA := Lib.hid (show BlkIs W3 W2.heap.size zMed 103 by rw [← hV]; exact blkIs_new _ _ _)
                                  clear hV
                                  refine each1 (i := 10) (by kernel_rfl) rfl ?_
                                  · intro K hK
                                    go_simp
                                    obtain ⟨W4, hV⟩ : ∃ V, W3.alloc (.cells #[] 198) = V := ⟨_, rfl⟩
                                    rw [hV]
                                    refine hK _ _ ?_
                                    clear hK K
                                    have FGL := Lib.hid FB.out.size
                                    have FB := Lib.hid (show Below D.heap.size D W4 by rw [← hV]; exact FB.out.alloc FB.out.size _)
                                    have FA := Lib.hid (hV ▸ FA.out.alloc (.cells #[] 198))
                                    have FG := Lib.hid (show BlkIs W4 W3.heap.size #[] 198 by rw [← hV]; exact blkIs_new _ _ _)
                                    clear hV
                                    refine each_take (i := 11) rfl (by kernel_rfl) (by kernel_rfl) (by kernel_rfl) (v := ?_) ?_ ?_; rotate_left; · (intro w; go_simp; with_reducible rfl)
                                    refine each1 (i := 13) (by kernel_rfl) rfl ?_
                                    intro K hK
                                    obtain ⟨z0, z1, z2⟩ := zCells FA.out
                                    have y0 := FA.out.free 0
                                    have y1 := FA.out.free 1
                                    have y2 := FA.out.free 2
                                    have lt5 := FA.out.lt
                                    go_simp
                                    clear z0 z1 z2 y0 y1 y2 lt5
                                    refine hK _ _ ?_
                                    clear hK K
                                    refine each_done (by kernel_rfl) ?_
                                    go_simp
                                    go_wp2_with fail
                                    go_meet
                                    exact ⟨_, _, rfl, pr12_leaf FB.out FGL.out FG.out FAL.out FA.out⟩
                            · as_aux_lemma =>
                                intro K hK
                                go_simp
                                obtain ⟨W2, hV⟩ : ∃ V, W1.alloc (.cells #[] 198) = V := ⟨_, rfl⟩
                                rw [hV]
                                refine hK _ _ ?_
                                clear hK K
                                have FGL := Lib.hid FB.out.size
                                have FB := Lib.hid (show Below D.heap.size D W2 by rw [← hV]; exact FB.out.alloc FB.out.size _)
                                have FG := Lib.hid (show BlkIs W2 W1.heap.size #[] 198 by rw [← hV]; exact blkIs_new _ _ _)
                                clear hV
                                refine each2 (i := 9) (j := 12) (by kernel_rfl) rfl rfl ?_ ?_
                                · intro K hK
                                  go_simp
                                  refine (HL2.out _).mono ?_
                                  rintro e W3 ⟨rfl, hbn⟩
                                  refine hK _ _ ?_
                                  clear hK K
                                  have FB := Lib.hid (FB.out.trans (hbn.mono FB.out.size))
                                  have FG := Lib.hid (FG.out.later hbn)
                                  clear hbn
                                  refine each_take (i := 11) rfl (by kernel_rfl) (by kernel_rfl) (by kernel_rfl) (v := ?_) ?_ ?_; rotate_left; · (intro w; go_simp; with_reducible rfl)
                                  refine each1 (i := 12) (by kernel_rfl) rfl ?_
                                  · intro K hK
                                    go_simp
                                    obtain ⟨W4, hV⟩ : ∃ V, W3.alloc (.cells zMed 103) = V := ⟨_, rfl⟩
                                    rw [hV]
                                    refine hK _ _ ?_
                                    clear hK K
                                    have FAL := Lib.hid FB.out.size
                                    have FB := Lib.hid (show Below D.heap.size D W4 by rw [← hV]; exact FB.out.alloc FB.out.size _)
                                    have FG := Lib.hid (hV ▸ FG.out.alloc (.cells zMed 103))
                                    have FA := Lib.hid (show BlkIs W4 W3.heap.size zMed 103 by rw [← hV]; exact blkIs_new _ _ _)
                                    clear hV
                                    refine each1 (i := 13) (by kernel_rfl) rfl ?_
                                    intro K hK
                                    obtain ⟨z0, z1, z2⟩ := zCells FA.out
                                    have y0 := FA.out.free 0
                                    have y1 := FA.out.free 1
                                    have y2 := FA.out.free 2
                                    have lt5 := FA.out.lt
                                    go_simp
                                    clear z0 z1 z2 y0 y1 y2 lt5
                                    refine hK _ _ ?_
                                    clear hK K
                                    refine each_done (by kernel_rfl) ?_
                                    go_simp
                                    go_wp2_with fail
                                    go_meet
                                    exact ⟨_, _, rfl, pr12_leaf FB.out FGL.out FG.out FAL.out FA.out⟩
                                · intro K hK
                                  go_simp
                                  obtain ⟨W3, hV⟩ : ∃ V, W2.alloc (.cells zMed 103) = V := ⟨_, rfl⟩
                                  rw [hV]
                                  refine hK _ _ ?_
                                  clear hK K
                                  have FAL := Lib.hid FB.out.size
                                  have FB := Lib.hid (show Below D.heap.size D W3 by rw [← hV]; exact FB.out.alloc FB.out.size _)
                                  have FG := Lib.hid (hV ▸ FG.out.alloc (.cells zMed 103))
                                  have FA := Lib.hid (show BlkIs W3 W2.heap.size zMed 103 by rw [← hV]; exact blkIs_new _ _ _)
                                  clear hV
                                  refine each1 (i := 9) (by kernel_rfl) rfl ?_
                                  · intro K hK
                                    go_simp
                                    refine (HL2.out _).mono ?_
                                    rintro e W4 ⟨rfl, hbn⟩
                                    refine hK _ _ ?_
                                    clear hK K
                                    have FB := Lib.hid (FB.out.trans (hbn.mono FB.out.size))
                                    have FG := Lib.hid (FG.out.later hbn)
                                    have FA := Lib.hid (FA.out.later hbn)
                                    clear hbn
                                    refine each_take (i := 11) rfl (by kernel_rfl) (by kernel_rfl) (by kernel_rfl) (v := ?_) ?_ ?_; rotate_left; · (intro w; go_simp; with_reducible rfl)
                                    refine each1 (i := 13) (by kernel_rfl) rfl ?_
                                    intro K hK
                                    obtain ⟨z0, z1, z2⟩ := zCells FA.out
                                    have y0 := FA.out.free 0
                                    have y1 := FA.out.free 1
                                    have y2 := FA.out.free 2
                                    have lt5 := FA.out.lt
                                    go_simp
                                    clear z0 z1 z2 y0 y1 y2 lt5
                                    refine hK _ _ ?_
                                    clear hK K
                                    refine each_done (by kernel_rfl) ?_
                                    go_simp
                                    go_wp2_with fail
                                    go_meet
                                    exact ⟨_, _, rfl, pr12_leaf FB.out FGL.out FG.out FAL.out FA.out⟩
                            · as_aux_lemma =>
                                intro K hK
                                go_simp
                                obtain ⟨W2, hV⟩ : ∃ V, W1.alloc (.cells zMed 103) = V := ⟨_, rfl⟩
                                rw [hV]
                                refine hK _ _ ?_
                                clear hK K
                                have FAL := Lib.hid FB.out.size
                                have FB := Lib.hid (show Below D.heap.size D W2 by rw [← hV]; exact FB.out.alloc FB.out.size _)
                                have FA := Lib.hid (show BlkIs W2 W1.heap.size zMed 103 by rw [← hV]; exact blkIs_new _ _ _)
                                clear hV
                                refine each2 (i := 9) (j := 10) (by kernel_rfl) rfl rfl ?_ ?_
                                · intro K hK
                                  go_simp
                                  refine (HL2.out _).mono ?_
                                  rintro e W3 ⟨rfl, hbn⟩
                                  refine hK _ _ ?_
                                  clear hK K
                                  have FB := Lib.hid (FB.out.trans (hbn.mono FB.out.size))
                                  have FA := Lib.hid (FA.out.later hbn)
                                  clear hbn
                                  refine each1 (i := 10) (by kernel_rfl) rfl ?_
                                  · intro K hK
                                    go_simp
                                    obtain ⟨W4, hV⟩ : ∃ V, W3.alloc (.cells #[] 198) = V := ⟨_, rfl⟩
                                    rw [hV]
                                    refine hK _ _ ?_
                                    clear hK K
                                    have FGL := Lib.hid FB.out.size
                                    have FB := Lib.hid (show Below D.heap.size D W4 by rw [← hV]; exact FB.out.alloc FB.out.size _)
                                    have FA := Lib.hid (hV ▸ FA.out.alloc (.cells #[] 198))
                                    have FG := Lib.hid (show BlkIs W4 W3.heap.size #[] 198 by rw [← hV]; exact blkIs_new _ _ _)
                                    clear hV
                                    refine each_take (i := 11) rfl (by kernel_rfl) (by kernel_rfl) (by kernel_rfl) (v := ?_) ?_ ?_; rotate_left; · (intro w; go_simp; with_reducible rfl)
                                    refine each1 (i := 13) (by kernel_rfl) rfl ?_
                                    intro K hK
                                    obtain ⟨z0, z1, z2⟩ := zCells FA.out
                                    have y0 := FA.out.free 0
                                    have y1 := FA.out.free 1
                                    have y2 := FA.out.free 2
                                    have lt5 := FA.out.lt
                                    go_simp
                                    clear z0 z1 z2 y0 y1 y2 lt5
                                    refine hK _ _ ?_
                                    clear hK K
                                    refine each_done (by kernel_rfl) ?_
                                    go_simp
                                    go_wp2_with fail
                                    go_meet
                                    exact ⟨_, _, rfl, pr12_leaf FB.out FGL.out FG.out FAL.out FA.out⟩
                                · intro K hK
                                  go_simp
                                  obtain ⟨W3, hV⟩ : ∃ V, W2.alloc (.cells #[] 198) = V := ⟨_, rfl⟩
                                  rw [hV]
                                  refine hK _ _ ?_
                                  clear hK K
                                  have FGL := Lib.hid FB.out.size
                                  have FB := Lib.hid (show Below D.heap.size D W3 by rw [← hV]; exact FB.out.alloc FB.out.size _)
                                  have FA := Lib.hid (hV ▸ FA.out.alloc (.cells #[] 198))
                                  have FG := Lib.hid (show BlkIs W3 W2.heap.size #[] 198 by rw [← hV]; exact blkIs_new _ _ _)
                                  clear hV
                                  refine each1 (i := 9) (by kernel_rfl) rfl ?_
                                  · intro K hK
                                    go_simp
                                    refine (HL2.out _).mono ?_
                                    rintro e W4 ⟨rfl, hbn⟩
                                    refine hK _ _ ?_
                                    clear hK K
                                    have FB := Lib.hid (FB.out.trans (hbn.mono FB.out.size))
                                    have FG := Lib.hid (FG.out.later hbn)
                                    have FA := Lib.hid (FA.out.later hbn)
                                    clear hbn
                                    refine each_take (i := 11) rfl (by kernel_rfl) (by kernel_rfl) (by kernel_rfl) (v := ?_) ?_ ?_; rotate_left; · (intro w; go_simp; with_reducible rfl)
                                    refine each1 (i := 13) (by kernel_rfl) rfl ?_
                                    intro K hK
                                    obtain ⟨z0, z1, z2⟩ := zCells FA.out
                                    have y0 := FA.out.free 0
                                    have y1 := FA.out.free 1
                                    have y2 := FA.out.free 2
                                    have lt5 := FA.out.lt
                                    go_simp
                                    clear z0 z1 z2 y0 y1 y2 lt5
                                    refine hK _ _ ?_
                                    clear hK K
                                    refine each_done (by kernel_rfl) ?_
                                    go_simp
                                    go_wp2_with fail
                                    go_meet
                                    exact ⟨_, _, rfl, pr12_leaf FB.out FGL.out FG.out FAL.out FA.out⟩
                        · as_aux_lemma =>
                            intro K hK
                            go_simp
                            obtain ⟨W1, hV⟩ : ∃ V, D.alloc (.cells #[] 198) = V := ⟨_, rfl⟩
                            rw [hV]
                            refine hK _ _ ?_
                            clear hK K
                            have FGL := Lib.hid FB.out.size
                            have FB := Lib.hid (show Below D.heap.size D W1 by rw [← hV]; exact FB.out.alloc FB.out.size _)
                            have FG := Lib.hid (show BlkIs W1 D.heap.size #[] 198 by rw [← hV]; exact blkIs_new _ _ _)
                            clear hV
                            refine each2 (i := 3) (j := 12) (by kernel_rfl) rfl rfl ?_ ?_
                            · as_aux_lemma =>
                                intro K hK
                                go_simp
                                refine (HL1.out _).mono ?_
                                rintro e W2 ⟨rfl, hbn⟩
                                refine hK _ _ ?_
                                clear hK K
                                have FB := Lib.hid (FB.out.trans (hbn.mono FB.out.size))
                                have FG := Lib.hid (FG.out.later hbn)
                                clear hbn
                                refine each2 (i := 9) (j := 12) (by kernel_rfl) rfl rfl ?_ ?_
                                · intro K hK
                                  go_simp
                                  refine (HL2.out _).mono ?_
                                  rintro e W3 ⟨rfl, hbn⟩
                                  refine hK _ _ ?_
                                  clear hK K
                                  have FB := Lib.hid (FB.out.trans (hbn.mono FB.out.size))
                                  have FG := Lib.hid (FG.out.later hbn)
                                  clear hbn
                                  refine each_take (i := 11) rfl (by kernel_rfl) (by kernel_rfl) (by kernel_rfl) (v := ?_) ?_ ?_; rotate_left; · (intro w; go_simp; with_reducible rfl)
                                  refine each1 (i := 12) (by kernel_rfl) rfl ?_
                                  · intro K hK
                                    go_simp
                                    obtain ⟨W4, hV⟩ : ∃ V, W3.alloc (.cells zMed 103) = V := ⟨_, rfl⟩
                                    rw [hV]
                                    refine hK _ _ ?_
                                    clear hK K
                                    have FAL := Lib.hid FB.out.size
                                    have FB := Lib.hid (show Below D.heap.size D W4 by rw [← hV]; exact FB.out.alloc FB.out.size _)
                                    have FG := Lib.hid (hV ▸ FG.out.alloc (.cells zMed 103))
                                    have FA := Lib.hid (show BlkIs W4 W3.heap.size zMed 103 by rw [← hV]; exact blkIs_new _ _ _)
                                    clear hV
                                    refine each1 (i := 13) (by kernel_rfl) rfl ?_
                                    intro K hK
                                    obtain ⟨z0, z1, z2⟩ := zCells FA.out
                                    have y0 := FA.out.free 0
                                    have y1 := FA.out.free 1
                                    have y2 := FA.out.free 2
                                    have lt5 := FA.out.lt
                                    go_simp
                                    clear z0 z1 z2 y0 y1 y2 lt5
                                    refine hK _ _ ?_
                                    clear hK K
                                    refine each_done (by kernel_rfl) ?_
                                    go_simp
                                    go_wp2_with fail
                                    go_meet
                                    exact ⟨_, _, rfl, pr12_leaf FB.out FGL.out FG.out FAL.out FA.out⟩
                                · intro K hK
                                  go_simp
                                  obtain ⟨W3, hV⟩ : ∃ V, W2.alloc (.cells zMed 103) = V := ⟨_, rfl⟩
                                  rw [hV]
                                  refine hK _ _ ?_
                                  clear hK K
                                  have FAL := Lib.hid FB.out.size
                                  have FB := Lib.hid (show Below D.heap.size D W3 by rw [← hV]; exact FB.out.alloc FB.out.size _)
                                  have FG := Lib.hid (hV ▸ FG.out.alloc (.cells zMed 103))
                                  have FA := Lib.hid (show BlkIs W3 W2.heap.size zMed 103 by rw [← hV]; exact blkIs_new _ _ _)
                                  clear hV
                                  refine each1 (i := 9) (by kernel_rfl) rfl ?_
                                  · intro K hK
                                    go_simp
                                    refine (HL2.out _).mono ?_
                                    rintro e W4 ⟨rfl, hbn⟩
                                    refine hK _ _ ?_
                                    clear hK K
                                    have FB := Lib.hid (FB.out.trans (hbn.mono FB.out.size))
                                    have FG := Lib.hid (FG.out.later hbn)
                                    have FA := Lib.hid (FA.out.later hbn)
                                    clear hbn
                                    refine each_take (i := 11) rfl (by kernel_rfl) (by kernel_rfl) (by kernel_rfl) (v := ?_) ?_ ?_; rotate_left; · (intro w; go_simp; with_reducible rfl)
                                    refine each1 (i := 13) (by kernel_rfl) rfl ?_
                                    intro K hK
                                    obtain ⟨z0, z1, z2⟩ := zCells FA.out
                                    have y0 := FA.out.free 0
                                    have y1 := FA.out.free 1
                                    have y2 := FA.out.free 2
                                    have lt5 := FA.out.lt
                                    go_simp
                                    clear z0 z1 z2 y0 y1 y2 lt5
                                    refine hK _ _ ?_
                                    clear hK K
                                    refine each_done (by kernel_rfl) ?_
                                    go_simp
                                    go_wp2_with fail
                                    go_meet
                                    exact ⟨_, _, rfl, pr12_leaf FB.out FGL.out FG.out FAL.out FA.out⟩
                            · as_aux_lemma =>
                                intro K hK
                                go_simp
                                obtain ⟨W2, hV⟩ : ∃ V, W1.alloc (.cells zMed 103) = V := ⟨_, rfl⟩
                                rw [hV]
                                refine hK _ _ ?_
                                clear hK K
                                have FAL := Lib.hid FB.out.size
                                have FB := Lib.hid (show Below D.heap.size D W2 by rw [← hV]; exact FB.out.alloc FB.out.size _)
                                have FG := Lib.hid (hV ▸ FG.out.alloc (.cells zMed 103))
                                have FA := Lib.hid (show BlkIs W2 W1.heap.size zMed 103 by rw [← hV]; exact blkIs_new _ _ _)
                                clear hV
                                refine each1 (i := 3) (by kernel_rfl) rfl ?_
                                · intro K hK
                                  go_simp
                                  refine (HL1.out _).mono ?_
                                  rintro e W3 ⟨rfl, hbn⟩
                                  refine hK _ _ ?_
                                  clear hK K
                                  have FB := Lib.hid (FB.out.trans (hbn.mono FB.out.size))
                                  have FG := Lib.hid (FG.out.later hbn)
                                  have FA := Lib.hid (FA.out.later hbn)
                                  clear hbn
                                  refine each1 (i := 9) (by kernel_rfl) rfl ?_
                                  · intro K hK
                                    go_simp
                                    refine (HL2.out _).mono ?_
                                    rintro e W4 ⟨rfl, hbn⟩
                                    refine hK _ _ ?_
                                    clear hK K
                                    have FB := Lib.hid (FB.out.trans (hbn.mono FB.out.size))
                                    have FG := Lib.hid (FG.out.later hbn)
                                    have FA := Lib.hid (FA.out.later hbn)
                                    clear hbn
                                    refine each_take (i := 11) rfl (by kernel_rfl) (by kernel_rfl) (by kernel_rfl) (v := ?_) ?_ ?_; rotate_left; · (intro w; go_simp; with_reducible rfl)
                                    refine each1 (i := 13) (by kernel_rfl) rfl ?_
                                    intro K hK
                                    obtain ⟨z0, z1, z2⟩ := zCells FA.out
                                    have y0 := FA.out.free 0
                                    have y1 := FA.out.free 1
                                    have y2 := FA.out.free 2
                                    have lt5 := FA.out.lt
                                    go_simp
                                    clear z0 z1 z2 y0 y1 y2 lt5
                                    refine hK _ _ ?_
                                    clear hK K
                                    refine each_done (by kernel_rfl) ?_
                                    go_simp
                                    go_wp2_with fail
                                    go_meet
                                    exact ⟨_, _, rfl, pr12_leaf FB.out FGL.out FG.out FAL.out FA.out⟩
                        · as_aux_lemma =>
                            intro K hK
                            go_simp
                            obtain ⟨W1, hV⟩ : ∃ V, D.alloc (.cells zMed 103) = V := ⟨_, rfl⟩
                            rw [hV]
                            refine hK _ _ ?_
                            clear hK K
                            have FAL := Lib.hid FB.out.size
                            have FB := Lib.hid (show Below D.heap.size D W1 by rw [← hV]; exact FB.out.alloc FB.out.size _)
                            have FA := Lib.hid (show BlkIs W1 D.heap.size zMed 103 by rw [← hV]; exact blkIs_new _ _ _)
                            clear hV
                            refine each2 (i := 3) (j := 10) (by kernel_rfl) rfl rfl ?_ ?_
                            · as_aux_lemma =>
                                intro K hK
                                go_simp
                                refine (HL1.out _).mono ?_
                                rintro e W2 ⟨rfl, hbn⟩
                                refine hK _ _ ?_
                                clear hK K
                                have FB := Lib.hid (FB.out.trans (hbn.mono FB.out.size))
                                have FA := Lib.hid (FA.out.later hbn)
                                clear hbn
                                refine each2 (i := 9) (j := 10) (by kernel_rfl) rfl rfl ?_ ?_
                                · intro K hK
                                  go_simp
                                  refine (HL2.out _).mono ?_
                                  rintro e W3 ⟨rfl, hbn⟩
                                  refine hK _ _ ?_
                                  clear hK K
                                  have FB := Lib.hid (FB.out.trans (hbn.mono FB.out.size))
                                  have FA := Lib.hid (FA.out.later hbn)
                                  clear hbn
                                  refine each1 (i := 10) (by kernel_rfl) rfl ?_
                                  · intro K hK
                                    go_simp
                                    obtain ⟨W4, hV⟩ : ∃ V, W3.alloc (.cells #[] 198) = V := ⟨_, rfl⟩
                                    rw [hV]
                                    refine hK _ _ ?_
                                    clear hK K
                                    have FGL := Lib.hid FB.out.size
                                    have FB := Lib.hid (show Below D.heap.size D W4 by rw [← hV]; exact FB.out.alloc FB.out.size _)
                                    have FA := Lib.hid (hV ▸ FA.out.alloc (.cells #[] 198))
                                    have FG := Lib.hid (show BlkIs W4 W3.heap.size #[] 198 by rw [← hV]; exact blkIs_new _ _ _)
                                    clear hV
                                    refine each_take (i := 11) rfl (by kernel_rfl) (by kernel_rfl) (by kernel_rfl) (v := ?_) ?_ ?_; rotate_left; · (intro w; go_simp; with_reducible rfl)
                                    refine each1 (i := 13) (by kernel_rfl) rfl ?_
                                    intro K hK
                                    obtain ⟨z0, z1, z2⟩ := zCells FA.out
                                    have y0 := FA.out.free 0
                                    have y1 := FA.out.free 1
                                    have y2 := FA.out.free 2
                                    have lt5 := FA.out.lt
                                    go_simp
                                    clear z0 z1 z2 y0 y1 y2 lt5
                                    refine hK _ _ ?_
                                    clear hK K
                                    refine each_done (by kernel_rfl) ?_
                                    go_simp
                                    go_wp2_with fail
                                    go_meet
                                    exact ⟨_, _, rfl, pr12_leaf FB.out FGL.out FG.out FAL.out FA.out⟩
                                · intro K hK
                                  go_simp
                                  obtain ⟨W3, hV⟩ : ∃ V, W2.alloc (.cells #[] 198) = V := ⟨_, rfl⟩
                                  rw [hV]
                                  refine hK _ _ ?_
                                  clear hK K
                                  have FGL := Lib.hid FB.out.size
                                  have FB := Lib.hid (show Below D.heap.size D W3 by rw [← hV]; exact FB.out.alloc FB.out.size _)
                                  have FA := Lib.hid (hV ▸ FA.out.alloc (.cells #[] 198))
                                  have FG := Lib.hid (show BlkIs W3 W2.heap.size #[] 198 by rw [← hV]; exact blkIs_new _ _ _)
                                  clear hV
                                  refine each1 (i := 9) (by kernel_rfl) rfl ?_
                                  · intro K hK
                                    go_simp
                                    refine (HL2.out _).mono ?_
                                    rintro e W4 ⟨rfl, hbn⟩
                                    refine hK _ _ ?_
                                    clear hK K
                                    have FB := Lib.hid (FB.out.trans (hbn.mono FB.out.size))
                                    have FG := Lib.hid (FG.out.later hbn)
                                    have FA := Lib.hid (FA.out.later hbn)
                                    clear hbn
                                    refine each_take (i := 11) rfl (by kernel_rfl) (by kernel_rfl) (by kernel_rfl) (v := ?_) ?_ ?_; rotate_left; · (intro w; go_simp; with_reducible rfl)
                                    refine each1 (i := 13) (by kernel_rfl) rfl ?_
                                    intro K hK
                                    obtain ⟨z0, z1, z2⟩ := zCells FA.out
                                    have y0 := FA.out.free 0
                                    have y1 := FA.out.free 1
                                    have y2 := FA.out.free 2
                                    have lt5 := FA.out.lt
                                    go_simp
                                    clear z0 z1 z2 y0 y1 y2 lt5
                                    refine hK _ _ ?_
                                    clear hK K
                                    refine each_done (by kernel_rfl) ?_
                                    go_simp
                                    go_wp2_with fail
                                    go_meet
                                    exact ⟨_, _, rfl, pr12_leaf FB.out FGL.out FG.out FAL.out FA.out⟩
                            · as_aux_lemma =>
                                intro K hK
                                go_simp
                                obtain ⟨W2, hV⟩ : ∃ V, W1.alloc (.cells #[] 198) = V := ⟨_, rfl⟩
                                rw [hV]
                                refine hK _ _ ?_
                                clear hK K
                                have FGL := Lib.hid FB.out.size
                                have FB := Lib.hid (show Below D.heap.size D W2 by rw [← hV]; exact FB.out.alloc FB.out.size _)
                                have FA := Lib.hid (hV ▸ FA.out.alloc (.cells #[] 198))
                                have FG := Lib.hid (show BlkIs W2 W1.heap.size #[] 198 by rw [← hV]; exact blkIs_new _ _ _)
                                clear hV
                                refine each1 (i := 3) (by kernel_rfl) rfl ?_
                                · intro K hK
                                  go_simp
                                  refine (HL1.out _).mono ?_
                                  rintro e W3 ⟨rfl, hbn⟩
                                  refine hK _ _ ?_
                                  clear hK K
                                  have FB := Lib.hid (FB.out.trans (hbn.mono FB.out.size))
                                  have FG := Lib.hid (FG.out.later hbn)
                                  have FA := Lib.hid (FA.out.later hbn)
                                  clear hbn
                                  refine each1 (i := 9) (by kernel_rfl) rfl ?_
                                  · intro K hK
                                    go_simp
                                    refine (HL2.out _).mono ?_
                                    rintro e W4 ⟨rfl, hbn⟩
                                    refine hK _ _ ?_
                                    clear hK K
                                    have FB := Lib.hid (FB.out.trans (hbn.mono FB.out.size))
                                    have FG := Lib.hid (FG.out.later hbn)
                                    have FA := Lib.hid (FA.out.later hbn)
                                    clear hbn
                                    refine each_take (i := 11) rfl (by kernel_rfl) (by kernel_rfl) (by kernel_rfl) (v := ?_) ?_ ?_; rotate_left; · (intro w; go_simp; with_reducible rfl)
                                    refine each1 (i := 13) (by kernel_rfl) rfl ?_
                                    intro K hK
                                    obtain ⟨z0, z1, z2⟩ := zCells FA.out
                                    have y0 := FA.out.free 0
                                    have y1 := FA.out.free 1
                                    have y2 := FA.out.free 2
                                    have lt5 := FA.out.lt
                                    go_simp
                                    clear z0 z1 z2 y0 y1 y2 lt5
                                    refine hK _ _ ?_
                                    clear hK K
                                    refine each_done (by kernel_rfl) ?_
                                    go_simp
                                    go_wp2_with fail
                                    go_meet
                                    exact ⟨_, _, rfl, pr12_leaf FB.out FGL.out FG.out FAL.out FA.out⟩
                      case rest =>
                      obtain ⟨a, g, rfl, hpr12⟩ := hcut
                      obtain ⟨hd1, hd2, hd3, hd4, hd5⟩ := hpr12
                      have hDw : w.heap.size ≤ D.heap.size := by rw [← HD.out]; exact HB1.out.size
                      have hownD : D.ownsRow w.heap.size 198 3 lv ps.length (parsV ps) := by rw [← HD.out]; exact HO1.out.drew
                      have hvs : ∃ lo lcap, lv = .slice lo ps.length lcap ∧ (0 < ps.length → ∃ gl, lo = some ⟨gl, 0, none⟩ ∧ gl < D.heap.size) := by
                        rcases hownD.2 with ⟨rfl, h0⟩ | ⟨g, cap, cur, rfl, hbg, hgw, _⟩
                        · exact ⟨none, 0, by rw [h0], fun h => by omega⟩
                        · exact ⟨_, cap, rfl, fun _ => ⟨g, rfl, (Array.getElem?_eq_some_iff.1 hgw).1⟩⟩
                      obtain ⟨lo, lcap, rfl, hlo⟩ := hvs
                      have HLO := Lib.hid hlo; have HDW := Lib.hid hDw
                      have HAW := Lib.hid (show w.heap.size < a from by have h1 := HZ1.out.lt; have h2 : w1.heap.size = D.heap.size := by rw [← HD.out]; rfl
                                                                        omega)
                      have hown0 : wc.ownsRow D.heap.size 198 3 (.slice (some ⟨g, 0, none⟩) 0 0) 0 [] := ⟨by simp, .inr ⟨g, 0, #[], rfl, hd2, hd3, Nat.zero_le _, by decide, rfl, by simp⟩⟩
                      have hrel0 : PtRel w D ty sub ps (.slice lo ps.length lcap) a 0 (.slice (some ⟨g, 0, none⟩) 0 0) wc := by
                        refine ⟨?_, by rw [lowMix_zero]; exact own_later hownD hd1, hown0, hd5, ?_, hd1.size⟩
                        · have : Below w.heap.size w D := by rw [← HD.out]; exact HB1.out.drew
                          exact this.trans (hd1.mono hDw)
                        · have : BlkIs D w.heap.size zMed 103 := by rw [← HD.out]; exact HZ1.out
                          exact this.later hd1
                      have HREL := Lib.hid hrel0
                      have hpn := HBD.out.2.1
                      have hsn : ps.length ≤ 1073741824 ∨ True := Or.inr trivial
                      have hp41 : ps.length ≤ 2199023255552 := par_n s M _ hpn HS1.out
                      obtain ⟨i0, hi0, hz0, hz1, hz2⟩ := info_partsRO infoRParO
                      clear hd1 hd2 hd3 hd4 hd5 hDw hownD hown0 hrel0 hlo hpn hsn hx1 hx2 f3 fb hwS hwS2 hPI hwP hwP2 m0 m1 k0 k1 b0 b1 b1' b2 p0 p1 n2
                      go_wp2
                      go_loopw [10] (fun iv wr => ∃ (i : Nat) (v : Value), iv = .int .i64 i ∧ i ≤ ps.length ∧ PtRel w D ty sub ps (.slice lo ps.length lcap) a i v wr) (fun iv _ => ps.length - (intOf iv).toNat)
                      case atStart => exact ⟨0, _, rfl, Nat.zero_le _, HREL.out⟩
                      case round =>
                        clear HREL
                        obtain ⟨i, v, rfl, hi, hR⟩ := hrel
                        by_cases hil : i < ps.length
                        · obtain ⟨gl, rfl, hgl⟩ := HLO.out (by omega)
                          obtain ⟨p, hp⟩ : ∃ p, ps[i]? = some p := ⟨_, List.getElem?_eq_getElem hil⟩
                          have hpl : p.1.length ≤ 1099511627776 := par_p s M ps HBD.out.2.2 p (List.mem_of_getElem? hp) HS1.out
                          have i0' : (0 : Int) ≤ (i : Int) := Int.natCast_nonneg _
                          have i1 : (i : Int) < (ps.length : Int) := by omega
                          have hwi := wrap64_small i (Nat.le_trans hi hp41)
                          have hbd := par_bd41 i ps.length hil hp41
                          have c0 := (own_three hR.2.1 i p (lowMix_at ps i p hp) hil).1
                          have HI := Lib.hid hR; have HW := Lib.hid hwi; have HP := Lib.hid hp; have HLT := Lib.hid hgl
                          have HTK := Lib.hid (ptk ps i p hp)
                          clear hR hp hwi hgl
                          go_wp2_with fail
                          refine (rlower_any ⟨p.1.toArray⟩ _ (by rw [size_mk]; exact hpl)).mono ?_
                          rintro e w3 ⟨rfl, hb3⟩
                          rw [show (⟨p.1.toArray⟩ : ByteArray).data.toList = p.1 from rfl]
                          have hown3 := own_later HI.out.2.1 hb3
                          have hst := own_lower hown3 HP.out
                          have c3 := (own_three hown3 i p (lowMix_at ps i p HP.out) hil).1
                          have z3 := hown3.frozenAt (i * 3)
                          have hA3 := HI.out.2.2.2.1.later hb3
                          have hZ3 := HI.out.2.2.2.2.1.later hb3
                          have hgA : gl ≠ a := fun e => own_blk hown3 hA3 (by decide) (by rw [← e]; rfl)
                          have hgZ : gl ≠ w.heap.size := fun e => own_blk hown3 hZ3 (by decide) (by rw [← e]; rfl)
                          have hV3 := own_later HI.out.2.2.1 hb3
                          obtain ⟨E, hE⟩ : ∃ E, (w3.setCell ⟨gl, i * 3, none⟩ (.string ⟨(lowL p.1).toArray⟩)).drew = E := ⟨_, rfl⟩
                          have HL5 := Lib.hid (show E.ownsRow w.heap.size 198 3 (.slice (some ⟨gl, 0, none⟩) ps.length lcap) ps.length (parsV (lowMix ps (i + 1))) by rw [← hE]; exact hst.1.drew)
                          have HV5 := Lib.hid (show E.ownsRow D.heap.size 198 3 v i (parsV ((ps.map lowP).take i)) by rw [← hE]; exact (hV3.kept hst.2 (Or.inr (fun e => absurd (hV3.lt gl e).1 (Nat.not_le.2 HLT.out)))).drew)
                          have HA5 := Lib.hid (show BlkIs E a (mC ⟨ty, sub, []⟩ v) 103 by rw [← hE]; exact hA3.setOther _ _ (fun e => hgA e.symm))
                          have HZ5 := Lib.hid (show BlkIs E w.heap.size zMed 103 by rw [← hE]; exact hZ3.setOther _ _ (fun e => hgZ e.symm))
                          have HB5 := Lib.hid (show Below w.heap.size w E by rw [← hE]; exact ((HI.out.1.trans (hb3.mono HI.out.1.size)).setCell (p := ⟨gl, i * 3, none⟩) (hown3.lt gl rfl).1 _).drew)
                          have HDE := Lib.hid (show D.heap.size ≤ E.heap.size by rw [← hE]; have := Nat.le_trans HI.out.2.2.2.2.2 hb3.size; simpa [World.setCell] using this)
                          have HE := Lib.hid hE
                          clear hown3 hst hA3 hZ3 hgA hgZ hV3 hE hb3 c0
                          go_upto_region 17 with fail
                          clear c3 z3
                          obtain ⟨vo, vcap, hvs⟩ := own_slice HV5.out
                          have e2 : E.cell? ⟨a, 2, none⟩ = some v := HA5.out.cell 2 _ rfl
                          have lta := HA5.out.lt
                          obtain ⟨d0, d1, d2⟩ := own_three HL5.out i (lowP p) (lowMix_lt ps (i + 1) i p (Nat.lt_succ_self i) HP.out) hil
                          have d0 : E.cell? ⟨gl, i * 3, none⟩ = some (.string ⟨(lowL p.1).toArray⟩) := d0
                          have d1 : E.cell? ⟨gl, i * 3 + 1, none⟩ = some (.string ⟨p.2.1.toArray⟩) := d1
                          have d2 : E.cell? ⟨gl, i * 3 + 2, none⟩ = some (.bool p.2.2) := d2
                          have ltg := (HL5.out.lt gl rfl).2
                          subst hvs
                          refine wp_region_each 10 (by kernel_rfl) (by kernel_rfl) ?_
                          rw [HE.out]
                          refine each_take (i := 0) rfl (by kernel_rfl) (by kernel_rfl) (by kernel_rfl) (v := ?_) ?_ ?_; rotate_left; · (intro w; go_simp; with_reducible rfl)
                          refine each_take (i := 2) rfl (by kernel_rfl) (by kernel_rfl) (by kernel_rfl) (v := ?_) ?_ ?_; rotate_left; · (intro w; go_simp; with_reducible rfl)
                          refine each_take (i := 3) rfl (by kernel_rfl) (by kernel_rfl) (by kernel_rfl) (v := ?_) ?_ ?_; rotate_left; · (intro w; go_simp; with_reducible rfl)
                          refine each_take (i := 4) rfl (by kernel_rfl) (by kernel_rfl) (by kernel_rfl) (v := ?_) ?_ ?_; rotate_left; · (intro w; go_simp; with_reducible rfl)
                          refine each2 (i := 1) (j := 5) (by kernel_rfl) rfl rfl ?_ ?_
                          · as_aux_lemma =>
                              intro K hK
                              go_simp
                              refine hK _ _ ?_
                              clear hK K
                              refine each1 (i := 5) (by kernel_rfl) rfl ?_
                              intro K hK
                              go_simp
                              refine hK _ _ ?_
                              clear hK K
                              refine each1 (i := 6) (by kernel_rfl) rfl ?_
                              intro K hK
                              go_simp
                              refine hK _ _ ?_
                              clear hK K
                              refine each1 (i := 7) (by kernel_rfl) rfl ?_
                              intro K hK
                              refine step_append_own rfl (.tmp 106) (.tmp 111) 101 rfl D.heap.size 198 i0 (.agg #[.string ByteArray.empty, .string ByteArray.empty, .bool false]) 3 40 Tryz.underlying101 hi0 hz0 hz1 hz2 rfl (by decide) _ _ _ rfl (HV5.out.alloc _) ⟨E.heap.size, 0, none⟩ 1 1 [.string ⟨(lowL p.1).toArray⟩, .string ⟨p.2.1.toArray⟩, .bool p.2.2] rfl rfl (cells_new E 198 _) (by simp [Value.oneCell']) hbd.1 hbd.2 (alloc_le HDE.out _) ?_
                              intro v1 w7 hI1 hg7
                              obtain ⟨ao1, cap1, rfl⟩ := own_slice hI1
                              have hne7 := pt_ne HV5.out (parO (lowP p) 198) HLT.out
                              have hA7 := (HA5.out.alloc (parO (lowP p) 198)).grown hg7 (own_blk (HV5.out.alloc (parO (lowP p) 198)) (HA5.out.alloc (parO (lowP p) 198)) (by decide))
                              have hZ7 := (HZ5.out.alloc (parO (lowP p) 198)).grown hg7 (own_blk (HV5.out.alloc (parO (lowP p) 198)) (HZ5.out.alloc (parO (lowP p) 198)) (by decide))
                              have hL7 := (HL5.out.alloc (parO (lowP p) 198)).kept hg7 (Or.inr (fun e => hne7 e.symm))
                              have hb7 : Below w.heap.size w w7 := (HB5.out.alloc HB5.out.size (parO (lowP p) 198)).grown hg7 (alloc_le HB5.out.size _) (fun k hk => Nat.le_trans HDW.out ((HV5.out.alloc (parO (lowP p) 198)).lt k hk).1)
                              have hD7 : D.heap.size ≤ w7.heap.size := Nat.le_trans (alloc_le HDE.out _) hg7.size
                              have z2 : w7.cell? ⟨a, 2, none⟩ = some (.slice vo i vcap) := hA7.cell 2 _ rfl
                              have y2 := hA7.free 2
                              have HR9 := Lib.hid (pt_store (ty := ty) (sub := sub) (ps := ps) (i := i) hb7 hL7 (by rw [HTK.out]; exact hI1) hA7 hZ7 hD7 HAW.out)
                              clear hI1 hg7 hne7 hA7 hZ7 hL7 hb7 hD7
                              refine hK _ _ ?_
                              clear hK K
                              refine each_take (i := 8) rfl (by kernel_rfl) (by kernel_rfl) (by kernel_rfl) (v := ?_) ?_ ?_; rotate_left; · (intro w; go_simp; with_reducible rfl)
                              refine each1 (i := 9) (by kernel_rfl) rfl ?_
                              intro K hK
                              go_simp
                              refine hK _ _ ?_
                              clear hK K z2 y2
                              refine each_done (by kernel_rfl) ?_
                              go_simp
                              go_wp2
                              have hwi := HW.out
                              go_roundw
                              case rel => (try rw [hwi]); clear hwi; exact ⟨i + 1, _, by go_num, hil, HR9.out⟩
                              case measure => (try rw [hwi]); clear hwi; simp [intOf]; omega
                          · intro K hK
                            go_simp
                            refine hK _ _ ?_
                            clear hK K
                            refine each2 (i := 1) (j := 6) (by kernel_rfl) rfl rfl ?_ ?_
                            · as_aux_lemma =>
                                intro K hK
                                go_simp
                                refine hK _ _ ?_
                                clear hK K
                                refine each1 (i := 6) (by kernel_rfl) rfl ?_
                                intro K hK
                                go_simp
                                refine hK _ _ ?_
                                clear hK K
                                refine each1 (i := 7) (by kernel_rfl) rfl ?_
                                intro K hK
                                refine step_append_own rfl (.tmp 106) (.tmp 111) 101 rfl D.heap.size 198 i0 (.agg #[.string ByteArray.empty, .string ByteArray.empty, .bool false]) 3 40 Tryz.underlying101 hi0 hz0 hz1 hz2 rfl (by decide) _ _ _ rfl (HV5.out.alloc _) ⟨E.heap.size, 0, none⟩ 1 1 [.string ⟨(lowL p.1).toArray⟩, .string ⟨p.2.1.toArray⟩, .bool p.2.2] rfl rfl (cells_new E 198 _) (by simp [Value.oneCell']) hbd.1 hbd.2 (alloc_le HDE.out _) ?_
                                intro v1 w7 hI1 hg7
                                obtain ⟨ao1, cap1, rfl⟩ := own_slice hI1
                                have hne7 := pt_ne HV5.out (parO (lowP p) 198) HLT.out
                                have hA7 := (HA5.out.alloc (parO (lowP p) 198)).grown hg7 (own_blk (HV5.out.alloc (parO (lowP p) 198)) (HA5.out.alloc (parO (lowP p) 198)) (by decide))
                                have hZ7 := (HZ5.out.alloc (parO (lowP p) 198)).grown hg7 (own_blk (HV5.out.alloc (parO (lowP p) 198)) (HZ5.out.alloc (parO (lowP p) 198)) (by decide))
                                have hL7 := (HL5.out.alloc (parO (lowP p) 198)).kept hg7 (Or.inr (fun e => hne7 e.symm))
                                have hb7 : Below w.heap.size w w7 := (HB5.out.alloc HB5.out.size (parO (lowP p) 198)).grown hg7 (alloc_le HB5.out.size _) (fun k hk => Nat.le_trans HDW.out ((HV5.out.alloc (parO (lowP p) 198)).lt k hk).1)
                                have hD7 : D.heap.size ≤ w7.heap.size := Nat.le_trans (alloc_le HDE.out _) hg7.size
                                have z2 : w7.cell? ⟨a, 2, none⟩ = some (.slice vo i vcap) := hA7.cell 2 _ rfl
                                have y2 := hA7.free 2
                                have HR9 := Lib.hid (pt_store (ty := ty) (sub := sub) (ps := ps) (i := i) hb7 hL7 (by rw [HTK.out]; exact hI1) hA7 hZ7 hD7 HAW.out)
                                clear hI1 hg7 hne7 hA7 hZ7 hL7 hb7 hD7
                                refine hK _ _ ?_
                                clear hK K
                                refine each_take (i := 8) rfl (by kernel_rfl) (by kernel_rfl) (by kernel_rfl) (v := ?_) ?_ ?_; rotate_left; · (intro w; go_simp; with_reducible rfl)
                                refine each1 (i := 9) (by kernel_rfl) rfl ?_
                                intro K hK
                                go_simp
                                refine hK _ _ ?_
                                clear hK K z2 y2
                                refine each_done (by kernel_rfl) ?_
                                go_simp
                                go_wp2
                                have hwi := HW.out
                                go_roundw
                                case rel => (try rw [hwi]); clear hwi; exact ⟨i + 1, _, by go_num, hil, HR9.out⟩
                                case measure => (try rw [hwi]); clear hwi; simp [intOf]; omega
                            · as_aux_lemma =>
                                intro K hK
                                go_simp
                                refine hK _ _ ?_
                                clear hK K
                                refine each1 (i := 1) (by kernel_rfl) rfl ?_
                                intro K hK
                                go_simp
                                refine hK _ _ ?_
                                clear hK K
                                refine each1 (i := 7) (by kernel_rfl) rfl ?_
                                intro K hK
                                refine step_append_own rfl (.tmp 106) (.tmp 111) 101 rfl D.heap.size 198 i0 (.agg #[.string ByteArray.empty, .string ByteArray.empty, .bool false]) 3 40 Tryz.underlying101 hi0 hz0 hz1 hz2 rfl (by decide) _ _ _ rfl (HV5.out.alloc _) ⟨E.heap.size, 0, none⟩ 1 1 [.string ⟨(lowL p.1).toArray⟩, .string ⟨p.2.1.toArray⟩, .bool p.2.2] rfl rfl (cells_new E 198 _) (by simp [Value.oneCell']) hbd.1 hbd.2 (alloc_le HDE.out _) ?_
                                intro v1 w7 hI1 hg7
                                obtain ⟨ao1, cap1, rfl⟩ := own_slice hI1
                                have hne7 := pt_ne HV5.out (parO (lowP p) 198) HLT.out
                                have hA7 := (HA5.out.alloc (parO (lowP p) 198)).grown hg7 (own_blk (HV5.out.alloc (parO (lowP p) 198)) (HA5.out.alloc (parO (lowP p) 198)) (by decide))
                                have hZ7 := (HZ5.out.alloc (parO (lowP p) 198)).grown hg7 (own_blk (HV5.out.alloc (parO (lowP p) 198)) (HZ5.out.alloc (parO (lowP p) 198)) (by decide))
                                have hL7 := (HL5.out.alloc (parO (lowP p) 198)).kept hg7 (Or.inr (fun e => hne7 e.symm))
                                have hb7 : Below w.heap.size w w7 := (HB5.out.alloc HB5.out.size (parO (lowP p) 198)).grown hg7 (alloc_le HB5.out.size _) (fun k hk => Nat.le_trans HDW.out ((HV5.out.alloc (parO (lowP p) 198)).lt k hk).1)
                                have hD7 : D.heap.size ≤ w7.heap.size := Nat.le_trans (alloc_le HDE.out _) hg7.size
                                have z2 : w7.cell? ⟨a, 2, none⟩ = some (.slice vo i vcap) := hA7.cell 2 _ rfl
                                have y2 := hA7.free 2
                                have HR9 := Lib.hid (pt_store (ty := ty) (sub := sub) (ps := ps) (i := i) hb7 hL7 (by rw [HTK.out]; exact hI1) hA7 hZ7 hD7 HAW.out)
                                clear hI1 hg7 hne7 hA7 hZ7 hL7 hb7 hD7
                                refine hK _ _ ?_
                                clear hK K
                                refine each_take (i := 8) rfl (by kernel_rfl) (by kernel_rfl) (by kernel_rfl) (v := ?_) ?_ ?_; rotate_left; · (intro w; go_simp; with_reducible rfl)
                                refine each1 (i := 9) (by kernel_rfl) rfl ?_
                                intro K hK
                                go_simp
                                refine hK _ _ ?_
                                clear hK K z2 y2
                                refine each_done (by kernel_rfl) ?_
                                go_simp
                                go_wp2
                                have hwi := HW.out
                                go_roundw
                                case rel => (try rw [hwi]); clear hwi; exact ⟨i + 1, _, by go_num, hil, HR9.out⟩
                                case measure => (try rw [hwi]); clear hwi; simp [intOf]; omega
                        · obtain rfl : ps.length = i := by omega
                          have hd : decide (ps.length < ps.length) = false := decide_eq_false (Nat.lt_irrefl _)
                          obtain ⟨hb, _, hv, hA, hZ, _⟩ := hR
                          rw [List.take_of_length_le (by rw [List.length_map]; exact Nat.le_refl _)] at hv
                          obtain ⟨vo, vcap, rfl⟩ := own_slice hv
                          have f0 : wr.cell? ⟨a, 0, none⟩ = some (.string ⟨ty.toArray⟩) := hA.cell 0 _ rfl
                          have f1 : wr.cell? ⟨a, 1, none⟩ = some (.string ⟨sub.toArray⟩) := hA.cell 1 _ rfl
                          have f2 : wr.cell? ⟨a, 2, none⟩ = some (.slice vo ps.length vcap) := hA.cell 2 _ rfl
                          obtain ⟨z0, z1, z2⟩ := zCells hZ
                          have y0 := hZ.free 0
                          have y1 := hZ.free 1
                          have y2 := hZ.free 2
                          have lt5 := hZ.lt
                          have hne := own_blk hv hZ (by decide)
                          have HZF := Lib.hid (show BlkIs _ w.heap.size (mC ⟨ty, sub, []⟩ (.slice vo ps.length vcap)) 103 from ((hZ.set 0 (.string ⟨ty.toArray⟩)).set 1 (.string ⟨sub.toArray⟩)).set 2 (.slice vo ps.length vcap))
                          have HBF := Lib.hid (((hb.setCell (p := ⟨w.heap.size, 0, none⟩) (Nat.le_refl _) (.string ⟨ty.toArray⟩)).setCell (p := ⟨w.heap.size, 1, none⟩) (Nat.le_refl _) (.string ⟨sub.toArray⟩)).setCell (p := ⟨w.heap.size, 2, none⟩) (Nat.le_refl _) (.slice vo ps.length vcap))
                          have HVF := Lib.hid (own_base (own_setOther (j := 2) (u := .slice vo ps.length vcap) (own_setOther (j := 1) (u := .string ⟨sub.toArray⟩) (own_setOther (j := 0) (u := .string ⟨ty.toArray⟩) hv hne) hne) hne) HDW.out)
                          clear hb hv hA hZ hne
                          go_wp2
                          (try simp only [Exit.inBlock, Exit.then])
                          refine bodyPost_ret (v := mdV (ty, sub, ps.map lowP, true) (.slice vo ps.length vcap)) ?gfr rfl ⟨.slice vo ps.length vcap, by rw [HR.out], ?gfo, ?gfb⟩
                          case gfr => exact results_rmedia (p := 2) (u := 3) rfl _ _ w.heap.size _ (0, 0) rfl HZF.out rfl
                          case gfo => rw [HR.out]; show World.ownsRow _ _ _ _ _ (ps.map lowP).length _; rw [List.length_map]; exact HVF.out
                          case gfb => exact HBF.out
                    · obtain ⟨Q1, hQ1⟩ : ∃ Q1, M + m = Q1 := ⟨_, rfl⟩
                      have f3 : (M : Int) + (m : Int) = (Q1 : Int) := by omega
                      have fb : ((Q1 : Int) != (s.size : Int)) = true := by simp; omega
                      have hmb : m ≤ 1099511627776 := par_m s M m HBD.out.1 HS1.out
                      have hwS : wrap64 (Q1 : Int) = (Q1 : Int) := (w64le Q1 (le6 M m Q1 HM41.out hmb hQ1)).1
                      have hwS2 : IntKind.i64.wrap (Q1 : Int) = (Q1 : Int) := (w64le Q1 (le6 M m Q1 HM41.out hmb hQ1)).2
                      have HR := Lib.hid (mdR_fault _ N M m 0 ps HN.out H0.out HG.out HM.out HML.out HPR.out (Or.inr (by rw [size_list]; exact hq)))
                      clear hq hQ1
                      obtain ⟨z0, z1, z2⟩ := zCells HZ1.out
                      have y0 := (HZ1.out).free 0
                      have y1 := (HZ1.out).free 1
                      have y2 := (HZ1.out).free 2
                      have lt5 := (HZ1.out).lt
                      have HZZ := Lib.hid (zero_set (HZ1.out))
                      have HBB := Lib.hid ((((HB1.out).setCell (p := ⟨w.heap.size, 0, none⟩) (Nat.le_refl _) (.string ⟨#[]⟩)).setCell (p := ⟨w.heap.size, 1, none⟩) (Nat.le_refl _) (.string ⟨#[]⟩)).setCell (p := ⟨w.heap.size, 2, none⟩) (Nat.le_refl _) (.slice none 0 0))
                      go_wp2
                      (try simp only [Exit.inBlock, Exit.then])
                      refine bodyPost_ret (v := mdV noMed (.slice none 0 0)) ?b3r rfl ⟨.slice none 0 0, by rw [HR.out], ?b3o, ?b3b⟩
                      case b3r => exact results_rmedia (p := 2) (u := 3) rfl _ _ w.heap.size zMed (0, 0) rfl HZZ.out rfl
                      case b3o => rw [HR.out]; exact World.ownsRow_nil _ _ _ _
                      case b3b => exact HBB.out
                  · have fb : ((er : Int) == 0) = false := beq_false_of_ne (by omega)
                    have fb2 : ((er : Int) != 0) = true := by simp; omega
                    have HR := Lib.hid (mdR_fault _ N M m er ps HN.out H0.out HG.out HM.out HML.out HPR.out (Or.inl he))
                    clear he
                    obtain ⟨z0, z1, z2⟩ := zCells HZ1.out
                    have y0 := (HZ1.out).free 0
                    have y1 := (HZ1.out).free 1
                    have y2 := (HZ1.out).free 2
                    have lt5 := (HZ1.out).lt
                    have HZZ := Lib.hid (zero_set (HZ1.out))
                    have HBB := Lib.hid ((((HB1.out).setCell (p := ⟨w.heap.size, 0, none⟩) (Nat.le_refl _) (.string ⟨#[]⟩)).setCell (p := ⟨w.heap.size, 1, none⟩) (Nat.le_refl _) (.string ⟨#[]⟩)).setCell (p := ⟨w.heap.size, 2, none⟩) (Nat.le_refl _) (.slice none 0 0))
                    go_wp2
                    (try simp only [Exit.inBlock, Exit.then])
                    refine bodyPost_ret (v := mdV noMed (.slice none 0 0)) ?b4r rfl ⟨.slice none 0 0, by rw [HR.out], ?b4o, ?b4b⟩
                    case b4r => exact results_rmedia (p := 2) (u := 3) rfl _ _ w.heap.size zMed (0, 0) rfl HZZ.out rfl
                    case b4o => rw [HR.out]; exact World.ownsRow_nil _ _ _ _
                    case b4b => exact HBB.out
              · have hne : s.data.toList[N]? ≠ some 47 := by rw [hget]; intro e; injection e with e; exact h47 e
                have HR := Lib.hid (mdR_no0 _ N HN.out (Or.inr hne))
                have b1 : ((c.toNat : Int) == 47) = false := (ne_u8o c 47 (by decide) h47).1
                have b1' : ((c.toNat : Int) != 47) = true := (ne_u8o c 47 (by decide) h47).2
                clear h0 h47 hne hget hd
                obtain ⟨z0, z1, z2⟩ := zCells HZ0.out
                have y0 := (HZ0.out).free 0
                have y1 := (HZ0.out).free 1
                have y2 := (HZ0.out).free 2
                have lt5 := (HZ0.out).lt
                have HZZ := Lib.hid (zero_set (HZ0.out))
                have HBB := Lib.hid ((((HB0.out).setCell (p := ⟨w.heap.size, 0, none⟩) (Nat.le_refl _) (.string ⟨#[]⟩)).setCell (p := ⟨w.heap.size, 1, none⟩) (Nat.le_refl _) (.string ⟨#[]⟩)).setCell (p := ⟨w.heap.size, 2, none⟩) (Nat.le_refl _) (.slice none 0 0))
                go_wp2
                (try simp only [Exit.inBlock, Exit.then])
                refine bodyPost_ret (v := mdV noMed (.slice none 0 0)) ?b5r rfl ⟨.slice none 0 0, by rw [HR.out], ?b5o, ?b5b⟩
                case b5r => exact results_rmedia (p := 2) (u := 3) rfl _ _ w.heap.size zMed (0, 0) rfl HZZ.out rfl
                case b5o => rw [HR.out]; exact World.ownsRow_nil _ _ _ _
                case b5b => exact HBB.out
            · have hne : s.data.toList[N]? ≠ some 47 := by rw [List.getElem?_eq_none (by rw [size_list]; omega)]; simp
              have HR := Lib.hid (mdR_no0 _ N HN.out (Or.inr hne))
              have k1 : (s.size : Int) ≤ (N : Int) := by omega
              clear h0 hne hd
              obtain ⟨z0, z1, z2⟩ := zCells HZ0.out
              have y0 := (HZ0.out).free 0
              have y1 := (HZ0.out).free 1
              have y2 := (HZ0.out).free 2
              have lt5 := (HZ0.out).lt
              have HZZ := Lib.hid (zero_set (HZ0.out))
              have HBB := Lib.hid ((((HB0.out).setCell (p := ⟨w.heap.size, 0, none⟩) (Nat.le_refl _) (.string ⟨#[]⟩)).setCell (p := ⟨w.heap.size, 1, none⟩) (Nat.le_refl _) (.string ⟨#[]⟩)).setCell (p := ⟨w.heap.size, 2, none⟩) (Nat.le_refl _) (.slice none 0 0))
              go_wp2
              (try simp only [Exit.inBlock, Exit.then])
              refine bodyPost_ret (v := mdV noMed (.slice none 0 0)) ?b6r rfl ⟨.slice none 0 0, by rw [HR.out], ?b6o, ?b6b⟩
              case b6r => exact results_rmedia (p := 2) (u := 3) rfl _ _ w.heap.size zMed (0, 0) rfl HZZ.out rfl
              case b6o => rw [HR.out]; exact World.ownsRow_nil _ _ _ _
              case b6b => exact HBB.out
end Go.Proofs.YtpdbejeiceodkaaGreatDoor
