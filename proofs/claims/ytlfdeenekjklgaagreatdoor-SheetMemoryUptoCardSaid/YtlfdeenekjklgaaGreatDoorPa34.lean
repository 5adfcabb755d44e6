/- The walk of turnpikeref15.Disposition: the plain function disR. Conditions: fewer than 2^40 bytes. -/
import Derived.Test.YtlfdeenekjklgaaGreatDoorPa33
import Derived.Test.YtlfdeenekjklgaaGreatDoorPa13
namespace Go.Proofs.YtlfdeenekjklgaaGreatDoor
open Go.RowKit
set_option linter.unusedSimpArgs false
set_option linter.unusedVariables false
set_option maxRecDepth 1000000
def nmLd (ps : List Par) : List (List UInt8) := ps.map fun p => lowL p.1
theorem nmL_at (ps : List Par) (i : Nat) (p : Par) (h : ps[i]? = some p) : (nmLd ps)[i]? = some (lowL p.1) := by unfold nmLd; rw [List.getElem?_map, h]; rfl
theorem dup_not (xs : List (List UInt8)) (j i : Nat) (x : List UInt8) (hj : xs[j]? = some x) (hi : xs[i]? = some x) (hji : j < i) : ¬ xs.Nodup := by
  intro hn
  obtain ⟨h1, e1⟩ := List.getElem?_eq_some_iff.1 hj
  obtain ⟨h2, e2⟩ := List.getElem?_eq_some_iff.1 hi
  have := (List.pairwise_iff_getElem.1 hn) j i h1 h2 hji
  exact this (by rw [e1, e2])
theorem nodup_next (xs : List (List UInt8)) (i : Nat) (x : List UInt8) (hi : xs[i]? = some x) (hn : (xs.take i).Nodup) (hno : ∀ j y, j < i → xs[j]? = some y → y ≠ x) : (xs.take (i + 1)).Nodup := by
  rw [List.take_add_one, hi, Option.toList_some, List.nodup_append]
  refine ⟨hn, by simp, fun a ha b hb => ?_⟩
  obtain rfl : b = x := by simpa using hb
  obtain ⟨j, hj⟩ := List.getElem?_of_mem ha
  rw [List.getElem?_take] at hj
  split at hj
  · exact hno j a (by assumption) hj
  · cases hj
theorem str_ne (a b : List UInt8) (h : a ≠ b) : ¬ ((⟨a.toArray⟩ : ByteArray) = (⟨b.toArray⟩ : ByteArray)) := by
  intro e
  apply h
  injection e with e
  simpa using e
set_option maxHeartbeats 16000000 in
theorem rdis_any (s : ByteArray) (w : World) (hs : s.size ≤ 1099511627776) : Calls Tryz.prog 14 #[.string s] w (DisPost s 85 w) := by
  obtain ⟨L, hL⟩ : ∃ L, w.heap.size = L := ⟨_, rfl⟩
  have hb0 : Below L w (w.alloc (.cells #[] 85)) := by rw [← hL]; exact (Below.refl _ w).alloc (Nat.le_refl _) _
  have hr0 : (w.alloc (.cells #[] 85)).ownsRow L 85 3 (.slice (some ⟨w.heap.size, 0, none⟩) 0 0) 0 [] := by rw [← hL]; exact World.ownsRow_made w #[] 0 (Nat.le_refl _) (by simp) rfl
  have HL := Lib.hid hL; clear hL
  obtain ⟨t, ht⟩ : ∃ t : ByteArray, (⟨(trimL s.data.toList).toArray⟩ : ByteArray) = t := ⟨_, rfl⟩
  have htl : trimL s.data.toList = t.data.toList := by rw [← ht]
  have hts : t.size ≤ s.size := by rw [← size_list, ← htl, ← size_list]; exact trimL_len _
  have hts2 : t.size ≤ 1099511627776 := Nat.le_trans hts hs
  have HT := Lib.hid (And.intro ht htl)
  obtain ⟨NV, hNV⟩ : ∃ NV : Value, .slice (some ⟨w.heap.size, 0, none⟩) 0 0 = NV := ⟨_, rfl⟩
  rw [hNV] at hr0
  obtain ⟨w1, hw1⟩ : ∃ w1, w.alloc (.cells #[] 85) = w1 := ⟨_, rfl⟩
  rw [hw1] at hr0 hb0
  have HNV := Lib.hid hNV; have HW1 := Lib.hid hw1
  have HR0 := Lib.hid hr0; have HB1 := Lib.hid hb0
  clear ht htl hNV hw1 hr0 hb0
  go_enter Tryz.func14, Tryz.ntmps14
  go_upto_region 2 with fail
  rw [HNV.out, HW1.out]
  go_wp2_with fail
  refine (rtrim_any s _ hs).mono ?_
  rintro e w1 ⟨rfl, rfl⟩
  rw [HT.out.1]
  go_wp2
  go_loopw [6] (fun nv wr => ∃ n : Nat, nv = .int .i64 n ∧ n ≤ runL isSg t.data.toList ∧ wr = w1) (fun nv _ => t.size - (intOf nv).toNat)
  case atStart => exact ⟨0, rfl, Nat.zero_le _, rfl⟩
  case round =>
    obtain ⟨n, rfl, hn, rfl⟩ := hrel
    have hle := runL_at isSg t 0
    rw [List.drop_zero] at hle
    by_cases hlt : n < t.size
    · obtain ⟨c, hc⟩ : ∃ c, t[n]'hlt = c := ⟨_, rfl⟩
      have hget := list_get t n hlt
      rw [hc] at hget
      have k0 : (0 : Int) ≤ (n : Int) := Int.natCast_nonneg _
      have k1 : (n : Int) < (t.size : Int) := by omega
      have hwi := w64o n (le_oo n t.size (Nat.le_of_lt hlt) hts2)
      have HW0 := Lib.hid hwi; clear hwi
      cases hst : isSg c with
      | true =>
        have hx2 := runL_more isSg _ n c hn hget hst
        have HS := Lib.hid (And.intro hx2 hst)
        clear hx2 hst hget hn hle
        go_wp2_with fail
        refine (rsign_any c _).mono ?_
        rintro e wr ⟨rfl, rfl⟩
        rw [HS.out.2]
        go_wp2
        have hwi := HW0.out
        go_roundw
        case rel => (try rw [hwi]); clear hwi; exact ⟨n + 1, by go_num, HS.out.1, by first | rfl | trivial⟩
        case measure => (try rw [hwi]); clear hwi; simp [intOf]; omega
      | false =>
        have hx2 := runL_stop isSg _ n c hn hget hst
        have HS := Lib.hid (And.intro hx2 hst)
        clear hx2 hst hget hn hle
        go_wp2_with fail
        refine (rsign_any c _).mono ?_
        rintro e wr ⟨rfl, rfl⟩
        rw [HS.out.2]
        have HN : Hid (runL isSg t.data.toList = n) := Lib.hid HS.out.1.symm
        have hnle : n ≤ t.size := Nat.le_of_lt hlt
        have k4 : (n : Int) ≤ (t.size : Int) := by omega
        clear HS hc HW0
        have hx := ext_back t n
        obtain ⟨⟨ps, m, no⟩, hr⟩ : ∃ r, parR (t.data.toList.drop n) = r := ⟨_, rfl⟩
        have hbd := parR_bd _ ps m no hr
        rw [List.length_drop, size_list] at hbd
        have hp := rparams_any ⟨(t.data.toList.drop n).toArray⟩ wr (by rw [size_mk, List.length_drop, size_list]; exact Nat.le_trans (Nat.sub_le _ _) hts2)
        unfold ParamsPost at hp
        rw [show (⟨(t.data.toList.drop n).toArray⟩ : ByteArray).data.toList = t.data.toList.drop n from rfl, hr] at hp
        have HP := Lib.hid hp; have HR := Lib.hid hr
        clear hp hr
        have hbadof : ∀ h : ¬ (n ≠ 0 ∧ no = 0 ∧ n + m = t.data.toList.length ∧ (∀ p ∈ ps, p.2.2 = true) ∧ (ps.map fun p => lowL p.1).Nodup), disR s.data.toList = ([], [], 152) := fun h => dis_bad s.data.toList t.data.toList n HT.out.2 HN.out ps m no HR.out h
        have HBAD := Lib.hid hbadof
        clear hbadof
        obtain ⟨q, hq⟩ : ∃ q, n + m = q := ⟨_, rfl⟩
        have f5 : (n : Int) + (m : Int) = (q : Int) := by omega
        have hq2 : q ≤ t.size := by omega
        by_cases hz : n = 0 ∨ no ≠ 0 ∨ q ≠ t.size
        · have HD := Lib.hid (HBAD.out (by rw [size_list]; omega))
          have hzc : n = 0 ∨ (n ≠ 0 ∧ no ≠ 0) ∨ (n ≠ 0 ∧ no = 0 ∧ q ≠ t.size) := by omega
          clear hz
          go_wp2_with fail
          refine (HP.out).mono ?_
          rintro e w2 ⟨v, rfl, hown, hb2⟩
          have HB2 : Hid (Below L w w2) := Lib.hid (HB1.out.trans (hb2.mono (bsz HB1.out HL)))
          have HR2 := Lib.hid (own_later HR0.out hb2)
          clear hown hb2
          rcases hzc with h | ⟨h1, h2⟩ | ⟨h1, h2, h3⟩
          · have b1 : ((n : Int) == 0) = true := by simp; omega
            go_wp2
            go_ret3
            unfold DisPost
            rw [HD.out, HL.out]
            exact ⟨_, rfl, HR2.out, HB2.out⟩

          · have b1 : ((n : Int) == 0) = false := by simp; omega
            have b2 : ((no : Int) != 0) = true := by simp; omega
            go_wp2
            go_ret3
            unfold DisPost
            rw [HD.out, HL.out]
            exact ⟨_, rfl, HR2.out, HB2.out⟩

          · have b1 : ((n : Int) == 0) = false := by simp; omega
            have b2 : ((no : Int) != 0) = false := by simp; omega
            have b3 : ((q : Int) != (t.size : Int)) = true := by simp; omega
            subst h2
            go_wp2
            go_ret3
            unfold DisPost
            rw [HD.out, HL.out]
            exact ⟨_, rfl, HR2.out, HB2.out⟩

        · have h1 : n ≠ 0 := fun h => hz (Or.inl h)
          obtain rfl : no = 0 := Classical.byContradiction fun h => hz (Or.inr (Or.inl h))
          have h3 : q = t.size := Classical.byContradiction fun h => hz (Or.inr (Or.inr h))
          have b1 : ((n : Int) == 0) = false := by simp; omega
          have b3 : ((q : Int) != (t.size : Int)) = false := by simp; omega
          have HQ := Lib.hid (And.intro h1 (And.intro hq h3))
          clear hz h1 h3 hq
          go_wp2_with fail
          refine (HP.out).mono ?_
          rintro e w2 ⟨v, rfl, hown, hb2⟩
          have hb2' : Below L w w2 := HB1.out.trans (hb2.mono (bsz HB1.out HL))
          have hownL : w2.ownsRow L 85 3 v ps.length (parsV ps) := own_mono2 hown (bsz HB1.out HL)
          have hr2 := own_later HR0.out hb2
          have hne2 : v.ownBlock ≠ NV.ownBlock ∨ v.ownBlock = none := by
            cases hvb : v.ownBlock with
            | none => exact Or.inr rfl
            | some k =>
              left
              intro e
              have h1 := (hown.lt k hvb).1
              have h2 := (HR0.out.lt k e.symm).2
              omega
          have hvs : ∃ ao cap, v = .slice ao ps.length cap ∧ (0 < ps.length → ∃ g, ao = some ⟨g, 0, none⟩ ∧ NV.ownBlock ≠ some g) := by
            rcases hownL.2 with ⟨rfl, h0⟩ | ⟨g, cap, cur, rfl, hbg, hgw, _⟩
            · exact ⟨none, 0, by rw [h0], fun h => by omega⟩
            · exact ⟨_, cap, rfl, fun _ => ⟨g, rfl, fun e => by
                rcases hne2 with h | h
                · exact h e.symm
                · cases h⟩⟩
          obtain ⟨ao, cap, rfl, hao⟩ := hvs
          have HST := Lib.hid (And.intro hownL (And.intro hr2 hb2'))
          have HAO := Lib.hid hao
          clear hown hb2 hb2' hownL hao hne2 hr2
          go_wp2
          go_loopw [10] (fun iv wr => ∃ i : Nat, iv = .int .i64 i ∧ i ≤ ps.length ∧ wr.ownsRow L 85 3 (.slice ao ps.length cap) ps.length (parsV (lowMix ps i)) ∧ wr.ownsRow L 85 3 NV 0 [] ∧ ((nmLd ps).take i).Nodup ∧ (∀ j p, j < i → ps[j]? = some p → p.2.2 = true) ∧ Below L w wr) (fun iv _ => ps.length - (intOf iv).toNat)
          case atStart => exact ⟨0, rfl, Nat.zero_le _, by rw [lowMix_zero]; exact HST.out.1, HST.out.2.1, List.nodup_nil, fun j p hj => by omega, HST.out.2.2⟩
          case round =>
            clear HST
            obtain ⟨i, rfl, hi, hown, hnv, hnd, hall, hb⟩ := hrel
            by_cases hil : i < ps.length
            · obtain ⟨g, rfl, hgN⟩ := HAO.out (by omega)
              obtain ⟨p, hp⟩ : ∃ p, ps[i]? = some p := ⟨_, List.getElem?_eq_getElem hil⟩
              have hpl : p.1.length ≤ 1099511627776 := Nat.le_trans (hbd.2.2 p (List.mem_of_getElem? hp)) (Nat.le_trans (Nat.sub_le _ _) hts2)
              have hsm := p_small i ps.length t.size hil (Nat.le_trans hbd.2.1 (Nat.sub_le _ _)) hts2
              have i0 : (0 : Int) ≤ (i : Int) := Int.natCast_nonneg _
              have i1 : (i : Int) < (ps.length : Int) := by omega
              have hwi := w64o i hsm.1
              have c0 := (own_three hown i p (lowMix_at ps i p hp) hil).1
              have HI := Lib.hid (And.intro hown (And.intro hnv (And.intro hnd (And.intro hall (And.intro hb hp))))); have HW := Lib.hid hwi
              clear hown hnv hnd hall hb hp hwi
              go_wp2_with fail
              refine (rlower_any ⟨p.1.toArray⟩ _ (by rw [size_mk]; exact hpl)).mono ?_
              rintro e w3 ⟨rfl, hb3⟩
              rw [show (⟨p.1.toArray⟩ : ByteArray).data.toList = p.1 from rfl]
              have hown3 := own_later HI.out.1 hb3
              have hst := own_lower hown3 HI.out.2.2.2.2.2
              have c3 := (own_three hown3 i p (lowMix_at ps i p HI.out.2.2.2.2.2) hil).1
              have z3 := hown3.frozenAt (i * 3)
              have hown4 := hst.1
              have hnv4 := (own_later HI.out.2.1 hb3).kept hst.2 (Or.inr hgN)
              have hb4 : Below L w (w3.setCell ⟨g, i * 3, none⟩ (.string ⟨(lowL p.1).toArray⟩)) := (HI.out.2.2.2.2.1.trans (hb3.mono (bsz HI.out.2.2.2.2.1 HL))).setCell (p := ⟨g, i * 3, none⟩) (hown3.lt g rfl).1 _
              obtain ⟨W4, hW4⟩ : ∃ W4, w3.setCell ⟨g, i * 3, none⟩ (.string ⟨(lowL p.1).toArray⟩) = W4 := ⟨_, rfl⟩
              rw [hW4] at hown4 hb4 hnv4
              have c6 := (own_three hown4 i (lowP p) (lowMix_lt ps (i + 1) i p (Nat.lt_succ_self i) HI.out.2.2.2.2.2) hil)
              have HW4 := Lib.hid hW4
              have H4 := Lib.hid (And.intro hown4 (And.intro hnv4 hb4))
              clear hst hown3 hb3 hW4 hown4 hb4 c0 hnv4
              go_upto_region 13 with fail
              rw [HW4.out]
              clear c3 z3
              obtain ⟨p1, p2, p3⟩ := p
              obtain ⟨d0, _, d2⟩ := c6
              cases p3 with
              | false =>
                have c7 : W4.cell? ⟨g, i * 3 + 2, none⟩ = some (.bool false) := d2
                have HD := Lib.hid (HBAD.out (fun h => by have := h.2.2.2.1 _ (List.mem_of_getElem? HI.out.2.2.2.2.2); cases this))
                clear d2 d0
                go_wp2
                go_ret3
                unfold DisPost
                rw [HD.out, HL.out]
                exact ⟨_, rfl, H4.out.2.1, H4.out.2.2⟩

              | true =>
                have c7 : W4.cell? ⟨g, i * 3 + 2, none⟩ = some (.bool true) := d2
                have c8 : W4.cell? ⟨g, i * 3, none⟩ = some (.string ⟨(lowL p1).toArray⟩) := d0
                have hall6 : ∀ j p, j < i + 1 → ps[j]? = some p → p.2.2 = true := fun j p hj hp => by
                  by_cases hji : j < i
                  · exact HI.out.2.2.2.1 j p hji hp
                  · obtain rfl : j = i := Nat.le_antisymm (Nat.lt_succ_iff.1 hj) (Nat.le_of_not_lt hji)
                    rw [HI.out.2.2.2.2.2] at hp; injection hp with hp; subst hp; rfl
                have HA6 := Lib.hid hall6
                have HC8 := Lib.hid c8
                clear d2 d0 hall6 c8
                go_wp2
                clear c7
                go_loopw [11] (fun kv wq => ∃ k d : Nat, kv = .int .i64 k ∧ k ≤ i ∧ (∀ j y, j < k → (nmLd ps)[j]? = some y → y ≠ lowL p1) ∧ wq = W4.drewN d) (fun kv _ => i - (intOf kv).toNat)
                case atStart => exact ⟨0, 0, rfl, Nat.zero_le _, fun j y hj => by omega, rfl⟩
                case round =>
                  obtain ⟨k, d, rfl, hk, hno, rfl⟩ := hrel
                  have HNO := Lib.hid hno; clear hno
                  by_cases hki : k < i
                  · obtain ⟨r, hr⟩ : ∃ r, ps[k]? = some r := ⟨_, List.getElem?_eq_getElem (Nat.lt_trans hki hil)⟩
                    have e0 : (W4.drewN d).cell? ⟨g, k * 3, none⟩ = some (.string ⟨(lowL r.1).toArray⟩) := (own_three H4.out.1 k (lowP r) (lowMix_lt ps (i + 1) k r (Nat.lt_succ_of_lt hki) hr) (Nat.lt_trans hki hil)).1
                    have e1 : (W4.drewN d).cell? ⟨g, i * 3, none⟩ = some (.string ⟨(lowL p1).toArray⟩) := HC8.out
                    have hb7 : Below L w (W4.drewN d) := below_drewN H4.out.2.2 d
                    have hb8 : Below L w (W4.drewN (d + 1)) := below_drewN H4.out.2.2 (d + 1)
                    have hnv7 : (W4.drewN (d + 1)).ownsRow L 85 3 NV 0 [] := own_later H4.out.2.1 (below_drewN (Below.refl _ W4) (d + 1))
                    have HB8 := Lib.hid (And.intro hb8 hnv7)
                    obtain ⟨W5, hW5⟩ : ∃ W5, W4.drewN d = W5 := ⟨_, rfl⟩
                    have hW6 : W4.drewN (d + 1) = W5.drew := by rw [← hW5]; rfl
                    rw [hW5] at e0 e1
                    rw [hW6] at HB8
                    rw [hW5]
                    have HW5 := Lib.hid (And.intro hW5 hW6); have HR := Lib.hid hr
                    clear hW5 hW6 hb7 hb8 hnv7 hr
                    have q0 : (0 : Int) ≤ (k : Int) := Int.natCast_nonneg _
                    have q1 : (k : Int) < (i : Int) := by omega
                    have q2 : (k : Int) < (ps.length : Int) := by omega
                    have hwk := w64o k (Nat.le_trans (Nat.le_of_lt hki) hsm.1)
                    have HWK := Lib.hid hwk; clear hwk
                    by_cases heq : lowL r.1 = lowL p1
                    · rw [heq] at e0
                      have HD := Lib.hid (HBAD.out (fun h => dup_not _ k i (lowL p1) (by rw [← heq]; exact nmL_at ps k r HR.out) (nmL_at ps i _ HI.out.2.2.2.2.2) hki h.2.2.2.2))
                      clear heq
                      go_wp2_with fail
                      refine wp_region_still_lit (by kernel_rfl) (by kernel_rfl) ?_
                      repeat still_step
                      refine wpStill_nil ?_
                      go_wp2
                      go_ret3
                      unfold DisPost
                      rw [HD.out, HL.out]
                      exact ⟨_, rfl, HB8.out.2, HB8.out.1⟩
                    · have hs1 : (lowL r.1 == lowL p1) = false := beq_eq_false_iff_ne.2 heq
                      have hno2 : ∀ j y, j < k + 1 → (nmLd ps)[j]? = some y → y ≠ lowL p1 := fun j y hj hy => by
                        by_cases hjk : j < k
                        · exact HNO.out j y hjk hy
                        · obtain rfl : j = k := Nat.le_antisymm (Nat.lt_succ_iff.1 hj) (Nat.le_of_not_lt hjk)
                          rw [nmL_at ps j r HR.out] at hy; injection hy with hy; rw [← hy]; exact heq
                      have HN2 := Lib.hid hno2
                      clear hno2
                      go_wp2_with fail
                      refine wp_region_still_lit (by kernel_rfl) (by kernel_rfl) ?_
                      repeat still_step
                      refine wpStill_nil ?_
                      go_wp2
                      refine ⟨⟨k + 1, d + 1, by go_num, by omega, HN2.out, HW5.out.2.symm⟩, ?_⟩
                      simp [intOf]
                      omega
                  · obtain rfl : k = i := by omega
                    have hd : decide (k < k) = false := decide_eq_false (Nat.lt_irrefl _)
                    have hnd2 : ((nmLd ps).take (k + 1)).Nodup := nodup_next _ k (lowL p1) (nmL_at ps k _ HI.out.2.2.2.2.2) HI.out.2.2.1 HNO.out
                    have HX := Lib.hid (And.intro hnd2 (And.intro (own_later H4.out.1 (below_drewN (Below.refl _ W4) d)) (And.intro (own_later H4.out.2.1 (below_drewN (Below.refl _ W4) d)) (below_drewN H4.out.2.2 d))))
                    clear hnd2
                    go_wp2
                    have hwi := HW.out
                    go_roundw
                    case rel => (try rw [hwi]); clear hwi; exact ⟨k + 1, by go_num, hil, HX.out.2.1, HX.out.2.2.1, HX.out.1, HA6.out, HX.out.2.2.2⟩
                    case measure => (try rw [hwi]); clear hwi; simp [intOf]; omega
            · obtain rfl : i = ps.length := by omega
              rw [List.take_of_length_le (by unfold nmLd; rw [List.length_map]; exact Nat.le_refl _)] at hnd
              rw [lowMix_all] at hown
              have hd : decide (ps.length < ps.length) = false := decide_eq_false (Nat.lt_irrefl _)
              have HI := Lib.hid (And.intro hown (And.intro hnd (And.intro hall hb)))
              clear hown hnd hall hb hnv
              have hD := dis_good s.data.toList t.data.toList n HT.out.2 HN.out ps m 0 HR.out ⟨HQ.out.1, rfl, by rw [size_list, HQ.out.2.1]; exact HQ.out.2.2, fun p hp => by
                obtain ⟨j, hj⟩ := List.getElem?_of_mem hp
                exact HI.out.2.2.1 j p (List.getElem?_eq_some_iff.1 hj).1 hj, HI.out.2.1⟩
              have HD := Lib.hid hD
              have hx2 := ext_front t n
              have hsz2 : (⟨(t.data.toList.take n).toArray⟩ : ByteArray).size ≤ 1099511627776 := by rw [size_mk, List.length_take, size_list]; exact Nat.le_trans (Nat.min_le_right _ _) hts2
              clear hD
              go_wp2_with fail
              refine (rlower_any ⟨(t.data.toList.take n).toArray⟩ _ hsz2).mono ?_
              rintro e w6 ⟨rfl, hb6⟩
              rw [show (⟨(t.data.toList.take n).toArray⟩ : ByteArray).data.toList = t.data.toList.take n from rfl]
              have HO6 := Lib.hid (own_later HI.out.1 hb6)
              have HB6 := Lib.hid (HI.out.2.2.2.trans (hb6.mono (bsz HI.out.2.2.2 HL)))
              clear hb6
              go_wp2
              go_ret3
              unfold DisPost
              rw [HD.out, HL.out, List.length_map]
              exact ⟨_, rfl, HO6.out, HB6.out⟩
    · have hN2 := runL_end isSg _ n hn (by rw [size_list]; omega)
      have HN : Hid (runL isSg t.data.toList = n) := Lib.hid hN2.symm
      have hnle : n ≤ t.size := by rw [hN2]; exact hle
      have k0 : (0 : Int) ≤ (n : Int) := Int.natCast_nonneg _
      have k4 : (n : Int) ≤ (t.size : Int) := by omega
      have k5 : (t.size : Int) ≤ (n : Int) := by omega
      clear hN2 hle hn
      have hx := ext_back t n
      obtain ⟨⟨ps, m, no⟩, hr⟩ : ∃ r, parR (t.data.toList.drop n) = r := ⟨_, rfl⟩
      have hbd := parR_bd _ ps m no hr
      rw [List.length_drop, size_list] at hbd
      have hp := rparams_any ⟨(t.data.toList.drop n).toArray⟩ wr (by rw [size_mk, List.length_drop, size_list]; exact Nat.le_trans (Nat.sub_le _ _) hts2)
      unfold ParamsPost at hp
      rw [show (⟨(t.data.toList.drop n).toArray⟩ : ByteArray).data.toList = t.data.toList.drop n from rfl, hr] at hp
      have HP := Lib.hid hp; have HR := Lib.hid hr
      clear hp hr
      have hbadof : ∀ h : ¬ (n ≠ 0 ∧ no = 0 ∧ n + m = t.data.toList.length ∧ (∀ p ∈ ps, p.2.2 = true) ∧ (ps.map fun p => lowL p.1).Nodup), disR s.data.toList = ([], [], 152) := fun h => dis_bad s.data.toList t.data.toList n HT.out.2 HN.out ps m no HR.out h
      have HBAD := Lib.hid hbadof
      clear hbadof
      obtain ⟨q, hq⟩ : ∃ q, n + m = q := ⟨_, rfl⟩
      have f5 : (n : Int) + (m : Int) = (q : Int) := by omega
      have hq2 : q ≤ t.size := by omega
      by_cases hz : n = 0 ∨ no ≠ 0 ∨ q ≠ t.size
      · have HD := Lib.hid (HBAD.out (by rw [size_list]; omega))
        have hzc : n = 0 ∨ (n ≠ 0 ∧ no ≠ 0) ∨ (n ≠ 0 ∧ no = 0 ∧ q ≠ t.size) := by omega
        clear hz
        go_wp2_with fail
        refine (HP.out).mono ?_
        rintro e w2 ⟨v, rfl, hown, hb2⟩
        have HB2 : Hid (Below L w w2) := Lib.hid (HB1.out.trans (hb2.mono (bsz HB1.out HL)))
        have HR2 := Lib.hid (own_later HR0.out hb2)
        clear hown hb2
        rcases hzc with h | ⟨h1, h2⟩ | ⟨h1, h2, h3⟩
        · have b1 : ((n : Int) == 0) = true := by simp; omega
          go_wp2
          go_ret3
          unfold DisPost
          rw [HD.out, HL.out]
          exact ⟨_, rfl, HR2.out, HB2.out⟩

        · have b1 : ((n : Int) == 0) = false := by simp; omega
          have b2 : ((no : Int) != 0) = true := by simp; omega
          go_wp2
          go_ret3
          unfold DisPost
          rw [HD.out, HL.out]
          exact ⟨_, rfl, HR2.out, HB2.out⟩

        · have b1 : ((n : Int) == 0) = false := by simp; omega
          have b2 : ((no : Int) != 0) = false := by simp; omega
          have b3 : ((q : Int) != (t.size : Int)) = true := by simp; omega
          subst h2
          go_wp2
          go_ret3
          unfold DisPost
          rw [HD.out, HL.out]
          exact ⟨_, rfl, HR2.out, HB2.out⟩

      · have h1 : n ≠ 0 := fun h => hz (Or.inl h)
        obtain rfl : no = 0 := Classical.byContradiction fun h => hz (Or.inr (Or.inl h))
        have h3 : q = t.size := Classical.byContradiction fun h => hz (Or.inr (Or.inr h))
        have b1 : ((n : Int) == 0) = false := by simp; omega
        have b3 : ((q : Int) != (t.size : Int)) = false := by simp; omega
        have HQ := Lib.hid (And.intro h1 (And.intro hq h3))
        clear hz h1 h3 hq
        go_wp2_with fail
        refine (HP.out).mono ?_
        rintro e w2 ⟨v, rfl, hown, hb2⟩
        have hb2' : Below L w w2 := HB1.out.trans (hb2.mono (bsz HB1.out HL))
        have hownL : w2.ownsRow L 85 3 v ps.length (parsV ps) := own_mono2 hown (bsz HB1.out HL)
        have hr2 := own_later HR0.out hb2
        have hne2 : v.ownBlock ≠ NV.ownBlock ∨ v.ownBlock = none := by
          cases hvb : v.ownBlock with
          | none => exact Or.inr rfl
          | some k =>
            left
            intro e
            have h1 := (hown.lt k hvb).1
            have h2 := (HR0.out.lt k e.symm).2
            omega
        have hvs : ∃ ao cap, v = .slice ao ps.length cap ∧ (0 < ps.length → ∃ g, ao = some ⟨g, 0, none⟩ ∧ NV.ownBlock ≠ some g) := by
          rcases hownL.2 with ⟨rfl, h0⟩ | ⟨g, cap, cur, rfl, hbg, hgw, _⟩
          · exact ⟨none, 0, by rw [h0], fun h => by omega⟩
          · exact ⟨_, cap, rfl, fun _ => ⟨g, rfl, fun e => by
              rcases hne2 with h | h
              · exact h e.symm
              · cases h⟩⟩
        obtain ⟨ao, cap, rfl, hao⟩ := hvs
        have HST := Lib.hid (And.intro hownL (And.intro hr2 hb2'))
        have HAO := Lib.hid hao
        clear hown hb2 hb2' hownL hao hne2 hr2
        go_wp2
        go_loopw [10] (fun iv wr => ∃ i : Nat, iv = .int .i64 i ∧ i ≤ ps.length ∧ wr.ownsRow L 85 3 (.slice ao ps.length cap) ps.length (parsV (lowMix ps i)) ∧ wr.ownsRow L 85 3 NV 0 [] ∧ ((nmLd ps).take i).Nodup ∧ (∀ j p, j < i → ps[j]? = some p → p.2.2 = true) ∧ Below L w wr) (fun iv _ => ps.length - (intOf iv).toNat)
        case atStart => exact ⟨0, rfl, Nat.zero_le _, by rw [lowMix_zero]; exact HST.out.1, HST.out.2.1, List.nodup_nil, fun j p hj => by omega, HST.out.2.2⟩
        case round =>
          clear HST
          obtain ⟨i, rfl, hi, hown, hnv, hnd, hall, hb⟩ := hrel
          by_cases hil : i < ps.length
          · exfalso
            have := hbd.2.1
            omega
          · obtain rfl : i = ps.length := by omega
            rw [List.take_of_length_le (by unfold nmLd; rw [List.length_map]; exact Nat.le_refl _)] at hnd
            rw [lowMix_all] at hown
            have hd : decide (ps.length < ps.length) = false := decide_eq_false (Nat.lt_irrefl _)
            have HI := Lib.hid (And.intro hown (And.intro hnd (And.intro hall hb)))
            clear hown hnd hall hb hnv
            have hD := dis_good s.data.toList t.data.toList n HT.out.2 HN.out ps m 0 HR.out ⟨HQ.out.1, rfl, by rw [size_list, HQ.out.2.1]; exact HQ.out.2.2, fun p hp => by
              obtain ⟨j, hj⟩ := List.getElem?_of_mem hp
              exact HI.out.2.2.1 j p (List.getElem?_eq_some_iff.1 hj).1 hj, HI.out.2.1⟩
            have HD := Lib.hid hD
            have hx2 := ext_front t n
            have hsz2 : (⟨(t.data.toList.take n).toArray⟩ : ByteArray).size ≤ 1099511627776 := by rw [size_mk, List.length_take, size_list]; exact Nat.le_trans (Nat.min_le_right _ _) hts2
            clear hD
            go_wp2_with fail
            refine (rlower_any ⟨(t.data.toList.take n).toArray⟩ _ hsz2).mono ?_
            rintro e w6 ⟨rfl, hb6⟩
            rw [show (⟨(t.data.toList.take n).toArray⟩ : ByteArray).data.toList = t.data.toList.take n from rfl]
            have HO6 := Lib.hid (own_later HI.out.1 hb6)
            have HB6 := Lib.hid (HI.out.2.2.2.trans (hb6.mono (bsz HI.out.2.2.2 HL)))
            clear hb6
            go_wp2
            go_ret3
            unfold DisPost
            rw [HD.out, HL.out, List.length_map]
            exact ⟨_, rfl, HO6.out, HB6.out⟩
end Go.Proofs.YtlfdeenekjklgaaGreatDoor
