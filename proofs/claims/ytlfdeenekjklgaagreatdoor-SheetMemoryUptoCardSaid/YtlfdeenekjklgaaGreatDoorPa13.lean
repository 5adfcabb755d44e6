/- The walk of sheet.Disposition: the plain function disR. Conditions: fewer than 2^40 bytes; octet.signs holds what the text lays. -/
import Derived.Test.YtlfdeenekjklgaaGreatDoorPk12
import Derived.Test.YtlfdeenekjklgaaGreatDoorPk07
namespace Go.Proofs.YtlfdeenekjklgaaGreatDoor
open Go.RowKit
set_option linter.unusedSimpArgs false
set_option linter.unusedVariables false
set_option maxRecDepth 1000000
theorem keyLaw : Maps.Keyed Tryz.prog 9 := Maps.string_keyed Tryz.underlying9
theorem zeroInt (w : World) : (zeroValue 3).run Tryz.prog w = .ok (.int .i64 0) w := by kernel_rfl
def DisPost (s : ByteArray) (T : TypeId) (w : World) (e : Ending) (w' : World) : Prop := ∃ v, e = .returned (.tuple #[.string ⟨(disR s.data.toList).1.toArray⟩, v, .int .i64 ((disR s.data.toList).2.2 : Nat)]) ∧ w'.ownsRow w.heap.size T 3 v (disR s.data.toList).2.1.length (parsV (disR s.data.toList).2.1) ∧ Below w.heap.size w w'
theorem parR_bd (l : List UInt8) (ps : List Par) (m e : Nat) (h : parR l = (ps, m, e)) : m ≤ l.length ∧ ps.length ≤ l.length ∧ ∀ p ∈ ps, p.1.length ≤ l.length := by
  unfold parR at h
  cases hp : parP l with
  | none =>
    rw [hp] at h
    injection h with h1 h2; injection h2 with h2 h3
    subst h1; subst h2
    simp
  | some x =>
    obtain ⟨qs, k⟩ := x
    rw [hp] at h
    injection h with h1 h2; injection h2 with h2 h3
    subst h1; subst h2
    have := parP_used l.length l qs k (Nat.le_refl _) hp
    exact ⟨this.1, by omega, fun p hp => by have := this.2.2 p hp; omega⟩
theorem isTok_one (c : UInt8) : isTok [c] = isSg c := by simp [isTok]
theorem ext_one (t : ByteArray) (i j : Nat) (hj : i + 1 = j) (h : i < t.size) (c : UInt8) (hc : t[i]'h = c) : t.extract i j = ⟨#[c]⟩ := by
  rw [ext_mk, ← hj, Nat.add_sub_cancel_left, drop_get t i h, hc]; rfl
theorem names_take (ps : List Par) (i : Nat) (p : Par) (h : ps[i]? = some p) : (ps.map fun p => lowL p.1).take (i + 1) = (ps.map fun p => lowL p.1).take i ++ [lowL p.1] := by
  rw [List.take_add_one, List.getElem?_map, h]; rfl
theorem p_small (i n s : Nat) (hi : i < n) (hn : n ≤ s) (hs : s ≤ 1099511627776) : i ≤ 2199023255552 ∧ i < maxLen := by unfold maxLen; omega
set_option maxHeartbeats 16000000 in
theorem sdis_any (s : ByteArray) (w : World) (hs : s.size ≤ 1099511627776) (hg : SgAt w) : Calls Tryz.prog 16 #[.string s] w (DisPost s 52 w) := by
  have hmm := @run_makeMap Tryz.prog
  obtain ⟨L, hL⟩ : ∃ L, w.heap.size = L := ⟨_, rfl⟩
  have HL := Lib.hid hL; clear hL
  have HG := Lib.hid hg; clear hg
  have HMM := Lib.hid @hmm
  clear hmm
  obtain ⟨t, ht⟩ : ∃ t : ByteArray, (⟨(trimL s.data.toList).toArray⟩ : ByteArray) = t := ⟨_, rfl⟩
  have htl : trimL s.data.toList = t.data.toList := by rw [← ht]
  have hts : t.size ≤ s.size := by rw [← size_list, ← htl, ← size_list]; exact trimL_len _
  have hts2 : t.size ≤ 1099511627776 := Nat.le_trans hts hs
  have HT := Lib.hid (And.intro ht htl)
  clear ht htl
  go_enter Tryz.func16, Tryz.ntmps16
  go_wp2_with fail
  refine (otrim_any s _ hs).mono ?_
  rintro e w1 ⟨rfl, hb1⟩
  rw [HT.out.1]
  have HB1 : Hid (Below L w w1) := Lib.hid (by rw [← HL.out]; exact hb1)
  have HG1 := Lib.hid (HG.out.below hb1)
  clear hb1
  go_wp2
  go_loopw [5] (fun nv wr => ∃ n : Nat, nv = .int .i64 n ∧ n ≤ runL isSg t.data.toList ∧ wr = w1) (fun nv _ => t.size - (intOf nv).toNat)
  case atStart => exact ⟨0, rfl, Nat.zero_le _, rfl⟩
  case round =>
    obtain ⟨n, rfl, hn, rfl⟩ := hrel
    have hle := runL_at isSg t 0
    rw [List.drop_zero] at hle
    by_cases hlt : n < t.size
    · obtain ⟨c, hc⟩ : ∃ c, t[n]'hlt = c := ⟨_, rfl⟩
      have hget := list_get t n hlt
      rw [hc] at hget
      obtain ⟨n1, hn1⟩ : ∃ n1, n + 1 = n1 := ⟨_, rfl⟩
      have f1 : (n : Int) + 1 = (n1 : Int) := by omega
      have hx := ext_one t n n1 hn1 hlt c hc
      have k0 : (0 : Int) ≤ (n : Int) := Int.natCast_nonneg _
      have k1 : (n : Int) < (t.size : Int) := by omega
      have k2 : (n : Int) ≤ (n1 : Int) := by omega
      have k3 : (n1 : Int) ≤ (t.size : Int) := by omega
      clear hc
      cases hst : isSg c with
      | true =>
        have hx2 := runL_more isSg _ n c hn hget hst
        have HS := Lib.hid (And.intro hx2 (And.intro hst hn1))
        clear hx2 hst hget hn hle hn1
        go_wp2_with fail
        refine (otoken_any ⟨#[c]⟩ _ (show 1 ≤ 1099511627776 from by decide) HG1.out).mono ?_
        rintro e wr ⟨rfl, rfl⟩
        rw [show (⟨#[c]⟩ : ByteArray).data.toList = [c] from rfl, isTok_one, HS.out.2.1]
        go_wp2
        go_roundw
        case rel => exact ⟨n1, rfl, by rw [← HS.out.2.2]; exact HS.out.1, by first | rfl | trivial⟩
        case measure => simp [intOf]; omega
      | false =>
        have hx2 := runL_stop isSg _ n c hn hget hst
        have HS := Lib.hid (And.intro hx2 hst)
        clear hx2 hst hget hn hle hn1
        go_wp2_with fail
        refine (otoken_any ⟨#[c]⟩ _ (show 1 ≤ 1099511627776 from by decide) HG1.out).mono ?_
        rintro e wr ⟨rfl, rfl⟩
        rw [show (⟨#[c]⟩ : ByteArray).data.toList = [c] from rfl, isTok_one, HS.out.2]
        have HN : Hid (runL isSg t.data.toList = n) := Lib.hid HS.out.1.symm
        have hnle : n ≤ t.size := Nat.le_of_lt hlt
        have k4 : (n : Int) ≤ (t.size : Int) := by omega
        clear HS f1 hx k2 k3
        have hx := ext_back t n
        obtain ⟨⟨ps, m, no⟩, hr⟩ : ∃ r, parR (t.data.toList.drop n) = r := ⟨_, rfl⟩
        have hbd := parR_bd _ ps m no hr
        rw [List.length_drop, size_list] at hbd
        have hp := oparams_any ⟨(t.data.toList.drop n).toArray⟩ wr (by rw [size_mk, List.length_drop, size_list]; exact Nat.le_trans (Nat.sub_le _ _) hts2) HG1.out
        unfold ParamsPost at hp
        rw [show (⟨(t.data.toList.drop n).toArray⟩ : ByteArray).data.toList = t.data.toList.drop n from rfl, hr] at hp
        have HP := Lib.hid hp; have HR := Lib.hid hr
        clear hp hr
        have hbadof : ∀ h : ¬ (n ≠ 0 ∧ no = 0 ∧ n + m = t.data.toList.length ∧ (∀ p ∈ ps, p.2.2 = true) ∧ (ps.map fun p => lowL p.1).Nodup), disR s.data.toList = ([], [], 152) := fun h => dis_bad s.data.toList t.data.toList n HT.out.2 HN.out ps m no HR.out h
        have HBAD := Lib.hid hbadof
        clear hbadof
        obtain ⟨q, hq⟩ : ∃ q, n + m = q := ⟨_, rfl⟩
        have f5 : (n : Int) + (m : Int) = (q : Int) := by omega
        have hq2 : q ≤ t.size := by omega
        by_cases hz : n = 0 ∨ no ≠ 0 ∨ q ≠ t.size
        · have HD := Lib.hid (HBAD.out (by rw [size_list]; omega))
          have hzc : n = 0 ∨ (n ≠ 0 ∧ no ≠ 0) ∨ (n ≠ 0 ∧ no = 0 ∧ q ≠ t.size) := by omega
          clear hz
          go_wp2_with fail
          refine (HP.out).mono ?_
          rintro e w2 ⟨v, rfl, hown, hb2⟩
          have HB2 : Hid (Below L w w2) := Lib.hid (HB1.out.trans (hb2.mono (bsz HB1.out HL)))
          clear hown hb2
          rcases hzc with h | ⟨h1, h2⟩ | ⟨h1, h2, h3⟩
          · have b1 : ((n : Int) == 0) = true := by simp; omega
            go_wp2
            go_ret3
            unfold DisPost
            rw [HD.out, HL.out]
            exact ⟨_, rfl, World.ownsRow_nil _ _ _ _, HB2.out⟩
          · have b1 : ((n : Int) == 0) = false := by simp; omega
            have b2 : ((no : Int) != 0) = true := by simp; omega
            go_wp2
            go_ret3
            unfold DisPost
            rw [HD.out, HL.out]
            exact ⟨_, rfl, World.ownsRow_nil _ _ _ _, HB2.out⟩
          · have b1 : ((n : Int) == 0) = false := by simp; omega
            have b2 : ((no : Int) != 0) = false := by simp; omega
            have b3 : ((q : Int) != (t.size : Int)) = true := by simp; omega
            subst h2
            go_wp2
            go_ret3
            unfold DisPost
            rw [HD.out, HL.out]
            exact ⟨_, rfl, World.ownsRow_nil _ _ _ _, HB2.out⟩
        · have h1 : n ≠ 0 := fun h => hz (Or.inl h)
          obtain rfl : no = 0 := Classical.byContradiction fun h => hz (Or.inr (Or.inl h))
          have h3 : q = t.size := Classical.byContradiction fun h => hz (Or.inr (Or.inr h))
          have b1 : ((n : Int) == 0) = false := by simp; omega
          have b3 : ((q : Int) != (t.size : Int)) = false := by simp; omega
          have HQ := Lib.hid (And.intro h1 (And.intro hq h3))
          clear hz h1 h3 hq
          go_wp2_with fail
          refine (HP.out).mono ?_
          rintro e w2 ⟨v, rfl, hown, hb2⟩
          have hb2' : Below L w w2 := HB1.out.trans (hb2.mono (bsz HB1.out HL))
          have hownL : w2.ownsRow L 52 3 v ps.length (parsV ps) := own_mono2 hown (bsz HB1.out HL)
          have HB2 := Lib.hid hb2'
          obtain ⟨M, hM⟩ : ∃ M, w2.heap.size = M := ⟨_, rfl⟩
          have hnm := nameMap_made Tryz.prog 9 3 w2
          rw [hM] at hnm
          have hvs : ∃ ao cap, v = .slice ao ps.length cap ∧ (0 < ps.length → ∃ g, ao = some ⟨g, 0, none⟩ ∧ g < M) := by
            rcases hownL.2 with ⟨rfl, h0⟩ | ⟨g, cap, cur, rfl, hbg, hgw, _⟩
            · exact ⟨none, 0, by rw [h0], fun h => by omega⟩
            · exact ⟨_, cap, rfl, fun _ => ⟨g, rfl, by rw [← hM]; exact (Array.getElem?_eq_some_iff.1 hgw).1⟩⟩
          obtain ⟨ao, cap, rfl, hao⟩ := hvs
          have hb3 : Below L w (w2.alloc (.map #[] 0)) := hb2'.alloc (bsz hb2' HL) _
          have HST := Lib.hid (And.intro (hownL.alloc (.map #[] 0)) (And.intro hnm hb3))
          have HAO := Lib.hid hao
          have HM := Lib.hid hM
          clear hown hb2 hb2' hownL hnm hao hb3 hM
          have hmm := @(HMM.out)
          go_upto_region 9 with fail
          rw [HM.out]
          clear hmm
          go_wp2
          go_loopw [52] (fun iv wr => ∃ i : Nat, iv = .int .i64 i ∧ i ≤ ps.length ∧ wr.ownsRow L 52 3 (.slice ao ps.length cap) ps.length (parsV (lowMix ps i)) ∧ NameMap Tryz.prog 9 3 wr M ((ps.map fun p => lowL p.1).take i) ∧ (∀ j p, j < i → ps[j]? = some p → p.2.2 = true) ∧ Below L w wr) (fun iv _ => ps.length - (intOf iv).toNat)
          case atStart => exact ⟨0, rfl, Nat.zero_le _, by rw [lowMix_zero]; exact HST.out.1, HST.out.2.1, fun j p hj => by omega, HST.out.2.2⟩
          case round =>
            clear HST
            obtain ⟨i, rfl, hi, hown, hnm, hall, hb⟩ := hrel
            by_cases hil : i < ps.length
            · obtain ⟨g, rfl, hgM⟩ := HAO.out (by omega)
              obtain ⟨p, hp⟩ : ∃ p, ps[i]? = some p := ⟨_, List.getElem?_eq_getElem hil⟩
              have hpl : p.1.length ≤ 1099511627776 := Nat.le_trans (hbd.2.2 p (List.mem_of_getElem? hp)) (Nat.le_trans (Nat.sub_le _ _) hts2)
              have hsm := p_small i ps.length t.size hil (Nat.le_trans hbd.2.1 (Nat.sub_le _ _)) hts2
              have i0 : (0 : Int) ≤ (i : Int) := Int.natCast_nonneg _
              have i1 : (i : Int) < (ps.length : Int) := by omega
              have hwi := w64o i hsm.1
              have c0 := (own_three hown i p (lowMix_at ps i p hp) hil).1
              have HI := Lib.hid (And.intro hown (And.intro hnm (And.intro hall (And.intro hb hp)))); have HW := Lib.hid hwi
              clear hown hnm hall hb hp hwi
              go_wp2_with fail
              refine (olower_any ⟨p.1.toArray⟩ _ (by rw [size_mk]; exact hpl)).mono ?_
              rintro e w3 ⟨rfl, hb3⟩
              rw [show (⟨p.1.toArray⟩ : ByteArray).data.toList = p.1 from rfl]
              have hown3 := own_later HI.out.1 hb3
              have hst := own_lower hown3 HI.out.2.2.2.2
              have c3 := (own_three hown3 i p (lowMix_at ps i p HI.out.2.2.2.2) hil).1
              have z3 := hown3.frozenAt (i * 3)
              have hown4 := hst.1
              obtain ⟨D, hmap, htd, hhas, hsz, hnd⟩ := HI.out.2.1
              have hmap4 := (hmap.kept (grown_of_below hb3) (by simp)).kept hst.2 (by intro e; injection e with e; omega)
              have hb4 : Below L w (w3.setCell ⟨g, i * 3, none⟩ (.string ⟨(lowL p.1).toArray⟩)) := (HI.out.2.2.2.1.trans (hb3.mono (bsz HI.out.2.2.2.1 HL))).setCell (p := ⟨g, i * 3, none⟩) (hown3.lt g rfl).1 _
              have c4 : (w3.setCell ⟨g, i * 3, none⟩ (.string ⟨(lowL p.1).toArray⟩)).cell? ⟨g, i * 3, none⟩ = some (.string ⟨(lowL p.1).toArray⟩) := by rw [World.cell?_setCell_same _ _ _ c3]
              obtain ⟨W4, hW4⟩ : ∃ W4, w3.setCell ⟨g, i * 3, none⟩ (.string ⟨(lowL p.1).toArray⟩) = W4 := ⟨_, rfl⟩
              rw [hW4] at hown4 hmap4 hb4 c4
              have HW4 := Lib.hid hW4
              have H4 := Lib.hid (And.intro hown4 (And.intro hb4 (And.intro htd (And.intro hhas (And.intro hsz hnd)))))
              have HMP := Lib.hid hmap4
              clear hst hown3 hmap hb3 hW4 hown4 hb4 htd hhas hsz hnd c0 hmap4
              go_upto_region 13 with fail
              rw [HW4.out]
              clear c3 z3
              have hkey := Go.WideMaps.keyOf_string_mk (P := Tryz.prog) Tryz.underlying9 (s := ⟨(lowL p.1).toArray⟩) (by rw [size_mk, lowL_len]; exact Nat.le_trans hpl (by decide))
              have HK := Lib.hid hkey
              obtain ⟨cc, hrun, hat, hwc⟩ := HMP.out.lookup_int keyLaw Tryz.underlying93 Tryz.underlying3 (zeroInt _) hkey
              have HAT := Lib.hid (And.intro hat hwc)
              clear hkey hat hwc
              obtain ⟨w5, hrun5, hmap5, hgr5⟩ := HMP.out.update keyLaw Tryz.underlying93 (take_small _ _ hsm.2) HK.out (val := .int .i64 (wrap64 (cc + 1))) (plainElem_int Tryz.underlying3 (wrap64_wf _))
              have hst5 := nameMap_step D _ (lowL p.1) (.lit (.int .i64 (wrap64 (cc + 1)))) H4.out.2.2.1 H4.out.2.2.2.1 H4.out.2.2.2.2.1 H4.out.2.2.2.2.2
              rw [← names_take ps i p HI.out.2.2.2.2] at hst5
              have hnm5 : NameMap Tryz.prog 9 3 w5 M ((ps.map fun p => lowL p.1).take (i + 1)) := ⟨_, by rw [names_len ps (i + 1) hil]; rw [names_len ps i hi] at hmap5; exact hmap5, hst5⟩
              have hown5 := H4.out.1.kept hgr5 (Or.inr (by intro e; injection e with e; exact absurd e (Nat.ne_of_lt hgM)))
              have hb5 : Below L w w5 := H4.out.2.1.grown hgr5 (bsz H4.out.2.1 HL) (fun k hk => by injection hk with hk; rw [← hk, ← HM.out]; exact bsz HB2.out HL)
              have c6 := (own_three hown5 i (lowP p) (lowMix_lt ps (i + 1) i p (Nat.lt_succ_self i) HI.out.2.2.2.2) hil).2.2
              have H5 := Lib.hid (And.intro hown5 (And.intro hnm5 hb5))
              have HR5 := Lib.hid hrun5
              clear hmap5 hgr5 hst5 hnm5 hown5 hb5 hrun5
              have hrun5 := HR5.out
              obtain ⟨p1, p2, p3⟩ := p
              cases p3 with
              | true =>
                have c7 : w5.cell? ⟨g, i * 3 + 2, none⟩ = some (.bool true) := c6
                have hall6 : ∀ j p, j < i + 1 → ps[j]? = some p → p.2.2 = true := fun j p hj hp => by
                  by_cases hji : j < i
                  · exact HI.out.2.2.1 j p hji hp
                  · obtain rfl : j = i := Nat.le_antisymm (Nat.lt_succ_iff.1 hj) (Nat.le_of_not_lt hji)
                    rw [HI.out.2.2.2.2] at hp; injection hp with hp; subst hp; rfl
                have HA6 := Lib.hid hall6
                clear c6 hall6
                go_wp2
                have hwi := HW.out
                go_roundw
                case rel => (try rw [hwi]); clear hwi; exact ⟨i + 1, by go_num, hil, H5.out.1, H5.out.2.1, HA6.out, H5.out.2.2⟩
                case measure => (try rw [hwi]); clear hwi; simp [intOf]; omega
              | false =>
                have c7 : w5.cell? ⟨g, i * 3 + 2, none⟩ = some (.bool false) := c6
                have HD := Lib.hid (HBAD.out (fun h => by have := h.2.2.2.1 _ (List.mem_of_getElem? HI.out.2.2.2.2); cases this))
                clear c6
                go_wp2
                go_ret3
                unfold DisPost
                rw [HD.out, HL.out]
                exact ⟨_, rfl, World.ownsRow_nil _ _ _ _, H5.out.2.2⟩
            · obtain rfl : i = ps.length := by omega
              rw [List.take_of_length_le (by rw [List.length_map]; exact Nat.le_refl _)] at hnm
              rw [lowMix_all] at hown
              obtain ⟨D, hmap, _, _, _, hnd⟩ := hnm
              rw [List.length_map] at hnd
              have hln := fun ty => hmap.len Tryz.underlying93 ty
              obtain ⟨z, hz⟩ : ∃ z, Maps.size D = z := ⟨_, rfl⟩
              rw [hz] at hln hnd
              have hd : decide (ps.length < ps.length) = false := decide_eq_false (Nat.lt_irrefl _)
              have HI := Lib.hid (And.intro hown (And.intro hnd (And.intro hall hb)))
              clear hown hmap hnd hall hb hz
              by_cases hzl : z = ps.length
              · have b5 : ((z : Int) != (ps.length : Int)) = false := by simp; omega
                have hD := dis_good s.data.toList t.data.toList n HT.out.2 HN.out ps m 0 HR.out ⟨HQ.out.1, rfl, by rw [size_list, HQ.out.2.1]; exact HQ.out.2.2, fun p hp => by
                  obtain ⟨j, hj⟩ := List.getElem?_of_mem hp
                  exact HI.out.2.2.1 j p (List.getElem?_eq_some_iff.1 hj).1 hj, HI.out.2.1.1 hzl⟩
                have HD := Lib.hid hD
                have hx2 := ext_front t n
                have hsz2 : (⟨(t.data.toList.take n).toArray⟩ : ByteArray).size ≤ 1099511627776 := by rw [size_mk, List.length_take, size_list]; exact Nat.le_trans (Nat.min_le_right _ _) hts2
                clear hD hzl
                go_wp2_with fail
                refine (olower_any ⟨(t.data.toList.take n).toArray⟩ _ hsz2).mono ?_
                rintro e w6 ⟨rfl, hb6⟩
                rw [show (⟨(t.data.toList.take n).toArray⟩ : ByteArray).data.toList = t.data.toList.take n from rfl]
                have HO6 := Lib.hid (own_later HI.out.1 hb6)
                have HB6 := Lib.hid (HI.out.2.2.2.trans (hb6.mono (bsz HI.out.2.2.2 HL)))
                clear hb6 hln
                go_wp2
                go_ret3
                unfold DisPost
                rw [HD.out, HL.out, List.length_map]
                exact ⟨_, rfl, HO6.out, HB6.out⟩
              · have b5 : ((z : Int) != (ps.length : Int)) = true := by simp; omega
                have HD := Lib.hid (HBAD.out (fun h => hzl (HI.out.2.1.2 h.2.2.2.2)))
                clear hzl
                go_wp2
                go_ret3
                unfold DisPost
                rw [HD.out, HL.out]
                exact ⟨_, rfl, World.ownsRow_nil _ _ _ _, HI.out.2.2.2⟩
    · have hN2 := runL_end isSg _ n hn (by rw [size_list]; omega)
      have HN : Hid (runL isSg t.data.toList = n) := Lib.hid hN2.symm
      have hnle : n ≤ t.size := by rw [hN2]; exact hle
      have k0 : (0 : Int) ≤ (n : Int) := Int.natCast_nonneg _
      have k4 : (n : Int) ≤ (t.size : Int) := by omega
      have k5 : (t.size : Int) ≤ (n : Int) := by omega
      clear hN2 hle hn
      have hx := ext_back t n
      obtain ⟨⟨ps, m, no⟩, hr⟩ : ∃ r, parR (t.data.toList.drop n) = r := ⟨_, rfl⟩
      have hbd := parR_bd _ ps m no hr
      rw [List.length_drop, size_list] at hbd
      have hp := oparams_any ⟨(t.data.toList.drop n).toArray⟩ wr (by rw [size_mk, List.length_drop, size_list]; exact Nat.le_trans (Nat.sub_le _ _) hts2) HG1.out
      unfold ParamsPost at hp
      rw [show (⟨(t.data.toList.drop n).toArray⟩ : ByteArray).data.toList = t.data.toList.drop n from rfl, hr] at hp
      have HP := Lib.hid hp; have HR := Lib.hid hr
      clear hp hr
      have hbadof : ∀ h : ¬ (n ≠ 0 ∧ no = 0 ∧ n + m = t.data.toList.length ∧ (∀ p ∈ ps, p.2.2 = true) ∧ (ps.map fun p => lowL p.1).Nodup), disR s.data.toList = ([], [], 152) := fun h => dis_bad s.data.toList t.data.toList n HT.out.2 HN.out ps m no HR.out h
      have HBAD := Lib.hid hbadof
      clear hbadof
      obtain ⟨q, hq⟩ : ∃ q, n + m = q := ⟨_, rfl⟩
      have f5 : (n : Int) + (m : Int) = (q : Int) := by omega
      have hq2 : q ≤ t.size := by omega
      by_cases hz : n = 0 ∨ no ≠ 0 ∨ q ≠ t.size
      · have HD := Lib.hid (HBAD.out (by rw [size_list]; omega))
        have hzc : n = 0 ∨ (n ≠ 0 ∧ no ≠ 0) ∨ (n ≠ 0 ∧ no = 0 ∧ q ≠ t.size) := by omega
        clear hz
        go_wp2_with fail
        refine (HP.out).mono ?_
        rintro e w2 ⟨v, rfl, hown, hb2⟩
        have HB2 : Hid (Below L w w2) := Lib.hid (HB1.out.trans (hb2.mono (bsz HB1.out HL)))
        clear hown hb2
        rcases hzc with h | ⟨h1, h2⟩ | ⟨h1, h2, h3⟩
        · have b1 : ((n : Int) == 0) = true := by simp; omega
          go_wp2
          go_ret3
          unfold DisPost
          rw [HD.out, HL.out]
          exact ⟨_, rfl, World.ownsRow_nil _ _ _ _, HB2.out⟩
        · have b1 : ((n : Int) == 0) = false := by simp; omega
          have b2 : ((no : Int) != 0) = true := by simp; omega
          go_wp2
          go_ret3
          unfold DisPost
          rw [HD.out, HL.out]
          exact ⟨_, rfl, World.ownsRow_nil _ _ _ _, HB2.out⟩
        · have b1 : ((n : Int) == 0) = false := by simp; omega
          have b2 : ((no : Int) != 0) = false := by simp; omega
          have b3 : ((q : Int) != (t.size : Int)) = true := by simp; omega
          subst h2
          go_wp2
          go_ret3
          unfold DisPost
          rw [HD.out, HL.out]
          exact ⟨_, rfl, World.ownsRow_nil _ _ _ _, HB2.out⟩
      · have h1 : n ≠ 0 := fun h => hz (Or.inl h)
        obtain rfl : no = 0 := Classical.byContradiction fun h => hz (Or.inr (Or.inl h))
        have h3 : q = t.size := Classical.byContradiction fun h => hz (Or.inr (Or.inr h))
        have b1 : ((n : Int) == 0) = false := by simp; omega
        have b3 : ((q : Int) != (t.size : Int)) = false := by simp; omega
        have HQ := Lib.hid (And.intro h1 (And.intro hq h3))
        clear hz h1 h3 hq
        go_wp2_with fail
        refine (HP.out).mono ?_
        rintro e w2 ⟨v, rfl, hown, hb2⟩
        have hb2' : Below L w w2 := HB1.out.trans (hb2.mono (bsz HB1.out HL))
        have hownL : w2.ownsRow L 52 3 v ps.length (parsV ps) := own_mono2 hown (bsz HB1.out HL)
        have HB2 := Lib.hid hb2'
        obtain ⟨M, hM⟩ : ∃ M, w2.heap.size = M := ⟨_, rfl⟩
        have hnm := nameMap_made Tryz.prog 9 3 w2
        rw [hM] at hnm
        have hvs : ∃ ao cap, v = .slice ao ps.length cap ∧ (0 < ps.length → ∃ g, ao = some ⟨g, 0, none⟩ ∧ g < M) := by
          rcases hownL.2 with ⟨rfl, h0⟩ | ⟨g, cap, cur, rfl, hbg, hgw, _⟩
          · exact ⟨none, 0, by rw [h0], fun h => by omega⟩
          · exact ⟨_, cap, rfl, fun _ => ⟨g, rfl, by rw [← hM]; exact (Array.getElem?_eq_some_iff.1 hgw).1⟩⟩
        obtain ⟨ao, cap, rfl, hao⟩ := hvs
        have hb3 : Below L w (w2.alloc (.map #[] 0)) := hb2'.alloc (bsz hb2' HL) _
        have HST := Lib.hid (And.intro (hownL.alloc (.map #[] 0)) (And.intro hnm hb3))
        have HAO := Lib.hid hao
        have HM := Lib.hid hM
        clear hown hb2 hb2' hownL hnm hao hb3 hM
        have hmm := @(HMM.out)
        go_upto_region 9 with fail
        rw [HM.out]
        clear hmm
        go_wp2
        go_loopw [52] (fun iv wr => ∃ i : Nat, iv = .int .i64 i ∧ i ≤ ps.length ∧ wr.ownsRow L 52 3 (.slice ao ps.length cap) ps.length (parsV (lowMix ps i)) ∧ NameMap Tryz.prog 9 3 wr M ((ps.map fun p => lowL p.1).take i) ∧ (∀ j p, j < i → ps[j]? = some p → p.2.2 = true) ∧ Below L w wr) (fun iv _ => ps.length - (intOf iv).toNat)
        case atStart => exact ⟨0, rfl, Nat.zero_le _, by rw [lowMix_zero]; exact HST.out.1, HST.out.2.1, fun j p hj => by omega, HST.out.2.2⟩
        case round =>
          clear HST
          obtain ⟨i, rfl, hi, hown, hnm, hall, hb⟩ := hrel
          by_cases hil : i < ps.length
          · exfalso
            have := hbd.2.1
            omega
          · obtain rfl : i = ps.length := by omega
            rw [List.take_of_length_le (by rw [List.length_map]; exact Nat.le_refl _)] at hnm
            rw [lowMix_all] at hown
            obtain ⟨D, hmap, _, _, _, hnd⟩ := hnm
            rw [List.length_map] at hnd
            have hln := fun ty => hmap.len Tryz.underlying93 ty
            obtain ⟨z, hz⟩ : ∃ z, Maps.size D = z := ⟨_, rfl⟩
            rw [hz] at hln hnd
            have hd : decide (ps.length < ps.length) = false := decide_eq_false (Nat.lt_irrefl _)
            have HI := Lib.hid (And.intro hown (And.intro hnd (And.intro hall hb)))
            clear hown hmap hnd hall hb hz
            by_cases hzl : z = ps.length
            · have b5 : ((z : Int) != (ps.length : Int)) = false := by simp; omega
              have hD := dis_good s.data.toList t.data.toList n HT.out.2 HN.out ps m 0 HR.out ⟨HQ.out.1, rfl, by rw [size_list, HQ.out.2.1]; exact HQ.out.2.2, fun p hp => by
                obtain ⟨j, hj⟩ := List.getElem?_of_mem hp
                exact HI.out.2.2.1 j p (List.getElem?_eq_some_iff.1 hj).1 hj, HI.out.2.1.1 hzl⟩
              have HD := Lib.hid hD
              have hx2 := ext_front t n
              have hsz2 : (⟨(t.data.toList.take n).toArray⟩ : ByteArray).size ≤ 1099511627776 := by rw [size_mk, List.length_take, size_list]; exact Nat.le_trans (Nat.min_le_right _ _) hts2
              clear hD hzl
              go_wp2_with fail
              refine (olower_any ⟨(t.data.toList.take n).toArray⟩ _ hsz2).mono ?_
              rintro e w6 ⟨rfl, hb6⟩
              rw [show (⟨(t.data.toList.take n).toArray⟩ : ByteArray).data.toList = t.data.toList.take n from rfl]
              have HO6 := Lib.hid (own_later HI.out.1 hb6)
              have HB6 := Lib.hid (HI.out.2.2.2.trans (hb6.mono (bsz HI.out.2.2.2 HL)))
              clear hb6 hln
              go_wp2
              go_ret3
              unfold DisPost
              rw [HD.out, HL.out, List.length_map]
              exact ⟨_, rfl, HO6.out, HB6.out⟩
            · have b5 : ((z : Int) != (ps.length : Int)) = true := by simp; omega
              have HD := Lib.hid (HBAD.out (fun h => hzl (HI.out.2.1.2 h.2.2.2.2)))
              clear hzl
              go_wp2
              go_ret3
              unfold DisPost
              rw [HD.out, HL.out]
              exact ⟨_, rfl, World.ownsRow_nil _ _ _ _, HI.out.2.2.2⟩
end Go.Proofs.YtlfdeenekjklgaaGreatDoor
