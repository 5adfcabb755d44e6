/- Mpr, LaidSg, ShR, EachH: texts of the seat, one behind the other (a claim holds at most sixty). Conditions: each theorem names its own. -/
import Derived.Test.YtpdbejeiceodkaaGreatDoorPk17
import Derived.Test.YtpdbejeiceodkaaGreatDoorPk15
import Derived.Test.YtpdbejeiceodkaaGreatDoorRows
import Derived.Test.YtpdbejeiceodkaaGreatDoorPk03
import Derived.Lib.LaidTab
import Derived.Test.YtpdbejeiceodkaaGreatDoorPk14
import Derived.Test.YtpdbejeiceodkaaGreatDoorPk16
import Derived.Test.YtpdbejeiceodkaaGreatDoorPk06
import Derived.OrdersHeld
namespace Go.Proofs.YtpdbejeiceodkaaGreatDoor
open Go.RowKit
set_option linter.unusedSimpArgs false
set_option linter.unusedVariables false
set_option maxRecDepth 1000000
def mG (m : Mdm) : Bool := m.ps.all prmOk && (isTok m.ty && (isTok m.sub && (small (m.ty ++ m.sub) && allVal m.ps)))
theorem mprOk_eq (m : Mdm) : mprOk m = (mG m && m.ps.all smN) := by
  unfold mprOk mG
  rw [small_app]
  cases m.ps.all prmOk <;> cases isTok m.ty <;> cases isTok m.sub <;> cases small m.ty <;> cases small m.sub <;> cases allVal m.ps <;> rfl
theorem mpr_no (m : Mdm) (h : (mG m && m.ps.all smN) = false) : mprR m = ([], 70) := by unfold mprR; rw [mprOk_eq, h]; rfl
theorem mpr_yes (m : Mdm) (h : (mG m && m.ps.all smN) = true) : mprR m = (m.ty ++ 47 :: (m.sub ++ prAll m.ps), 0) := by unfold mprR; rw [mprOk_eq, h]; rfl
theorem mG_prm (m : Mdm) (h : mG m = true) : m.ps.all prmOk = true := by unfold mG at h; simp only [Bool.and_eq_true] at h; exact h.1
theorem and_take (b : Bool) (p : Par → Bool) (l : List Par) (i : Nat) (x : Par) (h : l[i]? = some x) : (b && (l.take (i + 1)).all p) = ((b && (l.take i).all p) && p x) := by
  rw [List.take_add_one, h, Option.toList_some, List.all_append]
  simp [Bool.and_assoc]
theorem prmR_err (ps : List Par) : (((prmR ps).2 : Int) == 0) = ps.all prmOk := by
  unfold prmR
  cases ps.all prmOk <;> rfl
theorem prmR_txt (ps : List Par) (h : ps.all prmOk = true) : (prmR ps).1 = prAll ps := by unfold prmR; rw [h]; rfl
theorem prmR_len (ps : List Par) (h : totP ps + ps.length ≤ 1073741824) : (prmR ps).1.length ≤ 1099511627776 := by
  have := prAll_len ps
  unfold prmR
  split
  · show (prAll ps).length ≤ _; omega
  · exact Nat.zero_le _
set_option maxHeartbeats 16000000 in
theorem ompr_any (m : Mdm) (pv : Value) (w : World) (hN : mdmLen m ≤ 1073741824) (h : ParsIn w pv m.ps) (hg : SgAt w) :
    Calls Tryz.prog 99 #[.agg #[.string ⟨m.ty.toArray⟩, .string ⟨m.sub.toArray⟩, pv]] w fun e w' => e = .returned (.tuple #[.string ⟨(mprR m).1.toArray⟩, .int .i64 ((mprR m).2 : Nat)]) ∧ Below w.heap.size w w' := by
  obtain ⟨ty, sub, ps⟩ := m
  unfold mdmLen at hN
  simp only at hN h
  obtain ⟨ao, cap, rfl, hat⟩ := h
  obtain ⟨W0, hW0⟩ : ∃ W0, w.alloc (.cells (mC ⟨ty, sub, ps⟩ (.slice ao ps.length cap)) 131) = W0 := ⟨_, rfl⟩
  have hb0 : Below w.heap.size w W0 := by rw [← hW0]; exact (Below.refl _ w).alloc (Nat.le_refl _) _
  have hB0 : BlkIs W0 w.heap.size (mC ⟨ty, sub, ps⟩ (.slice ao ps.length cap)) 131 := by rw [← hW0]; exact blkIs_new _ _ _
  have hin : ∀ W, Below w.heap.size w W → ParsIn W (.slice ao ps.length cap) ps := fun W hW => ⟨ao, cap, rfl, hat.below hW⟩
  have hpm := fun W hW => oprm_any (.slice ao ps.length cap) ps W (by omega) (hin W hW) (hg.below hW)
  have hvl := fun W hW => ovalued_any (.slice ao ps.length cap) ps W (by omega) (hin W hW)
  have htl : ty.length ≤ 1073741824 := by omega
  have hsl : sub.length ≤ 1073741824 := by omega
  have hpl : ps.length ≤ 1073741824 := by omega
  have hT1 := fun W (h : SgAt W) => otoken_any ⟨ty.toArray⟩ W (by rw [size_mk]; exact Nat.le_trans htl (by decide)) h
  have hT2 := fun W (h : SgAt W) => otoken_any ⟨sub.toArray⟩ W (by rw [size_mk]; exact Nat.le_trans hsl (by decide)) h
  simp only [show (⟨ty.toArray⟩ : ByteArray).data.toList = ty from rfl, show (⟨sub.toArray⟩ : ByteArray).data.toList = sub from rfl] at hT1 hT2
  have hno := mpr_no ⟨ty, sub, ps⟩
  have hyes := mpr_yes ⟨ty, sub, ps⟩
  have hpe := prmR_err ps
  have hlT := prmR_len ps (by omega)
  have hpt := prmR_txt ps
  obtain ⟨TS, hTS⟩ : ∃ TS, ty ++ sub = TS := ⟨_, rfl⟩
  have hTSl : TS.length ≤ 1099511627776 := by rw [← hTS, List.length_append]; omega
  have hsm := fun W => osmall_any TS W hTSl
  have q0 : (⟨ty.toArray⟩ : ByteArray) ++ (⟨sub.toArray⟩ : ByteArray) = ⟨TS.toArray⟩ := by rw [cat_lp, hTS]
  have z0 := nof7 ty.length sub.length (by omega) (by omega)
  obtain ⟨⟨T, E⟩, hPM⟩ : ∃ r, prmR ps = r := ⟨_, rfl⟩
  rw [hPM] at hpm hpe hlT hpt
  simp only at hpe hlT hpt
  have hps : ∀ (i : Nat) (p : Par), ps[i]? = some p → p.1.length ≤ 1099511627776 := fun i p hp => by have := par_le ps i p hp; omega
  have HB0 := Lib.hid (And.intro hb0 hB0); have HW0 := Lib.hid hW0; have HPM := Lib.hid hpm; have HVL := Lib.hid hvl; have HT1 := Lib.hid hT1; have HT2 := Lib.hid hT2
  have HNO := Lib.hid hno; have HYES := Lib.hid hyes; have HPE := Lib.hid hpe; have HLEN := Lib.hid (And.intro htl (And.intro hsl hlT)); have HPT := Lib.hid hpt; have HSM := Lib.hid hsm; have HTS := Lib.hid hTS; have HPS := Lib.hid hps; have HAT := Lib.hid hat; have HG := Lib.hid hg
  clear hb0 hB0 hW0 hpm hvl hT1 hT2 hno hyes hpe htl hsl hlT hpt hsm hTS hPM hps hat hg hin hN hTSl
  go_enter Tryz.func99, Tryz.ntmps99
  go_upto_region 1 with fail
  rw [HW0.out]
  have e2 : W0.cell? ⟨w.heap.size, 2, none⟩ = some (.slice ao ps.length cap) := HB0.out.2.cell 2 _ rfl
  go_wp2_with fail
  refine (HPM.out _ HB0.out.1).mono ?_
  rintro e w1 ⟨rfl, hb1⟩
  have HB1 := Lib.hid (And.intro (HB0.out.1.trans (hb1.mono HB0.out.1.size)) (HB0.out.2.later hb1))
  have HG1 := Lib.hid (HG.out.below HB1.out.1)
  clear hb1 e2
  have e0 : w1.cell? ⟨w.heap.size, 0, none⟩ = some (.string ⟨ty.toArray⟩) := HB1.out.2.cell 0 _ rfl
  have e1 : w1.cell? ⟨w.heap.size, 1, none⟩ = some (.string ⟨sub.toArray⟩) := HB1.out.2.cell 1 _ rfl
  have e2 : w1.cell? ⟨w.heap.size, 2, none⟩ = some (.slice ao ps.length cap) := HB1.out.2.cell 2 _ rfl
  go_upto_region 2 with fail
  go_cut [6] (fun s6 wx => s6 = .bool (mG ⟨ty, sub, ps⟩) ∧ Below w1.heap.size w1 wx)
  case first =>
    cases hpa : ps.all prmOk with
    | false =>
      have HR := Lib.hid (show mG ⟨ty, sub, ps⟩ = false by unfold mG; rw [show (Mdm.mk ty sub ps).ps.all prmOk = false from hpa]; rfl)
      have hE := HPE.out
      rw [hpa] at hE
      clear hpa
      go_wp2_with fail
      go_meet
      exact ⟨by rw [HR.out], Below.refl _ _⟩
    | true =>
      have hE := HPE.out
      rw [hpa] at hE
      have HPA := Lib.hid hpa
      clear hpa
      go_wp2_with fail
      refine (HT1.out _ HG1.out).mono ?_
      rintro e w2 ⟨rfl, hw2⟩; subst hw2
      cases ht1 : isTok ty with
      | false =>
        have HR := Lib.hid (show mG ⟨ty, sub, ps⟩ = false by unfold mG; rw [show isTok (Mdm.mk ty sub ps).ty = false from ht1]; simp)
        clear ht1
        go_wp2_with fail
        go_meet
        exact ⟨by rw [HR.out], Below.refl _ _⟩
      | true =>
        have HT := Lib.hid ht1
        clear ht1
        go_wp2_with fail
        refine (HT2.out _ HG1.out).mono ?_
        rintro e w2 ⟨rfl, hw2⟩; subst hw2
        cases ht2 : isTok sub with
        | false =>
          have HR := Lib.hid (show mG ⟨ty, sub, ps⟩ = false by unfold mG; rw [show isTok (Mdm.mk ty sub ps).sub = false from ht2]; simp)
          clear ht2
          go_wp2_with fail
          go_meet
          exact ⟨by rw [HR.out], Below.refl _ _⟩
        | true =>
          have HTT := Lib.hid ht2
          clear ht2
          go_wp2_with fail
          refine (HSM.out _).mono ?_
          rintro e w2 ⟨rfl, hb2⟩
          have HB2 := Lib.hid hb2
          have e2b : w2.cell? ⟨w.heap.size, 2, none⟩ = some (.slice ao ps.length cap) := (HB1.out.2.later hb2).cell 2 _ rfl
          clear hb2
          cases hsm : small TS with
          | false =>
            have HR := Lib.hid (show mG ⟨ty, sub, ps⟩ = false by unfold mG; rw [show small ((Mdm.mk ty sub ps).ty ++ (Mdm.mk ty sub ps).sub) = false from by rw [← hsm, ← HTS.out]]; simp)
            clear hsm
            go_wp2_with fail
            go_meet
            exact ⟨by rw [HR.out], HB2.out⟩
          | true =>
            have HR := Lib.hid (show mG ⟨ty, sub, ps⟩ = allVal ps by
              unfold mG
              rw [show (Mdm.mk ty sub ps).ps.all prmOk = true from HPA.out, show isTok (Mdm.mk ty sub ps).ty = true from HT.out, show isTok (Mdm.mk ty sub ps).sub = true from HTT.out, show small ((Mdm.mk ty sub ps).ty ++ (Mdm.mk ty sub ps).sub) = true from by rw [← hsm, ← HTS.out]]
              rfl)
            clear hsm
            go_wp2_with fail
            refine (HVL.out _ (HB1.out.1.trans (HB2.out.mono HB1.out.1.size))).mono ?_
            rintro e w3 ⟨rfl, hb3⟩
            have HB3 := Lib.hid (HB2.out.trans (hb3.mono HB2.out.size))
            clear hb3
            go_wp2_with fail
            go_meet
            exact ⟨by rw [HR.out], HB3.out⟩
  case rest =>
  obtain ⟨rfl, hbc⟩ := hcut
  have HBC := Lib.hid (And.intro (HB1.out.1.trans (hbc.mono HB1.out.1.size)) (HB1.out.2.later hbc))
  clear e0 e1 e2 hbc
  obtain ⟨GG, hGG⟩ : ∃ GG, mG ⟨ty, sub, ps⟩ = GG := ⟨_, rfl⟩
  have HGG := Lib.hid hGG
  rw [hGG] at HNO HYES
  rw [hGG]
  clear hGG
  have e2 : wc.cell? ⟨w.heap.size, 2, none⟩ = some (.slice ao ps.length cap) := HBC.out.2.cell 2 _ rfl
  go_wp2
  go_loopw [43, 6] (fun iv gv wr => ∃ i : Nat, iv = .int .i64 i ∧ i ≤ ps.length ∧ gv = .bool (GG && (ps.take i).all smN) ∧ Below w.heap.size w wr ∧ BlkIs wr w.heap.size (mC ⟨ty, sub, ps⟩ (.slice ao ps.length cap)) 131) (fun iv _ _ => ps.length - (intOf iv).toNat)
  case atStart => exact ⟨0, rfl, Nat.zero_le _, by simp, HBC.out.1, HBC.out.2⟩
  case round =>
    clear e2
    obtain ⟨i, rfl, hi, rfl, hb, hblk⟩ := hrel
    by_cases hlt : i < ps.length
    · obtain ⟨p, hp⟩ : ∃ p, ps[i]? = some p := ⟨_, List.getElem?_eq_getElem hlt⟩
      obtain ⟨g, o, rfl, hgg, c0, c1, c2⟩ := HAT.out.below hb i p hp
      have k0 : (0 : Int) ≤ (i : Int) := Int.natCast_nonneg _
      have k1 : (i : Int) < (ps.length : Int) := by omega
      have hwi := wrap64_small i (Nat.le_trans hi (Nat.le_trans hpl (by decide)))
      have hst := and_take GG smN ps i p hp
      have hsm := fun W => osmall_any p.1 W (HPS.out i p hp)
      obtain ⟨nm, v, hs⟩ := p
      simp only at c0 c1 c2 hsm
      obtain ⟨W1, hW1⟩ : ∃ W1, wr.alloc (.cells #[.string ⟨nm.toArray⟩, .string ⟨v.toArray⟩, .bool hs] 214) = W1 := ⟨_, rfl⟩
      have hbw : Below wr.heap.size wr W1 := by rw [← hW1]; exact (Below.refl _ wr).alloc (Nat.le_refl _) _
      have HBW := Lib.hid (And.intro (hb.trans (hbw.mono hb.size)) (hblk.later hbw))
      have hB1 : BlkIs W1 wr.heap.size #[.string ⟨nm.toArray⟩, .string ⟨v.toArray⟩, .bool hs] 214 := by rw [← hW1]; exact blkIs_new _ _ _
      have HBK := Lib.hid hB1; have HW1 := Lib.hid hW1; have HST := Lib.hid hst; have HSMN := Lib.hid hsm; have HW := Lib.hid hwi
      obtain ⟨ok, hok⟩ : ∃ ok, (GG && (ps.take i).all smN) = ok := ⟨_, rfl⟩
      rw [hok] at HST
      rw [hok]
      clear hbw hB1 hW1 hst hsm hwi hb hblk hp hgg hok
      go_upto_region 6 with fail
      rw [HW1.out]
      have f0 : W1.cell? ⟨wr.heap.size, 0, none⟩ = some (.string ⟨nm.toArray⟩) := HBK.out.cell 0 _ rfl
      clear c0 c1 c2
      cases ok with
      | false =>
        go_wp2
        have hwi := HW.out
        go_roundw
        case rel => (try rw [hwi]); clear hwi; exact ⟨i + 1, by go_num, hlt, by rw [HST.out]; rfl, HBW.out.1, HBW.out.2⟩
        case measure => (try rw [hwi]); clear hwi; simp [intOf]; omega
      | true =>
        go_wp2_with fail
        refine (HSMN.out _).mono ?_
        rintro e w3 ⟨rfl, hb3⟩
        have HB3 := Lib.hid (And.intro (HBW.out.1.trans (hb3.mono HBW.out.1.size)) (HBW.out.2.later hb3))
        clear hb3
        have HSE := Lib.hid (show smN (nm, v, hs) = small nm from rfl)
        obtain ⟨sb, hsb⟩ : ∃ sb, small nm = sb := ⟨_, rfl⟩
        rw [hsb] at HSE
        rw [hsb]
        clear hsb
        go_wp2
        have hwi := HW.out
        go_roundw
        case rel => (try rw [hwi]); clear hwi; exact ⟨i + 1, by go_num, hlt, by rw [HST.out, HSE.out]; rfl, HB3.out.1, HB3.out.2⟩
        case measure => (try rw [hwi]); clear hwi; simp [intOf]; omega
    · obtain rfl : i = ps.length := by omega
      have hd : decide (ps.length < ps.length) = false := decide_eq_false (Nat.lt_irrefl _)
      rw [List.take_length]
      have e0 : wr.cell? ⟨w.heap.size, 0, none⟩ = some (.string ⟨ty.toArray⟩) := hblk.cell 0 _ rfl
      have e1 : wr.cell? ⟨w.heap.size, 1, none⟩ = some (.string ⟨sub.toArray⟩) := hblk.cell 1 _ rfl
      have HB := Lib.hid hb
      clear hb hblk
      cases hfin : (GG && ps.all smN) with
      | false =>
        have HE := Lib.hid (HNO.out hfin)
        clear hfin
        go_wp2
        go_ret2
        rw [HE.out]
        exact ⟨rfl, HB.out⟩
      | true =>
        have hgt : mG ⟨ty, sub, ps⟩ = true := by rw [HGG.out]; simp only [Bool.and_eq_true] at hfin; exact hfin.1
        have hTp := HPT.out (mG_prm _ hgt)
        have hyes := HYES.out hfin
        obtain ⟨D1, hD1⟩ : ∃ D1, ty ++ [47] = D1 := ⟨_, rfl⟩
        obtain ⟨D2, hD2⟩ : ∃ D2, D1 ++ sub = D2 := ⟨_, rfl⟩
        obtain ⟨D3, hD3⟩ : ∃ D3, D2 ++ T = D3 := ⟨_, rfl⟩
        have hl := HLEN.out
        have hl1 : D1.length ≤ 1099511627776 := by rw [← hD1, List.length_append, List.length_singleton]; omega
        have hl2 : D2.length ≤ 1099511627776 := by rw [← hD2, ← hD1, List.length_append, List.length_append, List.length_singleton]; omega
        have q1 : (⟨ty.toArray⟩ : ByteArray) ++ (⟨#[47]⟩ : ByteArray) = ⟨D1.toArray⟩ := by rw [← hD1]; exact cat_lp ty [47]
        have q2 : (⟨D1.toArray⟩ : ByteArray) ++ (⟨sub.toArray⟩ : ByteArray) = ⟨D2.toArray⟩ := by rw [← hD2]; exact cat_lp D1 sub
        have q3 : (⟨D2.toArray⟩ : ByteArray) ++ (⟨T.toArray⟩ : ByteArray) = ⟨D3.toArray⟩ := by rw [← hD3]; exact cat_lp D2 T
        have z1 := nof7 ty.length 1 (by omega) (by decide)
        have z2 := nof7 D1.length sub.length (by omega) (by omega)
        have z3 := nof7 D2.length T.length (by omega) (by omega)
        have HE := Lib.hid (show mprR ⟨ty, sub, ps⟩ = (D3, 0) by rw [hyes, ← hD3, ← hD2, ← hD1, hTp]; simp)
        clear hfin hgt hTp hyes hD1 hD2 hD3 hl hl1 hl2
        go_wp2
        go_ret2
        rw [HE.out]
        exact ⟨rfl, HB.out⟩
end Go.Proofs.YtpdbejeiceodkaaGreatDoor
namespace Go.Proofs.YtpdbejeiceodkaaGreatDoor
open Go.RowKit
set_option linter.unusedSimpArgs false
set_option linter.unusedVariables false
theorem laid_at {P : Program} {w : World} : ∀ (l : List (String × DataW Unit)) (ps : List MemPlace), DataW.LaidVars P w l ps → ∀ n d, (n, d) ∈ l → ∃ g t cs fuel p, P.globalNamed n = some g ∧ (P.globals[g]?).map (·.type) = some t ∧ w.var? P n = some cs ∧ DataW.trod (fun _ => ()) P w 0 (fun _ => true) false fuel t cs.toList = some (d, p)
  | [], _, _, n, d, h => by simp at h
  | (n0, d0) :: r, ps, h, n, d, hm => by
    obtain ⟨g, t, cs, fuel, p, q, h1, h2, h3, h4, h5, _⟩ := h
    rcases List.mem_cons.1 hm with e | hm
    · injection e with e1 e2
      subst e1; subst e2
      exact ⟨g, t, cs, fuel, p, h1, h2, h3, h4⟩
    · exact laid_at r q h5 n d hm
theorem tab_of_mem {P : Program} {W : World} {name : String} {k : IntKind} {zs : List Int} {l : List (String × DataW Unit)} {g : Nat} {t e : TypeId} {n : Nat}
    (hg : P.globalNamed name = some g) (hty : (P.globals[g]?).map (·.type) = some t) (ht : P.underlying t = some (.array n e)) (he : P.underlying e = some (.int k)) (hce : P.cellsOf e = 1) (hct : P.cellsOf t = n)
    (hm : (name, Lib.tabData k zs) ∈ l) (h : laidMet P l W) : Lib.TabIs P W name k zs := by
  obtain ⟨ps, hl, _⟩ := h
  obtain ⟨g', t', cs, fuel, p, hg', ht', hvar, hd⟩ := laid_at l ps hl name _ hm
  obtain rfl := Option.some.inj (hg.symm.trans hg')
  obtain rfl := Option.some.inj (hty.symm.trans ht')
  unfold Lib.TabIs
  rw [hvar, ← Lib.cells_of_tab ht he hce hct hd]
theorem gSigns : Tryz.prog.globalNamed "turnpike/octet.signs" = some 1 := by kernel_rfl
theorem gSignsType : (Tryz.prog.globals[1]?).map (·.type) = some 239 := by kernel_rfl
theorem sg_of_laid {W : World} {l : List (String × DataW Unit)} (hm : ("turnpike/octet.signs", (Rows.laid_turnpike_octet_signs : DataW Unit)) ∈ l) (h : laidMet Tryz.prog l W) : SgAt W := by
  have ht : Lib.TabIs Tryz.prog W "turnpike/octet.signs" .u32 [0, 67071226, 3355443198, 1476395007] := tab_of_mem gSigns gSignsType Tryz.underlying239 Tryz.underlying195 (by kernel_rfl) (by kernel_rfl) hm h
  exact ⟨ht.cell gSigns 0 (by decide), ht.cell gSigns 1 (by decide), ht.cell gSigns 2 (by decide), ht.cell gSigns 3 (by decide)⟩
end Go.Proofs.YtpdbejeiceodkaaGreatDoor
namespace Go.Proofs.YtpdbejeiceodkaaGreatDoor
open Go.RowKit
set_option linter.unusedSimpArgs false
set_option linter.unusedVariables false
set_option maxRecDepth 1000000
theorem wtxH_passS {P : Program} {ops : Array Oper} {S : World → Prop} {Q : Exit → Act → World → Prop} {i : Nat} {o : Oper} {r : List (Nat × Bool)} {a : Act} {w : World} (ho : ops[i]? = some o) (hw : Region.wanted o (yielded ops a.tmps) = false)
    (h : wpTxH P ops S Q r (a.put o.dst undef) w) : wpTxH P ops S Q ((i, true) :: r) a w := ⟨o, undef, ho, .inr ⟨hw, rfl⟩, h⟩
def tpL : List UInt8 := [116, 101, 120, 116]
def plL : List UInt8 := [112, 108, 97, 105, 110]
abbrev flA : Array Value := #[.string ⟨#[47, 97]⟩, .string ⟨#[116, 101, 120, 116, 47, 112, 108, 97, 105, 110]⟩, .string ⟨#[]⟩, .string ⟨#[]⟩, .string ⟨#[104, 105]⟩, .int .i64 (-1)]
theorem mdA : mdP [116, 101, 120, 116, 47, 112, 108, 97, 105, 110] = (([116, 101, 120, 116], [112, 108, 97, 105, 110], [], true), 0) := by kernel_rfl
theorem mprA : mprR ⟨[116, 101, 120, 116], [112, 108, 97, 105, 110], []⟩ = ([116, 101, 120, 116, 47, 112, 108, 97, 105, 110], 0) := by kernel_rfl
theorem sufA (w : World) : Calls Tryz.prog 44 #[.string ⟨#[47, 97]⟩, .string ⟨#[47]⟩] w fun e w' => e = .returned (.bool false) ∧ w' = w := Tryz.strings_HasSuffix ⟨#[47, 97]⟩ ⟨#[47]⟩ w (by decide)
theorem parA (w : World) (hg : SgAt w) : Calls Tryz.prog 71 #[.string ⟨#[116, 101, 120, 116, 47, 112, 108, 97, 105, 110]⟩] w fun e w' => ∃ ao cap, e = .returned (.tuple #[.agg #[.string ⟨#[116, 101, 120, 116]⟩, .string ⟨#[112, 108, 97, 105, 110]⟩, .slice ao 0 cap], .int .i64 0]) ∧ Below w.heap.size w w' := by
  refine (oparse_any ⟨#[116, 101, 120, 116, 47, 112, 108, 97, 105, 110]⟩ w (by decide) hg).mono fun e w' h => ?_
  unfold MpPost at h
  rw [show (⟨#[116, 101, 120, 116, 47, 112, 108, 97, 105, 110]⟩ : ByteArray).data.toList = [116, 101, 120, 116, 47, 112, 108, 97, 105, 110] from rfl, mdA] at h
  obtain ⟨v, rfl, hown, hb⟩ := h
  have hvs : ∃ ao cap, v = .slice ao 0 cap := by
    rcases hown.2 with ⟨rfl, h0⟩ | ⟨g, cap, cur, rfl, _⟩
    · exact ⟨none, 0, rfl⟩
    · exact ⟨_, cap, rfl⟩
  obtain ⟨ao, cap, rfl⟩ := hvs
  exact ⟨ao, cap, rfl, hb⟩
theorem prtA (ao : Option Addr) (cap : Nat) (w : World) (hg : SgAt w) : Calls Tryz.prog 99 #[.agg #[.string ⟨#[116, 101, 120, 116]⟩, .string ⟨#[112, 108, 97, 105, 110]⟩, .slice ao 0 cap]] w fun e w' => e = .returned (.tuple #[.string ⟨#[116, 101, 120, 116, 47, 112, 108, 97, 105, 110]⟩, .int .i64 0]) ∧ Below w.heap.size w w' := by
  have h := ompr_any ⟨[116, 101, 120, 116], [112, 108, 97, 105, 110], []⟩ (.slice ao 0 cap) w (by decide) ⟨ao, cap, rfl, fun i p hp => by simp at hp⟩ hg
  rw [mprA] at h
  exact h
set_option maxHeartbeats 4000000 in
theorem rightA (m : Int) (w : World) (hm : w.cell? ⟨0, 0, none⟩ = some (.int .i64 m)) (hg : SgAt w) : Calls Tryz.prog 64 #[.agg flA] w fun e w' => e = .returned (.bool true) ∧ Below w.heap.size w w' := by
  obtain ⟨W0, hW0⟩ : ∃ W0, w.alloc (.cells flA 46) = W0 := ⟨_, rfl⟩
  have hb0 : Below w.heap.size w W0 := by rw [← hW0]; exact (Below.refl _ w).alloc (Nat.le_refl _) _
  have hB0 : BlkIs W0 w.heap.size flA 46 := by rw [← hW0]; exact blkIs_new _ _ _
  have HW0 := Lib.hid hW0; have HB0 := Lib.hid (And.intro hb0 hB0); have HG := Lib.hid hg; have HM := Lib.hid hm
  clear hW0 hb0 hB0 hg hm
  go_enter Tryz.func64, Tryz.ntmps64
  go_upto_region 1 with fail
  rw [HW0.out]
  have c0 : W0.cell? ⟨w.heap.size, 0, none⟩ = some (.string ⟨#[47, 97]⟩) := HB0.out.2.cell 0 _ rfl
  go_wp2_with fail
  refine (normA m W0 (mx_later (B := 0) HM.out HB0.out.1)).mono ?_
  rintro e w1 ⟨rfl, hb1⟩
  have HB1 := Lib.hid (And.intro (HB0.out.1.trans (hb1.mono HB0.out.1.size)) (HB0.out.2.later hb1))
  clear hb1 c0
  have c0 : w1.cell? ⟨w.heap.size, 0, none⟩ = some (.string ⟨#[47, 97]⟩) := HB1.out.2.cell 0 _ rfl
  have c1 : w1.cell? ⟨w.heap.size, 1, none⟩ = some (.string ⟨#[116, 101, 120, 116, 47, 112, 108, 97, 105, 110]⟩) := HB1.out.2.cell 1 _ rfl
  go_wp2_with fail
  refine (sufA w1).mono ?_
  rintro e w2 ⟨rfl, hw2⟩
  subst hw2
  go_wp2_with fail
  refine (parA w2 (HG.out.below HB1.out.1)).mono ?_
  rintro e w3 ⟨ao, cap, rfl, hb3⟩
  obtain ⟨W3, hW3⟩ : ∃ W3, w3.alloc (.cells #[.string ⟨#[116, 101, 120, 116]⟩, .string ⟨#[112, 108, 97, 105, 110]⟩, .slice ao 0 cap] 131) = W3 := ⟨_, rfl⟩
  have hb33 : Below w3.heap.size w3 W3 := by rw [← hW3]; exact (Below.refl _ w3).alloc (Nat.le_refl _) _
  have hb03 : Below w.heap.size w W3 := (HB1.out.1.trans (hb3.mono HB1.out.1.size)).trans (hb33.mono (Nat.le_trans HB1.out.1.size hb3.size))
  have HB3 := Lib.hid (And.intro hb03 (And.intro ((HB1.out.2.later hb3).later hb33) (show BlkIs W3 w3.heap.size _ 131 by rw [← hW3]; exact blkIs_new _ _ _)))
  have HW3 := Lib.hid hW3
  clear hW3 hb3 hb33 hb03 c0 c1
  go_upto_region 5 with fail
  rw [HW3.out]
  have d0 : W3.cell? ⟨w3.heap.size, 0, none⟩ = some (.string ⟨#[116, 101, 120, 116]⟩) := HB3.out.2.2.cell 0 _ rfl
  have d1 : W3.cell? ⟨w3.heap.size, 1, none⟩ = some (.string ⟨#[112, 108, 97, 105, 110]⟩) := HB3.out.2.2.cell 1 _ rfl
  have d2 : W3.cell? ⟨w3.heap.size, 2, none⟩ = some (.slice ao 0 cap) := HB3.out.2.2.cell 2 _ rfl
  go_wp2_with fail
  refine (prtA ao cap W3 (HG.out.below HB3.out.1)).mono ?_
  rintro e w4 ⟨rfl, hb4⟩
  have HB4 := Lib.hid (And.intro (HB3.out.1.trans (hb4.mono HB3.out.1.size)) (HB3.out.2.1.later hb4))
  clear hb4 d0 d1 d2
  have c1 : w4.cell? ⟨w.heap.size, 1, none⟩ = some (.string ⟨#[116, 101, 120, 116, 47, 112, 108, 97, 105, 110]⟩) := HB4.out.2.cell 1 _ rfl
  go_upto_region 8 with fail
  have HD := Lib.hid (HB4.out.2.later ((Below.refl _ w4).drew))
  clear c1
  refine wp_region_textH (fun w' => BlkIs w' w.heap.size flA 46) [(0, true), (1, true), (2, true), (3, true), (4, true), (5, true), (6, true), (7, true), (8, true), (9, true), (10, true), (11, true), (12, true), (13, true), (14, true), (15, true), (16, true), (17, true), (18, true), (19, true), (20, true), (21, true)] (by kernel_rfl) (by kernel_rfl) (by kernel_rfl) (by kernel_rfl) HD.out ?_
  iterate 4 (refine wpTxH_take rfl (by kernel_rfl) (v := ?_) ?_ ?_; rotate_left; · (intro w hS; have s2 := hS.cell 2 _ rfl; clear hS; go_simp; with_reducible rfl))
  iterate 16 (refine wtxH_passS rfl (by kernel_rfl) ?_)
  iterate 2 (refine wpTxH_take rfl (by kernel_rfl) (v := ?_) ?_ ?_; rotate_left; · (intro w hS; clear hS; go_simp; with_reducible rfl))
  refine wpTxH_nil ?_
  go_simp
  have c5 : w4.drew.cell? ⟨w.heap.size, 5, none⟩ = some (.int .i64 (-1)) := HD.out.cell 5 _ rfl
  have c3 : w4.drew.cell? ⟨w.heap.size, 3, none⟩ = some (.string ⟨#[]⟩) := HD.out.cell 3 _ rfl
  go_wp2
  go_ret
  exact ⟨rfl, HB4.out.1.drew⟩
end Go.Proofs.YtpdbejeiceodkaaGreatDoor
namespace Go.Proofs.YtpdbejeiceodkaaGreatDoor
open Go.RowKit
set_option linter.unusedSimpArgs false
set_option linter.unusedVariables false
set_option maxRecDepth 1000000
section
variable {P : Program} {ops : Array Oper} {S : World → Prop} {Q : Exit → Act → World → Prop}
theorem wp_region_eachH {id : Nat} {a : Act} {w : World} (S : World → Prop) (n : Nat) (hm : P.follows .mixedOrders = true) (hn : n = ops.size) (h : wpAnyH P .any ops (offPanic Q) S n (Array.replicate ops.size false) a w.drew) : (Code.region id ops true).wp P Q a w := by
  subst hn
  refine Code.wp_mono (Q := offPanic Q) (fun e a w h => ?_) (wp_region_held hm h)
  cases e <;> first | exact h | exact (h : False).elim
theorem eachH_take {i n : Nat} {o : Oper} {v : Value} {L : Array Bool} {a : Act} {w : World} (hi : ops[i]? = some o) (hs : Region.noSelect ops = true) (hc : (Region.free .any ops L i && (Region.ready .any ops L).contains i) = true) (hw : Region.wanted o (yielded ops a.tmps) = true) (hS : S w)
    (hv : ∀ w, S w → (execOp a.eval o).run P w = .ok (.value v) w) (h : wpAnyH P .any ops (offPanic Q) S n (L.setIfInBounds i true) (a.put o.dst v) w) : wpAnyH P .any ops (offPanic Q) S (n + 1) L a w := by
  rw [Bool.and_eq_true] at hc
  exact wpAnyH_take hi hs hc.1 hc.2 (fun _ _ _ h => h) (.inl ⟨hw, hv⟩) hS h
abbrev EachStepH (P : Program) (ops : Array Oper) (S : World → Prop) (Q : Exit → Act → World → Prop) (n : Nat) (L : Array Bool) (a : Act) (w : World) (i : Nat) (o : Oper) : Prop :=
  ∀ K : Act → World → Prop, (∀ a w, S w → wpAnyH P .any ops Q S n (L.setIfInBounds i true) a w → K a w) → if Region.wanted o (yielded ops a.tmps) = true then Oper.wp P o a w K Q else K (a.put o.dst undef) w
theorem eachH1 {i n : Nat} {o : Oper} {L : Array Bool} {a : Act} {w : World} (hr : (Region.ready .any ops L == [i]) = true) (hi : ops[i]? = some o) (h : EachStepH P ops S Q n L a w i o) : wpAnyH P .any ops Q S (n + 1) L a w := by
  refine wpAnyH_all (by simpa using hr) (by simp) (fun j hj => ?_)
  obtain rfl : j = i := by simpa using hj
  exact wpOp_step hi (fun K hK => h K (fun a w hS h' => hK a w ⟨hS, h'⟩))
theorem eachH2 {i j n : Nat} {o p : Oper} {L : Array Bool} {a : Act} {w : World} (hr : (Region.ready .any ops L == [i, j]) = true) (hi : ops[i]? = some o) (hj : ops[j]? = some p) (h : EachStepH P ops S Q n L a w i o) (h2 : EachStepH P ops S Q n L a w j p) : wpAnyH P .any ops Q S (n + 1) L a w := by
  refine wpAnyH_all (by simpa using hr) (by simp) (fun k hk => ?_)
  rcases (by simpa using hk : k = i ∨ k = j) with rfl | rfl
  · exact wpOp_step hi (fun K hK => h K (fun a w hS h' => hK a w ⟨hS, h'⟩))
  · exact wpOp_step hj (fun K hK => h2 K (fun a w hS h' => hK a w ⟨hS, h'⟩))
theorem eachH3 {i j k n : Nat} {o p q : Oper} {L : Array Bool} {a : Act} {w : World} (hr : (Region.ready .any ops L == [i, j, k]) = true) (hi : ops[i]? = some o) (hj : ops[j]? = some p) (hk : ops[k]? = some q) (h : EachStepH P ops S Q n L a w i o) (h2 : EachStepH P ops S Q n L a w j p) (h3 : EachStepH P ops S Q n L a w k q) : wpAnyH P .any ops Q S (n + 1) L a w := by
  refine wpAnyH_all (by simpa using hr) (by simp) (fun x hx => ?_)
  rcases (by simpa using hx : x = i ∨ x = j ∨ x = k) with rfl | rfl | rfl
  · exact wpOp_step hi (fun K hK => h K (fun a w hS h' => hK a w ⟨hS, h'⟩))
  · exact wpOp_step hj (fun K hK => h2 K (fun a w hS h' => hK a w ⟨hS, h'⟩))
  · exact wpOp_step hk (fun K hK => h3 K (fun a w hS h' => hK a w ⟨hS, h'⟩))
theorem eachH_done {L : Array Bool} {a : Act} {w : World} {n : Nat} (hr : Region.ready .any ops L = []) (h : Q .normal a w) : wpAnyH P .any ops (offPanic Q) S n L a w := wpAnyH_done (Q := offPanic Q) hr h n
end
end Go.Proofs.YtpdbejeiceodkaaGreatDoor
