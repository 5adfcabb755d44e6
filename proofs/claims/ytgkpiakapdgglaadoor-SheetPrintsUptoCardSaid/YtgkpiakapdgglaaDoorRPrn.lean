/- The walk of turnpikeref15.PrintPairs: the plain function prnP. Conditions: at most 2^32 letters and pairs. -/
import Derived.Test.YtgkpiakapdgglaaDoorSPrnW
import Derived.Lib.AppendStr
namespace Go.Proofs.YtgkpiakapdgglaaDoor
open Go.RowKit
set_option linter.unusedSimpArgs false
set_option linter.unusedVariables false
set_option maxRecDepth 1000000
theorem strCells_l (l : List UInt8) : Lib.strCells ⟨l.toArray⟩ = Lib.byteCells l := by
  unfold Lib.strCells Lib.byteCells
  rfl
theorem joinP_snoc (x : List (List UInt8)) (p : List UInt8) (h : x ≠ []) : joinP (x ++ [p]) = joinP x ++ 38 :: p := by
  match x, h with
  | [a], _ => rfl
  | a :: b :: r, _ =>
    have := joinP_snoc (b :: r) p (by simp)
    simp only [List.cons_append] at this ⊢
    rw [joinP, this, joinP]
    simp
theorem takeP_snoc (l : List Par) (i : Nat) (p : Par) (h : l[i]? = some p) : joinP ((l.map pieceOf).take (i + 1)) = (joinP ((l.map pieceOf).take i) ++ if 0 < i then [38] else []) ++ pieceOf p := by
  rw [take_map pieceOf l i p h]
  by_cases hi : 0 < i
  · rw [if_pos hi, joinP_snoc]
    · simp
    · intro e
      have h1 := congrArg List.length e
      have hl : i < l.length := (List.getElem?_eq_some_iff.1 h).1
      rw [List.length_take, List.length_map, List.length_nil] at h1; omega
  · obtain rfl : i = 0 := by omega
    simp [joinP]
theorem joinT_len (l : List Par) (i : Nat) : (joinP ((l.map pieceOf).take i)).length ≤ 3 * totP l + 2 * l.length := by
  have h1 := joinP_len (l.take i)
  rw [List.map_take] at h1
  have h2 : totP (l.take i) ≤ totP l := by
    have := totP_append (l.take i) (l.drop i)
    rw [List.take_append_drop] at this; omega
  have h3 : (l.take i).length ≤ l.length := by rw [List.length_take]; omega
  omega
theorem cat1 (vl : List UInt8) : (⟨#[61]⟩ : ByteArray) ++ (⟨(codL vl).toArray⟩ : ByteArray) = ⟨(61 :: codL vl).toArray⟩ := by
  refine ba_ext ?_
  simp
theorem bd_j (j a b t n la lb : Nat) (h : j ≤ 3 * t + 2 * n) (ht : t ≤ 4294967296) (hn : n ≤ 4294967296) (ha : a ≤ 3 * la) (hb : b ≤ 3 * lb) (hla : la ≤ 4294967296) (hlb : lb ≤ 4294967296) (x : Nat) (hx : x ≤ 1) :
    j + 1 ≤ 140737488355328 ∧ j + x + a ≤ 140737488355328 ∧ j + x + a + (b + 1) ≤ 140737488355328 := by omega
theorem len_e (J a b : List UInt8) : (J ++ (a ++ 61 :: b)).length = J.length + a.length + (b.length + 1) := by simp only [List.length_append, List.length_cons]; omega
theorem le_max (n : Nat) (h : n ≤ 140737488355328) : n ≤ maxLen := by unfold maxLen; omega
set_option maxHeartbeats 8000000 in
theorem rprint_any (v : Value) (l : List Par) (w : World) (hT : totP l ≤ 4294967296) (hN : l.length ≤ 4294967296) (h : ParsIn w v l) : Calls Tryd.prog 14 #[v] w (PrnPost l w) := by
  obtain ⟨ao, cap, rfl, hat⟩ := h
  obtain ⟨i0, hi0, hz0, hz1, hz2⟩ := info_parts infoByte
  obtain ⟨L, hL⟩ : ∃ L, w.heap.size = L := ⟨_, rfl⟩
  have hbb : Below L w (w.alloc (.cells #[] 5)) := by rw [← hL]; exact (Below.refl _ w).alloc (Nat.le_refl _) _
  have hrm : (w.alloc (.cells #[] 5)).ownsRow L 5 1 (.slice (some ⟨w.heap.size, 0, none⟩) 0 0) 0 [] := by rw [← hL]; exact World.ownsRow_made w #[] 0 (Nat.le_refl _) (by simp) rfl
  have HL := Lib.hid hL; clear hL
  have HATW := Lib.hid hat; clear hat
  go_enter Tryd.func14, Tryd.ntmps14
  go_wp2
  go_loopw [5, 4] (fun iv v wr => ∃ i : Nat, iv = .int .i64 i ∧ i ≤ l.length ∧ (l.take i).all parOk = true ∧ wr.ownsRow L 5 1 v (joinP ((l.map pieceOf).take i)).length (Lib.byteCells (joinP ((l.map pieceOf).take i))) ∧ Below L w wr)
    (fun iv _ _ => l.length - (intOf iv).toNat)
  case atStart => exact ⟨0, rfl, Nat.zero_le _, rfl, hrm, hbb⟩
  case round =>
    clear hbb hrm
    obtain ⟨i, rfl, hi, hok, hown, hb⟩ := hrel
    by_cases hlt : i < l.length
    · obtain ⟨p, hp⟩ : ∃ p, l[i]? = some p := ⟨_, List.getElem?_eq_getElem hlt⟩
      have hb' : Below w.heap.size w wr := by rw [HL.out]; exact hb
      obtain ⟨g, o, rfl, hg, c0, c1, c2⟩ := HATW.out.below hb' i p hp
      have hat3 : ∀ W, Below w.heap.size w W → W.cell? ⟨g, o + i * 3, none⟩ = some (.string ⟨p.1.toArray⟩) ∧ W.cell? ⟨g, o + i * 3 + 1, none⟩ = some (.string ⟨p.2.1.toArray⟩) ∧ W.cell? ⟨g, o + i * 3 + 2, none⟩ = some (.bool p.2.2) := fun W hW => by
        obtain ⟨g', o', e, _, d0, d1, d2⟩ := HATW.out.below hW i p hp
        injection e with e; injection e with e1 e2; subst e1; subst e2
        exact ⟨d0, d1, d2⟩
      have HAT3 := Lib.hid hat3
      clear hb' hat3
      have k0 : (0 : Int) ≤ (i : Int) := Int.natCast_nonneg _
      have k1 : (i : Int) < (l.length : Int) := by omega
      have hrow := bd_row i l.length hlt hN
      have htg := totP_get l i p hp
      have hpl := bd_pl _ _ _ htg hT
      have hwi := wrap64_small i hrow.2.2
      have HJ' := joinT_len l i
      obtain ⟨J, hJ⟩ : ∃ J, J = joinP ((l.map pieceOf).take i) ++ if 0 < i then [38] else [] := ⟨_, rfl⟩
      generalize hacc : joinP ((l.map pieceOf).take i) = acc at hJ HJ' hown
      have HO := Lib.hid hown
      have HJ := Lib.hid HJ'
      clear HJ'
      have hbL := bsz hb HL
      obtain ⟨nm, vl, hs⟩ := p
      simp only at c0 c1 c2 hpl HAT3
      have HB := Lib.hid (And.intro hb (And.intro hok hp))
      have HW := Lib.hid hwi
      clear hb hok hp hown htg hwi
      cases hs with
      | true =>
        have hz := bd_cat _ _ _ _ (codL_len nm) (codL_len vl) hpl.1 hpl.2
        have hst : ((l.take (i + 1)).all parOk = true ∧ joinP ((l.map pieceOf).take (i + 1)) = J ++ pieceOf (nm, vl, true)) := ⟨take_all _ l i _ HB.out.2.2 HB.out.2.1 rfl, by rw [hJ, ← hacc]; exact takeP_snoc l i _ HB.out.2.2⟩
        rw [show pieceOf (nm, vl, true) = codL nm ++ 61 :: codL vl from by simp [pieceOf]] at hst
        have HST := Lib.hid hst
        clear hst
        by_cases h0 : 0 < i
        · have k2 : (0 : Int) < (i : Int) := by omega
          have hl1 : acc ++ [38] = J := by rw [hJ, if_pos h0]
          rw [← hl1] at HST
          clear hJ hacc hl1
          have hj := bd_j acc.length (codL nm).length (codL vl).length (totP l) l.length nm.length vl.length HJ.out hT hN (codL_len nm) (codL_len vl) hpl.1 hpl.2 1 (Nat.le_refl _)
          have hj2 : acc.length + 1 = (acc ++ [38]).length := by simp
          go_wp2_with (at_builtin; refine wpList_append_own _ rfl (.tmp 37) (.tmp 38) 66 rfl L 5 i0 (.int .u8 0) 1 1 Tryd.underlying66 hi0 hz0 hz1 hz2 rfl (by decide) _ _ _ rfl (HO.out.alloc _) ⟨wr.heap.size, 0, none⟩ 1 1 [.int .u8 38] rfl rfl (cells_new _ _ _) (by simp [Value.oneCell']) (le_max _ hj.1) (by rw [Nat.mul_one]; exact hj.1) ?d0 ?_)
          case d0 => simp; exact Nat.le_trans hbL (Nat.le_succ _)
          intro v0 wa hI0 hg0 _
          have hba := (HB.out.1.alloc hbL _).grown hg0 (by simp; exact Nat.le_trans hbL (Nat.le_succ _)) (fun j hj => (HO.out.lt j hj).1)
          rw [show [Value.int .u8 38] = Lib.byteCells [38] from rfl, ← Lib.byteCells_append] at hI0
          have HI0 := Lib.hid hI0; have HBA := Lib.hid hba
          obtain ⟨c0, c1, c2⟩ := HAT3.out wa (by rw [HL.out]; exact hba)
          clear hI0 hba hg0
          rw [hj2] at hj HI0

          go_wp2_with fail
          refine (coded_l nm _ hpl.1).mono ?_
          rintro e w1 ⟨rfl, hb1⟩
          have HO1 := Lib.hid (own_later HI0.out hb1)
          have HB1 := Lib.hid (HBA.out.trans (hb1.mono (bsz HBA.out HL)))
          obtain ⟨c0, c1, c2⟩ := HAT3.out w1 (by rw [HL.out]; exact HB1.out)
          clear hb1
          go_wp2_with (at_builtin; refine Lib.wpList_append_own_string _ rfl (.tmp 40) (.tmp 46) 66 9 rfl L 5 i0 Tryd.underlying66 Tryd.underlying9 hi0 hz0 hz1 hz2 _ _ _ rfl HO1.out _ rfl ?e1 ?e2 (bsz HB1.out HL) ?_)
          case e1 => rw [size_l]; exact le_max _ hj.2.1
          case e2 => rw [size_l]; exact hj.2.1
          intro v2 w2 hI2 hg2 _
          have hb2 := HB1.out.grown hg2 (bsz HB1.out HL) (fun j hj => (HO1.out.lt j hj).1)
          (try rw [size_l] at hI2)
          rw [strCells_l, ← Lib.byteCells_append] at hI2
          have HI2 := Lib.hid hI2; have HB2 := Lib.hid hb2
          obtain ⟨c0, c1, c2⟩ := HAT3.out w2 (by rw [HL.out]; exact hb2)
          clear hI2 hb2 hg2

          go_wp2_with fail
          refine (coded_l vl _ hpl.2).mono ?_
          rintro e w3 ⟨rfl, hb3⟩
          have HO3 := Lib.hid (own_later HI2.out hb3)
          have HB3 := Lib.hid (HB2.out.trans (hb3.mono (bsz HB2.out HL)))
          clear hb3
          go_wp2_with (at_builtin; refine Lib.wpList_append_own_string _ rfl (.tmp 53) (.tmp 60) 66 9 rfl L 5 i0 Tryd.underlying66 Tryd.underlying9 hi0 hz0 hz1 hz2 _ _ _ rfl HO3.out _ rfl ?f1 ?f2 (bsz HB3.out HL) ?_)
          case f1 => rw [cat1, size_l]; exact le_max _ hj.2.2
          case f2 => rw [cat1, size_l]; exact hj.2.2
          intro v4 w4 hI4 hg4 _
          have hb4 := HB3.out.grown hg4 (bsz HB3.out HL) (fun j hj => (HO3.out.lt j hj).1)
          rw [cat1] at hI4
          (try rw [size_l] at hI4)
          rw [strCells_l, ← Lib.byteCells_append] at hI4
          have HI4 := Lib.hid hI4; have HB4 := Lib.hid hb4
          clear hI4 hb4 hg4 c0 c1 c2
          go_wp2
          have hwi := HW.out
          go_roundw
          case rel =>
            (try rw [hwi]); clear hwi
            refine ⟨i + 1, by go_num, by omega, HST.out.1, ?_, HB4.out⟩
            rw [HST.out.2]
            have := HI4.out
            rw [List.append_assoc] at this
            rw [len_e]
            first | exact this | (rw [Nat.add_comm 1] at this; exact this)
          case measure => (try rw [hwi]); clear hwi; simp [intOf]; omega
        · have k2 : (i : Int) ≤ 0 := by omega
          have hl1 : acc = J := by rw [hJ, if_neg h0, List.append_nil]
          rw [← hl1] at HST
          clear hJ hacc hl1
          have hj := bd_j acc.length (codL nm).length (codL vl).length (totP l) l.length nm.length vl.length HJ.out hT hN (codL_len nm) (codL_len vl) hpl.1 hpl.2 0 (Nat.zero_le _)
          rw [Nat.add_zero] at hj
          go_wp2_with fail
          refine (coded_l nm _ hpl.1).mono ?_
          rintro e w1 ⟨rfl, hb1⟩
          have HO1 := Lib.hid (own_later HO.out hb1)
          have HB1 := Lib.hid (HB.out.1.trans (hb1.mono (bsz HB.out.1 HL)))
          obtain ⟨c0, c1, c2⟩ := HAT3.out w1 (by rw [HL.out]; exact HB1.out)
          clear hb1
          go_wp2_with (at_builtin; refine Lib.wpList_append_own_string _ rfl (.tmp 40) (.tmp 46) 66 9 rfl L 5 i0 Tryd.underlying66 Tryd.underlying9 hi0 hz0 hz1 hz2 _ _ _ rfl HO1.out _ rfl ?e1 ?e2 (bsz HB1.out HL) ?_)
          case e1 => rw [size_l]; exact le_max _ hj.2.1
          case e2 => rw [size_l]; exact hj.2.1
          intro v2 w2 hI2 hg2 _
          have hb2 := HB1.out.grown hg2 (bsz HB1.out HL) (fun j hj => (HO1.out.lt j hj).1)
          (try rw [size_l] at hI2)
          rw [strCells_l, ← Lib.byteCells_append] at hI2
          have HI2 := Lib.hid hI2; have HB2 := Lib.hid hb2
          obtain ⟨c0, c1, c2⟩ := HAT3.out w2 (by rw [HL.out]; exact hb2)
          clear hI2 hb2 hg2

          go_wp2_with fail
          refine (coded_l vl _ hpl.2).mono ?_
          rintro e w3 ⟨rfl, hb3⟩
          have HO3 := Lib.hid (own_later HI2.out hb3)
          have HB3 := Lib.hid (HB2.out.trans (hb3.mono (bsz HB2.out HL)))
          clear hb3
          go_wp2_with (at_builtin; refine Lib.wpList_append_own_string _ rfl (.tmp 53) (.tmp 60) 66 9 rfl L 5 i0 Tryd.underlying66 Tryd.underlying9 hi0 hz0 hz1 hz2 _ _ _ rfl HO3.out _ rfl ?f1 ?f2 (bsz HB3.out HL) ?_)
          case f1 => rw [cat1, size_l]; exact le_max _ hj.2.2
          case f2 => rw [cat1, size_l]; exact hj.2.2
          intro v4 w4 hI4 hg4 _
          have hb4 := HB3.out.grown hg4 (bsz HB3.out HL) (fun j hj => (HO3.out.lt j hj).1)
          rw [cat1] at hI4
          (try rw [size_l] at hI4)
          rw [strCells_l, ← Lib.byteCells_append] at hI4
          have HI4 := Lib.hid hI4; have HB4 := Lib.hid hb4
          clear hI4 hb4 hg4 c0 c1 c2
          go_wp2
          have hwi := HW.out
          go_roundw
          case rel =>
            (try rw [hwi]); clear hwi
            refine ⟨i + 1, by go_num, by omega, HST.out.1, ?_, HB4.out⟩
            rw [HST.out.2]
            have := HI4.out
            rw [List.append_assoc] at this
            rw [len_e]
            first | exact this | (rw [Nat.add_comm 1] at this; exact this)
          case measure => (try rw [hwi]); clear hwi; simp [intOf]; omega
      | false =>
        by_cases hn : nm = []
        · subst hn
          have HBAD := Lib.hid (prn_bad l i _ HB.out.2.2 rfl)
          have HBW := Lib.hid HB.out.1
          clear hJ hacc
          go_wp2
          go_ret2
          unfold PrnPost
          rw [HBAD.out, HL.out]
          exact ⟨rfl, HBW.out⟩
        · have e1 : nm.isEmpty = false := by simpa using hn
          by_cases hv : vl = []
          · subst hv
            have hst : ((l.take (i + 1)).all parOk = true ∧ joinP ((l.map pieceOf).take (i + 1)) = J ++ pieceOf (nm, [], false)) := ⟨take_all _ l i _ HB.out.2.2 HB.out.2.1 (by simp [parOk, hn]), by rw [hJ, ← hacc]; exact takeP_snoc l i _ HB.out.2.2⟩
            rw [show pieceOf (nm, [], false) = codL nm from by simp [pieceOf]] at hst
            have HST := Lib.hid hst
            clear hst
            by_cases h0 : 0 < i
            · have k2 : (0 : Int) < (i : Int) := by omega
              have hl1 : acc ++ [38] = J := by rw [hJ, if_pos h0]
              rw [← hl1] at HST
              clear hJ hacc hl1
              have hj := bd_j acc.length (codL nm).length (codL []).length (totP l) l.length nm.length ([] : List UInt8).length HJ.out hT hN (codL_len nm) (codL_len []) hpl.1 hpl.2 1 (Nat.le_refl _)
              have hj2 : acc.length + 1 = (acc ++ [38]).length := by simp
              go_wp2_with (at_builtin; refine wpList_append_own _ rfl (.tmp 37) (.tmp 38) 66 rfl L 5 i0 (.int .u8 0) 1 1 Tryd.underlying66 hi0 hz0 hz1 hz2 rfl (by decide) _ _ _ rfl (HO.out.alloc _) ⟨wr.heap.size, 0, none⟩ 1 1 [.int .u8 38] rfl rfl (cells_new _ _ _) (by simp [Value.oneCell']) (le_max _ hj.1) (by rw [Nat.mul_one]; exact hj.1) ?d0 ?_)
              case d0 => simp; exact Nat.le_trans hbL (Nat.le_succ _)
              intro v0 wa hI0 hg0 _
              have hba := (HB.out.1.alloc hbL _).grown hg0 (by simp; exact Nat.le_trans hbL (Nat.le_succ _)) (fun j hj => (HO.out.lt j hj).1)
              rw [show [Value.int .u8 38] = Lib.byteCells [38] from rfl, ← Lib.byteCells_append] at hI0
              have HI0 := Lib.hid hI0; have HBA := Lib.hid hba
              obtain ⟨c0, c1, c2⟩ := HAT3.out wa (by rw [HL.out]; exact hba)
              clear hI0 hba hg0
              rw [hj2] at hj HI0

              go_wp2_with fail
              refine (coded_l nm _ hpl.1).mono ?_
              rintro e w1 ⟨rfl, hb1⟩
              have HO1 := Lib.hid (own_later HI0.out hb1)
              have HB1 := Lib.hid (HBA.out.trans (hb1.mono (bsz HBA.out HL)))
              obtain ⟨c0, c1, c2⟩ := HAT3.out w1 (by rw [HL.out]; exact HB1.out)
              clear hb1
              go_wp2_with (at_builtin; refine Lib.wpList_append_own_string _ rfl (.tmp 40) (.tmp 46) 66 9 rfl L 5 i0 Tryd.underlying66 Tryd.underlying9 hi0 hz0 hz1 hz2 _ _ _ rfl HO1.out _ rfl ?e1 ?e2 (bsz HB1.out HL) ?_)
              case e1 => rw [size_l]; exact le_max _ hj.2.1
              case e2 => rw [size_l]; exact hj.2.1
              intro v2 w2 hI2 hg2 _
              have hb2 := HB1.out.grown hg2 (bsz HB1.out HL) (fun j hj => (HO1.out.lt j hj).1)
              (try rw [size_l] at hI2)
              rw [strCells_l, ← Lib.byteCells_append] at hI2
              have HI2 := Lib.hid hI2; have HB2 := Lib.hid hb2
              obtain ⟨c0, c1, c2⟩ := HAT3.out w2 (by rw [HL.out]; exact hb2)
              clear hI2 hb2 hg2

              clear c0 c1
              go_wp2
              have hwi := HW.out
              go_roundw
              case rel =>
                (try rw [hwi]); clear hwi
                refine ⟨i + 1, by go_num, by omega, HST.out.1, ?_, HB2.out⟩
                rw [HST.out.2, List.length_append]
                exact HI2.out
              case measure => (try rw [hwi]); clear hwi; simp [intOf]; omega
            · have k2 : (i : Int) ≤ 0 := by omega
              have hl1 : acc = J := by rw [hJ, if_neg h0, List.append_nil]
              rw [← hl1] at HST
              clear hJ hacc hl1
              have hj := bd_j acc.length (codL nm).length (codL []).length (totP l) l.length nm.length ([] : List UInt8).length HJ.out hT hN (codL_len nm) (codL_len []) hpl.1 hpl.2 0 (Nat.zero_le _)
              rw [Nat.add_zero] at hj
              go_wp2_with fail
              refine (coded_l nm _ hpl.1).mono ?_
              rintro e w1 ⟨rfl, hb1⟩
              have HO1 := Lib.hid (own_later HO.out hb1)
              have HB1 := Lib.hid (HB.out.1.trans (hb1.mono (bsz HB.out.1 HL)))
              obtain ⟨c0, c1, c2⟩ := HAT3.out w1 (by rw [HL.out]; exact HB1.out)
              clear hb1
              go_wp2_with (at_builtin; refine Lib.wpList_append_own_string _ rfl (.tmp 40) (.tmp 46) 66 9 rfl L 5 i0 Tryd.underlying66 Tryd.underlying9 hi0 hz0 hz1 hz2 _ _ _ rfl HO1.out _ rfl ?e1 ?e2 (bsz HB1.out HL) ?_)
              case e1 => rw [size_l]; exact le_max _ hj.2.1
              case e2 => rw [size_l]; exact hj.2.1
              intro v2 w2 hI2 hg2 _
              have hb2 := HB1.out.grown hg2 (bsz HB1.out HL) (fun j hj => (HO1.out.lt j hj).1)
              (try rw [size_l] at hI2)
              rw [strCells_l, ← Lib.byteCells_append] at hI2
              have HI2 := Lib.hid hI2; have HB2 := Lib.hid hb2
              obtain ⟨c0, c1, c2⟩ := HAT3.out w2 (by rw [HL.out]; exact hb2)
              clear hI2 hb2 hg2

              clear c0 c1
              go_wp2
              have hwi := HW.out
              go_roundw
              case rel =>
                (try rw [hwi]); clear hwi
                refine ⟨i + 1, by go_num, by omega, HST.out.1, ?_, HB2.out⟩
                rw [HST.out.2, List.length_append]
                exact HI2.out
              case measure => (try rw [hwi]); clear hwi; simp [intOf]; omega
          · have e2 : vl.isEmpty = false := by simpa using hv
            have HBAD := Lib.hid (prn_bad l i _ HB.out.2.2 (by simp [parOk, hv]))
            have HBW := Lib.hid HB.out.1
            clear hJ hacc
            go_wp2
            go_ret2
            unfold PrnPost
            rw [HBAD.out, HL.out]
            exact ⟨rfl, HBW.out⟩
    · obtain rfl : i = l.length := by omega
      have hd : decide (l.length < l.length) = false := decide_eq_false (Nat.lt_irrefl _)
      rw [List.take_length] at hok
      rw [List.take_of_length_le (by rw [List.length_map]; exact Nat.le_refl _)] at hown
      have hp : prnP l = (joinP (l.map pieceOf), 0) := by unfold prnP; rw [if_pos hok]
      have hcv := run_str_own wr 66 5 Tryd.underlying66 Tryd.underlying5 hown 9 Tryd.underlying9
      have HP := Lib.hid hp; have HB := Lib.hid hb
      clear hp hown hok hb
      go_wp2
      go_ret2
      unfold PrnPost
      rw [HP.out, HL.out]
      exact ⟨rfl, HB.out⟩
end Go.Proofs.YtgkpiakapdgglaaDoor
