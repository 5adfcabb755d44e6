/- RPar7, RPrm: texts of the seat, one behind the other (a claim holds at most sixty). Conditions: each theorem names its own. -/
import Derived.Test.YtpdbejeiceodkaaGreatDoorPa30
import Derived.Test.YtpdbejeiceodkaaGreatDoorPk15
import Derived.Test.YtpdbejeiceodkaaGreatDoorPk16
import Derived.Test.YtpdbejeiceodkaaGreatDoorPk17
import Derived.Lib.AppendStr
namespace Go.Proofs.YtpdbejeiceodkaaGreatDoor
open Go.RowKit
set_option linter.unusedSimpArgs false
set_option linter.unusedVariables false
set_option maxRecDepth 1000000
set_option maxHeartbeats 8000000 in
theorem rparse_any (s : ByteArray) (w : World) (hs : s.size ≤ 1099511627776) : Calls Tryz.prog 52 #[.string s] w (MpPost s 198 w) := by
  obtain ⟨W0, hW0⟩ : ∃ W0, w.alloc (.cells #[.string ⟨#[]⟩, .string ⟨#[]⟩, .slice none 0 0] 103) = W0 := ⟨_, rfl⟩
  have hb0 : Below w.heap.size w W0 := by rw [← hW0]; exact (Below.refl _ w).alloc (Nat.le_refl _) _
  have hlt0 : w.heap.size < W0.heap.size := by rw [← hW0]; simp
  have HB0 := Lib.hid hb0
  have HW0 := Lib.hid hW0
  have HLT := Lib.hid hlt0
  obtain ⟨t, ht⟩ : ∃ t : ByteArray, (⟨(trimL s.data.toList).toArray⟩ : ByteArray) = t := ⟨_, rfl⟩
  have htl : trimL s.data.toList = t.data.toList := by rw [← ht]
  have hts : t.size ≤ s.size := by rw [← size_list, ← htl, ← size_list]; exact trimL_len _
  have hts2 : t.size ≤ 1099511627776 := Nat.le_trans hts hs
  obtain ⟨⟨a, b, ps, gd⟩, hr⟩ : ∃ r, mdR t.data.toList = r := ⟨_, rfl⟩
  have hpl := mdR_len t.data.toList
  rw [hr, size_list] at hpl
  have hpl2 : ps.length ≤ 2199023255552 := Nat.le_trans hpl (Nat.le_trans hts2 (by decide))
  have HT := Lib.hid (And.intro ht htl)
  have HRR := Lib.hid hr
  clear hb0 hW0 hlt0 ht htl hr hpl
  cases gd with
  | false =>
    have HR := Lib.hid (mdP_bad s.data.toList (a, b, ps, false) (by rw [HT.out.2]; exact HRR.out) (Or.inl rfl))
    go_enter Tryz.func52, Tryz.ntmps52
    go_wp2_with fail
    refine (rtrim_any s _ hs).mono ?_
    rintro e w1 ⟨rfl, hw1⟩
    rw [hw1, HW0.out, HT.out.1]
    clear hw1
    go_wp2_with fail
    refine (rparts_any t W0 hts2).mono ?_
    rintro e w2 ⟨v, he, hown, hb2⟩
    rw [HRR.out] at he hown
    have hvs : ∃ ao cap, v = .slice ao ps.length cap := by
      rcases hown.2 with ⟨rfl, h0⟩ | ⟨g, cap, cur, rfl, _⟩
      · exact ⟨none, 0, by rw [show ((a, b, ps, false) : Med).2.2.1 = ps from rfl] at h0; rw [h0]⟩
      · exact ⟨_, cap, rfl⟩
    obtain ⟨ao, cap, rfl⟩ := hvs
    obtain rfl := he
    rw [show mdV (a, b, ps, false) (.slice ao ps.length cap) = .tuple #[.agg #[.string ⟨a.toArray⟩, .string ⟨b.toArray⟩, .slice ao ps.length cap], .bool false] from rfl]
    have hown : w2.ownsRow W0.heap.size 198 3 (.slice ao ps.length cap) ps.length (parsV ps) := hown
    have hbw : Below W0.heap.size W0 (w2.alloc (.cells #[.string ⟨a.toArray⟩, .string ⟨b.toArray⟩, .slice ao ps.length cap] 103)) := (hb2).alloc (hb2).size _
    clear hb2
    have hbv := True.intro
    have lt4 := HLT.out
    have c0 : (w2.alloc (.cells #[.string ⟨a.toArray⟩, .string ⟨b.toArray⟩, .slice ao ps.length cap] 103)).cell? ⟨w.heap.size, 0, none⟩ = some (.string ⟨#[]⟩) := (hbw.cell (p := ⟨w.heap.size, 0, none⟩) lt4).trans (by rw [← HW0.out]; simp)
    have c1 : (w2.alloc (.cells #[.string ⟨a.toArray⟩, .string ⟨b.toArray⟩, .slice ao ps.length cap] 103)).cell? ⟨w.heap.size, 1, none⟩ = some (.string ⟨#[]⟩) := (hbw.cell (p := ⟨w.heap.size, 1, none⟩) lt4).trans (by rw [← HW0.out]; simp)
    have c2 : (w2.alloc (.cells #[.string ⟨a.toArray⟩, .string ⟨b.toArray⟩, .slice ao ps.length cap] 103)).cell? ⟨w.heap.size, 2, none⟩ = some (.slice none 0 0) := (hbw.cell (p := ⟨w.heap.size, 2, none⟩) lt4).trans (by rw [← HW0.out]; simp)
    have g0 : (w2.alloc (.cells #[.string ⟨a.toArray⟩, .string ⟨b.toArray⟩, .slice ao ps.length cap] 103)).frozen? ⟨w.heap.size, 0, none⟩ = false := (hbw.frozen (p := ⟨w.heap.size, 0, none⟩) lt4).trans (by rw [← HW0.out]; simp)
    have g1 : (w2.alloc (.cells #[.string ⟨a.toArray⟩, .string ⟨b.toArray⟩, .slice ao ps.length cap] 103)).frozen? ⟨w.heap.size, 1, none⟩ = false := (hbw.frozen (p := ⟨w.heap.size, 1, none⟩) lt4).trans (by rw [← HW0.out]; simp)
    have g2 : (w2.alloc (.cells #[.string ⟨a.toArray⟩, .string ⟨b.toArray⟩, .slice ao ps.length cap] 103)).frozen? ⟨w.heap.size, 2, none⟩ = false := (hbw.frozen (p := ⟨w.heap.size, 2, none⟩) lt4).trans (by rw [← HW0.out]; simp)
    have lt5 : w.heap.size < (w2.alloc (.cells #[.string ⟨a.toArray⟩, .string ⟨b.toArray⟩, .slice ao ps.length cap] 103)).heap.size := Nat.lt_of_lt_of_le lt4 hbw.size
    have HBW := Lib.hid (HB0.out.trans (hbw.mono (Nat.le_of_lt lt4)))
    clear lt4 hbw hbv hown
    go_wp2
    (try simp only [Exit.inBlock, Exit.then])
    refine bodyPost_ret (v := mpV (mdP s.data.toList) (.slice none 0 0)) ?mpx1r rfl ⟨(.slice none 0 0), rfl, ?mpx1o, ?mpx1b⟩
    case mpx1r => rw [results_cell_tmp rfl, HR.out]; simp [go_sem, c0, c1, c2, g0, g1, g2, lt5]; rfl
    case mpx1o => rw [HR.out]; exact World.ownsRow_nil _ _ _ _
    case mpx1b => exact ((HBW.out.setCell (p := ⟨w.heap.size, 0, none⟩) (Nat.le_refl _) _).setCell (p := ⟨w.heap.size, 1, none⟩) (Nat.le_refl _) _).setCell (p := ⟨w.heap.size, 2, none⟩) (Nat.le_refl _) _
  | true =>
    cases hav : allVal ps with
    | false =>
      have HR := Lib.hid (mdP_bad s.data.toList (a, b, ps, true) (by rw [HT.out.2]; exact HRR.out) (Or.inr hav))
      go_enter Tryz.func52, Tryz.ntmps52
      go_wp2_with fail
      refine (rtrim_any s _ hs).mono ?_
      rintro e w1 ⟨rfl, hw1⟩
      rw [hw1, HW0.out, HT.out.1]
      clear hw1
      go_wp2_with fail
      refine (rparts_any t W0 hts2).mono ?_
      rintro e w2 ⟨v, he, hown, hb2⟩
      rw [HRR.out] at he hown
      have hvs : ∃ ao cap, v = .slice ao ps.length cap := by
        rcases hown.2 with ⟨rfl, h0⟩ | ⟨g, cap, cur, rfl, _⟩
        · exact ⟨none, 0, by rw [show ((a, b, ps, true) : Med).2.2.1 = ps from rfl] at h0; rw [h0]⟩
        · exact ⟨_, cap, rfl⟩
      obtain ⟨ao, cap, rfl⟩ := hvs
      obtain rfl := he
      rw [show mdV (a, b, ps, true) (.slice ao ps.length cap) = .tuple #[.agg #[.string ⟨a.toArray⟩, .string ⟨b.toArray⟩, .slice ao ps.length cap], .bool true] from rfl]
      have hown : w2.ownsRow W0.heap.size 198 3 (.slice ao ps.length cap) ps.length (parsV ps) := hown
      have hbw : Below W0.heap.size W0 (w2.alloc (.cells #[.string ⟨a.toArray⟩, .string ⟨b.toArray⟩, .slice ao ps.length cap] 103)) := (hb2).alloc (hb2).size _
      clear hb2
      have hbv := (Below.refl w2.heap.size w2).alloc (Nat.le_refl _) (.cells #[.string ⟨a.toArray⟩, .string ⟨b.toArray⟩, .slice ao ps.length cap] 103)
      have hown3 := own_later hown hbv
      go_wp2_with fail
      refine (rvalued_any (.slice ao ps.length cap) ps _ hpl2 (parsIn_own hown3)).mono ?_
      rintro e w4 ⟨rfl, hw4⟩
      have hb4 : Below (w2.alloc (.cells #[.string ⟨a.toArray⟩, .string ⟨b.toArray⟩, .slice ao ps.length cap] 103)).heap.size (w2.alloc (.cells #[.string ⟨a.toArray⟩, .string ⟨b.toArray⟩, .slice ao ps.length cap] 103)) w4 := by rw [hw4]; exact Below.refl _ _
      clear hw4
      rw [hav]
      have hbw := hbw.trans (hb4.mono hbw.size)
      have hown := own_later hown3 hb4
      have lt4 := HLT.out
      have c0 : w4.cell? ⟨w.heap.size, 0, none⟩ = some (.string ⟨#[]⟩) := (hbw.cell (p := ⟨w.heap.size, 0, none⟩) lt4).trans (by rw [← HW0.out]; simp)
      have c1 : w4.cell? ⟨w.heap.size, 1, none⟩ = some (.string ⟨#[]⟩) := (hbw.cell (p := ⟨w.heap.size, 1, none⟩) lt4).trans (by rw [← HW0.out]; simp)
      have c2 : w4.cell? ⟨w.heap.size, 2, none⟩ = some (.slice none 0 0) := (hbw.cell (p := ⟨w.heap.size, 2, none⟩) lt4).trans (by rw [← HW0.out]; simp)
      have g0 : w4.frozen? ⟨w.heap.size, 0, none⟩ = false := (hbw.frozen (p := ⟨w.heap.size, 0, none⟩) lt4).trans (by rw [← HW0.out]; simp)
      have g1 : w4.frozen? ⟨w.heap.size, 1, none⟩ = false := (hbw.frozen (p := ⟨w.heap.size, 1, none⟩) lt4).trans (by rw [← HW0.out]; simp)
      have g2 : w4.frozen? ⟨w.heap.size, 2, none⟩ = false := (hbw.frozen (p := ⟨w.heap.size, 2, none⟩) lt4).trans (by rw [← HW0.out]; simp)
      have lt5 : w.heap.size < w4.heap.size := Nat.lt_of_lt_of_le lt4 hbw.size
      have HBW := Lib.hid (HB0.out.trans (hbw.mono (Nat.le_of_lt lt4)))
      clear lt4 hown hbv hbw
      go_wp2
      (try simp only [Exit.inBlock, Exit.then])
      refine bodyPost_ret (v := mpV (mdP s.data.toList) (.slice none 0 0)) ?mpx2r rfl ⟨(.slice none 0 0), rfl, ?mpx2o, ?mpx2b⟩
      case mpx2r => rw [results_cell_tmp rfl, HR.out]; simp [go_sem, c0, c1, c2, g0, g1, g2, lt5]; rfl
      case mpx2o => rw [HR.out]; exact World.ownsRow_nil _ _ _ _
      case mpx2b => exact ((HBW.out.setCell (p := ⟨w.heap.size, 0, none⟩) (Nat.le_refl _) _).setCell (p := ⟨w.heap.size, 1, none⟩) (Nat.le_refl _) _).setCell (p := ⟨w.heap.size, 2, none⟩) (Nat.le_refl _) _
    | true =>
      have HR := Lib.hid (mdP_ok s.data.toList (a, b, ps, true) (by rw [HT.out.2]; exact HRR.out) rfl hav)
      go_enter Tryz.func52, Tryz.ntmps52
      go_wp2_with fail
      refine (rtrim_any s _ hs).mono ?_
      rintro e w1 ⟨rfl, hw1⟩
      rw [hw1, HW0.out, HT.out.1]
      clear hw1
      go_wp2_with fail
      refine (rparts_any t W0 hts2).mono ?_
      rintro e w2 ⟨v, he, hown, hb2⟩
      rw [HRR.out] at he hown
      have hvs : ∃ ao cap, v = .slice ao ps.length cap := by
        rcases hown.2 with ⟨rfl, h0⟩ | ⟨g, cap, cur, rfl, _⟩
        · exact ⟨none, 0, by rw [show ((a, b, ps, true) : Med).2.2.1 = ps from rfl] at h0; rw [h0]⟩
        · exact ⟨_, cap, rfl⟩
      obtain ⟨ao, cap, rfl⟩ := hvs
      obtain rfl := he
      rw [show mdV (a, b, ps, true) (.slice ao ps.length cap) = .tuple #[.agg #[.string ⟨a.toArray⟩, .string ⟨b.toArray⟩, .slice ao ps.length cap], .bool true] from rfl]
      have hown : w2.ownsRow W0.heap.size 198 3 (.slice ao ps.length cap) ps.length (parsV ps) := hown
      have hbw : Below W0.heap.size W0 (w2.alloc (.cells #[.string ⟨a.toArray⟩, .string ⟨b.toArray⟩, .slice ao ps.length cap] 103)) := (hb2).alloc (hb2).size _
      clear hb2
      have hbv := (Below.refl w2.heap.size w2).alloc (Nat.le_refl _) (.cells #[.string ⟨a.toArray⟩, .string ⟨b.toArray⟩, .slice ao ps.length cap] 103)
      have hown3 := own_later hown hbv
      go_wp2_with fail
      refine (rvalued_any (.slice ao ps.length cap) ps _ hpl2 (parsIn_own hown3)).mono ?_
      rintro e w4 ⟨rfl, hw4⟩
      have hb4 : Below (w2.alloc (.cells #[.string ⟨a.toArray⟩, .string ⟨b.toArray⟩, .slice ao ps.length cap] 103)).heap.size (w2.alloc (.cells #[.string ⟨a.toArray⟩, .string ⟨b.toArray⟩, .slice ao ps.length cap] 103)) w4 := by rw [hw4]; exact Below.refl _ _
      clear hw4
      rw [hav]
      have hbw := hbw.trans (hb4.mono hbw.size)
      have hown := own_later hown3 hb4
      have lt4 := HLT.out
      have c0 : w4.cell? ⟨w.heap.size, 0, none⟩ = some (.string ⟨#[]⟩) := (hbw.cell (p := ⟨w.heap.size, 0, none⟩) lt4).trans (by rw [← HW0.out]; simp)
      have c1 : w4.cell? ⟨w.heap.size, 1, none⟩ = some (.string ⟨#[]⟩) := (hbw.cell (p := ⟨w.heap.size, 1, none⟩) lt4).trans (by rw [← HW0.out]; simp)
      have c2 : w4.cell? ⟨w.heap.size, 2, none⟩ = some (.slice none 0 0) := (hbw.cell (p := ⟨w.heap.size, 2, none⟩) lt4).trans (by rw [← HW0.out]; simp)
      have g0 : w4.frozen? ⟨w.heap.size, 0, none⟩ = false := (hbw.frozen (p := ⟨w.heap.size, 0, none⟩) lt4).trans (by rw [← HW0.out]; simp)
      have g1 : w4.frozen? ⟨w.heap.size, 1, none⟩ = false := (hbw.frozen (p := ⟨w.heap.size, 1, none⟩) lt4).trans (by rw [← HW0.out]; simp)
      have g2 : w4.frozen? ⟨w.heap.size, 2, none⟩ = false := (hbw.frozen (p := ⟨w.heap.size, 2, none⟩) lt4).trans (by rw [← HW0.out]; simp)
      have lt5 : w.heap.size < w4.heap.size := Nat.lt_of_lt_of_le lt4 hbw.size
      have HBW := Lib.hid (HB0.out.trans (hbw.mono (Nat.le_of_lt lt4)))
      have lt6 : w2.heap.size < (w2.alloc (.cells #[.string ⟨a.toArray⟩, .string ⟨b.toArray⟩, .slice ao ps.length cap] 103)).heap.size := by simp
      have d0 : w4.cell? ⟨w2.heap.size, 0, none⟩ = some (.string ⟨a.toArray⟩) := (hb4.cell (p := ⟨w2.heap.size, 0, none⟩) lt6).trans (by simp)
      have d1 : w4.cell? ⟨w2.heap.size, 1, none⟩ = some (.string ⟨b.toArray⟩) := (hb4.cell (p := ⟨w2.heap.size, 1, none⟩) lt6).trans (by simp)
      have d2 : w4.cell? ⟨w2.heap.size, 2, none⟩ = some (.slice ao ps.length cap) := (hb4.cell (p := ⟨w2.heap.size, 2, none⟩) lt6).trans (by simp)
      have HOW := Lib.hid hown
      clear lt6 hb4 hown hown3
      clear lt4 hbv hbw
      go_wp2
      (try simp only [Exit.inBlock, Exit.then])
      refine bodyPost_ret (v := mpV (mdP s.data.toList) (.slice ao ps.length cap)) ?mpx3r rfl ⟨(.slice ao ps.length cap), rfl, ?mpx3o, ?mpx3b⟩
      case mpx3r => rw [results_cell_tmp rfl, HR.out]; simp [go_sem, c0, c1, c2, g0, g1, g2, lt5]; rfl
      case mpx3o => rw [HR.out]; exact own_mono7 (ownsRow_setCell_below (ownsRow_setCell_below (ownsRow_setCell_below HOW.out (a := ⟨w.heap.size, 0, none⟩) HLT.out _) (a := ⟨w.heap.size, 1, none⟩) HLT.out _) (a := ⟨w.heap.size, 2, none⟩) HLT.out _) (Nat.le_of_lt HLT.out)
      case mpx3b => exact ((HBW.out.setCell (p := ⟨w.heap.size, 0, none⟩) (Nat.le_refl _) _).setCell (p := ⟨w.heap.size, 1, none⟩) (Nat.le_refl _) _).setCell (p := ⟨w.heap.size, 2, none⟩) (Nat.le_refl _) _
end Go.Proofs.YtpdbejeiceodkaaGreatDoor
namespace Go.Proofs.YtpdbejeiceodkaaGreatDoor
open Go.RowKit
set_option linter.unusedSimpArgs false
set_option linter.unusedVariables false
set_option maxRecDepth 1000000
theorem strCells_p (l : List UInt8) : Lib.strCells ⟨l.toArray⟩ = Lib.byteCells l := by
  unfold Lib.strCells Lib.byteCells
  rfl
theorem apd7 (a b : Nat) (ha : a ≤ 2199023255552) (hb : b ≤ 2199023255552) : a + b ≤ maxLen ∧ a + b ≤ 140737488355328 := by unfold maxLen; omega
set_option maxHeartbeats 16000000 in
theorem rprm_any (pv : Value) (ps : List Par) (w : World) (hN : totP ps + ps.length ≤ 1073741824) (h : ParsIn w pv ps) :
    Calls Tryz.prog 153 #[pv] w fun e w' => e = .returned (.tuple #[.string ⟨(prmR ps).1.toArray⟩, .int .i64 ((prmR ps).2 : Nat)]) ∧ Below w.heap.size w w' := by
  obtain ⟨ao, cap, rfl, hat⟩ := h
  obtain ⟨i0, hi0, hz0, hz1, hz2⟩ := info_parts infoByte
  obtain ⟨L, hL⟩ : ∃ L, w.heap.size = L := ⟨_, rfl⟩
  have hbb : Below L w (w.alloc (.cells #[] 5)) := by rw [← hL]; exact (Below.refl _ w).alloc (Nat.le_refl _) _
  have hrm : (w.alloc (.cells #[] 5)).ownsRow L 5 1 (.slice (some ⟨w.heap.size, 0, none⟩) 0 0) 0 (Lib.byteCells []) := by rw [← hL]; exact World.ownsRow_made w #[] 0 (Nat.le_refl _) (by simp) rfl
  have hN2 : ps.length ≤ 1073741824 := by omega
  have HL := Lib.hid hL
  have HAT := Lib.hid hat
  clear hL hat
  go_enter Tryz.func153, Tryz.ntmps153
  go_wp2
  go_loopw [5, 4] (fun iv tv wr => ∃ i : Nat, iv = .int .i64 i ∧ i ≤ ps.length ∧ (ps.take i).all prmOk = true ∧ wr.ownsRow L 5 1 tv (prAll (ps.take i)).length (Lib.byteCells (prAll (ps.take i))) ∧ Below L w wr) (fun iv _ _ => ps.length - (intOf iv).toNat)
  case atStart => exact ⟨0, rfl, Nat.zero_le _, rfl, hrm, hbb⟩
  case round =>
    clear hbb hrm
    obtain ⟨i, rfl, hi, hok, hown, hb⟩ := hrel
    have hAl : (prAll (ps.take i)).length ≤ 1099511627776 := by
      have h1 := prAll_len (ps.take i)
      have h2 := totP_takeL ps i
      omega
    obtain ⟨A, hA⟩ : ∃ A, prAll (ps.take i) = A := ⟨_, rfl⟩
    rw [hA] at hAl hown
    obtain ⟨ao4, cap4, rfl⟩ := own_slice hown
    by_cases hlt : i < ps.length
    · obtain ⟨p, hp⟩ : ∃ p, ps[i]? = some p := ⟨_, List.getElem?_eq_getElem hlt⟩
      have hb' : Below w.heap.size w wr := by rw [HL.out]; exact hb
      obtain ⟨g, o, rfl, hgg, c0, c1, c2⟩ := HAT.out.below hb' i p hp
      have hpl := par_le ps i p hp
      have hst := prAll_take ps i p hp
      rw [hA] at hst
      have hstk := fun h => take_all prmOk ps i p hp hok h
      have hno := fun h => prmR_no ps i p hp h
      have k0 : (0 : Int) ≤ (i : Int) := Int.natCast_nonneg _
      have k1 : (i : Int) < (ps.length : Int) := by omega
      have hwi := wrap64_small i (Nat.le_trans hi (Nat.le_trans hN2 (by decide)))
      obtain ⟨nm, v, hs⟩ := p
      simp only at c0 c1 c2 hpl
      have hnl : nm.length ≤ 1073741824 := by omega
      have hvl : v.length ≤ 1073741824 := by omega
      obtain ⟨W1, hW1⟩ : ∃ W1, wr.alloc (.cells #[.string ⟨nm.toArray⟩, .string ⟨v.toArray⟩, .bool hs] 198) = W1 := ⟨_, rfl⟩
      have hbL := bsz hb HL
      have hb1 : Below L w W1 := by rw [← hW1]; exact hb.alloc hbL _
      have hB1 : BlkIs W1 wr.heap.size #[.string ⟨nm.toArray⟩, .string ⟨v.toArray⟩, .bool hs] 198 := by rw [← hW1]; exact blkIs_new _ _ _
      have ho1 : W1.ownsRow L 5 1 (.slice ao4 A.length cap4) A.length (Lib.byteCells A) := by rw [← hW1]; exact hown.alloc _
      have hL1 : L ≤ W1.heap.size := by rw [← hW1]; exact alloc_le hbL _
      have ht := fun W => rtoken_any ⟨nm.toArray⟩ W (by rw [size_mk]; exact Nat.le_trans hnl (by decide))
      have hf := fun W => risfield_any ⟨v.toArray⟩ W (by rw [size_mk]; exact Nat.le_trans hvl (by decide))
      have htv := fun W => rtoken_any ⟨v.toArray⟩ W (by rw [size_mk]; exact Nat.le_trans hvl (by decide))
      have hq := fun W => rquote_any ⟨v.toArray⟩ W (by rw [size_mk]; exact Nat.le_trans hvl (by decide))
      simp only [show (⟨nm.toArray⟩ : ByteArray).data.toList = nm from rfl, show (⟨v.toArray⟩ : ByteArray).data.toList = v from rfl] at ht hf htv hq
      have HW1 := Lib.hid hW1; have HBB1 := Lib.hid hb1; have HBK1 := Lib.hid hB1; have HO1 := Lib.hid ho1; have HLB1 := Lib.hid hL1; have HT := Lib.hid ht; have HF := Lib.hid hf; have HTV := Lib.hid htv; have HQ := Lib.hid hq
      have HST := Lib.hid hst; have HSTK := Lib.hid hstk; have HNO := Lib.hid hno; have HW := Lib.hid hwi; have HPL := Lib.hid hpl; have HA := Lib.hid (And.intro hA hok); have HAL := Lib.hid hAl; have HLE := Lib.hid (And.intro hnl hvl)
      clear hW1 hb1 hB1 ho1 hL1 ht hf htv hq hst hstk hno hwi hpl hA hok hAl hb hb' hnl hvl hp hgg hown hbL
      go_upto_region 6 with fail
      rw [HW1.out]
      have e0 : W1.cell? ⟨wr.heap.size, 0, none⟩ = some (.string ⟨nm.toArray⟩) := HBK1.out.cell 0 _ rfl
      have e1 : W1.cell? ⟨wr.heap.size, 1, none⟩ = some (.string ⟨v.toArray⟩) := HBK1.out.cell 1 _ rfl
      have e2 : W1.cell? ⟨wr.heap.size, 2, none⟩ = some (.bool hs) := HBK1.out.cell 2 _ rfl
      clear c0 c1 c2
      go_cut [38] (fun s38 wx => s38 = .bool (!prmOk (nm, v, hs)) ∧ wx = W1)
      case first =>
        cases htk : isTok nm with
        | false =>
          have HR := Lib.hid (prm_n1 nm v hs htk)
          rw [htk] at HT
          clear htk
          go_wp2_with fail
          refine (HT.out _).mono ?_
          rintro e w5 ⟨rfl, rfl⟩
          go_wp2_with fail
          go_meet
          exact ⟨by rw [HR.out]; rfl, by first | rfl | trivial⟩
        | true =>
          rw [htk] at HT
          have HK := Lib.hid htk
          clear htk
          go_wp2_with fail
          refine (HT.out _).mono ?_
          rintro e w5 ⟨rfl, rfl⟩
          go_wp2_with fail
          cases hfd : isFld v with
          | false =>
            have HR := Lib.hid (prm_n2 nm v hs hfd)
            rw [hfd] at HF
            clear hfd
            refine (HF.out _).mono ?_
            rintro e w5 ⟨rfl, rfl⟩
            go_wp2_with fail
            go_meet
            exact ⟨by rw [HR.out]; rfl, by first | rfl | trivial⟩
          | true =>
            rw [hfd] at HF
            have HFD := Lib.hid hfd
            clear hfd
            refine (HF.out _).mono ?_
            rintro e w5 ⟨rfl, rfl⟩
            cases hs with
            | true =>
              have HR := Lib.hid (prm_ok nm v true HK.out HFD.out (Or.inl rfl))
              go_wp2_with fail
              go_meet
              exact ⟨by rw [HR.out]; rfl, by first | rfl | trivial⟩
            | false =>
              by_cases hv : v = []
              · have HR := Lib.hid (prm_ok nm v false HK.out HFD.out (Or.inr hv))
                have hve : v.isEmpty = true := by rw [hv]; rfl
                go_wp2_with fail
                go_meet
                exact ⟨by rw [HR.out]; rfl, by first | rfl | trivial⟩
              · have HR := Lib.hid (prm_n3 nm v hv)
                have hve : v.isEmpty = false := by cases v with | nil => exact absurd rfl hv | cons c r => rfl
                go_wp2_with fail
                go_meet
                exact ⟨by rw [HR.out]; rfl, by first | rfl | trivial⟩
      case rest =>
      obtain ⟨rfl, rfl⟩ := hcut
      cases hpok : prmOk (nm, v, hs) with
      | false =>
        have HE := Lib.hid (HNO.out hpok)
        clear hpok
        go_wp2
        go_ret2
        rw [HE.out, HL.out]
        exact ⟨rfl, HBB1.out⟩
      | true =>
        have hstk := HSTK.out hpok
        have hst := HST.out
        have hfd : isFld v = true := by unfold prmOk at hpok; simp only [Bool.and_eq_true] at hpok; exact hpok.2.1
        have hnl := HLE.out.1
        have hal := HAL.out
        have hvl := HLE.out.2
        obtain ⟨B, hB⟩ : ∃ B, 59 :: 32 :: nm = B := ⟨_, rfl⟩
        obtain ⟨A2, hA2⟩ : ∃ A2, A ++ B = A2 := ⟨_, rfl⟩
        have hBl : B.length ≤ 2199023255552 := by rw [← hB]; simp only [List.length_cons]; omega
        have q1 : (⟨#[59, 32]⟩ : ByteArray) ++ (⟨nm.toArray⟩ : ByteArray) = ⟨B.toArray⟩ := by rw [← hB]; exact cat_lp [59, 32] nm
        have z1 := nof7 2 nm.length (by decide) (by omega)
        have hap := apd7 A.length B.length (by omega) hBl
        have hA2l : A2.length ≤ 2199023255552 := by rw [← hA2, ← hB, List.length_append]; simp only [List.length_cons]; omega
        have HSX := Lib.hid (And.intro hst (And.intro hstk (And.intro hB (And.intro hfd (And.intro hvl (And.intro hA2l (And.intro hap (And.intro hA2 hpok))))))))
        clear hst hstk hB hfd hvl hnl hal hA2l hap hA2 hBl hpok
        go_wp2_with (at_builtin; refine Lib.wpList_append_own_string _ rfl (.tmp 39) (.tmp 42) 76 9 rfl L 5 i0 Tryz.underlying76 Tryz.underlying9 hi0 hz0 hz1 hz2 _ _ _ rfl HO1.out _ rfl ?e1 ?e2 HLB1.out ?_)
        case e1 => rw [size_mk]; exact HSX.out.2.2.2.2.2.2.1.1
        case e2 => rw [size_mk]; exact HSX.out.2.2.2.2.2.2.1.2
        intro v2 w2 hI2 hg2 _
        have hb2 := HBB1.out.grown hg2 HLB1.out (fun j hj => (HO1.out.lt j hj).1)
        have hB2 := HBK1.out.grown hg2 (own_blk HO1.out HBK1.out (by decide))
        (try rw [size_mk] at hI2)
        rw [strCells_p, ← Lib.byteCells_append] at hI2
        have hO2 : w2.ownsRow L 5 1 v2 A2.length (Lib.byteCells A2) := by
          rw [← HSX.out.2.2.2.2.2.2.2.1]; simpa only [List.length_append] using hI2
        have HO2 := Lib.hid hO2; have HBB2 := Lib.hid hb2; have HBK2 := Lib.hid hB2; have HLB2 := Lib.hid (Nat.le_trans HLB1.out hg2.size)
        clear hO2 hb2 hB2 hg2 hI2
        have e1 : w2.cell? ⟨wr.heap.size, 1, none⟩ = some (.string ⟨v.toArray⟩) := HBK2.out.cell 1 _ rfl
        have e2 : w2.cell? ⟨wr.heap.size, 2, none⟩ = some (.bool hs) := HBK2.out.cell 2 _ rfl
        cases hs with
        | false =>
          have hs2 : prAll (ps.take (i + 1)) = A2 := by rw [HSX.out.1, ← HSX.out.2.2.2.2.2.2.2.1, ← HSX.out.2.2.1]; simp [prOne]
          have HS2 := Lib.hid hs2
          clear hs2
          go_wp2
          have hwi := HW.out
          go_roundw
          case rel => (try rw [hwi]); clear hwi; exact ⟨i + 1, by go_num, hlt, HSX.out.2.1, by rw [HS2.out]; exact HO2.out, HBB2.out⟩
          case measure => (try rw [hwi]); clear hwi; simp [intOf]; omega
        | true =>
          have hvl := HSX.out.2.2.2.2.1
          have hA2l := HSX.out.2.2.2.2.2.1
          obtain ⟨C, hC⟩ : ∃ C, 61 :: prVal v = C := ⟨_, rfl⟩
          obtain ⟨A3, hA3⟩ : ∃ A3, A2 ++ C = A3 := ⟨_, rfl⟩
          have hs2 : prAll (ps.take (i + 1)) = A3 := by rw [HSX.out.1, ← hA3, ← HSX.out.2.2.2.2.2.2.2.1, ← HSX.out.2.2.1, ← hC]; simp [prOne]
          have hpv := prVal_len v
          have hCl : C.length ≤ 2199023255552 := by rw [← hC, List.length_cons]; omega
          have hap := apd7 A2.length C.length hA2l hCl
          have HS2 := Lib.hid (And.intro hs2 (And.intro hA3 hap))
          cases htk : isTok v with
          | true =>
            have hpe : prVal v = v := by unfold prVal; rw [htk]; rfl
            rw [htk] at HTV
            have q3 : (⟨#[61]⟩ : ByteArray) ++ (⟨v.toArray⟩ : ByteArray) = ⟨C.toArray⟩ := by rw [← hC, hpe]; exact cat_lp [61] v
            have z3 := nof7 1 v.length (by decide) (by omega)
            clear hs2 hvl hA2l hC hA3 hpv hCl hap htk hpe
            go_wp2_with fail
            refine (HTV.out _).mono ?_
            rintro e w5 ⟨rfl, hw5⟩; subst hw5
            have HO5 := HO2; have HBB5 := HBB2; have HBK5 := HBK2; have HLB5 := HLB2
            go_wp2_with (at_builtin; refine Lib.wpList_append_own_string _ rfl (.tmp 56) (.tmp 58) 76 9 rfl L 5 i0 Tryz.underlying76 Tryz.underlying9 hi0 hz0 hz1 hz2 _ _ _ rfl HO5.out _ rfl ?e1 ?e2 HLB5.out ?_)
            case e1 => rw [size_mk]; exact HS2.out.2.2.1
            case e2 => rw [size_mk]; exact HS2.out.2.2.2
            intro v6 w6 hI6 hg6 _
            have hb6 := HBB5.out.grown hg6 HLB5.out (fun j hj => (HO5.out.lt j hj).1)
            have hB6 := HBK5.out.grown hg6 (own_blk HO5.out HBK5.out (by decide))
            (try rw [size_mk] at hI6)
            rw [strCells_p, ← Lib.byteCells_append] at hI6
            have hO6 : w6.ownsRow L 5 1 v6 A3.length (Lib.byteCells A3) := by
              rw [← HS2.out.2.1]; simpa only [List.length_append] using hI6
            have HO6 := Lib.hid hO6; have HBB6 := Lib.hid hb6; have HBK6 := Lib.hid hB6; have HLB6 := Lib.hid (Nat.le_trans HLB5.out hg6.size)
            clear hO6 hb6 hB6 hg6 hI6
            go_wp2
            have hwi := HW.out
            go_roundw
            case rel => (try rw [hwi]); clear hwi; exact ⟨i + 1, by go_num, hlt, HSX.out.2.1, by rw [HS2.out.1]; exact HO6.out, HBB6.out⟩
            case measure => (try rw [hwi]); clear hwi; simp [intOf]; omega
          | false =>
            have hpe : prVal v = qtL v := by unfold prVal; rw [htk]; rfl
            rw [htk] at HTV
            rw [hpe] at hC hpv
            rw [qtR_ok v HSX.out.2.2.2.1] at HQ
            obtain ⟨X, hX⟩ : ∃ X, qtL v = X := ⟨_, rfl⟩
            rw [hX] at HQ hC hpv
            have q3 : (⟨#[61]⟩ : ByteArray) ++ (⟨X.toArray⟩ : ByteArray) = ⟨C.toArray⟩ := by rw [← hC]; exact cat_lp [61] X
            have z3 := nof7 1 X.length (by decide) (by omega)
            clear hs2 hvl hA2l hC hA3 hpv hCl hap htk hpe hX
            go_wp2_with fail
            refine (HTV.out _).mono ?_
            rintro e w5 ⟨rfl, hw5⟩; subst hw5
            go_wp2_with fail
            refine (HQ.out _).mono ?_
            rintro e w5 ⟨rfl, hb5⟩
            have HO5 := Lib.hid (own_later HO2.out hb5); have HBB5 := Lib.hid (HBB2.out.trans (hb5.mono HLB2.out)); have HBK5 := Lib.hid (HBK2.out.later hb5); have HLB5 := Lib.hid (Nat.le_trans HLB2.out hb5.size)
            clear hb5 e1 e2
            go_wp2_with (at_builtin; refine Lib.wpList_append_own_string _ rfl (.tmp 56) (.tmp 58) 76 9 rfl L 5 i0 Tryz.underlying76 Tryz.underlying9 hi0 hz0 hz1 hz2 _ _ _ rfl HO5.out _ rfl ?e1 ?e2 HLB5.out ?_)
            case e1 => rw [size_mk]; exact HS2.out.2.2.1
            case e2 => rw [size_mk]; exact HS2.out.2.2.2
            intro v6 w6 hI6 hg6 _
            have hb6 := HBB5.out.grown hg6 HLB5.out (fun j hj => (HO5.out.lt j hj).1)
            have hB6 := HBK5.out.grown hg6 (own_blk HO5.out HBK5.out (by decide))
            (try rw [size_mk] at hI6)
            rw [strCells_p, ← Lib.byteCells_append] at hI6
            have hO6 : w6.ownsRow L 5 1 v6 A3.length (Lib.byteCells A3) := by
              rw [← HS2.out.2.1]; simpa only [List.length_append] using hI6
            have HO6 := Lib.hid hO6; have HBB6 := Lib.hid hb6; have HBK6 := Lib.hid hB6; have HLB6 := Lib.hid (Nat.le_trans HLB5.out hg6.size)
            clear hO6 hb6 hB6 hg6 hI6
            go_wp2
            have hwi := HW.out
            go_roundw
            case rel => (try rw [hwi]); clear hwi; exact ⟨i + 1, by go_num, hlt, HSX.out.2.1, by rw [HS2.out.1]; exact HO6.out, HBB6.out⟩
            case measure => (try rw [hwi]); clear hwi; simp [intOf]; omega
    · obtain rfl : i = ps.length := by omega
      have hd : decide (ps.length < ps.length) = false := decide_eq_false (Nat.lt_irrefl _)
      rw [List.take_length] at hok hA
      have hcv := run_str_own wr 76 5 Tryz.underlying76 Tryz.underlying5 hown 9 Tryz.underlying9
      have HE := Lib.hid (And.intro (prmR_yes ps hok) (And.intro hA hb))
      clear hok hA hb hown
      go_wp2
      go_ret2
      rw [HE.out.1, HE.out.2.1, HL.out]
      exact ⟨rfl, HE.out.2.2⟩
end Go.Proofs.YtpdbejeiceodkaaGreatDoor
