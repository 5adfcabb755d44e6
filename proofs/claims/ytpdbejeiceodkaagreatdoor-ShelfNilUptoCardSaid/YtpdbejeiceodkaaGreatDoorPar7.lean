/- The walk of accept.Parse: the plain function mdP. Conditions: fewer than 2^40 bytes; octet.signs holds what the text lays. -/
import Derived.Test.YtpdbejeiceodkaaGreatDoorSpt
import Derived.Test.YtpdbejeiceodkaaGreatDoorVal7
namespace Go.Proofs.YtpdbejeiceodkaaGreatDoor
open Go.RowKit
set_option linter.unusedSimpArgs false
set_option linter.unusedVariables false
set_option maxRecDepth 1000000
def mpV (r : Med × Nat) (v : Value) : Value := .tuple #[.agg #[.string ⟨r.1.1.toArray⟩, .string ⟨r.1.2.1.toArray⟩, v], .int .i64 (r.2 : Nat)]
def MpPost (s : ByteArray) (T : TypeId) (w : World) (e : Ending) (w' : World) : Prop := ∃ v, e = .returned (mpV (mdP s.data.toList) v) ∧ w'.ownsRow w.heap.size T 3 v (mdP s.data.toList).1.2.2.1.length (parsV (mdP s.data.toList).1.2.2.1) ∧ Below w.heap.size w w'
theorem mdK_len (s rest : List UInt8) (n : Nat) : (mdK s rest n).2.2.1.length ≤ rest.length := by
  unfold mdK
  split
  · simp [noMed]
  · obtain ⟨⟨ps, m, e⟩, hr⟩ : ∃ r, parR (rest.drop (runL isSg rest)) = r := ⟨_, rfl⟩
    have h := (parR_bd7 _ ps m e hr).2.1
    rw [hr]
    show (ps.map lowP).length ≤ _
    rw [List.length_map]
    rw [List.length_drop] at h
    omega
theorem mdR_len (s : List UInt8) : (mdR s).2.2.1.length ≤ s.length := by
  unfold mdR
  split
  · simp [noMed]
  · refine Nat.le_trans (mdK_len _ _ _) ?_
    rw [List.length_drop]
    omega
set_option maxHeartbeats 8000000 in
theorem oparse_any (s : ByteArray) (w : World) (hs : s.size ≤ 1099511627776) (hg : SgAt w) : Calls Tryz.prog 71 #[.string s] w (MpPost s 214 w) := by
  obtain ⟨W0, hW0⟩ : ∃ W0, w.alloc (.cells #[.string ⟨#[]⟩, .string ⟨#[]⟩, .slice none 0 0] 131) = W0 := ⟨_, rfl⟩
  have hb0 : Below w.heap.size w W0 := by rw [← hW0]; exact (Below.refl _ w).alloc (Nat.le_refl _) _
  have hlt0 : w.heap.size < W0.heap.size := by rw [← hW0]; simp
  have HB0 := Lib.hid hb0
  have HG0 := Lib.hid (hg.below hb0)
  clear hg
  have HW0 := Lib.hid hW0
  have HLT := Lib.hid hlt0
  obtain ⟨t, ht⟩ : ∃ t : ByteArray, (⟨(trimL s.data.toList).toArray⟩ : ByteArray) = t := ⟨_, rfl⟩
  have htl : trimL s.data.toList = t.data.toList := by rw [← ht]
  have hts : t.size ≤ s.size := by rw [← size_list, ← htl, ← size_list]; exact trimL_len _
  have hts2 : t.size ≤ 1099511627776 := Nat.le_trans hts hs
  obtain ⟨⟨a, b, ps, gd⟩, hr⟩ : ∃ r, mdR t.data.toList = r := ⟨_, rfl⟩
  have hpl := mdR_len t.data.toList
  rw [hr, size_list] at hpl
  have hpl2 : ps.length ≤ 2199023255552 := Nat.le_trans hpl (Nat.le_trans hts2 (by decide))
  have HT := Lib.hid (And.intro ht htl)
  have HRR := Lib.hid hr
  clear hb0 hW0 hlt0 ht htl hr hpl
  cases gd with
  | false =>
    have HR := Lib.hid (mdP_bad s.data.toList (a, b, ps, false) (by rw [HT.out.2]; exact HRR.out) (Or.inl rfl))
    go_enter Tryz.func71, Tryz.ntmps71
    go_wp2_with fail
    refine (otrim_any s _ hs).mono ?_
    rintro e w1 ⟨rfl, hb1⟩
    rw [HT.out.1]
    rw [HW0.out] at hb1
    have HB1 := Lib.hid hb1
    clear hb1
    go_wp2_with fail
    refine (split_any t w1 hts2 (HG0.out.below HB1.out)).mono ?_
    rintro e w2 ⟨v, he, hown, hb2⟩
    rw [HRR.out] at he hown
    have hvs : ∃ ao cap, v = .slice ao ps.length cap := by
      rcases hown.2 with ⟨rfl, h0⟩ | ⟨g, cap, cur, rfl, _⟩
      · exact ⟨none, 0, by rw [show ((a, b, ps, false) : Med).2.2.1 = ps from rfl] at h0; rw [h0]⟩
      · exact ⟨_, cap, rfl⟩
    obtain ⟨ao, cap, rfl⟩ := hvs
    obtain rfl := he
    rw [show mdV (a, b, ps, false) (.slice ao ps.length cap) = .tuple #[.agg #[.string ⟨a.toArray⟩, .string ⟨b.toArray⟩, .slice ao ps.length cap], .bool false] from rfl]
    have hown : w2.ownsRow W0.heap.size 214 3 (.slice ao ps.length cap) ps.length (parsV ps) := own_mono7 hown HB1.out.size
    have hbw : Below W0.heap.size W0 (w2.alloc (.cells #[.string ⟨a.toArray⟩, .string ⟨b.toArray⟩, .slice ao ps.length cap] 131)) := (HB1.out.trans (hb2.mono HB1.out.size)).alloc (HB1.out.trans (hb2.mono HB1.out.size)).size _
    clear hb2
    have hbv := True.intro
    have lt4 := HLT.out
    have c0 : (w2.alloc (.cells #[.string ⟨a.toArray⟩, .string ⟨b.toArray⟩, .slice ao ps.length cap] 131)).cell? ⟨w.heap.size, 0, none⟩ = some (.string ⟨#[]⟩) := (hbw.cell (p := ⟨w.heap.size, 0, none⟩) lt4).trans (by rw [← HW0.out]; simp)
    have c1 : (w2.alloc (.cells #[.string ⟨a.toArray⟩, .string ⟨b.toArray⟩, .slice ao ps.length cap] 131)).cell? ⟨w.heap.size, 1, none⟩ = some (.string ⟨#[]⟩) := (hbw.cell (p := ⟨w.heap.size, 1, none⟩) lt4).trans (by rw [← HW0.out]; simp)
    have c2 : (w2.alloc (.cells #[.string ⟨a.toArray⟩, .string ⟨b.toArray⟩, .slice ao ps.length cap] 131)).cell? ⟨w.heap.size, 2, none⟩ = some (.slice none 0 0) := (hbw.cell (p := ⟨w.heap.size, 2, none⟩) lt4).trans (by rw [← HW0.out]; simp)
    have g0 : (w2.alloc (.cells #[.string ⟨a.toArray⟩, .string ⟨b.toArray⟩, .slice ao ps.length cap] 131)).frozen? ⟨w.heap.size, 0, none⟩ = false := (hbw.frozen (p := ⟨w.heap.size, 0, none⟩) lt4).trans (by rw [← HW0.out]; simp)
    have g1 : (w2.alloc (.cells #[.string ⟨a.toArray⟩, .string ⟨b.toArray⟩, .slice ao ps.length cap] 131)).frozen? ⟨w.heap.size, 1, none⟩ = false := (hbw.frozen (p := ⟨w.heap.size, 1, none⟩) lt4).trans (by rw [← HW0.out]; simp)
    have g2 : (w2.alloc (.cells #[.string ⟨a.toArray⟩, .string ⟨b.toArray⟩, .slice ao ps.length cap] 131)).frozen? ⟨w.heap.size, 2, none⟩ = false := (hbw.frozen (p := ⟨w.heap.size, 2, none⟩) lt4).trans (by rw [← HW0.out]; simp)
    have lt5 : w.heap.size < (w2.alloc (.cells #[.string ⟨a.toArray⟩, .string ⟨b.toArray⟩, .slice ao ps.length cap] 131)).heap.size := Nat.lt_of_lt_of_le lt4 hbw.size
    have HBW := Lib.hid (HB0.out.trans (hbw.mono (Nat.le_of_lt lt4)))
    clear lt4 hbw hbv hown
    go_wp2
    (try simp only [Exit.inBlock, Exit.then])
    refine bodyPost_ret (v := mpV (mdP s.data.toList) (.slice none 0 0)) ?mpx1r rfl ⟨(.slice none 0 0), rfl, ?mpx1o, ?mpx1b⟩
    case mpx1r => rw [results_cell_tmp rfl, HR.out]; simp [go_sem, c0, c1, c2, g0, g1, g2, lt5]; rfl
    case mpx1o => rw [HR.out]; exact World.ownsRow_nil _ _ _ _
    case mpx1b => exact ((HBW.out.setCell (p := ⟨w.heap.size, 0, none⟩) (Nat.le_refl _) _).setCell (p := ⟨w.heap.size, 1, none⟩) (Nat.le_refl _) _).setCell (p := ⟨w.heap.size, 2, none⟩) (Nat.le_refl _) _
  | true =>
    cases hav : allVal ps with
    | false =>
      have HR := Lib.hid (mdP_bad s.data.toList (a, b, ps, true) (by rw [HT.out.2]; exact HRR.out) (Or.inr hav))
      go_enter Tryz.func71, Tryz.ntmps71
      go_wp2_with fail
      refine (otrim_any s _ hs).mono ?_
      rintro e w1 ⟨rfl, hb1⟩
      rw [HT.out.1]
      rw [HW0.out] at hb1
      have HB1 := Lib.hid hb1
      clear hb1
      go_wp2_with fail
      refine (split_any t w1 hts2 (HG0.out.below HB1.out)).mono ?_
      rintro e w2 ⟨v, he, hown, hb2⟩
      rw [HRR.out] at he hown
      have hvs : ∃ ao cap, v = .slice ao ps.length cap := by
        rcases hown.2 with ⟨rfl, h0⟩ | ⟨g, cap, cur, rfl, _⟩
        · exact ⟨none, 0, by rw [show ((a, b, ps, true) : Med).2.2.1 = ps from rfl] at h0; rw [h0]⟩
        · exact ⟨_, cap, rfl⟩
      obtain ⟨ao, cap, rfl⟩ := hvs
      obtain rfl := he
      rw [show mdV (a, b, ps, true) (.slice ao ps.length cap) = .tuple #[.agg #[.string ⟨a.toArray⟩, .string ⟨b.toArray⟩, .slice ao ps.length cap], .bool true] from rfl]
      have hown : w2.ownsRow W0.heap.size 214 3 (.slice ao ps.length cap) ps.length (parsV ps) := own_mono7 hown HB1.out.size
      have hbw : Below W0.heap.size W0 (w2.alloc (.cells #[.string ⟨a.toArray⟩, .string ⟨b.toArray⟩, .slice ao ps.length cap] 131)) := (HB1.out.trans (hb2.mono HB1.out.size)).alloc (HB1.out.trans (hb2.mono HB1.out.size)).size _
      clear hb2
      have hbv := (Below.refl w2.heap.size w2).alloc (Nat.le_refl _) (.cells #[.string ⟨a.toArray⟩, .string ⟨b.toArray⟩, .slice ao ps.length cap] 131)
      have hown3 := own_later hown hbv
      go_wp2_with fail
      refine (ovalued_any (.slice ao ps.length cap) ps _ hpl2 (parsIn_own hown3)).mono ?_
      rintro e w4 ⟨rfl, hb4⟩
      rw [hav]
      have hbw := hbw.trans (hb4.mono hbw.size)
      have hown := own_later hown3 hb4
      have lt4 := HLT.out
      have c0 : w4.cell? ⟨w.heap.size, 0, none⟩ = some (.string ⟨#[]⟩) := (hbw.cell (p := ⟨w.heap.size, 0, none⟩) lt4).trans (by rw [← HW0.out]; simp)
      have c1 : w4.cell? ⟨w.heap.size, 1, none⟩ = some (.string ⟨#[]⟩) := (hbw.cell (p := ⟨w.heap.size, 1, none⟩) lt4).trans (by rw [← HW0.out]; simp)
      have c2 : w4.cell? ⟨w.heap.size, 2, none⟩ = some (.slice none 0 0) := (hbw.cell (p := ⟨w.heap.size, 2, none⟩) lt4).trans (by rw [← HW0.out]; simp)
      have g0 : w4.frozen? ⟨w.heap.size, 0, none⟩ = false := (hbw.frozen (p := ⟨w.heap.size, 0, none⟩) lt4).trans (by rw [← HW0.out]; simp)
      have g1 : w4.frozen? ⟨w.heap.size, 1, none⟩ = false := (hbw.frozen (p := ⟨w.heap.size, 1, none⟩) lt4).trans (by rw [← HW0.out]; simp)
      have g2 : w4.frozen? ⟨w.heap.size, 2, none⟩ = false := (hbw.frozen (p := ⟨w.heap.size, 2, none⟩) lt4).trans (by rw [← HW0.out]; simp)
      have lt5 : w.heap.size < w4.heap.size := Nat.lt_of_lt_of_le lt4 hbw.size
      have HBW := Lib.hid (HB0.out.trans (hbw.mono (Nat.le_of_lt lt4)))
      clear lt4 hown hbv hbw
      go_wp2
      (try simp only [Exit.inBlock, Exit.then])
      refine bodyPost_ret (v := mpV (mdP s.data.toList) (.slice none 0 0)) ?mpx2r rfl ⟨(.slice none 0 0), rfl, ?mpx2o, ?mpx2b⟩
      case mpx2r => rw [results_cell_tmp rfl, HR.out]; simp [go_sem, c0, c1, c2, g0, g1, g2, lt5]; rfl
      case mpx2o => rw [HR.out]; exact World.ownsRow_nil _ _ _ _
      case mpx2b => exact ((HBW.out.setCell (p := ⟨w.heap.size, 0, none⟩) (Nat.le_refl _) _).setCell (p := ⟨w.heap.size, 1, none⟩) (Nat.le_refl _) _).setCell (p := ⟨w.heap.size, 2, none⟩) (Nat.le_refl _) _
    | true =>
      have HR := Lib.hid (mdP_ok s.data.toList (a, b, ps, true) (by rw [HT.out.2]; exact HRR.out) rfl hav)
      go_enter Tryz.func71, Tryz.ntmps71
      go_wp2_with fail
      refine (otrim_any s _ hs).mono ?_
      rintro e w1 ⟨rfl, hb1⟩
      rw [HT.out.1]
      rw [HW0.out] at hb1
      have HB1 := Lib.hid hb1
      clear hb1
      go_wp2_with fail
      refine (split_any t w1 hts2 (HG0.out.below HB1.out)).mono ?_
      rintro e w2 ⟨v, he, hown, hb2⟩
      rw [HRR.out] at he hown
      have hvs : ∃ ao cap, v = .slice ao ps.length cap := by
        rcases hown.2 with ⟨rfl, h0⟩ | ⟨g, cap, cur, rfl, _⟩
        · exact ⟨none, 0, by rw [show ((a, b, ps, true) : Med).2.2.1 = ps from rfl] at h0; rw [h0]⟩
        · exact ⟨_, cap, rfl⟩
      obtain ⟨ao, cap, rfl⟩ := hvs
      obtain rfl := he
      rw [show mdV (a, b, ps, true) (.slice ao ps.length cap) = .tuple #[.agg #[.string ⟨a.toArray⟩, .string ⟨b.toArray⟩, .slice ao ps.length cap], .bool true] from rfl]
      have hown : w2.ownsRow W0.heap.size 214 3 (.slice ao ps.length cap) ps.length (parsV ps) := own_mono7 hown HB1.out.size
      have hbw : Below W0.heap.size W0 (w2.alloc (.cells #[.string ⟨a.toArray⟩, .string ⟨b.toArray⟩, .slice ao ps.length cap] 131)) := (HB1.out.trans (hb2.mono HB1.out.size)).alloc (HB1.out.trans (hb2.mono HB1.out.size)).size _
      clear hb2
      have hbv := (Below.refl w2.heap.size w2).alloc (Nat.le_refl _) (.cells #[.string ⟨a.toArray⟩, .string ⟨b.toArray⟩, .slice ao ps.length cap] 131)
      have hown3 := own_later hown hbv
      go_wp2_with fail
      refine (ovalued_any (.slice ao ps.length cap) ps _ hpl2 (parsIn_own hown3)).mono ?_
      rintro e w4 ⟨rfl, hb4⟩
      rw [hav]
      have hbw := hbw.trans (hb4.mono hbw.size)
      have hown := own_later hown3 hb4
      have lt4 := HLT.out
      have c0 : w4.cell? ⟨w.heap.size, 0, none⟩ = some (.string ⟨#[]⟩) := (hbw.cell (p := ⟨w.heap.size, 0, none⟩) lt4).trans (by rw [← HW0.out]; simp)
      have c1 : w4.cell? ⟨w.heap.size, 1, none⟩ = some (.string ⟨#[]⟩) := (hbw.cell (p := ⟨w.heap.size, 1, none⟩) lt4).trans (by rw [← HW0.out]; simp)
      have c2 : w4.cell? ⟨w.heap.size, 2, none⟩ = some (.slice none 0 0) := (hbw.cell (p := ⟨w.heap.size, 2, none⟩) lt4).trans (by rw [← HW0.out]; simp)
      have g0 : w4.frozen? ⟨w.heap.size, 0, none⟩ = false := (hbw.frozen (p := ⟨w.heap.size, 0, none⟩) lt4).trans (by rw [← HW0.out]; simp)
      have g1 : w4.frozen? ⟨w.heap.size, 1, none⟩ = false := (hbw.frozen (p := ⟨w.heap.size, 1, none⟩) lt4).trans (by rw [← HW0.out]; simp)
      have g2 : w4.frozen? ⟨w.heap.size, 2, none⟩ = false := (hbw.frozen (p := ⟨w.heap.size, 2, none⟩) lt4).trans (by rw [← HW0.out]; simp)
      have lt5 : w.heap.size < w4.heap.size := Nat.lt_of_lt_of_le lt4 hbw.size
      have HBW := Lib.hid (HB0.out.trans (hbw.mono (Nat.le_of_lt lt4)))
      have lt6 : w2.heap.size < (w2.alloc (.cells #[.string ⟨a.toArray⟩, .string ⟨b.toArray⟩, .slice ao ps.length cap] 131)).heap.size := by simp
      have d0 : w4.cell? ⟨w2.heap.size, 0, none⟩ = some (.string ⟨a.toArray⟩) := (hb4.cell (p := ⟨w2.heap.size, 0, none⟩) lt6).trans (by simp)
      have d1 : w4.cell? ⟨w2.heap.size, 1, none⟩ = some (.string ⟨b.toArray⟩) := (hb4.cell (p := ⟨w2.heap.size, 1, none⟩) lt6).trans (by simp)
      have d2 : w4.cell? ⟨w2.heap.size, 2, none⟩ = some (.slice ao ps.length cap) := (hb4.cell (p := ⟨w2.heap.size, 2, none⟩) lt6).trans (by simp)
      have HOW := Lib.hid hown
      clear lt6 hb4 hown hown3
      clear lt4 hbv hbw
      go_wp2
      (try simp only [Exit.inBlock, Exit.then])
      refine bodyPost_ret (v := mpV (mdP s.data.toList) (.slice ao ps.length cap)) ?mpx3r rfl ⟨(.slice ao ps.length cap), rfl, ?mpx3o, ?mpx3b⟩
      case mpx3r => rw [results_cell_tmp rfl, HR.out]; simp [go_sem, c0, c1, c2, g0, g1, g2, lt5]; rfl
      case mpx3o => rw [HR.out]; exact own_mono7 (ownsRow_setCell_below (ownsRow_setCell_below (ownsRow_setCell_below HOW.out (a := ⟨w.heap.size, 0, none⟩) HLT.out _) (a := ⟨w.heap.size, 1, none⟩) HLT.out _) (a := ⟨w.heap.size, 2, none⟩) HLT.out _) (Nat.le_of_lt HLT.out)
      case mpx3b => exact ((HBW.out.setCell (p := ⟨w.heap.size, 0, none⟩) (Nat.le_refl _) _).setCell (p := ⟨w.heap.size, 1, none⟩) (Nat.le_refl _) _).setCell (p := ⟨w.heap.size, 2, none⟩) (Nat.le_refl _) _
end Go.Proofs.YtpdbejeiceodkaaGreatDoor
