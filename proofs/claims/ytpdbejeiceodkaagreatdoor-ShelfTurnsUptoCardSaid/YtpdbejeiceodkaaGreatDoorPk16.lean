/- Par7, MedM, Mda: texts of the seat, one behind the other (a claim holds at most sixty). Conditions: each theorem names its own. -/
import Derived.Test.YtpdbejeiceodkaaGreatDoorPk15
import Derived.Test.YtpdbejeiceodkaaGreatDoorPk04
import Derived.Test.YtpdbejeiceodkaaGreatDoorPk00
import Derived.Test.YtpdbejeiceodkaaGreatDoorPk06
import Derived.Test.YtpdbejeiceodkaaGreatDoorPk12
namespace Go.Proofs.YtpdbejeiceodkaaGreatDoor
open Go.RowKit
set_option linter.unusedSimpArgs false
set_option linter.unusedVariables false
set_option maxRecDepth 1000000
def mpV (r : Med × Nat) (v : Value) : Value := .tuple #[.agg #[.string ⟨r.1.1.toArray⟩, .string ⟨r.1.2.1.toArray⟩, v], .int .i64 (r.2 : Nat)]
def MpPost (s : ByteArray) (T : TypeId) (w : World) (e : Ending) (w' : World) : Prop := ∃ v, e = .returned (mpV (mdP s.data.toList) v) ∧ w'.ownsRow w.heap.size T 3 v (mdP s.data.toList).1.2.2.1.length (parsV (mdP s.data.toList).1.2.2.1) ∧ Below w.heap.size w w'
theorem mdK_len (s rest : List UInt8) (n : Nat) : (mdK s rest n).2.2.1.length ≤ rest.length := by
  unfold mdK
  split
  · simp [noMed]
  · obtain ⟨⟨ps, m, e⟩, hr⟩ : ∃ r, parR (rest.drop (runL isSg rest)) = r := ⟨_, rfl⟩
    have h := (parR_bd7 _ ps m e hr).2.1
    rw [hr]
    show (ps.map lowP).length ≤ _
    rw [List.length_map]
    rw [List.length_drop] at h
    omega
theorem mdR_len (s : List UInt8) : (mdR s).2.2.1.length ≤ s.length := by
  unfold mdR
  split
  · simp [noMed]
  · refine Nat.le_trans (mdK_len _ _ _) ?_
    rw [List.length_drop]
    omega
set_option maxHeartbeats 8000000 in
theorem oparse_any (s : ByteArray) (w : World) (hs : s.size ≤ 1099511627776) (hg : SgAt w) : Calls Tryz.prog 71 #[.string s] w (MpPost s 214 w) := by
  obtain ⟨W0, hW0⟩ : ∃ W0, w.alloc (.cells #[.string ⟨#[]⟩, .string ⟨#[]⟩, .slice none 0 0] 131) = W0 := ⟨_, rfl⟩
  have hb0 : Below w.heap.size w W0 := by rw [← hW0]; exact (Below.refl _ w).alloc (Nat.le_refl _) _
  have hlt0 : w.heap.size < W0.heap.size := by rw [← hW0]; simp
  have HB0 := Lib.hid hb0
  have HG0 := Lib.hid (hg.below hb0)
  clear hg
  have HW0 := Lib.hid hW0
  have HLT := Lib.hid hlt0
  obtain ⟨t, ht⟩ : ∃ t : ByteArray, (⟨(trimL s.data.toList).toArray⟩ : ByteArray) = t := ⟨_, rfl⟩
  have htl : trimL s.data.toList = t.data.toList := by rw [← ht]
  have hts : t.size ≤ s.size := by rw [← size_list, ← htl, ← size_list]; exact trimL_len _
  have hts2 : t.size ≤ 1099511627776 := Nat.le_trans hts hs
  obtain ⟨⟨a, b, ps, gd⟩, hr⟩ : ∃ r, mdR t.data.toList = r := ⟨_, rfl⟩
  have hpl := mdR_len t.data.toList
  rw [hr, size_list] at hpl
  have hpl2 : ps.length ≤ 2199023255552 := Nat.le_trans hpl (Nat.le_trans hts2 (by decide))
  have HT := Lib.hid (And.intro ht htl)
  have HRR := Lib.hid hr
  clear hb0 hW0 hlt0 ht htl hr hpl
  cases gd with
  | false =>
    have HR := Lib.hid (mdP_bad s.data.toList (a, b, ps, false) (by rw [HT.out.2]; exact HRR.out) (Or.inl rfl))
    go_enter Tryz.func71, Tryz.ntmps71
    go_wp2_with fail
    refine (otrim_any s _ hs).mono ?_
    rintro e w1 ⟨rfl, hb1⟩
    rw [HT.out.1]
    rw [HW0.out] at hb1
    have HB1 := Lib.hid hb1
    clear hb1
    go_wp2_with fail
    refine (split_any t w1 hts2 (HG0.out.below HB1.out)).mono ?_
    rintro e w2 ⟨v, he, hown, hb2⟩
    rw [HRR.out] at he hown
    have hvs : ∃ ao cap, v = .slice ao ps.length cap := by
      rcases hown.2 with ⟨rfl, h0⟩ | ⟨g, cap, cur, rfl, _⟩
      · exact ⟨none, 0, by rw [show ((a, b, ps, false) : Med).2.2.1 = ps from rfl] at h0; rw [h0]⟩
      · exact ⟨_, cap, rfl⟩
    obtain ⟨ao, cap, rfl⟩ := hvs
    obtain rfl := he
    rw [show mdV (a, b, ps, false) (.slice ao ps.length cap) = .tuple #[.agg #[.string ⟨a.toArray⟩, .string ⟨b.toArray⟩, .slice ao ps.length cap], .bool false] from rfl]
    have hown : w2.ownsRow W0.heap.size 214 3 (.slice ao ps.length cap) ps.length (parsV ps) := own_mono7 hown HB1.out.size
    have hbw : Below W0.heap.size W0 (w2.alloc (.cells #[.string ⟨a.toArray⟩, .string ⟨b.toArray⟩, .slice ao ps.length cap] 131)) := (HB1.out.trans (hb2.mono HB1.out.size)).alloc (HB1.out.trans (hb2.mono HB1.out.size)).size _
    clear hb2
    have hbv := True.intro
    have lt4 := HLT.out
    have c0 : (w2.alloc (.cells #[.string ⟨a.toArray⟩, .string ⟨b.toArray⟩, .slice ao ps.length cap] 131)).cell? ⟨w.heap.size, 0, none⟩ = some (.string ⟨#[]⟩) := (hbw.cell (p := ⟨w.heap.size, 0, none⟩) lt4).trans (by rw [← HW0.out]; simp)
    have c1 : (w2.alloc (.cells #[.string ⟨a.toArray⟩, .string ⟨b.toArray⟩, .slice ao ps.length cap] 131)).cell? ⟨w.heap.size, 1, none⟩ = some (.string ⟨#[]⟩) := (hbw.cell (p := ⟨w.heap.size, 1, none⟩) lt4).trans (by rw [← HW0.out]; simp)
    have c2 : (w2.alloc (.cells #[.string ⟨a.toArray⟩, .string ⟨b.toArray⟩, .slice ao ps.length cap] 131)).cell? ⟨w.heap.size, 2, none⟩ = some (.slice none 0 0) := (hbw.cell (p := ⟨w.heap.size, 2, none⟩) lt4).trans (by rw [← HW0.out]; simp)
    have g0 : (w2.alloc (.cells #[.string ⟨a.toArray⟩, .string ⟨b.toArray⟩, .slice ao ps.length cap] 131)).frozen? ⟨w.heap.size, 0, none⟩ = false := (hbw.frozen (p := ⟨w.heap.size, 0, none⟩) lt4).trans (by rw [← HW0.out]; simp)
    have g1 : (w2.alloc (.cells #[.string ⟨a.toArray⟩, .string ⟨b.toArray⟩, .slice ao ps.length cap] 131)).frozen? ⟨w.heap.size, 1, none⟩ = false := (hbw.frozen (p := ⟨w.heap.size, 1, none⟩) lt4).trans (by rw [← HW0.out]; simp)
    have g2 : (w2.alloc (.cells #[.string ⟨a.toArray⟩, .string ⟨b.toArray⟩, .slice ao ps.length cap] 131)).frozen? ⟨w.heap.size, 2, none⟩ = false := (hbw.frozen (p := ⟨w.heap.size, 2, none⟩) lt4).trans (by rw [← HW0.out]; simp)
    have lt5 : w.heap.size < (w2.alloc (.cells #[.string ⟨a.toArray⟩, .string ⟨b.toArray⟩, .slice ao ps.length cap] 131)).heap.size := Nat.lt_of_lt_of_le lt4 hbw.size
    have HBW := Lib.hid (HB0.out.trans (hbw.mono (Nat.le_of_lt lt4)))
    clear lt4 hbw hbv hown
    go_wp2
    (try simp only [Exit.inBlock, Exit.then])
    refine bodyPost_ret (v := mpV (mdP s.data.toList) (.slice none 0 0)) ?mpx1r rfl ⟨(.slice none 0 0), rfl, ?mpx1o, ?mpx1b⟩
    case mpx1r => rw [results_cell_tmp rfl, HR.out]; simp [go_sem, c0, c1, c2, g0, g1, g2, lt5]; rfl
    case mpx1o => rw [HR.out]; exact World.ownsRow_nil _ _ _ _
    case mpx1b => exact ((HBW.out.setCell (p := ⟨w.heap.size, 0, none⟩) (Nat.le_refl _) _).setCell (p := ⟨w.heap.size, 1, none⟩) (Nat.le_refl _) _).setCell (p := ⟨w.heap.size, 2, none⟩) (Nat.le_refl _) _
  | true =>
    cases hav : allVal ps with
    | false =>
      have HR := Lib.hid (mdP_bad s.data.toList (a, b, ps, true) (by rw [HT.out.2]; exact HRR.out) (Or.inr hav))
      go_enter Tryz.func71, Tryz.ntmps71
      go_wp2_with fail
      refine (otrim_any s _ hs).mono ?_
      rintro e w1 ⟨rfl, hb1⟩
      rw [HT.out.1]
      rw [HW0.out] at hb1
      have HB1 := Lib.hid hb1
      clear hb1
      go_wp2_with fail
      refine (split_any t w1 hts2 (HG0.out.below HB1.out)).mono ?_
      rintro e w2 ⟨v, he, hown, hb2⟩
      rw [HRR.out] at he hown
      have hvs : ∃ ao cap, v = .slice ao ps.length cap := by
        rcases hown.2 with ⟨rfl, h0⟩ | ⟨g, cap, cur, rfl, _⟩
        · exact ⟨none, 0, by rw [show ((a, b, ps, true) : Med).2.2.1 = ps from rfl] at h0; rw [h0]⟩
        · exact ⟨_, cap, rfl⟩
      obtain ⟨ao, cap, rfl⟩ := hvs
      obtain rfl := he
      rw [show mdV (a, b, ps, true) (.slice ao ps.length cap) = .tuple #[.agg #[.string ⟨a.toArray⟩, .string ⟨b.toArray⟩, .slice ao ps.length cap], .bool true] from rfl]
      have hown : w2.ownsRow W0.heap.size 214 3 (.slice ao ps.length cap) ps.length (parsV ps) := own_mono7 hown HB1.out.size
      have hbw : Below W0.heap.size W0 (w2.alloc (.cells #[.string ⟨a.toArray⟩, .string ⟨b.toArray⟩, .slice ao ps.length cap] 131)) := (HB1.out.trans (hb2.mono HB1.out.size)).alloc (HB1.out.trans (hb2.mono HB1.out.size)).size _
      clear hb2
      have hbv := (Below.refl w2.heap.size w2).alloc (Nat.le_refl _) (.cells #[.string ⟨a.toArray⟩, .string ⟨b.toArray⟩, .slice ao ps.length cap] 131)
      have hown3 := own_later hown hbv
      go_wp2_with fail
      refine (ovalued_any (.slice ao ps.length cap) ps _ hpl2 (parsIn_own hown3)).mono ?_
      rintro e w4 ⟨rfl, hb4⟩
      rw [hav]
      have hbw := hbw.trans (hb4.mono hbw.size)
      have hown := own_later hown3 hb4
      have lt4 := HLT.out
      have c0 : w4.cell? ⟨w.heap.size, 0, none⟩ = some (.string ⟨#[]⟩) := (hbw.cell (p := ⟨w.heap.size, 0, none⟩) lt4).trans (by rw [← HW0.out]; simp)
      have c1 : w4.cell? ⟨w.heap.size, 1, none⟩ = some (.string ⟨#[]⟩) := (hbw.cell (p := ⟨w.heap.size, 1, none⟩) lt4).trans (by rw [← HW0.out]; simp)
      have c2 : w4.cell? ⟨w.heap.size, 2, none⟩ = some (.slice none 0 0) := (hbw.cell (p := ⟨w.heap.size, 2, none⟩) lt4).trans (by rw [← HW0.out]; simp)
      have g0 : w4.frozen? ⟨w.heap.size, 0, none⟩ = false := (hbw.frozen (p := ⟨w.heap.size, 0, none⟩) lt4).trans (by rw [← HW0.out]; simp)
      have g1 : w4.frozen? ⟨w.heap.size, 1, none⟩ = false := (hbw.frozen (p := ⟨w.heap.size, 1, none⟩) lt4).trans (by rw [← HW0.out]; simp)
      have g2 : w4.frozen? ⟨w.heap.size, 2, none⟩ = false := (hbw.frozen (p := ⟨w.heap.size, 2, none⟩) lt4).trans (by rw [← HW0.out]; simp)
      have lt5 : w.heap.size < w4.heap.size := Nat.lt_of_lt_of_le lt4 hbw.size
      have HBW := Lib.hid (HB0.out.trans (hbw.mono (Nat.le_of_lt lt4)))
      clear lt4 hown hbv hbw
      go_wp2
      (try simp only [Exit.inBlock, Exit.then])
      refine bodyPost_ret (v := mpV (mdP s.data.toList) (.slice none 0 0)) ?mpx2r rfl ⟨(.slice none 0 0), rfl, ?mpx2o, ?mpx2b⟩
      case mpx2r => rw [results_cell_tmp rfl, HR.out]; simp [go_sem, c0, c1, c2, g0, g1, g2, lt5]; rfl
      case mpx2o => rw [HR.out]; exact World.ownsRow_nil _ _ _ _
      case mpx2b => exact ((HBW.out.setCell (p := ⟨w.heap.size, 0, none⟩) (Nat.le_refl _) _).setCell (p := ⟨w.heap.size, 1, none⟩) (Nat.le_refl _) _).setCell (p := ⟨w.heap.size, 2, none⟩) (Nat.le_refl _) _
    | true =>
      have HR := Lib.hid (mdP_ok s.data.toList (a, b, ps, true) (by rw [HT.out.2]; exact HRR.out) rfl hav)
      go_enter Tryz.func71, Tryz.ntmps71
      go_wp2_with fail
      refine (otrim_any s _ hs).mono ?_
      rintro e w1 ⟨rfl, hb1⟩
      rw [HT.out.1]
      rw [HW0.out] at hb1
      have HB1 := Lib.hid hb1
      clear hb1
      go_wp2_with fail
      refine (split_any t w1 hts2 (HG0.out.below HB1.out)).mono ?_
      rintro e w2 ⟨v, he, hown, hb2⟩
      rw [HRR.out] at he hown
      have hvs : ∃ ao cap, v = .slice ao ps.length cap := by
        rcases hown.2 with ⟨rfl, h0⟩ | ⟨g, cap, cur, rfl, _⟩
        · exact ⟨none, 0, by rw [show ((a, b, ps, true) : Med).2.2.1 = ps from rfl] at h0; rw [h0]⟩
        · exact ⟨_, cap, rfl⟩
      obtain ⟨ao, cap, rfl⟩ := hvs
      obtain rfl := he
      rw [show mdV (a, b, ps, true) (.slice ao ps.length cap) = .tuple #[.agg #[.string ⟨a.toArray⟩, .string ⟨b.toArray⟩, .slice ao ps.length cap], .bool true] from rfl]
      have hown : w2.ownsRow W0.heap.size 214 3 (.slice ao ps.length cap) ps.length (parsV ps) := own_mono7 hown HB1.out.size
      have hbw : Below W0.heap.size W0 (w2.alloc (.cells #[.string ⟨a.toArray⟩, .string ⟨b.toArray⟩, .slice ao ps.length cap] 131)) := (HB1.out.trans (hb2.mono HB1.out.size)).alloc (HB1.out.trans (hb2.mono HB1.out.size)).size _
      clear hb2
      have hbv := (Below.refl w2.heap.size w2).alloc (Nat.le_refl _) (.cells #[.string ⟨a.toArray⟩, .string ⟨b.toArray⟩, .slice ao ps.length cap] 131)
      have hown3 := own_later hown hbv
      go_wp2_with fail
      refine (ovalued_any (.slice ao ps.length cap) ps _ hpl2 (parsIn_own hown3)).mono ?_
      rintro e w4 ⟨rfl, hb4⟩
      rw [hav]
      have hbw := hbw.trans (hb4.mono hbw.size)
      have hown := own_later hown3 hb4
      have lt4 := HLT.out
      have c0 : w4.cell? ⟨w.heap.size, 0, none⟩ = some (.string ⟨#[]⟩) := (hbw.cell (p := ⟨w.heap.size, 0, none⟩) lt4).trans (by rw [← HW0.out]; simp)
      have c1 : w4.cell? ⟨w.heap.size, 1, none⟩ = some (.string ⟨#[]⟩) := (hbw.cell (p := ⟨w.heap.size, 1, none⟩) lt4).trans (by rw [← HW0.out]; simp)
      have c2 : w4.cell? ⟨w.heap.size, 2, none⟩ = some (.slice none 0 0) := (hbw.cell (p := ⟨w.heap.size, 2, none⟩) lt4).trans (by rw [← HW0.out]; simp)
      have g0 : w4.frozen? ⟨w.heap.size, 0, none⟩ = false := (hbw.frozen (p := ⟨w.heap.size, 0, none⟩) lt4).trans (by rw [← HW0.out]; simp)
      have g1 : w4.frozen? ⟨w.heap.size, 1, none⟩ = false := (hbw.frozen (p := ⟨w.heap.size, 1, none⟩) lt4).trans (by rw [← HW0.out]; simp)
      have g2 : w4.frozen? ⟨w.heap.size, 2, none⟩ = false := (hbw.frozen (p := ⟨w.heap.size, 2, none⟩) lt4).trans (by rw [← HW0.out]; simp)
      have lt5 : w.heap.size < w4.heap.size := Nat.lt_of_lt_of_le lt4 hbw.size
      have HBW := Lib.hid (HB0.out.trans (hbw.mono (Nat.le_of_lt lt4)))
      have lt6 : w2.heap.size < (w2.alloc (.cells #[.string ⟨a.toArray⟩, .string ⟨b.toArray⟩, .slice ao ps.length cap] 131)).heap.size := by simp
      have d0 : w4.cell? ⟨w2.heap.size, 0, none⟩ = some (.string ⟨a.toArray⟩) := (hb4.cell (p := ⟨w2.heap.size, 0, none⟩) lt6).trans (by simp)
      have d1 : w4.cell? ⟨w2.heap.size, 1, none⟩ = some (.string ⟨b.toArray⟩) := (hb4.cell (p := ⟨w2.heap.size, 1, none⟩) lt6).trans (by simp)
      have d2 : w4.cell? ⟨w2.heap.size, 2, none⟩ = some (.slice ao ps.length cap) := (hb4.cell (p := ⟨w2.heap.size, 2, none⟩) lt6).trans (by simp)
      have HOW := Lib.hid hown
      clear lt6 hb4 hown hown3
      clear lt4 hbv hbw
      go_wp2
      (try simp only [Exit.inBlock, Exit.then])
      refine bodyPost_ret (v := mpV (mdP s.data.toList) (.slice ao ps.length cap)) ?mpx3r rfl ⟨(.slice ao ps.length cap), rfl, ?mpx3o, ?mpx3b⟩
      case mpx3r => rw [results_cell_tmp rfl, HR.out]; simp [go_sem, c0, c1, c2, g0, g1, g2, lt5]; rfl
      case mpx3o => rw [HR.out]; exact own_mono7 (ownsRow_setCell_below (ownsRow_setCell_below (ownsRow_setCell_below HOW.out (a := ⟨w.heap.size, 0, none⟩) HLT.out _) (a := ⟨w.heap.size, 1, none⟩) HLT.out _) (a := ⟨w.heap.size, 2, none⟩) HLT.out _) (Nat.le_of_lt HLT.out)
      case mpx3b => exact ((HBW.out.setCell (p := ⟨w.heap.size, 0, none⟩) (Nat.le_refl _) _).setCell (p := ⟨w.heap.size, 1, none⟩) (Nat.le_refl _) _).setCell (p := ⟨w.heap.size, 2, none⟩) (Nat.le_refl _) _
end Go.Proofs.YtpdbejeiceodkaaGreatDoor
namespace Go.Proofs.YtpdbejeiceodkaaGreatDoor
open Go.RowKit
set_option linter.unusedSimpArgs false
set_option linter.unusedVariables false
set_option maxRecDepth 100000
theorem own_base {w : World} {base base' : Nat} {e : TypeId} {size : Nat} {v : Value} {n : Nat} {xs : List Value} (h : w.ownsRow base e size v n xs) (hb : base' ≤ base) : w.ownsRow base' e size v n xs :=
  ⟨h.1, h.2.imp id (fun ⟨g, cap, cur, a, b, c⟩ => ⟨g, cap, cur, a, Nat.le_trans hb b, c⟩)⟩
theorem own_slice {w : World} {base : Nat} {e : TypeId} {size : Nat} {v : Value} {n : Nat} {xs : List Value} (h : w.ownsRow base e size v n xs) : ∃ ao cap, v = .slice ao n cap := by
  rcases h.2 with ⟨rfl, rfl⟩ | ⟨g, cap, cur, rfl, _⟩
  · exact ⟨none, 0, rfl⟩
  · exact ⟨_, cap, rfl⟩
/-- Two rows of different types stand in different blocks. -/
theorem own_apart {w : World} {b1 b2 : Nat} {e1 e2 : TypeId} {s1 s2 : Nat} {v1 v2 : Value} {n1 n2 : Nat} {x1 x2 : List Value} (h1 : w.ownsRow b1 e1 s1 v1 n1 x1) (h2 : w.ownsRow b2 e2 s2 v2 n2 x2) (hne : e1 ≠ e2) : v1.ownBlock = none ∨ v1.ownBlock ≠ v2.ownBlock := by
  rcases h1.2 with ⟨rfl, _⟩ | ⟨g1, c1, cur1, rfl, _, hg1, _⟩
  · exact Or.inl rfl
  · rcases h2.2 with ⟨rfl, _⟩ | ⟨g2, c2, cur2, rfl, _, hg2, _⟩
    · exact Or.inr (by simp [Value.ownBlock])
    · refine Or.inr fun e => hne ?_
      simp [Value.ownBlock] at e
      subst e
      rw [hg1] at hg2
      injection hg2 with hg2
      injection hg2
theorem ad (b o j : Nat) : (⟨b, o, none⟩ : Addr).add j = ⟨b, o + j, none⟩ := by unfold Addr.add; split <;> simp_all
theorem own_cellAt {w : World} {base : Nat} {e : TypeId} {size : Nat} {g n cap : Nat} {xs : List Value} (h : w.ownsRow base e size (.slice (some ⟨g, 0, none⟩) n cap) n xs) (j : Nat) (u : Value) (hj : xs[j]? = some u) : w.cell? ⟨g, j, none⟩ = some u := by
  have := h.cells (g := g) rfl j u hj
  rwa [ad, Nat.zero_add] at this
/-! Media types. -/
abbrev MdV := Mdm × Value
def medV (p : MdV) : List Value := [.string ⟨p.1.ty.toArray⟩, .string ⟨p.1.sub.toArray⟩, p.2]
def medsV (l : List MdV) : List Value := l.flatMap medV
theorem medsV_snoc (l : List MdV) (p : MdV) : medsV (l ++ [p]) = medsV l ++ medV p := by simp [medsV]
def MedC (w : World) (b a : Nat) (m : Mdm) : Prop := b < w.heap.size ∧ w.cell? ⟨b, a, none⟩ = some (.string ⟨m.ty.toArray⟩) ∧ w.cell? ⟨b, a + 1, none⟩ = some (.string ⟨m.sub.toArray⟩) ∧ ∃ sv, w.cell? ⟨b, a + 2, none⟩ = some sv ∧ ParsIn w sv m.ps
theorem MedC.below {w w' : World} {b a : Nat} {m : Mdm} (h : MedC w b a m) (hb : Below w.heap.size w w') : MedC w' b a m := by
  obtain ⟨lt, c0, c1, sv, c2, hp⟩ := h
  exact ⟨Nat.lt_of_lt_of_le lt hb.size, by rw [hb.cell (p := ⟨b, a, none⟩) lt]; exact c0, by rw [hb.cell (p := ⟨b, a + 1, none⟩) lt]; exact c1, sv, by rw [hb.cell (p := ⟨b, a + 2, none⟩) lt]; exact c2, hp.below hb⟩
def MedAt (w : World) (ao : Option Addr) (l : List Mdm) : Prop := ∀ i m, l[i]? = some m → ∃ b o, ao = some ⟨b, o, none⟩ ∧ MedC w b (o + i * 3) m
theorem MedAt.below {w w' : World} {ao : Option Addr} {l : List Mdm} (h : MedAt w ao l) (hb : Below w.heap.size w w') : MedAt w' ao l := fun i m hm => by
  obtain ⟨b, o, e, hc⟩ := h i m hm
  exact ⟨b, o, e, hc.below hb⟩
def MedsIn (w : World) (v : Value) (l : List Mdm) : Prop := ∃ ao cap, v = .slice ao l.length cap ∧ MedAt w ao l
theorem MedsIn.below {w w' : World} {v : Value} {l : List Mdm} (h : MedsIn w v l) (hb : Below w.heap.size w w') : MedsIn w' v l := by
  obtain ⟨ao, cap, rfl, h⟩ := h
  exact ⟨ao, cap, rfl, h.below hb⟩
theorem flat_get {α : Type} (f : α → List Value) (s : Nat) (hs : ∀ p, (f p).length = s) (l : List α) (i : Nat) (p : α) (h : l[i]? = some p) (k : Nat) (hk : k < s) : (l.flatMap f)[i * s + k]? = (f p)[k]? := by
  induction l generalizing i with
  | nil => simp at h
  | cons q r ih =>
    have e : (q :: r).flatMap f = f q ++ r.flatMap f := rfl
    have hl := hs q
    cases i with
    | zero =>
      obtain rfl : q = p := by simpa using h
      rw [e, Nat.zero_mul, Nat.zero_add, List.getElem?_append_left (by omega)]
    | succ i =>
      rw [e, List.getElem?_append_right (by rw [hl, Nat.succ_mul]; omega), hl, show (i + 1) * s + k - s = i * s + k from by rw [Nat.succ_mul]; omega]
      exact ih i (by simpa using h)
theorem map_get {α β : Type} {f : α → β} {l : List α} {i : Nat} {m : β} (h : (l.map f)[i]? = some m) : ∃ p, l[i]? = some p ∧ f p = m := by
  rw [List.getElem?_map] at h
  exact Option.map_eq_some_iff.1 h
/-- A row of media types of the call's own; the parameters of each stand in a row of their own. -/
def OwnMeds (w : World) (L : Nat) (T P : TypeId) (v : Value) (l : List Mdm) : Prop := ∃ X : List MdV, X.map Prod.fst = l ∧ w.ownsRow L T 3 v l.length (medsV X) ∧ ∀ p ∈ X, w.ownsRow L P 3 p.2 p.1.ps.length (parsV p.1.ps)
theorem OwnMeds.isIn {w : World} {L : Nat} {T P : TypeId} {v : Value} {l : List Mdm} (h : OwnMeds w L T P v l) : MedsIn w v l := by
  obtain ⟨X, rfl, hown, hall⟩ := h
  rcases hown.2 with ⟨rfl, h0⟩ | ⟨g, cap, cur, rfl, hb, hg, _⟩
  · exact ⟨none, 0, by rw [h0], fun i p hp => by
      obtain ⟨q, hq, _⟩ := map_get hp
      have := List.length_pos_of_mem (List.mem_of_getElem? hq); rw [List.length_map] at h0; omega⟩
  · have hlt : g < w.heap.size := (Array.getElem?_eq_some_iff.1 hg).1
    refine ⟨_, cap, rfl, fun i m hm => ⟨g, 0, rfl, hlt, ?_⟩⟩
    obtain ⟨p, hp, rfl⟩ := map_get hm
    have hgt := flat_get medV 3 (fun _ => rfl) X i p hp
    rw [Nat.zero_add]
    exact ⟨own_cellAt hown _ _ (hgt 0 (by decide)), own_cellAt hown _ _ (hgt 1 (by decide)), p.2, own_cellAt hown _ _ (hgt 2 (by decide)), parsIn_own (hall p (List.mem_of_getElem? hp))⟩
theorem OwnMeds.later {w w' : World} {L : Nat} {T P : TypeId} {v : Value} {l : List Mdm} (h : OwnMeds w L T P v l) (hb : Below w.heap.size w w') : OwnMeds w' L T P v l := by
  obtain ⟨X, hX, hown, hall⟩ := h
  exact ⟨X, hX, own_later hown hb, fun p hp => own_later (hall p hp) hb⟩
/-! Ranges. -/
abbrev RgV := MdV × Int
def rngV (p : RgV) : List Value := [.string ⟨p.1.1.ty.toArray⟩, .string ⟨p.1.1.sub.toArray⟩, p.1.2, .int .i64 p.2]
def rngsV (l : List RgV) : List Value := l.flatMap rngV
theorem rngsV_snoc (l : List RgV) (p : RgV) : rngsV (l ++ [p]) = rngsV l ++ rngV p := by simp [rngsV]
def RngC (w : World) (b a : Nat) (r : Rng) : Prop := MedC w b a r.1 ∧ w.cell? ⟨b, a + 3, none⟩ = some (.int .i64 r.2)
theorem RngC.below {w w' : World} {b a : Nat} {m : Rng} (h : RngC w b a m) (hb : Below w.heap.size w w') : RngC w' b a m :=
  ⟨h.1.below hb, by rw [hb.cell (p := ⟨b, a + 3, none⟩) h.1.1]; exact h.2⟩
def RngAt (w : World) (ao : Option Addr) (l : List Rng) : Prop := ∀ i m, l[i]? = some m → ∃ b o, ao = some ⟨b, o, none⟩ ∧ RngC w b (o + i * 4) m
theorem RngAt.below {w w' : World} {ao : Option Addr} {l : List Rng} (h : RngAt w ao l) (hb : Below w.heap.size w w') : RngAt w' ao l := fun i m hm => by
  obtain ⟨b, o, e, hc⟩ := h i m hm
  exact ⟨b, o, e, hc.below hb⟩
def RngsIn (w : World) (v : Value) (l : List Rng) : Prop := ∃ ao cap, v = .slice ao l.length cap ∧ RngAt w ao l
theorem RngsIn.below {w w' : World} {v : Value} {l : List Rng} (h : RngsIn w v l) (hb : Below w.heap.size w w') : RngsIn w' v l := by
  obtain ⟨ao, cap, rfl, h⟩ := h
  exact ⟨ao, cap, rfl, h.below hb⟩
def rngOf (p : RgV) : Rng := (p.1.1, p.2)
def OwnRngs (w : World) (L : Nat) (T P : TypeId) (v : Value) (l : List Rng) : Prop := ∃ X : List RgV, X.map rngOf = l ∧ w.ownsRow L T 4 v l.length (rngsV X) ∧ ∀ p ∈ X, w.ownsRow L P 3 p.1.2 p.1.1.ps.length (parsV p.1.1.ps)
theorem OwnRngs.isIn {w : World} {L : Nat} {T P : TypeId} {v : Value} {l : List Rng} (h : OwnRngs w L T P v l) : RngsIn w v l := by
  obtain ⟨X, rfl, hown, hall⟩ := h
  rcases hown.2 with ⟨rfl, h0⟩ | ⟨g, cap, cur, rfl, hb, hg, _⟩
  · exact ⟨none, 0, by rw [h0], fun i p hp => by
      obtain ⟨q, hq, _⟩ := map_get hp
      have := List.length_pos_of_mem (List.mem_of_getElem? hq); rw [List.length_map] at h0; omega⟩
  · have hlt : g < w.heap.size := (Array.getElem?_eq_some_iff.1 hg).1
    refine ⟨_, cap, rfl, fun i m hm => ⟨g, 0, rfl, ?_⟩⟩
    obtain ⟨p, hp, rfl⟩ := map_get hm
    have hgt := flat_get rngV 4 (fun _ => rfl) X i p hp
    rw [Nat.zero_add]
    exact ⟨⟨hlt, own_cellAt hown _ _ (hgt 0 (by decide)), own_cellAt hown _ _ (hgt 1 (by decide)), p.1.2, own_cellAt hown _ _ (hgt 2 (by decide)), parsIn_own (hall p (List.mem_of_getElem? hp))⟩, own_cellAt hown _ _ (hgt 3 (by decide))⟩
theorem OwnRngs.later {w w' : World} {L : Nat} {T P : TypeId} {v : Value} {l : List Rng} (h : OwnRngs w L T P v l) (hb : Below w.heap.size w w') : OwnRngs w' L T P v l := by
  obtain ⟨X, hX, hown, hall⟩ := h
  exact ⟨X, hX, own_later hown hb, fun p hp => own_later (hall p hp) hb⟩
/-! Words. -/
def wgtV (p : Wgt) : List Value := [.string ⟨p.1.toArray⟩, .int .i64 p.2]
def wgtsV (l : List Wgt) : List Value := l.flatMap wgtV
theorem wgtsV_snoc (l : List Wgt) (p : Wgt) : wgtsV (l ++ [p]) = wgtsV l ++ wgtV p := by simp [wgtsV]
theorem wgtsV_take (l : List Wgt) (i : Nat) (p : Wgt) (h : l[i]? = some p) : wgtsV (l.take (i + 1)) = wgtsV (l.take i) ++ [.string ⟨p.1.toArray⟩, .int .i64 p.2] := by
  rw [List.take_add_one, h, Option.toList_some, wgtsV_snoc]; rfl
def WgtC (w : World) (b a : Nat) (p : Wgt) : Prop := b < w.heap.size ∧ w.cell? ⟨b, a, none⟩ = some (.string ⟨p.1.toArray⟩) ∧ w.cell? ⟨b, a + 1, none⟩ = some (.int .i64 p.2)
theorem WgtC.below {w w' : World} {b a : Nat} {p : Wgt} (h : WgtC w b a p) (hb : Below w.heap.size w w') : WgtC w' b a p :=
  ⟨Nat.lt_of_lt_of_le h.1 hb.size, by rw [hb.cell (p := ⟨b, a, none⟩) h.1]; exact h.2.1, by rw [hb.cell (p := ⟨b, a + 1, none⟩) h.1]; exact h.2.2⟩
def WgtAt (w : World) (ao : Option Addr) (l : List Wgt) : Prop := ∀ i m, l[i]? = some m → ∃ b o, ao = some ⟨b, o, none⟩ ∧ WgtC w b (o + i * 2) m
theorem WgtAt.below {w w' : World} {ao : Option Addr} {l : List Wgt} (h : WgtAt w ao l) (hb : Below w.heap.size w w') : WgtAt w' ao l := fun i m hm => by
  obtain ⟨b, o, e, hc⟩ := h i m hm
  exact ⟨b, o, e, hc.below hb⟩
def WgtsIn (w : World) (v : Value) (l : List Wgt) : Prop := ∃ ao cap, v = .slice ao l.length cap ∧ WgtAt w ao l
theorem WgtsIn.below {w w' : World} {v : Value} {l : List Wgt} (h : WgtsIn w v l) (hb : Below w.heap.size w w') : WgtsIn w' v l := by
  obtain ⟨ao, cap, rfl, h⟩ := h
  exact ⟨ao, cap, rfl, h.below hb⟩
theorem wgtsIn_own {w : World} {base : Nat} {T : TypeId} {v : Value} {l : List Wgt} (hown : w.ownsRow base T 2 v l.length (wgtsV l)) : WgtsIn w v l := by
  rcases hown.2 with ⟨rfl, h0⟩ | ⟨g, cap, cur, rfl, hb, hg, _⟩
  · obtain rfl := List.eq_nil_of_length_eq_zero h0
    exact ⟨none, 0, rfl, fun i p hp => by simp at hp⟩
  · have hlt : g < w.heap.size := (Array.getElem?_eq_some_iff.1 hg).1
    refine ⟨_, cap, rfl, fun i p hp => ⟨g, 0, rfl, hlt, ?_⟩⟩
    have hgt := flat_get wgtV 2 (fun _ => rfl) l i p hp
    rw [Nat.zero_add]
    exact ⟨own_cellAt hown _ _ (hgt 0 (by decide)), own_cellAt hown _ _ (hgt 1 (by decide))⟩
/-! Texts and numbers. -/
def TxtAt (w : World) (ao : Option Addr) (l : List (List UInt8)) : Prop := ∀ i p, l[i]? = some p → ∃ b o, ao = some ⟨b, o, none⟩ ∧ b < w.heap.size ∧ w.cell? ⟨b, o + i, none⟩ = some (.string ⟨p.toArray⟩)
theorem TxtAt.below {w w' : World} {ao : Option Addr} {l : List (List UInt8)} (h : TxtAt w ao l) (hb : Below w.heap.size w w') : TxtAt w' ao l := fun i m hm => by
  obtain ⟨b, o, e, lt, hc⟩ := h i m hm
  exact ⟨b, o, e, Nat.lt_of_lt_of_le lt hb.size, by rw [hb.cell (p := ⟨b, o + i, none⟩) lt]; exact hc⟩
def TxtsIn (w : World) (v : Value) (l : List (List UInt8)) : Prop := ∃ ao cap, v = .slice ao l.length cap ∧ TxtAt w ao l
theorem TxtsIn.below {w w' : World} {v : Value} {l : List (List UInt8)} (h : TxtsIn w v l) (hb : Below w.heap.size w w') : TxtsIn w' v l := by
  obtain ⟨ao, cap, rfl, h⟩ := h
  exact ⟨ao, cap, rfl, h.below hb⟩
theorem txtsIn_own {w : World} {base : Nat} {T : TypeId} {v : Value} {l : List (List UInt8)} (hown : w.ownsRow base T 1 v l.length (strV l)) : TxtsIn w v l := by
  rcases hown.2 with ⟨rfl, h0⟩ | ⟨g, cap, cur, rfl, hb, hg, _⟩
  · obtain rfl := List.eq_nil_of_length_eq_zero h0
    exact ⟨none, 0, rfl, fun i p hp => by simp at hp⟩
  · have hlt : g < w.heap.size := (Array.getElem?_eq_some_iff.1 hg).1
    refine ⟨_, cap, rfl, fun i p hp => ⟨g, 0, rfl, hlt, ?_⟩⟩
    rw [Nat.zero_add]
    exact own_cellAt hown i _ (by simp [strV, hp])
def intsV (l : List Int) : List Value := l.map fun n => .int .i64 n
theorem intsV_snoc (l : List Int) (n : Int) : intsV (l ++ [n]) = intsV l ++ [.int .i64 n] := by simp [intsV]
def IntAt (w : World) (ao : Option Addr) (l : List Int) : Prop := ∀ i n, l[i]? = some n → ∃ b o, ao = some ⟨b, o, none⟩ ∧ b < w.heap.size ∧ w.cell? ⟨b, o + i, none⟩ = some (.int .i64 n)
def IntsIn (w : World) (v : Value) (l : List Int) : Prop := ∃ ao cap, v = .slice ao l.length cap ∧ IntAt w ao l
theorem intsIn_own {w : World} {base : Nat} {T : TypeId} {v : Value} {l : List Int} (hown : w.ownsRow base T 1 v l.length (intsV l)) : IntsIn w v l := by
  rcases hown.2 with ⟨rfl, h0⟩ | ⟨g, cap, cur, rfl, hb, hg, _⟩
  · obtain rfl := List.eq_nil_of_length_eq_zero h0
    exact ⟨none, 0, rfl, fun i p hp => by simp at hp⟩
  · have hlt : g < w.heap.size := (Array.getElem?_eq_some_iff.1 hg).1
    refine ⟨_, cap, rfl, fun i p hp => ⟨g, 0, rfl, hlt, ?_⟩⟩
    rw [Nat.zero_add]
    exact own_cellAt hown i _ (by simp [intsV, hp])
end Go.Proofs.YtpdbejeiceodkaaGreatDoor
namespace Go.Proofs.YtpdbejeiceodkaaGreatDoor
open Go.RowKit
set_option linter.unusedSimpArgs false
set_option linter.unusedVariables false
set_option maxRecDepth 1000000
theorem alloc_le {L : Nat} {w : World} (h : L ≤ w.heap.size) (o : Obj) : L ≤ (w.alloc o).heap.size := by simp; omega
/-- A block that holds one object and may be written. -/
def BlkIs (w : World) (b : Nat) (cs : Array Value) (T : TypeId) : Prop := w.heap[b]? = some (.cells cs T)
theorem BlkIs.lt {w : World} {b : Nat} {cs : Array Value} {T : TypeId} (h : BlkIs w b cs T) : b < w.heap.size := (Array.getElem?_eq_some_iff.1 h).1
theorem blkIs_new (w : World) (cs : Array Value) (T : TypeId) : BlkIs (w.alloc (.cells cs T)) w.heap.size cs T := heap_alloc_new w _
theorem BlkIs.below {w w' : World} {B b : Nat} {cs : Array Value} {T : TypeId} (h : BlkIs w b cs T) (hb : Below B w w') (hlt : b < B) : BlkIs w' b cs T := by unfold BlkIs; rw [hb.block b hlt]; exact h
theorem BlkIs.later {w w' : World} {b : Nat} {cs : Array Value} {T : TypeId} (h : BlkIs w b cs T) (hb : Below w.heap.size w w') : BlkIs w' b cs T := h.below hb h.lt
theorem BlkIs.alloc {w : World} {b : Nat} {cs : Array Value} {T : TypeId} (h : BlkIs w b cs T) (o : Obj) : BlkIs (w.alloc o) b cs T := h.later ((Below.refl _ w).alloc (Nat.le_refl _) o)
theorem BlkIs.cell {w : World} {b : Nat} {cs : Array Value} {T : TypeId} (h : BlkIs w b cs T) (j : Nat) (v : Value) (hj : cs[j]? = some v) : w.cell? ⟨b, j, none⟩ = some v := by
  rw [Lib.cell_of_heap h]; exact hj
theorem BlkIs.free {w : World} {b : Nat} {cs : Array Value} {T : TypeId} (h : BlkIs w b cs T) (j : Nat) : w.frozen? ⟨b, j, none⟩ = false := Lib.frozen_of_heap h j
theorem BlkIs.grown {w w' : World} {b : Nat} {cs : Array Value} {T : TypeId} {row : Option Nat} (h : BlkIs w b cs T) (hg : w.grownBy w' row) (hne : row ≠ some b) : BlkIs w' b cs T := by unfold BlkIs; rw [hg.block b h.lt (fun e => hne e.symm)]; exact h
theorem BlkIs.set {w : World} {b : Nat} {cs : Array Value} {T : TypeId} (h : BlkIs w b cs T) (j : Nat) (v : Value) : BlkIs (w.setCell ⟨b, j, none⟩ v) b (cs.setIfInBounds j v) T := Joins.block_setCell h v
theorem BlkIs.setOther {w : World} {b : Nat} {cs : Array Value} {T : TypeId} (h : BlkIs w b cs T) (a : Addr) (v : Value) (hne : b ≠ a.block) : BlkIs (w.setCell a v) b cs T := by unfold BlkIs; rw [Below.heap_setCell w a v b hne]; exact h
/-- A row of another type does not stand in such a block. -/
theorem own_blk {w : World} {L b n s : Nat} {cs : Array Value} {T e : TypeId} {v : Value} {xs : List Value} (hown : w.ownsRow L e s v n xs) (h : BlkIs w b cs T) (hne : e ≠ T) : v.ownBlock ≠ some b := by
  rcases hown.2 with ⟨rfl, _⟩ | ⟨g, c, cur, rfl, _, hg, _⟩
  · simp [Value.ownBlock]
  · intro e2
    simp [Value.ownBlock] at e2
    subst e2
    unfold BlkIs at h
    rw [h] at hg
    injection hg with hg
    injection hg with _ hg
    exact hne hg.symm
theorem own_setOther {w : World} {L b j n s : Nat} {e : TypeId} {v u : Value} {xs : List Value} (hown : w.ownsRow L e s v n xs) (hne : v.ownBlock ≠ some b) : (w.setCell ⟨b, j, none⟩ u).ownsRow L e s v n xs :=
  hown.kept (row := some b) ⟨rfl, rfl, rfl, by simp, fun k hk hkb => Below.heap_setCell w ⟨b, j, none⟩ u k (fun e => hkb (by rw [e]))⟩ (Or.inr hne)
abbrev zMed : Array Value := #[.string ⟨#[]⟩, .string ⟨#[]⟩, .slice none 0 0]
abbrev mC (m : Mdm) (v : Value) : Array Value := #[.string ⟨m.ty.toArray⟩, .string ⟨m.sub.toArray⟩, v]
theorem par_bd (i n : Nat) (h : i < n) (hn : n ≤ 1073741824) : i + 1 ≤ maxLen ∧ (i + 1) * 40 ≤ 140737488355328 := by unfold maxLen; omega
theorem cells_new2 (w : World) (o : Obj) (e : TypeId) (l : List Value) : ∀ j u, l[j]? = some u → ((w.alloc o).alloc (.cells l.toArray e)).cell? ((⟨w.heap.size + 1, 0, none⟩ : Addr).add j) = some u := by
  intro j u hu
  have := cells_new (w.alloc o) e l j u hu
  rwa [show (w.alloc o).heap.size = w.heap.size + 1 from by simp] at this
end Go.Proofs.YtpdbejeiceodkaaGreatDoor
