/- The walk of turnpikelaw07.AcceptParses: true. Conditions: at most 1048576 letters; bytealg's MaxLen holds an int; octet.signs holds what the text lays. -/
import Derived.Test.YthnniiakmjonjaaDoorRPar7
import Derived.Test.YthnniiakmjonjaaDoorAwake07
import Derived.Test.YthnniiakmjonjaaDoorAlk
import Derived.Test.YthnniiakmjonjaaDoorLaidSg
namespace Go.Proofs.YthnniiakmjonjaaDoor
open Go.RowKit
set_option linter.unusedSimpArgs false
set_option linter.unusedVariables false
set_option maxRecDepth 1000000
theorem mdP_plen (s : List UInt8) : (mdP s).1.2.2.1.length ≤ s.length := by
  unfold mdP
  split
  · refine Nat.le_trans (mdR_len _) (trimL_len _)
  · simp [noMed]
set_option maxHeartbeats 4000000 in
theorem acceptParses_any (s : ByteArray) (mm : Int) (w : World) (hs : s.size ≤ 1048576) (hx : w.cell? ⟨1, 0, none⟩ = some (.int .i64 mm)) (hg : SgAt w) :
    Calls Tryd.prog 3 #[.string s] w fun e w' => e = .returned (.bool true) ∧ Below w.heap.size w w' := by
  have hs2 : s.size ≤ 1099511627776 := Nat.le_trans hs (by decide)
  have h1 := oparse_any s w hs2 hg
  have h2 := fun w => rparse_any s w hs2
  have hpl := mdP_plen s.data.toList
  unfold MpPost at h1 h2
  obtain ⟨⟨⟨a, b, ps, gd⟩, er⟩, hr⟩ : ∃ r, mdP s.data.toList = r := ⟨_, rfl⟩
  rw [hr] at h1 hpl
  simp only [hr] at h2
  have hpl2 : ps.length ≤ 1073741824 := by rw [size_list] at hpl; simp only at hpl; omega
  have H1 := Lib.hid h1; have H2 := Lib.hid h2; have HX := Lib.hid (And.intro hx hg); have HPL := Lib.hid hpl2
  clear h1 h2 hr hpl hpl2 hx hg
  go_enter Tryd.func3, Tryd.ntmps3
  go_wp2_with fail
  refine (H1.out).mono ?_
  rintro e w1 ⟨v1, rfl, ho1, hb1⟩
  obtain ⟨ao1, cap1, rfl⟩ := own_slice ho1
  rw [show mpV ((a, b, ps, gd), er) (.slice ao1 ps.length cap1) = .tuple #[.agg #[.string ⟨a.toArray⟩, .string ⟨b.toArray⟩, .slice ao1 ps.length cap1], .int .i64 (er : Nat)] from rfl]
  obtain ⟨W2, hW2⟩ : ∃ W2, w1.alloc (.cells (mC ⟨a, b, ps⟩ (.slice ao1 ps.length cap1)) 24) = W2 := ⟨_, rfl⟩
  have hb2 : Below w.heap.size w W2 := by rw [← hW2]; exact hb1.alloc hb1.size _
  have hB2 : BlkIs W2 w1.heap.size (mC ⟨a, b, ps⟩ (.slice ao1 ps.length cap1)) 24 := by rw [← hW2]; exact blkIs_new _ _ _
  have hp2 : ParsIn W2 (.slice ao1 ps.length cap1) ps := (parsIn_own ho1).below (by rw [← hW2]; exact (Below.refl _ w1).alloc (Nat.le_refl _) _)
  have HW2 := Lib.hid hW2; have HB2 := Lib.hid (And.intro hb2 hB2); have HP2 := Lib.hid hp2
  clear hW2 hb1 ho1 hb2 hB2 hp2
  go_upto_region 2 with fail
  rw [HW2.out]
  go_wp2_with fail
  refine (H2.out _).mono ?_
  rintro e w3 ⟨v2, rfl, ho3, hb3⟩
  obtain ⟨ao2, cap2, rfl⟩ := own_slice ho3
  rw [show mpV ((a, b, ps, gd), er) (.slice ao2 ps.length cap2) = .tuple #[.agg #[.string ⟨a.toArray⟩, .string ⟨b.toArray⟩, .slice ao2 ps.length cap2], .int .i64 (er : Nat)] from rfl]
  obtain ⟨W4, hW4⟩ : ∃ W4, w3.alloc (.cells (mC ⟨a, b, ps⟩ (.slice ao2 ps.length cap2)) 30) = W4 := ⟨_, rfl⟩
  have hb34 : Below w3.heap.size w3 W4 := by rw [← hW4]; exact (Below.refl _ w3).alloc (Nat.le_refl _) _
  have hb4 : Below w.heap.size w W4 := (HB2.out.1.trans (hb3.mono HB2.out.1.size)).trans (hb34.mono (Nat.le_trans HB2.out.1.size hb3.size))
  have hA4 : BlkIs W4 w1.heap.size (mC ⟨a, b, ps⟩ (.slice ao1 ps.length cap1)) 24 := (HB2.out.2.later hb3).later hb34
  have hB4 : BlkIs W4 w3.heap.size (mC ⟨a, b, ps⟩ (.slice ao2 ps.length cap2)) 30 := by rw [← hW4]; exact blkIs_new _ _ _
  have hp4 : ParsIn W4 (.slice ao1 ps.length cap1) ps ∧ ParsIn W4 (.slice ao2 ps.length cap2) ps := ⟨(HP2.out.below hb3).below hb34, (parsIn_own ho3).below hb34⟩
  have HW4 := Lib.hid hW4; have HB4 := Lib.hid (And.intro hb4 (And.intro hA4 hB4)); have HP4 := Lib.hid hp4
  clear hW4 hb3 ho3 hb34 hb4 hA4 hB4 hp4
  go_upto_region 3 with fail
  rw [HW4.out]
  go_wp2_with fail
  refine (awake07_any mm W4 (mx_later (B := 0) HX.out.1 HB4.out.1) (HX.out.2.below HB4.out.1)).mono ?_
  rintro e w5 ⟨rfl, hb5⟩
  have hA5 := HB4.out.2.1.later hb5
  have hB5 := HB4.out.2.2.later hb5
  have HAL := Lib.hid (alike_any ⟨a, b, ps⟩ (.slice ao1 ps.length cap1) (.slice ao2 ps.length cap2) w5 HPL.out (HP4.out.1.below hb5) (HP4.out.2.below hb5))
  have HB5 := Lib.hid (HB4.out.1.trans (hb5.mono HB4.out.1.size))
  have c0 : w5.cell? ⟨w1.heap.size, 0, none⟩ = some (.string ⟨a.toArray⟩) := hA5.cell 0 _ rfl
  have c1 : w5.cell? ⟨w1.heap.size, 1, none⟩ = some (.string ⟨b.toArray⟩) := hA5.cell 1 _ rfl
  have c2 : w5.cell? ⟨w1.heap.size, 2, none⟩ = some (.slice ao1 ps.length cap1) := hA5.cell 2 _ rfl
  have d0 : w5.cell? ⟨w3.heap.size, 0, none⟩ = some (.string ⟨a.toArray⟩) := hB5.cell 0 _ rfl
  have d1 : w5.cell? ⟨w3.heap.size, 1, none⟩ = some (.string ⟨b.toArray⟩) := hB5.cell 1 _ rfl
  have d2 : w5.cell? ⟨w3.heap.size, 2, none⟩ = some (.slice ao2 ps.length cap2) := hB5.cell 2 _ rfl
  clear hb5 hA5 hB5
  go_wp2_with fail
  refine (HAL.out).mono ?_
  rintro e w6 ⟨rfl, hb6⟩
  have HB6 := Lib.hid (HB5.out.trans (hb6.mono HB5.out.size))
  clear hb6 c0 c1 c2 d0 d1 d2
  go_wp2
  go_ret
  exact ⟨by simp, HB6.out⟩
theorem acceptParses_row (s : ByteArray) (W : World) (hL : laidMetH Tryd.prog Rows.acceptParsesUptoRow.laid W) (hsh : W.ShapedOpen Tryd.prog) (hs : s.size ≤ 1048576) :
    Calls Tryd.prog 3 #[.string s] W fun e W' => e = .returned (.bool true) ∧ Below W.heap.size W W' := by
  obtain ⟨m, hm⟩ := Tryd.laysM145.s1_3 W hsh
  exact acceptParses_any s m W hs hm (sg_of_laid (l := Rows.acceptParsesUptoRow.laid) (by simp [Rows.acceptParsesUptoRow]) hL)
end Go.Proofs.YthnniiakmjonjaaDoor
