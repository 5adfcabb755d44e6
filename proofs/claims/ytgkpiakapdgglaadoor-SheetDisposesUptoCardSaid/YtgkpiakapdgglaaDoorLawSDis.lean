/- The walk of turnpikelaw15.SheetDisposes: true. Conditions: at most 1048576 letters; bytealg's MaxLen holds an int; octet.signs holds what the text lays. -/
import Derived.Test.YtgkpiakapdgglaaDoorRDis
import Derived.Test.YtgkpiakapdgglaaDoorLawPars
import Derived.Test.YtgkpiakapdgglaaDoorLaidSg
namespace Go.Proofs.YtgkpiakapdgglaaDoor
open Go.RowKit
set_option linter.unusedSimpArgs false
set_option linter.unusedVariables false
set_option maxRecDepth 1000000
theorem dis_len (s : ByteArray) : (disR s.data.toList).2.1.length ≤ s.size := by
  obtain ⟨t, ht⟩ : ∃ t, trimL s.data.toList = t := ⟨_, rfl⟩
  obtain ⟨n, hn⟩ : ∃ n, runL isSg t = n := ⟨_, rfl⟩
  obtain ⟨⟨ps, m, e⟩, hr⟩ : ∃ r, parR (t.drop n) = r := ⟨_, rfl⟩
  have h2 := trimL_len s.data.toList
  rw [size_list, ht] at h2
  have h1 := parR_bd _ ps m e hr
  rw [List.length_drop] at h1
  by_cases hc : n ≠ 0 ∧ e = 0 ∧ n + m = t.length ∧ (∀ p ∈ ps, p.2.2 = true) ∧ (ps.map fun p => lowL p.1).Nodup
  · rw [dis_good _ t n ht hn ps m e hr hc]
    simp only [List.length_map]
    omega
  · rw [dis_bad _ t n ht hn ps m e hr hc]
    simp
set_option maxHeartbeats 2000000 in
theorem sheetDisposes_any (s : ByteArray) (m : Int) (w : World) (hs : s.size ≤ 1048576) (hg : SgAt w) (hm : w.cell? ⟨1, 0, none⟩ = some (.int .i64 m)) :
    Calls Tryd.prog 6 #[.string s] w fun e w' => e = .returned (.bool true) ∧ Below w.heap.size w w' := by
  have hs40 : s.size ≤ 1099511627776 := Nat.le_trans hs (by decide)
  have hN : (disR s.data.toList).2.1.length ≤ 2199023255552 := Nat.le_trans (dis_len s) (Nat.le_trans hs (by decide))
  go_enter Tryd.func6, Tryd.ntmps6
  go_wp2_with fail
  refine (sdis_any s _ hs40 hg).mono ?_
  rintro e w1 ⟨v1, rfl, ho1, hb1⟩
  have h1 := parsIn_own ho1
  have hm1 := mx_later (B := 0) hm hb1
  clear ho1
  go_wp2_with fail
  refine (rdis_any s _ hs40).mono ?_
  rintro e w2 ⟨v2, rfl, ho2, hb2⟩
  have h2 := h1.below hb2
  have p2 := parsIn_own ho2
  have hm2 := mx_later (B := 0) hm1 hb2
  clear ho2
  generalize disR s.data.toList = q at *
  obtain ⟨k, l, n⟩ := q
  go_wp2_with fail
  refine (awake15_any m _ hm2).mono ?_
  rintro e w3 ⟨rfl, hb3⟩
  have HH := Lib.hid (And.intro (h2.below hb3) (p2.below hb3))
  have b2 := hb1.trans (hb2.mono hb1.size)
  have HB := Lib.hid (b2.trans (hb3.mono b2.size))
  clear h1 h2 p2 hb1 hb2 hb3 hm hm1 hm2 b2
  go_wp2_with fail
  refine (lawpars_any v1 v2 l _ hN HH.out.1 HH.out.2).mono ?_
  rintro e w4 ⟨rfl, hb4⟩
  have HB4 := Lib.hid hb4; clear hb4
  go_wp2
  go_ret
  exact ⟨by simp, HB.out.trans (HB4.out.mono HB.out.size)⟩
theorem sheetDisposes_row (s : ByteArray) (W : World) (hL : laidMetH Tryd.prog Rows.sheetDisposesUptoRow.laid W) (hsh : W.ShapedOpen Tryd.prog) (hs : s.size ≤ 1048576) :
    Calls Tryd.prog 6 #[.string s] W fun e w' => e = .returned (.bool true) ∧ Below W.heap.size W w' := by
  obtain ⟨m, hm⟩ := Tryd.laysM144.s1_3 W hsh
  exact sheetDisposes_any s m W hs (sg_of_laid (l := Rows.sheetDisposesUptoRow.laid) (by simp [Rows.sheetDisposesUptoRow]) hL) hm
end Go.Proofs.YtgkpiakapdgglaaDoor
