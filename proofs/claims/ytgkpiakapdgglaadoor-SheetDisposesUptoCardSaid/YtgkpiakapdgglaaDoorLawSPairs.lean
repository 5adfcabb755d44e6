/- The walk of turnpikelaw15.SheetPairs: true. Conditions: fewer than 2^31 bytes; bytealg's MaxLen holds an int. -/
import Derived.Test.YtgkpiakapdgglaaDoorAwake15
namespace Go.Proofs.YtgkpiakapdgglaaDoor
open Go.RowKit
set_option linter.unusedSimpArgs false
set_option linter.unusedVariables false
set_option maxRecDepth 1000000
theorem prs_len (s : ByteArray) : (prsP s.data.toList).1.length ≤ s.size + 1 := by
  unfold prsP
  split
  · simp
  · have h1 := parsOf_len (Lib.split s.data.toList [38])
    have h2 := (split_len 38 s.data.toList.length s.data.toList (Nat.le_refl _)).1
    rw [size_list] at h2
    exact Nat.le_trans h1 h2
theorem le_3141 (n k : Nat) (h : n ≤ k + 1) (hk : k ≤ 2147483648) : n ≤ 2199023255552 := by omega
set_option maxHeartbeats 1000000 in
theorem sheetPairs_any (s : ByteArray) (m : Int) (w : World) (hs : s.size ≤ 2147483648) (hm : w.cell? ⟨1, 0, none⟩ = some (.int .i64 m)) :
    Calls Tryd.prog 3 #[.string s] w fun e w' => e = .returned (.bool true) ∧ Below w.heap.size w w' := by
  have hs40 := le_3140 _ hs
  have hl := le_3141 _ _ (prs_len s) hs
  go_enter Tryd.func3, Tryd.ntmps3
  go_wp2_with fail
  refine (spairs_any s m _ hs hm).mono ?_
  rintro e w1 ⟨v1, rfl, ho1, hb1⟩
  have hm1 := mx_later (B := 0) hm hb1
  go_wp2_with fail
  refine (rpairs15_any s _ hs40).mono ?_
  rintro e w2 ⟨v2, rfl, ho2, hb2⟩
  have hm2 := mx_later (B := 0) hm1 hb2
  have p1 := own_later ho1 hb2
  generalize prsP s.data.toList = q at *
  obtain ⟨l, i, n⟩ := q
  go_wp2_with fail
  refine (awake15_any m _ hm2).mono ?_
  rintro e w3 ⟨rfl, hb3⟩
  have q1 := own_later p1 hb3
  have q2 := own_later ho2 hb3
  have Q1 := Lib.hid q1; have Q2 := Lib.hid q2; have HB := Lib.hid (And.intro hb1 (And.intro hb2 hb3))
  clear q1 q2 p1 ho1 ho2 hb1 hb2 hb3 hm hm1 hm2
  go_wp2_with fail
  refine (lawpairs_any v1 v2 l _ hl (parsAt_own Q1.out) (parsAt_own Q2.out)).mono ?_
  rintro e w4 ⟨rfl, hb4⟩
  have HB4 := Lib.hid hb4; clear hb4
  go_wp2
  go_ret
  refine ⟨by simp, ?_⟩
  have e1 := HB.out.1
  exact e1.trans ((HB.out.2.1.mono e1.size).trans ((HB.out.2.2.mono (Nat.le_trans e1.size HB.out.2.1.size)).trans (HB4.out.mono (Nat.le_trans e1.size (Nat.le_trans HB.out.2.1.size HB.out.2.2.size)))))
/-- As the row asks it. -/
theorem sheetPairs_row (s : ByteArray) (W : World) {L : Prop} (hL : L) (hsh : W.ShapedOpen Tryd.prog) (hs : s.size ≤ 1048576) :
    Calls Tryd.prog 3 #[.string s] W fun e w' => e = .returned (.bool true) ∧ Below W.heap.size W w' := by
  obtain ⟨m, hm⟩ := Tryd.laysM144.s1_3 W hsh
  exact sheetPairs_any s m W (by omega) hm
end Go.Proofs.YtgkpiakapdgglaaDoor
