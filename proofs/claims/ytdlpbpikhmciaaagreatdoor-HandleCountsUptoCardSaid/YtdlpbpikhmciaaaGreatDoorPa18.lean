/- The walk of handle.Check, kind by kind. Conditions: texts are small. -/
import Derived.Test.YtdlpbpikhmciaaaGreatDoorPk08
namespace Go.Proofs.YtdlpbpikhmciaaaGreatDoor
open Go.RowKit
set_option linter.unusedSimpArgs false
set_option linter.unusedVariables false
set_option maxRecDepth 1000000
set_option maxHeartbeats 16000000 in
theorem ocheck4_any (b : Bool) (s c : Int) (n t m : ByteArray) (w : World)
    (hR : ∀ W, Below w.heap.size w W → Calls Tryz.prog 54 #[.agg (hdC 4 n t m s c)] W fun e w' => e = .returned (.bool b) ∧ Below W.heap.size W w') :
    Calls Tryz.prog 9 #[.agg (hdC 4 n t m s c)] w fun e w' => e = .returned (.int .i64 (chkI (bareB (!decide (e0.toList = [])) (!decide (e0.toList = [])) (!decide (e0.toList = [])) (!decide ((0 : Int) = 0)) (!decide ((0 : Int) = 0)) (decide (n.toList = [])) (decide (t.toList = [])) (decide (m.toList = [])) (decide (s = 0)) (c == 0)) b)) ∧ Below w.heap.size w w' := by
  have hUN := fun W => ounused_any 4 s c 0 0 0 n t m e0 e0 e0 W
  obtain ⟨a, ha⟩ : ∃ a, bareB (!decide (e0.toList = [])) (!decide (e0.toList = [])) (!decide (e0.toList = [])) (!decide ((0 : Int) = 0)) (!decide ((0 : Int) = 0)) (decide (n.toList = [])) (decide (t.toList = [])) (decide (m.toList = [])) (decide (s = 0)) (c == 0) = a := ⟨_, rfl⟩
  rw [ha] at hUN ⊢
  clear ha
  have HUN := Lib.hid hUN
  have HRT := Lib.hid hR
  clear hUN hR
  obtain ⟨h, hh⟩ : ∃ h, w.heap.size = h := ⟨_, rfl⟩
  obtain ⟨W2, hW2⟩ : ∃ W2, w.alloc (.cells (hdC 4 n t m s c) 23) = W2 := ⟨_, rfl⟩
  have hb2 : Below w.heap.size w W2 := by rw [← hW2]; exact below1 _ _
  have hB2 : BlkIs W2 h (hdC 4 n t m s c) 23 := by rw [← hW2, ← hh]; exact blkIs_new _ _ _
  have HW2 := Lib.hid hW2
  obtain ⟨S, hSd⟩ : ∃ S : World → Prop, (fun W => Below w.heap.size w W ∧ BlkIs W h (hdC 4 n t m s c) 23) = S := ⟨_, rfl⟩
  have hSi : ∀ W, S W ↔ (Below w.heap.size w W ∧ BlkIs W h (hdC 4 n t m s c) 23) := fun W => by rw [← hSd]
  have hst : ∀ W W', S W → Below W.heap.size W W' → S W' := fun W W' h hb => by
    rw [hSi] at h ⊢
    exact ⟨h.1.trans (hb.mono h.1.size), h.2.later hb⟩
  have HS2 := Lib.hid (show S W2.drew by rw [hSi]; exact ⟨hb2.drew, hB2⟩)
  have HST := Lib.hid hst; have HSI := Lib.hid hSi
  have a0 := hB2.cell 0 _ rfl
  clear hSd hSi hst hW2 hb2 hB2
  go_enter Tryz.func9, Tryz.ntmps9
  go_upto_region 3 with fail
  rw [HW2.out]
  clear a0
  have hS := HS2.out
  refine wp_region_eachH S 7 (by kernel_rfl) (by kernel_rfl) ?_
  obtain ⟨WD, hWD⟩ : ∃ W, W2.drew = W := ⟨_, rfl⟩
  rw [hWD] at hS ⊢
  clear hWD
  refine eachH_take (i := 1) rfl (by kernel_rfl) (by kernel_rfl) (by kernel_rfl) hS (v := ?_) ?_ ?_; rotate_left; · (intro W hS; obtain ⟨_, s1⟩ := (HSI.out W).1 hS; have t0 : W.cell? ⟨h, 0, none⟩ = some (.int .i64 4) := s1.cell 0 _ rfl; clear s1 hS; go_simp; with_reducible rfl)
  refine eachH_take (i := 2) rfl (by kernel_rfl) (by kernel_rfl) (by kernel_rfl) hS (v := ?_) ?_ ?_; rotate_left; · (intro W hS; obtain ⟨_, s1⟩ := (HSI.out W).1 hS; have t0 : W.cell? ⟨h, 0, none⟩ = some (.int .i64 4) := s1.cell 0 _ rfl; clear s1 hS; go_simp; with_reducible rfl)
  refine eachH2 (i := 0) (j := 5) (by kernel_rfl) rfl rfl ?_ ?_
  · intro K hK
    go_simp
    refine (kinds_any _).mono ?_
    rintro e W3 ⟨rfl, hW3⟩
    obtain ⟨g, hg⟩ : ∃ g, WD.heap.size = g := ⟨_, rfl⟩
    try rw [hg]
    have hG : BlkIs W3 g kArr 74 := by rw [hW3, ← hg]; exact blkIs_new _ _ _
    have hcb : Below WD.heap.size WD W3 := by rw [hW3]; exact below1 _ _
    have hS := HST.out _ _ hS hcb
    try have hP := hP.later hcb
    refine hK _ _ hS ?_
    clear hK K hW3 hcb
    refine eachH_take (i := 3) rfl (by kernel_rfl) (by kernel_rfl) (by kernel_rfl) hS (v := ?_) ?_ ?_; rotate_left; · (intro W hS; clear hS; go_simp; with_reducible rfl)
    refine eachH2 (i := 4) (j := 5) (by kernel_rfl) rfl rfl ?_ ?_
    · intro K hK
      have z0 : W3.cell? ⟨g, 32, none⟩ = some (.func (.func 53) #[] #[]) := hG.cell 32 _ rfl
      have z1 : W3.cell? ⟨g, 33, none⟩ = some (.func (.func 54) #[] #[]) := hG.cell 33 _ rfl
      have z2 : W3.cell? ⟨g, 34, none⟩ = some (.int .i64 0) := hG.cell 34 _ rfl
      have z3 : W3.cell? ⟨g, 35, none⟩ = some (.string e0) := hG.cell 35 _ rfl
      have z4 : W3.cell? ⟨g, 36, none⟩ = some (.string e0) := hG.cell 36 _ rfl
      have z5 : W3.cell? ⟨g, 37, none⟩ = some (.string e0) := hG.cell 37 _ rfl
      have z6 : W3.cell? ⟨g, 38, none⟩ = some (.int .i64 0) := hG.cell 38 _ rfl
      have z7 : W3.cell? ⟨g, 39, none⟩ = some (.int .i64 0) := hG.cell 39 _ rfl
      go_simp
      refine hK _ _ hS ?_
      clear hK K z0 z1 z2 z3 z4 z5 z6 z7
      refine eachH1 (i := 5) (by kernel_rfl) rfl ?_
      intro K hK
      obtain ⟨p, hp⟩ : ∃ p, W3.heap.size = p := ⟨_, rfl⟩
      have hpw : w.heap.size ≤ p := by rw [← hp]; exact ((HSI.out _).1 hS).1.size
      have hph : h ≠ p := by have := ((HSI.out _).1 hS).2.lt; omega
      obtain ⟨W4, hW4⟩ : ∃ W4, W3.alloc (.cells zK 74) = W4 := ⟨_, rfl⟩
      have hab : Below W3.heap.size W3 W4 := by rw [← hW4]; exact below1 _ _
      have hP : BlkIs W4 p zK 74 := by rw [← hW4, ← hp]; exact blkIs_new _ _ _
      have hS := HST.out _ _ hS hab
      try have hG := hG.later hab
      have HW4 := Lib.hid hW4
      clear hW4 hab
      go_simp
      rw [HW4.out]
      refine hK _ _ hS ?_
      clear hK K hp HW4
      refine eachH1 (i := 6) (by kernel_rfl) rfl ?_
      intro K hK
      obtain ⟨hb3, hB3⟩ := (HSI.out _).1 hS
      have y0 := hP.free 0
      have y1 := hP.free 1
      have y2 := hP.free 2
      have y3 := hP.free 3
      have y4 := hP.free 4
      have y5 := hP.free 5
      have y6 := hP.free 6
      have y7 := hP.free 7
      have x0 := hP.cell 0 _ rfl
      have x1 := hP.cell 1 _ rfl
      have x2 := hP.cell 2 _ rfl
      have x3 := hP.cell 3 _ rfl
      have x4 := hP.cell 4 _ rfl
      have x5 := hP.cell 5 _ rfl
      have x6 := hP.cell 6 _ rfl
      have x7 := hP.cell 7 _ rfl
      obtain ⟨W9, hW9⟩ : ∃ W9, ((((((((W4.setCell ⟨p, 0, none⟩ (.func (.func 53) #[] #[])).setCell ⟨p, 1, none⟩ (.func (.func 54) #[] #[])).setCell ⟨p, 2, none⟩ (.int .i64 0)).setCell ⟨p, 3, none⟩ (.string e0)).setCell ⟨p, 4, none⟩ (.string e0)).setCell ⟨p, 5, none⟩ (.string e0)).setCell ⟨p, 6, none⟩ (.int .i64 0)).setCell ⟨p, 7, none⟩ (.int .i64 0)) = W9 := ⟨_, rfl⟩
      have hS9 : S W9 := by rw [← hW9]; exact (HSI.out _).2 ⟨eightBelow hb3 hpw (.func (.func 53) #[] #[]) (.func (.func 54) #[] #[]) (.int .i64 0) (.string e0) (.string e0) (.string e0) (.int .i64 0) (.int .i64 0), eightOther hB3 hph (.func (.func 53) #[] #[]) (.func (.func 54) #[] #[]) (.int .i64 0) (.string e0) (.string e0) (.string e0) (.int .i64 0) (.int .i64 0)⟩
      have hP9 : BlkIs W9 p #[(.func (.func 53) #[] #[]), (.func (.func 54) #[] #[]), (.int .i64 0), (.string e0), (.string e0), (.string e0), (.int .i64 0), (.int .i64 0)] 74 := by rw [← hW9]; exact eightSet hP (.func (.func 53) #[] #[]) (.func (.func 54) #[] #[]) (.int .i64 0) (.string e0) (.string e0) (.string e0) (.int .i64 0) (.int .i64 0)
      have HW9 := Lib.hid hW9
      clear hW9 hb3 hB3 hP hS
      go_simp
      rw [HW9.out]
      refine hK _ _ hS9 ?_
      clear hK K x0 y0 x1 y1 x2 y2 x3 y3 x4 y4 x5 y5 x6 y6 x7 y7
      refine eachH_done (by kernel_rfl) ?_
      go_simp
      clear HW9
      obtain ⟨hb9, hB9⟩ := (HSI.out _).1 hS9
      have c0 := hB9.cell 0 _ rfl
      have c1 := hB9.cell 1 _ rfl
      have c2 := hB9.cell 2 _ rfl
      have c3 := hB9.cell 3 _ rfl
      have c4 := hB9.cell 4 _ rfl
      have c5 := hB9.cell 5 _ rfl
      have q0 := hP9.cell 0 _ rfl
      have q1 := hP9.cell 1 _ rfl
      have q2 := hP9.cell 2 _ rfl
      have q3 := hP9.cell 3 _ rfl
      have q4 := hP9.cell 4 _ rfl
      have q5 := hP9.cell 5 _ rfl
      have q6 := hP9.cell 6 _ rfl
      have q7 := hP9.cell 7 _ rfl
      have HB9 := Lib.hid hb9
      have HX9 := Lib.hid (And.intro hB9 hP9)
      clear hb9 hS9 hB9 hP9
      go_wp2_with fail
      refine (HUN.out _).mono ?_
      rintro e W5 ⟨rfl, hb5⟩
      have HB5 := Lib.hid (HB9.out.trans (hb5.mono HB9.out.size))
      have hB5 := HX9.out.1.later hb5
      have hP5 := HX9.out.2.later hb5
      clear hb5 c0 c1 c2 c3 c4 c5 q0 q1 q2 q3 q4 q5 q6 q7
      cases a with
      | false =>
        clear hB5 hP5
        go_wp2
        go_ret
        exact ⟨rfl, HB5.out⟩
      | true =>
        have c0 := hB5.cell 0 _ rfl
        have c1 := hB5.cell 1 _ rfl
        have c2 := hB5.cell 2 _ rfl
        have c3 := hB5.cell 3 _ rfl
        have c4 := hB5.cell 4 _ rfl
        have c5 := hB5.cell 5 _ rfl
        have q1 := hP5.cell 1 _ rfl
        clear hB5 hP5
        have HR5 := Lib.hid (HRT.out W5 HB5.out)
        go_wp2_with fail
        refine (HR5.out).mono ?_
        rintro e W6 ⟨rfl, hb6⟩
        have HB6 := Lib.hid (HB5.out.trans (hb6.mono HB5.out.size))
        clear hb6
        cases b
        all_goals
          go_wp2
          go_ret
          exact ⟨rfl, HB6.out⟩
    · intro K hK
      obtain ⟨p, hp⟩ : ∃ p, W3.heap.size = p := ⟨_, rfl⟩
      have hpw : w.heap.size ≤ p := by rw [← hp]; exact ((HSI.out _).1 hS).1.size
      have hph : h ≠ p := by have := ((HSI.out _).1 hS).2.lt; omega
      obtain ⟨W4, hW4⟩ : ∃ W4, W3.alloc (.cells zK 74) = W4 := ⟨_, rfl⟩
      have hab : Below W3.heap.size W3 W4 := by rw [← hW4]; exact below1 _ _
      have hP : BlkIs W4 p zK 74 := by rw [← hW4, ← hp]; exact blkIs_new _ _ _
      have hS := HST.out _ _ hS hab
      try have hG := hG.later hab
      have HW4 := Lib.hid hW4
      clear hW4 hab
      go_simp
      rw [HW4.out]
      refine hK _ _ hS ?_
      clear hK K hp HW4
      refine eachH1 (i := 4) (by kernel_rfl) rfl ?_
      intro K hK
      have z0 : W4.cell? ⟨g, 32, none⟩ = some (.func (.func 53) #[] #[]) := hG.cell 32 _ rfl
      have z1 : W4.cell? ⟨g, 33, none⟩ = some (.func (.func 54) #[] #[]) := hG.cell 33 _ rfl
      have z2 : W4.cell? ⟨g, 34, none⟩ = some (.int .i64 0) := hG.cell 34 _ rfl
      have z3 : W4.cell? ⟨g, 35, none⟩ = some (.string e0) := hG.cell 35 _ rfl
      have z4 : W4.cell? ⟨g, 36, none⟩ = some (.string e0) := hG.cell 36 _ rfl
      have z5 : W4.cell? ⟨g, 37, none⟩ = some (.string e0) := hG.cell 37 _ rfl
      have z6 : W4.cell? ⟨g, 38, none⟩ = some (.int .i64 0) := hG.cell 38 _ rfl
      have z7 : W4.cell? ⟨g, 39, none⟩ = some (.int .i64 0) := hG.cell 39 _ rfl
      go_simp
      refine hK _ _ hS ?_
      clear hK K z0 z1 z2 z3 z4 z5 z6 z7
      refine eachH1 (i := 6) (by kernel_rfl) rfl ?_
      intro K hK
      obtain ⟨hb3, hB3⟩ := (HSI.out _).1 hS
      have y0 := hP.free 0
      have y1 := hP.free 1
      have y2 := hP.free 2
      have y3 := hP.free 3
      have y4 := hP.free 4
      have y5 := hP.free 5
      have y6 := hP.free 6
      have y7 := hP.free 7
      have x0 := hP.cell 0 _ rfl
      have x1 := hP.cell 1 _ rfl
      have x2 := hP.cell 2 _ rfl
      have x3 := hP.cell 3 _ rfl
      have x4 := hP.cell 4 _ rfl
      have x5 := hP.cell 5 _ rfl
      have x6 := hP.cell 6 _ rfl
      have x7 := hP.cell 7 _ rfl
      obtain ⟨W9, hW9⟩ : ∃ W9, ((((((((W4.setCell ⟨p, 0, none⟩ (.func (.func 53) #[] #[])).setCell ⟨p, 1, none⟩ (.func (.func 54) #[] #[])).setCell ⟨p, 2, none⟩ (.int .i64 0)).setCell ⟨p, 3, none⟩ (.string e0)).setCell ⟨p, 4, none⟩ (.string e0)).setCell ⟨p, 5, none⟩ (.string e0)).setCell ⟨p, 6, none⟩ (.int .i64 0)).setCell ⟨p, 7, none⟩ (.int .i64 0)) = W9 := ⟨_, rfl⟩
      have hS9 : S W9 := by rw [← hW9]; exact (HSI.out _).2 ⟨eightBelow hb3 hpw (.func (.func 53) #[] #[]) (.func (.func 54) #[] #[]) (.int .i64 0) (.string e0) (.string e0) (.string e0) (.int .i64 0) (.int .i64 0), eightOther hB3 hph (.func (.func 53) #[] #[]) (.func (.func 54) #[] #[]) (.int .i64 0) (.string e0) (.string e0) (.string e0) (.int .i64 0) (.int .i64 0)⟩
      have hP9 : BlkIs W9 p #[(.func (.func 53) #[] #[]), (.func (.func 54) #[] #[]), (.int .i64 0), (.string e0), (.string e0), (.string e0), (.int .i64 0), (.int .i64 0)] 74 := by rw [← hW9]; exact eightSet hP (.func (.func 53) #[] #[]) (.func (.func 54) #[] #[]) (.int .i64 0) (.string e0) (.string e0) (.string e0) (.int .i64 0) (.int .i64 0)
      have HW9 := Lib.hid hW9
      clear hW9 hb3 hB3 hP hS
      go_simp
      rw [HW9.out]
      refine hK _ _ hS9 ?_
      clear hK K x0 y0 x1 y1 x2 y2 x3 y3 x4 y4 x5 y5 x6 y6 x7 y7
      refine eachH_done (by kernel_rfl) ?_
      go_simp
      clear HW9
      obtain ⟨hb9, hB9⟩ := (HSI.out _).1 hS9
      have c0 := hB9.cell 0 _ rfl
      have c1 := hB9.cell 1 _ rfl
      have c2 := hB9.cell 2 _ rfl
      have c3 := hB9.cell 3 _ rfl
      have c4 := hB9.cell 4 _ rfl
      have c5 := hB9.cell 5 _ rfl
      have q0 := hP9.cell 0 _ rfl
      have q1 := hP9.cell 1 _ rfl
      have q2 := hP9.cell 2 _ rfl
      have q3 := hP9.cell 3 _ rfl
      have q4 := hP9.cell 4 _ rfl
      have q5 := hP9.cell 5 _ rfl
      have q6 := hP9.cell 6 _ rfl
      have q7 := hP9.cell 7 _ rfl
      have HB9 := Lib.hid hb9
      have HX9 := Lib.hid (And.intro hB9 hP9)
      clear hb9 hS9 hB9 hP9
      go_wp2_with fail
      refine (HUN.out _).mono ?_
      rintro e W5 ⟨rfl, hb5⟩
      have HB5 := Lib.hid (HB9.out.trans (hb5.mono HB9.out.size))
      have hB5 := HX9.out.1.later hb5
      have hP5 := HX9.out.2.later hb5
      clear hb5 c0 c1 c2 c3 c4 c5 q0 q1 q2 q3 q4 q5 q6 q7
      cases a with
      | false =>
        clear hB5 hP5
        go_wp2
        go_ret
        exact ⟨rfl, HB5.out⟩
      | true =>
        have c0 := hB5.cell 0 _ rfl
        have c1 := hB5.cell 1 _ rfl
        have c2 := hB5.cell 2 _ rfl
        have c3 := hB5.cell 3 _ rfl
        have c4 := hB5.cell 4 _ rfl
        have c5 := hB5.cell 5 _ rfl
        have q1 := hP5.cell 1 _ rfl
        clear hB5 hP5
        have HR5 := Lib.hid (HRT.out W5 HB5.out)
        go_wp2_with fail
        refine (HR5.out).mono ?_
        rintro e W6 ⟨rfl, hb6⟩
        have HB6 := Lib.hid (HB5.out.trans (hb6.mono HB5.out.size))
        clear hb6
        cases b
        all_goals
          go_wp2
          go_ret
          exact ⟨rfl, HB6.out⟩
  · intro K hK
    obtain ⟨p, hp⟩ : ∃ p, WD.heap.size = p := ⟨_, rfl⟩
    have hpw : w.heap.size ≤ p := by rw [← hp]; exact ((HSI.out _).1 hS).1.size
    have hph : h ≠ p := by have := ((HSI.out _).1 hS).2.lt; omega
    obtain ⟨W4, hW4⟩ : ∃ W4, WD.alloc (.cells zK 74) = W4 := ⟨_, rfl⟩
    have hab : Below WD.heap.size WD W4 := by rw [← hW4]; exact below1 _ _
    have hP : BlkIs W4 p zK 74 := by rw [← hW4, ← hp]; exact blkIs_new _ _ _
    have hS := HST.out _ _ hS hab
    try have hG := hG.later hab
    have HW4 := Lib.hid hW4
    clear hW4 hab
    go_simp
    rw [HW4.out]
    refine hK _ _ hS ?_
    clear hK K hp HW4
    refine eachH1 (i := 0) (by kernel_rfl) rfl ?_
    intro K hK
    go_simp
    refine (kinds_any _).mono ?_
    rintro e W3 ⟨rfl, hW3⟩
    obtain ⟨g, hg⟩ : ∃ g, W4.heap.size = g := ⟨_, rfl⟩
    try rw [hg]
    have hG : BlkIs W3 g kArr 74 := by rw [hW3, ← hg]; exact blkIs_new _ _ _
    have hcb : Below W4.heap.size W4 W3 := by rw [hW3]; exact below1 _ _
    have hS := HST.out _ _ hS hcb
    try have hP := hP.later hcb
    refine hK _ _ hS ?_
    clear hK K hW3 hcb
    refine eachH_take (i := 3) rfl (by kernel_rfl) (by kernel_rfl) (by kernel_rfl) hS (v := ?_) ?_ ?_; rotate_left; · (intro W hS; clear hS; go_simp; with_reducible rfl)
    refine eachH1 (i := 4) (by kernel_rfl) rfl ?_
    intro K hK
    have z0 : W3.cell? ⟨g, 32, none⟩ = some (.func (.func 53) #[] #[]) := hG.cell 32 _ rfl
    have z1 : W3.cell? ⟨g, 33, none⟩ = some (.func (.func 54) #[] #[]) := hG.cell 33 _ rfl
    have z2 : W3.cell? ⟨g, 34, none⟩ = some (.int .i64 0) := hG.cell 34 _ rfl
    have z3 : W3.cell? ⟨g, 35, none⟩ = some (.string e0) := hG.cell 35 _ rfl
    have z4 : W3.cell? ⟨g, 36, none⟩ = some (.string e0) := hG.cell 36 _ rfl
    have z5 : W3.cell? ⟨g, 37, none⟩ = some (.string e0) := hG.cell 37 _ rfl
    have z6 : W3.cell? ⟨g, 38, none⟩ = some (.int .i64 0) := hG.cell 38 _ rfl
    have z7 : W3.cell? ⟨g, 39, none⟩ = some (.int .i64 0) := hG.cell 39 _ rfl
    go_simp
    refine hK _ _ hS ?_
    clear hK K z0 z1 z2 z3 z4 z5 z6 z7
    refine eachH1 (i := 6) (by kernel_rfl) rfl ?_
    intro K hK
    obtain ⟨hb3, hB3⟩ := (HSI.out _).1 hS
    have y0 := hP.free 0
    have y1 := hP.free 1
    have y2 := hP.free 2
    have y3 := hP.free 3
    have y4 := hP.free 4
    have y5 := hP.free 5
    have y6 := hP.free 6
    have y7 := hP.free 7
    have x0 := hP.cell 0 _ rfl
    have x1 := hP.cell 1 _ rfl
    have x2 := hP.cell 2 _ rfl
    have x3 := hP.cell 3 _ rfl
    have x4 := hP.cell 4 _ rfl
    have x5 := hP.cell 5 _ rfl
    have x6 := hP.cell 6 _ rfl
    have x7 := hP.cell 7 _ rfl
    obtain ⟨W9, hW9⟩ : ∃ W9, ((((((((W3.setCell ⟨p, 0, none⟩ (.func (.func 53) #[] #[])).setCell ⟨p, 1, none⟩ (.func (.func 54) #[] #[])).setCell ⟨p, 2, none⟩ (.int .i64 0)).setCell ⟨p, 3, none⟩ (.string e0)).setCell ⟨p, 4, none⟩ (.string e0)).setCell ⟨p, 5, none⟩ (.string e0)).setCell ⟨p, 6, none⟩ (.int .i64 0)).setCell ⟨p, 7, none⟩ (.int .i64 0)) = W9 := ⟨_, rfl⟩
    have hS9 : S W9 := by rw [← hW9]; exact (HSI.out _).2 ⟨eightBelow hb3 hpw (.func (.func 53) #[] #[]) (.func (.func 54) #[] #[]) (.int .i64 0) (.string e0) (.string e0) (.string e0) (.int .i64 0) (.int .i64 0), eightOther hB3 hph (.func (.func 53) #[] #[]) (.func (.func 54) #[] #[]) (.int .i64 0) (.string e0) (.string e0) (.string e0) (.int .i64 0) (.int .i64 0)⟩
    have hP9 : BlkIs W9 p #[(.func (.func 53) #[] #[]), (.func (.func 54) #[] #[]), (.int .i64 0), (.string e0), (.string e0), (.string e0), (.int .i64 0), (.int .i64 0)] 74 := by rw [← hW9]; exact eightSet hP (.func (.func 53) #[] #[]) (.func (.func 54) #[] #[]) (.int .i64 0) (.string e0) (.string e0) (.string e0) (.int .i64 0) (.int .i64 0)
    have HW9 := Lib.hid hW9
    clear hW9 hb3 hB3 hP hS
    go_simp
    rw [HW9.out]
    refine hK _ _ hS9 ?_
    clear hK K x0 y0 x1 y1 x2 y2 x3 y3 x4 y4 x5 y5 x6 y6 x7 y7
    refine eachH_done (by kernel_rfl) ?_
    go_simp
    clear HW9
    obtain ⟨hb9, hB9⟩ := (HSI.out _).1 hS9
    have c0 := hB9.cell 0 _ rfl
    have c1 := hB9.cell 1 _ rfl
    have c2 := hB9.cell 2 _ rfl
    have c3 := hB9.cell 3 _ rfl
    have c4 := hB9.cell 4 _ rfl
    have c5 := hB9.cell 5 _ rfl
    have q0 := hP9.cell 0 _ rfl
    have q1 := hP9.cell 1 _ rfl
    have q2 := hP9.cell 2 _ rfl
    have q3 := hP9.cell 3 _ rfl
    have q4 := hP9.cell 4 _ rfl
    have q5 := hP9.cell 5 _ rfl
    have q6 := hP9.cell 6 _ rfl
    have q7 := hP9.cell 7 _ rfl
    have HB9 := Lib.hid hb9
    have HX9 := Lib.hid (And.intro hB9 hP9)
    clear hb9 hS9 hB9 hP9
    go_wp2_with fail
    refine (HUN.out _).mono ?_
    rintro e W5 ⟨rfl, hb5⟩
    have HB5 := Lib.hid (HB9.out.trans (hb5.mono HB9.out.size))
    have hB5 := HX9.out.1.later hb5
    have hP5 := HX9.out.2.later hb5
    clear hb5 c0 c1 c2 c3 c4 c5 q0 q1 q2 q3 q4 q5 q6 q7
    cases a with
    | false =>
      clear hB5 hP5
      go_wp2
      go_ret
      exact ⟨rfl, HB5.out⟩
    | true =>
      have c0 := hB5.cell 0 _ rfl
      have c1 := hB5.cell 1 _ rfl
      have c2 := hB5.cell 2 _ rfl
      have c3 := hB5.cell 3 _ rfl
      have c4 := hB5.cell 4 _ rfl
      have c5 := hB5.cell 5 _ rfl
      have q1 := hP5.cell 1 _ rfl
      clear hB5 hP5
      have HR5 := Lib.hid (HRT.out W5 HB5.out)
      go_wp2_with fail
      refine (HR5.out).mono ?_
      rintro e W6 ⟨rfl, hb6⟩
      have HB6 := Lib.hid (HB5.out.trans (hb6.mono HB5.out.size))
      clear hb6
      cases b
      all_goals
        go_wp2
        go_ret
        exact ⟨rfl, HB6.out⟩
set_option maxHeartbeats 16000000 in
theorem ocheck5_any (b : Bool) (s c : Int) (n t m : ByteArray) (w : World)
    (hR : ∀ W, Below w.heap.size w W → Calls Tryz.prog 54 #[.agg (hdC 5 n t m s c)] W fun e w' => e = .returned (.bool b) ∧ Below W.heap.size W w') :
    Calls Tryz.prog 9 #[.agg (hdC 5 n t m s c)] w fun e w' => e = .returned (.int .i64 (chkI (bareB (!decide (e0.toList = [])) (!decide (e0.toList = [])) (!decide (e0.toList = [])) (!decide ((0 : Int) = 0)) (!decide ((0 : Int) = 0)) (decide (n.toList = [])) (decide (t.toList = [])) (decide (m.toList = [])) (decide (s = 0)) (c == 0)) b)) ∧ Below w.heap.size w w' := by
  have hUN := fun W => ounused_any 5 s c 0 0 0 n t m e0 e0 e0 W
  obtain ⟨a, ha⟩ : ∃ a, bareB (!decide (e0.toList = [])) (!decide (e0.toList = [])) (!decide (e0.toList = [])) (!decide ((0 : Int) = 0)) (!decide ((0 : Int) = 0)) (decide (n.toList = [])) (decide (t.toList = [])) (decide (m.toList = [])) (decide (s = 0)) (c == 0) = a := ⟨_, rfl⟩
  rw [ha] at hUN ⊢
  clear ha
  have HUN := Lib.hid hUN
  have HRT := Lib.hid hR
  clear hUN hR
  obtain ⟨h, hh⟩ : ∃ h, w.heap.size = h := ⟨_, rfl⟩
  obtain ⟨W2, hW2⟩ : ∃ W2, w.alloc (.cells (hdC 5 n t m s c) 23) = W2 := ⟨_, rfl⟩
  have hb2 : Below w.heap.size w W2 := by rw [← hW2]; exact below1 _ _
  have hB2 : BlkIs W2 h (hdC 5 n t m s c) 23 := by rw [← hW2, ← hh]; exact blkIs_new _ _ _
  have HW2 := Lib.hid hW2
  obtain ⟨S, hSd⟩ : ∃ S : World → Prop, (fun W => Below w.heap.size w W ∧ BlkIs W h (hdC 5 n t m s c) 23) = S := ⟨_, rfl⟩
  have hSi : ∀ W, S W ↔ (Below w.heap.size w W ∧ BlkIs W h (hdC 5 n t m s c) 23) := fun W => by rw [← hSd]
  have hst : ∀ W W', S W → Below W.heap.size W W' → S W' := fun W W' h hb => by
    rw [hSi] at h ⊢
    exact ⟨h.1.trans (hb.mono h.1.size), h.2.later hb⟩
  have HS2 := Lib.hid (show S W2.drew by rw [hSi]; exact ⟨hb2.drew, hB2⟩)
  have HST := Lib.hid hst; have HSI := Lib.hid hSi
  have a0 := hB2.cell 0 _ rfl
  clear hSd hSi hst hW2 hb2 hB2
  go_enter Tryz.func9, Tryz.ntmps9
  go_upto_region 3 with fail
  rw [HW2.out]
  clear a0
  have hS := HS2.out
  refine wp_region_eachH S 7 (by kernel_rfl) (by kernel_rfl) ?_
  obtain ⟨WD, hWD⟩ : ∃ W, W2.drew = W := ⟨_, rfl⟩
  rw [hWD] at hS ⊢
  clear hWD
  refine eachH_take (i := 1) rfl (by kernel_rfl) (by kernel_rfl) (by kernel_rfl) hS (v := ?_) ?_ ?_; rotate_left; · (intro W hS; obtain ⟨_, s1⟩ := (HSI.out W).1 hS; have t0 : W.cell? ⟨h, 0, none⟩ = some (.int .i64 5) := s1.cell 0 _ rfl; clear s1 hS; go_simp; with_reducible rfl)
  refine eachH_take (i := 2) rfl (by kernel_rfl) (by kernel_rfl) (by kernel_rfl) hS (v := ?_) ?_ ?_; rotate_left; · (intro W hS; obtain ⟨_, s1⟩ := (HSI.out W).1 hS; have t0 : W.cell? ⟨h, 0, none⟩ = some (.int .i64 5) := s1.cell 0 _ rfl; clear s1 hS; go_simp; with_reducible rfl)
  refine eachH2 (i := 0) (j := 5) (by kernel_rfl) rfl rfl ?_ ?_
  · intro K hK
    go_simp
    refine (kinds_any _).mono ?_
    rintro e W3 ⟨rfl, hW3⟩
    obtain ⟨g, hg⟩ : ∃ g, WD.heap.size = g := ⟨_, rfl⟩
    try rw [hg]
    have hG : BlkIs W3 g kArr 74 := by rw [hW3, ← hg]; exact blkIs_new _ _ _
    have hcb : Below WD.heap.size WD W3 := by rw [hW3]; exact below1 _ _
    have hS := HST.out _ _ hS hcb
    try have hP := hP.later hcb
    refine hK _ _ hS ?_
    clear hK K hW3 hcb
    refine eachH_take (i := 3) rfl (by kernel_rfl) (by kernel_rfl) (by kernel_rfl) hS (v := ?_) ?_ ?_; rotate_left; · (intro W hS; clear hS; go_simp; with_reducible rfl)
    refine eachH2 (i := 4) (j := 5) (by kernel_rfl) rfl rfl ?_ ?_
    · intro K hK
      have z0 : W3.cell? ⟨g, 40, none⟩ = some (.func (.func 55) #[] #[]) := hG.cell 40 _ rfl
      have z1 : W3.cell? ⟨g, 41, none⟩ = some (.func (.func 54) #[] #[]) := hG.cell 41 _ rfl
      have z2 : W3.cell? ⟨g, 42, none⟩ = some (.int .i64 0) := hG.cell 42 _ rfl
      have z3 : W3.cell? ⟨g, 43, none⟩ = some (.string e0) := hG.cell 43 _ rfl
      have z4 : W3.cell? ⟨g, 44, none⟩ = some (.string e0) := hG.cell 44 _ rfl
      have z5 : W3.cell? ⟨g, 45, none⟩ = some (.string e0) := hG.cell 45 _ rfl
      have z6 : W3.cell? ⟨g, 46, none⟩ = some (.int .i64 0) := hG.cell 46 _ rfl
      have z7 : W3.cell? ⟨g, 47, none⟩ = some (.int .i64 0) := hG.cell 47 _ rfl
      go_simp
      refine hK _ _ hS ?_
      clear hK K z0 z1 z2 z3 z4 z5 z6 z7
      refine eachH1 (i := 5) (by kernel_rfl) rfl ?_
      intro K hK
      obtain ⟨p, hp⟩ : ∃ p, W3.heap.size = p := ⟨_, rfl⟩
      have hpw : w.heap.size ≤ p := by rw [← hp]; exact ((HSI.out _).1 hS).1.size
      have hph : h ≠ p := by have := ((HSI.out _).1 hS).2.lt; omega
      obtain ⟨W4, hW4⟩ : ∃ W4, W3.alloc (.cells zK 74) = W4 := ⟨_, rfl⟩
      have hab : Below W3.heap.size W3 W4 := by rw [← hW4]; exact below1 _ _
      have hP : BlkIs W4 p zK 74 := by rw [← hW4, ← hp]; exact blkIs_new _ _ _
      have hS := HST.out _ _ hS hab
      try have hG := hG.later hab
      have HW4 := Lib.hid hW4
      clear hW4 hab
      go_simp
      rw [HW4.out]
      refine hK _ _ hS ?_
      clear hK K hp HW4
      refine eachH1 (i := 6) (by kernel_rfl) rfl ?_
      intro K hK
      obtain ⟨hb3, hB3⟩ := (HSI.out _).1 hS
      have y0 := hP.free 0
      have y1 := hP.free 1
      have y2 := hP.free 2
      have y3 := hP.free 3
      have y4 := hP.free 4
      have y5 := hP.free 5
      have y6 := hP.free 6
      have y7 := hP.free 7
      have x0 := hP.cell 0 _ rfl
      have x1 := hP.cell 1 _ rfl
      have x2 := hP.cell 2 _ rfl
      have x3 := hP.cell 3 _ rfl
      have x4 := hP.cell 4 _ rfl
      have x5 := hP.cell 5 _ rfl
      have x6 := hP.cell 6 _ rfl
      have x7 := hP.cell 7 _ rfl
      obtain ⟨W9, hW9⟩ : ∃ W9, ((((((((W4.setCell ⟨p, 0, none⟩ (.func (.func 55) #[] #[])).setCell ⟨p, 1, none⟩ (.func (.func 54) #[] #[])).setCell ⟨p, 2, none⟩ (.int .i64 0)).setCell ⟨p, 3, none⟩ (.string e0)).setCell ⟨p, 4, none⟩ (.string e0)).setCell ⟨p, 5, none⟩ (.string e0)).setCell ⟨p, 6, none⟩ (.int .i64 0)).setCell ⟨p, 7, none⟩ (.int .i64 0)) = W9 := ⟨_, rfl⟩
      have hS9 : S W9 := by rw [← hW9]; exact (HSI.out _).2 ⟨eightBelow hb3 hpw (.func (.func 55) #[] #[]) (.func (.func 54) #[] #[]) (.int .i64 0) (.string e0) (.string e0) (.string e0) (.int .i64 0) (.int .i64 0), eightOther hB3 hph (.func (.func 55) #[] #[]) (.func (.func 54) #[] #[]) (.int .i64 0) (.string e0) (.string e0) (.string e0) (.int .i64 0) (.int .i64 0)⟩
      have hP9 : BlkIs W9 p #[(.func (.func 55) #[] #[]), (.func (.func 54) #[] #[]), (.int .i64 0), (.string e0), (.string e0), (.string e0), (.int .i64 0), (.int .i64 0)] 74 := by rw [← hW9]; exact eightSet hP (.func (.func 55) #[] #[]) (.func (.func 54) #[] #[]) (.int .i64 0) (.string e0) (.string e0) (.string e0) (.int .i64 0) (.int .i64 0)
      have HW9 := Lib.hid hW9
      clear hW9 hb3 hB3 hP hS
      go_simp
      rw [HW9.out]
      refine hK _ _ hS9 ?_
      clear hK K x0 y0 x1 y1 x2 y2 x3 y3 x4 y4 x5 y5 x6 y6 x7 y7
      refine eachH_done (by kernel_rfl) ?_
      go_simp
      clear HW9
      obtain ⟨hb9, hB9⟩ := (HSI.out _).1 hS9
      have c0 := hB9.cell 0 _ rfl
      have c1 := hB9.cell 1 _ rfl
      have c2 := hB9.cell 2 _ rfl
      have c3 := hB9.cell 3 _ rfl
      have c4 := hB9.cell 4 _ rfl
      have c5 := hB9.cell 5 _ rfl
      have q0 := hP9.cell 0 _ rfl
      have q1 := hP9.cell 1 _ rfl
      have q2 := hP9.cell 2 _ rfl
      have q3 := hP9.cell 3 _ rfl
      have q4 := hP9.cell 4 _ rfl
      have q5 := hP9.cell 5 _ rfl
      have q6 := hP9.cell 6 _ rfl
      have q7 := hP9.cell 7 _ rfl
      have HB9 := Lib.hid hb9
      have HX9 := Lib.hid (And.intro hB9 hP9)
      clear hb9 hS9 hB9 hP9
      go_wp2_with fail
      refine (HUN.out _).mono ?_
      rintro e W5 ⟨rfl, hb5⟩
      have HB5 := Lib.hid (HB9.out.trans (hb5.mono HB9.out.size))
      have hB5 := HX9.out.1.later hb5
      have hP5 := HX9.out.2.later hb5
      clear hb5 c0 c1 c2 c3 c4 c5 q0 q1 q2 q3 q4 q5 q6 q7
      cases a with
      | false =>
        clear hB5 hP5
        go_wp2
        go_ret
        exact ⟨rfl, HB5.out⟩
      | true =>
        have c0 := hB5.cell 0 _ rfl
        have c1 := hB5.cell 1 _ rfl
        have c2 := hB5.cell 2 _ rfl
        have c3 := hB5.cell 3 _ rfl
        have c4 := hB5.cell 4 _ rfl
        have c5 := hB5.cell 5 _ rfl
        have q1 := hP5.cell 1 _ rfl
        clear hB5 hP5
        have HR5 := Lib.hid (HRT.out W5 HB5.out)
        go_wp2_with fail
        refine (HR5.out).mono ?_
        rintro e W6 ⟨rfl, hb6⟩
        have HB6 := Lib.hid (HB5.out.trans (hb6.mono HB5.out.size))
        clear hb6
        cases b
        all_goals
          go_wp2
          go_ret
          exact ⟨rfl, HB6.out⟩
    · intro K hK
      obtain ⟨p, hp⟩ : ∃ p, W3.heap.size = p := ⟨_, rfl⟩
      have hpw : w.heap.size ≤ p := by rw [← hp]; exact ((HSI.out _).1 hS).1.size
      have hph : h ≠ p := by have := ((HSI.out _).1 hS).2.lt; omega
      obtain ⟨W4, hW4⟩ : ∃ W4, W3.alloc (.cells zK 74) = W4 := ⟨_, rfl⟩
      have hab : Below W3.heap.size W3 W4 := by rw [← hW4]; exact below1 _ _
      have hP : BlkIs W4 p zK 74 := by rw [← hW4, ← hp]; exact blkIs_new _ _ _
      have hS := HST.out _ _ hS hab
      try have hG := hG.later hab
      have HW4 := Lib.hid hW4
      clear hW4 hab
      go_simp
      rw [HW4.out]
      refine hK _ _ hS ?_
      clear hK K hp HW4
      refine eachH1 (i := 4) (by kernel_rfl) rfl ?_
      intro K hK
      have z0 : W4.cell? ⟨g, 40, none⟩ = some (.func (.func 55) #[] #[]) := hG.cell 40 _ rfl
      have z1 : W4.cell? ⟨g, 41, none⟩ = some (.func (.func 54) #[] #[]) := hG.cell 41 _ rfl
      have z2 : W4.cell? ⟨g, 42, none⟩ = some (.int .i64 0) := hG.cell 42 _ rfl
      have z3 : W4.cell? ⟨g, 43, none⟩ = some (.string e0) := hG.cell 43 _ rfl
      have z4 : W4.cell? ⟨g, 44, none⟩ = some (.string e0) := hG.cell 44 _ rfl
      have z5 : W4.cell? ⟨g, 45, none⟩ = some (.string e0) := hG.cell 45 _ rfl
      have z6 : W4.cell? ⟨g, 46, none⟩ = some (.int .i64 0) := hG.cell 46 _ rfl
      have z7 : W4.cell? ⟨g, 47, none⟩ = some (.int .i64 0) := hG.cell 47 _ rfl
      go_simp
      refine hK _ _ hS ?_
      clear hK K z0 z1 z2 z3 z4 z5 z6 z7
      refine eachH1 (i := 6) (by kernel_rfl) rfl ?_
      intro K hK
      obtain ⟨hb3, hB3⟩ := (HSI.out _).1 hS
      have y0 := hP.free 0
      have y1 := hP.free 1
      have y2 := hP.free 2
      have y3 := hP.free 3
      have y4 := hP.free 4
      have y5 := hP.free 5
      have y6 := hP.free 6
      have y7 := hP.free 7
      have x0 := hP.cell 0 _ rfl
      have x1 := hP.cell 1 _ rfl
      have x2 := hP.cell 2 _ rfl
      have x3 := hP.cell 3 _ rfl
      have x4 := hP.cell 4 _ rfl
      have x5 := hP.cell 5 _ rfl
      have x6 := hP.cell 6 _ rfl
      have x7 := hP.cell 7 _ rfl
      obtain ⟨W9, hW9⟩ : ∃ W9, ((((((((W4.setCell ⟨p, 0, none⟩ (.func (.func 55) #[] #[])).setCell ⟨p, 1, none⟩ (.func (.func 54) #[] #[])).setCell ⟨p, 2, none⟩ (.int .i64 0)).setCell ⟨p, 3, none⟩ (.string e0)).setCell ⟨p, 4, none⟩ (.string e0)).setCell ⟨p, 5, none⟩ (.string e0)).setCell ⟨p, 6, none⟩ (.int .i64 0)).setCell ⟨p, 7, none⟩ (.int .i64 0)) = W9 := ⟨_, rfl⟩
      have hS9 : S W9 := by rw [← hW9]; exact (HSI.out _).2 ⟨eightBelow hb3 hpw (.func (.func 55) #[] #[]) (.func (.func 54) #[] #[]) (.int .i64 0) (.string e0) (.string e0) (.string e0) (.int .i64 0) (.int .i64 0), eightOther hB3 hph (.func (.func 55) #[] #[]) (.func (.func 54) #[] #[]) (.int .i64 0) (.string e0) (.string e0) (.string e0) (.int .i64 0) (.int .i64 0)⟩
      have hP9 : BlkIs W9 p #[(.func (.func 55) #[] #[]), (.func (.func 54) #[] #[]), (.int .i64 0), (.string e0), (.string e0), (.string e0), (.int .i64 0), (.int .i64 0)] 74 := by rw [← hW9]; exact eightSet hP (.func (.func 55) #[] #[]) (.func (.func 54) #[] #[]) (.int .i64 0) (.string e0) (.string e0) (.string e0) (.int .i64 0) (.int .i64 0)
      have HW9 := Lib.hid hW9
      clear hW9 hb3 hB3 hP hS
      go_simp
      rw [HW9.out]
      refine hK _ _ hS9 ?_
      clear hK K x0 y0 x1 y1 x2 y2 x3 y3 x4 y4 x5 y5 x6 y6 x7 y7
      refine eachH_done (by kernel_rfl) ?_
      go_simp
      clear HW9
      obtain ⟨hb9, hB9⟩ := (HSI.out _).1 hS9
      have c0 := hB9.cell 0 _ rfl
      have c1 := hB9.cell 1 _ rfl
      have c2 := hB9.cell 2 _ rfl
      have c3 := hB9.cell 3 _ rfl
      have c4 := hB9.cell 4 _ rfl
      have c5 := hB9.cell 5 _ rfl
      have q0 := hP9.cell 0 _ rfl
      have q1 := hP9.cell 1 _ rfl
      have q2 := hP9.cell 2 _ rfl
      have q3 := hP9.cell 3 _ rfl
      have q4 := hP9.cell 4 _ rfl
      have q5 := hP9.cell 5 _ rfl
      have q6 := hP9.cell 6 _ rfl
      have q7 := hP9.cell 7 _ rfl
      have HB9 := Lib.hid hb9
      have HX9 := Lib.hid (And.intro hB9 hP9)
      clear hb9 hS9 hB9 hP9
      go_wp2_with fail
      refine (HUN.out _).mono ?_
      rintro e W5 ⟨rfl, hb5⟩
      have HB5 := Lib.hid (HB9.out.trans (hb5.mono HB9.out.size))
      have hB5 := HX9.out.1.later hb5
      have hP5 := HX9.out.2.later hb5
      clear hb5 c0 c1 c2 c3 c4 c5 q0 q1 q2 q3 q4 q5 q6 q7
      cases a with
      | false =>
        clear hB5 hP5
        go_wp2
        go_ret
        exact ⟨rfl, HB5.out⟩
      | true =>
        have c0 := hB5.cell 0 _ rfl
        have c1 := hB5.cell 1 _ rfl
        have c2 := hB5.cell 2 _ rfl
        have c3 := hB5.cell 3 _ rfl
        have c4 := hB5.cell 4 _ rfl
        have c5 := hB5.cell 5 _ rfl
        have q1 := hP5.cell 1 _ rfl
        clear hB5 hP5
        have HR5 := Lib.hid (HRT.out W5 HB5.out)
        go_wp2_with fail
        refine (HR5.out).mono ?_
        rintro e W6 ⟨rfl, hb6⟩
        have HB6 := Lib.hid (HB5.out.trans (hb6.mono HB5.out.size))
        clear hb6
        cases b
        all_goals
          go_wp2
          go_ret
          exact ⟨rfl, HB6.out⟩
  · intro K hK
    obtain ⟨p, hp⟩ : ∃ p, WD.heap.size = p := ⟨_, rfl⟩
    have hpw : w.heap.size ≤ p := by rw [← hp]; exact ((HSI.out _).1 hS).1.size
    have hph : h ≠ p := by have := ((HSI.out _).1 hS).2.lt; omega
    obtain ⟨W4, hW4⟩ : ∃ W4, WD.alloc (.cells zK 74) = W4 := ⟨_, rfl⟩
    have hab : Below WD.heap.size WD W4 := by rw [← hW4]; exact below1 _ _
    have hP : BlkIs W4 p zK 74 := by rw [← hW4, ← hp]; exact blkIs_new _ _ _
    have hS := HST.out _ _ hS hab
    try have hG := hG.later hab
    have HW4 := Lib.hid hW4
    clear hW4 hab
    go_simp
    rw [HW4.out]
    refine hK _ _ hS ?_
    clear hK K hp HW4
    refine eachH1 (i := 0) (by kernel_rfl) rfl ?_
    intro K hK
    go_simp
    refine (kinds_any _).mono ?_
    rintro e W3 ⟨rfl, hW3⟩
    obtain ⟨g, hg⟩ : ∃ g, W4.heap.size = g := ⟨_, rfl⟩
    try rw [hg]
    have hG : BlkIs W3 g kArr 74 := by rw [hW3, ← hg]; exact blkIs_new _ _ _
    have hcb : Below W4.heap.size W4 W3 := by rw [hW3]; exact below1 _ _
    have hS := HST.out _ _ hS hcb
    try have hP := hP.later hcb
    refine hK _ _ hS ?_
    clear hK K hW3 hcb
    refine eachH_take (i := 3) rfl (by kernel_rfl) (by kernel_rfl) (by kernel_rfl) hS (v := ?_) ?_ ?_; rotate_left; · (intro W hS; clear hS; go_simp; with_reducible rfl)
    refine eachH1 (i := 4) (by kernel_rfl) rfl ?_
    intro K hK
    have z0 : W3.cell? ⟨g, 40, none⟩ = some (.func (.func 55) #[] #[]) := hG.cell 40 _ rfl
    have z1 : W3.cell? ⟨g, 41, none⟩ = some (.func (.func 54) #[] #[]) := hG.cell 41 _ rfl
    have z2 : W3.cell? ⟨g, 42, none⟩ = some (.int .i64 0) := hG.cell 42 _ rfl
    have z3 : W3.cell? ⟨g, 43, none⟩ = some (.string e0) := hG.cell 43 _ rfl
    have z4 : W3.cell? ⟨g, 44, none⟩ = some (.string e0) := hG.cell 44 _ rfl
    have z5 : W3.cell? ⟨g, 45, none⟩ = some (.string e0) := hG.cell 45 _ rfl
    have z6 : W3.cell? ⟨g, 46, none⟩ = some (.int .i64 0) := hG.cell 46 _ rfl
    have z7 : W3.cell? ⟨g, 47, none⟩ = some (.int .i64 0) := hG.cell 47 _ rfl
    go_simp
    refine hK _ _ hS ?_
    clear hK K z0 z1 z2 z3 z4 z5 z6 z7
    refine eachH1 (i := 6) (by kernel_rfl) rfl ?_
    intro K hK
    obtain ⟨hb3, hB3⟩ := (HSI.out _).1 hS
    have y0 := hP.free 0
    have y1 := hP.free 1
    have y2 := hP.free 2
    have y3 := hP.free 3
    have y4 := hP.free 4
    have y5 := hP.free 5
    have y6 := hP.free 6
    have y7 := hP.free 7
    have x0 := hP.cell 0 _ rfl
    have x1 := hP.cell 1 _ rfl
    have x2 := hP.cell 2 _ rfl
    have x3 := hP.cell 3 _ rfl
    have x4 := hP.cell 4 _ rfl
    have x5 := hP.cell 5 _ rfl
    have x6 := hP.cell 6 _ rfl
    have x7 := hP.cell 7 _ rfl
    obtain ⟨W9, hW9⟩ : ∃ W9, ((((((((W3.setCell ⟨p, 0, none⟩ (.func (.func 55) #[] #[])).setCell ⟨p, 1, none⟩ (.func (.func 54) #[] #[])).setCell ⟨p, 2, none⟩ (.int .i64 0)).setCell ⟨p, 3, none⟩ (.string e0)).setCell ⟨p, 4, none⟩ (.string e0)).setCell ⟨p, 5, none⟩ (.string e0)).setCell ⟨p, 6, none⟩ (.int .i64 0)).setCell ⟨p, 7, none⟩ (.int .i64 0)) = W9 := ⟨_, rfl⟩
    have hS9 : S W9 := by rw [← hW9]; exact (HSI.out _).2 ⟨eightBelow hb3 hpw (.func (.func 55) #[] #[]) (.func (.func 54) #[] #[]) (.int .i64 0) (.string e0) (.string e0) (.string e0) (.int .i64 0) (.int .i64 0), eightOther hB3 hph (.func (.func 55) #[] #[]) (.func (.func 54) #[] #[]) (.int .i64 0) (.string e0) (.string e0) (.string e0) (.int .i64 0) (.int .i64 0)⟩
    have hP9 : BlkIs W9 p #[(.func (.func 55) #[] #[]), (.func (.func 54) #[] #[]), (.int .i64 0), (.string e0), (.string e0), (.string e0), (.int .i64 0), (.int .i64 0)] 74 := by rw [← hW9]; exact eightSet hP (.func (.func 55) #[] #[]) (.func (.func 54) #[] #[]) (.int .i64 0) (.string e0) (.string e0) (.string e0) (.int .i64 0) (.int .i64 0)
    have HW9 := Lib.hid hW9
    clear hW9 hb3 hB3 hP hS
    go_simp
    rw [HW9.out]
    refine hK _ _ hS9 ?_
    clear hK K x0 y0 x1 y1 x2 y2 x3 y3 x4 y4 x5 y5 x6 y6 x7 y7
    refine eachH_done (by kernel_rfl) ?_
    go_simp
    clear HW9
    obtain ⟨hb9, hB9⟩ := (HSI.out _).1 hS9
    have c0 := hB9.cell 0 _ rfl
    have c1 := hB9.cell 1 _ rfl
    have c2 := hB9.cell 2 _ rfl
    have c3 := hB9.cell 3 _ rfl
    have c4 := hB9.cell 4 _ rfl
    have c5 := hB9.cell 5 _ rfl
    have q0 := hP9.cell 0 _ rfl
    have q1 := hP9.cell 1 _ rfl
    have q2 := hP9.cell 2 _ rfl
    have q3 := hP9.cell 3 _ rfl
    have q4 := hP9.cell 4 _ rfl
    have q5 := hP9.cell 5 _ rfl
    have q6 := hP9.cell 6 _ rfl
    have q7 := hP9.cell 7 _ rfl
    have HB9 := Lib.hid hb9
    have HX9 := Lib.hid (And.intro hB9 hP9)
    clear hb9 hS9 hB9 hP9
    go_wp2_with fail
    refine (HUN.out _).mono ?_
    rintro e W5 ⟨rfl, hb5⟩
    have HB5 := Lib.hid (HB9.out.trans (hb5.mono HB9.out.size))
    have hB5 := HX9.out.1.later hb5
    have hP5 := HX9.out.2.later hb5
    clear hb5 c0 c1 c2 c3 c4 c5 q0 q1 q2 q3 q4 q5 q6 q7
    cases a with
    | false =>
      clear hB5 hP5
      go_wp2
      go_ret
      exact ⟨rfl, HB5.out⟩
    | true =>
      have c0 := hB5.cell 0 _ rfl
      have c1 := hB5.cell 1 _ rfl
      have c2 := hB5.cell 2 _ rfl
      have c3 := hB5.cell 3 _ rfl
      have c4 := hB5.cell 4 _ rfl
      have c5 := hB5.cell 5 _ rfl
      have q1 := hP5.cell 1 _ rfl
      clear hB5 hP5
      have HR5 := Lib.hid (HRT.out W5 HB5.out)
      go_wp2_with fail
      refine (HR5.out).mono ?_
      rintro e W6 ⟨rfl, hb6⟩
      have HB6 := Lib.hid (HB5.out.trans (hb6.mono HB5.out.size))
      clear hb6
      cases b
      all_goals
        go_wp2
        go_ret
        exact ⟨rfl, HB6.out⟩
set_option maxHeartbeats 16000000 in
theorem ocheck6_any (b : Bool) (s c : Int) (n t m : ByteArray) (w : World)
    (hR : ∀ W, Below w.heap.size w W → Calls Tryz.prog 57 #[.agg (hdC 6 n t m s c)] W fun e w' => e = .returned (.bool b) ∧ Below W.heap.size W w') :
    Calls Tryz.prog 9 #[.agg (hdC 6 n t m s c)] w fun e w' => e = .returned (.int .i64 (chkI (bareB (!decide (eX.toList = [])) (!decide (e0.toList = [])) (!decide (e0.toList = [])) (!decide ((0 : Int) = 0)) (!decide ((1 : Int) = 0)) (decide (n.toList = [])) (decide (t.toList = [])) (decide (m.toList = [])) (decide (s = 0)) (c == 0)) b)) ∧ Below w.heap.size w w' := by
  have hUN := fun W => ounused_any 6 s c 0 0 1 n t m eX e0 e0 W
  obtain ⟨a, ha⟩ : ∃ a, bareB (!decide (eX.toList = [])) (!decide (e0.toList = [])) (!decide (e0.toList = [])) (!decide ((0 : Int) = 0)) (!decide ((1 : Int) = 0)) (decide (n.toList = [])) (decide (t.toList = [])) (decide (m.toList = [])) (decide (s = 0)) (c == 0) = a := ⟨_, rfl⟩
  rw [ha] at hUN ⊢
  clear ha
  have HUN := Lib.hid hUN
  have HRT := Lib.hid hR
  clear hUN hR
  obtain ⟨h, hh⟩ : ∃ h, w.heap.size = h := ⟨_, rfl⟩
  obtain ⟨W2, hW2⟩ : ∃ W2, w.alloc (.cells (hdC 6 n t m s c) 23) = W2 := ⟨_, rfl⟩
  have hb2 : Below w.heap.size w W2 := by rw [← hW2]; exact below1 _ _
  have hB2 : BlkIs W2 h (hdC 6 n t m s c) 23 := by rw [← hW2, ← hh]; exact blkIs_new _ _ _
  have HW2 := Lib.hid hW2
  obtain ⟨S, hSd⟩ : ∃ S : World → Prop, (fun W => Below w.heap.size w W ∧ BlkIs W h (hdC 6 n t m s c) 23) = S := ⟨_, rfl⟩
  have hSi : ∀ W, S W ↔ (Below w.heap.size w W ∧ BlkIs W h (hdC 6 n t m s c) 23) := fun W => by rw [← hSd]
  have hst : ∀ W W', S W → Below W.heap.size W W' → S W' := fun W W' h hb => by
    rw [hSi] at h ⊢
    exact ⟨h.1.trans (hb.mono h.1.size), h.2.later hb⟩
  have HS2 := Lib.hid (show S W2.drew by rw [hSi]; exact ⟨hb2.drew, hB2⟩)
  have HST := Lib.hid hst; have HSI := Lib.hid hSi
  have a0 := hB2.cell 0 _ rfl
  clear hSd hSi hst hW2 hb2 hB2
  go_enter Tryz.func9, Tryz.ntmps9
  go_upto_region 3 with fail
  rw [HW2.out]
  clear a0
  have hS := HS2.out
  refine wp_region_eachH S 7 (by kernel_rfl) (by kernel_rfl) ?_
  obtain ⟨WD, hWD⟩ : ∃ W, W2.drew = W := ⟨_, rfl⟩
  rw [hWD] at hS ⊢
  clear hWD
  refine eachH_take (i := 1) rfl (by kernel_rfl) (by kernel_rfl) (by kernel_rfl) hS (v := ?_) ?_ ?_; rotate_left; · (intro W hS; obtain ⟨_, s1⟩ := (HSI.out W).1 hS; have t0 : W.cell? ⟨h, 0, none⟩ = some (.int .i64 6) := s1.cell 0 _ rfl; clear s1 hS; go_simp; with_reducible rfl)
  refine eachH_take (i := 2) rfl (by kernel_rfl) (by kernel_rfl) (by kernel_rfl) hS (v := ?_) ?_ ?_; rotate_left; · (intro W hS; obtain ⟨_, s1⟩ := (HSI.out W).1 hS; have t0 : W.cell? ⟨h, 0, none⟩ = some (.int .i64 6) := s1.cell 0 _ rfl; clear s1 hS; go_simp; with_reducible rfl)
  refine eachH2 (i := 0) (j := 5) (by kernel_rfl) rfl rfl ?_ ?_
  · intro K hK
    go_simp
    refine (kinds_any _).mono ?_
    rintro e W3 ⟨rfl, hW3⟩
    obtain ⟨g, hg⟩ : ∃ g, WD.heap.size = g := ⟨_, rfl⟩
    try rw [hg]
    have hG : BlkIs W3 g kArr 74 := by rw [hW3, ← hg]; exact blkIs_new _ _ _
    have hcb : Below WD.heap.size WD W3 := by rw [hW3]; exact below1 _ _
    have hS := HST.out _ _ hS hcb
    try have hP := hP.later hcb
    refine hK _ _ hS ?_
    clear hK K hW3 hcb
    refine eachH_take (i := 3) rfl (by kernel_rfl) (by kernel_rfl) (by kernel_rfl) hS (v := ?_) ?_ ?_; rotate_left; · (intro W hS; clear hS; go_simp; with_reducible rfl)
    refine eachH2 (i := 4) (j := 5) (by kernel_rfl) rfl rfl ?_ ?_
    · intro K hK
      have z0 : W3.cell? ⟨g, 48, none⟩ = some (.func (.func 56) #[] #[]) := hG.cell 48 _ rfl
      have z1 : W3.cell? ⟨g, 49, none⟩ = some (.func (.func 57) #[] #[]) := hG.cell 49 _ rfl
      have z2 : W3.cell? ⟨g, 50, none⟩ = some (.int .i64 0) := hG.cell 50 _ rfl
      have z3 : W3.cell? ⟨g, 51, none⟩ = some (.string eX) := hG.cell 51 _ rfl
      have z4 : W3.cell? ⟨g, 52, none⟩ = some (.string e0) := hG.cell 52 _ rfl
      have z5 : W3.cell? ⟨g, 53, none⟩ = some (.string e0) := hG.cell 53 _ rfl
      have z6 : W3.cell? ⟨g, 54, none⟩ = some (.int .i64 0) := hG.cell 54 _ rfl
      have z7 : W3.cell? ⟨g, 55, none⟩ = some (.int .i64 1) := hG.cell 55 _ rfl
      go_simp
      refine hK _ _ hS ?_
      clear hK K z0 z1 z2 z3 z4 z5 z6 z7
      refine eachH1 (i := 5) (by kernel_rfl) rfl ?_
      intro K hK
      obtain ⟨p, hp⟩ : ∃ p, W3.heap.size = p := ⟨_, rfl⟩
      have hpw : w.heap.size ≤ p := by rw [← hp]; exact ((HSI.out _).1 hS).1.size
      have hph : h ≠ p := by have := ((HSI.out _).1 hS).2.lt; omega
      obtain ⟨W4, hW4⟩ : ∃ W4, W3.alloc (.cells zK 74) = W4 := ⟨_, rfl⟩
      have hab : Below W3.heap.size W3 W4 := by rw [← hW4]; exact below1 _ _
      have hP : BlkIs W4 p zK 74 := by rw [← hW4, ← hp]; exact blkIs_new _ _ _
      have hS := HST.out _ _ hS hab
      try have hG := hG.later hab
      have HW4 := Lib.hid hW4
      clear hW4 hab
      go_simp
      rw [HW4.out]
      refine hK _ _ hS ?_
      clear hK K hp HW4
      refine eachH1 (i := 6) (by kernel_rfl) rfl ?_
      intro K hK
      obtain ⟨hb3, hB3⟩ := (HSI.out _).1 hS
      have y0 := hP.free 0
      have y1 := hP.free 1
      have y2 := hP.free 2
      have y3 := hP.free 3
      have y4 := hP.free 4
      have y5 := hP.free 5
      have y6 := hP.free 6
      have y7 := hP.free 7
      have x0 := hP.cell 0 _ rfl
      have x1 := hP.cell 1 _ rfl
      have x2 := hP.cell 2 _ rfl
      have x3 := hP.cell 3 _ rfl
      have x4 := hP.cell 4 _ rfl
      have x5 := hP.cell 5 _ rfl
      have x6 := hP.cell 6 _ rfl
      have x7 := hP.cell 7 _ rfl
      obtain ⟨W9, hW9⟩ : ∃ W9, ((((((((W4.setCell ⟨p, 0, none⟩ (.func (.func 56) #[] #[])).setCell ⟨p, 1, none⟩ (.func (.func 57) #[] #[])).setCell ⟨p, 2, none⟩ (.int .i64 0)).setCell ⟨p, 3, none⟩ (.string eX)).setCell ⟨p, 4, none⟩ (.string e0)).setCell ⟨p, 5, none⟩ (.string e0)).setCell ⟨p, 6, none⟩ (.int .i64 0)).setCell ⟨p, 7, none⟩ (.int .i64 1)) = W9 := ⟨_, rfl⟩
      have hS9 : S W9 := by rw [← hW9]; exact (HSI.out _).2 ⟨eightBelow hb3 hpw (.func (.func 56) #[] #[]) (.func (.func 57) #[] #[]) (.int .i64 0) (.string eX) (.string e0) (.string e0) (.int .i64 0) (.int .i64 1), eightOther hB3 hph (.func (.func 56) #[] #[]) (.func (.func 57) #[] #[]) (.int .i64 0) (.string eX) (.string e0) (.string e0) (.int .i64 0) (.int .i64 1)⟩
      have hP9 : BlkIs W9 p #[(.func (.func 56) #[] #[]), (.func (.func 57) #[] #[]), (.int .i64 0), (.string eX), (.string e0), (.string e0), (.int .i64 0), (.int .i64 1)] 74 := by rw [← hW9]; exact eightSet hP (.func (.func 56) #[] #[]) (.func (.func 57) #[] #[]) (.int .i64 0) (.string eX) (.string e0) (.string e0) (.int .i64 0) (.int .i64 1)
      have HW9 := Lib.hid hW9
      clear hW9 hb3 hB3 hP hS
      go_simp
      rw [HW9.out]
      refine hK _ _ hS9 ?_
      clear hK K x0 y0 x1 y1 x2 y2 x3 y3 x4 y4 x5 y5 x6 y6 x7 y7
      refine eachH_done (by kernel_rfl) ?_
      go_simp
      clear HW9
      obtain ⟨hb9, hB9⟩ := (HSI.out _).1 hS9
      have c0 := hB9.cell 0 _ rfl
      have c1 := hB9.cell 1 _ rfl
      have c2 := hB9.cell 2 _ rfl
      have c3 := hB9.cell 3 _ rfl
      have c4 := hB9.cell 4 _ rfl
      have c5 := hB9.cell 5 _ rfl
      have q0 := hP9.cell 0 _ rfl
      have q1 := hP9.cell 1 _ rfl
      have q2 := hP9.cell 2 _ rfl
      have q3 := hP9.cell 3 _ rfl
      have q4 := hP9.cell 4 _ rfl
      have q5 := hP9.cell 5 _ rfl
      have q6 := hP9.cell 6 _ rfl
      have q7 := hP9.cell 7 _ rfl
      have HB9 := Lib.hid hb9
      have HX9 := Lib.hid (And.intro hB9 hP9)
      clear hb9 hS9 hB9 hP9
      go_wp2_with fail
      refine (HUN.out _).mono ?_
      rintro e W5 ⟨rfl, hb5⟩
      have HB5 := Lib.hid (HB9.out.trans (hb5.mono HB9.out.size))
      have hB5 := HX9.out.1.later hb5
      have hP5 := HX9.out.2.later hb5
      clear hb5 c0 c1 c2 c3 c4 c5 q0 q1 q2 q3 q4 q5 q6 q7
      cases a with
      | false =>
        clear hB5 hP5
        go_wp2
        go_ret
        exact ⟨rfl, HB5.out⟩
      | true =>
        have c0 := hB5.cell 0 _ rfl
        have c1 := hB5.cell 1 _ rfl
        have c2 := hB5.cell 2 _ rfl
        have c3 := hB5.cell 3 _ rfl
        have c4 := hB5.cell 4 _ rfl
        have c5 := hB5.cell 5 _ rfl
        have q1 := hP5.cell 1 _ rfl
        clear hB5 hP5
        have HR5 := Lib.hid (HRT.out W5 HB5.out)
        go_wp2_with fail
        refine (HR5.out).mono ?_
        rintro e W6 ⟨rfl, hb6⟩
        have HB6 := Lib.hid (HB5.out.trans (hb6.mono HB5.out.size))
        clear hb6
        cases b
        all_goals
          go_wp2
          go_ret
          exact ⟨rfl, HB6.out⟩
    · intro K hK
      obtain ⟨p, hp⟩ : ∃ p, W3.heap.size = p := ⟨_, rfl⟩
      have hpw : w.heap.size ≤ p := by rw [← hp]; exact ((HSI.out _).1 hS).1.size
      have hph : h ≠ p := by have := ((HSI.out _).1 hS).2.lt; omega
      obtain ⟨W4, hW4⟩ : ∃ W4, W3.alloc (.cells zK 74) = W4 := ⟨_, rfl⟩
      have hab : Below W3.heap.size W3 W4 := by rw [← hW4]; exact below1 _ _
      have hP : BlkIs W4 p zK 74 := by rw [← hW4, ← hp]; exact blkIs_new _ _ _
      have hS := HST.out _ _ hS hab
      try have hG := hG.later hab
      have HW4 := Lib.hid hW4
      clear hW4 hab
      go_simp
      rw [HW4.out]
      refine hK _ _ hS ?_
      clear hK K hp HW4
      refine eachH1 (i := 4) (by kernel_rfl) rfl ?_
      intro K hK
      have z0 : W4.cell? ⟨g, 48, none⟩ = some (.func (.func 56) #[] #[]) := hG.cell 48 _ rfl
      have z1 : W4.cell? ⟨g, 49, none⟩ = some (.func (.func 57) #[] #[]) := hG.cell 49 _ rfl
      have z2 : W4.cell? ⟨g, 50, none⟩ = some (.int .i64 0) := hG.cell 50 _ rfl
      have z3 : W4.cell? ⟨g, 51, none⟩ = some (.string eX) := hG.cell 51 _ rfl
      have z4 : W4.cell? ⟨g, 52, none⟩ = some (.string e0) := hG.cell 52 _ rfl
      have z5 : W4.cell? ⟨g, 53, none⟩ = some (.string e0) := hG.cell 53 _ rfl
      have z6 : W4.cell? ⟨g, 54, none⟩ = some (.int .i64 0) := hG.cell 54 _ rfl
      have z7 : W4.cell? ⟨g, 55, none⟩ = some (.int .i64 1) := hG.cell 55 _ rfl
      go_simp
      refine hK _ _ hS ?_
      clear hK K z0 z1 z2 z3 z4 z5 z6 z7
      refine eachH1 (i := 6) (by kernel_rfl) rfl ?_
      intro K hK
      obtain ⟨hb3, hB3⟩ := (HSI.out _).1 hS
      have y0 := hP.free 0
      have y1 := hP.free 1
      have y2 := hP.free 2
      have y3 := hP.free 3
      have y4 := hP.free 4
      have y5 := hP.free 5
      have y6 := hP.free 6
      have y7 := hP.free 7
      have x0 := hP.cell 0 _ rfl
      have x1 := hP.cell 1 _ rfl
      have x2 := hP.cell 2 _ rfl
      have x3 := hP.cell 3 _ rfl
      have x4 := hP.cell 4 _ rfl
      have x5 := hP.cell 5 _ rfl
      have x6 := hP.cell 6 _ rfl
      have x7 := hP.cell 7 _ rfl
      obtain ⟨W9, hW9⟩ : ∃ W9, ((((((((W4.setCell ⟨p, 0, none⟩ (.func (.func 56) #[] #[])).setCell ⟨p, 1, none⟩ (.func (.func 57) #[] #[])).setCell ⟨p, 2, none⟩ (.int .i64 0)).setCell ⟨p, 3, none⟩ (.string eX)).setCell ⟨p, 4, none⟩ (.string e0)).setCell ⟨p, 5, none⟩ (.string e0)).setCell ⟨p, 6, none⟩ (.int .i64 0)).setCell ⟨p, 7, none⟩ (.int .i64 1)) = W9 := ⟨_, rfl⟩
      have hS9 : S W9 := by rw [← hW9]; exact (HSI.out _).2 ⟨eightBelow hb3 hpw (.func (.func 56) #[] #[]) (.func (.func 57) #[] #[]) (.int .i64 0) (.string eX) (.string e0) (.string e0) (.int .i64 0) (.int .i64 1), eightOther hB3 hph (.func (.func 56) #[] #[]) (.func (.func 57) #[] #[]) (.int .i64 0) (.string eX) (.string e0) (.string e0) (.int .i64 0) (.int .i64 1)⟩
      have hP9 : BlkIs W9 p #[(.func (.func 56) #[] #[]), (.func (.func 57) #[] #[]), (.int .i64 0), (.string eX), (.string e0), (.string e0), (.int .i64 0), (.int .i64 1)] 74 := by rw [← hW9]; exact eightSet hP (.func (.func 56) #[] #[]) (.func (.func 57) #[] #[]) (.int .i64 0) (.string eX) (.string e0) (.string e0) (.int .i64 0) (.int .i64 1)
      have HW9 := Lib.hid hW9
      clear hW9 hb3 hB3 hP hS
      go_simp
      rw [HW9.out]
      refine hK _ _ hS9 ?_
      clear hK K x0 y0 x1 y1 x2 y2 x3 y3 x4 y4 x5 y5 x6 y6 x7 y7
      refine eachH_done (by kernel_rfl) ?_
      go_simp
      clear HW9
      obtain ⟨hb9, hB9⟩ := (HSI.out _).1 hS9
      have c0 := hB9.cell 0 _ rfl
      have c1 := hB9.cell 1 _ rfl
      have c2 := hB9.cell 2 _ rfl
      have c3 := hB9.cell 3 _ rfl
      have c4 := hB9.cell 4 _ rfl
      have c5 := hB9.cell 5 _ rfl
      have q0 := hP9.cell 0 _ rfl
      have q1 := hP9.cell 1 _ rfl
      have q2 := hP9.cell 2 _ rfl
      have q3 := hP9.cell 3 _ rfl
      have q4 := hP9.cell 4 _ rfl
      have q5 := hP9.cell 5 _ rfl
      have q6 := hP9.cell 6 _ rfl
      have q7 := hP9.cell 7 _ rfl
      have HB9 := Lib.hid hb9
      have HX9 := Lib.hid (And.intro hB9 hP9)
      clear hb9 hS9 hB9 hP9
      go_wp2_with fail
      refine (HUN.out _).mono ?_
      rintro e W5 ⟨rfl, hb5⟩
      have HB5 := Lib.hid (HB9.out.trans (hb5.mono HB9.out.size))
      have hB5 := HX9.out.1.later hb5
      have hP5 := HX9.out.2.later hb5
      clear hb5 c0 c1 c2 c3 c4 c5 q0 q1 q2 q3 q4 q5 q6 q7
      cases a with
      | false =>
        clear hB5 hP5
        go_wp2
        go_ret
        exact ⟨rfl, HB5.out⟩
      | true =>
        have c0 := hB5.cell 0 _ rfl
        have c1 := hB5.cell 1 _ rfl
        have c2 := hB5.cell 2 _ rfl
        have c3 := hB5.cell 3 _ rfl
        have c4 := hB5.cell 4 _ rfl
        have c5 := hB5.cell 5 _ rfl
        have q1 := hP5.cell 1 _ rfl
        clear hB5 hP5
        have HR5 := Lib.hid (HRT.out W5 HB5.out)
        go_wp2_with fail
        refine (HR5.out).mono ?_
        rintro e W6 ⟨rfl, hb6⟩
        have HB6 := Lib.hid (HB5.out.trans (hb6.mono HB5.out.size))
        clear hb6
        cases b
        all_goals
          go_wp2
          go_ret
          exact ⟨rfl, HB6.out⟩
  · intro K hK
    obtain ⟨p, hp⟩ : ∃ p, WD.heap.size = p := ⟨_, rfl⟩
    have hpw : w.heap.size ≤ p := by rw [← hp]; exact ((HSI.out _).1 hS).1.size
    have hph : h ≠ p := by have := ((HSI.out _).1 hS).2.lt; omega
    obtain ⟨W4, hW4⟩ : ∃ W4, WD.alloc (.cells zK 74) = W4 := ⟨_, rfl⟩
    have hab : Below WD.heap.size WD W4 := by rw [← hW4]; exact below1 _ _
    have hP : BlkIs W4 p zK 74 := by rw [← hW4, ← hp]; exact blkIs_new _ _ _
    have hS := HST.out _ _ hS hab
    try have hG := hG.later hab
    have HW4 := Lib.hid hW4
    clear hW4 hab
    go_simp
    rw [HW4.out]
    refine hK _ _ hS ?_
    clear hK K hp HW4
    refine eachH1 (i := 0) (by kernel_rfl) rfl ?_
    intro K hK
    go_simp
    refine (kinds_any _).mono ?_
    rintro e W3 ⟨rfl, hW3⟩
    obtain ⟨g, hg⟩ : ∃ g, W4.heap.size = g := ⟨_, rfl⟩
    try rw [hg]
    have hG : BlkIs W3 g kArr 74 := by rw [hW3, ← hg]; exact blkIs_new _ _ _
    have hcb : Below W4.heap.size W4 W3 := by rw [hW3]; exact below1 _ _
    have hS := HST.out _ _ hS hcb
    try have hP := hP.later hcb
    refine hK _ _ hS ?_
    clear hK K hW3 hcb
    refine eachH_take (i := 3) rfl (by kernel_rfl) (by kernel_rfl) (by kernel_rfl) hS (v := ?_) ?_ ?_; rotate_left; · (intro W hS; clear hS; go_simp; with_reducible rfl)
    refine eachH1 (i := 4) (by kernel_rfl) rfl ?_
    intro K hK
    have z0 : W3.cell? ⟨g, 48, none⟩ = some (.func (.func 56) #[] #[]) := hG.cell 48 _ rfl
    have z1 : W3.cell? ⟨g, 49, none⟩ = some (.func (.func 57) #[] #[]) := hG.cell 49 _ rfl
    have z2 : W3.cell? ⟨g, 50, none⟩ = some (.int .i64 0) := hG.cell 50 _ rfl
    have z3 : W3.cell? ⟨g, 51, none⟩ = some (.string eX) := hG.cell 51 _ rfl
    have z4 : W3.cell? ⟨g, 52, none⟩ = some (.string e0) := hG.cell 52 _ rfl
    have z5 : W3.cell? ⟨g, 53, none⟩ = some (.string e0) := hG.cell 53 _ rfl
    have z6 : W3.cell? ⟨g, 54, none⟩ = some (.int .i64 0) := hG.cell 54 _ rfl
    have z7 : W3.cell? ⟨g, 55, none⟩ = some (.int .i64 1) := hG.cell 55 _ rfl
    go_simp
    refine hK _ _ hS ?_
    clear hK K z0 z1 z2 z3 z4 z5 z6 z7
    refine eachH1 (i := 6) (by kernel_rfl) rfl ?_
    intro K hK
    obtain ⟨hb3, hB3⟩ := (HSI.out _).1 hS
    have y0 := hP.free 0
    have y1 := hP.free 1
    have y2 := hP.free 2
    have y3 := hP.free 3
    have y4 := hP.free 4
    have y5 := hP.free 5
    have y6 := hP.free 6
    have y7 := hP.free 7
    have x0 := hP.cell 0 _ rfl
    have x1 := hP.cell 1 _ rfl
    have x2 := hP.cell 2 _ rfl
    have x3 := hP.cell 3 _ rfl
    have x4 := hP.cell 4 _ rfl
    have x5 := hP.cell 5 _ rfl
    have x6 := hP.cell 6 _ rfl
    have x7 := hP.cell 7 _ rfl
    obtain ⟨W9, hW9⟩ : ∃ W9, ((((((((W3.setCell ⟨p, 0, none⟩ (.func (.func 56) #[] #[])).setCell ⟨p, 1, none⟩ (.func (.func 57) #[] #[])).setCell ⟨p, 2, none⟩ (.int .i64 0)).setCell ⟨p, 3, none⟩ (.string eX)).setCell ⟨p, 4, none⟩ (.string e0)).setCell ⟨p, 5, none⟩ (.string e0)).setCell ⟨p, 6, none⟩ (.int .i64 0)).setCell ⟨p, 7, none⟩ (.int .i64 1)) = W9 := ⟨_, rfl⟩
    have hS9 : S W9 := by rw [← hW9]; exact (HSI.out _).2 ⟨eightBelow hb3 hpw (.func (.func 56) #[] #[]) (.func (.func 57) #[] #[]) (.int .i64 0) (.string eX) (.string e0) (.string e0) (.int .i64 0) (.int .i64 1), eightOther hB3 hph (.func (.func 56) #[] #[]) (.func (.func 57) #[] #[]) (.int .i64 0) (.string eX) (.string e0) (.string e0) (.int .i64 0) (.int .i64 1)⟩
    have hP9 : BlkIs W9 p #[(.func (.func 56) #[] #[]), (.func (.func 57) #[] #[]), (.int .i64 0), (.string eX), (.string e0), (.string e0), (.int .i64 0), (.int .i64 1)] 74 := by rw [← hW9]; exact eightSet hP (.func (.func 56) #[] #[]) (.func (.func 57) #[] #[]) (.int .i64 0) (.string eX) (.string e0) (.string e0) (.int .i64 0) (.int .i64 1)
    have HW9 := Lib.hid hW9
    clear hW9 hb3 hB3 hP hS
    go_simp
    rw [HW9.out]
    refine hK _ _ hS9 ?_
    clear hK K x0 y0 x1 y1 x2 y2 x3 y3 x4 y4 x5 y5 x6 y6 x7 y7
    refine eachH_done (by kernel_rfl) ?_
    go_simp
    clear HW9
    obtain ⟨hb9, hB9⟩ := (HSI.out _).1 hS9
    have c0 := hB9.cell 0 _ rfl
    have c1 := hB9.cell 1 _ rfl
    have c2 := hB9.cell 2 _ rfl
    have c3 := hB9.cell 3 _ rfl
    have c4 := hB9.cell 4 _ rfl
    have c5 := hB9.cell 5 _ rfl
    have q0 := hP9.cell 0 _ rfl
    have q1 := hP9.cell 1 _ rfl
    have q2 := hP9.cell 2 _ rfl
    have q3 := hP9.cell 3 _ rfl
    have q4 := hP9.cell 4 _ rfl
    have q5 := hP9.cell 5 _ rfl
    have q6 := hP9.cell 6 _ rfl
    have q7 := hP9.cell 7 _ rfl
    have HB9 := Lib.hid hb9
    have HX9 := Lib.hid (And.intro hB9 hP9)
    clear hb9 hS9 hB9 hP9
    go_wp2_with fail
    refine (HUN.out _).mono ?_
    rintro e W5 ⟨rfl, hb5⟩
    have HB5 := Lib.hid (HB9.out.trans (hb5.mono HB9.out.size))
    have hB5 := HX9.out.1.later hb5
    have hP5 := HX9.out.2.later hb5
    clear hb5 c0 c1 c2 c3 c4 c5 q0 q1 q2 q3 q4 q5 q6 q7
    cases a with
    | false =>
      clear hB5 hP5
      go_wp2
      go_ret
      exact ⟨rfl, HB5.out⟩
    | true =>
      have c0 := hB5.cell 0 _ rfl
      have c1 := hB5.cell 1 _ rfl
      have c2 := hB5.cell 2 _ rfl
      have c3 := hB5.cell 3 _ rfl
      have c4 := hB5.cell 4 _ rfl
      have c5 := hB5.cell 5 _ rfl
      have q1 := hP5.cell 1 _ rfl
      clear hB5 hP5
      have HR5 := Lib.hid (HRT.out W5 HB5.out)
      go_wp2_with fail
      refine (HR5.out).mono ?_
      rintro e W6 ⟨rfl, hb6⟩
      have HB6 := Lib.hid (HB5.out.trans (hb6.mono HB5.out.size))
      clear hb6
      cases b
      all_goals
        go_wp2
        go_ret
        exact ⟨rfl, HB6.out⟩
end Go.Proofs.YtdlpbpikhmciaaaGreatDoor
