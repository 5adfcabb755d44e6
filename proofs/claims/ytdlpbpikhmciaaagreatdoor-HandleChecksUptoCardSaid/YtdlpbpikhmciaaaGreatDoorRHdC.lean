/- The walk of the reference's Check, kind by kind. Conditions: texts are small. -/
import Derived.Test.YtdlpbpikhmciaaaGreatDoorRHdB
import Derived.Test.YtdlpbpikhmciaaaGreatDoorRHdR
import Derived.Test.YtdlpbpikhmciaaaGreatDoorRTok
import Derived.Test.YtdlpbpikhmciaaaGreatDoorHdC0
namespace Go.Proofs.YtdlpbpikhmciaaaGreatDoor
open Go.RowKit
set_option linter.unusedSimpArgs false
set_option linter.unusedVariables false
set_option maxRecDepth 1000000
theorem rt1_on (m : ByteArray) (s : Int) (g1 : 200 ≤ s) (g2 : s ≤ 599) (f3 : (s != 204) = true) (f4 : (s != 304) = true) (g5 : m.toList.isEmpty = false) : rt1 m.data.toList s = isVal m.data.toList := by
  unfold rt1 rt2
  rw [decide_eq_true g1, decide_eq_true g2, ← toL, g5, f3, f4]
  rfl
theorem rt1_off (m : ByteArray) (s : Int) (hg : ¬ ((200 ≤ s ∧ s ≤ 599) ∧ s ≠ 204 ∧ s ≠ 304 ∧ m.toList.isEmpty = false)) : rt1 m.data.toList s = false := by
  cases hx : rt1 m.data.toList s with
  | false => rfl
  | true =>
    exfalso
    apply hg
    unfold rt1 rt2 at hx
    rw [toL]
    simp only [Bool.and_eq_true, decide_eq_true_eq, bne_iff_ne, Bool.not_eq_true'] at hx
    exact ⟨hx.1, hx.2.1, hx.2.2.1, hx.2.2.2.1⟩
theorem chkI_ff (b : Bool) : chkI false b = 180 := rfl
theorem chkI_tf : chkI true false = 180 := rfl
theorem chkI_tt : chkI true true = 0 := rfl
set_option maxHeartbeats 16000000 in
theorem rcheck1_any (s c : Int) (n t m : ByteArray) (w : World) (hm : m.size ≤ 1099511627776) :
    Calls Tryz.prog 10 #[.agg (hdC 1 n t m s c)] w fun e w' => e = .returned (.int .i64 (chkI (bareB false true true true false (decide (n.toList = [])) (decide (t.toList = [])) (decide (m.toList = [])) (decide (s = 0)) (c == 0)) (rt1 m.data.toList s))) ∧ Below w.heap.size w w' := by
  have hBA := fun W => rbare14_any 1 s c n t m W
  obtain ⟨a, ha⟩ : ∃ a, bareB false true true true false (decide (n.toList = [])) (decide (t.toList = [])) (decide (m.toList = [])) (decide (s = 0)) (c == 0) = a := ⟨_, rfl⟩
  rw [ha] at hBA ⊢
  clear ha
  have HBA := Lib.hid hBA
  have HBW := Lib.hid (show ∀ a, Below w.heap.size w (w.alloc (.cells a 28)) from fun a => below1 w _)
  clear hBA
  have HN := Lib.hid (fun W => r6isvalue_any m W hm)
  have e1 := toL m
  by_cases hg : (200 ≤ s ∧ s ≤ 599) ∧ s ≠ 204 ∧ s ≠ 304 ∧ m.toList.isEmpty = false
  · obtain ⟨⟨g1, g2⟩, g3, g4, g5⟩ := hg
    have e3 : ¬ m.toList = [] := by intro h; rw [h] at g5; cases g5
    have f3 : (s != 204) = true := by simpa using g3
    have f4 : (s != 304) = true := by simpa using g4
    rw [rt1_on m s g1 g2 f3 f4 g5]
    obtain ⟨b, hb⟩ : ∃ b, isVal m.data.toList = b := ⟨_, rfl⟩
    rw [hb] at HN ⊢
    clear hb e1 g3 g4
    go_enter Tryz.func10, Tryz.ntmps10
    go_wp2_with fail
    refine (HBA.out _).mono ?_
    rintro e w3 ⟨rfl, hb3⟩
    have c4 : w3.cell? ⟨w.heap.size, 4, none⟩ = some (.int .i64 s) := new_kept hb3 rfl
    have c3 : w3.cell? ⟨w.heap.size, 3, none⟩ = some (.string m) := new_kept hb3 rfl
    have HB := Lib.hid ((HBW.out _).trans (hb3.mono (HBW.out (hdC 1 n t m s c)).size))
    clear hb3
    cases a with
    | false =>
      go_wp2
      go_ret
      exact ⟨rfl, HB.out⟩
    | true =>
      go_wp2_with fail
      refine (HN.out _).mono ?_
      rintro e w4 ⟨rfl, rfl⟩
      cases b
      all_goals
        go_wp2
        go_ret
        exact ⟨rfl, HB.out⟩
  · rw [rt1_off m s hg]
    have hg2 : s < 200 ∨ 599 < s ∨ s = 204 ∨ s = 304 ∨ (((200 ≤ s ∧ s ≤ 599) ∧ s ≠ 204 ∧ s ≠ 304) ∧ m.toList.isEmpty = true) := by
      cases hm : m.toList.isEmpty with
      | true => simp only [and_true]; omega
      | false => rw [hm] at hg; simp only [and_true] at hg; omega
    clear e1 hg
    rcases hg2 with g | g | g | g | ⟨⟨⟨g1, g2⟩, g3, g4⟩, g5⟩
    case' inr.inr.inr.inr => have e3 : m.toList = [] := by simpa using g5
    case' inr.inr.inr.inr => have f3 : (s != 204) = true := by simpa using g3
    case' inr.inr.inr.inr => have f4 : (s != 304) = true := by simpa using g4
    case' inr.inr.inr.inr => clear g3 g4
    case' inr.inr.inl => subst g
    case' inr.inr.inr.inl => subst g
    all_goals
      cases a
      all_goals
        go_enter Tryz.func10, Tryz.ntmps10
        go_wp2_with fail
        refine (HBA.out _).mono ?_
        rintro e w3 ⟨rfl, hb3⟩
        have c4 := new_kept (j := 4) hb3 rfl
        have c3 := new_kept (j := 3) hb3 rfl
        have HB := Lib.hid ((HBW.out _).trans (hb3.mono (HBW.out _).size))
        clear hb3
        go_wp2
        go_ret
        exact ⟨rfl, HB.out⟩
set_option maxHeartbeats 16000000 in
theorem rcheck2_any (s c : Int) (n t m : ByteArray) (w : World)  :
    Calls Tryz.prog 10 #[.agg (hdC 2 n t m s c)] w fun e w' => e = .returned (.int .i64 (chkI (bareB false false false true false (decide (n.toList = [])) (decide (t.toList = [])) (decide (m.toList = [])) (decide (s = 0)) (c == 0)) (rt2 s))) ∧ Below w.heap.size w w' := by
  have hBA := fun W => rbare8_any 2 s c n t m W
  obtain ⟨a, ha⟩ : ∃ a, bareB false false false true false (decide (n.toList = [])) (decide (t.toList = [])) (decide (m.toList = [])) (decide (s = 0)) (c == 0) = a := ⟨_, rfl⟩
  rw [ha] at hBA ⊢
  clear ha
  have HBA := Lib.hid hBA
  have HBW := Lib.hid (show ∀ a, Below w.heap.size w (w.alloc (.cells a 28)) from fun a => below1 w _)
  clear hBA
  go_enter Tryz.func10, Tryz.ntmps10
  go_wp2_with fail
  refine (HBA.out _).mono ?_
  rintro e w3 ⟨rfl, hb3⟩
  have c4 : w3.cell? ⟨w.heap.size, 4, none⟩ = some (.int .i64 s) := new_kept hb3 rfl
  have c5 : w3.cell? ⟨w.heap.size, 5, none⟩ = some (.int .i64 c) := new_kept hb3 rfl
  have HB := Lib.hid ((HBW.out _).trans (hb3.mono (HBW.out (hdC 2 n t m s c)).size))
  clear hb3
  cases a
  all_goals
    go_wp2
    all_goals
      go_ret
      refine ⟨ret_int ?_, HB.out⟩
      unfold chkI rt2
      (try simp_all)
      (try omega)
set_option maxHeartbeats 16000000 in
theorem rcheck3_any (s c : Int) (n t m : ByteArray) (w : World) (ht : t.size ≤ 1048576) :
    Calls Tryz.prog 10 #[.agg (hdC 3 n t m s c)] w fun e w' => e = .returned (.int .i64 (chkI (bareB false true false true false (decide (n.toList = [])) (decide (t.toList = [])) (decide (m.toList = [])) (decide (s = 0)) (c == 0)) (rt3 t.data.toList s))) ∧ Below w.heap.size w w' := by
  have hBA := fun W => rbare10_any 3 s c n t m W
  obtain ⟨a, ha⟩ : ∃ a, bareB false true false true false (decide (n.toList = [])) (decide (t.toList = [])) (decide (m.toList = [])) (decide (s = 0)) (c == 0) = a := ⟨_, rfl⟩
  rw [ha] at hBA ⊢
  clear ha
  have HBA := Lib.hid hBA
  have HBW := Lib.hid (show ∀ a, Below w.heap.size w (w.alloc (.cells a 28)) from fun a => below1 w _)
  clear hBA
  have hN := rrefer_any t (.slice none 0 0) [] (w.alloc (.cells (hdC 3 n t m s c) 28)) ht (by simp [totP]) (parsNil _)
  obtain ⟨b, hb⟩ : ∃ b, (refR [] t.data.toList).isSome = b := ⟨_, rfl⟩
  have hX : rt3 t.data.toList s = ((s == 301 || (s == 302 || (s == 303 || (s == 307 || s == 308)))) && b) := by unfold rt3; rw [hb]
  rw [hX]
  rw [rfT_is _ _ _ hb] at hN
  obtain ⟨x, hx⟩ : ∃ x : ByteArray, ⟨(rfT [] t.data.toList).1.toArray⟩ = x := ⟨_, rfl⟩
  rw [hx] at hN
  have HN := Lib.hid hN
  clear hX hb hx hN
  by_cases h1 : s = 301 ∨ s = 302 ∨ s = 303 ∨ s = 307 ∨ s = 308
  · rcases h1 with rfl | rfl | rfl | rfl | rfl
    all_goals
      cases b
      all_goals
        go_enter Tryz.func10, Tryz.ntmps10
        go_wp2_with fail
        refine (HN.out).mono ?_
        rintro e w2 ⟨rfl, hb2⟩
        have c0 := new_kept (j := 0) hb2 rfl
        have c1 := new_kept (j := 1) hb2 rfl
        have c2 := new_kept (j := 2) hb2 rfl
        have c3 := new_kept (j := 3) hb2 rfl
        have c4 := new_kept (j := 4) hb2 rfl
        have c5 := new_kept (j := 5) hb2 rfl
        have HB2 := Lib.hid ((HBW.out _).trans (hb2.mono (HBW.out _).size))
        clear hb2
        go_wp2_with fail
        refine (HBA.out _).mono ?_
        rintro e w3 ⟨rfl, hb3⟩
        have HB := Lib.hid (HB2.out.trans (hb3.mono HB2.out.size))
        clear hb3 c0 c1 c2 c3 c4 c5
        cases a
        all_goals
          go_wp2
          go_ret
          exact ⟨by first | rfl | trivial, HB.out⟩
  · have g1 : (s == 301) = false := by simp; omega
    have g2 : (s == 302) = false := by simp; omega
    have g3 : (s == 303) = false := by simp; omega
    have g4 : (s == 307) = false := by simp; omega
    have g5 : (s == 308) = false := by simp; omega
    rw [show ((s == 301 || (s == 302 || (s == 303 || (s == 307 || s == 308)))) && b) = false by rw [g1, g2, g3, g4, g5]; rfl]
    clear h1
    cases b
    all_goals
      go_enter Tryz.func10, Tryz.ntmps10
      go_wp2_with fail
      refine (HN.out).mono ?_
      rintro e w2 ⟨rfl, hb2⟩
      have c0 := new_kept (j := 0) hb2 rfl
      have c1 := new_kept (j := 1) hb2 rfl
      have c2 := new_kept (j := 2) hb2 rfl
      have c3 := new_kept (j := 3) hb2 rfl
      have c4 := new_kept (j := 4) hb2 rfl
      have c5 := new_kept (j := 5) hb2 rfl
      have HB2 := Lib.hid ((HBW.out _).trans (hb2.mono (HBW.out _).size))
      clear hb2
      go_wp2_with fail
      refine (HBA.out _).mono ?_
      rintro e w3 ⟨rfl, hb3⟩
      have HB := Lib.hid (HB2.out.trans (hb3.mono HB2.out.size))
      clear hb3 c0 c1 c2 c3 c4 c5
      cases a
      all_goals
        go_wp2
        go_ret
        exact ⟨by first | rfl | trivial, HB.out⟩
set_option maxHeartbeats 16000000 in
theorem rcheck4_any (s c : Int) (n t m : ByteArray) (w : World)  :
    Calls Tryz.prog 10 #[.agg (hdC 4 n t m s c)] w fun e w' => e = .returned (.int .i64 (chkI (bareB false false false false false (decide (n.toList = [])) (decide (t.toList = [])) (decide (m.toList = [])) (decide (s = 0)) (c == 0)) true)) ∧ Below w.heap.size w w' := by
  have hBA := fun W => rbare0_any 4 s c n t m W
  obtain ⟨a, ha⟩ : ∃ a, bareB false false false false false (decide (n.toList = [])) (decide (t.toList = [])) (decide (m.toList = [])) (decide (s = 0)) (c == 0) = a := ⟨_, rfl⟩
  rw [ha] at hBA ⊢
  clear ha
  have HBA := Lib.hid hBA
  have HBW := Lib.hid (show ∀ a, Below w.heap.size w (w.alloc (.cells a 28)) from fun a => below1 w _)
  clear hBA
  go_enter Tryz.func10, Tryz.ntmps10
  go_wp2_with fail
  refine (HBA.out _).mono ?_
  rintro e w3 ⟨rfl, hb3⟩
  have HB := Lib.hid ((HBW.out _).trans (hb3.mono (HBW.out (hdC 4 n t m s c)).size))
  clear hb3
  cases a
  all_goals
    go_wp2
    go_ret
    exact ⟨rfl, HB.out⟩
set_option maxHeartbeats 16000000 in
theorem rcheck5_any (s c : Int) (n t m : ByteArray) (w : World)  :
    Calls Tryz.prog 10 #[.agg (hdC 5 n t m s c)] w fun e w' => e = .returned (.int .i64 (chkI (bareB false false false false false (decide (n.toList = [])) (decide (t.toList = [])) (decide (m.toList = [])) (decide (s = 0)) (c == 0)) true)) ∧ Below w.heap.size w w' := by
  have hBA := fun W => rbare0_any 5 s c n t m W
  obtain ⟨a, ha⟩ : ∃ a, bareB false false false false false (decide (n.toList = [])) (decide (t.toList = [])) (decide (m.toList = [])) (decide (s = 0)) (c == 0) = a := ⟨_, rfl⟩
  rw [ha] at hBA ⊢
  clear ha
  have HBA := Lib.hid hBA
  have HBW := Lib.hid (show ∀ a, Below w.heap.size w (w.alloc (.cells a 28)) from fun a => below1 w _)
  clear hBA
  go_enter Tryz.func10, Tryz.ntmps10
  go_wp2_with fail
  refine (HBA.out _).mono ?_
  rintro e w3 ⟨rfl, hb3⟩
  have HB := Lib.hid ((HBW.out _).trans (hb3.mono (HBW.out (hdC 5 n t m s c)).size))
  clear hb3
  cases a
  all_goals
    go_wp2
    go_ret
    exact ⟨rfl, HB.out⟩
set_option maxHeartbeats 16000000 in
theorem rcheck6_any (s c : Int) (n t m : ByteArray) (w : World) (hn : n.size ≤ 1099511627776) :
    Calls Tryz.prog 10 #[.agg (hdC 6 n t m s c)] w fun e w' => e = .returned (.int .i64 (chkI (bareB true false false false true (decide (n.toList = [])) (decide (t.toList = [])) (decide (m.toList = [])) (decide (s = 0)) (c == 0)) (rt4 n.data.toList c))) ∧ Below w.heap.size w w' := by
  have hBA := fun W => rbare17_any 6 s c n t m W
  obtain ⟨a, ha⟩ : ∃ a, bareB true false false false true (decide (n.toList = [])) (decide (t.toList = [])) (decide (m.toList = [])) (decide (s = 0)) (c == 0) = a := ⟨_, rfl⟩
  rw [ha] at hBA ⊢
  clear ha
  have HBA := Lib.hid hBA
  have HBW := Lib.hid (show ∀ a, Below w.heap.size w (w.alloc (.cells a 28)) from fun a => below1 w _)
  clear hBA
  have HN := Lib.hid (fun W => risname_any n W hn)
  have e1 := toL n
  cases hemp : n.toList.isEmpty with
  | true =>
    have e2 : n.data.toList.isEmpty = true := by rw [← e1]; exact hemp
    have e3 : n.toList = [] := by simpa using hemp
    rw [show rt4 n.data.toList c = (c == 0 || c == 1) by unfold rt4; rw [e2]; rfl]
    clear e1 e2
    go_enter Tryz.func10, Tryz.ntmps10
    go_wp2_with fail
    refine (HBA.out _).mono ?_
    rintro e w3 ⟨rfl, hb3⟩
    have c1 : w3.cell? ⟨w.heap.size, 1, none⟩ = some (.string n) := new_kept hb3 rfl
    have c5 : w3.cell? ⟨w.heap.size, 5, none⟩ = some (.int .i64 c) := new_kept hb3 rfl
    have HB := Lib.hid ((HBW.out _).trans (hb3.mono (HBW.out (hdC 6 n t m s c)).size))
    clear hb3
    cases a
    all_goals
      go_wp2
      all_goals
        go_ret
        refine ⟨ret_int ?_, HB.out⟩
        unfold chkI
        (try simp_all)
  | false =>
    have e2 : n.data.toList.isEmpty = false := by rw [← e1]; exact hemp
    have e3 : ¬ n.toList = [] := by intro h; rw [h] at hemp; cases hemp
    obtain ⟨b, hb⟩ : ∃ b, isNm n.data.toList = b := ⟨_, rfl⟩
    rw [show rt4 n.data.toList c = (b && (c == 0 || c == 1)) by unfold rt4; rw [e2, hb]; rfl]
    rw [hb] at HN
    clear e1 e2 hb
    go_enter Tryz.func10, Tryz.ntmps10
    go_wp2_with fail
    refine (HBA.out _).mono ?_
    rintro e w3 ⟨rfl, hb3⟩
    have c1 : w3.cell? ⟨w.heap.size, 1, none⟩ = some (.string n) := new_kept hb3 rfl
    have c5 : w3.cell? ⟨w.heap.size, 5, none⟩ = some (.int .i64 c) := new_kept hb3 rfl
    have HB := Lib.hid ((HBW.out _).trans (hb3.mono (HBW.out (hdC 6 n t m s c)).size))
    clear hb3
    cases a with
    | false =>
      go_wp2
      go_ret
      exact ⟨rfl, HB.out⟩
    | true =>
      go_wp2_with fail
      refine (HN.out _).mono ?_
      rintro e w4 ⟨rfl, rfl⟩
      cases b
      all_goals
        go_wp2
        all_goals
          go_ret
          refine ⟨ret_int ?_, HB.out⟩
          unfold chkI
          (try simp_all)
set_option maxHeartbeats 16000000 in
theorem rcheck7_any (s c : Int) (n t m : ByteArray) (w : World)  :
    Calls Tryz.prog 10 #[.agg (hdC 7 n t m s c)] w fun e w' => e = .returned (.int .i64 (chkI (bareB false false false false true (decide (n.toList = [])) (decide (t.toList = [])) (decide (m.toList = [])) (decide (s = 0)) (c == 0)) (rt5 c))) ∧ Below w.heap.size w w' := by
  have hBA := fun W => rbare16_any 7 s c n t m W
  obtain ⟨a, ha⟩ : ∃ a, bareB false false false false true (decide (n.toList = [])) (decide (t.toList = [])) (decide (m.toList = [])) (decide (s = 0)) (c == 0) = a := ⟨_, rfl⟩
  rw [ha] at hBA ⊢
  clear ha
  have HBA := Lib.hid hBA
  have HBW := Lib.hid (show ∀ a, Below w.heap.size w (w.alloc (.cells a 28)) from fun a => below1 w _)
  clear hBA
  go_enter Tryz.func10, Tryz.ntmps10
  go_wp2_with fail
  refine (HBA.out _).mono ?_
  rintro e w3 ⟨rfl, hb3⟩
  have c4 : w3.cell? ⟨w.heap.size, 4, none⟩ = some (.int .i64 s) := new_kept hb3 rfl
  have c5 : w3.cell? ⟨w.heap.size, 5, none⟩ = some (.int .i64 c) := new_kept hb3 rfl
  have HB := Lib.hid ((HBW.out _).trans (hb3.mono (HBW.out (hdC 7 n t m s c)).size))
  clear hb3
  cases a
  all_goals
    go_wp2
    all_goals
      go_ret
      refine ⟨ret_int ?_, HB.out⟩
      unfold chkI rt5
      (try simp_all)
      (try omega)
set_option maxHeartbeats 16000000 in
theorem rcheck8_any (s c : Int) (n t m : ByteArray) (w : World) (hn : n.size ≤ 1099511627776) :
    Calls Tryz.prog 10 #[.agg (hdC 8 n t m s c)] w fun e w' => e = .returned (.int .i64 (chkI (bareB true false false false false (decide (n.toList = [])) (decide (t.toList = [])) (decide (m.toList = [])) (decide (s = 0)) (c == 0)) (isTok n.data.toList))) ∧ Below w.heap.size w w' := by
  have hBA := fun W => rbare1_any 8 s c n t m W
  obtain ⟨a, ha⟩ : ∃ a, bareB true false false false false (decide (n.toList = [])) (decide (t.toList = [])) (decide (m.toList = [])) (decide (s = 0)) (c == 0) = a := ⟨_, rfl⟩
  rw [ha] at hBA ⊢
  clear ha
  have HBA := Lib.hid hBA
  have HBW := Lib.hid (show ∀ a, Below w.heap.size w (w.alloc (.cells a 28)) from fun a => below1 w _)
  clear hBA
  have HN := Lib.hid (fun W => rtoken_any n W hn)
  obtain ⟨b, hb⟩ : ∃ b, isTok n.data.toList = b := ⟨_, rfl⟩
  rw [hb] at HN ⊢
  clear hb
  go_enter Tryz.func10, Tryz.ntmps10
  go_wp2_with fail
  refine (HBA.out _).mono ?_
  rintro e w3 ⟨rfl, hb3⟩
  have c1 : w3.cell? ⟨w.heap.size, 1, none⟩ = some (.string n) := new_kept hb3 rfl
  have HB := Lib.hid ((HBW.out _).trans (hb3.mono (HBW.out (hdC 8 n t m s c)).size))
  clear hb3
  cases a with
  | false =>
    go_wp2
    go_ret
    exact ⟨rfl, HB.out⟩
  | true =>
    go_wp2_with fail
    refine (HN.out _).mono ?_
    rintro e w4 ⟨rfl, rfl⟩
    cases b
    all_goals
      go_wp2
      go_ret
      exact ⟨rfl, HB.out⟩
set_option maxHeartbeats 16000000 in
theorem rcheck9_any (s c : Int) (n t m : ByteArray) (w : World)  :
    Calls Tryz.prog 10 #[.agg (hdC 9 n t m s c)] w fun e w' => e = .returned (.int .i64 (chkI (bareB false false false false false (decide (n.toList = [])) (decide (t.toList = [])) (decide (m.toList = [])) (decide (s = 0)) (c == 0)) true)) ∧ Below w.heap.size w w' := by
  have hBA := fun W => rbare0_any 9 s c n t m W
  obtain ⟨a, ha⟩ : ∃ a, bareB false false false false false (decide (n.toList = [])) (decide (t.toList = [])) (decide (m.toList = [])) (decide (s = 0)) (c == 0) = a := ⟨_, rfl⟩
  rw [ha] at hBA ⊢
  clear ha
  have HBA := Lib.hid hBA
  have HBW := Lib.hid (show ∀ a, Below w.heap.size w (w.alloc (.cells a 28)) from fun a => below1 w _)
  clear hBA
  go_enter Tryz.func10, Tryz.ntmps10
  go_wp2_with fail
  refine (HBA.out _).mono ?_
  rintro e w3 ⟨rfl, hb3⟩
  have HB := Lib.hid ((HBW.out _).trans (hb3.mono (HBW.out (hdC 9 n t m s c)).size))
  clear hb3
  cases a
  all_goals
    go_wp2
    go_ret
    exact ⟨rfl, HB.out⟩
end Go.Proofs.YtdlpbpikhmciaaaGreatDoor
