/- The walks of handle.unused and of the handlers' own tests. Conditions: texts are small. -/
import Derived.Test.YtdlpbpikhmciaaaGreatDoorPk06
import Derived.Test.YtdlpbpikhmciaaaGreatDoorPa07
namespace Go.Proofs.YtdlpbpikhmciaaaGreatDoor
open Go.RowKit
set_option linter.unusedSimpArgs false
set_option linter.unusedVariables false
set_option maxRecDepth 1000000
abbrev hdC (k : Int) (n t m : ByteArray) (s c : Int) : Array Value := #[.int .i64 k, .string n, .string t, .string m, .int .i64 s, .int .i64 c]
def orB (a b : Bool) : Bool := a || b
def bareB (un ut um us uc n t m s c : Bool) : Bool := orB un n && (orB ut t && (orB um m && (orB us s && orB uc c)))
theorem bare_no1 (un ut um us uc n t m s c : Bool) (h1 : un = false) (h2 : n = false) : bareB un ut um us uc n t m s c = false := by subst h1; subst h2; rfl
set_option maxHeartbeats 16000000 in
theorem ounused_any (k s c k2 us uc : Int) (n t m un ut um : ByteArray) (w : World) :
    Calls Tryz.prog 26 #[.agg (hdC k n t m s c), .agg (hdC k2 un ut um us uc)] w fun e w' => e = .returned (.bool (bareB (!decide (un.toList = [])) (!decide (ut.toList = [])) (!decide (um.toList = [])) (!decide (us = 0)) (!decide (uc = 0)) (decide (n.toList = [])) (decide (t.toList = [])) (decide (m.toList = [])) (decide (s = 0)) (c == 0))) ∧ Below w.heap.size w w' := by
  have hb : ∀ a b, Below w.heap.size w ((w.alloc (.cells a 23)).alloc (.cells b 23)) := fun a b => ((Below.refl _ w).alloc (Nat.le_refl _) _).alloc (by simp) _
  have HB := Lib.hid hb; clear hb
  go_enter Tryz.func26, Tryz.ntmps26
  go_wp2
  all_goals
    go_ret
    refine ⟨ret_boolO ?_, HB.out _ _⟩
    simp_all [bareB, orB]
theorem below1 (w : World) (o : Obj) : Below w.heap.size w (w.alloc o) := (Below.refl _ w).alloc (Nat.le_refl _) _
set_option maxHeartbeats 4000000 in
theorem yes_any (h : Array Value) (w : World) : Calls Tryz.prog 54 #[.agg h] w fun e w' => e = .returned (.bool true) ∧ Below w.heap.size w w' := by
  go_enter Tryz.func54, Tryz.ntmps54
  go_wp2
  go_ret
  exact ⟨rfl, below1 _ _⟩
def rt2 (s : Int) : Bool := decide (200 ≤ s) && decide (s ≤ 599)
set_option maxHeartbeats 4000000 in
theorem lit2_any (k s c : Int) (n t m : ByteArray) (w : World) : Calls Tryz.prog 50 #[.agg (hdC k n t m s c)] w fun e w' => e = .returned (.bool (rt2 s)) ∧ Below w.heap.size w w' := by
  go_enter Tryz.func50, Tryz.ntmps50
  go_wp2
  all_goals
    go_ret
    refine ⟨ret_boolO ?_, below1 _ _⟩
    unfold rt2
    (try simp_all)
    (try omega)
def rt5 (c : Int) : Bool := decide (1 ≤ c) && decide (c ≤ 1000)
set_option maxHeartbeats 4000000 in
theorem lit5_any (k s c : Int) (n t m : ByteArray) (w : World) : Calls Tryz.prog 59 #[.agg (hdC k n t m s c)] w fun e w' => e = .returned (.bool (rt5 c)) ∧ Below w.heap.size w w' := by
  go_enter Tryz.func59, Tryz.ntmps59
  go_wp2
  all_goals
    go_ret
    refine ⟨ret_boolO ?_, below1 _ _⟩
    unfold rt5
    (try simp_all)
    (try omega)
set_option maxHeartbeats 4000000 in
theorem lit6_any (k s c : Int) (n t m : ByteArray) (w : World) (hs : n.size ≤ 1099511627776) (hg : SgAt w) : Calls Tryz.prog 61 #[.agg (hdC k n t m s c)] w fun e w' => e = .returned (.bool (isTok n.data.toList)) ∧ Below w.heap.size w w' := by
  have HC := Lib.hid (otoken_any n (w.alloc (.cells (hdC k n t m s c) 23)) hs (hg.below (below1 w _)))
  go_enter Tryz.func61, Tryz.ntmps61
  go_wp2_with fail
  refine (HC.out).mono ?_
  rintro e w1 ⟨rfl, rfl⟩
  go_wp2
  go_ret
  exact ⟨rfl, below1 _ _⟩
def rt4 (n : List UInt8) (c : Int) : Bool := (n.isEmpty || isNm n) && (c == 0 || c == 1)
set_option maxHeartbeats 4000000 in
theorem lit4_any (k s c : Int) (n t m : ByteArray) (w : World) (hs : n.size ≤ 1099511627776) : Calls Tryz.prog 57 #[.agg (hdC k n t m s c)] w fun e w' => e = .returned (.bool (rt4 n.data.toList c)) ∧ Below w.heap.size w w' := by
  have HN := Lib.hid (oisname_any n (w.alloc (.cells (hdC k n t m s c) 23)) hs)
  have HBW := Lib.hid (show ∀ a, Below w.heap.size w (w.alloc (.cells a 23)) from fun a => below1 w _)
  have e1 := toL n
  cases hemp : n.toList.isEmpty with
  | true =>
    have e2 : n.data.toList.isEmpty = true := by rw [← e1]; exact hemp
    have HE := Lib.hid e2
    clear e1 e2
    go_enter Tryz.func57, Tryz.ntmps57
    go_wp2
    all_goals
      go_ret
      refine ⟨ret_boolO ?_, HBW.out _⟩
      unfold rt4
      rw [HE.out]
      simp_all
  | false =>
    have e2 : n.data.toList.isEmpty = false := by rw [← e1]; exact hemp
    have HE := Lib.hid e2
    have e3 : ¬ n.toList = [] := by intro h; rw [h] at hemp; cases hemp
    cases hnm : isNm n.data.toList with
    | false =>
      have H2 := Lib.hid hnm
      rw [hnm] at HN
      clear e1 e2 hnm
      go_enter Tryz.func57, Tryz.ntmps57
      go_wp2_with fail
      refine (HN.out).mono ?_
      rintro e w1 ⟨rfl, hb1⟩
      have HB := Lib.hid ((HBW.out _).trans (hb1.mono (HBW.out (hdC k n t m s c)).size))
      clear hb1
      go_wp2
      go_ret
      refine ⟨ret_boolO ?_, HB.out⟩
      unfold rt4
      rw [HE.out, H2.out]
      rfl
    | true =>
      have H2 := Lib.hid hnm
      rw [hnm] at HN
      clear e1 e2 hnm
      go_enter Tryz.func57, Tryz.ntmps57
      go_wp2_with fail
      refine (HN.out).mono ?_
      rintro e w1 ⟨rfl, hb1⟩
      have hbx := (HBW.out _).trans (hb1.mono (HBW.out (hdC k n t m s c)).size)
      have c5 : w1.cell? ⟨w.heap.size, 5, none⟩ = some (.int .i64 c) := by
        rw [hb1.cell (p := ⟨w.heap.size, 5, none⟩) (by simp), Lib.cell_of_heap (heap_alloc_new w _)]
        rfl
      have HB := Lib.hid hbx
      clear hb1 hbx
      go_wp2
      all_goals
        go_ret
        refine ⟨ret_boolO ?_, HB.out⟩
        unfold rt4
        rw [HE.out, H2.out]
        simp_all
def rt1 (m : List UInt8) (s : Int) : Bool := rt2 s && (s != 204 && (s != 304 && (!m.isEmpty && isVal m)))
set_option maxHeartbeats 4000000 in
theorem lit1_any (k s c : Int) (n t m : ByteArray) (w : World) (hs : m.size ≤ 1099511627776) : Calls Tryz.prog 47 #[.agg (hdC k n t m s c)] w fun e w' => e = .returned (.bool (rt1 m.data.toList s)) ∧ Below w.heap.size w w' := by
  have HN := Lib.hid (oisvalue_any m (w.alloc (.cells (hdC k n t m s c) 23)) hs)
  have HBW := Lib.hid (show ∀ a, Below w.heap.size w (w.alloc (.cells a 23)) from fun a => below1 w _)
  have e1 := toL m
  by_cases hg : (200 ≤ s ∧ s ≤ 599) ∧ s ≠ 204 ∧ s ≠ 304 ∧ m.toList.isEmpty = false
  · obtain ⟨⟨g1, g2⟩, g3, g4, g5⟩ := hg
    have e3 : ¬ m.toList = [] := by intro h; rw [h] at g5; cases g5
    have f3 : (s != 204) = true := by simpa using g3
    have f4 : (s != 304) = true := by simpa using g4
    have hX : rt1 m.data.toList s = isVal m.data.toList := by
      unfold rt1 rt2
      rw [decide_eq_true g1, decide_eq_true g2, ← e1, g5, f3, f4]
      rfl
    have HX := Lib.hid hX
    clear hX e1 g3 g4
    go_enter Tryz.func47, Tryz.ntmps47
    go_wp2_with fail
    refine (HN.out).mono ?_
    rintro e w1 ⟨rfl, hb1⟩
    have HB := Lib.hid ((HBW.out _).trans (hb1.mono (HBW.out (hdC k n t m s c)).size))
    clear hb1
    obtain ⟨b, hb⟩ : ∃ b, isVal m.data.toList = b := ⟨_, rfl⟩
    rw [hb] at HX ⊢
    clear hb
    go_wp2
    go_ret
    exact ⟨ret_boolO HX.out.symm, HB.out⟩
  · have hX : rt1 m.data.toList s = false := by
      cases hx : rt1 m.data.toList s with
      | false => rfl
      | true =>
        exfalso
        apply hg
        unfold rt1 rt2 at hx
        rw [e1]
        simp only [Bool.and_eq_true, decide_eq_true_eq, bne_iff_ne, Bool.not_eq_true'] at hx
        exact ⟨hx.1, hx.2.1, hx.2.2.1, hx.2.2.2.1⟩
    have HX := Lib.hid hX
    have hg2 : s < 200 ∨ 599 < s ∨ s = 204 ∨ s = 304 ∨ (((200 ≤ s ∧ s ≤ 599) ∧ s ≠ 204 ∧ s ≠ 304) ∧ m.toList.isEmpty = true) := by
      cases hm : m.toList.isEmpty with
      | true => simp only [and_true]; omega
      | false => rw [hm] at hg; simp only [and_true] at hg; omega
    clear hX e1 hg
    rcases hg2 with g | g | g | g | ⟨⟨⟨g1, g2⟩, g3, g4⟩, g5⟩
    case' inr.inr.inr.inr => have e3 : m.toList = [] := by simpa using g5
    case' inr.inr.inr.inr => have f3 : (s != 204) = true := by simpa using g3
    case' inr.inr.inr.inr => have f4 : (s != 304) = true := by simpa using g4
    case' inr.inr.inr.inr => clear g3 g4
    case' inr.inr.inl => subst g
    case' inr.inr.inr.inl => subst g
    all_goals
      go_enter Tryz.func47, Tryz.ntmps47
      go_wp2
      all_goals
        go_ret
        exact ⟨ret_boolO HX.out.symm, HBW.out _⟩
end Go.Proofs.YtdlpbpikhmciaaaGreatDoor
