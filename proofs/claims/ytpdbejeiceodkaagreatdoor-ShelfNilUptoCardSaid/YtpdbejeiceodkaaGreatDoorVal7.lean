/- The walks of valued: accept's and the reference's: the plain function allVal. Conditions: fewer than 2^41 parameters. -/
import Derived.Test.YtpdbejeiceodkaaGreatDoorMedP
import Derived.Test.YtpdbejeiceodkaaGreatDoorOct1
import Derived.Test.YtpdbejeiceodkaaGreatDoorParM
namespace Go.Proofs.YtpdbejeiceodkaaGreatDoor
open Go.RowKit
set_option linter.unusedSimpArgs false
set_option linter.unusedVariables false
set_option maxRecDepth 1000000
theorem allVal_take (ps : List Par) (i : Nat) (p : Par) (h : ps[i]? = some p) (ha : allVal (ps.take i) = true) (hp : p.2.2 = true) : allVal (ps.take (i + 1)) = true := by
  unfold allVal at ha ⊢
  exact take_all _ ps i p h ha hp
set_option maxHeartbeats 4000000 in
theorem ovalued_any (v : Value) (l : List Par) (w : World) (hN : l.length ≤ 2199023255552) (h : ParsIn w v l) :
    Calls Tryz.prog 109 #[v] w fun e w' => e = .returned (.bool (allVal l)) ∧ Below w.heap.size w w' := by
  obtain ⟨ao, cap, rfl, hat⟩ := h
  obtain ⟨L, hL⟩ : ∃ L, w.heap.size = L := ⟨_, rfl⟩
  have hbb : Below L w w := by rw [← hL]; exact Below.refl _ w
  have HL := Lib.hid hL; clear hL
  have HATW := Lib.hid hat; clear hat
  go_enter Tryz.func109, Tryz.ntmps109
  go_wp2
  go_loopw [7] (fun iv wr => ∃ i : Nat, iv = .int .i64 i ∧ i ≤ l.length ∧ allVal (l.take i) = true ∧ Below L w wr) (fun iv _ => l.length - (intOf iv).toNat)
  case atStart => exact ⟨0, rfl, Nat.zero_le _, rfl, hbb⟩
  case round =>
    clear hbb
    obtain ⟨i, rfl, hi, hok, hb⟩ := hrel
    by_cases hlt : i < l.length
    · obtain ⟨p, hp⟩ : ∃ p, l[i]? = some p := ⟨_, List.getElem?_eq_getElem hlt⟩
      have hb' : Below w.heap.size w wr := by rw [HL.out]; exact hb
      obtain ⟨g, o, rfl, hg, c0, c1, c2⟩ := HATW.out.below hb' i p hp
      have k0 : (0 : Int) ≤ (i : Int) := Int.natCast_nonneg _
      have k1 : (i : Int) < (l.length : Int) := by omega
      have hwi := wrap64_small i (Nat.le_trans hi hN)
      have hb2 : Below L w (wr.alloc (.cells #[.string ⟨p.1.toArray⟩, .string ⟨p.2.1.toArray⟩, .bool p.2.2] 214)) := hb.alloc (bsz hb HL) _
      obtain ⟨p1, p2, p3⟩ := p
      simp only at c0 c1 c2 hb2
      have HB2 := Lib.hid hb2
      have HW := Lib.hid hwi
      cases p3 with
      | true =>
        have HST := Lib.hid (allVal_take l i _ hp hok rfl)
        clear hb hb' hp hok hb2 hwi
        go_wp2
        have hwi := HW.out
        go_roundw
        case rel => (try rw [hwi]); clear hwi; exact ⟨i + 1, by go_num, hlt, HST.out, HB2.out⟩
        case measure => (try rw [hwi]); clear hwi; simp [intOf]; omega
      | false =>
        have HST := Lib.hid (allVal_no l i _ hp rfl)
        clear hb hb' hp hok hb2 hwi
        go_wp2
        go_ret
        rw [HST.out, HL.out]
        exact ⟨rfl, HB2.out⟩
    · obtain rfl : i = l.length := by omega
      have hd : decide (l.length < l.length) = false := decide_eq_false (Nat.lt_irrefl _)
      rw [List.take_length] at hok
      have HX := Lib.hid (And.intro hok hb)
      clear hok hb
      go_wp2
      go_ret
      rw [HX.out.1, HL.out]
      exact ⟨rfl, HX.out.2⟩
set_option maxHeartbeats 4000000 in
theorem rvalued_any (v : Value) (l : List Par) (w : World) (hN : l.length ≤ 2199023255552) (h : ParsIn w v l) :
    Calls Tryz.prog 83 #[v] w fun e w' => e = .returned (.bool (allVal l)) ∧ w' = w := by
  obtain ⟨ao, cap, rfl, hat⟩ := h
  have HATW := Lib.hid hat; clear hat
  go_enter Tryz.func83, Tryz.ntmps83
  go_wp2
  go_loopw [3] (fun iv wr => ∃ i : Nat, iv = .int .i64 i ∧ i ≤ l.length ∧ allVal (l.take i) = true ∧ wr = w) (fun iv _ => l.length - (intOf iv).toNat)
  case atStart => exact ⟨0, rfl, Nat.zero_le _, rfl, rfl⟩
  case round =>
    obtain ⟨i, rfl, hi, hok, rfl⟩ := hrel
    by_cases hlt : i < l.length
    · obtain ⟨p, hp⟩ : ∃ p, l[i]? = some p := ⟨_, List.getElem?_eq_getElem hlt⟩
      obtain ⟨g, o, rfl, hg, c0, c1, c2⟩ := HATW.out i p hp
      have k0 : (0 : Int) ≤ (i : Int) := Int.natCast_nonneg _
      have k1 : (i : Int) < (l.length : Int) := by omega
      have hwi := wrap64_small i (Nat.le_trans hi hN)
      obtain ⟨p1, p2, p3⟩ := p
      simp only at c0 c1 c2
      have HW := Lib.hid hwi
      cases p3 with
      | true =>
        have HST := Lib.hid (allVal_take l i _ hp hok rfl)
        clear hp hok hwi
        go_wp2
        have hwi := HW.out
        go_roundw
        case rel => (try rw [hwi]); clear hwi; exact ⟨i + 1, by go_num, hlt, HST.out, by first | rfl | trivial⟩
        case measure => (try rw [hwi]); clear hwi; simp [intOf]; omega
      | false =>
        have HST := Lib.hid (allVal_no l i _ hp rfl)
        clear hp hok hwi
        go_wp2
        go_ret
        rw [HST.out]
        exact ⟨rfl, rfl⟩
    · obtain rfl : i = l.length := by omega
      have hd : decide (l.length < l.length) = false := decide_eq_false (Nat.lt_irrefl _)
      rw [List.take_length] at hok
      have HX := Lib.hid hok
      clear hok
      go_wp2
      go_ret
      rw [HX.out]
      exact ⟨rfl, rfl⟩
end Go.Proofs.YtpdbejeiceodkaaGreatDoor
