/- The walks of handle.param and the reference's value: the first parameter of a name. Conditions: at most 2^30 parameters. -/
import Derived.Test.YtdlpbpikhmciaaaGreatDoorHdP
import Derived.Test.YtdlpbpikhmciaaaGreatDoorOct1
namespace Go.Proofs.YtdlpbpikhmciaaaGreatDoor
open Go.RowKit
set_option linter.unusedSimpArgs false
set_option linter.unusedVariables false
set_option maxRecDepth 1000000
theorem small30h (i n : Nat) (h : i ≤ n) (hn : n ≤ 1073741824) : i ≤ 2199023255552 := by omega
theorem valL_drop (l : List Par) (n : List UInt8) (i : Nat) (p : Par) (h : l[i]? = some p) : valL (l.drop i) n = if p.1 = n then p.2.1 else valL (l.drop (i + 1)) n := by
  have hlt := (List.getElem?_eq_some_iff.1 h).1
  have he := (List.getElem?_eq_some_iff.1 h).2
  rw [List.drop_eq_getElem_cons hlt, he]
  rfl
set_option maxHeartbeats 4000000 in
theorem oparam_any (v : Value) (l : List Par) (n : List UInt8) (w : World) (hN : l.length ≤ 1073741824) (h : ParsIn w v l) :
    Calls Tryz.prog 34 #[v, .string ⟨n.toArray⟩] w fun e w' => e = .returned (.string ⟨(valL l n).toArray⟩) ∧ Below w.heap.size w w' := by
  obtain ⟨ao, cap, rfl, hat⟩ := h
  have HAT := Lib.hid hat
  clear hat
  go_enter Tryz.func34, Tryz.ntmps34
  go_wp2
  go_loopw [9] (fun iv wr => ∃ i : Nat, iv = .int .i64 i ∧ i ≤ l.length ∧ valL (l.drop i) n = valL l n ∧ Below w.heap.size w wr) (fun iv _ => l.length - (intOf iv).toNat)
  case atStart => exact ⟨0, rfl, Nat.zero_le _, rfl, Below.refl _ _⟩
  case round =>
    obtain ⟨i, rfl, hi, hv, hb⟩ := hrel
    by_cases hlt : i < l.length
    · obtain ⟨p, hp⟩ : ∃ p, l[i]? = some p := ⟨_, List.getElem?_eq_getElem hlt⟩
      have hat := HAT.out.below (w' := wr) hb
      obtain ⟨g, o, rfl, _, c0, c1, c2⟩ := hat i p hp
      clear hat
      have k0 : (0 : Int) ≤ (i : Int) := Int.natCast_nonneg _
      have k1 : (i : Int) < (l.length : Int) := by omega
      have hwi := wrap64_small i (small30h i _ hi hN)
      have hvd := valL_drop l n i p hp
      obtain ⟨p1, p2, p3⟩ := p
      simp only at c0 c1 c2 hvd
      have hb2 := hb.alloc hb.size (.cells #[.string ⟨p1.toArray⟩, .string ⟨p2.toArray⟩, .bool p3] 33)
      have HB2 := Lib.hid hb2; have HW := Lib.hid hwi; have HP := Lib.hid hp
      clear hb hb2 hwi hp
      by_cases hE : p1 = n
      · rw [if_pos hE, hv] at hvd
        have HV := Lib.hid hvd
        have hE2 : (p1 == n) = true := by simpa using hE
        clear hvd hv hE
        go_wp2
        go_ret
        rw [HV.out]
        exact ⟨rfl, HB2.out⟩
      · rw [if_neg hE, hv] at hvd
        have HV := Lib.hid hvd
        have hE2 : (p1 == n) = false := by simpa using hE
        clear hvd hv hE
        go_wp2
        have hwi := HW.out
        go_roundw
        case rel => (try rw [hwi]); clear hwi; exact ⟨i + 1, by go_num, hlt, HV.out.symm, HB2.out⟩
        case measure => (try rw [hwi]); clear hwi; simp [intOf]; omega
    · obtain rfl : i = l.length := by omega
      have hd : decide (l.length < l.length) = false := decide_eq_false (Nat.lt_irrefl _)
      rw [List.drop_length] at hv
      have HX := Lib.hid (And.intro hv hb)
      clear hv hb
      go_wp2
      go_ret
      rw [← HX.out.1]
      exact ⟨rfl, HX.out.2⟩
set_option maxHeartbeats 4000000 in
theorem rvalue_any (v : Value) (l : List Par) (n : List UInt8) (w : World) (hN : l.length ≤ 1073741824) (h : ParsIn w v l) :
    Calls Tryz.prog 38 #[v, .string ⟨n.toArray⟩] w fun e w' => e = .returned (.string ⟨(valL l n).toArray⟩) ∧ Below w.heap.size w w' := by
  obtain ⟨ao, cap, rfl, hat⟩ := h
  have HAT := Lib.hid hat
  clear hat
  go_enter Tryz.func38, Tryz.ntmps38
  go_wp2
  go_loopw [9] (fun iv wr => ∃ i : Nat, iv = .int .i64 i ∧ i ≤ l.length ∧ valL (l.drop i) n = valL l n ∧ Below w.heap.size w wr) (fun iv _ => l.length - (intOf iv).toNat)
  case atStart => exact ⟨0, rfl, Nat.zero_le _, rfl, Below.refl _ _⟩
  case round =>
    obtain ⟨i, rfl, hi, hv, hb⟩ := hrel
    by_cases hlt : i < l.length
    · obtain ⟨p, hp⟩ : ∃ p, l[i]? = some p := ⟨_, List.getElem?_eq_getElem hlt⟩
      have hat := HAT.out.below (w' := wr) hb
      obtain ⟨g, o, rfl, _, c0, c1, c2⟩ := hat i p hp
      clear hat
      have k0 : (0 : Int) ≤ (i : Int) := Int.natCast_nonneg _
      have k1 : (i : Int) < (l.length : Int) := by omega
      have hwi := wrap64_small i (small30h i _ hi hN)
      have hvd := valL_drop l n i p hp
      obtain ⟨p1, p2, p3⟩ := p
      simp only at c0 c1 c2 hvd
      have hb2 := hb.alloc hb.size (.cells #[.string ⟨p1.toArray⟩, .string ⟨p2.toArray⟩, .bool p3] 91)
      have HB2 := Lib.hid hb2; have HW := Lib.hid hwi; have HP := Lib.hid hp
      clear hb hb2 hwi hp
      by_cases hE : p1 = n
      · rw [if_pos hE, hv] at hvd
        have HV := Lib.hid hvd
        have hE2 : (p1 == n) = true := by simpa using hE
        clear hvd hv hE
        go_wp2
        go_ret
        rw [HV.out]
        exact ⟨rfl, HB2.out⟩
      · rw [if_neg hE, hv] at hvd
        have HV := Lib.hid hvd
        have hE2 : (p1 == n) = false := by simpa using hE
        clear hvd hv hE
        go_wp2
        have hwi := HW.out
        go_roundw
        case rel => (try rw [hwi]); clear hwi; exact ⟨i + 1, by go_num, hlt, HV.out.symm, HB2.out⟩
        case measure => (try rw [hwi]); clear hwi; simp [intOf]; omega
    · obtain rfl : i = l.length := by omega
      have hd : decide (l.length < l.length) = false := decide_eq_false (Nat.lt_irrefl _)
      rw [List.drop_length] at hv
      have HX := Lib.hid (And.intro hv hb)
      clear hv hb
      go_wp2
      go_ret
      rw [← HX.out.1]
      exact ⟨rfl, HX.out.2⟩
end Go.Proofs.YtdlpbpikhmciaaaGreatDoor
