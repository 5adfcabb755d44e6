/- The walks of the reference's Blank, Inside, Trim and IsValue of layer 6, and of field.IsValue. Conditions: fewer than 2^40 bytes. -/
import Derived.Test.YtdlpbpikhmciaaaGreatDoorPk05
import Derived.Test.YtdlpbpikhmciaaaGreatDoorPk01
namespace Go.Proofs.YtdlpbpikhmciaaaGreatDoor
open Go.RowKit
set_option linter.unusedSimpArgs false
set_option linter.unusedVariables false
set_option maxRecDepth 1000000
set_option maxHeartbeats 1000000 in
theorem r6blank_any (c : UInt8) (w : World) : Calls Tryz.prog 97 #[.int .u8 (c.toNat : Int)] w fun e w' => e = .returned (.bool (isBl c)) ∧ w' = w := by
  obtain ⟨n, hn⟩ : ∃ n, c.toNat = n := ⟨_, rfl⟩
  rw [hn]
  have HN := Lib.hid hn; clear hn
  go_enter Tryz.func97, Tryz.ntmps97
  go_wp2
  all_goals
    go_ret
    refine ⟨ret_boolO ?_, by first | rfl | trivial⟩
    rw [isBl_nat _ _ HN.out, Bool.eq_iff_iff]
    simp only [Bool.or_eq_true, decide_eq_true_eq, beq_iff_eq, true_iff, iff_true]
    omega
set_option maxHeartbeats 1000000 in
theorem r6inside_any (c : UInt8) (w : World) : Calls Tryz.prog 64 #[.int .u8 (c.toNat : Int)] w fun e w' => e = .returned (.bool (isFb c)) ∧ w' = w := by
  obtain ⟨n, hn⟩ : ∃ n, c.toNat = n := ⟨_, rfl⟩
  rw [hn]
  have HN := Lib.hid hn; clear hn
  go_enter Tryz.func64, Tryz.ntmps64
  go_wp2
  all_goals
    go_ret
    refine ⟨ret_boolO ?_, by first | rfl | trivial⟩
    rw [isFb_nat _ _ HN.out, Bool.eq_iff_iff]
    simp only [Bool.or_eq_true, Bool.and_eq_true, decide_eq_true_eq, beq_iff_eq, bne_iff_ne, true_iff, iff_true, Bool.false_eq_true, false_iff, iff_false]
    omega
set_option maxHeartbeats 4000000 in
theorem r6trim_any (s : ByteArray) (w : World) (hs : s.size ≤ 1099511627776) :
    Calls Tryz.prog 65 #[.string s] w fun e w' => e = .returned (.string ⟨(trimL s.data.toList).toArray⟩) ∧ w' = w := by
  go_enter Tryz.func65, Tryz.ntmps65
  go_wp2
  go_loopw [0] (fun v wr => ∃ t : ByteArray, v = .string t ∧ t.size ≤ s.size ∧ t.data.toList.dropWhile isBl = s.data.toList.dropWhile isBl ∧ wr = w) (fun v _ => match v with | .string t => t.size | _ => 0)
  case atStart => exact ⟨s, rfl, Nat.le_refl _, rfl, rfl⟩
  case round =>
    obtain ⟨t, rfl, hts, hdw, rfl⟩ := hrel
    by_cases h0 : t.size = 0
    · have hd1 : trimL s.data.toList = trimR t.data.toList := by rw [trimL_eq, ← hdw, list_nil_o t h0]; rfl
      have e0 : t.toList.isEmpty = true := by rw [ByteArray.toList_eq, list_nil_o t h0]; rfl
      have e1 : t.toList = [] := by rw [ByteArray.toList_eq, list_nil_o t h0]
      have z0 : ¬ (0 : Int) < (t.size : Int) := by omega
      have HD := Lib.hid (And.intro hd1 hts)
      clear hd1 hdw h0 hts
      go_wp2
      go_loopw [0] (fun v wq => ∃ u : ByteArray, v = .string u ∧ u.size ≤ s.size ∧ trimR u.data.toList = trimR t.data.toList ∧ wq = wr) (fun v _ => match v with | .string t => t.size | _ => 0)
      case atStart => exact ⟨t, rfl, HD.out.2, rfl, rfl⟩
      case round =>
        clear e0 e1
        obtain ⟨u, rfl, hus, htr, rfl⟩ := hrel
        by_cases h0 : u.size = 0
        · have hres : trimL s.data.toList = [] := by rw [HD.out.1, ← htr, list_nil_o u h0]; rfl
          obtain rfl := emp_o u h0
          have HRS := Lib.hid hres
          clear hres htr h0
          go_wp2
          go_ret
          exact ⟨by rw [HRS.out]; rfl, rfl⟩
        · have hpos : 0 < u.size := by omega
          obtain ⟨j, hj⟩ : ∃ j, j + 1 = u.size := ⟨u.size - 1, by omega⟩
          have hlt : j < u.size := by omega
          obtain ⟨c, hc⟩ : ∃ c, u[j]'hlt = c := ⟨_, rfl⟩
          have hget := list_get u j hlt
          rw [hc] at hget
          have hlast := last_list u j hj c hget
          have e0 := full_o u hpos
          have e1 := full_o2 u hpos
          have f1 : (u.size : Int) - 1 = (j : Int) := by omega
          have p0 : (0 : Int) ≤ (j : Int) := by omega
          have p00 : (0 : Int) < (u.size : Int) := by omega
          have p1 : (j : Int) < (u.size : Int) := by omega
          have p2 : (j : Int) ≤ (u.size : Int) := by omega
          have HJ := Lib.hid hj
          clear h0 hget hj
          cases hb : isBl c with
          | true =>
            have hx : trimR (u.data.toList.take j) = trimR t.data.toList := by rw [← htr, hlast, trimR_snoc_bl _ _ hb, List.take_append_of_le_length (by rw [List.length_take, size_list]; omega), List.take_take, Nat.min_self]
            have hsz : (u.extract 0 j).size < u.size ∧ (u.extract 0 j).size ≤ s.size := by rw [ext_front, size_mk, List.length_take, size_list]; omega
            have HX := Lib.hid (And.intro hx (And.intro hb hsz))
            clear hx hb hsz htr hlast
            go_wp2_with fail
            refine (r6blank_any c _).mono ?_
            rintro e w ⟨rfl, rfl⟩
            rw [HX.out.2.1]
            go_wp2
            go_roundw
            case rel => exact ⟨_, rfl, HX.out.2.2.2, by rw [ext_front]; exact HX.out.1, by first | rfl | trivial⟩
            case measure => exact HX.out.2.2.1
          | false =>
            have hres : trimL s.data.toList = u.data.toList := by rw [HD.out.1, ← htr, hlast, trimR_snoc_other _ _ hb]
            have HX := Lib.hid (And.intro hres hb)
            clear hres hb htr hlast
            go_wp2_with fail
            refine (r6blank_any c _).mono ?_
            rintro e w ⟨rfl, rfl⟩
            rw [HX.out.2]
            go_wp2
            go_ret
            refine ⟨?_, rfl⟩
            rw [HX.out.1, str_eq]; rfl
    · have hpos : 0 < t.size := by omega
      obtain ⟨c, hc⟩ : ∃ c, t[0]'hpos = c := ⟨_, rfl⟩
      have hget := drop_get t 0 hpos
      rw [hc, List.drop_zero] at hget
      have e0 := full_o t hpos
      have e1 := full_o2 t hpos
      have p0 : (0 : Int) < (t.size : Int) := by omega
      clear h0
      cases hb : isBl c with
      | true =>
        have hx : (t.data.toList.drop 1).dropWhile isBl = s.data.toList.dropWhile isBl := by rw [← hdw, hget, List.dropWhile_cons_of_pos hb]; rfl
        have hsz : (t.extract 1 t.size).size < t.size ∧ (t.extract 1 t.size).size ≤ s.size := by rw [ext_back, size_mk, List.length_drop, size_list]; omega
        have hp1 : (1 : Int) ≤ (t.size : Int) := by omega
        have HX := Lib.hid (And.intro hx (And.intro hb hsz))
        clear hx hb hsz hdw hget
        go_wp2_with fail
        refine (r6blank_any c _).mono ?_
        rintro e w ⟨rfl, rfl⟩
        rw [HX.out.2.1]
        go_wp2
        go_roundw
        case rel => exact ⟨_, rfl, HX.out.2.2.2, by rw [ext_back]; exact HX.out.1, by first | rfl | trivial⟩
        case measure => exact HX.out.2.2.1
      | false =>
        have hd1 : trimL s.data.toList = trimR t.data.toList := by rw [trimL_eq, ← hdw, hget, List.dropWhile_cons_of_neg (by rw [hb]; simp)]
        have HB := Lib.hid hb
        have HD := Lib.hid (And.intro hd1 hts)
        clear hd1 hdw hb hts hget
        go_wp2_with fail
        refine (r6blank_any c _).mono ?_
        rintro e w ⟨rfl, rfl⟩
        rw [HB.out]
        clear e0 e1 p0 hc HB hpos
        go_wp2
        go_loopw [0] (fun v wq => ∃ u : ByteArray, v = .string u ∧ u.size ≤ s.size ∧ trimR u.data.toList = trimR t.data.toList ∧ wq = w) (fun v _ => match v with | .string t => t.size | _ => 0)
        case atStart => exact ⟨t, rfl, HD.out.2, rfl, rfl⟩
        case round =>
          obtain ⟨u, rfl, hus, htr, rfl⟩ := hrel
          by_cases h0 : u.size = 0
          · have hres : trimL s.data.toList = [] := by rw [HD.out.1, ← htr, list_nil_o u h0]; rfl
            obtain rfl := emp_o u h0
            have HRS := Lib.hid hres
            clear hres htr h0
            go_wp2
            go_ret
            exact ⟨by rw [HRS.out]; rfl, rfl⟩
          · have hpos : 0 < u.size := by omega
            obtain ⟨j, hj⟩ : ∃ j, j + 1 = u.size := ⟨u.size - 1, by omega⟩
            have hlt : j < u.size := by omega
            obtain ⟨c, hc⟩ : ∃ c, u[j]'hlt = c := ⟨_, rfl⟩
            have hget := list_get u j hlt
            rw [hc] at hget
            have hlast := last_list u j hj c hget
            have e0 := full_o u hpos
            have e1 := full_o2 u hpos
            have f1 : (u.size : Int) - 1 = (j : Int) := by omega
            have p0 : (0 : Int) ≤ (j : Int) := by omega
            have p00 : (0 : Int) < (u.size : Int) := by omega
            have p1 : (j : Int) < (u.size : Int) := by omega
            have p2 : (j : Int) ≤ (u.size : Int) := by omega
            have HJ := Lib.hid hj
            clear h0 hget hj
            cases hb : isBl c with
            | true =>
              have hx : trimR (u.data.toList.take j) = trimR t.data.toList := by rw [← htr, hlast, trimR_snoc_bl _ _ hb, List.take_append_of_le_length (by rw [List.length_take, size_list]; omega), List.take_take, Nat.min_self]
              have hsz : (u.extract 0 j).size < u.size ∧ (u.extract 0 j).size ≤ s.size := by rw [ext_front, size_mk, List.length_take, size_list]; omega
              have HX := Lib.hid (And.intro hx (And.intro hb hsz))
              clear hx hb hsz htr hlast
              go_wp2_with fail
              refine (r6blank_any c _).mono ?_
              rintro e w ⟨rfl, rfl⟩
              rw [HX.out.2.1]
              go_wp2
              go_roundw
              case rel => exact ⟨_, rfl, HX.out.2.2.2, by rw [ext_front]; exact HX.out.1, by first | rfl | trivial⟩
              case measure => exact HX.out.2.2.1
            | false =>
              have hres : trimL s.data.toList = u.data.toList := by rw [HD.out.1, ← htr, hlast, trimR_snoc_other _ _ hb]
              have HX := Lib.hid (And.intro hres hb)
              clear hres hb htr hlast
              go_wp2_with fail
              refine (r6blank_any c _).mono ?_
              rintro e w ⟨rfl, rfl⟩
              rw [HX.out.2]
              go_wp2
              go_ret
              refine ⟨?_, rfl⟩
              rw [HX.out.1, str_eq]; rfl
/-- A field's value. -/
def isVal (l : List UInt8) : Bool := decide (l.length ≤ 8192) && (isFld l && (trimL l == l))
set_option maxHeartbeats 4000000 in
theorem oisvalue_any (s : ByteArray) (w : World) (hs : s.size ≤ 1099511627776) :
    Calls Tryz.prog 48 #[.string s] w fun e w' => e = .returned (.bool (isVal s.data.toList)) ∧ Below w.heap.size w w' := by
  have htr := fun W => otrim_any s W (by omega)
  obtain ⟨t, ht⟩ : ∃ t : ByteArray, ⟨(trimL s.data.toList).toArray⟩ = t := ⟨_, rfl⟩
  rw [ht] at htr
  have hTL : t.toList = trimL s.data.toList := by rw [← ht, ByteArray.toList_eq]
  have HTR := Lib.hid htr
  have e1 : (t.toList == s.toList) = (trimL s.data.toList == s.data.toList) := by rw [hTL, ByteArray.toList_eq]
  unfold isVal
  rw [size_list]
  clear htr hTL ht
  by_cases hl : s.size ≤ 8192
  case neg =>
    have hd : decide (s.size ≤ 8192) = false := decide_eq_false hl
    have i1 : ¬ (s.size : Int) ≤ 8192 := by omega
    rw [hd]
    clear hl hd
    go_enter Tryz.func48, Tryz.ntmps48
    go_wp2
    go_ret
    exact ⟨rfl, Below.refl _ _⟩
  have hd : decide (s.size ≤ 8192) = true := decide_eq_true hl
  have i1 : (s.size : Int) ≤ 8192 := by omega
  rw [hd]
  have HS := Lib.hid hs
  clear hl hd hs
  cases hF : isFld s.data.toList with
  | false =>
    have HF := Lib.hid hF
    clear hF
    go_enter Tryz.func48, Tryz.ntmps48
    go_wp2_with fail
    refine (oisfield_any s _ HS.out).mono ?_
    rintro e w2 ⟨rfl, rfl⟩
    rw [HF.out]
    go_wp2
    go_ret
    exact ⟨rfl, Below.refl _ _⟩
  | true =>
    have HF := Lib.hid hF
    clear hF
    obtain ⟨b, hb⟩ : ∃ b, (trimL s.data.toList == s.data.toList) = b := ⟨_, rfl⟩
    rw [hb] at e1 ⊢
    clear hb
    go_enter Tryz.func48, Tryz.ntmps48
    go_wp2_with fail
    refine (oisfield_any s _ HS.out).mono ?_
    rintro e w2 ⟨rfl, rfl⟩
    rw [HF.out]
    go_wp2_with fail
    refine (HTR.out _).mono ?_
    rintro e w3 ⟨rfl, hb3⟩
    have HB := Lib.hid hb3
    clear hb3
    go_wp2
    go_ret
    refine ⟨?_, HB.out⟩
    first | rfl | (rw [e1]; rfl) | simp [e1]
set_option maxHeartbeats 4000000 in
theorem r6isvalue_any (s : ByteArray) (w : World) (hs : s.size ≤ 1099511627776) :
    Calls Tryz.prog 28 #[.string s] w fun e w' => e = .returned (.bool (isVal s.data.toList)) ∧ w' = w := by
  have htr := fun W => r6trim_any s W (by omega)
  obtain ⟨t, ht⟩ : ∃ t : ByteArray, ⟨(trimL s.data.toList).toArray⟩ = t := ⟨_, rfl⟩
  rw [ht] at htr
  have hTL : t.toList = trimL s.data.toList := by rw [← ht, ByteArray.toList_eq]
  have HTR := Lib.hid htr
  have e1 : (t.toList == s.toList) = (trimL s.data.toList == s.data.toList) := by rw [hTL, ByteArray.toList_eq]
  unfold isVal
  rw [size_list]
  clear htr hTL ht
  go_enter Tryz.func28, Tryz.ntmps28
  go_wp2
  go_loopw [3] (fun iv wr => ∃ i : Nat, iv = .int .i64 i ∧ i ≤ s.size ∧ (s.data.toList.take i).all isFb = true ∧ wr = w) (fun iv _ => s.size - (intOf iv).toNat)
  case atStart => exact ⟨0, rfl, Nat.zero_le _, rfl, rfl⟩
  case round =>
    obtain ⟨i, rfl, hi, hall, rfl⟩ := hrel
    by_cases hlt : i < s.size
    · obtain ⟨c, hc⟩ : ∃ c, s[i]'hlt = c := ⟨_, rfl⟩
      have hget := list_get s i hlt
      rw [hc] at hget
      have k0 : (0 : Int) ≤ (i : Int) := Int.natCast_nonneg _
      have k1 : (i : Int) < (s.size : Int) := by omega
      have HA := Lib.hid (And.intro hall hget)
      clear hall hget
      cases hst : isFb c with
      | true =>
        have hx := all_take isFb _ i c HA.out.2 HA.out.1 hst
        have HS := Lib.hid (And.intro hx hst)
        clear hx hst
        go_wp2_with fail
        refine (r6inside_any c _).mono ?_
        rintro e w ⟨rfl, rfl⟩
        rw [HS.out.2]
        have hwi := w64o i (le_oo i s.size hi hs)
        go_wp2
        go_roundw
        case rel => (try rw [hwi]); clear hwi; exact ⟨i + 1, by go_num, by omega, HS.out.1, by first | rfl | trivial⟩
        case measure => (try rw [hwi]); clear hwi; simp [intOf]; omega
      | false =>
        have hx : isFld s.data.toList = false := all_not isFb _ i c HA.out.2 hst
        have HS := Lib.hid (And.intro hx hst)
        clear hx hst
        go_wp2_with fail
        refine (r6inside_any c _).mono ?_
        rintro e w ⟨rfl, rfl⟩
        rw [HS.out.2]
        go_wp2
        go_ret
        refine ⟨?_, rfl⟩
        rw [HS.out.1]
        simp
    · obtain rfl : i = s.size := by omega
      have hx : isFld s.data.toList = true := all_full isFb s hall
      have HX := Lib.hid hx; clear hx hall
      have hd : decide (s.size < s.size) = false := decide_eq_false (Nat.lt_irrefl _)
      by_cases hl : s.size ≤ 8192
      · have i1 : (s.size : Int) ≤ 8192 := by omega
        have HD := Lib.hid (show decide (s.size ≤ 8192) = true from decide_eq_true hl)
        obtain ⟨b, hb⟩ : ∃ b, (trimL s.data.toList == s.data.toList) = b := ⟨_, rfl⟩
        rw [hb] at e1
        have HBB := Lib.hid hb
        clear hb hl
        go_wp2_with fail
        refine (HTR.out _).mono ?_
        rintro e w3 ⟨rfl, rfl⟩
        go_wp2
        go_ret
        refine ⟨?_, rfl⟩
        rw [HD.out, HX.out, HBB.out]
        first | rfl | (rw [e1]; rfl) | simp [e1]
      · have i1 : ¬ (s.size : Int) ≤ 8192 := by omega
        have HD := Lib.hid (show decide (s.size ≤ 8192) = false from decide_eq_false hl)
        clear hl
        go_wp2
        go_ret
        refine ⟨?_, rfl⟩
        rw [HD.out]
        rfl
end Go.Proofs.YtdlpbpikhmciaaaGreatDoor
