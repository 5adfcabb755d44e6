/- The walks of the reference's Blank, Inside, Trim, Sign and find of layer 6. Conditions: fewer than 2^40 bytes. -/
import Derived.Test.YtlfdeenekjklgaaGreatDoorPk12
import Derived.Test.YtlfdeenekjklgaaGreatDoorPk03
namespace Go.Proofs.YtlfdeenekjklgaaGreatDoor
open Go.RowKit
set_option linter.unusedSimpArgs false
set_option linter.unusedVariables false
set_option maxRecDepth 1000000
set_option maxHeartbeats 1000000 in
theorem r6blank_any (c : UInt8) (w : World) : Calls Tryz.prog 103 #[.int .u8 (c.toNat : Int)] w fun e w' => e = .returned (.bool (isBl c)) ∧ w' = w := by
  obtain ⟨n, hn⟩ : ∃ n, c.toNat = n := ⟨_, rfl⟩
  rw [hn]
  have HN := Lib.hid hn; clear hn
  go_enter Tryz.func103, Tryz.ntmps103
  go_wp2
  all_goals
    go_ret
    refine ⟨ret_boolO ?_, by first | rfl | trivial⟩
    rw [isBl_nat _ _ HN.out, Bool.eq_iff_iff]
    simp only [Bool.or_eq_true, decide_eq_true_eq, beq_iff_eq, true_iff, iff_true]
    omega
set_option maxHeartbeats 1000000 in
theorem r6inside_any (c : UInt8) (w : World) : Calls Tryz.prog 106 #[.int .u8 (c.toNat : Int)] w fun e w' => e = .returned (.bool (isFb c)) ∧ w' = w := by
  obtain ⟨n, hn⟩ : ∃ n, c.toNat = n := ⟨_, rfl⟩
  rw [hn]
  have HN := Lib.hid hn; clear hn
  go_enter Tryz.func106, Tryz.ntmps106
  go_wp2
  all_goals
    go_ret
    refine ⟨ret_boolO ?_, by first | rfl | trivial⟩
    rw [isFb_nat _ _ HN.out, Bool.eq_iff_iff]
    simp only [Bool.or_eq_true, Bool.and_eq_true, decide_eq_true_eq, beq_iff_eq, bne_iff_ne, true_iff, iff_true, Bool.false_eq_true, false_iff, iff_false]
    omega
set_option maxHeartbeats 4000000 in
theorem r6trim_any (s : ByteArray) (w : World) (hs : s.size ≤ 1099511627776) :
    Calls Tryz.prog 107 #[.string s] w fun e w' => e = .returned (.string ⟨(trimL s.data.toList).toArray⟩) ∧ w' = w := by
  go_enter Tryz.func107, Tryz.ntmps107
  go_wp2
  go_loopw [0] (fun v wr => ∃ t : ByteArray, v = .string t ∧ t.size ≤ s.size ∧ t.data.toList.dropWhile isBl = s.data.toList.dropWhile isBl ∧ wr = w) (fun v _ => match v with | .string t => t.size | _ => 0)
  case atStart => exact ⟨s, rfl, Nat.le_refl _, rfl, rfl⟩
  case round =>
    obtain ⟨t, rfl, hts, hdw, rfl⟩ := hrel
    by_cases h0 : t.size = 0
    · have hd1 : trimL s.data.toList = trimR t.data.toList := by rw [trimL_eq, ← hdw, list_nil_o t h0]; rfl
      have e0 : t.toList.isEmpty = true := by rw [ByteArray.toList_eq, list_nil_o t h0]; rfl
      have e1 : t.toList = [] := by rw [ByteArray.toList_eq, list_nil_o t h0]
      have z0 : ¬ (0 : Int) < (t.size : Int) := by omega
      have HD := Lib.hid (And.intro hd1 hts)
      clear hd1 hdw h0 hts
      go_wp2
      go_loopw [0] (fun v wq => ∃ u : ByteArray, v = .string u ∧ u.size ≤ s.size ∧ trimR u.data.toList = trimR t.data.toList ∧ wq = wr) (fun v _ => match v with | .string t => t.size | _ => 0)
      case atStart => exact ⟨t, rfl, HD.out.2, rfl, rfl⟩
      case round =>
        clear e0 e1
        obtain ⟨u, rfl, hus, htr, rfl⟩ := hrel
        by_cases h0 : u.size = 0
        · have hres : trimL s.data.toList = [] := by rw [HD.out.1, ← htr, list_nil_o u h0]; rfl
          obtain rfl := emp_o u h0
          have HRS := Lib.hid hres
          clear hres htr h0
          go_wp2
          go_ret
          exact ⟨by rw [HRS.out]; rfl, rfl⟩
        · have hpos : 0 < u.size := by omega
          obtain ⟨j, hj⟩ : ∃ j, j + 1 = u.size := ⟨u.size - 1, by omega⟩
          have hlt : j < u.size := by omega
          obtain ⟨c, hc⟩ : ∃ c, u[j]'hlt = c := ⟨_, rfl⟩
          have hget := list_get u j hlt
          rw [hc] at hget
          have hlast := last_list u j hj c hget
          have e0 := full_o u hpos
          have e1 := full_o2 u hpos
          have f1 : (u.size : Int) - 1 = (j : Int) := by omega
          have p0 : (0 : Int) ≤ (j : Int) := by omega
          have p00 : (0 : Int) < (u.size : Int) := by omega
          have p1 : (j : Int) < (u.size : Int) := by omega
          have p2 : (j : Int) ≤ (u.size : Int) := by omega
          have HJ := Lib.hid hj
          clear h0 hget hj
          cases hb : isBl c with
          | true =>
            have hx : trimR (u.data.toList.take j) = trimR t.data.toList := by rw [← htr, hlast, trimR_snoc_bl _ _ hb, List.take_append_of_le_length (by rw [List.length_take, size_list]; omega), List.take_take, Nat.min_self]
            have hsz : (u.extract 0 j).size < u.size ∧ (u.extract 0 j).size ≤ s.size := by rw [ext_front, size_mk, List.length_take, size_list]; omega
            have HX := Lib.hid (And.intro hx (And.intro hb hsz))
            clear hx hb hsz htr hlast
            go_wp2_with fail
            refine (r6blank_any c _).mono ?_
            rintro e w ⟨rfl, rfl⟩
            rw [HX.out.2.1]
            go_wp2
            go_roundw
            case rel => exact ⟨_, rfl, HX.out.2.2.2, by rw [ext_front]; exact HX.out.1, by first | rfl | trivial⟩
            case measure => exact HX.out.2.2.1
          | false =>
            have hres : trimL s.data.toList = u.data.toList := by rw [HD.out.1, ← htr, hlast, trimR_snoc_other _ _ hb]
            have HX := Lib.hid (And.intro hres hb)
            clear hres hb htr hlast
            go_wp2_with fail
            refine (r6blank_any c _).mono ?_
            rintro e w ⟨rfl, rfl⟩
            rw [HX.out.2]
            go_wp2
            go_ret
            refine ⟨?_, rfl⟩
            rw [HX.out.1, str_eq]; rfl
    · have hpos : 0 < t.size := by omega
      obtain ⟨c, hc⟩ : ∃ c, t[0]'hpos = c := ⟨_, rfl⟩
      have hget := drop_get t 0 hpos
      rw [hc, List.drop_zero] at hget
      have e0 := full_o t hpos
      have e1 := full_o2 t hpos
      have p0 : (0 : Int) < (t.size : Int) := by omega
      clear h0
      cases hb : isBl c with
      | true =>
        have hx : (t.data.toList.drop 1).dropWhile isBl = s.data.toList.dropWhile isBl := by rw [← hdw, hget, List.dropWhile_cons_of_pos hb]; rfl
        have hsz : (t.extract 1 t.size).size < t.size ∧ (t.extract 1 t.size).size ≤ s.size := by rw [ext_back, size_mk, List.length_drop, size_list]; omega
        have hp1 : (1 : Int) ≤ (t.size : Int) := by omega
        have HX := Lib.hid (And.intro hx (And.intro hb hsz))
        clear hx hb hsz hdw hget
        go_wp2_with fail
        refine (r6blank_any c _).mono ?_
        rintro e w ⟨rfl, rfl⟩
        rw [HX.out.2.1]
        go_wp2
        go_roundw
        case rel => exact ⟨_, rfl, HX.out.2.2.2, by rw [ext_back]; exact HX.out.1, by first | rfl | trivial⟩
        case measure => exact HX.out.2.2.1
      | false =>
        have hd1 : trimL s.data.toList = trimR t.data.toList := by rw [trimL_eq, ← hdw, hget, List.dropWhile_cons_of_neg (by rw [hb]; simp)]
        have HB := Lib.hid hb
        have HD := Lib.hid (And.intro hd1 hts)
        clear hd1 hdw hb hts hget
        go_wp2_with fail
        refine (r6blank_any c _).mono ?_
        rintro e w ⟨rfl, rfl⟩
        rw [HB.out]
        clear e0 e1 p0 hc HB hpos
        go_wp2
        go_loopw [0] (fun v wq => ∃ u : ByteArray, v = .string u ∧ u.size ≤ s.size ∧ trimR u.data.toList = trimR t.data.toList ∧ wq = w) (fun v _ => match v with | .string t => t.size | _ => 0)
        case atStart => exact ⟨t, rfl, HD.out.2, rfl, rfl⟩
        case round =>
          obtain ⟨u, rfl, hus, htr, rfl⟩ := hrel
          by_cases h0 : u.size = 0
          · have hres : trimL s.data.toList = [] := by rw [HD.out.1, ← htr, list_nil_o u h0]; rfl
            obtain rfl := emp_o u h0
            have HRS := Lib.hid hres
            clear hres htr h0
            go_wp2
            go_ret
            exact ⟨by rw [HRS.out]; rfl, rfl⟩
          · have hpos : 0 < u.size := by omega
            obtain ⟨j, hj⟩ : ∃ j, j + 1 = u.size := ⟨u.size - 1, by omega⟩
            have hlt : j < u.size := by omega
            obtain ⟨c, hc⟩ : ∃ c, u[j]'hlt = c := ⟨_, rfl⟩
            have hget := list_get u j hlt
            rw [hc] at hget
            have hlast := last_list u j hj c hget
            have e0 := full_o u hpos
            have e1 := full_o2 u hpos
            have f1 : (u.size : Int) - 1 = (j : Int) := by omega
            have p0 : (0 : Int) ≤ (j : Int) := by omega
            have p00 : (0 : Int) < (u.size : Int) := by omega
            have p1 : (j : Int) < (u.size : Int) := by omega
            have p2 : (j : Int) ≤ (u.size : Int) := by omega
            have HJ := Lib.hid hj
            clear h0 hget hj
            cases hb : isBl c with
            | true =>
              have hx : trimR (u.data.toList.take j) = trimR t.data.toList := by rw [← htr, hlast, trimR_snoc_bl _ _ hb, List.take_append_of_le_length (by rw [List.length_take, size_list]; omega), List.take_take, Nat.min_self]
              have hsz : (u.extract 0 j).size < u.size ∧ (u.extract 0 j).size ≤ s.size := by rw [ext_front, size_mk, List.length_take, size_list]; omega
              have HX := Lib.hid (And.intro hx (And.intro hb hsz))
              clear hx hb hsz htr hlast
              go_wp2_with fail
              refine (r6blank_any c _).mono ?_
              rintro e w ⟨rfl, rfl⟩
              rw [HX.out.2.1]
              go_wp2
              go_roundw
              case rel => exact ⟨_, rfl, HX.out.2.2.2, by rw [ext_front]; exact HX.out.1, by first | rfl | trivial⟩
              case measure => exact HX.out.2.2.1
            | false =>
              have hres : trimL s.data.toList = u.data.toList := by rw [HD.out.1, ← htr, hlast, trimR_snoc_other _ _ hb]
              have HX := Lib.hid (And.intro hres hb)
              clear hres hb htr hlast
              go_wp2_with fail
              refine (r6blank_any c _).mono ?_
              rintro e w ⟨rfl, rfl⟩
              rw [HX.out.2]
              go_wp2
              go_ret
              refine ⟨?_, rfl⟩
              rw [HX.out.1, str_eq]; rfl
theorem ab_of (n : Nat) (a b : Bool) (h1 : decide (48 ≤ n ∧ n ≤ 57) = a) (h2 : decide ((65 ≤ n ∧ n ≤ 90) ∨ (97 ≤ n ∧ n ≤ 122)) = b) : dgN n = a ∧ ltN n = b := ⟨h1, h2⟩
set_option maxHeartbeats 4000000 in
theorem r6sign_any (c : UInt8) (w : World) : Calls Tryz.prog 105 #[.int .u8 (c.toNat : Int)] w fun e w' => e = .returned (.bool (isSg c)) ∧ w' = w := by
  obtain ⟨n, hn⟩ : ∃ n, c.toNat = n := ⟨_, rfl⟩
  have he := isSg_eq c n hn
  rw [he, hn]
  have HN := Lib.hid hn; clear hn he
  rcases (by omega : n < 48 ∨ (48 ≤ n ∧ n ≤ 57) ∨ (58 ≤ n ∧ n < 65) ∨ (65 ≤ n ∧ n ≤ 90) ∨ (91 ≤ n ∧ n < 97) ∨ (97 ≤ n ∧ n ≤ 122) ∨ 123 ≤ n) with hc | hc | hc | hc | hc | hc | hc
  · have HAB := Lib.hid (ab_of n false false (by exact decide_eq_false (by omega)) (by exact decide_eq_false (by omega)))
    have ig48 : decide ((48 : Int) ≤ (n : Int)) = false := decide_eq_false (by omega)
    have ig65 : decide ((65 : Int) ≤ (n : Int)) = false := decide_eq_false (by omega)
    have ig97 : decide ((97 : Int) ≤ (n : Int)) = false := decide_eq_false (by omega)
    have il57 : decide ((n : Int) ≤ 57) = true := decide_eq_true (by omega)
    have il90 : decide ((n : Int) ≤ 90) = true := decide_eq_true (by omega)
    have il122 : decide ((n : Int) ≤ 122) = true := decide_eq_true (by omega)
    have ng48 : decide (48 ≤ n) = false := decide_eq_false (by omega)
    have ng65 : decide (65 ≤ n) = false := decide_eq_false (by omega)
    have ng97 : decide (97 ≤ n) = false := decide_eq_false (by omega)
    have nl57 : decide (n ≤ 57) = true := decide_eq_true (by omega)
    have nl90 : decide (n ≤ 90) = true := decide_eq_true (by omega)
    have nl122 : decide (n ≤ 122) = true := decide_eq_true (by omega)
    clear hc
    go_enter Tryz.func105, Tryz.ntmps105
    go_wp2
    go_loopw [4] (fun iv wr => ∃ i : Nat, iv = .int .i64 i ∧ i ≤ 15 ∧ (∀ j d, j < i → sgL[j]? = some d → d ≠ c) ∧ wr = w) (fun iv _ => 15 - (intOf iv).toNat)
    case atStart => exact ⟨0, rfl, by omega, fun j d h => by omega, rfl⟩
    case round =>
      obtain ⟨i, rfl, hi, hno, rfl⟩ := hrel
      have HNO := Lib.hid hno; clear hno
      by_cases hlt : i < 15
      · have hat := sgL_at i hlt
        obtain ⟨d, hd⟩ : ∃ d, (⟨#[33, 35, 36, 37, 38, 39, 42, 43, 45, 46, 94, 95, 96, 124, 126]⟩ : ByteArray)[i]'hlt = d := ⟨_, rfl⟩
        rw [hd] at hat
        have k0 : (0 : Int) ≤ (i : Int) := by omega
        have k1 : (i : Int) < 15 := by omega
        have HAT := Lib.hid hat; clear hat
        by_cases hdc : d = c
        · subst hdc
          have e1 : ((d.toNat : Int) == (n : Int)) = true := by rw [HN.out]; simp
          have hy := contains_yes d sgL i HAT.out
          have HY := Lib.hid hy
          clear hy
          go_wp2
          go_ret
          exact ⟨ret_boolO (by rw [HAB.out.1, HAB.out.2, HY.out]; simp), rfl⟩
        · have e1 : ((d.toNat : Int) == (n : Int)) = false := by
            rw [← HN.out]
            have : d.toNat ≠ c.toNat := fun e => hdc (UInt8.toNat_inj.1 e)
            simp; omega
          have hx : ∀ j e, j < i + 1 → sgL[j]? = some e → e ≠ c := fun j e hj he => by
            by_cases hji : j < i
            · exact HNO.out j e hji he
            · obtain rfl : j = i := by omega
              rw [HAT.out] at he; injection he with he; subst he; exact hdc
          have HX := Lib.hid hx
          clear hx hdc
          go_wp2
          go_roundw
          case rel => exact ⟨i + 1, by go_num, by omega, HX.out, by first | rfl | trivial⟩
          case measure => simp [intOf]; omega
      · obtain rfl : i = 15 := by omega
        have hf := contains_no c sgL 15 (by decide) HNO.out
        have HF := Lib.hid hf; clear hf
        go_wp2
        go_ret
        exact ⟨ret_boolO (by rw [HAB.out.1, HAB.out.2, HF.out]; simp), rfl⟩
  · have HAB := Lib.hid (ab_of n true false (by exact decide_eq_true (by omega)) (by exact decide_eq_false (by omega)))
    have ig48 : decide ((48 : Int) ≤ (n : Int)) = true := decide_eq_true (by omega)
    have ig65 : decide ((65 : Int) ≤ (n : Int)) = false := decide_eq_false (by omega)
    have ig97 : decide ((97 : Int) ≤ (n : Int)) = false := decide_eq_false (by omega)
    have il57 : decide ((n : Int) ≤ 57) = true := decide_eq_true (by omega)
    have il90 : decide ((n : Int) ≤ 90) = true := decide_eq_true (by omega)
    have il122 : decide ((n : Int) ≤ 122) = true := decide_eq_true (by omega)
    have ng48 : decide (48 ≤ n) = true := decide_eq_true (by omega)
    have ng65 : decide (65 ≤ n) = false := decide_eq_false (by omega)
    have ng97 : decide (97 ≤ n) = false := decide_eq_false (by omega)
    have nl57 : decide (n ≤ 57) = true := decide_eq_true (by omega)
    have nl90 : decide (n ≤ 90) = true := decide_eq_true (by omega)
    have nl122 : decide (n ≤ 122) = true := decide_eq_true (by omega)
    clear hc
    go_enter Tryz.func105, Tryz.ntmps105
    go_wp2
    go_ret
    exact ⟨ret_boolO (by rw [HAB.out.1, HAB.out.2]; simp), rfl⟩
  · have HAB := Lib.hid (ab_of n false false (by exact decide_eq_false (by omega)) (by exact decide_eq_false (by omega)))
    have ig48 : decide ((48 : Int) ≤ (n : Int)) = true := decide_eq_true (by omega)
    have ig65 : decide ((65 : Int) ≤ (n : Int)) = false := decide_eq_false (by omega)
    have ig97 : decide ((97 : Int) ≤ (n : Int)) = false := decide_eq_false (by omega)
    have il57 : decide ((n : Int) ≤ 57) = false := decide_eq_false (by omega)
    have il90 : decide ((n : Int) ≤ 90) = true := decide_eq_true (by omega)
    have il122 : decide ((n : Int) ≤ 122) = true := decide_eq_true (by omega)
    have ng48 : decide (48 ≤ n) = true := decide_eq_true (by omega)
    have ng65 : decide (65 ≤ n) = false := decide_eq_false (by omega)
    have ng97 : decide (97 ≤ n) = false := decide_eq_false (by omega)
    have nl57 : decide (n ≤ 57) = false := decide_eq_false (by omega)
    have nl90 : decide (n ≤ 90) = true := decide_eq_true (by omega)
    have nl122 : decide (n ≤ 122) = true := decide_eq_true (by omega)
    clear hc
    go_enter Tryz.func105, Tryz.ntmps105
    go_wp2
    go_loopw [4] (fun iv wr => ∃ i : Nat, iv = .int .i64 i ∧ i ≤ 15 ∧ (∀ j d, j < i → sgL[j]? = some d → d ≠ c) ∧ wr = w) (fun iv _ => 15 - (intOf iv).toNat)
    case atStart => exact ⟨0, rfl, by omega, fun j d h => by omega, rfl⟩
    case round =>
      obtain ⟨i, rfl, hi, hno, rfl⟩ := hrel
      have HNO := Lib.hid hno; clear hno
      by_cases hlt : i < 15
      · have hat := sgL_at i hlt
        obtain ⟨d, hd⟩ : ∃ d, (⟨#[33, 35, 36, 37, 38, 39, 42, 43, 45, 46, 94, 95, 96, 124, 126]⟩ : ByteArray)[i]'hlt = d := ⟨_, rfl⟩
        rw [hd] at hat
        have k0 : (0 : Int) ≤ (i : Int) := by omega
        have k1 : (i : Int) < 15 := by omega
        have HAT := Lib.hid hat; clear hat
        by_cases hdc : d = c
        · subst hdc
          have e1 : ((d.toNat : Int) == (n : Int)) = true := by rw [HN.out]; simp
          have hy := contains_yes d sgL i HAT.out
          have HY := Lib.hid hy
          clear hy
          go_wp2
          go_ret
          exact ⟨ret_boolO (by rw [HAB.out.1, HAB.out.2, HY.out]; simp), rfl⟩
        · have e1 : ((d.toNat : Int) == (n : Int)) = false := by
            rw [← HN.out]
            have : d.toNat ≠ c.toNat := fun e => hdc (UInt8.toNat_inj.1 e)
            simp; omega
          have hx : ∀ j e, j < i + 1 → sgL[j]? = some e → e ≠ c := fun j e hj he => by
            by_cases hji : j < i
            · exact HNO.out j e hji he
            · obtain rfl : j = i := by omega
              rw [HAT.out] at he; injection he with he; subst he; exact hdc
          have HX := Lib.hid hx
          clear hx hdc
          go_wp2
          go_roundw
          case rel => exact ⟨i + 1, by go_num, by omega, HX.out, by first | rfl | trivial⟩
          case measure => simp [intOf]; omega
      · obtain rfl : i = 15 := by omega
        have hf := contains_no c sgL 15 (by decide) HNO.out
        have HF := Lib.hid hf; clear hf
        go_wp2
        go_ret
        exact ⟨ret_boolO (by rw [HAB.out.1, HAB.out.2, HF.out]; simp), rfl⟩
  · have HAB := Lib.hid (ab_of n false true (by exact decide_eq_false (by omega)) (by exact decide_eq_true (by omega)))
    have ig48 : decide ((48 : Int) ≤ (n : Int)) = true := decide_eq_true (by omega)
    have ig65 : decide ((65 : Int) ≤ (n : Int)) = true := decide_eq_true (by omega)
    have ig97 : decide ((97 : Int) ≤ (n : Int)) = false := decide_eq_false (by omega)
    have il57 : decide ((n : Int) ≤ 57) = false := decide_eq_false (by omega)
    have il90 : decide ((n : Int) ≤ 90) = true := decide_eq_true (by omega)
    have il122 : decide ((n : Int) ≤ 122) = true := decide_eq_true (by omega)
    have ng48 : decide (48 ≤ n) = true := decide_eq_true (by omega)
    have ng65 : decide (65 ≤ n) = true := decide_eq_true (by omega)
    have ng97 : decide (97 ≤ n) = false := decide_eq_false (by omega)
    have nl57 : decide (n ≤ 57) = false := decide_eq_false (by omega)
    have nl90 : decide (n ≤ 90) = true := decide_eq_true (by omega)
    have nl122 : decide (n ≤ 122) = true := decide_eq_true (by omega)
    clear hc
    go_enter Tryz.func105, Tryz.ntmps105
    go_wp2
    go_ret
    exact ⟨ret_boolO (by rw [HAB.out.1, HAB.out.2]; simp), rfl⟩
  · have HAB := Lib.hid (ab_of n false false (by exact decide_eq_false (by omega)) (by exact decide_eq_false (by omega)))
    have ig48 : decide ((48 : Int) ≤ (n : Int)) = true := decide_eq_true (by omega)
    have ig65 : decide ((65 : Int) ≤ (n : Int)) = true := decide_eq_true (by omega)
    have ig97 : decide ((97 : Int) ≤ (n : Int)) = false := decide_eq_false (by omega)
    have il57 : decide ((n : Int) ≤ 57) = false := decide_eq_false (by omega)
    have il90 : decide ((n : Int) ≤ 90) = false := decide_eq_false (by omega)
    have il122 : decide ((n : Int) ≤ 122) = true := decide_eq_true (by omega)
    have ng48 : decide (48 ≤ n) = true := decide_eq_true (by omega)
    have ng65 : decide (65 ≤ n) = true := decide_eq_true (by omega)
    have ng97 : decide (97 ≤ n) = false := decide_eq_false (by omega)
    have nl57 : decide (n ≤ 57) = false := decide_eq_false (by omega)
    have nl90 : decide (n ≤ 90) = false := decide_eq_false (by omega)
    have nl122 : decide (n ≤ 122) = true := decide_eq_true (by omega)
    clear hc
    go_enter Tryz.func105, Tryz.ntmps105
    go_wp2
    go_loopw [4] (fun iv wr => ∃ i : Nat, iv = .int .i64 i ∧ i ≤ 15 ∧ (∀ j d, j < i → sgL[j]? = some d → d ≠ c) ∧ wr = w) (fun iv _ => 15 - (intOf iv).toNat)
    case atStart => exact ⟨0, rfl, by omega, fun j d h => by omega, rfl⟩
    case round =>
      obtain ⟨i, rfl, hi, hno, rfl⟩ := hrel
      have HNO := Lib.hid hno; clear hno
      by_cases hlt : i < 15
      · have hat := sgL_at i hlt
        obtain ⟨d, hd⟩ : ∃ d, (⟨#[33, 35, 36, 37, 38, 39, 42, 43, 45, 46, 94, 95, 96, 124, 126]⟩ : ByteArray)[i]'hlt = d := ⟨_, rfl⟩
        rw [hd] at hat
        have k0 : (0 : Int) ≤ (i : Int) := by omega
        have k1 : (i : Int) < 15 := by omega
        have HAT := Lib.hid hat; clear hat
        by_cases hdc : d = c
        · subst hdc
          have e1 : ((d.toNat : Int) == (n : Int)) = true := by rw [HN.out]; simp
          have hy := contains_yes d sgL i HAT.out
          have HY := Lib.hid hy
          clear hy
          go_wp2
          go_ret
          exact ⟨ret_boolO (by rw [HAB.out.1, HAB.out.2, HY.out]; simp), rfl⟩
        · have e1 : ((d.toNat : Int) == (n : Int)) = false := by
            rw [← HN.out]
            have : d.toNat ≠ c.toNat := fun e => hdc (UInt8.toNat_inj.1 e)
            simp; omega
          have hx : ∀ j e, j < i + 1 → sgL[j]? = some e → e ≠ c := fun j e hj he => by
            by_cases hji : j < i
            · exact HNO.out j e hji he
            · obtain rfl : j = i := by omega
              rw [HAT.out] at he; injection he with he; subst he; exact hdc
          have HX := Lib.hid hx
          clear hx hdc
          go_wp2
          go_roundw
          case rel => exact ⟨i + 1, by go_num, by omega, HX.out, by first | rfl | trivial⟩
          case measure => simp [intOf]; omega
      · obtain rfl : i = 15 := by omega
        have hf := contains_no c sgL 15 (by decide) HNO.out
        have HF := Lib.hid hf; clear hf
        go_wp2
        go_ret
        exact ⟨ret_boolO (by rw [HAB.out.1, HAB.out.2, HF.out]; simp), rfl⟩
  · have HAB := Lib.hid (ab_of n false true (by exact decide_eq_false (by omega)) (by exact decide_eq_true (by omega)))
    have ig48 : decide ((48 : Int) ≤ (n : Int)) = true := decide_eq_true (by omega)
    have ig65 : decide ((65 : Int) ≤ (n : Int)) = true := decide_eq_true (by omega)
    have ig97 : decide ((97 : Int) ≤ (n : Int)) = true := decide_eq_true (by omega)
    have il57 : decide ((n : Int) ≤ 57) = false := decide_eq_false (by omega)
    have il90 : decide ((n : Int) ≤ 90) = false := decide_eq_false (by omega)
    have il122 : decide ((n : Int) ≤ 122) = true := decide_eq_true (by omega)
    have ng48 : decide (48 ≤ n) = true := decide_eq_true (by omega)
    have ng65 : decide (65 ≤ n) = true := decide_eq_true (by omega)
    have ng97 : decide (97 ≤ n) = true := decide_eq_true (by omega)
    have nl57 : decide (n ≤ 57) = false := decide_eq_false (by omega)
    have nl90 : decide (n ≤ 90) = false := decide_eq_false (by omega)
    have nl122 : decide (n ≤ 122) = true := decide_eq_true (by omega)
    clear hc
    go_enter Tryz.func105, Tryz.ntmps105
    go_wp2
    go_ret
    exact ⟨ret_boolO (by rw [HAB.out.1, HAB.out.2]; simp), rfl⟩
  · have HAB := Lib.hid (ab_of n false false (by exact decide_eq_false (by omega)) (by exact decide_eq_false (by omega)))
    have ig48 : decide ((48 : Int) ≤ (n : Int)) = true := decide_eq_true (by omega)
    have ig65 : decide ((65 : Int) ≤ (n : Int)) = true := decide_eq_true (by omega)
    have ig97 : decide ((97 : Int) ≤ (n : Int)) = true := decide_eq_true (by omega)
    have il57 : decide ((n : Int) ≤ 57) = false := decide_eq_false (by omega)
    have il90 : decide ((n : Int) ≤ 90) = false := decide_eq_false (by omega)
    have il122 : decide ((n : Int) ≤ 122) = false := decide_eq_false (by omega)
    have ng48 : decide (48 ≤ n) = true := decide_eq_true (by omega)
    have ng65 : decide (65 ≤ n) = true := decide_eq_true (by omega)
    have ng97 : decide (97 ≤ n) = true := decide_eq_true (by omega)
    have nl57 : decide (n ≤ 57) = false := decide_eq_false (by omega)
    have nl90 : decide (n ≤ 90) = false := decide_eq_false (by omega)
    have nl122 : decide (n ≤ 122) = false := decide_eq_false (by omega)
    clear hc
    go_enter Tryz.func105, Tryz.ntmps105
    go_wp2
    go_loopw [4] (fun iv wr => ∃ i : Nat, iv = .int .i64 i ∧ i ≤ 15 ∧ (∀ j d, j < i → sgL[j]? = some d → d ≠ c) ∧ wr = w) (fun iv _ => 15 - (intOf iv).toNat)
    case atStart => exact ⟨0, rfl, by omega, fun j d h => by omega, rfl⟩
    case round =>
      obtain ⟨i, rfl, hi, hno, rfl⟩ := hrel
      have HNO := Lib.hid hno; clear hno
      by_cases hlt : i < 15
      · have hat := sgL_at i hlt
        obtain ⟨d, hd⟩ : ∃ d, (⟨#[33, 35, 36, 37, 38, 39, 42, 43, 45, 46, 94, 95, 96, 124, 126]⟩ : ByteArray)[i]'hlt = d := ⟨_, rfl⟩
        rw [hd] at hat
        have k0 : (0 : Int) ≤ (i : Int) := by omega
        have k1 : (i : Int) < 15 := by omega
        have HAT := Lib.hid hat; clear hat
        by_cases hdc : d = c
        · subst hdc
          have e1 : ((d.toNat : Int) == (n : Int)) = true := by rw [HN.out]; simp
          have hy := contains_yes d sgL i HAT.out
          have HY := Lib.hid hy
          clear hy
          go_wp2
          go_ret
          exact ⟨ret_boolO (by rw [HAB.out.1, HAB.out.2, HY.out]; simp), rfl⟩
        · have e1 : ((d.toNat : Int) == (n : Int)) = false := by
            rw [← HN.out]
            have : d.toNat ≠ c.toNat := fun e => hdc (UInt8.toNat_inj.1 e)
            simp; omega
          have hx : ∀ j e, j < i + 1 → sgL[j]? = some e → e ≠ c := fun j e hj he => by
            by_cases hji : j < i
            · exact HNO.out j e hji he
            · obtain rfl : j = i := by omega
              rw [HAT.out] at he; injection he with he; subst he; exact hdc
          have HX := Lib.hid hx
          clear hx hdc
          go_wp2
          go_roundw
          case rel => exact ⟨i + 1, by go_num, by omega, HX.out, by first | rfl | trivial⟩
          case measure => simp [intOf]; omega
      · obtain rfl : i = 15 := by omega
        have hf := contains_no c sgL 15 (by decide) HNO.out
        have HF := Lib.hid hf; clear hf
        go_wp2
        go_ret
        exact ⟨ret_boolO (by rw [HAB.out.1, HAB.out.2, HF.out]; simp), rfl⟩
theorem w64q6 (i : Nat) (h : i ≤ 2199023255552) : wrap64 ((i : Int) + 1) = (i : Int) + 1 := by unfold wrap64; omega
theorem ixb_is (l : List UInt8) (c : UInt8) (i : Nat) (h : l[i]? = some c) (hn : ∀ j d, j < i → l[j]? = some d → d ≠ c) : Lib.indexByte l c = (i : Int) := by
  have hge := Lib.indexByte_ge l c
  by_cases h1 : Lib.indexByte l c = -1
  · exact absurd h (Lib.indexByte_none h1 i)
  · obtain ⟨o, ho⟩ : ∃ o : Nat, Lib.indexByte l c = o := ⟨(Lib.indexByte l c).toNat, by omega⟩
    obtain ⟨h2, h3⟩ := Lib.indexByte_some ho
    rcases Nat.lt_trichotomy o i with h4 | h4 | h4
    · exact absurd rfl (hn o c h4 h2)
    · rw [ho, h4]
    · exact absurd h (h3 i h4)
theorem ixb_no (l : List UInt8) (c : UInt8) (hn : ∀ j d, j < l.length → l[j]? = some d → d ≠ c) : Lib.indexByte l c = -1 := by
  have hge := Lib.indexByte_ge l c
  by_cases h1 : Lib.indexByte l c = -1
  · exact h1
  · obtain ⟨o, ho⟩ : ∃ o : Nat, Lib.indexByte l c = o := ⟨(Lib.indexByte l c).toNat, by omega⟩
    obtain ⟨h2, h3⟩ := Lib.indexByte_some ho
    exact absurd rfl (hn o c (List.getElem?_eq_some_iff.1 h2).1 h2)
set_option maxHeartbeats 4000000 in
theorem r6find_any (s : ByteArray) (c : UInt8) (k : Nat) (hk : c.toNat = k) (w : World) (hs : s.size ≤ 1099511627776) : Calls Tryz.prog 104 #[.string s, .int .u8 (k : Int)] w fun e w' => e = .returned (.int .i64 (Lib.indexByte s.data.toList c)) ∧ w' = w := by
  have HK := Lib.hid hk; clear hk
  go_enter Tryz.func104, Tryz.ntmps104
  go_wp2
  go_loopw [5] (fun iv wr => ∃ i : Nat, iv = .int .i64 i ∧ i ≤ s.size ∧ (∀ j d, j < i → s.data.toList[j]? = some d → d ≠ c) ∧ wr = w) (fun iv _ => s.size - (intOf iv).toNat)
  case atStart => exact ⟨0, rfl, Nat.zero_le _, fun j d h => by omega, rfl⟩
  case round =>
    obtain ⟨i, rfl, hi, hno, rfl⟩ := hrel
    have HNO := Lib.hid hno; clear hno
    have k0 : (0 : Int) ≤ (i : Int) := Int.natCast_nonneg _
    by_cases hlt : i < s.size
    · have k1 : (i : Int) < (s.size : Int) := by omega
      obtain ⟨d, hd⟩ : ∃ d, s[i]'hlt = d := ⟨_, rfl⟩
      have hat := list_get s i hlt
      rw [hd] at hat
      have HAT := Lib.hid hat; clear hat
      by_cases hdc : d = c
      · subst hdc
        have e1 : ((d.toNat : Int) == (k : Int)) = true := by rw [HK.out]; simp
        have hy := ixb_is s.data.toList d i HAT.out HNO.out
        have HY := Lib.hid hy
        clear hy
        go_wp2
        go_ret
        exact ⟨by rw [HY.out]; rfl, rfl⟩
      · have e1 : ((d.toNat : Int) == (k : Int)) = false := by
          rw [← HK.out]
          have : d.toNat ≠ c.toNat := fun e => hdc (UInt8.toNat_inj.1 e)
          simp; omega
        have hx : ∀ j e, j < i + 1 → s.data.toList[j]? = some e → e ≠ c := fun j e hj he => by
          by_cases hji : j < i
          · exact HNO.out j e hji he
          · obtain rfl : j = i := by omega
            rw [HAT.out] at he; injection he with he; subst he; exact hdc
        have hwi := w64q6 i (Nat.le_trans hi (Nat.le_trans hs (by decide)))
        have HX := Lib.hid hx; have HW := Lib.hid hwi
        clear hx hdc hwi
        go_wp2
        have hwi := HW.out
        go_roundw
        case rel =>
          (try rw [hwi]); clear hwi
          exact ⟨i + 1, by go_num, by omega, HX.out, by first | rfl | trivial⟩
        case measure => (try rw [hwi]); clear hwi; simp [intOf]; omega
    · obtain rfl : i = s.size := by omega
      have hd : decide (s.size < s.size) = false := decide_eq_false (Nat.lt_irrefl _)
      have hf := ixb_no s.data.toList c (fun j d h => HNO.out j d (by rwa [size_list] at h))
      have HF := Lib.hid hf; clear hf
      go_wp2
      go_ret
      exact ⟨by rw [HF.out]; rfl, rfl⟩
end Go.Proofs.YtlfdeenekjklgaaGreatDoor
