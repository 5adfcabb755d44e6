/- The walk of the reference's Trim. Conditions: fewer than 2^40 bytes. -/
import Derived.Test.YtdlpbpikhmciaaaGreatDoorOct7
namespace Go.Proofs.YtdlpbpikhmciaaaGreatDoor
open Go.RowKit
set_option linter.unusedSimpArgs false
set_option linter.unusedVariables false
set_option maxRecDepth 1000000
theorem last_list (t : ByteArray) (j : Nat) (h : j + 1 = t.size) (c : UInt8) (hc : t.data.toList[j]? = some c) : t.data.toList = t.data.toList.take j ++ [c] := by
  have hl : t.data.toList.length = j + 1 := by rw [size_list, h]
  have := List.take_append_drop j t.data.toList
  obtain ⟨hlt, he⟩ := List.getElem?_eq_some_iff.1 hc
  rw [List.drop_eq_getElem_cons hlt, he, List.drop_eq_nil_of_le (by omega)] at this
  exact this.symm
theorem list_nil_o (t : ByteArray) (h : t.size = 0) : t.data.toList = [] := List.eq_nil_of_length_eq_zero (by rw [size_list]; exact h)
set_option maxHeartbeats 4000000 in
theorem rtrim_any (s : ByteArray) (w : World) (hs : s.size ≤ 1099511627776) :
    Calls Tryz.prog 37 #[.string s] w fun e w' => e = .returned (.string ⟨(trimL s.data.toList).toArray⟩) ∧ w' = w := by
  go_enter Tryz.func37, Tryz.ntmps37
  go_wp2
  go_loopw [0] (fun v wr => ∃ t : ByteArray, v = .string t ∧ t.size ≤ s.size ∧ t.data.toList.dropWhile isBl = s.data.toList.dropWhile isBl ∧ wr = w) (fun v _ => match v with | .string t => t.size | _ => 0)
  case atStart => exact ⟨s, rfl, Nat.le_refl _, rfl, rfl⟩
  case round =>
    obtain ⟨t, rfl, hts, hdw, rfl⟩ := hrel
    by_cases h0 : t.size = 0
    · have hd1 : trimL s.data.toList = trimR t.data.toList := by rw [trimL_eq, ← hdw, list_nil_o t h0]; rfl
      have e0 : t.toList.isEmpty = true := by rw [ByteArray.toList_eq, list_nil_o t h0]; rfl
      have e1 : t.toList = [] := by rw [ByteArray.toList_eq, list_nil_o t h0]
      have HD := Lib.hid (And.intro hd1 hts)
      clear hd1 hdw h0 hts
      go_wp2
      go_loopw [0] (fun v wq => ∃ u : ByteArray, v = .string u ∧ u.size ≤ s.size ∧ trimR u.data.toList = trimR t.data.toList ∧ wq = wr) (fun v _ => match v with | .string t => t.size | _ => 0)
      case atStart => exact ⟨t, rfl, HD.out.2, rfl, rfl⟩
      case round =>
        clear e0 e1
        obtain ⟨u, rfl, hus, htr, rfl⟩ := hrel
        by_cases h0 : u.size = 0
        · have hres : trimL s.data.toList = [] := by rw [HD.out.1, ← htr, list_nil_o u h0]; rfl
          obtain rfl := emp_o u h0
          have HRS := Lib.hid hres
          clear hres htr h0
          go_wp2
          go_ret
          exact ⟨by rw [HRS.out]; rfl, rfl⟩
        · have hpos : 0 < u.size := by omega
          obtain ⟨j, hj⟩ : ∃ j, j + 1 = u.size := ⟨u.size - 1, by omega⟩
          have hlt : j < u.size := by omega
          obtain ⟨c, hc⟩ : ∃ c, u[j]'hlt = c := ⟨_, rfl⟩
          have hget := list_get u j hlt
          rw [hc] at hget
          have hlast := last_list u j hj c hget
          have e0 := full_o u hpos
          have e1 := full_o2 u hpos
          have f1 : (u.size : Int) - 1 = (j : Int) := by omega
          have p0 : (0 : Int) ≤ (j : Int) := by omega
          have p1 : (j : Int) < (u.size : Int) := by omega
          have p2 : (j : Int) ≤ (u.size : Int) := by omega
          have HJ := Lib.hid hj
          clear h0 hget hj
          cases hb : isBl c with
          | true =>
            have hx : trimR (u.data.toList.take j) = trimR t.data.toList := by rw [← htr, hlast, trimR_snoc_bl _ _ hb, List.take_append_of_le_length (by rw [List.length_take, size_list]; omega), List.take_take, Nat.min_self]
            have hsz : (u.extract 0 j).size < u.size ∧ (u.extract 0 j).size ≤ s.size := by rw [ext_front, size_mk, List.length_take, size_list]; omega
            have HX := Lib.hid (And.intro hx (And.intro hb hsz))
            clear hx hb hsz htr hlast
            go_wp2_with fail
            refine (rblank_any c _).mono ?_
            rintro e w ⟨rfl, rfl⟩
            rw [HX.out.2.1]
            go_wp2
            go_roundw
            case rel => exact ⟨_, rfl, HX.out.2.2.2, by rw [ext_front]; exact HX.out.1, by first | rfl | trivial⟩
            case measure => exact HX.out.2.2.1
          | false =>
            have hres : trimL s.data.toList = u.data.toList := by rw [HD.out.1, ← htr, hlast, trimR_snoc_other _ _ hb]
            have HX := Lib.hid (And.intro hres hb)
            clear hres hb htr hlast
            go_wp2_with fail
            refine (rblank_any c _).mono ?_
            rintro e w ⟨rfl, rfl⟩
            rw [HX.out.2]
            go_wp2
            go_ret
            refine ⟨?_, rfl⟩
            rw [HX.out.1, str_eq]; rfl
    · have hpos : 0 < t.size := by omega
      obtain ⟨c, hc⟩ : ∃ c, t[0]'hpos = c := ⟨_, rfl⟩
      have hget := drop_get t 0 hpos
      rw [hc, List.drop_zero] at hget
      have e0 := full_o t hpos
      have e1 := full_o2 t hpos
      have p0 : (0 : Int) < (t.size : Int) := by omega
      clear h0
      cases hb : isBl c with
      | true =>
        have hx : (t.data.toList.drop 1).dropWhile isBl = s.data.toList.dropWhile isBl := by rw [← hdw, hget, List.dropWhile_cons_of_pos hb]; rfl
        have hsz : (t.extract 1 t.size).size < t.size ∧ (t.extract 1 t.size).size ≤ s.size := by rw [ext_back, size_mk, List.length_drop, size_list]; omega
        have hp1 : (1 : Int) ≤ (t.size : Int) := by omega
        have HX := Lib.hid (And.intro hx (And.intro hb hsz))
        clear hx hb hsz hdw hget
        go_wp2_with fail
        refine (rblank_any c _).mono ?_
        rintro e w ⟨rfl, rfl⟩
        rw [HX.out.2.1]
        go_wp2
        go_roundw
        case rel => exact ⟨_, rfl, HX.out.2.2.2, by rw [ext_back]; exact HX.out.1, by first | rfl | trivial⟩
        case measure => exact HX.out.2.2.1
      | false =>
        have hd1 : trimL s.data.toList = trimR t.data.toList := by rw [trimL_eq, ← hdw, hget, List.dropWhile_cons_of_neg (by rw [hb]; simp)]
        have HB := Lib.hid hb
        have HD := Lib.hid (And.intro hd1 hts)
        clear hd1 hdw hb hts hget
        go_wp2_with fail
        refine (rblank_any c _).mono ?_
        rintro e w ⟨rfl, rfl⟩
        rw [HB.out]
        clear e0 e1 p0 hc HB hpos
        go_wp2
        go_loopw [0] (fun v wq => ∃ u : ByteArray, v = .string u ∧ u.size ≤ s.size ∧ trimR u.data.toList = trimR t.data.toList ∧ wq = w) (fun v _ => match v with | .string t => t.size | _ => 0)
        case atStart => exact ⟨t, rfl, HD.out.2, rfl, rfl⟩
        case round =>
          obtain ⟨u, rfl, hus, htr, rfl⟩ := hrel
          by_cases h0 : u.size = 0
          · have hres : trimL s.data.toList = [] := by rw [HD.out.1, ← htr, list_nil_o u h0]; rfl
            obtain rfl := emp_o u h0
            have HRS := Lib.hid hres
            clear hres htr h0
            go_wp2
            go_ret
            exact ⟨by rw [HRS.out]; rfl, rfl⟩
          · have hpos : 0 < u.size := by omega
            obtain ⟨j, hj⟩ : ∃ j, j + 1 = u.size := ⟨u.size - 1, by omega⟩
            have hlt : j < u.size := by omega
            obtain ⟨c, hc⟩ : ∃ c, u[j]'hlt = c := ⟨_, rfl⟩
            have hget := list_get u j hlt
            rw [hc] at hget
            have hlast := last_list u j hj c hget
            have e0 := full_o u hpos
            have e1 := full_o2 u hpos
            have f1 : (u.size : Int) - 1 = (j : Int) := by omega
            have p0 : (0 : Int) ≤ (j : Int) := by omega
            have p1 : (j : Int) < (u.size : Int) := by omega
            have p2 : (j : Int) ≤ (u.size : Int) := by omega
            have HJ := Lib.hid hj
            clear h0 hget hj
            cases hb : isBl c with
            | true =>
              have hx : trimR (u.data.toList.take j) = trimR t.data.toList := by rw [← htr, hlast, trimR_snoc_bl _ _ hb, List.take_append_of_le_length (by rw [List.length_take, size_list]; omega), List.take_take, Nat.min_self]
              have hsz : (u.extract 0 j).size < u.size ∧ (u.extract 0 j).size ≤ s.size := by rw [ext_front, size_mk, List.length_take, size_list]; omega
              have HX := Lib.hid (And.intro hx (And.intro hb hsz))
              clear hx hb hsz htr hlast
              go_wp2_with fail
              refine (rblank_any c _).mono ?_
              rintro e w ⟨rfl, rfl⟩
              rw [HX.out.2.1]
              go_wp2
              go_roundw
              case rel => exact ⟨_, rfl, HX.out.2.2.2, by rw [ext_front]; exact HX.out.1, by first | rfl | trivial⟩
              case measure => exact HX.out.2.2.1
            | false =>
              have hres : trimL s.data.toList = u.data.toList := by rw [HD.out.1, ← htr, hlast, trimR_snoc_other _ _ hb]
              have HX := Lib.hid (And.intro hres hb)
              clear hres hb htr hlast
              go_wp2_with fail
              refine (rblank_any c _).mono ?_
              rintro e w ⟨rfl, rfl⟩
              rw [HX.out.2]
              go_wp2
              go_ret
              refine ⟨?_, rfl⟩
              rw [HX.out.1, str_eq]; rfl
end Go.Proofs.YtdlpbpikhmciaaaGreatDoor
