/- R6, HdU, EachH, HdK, HdC0: texts of the seat, one behind the other (a claim holds at most sixty). Conditions: each theorem names its own. -/
import Derived.Test.YtdlpbpikhmciaaaGreatDoorPk07
import Derived.Test.YtdlpbpikhmciaaaGreatDoorPk06
import Derived.Test.YtdlpbpikhmciaaaGreatDoorPk05
import Derived.OrdersHeld
import Derived.Laws.EntriesVeiled
namespace Go.Proofs.YtdlpbpikhmciaaaGreatDoor
open Go.RowKit
set_option linter.unusedSimpArgs false
set_option linter.unusedVariables false
set_option maxRecDepth 1000000
set_option maxHeartbeats 1000000 in
theorem r6blank_any (c : UInt8) (w : World) : Calls Tryz.prog 97 #[.int .u8 (c.toNat : Int)] w fun e w' => e = .returned (.bool (isBl c)) ∧ w' = w := by
  obtain ⟨n, hn⟩ : ∃ n, c.toNat = n := ⟨_, rfl⟩
  rw [hn]
  have HN := Lib.hid hn; clear hn
  go_enter Tryz.func97, Tryz.ntmps97
  go_wp2
  all_goals
    go_ret
    refine ⟨ret_boolO ?_, by first | rfl | trivial⟩
    rw [isBl_nat _ _ HN.out, Bool.eq_iff_iff]
    simp only [Bool.or_eq_true, decide_eq_true_eq, beq_iff_eq, true_iff, iff_true]
    omega
set_option maxHeartbeats 1000000 in
theorem r6inside_any (c : UInt8) (w : World) : Calls Tryz.prog 64 #[.int .u8 (c.toNat : Int)] w fun e w' => e = .returned (.bool (isFb c)) ∧ w' = w := by
  obtain ⟨n, hn⟩ : ∃ n, c.toNat = n := ⟨_, rfl⟩
  rw [hn]
  have HN := Lib.hid hn; clear hn
  go_enter Tryz.func64, Tryz.ntmps64
  go_wp2
  all_goals
    go_ret
    refine ⟨ret_boolO ?_, by first | rfl | trivial⟩
    rw [isFb_nat _ _ HN.out, Bool.eq_iff_iff]
    simp only [Bool.or_eq_true, Bool.and_eq_true, decide_eq_true_eq, beq_iff_eq, bne_iff_ne, true_iff, iff_true, Bool.false_eq_true, false_iff, iff_false]
    omega
set_option maxHeartbeats 4000000 in
theorem r6trim_any (s : ByteArray) (w : World) (hs : s.size ≤ 1099511627776) :
    Calls Tryz.prog 65 #[.string s] w fun e w' => e = .returned (.string ⟨(trimL s.data.toList).toArray⟩) ∧ w' = w := by
  go_enter Tryz.func65, Tryz.ntmps65
  go_wp2
  go_loopw [0] (fun v wr => ∃ t : ByteArray, v = .string t ∧ t.size ≤ s.size ∧ t.data.toList.dropWhile isBl = s.data.toList.dropWhile isBl ∧ wr = w) (fun v _ => match v with | .string t => t.size | _ => 0)
  case atStart => exact ⟨s, rfl, Nat.le_refl _, rfl, rfl⟩
  case round =>
    obtain ⟨t, rfl, hts, hdw, rfl⟩ := hrel
    by_cases h0 : t.size = 0
    · have hd1 : trimL s.data.toList = trimR t.data.toList := by rw [trimL_eq, ← hdw, list_nil_o t h0]; rfl
      have e0 : t.toList.isEmpty = true := by rw [ByteArray.toList_eq, list_nil_o t h0]; rfl
      have e1 : t.toList = [] := by rw [ByteArray.toList_eq, list_nil_o t h0]
      have z0 : ¬ (0 : Int) < (t.size : Int) := by omega
      have HD := Lib.hid (And.intro hd1 hts)
      clear hd1 hdw h0 hts
      go_wp2
      go_loopw [0] (fun v wq => ∃ u : ByteArray, v = .string u ∧ u.size ≤ s.size ∧ trimR u.data.toList = trimR t.data.toList ∧ wq = wr) (fun v _ => match v with | .string t => t.size | _ => 0)
      case atStart => exact ⟨t, rfl, HD.out.2, rfl, rfl⟩
      case round =>
        clear e0 e1
        obtain ⟨u, rfl, hus, htr, rfl⟩ := hrel
        by_cases h0 : u.size = 0
        · have hres : trimL s.data.toList = [] := by rw [HD.out.1, ← htr, list_nil_o u h0]; rfl
          obtain rfl := emp_o u h0
          have HRS := Lib.hid hres
          clear hres htr h0
          go_wp2
          go_ret
          exact ⟨by rw [HRS.out]; rfl, rfl⟩
        · have hpos : 0 < u.size := by omega
          obtain ⟨j, hj⟩ : ∃ j, j + 1 = u.size := ⟨u.size - 1, by omega⟩
          have hlt : j < u.size := by omega
          obtain ⟨c, hc⟩ : ∃ c, u[j]'hlt = c := ⟨_, rfl⟩
          have hget := list_get u j hlt
          rw [hc] at hget
          have hlast := last_list u j hj c hget
          have e0 := full_o u hpos
          have e1 := full_o2 u hpos
          have f1 : (u.size : Int) - 1 = (j : Int) := by omega
          have p0 : (0 : Int) ≤ (j : Int) := by omega
          have p00 : (0 : Int) < (u.size : Int) := by omega
          have p1 : (j : Int) < (u.size : Int) := by omega
          have p2 : (j : Int) ≤ (u.size : Int) := by omega
          have HJ := Lib.hid hj
          clear h0 hget hj
          cases hb : isBl c with
          | true =>
            have hx : trimR (u.data.toList.take j) = trimR t.data.toList := by rw [← htr, hlast, trimR_snoc_bl _ _ hb, List.take_append_of_le_length (by rw [List.length_take, size_list]; omega), List.take_take, Nat.min_self]
            have hsz : (u.extract 0 j).size < u.size ∧ (u.extract 0 j).size ≤ s.size := by rw [ext_front, size_mk, List.length_take, size_list]; omega
            have HX := Lib.hid (And.intro hx (And.intro hb hsz))
            clear hx hb hsz htr hlast
            go_wp2_with fail
            refine (r6blank_any c _).mono ?_
            rintro e w ⟨rfl, rfl⟩
            rw [HX.out.2.1]
            go_wp2
            go_roundw
            case rel => exact ⟨_, rfl, HX.out.2.2.2, by rw [ext_front]; exact HX.out.1, by first | rfl | trivial⟩
            case measure => exact HX.out.2.2.1
          | false =>
            have hres : trimL s.data.toList = u.data.toList := by rw [HD.out.1, ← htr, hlast, trimR_snoc_other _ _ hb]
            have HX := Lib.hid (And.intro hres hb)
            clear hres hb htr hlast
            go_wp2_with fail
            refine (r6blank_any c _).mono ?_
            rintro e w ⟨rfl, rfl⟩
            rw [HX.out.2]
            go_wp2
            go_ret
            refine ⟨?_, rfl⟩
            rw [HX.out.1, str_eq]; rfl
    · have hpos : 0 < t.size := by omega
      obtain ⟨c, hc⟩ : ∃ c, t[0]'hpos = c := ⟨_, rfl⟩
      have hget := drop_get t 0 hpos
      rw [hc, List.drop_zero] at hget
      have e0 := full_o t hpos
      have e1 := full_o2 t hpos
      have p0 : (0 : Int) < (t.size : Int) := by omega
      clear h0
      cases hb : isBl c with
      | true =>
        have hx : (t.data.toList.drop 1).dropWhile isBl = s.data.toList.dropWhile isBl := by rw [← hdw, hget, List.dropWhile_cons_of_pos hb]; rfl
        have hsz : (t.extract 1 t.size).size < t.size ∧ (t.extract 1 t.size).size ≤ s.size := by rw [ext_back, size_mk, List.length_drop, size_list]; omega
        have hp1 : (1 : Int) ≤ (t.size : Int) := by omega
        have HX := Lib.hid (And.intro hx (And.intro hb hsz))
        clear hx hb hsz hdw hget
        go_wp2_with fail
        refine (r6blank_any c _).mono ?_
        rintro e w ⟨rfl, rfl⟩
        rw [HX.out.2.1]
        go_wp2
        go_roundw
        case rel => exact ⟨_, rfl, HX.out.2.2.2, by rw [ext_back]; exact HX.out.1, by first | rfl | trivial⟩
        case measure => exact HX.out.2.2.1
      | false =>
        have hd1 : trimL s.data.toList = trimR t.data.toList := by rw [trimL_eq, ← hdw, hget, List.dropWhile_cons_of_neg (by rw [hb]; simp)]
        have HB := Lib.hid hb
        have HD := Lib.hid (And.intro hd1 hts)
        clear hd1 hdw hb hts hget
        go_wp2_with fail
        refine (r6blank_any c _).mono ?_
        rintro e w ⟨rfl, rfl⟩
        rw [HB.out]
        clear e0 e1 p0 hc HB hpos
        go_wp2
        go_loopw [0] (fun v wq => ∃ u : ByteArray, v = .string u ∧ u.size ≤ s.size ∧ trimR u.data.toList = trimR t.data.toList ∧ wq = w) (fun v _ => match v with | .string t => t.size | _ => 0)
        case atStart => exact ⟨t, rfl, HD.out.2, rfl, rfl⟩
        case round =>
          obtain ⟨u, rfl, hus, htr, rfl⟩ := hrel
          by_cases h0 : u.size = 0
          · have hres : trimL s.data.toList = [] := by rw [HD.out.1, ← htr, list_nil_o u h0]; rfl
            obtain rfl := emp_o u h0
            have HRS := Lib.hid hres
            clear hres htr h0
            go_wp2
            go_ret
            exact ⟨by rw [HRS.out]; rfl, rfl⟩
          · have hpos : 0 < u.size := by omega
            obtain ⟨j, hj⟩ : ∃ j, j + 1 = u.size := ⟨u.size - 1, by omega⟩
            have hlt : j < u.size := by omega
            obtain ⟨c, hc⟩ : ∃ c, u[j]'hlt = c := ⟨_, rfl⟩
            have hget := list_get u j hlt
            rw [hc] at hget
            have hlast := last_list u j hj c hget
            have e0 := full_o u hpos
            have e1 := full_o2 u hpos
            have f1 : (u.size : Int) - 1 = (j : Int) := by omega
            have p0 : (0 : Int) ≤ (j : Int) := by omega
            have p00 : (0 : Int) < (u.size : Int) := by omega
            have p1 : (j : Int) < (u.size : Int) := by omega
            have p2 : (j : Int) ≤ (u.size : Int) := by omega
            have HJ := Lib.hid hj
            clear h0 hget hj
            cases hb : isBl c with
            | true =>
              have hx : trimR (u.data.toList.take j) = trimR t.data.toList := by rw [← htr, hlast, trimR_snoc_bl _ _ hb, List.take_append_of_le_length (by rw [List.length_take, size_list]; omega), List.take_take, Nat.min_self]
              have hsz : (u.extract 0 j).size < u.size ∧ (u.extract 0 j).size ≤ s.size := by rw [ext_front, size_mk, List.length_take, size_list]; omega
              have HX := Lib.hid (And.intro hx (And.intro hb hsz))
              clear hx hb hsz htr hlast
              go_wp2_with fail
              refine (r6blank_any c _).mono ?_
              rintro e w ⟨rfl, rfl⟩
              rw [HX.out.2.1]
              go_wp2
              go_roundw
              case rel => exact ⟨_, rfl, HX.out.2.2.2, by rw [ext_front]; exact HX.out.1, by first | rfl | trivial⟩
              case measure => exact HX.out.2.2.1
            | false =>
              have hres : trimL s.data.toList = u.data.toList := by rw [HD.out.1, ← htr, hlast, trimR_snoc_other _ _ hb]
              have HX := Lib.hid (And.intro hres hb)
              clear hres hb htr hlast
              go_wp2_with fail
              refine (r6blank_any c _).mono ?_
              rintro e w ⟨rfl, rfl⟩
              rw [HX.out.2]
              go_wp2
              go_ret
              refine ⟨?_, rfl⟩
              rw [HX.out.1, str_eq]; rfl
/-- A field's value. -/
def isVal (l : List UInt8) : Bool := decide (l.length ≤ 8192) && (isFld l && (trimL l == l))
set_option maxHeartbeats 4000000 in
theorem oisvalue_any (s : ByteArray) (w : World) (hs : s.size ≤ 1099511627776) :
    Calls Tryz.prog 48 #[.string s] w fun e w' => e = .returned (.bool (isVal s.data.toList)) ∧ Below w.heap.size w w' := by
  have htr := fun W => otrim_any s W (by omega)
  obtain ⟨t, ht⟩ : ∃ t : ByteArray, ⟨(trimL s.data.toList).toArray⟩ = t := ⟨_, rfl⟩
  rw [ht] at htr
  have hTL : t.toList = trimL s.data.toList := by rw [← ht, ByteArray.toList_eq]
  have HTR := Lib.hid htr
  have e1 : (t.toList == s.toList) = (trimL s.data.toList == s.data.toList) := by rw [hTL, ByteArray.toList_eq]
  unfold isVal
  rw [size_list]
  clear htr hTL ht
  by_cases hl : s.size ≤ 8192
  case neg =>
    have hd : decide (s.size ≤ 8192) = false := decide_eq_false hl
    have i1 : ¬ (s.size : Int) ≤ 8192 := by omega
    rw [hd]
    clear hl hd
    go_enter Tryz.func48, Tryz.ntmps48
    go_wp2
    go_ret
    exact ⟨rfl, Below.refl _ _⟩
  have hd : decide (s.size ≤ 8192) = true := decide_eq_true hl
  have i1 : (s.size : Int) ≤ 8192 := by omega
  rw [hd]
  have HS := Lib.hid hs
  clear hl hd hs
  cases hF : isFld s.data.toList with
  | false =>
    have HF := Lib.hid hF
    clear hF
    go_enter Tryz.func48, Tryz.ntmps48
    go_wp2_with fail
    refine (oisfield_any s _ HS.out).mono ?_
    rintro e w2 ⟨rfl, rfl⟩
    rw [HF.out]
    go_wp2
    go_ret
    exact ⟨rfl, Below.refl _ _⟩
  | true =>
    have HF := Lib.hid hF
    clear hF
    obtain ⟨b, hb⟩ : ∃ b, (trimL s.data.toList == s.data.toList) = b := ⟨_, rfl⟩
    rw [hb] at e1 ⊢
    clear hb
    go_enter Tryz.func48, Tryz.ntmps48
    go_wp2_with fail
    refine (oisfield_any s _ HS.out).mono ?_
    rintro e w2 ⟨rfl, rfl⟩
    rw [HF.out]
    go_wp2_with fail
    refine (HTR.out _).mono ?_
    rintro e w3 ⟨rfl, hb3⟩
    have HB := Lib.hid hb3
    clear hb3
    go_wp2
    go_ret
    refine ⟨?_, HB.out⟩
    first | rfl | (rw [e1]; rfl) | simp [e1]
set_option maxHeartbeats 4000000 in
theorem r6isvalue_any (s : ByteArray) (w : World) (hs : s.size ≤ 1099511627776) :
    Calls Tryz.prog 28 #[.string s] w fun e w' => e = .returned (.bool (isVal s.data.toList)) ∧ w' = w := by
  have htr := fun W => r6trim_any s W (by omega)
  obtain ⟨t, ht⟩ : ∃ t : ByteArray, ⟨(trimL s.data.toList).toArray⟩ = t := ⟨_, rfl⟩
  rw [ht] at htr
  have hTL : t.toList = trimL s.data.toList := by rw [← ht, ByteArray.toList_eq]
  have HTR := Lib.hid htr
  have e1 : (t.toList == s.toList) = (trimL s.data.toList == s.data.toList) := by rw [hTL, ByteArray.toList_eq]
  unfold isVal
  rw [size_list]
  clear htr hTL ht
  go_enter Tryz.func28, Tryz.ntmps28
  go_wp2
  go_loopw [3] (fun iv wr => ∃ i : Nat, iv = .int .i64 i ∧ i ≤ s.size ∧ (s.data.toList.take i).all isFb = true ∧ wr = w) (fun iv _ => s.size - (intOf iv).toNat)
  case atStart => exact ⟨0, rfl, Nat.zero_le _, rfl, rfl⟩
  case round =>
    obtain ⟨i, rfl, hi, hall, rfl⟩ := hrel
    by_cases hlt : i < s.size
    · obtain ⟨c, hc⟩ : ∃ c, s[i]'hlt = c := ⟨_, rfl⟩
      have hget := list_get s i hlt
      rw [hc] at hget
      have k0 : (0 : Int) ≤ (i : Int) := Int.natCast_nonneg _
      have k1 : (i : Int) < (s.size : Int) := by omega
      have HA := Lib.hid (And.intro hall hget)
      clear hall hget
      cases hst : isFb c with
      | true =>
        have hx := all_take isFb _ i c HA.out.2 HA.out.1 hst
        have HS := Lib.hid (And.intro hx hst)
        clear hx hst
        go_wp2_with fail
        refine (r6inside_any c _).mono ?_
        rintro e w ⟨rfl, rfl⟩
        rw [HS.out.2]
        have hwi := w64o i (le_oo i s.size hi hs)
        go_wp2
        go_roundw
        case rel => (try rw [hwi]); clear hwi; exact ⟨i + 1, by go_num, by omega, HS.out.1, by first | rfl | trivial⟩
        case measure => (try rw [hwi]); clear hwi; simp [intOf]; omega
      | false =>
        have hx : isFld s.data.toList = false := all_not isFb _ i c HA.out.2 hst
        have HS := Lib.hid (And.intro hx hst)
        clear hx hst
        go_wp2_with fail
        refine (r6inside_any c _).mono ?_
        rintro e w ⟨rfl, rfl⟩
        rw [HS.out.2]
        go_wp2
        go_ret
        refine ⟨?_, rfl⟩
        rw [HS.out.1]
        simp
    · obtain rfl : i = s.size := by omega
      have hx : isFld s.data.toList = true := all_full isFb s hall
      have HX := Lib.hid hx; clear hx hall
      have hd : decide (s.size < s.size) = false := decide_eq_false (Nat.lt_irrefl _)
      by_cases hl : s.size ≤ 8192
      · have i1 : (s.size : Int) ≤ 8192 := by omega
        have HD := Lib.hid (show decide (s.size ≤ 8192) = true from decide_eq_true hl)
        obtain ⟨b, hb⟩ : ∃ b, (trimL s.data.toList == s.data.toList) = b := ⟨_, rfl⟩
        rw [hb] at e1
        have HBB := Lib.hid hb
        clear hb hl
        go_wp2_with fail
        refine (HTR.out _).mono ?_
        rintro e w3 ⟨rfl, rfl⟩
        go_wp2
        go_ret
        refine ⟨?_, rfl⟩
        rw [HD.out, HX.out, HBB.out]
        first | rfl | (rw [e1]; rfl) | simp [e1]
      · have i1 : ¬ (s.size : Int) ≤ 8192 := by omega
        have HD := Lib.hid (show decide (s.size ≤ 8192) = false from decide_eq_false hl)
        clear hl
        go_wp2
        go_ret
        refine ⟨?_, rfl⟩
        rw [HD.out]
        rfl
end Go.Proofs.YtdlpbpikhmciaaaGreatDoor
namespace Go.Proofs.YtdlpbpikhmciaaaGreatDoor
open Go.RowKit
set_option linter.unusedSimpArgs false
set_option linter.unusedVariables false
set_option maxRecDepth 1000000
abbrev hdC (k : Int) (n t m : ByteArray) (s c : Int) : Array Value := #[.int .i64 k, .string n, .string t, .string m, .int .i64 s, .int .i64 c]
def orB (a b : Bool) : Bool := a || b
def bareB (un ut um us uc n t m s c : Bool) : Bool := orB un n && (orB ut t && (orB um m && (orB us s && orB uc c)))
theorem bare_no1 (un ut um us uc n t m s c : Bool) (h1 : un = false) (h2 : n = false) : bareB un ut um us uc n t m s c = false := by subst h1; subst h2; rfl
set_option maxHeartbeats 16000000 in
theorem ounused_any (k s c k2 us uc : Int) (n t m un ut um : ByteArray) (w : World) :
    Calls Tryz.prog 26 #[.agg (hdC k n t m s c), .agg (hdC k2 un ut um us uc)] w fun e w' => e = .returned (.bool (bareB (!decide (un.toList = [])) (!decide (ut.toList = [])) (!decide (um.toList = [])) (!decide (us = 0)) (!decide (uc = 0)) (decide (n.toList = [])) (decide (t.toList = [])) (decide (m.toList = [])) (decide (s = 0)) (c == 0))) ∧ Below w.heap.size w w' := by
  have hb : ∀ a b, Below w.heap.size w ((w.alloc (.cells a 23)).alloc (.cells b 23)) := fun a b => ((Below.refl _ w).alloc (Nat.le_refl _) _).alloc (by simp) _
  have HB := Lib.hid hb; clear hb
  go_enter Tryz.func26, Tryz.ntmps26
  go_wp2
  all_goals
    go_ret
    refine ⟨ret_boolO ?_, HB.out _ _⟩
    simp_all [bareB, orB]
theorem below1 (w : World) (o : Obj) : Below w.heap.size w (w.alloc o) := (Below.refl _ w).alloc (Nat.le_refl _) _
set_option maxHeartbeats 4000000 in
theorem yes_any (h : Array Value) (w : World) : Calls Tryz.prog 54 #[.agg h] w fun e w' => e = .returned (.bool true) ∧ Below w.heap.size w w' := by
  go_enter Tryz.func54, Tryz.ntmps54
  go_wp2
  go_ret
  exact ⟨rfl, below1 _ _⟩
def rt2 (s : Int) : Bool := decide (200 ≤ s) && decide (s ≤ 599)
set_option maxHeartbeats 4000000 in
theorem lit2_any (k s c : Int) (n t m : ByteArray) (w : World) : Calls Tryz.prog 50 #[.agg (hdC k n t m s c)] w fun e w' => e = .returned (.bool (rt2 s)) ∧ Below w.heap.size w w' := by
  go_enter Tryz.func50, Tryz.ntmps50
  go_wp2
  all_goals
    go_ret
    refine ⟨ret_boolO ?_, below1 _ _⟩
    unfold rt2
    (try simp_all)
    (try omega)
def rt5 (c : Int) : Bool := decide (1 ≤ c) && decide (c ≤ 1000)
set_option maxHeartbeats 4000000 in
theorem lit5_any (k s c : Int) (n t m : ByteArray) (w : World) : Calls Tryz.prog 59 #[.agg (hdC k n t m s c)] w fun e w' => e = .returned (.bool (rt5 c)) ∧ Below w.heap.size w w' := by
  go_enter Tryz.func59, Tryz.ntmps59
  go_wp2
  all_goals
    go_ret
    refine ⟨ret_boolO ?_, below1 _ _⟩
    unfold rt5
    (try simp_all)
    (try omega)
set_option maxHeartbeats 4000000 in
theorem lit6_any (k s c : Int) (n t m : ByteArray) (w : World) (hs : n.size ≤ 1099511627776) (hg : SgAt w) : Calls Tryz.prog 61 #[.agg (hdC k n t m s c)] w fun e w' => e = .returned (.bool (isTok n.data.toList)) ∧ Below w.heap.size w w' := by
  have HC := Lib.hid (otoken_any n (w.alloc (.cells (hdC k n t m s c) 23)) hs (hg.below (below1 w _)))
  go_enter Tryz.func61, Tryz.ntmps61
  go_wp2_with fail
  refine (HC.out).mono ?_
  rintro e w1 ⟨rfl, rfl⟩
  go_wp2
  go_ret
  exact ⟨rfl, below1 _ _⟩
def rt4 (n : List UInt8) (c : Int) : Bool := (n.isEmpty || isNm n) && (c == 0 || c == 1)
set_option maxHeartbeats 4000000 in
theorem lit4_any (k s c : Int) (n t m : ByteArray) (w : World) (hs : n.size ≤ 1099511627776) : Calls Tryz.prog 57 #[.agg (hdC k n t m s c)] w fun e w' => e = .returned (.bool (rt4 n.data.toList c)) ∧ Below w.heap.size w w' := by
  have HN := Lib.hid (oisname_any n (w.alloc (.cells (hdC k n t m s c) 23)) hs)
  have HBW := Lib.hid (show ∀ a, Below w.heap.size w (w.alloc (.cells a 23)) from fun a => below1 w _)
  have e1 := toL n
  cases hemp : n.toList.isEmpty with
  | true =>
    have e2 : n.data.toList.isEmpty = true := by rw [← e1]; exact hemp
    have HE := Lib.hid e2
    clear e1 e2
    go_enter Tryz.func57, Tryz.ntmps57
    go_wp2
    all_goals
      go_ret
      refine ⟨ret_boolO ?_, HBW.out _⟩
      unfold rt4
      rw [HE.out]
      simp_all
  | false =>
    have e2 : n.data.toList.isEmpty = false := by rw [← e1]; exact hemp
    have HE := Lib.hid e2
    have e3 : ¬ n.toList = [] := by intro h; rw [h] at hemp; cases hemp
    cases hnm : isNm n.data.toList with
    | false =>
      have H2 := Lib.hid hnm
      rw [hnm] at HN
      clear e1 e2 hnm
      go_enter Tryz.func57, Tryz.ntmps57
      go_wp2_with fail
      refine (HN.out).mono ?_
      rintro e w1 ⟨rfl, hb1⟩
      have HB := Lib.hid ((HBW.out _).trans (hb1.mono (HBW.out (hdC k n t m s c)).size))
      clear hb1
      go_wp2
      go_ret
      refine ⟨ret_boolO ?_, HB.out⟩
      unfold rt4
      rw [HE.out, H2.out]
      rfl
    | true =>
      have H2 := Lib.hid hnm
      rw [hnm] at HN
      clear e1 e2 hnm
      go_enter Tryz.func57, Tryz.ntmps57
      go_wp2_with fail
      refine (HN.out).mono ?_
      rintro e w1 ⟨rfl, hb1⟩
      have hbx := (HBW.out _).trans (hb1.mono (HBW.out (hdC k n t m s c)).size)
      have c5 : w1.cell? ⟨w.heap.size, 5, none⟩ = some (.int .i64 c) := by
        rw [hb1.cell (p := ⟨w.heap.size, 5, none⟩) (by simp), Lib.cell_of_heap (heap_alloc_new w _)]
        rfl
      have HB := Lib.hid hbx
      clear hb1 hbx
      go_wp2
      all_goals
        go_ret
        refine ⟨ret_boolO ?_, HB.out⟩
        unfold rt4
        rw [HE.out, H2.out]
        simp_all
def rt1 (m : List UInt8) (s : Int) : Bool := rt2 s && (s != 204 && (s != 304 && (!m.isEmpty && isVal m)))
set_option maxHeartbeats 4000000 in
theorem lit1_any (k s c : Int) (n t m : ByteArray) (w : World) (hs : m.size ≤ 1099511627776) : Calls Tryz.prog 47 #[.agg (hdC k n t m s c)] w fun e w' => e = .returned (.bool (rt1 m.data.toList s)) ∧ Below w.heap.size w w' := by
  have HN := Lib.hid (oisvalue_any m (w.alloc (.cells (hdC k n t m s c) 23)) hs)
  have HBW := Lib.hid (show ∀ a, Below w.heap.size w (w.alloc (.cells a 23)) from fun a => below1 w _)
  have e1 := toL m
  by_cases hg : (200 ≤ s ∧ s ≤ 599) ∧ s ≠ 204 ∧ s ≠ 304 ∧ m.toList.isEmpty = false
  · obtain ⟨⟨g1, g2⟩, g3, g4, g5⟩ := hg
    have e3 : ¬ m.toList = [] := by intro h; rw [h] at g5; cases g5
    have f3 : (s != 204) = true := by simpa using g3
    have f4 : (s != 304) = true := by simpa using g4
    have hX : rt1 m.data.toList s = isVal m.data.toList := by
      unfold rt1 rt2
      rw [decide_eq_true g1, decide_eq_true g2, ← e1, g5, f3, f4]
      rfl
    have HX := Lib.hid hX
    clear hX e1 g3 g4
    go_enter Tryz.func47, Tryz.ntmps47
    go_wp2_with fail
    refine (HN.out).mono ?_
    rintro e w1 ⟨rfl, hb1⟩
    have HB := Lib.hid ((HBW.out _).trans (hb1.mono (HBW.out (hdC k n t m s c)).size))
    clear hb1
    obtain ⟨b, hb⟩ : ∃ b, isVal m.data.toList = b := ⟨_, rfl⟩
    rw [hb] at HX ⊢
    clear hb
    go_wp2
    go_ret
    exact ⟨ret_boolO HX.out.symm, HB.out⟩
  · have hX : rt1 m.data.toList s = false := by
      cases hx : rt1 m.data.toList s with
      | false => rfl
      | true =>
        exfalso
        apply hg
        unfold rt1 rt2 at hx
        rw [e1]
        simp only [Bool.and_eq_true, decide_eq_true_eq, bne_iff_ne, Bool.not_eq_true'] at hx
        exact ⟨hx.1, hx.2.1, hx.2.2.1, hx.2.2.2.1⟩
    have HX := Lib.hid hX
    have hg2 : s < 200 ∨ 599 < s ∨ s = 204 ∨ s = 304 ∨ (((200 ≤ s ∧ s ≤ 599) ∧ s ≠ 204 ∧ s ≠ 304) ∧ m.toList.isEmpty = true) := by
      cases hm : m.toList.isEmpty with
      | true => simp only [and_true]; omega
      | false => rw [hm] at hg; simp only [and_true] at hg; omega
    clear hX e1 hg
    rcases hg2 with g | g | g | g | ⟨⟨⟨g1, g2⟩, g3, g4⟩, g5⟩
    case' inr.inr.inr.inr => have e3 : m.toList = [] := by simpa using g5
    case' inr.inr.inr.inr => have f3 : (s != 204) = true := by simpa using g3
    case' inr.inr.inr.inr => have f4 : (s != 304) = true := by simpa using g4
    case' inr.inr.inr.inr => clear g3 g4
    case' inr.inr.inl => subst g
    case' inr.inr.inr.inl => subst g
    all_goals
      go_enter Tryz.func47, Tryz.ntmps47
      go_wp2
      all_goals
        go_ret
        exact ⟨ret_boolO HX.out.symm, HBW.out _⟩
end Go.Proofs.YtdlpbpikhmciaaaGreatDoor
namespace Go.Proofs.YtdlpbpikhmciaaaGreatDoor
open Go.RowKit
set_option linter.unusedSimpArgs false
set_option linter.unusedVariables false
set_option maxRecDepth 1000000
section
variable {P : Program} {ops : Array Oper} {S : World → Prop} {Q : Exit → Act → World → Prop}
theorem wp_region_eachH {id : Nat} {a : Act} {w : World} (S : World → Prop) (n : Nat) (hm : P.follows .mixedOrders = true) (hn : n = ops.size) (h : wpAnyH P .any ops (offPanic Q) S n (Array.replicate ops.size false) a w.drew) : (Code.region id ops true).wp P Q a w := by
  subst hn
  refine Code.wp_mono (Q := offPanic Q) (fun e a w h => ?_) (wp_region_held hm h)
  cases e <;> first | exact h | exact (h : False).elim
theorem eachH_take {i n : Nat} {o : Oper} {v : Value} {L : Array Bool} {a : Act} {w : World} (hi : ops[i]? = some o) (hs : Region.noSelect ops = true) (hc : (Region.free .any ops L i && (Region.ready .any ops L).contains i) = true) (hw : Region.wanted o (yielded ops a.tmps) = true) (hS : S w)
    (hv : ∀ w, S w → (execOp a.eval o).run P w = .ok (.value v) w) (h : wpAnyH P .any ops (offPanic Q) S n (L.setIfInBounds i true) (a.put o.dst v) w) : wpAnyH P .any ops (offPanic Q) S (n + 1) L a w := by
  rw [Bool.and_eq_true] at hc
  exact wpAnyH_take hi hs hc.1 hc.2 (fun _ _ _ h => h) (.inl ⟨hw, hv⟩) hS h
abbrev EachStepH (P : Program) (ops : Array Oper) (S : World → Prop) (Q : Exit → Act → World → Prop) (n : Nat) (L : Array Bool) (a : Act) (w : World) (i : Nat) (o : Oper) : Prop :=
  ∀ K : Act → World → Prop, (∀ a w, S w → wpAnyH P .any ops Q S n (L.setIfInBounds i true) a w → K a w) → if Region.wanted o (yielded ops a.tmps) = true then Oper.wp P o a w K Q else K (a.put o.dst undef) w
theorem eachH1 {i n : Nat} {o : Oper} {L : Array Bool} {a : Act} {w : World} (hr : (Region.ready .any ops L == [i]) = true) (hi : ops[i]? = some o) (h : EachStepH P ops S Q n L a w i o) : wpAnyH P .any ops Q S (n + 1) L a w := by
  refine wpAnyH_all (by simpa using hr) (by simp) (fun j hj => ?_)
  obtain rfl : j = i := by simpa using hj
  exact wpOp_step hi (fun K hK => h K (fun a w hS h' => hK a w ⟨hS, h'⟩))
theorem eachH2 {i j n : Nat} {o p : Oper} {L : Array Bool} {a : Act} {w : World} (hr : (Region.ready .any ops L == [i, j]) = true) (hi : ops[i]? = some o) (hj : ops[j]? = some p) (h : EachStepH P ops S Q n L a w i o) (h2 : EachStepH P ops S Q n L a w j p) : wpAnyH P .any ops Q S (n + 1) L a w := by
  refine wpAnyH_all (by simpa using hr) (by simp) (fun k hk => ?_)
  rcases (by simpa using hk : k = i ∨ k = j) with rfl | rfl
  · exact wpOp_step hi (fun K hK => h K (fun a w hS h' => hK a w ⟨hS, h'⟩))
  · exact wpOp_step hj (fun K hK => h2 K (fun a w hS h' => hK a w ⟨hS, h'⟩))
theorem eachH3 {i j k n : Nat} {o p q : Oper} {L : Array Bool} {a : Act} {w : World} (hr : (Region.ready .any ops L == [i, j, k]) = true) (hi : ops[i]? = some o) (hj : ops[j]? = some p) (hk : ops[k]? = some q) (h : EachStepH P ops S Q n L a w i o) (h2 : EachStepH P ops S Q n L a w j p) (h3 : EachStepH P ops S Q n L a w k q) : wpAnyH P .any ops Q S (n + 1) L a w := by
  refine wpAnyH_all (by simpa using hr) (by simp) (fun x hx => ?_)
  rcases (by simpa using hx : x = i ∨ x = j ∨ x = k) with rfl | rfl | rfl
  · exact wpOp_step hi (fun K hK => h K (fun a w hS h' => hK a w ⟨hS, h'⟩))
  · exact wpOp_step hj (fun K hK => h2 K (fun a w hS h' => hK a w ⟨hS, h'⟩))
  · exact wpOp_step hk (fun K hK => h3 K (fun a w hS h' => hK a w ⟨hS, h'⟩))
theorem eachH_done {L : Array Bool} {a : Act} {w : World} {n : Nat} (hr : Region.ready .any ops L = []) (h : Q .normal a w) : wpAnyH P .any ops (offPanic Q) S n L a w := wpAnyH_done (Q := offPanic Q) hr h n
end
end Go.Proofs.YtdlpbpikhmciaaaGreatDoor
namespace Go.Proofs.YtdlpbpikhmciaaaGreatDoor
open Go.RowKit
set_option linter.unusedSimpArgs false
set_option linter.unusedVariables false
set_option maxRecDepth 1000000
def eX : ByteArray := ⟨#[120]⟩
def e0 : ByteArray := ⟨#[]⟩
def kRow (f g : FuncId) (un ut um : ByteArray) (us uc : Int) : List Value := [.func (.func f) #[] #[], .func (.func g) #[] #[], .int .i64 0, .string un, .string ut, .string um, .int .i64 us, .int .i64 uc]
def kAll : List Value := [.nilFunc, .nilFunc, .int .i64 0, .string e0, .string e0, .string e0, .int .i64 0, .int .i64 0] ++ kRow 46 47 e0 eX eX 1 0 ++ kRow 49 50 e0 e0 e0 1 0 ++ kRow 51 52 e0 eX e0 1 0 ++ kRow 53 54 e0 e0 e0 0 0 ++ kRow 55 54 e0 e0 e0 0 0 ++ kRow 56 57 eX e0 e0 0 1 ++ kRow 58 59 e0 e0 e0 0 1 ++ kRow 60 61 eX e0 e0 0 0 ++ kRow 63 54 e0 e0 e0 0 0
def kArr : Array Value := kAll.toArray
set_option maxHeartbeats 4000000 in
theorem kinds_any (w : World) : Calls Tryz.prog 25 #[] w fun e w' => e = .returned (.slice (some ⟨w.heap.size, 0, none⟩) 10 10) ∧ w' = w.alloc (.cells kArr 74) := by
  go_enter Tryz.func25, Tryz.ntmps25
  go_wp2
  go_ret
  exact ⟨rfl, rfl⟩
def rt3 (t : List UInt8) (s : Int) : Bool := (s == 301 || (s == 302 || (s == 303 || (s == 307 || s == 308)))) && (refR [] t).isSome
theorem parsNil (W : World) : ParsIn W (.slice none 0 0) [] := ⟨none, 0, rfl, fun i p hp => by simp at hp⟩
theorem rfT_is (ps : List Par) (l : List UInt8) (b : Bool) (h : (refR ps l).isSome = b) : (rfT ps l).2 = if b then 0 else 180 := by
  unfold rfT
  cases hr : refR ps l with
  | none => rw [hr] at h; subst h; rfl
  | some x => rw [hr] at h; subst h; rfl
set_option maxHeartbeats 4000000 in
theorem lit3_any (k s c : Int) (n t m : ByteArray) (w : World) (hs : t.size ≤ 1048576) : Calls Tryz.prog 52 #[.agg (hdC k n t m s c)] w fun e w' => e = .returned (.bool (rt3 t.data.toList s)) ∧ Below w.heap.size w w' := by
  have hN := orefer_any t (.slice none 0 0) [] (w.alloc (.cells (hdC k n t m s c) 23)) hs (by simp [totP]) (parsNil _)
  obtain ⟨b, hb⟩ : ∃ b, (refR [] t.data.toList).isSome = b := ⟨_, rfl⟩
  have hX : rt3 t.data.toList s = ((s == 301 || (s == 302 || (s == 303 || (s == 307 || s == 308)))) && b) := by unfold rt3; rw [hb]
  rw [hX]
  rw [rfT_is _ _ _ hb] at hN
  obtain ⟨x, hx⟩ : ∃ x : ByteArray, ⟨(rfT [] t.data.toList).1.toArray⟩ = x := ⟨_, rfl⟩
  rw [hx] at hN
  have HN := Lib.hid hN
  have HBW := Lib.hid (show ∀ a, Below w.heap.size w (w.alloc (.cells a 23)) from fun a => below1 w _)
  clear hX hb hx hN
  by_cases h1 : s = 301 ∨ s = 302 ∨ s = 303 ∨ s = 307 ∨ s = 308
  · rcases h1 with rfl | rfl | rfl | rfl | rfl
    all_goals
      cases b
      all_goals
        go_enter Tryz.func52, Tryz.ntmps52
        go_wp2_with fail
        refine (HN.out).mono ?_
        rintro e w1 ⟨rfl, hb1⟩
        have HB := Lib.hid ((HBW.out _).trans (hb1.mono (HBW.out _).size))
        clear hb1
        go_wp2
        go_ret
        exact ⟨by first | rfl | trivial, HB.out⟩
  · have g1 : (s == 301) = false := by simp; omega
    have g2 : (s == 302) = false := by simp; omega
    have g3 : (s == 303) = false := by simp; omega
    have g4 : (s == 307) = false := by simp; omega
    have g5 : (s == 308) = false := by simp; omega
    have hx : ((s == 301 || (s == 302 || (s == 303 || (s == 307 || s == 308)))) && b) = false := by rw [g1, g2, g3, g4, g5]; rfl
    have HX := Lib.hid hx
    clear hx h1
    go_enter Tryz.func52, Tryz.ntmps52
    go_wp2
    go_ret
    exact ⟨ret_boolO HX.out.symm, HBW.out _⟩
end Go.Proofs.YtdlpbpikhmciaaaGreatDoor
namespace Go.Proofs.YtdlpbpikhmciaaaGreatDoor
open Go.RowKit
set_option linter.unusedSimpArgs false
set_option linter.unusedVariables false
set_option maxRecDepth 1000000
def chkI (a b : Bool) : Int := if a && b then 0 else 180
abbrev zK : Array Value := #[.nilFunc, .nilFunc, .int .i64 0, .string ⟨#[]⟩, .string ⟨#[]⟩, .string ⟨#[]⟩, .int .i64 0, .int .i64 0]
theorem eightBelow {w W : World} {p : Nat} (h : Below w.heap.size w W) (hp : w.heap.size ≤ p) (u0 u1 u2 u3 u4 u5 u6 u7 : Value) :
    Below w.heap.size w ((((((((W.setCell ⟨p, 0, none⟩ u0).setCell ⟨p, 1, none⟩ u1).setCell ⟨p, 2, none⟩ u2).setCell ⟨p, 3, none⟩ u3).setCell ⟨p, 4, none⟩ u4).setCell ⟨p, 5, none⟩ u5).setCell ⟨p, 6, none⟩ u6).setCell ⟨p, 7, none⟩ u7) :=
  (((((((h.setCell (p := ⟨p, 0, none⟩) hp _).setCell (p := ⟨p, 1, none⟩) hp _).setCell (p := ⟨p, 2, none⟩) hp _).setCell (p := ⟨p, 3, none⟩) hp _).setCell (p := ⟨p, 4, none⟩) hp _).setCell (p := ⟨p, 5, none⟩) hp _).setCell (p := ⟨p, 6, none⟩) hp _).setCell (p := ⟨p, 7, none⟩) hp _
theorem eightOther {W : World} {p g : Nat} {c : Array Value} {T : TypeId} (h : BlkIs W g c T) (hne : g ≠ p) (u0 u1 u2 u3 u4 u5 u6 u7 : Value) :
    BlkIs ((((((((W.setCell ⟨p, 0, none⟩ u0).setCell ⟨p, 1, none⟩ u1).setCell ⟨p, 2, none⟩ u2).setCell ⟨p, 3, none⟩ u3).setCell ⟨p, 4, none⟩ u4).setCell ⟨p, 5, none⟩ u5).setCell ⟨p, 6, none⟩ u6).setCell ⟨p, 7, none⟩ u7) g c T :=
  (((((((h.setOther _ _ hne).setOther _ _ hne).setOther _ _ hne).setOther _ _ hne).setOther _ _ hne).setOther _ _ hne).setOther _ _ hne).setOther _ _ hne
theorem eightSet {W : World} {p : Nat} (h : BlkIs W p zK 74) (u0 u1 u2 u3 u4 u5 u6 u7 : Value) :
    BlkIs ((((((((W.setCell ⟨p, 0, none⟩ u0).setCell ⟨p, 1, none⟩ u1).setCell ⟨p, 2, none⟩ u2).setCell ⟨p, 3, none⟩ u3).setCell ⟨p, 4, none⟩ u4).setCell ⟨p, 5, none⟩ u5).setCell ⟨p, 6, none⟩ u6).setCell ⟨p, 7, none⟩ u7) p #[u0, u1, u2, u3, u4, u5, u6, u7] 74 := by
  have h8 := (((((((h.set 0 u0).set 1 u1).set 2 u2).set 3 u3).set 4 u4).set 5 u5).set 6 u6).set 7 u7
  have e : (((((((zK.setIfInBounds 0 u0).setIfInBounds 1 u1).setIfInBounds 2 u2).setIfInBounds 3 u3).setIfInBounds 4 u4).setIfInBounds 5 u5).setIfInBounds 6 u6).setIfInBounds 7 u7 = #[u0, u1, u2, u3, u4, u5, u6, u7] := by simp
  rw [e] at h8
  exact h8
end Go.Proofs.YtdlpbpikhmciaaaGreatDoor
