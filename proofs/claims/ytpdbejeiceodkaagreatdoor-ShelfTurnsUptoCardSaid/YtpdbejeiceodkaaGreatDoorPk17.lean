/- RQt, Prm: texts of the seat, one behind the other (a claim holds at most sixty). Conditions: each theorem names its own. -/
import Derived.Test.YtpdbejeiceodkaaGreatDoorPk13
import Derived.Test.YtpdbejeiceodkaaGreatDoorPk16
import Derived.Deep.DeepCutAuto
namespace Go.Proofs.YtpdbejeiceodkaaGreatDoor
open Go.RowKit
set_option linter.unusedSimpArgs false
set_option linter.unusedVariables false
set_option maxRecDepth 1000000
set_option maxHeartbeats 2000000 in
theorem risfield_any (s : ByteArray) (w : World) (hs : s.size ≤ 1099511627776) :
    Calls Tryz.prog 190 #[.string s] w fun e w' => e = .returned (.bool (isFld s.data.toList)) ∧ w' = w := by
  go_enter Tryz.func190, Tryz.ntmps190
  go_wp2
  go_loopw [3] (fun iv wr => ∃ i : Nat, iv = .int .i64 i ∧ i ≤ s.size ∧ (s.data.toList.take i).all isFb = true ∧ wr = w) (fun iv _ => s.size - (intOf iv).toNat)
  case atStart => exact ⟨0, rfl, Nat.zero_le _, rfl, rfl⟩
  case round =>
    obtain ⟨i, rfl, hi, hall, rfl⟩ := hrel
    by_cases hlt : i < s.size
    · obtain ⟨c, hc⟩ : ∃ c, s[i]'hlt = c := ⟨_, rfl⟩
      have hget := list_get s i hlt
      rw [hc] at hget
      have k0 : (0 : Int) ≤ (i : Int) := Int.natCast_nonneg _
      have k1 : (i : Int) < (s.size : Int) := by omega
      have HA := Lib.hid (And.intro hall hget)
      clear hall hget
      cases hst : isFb c with
      | true =>
        have hx := all_take isFb _ i c HA.out.2 HA.out.1 hst
        have HS := Lib.hid (And.intro hx hst)
        clear hx hst
        go_wp2_with fail
        refine (rbyte_any c _).mono ?_
        rintro e w ⟨rfl, rfl⟩
        rw [HS.out.2]
        have hwi := w64o i (le_oo i s.size hi hs)
        go_wp2
        go_roundw
        case rel => (try rw [hwi]); clear hwi; exact ⟨i + 1, by go_num, by omega, HS.out.1, by first | rfl | trivial⟩
        case measure => (try rw [hwi]); clear hwi; simp [intOf]; omega
      | false =>
        have hx : isFld s.data.toList = false := all_not isFb _ i c HA.out.2 hst
        have HS := Lib.hid (And.intro hx hst)
        clear hx hst
        go_wp2_with fail
        refine (rbyte_any c _).mono ?_
        rintro e w ⟨rfl, rfl⟩
        rw [HS.out.2]
        go_wp2
        go_ret
        exact ⟨ret_boolO HS.out.1.symm, rfl⟩
    · obtain rfl : i = s.size := by omega
      have hx : isFld s.data.toList = true := all_full isFb s hall
      have HX := Lib.hid hx; clear hx hall
      have hd : decide (s.size < s.size) = false := decide_eq_false (Nat.lt_irrefl _)
      go_wp2
      go_ret
      exact ⟨ret_boolO HX.out.symm, rfl⟩
theorem ownsRow_one (w : World) (B : Nat) (e : TypeId) (x : Value) (hB : B ≤ w.heap.size) : (w.alloc (.cells #[x] e)).ownsRow B e 1 (.slice (some ⟨w.heap.size, 0, none⟩) 1 1) 1 [x] :=
  ⟨by simp, .inr ⟨w.heap.size, 1, #[x], rfl, hB, heap_alloc_new w _, Nat.le_refl _, by unfold maxLen; omega, rfl, rfl⟩⟩
set_option maxHeartbeats 32000000 in
theorem rquote_any (s : ByteArray) (w : World) (hs : s.size ≤ 1099511627776) :
    Calls Tryz.prog 191 #[.string s] w fun e w' => e = .returned (.tuple #[.string ⟨(qtR s.data.toList).1.toArray⟩, .int .i64 ((qtR s.data.toList).2 : Nat)]) ∧ Below w.heap.size w w' := by
  have hf := risfield_any s w hs
  obtain ⟨i0, hi0, hz0, hz1, hz2⟩ := info_parts infoByte
  cases hfld : isFld s.data.toList with
  | false =>
    rw [hfld] at hf
    have hq : qtR s.data.toList = ([], 13) := by unfold qtR; rw [hfld]; rfl
    have HQ := Lib.hid hq
    have HF := Lib.hid hf
    clear hq hfld hf
    go_enter Tryz.func191, Tryz.ntmps191
    go_wp2_with fail
    refine (HF.out).mono ?_
    rintro e w1 ⟨rfl, rfl⟩
    go_wp2
    go_ret2
    rw [HQ.out]
    exact ⟨rfl, Below.refl _ _⟩
  | true =>
    rw [hfld] at hf
    have hq : qtR s.data.toList = (qtL s.data.toList, 0) := by unfold qtR; rw [hfld]; rfl
    have HQ := Lib.hid hq
    have HF := Lib.hid hf
    clear hq hfld hf
    go_enter Tryz.func191, Tryz.ntmps191
    go_wp2_with fail
    refine (HF.out).mono ?_
    rintro e w1 ⟨rfl, rfl⟩
    have hO1 := ownsRow_one w1 w1.heap.size 5 (.int .u8 34) (Nat.le_refl _)
    have hB1 := (Below.refl w1.heap.size w1).alloc (Nat.le_refl _) (.cells #[.int .u8 34] 5)
    have HS := Lib.hid (And.intro hO1 hB1)
    clear hO1 hB1
    go_wp2
    go_loopw [5, 4] (fun iv v wr => ∃ i : Nat, iv = .int .i64 i ∧ i ≤ s.size ∧ wr.ownsRow w1.heap.size 5 1 v (34 :: escL (s.data.toList.take i)).length (Lib.byteCells (34 :: escL (s.data.toList.take i))) ∧ Below w1.heap.size w1 wr) (fun iv _ _ => s.size - (intOf iv).toNat)
    case atStart => exact ⟨0, rfl, Nat.zero_le _, HS.out.1, HS.out.2⟩
    case round =>
      clear HS
      obtain ⟨i, rfl, hi, hO, hb⟩ := hrel
      have hbd := esc_take_len s.data.toList i s.size hi hs
      have hBw := hb.size
      by_cases hlt : i < s.size
      · obtain ⟨c, hc⟩ : ∃ c, s[i]'hlt = c := ⟨_, rfl⟩
        have hget := list_get s i hlt
        rw [hc] at hget
        have k0 : (0 : Int) ≤ (i : Int) := Int.natCast_nonneg _
        have k1 : (i : Int) < (s.size : Int) := by omega
        have hwi := w64o i (le_oo i s.size hi hs)
        have htk := escL_take s.data.toList i c hget
        obtain ⟨acc, hacc⟩ : ∃ acc, 34 :: escL (s.data.toList.take i) = acc := ⟨_, rfl⟩
        rw [hacc] at hO hbd
        have htk2 : 34 :: escL (s.data.toList.take (i + 1)) = acc ++ esc c := by rw [htk, ← hacc]; rfl
        have HW := Lib.hid (And.intro hwi htk2)
        have HO := Lib.hid hO
        clear hwi htk hget htk2 hacc hO
        by_cases hx : c = 34 ∨ c = 92
        · have he : esc c = [92, c] := by unfold esc; rw [if_pos hx]
          have hcase : ((c.toNat : Int) == 34) = true ∨ (((c.toNat : Int) == 34) = false ∧ ((c.toNat : Int) == 92) = true) := by
            rcases hx with h | h
            · exact Or.inl (by rw [h]; rfl)
            · exact Or.inr (by rw [h]; exact ⟨rfl, rfl⟩)
          have HE := Lib.hid he
          clear he hx
          rcases hcase with b34 | ⟨b34, b92⟩
          all_goals
            go_wp2_with (at_builtin; refine wpList_append_own _ rfl (.tmp 26) (.tmp 27) 76 rfl w1.heap.size 5 i0 (.int .u8 0) 1 1 Tryz.underlying76 hi0 hz0 hz1 hz2 rfl (by decide) _ _ _ rfl (HO.out.alloc _) ⟨wr.heap.size, 0, none⟩ 1 1 [.int .u8 92] rfl rfl (cells_new _ _ _) (by simp [Value.oneCell']) (by unfold maxLen; omega) (by rw [Nat.mul_one]; omega) ?d0 ?_)
            case d0 => simp; exact Nat.le_trans hBw (Nat.le_succ _)
            intro v1 w7 hI1 hg7 _
            have hb8 := (hb.alloc hBw _).grown hg7 (by simp; exact Nat.le_trans hBw (Nat.le_succ _)) (fun j hj => (HO.out.lt j hj).1)
            rw [show [Value.int .u8 92] = Lib.byteCells [92] from rfl, ← Lib.byteCells_append] at hI1
            have HI1 := Lib.hid hI1; have HB8 := Lib.hid hb8
            have hBw8 := hb8.size
            clear hI1 hb8 hg7
            go_wp2_with (at_builtin; refine wpList_append_own _ rfl (.tmp 29) (.tmp 33) 76 rfl w1.heap.size 5 i0 (.int .u8 0) 1 1 Tryz.underlying76 hi0 hz0 hz1 hz2 rfl (by decide) _ _ _ rfl (HI1.out.alloc _) ⟨w7.heap.size, 0, none⟩ 1 1 [.int .u8 (c.toNat : Int)] rfl rfl (cells_new _ _ _) (by simp [Value.oneCell']) (by unfold maxLen; omega) (by rw [Nat.mul_one]; omega) ?d1 ?_)
            case d1 => simp; exact Nat.le_trans hBw8 (Nat.le_succ _)
            intro v2 w9 hI2 hg9 _
            have hb9 := (HB8.out.alloc hBw8 _).grown hg9 (by simp; exact Nat.le_trans hBw8 (Nat.le_succ _)) (fun j hj => (HI1.out.lt j hj).1)
            rw [← byteCells_one c, ← Lib.byteCells_append, List.append_assoc, show [92] ++ [c] = [92, c] from rfl, ← HE.out, ← HW.out.2] at hI2
            have HI2 := Lib.hid hI2; have HB9 := Lib.hid hb9
            clear hI2 hb9 hg9
            have hln : acc.length + 1 + 1 = (34 :: escL (s.data.toList.take (i + 1))).length := by rw [HW.out.2, HE.out, List.length_append]; rfl
            rw [hln] at HI2
            clear hln
            go_wp2
            have hwi := HW.out.1
            go_roundw
            case rel => (try rw [hwi]); clear hwi; exact ⟨i + 1, by go_num, by omega, HI2.out, HB9.out⟩
            case measure => (try rw [hwi]); clear hwi; simp [intOf]; omega
        · have he : esc c = [c] := by unfold esc; rw [if_neg hx]
          have b34 : ((c.toNat : Int) == 34) = false := (ne_u8o c 34 (by decide) (fun e => hx (Or.inl e))).1
          have b92 : ((c.toNat : Int) == 92) = false := (ne_u8o c 92 (by decide) (fun e => hx (Or.inr e))).1
          have HE := Lib.hid he
          clear he hx
          go_wp2_with (at_builtin; refine wpList_append_own _ rfl (.tmp 29) (.tmp 33) 76 rfl w1.heap.size 5 i0 (.int .u8 0) 1 1 Tryz.underlying76 hi0 hz0 hz1 hz2 rfl (by decide) _ _ _ rfl (HO.out.alloc _) ⟨wr.heap.size, 0, none⟩ 1 1 [.int .u8 (c.toNat : Int)] rfl rfl (cells_new _ _ _) (by simp [Value.oneCell']) (by unfold maxLen; omega) (by rw [Nat.mul_one]; omega) ?d1 ?_)
          case d1 => simp; exact Nat.le_trans hBw (Nat.le_succ _)
          intro v2 w9 hI2 hg9 _
          have hb9 := (hb.alloc hBw _).grown hg9 (by simp; exact Nat.le_trans hBw (Nat.le_succ _)) (fun j hj => (HO.out.lt j hj).1)
          rw [← byteCells_one c, ← Lib.byteCells_append, ← HE.out, ← HW.out.2] at hI2
          have HI2 := Lib.hid hI2; have HB9 := Lib.hid hb9
          clear hI2 hb9 hg9
          have hln : acc.length + 1 = (34 :: escL (s.data.toList.take (i + 1))).length := by rw [HW.out.2, HE.out, List.length_append]; rfl
          rw [hln] at HI2
          clear hln
          go_wp2
          have hwi := HW.out.1
          go_roundw
          case rel => (try rw [hwi]); clear hwi; exact ⟨i + 1, by go_num, by omega, HI2.out, HB9.out⟩
          case measure => (try rw [hwi]); clear hwi; simp [intOf]; omega
      · obtain rfl : i = s.size := by omega
        have hd : decide (s.size < s.size) = false := decide_eq_false (Nat.lt_irrefl _)
        rw [List.take_of_length_le (by rw [size_list]; exact Nat.le_refl _)] at hO hbd
        have HO := Lib.hid hO
        clear hO
        go_wp2_with (at_builtin; refine wpList_append_own _ rfl (.tmp 35) (.tmp 36) 76 rfl w1.heap.size 5 i0 (.int .u8 0) 1 1 Tryz.underlying76 hi0 hz0 hz1 hz2 rfl (by decide) _ _ _ rfl (HO.out.alloc _) ⟨wr.heap.size, 0, none⟩ 1 1 [.int .u8 34] rfl rfl (cells_new _ _ _) (by simp [Value.oneCell']) (by unfold maxLen; omega) (by rw [Nat.mul_one]; omega) ?d2 ?_)
        case d2 => simp; exact Nat.le_trans hBw (Nat.le_succ _)
        intro v2 w9 hI2 hg9 _
        have hb9 := (hb.alloc hBw _).grown hg9 (by simp; exact Nat.le_trans hBw (Nat.le_succ _)) (fun j hj => (HO.out.lt j hj).1)
        rw [show [Value.int .u8 34] = Lib.byteCells [34] from rfl, ← Lib.byteCells_append] at hI2
        have hln : (escL s.data.toList).length + 1 + 1 = (34 :: escL s.data.toList ++ [34]).length := by rw [List.length_append]; rfl
        rw [hln] at hI2
        have hcv := run_str_own w9 76 5 Tryz.underlying76 Tryz.underlying5 hI2 9 Tryz.underlying9
        have HB9 := Lib.hid hb9
        clear hI2 hb9 hg9 hln
        go_wp2
        go_ret2
        rw [HQ.out]
        exact ⟨rfl, HB9.out⟩
end Go.Proofs.YtpdbejeiceodkaaGreatDoor
namespace Go.Proofs.YtpdbejeiceodkaaGreatDoor
open Go.RowKit
set_option linter.unusedSimpArgs false
set_option linter.unusedVariables false
set_option maxRecDepth 1000000
set_option maxHeartbeats 2000000 in
theorem rtoken_any (s : ByteArray) (w : World) (hs : s.size ≤ 1099511627776) :
    Calls Tryz.prog 104 #[.string s] w fun e w' => e = .returned (.bool (isTok s.data.toList)) ∧ w' = w := by
  go_enter Tryz.func104, Tryz.ntmps104
  go_wp2
  go_loopw [3] (fun iv wr => ∃ i : Nat, iv = .int .i64 i ∧ i ≤ s.size ∧ (s.data.toList.take i).all isSg = true ∧ wr = w) (fun iv _ => s.size - (intOf iv).toNat)
  case atStart => exact ⟨0, rfl, Nat.zero_le _, rfl, rfl⟩
  case round =>
    obtain ⟨i, rfl, hi, hall, rfl⟩ := hrel
    by_cases hlt : i < s.size
    · obtain ⟨c, hc⟩ : ∃ c, s[i]'hlt = c := ⟨_, rfl⟩
      have hget := list_get s i hlt
      rw [hc] at hget
      have k0 : (0 : Int) ≤ (i : Int) := Int.natCast_nonneg _
      have k1 : (i : Int) < (s.size : Int) := by omega
      have HA := Lib.hid (And.intro hall hget)
      clear hall hget
      cases hst : isSg c with
      | true =>
        have hx := all_take isSg _ i c HA.out.2 HA.out.1 hst
        have HS := Lib.hid (And.intro hx hst)
        clear hx hst
        go_wp2_with fail
        refine (rsign_any c _).mono ?_
        rintro e w ⟨rfl, rfl⟩
        rw [HS.out.2]
        have hwi := w64o i (le_oo i s.size hi hs)
        go_wp2
        go_roundw
        case rel => (try rw [hwi]); clear hwi; exact ⟨i + 1, by go_num, by omega, HS.out.1, by first | rfl | trivial⟩
        case measure => (try rw [hwi]); clear hwi; simp [intOf]; omega
      | false =>
        have hx := isTok_bad _ i c HA.out.2 hst
        have HS := Lib.hid (And.intro hx hst)
        clear hx hst
        go_wp2_with fail
        refine (rsign_any c _).mono ?_
        rintro e w ⟨rfl, rfl⟩
        rw [HS.out.2]
        go_wp2
        go_ret
        exact ⟨ret_boolO HS.out.1.symm, rfl⟩
    · obtain rfl : i = s.size := by omega
      have hx := isTok_all _ (all_full isSg s hall)
      have HX := Lib.hid hx; clear hx hall
      have hd : decide (s.size < s.size) = false := decide_eq_false (Nat.lt_irrefl _)
      go_wp2
      go_ret
      refine ⟨ret_boolO ?_, rfl⟩
      rw [HX.out, ← ByteArray.toList_eq]
set_option maxHeartbeats 2000000 in
theorem osmall_any (l : List UInt8) (w : World) (hs : l.length ≤ 1099511627776) :
    Calls Tryz.prog 147 #[.string ⟨l.toArray⟩] w fun e w' => e = .returned (.bool (small l)) ∧ Below w.heap.size w w' := by
  have h1 := olower_any ⟨l.toArray⟩ w (by rw [size_mk]; exact hs)
  rw [show (⟨l.toArray⟩ : ByteArray).data.toList = l from rfl] at h1
  obtain ⟨x, hx⟩ : ∃ x, lowL l = x := ⟨_, rfl⟩
  rw [hx] at h1
  have hr : (x == l) = small l := by unfold small; rw [hx, beq_dec]
  have H1 := Lib.hid h1; have HR := Lib.hid hr
  clear h1 hx hr hs
  go_enter Tryz.func147, Tryz.ntmps147
  go_wp2_with fail
  refine (H1.out).mono ?_
  rintro e w1 ⟨rfl, hb1⟩
  have HB := Lib.hid hb1
  clear hb1
  go_wp2
  go_ret
  rw [← HR.out]
  exact ⟨rfl, HB.out⟩
theorem cat_lp (a b : List UInt8) : (⟨a.toArray⟩ : ByteArray) ++ (⟨b.toArray⟩ : ByteArray) = ⟨(a ++ b).toArray⟩ := by
  apply ByteArray.ext
  simp
theorem nof7 (a b : Nat) (ha : a ≤ 2199023255552) (hb : b ≤ 2199023255552) : ¬ 9223372036854775807 < a + b := by omega
theorem esc_len (v : List UInt8) : (escL v).length ≤ 2 * v.length := by
  induction v with
  | nil => exact Nat.le_refl _
  | cons c r ih =>
    have e : escL (c :: r) = esc c ++ escL r := rfl
    rw [e, List.length_append, List.length_cons]
    have : (esc c).length ≤ 2 := by unfold esc; split <;> simp
    omega
theorem prVal_len (v : List UInt8) : (prVal v).length ≤ 2 * v.length + 2 := by
  unfold prVal
  split
  · omega
  · have := esc_len v
    simp only [qtL, List.length_cons, List.length_append, List.length_nil]
    omega
theorem prOne_len (p : Par) : (prOne p).length ≤ 2 * parLen p + 5 := by
  have := prVal_len p.2.1
  unfold prOne parLen
  split <;> simp only [List.length_cons, List.length_append, List.length_nil] <;> omega
theorem prAll_len (ps : List Par) : (prAll ps).length ≤ 2 * totP ps + 5 * ps.length := by
  induction ps with
  | nil => exact Nat.le_refl _
  | cons p r ih =>
    have e : prAll (p :: r) = prOne p ++ prAll r := rfl
    have h := prOne_len p
    unfold parLen at h
    rw [e, List.length_append, List.length_cons]
    simp only [totP]
    omega
theorem par_le (ps : List Par) (i : Nat) (p : Par) (h : ps[i]? = some p) : p.1.length + p.2.1.length ≤ totP ps := by
  induction ps generalizing i with
  | nil => simp at h
  | cons q r ih =>
    simp only [totP]
    cases i with
    | zero => obtain rfl : q = p := by simpa using h
              omega
    | succ i => have := ih i (by simpa using h); omega
theorem prm_ok (nm v : List UInt8) (hs : Bool) (h1 : isTok nm = true) (h2 : isFld v = true) (h3 : hs = true ∨ v = []) : prmOk (nm, v, hs) = true := by
  unfold prmOk
  rw [h1, h2]
  rcases h3 with rfl | rfl
  · rfl
  · simp
theorem prm_n1 (nm v : List UInt8) (hs : Bool) (h1 : isTok nm = false) : prmOk (nm, v, hs) = false := by unfold prmOk; rw [h1]; rfl
theorem prm_n2 (nm v : List UInt8) (hs : Bool) (h1 : isFld v = false) : prmOk (nm, v, hs) = false := by unfold prmOk; rw [h1]; simp
theorem prm_n3 (nm v : List UInt8) (h1 : v ≠ []) : prmOk (nm, v, false) = false := by unfold prmOk; cases v with | nil => exact absurd rfl h1 | cons c r => simp
theorem totP_takeL (ps : List Par) (i : Nat) : 2 * totP (ps.take i) + 5 * (ps.take i).length ≤ 2 * totP ps + 5 * ps.length := by
  have h := congrArg totP (List.take_append_drop i ps)
  have h2 := congrArg List.length (List.take_append_drop i ps)
  rw [totP_append] at h
  rw [List.length_append] at h2
  omega
theorem qtR_ok (v : List UInt8) (h : isFld v = true) : qtR v = (qtL v, 0) := by unfold qtR; rw [h]; rfl
set_option maxHeartbeats 8000000 in
theorem oprm_any (pv : Value) (ps : List Par) (w : World) (hN : totP ps + ps.length ≤ 1073741824) (h : ParsIn w pv ps) (hg : SgAt w) :
    Calls Tryz.prog 146 #[pv] w fun e w' => e = .returned (.tuple #[.string ⟨(prmR ps).1.toArray⟩, .int .i64 ((prmR ps).2 : Nat)]) ∧ Below w.heap.size w w' := by
  obtain ⟨ao, cap, rfl, hat⟩ := h
  obtain ⟨L, hL⟩ : ∃ L, w.heap.size = L := ⟨_, rfl⟩
  have hbb : Below L w w := by rw [← hL]; exact Below.refl _ w
  have hN2 : ps.length ≤ 1073741824 := by omega
  have HL := Lib.hid hL
  have HG := Lib.hid hg; have HAT := Lib.hid hat
  clear hL hg hat
  go_enter Tryz.func146, Tryz.ntmps146
  go_wp2
  go_loopw [10, 4] (fun iv tv wr => ∃ i : Nat, iv = .int .i64 i ∧ i ≤ ps.length ∧ tv = .string ⟨(prAll (ps.take i)).toArray⟩ ∧ (ps.take i).all prmOk = true ∧ Below L w wr) (fun iv _ _ => ps.length - (intOf iv).toNat)
  case atStart => exact ⟨0, rfl, Nat.zero_le _, rfl, rfl, hbb⟩
  case round =>
    clear hbb
    obtain ⟨i, rfl, hi, rfl, hok, hb⟩ := hrel
    have hAl : (prAll (ps.take i)).length ≤ 1099511627776 := by
      have h1 := prAll_len (ps.take i)
      have h2 := totP_takeL ps i
      omega
    obtain ⟨A, hA⟩ : ∃ A, prAll (ps.take i) = A := ⟨_, rfl⟩
    rw [hA] at hAl
    rw [hA]
    by_cases hlt : i < ps.length
    · obtain ⟨p, hp⟩ : ∃ p, ps[i]? = some p := ⟨_, List.getElem?_eq_getElem hlt⟩
      have hb' : Below w.heap.size w wr := by rw [HL.out]; exact hb
      obtain ⟨g, o, rfl, hgg, c0, c1, c2⟩ := HAT.out.below hb' i p hp
      have hpl := par_le ps i p hp
      have hst := prAll_take ps i p hp
      rw [hA] at hst
      have hstk := fun h => take_all prmOk ps i p hp hok h
      have hno := fun h => prmR_no ps i p hp h
      have k0 : (0 : Int) ≤ (i : Int) := Int.natCast_nonneg _
      have k1 : (i : Int) < (ps.length : Int) := by omega
      have hwi := wrap64_small i (Nat.le_trans hi (Nat.le_trans hN2 (by decide)))
      obtain ⟨nm, v, hs⟩ := p
      simp only at c0 c1 c2 hpl
      have hnl : nm.length ≤ 1073741824 := by omega
      have hvl : v.length ≤ 1073741824 := by omega
      obtain ⟨W1, hW1⟩ : ∃ W1, wr.alloc (.cells #[.string ⟨nm.toArray⟩, .string ⟨v.toArray⟩, .bool hs] 214) = W1 := ⟨_, rfl⟩
      have hb1 : Below L w W1 := by rw [← hW1]; exact hb.alloc (bsz hb HL) _
      have hB1 : BlkIs W1 wr.heap.size #[.string ⟨nm.toArray⟩, .string ⟨v.toArray⟩, .bool hs] 214 := by rw [← hW1]; exact blkIs_new _ _ _
      have hg1 : SgAt W1 := HG.out.below (by rw [HL.out]; exact hb1)
      have ht := fun W (h : SgAt W) => otoken_any ⟨nm.toArray⟩ W (by rw [size_mk]; exact Nat.le_trans hnl (by decide)) h
      have hf := fun W => oisfield_any ⟨v.toArray⟩ W (by rw [size_mk]; exact Nat.le_trans hvl (by decide))
      have htv := fun W (h : SgAt W) => otoken_any ⟨v.toArray⟩ W (by rw [size_mk]; exact Nat.le_trans hvl (by decide)) h
      have hq := fun W => oquote_any ⟨v.toArray⟩ W (by rw [size_mk]; exact Nat.le_trans hvl (by decide))
      simp only [show (⟨nm.toArray⟩ : ByteArray).data.toList = nm from rfl, show (⟨v.toArray⟩ : ByteArray).data.toList = v from rfl] at ht hf htv hq
      have HW1 := Lib.hid hW1; have HB1 := Lib.hid (And.intro hb1 hB1); have HG1 := Lib.hid hg1; have HT := Lib.hid ht; have HF := Lib.hid hf; have HTV := Lib.hid htv; have HQ := Lib.hid hq
      have HST := Lib.hid hst; have HSTK := Lib.hid hstk; have HNO := Lib.hid hno; have HW := Lib.hid hwi; have HPL := Lib.hid hpl; have HA := Lib.hid (And.intro hA hok); have HAL := Lib.hid hAl; have HLE := Lib.hid (And.intro hnl hvl)
      clear hW1 hb1 hB1 hg1 ht hf htv hq hst hstk hno hwi hpl hA hok hAl hb hb' hnl hvl hp hgg
      go_upto_region 5 with fail
      rw [HW1.out]
      have e0 : W1.cell? ⟨wr.heap.size, 0, none⟩ = some (.string ⟨nm.toArray⟩) := HB1.out.2.cell 0 _ rfl
      have e1 : W1.cell? ⟨wr.heap.size, 1, none⟩ = some (.string ⟨v.toArray⟩) := HB1.out.2.cell 1 _ rfl
      have e2 : W1.cell? ⟨wr.heap.size, 2, none⟩ = some (.bool hs) := HB1.out.2.cell 2 _ rfl
      clear c0 c1 c2
      go_cut [33] (fun s33 wx => s33 = .bool (!prmOk (nm, v, hs)) ∧ wx = W1)
      case first =>
        cases htk : isTok nm with
        | false =>
          have HR := Lib.hid (prm_n1 nm v hs htk)
          rw [htk] at HT
          clear htk
          go_wp2_with fail
          refine (HT.out _ HG1.out).mono ?_
          rintro e w5 ⟨rfl, rfl⟩
          go_wp2_with fail
          go_meet
          exact ⟨by rw [HR.out]; rfl, by first | rfl | trivial⟩
        | true =>
          rw [htk] at HT
          have HK := Lib.hid htk
          clear htk
          go_wp2_with fail
          refine (HT.out _ HG1.out).mono ?_
          rintro e w5 ⟨rfl, rfl⟩
          go_wp2_with fail
          cases hfd : isFld v with
          | false =>
            have HR := Lib.hid (prm_n2 nm v hs hfd)
            rw [hfd] at HF
            clear hfd
            refine (HF.out _).mono ?_
            rintro e w5 ⟨rfl, rfl⟩
            go_wp2_with fail
            go_meet
            exact ⟨by rw [HR.out]; rfl, by first | rfl | trivial⟩
          | true =>
            rw [hfd] at HF
            have HFD := Lib.hid hfd
            clear hfd
            refine (HF.out _).mono ?_
            rintro e w5 ⟨rfl, rfl⟩
            cases hs with
            | true =>
              have HR := Lib.hid (prm_ok nm v true HK.out HFD.out (Or.inl rfl))
              go_wp2_with fail
              go_meet
              exact ⟨by rw [HR.out]; rfl, by first | rfl | trivial⟩
            | false =>
              by_cases hv : v = []
              · have HR := Lib.hid (prm_ok nm v false HK.out HFD.out (Or.inr hv))
                have hve : v.isEmpty = true := by rw [hv]; rfl
                go_wp2_with fail
                go_meet
                exact ⟨by rw [HR.out]; rfl, by first | rfl | trivial⟩
              · have HR := Lib.hid (prm_n3 nm v hv)
                have hve : v.isEmpty = false := by cases v with | nil => exact absurd rfl hv | cons c r => rfl
                go_wp2_with fail
                go_meet
                exact ⟨by rw [HR.out]; rfl, by first | rfl | trivial⟩
      case rest =>
      obtain ⟨rfl, rfl⟩ := hcut
      cases hpok : prmOk (nm, v, hs) with
      | false =>
        have HE := Lib.hid (HNO.out hpok)
        clear hpok
        go_wp2
        go_ret2
        rw [HE.out, HL.out]
        exact ⟨rfl, HB1.out.1⟩
      | true =>
        have hstk := HSTK.out hpok
        have hst := HST.out
        have hfd : isFld v = true := by unfold prmOk at hpok; simp only [Bool.and_eq_true] at hpok; exact hpok.2.1
        rw [hfd] at HF
        have hnl := HLE.out.1
        have hal := HAL.out
        have hvl := HLE.out.2
        obtain ⟨B, hB⟩ : ∃ B, 59 :: 32 :: nm = B := ⟨_, rfl⟩
        obtain ⟨A2, hA2⟩ : ∃ A2, A ++ B = A2 := ⟨_, rfl⟩
        have hBl : B.length ≤ 2199023255552 := by rw [← hB]; simp only [List.length_cons]; omega
        have q1 : (⟨#[59, 32]⟩ : ByteArray) ++ (⟨nm.toArray⟩ : ByteArray) = ⟨B.toArray⟩ := by rw [← hB]; exact cat_lp [59, 32] nm
        have q2 : (⟨A.toArray⟩ : ByteArray) ++ (⟨B.toArray⟩ : ByteArray) = ⟨A2.toArray⟩ := by rw [cat_lp, hA2]
        have z1 := nof7 2 nm.length (by decide) (by omega)
        have z2 := nof7 A.length B.length (by omega) hBl
        cases hs with
        | false =>
          have hs2 : prAll (ps.take (i + 1)) = A2 := by rw [hst, ← hA2, ← hB]; simp [prOne]
          have HS2 := Lib.hid (And.intro hs2 hstk)
          clear hs2 hst hstk hfd hnl hal hvl hB hA2 hBl hpok
          go_wp2
          have hwi := HW.out
          go_roundw
          case rel => (try rw [hwi]); clear hwi; exact ⟨i + 1, by go_num, hlt, by rw [HS2.out.1], HS2.out.2, HB1.out.1⟩
          case measure => (try rw [hwi]); clear hwi; simp [intOf]; omega
        | true =>
          obtain ⟨C, hC⟩ : ∃ C, 61 :: prVal v = C := ⟨_, rfl⟩
          obtain ⟨A3, hA3⟩ : ∃ A3, A2 ++ C = A3 := ⟨_, rfl⟩
          have hs2 : prAll (ps.take (i + 1)) = A3 := by rw [hst, ← hA3, ← hA2, ← hB, ← hC]; simp [prOne]
          have hpv := prVal_len v
          have hA2l : A2.length ≤ 2199023255552 := by rw [← hA2, ← hB, List.length_append]; simp only [List.length_cons]; omega
          have hCl : C.length ≤ 2199023255552 := by rw [← hC, List.length_cons]; omega
          have z4 := nof7 A2.length C.length hA2l hCl
          have q4 : (⟨A2.toArray⟩ : ByteArray) ++ (⟨C.toArray⟩ : ByteArray) = ⟨A3.toArray⟩ := by rw [cat_lp, hA3]
          have HS2 := Lib.hid (And.intro hs2 hstk)
          cases htk : isTok v with
          | true =>
            have hpe : prVal v = v := by unfold prVal; rw [htk]; rfl
            rw [htk] at HTV
            have q3 : (⟨#[61]⟩ : ByteArray) ++ (⟨v.toArray⟩ : ByteArray) = ⟨C.toArray⟩ := by rw [← hC, hpe]; exact cat_lp [61] v
            have z3 := nof7 1 v.length (by decide) (by omega)
            clear hs2 hst hstk hfd hnl hal hvl hB hA2 hBl hpok hC hA3 hpv hA2l hCl htk hpe
            go_wp2_with fail
            refine (HTV.out _ HG1.out).mono ?_
            rintro e w5 ⟨rfl, rfl⟩
            go_wp2
            have hwi := HW.out
            go_roundw
            case rel => (try rw [hwi]); clear hwi; exact ⟨i + 1, by go_num, hlt, by rw [HS2.out.1], HS2.out.2, HB1.out.1⟩
            case measure => (try rw [hwi]); clear hwi; simp [intOf]; omega
          | false =>
            have hpe : prVal v = qtL v := by unfold prVal; rw [htk]; rfl
            rw [htk] at HTV
            rw [hpe] at hC hpv
            rw [qtR_ok v hfd] at HQ
            obtain ⟨X, hX⟩ : ∃ X, qtL v = X := ⟨_, rfl⟩
            rw [hX] at HQ hC hpv
            have q3 : (⟨#[61]⟩ : ByteArray) ++ (⟨X.toArray⟩ : ByteArray) = ⟨C.toArray⟩ := by rw [← hC]; exact cat_lp [61] X
            have z3 := nof7 1 X.length (by decide) (by omega)
            clear hs2 hst hstk hfd hnl hal hvl hB hA2 hBl hpok hC hA3 hpv hA2l hCl htk hpe hX
            go_wp2_with fail
            refine (HTV.out _ HG1.out).mono ?_
            rintro e w5 ⟨rfl, rfl⟩
            go_wp2_with fail
            refine (HQ.out _).mono ?_
            rintro e w6 ⟨rfl, hb6⟩
            have HB6 := Lib.hid (HB1.out.1.trans (hb6.mono (show L ≤ _ from by rw [← HL.out]; exact HB1.out.1.size)))
            clear hb6
            go_wp2
            have hwi := HW.out
            go_roundw
            case rel => (try rw [hwi]); clear hwi; exact ⟨i + 1, by go_num, hlt, by rw [HS2.out.1], HS2.out.2, HB6.out⟩
            case measure => (try rw [hwi]); clear hwi; simp [intOf]; omega
    · obtain rfl : i = ps.length := by omega
      have hd : decide (ps.length < ps.length) = false := decide_eq_false (Nat.lt_irrefl _)
      rw [List.take_length] at hok hA
      have HE := Lib.hid (And.intro (prmR_yes ps hok) (And.intro hA hb))
      clear hok hA hb
      go_wp2
      go_ret2
      rw [HE.out.1, HE.out.2.1, HL.out]
      exact ⟨rfl, HE.out.2.2⟩
end Go.Proofs.YtpdbejeiceodkaaGreatDoor
