/- The walks of the reference's IsField and Quote: the plain functions isFld and qtR. Conditions: fewer than 2^40 bytes. -/
import Derived.Test.YtpdbejeiceodkaaGreatDoorQt
namespace Go.Proofs.YtpdbejeiceodkaaGreatDoor
open Go.RowKit
set_option linter.unusedSimpArgs false
set_option linter.unusedVariables false
set_option maxRecDepth 1000000
set_option maxHeartbeats 2000000 in
theorem risfield_any (s : ByteArray) (w : World) (hs : s.size ≤ 1099511627776) :
    Calls Tryz.prog 190 #[.string s] w fun e w' => e = .returned (.bool (isFld s.data.toList)) ∧ w' = w := by
  go_enter Tryz.func190, Tryz.ntmps190
  go_wp2
  go_loopw [3] (fun iv wr => ∃ i : Nat, iv = .int .i64 i ∧ i ≤ s.size ∧ (s.data.toList.take i).all isFb = true ∧ wr = w) (fun iv _ => s.size - (intOf iv).toNat)
  case atStart => exact ⟨0, rfl, Nat.zero_le _, rfl, rfl⟩
  case round =>
    obtain ⟨i, rfl, hi, hall, rfl⟩ := hrel
    by_cases hlt : i < s.size
    · obtain ⟨c, hc⟩ : ∃ c, s[i]'hlt = c := ⟨_, rfl⟩
      have hget := list_get s i hlt
      rw [hc] at hget
      have k0 : (0 : Int) ≤ (i : Int) := Int.natCast_nonneg _
      have k1 : (i : Int) < (s.size : Int) := by omega
      have HA := Lib.hid (And.intro hall hget)
      clear hall hget
      cases hst : isFb c with
      | true =>
        have hx := all_take isFb _ i c HA.out.2 HA.out.1 hst
        have HS := Lib.hid (And.intro hx hst)
        clear hx hst
        go_wp2_with fail
        refine (rbyte_any c _).mono ?_
        rintro e w ⟨rfl, rfl⟩
        rw [HS.out.2]
        have hwi := w64o i (le_oo i s.size hi hs)
        go_wp2
        go_roundw
        case rel => (try rw [hwi]); clear hwi; exact ⟨i + 1, by go_num, by omega, HS.out.1, by first | rfl | trivial⟩
        case measure => (try rw [hwi]); clear hwi; simp [intOf]; omega
      | false =>
        have hx : isFld s.data.toList = false := all_not isFb _ i c HA.out.2 hst
        have HS := Lib.hid (And.intro hx hst)
        clear hx hst
        go_wp2_with fail
        refine (rbyte_any c _).mono ?_
        rintro e w ⟨rfl, rfl⟩
        rw [HS.out.2]
        go_wp2
        go_ret
        exact ⟨ret_boolO HS.out.1.symm, rfl⟩
    · obtain rfl : i = s.size := by omega
      have hx : isFld s.data.toList = true := all_full isFb s hall
      have HX := Lib.hid hx; clear hx hall
      have hd : decide (s.size < s.size) = false := decide_eq_false (Nat.lt_irrefl _)
      go_wp2
      go_ret
      exact ⟨ret_boolO HX.out.symm, rfl⟩
theorem ownsRow_one (w : World) (B : Nat) (e : TypeId) (x : Value) (hB : B ≤ w.heap.size) : (w.alloc (.cells #[x] e)).ownsRow B e 1 (.slice (some ⟨w.heap.size, 0, none⟩) 1 1) 1 [x] :=
  ⟨by simp, .inr ⟨w.heap.size, 1, #[x], rfl, hB, heap_alloc_new w _, Nat.le_refl _, by unfold maxLen; omega, rfl, rfl⟩⟩
set_option maxHeartbeats 32000000 in
theorem rquote_any (s : ByteArray) (w : World) (hs : s.size ≤ 1099511627776) :
    Calls Tryz.prog 191 #[.string s] w fun e w' => e = .returned (.tuple #[.string ⟨(qtR s.data.toList).1.toArray⟩, .int .i64 ((qtR s.data.toList).2 : Nat)]) ∧ Below w.heap.size w w' := by
  have hf := risfield_any s w hs
  obtain ⟨i0, hi0, hz0, hz1, hz2⟩ := info_parts infoByte
  cases hfld : isFld s.data.toList with
  | false =>
    rw [hfld] at hf
    have hq : qtR s.data.toList = ([], 13) := by unfold qtR; rw [hfld]; rfl
    have HQ := Lib.hid hq
    have HF := Lib.hid hf
    clear hq hfld hf
    go_enter Tryz.func191, Tryz.ntmps191
    go_wp2_with fail
    refine (HF.out).mono ?_
    rintro e w1 ⟨rfl, rfl⟩
    go_wp2
    go_ret2
    rw [HQ.out]
    exact ⟨rfl, Below.refl _ _⟩
  | true =>
    rw [hfld] at hf
    have hq : qtR s.data.toList = (qtL s.data.toList, 0) := by unfold qtR; rw [hfld]; rfl
    have HQ := Lib.hid hq
    have HF := Lib.hid hf
    clear hq hfld hf
    go_enter Tryz.func191, Tryz.ntmps191
    go_wp2_with fail
    refine (HF.out).mono ?_
    rintro e w1 ⟨rfl, rfl⟩
    have hO1 := ownsRow_one w1 w1.heap.size 5 (.int .u8 34) (Nat.le_refl _)
    have hB1 := (Below.refl w1.heap.size w1).alloc (Nat.le_refl _) (.cells #[.int .u8 34] 5)
    have HS := Lib.hid (And.intro hO1 hB1)
    clear hO1 hB1
    go_wp2
    go_loopw [5, 4] (fun iv v wr => ∃ i : Nat, iv = .int .i64 i ∧ i ≤ s.size ∧ wr.ownsRow w1.heap.size 5 1 v (34 :: escL (s.data.toList.take i)).length (Lib.byteCells (34 :: escL (s.data.toList.take i))) ∧ Below w1.heap.size w1 wr) (fun iv _ _ => s.size - (intOf iv).toNat)
    case atStart => exact ⟨0, rfl, Nat.zero_le _, HS.out.1, HS.out.2⟩
    case round =>
      clear HS
      obtain ⟨i, rfl, hi, hO, hb⟩ := hrel
      have hbd := esc_take_len s.data.toList i s.size hi hs
      have hBw := hb.size
      by_cases hlt : i < s.size
      · obtain ⟨c, hc⟩ : ∃ c, s[i]'hlt = c := ⟨_, rfl⟩
        have hget := list_get s i hlt
        rw [hc] at hget
        have k0 : (0 : Int) ≤ (i : Int) := Int.natCast_nonneg _
        have k1 : (i : Int) < (s.size : Int) := by omega
        have hwi := w64o i (le_oo i s.size hi hs)
        have htk := escL_take s.data.toList i c hget
        obtain ⟨acc, hacc⟩ : ∃ acc, 34 :: escL (s.data.toList.take i) = acc := ⟨_, rfl⟩
        rw [hacc] at hO hbd
        have htk2 : 34 :: escL (s.data.toList.take (i + 1)) = acc ++ esc c := by rw [htk, ← hacc]; rfl
        have HW := Lib.hid (And.intro hwi htk2)
        have HO := Lib.hid hO
        clear hwi htk hget htk2 hacc hO
        by_cases hx : c = 34 ∨ c = 92
        · have he : esc c = [92, c] := by unfold esc; rw [if_pos hx]
          have hcase : ((c.toNat : Int) == 34) = true ∨ (((c.toNat : Int) == 34) = false ∧ ((c.toNat : Int) == 92) = true) := by
            rcases hx with h | h
            · exact Or.inl (by rw [h]; rfl)
            · exact Or.inr (by rw [h]; exact ⟨rfl, rfl⟩)
          have HE := Lib.hid he
          clear he hx
          rcases hcase with b34 | ⟨b34, b92⟩
          all_goals
            go_wp2_with (at_builtin; refine wpList_append_own _ rfl (.tmp 26) (.tmp 27) 76 rfl w1.heap.size 5 i0 (.int .u8 0) 1 1 Tryz.underlying76 hi0 hz0 hz1 hz2 rfl (by decide) _ _ _ rfl (HO.out.alloc _) ⟨wr.heap.size, 0, none⟩ 1 1 [.int .u8 92] rfl rfl (cells_new _ _ _) (by simp [Value.oneCell']) (by unfold maxLen; omega) (by rw [Nat.mul_one]; omega) ?d0 ?_)
            case d0 => simp; exact Nat.le_trans hBw (Nat.le_succ _)
            intro v1 w7 hI1 hg7 _
            have hb8 := (hb.alloc hBw _).grown hg7 (by simp; exact Nat.le_trans hBw (Nat.le_succ _)) (fun j hj => (HO.out.lt j hj).1)
            rw [show [Value.int .u8 92] = Lib.byteCells [92] from rfl, ← Lib.byteCells_append] at hI1
            have HI1 := Lib.hid hI1; have HB8 := Lib.hid hb8
            have hBw8 := hb8.size
            clear hI1 hb8 hg7
            go_wp2_with (at_builtin; refine wpList_append_own _ rfl (.tmp 29) (.tmp 33) 76 rfl w1.heap.size 5 i0 (.int .u8 0) 1 1 Tryz.underlying76 hi0 hz0 hz1 hz2 rfl (by decide) _ _ _ rfl (HI1.out.alloc _) ⟨w7.heap.size, 0, none⟩ 1 1 [.int .u8 (c.toNat : Int)] rfl rfl (cells_new _ _ _) (by simp [Value.oneCell']) (by unfold maxLen; omega) (by rw [Nat.mul_one]; omega) ?d1 ?_)
            case d1 => simp; exact Nat.le_trans hBw8 (Nat.le_succ _)
            intro v2 w9 hI2 hg9 _
            have hb9 := (HB8.out.alloc hBw8 _).grown hg9 (by simp; exact Nat.le_trans hBw8 (Nat.le_succ _)) (fun j hj => (HI1.out.lt j hj).1)
            rw [← byteCells_one c, ← Lib.byteCells_append, List.append_assoc, show [92] ++ [c] = [92, c] from rfl, ← HE.out, ← HW.out.2] at hI2
            have HI2 := Lib.hid hI2; have HB9 := Lib.hid hb9
            clear hI2 hb9 hg9
            have hln : acc.length + 1 + 1 = (34 :: escL (s.data.toList.take (i + 1))).length := by rw [HW.out.2, HE.out, List.length_append]; rfl
            rw [hln] at HI2
            clear hln
            go_wp2
            have hwi := HW.out.1
            go_roundw
            case rel => (try rw [hwi]); clear hwi; exact ⟨i + 1, by go_num, by omega, HI2.out, HB9.out⟩
            case measure => (try rw [hwi]); clear hwi; simp [intOf]; omega
        · have he : esc c = [c] := by unfold esc; rw [if_neg hx]
          have b34 : ((c.toNat : Int) == 34) = false := (ne_u8o c 34 (by decide) (fun e => hx (Or.inl e))).1
          have b92 : ((c.toNat : Int) == 92) = false := (ne_u8o c 92 (by decide) (fun e => hx (Or.inr e))).1
          have HE := Lib.hid he
          clear he hx
          go_wp2_with (at_builtin; refine wpList_append_own _ rfl (.tmp 29) (.tmp 33) 76 rfl w1.heap.size 5 i0 (.int .u8 0) 1 1 Tryz.underlying76 hi0 hz0 hz1 hz2 rfl (by decide) _ _ _ rfl (HO.out.alloc _) ⟨wr.heap.size, 0, none⟩ 1 1 [.int .u8 (c.toNat : Int)] rfl rfl (cells_new _ _ _) (by simp [Value.oneCell']) (by unfold maxLen; omega) (by rw [Nat.mul_one]; omega) ?d1 ?_)
          case d1 => simp; exact Nat.le_trans hBw (Nat.le_succ _)
          intro v2 w9 hI2 hg9 _
          have hb9 := (hb.alloc hBw _).grown hg9 (by simp; exact Nat.le_trans hBw (Nat.le_succ _)) (fun j hj => (HO.out.lt j hj).1)
          rw [← byteCells_one c, ← Lib.byteCells_append, ← HE.out, ← HW.out.2] at hI2
          have HI2 := Lib.hid hI2; have HB9 := Lib.hid hb9
          clear hI2 hb9 hg9
          have hln : acc.length + 1 = (34 :: escL (s.data.toList.take (i + 1))).length := by rw [HW.out.2, HE.out, List.length_append]; rfl
          rw [hln] at HI2
          clear hln
          go_wp2
          have hwi := HW.out.1
          go_roundw
          case rel => (try rw [hwi]); clear hwi; exact ⟨i + 1, by go_num, by omega, HI2.out, HB9.out⟩
          case measure => (try rw [hwi]); clear hwi; simp [intOf]; omega
      · obtain rfl : i = s.size := by omega
        have hd : decide (s.size < s.size) = false := decide_eq_false (Nat.lt_irrefl _)
        rw [List.take_of_length_le (by rw [size_list]; exact Nat.le_refl _)] at hO hbd
        have HO := Lib.hid hO
        clear hO
        go_wp2_with (at_builtin; refine wpList_append_own _ rfl (.tmp 35) (.tmp 36) 76 rfl w1.heap.size 5 i0 (.int .u8 0) 1 1 Tryz.underlying76 hi0 hz0 hz1 hz2 rfl (by decide) _ _ _ rfl (HO.out.alloc _) ⟨wr.heap.size, 0, none⟩ 1 1 [.int .u8 34] rfl rfl (cells_new _ _ _) (by simp [Value.oneCell']) (by unfold maxLen; omega) (by rw [Nat.mul_one]; omega) ?d2 ?_)
        case d2 => simp; exact Nat.le_trans hBw (Nat.le_succ _)
        intro v2 w9 hI2 hg9 _
        have hb9 := (hb.alloc hBw _).grown hg9 (by simp; exact Nat.le_trans hBw (Nat.le_succ _)) (fun j hj => (HO.out.lt j hj).1)
        rw [show [Value.int .u8 34] = Lib.byteCells [34] from rfl, ← Lib.byteCells_append] at hI2
        have hln : (escL s.data.toList).length + 1 + 1 = (34 :: escL s.data.toList ++ [34]).length := by rw [List.length_append]; rfl
        rw [hln] at hI2
        have hcv := run_str_own w9 76 5 Tryz.underlying76 Tryz.underlying5 hI2 9 Tryz.underlying9
        have HB9 := Lib.hid hb9
        clear hI2 hb9 hg9 hln
        go_wp2
        go_ret2
        rw [HQ.out]
        exact ⟨rfl, HB9.out⟩
end Go.Proofs.YtpdbejeiceodkaaGreatDoor
