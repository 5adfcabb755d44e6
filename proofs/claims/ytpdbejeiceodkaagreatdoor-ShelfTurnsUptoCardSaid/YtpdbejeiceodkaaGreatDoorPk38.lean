/- Fil17, OTag, LawSMk: texts of the seat, one behind the other (a claim holds at most sixty). Conditions: each theorem names its own. -/
import Derived.Test.YtpdbejeiceodkaaGreatDoorPk35
import Derived.Test.YtpdbejeiceodkaaGreatDoorPk37
import Derived.Test.YtpdbejeiceodkaaGreatDoorPk36
namespace Go.Proofs.YtpdbejeiceodkaaGreatDoor
open Go.RowKit
set_option linter.unusedSimpArgs false
set_option linter.unusedVariables false
set_option maxRecDepth 1000000
set_option maxHeartbeats 4000000 in
theorem fileS (s n i g cap : Nat) (mv : Value) (f : Fil) (w : World) (hB : BlkIs w s #[.slice (some ⟨g, 0, none⟩) n cap, mv] 85) (hi : i < n) (hC : Cells6 g (i * 6) f w) :
    Calls Tryz.prog 29 #[.pointer (some ⟨s, 0, none⟩), .int .i64 (i : Int)] w fun e w' => e = .returned (.tuple #[.agg (filC f), .bool true]) ∧ Below w.heap.size w w' := by
  obtain ⟨p, m, c, l, bb, t⟩ := f
  obtain ⟨W1, hW1⟩ : ∃ W1, w.alloc (.cells zFlA 46) = W1 := ⟨_, rfl⟩
  obtain ⟨b, hb⟩ : ∃ b, w.heap.size = b := ⟨_, rfl⟩
  have hbl : Below w.heap.size w W1 := by rw [← hW1]; exact (Below.refl _ w).alloc (Nat.le_refl _) _
  have hZ : BlkIs W1 b zFlA 46 := by rw [← hW1, ← hb]; exact blkIs_new _ _ _
  have hB1 : BlkIs W1 s #[.slice (some ⟨g, 0, none⟩) n cap, mv] 85 := hB.later hbl
  have hC1 := hC.below hbl
  have HF := Lib.hid (And.intro ((((((hZ.set 0 (.string ⟨p.toArray⟩)).set 1 (.string ⟨m.toArray⟩)).set 2 (.string ⟨c.toArray⟩)).set 3 (.string ⟨l.toArray⟩)).set 4 (.string ⟨bb.toArray⟩)).set 5 (.int .i64 t)) (sixBelow hbl (show w.heap.size ≤ b by omega) (.string ⟨p.toArray⟩) (.string ⟨m.toArray⟩) (.string ⟨c.toArray⟩) (.string ⟨l.toArray⟩) (.string ⟨bb.toArray⟩) (.int .i64 t)))
  have hbl' : Below b w W1 := by rw [← hb]; exact hbl
  have HFB := Lib.hid (sixBelow hbl' (Nat.le_refl b) (.string ⟨p.toArray⟩) (.string ⟨m.toArray⟩) (.string ⟨c.toArray⟩) (.string ⟨l.toArray⟩) (.string ⟨bb.toArray⟩) (.int .i64 t))
  clear hbl'
  have HW1 := Lib.hid hW1; have HLN := Lib.hid (lenS s n (some ⟨g, 0, none⟩) cap mv W1 hB1)
  obtain ⟨a0, a1, a2, a3, a4, a5, _⟩ := hC1
  have t0 : W1.cell? ⟨s, 0, none⟩ = some (.slice (some ⟨g, 0, none⟩) n cap) := hB1.cell 0 _ rfl
  have z0 := hZ.cell 0 _ rfl
  have z1 := hZ.cell 1 _ rfl
  have z2 := hZ.cell 2 _ rfl
  have z3 := hZ.cell 3 _ rfl
  have z4 := hZ.cell 4 _ rfl
  have z5 := hZ.cell 5 _ rfl
  have y0 := hZ.free 0
  have y1 := hZ.free 1
  have y2 := hZ.free 2
  have y3 := hZ.free 3
  have y4 := hZ.free 4
  have y5 := hZ.free 5
  have k0 : (0 : Int) ≤ (i : Int) := Int.natCast_nonneg _
  have k1 : (i : Int) < (n : Int) := by omega
  have k2 : ¬ (i : Int) < 0 := by omega
  have k3 : ¬ (n : Int) ≤ (i : Int) := by omega
  clear hbl hZ hB1 hW1 hC hB
  go_enter Tryz.func29, Tryz.ntmps29
  go_upto_region 1 with fail
  rw [HW1.out]
  go_wp2_with fail
  refine (HLN.out).mono ?_
  rintro e w2 ⟨rfl, hw2⟩
  subst hw2
  go_wp2
  refine bodyPost_ret (v := .tuple #[.agg (fC p m c l bb t), .bool true]) ?r rfl ⟨rfl, by first | with_reducible exact HFB.out | with_reducible exact HF.out.2⟩
  case r => exact results_fileT (p := 4) (u := 5) rfl _ _ b _ (0, 0) rfl HF.out.1 rfl
set_option maxHeartbeats 4000000 in
theorem fileS_out (s n cap : Nat) (ao : Option Addr) (i : Int) (mv : Value) (w : World) (hB : BlkIs w s #[.slice ao n cap, mv] 85) (hi : i < 0 ∨ (n : Int) ≤ i) :
    Calls Tryz.prog 29 #[.pointer (some ⟨s, 0, none⟩), .int .i64 i] w fun e w' => e = .returned (.tuple #[.agg zFlA, .bool false]) ∧ Below w.heap.size w w' := by
  obtain ⟨W1, hW1⟩ : ∃ W1, w.alloc (.cells zFlA 46) = W1 := ⟨_, rfl⟩
  obtain ⟨b, hb⟩ : ∃ b, w.heap.size = b := ⟨_, rfl⟩
  have hbl : Below w.heap.size w W1 := by rw [← hW1]; exact (Below.refl _ w).alloc (Nat.le_refl _) _
  have hZ : BlkIs W1 b zFlA 46 := by rw [← hW1, ← hb]; exact blkIs_new _ _ _
  have hB1 := hB.later hbl
  have HF := Lib.hid (fileN_leaf hbl hZ (by omega))
  have hbl' : Below b w W1 := by rw [← hb]; exact hbl
  have HFB0 := fileN_leaf hbl' hZ (Nat.le_refl _)
  have HFB := Lib.hid HFB0.2
  clear hbl' HFB0
  have HW1 := Lib.hid hW1; have HLN := Lib.hid (lenS s n ao cap mv W1 hB1)
  have z0 := hZ.cell 0 _ rfl
  have z1 := hZ.cell 1 _ rfl
  have z2 := hZ.cell 2 _ rfl
  have z3 := hZ.cell 3 _ rfl
  have z4 := hZ.cell 4 _ rfl
  have z5 := hZ.cell 5 _ rfl
  have y0 := hZ.free 0
  have y1 := hZ.free 1
  have y2 := hZ.free 2
  have y3 := hZ.free 3
  have y4 := hZ.free 4
  have y5 := hZ.free 5
  clear hbl hZ hB1 hW1 hB
  rcases hi with h1 | h1
  · go_enter Tryz.func29, Tryz.ntmps29
    go_upto_region 1 with fail
    rw [HW1.out]
    go_wp2
    refine bodyPost_ret (v := .tuple #[.agg zFlA, .bool false]) ?r rfl ⟨rfl, by first | with_reducible exact HFB.out | with_reducible exact HF.out.2⟩
    case r => exact results_fileT (p := 4) (u := 5) rfl _ _ b zFlA (0, 0) rfl HF.out.1 rfl
  · have h2 : ¬ i < 0 := by omega
    have h0 : (0 : Int) ≤ i := by omega
    go_enter Tryz.func29, Tryz.ntmps29
    go_upto_region 1 with fail
    rw [HW1.out]
    go_wp2_with fail
    refine (HLN.out).mono ?_
    rintro e w2 ⟨rfl, hw2⟩
    subst hw2
    go_wp2
    refine bodyPost_ret (v := .tuple #[.agg zFlA, .bool false]) ?r rfl ⟨rfl, by first | with_reducible exact HFB.out | with_reducible exact HF.out.2⟩
    case r => exact results_fileT (p := 4) (u := 5) rfl _ _ b zFlA (0, 0) rfl HF.out.1 rfl
end Go.Proofs.YtpdbejeiceodkaaGreatDoor
namespace Go.Proofs.YtpdbejeiceodkaaGreatDoor
open Go.RowKit
set_option linter.unusedSimpArgs false
set_option linter.unusedVariables false
set_option maxRecDepth 1000000
def arr8 (X k : Nat) : Array Value := (Lib.byteCells (beL X k) ++ List.replicate (8 - k) (Value.int .u8 0)).toArray
theorem arr8_set (X k : Nat) (h : k < 8) : (arr8 X k).setIfInBounds k (.int .u8 ((be1 X k).toNat : Int)) = arr8 X (k + 1) := by
  rcases kk8 k h with rfl | rfl | rfl | rfl | rfl | rfl | rfl | rfl <;> rfl
theorem arr8_get (X k j : Nat) (h : k ≤ 8) (hj : j < 8) : ∃ v, (arr8 X k)[j]? = some v := by
  have hs : (arr8 X k).size = 8 := by unfold arr8; simp [Lib.byteCells, beL_len]; omega
  exact ⟨(arr8 X k)[j]'(by omega), Array.getElem?_eq_getElem _⟩
theorem arr8_full (X j : Nat) (hj : j < 8) (c : UInt8) (hc : (beL X 8)[j]? = some c) : (arr8 X 8)[j]? = some (.int .u8 (c.toNat : Int)) := by
  unfold arr8
  simp [Lib.byteCells, hc]
theorem run_str8 {W : World} {bb X : Nat} (h : BlkIs W bb (arr8 X 8) 117) : (convert 76 9 (.slice (some ⟨bb, 0, none⟩) 8 8)).run Tryz.prog W = .ok (.string ⟨(beL X 8).toArray⟩) W := run_str_cells (P := Tryz.prog) W 76 5 Tryz.underlying76 Tryz.underlying5 bb 0 8 8 (beL X 8) (beL_len X 8) (fun j hj => by
  rw [beL_len] at hj
  rw [Nat.zero_add]
  have hl : j < (beL X 8).length := by rw [beL_len]; exact hj
  exact h.cell j _ (arr8_full X j hj _ (List.getElem?_eq_getElem hl))) 9 Tryz.underlying9
theorem otagS_out (s n cap : Nat) (ao : Option Addr) (i : Int) (mv : Value) (w : World) (hB : BlkIs w s #[.slice ao n cap, mv] 85) (hi : i < 0 ∨ (n : Int) ≤ i) :
    Calls Tryz.prog 31 #[.pointer (some ⟨s, 0, none⟩), .int .i64 i] w fun e w' => e = .returned (.tuple #[.string ⟨#[]⟩, .bool false]) ∧ Below w.heap.size w w' := by
  have HF := Lib.hid (fileS_out s n cap ao i mv w hB hi)
  clear hB hi
  go_enter Tryz.func31, Tryz.ntmps31
  go_wp2_with fail
  refine (HF.out).mono ?_
  rintro e w2 ⟨rfl, hb⟩
  have HB := Lib.hid (hb.alloc hb.size (.cells zFlA 46))
  clear hb
  go_wp2
  go_ret2
  exact ⟨rfl, HB.out⟩
set_option maxHeartbeats 8000000 in
theorem otagS (s n i g cap : Nat) (mv : Value) (f : Fil) (w : World) (hB : BlkIs w s #[.slice (some ⟨g, 0, none⟩) n cap, mv] 85) (hin : i < n) (hC : Cells6 g (i * 6) f w) (hf : filLen f ≤ 1073741824) (hP : PowAt w) :
    Calls Tryz.prog 31 #[.pointer (some ⟨s, 0, none⟩), .int .i64 (i : Int)] w fun e w' => e = .returned (.tuple #[.string ⟨(tagL f).toArray⟩, .bool true]) ∧ Below w.heap.size w w' := by
  have HFI := Lib.hid (fileS s n i g cap mv f w hB hin hC)
  obtain ⟨p, m, c, l, b, t⟩ := f
  have hlen : m.length ≤ 1073741824 ∧ c.length ≤ 1073741824 ∧ l.length ≤ 1073741824 ∧ b.length ≤ 1073741824 := by unfold filLen at hf; simp only at hf; omega
  obtain ⟨M1, hM1⟩ : ∃ M, m ++ [0] = M := ⟨_, rfl⟩
  obtain ⟨M2, hM2⟩ : ∃ M, M1 ++ c = M := ⟨_, rfl⟩
  obtain ⟨M3, hM3⟩ : ∃ M, M2 ++ [0] = M := ⟨_, rfl⟩
  obtain ⟨M4, hM4⟩ : ∃ M, M3 ++ l = M := ⟨_, rfl⟩
  obtain ⟨M5, hM5⟩ : ∃ M, M4 ++ [0] = M := ⟨_, rfl⟩
  obtain ⟨M6, hM6⟩ : ∃ M, M5 ++ b = M := ⟨_, rfl⟩
  have L1 : M1.length = m.length + 1 := by rw [← hM1]; simp
  have L2 : M2.length = M1.length + c.length := by rw [← hM2]; simp
  have L3 : M3.length = M2.length + 1 := by rw [← hM3]; simp
  have L4 : M4.length = M3.length + l.length := by rw [← hM4]; simp
  have L5 : M5.length = M4.length + 1 := by rw [← hM5]; simp
  have L6 : M6.length = M5.length + b.length := by rw [← hM6]; simp
  have n1 : ¬ 9223372036854775807 < m.length + 1 := by omega
  have n2 : ¬ 9223372036854775807 < M1.length + c.length := by omega
  have n3 : ¬ 9223372036854775807 < M2.length + 1 := by omega
  have n4 : ¬ 9223372036854775807 < M3.length + l.length := by omega
  have n5 : ¬ 9223372036854775807 < M4.length + 1 := by omega
  have n6 : ¬ 9223372036854775807 < M5.length + b.length := by omega
  have e1 : (⟨m.toArray⟩ : ByteArray) ++ ⟨#[0]⟩ = ⟨M1.toArray⟩ := by rw [← hM1]; exact ba_ext (by simp)
  have e2 : (⟨M1.toArray⟩ : ByteArray) ++ ⟨c.toArray⟩ = ⟨M2.toArray⟩ := by rw [← hM2]; exact ba_ext (by simp)
  have e3 : (⟨M2.toArray⟩ : ByteArray) ++ ⟨#[0]⟩ = ⟨M3.toArray⟩ := by rw [← hM3]; exact ba_ext (by simp)
  have e4 : (⟨M3.toArray⟩ : ByteArray) ++ ⟨l.toArray⟩ = ⟨M4.toArray⟩ := by rw [← hM4]; exact ba_ext (by simp)
  have e5 : (⟨M4.toArray⟩ : ByteArray) ++ ⟨#[0]⟩ = ⟨M5.toArray⟩ := by rw [← hM5]; exact ba_ext (by simp)
  have e6 : (⟨M5.toArray⟩ : ByteArray) ++ ⟨b.toArray⟩ = ⟨M6.toArray⟩ := by rw [← hM6]; exact ba_ext (by simp)
  have HM := Lib.hid (show tgT ⟨p, m, c, l, b, t⟩ = M6 by rw [← hM6, ← hM5, ← hM4, ← hM3, ← hM2, ← hM1]; simp [tgT])
  have HFN := Lib.hid (show ∀ W, Calls Tryz.prog 58 #[.string ⟨M6.toArray⟩] W fun e w' => e = .returned (.int .u64 (fnv M6 : Nat)) ∧ W = w' from fun W => fnv_any ⟨M6.toArray⟩ W (by rw [size_mk]; omega))
  have HL := Lib.hid hlen; have HPW := Lib.hid hP
  clear hM1 hM2 hM3 hM4 hM5 hM6 L1 L2 L3 L4 L5 L6 hf hlen hP hB hC hin
  go_enter Tryz.func31, Tryz.ntmps31
  go_wp2_with fail
  refine (show Calls Tryz.prog 29 #[.pointer (some ⟨s, 0, none⟩), .int .i64 (i : Int)] w fun e w' => e = .returned (.tuple #[.agg (fC p m c l b t), .bool true]) ∧ Below w.heap.size w w' from HFI.out).mono ?_
  rintro e w2 ⟨rfl, hb2⟩
  obtain ⟨W3, hW3⟩ : ∃ W, w2.alloc (.cells (fC p m c l b t) 46) = W := ⟨_, rfl⟩
  obtain ⟨fb, hfb⟩ : ∃ fb, w2.heap.size = fb := ⟨_, rfl⟩
  have hF3 : BlkIs W3 fb (fC p m c l b t) 46 := by rw [← hW3, ← hfb]; exact blkIs_new _ _ _
  have hb3 : Below w.heap.size w W3 := by rw [← hW3]; exact hb2.alloc hb2.size _
  have HW3 := Lib.hid hW3; have HF3 := Lib.hid hF3; have HB3 := Lib.hid hb3; have HFB := Lib.hid hfb
  clear hW3 hF3 hb3 hb2 hfb
  go_upto_region 4 with fail
  rw [HW3.out, HFB.out]
  have x1 : W3.cell? ⟨fb, 1, none⟩ = some (.string ⟨m.toArray⟩) := HF3.out.cell 1 _ rfl
  have x2 : W3.cell? ⟨fb, 2, none⟩ = some (.string ⟨c.toArray⟩) := HF3.out.cell 2 _ rfl
  have x3 : W3.cell? ⟨fb, 3, none⟩ = some (.string ⟨l.toArray⟩) := HF3.out.cell 3 _ rfl
  have x4 : W3.cell? ⟨fb, 4, none⟩ = some (.string ⟨b.toArray⟩) := HF3.out.cell 4 _ rfl
  go_wp2_with fail
  refine (HFN.out W3).mono ?_
  rintro e w4 ⟨rfl, hw4⟩
  subst hw4
  clear n1 n2 n3 n4 n5 n6 e1 e2 e3 e4 e5 e6 x1 x2 x3 x4
  obtain ⟨X, hX⟩ : ∃ X, fnv M6 = X := ⟨_, rfl⟩
  have hXl : X < 18446744073709551616 := by rw [← hX]; exact fnv_lt' _
  have HX := Lib.hid hX
  rw [hX]
  clear hX
  obtain ⟨bb, hbb⟩ : ∃ bb, W3.heap.size = bb := ⟨_, rfl⟩
  have HBB := Lib.hid hbb
  go_wp2
  go_loopw [34] (fun iv wr => ∃ k : Nat, iv = .int .i64 k ∧ k ≤ 8 ∧ BlkIs wr bb (arr8 X k) 117 ∧ Below W3.heap.size W3 wr) (fun iv _ => 8 - (intOf iv).toNat)
  case atStart => exact ⟨0, rfl, Nat.zero_le _, by rw [← hbb]; exact blkIs_new W3 _ _, (Below.refl _ W3).alloc (Nat.le_refl _) _⟩
  case round =>
    obtain ⟨k, rfl, hk, hA, hbw⟩ := hrel
    have k0 : (0 : Int) ≤ (k : Int) := Int.natCast_nonneg _
    by_cases hlt : k < 8
    · have k1 : (k : Int) < 8 := by omega
      have hq := be1_int X k
      have hst := (hA.set k (.int .u8 ((be1 X k).toNat : Int)))
      rw [arr8_set X k hlt] at hst
      have hbt : Below W3.heap.size W3 (wr.setCell ⟨bb, k, none⟩ (.int .u8 ((be1 X k).toNat : Int))) := hbw.setCell (p := ⟨bb, k, none⟩) (Nat.le_of_eq hbb) _
      obtain ⟨c8, hc8⟩ : ∃ c8, be1 X k = c8 := ⟨_, rfl⟩
      rw [hc8] at hq hst hbt
      have hwi := wrap64_small k (by omega)
      obtain ⟨v0, hv0⟩ := arr8_get X k k hk hlt
      have z0 := hA.cell k v0 hv0
      have y0 := hA.free k
      have HS := Lib.hid (And.intro hst hbt); have HWI := Lib.hid hwi
      clear hc8 hst hbt hwi hA hbw hv0
      go_wp2
      have hwi := HWI.out
      go_roundw
      case rel => (try rw [hwi]); clear hwi; exact ⟨k + 1, by go_num, hlt, HS.out.1, HS.out.2⟩
      case measure => (try rw [hwi]); clear hwi; simp [intOf]; omega
    obtain rfl : k = 8 := by omega
    have hF := HF3.out.later hbw
    obtain ⟨H, hH⟩ : ∃ H, hexL (beL X 8) = H := ⟨_, rfl⟩
    have hHl : H.length = 16 := by rw [← hH]; exact hex_len8 X
    obtain ⟨D, hD⟩ : ∃ D, Lib.decDigits b.length = D := ⟨_, rfl⟩
    have hDl : D.length ≤ 20 := by rw [← hD]; exact dec_len20 19 _ (Nat.lt_of_le_of_lt HL.out.2.2.2 (by decide))
    have HHX := Lib.hid (show ∀ W, Calls Tryz.prog 59 #[.string ⟨(beL X 8).toArray⟩] W fun e w' => e = .returned (.string ⟨H.toArray⟩) ∧ Below W.heap.size W w' from fun W => by rw [← hH]; exact hex_any ⟨(beL X 8).toArray⟩ W (by rw [size_mk, beL_len]; decide))
    have HDG := Lib.hid (show ∀ W, Below w.heap.size w W → Calls Tryz.prog 60 #[.int .i64 (b.length : Int)] W fun e w' => e = .returned (.string ⟨D.toArray⟩) ∧ Below W.heap.size W w' from fun W hW => by rw [← hD]; exact odigits_any b.length W (by have := HL.out.2.2.2; omega) (HPW.out.below hW))
    obtain ⟨T1, hT1⟩ : ∃ T, 34 :: H = T := ⟨_, rfl⟩
    obtain ⟨T2, hT2⟩ : ∃ T, T1 ++ [45] = T := ⟨_, rfl⟩
    obtain ⟨T3, hT3⟩ : ∃ T, T2 ++ D = T := ⟨_, rfl⟩
    obtain ⟨T4, hT4⟩ : ∃ T, T3 ++ [34] = T := ⟨_, rfl⟩
    have l1 : T1.length = 17 := by rw [← hT1]; simp [hHl]
    have l2 : T2.length = 18 := by rw [← hT2]; simp [l1]
    have l3 : T3.length ≤ 38 := by rw [← hT3]; simp [l2]; omega
    have n1 : ¬ 9223372036854775807 < 1 + H.length := by omega
    have n2 : ¬ 9223372036854775807 < T1.length + 1 := by omega
    have n3 : ¬ 9223372036854775807 < T2.length + D.length := by omega
    have n4 : ¬ 9223372036854775807 < T3.length + 1 := by omega
    have e1 : (⟨#[34]⟩ : ByteArray) ++ ⟨H.toArray⟩ = ⟨T1.toArray⟩ := by rw [← hT1]; exact ba_ext (by simp)
    have e2 : (⟨T1.toArray⟩ : ByteArray) ++ ⟨#[45]⟩ = ⟨T2.toArray⟩ := by rw [← hT2]; exact ba_ext (by simp)
    have e3 : (⟨T2.toArray⟩ : ByteArray) ++ ⟨D.toArray⟩ = ⟨T3.toArray⟩ := by rw [← hT3]; exact ba_ext (by simp)
    have e4 : (⟨T3.toArray⟩ : ByteArray) ++ ⟨#[34]⟩ = ⟨T4.toArray⟩ := by rw [← hT4]; exact ba_ext (by simp)
    have HTG := Lib.hid (show tagL ⟨p, m, c, l, b, t⟩ = T4 by rw [← hT4, ← hT3, ← hT2, ← hT1, ← hH, ← hD]; unfold tagL; rw [HM.out, HX.out]; simp)
    have HB := Lib.hid (HB3.out.trans (hbw.mono HB3.out.size))
    have hS : BlkIs wr.drew fb (fC p m c l b t) 46 ∧ BlkIs wr.drew bb (arr8 X 8) 117 := ⟨hF.later (Below.refl _ wr).drew, hA.later (Below.refl _ wr).drew⟩
    clear hT1 hT2 hT3 hT4 l1 l2 l3 hH hHl hD hDl hF hA hbw
    go_upto_region 11 with fail
    refine wp_region_textH (fun W => BlkIs W fb (fC p m c l b t) 46 ∧ BlkIs W bb (arr8 X 8) 117) [(0, true), (1, true), (5, true), (6, true), (7, true), (2, false), (3, true), (4, true), (8, false), (9, true), (10, true), (11, true), (12, true)] (by kernel_rfl) (by kernel_rfl) (by kernel_rfl) (by kernel_rfl) hS ?_
    iterate 5 (refine wpTxH_take rfl (by kernel_rfl) (v := ?_) ?_ ?_; rotate_left; · (intro W hS; have hcv := run_str8 hS.2; have x4 : W.cell? ⟨fb, 4, none⟩ = some (.string ⟨b.toArray⟩) := hS.1.cell 4 _ rfl; clear hS; go_simp; (try with_reducible rfl)))
    refine wpTxH_step rfl (fun K hK => ?_)
    go_simp
    refine (HHX.out _).mono ?_
    rintro e w5 ⟨rfl, hb5⟩
    have hS5 : BlkIs w5 fb (fC p m c l b t) 46 ∧ BlkIs w5 bb (arr8 X 8) 117 := ⟨hS.1.later hb5, hS.2.later hb5⟩
    have HB5 := Lib.hid (HB.out.trans (((Below.refl _ wr).drew.trans hb5).mono HB.out.size))
    refine hK _ _ hS5 ?_
    clear hK K hb5
    iterate 2 (refine wpTxH_take rfl (by kernel_rfl) (v := ?_) ?_ ?_; rotate_left; · (intro W hS; clear hS; go_simp; (try with_reducible rfl)))
    refine wpTxH_step rfl (fun K hK => ?_)
    go_simp
    refine (HDG.out _ HB5.out).mono ?_
    rintro e w6 ⟨rfl, hb6⟩
    have HB6 := Lib.hid (HB5.out.trans (hb6.mono HB5.out.size))
    refine hK _ _ ⟨hS5.1.later hb6, hS5.2.later hb6⟩ ?_
    clear hK K hb6
    iterate 4 (refine wpTxH_take rfl (by kernel_rfl) (v := ?_) ?_ ?_; rotate_left; · (intro W hS; clear hS; go_simp; (try with_reducible rfl)))
    refine wpTxH_nil ?_
    go_simp
    go_wp2
    go_ret2
    rw [HTG.out]
    exact ⟨rfl, HB6.out⟩
end Go.Proofs.YtpdbejeiceodkaaGreatDoor
namespace Go.Proofs.YtpdbejeiceodkaaGreatDoor
open Go.RowKit
set_option linter.unusedSimpArgs false
set_option linter.unusedVariables false
set_option maxRecDepth 1000000
theorem ShIs.list {W : World} {B s : Nat} {l : List Fil} (h : ShIs W B s l) : ∃ ao cap m, BlkIs W s #[.slice ao l.length cap, .map (some m)] 85 := by
  obtain ⟨m, v, _, _, h3, h4, _⟩ := h
  obtain ⟨ao, cap, rfl⟩ := fils_shape h4
  exact ⟨ao, cap, m, h3⟩
theorem ShIs.file {W : World} {B s : Nat} {l : List Fil} (h : ShIs W B s l) (k : Nat) (f : Fil) (hk : l[k]? = some f) : ∃ g cap m, BlkIs W s #[.slice (some ⟨g, 0, none⟩) l.length cap, .map (some m)] 85 ∧ Cells6 g (k * 6) f W := by
  obtain ⟨m, v, _, _, h3, h4, _⟩ := h
  have hl := (List.getElem?_eq_some_iff.1 hk).1
  obtain ⟨g, cap, rfl⟩ : ∃ g cap, v = .slice (some ⟨g, 0, none⟩) l.length cap := by
    rcases h4.2 with ⟨_, h0⟩ | ⟨g, cap, cur, hv, _⟩
    · omega
    · exact ⟨g, cap, hv⟩
  obtain ⟨b2, o2, e2, hC⟩ := filAt_own h4 k f hk
  injection e2 with e2
  injection e2 with e21 e22 _
  subst e21
  subst e22
  rw [Nat.zero_add] at hC
  exact ⟨g, cap, m, h3, hC⟩
set_option maxHeartbeats 16000000 in
theorem shelfMakes_any (v : Value) (l : List Fil) (n : Int) (mm : Int) (w : World) (hN : totG l + l.length ≤ 1073741824) (h : FilsIn w v l) (hx : w.cell? ⟨0, 0, none⟩ = some (.int .i64 mm)) (hg : SgAt w) (hP : PowAt w) :
    Calls Tryz.prog 9 #[v, .int .i64 n] w fun e w' => e = .returned (.bool true) ∧ Below w.heap.size w w' := by
  have HG := Lib.hid (given17_any v l w (by omega) h)
  have HM := Lib.hid (fun W (hb : Below w.heap.size w W) => made17_any v l mm W hN (h.below hb) (mx_later (B := 0) hx hb) (hg.below hb))
  have HFL := Lib.hid (show ∀ i f, l[i]? = some f → filLen f ≤ 1073741824 from fun i f hf => by have := totG_get l i f hf; omega)
  have HPW := Lib.hid hP
  obtain ⟨ao, cap, rfl, _⟩ := h
  unfold MadP at HM
  obtain ⟨⟨R1, R2⟩, hR⟩ : ∃ r, fck [] l = r := ⟨_, rfl⟩
  rw [hR] at HM
  have hlb : l.length ≤ 1073741824 := by omega
  clear hx hg hN hR hP
  go_enter Tryz.func9, Tryz.ntmps9
  go_wp2_with fail
  refine (HG.out).mono ?_
  rintro e w1 ⟨rv, rfl, hown, hb1⟩
  have HB1 := Lib.hid hb1
  have HR1 := Lib.hid (filsIn_own hown)
  clear hown hb1 HG
  go_wp2_with fail
  refine (HM.out w1 HB1.out).mono ?_
  rintro e w2 ⟨pv, rfl, hb2, heq⟩
  have HB2 := Lib.hid (HB1.out.trans (hb2.mono HB1.out.size))
  have HR2 := Lib.hid (HR1.out.below hb2)
  clear hb2 HM
  by_cases h0 : R2 = 0
  case neg =>
    have b3 : decide (R2 = 0) = false := decide_eq_false h0
    rw [b3]
    clear heq h0 b3
    go_wp2
    go_ret
    exact ⟨rfl, HB2.out⟩
  obtain ⟨s, hs1, hs2⟩ := heq h0
  subst hs1
  subst h0
  have b3 : decide (0 = 0) = true := rfl
  rw [b3]
  have HS := Lib.hid (hs2.mono HB1.out.size)
  clear hs2 b3 heq
  obtain ⟨aq, cq, mq, hLB⟩ := HS.out.list
  have HLEN := Lib.hid (lenS s l.length aq cq (.map (some mq)) w2 hLB)
  clear hLB
  obtain ⟨ar, cr, rfl, hatr⟩ := HR2.out
  have HATR := Lib.hid hatr
  clear hatr
  go_wp2_with fail
  refine (HLEN.out).mono ?_
  rintro e w3 ⟨rfl, hw3⟩
  subst hw3
  go_wp2
  go_loopw [9] (fun iv wr => ∃ k : Nat, iv = .int .i64 k ∧ k ≤ l.length ∧ Below w3.heap.size w3 wr) (fun iv _ => l.length - (intOf iv).toNat)
  case atStart => exact ⟨0, rfl, Nat.zero_le _, Below.refl _ _⟩
  case round =>
    obtain ⟨k, rfl, hk, hb⟩ := hrel
    have k0 : (0 : Int) ≤ (k : Int) := Int.natCast_nonneg _
    by_cases hkl : k < l.length
    · obtain ⟨f, hf⟩ : ∃ f, l[k]? = some f := ⟨_, List.getElem?_eq_getElem hkl⟩
      have k1 : (k : Int) < (l.length : Int) := by omega
      have hwi := wrap64_small k (by omega)
      have HBw := Lib.hid (HB2.out.trans (hb.mono HB2.out.size))
      have HSw := Lib.hid (HS.out.later hb)
      have HAw := Lib.hid (HATR.out.below hb)
      obtain ⟨g, cs, ms, hBf, hCf⟩ := HSw.out.file k f hf
      have HFI := Lib.hid (show Calls Tryz.prog 29 #[.pointer (some ⟨s, 0, none⟩), .int .i64 (k : Int)] wr fun e w' => e = .returned (.tuple #[.agg (fC f.p f.m f.c f.l f.b f.t), .bool true]) ∧ Below wr.heap.size wr w' from fileS s l.length k g cs (.map (some ms)) f wr hBf hkl hCf)
      have HTG := Lib.hid (fun W (hW : Below wr.heap.size wr W) => otagS s l.length k g cs (.map (some ms)) f W (hBf.later hW) hkl (hCf.below hW) (HFL.out k f hf) (HPW.out.below (HBw.out.trans (hW.mono HBw.out.size))))
      have HRT := Lib.hid (fun W => rtag_any f W (HFL.out k f hf))
      have HX := Lib.hid (And.intro hb (And.intro hwi hf))
      clear hBf hCf hb hwi hf
      go_upto_region 10 with fail
      go_wp2_with fail
      refine (HFI.out).mono ?_
      rintro e w5 ⟨rfl, hb5⟩
      obtain ⟨W6, hW6⟩ : ∃ W, w5.alloc (.cells (fC f.p f.m f.c f.l f.b f.t) 46) = W := ⟨_, rfl⟩
      obtain ⟨fb, hfb⟩ : ∃ fb, w5.heap.size = fb := ⟨_, rfl⟩
      have hF6 : BlkIs W6 fb (fC f.p f.m f.c f.l f.b f.t) 46 := by rw [← hW6, ← hfb]; exact blkIs_new _ _ _
      have hb6 : Below wr.heap.size wr W6 := by rw [← hW6]; exact hb5.alloc hb5.size _
      have HW6 := Lib.hid hW6; have HF6 := Lib.hid hF6; have HB6 := Lib.hid hb6; have HFB := Lib.hid hfb
      clear hW6 hF6 hb6 hb5 hfb HFI
      go_upto_region 11 with fail
      rw [HW6.out, HFB.out]
      go_wp2_with fail
      refine (HTG.out W6 HB6.out).mono ?_
      rintro e w7 ⟨rfl, hb7⟩
      have HB7 := Lib.hid (HB6.out.trans (hb7.mono HB6.out.size))
      have HF7 := Lib.hid (HF6.out.later hb7)
      clear hb7 HTG
      obtain ⟨g', o', rfl, hC'⟩ := HAw.out.below HB7.out k f HX.out.2.2
      have HC7 := Lib.hid hC'
      clear hC'
      go_upto_region 12 with fail
      obtain ⟨wd, hwd⟩ : ∃ W, w7.drew = W := ⟨_, rfl⟩
      have hS : BlkIs wd fb (fC f.p f.m f.c f.l f.b f.t) 46 ∧ Cells6 g' (o' + k * 6) f wd := by rw [← hwd]; exact ⟨HF7.out.later (Below.refl _ w7).drew, HC7.out.below (Below.refl _ w7).drew⟩
      have HBd := Lib.hid (show Below wr.heap.size wr wd by rw [← hwd]; exact HB7.out.drew)
      obtain ⟨TG, hTG⟩ : ∃ T, tagL f = T := ⟨_, rfl⟩
      rw [hTG] at HRT ⊢
      refine wp_region_textH (fun W => BlkIs W fb (fC f.p f.m f.c f.l f.b f.t) 46 ∧ Cells6 g' (o' + k * 6) f W) [(0, true), (1, true), (2, true), (3, true), (4, true), (5, true), (6, true), (7, true), (8, true), (9, true), (10, true), (11, true), (12, false), (13, true), (14, true), (15, true), (16, true), (17, true), (18, true), (19, true), (20, true), (21, false), (22, true), (23, true)] (by kernel_rfl) (by kernel_rfl) (by kernel_rfl) (by kernel_rfl) (by rw [hwd]; exact hS) ?_
      rw [hwd]
      clear hwd hTG
      iterate 12 (refine wpTxH_take rfl (by kernel_rfl) (v := ?_) ?_ ?_; rotate_left; · (intro W hS; obtain ⟨u3, ⟨s0, s1, s2, s3, s4, s5, _⟩⟩ := hS; have c0 : W.cell? ⟨fb, 0, none⟩ = some (.string ⟨f.p.toArray⟩) := u3.cell 0 _ rfl; have c1 : W.cell? ⟨fb, 1, none⟩ = some (.string ⟨f.m.toArray⟩) := u3.cell 1 _ rfl; have c2 : W.cell? ⟨fb, 2, none⟩ = some (.string ⟨f.c.toArray⟩) := u3.cell 2 _ rfl; have c3 : W.cell? ⟨fb, 3, none⟩ = some (.string ⟨f.l.toArray⟩) := u3.cell 3 _ rfl; have c4 : W.cell? ⟨fb, 4, none⟩ = some (.string ⟨f.b.toArray⟩) := u3.cell 4 _ rfl; have c5 : W.cell? ⟨fb, 5, none⟩ = some (.int .i64 f.t) := u3.cell 5 _ rfl; clear u3; go_simp; (try with_reducible rfl)))
      refine wpTxH_step rfl (fun K hK => ?_)
      go_simp
      refine (show Calls Tryz.prog 32 #[.agg (fC f.p f.m f.c f.l f.b f.t), .agg (fC f.p f.m f.c f.l f.b f.t)] wd fun e w' => e = .returned (.bool true) ∧ Below wd.heap.size wd w' from same17_any f wd).mono ?_
      rintro e w8 ⟨rfl, hb8⟩
      have hS8 : BlkIs w8 fb (fC f.p f.m f.c f.l f.b f.t) 46 ∧ Cells6 g' (o' + k * 6) f w8 := ⟨hS.1.later hb8, hS.2.below hb8⟩
      have HB8 := Lib.hid (HBd.out.trans (hb8.mono HBd.out.size))
      refine hK _ _ hS8 ?_
      clear hK K hb8
      iterate 8 (refine wpTxH_take rfl (by kernel_rfl) (v := ?_) ?_ ?_; rotate_left; · (intro W hS; obtain ⟨u3, ⟨s0, s1, s2, s3, s4, s5, _⟩⟩ := hS; clear u3; go_simp; (try with_reducible rfl)))
      refine wpTxH_step rfl (fun K hK => ?_)
      go_simp
      refine (show Calls Tryz.prog 33 #[.agg (fC f.p f.m f.c f.l f.b f.t)] w8 fun e w' => e = .returned (.string ⟨TG.toArray⟩) ∧ Below w8.heap.size w8 w' from HRT.out w8).mono ?_
      rintro e w9 ⟨rfl, hb9⟩
      have HB9 := Lib.hid (HX.out.1.trans ((HB8.out.trans (hb9.mono HB8.out.size)).mono HX.out.1.size))
      refine hK _ _ ⟨hS8.1.later hb9, hS8.2.below hb9⟩ ?_
      clear hK K hb9
      iterate 2 (refine wpTxH_take rfl (by kernel_rfl) (v := ?_) ?_ ?_; rotate_left; · (intro W hS; clear hS; go_simp; (try with_reducible rfl)))
      refine wpTxH_nil ?_
      go_simp
      go_wp2
      have hwi := HX.out.2.1
      go_roundw
      case rel => (try rw [hwi]); clear hwi; exact ⟨k + 1, by go_num, hkl, HB9.out⟩
      case measure => (try rw [hwi]); clear hwi; simp [intOf]; omega
    · obtain rfl : k = l.length := by omega
      have hd : decide (l.length < l.length) = false := decide_eq_false (Nat.lt_irrefl _)
      have HBw := Lib.hid (HB2.out.trans (hb.mono HB2.out.size))
      have HSw := Lib.hid (HS.out.later hb)
      clear hb
      by_cases hn : 0 ≤ n ∧ n < (l.length : Int)
      · have n0 := hn.1
        have n1 := hn.2
        go_wp2
        go_ret
        exact ⟨rfl, HBw.out⟩
      have hout : n < 0 ∨ (l.length : Int) ≤ n := by omega
      obtain ⟨ab, cb, mb, hBb⟩ := HSw.out.list
      have HFO := Lib.hid (fileS_out s l.length cb ab n (.map (some mb)) wr hBb hout)
      have HTO := Lib.hid (fun W (hW : Below wr.heap.size wr W) => otagS_out s l.length cb ab n (.map (some mb)) W (hBb.later hW) hout)
      clear hBb hn
      rcases hout with h1 | h1
      · have b1 : ¬ (0 : Int) ≤ n := by omega
        go_upto_region 16 with fail
        go_wp2_with fail
        refine (HFO.out).mono ?_
        rintro e w5 ⟨rfl, hb5⟩
        obtain ⟨W6, hW6⟩ : ∃ W, w5.alloc (.cells #[.string ⟨#[]⟩, .string ⟨#[]⟩, .string ⟨#[]⟩, .string ⟨#[]⟩, .string ⟨#[]⟩, .int .i64 0] 46) = W := ⟨_, rfl⟩
        obtain ⟨fb, hfb⟩ : ∃ fb, w5.heap.size = fb := ⟨_, rfl⟩
        have hF6 : BlkIs W6 fb zFlA 46 := by rw [← hW6, ← hfb]; exact blkIs_new _ _ _
        have hb6 : Below wr.heap.size wr W6 := by rw [← hW6]; exact hb5.alloc hb5.size _
        have HW6 := Lib.hid hW6; have HF6 := Lib.hid hF6; have HB6 := Lib.hid hb6; have HFB := Lib.hid hfb
        clear hW6 hF6 hb6 hb5 hfb HFO
        go_upto_region 17 with fail
        rw [HW6.out, HFB.out]
        go_wp2_with fail
        refine (HTO.out W6 HB6.out).mono ?_
        rintro e w7 ⟨rfl, hb7⟩
        have HB7 := Lib.hid (HBw.out.trans ((HB6.out.trans (hb7.mono HB6.out.size)).mono HBw.out.size))
        have hF7 := HF6.out.later hb7
        have c0 : w7.cell? ⟨fb, 0, none⟩ = some (.string ⟨#[]⟩) := hF7.cell 0 _ rfl
        have c1 : w7.cell? ⟨fb, 1, none⟩ = some (.string ⟨#[]⟩) := hF7.cell 1 _ rfl
        have c2 : w7.cell? ⟨fb, 2, none⟩ = some (.string ⟨#[]⟩) := hF7.cell 2 _ rfl
        have c3 : w7.cell? ⟨fb, 3, none⟩ = some (.string ⟨#[]⟩) := hF7.cell 3 _ rfl
        have c4 : w7.cell? ⟨fb, 4, none⟩ = some (.string ⟨#[]⟩) := hF7.cell 4 _ rfl
        have c5 : w7.cell? ⟨fb, 5, none⟩ = some (.int .i64 0) := hF7.cell 5 _ rfl
        clear hb7 hF7 HTO
        go_wp2
        go_ret
        exact ⟨rfl, HB7.out⟩
      · have b0 : (0 : Int) ≤ n := by omega
        have b1 : ¬ n < (l.length : Int) := by omega
        go_upto_region 16 with fail
        go_wp2_with fail
        refine (HFO.out).mono ?_
        rintro e w5 ⟨rfl, hb5⟩
        obtain ⟨W6, hW6⟩ : ∃ W, w5.alloc (.cells #[.string ⟨#[]⟩, .string ⟨#[]⟩, .string ⟨#[]⟩, .string ⟨#[]⟩, .string ⟨#[]⟩, .int .i64 0] 46) = W := ⟨_, rfl⟩
        obtain ⟨fb, hfb⟩ : ∃ fb, w5.heap.size = fb := ⟨_, rfl⟩
        have hF6 : BlkIs W6 fb zFlA 46 := by rw [← hW6, ← hfb]; exact blkIs_new _ _ _
        have hb6 : Below wr.heap.size wr W6 := by rw [← hW6]; exact hb5.alloc hb5.size _
        have HW6 := Lib.hid hW6; have HF6 := Lib.hid hF6; have HB6 := Lib.hid hb6; have HFB := Lib.hid hfb
        clear hW6 hF6 hb6 hb5 hfb HFO
        go_upto_region 17 with fail
        rw [HW6.out, HFB.out]
        go_wp2_with fail
        refine (HTO.out W6 HB6.out).mono ?_
        rintro e w7 ⟨rfl, hb7⟩
        have HB7 := Lib.hid (HBw.out.trans ((HB6.out.trans (hb7.mono HB6.out.size)).mono HBw.out.size))
        have hF7 := HF6.out.later hb7
        have c0 : w7.cell? ⟨fb, 0, none⟩ = some (.string ⟨#[]⟩) := hF7.cell 0 _ rfl
        have c1 : w7.cell? ⟨fb, 1, none⟩ = some (.string ⟨#[]⟩) := hF7.cell 1 _ rfl
        have c2 : w7.cell? ⟨fb, 2, none⟩ = some (.string ⟨#[]⟩) := hF7.cell 2 _ rfl
        have c3 : w7.cell? ⟨fb, 3, none⟩ = some (.string ⟨#[]⟩) := hF7.cell 3 _ rfl
        have c4 : w7.cell? ⟨fb, 4, none⟩ = some (.string ⟨#[]⟩) := hF7.cell 4 _ rfl
        have c5 : w7.cell? ⟨fb, 5, none⟩ = some (.int .i64 0) := hF7.cell 5 _ rfl
        clear hb7 hF7 HTO
        go_wp2
        go_ret
        exact ⟨rfl, HB7.out⟩
end Go.Proofs.YtpdbejeiceodkaaGreatDoor
