/- Dig7, RDig, TagP, RTag, LawSNil: texts of the seat, one behind the other (a claim holds at most sixty). Conditions: each theorem names its own. -/
import Derived.Test.YtpdbejeiceodkaaGreatDoorPk10
import Derived.Lib.ItoaMem
import Derived.Lib.AppendIntMem
import Derived.Test.YtpdbejeiceodkaaGreatDoorPk14
import Derived.Test.YtpdbejeiceodkaaGreatDoorPk36
import Derived.Test.YtpdbejeiceodkaaGreatDoorPk20
import Derived.Test.YtpdbejeiceodkaaGreatDoorPk35
import Derived.ProofKit
import Derived.OpenShut
import Derived.ShutString
import Derived.JoinedCond
import Derived.SizedLaws
import Derived.Laws.ResultCell
namespace Go.Proofs.YtpdbejeiceodkaaGreatDoor
open Go.RowKit
set_option linter.unusedSimpArgs false
set_option linter.unusedVariables false
set_option maxRecDepth 1000000
def PowAt (w : World) : Prop := Lib.TabIs Tryz.prog w "internal/strconv.uint64pow10" .u64 Lib.pow10Tab
theorem gPow : Tryz.prog.globalNamed "internal/strconv.uint64pow10" = some 2 := by kernel_rfl
theorem PowAt.below {w w' : World} (h : PowAt w) (hb : Below w.heap.size w w') : PowAt w' := by
  unfold PowAt Lib.TabIs at h ⊢
  unfold World.var? at h ⊢
  simp only [gPow, Option.bind_some] at h ⊢
  have lt : 2 < w.heap.size := by
    rcases Nat.lt_or_ge 2 w.heap.size with h1 | h1
    · exact h1
    · rw [Array.getElem?_eq_none h1] at h; cases h
  rw [hb.block 2 lt]
  exact h
theorem odigits_any (n : Nat) (w : World) (hn : n ≤ 4611703610613432320) (h : PowAt w) :
    Calls Tryz.prog 60 #[.int .i64 (n : Int)] w fun e w' => e = .returned (.string ⟨(Lib.decDigits n).toArray⟩) ∧ Below w.heap.size w w' := by
  have hi := Tryz.strconv_Itoa (n : Int) (by omega) (by omega) w h
  rw [Lib.itoa_nonneg] at hi
  have HI := Lib.hid hi; clear hi
  clear hn
  go_enter Tryz.func60, Tryz.ntmps60
  go_wp2_with fail
  refine (HI.out).mono ?_
  rintro e w1 ⟨rfl, k, os, rfl⟩
  have hb := Lib.below_grow w.heap.size w (Nat.le_refl _) k os
  have HB := Lib.hid hb; clear hb
  go_wp2
  go_ret
  exact ⟨rfl, HB.out⟩
end Go.Proofs.YtpdbejeiceodkaaGreatDoor
namespace Go.Proofs.YtpdbejeiceodkaaGreatDoor
open Go.RowKit
set_option linter.unusedSimpArgs false
set_option linter.unusedVariables false
set_option maxRecDepth 1000000
theorem dec_len20 : ∀ (k n : Nat), n < 10 ^ (k + 1) → (Lib.decDigits n).length ≤ k + 1
  | 0, n, h => by rw [Lib.decDigits, dif_pos (by omega)]; simp
  | k + 1, n, h => by
    rw [Lib.decDigits]
    split
    · simp
    · rw [List.length_append]
      have := dec_len20 k (n / 10) (by rw [Nat.pow_succ] at h; omega)
      simp only [List.length_singleton]
      omega
theorem dec_step (m : Nat) (o : List UInt8) (h0 : m ≠ 0) : Lib.decDigits m ++ o = (if m / 10 = 0 then [] else Lib.decDigits (m / 10)) ++ (UInt8.ofNat (48 + m % 10) :: o) := by
  rw [Lib.decDigits]
  by_cases h : m < 10
  · rw [dif_pos h, if_pos (by omega), Nat.mod_eq_of_lt h]; rfl
  · rw [dif_neg h, if_neg (by omega)]; simp
def DecR (n m : Nat) (o : List UInt8) : Prop := (if m = 0 then [] else Lib.decDigits m) ++ o = Lib.decDigits n
theorem DecR.len {n m : Nat} {o : List UInt8} (h : DecR n m o) (hn : n ≤ 4611703610613432320) : o.length ≤ 20 := by
  have h1 := congrArg List.length h
  rw [List.length_append] at h1
  have := dec_len20 19 n (Nat.lt_of_le_of_lt hn (by decide))
  omega
theorem DecR.step {n m : Nat} {o : List UInt8} (h : DecR n m o) (h0 : m ≠ 0) : DecR n (m / 10) (UInt8.ofNat (48 + m % 10) :: o) := by
  unfold DecR at h ⊢
  rw [if_neg h0, dec_step m o h0] at h
  exact h
theorem digit_cell (d : Nat) (h : d < 10) : IntKind.u8.wrap ((48 + d : Nat) : Int) = ((UInt8.ofNat (48 + d)).toNat : Int) := by
  rw [IntWalk.u8_in _ (by omega)]
  simp; omega
theorem cat_one (c : UInt8) (o : List UInt8) : (⟨#[c]⟩ : ByteArray) ++ (⟨o.toArray⟩ : ByteArray) = ⟨(c :: o).toArray⟩ := by
  refine ba_ext ?_
  simp
theorem w64_small (q : Nat) (h : q ≤ 4611703610613432320) : wrap64 (q : Int) = (q : Int) := IntWalk.wrap64_in _ (by omega)
set_option maxHeartbeats 2000000 in
theorem rdigits_any (n : Nat) (w : World) (hn : n ≤ 4611703610613432320) :
    Calls Tryz.prog 28 #[.int .i64 (n : Int)] w fun e w' => e = .returned (.string ⟨(Lib.decDigits n).toArray⟩) ∧ Below w.heap.size w w' := by
  by_cases h0 : n = 0
  · subst h0
    have hd : Lib.decDigits 0 = [48] := by rw [Lib.decDigits, dif_pos (by omega)]; rfl
    have HD := Lib.hid hd; clear hd
    go_enter Tryz.func28, Tryz.ntmps28
    go_wp2
    go_ret
    rw [HD.out]
    exact ⟨rfl, Below.refl _ _⟩
  · have b0 : ((n : Int) == 0) = false := by simp; omega
    have k0 : (0 : Int) ≤ (n : Int) := Int.natCast_nonneg _
    have hst : DecR n n [] := by unfold DecR; rw [if_neg h0, List.append_nil]
    have HST := Lib.hid (And.intro hst hn)
    clear hst h0 hn
    go_enter Tryz.func28, Tryz.ntmps28
    go_wp2
    go_loopw [0, 4] (fun mv ov wr => ∃ (m : Nat) (o : List UInt8), mv = .int .i64 m ∧ ov = .string ⟨o.toArray⟩ ∧ m ≤ n ∧ DecR n m o ∧ Below w.heap.size w wr) (fun mv _ _ => (intOf mv).toNat)
    case atStart => exact ⟨n, [], rfl, rfl, Nat.le_refl _, HST.out.1, Below.refl _ _⟩
    case round =>
      obtain ⟨m, o, rfl, rfl, hmn, hR, hb⟩ := hrel
      by_cases hm : m = 0
      · subst hm
        have hf : o = Lib.decDigits n := hR
        have HF := Lib.hid hf; clear hf
        clear hR
        go_wp2
        go_ret
        rw [← HF.out]
        exact ⟨rfl, hb⟩
      · have b1 : ((m : Int) != 0) = true := by simp; omega
        have m0 : (0 : Int) ≤ (m : Int) := Int.natCast_nonneg _
        have hlen := hR.len HST.out.2
        have hR2 := hR.step hm
        obtain ⟨d, hd⟩ : ∃ d, m % 10 = d := ⟨_, rfl⟩
        obtain ⟨q, hq⟩ : ∃ q, m / 10 = q := ⟨_, rfl⟩
        have e1 : (m : Int) % 10 = (d : Int) := by omega
        have e2 : (m : Int) / 10 = (q : Int) := by omega
        have d0 : (0 : Int) ≤ (d : Int) := Int.natCast_nonneg _
        have d1 : (d : Int) < 10 := by omega
        have hdl : d < 10 := by omega
        have hqm : q < m := by omega
        rw [hd, hq] at hR2
        obtain ⟨c, hc⟩ : ∃ c, UInt8.ofNat (48 + d) = c := ⟨_, rfl⟩
        have e4 := digit_cell d hdl
        rw [hc] at e4
        rw [hc] at hR2
        have e3 : IntKind.u8.wrap (48 + (d : Int)) = (c.toNat : Int) := by rw [← e4]; congr 1
        have hcells := cells_new wr 5 (Lib.byteCells [c])
        have hcv := run_str_cells (P := Tryz.prog) (wr.alloc (.cells #[.int .u8 (c.toNat : Int)] 5)) 76 5 Tryz.underlying76 Tryz.underlying5 wr.heap.size 0 1 1 [c] rfl (fun j hj => by
          obtain rfl : j = 0 := by simp at hj; omega
          rw [Lib.cell_of_heap (heap_alloc_new wr _)]; rfl) 9 Tryz.underlying9
        have hz : ¬ 9223372036854775807 < 1 + o.length ∧ ¬ 9223372036854775807 < o.length + 1 := by omega
        have hb2 : Below w.heap.size w (wr.alloc (.cells #[.int .u8 (c.toNat : Int)] 5)) := hb.alloc hb.size _
        have hwq := w64_small q (by have := HST.out.2; omega)
        have hqn : q ≤ n := by omega
        have HX := Lib.hid (And.intro hR2 (And.intro hb2 (And.intro hwq (And.intro hqn hqm))))
        clear hwq hqn hqm hmn
        clear hR hR2 hb2 hd hq hc e4 hcells hm hb
        go_wp2
        refine ⟨⟨q, c :: o, by rw [HX.out.2.2.1], by rw [cat_one], HX.out.2.2.2.1, HX.out.1, HX.out.2.1⟩, ?_⟩
        rw [HX.out.2.2.1]
        have := HX.out.2.2.2.2
        simp [intOf]
        omega
end Go.Proofs.YtpdbejeiceodkaaGreatDoor
namespace Go.Proofs.YtpdbejeiceodkaaGreatDoor
open Go.RowKit
set_option linter.unusedSimpArgs false
set_option linter.unusedVariables false
set_option maxRecDepth 1000000
/-- What a tag is made of. -/
def tgT (f : Fil) : List UInt8 := f.m ++ 0 :: (f.c ++ 0 :: (f.l ++ 0 :: f.b))
/-- A byte of a number, from the front. -/
def be1 (x k : Nat) : UInt8 := UInt8.ofNat (x / 2 ^ (56 - 8 * k) % 256)
def beL (x : Nat) : Nat → List UInt8
  | 0 => []
  | k + 1 => beL x k ++ [be1 x k]
theorem beL_len (x : Nat) : ∀ k, (beL x k).length = k
  | 0 => rfl
  | k + 1 => by rw [beL, List.length_append, beL_len x k]; rfl
def tagL (f : Fil) : List UInt8 := 34 :: (hexL (beL (fnv (tgT f)) 8) ++ 45 :: (Lib.decDigits f.b.length ++ [34]))
theorem u8_cell (n : Nat) : IntKind.u8.wrap (n : Int) = ((UInt8.ofNat (n % 256)).toNat : Int) := by
  rw [IntKind.wrap_u8]; simp
theorem sh_in (x k : Nat) (h : k < 8) : (x : Int) / 2 ^ (56 - 8 * k) = ((x / 2 ^ (56 - 8 * k) : Nat) : Int) := by
  simp
theorem be1_int (x k : Nat) : (x : Int) / 2 ^ (56 - 8 * k) % 256 = ((be1 x k).toNat : Int) := by
  unfold be1
  have h : (UInt8.ofNat (x / 2 ^ (56 - 8 * k) % 256)).toNat = x / 2 ^ (56 - 8 * k) % 256 := by
    have := Nat.mod_lt (x / 2 ^ (56 - 8 * k)) (show 0 < 256 by decide)
    simp
  rw [h]
  simp
theorem kk8 (k : Nat) (h : k < 8) : k = 0 ∨ k = 1 ∨ k = 2 ∨ k = 3 ∨ k = 4 ∨ k = 5 ∨ k = 6 ∨ k = 7 := by omega
end Go.Proofs.YtpdbejeiceodkaaGreatDoor
namespace Go.Proofs.YtpdbejeiceodkaaGreatDoor
open Go.RowKit
set_option linter.unusedSimpArgs false
set_option linter.unusedVariables false
set_option maxRecDepth 1000000
theorem hex_len8 (X : Nat) : (hexL (beL X 8)).length = 16 := by rw [hexL_len, beL_len]
set_option maxHeartbeats 4000000 in
theorem rtag_any (f : Fil) (w : World) (hf : filLen f ≤ 1073741824) : Calls Tryz.prog 33 #[.agg (filC f)] w fun e w' => e = .returned (.string ⟨(tagL f).toArray⟩) ∧ Below w.heap.size w w' := by
  obtain ⟨p, m, c, l, b, t⟩ := f
  obtain ⟨i0, hi, hz0, hz1, hz2⟩ := info_parts infoByte
  have hlen : m.length ≤ 1073741824 ∧ c.length ≤ 1073741824 ∧ l.length ≤ 1073741824 ∧ b.length ≤ 1073741824 := by unfold filLen at hf; simp only at hf; omega
  obtain ⟨W2, hW2⟩ : ∃ W2, w.alloc (.cells (fC p m c l b t) 64) = W2 := ⟨_, rfl⟩
  obtain ⟨fb, hfb⟩ : ∃ fb, w.heap.size = fb := ⟨_, rfl⟩
  have hF2 : BlkIs W2 fb (fC p m c l b t) 64 := by rw [← hW2, ← hfb]; exact blkIs_new _ _ _
  have hb2 : Below w.heap.size w W2 := by rw [← hW2]; exact (Below.refl _ w).alloc (Nat.le_refl _) _
  obtain ⟨M1, hM1⟩ : ∃ M, m ++ [0] = M := ⟨_, rfl⟩
  obtain ⟨M2, hM2⟩ : ∃ M, M1 ++ c = M := ⟨_, rfl⟩
  obtain ⟨M3, hM3⟩ : ∃ M, M2 ++ [0] = M := ⟨_, rfl⟩
  obtain ⟨M4, hM4⟩ : ∃ M, M3 ++ l = M := ⟨_, rfl⟩
  obtain ⟨M5, hM5⟩ : ∃ M, M4 ++ [0] = M := ⟨_, rfl⟩
  obtain ⟨M6, hM6⟩ : ∃ M, M5 ++ b = M := ⟨_, rfl⟩
  have L1 : M1.length = m.length + 1 := by rw [← hM1]; simp
  have L2 : M2.length = M1.length + c.length := by rw [← hM2]; simp
  have L3 : M3.length = M2.length + 1 := by rw [← hM3]; simp
  have L4 : M4.length = M3.length + l.length := by rw [← hM4]; simp
  have L5 : M5.length = M4.length + 1 := by rw [← hM5]; simp
  have L6 : M6.length = M5.length + b.length := by rw [← hM6]; simp
  have n1 : ¬ 9223372036854775807 < m.length + 1 := by omega
  have n2 : ¬ 9223372036854775807 < M1.length + c.length := by omega
  have n3 : ¬ 9223372036854775807 < M2.length + 1 := by omega
  have n4 : ¬ 9223372036854775807 < M3.length + l.length := by omega
  have n5 : ¬ 9223372036854775807 < M4.length + 1 := by omega
  have n6 : ¬ 9223372036854775807 < M5.length + b.length := by omega
  have e1 : (⟨m.toArray⟩ : ByteArray) ++ ⟨#[0]⟩ = ⟨M1.toArray⟩ := by rw [← hM1]; exact ba_ext (by simp)
  have e2 : (⟨M1.toArray⟩ : ByteArray) ++ ⟨c.toArray⟩ = ⟨M2.toArray⟩ := by rw [← hM2]; exact ba_ext (by simp)
  have e3 : (⟨M2.toArray⟩ : ByteArray) ++ ⟨#[0]⟩ = ⟨M3.toArray⟩ := by rw [← hM3]; exact ba_ext (by simp)
  have e4 : (⟨M3.toArray⟩ : ByteArray) ++ ⟨l.toArray⟩ = ⟨M4.toArray⟩ := by rw [← hM4]; exact ba_ext (by simp)
  have e5 : (⟨M4.toArray⟩ : ByteArray) ++ ⟨#[0]⟩ = ⟨M5.toArray⟩ := by rw [← hM5]; exact ba_ext (by simp)
  have e6 : (⟨M5.toArray⟩ : ByteArray) ++ ⟨b.toArray⟩ = ⟨M6.toArray⟩ := by rw [← hM6]; exact ba_ext (by simp)
  have HM := Lib.hid (show tgT ⟨p, m, c, l, b, t⟩ = M6 by rw [← hM6, ← hM5, ← hM4, ← hM3, ← hM2, ← hM1]; simp [tgT])
  have HFN := Lib.hid (show ∀ W, Calls Tryz.prog 61 #[.string ⟨M6.toArray⟩] W fun e w' => e = .returned (.int .u64 (fnv M6 : Nat)) ∧ W = w' from fun W => rfnv_any ⟨M6.toArray⟩ W (by rw [size_mk]; omega))
  have HL := Lib.hid hlen
  have HW2 := Lib.hid hW2; have HF2 := Lib.hid hF2; have HB2 := Lib.hid hb2
  clear hM1 hM2 hM3 hM4 hM5 hM6 L1 L2 L3 L4 L5 L6 hW2 hF2 hb2 hf hlen
  show Calls Tryz.prog 33 #[.agg (fC p m c l b t)] w _
  go_enter Tryz.func33, Tryz.ntmps33
  go_upto_region 1 with fail
  rw [HW2.out]
  have x1 : W2.cell? ⟨fb, 1, none⟩ = some (.string ⟨m.toArray⟩) := HF2.out.cell 1 _ rfl
  have x2 : W2.cell? ⟨fb, 2, none⟩ = some (.string ⟨c.toArray⟩) := HF2.out.cell 2 _ rfl
  have x3 : W2.cell? ⟨fb, 3, none⟩ = some (.string ⟨l.toArray⟩) := HF2.out.cell 3 _ rfl
  have x4 : W2.cell? ⟨fb, 4, none⟩ = some (.string ⟨b.toArray⟩) := HF2.out.cell 4 _ rfl
  go_wp2_with fail
  refine (HFN.out W2).mono ?_
  rintro e w3 ⟨rfl, hw3⟩
  subst hw3
  clear n1 n2 n3 n4 n5 n6 e1 e2 e3 e4 e5 e6 x1 x2 x3 x4
  obtain ⟨X, hX⟩ : ∃ X, fnv M6 = X := ⟨_, rfl⟩
  have hXl : X < 18446744073709551616 := by rw [← hX]; exact fnv_lt' _
  have HX := Lib.hid hX
  rw [hX]
  clear hX
  go_wp2
  go_loopw [4, 5] (fun v i wr => ∃ (k : Nat), i = .int .i64 k ∧ k ≤ 8 ∧ wr.ownsRow W2.heap.size 5 1 v k (Lib.byteCells (beL X k)) ∧ Below W2.heap.size W2 wr)
    (fun _ i _ => 8 - (intOf i).toNat)
  case atStart => exact ⟨0, rfl, Nat.zero_le _, World.ownsRow_made W2 #[] 0 (Nat.le_refl _) (by simp) rfl, (Below.refl _ W2).alloc (Nat.le_refl _) _⟩
  case round =>
    obtain ⟨k, rfl, hk, hI, hbw⟩ := hrel
    have k0 : (0 : Int) ≤ (k : Int) := Int.natCast_nonneg _
    by_cases hlt : k < 8
    · have k1 : (k : Int) < 8 := by omega
      have hq := be1_int X k
      have hsn : beL X (k + 1) = beL X k ++ [be1 X k] := rfl
      obtain ⟨c8, hc8⟩ : ∃ c8, be1 X k = c8 := ⟨_, rfl⟩
      rw [hc8] at hq hsn
      have hwi := wrap64_small k (by omega)
      have HI := Lib.hid (And.intro hI hbw); have HS := Lib.hid hsn; have HWI := Lib.hid hwi
      have hbs := hbw.size
      clear hc8 hsn hwi hI hbw
      go_wp2_with (at_builtin; refine wpList_append_own _ rfl _ _ 76 rfl W2.heap.size 5 i0 (.int .u8 0) 1 1 Tryz.underlying76 hi hz0 hz1 hz2 rfl (by decide) _ _ _ rfl (HI.out.1.alloc _) ⟨wr.heap.size, 0, none⟩ 1 1 [.int .u8 (c8.toNat : Int)] rfl rfl (cells_new _ _ _) (by simp [Value.oneCell']) ?d1 ?d2 ?d3 ?_)
      case d1 => unfold maxLen; omega
      case d2 => omega
      case d3 => simp; omega
      intro v1 w4 hI4 hg4 _
      have HB4 := Lib.hid ((HI.out.2.alloc hbs _).grown hg4 (by simp; omega) (fun j hj => (HI.out.1.lt j hj).1))
      have HI4 := Lib.hid (show w4.ownsRow W2.heap.size 5 1 v1 (k + 1) (Lib.byteCells (beL X (k + 1))) by rw [HS.out, Lib.byteCells_append]; exact hI4)
      clear hI4 hg4
      go_wp2
      have hwi := HWI.out
      go_roundw
      case rel => (try rw [hwi]); clear hwi; exact ⟨k + 1, by go_num, hlt, HI4.out, HB4.out⟩
      case measure => (try rw [hwi]); clear hwi; simp [intOf]; omega
    · obtain rfl : k = 8 := by omega
      have hF := HF2.out.later hbw
      obtain ⟨H, hH⟩ : ∃ H, hexL (beL X 8) = H := ⟨_, rfl⟩
      have hHl : H.length = 16 := by rw [← hH]; exact hex_len8 X
      obtain ⟨D, hD⟩ : ∃ D, Lib.decDigits b.length = D := ⟨_, rfl⟩
      have hDl : D.length ≤ 20 := by rw [← hD]; exact dec_len20 19 _ (Nat.lt_of_le_of_lt HL.out.2.2.2 (by decide))
      have HHX := Lib.hid (show ∀ W, Calls Tryz.prog 62 #[.string ⟨(beL X 8).toArray⟩] W fun e w' => e = .returned (.string ⟨H.toArray⟩) ∧ Below W.heap.size W w' from fun W => by rw [← hH]; exact rhexS_any ⟨(beL X 8).toArray⟩ W (by rw [size_mk, beL_len]; decide))
      have HDG := Lib.hid (show ∀ W, Calls Tryz.prog 28 #[.int .i64 (b.length : Int)] W fun e w' => e = .returned (.string ⟨D.toArray⟩) ∧ Below W.heap.size W w' from fun W => by rw [← hD]; exact rdigits_any b.length W (by have := HL.out.2.2.2; omega))
      obtain ⟨T1, hT1⟩ : ∃ T, 34 :: H = T := ⟨_, rfl⟩
      obtain ⟨T2, hT2⟩ : ∃ T, T1 ++ [45] = T := ⟨_, rfl⟩
      obtain ⟨T3, hT3⟩ : ∃ T, T2 ++ D = T := ⟨_, rfl⟩
      obtain ⟨T4, hT4⟩ : ∃ T, T3 ++ [34] = T := ⟨_, rfl⟩
      have l1 : T1.length = 17 := by rw [← hT1]; simp [hHl]
      have l2 : T2.length = 18 := by rw [← hT2]; simp [l1]
      have l3 : T3.length ≤ 38 := by rw [← hT3]; simp [l2]; omega
      have n1 : ¬ 9223372036854775807 < 1 + H.length := by omega
      have n2 : ¬ 9223372036854775807 < T1.length + 1 := by omega
      have n3 : ¬ 9223372036854775807 < T2.length + D.length := by omega
      have n4 : ¬ 9223372036854775807 < T3.length + 1 := by omega
      have e1 : (⟨#[34]⟩ : ByteArray) ++ ⟨H.toArray⟩ = ⟨T1.toArray⟩ := by rw [← hT1]; exact ba_ext (by simp)
      have e2 : (⟨T1.toArray⟩ : ByteArray) ++ ⟨#[45]⟩ = ⟨T2.toArray⟩ := by rw [← hT2]; exact ba_ext (by simp)
      have e3 : (⟨T2.toArray⟩ : ByteArray) ++ ⟨D.toArray⟩ = ⟨T3.toArray⟩ := by rw [← hT3]; exact ba_ext (by simp)
      have e4 : (⟨T3.toArray⟩ : ByteArray) ++ ⟨#[34]⟩ = ⟨T4.toArray⟩ := by rw [← hT4]; exact ba_ext (by simp)
      have HTG := Lib.hid (show tagL ⟨p, m, c, l, b, t⟩ = T4 by rw [← hT4, ← hT3, ← hT2, ← hT1, ← hH, ← hD]; unfold tagL; rw [HM.out, HX.out]; simp)
      have HB := Lib.hid (HB2.out.trans (hbw.mono HB2.out.size))
      have hS : BlkIs wr.drew fb (fC p m c l b t) 64 ∧ wr.drew.ownsRow W2.heap.size 5 1 u4 8 (Lib.byteCells (beL X 8)) := ⟨hF.later (Below.refl _ wr).drew, hI.drew⟩
      have HI := Lib.hid (And.intro hI hF)
      clear hT1 hT2 hT3 hT4 l1 l2 l3 hH hHl hD hDl hI hF hbw
      go_upto_region 7 with fail
      refine wp_region_textH (fun W => BlkIs W fb (fC p m c l b t) 64 ∧ W.ownsRow W2.heap.size 5 1 u4 8 (Lib.byteCells (beL X 8))) [(0, true), (1, true), (5, true), (6, true), (7, true), (2, false), (3, true), (4, true), (8, false), (9, true), (10, true), (11, true)] (by kernel_rfl) (by kernel_rfl) (by kernel_rfl) (by kernel_rfl) hS ?_
      iterate 5 (refine wpTxH_take rfl (by kernel_rfl) (v := ?_) ?_ ?_; rotate_left; · (intro W hS; have hcv := run_str_own W 76 5 Tryz.underlying76 Tryz.underlying5 hS.2 9 Tryz.underlying9; have x4 : W.cell? ⟨fb, 4, none⟩ = some (.string ⟨b.toArray⟩) := hS.1.cell 4 _ rfl; clear hS; go_simp; (try with_reducible rfl)))
      refine wpTxH_step rfl (fun K hK => ?_)
      go_simp
      refine (HHX.out _).mono ?_
      rintro e w5 ⟨rfl, hb5⟩
      have hS5 : BlkIs w5 fb (fC p m c l b t) 64 ∧ w5.ownsRow W2.heap.size 5 1 u4 8 (Lib.byteCells (beL X 8)) := ⟨hS.1.later hb5, own_later hS.2 hb5⟩
      have HB5 := Lib.hid (HB.out.trans (((Below.refl _ wr).drew.trans hb5).mono HB.out.size))
      refine hK _ _ hS5 ?_
      clear hK K hb5
      iterate 2 (refine wpTxH_take rfl (by kernel_rfl) (v := ?_) ?_ ?_; rotate_left; · (intro W hS; clear hS; go_simp; (try with_reducible rfl)))
      refine wpTxH_step rfl (fun K hK => ?_)
      go_simp
      refine (HDG.out _).mono ?_
      rintro e w6 ⟨rfl, hb6⟩
      have HB6 := Lib.hid (HB5.out.trans (hb6.mono HB5.out.size))
      refine hK _ _ ⟨hS5.1.later hb6, own_later hS5.2 hb6⟩ ?_
      clear hK K hb6
      iterate 3 (refine wpTxH_take rfl (by kernel_rfl) (v := ?_) ?_ ?_; rotate_left; · (intro W hS; clear hS; go_simp; (try with_reducible rfl)))
      refine wpTxH_nil ?_
      go_simp
      go_wp2
      go_ret
      rw [HTG.out]
      exact ⟨rfl, HB6.out⟩
end Go.Proofs.YtpdbejeiceodkaaGreatDoor
namespace Go.Proofs.YtpdbejeiceodkaaGreatDoor
open Go.ChangeShapes Go.WideShapes Go.ChangeAt Go.RowKit
set_option linter.unusedSimpArgs false
set_option linter.unusedVariables false
set_option maxRecDepth 1000000
section
variable {base : Nat} {H : Type} {enc : TypeId × Value → H} {W : World} {v : Value} {d : DataW H} {p : List MemPlace}
abbrev Wsh := ByteArray × ByteArray × ByteArray × Bool × Bool × Bool
def wshC (l : Wsh) : Array Value := #[.string l.1, .string l.2.1, .string l.2.2.1, .bool l.2.2.2.1, .bool l.2.2.2.2.1, .bool l.2.2.2.2.2]
theorem cbH : Tryz.prog.cellsOf 4 = 1 := by kernel_rfl
theorem cstH : Tryz.prog.cellsOf 9 = 1 := by kernel_rfl
theorem cwiH : Tryz.prog.cellsOf 27 = 6 := by kernel_rfl
/-- A wish, handed over. -/
def WishIn (w : World) (v : Value) (l : Wsh) : Prop := v = .agg (wshC l)
theorem open_wish (hval : Value.okWide Tryz.prog W .any base 27 v) (h : DataW.Trod enc Tryz.prog W 0 (fun _ => true) true 27 v d p) : ∃ l, WishIn W v l ∧ 0 ≤ Rows.uptoBulk d := by
  obtain ⟨cs, rfl, hsz⟩ := okWide_struct Tryz.underlying27 hval
  obtain ⟨n, h⟩ := h
  obtain ⟨xs, k', hk, hxy, _, hxl, hf⟩ := DataW.trod_struct Tryz.underlying27 h
  have hl : (Value.agg cs).cells.toList.length = 6 := by rw [← cwiH, ← hsz]; simp [Value.cells]
  obtain ⟨L, hL⟩ : ∃ L, (Value.agg cs).cells.toList = L := ⟨_, rfl⟩
  rw [hL] at hf hl
  match xs, hxl, L, hl, hL, hf with
  | [y0, y1, y2, y3, y4, y5], _, [v0, v1, v2, v3, v4, v5], _, hL, hf =>
    have g0 := hf 0 _ rfl
    have g1 := hf 1 _ rfl
    have g2 := hf 2 _ rfl
    have g3 := hf 3 _ rfl
    have g4 := hf 4 _ rfl
    have g5 := hf 5 _ rfl
    simp [cbH, cstH] at g0 g1 g2 g3 g4 g5
    obtain ⟨s0, e0, f0, _⟩ := DataW.trod_string Tryz.underlying9 g0
    obtain ⟨s1, e1, f1, _⟩ := DataW.trod_string Tryz.underlying9 g1
    obtain ⟨s2, e2, f2, _⟩ := DataW.trod_string Tryz.underlying9 g2
    obtain ⟨b3, e3, f3⟩ := DataW.trod_bool Tryz.underlying4 g3
    obtain ⟨b4, e4, f4⟩ := DataW.trod_bool Tryz.underlying4 g4
    obtain ⟨b5, e5, f5⟩ := DataW.trod_bool Tryz.underlying4 g5
    simp only [List.cons.injEq, and_true] at e0 e1 e2 e3 e4 e5
    subst e0 e1 e2 e3 e4 e5
    refine ⟨(s0, s1, s2, b3, b4, b5), ?_, Nat.zero_le _⟩
    have he' : cs.toList = [.string s0, .string s1, .string s2, .bool b3, .bool b4, .bool b5] := by simpa [Value.cells] using hL
    have hcs : cs = #[.string s0, .string s1, .string s2, .bool b3, .bool b4, .bool b5] := Array.toList_inj.1 he'
    rw [hcs]
    rfl
end
theorem results_fileT {fn : Func} {p u : Tmp} (h : fn.results = #[.cell p 46, .tmp u]) (tmps : Array Value) (w : World) (g : Nat) (cs : Array Value) (fr : Nat × Nat)
    (hp : tmps.getD p undef = .pointer (some ⟨g, 0, none⟩)) (hg : w.heap[g]? = some (.cells cs 46 fr)) (hs : cs.size = 6) :
    (results fn tmps).run Tryz.prog w = .ok (.tuple #[.agg cs, tmps.getD u undef]) w := by
  rw [results_cell_tmp h, hp]
  have := run_loadVar_row (P := Tryz.prog) w g 46 46 cs fr _ hg Tryz.underlying46 rfl (by rw [hs]; kernel_rfl)
  simp [asAddr, this, Result.andThen]
theorem lenN (w : World) : Calls Tryz.prog 21 #[.pointer none] w fun e w' => e = .returned (.int .i64 0) ∧ w' = w := by
  go_enter Tryz.func21, Tryz.ntmps21
  go_wp2
  go_ret
  exact ⟨rfl, by first | rfl | trivial⟩
theorem fileN_leaf {w W : World} {B b : Nat} (hb : Below B w W) (hB : BlkIs W b zFlA 46) (hl : B ≤ b) :
    let W' := (((((W.setCell ⟨b, 0, none⟩ (.string ⟨#[]⟩)).setCell ⟨b, 1, none⟩ (.string ⟨#[]⟩)).setCell ⟨b, 2, none⟩ (.string ⟨#[]⟩)).setCell ⟨b, 3, none⟩ (.string ⟨#[]⟩)).setCell ⟨b, 4, none⟩ (.string ⟨#[]⟩)).setCell ⟨b, 5, none⟩ (.int .i64 0)
    BlkIs W' b zFlA 46 ∧ Below B w W' := ⟨(((((hB.set 0 _).set 1 _).set 2 _).set 3 _).set 4 _).set 5 _, sixBelow hb hl _ _ _ _ _ _⟩
set_option maxHeartbeats 4000000 in
theorem fileN (i : Int) (w : World) : Calls Tryz.prog 29 #[.pointer none, .int .i64 i] w fun e w' => e = .returned (.tuple #[.agg zFlA, .bool false]) ∧ Below w.heap.size w w' := by
  obtain ⟨W1, hW1⟩ : ∃ W1, w.alloc (.cells zFlA 46) = W1 := ⟨_, rfl⟩
  obtain ⟨b, hb⟩ : ∃ b, w.heap.size = b := ⟨_, rfl⟩
  have hbl : Below w.heap.size w W1 := by rw [← hW1]; exact (Below.refl _ w).alloc (Nat.le_refl _) _
  have hB : BlkIs W1 b zFlA 46 := by rw [← hW1, ← hb]; exact blkIs_new _ _ _
  have hbl' : Below b w W1 := by rw [← hb]; exact hbl
  have HL := Lib.hid (fileN_leaf hbl' hB (Nat.le_refl _)); have HL2 := Lib.hid (fileN_leaf hbl hB (by omega))
  have HW1 := Lib.hid hW1
  have z0 := hB.cell 0 _ rfl
  have z1 := hB.cell 1 _ rfl
  have z2 := hB.cell 2 _ rfl
  have z3 := hB.cell 3 _ rfl
  have z4 := hB.cell 4 _ rfl
  have z5 := hB.cell 5 _ rfl
  have y0 := hB.free 0
  have y1 := hB.free 1
  have y2 := hB.free 2
  have y3 := hB.free 3
  have y4 := hB.free 4
  have y5 := hB.free 5
  clear hbl hbl' hB hW1
  by_cases hi : i < 0
  · go_enter Tryz.func29, Tryz.ntmps29
    go_upto_region 1 with fail
    rw [HW1.out]
    go_wp2
    refine bodyPost_ret (v := .tuple #[.agg zFlA, .bool false]) ?r rfl ⟨rfl, HL.out.2⟩
    case r => exact results_fileT (p := 4) (u := 5) rfl _ _ b zFlA (0, 0) rfl HL.out.1 rfl
  · have hi2 : 0 ≤ i := by omega
    go_enter Tryz.func29, Tryz.ntmps29
    go_upto_region 1 with fail
    rw [HW1.out]
    go_wp2_with fail
    refine (lenN W1).mono ?_
    rintro e w2 ⟨rfl, hw2⟩
    subst hw2
    go_wp2
    refine bodyPost_ret (v := .tuple #[.agg zFlA, .bool false]) ?r rfl ⟨rfl, HL2.out.2⟩
    case r => exact results_fileT (p := 4) (u := 5) rfl _ _ b zFlA (0, 0) rfl HL.out.1 rfl
theorem tagN (i : Int) (w : World) : Calls Tryz.prog 31 #[.pointer none, .int .i64 i] w fun e w' => e = .returned (.tuple #[.string ⟨#[]⟩, .bool false]) ∧ Below w.heap.size w w' := by
  go_enter Tryz.func31, Tryz.ntmps31
  go_wp2_with fail
  refine (fileN i w).mono ?_
  rintro e w1 ⟨rfl, hb1⟩
  have HB := Lib.hid (hb1.alloc hb1.size (.cells zFlA 46))
  clear hb1
  go_wp2
  go_ret2
  exact ⟨rfl, HB.out⟩
theorem entN (pth : ByteArray) (w : World) : Calls Tryz.prog 22 #[.pointer none, .string pth] w fun e w' => e = .returned (.tuple #[.slice none 0 0, .bool false]) ∧ w' = w := by
  go_enter Tryz.func22, Tryz.ntmps22
  go_wp2
  go_ret2
  exact ⟨rfl, by first | rfl | trivial⟩
theorem varN (pth : ByteArray) (w : World) : Calls Tryz.prog 25 #[.pointer none, .string pth] w fun e w' => e = .returned (.slice none 0 0) ∧ w' = w := by
  go_enter Tryz.func25, Tryz.ntmps25
  go_wp2
  go_ret
  exact ⟨rfl, by first | rfl | trivial⟩
set_option maxHeartbeats 4000000 in
theorem findN (pth : ByteArray) (l : Wsh) (w : World) : Calls Tryz.prog 18 #[.pointer none, .string pth, .agg (wshC l)] w fun e w' => e = .returned (.agg zFnd) ∧ Below w.heap.size w w' := by
  obtain ⟨W1, hW1⟩ : ∃ W1, (w.alloc (.cells (wshC l) 27)).alloc (.cells zFnd 36) = W1 := ⟨_, rfl⟩
  obtain ⟨b1, hb1⟩ : ∃ b, w.heap.size = b := ⟨_, rfl⟩
  obtain ⟨b, hb⟩ : ∃ b, b1 + 1 = b := ⟨_, rfl⟩
  have hbl : Below w.heap.size w W1 := by rw [← hW1]; exact ((Below.refl _ w).alloc (Nat.le_refl _) _).alloc (by simp) _
  have hB : BlkIs W1 b zFnd 36 := by rw [← hW1, ← hb, ← hb1]; have := blkIs_new (w.alloc (.cells (wshC l) 27)) zFnd 36; rwa [World.size_alloc] at this
  have HW1 := Lib.hid hW1; have HB := Lib.hid (And.intro hbl (And.intro hB (show w.heap.size ≤ b by omega)))
  have z0 := hB.cell 0 _ rfl
  have z1 := hB.cell 1 _ rfl
  have z2 := hB.cell 2 _ rfl
  have z3 := hB.cell 3 _ rfl
  have y0 := hB.free 0
  have y1 := hB.free 1
  have y2 := hB.free 2
  have y3 := hB.free 3
  clear hbl hB hW1
  have HF := Lib.hid (show BlkIs ((((W1.setCell ⟨b, 0, none⟩ (.int .i64 0)).setCell ⟨b, 1, none⟩ (.int .i64 0)).setCell ⟨b, 2, none⟩ (.string ⟨#[]⟩)).setCell ⟨b, 3, none⟩ (.slice none 0 0)) b zFnd 36 from (((HB.out.2.1.set 0 _).set 1 _).set 2 _).set 3 _)
  obtain ⟨A, hA⟩ : ∃ A, wshC l = A := ⟨_, rfl⟩
  rw [hA] at HW1
  have HAA := Lib.hid hA
  rw [hA]
  clear hA
  go_enter Tryz.func18, Tryz.ntmps18
  go_upto_region 1 with fail
  rw [HW1.out]
  go_wp2
  refine bodyPost_ret (v := .agg zFnd) ?r rfl ⟨rfl, ?q⟩
  case r => exact results_cell_row rfl _ _ b 36 zFnd (0, 0) _ rfl HF.out Tryz.underlying36 rfl (by kernel_rfl)
  case q => exact (((HB.out.1.setCell (p := ⟨b, 0, none⟩) HB.out.2.2 _).setCell (p := ⟨b, 1, none⟩) HB.out.2.2 _).setCell (p := ⟨b, 2, none⟩) HB.out.2.2 _).setCell (p := ⟨b, 3, none⟩) HB.out.2.2 _
theorem txtsN (w : World) : Calls Tryz.prog 27 #[.slice none 0 0, .slice none 0 0] w fun e w' => e = .returned (.bool true) ∧ w' = w := by
  go_enter Tryz.func27, Tryz.ntmps27
  go_wp2
  refine wp_loop_rounds 1 ?_
  rw [rounds_succ]
  go_wp2
  go_ret
  exact ⟨rfl, by first | rfl | trivial⟩
set_option maxHeartbeats 4000000 in
theorem fndN (w : World) : Calls Tryz.prog 17 #[.agg zFnd, .agg zFnd] w fun e w' => e = .returned (.bool true) ∧ Below w.heap.size w w' := by
  obtain ⟨W1, hW1⟩ : ∃ W1, (w.alloc (.cells zFnd 36)).alloc (.cells zFnd 38) = W1 := ⟨_, rfl⟩
  obtain ⟨b1, hb1⟩ : ∃ b, w.heap.size = b := ⟨_, rfl⟩
  obtain ⟨b2, hb2⟩ : ∃ b, b1 + 1 = b := ⟨_, rfl⟩
  have hbl : Below w.heap.size w W1 := by rw [← hW1]; exact ((Below.refl _ w).alloc (Nat.le_refl _) _).alloc (by simp) _
  have hA : BlkIs W1 b1 zFnd 36 := by rw [← hW1, ← hb1]; exact (blkIs_new w _ _).alloc _
  have hB : BlkIs W1 b2 zFnd 38 := by rw [← hW1, ← hb2, ← hb1]; have := blkIs_new (w.alloc (.cells zFnd 36)) zFnd 38; rwa [World.size_alloc] at this
  have HW1 := Lib.hid hW1; have HB := Lib.hid hbl
  have a0 := hA.cell 0 _ rfl
  have a1 := hA.cell 1 _ rfl
  have a2 := hA.cell 2 _ rfl
  have a3 := hA.cell 3 _ rfl
  have z0 := hB.cell 0 _ rfl
  have z1 := hB.cell 1 _ rfl
  have z2 := hB.cell 2 _ rfl
  have z3 := hB.cell 3 _ rfl
  clear hbl hA hB hW1
  go_enter Tryz.func17, Tryz.ntmps17
  go_upto_region 1 with fail
  rw [HW1.out]
  go_wp2_with fail
  refine (txtsN W1).mono ?_
  rintro e w2 ⟨rfl, hw2⟩
  subst hw2
  go_wp2
  go_ret
  exact ⟨rfl, HB.out⟩
set_option maxHeartbeats 8000000 in
theorem shelfNil_any (pth : ByteArray) (i : Int) (l : Wsh) (mm : Int) (w : World) (hx : w.cell? ⟨0, 0, none⟩ = some (.int .i64 mm)) (hg : SgAt w) :
    Calls Tryz.prog 10 #[.string pth, .int .i64 i, .agg (wshC l)] w fun e w' => e = .returned (.bool true) ∧ Below w.heap.size w w' := by
  obtain ⟨W1, hW1⟩ : ∃ W1, w.alloc (.cells (wshC l) 27) = W1 := ⟨_, rfl⟩
  obtain ⟨b1, hb1⟩ : ∃ b, w.heap.size = b := ⟨_, rfl⟩
  have hbl : Below w.heap.size w W1 := by rw [← hW1]; exact (Below.refl _ w).alloc (Nat.le_refl _) _
  have hA : BlkIs W1 b1 (wshC l) 27 := by rw [← hW1, ← hb1]; exact blkIs_new _ _ _
  have HW1 := Lib.hid hW1; have HB1 := Lib.hid (And.intro hbl hA); have HX := Lib.hid (And.intro hx hg)
  have HFN := Lib.hid (fun W => findN pth l W)
  clear hbl hA hW1 hx hg
  obtain ⟨⟨s0, s1, s2, p3, p4, p5⟩, hle⟩ : ∃ l', l = l' := ⟨l, rfl⟩
  subst hle
  go_enter Tryz.func10, Tryz.ntmps10
  go_upto_region 1 with fail
  have HWX := Lib.hid (show w.alloc (.cells #[.string s0, .string s1, .string s2, .bool p3, .bool p4, .bool p5] 27) = W1 from HW1.out)
  try rw [HWX.out]
  try rw [HW1.out]
  go_wp2_with fail
  refine (fileN i W1).mono ?_
  rintro e w2 ⟨rfl, hb2⟩
  obtain ⟨W3, hW3⟩ : ∃ W3, w2.alloc (.cells zFlA 46) = W3 := ⟨_, rfl⟩
  obtain ⟨b2, hbf⟩ : ∃ b, w2.heap.size = b := ⟨_, rfl⟩
  have hb23 : Below w2.heap.size w2 W3 := by rw [← hW3]; exact (Below.refl _ w2).alloc (Nat.le_refl _) _
  have hb13 : Below W1.heap.size W1 W3 := hb2.trans (hb23.mono hb2.size)
  have HB3 := Lib.hid (And.intro (HB1.out.1.trans (hb13.mono HB1.out.1.size)) (And.intro (HB1.out.2.later hb13) (show BlkIs W3 b2 zFlA 46 by rw [← hW3, ← hbf]; exact blkIs_new _ _ _)))
  have HW3 := Lib.hid hW3
  clear hb2 hb23 hb13 hW3
  go_upto_region 3 with fail
  rw [HW3.out]
  go_wp2_with fail
  refine (tagN i W3).mono ?_
  rintro e w4 ⟨rfl, hb4⟩
  have HB4 := Lib.hid (And.intro (HB3.out.1.trans (hb4.mono HB3.out.1.size)) (And.intro (HB3.out.2.1.later hb4) (HB3.out.2.2.later hb4)))
  clear hb4
  go_wp2_with fail
  refine (entN pth w4).mono ?_
  rintro e w5 ⟨rfl, hw5⟩
  subst hw5
  go_wp2_with fail
  refine (awake17_any mm w5 (mx_later (B := 0) HX.out.1 HB4.out.1) (HX.out.2.below HB4.out.1)).mono ?_
  rintro e w6 ⟨rfl, hb6⟩
  have HB6 := Lib.hid (And.intro (HB4.out.1.trans (hb6.mono HB4.out.1.size)) (And.intro (HB4.out.2.1.later hb6) (HB4.out.2.2.later hb6)))
  clear hb6
  go_wp2_with fail
  refine (lenN w6).mono ?_
  rintro e w7 ⟨rfl, hw7⟩
  subst hw7
  have z0 := HB6.out.2.2.cell 0 _ rfl
  have z1 := HB6.out.2.2.cell 1 _ rfl
  have z2 := HB6.out.2.2.cell 2 _ rfl
  have z3 := HB6.out.2.2.cell 3 _ rfl
  have z4 := HB6.out.2.2.cell 4 _ rfl
  have z5 := HB6.out.2.2.cell 5 _ rfl
  go_wp2_with fail
  refine (varN pth w7).mono ?_
  rintro e w8 ⟨rfl, hw8⟩
  subst hw8
  have a0 : w8.cell? ⟨b1, 0, none⟩ = some (.string s0) := HB6.out.2.1.cell 0 _ rfl
  have a1 : w8.cell? ⟨b1, 1, none⟩ = some (.string s1) := HB6.out.2.1.cell 1 _ rfl
  have a2 : w8.cell? ⟨b1, 2, none⟩ = some (.string s2) := HB6.out.2.1.cell 2 _ rfl
  have a3 : w8.cell? ⟨b1, 3, none⟩ = some (.bool p3) := HB6.out.2.1.cell 3 _ rfl
  have a4 : w8.cell? ⟨b1, 4, none⟩ = some (.bool p4) := HB6.out.2.1.cell 4 _ rfl
  have a5 : w8.cell? ⟨b1, 5, none⟩ = some (.bool p5) := HB6.out.2.1.cell 5 _ rfl
  go_wp2_with fail
  refine (HFN.out w8).mono ?_
  rintro e w9 ⟨rfl, hb9⟩
  have HB9 := Lib.hid (HB6.out.1.trans (hb9.mono HB6.out.1.size))
  clear hb9 z0 z1 z2 z3 z4 z5 a0 a1 a2 a3 a4 a5
  go_wp2_with fail
  refine (fndN w9).mono ?_
  rintro e w10 ⟨rfl, hb10⟩
  have HB10 := Lib.hid (HB9.out.trans (hb10.mono HB9.out.size))
  clear hb10
  go_wp2
  go_ret
  exact ⟨rfl, HB10.out⟩
theorem shelfNil_row (pth : ByteArray) (i : Int) (v2 : Value) (l : Wsh) (W : World) (hL : laidMetH Tryz.prog Rows.shelfNilUptoRow.laid W) (hsh : W.ShapedOpen Tryz.prog) (hs : (0 : Nat) ≤ 1) (h2 : WishIn W v2 l) :
    Calls Tryz.prog 10 #[.string pth, .int .i64 i, v2] W fun e W' => e = .returned (.bool true) ∧ Below W.heap.size W W' := by
  obtain ⟨m, hm⟩ := Tryz.laysM145.s1_3 W hsh
  unfold WishIn at h2
  subst h2
  exact shelfNil_any pth i l m W hm (sg_of_laid (l := Rows.shelfNilUptoRow.laid) (by simp [Rows.shelfNilUptoRow]) hL)
end Go.Proofs.YtpdbejeiceodkaaGreatDoor
