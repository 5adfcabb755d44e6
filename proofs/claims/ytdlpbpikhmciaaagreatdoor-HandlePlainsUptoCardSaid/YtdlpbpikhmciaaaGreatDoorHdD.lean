/- strconv.Itoa and the reference's Digits at every int. Conditions: strconv's table holds what the text lays. -/
import Derived.Test.YtdlpbpikhmciaaaGreatDoorShelf
import Derived.Test.YtdlpbpikhmciaaaGreatDoorHdA
import Derived.Lib.ItoaMem
import Derived.Lib.AppendIntMem
namespace Go.Proofs.YtdlpbpikhmciaaaGreatDoor
open Go.RowKit
set_option linter.unusedSimpArgs false
set_option linter.unusedVariables false
set_option maxRecDepth 1000000
def PowAt (w : World) : Prop := Lib.TabIs Tryz.prog w "internal/strconv.uint64pow10" .u64 Lib.pow10Tab
theorem gPow : Tryz.prog.globalNamed "internal/strconv.uint64pow10" = some 1 := by kernel_rfl
theorem PowAt.below {w w' : World} (h : PowAt w) (hb : Below w.heap.size w w') : PowAt w' := by
  unfold PowAt Lib.TabIs at h ⊢
  unfold World.var? at h ⊢
  simp only [gPow, Option.bind_some] at h ⊢
  have lt : 1 < w.heap.size := by
    rcases Nat.lt_or_ge 1 w.heap.size with h1 | h1
    · exact h1
    · rw [Array.getElem?_eq_none h1] at h; cases h
  rw [hb.block 1 lt]
  exact h
theorem oitoa_any (n : Int) (w : World) (h0 : -9223372036854775808 ≤ n) (h1 : n ≤ 9223372036854775807) (h : PowAt w) :
    Calls Tryz.prog 40 #[.int .i64 n] w fun e w' => e = .returned (.string ⟨(Lib.itoa n).toArray⟩) ∧ Below w.heap.size w w' :=
  (Tryz.strconv_Itoa n h0 h1 w h).mono fun e w' ⟨he, k, os, hw⟩ => ⟨he, by rw [hw]; exact Lib.below_grow w.heap.size w (Nat.le_refl _) k os⟩
theorem q_small (n m q : Nat) (hn : n ≤ 9223372036854775807) (hm : m ≤ n) (hq : m / 10 = q) : q ≤ 922337203685477580 := by omega
theorem dec_len20 : ∀ (k n : Nat), n < 10 ^ (k + 1) → (Lib.decDigits n).length ≤ k + 1
  | 0, n, h => by rw [Lib.decDigits, dif_pos (by omega)]; simp
  | k + 1, n, h => by
    rw [Lib.decDigits]
    split
    · simp
    · rw [List.length_append]
      have := dec_len20 k (n / 10) (by rw [Nat.pow_succ] at h; omega)
      simp only [List.length_singleton]
      omega
theorem dec_step (m : Nat) (o : List UInt8) (h0 : m ≠ 0) : Lib.decDigits m ++ o = (if m / 10 = 0 then [] else Lib.decDigits (m / 10)) ++ (UInt8.ofNat (48 + m % 10) :: o) := by
  rw [Lib.decDigits]
  by_cases h : m < 10
  · rw [dif_pos h, if_pos (by omega), Nat.mod_eq_of_lt h]; rfl
  · rw [dif_neg h, if_neg (by omega)]; simp
def DecR (n m : Nat) (o : List UInt8) : Prop := (if m = 0 then [] else Lib.decDigits m) ++ o = Lib.decDigits n
theorem DecR.len {n m : Nat} {o : List UInt8} (h : DecR n m o) (hn : n ≤ 9223372036854775808) : o.length ≤ 20 := by
  have h1 := congrArg List.length h
  rw [List.length_append] at h1
  have := dec_len20 19 n (Nat.lt_of_le_of_lt hn (by decide))
  omega
theorem DecR.step {n m : Nat} {o : List UInt8} (h : DecR n m o) (h0 : m ≠ 0) : DecR n (m / 10) (UInt8.ofNat (48 + m % 10) :: o) := by
  unfold DecR at h ⊢
  rw [if_neg h0, dec_step m o h0] at h
  exact h
theorem digit_cell (d : Nat) (h : d < 10) : IntKind.u8.wrap ((48 + d : Nat) : Int) = ((UInt8.ofNat (48 + d)).toNat : Int) := by
  rw [IntWalk.u8_in _ (by omega)]
  simp; omega
theorem cat_one (c : UInt8) (o : List UInt8) : (⟨#[c]⟩ : ByteArray) ++ (⟨o.toArray⟩ : ByteArray) = ⟨(c :: o).toArray⟩ := by
  refine ba_ext ?_
  simp
theorem w64_small (q : Nat) (h : q ≤ 922337203685477580) : wrap64 (q : Int) = (q : Int) := IntWalk.wrap64_in _ (by omega)
set_option maxHeartbeats 2000000 in
theorem rdigitsN_any (n : Nat) (w : World) (hn : n ≤ 9223372036854775807) :
    Calls Tryz.prog 23 #[.int .i64 (n : Int)] w fun e w' => e = .returned (.string ⟨(Lib.decDigits n).toArray⟩) ∧ Below w.heap.size w w' := by
  by_cases h0 : n = 0
  · subst h0
    have hd : Lib.decDigits 0 = [48] := by rw [Lib.decDigits, dif_pos (by omega)]; rfl
    have HD := Lib.hid hd; clear hd
    go_enter Tryz.func23, Tryz.ntmps23
    go_wp2
    go_ret
    rw [HD.out]
    exact ⟨rfl, Below.refl _ _⟩
  · have b0 : ((n : Int) == 0) = false := by simp; omega
    have k0 : (0 : Int) ≤ (n : Int) := Int.natCast_nonneg _
    have hst : DecR n n [] := by unfold DecR; rw [if_neg h0, List.append_nil]
    have HST := Lib.hid (And.intro hst hn)
    clear hst h0 hn
    go_enter Tryz.func23, Tryz.ntmps23
    go_wp2
    go_loopw [0, 4] (fun mv ov wr => ∃ (m : Nat) (o : List UInt8), mv = .int .i64 m ∧ ov = .string ⟨o.toArray⟩ ∧ m ≤ n ∧ DecR n m o ∧ Below w.heap.size w wr) (fun mv _ _ => (intOf mv).toNat)
    case atStart => exact ⟨n, [], rfl, rfl, Nat.le_refl _, HST.out.1, Below.refl _ _⟩
    case round =>
      obtain ⟨m, o, rfl, rfl, hmn, hR, hb⟩ := hrel
      by_cases hm : m = 0
      · subst hm
        have hf : o = Lib.decDigits n := hR
        have HF := Lib.hid hf; clear hf
        clear hR
        go_wp2
        go_ret
        rw [← HF.out]
        exact ⟨rfl, hb⟩
      · have b1 : ((m : Int) != 0) = true := by simp; omega
        have m0 : (0 : Int) ≤ (m : Int) := Int.natCast_nonneg _
        have hlen := hR.len (Nat.le_trans HST.out.2 (by decide))
        have hR2 := hR.step hm
        obtain ⟨d, hd⟩ : ∃ d, m % 10 = d := ⟨_, rfl⟩
        obtain ⟨q, hq⟩ : ∃ q, m / 10 = q := ⟨_, rfl⟩
        have e1 : (m : Int) % 10 = (d : Int) := by omega
        have e2 : (m : Int) / 10 = (q : Int) := by omega
        have d0 : (0 : Int) ≤ (d : Int) := Int.natCast_nonneg _
        have d1 : (d : Int) < 10 := by omega
        have hdl : d < 10 := by omega
        have hqm : q < m := by omega
        rw [hd, hq] at hR2
        obtain ⟨c, hc⟩ : ∃ c, UInt8.ofNat (48 + d) = c := ⟨_, rfl⟩
        have e4 := digit_cell d hdl
        rw [hc] at e4
        rw [hc] at hR2
        have e3 : IntKind.u8.wrap (48 + (d : Int)) = (c.toNat : Int) := by rw [← e4]; congr 1
        have hcells := cells_new wr 5 (Lib.byteCells [c])
        have hcv := run_str_cells (P := Tryz.prog) (wr.alloc (.cells #[.int .u8 (c.toNat : Int)] 5)) 81 5 Tryz.underlying81 Tryz.underlying5 wr.heap.size 0 1 1 [c] rfl (fun j hj => by
          obtain rfl : j = 0 := by simp at hj; omega
          rw [Lib.cell_of_heap (heap_alloc_new wr _)]; rfl) 9 Tryz.underlying9
        have hz : ¬ 9223372036854775807 < 1 + o.length ∧ ¬ 9223372036854775807 < o.length + 1 := by omega
        have hb2 : Below w.heap.size w (wr.alloc (.cells #[.int .u8 (c.toNat : Int)] 5)) := hb.alloc hb.size _
        have hwq := w64_small q (q_small n m q HST.out.2 hmn hq)
        have hqn : q ≤ n := by omega
        have HX := Lib.hid (And.intro hR2 (And.intro hb2 (And.intro hwq (And.intro hqn hqm))))
        clear hwq hqn hqm hmn
        clear hR hR2 hb2 hd hq hc e4 hcells hm hb
        go_wp2
        refine ⟨⟨q, c :: o, by rw [HX.out.2.2.1], by rw [cat_one], HX.out.2.2.2.1, HX.out.1, HX.out.2.1⟩, ?_⟩
        rw [HX.out.2.2.1]
        have := HX.out.2.2.2.2
        simp [intOf]
        omega
theorem tmod_neg (m d : Nat) (h : m % 10 = d) : (-(m : Int)).tmod 10 = -(d : Int) := by rw [Int.neg_tmod]; congr 1; rw [Int.tmod_eq_emod_of_nonneg (by omega)]; omega
theorem tdiv_neg (m q : Nat) (h : m / 10 = q) : (-(m : Int)).tdiv 10 = -(q : Int) := by rw [Int.neg_tdiv]; congr 1; rw [Int.tdiv_eq_ediv_of_nonneg (by omega)]; omega
theorem w64_neg (q : Nat) (h : q ≤ 922337203685477581) : wrap64 (-(q : Int)) = -(q : Int) := IntWalk.wrap64_in _ (by omega)
theorem q_smallN (n m q : Nat) (hn : n ≤ 9223372036854775808) (hm : m ≤ n) (hq : m / 10 = q) : q ≤ 922337203685477581 := by omega
set_option maxHeartbeats 4000000 in
theorem rdigitsM_any (n : Nat) (w : World) (h0 : 1 ≤ n) (hn : n ≤ 9223372036854775808) :
    Calls Tryz.prog 23 #[.int .i64 (-(n : Int))] w fun e w' => e = .returned (.string ⟨(45 :: Lib.decDigits n).toArray⟩) ∧ Below w.heap.size w w' := by
  obtain ⟨N, hN⟩ : ∃ N : Int, -(n : Int) = N := ⟨_, rfl⟩
  have b0 : (N == 0) = false := by simp; omega
  have b1 : N < 0 := by omega
  have hst : DecR n n [] := by unfold DecR; rw [if_neg (by omega), List.append_nil]
  have HST := Lib.hid (And.intro hst (And.intro hn hN))
  rw [hN]
  clear hst h0 hn hN
  go_enter Tryz.func23, Tryz.ntmps23
  go_wp2
  go_loopw [0, 4] (fun mv ov wr => ∃ (m : Nat) (o : List UInt8), mv = .int .i64 (-(m : Int)) ∧ ov = .string ⟨o.toArray⟩ ∧ m ≤ n ∧ DecR n m o ∧ Below w.heap.size w wr) (fun mv _ _ => (intOf mv).natAbs)
  case atStart => exact ⟨n, [], by rw [HST.out.2.2], rfl, Nat.le_refl _, HST.out.1, Below.refl _ _⟩
  case round =>
    obtain ⟨m, o, rfl, rfl, hmn, hR, hb⟩ := hrel
    by_cases hm : m = 0
    · subst hm
      have hf : o = Lib.decDigits n := hR
      have hlen := hR.len HST.out.2.1
      have hz : ¬ 9223372036854775807 < 1 + o.length := by omega
      have HF := Lib.hid hf; clear hf
      clear hR hlen
      have z0 : (-((0 : Nat) : Int)) = 0 := rfl
      rw [z0]
      clear z0
      go_wp2
      go_ret
      rw [← HF.out]
      exact ⟨by first | rfl | rw [cat_one], hb⟩
    · have m0 : (0 : Int) ≤ (m : Int) := Int.natCast_nonneg _
      have hlen := hR.len HST.out.2.1
      have hR2 := hR.step hm
      obtain ⟨d, hd⟩ : ∃ d, m % 10 = d := ⟨_, rfl⟩
      obtain ⟨q, hq⟩ : ∃ q, m / 10 = q := ⟨_, rfl⟩
      have e1 := tmod_neg m d hd
      have e2 := tdiv_neg m q hq
      have hwq := w64_neg q (q_smallN n m q HST.out.2.1 hmn hq)
      obtain ⟨Z, hZ⟩ : ∃ Z : Int, -(m : Int) = Z := ⟨_, rfl⟩
      obtain ⟨Y, hY⟩ : ∃ Y : Int, -(d : Int) = Y := ⟨_, rfl⟩
      obtain ⟨Q, hQ⟩ : ∃ Q : Int, -(q : Int) = Q := ⟨_, rfl⟩
      have b2 : (Z != 0) = true := by simp; omega
      have hnegY : -Y = (d : Int) := by omega
      have d0 : (0 : Int) ≤ (d : Int) := Int.natCast_nonneg _
      have d1 : (d : Int) < 10 := by omega
      have hdl : d < 10 := by omega
      have hqm : q < m := by omega
      have hqn : q ≤ n := by omega
      rw [hZ, hY] at e1
      rw [hZ, hQ] at e2
      rw [hQ] at hwq
      rw [hd, hq] at hR2
      obtain ⟨c, hc⟩ : ∃ c, UInt8.ofNat (48 + d) = c := ⟨_, rfl⟩
      have e4 := digit_cell d hdl
      rw [hc] at e4
      rw [hc] at hR2
      have e3 : IntKind.u8.wrap (48 + (d : Int)) = (c.toNat : Int) := by rw [← e4]; congr 1
      have hcells := cells_new wr 5 (Lib.byteCells [c])
      have hcv := run_str_cells (P := Tryz.prog) (wr.alloc (.cells #[.int .u8 (c.toNat : Int)] 5)) 81 5 Tryz.underlying81 Tryz.underlying5 wr.heap.size 0 1 1 [c] rfl (fun j hj => by
        obtain rfl : j = 0 := by simp at hj; omega
        rw [Lib.cell_of_heap (heap_alloc_new wr _)]; rfl) 9 Tryz.underlying9
      have hz : ¬ 9223372036854775807 < 1 + o.length ∧ ¬ 9223372036854775807 < o.length + 1 := by omega
      have hb2 : Below w.heap.size w (wr.alloc (.cells #[.int .u8 (c.toNat : Int)] 5)) := hb.alloc hb.size _
      have hms : (intOf (.int .i64 Z)).natAbs = m := by rw [← hZ]; simp [intOf]
      have hmq : (intOf (.int .i64 Q)).natAbs = q := by rw [← hQ]; simp [intOf]
      have HX := Lib.hid (And.intro hR2 (And.intro hb2 (And.intro hwq (And.intro hqn (And.intro hqm (And.intro hQ (And.intro hms hmq)))))))
      rw [hZ]
      by_cases hdz : d = 0
      · have y0 : Y = 0 := by omega
        subst y0
        obtain rfl : c = 48 := by rw [← hc, hdz]; rfl
        have hx48 : ((48 : UInt8).toNat : Int) = 48 := rfl
        rw [hx48] at hcv
        clear hwq hqn hqm hmn hZ hY hQ hms hmq
        clear hR hR2 hb2 hd hq hc e4 e3 hcells hm hb hnegY m0 hdz hdl d0 d1 hx48
        go_wp2
        refine ⟨⟨q, 48 :: o, by rw [HX.out.2.2.1, ← HX.out.2.2.2.2.2.1], by rw [cat_one], HX.out.2.2.2.1, HX.out.1, HX.out.2.1⟩, ?_⟩
        rw [HX.out.2.2.1, HX.out.2.2.2.2.2.2.1, HX.out.2.2.2.2.2.2.2]
        exact HX.out.2.2.2.2.1
      · have y1 : Y < 0 := by omega
        clear hwq hqn hqm hmn hZ hY hQ hms hmq hdz
        clear hR hR2 hb2 hd hq hc e4 hcells hm hb m0
        go_wp2
        refine ⟨⟨q, c :: o, by rw [HX.out.2.2.1, ← HX.out.2.2.2.2.2.1], by rw [cat_one], HX.out.2.2.2.1, HX.out.1, HX.out.2.1⟩, ?_⟩
        rw [HX.out.2.2.1, HX.out.2.2.2.2.2.2.1, HX.out.2.2.2.2.2.2.2]
        exact HX.out.2.2.2.2.1
end Go.Proofs.YtdlpbpikhmciaaaGreatDoor
