/- HdD, RHdN, Qt, RQt: texts of the seat, one behind the other (a claim holds at most sixty). Conditions: each theorem names its own. -/
import Derived.Test.YtdlpbpikhmciaaaGreatDoorPa02
import Derived.Test.YtdlpbpikhmciaaaGreatDoorPk09
import Derived.Lib.ItoaMem
import Derived.Lib.AppendIntMem
import Derived.Test.YtdlpbpikhmciaaaGreatDoorPk03
import Derived.Test.YtdlpbpikhmciaaaGreatDoorPk05
namespace Go.Proofs.YtdlpbpikhmciaaaGreatDoor
open Go.RowKit
set_option linter.unusedSimpArgs false
set_option linter.unusedVariables false
set_option maxRecDepth 1000000
def PowAt (w : World) : Prop := Lib.TabIs Tryz.prog w "internal/strconv.uint64pow10" .u64 Lib.pow10Tab
theorem gPow : Tryz.prog.globalNamed "internal/strconv.uint64pow10" = some 1 := by kernel_rfl
theorem PowAt.below {w w' : World} (h : PowAt w) (hb : Below w.heap.size w w') : PowAt w' := by
  unfold PowAt Lib.TabIs at h ⊢
  unfold World.var? at h ⊢
  simp only [gPow, Option.bind_some] at h ⊢
  have lt : 1 < w.heap.size := by
    rcases Nat.lt_or_ge 1 w.heap.size with h1 | h1
    · exact h1
    · rw [Array.getElem?_eq_none h1] at h; cases h
  rw [hb.block 1 lt]
  exact h
theorem oitoa_any (n : Int) (w : World) (h0 : -9223372036854775808 ≤ n) (h1 : n ≤ 9223372036854775807) (h : PowAt w) :
    Calls Tryz.prog 40 #[.int .i64 n] w fun e w' => e = .returned (.string ⟨(Lib.itoa n).toArray⟩) ∧ Below w.heap.size w w' :=
  (Tryz.strconv_Itoa n h0 h1 w h).mono fun e w' ⟨he, k, os, hw⟩ => ⟨he, by rw [hw]; exact Lib.below_grow w.heap.size w (Nat.le_refl _) k os⟩
theorem q_small (n m q : Nat) (hn : n ≤ 9223372036854775807) (hm : m ≤ n) (hq : m / 10 = q) : q ≤ 922337203685477580 := by omega
theorem dec_len20 : ∀ (k n : Nat), n < 10 ^ (k + 1) → (Lib.decDigits n).length ≤ k + 1
  | 0, n, h => by rw [Lib.decDigits, dif_pos (by omega)]; simp
  | k + 1, n, h => by
    rw [Lib.decDigits]
    split
    · simp
    · rw [List.length_append]
      have := dec_len20 k (n / 10) (by rw [Nat.pow_succ] at h; omega)
      simp only [List.length_singleton]
      omega
theorem dec_step (m : Nat) (o : List UInt8) (h0 : m ≠ 0) : Lib.decDigits m ++ o = (if m / 10 = 0 then [] else Lib.decDigits (m / 10)) ++ (UInt8.ofNat (48 + m % 10) :: o) := by
  rw [Lib.decDigits]
  by_cases h : m < 10
  · rw [dif_pos h, if_pos (by omega), Nat.mod_eq_of_lt h]; rfl
  · rw [dif_neg h, if_neg (by omega)]; simp
def DecR (n m : Nat) (o : List UInt8) : Prop := (if m = 0 then [] else Lib.decDigits m) ++ o = Lib.decDigits n
theorem DecR.len {n m : Nat} {o : List UInt8} (h : DecR n m o) (hn : n ≤ 9223372036854775808) : o.length ≤ 20 := by
  have h1 := congrArg List.length h
  rw [List.length_append] at h1
  have := dec_len20 19 n (Nat.lt_of_le_of_lt hn (by decide))
  omega
theorem DecR.step {n m : Nat} {o : List UInt8} (h : DecR n m o) (h0 : m ≠ 0) : DecR n (m / 10) (UInt8.ofNat (48 + m % 10) :: o) := by
  unfold DecR at h ⊢
  rw [if_neg h0, dec_step m o h0] at h
  exact h
theorem digit_cell (d : Nat) (h : d < 10) : IntKind.u8.wrap ((48 + d : Nat) : Int) = ((UInt8.ofNat (48 + d)).toNat : Int) := by
  rw [IntWalk.u8_in _ (by omega)]
  simp; omega
theorem cat_one (c : UInt8) (o : List UInt8) : (⟨#[c]⟩ : ByteArray) ++ (⟨o.toArray⟩ : ByteArray) = ⟨(c :: o).toArray⟩ := by
  refine ba_ext ?_
  simp
theorem w64_small (q : Nat) (h : q ≤ 922337203685477580) : wrap64 (q : Int) = (q : Int) := IntWalk.wrap64_in _ (by omega)
set_option maxHeartbeats 2000000 in
theorem rdigitsN_any (n : Nat) (w : World) (hn : n ≤ 9223372036854775807) :
    Calls Tryz.prog 23 #[.int .i64 (n : Int)] w fun e w' => e = .returned (.string ⟨(Lib.decDigits n).toArray⟩) ∧ Below w.heap.size w w' := by
  by_cases h0 : n = 0
  · subst h0
    have hd : Lib.decDigits 0 = [48] := by rw [Lib.decDigits, dif_pos (by omega)]; rfl
    have HD := Lib.hid hd; clear hd
    go_enter Tryz.func23, Tryz.ntmps23
    go_wp2
    go_ret
    rw [HD.out]
    exact ⟨rfl, Below.refl _ _⟩
  · have b0 : ((n : Int) == 0) = false := by simp; omega
    have k0 : (0 : Int) ≤ (n : Int) := Int.natCast_nonneg _
    have hst : DecR n n [] := by unfold DecR; rw [if_neg h0, List.append_nil]
    have HST := Lib.hid (And.intro hst hn)
    clear hst h0 hn
    go_enter Tryz.func23, Tryz.ntmps23
    go_wp2
    go_loopw [0, 4] (fun mv ov wr => ∃ (m : Nat) (o : List UInt8), mv = .int .i64 m ∧ ov = .string ⟨o.toArray⟩ ∧ m ≤ n ∧ DecR n m o ∧ Below w.heap.size w wr) (fun mv _ _ => (intOf mv).toNat)
    case atStart => exact ⟨n, [], rfl, rfl, Nat.le_refl _, HST.out.1, Below.refl _ _⟩
    case round =>
      obtain ⟨m, o, rfl, rfl, hmn, hR, hb⟩ := hrel
      by_cases hm : m = 0
      · subst hm
        have hf : o = Lib.decDigits n := hR
        have HF := Lib.hid hf; clear hf
        clear hR
        go_wp2
        go_ret
        rw [← HF.out]
        exact ⟨rfl, hb⟩
      · have b1 : ((m : Int) != 0) = true := by simp; omega
        have m0 : (0 : Int) ≤ (m : Int) := Int.natCast_nonneg _
        have hlen := hR.len (Nat.le_trans HST.out.2 (by decide))
        have hR2 := hR.step hm
        obtain ⟨d, hd⟩ : ∃ d, m % 10 = d := ⟨_, rfl⟩
        obtain ⟨q, hq⟩ : ∃ q, m / 10 = q := ⟨_, rfl⟩
        have e1 : (m : Int) % 10 = (d : Int) := by omega
        have e2 : (m : Int) / 10 = (q : Int) := by omega
        have d0 : (0 : Int) ≤ (d : Int) := Int.natCast_nonneg _
        have d1 : (d : Int) < 10 := by omega
        have hdl : d < 10 := by omega
        have hqm : q < m := by omega
        rw [hd, hq] at hR2
        obtain ⟨c, hc⟩ : ∃ c, UInt8.ofNat (48 + d) = c := ⟨_, rfl⟩
        have e4 := digit_cell d hdl
        rw [hc] at e4
        rw [hc] at hR2
        have e3 : IntKind.u8.wrap (48 + (d : Int)) = (c.toNat : Int) := by rw [← e4]; congr 1
        have hcells := cells_new wr 5 (Lib.byteCells [c])
        have hcv := run_str_cells (P := Tryz.prog) (wr.alloc (.cells #[.int .u8 (c.toNat : Int)] 5)) 81 5 Tryz.underlying81 Tryz.underlying5 wr.heap.size 0 1 1 [c] rfl (fun j hj => by
          obtain rfl : j = 0 := by simp at hj; omega
          rw [Lib.cell_of_heap (heap_alloc_new wr _)]; rfl) 9 Tryz.underlying9
        have hz : ¬ 9223372036854775807 < 1 + o.length ∧ ¬ 9223372036854775807 < o.length + 1 := by omega
        have hb2 : Below w.heap.size w (wr.alloc (.cells #[.int .u8 (c.toNat : Int)] 5)) := hb.alloc hb.size _
        have hwq := w64_small q (q_small n m q HST.out.2 hmn hq)
        have hqn : q ≤ n := by omega
        have HX := Lib.hid (And.intro hR2 (And.intro hb2 (And.intro hwq (And.intro hqn hqm))))
        clear hwq hqn hqm hmn
        clear hR hR2 hb2 hd hq hc e4 hcells hm hb
        go_wp2
        refine ⟨⟨q, c :: o, by rw [HX.out.2.2.1], by rw [cat_one], HX.out.2.2.2.1, HX.out.1, HX.out.2.1⟩, ?_⟩
        rw [HX.out.2.2.1]
        have := HX.out.2.2.2.2
        simp [intOf]
        omega
theorem tmod_neg (m d : Nat) (h : m % 10 = d) : (-(m : Int)).tmod 10 = -(d : Int) := by rw [Int.neg_tmod]; congr 1; rw [Int.tmod_eq_emod_of_nonneg (by omega)]; omega
theorem tdiv_neg (m q : Nat) (h : m / 10 = q) : (-(m : Int)).tdiv 10 = -(q : Int) := by rw [Int.neg_tdiv]; congr 1; rw [Int.tdiv_eq_ediv_of_nonneg (by omega)]; omega
theorem w64_neg (q : Nat) (h : q ≤ 922337203685477581) : wrap64 (-(q : Int)) = -(q : Int) := IntWalk.wrap64_in _ (by omega)
theorem q_smallN (n m q : Nat) (hn : n ≤ 9223372036854775808) (hm : m ≤ n) (hq : m / 10 = q) : q ≤ 922337203685477581 := by omega
set_option maxHeartbeats 4000000 in
theorem rdigitsM_any (n : Nat) (w : World) (h0 : 1 ≤ n) (hn : n ≤ 9223372036854775808) :
    Calls Tryz.prog 23 #[.int .i64 (-(n : Int))] w fun e w' => e = .returned (.string ⟨(45 :: Lib.decDigits n).toArray⟩) ∧ Below w.heap.size w w' := by
  obtain ⟨N, hN⟩ : ∃ N : Int, -(n : Int) = N := ⟨_, rfl⟩
  have b0 : (N == 0) = false := by simp; omega
  have b1 : N < 0 := by omega
  have hst : DecR n n [] := by unfold DecR; rw [if_neg (by omega), List.append_nil]
  have HST := Lib.hid (And.intro hst (And.intro hn hN))
  rw [hN]
  clear hst h0 hn hN
  go_enter Tryz.func23, Tryz.ntmps23
  go_wp2
  go_loopw [0, 4] (fun mv ov wr => ∃ (m : Nat) (o : List UInt8), mv = .int .i64 (-(m : Int)) ∧ ov = .string ⟨o.toArray⟩ ∧ m ≤ n ∧ DecR n m o ∧ Below w.heap.size w wr) (fun mv _ _ => (intOf mv).natAbs)
  case atStart => exact ⟨n, [], by rw [HST.out.2.2], rfl, Nat.le_refl _, HST.out.1, Below.refl _ _⟩
  case round =>
    obtain ⟨m, o, rfl, rfl, hmn, hR, hb⟩ := hrel
    by_cases hm : m = 0
    · subst hm
      have hf : o = Lib.decDigits n := hR
      have hlen := hR.len HST.out.2.1
      have hz : ¬ 9223372036854775807 < 1 + o.length := by omega
      have HF := Lib.hid hf; clear hf
      clear hR hlen
      have z0 : (-((0 : Nat) : Int)) = 0 := rfl
      rw [z0]
      clear z0
      go_wp2
      go_ret
      rw [← HF.out]
      exact ⟨by first | rfl | rw [cat_one], hb⟩
    · have m0 : (0 : Int) ≤ (m : Int) := Int.natCast_nonneg _
      have hlen := hR.len HST.out.2.1
      have hR2 := hR.step hm
      obtain ⟨d, hd⟩ : ∃ d, m % 10 = d := ⟨_, rfl⟩
      obtain ⟨q, hq⟩ : ∃ q, m / 10 = q := ⟨_, rfl⟩
      have e1 := tmod_neg m d hd
      have e2 := tdiv_neg m q hq
      have hwq := w64_neg q (q_smallN n m q HST.out.2.1 hmn hq)
      obtain ⟨Z, hZ⟩ : ∃ Z : Int, -(m : Int) = Z := ⟨_, rfl⟩
      obtain ⟨Y, hY⟩ : ∃ Y : Int, -(d : Int) = Y := ⟨_, rfl⟩
      obtain ⟨Q, hQ⟩ : ∃ Q : Int, -(q : Int) = Q := ⟨_, rfl⟩
      have b2 : (Z != 0) = true := by simp; omega
      have hnegY : -Y = (d : Int) := by omega
      have d0 : (0 : Int) ≤ (d : Int) := Int.natCast_nonneg _
      have d1 : (d : Int) < 10 := by omega
      have hdl : d < 10 := by omega
      have hqm : q < m := by omega
      have hqn : q ≤ n := by omega
      rw [hZ, hY] at e1
      rw [hZ, hQ] at e2
      rw [hQ] at hwq
      rw [hd, hq] at hR2
      obtain ⟨c, hc⟩ : ∃ c, UInt8.ofNat (48 + d) = c := ⟨_, rfl⟩
      have e4 := digit_cell d hdl
      rw [hc] at e4
      rw [hc] at hR2
      have e3 : IntKind.u8.wrap (48 + (d : Int)) = (c.toNat : Int) := by rw [← e4]; congr 1
      have hcells := cells_new wr 5 (Lib.byteCells [c])
      have hcv := run_str_cells (P := Tryz.prog) (wr.alloc (.cells #[.int .u8 (c.toNat : Int)] 5)) 81 5 Tryz.underlying81 Tryz.underlying5 wr.heap.size 0 1 1 [c] rfl (fun j hj => by
        obtain rfl : j = 0 := by simp at hj; omega
        rw [Lib.cell_of_heap (heap_alloc_new wr _)]; rfl) 9 Tryz.underlying9
      have hz : ¬ 9223372036854775807 < 1 + o.length ∧ ¬ 9223372036854775807 < o.length + 1 := by omega
      have hb2 : Below w.heap.size w (wr.alloc (.cells #[.int .u8 (c.toNat : Int)] 5)) := hb.alloc hb.size _
      have hms : (intOf (.int .i64 Z)).natAbs = m := by rw [← hZ]; simp [intOf]
      have hmq : (intOf (.int .i64 Q)).natAbs = q := by rw [← hQ]; simp [intOf]
      have HX := Lib.hid (And.intro hR2 (And.intro hb2 (And.intro hwq (And.intro hqn (And.intro hqm (And.intro hQ (And.intro hms hmq)))))))
      rw [hZ]
      by_cases hdz : d = 0
      · have y0 : Y = 0 := by omega
        subst y0
        obtain rfl : c = 48 := by rw [← hc, hdz]; rfl
        have hx48 : ((48 : UInt8).toNat : Int) = 48 := rfl
        rw [hx48] at hcv
        clear hwq hqn hqm hmn hZ hY hQ hms hmq
        clear hR hR2 hb2 hd hq hc e4 e3 hcells hm hb hnegY m0 hdz hdl d0 d1 hx48
        go_wp2
        refine ⟨⟨q, 48 :: o, by rw [HX.out.2.2.1, ← HX.out.2.2.2.2.2.1], by rw [cat_one], HX.out.2.2.2.1, HX.out.1, HX.out.2.1⟩, ?_⟩
        rw [HX.out.2.2.1, HX.out.2.2.2.2.2.2.1, HX.out.2.2.2.2.2.2.2]
        exact HX.out.2.2.2.2.1
      · have y1 : Y < 0 := by omega
        clear hwq hqn hqm hmn hZ hY hQ hms hmq hdz
        clear hR hR2 hb2 hd hq hc e4 hcells hm hb m0
        go_wp2
        refine ⟨⟨q, c :: o, by rw [HX.out.2.2.1, ← HX.out.2.2.2.2.2.1], by rw [cat_one], HX.out.2.2.2.1, HX.out.1, HX.out.2.1⟩, ?_⟩
        rw [HX.out.2.2.1, HX.out.2.2.2.2.2.2.1, HX.out.2.2.2.2.2.2.2]
        exact HX.out.2.2.2.2.1
end Go.Proofs.YtdlpbpikhmciaaaGreatDoor
namespace Go.Proofs.YtdlpbpikhmciaaaGreatDoor
open Go.RowKit
set_option linter.unusedSimpArgs false
set_option linter.unusedVariables false
set_option maxRecDepth 1000000
set_option maxHeartbeats 4000000 in
theorem risname_any (s : ByteArray) (w : World) (hs : s.size ≤ 1099511627776) :
    Calls Tryz.prog 29 #[.string s] w fun e w' => e = .returned (.bool (isNm s.data.toList)) ∧ w' = w := by
  go_enter Tryz.func29, Tryz.ntmps29
  go_wp2
  go_loopw [3] (fun iv wr => ∃ i : Nat, iv = .int .i64 i ∧ i ≤ s.size ∧ okN i (s.data.toList.drop i) = okN 0 s.data.toList ∧ wr = w) (fun iv _ => s.size - (intOf iv).toNat)
  case atStart => exact ⟨0, rfl, Nat.zero_le _, rfl, rfl⟩
  case round =>
    obtain ⟨i, rfl, hi, hk, rfl⟩ := hrel
    by_cases hlt : i < s.size
    · have hoff := isNm_off s i hlt hk
      have hnxt := okN_next s i hlt hk
      obtain ⟨c, hc⟩ : ∃ c, s[i]'hlt = c := ⟨_, rfl⟩
      rw [hc] at hoff hnxt
      obtain ⟨a, ea⟩ : ∃ a, c.toNat = a := ⟨_, rfl⟩
      have k0 : (0 : Int) ≤ (i : Int) := Int.natCast_nonneg _
      have k1 : (i : Int) < (s.size : Int) := by omega
      have hwi := w64o i (le_oo i s.size hi hs)
      have HK := Lib.hid (And.intro hoff (And.intro hnxt hwi))
      have HEA := Lib.hid ea
      clear hoff hnxt hk hwi
      cases hl : ltN a with
      | true =>
        have hx := HK.out.2.1 (nmC_yes i c a HEA.out (.inl (by unfold ltN at hl; simp at hl; omega)))
        have HX := Lib.hid hx; have HL := Lib.hid hl
        clear hx hl
        go_wp2_with fail
        refine (rletter_any a _).mono ?_
        rintro e w ⟨rfl, rfl⟩
        rw [HL.out]
        go_wp2
        have hwi := HK.out.2.2
        go_roundw
        case rel => (try rw [hwi]); clear hwi; exact ⟨i + 1, by go_num, hlt, HX.out, by first | rfl | trivial⟩
        case measure => (try rw [hwi]); clear hwi; simp [intOf]; omega
      | false =>
        have HL := Lib.hid hl
        by_cases h0 : i = 0
        · have hx := HK.out.1 (nmC_no i c a HEA.out (by unfold ltN at hl; simp at hl; omega))
          have HX := Lib.hid hx
          clear hx hl
          have g0 : ((i : Int) == 0) = true := by simp; omega
          clear h0
          go_wp2_with fail
          refine (rletter_any a _).mono ?_
          rintro e w ⟨rfl, rfl⟩
          rw [HL.out]
          go_wp2
          go_ret
          exact ⟨ret_boolO HX.out.symm, rfl⟩
        · have g0 : ((i : Int) == 0) = false := by simp; omega
          cases hd : dgN a with
          | true =>
            have hx := HK.out.2.1 (nmC_yes i c a HEA.out (.inr (by unfold dgN at hd; simp at hd; omega)))
            have HX := Lib.hid hx; have HD := Lib.hid hd
            clear hx hl hd
            go_wp2_with fail
            refine (rletter_any a _).mono ?_
            rintro e w ⟨rfl, rfl⟩
            rw [HL.out]
            go_wp2_with fail
            refine (rdigit_any a _).mono ?_
            rintro e w ⟨rfl, rfl⟩
            rw [HD.out]
            go_wp2
            have hwi := HK.out.2.2
            go_roundw
            case rel => (try rw [hwi]); clear hwi; exact ⟨i + 1, by go_num, hlt, HX.out, by first | rfl | trivial⟩
            case measure => (try rw [hwi]); clear hwi; simp [intOf]; omega
          | false =>
            have HD := Lib.hid hd
            by_cases h5 : a = 95
            · have hx := HK.out.2.1 (nmC_yes i c a HEA.out (.inr (by omega)))
              have HX := Lib.hid hx
              have g5 : ((a : Int) != 95) = false := by subst h5; rfl
              clear hx hl hd h5
              go_wp2_with fail
              refine (rletter_any a _).mono ?_
              rintro e w ⟨rfl, rfl⟩
              rw [HL.out]
              go_wp2_with fail
              refine (rdigit_any a _).mono ?_
              rintro e w ⟨rfl, rfl⟩
              rw [HD.out]
              go_wp2
              have hwi := HK.out.2.2
              go_roundw
              case rel => (try rw [hwi]); clear hwi; exact ⟨i + 1, by go_num, hlt, HX.out, by first | rfl | trivial⟩
              case measure => (try rw [hwi]); clear hwi; simp [intOf]; omega
            · have hx := HK.out.1 (nmC_no i c a HEA.out (by unfold ltN at hl; unfold dgN at hd; simp at hl hd; omega))
              have HX := Lib.hid hx
              have g5 : ((a : Int) != 95) = true := by simp; omega
              clear hx hl hd h5
              go_wp2_with fail
              refine (rletter_any a _).mono ?_
              rintro e w ⟨rfl, rfl⟩
              rw [HL.out]
              go_wp2_with fail
              refine (rdigit_any a _).mono ?_
              rintro e w ⟨rfl, rfl⟩
              rw [HD.out]
              go_wp2
              go_ret
              exact ⟨ret_boolO HX.out.symm, rfl⟩
    · obtain rfl : i = s.size := by omega
      have hx := isNm_done s hk
      have HX := Lib.hid hx; clear hx hk
      have hd : decide (s.size < s.size) = false := decide_eq_false (Nat.lt_irrefl _)
      go_wp2
      go_ret
      refine ⟨ret_boolO ?_, rfl⟩
      rw [HX.out, ← ByteArray.toList_eq]
end Go.Proofs.YtdlpbpikhmciaaaGreatDoor
namespace Go.Proofs.YtdlpbpikhmciaaaGreatDoor
open Go.RowKit
set_option linter.unusedSimpArgs false
set_option linter.unusedVariables false
set_option maxRecDepth 1000000
/-- A byte of a quoted text. -/
def esc (c : UInt8) : List UInt8 := if c = 34 ∨ c = 92 then [92, c] else [c]
def escL (l : List UInt8) : List UInt8 := l.flatMap esc
def qtL (l : List UInt8) : List UInt8 := 34 :: (escL l ++ [34])
def qtR (l : List UInt8) : List UInt8 × Nat := if isFld l then (qtL l, 0) else ([], 13)
theorem escL_take (l : List UInt8) (i : Nat) (c : UInt8) (h : l[i]? = some c) : escL (l.take (i + 1)) = escL (l.take i) ++ esc c := by
  unfold escL
  rw [List.take_add_one, h, Option.toList_some, List.flatMap_append]
  simp
theorem escL_len (l : List UInt8) : (escL l).length ≤ 2 * l.length := by
  induction l with
  | nil => simp [escL]
  | cons c r ih =>
    have e : escL (c :: r) = esc c ++ escL r := rfl
    have h1 : (esc c).length ≤ 2 := by unfold esc; split <;> simp
    rw [e, List.length_append, List.length_cons]
    omega
theorem qtL_len (l : List UInt8) : (qtL l).length ≤ 2 * l.length + 2 := by
  have := escL_len l
  unfold qtL
  rw [List.length_cons, List.length_append, List.length_singleton]
  omega
theorem esc_take_len (l : List UInt8) (i : Nat) (n : Nat) (hi : i ≤ n) (hn : n ≤ 1099511627776) : (34 :: escL (l.take i)).length + 2 ≤ 140737488355328 := by
  have h1 := escL_len (l.take i)
  have h2 : (l.take i).length ≤ i := by rw [List.length_take]; omega
  rw [List.length_cons]
  omega
theorem writeByte_34 (B b : Nat) (acc : List UInt8) (w : World) (h : Lib.IsBuilder 83 5 B b (Lib.byteCells acc) w) (hlen : acc.length + 1 ≤ 140737488355328) (hBw : B ≤ w.heap.size) :
    Calls Tryz.prog 113 #[.pointer (some ⟨b, 0, none⟩), .int .u8 34] w fun e w' => e = .returned .nilIface ∧ Lib.IsBuilder 83 5 B b (Lib.byteCells (acc ++ [34])) w' ∧ Below B w w' :=
  writeByte_u8 B b acc 34 w h hlen hBw
theorem writeByte_92 (B b : Nat) (acc : List UInt8) (w : World) (h : Lib.IsBuilder 83 5 B b (Lib.byteCells acc) w) (hlen : acc.length + 1 ≤ 140737488355328) (hBw : B ≤ w.heap.size) :
    Calls Tryz.prog 113 #[.pointer (some ⟨b, 0, none⟩), .int .u8 92] w fun e w' => e = .returned .nilIface ∧ Lib.IsBuilder 83 5 B b (Lib.byteCells (acc ++ [92])) w' ∧ Below B w w' :=
  writeByte_u8 B b acc 92 w h hlen hBw
end Go.Proofs.YtdlpbpikhmciaaaGreatDoor
namespace Go.Proofs.YtdlpbpikhmciaaaGreatDoor
open Go.RowKit
set_option linter.unusedSimpArgs false
set_option linter.unusedVariables false
set_option maxRecDepth 1000000
set_option maxHeartbeats 2000000 in
theorem risfield_any (s : ByteArray) (w : World) (hs : s.size ≤ 1099511627776) :
    Calls Tryz.prog 36 #[.string s] w fun e w' => e = .returned (.bool (isFld s.data.toList)) ∧ w' = w := by
  go_enter Tryz.func36, Tryz.ntmps36
  go_wp2
  go_loopw [3] (fun iv wr => ∃ i : Nat, iv = .int .i64 i ∧ i ≤ s.size ∧ (s.data.toList.take i).all isFb = true ∧ wr = w) (fun iv _ => s.size - (intOf iv).toNat)
  case atStart => exact ⟨0, rfl, Nat.zero_le _, rfl, rfl⟩
  case round =>
    obtain ⟨i, rfl, hi, hall, rfl⟩ := hrel
    by_cases hlt : i < s.size
    · obtain ⟨c, hc⟩ : ∃ c, s[i]'hlt = c := ⟨_, rfl⟩
      have hget := list_get s i hlt
      rw [hc] at hget
      have k0 : (0 : Int) ≤ (i : Int) := Int.natCast_nonneg _
      have k1 : (i : Int) < (s.size : Int) := by omega
      have HA := Lib.hid (And.intro hall hget)
      clear hall hget
      cases hst : isFb c with
      | true =>
        have hx := all_take isFb _ i c HA.out.2 HA.out.1 hst
        have HS := Lib.hid (And.intro hx hst)
        clear hx hst
        go_wp2_with fail
        refine (rbyte_any c _).mono ?_
        rintro e w ⟨rfl, rfl⟩
        rw [HS.out.2]
        have hwi := w64o i (le_oo i s.size hi hs)
        go_wp2
        go_roundw
        case rel => (try rw [hwi]); clear hwi; exact ⟨i + 1, by go_num, by omega, HS.out.1, by first | rfl | trivial⟩
        case measure => (try rw [hwi]); clear hwi; simp [intOf]; omega
      | false =>
        have hx : isFld s.data.toList = false := all_not isFb _ i c HA.out.2 hst
        have HS := Lib.hid (And.intro hx hst)
        clear hx hst
        go_wp2_with fail
        refine (rbyte_any c _).mono ?_
        rintro e w ⟨rfl, rfl⟩
        rw [HS.out.2]
        go_wp2
        go_ret
        exact ⟨ret_boolO HS.out.1.symm, rfl⟩
    · obtain rfl : i = s.size := by omega
      have hx : isFld s.data.toList = true := all_full isFb s hall
      have HX := Lib.hid hx; clear hx hall
      have hd : decide (s.size < s.size) = false := decide_eq_false (Nat.lt_irrefl _)
      go_wp2
      go_ret
      exact ⟨ret_boolO HX.out.symm, rfl⟩
theorem ownsRow_one (w : World) (B : Nat) (e : TypeId) (x : Value) (hB : B ≤ w.heap.size) : (w.alloc (.cells #[x] e)).ownsRow B e 1 (.slice (some ⟨w.heap.size, 0, none⟩) 1 1) 1 [x] :=
  ⟨by simp, .inr ⟨w.heap.size, 1, #[x], rfl, hB, heap_alloc_new w _, Nat.le_refl _, by unfold maxLen; omega, rfl, rfl⟩⟩
end Go.Proofs.YtdlpbpikhmciaaaGreatDoor
