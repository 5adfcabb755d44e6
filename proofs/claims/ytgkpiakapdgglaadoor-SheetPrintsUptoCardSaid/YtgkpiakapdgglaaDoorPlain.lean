/- The walks of sheet.plain and turnpikeref15.coded: the text in the form of pairs. Conditions: fewer than 2^40 bytes. -/
import Derived.Test.YtgkpiakapdgglaaDoorStn
import Derived.Test.YtgkpiakapdgglaaDoorRPairs
import Derived.Test.YtgkpiakapdgglaaDoorReg
namespace Go.Proofs.YtgkpiakapdgglaaDoor
open Go.RowKit
set_option linter.unusedSimpArgs false
set_option linter.unusedVariables false
set_option maxRecDepth 1000000
theorem codL_len (l : List UInt8) : (codL l).length ≤ 3 * l.length := by
  induction l with
  | nil => simp [codL]
  | cons c r ih =>
    have e : codL (c :: r) = cod c ++ codL r := by simp [codL]
    rw [e, List.length_append, List.length_cons]
    have : (cod c).length ≤ 3 := by unfold cod; split <;> (try split) <;> simp
    omega
theorem codL_snoc (l : List UInt8) (c : UInt8) : codL (l ++ [c]) = codL l ++ cod c := by simp [codL]
theorem hxU_at (q : Nat) (h : q < (⟨#[48, 49, 50, 51, 52, 53, 54, 55, 56, 57, 65, 66, 67, 68, 69, 70]⟩ : ByteArray).size) : (⟨#[48, 49, 50, 51, 52, 53, 54, 55, 56, 57, 65, 66, 67, 68, 69, 70]⟩ : ByteArray)[q]'h = hxU q := by
  have : ∀ q : Fin 16, (⟨#[48, 49, 50, 51, 52, 53, 54, 55, 56, 57, 65, 66, 67, 68, 69, 70]⟩ : ByteArray)[q.val]'q.isLt = hxU q.val := by decide +kernel
  exact this ⟨q, h⟩
theorem u8_and15 : ∀ n : Fin 256, bits .and .u8 ((n.val : Nat) : Int) 15 = ((n.val % 16 : Nat) : Int) := by decide +kernel
theorem and15b (n : Nat) (h : n < 256) : bits .and .u8 (n : Int) 15 = (n : Int) % 16 := by
  have := u8_and15 ⟨n, h⟩
  simp only at this
  rw [this]; omega
theorem le_codes (k i s : Nat) (h : k ≤ 3 * i) (hi : i < s) (hs : s ≤ 1099511627776) : k + 1 ≤ 140737488355328 ∧ k + 1 + 1 ≤ 140737488355328 ∧ k + 1 + 1 + 1 ≤ 140737488355328 := by omega
set_option maxHeartbeats 2000000 in
theorem plain_any (s : ByteArray) (w : World) (hs : s.size ≤ 1099511627776) :
    Calls Tryd.prog 32 #[.string s] w fun e w' => e = .returned (.string ⟨(codL s.data.toList).toArray⟩) ∧ Below w.heap.size w w' := by
  go_enter Tryd.func32, Tryd.ntmps32
  go_wp2
  go_loopw [8] (fun iv wr => ∃ i : Nat, iv = .int .i64 i ∧ i ≤ s.size ∧ Lib.IsBuilder 78 5 w.heap.size w.heap.size (Lib.byteCells (codL (s.data.toList.take i))) wr ∧ Below w.heap.size w wr)
    (fun iv _ => s.size - (intOf iv).toNat)
  case atStart => exact ⟨0, rfl, Nat.zero_le _, Lib.fresh_isBuilder _ _ w, (Below.refl _ w).alloc (Nat.le_refl _) _⟩
  case round =>
    obtain ⟨i, rfl, hi, hI, hbw⟩ := hrel
    have hwi := wrap64_small i (Nat.le_trans hi (Nat.le_trans hs (by decide)))
    by_cases hlt : i < s.size
    · obtain ⟨c, hc⟩ : ∃ c, s[i]'hlt = c := ⟨_, rfl⟩
      have htk := take_get s i hlt
      rw [hc] at htk
      have hlen := codL_len (s.data.toList.take i)
      rw [List.length_take, size_list, Nat.min_eq_left hi] at hlen
      have hle := le_codes _ i s.size hlen hlt hs
      have hsn : codL (s.data.toList.take (i + 1)) = codL (s.data.toList.take i) ++ cod c := by rw [htk, codL_snoc]
      generalize codL (s.data.toList.take i) = acc at *
      have hBw := hbw.size
      cases hst : stn c with
      | true =>
        have hcd : cod c = [c] := by unfold cod; rw [if_pos hst]
        rw [hcd] at hsn
        have HS := Lib.hid (And.intro hsn hst)
        clear hcd hsn hst htk hlen hwi
        go_wp2_with fail
        refine (stands_any c _).mono ?_
        rintro e w1 ⟨rfl, rfl⟩
        rw [HS.out.2]
        go_wp2_with fail
        refine (writeByte_u8 _ _ _ c _ hI hle.1 hBw).mono ?_
        rintro e w2 ⟨rfl, hI2, hb2⟩
        have hwi := wrap64_small i (Nat.le_trans hi (Nat.le_trans hs (by decide)))
        go_wp2
        go_roundw
        case rel => (try rw [hwi]); clear hwi; exact ⟨i + 1, by go_num, by omega, by rw [HS.out.1]; exact hI2, hbw.trans hb2⟩
        case measure => (try rw [hwi]); clear hwi; simp [intOf]; omega
      | false =>
        by_cases h32 : c = 32
        · subst h32
          have hcd : cod 32 = [43] := by decide
          rw [hcd] at hsn
          have HS := Lib.hid (And.intro hsn hst)
          clear hcd hsn hst htk hlen hwi
          go_wp2_with fail
          refine (stands_any 32 _).mono ?_
          rintro e w1 ⟨rfl, rfl⟩
          rw [HS.out.2]
          go_wp2_with fail
          refine (writeByte_u8 _ _ _ 43 _ hI hle.1 hBw).mono ?_
          rintro e w2 ⟨rfl, hI2, hb2⟩
          have hwi := wrap64_small i (Nat.le_trans hi (Nat.le_trans hs (by decide)))
          go_wp2
          go_roundw
          case rel => (try rw [hwi]); clear hwi; exact ⟨i + 1, by go_num, by omega, by rw [HS.out.1]; exact hI2, hbw.trans hb2⟩
          case measure => (try rw [hwi]); clear hwi; simp [intOf]; omega
        · have hcd : cod c = [37, hxU (c.toNat / 16), hxU (c.toNat % 16)] := by unfold cod; rw [if_neg (by rw [hst]; simp), if_neg h32]
          rw [hcd] at hsn
          have hne : ((c.toNat : Int) == 32) = false := by
            have : c.toNat ≠ 32 := fun e => h32 (UInt8.toNat_inj.1 (by rw [e]; rfl))
            simp; omega
          obtain ⟨n, hn⟩ : ∃ n, c.toNat = n := ⟨_, rfl⟩
          have ln : n < 256 := by rw [← hn]; exact c.toBitVec.isLt
          rw [hn] at hsn
          have HS := Lib.hid (And.intro hsn (And.intro hst (And.intro hn ln)))
          have HNE := Lib.hid hne
          clear hcd hsn hst htk hlen hwi h32 hn ln hne
          go_wp2_with fail
          refine (stands_any c _).mono ?_
          rintro e w1 ⟨rfl, rfl⟩
          rw [HS.out.2.1]
          have hne := HNE.out
          go_wp2_with fail
          refine (writeByte_u8 _ _ _ 37 _ hI hle.1 hBw).mono ?_
          rintro e w2 ⟨rfl, hI2, hb2⟩
          rw [HS.out.2.2.1]
          obtain ⟨q1, hq1⟩ : ∃ q, n / 16 = q := ⟨_, rfl⟩
          obtain ⟨q2, hq2⟩ : ∃ q, n % 16 = q := ⟨_, rfl⟩
          have ln := HS.out.2.2.2
          have e1 : (n : Int) / 16 = (q1 : Int) := by omega
          have e2 : bits .and .u8 (n : Int) 15 = (q2 : Int) := by rw [and15b n ln]; omega
          have a1 : (0 : Int) ≤ (q1 : Int) := by omega
          have a2 : (q1 : Int) < 16 := by omega
          have b1 : (0 : Int) ≤ (q2 : Int) := by omega
          have b2 : (q2 : Int) < 16 := by omega
          have HQ := Lib.hid (And.intro hq1 hq2)
          clear hq1 hq2 ln
          go_wp2_with fail
          refine (writeByte_u8 _ _ _ _ _ hI2 (by rw [List.length_append]; exact hle.2.1) (Nat.le_trans hBw hb2.size)).mono ?_
          rintro e w3 ⟨rfl, hI3, hb3⟩
          rw [hxU_at] at hI3
          go_wp2_with fail
          refine (writeByte_u8 _ _ _ _ _ hI3 (by rw [List.length_append, List.length_append]; exact hle.2.2) (Nat.le_trans hBw (Nat.le_trans hb2.size hb3.size))).mono ?_
          rintro e w4 ⟨rfl, hI4, hb4⟩
          rw [hxU_at] at hI4
          have hwi := wrap64_small i (Nat.le_trans hi (Nat.le_trans hs (by decide)))
          have hfin : acc ++ [37] ++ [hxU q1] ++ [hxU q2] = codL (s.data.toList.take (i + 1)) := by rw [HS.out.1, HQ.out.1, HQ.out.2]; simp
          have HF := Lib.hid hfin
          clear hfin e1 e2
          go_wp2
          go_roundw
          case rel => (try rw [hwi]); clear hwi; exact ⟨i + 1, by go_num, by omega, by rw [← HF.out]; exact hI4, ((hbw.trans hb2).trans hb3).trans hb4⟩
          case measure => (try rw [hwi]); clear hwi; simp [intOf]; omega
    · obtain rfl : i = s.size := by omega
      have hall : s.data.toList.take s.size = s.data.toList := List.take_of_length_le (by rw [size_list]; exact Nat.le_refl _)
      rw [hall] at hI
      clear hall hwi
      have hBw := hbw.size
      go_wp2_with (go_at_call 54; refine (Tryd.Builder_String_any _ _ (codL s.data.toList) _ hI hBw).mono ?_)
      rintro e w1 ⟨rfl, hb1⟩
      go_wp2
      go_ret
      exact ⟨rfl, hbw.trans hb1⟩
theorem u8_div16' (c : UInt8) (q : Nat) (h : c.toNat / 16 = q) : IntKind.u8.wrap ((c.toNat : Int) / 16) = (q : Int) := by
  have h1 : c.toNat < 256 := c.toBitVec.isLt
  rw [IntWalk.u8_in _ (by omega), ← h]; omega
theorem u8_mod16'' (c : UInt8) (q : Nat) (h : c.toNat % 16 = q) : IntKind.u8.wrap ((c.toNat : Int) % 16) = (q : Int) := by
  rw [IntWalk.u8_in _ (by omega), ← h]; omega
theorem u8_div16 (c : UInt8) (q : Nat) (h : c.toNat / 16 = q) : IntKind.u8.wrap ((c.toNat : Int).tdiv 16) = (q : Int) := by
  have h1 : c.toNat < 256 := c.toBitVec.isLt
  rw [IntWalk.u8_quo _ _ (by omega), ← h]; omega
theorem u8_mod16 (c : UInt8) (q : Nat) (h : c.toNat % 16 = q) : IntKind.u8.wrap ((c.toNat : Int).tmod 16) = (q : Int) := by
  have h1 : c.toNat < 256 := c.toBitVec.isLt
  rw [Int.tmod_eq_emod_of_nonneg (by omega), IntWalk.u8_in _ (by omega), ← h]; omega
theorem u8_mod16' (c : UInt8) (q : Nat) (h : c.toNat % 16 = q) : (c.toNat : Int).tmod 16 = (q : Int) := by
  rw [Int.tmod_eq_emod_of_nonneg (by omega), ← h]; omega
theorem not_stn (c : UInt8) (n : Nat) (h : c.toNat = n) (h1 : ltr n = false) (h2 : isDg n = false) (h3 : n ≠ 42) (h4 : n ≠ 45) (h5 : n ≠ 46) (h6 : n ≠ 95) : stn c = false := by
  rw [stn_nat c n h]
  unfold ltr at h1
  unfold isDg at h2
  simp only [decide_eq_false_iff_not] at h1 h2 ⊢
  omega
theorem is_stn1 (c : UInt8) (n : Nat) (h : c.toNat = n) (h1 : ltr n = true) : stn c = true := by
  rw [stn_nat c n h]
  unfold ltr at h1
  simp only [decide_eq_true_eq] at h1 ⊢
  omega
theorem is_stn2 (c : UInt8) (n : Nat) (h : c.toNat = n) (h2 : isDg n = true) : stn c = true := by
  rw [stn_nat c n h]
  unfold isDg at h2
  simp only [decide_eq_true_eq] at h2 ⊢
  omega
theorem ne_u8 (c d : UInt8) (n m : Nat) (h : c.toNat = n) (hd : d.toNat = m) (hn : c ≠ d) : n ≠ m := by
  subst h; subst hd; exact fun e => hn (UInt8.toNat_inj.1 e)
theorem beq_n (n m : Nat) (h : n ≠ m) : ((n : Int) == (m : Int)) = false := by simp; omega
theorem cells3 (c : UInt8) (q1 q2 : Nat) : [Value.int .u8 37, .int .u8 ((hxU q1).toNat : Int), .int .u8 ((hxU q2).toNat : Int)] = Lib.byteCells [37, hxU q1, hxU q2] := rfl
set_option maxHeartbeats 4000000 in
theorem coded_any (s : ByteArray) (w : World) (hs : s.size ≤ 1099511627776) :
    Calls Tryd.prog 34 #[.string s] w fun e w' => e = .returned (.string ⟨(codL s.data.toList).toArray⟩) ∧ Below w.heap.size w w' := by
  obtain ⟨i0, hi0, hz0, hz1, hz2⟩ := info_parts infoByte
  go_enter Tryd.func34, Tryd.ntmps34
  go_wp2
  go_loopw [4, 3] (fun iv v wr => ∃ i : Nat, iv = .int .i64 i ∧ i ≤ s.size ∧ wr.ownsRow w.heap.size 5 1 v (codL (s.data.toList.take i)).length (Lib.byteCells (codL (s.data.toList.take i))) ∧ Below w.heap.size w wr)
    (fun iv _ _ => s.size - (intOf iv).toNat)
  case atStart => exact ⟨0, rfl, Nat.zero_le _, World.ownsRow_made w #[] 0 (Nat.le_refl _) (by simp) rfl, (Below.refl _ w).alloc (Nat.le_refl _) _⟩
  case round =>
    obtain ⟨i, rfl, hi, hown, hbw⟩ := hrel
    by_cases hlt : i < s.size
    · obtain ⟨c, hc⟩ : ∃ c, s[i]'hlt = c := ⟨_, rfl⟩
      have htk := take_get s i hlt
      rw [hc] at htk
      have hlen := codL_len (s.data.toList.take i)
      rw [List.length_take, size_list, Nat.min_eq_left hi] at hlen
      have hle := le_codes _ i s.size hlen hlt hs
      have hsn : codL (s.data.toList.take (i + 1)) = codL (s.data.toList.take i) ++ cod c := by rw [htk, codL_snoc]
      generalize codL (s.data.toList.take i) = acc at *
      obtain ⟨n, hn⟩ : ∃ n, c.toNat = n := ⟨_, rfl⟩
      have hsm : acc.length + 1 ≤ maxLen := by unfold maxLen; exact Nat.le_trans hle.1 (by decide)
      have hsm2 : (acc.length + 1) * 1 ≤ 140737488355328 := by rw [Nat.mul_one]; exact hle.1
      have h3 : acc.length + 3 ≤ 140737488355328 := hle.2.2
      have k0 : (0 : Int) ≤ (i : Int) := Int.natCast_nonneg _
      have k1 : (i : Int) < (s.size : Int) := by omega
      clear htk hlen hle
      by_cases h42 : c = 42
      · subst h42
        have hcd : cod 42 = [42] := by decide
        rw [hcd] at hsn
        have HS := Lib.hid (And.intro hsn trivial); clear hsn hcd hn
        go_wp2_with fail
        refine (isLetter_any 42 _).mono ?_
        rintro e wr ⟨rfl, rfl⟩
        rw [show ltr 42 = false from by decide]
        go_wp2_with fail
        refine (isDigit_any 42 _).mono ?_
        rintro e wr ⟨rfl, rfl⟩
        rw [show isDg 42 = false from by decide]

        go_wp2_with (at_builtin; refine wpList_append_own _ rfl (.tmp 38) (.tmp 40) 66 rfl w.heap.size 5 i0 (.int .u8 0) 1 1 Tryd.underlying66 hi0 hz0 hz1 hz2 rfl (by decide) _ _ _ rfl (hown.alloc _) ⟨wr.heap.size, 0, none⟩ 1 1 [.int .u8 (42)] rfl rfl (cells_new _ _ _) (by simp [Value.oneCell']) hsm hsm2 ?d0 ?_)
        case d0 => simp; exact Nat.le_trans hbw.size (Nat.le_succ _)
        intro v1 w7 hI1 hg7 _
        have hb8 := (hbw.alloc hbw.size _).grown hg7 (by simp; exact Nat.le_trans hbw.size (Nat.le_succ _)) (fun j hj => (hown.lt j hj).1)
        rw [show [Value.int .u8 (42)] = Lib.byteCells [42] from rfl, ← Lib.byteCells_append] at hI1
        have HI1 := Lib.hid hI1; have HB8 := Lib.hid hb8
        clear hI1 hb8 hg7 hown hbw
        have hwi := wrap64_small i (Nat.le_trans hi (Nat.le_trans hs (by decide)))
        go_wp2
        go_roundw
        case rel =>
          (try rw [hwi]); clear hwi
          refine ⟨i + 1, by go_num, by omega, ?_, HB8.out⟩
          rw [HS.out.1, List.length_append]
          exact HI1.out
        case measure => (try rw [hwi]); clear hwi; simp [intOf]; omega
      by_cases h45 : c = 45
      · subst h45
        have hcd : cod 45 = [45] := by decide
        rw [hcd] at hsn
        have HS := Lib.hid (And.intro hsn trivial); clear hsn hcd hn
        go_wp2_with fail
        refine (isLetter_any 45 _).mono ?_
        rintro e wr ⟨rfl, rfl⟩
        rw [show ltr 45 = false from by decide]
        go_wp2_with fail
        refine (isDigit_any 45 _).mono ?_
        rintro e wr ⟨rfl, rfl⟩
        rw [show isDg 45 = false from by decide]

        go_wp2_with (at_builtin; refine wpList_append_own _ rfl (.tmp 38) (.tmp 40) 66 rfl w.heap.size 5 i0 (.int .u8 0) 1 1 Tryd.underlying66 hi0 hz0 hz1 hz2 rfl (by decide) _ _ _ rfl (hown.alloc _) ⟨wr.heap.size, 0, none⟩ 1 1 [.int .u8 (45)] rfl rfl (cells_new _ _ _) (by simp [Value.oneCell']) hsm hsm2 ?d0 ?_)
        case d0 => simp; exact Nat.le_trans hbw.size (Nat.le_succ _)
        intro v1 w7 hI1 hg7 _
        have hb8 := (hbw.alloc hbw.size _).grown hg7 (by simp; exact Nat.le_trans hbw.size (Nat.le_succ _)) (fun j hj => (hown.lt j hj).1)
        rw [show [Value.int .u8 (45)] = Lib.byteCells [45] from rfl, ← Lib.byteCells_append] at hI1
        have HI1 := Lib.hid hI1; have HB8 := Lib.hid hb8
        clear hI1 hb8 hg7 hown hbw
        have hwi := wrap64_small i (Nat.le_trans hi (Nat.le_trans hs (by decide)))
        go_wp2
        go_roundw
        case rel =>
          (try rw [hwi]); clear hwi
          refine ⟨i + 1, by go_num, by omega, ?_, HB8.out⟩
          rw [HS.out.1, List.length_append]
          exact HI1.out
        case measure => (try rw [hwi]); clear hwi; simp [intOf]; omega
      by_cases h46 : c = 46
      · subst h46
        have hcd : cod 46 = [46] := by decide
        rw [hcd] at hsn
        have HS := Lib.hid (And.intro hsn trivial); clear hsn hcd hn
        go_wp2_with fail
        refine (isLetter_any 46 _).mono ?_
        rintro e wr ⟨rfl, rfl⟩
        rw [show ltr 46 = false from by decide]
        go_wp2_with fail
        refine (isDigit_any 46 _).mono ?_
        rintro e wr ⟨rfl, rfl⟩
        rw [show isDg 46 = false from by decide]

        go_wp2_with (at_builtin; refine wpList_append_own _ rfl (.tmp 38) (.tmp 40) 66 rfl w.heap.size 5 i0 (.int .u8 0) 1 1 Tryd.underlying66 hi0 hz0 hz1 hz2 rfl (by decide) _ _ _ rfl (hown.alloc _) ⟨wr.heap.size, 0, none⟩ 1 1 [.int .u8 (46)] rfl rfl (cells_new _ _ _) (by simp [Value.oneCell']) hsm hsm2 ?d0 ?_)
        case d0 => simp; exact Nat.le_trans hbw.size (Nat.le_succ _)
        intro v1 w7 hI1 hg7 _
        have hb8 := (hbw.alloc hbw.size _).grown hg7 (by simp; exact Nat.le_trans hbw.size (Nat.le_succ _)) (fun j hj => (hown.lt j hj).1)
        rw [show [Value.int .u8 (46)] = Lib.byteCells [46] from rfl, ← Lib.byteCells_append] at hI1
        have HI1 := Lib.hid hI1; have HB8 := Lib.hid hb8
        clear hI1 hb8 hg7 hown hbw
        have hwi := wrap64_small i (Nat.le_trans hi (Nat.le_trans hs (by decide)))
        go_wp2
        go_roundw
        case rel =>
          (try rw [hwi]); clear hwi
          refine ⟨i + 1, by go_num, by omega, ?_, HB8.out⟩
          rw [HS.out.1, List.length_append]
          exact HI1.out
        case measure => (try rw [hwi]); clear hwi; simp [intOf]; omega
      by_cases h95 : c = 95
      · subst h95
        have hcd : cod 95 = [95] := by decide
        rw [hcd] at hsn
        have HS := Lib.hid (And.intro hsn trivial); clear hsn hcd hn
        go_wp2_with fail
        refine (isLetter_any 95 _).mono ?_
        rintro e wr ⟨rfl, rfl⟩
        rw [show ltr 95 = false from by decide]
        go_wp2_with fail
        refine (isDigit_any 95 _).mono ?_
        rintro e wr ⟨rfl, rfl⟩
        rw [show isDg 95 = false from by decide]

        go_wp2_with (at_builtin; refine wpList_append_own _ rfl (.tmp 38) (.tmp 40) 66 rfl w.heap.size 5 i0 (.int .u8 0) 1 1 Tryd.underlying66 hi0 hz0 hz1 hz2 rfl (by decide) _ _ _ rfl (hown.alloc _) ⟨wr.heap.size, 0, none⟩ 1 1 [.int .u8 (95)] rfl rfl (cells_new _ _ _) (by simp [Value.oneCell']) hsm hsm2 ?d0 ?_)
        case d0 => simp; exact Nat.le_trans hbw.size (Nat.le_succ _)
        intro v1 w7 hI1 hg7 _
        have hb8 := (hbw.alloc hbw.size _).grown hg7 (by simp; exact Nat.le_trans hbw.size (Nat.le_succ _)) (fun j hj => (hown.lt j hj).1)
        rw [show [Value.int .u8 (95)] = Lib.byteCells [95] from rfl, ← Lib.byteCells_append] at hI1
        have HI1 := Lib.hid hI1; have HB8 := Lib.hid hb8
        clear hI1 hb8 hg7 hown hbw
        have hwi := wrap64_small i (Nat.le_trans hi (Nat.le_trans hs (by decide)))
        go_wp2
        go_roundw
        case rel =>
          (try rw [hwi]); clear hwi
          refine ⟨i + 1, by go_num, by omega, ?_, HB8.out⟩
          rw [HS.out.1, List.length_append]
          exact HI1.out
        case measure => (try rw [hwi]); clear hwi; simp [intOf]; omega
      cases hl : ltr n with
      | true =>
        have hst := is_stn1 c n hn hl
        clear h42 h45 h46 h95
        have hcd : cod c = [c] := by unfold cod; rw [if_pos hst]
        rw [hcd] at hsn
        have HS := Lib.hid (And.intro hsn (And.intro hst hn))
        clear hcd hsn hst hn
        have HL := Lib.hid hl; clear hl
        go_wp2_with fail
        refine (isLetter_any c.toNat _).mono ?_
        rintro e wr ⟨rfl, rfl⟩
        rw [HS.out.2.2, HL.out, ← HS.out.2.2]

        go_wp2_with (at_builtin; refine wpList_append_own _ rfl (.tmp 38) (.tmp 40) 66 rfl w.heap.size 5 i0 (.int .u8 0) 1 1 Tryd.underlying66 hi0 hz0 hz1 hz2 rfl (by decide) _ _ _ rfl (hown.alloc _) ⟨wr.heap.size, 0, none⟩ 1 1 [.int .u8 ((c.toNat : Int))] rfl rfl (cells_new _ _ _) (by simp [Value.oneCell']) hsm hsm2 ?d0 ?_)
        case d0 => simp; exact Nat.le_trans hbw.size (Nat.le_succ _)
        intro v1 w7 hI1 hg7 _
        have hb8 := (hbw.alloc hbw.size _).grown hg7 (by simp; exact Nat.le_trans hbw.size (Nat.le_succ _)) (fun j hj => (hown.lt j hj).1)
        rw [show [Value.int .u8 ((c.toNat : Int))] = Lib.byteCells [c] from byteCells_one _, ← Lib.byteCells_append] at hI1
        have HI1 := Lib.hid hI1; have HB8 := Lib.hid hb8
        clear hI1 hb8 hg7 hown hbw
        have hwi := wrap64_small i (Nat.le_trans hi (Nat.le_trans hs (by decide)))
        go_wp2
        go_roundw
        case rel =>
          (try rw [hwi]); clear hwi
          refine ⟨i + 1, by go_num, by omega, ?_, HB8.out⟩
          rw [HS.out.1, List.length_append]
          exact HI1.out
        case measure => (try rw [hwi]); clear hwi; simp [intOf]; omega

      | false =>
        cases hd : isDg n with
        | true =>
          have hst := is_stn2 c n hn hd
          clear h42 h45 h46 h95
          have hcd : cod c = [c] := by unfold cod; rw [if_pos hst]
          rw [hcd] at hsn
          have HS := Lib.hid (And.intro hsn (And.intro hst hn))
          clear hcd hsn hst hn
          have HL := Lib.hid (And.intro hl hd); clear hl hd
          go_wp2_with fail
          refine (isLetter_any c.toNat _).mono ?_
          rintro e wr ⟨rfl, rfl⟩
          rw [HS.out.2.2, HL.out.1, ← HS.out.2.2]
          go_wp2_with fail
          refine (isDigit_any c.toNat _).mono ?_
          rintro e wr ⟨rfl, rfl⟩
          rw [HS.out.2.2, HL.out.2, ← HS.out.2.2]

          go_wp2_with (at_builtin; refine wpList_append_own _ rfl (.tmp 38) (.tmp 40) 66 rfl w.heap.size 5 i0 (.int .u8 0) 1 1 Tryd.underlying66 hi0 hz0 hz1 hz2 rfl (by decide) _ _ _ rfl (hown.alloc _) ⟨wr.heap.size, 0, none⟩ 1 1 [.int .u8 ((c.toNat : Int))] rfl rfl (cells_new _ _ _) (by simp [Value.oneCell']) hsm hsm2 ?d0 ?_)
          case d0 => simp; exact Nat.le_trans hbw.size (Nat.le_succ _)
          intro v1 w7 hI1 hg7 _
          have hb8 := (hbw.alloc hbw.size _).grown hg7 (by simp; exact Nat.le_trans hbw.size (Nat.le_succ _)) (fun j hj => (hown.lt j hj).1)
          rw [show [Value.int .u8 ((c.toNat : Int))] = Lib.byteCells [c] from byteCells_one _, ← Lib.byteCells_append] at hI1
          have HI1 := Lib.hid hI1; have HB8 := Lib.hid hb8
          clear hI1 hb8 hg7 hown hbw
          have hwi := wrap64_small i (Nat.le_trans hi (Nat.le_trans hs (by decide)))
          go_wp2
          go_roundw
          case rel =>
            (try rw [hwi]); clear hwi
            refine ⟨i + 1, by go_num, by omega, ?_, HB8.out⟩
            rw [HS.out.1, List.length_append]
            exact HI1.out
          case measure => (try rw [hwi]); clear hwi; simp [intOf]; omega

        | false =>
          have n42 := ne_u8 c 42 n 42 hn rfl h42
          have n45 := ne_u8 c 45 n 45 hn rfl h45
          have n46 := ne_u8 c 46 n 46 hn rfl h46
          have n95 := ne_u8 c 95 n 95 hn rfl h95
          have hst := not_stn c n hn hl hd n42 n45 n46 n95
          have b42 : ((c.toNat : Int) == 42) = false := by rw [hn]; exact beq_n n 42 n42
          have b45 : ((c.toNat : Int) == 45) = false := by rw [hn]; exact beq_n n 45 n45
          have b46 : ((c.toNat : Int) == 46) = false := by rw [hn]; exact beq_n n 46 n46
          have b95 : ((c.toNat : Int) == 95) = false := by rw [hn]; exact beq_n n 95 n95
          clear h42 h45 h46 h95 n42 n45 n46 n95
          by_cases h32 : c = 32
          · subst h32
            have hcd : cod 32 = [43] := by decide
            rw [hcd] at hsn
            have HS := Lib.hid (And.intro hsn trivial); clear hsn hcd hn hst b42 b45 b46 b95 hl hd
            go_wp2_with fail
            refine (isLetter_any 32 _).mono ?_
            rintro e wr ⟨rfl, rfl⟩
            rw [show ltr 32 = false from by decide]
            go_wp2_with fail
            refine (isDigit_any 32 _).mono ?_
            rintro e wr ⟨rfl, rfl⟩
            rw [show isDg 32 = false from by decide]

            go_wp2_with (at_builtin; refine wpList_append_own _ rfl (.tmp 44) (.tmp 45) 66 rfl w.heap.size 5 i0 (.int .u8 0) 1 1 Tryd.underlying66 hi0 hz0 hz1 hz2 rfl (by decide) _ _ _ rfl (hown.alloc _) ⟨wr.heap.size, 0, none⟩ 1 1 [.int .u8 (43)] rfl rfl (cells_new _ _ _) (by simp [Value.oneCell']) hsm hsm2 ?d0 ?_)
            case d0 => simp; exact Nat.le_trans hbw.size (Nat.le_succ _)
            intro v1 w7 hI1 hg7 _
            have hb8 := (hbw.alloc hbw.size _).grown hg7 (by simp; exact Nat.le_trans hbw.size (Nat.le_succ _)) (fun j hj => (hown.lt j hj).1)
            rw [show [Value.int .u8 (43)] = Lib.byteCells [43] from rfl, ← Lib.byteCells_append] at hI1
            have HI1 := Lib.hid hI1; have HB8 := Lib.hid hb8
            clear hI1 hb8 hg7 hown hbw
            have hwi := wrap64_small i (Nat.le_trans hi (Nat.le_trans hs (by decide)))
            go_wp2
            go_roundw
            case rel =>
              (try rw [hwi]); clear hwi
              refine ⟨i + 1, by go_num, by omega, ?_, HB8.out⟩
              rw [HS.out.1, List.length_append]
              exact HI1.out
            case measure => (try rw [hwi]); clear hwi; simp [intOf]; omega

          · have hcd : cod c = [37, hxU (c.toNat / 16), hxU (c.toNat % 16)] := by unfold cod; rw [if_neg (by rw [hst]; simp), if_neg h32]
            have b32 : ((c.toNat : Int) == 32) = false := by rw [hn]; exact beq_n n 32 (ne_u8 c 32 n 32 hn rfl h32)
            obtain ⟨q1, hq1⟩ : ∃ q, c.toNat / 16 = q := ⟨_, rfl⟩
            obtain ⟨q2, hq2⟩ : ∃ q, c.toNat % 16 = q := ⟨_, rfl⟩
            have lc : c.toNat < 256 := c.toBitVec.isLt
            rw [hcd, hq1, hq2] at hsn
            have HS := Lib.hid (And.intro hsn (And.intro hst (And.intro hn (And.intro hl (And.intro hd (And.intro hq1 hq2))))))
            have HB := Lib.hid (And.intro b42 (And.intro b45 (And.intro b46 (And.intro b95 b32))))
            have l1 : q1 < 16 := by omega
            have l2 : q2 < 16 := by omega
            clear hcd hsn hst hn hl hd b42 b45 b46 b95 b32 hq1 hq2 h32
            go_wp2_with fail
            refine (isLetter_any c.toNat _).mono ?_
            rintro e wr ⟨rfl, rfl⟩
            rw [HS.out.2.2.1, HS.out.2.2.2.1, ← HS.out.2.2.1]
            go_wp2_with fail
            refine (isDigit_any c.toNat _).mono ?_
            rintro e wr ⟨rfl, rfl⟩
            rw [HS.out.2.2.1, HS.out.2.2.2.2.1, ← HS.out.2.2.1]
            have b42 := HB.out.1
            have b45 := HB.out.2.1
            have b46 := HB.out.2.2.1
            have b95 := HB.out.2.2.2.1
            have b32 := HB.out.2.2.2.2
            have d0 := u8_div16 _ _ HS.out.2.2.2.2.2.1
            have d1 := u8_mod16 _ _ HS.out.2.2.2.2.2.2
            have d2 := u8_mod16'' _ _ HS.out.2.2.2.2.2.2
            have d3 := u8_div16' _ _ HS.out.2.2.2.2.2.1
            have d4 := u8_mod16' _ _ HS.out.2.2.2.2.2.2
            have la0 : (0 : Int) ≤ (q1 : Int) := Int.natCast_nonneg _
            have lb0 : (0 : Int) ≤ (q2 : Int) := Int.natCast_nonneg _
            have la : (q1 : Int) < 16 := by clear d0 d1 d2 d3 d4 b42 b45 b46 b95 b32; omega
            have lb : (q2 : Int) < 16 := by clear d0 d1 d2 d3 d4 b42 b45 b46 b95 b32; omega
            go_wp2
            refine wp_region_text [(0, true), (1, true), (2, true), (3, true), (4, true), (5, true), (6, true), (7, false), (8, false), (9, true)] (by kernel_rfl) (by kernel_rfl) (by kernel_rfl) (by kernel_rfl) ?_
            repeat (refine wpTx_take rfl (by rfl) (v := ?_) ?_ ?_; rotate_left; · (intro w; go_simp; with_reducible rfl))
            refine wpTx_step rfl (fun K hK => ?_)
            go_simp
            refine hK _ _ ?_
            clear hK K
            refine wpTx_step rfl (fun K hK => ?_)
            refine step_append_own rfl (.tmp 47) (.tmp 54) 66 rfl w.heap.size 5 i0 (.int .u8 0) 1 1 Tryd.underlying66 hi0 hz0 hz1 hz2 rfl (by decide) _ _ _ rfl ((hown.drew).alloc _) ⟨wr.heap.size, 0, none⟩ 3 3 [.int .u8 _, .int .u8 _, .int .u8 _] rfl rfl (cells_new _ _ _) (by simp [Value.oneCell']) (Nat.le_trans h3 (by unfold maxLen; decide)) (by rw [Nat.mul_one]; exact h3) (by simp; exact Nat.le_trans hbw.size (Nat.le_succ _)) ?_
            intro v1 w1 hI1 hg1
            refine hK _ _ ?_
            clear hK K
            repeat (refine wpTx_take rfl (by rfl) (v := ?_) ?_ ?_; rotate_left; · (intro w; go_simp; with_reducible rfl))
            refine wpTx_nil ?_
            rw [hxU_at, hxU_at] at hI1
            have hb8 := ((hbw.drew).alloc (by simpa using hbw.size) _).grown hg1 (by simp; exact Nat.le_trans hbw.size (Nat.le_succ _)) (fun j hj => (hown.lt j hj).1)
            rw [cells3 c, ← Lib.byteCells_append] at hI1
            have HI1 := Lib.hid hI1; have HB8 := Lib.hid hb8
            clear hI1 hb8 hg1 hown hbw d0 d1 d2 d3 d4 b42 b45 b46 b95 b32
            have hwi := wrap64_small i (Nat.le_trans hi (Nat.le_trans hs (by decide)))
            go_simp
            go_wp2
            go_roundw
            case rel =>
              (try rw [hwi]); clear hwi
              refine ⟨i + 1, by go_num, by omega, ?_, HB8.out⟩
              rw [HS.out.1, List.length_append]
              exact HI1.out
            case measure => (try rw [hwi]); clear hwi; simp [intOf]; omega
    · obtain rfl : i = s.size := by omega
      have hall : s.data.toList.take s.size = s.data.toList := List.take_of_length_le (by rw [size_list]; exact Nat.le_refl _)
      rw [hall] at hown
      clear hall
      have hcv := run_str_own wr 66 5 Tryd.underlying66 Tryd.underlying5 hown 9 Tryd.underlying9
      have HB := Lib.hid hbw
      clear hown hbw
      go_wp2
      go_ret
      exact ⟨rfl, HB.out⟩
end Go.Proofs.YtgkpiakapdgglaaDoor
