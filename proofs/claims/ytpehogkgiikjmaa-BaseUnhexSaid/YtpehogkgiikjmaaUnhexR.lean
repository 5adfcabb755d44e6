/- The walk of turnpikeref03.Unhex: it returns the plain function unR; nothing that was there turns. Conditions: no text is longer than memory. -/
import Derived.Test.YtpehogkgiikjmaaUnhex
namespace Go.Proofs.Ytpehogkgiikjmaa
open Go.RowKit
set_option linter.unusedSimpArgs false
set_option linter.unusedVariables false
/-- What Digit answers. -/
def dvI (c : UInt8) : Int := match dv c with | some v => (v : Int) | none => -1
theorem dvI_some (c : UInt8) (v : Nat) (h : dv c = some v) : dvI c = v := by unfold dvI; rw [h]
theorem dvI_none (c : UInt8) (h : dv c = none) : dvI c = -1 := by unfold dvI; rw [h]
theorem digit_any (c : UInt8) (w : World) : Calls Try.prog 37 #[.int .u8 (c.toNat : Int)] w fun e w' => e = .returned (.int .i64 (dvI c)) ∧ w = w' := by
  have hc := c.toBitVec.isLt
  have hcc : c.toNat < 256 := hc
  clear hc
  have hd : dv c = if 48 ≤ c.toNat ∧ c.toNat ≤ 57 then some (c.toNat - 48) else if 97 ≤ c.toNat ∧ c.toNat ≤ 102 then some (c.toNat - 87) else none := rfl
  generalize c.toNat = n at hcc hd
  by_cases h1 : 48 ≤ n ∧ n ≤ 57
  · rw [if_pos h1] at hd
    obtain ⟨h1, h2⟩ := h1
    have HD := Lib.hid hd; clear hd
    have e1 : (48 : Int) ≤ (n : Int) := by omega
    have e2 : (n : Int) ≤ 57 := by omega
    have e3 := IntWalk.u8_in ((n : Int) - 48) (by omega)
    go_enter Try.func37, Try.ntmps37
    go_wp2
    go_ret
    exact ⟨ret_int (by rw [dvI_some _ _ HD.out]; omega), rfl⟩
  · rw [if_neg h1] at hd
    by_cases h2 : 97 ≤ n ∧ n ≤ 102
    · rw [if_pos h2] at hd
      obtain ⟨h3, h4⟩ := h2
      have HD := Lib.hid hd; clear hd h1
      have e1 : (48 : Int) ≤ (n : Int) := by omega
      have e2 : ¬ (n : Int) ≤ 57 := by omega
      have e3 : (97 : Int) ≤ (n : Int) := by omega
      have e4 : (n : Int) ≤ 102 := by omega
      go_enter Try.func37, Try.ntmps37
      go_wp2
      go_ret
      exact ⟨ret_int (by rw [dvI_some _ _ HD.out]; omega), rfl⟩
    · rw [if_neg h2] at hd
      have HD := Lib.hid hd; clear hd
      by_cases k1 : 48 ≤ n
      · have k2 : ¬ n ≤ 57 := fun h => h1 ⟨k1, h⟩
        have e1 : (48 : Int) ≤ (n : Int) := by omega
        have e2 : ¬ (n : Int) ≤ 57 := by omega
        by_cases k3 : 97 ≤ n
        · have k4 : ¬ n ≤ 102 := fun h => h2 ⟨k3, h⟩
          have e3 : (97 : Int) ≤ (n : Int) := by omega
          have e4 : ¬ (n : Int) ≤ 102 := by omega
          clear h1 h2
          go_enter Try.func37, Try.ntmps37
          go_wp2
          go_ret
          exact ⟨ret_int (by rw [dvI_none _ HD.out]), rfl⟩
        · have e3 : ¬ (97 : Int) ≤ (n : Int) := by omega
          clear h1 h2
          go_enter Try.func37, Try.ntmps37
          go_wp2
          go_ret
          exact ⟨ret_int (by rw [dvI_none _ HD.out]), rfl⟩
      · have e1 : ¬ (48 : Int) ≤ (n : Int) := by omega
        have e3 : ¬ (97 : Int) ≤ (n : Int) := by omega
        clear h1 h2
        go_enter Try.func37, Try.ntmps37
        go_wp2
        go_ret
        exact ⟨ret_int (by rw [dvI_none _ HD.out]), rfl⟩
theorem digit_yes (c : UInt8) (h : (dv c).isSome = true) (w : World) : Calls Try.prog 37 #[.int .u8 (c.toNat : Int)] w fun e w' => e = .returned (.int .i64 (dvn c : Nat)) ∧ w = w' := by
  refine (digit_any c w).mono ?_
  rintro e w' ⟨rfl, rfl⟩
  exact ⟨by rw [dvI_some _ _ (dv_some c h)], rfl⟩
theorem digit_no (c : UInt8) (h : (dv c).isSome = false) (w : World) : Calls Try.prog 37 #[.int .u8 (c.toNat : Int)] w fun e w' => e = .returned (.int .i64 (-1)) ∧ w = w' := by
  refine (digit_any c w).mono ?_
  rintro e w' ⟨rfl, rfl⟩
  refine ⟨?_, rfl⟩
  cases hd : dv c with
  | none => rw [dvI_none _ hd]
  | some v => rw [hd] at h; cases h
theorem digs_get (l : List UInt8) (h : digs l = true) (k : Nat) (hk : k < l.length) : (dv l[k]).isSome = true := List.all_eq_true.1 h _ (List.getElem_mem hk)
set_option maxRecDepth 100000 in
set_option maxHeartbeats 1000000 in
theorem runhex_any (s : ByteArray) (w : World) (hs : s.size ≤ 140737488351232) :
    Calls Try.prog 21 #[.string s] w fun e w' => e = .returned (.tuple #[.string ⟨(unR s.data.toList).1.toArray⟩, .int .i64 (unR s.data.toList).2.1, .int .i64 (unR s.data.toList).2.2]) ∧ Below w.heap.size w w' := by
  obtain ⟨i0, hi, hz0, hz1, hz2⟩ := info_parts infoByte
  have hsl := size_list s
  go_enter Try.func21, Try.ntmps21
  go_wp2
  go_loop [5] (fun i => ∃ (k : Nat), i = .int .i64 k ∧ k ≤ s.size ∧ digs (s.data.toList.take k) = true) (fun i => s.size - (intOf i).toNat)
  case atStart => exact ⟨0, rfl, Nat.zero_le _, rfl⟩
  case round =>
    obtain ⟨k, rfl, hk, hdg⟩ := hrel
    by_cases hlt : k < s.size
    · have ht := take_get s k hlt
      cases hd : (dv (s[k]'hlt)).isSome with
      | false =>
        have hR := unR_bad s.data.toList k (by omega) hdg hd
        have HR := Lib.hid hR; have HD := Lib.hid hd; have HG := Lib.hid hdg; clear hR hd hdg ht hsl
        go_wp2_with fail
        refine (digit_no _ HD.out _).mono ?_
        rintro e w1 ⟨rfl, rfl⟩
        go_wp2
        go_ret3
        rw [HR.out]
        exact ⟨rfl, Below.refl _ _⟩
      | true =>
        have hdg2 : digs (s.data.toList.take (k + 1)) = true := by rw [ht, digs_snoc, hdg, hd]; rfl
        have HD := Lib.hid hd; have HG := Lib.hid hdg; have HT := Lib.hid ht; have HG2 := Lib.hid hdg2; clear hd hdg ht hsl hdg2
        go_wp2_with fail
        refine (digit_yes _ HD.out _).mono ?_
        rintro e w1 ⟨rfl, rfl⟩
        go_wp2
        go_round
        case rel => exact ⟨k + 1, by go_num, by omega, HG2.out⟩
        case measure => simp [intOf]; omega
    · have hall : s.data.toList.take k = s.data.toList := List.take_of_length_le (by omega)
      rw [hall] at hdg
      rcases Nat.mod_two_eq_zero_or_one s.size with hp | hp
      · have hR := unR_ok s.data.toList hdg (by omega)
        have hpI : (((s.size : Int) % 2) != 0) = false := by rw [bne_eq_false_iff_eq]; omega
        have HR := Lib.hid hR; have HG := Lib.hid hdg; have HP := Lib.hid hp; have HL := Lib.hid hsl; clear hR hdg hsl hp hall
        go_wp2
        go_loopw [6, 7] (fun v i wr => ∃ (j : Nat), i = .int .i64 j ∧ j ≤ s.size ∧ j % 2 = 0 ∧ wr.ownsRow w.heap.size 5 1 v (unB (s.data.toList.take j)).length (Lib.byteCells (unB (s.data.toList.take j))) ∧ Below w.heap.size w wr)
          (fun _ i _ => s.size - (intOf i).toNat)
        case atStart => exact ⟨0, rfl, Nat.zero_le _, rfl, World.ownsRow_made w #[] 0 (Nat.le_refl _) (by simp) rfl, (Below.refl _ w).alloc (Nat.le_refl _) _⟩
        case round =>
          obtain ⟨j, rfl, hj, hj2, hI, hbw⟩ := hrel
          have hbs := hbw.size
          by_cases hjl : j < s.size
          · have hj1 : j + 1 < s.size := by have := HP.out; omega
            have htl : (s.data.toList.take j).length = j := by rw [List.length_take, HL.out]; omega
            have hB : unB (s.data.toList.take (j + 2)) = unB (s.data.toList.take j) ++ [UInt8.ofNat (dvn (s[j]'hjl) * 16 + dvn (s[j + 1]'hj1))] := by
              rw [take_get s (j + 1) hj1, take_get s j hjl, unB_two _ _ _ (by rw [htl]; exact hj2)]
            have hle := unB_len (s.data.toList.take j)
            rw [htl] at hle
            have hda := digs_get _ HG.out j (by rw [HL.out]; exact hjl)
            have hdb := digs_get _ HG.out (j + 1) (by rw [HL.out]; exact hj1)
            have HDA : Hid ((dv (s[j]'hjl)).isSome = true) := Lib.hid hda
            have HDB : Hid ((dv (s[j + 1]'hj1)).isSome = true) := Lib.hid hdb
            clear hda hdb htl
            have l1 := dvn_lt (s[j]'hjl)
            have l2 := dvn_lt (s[j + 1]'hj1)
            obtain ⟨da, hda⟩ : ∃ n, dvn (s[j]'hjl) = n := ⟨_, rfl⟩
            obtain ⟨db, hdb⟩ : ∃ n, dvn (s[j + 1]'hj1) = n := ⟨_, rfl⟩
            rw [hda, hdb] at hB
            rw [hda] at l1
            rw [hdb] at l2
            have e0 := IntWalk.i64_in (16 * (da : Int)) (by omega)
            have e1 := IntWalk.i64_in (16 * (da : Int) + (db : Int)) (by omega)
            have e2 : IntKind.u8.wrap (16 * (da : Int) + (db : Int)) = ((UInt8.ofNat (da * 16 + db)).toNat : Int) := by
              have := u_wrap (da * 16 + db) (by omega)
              rw [← this]; congr 1; omega
            generalize UInt8.ofNat (da * 16 + db) = cx at hB e2
            have z0 : (0 : Int) ≤ (j : Int) := Int.natCast_nonneg _
            have z1 : (j : Int) < (s.size : Int) := by omega
            have z2 : IntKind.i64.wrap ((j : Int) + 1) = (j : Int) + 1 := IntWalk.i64_in _ (by omega)
            have z3 : (j : Int) + 1 < (s.size : Int) := by omega
            have z4 : (0 : Int) ≤ (j : Int) + 1 := by omega
            have z5 : ((j : Int) + 1).toNat = j + 1 := by omega
            have HB := Lib.hid hB; have H2 := Lib.hid hj2; have HXA := Lib.hid hda; have HXB := Lib.hid hdb; clear hB hj2 hda hdb
            go_wp2
            refine wp_region_text [(0, true), (1, true), (2, true), (3, true), (6, true), (7, true), (8, true), (9, true), (4, false), (5, true), (10, false), (11, true), (12, true), (13, false), (14, false), (15, true)] (by kernel_rfl) (by kernel_rfl) (by kernel_rfl) (by kernel_rfl) ?_
            repeat (refine wpTx_take rfl (by rfl) (v := ?_) ?_ ?_; rotate_left; · (intro w; go_simp; with_reducible rfl))
            refine wpTx_step rfl (fun K hK => ?_)
            go_simp
            refine (digit_yes _ HDA.out _).mono ?_
            rintro e w1 ⟨rfl, rfl⟩
            refine hK _ _ ?_
            clear hK K
            rw [HXA.out]
            repeat (refine wpTx_take rfl (by rfl) (v := ?_) ?_ ?_; rotate_left; · (intro w; go_simp; with_reducible rfl))
            refine wpTx_step rfl (fun K hK => ?_)
            go_simp
            refine (digit_yes _ HDB.out _).mono ?_
            rintro e w1 ⟨rfl, rfl⟩
            refine hK _ _ ?_
            clear hK K
            rw [HXB.out]
            repeat (refine wpTx_take rfl (by rfl) (v := ?_) ?_ ?_; rotate_left; · (intro w; go_simp; with_reducible rfl))
            refine wpTx_step rfl (fun K hK => ?_)
            go_simp
            refine hK _ _ ?_
            clear hK K
            refine wpTx_step rfl (fun K hK => ?_)
            refine step_append_own rfl (.tmp 33) (.tmp 46) 27 rfl w.heap.size 5 i0 (.int .u8 0) 1 1 Try.underlying27 hi hz0 hz1 hz2 rfl (by decide) _ _ _ rfl ((hI.drew).alloc _) ⟨wr.heap.size, 0, none⟩ 1 1 (Lib.byteCells [cx]) rfl rfl (cells_new _ _ _) (byteCells_oneCell _) (by unfold maxLen; omega) (by omega) (by simp; omega) ?_
            intro v1 w1 hI1 hg1
            refine hK _ _ ?_
            clear hK K
            rw [← Lib.byteCells_append] at hI1
            have hb1 := ((hbw.drew).alloc (by simpa using hbs) _).grown hg1 (by simp; omega) (fun j hj => (hI.lt j hj).1)
            clear hg1
            repeat (refine wpTx_take rfl (by rfl) (v := ?_) ?_ ?_; rotate_left; · (intro w; go_simp; with_reducible rfl))
            refine wpTx_nil ?_
            go_simp
            go_wp2
            go_roundw
            case rel => exact ⟨j + 2, by go_num, by omega, by have := H2.out; omega, by rw [HB.out]; simpa using hI1, hb1⟩
            case measure => simp [intOf]; omega
          · have hall : s.data.toList.take j = s.data.toList := List.take_of_length_le (by rw [HL.out]; omega)
            rw [hall] at hI
            have hcv := run_str_own wr 27 5 Try.underlying27 Try.underlying5 hI 9 Try.underlying9
            clear hall
            have H2 := Lib.hid hj2; clear hj2
            go_wp2
            go_ret3
            rw [HR.out]
            exact ⟨rfl, hbw⟩
      · have hR := unR_odd s.data.toList hdg (by omega)
        have hpI : (((s.size : Int) % 2) != 0) = true := by rw [bne_iff_ne]; omega
        have HR := Lib.hid hR; have HG := Lib.hid hdg; have HP := Lib.hid hp; have HL := Lib.hid hsl; clear hR hdg hsl hp hall
        go_wp2
        go_ret3
        rw [HR.out]
        exact ⟨tup3 rfl (by rw [HL.out]; rfl) rfl, Below.refl _ _⟩
end Go.Proofs.Ytpehogkgiikjmaa
