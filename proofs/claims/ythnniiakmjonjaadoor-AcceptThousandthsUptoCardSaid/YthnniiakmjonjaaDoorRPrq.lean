/- The walk of turnpikeref07.PrintQuality: the plain function pqR. No conditions. -/
import Derived.Test.YthnniiakmjonjaaDoorPrq
namespace Go.Proofs.YthnniiakmjonjaaDoor
open Go.RowKit
set_option linter.unusedSimpArgs false
set_option linter.unusedVariables false
set_option maxRecDepth 1000000
def tri (n : Nat) : List UInt8 := [48, 46, UInt8.ofNat (48 + n / 100), UInt8.ofNat (48 + n / 10 % 10), UInt8.ofNat (48 + n % 10)]
theorem tri_eq : ∀ n : Fin 1000, (48 :: 46 :: (Lib.decDigits (1000 + n.val)).drop 1 == tri n.val) = true := by decide +kernel
theorem pr_tri : ∀ n : Fin 1000, (n.val == 0 || prL n.val == Lib.trimRightB (tri n.val) 48) = true := by decide +kernel
theorem pr_zero : prL 0 = [48] := by kernel_rfl
theorem cell_10 (d : Nat) (h : d < 10) : IntKind.u8.wrap ((48 : Int) + (d : Int)) = ((UInt8.ofNat (48 + d)).toNat : Int) := by
  rw [show (48 : Int) + (d : Int) = ((48 + d : Nat) : Int) from by omega, IntWalk.u8_in _ (by omega)]
  simp; omega
theorem trimR_last (l : List UInt8) (c : UInt8) : Lib.trimRightB (l ++ [c]) c = Lib.trimRightB l c := by
  unfold Lib.trimRightB; rw [List.reverse_append]; simp
theorem trimR_stop (l : List UInt8) (c d : UInt8) (h : d ≠ c) : Lib.trimRightB (l ++ [d]) c = l ++ [d] := by
  unfold Lib.trimRightB; rw [List.reverse_append]; simp [h]
theorem take_last (T : List UInt8) (k : Nat) (c : UInt8) (h : T[k]? = some c) : T.take (k + 1) = T.take k ++ [c] := by
  rw [List.take_add_one, h]; rfl
set_option maxHeartbeats 4000000 in
theorem rprq_any (q : Int) (w : World) :
    Calls Tryd.prog 47 #[.int .i64 q] w fun e w' => e = .returned (.tuple #[.string ⟨(pqR q).1.toArray⟩, .int .i64 ((pqR q).2 : Nat)]) ∧ Below w.heap.size w w' := by
  have hb0 := (Below.refl w.heap.size w).alloc (Nat.le_refl _) (.cells #[.string ⟨#[48]⟩, .string ⟨#[49]⟩] 9)
  have HB0 := Lib.hid hb0
  clear hb0
  by_cases hb : q < 0 ∨ 1000 < q
  · have HR := Lib.hid (show pqR q = ([], 71) from by unfold pqR; rw [if_pos hb])
    have hw : q < 0 ∨ (0 ≤ q ∧ 1000 < q) := by omega
    clear hb
    rcases hw with h1 | ⟨h1, h2⟩
    all_goals
      go_enter Tryd.func47, Tryd.ntmps47
      go_wp2
      go_ret2
      rw [HR.out]
      exact ⟨rfl, Below.refl _ _⟩
  · have h0 : 0 ≤ q := by omega
    have h1 : q ≤ 1000 := by omega
    by_cases hk : q = 1000
    · have HR := Lib.hid (show pqR q = ([49], 0) from by unfold pqR; rw [if_neg hb, if_pos hk])
      subst hk
      clear hb
      go_enter Tryd.func47, Tryd.ntmps47
      go_wp2
      go_ret2
      rw [HR.out]
      exact ⟨rfl, HB0.out⟩
    · by_cases hz : q = 0
      · have HR := Lib.hid (show pqR q = ([48], 0) from by
          unfold pqR
          rw [if_neg hb, if_neg hk, hz, show (0 : Int).toNat = 0 from rfl, pr_zero])
        subst hz
        clear hb
        go_enter Tryd.func47, Tryd.ntmps47
        go_wp2
        go_ret2
        rw [HR.out]
        exact ⟨rfl, HB0.out⟩
      · obtain ⟨n, rfl⟩ : ∃ n : Nat, q = (n : Int) := ⟨q.toNat, by omega⟩
        have hn : n < 1000 := by omega
        have hn0 : n ≠ 0 := by omega
        have hpt := pr_tri ⟨n, hn⟩
        rw [Bool.or_eq_true, beq_iff_eq, beq_iff_eq] at hpt
        have hpt2 : prL n = Lib.trimRightB (tri n) 48 := hpt.resolve_left hn0
        have hR : pqR (n : Int) = (prL n, 0) := by unfold pqR; rw [if_neg hb, if_neg hk]; rfl
        obtain ⟨x, hx⟩ : ∃ x, n / 100 = x := ⟨_, rfl⟩
        obtain ⟨mm, hm⟩ : ∃ mm, n / 10 = mm := ⟨_, rfl⟩
        obtain ⟨y, hy⟩ : ∃ y, mm % 10 = y := ⟨_, rfl⟩
        obtain ⟨z, hzz⟩ : ∃ z, n % 10 = z := ⟨_, rfl⟩
        have e0 : (n : Int) % 1000 = (n : Int) := by omega
        have e1 : (n : Int) / 100 = (x : Int) := by omega
        have e2 : (n : Int) / 10 = (mm : Int) := by omega
        have e3 : (mm : Int) % 10 = (y : Int) := by omega
        have e4 : (n : Int) % 10 = (z : Int) := by omega
        have bz : ((n : Int) == 0) = false := by simp; omega
        have x0 : (0 : Int) ≤ (x : Int) := Int.natCast_nonneg _
        have x1 : (x : Int) < 10 := by omega
        have y0 : (0 : Int) ≤ (y : Int) := Int.natCast_nonneg _
        have y1 : (y : Int) < 10 := by omega
        have z0 : (0 : Int) ≤ (z : Int) := Int.natCast_nonneg _
        have z1 : (z : Int) < 10 := by omega
        have m0 : (0 : Int) ≤ (mm : Int) := Int.natCast_nonneg _
        have n0 : (0 : Int) ≤ (n : Int) := Int.natCast_nonneg _
        obtain ⟨c1, hc1⟩ : ∃ c, UInt8.ofNat (48 + x) = c := ⟨_, rfl⟩
        obtain ⟨c2, hc2⟩ : ∃ c, UInt8.ofNat (48 + y) = c := ⟨_, rfl⟩
        obtain ⟨c3, hc3⟩ : ∃ c, UInt8.ofNat (48 + z) = c := ⟨_, rfl⟩
        have u1 := cell_10 x (by omega)
        have u2 := cell_10 y (by omega)
        have u3 := cell_10 z (by omega)
        rw [hc1] at u1
        rw [hc2] at u2
        rw [hc3] at u3
        have htri : tri n = [48, 46, c1, c2, c3] := by unfold tri; rw [hx, hm, hy, hzz, hc1, hc2, hc3]
        rw [htri] at hpt2
        have HP := Lib.hid (And.intro hpt2 hR)
        clear hpt hpt2 hR htri hx hm hy hzz hc1 hc2 hc3 hb hk hz hn hn0
        obtain ⟨T, hT⟩ : ∃ T : List UInt8, [48, 46, c1, c2, c3] = T := ⟨_, rfl⟩
        have hcat : (⟨#[48, 46]⟩ : ByteArray) ++ (⟨#[c1, c2, c3]⟩ : ByteArray) = ⟨T.toArray⟩ := by rw [← hT]; rfl
        have hsz : (w.alloc (.cells #[.string ⟨#[48]⟩, .string ⟨#[49]⟩] 9)).heap.size = w.heap.size + 1 := by simp
        have hcv := run_str_cells (P := Tryd.prog) ((w.alloc (.cells #[.string ⟨#[48]⟩, .string ⟨#[49]⟩] 9)).alloc (.cells #[.int .u8 (c1.toNat : Int), .int .u8 (c2.toNat : Int), .int .u8 (c3.toNat : Int)] 5)) 138 5 Tryd.underlying138 Tryd.underlying5 (w.heap.size + 1) 0 3 3 [c1, c2, c3] rfl (fun j hj => by
          rw [← hsz, Lib.cell_of_heap (heap_alloc_new _ _)]
          match j, hj with
          | 0, _ => rfl
          | 1, _ => rfl
          | 2, _ => rfl) 9 Tryd.underlying9
        have hTl : T.length = 5 := by rw [← hT]; rfl
        have hT1 : T[1]? = some 46 := by rw [← hT]; rfl
        have hbb : Below w.heap.size w ((w.alloc (.cells #[.string ⟨#[48]⟩, .string ⟨#[49]⟩] 9)).alloc (.cells #[.int .u8 (c1.toNat : Int), .int .u8 (c2.toNat : Int), .int .u8 (c3.toNat : Int)] 5)) := HB0.out.alloc HB0.out.size _
        have HTT := Lib.hid (And.intro hT (And.intro hTl (And.intro hT1 hbb)))
        clear hsz hT hTl hT1 hbb
        go_enter Tryd.func47, Tryd.ntmps47
        go_wp2
        go_loopw [5] (fun v wr => ∃ (k : Nat) (U : List UInt8), v = .string ⟨U.toArray⟩ ∧ U = T.take k ∧ 2 ≤ k ∧ k ≤ 5 ∧ Lib.trimRightB U 48 = Lib.trimRightB T 48 ∧ Below w.heap.size w wr) (fun v _ => match v with | .string t => t.size | _ => 0)
        case atStart => exact ⟨5, T, rfl, (List.take_of_length_le (by rw [HTT.out.2.1]; exact Nat.le_refl _)).symm, by decide, Nat.le_refl _, rfl, HTT.out.2.2.2⟩
        case round =>
          clear hcv hcat
          obtain ⟨k, U, rfl, hU, h2, h5, htr, hbw⟩ := hrel
          obtain ⟨j, rfl⟩ : ∃ j, k = j + 1 := ⟨k - 1, by omega⟩
          have hjl : j < T.length := by rw [HTT.out.2.1]; omega
          obtain ⟨c, hc⟩ : ∃ c, T[j]? = some c := ⟨_, List.getElem?_eq_getElem hjl⟩
          have htk := take_last T j c hc
          rw [htk] at hU
          have hUl : U.length = j + 1 := by rw [hU, List.length_append, List.length_take]; simp; omega
          have hlt : j < (⟨U.toArray⟩ : ByteArray).size := by rw [size_mk, hUl]; omega
          have hix : (⟨U.toArray⟩ : ByteArray)[j]'hlt = c := by
            have h := list_get ⟨U.toArray⟩ j hlt
            rw [show (⟨U.toArray⟩ : ByteArray).data.toList = U from rfl] at h
            have h' : U[j]? = some c := by rw [hU]; rw [List.getElem?_append_right (by rw [List.length_take]; omega), List.length_take, show j - min j T.length = 0 from by omega]; rfl
            rw [h'] at h
            injection h with h
            exact h.symm
          have hxf := ext_front ⟨U.toArray⟩ j
          rw [show (⟨U.toArray⟩ : ByteArray).data.toList = U from rfl, show U.take j = T.take j from by rw [hU, List.take_append_of_le_length (by rw [List.length_take]; omega), List.take_take, Nat.min_self]] at hxf
          have f1 : (U.length : Int) - 1 = (j : Int) := by omega
          have j0 : (0 : Int) ≤ (j : Int) := Int.natCast_nonneg _
          have j1 : (j : Int) < (U.length : Int) := by omega
          have j2 : (j : Int) ≤ (U.length : Int) := by omega
          have j3 : (U.length : Int) ≤ 5 := by omega
          by_cases h48 : c = 48
          · have b48 : ((c.toNat : Int) == 48) = true := by rw [h48]; rfl
            have hj2 : 2 ≤ j := by
              rcases Nat.lt_or_ge j 2 with h | h
              · have : j = 1 := by omega
                rw [this, HTT.out.2.2.1] at hc
                injection hc with hc
                rw [← hc] at h48
                exact absurd h48 (by decide)
              · exact h
            have htr2 : Lib.trimRightB (T.take j) 48 = Lib.trimRightB T 48 := by rw [← htr, hU, h48, trimR_last]
            have HX := Lib.hid (And.intro hj2 (And.intro htr2 hbw))
            have hjU : (T.take j).length < U.length := by rw [hUl, List.length_take]; omega
            have HJ := Lib.hid hjU
            clear htr htr2 hbw hc htk hU hUl h48 hj2 hjU h2 h5 hjl
            go_wp2
            go_roundw
            case rel => exact ⟨j, T.take j, rfl, rfl, HX.out.1, by omega, HX.out.2.1, HX.out.2.2⟩
            case measure => have := HJ.out; show (⟨(T.take j).toArray⟩ : ByteArray).size < (⟨U.toArray⟩ : ByteArray).size; rw [size_mk, size_mk]; exact this
          · have b48 : ((c.toNat : Int) == 48) = false := (ne_u8o c 48 (by decide) h48).1
            have hfin : Lib.trimRightB T 48 = U := by rw [← htr, hU, trimR_stop _ _ _ h48]
            have HR := Lib.hid (HP.out.2.trans (by rw [HP.out.1, HTT.out.1, hfin] : _ = (U, 0)))
            have HX := Lib.hid hbw
            clear htr hbw hc htk hU hUl h48 hfin h2 h5 hjl
            go_wp2
            go_ret2
            rw [HR.out]
            exact ⟨rfl, HX.out⟩
end Go.Proofs.YthnniiakmjonjaaDoor
