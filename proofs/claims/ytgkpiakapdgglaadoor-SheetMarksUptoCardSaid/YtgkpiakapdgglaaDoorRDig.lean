/- The walk of the reference's Digits at numbers from 0 on. Conditions: below 2^62. -/
import Derived.Test.YtgkpiakapdgglaaDoorDig
namespace Go.Proofs.YtgkpiakapdgglaaDoor
open Go.RowKit
set_option linter.unusedSimpArgs false
set_option linter.unusedVariables false
set_option maxRecDepth 1000000
theorem dec_len20 : ∀ (k n : Nat), n < 10 ^ (k + 1) → (Lib.decDigits n).length ≤ k + 1
  | 0, n, h => by rw [Lib.decDigits, dif_pos (by omega)]; simp
  | k + 1, n, h => by
    rw [Lib.decDigits]
    split
    · simp
    · rw [List.length_append]
      have := dec_len20 k (n / 10) (by rw [Nat.pow_succ] at h; omega)
      simp only [List.length_singleton]
      omega
theorem dec_step (m : Nat) (o : List UInt8) (h0 : m ≠ 0) : Lib.decDigits m ++ o = (if m / 10 = 0 then [] else Lib.decDigits (m / 10)) ++ (UInt8.ofNat (48 + m % 10) :: o) := by
  rw [Lib.decDigits]
  by_cases h : m < 10
  · rw [dif_pos h, if_pos (by omega), Nat.mod_eq_of_lt h]; rfl
  · rw [dif_neg h, if_neg (by omega)]; simp
def DecR (n m : Nat) (o : List UInt8) : Prop := (if m = 0 then [] else Lib.decDigits m) ++ o = Lib.decDigits n
theorem DecR.len {n m : Nat} {o : List UInt8} (h : DecR n m o) (hn : n ≤ 4611703610613432320) : o.length ≤ 20 := by
  have h1 := congrArg List.length h
  rw [List.length_append] at h1
  have := dec_len20 19 n (Nat.lt_of_le_of_lt hn (by decide))
  omega
theorem DecR.step {n m : Nat} {o : List UInt8} (h : DecR n m o) (h0 : m ≠ 0) : DecR n (m / 10) (UInt8.ofNat (48 + m % 10) :: o) := by
  unfold DecR at h ⊢
  rw [if_neg h0, dec_step m o h0] at h
  exact h
theorem digit_cell (d : Nat) (h : d < 10) : IntKind.u8.wrap ((48 + d : Nat) : Int) = ((UInt8.ofNat (48 + d)).toNat : Int) := by
  rw [IntWalk.u8_in _ (by omega)]
  simp; omega
theorem cat_one (c : UInt8) (o : List UInt8) : (⟨#[c]⟩ : ByteArray) ++ (⟨o.toArray⟩ : ByteArray) = ⟨(c :: o).toArray⟩ := by
  refine ba_ext ?_
  simp
theorem w64_small (q : Nat) (h : q ≤ 4611703610613432320) : wrap64 (q : Int) = (q : Int) := IntWalk.wrap64_in _ (by omega)
set_option maxHeartbeats 2000000 in
theorem rdigits_any (n : Nat) (w : World) (hn : n ≤ 4611703610613432320) :
    Calls Tryd.prog 40 #[.int .i64 (n : Int)] w fun e w' => e = .returned (.string ⟨(Lib.decDigits n).toArray⟩) ∧ Below w.heap.size w w' := by
  by_cases h0 : n = 0
  · subst h0
    have hd : Lib.decDigits 0 = [48] := by rw [Lib.decDigits, dif_pos (by omega)]; rfl
    have HD := Lib.hid hd; clear hd
    go_enter Tryd.func40, Tryd.ntmps40
    go_wp2
    go_ret
    rw [HD.out]
    exact ⟨rfl, Below.refl _ _⟩
  · have b0 : ((n : Int) == 0) = false := by simp; omega
    have k0 : (0 : Int) ≤ (n : Int) := Int.natCast_nonneg _
    have hst : DecR n n [] := by unfold DecR; rw [if_neg h0, List.append_nil]
    have HST := Lib.hid (And.intro hst hn)
    clear hst h0 hn
    go_enter Tryd.func40, Tryd.ntmps40
    go_wp2
    go_loopw [0, 4] (fun mv ov wr => ∃ (m : Nat) (o : List UInt8), mv = .int .i64 m ∧ ov = .string ⟨o.toArray⟩ ∧ m ≤ n ∧ DecR n m o ∧ Below w.heap.size w wr) (fun mv _ _ => (intOf mv).toNat)
    case atStart => exact ⟨n, [], rfl, rfl, Nat.le_refl _, HST.out.1, Below.refl _ _⟩
    case round =>
      obtain ⟨m, o, rfl, rfl, hmn, hR, hb⟩ := hrel
      by_cases hm : m = 0
      · subst hm
        have hf : o = Lib.decDigits n := hR
        have HF := Lib.hid hf; clear hf
        clear hR
        go_wp2
        go_ret
        rw [← HF.out]
        exact ⟨rfl, hb⟩
      · have b1 : ((m : Int) != 0) = true := by simp; omega
        have m0 : (0 : Int) ≤ (m : Int) := Int.natCast_nonneg _
        have hlen := hR.len HST.out.2
        have hR2 := hR.step hm
        obtain ⟨d, hd⟩ : ∃ d, m % 10 = d := ⟨_, rfl⟩
        obtain ⟨q, hq⟩ : ∃ q, m / 10 = q := ⟨_, rfl⟩
        have e1 : (m : Int) % 10 = (d : Int) := by omega
        have e2 : (m : Int) / 10 = (q : Int) := by omega
        have d0 : (0 : Int) ≤ (d : Int) := Int.natCast_nonneg _
        have d1 : (d : Int) < 10 := by omega
        have hdl : d < 10 := by omega
        have hqm : q < m := by omega
        rw [hd, hq] at hR2
        obtain ⟨c, hc⟩ : ∃ c, UInt8.ofNat (48 + d) = c := ⟨_, rfl⟩
        have e4 := digit_cell d hdl
        rw [hc] at e4
        rw [hc] at hR2
        have e3 : IntKind.u8.wrap (48 + (d : Int)) = (c.toNat : Int) := by rw [← e4]; congr 1
        have hcells := cells_new wr 5 (Lib.byteCells [c])
        have hcv := run_str_cells (P := Tryd.prog) (wr.alloc (.cells #[.int .u8 (c.toNat : Int)] 5)) 66 5 Tryd.underlying66 Tryd.underlying5 wr.heap.size 0 1 1 [c] rfl (fun j hj => by
          obtain rfl : j = 0 := by simp at hj; omega
          rw [Lib.cell_of_heap (heap_alloc_new wr _)]; rfl) 9 Tryd.underlying9
        have hz : ¬ 9223372036854775807 < 1 + o.length ∧ ¬ 9223372036854775807 < o.length + 1 := by omega
        have hb2 : Below w.heap.size w (wr.alloc (.cells #[.int .u8 (c.toNat : Int)] 5)) := hb.alloc hb.size _
        have hwq := w64_small q (by have := HST.out.2; omega)
        have hqn : q ≤ n := by omega
        have HX := Lib.hid (And.intro hR2 (And.intro hb2 (And.intro hwq (And.intro hqn hqm))))
        clear hwq hqn hqm hmn
        clear hR hR2 hb2 hd hq hc e4 hcells hm hb
        go_wp2
        refine ⟨⟨q, c :: o, by rw [HX.out.2.2.1], by rw [cat_one], HX.out.2.2.2.1, HX.out.1, HX.out.2.1⟩, ?_⟩
        rw [HX.out.2.2.1]
        have := HX.out.2.2.2.2
        simp [intOf]
        omega
end Go.Proofs.YtgkpiakapdgglaaDoor
