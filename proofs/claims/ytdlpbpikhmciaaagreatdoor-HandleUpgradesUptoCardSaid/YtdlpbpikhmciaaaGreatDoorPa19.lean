/- The walk of (*Sum).turn: one block of 64 bytes taken. No conditions. -/
import Derived.Test.YtdlpbpikhmciaaaGreatDoorPk18
import Derived.Test.YtdlpbpikhmciaaaGreatDoorPk06
import Derived.BigRegion
import Derived.StillTailTactics
namespace Go.Proofs.YtdlpbpikhmciaaaGreatDoor
open Go.RowKit
set_option linter.unusedSimpArgs false
set_option linter.unusedVariables false
theorem idx5_0 (a b c d e : Int) (w : World) : (Instr.index 291 (.agg #[.int .u32 a, .int .u32 b, .int .u32 c, .int .u32 d, .int .u32 e]) (.int .i64 0)).run Tryz.prog w = .ok (.int .u32 a) w := by kernel_rfl
theorem idx5_1 (a b c d e : Int) (w : World) : (Instr.index 291 (.agg #[.int .u32 a, .int .u32 b, .int .u32 c, .int .u32 d, .int .u32 e]) (.int .i64 1)).run Tryz.prog w = .ok (.int .u32 b) w := by kernel_rfl
theorem idx5_2 (a b c d e : Int) (w : World) : (Instr.index 291 (.agg #[.int .u32 a, .int .u32 b, .int .u32 c, .int .u32 d, .int .u32 e]) (.int .i64 2)).run Tryz.prog w = .ok (.int .u32 c) w := by kernel_rfl
theorem idx5_3 (a b c d e : Int) (w : World) : (Instr.index 291 (.agg #[.int .u32 a, .int .u32 b, .int .u32 c, .int .u32 d, .int .u32 e]) (.int .i64 3)).run Tryz.prog w = .ok (.int .u32 d) w := by kernel_rfl
theorem idx5_4 (a b c d e : Int) (w : World) : (Instr.index 291 (.agg #[.int .u32 a, .int .u32 b, .int .u32 c, .int .u32 d, .int .u32 e]) (.int .i64 4)).run Tryz.prog w = .ok (.int .u32 e) w := by kernel_rfl
theorem zero80 (w : World) : (zeroValue 331).run Tryz.prog w = .ok (.agg (Array.replicate 80 (.int .u32 0))) w := by kernel_rfl
theorem alloc80 (w : World) : (w.alloc (.cells (Array.replicate 80 (.int .u32 0)) 331)).rowIs w.heap.size 331 80 (wcell []) :=
  (World.rowIs_alloc w (Array.replicate 80 (.int .u32 0)) 331 (wcell []) (fun i hi => by simp at hi; simp [hi, wcell])).congr (fun i _ => rfl)
theorem slice4 (x k : Nat) (hk : k < 16) (w : World) : (Instr.sliceAt 292 (.pointer (some ⟨x, 5, none⟩)) (some (.int .i64 (4 * (k : Int)))) (some (.int .i64 (4 * (k : Int) + 4))) none).run Tryz.prog w = .ok (.slice (some ⟨x, 5 + 4 * k, none⟩) 4 (64 - 4 * k)) w := by
  have hal : Program.arrayLen Tryz.prog 292 = 64 := by kernel_rfl
  have hsz : (sizeOf (Program.elem Tryz.prog 292)).run Tryz.prog w = .ok 1 w := by kernel_rfl
  rw [run_sliceAt_array_lh w 292 ⟨x, 5, none⟩ (by kernel_rfl) .i64 .i64 (4 * (k : Int)) (4 * (k : Int) + 4) (by omega) (by omega) (by rw [hal]; omega), hal, hsz]
  simp only [Result.andThen, slicedAt]
  rw [if_neg (by omega)]
  have e1 : (4 * (k : Int)).toNat = 4 * k := by omega
  have e2 : (4 * (k : Int) + 4).toNat = 4 * k + 4 := by omega
  rw [e1, e2]
  have e3 : 4 * k + 4 - 4 * k = 4 := by omega
  rw [e3, Nat.mul_one, show (⟨x, 5, none⟩ : Addr).add (4 * k) = ⟨x, 5 + 4 * k, none⟩ from by unfold Addr.add; split <;> simp_all]
set_option maxRecDepth 1000000 in
set_option maxHeartbeats 6000000 in
theorem turn_any (x : Nat) (h : Five) (m : List UInt8) (n : Nat) (w : World) (hx : w.rowIs x 294 70 (sumCell h m n)) :
    Calls Tryz.prog 241 #[.pointer (some ⟨x, 0, none⟩)] w fun e w' => e = .returned (.tuple #[]) ∧ w'.rowIs x 294 70 (sumCell (turnF m h) m n) ∧ w.grownBy w' (some x) := by
  have z80 := zero80
  go_enter Tryz.func241, Tryz.ntmps241
  go_wp2
  go_loopw [17] (fun i wr => ∃ (k : Nat), i = .int .i64 k ∧ k ≤ 16 ∧ wr.rowIs w.heap.size 331 80 (wcell (first16 m k)) ∧ wr.rowIs x 294 70 (sumCell h m n) ∧ w.grownBy wr (some x))
    (fun i _ => 16 - (intOf i).toNat)
  case atStart => exact ⟨0, rfl, Nat.zero_le _, alloc80 w, hx.alloc _, World.grownBy_alloc _ _ _⟩
  case round =>
    obtain ⟨k, rfl, hk, hr, hs, hg⟩ := hrel
    by_cases hlt : k < 16
    · have hsl := slice4 x k hlt
      have HHR := Lib.hid hr; have HHS := Lib.hid hs; clear hr hs
      have k64 : ((4 : Nat) : Int) = 4 := rfl
      go_wp2
      go_loopw [30] (fun i wq => ∃ (j : Nat), i = .int .i64 j ∧ j ≤ 4 ∧ wq.rowIs w.heap.size 331 80 (wcell (first16 m k ++ [((part m k j : Nat) : Int)])) ∧ wq.rowIs x 294 70 (sumCell h m n) ∧ w.grownBy wq (some x))
        (fun i _ => 4 - (intOf i).toNat)
      case atStart => exact ⟨0, rfl, Nat.zero_le _, by rw [show ((part m k 0 : Nat) : Int) = 0 from rfl, wcell_zero]; exact HHR.out, HHS.out, hg⟩
      case round =>
        obtain ⟨j, rfl, hj, hr1, hs1, hg1⟩ := hrel
        by_cases hlj : j < 4
        · obtain ⟨c, hc⟩ : ∃ c, m.getD (4 * k + j) 0 = c := ⟨_, rfl⟩
          have cs := sum_byte hs1 (4 * k + j) (by omega) c hc
          rw [← Nat.add_assoc] at cs
          have cw := hr1.cell (i := k) (by omega)
          have cf := hr1.frozen k
          have pw := part_snoc m k j hlj c hc
          have e0 : wcell (first16 m k ++ [((part m k j : Nat) : Int)]) k = .int .u32 ((part m k j : Nat) : Int) := wcell_last _ _ (first16_len m k)
          rw [e0] at cw
          have HR1 := Lib.hid hr1; have HS1 := Lib.hid hs1; have HC := Lib.hid hc; have E0 := Lib.hid e0
          clear hr1 hs1 hc e0
          go_wp2
          go_roundw
          case rel =>
            have ec : ((c.toNat : Int) % 4294967296) = (c.toNat : Int) := by have : c.toNat < 256 := c.toBitVec.isLt; omega
            rw [ec, pw]
            refine ⟨j + 1, by go_num, by omega, ?_, HS1.out.setOther (by have := HS1.out.lt; have := hx.lt; show x ≠ w.heap.size; omega) _, gbNew hg1 (Nat.le_refl _) _⟩
            have := HR1.out.set k (.int .u32 ((part m k (j + 1) : Nat) : Int))
            rw [show (fun j' => if j' = k then Value.int .u32 ((part m k (j + 1) : Nat) : Int) else wcell (first16 m k ++ [((part m k j : Nat) : Int)]) j') = wcell (first16 m k ++ [((part m k (j + 1) : Nat) : Int)]) from by
              have := wcell_over (first16 m k) ((part m k j : Nat) : Int) ((part m k (j + 1) : Nat) : Int)
              rw [first16_len] at this; exact this] at this
            exact this
          case measure => simp [intOf]; omega
        · obtain rfl : j = 4 := by omega
          rw [part_four] at hr1
          have HR1 := Lib.hid hr1; have HS1 := Lib.hid hs1; clear hr1 hs1
          go_wp2
          go_roundw
          case rel => exact ⟨k + 1, by go_num, by omega, HR1.out, HS1.out, hg1⟩
          case measure => simp [intOf]; omega
    · obtain rfl : k = 16 := by omega
      have HHR := Lib.hid hr; have HHS := Lib.hid hs; clear hr hs
      clear z80
      rw [show ((16 : Nat) : Int) = 16 from rfl]
      go_wp2
      go_loopw [6] (fun i wq => ∃ (k : Nat), i = .int .i64 (16 + k : Nat) ∧ k ≤ 64 ∧ wq.rowIs w.heap.size 331 80 (wcell (sched (first16 m 16) k)) ∧ wq.rowIs x 294 70 (sumCell h m n) ∧ w.grownBy wq (some x))
        (fun i _ => 80 - (intOf i).toNat)
      case atStart => exact ⟨0, rfl, Nat.zero_le _, HHR.out, HHS.out, hg⟩
      case round =>
        obtain ⟨k, rfl, hk2, hr2, hs2, hg2⟩ := hrel
        by_cases hlt2 : k < 64
        · obtain ⟨i, hi⟩ : ∃ i, 16 + k = i := ⟨_, rfl⟩
          obtain ⟨l, hl⟩ : ∃ l, sched (first16 m 16) k = l := ⟨_, rfl⟩
          have hll : l.length = i := by rw [← hl, ← hi, sched_len, first16_len]
          rw [hi]
          have i80 : (i : Int) < 80 := by omega
          obtain ⟨p3, q3⟩ : ∃ p, i - 3 = p := ⟨_, rfl⟩
          obtain ⟨p8, q8⟩ : ∃ p, i - 8 = p := ⟨_, rfl⟩
          obtain ⟨p14, q14⟩ : ∃ p, i - 14 = p := ⟨_, rfl⟩
          obtain ⟨p16, q16⟩ : ∃ p, i - 16 = p := ⟨_, rfl⟩
          have r3 : (i : Int) - 3 = (p3 : Int) := by omega
          have r8 : (i : Int) - 8 = (p8 : Int) := by omega
          have r14 : (i : Int) - 14 = (p14 : Int) := by omega
          have r16 : (i : Int) - 16 = (p16 : Int) := by omega
          have l3 : (p3 : Int) < 80 := by omega
          have l8 : (p8 : Int) < 80 := by omega
          have l14 : (p14 : Int) < 80 := by omega
          have l16 : (p16 : Int) < 80 := by omega
          have w3 := wrap_small p3 (by omega)
          have w8 := wrap_small p8 (by omega)
          have w14 := wrap_small p14 (by omega)
          have w16 := wrap_small p16 (by omega)
          have n3 : (0 : Int) ≤ (p3 : Int) := by omega
          have n8 : (0 : Int) ≤ (p8 : Int) := by omega
          have n14 : (0 : Int) ≤ (p14 : Int) := by omega
          have n16 : (0 : Int) ≤ (p16 : Int) := by omega
          have ni : (0 : Int) ≤ (i : Int) := by omega
          rw [hl] at hr2
          obtain ⟨v3, e3⟩ : ∃ v, l.getD p3 0 = v := ⟨_, rfl⟩
          obtain ⟨v8, e8⟩ : ∃ v, l.getD p8 0 = v := ⟨_, rfl⟩
          obtain ⟨v14, e14⟩ : ∃ v, l.getD p14 0 = v := ⟨_, rfl⟩
          obtain ⟨v16, e16⟩ : ∃ v, l.getD p16 0 = v := ⟨_, rfl⟩
          have c3 := hr2.cell (i := p3) (by omega)
          have c8 := hr2.cell (i := p8) (by omega)
          have c14 := hr2.cell (i := p14) (by omega)
          have c16 := hr2.cell (i := p16) (by omega)
          have ci := hr2.cell (i := i) (by omega)
          have cf := hr2.frozen i
          rw [wcell_at l p3 v3 e3] at c3
          rw [wcell_at l p8 v8 e8] at c8
          rw [wcell_at l p14 v14 e14] at c14
          rw [wcell_at l p16 v16 e16] at c16
          have HR2 := Lib.hid hr2; have HS2 := Lib.hid hs2; have HE := Lib.hid (And.intro e3 (And.intro e8 (And.intro e14 e16)))
          have HQ := Lib.hid (And.intro q3 (And.intro q8 (And.intro q14 (And.intro q16 (And.intro hi (And.intro hl hll))))))
          clear hr2 hs2 e3 e8 e14 e16 q3 q8 q14 q16 hi hl hll
          go_wp2_with fail
          go_still_tail 22, (by kernel_rfl)
          still_call (rotl1_any _ _)
          repeat still_step
          refine wpStill_nil ?_
          go_wp2
          go_roundw
          case rel =>
            obtain ⟨q3, q8, q14, q16, hi, hl, hll⟩ := HQ.out
            obtain ⟨e3, e8, e14, e16⟩ := HE.out
            refine ⟨k + 1, by rw [← Nat.add_assoc, hi]; go_num, by omega, ?_, (HS2.out.drew).setOther (by have := HS2.out.lt; have := hx.lt; show x ≠ w.heap.size; omega) _, gbNew (gbDraws hg2 1) (Nat.le_refl _) _⟩
            have hset := (HR2.out.drew).set i (.int .u32 (rotN 1 (bits .xor .u32 (bits .xor .u32 (bits .xor .u32 v3 v8) v14) v16)))
            rw [show (fun j' => if j' = i then Value.int .u32 (rotN 1 (bits .xor .u32 (bits .xor .u32 (bits .xor .u32 v3 v8) v14) v16)) else wcell l j') = wcell (sched (first16 m 16) (k + 1)) from by
              rw [← hll, wcell_snoc, sched, hl, first16_len, hi]; unfold snext xw; rw [q3, q8, q14, q16, e3, e8, e14, e16]] at hset
            exact hset
          case measure => simp [intOf]; omega
        · obtain rfl : k = 64 := by omega
          have HR2 := Lib.hid hr2; have HS2 := Lib.hid hs2; clear hr2 hs2
          rw [show ((16 + 64 : Nat) : Int) = 80 from rfl]
          have g0 : wr.cell? ⟨x, 0, none⟩ = some (.int .u32 (h.at 0)) := sum_word HS2.out 0 (by decide)
          have g1 : wr.cell? ⟨x, 1, none⟩ = some (.int .u32 (h.at 1)) := sum_word HS2.out 1 (by decide)
          have g2 : wr.cell? ⟨x, 2, none⟩ = some (.int .u32 (h.at 2)) := sum_word HS2.out 2 (by decide)
          have g3 : wr.cell? ⟨x, 3, none⟩ = some (.int .u32 (h.at 3)) := sum_word HS2.out 3 (by decide)
          have g4 : wr.cell? ⟨x, 4, none⟩ = some (.int .u32 (h.at 4)) := sum_word HS2.out 4 (by decide)
          go_wp2_with fail
          go_still (by kernel_rfl)
          clear g0 g1 g2 g3 g4
          go_wp2
          go_loopw [96, 7, 8, 9, 10, 11] (fun i a b c d e wq => ∃ (k : Nat), i = .int .i64 k ∧ k ≤ 80 ∧ a = .int .u32 (rounds (sched80 m) k h).a ∧ b = .int .u32 (rounds (sched80 m) k h).b ∧ c = .int .u32 (rounds (sched80 m) k h).c ∧ d = .int .u32 (rounds (sched80 m) k h).d ∧ e = .int .u32 (rounds (sched80 m) k h).e ∧ wq.rowIs w.heap.size 331 80 (wcell (sched80 m)) ∧ wq.rowIs x 294 70 (sumCell h m n) ∧ w.grownBy wq (some x))
            (fun i _ _ _ _ _ _ => 80 - (intOf i).toNat)
          case atStart => exact ⟨0, rfl, Nat.zero_le _, rfl, rfl, rfl, rfl, rfl, HR2.out.drew, HS2.out.drew, gbDraws hg2 1⟩
          case round =>
            clear HR2 HS2 hg2
            obtain ⟨k, rfl, hk3, rfl, rfl, rfl, rfl, rfl, hr3, hs3, hg3⟩ := hrel
            by_cases hlt3 : k < 80
            · obtain ⟨⟨a, b, c, d, e⟩, hst⟩ : ∃ s, rounds (sched80 m) k h = s := ⟨_, rfl⟩
              rw [hst]
              obtain ⟨v, hv⟩ : ∃ v, (sched80 m).getD k 0 = v := ⟨_, rfl⟩
              have ck := hr3.cell (i := k) (by omega)
              rw [wcell_at _ k v hv] at ck
              have hkk : rounds (sched80 m) (k + 1) h = rnd k v ⟨a, b, c, d, e⟩ := by rw [rounds, hst, hv]
              have k0 : (0 : Int) ≤ (k : Int) := by omega
              have k80 : (k : Int) < 80 := by omega
              have HR3 := Lib.hid hr3; have HS3 := Lib.hid hs3; have HKK := Lib.hid hkk
              clear hr3 hs3 hkk hst hv
              have hq4 : k / 20 = 0 ∨ k / 20 = 1 ∨ k / 20 = 2 ∨ k / 20 = 3 := by omega
              rcases hq4 with hq | hq | hq | hq
              · have hqi : (k : Int) / 20 = 0 := by omega
                have HQ := Lib.hid hq; clear hq
                go_wp2_with fail
                refine wp_region_still_lit (by kernel_rfl) (by kernel_rfl) ?_
                repeat still_step
                still_call (rotl5_any _ _)
                repeat still_step
                still_call (rotl30_any _ _)
                repeat still_step
                refine wpStill_nil ?_
                go_wp2
                go_roundw
                case rel =>
                  refine ⟨k + 1, by go_num, by omega, ?_, ?_, ?_, ?_, ?_, HR3.out.drew, HS3.out.drew, gbDraws hg3 1⟩
                  · rw [HKK.out]; exact congrArg (Value.int IntKind.u32) (rnd0_a k v a b c d e HQ.out).symm
                  all_goals (rw [HKK.out]; rfl)
                case measure => simp [intOf]; omega
              · have hqi : (k : Int) / 20 = 1 := by omega
                have HQ := Lib.hid hq; clear hq
                go_wp2_with fail
                refine wp_region_still_lit (by kernel_rfl) (by kernel_rfl) ?_
                repeat still_step
                still_call (rotl5_any _ _)
                repeat still_step
                still_call (rotl30_any _ _)
                repeat still_step
                refine wpStill_nil ?_
                go_wp2
                go_roundw
                case rel =>
                  refine ⟨k + 1, by go_num, by omega, ?_, ?_, ?_, ?_, ?_, HR3.out.drew, HS3.out.drew, gbDraws hg3 1⟩
                  · rw [HKK.out]; exact congrArg (Value.int IntKind.u32) (rnd1_a k v a b c d e HQ.out).symm
                  all_goals (rw [HKK.out]; rfl)
                case measure => simp [intOf]; omega
              · have hqi : (k : Int) / 20 = 2 := by omega
                have HQ := Lib.hid hq; clear hq
                go_wp2_with fail
                refine wp_region_still_lit (by kernel_rfl) (by kernel_rfl) ?_
                repeat still_step
                still_call (rotl5_any _ _)
                repeat still_step
                still_call (rotl30_any _ _)
                repeat still_step
                refine wpStill_nil ?_
                go_wp2
                go_roundw
                case rel =>
                  refine ⟨k + 1, by go_num, by omega, ?_, ?_, ?_, ?_, ?_, HR3.out.drew, HS3.out.drew, gbDraws hg3 1⟩
                  · rw [HKK.out]; exact congrArg (Value.int IntKind.u32) (rnd2_a k v a b c d e HQ.out).symm
                  all_goals (rw [HKK.out]; rfl)
                case measure => simp [intOf]; omega
              · have hqi : (k : Int) / 20 = 3 := by omega
                have HQ := Lib.hid hq; clear hq
                go_wp2_with fail
                refine wp_region_still_lit (by kernel_rfl) (by kernel_rfl) ?_
                repeat still_step
                still_call (rotl5_any _ _)
                repeat still_step
                still_call (rotl30_any _ _)
                repeat still_step
                refine wpStill_nil ?_
                go_wp2
                go_roundw
                case rel =>
                  refine ⟨k + 1, by go_num, by omega, ?_, ?_, ?_, ?_, ?_, HR3.out.drew, HS3.out.drew, gbDraws hg3 1⟩
                  · rw [HKK.out]; exact congrArg (Value.int IntKind.u32) (rnd3_a k v a b c d e HQ.out).symm
                  all_goals (rw [HKK.out]; rfl)
                case measure => simp [intOf]; omega
            · obtain rfl : k = 80 := by omega
              obtain ⟨s, hst⟩ : ∃ s, rounds (sched80 m) 80 h = s := ⟨_, rfl⟩
              have hfin : turnF m h = h.plus s := by unfold turnF; rw [hst]
              rw [hst]
              have HS3 := Lib.hid hs3; have HF := Lib.hid hfin
              clear hr3 hs3 hfin hst
              rw [show ((80 : Nat) : Int) = 80 from rfl]
              go_wp2
              go_loopw [160] (fun i wq => ∃ (k : Nat), i = .int .i64 k ∧ k ≤ 5 ∧ wq.rowIs x 294 70 (sumCell (mixF h s k) m n) ∧ w.grownBy wq (some x))
                (fun i _ => 5 - (intOf i).toNat)
              case atStart => exact ⟨0, rfl, Nat.zero_le _, by rw [mixF_zero]; exact HS3.out, hg3⟩
              case round =>
                clear HS3 hg3
                obtain ⟨k, rfl, hk4, hs4, hg4⟩ := hrel
                have hk6 : k = 0 ∨ k = 1 ∨ k = 2 ∨ k = 3 ∨ k = 4 ∨ k = 5 := by omega
                rcases hk6 with rfl | rfl | rfl | rfl | rfl | rfl
                · have cm := mix_word hs4 (by decide)
                  have cf := hs4.frozen 0
                  obtain ⟨g, hgv⟩ : ∃ g, h.at 0 = g := ⟨_, rfl⟩
                  rw [hgv] at cm
                  have HS4 := Lib.hid hs4; have HG := Lib.hid hgv; clear hs4 hgv
                  have hix := idx5_0 s.a s.b s.c s.d s.e
                  rw [show ((0 : Nat) : Int) = 0 from rfl]
                  go_wp2_with fail
                  go_still_tail 11, (by kernel_rfl)
                  go_wp2
                  go_roundw
                  case rel =>
                    refine ⟨1, rfl, by omega, ?_, gbOwn (gbDraws hg4 1) rfl _⟩
                    have hset := (HS4.out.drew).set 0 (.int .u32 (aw (h.at 0) (s.at 0)))
                    rw [mix_set h s m n 0 (by decide), HG.out] at hset
                    exact hset
                  case measure => decide
                · have cm := mix_word hs4 (by decide)
                  have cf := hs4.frozen 1
                  obtain ⟨g, hgv⟩ : ∃ g, h.at 1 = g := ⟨_, rfl⟩
                  rw [hgv] at cm
                  have HS4 := Lib.hid hs4; have HG := Lib.hid hgv; clear hs4 hgv
                  have hix := idx5_1 s.a s.b s.c s.d s.e
                  rw [show ((1 : Nat) : Int) = 1 from rfl]
                  go_wp2_with fail
                  go_still_tail 11, (by kernel_rfl)
                  go_wp2
                  go_roundw
                  case rel =>
                    refine ⟨2, rfl, by omega, ?_, gbOwn (gbDraws hg4 1) rfl _⟩
                    have hset := (HS4.out.drew).set 1 (.int .u32 (aw (h.at 1) (s.at 1)))
                    rw [mix_set h s m n 1 (by decide), HG.out] at hset
                    exact hset
                  case measure => decide
                · have cm := mix_word hs4 (by decide)
                  have cf := hs4.frozen 2
                  obtain ⟨g, hgv⟩ : ∃ g, h.at 2 = g := ⟨_, rfl⟩
                  rw [hgv] at cm
                  have HS4 := Lib.hid hs4; have HG := Lib.hid hgv; clear hs4 hgv
                  have hix := idx5_2 s.a s.b s.c s.d s.e
                  rw [show ((2 : Nat) : Int) = 2 from rfl]
                  go_wp2_with fail
                  go_still_tail 11, (by kernel_rfl)
                  go_wp2
                  go_roundw
                  case rel =>
                    refine ⟨3, rfl, by omega, ?_, gbOwn (gbDraws hg4 1) rfl _⟩
                    have hset := (HS4.out.drew).set 2 (.int .u32 (aw (h.at 2) (s.at 2)))
                    rw [mix_set h s m n 2 (by decide), HG.out] at hset
                    exact hset
                  case measure => decide
                · have cm := mix_word hs4 (by decide)
                  have cf := hs4.frozen 3
                  obtain ⟨g, hgv⟩ : ∃ g, h.at 3 = g := ⟨_, rfl⟩
                  rw [hgv] at cm
                  have HS4 := Lib.hid hs4; have HG := Lib.hid hgv; clear hs4 hgv
                  have hix := idx5_3 s.a s.b s.c s.d s.e
                  rw [show ((3 : Nat) : Int) = 3 from rfl]
                  go_wp2_with fail
                  go_still_tail 11, (by kernel_rfl)
                  go_wp2
                  go_roundw
                  case rel =>
                    refine ⟨4, rfl, by omega, ?_, gbOwn (gbDraws hg4 1) rfl _⟩
                    have hset := (HS4.out.drew).set 3 (.int .u32 (aw (h.at 3) (s.at 3)))
                    rw [mix_set h s m n 3 (by decide), HG.out] at hset
                    exact hset
                  case measure => decide
                · have cm := mix_word hs4 (by decide)
                  have cf := hs4.frozen 4
                  obtain ⟨g, hgv⟩ : ∃ g, h.at 4 = g := ⟨_, rfl⟩
                  rw [hgv] at cm
                  have HS4 := Lib.hid hs4; have HG := Lib.hid hgv; clear hs4 hgv
                  have hix := idx5_4 s.a s.b s.c s.d s.e
                  rw [show ((4 : Nat) : Int) = 4 from rfl]
                  go_wp2_with fail
                  go_still_tail 11, (by kernel_rfl)
                  go_wp2
                  go_roundw
                  case rel =>
                    refine ⟨5, rfl, by omega, ?_, gbOwn (gbDraws hg4 1) rfl _⟩
                    have hset := (HS4.out.drew).set 4 (.int .u32 (aw (h.at 4) (s.at 4)))
                    rw [mix_set h s m n 4 (by decide), HG.out] at hset
                    exact hset
                  case measure => decide
                · rw [mixF_five, ← HF.out] at hs4
                  have HS4 := Lib.hid hs4; clear hs4
                  rw [show ((5 : Nat) : Int) = 5 from rfl]
                  go_wp2
                  go_returns
                  exact ⟨rfl, HS4.out, hg4⟩
end Go.Proofs.YtdlpbpikhmciaaaGreatDoor
