/- The walk of the reference's Sha1. Conditions: fewer than 2^40 bytes. -/
import Derived.Test.YtpehogkgiikjmaaShaD
import Derived.Test.YtpehogkgiikjmaaRegH
import Derived.Test.YtpehogkgiikjmaaRow1
namespace Go.Proofs.Ytpehogkgiikjmaa
open Go.RowKit
set_option linter.unusedSimpArgs false
set_option linter.unusedVariables false
def Z80 : Array Value := Array.replicate 80 (.int .u32 0)
theorem zeroZ80 (w : World) : (zeroValue 65).run Try.prog w = .ok (.agg Z80) w := by kernel_rfl
theorem Z80_size : Z80.size = 80 := by kernel_rfl
theorem Z80_one : Z80.all (·.oneCell') = true := by kernel_rfl
theorem storeZ80 (w : World) : (storeCells ⟨w.heap.size, 0, none⟩ Z80.toList).run Try.prog (w.alloc (.cells Z80 65)) = .ok () (w.alloc (.cells Z80 65)) :=
  run_storeCells_new w 65 Z80 Z80 (by kernel_rfl) rfl Z80_one
theorem allocZ80 (w : World) : (w.alloc (.cells Z80 65)).rowIs w.heap.size 65 80 (wcell []) := alloc80 w
theorem zero5 (w : World) : (zeroValue 60).run Try.prog w = .ok (.agg #[.int .u32 0, .int .u32 0, .int .u32 0, .int .u32 0, .int .u32 0]) w := by kernel_rfl
theorem alloc5 (w : World) : (w.alloc (.cells #[.int .u32 1732584193, .int .u32 4023233417, .int .u32 2562383102, .int .u32 271733878, .int .u32 3285377520] 60)).rowIs w.heap.size 60 5 (fun j => .int .u32 (five0.at j)) :=
  World.rowIs_alloc w #[.int .u32 1732584193, .int .u32 4023233417, .int .u32 2562383102, .int .u32 271733878, .int .u32 3285377520] 60 _ (fun i hi => by
    have h5 : i < 5 := hi
    match i, h5 with
    | 0, _ => rfl
    | 1, _ => rfl
    | 2, _ => rfl
    | 3, _ => rfl
    | 4, _ => rfl)
set_option maxRecDepth 1000000 in
set_option maxHeartbeats 6000000 in
theorem rsha_any (s : ByteArray) (w : World) (hs : s.size ≤ 1099511627776) :
    Calls Try.prog 27 #[.string s] w fun e w' => e = .returned (.string ⟨(shaR s.data.toList).toArray⟩) ∧ Below w.heap.size w w' := by
  obtain ⟨i0, hi, hz0, hz1, hz2⟩ := info_parts infoByte
  obtain ⟨L, hL⟩ : ∃ L, w.heap.size = L := ⟨_, rfl⟩
  obtain ⟨hr0, hb0⟩ := rowB_of_string w 5 s
  have hcv := Lib.run_convert_string_bytes (P := Try.prog) w 9 27 5 s Try.underlying9 Try.underlying27 Try.underlying5
  rw [hL] at hr0 hb0 hcv
  obtain ⟨W0, hW0⟩ : ∃ W0, Lib.bytesWorld w 5 s = W0 := ⟨_, rfl⟩
  rw [hW0] at hr0 hb0 hcv
  have HR0 := Lib.hid hr0; have HB0 := Lib.hid hb0
  clear hr0 hb0 hW0
  go_enter Try.func27, Try.ntmps27
  go_wp2_with (at_builtin; refine wpList_append_rowB _ rfl (.tmp 22) (.tmp 23) 27 5 rfl i0 Try.underlying27 hi hz0 hz1 hz2 L L (grownCap w s.size 0 5) s.size s.data.toList (size_list s) rfl (HR0.out.alloc _) ⟨W0.heap.size, 0, none⟩ 1 1 [128] rfl rfl (cells_new _ _ _) ?d0 (by decide) ?_)
  case d0 => exact le47 _ (le40 _ s.size hs (by omega))
  intro g1 cap1 W1 hr1 hb1
  have hb1' : Below L w W1 := (HB0.out.alloc (by have := HR0.out.hlt; omega) _).trans hb1
  have HR1 := Lib.hid hr1; have HB1 := Lib.hid hb1'
  clear hr1 hb1 hb1' hcv
  go_wp2
  go_loopw [3] (fun v wq => ∃ (k g cap : Nat), v = .slice (some ⟨g, 0, none⟩) (s.size + 1 + k) cap ∧ k ≤ zc (s.size + 1) ∧ RowB wq L g cap (s.data.toList ++ [128] ++ List.replicate k 0) ∧ Below L w wq)
    (fun v _ => match v with | .slice _ n _ => zc n | _ => 0)
  case atStart => exact ⟨0, g1, cap1, rfl, Nat.zero_le _, by rw [List.replicate_zero, List.append_nil]; exact HR1.out, HB1.out⟩
  case round =>
    obtain ⟨k, g, cap, rfl, hk, hr, hb⟩ := hrel
    obtain ⟨N, hN⟩ : ∃ N, s.size + 1 + k = N := ⟨_, rfl⟩
    obtain ⟨q, hq⟩ : ∃ q, N % 64 = q := ⟨_, rfl⟩
    have hz64 : zc (s.size + 1) < 64 := zc_lt _
    have hrm : (N : Int).tmod 64 = (q : Int) := by rw [Int.tmod_eq_emod_of_nonneg (by omega)]; omega
    have hlen : (s.data.toList ++ [128] ++ List.replicate k 0).length = N := by simp [size_list]; omega
    rw [hN]
    by_cases hq0 : q = 56
    · have hq0' : ((q : Int) == 56) = true := by simp [hq0]
      have hq0n : ((q : Int) != 56) = false := by simp [hq0]
      have hkz : k = zc (s.size + 1) := zc_hit _ k hk (by omega)
      subst hkz
      obtain ⟨pre, hpre⟩ : ∃ pre, s.data.toList ++ [128] ++ List.replicate (zc (s.size + 1)) 0 = pre := ⟨_, rfl⟩
      rw [hpre] at hr hlen
      have hbs : L ≤ wr.heap.size := by have := hr.hlt; have := hr.hbase; omega
      have hNs : N ≤ s.size + 65 := by omega
      have hN64 : N % 64 = 56 := by omega
      have hsz := sz8 s.size hs
      have HR := Lib.hid hr; have HQ := Lib.hid (And.intro hN (And.intro hq (And.intro hq0 hpre))); have HB := Lib.hid hb; have HN := Lib.hid (And.intro hNs hN64)
      clear hr hN hq hq0 hk hz64 hpre hb HR0 HB0 HR1 HB1 hNs hN64
      go_wp2
      go_loopw [5, 3] (fun i v wq => ∃ (j g cap : Nat), i = .int .i64 j ∧ v = .slice (some ⟨g, 0, none⟩) (N + j) cap ∧ j ≤ 8 ∧ RowB wq L g cap (pre ++ lenL (s.size * 8) j) ∧ Below L w wq ∧ L ≤ wq.heap.size)
        (fun i _ _ => 8 - (intOf i).toNat)
      case atStart => exact ⟨0, g, cap, rfl, rfl, Nat.zero_le _, by rw [show lenL (s.size * 8) 0 = [] from rfl, List.append_nil]; exact HR.out, HB.out, hbs⟩
      case round =>
        clear HR HB hbs
        obtain ⟨j, g3, cap3, rfl, rfl, hj, hr, hb, hbs⟩ := hrel
        by_cases hlj : j < 8
        · have hl2 : (pre ++ lenL (s.size * 8) j).length = N + j := by rw [List.length_append, lenL_len, hlen]
          have hsm : N + j + 1 ≤ 140737488355328 := le47 _ (le40 _ s.size hs (by have := HN.out.1; omega))
          obtain ⟨c, hc⟩ : ∃ c, lenB (s.size * 8) j = c := ⟨_, rfl⟩
          have hli : (s.size : Int) * 8 / 2 ^ (56 - 8 * j) % 256 = (c.toNat : Int) := by rw [← hc]; exact lenB_int _ _
          have HR := Lib.hid hr; have HC := Lib.hid hc; have HLI := Lib.hid hli
          clear hr hc hli
          go_wp2_with (at_builtin; refine wpList_append_rowB _ rfl (.tmp 40) (.tmp 48) 27 5 rfl i0 Try.underlying27 hi hz0 hz1 hz2 L g3 cap3 (N + j) _ hl2 rfl (HR.out.alloc _) ⟨wr.heap.size, 0, none⟩ 1 1 [c] rfl rfl (by rw [show Lib.byteCells [c] = [Value.int .u8 ((s.size : Int) * 8 / 2 ^ (56 - 8 * j) % 256)] from by rw [HLI.out]; rfl]; exact cells_new _ _ _) hsm (by decide) ?_)
          intro g2 cap2 W2 hr2 hb2
          have hb2' : Below L w W2 := (hb.alloc hbs _).trans hb2
          have hbs2 : L ≤ W2.heap.size := by have := hr2.hlt; have := hr2.hbase; omega
          have HR2 := Lib.hid hr2; have HB2 := Lib.hid hb2'
          clear hr2 hb2 hb2' hl2
          go_wp2
          go_roundw
          case rel =>
            refine ⟨j + 1, g2, cap2, by go_num, by rw [Nat.add_assoc], by omega, ?_, HB2.out, hbs2⟩
            rw [lenL, HC.out]
            exact HR2.out
          case measure => simp [intOf]; omega
        · obtain rfl : j = 8 := by omega
          obtain ⟨ml, hml⟩ : ∃ ml, pre ++ lenL (s.size * 8) 8 = ml := ⟨_, rfl⟩
          have hmll : ml.length = N + 8 := by rw [← hml, List.length_append, lenL_len, hlen]
          rw [hml] at hr
          obtain ⟨M, hM⟩ : ∃ M, N + 8 = M := ⟨_, rfl⟩
          obtain ⟨Q, hQ⟩ : ∃ Q, M = 64 * Q := ⟨M / 64, by have := HN.out.2; omega⟩
          have hMs : M ≤ s.size + 100 := by have := HN.out.1; omega
          have hmt : ml = s.data.toList ++ tailL s.size := by
            rw [← hml, ← HQ.out.2.2.2, tailL]; simp [List.append_assoc]
          rw [hM]
          rw [hM] at hmll
          obtain ⟨H, hH⟩ : ∃ H, wr.heap.size = H := ⟨_, rfl⟩
          have hgH : g3 < H := by have := hr.hlt; omega
          have hLH : L ≤ H := by omega
          have z5 := zero5
          have z80 := zeroZ80
          have z80s := Z80_size
          have hcell5 : (wr.alloc (.cells #[.int .u32 1732584193, .int .u32 4023233417, .int .u32 2562383102, .int .u32 271733878, .int .u32 3285377520] 60)).rowIs H 60 5 (fun j => .int .u32 (five0.at j)) := by rw [← hH]; exact alloc5 wr
          have HR := Lib.hid hr; have HB := Lib.hid hb; have HM := Lib.hid (And.intro hmll (And.intro hQ (And.intro hMs hmt))); have H5 := Lib.hid hcell5
          clear hr hb hml hmll hQ hMs hmt hM hcell5
          rw [show ((8 : Nat) : Int) = 8 from rfl]
          go_wp2
          go_loopw [7] (fun i wq => ∃ (b : Nat), i = .int .i64 (64 * b : Nat) ∧ b ≤ Q ∧ wq.rowIs H 60 5 (fun j => .int .u32 ((hashN ml b).at j)) ∧ RowB wq L g3 cap3 ml ∧ Below L w wq)
            (fun i _ => M - (intOf i).toNat)
          case atStart => exact ⟨0, rfl, Nat.zero_le _, H5.out, HR.out.alloc _, HB.out.alloc hbs _⟩
          case round =>
            clear HR HB H5
            obtain ⟨b, rfl, hbQ, hr, hrb, hb⟩ := hrel
            obtain ⟨A, hA⟩ : ∃ A, 64 * b = A := ⟨_, rfl⟩
            rw [hA]
            by_cases hlb : b < Q
            · have hAM : (A : Int) < (M : Int) := by have := HM.out.2.1; omega
              have hA64 : A + 64 ≤ M := by have := HM.out.2.1; omega
              obtain ⟨hh, hhh⟩ : ∃ hh, hashN ml b = hh := ⟨_, rfl⟩
              rw [hhh] at hr
              obtain ⟨mb, hmb⟩ : ∃ mb, blk ml b = mb := ⟨_, rfl⟩
              have hnext : hashN ml (b + 1) = turnF mb hh := by rw [hashN, hmb, hhh]
              obtain ⟨X, hX⟩ : ∃ X, wr.heap.size = X := ⟨_, rfl⟩
              have hHX : H < X := by have := hr.lt; omega
              have hgX : g3 < X := by omega
              have hLX : L ≤ X := by omega
              have hx80 := allocZ80 wr
              have hstZ := storeZ80 wr
              rw [hX] at hx80 hstZ
              have HR := Lib.hid hr; have HRB := Lib.hid hrb; have HB := Lib.hid hb; have HX80 := Lib.hid hx80; have HNX := Lib.hid hnext; have HBQ := Lib.hid (And.intro hA (And.intro hlb hA64)); have HMB := Lib.hid hmb
              have HML := Lib.hid hhh
              clear hr hrb hb hx80 hnext hA hlb hA64 hmb hhh hbQ
              go_wp2
              go_loopw [9] (fun i wq => ∃ (t : Nat), i = .int .i64 t ∧ t ≤ 80 ∧ wq.rowIs X 65 80 (wcell (schedN mb t)) ∧ wq.rowIs H 60 5 (fun j => .int .u32 (hh.at j)) ∧ RowB wq L g3 cap3 ml ∧ Below L w wq)
                (fun i _ => 80 - (intOf i).toNat)
              case atStart => exact ⟨0, rfl, Nat.zero_le _, HX80.out, HR.out.alloc _, HRB.out.alloc _, HB.out.alloc (by omega) _⟩
              case round =>
                clear HR HRB HB HX80
                obtain ⟨t, rfl, ht, hx, hr, hrb, hb⟩ := hrel
                by_cases ht8 : t < 80
                · have cft := hx.frozen t
                  have ct := hx.cell ht8
                  by_cases ht6 : t < 16
                  · as_aux_lemma =>
                    obtain ⟨p0, e0⟩ : ∃ p, A + 4 * t = p := ⟨_, rfl⟩
                    obtain ⟨p1, e1⟩ : ∃ p, p0 + 1 = p := ⟨_, rfl⟩
                    obtain ⟨p2, e2⟩ : ∃ p, p0 + 2 = p := ⟨_, rfl⟩
                    obtain ⟨p3, e3⟩ : ∃ p, p0 + 3 = p := ⟨_, rfl⟩
                    have hA64 := HBQ.out.2.2
                    have hMs := HM.out.2.2.1
                    obtain ⟨t4, et4⟩ : ∃ p, 4 * t = p := ⟨_, rfl⟩
                    have it : 4 * (t : Int) = (t4 : Int) := by omega
                    have wt := wrap_mid t4 (le40 _ s.size hs (by omega))
                    have i0 : (A : Int) + (t4 : Int) = (p0 : Int) := by omega
                    have i1 : (p0 : Int) + 1 = (p1 : Int) := by omega
                    have i2 : (p0 : Int) + 2 = (p2 : Int) := by omega
                    have i3 : (p0 : Int) + 3 = (p3 : Int) := by omega
                    have w0 := wrap_mid p0 (le40 _ s.size hs (by omega))
                    have w1 := wrap_mid p1 (le40 _ s.size hs (by omega))
                    have w2 := wrap_mid p2 (le40 _ s.size hs (by omega))
                    have w3 := wrap_mid p3 (le40 _ s.size hs (by omega))
                    have n0 : (0 : Int) ≤ (p0 : Int) := by omega
                    have n1 : (0 : Int) ≤ (p1 : Int) := by omega
                    have n2 : (0 : Int) ≤ (p2 : Int) := by omega
                    have n3 : (0 : Int) ≤ (p3 : Int) := by omega
                    have m0 : (p0 : Int) < (M : Int) := by omega
                    have m1 : (p1 : Int) < (M : Int) := by omega
                    have m2 : (p2 : Int) < (M : Int) := by omega
                    have m3 : (p3 : Int) < (M : Int) := by omega
                    have hml := HM.out.1
                    obtain ⟨b0, q0, k0, r0⟩ := rowB_read hrb p0 (by omega)
                    obtain ⟨b1, q1, k1, r1⟩ := rowB_read hrb p1 (by omega)
                    obtain ⟨b2, q2, k2, r2⟩ := rowB_read hrb p2 (by omega)
                    obtain ⟨b3, q3, k3, r3⟩ := rowB_read hrb p3 (by omega)
                    have hw4 : bits .or .u32 (bits .or .u32 (bits .or .u32 (b0 * 16777216 % 4294967296) (b1 * 65536 % 4294967296)) (b2 * 256 % 4294967296)) b3 = wordAt mb t := by
                      rw [r0, r1, r2, r3, word4, wordAt, ← HMB.out, blk_getD _ _ _ (by omega), blk_getD _ _ _ (by omega), blk_getD _ _ _ (by omega), blk_getD _ _ _ (by omega), HBQ.out.1, ← Nat.add_assoc, ← Nat.add_assoc, ← Nat.add_assoc, e0, e1, e2, e3]
                    have HX := Lib.hid hx; have HR := Lib.hid hr; have HRB := Lib.hid hrb; have HB := Lib.hid hb; have HW := Lib.hid hw4; have HT := Lib.hid (And.intro ht8 ht6)
                    have ht6i : (t : Int) < 16 := by omega
                    clear hx hr hrb hb hw4 et4 e0 e1 e2 e3 hA64 hMs hml r0 r1 r2 r3 ht
                    go_wp2_with fail
                    go_still_tail 43, (by kernel_rfl)
                    go_wp2
                    go_roundw
                    case rel =>
                      rw [HW.out]
                      refine ⟨t + 1, by go_num, HT.out.1, ?_, (HR.out.drew).setOther (by show H ≠ X; omega) _, (HRB.out.drew).setCell (by show g3 ≠ X; omega) _, (HB.out.drew).setCell (by show L ≤ X; omega) _⟩
                      have hset := (HX.out.drew).set t (.int .u32 (wordAt mb t))
                      rw [show (fun j' => if j' = t then Value.int .u32 (wordAt mb t) else wcell (schedN mb t) j') = wcell (schedN mb (t + 1)) from by
                        have := wcell_snoc (schedN mb t) (wordAt mb t)
                        rw [schedN_len] at this
                        rw [this, schedN, if_pos HT.out.2]] at hset
                      exact hset
                    case measure => simp [intOf]; omega
                  · as_aux_lemma =>
                    obtain ⟨p3, q3⟩ : ∃ p, t - 3 = p := ⟨_, rfl⟩
                    obtain ⟨p8, q8⟩ : ∃ p, t - 8 = p := ⟨_, rfl⟩
                    obtain ⟨p14, q14⟩ : ∃ p, t - 14 = p := ⟨_, rfl⟩
                    obtain ⟨p16, q16⟩ : ∃ p, t - 16 = p := ⟨_, rfl⟩
                    have r3 : (t : Int) - 3 = (p3 : Int) := by omega
                    have r8 : (t : Int) - 8 = (p8 : Int) := by omega
                    have r14 : (t : Int) - 14 = (p14 : Int) := by omega
                    have r16 : (t : Int) - 16 = (p16 : Int) := by omega
                    have l3 : (p3 : Int) < 80 := by omega
                    have l8 : (p8 : Int) < 80 := by omega
                    have l14 : (p14 : Int) < 80 := by omega
                    have l16 : (p16 : Int) < 80 := by omega
                    have w3 := wrap_small p3 (by omega)
                    have w8 := wrap_small p8 (by omega)
                    have w14 := wrap_small p14 (by omega)
                    have w16 := wrap_small p16 (by omega)
                    have n3 : (0 : Int) ≤ (p3 : Int) := by omega
                    have n8 : (0 : Int) ≤ (p8 : Int) := by omega
                    have n14 : (0 : Int) ≤ (p14 : Int) := by omega
                    have n16 : (0 : Int) ≤ (p16 : Int) := by omega
                    have ni : (0 : Int) ≤ (t : Int) := by omega
                    have hti : decide ((t : Int) < 16) = false := decide_eq_false (by omega)
                    obtain ⟨l, hl⟩ : ∃ l, schedN mb t = l := ⟨_, rfl⟩
                    have hll : l.length = t := by rw [← hl, schedN_len]
                    rw [hl] at hx
                    obtain ⟨v3, e3⟩ : ∃ v, l.getD p3 0 = v := ⟨_, rfl⟩
                    obtain ⟨v8, e8⟩ : ∃ v, l.getD p8 0 = v := ⟨_, rfl⟩
                    obtain ⟨v14, e14⟩ : ∃ v, l.getD p14 0 = v := ⟨_, rfl⟩
                    obtain ⟨v16, e16⟩ : ∃ v, l.getD p16 0 = v := ⟨_, rfl⟩
                    have c3 := hx.cell (i := p3) (by omega)
                    have c8 := hx.cell (i := p8) (by omega)
                    have c14 := hx.cell (i := p14) (by omega)
                    have c16 := hx.cell (i := p16) (by omega)
                    rw [wcell_at l p3 v3 e3] at c3
                    rw [wcell_at l p8 v8 e8] at c8
                    rw [wcell_at l p14 v14 e14] at c14
                    rw [wcell_at l p16 v16 e16] at c16
                    have HX := Lib.hid hx; have HR := Lib.hid hr; have HRB := Lib.hid hrb; have HB := Lib.hid hb; have HE := Lib.hid (And.intro e3 (And.intro e8 (And.intro e14 e16)))
                    have HQ2 := Lib.hid (And.intro q3 (And.intro q8 (And.intro q14 (And.intro q16 (And.intro ht6 (And.intro hl (And.intro hll ht8)))))))
                    clear hx hr hrb hb e3 e8 e14 e16 q3 q8 q14 q16 hl hll ht6 ht
                    go_wp2_with fail
                    go_still_tail 22, (by kernel_rfl)
                    still_call (rleft1_any _ _)
                    repeat still_step
                    refine wpStill_nil ?_
                    go_wp2
                    go_roundw
                    case rel =>
                      obtain ⟨q3, q8, q14, q16, ht6, hl, hll, ht8'⟩ := HQ2.out
                      obtain ⟨e3, e8, e14, e16⟩ := HE.out
                      refine ⟨t + 1, by go_num, ht8', ?_, (HR.out.drew).setOther (by show H ≠ X; omega) _, (HRB.out.drew).setCell (by show g3 ≠ X; omega) _, (HB.out.drew).setCell (by show L ≤ X; omega) _⟩
                      have hset := (HX.out.drew).set t (.int .u32 (rotN 1 (bits .xor .u32 (bits .xor .u32 (bits .xor .u32 v3 v8) v14) v16)))
                      rw [show (fun j' => if j' = t then Value.int .u32 (rotN 1 (bits .xor .u32 (bits .xor .u32 (bits .xor .u32 v3 v8) v14) v16)) else wcell l j') = wcell (schedN mb (t + 1)) from by
                        have := wcell_snoc l (rotN 1 (bits .xor .u32 (bits .xor .u32 (bits .xor .u32 v3 v8) v14) v16))
                        rw [hll] at this
                        rw [this, schedN, if_neg ht6, hl]; unfold snext xw; rw [q3, q8, q14, q16, e3, e8, e14, e16]] at hset
                      exact hset
                    case measure => simp [intOf]; omega
                · obtain rfl : t = 80 := by omega
                  rw [schedN_80] at hx
                  have g0 := hr.cell (i := 0) (by decide)
                  have g1' := hr.cell (i := 1) (by decide)
                  have g2 := hr.cell (i := 2) (by decide)
                  have g3' := hr.cell (i := 3) (by decide)
                  have g4 := hr.cell (i := 4) (by decide)
                  have HX := Lib.hid hx; have HR := Lib.hid hr; have HRB := Lib.hid hrb; have HB := Lib.hid hb
                  clear hx hr hrb hb z80 z80s z5
                  rw [show ((80 : Nat) : Int) = 80 from rfl]
                  go_wp2_with fail
                  go_still (by kernel_rfl)
                  clear g0 g1' g2 g3' g4
                  go_wp2
                  go_loopw [15, 10, 11, 12, 13, 14] (fun i a b c d e wq => ∃ (k : Nat), i = .int .i64 k ∧ k ≤ 80 ∧ a = .int .u32 (rounds (sched80 mb) k hh).a ∧ b = .int .u32 (rounds (sched80 mb) k hh).b ∧ c = .int .u32 (rounds (sched80 mb) k hh).c ∧ d = .int .u32 (rounds (sched80 mb) k hh).d ∧ e = .int .u32 (rounds (sched80 mb) k hh).e ∧ wq.rowIs X 65 80 (wcell (sched80 mb)) ∧ wq.rowIs H 60 5 (fun j => .int .u32 (hh.at j)) ∧ RowB wq L g3 cap3 ml ∧ Below L w wq)
                    (fun i _ _ _ _ _ _ => 80 - (intOf i).toNat)
                  case atStart => exact ⟨0, rfl, Nat.zero_le _, rfl, rfl, rfl, rfl, rfl, HX.out.drew, HR.out.drew, HRB.out.drew, HB.out.drew⟩
                  case round =>
                    clear HX HR HRB HB
                    obtain ⟨k, rfl, hk3, rfl, rfl, rfl, rfl, rfl, hx, hr, hrb, hb⟩ := hrel
                    by_cases hlt3 : k < 80
                    · obtain ⟨⟨a, b, c, d, e⟩, hst⟩ : ∃ q, rounds (sched80 mb) k hh = q := ⟨_, rfl⟩
                      rw [hst]
                      obtain ⟨v, hv⟩ : ∃ v, (sched80 mb).getD k 0 = v := ⟨_, rfl⟩
                      have ck := hx.cell (i := k) (by omega)
                      rw [wcell_at _ k v hv] at ck
                      have hkk : rounds (sched80 mb) (k + 1) hh = rnd k v ⟨a, b, c, d, e⟩ := by rw [rounds, hst, hv]
                      have k0 : (0 : Int) ≤ (k : Int) := by omega
                      have k80 : (k : Int) < 80 := by omega
                      have HX := Lib.hid hx; have HR := Lib.hid hr; have HRB := Lib.hid hrb; have HB := Lib.hid hb; have HKK := Lib.hid hkk
                      clear hx hr hrb hb hkk hst hv
                      have hq4 : k / 20 = 0 ∨ k / 20 = 1 ∨ k / 20 = 2 ∨ k / 20 = 3 := by omega
                      rcases hq4 with hq | hq | hq | hq
                      · as_aux_lemma =>
                        have hq1 : decide (60 ≤ (k : Int)) = false := decide_eq_false (by omega)
                        have hq2 : decide (40 ≤ (k : Int)) = false := decide_eq_false (by omega)
                        have hq3 : decide (20 ≤ (k : Int)) = false := decide_eq_false (by omega)
                        have HQ3 := Lib.hid hq; clear hq
                        go_wp2_with fail
                        refine wp_region_still_lit (by kernel_rfl) (by kernel_rfl) ?_
                        repeat still_step
                        still_call (rleft5_any _ _)
                        repeat still_step
                        refine wpStill_nil ?_
                        go_wp2_with (go_at_call 41; refine (rleft30_any _ _).mono ?_)
                        rintro e' w5 ⟨rfl, rfl⟩
                        go_wp2
                        go_roundw
                        case rel =>
                          refine ⟨k + 1, by go_num, by omega, ?_, ?_, ?_, ?_, ?_, HX.out.drew, HR.out.drew, HRB.out.drew, HB.out.drew⟩
                          · rw [HKK.out]; exact congrArg (Value.int IntKind.u32) (rnd0_a k v a b c d e HQ3.out).symm
                          all_goals (rw [HKK.out]; rfl)
                        case measure => simp [intOf]; omega
                      · as_aux_lemma =>
                        have hq1 : decide (60 ≤ (k : Int)) = false := decide_eq_false (by omega)
                        have hq2 : decide (40 ≤ (k : Int)) = false := decide_eq_false (by omega)
                        have hq3 : decide (20 ≤ (k : Int)) = true := decide_eq_true (by omega)
                        have HQ3 := Lib.hid hq; clear hq
                        go_wp2_with fail
                        refine wp_region_still_lit (by kernel_rfl) (by kernel_rfl) ?_
                        repeat still_step
                        still_call (rleft5_any _ _)
                        repeat still_step
                        refine wpStill_nil ?_
                        go_wp2_with (go_at_call 41; refine (rleft30_any _ _).mono ?_)
                        rintro e' w5 ⟨rfl, rfl⟩
                        go_wp2
                        go_roundw
                        case rel =>
                          refine ⟨k + 1, by go_num, by omega, ?_, ?_, ?_, ?_, ?_, HX.out.drew, HR.out.drew, HRB.out.drew, HB.out.drew⟩
                          · rw [HKK.out]; exact congrArg (Value.int IntKind.u32) (rnd1_a k v a b c d e HQ3.out).symm
                          all_goals (rw [HKK.out]; rfl)
                        case measure => simp [intOf]; omega
                      · as_aux_lemma =>
                        have hq1 : decide (60 ≤ (k : Int)) = false := decide_eq_false (by omega)
                        have hq2 : decide (40 ≤ (k : Int)) = true := decide_eq_true (by omega)
                        have hq3 : decide (20 ≤ (k : Int)) = true := decide_eq_true (by omega)
                        have HQ3 := Lib.hid hq; clear hq
                        go_wp2_with fail
                        refine wp_region_still_lit (by kernel_rfl) (by kernel_rfl) ?_
                        repeat still_step
                        still_call (rleft5_any _ _)
                        repeat still_step
                        refine wpStill_nil ?_
                        go_wp2_with (go_at_call 41; refine (rleft30_any _ _).mono ?_)
                        rintro e' w5 ⟨rfl, rfl⟩
                        go_wp2
                        go_roundw
                        case rel =>
                          refine ⟨k + 1, by go_num, by omega, ?_, ?_, ?_, ?_, ?_, HX.out.drew, HR.out.drew, HRB.out.drew, HB.out.drew⟩
                          · rw [HKK.out]; exact congrArg (Value.int IntKind.u32) (rnd2_a k v a b c d e HQ3.out).symm
                          all_goals (rw [HKK.out]; rfl)
                        case measure => simp [intOf]; omega
                      · as_aux_lemma =>
                        have hq1 : decide (60 ≤ (k : Int)) = true := decide_eq_true (by omega)
                        have hq2 : decide (40 ≤ (k : Int)) = true := decide_eq_true (by omega)
                        have hq3 : decide (20 ≤ (k : Int)) = true := decide_eq_true (by omega)
                        have HQ3 := Lib.hid hq; clear hq
                        go_wp2_with fail
                        refine wp_region_still_lit (by kernel_rfl) (by kernel_rfl) ?_
                        repeat still_step
                        still_call (rleft5_any _ _)
                        repeat still_step
                        refine wpStill_nil ?_
                        go_wp2_with (go_at_call 41; refine (rleft30_any _ _).mono ?_)
                        rintro e' w5 ⟨rfl, rfl⟩
                        go_wp2
                        go_roundw
                        case rel =>
                          refine ⟨k + 1, by go_num, by omega, ?_, ?_, ?_, ?_, ?_, HX.out.drew, HR.out.drew, HRB.out.drew, HB.out.drew⟩
                          · rw [HKK.out]; exact congrArg (Value.int IntKind.u32) (rnd3_a k v a b c d e HQ3.out).symm
                          all_goals (rw [HKK.out]; rfl)
                        case measure => simp [intOf]; omega
                    · obtain rfl : k = 80 := by omega
                      obtain ⟨z, hst⟩ : ∃ z, rounds (sched80 mb) 80 hh = z := ⟨_, rfl⟩
                      have hfin : turnF mb hh = hh.plus z := by unfold turnF; rw [hst]
                      rw [hst]
                      have hn2 := HNX.out
                      rw [hfin] at hn2
                      rw [show ((80 : Nat) : Int) = 80 from rfl]
                      have hr0 : wr.rowIs H 60 5 (fun j => .int .u32 ((mixF hh z 0).at j)) := by rw [mixF_zero]; exact hr
                      have HRB := Lib.hid hrb; have HB := Lib.hid hb; have HN2 := Lib.hid hn2
                      clear hx hr hrb hb hfin hst hn2
                      have c0 := h5_read (by decide) hr0
                      have f0 := hr0.frozen 0
                      have hs0 := h5_set (by decide) hr0
                      have HR0' := Lib.hid hs0; clear hs0 hr0
                      go_upto_region 34 with fail
                      change Code.wp _ _ _ _ (wr.setCell ⟨H, 0, none⟩ (.int .u32 (aw (hh.at 0) (z.at 0))))
                      have hr1 := HR0'.out
                      have hb0 := (HB.out.setCell (p := ⟨H, 0, none⟩) (by show L ≤ H; omega) (.int .u32 (aw (hh.at 0) (z.at 0))))
                      have hrb0 := (HRB.out.setCell (a := ⟨H, 0, none⟩) (by show g3 ≠ H; omega) (.int .u32 (aw (hh.at 0) (z.at 0))))
                      clear HR0' HB HRB c0 f0
                      obtain ⟨V1, hV1⟩ : ∃ V, wr.setCell ⟨H, 0, none⟩ (.int .u32 (aw (hh.at 0) (z.at 0))) = V := ⟨_, rfl⟩
                      rw [hV1] at hr1 hb0 hrb0 ⊢
                      have HB1 := Lib.hid hb0; have HRB1 := Lib.hid hrb0
                      clear hV1 hb0 hrb0
                      have c1 := h5_read (by decide) hr1
                      have f1 := hr1.frozen 1
                      have hs1 := h5_set (by decide) hr1
                      have HR1' := Lib.hid hs1; clear hs1 hr1
                      go_upto_region 35 with fail
                      change Code.wp _ _ _ _ (V1.setCell ⟨H, 1, none⟩ (.int .u32 (aw (hh.at 1) (z.at 1))))
                      have hr2 := HR1'.out
                      have hb1 := (HB1.out.setCell (p := ⟨H, 1, none⟩) (by show L ≤ H; omega) (.int .u32 (aw (hh.at 1) (z.at 1))))
                      have hrb1 := (HRB1.out.setCell (a := ⟨H, 1, none⟩) (by show g3 ≠ H; omega) (.int .u32 (aw (hh.at 1) (z.at 1))))
                      clear HR1' HB1 HRB1 c1 f1
                      obtain ⟨V2, hV2⟩ : ∃ V, V1.setCell ⟨H, 1, none⟩ (.int .u32 (aw (hh.at 1) (z.at 1))) = V := ⟨_, rfl⟩
                      rw [hV2] at hr2 hb1 hrb1 ⊢
                      have HB2 := Lib.hid hb1; have HRB2 := Lib.hid hrb1
                      clear hV2 hb1 hrb1
                      have c2 := h5_read (by decide) hr2
                      have f2 := hr2.frozen 2
                      have hs2 := h5_set (by decide) hr2
                      have HR2' := Lib.hid hs2; clear hs2 hr2
                      go_upto_region 36 with fail
                      change Code.wp _ _ _ _ (V2.setCell ⟨H, 2, none⟩ (.int .u32 (aw (hh.at 2) (z.at 2))))
                      have hr3 := HR2'.out
                      have hb2 := (HB2.out.setCell (p := ⟨H, 2, none⟩) (by show L ≤ H; omega) (.int .u32 (aw (hh.at 2) (z.at 2))))
                      have hrb2 := (HRB2.out.setCell (a := ⟨H, 2, none⟩) (by show g3 ≠ H; omega) (.int .u32 (aw (hh.at 2) (z.at 2))))
                      clear HR2' HB2 HRB2 c2 f2
                      obtain ⟨V3, hV3⟩ : ∃ V, V2.setCell ⟨H, 2, none⟩ (.int .u32 (aw (hh.at 2) (z.at 2))) = V := ⟨_, rfl⟩
                      rw [hV3] at hr3 hb2 hrb2 ⊢
                      have HB3 := Lib.hid hb2; have HRB3 := Lib.hid hrb2
                      clear hV3 hb2 hrb2
                      have c3 := h5_read (by decide) hr3
                      have f3 := hr3.frozen 3
                      have hs3 := h5_set (by decide) hr3
                      have HR3' := Lib.hid hs3; clear hs3 hr3
                      go_upto_region 37 with fail
                      change Code.wp _ _ _ _ (V3.setCell ⟨H, 3, none⟩ (.int .u32 (aw (hh.at 3) (z.at 3))))
                      have hr4 := HR3'.out
                      have hb3 := (HB3.out.setCell (p := ⟨H, 3, none⟩) (by show L ≤ H; omega) (.int .u32 (aw (hh.at 3) (z.at 3))))
                      have hrb3 := (HRB3.out.setCell (a := ⟨H, 3, none⟩) (by show g3 ≠ H; omega) (.int .u32 (aw (hh.at 3) (z.at 3))))
                      clear HR3' HB3 HRB3 c3 f3
                      obtain ⟨V4, hV4⟩ : ∃ V, V3.setCell ⟨H, 3, none⟩ (.int .u32 (aw (hh.at 3) (z.at 3))) = V := ⟨_, rfl⟩
                      rw [hV4] at hr4 hb3 hrb3 ⊢
                      have HB4 := Lib.hid hb3; have HRB4 := Lib.hid hrb3
                      clear hV4 hb3 hrb3
                      have c4 := h5_read (by decide) hr4
                      have f4 := hr4.frozen 4
                      have hs4 := h5_set (by decide) hr4
                      have HR4' := Lib.hid hs4; clear hs4 hr4
                      go_upto_region 12 with fail
                      change Code.wp _ _ _ _ (V4.setCell ⟨H, 4, none⟩ (.int .u32 (aw (hh.at 4) (z.at 4))))
                      have hr5 := HR4'.out
                      have hb4 := (HB4.out.setCell (p := ⟨H, 4, none⟩) (by show L ≤ H; omega) (.int .u32 (aw (hh.at 4) (z.at 4))))
                      have hrb4 := (HRB4.out.setCell (a := ⟨H, 4, none⟩) (by show g3 ≠ H; omega) (.int .u32 (aw (hh.at 4) (z.at 4))))
                      clear HR4' HB4 HRB4 c4 f4
                      obtain ⟨V5, hV5⟩ : ∃ V, V4.setCell ⟨H, 4, none⟩ (.int .u32 (aw (hh.at 4) (z.at 4))) = V := ⟨_, rfl⟩
                      rw [hV5] at hr5 hb4 hrb4 ⊢
                      have HB5 := Lib.hid hb4; have HRB5 := Lib.hid hrb4
                      clear hV5 hb4 hrb4
                      obtain ⟨A2, hA2⟩ : ∃ A2, A + 64 = A2 := ⟨_, rfl⟩
                      have iA : (A : Int) + 64 = (A2 : Int) := by omega
                      have wA := wrap_mid A2 (le40 _ s.size hs (by have := HBQ.out.2.2; have := HM.out.2.2.1; omega))
                      rw [mixF_five] at hr5
                      have HR5 := Lib.hid hr5; have HA2 := Lib.hid hA2
                      clear hr5 hA2
                      go_wp2
                      go_roundw
                      case rel =>
                        refine ⟨b + 1, by rw [show 64 * (b + 1) = A2 from by have := HBQ.out.1; have := HA2.out; omega], by have := HBQ.out.2.1; omega, ?_, HRB5.out, HB5.out⟩
                        rw [HN2.out]
                        exact HR5.out
                      case measure =>
                        have := HA2.out
                        have := HBQ.out.2.2
                        simp [intOf]; omega
            · have hbq : b = Q := by omega
              obtain ⟨hf, hhf⟩ : ∃ hf, hashN ml b = hf := ⟨_, rfl⟩
              rw [hhf] at hr
              have hAM : decide (A < M) = false := decide_eq_false (by have := HM.out.2.1; omega)
              obtain ⟨B, hB⟩ : ∃ B, wr.heap.size = B := ⟨_, rfl⟩
              have hHB : H < B := by have := hr.lt; omega
              have HR := Lib.hid hr; have HB := Lib.hid hb; have HHF := Lib.hid (And.intro hhf (And.intro hbq hA)); have HBB := Lib.hid hB
              have how := World.ownsRow_made (e := 5) (size := 1) wr #[] 0 (Nat.le_refl _) (by simp) rfl
              rw [hB] at how
              have HOW := Lib.hid how
              clear hr hb hrb hhf hbq hA how z80 z80s z5 hlb
              go_wp2
              go_loopw [20, 19] (fun i v wq => ∃ (j : Nat), i = .int .i64 j ∧ j ≤ 5 ∧ wq.ownsRow B 5 1 v (4 * j) (Lib.byteCells (outN hf j)) ∧ wq.rowIs H 60 5 (fun j => .int .u32 (hf.at j)) ∧ Below L w wq ∧ B ≤ wq.heap.size)
                (fun i _ _ => 5 - (intOf i).toNat)
              case atStart => exact ⟨0, rfl, Nat.zero_le _, HOW.out, HR.out.alloc _, HB.out.alloc (by omega) _, by have := HBB.out; simp; omega⟩
              case round =>
                clear HOW HR HB HBB
                obtain ⟨j, rfl, hj, how, hr, hb, hbs2⟩ := hrel
                by_cases hlj : j < 5
                · have j0 : (0 : Int) ≤ (j : Int) := by omega
                  have j5 : (j : Int) < 5 := by omega
                  obtain ⟨v, hv⟩ : ∃ v, hf.at j = v := ⟨_, rfl⟩
                  have cj : wr.cell? ⟨H, j, none⟩ = some (.int .u32 v) := by rw [← hv]; exact hr.cell hlj
                  have k2 : (4 * j + 4) * 1 ≤ 140737488355328 := le47 _ (by omega)
                  have hm4 : 4 * j + 4 ≤ maxLen := by unfold maxLen; omega
                  have hob := bytes4 v ⟨ob_int v 16777216, ob_int v 65536, ob_int v 256, ob_int v 1⟩
                  have HOW := Lib.hid how; have HR := Lib.hid hr; have HB := Lib.hid hb; have HV := Lib.hid hv; have HOB := Lib.hid hob; have HJ := Lib.hid hlj; have HCJ := Lib.hid cj
                  clear how hr hb hv hob hlj hj cj
                  go_wp2
                  refine wp_region_textH (fun w => w.cell? ⟨H, j, none⟩ = some (.int .u32 v)) [(0, true), (1, true), (2, true), (3, true), (4, true), (5, true), (6, true), (7, true), (8, true), (9, true), (10, true), (11, true), (12, true), (13, true), (14, true), (15, true), (16, true), (17, true), (18, true), (19, true), (20, false), (21, false), (22, true)] (by kernel_rfl) (by kernel_rfl) (by kernel_rfl) (by kernel_rfl) HCJ.out ?_
                  repeat (refine wpTxH_take rfl (by rfl) (v := ?_) ?_ ?_; rotate_left; · (intro w hS; have hS2 : w.cell? ⟨H, j, none⟩ = some (.int .u32 v) := hS; clear hS; go_simp; with_reducible rfl))
                  refine wpTxH_step rfl (fun K hK => ?_)
                  go_simp
                  refine hK _ _ ?_ ?_
                  · exact cell_keep HCJ.out HR.out.lt _
                  · clear hK K
                    refine wpTxH_step rfl (fun K hK => ?_)
                    refine step_append_own rfl (.tmp 226) (.tmp 246) 27 rfl B 5 i0 (.int .u8 0) 1 1 Try.underlying27 hi hz0 hz1 hz2 rfl (by decide) _ _ _ rfl ((HOW.out.alloc _).drew) ⟨wr.heap.size, 0, none⟩ 4 4 [.int .u8 (IntKind.u8.wrap (v / 16777216)), .int .u8 (IntKind.u8.wrap (v / 65536)), .int .u8 (IntKind.u8.wrap (v / 256)), .int .u8 (IntKind.u8.wrap v)] rfl rfl (cells_new wr 5 _) (by simp [Value.oneCell']) hm4 k2 (by simp; omega) ?_
                    intro v1 w1 hI1 hg1
                    refine hK _ _ ?_ ?_
                    · exact hg1.cell (cell_keep HCJ.out HR.out.lt _) (fun e => by have := (HOW.out.lt H e.symm).1; omega)
                    · clear hK K
                      have hb1 : Below L w w1 := ((HB.out.alloc (by omega) _).drew).grown hg1 (by simp; omega) (fun k hk => by have := (HOW.out.lt k hk).1; omega)
                      have hr1 : w1.rowIs H 60 5 (fun j => .int .u32 (hf.at j)) := ((HR.out.alloc _).drew).of_block (hg1.block H (by have := HR.out.lt; simp; omega) (fun e => by have := (HOW.out.lt H e.symm).1; omega))
                      have hB1 : B ≤ w1.heap.size := by have := hg1.size; simp at this; omega
                      rw [show [Value.int .u8 (IntKind.u8.wrap (v / 16777216)), .int .u8 (IntKind.u8.wrap (v / 65536)), .int .u8 (IntKind.u8.wrap (v / 256)), .int .u8 (IntKind.u8.wrap v)] = Lib.byteCells (out4 v) from HOB.out, ← Lib.byteCells_append] at hI1
                      have HI1 := Lib.hid hI1; have HB1 := Lib.hid hb1; have HR1 := Lib.hid hr1
                      clear hI1 hb1 hr1 hg1
                      refine wpTxH_take rfl (by rfl) (v := ?_) ?_ ?_
                      rotate_left
                      · intro w hS; clear hS; go_simp; with_reducible rfl
                      refine wpTxH_nil ?_
                      go_simp
                      go_wp2
                      go_roundw
                      case rel =>
                        refine ⟨j + 1, by go_num, HJ.out, ?_, HR1.out, HB1.out, hB1⟩
                        rw [show 4 * (j + 1) = 4 * j + 4 from by omega, outN, HV.out]
                        exact HI1.out
                      case measure => simp [intOf]; omega
                · obtain rfl : j = 5 := by omega
                  have hcv := run_str_own wr 27 5 Try.underlying27 Try.underlying5 how 9 Try.underlying9
                  have hfin : outF hf = shaR s.data.toList := by
                    have h1 := HM.out.2.2.2
                    have h2 := HHF.out
                    have h3 := HM.out.1
                    have h4 := HM.out.2.1
                    unfold shaR
                    rw [← size_list] at h1
                    rw [← h1, h3, h4, show 64 * Q / 64 = Q from by omega, ← h2.2.1, h2.1]
                  have HFI := Lib.hid hfin
                  clear how hr hfin
                  go_wp2
                  go_ret
                  refine ⟨?_, by rw [hL]; exact hb⟩
                  rw [← HFI.out]
                  rfl
    · have hq0' : ((q : Int) == 56) = false := by simp; omega
      have hkl : k < zc (s.size + 1) := by
        rcases Nat.lt_or_ge k (zc (s.size + 1)) with h | h
        · exact h
        · exfalso; have : k = zc (s.size + 1) := by omega
          unfold zc at this; omega
      have hsm : N + 1 ≤ 140737488355328 := le47 _ (le40 _ s.size hs (by omega))
      have hbs : L ≤ wr.heap.size := by have := hr.hlt; have := hr.hbase; omega
      have HR := Lib.hid hr; have HQ := Lib.hid (And.intro hN (And.intro hq (And.intro hkl hq0)))
      clear hr hN hq hkl hq0 hk hz64
      go_wp2_with (at_builtin; refine wpList_append_rowB _ rfl (.tmp 29) (.tmp 30) 27 5 rfl i0 Try.underlying27 hi hz0 hz1 hz2 L g cap N _ hlen rfl (HR.out.alloc _) ⟨wr.heap.size, 0, none⟩ 1 1 [0] rfl rfl (cells_new _ _ _) hsm (by decide) ?_)
      intro g2 cap2 W2 hr2 hb2
      have hb2' : Below L w W2 := (hb.alloc hbs _).trans hb2
      have HR2 := Lib.hid hr2; have HB2 := Lib.hid hb2'
      clear hr2 hb2 hb2' hlen
      go_wp2
      go_roundw
      case rel =>
        refine ⟨k + 1, g2, cap2, by rw [← HQ.out.1, ← Nat.add_assoc], HQ.out.2.2.1, ?_, HB2.out⟩
        have := HR2.out
        rw [List.replicate_succ']
        simpa [List.append_assoc] using this
      case measure => exact zc_next N (by rw [HQ.out.2.1]; exact HQ.out.2.2.2)
end Go.Proofs.Ytpehogkgiikjmaa
