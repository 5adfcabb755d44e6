/- ShaD, ShaL, Enc: texts of the seat, one behind the other (a claim holds at most sixty). Conditions: each theorem names its own. -/
import Derived.Test.YtdlpbpikhmciaaaGreatDoorPk20
import Derived.Test.YtdlpbpikhmciaaaGreatDoorPk04
import Derived.Deep.MidRow
import Derived.Deep.WholeRow
import Derived.Deep.Cut
import Derived.Test.YtdlpbpikhmciaaaGreatDoorPa02
namespace Go.Proofs.YtdlpbpikhmciaaaGreatDoor
open Go.RowKit
set_option linter.unusedSimpArgs false
set_option linter.unusedVariables false
def sumZ : Array Value := (Array.replicate 5 (Value.int .u32 0) ++ Array.replicate 64 (Value.int .u8 0)).push (.int .i64 0)
theorem zeroSum (w : World) : (zeroValue 294).run Tryz.prog w = .ok (.agg sumZ) w := by kernel_rfl
theorem sumZ_size : sumZ.size = 70 := by kernel_rfl
theorem rowIs_fn (w : World) (T : TypeId) (f : Nat → Value) : (w.alloc (.cells (Array.ofFn (n := 70) fun i => f i.val) T)).rowIs w.heap.size T 70 f := by
  have := World.rowIs_alloc w (Array.ofFn (n := 70) fun i => f i.val) T f (fun i hi => by simp at hi; simp [hi])
  simpa using this
theorem new_cells : ((((sumZ.setIfInBounds 0 (Value.int IntKind.u32 1732584193)).setIfInBounds 1 (Value.int IntKind.u32 4023233417)).setIfInBounds 2 (Value.int IntKind.u32 2562383102)).setIfInBounds 3 (Value.int IntKind.u32 271733878)).setIfInBounds 4 (Value.int IntKind.u32 3285377520) = Array.ofFn (n := 70) fun i => stCell st0 i.val := by kernel_rfl
set_option maxRecDepth 1000000 in
set_option maxHeartbeats 4000000 in
theorem new_any (w : World) :
    Calls Tryz.prog 193 #[] w fun e w' => e = .returned (.pointer (some ⟨w.heap.size, 0, none⟩)) ∧ w'.rowIs w.heap.size 294 70 (stCell st0) ∧ Below w.heap.size w w' := by
  have z := zeroSum
  have zs := sumZ_size
  have zc := new_cells
  go_enter Tryz.func193, Tryz.ntmps193
  go_wp2
  go_ret
  exact ⟨rfl, rowIs_fn _ _ _, (Below.refl _ w).alloc (Nat.le_refl _) _⟩
theorem idx5 (h : Five) (j : Nat) (hj : j < 5) (w : World) : (Instr.index 291 (.agg #[.int .u32 (h.at 0), .int .u32 (h.at 1), .int .u32 (h.at 2), .int .u32 (h.at 3), .int .u32 (h.at 4)]) (.int .i64 (j : Int))).run Tryz.prog w = .ok (.int .u32 (h.at j)) w := by
  match j, hj with
  | 0, _ => exact idx5_0 _ _ _ _ _ w
  | 1, _ => exact idx5_1 _ _ _ _ _ w
  | 2, _ => exact idx5_2 _ _ _ _ _ w
  | 3, _ => exact idx5_3 _ _ _ _ _ w
  | 4, _ => exact idx5_4 _ _ _ _ _ w
theorem bytes4 (v : Int) (h : ((ob v 16777216).toNat : Int) = v / 16777216 % 256 ∧ ((ob v 65536).toNat : Int) = v / 65536 % 256 ∧ ((ob v 256).toNat : Int) = v / 256 % 256 ∧ ((ob v 1).toNat : Int) = v / 1 % 256) :
    [Value.int .u8 (v / 16777216 % 256), Value.int .u8 (v / 65536 % 256), Value.int .u8 (v / 256 % 256), Value.int .u8 (v % 256)] = Lib.byteCells (out4 v) := by
  obtain ⟨h1, h2, h3, h4⟩ := h
  rw [Int.ediv_one] at h4
  simp only [out4, Lib.byteCells, List.map_cons, List.map_nil, h1, h2, h3, h4]
theorem zero8 (w : World) : (zeroValue 223).run Tryz.prog w = .ok (.agg (Array.replicate 8 (.int .u8 0))) w := by kernel_rfl
theorem alloc8 (w : World) : (w.alloc (.cells (Array.replicate 8 (.int .u8 0)) 223)).rowIs w.heap.size 223 8 (bcell []) :=
  (World.rowIs_alloc w (Array.replicate 8 (.int .u8 0)) 223 (bcell []) (fun i hi => by simp at hi; simp [hi, bcell])).congr (fun i _ => rfl)
set_option maxRecDepth 1000000 in
set_option maxHeartbeats 4000000 in
theorem done_any (x : Nat) (st : St) (w : World) (hm : st.m.length = 64) (hn : st.n ≤ 1152921504606846976) (hx : w.rowIs x 294 70 (stCell st)) :
    Calls Tryz.prog 195 #[.pointer (some ⟨x, 0, none⟩)] w fun e w' => e = .returned (.string ⟨(outF (feed st (tailL st.n)).h).toArray⟩) ∧ Below w.heap.size w w' := by
  have c := sum_size hx
  have z := zeroSum
  have zs := sumZ_size
  have hra : w.rangeAt x 0 ((Array.ofFn (n := 70) fun i => stCell st i.val).toList) := by
    intro j v hv
    rw [Array.getElem?_toList] at hv
    by_cases hj : j < 70
    · rw [Nat.zero_add, hx.cell hj]
      simpa [hj] using hv
    · simp [hj] at hv
  have HRA := Lib.hid hra; have HX := Lib.hid hx; clear hx hra
  go_enter Tryz.func195, Tryz.ntmps195
  go_upto_region 1 with fail
  iterate 8 go_step
  refine wp_load_mid 294 (.tmp 11) rfl x 0 rfl _ _ HRA.out Tryz.underlying294 (by rfl) (by kernel_rfl) ?_
  have hoc : (Array.ofFn (n := 70) fun i => stCell st i.val).all (·.oneCell') = true := by
    rw [Array.all_eq_true]
    intro i hi
    rw [Array.getElem_ofFn]
    unfold stCell sumCell
    split
    · rfl
    · split <;> rfl
  have hcz : (Array.ofFn (n := 70) fun i => stCell st i.val).size = 70 := by simp
  obtain ⟨cl, hcl⟩ : ∃ cl, (Array.ofFn (n := 70) fun i => stCell st i.val) = cl := ⟨_, rfl⟩
  rw [hcl] at hoc hcz ⊢
  simp only [Array.toArray_toList]
  iterate 6 go_step
  rw [run_storeCells_new w 294 sumZ cl (by rw [hcz]; kernel_rfl) (by rw [hcz]; exact sumZ_size) hoc]
  obtain ⟨W1, hW1⟩ : ∃ W1, w.alloc (.cells cl 294) = W1 := ⟨_, rfl⟩
  have hy : W1.rowIs w.heap.size 294 70 (stCell st) := by rw [← hW1, ← hcl]; exact rowIs_fn _ _ _
  have hb1 : Below w.heap.size w W1 := by rw [← hW1]; exact (Below.refl _ w).alloc (Nat.le_refl _) _
  have c1 : W1.cell? ⟨x, 69, none⟩ = some (.int .i64 (st.n : Int)) := by rw [hb1.cell HX.out.lt]; exact c
  rw [hW1]
  obtain ⟨y, hyy⟩ : ∃ y, w.heap.size = y := ⟨_, rfl⟩
  have HW := Lib.hid hW1; have HY := Lib.hid hy; have HB := Lib.hid hb1
  rw [hyy] at HY HB ⊢
  clear hcl hoc hcz hW1 hy hb1 c z zs
  have cv : ((st.n : Int) * 8) % 18446744073709551616 = ((st.n * 8 : Nat) : Int) := by omega
  go_wp2_with (go_at_call 194; refine (write_any y ⟨#[128]⟩ st _ hm (by show st.n + 1 ≤ _; omega) HY.out).mono ?_)
  rintro e w2 rfl hr2 hg2
  obtain ⟨st1, hst1⟩ : ∃ st1, feed st [128] = st1 := ⟨_, rfl⟩
  have hm1 : st1.m.length = 64 := by rw [← hst1, feed_m]; exact hm
  have hn1 : st1.n = st.n + 1 := by rw [← hst1, feed_n]; rfl
  have hr2' : w2.rowIs y 294 70 (stCell st1) := by rw [← hst1]; exact hr2
  have hb2 : Below y w w2 := HB.out.grown hg2 (by have := HY.out.lt; omega) (fun k hk => by cases hk; exact Nat.le_refl _)
  have HR2 := Lib.hid hr2'; have HB2 := Lib.hid hb2; have HST := Lib.hid (And.intro hst1 (And.intro hm1 hn1)); have HN := Lib.hid (And.intro hn hm)
  clear hr2 hr2' hg2 hb2 hst1 hm1 hn1 hn hm
  go_wp2
  go_loopw [] (fun wq => ∃ (k : Nat), k ≤ zc st1.n ∧ wq.rowIs y 294 70 (stCell (feed st1 (List.replicate k 0))) ∧ Below y w wq)
    (fun wq => match wq.cell? ⟨y, 69, none⟩ with | some (.int _ n) => zc n.toNat | _ => 0)
  case atStart => exact ⟨0, Nat.zero_le _, HR2.out, HB2.out⟩
  case round =>
    obtain ⟨k, hk, hr3, hb3⟩ := hrel
    obtain ⟨st2, hst2⟩ : ∃ st2, feed st1 (List.replicate k 0) = st2 := ⟨_, rfl⟩
    rw [hst2] at hr3
    have hn2 : st2.n = st1.n + k := by rw [← hst2, feed_n, List.length_replicate]
    have hm2 : st2.m.length = 64 := by rw [← hst2, feed_m]; exact HST.out.2.1
    obtain ⟨N, hN⟩ : ∃ N, st2.n = N := ⟨_, rfl⟩
    obtain ⟨q, hq⟩ : ∃ q, N % 64 = q := ⟨_, rfl⟩
    have c3 := sum_size hr3
    rw [hN] at c3
    have hrm : (N : Int).tmod 64 = (q : Int) := by rw [Int.tmod_eq_emod_of_nonneg (by omega)]; omega
    have hz64 : zc st1.n < 64 := zc_lt _
    by_cases hq0 : q = 56
    · have hq0' : ((q : Int) == 56) = true := by simp [hq0]
      have hkz : k = zc st1.n := zc_hit st1.n k hk (by omega)
      have z8 := zero8
      have HR3 := Lib.hid hr3; have HB3 := Lib.hid hb3; have HS2 := Lib.hid (And.intro hst2 (And.intro hkz hm2))
      have HN2 := Lib.hid hn2
      obtain ⟨L, hL⟩ : ∃ L, wr.heap.size = L := ⟨_, rfl⟩
      have hyL : y < L := by have := hr3.lt; omega
      have hwL : w.heap.size ≤ L := by have := hb3.size; omega
      have ha8 := alloc8 wr
      rw [hL] at ha8
      have HA8 := Lib.hid ha8
      clear hr3 hb3 hst2 hkz hm2 hN hq hz64 hk hq0 HR2 HB2 hn2 ha8
      go_wp2
      go_loopw [25] (fun i wq => ∃ (j : Nat), i = .int .i64 j ∧ j ≤ 8 ∧ wq.rowIs L 223 8 (bcell (lenL (st.n * 8) j)) ∧ wq.rowIs y 294 70 (stCell st2) ∧ Below y w wq)
        (fun i _ => 8 - (intOf i).toNat)
      case atStart => exact ⟨0, rfl, Nat.zero_le _, HA8.out, HR3.out.alloc _, HB3.out.alloc (by omega) _⟩
      case round =>
        obtain ⟨j, rfl, hj, hr5, hs5, hb5⟩ := hrel
        by_cases hlj : j < 8
        · have cf := hr5.frozen j
          have ci := hr5.cell hlj
          have HR5 := Lib.hid hr5; have HS5 := Lib.hid hs5; have HB5 := Lib.hid hb5
          clear hr5 hs5 hb5
          go_wp2
          go_roundw
          case rel =>
            rw [lenB_int]
            refine ⟨j + 1, by go_num, by omega, ?_, HS5.out.setOther (by show y ≠ L; omega) _, HB5.out.setCell (by show y ≤ L; omega) _⟩
            have hset := HR5.out.set j (.int .u8 ((lenB (st.n * 8) j).toNat : Int))
            rw [bcell_snoc _ _ (lenL_len (st.n * 8) j)] at hset
            exact hset
          case measure => simp [intOf]; omega
        · obtain rfl : j = 8 := by omega
          have hcv := run_str_cells wr 81 5 Tryz.underlying81 Tryz.underlying5 L 0 8 8 (lenL (st.n * 8) 8) (lenL_len _ _) (fun i hi => by
            rw [Nat.zero_add, hr5.cell (by rw [lenL_len] at hi; exact hi)]
            unfold bcell
            simp [List.getD, hi]) 9 Tryz.underlying9
          have HR5 := Lib.hid hr5; have HS5 := Lib.hid hs5; have HB5 := Lib.hid hb5
          clear hr5 hs5 hb5
          go_wp2_with (go_at_call 194; refine (write_any y ⟨(lenL (st.n * 8) 8).toArray⟩ st2 _ HS2.out.2.2 (by show st2.n + (lenL (st.n * 8) 8).toArray.size ≤ _; rw [List.size_toArray, lenL_len]; have := HN2.out; have := HST.out.2.2; have := HN.out.1; have := zc_lt st1.n; have := HS2.out.2.1; omega) HS5.out).mono ?_)
          rintro e w6 rfl hr6 hg6
          obtain ⟨i0, hi, hz0, hz1, hz2⟩ := info_parts infoByte
          obtain ⟨st3, hst3⟩ : ∃ st3, feed st2 (lenL (st.n * 8) 8) = st3 := ⟨_, rfl⟩
          have hr6' : w6.rowIs y 294 70 (stCell st3) := by rw [← hst3]; exact hr6
          have g0 := sum_word hr6' 0 (by decide)
          have g1 := sum_word hr6' 1 (by decide)
          have g2 := sum_word hr6' 2 (by decide)
          have g3 := sum_word hr6' 3 (by decide)
          have g4 := sum_word hr6' 4 (by decide)
          have hb6 : Below y w w6 := HB5.out.grown hg6 (by have := HS5.out.lt; omega) (fun k hk => by cases hk; exact Nat.le_refl _)
          have hfin : st3 = feed st (tailL st.n) := by
            have e := HST.out.2.2
            rw [← hst3, ← HS2.out.1, HS2.out.2.1, e, ← HST.out.1, tailL, feed_append, feed_append]
          have hsz6 : y < w6.heap.size := hr6'.lt
          have HS3 := Lib.hid hst3; have HF := Lib.hid hfin; have HB6 := Lib.hid hb6
          clear hr6 hr6' hg6 hst3 hfin hb6 hcv
          go_wp2
          go_loopw [42, 7] (fun i v wq => ∃ (j : Nat), i = .int .i64 j ∧ j ≤ 5 ∧ wq.ownsRow y 5 1 v (4 * j) (Lib.byteCells (outN st3.h j)) ∧ Below y w wq ∧ y ≤ wq.heap.size)
            (fun i _ _ => 5 - (intOf i).toNat)
          case atStart => exact ⟨0, rfl, Nat.zero_le _, World.ownsRow_nil _ _ _ _, HB6.out, by omega⟩
          case round =>
            obtain ⟨j, rfl, hj6, hown, hb7, hy7⟩ := hrel
            by_cases hlj6 : j < 5
            · have hix := idx5 st3.h j hlj6
              obtain ⟨v, hv⟩ : ∃ v, st3.h.at j = v := ⟨_, rfl⟩
              rw [hv] at hix
              have o1 := ob_int v 16777216
              have o2 := ob_int v 65536
              have o3 := ob_int v 256
              have o4 := ob_int v 1
              have HV := Lib.hid hv; have HO := Lib.hid (And.intro o1 (And.intro o2 (And.intro o3 o4)))
              clear hv o1 o2 o3 o4
              have k2 : (4 * j + 4) * 1 ≤ 140737488355328 := by omega
              go_wp2_with (at_builtin; refine wpList_append_own _ rfl (.tmp 45) (.tmp 57) 81 rfl y 5 i0 (.int .u8 0) 1 1 Tryz.underlying81 hi hz0 hz1 hz2 rfl (by decide) _ _ _ rfl (hown.alloc _) ⟨wr.heap.size, 0, none⟩ 4 4 [.int .u8 (v / 16777216 % 256), .int .u8 (v / 65536 % 256), .int .u8 (v / 256 % 256), .int .u8 (v % 256)] rfl rfl (cells_new _ _ _) (by simp [Value.oneCell']) ?d0 ?e0 ?f0 ?_)
              case d0 => unfold maxLen; omega
              case e0 => omega
              case f0 => simp; omega
              intro v1 w7 hI1 hg7 _
              have hb8 := (hb7.alloc hy7 _).grown hg7 (by simp; omega) (fun j hj => (hown.lt j hj).1)
              have hy8 : y ≤ w7.heap.size := by have := hg7.size; simp at this; omega
              rw [bytes4 v HO.out, ← Lib.byteCells_append] at hI1
              have HI1 := Lib.hid hI1; have HB8 := Lib.hid hb8
              clear hI1 hb8 hg7 hown hb7
              go_wp2
              go_roundw
              case rel =>
                refine ⟨j + 1, by go_num, by omega, ?_, HB8.out, hy8⟩
                rw [show 4 * (j + 1) = 4 * j + 4 from by omega, outN, HV.out]
                exact HI1.out
              case measure => simp [intOf]; omega
            · obtain rfl : j = 5 := by omega
              have hcv := run_str_own wr 81 5 Tryz.underlying81 Tryz.underlying5 hown 9 Tryz.underlying9
              go_wp2
              go_ret
              refine ⟨?_, by rw [hyy]; exact hb7⟩
              rw [← HF.out]
              rfl
    · have hq0' : ((q : Int) == 56) = false := by simp; omega
      have hkl : k < zc st1.n := by
        rcases Nat.lt_or_ge k (zc st1.n) with h | h
        · exact h
        · exfalso; have : k = zc st1.n := by omega
          unfold zc at this; omega
      have HR3 := Lib.hid hr3; have HS2 := Lib.hid (And.intro hst2 (And.intro hn2 (And.intro hm2 (And.intro hN hq)))); have HK := Lib.hid (And.intro hkl hz64)
      clear hr3 hst2 hn2 hm2 hN hq hkl hz64 hk hq0
      go_wp2_with (go_at_call 194; refine (write_any y ⟨#[0]⟩ st2 _ HS2.out.2.2.1 (by show st2.n + 1 ≤ _; have := HS2.out.2.1; have := HST.out.2.2; have := HN.out.1; have := HK.out; omega) HR3.out).mono ?_)
      rintro e w4 rfl hr4 hg4
      go_wp2
      go_roundw
      case rel =>
        refine ⟨k + 1, HK.out.1, ?_, hb3.grown hg4 (by have := HR3.out.lt; omega) (fun k hk => by cases hk; exact Nat.le_refl _)⟩
        rw [List.replicate_succ', feed_append, HS2.out.1]
        exact hr4
      case measure =>
        have e4 := sum_size hr4
        rw [feed_n, HS2.out.2.2.2.1] at e4
        rw [e4, c3]
        exact zc_next N (by rw [HS2.out.2.2.2.2]; intro e; rw [e] at hq0'; simp at hq0')
end Go.Proofs.YtdlpbpikhmciaaaGreatDoor
namespace Go.Proofs.YtdlpbpikhmciaaaGreatDoor
open Go.RowKit
set_option linter.unusedSimpArgs false
set_option linter.unusedVariables false
theorem feed_blocks (ml : List UInt8) (Q : Nat) (hl : ml.length = 64 * Q) (b : Nat) (hb : b ≤ Q) :
    (feed st0 (ml.take (64 * b))).h = hashN ml b ∧ (feed st0 (ml.take (64 * b))).m.length = 64 ∧ (feed st0 (ml.take (64 * b))).n = 64 * b := by
  induction b with
  | zero => exact ⟨rfl, rfl, rfl⟩
  | succ b ih =>
    obtain ⟨h1, h2, h3⟩ := ih (by omega)
    have e : ml.take (64 * (b + 1)) = ml.take (64 * b) ++ blk ml b := by
      rw [show 64 * (b + 1) = 64 * b + 64 from by omega, List.take_add]
      rfl
    have hbl : (blk ml b).length = 64 := by unfold blk; rw [List.length_take, List.length_drop]; omega
    rw [e, feed_append, feed_chunk _ _ h2 (by intro h; rw [h] at hbl; cases hbl) (by rw [h3, hbl]; omega), h3, hbl, h1]
    have hlay : lay (feed st0 (ml.take (64 * b))).m (64 * b % 64) (blk ml b) = blk ml b := by
      unfold lay
      rw [show 64 * b % 64 = 0 from by omega, hbl, List.drop_eq_nil_of_le (by omega)]
      simp
    rw [hlay, if_pos (by omega)]
    exact ⟨rfl, hbl, by show 64 * b + 64 = _; omega⟩
theorem tailL_len (n : Nat) : (n + (tailL n).length) % 64 = 0 := by
  unfold tailL
  simp only [List.length_append, List.length_replicate, lenL_len, List.length_cons, List.length_nil]
  unfold zc
  omega
theorem sha_eq (l : List UInt8) : outF (feed (feed st0 l) (tailL l.length)).h = shaR l := by
  have hl : (l ++ tailL l.length).length = 64 * ((l ++ tailL l.length).length / 64) := by
    have := tailL_len l.length
    rw [List.length_append]
    omega
  have := (feed_blocks (l ++ tailL l.length) _ hl _ (Nat.le_refl _)).1
  rw [← hl, List.take_of_length_le (Nat.le_refl _)] at this
  rw [← feed_append, this]
  rfl
theorem feed_st0_m (l : List UInt8) : (feed st0 l).m.length = 64 := by rw [feed_m]; rfl
theorem feed_st0_n (l : List UInt8) : (feed st0 l).n = l.length := by rw [feed_n]; exact Nat.zero_add _
/-- Asked: the sum of all that it was given. -/
theorem done_sha (x : Nat) (l : List UInt8) (w : World) (hl : l.length ≤ 1152921504606846976) (hx : w.rowIs x 294 70 (stCell (feed st0 l))) :
    Calls Tryz.prog 195 #[.pointer (some ⟨x, 0, none⟩)] w fun e w' => e = .returned (.string ⟨(shaR l).toArray⟩) ∧ Below w.heap.size w w' := by
  have := done_any x (feed st0 l) w (feed_st0_m l) (by rw [feed_st0_n]; exact hl) hx
  rw [feed_st0_n, sha_eq] at this
  exact this
theorem le_60 (n : Nat) (h : n ≤ 1099511627776) : n ≤ 1152921504606846976 := by omega
theorem le_62 (a n : Nat) (ha : a = 0) (h : n ≤ 1099511627776) : a + n ≤ 4611686018427387904 := by omega
set_option maxRecDepth 1000000 in
set_option maxHeartbeats 4000000 in
theorem sha_any (s : ByteArray) (w : World) (hs : s.size ≤ 1099511627776) :
    Calls Tryz.prog 151 #[.string s] w fun e w' => e = .returned (.string ⟨(shaR s.data.toList).toArray⟩) ∧ Below w.heap.size w w' := by
  have h60 := le_60 s.data.toList.length (by rw [size_list]; exact hs)
  have h62 := le_62 st0.n s.size rfl hs
  go_enter Tryz.func151, Tryz.ntmps151
  go_wp2_with (go_at_call 193; refine (new_any _).mono ?_)
  rintro e w1 ⟨rfl, hr1, hb1⟩
  go_wp2_with (go_at_call 194; refine (write_any w.heap.size s st0 _ rfl h62 hr1).mono ?_)
  rintro e w2 ⟨rfl, hr2, hg2⟩
  have hb2 : Below w.heap.size w w2 := hb1.grown hg2 hb1.size (fun k hk => by cases hk; exact Nat.le_refl _)
  go_wp2_with (go_at_call 195; refine (done_sha w.heap.size s.data.toList _ h60 hr2).mono ?_)
  rintro e w3 ⟨rfl, hb3⟩
  go_wp2
  go_ret
  exact ⟨rfl, hb2.trans (hb3.mono hb2.size)⟩
end Go.Proofs.YtdlpbpikhmciaaaGreatDoor
namespace Go.Proofs.YtdlpbpikhmciaaaGreatDoor
open Go.RowKit
set_option linter.unusedSimpArgs false
set_option linter.unusedVariables false
set_option maxRecDepth 100000 in
set_option maxHeartbeats 2000000 in
theorem encode_any (s : ByteArray) (w : World) (hs : s.size ≤ 4194304) :
    Calls Tryz.prog 150 #[.string s] w fun e w' => e = .returned (.string ⟨(enc s.data.toList).toArray⟩) ∧ Below w.heap.size w w' := by
  go_enter Tryz.func150, Tryz.ntmps150
  go_wp2
  go_loopw [0] (fun t wr => ∃ (s1 : ByteArray) (acc : List UInt8), t = .string s1 ∧ s1.size ≤ s.size ∧ acc.length + 4 * s1.size ≤ 4 * s.size ∧ acc ++ enc s1.data.toList = enc s.data.toList ∧ Lib.IsBuilder 83 5 w.heap.size w.heap.size (Lib.byteCells acc) wr ∧ Below w.heap.size w wr)
    (fun t _ => match t with | .string s1 => s1.size | _ => 0)
  case atStart => exact ⟨s, [], rfl, Nat.le_refl _, by simp, rfl, Lib.fresh_isBuilder _ _ w, (Below.refl _ w).alloc (Nat.le_refl _) _⟩
  case round =>
    obtain ⟨t, acc, rfl, hsz, hal, hacc, hI, hbw⟩ := hrel
    have HA := Lib.hid hacc; clear hacc
    have hn : t.size = 0 ∨ t.size = 1 ∨ t.size = 2 ∨ 3 ≤ t.size := by omega
    rcases hn with hn | hn | hn | hn
    · have hem := empty_of t hn
      have hl := list_nil_of t hn
      have HL := Lib.hid hl; clear hl hn
      go_wp2_with (go_at_call 35; refine (Tryz.Builder_String_any _ _ acc _ hI (by have := hbw.size; omega)).mono ?_)
      rintro e w1 ⟨rfl, hb1⟩
      go_wp2
      go_ret
      refine ⟨?_, hbw.trans hb1⟩
      rw [← HA.out, HL.out]; simp [enc]
    · have hne := nonempty_of t (by omega)
      have h0 : (0 : Int) < t.size := by omega
      have h1 : ¬ (1 : Int) < t.size := by omega
      have h2 : ¬ (2 : Int) < t.size := by omega
      have hz : (t.size : Int) = 1 := by omega
      have HZ := Lib.hid hz; clear hz
      have k0 : ¬ (t.size : Int) < 0 := by omega
      have k1 : ¬ (t.size : Int) < 1 := by omega
      have k2 : (t.size : Int) < 2 := by omega
      have k3 : (t.size : Int) < 3 := by omega
      have hm : (min 3 (t.size : Int)).toNat = 1 := by omega
      have henc := enc_1 t (by omega)
      have p0 : 0 < t.size := by omega
      obtain ⟨a, ea⟩ : ∃ n : Nat, (t[0]'p0).toNat = n := ⟨_, rfl⟩
      have wa := w64_byte' _ _ ea
      have la := byte_lt' _ _ ea
      rw [ea] at henc
      clear ea
      have HE := Lib.hid henc; clear henc
      have o0 := e_o0 a la
      have o2 := e_p1 a
      have lg := grp_lt a 0 0 la (by omega) (by omega)
      have s0 := e_s0 _ lg
      have s1 : bits .and .i64 ((grp a 0 0 : Int) / 4096) 63 = ((grp a 0 0 / 4096 % 64 : Nat) : Int) := e_s _ 4096 lg
      have s2 : bits .and .i64 ((grp a 0 0 : Int) / 64) 63 = ((grp a 0 0 / 64 % 64 : Nat) : Int) := e_s _ 64 lg
      have s3 := e_s3 _ lg
      have HN := Lib.hid hn; clear hn
      go_wp2
      refine wp_loop_rounds 4 ?_
      rw [rounds_succ]; go_wp2
      rw [rounds_succ]; go_wp2
      rw [rounds_succ]; go_wp2
      rw [rounds_succ]; go_wp2
      refine wp_loop_rounds 5 ?_
      rw [rounds_succ]; go_wp2_with fail
      refine (writeByte_u8 _ _ _ _ _ hI (by simp; omega) (by have := hbw.size; omega)).mono ?_
      rintro e w1 ⟨rfl, hI1, hb1⟩
      rw [sgb] at hI1
      go_wp2
      rw [rounds_succ]; go_wp2_with fail
      refine (writeByte_u8 _ _ _ _ _ hI1 (by simp; omega) (by have := hbw.size; have := hb1.size; omega)).mono ?_
      rintro e w2 ⟨rfl, hI2, hb2⟩
      rw [sgb] at hI2
      go_wp2
      rw [rounds_succ]; go_wp2_with fail
      refine (writeByte_61 _ _ _ _ hI2 (by simp; omega) (by have := hbw.size; have := hb1.size; have := hb2.size; omega)).mono ?_
      rintro e w3 ⟨rfl, hI3, hb3⟩
      go_wp2
      rw [rounds_succ]; go_wp2_with fail
      refine (writeByte_61 _ _ _ _ hI3 (by simp; omega) (by have := hbw.size; have := hb1.size; have := hb2.size; have := hb3.size; omega)).mono ?_
      rintro e w4 ⟨rfl, hI4, hb4⟩
      go_wp2
      rw [rounds_succ]; go_wp2
      go_roundw
      case rel => have hn := HN.out; exact ⟨t.extract 1 t.size, acc ++ [sg (grp a 0 0 / 262144), sg (grp a 0 0 / 4096 % 64), 61, 61], (by first | rfl | rw [hm]), by rw [extB_size]; omega, by rw [extB_size]; simp; omega, by rw [← HA.out, HE.out, extB_list]; simp [enc, list_drop_all t 1 (by omega)], by simpa using hI4, (((hbw.trans hb1).trans hb2).trans hb3).trans hb4⟩
      case measure => have hn := HN.out; first | (simp [extB_size]; omega) | (simp [hm, extB_size]; omega)
    · have hne := nonempty_of t (by omega)
      have h0 : (0 : Int) < t.size := by omega
      have h1 : (1 : Int) < t.size := by omega
      have h2 : ¬ (2 : Int) < t.size := by omega
      have hz : (t.size : Int) = 2 := by omega
      have HZ := Lib.hid hz; clear hz
      have k0 : ¬ (t.size : Int) < 0 := by omega
      have k1 : ¬ (t.size : Int) < 1 := by omega
      have k2 : ¬ (t.size : Int) < 2 := by omega
      have k3 : (t.size : Int) < 3 := by omega
      have hm : (min 3 (t.size : Int)).toNat = 2 := by omega
      have henc := enc_2 t (by omega)
      have p0 : 0 < t.size := by omega
      obtain ⟨a, ea⟩ : ∃ n : Nat, (t[0]'p0).toNat = n := ⟨_, rfl⟩
      have wa := w64_byte' _ _ ea
      have la := byte_lt' _ _ ea
      have p1 : 1 < t.size := by omega
      obtain ⟨b, eb⟩ : ∃ n : Nat, (t[1]'p1).toNat = n := ⟨_, rfl⟩
      have wb := w64_byte' _ _ eb
      have lb := byte_lt' _ _ eb
      rw [ea, eb] at henc
      clear ea eb
      have HE := Lib.hid henc; clear henc
      have o0 := e_o0 a la
      have o1 := e_o1 a b la lb
      have o2 := e_p2 a b
      have lg := grp_lt a b 0 la lb (by omega)
      have s0 := e_s0 _ lg
      have s1 : bits .and .i64 ((grp a b 0 : Int) / 4096) 63 = ((grp a b 0 / 4096 % 64 : Nat) : Int) := e_s _ 4096 lg
      have s2 : bits .and .i64 ((grp a b 0 : Int) / 64) 63 = ((grp a b 0 / 64 % 64 : Nat) : Int) := e_s _ 64 lg
      have s3 := e_s3 _ lg
      have HN := Lib.hid hn; clear hn
      go_wp2
      refine wp_loop_rounds 4 ?_
      rw [rounds_succ]; go_wp2
      rw [rounds_succ]; go_wp2
      rw [rounds_succ]; go_wp2
      rw [rounds_succ]; go_wp2
      refine wp_loop_rounds 5 ?_
      rw [rounds_succ]; go_wp2_with fail
      refine (writeByte_u8 _ _ _ _ _ hI (by simp; omega) (by have := hbw.size; omega)).mono ?_
      rintro e w1 ⟨rfl, hI1, hb1⟩
      rw [sgb] at hI1
      go_wp2
      rw [rounds_succ]; go_wp2_with fail
      refine (writeByte_u8 _ _ _ _ _ hI1 (by simp; omega) (by have := hbw.size; have := hb1.size; omega)).mono ?_
      rintro e w2 ⟨rfl, hI2, hb2⟩
      rw [sgb] at hI2
      go_wp2
      rw [rounds_succ]; go_wp2_with fail
      refine (writeByte_u8 _ _ _ _ _ hI2 (by simp; omega) (by have := hbw.size; have := hb1.size; have := hb2.size; omega)).mono ?_
      rintro e w3 ⟨rfl, hI3, hb3⟩
      rw [sgb] at hI3
      go_wp2
      rw [rounds_succ]; go_wp2_with fail
      refine (writeByte_61 _ _ _ _ hI3 (by simp; omega) (by have := hbw.size; have := hb1.size; have := hb2.size; have := hb3.size; omega)).mono ?_
      rintro e w4 ⟨rfl, hI4, hb4⟩
      go_wp2
      rw [rounds_succ]; go_wp2
      go_roundw
      case rel => have hn := HN.out; exact ⟨t.extract 2 t.size, acc ++ [sg (grp a b 0 / 262144), sg (grp a b 0 / 4096 % 64), sg (grp a b 0 / 64 % 64), 61], (by first | rfl | rw [hm]), by rw [extB_size]; omega, by rw [extB_size]; simp; omega, by rw [← HA.out, HE.out, extB_list]; simp [enc, list_drop_all t 2 (by omega)], by simpa using hI4, (((hbw.trans hb1).trans hb2).trans hb3).trans hb4⟩
      case measure => have hn := HN.out; first | (simp [extB_size]; omega) | (simp [hm, extB_size]; omega)
    · have hne := nonempty_of t (by omega)
      have h0 : (0 : Int) < t.size := by omega
      have h1 : (1 : Int) < t.size := by omega
      have h2 : (2 : Int) < t.size := by omega
      have k0 : ¬ (t.size : Int) < 0 := by omega
      have k1 : ¬ (t.size : Int) < 1 := by omega
      have k2 : ¬ (t.size : Int) < 2 := by omega
      have k3 : ¬ (t.size : Int) < 3 := by omega
      have hm : (min 3 (t.size : Int)).toNat = 3 := by omega
      have henc := enc_3 t (by omega)
      have p0 : 0 < t.size := by omega
      obtain ⟨a, ea⟩ : ∃ n : Nat, (t[0]'p0).toNat = n := ⟨_, rfl⟩
      have wa := w64_byte' _ _ ea
      have la := byte_lt' _ _ ea
      have p1 : 1 < t.size := by omega
      obtain ⟨b, eb⟩ : ∃ n : Nat, (t[1]'p1).toNat = n := ⟨_, rfl⟩
      have wb := w64_byte' _ _ eb
      have lb := byte_lt' _ _ eb
      have p2 : 2 < t.size := by omega
      obtain ⟨c, ec⟩ : ∃ n : Nat, (t[2]'p2).toNat = n := ⟨_, rfl⟩
      have wc := w64_byte' _ _ ec
      have lc := byte_lt' _ _ ec
      rw [ea, eb, ec] at henc
      clear ea eb ec
      have HE := Lib.hid henc; clear henc
      have o0 := e_o0 a la
      have o1 := e_o1 a b la lb
      have o2 := e_o2 a b c la lb lc
      have lg := grp_lt a b c la lb lc
      have s0 := e_s0 _ lg
      have s1 : bits .and .i64 ((grp a b c : Int) / 4096) 63 = ((grp a b c / 4096 % 64 : Nat) : Int) := e_s _ 4096 lg
      have s2 : bits .and .i64 ((grp a b c : Int) / 64) 63 = ((grp a b c / 64 % 64 : Nat) : Int) := e_s _ 64 lg
      have s3 := e_s3 _ lg
      have HN := Lib.hid hn; clear hn
      go_wp2
      refine wp_loop_rounds 4 ?_
      rw [rounds_succ]; go_wp2
      rw [rounds_succ]; go_wp2
      rw [rounds_succ]; go_wp2
      rw [rounds_succ]; go_wp2
      refine wp_loop_rounds 5 ?_
      rw [rounds_succ]; go_wp2_with fail
      refine (writeByte_u8 _ _ _ _ _ hI (by simp; omega) (by have := hbw.size; omega)).mono ?_
      rintro e w1 ⟨rfl, hI1, hb1⟩
      rw [sgb] at hI1
      go_wp2
      rw [rounds_succ]; go_wp2_with fail
      refine (writeByte_u8 _ _ _ _ _ hI1 (by simp; omega) (by have := hbw.size; have := hb1.size; omega)).mono ?_
      rintro e w2 ⟨rfl, hI2, hb2⟩
      rw [sgb] at hI2
      go_wp2
      rw [rounds_succ]; go_wp2_with fail
      refine (writeByte_u8 _ _ _ _ _ hI2 (by simp; omega) (by have := hbw.size; have := hb1.size; have := hb2.size; omega)).mono ?_
      rintro e w3 ⟨rfl, hI3, hb3⟩
      rw [sgb] at hI3
      go_wp2
      rw [rounds_succ]; go_wp2_with fail
      refine (writeByte_u8 _ _ _ _ _ hI3 (by simp; omega) (by have := hbw.size; have := hb1.size; have := hb2.size; have := hb3.size; omega)).mono ?_
      rintro e w4 ⟨rfl, hI4, hb4⟩
      rw [sgb] at hI4
      go_wp2
      rw [rounds_succ]; go_wp2
      go_roundw
      case rel => have hn := HN.out; exact ⟨t.extract 3 t.size, acc ++ [sg (grp a b c / 262144), sg (grp a b c / 4096 % 64), sg (grp a b c / 64 % 64), sg (grp a b c % 64)], (by first | rfl | rw [hm]), by rw [extB_size]; omega, by rw [extB_size]; simp; omega, by rw [← HA.out, HE.out, extB_list]; simp, by simpa using hI4, (((hbw.trans hb1).trans hb2).trans hb3).trans hb4⟩
      case measure => have hn := HN.out; first | (simp [extB_size]; omega) | (simp [hm, extB_size]; omega)
end Go.Proofs.YtdlpbpikhmciaaaGreatDoor
